/- What is known of slices.Sorted at what maps.Keys hands back: a map's keys, in order. -/
import Derived.Test.YtgambdjpncpdaaaGreatDoorEvRun
import Derived.Below
import Derived.Maps.Own
import Derived.Maps.Range
import Derived.Sort.KeysCollected
import Derived.Lib.SlKeysI
namespace Go.AE
open Go.Proofs (encStr)
open Go.RowKit

section
noncomputable section
def strKs : List MapEntry → Option (List (List UInt8))
  | [] => some []
  | e :: l => match e.key with
    | .string s => match Nat.ble (txt s).length 1000000, strKs l with
      | true, some r => some (txt s :: r)
      | _, _ => none
    | _ => none
def intKs : List MapEntry → Option (List Int)
  | [] => some []
  | e :: l => match e.key with
    | .int .i64 (.ofNat n) => match Nat.ble n 9223372036854775807, intKs l with
      | true, some r => some (.ofNat n :: r)
      | _, _ => none
    | _ => none
def bornIn (b : Nat) : List MapEntry → Bool
  | [] => false
  | e :: l => match Nat.beq e.born b with
    | true => true
    | false => bornIn b l
/-- the entries' stamps are below the clock, and apart -/
def stamped (clock : Nat) : List MapEntry → Bool
  | [] => true
  | e :: l => match Nat.blt e.born clock && !bornIn e.born l with
    | true => stamped clock l
    | false => false
def inL {α : Type} (eq : α → α → Bool) (x : α) : List α → Bool
  | [] => false
  | y :: l => match eq x y with
    | true => true
    | false => inL eq x l
def apart {α : Type} (eq : α → α → Bool) : List α → Bool
  | [] => true
  | x :: l => match inL eq x l with
    | true => false
    | false => apart eq l
def insBy {α : Type} (lt : α → α → Bool) (x : α) : List α → List α
  | [] => [x]
  | y :: l => match lt y x with
    | true => y :: insBy lt x l
    | false => x :: y :: l
def sortBy {α : Type} (lt : α → α → Bool) : List α → List α
  | [] => []
  | x :: l => insBy lt x (sortBy lt l)
def mapL {α : Type} (f : α → Value) : List α → List Value
  | [] => []
  | x :: l => f x :: mapL f l
def resK (ety : TypeId) (h : Mem) (l : List Value) : Option Fin := match l with
  | [] => some (.en (.returned (.slice none 0 0)) none h)
  | _ :: _ => frN l.length fun n => frN h.next fun b => some (.en (.returned (.slice (some ⟨b, 0, none⟩) n n)) none (h.alloc (.cells ety (n * 1) (PM.ofList l))))
def keysG {α : Type} (eq lt : α → α → Bool) (enc : α → Value) (ety : TypeId) (h : Mem) (es : List MapEntry) (clock : Nat) : Option (List α) → Option Fin
  | some ks => match apart eq ks && stamped clock es && Nat.ble es.length 1000000 with
    | true => resK ety h (mapL enc (sortBy lt ks))
    | false => none
  | none => none
def isMapD : Option TypeDesc → Bool
  | some (.map _ _) => true
  | _ => false
def mapAt (T : Tab) (a : Addr) : Option Ob → Option (Option Nat)
  | some (.cells mt _ c) => match atStart a && isMapD (T.und mt), c.get 0 with
    | true, some (.map r) => some r
    | _, _ => none
  | _ => none
def keysM (go : List MapEntry → Nat → Option Fin) : Option Ob → Option Fin
  | some (.map es clock) => go es clock
  | _ => none
def keysR (h : Mem) (go : List MapEntry → Nat → Option Fin) : Option (Option Nat) → Option Fin
  | some none => some (.en (.returned (.slice none 0 0)) none h)
  | some (some r) => keysM go (h.bs.get r)
  | none => none
def keysF (T : Tab) (KF : List Nat) (go : Mem → List MapEntry → Nat → Option Fin) : ConF := fun args h => match args with
  | [.func (.func k) first captured] => match hasN k KF, first.toList, captured.toList with
    | true, [], [.pointer (some a)] => keysR h (go h) (mapAt T a (h.bs.get a.block))
    | _, _, _ => none
  | _ => none
def strC (T : Tab) (KF : List Nat) (ety : TypeId) : ConF := keysF T KF fun h es clock => keysG beqL ltL ofTxt ety h es clock (strKs es)
def intC (T : Tab) (KF : List Nat) (ety : TypeId) : ConF := keysF T KF fun h es clock => keysG intEq intLt (fun n => .int .i64 n) ety h es clock (intKs es)
end
end

/- plain facts on lists -/
section
variable {α : Type} {eq lt le : α → α → Bool}
theorem inL_mem (heq : ∀ a b, eq a b = true ↔ a = b) (x : α) : ∀ (l : List α), inL eq x l = true ↔ x ∈ l
  | [] => by simp [inL]
  | y :: l => by
    unfold inL
    cases h : eq x y with
    | true => have := (heq x y).1 h; subst this; simp
    | false =>
      have hne : x ≠ y := fun e => by rw [(heq x y).2 e] at h; cases h
      simp [inL_mem heq x l, hne]
theorem apart_nodup (heq : ∀ a b, eq a b = true ↔ a = b) : ∀ (l : List α), apart eq l = true → l.Nodup
  | [], _ => List.nodup_nil
  | x :: l, h => by
    unfold apart at h
    cases hb : inL eq x l with
    | true => rw [hb] at h; cases h
    | false =>
      rw [hb] at h
      refine List.nodup_cons.2 ⟨fun hm => ?_, apart_nodup heq l h⟩
      rw [(inL_mem heq x l).2 hm] at hb
      cases hb
theorem insBy_perm (x : α) : ∀ (l : List α), (insBy lt x l).Perm (x :: l)
  | [] => .refl _
  | y :: l => by
    unfold insBy
    cases lt y x with
    | true => exact ((insBy_perm x l).cons y).trans (.swap x y l)
    | false => exact .refl _
theorem sortBy_perm : ∀ (l : List α), (sortBy lt l).Perm l
  | [] => .refl _
  | x :: l => (insBy_perm x (sortBy lt l)).trans ((sortBy_perm l).cons x)
theorem insBy_sorted (h1 : ∀ a b, lt a b = true → le a b = true) (h2 : ∀ a b, lt a b = false → le b a = true) (tr : ∀ a b c, le a b = true → le b c = true → le a c = true) (x : α) :
    ∀ (l : List α), l.Pairwise (fun a b => le a b = true) → (insBy lt x l).Pairwise (fun a b => le a b = true)
  | [], _ => by simp [insBy]
  | y :: l, h => by
    obtain ⟨ha, hb⟩ := List.pairwise_cons.1 h
    unfold insBy
    cases hlt : lt y x with
    | true =>
      refine List.pairwise_cons.2 ⟨fun z hz => ?_, insBy_sorted h1 h2 tr x l hb⟩
      rcases List.mem_cons.1 ((insBy_perm x l).mem_iff.1 hz) with e | e
      · subst e; exact h1 _ _ hlt
      · exact ha z e
    | false =>
      refine List.pairwise_cons.2 ⟨fun z hz => ?_, h⟩
      rcases List.mem_cons.1 hz with e | e
      · subst e; exact h2 _ _ hlt
      · exact tr _ _ _ (h2 _ _ hlt) (ha z e)
theorem sortBy_sorted (h1 : ∀ a b, lt a b = true → le a b = true) (h2 : ∀ a b, lt a b = false → le b a = true) (tr : ∀ a b c, le a b = true → le b c = true → le a c = true) :
    ∀ (l : List α), (sortBy lt l).Pairwise (fun a b => le a b = true)
  | [] => .nil
  | x :: l => insBy_sorted h1 h2 tr x _ (sortBy_sorted h1 h2 tr l)
theorem sortBy_merge (h1 : ∀ a b, lt a b = true → le a b = true) (h2 : ∀ a b, lt a b = false → le b a = true) (tr : ∀ a b c, le a b = true → le b c = true → le a c = true)
    (anti : ∀ a b, le a b = true → le b a = true → a = b) (to : ∀ a b, (le a b || le b a) = true) {l m : List α} (hp : m.Perm l) : m.mergeSort le = sortBy lt l :=
  List.Perm.eq_of_pairwise (le := fun a b => le a b = true) (fun a b _ _ x y => anti a b x y) (List.pairwise_mergeSort tr to m) (sortBy_sorted h1 h2 tr l)
    (((List.mergeSort_perm m le).trans hp).trans (sortBy_perm l).symm)
theorem mapL_map (f : α → Value) : ∀ (l : List α), mapL f l = l.map f
  | [] => rfl
  | x :: l => by rw [mapL, mapL_map f l]; rfl
end

theorem ltL_iff : ∀ (a b : List UInt8), ltL a b = true ↔ a < b
  | [], [] => by simp [ltL]
  | _ :: _, [] => by simp [ltL]
  | [], _ :: _ => by simp [ltL]
  | a :: x, b :: y => by
    unfold ltL
    rw [List.cons_lt_cons_iff]
    cases h1 : Nat.blt a.toNat b.toNat with
    | true =>
      have : a < b := blt_lt h1
      simp [this]
    | false =>
      have h1' : ¬ a < b := fun h => by
        have h : a.toNat < b.toNat := h
        have : Nat.blt a.toNat b.toNat = true := Nat.ble_eq_true_of_le h
        rw [this] at h1; cases h1
      cases h2 : Nat.beq a.toNat b.toNat with
      | true =>
        have : a = b := UInt8.toNat_inj.1 (Nat.eq_of_beq_eq_true h2)
        subst this
        simp only [ltL_iff x y, h1', true_and, false_or]
      | false =>
        have : a ≠ b := fun e => by subst e; simp at h2
        simp [h1', this]
theorem ltL_lt (a b : List UInt8) : ltL a b = decide (a < b) := by
  rw [Bool.eq_iff_iff, ltL_iff]; simp
theorem sort_strs {l m : List (List UInt8)} (hp : m.Perm l) : m.mergeSort leB = sortBy ltL l :=
  sortBy_merge (le := leB) (fun a b h => by rw [ltL_lt] at h; simp only [leB, decide_eq_true_eq] at *; exact List.le_of_lt h)
    (fun a b h => by rw [ltL_lt] at h; simp only [leB, decide_eq_true_eq, decide_eq_false_iff_not] at *; exact List.not_lt.1 h)
    (fun a b c h1 h2 => by simp only [leB, decide_eq_true_eq] at *; exact List.le_trans h1 h2) (fun a b h1 h2 => by simp only [leB, decide_eq_true_eq] at *; exact List.le_antisymm h1 h2)
    (fun a b => by simp only [leB, Bool.or_eq_true, decide_eq_true_eq]; exact List.le_total a b) hp
theorem sort_ints {l m : List Int} (hp : m.Perm l) : m.mergeSort leI = sortBy intLt l :=
  sortBy_merge (le := leI) (fun a b h => by rw [intLt_eq] at h; simp only [leI, decide_eq_true_eq] at *; omega)
    (fun a b h => by rw [intLt_eq] at h; simp only [leI, decide_eq_true_eq, decide_eq_false_iff_not] at *; omega)
    (fun a b c h1 h2 => by simp only [leI, decide_eq_true_eq] at *; omega) (fun a b h1 h2 => by simp only [leI, decide_eq_true_eq] at *; omega)
    (fun a b => by simp only [leI, Bool.or_eq_true, decide_eq_true_eq]; omega) hp

/- memory -/
section
variable {P : Program} {T : Tab} {μ : Mu} {h : Mem} {w w' : World}
theorem FR.below (b : Below w.heap.size w w') (K : Nat → Prop) : FR K w w' := ⟨b.os, b.tape, b.output, b.size, fun k hk _ => b.block k hk⟩
theorem Post.below (hr : HR P μ h w) (b : Below w.heap.size w w') : Post P μ h w μ h w' :=
  ⟨.refl μ, fun _ e => absurd rfl e, Nat.le_refl _, hr.frame (K := fun _ => False) (.refl μ) (FR.below b _) (fun _ _ => id), FR.below b _, fun _ h => .inl h⟩
/-- A new block, of a call's own making. -/
theorem Post.grown (hr : HR P μ h w) (b : Below w.heap.size w w') (hn : μ h.next = none) (L : Loc) (ob : Ob) (hL : w.heap.size ≤ L.blk) (ho : OR P (μ.add h.next L) L ob w') :
    Post P μ h w (μ.add h.next L) (h.alloc ob) w' := by
  have p := Post.below hr b
  have hext : μ.Ext (μ.add h.next L) := Mu.add_ext L hn
  refine ⟨hext, fun id hid => ?_, ?_, ⟨fun id ob' hg => ?_, fun id id' ob1 ob2 L1 L2 hg hg' hne h1 h2 => ?_⟩, p.frame, fun B hB => ?_⟩
  · by_cases e : id = h.next
    · subst e; rw [alloc_eq]; exact ⟨Nat.le_refl _, Nat.lt_succ_self _⟩
    · exact absurd (Mu.add_other L e) hid
  · rw [alloc_eq]; exact Nat.le_succ _
  · rw [alloc_eq] at hg
    simp only [PM.set_get] at hg
    by_cases e : id = h.next
    · rw [if_pos e] at hg; cases hg; subst e; exact ⟨L, Mu.add_same _ _, ho⟩
    · rw [if_neg e] at hg
      obtain ⟨L', h1, h2⟩ := p.rel.dom id ob' hg
      exact ⟨L', hext _ _ h1, h2.mono hext rfl⟩
  · rw [alloc_eq] at hg hg'
    simp only [PM.set_get] at hg hg'
    by_cases e : id = h.next
    · have e' : id' ≠ h.next := fun x => hne (e.trans x.symm)
      rw [if_neg e'] at hg'
      subst e
      rw [Mu.add_same] at h1
      cases h1
      rw [Mu.add_other L e'] at h2
      obtain ⟨L', h3, h4⟩ := hr.dom id' ob2 hg'
      rw [h3] at h2; cases h2
      have := h4.lt; omega
    · rw [if_neg e] at hg
      rw [Mu.add_other L e] at h1
      by_cases e' : id' = h.next
      · subst e'
        rw [Mu.add_same] at h2
        cases h2
        obtain ⟨L', h3, h4⟩ := hr.dom id ob1 hg
        rw [h3] at h1; cases h1
        have := h4.lt; omega
      · rw [if_neg e'] at hg'
        rw [Mu.add_other L e'] at h2
        exact hr.inj id id' ob1 ob2 L1 L2 hg hg' hne h1 h2
  · obtain ⟨id, ob', L', hg, hl, rfl⟩ := hB
    rw [alloc_eq] at hg
    simp only [PM.set_get] at hg
    by_cases e : id = h.next
    · subst e; rw [Mu.add_same] at hl; cases hl; exact .inr hL
    · rw [if_neg e] at hg; rw [Mu.add_other L e] at hl; exact .inl (live_of hg hl)

/-- What a call of slices.Sorted comes to, at a map's keys. -/
structure Sorts (P : Program) (f : FuncId) (KF : List Nat) (kt : TypeId) (α : Type) (keys : DataW Unit → List α) (le : α → α → Bool) (enc : α → Value) : Prop where
  one : ∀ k ∈ KF, ∀ (w : World) (Bm b nn : Nat) (D0 : DataW Unit) (R : Value → Option (DataW Unit × List MemPlace)), Bm < w.heap.size → w.cell? ⟨Bm, 0, none⟩ = some (.map (some b)) →
    w.ownsMap P kt R b nn D0 → Maps.size D0 ≤ 1000000 → Calls P f #[.func (.func k) #[] #[.pointer (some ⟨Bm, 0, none⟩)]] w fun e w' => ∃ (v : Value) (ss : List α), e = .returned v ∧ ss.Perm (keys D0) ∧
      w'.ownsRow w.heap.size kt 1 v ss.length ((ss.mergeSort le).map enc) ∧ (v = .slice none 0 0 ↔ ss = []) ∧ Below w.heap.size w w'
  zero : ∀ k ∈ KF, ∀ (w : World) (Bm : Nat), Bm < w.heap.size → w.cell? ⟨Bm, 0, none⟩ = some (.map none) →
    Calls P f #[.func (.func k) #[] #[.pointer (some ⟨Bm, 0, none⟩)]] w fun e w' => ∃ (v : Value) (ss : List α), e = .returned v ∧ ss = [] ∧
      w'.ownsRow w.heap.size kt 1 v ss.length ((ss.mergeSort le).map enc) ∧ (v = .slice none 0 0 ↔ ss = []) ∧ Below w.heap.size w w'

theorem bornIn_mem (b : Nat) : ∀ (l : List MapEntry), bornIn b l = true ↔ b ∈ l.map (·.born)
  | [] => by simp [bornIn]
  | e :: l => by
    unfold bornIn
    cases h : Nat.beq e.born b with
    | true => have := Nat.eq_of_beq_eq_true h; simp [this]
    | false =>
      have hne : b ≠ e.born := fun x => by rw [x] at h; simp at h
      simp only [bornIn_mem b l, List.map_cons, List.mem_cons, hne, false_or]
theorem stamped_ok (clock : Nat) : ∀ {l l' : List MapEntry}, ER μ l l' → stamped clock l = true → (∀ x ∈ l', x.born < clock) ∧ (l'.map (·.born)).Nodup
  | [], l', he, _ => by rw [he.nil_inv]; exact ⟨fun x hx => by simp at hx, List.nodup_nil⟩
  | e :: l, l', he, h => by
    obtain ⟨e', es2, rfl, h1, h2, h3, h4⟩ := he.cons_inv
    unfold stamped at h
    cases hb : (Nat.blt e.born clock && !bornIn e.born l) with
    | false => rw [hb] at h; cases h
    | true =>
      rw [hb] at h
      simp only [Bool.and_eq_true, Bool.not_eq_true'] at hb
      obtain ⟨g1, g2⟩ := stamped_ok clock h4 h
      refine ⟨fun x hx => ?_, ?_⟩
      · rcases List.mem_cons.1 hx with q | q
        · subst q; rw [← h3]; exact blt_lt hb.1
        · exact g1 x q
      · rw [List.map_cons]
        refine List.nodup_cons.2 ⟨fun hm => ?_, g2⟩
        have hbo : es2.map (·.born) = l.map (·.born) := by
          apply List.ext_getElem?
          intro i
          rw [List.getElem?_map, List.getElem?_map]
          have hl := h4.1
          rcases Nat.lt_or_ge i l.length with q | q
          · rw [List.getElem?_eq_getElem q, List.getElem?_eq_getElem (by omega)]
            simp only [Option.map_some]
            exact congrArg Option.some (h4.2 i _ _ (List.getElem?_eq_getElem q) (List.getElem?_eq_getElem (by omega))).2.2.symm
          · rw [List.getElem?_eq_none q, List.getElem?_eq_none (by omega)]
        rw [← h3, hbo] at hm
        rw [(bornIn_mem e.born l).2 hm] at hb
        exact absurd hb.2 (by simp)

def unit_ : Value → Option (DataW Unit × List MemPlace) := fun _ => some (.lit (.bool true), [])

theorem entry_reads {kt : TypeId} {x : MapEntry} {l : Lit} (h : keyOf P kt x.key = some l) : WideElems.rd P kt unit_ x = some (l, .lit (.bool true)) := by
  simp [WideElems.rd, h, unit_]

/-- A call of slices.Sorted, from what is known of it. -/
theorem keys_ok {f : FuncId} {KF : List Nat} {kt : TypeId} {α : Type} {keys : DataW Unit → List α} {le eq lt : α → α → Bool} {enc : α → Value} {ksOf : List MapEntry → Option (List α)} (ok : TabOk P T)
    (S : Sorts P f KF kt α keys le enc) (hsz : tsize P kt = some 1)
    (heq : ∀ a b, eq a b = true ↔ a = b) (hinj : ∀ a b, enc a = enc b → a = b) (hsort : ∀ {l m : List α}, m.Perm l → m.mergeSort le = sortBy lt l)
    (hself : ∀ (μ : Mu) a, VR μ (enc a) (enc a)) (litOf : α → Lit) (hkeys : ∀ (es : List (Lit × DataW Unit)) (ks : List α), es.map (·.1) = ks.map litOf → keys (.map es) = ks)
    (hks : ∀ {μ : Mu} {es es' : List MapEntry} {ks : List α}, ER μ es es' → ksOf es = some ks → es'.map (·.key) = ks.map enc ∧ ∀ x ∈ es', ∀ a, x.key = enc a → a ∈ ks → keyOf P kt x.key = some (litOf a))
    (hperm : ∀ (l m : List (Lit × DataW Unit)), l.Perm m → (keys (.map l)).Perm (keys (.map m))) :
    ∀ args h e m' h', keysF T KF (fun h es clock => keysG eq lt enc kt h es clock (ksOf es)) args h = some (.en e m' h') → ∀ (μ : Mu) (w : World) (args' : Array Value), LR μ args args'.toList → HR P μ h w → NewFrom μ h.next →
      Calls P f args' w fun e' w' => ∃ μ', Post P μ h w μ' h' w' ∧ EndR μ' e e' := by
  intro args h e m' h' hv μ w args' ha hr hn
  unfold keysF at hv
  split at hv
  · rename_i k first captured
    split at hv
    · rename_i a hk hf hc
      obtain ⟨v', l', heq', hv1, hl⟩ := ha.cons_inv
      have := hl.nil_inv; subst this
      obtain ⟨first', captured', rfl, hl1, hl2⟩ := hv1.func_inv
      rw [hf] at hl1
      rw [hc] at hl2
      have e1 : first' = #[] := Array.ext' hl1.nil_inv
      obtain ⟨p', l2, e2, hp, hl3⟩ := hl2.cons_inv
      have := hl3.nil_inv; subst this
      have e3 : captured' = #[p'] := Array.ext' e2
      subst e1 e3
      have hargs : args' = #[.func (.func k) #[] #[p']] := Array.ext' heq'
      subst hargs
      obtain ⟨hsp, L, hl0, rfl⟩ := ptr_inv hp
      have hkm : k ∈ KF := by rw [hasN_eq] at hk; simpa using hk
      -- the cell that holds the map
      cases hg : h.bs.get a.block with
      | none => rw [hg] at hv; cases hv
      | some ob =>
      rw [hg] at hv
      unfold mapAt at hv
      split at hv
      · rename_i mt size c heqo
        cases heqo
        split at hv
        · rename_i hst hc0
          rename_i r
          simp only [Bool.and_eq_true] at hst
          have hoff : a.off = 0 := Nat.eq_of_beq_eq_true hst.1
          obtain ⟨L', hl', ho⟩ := hr.dom _ _ hg
          rw [hl0] at hl'; cases hl'
          obtain ⟨hns, _, _, cs, el, fr, hw, hcs, _, hcells⟩ := ho
          have hsh : L.shift = 0 := by
            rcases hns with q | q
            · exact q
            · exfalso
              cases hu : T.und mt with
              | none => rw [hu] at hst; exact absurd hst.2 (by simp [isMapD])
              | some d =>
                rw [hu] at hst
                cases d with
                | map kk ee => exact q kk ee (ok.und hu)
                | _ => exact absurd hst.2 (by simp [isMapD])
          obtain ⟨_, v', hcv, hvr⟩ := hcells 0 _ hc0
          have hcell : w.cell? ⟨L.blk, 0, none⟩ = some v' := by
            rw [cell_at 0 hw]
            simpa [hsh] using hcv
          have hlt : L.blk < w.heap.size := (Array.getElem?_eq_some_iff.1 hw).1
          rw [hsh, hoff]
          unfold keysR at hv
          split at hv
          · rename_i heqr; cases heqr
            cases hvr
            cases hv
            refine (S.zero k hkm w L.blk hlt hcell).mono fun e' w' ⟨v, ss, he, hss, hrow, hnil, hb⟩ => ?_
            subst he
            rw [hnil.2 hss]
            exact ⟨μ, Post.below hr hb, .returned .sliceNil⟩
          · rename_i id heqr; cases heqr
            cases hvr with
            | map _ Lm hlm =>
            unfold keysM at hv
            split at hv
            · rename_i es clock hgm
              obtain ⟨Lm', hlm', hom⟩ := hr.dom _ _ hgm
              rw [hlm] at hlm'; cases hlm'
              obtain ⟨es', hwm, her⟩ := hom
              simp only at hv
              cases hko : ksOf es with
              | none => rw [hko] at hv; cases hv
              | some ks =>
              rw [hko] at hv
              simp only [keysG] at hv
              cases hchk : (apart eq ks && stamped clock es && Nat.ble es.length 1000000) with
              | false => rw [hchk] at hv; cases hv
              | true =>
              rw [hchk] at hv
              simp only [Bool.and_eq_true] at hchk
              obtain ⟨hk1, hk2⟩ := hks her hko
              obtain ⟨hb1, hb2⟩ := stamped_ok clock her hchk.1.2
              have hnd := apart_nodup heq ks hchk.1.1
              have hlen : es'.size ≤ 1000000 := by
                have := Nat.le_of_ble_eq_true hchk.2
                have h2 := her.1
                simp at h2
                omega
              have hrd : ∀ x ∈ es'.toList, ∃ a, a ∈ ks ∧ x.key = enc a ∧ keyOf P kt x.key = some (litOf a) := fun x hx => by
                have : x.key ∈ es'.toList.map (·.key) := List.mem_map_of_mem hx
                rw [hk1] at this
                obtain ⟨a, ha1, ha2⟩ := List.mem_map.1 this
                exact ⟨a, ha1, ha2.symm, hk2 x hx a ha2.symm ha1⟩
              have hfit : WideElems.Fit P kt unit_ es' clock := by
                refine ⟨by unfold maxLen; omega, ⟨hb1, hb2, ?_⟩, fun x hx => ?_⟩
                · rw [hk1]
                  exact List.Pairwise.map _ (fun a b hne he => hne (hinj a b he)) hnd
                · obtain ⟨a, _, _, h3⟩ := hrd x hx
                  exact ⟨_, entry_reads h3⟩
              let E := es'.toList.map (WideElems.rg P kt unit_)
              have hE : E.map (·.1) = ks.map litOf := by
                apply List.ext_getElem?
                intro i
                have hki : (es'.toList.map (·.key))[i]? = (ks.map enc)[i]? := by rw [hk1]
                simp only [E, List.getElem?_map] at hki ⊢
                cases hx : es'.toList[i]? with
                | none => rw [hx] at hki; cases hq : ks[i]? with
                  | none => simp
                  | some a => rw [hq] at hki; cases hki
                | some x =>
                  rw [hx] at hki
                  cases hq : ks[i]? with
                  | none => rw [hq] at hki; cases hki
                  | some a =>
                    rw [hq] at hki
                    simp only [Option.map_some, Option.some.injEq] at hki ⊢
                    have h3 := hk2 x (List.mem_of_getElem? hx) a hki (List.mem_of_getElem? hq)
                    simp [WideElems.rg, entry_reads h3]
              have hD : w.ownsMap P kt unit_ Lm.blk es'.size (.map (E.foldr DataW.insert [])) := ⟨es', clock, hwm, hfit, Nat.le_refl _, rfl⟩
              have hsize : Maps.size (.map (E.foldr DataW.insert []) : DataW Unit) ≤ 1000000 := by
                rw [Maps.size_eq, length_sorted]
                simpa [E] using hlen
              refine (S.one k hkm w L.blk Lm.blk es'.size _ unit_ hlt hcell hD hsize).mono fun e' w' ⟨v, ss, he, hss, hrow, hnil, hb⟩ => ?_
              subst he
              have hss2 : ss.Perm ks := by
                refine hss.trans ?_
                have := hperm _ _ (WideShapes.sorted_perm E)
                rwa [hkeys E ks hE] at this
              have hms := hsort hss2
              have hsl : ss.length = (sortBy lt ks).length := by rw [hss2.length_eq, (sortBy_perm ks).length_eq]
              rw [hms] at hrow
              rw [mapL_map] at hv
              unfold resK at hv
              generalize hml : List.map enc (sortBy lt ks) = ml at hv hrow
              cases ml with
              | nil =>
                have hnl := hml
                simp only at hv
                cases hv
                have : sortBy lt ks = [] := by simpa using hnl
                rw [this] at hsl
                rw [hnil.2 (List.eq_nil_of_length_eq_zero hsl)]
                exact ⟨μ, Post.below hr hb, .returned .sliceNil⟩
              | cons x xs =>
                have hnl := hml
                simp only [frN_eq, Option.some.injEq] at hv
                cases hv
                obtain ⟨hr1, hr2⟩ := hrow
                have hne : (sortBy lt ks).length ≠ 0 := fun h0 => by
                  have : sortBy lt ks = [] := List.eq_nil_of_length_eq_zero h0
                  rw [this] at hnl; cases hnl
                rcases hr2 with ⟨_, h0⟩ | ⟨g, cap, cur, rfl, hg1, hg2, hg3, hg4, hg5, hg6⟩
                · rw [hsl] at h0; exact absurd h0 hne
                · let L2 : Loc := ⟨g, 0, cap * 1, 1, .empty, []⟩
                  have hfr : μ h.next = none := hn _ (Nat.le_refl _)
                  have hlx : (x :: xs).length = ss.length := by rw [← hnl, List.length_map, hsl]
                  refine ⟨μ.add h.next L2, Post.grown hr hb hfr L2 _ hg1 ⟨.inl rfl, hsz, ?_, cur, kt, (0, 0), hg2, ?_, fun i _ => by simp, fun i v hi => ?_⟩, ?_⟩
                  · show (x :: xs).length * 1 ≤ cap * 1
                    rw [hlx]; omega
                  · show 0 + cap * 1 ≤ cur.size
                    omega
                  · rw [PM.ofList_get] at hi
                    have hil : i < (x :: xs).length := by
                      rcases Nat.lt_or_ge i (x :: xs).length with q | q
                      · exact q
                      · rw [List.getElem?_eq_none q] at hi; cases hi
                    refine ⟨by omega, v, ?_, ?_⟩
                    · show cur[0 + i]? = some v
                      have : (cur.toList.take (ss.length * 1))[i]? = some v := by rw [hg6]; exact hi
                      rw [List.getElem?_take, if_pos (by omega)] at this
                      rw [Nat.zero_add, ← Array.getElem?_toList]
                      exact this
                    · rw [← hnl, List.getElem?_map] at hi
                      cases hq : (sortBy lt ks)[i]? with
                      | none => rw [hq] at hi; cases hi
                      | some a => rw [hq] at hi; cases hi; exact hself _ a
                  · have := VR.slice (μ := μ.add h.next L2) h.next 0 (x :: xs).length (x :: xs).length cap L2 (Mu.add_same _ _) (Nat.le_refl _) (by rw [hlx]; exact hg3) (by show 0 + cap * 1 ≤ cap * 1; omega)
                    rw [hlx] at this ⊢
                    exact .returned (by simpa [L2] using this)
            · cases hv
          · cases hv
        · cases hv
      · cases hv
    · cases hv
  · cases hv

theorem strKs_ok {P : Program} {kt : TypeId} (hkt : P.underlying kt = some .string) {μ : Mu} : ∀ {es es' : List MapEntry} {ks : List (List UInt8)}, ER μ es es' → strKs es = some ks →
    es'.map (·.key) = ks.map ofTxt ∧ (∀ a ∈ ks, a.length ≤ 1000000)
  | [], es', ks, he, h => by cases h; rw [he.nil_inv]; exact ⟨rfl, fun a h => by simp at h⟩
  | e :: es, es', ks, he, h => by
    obtain ⟨e', es2, rfl, h1, h2, h3, h4⟩ := he.cons_inv
    unfold strKs at h
    split at h
    · rename_i s hs
      split at h
      · rename_i r hle hr
        cases h
        obtain ⟨g1, g2⟩ := strKs_ok hkt h4 hr
        rw [hs] at h1
        have hk : e'.key = .string s := by
          generalize e'.key = x at h1 ⊢
          cases h1; rfl
        refine ⟨by simp only [List.map_cons, g1, hk]; rfl, fun a ha => ?_⟩
        rcases List.mem_cons.1 ha with q | q
        · subst q; exact Nat.le_of_ble_eq_true hle
        · exact g2 a q
      · cases h
    · cases h
theorem intKs_ok {μ : Mu} : ∀ {es es' : List MapEntry} {ks : List Int}, ER μ es es' → intKs es = some ks →
    es'.map (·.key) = ks.map (fun n => Value.int .i64 n) ∧ (∀ a ∈ ks, (Lit.int .i64 a).wf = true)
  | [], es', ks, he, h => by cases h; rw [he.nil_inv]; exact ⟨rfl, fun a h => by simp at h⟩
  | e :: es, es', ks, he, h => by
    obtain ⟨e', es2, rfl, h1, h2, h3, h4⟩ := he.cons_inv
    unfold intKs at h
    split at h
    · rename_i n hs
      split at h
      · rename_i r hle hr
        cases h
        obtain ⟨g1, g2⟩ := intKs_ok h4 hr
        rw [hs] at h1
        have hk : e'.key = .int .i64 (.ofNat n) := by
          generalize e'.key = x at h1 ⊢
          cases h1; rfl
        refine ⟨by simp only [List.map_cons, g1, hk], fun a ha => ?_⟩
        rcases List.mem_cons.1 ha with q | q
        · subst q
          have := Nat.le_of_ble_eq_true hle
          simp only [Lit.wf, IntKind.min, IntKind.max, Int.ofNat_eq_natCast, Bool.and_eq_true]
          simp [IntKind.signed, IntKind.bits]
          omega
        · exact g2 a q
      · cases h
    · cases h

/-- slices.Sorted at the keys of a map keyed by texts. -/
theorem strC_ok {f : FuncId} {KF : List Nat} {kt : TypeId} (ok : TabOk P T) (S : Sorts P f KF kt (List UInt8) strKeys leB encStr) (hsz : tsize P kt = some 1) (hkt : P.underlying kt = some .string) :
    ∀ args h e m' h', strC T KF kt args h = some (.en e m' h') → ∀ (μ : Mu) (w : World) (args' : Array Value), LR μ args args'.toList → HR P μ h w → NewFrom μ h.next →
      Calls P f args' w fun e' w' => ∃ μ', Post P μ h w μ' h' w' ∧ EndR μ' e e' := by
  refine keys_ok (ksOf := strKs) (eq := beqL) (lt := ltL) (enc := ofTxt) ok S hsz (fun a b => ?_) (fun a b h => ?_) (fun hp => sort_strs hp) (fun μ a => .string _) (fun a => .string a) (fun es ks h => ?_) (fun he hk => ?_) (fun l m hp => ?_)
  · rw [beqL_eq]; exact beq_iff_eq
  · simpa [ofTxt] using h
  · show es.map (fun p => strOf p.1) = ks
    have : es.map (fun p => strOf p.1) = (es.map (·.1)).map strOf := by rw [List.map_map]; rfl
    rw [this, h, List.map_map]
    exact (List.map_congr_left (fun a _ => rfl)).trans (List.map_id ks)
  · obtain ⟨g1, g2⟩ := strKs_ok (P := P) hkt he hk
    refine ⟨g1, fun x hx a hxa ha => ?_⟩
    have hl := g2 a ha
    have hm : ¬ maxLen < a.length := by unfold maxLen; omega
    rw [hxa]
    simp only [keyOf, hkt, mapKey, ofTxt]
    have : (⟨⟨a⟩⟩ : ByteArray).size = a.length := rfl
    rw [this, if_pos (by omega)]
  · exact hp.map _
/-- slices.Sorted at the keys of a map keyed by numbers. -/
theorem intC_ok {f : FuncId} {KF : List Nat} {kt : TypeId} (ok : TabOk P T) (S : Sorts P f KF kt Int intKeys leI encZ) (hsz : tsize P kt = some 1) (hkt : P.underlying kt = some (.int .i64)) :
    ∀ args h e m' h', intC T KF kt args h = some (.en e m' h') → ∀ (μ : Mu) (w : World) (args' : Array Value), LR μ args args'.toList → HR P μ h w → NewFrom μ h.next →
      Calls P f args' w fun e' w' => ∃ μ', Post P μ h w μ' h' w' ∧ EndR μ' e e' := by
  refine keys_ok (ksOf := intKs) (eq := intEq) (lt := intLt) (enc := fun n => .int .i64 n) ok S hsz (fun a b => ?_) (fun a b h => ?_) (fun hp => sort_ints hp) (fun μ a => .int _ _) (fun a => .int .i64 a) (fun es ks h => ?_) (fun he hk => ?_) (fun l m hp => ?_)
  · rw [intEq_eq]; exact beq_iff_eq
  · simpa using h
  · show es.map (fun p => intOf p.1) = ks
    have : es.map (fun p => intOf p.1) = (es.map (·.1)).map intOf := by rw [List.map_map]; rfl
    rw [this, h, List.map_map]
    exact (List.map_congr_left (fun a _ => rfl)).trans (List.map_id ks)
  · obtain ⟨g1, g2⟩ := intKs_ok he hk
    refine ⟨g1, fun x hx a hxa ha => ?_⟩
    have hl := g2 a ha
    rw [hxa]
    simp only [keyOf, hkt, mapKey]
    rw [if_pos ⟨trivial, hl⟩]
  · exact hp.map _
end
end Go.AE
