/- What the evaluator computes of one operation, the model computes: copy, len, min, max, conversions, maps. -/
import Derived.Test.YtgambdjpncpdaaaGreatDoorEvOps7
namespace Go.AE

section
variable {P : Program} {T : Tab} (ok : TabOk P T) {μ : Mu} {h : Mem} {w : World} (hr : HR P μ h w)

include ok hr in
theorem copy_ok {t t2 ty : TypeId} {d s d' s' : Value} (hd : VR μ d d') (hs : VR μ s s') {r : Rs} (hv : copyV T h d s (T.und t) = some r) :
    ∃ h' v w', r = .value v h' ∧ Post P μ h w μ h' w' ∧ VR μ v v ∧ (Builtin.copy_ #[t, t2] ty #[d', s']).run P w = .ok v w' := by
  unfold copyV at hv
  cases hu : T.und t with
  | none => rw [hu] at hv; cases hv
  | some dd =>
  rw [hu] at hv
  cases dd with
  | slice e =>
    simp only at hv
    split at hv
    · rename_i size base n c hz
      unfold copyL at hv
      cases he : elems h e size s with
      | none => rw [he] at hv; cases hv
      | some p =>
      obtain ⟨m, l⟩ := p
      rw [he] at hv
      simp only at hv
      obtain ⟨l', h1, h2, h3, h4⟩ := elems_ok (w := w) hr hs he
      have h5 := h4 (Nat.min m n) (Nat.min_le_left _ _) w rfl
      have hshape : ∃ b c', d' = .slice b n c' := by
        cases base with
        | none => obtain ⟨rfl, rfl, rfl⟩ := slice_none_inv hd; exact ⟨none, 0, rfl⟩
        | some a => obtain ⟨_, _, b, c', rfl, _⟩ := slice_some_inv hd; exact ⟨some b, c', rfl⟩
      obtain ⟨b, c', rfl⟩ := hshape
      have hrun : ∀ w', (∀ a, b = some a → (storeCells a (l'.take (Nat.min m n * size))).run P w = .ok () w') → (b = none → w' = w) →
          (Builtin.copy_ #[t, t2] ty #[.slice b n c', s']).run P w = .ok (.int .i64 (Nat.min m n : Nat)) w' := by
        intro w' hsome hnone
        unfold Builtin.copy_
        simp only [List.getElem?_toArray, List.getElem?_cons_zero, List.getElem?_cons_succ, Sem.run_bind, run_und ok hu, Result.andThen_ok, h3, run_size ok hz, h5]
        cases b with
        | none => simp [hnone rfl, goInt]
        | some a => simp [hsome a rfl, goInt]
      unfold copyGo at hv
      split at hv
      · rename_i hk
        have := int_some hv; subst this
        refine ⟨h, _, w, rfl, .refl hr, .int _ _, ?_⟩
        have := hrun w (fun a _ => by rw [hk]; simp [storeCells]) (fun _ => rfl)
        rw [hk] at this
        exact this
      · rename_i k a hk
        split at hv
        · rename_i h' hst
          have := int_some hv; subst this
          obtain ⟨_, hle, _⟩ := slice_some_inv hd
          have h0 : Nat.min m n ≤ n := Nat.min_le_right m n
          rw [hk] at h0
          have hpos : 0 < c := by omega
          obtain ⟨hsp, L, c2, hl, _, _, _, heq⟩ := slice_inv hd hpos
          cases heq
          obtain ⟨w', g1, g2⟩ := storeRow_ok (w := w) hr hst hl (h1.take (Nat.min m n * size))
          refine ⟨h', _, w', rfl, g2, .int _ _, ?_⟩
          exact hrun w' (fun a ha => by cases ha; exact g1) (fun hb => by cases hb)
        · cases hv
      · cases hv
    · cases hv
  | _ => simp only at hv; cases hv

theorem entries_ok (hr : HR P μ h w) {r : Option Nat} {es : List MapEntry} {x' : Value} (hx : VR μ (.map r) x') (he : entries h r = some es) :
    (r = none ∧ x' = .map none ∧ es = []) ∨ ∃ id L cl es', r = some id ∧ x' = .map (some L.blk) ∧ μ id = some L ∧ h.bs.get id = some (.map es cl) ∧ w.heap[L.blk]? = some (.map es' cl) ∧ ER μ es es'.toList := by
  cases r with
  | none => cases hx; cases he; exact .inl ⟨rfl, rfl, rfl⟩
  | some id =>
    right
    cases hx with
    | map _ L hl =>
    unfold entries at he
    simp only at he
    split at he
    · rename_i es2 cl hg
      cases he
      obtain ⟨L', hl', ho⟩ := hr.dom _ _ hg
      rw [hl] at hl'; cases hl'
      obtain ⟨es', h1, h2⟩ := ho
      exact ⟨id, L, cl, es', rfl, rfl, hl, hg, h1, h2⟩
    · cases he

include ok hr in
theorem len_ok {t ty : TypeId} {ts : List TypeId} {x x' : Value} {xs : List Value} (hx : VR μ x x') {r : Rs} (hv : lenV h x (T.und t) = some r) :
    ∃ v v', r = .value v h ∧ VR μ v v' ∧ (Builtin.len_ (t :: ts).toArray ty (x' :: xs).toArray).run P w = .ok v' w := by
  unfold lenV at hv
  cases hu : T.und t with
  | none => rw [hu] at hv; cases hv
  | some d =>
  rw [hu] at hv
  cases d with
  | string =>
    simp only at hv
    split at hv
    · cases hx
      have := int_some hv; subst this
      exact ⟨_, _, rfl, .int _ _, by simp [Builtin.len_, run_und ok hu, goInt, txt_size]⟩
    · cases hx with
      | key lo hi L hl h1 h2 =>
      simp only [frN_eq, Option.some.injEq] at hv
      subst hv
      refine ⟨_, .int .i64 L.str.size, rfl, .num _ _ _ ?_ ?_, by simp [Builtin.len_, run_und ok hu, goInt]⟩
      · simp only [Nat.add_eq]; omega
      · simp only [Nat.add_eq]; omega
    · cases hv
  | slice e =>
    simp only at hv
    split at hv
    · rename_i a n c
      have := int_some hv; subst this
      refine ⟨_, _, rfl, .int _ _, ?_⟩
      cases a with
      | none => obtain ⟨rfl, rfl, rfl⟩ := slice_none_inv hx; simp [Builtin.len_, run_und ok hu, goInt]
      | some a => obtain ⟨_, _, b, c', rfl, _⟩ := slice_some_inv hx; simp [Builtin.len_, run_und ok hu, goInt]
    · cases hv
  | array n e =>
    have := int_some hv; subst this
    exact ⟨_, _, rfl, .int _ _, by simp [Builtin.len_, run_und ok hu, goInt]⟩
  | map k e =>
    simp only at hv
    split at hv
    · rename_i rr
      cases he : entries h rr with
      | none => rw [he] at hv; cases hv
      | some es =>
        rw [he] at hv
        have := int_some hv; subst this
        refine ⟨_, _, rfl, .int _ _, ?_⟩
        rcases entries_ok hr hx he with ⟨rfl, rfl, rfl⟩ | ⟨id, L, cl, es', rfl, rfl, hl, hg, h1, h2⟩
        · simp [Builtin.len_, run_und ok hu, goInt]
        · have : es'.size = es.length := by simpa using h2.1.symm
          simp [Builtin.len_, run_und ok hu, goInt, getObj, Sem.run, h1, this]
    · cases hv
  | _ => simp only at hv; cases hv

theorem pick2_int {mx : Bool} {x y z : Value} (hp : pick2 mx x y = some z) : ∃ k a b c, x = .int k a ∧ y = .int k b ∧ z = .int k c ∧ c = (if mx then (if b > a then b else a) else (if b < a then b else a)) := by
  unfold pick2 at hp
  split at hp
  · rename_i k a k' b
    cases hk : kindEq k k' with
    | false => rw [hk] at hp; cases hp
    | true =>
      rw [hk] at hp
      have hk := kindEq_eq hk
      subst hk
      cases mx with
      | true =>
        simp only [intLt_eq] at hp
        by_cases hlt : a < b
        · rw [decide_eq_true hlt] at hp; cases hp
          exact ⟨k, a, b, b, rfl, rfl, rfl, by rw [if_pos rfl, if_pos hlt]⟩
        · rw [decide_eq_false hlt] at hp; cases hp
          exact ⟨k, a, b, a, rfl, rfl, rfl, by rw [if_pos rfl, if_neg hlt]⟩
      | false =>
        simp only [intLt_eq] at hp
        by_cases hlt : b < a
        · rw [decide_eq_true hlt] at hp; cases hp
          exact ⟨k, a, b, b, rfl, rfl, rfl, by simp [hlt]⟩
        · rw [decide_eq_false hlt] at hp; cases hp
          exact ⟨k, a, b, a, rfl, rfl, rfl, by simp [hlt]⟩
  · cases hp

theorem fold_ok {mx : Bool} : ∀ {l l' : List Value} {x x' v : Value}, VR μ x x' → LR μ l l' → foldA mx x l = some v →
    VR μ v v ∧ (l'.foldlM (if mx then Builtin.max2 else Builtin.min2) x').run P w = .ok v w ∨ (l = [] ∧ v = x ∧ l' = [])
  | [], l', x, x', v, hx, hl, hf => by
    cases hf
    exact .inr ⟨rfl, rfl, hl.nil_inv⟩
  | y :: l, l', x, x', v, hx, hl, hf => by
    obtain ⟨y', l2, rfl, hy, hl2⟩ := hl.cons_inv
    unfold foldA at hf
    cases hp : pick2 mx x y with
    | none => rw [hp] at hf; cases hf
    | some z =>
      rw [hp] at hf
      simp only at hf
      obtain ⟨k, a, b, c, rfl, rfl, rfl, hc⟩ := pick2_int hp
      cases hx; cases hy
      have hstep : ((if mx then Builtin.max2 else Builtin.min2) (.int k a) (.int k b)).run P w = .ok (.int k c) w := by
        cases mx <;> simp [Builtin.max2, Builtin.min2, hc]
      left
      rcases fold_ok (VR.int k c) hl2 hf with h1 | ⟨rfl, rfl, rfl⟩
      · exact ⟨h1.1, by simp only [List.foldlM_cons, Sem.run_bind, hstep, Result.andThen_ok, h1.2]⟩
      · exact ⟨.int _ _, by simp only [List.foldlM_cons, Sem.run_bind, hstep, Result.andThen_ok, List.foldlM_nil, Sem.run_pure]⟩

theorem foldV_ok {mx : Bool} {l l' : List Value} {r : Rs} (hl : LR μ l l') (hv : foldV h mx l = some r) :
    ∃ v v' x rest, l' = x :: rest ∧ r = .value v h ∧ VR μ v v' ∧ (rest.foldlM (if mx then Builtin.max2 else Builtin.min2) x).run P w = .ok v' w := by
  unfold foldV at hv
  split at hv
  · rename_i x l
    obtain ⟨x', l2, rfl, hx, hl2⟩ := hl.cons_inv
    obtain ⟨v, h1, rfl⟩ := val_some hv
    rcases fold_ok (P := P) (w := w) hx hl2 h1 with h2 | ⟨rfl, rfl, rfl⟩
    · exact ⟨v, v, x', l2, rfl, rfl, h2.1, h2.2⟩
    · exact ⟨v, x', x', [], rfl, rfl, hx, by simp⟩
  · cases hv

/- conversions -/
include ok hr in
theorem toBytes_ok {src dst e : TypeId} {ds : TypeDesc} {s : ByteArray} {r : Rs} (hs : T.und src = some ds) (hd : T.und dst = some (.slice e)) (hv : toBytesV T h e (txt s) = some r) (hnew : NewIn μ h.next (nextOf h r)) :
    ∃ μ' h' v v' w', r = .value v h' ∧ Post P μ h w μ' h' w' ∧ VR μ' v v' ∧ (convert src dst (.string s)).run P w = .ok v' w' := by
  unfold toBytesV at hv
  cases hu8 : isU8 (T.und e) with
  | false => rw [hu8] at hv; cases hv
  | true =>
  cases hz : T.size e with
  | none => rw [hu8, hz] at hv; cases hv
  | some sz =>
  rw [hu8, hz] at hv
  have hund : T.und e = some (.int .u8) := by
    unfold isU8 at hu8
    split at hu8
    · assumption
    · cases hu8
  cases sz with
  | zero => cases hv
  | succ sz =>
  cases sz with
  | succ sz => cases hv
  | zero =>
  simp only at hv
  have := mkSlice_some hv
  subst this
  let cap := (Question.appendCap s.size 0 e).cut (w.tape w.drawn (.appendCap s.size 0 e))
  have hcap : s.size ≤ cap := by simp [cap, Question.cut]
  let arr : Array Value := (s.data.map fun b => Value.int .u8 (b.toNat : Int)) ++ Array.replicate (cap - s.size) (.int .u8 0)
  have harr : arr.size = cap := by simp [arr]; have : s.data.size = s.size := rfl; omega
  let w1 : World := { w with drawn := w.drawn + 1 }
  have hp1 := Post.drawn hr (w.drawn + 1)
  let L : Loc := ⟨w.heap.size, 0, cap, 1, .empty, []⟩
  have hfresh := newIn_alloc hnew
  have hp2 := Post.alloc (w := w1) hp1.rel hfresh L (.cells e ((txt s).length * 1) (PM.ofList (bytesL (txt s)))) (.cells arr e (cap, cap + 1)) rfl
    ⟨.inl rfl, ok.tsize hz, by simp only [L, txt_size]; omega, arr, e, (cap, cap + 1), by simp [L, w1], by simp only [L]; omega, fun j hj => by simp only [L] at hj ⊢; omega, fun j v hj => by
      have hjl := ofList_dom _ j v hj
      rw [bytesL_length] at hjl
      rw [PM.ofList_get, bytesL_map, List.getElem?_map] at hj
      refine ⟨by omega, v, ?_, ?_⟩
      · simp only [L, Nat.zero_add, arr]
        rw [Array.getElem?_append_left (by simp; rw [txt_size] at hjl; exact hjl), Array.getElem?_map, ← Array.getElem?_toList]
        exact hj
      · rw [List.getElem?_eq_getElem hjl] at hj
        cases hj
        exact .int _ _⟩
  refine ⟨_, _, _, .slice (some ⟨w.heap.size, 0, none⟩) s.size cap, _, rfl, hp1.trans hp2, ?_, ?_⟩
  · have := VR.slice (μ := μ.add h.next L) h.next 0 (txt s).length (txt s).length cap L (Mu.add_same _ _) (Nat.le_refl _) (by rw [txt_size]; exact hcap) (by simp [L])
    rw [txt_size] at this ⊢
    simpa [L] using this
  · have hmod : (w1.heap.push (.cells arr e)).modify w.heap.size (fun
        | .cells c elem (lo, hi) => .cells c elem (if lo == hi then (cap, cap + 1) else (min lo cap, max hi (cap + 1)))
        | o => o) = w1.heap.push (.cells arr e (cap, cap + 1)) := by
      apply Array.ext_getElem?
      intro i
      rw [Array.getElem?_modify, Array.getElem?_push, Array.getElem?_push]
      by_cases hi : i = w1.heap.size
      · subst hi; simp [w1]
      · rw [if_neg hi, if_neg (fun x => hi (by rw [← x])), if_neg hi]
    have hcv : (convert src dst (.string s)).run P w = (Conv.stringToBytes e s).run P w := by
      cases ds <;> simp [convert, run_und ok hs, run_und ok hd, run_und ok hund]
    rw [hcv]
    simp only [Conv.stringToBytes, Sem.run_bind, Result.andThen_ok, run_choose, Question.forced, Bool.false_eq_true, if_false, Go.newRow, run_newObj, Sem.run_pure,
      markStringish, run_shape]
    have hshape : World.shape? { w with drawn := w.drawn + 1, heap := w.heap.push (.cells arr e) } w.heap.size = some (e, arr.size) := by simp [World.shape?]
    rw [show (s.data.map fun b => Value.int .u8 (b.toNat : Int)) ++ Array.replicate ((Question.appendCap s.size 0 e).cut (w.tape w.drawn (.appendCap s.size 0 e)) - s.size) (.int .u8 0) = arr from rfl]
    rw [hshape]
    simp only [run_freeze, Result.andThen_ok, World.freeze, harr]
    rw [if_neg (by omega)]
    exact congrArg (fun hp : Array Obj => (Result.ok (Value.slice (some ⟨w.heap.size, 0, none⟩) s.size cap) { w with drawn := w.drawn + 1, heap := hp } : Result Value)) hmod

theorem push_fold : ∀ (ns : List Nat) (s : ByteArray), ((ns.map fun (n : Nat) => (n : Int)).foldl (fun r n => r.push (UInt8.ofNat n.toNat)) s).data.toList = s.data.toList ++ ns.map UInt8.ofNat
  | [], s => by simp
  | n :: ns, s => by
    simp only [List.map_cons, List.foldl_cons]
    rw [push_fold ns]
    simp

theorem ints_self : ∀ {ns : List Nat} {l' : List Value}, LR μ (ns.map fun (n : Nat) => Value.int .u8 (n : Int)) l' → l' = ns.map fun (n : Nat) => Value.int .u8 (n : Int)
  | [], l', hl => hl.nil_inv
  | n :: ns, l', hl => by
    obtain ⟨v', l2, rfl, hv, hl2⟩ := hl.cons_inv
    cases hv
    rw [ints_self hl2]
    rfl

include ok hr in
theorem ofBytes_ok {src dst e : TypeId} {x x' : Value} {r : Rs} (hs : T.und src = some (.slice e)) (hd : T.und dst = some .string) (hx : VR μ x x') (hv : ofBytesV T h e x = some r)
    (hsl : ∀ s, x ≠ .string s) : ∃ v v', r = .value v h ∧ VR μ v v' ∧ RunV P w (convert src dst x') v' := by
  unfold ofBytesV at hv
  cases hu8 : isU8 (T.und e) with
  | false => rw [hu8] at hv; cases hv
  | true =>
  rw [hu8] at hv
  have hund : T.und e = some (.int .u8) := by
    unfold isU8 at hu8
    split at hu8
    · assumption
    · cases hu8
  simp only at hv
  unfold ofBytes at hv
  cases he : elems h e 1 x with
  | none => rw [he] at hv; cases hv
  | some p =>
  obtain ⟨n, l⟩ := p
  rw [he] at hv
  simp only at hv
  cases hb : bytesOf l with
  | none => rw [hb] at hv; cases hv
  | some s =>
  rw [hb] at hv
  cases hv
  obtain ⟨ns, h1, h2⟩ := bytesOf_ints hb
  unfold elems at he
  split at he
  · obtain ⟨rfl, rfl, rfl⟩ := slice_none_inv hx
    cases he
    have : ns = [] := by cases ns with | nil => rfl | cons => simp at h1
    subst this
    subst h2
    refine ⟨_, .string .empty, rfl, .string _, ?_⟩
    simp [RunV, convert, run_und ok hs, run_und ok hd, run_und ok hund, Conv.bytesToString]
  · rename_i a m c
    cases hro : rowOf h e m 1 a with
    | none => rw [hro] at he; cases he
    | some l2 =>
      rw [hro] at he
      cases he
      obtain ⟨b, c', l', rfl, k1, k2, k3⟩ := rowOf_ok (w := w) hr hx hro
      subst h1
      have hl' := ints_self k1
      have hload := run_loadCells_list (P := P) w b l' k3
      rw [← k1.1, k2, Nat.mul_one] at hload
      refine ⟨_, .string ⟨⟨s⟩⟩, rfl, VR.string _, ?_⟩
      · simp only [RunV, convert, Sem.run_bind, run_und ok hs, run_und ok hd, run_und ok hund, Result.andThen_ok]
        have hm : l'.toArray = ((ns.map fun (n : Nat) => (n : Int)).map (Value.int .u8)).toArray := by rw [hl']; simp
        rw [hm] at hload
        rw [run_bytesToString w b _ c' _ hload]
        congr 2
        apply ByteArray.ext
        apply Array.ext'
        rw [push_fold, h2]
        simp
  · exact absurd rfl (hsl _)
  · cases he

include ok hr in
theorem conv_ok {src dst : TypeId} {x x' : Value} {r : Rs} (hx : VR μ x x') (hv : convV T h (T.und src) (T.und dst) (some x) = some r) (hsrc : ∃ d, T.und src = some d) (hnew : NewIn μ h.next (nextOf h r)) :
    ∃ μ' h' v v' w', r = .value v h' ∧ Post P μ h w μ' h' w' ∧ VR μ' v v' ∧ (convert src dst x').run P w = .ok v' w' := by
  obtain ⟨ds, hs⟩ := hsrc
  have pureCase : ∀ v v', r = .value v h → VR μ v v' → (convert src dst x').run P w = .ok v' w →
      ∃ μ' h' v v' w', r = .value v h' ∧ Post P μ h w μ' h' w' ∧ VR μ' v v' ∧ (convert src dst x').run P w = .ok v' w' :=
    fun v v' h1 h2 h3 => ⟨μ, h, v, v', w, h1, .refl hr, h2, h3⟩
  unfold convV at hv
  split at hv
  · rename_i k n heq; cases heq
    cases hx
    split at hv
    · rename_i k2 hd
      have := int_some hv; subst this
      refine pureCase _ _ rfl (.int _ _) ?_
      simp only [convert, Sem.run_bind, run_und ok hs, run_und ok hd, Result.andThen_ok, Conv.intToInt, Sem.run_pure, wr_eq]
    · rename_i k2 hd
      simp only [frN_eq, Option.some.injEq] at hv
      subst hv
      refine pureCase _ _ rfl (.float _ _) ?_
      simp only [convert, Sem.run_bind, run_und ok hs, run_und ok hd, Result.andThen_ok, Conv.intToFloat, Sem.run_pure]
    · cases hv
  · rename_i s b heq; cases heq
    cases hx
    split at hv
    · rename_i k2 hd
      unfold floatIntV at hv
      cases hi : (s.decode b).toInt .zero with
      | none => rw [hi] at hv; cases hv
      | some n =>
        rw [hi] at hv
        simp only [floatInt] at hv
        cases hc : (intLt n k2.min || intLt k2.max n) with
        | true => rw [hc] at hv; cases hv
        | false =>
          rw [hc] at hv
          have := int_some hv; subst this
          rw [Bool.or_eq_false_iff, intLt_eq, intLt_eq] at hc
          have h1 : ¬ n < k2.min := by simpa using hc.1
          have h2 : ¬ k2.max < n := by simpa using hc.2
          refine pureCase _ _ rfl (.int _ _) ?_
          simp only [convert, Sem.run_bind, run_und ok hs, run_und ok hd, Result.andThen_ok, Conv.floatToInt, hi]
          rw [if_pos ⟨Int.not_lt.1 h1, Int.not_lt.1 h2⟩, Sem.run_pure]
    · rename_i k2 hd
      cases hk : fkindEq s k2 with
      | false => rw [hk] at hv; cases hv
      | true =>
        rw [hk] at hv
        have hk := fkindEq_eq hk
        subst hk
        cases hv
        refine pureCase _ _ rfl (.float _ _) ?_
        simp only [convert, Sem.run_bind, run_und ok hs, run_und ok hd, Result.andThen_ok, Conv.floatToFloat, if_true, Sem.run_pure]
    · cases hv
  · rename_i s heq; cases heq
    cases hx
    split at hv
    · rename_i hd
      cases hv
      refine pureCase _ _ rfl (.string _) ?_
      cases ds <;> simp [convert, run_und ok hs, run_und ok hd]
    · rename_i e hd
      exact toBytes_ok ok hr hs hd hv hnew
    · cases hv
  · rename_i x0 n1 n2 n3 heq; cases heq
    split at hv
    · rename_i e hs2 hd
      obtain ⟨v, v', h1, h2, h3⟩ := ofBytes_ok (w := w) ok hr hs2 hd hx hv (fun s hxs => n3 s (by rw [hxs]))
      exact pureCase v v' h1 h2 h3
    · cases hv
  · cases hv
end
end Go.AE
