/- What the evaluator computes of one operation, the model computes: loads, stores, what is made. -/
import Derived.Test.YtgambdjpncpdaaaGreatDoorEvRel
namespace Go.AE

theorem add_none (B x n : Nat) : (⟨B, x, none⟩ : Addr).add n = ⟨B, x + n, none⟩ := by
  unfold Addr.add
  split
  · subst_vars; rfl
  · rfl
theorem cell_at {w : World} {B : Nat} {cs : Array Value} {e : TypeId} {fr : Nat × Nat} (x : Nat) (h : w.heap[B]? = some (.cells cs e fr)) :
    w.cell? ⟨B, x, none⟩ = cs[x]? := by simp [World.cell?, h]
theorem frozen_at {w : World} {B : Nat} {cs : Array Value} {e : TypeId} {fr : Nat × Nat} (x : Nat) (h : w.heap[B]? = some (.cells cs e fr)) :
    w.frozen? ⟨B, x, none⟩ = (decide (fr.1 ≤ x) && decide (x < fr.2)) := by
  obtain ⟨lo, hi⟩ := fr
  simp [World.frozen?, h]
theorem frN_eq {α : Type} (n : Nat) (k : Nat → α) : frN n k = k n := by cases n <;> rfl
theorem frI_eq {α : Type} (n : Int) (k : Int → α) : frI n k = k n := by cases n <;> simp [frI, frN_eq]
theorem alloc_eq (h : Mem) (o : Ob) : h.alloc o = ⟨h.next + 1, h.bs.set h.next o⟩ := by
  cases h; simp [Mem.alloc, frN_eq]
theorem mset_eq (h : Mem) (r : Nat) (o : Ob) : h.set r o = ⟨h.next, h.bs.set r o⟩ := by cases h; rfl
theorem mdel_eq (h : Mem) (r : Nat) : h.del r = ⟨h.next, h.bs.del r⟩ := by cases h; rfl

/-- The temporaries. -/
def TR (μ : Mu) (ρ : PM Value) (tmps : Array Value) : Prop := ∀ t v, ρ.get t = some v → ∃ v', tmps[t]? = some v' ∧ VR μ v v'
theorem TR.mono {μ μ' : Mu} {ρ : PM Value} {tmps : Array Value} (e : μ.Ext μ') (h : TR μ ρ tmps) : TR μ' ρ tmps :=
  fun t v ht => let ⟨v', a, b⟩ := h t v ht; ⟨v', a, b.mono e⟩

theorem eval_ok {μ : Mu} {ρ : PM Value} {a : Act} (h : TR μ ρ a.tmps) {x : Operand} {v : Value} (hv : eval x ρ = some v) : VR μ v (a.eval x) := by
  cases x with
  | tmp t =>
    obtain ⟨v', h1, h2⟩ := h t v hv
    have : a.eval (.tmp t) = v' := by simp [Act.eval, Array.getD_eq_getD_getElem?, h1]
    rw [this]; exact h2
  | const u =>
    obtain ⟨rfl, hc⟩ := closedO_some (show closedO u = some v from hv)
    exact VR.of_closed hc
  | global g => cases (show (none : Option Value) = some v from hv)
  | func f =>
    have : v = .func (.func f) #[] #[] := by
      have : (some (.func (.func f) #[] #[]) : Option Value) = some v := hv
      cases this; rfl
    subst this
    exact VR.func_mk _ LR.nil LR.nil
theorem evals_ok {μ : Mu} {ρ : PM Value} {a : Act} (h : TR μ ρ a.tmps) : ∀ {xs : List Operand} {l : List Value}, evals ρ xs = some l → LR μ l (xs.map a.eval)
  | [], l, hl => by cases hl; exact .nil
  | x :: xs, l, hl => by
    unfold evals at hl
    cases hx : eval x ρ with
    | none => rw [hx] at hl; cases hl
    | some v =>
      rw [hx] at hl
      cases hy : evals ρ xs with
      | none => rw [hy] at hl; cases hl
      | some m =>
        rw [hy] at hl
        cases hl
        exact .cons (eval_ok h hx) (evals_ok h hy)

/-- How the model's run of an operation stands to the evaluator's answer. -/
def OpOk (P : Program) (μ : Mu) (h : Mem) (w : World) (s : Sem Next) : Rs → Prop
  | .value v h' => ∃ μ' v' w', Post P μ h w μ' h' w' ∧ VR μ' v v' ∧ (s.run P w = .ok (.value v') w' ∨ (s.run P w = .ok .skip w' ∧ v' = undef))
  | .enter f args h' => h' = h ∧ ∃ args' : Array Value, LR μ args args'.toList ∧ s.run P w = .ok (.enter f args') w
  | .defer d => ∃ d' : Deferred, (∃ fn c c', d.target = .fn fn c ∧ d'.target = .fn fn c' ∧ LR μ c.toList c'.toList) ∧ LR μ d.args.toList d'.args.toList ∧ s.run P w = .ok (.defer d') w
  | .recover => s.run P w = .ok .recover w
  | .panic v h' => h' = h ∧ ∃ v', VR μ v v' ∧ s.run P w = .halt (.panic v') w

section
variable {P : Program} {T : Tab} {μ : Mu} {h : Mem} {w : World} {s : Sem Next} {r : Rs}
theorem OpOk.pure (hr : HR P μ h w) {v v' : Value} (hv : VR μ v v') (run : s.run P w = .ok (.value v') w) : OpOk P μ h w s (.value v h) :=
  ⟨μ, v', w, .refl hr, hv, .inl run⟩
theorem val_some {o : Option Value} (hv : val h o = some r) : ∃ v, o = some v ∧ r = .value v h := by
  cases o with
  | none => cases hv
  | some v => cases hv; exact ⟨v, rfl, rfl⟩
theorem int_some {k : IntKind} {n : Int} (hv : int h k n = some r) : r = .value (.int k n) h := by
  simp only [int, frI_eq] at hv; cases hv; rfl
theorem bool_some {b : Bool} (hv : bool h b = some r) : r = .value (.bool b) h := by
  cases b <;> (cases hv; rfl)
end

/- memory -/
section
variable {P : Program} {μ μ' : Mu} {h : Mem} {w w' : World}
theorem OR.mono {L : Loc} {ob : Ob} (e : μ.Ext μ') (hh : w'.heap[L.blk]? = w.heap[L.blk]?) (k : OR P μ L ob w) : OR P μ' L ob w' := by
  cases ob with
  | cells ety size c =>
    obtain ⟨h0, h1, h2, cs, el, fr, h3, h4, h5, h6⟩ := k
    exact ⟨h0, h1, h2, cs, el, fr, hh.trans h3, h4, h5, fun i v hv => let ⟨x, v', a, b⟩ := h6 i v hv; ⟨x, v', a, b.mono e⟩⟩
  | map es clock =>
    obtain ⟨es', h1, h2, h3⟩ := k
    exact ⟨es', hh.trans h1, h2, fun i a b ha hb => let ⟨x, y, z⟩ := h3 i a b ha hb; ⟨x.mono e, y.mono e, z⟩⟩
  | siter s pos =>
    obtain ⟨h0, b, h1, h2⟩ := k
    exact ⟨h0, b, hh.trans h1, h2⟩
  | miter m since seen last =>
    obtain ⟨h0, m', h1, h2⟩ := k
    exact ⟨h0, m', h1.mono e, hh.trans h2⟩
theorem OR.lt {L : Loc} {ob : Ob} (k : OR P μ L ob w) : L.blk < w.heap.size := by
  cases ob with
  | cells ety size c =>
    obtain ⟨_, _, _, cs, el, fr, h3, _⟩ := k
    exact (Array.getElem?_eq_some_iff.1 h3).1
  | map es clock =>
    obtain ⟨es', h1, _⟩ := k
    exact (Array.getElem?_eq_some_iff.1 h1).1
  | siter s pos =>
    obtain ⟨_, b, h1, _⟩ := k
    exact (Array.getElem?_eq_some_iff.1 h1).1
  | miter m since seen last =>
    obtain ⟨_, m', _, h2⟩ := k
    exact (Array.getElem?_eq_some_iff.1 h2).1
theorem live_of {id : Nat} {ob : Ob} {L : Loc} (hg : h.bs.get id = some ob) (hl : μ id = some L) : live μ h L.blk := ⟨id, ob, L, hg, hl, rfl⟩

def Mu.add (μ : Mu) (id : Nat) (L : Loc) : Mu := fun i => if i = id then some L else μ i
theorem Mu.add_ext {id : Nat} (L : Loc) (hn : μ id = none) : μ.Ext (μ.add id L) := by
  intro i M hi
  unfold Mu.add
  split
  · subst_vars; rw [hn] at hi; cases hi
  · exact hi
theorem Mu.add_same (id : Nat) (L : Loc) : μ.add id L id = some L := by simp [Mu.add]
theorem Mu.add_other {id i : Nat} (L : Loc) (hi : i ≠ id) : μ.add id L i = μ i := by simp [Mu.add, hi]

/-- A new block. -/
theorem Post.alloc (hr : HR P μ h w) (hn : μ h.next = none) (L : Loc) (ob : Ob) (o : Obj) (hb : L.blk = w.heap.size)
    (ho : OR P (μ.add h.next L) L ob { w with heap := w.heap.push o }) : Post P μ h w (μ.add h.next L) (h.alloc ob) { w with heap := w.heap.push o } := by
  have hext : μ.Ext (μ.add h.next L) := Mu.add_ext L hn
  have hold : ∀ k, k < w.heap.size → (w.heap.push o)[k]? = w.heap[k]? := fun k hk => by rw [Array.getElem?_push, if_neg (by omega)]
  refine ⟨hext, fun id hid => ?_, ?_, ⟨fun id ob' hg => ?_, fun id id' ob1 ob2 L1 L2 hg hg' hne h1 h2 => ?_⟩, ⟨rfl, rfl, rfl, by simp, fun k hk _ => hold k hk⟩, fun B hB => ?_⟩
  · by_cases e : id = h.next
    · subst e; rw [alloc_eq]; exact ⟨Nat.le_refl _, Nat.lt_succ_self _⟩
    · exact absurd (Mu.add_other L e) hid
  · rw [alloc_eq]; exact Nat.le_succ _
  · rw [alloc_eq] at hg
    simp only [PM.set_get] at hg
    by_cases e : id = h.next
    · rw [if_pos e] at hg; cases hg; subst e; exact ⟨L, Mu.add_same _ _, ho⟩
    · rw [if_neg e] at hg
      obtain ⟨L', h1, h2⟩ := hr.dom id ob' hg
      exact ⟨L', hext _ _ h1, h2.mono hext (hold _ h2.lt)⟩
  · rw [alloc_eq] at hg hg'
    simp only [PM.set_get] at hg hg'
    by_cases e : id = h.next
    · have e' : id' ≠ h.next := fun x => hne (e.trans x.symm)
      rw [if_neg e'] at hg'
      subst e
      rw [Mu.add_same] at h1
      cases h1
      rw [Mu.add_other L e'] at h2
      obtain ⟨L', h3, h4⟩ := hr.dom id' ob2 hg'
      rw [h3] at h2; cases h2
      have := h4.lt; omega
    · rw [if_neg e] at hg
      rw [Mu.add_other L e] at h1
      by_cases e' : id' = h.next
      · subst e'
        rw [Mu.add_same] at h2
        cases h2
        obtain ⟨L', h3, h4⟩ := hr.dom id ob1 hg
        rw [h3] at h1; cases h1
        have := h4.lt; omega
      · rw [if_neg e'] at hg'
        rw [Mu.add_other L e'] at h2
        exact hr.inj id id' ob1 ob2 L1 L2 hg hg' hne h1 h2
  · obtain ⟨id, ob', L', hg, hl, rfl⟩ := hB
    rw [alloc_eq] at hg
    simp only [PM.set_get] at hg
    by_cases e : id = h.next
    · subst e; rw [Mu.add_same] at hl; cases hl; right; omega
    · rw [if_neg e] at hg; rw [Mu.add_other L e] at hl; left; exact live_of hg hl

/-- A block is written. -/
theorem Post.write (hr : HR P μ h w) {id : Nat} {ob ob' : Ob} {L : Loc} (hg : h.bs.get id = some ob) (hl : μ id = some L)
    (hs : w'.heap.size = w.heap.size) (hk : ∀ k, k ≠ L.blk → w'.heap[k]? = w.heap[k]?) (hos : w'.os = w.os) (ht : w'.tape = w.tape) (hout : w'.output = w.output)
    (ho : OR P μ L ob' w') : Post P μ h w μ (h.set id ob') w' := by
  refine ⟨.refl μ, fun _ h => absurd rfl h, by rw [mset_eq]; exact Nat.le_refl _, ⟨fun i o hi => ?_, fun i i' o1 o2 L1 L2 hi hi' hne h1 h2 => ?_⟩,
    ⟨hos, ht, hout, by omega, fun k _ hn => hk k fun e => hn (e ▸ live_of hg hl)⟩, fun B hB => ?_⟩
  · rw [mset_eq] at hi
    simp only [PM.set_get] at hi
    by_cases e : i = id
    · rw [if_pos e] at hi; cases hi; subst e; exact ⟨L, hl, ho⟩
    · rw [if_neg e] at hi
      obtain ⟨L', h1, h2⟩ := hr.dom i o hi
      exact ⟨L', h1, h2.mono (.refl μ) (hk _ (hr.inj i id o ob L' L hi hg e h1 hl))⟩
  · rw [mset_eq] at hi hi'
    have old : ∀ {j o}, (h.bs.set id ob').get j = some o → ∃ o', h.bs.get j = some o' := by
      intro j o hj
      rw [PM.set_get] at hj
      by_cases e : j = id
      · subst e; exact ⟨_, hg⟩
      · rw [if_neg e] at hj; exact ⟨_, hj⟩
    obtain ⟨a, ha⟩ := old hi
    obtain ⟨b, hb⟩ := old hi'
    exact hr.inj i i' a b L1 L2 ha hb hne h1 h2
  · obtain ⟨i, o, L', hi, hl', rfl⟩ := hB
    rw [mset_eq] at hi
    simp only [PM.set_get] at hi
    left
    by_cases e : i = id
    · subst e; exact live_of hg hl'
    · rw [if_neg e] at hi; exact live_of hi hl'

/-- A block is forgotten. -/
theorem Post.del (hr : HR P μ h w) (id : Nat) : Post P μ h w μ (h.del id) w := by
  have old : ∀ {j o}, (h.del id).bs.get j = some o → h.bs.get j = some o ∧ j ≠ id := by
    intro j o hj
    rw [mdel_eq] at hj
    simp only [PM.del_get] at hj
    by_cases e : j = id
    · rw [if_pos e] at hj; cases hj
    · rw [if_neg e] at hj; exact ⟨hj, e⟩
  refine ⟨.refl μ, fun _ h => absurd rfl h, by rw [mdel_eq]; exact Nat.le_refl _, ⟨fun i o hi => hr.dom i o (old hi).1, fun i i' o1 o2 L1 L2 hi hi' => hr.inj i i' o1 o2 L1 L2 (old hi).1 (old hi').1⟩,
    .refl _ _, fun B hB => ?_⟩
  obtain ⟨i, o, L', hi, hl', rfl⟩ := hB
  exact .inl (live_of (old hi).1 hl')

/-- A block is forgotten, and what is new lies where it lay. -/
theorem Post.replace (hr : HR P μ h w) {id : Nat} {ob ob' : Ob} {L L' : Loc} (hg : h.bs.get id = some ob) (hl : μ id = some L) (hb : L'.blk = L.blk) (hn : μ h.next = none)
    (hs : w'.heap.size = w.heap.size) (hk : ∀ k, k ≠ L.blk → w'.heap[k]? = w.heap[k]?) (hos : w'.os = w.os) (ht : w'.tape = w.tape) (hout : w'.output = w.output)
    (ho : OR P (μ.add h.next L') L' ob' w') : Post P μ h w (μ.add h.next L') ((h.del id).alloc ob') w' := by
  have hext : μ.Ext (μ.add h.next L') := Mu.add_ext L' hn
  have hget : ∀ {j o}, ((h.del id).alloc ob').bs.get j = some o → (j = h.next ∧ o = ob') ∨ (j ≠ h.next ∧ j ≠ id ∧ h.bs.get j = some o) := by
    intro j o hj
    rw [alloc_eq, mdel_eq] at hj
    simp only [PM.set_get, PM.del_get] at hj
    by_cases e : j = h.next
    · rw [if_pos e] at hj; cases hj; exact .inl ⟨e, rfl⟩
    · rw [if_neg e] at hj
      by_cases e' : j = id
      · rw [if_pos e'] at hj; cases hj
      · rw [if_neg e'] at hj; exact .inr ⟨e, e', hj⟩
  have hnext : ((h.del id).alloc ob').next = h.next + 1 := by rw [alloc_eq, mdel_eq]
  refine ⟨hext, fun i hi => ?_, by omega, ⟨fun i o hi => ?_, fun i i' o1 o2 L1 L2 hi hi' hne h1 h2 => ?_⟩,
    ⟨hos, ht, hout, by omega, fun k _ hn => hk k fun e => hn (e ▸ live_of hg hl)⟩, fun B hB => ?_⟩
  · by_cases e : i = h.next
    · subst e; exact ⟨Nat.le_refl _, by omega⟩
    · exact absurd (Mu.add_other L' e) hi
  · rcases hget hi with ⟨e, rfl⟩ | ⟨e, e', hj⟩
    · subst e; exact ⟨L', Mu.add_same _ _, ho⟩
    · obtain ⟨M, h1, h2⟩ := hr.dom i o hj
      exact ⟨M, hext _ _ h1, h2.mono hext (hk _ (hr.inj i id o ob M L hj hg e' h1 hl))⟩
  · rcases hget hi with ⟨e, rfl⟩ | ⟨e, e', hj⟩
    · rcases hget hi' with ⟨f, rfl⟩ | ⟨f, f', hj'⟩
      · exact absurd (e.trans f.symm) hne
      · subst e
        rw [Mu.add_same] at h1; cases h1
        rw [Mu.add_other L' f] at h2
        rw [hb]
        exact fun x => hr.inj i' id o2 ob L2 L hj' hg f' h2 hl x.symm
    · rw [Mu.add_other L' e] at h1
      rcases hget hi' with ⟨f, rfl⟩ | ⟨f, f', hj'⟩
      · subst f
        rw [Mu.add_same] at h2; cases h2
        rw [hb]
        exact hr.inj i id o1 ob L1 L hj hg e' h1 hl
      · rw [Mu.add_other L' f] at h2
        exact hr.inj i i' o1 o2 L1 L2 hj hj' hne h1 h2
  · obtain ⟨i, o, M, hi, hl', rfl⟩ := hB
    rcases hget hi with ⟨e, rfl⟩ | ⟨e, e', hj⟩
    · subst e
      rw [Mu.add_same] at hl'; cases hl'
      left; rw [hb]; exact live_of hg hl
    · rw [Mu.add_other L' e] at hl'
      exact .inl (live_of hj hl')

/-- The world with its draws counted otherwise. -/
theorem HR.drawn (hr : HR P μ h w) (n : Nat) : HR P μ h { w with drawn := n } :=
  ⟨fun id ob hg => let ⟨L, a, b⟩ := hr.dom id ob hg; ⟨L, a, b.mono (.refl μ) rfl⟩, hr.inj⟩
theorem Post.drawn (hr : HR P μ h w) (n : Nat) : Post P μ h w μ h { w with drawn := n } :=
  ⟨.refl μ, fun _ h => absurd rfl h, Nat.le_refl _, hr.drawn n, ⟨rfl, rfl, rfl, Nat.le_refl _, fun _ _ _ => rfl⟩, fun _ h => .inl h⟩
end

/- running -/
section
variable {P : Program} {T : Tab} (ok : TabOk P T)
include ok
theorem run_isAgg {t : TypeId} {b : Bool} (h : T.agg t = some b) (w : World) : (isAgg t).run P w = .ok b w := by
  obtain ⟨d, hd, hb⟩ := ok.agg h
  unfold isAgg
  rw [Sem.run_bind, run_underlying hd]
  cases d <;> simp_all [isAggD]
theorem run_size {t : TypeId} {n : Nat} (h : T.size t = some n) (w : World) : (sizeOf t).run P w = .ok n w := by
  obtain ⟨info, hi, hn⟩ := ok.size h
  simp [sizeOf, typeInfo, hi, hn]
theorem run_und {t : TypeId} {d : TypeDesc} (h : T.und t = some d) (w : World) : (underlying t).run P w = .ok d w := run_underlying (ok.und h) w
theorem run_zero {t : TypeId} {z : Value} (h : T.zero t = some z) (w : World) : (zeroValue t).run P w = .ok z w := by
  obtain ⟨info, hi, hz, _⟩ := ok.zero h
  simp [zeroValue, typeInfo, hi, hz]
end
end Go.AE
