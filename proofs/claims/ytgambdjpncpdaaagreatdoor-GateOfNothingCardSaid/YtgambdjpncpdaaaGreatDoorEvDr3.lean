/- Regions that draw their order: values that are compared, operations that read. -/
import Derived.Test.YtgambdjpncpdaaaGreatDoorEvDr2
namespace Go.AE

theorem vAddr_eq {a b : Addr} (h : vAddr a b = true) : a = b := by
  unfold vAddr at h
  simp only [Bool.and_eq_true, Option.isNone_iff_eq_none] at h
  obtain ⟨⟨⟨h1, h2⟩, h3⟩, h4⟩ := h
  obtain ⟨x, y, z⟩ := a
  obtain ⟨x', y', z'⟩ := b
  have e1 : x = x' := by simpa using h1
  have e2 : y = y' := by simpa using h2
  simp only at h3 h4
  subst e1 e2 h3 h4
  rfl
theorem txt_inj {a b : ByteArray} (h : beqL (txt a) (txt b) = true) : a = b := by
  rw [beqL_eq] at h
  have h : a.data.toList = b.data.toList := by simpa [txt] using h
  obtain ⟨⟨x⟩⟩ := a
  obtain ⟨⟨y⟩⟩ := b
  simp only at h
  rw [h]
theorem veq0_eq {a b : Value} (h : veq0 a b = true) : a = b := by
  unfold veq0 at h
  split at h
  · rename_i x y; cases x <;> cases y <;> first | rfl | (cases h)
  · simp only [Bool.and_eq_true] at h
    have := kindEq_eq h.1; subst this
    have := h.2; rw [intEq_eq] at this
    have := eq_of_beq this; subst this; rfl
  · simp only [Bool.and_eq_true] at h
    have := fkindEq_eq h.1; subst this
    have : _ = _ := Nat.eq_of_beq_eq_true h.2; subst this; rfl
  · rw [txt_inj h]
  · rfl
  · rw [vAddr_eq h]
  · simp only [Bool.and_eq_true] at h
    have h1 := Nat.eq_of_beq_eq_true h.1
    have h2 := Nat.eq_of_beq_eq_true h.2
    subst h1 h2; rfl
  · simp only [Bool.and_eq_true] at h
    have h0 := vAddr_eq h.1.1
    have h1 := Nat.eq_of_beq_eq_true h.1.2
    have h2 := Nat.eq_of_beq_eq_true h.2
    subst h0 h1 h2; rfl
  · rfl
  · have := Nat.eq_of_beq_eq_true h; subst this; rfl
  · rfl
  · rfl
  · simp only [Bool.and_eq_true] at h
    have h0 := fkindEq_eq h.1.1
    have h1 := Nat.eq_of_beq_eq_true h.1.2
    have h2 := Nat.eq_of_beq_eq_true h.2
    subst h0 h1 h2; rfl
  · cases h
theorem veq1_eq {a b : Value} (h : veq1 a b = true) : a = b := by
  unfold veq1 at h
  split at h
  · simp only [Bool.and_eq_true] at h
    have h1 := Nat.eq_of_beq_eq_true h.1
    have h2 := veq0_eq h.2
    subst h1 h2; rfl
  · exact veq0_eq h
theorem veqL_eq {f : Value → Value → Bool} (hf : ∀ a b, f a b = true → a = b) : ∀ {l m : List Value}, veqL f l m = true → l = m
  | [], [], _ => rfl
  | [], _ :: _, h => by cases h
  | _ :: _, [], h => by cases h
  | a :: l, b :: m, h => by
    unfold veqL at h
    cases hab : f a b with
    | false => rw [hab] at h; cases h
    | true =>
      rw [hab] at h
      rw [hf a b hab, veqL_eq hf h]
theorem arr_of {l m : Array Value} (h : l.toList = m.toList) : l = m := by
  obtain ⟨l⟩ := l
  obtain ⟨m⟩ := m
  simp only at h
  rw [h]
theorem veq2_eq {a b : Value} (h : veq2 a b = true) : a = b := by
  unfold veq2 at h
  split at h
  · rw [arr_of (veqL_eq (fun _ _ => veq1_eq) h)]
  · exact veq1_eq h
theorem veq_eq {a b : Value} (h : veq a b = true) : a = b := by
  unfold veq at h
  split at h
  · rw [arr_of (veqL_eq (fun _ _ => veq2_eq) h)]
  · exact veq2_eq h

/- operations that read -/
section
variable {T : Tab} {h h' : Mem} {v : Value}
theorem val_same {o : Option Value} (hv : val h o = some (.value v h')) : h' = h := by
  obtain ⟨u, _, h1⟩ := val_some hv
  cases h1; rfl
theorem int_same {k : IntKind} {n : Int} (hv : int h k n = some (.value v h')) : h' = h := by
  have := int_some hv; cases this; rfl
theorem lookup_same {t : TypeId} {cok : Bool} {x y : Option Value} (hv : lookupV T h t cok x y = some (.value v h')) : h' = h := by
  unfold lookupV at hv
  split at hv
  · split at hv
    · split at hv
      · unfold lookupR at hv
        split at hv
        · cases hv; rfl
        · split at hv
          · cases hv; rfl
          · cases hv
        · cases hv
      · cases hv
    · cases hv
  · cases hv
theorem len_same {x : Value} {d : Option TypeDesc} (hv : lenV h x d = some (.value v h')) : h' = h := by
  unfold lenV at hv
  split at hv
  · split at hv
    · exact int_same hv
    · simp only [frN_eq, Option.some.injEq, Rs.value.injEq] at hv; exact hv.2.symm
    · cases hv
  · split at hv
    · exact int_same hv
    · cases hv
  · exact int_same hv
  · split at hv
    · split at hv
      · exact int_same hv
      · cases hv
    · cases hv
  · cases hv
theorem mkSlice_next {e : TypeId} {size len cap : Nat} {c : PM Value} (hv : mkSlice h e size len cap c = some (.value v h')) : h'.next = h.next + 1 := by
  simp only [mkSlice, frN_eq, Option.some.injEq, Rs.value.injEq] at hv
  obtain ⟨_, rfl⟩ := hv
  rw [alloc_eq]
theorem conv_same {s d : Option TypeDesc} {x : Option Value} (hv : convS T h s d x = some (.value v h')) (hn : h'.next = h.next) : h' = h := by
  unfold convS at hv
  split at hv
  · unfold convV at hv
    split at hv
    · split at hv
      · exact int_same hv
      · simp only [frN_eq] at hv; cases hv; rfl
      · cases hv
    · split at hv
      · unfold floatIntV at hv
        split at hv
        · unfold floatInt at hv
          split at hv
          · cases hv
          · exact int_same hv
        · cases hv
      · split at hv
        · cases hv; rfl
        · cases hv
      · cases hv
    · split at hv
      · cases hv; rfl
      · unfold toBytesV at hv
        split at hv
        · have := mkSlice_next hv; omega
        · cases hv
      · cases hv
    · split at hv
      · unfold ofBytesV at hv
        split at hv
        · unfold ofBytes at hv
          split at hv
          · split at hv
            · cases hv; rfl
            · cases hv
          · cases hv
        · cases hv
      · cases hv
    · cases hv
  · cases hv
theorem read_same {op : Op} {ρ : PM Value} (hr : clsOf op = .read) (hv : opA op T ρ h = some (.value v h')) (hn : h'.next = h.next) : h' = h := by
  cases op with
  | load t a => exact val_same (o := loadV T h t (eval a ρ)) hv
  | lookup t x ix cok => exact lookup_same (x := eval x ρ) (y := eval ix ρ) hv
  | slice t x lo hi mx => exact val_same (o := sliceV T h t (eval x ρ) (evalO ρ lo) (evalO ρ hi) (evalO ρ mx)) hv
  | convert s d x => exact conv_same (s := T.und s) (d := T.und d) (x := eval x ρ) hv hn
  | call c =>
    replace hv : callV T ρ h c (evals ρ c.args.toList) = some (.value v h') := hv
    replace hr : clsC c.callee = .read := hr
    unfold callV at hv
    split at hv
    · cases hc : c.callee with
      | value f => rw [hc] at hr; cases hr
      | invoke r m => rw [hc] at hr; cases hr
      | builtin b =>
        rw [hc] at hr hv
        replace hr : clsB b = .read := hr
        cases b <;> first | (cases hr) | skip
        simp only [builtinV] at hv
        split at hv
        · exact len_same hv
        · cases hv
    · cases hv
  | _ => cases hr
end

/-- What the check of the reading operations says. -/
theorem rds_ok {T : Tab} {all : List Oper} {sts : List Sg} : ∀ {l : List Rd}, rdsOk T all sts l = true → ∀ r ∈ l, rdOne T all sts r = true
  | [], _, r, h => by simp at h
  | x :: l, h, r, hr => by
    unfold rdsOk at h
    cases hx : rdOne T all sts x with
    | false => rw [hx] at h; cases h
    | true =>
      rw [hx] at h
      rcases List.mem_cons.1 hr with e | hr
      · subst e; exact hx
      · exact rds_ok h r hr
theorem rdQs_ok {T : Tab} {op : Op} {ρ : PM Value} {v : Value} {sts : List Sg} : ∀ {l : List Nat}, rdQs T op ρ v sts l = true → ∀ q ∈ l, rdAt T op ρ v sts[q]? = true
  | [], _, r, h => by simp at h
  | x :: l, h, r, hr => by
    unfold rdQs at h
    cases hx : rdAt T op ρ v sts[x]? with
    | false => rw [hx] at h; cases h
    | true =>
      rw [hx] at h
      rcases List.mem_cons.1 hr with e | hr
      · subst e; exact hx
      · exact rdQs_ok h r hr
theorem read_ok {T : Tab} {all : List Oper} {sts : List Sg} {r : Rd} {s s' z : Sg} {q : Nat} (h : rdOne T all sts r = true) (h1 : sts[r.it.ix]? = some s) (h2 : sts[r.it.ix + 1]? = some s')
    (hdd : s.dead = none) (hz : sts[q]? = some z) (hq : q ∈ r.qs) (hw : wantedG all (envOf s.ρ r.it.names) r.it.o.guard = some true) (hc : clsOf r.it.o.op = .read) :
    opA r.it.o.op T (envOf s.ρ r.it.names) z.h = some (.value s'.v z.h) := by
  unfold rdOne at h
  rw [h1, show Nat.succ r.it.ix = r.it.ix + 1 from rfl, h2] at h
  simp only [rdD, hdd, rdE, hw, rdW] at h
  have := rdQs_ok h q hq
  rw [hz] at this
  unfold rdAt rdV at this
  simp only at this
  split at this
  · rename_i u h' ho
    simp only [Bool.and_eq_true] at this
    have hn : h'.next = z.h.next := Nat.eq_of_beq_eq_true this.1
    have hq := veq_eq this.2
    have := read_same hc ho hn
    subst this
    rw [ho, hq]
  · cases this

theorem envOf_get {ρ : PM Value} : ∀ {l : List Tmp} {t : Tmp} {u : Value}, (envOf ρ l).get t = some u → t ∈ l ∧ ρ.get t = some u
  | [], t, u, h => by cases h
  | x :: l, t, u, h => by
    unfold envOf at h
    cases hx : ρ.get x with
    | none =>
      rw [hx] at h
      obtain ⟨h1, h2⟩ := envOf_get h
      exact ⟨List.mem_cons_of_mem _ h1, h2⟩
    | some v =>
      rw [hx] at h
      simp only [PM.set_get] at h
      by_cases e : t = x
      · rw [if_pos e] at h; cases h; subst e
        exact ⟨List.mem_cons_self .., hx⟩
      · rw [if_neg e] at h
        obtain ⟨h1, h2⟩ := envOf_get h
        exact ⟨List.mem_cons_of_mem _ h1, h2⟩
end Go.AE
