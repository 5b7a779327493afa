/- Regions that draw their order: what the check of a region says. -/
import Derived.Test.YtgambdjpncpdaaaGreatDoorEvSt
import Derived.Orders
namespace Go.AE

theorem allIt_get {p : It → Bool} : ∀ {l : List It}, allIt p l = true → ∀ (i : Nat) (x : It), l[i]? = some x → p x = true
  | [], _, i, x, h => by simp at h
  | y :: l, h, i, x, hx => by
    unfold allIt at h
    cases hy : p y with
    | false => rw [hy] at h; cases h
    | true =>
      rw [hy] at h
      cases i with
      | zero => simp at hx; subst hx; exact hy
      | succ i => exact allIt_get h i x (by simpa using hx)
theorem allIt_of {p : It → Bool} : ∀ {l : List It}, (∀ (i : Nat) (x : It), l[i]? = some x → p x = true) → allIt p l = true
  | [], _ => rfl
  | y :: l, h => by
    unfold allIt
    rw [h 0 y (by simp)]
    exact allIt_of fun i x hx => h (i + 1) x (by simpa using hx)

theorem mkIts_get (all : List Oper) : ∀ (l : List Oper) (i k : Nat) (ms : List Nat) (p : Nat) (x : It), (mkIts all l i k ms)[p]? = some x →
    x.ix = i + p ∧ l[p]? = some x.o ∧ ms[p]? = some x.mask ∧ x.names = namesOf all x.o ∧ x.cls = clsOf x.o.op
  | [], i, k, ms, p, x, h => by simp [mkIts] at h
  | o :: l, i, k, [], p, x, h => by simp [mkIts] at h
  | o :: l, i, k, m :: ms, p, x, h => by
    cases p with
    | zero => simp [mkIts] at h; subst h; simp
    | succ p =>
      simp only [mkIts, List.getElem?_cons_succ] at h
      obtain ⟨h1, h2, h3, h4⟩ := mkIts_get all l _ _ ms p x h
      exact ⟨by rw [h1, Nat.succ_eq_add_one]; omega, h2, h3, h4⟩
theorem nextRank_le (c : Cls) (k : Nat) : k ≤ nextRank c k ∧ (isFresh c = true → nextRank c k = k + 1) ∧ nextRank c k = k + nextRank c 0 := by
  cases c <;> simp [nextRank, isFresh]
theorem mkIts_rank (all : List Oper) : ∀ (l : List Oper) (i k : Nat) (ms : List Nat),
    (∀ (p : Nat) (x : It), (mkIts all l i k ms)[p]? = some x → k ≤ x.rank ∧ (isFresh x.cls = true → x.rank < k + countF (mkIts all l i k ms))) ∧
    (∀ (p p' : Nat) (x x' : It), (mkIts all l i k ms)[p]? = some x → (mkIts all l i k ms)[p']? = some x' → p < p' → isFresh x.cls = true → x.rank < x'.rank)
  | [], i, k, ms => by simp [mkIts]
  | o :: l, i, k, [] => by simp [mkIts]
  | o :: l, i, k, m :: ms => by
    obtain ⟨h1, h2⟩ := mkIts_rank all l (Nat.succ i) (nextRank (clsOf o.op) k) ms
    have hc := nextRank_le (clsOf o.op) k
    have hk : countF (mkIts all (o :: l) i k (m :: ms)) = nextRank (clsOf o.op) (countF (mkIts all l (Nat.succ i) (nextRank (clsOf o.op) k) ms)) := rfl
    have hd := nextRank_le (clsOf o.op) (countF (mkIts all l (Nat.succ i) (nextRank (clsOf o.op) k) ms))
    refine ⟨fun p x hx => ?_, fun p p' x x' hx hx' hlt hf => ?_⟩
    · cases p with
      | zero =>
        simp [mkIts] at hx; subst hx
        refine ⟨Nat.le_refl _, fun hf => ?_⟩
        rw [hk]
        have := hd.2.1 hf
        simp only at *
        omega
      | succ p =>
        simp only [mkIts, List.getElem?_cons_succ] at hx
        obtain ⟨h3, h4⟩ := h1 p x hx
        refine ⟨by omega, fun hf => ?_⟩
        have := h4 hf
        rw [hk]
        omega
    · cases p' with
      | zero => omega
      | succ p' =>
        simp only [mkIts, List.getElem?_cons_succ] at hx'
        cases p with
        | zero =>
          simp [mkIts] at hx; subst hx
          have := (h1 p' x' hx').1
          have := hc.2.1 hf
          simp only at *
          omega
        | succ p =>
          simp only [mkIts, List.getElem?_cons_succ] at hx
          exact h2 p p' x x' hx hx' (by omega) hf

theorem maskE_bit (ms : List Nat) : ∀ (l : List Edge) (m : Nat), maskE ms l = some m → ∀ j, m.testBit j = true →
    ∃ e ∈ l, Region.binds .any e = true ∧ (j = e.on ∨ ∃ p, ms[e.on]? = some p ∧ p.testBit j = true)
  | [], m, h, j, hj => by cases h; simp at hj
  | e :: l, m, h, j, hj => by
    unfold maskE at h
    cases hb : Region.binds .any e with
    | false =>
      rw [hb] at h
      obtain ⟨e', h1, h2⟩ := maskE_bit ms l m h j hj
      exact ⟨e', List.mem_cons_of_mem _ h1, h2⟩
    | true =>
      rw [hb] at h
      simp only at h
      cases hp : ms[e.on]? with
      | none => rw [hp] at h; cases h
      | some p =>
        rw [hp] at h
        cases hm : maskE ms l with
        | none => rw [hm] at h; cases h
        | some n =>
          rw [hm] at h
          simp only [Option.some.injEq] at h
          subst h
          change ((2 ^ e.on ||| p) ||| n).testBit j = true at hj
          rw [Nat.testBit_or, Nat.testBit_or, Nat.testBit_two_pow] at hj
          simp only [Bool.or_eq_true, decide_eq_true_eq] at hj
          rcases hj with (hj | hj) | hj
          · exact ⟨e, List.mem_cons_self .., hb, .inl hj.symm⟩
          · exact ⟨e, List.mem_cons_self .., hb, .inr ⟨p, hp, hj⟩⟩
          · obtain ⟨e', h1, h2⟩ := maskE_bit ms l n hm j hj
            exact ⟨e', List.mem_cons_of_mem _ h1, h2⟩
theorem edgesLt_mem {n : Nat} : ∀ {l : List Edge}, edgesLt n l = true → ∀ e ∈ l, Region.binds .any e = true → e.on < n
  | [], _, e, he, _ => by simp at he
  | x :: l, h, e, he, hb => by
    unfold edgesLt at h
    cases hx : Region.binds .any x with
    | false =>
      rw [hx] at h
      rcases List.mem_cons.1 he with rfl | he
      · rw [hx] at hb; cases hb
      · exact edgesLt_mem h e he hb
    | true =>
      rw [hx] at h
      simp only at h
      cases hl : Nat.blt x.on n with
      | false => rw [hl] at h; cases h
      | true =>
        rw [hl] at h
        rcases List.mem_cons.1 he with rfl | he
        · simpa [Nat.blt_eq] using hl
        · exact edgesLt_mem h e he hb

theorem hasT_mem {t : Tmp} : ∀ {l : List Tmp}, t ∈ l → hasT t l = true
  | [], h => by simp at h
  | u :: l, h => by
    unfold hasT
    cases hu : Nat.beq t u with
    | true => rfl
    | false =>
      rcases List.mem_cons.1 h with e | h
      · subst e; simp at hu
      · exact hasT_mem h

/-- What is known of a region that has passed the check. -/
structure RegOk (all : List Oper) (its : List It) (nf : Nat) : Prop where
  len : its.length = all.length
  ix : ∀ (i : Nat) (x : It), its[i]? = some x → x.ix = i
  o : ∀ (i : Nat) (x : It), its[i]? = some x → all[i]? = some x.o
  lt : ∀ (i : Nat) (x : It), its[i]? = some x → ∀ e ∈ x.o.after.toList, Region.binds .any e = true → e.on < i
  mask : ∀ (i : Nat) (x : It), its[i]? = some x → ∀ j, x.mask.testBit j = true →
    ∃ e ∈ x.o.after.toList, Region.binds .any e = true ∧ (j = e.on ∨ ∃ y, its[e.on]? = some y ∧ y.mask.testBit j = true)
  pair : ∀ (j i : Nat) (x y : It), its[j]? = some x → its[i]? = some y → j < i → clash x y = true → y.mask.testBit j = true
  cls : ∀ (i : Nat) (x : It), its[i]? = some x → x.cls = clsOf x.o.op
  rank : ∀ (i : Nat) (x : It), its[i]? = some x → isFresh x.cls = true → x.rank < nf
  ranks : ∀ (i j : Nat) (x y : It), its[i]? = some x → its[j]? = some y → isFresh x.cls = true → isFresh y.cls = true → x.rank = y.rank → i = j

theorem qsGo_mem (its : List It) (i : It) : ∀ (n q : Nat), q ≤ n → bnd its q = true → allIt (winOne i q) its = true → q ∈ qsGo its i n
  | 0, q, hq, hb, hw => by
    have : q = 0 := by omega
    subst this
    unfold qsGo
    rw [hw]; simp
  | n + 1, q, hq, hb, hw => by
    unfold qsGo
    by_cases e : q = n + 1
    · subst e
      rw [show Nat.succ n = n + 1 from rfl, hb, hw]; simp
    · have := qsGo_mem its i n q (by omega) hb hw
      split
      · exact List.mem_cons_of_mem _ this
      · exact this
theorem rdsGo_mem (its : List It) : ∀ (l : List It) (i : Nat) (x : It), l[i]? = some x → isRead x.cls = true → { it := x, qs := qsGo its x its.length } ∈ rdsGo its l
  | [], i, x, h, _ => by simp at h
  | y :: l, i, x, h, hr => by
    unfold rdsGo
    cases i with
    | zero => simp at h; subst h; rw [hr]; exact List.mem_cons_self ..
    | succ i =>
      have := rdsGo_mem its l i x (by simpa using h) hr
      split
      · exact List.mem_cons_of_mem _ this
      · exact this

theorem regInfo_ok {all : List Oper} {ri : RI} (h : regInfo all = some ri) : RegOk all ri.its ri.nf ∧ ri.rds = rdsGo ri.its ri.its := by
  unfold regInfo riMs riChk at h
  generalize hms : masksGo [] all = ms at h
  generalize hits : mkIts all all 0 0 ms = its at h
  split at h
  · rename_i hc
    cases h
    simp only [Bool.and_eq_true] at hc
    obtain ⟨h1, h2⟩ := hc
    have hg := fun p x hx => mkIts_get all all 0 0 ms p x (by rw [hits]; exact hx)
    have hr := mkIts_rank all all 0 0 ms
    rw [hits] at hr
    have hok : ∀ (i : Nat) (x : It), its[i]? = some x → itOk ms its x = true := fun i x hx => allIt_get h2 i x hx
    have hok' : ∀ (i : Nat) (x : It), its[i]? = some x → edgesLt x.ix x.o.after.toList = true ∧ maskIs x.mask (maskE ms x.o.after.toList) = true ∧ allIt (fun y => prOk y x) its = true := fun i x hx => by
      have := hok i x hx
      unfold itOk at this
      simp only [Bool.and_eq_true] at this
      exact ⟨this.1.1, this.1.2, this.2⟩
    have hlen : its.length = all.length := by simpa using h1
    have hix : ∀ (i : Nat) (x : It), its[i]? = some x → x.ix = i := fun i x hx => by have := (hg i x hx).1; omega
    have hlt : ∀ (i : Nat) (x : It), its[i]? = some x → ∀ e ∈ x.o.after.toList, Region.binds .any e = true → e.on < i := fun i x hx e he hb => by
      have := edgesLt_mem (hok' i x hx).1 e he hb
      rwa [hix i x hx] at this
    have hrr : ∀ (i j : Nat) (x y : It), its[i]? = some x → its[j]? = some y → isFresh x.cls = true → i < j → x.rank < y.rank := fun i j x y hx hy hf hij => hr.2 i j x y hx hy hij hf
    refine ⟨⟨hlen, hix, fun i x hx => (hg i x hx).2.1, hlt, fun i x hx j hj => ?_, fun j i x y hx hy hji hcl => ?_, fun i x hx => (hg i x hx).2.2.2.2, fun i x hx hf => ?_, fun i j x y hx hy hf hf' he => ?_⟩, rfl⟩
    · have hm := (hok' i x hx).2.1
      unfold maskIs at hm
      split at hm
      · rename_i n hn
        have : x.mask = n := by simpa using hm
        rw [← this] at hn
        obtain ⟨e, he, hb, hor⟩ := maskE_bit ms _ _ hn j hj
        refine ⟨e, he, hb, hor.imp id fun ⟨p, hp, hpj⟩ => ?_⟩
        have hlt' := hlt i x hx e he hb
        have hi : i < its.length := (List.getElem?_eq_some_iff.1 hx).1
        refine ⟨its[e.on]'(by omega), List.getElem?_eq_getElem _, ?_⟩
        have := (hg e.on _ (List.getElem?_eq_getElem (by omega))).2.2.1
        rw [hp] at this
        cases this
        exact hpj
      · cases hm
    · have := allIt_get (hok' i y hy).2.2 j x hx
      unfold prOk at this
      rw [hix j x hx, hix i y hy, show Nat.blt j i = true by simpa [Nat.blt_eq] using hji] at this
      simp only at this
      cases hb : y.mask.testBit j with
      | true => rfl
      | false => rw [hb, hcl] at this; cases this
    · have := (hr.1 i x hx).2 hf
      simpa using this
    · rcases Nat.lt_trichotomy i j with hlt' | hlt' | hlt'
      · have := hrr i j x y hx hy hf hlt'; omega
      · exact hlt'
      · have := hrr j i y x hy hx hf' hlt'; omega
  · cases h
end Go.AE
