/- The evaluator's tries: what they hold. -/
import Derived.Test.YtgambdjpncpdaaaGreatDoorEv
namespace Go.AE
namespace PM
variable {α : Type}
theorem ndiv (a b : Nat) : Nat.div a b = a / b := rfl
theorem nmod (a b : Nat) : Nat.mod a b = a % b := rfl
theorem get_leaf (n : Nat) : (PM.leaf : PM α).get n = none := rfl
theorem get_zero (l : PM α) (v : Option α) (r : PM α) : (PM.node l v r).get 0 = v := rfl
theorem get_succ (l : PM α) (v : Option α) (r : PM α) (k : Nat) :
    (PM.node l v r).get (k + 1) = if k % 2 = 0 then l.get (k / 2) else r.get (k / 2) := by
  show cond (Nat.beq (k % 2) 0) (l.get (k / 2)) (r.get (k / 2)) = _
  by_cases h : k % 2 = 0
  · simp [h]
  · have : k % 2 = 1 := by omega
    rw [if_neg h, this]; rfl
theorem putN_zero (go : PM α → Nat → Option α → PM α) (l : PM α) (v : Option α) (r : PM α) (x : Option α) : putN go l v r 0 x = .node l x r := rfl
theorem putN_succ (go : PM α → Nat → Option α → PM α) (l : PM α) (v : Option α) (r : PM α) (k : Nat) (x : Option α) :
    putN go l v r (k + 1) x = if k % 2 = 0 then .node (go l (k / 2) x) v r else .node l v (go r (k / 2) x) := by
  show cond (Nat.beq (k % 2) 0) (PM.node (go l (k / 2) x) v r) (PM.node l v (go r (k / 2) x)) = _
  by_cases h : k % 2 = 0
  · simp [h]
  · have : k % 2 = 1 := by omega
    rw [if_neg h, this]; rfl
theorem put_succ (d : Nat) (t : PM α) (n : Nat) (x : Option α) : put (d + 1) t n x = match t with
    | .leaf => putN (put d) .leaf none .leaf n x
    | .node l v r => putN (put d) l v r n x := by cases t <;> rfl
theorem putN_get (go : PM α → Nat → Option α → PM α) (l : PM α) (v : Option α) (r : PM α) (n : Nat) (x : Option α) (m : Nat)
    (h : ∀ (t : PM α) (k : Nat), n = 2 * k + 1 ∨ n = 2 * k + 2 → ∀ j, (go t k x).get j = if j = k then x else t.get j) :
    (putN go l v r n x).get m = if m = n then x else (PM.node l v r).get m := by
  cases n with
  | zero =>
    rw [putN_zero]
    cases m with
    | zero => simp [get_zero]
    | succ j => simp [get_succ]
  | succ k =>
    rw [putN_succ]
    by_cases hk : k % 2 = 0
    · rw [if_pos hk]
      cases m with
      | zero => simp [get_zero]
      | succ j =>
        rw [get_succ, get_succ, h l (k / 2) (.inl (by omega))]
        by_cases hj : j % 2 = 0
        · rw [if_pos hj, if_pos hj]
          by_cases e : j / 2 = k / 2
          · rw [if_pos e, if_pos (by omega)]
          · rw [if_neg e, if_neg (by omega)]
        · rw [if_neg hj, if_neg hj, if_neg (by omega)]
    · rw [if_neg hk]
      cases m with
      | zero => simp [get_zero]
      | succ j =>
        rw [get_succ, get_succ, h r (k / 2) (.inr (by omega))]
        by_cases hj : j % 2 = 0
        · rw [if_pos hj, if_pos hj, if_neg (by omega)]
        · rw [if_neg hj, if_neg hj]
          by_cases e : j / 2 = k / 2
          · rw [if_pos e, if_pos (by omega)]
          · rw [if_neg e, if_neg (by omega)]
theorem put_get : ∀ (d : Nat) (t : PM α) (n : Nat) (x : Option α) (m : Nat), n < d → (put d t n x).get m = if m = n then x else t.get m := by
  intro d
  induction d with
  | zero => intro t n x m h; omega
  | succ d ih =>
    intro t n x m h
    rw [put_succ]
    have go : ∀ (t : PM α) (k : Nat), n = 2 * k + 1 ∨ n = 2 * k + 2 → ∀ j, (put d t k x).get j = if j = k then x else t.get j := by
      intro t k hk j
      exact ih t k x j (by omega)
    cases t with
    | leaf =>
      show (putN (put d) PM.leaf none PM.leaf n x).get m = _
      rw [putN_get _ _ _ _ _ _ _ go, get_leaf]
      congr 1
      cases m with
      | zero => rfl
      | succ j => rw [get_succ]; split <;> rfl
    | node l v r =>
      show (putN (put d) l v r n x).get m = _
      rw [putN_get _ _ _ _ _ _ _ go]
theorem set_get (t : PM α) (n : Nat) (x : α) (m : Nat) : (t.set n x).get m = if m = n then some x else t.get m := put_get _ _ _ _ _ (by omega)
theorem del_get (t : PM α) (n : Nat) (m : Nat) : (t.del n).get m = if m = n then none else t.get m := put_get _ _ _ _ _ (by omega)
theorem set_same (t : PM α) (n : Nat) (x : α) : (t.set n x).get n = some x := by simp [set_get]
theorem set_other (t : PM α) {n m : Nat} (x : α) (h : m ≠ n) : (t.set n x).get m = t.get m := by simp [set_get, h]
theorem fill_get : ∀ (l : List α) (t : PM α) (n m : Nat), (t.fill n l).get m = if n ≤ m ∧ m < n + l.length then l[m - n]? else t.get m := by
  intro l
  induction l with
  | nil => intro t n m; simp only [fill, List.length_nil]; rw [if_neg (by omega)]
  | cons x xs ih =>
    intro t n m
    rw [fill, ih, set_get]
    simp only [List.length_cons]
    by_cases h : m = n
    · subst h
      rw [if_neg (by omega), if_pos rfl, if_pos (by omega)]
      simp
    · rw [if_neg h]
      by_cases h2 : n + 1 ≤ m ∧ m < n + 1 + xs.length
      · rw [if_pos h2, if_pos (by omega)]
        obtain ⟨j, rfl⟩ : ∃ j, m = n + 1 + j := ⟨m - (n + 1), by omega⟩
        rw [show n + 1 + j - (n + 1) = j by omega, show n + 1 + j - n = j + 1 by omega]
        simp
      · rw [if_neg h2, if_neg (by omega)]
theorem ofList_get (l : List α) (m : Nat) : (ofList l).get m = l[m]? := by
  rw [ofList, fill_get, get_leaf]
  by_cases h : m < l.length
  · rw [if_pos (by omega)]; simp
  · rw [if_neg (by omega), List.getElem?_eq_none (by omega)]
theorem row_spec : ∀ (n i : Nat) (t : PM α) (l : List α), t.row n i = some l → l.length = n ∧ ∀ j, j < n → t.get (i + j) = l[j]? := by
  intro n
  induction n with
  | zero =>
    intro i t l h
    simp only [row, Option.some.injEq] at h
    subst h
    exact ⟨rfl, fun j hj => by omega⟩
  | succ n ih =>
    intro i t l h
    simp only [row] at h
    cases hx : t.get i with
    | none => rw [hx] at h; simp at h
    | some x =>
      rw [hx] at h
      simp only at h
      cases hr : t.row n (i + 1) with
      | none => rw [hr] at h; simp at h
      | some l' =>
        rw [hr] at h
        simp only [Option.some.injEq] at h
        subst h
        obtain ⟨h1, h2⟩ := ih _ _ _ hr
        refine ⟨by simp [h1], fun j hj => ?_⟩
        cases j with
        | zero => simpa using hx
        | succ j =>
          have := h2 j (by omega)
          rw [show i + 1 + j = i + (j + 1) by omega] at this
          simpa using this
end PM
end Go.AE
