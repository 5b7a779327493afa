/- Regions that draw their order: what the text's own order tells of each operation. -/
import Derived.Test.YtgambdjpncpdaaaGreatDoorEvDr1
namespace Go.AE

/-- One operation, in the order of the text. -/
inductive StepR (T : Tab) (call : CallT) (base : Nat) (all : List Oper) (lst : Bool) (x : It) (s s' : Sg) : Prop where
  | skip (g : wantedG all (envOf s.ρ x.names) x.o.guard = some false) (hv : s'.v = bad) (hh : s'.h = s.h) (hm : s'.made = none) (hp : s'.pd = s.pd) (hl : s'.dead = none) (hu : s'.m = s.m)
  | pure (g : wantedG all (envOf s.ρ x.names) x.o.guard = some true) (h1 : Mem) (ho : opA x.o.op T (envOf s.ρ x.names) ⟨base, .leaf⟩ = some (.value s'.v h1))
      (hn : h1.next = base) (hc : isChain x.cls = false) (hr : isRead x.cls = false) (hh : s'.h = s.h) (hm : s'.made = none) (hp : s'.pd = s.pd) (hl : s'.dead = none) (hu : s'.m = s.m)
  | fresh (g : wantedG all (envOf s.ρ x.names) x.o.guard = some true) (h1 : Mem) (ob : Ob) (ho : opA x.o.op T (envOf s.ρ x.names) ⟨base + x.rank, .leaf⟩ = some (.value s'.v h1))
      (hn : h1.next = base + x.rank + 1) (hb : h1.bs.get (base + x.rank) = some ob) (hf : isFresh x.cls = true) (hh : s'.h = s.h)
      (hm : s'.made = some ⟨x.ix, base + x.rank, ob⟩) (hp : s'.pd = ⟨x.ix, base + x.rank, ob⟩ :: s.pd) (hl : s'.dead = none) (hu : s'.m = s.m)
  | read (g : wantedG all (envOf s.ρ x.names) x.o.guard = some true) (hr : isRead x.cls = true) (hd : s.dead = none) (hh : s'.h = s.h) (hm : s'.made = none) (hp : s'.pd = s.pd) (hl : s'.dead = none) (hu : s'.m = s.m)
  | value (g : wantedG all (envOf s.ρ x.names) x.o.guard = some true) (ho : opA x.o.op T (envOf s.ρ x.names) (merge x.mask s.pd s.h) = some (.value s'.v s'.h))
      (hc : isChain x.cls = true) (hm : s'.made = none) (hp : s'.pd = unmerged x.mask s.pd) (hl : s'.dead = none) (hu : s'.m = s.m)
  | enter (g : wantedG all (envOf s.ρ x.names) x.o.guard = some true) (f : FuncId) (args : List Value) (h1 : Mem) (mx : Option FrameMode)
      (ho : opA x.o.op T (envOf s.ρ x.names) (merge x.mask s.pd s.h) = some (.enter f args h1)) (hcall : call f args none h1 = some (.en (.returned s'.v) mx s'.h))
      (hc : isChain x.cls = true) (hm : s'.made = none) (hp : s'.pd = unmerged x.mask s.pd) (hl : s'.dead = none) (hu : s'.m = s.m)
  | die (g : wantedG all (envOf s.ρ x.names) x.o.guard = some true) (f : FuncId) (args : List Value) (h1 : Mem) (mx : Option FrameMode) (ch : List PanicEntry)
      (ho : opA x.o.op T (envOf s.ρ x.names) (merge x.mask s.pd s.h) = some (.enter f args h1)) (hcall : call f args none h1 = some (.en (.panicked ch) mx s'.h))
      (hc : isChain x.cls = true) (hm : s'.made = none) (hp : s'.pd = unmerged x.mask s.pd) (hv : s'.v = bad) (hl : s'.dead = some (x.o.dst, ch)) (hlast : lst = true) (hu : s'.m = s.m) (hd : s.dead = none)
  | throws (g : wantedG all (envOf s.ρ x.names) x.o.guard = some true) (u : Value)
      (ho : opA x.o.op T (envOf s.ρ x.names) (merge x.mask s.pd s.h) = some (.panic u s'.h))
      (hc : isChain x.cls = true) (hm : s'.made = none) (hp : s'.pd = unmerged x.mask s.pd) (hv : s'.v = bad) (hl : s'.dead = some (x.o.dst, [{ v := u, recovered := false }]))
      (hlast : lst = true) (hu : s'.m = s.m) (hd : s.dead = none)
  | catch_ (g : wantedG all (envOf s.ρ x.names) x.o.guard = some true) (u : FrameMode)
      (ho : opA x.o.op T (envOf s.ρ x.names) (merge x.mask s.pd s.h) = some .recover) (hrec : recoverA s.m = some (s'.v, u))
      (hc : isChain x.cls = true) (hh : s'.h = merge x.mask s.pd s.h) (hm : s'.made = none) (hp : s'.pd = unmerged x.mask s.pd) (hl : s'.dead = none) (hu : s'.m = some u)
  | past (hd : s.dead ≠ none) (hv : s'.v = bad) (hh : s'.h = s.h) (hm : s'.made = none) (hp : s'.pd = s.pd) (hl : s'.dead = s.dead) (hu : s'.m = s.m)

theorem fresh_chain {c : Cls} (h : isFresh c = true) : isChain c = false ∧ isRead c = false := by cases c <;> simp_all [isFresh, isChain, isRead]
theorem read_chain {c : Cls} (h : isRead c = true) : isChain c = false ∧ isFresh c = false := by cases c <;> simp_all [isFresh, isChain, isRead]

theorem pureS_some {s s' : Sg} {dst : Option Tmp} {n : Nat} {r : Option Rs} (h : pureS s dst n r = some s') :
    ∃ v h1, r = some (.value v h1) ∧ h1.next = n ∧ s' = sgPut s dst v := by
  unfold pureS at h
  split at h
  · rename_i v h1
    cases hb : Nat.beq h1.next n with
    | false => rw [hb] at h; cases h
    | true => rw [hb] at h; cases h; exact ⟨v, h1, rfl, by simpa using hb, rfl⟩
  · cases h

theorem stepC_ok {T : Tab} {call : CallT} {base : Nat} {all : List Oper} {lst : Bool} {x : It} {s s' : Sg} (h : stepC T call base all lst x s = some s') :
    s'.ρ = put s.ρ x.o.dst s'.v ∧ StepR T call base all lst x s s' := by
  unfold stepC at h
  cases hdd : s.dead with
  | some p =>
    rw [hdd] at h
    cases h
    exact ⟨rfl, .past (by rw [hdd]; simp) rfl rfl rfl rfl rfl rfl⟩
  | none =>
  rw [hdd] at h
  simp only [stepE] at h
  cases hg : wantedG all (envOf s.ρ x.names) x.o.guard with
  | none => rw [hg] at h; cases h
  | some b =>
  rw [hg] at h
  cases b with
  | false => cases h; exact ⟨rfl, .skip hg rfl rfl rfl rfl rfl rfl⟩
  | true =>
    replace h : clsS T call base lst x s (envOf s.ρ x.names) x.cls = some s' := h
    cases hc : x.cls with
    | pure =>
      rw [hc] at h
      obtain ⟨v, h1, h2, h3, rfl⟩ := pureS_some (show pureS s x.o.dst base (opA x.o.op T (envOf s.ρ x.names) ⟨base, .leaf⟩) = some s' from h)
      exact ⟨rfl, .pure hg h1 h2 h3 (by rw [hc]; rfl) (by rw [hc]; rfl) rfl rfl rfl rfl rfl⟩
    | fresh =>
      rw [hc] at h
      simp only [clsS, frN_eq] at h
      unfold freshS at h
      split at h
      · rename_i v h1 ho
        cases hb : Nat.beq h1.next (Nat.succ (base + x.rank)) with
        | false => rw [hb] at h; cases h
        | true =>
          rw [hb] at h
          simp only at h
          cases hob : h1.bs.get (base + x.rank) with
          | none => rw [hob] at h; cases h
          | some ob =>
            rw [hob] at h
            cases h
            exact ⟨rfl, .fresh hg h1 ob ho (by simpa using hb) hob (by rw [hc]; rfl) rfl rfl rfl rfl rfl⟩
      · cases h
    | read =>
      rw [hc] at h
      obtain ⟨v, h1, h2, h3, rfl⟩ := pureS_some (show pureS s x.o.dst s.h.next (opA x.o.op T (envOf s.ρ x.names) s.h) = some s' from h)
      exact ⟨rfl, .read hg (by rw [hc]; rfl) hdd rfl rfl rfl rfl rfl⟩
    | chain =>
      rw [hc] at h
      replace h : chainS call s x.o.dst x.mask lst (merge x.mask s.pd s.h) (opA x.o.op T (envOf s.ρ x.names) (merge x.mask s.pd s.h)) = some s' := h
      have hcc : isChain x.cls = true := by rw [hc]; rfl
      unfold chainS at h
      split at h
      · rename_i v h1 ho
        cases h
        exact ⟨rfl, .value hg ho hcc rfl rfl rfl rfl⟩
      · rename_i f args h1 ho
        unfold chainR at h
        split at h
        · rename_i v mx h2 hcall
          cases h
          exact ⟨rfl, .enter hg f args h1 mx ho hcall hcc rfl rfl rfl rfl⟩
        · rename_i ch mx h2 hcall
          cases lst with
          | false => cases h
          | true =>
            cases h
            exact ⟨rfl, .die hg f args h1 mx ch ho hcall hcc rfl rfl rfl rfl rfl rfl hdd⟩
        · cases h
      · rename_i u h1 ho
        cases lst with
        | false => cases h
        | true =>
          cases h
          exact ⟨rfl, .throws hg u ho hcc rfl rfl rfl rfl rfl rfl hdd⟩
      · rename_i ho
        unfold chainV at h
        split at h
        · rename_i v u hrec
          cases h
          exact ⟨rfl, .catch_ hg u ho hrec hcc rfl rfl rfl rfl rfl⟩
        · cases h
      · cases h

theorem stepC_kept {T : Tab} {call : CallT} {base : Nat} {all : List Oper} {lst : Bool} {x : It} {s s' : Sg} (h : stepC T call base all lst x s = some s') (hd : s.dead ≠ none) : s'.dead = s.dead := by
  unfold stepC at h
  cases hdd : s.dead with
  | none => exact absurd hdd hd
  | some p =>
    rw [hdd] at h
    cases h
    exact hdd
theorem allBit_get {i : Nat} : ∀ {l : List It}, allBit i l = true → ∀ (k : Nat) (y : It), l[k]? = some y → y.mask.testBit i = true
  | [], _, k, y, h => by simp at h
  | z :: l, hb, k, y, h => by
    unfold allBit at hb
    cases hz : z.mask.testBit i with
    | false => rw [hz] at hb; cases hb
    | true =>
      rw [hz] at hb
      cases k with
      | zero => simp at h; subst h; exact hz
      | succ k => exact allBit_get hb k y (by simpa using h)

theorem trace_get {T : Tab} {call : CallT} {base : Nat} {all : List Oper} : ∀ {its : List It} {s : Sg} {sts : List Sg}, trace T call base all its s = some sts →
    sts.length = its.length + 1 ∧ sts[0]? = some s ∧ ∀ (i : Nat) (x : It), its[i]? = some x → ∃ s s', sts[i]? = some s ∧ sts[i + 1]? = some s' ∧ stepC T call base all (diesOk x (its.drop (i + 1))) x s = some s'
  | [], s, sts, h => by
    cases h
    exact ⟨rfl, rfl, fun i x hx => by simp at hx⟩
  | x :: l, s, sts, h => by
    unfold trace at h
    cases hs : stepC T call base all (diesOk x l) x s with
    | none => rw [hs] at h; cases h
    | some s1 =>
      rw [hs] at h
      simp only [traceK] at h
      cases ht : trace T call base all l s1 with
      | none => rw [ht] at h; cases h
      | some r =>
        rw [ht] at h
        cases h
        obtain ⟨h1, h2, h3⟩ := trace_get ht
        refine ⟨by simp [h1], rfl, fun i y hy => ?_⟩
        cases i with
        | zero => simp at hy; subst hy; exact ⟨s, s1, rfl, by simpa using h2, hs⟩
        | succ i =>
          obtain ⟨a, b, ha, hb, hab⟩ := h3 i y (by simpa using hy)
          exact ⟨a, b, by simpa using ha, by simpa using hb, hab⟩

theorem unmerged_mem {m : Nat} : ∀ {l : List Pd} {p : Pd}, p ∈ unmerged m l ↔ p ∈ l ∧ m.testBit p.ix = false
  | [], p => by simp [unmerged]
  | q :: l, p => by
    unfold unmerged
    cases hq : m.testBit q.ix with
    | true =>
      simp only [unmerged_mem (l := l), List.mem_cons]
      constructor
      · rintro ⟨a, b⟩; exact ⟨.inr a, b⟩
      · rintro ⟨a | a, b⟩
        · subst a; rw [hq] at b; cases b
        · exact ⟨a, b⟩
    | false =>
      simp only [unmerged_mem (l := l), List.mem_cons]
      constructor
      · rintro (a | ⟨a, b⟩)
        · subst a; exact ⟨.inl rfl, hq⟩
        · exact ⟨.inr a, b⟩
      · rintro ⟨a | a, b⟩
        · exact .inl a
        · exact .inr ⟨a, b⟩

/-- The steps of a region in the order of the text. -/
structure Tr (T : Tab) (call : CallT) (base : Nat) (all : List Oper) (its : List It) (s₀ : Sg) (st : Nat → Sg) : Prop where
  zero : st 0 = s₀
  env : ∀ (i : Nat) (x : It), its[i]? = some x → (st (i + 1)).ρ = put (st i).ρ x.o.dst (st (i + 1)).v
  step : ∀ (i : Nat) (x : It), its[i]? = some x → StepR T call base all (diesOk x (its.drop (i + 1))) x (st i) (st (i + 1))
  kept : ∀ (i : Nat) (x : It), its[i]? = some x → (st i).dead ≠ none → (st (i + 1)).dead = (st i).dead

theorem trace_tr {T : Tab} {call : CallT} {base : Nat} {all : List Oper} {its : List It} {s : Sg} {sts : List Sg} (h : trace T call base all its s = some sts) :
    ∃ st : Nat → Sg, Tr T call base all its s st ∧ ∀ i, i ≤ its.length → sts[i]? = some (st i) := by
  obtain ⟨h1, h2, h3⟩ := trace_get h
  have hst : ∀ i, i ≤ its.length → sts[i]? = some ((sts[i]?).getD s) := fun i hi => by
    rw [List.getElem?_eq_getElem (by omega)]; rfl
  refine ⟨fun i => (sts[i]?).getD s, ⟨by simp [h2], fun i x hx => ?_, fun i x hx => ?_, fun i x hx => ?_⟩, hst⟩
  · obtain ⟨a, b, ha, hb, hab⟩ := h3 i x hx
    simp only [ha, hb, Option.getD_some]
    exact (stepC_ok hab).1
  · obtain ⟨a, b, ha, hb, hab⟩ := h3 i x hx
    simp only [ha, hb, Option.getD_some]
    exact (stepC_ok hab).2
  · obtain ⟨a, b, ha, hb, hab⟩ := h3 i x hx
    simp only [ha, hb, Option.getD_some]
    exact stepC_kept hab

section
variable {T : Tab} {call : CallT} {base : Nat} {all : List Oper} {its : List It} {s₀ : Sg} {st : Nat → Sg} (tr : Tr T call base all its s₀ st)
  (hix : ∀ (i : Nat) (x : It), its[i]? = some x → x.ix = i)
include tr

def dstAt (its : List It) (i : Nat) (t : Tmp) : Prop := ∃ x, its[i]? = some x ∧ x.o.dst = some t

/-- Where a temporary's value comes from. -/
theorem Tr.source : ∀ (k : Nat), k ≤ its.length → ∀ (t : Tmp) (u : Value), (st k).ρ.get t = some u →
    (∃ i, i < k ∧ dstAt its i t ∧ u = (st (i + 1)).v ∧ ∀ j, j < k → dstAt its j t → j ≤ i) ∨ (s₀.ρ.get t = some u ∧ ∀ j, j < k → ¬ dstAt its j t)
  | 0, _, t, u, h => by
    rw [tr.zero] at h
    exact .inr ⟨h, fun j hj => by omega⟩
  | k + 1, hk, t, u, h => by
    have hx : its[k]? = some (its[k]'(by omega)) := List.getElem?_eq_getElem (by omega)
    rw [tr.env k _ hx] at h
    by_cases e : (its[k]'(by omega)).o.dst = some t
    · rw [e] at h
      have h : ((st k).ρ.set t (st (k + 1)).v).get t = some u := h
      rw [PM.set_get, if_pos rfl] at h
      cases h
      exact .inl ⟨k, by omega, ⟨_, hx, e⟩, rfl, fun j hj _ => by omega⟩
    · have hno : ¬ dstAt its k t := fun ⟨y, hy, hd⟩ => by rw [hx] at hy; cases hy; exact e hd
      have h' : (st k).ρ.get t = some u := by
        cases hd : (its[k]'(by omega)).o.dst with
        | none => rw [hd] at h; exact h
        | some d =>
          rw [hd] at h
          have h : ((st k).ρ.set d (st (k + 1)).v).get t = some u := h
          rw [PM.set_get, if_neg (fun x => e (by rw [hd, x]))] at h
          exact h
      rcases Tr.source k (by omega) t u h' with ⟨i, h1, h2, h3, h4⟩ | ⟨h1, h2⟩
      · refine .inl ⟨i, by omega, h2, h3, fun j hj hd => ?_⟩
        rcases Nat.lt_or_ge j k with x | x
        · exact h4 j x hd
        · have : j = k := by omega
          subst this; exact absurd hd hno
      · refine .inr ⟨h1, fun j hj hd => ?_⟩
        rcases Nat.lt_or_ge j k with x | x
        · exact h2 j x hd
        · have : j = k := by omega
          subst this; exact hno hd

/-- What was made where. -/
theorem Tr.made_at {i : Nat} {p : Pd} (hi : i < its.length) (h : (st (i + 1)).made = some p) : ∃ x, its[i]? = some x ∧ isFresh x.cls = true ∧ p.ix = x.ix ∧ p.id = base + x.rank ∧ p ∈ (st (i + 1)).pd := by
  have hx : its[i]? = some its[i] := List.getElem?_eq_getElem hi
  refine ⟨_, hx, ?_⟩
  have hs := tr.step i _ hx
  cases hs with
  | fresh g h1 ob ho hn hb hf hh hm hp hl hu => rw [hm] at h; cases h; exact ⟨hf, rfl, rfl, by rw [hp]; exact List.mem_cons_self ..⟩
  | skip g hv hh hm hp hl hu => rw [hm] at h; cases h
  | past hd hv hh hm hp hl hu => rw [hm] at h; cases h
  | pure g h1 ho hn hc hr hh hm hp hl hu => rw [hm] at h; cases h
  | read g hr hd hh hm hp hl hu => rw [hm] at h; cases h
  | value g ho hc hm hp hl hu => rw [hm] at h; cases h
  | enter g f args h1 mx ho hcall hc hm hp hl hu => rw [hm] at h; cases h
  | die g f args h1 mx ch ho hcall hc hm hp hv hl hlast hu hd => rw [hm] at h; cases h
  | throws g u ho hc hm hp hv hl hlast hu hd => rw [hm] at h; cases h
  | catch_ g u ho hrec hc hh hm hp hl hu => rw [hm] at h; cases h

include hix in
theorem Tr.pd_made (h0 : s₀.pd = []) : ∀ (k : Nat), k ≤ its.length → ∀ p, p ∈ (st k).pd → p.ix < k ∧ (st (p.ix + 1)).made = some p
  | 0, _, p, h => by rw [tr.zero, h0] at h; simp at h
  | k + 1, hk, p, h => by
    have hx : its[k]? = some (its[k]'(by omega)) := List.getElem?_eq_getElem (by omega)
    have hs := tr.step k _ hx
    have old : p ∈ (st k).pd → p.ix < k + 1 ∧ (st (p.ix + 1)).made = some p := fun h => by
      obtain ⟨h1, h2⟩ := Tr.pd_made h0 k (by omega) p h
      exact ⟨by omega, h2⟩
    cases hs with
    | skip g hv hh hm hp hl hu => rw [hp] at h; exact old h
    | past hd hv hh hm hp hl hu => rw [hp] at h; exact old h
    | pure g h1 ho hn hc hr hh hm hp hl hu => rw [hp] at h; exact old h
    | read g hr hd hh hm hp hl hu => rw [hp] at h; exact old h
    | fresh g h1 ob ho hn hb hf hh hm hp hl hu =>
      rw [hp] at h
      rcases List.mem_cons.1 h with e | h
      · subst e
        simp only [hix k _ hx]
        exact ⟨by omega, by rw [hm, hix k _ hx]⟩
      · exact old h
    | value g ho hc hm hp hl hu => rw [hp, unmerged_mem] at h; exact old h.1
    | enter g f args h1 mx ho hcall hc hm hp hl hu => rw [hp, unmerged_mem] at h; exact old h.1
    | die g f args h1 mx ch ho hcall hc hm hp hv hl hlast hu hd => rw [hp, unmerged_mem] at h; exact old h.1
    | throws g u ho hc hm hp hv hl hlast hu hd => rw [hp, unmerged_mem] at h; exact old h.1
    | catch_ g u ho hrec hc hh hm hp hl hu => rw [hp, unmerged_mem] at h; exact old h.1

include hix in
theorem Tr.pd_back {q : Nat} : ∀ (k : Nat), q ≤ k → k ≤ its.length → ∀ p, p ∈ (st k).pd → p.ix < q → p ∈ (st q).pd
  | 0, hq, _, p, h, _ => by
    have : q = 0 := by omega
    subst this; exact h
  | k + 1, hq, hk, p, h, hp => by
    by_cases e : q = k + 1
    · subst e; exact h
    · have hx : its[k]? = some (its[k]'(by omega)) := List.getElem?_eq_getElem (by omega)
      have hs := tr.step k _ hx
      have old : p ∈ (st k).pd → p ∈ (st q).pd := fun h => Tr.pd_back k (by omega) (by omega) p h hp
      cases hs with
      | skip g hv hh hm hp' hl hu => rw [hp'] at h; exact old h
      | past hd hv hh hm hp' hl hu => rw [hp'] at h; exact old h
      | pure g h1 ho hn hc hr hh hm hp' hl hu => rw [hp'] at h; exact old h
      | read g hr hd hh hm hp' hl hu => rw [hp'] at h; exact old h
      | fresh g h1 ob ho hn hb hf hh hm hp' hl hu =>
        rw [hp'] at h
        rcases List.mem_cons.1 h with e' | h
        · rw [e'] at hp
          simp only [hix k _ hx] at hp
          omega
        · exact old h
      | value g ho hc hm hp' hl hu => rw [hp', unmerged_mem] at h; exact old h.1
      | enter g f args h1 mx ho hcall hc hm hp' hl hu => rw [hp', unmerged_mem] at h; exact old h.1
      | die g f args h1 mx ch ho hcall hc hm hp' hv hl hlast hu hd => rw [hp', unmerged_mem] at h; exact old h.1
      | throws g u ho hc hm hp' hv hl hlast hu hd => rw [hp', unmerged_mem] at h; exact old h.1
      | catch_ g u ho hrec hc hh hm hp' hl hu => rw [hp', unmerged_mem] at h; exact old h.1

theorem Tr.pd_keep {k : Nat} {p : Pd} : ∀ (q : Nat), k ≤ q → q ≤ its.length → p ∈ (st k).pd →
    (∀ (c : Nat) (x : It), k ≤ c → c < q → its[c]? = some x → isChain x.cls = true → x.mask.testBit p.ix = false) → p ∈ (st q).pd
  | 0, hk, _, h, _ => by
    have : k = 0 := by omega
    subst this; exact h
  | q + 1, hk, hq, h, hno => by
    by_cases e : k = q + 1
    · subst e; exact h
    · have hx : its[q]? = some (its[q]'(by omega)) := List.getElem?_eq_getElem (by omega)
      have hs := tr.step q _ hx
      have old : p ∈ (st q).pd := Tr.pd_keep q (by omega) (by omega) h fun c x h1 h2 => hno c x h1 (by omega)
      cases hs with
      | skip g hv hh hm hp' hl hu => rw [hp']; exact old
      | past hd hv hh hm hp' hl hu => rw [hp']; exact old
      | pure g h1 ho hn hc hr hh hm hp' hl hu => rw [hp']; exact old
      | read g hr hd hh hm hp' hl hu => rw [hp']; exact old
      | fresh g h1 ob ho hn hb hf hh hm hp' hl hu => rw [hp']; exact List.mem_cons_of_mem _ old
      | value g ho hc hm hp' hl hu => rw [hp', unmerged_mem]; exact ⟨old, hno q _ (by omega) (by omega) hx hc⟩
      | enter g f args h1 mx ho hcall hc hm hp' hl hu => rw [hp', unmerged_mem]; exact ⟨old, hno q _ (by omega) (by omega) hx hc⟩
      | die g f args h1 mx ch ho hcall hc hm hp' hv hl hlast hu hd => rw [hp', unmerged_mem]; exact ⟨old, hno q _ (by omega) (by omega) hx hc⟩
      | throws g u ho hc hm hp' hv hl hlast hu hd => rw [hp', unmerged_mem]; exact ⟨old, hno q _ (by omega) (by omega) hx hc⟩
      | catch_ g u ho hrec hc hh hm hp' hl hu => rw [hp', unmerged_mem]; exact ⟨old, hno q _ (by omega) (by omega) hx hc⟩

/-- Memory stands where no operation with an order has run. -/
theorem Tr.same_h {q : Nat} : ∀ (k : Nat), q ≤ k → k ≤ its.length → (∀ (c : Nat) (x : It), q ≤ c → c < k → its[c]? = some x → isChain x.cls = false) → (st k).h = (st q).h
  | 0, hq, _, _ => by
    have : q = 0 := by omega
    subst this; rfl
  | k + 1, hq, hk, hno => by
    by_cases e : q = k + 1
    · subst e; rfl
    · have hx : its[k]? = some (its[k]'(by omega)) := List.getElem?_eq_getElem (by omega)
      have hs := tr.step k _ hx
      have hc0 := hno k _ (by omega) (by omega) hx
      have old := Tr.same_h k (by omega) (by omega) fun c x h1 h2 => hno c x h1 (by omega)
      cases hs with
      | skip g hv hh hm hp' hl hu => rw [hh]; exact old
      | past hd hv hh hm hp' hl hu => rw [hh]; exact old
      | pure g h1 ho hn hc hr hh hm hp' hl hu => rw [hh]; exact old
      | read g hr hd hh hm hp' hl hu => rw [hh]; exact old
      | fresh g h1 ob ho hn hb hf hh hm hp' hl hu => rw [hh]; exact old
      | value g ho hc hm hp' hl hu => rw [hc0] at hc; cases hc
      | enter g f args h1 mx ho hcall hc hm hp' hl hu => rw [hc0] at hc; cases hc
      | die g f args h1 mx ch ho hcall hc hm hp' hv hl hlast hu hd => rw [hc0] at hc; cases hc
      | throws g u ho hc hm hp' hv hl hlast hu hd => rw [hc0] at hc; cases hc
      | catch_ g u ho hrec hc hh hm hp' hl hu => rw [hc0] at hc; cases hc
/-- The caller's mode stands where no operation with an order has run. -/
theorem Tr.same_m {q : Nat} : ∀ (k : Nat), q ≤ k → k ≤ its.length → (∀ (c : Nat) (x : It), q ≤ c → c < k → its[c]? = some x → isChain x.cls = false) → (st k).m = (st q).m
  | 0, hq, _, _ => by
    have : q = 0 := by omega
    subst this; rfl
  | k + 1, hq, hk, hno => by
    by_cases e : q = k + 1
    · subst e; rfl
    · have hx : its[k]? = some (its[k]'(by omega)) := List.getElem?_eq_getElem (by omega)
      have hs := tr.step k _ hx
      have hc0 := hno k _ (by omega) (by omega) hx
      have old := Tr.same_m k (by omega) (by omega) fun c x h1 h2 => hno c x h1 (by omega)
      cases hs with
      | catch_ g u ho hrec hc hh hm hp' hl hu => rw [hc0] at hc; cases hc
      | skip g hv hh hm hp' hl hu => rw [hu]; exact old
      | past hd hv hh hm hp' hl hu => rw [hu]; exact old
      | pure g h1 ho hn hc hr hh hm hp' hl hu => rw [hu]; exact old
      | read g hr hd hh hm hp' hl hu => rw [hu]; exact old
      | fresh g h1 ob ho hn hb hf hh hm hp' hl hu => rw [hu]; exact old
      | value g ho hc hm hp' hl hu => rw [hu]; exact old
      | enter g f args h1 mx ho hcall hc hm hp' hl hu => rw [hu]; exact old
      | die g f args h1 mx ch ho hcall hc hm hp' hv hl hlast hu hd => rw [hu]; exact old
      | throws g u ho hc hm hp' hv hl hlast hu hd => rw [hu]; exact old
/-- Where a state is dead, an operation ahead of it panicked. -/
theorem Tr.died (h0 : s₀.dead = none) : ∀ (k : Nat), k ≤ its.length → (st k).dead ≠ none →
    ∃ i x ch, i < k ∧ its[i]? = some x ∧ (st i).dead = none ∧ (st (i + 1)).dead = some (x.o.dst, ch) ∧ diesOk x (its.drop (i + 1)) = true ∧ (st k).dead = (st (i + 1)).dead
  | 0, _, h => by rw [tr.zero] at h; exact absurd h0 h
  | k + 1, hk, h => by
    have hx : its[k]? = some (its[k]'(by omega)) := List.getElem?_eq_getElem (by omega)
    have old : (st k).dead ≠ none → (st (k + 1)).dead = (st k).dead → ∃ i x ch, i < k + 1 ∧ its[i]? = some x ∧ (st i).dead = none ∧ (st (i + 1)).dead = some (x.o.dst, ch) ∧ diesOk x (its.drop (i + 1)) = true ∧ (st (k + 1)).dead = (st (i + 1)).dead := fun h he => by
      obtain ⟨i, x, ch, h1, h2, h3, h4, h5, h6⟩ := Tr.died h0 k (by omega) h
      exact ⟨i, x, ch, by omega, h2, h3, h4, h5, he.trans h6⟩
    have hs := tr.step k _ hx
    by_cases hd0 : (st k).dead = none
    · cases hs with
      | die g f args h1 mx ch ho hcall hc hm hp' hv hl hlast hu hd => exact ⟨k, _, ch, by omega, hx, hd0, hl, hlast, rfl⟩
      | throws g u ho hc hm hp' hv hl hlast hu hd => exact ⟨k, _, _, by omega, hx, hd0, hl, hlast, rfl⟩
      | past hd hv hh hm hp' hl hu => exact absurd hd0 hd
      | catch_ g u ho hrec hc hh hm hp' hl hu => exact absurd hl h
      | skip g hv hh hm hp' hl hu => exact absurd hl h
      | pure g h1 ho hn hc hr hh hm hp' hl hu => exact absurd hl h
      | read g hr hd hh hm hp' hl hu => exact absurd hl h
      | fresh g h1 ob ho hn hb hf hh hm hp' hl hu => exact absurd hl h
      | value g ho hc hm hp' hl hu => exact absurd hl h
      | enter g f args h1 mx ho hcall hc hm hp' hl hu => exact absurd hl h
    · cases hs with
      | past hd hv hh hm hp' hl hu => exact old hd0 hl
      | die g f args h1 mx ch ho hcall hc hm hp' hv hl hlast hu hd =>
        exact absurd hd hd0
      | throws g u ho hc hm hp' hv hl hlast hu hd => exact absurd hd hd0
      | catch_ g u ho hrec hc hh hm hp' hl hu => exact absurd hl h
      | skip g hv hh hm hp' hl hu => exact absurd hl h
      | pure g h1 ho hn hc hr hh hm hp' hl hu => exact absurd hl h
      | read g hr hd hh hm hp' hl hu => exact absurd hl h
      | fresh g h1 ob ho hn hb hf hh hm hp' hl hu => exact absurd hl h
      | value g ho hc hm hp' hl hu => exact absurd hl h
      | enter g f args h1 mx ho hcall hc hm hp' hl hu => exact absurd hl h
end
end Go.AE
