/- What the evaluator computes, the model computes: code, calls. -/
import Derived.Test.YtgambdjpncpdaaaGreatDoorEvDr5
namespace Go.AE

section
variable {P : Program} {T : Tab} (ok : TabOk P T) {call : CallT} (hcall : CallOk P call) (hmix : P.follows .mixedOrders = true)
  {nt : Nat} {c₀ : Frame} {cs₀ : List Frame} {μ₀ : Mu} {h₀ : Mem} {w₀ : World}

theorem seq_some {k : Sem1} {o : Option Out} {r : Out} (hv : seqK k o = some r) :
    ∃ e ρ ds m h, o = some (.ex e ρ ds m h) ∧ ((e = .normal ∧ k ρ ds m h = some r) ∨ (e ≠ .normal ∧ r = .ex e ρ ds m h)) := by
  cases o with
  | none => cases hv
  | some o =>
    obtain ⟨e, ρ, ds, m, h⟩ := o
    refine ⟨e, ρ, ds, m, h, rfl, ?_⟩
    cases e with
    | normal => exact .inl ⟨rfl, hv⟩
    | exit id => cases hv; exact .inr ⟨by simp, rfl⟩
    | ret => cases hv; exact .inr ⟨by simp, rfl⟩
    | panic ch => cases hv; exact .inr ⟨by simp, rfl⟩

/-- Code that goes on where it ends as it should. -/
theorem post_then {Q : Exit → Act → List Frame → World → Prop} {next : Act → List Frame → World → Prop} {e₁ : Ex} {ρ₁ : PM Value} {ds₁ : List Deferred} {m₁ : Option FrameMode} {h₁ : Mem}
    (hn : e₁ = .normal → ∀ a cs w, CodePost P nt c₀ cs₀ μ₀ h₀ w₀ .normal ρ₁ ds₁ m₁ h₁ .normal a cs w → next a cs w)
    (ho : e₁ ≠ .normal → ∀ e a cs w, CodePost P nt c₀ cs₀ μ₀ h₀ w₀ e₁ ρ₁ ds₁ m₁ h₁ e a cs w → Q e a cs w) :
    ∀ e a cs w, CodePost P nt c₀ cs₀ μ₀ h₀ w₀ e₁ ρ₁ ds₁ m₁ h₁ e a cs w → Exit.thenS next Q e a cs w := by
  intro e a cs w hp
  obtain ⟨μ, p, hx, s⟩ := hp
  cases hx with
  | normal => exact hn rfl a cs w ⟨μ, p, .normal, s⟩
  | exit id => exact ho (by simp) _ a cs w ⟨μ, p, .exit id, s⟩
  | ret => exact ho (by simp) _ a cs w ⟨μ, p, .ret, s⟩
  | panic h => exact ho (by simp) _ a cs w ⟨μ, p, .panic h, s⟩

include ok hcall hmix in
theorem code_ok (n : Nat) : ∀ (c : Code), codeOk nt c = true → ∀ ρ ds m h e ρ' ds' m' h', codeA c T call n ρ ds m h = some (.ex e ρ' ds' m' h') →
    m'.isSome = m.isSome ∧ ∀ μ a cs w, Post P μ₀ h₀ w₀ μ h w → FrR P nt c₀ cs₀ μ ρ ds m h a cs w → W P m.isSome c (CodePost P nt c₀ cs₀ μ₀ h₀ w₀ e ρ' ds' m' h') a cs w := by
  intro c
  induction c with
  | skip =>
    intro _ ρ ds m h e ρ' ds' m' h' hv
    cases (show some (Out.ex .normal ρ ds m h) = some (.ex e ρ' ds' m' h') from hv)
    exact ⟨rfl, fun μ a cs w p s => W.skip ⟨μ, p, .normal, s⟩⟩
  | region id ops d =>
    intro hc ρ ds m h e ρ' ds' m' h' hv
    replace hc : dstOk nt ops.toList = true := hc
    cases d with
    | false =>
      obtain ⟨h1, h2⟩ := ops_ok ok hcall (ops := ops) (all := ops.toList) rfl (μ₀ := μ₀) (h₀ := h₀) (w₀ := w₀) (c₀ := c₀) (cs₀ := cs₀) ops.toList 0 rfl hc ρ ds m h hv
      refine ⟨h1, fun μ a cs w p s => W.region ?_⟩
      have := h2 μ a cs w p s
      rwa [Array.length_toList, ← List.range_eq_range'] at this
    | true => exact reg_ok ok hcall hmix rfl hc hv
  | seq x y ihx ihy =>
    intro hc ρ ds m h e ρ' ds' m' h' hv
    replace hc : (codeOk nt x && codeOk nt y) = true := hc
    simp only [Bool.and_eq_true] at hc
    obtain ⟨e₁, ρ₁, ds₁, m₁, h₁, hx, hor⟩ := seq_some (show seqK (codeA y T call n) (codeA x T call n ρ ds m h) = _ from hv)
    obtain ⟨i1, i2⟩ := ihx hc.1 _ _ _ _ _ _ _ _ _ hx
    rcases hor with ⟨rfl, hy⟩ | ⟨hne, heq⟩
    · obtain ⟨j1, j2⟩ := ihy hc.2 _ _ _ _ _ _ _ _ _ hy
      refine ⟨j1.trans i1, fun μ a cs w p s => W.seq ((i2 μ a cs w p s).mono (post_then (fun _ a cs w ⟨μ', p', _, s'⟩ => ?_) fun h => absurd rfl h))⟩
      rw [← i1]; exact j2 μ' a cs w p' s'
    · cases heq
      exact ⟨i1, fun μ a cs w p s => W.seq ((i2 μ a cs w p s).mono (post_then (fun h => absurd h hne) fun _ e a cs w hp => hp))⟩
  | cond c x y ihx ihy =>
    intro hc ρ ds m h e ρ' ds' m' h' hv
    replace hc : (codeOk nt x && codeOk nt y) = true := hc
    simp only [Bool.and_eq_true] at hc
    replace hv : condK (codeA x T call n) (codeA y T call n) ρ ds m h (eval c ρ) = some (.ex e ρ' ds' m' h') := hv
    unfold condK at hv
    split at hv
    · rename_i b hb
      have hcond : ∀ {μ : Mu} {a : Act} {cs : List Frame} {w : World}, FrR P nt c₀ cs₀ μ ρ ds m h a cs w → a.eval c = .bool b := by
        intro μ a cs w s
        have := eval_ok s.tr hb
        generalize a.eval c = x at this ⊢
        cases this; rfl
      cases b with
      | true =>
        obtain ⟨i1, i2⟩ := ihx hc.1 _ _ _ _ _ _ _ _ _ hv
        exact ⟨i1, fun μ a cs w p s => W.cond (hcond s) (by rw [if_pos rfl]; exact i2 μ a cs w p s)⟩
      | false =>
        obtain ⟨i1, i2⟩ := ihy hc.2 _ _ _ _ _ _ _ _ _ hv
        exact ⟨i1, fun μ a cs w p s => W.cond (hcond s) (by rw [if_neg (by simp)]; exact i2 μ a cs w p s)⟩
    · cases hv
  | block id x ih =>
    intro hc ρ ds m h e ρ' ds' m' h' hv
    replace hv : blockK id (codeA x T call n ρ ds m h) = some (.ex e ρ' ds' m' h') := hv
    cases hx : codeA x T call n ρ ds m h with
    | none => rw [hx] at hv; cases hv
    | some o =>
    obtain ⟨e₁, ρ₁, ds₁, m₁, h₁⟩ := o
    rw [hx] at hv
    simp only [blockK, Option.some.injEq, Out.ex.injEq] at hv
    obtain ⟨rfl, rfl, rfl, rfl, rfl⟩ := hv
    obtain ⟨i1, i2⟩ := ih hc _ _ _ _ _ _ _ _ _ hx
    refine ⟨i1, fun μ a cs w p s => W.block ((i2 μ a cs w p s).mono fun e a cs w ⟨μ', p', hx, s'⟩ => ?_)⟩
    cases hx with
    | normal => exact ⟨μ', p', .normal, s'⟩
    | exit j =>
      simp only [inBlockS, blockE]
      by_cases e : j = id
      · subst e
        simp only [if_true, show Nat.beq j j = true by simp]
        exact ⟨μ', p', .normal, s'⟩
      · have hb : Nat.beq j id = false := by
          cases hb : Nat.beq j id with
          | false => rfl
          | true => exact absurd (Nat.eq_of_beq_eq_true hb) e
        simp only [if_neg e, hb]
        exact ⟨μ', p', .exit j, s'⟩
    | ret => exact ⟨μ', p', .ret, s'⟩
    | panic h => exact ⟨μ', p', .panic h, s'⟩
  | loop x ih =>
    intro hc ρ ds m h e ρ' ds' m' h' hv
    replace hv : loopA (codeA x T call n) n ρ ds m h = some (.ex e ρ' ds' m' h') := hv
    replace ih := ih hc
    have key : ∀ (k : Nat) ρ ds m h, loopA (codeA x T call n) k ρ ds m h = some (.ex e ρ' ds' m' h') →
        m'.isSome = m.isSome ∧ ∀ μ a cs w, Post P μ₀ h₀ w₀ μ h w → FrR P nt c₀ cs₀ μ ρ ds m h a cs w → WL P m.isSome x (CodePost P nt c₀ cs₀ μ₀ h₀ w₀ e ρ' ds' m' h') a cs w := by
      intro k
      induction k with
      | zero => intro ρ ds m h hv; cases hv
      | succ k ihk =>
        intro ρ ds m h hv
        obtain ⟨e₁, ρ₁, ds₁, m₁, h₁, hx, hor⟩ := seq_some (show seqK (loopA (codeA x T call n) k) (codeA x T call n ρ ds m h) = _ from hv)
        obtain ⟨i1, i2⟩ := ih _ _ _ _ _ _ _ _ _ hx
        rcases hor with ⟨rfl, hy⟩ | ⟨hne, heq⟩
        · obtain ⟨j1, j2⟩ := ihk _ _ _ _ hy
          refine ⟨j1.trans i1, fun μ a cs w p s => WL.round ((i2 μ a cs w p s).mono (post_then (fun _ a cs w ⟨μ', p', _, s'⟩ => ?_) fun h => absurd rfl h))⟩
          rw [← i1]; exact j2 μ' a cs w p' s'
        · cases heq
          exact ⟨i1, fun μ a cs w p s => WL.round ((i2 μ a cs w p s).mono (post_then (fun h => absurd h hne) fun _ e a cs w hp => hp))⟩
    obtain ⟨h1, h2⟩ := key n ρ ds m h hv
    exact ⟨h1, fun μ a cs w p s => W.loop (h2 μ a cs w p s)⟩
  | rangeFunc f ps x y _ _ => intro _ ρ ds m h e ρ' ds' m' h' hv; cases hv
  | exit id =>
    intro _ ρ ds m h e ρ' ds' m' h' hv
    cases (show some (Out.ex (.exit id) ρ ds m h) = some (.ex e ρ' ds' m' h') from hv)
    exact ⟨rfl, fun μ a cs w p s => W.exit ⟨μ, p, .exit id, s⟩⟩
  | scope x _ => intro _ ρ ds m h e ρ' ds' m' h' hv; cases hv
  | label l =>
    intro _ ρ ds m h e ρ' ds' m' h' hv
    cases (show some (Out.ex .normal ρ ds m h) = some (.ex e ρ' ds' m' h') from hv)
    exact ⟨rfl, fun μ a cs w p s => W.label ⟨μ, p, .normal, s⟩⟩
  | goto l => intro _ ρ ds m h e ρ' ds' m' h' hv; cases hv
  | ret =>
    intro _ ρ ds m h e ρ' ds' m' h' hv
    cases (show some (Out.ex .ret ρ ds m h) = some (.ex e ρ' ds' m' h') from hv)
    exact ⟨rfl, fun μ a cs w p s => W.ret ⟨μ, p, .ret, s⟩⟩
  | refuse why => intro _ ρ ds m h e ρ' ds' m' h' hv; cases hv

/- results -/
theorem resultL_ok (ok : TabOk P T) {μ : Mu} {ρ : PM Value} {h : Mem} {tmps : Array Value} {w : World} (hr : HR P μ h w) (ht : TR μ ρ tmps) (f : ResultVar → Sem Value)
    (hf1 : ∀ t, f (.tmp t) = Pure.pure (tmps.getD t undef)) (hf2 : ∀ a t, f (.cell a t) = (do loadVar t (← asAddr (tmps.getD a undef)))) :
    ∀ (l : List ResultVar) (vs : List Value), resultL T h ρ l = some vs → ∃ us, (l.mapM f).run P w = .ok us w ∧ LR μ vs us
  | [], vs, hv => by cases hv; exact ⟨[], by simp, .nil⟩
  | .tmp t :: l, vs, hv => by
    unfold resultL consO at hv
    split at hv
    · rename_i v vs' h1 h2
      cases hv
      obtain ⟨us, h3, h4⟩ := resultL_ok ok hr ht f hf1 hf2 l vs' h2
      obtain ⟨v', h5, h6⟩ := ht t v h1
      refine ⟨v' :: us, ?_, .cons h6 h4⟩
      rw [List.mapM_cons, hf1, Array.getD_eq_getD_getElem?, h5]
      simp [h3]
    · cases hv
  | .cell a t :: l, vs, hv => by
    unfold resultL consO at hv
    split at hv
    · rename_i v vs' h1 h2
      cases hv
      obtain ⟨us, h3, h4⟩ := resultL_ok ok hr ht f hf1 hf2 l vs' h2
      unfold loadV at h1
      split at h1
      · rename_i ad hg
        obtain ⟨x, h5, h6⟩ := ht a _ hg
        obtain ⟨a', v', rfl, h7, h8⟩ := loadAt_ok ok hr h6 h1
        refine ⟨v' :: us, ?_, .cons h7 h4⟩
        rw [List.mapM_cons, hf2, Array.getD_eq_getD_getElem?, h5]
        simp [asAddr, h8, h3]
      · cases h1
    · cases hv
theorem resultV_ok {μ : Mu} {vs us : List Value} (h : LR μ vs us) : VR μ (resultV vs) (if h : us.toArray.size = 1 then us.toArray[0] else .tuple us.toArray) := by
  have hl := h.1
  cases vs with
  | nil =>
    have := h.nil_inv; subst this
    exact VR.tuple_mk .nil
  | cons v l =>
    obtain ⟨v', l', rfl, h1, h2⟩ := h.cons_inv
    cases l with
    | nil =>
      have := h2.nil_inv; subst this
      exact h1
    | cons u k =>
      obtain ⟨u', k', rfl, h3, h4⟩ := h2.cons_inv
      rw [dif_neg (by simp)]
      exact VR.tuple_mk (.cons h1 (.cons h3 h4))
def resF (tmps : Array Value) : ResultVar → Sem Value
  | .tmp t => Pure.pure (tmps.getD t undef)
  | .cell a t => do loadVar t (← asAddr (tmps.getD a undef))
theorem results_eq (fn : Func) (tmps : Array Value) : results fn tmps = (do
    let vs ← fn.results.mapM (resF tmps)
    Pure.pure (if h : vs.size = 1 then vs[0] else .tuple vs)) := by
  unfold results
  congr 2
theorem results_ok (ok : TabOk P T) {μ : Mu} {ρ : PM Value} {h : Mem} {tmps : Array Value} {w : World} {fn : Func} {l : List Value} (hr : HR P μ h w) (ht : TR μ ρ tmps)
    (hv : resultL T h ρ fn.results.toList = some l) : ∃ v, (results fn tmps).run P w = .ok v w ∧ VR μ (resultV l) v := by
  rw [results_eq]
  simp only [Sem.run_bind]
  rw [Array.mapM_eq_mapM_toList]
  obtain ⟨us, h1, h2⟩ := resultL_ok ok hr ht (resF tmps) (fun _ => rfl) (fun _ _ => rfl) _ _ hv
  refine ⟨_, ?_, resultV_ok h2⟩
  rw [Sem.run_map, h1]
  rfl

theorem settle_ok {μ : Mu} {u u' : FrameMode} (h : MR μ u u') : MR μ (settleA u) (settle u') := by
  have drop : ∀ {l l' : List PanicEntry}, ChR μ l l' → ChR μ (l.dropWhile (!·.goexit)) (l'.dropWhile (!·.goexit)) := fun h => by
    induction h with
    | nil => exact .nil
    | cons hv hl ih =>
      rename_i v v' r g l l'
      cases g with
      | true => exact .cons hv hl
      | false => exact ih
  cases h with
  | run => exact .run
  | returning => exact .returning
  | panicking hc =>
    cases hc with
    | nil => exact .panicking .nil
    | cons hv hl =>
      rename_i v v' r g l l'
      cases r with
      | false => exact .panicking (.cons hv hl)
      | true =>
        have := drop hl
        simp only [settleA, settle]
        generalize l.dropWhile (!·.goexit) = x at this
        generalize l'.dropWhile (!·.goexit) = y at this
        cases this with
        | nil => exact .returning
        | cons hv hl => exact .panicking (.cons hv hl)
theorem raised_ok {μ : Mu} {u u' : FrameMode} {l l' : List PanicEntry} (h : MR μ u u') (k : ChR μ l l') : MR μ (raisedA u l) (raised u' l') := by
  cases h with
  | run => exact .panicking k
  | returning => exact .panicking k
  | panicking h => exact .panicking (k.append h)

/-- The deferred calls, and the results. -/
def EndPost (P : Program) (μ₀ : Mu) (h₀ : Mem) (w₀ : World) (e : End) (h : Mem) : Ending → World → Prop :=
  fun e' w => ∃ μ, Post P μ₀ h₀ w₀ μ h w ∧ EndR μ e e'
include ok hcall in
theorem leaves_ok {fn : Func} {ρ : PM Value} {tmps : Array Value} {e : End} {m' : Option FrameMode} {h' : Mem} : ∀ (ds : List Deferred) (u : FrameMode) (h : Mem),
    leaveA T call fn ρ none ds u h = some (.en e m' h') → ∀ μ ds' u' w, Post P μ₀ h₀ w₀ μ h w → TR μ ρ tmps → DsR μ ds ds' → MR μ u u' → NewFrom μ h.next →
      Leaves P fn tmps (EndPost P μ₀ h₀ w₀ e h') ds' u' w := by
  intro ds
  induction ds with
  | nil =>
    intro u h hv μ ds' u' w p ht hd hm hn
    cases hd
    replace hv : leave0 T fn ρ none h u = some (.en e m' h') := hv
    cases hm with
    | run => cases hv
    | returning =>
      replace hv : leaveR none h (resultL T h ρ fn.results.toList) = some (.en e m' h') := hv
      unfold leaveR at hv
      split at hv
      · rename_i l hl
        cases hv
        obtain ⟨v, h1, h2⟩ := results_ok ok p.rel ht hl
        exact ⟨v, h1, μ, p, .returned h2⟩
      · cases hv
    | panicking hc =>
      cases hv
      exact ⟨μ, p, .panicked hc⟩
  | cons d ds ih =>
    intro u h hv μ ds' u' w p ht hd hm hn
    cases hd with
    | cons hd hl =>
    rename_i d' l'
    obtain ⟨⟨fn', c, c', h1, h2, h3⟩, h4⟩ := hd
    replace hv : notRun (leaveD T call (fun u h => leaveA T call fn ρ none ds u h) u h d.args.toList d.target) u = some (.en e m' h') := hv
    have hu' : u' ≠ .run := by
      cases hm with
      | run => cases hv
      | returning => simp
      | panicking _ => simp
    replace hv : leaveD T call (fun u h => leaveA T call fn ρ none ds u h) u h d.args.toList d.target = some (.en e m' h') := by
      cases hm with
      | run => cases hv
      | returning => exact hv
      | panicking _ => exact hv
    rw [h1] at hv
    unfold leaveD at hv
    split at hv
    · rename_i f captured heq; cases heq
      unfold leaveE at hv
      split at hv
      · rename_i g args h5 hcf
        have hargs : LR μ (d.args.toList ++ c.toList) (d'.args ++ c').toList := by rw [Array.toList_append]; exact h4.append h3
        obtain ⟨rfl, args', ha, hrun⟩ := callF_ok ok p.rel hargs hcf (hn.upto _)
        unfold leaveK at hv
        split at hv
        · rename_i v u₁ h6 hc
          obtain ⟨u₂, h7, h8⟩ := hcall _ _ _ _ _ _ _ hc μ w args' ha p.rel hn
          cases h7
          refine ⟨hu', .func f, c', g, args', h2, ?_, (h8 u' hm).mono fun e' u₃ w' ⟨μ', p', he, hmr⟩ => ?_⟩
          · rw [h2]; exact hrun
          · cases he with
            | returned hvv =>
              exact ih _ _ hv μ' l' _ w' (p.trans p') (ht.mono p'.ext) (hl.mono p'.ext) (settle_ok hmr) (hn.post p')
        · rename_i chain u₁ h6 hc
          obtain ⟨u₂, h7, h8⟩ := hcall _ _ _ _ _ _ _ hc μ w args' ha p.rel hn
          cases h7
          refine ⟨hu', .func f, c', g, args', h2, ?_, (h8 u' hm).mono fun e' u₃ w' ⟨μ', p', he, hmr⟩ => ?_⟩
          · rw [h2]; exact hrun
          · cases he with
            | panicked hcc =>
              exact ih _ _ hv μ' l' _ w' (p.trans p') (ht.mono p'.ext) (hl.mono p'.ext) (raised_ok hmr hcc) (hn.post p')
        · cases hv
      · cases hv
    · cases hv

/-- What is known of functions is so. -/
def ConOk (P : Program) (X : PM ConF) : Prop :=
  ∀ f g, X.get f = some g → ∀ args h e m' h', g args h = some (.en e m' h') → ∀ (μ : Mu) (w : World) (args' : Array Value), LR μ args args'.toList → HR P μ h w → NewFrom μ h.next →
    Calls P f args' w fun e' w' => ∃ μ', Post P μ h w μ' h' w' ∧ EndR μ' e e'
theorem conOk_leaf (P : Program) : ConOk P .leaf := fun _ _ h => nomatch (show (none : Option ConF) = some _ from h)

include ok hmix in
/-- A call. -/
theorem run_ok {X : PM ConF} (hX : ConOk P X) : ∀ (n : Nat), CallOk P (run T X n) := by
  intro n
  induction n with
  | zero => intro f args m h e m' h' hv; cases hv
  | succ n ih =>
    intro f args m h e m' h' hv μ w args' hargs hr hn
    replace hv : callX T (run T X n) n f args m h (X.get f) = some (.en e m' h') := hv
    cases hcx : X.get f with
    | some g =>
      rw [hcx] at hv
      cases m with
      | some u => cases hv
      | none => exact hX f g hcx args h e m' h' hv μ w args' hargs hr hn
    | none =>
    rw [hcx] at hv
    replace hv : funcA T (run T X n) n args m h (T.funcs.get f) = some (.en e m' h') := hv
    unfold funcA at hv
    split at hv
    · rename_i fn hfn
      have hP := ok.funcs f fn hfn
      cases hb : fn.body with
      | none => rw [hb] at hv; cases hv
      | some c =>
      rw [hb] at hv
      simp only [bodyA] at hv
      cases hcode : codeOk fn.ntmps c with
      | false => rw [hcode] at hv; cases hv
      | true =>
      rw [hcode] at hv
      simp only at hv
      cases hlen : Nat.ble args.length fn.ntmps with
      | false => rw [hlen] at hv; cases hv
      | true =>
      rw [hlen] at hv
      simp only at hv
      have hlen' : args'.size ≤ fn.ntmps := by
        have h1 : args.length ≤ fn.ntmps := by simpa using hlen
        have := hargs.1
        simp at this
        omega
      cases hc : codeA c T (run T X n) n (PM.ofList args) [] m h with
      | none => rw [hc] at hv; cases hv
      | some o =>
      obtain ⟨e₁, ρ₁, ds₁, m₁, h₁⟩ := o
      rw [hc] at hv
      replace hv : bodyE T (run T X n) fn ρ₁ ds₁ m₁ h₁ e₁ = some (.en e m' h') := hv
      have htr : TR μ (PM.ofList args) (args' ++ Array.replicate (fn.ntmps - args'.size) undef) := by
        intro t v ht
        rw [PM.ofList_get] at ht
        obtain ⟨v', h1, h2⟩ := hargs.get ht
        refine ⟨v', ?_, h2⟩
        rw [Array.getElem?_toList] at h1
        rw [Array.getElem?_append_left (Array.getElem?_eq_some_iff.1 h1).1]
        exact h1
      have hsz : (args' ++ Array.replicate (fn.ntmps - args'.size) undef).size = fn.ntmps := by simp; omega
      cases m with
      | none =>
        show Calls P f args' w _
        refine calls_of_wp_defers hP hb (W.wp fun cs => ?_)
        obtain ⟨i1, i2⟩ := code_ok (P := P) (T := T) (nt := fn.ntmps) (c₀ := default) (cs₀ := cs) (μ₀ := μ) (h₀ := h) (w₀ := w) ok ih hmix n c hcode _ _ _ _ _ _ _ _ _ hc
        have hm₁ : m₁ = none := by cases m₁ <;> simp_all
        subst hm₁
        refine (i2 μ _ cs w (.refl hr) ⟨htr, hsz, .nil, rfl, hr, hn⟩).mono fun e₂ a₂ cs₂ w₂ ⟨μ₂, p₂, hx, s₂⟩ => ?_
        refine ⟨s₂.cr, ?_⟩
        have leave : ∀ u u', MR μ₂ u u' → leaveA T (run T X n) fn ρ₁ none ds₁ u h₁ = some (.en e m' h') → Leaves P fn a₂.tmps (EndPost P μ h w e h') a₂.defers u' w₂ :=
          fun u u' hm hv => leaves_ok ok ih ds₁ u h₁ hv μ₂ _ u' w₂ p₂ s₂.tr s₂.ds hm s₂.nf
        cases hx with
        | normal => exact leave _ _ .returning hv
        | exit id => cases hv
        | ret => exact leave _ _ .returning hv
        | panic hp => exact leave _ _ (.panicking hp) hv
      | some u =>
        have hds : ∃ u₁, m₁ = some u₁ ∧ m' = some u₁ ∧ ds₁ = [] ∧ h' = h₁ := by
          have hm₁ : m₁.isSome = true := by
            obtain ⟨i1, _⟩ := code_ok (P := P) (T := T) (nt := fn.ntmps) (c₀ := default) (cs₀ := []) (μ₀ := μ) (h₀ := h) (w₀ := w) ok ih hmix n c hcode _ _ _ _ _ _ _ _ _ hc
            rw [i1]; rfl
          obtain ⟨u₁, rfl⟩ := Option.isSome_iff_exists.1 hm₁
          have hl : ∀ u', leaveA T (run T X n) fn ρ₁ (some u₁) ds₁ u' h₁ = some (.en e m' h') → m' = some u₁ ∧ ds₁ = [] ∧ h' = h₁ := fun u' hv => by
            cases ds₁ with
            | cons d ds => cases hv
            | nil =>
              replace hv : leave0 T fn ρ₁ (some u₁) h₁ u' = some (.en e m' h') := hv
              unfold leave0 at hv
              split at hv
              · unfold leaveR at hv
                split at hv
                · cases hv; exact ⟨rfl, rfl, rfl⟩
                · cases hv
              · cases hv; exact ⟨rfl, rfl, rfl⟩
              · cases hv
          refine ⟨u₁, rfl, ?_⟩
          cases e₁ with
          | normal => exact hl _ hv
          | exit id => cases hv
          | ret => exact hl _ hv
          | panic ch => exact hl _ hv
        obtain ⟨u₁, rfl, rfl, rfl, rfl⟩ := hds
        refine ⟨u₁, rfl, fun u' hmr => callsD_of_wpS hP hb fun c₀ cs hc₀ => ?_⟩
        obtain ⟨i1, i2⟩ := code_ok (P := P) (T := T) (nt := fn.ntmps) (c₀ := c₀) (cs₀ := cs) (μ₀ := μ) (h₀ := h) (w₀ := w) ok ih hmix n c hcode _ _ _ _ _ _ _ _ _ hc
        have hcs : c₀ :: cs = { c₀ with mode := u' } :: cs := by rw [← hc₀]
        refine W.wpS ((i2 μ _ (c₀ :: cs) w (.refl hr) ⟨htr, hsz, .nil, ⟨u', hcs, hmr⟩, hr, hn⟩).mono fun e₂ a₂ cs₂ w₂ ⟨μ₂, p₂, hx, s₂⟩ => ?_)
        have hdf : a₂.defers = [] := by have := s₂.ds; generalize a₂.defers = l at this ⊢; cases this; rfl
        obtain ⟨u₂, hcs₂, hm₂⟩ := s₂.cr
        have back : leaveA T (run T X n) fn ρ₁ (some u₁) [] .returning h' = some (.en e (some u₁) h') →
            a₂.defers = [] ∧ ∃ u', cs₂ = { c₀ with mode := u' } :: cs ∧ ∃ v, (results fn a₂.tmps).run P w₂ = .ok v w₂ ∧ ∃ μ', Post P μ h w μ' h' w₂ ∧ EndR μ' e (.returned v) ∧ MR μ' u₁ u' := fun hv => by
          replace hv : leaveR (some u₁) h' (resultL T h' ρ₁ fn.results.toList) = some (.en e (some u₁) h') := hv
          unfold leaveR at hv
          split at hv
          · rename_i l hl
            cases hv
            obtain ⟨v, h1, h2⟩ := results_ok ok p₂.rel s₂.tr hl
            exact ⟨hdf, u₂, hcs₂, v, h1, μ₂, p₂, .returned h2, hm₂⟩
          · cases hv
        cases hx with
        | normal => exact back hv
        | exit id => cases hv
        | ret => exact back hv
        | panic hp =>
          cases hv
          exact ⟨hdf, u₂, hcs₂, μ₂, p₂, .panicked hp, hm₂⟩
    · cases hv
end
end Go.AE
