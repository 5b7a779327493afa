/- What the evaluator's frames stand for, and the operations of a region in the order of the text. -/
import Derived.Test.YtgambdjpncpdaaaGreatDoorEvCode
namespace Go.AE

def NewFrom (μ : Mu) (n : Nat) : Prop := ∀ id, n ≤ id → μ id = none
theorem NewFrom.post {P : Program} {μ μ' : Mu} {h h' : Mem} {w w' : World} (k : NewFrom μ h.next) (p : Post P μ h w μ' h' w') : NewFrom μ' h'.next := by
  intro id hid
  by_cases e : μ' id = μ id
  · rw [e]; exact k id (Nat.le_trans p.le hid)
  · have := (p.new id e).2; omega
theorem NewFrom.upto {μ : Mu} {n : Nat} (k : NewFrom μ n) (m : Nat) : NewIn μ n m := fun id h _ => k id h

/-- Chains of panics. -/
inductive ChR (μ : Mu) : List PanicEntry → List PanicEntry → Prop where
  | nil : ChR μ [] []
  | cons {v v' : Value} {r g : Bool} {l l' : List PanicEntry} (hv : VR μ v v') (hl : ChR μ l l') : ChR μ (⟨v, r, g⟩ :: l) (⟨v', r, g⟩ :: l')
theorem ChR.mono {μ μ' : Mu} (e : μ.Ext μ') {l l' : List PanicEntry} (h : ChR μ l l') : ChR μ' l l' := by
  induction h with
  | nil => exact .nil
  | cons hv _ ih => exact .cons (hv.mono e) ih
theorem ChR.append {μ : Mu} {l l' m m' : List PanicEntry} (h : ChR μ l l') (k : ChR μ m m') : ChR μ (l ++ m) (l' ++ m') := by
  induction h with
  | nil => exact k
  | cons hv _ ih => exact .cons hv ih
/-- Modes. -/
inductive MR (μ : Mu) : FrameMode → FrameMode → Prop where
  | run : MR μ .run .run
  | returning : MR μ .returning .returning
  | panicking {l l' : List PanicEntry} (h : ChR μ l l') : MR μ (.panicking l) (.panicking l')
theorem MR.mono {μ μ' : Mu} (e : μ.Ext μ') {u u' : FrameMode} (h : MR μ u u') : MR μ' u u' := by
  cases h with
  | run => exact .run
  | returning => exact .returning
  | panicking h => exact .panicking (h.mono e)
/-- Deferred calls. -/
def DR (μ : Mu) (d d' : Deferred) : Prop :=
  (∃ fn c c', d.target = .fn fn c ∧ d'.target = .fn fn c' ∧ LR μ c.toList c'.toList) ∧ LR μ d.args.toList d'.args.toList
theorem DR.mono {μ μ' : Mu} (e : μ.Ext μ') {d d' : Deferred} (h : DR μ d d') : DR μ' d d' :=
  let ⟨⟨fn, c, c', h1, h2, h3⟩, h4⟩ := h; ⟨⟨fn, c, c', h1, h2, h3.mono e⟩, h4.mono e⟩
inductive DsR (μ : Mu) : List Deferred → List Deferred → Prop where
  | nil : DsR μ [] []
  | cons {d d' : Deferred} {l l' : List Deferred} (hd : DR μ d d') (hl : DsR μ l l') : DsR μ (d :: l) (d' :: l')
theorem DsR.mono {μ μ' : Mu} (e : μ.Ext μ') {l l' : List Deferred} (h : DsR μ l l') : DsR μ' l l' := by
  induction h with
  | nil => exact .nil
  | cons hd _ ih => exact .cons (hd.mono e) ih
/-- The callers. -/
def ClR (c₀ : Frame) (cs₀ : List Frame) (μ : Mu) : Option FrameMode → List Frame → Prop
  | none, cs => cs = cs₀
  | some u, cs => ∃ u', cs = { c₀ with mode := u' } :: cs₀ ∧ MR μ u u'
theorem ClR.mono {c₀ : Frame} {cs₀ : List Frame} {μ μ' : Mu} (e : μ.Ext μ') {m : Option FrameMode} {cs : List Frame} (h : ClR c₀ cs₀ μ m cs) : ClR c₀ cs₀ μ' m cs := by
  cases m with
  | none => exact h
  | some u => obtain ⟨u', h1, h2⟩ := h; exact ⟨u', h1, h2.mono e⟩
/-- Ways to end. -/
inductive ExR (μ : Mu) : Ex → Exit → Prop where
  | normal : ExR μ .normal .normal
  | exit (id : Nat) : ExR μ (.exit id) (.exit id)
  | ret : ExR μ .ret .ret
  | panic {l l' : List PanicEntry} (h : ChR μ l l') : ExR μ (.panic l) (.panic l')
inductive EndR (μ : Mu) : End → Ending → Prop where
  | returned {v v' : Value} (h : VR μ v v') : EndR μ (.returned v) (.returned v')
  | panicked {l l' : List PanicEntry} (h : ChR μ l l') : EndR μ (.panicked l) (.panicked l')

/-- A frame. -/
structure FrR (P : Program) (nt : Nat) (c₀ : Frame) (cs₀ : List Frame) (μ : Mu) (ρ : PM Value) (ds : List Deferred) (m : Option FrameMode) (h : Mem) (a : Act) (cs : List Frame) (w : World) : Prop where
  tr : TR μ ρ a.tmps
  sz : a.tmps.size = nt
  ds : DsR μ ds a.defers
  cr : ClR c₀ cs₀ μ m cs
  hr : HR P μ h w
  nf : NewFrom μ h.next

/-- Where code has come to. -/
def CodePost (P : Program) (nt : Nat) (c₀ : Frame) (cs₀ : List Frame) (μ₀ : Mu) (h₀ : Mem) (w₀ : World) (e : Ex) (ρ : PM Value) (ds : List Deferred) (m : Option FrameMode) (h : Mem) :
    Exit → Act → List Frame → World → Prop :=
  fun e' a cs w => ∃ μ, Post P μ₀ h₀ w₀ μ h w ∧ ExR μ e e' ∧ FrR P nt c₀ cs₀ μ ρ ds m h a cs w

/-- What is known of a call. -/
def CallP (P : Program) (μ : Mu) (h : Mem) (w : World) (f : FuncId) (args' : Array Value) (e : End) (m' : Option FrameMode) (h' : Mem) : Option FrameMode → Prop
  | none => Calls P f args' w fun e' w' => ∃ μ', Post P μ h w μ' h' w' ∧ EndR μ' e e'
  | some u => ∃ u₁, m' = some u₁ ∧ ∀ u', MR μ u u' → CallsD P f args' u' w fun e' u₂ w' => ∃ μ', Post P μ h w μ' h' w' ∧ EndR μ' e e' ∧ MR μ' u₁ u₂
def CallOk (P : Program) (call : CallT) : Prop :=
  ∀ f args m h e m' h', call f args m h = some (.en e m' h') → ∀ (μ : Mu) (w : World) (args' : Array Value), LR μ args args'.toList → HR P μ h w → NewFrom μ h.next →
    CallP P μ h w f args' e m' h' m

section
variable {P : Program} {T : Tab} (ok : TabOk P T) {μ μ' : Mu} {ρ : PM Value} {a : Act} {w w' : World} {h h' : Mem} {v v' : Value} {nt : Nat} {c₀ : Frame} {cs₀ cs : List Frame}
  {ds : List Deferred} {m : Option FrameMode} {all l : List Oper} {o : Oper} {ops : Array Oper} {b : Bool}

theorem Act.put_size (a : Act) (dst : Option Tmp) (v : Value) : (a.put dst v).tmps.size = a.tmps.size := by
  cases dst <;> simp [Act.put]
theorem Act.put_dfs (a : Act) (dst : Option Tmp) (v : Value) : (a.put dst v).defers = a.defers := by cases dst <;> rfl
theorem TR.put {dst : Option Tmp} (h : TR μ ρ a.tmps) (hd : ∀ d, dst = some d → d < a.tmps.size) (hv : VR μ v v') : TR μ (put ρ dst v) (a.put dst v').tmps := by
  cases dst with
  | none => exact h
  | some d =>
    intro t u ht
    have ht : (ρ.set d v).get t = some u := ht
    rw [PM.set_get] at ht
    by_cases e : t = d
    · rw [if_pos e] at ht; cases ht
      subst e
      exact ⟨v', by simp [Act.put, hd t rfl], hv⟩
    · rw [if_neg e] at ht
      obtain ⟨u', h1, h2⟩ := h t u ht
      exact ⟨u', by simpa [Act.put, Array.getElem?_setIfInBounds_ne (Ne.symm e)] using h1, h2⟩
theorem bad_ok : VR μ bad undef := VR.tuple_mk .nil

theorem dstOk_cons (h : dstOk nt (o :: l) = true) : (∀ d, o.dst = some d → d < nt) ∧ dstOk nt l = true := by
  unfold dstOk at h
  cases hd : o.dst with
  | none => rw [hd] at h; exact ⟨fun d hd => (by cases hd), h⟩
  | some d =>
    rw [hd] at h
    simp only at h
    cases hb : Nat.blt d nt with
    | false => rw [hb] at h; cases h
    | true => rw [hb] at h; exact ⟨fun d' hd' => by cases hd'; simpa [Nat.blt_eq] using hb, h⟩

theorem wanted_ok (ht : TR μ ρ a.tmps) (hall : ops.toList = all) (hw : wantedG all ρ o.guard = some b) : Region.wanted o (yielded ops a.tmps) = b := by
  unfold Region.wanted
  cases hg : o.guard with
  | none =>
    rw [hg] at hw
    cases (show some true = some b from hw); rfl
  | some g =>
    obtain ⟨j, want⟩ := g
    rw [hg] at hw
    replace hw : wantedJ all ρ j want = some b := hw
    unfold wantedJ at hw
    subst hall
    rw [Array.getElem?_toList] at hw
    cases ho : ops[j]? with
    | none => rw [ho] at hw; cases hw
    | some oj =>
      rw [ho] at hw
      simp only at hw
      cases hd : oj.dst with
      | none => rw [hd] at hw; cases hw
      | some t =>
        rw [hd] at hw
        simp only at hw
        cases hv : ρ.get t with
        | none => rw [hv] at hw; cases hw
        | some v =>
          rw [hv] at hw
          obtain ⟨v', h1, h2⟩ := ht t v hv
          simp only [yielded, ho, Option.bind_some, hd, h1]
          cases h2 <;> simp only [boolIs, Option.some.injEq] at hw <;> first | (cases hw; done) | skip
          all_goals subst hw <;> first | rfl | (rename_i c; cases c <;> cases want <;> rfl)

theorem FrR.put {v v' : Value} {dst : Option Tmp} (s : FrR P nt c₀ cs₀ μ ρ ds m h a cs w) (hd : ∀ d, dst = some d → d < nt) (p : Post P μ h w μ' h' w') (hv : VR μ' v v') :
    FrR P nt c₀ cs₀ μ' (put ρ dst v) ds m h' (a.put dst v') cs w' :=
  ⟨TR.put (s.tr.mono p.ext) (fun d e => by rw [s.sz]; exact hd d e) hv, by rw [Act.put_size]; exact s.sz, by rw [Act.put_dfs]; exact s.ds.mono p.ext, s.cr.mono p.ext, p.rel, s.nf.post p⟩

theorem recover_ok {u : FrameMode} {v : Value} {m' : FrameMode} (hr : recoverA (some u) = some (v, m')) (hc : ClR c₀ cs₀ μ (some u) cs) :
    (∃ v' cs', recoverD cs = some (v', cs') ∧ VR μ v v' ∧ ClR c₀ cs₀ μ (some m') cs') ∨ (recoverD cs = none ∧ v = .nilIface ∧ ClR c₀ cs₀ μ (some m') cs) := by
  obtain ⟨u', rfl, hm⟩ := hc
  cases hm with
  | run => cases hr; exact .inr ⟨rfl, rfl, _, rfl, .run⟩
  | returning => cases hr; exact .inr ⟨rfl, rfl, _, rfl, .returning⟩
  | panicking hp =>
    cases hp with
    | nil => cases hr; exact .inr ⟨rfl, rfl, _, rfl, .panicking .nil⟩
    | cons hv hl =>
      rename_i v₁ v₂ r g l l'
      cases r with
      | true => cases hr; exact .inr ⟨rfl, rfl, _, rfl, .panicking (.cons hv hl)⟩
      | false =>
        cases g with
        | true => cases hr; exact .inr ⟨rfl, rfl, _, rfl, .panicking (.cons hv hl)⟩
        | false => cases hr; exact .inl ⟨_, _, rfl, hv, _, rfl, .panicking (.cons hv hl)⟩

include ok in
theorem ops_ok {call : CallT} (hcall : CallOk P call) (hall : ops.toList = all) {μ₀ : Mu} {h₀ : Mem} {w₀ : World} {e : Ex} {ρ' : PM Value} {ds' : List Deferred} {m' : Option FrameMode} {h' : Mem} :
    ∀ (l : List Oper) (i : Nat), all.drop i = l → dstOk nt l = true → ∀ ρ ds m h, opsA T call all l ρ ds m h = some (.ex e ρ' ds' m' h') →
      m'.isSome = m.isSome ∧ ∀ μ a cs w, Post P μ₀ h₀ w₀ μ h w → FrR P nt c₀ cs₀ μ ρ ds m h a cs w →
        OpsW P m.isSome ops (CodePost P nt c₀ cs₀ μ₀ h₀ w₀ e ρ' ds' m' h') (List.range' i l.length) a cs w := by
  intro l
  induction l with
  | nil =>
    intro i _ _ ρ ds m h hv
    cases (show some (Out.ex .normal ρ ds m h) = some (.ex e ρ' ds' m' h') from hv)
    exact ⟨rfl, fun μ a cs w p s => OpsW.nil ⟨μ, p, .normal, s⟩⟩
  | cons o l ih =>
    intro i hi hd ρ ds m h hv
    obtain ⟨hd1, hd2⟩ := dstOk_cons hd
    have hi' : all.drop (i + 1) = l := by rw [← List.drop_drop, hi]; rfl
    have ho : ops[i]? = some o := by
      rw [← Array.getElem?_toList, hall]
      have : (all.drop i)[0]? = some o := by rw [hi]; rfl
      simpa using this
    have hrange : List.range' i (o :: l).length = i :: List.range' (i + 1) l.length := rfl
    rw [hrange]
    replace ih := ih (i + 1) hi' hd2
    replace hv : opsStep T call (opsA T call all l) o ρ ds m h (wantedG all ρ o.guard) = some (.ex e ρ' ds' m' h') := hv
    cases hw : wantedG all ρ o.guard with
    | none => rw [hw] at hv; cases hv
    | some b =>
    rw [hw] at hv
    cases b with
    | false =>
      obtain ⟨i1, i2⟩ := ih _ _ _ _ hv
      exact ⟨i1, fun μ a cs w p s => OpsW.skip ho (wanted_ok s.tr hall hw) (i2 μ _ cs w p (s.put hd1 (.refl s.hr) bad_ok))⟩
    | true =>
      replace hv : opsDo call (opsA T call all l) o.dst ρ ds m h (opA o.op T ρ h) = some (.ex e ρ' ds' m' h') := hv
      cases hr : opA o.op T ρ h with
      | none => rw [hr] at hv; cases hv
      | some r =>
      rw [hr] at hv
      replace hv : opsGo call (opsA T call all l) o.dst ρ ds m h r = some (.ex e ρ' ds' m' h') := hv
      have hop := fun (μ : Mu) (a : Act) (cs : List Frame) (w : World) (s : FrR P nt c₀ cs₀ μ ρ ds m h a cs w) => op_ok ok s.hr s.tr hr (s.nf.upto _)
      cases r with
      | value v h1 =>
        obtain ⟨i1, i2⟩ := ih _ _ _ _ hv
        refine ⟨i1, fun μ a cs w p s => ?_⟩
        obtain ⟨μ1, v', w1, p1, hvv, hrun⟩ := hop μ a cs w s
        rcases hrun with hrun | ⟨hrun, rfl⟩
        · exact OpsW.value ho (wanted_ok s.tr hall hw) hrun (i2 μ1 _ cs w1 (p.trans p1) (s.put hd1 p1 hvv))
        · exact OpsW.skipped ho (wanted_ok s.tr hall hw) hrun (i2 μ1 _ cs w1 (p.trans p1) (s.put hd1 p1 hvv))
      | enter f args h1 =>
        replace hv : nxCall (fun v h => opsA T call all l (put ρ o.dst v) ds m h) (fun chain h => some (.ex (.panic chain) ρ ds m h)) (call f args none h1) = some (.ex e ρ' ds' m' h') := hv
        cases hc : call f args none h1 with
        | none => rw [hc] at hv; cases hv
        | some fin =>
        rw [hc] at hv
        obtain ⟨en, mx, h2⟩ := fin
        cases en with
        | returned v =>
          obtain ⟨i1, i2⟩ := ih _ _ _ _ hv
          refine ⟨i1, fun μ a cs w p s => ?_⟩
          obtain ⟨rfl, args', ha, hrun⟩ := hop μ a cs w s
          refine OpsW.enter ho (wanted_ok s.tr hall hw) hrun (Calls.mono (hcall _ _ _ _ _ _ _ hc μ w args' ha s.hr s.nf) fun e' w' he => ?_)
          obtain ⟨μ1, p1, h3⟩ := he
          cases h3 with
          | returned hvv => exact i2 μ1 _ cs w' (p.trans p1) (s.put hd1 p1 hvv)
        | panicked chain =>
          cases (show some (Out.ex (.panic chain) ρ ds m h2) = some (.ex e ρ' ds' m' h') from hv)
          refine ⟨rfl, fun μ a cs w p s => ?_⟩
          obtain ⟨rfl, args', ha, hrun⟩ := hop μ a cs w s
          refine OpsW.enter ho (wanted_ok s.tr hall hw) hrun (Calls.mono (hcall _ _ _ _ _ _ _ hc μ w args' ha s.hr s.nf) fun e' w' he => ?_)
          obtain ⟨μ1, p1, h3⟩ := he
          cases h3 with
          | panicked hp => exact ⟨μ1, p.trans p1, .panic hp, ⟨s.tr.mono p1.ext, s.sz, s.ds.mono p1.ext, s.cr.mono p1.ext, p1.rel, s.nf.post p1⟩⟩
      | defer x =>
        obtain ⟨i1, i2⟩ := ih _ _ _ _ hv
        refine ⟨i1, fun μ a cs w p s => ?_⟩
        obtain ⟨x', h1, h2, hrun⟩ := hop μ a cs w s
        refine OpsW.defer ho (wanted_ok s.tr hall hw) hrun (i2 μ _ cs w p ?_)
        exact FrR.put (a := { a with defers := x' :: a.defers }) ⟨s.tr, s.sz, .cons ⟨h1, h2⟩ s.ds, s.cr, s.hr, s.nf⟩ hd1 (.refl s.hr) bad_ok
      | recover =>
        replace hv : nxMode (opsA T call all l) ρ o.dst ds h (recoverA m) = some (.ex e ρ' ds' m' h') := hv
        cases m with
        | none => cases hv
        | some u =>
        cases hrec : recoverA (some u) with
        | none => rw [hrec] at hv; cases hv
        | some p =>
        obtain ⟨v, m1⟩ := p
        rw [hrec] at hv
        obtain ⟨i1, i2⟩ := ih _ _ _ _ hv
        refine ⟨i1, fun μ a cs w p s => OpsW.recover ho (wanted_ok s.tr hall hw) (hop μ a cs w s) ?_⟩
        have step : ∀ (cs' : List Frame) (v' : Value), VR μ v v' → ClR c₀ cs₀ μ (some m1) cs' → FrR P nt c₀ cs₀ μ (put ρ o.dst v) ds (some m1) h (a.put o.dst v') cs' w := fun cs' v' hvv hcr =>
          FrR.put (a := a) ⟨s.tr, s.sz, s.ds, hcr, s.hr, s.nf⟩ hd1 (.refl s.hr) hvv
        rcases recover_ok hrec s.cr with ⟨v', cs', h1, h2, h3⟩ | ⟨h1, rfl, h3⟩
        · rw [h1]; exact i2 μ _ cs' w p (step cs' v' h2 h3)
        · rw [h1]; exact i2 μ _ cs w p (step cs _ .nilIface h3)
      | panic v h1 =>
        cases (show some (Out.ex (.panic [{ v, recovered := false }]) ρ ds m h1) = some (.ex e ρ' ds' m' h') from hv)
        refine ⟨rfl, fun μ a cs w p s => ?_⟩
        obtain ⟨rfl, v', hvv, hrun⟩ := hop μ a cs w s
        exact OpsW.panic ho (wanted_ok s.tr hall hw) hrun ⟨μ, p, .panic (.cons hvv .nil), s⟩
end
end Go.AE
