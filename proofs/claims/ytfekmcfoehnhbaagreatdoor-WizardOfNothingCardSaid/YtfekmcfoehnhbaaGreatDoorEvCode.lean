/- Rules for the model's code: a frame whose mode may be looked at and one whose mode may not, by one set of rules. -/
import Derived.Test.YtfekmcfoehnhbaaGreatDoorEvOp
import Derived.Recover
namespace Go.AE

section
variable {P : Program} {d : Bool} {Q : Exit → Act → List Frame → World → Prop} {a : Act} {cs : List Frame} {w : World}

/-- Code in a frame: in whatever frame, or (d) in that of a deferred call. -/
def W (P : Program) (d : Bool) (c : Code) (Q : Exit → Act → List Frame → World → Prop) (a : Act) (cs : List Frame) (w : World) : Prop :=
  ∀ (b : Frame) (k : List Item), (d = true → b.kind = .deferred ∧ b.roundOf = none) →
    ∃ e a' cs' w', Q e a' cs' w' ∧ Arrives P (lone (b.at a (.code c :: k)) cs w) b k cs' e a' w'

theorem W.of_wp {c : Code} (h : c.wp P (fun e a' w' => Q e a' cs w') a w) : W P d c Q a cs w :=
  fun b k _ => let ⟨e, a', w', q, r⟩ := h b k cs; ⟨e, a', cs, w', q, r⟩
theorem W.of_wpS {c : Code} (h : c.wpS P Q a cs w) : W P true c Q a cs w := fun b k hb => h b k (hb rfl).1 (hb rfl).2
theorem W.wpS {c : Code} (h : W P true c Q a cs w) : c.wpS P Q a cs w := fun b k h1 h2 => h b k fun _ => ⟨h1, h2⟩
theorem W.wp {c : Code} {Q : Exit → Act → World → Prop} (h : ∀ cs, W P false c (fun e a' cs' w' => cs' = cs ∧ Q e a' w') a cs w) : c.wp P Q a w := by
  intro b k cs
  obtain ⟨e, a', cs', w', ⟨rfl, q⟩, r⟩ := h cs b k (fun h => nomatch h)
  exact ⟨e, a', w', q, r⟩
theorem W.mono {c : Code} {Q' : Exit → Act → List Frame → World → Prop} (h : W P d c Q a cs w) (hq : ∀ e a cs w, Q e a cs w → Q' e a cs w) : W P d c Q' a cs w :=
  fun b k hb => let ⟨e, a', cs', w', q, r⟩ := h b k hb; ⟨e, a', cs', w', hq _ _ _ _ q, r⟩
theorem W.skip (h : Q .normal a cs w) : W P d .skip Q a cs w := .of_wp (wp_skip h)
theorem W.label {l : Nat} (h : Q .normal a cs w) : W P d (.label l) Q a cs w := .of_wp (wp_label h)
theorem W.exit {id : Nat} (h : Q (.exit id) a cs w) : W P d (.exit id) Q a cs w := .of_wp (wp_exit h)
theorem W.ret (h : Q .ret a cs w) : W P d .ret Q a cs w := .of_wp (wp_ret h)
theorem W.seq {x y : Code} (h : W P d x (Exit.thenS (W P d y Q) Q) a cs w) : W P d (.seq x y) Q a cs w := by
  intro b k hb
  obtain ⟨e, a₁, cs₁, w₁, hq, harr⟩ := h b (.code y :: k) hb
  cases e with
  | normal =>
    obtain ⟨e₂, a₂, cs₂, w₂, hq₂, harr₂⟩ := hq b k hb
    exact ⟨e₂, a₂, cs₂, w₂, hq₂, .of_steps (.head step_seq harr) harr₂⟩
  | exit id => exact ⟨_, a₁, cs₁, w₁, hq, .of_steps (.one step_seq) (.pass (x := .code y) rfl (fun _ _ => .inl (by simp)) harr)⟩
  | goto l => exact ⟨_, a₁, cs₁, w₁, hq, .of_steps (.one step_seq) (.pass (x := .code y) rfl (fun _ _ => .inl (by simp)) harr)⟩
  | ret => exact ⟨_, a₁, cs₁, w₁, hq, .of_steps (.one step_seq) (.pass (x := .code y) rfl (fun _ _ => .inl (by simp)) harr)⟩
  | panic ch => exact ⟨_, a₁, cs₁, w₁, hq, .of_steps (.one step_seq) (.pass (x := .code y) rfl (fun _ _ => .inl (by simp)) harr)⟩
  | outgrown => exact ⟨_, a₁, cs₁, w₁, hq, .of_steps (.one step_seq) (.pass (x := .code y) rfl (fun _ _ => .inl (by simp)) harr)⟩
theorem W.cond {c : Operand} {x y : Code} {t : Bool} (hc : a.eval c = .bool t) (h : W P d (if t then x else y) Q a cs w) : W P d (.cond c x y) Q a cs w :=
  fun b k hb => let ⟨e, a', cs', w', q, r⟩ := h b k hb; ⟨e, a', cs', w', q, .of_steps (.one (step_cond hc)) r⟩
/-- What stands behind a block. -/
def inBlockS (id : Nat) (Q : Exit → Act → List Frame → World → Prop) : Exit → Act → List Frame → World → Prop
  | .exit id', a, cs, w => if id' = id then Q .normal a cs w else Q (.exit id') a cs w
  | e, a, cs, w => Q e a cs w
theorem W.block {id : Nat} {c : Code} (h : W P d c (inBlockS id Q) a cs w) : W P d (.block id c) Q a cs w := by
  intro b k hb
  obtain ⟨e, a₁, cs₁, w₁, hq, harr⟩ := h b (.inBlock id :: k) hb
  cases e with
  | normal => exact ⟨.normal, a₁, cs₁, w₁, hq, .head step_block (Steps.trans harr (.one step_inBlock))⟩
  | exit id' =>
    by_cases hid : id' = id
    · simp only [inBlockS, hid, if_true] at hq
      exact ⟨.normal, a₁, cs₁, w₁, hq, .head step_block (harr k (by simp [exitTo, hid]))⟩
    · simp only [inBlockS, hid, if_false] at hq
      refine ⟨.exit id', a₁, cs₁, w₁, hq, fun k' hk => .head step_block (harr k' ?_)⟩
      have : (id == id') = false := by simp; exact fun h => hid h.symm
      simp [exitTo, this, hk]
  | goto l => exact ⟨_, a₁, cs₁, w₁, hq, fun k' hk => .head step_block (harr k' (by simp [gotoIn, hk]))⟩
  | ret => exact ⟨_, a₁, cs₁, w₁, hq, .of_steps (.one step_block) harr⟩
  | panic ch => exact ⟨_, a₁, cs₁, w₁, hq, .of_steps (.one step_block) harr⟩
  | outgrown => exact ⟨_, a₁, cs₁, w₁, hq, .of_steps (b := b) (k := k) (cs := cs₁) (e := .outgrown) (.one step_block) harr⟩
/-- A loop at the start of a round. -/
def WL (P : Program) (d : Bool) (c : Code) (Q : Exit → Act → List Frame → World → Prop) (a : Act) (cs : List Frame) (w : World) : Prop :=
  ∀ (b : Frame) (k : List Item), (d = true → b.kind = .deferred ∧ b.roundOf = none) →
    ∃ e a' cs' w', Q e a' cs' w' ∧ Arrives P (lone (b.at a (.code c :: .inLoop c :: k)) cs w) b k cs' e a' w'
theorem W.loop {c : Code} (h : WL P d c Q a cs w) : W P d (.loop c) Q a cs w :=
  fun b k hb => let ⟨e, a', cs', w', q, r⟩ := h b k hb; ⟨e, a', cs', w', q, .of_steps (.one step_loop) r⟩
theorem WL.round {c : Code} (h : W P d c (Exit.thenS (WL P d c Q) Q) a cs w) : WL P d c Q a cs w := by
  intro b k hb
  obtain ⟨e, a₁, cs₁, w₁, hq, harr⟩ := h b (.inLoop c :: k) hb
  cases e with
  | normal =>
    obtain ⟨e₂, a₂, cs₂, w₂, hq₂, harr₂⟩ := hq b k hb
    exact ⟨e₂, a₂, cs₂, w₂, hq₂, .of_steps (Steps.trans harr (.one step_inLoop)) harr₂⟩
  | exit id => exact ⟨_, a₁, cs₁, w₁, hq, .pass (x := .inLoop c) rfl (fun _ _ => .inl (by simp)) harr⟩
  | goto l => exact ⟨_, a₁, cs₁, w₁, hq, .pass (x := .inLoop c) rfl (fun _ _ => .inl (by simp)) harr⟩
  | ret => exact ⟨_, a₁, cs₁, w₁, hq, .pass (x := .inLoop c) rfl (fun _ _ => .inl (by simp)) harr⟩
  | panic ch => exact ⟨_, a₁, cs₁, w₁, hq, .pass (x := .inLoop c) rfl (fun _ _ => .inl (by simp)) harr⟩
  | outgrown => exact ⟨_, a₁, cs₁, w₁, hq, .pass (x := .inLoop c) rfl (fun _ _ => .inl (by simp)) harr⟩

/-- The operations of a region. -/
def OpsW (P : Program) (d : Bool) (ops : Array Oper) (Q : Exit → Act → List Frame → World → Prop) (l : List Nat) (a : Act) (cs : List Frame) (w : World) : Prop :=
  match d with
  | false => wpOps P ops (fun e a w => Q e a cs w) l a w
  | true => wpOpsS P ops Q l a cs w
section
variable {ops : Array Oper} {i : Nat} {rest : List Nat} {o : Oper} {w' : World}
theorem OpsW.nil (h : Q .normal a cs w) : OpsW P d ops Q [] a cs w := by cases d <;> exact h
theorem OpsW.skip (ho : ops[i]? = some o) (hw : Region.wanted o (yielded ops a.tmps) = false) (h : OpsW P d ops Q rest (a.put o.dst undef) cs w) :
    OpsW P d ops Q (i :: rest) a cs w := by
  cases d <;> simp only [OpsW, wpOps, wpOpsS, ho, hw, Bool.false_eq_true, if_false] at h ⊢ <;> exact h
theorem OpsW.value {v : Value} (ho : ops[i]? = some o) (hw : Region.wanted o (yielded ops a.tmps) = true)
    (hr : (execOp a.eval o).run P w = .ok (.value v) w') (h : OpsW P d ops Q rest (a.put o.dst v) cs w') : OpsW P d ops Q (i :: rest) a cs w := by
  cases d <;> simp only [OpsW, wpOps, wpOpsS, ho, hw, if_true, Oper.wp, hr, Oper.upon] at h ⊢
  · exact .inl h
  · exact h
theorem OpsW.skipped (ho : ops[i]? = some o) (hw : Region.wanted o (yielded ops a.tmps) = true)
    (hr : (execOp a.eval o).run P w = .ok .skip w') (h : OpsW P d ops Q rest (a.put o.dst undef) cs w') : OpsW P d ops Q (i :: rest) a cs w := by
  cases d <;> simp only [OpsW, wpOps, wpOpsS, ho, hw, if_true, Oper.wp, hr, Oper.upon] at h ⊢
  · exact .inl h
  · exact h
theorem OpsW.defer {x : Deferred} (ho : ops[i]? = some o) (hw : Region.wanted o (yielded ops a.tmps) = true)
    (hr : (execOp a.eval o).run P w = .ok (.defer x) w') (h : OpsW P d ops Q rest ({ a with defers := x :: a.defers }.put o.dst undef) cs w') :
    OpsW P d ops Q (i :: rest) a cs w := by
  cases d <;> simp only [OpsW, wpOps, wpOpsS, ho, hw, if_true, Oper.wp, hr, Oper.upon] at h ⊢
  · exact .inl h
  · exact h
theorem OpsW.enter {f : FuncId} {args : Array Value} (ho : ops[i]? = some o) (hw : Region.wanted o (yielded ops a.tmps) = true)
    (hr : (execOp a.eval o).run P w = .ok (.enter f args) w') (h : Calls P f args w' fun
      | .returned v, w'' => OpsW P d ops Q rest (a.put o.dst v) cs w''
      | .panicked chain, w'' => Q (.panic chain) a cs w''
      | .outgrown, _ => False) : OpsW P d ops Q (i :: rest) a cs w := by
  cases d <;> simp only [OpsW, wpOps, wpOpsS, ho, hw, if_true, Oper.wp, hr, Oper.upon] at h ⊢
  · exact .inl (h.mono fun e w'' he => by cases e <;> first | exact he | exact he.elim)
  · exact h.mono fun e w'' he => by cases e <;> first | exact he | exact he.elim
theorem OpsW.panic {v : Value} (ho : ops[i]? = some o) (hw : Region.wanted o (yielded ops a.tmps) = true)
    (hr : (execOp a.eval o).run P w = .halt (.panic v) w') (h : Q (.panic [{ v, recovered := false }]) a cs w') : OpsW P d ops Q (i :: rest) a cs w := by
  cases d <;> simp only [OpsW, wpOps, wpOpsS, ho, hw, if_true, Oper.wp, hr, Oper.upon] at h ⊢
  · exact .inl h
  · exact h
theorem OpsW.recover (ho : ops[i]? = some o) (hw : Region.wanted o (yielded ops a.tmps) = true)
    (hr : (execOp a.eval o).run P w = .ok .recover w') (h : match recoverD cs with
      | some (v, cs') => OpsW P true ops Q rest (a.put o.dst v) cs' w'
      | none => OpsW P true ops Q rest (a.put o.dst .nilIface) cs w') : OpsW P true ops Q (i :: rest) a cs w := by
  simp only [OpsW, wpOpsS, ho, hw, if_true, hr] at h ⊢
  exact h
theorem W.region {id : Nat} (h : OpsW P d ops Q (List.range ops.size) a cs w) : W P d (.region id ops false) Q a cs w := by
  cases d
  · exact .of_wp (wp_region h)
  · exact .of_wpS (wpS_region h)
end
end
end Go.AE
