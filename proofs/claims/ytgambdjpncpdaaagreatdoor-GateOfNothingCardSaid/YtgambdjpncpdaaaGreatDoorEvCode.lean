/- Rules for the model's code: a frame whose mode may be looked at and one whose mode may not, by one set of rules. -/
import Derived.Test.YtgambdjpncpdaaaGreatDoorEvOp
import Derived.Recover
import Derived.Orders
namespace Go.AE

section
variable {P : Program} {d : Bool} {Q : Exit → Act → List Frame → World → Prop} {a : Act} {cs : List Frame} {w : World}

/-- Code in a frame: in whatever frame, or (d) in that of a deferred call. -/
def W (P : Program) (d : Bool) (c : Code) (Q : Exit → Act → List Frame → World → Prop) (a : Act) (cs : List Frame) (w : World) : Prop :=
  ∀ (b : Frame) (k : List Item), (d = true → b.kind = .deferred ∧ b.roundOf = none) →
    ∃ e a' cs' w', Q e a' cs' w' ∧ Arrives P (lone (b.at a (.code c :: k)) cs w) b k cs' e a' w'

theorem W.of_wp {c : Code} (h : c.wp P (fun e a' w' => Q e a' cs w') a w) : W P d c Q a cs w :=
  fun b k _ => let ⟨e, a', w', q, r⟩ := h b k cs; ⟨e, a', cs, w', q, r⟩
theorem W.of_wpS {c : Code} (h : c.wpS P Q a cs w) : W P true c Q a cs w := fun b k hb => h b k (hb rfl).1 (hb rfl).2
theorem W.wpS {c : Code} (h : W P true c Q a cs w) : c.wpS P Q a cs w := fun b k h1 h2 => h b k fun _ => ⟨h1, h2⟩
theorem W.wp {c : Code} {Q : Exit → Act → World → Prop} (h : ∀ cs, W P false c (fun e a' cs' w' => cs' = cs ∧ Q e a' w') a cs w) : c.wp P Q a w := by
  intro b k cs
  obtain ⟨e, a', cs', w', ⟨rfl, q⟩, r⟩ := h cs b k (fun h => nomatch h)
  exact ⟨e, a', w', q, r⟩
theorem W.mono {c : Code} {Q' : Exit → Act → List Frame → World → Prop} (h : W P d c Q a cs w) (hq : ∀ e a cs w, Q e a cs w → Q' e a cs w) : W P d c Q' a cs w :=
  fun b k hb => let ⟨e, a', cs', w', q, r⟩ := h b k hb; ⟨e, a', cs', w', hq _ _ _ _ q, r⟩
theorem W.skip (h : Q .normal a cs w) : W P d .skip Q a cs w := .of_wp (wp_skip h)
theorem W.label {l : Nat} (h : Q .normal a cs w) : W P d (.label l) Q a cs w := .of_wp (wp_label h)
theorem W.exit {id : Nat} (h : Q (.exit id) a cs w) : W P d (.exit id) Q a cs w := .of_wp (wp_exit h)
theorem W.ret (h : Q .ret a cs w) : W P d .ret Q a cs w := .of_wp (wp_ret h)
theorem W.seq {x y : Code} (h : W P d x (Exit.thenS (W P d y Q) Q) a cs w) : W P d (.seq x y) Q a cs w := by
  intro b k hb
  obtain ⟨e, a₁, cs₁, w₁, hq, harr⟩ := h b (.code y :: k) hb
  cases e with
  | normal =>
    obtain ⟨e₂, a₂, cs₂, w₂, hq₂, harr₂⟩ := hq b k hb
    exact ⟨e₂, a₂, cs₂, w₂, hq₂, .of_steps (.head step_seq harr) harr₂⟩
  | exit id => exact ⟨_, a₁, cs₁, w₁, hq, .of_steps (.one step_seq) (.pass (x := .code y) rfl (fun _ _ => .inl (by simp)) harr)⟩
  | goto l => exact ⟨_, a₁, cs₁, w₁, hq, .of_steps (.one step_seq) (.pass (x := .code y) rfl (fun _ _ => .inl (by simp)) harr)⟩
  | ret => exact ⟨_, a₁, cs₁, w₁, hq, .of_steps (.one step_seq) (.pass (x := .code y) rfl (fun _ _ => .inl (by simp)) harr)⟩
  | panic ch => exact ⟨_, a₁, cs₁, w₁, hq, .of_steps (.one step_seq) (.pass (x := .code y) rfl (fun _ _ => .inl (by simp)) harr)⟩
  | outgrown => exact ⟨_, a₁, cs₁, w₁, hq, .of_steps (.one step_seq) (.pass (x := .code y) rfl (fun _ _ => .inl (by simp)) harr)⟩
theorem W.cond {c : Operand} {x y : Code} {t : Bool} (hc : a.eval c = .bool t) (h : W P d (if t then x else y) Q a cs w) : W P d (.cond c x y) Q a cs w :=
  fun b k hb => let ⟨e, a', cs', w', q, r⟩ := h b k hb; ⟨e, a', cs', w', q, .of_steps (.one (step_cond hc)) r⟩
/-- What stands behind a block. -/
def inBlockS (id : Nat) (Q : Exit → Act → List Frame → World → Prop) : Exit → Act → List Frame → World → Prop
  | .exit id', a, cs, w => if id' = id then Q .normal a cs w else Q (.exit id') a cs w
  | e, a, cs, w => Q e a cs w
theorem W.block {id : Nat} {c : Code} (h : W P d c (inBlockS id Q) a cs w) : W P d (.block id c) Q a cs w := by
  intro b k hb
  obtain ⟨e, a₁, cs₁, w₁, hq, harr⟩ := h b (.inBlock id :: k) hb
  cases e with
  | normal => exact ⟨.normal, a₁, cs₁, w₁, hq, .head step_block (Steps.trans harr (.one step_inBlock))⟩
  | exit id' =>
    by_cases hid : id' = id
    · simp only [inBlockS, hid, if_true] at hq
      exact ⟨.normal, a₁, cs₁, w₁, hq, .head step_block (harr k (by simp [exitTo, hid]))⟩
    · simp only [inBlockS, hid, if_false] at hq
      refine ⟨.exit id', a₁, cs₁, w₁, hq, fun k' hk => .head step_block (harr k' ?_)⟩
      have : (id == id') = false := by simp; exact fun h => hid h.symm
      simp [exitTo, this, hk]
  | goto l => exact ⟨_, a₁, cs₁, w₁, hq, fun k' hk => .head step_block (harr k' (by simp [gotoIn, hk]))⟩
  | ret => exact ⟨_, a₁, cs₁, w₁, hq, .of_steps (.one step_block) harr⟩
  | panic ch => exact ⟨_, a₁, cs₁, w₁, hq, .of_steps (.one step_block) harr⟩
  | outgrown => exact ⟨_, a₁, cs₁, w₁, hq, .of_steps (b := b) (k := k) (cs := cs₁) (e := .outgrown) (.one step_block) harr⟩
/-- A loop at the start of a round. -/
def WL (P : Program) (d : Bool) (c : Code) (Q : Exit → Act → List Frame → World → Prop) (a : Act) (cs : List Frame) (w : World) : Prop :=
  ∀ (b : Frame) (k : List Item), (d = true → b.kind = .deferred ∧ b.roundOf = none) →
    ∃ e a' cs' w', Q e a' cs' w' ∧ Arrives P (lone (b.at a (.code c :: .inLoop c :: k)) cs w) b k cs' e a' w'
theorem W.loop {c : Code} (h : WL P d c Q a cs w) : W P d (.loop c) Q a cs w :=
  fun b k hb => let ⟨e, a', cs', w', q, r⟩ := h b k hb; ⟨e, a', cs', w', q, .of_steps (.one step_loop) r⟩
theorem WL.round {c : Code} (h : W P d c (Exit.thenS (WL P d c Q) Q) a cs w) : WL P d c Q a cs w := by
  intro b k hb
  obtain ⟨e, a₁, cs₁, w₁, hq, harr⟩ := h b (.inLoop c :: k) hb
  cases e with
  | normal =>
    obtain ⟨e₂, a₂, cs₂, w₂, hq₂, harr₂⟩ := hq b k hb
    exact ⟨e₂, a₂, cs₂, w₂, hq₂, .of_steps (Steps.trans harr (.one step_inLoop)) harr₂⟩
  | exit id => exact ⟨_, a₁, cs₁, w₁, hq, .pass (x := .inLoop c) rfl (fun _ _ => .inl (by simp)) harr⟩
  | goto l => exact ⟨_, a₁, cs₁, w₁, hq, .pass (x := .inLoop c) rfl (fun _ _ => .inl (by simp)) harr⟩
  | ret => exact ⟨_, a₁, cs₁, w₁, hq, .pass (x := .inLoop c) rfl (fun _ _ => .inl (by simp)) harr⟩
  | panic ch => exact ⟨_, a₁, cs₁, w₁, hq, .pass (x := .inLoop c) rfl (fun _ _ => .inl (by simp)) harr⟩
  | outgrown => exact ⟨_, a₁, cs₁, w₁, hq, .pass (x := .inLoop c) rfl (fun _ _ => .inl (by simp)) harr⟩

/-- The operations of a region. -/
def OpsW (P : Program) (d : Bool) (ops : Array Oper) (Q : Exit → Act → List Frame → World → Prop) (l : List Nat) (a : Act) (cs : List Frame) (w : World) : Prop :=
  match d with
  | false => wpOps P ops (fun e a w => Q e a cs w) l a w
  | true => wpOpsS P ops Q l a cs w
section
variable {ops : Array Oper} {i : Nat} {rest : List Nat} {o : Oper} {w' : World}
theorem OpsW.nil (h : Q .normal a cs w) : OpsW P d ops Q [] a cs w := by cases d <;> exact h
theorem OpsW.skip (ho : ops[i]? = some o) (hw : Region.wanted o (yielded ops a.tmps) = false) (h : OpsW P d ops Q rest (a.put o.dst undef) cs w) :
    OpsW P d ops Q (i :: rest) a cs w := by
  cases d <;> simp only [OpsW, wpOps, wpOpsS, ho, hw, Bool.false_eq_true, if_false] at h ⊢ <;> exact h
theorem OpsW.value {v : Value} (ho : ops[i]? = some o) (hw : Region.wanted o (yielded ops a.tmps) = true)
    (hr : (execOp a.eval o).run P w = .ok (.value v) w') (h : OpsW P d ops Q rest (a.put o.dst v) cs w') : OpsW P d ops Q (i :: rest) a cs w := by
  cases d <;> simp only [OpsW, wpOps, wpOpsS, ho, hw, if_true, Oper.wp, hr, Oper.upon] at h ⊢
  · exact .inl h
  · exact h
theorem OpsW.skipped (ho : ops[i]? = some o) (hw : Region.wanted o (yielded ops a.tmps) = true)
    (hr : (execOp a.eval o).run P w = .ok .skip w') (h : OpsW P d ops Q rest (a.put o.dst undef) cs w') : OpsW P d ops Q (i :: rest) a cs w := by
  cases d <;> simp only [OpsW, wpOps, wpOpsS, ho, hw, if_true, Oper.wp, hr, Oper.upon] at h ⊢
  · exact .inl h
  · exact h
theorem OpsW.defer {x : Deferred} (ho : ops[i]? = some o) (hw : Region.wanted o (yielded ops a.tmps) = true)
    (hr : (execOp a.eval o).run P w = .ok (.defer x) w') (h : OpsW P d ops Q rest ({ a with defers := x :: a.defers }.put o.dst undef) cs w') :
    OpsW P d ops Q (i :: rest) a cs w := by
  cases d <;> simp only [OpsW, wpOps, wpOpsS, ho, hw, if_true, Oper.wp, hr, Oper.upon] at h ⊢
  · exact .inl h
  · exact h
theorem OpsW.enter {f : FuncId} {args : Array Value} (ho : ops[i]? = some o) (hw : Region.wanted o (yielded ops a.tmps) = true)
    (hr : (execOp a.eval o).run P w = .ok (.enter f args) w') (h : Calls P f args w' fun
      | .returned v, w'' => OpsW P d ops Q rest (a.put o.dst v) cs w''
      | .panicked chain, w'' => Q (.panic chain) a cs w''
      | .outgrown, _ => False) : OpsW P d ops Q (i :: rest) a cs w := by
  cases d <;> simp only [OpsW, wpOps, wpOpsS, ho, hw, if_true, Oper.wp, hr, Oper.upon] at h ⊢
  · exact .inl (h.mono fun e w'' he => by cases e <;> first | exact he | exact he.elim)
  · exact h.mono fun e w'' he => by cases e <;> first | exact he | exact he.elim
theorem OpsW.panic {v : Value} (ho : ops[i]? = some o) (hw : Region.wanted o (yielded ops a.tmps) = true)
    (hr : (execOp a.eval o).run P w = .halt (.panic v) w') (h : Q (.panic [{ v, recovered := false }]) a cs w') : OpsW P d ops Q (i :: rest) a cs w := by
  cases d <;> simp only [OpsW, wpOps, wpOpsS, ho, hw, if_true, Oper.wp, hr, Oper.upon] at h ⊢
  · exact .inl h
  · exact h
theorem OpsW.recover (ho : ops[i]? = some o) (hw : Region.wanted o (yielded ops a.tmps) = true)
    (hr : (execOp a.eval o).run P w = .ok .recover w') (h : match recoverD cs with
      | some (v, cs') => OpsW P true ops Q rest (a.put o.dst v) cs' w'
      | none => OpsW P true ops Q rest (a.put o.dst .nilIface) cs w') : OpsW P true ops Q (i :: rest) a cs w := by
  simp only [OpsW, wpOpsS, ho, hw, if_true, hr] at h ⊢
  exact h
theorem W.region {id : Nat} (h : OpsW P d ops Q (List.range ops.size) a cs w) : W P d (.region id ops false) Q a cs w := by
  cases d
  · exact .of_wp (wp_region h)
  · exact .of_wpS (wpS_region h)

/-- A region that draws its order. -/
theorem W.region_draw {id : Nat} (h : ∀ t, OpsW P d ops Q (Region.schedule (P.follows .mixedOrders) ops t) a cs { w with drawn := w.drawn + 1 }) : W P d (.region id ops true) Q a cs w := by
  cases d
  · exact .of_wp (wp_region_draw h)
  · exact .of_wpS fun b k hb hr => let ⟨e, a', cs', w', q, r⟩ := wp_opsS _ a cs _ (h _) b k hb hr; ⟨e, a', cs', w', q, .of_steps (.one step_region_draw) r⟩

/-- One operation, and what is behind it. -/
def OpW (P : Program) (d : Bool) (ops : Array Oper) (Q : Exit → Act → List Frame → World → Prop) (i : Nat) (K : Act → List Frame → World → Prop) (a : Act) (cs : List Frame) (w : World) : Prop :=
  OpsW P d ops (Exit.thenS K Q) [i] a cs w
theorem OpsW.cons {l : List Nat} (h : OpW P d ops Q i (OpsW P d ops Q l) a cs w) : OpsW P d ops Q (i :: l) a cs w := by
  cases d
  · have h : wpOps P ops (fun e a w => Exit.thenS (OpsW P false ops Q l) Q e a cs w) [i] a w := h
    show wpOps P ops (fun e a w => Q e a cs w) (i :: l) a w
    rw [wpOps_cons] at h ⊢
    exact h
  · exact h
theorem OpsW.mono {Q' : Exit → Act → List Frame → World → Prop} (hq : ∀ e a cs w, Q e a cs w → Q' e a cs w) {l : List Nat} : ∀ {a : Act} {cs : List Frame} {w : World}, OpsW P d ops Q l a cs w → OpsW P d ops Q' l a cs w := by
  have up : ∀ {o : Oper} {a : Act} {R R' : Act → World → Prop} {Z Z' : Exit → Act → World → Prop} {r : Result Next}, (∀ a w, R a w → R' a w) → (∀ e a w, Z e a w → Z' e a w) → o.upon P a R Z r → o.upon P a R' Z' r := by
    intro o a R R' Z Z' r h1 h2 hh
    cases r with
    | ok n w' =>
      cases n <;> simp only [Oper.upon] at hh ⊢ <;>
        first
          | exact h1 _ _ hh
          | exact Calls.mono hh (fun e w'' he => by cases e <;> first | exact h1 _ _ he | exact h2 _ _ _ he | exact he.imp fun _ x => x.imp fun _ y => h2 _ _ _ y)
          | exact Rows.mono hh (fun _ _ he => h1 _ _ he)
          | exact hh
    | halt x w' => cases x <;> simp only [Oper.upon] at hh ⊢ <;> first | exact h2 _ _ _ hh | exact hh
  have out : ∀ {Z Z' : Exit → Act → World → Prop}, (∀ e a w, Z e a w → Z' e a w) → LetsOut Z → LetsOut Z' := by
    intro Z Z' h hh
    exact hh.imp fun _ x => x.imp fun _ y => h _ _ _ y
  induction l with
  | nil => intro a cs w h; cases d <;> exact hq _ _ _ _ h
  | cons i l ih =>
    intro a cs w h
    cases d
    · have h : wpOps P ops (fun e a w => Q e a cs w) (i :: l) a w := h
      show wpOps P ops (fun e a w => Q' e a cs w) (i :: l) a w
      have ih' : ∀ a w, wpOps P ops (fun e a w => Q e a cs w) l a w → wpOps P ops (fun e a w => Q' e a cs w) l a w := fun a w hh => ih hh
      rw [wpOps_cons] at h ⊢
      unfold wpOp at h ⊢
      split
      · rename_i ho
        simp only [ho] at h
        exact ih' _ _ h
      · rename_i o ho
        simp only [ho] at h
        split
        · rename_i hw
          simp only [hw, if_true] at h
          exact h.imp (up ih' (fun e a w => hq e a cs w)) (fun x => ⟨x.1, out (fun e a w => hq e a cs w) x.2⟩)
        · rename_i hw
          simp only [hw] at h
          exact ih' _ _ h
    · have h : wpOpsS P ops Q (i :: l) a cs w := h
      show wpOpsS P ops Q' (i :: l) a cs w
      have ih' : ∀ a cs w, wpOpsS P ops Q l a cs w → wpOpsS P ops Q' l a cs w := fun a cs w hh => ih hh
      simp only [wpOpsS] at h ⊢
      split
      · rename_i ho
        simp only [ho] at h
        exact ih' _ _ _ h
      · rename_i o ho
        simp only [ho] at h
        split
        · rename_i hw
          simp only [hw, if_true] at h
          split
          · rename_i w' hr
            simp only [hr] at h
            split
            · rename_i v cs' hc
              simp only [hc] at h
              exact ih' _ _ _ h
            · rename_i hc
              simp only [hc] at h
              exact ih' _ _ _ h
          · rename_i r hr
            split at h
            · rename_i w' hr2
              exact absurd hr2 (hr w')
            · exact up (fun a w => ih' a cs w) (fun e a w => hq e a cs w) h
        · rename_i hw
          simp only [hw] at h
          exact ih' _ _ _ h
theorem OpW.mono {K K' : Act → List Frame → World → Prop} (h : ∀ a cs w, K a cs w → K' a cs w) (hh : OpW P d ops Q i K a cs w) : OpW P d ops Q i K' a cs w :=
  OpsW.mono (fun e a cs w x => by cases e <;> first | exact h _ _ _ x | exact x) hh

/-- What is to be shown of a region that draws its order, whatever the order. -/
def AnyW (P : Program) (d : Bool) (ops : Array Oper) (Q : Exit → Act → List Frame → World → Prop) : Nat → Array Bool → Act → List Frame → World → Prop
  | 0, S, a, cs, w => Region.ready .any ops S = [] ∧ Q .normal a cs w
  | f + 1, S, a, cs, w => (Region.ready .any ops S = [] → Q .normal a cs w) ∧ ∀ i ∈ Region.ready .any ops S, OpW P d ops Q i (AnyW P d ops Q f (S.setIfInBounds i true)) a cs w
theorem AnyW.sound : ∀ (fuel t : Nat) (S : Array Bool) (a : Act) (cs : List Frame) (w : World), AnyW P d ops Q fuel S a cs w → OpsW P d ops Q (Region.linearise.go .any ops fuel t S []) a cs w := by
  intro fuel
  induction fuel with
  | zero => intro t S a cs w h; simp only [Region.linearise.go, List.reverse_nil]; exact .nil h.2
  | succ fuel ih =>
    intro t S a cs w h
    obtain ⟨h₀, h₁⟩ := h
    simp only [Region.linearise.go]
    change OpsW P d ops Q (match (Region.ready .any ops S)[t % (Region.ready .any ops S).length]? with
      | some i => Region.linearise.go .any ops fuel (t / (Region.ready .any ops S).length) (S.setIfInBounds i true) [i]
      | none => [].reverse) a cs w
    cases hi : (Region.ready .any ops S)[t % (Region.ready .any ops S).length]? with
    | none =>
      have hnil : Region.ready .any ops S = [] := by
        cases hr : Region.ready .any ops S with
        | nil => rfl
        | cons x xs =>
          rw [hr] at hi
          have hlt : t % (x :: xs).length < (x :: xs).length := Nat.mod_lt _ (by simp)
          simp at hi
          simp at hlt
          omega
      exact .nil (h₀ hnil)
    | some i =>
      simp only []
      rw [linearise_go_acc, List.reverse_singleton, List.singleton_append]
      exact .cons (OpW.mono (fun a cs w => ih _ _ a cs w) (h₁ i (List.mem_of_getElem? hi)))
theorem W.region_any {id : Nat} (hm : P.follows .mixedOrders = true) (h : AnyW P d ops Q ops.size (Array.replicate ops.size false) a cs { w with drawn := w.drawn + 1 }) : W P d (.region id ops true) Q a cs w :=
  .region_draw fun t => by
    simp only [Region.schedule, hm, Bool.true_or, if_true]
    exact AnyW.sound ops.size t _ a cs _ h
end
end
end Go.AE
