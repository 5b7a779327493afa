/- From a run of the evaluator to the model's calls. -/
import Derived.Test.YtgambdjpncpdaaaGreatDoorEvRun
import Derived.Below
namespace Go.AE
open Go.RowKit

def isTrue : Option Fin → Bool
  | some (.en (.returned (.bool b)) _ _) => b
  | _ => false
theorem isTrue_some {o : Option Fin} (h : isTrue o = true) : ∃ m h', o = some (.en (.returned (.bool true)) m h') := by
  unfold isTrue at h
  split at h
  · subst h; exact ⟨_, _, rfl⟩
  · cases h
/-- What a call of the evaluator's tells of the model's call, in whatever world. -/
theorem calls_mu {P : Program} {T : Tab} (ok : TabOk P T) (hmix : P.follows .mixedOrders = true) {X : PM ConF} (hX : ConOk P X) {n k : Nat} {f : FuncId} {args : List Value} {μ : Mu} (hμ : NewFrom μ k)
    (hv : isTrue (run T X n f args none ⟨k, .leaf⟩) = true) {args' : Array Value} (ha : LR μ args args'.toList) (w : World) :
    Calls P f args' w fun e w' => e = .returned (.bool true) ∧ Below w.heap.size w w' := by
  obtain ⟨m', h', hv⟩ := isTrue_some hv
  have := run_ok ok hmix hX n f args none ⟨k, .leaf⟩ (.returned (.bool true)) m' h' hv μ w args' ha (HR.leaf _ _ _) hμ
  refine Calls.mono this fun e w' ⟨μ', p, he⟩ => ?_
  cases he with
  | returned hvv =>
    cases hvv
    exact ⟨rfl, p.frame.os, p.frame.tape, p.frame.output, p.frame.size, fun k hk => p.frame.block k hk not_live_leaf⟩
theorem calls_of {P : Program} {T : Tab} (ok : TabOk P T) (hmix : P.follows .mixedOrders = true) {X : PM ConF} (hX : ConOk P X) {n : Nat} {f : FuncId} {args : List Value}
    (hv : isTrue (run T X n f args none ⟨0, .leaf⟩) = true) {args' : Array Value} (ha : LR (fun _ => none) args args'.toList) (w : World) :
    Calls P f args' w fun e w' => e = .returned (.bool true) ∧ Below w.heap.size w w' :=
  calls_mu ok hmix hX (fun _ _ => rfl) hv ha w

/- one text that is not known -/
/-- where the text lies -/
def muKey (s : ByteArray) : Mu := fun id => if id = 0 then some ⟨0, 0, 0, 0, s, []⟩ else none
theorem muKey_new (s : ByteArray) : NewFrom (muKey s) 1 := fun id h => by unfold muKey; rw [if_neg (by omega)]
theorem muKey_text {s : ByteArray} {lo hi : Nat} (h1 : lo ≤ s.size) (h2 : s.size ≤ hi) : VR (muKey s) (.complex .f64 lo hi) (.string s) :=
  VR.key lo hi ⟨0, 0, 0, 0, s, []⟩ (by simp [muKey]) h1 h2
/-- a text of so many bytes -/
def textIn (lo hi : Nat) : Value := .complex .f64 lo hi
/-- a number within bounds; they are counted from -2^63 on -/
def numIn (lo hi : Nat) : Value := .complex .f32 lo hi

/- a run that is taken apart -/
theorem opsA_value {T : Tab} {call : CallT} {all l : List Oper} {o : Oper} {ρ : PM Value} {ds : List Deferred} {m : Option FrameMode} {h h' : Mem} {v : Value}
    (hw : wantedG all ρ o.guard = some true) (ho : opA o.op T ρ h = some (.value v h')) : opsA T call all (o :: l) ρ ds m h = opsA T call all l (put ρ o.dst v) ds m h' := by
  show opsStep T call (opsA T call all l) o ρ ds m h (wantedG all ρ o.guard) = _
  rw [hw]
  show opsDo call (opsA T call all l) o.dst ρ ds m h (opA o.op T ρ h) = _
  rw [ho]
  rfl
theorem int_eq (h : Mem) (k : IntKind) (n : Int) : int h k n = some (.value (.int k n) h) := by simp [int, frI_eq]
theorem bool_eq (h : Mem) (b : Bool) : bool h b = some (.value (.bool b) h) := by cases b <;> rfl
theorem codeA_seq (a b : Code) (T : Tab) (call : CallT) (n : Nat) (ρ : PM Value) (ds : List Deferred) (m : Option FrameMode) (h : Mem) :
    codeA (.seq a b) T call n ρ ds m h = seqK (codeA b T call n) (codeA a T call n ρ ds m h) := rfl
theorem codeA_cond (c : Operand) (a b : Code) (T : Tab) (call : CallT) (n : Nat) (ρ : PM Value) (ds : List Deferred) (m : Option FrameMode) (h : Mem) :
    codeA (.cond c a b) T call n ρ ds m h = condK (codeA a T call n) (codeA b T call n) ρ ds m h (eval c ρ) := rfl
theorem seqK_normal (k : Sem1) (ρ : PM Value) (ds : List Deferred) (m : Option FrameMode) (h : Mem) : seqK k (some (.ex .normal ρ ds m h)) = k ρ ds m h := rfl
def sl : Code → Code
  | .seq a _ => a
  | c => c
def sr : Code → Code
  | .seq _ b => b
  | c => c
def opsOf : Code → List Oper
  | .region _ ops _ => ops.toList
  | _ => []
def envAt : Option Out → PM Value
  | some (.ex _ ρ _ _ _) => ρ
  | none => .leaf
theorem run_succ {T : Tab} {X : PM ConF} {n : Nat} {f : FuncId} {args : List Value} {h : Mem} {fn : Func} {c : Code} (hx : X.get f = none) (hf : T.funcs.get f = some fn) (hb : fn.body = some c) (hc : codeOk fn.ntmps c = true)
    (hl : Nat.ble args.length fn.ntmps = true) : run T X (n + 1) f args none h = bodyK T (run T X n) fn (codeA c T (run T X n) n (PM.ofList args) [] none h) := by
  show callX T (run T X n) n f args none h (X.get f) = _
  rw [hx]
  show funcA T (run T X n) n args none h (T.funcs.get f) = _
  rw [hf]
  show bodyA T (run T X n) n fn args none h fn.body = _
  rw [hb]
  simp only [bodyA, hc, hl]
end Go.AE
