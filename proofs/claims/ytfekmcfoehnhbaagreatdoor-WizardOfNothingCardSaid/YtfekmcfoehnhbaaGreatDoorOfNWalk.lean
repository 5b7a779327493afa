/- For every name, WizardOfNothing returns true: the walk. -/
import Derived.Test.YtfekmcfoehnhbaaGreatDoorEvTop
import Derived.KernelRfl
import Derived.Test.YtfekmcfoehnhbaaGreatDoorProg
namespace Go.Proofs.YtfekmcfoehnhbaaGreatDoor
open Go Go.AE Go.RowKit
set_option maxRecDepth 1000000

theorem mixed : Tryz.prog.follows .mixedOrders = true := by kernel_rfl
noncomputable def Tt : Tab := Tab.of Tryz.prog
noncomputable def c8 : Code := match Tryz.f8.body with
  | some c => c
  | none => .skip
noncomputable def r1 : Code := sl (sl (sr c8))
noncomputable def cd : Code := sr (sl (sr c8))
noncomputable def rest8 : Code := sr (sr c8)
noncomputable def thn : Code := match cd with
  | .cond _ a _ => a
  | c => c
noncomputable def els : Code := match cd with
  | .cond _ _ b => b
  | c => c
noncomputable def o8 (i : Nat) : Oper := ((opsOf r1)[i]?).getD default
abbrev h0 : Mem := ⟨0, .leaf⟩
abbrev N : Nat := 1999

theorem get8 : Tt.funcs.get 8 = some Tryz.f8 := by kernel_rfl
theorem body8 : Tryz.f8.body = some c8 := by kernel_rfl
theorem code8 : codeOk Tryz.f8.ntmps c8 = true := by kernel_rfl
theorem shape8 : c8 = .seq (sl c8) (.seq (.seq r1 (.cond (.tmp 17) thn els)) rest8) := by kernel_rfl
theorem ops8 : opsOf r1 = [o8 0, o8 1, o8 2] := by kernel_rfl
theorem region8 : codeA r1 = codeA (.region 1 (opsOf r1).toArray false) := by kernel_rfl

noncomputable def e1 (s : ByteArray) : PM Value := envAt (codeA (sl c8) Tt (run Tt N) N (PM.ofList [.string s]) [] none h0)
noncomputable def e2 (s : ByteArray) : PM Value := put (e1 s) (o8 0).dst (.string s)
noncomputable def e3 (s : ByteArray) : PM Value := put (e2 s) (o8 1).dst (.int .i64 (.ofNat (txt s).length))
noncomputable def e4 (s : ByteArray) (b : Bool) : PM Value := put (e3 s) (o8 2).dst (.bool b)

theorem step1 (s : ByteArray) : codeA (sl c8) Tt (run Tt N) N (PM.ofList [.string s]) [] none h0 = some (.ex .normal (e1 s) [] none h0) := by kernel_rfl
theorem at0 (s : ByteArray) : opA (o8 0).op Tt (e1 s) h0 = some (.value (.string s) h0) := by kernel_rfl
theorem at1 (s : ByteArray) : opA (o8 1).op Tt (e2 s) h0 = int h0 .i64 (.ofNat (txt s).length) := by kernel_rfl
theorem at2 (s : ByteArray) : opA (o8 2).op Tt (e3 s) h0 = bool h0 (Nat.blt 1000 (txt s).length) := by kernel_rfl
theorem g0 (s : ByteArray) : wantedG [o8 0, o8 1, o8 2] (e1 s) (o8 0).guard = some true := by kernel_rfl
theorem g1 (s : ByteArray) : wantedG [o8 0, o8 1, o8 2] (e2 s) (o8 1).guard = some true := by kernel_rfl
theorem g2 (s : ByteArray) : wantedG [o8 0, o8 1, o8 2] (e3 s) (o8 2).guard = some true := by kernel_rfl
theorem step2 (s : ByteArray) : codeA r1 Tt (run Tt N) N (e1 s) [] none h0 = some (.ex .normal (e4 s (Nat.blt 1000 (txt s).length)) [] none h0) := by
  rw [region8]
  show opsA Tt (run Tt N) (opsOf r1) (opsOf r1) (e1 s) [] none h0 = _
  rw [ops8, opsA_value (g0 s) (at0 s), opsA_value (ρ := put (e1 s) (o8 0).dst (.string s)) (g1 s) ((at1 s).trans (int_eq _ _ _)), opsA_value (ρ := put (put (e1 s) (o8 0).dst (.string s)) (o8 1).dst (.int .i64 (.ofNat (txt s).length))) (g2 s) ((at2 s).trans (bool_eq _ _))]
  rfl
theorem cond8 (s : ByteArray) (b : Bool) : eval (.tmp 17) (e4 s b) = some (.bool b) := by kernel_rfl
/-- behind the first test -/
noncomputable def behind (s : ByteArray) (b : Bool) : Option Fin :=
  bodyK Tt (run Tt N) Tryz.f8 (seqK (codeA rest8 Tt (run Tt N) N) (condK (codeA thn Tt (run Tt N) N) (codeA els Tt (run Tt N) N) (e4 s b) [] none h0 (some (.bool b))))
theorem run8 (s : ByteArray) : run Tt (N + 1) 8 [.string s] none h0 = behind s (Nat.blt 1000 (txt s).length) := by
  rw [run_succ get8 body8 code8 (by kernel_rfl), congrFun (congrFun (congrFun (congrArg codeA shape8) Tt) (run Tt N)) N]
  rw [codeA_seq, step1, seqK_normal, codeA_seq, codeA_seq, step2, seqK_normal, codeA_cond, cond8]
  rfl
theorem long8 (s : ByteArray) : isTrue (behind s true) = true := by kernel_rfl
theorem short8 (s : ByteArray) : isTrue (behind s false) = true := by kernel_rfl
theorem all8 (s : ByteArray) : isTrue (run Tt (N + 1) 8 [.string s] none h0) = true := by
  rw [run8]
  cases Nat.blt 1000 (txt s).length with
  | true => exact long8 s
  | false => exact short8 s
/-- WizardOfNothing, whatever the name and the world. -/
theorem ofNothing_any (s : ByteArray) (w : World) : Calls Tryz.prog 8 #[.string s] w fun e w' => e = .returned (.bool true) ∧ Below w.heap.size w w' :=
  calls_of (tabOk Tryz.prog) mixed (all8 s) (LR.one (.string s)) w
end Go.Proofs.YtfekmcfoehnhbaaGreatDoor
