/- The walk of GateOfNothing: whatever the arguments, it returns true. -/
import Derived.Test.YtgambdjpncpdaaaGreatDoorOfGKeys
import Derived.Test.YtgambdjpncpdaaaGreatDoorEvTop
import Derived.KernelRfl
import Derived.Test.YtgambdjpncpdaaaGreatDoorProg
namespace Go.Proofs.YtgambdjpncpdaaaGreatDoor
open Go Go.AE Go.RowKit
set_option maxRecDepth 1000000

theorem mixedG : Tryz.prog.follows .mixedOrders = true := by kernel_rfl
noncomputable def gate (key : Value) (z : Int) : Bool := isTrue (run Tt Xk 2000 3 [.int .i64 z, key] none ⟨1, .leaf⟩)
theorem gate_long (z : Int) : gate (textIn 1001 9223372036854775807) z = true := by kernel_rfl
theorem gate_short (z : Int) : gate (textIn 0 1000) z = true := by kernel_rfl
theorem gate_calls {key : Value} {z : Int} (h : gate key z = true) {s : ByteArray} (hk : VR (muKey s) key (.string s)) (w : World) :
    Calls Tryz.prog 3 #[.int .i64 z, .string s] w fun e w' => e = .returned (.bool true) ∧ Below w.heap.size w w' :=
  calls_mu (tabOk Tryz.prog) mixedG xk_ok (muKey_new s) h (.cons (.int _ _) (.cons hk .nil)) w
/-- GateOfNothing, whatever its arguments and the world. -/
theorem gate_any (s : ByteArray) (hs : s.size ≤ 9223372036854775807) (z : Int) (w : World) :
    Calls Tryz.prog 3 #[.int .i64 z, .string s] w fun e w' => e = .returned (.bool true) ∧ Below w.heap.size w w' := by
  by_cases h : 1000 < s.size
  · exact gate_calls (gate_long z) (muKey_text (by omega) hs) w
  · exact gate_calls (gate_short z) (muKey_text (Nat.zero_le _) (by omega)) w
end Go.Proofs.YtgambdjpncpdaaaGreatDoor
