/- The walk of ModelTurns: whatever the arguments, it returns true. -/
import Derived.Test.YthmjnaiblimhmaaGreatDoorEvTop
import Derived.KernelRfl
import Derived.Test.YthmjnaiblimhmaaGreatDoorProg
namespace Go.Proofs.YthmjnaiblimhmaaGreatDoor
open Go Go.AE Go.RowKit
set_option maxRecDepth 1000000

noncomputable def Tt : Tab := Tab.of Tryz.prog
theorem mixed : Tryz.prog.follows .mixedOrders = true := by kernel_rfl
abbrev z63 : Nat := 9223372036854775808
noncomputable def turns (key : Value) (first : Bool) (n : Value) (crash : Bool) : Bool := isTrue (run Tt .leaf 2000 3 [key, .bool first, n, .bool crash] none ⟨1, .leaf⟩)
theorem turns_short (a : Bool) (z : Int) (c : Bool) : turns (textIn 0 0) a (.int .i64 z) c = true := by kernel_rfl
theorem turns_long (a : Bool) (z : Int) (c : Bool) : turns (textIn 65 9223372036854775807) a (.int .i64 z) c = true := by kernel_rfl
theorem turns_below (a : Bool) (c : Bool) : turns (textIn 1 64) a (numIn 0 9223372036854775807) c = true := by kernel_rfl
theorem turns_above (a : Bool) (c : Bool) : turns (textIn 1 64) a (numIn 9223372036854775812 18446744073709551615) c = true := by kernel_rfl
theorem turns_f0f : turns (textIn 1 64) false (.int .i64 0) false = true := by kernel_rfl
theorem turns_f0t : turns (textIn 1 64) false (.int .i64 0) true = true := by kernel_rfl
theorem turns_f1f : turns (textIn 1 64) false (.int .i64 1) false = true := by kernel_rfl
theorem turns_f1t : turns (textIn 1 64) false (.int .i64 1) true = true := by kernel_rfl
theorem turns_f2f : turns (textIn 1 64) false (.int .i64 2) false = true := by kernel_rfl
theorem turns_f2t : turns (textIn 1 64) false (.int .i64 2) true = true := by kernel_rfl
theorem turns_f3f : turns (textIn 1 64) false (.int .i64 3) false = true := by kernel_rfl
theorem turns_f3t : turns (textIn 1 64) false (.int .i64 3) true = true := by kernel_rfl
theorem turns_t0f : turns (textIn 1 64) true (.int .i64 0) false = true := by kernel_rfl
theorem turns_t0t : turns (textIn 1 64) true (.int .i64 0) true = true := by kernel_rfl
theorem turns_t1f : turns (textIn 1 64) true (.int .i64 1) false = true := by kernel_rfl
theorem turns_t1t : turns (textIn 1 64) true (.int .i64 1) true = true := by kernel_rfl
theorem turns_t2f : turns (textIn 1 64) true (.int .i64 2) false = true := by kernel_rfl
theorem turns_t2t : turns (textIn 1 64) true (.int .i64 2) true = true := by kernel_rfl
theorem turns_t3f : turns (textIn 1 64) true (.int .i64 3) false = true := by kernel_rfl
theorem turns_t3t : turns (textIn 1 64) true (.int .i64 3) true = true := by kernel_rfl

theorem turns_calls {key n : Value} {a c : Bool} (h : turns key a n c = true) {s : ByteArray} {z : Int} (hk : VR (muKey s) key (.string s)) (hn : VR (muKey s) n (.int .i64 z)) (w : World) :
    Calls Tryz.prog 3 #[.string s, .bool a, .int .i64 z, .bool c] w fun e w' => e = .returned (.bool true) ∧ Below w.heap.size w w' :=
  calls_mu (tabOk Tryz.prog) mixed (conOk_leaf _) (muKey_new s) h (.cons hk (.cons (.bool a) (.cons hn (.cons (.bool c) .nil)))) w
theorem turns_small (s : ByteArray) (h1 : 1 ≤ s.size) (h2 : s.size ≤ 64) (a c : Bool) (z : Int) (hz : 0 ≤ z) (hz' : z ≤ 3) (w : World) :
    Calls Tryz.prog 3 #[.string s, .bool a, .int .i64 z, .bool c] w fun e w' => e = .returned (.bool true) ∧ Below w.heap.size w w' := by
  have go : ∀ k, z = k → turns (textIn 1 64) a (.int .i64 k) c = true → Calls Tryz.prog 3 #[.string s, .bool a, .int .i64 z, .bool c] w fun e w' => e = .returned (.bool true) ∧ Below w.heap.size w w' :=
    fun k hk h => by subst hk; exact turns_calls h (muKey_text h1 h2) (.int _ _) w
  have hcase : z = 0 ∨ z = 1 ∨ z = 2 ∨ z = 3 := by omega
  rcases hcase with h | h | h | h
  · refine go 0 h ?_
    cases a <;> cases c
    · exact turns_f0f
    · exact turns_f0t
    · exact turns_t0f
    · exact turns_t0t
  · refine go 1 h ?_
    cases a <;> cases c
    · exact turns_f1f
    · exact turns_f1t
    · exact turns_t1f
    · exact turns_t1t
  · refine go 2 h ?_
    cases a <;> cases c
    · exact turns_f2f
    · exact turns_f2t
    · exact turns_t2f
    · exact turns_t2t
  · refine go 3 h ?_
    cases a <;> cases c
    · exact turns_f3f
    · exact turns_f3t
    · exact turns_t3f
    · exact turns_t3t
/-- ModelTurns, whatever its arguments and the world. -/
theorem turns_any (s : ByteArray) (hs : s.size ≤ 9223372036854775807) (a c : Bool) (z : Int) (hz1 : -9223372036854775808 ≤ z) (hz2 : z ≤ 9223372036854775807) (w : World) :
    Calls Tryz.prog 3 #[.string s, .bool a, .int .i64 z, .bool c] w fun e w' => e = .returned (.bool true) ∧ Below w.heap.size w w' := by
  by_cases h0 : s.size < 1
  · exact turns_calls (turns_short a z c) (muKey_text (Nat.zero_le _) (by omega)) (.int _ _) w
  by_cases h1 : 64 < s.size
  · exact turns_calls (turns_long a z c) (muKey_text (by omega) hs) (.int _ _) w
  by_cases h2 : z < 0
  · exact turns_calls (turns_below a c) (muKey_text (by omega) (by omega)) (.num _ _ _ (by omega) (by omega)) w
  by_cases h3 : 3 < z
  · exact turns_calls (turns_above a c) (muKey_text (by omega) (by omega)) (.num _ _ _ (by omega) (by omega)) w
  exact turns_small s (by omega) (by omega) a c z (by omega) (by omega) w
end Go.Proofs.YthmjnaiblimhmaaGreatDoor
