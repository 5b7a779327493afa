/- The card's closed facts. -/
import Derived.Test.YtgambdjpncpdaaaGreatDoorRows
import Derived.Test.YtgambdjpncpdaaaGreatDoorOfGTying
import Derived.Test.YtgambdjpncpdaaaGreatDoorCards
import Derived.ProofKit
import Derived.LaidMore
import Derived.OpenShut
import Derived.Stop.Joined
import Derived.SevenTiedAt
namespace Go.Proofs.YtgambdjpncpdaaaGreatDoor
open Go Go.ChangeShapes Go.WideShapes Go.ChangeAt Go.WideMaps Go.WideElems Go.RowKit Go.ChangeMaps
theorem goes_none {P : Program} (h : P.funcs.any Func.goes = false) (f : FuncId) : P.goes f = false := by
  unfold Program.goes
  rw [h, Bool.and_false, Bool.or_false, List.any_eq_false]
  intro g _
  cases hg : P.funcs[g]? with
  | none => simp
  | some fn =>
    obtain ⟨hl, rfl⟩ := Array.getElem?_eq_some_iff.1 hg
    have := Array.any_eq_false.1 h g hl
    simpa using this
theorem goesFrom_none {P : Program} (h : P.funcs.any Func.goes = false) (name : String) : P.goesFrom name = false := by
  unfold Program.goesFrom
  cases P.funcNamed name with
  | none => rfl
  | some f => exact goes_none h f
theorem noGo : Tryz.pinned.checked.prog.funcs.any Func.goes = false := by kernel_rfl
theorem goesG : false = Rows.gateOfNothingRow.goesBy Tryz.pinned.checked.prog := by
  unfold OpenClaim.goesBy Program.goesAt
  rw [goesFrom_none noGo]
  rfl
theorem cardGateOfNothing_of (law_holds : Rows.GateOfNothingSaid) : Rows.GateOfNothingCardSaid :=
  Claim7.holds_tied_plain_at .later [] [.sentinel, .sentinel, .data, .data, .data, .pinned, .data] true (true, "d7684d6db05d8cd7e60a4ddac580dc0990f3c7803e0356bdb74b4eacb3751776") true
    law_holds (fun _ h => by cases h) (by as_aux_lemma => kernel_rfl) (fun _ h => by cases h) gateOfNothing_row_tied rfl ⟨rfl, rfl⟩ (by as_aux_lemma => kernel_rfl) rfl
    (fun f fn hf hfn => by
      obtain rfl : f = 3 := Option.some.inj ((show Tryz.prog.funcNamed "formulary/formularylaw24.GateOfNothing" = some 3 by as_aux_lemma => kernel_rfl).symm.trans hf) |>.symm
      obtain rfl : fn = Tryz.f3 := (Option.some.inj (Tryz.func3.symm.trans hfn)).symm
      exact ⟨by as_aux_lemma => kernel_rfl, fun j t ht => by
        rw [Tryz.params3] at ht
        have hm : t ∈ [3, 9] := by simpa using Array.mem_of_getElem? ht
        have hall : ([3, 9].all fun u => !Tryz.prog.wantsStandIn u) = true := by as_aux_lemma => kernel_rfl
        exact (show Tryz.prog.wantsStandIn t = false by simpa using List.all_eq_true.1 hall t hm)⟩)
    goesG
end Go.Proofs.YtgambdjpncpdaaaGreatDoor
