/-
  Closed facts of the row.
  Own work for this claim; no condition.
-/
import Derived.Test.YtfedglfdlgjbjaaGreatDoorClo
import Derived.Test.YtfedglfdlgjbjaaGreatDoorRows
import Derived.ClosedOfChecked
import Derived.JoinedOf
set_option linter.unusedVariables false
namespace Go.Proofs.YtfedglfdlgjbjaaGreatDoor
open Go Go.Ab
set_option maxRecDepth 1000000

theorem typesEq : Tryz.checked.prog.types = Tryz.checked.src.types := by kernel_rfl
theorem laidOut : laidOutB Tryz.prog = true := Go.ClosedOfChecked.laidOutB_of (Go.ClosedOfChecked.allSpec_of Tryz.checked.wellFormed typesEq) (by kernel_rfl)
theorem mapsRows : mapsRowed Tryz.prog = true := Go.ClosedOfChecked.mapsRowed_of (Go.ClosedOfChecked.allSpec_of Tryz.checked.wellFormed typesEq)
theorem plainKeys : Tryz.prog.plainKeys = Rows.scriptKnownRow.plainKeys := by kernel_rfl
theorem inPlace : Tryz.prog.inPlace 3 = Rows.scriptKnownRow.inPlace := by unfold Program.inPlace; rw [clclosure]; kernel_rfl
theorem unfollowed : Tryz.prog.unfollowed 3 = true := by unfold Program.unfollowed; rw [clclosure]; kernel_rfl
theorem recurses : Tryz.prog.recurses 3 = true := by unfold Program.recurses; rw [unfollowed]; rfl
theorem varsNamed : Tryz.prog.varsNamed 3 = Rows.scriptKnownRow.named := by unfold Program.varsNamed; rw [clclosure]; kernel_rfl
theorem nogoes : (Tryz.prog.funcs.any Func.goes) = false := by kernel_rfl
theorem stops : Tryz.prog.stops = [] := by kernel_rfl
theorem knobs : Tryz.prog.stopKnobs = [] := by kernel_rfl
theorem heard : Tryz.prog.stopsHeard = true := by kernel_rfl
theorem mayEnter : Tryz.prog.mayEnter = true := by kernel_rfl
theorem lifts : Tryz.prog.liftsFinal = Rows.scriptKnownRow.lifted := by kernel_rfl
theorem made : Tryz.prog.make = some Rows.scriptKnownRow.make := by kernel_rfl
theorem facts : joinedFacts Tryz.prog 3 Tryz.f3 Rows.scriptKnownSpec Rows.scriptKnownRow = true := by
  unfold joinedFacts
  rw [laidOut, mapsRows, plainKeys, inPlace, unfollowed, recurses, varsNamed, stops, knobs, heard, mayEnter, lifts, made]
  kernel_rfl

end Go.Proofs.YtfedglfdlgjbjaaGreatDoor
