/-
  The row is tied to the text of the program: each closed fact by itself.
  Own work for this claim; no condition.
-/
import Derived.Test.YtfedglfdlgjbjaaGreatDoorRows
import Derived.LaidByTextLater
import Derived.SevenTiedAt
import Derived.LaidSub
import Derived.LaidOnce
set_option linter.unusedVariables false
namespace Go.Proofs.YtfedglfdlgjbjaaGreatDoor
open Go 
set_option maxRecDepth 1000000

def laidL : List (String × DataW Unit) := [("internal/strconv.uint64pow10", Rows.laid_internal_strconv_uint64pow10), ("math/bits.deBruijn32tab", Rows.laid_math_bits_deBruijn32tab), ("math/bits.deBruijn64tab", Rows.laid_math_bits_deBruijn64tab), ("unicode/utf8.acceptRanges", Rows.laid_unicode_utf8_acceptRanges), ("strconv.ErrSyntax", Rows.laid_strconv_ErrSyntax), ("strconv.ErrRange", Rows.laid_strconv_ErrRange)]
theorem tieWord : Tryz.prog.worded (varsWordLater true) = true := by kernel_rfl
theorem tieWord2 : Tryz.prog.worded (varsWordLater !true) = false := by kernel_rfl
theorem tieRoot : Tryz.prog.worded rootWordLater = true := by kernel_rfl
theorem tieKinds : laidL.map (fun x => Tryz.prog.kindOfLater x.1) = [LaidKind.data, .data, .data, .data, .sentinel, .sentinel].map some := by kernel_rfl
theorem tieDoor : (Tryz.prog.funcNamed "gosem.cut.vars").isSome = true := by kernel_rfl
theorem tieNamed : varsNamedLaterB Tryz.prog (varsId Tryz.prog) laidL = true := by kernel_rfl
theorem tieRun (os : Os) (tape : Tape) : doorLeaves Tryz.prog 64 8 65 laidL os tape = some (laidL.filter fun x => x.2.handleName?.isNone, (funcsListed laidL).map (·.2.funcsOut)) := by kernel_rfl
theorem seatTie : Tryz.prog.laidByTextLater laidL [.data, .data, .data, .data, .sentinel, .sentinel] true :=
  Program.laidByTextLater_by_one 64 8 65 tieWord tieWord2 tieRoot tieKinds tieDoor tieNamed tieRun
theorem pinFirst : Tryz.pinned.checked.prog.pinnedFits "unicode/utf8.first" = true := by kernel_rfl
theorem noUnsafe : Tryz.pinned.checked.prog.headLifts.contains "ownunsafe" = false := by kernel_rfl
theorem fits : Tryz.pinned.checked.prog.listedFits Rows.scriptKnownRow.laid = true := by
  unfold Program.listedFits
  rw [noUnsafe]
  kernel_rfl
theorem first_datum : Pinned.datum "unicode/utf8.first" = some (Rows.laid_unicode_utf8_first) := by kernel_rfl
theorem row_tie : Rows.scriptKnownRow.laidByTextAt .later Tryz.pinned [.data, .data, .data, .pinned, .data, .sentinel, .sentinel] true :=
  OpenClaim.laidByTextAt_pinned rfl rfl seatTie rfl rfl rfl rfl (fun y hy _e => by
    simp only [Rows.scriptKnownRow, List.zip_cons_cons, List.zip_nil_right, List.mem_cons, List.mem_nil_iff, or_false] at hy
    rcases hy with rfl | rfl | rfl | rfl | rfl | rfl | rfl
    · cases _e
    · cases _e
    · cases _e
    · exact ⟨pinFirst, first_datum⟩
    · cases _e
    · cases _e
    · cases _e) fits


end Go.Proofs.YtfedglfdlgjbjaaGreatDoor
