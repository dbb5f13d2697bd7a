/-
  ScriptKnown returns true: the row, and its card, tied to the text of the program.
  Own work for this claim; no condition.
-/
import Derived.Test.YtfedglfdlgjbjaaGreatDoorRun
import Derived.Test.YtfedglfdlgjbjaaGreatDoorFacts
import Derived.Test.YtfedglfdlgjbjaaGreatDoorTied
import Derived.Test.YtfedglfdlgjbjaaGreatDoorCards
import Derived.Deep.DeepHandedRow
import Derived.JoinedCond
set_option linter.unusedVariables false
namespace Go.Proofs.YtfedglfdlgjbjaaGreatDoor
open Go Go.Ab
set_option maxRecDepth 1000000

open Go.ChangeShapes Go.WideShapes Go.RowKit
theorem own : ownKnob Tryz.prog.godebug = none := by kernel_rfl
theorem gsz : Tryz.prog.globals.size = 9 := by kernel_rfl
theorem gPow : Tryz.prog.globalNamed "internal/strconv.uint64pow10" = some 1 := by kernel_rfl
theorem gPowType : (Tryz.prog.globals[1]?).map (·.type) = some 480 := by kernel_rfl
theorem u480 : Tryz.prog.underlying 480 = some (.array 20 368) := by kernel_rfl
theorem u368 : Tryz.prog.underlying 368 = some (.int .u64) := by kernel_rfl
theorem u4 : Tryz.prog.underlying 4 = some .bool := by kernel_rfl
theorem c368 : Tryz.prog.cellsOf 368 = 1 := by kernel_rfl
theorem c480 : Tryz.prog.cellsOf 480 = 20 := by kernel_rfl
theorem row_of {o : Option (Array Value × TypeId)} {t : TypeId} (h : o.map (·.2) = some t) : ∃ zero, o = some (zero, t) := by
  cases o with
  | none => cases h
  | some x =>
    obtain ⟨z, u⟩ := x
    simp at h
    exact ⟨z, by rw [h]⟩
theorem pow1 : (((begin Tryz.prog (fun _ _ => 0) default).world.heap[1]?).bind Obj.row?).map (·.2) = some 480 := by kernel_rfl
theorem last1 : (((begin Tryz.prog (fun _ _ => 0) default).world.heap[8]?).bind Obj.row?).map (·.2) = some 4 := by kernel_rfl
theorem pow0 : ∃ zero, ((begin Tryz.prog (fun _ _ => 0) default).world.heap[1]?).bind Obj.row? = some (zero, 480) := row_of pow1
theorem last0 : ∃ zero, ((begin Tryz.prog (fun _ _ => 0) default).world.heap[8]?).bind Obj.row? = some (zero, 4) := row_of last1
def powers : List Int := [1, 10, 100, 1000, 10000, 100000, 1000000, 10000000, 100000000, 1000000000, 10000000000, 100000000000, 1000000000000, 10000000000000, 100000000000000, 1000000000000000, 10000000000000000, 100000000000000000, 1000000000000000000, 10000000000000000000]
theorem tab_eq : tab = .cells (powers.map fun z => Value.int .u64 z).toArray 480 (0, 0) := by kernel_rfl
theorem listed : ("internal/strconv.uint64pow10", Lib.tabData .u64 powers) ∈ Rows.scriptKnownRow.laid := by
  have e : (Rows.laid_internal_strconv_uint64pow10 : DataW Unit) = Lib.tabData .u64 powers := by kernel_rfl
  rw [← e]
  exact List.Mem.head _
theorem laid_of {W : World} (h : laidMetH Tryz.prog Rows.scriptKnownRow.laid W) : laidMet Tryz.prog Rows.scriptKnownRow.laid W := h
theorem block {W : World} (h : laidMetH Tryz.prog Rows.scriptKnownRow.laid W) (hsh : W.ShapedOpen Tryz.prog) : W.heap[1]? = some tab := by
  obtain ⟨zero, h0⟩ := pow0
  rw [tab_eq]
  exact table_block gPow gPowType u480 u368 c368 c480 (laid_of h) listed hsh (by rw [gsz]; omega) h0
theorem size_le {W : World} (hsh : W.ShapedOpen Tryz.prog) : Tryz.prog.globals.size ≤ W.heap.size := by
  obtain ⟨zero, h0⟩ := last0
  exact globals_le hsh (by rw [gsz]) h0
theorem params3 : Tryz.f3.params = #[] := by kernel_rfl
theorem results3 : Tryz.f3.resultTypes = #[4] := by kernel_rfl
theorem func3 : Tryz.prog.funcs[3]? = some Tryz.f3 := by kernel_rfl

theorem law (H : Type) (enc : TypeId × Value → H) (W : World) (base : Nat) (args : Array Value) (ds gs : List (DataW H)) (before : List MemPlace)
    (hW : DataW.Whole enc Tryz.prog Tryz.f3.params.toList Rows.scriptKnownSpec.vars false W args.toList ds gs before) (hL : laidMetH Tryz.prog Rows.scriptKnownRow.laid W) (hsh : W.ShapedOpen Tryz.prog) :
    Calls Tryz.prog 3 args W fun e W' => ∃ v, e = .returned v ∧ Rows.scriptKnownSpec.post enc Tryz.prog Tryz.f3 false true false false W args v W' := by
  have ha : args = #[] := by
    obtain ⟨p, q, hA, _⟩ := hW
    rw [params3] at hA
    cases hl : args.toList with
    | nil => rw [← Array.toList_inj, hl]
    | cons a r => rw [hl] at hA; cases ds <;> exact hA.elim
  subst ha
  refine (contract (size_le hsh) gsz (block hL hsh)).mono fun e W' ⟨he, h1, h2, h3⟩ => ?_
  exact ⟨_, he, law_post params3 results3 u4 rfl rfl hW h1 h2 h3⟩

/-- A world for the witness: the settled one, the listed variables laid. -/
noncomputable def laidWorld (os : Os) : World :=
  let w := World.holding Tryz.prog os ⟨#[.cells #[.string ⟨#[118, 97, 108, 117, 101, 32, 111, 117, 116, 32, 111, 102, 32, 114, 97, 110, 103, 101]⟩] 640, .cells #[.string ⟨#[105, 110, 118, 97, 108, 105, 100, 32, 115, 121, 110, 116, 97, 120]⟩] 640], #[], []⟩
  { w with heap := (((((((w.heap.setIfInBounds 1 (.cells #[.int .u64 1, .int .u64 10, .int .u64 100, .int .u64 1000, .int .u64 10000, .int .u64 100000, .int .u64 1000000, .int .u64 10000000, .int .u64 100000000, .int .u64 1000000000, .int .u64 10000000000, .int .u64 100000000000, .int .u64 1000000000000, .int .u64 10000000000000, .int .u64 100000000000000, .int .u64 1000000000000000, .int .u64 10000000000000000, .int .u64 100000000000000000, .int .u64 1000000000000000000, .int .u64 10000000000000000000] 480)).setIfInBounds 2 (.cells (Pinned.utf8FirstZ.map fun n => Value.int .u8 (Int.ofNat n)).toArray 556)).setIfInBounds 3 (.cells #[.int .u8 128, .int .u8 191, .int .u8 160, .int .u8 191, .int .u8 128, .int .u8 159, .int .u8 144, .int .u8 191, .int .u8 128, .int .u8 143, .int .u8 0, .int .u8 0, .int .u8 0, .int .u8 0, .int .u8 0, .int .u8 0, .int .u8 0, .int .u8 0, .int .u8 0, .int .u8 0, .int .u8 0, .int .u8 0, .int .u8 0, .int .u8 0, .int .u8 0, .int .u8 0, .int .u8 0, .int .u8 0, .int .u8 0, .int .u8 0, .int .u8 0, .int .u8 0] 559)).setIfInBounds 4 (.cells #[.iface 638 (.pointer (some ⟨15, 0, none⟩))] 47)).setIfInBounds 5 (.cells #[.iface 638 (.pointer (some ⟨14, 0, none⟩))] 47)).setIfInBounds 6 (.cells #[.int .u8 0, .int .u8 1, .int .u8 28, .int .u8 2, .int .u8 29, .int .u8 14, .int .u8 24, .int .u8 3, .int .u8 30, .int .u8 22, .int .u8 20, .int .u8 15, .int .u8 25, .int .u8 17, .int .u8 4, .int .u8 8, .int .u8 31, .int .u8 27, .int .u8 13, .int .u8 23, .int .u8 21, .int .u8 19, .int .u8 16, .int .u8 7, .int .u8 26, .int .u8 12, .int .u8 18, .int .u8 6, .int .u8 11, .int .u8 5, .int .u8 10, .int .u8 9] 646)).setIfInBounds 7 (.cells #[.int .u8 0, .int .u8 1, .int .u8 56, .int .u8 2, .int .u8 57, .int .u8 49, .int .u8 28, .int .u8 3, .int .u8 61, .int .u8 58, .int .u8 42, .int .u8 50, .int .u8 38, .int .u8 29, .int .u8 17, .int .u8 4, .int .u8 62, .int .u8 47, .int .u8 59, .int .u8 36, .int .u8 45, .int .u8 43, .int .u8 51, .int .u8 22, .int .u8 53, .int .u8 39, .int .u8 33, .int .u8 30, .int .u8 24, .int .u8 18, .int .u8 12, .int .u8 5, .int .u8 63, .int .u8 55, .int .u8 48, .int .u8 27, .int .u8 60, .int .u8 41, .int .u8 37, .int .u8 16, .int .u8 46, .int .u8 35, .int .u8 44, .int .u8 21, .int .u8 52, .int .u8 32, .int .u8 23, .int .u8 11, .int .u8 54, .int .u8 26, .int .u8 40, .int .u8 15, .int .u8 34, .int .u8 20, .int .u8 31, .int .u8 10, .int .u8 25, .int .u8 14, .int .u8 19, .int .u8 9, .int .u8 13, .int .u8 8, .int .u8 7, .int .u8 6] 334)) }

theorem laid_met (os : Os) : laidMet Tryz.prog Rows.scriptKnownRow.laid ((laidWorld os).forCall (fun _ _ => 0) ⟨#[], #[], []⟩).memory :=
  laidMet_of_run' 8 (by kernel_rfl) (by kernel_rfl)
theorem reads (os : Os) {H : Type} (enc : TypeId × Value → H) : ∃ places, DataW.whole enc Tryz.prog ((laidWorld os).forCall (fun _ _ => 0) ⟨#[], #[], []⟩).memory Tryz.f3.params.toList Rows.scriptKnownSpec.vars false (#[] : Array Value).toList 8 = some ([], [], places) :=
  ⟨[], by kernel_rfl⟩
theorem lifted (os : Os) (started : os.Started) (H : Type) (enc : TypeId × Value → H) (F : Stop.Interp) :
    ReturnsInHanded {} Tryz.checked os 3 .any ((OpenSpec.ofChange Rows.scriptKnownSpec).preRow enc Tryz.prog Tryz.f3 Rows.scriptKnownRow.domain false Rows.scriptKnownRow.laid) (((OpenSpec.ofChange Rows.scriptKnownSpec).at F).post enc Tryz.prog Tryz.f3 false true false false) := by
  obtain ⟨places, hx⟩ := reads os enc
  refine returnsInHanded_of_row (C := Tryz.checked) (s := OpenSpec.ofChange Rows.scriptKnownSpec) own started (by kernel_rfl) func3
    (witness_row_at (enc := enc) (C := Tryz.checked) false (laidWorld os) #[] rfl (by kernel_rfl) (by kernel_rfl) (by kernel_rfl)
      (OpenSpec.preRow_of_cond 8 hx (by kernel_rfl) (fun k hk => by cases hk) (by kernel_rfl) (laid_met os))) ?_
  intro W base args ds gs before _ hW _ _ _ hL hsh _
  exact law H enc W base args ds gs before hW hL hsh
theorem said : Rows.ScriptKnownSaid :=
  OpenClaim.holds_of_cond 3 Tryz.f3 rfl rfl rfl rfl rfl rfl rfl ⟨rfl, rfl, rfl, rfl, rfl⟩ rfl rfl rfl rfl rfl (by kernel_rfl) func3 facts
    (of_decide_eq_true (by kernel_rfl)) (by unfold Func.isWrapper; first | (rw [if_pos (by decide +kernel)]; kernel_rfl) | (rw [if_neg (by decide +kernel)]; exact ⟨rfl, rfl⟩))
    (fun os started H enc _ F => by rw [OpenClaim.pre_eq_preRow]; exact lifted os started H enc F)
theorem plain (f : FuncId) (fn : Func) (hf : Tryz.pinned.checked.prog.funcNamed "pinstripe/pinstripelaw28.ScriptKnown" = some f) (hfn : Tryz.pinned.checked.prog.funcs[f]? = some fn) :
    true = Tryz.pinned.checked.prog.looks [] ∧ ∀ (j : Nat) t, fn.params[j]? = some t → Tryz.pinned.checked.prog.wantsStandIn t = false := by
  obtain rfl : f = 3 := Option.some.inj ((show Tryz.prog.funcNamed "pinstripe/pinstripelaw28.ScriptKnown" = some 3 by kernel_rfl).symm.trans hf) |>.symm
  obtain rfl : fn = Tryz.f3 := (Option.some.inj (func3.symm.trans hfn)).symm
  refine ⟨by kernel_rfl, fun j t ht => ?_⟩
  rw [params3] at ht
  simp at ht
theorem scriptKnown_card : Rows.ScriptKnownCardSaid :=
  Claim7.holds_tied_plain_at .later [] _ _ _ _ said (fun _ h => by cases h) (by kernel_rfl) (fun _ h => by cases h) row_tie rfl ⟨rfl, rfl⟩ (by kernel_rfl) rfl plain (goes_by nogoes rfl)

end Go.Proofs.YtfedglfdlgjbjaaGreatDoor
