/-
  The run: the evaluator finds that ScriptKnown returns true.
  Own work for this claim; no condition.
-/
import Derived.Test.YtfedglfdlgjbjaaGreatDoorA6
import Derived.Test.YtfedglfdlgjbjaaGreatDoorChecked
import Derived.KernelRfl
set_option linter.unusedVariables false
namespace Go.Proofs.YtfedglfdlgjbjaaGreatDoor
open Go Go.Ab
set_option maxRecDepth 1000000

noncomputable def tab : Obj := .cells #[.int .u64 1, .int .u64 10, .int .u64 100, .int .u64 1000, .int .u64 10000, .int .u64 100000, .int .u64 1000000, .int .u64 10000000, .int .u64 100000000, .int .u64 1000000000, .int .u64 10000000000, .int .u64 100000000000, .int .u64 1000000000000, .int .u64 10000000000000, .int .u64 100000000000000, .int .u64 1000000000000000, .int .u64 10000000000000000, .int .u64 100000000000000000, .int .u64 1000000000000000000, .int .u64 10000000000000000000] 480 (0, 0)
noncomputable def h0 : H := { heap := PT.set .nil 1 (.fixed tab), next := 9 }
/-- What block 1 is behind a call that returns true. -/
noncomputable def fin : Option (Res × UM × H) → Option AO
  | some (.ret (.bool true), _, h) => h.get 1
  | _ => none
noncomputable def sums (f : FuncId) : Option (List AV → H → Option (AV × H)) := match Nat.beq f 328 with
  | true => some trimSum
  | false => none
noncomputable def ops0 : Array Oper := match Tryz.f328.body with
  | some (.seq (.region _ ops _) _) => ops
  | _ => #[]
noncomputable def ops1 : Array Oper := match Tryz.f328.body with
  | some (.seq _ (.seq (.block _ (.loop (.seq (.seq (.region _ ops _) _) _))) _)) => ops
  | _ => #[]
noncomputable def ops2 : Array Oper := match Tryz.f328.body with
  | some (.seq _ (.seq (.block _ (.loop (.seq _ (.block _ (.region _ ops _))))) _)) => ops
  | _ => #[]
noncomputable def ops3 : Array Oper := match Tryz.f328.body with
  | some (.seq _ (.seq _ (.seq (.region _ ops _) _))) => ops
  | _ => #[]
theorem tcode : TrimCode Tryz.prog 328 32 5 3 Tryz.f328 0 0 1 1 2 3 ops0 ops1 ops2 ops3 :=
  ⟨by kernel_rfl, by kernel_rfl, by kernel_rfl, by kernel_rfl, by kernel_rfl, by kernel_rfl, by kernel_rfl, by kernel_rfl⟩
theorem ttypes : TrimTypes Tryz.prog 32 5 := ⟨by kernel_rfl, by kernel_rfl, by kernel_rfl, by kernel_rfl⟩
theorem mix : Tryz.prog.follows .mixedOrders = true := by kernel_rfl
theorem noNG0 : (Tryz.prog.funcs.toList.all fun fn => !(fn.name == "runtime.NumGoroutine")) = true := by kernel_rfl
theorem noNG : NoNG Tryz.prog := by
  intro f fn hf
  have := List.all_eq_true.1 noNG0 fn (by
    obtain ⟨hi, rfl⟩ := Array.getElem?_eq_some_iff.1 hf
    simp)
  simpa using this
theorem run : fin ((goN Tryz.prog sums 100000).call 3 [] .plain h0) = some (.fixed tab) := by kernel_rfl
theorem run_ok : ∃ um h', (goN Tryz.prog sums 100000).call 3 [] .plain h0 = some (.ret (.bool true), um, h') ∧ h'.get 1 = some (.fixed tab) := by
  have h := run
  generalize (goN Tryz.prog sums 100000).call 3 [] .plain h0 = r at h
  unfold fin at h
  split at h
  · rename_i um h'; exact ⟨um, h', rfl, h⟩
  · cases h
theorem sums_ok : SumsOk Tryz.prog sums := by
  refine sums_of noNG mix (sm0 := fun _ => none) sums_none fun f g hg args um hp v h' he => ?_
  unfold sums at hg
  split at hg
  · rename_i hf
    obtain rfl := Nat.eq_of_beq_eq_true hf
    injection hg with hg; subst hg
    exact trim_call ttypes tcode rfl he
  · cases hg
theorem h0_get : ∀ g x, h0.get g = some x → g = 1 ∧ x = .fixed tab := by
  intro g x hx
  unfold H.get at hx
  split at hx
  · simp only [h0] at hx
    by_cases hg : 1 = g
    · subst hg; exact ⟨rfl, PT.set_eq _ _ hx⟩
    · rw [PT.set_ne _ _ hg, PT.get_nil] at hx; cases hx
  · cases hx
theorem contract {W : World} (hsz : Tryz.prog.globals.size ≤ W.heap.size) (hn : Tryz.prog.globals.size = 9) (ht : W.heap[1]? = some tab) :
    Calls Tryz.prog 3 #[] W fun e W' => e = .returned (.bool true) ∧ W'.os = W.os ∧ W'.output = W.output ∧ ∀ i, i < W.heap.size → W'.heap[i]? = W.heap[i]? := by
  obtain ⟨um, h', h1, h2⟩ := run_ok
  refine law_true (goN_ok noNG mix sums_ok 100000).call h1 (by rw [hn]; rfl) hsz fun g x hx => ?_
  obtain ⟨rfl, rfl⟩ := h0_get g x hx
  exact ⟨tab, rfl, ht, h2⟩

end Go.Proofs.YtfedglfdlgjbjaaGreatDoor
