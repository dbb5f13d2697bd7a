/-
  Rules of the evaluator; one function of the library in one step; from a run to the statement of a law.
  Own work for this claim; no condition.
-/
import GoSem.ClaimGoes
import GoSem.ClaimJoined
import Derived.KernelRfl
import Derived.Deep.DeepHandedRow
import Derived.Lib.LaidTab
import Derived.OpenShut
import Derived.ProofKit
import Derived.WalkKit
import Derived.LaidByTextLater
import Derived.SevenTiedAt
import Derived.Test.YtfedglfdlgjbjaaGreatDoorA5
set_option linter.unusedSectionVars false
set_option linter.unnecessarySimpa false
set_option linter.unusedVariables false
set_option linter.unusedSimpArgs false
namespace Go.Ab
section
variable {P : Program} {sm : Sums}

theorem goN_succ (n : Nat) : goN P sm (n + 1) = recS P sm (goN P sm n) := rfl
theorem goN_mono : ∀ n, RecMono (goN P sm n)
  | 0 => ⟨fun _ _ _ _ _ _ e => (by cases e), fun _ _ _ _ _ _ _ e => (by cases e), fun _ _ _ _ _ e => (by cases e)⟩
  | n + 1 => recS_mono sm _

/-- Code, with whatever fuel from some on. -/
def Ev (P : Program) (sm : Sums) (nt : Nat) (ro : Option Nat) (c : Code) (s : S) (e : Ex) (s' : S) : Prop := ∃ N, ∀ n, N ≤ n → (goN P sm n).code nt ro c s = some (e, s')
def EvCall (P : Program) (sm : Sums) (f : FuncId) (args : List AV) (um : UM) (h : H) (r : Res) (um' : UM) (h' : H) : Prop := ∃ N, ∀ n, N ≤ n → (goN P sm n).call f args um h = some (r, um', h')
/-- What a region's operations come to. -/
def EvOps (P : Program) (sm : Sums) (ro : Option Nat) (gs : List GOp) (tm : PT AV) (h : H) (um : UM) (dfs : List D) (e : Ex) (s' : S) : Prop := ∃ N, ∀ n, N ≤ n → evOps (goN P sm n) ro gs tm h um dfs = some (e, s')

variable {nt : Nat} {ro : Option Nat} {s s1 s2 : S} {e : Ex}
theorem chk_t {x : Ex × S} (h : s.h.next ≤ x.2.h.next) : chkCode s (some x) = some x := by
  unfold chkCode
  simp only
  rw [show Nat.ble s.h.next x.2.h.next = true from Nat.ble_eq_true_of_le h]
theorem Ev.of_step {c : Code} {s' : S} (N : Nat) (h : ∀ n, N ≤ n → stepCode P (goN P sm n) nt ro c s = some (e, s')) (hl : s.h.next ≤ s'.h.next) : Ev P sm nt ro c s e s' :=
  ⟨N + 1, fun n hn => by
    obtain ⟨m, rfl⟩ : ∃ m, n = m + 1 := ⟨n - 1, by omega⟩
    rw [goN_succ]
    show chkCode s (stepCode P (goN P sm m) nt ro c s) = _
    rw [h m (by omega)]
    exact chk_t hl⟩
theorem Ev.le {c : Code} {s' : S} (h : Ev P sm nt ro c s e s') : s.h.next ≤ s'.h.next := by
  obtain ⟨N, h⟩ := h
  exact (goN_mono N).code _ _ _ _ _ _ (h N (Nat.le_refl _))

theorem Ev.skip : Ev P sm nt ro .skip s .normal s := .of_step 0 (fun _ _ => rfl) (Nat.le_refl _)
theorem Ev.label {l : Nat} : Ev P sm nt ro (.label l) s .normal s := .of_step 0 (fun _ _ => rfl) (Nat.le_refl _)
theorem Ev.exit {id : Nat} : Ev P sm nt ro (.exit id) s (.exit id) s := .of_step 0 (fun _ _ => rfl) (Nat.le_refl _)
theorem Ev.ret : Ev P sm nt ro .ret s .ret s := .of_step 0 (fun _ _ => rfl) (Nat.le_refl _)
theorem Ev.seq {a b : Code} (h1 : Ev P sm nt ro a s .normal s1) (h2 : Ev P sm nt ro b s1 e s2) : Ev P sm nt ro (.seq a b) s e s2 := by
  have l1 := h1.le
  have l2 := h2.le
  obtain ⟨N1, h1⟩ := h1
  obtain ⟨N2, h2⟩ := h2
  refine .of_step (max N1 N2) (fun n hn => ?_) (Nat.le_trans l1 l2)
  show cSeq (goN P sm n) nt ro a b s = _
  unfold cSeq
  rw [h1 n (by omega)]
  exact h2 n (by omega)
theorem Ev.seq_out {a b : Code} (h1 : Ev P sm nt ro a s e s1) (he : e ≠ .normal) : Ev P sm nt ro (.seq a b) s e s1 := by
  have l1 := h1.le
  obtain ⟨N1, h1⟩ := h1
  refine .of_step N1 (fun n hn => ?_) l1
  show cSeq (goN P sm n) nt ro a b s = _
  unfold cSeq
  rw [h1 n hn]
  cases e <;> first | rfl | exact absurd rfl he
theorem Ev.cond {c : Operand} {a b : Code} {x : Bool} (hc : eo P s.tm c = some (.bool x)) (h : Ev P sm nt ro (if x then a else b) s e s1) : Ev P sm nt ro (.cond c a b) s e s1 := by
  have l1 := h.le
  obtain ⟨N1, h⟩ := h
  refine .of_step N1 (fun n hn => ?_) l1
  show cCond P (goN P sm n) nt ro c a b s = _
  unfold cCond
  rw [hc]
  have := h n hn
  cases x <;> exact this
theorem Ev.block {id : Nat} {b : Code} (h : Ev P sm nt ro b s e s1) (he : e = .normal ∨ e = .exit id) : Ev P sm nt ro (.block id b) s .normal s1 := by
  have l1 := h.le
  obtain ⟨N1, h⟩ := h
  refine .of_step N1 (fun n hn => ?_) l1
  show cBlock (goN P sm n) nt ro id b s = _
  unfold cBlock
  rw [h n hn]
  rcases he with rfl | rfl
  · rfl
  · simp only; rw [nbeq_t rfl]
theorem Ev.block_out {id : Nat} {b : Code} (h : Ev P sm nt ro b s e s1) (he : e ≠ .exit id) : Ev P sm nt ro (.block id b) s e s1 := by
  have l1 := h.le
  obtain ⟨N1, h⟩ := h
  refine .of_step N1 (fun n hn => ?_) l1
  show cBlock (goN P sm n) nt ro id b s = _
  unfold cBlock
  rw [h n hn]
  cases e with
  | exit j => simp only; rw [nbeq_f (fun q => he (by rw [q]))]
  | _ => rfl
theorem Ev.loop {b : Code} (h1 : Ev P sm nt ro b s .normal s1) (h2 : Ev P sm nt ro (.loop b) s1 e s2) : Ev P sm nt ro (.loop b) s e s2 := by
  have l1 := h1.le
  have l2 := h2.le
  obtain ⟨N1, h1⟩ := h1
  obtain ⟨N2, h2⟩ := h2
  refine .of_step (max N1 N2) (fun n hn => ?_) (Nat.le_trans l1 l2)
  show cLoop (goN P sm n) nt ro b s = _
  unfold cLoop
  rw [h1 n (by omega)]
  exact h2 n (by omega)
theorem Ev.loop_out {b : Code} (h1 : Ev P sm nt ro b s e s1) (he : e ≠ .normal) : Ev P sm nt ro (.loop b) s e s1 := by
  have l1 := h1.le
  obtain ⟨N1, h1⟩ := h1
  refine .of_step N1 (fun n hn => ?_) l1
  show cLoop (goN P sm n) nt ro b s = _
  unfold cLoop
  rw [h1 n hn]
  cases e <;> first | rfl | exact absurd rfl he
theorem Ev.scope {b : Code} (h : Ev P sm nt ro b s e s1) : Ev P sm nt ro (.scope b) s e s1 := by
  have l1 := h.le
  obtain ⟨N1, h⟩ := h
  exact .of_step N1 (fun n hn => h n hn) l1
theorem Ev.region {id : Nat} {ops : Array Oper} {gs : List GOp} (hg : compOps P nt ops ops.toList = gs) (h : EvOps P sm ro gs s.tm s.h s.um s.dfs e s1) (he : ∀ v, e ≠ .panic v) : Ev P sm nt ro (.region id ops false) s e s1 := by
  obtain ⟨N1, h⟩ := h
  refine .of_step N1 (fun n hn => ?_) (evOps_mono (goN_mono N1) _ (h N1 (Nat.le_refl _)))
  show evRegion P (goN P sm n) nt ro ops false s = _
  unfold evRegion
  simp only
  rw [hg, h n hn]
  cases e <;> first | rfl | exact absurd rfl (he _)

/-- A call, by its body. -/
theorem EvCall.body {f : FuncId} {fn : Func} {body : Code} {args : List AV} {um : UM} {h h' : H} {s : S} {e : Ex} {vs : List AV} (hsm : sm f = none) (hf : P.funcs[f]? = some fn) (hb : fn.body = some body)
    (hev : Ev P sm fn.ntmps none body ⟨writeN .nil 0 args, h, um, []⟩ e s) (he : e = .normal ∨ e = .ret) (hd : s.dfs = []) (hres : resultsA P s.h s.tm fn.results.toList = some vs) (hh : s.h = h') : EvCall P sm f args um h (.ret (tupleOf vs)) s.um h' := by
  have l1 := hev.le
  obtain ⟨N, hev⟩ := hev
  refine ⟨N + 1, fun n hn => ?_⟩
  obtain ⟨m, rfl⟩ : ∃ m, n = m + 1 := ⟨n - 1, by omega⟩
  rw [goN_succ]
  show chkCall h (stepCall P sm (goN P sm m) f args um h) = _
  have : stepCall P sm (goN P sm m) f args um h = some (.ret (tupleOf vs), s.um, h') := by
    unfold stepCall
    rw [hsm, hf]
    simp only
    rw [hb]
    simp only
    unfold stepBody
    rw [hev m (by omega)]
    have hl : leave P (goN P sm m) fn .returning s = some (.ret (tupleOf vs), s.um, h') := by
      unfold leave
      rw [hd]
      simp only [runDefers]
      rw [hres, hh]
    rcases he with rfl | rfl <;> exact hl
  rw [this]
  unfold chkCall
  simp only
  simp only at l1
  rw [← hh, show Nat.ble h.next s.h.next = true from Nat.ble_eq_true_of_le l1]

/-- Summaries that the evaluator itself comes to. -/
theorem sums_of {P : Program} (hng : NoNG P) (hmix : P.follows .mixedOrders = true) {sm sm0 : Sums} (h0 : SumsOk P sm0) (h : ∀ f g, sm f = some g → ∀ args um hp v h', g args hp = some (v, h') → EvCall P sm0 f args um hp (.ret v) um h') : SumsOk P sm := by
  intro f args um hp res um' h' e
  simp only at e
  split at e
  · rename_i g hg
    split at e
    · rename_i v h1 hgv
      injection e with e; injection e with e1 e; injection e with e2 e3; subst e1; subst e2; subst e3
      obtain ⟨N, hN⟩ := h f g hg args um hp v h1 hgv
      exact (goN_ok hng hmix h0 N).call f args um hp (.ret v) um h1 (hN N (Nat.le_refl _))
    · cases e
  · cases e
end
end Go.Ab

namespace Go.Ab
section
variable {P : Program} {sm : Sums}

theorem PT.get_set' {α : Type} (t : PT α) (k k' : Nat) (v : α) (h : k < 1073741824) : (t.set k v).get k' = if k = k' then some v else t.get k' := by
  by_cases e : k = k'
  · subst e; rw [PT.get_set _ _ h, if_pos rfl]
  · rw [PT.set_ne _ _ e, if_neg e]

section
variable {r : Rec} {ro : Option Nat} {rest : List GOp} {tm : PT AV} {h : H} {um : UM} {dfs : List D} {g : Option (Option Tmp × Bool)} {dst : Option Tmp} {d : Tmp} {v : AV}
theorem ev_nil : evOps r ro [] tm h um dfs = some (.normal, ⟨tm, h, um, dfs⟩) := rfl
theorem ev_pure {f : PT AV → Option AV} (hw : wantedA tm g = some true) (hf : f tm = some v) : evOps r ro (⟨g, dst, .pure f d⟩ :: rest) tm h um dfs = evOps r ro rest (tm.set d v) h um dfs := by
  rw [evOps]; simp only [hw, hf]
theorem ev_read {f : PT AV → H → Option AV} (hw : wantedA tm g = some true) (hf : f tm h = some v) : evOps r ro (⟨g, dst, .read f d⟩ :: rest) tm h um dfs = evOps r ro rest (tm.set d v) h um dfs := by
  rw [evOps]; simp only [hw, hf]
theorem ev_skip {o : COp} (hw : wantedA tm g = some false) : evOps r ro (⟨g, some d, o⟩ :: rest) tm h um dfs = evOps r ro rest (tm.set d (.tuple [])) h um dfs := by
  rw [evOps]; simp only [hw, putD]
theorem wanted_none : wantedA tm none = some true := rfl
theorem wanted_some {j : Tmp} {w x : Bool} (hj : tm.get j = some (.bool x)) : wantedA tm (some (some j, w)) = some (x == w) := by
  simp only [wantedA, hj]
end

/-- Has a region no effect? -/
def still : List GOp → Bool
  | [] => true
  | ⟨_, _, .eff _ _⟩ :: _ => false
  | _ :: gs => still gs
theorem evOps_indep {r r' : Rec} {ro : Option Nat} : ∀ (gs : List GOp) {tm : PT AV} {h : H} {um : UM} {dfs : List D}, still gs = true → evOps r ro gs tm h um dfs = evOps r' ro gs tm h um dfs
  | [], _, _, _, _, _ => rfl
  | ⟨g, dst, o⟩ :: gs, tm, h, um, dfs, hs => by
    cases o with
    | eff _ _ => cases hs
    | pure f d =>
      rw [evOps, evOps]
      simp only
      split
      · rfl
      · exact evOps_indep gs hs
      · split
        · exact evOps_indep gs hs
        · rfl
    | read f d =>
      rw [evOps, evOps]
      simp only
      split
      · rfl
      · exact evOps_indep gs hs
      · split
        · exact evOps_indep gs hs
        · rfl
    | new f d =>
      rw [evOps, evOps]
      simp only
      split
      · rfl
      · exact evOps_indep gs hs
      · split
        · exact evOps_indep gs hs
        · rfl

theorem isub_nat {a b : Nat} (h : b ≤ a) : (Int.ofNat a - Int.ofNat b) = Int.ofNat (a - b) := by
  simp only [Int.ofNat_eq_natCast]; omega
theorem wrapI_i64 {m : Nat} (h : m ≤ 9223372036854775807) : wrapI .i64 (.ofNat m) = .ofNat m := by
  unfold wrapI
  simp only
  rw [show Nat.ble m 9223372036854775807 = true from Nat.ble_eq_true_of_le h]

/-- bytes.trimRightByte: the operations of its two regions. -/
noncomputable def trimTest (P : Program) (ts tb ti : TypeId) : List GOp :=
  [⟨none, some 5, .pure (pTmp 0) 5⟩, ⟨none, some 6, .read (rLen P #[ts] (.tmp 5)) 6⟩, ⟨none, some 7, .pure (pBin P .gtr ti (.tmp 6) (.const (.int .i64 0))) 7⟩, ⟨none, some 8, .pure (pTmp 7) 8⟩,
   ⟨some (some 8, true), some 9, .pure (pTmp 0) 9⟩, ⟨some (some 8, true), some 10, .pure (pTmp 0) 10⟩, ⟨some (some 8, true), some 11, .read (rLen P #[ts] (.tmp 10)) 11⟩, ⟨some (some 8, true), some 12, .pure (pBin P .sub ti (.tmp 11) (.const (.int .i64 1))) 12⟩,
   ⟨some (some 8, true), some 13, .pure (pIndexAddr P ts (.tmp 9) (.tmp 12)) 13⟩, ⟨some (some 8, true), some 14, .read (rLoad P tb (.tmp 13)) 14⟩, ⟨some (some 8, true), some 15, .pure (pTmp 1) 15⟩, ⟨some (some 8, true), some 16, .pure (pBin P .eql tb (.tmp 14) (.tmp 15)) 16⟩,
   ⟨none, some 17, .pure (pPick P (.tmp 8) (.tmp 16) (.const (.bool false))) 17⟩]
noncomputable def trimCut (P : Program) (ts ti : TypeId) : List GOp :=
  [⟨none, some 18, .pure (pTmp 0) 18⟩, ⟨none, some 19, .pure (pTmp 0) 19⟩, ⟨none, some 20, .read (rLen P #[ts] (.tmp 19)) 20⟩, ⟨none, some 21, .pure (pBin P .sub ti (.tmp 20) (.const (.int .i64 1))) 21⟩,
   ⟨none, some 22, .pure (pSlice P ts (.tmp 18) none (some (.tmp 21)) none) 22⟩, ⟨none, some 0, .pure (pTmp 22) 0⟩]

structure TrimTypes (P : Program) (ts tb : TypeId) : Prop where
  sl : P.underlying ts = some (.slice tb)
  u8 : P.underlying tb = some (.int .u8)
  sz : szOf P tb = some 1
  ag : isAgg P tb = some false

theorem rLen_sl {ts tb : TypeId} (Y : TrimTypes P ts tb) {tm : PT AV} {h : H} {t : Tmp} {b off len : Nat} {cap : Option Nat} (ht : tm.get t = some (.sl b off len cap)) : rLen P #[ts] (.tmp t) tm h = some (.int .i64 (.ofNat len)) := by
  simp [rLen, eo, ht, lenOfA, Y.sl]

theorem pBin_sub1 {ti : TypeId} {tm : PT AV} {t : Tmp} {k : Nat} (ht : tm.get t = some (.int .i64 (.ofNat (k + 1)))) (hk : k + 1 ≤ 9223372036854775807) : pBin P .sub ti (.tmp t) (.const (.int .i64 1)) tm = some (.int .i64 (.ofNat k)) := by
  have : (Int.ofNat (k + 1) - 1) = Int.ofNat k := by simp only [Int.ofNat_eq_natCast]; omega
  simp only [pBin, eo, ht, ofConst, ofCell, binA, isShift, kEq, intBin, this, wrapI_i64 (show k ≤ 9223372036854775807 by omega)]
  rfl
/-- Is the length within what is known of the room? -/
def capOk (len : Nat) : Option Nat → Bool
  | some c => Nat.ble len c
  | none => true
theorem pSlice_cut {ts tb : TypeId} (Y : TrimTypes P ts tb) {tm : PT AV} {t u : Tmp} {b off k : Nat} {cap : Option Nat} (ht : tm.get t = some (.sl b off (k + 1) cap)) (hu : tm.get u = some (.int .i64 (.ofNat k))) (hc : capOk (k + 1) cap = true) :
    pSlice P ts (.tmp t) none (some (.tmp u)) none tm = some (.sl b off k cap) := by
  simp only [pSlice, eo, oo, ht, hu, sliceA, Y.sl, Y.sz, sliceRow, sliceBnd, bnd, nat?]
  cases cap with
  | none => simp [topOf, cutCap, show Nat.ble k (k + 1) = true from Nat.ble_eq_true_of_le (by omega)]
  | some q =>
    have hq := Nat.le_of_ble_eq_true hc
    simp [topOf, cutCap, show Nat.ble k q = true from Nat.ble_eq_true_of_le (by omega)]

theorem rLen_nil {ts tb : TypeId} (Y : TrimTypes P ts tb) {tm : PT AV} {h : H} {t : Tmp} (ht : tm.get t = some .nilSl) : rLen P #[ts] (.tmp t) tm h = some (.int .i64 (.ofNat 0)) := by
  simp [rLen, eo, ht, lenOfA, Y.sl]
theorem trim_test0 {ts ti : TypeId} {r : Rec} {tb : TypeId} {ro : Option Nat} {tm : PT AV} {h : H} {um : UM} {dfs : List D} {x : AV} (hx : ∀ (tm : PT AV) t, tm.get t = some x → rLen P #[ts] (.tmp t) tm h = some (.int .i64 (.ofNat 0))) (h0 : tm.get 0 = some x) :
    ∃ tm', evOps r ro (trimTest P ts tb ti) tm h um dfs = some (.normal, ⟨tm', h, um, dfs⟩) ∧ tm'.get 0 = some x ∧ tm'.get 17 = some (.bool false) := by
  unfold trimTest
  rw [ev_pure (v := x) wanted_none (by simp [pTmp, h0])]
  rw [ev_read (v := .int .i64 (.ofNat 0)) wanted_none (hx _ _ (by simp [PT.get_set']))]
  rw [ev_pure (v := .bool false) wanted_none (by simp [pBin, eo, PT.get_set', ofConst, ofCell, binA, isShift, kEq, intBin, iLe])]
  rw [ev_pure (v := .bool false) wanted_none (by simp [pTmp, PT.get_set'])]
  iterate 8 rw [ev_skip (by rw [wanted_some (x := false) (by simp [PT.get_set'])]; rfl)]
  rw [ev_pure (v := .bool false) wanted_none (by simp [pPick, eo, PT.get_set', ofConst, ofCell])]
  rw [ev_nil]
  exact ⟨_, rfl, by simp [PT.get_set', h0], by simp [PT.get_set']⟩

theorem trim_test1 {ts tb ti : TypeId} (Y : TrimTypes P ts tb) {r : Rec} {ro : Option Nat} {tm : PT AV} {h : H} {um : UM} {dfs : List D} {b off k n el x c : Nat} {ex rd : Bool} {z : List AV} {tr : PT AV} {cap : Option Nat} (h0 : tm.get 0 = some (.sl b off (k + 1) cap)) (h1 : tm.get 1 = some (.int .u8 (.ofNat c)))
    (hb : h.get b = some (.row el n ex rd z tr)) (hx : cellAt n z tr (off + k) = some (.int .u8 (.ofNat x))) (hk : k + 1 ≤ 9223372036854775807) :
    ∃ tm', evOps r ro (trimTest P ts tb ti) tm h um dfs = some (.normal, ⟨tm', h, um, dfs⟩) ∧ tm'.get 0 = some (.sl b off (k + 1) cap) ∧ tm'.get 1 = some (.int .u8 (.ofNat c)) ∧ tm'.get 17 = some (.bool (Nat.beq x c)) := by
  unfold trimTest
  rw [ev_pure (v := .sl b off (k + 1) cap) wanted_none (by simp [pTmp, h0])]
  rw [ev_read (v := .int .i64 (.ofNat (k + 1))) wanted_none (rLen_sl Y (b := b) (off := off) (cap := cap) (by simp [PT.get_set']))]
  rw [ev_pure (v := .bool true) wanted_none (by simp [pBin, eo, PT.get_set', ofConst, ofCell, binA, isShift, kEq, intBin, iLe]; rfl)]
  rw [ev_pure (v := .bool true) wanted_none (by simp [pTmp, PT.get_set'])]
  rw [ev_pure (v := .sl b off (k + 1) cap) (by rw [wanted_some (x := true) (by simp [PT.get_set'])]; rfl) (by simp [pTmp, PT.get_set', h0])]
  rw [ev_pure (v := .sl b off (k + 1) cap) (by rw [wanted_some (x := true) (by simp [PT.get_set'])]; rfl) (by simp [pTmp, PT.get_set', h0])]
  rw [ev_read (v := .int .i64 (.ofNat (k + 1))) (by rw [wanted_some (x := true) (by simp [PT.get_set'])]; rfl) (rLen_sl Y (b := b) (off := off) (cap := cap) (by simp [PT.get_set']))]
  rw [ev_pure (v := .int .i64 (.ofNat k)) (by rw [wanted_some (x := true) (by simp [PT.get_set'])]; rfl) (pBin_sub1 (by simp [PT.get_set']) hk)]
  rw [ev_pure (v := .ptr b (off + k)) (by rw [wanted_some (x := true) (by simp [PT.get_set'])]; rfl) (by
    simp [pIndexAddr, eo, PT.get_set', indexAddrA, nat?, Y.sl, Y.sz, elemIdx, blt_t (show k < k + 1 by omega)])]
  rw [ev_read (v := .int .u8 (.ofNat x)) (by rw [wanted_some (x := true) (by simp [PT.get_set'])]; rfl) (by
    simp [rLoad, eo, PT.get_set', loadA, hb, Y.ag, hx])]
  rw [ev_pure (v := .int .u8 (.ofNat c)) (by rw [wanted_some (x := true) (by simp [PT.get_set'])]; rfl) (by simp [pTmp, PT.get_set', h1])]
  rw [ev_pure (v := .bool (Nat.beq x c)) (by rw [wanted_some (x := true) (by simp [PT.get_set'])]; rfl) (by
    simp [pBin, eo, PT.get_set', binA, isShift, kEq, intBin, iEq])]
  rw [ev_pure (v := .bool (Nat.beq x c)) wanted_none (by simp [pPick, eo, PT.get_set'])]
  rw [ev_nil]
  exact ⟨_, rfl, by simp [PT.get_set', h0], by simp [PT.get_set', h1], by simp [PT.get_set']⟩

theorem trim_cut {ts tb ti : TypeId} (Y : TrimTypes P ts tb) {r : Rec} {ro : Option Nat} {tm : PT AV} {h : H} {um : UM} {dfs : List D} {b off k c : Nat} {cap : Option Nat} (h0 : tm.get 0 = some (.sl b off (k + 1) cap)) (h1 : tm.get 1 = some (.int .u8 (.ofNat c))) (hk : k + 1 ≤ 9223372036854775807) (hc : capOk (k + 1) cap = true) :
    ∃ tm', evOps r ro (trimCut P ts ti) tm h um dfs = some (.normal, ⟨tm', h, um, dfs⟩) ∧ tm'.get 0 = some (.sl b off k cap) ∧ tm'.get 1 = some (.int .u8 (.ofNat c)) := by
  unfold trimCut
  rw [ev_pure (v := .sl b off (k + 1) cap) wanted_none (by simp [pTmp, h0])]
  rw [ev_pure (v := .sl b off (k + 1) cap) wanted_none (by simp [pTmp, PT.get_set', h0])]
  rw [ev_read (v := .int .i64 (.ofNat (k + 1))) wanted_none (rLen_sl Y (b := b) (off := off) (cap := cap) (by simp [PT.get_set']))]
  rw [ev_pure (v := .int .i64 (.ofNat k)) wanted_none (pBin_sub1 (by simp [PT.get_set']) hk)]
  rw [ev_pure (v := .sl b off k cap) wanted_none (pSlice_cut Y (by simp [PT.get_set']) (by simp [PT.get_set']) hc)]
  rw [ev_pure (v := .sl b off k cap) wanted_none (by simp [pTmp, PT.get_set'])]
  rw [ev_nil]
  exact ⟨_, rfl, by simp [PT.get_set'], by simp [PT.get_set', h1]⟩

/-- How many bytes are left. -/
noncomputable def trimLen (n : Nat) (z : List AV) (tr : PT AV) (off c : Nat) : Nat → Option Nat
  | 0 => some 0
  | k + 1 => match cellAt n z tr (off + k) with
    | some (.int .u8 (.ofNat x)) => match Nat.beq x c with
      | true => trimLen n z tr off c k
      | false => some (k + 1)
    | _ => none

section
variable {nt : Nat} {ro : Option Nat} {ts tb ti : TypeId} {b0 r1 b1 r2 : Nat} {ops1 ops2 : Array Oper}
def trimLoop (b0 r1 b1 r2 : Nat) (ops1 ops2 : Array Oper) : Code := .loop (.seq (.seq (.region r1 ops1 false) (.cond (.tmp 17) .skip (.exit b0))) (.block b1 (.region r2 ops2 false)))

theorem trim_stop (g1 : compOps P nt ops1 ops1.toList = trimTest P ts tb ti) {s : S} {x : AV} {tm' : PT AV} (he : ∀ r, evOps r ro (trimTest P ts tb ti) s.tm s.h s.um s.dfs = some (.normal, ⟨tm', s.h, s.um, s.dfs⟩)) (h0 : tm'.get 0 = some x) (h17 : tm'.get 17 = some (.bool false)) :
    ∃ tm2, Ev P sm nt ro (trimLoop b0 r1 b1 r2 ops1 ops2) s (.exit b0) ⟨tm2, s.h, s.um, s.dfs⟩ ∧ tm2.get 0 = some x := by
  refine ⟨tm', .loop_out (.seq_out (.seq (.region g1 ⟨0, fun n _ => he _⟩ (fun _ q => by cases q)) (.cond (x := false) ?_ .exit)) (fun q => by cases q)) (fun q => by cases q), h0⟩
  simp [eo, h17]

theorem trim_loop (Y : TrimTypes P ts tb) (g1 : compOps P nt ops1 ops1.toList = trimTest P ts tb ti) (g2 : compOps P nt ops2 ops2.toList = trimCut P ts ti) {h : H} {um : UM} {dfs : List D} {b off n el c : Nat} {ex rd : Bool} {z : List AV} {tr : PT AV} {cap : Option Nat} (hb : h.get b = some (.row el n ex rd z tr)) :
    ∀ (len m : Nat) (tm : PT AV), trimLen n z tr off c len = some m → len ≤ 9223372036854775807 → capOk len cap = true → tm.get 0 = some (.sl b off len cap) → tm.get 1 = some (.int .u8 (.ofNat c)) →
      ∃ tm', Ev P sm nt ro (trimLoop b0 r1 b1 r2 ops1 ops2) ⟨tm, h, um, dfs⟩ (.exit b0) ⟨tm', h, um, dfs⟩ ∧ tm'.get 0 = some (.sl b off m cap)
  | 0, m, tm, hm, _, _, h0, _ => by
    simp only [trimLen] at hm
    injection hm with hm; subst hm
    obtain ⟨tm', q1, q2, q3⟩ := trim_test0 (P := P) (ts := ts) (ti := ti) (r := rec0) (tb := tb) (ro := ro) (h := h) (um := um) (dfs := dfs) (x := .sl b off 0 cap) (fun tm t ht => rLen_sl Y ht) h0
    have q1' : ∀ r, evOps r ro (trimTest P ts tb ti) tm h um dfs = some (.normal, ⟨tm', h, um, dfs⟩) := fun r => (evOps_indep _ rfl).trans q1
    exact trim_stop (s := ⟨tm, h, um, dfs⟩) g1 q1' q2 q3
  | k + 1, m, tm, hm, hk, hc, h0, h1 => by
    unfold trimLen at hm
    split at hm
    · rename_i x hx
      obtain ⟨tm', q1, q2, q3, q4⟩ := trim_test1 (P := P) (ti := ti) Y (r := rec0) (ro := ro) (um := um) (dfs := dfs) h0 h1 hb hx hk
      have q1' : ∀ r, evOps r ro (trimTest P ts tb ti) tm h um dfs = some (.normal, ⟨tm', h, um, dfs⟩) := fun r => (evOps_indep _ rfl).trans q1
      split at hm
      · rename_i hxc
        rw [hxc] at q4
        obtain ⟨tm2, p1, p2, p3⟩ := trim_cut (P := P) (ti := ti) Y (r := rec0) (ro := ro) (h := h) (um := um) (dfs := dfs) q2 q3 hk hc
        have p1' : ∀ r, evOps r ro (trimCut P ts ti) tm' h um dfs = some (.normal, ⟨tm2, h, um, dfs⟩) := fun r => (evOps_indep _ rfl).trans p1
        have hc' : capOk k cap = true := by
          cases cap with
          | none => rfl
          | some q => exact Nat.ble_eq_true_of_le (by have := Nat.le_of_ble_eq_true hc; omega)
        obtain ⟨tm3, e1, e2⟩ := trim_loop Y g1 g2 hb k m tm2 hm (by omega) hc' p2 p3
        refine ⟨tm3, .loop (.seq (.seq (.region g1 ⟨0, fun n _ => q1' _⟩ (fun _ q => by cases q)) (.cond (x := true) (by simp [eo, q4]) .skip)) (.block (.region g2 ⟨0, fun n _ => p1' _⟩ (fun _ q => by cases q)) (.inl rfl))) e1, e2⟩
      · rename_i hxc
        rw [hxc] at q4
        injection hm with hm; subst hm
        exact trim_stop (s := ⟨tm, h, um, dfs⟩) g1 q1' q2 q4
    · cases hm

structure TrimCode (P : Program) (f : FuncId) (ts tb ti : TypeId) (fn : Func) (r0 b0 r1 b1 r2 r3 : Nat) (ops0 ops1 ops2 ops3 : Array Oper) : Prop where
  f : P.funcs[f]? = some fn
  n : fn.ntmps = 24
  res : fn.results.toList = [.tmp 4]
  body : fn.body = some (.seq (.region r0 ops0 false) (.seq (.block b0 (trimLoop b0 r1 b1 r2 ops1 ops2)) (.seq (.region r3 ops3 false) .ret)))
  g0 : compOps P 24 ops0 ops0.toList = [⟨none, some 4, .pure (pMove P (.const (.slice none 0 0))) 4⟩]
  g1 : compOps P 24 ops1 ops1.toList = trimTest P ts tb ti
  g2 : compOps P 24 ops2 ops2.toList = trimCut P ts ti
  g3 : compOps P 24 ops3 ops3.toList = [⟨none, some 23, .pure (pTmp 0) 23⟩, ⟨none, some 4, .pure (pTmp 23) 4⟩]

theorem trim_fin {f : FuncId} {fn : Func} {r0 r3 : Nat} {ops0 ops3 : Array Oper} (K : TrimCode P f ts tb ti fn r0 b0 r1 b1 r2 r3 ops0 ops1 ops2 ops3) (hsm : sm f = none) {h : H} {um : UM} {x y : AV} {c : Nat}
    (hl : ∀ tm : PT AV, tm.get 0 = some x → tm.get 1 = some (.int .u8 (.ofNat c)) → ∃ tm', Ev P sm 24 none (trimLoop b0 r1 b1 r2 ops1 ops2) ⟨tm, h, um, []⟩ (.exit b0) ⟨tm', h, um, []⟩ ∧ tm'.get 0 = some y) :
    EvCall P sm f [x, .int .u8 (.ofNat c)] um h (.ret y) um h := by
  have e0 : ∀ r, evOps r none [⟨none, some 4, .pure (pMove P (.const (.slice none 0 0))) 4⟩] (writeN .nil 0 [x, .int .u8 (.ofNat c)]) h um [] = some (.normal, ⟨(writeN .nil 0 [x, .int .u8 (.ofNat c)]).set 4 .nilSl, h, um, []⟩) := by
    intro r
    rw [ev_pure (v := .nilSl) wanted_none (by simp [pMove, eo, ofConst, ofCell]), ev_nil]
  obtain ⟨tm', e1, e2⟩ := hl ((writeN .nil 0 [x, .int .u8 (.ofNat c)]).set 4 .nilSl) (by simp [writeN, PT.get_set']) (by simp [writeN, PT.get_set'])
  have e3 : ∀ r, evOps r none [⟨none, some 23, .pure (pTmp 0) 23⟩, ⟨none, some 4, .pure (pTmp 23) 4⟩] tm' h um [] = some (.normal, ⟨(tm'.set 23 y).set 4 y, h, um, []⟩) := by
    intro r
    rw [ev_pure (v := y) wanted_none (by simp [pTmp, e2]), ev_pure (v := y) wanted_none (by simp [pTmp, PT.get_set']), ev_nil]
  refine EvCall.body (vs := [y]) (s := ⟨(tm'.set 23 y).set 4 y, h, um, []⟩) (e := .ret) hsm K.f K.body ?_ (.inr rfl) rfl ?_ rfl
  · rw [K.n]
    exact .seq (.region K.g0 ⟨0, fun n _ => e0 _⟩ (fun _ q => by cases q)) (.seq (.block e1 (.inr rfl)) (.seq (.region K.g3 ⟨0, fun n _ => e3 _⟩ (fun _ q => by cases q)) .ret))
  · rw [K.res]
    simp [resultsA, PT.get_set']

/-- What the function comes to. -/
noncomputable def trimSum (args : List AV) (h : H) : Option (AV × H) := match args with
  | [.sl b off len cap, .int .u8 (.ofNat c)] => match capOk len cap, Nat.ble len 1048576, h.get b with
    | true, true, some (.row _ n _ _ z tr) => match trimLen n z tr off c len with
      | some m => some (.sl b off m cap, h)
      | none => none
    | _, _, _ => none
  | [.nilSl, .int .u8 (.ofNat _)] => some (.nilSl, h)
  | _ => none

theorem trim_call (Y : TrimTypes P ts tb) {f : FuncId} {fn : Func} {r0 r3 : Nat} {ops0 ops3 : Array Oper} (K : TrimCode P f ts tb ti fn r0 b0 r1 b1 r2 r3 ops0 ops1 ops2 ops3) (hsm : sm f = none) {args : List AV} {h h' : H} {um : UM} {v : AV} (he : trimSum args h = some (v, h')) :
    EvCall P sm f args um h (.ret v) um h' := by
  unfold trimSum at he
  split at he
  · rename_i b off len cap c
    split at he
    · rename_i e n ex rd z tr hc hl hb
      split at he
      · rename_i m hm
        injection he with he; injection he with h1 h2; subst h1; subst h2
        exact trim_fin K hsm fun tm q0 q1 => trim_loop Y K.g1 K.g2 hb len m tm hm (by have := Nat.le_of_ble_eq_true hl; omega) hc q0 q1
      · cases he
    · cases he
  · rename_i c
    injection he with he; injection he with h1 h2; subst h1; subst h2
    refine trim_fin K hsm fun tm q0 q1 => ?_
    obtain ⟨tm', p1, p2, p3⟩ := trim_test0 (P := P) (ts := ts) (ti := ti) (r := rec0) (tb := tb) (ro := none) (h := h) (um := um) (dfs := []) (x := .nilSl) (fun tm t ht => rLen_nil Y ht) q0
    exact trim_stop (s := ⟨tm, h, um, []⟩) K.g1 (fun r => (evOps_indep _ rfl).trans p1) p2 p3
  · cases he
end
end
end Go.Ab

namespace Go.Ab
/-- The closure of what a function may come to, a step at a time. -/
def clStep (P : Program) : List FuncId × List FuncId → List FuncId × List FuncId
  | ([], seen) => ([], seen)
  | (f :: todo, seen) => if seen.contains f then (todo, seen) else ((P.funcs[f]?).elim [] P.leadsTo ++ todo, f :: seen)
def clIter (P : Program) : Nat → List FuncId × List FuncId → List FuncId × List FuncId
  | 0, s => s
  | n + 1, s => clIter P n (clStep P s)
theorem clVia_nil (P : Program) (m : Nat) (seen : List FuncId) : P.closureVia m [] seen = seen.reverse := by cases m <;> rfl
theorem clStep_via (P : Program) (m : Nat) (s : List FuncId × List FuncId) : P.closureVia (m + 1) s.1 s.2 = P.closureVia m (clStep P s).1 (clStep P s).2 := by
  obtain ⟨todo, seen⟩ := s
  cases todo with
  | nil => rw [clVia_nil]; exact (clVia_nil P m seen).symm
  | cons f todo =>
    simp only [Program.closureVia, clStep]
    split <;> rfl
theorem clIter_via (P : Program) (m : Nat) : ∀ (n : Nat) (s : List FuncId × List FuncId), P.closureVia (n + m) s.1 s.2 = P.closureVia m (clIter P n s).1 (clIter P n s).2
  | 0, s => by rw [Nat.zero_add]; rfl
  | n + 1, s => by
    rw [show n + 1 + m = (n + m) + 1 from by omega, clStep_via, clIter_via P m n]
    rfl
theorem clIter_add (P : Program) (m : Nat) : ∀ (n : Nat) (s : List FuncId × List FuncId), clIter P (n + m) s = clIter P m (clIter P n s)
  | 0, s => by rw [Nat.zero_add]; rfl
  | n + 1, s => by
    rw [show n + 1 + m = (n + m) + 1 from by omega]
    exact clIter_add P m n _
theorem closure_of {P : Program} {f : FuncId} {n : Nat} {seen : List FuncId} (h : clIter P n ([f], []) = ([], seen)) (hn : Nat.ble n (1 + (P.funcs.toList.map fun g => (P.leadsTo g).length + 1).sum) = true) : P.closure f = seen.reverse := by
  replace hn := Nat.le_of_ble_eq_true hn
  unfold Program.closure
  obtain ⟨m, hm⟩ : ∃ m, 1 + (P.funcs.toList.map fun g => (P.leadsTo g).length + 1).sum = n + m := ⟨1 + (P.funcs.toList.map fun g => (P.leadsTo g).length + 1).sum - n, by omega⟩
  rw [hm, clIter_via P m n ([f], []), h]
  exact clVia_nil P m seen
theorem iter_chain {P : Program} (n m k : Nat) {s t u : List FuncId × List FuncId} (h1 : clIter P n s = t) (h2 : clIter P m t = u) (e : Nat.beq (n + m) k = true) : clIter P k s = u := by rw [← Nat.eq_of_beq_eq_true e, clIter_add, h1, h2]

theorem any_of_all {α : Type} (p : α → Bool) (l : List Nat) (g : Nat → Option α) (h : ∀ i x, g i = some x → p x = false) : (l.any fun i => (g i).any p) = false := by
  rw [List.any_eq_false]
  intro i _
  cases hg : g i with
  | none => simp
  | some x => simp [h i x hg]
theorem no_goes {P : Program} (h : P.funcs.any Func.goes = false) (f : FuncId) : P.goes f = false := by
  unfold Program.goes
  rw [h, Bool.and_false, Bool.or_false]
  refine any_of_all Func.goes _ (fun g => P.funcs[g]?) fun i x hx => ?_
  rw [Array.any_eq_false] at h
  obtain ⟨hi, hx⟩ := Array.getElem?_eq_some_iff.1 hx
  have := h i hi
  rw [hx] at this
  simpa using this
theorem no_goes_from {P : Program} (h : P.funcs.any Func.goes = false) (n : String) : P.goesFrom n = false := by
  unfold Program.goesFrom
  cases P.funcNamed n with
  | none => rfl
  | some f => simp [no_goes h f]
theorem goes_by {P : Program} {c : OpenClaim} (h : P.funcs.any Func.goes = false) (hs : c.start = .entering) : false = c.goesBy P := by
  unfold OpenClaim.goesBy Program.goesAt
  rw [no_goes_from h, hs]
  rfl
end Go.Ab

namespace Go.Ab
open Go.ChangeShapes Go.WideShapes Go.RowKit
section
variable {P : Program}

/-- A law without parameters that the evaluator finds true. -/
theorem law_true {call : FuncId → List AV → UM → H → Option (Res × UM × H)} (o : CallOk P call) {f : FuncId} {h0 h' : H} {um : UM} {W : World} (hrun : call f [] .plain h0 = some (.ret (.bool true), um, h')) (hn : h0.next = P.globals.size) (hsz : P.globals.size ≤ W.heap.size)
    (hf : ∀ g x, h0.get g = some x → ∃ ob, x = .fixed ob ∧ W.heap[g]? = some ob ∧ h'.get g = some (.fixed ob)) :
    Calls P f #[] W fun e W' => e = .returned (.bool true) ∧ W'.os = W.os ∧ W'.output = W.output ∧ ∀ i, i < W.heap.size → W'.heap[i]? = W.heap[i]? := by
  have hr := hrel0 (P := P) hn hsz (fun g x hx => let ⟨ob, a, b, _⟩ := hf g x hx; ⟨ob, a, b⟩)
  refine (call_calls o hrun (ρ := ren0 P.globals.size) (args' := #[]) .nil hr (free0 hn)).mono fun e W' ⟨ρ', v', he, hv, st⟩ => ?_
  cases hv
  obtain ⟨k1, k2, k3⟩ := kept0 hn hf st
  exact ⟨he, k1, k2, k3⟩

theorem kept_but {W W' : World} {may : MemPlace → Prop} (h1 : W'.os = W.os) (h2 : W'.output = W.output) (h3 : ∀ i, i < W.heap.size → W'.heap[i]? = W.heap[i]?) : W.keptBut W' may := by
  refine ⟨h1, h2, fun i hi => ?_⟩
  rw [h3 i hi]
  cases h : W.heap[i]? with
  | none => rfl
  | some ob => cases ob <;> first | exact ⟨rfl, rfl, rfl, fun _ _ => rfl⟩ | exact .inr ⟨rfl, rfl⟩ | rfl

/-- What the row's statement asks of such a law. -/
theorem law_post {H : Type} {enc : TypeId × Value → H} {fn : Func} {s : ChangeSpec} {apart fresh : Bool} {tb : TypeId} {W W' : World} {ds gs : List (DataW H)} {before : List MemPlace}
    (hp : fn.params = #[]) (hr : fn.resultTypes = #[tb]) (hb : P.underlying tb = some .bool) (hv : s.vars = []) (hs : s.fn H [] = { results := [.lit (.bool true)], args := [] })
    (hW : DataW.Whole enc P fn.params.toList s.vars apart W [] ds gs before) (h1 : W'.os = W.os) (h2 : W'.output = W.output) (h3 : ∀ i, i < W.heap.size → W'.heap[i]? = W.heap[i]?) :
    s.post enc P fn apart fresh false false W #[] (.bool true) W' := by
  have hW' := hW
  obtain ⟨p, q, hA, hV, hpq, hfz, hnd⟩ := hW
  rw [hp] at hA
  rw [hv] at hV
  have ed : ds = [] ∧ p = [] := by
    cases ds with
    | nil => exact ⟨rfl, hA⟩
    | cons _ _ => exact hA.elim
  have eg : gs = [] ∧ q = [] := by
    cases gs with
    | nil => exact ⟨rfl, hV⟩
    | cons _ _ => exact hV.elim
  obtain ⟨rfl, rfl⟩ := ed
  obtain ⟨rfl, rfl⟩ := eg
  have hse : s.fn H ([] ++ []) = { results := [.lit (.bool true)], args := [] } := hs
  refine ⟨_, _, _, [], [], [], hW', ?_, ?_, ?_, kept_but h1 h2 h3, fun h => by cases h⟩
  · rw [hse, hr]; exact trodAll_mk1 (shut_bool hb true)
  · rw [hse, hp]; rfl
  · rw [hse, hv]; rfl

theorem laidVars_get {W : World} {name : String} {d : DataW Unit} : ∀ {laid : List (String × DataW Unit)} {ps : List MemPlace}, DataW.LaidVars P W laid ps → (name, d) ∈ laid →
    ∃ g t cs fuel p, P.globalNamed name = some g ∧ (P.globals[g]?).map (·.type) = some t ∧ W.var? P name = some cs ∧ DataW.trod (fun _ => ()) P W 0 (fun _ => true) false fuel t cs.toList = some (d, p)
  | [], _, _, hm => by simp at hm
  | (n, x) :: r, ps, h, hm => by
    obtain ⟨g, t, cs, fuel, p, q, h1, h2, h3, h4, h5, _⟩ := h
    rcases List.mem_cons.1 hm with he | hm
    · injection he with e1 e2; subst e1; subst e2
      exact ⟨g, t, cs, fuel, p, h1, h2, h3, h4⟩
    · exact laidVars_get h5 hm
/-- The block of a table that the row lists. -/
theorem table_block {W : World} {laid : List (String × DataW Unit)} {name : String} {k : IntKind} {zs : List Int} {g : Nat} {t e : TypeId} {n : Nat} {zero : Array Value}
    (hg : P.globalNamed name = some g) (hty : (P.globals[g]?).map (·.type) = some t) (ht : P.underlying t = some (.array n e)) (he : P.underlying e = some (.int k)) (hce : P.cellsOf e = 1) (hct : P.cellsOf t = n)
    (h : laidMet P laid W) (hm : (name, Lib.tabData k zs) ∈ laid) (hsh : W.ShapedOpen P) (hgs : g < P.globals.size) (h0 : ((begin P (fun _ _ => 0) default).world.heap[g]?).bind Obj.row? = some (zero, t)) :
    W.heap[g]? = some (.cells (zs.map fun z => Value.int k z).toArray t (0, 0)) := by
  obtain ⟨ps, hl, _⟩ := h
  obtain ⟨g', t', cs, fuel, p, hg', ht', hvar, hd⟩ := laidVars_get hl hm
  obtain rfl := Option.some.inj (hg.symm.trans hg')
  obtain rfl := Option.some.inj (hty.symm.trans ht')
  have hcs := Lib.cells_of_tab ht he hce hct hd
  obtain ⟨cs2, hb, _, _⟩ := hsh.1 g zero t hgs h0
  have hv : cs2 = cs := by
    simp only [World.var?, hg, Option.bind_some, hb] at hvar
    exact Option.some.inj hvar
  rw [hb, hv, ← hcs]
theorem globals_le {W : World} {g : Nat} {zero : Array Value} {t : TypeId} (hsh : W.ShapedOpen P) (hgs : g + 1 = P.globals.size) (h0 : ((begin P (fun _ _ => 0) default).world.heap[g]?).bind Obj.row? = some (zero, t)) : P.globals.size ≤ W.heap.size := by
  obtain ⟨cs2, hb, _, _⟩ := hsh.1 g zero t (by omega) h0
  rcases Nat.lt_or_ge g W.heap.size with h | h
  · omega
  · rw [Array.getElem?_eq_none h] at hb; cases hb
end
end Go.Ab
