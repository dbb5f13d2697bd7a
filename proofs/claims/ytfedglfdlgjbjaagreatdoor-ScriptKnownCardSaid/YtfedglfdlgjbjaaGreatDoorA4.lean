/-
  What code, calls, deferred calls and rounds of the evaluator are to those of the model.
  Own work for this claim; no condition.
-/
import Derived.Test.YtfedglfdlgjbjaaGreatDoorA3
set_option linter.unusedSectionVars false
set_option linter.unnecessarySimpa false
set_option linter.unusedVariables false
set_option linter.unusedSimpArgs false
namespace Go.Ab
section
variable {P : Program}

section steps
variable {b : Frame} {a : Act} {k : List Item} {cs : List Frame} {w w' : World} {ops : Array Oper} {i : Nat} {rest : List Nat} {o : Oper}

theorem put_at (ho : ops[i]? = some o) (v : Value) : (b.atR a (.inRegion ops (i :: rest) :: k)).finish v = b.atR (a.put o.dst v) (.inRegion ops rest :: k) := by
  rw [Frame.finish_atR, ho]; rfl

theorem step_value (ho : ops[i]? = some o) (hw : Region.wanted o (yielded ops a.tmps) = true) {v : Value} (hr : (o.semAt b.roundOf a.eval).run P w = .ok (.value v) w') :
    step P (lone (b.atR a (.inRegion ops (i :: rest) :: k)) cs w) = .next (lone (b.atR (a.put o.dst v) (.inRegion ops rest :: k)) cs w') := by
  rw [← put_at ho]
  exact step_lone_go (by rw [stepGR_op ho hw]; simp [stepG.apply, hr])
theorem step_skip (ho : ops[i]? = some o) (hw : Region.wanted o (yielded ops a.tmps) = true) (hr : (o.semAt b.roundOf a.eval).run P w = .ok .skip w') :
    step P (lone (b.atR a (.inRegion ops (i :: rest) :: k)) cs w) = .next (lone (b.atR (a.put o.dst undef) (.inRegion ops rest :: k)) cs w') := by
  rw [← put_at ho]
  exact step_lone_go (by rw [stepGR_op ho hw]; simp [stepG.apply, hr])
theorem step_put_defer (ho : ops[i]? = some o) (hw : Region.wanted o (yielded ops a.tmps) = true) {d : Deferred} (hr : (o.semAt b.roundOf a.eval).run P w = .ok (.defer d) w') :
    step P (lone (b.atR a (.inRegion ops (i :: rest) :: k)) cs w) = .next (lone (b.atR ({ a with defers := d :: a.defers }.put o.dst undef) (.inRegion ops rest :: k)) cs w') := by
  refine step_lone_go ?_
  have : ({ b.atR a (.inRegion ops (i :: rest) :: k) with defers := d :: a.defers } : Frame).finish undef = b.atR ({ a with defers := d :: a.defers }.put o.dst undef) (.inRegion ops rest :: k) :=
    put_at (b := b) (a := { a with defers := d :: a.defers }) (k := k) (rest := rest) ho undef
  rw [stepGR_op ho hw]
  simp only [stepG.apply, Sem.runT_eq, hr, GStep.bare_after]
  exact congrArg (fun fr => GStep.go { frame := fr, callers := cs, status := .running, dying := none } w') this
theorem step_enter (ho : ops[i]? = some o) (hw : Region.wanted o (yielded ops a.tmps) = true) {f : FuncId} {args : Array Value} (hr : (o.semAt b.roundOf a.eval).run P w = .ok (.enter f args) w') :
    step P (lone (b.atR a (.inRegion ops (i :: rest) :: k)) cs w) = .next (lone (Frame.enter P f args .normal) (b.atR a (.inRegion ops (i :: rest) :: k) :: cs) w') :=
  step_lone_go (by rw [stepGR_op ho hw]; simp [stepG.apply, hr, Frame.atR])
theorem step_round (ho : ops[i]? = some o) (hw : Region.wanted o (yielded ops a.tmps) = true) {l : Nat} {f : FuncId} {tmps : Array Value} {asg bd : Code} (hr : (o.semAt b.roundOf a.eval).run P w = .ok (.round l f tmps asg bd) w') :
    step P (lone (b.atR a (.inRegion ops (i :: rest) :: k)) cs w) = .next (lone (Frame.round l f tmps asg bd .normal) (b.atR a (.inRegion ops (i :: rest) :: k) :: cs) w') :=
  step_lone_go (by rw [stepGR_op ho hw]; simp [stepG.apply, hr, Frame.atR])
theorem step_panic (ho : ops[i]? = some o) (hw : Region.wanted o (yielded ops a.tmps) = true) {v : Value} (hr : (o.semAt b.roundOf a.eval).run P w = .halt (.panic v) w') :
    step P (lone (b.atR a (.inRegion ops (i :: rest) :: k)) cs w) = .next (lone { b.atR a (.inRegion ops (i :: rest) :: k) with mode := .panicking [⟨v, false, false⟩] } cs w') := by
  refine step_lone_go ?_
  rw [stepGR_op ho hw, ← Frame.raise_atR]; simp [stepG.apply, hr]
theorem step_recover (ho : ops[i]? = some o) (hw : Region.wanted o (yielded ops a.tmps) = true) (hb : b.roundOf = none) (hr : (o.semAt b.roundOf a.eval).run P w = .ok .recover w') :
    step P (lone (b.atR a (.inRegion ops (i :: rest) :: k)) cs w) = .next (match tryRecover (b.atR a (.inRegion ops (i :: rest) :: k)) cs with
      | some (v, cs') => lone (b.atR (a.put o.dst v) (.inRegion ops rest :: k)) cs' w'
      | none => lone (b.atR (a.put o.dst .nilIface) (.inRegion ops rest :: k)) cs w') := by
  have hb' : (b.atR a (.inRegion ops (i :: rest) :: k)).roundOf = none := hb
  cases ht : tryRecover (b.atR a (.inRegion ops (i :: rest) :: k)) cs with
  | none =>
    simp only
    rw [← put_at ho]
    exact step_lone_go (by rw [stepGR_op ho hw]; simp only [stepG.apply, Sem.runT_eq, hr, GStep.bare_after, hb', ht]; rfl)
  | some x =>
    obtain ⟨v, cs'⟩ := x
    simp only
    rw [← put_at ho]
    exact step_lone_go (by rw [stepGR_op ho hw]; simp only [stepG.apply, Sem.runT_eq, hr, GStep.bare_after, hb', ht]; rfl)
end steps

-- what stands beside the memory

def DRels (ρ : Ren) : List D → List Deferred → Prop
  | [], [] => True
  | d :: ds, d' :: ds' => DRel ρ d d' ∧ DRels ρ ds ds'
  | _, _ => False
theorem DRels.mono {ρ ρ' : Ren} (hρ : ρ.le ρ') : ∀ {ds : List D} {ds' : List Deferred}, DRels ρ ds ds' → DRels ρ' ds ds'
  | [], [], _ => trivial
  | _ :: _, _ :: _, ⟨h, hs⟩ => ⟨h.mono hρ, hs.mono hρ⟩

/-- Who called. -/
inductive UMRel (ρ : Ren) : UM → CallKind → List Frame → Prop
  | plain (cs : List Frame) : UMRel ρ .plain .normal cs
  | returning (c : Frame) (cs : List Frame) : c.mode = .returning → UMRel ρ .returning .deferred (c :: cs)
  | panicking (v : AV) (v' : Value) (r : Bool) (c : Frame) (cs : List Frame) : VRel ρ v v' → c.mode = .panicking [⟨v', r, false⟩] → UMRel ρ (.panicking v r) .deferred (c :: cs)
theorem UMRel.mono {ρ ρ' : Ren} (hρ : ρ.le ρ') {u : UM} {kd : CallKind} {cs : List Frame} (h : UMRel ρ u kd cs) : UMRel ρ' u kd cs := by
  cases h with
  | plain => exact .plain _
  | returning c cs h => exact .returning c cs h
  | panicking v v' r c cs hv h => exact .panicking v v' r c cs (hv.mono hρ) h

/-- The callers, but for the mode of the first. -/
def CsTo (kd : CallKind) (cs cs' : List Frame) : Prop := cs' = cs ∨ (kd = .deferred ∧ ∃ c rest m, cs = c :: rest ∧ cs' = { c with mode := m } :: rest)
theorem CsTo.refl (kd : CallKind) (cs : List Frame) : CsTo kd cs cs := .inl rfl
theorem CsTo.trans {kd : CallKind} {a b c : List Frame} (h : CsTo kd a b) (h' : CsTo kd b c) : CsTo kd a c := by
  rcases h with rfl | ⟨hk, x, rest, m, rfl, rfl⟩
  · exact h'
  · rcases h' with rfl | ⟨_, y, rest', m', e, rfl⟩
    · exact .inr ⟨hk, x, rest, m, rfl, rfl⟩
    · injection e with e1 e2; subst e1; subst e2
      exact .inr ⟨hk, x, _, m', rfl, rfl⟩
theorem CsTo.normal {cs cs' : List Frame} (h : CsTo .normal cs cs') : cs' = cs := by
  rcases h with h | ⟨h, _⟩
  · exact h
  · cases h

theorem tryRecover_normal {fr : Frame} (h : fr.kind = .normal) (cs : List Frame) : tryRecover fr cs = none := by
  unfold tryRecover; rw [h]

/-- What a frame is in a round of. -/
def RoRel (ρ : Ren) : Option Nat → Option Nat → Prop
  | none, none => True
  | some l, some c => ρ l = some c
  | _, _ => False
theorem RoRel.mono {ρ ρ' : Ren} (hρ : ρ.le ρ') : ∀ {x y : Option Nat}, RoRel ρ x y → RoRel ρ' x y
  | none, none, _ => trivial
  | some _, some _, h => (hρ _ _ h).1
end
end Go.Ab

namespace Go.Ab
section
variable {P : Program}

/-- A frame that runs, and what stands beside it. -/
structure At (P : Program) (ρ : Ren) (nt : Nat) (ro : Option Nat) (b : Frame) (s : S) (a : Act) (cs : List Frame) (w : World) : Prop where
  fr : FRel ρ nt s.tm a.tmps
  hr : HRel P ρ s.h w
  ds : DRels ρ s.dfs a.defers
  um : UMRel ρ s.um b.kind cs
  ro : RoRel ρ ro b.roundOf

def NoCall (k : List Item) : Prop := ∀ d x y z k2, k ≠ .call d x y z :: k2
/-- Where a piece of code leaves the frame. -/
def Arr (P : Program) (ρ : Ren) (b : Frame) (m : Machine) (k : List Item) (a : Act) (cs : List Frame) (w : World) : Ex → Prop
  | .normal => Steps P m (lone (b.atR a k) cs w)
  | .exit id => ∃ k1, Steps P m (lone (b.atR a (.code (.exit id) :: k1)) cs w) ∧ exitTo id k1 = exitTo id k
  | .ret => ∃ k1, Steps P m (lone (b.atR a (.code .ret :: k1)) cs w)
  | .panic v => ∃ k1 v', NoCall k1 ∧ VRel ρ v v' ∧ Steps P m (lone { b.atR a k1 with mode := .panicking [⟨v', false, false⟩] } cs w)
theorem Arr.head {ρ : Ren} {b : Frame} {m m1 : Machine} {k : List Item} {a : Act} {cs : List Frame} {w : World} {e : Ex} (h : Steps P m m1) (x : Arr P ρ b m1 k a cs w e) : Arr P ρ b m k a cs w e := by
  cases e with
  | normal => exact h.trans x
  | exit id => obtain ⟨k1, h1, h2⟩ := x; exact ⟨k1, h.trans h1, h2⟩
  | ret => obtain ⟨k1, h1⟩ := x; exact ⟨k1, h.trans h1⟩
  | panic v => obtain ⟨k1, v', h0, h1, h2⟩ := x; exact ⟨k1, v', h0, h1, h.trans h2⟩

/-- From machine m, related by ρ to heap h and world w, to an exit e and state s'. -/
def Goes (P : Program) (nt : Nat) (ro : Option Nat) (b : Frame) (m : Machine) (k : List Item) (e : Ex) (ρ : Ren) (h : H) (cs : List Frame) (w : World) (s' : S) : Prop :=
  ∃ ρ' a' cs' w', Stp P ρ ρ' h s'.h w w' ∧ At P ρ' nt ro b s' a' cs' w' ∧ CsTo b.kind cs cs' ∧ Arr P ρ' b m k a' cs' w' e

theorem Goes.of {nt : Nat} {ro : Option Nat} {b : Frame} {m m1 : Machine} {k : List Item} {e : Ex} {ρ ρ1 : Ren} {h h1 : H} {cs cs1 : List Frame} {w w1 : World} {s' : S} (hs : Steps P m m1) (f : Free ρ h h1) (st : Stp P ρ ρ1 h h1 w w1) (hc : CsTo b.kind cs cs1)
    (g : Goes P nt ro b m1 k e ρ1 h1 cs1 w1 s') : Goes P nt ro b m k e ρ h cs w s' := by
  obtain ⟨ρ', a', cs', w', g1, g2, g3, g4⟩ := g
  exact ⟨ρ', a', cs', w', st.trans f g1, g2, hc.trans g3, g4.head hs⟩

def CallOk (P : Program) (call : FuncId → List AV → UM → H → Option (Res × UM × H)) : Prop :=
  ∀ f args um h res um' h', call f args um h = some (res, um', h') → ∀ ρ args' kd cs w, VRels ρ args (args' : Array Value).toList → HRel P ρ h w → Free ρ h h' → UMRel ρ um kd cs →
    ∃ ρ' cs' w' fr fn v', Stp P ρ ρ' h h' w w' ∧ UMRel ρ' um' kd cs' ∧ CsTo kd cs cs' ∧ Steps P (lone (Frame.enter P f args' kd) cs w) (lone fr cs' w') ∧ fr.fn = f ∧ fr.kind = kd ∧ fr.defers = [] ∧ P.funcs[f]? = some fn ∧ fn.body.isSome = true ∧
      match res with
      | .ret v => fr.mode = .returning ∧ (results fn fr.tmps).run P w' = .ok v' w' ∧ VRel ρ' v v'
      | .panic v => fr.mode = .panicking [⟨v', false, false⟩] ∧ VRel ρ' v v'
def RoundOk (P : Program) (round : Nat → List AV → H → Option (Res × H)) : Prop :=
  ∀ l args h res h', round l args h = some (res, h') → ∀ ρ lc args' w, ρ l = some lc → VRels ρ args (args' : Array Value).toList → HRel P ρ h w → Free ρ h h' →
    ∃ f tmps asg bd, (Instr.yield lc args').run P w = .ok (.round lc f tmps asg bd) w ∧ ∀ (c : Frame) (cs : List Frame), c.mode = .run → ∃ ρ' w' v', Stp P ρ ρ' h h' w w' ∧
      match res with
      | .ret v => VRel ρ' v v' ∧ Steps P (lone (Frame.round lc f tmps asg bd .normal) (c :: cs) w) (lone (c.finish v') cs w')
      | .panic v => VRel ρ' v v' ∧ Steps P (lone (Frame.round lc f tmps asg bd .normal) (c :: cs) w) (lone { c with mode := .panicking [⟨v', false, false⟩] } cs w')

theorem wanted_t {ρ : Ren} {nt : Nat} {tm : PT AV} {ops : Array Oper} {o : Oper} {a : Act} {x : Bool} (f : FRel ρ nt tm a.tmps) (h : wantedA tm (guardOf ops o) = some x) : Region.wanted o (yielded ops a.tmps) = x := by
  unfold Region.wanted
  unfold guardOf at h
  split at h
  · rename_i hg; rw [hg]; simp [wantedA] at h; subst h; rfl
  · rename_i j want hg
    rw [hg]
    simp only
    unfold yielded
    split at h
    · rename_i oj hj
      rw [hj]
      simp only [Option.bind_some]
      cases hd : oj.dst with
      | none => rw [hd] at h; simp [wantedA] at h; subst h; simp
      | some d =>
        rw [hd] at h
        simp only [wantedA] at h
        simp only [Option.bind_some]
        split at h
        · rename_i bb hb
          injection h with h; subst h
          obtain ⟨v', e1, e2⟩ := f.get d _ hb
          cases e2
          rw [e1]
          simp
        · rename_i hb
          injection h with h; subst h
          obtain ⟨v', e1, e2⟩ := f.get d _ hb
          cases e2
          rw [e1]
          simp
        · cases h
    · rename_i hj
      rw [hj]
      simp [wantedA] at h
      subst h; simp

theorem put_frel {ρ : Ren} {nt : Nat} {tm : PT AV} {a : Act} {dst : Option Tmp} {v : AV} {v' : Value} (f : FRel ρ nt tm a.tmps) (hd : ∀ d, dst = some d → d < nt) (hv : VRel ρ v v') : FRel ρ nt (putD tm dst v) (a.put dst v').tmps := by
  cases dst with
  | none => exact f
  | some d => exact f.set (hd d rfl) hv
theorem put_defers {a : Act} {dst : Option Tmp} {v : Value} : (a.put dst v).defers = a.defers := by cases dst <;> rfl
theorem okDst_lt {nt : Nat} {dst : Option Tmp} (h : okDst nt dst = true) : ∀ d, dst = some d → d < nt := by
  intro d hd; subst hd; exact lt_of_blt h

theorem runEff_le {r : Rec} {h : H} {x : Option (R × H)} {y : EO} (e : runEff r h x = some y) : ∃ z h1, x = some (z, h1) ∧ h.next ≤ h1.next ∧ runEff0 r z h1 = some y := by
  unfold runEff at e
  split at e
  · cases e
  · rename_i z h1
    split at e
    · rename_i hle
      exact ⟨z, h1, rfl, Nat.le_of_ble_eq_true hle, e⟩
    · cases e
end
end Go.Ab

namespace Go.Ab
section
variable {P : Program}

def EO.hp : EO → H
  | .val _ h => h
  | .defer _ h => h
  | .recover h => h
  | .panic _ h => h
structure RecMono (r : Rec) : Prop where
  code : ∀ nt ro c s e s', r.code nt ro c s = some (e, s') → s.h.next ≤ s'.h.next
  call : ∀ f args um h res um' h', r.call f args um h = some (res, um', h') → h.next ≤ h'.next
  round : ∀ l args h res h', r.round l args h = some (res, h') → h.next ≤ h'.next
theorem runEff0_mono {r : Rec} (hm : RecMono r) {x : R} {h : H} {y : EO} (e : runEff0 r x h = some y) : h.next ≤ y.hp.next := by
  unfold runEff0 at e
  split at e
  · injection e with e; subst e; exact Nat.le_refl _
  · split at e
    · rename_i hh; injection e with e; subst e; exact hm.call _ _ _ _ _ _ _ hh
    · rename_i hh; injection e with e; subst e; exact hm.call _ _ _ _ _ _ _ hh
    · cases e
  · split at e
    · rename_i hh; injection e with e; subst e; exact hm.round _ _ _ _ _ hh
    · rename_i hh; injection e with e; subst e; exact hm.round _ _ _ _ _ hh
    · cases e
  · injection e with e; subst e; exact Nat.le_refl _
  · injection e with e; subst e; exact Nat.le_refl _
  · injection e with e; subst e; exact Nat.le_refl _
theorem runEff_mono {r : Rec} (hm : RecMono r) {x : Option (R × H)} {h : H} {y : EO} (e : runEff r h x = some y) : h.next ≤ y.hp.next := by
  obtain ⟨z, h1, _, hle, e1⟩ := runEff_le e
  exact Nat.le_trans hle (runEff0_mono hm e1)

theorem evOps_mono {r : Rec} (hm : RecMono r) {ro : Option Nat} : ∀ (gs : List GOp) {tm : PT AV} {h : H} {um : UM} {dfs : List D} {e : Ex} {s' : S}, evOps r ro gs tm h um dfs = some (e, s') → h.next ≤ s'.h.next
  | [], tm, h, um, dfs, e, s', hh => by simp [evOps] at hh; obtain ⟨_, rfl⟩ := hh; exact Nat.le_refl _
  | g :: gs, tm, h, um, dfs, e, s', hh => by
    unfold evOps at hh
    split at hh
    · cases hh
    · exact evOps_mono hm gs hh
    · split at hh
      · split at hh
        · exact evOps_mono hm gs hh
        · cases hh
      · split at hh
        · exact evOps_mono hm gs hh
        · cases hh
      · split at hh
        · have := evOps_mono hm gs hh
          rw [H.new_next] at this; omega
        · cases hh
      · split at hh
        · cases hh
        · rename_i hr; exact Nat.le_trans (runEff_mono hm hr) (evOps_mono hm gs hh)
        · rename_i hr; injection hh with hh; injection hh with _ hh; subst hh; exact runEff_mono hm hr
        · rename_i hr
          split at hh
          · exact Nat.le_trans (runEff_mono hm hr) (evOps_mono hm gs hh)
          · cases hh
        · rename_i hr
          split at hh
          · exact Nat.le_trans (runEff_mono hm hr) (evOps_mono hm gs hh)
          · cases hh

/-- A frame further on. -/
theorem At.put {ρ ρ' : Ren} {nt : Nat} {ro : Option Nat} {b : Frame} {tm : PT AV} {h h' : H} {um : UM} {dfs : List D} {a : Act} {cs : List Frame} {w w' : World} {dst : Option Tmp} {v : AV} {v' : Value}
    (A : At P ρ nt ro b ⟨tm, h, um, dfs⟩ a cs w) (st : Stp P ρ ρ' h h' w w') (hd : ∀ d, dst = some d → d < nt) (hv : VRel ρ' v v') : At P ρ' nt ro b ⟨putD tm dst v, h', um, dfs⟩ (a.put dst v') cs w' :=
  ⟨put_frel (A.fr.mono st.ext.mono) hd hv, st.rel, by rw [put_defers]; exact A.ds.mono st.ext.mono, A.um.mono st.ext.mono, A.ro.mono st.ext.mono⟩

theorem notDefer_semAt {o : Oper} {ro : Option Nat} {a : Act} (h : ∀ c, o.op ≠ .defer c) : o.semAt ro a.eval = execOp a.eval o := Oper.semAt_eq ro a.eval o h

theorem compOps_drop {nt : Nat} {ops : Array Oper} {i : Nat} {o : Oper} (ho : ops[i]? = some o) : compOps P nt ops (ops.toList.drop i) = match okDst nt o.dst with
    | true => ⟨guardOf ops o, o.dst, compOp P nt o⟩ :: compOps P nt ops (ops.toList.drop (i + 1))
    | false => [⟨none, none, .eff eBad none⟩] := by
  have : ops.toList.drop i = o :: ops.toList.drop (i + 1) := by
    have hi : i < ops.size := by
      rcases Nat.lt_or_ge i ops.size with h | h
      · exact h
      · rw [Array.getElem?_eq_none h] at ho; cases ho
    rw [Array.getElem?_eq_getElem hi] at ho
    injection ho with ho
    rw [List.drop_eq_getElem_cons (by simpa using hi), ← ho]
    simp
  rw [this]
  rfl
end
end Go.Ab

namespace Go.Ab
section
variable {P : Program}

theorem defer_eff {nt : Nat} {o : Oper} {c : Call} (ho : o.op = .defer c) : ∃ g dst, compOp P nt o = .eff g dst ∧ ∀ tm h x h1, g tm h = some (x, h1) → ∃ d, x = .defer d := by
  unfold compOp
  rw [ho]
  simp only
  split
  · rename_i f hf
    unfold mkEff
    split
    · split
      · refine ⟨_, _, rfl, fun tm h x h1 e => ?_⟩
        unfold eDefer at e
        split at e
        · split at e
          · split at e
            · injection e with e; injection e with e; exact ⟨_, e.symm⟩
            · cases e
          · cases e
        · cases e
      · exact ⟨_, _, rfl, fun tm h x h1 e => by cases e⟩
    · refine ⟨_, _, rfl, fun tm h x h1 e => ?_⟩
      unfold eDefer at e
      split at e
      · split at e
        · split at e
          · injection e with e; injection e with e; exact ⟨_, e.symm⟩
          · cases e
        · cases e
      · cases e
  · exact ⟨_, _, rfl, fun tm h x h1 e => by cases e⟩

theorem alloc_ex {e0 : TypeId} {tm : PT AV} {n : Nat} {v : AV} {ao : AO} (h : aAlloc P e0 tm n = some (v, ao)) : ∀ e m ro z t, ao ≠ .row e m false ro z t := by
  unfold aAlloc at h
  split at h
  · injection h with h; injection h with _ h; subst h; intro _ _ _ _ _ q; cases q
  · cases h
theorem box_ex {e0 : TypeId} {x : Operand} {tm : PT AV} {n : Nat} {v : AV} {ao : AO} (h : aBox P e0 x tm n = some (v, ao)) : ∀ e m ro z t, ao ≠ .row e m false ro z t := by
  unfold aBox at h
  split at h
  · injection h with h; injection h with _ h; subst h; intro _ _ _ _ _ q; cases q
  · cases h
theorem makeMap_ex {x : Option Operand} {tm : PT AV} {n : Nat} {v : AV} {ao : AO} (h : aMakeMap x tm n = some (v, ao)) : ∀ e m ro z t, ao ≠ .row e m false ro z t := by
  unfold aMakeMap at h
  split at h
  · injection h with h; injection h with _ h; subst h; intro _ _ _ _ _ q; cases q
  · cases h
theorem makeSlice_ex {t0 : TypeId} {x y : Operand} {tm : PT AV} {n : Nat} {v : AV} {ao : AO} (h : aMakeSlice P t0 x y tm n = some (v, ao)) : ∀ e m ro z t, ao ≠ .row e m false ro z t := by
  unfold aMakeSlice at h
  repeat' split at h
  all_goals first
    | (injection h with h; injection h with _ h; subst h; intro _ _ _ _ _ q; cases q)
    | cases h
theorem buildSlice_ex {t0 : TypeId} {len : Nat} {ps : List (Nat × Operand)} {tm : PT AV} {n : Nat} {v : AV} {ao : AO} (h : aBuildSlice P t0 len ps tm n = some (v, ao)) : ∀ e m ro z t, ao ≠ .row e m false ro z t := by
  unfold aBuildSlice at h
  repeat' split at h
  all_goals first
    | (injection h with h; injection h with _ h; subst h; intro _ _ _ _ _ q; cases q)
    | cases h
theorem new_ex {nt : Nat} {o : Oper} {g : PT AV → Nat → Option (AV × AO)} {d : Tmp} (h : compOp P nt o = .new g d) {tm : PT AV} {n : Nat} {v : AV} {ao : AO} (hg : g tm n = some (v, ao)) : ∀ e m ro z t, ao ≠ .row e m false ro z t := by
  unfold compOp at h
  split at h <;> first
    | exact (mkPure_new h).elim
    | exact (mkEff_new h).elim
    | exact (mkRead_new h).elim
    | cases h
    | (obtain ⟨q, _, _⟩ := mkNew_new h; subst q; exact alloc_ex hg)
    | (obtain ⟨q, _, _⟩ := mkNew_new h; subst q; exact box_ex hg)
    | (obtain ⟨q, _, _⟩ := mkNew_new h; subst q; exact makeMap_ex hg)
    | (obtain ⟨q, _, _⟩ := mkNew_new h; subst q; exact makeSlice_ex hg)
    | (obtain ⟨q, _, _⟩ := mkNew_new h; subst q; exact buildSlice_ex hg)
    | exact (compCall_new h).elim
    | exact (compField_new h).elim
    | skip
  · split at h
    · exact (mkEff_new h).elim
    · exact (mkPure_new h).elim
  · split at h
    · exact (mkEff_new h).elim
    · cases h

theorem recover_step {ρ : Ren} {um : UM} {kd : CallKind} {cs : List Frame} {fr : Frame} (hk : fr.kind = kd) (h : UMRel ρ um kd cs) :
    ∃ u cs2, VRel ρ (recovered um).1 u ∧ UMRel ρ (recovered um).2 kd cs2 ∧ CsTo kd cs cs2 ∧ (tryRecover fr cs = some (u, cs2) ∨ (tryRecover fr cs = none ∧ u = .nilIface ∧ cs2 = cs)) := by
  cases h with
  | plain => exact ⟨.nilIface, cs, .nilIface, .plain _, CsTo.refl _ _, .inr ⟨tryRecover_normal hk cs, rfl, rfl⟩⟩
  | returning c cs hm =>
    refine ⟨.nilIface, _, .nilIface, .returning c cs hm, CsTo.refl _ _, .inr ⟨?_, rfl, rfl⟩⟩
    rw [tryRecover_deferred hk]
    simp [recoverD, hm]
  | panicking v v' r c cs hv hm =>
    cases r with
    | true =>
      refine ⟨.nilIface, _, .nilIface, .panicking v v' true c cs hv hm, CsTo.refl _ _, .inr ⟨?_, rfl, rfl⟩⟩
      rw [tryRecover_deferred hk]
      simp [recoverD, hm]
    | false =>
      refine ⟨v', { c with mode := .panicking [⟨v', true, false⟩] } :: cs, hv, .panicking v v' true _ cs hv rfl, .inr ⟨rfl, c, cs, _, rfl, rfl⟩, .inl ?_⟩
      rw [tryRecover_deferred hk]
      simp [recoverD, hm]

theorem evOps_ok (hng : NoNG P) {r : Rec} (hm : RecMono r) (hc : CallOk P r.call) (hrd : RoundOk P r.round) {nt : Nat} {ro : Option Nat} {ops : Array Oper} : ∀ (n i : Nat), i + n = ops.size →
    ∀ {tm : PT AV} {h : H} {um : UM} {dfs : List D} {e : Ex} {s' : S}, evOps r ro (compOps P nt ops (ops.toList.drop i)) tm h um dfs = some (e, s') →
    ∀ {ρ : Ren} {b : Frame} {a : Act} {k : List Item} {cs : List Frame} {w : World}, At P ρ nt ro b ⟨tm, h, um, dfs⟩ a cs w → Free ρ h s'.h →
    Goes P nt ro b (lone (b.atR a (.inRegion ops (List.range' i n) :: k)) cs w) k e ρ h cs w s' := by
  intro n
  induction n with
  | zero =>
    intro i hi tm h um dfs e s' hh ρ b a k cs w A F
    have : ops.toList.drop i = [] := List.drop_eq_nil_iff.2 (by simp; omega)
    rw [this] at hh
    simp [compOps, evOps] at hh
    obtain ⟨rfl, rfl⟩ := hh
    exact ⟨ρ, a, cs, w, Stp.refl A.hr, A, CsTo.refl _ _, .one stepR_region_end⟩
  | succ n ih =>
    intro i hi tm h um dfs e s' hh ρ b a k cs w A F
    have hlt : i < ops.size := by omega
    have ho : ops[i]? = some ops[i] := by simp [hlt]
    generalize ops[i] = o at ho
    rw [compOps_drop ho] at hh
    have hrange : List.range' i (n + 1) = i :: List.range' (i + 1) n := rfl
    rw [hrange]
    cases hok : okDst nt o.dst with
    | false => rw [hok] at hh; simp [evOps, wantedA, runEff, eBad] at hh
    | true =>
      rw [hok] at hh
      have hdl := okDst_lt hok
      simp only [evOps] at hh
      have OR := A.fr.ops (a := a) A.hr.glob o.op.operands.toList
      split at hh
      · cases hh
      · -- not wanted
        rename_i hw
        have hw := wanted_t A.fr hw
        have st := stepR_op_skip (P := P) (b := b) (a := a) (k := k) (cs := cs) (w := w) (ops := ops) (i := i) (rest := List.range' (i + 1) n) (by simp [ho, hw])
        rw [ho] at st
        have A2 := A.put (dst := o.dst) (Stp.refl A.hr) hdl (v := .tuple []) (v' := undef) (.tuple _ _ .nil)
        exact Goes.of (.one st) (fun n a b => by omega) (Stp.refl A.hr) (CsTo.refl _ _) (ih (i + 1) (by omega) hh A2 F)
      · rename_i hw
        have hw := wanted_t A.fr hw
        split at hh
        · -- pure
          rename_i f d hcp
          obtain ⟨p1, p2, p3⟩ := comp_pure hcp
          have hnd : ∀ c, o.op ≠ .defer c := fun c hd => by obtain ⟨g, dst, q, _⟩ := defer_eff (P := P) (nt := nt) hd; rw [hcp] at q; cases q
          split at hh
          · rename_i v hv
            obtain ⟨v', e1, e2⟩ := p3 ρ tm a w v OR hv
            have st := step_value (cs := cs) (k := k) (rest := List.range' (i + 1) n) ho hw (b := b) (by rw [notDefer_semAt hnd]; exact e1)
            have A2 := A.put (dst := o.dst) (Stp.refl A.hr) hdl e2
            rw [p1] at A2 st
            exact Goes.of (.one st) (fun n a b => by omega) (Stp.refl A.hr) (CsTo.refl _ _) (ih (i + 1) (by omega) hh A2 F)
          · cases hh
        · -- read
          rename_i f d hcp
          obtain ⟨p1, p2, p3⟩ := comp_read hcp
          have hnd : ∀ c, o.op ≠ .defer c := fun c hd => by obtain ⟨g, dst, q, _⟩ := defer_eff (P := P) (nt := nt) hd; rw [hcp] at q; cases q
          split at hh
          · rename_i v hv
            obtain ⟨v', e1, e2⟩ := p3 ρ tm a h w v A.hr OR hv
            have st := step_value (cs := cs) (k := k) (rest := List.range' (i + 1) n) ho hw (b := b) (by rw [notDefer_semAt hnd]; exact e1)
            have A2 := A.put (dst := o.dst) (Stp.refl A.hr) hdl e2
            rw [p1] at A2 st
            exact Goes.of (.one st) (fun n a b => by omega) (Stp.refl A.hr) (CsTo.refl _ _) (ih (i + 1) (by omega) hh A2 F)
          · cases hh
        · -- new
          rename_i f d hcp
          obtain ⟨p1, p2, p3⟩ := comp_new hcp
          have hnd : ∀ c, o.op ≠ .defer c := fun c hd => by obtain ⟨g, dst, q, _⟩ := defer_eff (P := P) (nt := nt) hd; rw [hcp] at q; cases q
          split at hh
          · rename_i v ao hv
            have hmn := evOps_mono hm _ hh
            rw [H.new_next] at hmn
            have hfree : ρ h.next = none := F _ (Nat.le_refl _) (by omega)
            obtain ⟨v', ob, e1, e2, e3⟩ := p3 ρ tm a w h.next v ao hfree OR hv
            have st := step_value (cs := cs) (k := k) (rest := List.range' (i + 1) n) ho hw (b := b) (by rw [notDefer_semAt hnd]; exact e1)
            have S1 : Stp P ρ (ρ.add h.next w.heap.size 0) h (h.new ao) w { w with heap := w.heap.push ob } := Stp.new A.hr hfree e3 rfl rfl rfl rfl (fun _ _ _ _ _ q => absurd q (new_ex hcp hv _ _ _ _ _))
            have A2 := A.put (dst := o.dst) S1 hdl e2
            rw [p1] at A2 st
            refine Goes.of (.one st) (F.mono (by rw [H.new_next]; omega)) S1 (CsTo.refl _ _) (ih (i + 1) (by omega) hh A2 (F.step S1.ext))
          · cases hh
        · -- effect
          rename_i f dst hcp
          rcases comp_eff hng hcp with hbad | ⟨p1, p2, p3⟩
          · subst hbad
            simp [runEff, eBad] at hh
          · have hsem : ∀ z h1, f tm h = some (z, h1) → (∀ d, z ≠ .defer d) ∨ ro = none → o.semAt b.roundOf a.eval = execOp a.eval o := by
              intro z h1 hz hor
              by_cases hd : ∃ c, o.op = .defer c
              · obtain ⟨c, hd⟩ := hd
                obtain ⟨g, dst', q1, q2⟩ := defer_eff (P := P) (nt := nt) hd
                rw [hcp] at q1; injection q1 with q1 q1'; subst q1
                rcases hor with hor | hor
                · obtain ⟨d, hz2⟩ := q2 _ _ _ _ hz; exact absurd hz2 (hor d)
                · have := A.ro
                  rw [hor] at this
                  have hb : b.roundOf = none := by cases hx : b.roundOf with | none => rfl | some _ => rw [hx] at this; exact this.elim
                  rw [hb]; rfl
              · exact notDefer_semAt (fun c hc => hd ⟨c, hc⟩)
            have hrn : ro = none → b.roundOf = none := by
              intro hor
              have := A.ro
              rw [hor] at this
              cases hx : b.roundOf with
              | none => rfl
              | some _ => rw [hx] at this; exact this.elim
            -- what the effect came to, in one word
            cases hre : runEff r h (f tm h) with
            | none => rw [hre] at hh; cases hh
            | some y =>
              rw [hre] at hh
              obtain ⟨z, h1, hz, hle, hy⟩ := runEff_le hre
              have hle2 := runEff0_mono hm hy
              have hle3 : y.hp.next ≤ s'.h.next := by
                cases y with
                | val v h2 => exact evOps_mono hm _ hh
                | panic v h2 => simp only at hh; injection hh with hh; injection hh with _ hh; subst hh; exact Nat.le_refl _
                | defer d h2 =>
                  simp only at hh
                  split at hh
                  · exact evOps_mono hm _ hh
                  · cases hh
                | recover h2 =>
                  simp only at hh
                  split at hh
                  · exact evOps_mono hm _ hh
                  · cases hh
              have F1 : Free ρ h h1 := F.mono (by omega)
              have came := p3 ρ tm a h w z h1 A.hr OR F1 hz
              rw [p1] at hdl
              -- a value that comes at once
              have done : ∀ {v : AV} {h2 : H} {ρ2 : Ren} {w2 : World} {u : Value}, y = .val v h2 → Stp P ρ ρ2 h h2 w w2 → VRel ρ2 v u →
                  Steps P (lone (b.atR a (.inRegion ops (i :: List.range' (i + 1) n) :: k)) cs w) (lone (b.atR (a.put o.dst u) (.inRegion ops (List.range' (i + 1) n) :: k)) cs w2) →
                  Goes P nt ro b (lone (b.atR a (.inRegion ops (i :: List.range' (i + 1) n) :: k)) cs w) k e ρ h cs w s' := by
                intro v h2 ρ2 w2 u hyv st hv steps
                subst hyv
                have A2 := A.put (dst := dst) st hdl hv
                rw [p1] at steps
                have Fm : Free ρ h h2 := F.mono hle3
                exact Goes.of steps Fm st (CsTo.refl _ _) (ih (i + 1) (by omega) hh A2 (F.step st.ext))
              cases z with
              | val v =>
                injection hy with hy
                obtain ⟨nx, u, w2, ρ2, hnx, hv, hrun, st⟩ := came
                have hs := hsem _ _ hz (.inl (fun d q => by cases q))
                rw [← hs] at hrun
                rcases hnx with rfl | ⟨rfl, rfl⟩
                · exact done hy.symm st hv (.one (step_value ho hw hrun))
                · exact done hy.symm st hv (.one (step_skip ho hw hrun))
              | call f' args =>
                obtain ⟨args', w1, ρ1, hrun, hargs, st1⟩ := came
                have hs := hsem _ _ hz (.inl (fun d q => by cases q))
                rw [← hs] at hrun
                have en := step_enter (cs := cs) (k := k) (rest := List.range' (i + 1) n) ho hw hrun
                simp only [runEff0] at hy
                split at hy
                · rename_i v u' h2 hcall
                  injection hy with hy
                  subst hy
                  have F2 : Free ρ1 h1 h2 := (F.mono hle3).step st1.ext
                  obtain ⟨ρ2, cs2, w2, fr, fn, v', st2, um2, ct, steps, hfn, hkd, hdf, hP, _, hres⟩ := hc _ _ _ _ _ _ _ hcall ρ1 args' .normal (b.atR a (.inRegion ops (i :: List.range' (i + 1) n) :: k) :: cs) w1 hargs st1.rel F2 (.plain _)
                  have := ct.normal; subst this
                  obtain ⟨m1, m2, m3⟩ := hres
                  have lv : fr.leaving P w2 (.returned v') := ⟨m1, hdf, hkd, fn, by rw [hfn]; exact hP, m2⟩
                  have back := step_leave_returned (cs := cs) (c := b.atR a (.inRegion ops (i :: List.range' (i + 1) n) :: k)) lv
                  rw [put_at ho] at back
                  exact done rfl (st1.trans F1 st2) m3 (.head en (steps.trans (.one back)))
                · rename_i v u' h2 hcall
                  injection hy with hy
                  subst hy
                  simp only at hh
                  injection hh with hh; injection hh with hh1 hh2; subst hh1; subst hh2
                  have F2 : Free ρ1 h1 h2 := (F.mono hle3).step st1.ext
                  obtain ⟨ρ2, cs2, w2, fr, fn, v', st2, um2, ct, steps, hfn, hkd, hdf, hP, _, hres⟩ := hc _ _ _ _ _ _ _ hcall ρ1 args' .normal (b.atR a (.inRegion ops (i :: List.range' (i + 1) n) :: k) :: cs) w1 hargs st1.rel F2 (.plain _)
                  have := ct.normal; subst this
                  obtain ⟨m1, m2⟩ := hres
                  have lv : fr.leaving P w2 (.panicked [⟨v', false, false⟩]) := ⟨m1, hdf, fn, by rw [hfn]; exact hP⟩
                  have back := step_leave_panicked (cs := cs) (c := b.atR a (.inRegion ops (i :: List.range' (i + 1) n) :: k)) lv
                  rw [Frame.raise_atR] at back
                  have S := st1.trans F1 st2
                  exact ⟨ρ2, a, cs, w2, S, ⟨A.fr.mono S.ext.mono, S.rel, A.ds.mono S.ext.mono, A.um.mono S.ext.mono, A.ro.mono S.ext.mono⟩, CsTo.refl _ _, _, v', (fun _ _ _ _ _ q => by cases q), m2, .head en (steps.trans (.one back))⟩
                · cases hy
              | round l args =>
                obtain ⟨e1, lc, args', hl, hrun, hargs⟩ := came
                subst e1
                have hs := hsem _ _ hz (.inl (fun d q => by cases q))
                rw [← hs] at hrun
                simp only [runEff0] at hy
                split at hy
                · rename_i v h2 hround
                  injection hy with hy
                  subst hy
                  obtain ⟨f2, tmps, asg, bd, hyld, hgo⟩ := hrd _ _ _ _ _ hround ρ lc args' w hl hargs A.hr (F.mono hle3)
                  have en := step_round (cs := cs) (k := k) (rest := List.range' (i + 1) n) ho hw (hrun.trans hyld)
                  obtain ⟨ρ2, w2, v', st2, m1, m2⟩ := hgo (b.atR a (.inRegion ops (i :: List.range' (i + 1) n) :: k)) cs rfl
                  rw [put_at ho] at m2
                  exact done rfl st2 m1 (.head en m2)
                · rename_i v h2 hround
                  injection hy with hy
                  subst hy
                  simp only at hh
                  injection hh with hh; injection hh with hh1 hh2; subst hh1; subst hh2
                  obtain ⟨f2, tmps, asg, bd, hyld, hgo⟩ := hrd _ _ _ _ _ hround ρ lc args' w hl hargs A.hr (F.mono hle3)
                  have en := step_round (cs := cs) (k := k) (rest := List.range' (i + 1) n) ho hw (hrun.trans hyld)
                  obtain ⟨ρ2, w2, v', S, m1, m2⟩ := hgo (b.atR a (.inRegion ops (i :: List.range' (i + 1) n) :: k)) cs rfl
                  exact ⟨ρ2, a, cs, w2, S, ⟨A.fr.mono S.ext.mono, S.rel, A.ds.mono S.ext.mono, A.um.mono S.ext.mono, A.ro.mono S.ext.mono⟩, CsTo.refl _ _, _, v', (fun _ _ _ _ _ q => by cases q), m1, .head en m2⟩
                · cases hy
              | defer d =>
                injection hy with hy; subst hy
                obtain ⟨e1, d', hrun, hdr⟩ := came
                subst e1
                simp only at hh
                split at hh
                · have hs := hsem _ _ hz (.inr rfl)
                  rw [← hs] at hrun
                  have st := step_put_defer (cs := cs) (k := k) (rest := List.range' (i + 1) n) ho hw hrun
                  have A1 : At P ρ nt none b ⟨tm, h1, um, d :: dfs⟩ { a with defers := d' :: a.defers } cs w := ⟨A.fr, A.hr, ⟨hdr, A.ds⟩, A.um, A.ro⟩
                  have A2 := A1.put (dst := dst) (Stp.refl A.hr) hdl (v := .tuple []) (v' := undef) (.tuple _ _ .nil)
                  rw [p1] at st
                  exact Goes.of (.one st) (fun n a b => by omega) (Stp.refl A.hr) (CsTo.refl _ _) (ih (i + 1) (by omega) hh A2 F)
                · cases hh
              | recover =>
                injection hy with hy; subst hy
                obtain ⟨e1, hrun⟩ := came
                subst e1
                simp only at hh
                split at hh
                · have hs := hsem _ _ hz (.inr rfl)
                  rw [← hs] at hrun
                  have st := step_recover (cs := cs) (k := k) (rest := List.range' (i + 1) n) ho hw (hrn rfl) hrun
                  obtain ⟨u, cs2, q1, q2, q3, q4⟩ := recover_step (fr := b.atR a (.inRegion ops (i :: List.range' (i + 1) n) :: k)) (kd := b.kind) rfl A.um
                  have st2 : step P (lone (b.atR a (.inRegion ops (i :: List.range' (i + 1) n) :: k)) cs w) = .next (lone (b.atR (a.put o.dst u) (.inRegion ops (List.range' (i + 1) n) :: k)) cs2 w) := by
                    rw [st]
                    rcases q4 with q4 | ⟨q4, rfl, rfl⟩
                    · rw [q4]
                    · rw [q4]
                  rw [p1] at st2
                  have A2 := A.put (dst := dst) (Stp.refl A.hr) hdl q1
                  have A3 : At P ρ nt none b ⟨putD tm dst (recovered um).1, h1, (recovered um).2, dfs⟩ (a.put dst u) cs2 w := ⟨A2.fr, A2.hr, A2.ds, q2, A2.ro⟩
                  exact Goes.of (.one st2) (fun n a b => by omega) (Stp.refl A.hr) q3 (ih (i + 1) (by omega) hh A3 F)
                · cases hh
              | panic v =>
                injection hy with hy; subst hy
                obtain ⟨e1, v', hrun, hv⟩ := came
                subst e1
                simp only at hh
                injection hh with hh; injection hh with hh1 hh2; subst hh1; subst hh2
                have hs := hsem _ _ hz (.inl (fun d q => by cases q))
                rw [← hs] at hrun
                have st := step_panic (cs := cs) (k := k) (rest := List.range' (i + 1) n) ho hw hrun
                exact ⟨ρ, a, cs, w, Stp.refl A.hr, ⟨A.fr, A.hr, A.ds, A.um, A.ro⟩, CsTo.refl _ _, _, v', (fun _ _ _ _ _ q => by cases q), hv, .one st⟩
end
end Go.Ab

namespace Go.Ab
section
variable {P : Program}

def CodeOk (P : Program) (code : Nat → Option Nat → Code → S → Option (Ex × S)) : Prop :=
  ∀ nt ro c s e s', code nt ro c s = some (e, s') → ∀ ρ b a k cs w, At P ρ nt ro b s a cs w → Free ρ s.h s'.h → Goes P nt ro b (lone (b.atR a (.code c :: k)) cs w) k e ρ s.h cs w s'

/-- An exit that is no normal one passes what lies on the way. -/
theorem Arr.pass {ρ : Ren} {b : Frame} {m : Machine} {k k' : List Item} {a : Act} {cs : List Frame} {w : World} {e : Ex} (he : e ≠ .normal) (hk : ∀ id, e = .exit id → exitTo id k' = exitTo id k) (x : Arr P ρ b m k' a cs w e) : Arr P ρ b m k a cs w e := by
  cases e with
  | normal => exact absurd rfl he
  | exit id => obtain ⟨k1, h1, h2⟩ := x; exact ⟨k1, h1, h2.trans (hk id rfl)⟩
  | ret => exact x
  | panic v => exact x
theorem Goes.pass {nt : Nat} {ro : Option Nat} {b : Frame} {m : Machine} {k k' : List Item} {e : Ex} {ρ : Ren} {h : H} {cs : List Frame} {w : World} {s' : S} (he : e ≠ .normal) (hk : ∀ id, e = .exit id → exitTo id k' = exitTo id k) (g : Goes P nt ro b m k' e ρ h cs w s') :
    Goes P nt ro b m k e ρ h cs w s' := by
  obtain ⟨ρ', a', cs', w', g1, g2, g3, g4⟩ := g
  exact ⟨ρ', a', cs', w', g1, g2, g3, g4.pass he hk⟩
theorem Goes.head {nt : Nat} {ro : Option Nat} {b : Frame} {m m1 : Machine} {k : List Item} {e : Ex} {ρ : Ren} {h : H} {cs : List Frame} {w : World} {s' : S} (hs : Steps P m m1) (g : Goes P nt ro b m1 k e ρ h cs w s') : Goes P nt ro b m k e ρ h cs w s' := by
  obtain ⟨ρ', a', cs', w', g1, g2, g3, g4⟩ := g
  exact ⟨ρ', a', cs', w', g1, g2, g3, g4.head hs⟩
/-- Normally through the first, then on. -/
theorem Goes.then {nt : Nat} {ro : Option Nat} {b : Frame} {m : Machine} {k k1 : List Item} {e : Ex} {ρ : Ren} {h : H} {cs : List Frame} {w : World} {s1 s' : S} (f : Free ρ h s'.h) (le : s1.h.next ≤ s'.h.next) (g : Goes P nt ro b m k1 .normal ρ h cs w s1)
    (h2 : ∀ ρ1 a1 cs1 w1, At P ρ1 nt ro b s1 a1 cs1 w1 → Free ρ1 s1.h s'.h → Goes P nt ro b (lone (b.atR a1 k1) cs1 w1) k e ρ1 s1.h cs1 w1 s') : Goes P nt ro b m k e ρ h cs w s' := by
  obtain ⟨ρ1, a1, cs1, w1, g1, g2, g3, g4⟩ := g
  have f1 : Free ρ h s1.h := f.mono le
  exact Goes.of g4 f1 g1 g3 (h2 ρ1 a1 cs1 w1 g2 (f.step g1.ext))

theorem stepR_scope {b : Frame} {a : Act} {k : List Item} {cs : List Frame} {w : World} {c : Code} : step P (lone (b.atR a (.code (.scope c) :: k)) cs w) = .next (lone (b.atR a (.code c :: .inScope c :: k)) cs w) :=
  step_lone_go (by simp [stepG, stepG.exec, Frame.atR])
theorem stepR_inScope {b : Frame} {a : Act} {k : List Item} {cs : List Frame} {w : World} {c : Code} : step P (lone (b.atR a (.inScope c :: k)) cs w) = .next (lone (b.atR a k) cs w) :=
  step_lone_go (by simp [stepG, stepG.exec, Frame.atR])

section
variable {r : Rec} {nt : Nat} {ro : Option Nat} {s s' : S} {e : Ex} {ρ : Ren} {b : Frame} {a : Act} {k : List Item} {cs : List Frame} {w : World}

theorem seq_ok (hm : RecMono r) (hc : CodeOk P r.code) {x y : Code} (h : cSeq r nt ro x y s = some (e, s')) (A : At P ρ nt ro b s a cs w) (F : Free ρ s.h s'.h) : Goes P nt ro b (lone (b.atR a (.code (.seq x y) :: k)) cs w) k e ρ s.h cs w s' := by
  refine Goes.head (.one stepR_seq) ?_
  unfold cSeq at h
  split at h
  · rename_i s1 h1
    have le := hm.code _ _ _ _ _ _ h
    exact Goes.then F le (hc _ _ _ _ _ _ h1 ρ b a (.code y :: k) cs w A (F.mono le)) (fun ρ1 a1 cs1 w1 A1 F1 => hc _ _ _ _ _ _ h ρ1 b a1 k cs1 w1 A1 F1)
  · rename_i hne
    refine Goes.pass (k' := .code y :: k) ?_ (fun _ _ => rfl) (hc _ _ _ _ _ _ h ρ b a (.code y :: k) cs w A F)
    intro hn; subst hn; exact hne _ h
theorem cond_ok (hc : CodeOk P r.code) {c : Operand} {x y : Code} (h : cCond P r nt ro c x y s = some (e, s')) (A : At P ρ nt ro b s a cs w) (F : Free ρ s.h s'.h) : Goes P nt ro b (lone (b.atR a (.code (.cond c x y) :: k)) cs w) k e ρ s.h cs w s' := by
  unfold cCond at h
  have OR := A.fr.ops (a := a) A.hr.glob [c]
  split at h
  · rename_i hv
    have hv := OR c (by simp) _ hv
    generalize hE : a.eval c = v' at hv
    cases hv
    exact Goes.head (.one (stepR_cond hE)) (hc _ _ _ _ _ _ h ρ b a k cs w A F)
  · rename_i hv
    have hv := OR c (by simp) _ hv
    generalize hE : a.eval c = v' at hv
    cases hv
    exact Goes.head (.one (stepR_cond hE)) (hc _ _ _ _ _ _ h ρ b a k cs w A F)
  · cases h
theorem block_ok (hc : CodeOk P r.code) {id : Nat} {c : Code} (h : cBlock r nt ro id c s = some (e, s')) (A : At P ρ nt ro b s a cs w) (F : Free ρ s.h s'.h) : Goes P nt ro b (lone (b.atR a (.code (.block id c) :: k)) cs w) k e ρ s.h cs w s' := by
  refine Goes.head (.one stepR_block) ?_
  unfold cBlock at h
  split at h
  · rename_i j s1 h1
    split at h
    · rename_i hj
      injection h with h; injection h with e1 e2; subst e1; subst e2
      have hj := Nat.eq_of_beq_eq_true hj
      subst hj
      obtain ⟨ρ', a', cs', w', g1, g2, g3, k1, g4, g5⟩ := hc _ _ _ _ _ _ h1 ρ b a (.inBlock j :: k) cs w A F
      refine ⟨ρ', a', cs', w', g1, g2, g3, g4.trans (.one (stepR_exit ?_))⟩
      rw [g5]; simp [exitTo]
    · rename_i hj
      injection h with h; injection h with e1 e2; subst e1; subst e2
      have hj : j ≠ id := fun q => by rw [nbeq_t q] at hj; cases hj
      refine Goes.pass (k' := .inBlock id :: k) (by simp) (fun id2 q => ?_) (hc _ _ _ _ _ _ h1 ρ b a (.inBlock id :: k) cs w A F)
      injection q with q; subst q
      simp only [exitTo]
      rw [if_neg (by simpa using fun q : id = j => hj q.symm)]
  · rename_i hne
    cases e with
    | normal =>
      obtain ⟨ρ', a', cs', w', g1, g2, g3, g4⟩ := hc _ _ _ _ _ _ h ρ b a (.inBlock id :: k) cs w A F
      exact ⟨ρ', a', cs', w', g1, g2, g3, Steps.trans g4 (.one stepR_inBlock)⟩
    | exit j => exact absurd h (hne j s')
    | ret => exact Goes.pass (k' := .inBlock id :: k) (by simp) (fun _ q => by cases q) (hc _ _ _ _ _ _ h ρ b a (.inBlock id :: k) cs w A F)
    | panic v => exact Goes.pass (k' := .inBlock id :: k) (by simp) (fun _ q => by cases q) (hc _ _ _ _ _ _ h ρ b a (.inBlock id :: k) cs w A F)

theorem steps_tail {m m1 m' : Machine} (h : Steps P m m') (hne : m ≠ m') (h1 : step P m = .next m1) : Steps P m1 m' := by
  obtain ⟨n, hn⟩ := h
  cases n with
  | zero => simp [runN] at hn; exact absurd hn hne
  | succ n => simp only [runN, h1] at hn; exact ⟨n, hn⟩
theorem lone_inj {fr fr' : Frame} {cs cs' : List Frame} {w w' : World} (h : lone fr cs w = lone fr' cs' w') : fr = fr' := by
  unfold lone at h
  injection h with h1 h2
  simp at h2
  exact h2.1
theorem Arr.again {x : List Item} {m1 : Machine} {a' : Act} {cs' : List Frame} {w' : World} {c : Code} (hx : step P (lone (b.atR a (.code (.loop c) :: k)) cs w) = .next m1) (g : Arr P ρ b (lone (b.atR a (.code (.loop c) :: k)) cs w) k a' cs' w' e) :
    Arr P ρ b m1 k a' cs' w' e := by
  cases e with
  | normal =>
    refine steps_tail g (fun q => ?_) hx
    have := congrArg Frame.todo (lone_inj q)
    have := congrArg List.length this
    simp [Frame.atR] at this
  | exit id =>
    obtain ⟨k1, h1, h2⟩ := g
    refine ⟨k1, steps_tail h1 (fun q => ?_) hx, h2⟩
    have := congrArg Frame.todo (lone_inj q)
    simp [Frame.atR] at this
  | ret =>
    obtain ⟨k1, h1⟩ := g
    refine ⟨k1, steps_tail h1 (fun q => ?_) hx⟩
    have := congrArg Frame.todo (lone_inj q)
    simp [Frame.atR] at this
  | panic v =>
    obtain ⟨k1, v', h0, h1, h2⟩ := g
    refine ⟨k1, v', h0, h1, steps_tail h2 (fun q => ?_) hx⟩
    have := congrArg Frame.mode (lone_inj q)
    simp [Frame.atR] at this
theorem loop_ok (hm : RecMono r) (hc : CodeOk P r.code) {c : Code} (h : cLoop r nt ro c s = some (e, s')) (A : At P ρ nt ro b s a cs w) (F : Free ρ s.h s'.h) : Goes P nt ro b (lone (b.atR a (.code (.loop c) :: k)) cs w) k e ρ s.h cs w s' := by
  refine Goes.head (.one stepR_loop) ?_
  unfold cLoop at h
  split at h
  · rename_i s1 h1
    have le := hm.code _ _ _ _ _ _ h
    refine Goes.then F le (hc _ _ _ _ _ _ h1 ρ b a (.inLoop c :: k) cs w A (F.mono le)) (fun ρ1 a1 cs1 w1 A1 F1 => ?_)
    obtain ⟨ρ', a', cs', w', g1, g2, g3, g4⟩ := hc _ _ _ _ _ _ h ρ1 b a1 k cs1 w1 A1 F1
    exact ⟨ρ', a', cs', w', g1, g2, g3, (g4.again (x := []) stepR_loop).head (.one stepR_inLoop)⟩
  · rename_i hne
    refine Goes.pass (k' := .inLoop c :: k) ?_ (fun _ _ => rfl) (hc _ _ _ _ _ _ h ρ b a (.inLoop c :: k) cs w A F)
    intro hn; subst hn; exact hne _ h
theorem scope_ok (hc : CodeOk P r.code) {c : Code} (h : r.code nt ro c s = some (e, s')) (A : At P ρ nt ro b s a cs w) (F : Free ρ s.h s'.h) : Goes P nt ro b (lone (b.atR a (.code (.scope c) :: k)) cs w) k e ρ s.h cs w s' := by
  refine Goes.head (.one stepR_scope) ?_
  have g := hc _ _ _ _ _ _ h ρ b a (.inScope c :: k) cs w A F
  cases e with
  | normal =>
    obtain ⟨ρ', a', cs', w', g1, g2, g3, g4⟩ := g
    exact ⟨ρ', a', cs', w', g1, g2, g3, Steps.trans g4 (.one stepR_inScope)⟩
  | exit j => exact Goes.pass (k' := .inScope c :: k) (by simp) (fun _ _ => rfl) g
  | ret => exact Goes.pass (k' := .inScope c :: k) (by simp) (fun _ _ => rfl) g
  | panic v => exact Goes.pass (k' := .inScope c :: k) (by simp) (fun _ _ => rfl) g
end
end
end Go.Ab

namespace Go.Ab
section
variable {P : Program}

theorem FRel.eraseD {ρ : Ren} {nt : Nat} {tmps : Array Value} : ∀ (gs : List GOp) {tm : PT AV}, FRel ρ nt tm tmps → FRel ρ nt (eraseD tm gs) tmps
  | [], _, f => f
  | g :: gs, tm, f => by
    unfold Go.Ab.eraseD
    split
    · exact FRel.eraseD gs (f.del _)
    · exact FRel.eraseD gs f

theorem region_ok (hng : NoNG P) {r : Rec} (hm : RecMono r) (hc : CallOk P r.call) (hrd : RoundOk P r.round) {nt : Nat} {ro : Option Nat} {ops : Array Oper} {id : Nat} {s s' : S} {e : Ex} (h : evRegion P r nt ro ops false s = some (e, s'))
    {ρ : Ren} {b : Frame} {a : Act} {k : List Item} {cs : List Frame} {w : World} (A : At P ρ nt ro b s a cs w) (F : Free ρ s.h s'.h) : Goes P nt ro b (lone (b.atR a (.code (.region id ops false) :: k)) cs w) k e ρ s.h cs w s' := by
  refine Goes.head (.one stepR_region) ?_
  rw [List.range_eq_range']
  unfold evRegion onPanic at h
  simp only at h
  split at h
  · rename_i v s1 hs
    injection h with h; injection h with e1 e2; subst e1; subst e2
    have hd : ops.toList = ops.toList.drop 0 := rfl
    rw [hd] at hs
    obtain ⟨ρ', a', cs', w', g1, g2, g3, g4⟩ := evOps_ok hng hm hc hrd ops.size 0 (by omega) hs A F
    exact ⟨ρ', a', cs', w', g1, ⟨g2.fr.eraseD _, g2.hr, g2.ds, g2.um, g2.ro⟩, g3, g4⟩
  · have hd : ops.toList = ops.toList.drop 0 := rfl
    rw [hd] at h
    exact evOps_ok hng hm hc hrd ops.size 0 (by omega) h A F

-- leaving a function
theorem resultsA_ok {ρ : Ren} {nt : Nat} {tm : PT AV} {tmps : Array Value} {h : H} {w : World} (f : FRel ρ nt tm tmps) (hr : HRel P ρ h w) : ∀ {rs : List ResultVar} {vs : List AV}, resultsA P h tm rs = some vs →
    ∃ vs' : List Value, vs'.length = rs.length ∧ VRels ρ vs vs' ∧ ∀ (i : Nat) (x : ResultVar), rs[i]? = some x → ∃ y, vs'[i]? = some y ∧ (match x with
      | .tmp t => pure (tmps.getD t undef)
      | .cell a t => do loadVar t (← asAddr (tmps.getD a undef)) : Sem Value).run P w = .ok y w
  | [], vs, h => by simp [resultsA] at h; subst h; exact ⟨[], rfl, .nil, by simp⟩
  | .tmp t :: rs, vs, h => by
    unfold resultsA at h
    split at h
    · rename_i v us hv hus
      injection h with h; subst h
      obtain ⟨us', e1, e2, e3⟩ := resultsA_ok f hr hus
      obtain ⟨v', q1, q2⟩ := f.get t v hv
      refine ⟨v' :: us', by simp [e1], .cons _ _ _ _ q2 e2, fun i x hx => ?_⟩
      cases i with
      | zero =>
        simp at hx; subst hx
        refine ⟨v', rfl, ?_⟩
        simp [Array.getD_eq_getD_getElem?, q1]
      | succ i => simpa using e3 i x (by simpa using hx)
    · cases h
  | .cell c t :: rs, vs, h => by
    unfold resultsA at h
    split at h
    · rename_i b off hp
      split at h
      · rename_i v us hv hus
        injection h with h; subst h
        obtain ⟨us', e1, e2, e3⟩ := resultsA_ok f hr hus
        obtain ⟨p', q1, q2⟩ := f.get c _ hp
        cases q2 with | ptr _ _ cb hcb =>
        obtain ⟨v', g1, g2⟩ := run_loadA hr hcb hv
        refine ⟨v' :: us', by simp [e1], .cons _ _ _ _ g2 e2, fun i x hx => ?_⟩
        cases i with
        | zero =>
          simp at hx; subst hx
          refine ⟨v', rfl, ?_⟩
          simp [Array.getD_eq_getD_getElem?, q1, asAddr, g1]
        | succ i => simpa using e3 i x (by simpa using hx)
      · cases h
    · cases h

theorem results_ok {ρ : Ren} {nt : Nat} {tm : PT AV} {tmps : Array Value} {h : H} {w : World} {fn : Func} (f : FRel ρ nt tm tmps) (hr : HRel P ρ h w) {vs : List AV} (hres : resultsA P h tm fn.results.toList = some vs) :
    ∃ v', (results fn tmps).run P w = .ok v' w ∧ VRel ρ (tupleOf vs) v' := by
  obtain ⟨vs', e1, e2, e3⟩ := resultsA_ok f hr hres
  have hm := run_mapM_list (P := P) (w := w) (fun x : ResultVar => (match x with
      | .tmp t => pure (tmps.getD t undef)
      | .cell a t => do loadVar t (← asAddr (tmps.getD a undef)) : Sem Value)) fn.results.toList vs' e3 e1.symm
  have hrun : (results fn tmps).run P w = .ok (if h : vs'.toArray.size = 1 then vs'.toArray[0] else .tuple vs'.toArray) w := by
    unfold results
    rw [Sem.run_bind, Array.mapM_eq_mapM_toList, Sem.run_map]
    erw [hm]
    rfl
  refine ⟨_, hrun, ?_⟩
  cases e2 with
  | nil => exact .tuple _ _ .nil
  | cons v v' us us' hv hus =>
    cases hus with
    | nil => exact hv
    | cons v2 v2' us us' hv2 hus =>
      rw [dif_neg (by simp)]
      exact .tuple _ _ (.cons _ _ _ _ hv (.cons _ _ _ _ hv2 hus))
end
end Go.Ab

namespace Go.Ab
section
variable {P : Program} {nt : Nat} {ro : Option Nat} {s : S} {ρ : Ren} {b : Frame} {a : Act} {k : List Item} {cs : List Frame} {w : World}

theorem skip_ok (A : At P ρ nt ro b s a cs w) : Goes P nt ro b (lone (b.atR a (.code .skip :: k)) cs w) k .normal ρ s.h cs w s :=
  ⟨ρ, a, cs, w, Stp.refl A.hr, A, CsTo.refl _ _, .one stepR_skip⟩
theorem label_ok {l : Nat} (A : At P ρ nt ro b s a cs w) : Goes P nt ro b (lone (b.atR a (.code (.label l) :: k)) cs w) k .normal ρ s.h cs w s :=
  ⟨ρ, a, cs, w, Stp.refl A.hr, A, CsTo.refl _ _, .one stepR_label⟩
theorem exit_ok {id : Nat} (A : At P ρ nt ro b s a cs w) : Goes P nt ro b (lone (b.atR a (.code (.exit id) :: k)) cs w) k (.exit id) ρ s.h cs w s :=
  ⟨ρ, a, cs, w, Stp.refl A.hr, A, CsTo.refl _ _, k, .refl _ _, rfl⟩
theorem ret_ok (A : At P ρ nt ro b s a cs w) : Goes P nt ro b (lone (b.atR a (.code .ret :: k)) cs w) k .ret ρ s.h cs w s :=
  ⟨ρ, a, cs, w, Stp.refl A.hr, A, CsTo.refl _ _, k, .refl _ _⟩

/-- The frame of a call, as it begins. -/
theorem enter_frel {args : List AV} {args' : Array Value} {n : Nat} (h : VRels ρ args args'.toList) : FRel ρ n (writeN .nil 0 args) (args' ++ Array.replicate (n - args'.size) undef) := by
  have hl := h.length
  simp at hl
  refine ⟨by simp; omega, fun t v hv => ?_⟩
  have hget : cellAt (t + 1) [] (writeN .nil 0 args) t = some v := by
    unfold cellAt
    rw [blt_t (by omega), hv]
  obtain ⟨v', q1, q2⟩ := h.get _ _ (cellAt_new hget)
  refine ⟨v', ?_, q2⟩
  have hi : t < args'.size := by
    rcases Nat.lt_or_ge t args'.size with h' | h'
    · exact h'
    · rw [List.getElem?_eq_none (by simpa using h')] at q1; cases q1
  rw [Array.getElem?_append_left hi]
  simpa using q1
end
end Go.Ab

namespace Go.Ab
section
variable {P : Program}

/-- How a frame leaves. -/
inductive UMode (ρ : Ren) : UM → FrameMode → Prop
  | returning : UMode ρ .returning .returning
  | panicking (v : AV) (v' : Value) (r : Bool) : VRel ρ v v' → UMode ρ (.panicking v r) (.panicking [⟨v', r, false⟩])
theorem UMode.mono {ρ ρ' : Ren} (hρ : ρ.le ρ') {u : UM} {m : FrameMode} (h : UMode ρ u m) : UMode ρ' u m := by
  cases h with
  | returning => exact .returning
  | panicking v v' r hv => exact .panicking v v' r (hv.mono hρ)
theorem UMode.not_run {ρ : Ren} {u : UM} {m : FrameMode} (h : UMode ρ u m) : m ≠ .run := by cases h <;> simp
theorem UMode.um {ρ : Ren} {u : UM} {c : Frame} {cs : List Frame} (h : UMode ρ u c.mode) : UMRel ρ u .deferred (c :: cs) := by
  generalize hm : c.mode = m at h
  cases h with
  | returning => exact .returning c cs hm
  | panicking v v' r hv => exact .panicking v v' r c cs hv hm
theorem UMode.of_um {ρ : Ren} {u : UM} {c : Frame} {cs : List Frame} (h : UMRel ρ u .deferred (c :: cs)) : UMode ρ u c.mode := by
  cases h with
  | returning _ _ hm => rw [hm]; exact .returning
  | panicking v v' r _ _ hv hm => rw [hm]; exact .panicking v v' r hv
theorem UMode.settle {ρ : Ren} {u : UM} {m : FrameMode} (h : UMode ρ u m) : UMode ρ (settled u) (settle m) := by
  cases h with
  | returning => exact .returning
  | panicking v v' r hv =>
    cases r with
    | true => simp [settled, Go.settle]; exact .returning
    | false => simp [settled, Go.settle]; exact .panicking v v' false hv

theorem step_collected {fr : Frame} {cs : List Frame} {w w' : World} {c : Nat} {ds : List Deferred} {calls : List Deferred} (hm : fr.mode ≠ .run) (hd : fr.defers = ⟨.collected c, #[]⟩ :: ds) (ht : (Instr.takeDeferred c).run P w = .ok calls w') :
    step P (lone fr cs w) = .next (lone { fr with defers := calls ++ ds } cs w') := by
  refine step_lone_go ?_
  cases hmode : fr.mode with
  | run => exact absurd hmode hm
  | returning => simp [stepG, unwind, hmode, hd, Sem.runT_eq, ht]
  | panicking chain => simp [stepG, unwind, hmode, hd, Sem.runT_eq, ht]

theorem runDefers_mono {r : Rec} (hm : RecMono r) : ∀ (ds : List D) {u u' : UM} {h h' : H}, runDefers r ds u h = some (u', h') → h.next ≤ h'.next
  | [], u, u', h, h', e => by simp [runDefers] at e; obtain ⟨_, rfl⟩ := e; exact Nat.le_refl _
  | .mark d :: ds, u, u', h, h', e => by
    unfold runDefers at e
    split at e
    · have := runDefers_mono hm ds e; rwa [H.put_next] at this
    · cases e
  | .fn f args :: ds, u, u', h, h', e => by
    unfold runDefers at e
    split at e
    · rename_i hc; exact Nat.le_trans (hm.call _ _ _ _ _ _ _ hc) (runDefers_mono hm ds e)
    · cases e

theorem callFunc_enter (hng : NoNG P) {f : FuncId} {fn : Func} {args : Array Value} {w : World} (hf : P.funcs[f]? = some fn) (hb : fn.body.isSome = true) : (callFunc f args).run P w = .ok (.enter f args) w := by
  have hne := hng f fn hf
  have hn : fn.body.isNone = false := by cases hx : fn.body <;> simp_all
  unfold callFunc
  simp only [Sem.run_bind, run_program, Result.andThen_ok, hf, hne, Bool.false_eq_true, if_false, hn]
  rfl

theorem runDefers_ok (hng : NoNG P) {r : Rec} (hm : RecMono r) (hc : CallOk P r.call) : ∀ (ds : List D) {u u' : UM} {h h' : H}, runDefers r ds u h = some (u', h') → ∀ {ρ : Ren} {fr : Frame} {cs : List Frame} {w : World}, HRel P ρ h w → Free ρ h h' → UMode ρ u fr.mode → DRels ρ ds fr.defers →
    ∃ ρ' w' m', Stp P ρ ρ' h h' w w' ∧ UMode ρ' u' m' ∧ Steps P (lone fr cs w) (lone { fr with defers := [], mode := m' } cs w')
  | [], u, u', h, h', e, ρ, fr, cs, w, hr, F, um, dr => by
    simp [runDefers] at e
    obtain ⟨rfl, rfl⟩ := e
    have hd : fr.defers = [] := by
      cases hx : fr.defers with
      | nil => rfl
      | cons _ _ => rw [hx] at dr; exact dr.elim
    refine ⟨ρ, w, fr.mode, Stp.refl hr, um, ?_⟩
    have : ({ fr with defers := [], mode := fr.mode } : Frame) = fr := by rw [← hd]
    rw [this]; exact .refl _ _
  | .mark d :: ds, u, u', h, h', e, ρ, fr, cs, w, hr, F, um, dr => by
    unfold runDefers at e
    split at e
    · rename_i hg
      cases hx : fr.defers with
      | nil => rw [hx] at dr; exact dr.elim
      | cons d' ds' =>
        rw [hx] at dr
        obtain ⟨⟨c, hcd, rfl⟩, drs⟩ := dr
        obtain ⟨ob, q1, q2⟩ := hr.obj _ _ _ hg (by simp) hcd
        cases q2
        have st := Stp.obj hr hg (by simp) hcd (ao' := .dfr false) (ob' := .deferred none) (ORel.dfr false)
        have ht : (Instr.takeDeferred c).run P w = .ok [] { w with heap := w.heap.setIfInBounds c (.deferred none) } := by
          unfold Instr.takeDeferred
          simp only [Sem.run_bind, getObj_run q1 (by simp), Result.andThen_ok]
          simp [setObj_run q1]
        have s1 := step_collected (cs := cs) um.not_run hx ht
        have le := runDefers_mono hm ds e
        obtain ⟨ρ', w', m', g1, g2, g3⟩ := runDefers_ok hng hm hc ds e (fr := { fr with defers := [] ++ ds' }) (cs := cs) st.rel (F.step st.ext) um drs
        exact ⟨ρ', w', m', st.trans (F.mono le) g1, g2, .head s1 g3⟩
    · cases e
  | .fn f args :: ds, u, u', h, h', e, ρ, fr, cs, w, hr, F, um, dr => by
    unfold runDefers at e
    split at e
    · rename_i v u1 h1 hcall
      cases hx : fr.defers with
      | nil => rw [hx] at dr; exact dr.elim
      | cons d' ds' =>
        rw [hx] at dr
        obtain ⟨⟨cap', hdt, hda⟩, drs⟩ := dr
        have le := runDefers_mono hm ds e
        obtain ⟨ρ1, cs1, w1, f1, fn, v', st, um1, ct, steps, hfn, hkd, hdf, hP, hb, hres⟩ := hc _ _ _ _ _ _ _ hcall ρ (d'.args ++ cap') .deferred ({ fr with defers := ds' } :: cs) w hda hr (F.mono le) (UMode.um (c := { fr with defers := ds' }) um)
        obtain ⟨m1, m2, m3⟩ := hres
        have hinv : (invoke d'.target d'.args).run P w = .ok (.enter f (d'.args ++ cap')) w := by
          rw [hdt]; exact callFunc_enter hng hP hb
        have s1 := step_defer (cs := cs) um.not_run hx hdt hinv
        -- who called is there, but for the mode
        have hcs : ∃ m, cs1 = { fr with defers := ds', mode := m } :: cs := by
          rcases ct with rfl | ⟨_, c, rest, m, e1, rfl⟩
          · exact ⟨fr.mode, rfl⟩
          · injection e1 with e1 e2; subst e1; subst e2; exact ⟨m, rfl⟩
        obtain ⟨m, rfl⟩ := hcs
        have um1' := UMode.of_um um1
        have s2 := step_going_returned (P := P) (fr := f1) (c := { fr with defers := ds', mode := m }) (cs := cs) (w := w1) (v := v') hkd ⟨m1, hdf, fn, by rw [hfn]; exact hP, m2⟩
        obtain ⟨ρ', w', m', g1, g2, g3⟩ := runDefers_ok hng hm hc ds e (fr := { fr with defers := ds', mode := settle m }) (cs := cs) st.rel (F.step st.ext) um1'.settle (drs.mono st.ext.mono)
        exact ⟨ρ', w', m', st.trans (F.mono le) g1, g2, .head s1 (steps.trans (.head s2 g3))⟩
    · cases e
end
end Go.Ab

namespace Go.Ab
section
variable {P : Program}

/-- What a call comes to. -/
def CallRes (P : Program) (ρ' : Ren) (fn : Func) (fr : Frame) (w' : World) (v' : Value) : Res → Prop
  | .ret v => fr.mode = .returning ∧ (results fn fr.tmps).run P w' = .ok v' w' ∧ VRel ρ' v v'
  | .panic v => fr.mode = .panicking [⟨v', false, false⟩] ∧ VRel ρ' v v'

theorem leave_ok (hng : NoNG P) {r : Rec} (hm : RecMono r) (hc : CallOk P r.call) {fn : Func} {u um' : UM} {s : S} {res : Res} {h' : H} (e : leave P r fn u s = some (res, um', h')) {ρ : Ren} {nt : Nat} {kd : CallKind} {fr : Frame} {cs : List Frame} {w : World}
    (f : FRel ρ nt s.tm fr.tmps) (hr : HRel P ρ s.h w) (F : Free ρ s.h h') (um : UMode ρ u fr.mode) (dr : DRels ρ s.dfs fr.defers) (uc : UMRel ρ s.um kd cs) :
    ∃ ρ' w' fr' v', Stp P ρ ρ' s.h h' w w' ∧ UMRel ρ' um' kd cs ∧ Steps P (lone fr cs w) (lone fr' cs w') ∧ fr'.fn = fr.fn ∧ fr'.kind = fr.kind ∧ fr'.defers = [] ∧ CallRes P ρ' fn fr' w' v' res := by
  unfold leave at e
  split at e
  · rename_i v h1 hrd
    injection e with e; injection e with e1 e; injection e with e2 e3; subst e1; subst e2; subst e3
    obtain ⟨ρ', w', m', g1, g2, g3⟩ := runDefers_ok hng hm hc _ hrd (cs := cs) hr F um dr
    cases g2 with | panicking _ v' _ hv =>
    exact ⟨ρ', w', _, v', g1, uc.mono g1.ext.mono, g3, rfl, rfl, rfl, rfl, hv⟩
  · rename_i h1 hrd
    split at e
    · rename_i vs hvs
      injection e with e; injection e with e1 e; injection e with e2 e3; subst e1; subst e2; subst e3
      obtain ⟨ρ', w', m', g1, g2, g3⟩ := runDefers_ok hng hm hc _ hrd (cs := cs) hr F um dr
      cases g2
      obtain ⟨v', q1, q2⟩ := results_ok (f.mono g1.ext.mono) g1.rel hvs
      exact ⟨ρ', w', _, v', g1, uc.mono g1.ext.mono, g3, rfl, rfl, rfl, rfl, q1, q2⟩
    · cases e
  · cases e

theorem leave_mono {r : Rec} (hm : RecMono r) {fn : Func} {u um' : UM} {s : S} {res : Res} {h' : H} (e : leave P r fn u s = some (res, um', h')) : s.h.next ≤ h'.next := by
  unfold leave at e
  split at e
  · rename_i v h1 hrd
    injection e with e; injection e with e1 e; injection e with e2 e3; subst e3
    exact runDefers_mono hm _ hrd
  · rename_i h1 hrd
    split at e
    · injection e with e; injection e with e1 e; injection e with e2 e3; subst e3
      exact runDefers_mono hm _ hrd
    · cases e
  · cases e

theorem body_ok (hng : NoNG P) {r : Rec} (hm : RecMono r) (hco : CodeOk P r.code) (hc : CallOk P r.call) {f : FuncId} {fn : Func} {body : Code} (hf : P.funcs[f]? = some fn) (hb : fn.body = some body) {args : List AV} {um um' : UM} {h h' : H} {res : Res}
    (e : stepBody P r fn body args um h = some (res, um', h')) {ρ : Ren} {args' : Array Value} {kd : CallKind} {cs : List Frame} {w : World} (ha : VRels ρ args args'.toList) (hr : HRel P ρ h w) (F : Free ρ h h') (hu : UMRel ρ um kd cs) :
    ∃ ρ' cs' w' fr v', Stp P ρ ρ' h h' w w' ∧ UMRel ρ' um' kd cs' ∧ CsTo kd cs cs' ∧ Steps P (lone (Frame.enter P f args' kd) cs w) (lone fr cs' w') ∧ fr.fn = f ∧ fr.kind = kd ∧ fr.defers = [] ∧ CallRes P ρ' fn fr w' v' res := by
  let b : Frame := { (default : Frame) with fn := f, kind := kd }
  have hbr : b.roundOf = none := rfl
  let a0 : Act := { tmps := args' ++ Array.replicate (fn.ntmps - args'.size) undef, defers := [] }
  have henter : Frame.enter P f args' kd = b.atR a0 [.code body] := by
    simp [Frame.enter, Frame.atR, hf, hb, b, a0]
    rfl
  rw [henter]
  unfold stepBody at e
  have A : At P ρ fn.ntmps none b ⟨writeN .nil 0 args, h, um, []⟩ a0 cs w := ⟨enter_frel ha, hr, trivial, hu, trivial⟩
  -- on from the end of the body
  have fin : ∀ {s : S} {u : UM} {ρ1 : Ren} {a1 : Act} {cs1 : List Frame} {w1 : World} {fr1 : Frame}, leave P r fn u s = some (res, um', h') → Stp P ρ ρ1 h s.h w w1 → At P ρ1 fn.ntmps none b s a1 cs1 w1 → CsTo b.kind cs cs1 →
      Steps P (lone (b.atR a0 [.code body]) cs w) (lone fr1 cs1 w1) → fr1.tmps = a1.tmps → fr1.defers = a1.defers → fr1.fn = f → fr1.kind = kd → UMode ρ1 u fr1.mode →
      ∃ ρ' cs' w' fr v', Stp P ρ ρ' h h' w w' ∧ UMRel ρ' um' kd cs' ∧ CsTo kd cs cs' ∧ Steps P (lone (b.atR a0 [.code body]) cs w) (lone fr cs' w') ∧ fr.fn = f ∧ fr.kind = kd ∧ fr.defers = [] ∧ CallRes P ρ' fn fr w' v' res := by
    intro s u ρ1 a1 cs1 w1 fr1 hl st A1 ct steps t1 t2 t3 t4 hum
    have le := leave_mono hm hl
    have F1 : Free ρ h s.h := F.mono le
    obtain ⟨ρ', w', fr', v', g1, g2, g3, g4, g5, g6, g7⟩ := leave_ok hng hm hc hl (kd := kd) (fr := fr1) (cs := cs1) (by rw [t1]; exact A1.fr) A1.hr (F.step st.ext) hum (by rw [t2]; exact A1.ds) A1.um
    exact ⟨ρ', cs1, w', fr', v', st.trans F1 g1, g2, ct, steps.trans g3, g4.trans t3, g5.trans t4, g6, g7⟩
  split at e
  · cases e
  · rename_i s hs
    obtain ⟨ρ1, a1, cs1, w1, g1, g2, g3, g4⟩ := hco _ _ _ _ _ _ hs ρ b a0 [] cs w A (F.mono (leave_mono hm e))
    exact fin e g1 g2 g3 (Steps.trans g4 (.one (stepR_end hbr))) rfl rfl rfl rfl .returning
  · rename_i s hs
    obtain ⟨ρ1, a1, cs1, w1, g1, g2, g3, k1, g4⟩ := hco _ _ _ _ _ _ hs ρ b a0 [] cs w A (F.mono (leave_mono hm e))
    exact fin e g1 g2 g3 (Steps.trans g4 (.one (stepR_ret hbr))) rfl rfl rfl rfl .returning
  · rename_i v s hs
    obtain ⟨ρ1, a1, cs1, w1, g1, g2, g3, k1, v', _, hv, g4⟩ := hco _ _ _ _ _ _ hs ρ b a0 [] cs w A (F.mono (leave_mono hm e))
    exact fin e g1 g2 g3 g4 rfl rfl rfl rfl (.panicking v v' false hv)
  · cases e
end
end Go.Ab

namespace Go.Ab
section
variable {P : Program}

/-- Summaries that are shown. -/
def SumsOk (P : Program) (sm : Sums) : Prop := CallOk P fun f args um h => match sm f with
  | some g => match g args h with
    | some (v, h) => some (.ret v, um, h)
    | none => none
  | none => none

theorem chkCall_some {h : H} {x : Option (Res × UM × H)} {y : Res × UM × H} (e : chkCall h x = some y) : x = some y ∧ h.next ≤ y.2.2.next := by
  unfold chkCall at e
  split at e
  · split at e
    · rename_i hle; injection e with e; subst e; exact ⟨rfl, Nat.le_of_ble_eq_true hle⟩
    · cases e
  · cases e
theorem chkCode_some {s : S} {x : Option (Ex × S)} {y : Ex × S} (e : chkCode s x = some y) : x = some y ∧ s.h.next ≤ y.2.h.next := by
  unfold chkCode at e
  split at e
  · split at e
    · rename_i hle; injection e with e; subst e; exact ⟨rfl, Nat.le_of_ble_eq_true hle⟩
    · cases e
  · cases e
theorem chkRound_some {h : H} {x : Option (Res × H)} {y : Res × H} (e : chkRound h x = some y) : x = some y ∧ h.next ≤ y.2.next := by
  unfold chkRound at e
  split at e
  · split at e
    · rename_i hle; injection e with e; subst e; exact ⟨rfl, Nat.le_of_ble_eq_true hle⟩
    · cases e
  · cases e
theorem recS_mono (sm : Sums) (r : Rec) : RecMono (recS P sm r) :=
  ⟨fun _ _ _ _ _ _ e => (chkCode_some e).2, fun _ _ _ _ _ _ _ e => (chkCall_some e).2, fun _ _ _ _ _ e => (chkRound_some e).2⟩

theorem call_ok (hng : NoNG P) {sm : Sums} (hs : SumsOk P sm) {r : Rec} (hm : RecMono r) (hco : CodeOk P r.code) (hc : CallOk P r.call) : CallOk P (recS P sm r).call := by
  intro f args um h res um' h' e ρ args' kd cs w ha hr F hu
  have e := (chkCall_some e).1
  unfold stepCall at e
  split at e
  · rename_i g hg
    exact hs f args um h res um' h' (by simp only [hg]; exact e) ρ args' kd cs w ha hr F hu
  · split at e
    · cases e
    · rename_i fn hf
      split at e
      · cases e
      · rename_i body hb
        obtain ⟨ρ', cs', w', fr, v', g1, g2, g3, g4, g5, g6, g7, g8⟩ := body_ok hng hm hco hc hf hb e (kd := kd) (cs := cs) ha hr F hu
        exact ⟨ρ', cs', w', fr, fn, v', g1, g2, g3, g4, g5, g6, g7, hf, by rw [hb]; rfl, by cases res <;> exact g8⟩
end
end Go.Ab

namespace Go.Ab
section
variable {P : Program}

def DrawOk (P : Program) (r : Rec) : Prop := ∀ nt ro id ops s e s', evRegion P r nt ro ops true s = some (e, s') → ∀ ρ b a k cs w, At P ρ nt ro b s a cs w → Free ρ s.h s'.h →
  Goes P nt ro b (lone (b.atR a (.code (.region id ops true) :: k)) cs w) k e ρ s.h cs w s'
def RangeOk (P : Program) (r : Rec) : Prop := ∀ nt ro f ps asg bd s e s', cRange P r nt ro f (ps : Array Tmp).toList asg bd s = some (e, s') → ∀ ρ b a k cs w, At P ρ nt ro b s a cs w → Free ρ s.h s'.h →
  Goes P nt ro b (lone (b.atR a (.code (.rangeFunc f ps asg bd) :: k)) cs w) k e ρ s.h cs w s'

theorem code_ok (hng : NoNG P) {sm : Sums} {r : Rec} (hm : RecMono r) (hco : CodeOk P r.code) (hc : CallOk P r.call) (hrd : RoundOk P r.round) (hd : DrawOk P r) (hra : RangeOk P r) : CodeOk P (recS P sm r).code := by
  intro nt ro c s e s' h ρ b a k cs w A F
  replace h := (chkCode_some h).1
  change stepCode P r nt ro c s = _ at h
  unfold stepCode at h
  split at h
  · injection h with h; injection h with h1 h2; subst h1; subst h2; exact skip_ok A
  · injection h with h; injection h with h1 h2; subst h1; subst h2; exact label_ok A
  · exact seq_ok hm hco h A F
  · exact cond_ok hco h A F
  · exact block_ok hco h A F
  · exact loop_ok hm hco h A F
  · exact scope_ok hco h A F
  · injection h with h; injection h with h1 h2; subst h1; subst h2; exact exit_ok A
  · injection h with h; injection h with h1 h2; subst h1; subst h2; exact ret_ok A
  · rename_i hh id ops draw
    cases draw
    · exact region_ok hng hm hc hrd h A F
    · exact hd _ _ _ _ _ _ _ h _ _ _ _ _ _ A F
  · exact hra _ _ _ _ _ _ _ _ _ h _ _ _ _ _ _ A F
  · cases h
end
end Go.Ab

namespace Go.Ab
section
variable {P : Program}

theorem HRel.loop {ρ : Ren} {h : H} {w : World} (r : HRel P ρ h w) {l c : Nat} {st : LoopState} {pe : Option Code} {nt : Nat} {tm : PT AV} {ps : List Tmp} {asg bd : Code} {d : Nat} (hl : h.get l = some (.loop st pe nt tm ps asg bd d)) (hc : ρ l = some c) :
    ∃ fn tmps ps' d', w.heap[c]? = some (.loop ⟨st, pe, fn, tmps, ps', asg, bd, d'⟩) ∧ FRel ρ nt tm tmps ∧ (ps' : Array Tmp).toList = ps ∧ ρ d = some d' := by
  obtain ⟨ob, h1, h2⟩ := r.obj l _ c hl (by simp) hc
  cases h2 with
  | loop _ _ _ _ _ _ _ _ fn tmps ps' d' g1 g2 g3 => exact ⟨fn, tmps, ps', d', h1, g1, g2, g3⟩

theorem getLoop_run {w : World} {l : Nat} {x : Loop} (h : w.heap[l]? = some (.loop x)) : (Instr.getLoop l).run P w = .ok x w := by
  unfold Instr.getLoop
  simp only [Sem.run_bind, getObj_run h (by simp), Result.andThen_ok]
  rfl

theorem setAll_frel {ρ : Ren} {nt : Nat} : ∀ {ps : List Tmp} {vs : List AV} {vs' : List Value} {tm tm' : PT AV} {tmps : Array Value}, FRel ρ nt tm tmps → VRels ρ vs vs' → setAll nt tm ps vs = some tm' →
    ps.length = vs.length ∧ FRel ρ nt tm' ((ps.zip vs').foldl (fun tmps x => tmps.setIfInBounds x.1 x.2) tmps)
  | [], [], _, tm, tm', tmps, f, .nil, h => by simp [setAll] at h; subst h; exact ⟨rfl, f⟩
  | t :: ps, v :: vs, _, tm, tm', tmps, f, .cons _ v' _ vs' hv hs, h => by
    unfold setAll at h
    split at h
    · rename_i hlt
      have hlt := lt_of_blt hlt
      obtain ⟨e1, e2⟩ := setAll_frel (f.set hlt hv) hs h
      exact ⟨by simp [e1], e2⟩
    · cases h
  | [], _ :: _, _, _, _, _, _, _, h => by simp [setAll] at h
  | _ :: _, [], _, _, _, _, _, _, h => by simp [setAll] at h

theorem step_round_panicked {fr c : Frame} {cs : List Frame} {w : World} {chain : List PanicEntry} {k : List Item} (hm : fr.mode = .panicking chain) (hd : fr.defers = []) (hk : fr.todo = k) (hn : NoCall k) :
    step P (lone fr (c :: cs) w) = .next (lone (c.raise chain) cs w) := by
  have hcat : fr.catches P = false := by
    unfold Frame.catches
    split
    · rename_i d x y z k2 _ ht
      exact absurd (hk ▸ ht) (hn d x y z k2)
    · rfl
  exact step_lone_go (by simp [stepG, unwind, hm, hd, hcat])

theorem raise_run {c : Frame} (h : c.mode = .run) (ch : List PanicEntry) : c.raise ch = { c with mode := .panicking ch } := by
  unfold Frame.raise
  simp [h]

theorem round_ok {r : Rec} (hm : RecMono r) (hco : CodeOk P r.code) {sm : Sums} : RoundOk P (recS P sm r).round := by
  intro l args h res h' e ρ lc args' w hl hargs hr F
  replace e := (chkRound_some e).1
  unfold stepRound at e
  split at e
  · rename_i st pe nt tm ps asg bd df hget
    obtain ⟨fn, tmps, ps', d', q1, q2, q3, q4⟩ := hr.loop hget hl
    subst q3
    split at e
    · cases e
    · rename_i tm1 hset
      obtain ⟨hlen, hfr⟩ := setAll_frel q2 hargs hset
      have hsz : args'.size = ps'.size := by have := hargs.length; simp at this; simp at hlen; omega
      have hyield : (Instr.yield lc args').run P w = .ok (.round lc fn ((ps'.zip args').foldl (fun tmps (x : Tmp × Value) => tmps.setIfInBounds x.1 x.2) tmps) asg bd) w := by
        unfold Instr.yield
        simp only [Sem.run_bind, getLoop_run q1, Result.andThen_ok]
        rw [if_neg (by simp [hsz])]
        rfl
      refine ⟨_, _, _, _, hyield, fun c cs hcm => ?_⟩
      have hfold : (ps'.zip args').foldl (fun tmps (x : Tmp × Value) => tmps.setIfInBounds x.1 x.2) tmps = (ps'.toList.zip args'.toList).foldl (fun tmps x => tmps.setIfInBounds x.1 x.2) tmps := by
        rw [← Array.toList_zip, ← Array.foldl_toList]
      rw [hfold]
      generalize (ps'.toList.zip args'.toList).foldl (fun tmps x => tmps.setIfInBounds x.1 x.2) tmps = tmps1 at hfr
      let b : Frame := { (default : Frame) with fn := fn, kind := .normal, roundOf := some lc }
      let a0 : Act := { tmps := tmps1, defers := [] }
      have hb0 : Frame.round lc fn tmps1 asg bd .normal = b.atR a0 [.code asg, .beginRound, .code bd] := by
        simp [Frame.round, Frame.atR, b, a0]
      rw [hb0]
      have A : At P ρ nt (some l) b ⟨tm1, h, .plain, []⟩ a0 (c :: cs) w := ⟨hfr, hr, trivial, .plain _, hl⟩
      split at e
      · rename_i s1 hs1
        split at e
        · rename_i pe1 n2 tm2 ps2 asg2 bd2 df2 hget1
          split at e
          · rename_i ex s2 hs2
            have le1 := hm.code _ _ _ _ _ _ hs1
            have le2 := hm.code _ _ _ _ _ _ hs2
            simp only [H.put_next] at le2
            -- where it ends
            have hh : (∃ o, h' = s2.h.put l o) ∨ h' = s2.h := by
              unfold endRound at e
              split at e
              · repeat' split at e
                all_goals first
                  | (injection e with e; injection e with _ e; subst e; first | exact .inl ⟨_, rfl⟩ | exact .inr rfl)
                  | cases e
              · cases e
            have hh' : h'.next = s2.h.next := by
              rcases hh with ⟨o, rfl⟩ | rfl
              · exact H.put_next ..
              · rfl
            obtain ⟨ρ1, a1, cs1, w1, g1, A1, g3, g4⟩ := hco _ _ _ _ _ _ hs1 ρ b a0 [.beginRound, .code bd] (c :: cs) w A (F.mono (by simp only at le1 ⊢; omega))
            have := g3.normal; subst this
            have hl1 : ρ1 l = some lc := A1.ro
            obtain ⟨fn1, tmps1', ps1', d1', r1, r2, r3, r4⟩ := A1.hr.loop hget1 hl1
            have F1 : Free ρ1 s1.h h' := (Free.mono F (by omega) : Free ρ h h').step g1.ext
            have st1 := Stp.obj A1.hr hget1 (by simp) hl1 (ao' := .loop .busy pe1 n2 tm2 ps2 asg2 bd2 df2) (ob' := .loop ⟨.busy, pe1, fn1, tmps1', ps1', asg2, bd2, d1'⟩) (ORel.loop _ _ _ _ _ _ _ _ _ _ _ _ r2 r3 r4)
            have hbr : (Instr.beginRound lc).run P w1 = .ok () { w1 with heap := w1.heap.setIfInBounds lc (.loop ⟨.busy, pe1, fn1, tmps1', ps1', asg2, bd2, d1'⟩) } := by
              unfold Instr.beginRound
              simp only [Sem.run_bind, getLoop_run r1, Result.andThen_ok, setObj_run r1 (by simp)]
              rfl
            have s_begin := stepR_beginRound (P := P) (b := b) (a := a1) (k := [.code bd]) (cs := c :: cs) (l := lc) rfl hbr
            generalize { w1 with heap := w1.heap.setIfInBounds lc (.loop ⟨.busy, pe1, fn1, tmps1', ps1', asg2, bd2, d1'⟩) } = w1' at st1 s_begin
            have A1' : At P ρ1 nt (some l) b { s1 with h := s1.h.put l (.loop .busy pe1 n2 tm2 ps2 asg2 bd2 df2) } a1 (c :: cs) w1' := ⟨A1.fr, st1.rel, A1.ds, A1.um, A1.ro⟩
            have F2 : Free ρ1 (s1.h.put l (.loop .busy pe1 n2 tm2 ps2 asg2 bd2 df2)) h' := F1.step st1.ext
            obtain ⟨ρ2, a2, cs2, w2, k1, A2, k3, k4⟩ := hco _ _ _ _ _ _ hs2 ρ1 b a1 [] (c :: cs) w1' A1' (F2.mono (by omega))
            have := k3.normal; subst this
            have hl2 : ρ2 l = some lc := A2.ro
            have pre : Steps P (lone (b.atR a0 [.code asg, .beginRound, .code bd]) (c :: cs) w) (lone (b.atR a1 [.code bd]) (c :: cs) w1') := Steps.trans g4 (.one s_begin)
            have F12 : Free ρ1 s1.h (s1.h.put l (.loop .busy pe1 n2 tm2 ps2 asg2 bd2 df2)) := fun n a b => by rw [H.put_next] at b; omega
            have S12 : Stp P ρ ρ2 h s2.h w w2 := by
              have t1 := st1.trans F12 k1
              exact g1.trans (F.mono (by simp only at le1 ⊢; omega)) t1
            unfold endRound at e
            split at e
            · rename_i lst lpe n3 tm3 ps3 asg3 bd3 df3 hget2
              obtain ⟨fn2, tmps2', ps2', d2', u1, u2, u3, u4⟩ := A2.hr.loop hget2 hl2
              have fin : ∀ (st' : LoopState) (pe' : Option Code) (x : Bool), (Instr.endRound lc pe').run P w2 = .ok (.bool x) { w2 with heap := w2.heap.setIfInBounds lc (.loop ⟨st', pe', fn2, tmps2', ps2', asg3, bd3, d2'⟩) } →
                  h' = s2.h.put l (.loop st' pe' n3 tm3 ps3 asg3 bd3 df3) → (∀ w3, (Instr.endRound lc pe').run P w2 = .ok (.bool x) w3 → Steps P (lone (b.atR a1 [.code bd]) (c :: cs) w1') (lone (c.finish (.bool x)) cs w3)) →
                  ∃ ρ' w' v', Stp P ρ ρ' h h' w w' ∧ VRel ρ' (.bool x) v' ∧ Steps P (lone (b.atR a0 [.code asg, .beginRound, .code bd]) (c :: cs) w) (lone (c.finish v') cs w') := by
                intro st' pe' x hrun hhe hsteps
                have st2 := Stp.obj A2.hr hget2 (by simp) hl2 (ao' := .loop st' pe' n3 tm3 ps3 asg3 bd3 df3) (ob' := .loop ⟨st', pe', fn2, tmps2', ps2', asg3, bd3, d2'⟩) (ORel.loop _ _ _ _ _ _ _ _ _ _ _ _ u2 u3 u4)
                subst hhe
                exact ⟨ρ2, _, .bool x, S12.trans (F.mono (by omega)) st2, .bool x, pre.trans (hsteps _ hrun)⟩
              repeat' split at e
              · injection e with e; injection e with e1 e2; subst e1; subst e2
                refine fin .ready none true ?_ rfl (fun w3 hw3 => Steps.trans k4 (.one (stepR_round_end rfl rfl hw3)))
                unfold Instr.endRound
                simp only [Sem.run_bind, getLoop_run u1, Result.andThen_ok, setObj_run u1 (by simp)]
                rfl
              · injection e with e; injection e with e1 e2; subst e1; subst e2
                obtain ⟨kk, hkk⟩ := k4
                refine fin .done (some .ret) false ?_ rfl (fun w3 hw3 => Steps.trans hkk (.one (stepR_round_ret rfl rfl hw3)))
                unfold Instr.endRound
                simp only [Sem.run_bind, getLoop_run u1, Result.andThen_ok, setObj_run u1 (by simp)]
                rfl
              · rename_i id
                injection e with e; injection e with e1 e2; subst e1; subst e2
                obtain ⟨kk, hkk, hx⟩ := k4
                refine fin .done (some (.exit id)) false ?_ rfl (fun w3 hw3 => Steps.trans hkk (.one (stepR_round_exit rfl rfl (by rw [hx]; rfl) hw3)))
                unfold Instr.endRound
                simp only [Sem.run_bind, getLoop_run u1, Result.andThen_ok, setObj_run u1 (by simp)]
                rfl
              · rename_i v hdfs
                injection e with e; injection e with e1 e2; subst e1; subst e2
                obtain ⟨kk, v', hn, hv, hkk⟩ := k4
                refine ⟨ρ2, w2, v', S12, hv, pre.trans (hkk.trans (.one ?_))⟩
                have hds : a2.defers = [] := by
                  have hpl := A2.ds
                  rw [hdfs] at hpl
                  cases hx : a2.defers with
                  | nil => rfl
                  | cons _ _ => rw [hx] at hpl; exact hpl.elim
                rw [← raise_run hcm]
                exact step_round_panicked rfl hds rfl hn
              · cases e
            · cases e
          · cases e
        · cases e
      · cases e
  · cases e
end
end Go.Ab

namespace Go.Ab
section
variable {P : Program}

theorem endRange_step {b : Frame} {a : Act} {k : List Item} {cs : List Frame} {w w' : World} {l : Nat} {jump : Option Code} (h : (Instr.endLoop l).run P w = .ok jump w') :
    step P (lone (b.atR a (.endRangeFunc l :: k)) cs w) = .next (lone (b.atR a ((jump.map Item.code).toList ++ k)) cs w') :=
  step_lone_go (by simp [stepG, stepG.exec, Frame.atR, Sem.runT_eq, h, GStep.bare_after])
theorem range_step {b : Frame} {a : Act} {k : List Item} {cs : List Frame} {w w1 w2 : World} {g : Operand} {ps : Array Tmp} {asg bd : Code} {l : Nat} {mark : List Deferred} {f : FuncId} {args : Array Value}
    (he : (Instr.enterLoop b.fn a.tmps ps asg bd b.roundOf).run P w = .ok (l, mark) w1)
    (hinv : (do let d ← Deferred.ofValue (a.eval g) #[.func (.yield l) #[] #[]]; invoke d.target d.args : Sem Next).run P w1 = .ok (.enter f args) w2) :
    step P (lone (b.atR a (.code (.rangeFunc g ps asg bd) :: k)) cs w) =
      .next (lone (Frame.enter P f args .normal) (b.atR { a with defers := mark ++ a.defers } (.inRangeFunc l :: k) :: cs) w2) := by
  rw [Sem.run_bind] at hinv
  cases hd : (Deferred.ofValue (a.eval g) #[.func (.yield l) #[] #[]]).run P w1 with
  | halt x w' => rw [hd] at hinv; cases hinv
  | ok d w1' =>
  rw [hd] at hinv
  have hinv : (invoke d.target d.args).run P w1' = .ok (.enter f args) w2 := hinv
  have hres : (resolve a.eval { callee := .value g, args := #[.const (.func (.yield l) #[] #[])], argTypes := #[] } 0).run P w1 = .ok d w1' := by
    rw [← hd]
    unfold resolve
    simp [Act.eval]
  refine step_lone_go ?_
  have hev := Frame.eval_atR b { a with defers := mark ++ a.defers } (.inRangeFunc l :: k)
  simp only [Frame.atR] at hev
  have hres' : Sem.run P (resolve ({ tmps := a.tmps, defers := mark ++ a.defers } : Act).eval { callee := .value g, args := #[.const (.func (.yield l) #[] #[])], argTypes := #[] } 0) w1 = .ok d w1' := hres
  simp [stepG, stepG.exec, Frame.atR, Sem.runT_eq, he, GStep.bare_after, stepG.apply, hev, Sem.run_bind, hres', hinv, Result.andThen]

theorem finish_inRange {b : Frame} {a : Act} {k : List Item} (l : Nat) (v : Value) : (b.atR a (.inRangeFunc l :: k)).finish v = b.atR a (.endRangeFunc l :: k) := by
  simp [Frame.finish, Frame.atR]

theorem range2_ok (hng : NoNG P) {r : Rec} (hm : RecMono r) (hco : CodeOk P r.code) (hc : CallOk P r.call) {nt : Nat} {ro : Option Nat} {l : Nat} {g : Operand} {s s0 s' : S} {e : Ex} (h : cRange2 P r nt ro l (eo P s.tm g) s = some (e, s'))
    {ρ0 ρ : Ren} {b : Frame} {a0 a : Act} {mark : List Deferred} {k : List Item} {cs : List Frame} {w0 w : World} {ps : Array Tmp} {asg bd : Code} {lc : Nat} (hl : ρ l = some lc)
    (st0 : Stp P ρ0 ρ s0.h s.h w0 w) (ha : a = { a0 with defers := mark ++ a0.defers }) (henter : (Instr.enterLoop b.fn a0.tmps ps asg bd b.roundOf).run P w0 = .ok (lc, mark) w)
    (A : At P ρ nt ro b s a cs w) (F0 : Free ρ0 s0.h s'.h) : s.h.next ≤ s'.h.next → Goes P nt ro b (lone (b.atR a0 (.code (.rangeFunc g ps asg bd) :: k)) cs w0) k e ρ0 s0.h cs w0 s' := by
  intro hle0
  have F : Free ρ s.h s'.h := F0.step st0.ext
  have Fs : Free ρ0 s0.h s.h := F0.mono hle0
  unfold cRange2 at h
  split at h
  · cases h
  · rename_i gv hgv
    split at h
    · rename_i f args h1 hcv
      -- the call
      have hev : VRel ρ gv (a.eval g) := A.fr.ops (a := a) A.hr.glob [g] g (by simp) _ hgv
      have hev0 : a.eval g = a0.eval g := by rw [ha]; cases g <;> rfl
      rw [hev0] at hev
      have hyl : VRels ρ [.yld l] (#[Value.func (.yield lc) #[] #[]] : Array Value).toList := .cons _ _ _ _ (.yld l lc hl) .nil
      split at h
      · -- it came back
        rename_i v um2 h2 hcall
        have le2 := hm.call _ _ _ _ _ _ _ hcall
        -- how much is used till then
        have leS : h2.next ≤ s'.h.next := by
          split at h
          · injection h with h; injection h with _ h; subst h; simp [H.put_next]
          · have := hm.code _ _ _ _ _ _ h; simpa [H.put_next] using this
          · cases h
        have le1 : s.h.next ≤ h1.next ∨ h1.next < s.h.next := Nat.lt_or_ge _ _ |>.symm
        have came := run_callV hng (r := .call f args) A.hr (F.mono (by omega)) hcv hev hyl
        obtain ⟨args', w1, ρ1, hrun, hargs, st1⟩ := came
        have en := range_step (cs := cs) (k := k) henter hrun
        rw [← ha] at en
        have F1 : Free ρ s.h h1 := F.mono (by omega)
        have F2 : Free ρ1 h1 h2 := (F.mono leS).step st1.ext
        obtain ⟨ρ2, cs2, w2, fr, fn, v', st2, um2', ct, steps, hfn, hkd, hdf, hP, _, hres⟩ := hc _ _ _ _ _ _ _ hcall ρ1 args' .normal (b.atR a (.inRangeFunc lc :: k) :: cs) w1 hargs st1.rel F2 (.plain _)
        have := ct.normal; subst this
        obtain ⟨m1, m2, m3⟩ := hres
        have lv : fr.leaving P w2 (.returned v') := ⟨m1, hdf, hkd, fn, by rw [hfn]; exact hP, m2⟩
        have back := step_leave_returned (cs := cs) (c := b.atR a (.inRangeFunc lc :: k)) lv
        rw [finish_inRange] at back
        have S02 : Stp P ρ0 ρ2 s0.h h2 w0 w2 := st0.trans Fs (st1.trans F1 st2)
        have pre : Steps P (lone (b.atR a0 (.code (.rangeFunc g ps asg bd) :: k)) cs w0) (lone (b.atR a (.endRangeFunc lc :: k)) cs w2) := .head en (steps.trans (.one back))
        have le2' : ρ.le ρ2 := st1.ext.mono.trans st2.ext.mono
        have hl2 : ρ2 l = some lc := (le2' _ _ hl).1
        split at h
        · rename_i n2 tm ps2 asg2 bd2 df hget
          injection h with h; injection h with e1 e2; subst e1; subst e2
          obtain ⟨fn2, tmps2', ps2', d2', u1, u2, u3, u4⟩ := st2.rel.loop hget hl2
          have st3 := Stp.obj st2.rel hget (by simp) hl2 (ao' := .loop .exhausted none n2 tm ps2 asg2 bd2 df) (ob' := .loop ⟨.exhausted, none, fn2, tmps2', ps2', asg2, bd2, d2'⟩) (ORel.loop _ _ _ _ _ _ _ _ _ _ _ _ u2 u3 u4)
          have hend : (Instr.endLoop lc).run P w2 = .ok none { w2 with heap := w2.heap.setIfInBounds lc (.loop ⟨.exhausted, none, fn2, tmps2', ps2', asg2, bd2, d2'⟩) } := by
            unfold Instr.endLoop
            simp only [Sem.run_bind, getLoop_run u1, Result.andThen_ok]
            have : ((LoopState.ready == LoopState.busy) = false) := rfl
            simp only [this, Bool.false_eq_true, if_false, Sem.run_bind, Sem.run_pure, Result.andThen_ok, setObj_run u1 (by simp)]
          refine ⟨ρ2, a, cs, _, S02.trans (F0.mono leS) st3, ⟨A.fr.mono le2', st3.rel, A.ds.mono le2', A.um.mono le2', A.ro.mono le2'⟩, CsTo.refl _ _, ?_⟩
          exact Steps.trans pre (.one (endRange_step hend))
        · rename_i j n2 tm ps2 asg2 bd2 df hget
          obtain ⟨fn2, tmps2', ps2', d2', u1, u2, u3, u4⟩ := st2.rel.loop hget hl2
          have st3 := Stp.obj st2.rel hget (by simp) hl2 (ao' := .loop .exhausted (some j) n2 tm ps2 asg2 bd2 df) (ob' := .loop ⟨.exhausted, some j, fn2, tmps2', ps2', asg2, bd2, d2'⟩) (ORel.loop _ _ _ _ _ _ _ _ _ _ _ _ u2 u3 u4)
          have hend : (Instr.endLoop lc).run P w2 = .ok (some j) { w2 with heap := w2.heap.setIfInBounds lc (.loop ⟨.exhausted, some j, fn2, tmps2', ps2', asg2, bd2, d2'⟩) } := by
            unfold Instr.endLoop
            simp only [Sem.run_bind, getLoop_run u1, Result.andThen_ok]
            have : ((LoopState.done == LoopState.busy) = false) := rfl
            simp only [this, Bool.false_eq_true, if_false, Sem.run_bind, Sem.run_pure, Result.andThen_ok, setObj_run u1 (by simp)]
          have S03 := S02.trans (F0.mono leS) st3
          have A3 : At P ρ2 nt ro b { s with h := h2.put l (.loop .exhausted (some j) n2 tm ps2 asg2 bd2 df) } a cs { w2 with heap := w2.heap.setIfInBounds lc (.loop ⟨.exhausted, some j, fn2, tmps2', ps2', asg2, bd2, d2'⟩) } :=
            ⟨A.fr.mono le2', st3.rel, A.ds.mono le2', A.um.mono le2', A.ro.mono le2'⟩
          exact Goes.of (pre.trans (.one (endRange_step hend))) (F0.mono (by rw [H.put_next]; exact leS)) S03 (CsTo.refl _ _) (hco _ _ _ _ _ _ h ρ2 b a k cs _ A3 (F0.step S03.ext))
        · cases h
      · -- it panicked
        rename_i v um2 h2 hcall
        injection h with h; injection h with e1 e2; subst e1; subst e2
        have le2 := hm.call _ _ _ _ _ _ _ hcall
        simp only at F F0
        have came := run_callV hng (r := .call f args) A.hr (F.mono le2) hcv hev hyl
        obtain ⟨args', w1, ρ1, hrun, hargs, st1⟩ := came
        have en := range_step (cs := cs) (k := k) henter hrun
        rw [← ha] at en
        obtain ⟨ρ2, cs2, w2, fr, fn, v', st2, um2', ct, steps, hfn, hkd, hdf, hP, _, hres⟩ := hc _ _ _ _ _ _ _ hcall ρ1 args' .normal (b.atR a (.inRangeFunc lc :: k) :: cs) w1 hargs st1.rel (F.step st1.ext) (.plain _)
        have := ct.normal; subst this
        obtain ⟨m1, m2⟩ := hres
        have lv : fr.leaving P w2 (.panicked [⟨v', false, false⟩]) := ⟨m1, hdf, fn, by rw [hfn]; exact hP⟩
        have back := step_leave_panicked (cs := cs) (c := b.atR a (.inRangeFunc lc :: k)) lv
        rw [Frame.raise_atR] at back
        have le2' : ρ.le ρ2 := st1.ext.mono.trans st2.ext.mono
        refine ⟨ρ2, a, cs, w2, st0.trans Fs (st1.trans (F.mono le2) st2), ⟨A.fr.mono le2', st2.rel, A.ds.mono le2', A.um.mono le2', A.ro.mono le2'⟩, CsTo.refl _ _, _, v', (fun _ _ _ _ _ q => by cases q), m2, .head en (steps.trans (.one back))⟩
      · cases h
    · cases h

theorem callA_call {h h1 : H} {f f' : FuncId} {args args' : List AV} (e : callA P h f args = some (.call f' args', h1)) : h1 = h := by
  unfold callA at e
  split at e
  · cases e
  · split at e
    · injection e with e; injection e with _ e; exact e.symm
    · split at e
      · injection e with e; injection e with e _; cases e
      · cases e
theorem callV_call {h h1 : H} {g : AV} {f' : FuncId} {args args' : List AV} (e : callV P h g args = some (.call f' args', h1)) : h1 = h := by
  unfold callV at e
  split at e
  · exact callA_call e
  · split at e
    · unfold callVia at e
      split at e
      · cases e
      · split at e
        · exact callA_call e
        · split at e
          · exact callA_call e
          · cases e
        · cases e
        · exact callA_call e
        · cases e
    · cases e
  · injection e with e; injection e with e _; cases e
  · cases e
theorem range2_mono {r : Rec} (hm : RecMono r) {nt : Nat} {ro : Option Nat} {l : Nat} {g : Option AV} {s s' : S} {e : Ex} (h : cRange2 P r nt ro l g s = some (e, s')) : s.h.next ≤ s'.h.next := by
  unfold cRange2 at h
  split at h
  · cases h
  · split at h
    · rename_i hcv
      have := callV_call hcv; subst this
      split at h
      · rename_i hcall
        have le := hm.call _ _ _ _ _ _ _ hcall
        split at h
        · injection h with h; injection h with _ h; subst h; simpa [H.put_next] using le
        · have := hm.code _ _ _ _ _ _ h; simp only [H.put_next] at this; omega
        · cases h
      · rename_i hcall
        have le := hm.call _ _ _ _ _ _ _ hcall
        injection h with h; injection h with _ h; subst h; exact le
      · cases h
    · cases h

theorem range_ok (hng : NoNG P) {r : Rec} (hm : RecMono r) (hco : CodeOk P r.code) (hc : CallOk P r.call) : RangeOk P r := by
  intro nt ro f ps asg bd s e s' h ρ b a k cs w A F
  unfold cRange at h
  split at h
  · -- no round around it
    have le := range2_mono hm h
    simp only [H.new_next] at le
    have hbr : b.roundOf = none := by have := A.ro; cases hx : b.roundOf with | none => rfl | some _ => rw [hx] at this; exact this.elim
    have hf0 : ρ s.h.next = none := F _ (Nat.le_refl _) (by omega)
    have st1 : Stp P ρ (ρ.add s.h.next w.heap.size 0) s.h (s.h.new (.dfr true)) w { w with heap := w.heap.push (.deferred (some [])) } := Stp.new A.hr hf0 (ORel.dfr true) rfl rfl rfl rfl
    have hf1 : (ρ.add s.h.next w.heap.size 0) (s.h.new (.dfr true)).next = none := by
      rw [H.new_next, Ren.add_ne _ _ _ (by omega)]
      exact F _ (by omega) (by omega)
    have hρ1 := Ren.add_eq ρ s.h.next w.heap.size 0
    have hle1 := st1.ext.mono
    have st2 : Stp P (ρ.add s.h.next w.heap.size 0) ((ρ.add s.h.next w.heap.size 0).add (s.h.new (.dfr true)).next (w.heap.size + 1) 0) (s.h.new (.dfr true)) ((s.h.new (.dfr true)).new (loopNew nt s s.h.next ps.toList asg bd))
        { w with heap := w.heap.push (.deferred (some [])) } { w with heap := (w.heap.push (.deferred (some []))).push (.loop { state := .ready, pending := none, fn := b.fn, tmps := a.tmps, params := ps, assign := asg, body := bd, defers := w.heap.size }) } := by
      have hsz : ({ w with heap := w.heap.push (.deferred (some [])) } : World).heap.size = w.heap.size + 1 := by simp
      rw [← hsz]
      refine Stp.new st1.rel hf1 ?_ rfl rfl rfl rfl
      have hm2 := Ren.add_mono (c := ({ w with heap := w.heap.push (.deferred (some [])) } : World).heap.size) (k := 0) hf1
      exact ORel.loop _ _ _ _ _ _ _ _ _ _ _ _ (A.fr.mono (hle1.trans hm2)) rfl (hm2 _ _ hρ1).1
    have F1 : Free ρ s.h (s.h.new (.dfr true)) := F.mono (by rw [H.new_next]; omega)
    have st := st1.trans F1 st2
    have hmono := st.ext.mono
    refine range2_ok (ps := ps) (asg := asg) (bd := bd) hng hm hco hc (s := ⟨s.tm, (s.h.new (.dfr true)).new (loopNew nt s s.h.next ps.toList asg bd), s.um, .mark s.h.next :: s.dfs⟩) h (ρ0 := ρ) (s0 := s) (a0 := a) (mark := [⟨.collected w.heap.size, #[]⟩]) (lc := w.heap.size + 1) ?_ st rfl ?_ ⟨A.fr.mono hmono, st.rel, ⟨⟨w.heap.size, (st2.ext.mono _ _ hρ1).1, rfl⟩, A.ds.mono hmono⟩, A.um.mono hmono, A.ro.mono hmono⟩ F (by simp only [H.new_next]; omega)
    · exact Ren.add_eq _ _ _ _
    · rw [hbr]
      unfold Instr.enterLoop
      simp [Sem.run_bind, Result.andThen]
      first | exact ⟨rfl, rfl, rfl⟩ | rfl
  · -- within a round
    rename_i l0
    split at h
    · rename_i x0 x1 x2 x3 x4 x5 x6 d hget
      have le := range2_mono hm h
      simp only [H.new_next] at le
      obtain ⟨lc0, hlc0, hbr⟩ : ∃ lc0, ρ l0 = some lc0 ∧ b.roundOf = some lc0 := by
        have := A.ro
        cases hx : b.roundOf with
        | none => rw [hx] at this; exact this.elim
        | some c => rw [hx] at this; exact ⟨c, this, rfl⟩
      obtain ⟨fn0, tmps0, ps0, d0, q1, q2, q3, q4⟩ := A.hr.loop hget hlc0
      have hf0 : ρ s.h.next = none := F _ (Nat.le_refl _) (by omega)
      have st : Stp P ρ (ρ.add s.h.next w.heap.size 0) s.h (s.h.new (loopNew nt s d ps.toList asg bd)) w { w with heap := w.heap.push (.loop { state := .ready, pending := none, fn := b.fn, tmps := a.tmps, params := ps, assign := asg, body := bd, defers := d0 }) } := by
        have hm2 := Ren.add_mono (c := w.heap.size) (k := 0) hf0
        exact Stp.new A.hr hf0 (ORel.loop _ _ _ _ _ _ _ _ _ _ _ _ (A.fr.mono hm2) rfl (hm2 _ _ q4).1) rfl rfl rfl rfl
      have hmono := st.ext.mono
      refine range2_ok (ps := ps) (asg := asg) (bd := bd) hng hm hco hc (s := { s with h := s.h.new (loopNew nt s d ps.toList asg bd) }) h (ρ0 := ρ) (s0 := s) (a0 := a) (mark := []) (lc := w.heap.size) ?_ st rfl ?_ ⟨A.fr.mono hmono, st.rel, A.ds.mono hmono, A.um.mono hmono, A.ro.mono hmono⟩ F (by simp only [H.new_next]; omega)
      · exact Ren.add_eq _ _ _ _
      · rw [hbr]
        unfold Instr.enterLoop
        simp [Sem.run_bind, getLoop_run q1, Result.andThen]
    · cases h
end
end Go.Ab
