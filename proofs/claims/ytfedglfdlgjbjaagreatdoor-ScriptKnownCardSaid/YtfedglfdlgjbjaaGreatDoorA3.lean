/-
  What the operations of the evaluator that touch memory are to those of the model.
  Own work for this claim; no condition.
-/
import Derived.Laws.Cells
import Derived.MapKept
import Derived.Lib.MakeNoZero
import Derived.KernelRfl
import Derived.Lib.Bytealg
import Derived.Test.YtfedglfdlgjbjaaGreatDoorA2
set_option linter.unusedSectionVars false
set_option linter.unnecessarySimpa false
set_option linter.unusedVariables false
set_option linter.unusedSimpArgs false
namespace Go.Ab
section
variable {P : Program} {w : World}

theorem getObj_run {r : Nat} {ob : Obj} (h : w.heap[r]? = some ob) (hn : ∀ c e f, ob ≠ .cells c e f) : (getObj r).run P w = .ok ob w := by
  unfold getObj
  cases ob with
  | cells c e f => exact absurd rfl (hn c e f)
  | _ => simp [Sem.run, h]
theorem setObj_run {r : Nat} {ob o : Obj} (h : w.heap[r]? = some ob) (hn : ∀ c e f, ob ≠ .cells c e f) : (setObj r o).run P w = .ok () { w with heap := w.heap.setIfInBounds r o } := by
  unfold setObj
  cases ob with
  | cells c e f => exact absurd rfl (hn c e f)
  | _ => simp [Sem.run, h]
theorem cell_at {c i : Nat} {cs : Array Value} {e : TypeId} {fz : Nat × Nat} (h : w.heap[c]? = some (.cells cs e fz)) : w.cell? ⟨c, i, none⟩ = cs[i]? := by
  simp [World.cell?, h]
theorem load_run {c i : Nat} {cs : Array Value} {e : TypeId} {fz : Nat × Nat} {v : Value} (h : w.heap[c]? = some (.cells cs e fz)) (hv : cs[i]? = some v) :
    (load ⟨c, i, none⟩).run P w = .ok v w := by
  unfold load
  simp [Sem.run, cell_at h, hv]

/-- The cells of a row, as far as they are known. -/
def Cells (ρ : Ren) (n : Nat) (z : List AV) (tr : PT AV) (cs : Array Value) : Prop := ∀ i v, cellAt n z tr i = some v → ∃ v', cs[i]? = some v' ∧ VRel ρ v v'

theorem readN_rel {ρ : Ren} {n : Nat} {z : List AV} {tr : PT AV} {cs : Array Value} (hc : Cells ρ n z tr cs) : ∀ (k i : Nat) (vs : List AV), readN n z tr i k = some vs →
    ∃ vs' : List Value, vs'.length = k ∧ VRels ρ vs vs' ∧ ∀ j v', vs'[j]? = some v' → cs[i + j]? = some v'
  | 0, i, vs, h => by
    simp [readN] at h; subst h
    exact ⟨[], rfl, .nil, by simp⟩
  | k + 1, i, vs, h => by
    unfold readN at h
    split at h
    · rename_i v hv
      split at h
      · rename_i us hus
        injection h with h; subst h
        obtain ⟨v', hv', r⟩ := hc i v hv
        obtain ⟨us', e1, e2, e3⟩ := readN_rel hc k (i + 1) us hus
        refine ⟨v' :: us', by simp [e1], .cons _ _ _ _ r e2, fun j x hx => ?_⟩
        cases j with
        | zero => simp at hx; subst hx; exact hv'
        | succ j => simp at hx; have := e3 j x hx; rwa [show i + 1 + j = i + (j + 1) from by omega] at this
      · cases h
    · cases h

theorem loadCells_run {c i : Nat} {cs : Array Value} {e : TypeId} {fz : Nat × Nat} {vs : List Value} (h : w.heap[c]? = some (.cells cs e fz)) (hv : ∀ j v', vs[j]? = some v' → cs[i + j]? = some v') :
    (loadCells ⟨c, i, none⟩ vs.length).run P w = .ok vs.toArray w :=
  run_loadCells_list (P := P) (w := w) ⟨c, i, none⟩ vs (fun j v hj => by rw [addr_add, cell_at h]; exact hv j v hj)

/-- A row that is named. -/
theorem HRel.row {ρ : Ren} {h : H} (r : HRel P ρ h w) {b c : Nat} {e n : Nat} {ex ro : Bool} {z : List AV} {tr : PT AV} (hb : h.get b = some (.row e n ex ro z tr)) (hc : ρ b = some c) :
    ∃ cs fz, w.heap[c]? = some (.cells cs e fz) ∧ (ex = true → cs.size = n) ∧ n ≤ cs.size ∧ Cells ρ n z tr cs ∧ (ro = false → NoFz fz cs.size) := by
  obtain ⟨ob, h1, h2⟩ := r.obj b _ c hb (by simp) hc
  cases h2 with
  | row _ _ _ _ _ _ cs fz g1 g2 g3 g4 => exact ⟨cs, fz, h1, g1, g2, g3, g4⟩

theorem run_loadA {ρ : Ren} {h : H} {t : TypeId} {b off c : Nat} {v : AV} (r : HRel P ρ h w) (hb : ρ b = some c) (hl : loadA P h t b off = some v) :
    ∃ v', (loadVar t ⟨c, off, none⟩).run P w = .ok v' w ∧ VRel ρ v v' := by
  unfold loadA at hl
  split at hl
  · rename_i ob hg
    obtain ⟨ob', h1, h2⟩ := r.obj b _ c hg (by simp) hb
    cases h2
    unfold fixedA at hl
    split at hl
    · rename_i cs e fz
      split at hl
      · rename_i hag
        split at hl
        · rename_i v' hv
          refine ⟨v', ?_, ofCell_rel ρ hl⟩
          unfold loadVar
          simp only [Sem.run_bind, isAgg_run hag, Result.andThen_ok, Bool.false_eq_true, if_false, load_run h1 hv]
        · cases hl
      · cases hl
    · cases hl
  · rename_i e n ex ro z tr hg
    obtain ⟨cs, fz, h1, h2, h3, h4, h5⟩ := r.row hg hb
    unfold loadVar
    split at hl
    · rename_i hag
      split at hl
      · rename_i k hk
        split at hl
        · rename_i vs hvs
          injection hl with hl; subst hl
          obtain ⟨vs', e1, e2, e3⟩ := readN_rel h4 k off vs hvs
          refine ⟨.agg vs'.toArray, ?_, .agg _ _ (by simpa using e2)⟩
          have := loadCells_run (P := P) h1 e3
          rw [e1] at this
          simp only [Sem.run_bind, isAgg_run hag, Result.andThen_ok, if_true, sz_run hk, this, Sem.run_pure]
        · cases hl
      · cases hl
    · rename_i hag
      obtain ⟨v', e1, e2⟩ := h4 off v hl
      refine ⟨v', ?_, e2⟩
      simp only [Sem.run_bind, isAgg_run hag, Result.andThen_ok, Bool.false_eq_true, if_false, load_run h1 e1]
    · cases hl
  · cases hl

/-- A row with cells overwritten. -/
def writeArr (cs : Array Value) (i : Nat) : List Value → Array Value
  | [] => cs
  | v :: vs => writeArr (cs.setIfInBounds i v) (i + 1) vs
theorem writeArr_size : ∀ (vs : List Value) (cs : Array Value) (i : Nat), (writeArr cs i vs).size = cs.size
  | [], _, _ => rfl
  | v :: vs, cs, i => by simp [writeArr, writeArr_size vs]

theorem cellAt_set {n : Nat} {z : List AV} {tr : PT AV} {k i : Nat} {u v : AV} (hn : z = [] ∨ n ≤ 1073741824) (h : cellAt n z (tr.set k u) i = some v) : (i = k ∧ v = u ∧ i < n) ∨ (i ≠ k ∧ cellAt n z tr i = some v) := by
  unfold cellAt at h ⊢
  split at h
  · rename_i hlt
    by_cases hk : k = i
    · subst hk
      left
      split at h
      · rename_i x hx
        have := PT.set_eq _ _ hx
        subst this
        injection h with h
        exact ⟨rfl, h.symm, lt_of_blt hlt⟩
      · rename_i hx
        rcases hn with hn | hn
        · subst hn; cases h
        · rw [PT.get_set _ _ (by have := lt_of_blt hlt; omega)] at hx
          cases hx
    · right
      rw [PT.set_ne _ _ hk] at h
      exact ⟨fun e => hk e.symm, h⟩
  · cases h

theorem Cells.write {ρ : Ren} {n : Nat} {z : List AV} : ∀ {vs : List AV} {vs' : List Value} {tr : PT AV} {cs : Array Value} {off : Nat}, (z = [] ∨ n ≤ 1073741824) → Cells ρ n z tr cs → VRels ρ vs vs' → off + vs.length ≤ cs.size →
    Cells ρ n z (writeN tr off vs) (writeArr cs off vs')
  | _, _, _, _, _, _, hc, .nil, _ => hc
  | _, _, tr, cs, off, hn, hc, .cons v v' vs vs' hv hvs, hl => by
    unfold writeN writeArr
    refine Cells.write hn ?_ hvs (by have : (v :: vs).length = vs.length + 1 := rfl; rw [Array.size_setIfInBounds]; omega)
    intro i u hu
    rcases cellAt_set hn hu with ⟨rfl, rfl, _⟩ | ⟨hne, hu⟩
    · have hl' : i + (vs.length + 1) ≤ cs.size := hl
      exact ⟨v', by rw [Array.getElem?_setIfInBounds, if_pos rfl, if_pos (by omega)], hv⟩
    · obtain ⟨u', e, r⟩ := hc i u hu
      exact ⟨u', by rw [Array.getElem?_setIfInBounds]; rw [if_neg (fun h => hne (Eq.symm h))]; exact e, r⟩

theorem VRel.one {ρ : Ren} {v : AV} {v' : Value} (h : VRel ρ v v') (ho : oneA v = true) : v'.oneCell' = true := by
  cases h <;> first | rfl | (simp [oneA] at ho)
theorem VRels.ones {ρ : Ren} : ∀ {vs : List AV} {vs' : List Value}, VRels ρ vs vs' → allOne vs = true → ∀ v ∈ vs', v.oneCell' = true
  | _, _, .nil, _ => by simp
  | _, _, .cons v v' vs vs' h hs, ho => by
    unfold allOne at ho
    split at ho
    · rename_i h1
      intro x hx
      rcases List.mem_cons.1 hx with rfl | hx
      · exact h.one h1
      · exact hs.ones ho x hx
    · cases ho

theorem store_run {c i : Nat} {cs : Array Value} {e : TypeId} {fz : Nat × Nat} {v : Value} (h : w.heap[c]? = some (.cells cs e fz)) (hv : i < cs.size) (hf : NoFz fz cs.size) (h1 : v.oneCell' = true) :
    (store ⟨c, i, none⟩ v).run P w = .ok () { w with heap := w.heap.setIfInBounds c (.cells (cs.setIfInBounds i v) e fz) } := by
  have hfz : w.frozen? ⟨c, i, none⟩ = false := by
    obtain ⟨lo, hi⟩ := fz
    simp only [World.frozen?, h]
    rcases hf with hf | hf
    · simp at hf; subst hf; simp
    · simp at hf ⊢; omega
  have hset : w.setCell ⟨c, i, none⟩ v = { w with heap := w.heap.setIfInBounds c (.cells (cs.setIfInBounds i v) e fz) } := by
    unfold World.setCell
    congr 1
    apply Array.ext_getElem?
    intro j
    rw [Array.getElem?_modify, Array.getElem?_setIfInBounds]
    have hlt : c < w.heap.size := by
      rcases Nat.lt_or_ge c w.heap.size with h' | h'
      · exact h'
      · rw [Array.getElem?_eq_none h'] at h; cases h
    by_cases hj : c = j
    · subst hj; rw [if_pos rfl, if_pos rfl, if_pos hlt, h]; rfl
    · simp [hj]
  have hcell : w.cell? ⟨c, i, none⟩ = some cs[i] := by rw [cell_at h]; simp [hv]
  unfold store
  cases v <;> first | (simp [Value.oneCell'] at h1; done) | simp [Sem.run, hcell, hfz, hset]

theorem storeCells_run {e : TypeId} {fz : Nat × Nat} : ∀ (vs : List Value) (w : World) (c off i : Nat) (cs : Array Value), w.heap[c]? = some (.cells cs e fz) → off + i + vs.length ≤ cs.size → NoFz fz cs.size → (∀ v ∈ vs, v.oneCell' = true) →
    (storeCells ⟨c, off, none⟩ vs i).run P w = .ok () { w with heap := w.heap.setIfInBounds c (.cells (writeArr cs (off + i) vs) e fz) }
  | [], w, c, off, i, cs, h, hl, hf, h1 => by
    unfold storeCells writeArr
    have : w.heap.setIfInBounds c (.cells cs e fz) = w.heap := by
      apply Array.ext_getElem?
      intro j
      rw [Array.getElem?_setIfInBounds]
      by_cases hj : c = j
      · subst hj
        have hlt : c < w.heap.size := by
          rcases Nat.lt_or_ge c w.heap.size with h' | h'
          · exact h'
          · rw [Array.getElem?_eq_none h'] at h; cases h
        rw [if_pos rfl, if_pos hlt, h]
      · rw [if_neg hj]
    simp [this]
  | v :: vs, w, c, off, i, cs, h, hl, hf, h1 => by
    unfold storeCells writeArr
    have hlt : c < w.heap.size := by
      rcases Nat.lt_or_ge c w.heap.size with h' | h'
      · exact h'
      · rw [Array.getElem?_eq_none h'] at h; cases h
    have e1 := store_run (P := P) (w := w) (i := off + i) (v := v) h (by simp at hl; omega) hf (h1 v (by simp))
    have e2 := storeCells_run vs { w with heap := w.heap.setIfInBounds c (.cells (cs.setIfInBounds (off + i) v) e fz) } c off (i + 1) (cs.setIfInBounds (off + i) v) (e := e) (fz := fz) (by simp [hlt]) (by simp at hl ⊢; omega) (by simpa using hf)
      (fun x hx => h1 x (by simp [hx]))
    simp only [Sem.run_bind, addr_add, e1, Result.andThen_ok, e2]
    simp [show off + (i + 1) = off + i + 1 from by omega]

theorem heap_set {c : Nat} {o : Obj} (hlt : c < w.heap.size) : (w.heap.setIfInBounds c o)[c]? = some o ∧ (∀ d, d ≠ c → (w.heap.setIfInBounds c o)[d]? = w.heap[d]?) ∧ (w.heap.setIfInBounds c o).size = w.heap.size := by
  refine ⟨by simp [hlt], fun d hd => ?_, by simp⟩
  rw [Array.getElem?_setIfInBounds, if_neg (fun e => hd e.symm)]

theorem run_storeCellsA {ρ : Ren} {h h' : H} {b off c : Nat} {vs : List AV} {vs' : List Value} (r : HRel P ρ h w) (hb : ρ b = some c) (hs : storeCellsA h b off vs = some h') (hv : VRels ρ vs vs') :
    ∃ w', (storeCells ⟨c, off, none⟩ vs').run P w = .ok () w' ∧ Stp P ρ ρ h h' w w' := by
  unfold storeCellsA at hs
  split at hs
  · rename_i e n ex z tr hg
    split at hs
    · rename_i hle hn
      split at hs
      · rename_i ho
        injection hs with hs; subst hs
        obtain ⟨cs, fz, h1, h2, h3, h4, h5⟩ := r.row hg hb
        have hle := Nat.le_of_ble_eq_true hle
        have hlen := hv.length
        refine ⟨_, storeCells_run vs' w c off 0 cs h1 (by simp; omega) (h5 rfl) (hv.ones ho), ?_⟩
        have hlt := r.bound b c hb
        obtain ⟨g1, g2, g3⟩ := heap_set (w := w) (o := .cells (writeArr cs (off + 0) vs') e fz) hlt
        exact Stp.put r ⟨_, hg, by simp⟩ hb (.row e n ex false z _ _ fz (fun hx => by rw [writeArr_size]; exact h2 hx) (by rw [writeArr_size]; exact h3)
          (h4.write (.inr (Nat.le_of_ble_eq_true hn)) hv (by omega)) (fun _ => by rw [writeArr_size]; exact h5 rfl)) g3 g1 g2 rfl rfl rfl
          (by
            intro e1 m1 ro1 z1 t1 ha cs1 e2 fz1 hb1
            injection ha with a1 a2 a3; injection hb1 with b1
            subst a1; subst a3; subst b1
            rw [writeArr_size]; exact r.room _ _ _ _ _ _ _ _ _ _ hg hb h1)
      · cases hs
    · cases hs
  · cases hs

theorem run_storeA {ρ : Ren} {h h' : H} {t : TypeId} {b off c : Nat} {v : AV} {v' : Value} (r : HRel P ρ h w) (hb : ρ b = some c) (hs : storeA P h t b off v = some h') (hv : VRel ρ v v') :
    ∃ w', (storeVar t ⟨c, off, none⟩ v').run P w = .ok () w' ∧ Stp P ρ ρ h h' w w' := by
  unfold storeA at hs
  split at hs
  · rename_i k hk
    split at hs
    · rename_i hkl
      have hkl := Nat.eq_of_beq_eq_true hkl
      obtain ⟨w', e1, e2⟩ := run_storeCellsA r hb hs hv.cells
      refine ⟨w', ?_, e2⟩
      have := hv.cells.length
      unfold storeVar
      simp only [Sem.run_bind, sz_run hk, Result.andThen_ok]
      rw [if_neg (by simp at this; omega)]
      simpa using e1
    · cases hs
  · cases hs

theorem readCells_rel {ρ : Ren} {h : H} {b off k c : Nat} {vs : List AV} (r : HRel P ρ h w) (hb : ρ b = some c ∨ k = 0) (hr : readCells h b off k = some vs) (a : Addr) (ha : k = 0 ∨ a = ⟨c, off, none⟩) :
    ∃ vs' : List Value, (loadCells a k).run P w = .ok vs'.toArray w ∧ VRels ρ vs vs' := by
  unfold readCells at hr
  split at hr
  · injection hr with hr; subst hr
    exact ⟨[], rfl, .nil⟩
  · rename_i k
    split at hr
    · rename_i e n ex ro z tr hg
      obtain ⟨cs, fz, h1, h2, h3, h4, h5⟩ := r.row hg (hb.resolve_right (by omega))
      obtain ⟨vs', e1, e2, e3⟩ := readN_rel h4 _ _ _ hr
      rw [ha.resolve_left (by omega)]
      refine ⟨vs', ?_, e2⟩
      have := loadCells_run (P := P) h1 e3
      rwa [e1] at this
    · cases hr
end
end Go.Ab

namespace Go.Ab
section
variable {P : Program}

theorem mkPure_pure {nt : Nat} {f g : PT AV → Option AV} {dst : Option Tmp} {d : Tmp} (h : mkPure nt f dst = .pure g d) : f = g ∧ dst = some d ∧ d < nt := by
  unfold mkPure at h
  split at h
  · split at h
    · rename_i hlt; injection h with h1 h2; subst h1; subst h2; exact ⟨rfl, rfl, lt_of_blt hlt⟩
    · cases h
  · cases h
theorem mkRead_pure {nt : Nat} {f : PT AV → H → Option AV} {g : PT AV → Option AV} {dst : Option Tmp} {d : Tmp} (h : mkRead nt f dst = .pure g d) : False := by
  unfold mkRead at h; split at h
  · split at h <;> cases h
  · cases h
theorem mkNew_pure {nt : Nat} {f : PT AV → Nat → Option (AV × AO)} {g : PT AV → Option AV} {dst : Option Tmp} {d : Tmp} (h : mkNew nt f dst = .pure g d) : False := by
  unfold mkNew at h; split at h
  · split at h <;> cases h
  · cases h
theorem mkEff_pure {nt : Nat} {f : PT AV → H → Option (R × H)} {g : PT AV → Option AV} {dst : Option Tmp} {d : Tmp} (h : mkEff nt f dst = .pure g d) : False := by
  unfold mkEff at h; split at h
  · split at h <;> cases h
  · cases h

/-- What a pure operation does. -/
def PureAt (P : Program) (o : Oper) (f : PT AV → Option AV) : Prop := ∀ (ρ : Ren) (tm : PT AV) (a : Act) (w : World) (v : AV), ORels P ρ tm a o.op.operands.toList → f tm = some v →
  ∃ v', (execOp a.eval o).run P w = .ok (.value v') w ∧ VRel ρ v v'

theorem value_run {s : Sem Value} {v : Value} {w w' : World} (h : s.run P w = .ok v w') : (do pure (Next.value (← s)) : Sem Next).run P w = .ok (.value v) w' := by
  simp [h]

theorem at_pick {o : Oper} {c x y : Operand} (ho : o.op = .pick c x y) : PureAt P o (pPick P c x y) := by
  intro ρ tm a w v hr h
  rw [ho] at hr
  unfold pPick at h
  unfold execOp; rw [ho]; dsimp only
  split at h
  · rename_i hc
    have h1 := hr c (by simp [Op.operands]) _ hc
    have h2 := hr x (by simp [Op.operands]) _ h
    generalize a.eval c = c' at *
    cases h1
    exact ⟨_, rfl, h2⟩
  · rename_i hc
    have h1 := hr c (by simp [Op.operands]) _ hc
    have h2 := hr y (by simp [Op.operands]) _ h
    generalize a.eval c = c' at *
    cases h1
    exact ⟨_, rfl, h2⟩
  · cases h
theorem at_move {o : Oper} {x : Operand} (ho : o.op = .move x ∨ o.op = .assign x) : PureAt P o (pMove P x) := by
  intro ρ tm a w v hr h
  have h2 := hr x (by rcases ho with ho | ho <;> rw [ho] <;> simp [Op.operands]) _ h
  refine ⟨_, ?_, h2⟩
  unfold execOp
  rcases ho with ho | ho <;> rw [ho] <;> rfl
theorem at_tmp {o : Oper} {t : Tmp} (ho : o.op = .move (.tmp t) ∨ o.op = .assign (.tmp t)) : PureAt P o (pTmp t) := fun ρ tm a w v hr h => at_move ho ρ tm a w v hr h
theorem at_build {o : Oper} {t : TypeId} {ps : Array (Nat × Operand)} (ho : o.op = .build t ps) : PureAt P o (pBuild P t ps.toList) := by
  intro ρ tm a w v hr h
  rw [ho] at hr
  unfold pBuild at h
  split at h
  · rename_i vs hvs
    obtain ⟨h1, h2⟩ := parts_rel (a := a) (fun y hy => hr y (by simpa [Op.operands] using hy)) hvs
    obtain ⟨v', e1, e2⟩ := run_buildA (P := P) (w := w) (ρ := ρ) (ps := vs) (ps' := ps.map fun (i, x) => (i, a.eval x)) (by rw [h1]; simp [Function.comp_def]) (by simpa [Function.comp_def] using h2) h
    refine ⟨v', ?_, e2⟩
    unfold execOp; rw [ho]
    exact value_run e1
  · cases h
theorem at_nil {o : Oper} {x : Operand} (ho : o.op = .nilCheck x) : PureAt P o (pNil P x) := by
  intro ρ tm a w v hr h
  rw [ho] at hr
  unfold pNil at h
  split at h
  · rename_i u hu
    obtain ⟨e1, e2⟩ := run_nilCheck (P := P) (w := w) ho h (hr x (by simp [Op.operands]) _ hu)
    exact ⟨_, e1, e2⟩
  · cases h
theorem at_bin {o : Oper} {op : BinOp} {t yt : TypeId} {x y : Operand} (ho : o.op = .binOp op t x y yt) : PureAt P o (pBin P op t x y) := by
  intro ρ tm a w v hr h
  rw [ho] at hr
  unfold pBin at h
  split at h
  · rename_i u hu
    split at h
    · rename_i u2 hu2
      obtain ⟨v', e1, e2⟩ := run_binA (P := P) (w := w) (xo := x) (yo := y) h (hr x (by simp [Op.operands]) _ hu) (hr y (by simp [Op.operands]) _ hu2)
      refine ⟨v', ?_, e2⟩
      unfold execOp; rw [ho]
      exact value_run e1
    · cases h
  · cases h
theorem at_un {o : Oper} {op : UnOp} {t : TypeId} {x : Operand} (ho : o.op = .unOp op t x) : PureAt P o (pUn P op x) := by
  intro ρ tm a w v hr h
  rw [ho] at hr
  unfold pUn at h
  split at h
  · rename_i u hu
    obtain ⟨v', e1, e2⟩ := run_unA (P := P) (w := w) h (hr x (by simp [Op.operands]) _ hu)
    refine ⟨v', ?_, e2⟩
    unfold execOp; rw [ho]
    exact value_run e1
  · cases h
theorem at_conv {o : Oper} {s d : TypeId} {x : Operand} (ho : o.op = .convert s d x) : PureAt P o (pConv P s d x) := by
  intro ρ tm a w v hr h
  rw [ho] at hr
  unfold pConv at h
  split at h
  · rename_i u hu
    obtain ⟨v', e1, e2⟩ := run_convPure (P := P) (w := w) h (hr x (by simp [Op.operands]) _ hu)
    refine ⟨v', ?_, e2⟩
    unfold execOp; rw [ho]
    exact value_run e1
  · cases h
theorem at_s2ap {o : Oper} {t : TypeId} {x : Operand} (ho : o.op = .sliceToArrayPointer t x) : PureAt P o (pS2ap P t x) := by
  intro ρ tm a w v hr h
  rw [ho] at hr
  unfold pS2ap at h
  split at h
  · rename_i n e b off len cap hu hx
    split at h
    · rename_i hle hn
      injection h with h; subst h
      have hv := hr x (by simp [Op.operands]) _ hx
      have hle := Nat.le_of_ble_eq_true hle
      have hn := lt_of_blt hn
      have hop : execOp a.eval o = (do pure (.value (← Instr.arrayAt t (a.eval x)))) := by unfold execOp; rw [ho]
      rw [hop]
      generalize a.eval x = x' at *
      cases hv with | sl _ _ _ _ ad cap' g1 g2 g3 g4 =>
      obtain ⟨c, hc, rfl⟩ := g3.resolve_left (by omega)
      refine ⟨_, value_run ?_, .ptr _ _ _ hc⟩
      unfold Instr.arrayAt
      simp only [Sem.run_bind, und_run hu, Result.andThen_ok]
      rw [if_neg (by omega)]
      rfl
    · cases h
  · cases h
theorem at_iface {o : Oper} {t : TypeId} {x : Operand} (ho : o.op = .makeInterface t x) : PureAt P o (pIface P t x) := by
  intro ρ tm a w v hr h
  rw [ho] at hr
  unfold pIface at h
  split at h
  · cases h
  · rename_i d u hd hu hx
    injection h with h; subst h
    refine ⟨.iface t (a.eval x), ?_, .iface _ _ _ (hr x (by simp [Op.operands]) _ hx)⟩
    unfold execOp; rw [ho]
    refine value_run ?_
    unfold Instr.makeInterface
    simp only [Sem.run_bind, und_run hu, Result.andThen_ok]
    rfl
  · cases h
theorem at_func {o : Oper} {fn : Fn} {first cap : Array Operand} (ho : o.op = .makeFunc fn first cap) : PureAt P o (pFunc P fn first.toList cap.toList) := by
  intro ρ tm a w v hr h
  rw [ho] at hr
  unfold pFunc at h
  split at h
  · cases h
  · rename_i hn
    split at h
    · rename_i xs ys h1 h2
      injection h with h; subst h
      have r1 := eos_rel (a := a) (fun y hy => hr y (by simp [Op.operands]; exact .inl (by simpa using hy))) h1
      have r2 := eos_rel (a := a) (fun y hy => hr y (by simp [Op.operands]; exact .inr (by simpa using hy))) h2
      refine ⟨.func fn (first.map a.eval) (cap.map a.eval), ?_, .func _ _ _ _ _ (fun l e => hn l e) (by simpa using r1) (by simpa using r2)⟩
      unfold execOp; rw [ho]
      rfl
    · cases h
theorem oo_rel {ρ : Ren} {tm : PT AV} {a : Act} {x : Option Operand} {v : Option AV} (hr : ORels P ρ tm a x.toList) (h : oo P tm x = some v) : optRel ρ v (x.map a.eval) := by
  cases x with
  | none => simp [oo] at h; subst h; trivial
  | some x =>
    simp only [oo] at h
    split at h
    · rename_i u hu
      injection h with h; subst h
      exact hr x (by simp) _ hu
    · cases h
theorem at_slice {o : Oper} {t : TypeId} {x : Operand} {lo hi mx : Option Operand} (ho : o.op = .slice t x lo hi mx) : PureAt P o (pSlice P t x lo hi mx) := by
  intro ρ tm a w v hr h
  rw [ho] at hr
  unfold pSlice at h
  split at h
  · rename_i u hu
    split at h
    · rename_i l1 l2 l3 e1 e2 e3
      obtain ⟨v', r1, r2⟩ := run_sliceA (P := P) (w := w) h (hr x (by simp [Op.operands]) _ hu)
        (oo_rel (a := a) (fun y hy => hr y (by simp [Op.operands]; simp at hy; simp [hy])) e1) (oo_rel (a := a) (fun y hy => hr y (by simp [Op.operands]; simp at hy; simp [hy])) e2)
        (oo_rel (a := a) (fun y hy => hr y (by simp [Op.operands]; simp at hy; simp [hy])) e3)
      refine ⟨v', ?_, r2⟩
      unfold execOp; rw [ho]
      exact value_run r1
    · cases h
  · cases h
theorem at_indexAddr {o : Oper} {t : TypeId} {x i : Operand} (ho : o.op = .indexAddr t x i) : PureAt P o (pIndexAddr P t x i) := by
  intro ρ tm a w v hr h
  rw [ho] at hr
  unfold pIndexAddr at h
  split at h
  · rename_i u hu
    split at h
    · rename_i u2 hu2
      obtain ⟨v', e1, e2⟩ := run_indexAddrA (P := P) (w := w) h (hr x (by simp [Op.operands]) _ hu) (hr i (by simp [Op.operands]) _ hu2)
      refine ⟨v', ?_, e2⟩
      unfold execOp; rw [ho]
      exact value_run e1
    · cases h
  · cases h
theorem at_index {o : Oper} {t : TypeId} {x i : Operand} (ho : o.op = .index t x i) : PureAt P o (pIndex P t x i) := by
  intro ρ tm a w v hr h
  rw [ho] at hr
  unfold pIndex at h
  split at h
  · rename_i u hu
    split at h
    · rename_i u2 hu2
      obtain ⟨v', e1, e2⟩ := run_indexA (P := P) (w := w) h (hr x (by simp [Op.operands]) _ hu) (hr i (by simp [Op.operands]) _ hu2)
      refine ⟨v', ?_, e2⟩
      unfold execOp; rw [ho]
      exact value_run e1
    · cases h
  · cases h
theorem at_assert {o : Oper} {xt t : TypeId} {ok : Bool} {x : Operand} (ho : o.op = .typeAssert x xt t ok) : PureAt P o (pAssert P x t ok) := by
  intro ρ tm a w v hr h
  rw [ho] at hr
  unfold pAssert at h
  split at h
  · rename_i u hu
    obtain ⟨v', e1, e2⟩ := run_typeAssertA (P := P) (w := w) (xt := xt) h (hr x (by simp [Op.operands]) _ hu)
    refine ⟨v', ?_, e2⟩
    unfold execOp; rw [ho]
    exact value_run e1
  · cases h
theorem at_extract {o : Oper} {x : Operand} {i : Nat} (ho : o.op = .extract x i) : PureAt P o (pExtract P x i) := by
  intro ρ tm a w v hr h
  rw [ho] at hr
  unfold pExtract at h
  split at h
  · rename_i vs hu
    have hv := hr x (by simp [Op.operands]) _ hu
    have hop : execOp a.eval o = (do pure (.value (← Instr.extract (a.eval x) i))) := by unfold execOp; rw [ho]
    rw [hop]
    generalize a.eval x = x' at *
    cases hv with | tuple _ vs' hvs =>
    obtain ⟨v', e1, e2⟩ := hvs.get i v h
    refine ⟨v', ?_, e2⟩
    refine value_run ?_
    have e1 : vs'[i]? = some v' := by simpa using e1
    simp [Instr.extract, e1]
  · cases h
theorem at_field {o : Oper} {t : TypeId} {x : Operand} {f s off : Nat} {fs : Array Field} {fd : Field} {ag : Bool} (ho : o.op = .field t x f) (hu : P.underlying t = some (.struct fs)) (hf : fs[f]? = some fd)
    (hs : szOf P fd.type = some s) (ha : isAgg P fd.type = some ag) : PureAt P o (pField P ag s fd.offset x) := by
  intro ρ tm a w v hr h
  rw [ho] at hr
  unfold pField at h
  split at h
  · rename_i cs hx
    have := run_field (P := P) (w := w) (ρ := ρ) hu hf hs ha h (hr x (by simp [Op.operands]) _ hx)
    obtain ⟨v', e1, e2⟩ := this
    refine ⟨v', ?_, e2⟩
    unfold execOp; rw [ho]
    exact value_run e1
  · cases h
theorem at_fieldAddr {o : Oper} {t : TypeId} {x : Operand} {f s off : Nat} {fs : Array Field} {fd : Field} (ho : o.op = .fieldAddr t x f) (hu : P.underlying t = some (.struct fs)) (hf : fs[f]? = some fd)
    (hs : szOf P fd.type = some (s + 1)) : PureAt P o (pFieldAddr P fd.offset x) := by
  intro ρ tm a w v hr h
  rw [ho] at hr
  unfold pFieldAddr at h
  split at h
  · rename_i y hx
    have := run_fieldAt (P := P) (w := w) (ρ := ρ) hu hf hs h (hr x (by simp [Op.operands]) _ hx)
    obtain ⟨v', e1, e2⟩ := this
    refine ⟨v', ?_, e2⟩
    unfold execOp; rw [ho]
    exact value_run e1
  · cases h
end
end Go.Ab
namespace Go.Ab
section
variable {P : Program}
theorem goInt_i64 (n : Nat) : goInt n = .int .i64 (.ofNat n) := rfl

/-- A call's operands hold its arguments. -/
theorem call_args {c : Call} {x : Operand} (h : x ∈ c.args.toList) : x ∈ c.operands.toList := by
  unfold Call.operands
  simp; exact .inr (by simpa using h)

theorem builtin_exec {o : Oper} {c : Call} {b : Builtin} {a : Act} {w : World} (ho : o.op = .call c) (hc : c.callee = .builtin b) :
    (execOp a.eval o).run P w = (builtin b c.argTypes o.type (c.args.map fun | .const _ => true | _ => false) (c.args.map a.eval)).run P w := by
  unfold execOp; rw [ho]; dsimp only
  unfold resolve; rw [hc]
  rfl

theorem at_cap {o : Oper} {c : Call} {x : Operand} {t : TypeId} (ho : o.op = .call c) (hc : c.callee = .builtin .cap) (ha : c.args.toList = [x]) (ht : c.argTypes[0]? = some t) (hs : isSlT P t = true) : PureAt P o (pCap P x) := by
  intro ρ tm a w v hr h
  rw [ho] at hr
  obtain ⟨e, hu⟩ := isSlT_und hs
  have ha' : c.args.map a.eval = #[a.eval x] := by rw [← Array.toList_inj]; simp [ha]
  have hop := builtin_exec (P := P) (a := a) (w := w) ho hc
  rw [ha'] at hop
  rw [hop]
  have hv := fun u hu => hr x (call_args (by rw [ha]; simp)) u hu
  generalize a.eval x = x' at *
  unfold pCap at h
  split at h
  · rename_i hx
    injection h with h; subst h
    have hv := hv _ hx
    cases hv with | sl _ _ _ _ ad cap' g1 g2 g3 g4 =>
    refine ⟨_, value_run ?_, .int _ _⟩
    unfold Builtin.cap_
    have := g2 _ rfl
    subst this
    simp [ht, und_run hu, goInt_i64]
  · rename_i hx
    injection h with h; subst h
    have hv := hv _ hx
    cases hv
    refine ⟨_, value_run ?_, .int _ _⟩
    unfold Builtin.cap_
    simp [ht, und_run hu]
    rfl
  · cases h
theorem at_mm {o : Oper} {c : Call} {mx : Bool} (ho : o.op = .call c) (hc : c.callee = .builtin (if mx then .max else .min)) : PureAt P o (pMm P mx c.args.toList) := by
  intro ρ tm a w v hr h
  rw [ho] at hr
  have hop := builtin_exec (P := P) (a := a) (w := w) ho hc
  rw [hop]
  unfold pMm at h
  split at h
  · rename_i x rest hx
    have hv := eos_rel (a := a) (fun y hy => hr y (call_args hy)) hx
    generalize hL : c.args.toList.map a.eval = L at hv
    cases hv with | cons _ x' _ rest' h1 h2 =>
    obtain ⟨v', e1, e2⟩ := run_mmI (P := P) (w := w) h h1 h2
    refine ⟨v', ?_, e2⟩
    have hL' : (c.args.map a.eval).toList = x' :: rest' := by simpa using hL
    cases mx <;> exact value_run (by first | (unfold Builtin.max_; rw [hL']; simpa using e1) | (unfold Builtin.min_; rw [hL']; simpa using e1))
  · cases h
theorem at_sliceData {o : Oper} {c : Call} {x : Operand} (ho : o.op = .call c) (hc : c.callee = .builtin .unsafeSliceData) (ha : c.args.toList = [x]) : PureAt P o (pSliceData P x) := by
  intro ρ tm a w v hr h
  rw [ho] at hr
  have ha' : c.args.map a.eval = #[a.eval x] := by rw [← Array.toList_inj]; simp [ha]
  have hop := builtin_exec (P := P) (a := a) (w := w) ho hc
  rw [ha'] at hop
  rw [hop]
  have hv := fun u hu => hr x (call_args (by rw [ha]; simp)) u hu
  generalize a.eval x = x' at *
  unfold pSliceData at h
  split at h
  · rename_i hx
    injection h with h; subst h
    have hv := hv _ hx
    cases hv with | sl _ _ _ _ ad cap' g1 g2 g3 g4 =>
    obtain ⟨c, hc, rfl⟩ := g3.resolve_left (by omega)
    refine ⟨_, value_run ?_, .ptr _ _ _ hc⟩
    have : cap' ≠ 0 := by omega
    change Sem.run P (if cap' ≠ 0 then pure (Value.pointer (some ⟨c, _, none⟩)) else _) w = _
    rw [if_pos this]; rfl
  · cases h

theorem compField_pure {nt f : Nat} {t : TypeId} {x : Operand} {addr : Bool} {dst : Option Tmp} {g : PT AV → Option AV} {d : Tmp} {o : Oper} (ho : o.op = if addr then .fieldAddr t x f else .field t x f)
    (h : compField P nt t x f addr dst = .pure g d) : dst = some d ∧ d < nt ∧ PureAt P o g := by
  unfold compField at h
  split at h
  · rename_i fs hu
    split at h
    · rename_i fd hf
      split at h
      · rename_i s ag hs ha
        split at h
        · cases h
        · rename_i hs0
          obtain ⟨h1, h2, h3⟩ := mkPure_pure h
          subst h1
          cases s with
          | zero => exact absurd rfl (hs0 · )
          | succ s => exact ⟨h2, h3, at_fieldAddr (off := 0) (by simpa using ho) hu hf hs⟩
        · obtain ⟨h1, h2, h3⟩ := mkPure_pure h
          subst h1
          exact ⟨h2, h3, at_field (off := 0) (by simpa using ho) hu hf hs ha⟩
      · cases h
    · cases h
  · cases h

theorem pfin {nt : Nat} {o : Oper} {f g : PT AV → Option AV} {d : Tmp} (h : mkPure nt f o.dst = .pure g d) (hp : PureAt P o f) : o.dst = some d ∧ d < nt ∧ PureAt P o g := by
  obtain ⟨h1, h2, h3⟩ := mkPure_pure h
  subst h1
  exact ⟨h2, h3, hp⟩

theorem compBuiltin_pure {nt : Nat} {b : Builtin} {c : Call} {o : Oper} {g : PT AV → Option AV} {d : Tmp} (ho : o.op = .call c) (hc : c.callee = .builtin b) (h : compBuiltin P nt b c.argTypes c.args.toList o.dst = .pure g d) :
    o.dst = some d ∧ d < nt ∧ PureAt P o g := by
  unfold compBuiltin at h
  split at h <;> first
    | exact (mkRead_pure h).elim
    | exact (mkEff_pure h).elim
    | cases h
    | exact pfin h (at_mm (mx := true) ho hc)
    | exact pfin h (at_mm (mx := false) ho hc)
    | exact pfin h (at_sliceData ho hc (by assumption))
    | skip
  · split at h
    · rename_i t ht
      split at h
      · rename_i hs
        exact pfin h (at_cap ho hc (by assumption) ht hs)
      · cases h
    · cases h
  · split at h
    · exact (mkEff_pure h).elim
    · cases h

theorem compCall_pure {nt : Nat} {c : Call} {o : Oper} {g : PT AV → Option AV} {d : Tmp} (ho : o.op = .call c) (h : compCall P nt c o.dst = .pure g d) :
    o.dst = some d ∧ d < nt ∧ PureAt P o g := by
  unfold compCall at h
  split at h <;> first
    | exact (mkEff_pure h).elim
    | exact compBuiltin_pure ho (by assumption) h

theorem comp_pure {nt : Nat} {o : Oper} {g : PT AV → Option AV} {d : Tmp} (h : compOp P nt o = .pure g d) : o.dst = some d ∧ d < nt ∧ PureAt P o g := by
  unfold compOp at h
  split at h <;> first
    | exact (mkRead_pure h).elim
    | exact (mkEff_pure h).elim
    | exact (mkNew_pure h).elim
    | cases h
    | exact pfin h (at_tmp (.inl (by assumption)))
    | exact pfin h (at_tmp (.inr (by assumption)))
    | exact pfin h (at_move (.inl (by assumption)))
    | exact pfin h (at_move (.inr (by assumption)))
    | exact pfin h (at_pick (by assumption))
    | exact pfin h (at_build (by assumption))
    | exact pfin h (at_nil (by assumption))
    | exact pfin h (at_bin (by assumption))
    | exact pfin h (at_un (by assumption))
    | exact pfin h (at_s2ap (by assumption))
    | exact pfin h (at_iface (by assumption))
    | exact pfin h (at_func (by assumption))
    | exact pfin h (at_slice (by assumption))
    | exact pfin h (at_indexAddr (by assumption))
    | exact pfin h (at_index (by assumption))
    | exact pfin h (at_assert (by assumption))
    | exact pfin h (at_extract (by assumption))
    | exact compCall_pure (by assumption) h
    | exact compField_pure (addr := true) (by simpa using (by assumption)) h
    | exact compField_pure (addr := false) (by simpa using (by assumption)) h
    | skip
  · split at h
    · exact (mkEff_pure h).elim
    · exact pfin h (at_conv (by assumption))
  · split at h
    · exact (mkEff_pure h).elim
    · cases h
end
end Go.Ab

namespace Go.Ab
section
variable {P : Program} {w : World}

-- equality of abstract values
mutual
theorem avBeq_eq : ∀ {a b : AV}, avBeq a b = true → a = b := by
  intro a b h
  unfold avBeq at h
  split at h
  · simp at h; rw [h]
  · rename_i k a j b
    simp only [Bool.and_eq_true] at h
    have := kEq_eq h.1; subst this
    have := h.2; rw [iEq_eq] at this; simp at this; rw [this]
  · rw [strEq_eq] at h; simp at h; rw [h]
  all_goals first
    | rfl
    | (simp only [Bool.and_eq_true, Nat.beq_eq_true_eq, Nat.beq_eq] at h; obtain ⟨⟨⟨rfl, rfl⟩, rfl⟩, rfl⟩ := h; rfl)
    | (simp only [Bool.and_eq_true, Nat.beq_eq_true_eq, Nat.beq_eq] at h; obtain ⟨⟨rfl, rfl⟩, rfl⟩ := h; rfl)
    | (simp only [Bool.and_eq_true, Nat.beq_eq_true_eq, Nat.beq_eq] at h; obtain ⟨rfl, rfl⟩ := h; rfl)
    | (simp only [Nat.beq_eq_true_eq, Nat.beq_eq] at h; subst h; rfl)
    | (simp only [Bool.and_eq_true, decide_eq_true_eq] at h; obtain ⟨⟨rfl, h2⟩, h3⟩ := h; rw [avsBeq_eq h2, avsBeq_eq h3])
    | (simp only [Bool.and_eq_true, Nat.beq_eq_true_eq, Nat.beq_eq] at h; obtain ⟨rfl, h2⟩ := h; rw [avBeq_eq h2])
    | (rw [avsBeq_eq h])
    | cases h
theorem avsBeq_eq : ∀ {a b : List AV}, avsBeq a b = true → a = b := by
  intro a b h
  unfold avsBeq at h
  split at h
  · rfl
  · simp only [Bool.and_eq_true] at h
    rw [avBeq_eq h.1, avsBeq_eq h.2]
  · cases h
end

theorem forIn_ok {α : Type} (f : α → PUnit → Sem (ForInStep PUnit)) : ∀ (l : List α), (∀ x ∈ l, (f x ⟨⟩).run P w = .ok (.yield ⟨⟩) w) → (forIn l (⟨⟩ : PUnit) f).run P w = .ok ⟨⟩ w
  | [], _ => by simp
  | x :: l, h => by
    rw [List.forIn_cons]
    simp only [Sem.run_bind, h x (by simp), Result.andThen_ok]
    exact forIn_ok f l (fun y hy => h y (by simp [hy]))

theorem checkKey_run {ρ : Ren} {em : Bool} : ∀ (d : Nat) (t : TypeId) (k : AV) (k' : Value), keyFit P d t k = true → VRel ρ k k' → ∀ D, d ≤ D → (Instr.checkKey em D t k').run P w = .ok () w := by
  intro d
  induction d with
  | zero => intro t k k' h; simp [keyFit] at h
  | succ d ih =>
    intro t k k' h hk D hD
    obtain ⟨D, rfl⟩ : ∃ E, D = E + 1 := ⟨D - 1, by omega⟩
    unfold keyFit at h
    unfold Instr.checkKey
    split at h
    · rename_i hu; simp only [Sem.run_bind, und_run hu, Result.andThen_ok]; rfl
    · rename_i hu; simp only [Sem.run_bind, und_run hu, Result.andThen_ok]; rfl
    · rename_i hu; simp only [Sem.run_bind, und_run hu, Result.andThen_ok]; rfl
    · rename_i fs cs hu
      cases hk with | agg _ cs' hc =>
      simp only [Sem.run_bind, und_run hu, Result.andThen_ok]
      rw [List.all_eq_true] at h
      rw [← Array.forIn_toList]
      have key := forIn_ok (P := P) (w := w) (fun (f : Field) (_ : PUnit) => (do
          if f.name ≠ "_" then do
            let x ← part f.type cs' f.offset
            Instr.checkKey em D f.type x
            pure (.yield ⟨⟩)
          else pure (.yield ⟨⟩) : Sem (ForInStep PUnit))) fs.toList (fun f hf => by
        have hf := h f hf
        split at hf
        · rename_i ag s hn hag hs
          split at hf
          · rename_i x hx
            obtain ⟨x', e1, e2⟩ := part_run (w := w) hag hs hc hx
            have hn : f.name ≠ "_" := by simpa using hn
            rw [if_pos hn]
            simp only [Sem.run_bind, e1, Result.andThen_ok, ih _ _ _ hf e2 D (by omega), Sem.run_pure]
          · cases hf
        · cases hf)
      exact congrArg (fun r => Result.andThen r fun _ w' => Sem.run P (pure ()) w') key
    · cases h

-- entries
theorem ERels.length {ρ : Ren} : ∀ {es : List (AV × AV × Nat)} {es' : List MapEntry}, ERels ρ es es' → es.length = es'.length
  | _, _, .nil => rfl
  | _, _, .cons _ _ _ _ _ _ _ _ _ hs => congrArg (· + 1) hs.length
theorem ERels.get {ρ : Ren} : ∀ {es : List (AV × AV × Nat)} {es' : List MapEntry}, ERels ρ es es' → ∀ (i : Nat) (e : AV × AV × Nat), es[i]? = some e →
    ∃ k' v', es'[i]? = some ⟨k', v', e.2.2⟩ ∧ VRel ρ e.1 k' ∧ VRel ρ e.2.1 v'
  | _, _, .nil, i, e, h => by simp at h
  | _, _, .cons k v b k' v' es es' h1 h2 hs, 0, e, h => by simp at h; subst h; exact ⟨k', v', rfl, h1, h2⟩
  | _, _, .cons _ _ _ _ _ _ _ _ _ hs, i + 1, e, h => by simp at h; simpa using hs.get i e h
theorem ERels.append {ρ : Ren} : ∀ {es : List (AV × AV × Nat)} {es' : List MapEntry} {fs : List (AV × AV × Nat)} {fs' : List MapEntry}, ERels ρ es es' → ERels ρ fs fs' → ERels ρ (es ++ fs) (es' ++ fs')
  | _, _, _, _, .nil, h => h
  | _, _, _, _, .cons _ _ _ _ _ _ _ h1 h2 hs, h => .cons _ _ _ _ _ _ _ h1 h2 (hs.append h)
theorem ERels.mod {ρ : Ren} {k v : AV} {b : Nat} {k' v' : Value} (hk : VRel ρ k k') (hv : VRel ρ v v') : ∀ {es : List (AV × AV × Nat)} {es' : List MapEntry}, ERels ρ es es' → ∀ (i : Nat) (f : MapEntry → MapEntry), (∀ e, es'[i]? = some e → f e = ⟨k', v', b⟩) →
    ERels ρ (modE es i (k, v, b)) (es'.modify i f)
  | _, _, .nil, i, f, _ => by cases i <;> exact .nil
  | _, _, .cons _ _ _ _ _ _ _ h1 h2 hs, 0, f, h => by
    unfold modE
    have := h _ rfl
    simp only [List.modify_zero_cons, this]
    exact .cons _ _ _ _ _ _ _ hk hv hs
  | _, _, .cons _ _ _ _ _ _ _ h1 h2 hs, i + 1, f, h => by
    unfold modE
    simp only [List.modify_succ_cons]
    exact .cons _ _ _ _ _ _ _ h1 h2 (hs.mod hk hv i f (fun e he => h e (by simpa using he)))
theorem ERels.del {ρ : Ren} : ∀ {es : List (AV × AV × Nat)} {es' : List MapEntry}, ERels ρ es es' → ∀ (i : Nat), ERels ρ (delE es i) (es'.eraseIdx i)
  | _, _, .nil, i => by cases i <;> exact .nil
  | _, _, .cons _ _ _ _ _ _ _ h1 h2 hs, 0 => by unfold delE; simpa using hs
  | _, _, .cons _ _ _ _ _ _ _ h1 h2 hs, i + 1 => by unfold delE; simpa using .cons _ _ _ _ _ _ _ h1 h2 (hs.del i)

theorem sameNow_eq {ρ : Ren} {n : Nat} {t : TypeId} {k e : AV} {k' e' : Value} {de : TypeDesc} {b b' : Bool} (hu : P.underlying t = some de) (h : eqT P (n + 1) t k e = some b) (hk : VRel ρ k k') (he : VRel ρ e e')
    (hs : Instr.sameNow de k' e' = some b') : b' = b := by
  unfold eqT at h
  rw [hu] at h
  split at h
  all_goals rename_i heq
  all_goals try (simp only [Option.some.injEq] at heq)
  · subst heq; injection h with h; subst h
    cases hk; cases he
    simpa [Instr.sameNow] using hs.symm
  · subst heq
    cases hk; cases he
    split at h
    · rename_i hk; injection h with h; subst h
      have := kEq_eq hk; subst this
      rw [iEq_eq]
      simpa [Instr.sameNow] using hs.symm
    · cases h
  · subst heq; injection h with h; subst h
    cases hk with | str s l e1 => cases he with | str s' l' e2 =>
    subst e1; subst e2
    rw [strEq_bytes]
    simp only [Instr.sameNow, Option.some.injEq] at hs
    rw [← hs]
    by_cases e : s = s'
    · subst e; rw [(Go.MapKept.bytes_beq s s).2 rfl]; simp
    · have e2 : s.data.toList ≠ s'.data.toList := fun h => e (by cases s; cases s'; simp at h; simp [h])
      have e3 : (s == s') = false := by cases e3 : (s == s') with | false => rfl | true => exact absurd ((Go.MapKept.bytes_beq s s').1 e3) e
      have e4 : (s.data.toList == s'.data.toList) = false := by simpa using fun h => e2 (by rw [h])
      rw [e3, e4]
  · subst heq; cases hs
  · subst heq; cases hs
  · cases h

/-- What a search came to. -/
def Found (es' : List MapEntry) (i0 : Nat) (es : List (AV × AV × Nat)) : Option (Nat × AV × AV × Nat) → Option (Nat × Value) → Prop
  | none, none => True
  | some (j, e), some (j', v') => j' = j ∧ i0 ≤ j ∧ es[j - i0]? = some e ∧ ∃ k', es'[j - i0]? = some ⟨k', v', e.2.2⟩
  | _, _ => False
theorem Found.succ {es' : List MapEntry} {i0 : Nat} {es : List (AV × AV × Nat)} {e0 : AV × AV × Nat} {e0' : MapEntry} {r : Option (Nat × AV × AV × Nat)} {r' : Option (Nat × Value)} (h : Found es' (i0 + 1) es r r') :
    Found (e0' :: es') i0 (e0 :: es) r r' := by
  cases r <;> cases r' <;> simp only [Found] at h ⊢
  rename_i x y
  obtain ⟨j, e⟩ := x
  obtain ⟨j', v'⟩ := y
  obtain ⟨h1, h2, h3, k', h4⟩ := h
  obtain ⟨m, rfl⟩ : ∃ m, j = i0 + 1 + m := ⟨j - (i0 + 1), by omega⟩
  have e1 : i0 + 1 + m - (i0 + 1) = m := by omega
  have e2 : i0 + 1 + m - i0 = m + 1 := by omega
  rw [e1] at h3 h4
  exact ⟨h1, by omega, by rw [e2]; simpa using h3, k', by rw [e2]; simpa using h4⟩

theorem find_run {ρ : Ren} {t : TypeId} {k : AV} {k' : Value} (hk : VRel ρ k k') {de : TypeDesc} (hu : P.underlying t = some de) : ∀ {es : List (AV × AV × Nat)} {es' : List MapEntry}, ERels ρ es es' → ∀ {i : Nat} {r : Option (Nat × AV × AV × Nat)},
    findE P t k es i = some r → ∃ r', Found es' i es r r' ∧ (Instr.findAsking t k' es' i).run P w = .ok r' w ∧ (∀ r'', Instr.findNow de k' es' i = some r'' → r'' = r')
  | _, _, .nil, i, r, h => by
    simp [findE] at h; subst h
    exact ⟨none, trivial, rfl, fun r'' e => by simp [Instr.findNow] at e; exact e.symm⟩
  | _, _, .cons kk v b kk' v' es es' h1 h2 hs, i, r, h => by
    unfold findE at h
    split at h
    · rename_i he
      injection h with h; subst h
      have e1 := run_eqT (w := w) 30 t k kk k' kk' true he hk h1 Op.maxDepth (by unfold Op.maxDepth; omega)
      refine ⟨some (i, v'), ⟨rfl, Nat.le_refl _, by simp, kk', by simp⟩, ?_, ?_⟩
      · unfold Instr.findAsking Op.equal
        simp only [Sem.run_bind, e1, Result.andThen_ok, if_true, Sem.run_pure]
      · intro r'' e
        unfold Instr.findNow at e
        split at e
        · injection e with e; exact e.symm
        · rename_i hn
          cases sameNow_eq hu he hk h1 hn
        · cases e
    · rename_i he
      have e1 := run_eqT (w := w) 30 t k kk k' kk' false he hk h1 Op.maxDepth (by unfold Op.maxDepth; omega)
      obtain ⟨r', g1, g2, g3⟩ := find_run hk hu hs h
      refine ⟨r', g1.succ, ?_, ?_⟩
      · unfold Instr.findAsking Op.equal
        simp only [Sem.run_bind, e1, Result.andThen_ok, Bool.false_eq_true, if_false, g2]
      · intro r'' e
        unfold Instr.findNow at e
        split at e
        · rename_i hn
          cases sameNow_eq hu he hk h1 hn
        · exact g3 r'' e
        · cases e
    · cases h

theorem findKey_run {ρ : Ren} {t : TypeId} {k : AV} {k' : Value} (hk : VRel ρ k k') {de : TypeDesc} (hu : P.underlying t = some de) {es : List (AV × AV × Nat)} {es' : List MapEntry} {r : Option (Nat × AV × AV × Nat)}
    (h : findE P t k es 0 = some r) (hs : ERels ρ es es') : ∃ r', Found es' 0 es r r' ∧ (Instr.findKey t k' es').run P w = .ok r' w := by
  obtain ⟨r', h1, h2, h3⟩ := find_run (w := w) hk hu hs h
  refine ⟨r', h1, ?_⟩
  unfold Instr.findKey
  simp only [Sem.run_bind, und_run hu, Result.andThen_ok]
  split
  · rename_i r'' e
    rw [h3 _ e]; rfl
  · exact h2

theorem keyFit_und {d : Nat} {t : TypeId} {k : AV} (h : keyFit P d t k = true) : ∃ de, P.underlying t = some de := by
  cases d with
  | zero => simp [keyFit] at h
  | succ d =>
    unfold keyFit at h
    cases hu : P.underlying t with
    | none => rw [hu] at h; cases h
    | some de => exact ⟨de, rfl⟩

/-- A map that is named. -/
theorem HRel.map {ρ : Ren} {h : H} (r : HRel P ρ h w) {b c : Nat} {es : List (AV × AV × Nat)} {clock : Nat} (hb : h.get b = some (.map es clock)) (hc : ρ b = some c) :
    ∃ es', w.heap[c]? = some (.map es' clock) ∧ ERels ρ es es'.toList := by
  obtain ⟨ob, h1, h2⟩ := r.obj b _ c hb (by simp) hc
  cases h2 with
  | map _ _ es' g => exact ⟨es', h1, g⟩

theorem lookup_core {ρ : Ren} {kt et : TypeId} {k v : AV} {k' : Value} {ok : Bool} {es : List (AV × AV × Nat)} {es' : Array MapEntry} (hf : keyFit P 30 kt k = true) (hk : VRel ρ k k') (e2 : ERels ρ es es'.toList)
    (hl : (match findE P kt k es 0 with
      | some (some (_, e)) => some (okPair ok e.2.1 true)
      | some none => match zeroVal P et with
        | some z => some (okPair ok z false)
        | none => none
      | none => none) = some v) :
    ∃ v', (do
      Instr.checkKey es'.isEmpty 10000 kt k'
      let (v, ok2) ← match ← Instr.findKey kt k' es'.toList with
        | some (_, v) => pure (v, true)
        | none => pure (← zeroValue et, false)
      pure (if ok then .tuple #[v, .bool ok2] else v) : Sem Value).run P w = .ok v' w ∧ VRel ρ v v' := by
  obtain ⟨de, hd⟩ := keyFit_und hf
  simp only [Sem.run_bind, checkKey_run (w := w) (em := es'.isEmpty) 30 kt k k' hf hk 10000 (by omega), Result.andThen_ok]
  split at hl
  · rename_i j e hfe
    injection hl with hl; subst hl
    obtain ⟨r', g1, g2⟩ := findKey_run (w := w) hk hd hfe e2
    rw [g2]
    cases r' with
    | none => exact g1.elim
    | some x =>
      obtain ⟨j', v'⟩ := x
      obtain ⟨q1, q2, q3, k2, q4⟩ := g1
      obtain ⟨k3, v3, q5, q6, q7⟩ := e2.get _ _ q3
      rw [q4] at q5
      injection q5 with q5; injection q5 with q5 q8 _; subst q8
      exact ⟨_, rfl, okPair_rel (ok := ok) (b := true) q7⟩
  · rename_i hfe
    split at hl
    · rename_i z hz
      injection hl with hl; subst hl
      obtain ⟨r', g1, g2⟩ := findKey_run (w := w) hk hd hfe e2
      rw [g2]
      cases r' with
      | some x => exact g1.elim
      | none =>
        obtain ⟨z', z1, z2⟩ := zeroVal_run (P := P) (w := w) hz
        refine ⟨_, ?_, okPair_rel (ok := ok) (b := false) (z2 ρ)⟩
        simp only [Result.andThen_ok, Sem.run_bind, z1, Sem.run_pure]
    · cases hl
  · cases hl

theorem run_lookupA {ρ : Ren} {h : H} {t : TypeId} {m k v : AV} {m' k' : Value} {ok : Bool} (r : HRel P ρ h w) (hl : lookupA P h t m k ok = some v) (hm : VRel ρ m m') (hk : VRel ρ k k') :
    ∃ v', (Instr.lookup t m' k' ok).run P w = .ok v' w ∧ VRel ρ v v' := by
  unfold lookupA at hl
  split at hl
  · rename_i kt et hu
    split at hl
    · rename_i es hf he
      unfold Instr.lookup
      simp only [Sem.run_bind, und_run hu, Result.andThen_ok]
      unfold entriesOf at he
      split at he
      · injection he with he; subst he
        cases hm
        obtain ⟨v', e1, e2⟩ := lookup_core (w := w) (es' := #[]) hf hk .nil hl
        refine ⟨v', ?_, e2⟩
        simp at e1 ⊢
        exact e1
      · cases hm with | map _ c hc =>
        split at he
        · rename_i es2 cl hg
          injection he with he; subst he
          obtain ⟨es', q1, q2⟩ := r.map hg hc
          obtain ⟨v', e1, e2⟩ := lookup_core (w := w) (es' := es') hf hk q2 hl
          refine ⟨v', ?_, e2⟩
          simp [getObj_run q1] at e1 ⊢
          exact e1
        · cases he
      · cases he
    · cases hl
  · cases hl
end
end Go.Ab

namespace Go.Ab
section
variable {P : Program}

theorem mkRead_read {nt : Nat} {f g : PT AV → H → Option AV} {dst : Option Tmp} {d : Tmp} (h : mkRead nt f dst = .read g d) : f = g ∧ dst = some d ∧ d < nt := by
  unfold mkRead at h
  split at h
  · split at h
    · rename_i hlt; injection h with h1 h2; subst h1; subst h2; exact ⟨rfl, rfl, lt_of_blt hlt⟩
    · cases h
  · cases h
theorem mkPure_read {nt : Nat} {f : PT AV → Option AV} {g : PT AV → H → Option AV} {dst : Option Tmp} {d : Tmp} (h : mkPure nt f dst = .read g d) : False := by
  unfold mkPure at h; split at h
  · split at h <;> cases h
  · cases h
theorem mkNew_read {nt : Nat} {f : PT AV → Nat → Option (AV × AO)} {g : PT AV → H → Option AV} {dst : Option Tmp} {d : Tmp} (h : mkNew nt f dst = .read g d) : False := by
  unfold mkNew at h; split at h
  · split at h <;> cases h
  · cases h
theorem mkEff_read {nt : Nat} {f : PT AV → H → Option (R × H)} {g : PT AV → H → Option AV} {dst : Option Tmp} {d : Tmp} (h : mkEff nt f dst = .read g d) : False := by
  unfold mkEff at h; split at h
  · split at h <;> cases h
  · cases h

/-- What a reading operation does. -/
def ReadAt (P : Program) (o : Oper) (f : PT AV → H → Option AV) : Prop := ∀ (ρ : Ren) (tm : PT AV) (a : Act) (h : H) (w : World) (v : AV), HRel P ρ h w → ORels P ρ tm a o.op.operands.toList → f tm h = some v →
  ∃ v', (execOp a.eval o).run P w = .ok (.value v') w ∧ VRel ρ v v'

theorem at_load {o : Oper} {t : TypeId} {x : Operand} (ho : o.op = .load t x) : ReadAt P o (rLoad P t x) := by
  intro ρ tm a h w v r hr hf
  rw [ho] at hr
  unfold rLoad at hf
  split at hf
  · rename_i b off hx
    have hv := hr x (by simp [Op.operands]) _ hx
    have hop : execOp a.eval o = (do pure (.value (← Instr.loadAt t (a.eval x)))) := by unfold execOp; rw [ho]
    rw [hop]
    generalize a.eval x = x' at *
    cases hv with | ptr _ _ c hc =>
    obtain ⟨v', e1, e2⟩ := run_loadA r hc hf
    refine ⟨v', value_run ?_, e2⟩
    unfold Instr.loadAt Instr.sureAddr
    simpa using e1
  · cases hf
theorem at_lookup {o : Oper} {t : TypeId} {x i : Operand} {ok : Bool} (ho : o.op = .lookup t x i ok) : ReadAt P o (rLookup P t x i ok) := by
  intro ρ tm a h w v r hr hf
  rw [ho] at hr
  unfold rLookup at hf
  split at hf
  · rename_i m k hm hk
    obtain ⟨v', e1, e2⟩ := run_lookupA (w := w) r hf (hr x (by simp [Op.operands]) _ hm) (hr i (by simp [Op.operands]) _ hk)
    refine ⟨v', ?_, e2⟩
    unfold execOp; rw [ho]
    exact value_run e1
  · cases hf

theorem bornAt_get {b : Nat} : ∀ {es : List (AV × AV × Nat)} {i j : Nat} {e : AV × AV × Nat}, bornAt b es i = some (j, e) → i ≤ j ∧ es[j - i]? = some e ∧ e.2.2 = b ∧ ∀ m, m < j - i → ∀ x, es[m]? = some x → x.2.2 ≠ b
  | [], i, j, e, h => by simp [bornAt] at h
  | x :: es, i, j, e, h => by
    unfold bornAt at h
    split at h
    · rename_i hb
      injection h with h; injection h with h1 h2; subst h1; subst h2
      exact ⟨Nat.le_refl _, by simp, Nat.eq_of_beq_eq_true hb, fun m hm => by omega⟩
    · rename_i hb
      obtain ⟨h1, h2, h3, h4⟩ := bornAt_get h
      obtain ⟨d, rfl⟩ : ∃ d, j = i + 1 + d := ⟨j - (i + 1), by omega⟩
      have e1 : i + 1 + d - (i + 1) = d := by omega
      have e2 : i + 1 + d - i = d + 1 := by omega
      rw [e1] at h2 h4
      refine ⟨by omega, by rw [e2]; simpa using h2, h3, fun m hm y hy => ?_⟩
      cases m with
      | zero => simp at hy; subst hy; intro hbb; rw [nbeq_t hbb] at hb; cases hb
      | succ m => exact h4 m (by omega) y (by simpa using hy)

/-- An iterator that is named. -/
theorem HRel.miter {ρ : Ren} {h : H} {w : World} (r : HRel P ρ h w) {b c m since st : Nat} {seen : List Nat} (hb : h.get b = some (.miter (some m) since seen st)) (hc : ρ b = some c) :
    ∃ mc, ∃ seen' : Array Nat, w.heap[c]? = some (.mapIter (some mc) since seen' st) ∧ ρ m = some mc ∧ seen'.toList = seen := by
  obtain ⟨ob, h1, h2⟩ := r.obj b _ c hb (by simp) hc
  cases h2 with
  | miter _ mc _ _ _ seen' g1 g2 => exact ⟨mc, seen', h1, g1, g2⟩

theorem lastN_back : ∀ {l : List Nat} {x : Nat}, lastN l = some x → l.getLast? = some x
  | [], _, h => by simp [lastN] at h
  | [y], x, h => by simp [lastN] at h; simp [h]
  | y :: z :: l, x, h => by
    unfold lastN at h
    rw [List.getLast?_cons_cons]
    exact lastN_back h

theorem ERels.find {ρ : Ren} {b : Nat} : ∀ {es : List (AV × AV × Nat)} {es' : List MapEntry}, ERels ρ es es' → ∀ {i j : Nat} {e : AV × AV × Nat}, bornAt b es i = some (j, e) →
    ∃ k' v', es'.find? (fun e => e.born == b) = some ⟨k', v', e.2.2⟩ ∧ VRel ρ e.1 k' ∧ VRel ρ e.2.1 v'
  | _, _, .nil, i, j, e, h => by simp [bornAt] at h
  | _, _, .cons k v c k' v' es es' h1 h2 hs, i, j, e, h => by
    unfold bornAt at h
    split at h
    · rename_i hb
      injection h with h; injection h with g1 g2; subst g1; subst g2
      have := Nat.eq_of_beq_eq_true hb
      exact ⟨k', v', by rw [List.find?_cons_of_pos (by simpa using this)], h1, h2⟩
    · rename_i hb
      obtain ⟨k2, v2, q1, q2, q3⟩ := hs.find h
      refine ⟨k2, v2, ?_, q2, q3⟩
      rw [List.find?_cons_of_neg]
      · exact q1
      · intro hc; simp at hc; rw [nbeq_t hc] at hb; cases hb

theorem at_entry {o : Oper} {x : Operand} (ho : o.op = .entry x) : ReadAt P o (rEntry P x) := by
  intro ρ tm a h w v r hr hf
  rw [ho] at hr
  unfold rEntry at hf
  split at hf
  · rename_i u hx
    have hv := hr x (by simp [Op.operands]) _ hx
    have hop : execOp a.eval o = (do pure (.value (← Instr.entry (a.eval x)))) := by unfold execOp; rw [ho]
    rw [hop]
    generalize a.eval x = x' at *
    unfold entryA at hf
    split at hf
    · rename_i b
      cases hv with | ptr _ _ c hc =>
      split at hf
      · rename_i m since seen st hg
        split at hf
        · rename_i stamp es clock hl hm
          split at hf
          · rename_i hcl
            have hcl := Nat.eq_of_beq_eq_true hcl
            subst hcl
            split at hf
            · rename_i j e hb
              injection hf with hf; subst hf
              obtain ⟨mc, seen', g1, g2, g3⟩ := r.miter hg hc
              obtain ⟨es', q1, q2⟩ := r.map hm g2
              obtain ⟨k2, v2, p1, p2, p3⟩ := q2.find hb
              refine ⟨.tuple #[k2, v2], value_run ?_, .tuple _ _ (.cons _ _ _ _ p2 (.cons _ _ _ _ p3 .nil))⟩
              have hback : seen'.back? = some stamp := by
                rw [← Array.getLast?_toList, g3]; exact lastN_back hl
              have hfind : es'.find? (fun e => e.born == stamp) = some ⟨k2, v2, e.2.2⟩ := by rw [← Array.find?_toList]; exact p1
              unfold Instr.entry
              simp [getObj_run g1, getObj_run q1, hback, hfind]
            · cases hf
          · cases hf
        · cases hf
      · cases hf
    · cases hf
  · cases hf

theorem at_len {o : Oper} {c : Call} {x : Operand} (ho : o.op = .call c) (hc : c.callee = .builtin .len) (ha : c.args.toList = [x]) : ReadAt P o (rLen P c.argTypes x) := by
  intro ρ tm a h w v r hr hf
  rw [ho] at hr
  have ha' : c.args.map a.eval = #[a.eval x] := by rw [← Array.toList_inj]; simp [ha]
  have hop := builtin_exec (P := P) (a := a) (w := w) ho hc
  rw [ha'] at hop
  rw [hop]
  have hv := fun u hu => hr x (call_args (by rw [ha]; simp)) u hu
  generalize a.eval x = x' at *
  unfold rLen at hf
  split at hf
  · rename_i u hx
    have hv := hv _ hx
    unfold lenOfA at hf
    split at hf
    · cases hf
    · rename_i t ht
      have key : ∃ v', (Builtin.len_ c.argTypes o.type #[x']).run P w = .ok v' w ∧ VRel ρ v v' := by
        unfold Builtin.len_
        split at hf
        · rename_i hu; injection hf with hf; subst hf
          cases hv
          exact ⟨_, by simp [ht, und_run hu]; rfl, .int _ _⟩
        · rename_i hu; injection hf with hf; subst hf
          cases hv
          exact ⟨_, by simp [ht, und_run hu]; rfl, .int _ _⟩
        · rename_i hu; injection hf with hf; subst hf
          cases hv with | str s l e =>
          subst e
          refine ⟨goInt s.size, by simp [ht, und_run hu], ?_⟩
          have : (s.data.toList.map UInt8.toNat).length = s.size := by simp
          rw [this]; exact .int _ _
        · rename_i n e hu; injection hf with hf; subst hf
          exact ⟨goInt n, by simp [ht, und_run hu], .int _ _⟩
        · rename_i ar hu
          split at hf
          · rename_i n e hu2; injection hf with hf; subst hf
            exact ⟨goInt n, by simp [ht, und_run hu, und_run hu2], .int _ _⟩
          · cases hf
        · rename_i hu; injection hf with hf; subst hf
          cases hv
          exact ⟨_, by simp [ht, und_run hu]; rfl, .int _ _⟩
        · rename_i hu
          split at hf
          · rename_i es cl hg
            injection hf with hf; subst hf
            cases hv with | map _ c hc =>
            obtain ⟨es', q1, q2⟩ := r.map hg hc
            refine ⟨goInt es'.size, by simp [ht, und_run hu, getObj_run q1], ?_⟩
            have := q2.length
            simp at this
            rw [this]; exact .int _ _
          · cases hf
        · cases hf
      obtain ⟨v', e1, e2⟩ := key
      exact ⟨v', value_run e1, e2⟩
  · cases hf

theorem rfin {nt : Nat} {o : Oper} {f g : PT AV → H → Option AV} {d : Tmp} (h : mkRead nt f o.dst = .read g d) (hp : ReadAt P o f) : o.dst = some d ∧ d < nt ∧ ReadAt P o g := by
  obtain ⟨h1, h2, h3⟩ := mkRead_read h
  subst h1
  exact ⟨h2, h3, hp⟩

theorem compBuiltin_read {nt : Nat} {b : Builtin} {c : Call} {o : Oper} {g : PT AV → H → Option AV} {d : Tmp} (ho : o.op = .call c) (hc : c.callee = .builtin b) (h : compBuiltin P nt b c.argTypes c.args.toList o.dst = .read g d) :
    o.dst = some d ∧ d < nt ∧ ReadAt P o g := by
  unfold compBuiltin at h
  split at h <;> first
    | exact (mkPure_read h).elim
    | exact (mkEff_read h).elim
    | cases h
    | exact rfin h (at_len ho hc (by assumption))
    | skip
  · split at h
    · split at h
      · exact (mkPure_read h).elim
      · cases h
    · cases h
  · split at h
    · exact (mkEff_read h).elim
    · cases h

theorem compCall_read {nt : Nat} {c : Call} {o : Oper} {g : PT AV → H → Option AV} {d : Tmp} (ho : o.op = .call c) (h : compCall P nt c o.dst = .read g d) :
    o.dst = some d ∧ d < nt ∧ ReadAt P o g := by
  unfold compCall at h
  split at h <;> first
    | exact (mkEff_read h).elim
    | exact compBuiltin_read ho (by assumption) h

theorem compField_read {nt f : Nat} {t : TypeId} {x : Operand} {addr : Bool} {dst : Option Tmp} {g : PT AV → H → Option AV} {d : Tmp}
    (h : compField P nt t x f addr dst = .read g d) : False := by
  unfold compField at h
  split at h
  · split at h
    · split at h
      · split at h
        · cases h
        · exact mkPure_read h
        · exact mkPure_read h
      · cases h
    · cases h
  · cases h

theorem comp_read {nt : Nat} {o : Oper} {g : PT AV → H → Option AV} {d : Tmp} (h : compOp P nt o = .read g d) : o.dst = some d ∧ d < nt ∧ ReadAt P o g := by
  unfold compOp at h
  split at h <;> first
    | exact (mkPure_read h).elim
    | exact (mkEff_read h).elim
    | exact (mkNew_read h).elim
    | cases h
    | exact rfin h (at_load (by assumption))
    | exact rfin h (at_lookup (by assumption))
    | exact rfin h (at_entry (by assumption))
    | exact compCall_read (by assumption) h
    | exact (compField_read h).elim
    | skip
  · split at h
    · exact (mkEff_read h).elim
    · exact (mkPure_read h).elim
  · split at h
    · exact (mkEff_read h).elim
    · cases h
end
end Go.Ab

namespace Go.Ab
section
variable {P : Program}

theorem mkNew_new {nt : Nat} {f g : PT AV → Nat → Option (AV × AO)} {dst : Option Tmp} {d : Tmp} (h : mkNew nt f dst = .new g d) : f = g ∧ dst = some d ∧ d < nt := by
  unfold mkNew at h
  split at h
  · split at h
    · rename_i hlt; injection h with h1 h2; subst h1; subst h2; exact ⟨rfl, rfl, lt_of_blt hlt⟩
    · cases h
  · cases h
theorem mkPure_new {nt : Nat} {f : PT AV → Option AV} {g : PT AV → Nat → Option (AV × AO)} {dst : Option Tmp} {d : Tmp} (h : mkPure nt f dst = .new g d) : False := by
  unfold mkPure at h; split at h
  · split at h <;> cases h
  · cases h
theorem mkRead_new {nt : Nat} {f : PT AV → H → Option AV} {g : PT AV → Nat → Option (AV × AO)} {dst : Option Tmp} {d : Tmp} (h : mkRead nt f dst = .new g d) : False := by
  unfold mkRead at h; split at h
  · split at h <;> cases h
  · cases h
theorem mkEff_new {nt : Nat} {f : PT AV → H → Option (R × H)} {g : PT AV → Nat → Option (AV × AO)} {dst : Option Tmp} {d : Tmp} (h : mkEff nt f dst = .new g d) : False := by
  unfold mkEff at h; split at h
  · split at h <;> cases h
  · cases h

/-- What an operation that makes new memory does. -/
def NewAt (P : Program) (o : Oper) (f : PT AV → Nat → Option (AV × AO)) : Prop := ∀ (ρ : Ren) (tm : PT AV) (a : Act) (w : World) (n : Nat) (v : AV) (ao : AO), ρ n = none → ORels P ρ tm a o.op.operands.toList → f tm n = some (v, ao) →
  ∃ v' ob, (execOp a.eval o).run P w = .ok (.value v') { w with heap := w.heap.push ob } ∧ VRel (ρ.add n w.heap.size 0) v v' ∧ ORel (ρ.add n w.heap.size 0) ao ob

theorem cellAt_writeN {n : Nat} {z : List AV} (hn : z = [] ∨ n ≤ 1073741824) {i : Nat} {v : AV} : ∀ (cs : List AV) (tr : PT AV) (off : Nat), cellAt n z (writeN tr off cs) i = some v →
    (∃ j, i = off + j ∧ cs[j]? = some v) ∨ ((∀ j, j < cs.length → i ≠ off + j) ∧ cellAt n z tr i = some v)
  | [], _, _, h => .inr ⟨fun j hj => by simp at hj, h⟩
  | c :: cs, tr, off, h => by
    unfold writeN at h
    rcases cellAt_writeN hn cs _ _ h with ⟨j, e1, e2⟩ | ⟨h0, h⟩
    · exact .inl ⟨j + 1, by omega, by simpa using e2⟩
    · rcases cellAt_set hn h with ⟨rfl, rfl, _⟩ | ⟨h1, h⟩
      · exact .inl ⟨0, rfl, by simp⟩
      · refine .inr ⟨fun j hj => ?_, h⟩
        cases j with
        | zero => simpa using h1
        | succ j => have := h0 j (by simpa using hj); omega
theorem cellAt_nil {n i : Nat} {v : AV} (h : cellAt n [] .nil i = some v) : False := by
  unfold cellAt at h
  split at h
  · rw [PT.get_nil] at h; simp [zAt] at h
  · cases h
theorem cellAt_new {n i : Nat} {cs : List AV} {v : AV} (h : cellAt n [] (writeN .nil 0 cs) i = some v) : cs[i]? = some v := by
  rcases cellAt_writeN (.inl rfl) cs _ _ h with ⟨j, e1, e2⟩ | ⟨_, h⟩
  · rw [e1]; simpa using e2
  · exact (cellAt_nil h).elim
theorem cells_new {ρ : Ren} {e : TypeId} {cs : List AV} {cs' : Array Value} (h : VRels ρ cs cs'.toList) : ORel ρ (.row e cs.length true false [] (writeN .nil 0 cs)) (.cells cs' e (0, 0)) := by
  have hl := h.length
  simp at hl
  refine .row _ _ _ _ _ _ _ _ (fun _ => hl.symm) (by omega) ?_ (fun _ => .inl rfl)
  intro i v hv
  obtain ⟨v', e1, e2⟩ := h.get i v (cellAt_new hv)
  exact ⟨v', by simpa using e1, e2⟩

theorem allSame_eq {x : AV} : ∀ {xs : List AV}, allSame x xs = true → ∀ y ∈ xs, y = x
  | [], _ => by simp
  | y :: ys, h => by
    unfold allSame at h
    split at h
    · rename_i a b
      split at h
      · rename_i hb
        have := Nat.eq_of_beq_eq_true hb
        subst this
        intro z hz
        rcases List.mem_cons.1 hz with rfl | hz
        · rfl
        · exact allSame_eq h z hz
      · cases h
    · cases h
theorem zAt_uniform {z : List AV} {i : Nat} {v : AV} (h : zAt (uniform z) i = some v) : z[i % z.length]? = some v := by
  unfold uniform at h
  split at h
  · simp [zAt] at h
  · rename_i x xs
    split at h
    · rename_i hs
      simp only [zAt] at h
      injection h with h; subst h
      have hlt : i % (x :: xs).length < (x :: xs).length := Nat.mod_lt _ (by simp)
      rw [List.getElem?_eq_getElem hlt]
      have := List.getElem_mem hlt
      rcases List.mem_cons.1 this with e | e
      · rw [e]
      · rw [allSame_eq hs _ e]
    · cases xs with
      | nil => rename_i hs; simp [allSame] at hs
      | cons y ys => simpa [zAt] using h
theorem cellAt_uniform {n i : Nat} {z : List AV} {v : AV} (h : cellAt n (uniform z) .nil i = some v) : i < n ∧ z[i % z.length]? = some v := by
  unfold cellAt at h
  split at h
  · rename_i hlt
    rw [PT.get_nil] at h
    exact ⟨lt_of_blt hlt, zAt_uniform h⟩
  · cases h

theorem at_alloc {o : Oper} {e : TypeId} (ho : o.op = .alloc e) : NewAt P o (aAlloc P e) := by
  intro ρ tm a w n v ao hn hr h
  unfold aAlloc at h
  split at h
  · rename_i z hz
    injection h with h; injection h with h1 h2; subst h1; subst h2
    obtain ⟨zv, e1, e2⟩ := zeroOf_run (P := P) (w := w) hz
    refine ⟨.pointer (some ⟨w.heap.size, 0, none⟩), .cells zv.cells e (0, 0), ?_, .ptr _ _ _ (Ren.add_eq _ _ _ _), ?_⟩
    · unfold execOp; rw [ho]
      refine value_run ?_
      unfold Instr.alloc newVar Go.newRow
      simp [e1]
    · have e2 := e2 (ρ.add n w.heap.size 0)
      have hl := e2.length
      simp at hl
      refine .row _ _ _ _ _ _ _ _ (fun _ => hl.symm) (by omega) ?_ (fun _ => .inl rfl)
      intro i v hv
      obtain ⟨g1, g2⟩ := cellAt_uniform hv
      rw [Nat.mod_eq_of_lt g1] at g2
      obtain ⟨v', q1, q2⟩ := e2.get _ _ g2
      exact ⟨v', by simpa using q1, q2⟩
  · cases h

theorem at_box {o : Oper} {e : TypeId} {x : Operand} (ho : o.op = .box e x) : NewAt P o (aBox P e x) := by
  intro ρ tm a w n v ao hn hr h
  rw [ho] at hr
  unfold aBox at h
  split at h
  · rename_i u hu
    injection h with h; injection h with h1 h2; subst h1; subst h2
    refine ⟨.pointer (some ⟨w.heap.size, 0, none⟩), .cells (a.eval x).cells e (0, 0), ?_, .ptr _ _ _ (Ren.add_eq _ _ _ _), ?_⟩
    · unfold execOp; rw [ho]
      refine value_run ?_
      unfold Instr.box newVar Go.newRow
      simp
    · exact cells_new ((hr x (by simp [Op.operands]) _ hu).cells.mono (Ren.add_mono hn))
  · cases h

theorem at_makeMap {o : Oper} {t : TypeId} {r : Option Operand} (ho : o.op = .makeMap t r) : NewAt P o (aMakeMap r) := by
  intro ρ tm a w n v ao hn hr h
  unfold aMakeMap at h
  split at h
  · injection h with h; injection h with h1 h2; subst h1; subst h2
    refine ⟨.map (some w.heap.size), .map #[] 0, ?_, .map _ _ (Ren.add_eq _ _ _ _), .map _ _ _ .nil⟩
    unfold execOp; rw [ho]
    refine value_run ?_
    unfold Instr.makeMap
    simp
  · cases h

theorem zrel_get {ρ : Ren} {z : List AV} {z' : Array Value} (hz : VRels ρ z z'.toList) {i : Nat} {v : AV} (h : z[i % z.length]? = some v) : VRel ρ v (z'[i % z'.size]!) := by
  have hl := hz.length
  simp at hl
  obtain ⟨v', q1, q2⟩ := hz.get _ _ h
  rw [hl] at q1
  have q1 : z'[i % z'.size]? = some v' := by simpa using q1
  have : z'[i % z'.size]! = v' := by rw [getElem!_def, q1]
  rw [this]; exact q2

theorem wrap_small {c : Nat} (h : c ≤ 1048576) : IntKind.i64.wrap (Int.ofNat c) = Int.ofNat c := by
  have := wrapI_eq .i64 (Int.ofNat c)
  rw [← this]
  unfold wrapI
  have h2 : Nat.ble c 9223372036854775807 = true := Nat.ble_eq_true_of_le (by omega)
  simp only [h2]

theorem at_makeSlice {o : Oper} {t : TypeId} {l c : Operand} (ho : o.op = .makeSlice t l c) : NewAt P o (aMakeSlice P t l c) := by
  intro ρ tm a w n v ao hn hr h
  rw [ho] at hr
  unfold aMakeSlice at h
  split at h
  · rename_i e k1 l' k2 c' hu hl hc
    split at h
    · rename_i i h1 h2 hi
      split at h
      · rename_i z h3 hz
        split at h
        · rename_i h4
          injection h with h; injection h with g1 g2; subst g1; subst g2
          have h1 := Nat.le_of_ble_eq_true h1
          have h2 := Nat.le_of_ble_eq_true h2
          have h3 := Nat.le_of_ble_eq_true h3
          have h4 := Nat.eq_of_beq_eq_true h4
          have vl := hr l (by simp [Op.operands]) _ hl
          have vc := hr c (by simp [Op.operands]) _ hc
          have hop : execOp a.eval o = (do pure (.value (← Instr.makeSlice t (a.eval l) (a.eval c)))) := by unfold execOp; rw [ho]
          rw [hop]
          generalize a.eval l = xl at *
          generalize a.eval c = xc at *
          cases vl; cases vc
          obtain ⟨zv, e1, e2⟩ := zeroOf_run (P := P) (w := w) hz
          have hs : szOf P e = some i.size := by unfold szOf; rw [hi]
          let N := c' * i.size
          let zz : Array Value := if N = 0 then #[] else zv.cells
          refine ⟨.slice (some ⟨w.heap.size, 0, none⟩) l' c', .cells ((Array.range N).map (zz[· % zz.size]!)) e (0, 0), value_run ?_, ?_, ?_⟩
          · unfold Instr.makeSlice
            have p48 : (2 : Int) ^ 48 = ((281474976710656 : Nat) : Int) := by decide
            have b1 : ((i.bytes : Nat) : Int) * (c' : Int) ≤ 2 ^ 48 := by
              have := Nat.mul_le_mul h3 h2
              have hh : i.bytes * c' ≤ 281474976710656 := by omega
              rw [p48, ← Int.natCast_mul]; exact Int.ofNat_le.2 hh
            simp only [Sem.run_bind, und_run hu, Result.andThen_ok, asInt, asIntOf, Sem.run_pure, info_run hi, wrap_small h2, wrap_small (Nat.le_trans h1 h2), sz_run hs]
            have b2 : ¬ (((i.bytes : Nat) : Int) * (Int.ofNat c') > 2 ^ 48) := Int.not_lt.2 b1
            have b3 : ¬ (Int.ofNat c' < 0) := by simp
            have b4 : ¬ (Int.ofNat l' < 0) := by simp
            have b5 : ¬ (Int.ofNat l' > Int.ofNat c') := by simp; omega
            simp only [b2, b3, b4, b5, decide_false, Bool.or_false, Bool.false_eq_true, if_false, Sem.run_bind, Sem.run_pure, Result.andThen_ok, run_askRoom]
            have b6 : (Int.ofNat c').toNat = c' := rfl
            have b7 : (Int.ofNat l').toNat = l' := rfl
            rw [b6, b7]
            simp only [Sem.run_bind, sz_run hs, Result.andThen_ok]
            by_cases hN : c' * i.size = 0
            · have hz0 : zz = #[] := if_pos hN
              rw [if_pos hN, hz0]
              simp only [Sem.run_bind, Sem.run_pure, Result.andThen_ok]
              rfl
            · have hz0 : zz = zv.cells := if_neg hN
              rw [if_neg hN, hz0]
              simp only [Sem.run_bind, Sem.run_pure, Result.andThen_ok, e1]
              rfl
          · exact .sl _ _ _ _ _ _ h1 (fun d hd => by injection hd) (.inr ⟨_, Ren.add_eq _ _ _ _, rfl⟩) (fun hc => by cases hc)
          · refine .row _ _ _ _ _ _ _ _ (fun _ => by simp [N]) (by simp [N]) ?_ (fun _ => .inl rfl)
            intro j v hv
            obtain ⟨q1, q2⟩ := cellAt_uniform hv
            have hN : N ≠ 0 := by show c' * i.size ≠ 0; omega
            refine ⟨zz[j % zz.size]!, by simp [N, q1], ?_⟩
            have : zz = zv.cells := if_neg hN
            rw [this]
            exact zrel_get (e2 _) q2
        · cases h
      · cases h
    · cases h
  · cases h

theorem repl_get {z : List AV} : ∀ (n i : Nat) (v : AV), (repl z n)[i]? = some v → z[i % z.length]? = some v ∧ i < n * z.length
  | 0, i, v, h => by simp [repl] at h
  | n + 1, i, v, h => by
    unfold repl at h
    by_cases hi : i < z.length
    · rw [List.getElem?_append_left hi] at h
      rw [Nat.mod_eq_of_lt hi]
      exact ⟨h, by rw [Nat.succ_mul]; omega⟩
    · rw [List.getElem?_append_right (by omega)] at h
      obtain ⟨h1, h2⟩ := repl_get n _ v h
      rw [Nat.mod_eq_sub_mod (by omega)]
      exact ⟨h1, by rw [Nat.succ_mul]; omega⟩
theorem repl_length {z : List AV} : ∀ (n : Nat), (repl z n).length = n * z.length
  | 0 => by simp [repl]
  | n + 1 => by unfold repl; rw [List.length_append, repl_length n, Nat.succ_mul]; omega
theorem repl_rel {ρ : Ren} {z : List AV} {z' : Array Value} (hz : VRels ρ z z'.toList) (n N : Nat) (hN : N = n * z.length) : VRels ρ (repl z n) (((Array.range N).map (z'[· % z'.size]!))).toList := by
  refine VRels.of_get (by simp [repl_length, hN]) fun i v hv => ?_
  obtain ⟨h1, h2⟩ := repl_get n i v hv
  exact ⟨_, by simp [hN, h2], zrel_get hz h1⟩

theorem at_buildSlice {o : Oper} {t : TypeId} {len : Nat} {ps : Array (Nat × Operand)} (ho : o.op = .buildSlice t len ps) : NewAt P o (aBuildSlice P t len ps.toList) := by
  intro ρ tm a w n v ao hn hr h
  rw [ho] at hr
  unfold aBuildSlice at h
  split at h
  · rename_i vs e hvs hu
    split at h
    · cases h
    · rename_i size hs
      split at h
      · rename_i z hle hz
        have hle := Nat.le_of_ble_eq_true hle
        split at h
        · rename_i hzl
          split at h
          · rename_i cs hf
            injection h with h; injection h with g1 g2; subst g1; subst g2
            obtain ⟨h1, h2⟩ := parts_rel (a := a) (fun y hy => hr y (by simpa [Op.operands] using hy)) hvs
            let ps' : Array (Nat × Value) := ps.map fun (i, x) => (i, a.eval x)
            -- the zeros
            have hzz : ∃ z' : Array Value, ((len * size = 0 ∧ z' = #[]) ∨ (len * size ≠ 0 ∧ ∃ zv, (zeroValue e).run P w = .ok zv w ∧ z' = zv.cells)) ∧ VRels ρ (repl z len) (((Array.range (len * size)).map (z'[· % z'.size]!))).toList := by
              by_cases h0 : len * size = 0
              · rw [h0] at hz
                injection hz with hz; subst hz
                refine ⟨#[], .inl ⟨h0, rfl⟩, ?_⟩
                refine repl_rel (z' := #[]) .nil len _ (by simp [h0])
              · have hz2 : zeroOf P e = some z := by
                  unfold sliceZero at hz
                  split at hz
                  · exact absurd (by assumption) h0
                  · exact hz
                obtain ⟨zv, e1, e2⟩ := zeroOf_run (P := P) (w := w) hz2
                refine ⟨zv.cells, .inr ⟨h0, zv, e1, rfl⟩, repl_rel (e2 ρ) len _ ?_⟩
                have : z.length = size := by
                  simp only [Bool.or_eq_true, Nat.beq_eq] at hzl
                  exact hzl.resolve_right h0
                rw [this]
            obtain ⟨z', z1, z2⟩ := hzz
            obtain ⟨out', e1, e2⟩ := fill_rel (ps' := ps'.toList) (by rw [h1]; simp [ps', Function.comp_def]) (by simpa [ps', Function.comp_def] using h2) z2 hf
            refine ⟨.slice (some ⟨w.heap.size, 0, none⟩) len len, .cells out' e (0, 0), ?_, ?_, ?_⟩
            · unfold execOp; rw [ho]
              refine value_run ?_
              unfold Instr.buildSlice
              simp only [Sem.run_bind, und_run hu, Result.andThen_ok, sz_run hs]
              rw [if_neg (by omega)]
              have hps : (ps.map fun x => match x with | (i, x) => (i, a.eval x)).toList = ps'.toList := rfl
              rcases z1 with ⟨h0, rfl⟩ | ⟨h0, zv, hz, rfl⟩
              · rw [if_pos h0]
                simp only [Sem.run_bind, Sem.run_pure, Result.andThen_ok]
                erw [hps, e1]
                rfl
              · rw [if_neg h0]
                simp only [Sem.run_bind, Sem.run_pure, Result.andThen_ok, hz]
                erw [hps, e1]
                rfl
            · exact .sl _ _ _ _ _ _ (Nat.le_refl _) (fun d hd => by injection hd) (.inr ⟨_, Ren.add_eq _ _ _ _, rfl⟩) (fun hc => by cases hc)
            · exact cells_new (e2.mono (Ren.add_mono hn))
          · cases h
        · cases h
      · cases h
  · cases h

theorem nfin {nt : Nat} {o : Oper} {f g : PT AV → Nat → Option (AV × AO)} {d : Tmp} (h : mkNew nt f o.dst = .new g d) (hp : NewAt P o f) : o.dst = some d ∧ d < nt ∧ NewAt P o g := by
  obtain ⟨h1, h2, h3⟩ := mkNew_new h
  subst h1
  exact ⟨h2, h3, hp⟩

theorem compBuiltin_new {nt : Nat} {b : Builtin} {c : Call} {dst : Option Tmp} {g : PT AV → Nat → Option (AV × AO)} {d : Tmp} (h : compBuiltin P nt b c.argTypes c.args.toList dst = .new g d) : False := by
  unfold compBuiltin at h
  split at h <;> first
    | exact (mkPure_new h).elim
    | exact (mkEff_new h).elim
    | exact (mkRead_new h).elim
    | cases h
    | skip
  · split at h
    · split at h
      · exact (mkPure_new h).elim
      · cases h
    · cases h
  · split at h
    · exact (mkEff_new h).elim
    · cases h
theorem compCall_new {nt : Nat} {c : Call} {dst : Option Tmp} {g : PT AV → Nat → Option (AV × AO)} {d : Tmp} (h : compCall P nt c dst = .new g d) : False := by
  unfold compCall at h
  split at h <;> first
    | exact (mkEff_new h).elim
    | exact compBuiltin_new h
theorem compField_new {nt f : Nat} {t : TypeId} {x : Operand} {addr : Bool} {dst : Option Tmp} {g : PT AV → Nat → Option (AV × AO)} {d : Tmp}
    (h : compField P nt t x f addr dst = .new g d) : False := by
  unfold compField at h
  split at h
  · split at h
    · split at h
      · split at h
        · cases h
        · exact mkPure_new h
        · exact mkPure_new h
      · cases h
    · cases h
  · cases h
theorem comp_new {nt : Nat} {o : Oper} {g : PT AV → Nat → Option (AV × AO)} {d : Tmp} (h : compOp P nt o = .new g d) : o.dst = some d ∧ d < nt ∧ NewAt P o g := by
  unfold compOp at h
  split at h <;> first
    | exact (mkPure_new h).elim
    | exact (mkEff_new h).elim
    | exact (mkRead_new h).elim
    | cases h
    | exact nfin h (at_alloc (by assumption))
    | exact nfin h (at_box (by assumption))
    | exact nfin h (at_makeMap (by assumption))
    | exact nfin h (at_makeSlice (by assumption))
    | exact nfin h (at_buildSlice (by assumption))
    | exact (compCall_new h).elim
    | exact (compField_new h).elim
    | skip
  · split at h
    · exact (mkEff_new h).elim
    · exact (mkPure_new h).elim
  · split at h
    · exact (mkEff_new h).elim
    · cases h
end
end Go.Ab

namespace Go.Ab
section
variable {P : Program}

/-- A deferred call. -/
def DRel (ρ : Ren) : D → Deferred → Prop
  | .fn f args, d => ∃ cap' : Array Value, d.target = .fn (.func f) cap' ∧ VRels ρ args (d.args ++ cap').toList
  | .mark r, d => ∃ c, ρ r = some c ∧ d = ⟨.collected c, #[]⟩
theorem DRel.mono {ρ ρ' : Ren} (hρ : ρ.le ρ') {d : D} {d' : Deferred} (h : DRel ρ d d') : DRel ρ' d d' := by
  cases d with
  | fn f args => obtain ⟨c, h1, h2⟩ := h; exact ⟨c, h1, h2.mono hρ⟩
  | mark r => obtain ⟨c, h1, h2⟩ := h; exact ⟨c, (hρ _ _ h1).1, h2⟩

/-- What an operation with an effect comes to. -/
def Came (P : Program) (s : Sem Next) (ρ : Ren) (h : H) (w : World) (h' : H) : R → Prop
  | .val v => ∃ nx u w' ρ', (nx = .value u ∨ nx = .skip ∧ u = undef) ∧ VRel ρ' v u ∧ s.run P w = .ok nx w' ∧ Stp P ρ ρ' h h' w w'
  | .call f args => ∃ args' w' ρ', s.run P w = .ok (.enter f args') w' ∧ VRels ρ' args args'.toList ∧ Stp P ρ ρ' h h' w w'
  | .round l args => h' = h ∧ ∃ lc args', ρ l = some lc ∧ s.run P w = (Instr.yield lc args').run P w ∧ VRels ρ args args'.toList
  | .defer d => h' = h ∧ ∃ d', s.run P w = .ok (.defer d') w ∧ DRel ρ d d'
  | .recover => h' = h ∧ s.run P w = .ok .recover w
  | .panic v => h' = h ∧ ∃ v', s.run P w = .halt (.panic v') w ∧ VRel ρ v v'

def EffAt (P : Program) (o : Oper) (f : PT AV → H → Option (R × H)) : Prop := ∀ (ρ : Ren) (tm : PT AV) (a : Act) (h : H) (w : World) (r : R) (h' : H), HRel P ρ h w → ORels P ρ tm a o.op.operands.toList → Free ρ h h' →
  f tm h = some (r, h') → Came P (execOp a.eval o) ρ h w h' r

theorem Came.value {s : Sem Value} {ρ ρ' : Ren} {h h' : H} {w w' : World} {v : AV} {v' : Value} (e : s.run P w = .ok v' w') (r : VRel ρ' v v') (st : Stp P ρ ρ' h h' w w') :
    Came P (do pure (Next.value (← s))) ρ h w h' (.val v) := ⟨_, v', w', ρ', .inl rfl, r, value_run e, st⟩
theorem Came.unit {s : Sem Unit} {ρ ρ' : Ren} {h h' : H} {w w' : World} (e : s.run P w = .ok () w') (st : Stp P ρ ρ' h h' w w') :
    Came P (do s; pure Next.skip) ρ h w h' (.val (.tuple [])) := ⟨.skip, undef, w', ρ', .inr ⟨rfl, rfl⟩, .tuple _ _ .nil, by simp [e], st⟩

theorem Stp.obj {ρ : Ren} {h : H} {w : World} {b c : Nat} {ao ao' : AO} {ob' : Obj} (r : HRel P ρ h w) (hb : h.get b = some ao) (hd : ao ≠ .dead) (hc : ρ b = some c) (ho : ORel ρ ao' ob')
    (hk : ∀ e m ro z t, ao' = .row e m false ro z t → ∀ cs e' fz, ob' = .cells cs e' fz → ρ.k b * P.cellsOf e ≤ cs.size := by intro _ _ _ _ _ h; cases h) :
    Stp P ρ ρ h (h.put b ao') w { w with heap := w.heap.setIfInBounds c ob' } := by
  obtain ⟨g1, g2, g3⟩ := heap_set (w := w) (o := ob') (r.bound b c hc)
  exact Stp.put r ⟨_, hb, hd⟩ hc ho g3 g1 g2 rfl rfl rfl hk

theorem at_store {o : Oper} {t : TypeId} {x y : Operand} (ho : o.op = .store t x y) : EffAt P o (eStore P t x y) := by
  intro ρ tm a h w r h' hr hx hf he
  rw [ho] at hx
  unfold eStore at he
  split at he
  · rename_i b off hp
    split at he
    · rename_i u hu
      unfold uh at he
      split at he
      · rename_i h2 hs
        injection he with he; injection he with e1 e2; subst e1; subst e2
        have v1 := hx x (by simp [Op.operands]) _ hp
        have v2 := hx y (by simp [Op.operands]) _ hu
        have hop : execOp a.eval o = (do Instr.storeAt t (a.eval x) (a.eval y); pure .skip) := by unfold execOp; rw [ho]
        rw [hop]
        generalize a.eval x = x' at *
        cases v1 with | ptr _ _ c hc =>
        obtain ⟨w', g1, g2⟩ := run_storeA hr hc hs v2
        refine Came.unit ?_ g2
        unfold Instr.storeAt Instr.sureAddr
        simpa using g1
      · cases he
    · cases he
  · cases he

theorem run_mapUpdateA {ρ : Ren} {h h' : H} {w : World} {t : TypeId} {m k v : AV} {m' k' v' : Value} (r : HRel P ρ h w) (hl : mapUpdateA P h t m k v = some h') (hm : VRel ρ m m') (hk : VRel ρ k k') (hv : VRel ρ v v') :
    ∃ w', (Instr.mapUpdate t m' k' v').run P w = .ok () w' ∧ Stp P ρ ρ h h' w w' := by
  unfold mapUpdateA at hl
  split at hl
  · rename_i kt et b hu
    cases hm with | map _ c hc =>
    split at hl
    · rename_i es clock hf hg
      obtain ⟨de, hd⟩ := keyFit_und hf
      obtain ⟨es', q1, q2⟩ := r.map hg hc
      unfold Instr.mapUpdate
      simp only [Sem.run_bind, und_run hu, Result.andThen_ok, getObj_run q1 (by simp), checkKey_run (w := w) (em := false) 30 kt k k' hf hk 10000 (by omega)]
      split at hl
      · rename_i i e hfe
        split at hl
        · rename_i hbe
          injection hl with hl; subst hl
          obtain ⟨r', g1, g2⟩ := findKey_run (w := w) hk hd hfe q2
          rw [g2]
          cases r' with
          | none => exact g1.elim
          | some x =>
            obtain ⟨j', v0⟩ := x
            obtain ⟨p1, p2, p3, k2, p4⟩ := g1
            subst p1
            simp only [Nat.sub_zero] at p3 p4
            have p4' : es'[j']? = some ⟨k2, v0, e.2.2⟩ := by simpa using p4
            obtain ⟨k3, v3, p5, p6, p7⟩ := q2.get _ _ p3
            rw [p4] at p5
            injection p5 with p5; injection p5 with p5 p8 _; subst p5
            have hke := avBeq_eq hbe
            -- whichever key stays
            have keep : ∃ kk w2, (Instr.keyThatStays k2 k').run P w = .ok kk w2 ∧ VRel ρ e.1 kk ∧ w2.heap = w.heap ∧ w2.os = w.os ∧ w2.tape = w.tape ∧ w2.output = w.output := by
              unfold Instr.keyThatStays
              split
              · exact ⟨k', w, rfl, hke ▸ hk, rfl, rfl, rfl, rfl⟩
              · simp only [Sem.run_bind, run_choose]
                split <;> (simp only [Result.andThen_ok, Sem.run_pure]; split <;> first | exact ⟨k', _, rfl, hke ▸ hk, rfl, rfl, rfl, rfl⟩ | exact ⟨k2, _, rfl, p6, rfl, rfl, rfl, rfl⟩)
            obtain ⟨kk, w2, s1, s2, s3, s4, s5, s6⟩ := keep
            have q1' : w2.heap[c]? = some (.map es' clock) := by rw [s3]; exact q1
            have r2 := r.of_heap (w' := w2) s3
            simp only [Result.andThen_ok, Sem.run_bind, p4', Option.map_some, Option.getD_some, s1, setObj_run q1' (by simp)]
            refine ⟨_, rfl, (Stp.of_heap r s3 s4 s5 s6).trans (fun n a b => by omega) (Stp.obj r2 hg (by simp) hc (.map _ _ _ ?_))⟩
            rw [Array.toList_modify]
            exact q2.mod s2 hv _ _ (fun e0 he0 => by rw [p4] at he0; injection he0 with he0; subst he0; rfl)
        · cases hl
      · rename_i hfe
        injection hl with hl; subst hl
        obtain ⟨r', g1, g2⟩ := findKey_run (w := w) hk hd hfe q2
        rw [g2]
        cases r' with
        | some x => exact g1.elim
        | none =>
          simp only [Result.andThen_ok, setObj_run q1 (by simp)]
          refine ⟨_, rfl, Stp.obj r hg (by simp) hc (.map _ _ _ ?_)⟩
          simpa using q2.append (.cons _ _ _ _ _ _ _ hk hv .nil)
      · cases hl
    · cases hl
  · cases hl

theorem modE_same : ∀ {es : List (AV × AV × Nat)} {j : Nat} {e : AV × AV × Nat}, es[j]? = some e → modE es j e = es
  | [], j, e, h => by simp at h
  | x :: es, 0, e, h => by simp at h; subst h; rfl
  | x :: es, j + 1, e, h => by simp at h; unfold modE; rw [modE_same h]

theorem run_mapEntryA {ρ : Ren} {h h' : H} {w : World} {t : TypeId} {m k v : AV} {m' k' : Value} (r : HRel P ρ h w) (hl : mapEntryA P h t m k = some (v, h')) (hm : VRel ρ m m') (hk : VRel ρ k k') :
    ∃ v' w', (Instr.mapEntry t m' k').run P w = .ok v' w' ∧ VRel ρ v v' ∧ Stp P ρ ρ h h' w w' := by
  unfold mapEntryA at hl
  split at hl
  · rename_i kt et b hu
    cases hm with | map _ c hc =>
    split at hl
    · rename_i es clock hf hg
      obtain ⟨de, hd⟩ := keyFit_und hf
      obtain ⟨es', q1, q2⟩ := r.map hg hc
      unfold Instr.mapEntry
      simp only [Sem.run_bind, und_run hu, Result.andThen_ok, getObj_run q1 (by simp), checkKey_run (w := w) (em := false) 30 kt k k' hf hk 10000 (by omega)]
      split at hl
      · rename_i i e hfe
        split at hl
        · rename_i hbe
          injection hl with hl; injection hl with hl1 hl2; subst hl1; subst hl2
          obtain ⟨r', g1, g2⟩ := findKey_run (w := w) hk hd hfe q2
          rw [g2]
          cases r' with
          | none => exact g1.elim
          | some x =>
            obtain ⟨j', v0⟩ := x
            obtain ⟨p1, p2, p3, k2, p4⟩ := g1
            subst p1
            simp only [Nat.sub_zero] at p3 p4
            have p4' : es'[j']? = some ⟨k2, v0, e.2.2⟩ := by simpa using p4
            obtain ⟨k3, v3, p5, p6, p7⟩ := q2.get _ _ p3
            rw [p4] at p5
            injection p5 with p5; injection p5 with p5 p8 _; subst p5; subst p8
            have hke := avBeq_eq hbe
            have keep : ∃ kk w2, (Instr.keyThatStays k2 k').run P w = .ok kk w2 ∧ VRel ρ e.1 kk ∧ w2.heap = w.heap ∧ w2.os = w.os ∧ w2.tape = w.tape ∧ w2.output = w.output := by
              unfold Instr.keyThatStays
              split
              · exact ⟨k', w, rfl, hke ▸ hk, rfl, rfl, rfl, rfl⟩
              · simp only [Sem.run_bind, run_choose]
                split <;> (simp only [Result.andThen_ok, Sem.run_pure]; split <;> first | exact ⟨k', _, rfl, hke ▸ hk, rfl, rfl, rfl, rfl⟩ | exact ⟨k2, _, rfl, p6, rfl, rfl, rfl, rfl⟩)
            obtain ⟨kk, w2, s1, s2, s3, s4, s5, s6⟩ := keep
            have q1' : w2.heap[c]? = some (.map es' clock) := by rw [s3]; exact q1
            have r2 := r.of_heap (w' := w2) s3
            simp only [Result.andThen_ok, Sem.run_bind, p4', Option.map_some, Option.getD_some, s1, setObj_run q1' (by simp), Sem.run_pure]
            refine ⟨_, _, rfl, .tuple _ _ (.cons _ _ _ _ p7 (.cons _ _ _ _ (.int _ _) .nil)), ?_⟩
            exact (Stp.of_heap r s3 s4 s5 s6).trans (fun n a b => by omega) (Stp.obj r2 hg (by simp) hc (ao' := .map es clock) (ob' := .map (es'.modify j' fun e => { e with key := kk }) clock) (.map _ _ _ (by
              rw [Array.toList_modify]
              have := q2.mod (k := e.1) (v := e.2.1) (b := e.2.2) s2 p7 j' (fun e => { e with key := kk }) (fun e0 he0 => by rw [p4] at he0; injection he0 with he0; subst he0; rfl)
              rwa [show modE es j' (e.1, e.2.1, e.2.2) = es from ?_] at this
              exact modE_same p3)))
        · cases hl
      · rename_i hfe
        split at hl
        · rename_i z hz
          injection hl with hl; injection hl with hl1 hl2; subst hl1; subst hl2
          obtain ⟨r', g1, g2⟩ := findKey_run (w := w) hk hd hfe q2
          rw [g2]
          cases r' with
          | some x => exact g1.elim
          | none =>
            obtain ⟨z', z1, z2⟩ := zeroVal_run (P := P) (w := w) hz
            simp only [Result.andThen_ok, Sem.run_bind, z1, setObj_run q1 (by simp), Sem.run_pure]
            refine ⟨_, _, rfl, .tuple _ _ (.cons _ _ _ _ (z2 ρ) (.cons _ _ _ _ (.int _ _) .nil)), Stp.obj r hg (by simp) hc (.map _ _ _ ?_)⟩
            simpa using q2.append (.cons _ _ _ _ _ _ _ hk (z2 ρ) .nil)
        · cases hl
      · cases hl
    · cases hl
  · cases hl

theorem ERels.findIdx {ρ : Ren} {b : Nat} : ∀ {es : List (AV × AV × Nat)} {es' : List MapEntry}, ERels ρ es es' → ∀ {i j : Nat} {e : AV × AV × Nat}, bornAt b es i = some (j, e) →
    es'.findIdx? (fun e => (e.born : Int) == (b : Int)) = some (j - i) ∧ i ≤ j
  | _, _, .nil, i, j, e, h => by simp [bornAt] at h
  | _, _, .cons k v c k' v' es es' h1 h2 hs, i, j, e, h => by
    unfold bornAt at h
    split at h
    · rename_i hb
      injection h with h; injection h with g1 g2; subst g1; subst g2
      have := Nat.eq_of_beq_eq_true hb
      simp at this
      subst this
      simp [List.findIdx?_cons]
    · rename_i hb
      obtain ⟨q1, q2⟩ := hs.findIdx h
      have hne : ((c : Int) == (b : Int)) = false := by
        cases hc : ((c : Int) == (b : Int)) with
        | false => rfl
        | true => simp at hc; have hc : c = b := by omega
                  rw [nbeq_t hc] at hb; cases hb
      refine ⟨?_, by omega⟩
      rw [List.findIdx?_cons]
      simp only [hne]
      simp only [Bool.false_eq_true, if_false, q1, Option.map_some]
      congr 1; omega

theorem run_entryStoreA {ρ : Ren} {h h' : H} {w : World} {t : TypeId} {m s v : AV} {m' s' v' : Value} (r : HRel P ρ h w) (hl : entryStoreA h m s v = some h') (hm : VRel ρ m m') (hs : VRel ρ s s') (hv : VRel ρ v v') :
    ∃ w', (Instr.entryStore t m' s' v').run P w = .ok () w' ∧ Stp P ρ ρ h h' w w' := by
  unfold entryStoreA at hl
  split at hl
  · rename_i b st hst
    cases hm with | map _ c hc =>
    obtain ⟨kk, rfl⟩ := nat?_rel hst hs
    split at hl
    · rename_i es clock hg
      split at hl
      · rename_i i e hb
        injection hl with hl; subst hl
        obtain ⟨es', q1, q2⟩ := r.map hg hc
        obtain ⟨f1, f2⟩ := q2.findIdx hb
        obtain ⟨b1, b2, b3, b4⟩ := bornAt_get hb
        simp only [Nat.sub_zero] at f1 b2
        obtain ⟨k2, v2, p1, p2, p3⟩ := q2.get _ _ b2
        have f1' : es'.findIdx? (fun e => (e.born : Int) == (Int.ofNat st)) = some i := by
          have e0 : es' = es'.toList.toArray := by simp
          rw [e0, List.findIdx?_toArray]; exact f1
        unfold Instr.entryStore
        simp only [Sem.run_bind, getObj_run q1 (by simp), Result.andThen_ok, asInt, asIntOf, Sem.run_pure, f1', setObj_run q1 (by simp)]
        refine ⟨_, rfl, Stp.obj r hg (by simp) hc (.map _ _ _ ?_)⟩
        rw [Array.toList_modify]
        exact q2.mod p2 hv _ _ (fun e0 he0 => by rw [p1] at he0; injection he0 with he0; subst he0; rfl)
      · cases hl
    · cases hl
  · cases hl

theorem run_deleteA {ρ : Ren} {h h' : H} {w : World} {t : TypeId} {m k : AV} {m' k' : Value} {ts : Array TypeId} {ty : TypeId} (ht : ts[0]? = some t) (r : HRel P ρ h w) (hl : deleteA P h t m k = some h') (hm : VRel ρ m m') (hk : VRel ρ k k') :
    ∃ w', (Builtin.delete_ ts ty #[m', k']).run P w = .ok undef w' ∧ Stp P ρ ρ h h' w w' := by
  unfold deleteA at hl
  split at hl
  · rename_i kt et hu
    split at hl
    · rename_i b hf
      cases hm with | map _ c hc =>
      split at hl
      · rename_i es clock hg
        obtain ⟨de, hd⟩ := keyFit_und hf
        obtain ⟨es', q1, q2⟩ := r.map hg hc
        have ck := checkKey_run (w := w) (em := es'.isEmpty) 30 kt k k' hf hk 10000 (by omega)
        have a0 : (#[Value.map (some c), k'] : Array Value)[0]? = some (.map (some c)) := rfl
        have a1 : (#[Value.map (some c), k'] : Array Value)[1]? = some k' := rfl
        unfold Builtin.delete_
        simp only [ht, a0, a1, Sem.run_bind, und_run hu, Result.andThen_ok, getObj_run q1 (by simp), ck]
        split at hl
        · rename_i i e hfe
          injection hl with hl; subst hl
          obtain ⟨r', g1, g2⟩ := findKey_run (w := w) hk hd hfe q2
          rw [g2]
          cases r' with
          | none => exact g1.elim
          | some x =>
            obtain ⟨j', v0⟩ := x
            obtain ⟨p1, p2, p3, k2, p4⟩ := g1
            subst p1
            simp only [Nat.sub_zero] at p3 p4
            simp only [Result.andThen_ok, Sem.run_bind, setObj_run q1 (by simp), Sem.run_pure]
            refine ⟨_, rfl, Stp.obj r hg (by simp) hc (.map _ _ _ ?_)⟩
            have : (es'.eraseIdxIfInBounds j').toList = es'.toList.eraseIdx j' := by
              unfold Array.eraseIdxIfInBounds
              split
              · simp
              · rename_i hge
                rw [List.eraseIdx_of_length_le]
                simpa using hge
            rw [this]; exact q2.del _
        · rename_i hfe
          injection hl with hl; subst hl
          obtain ⟨r', g1, g2⟩ := findKey_run (w := w) hk hd hfe q2
          rw [g2]
          cases r' with
          | some x => exact g1.elim
          | none =>
            have e0 : w.heap.setIfInBounds c (.map es' clock) = w.heap := by
              apply Array.ext_getElem?
              intro j
              rw [Array.getElem?_setIfInBounds]
              have hlt := r.bound b c hc
              by_cases hj : c = j
              · subst hj; rw [if_pos rfl, if_pos hlt, q1]
              · rw [if_neg hj]
            simp only [Result.andThen_ok, Sem.run_bind, setObj_run q1 (by simp), Sem.run_pure, e0]
            exact ⟨_, rfl, Stp.refl r⟩
        · cases hl
      · cases hl
    · cases hl
  · cases hl

theorem run_rangeA {ρ : Ren} {h h' : H} {w : World} {t : TypeId} {x v : AV} {x' : Value} (r : HRel P ρ h w) (hf : Free ρ h h') (hl : rangeA P h t x = some (v, h')) (hx : VRel ρ x x') :
    ∃ v' w' ρ', (Instr.range t x').run P w = .ok v' w' ∧ VRel ρ' v v' ∧ Stp P ρ ρ' h h' w w' := by
  unfold rangeA at hl
  split at hl
  · rename_i s hu
    injection hl with hl; injection hl with h1 h2; subst h1; subst h2
    have hn : ρ h.next = none := hf _ (Nat.le_refl _) (by rw [H.new_next]; omega)
    cases hx with | str s' _ e =>
    refine ⟨.pointer (some ⟨w.heap.size, 0, none⟩), { w with heap := w.heap.push (.stringIter s' 0) }, ρ.add h.next w.heap.size 0, ?_, .ptr _ _ _ (Ren.add_eq _ _ _ _), Stp.new r hn (.siter _ _ _ e) rfl rfl rfl rfl⟩
    unfold Instr.range
    simp only [Sem.run_bind, und_run hu, Result.andThen_ok, Sem.run_pure, run_newObj]
  · rename_i hu
    injection hl with hl; injection hl with h1 h2; subst h1; subst h2
    have hn : ρ h.next = none := hf _ (Nat.le_refl _) (by rw [H.new_next]; omega)
    cases hx
    refine ⟨.pointer (some ⟨w.heap.size, 0, none⟩), { w with heap := w.heap.push (.mapIter none 0 #[] 0) }, ρ.add h.next w.heap.size 0, ?_, .ptr _ _ _ (Ren.add_eq _ _ _ _), Stp.new r hn (.miter0 _ _ _ _) rfl rfl rfl rfl⟩
    unfold Instr.range
    simp only [Sem.run_bind, und_run hu, Result.andThen_ok, Sem.run_pure, run_newObj]
  · rename_i m hu
    split at hl
    · rename_i es clock hg
      injection hl with hl; injection hl with h1 h2; subst h1; subst h2
      have hn : ρ h.next = none := hf _ (Nat.le_refl _) (by rw [H.new_next]; omega)
      cases hx with | map _ c hc =>
      obtain ⟨es', q1, q2⟩ := r.map hg hc
      refine ⟨.pointer (some ⟨w.heap.size, 0, none⟩), { w with heap := w.heap.push (.mapIter (some c) clock #[] clock) }, ρ.add h.next w.heap.size 0, ?_, .ptr _ _ _ (Ren.add_eq _ _ _ _),
        Stp.new r hn (.miter _ _ _ _ _ _ (Ren.add_mono hn _ _ hc).1 rfl) rfl rfl rfl rfl⟩
      unfold Instr.range
      simp only [Sem.run_bind, und_run hu, Result.andThen_ok, getObj_run q1 (by simp), Sem.run_pure, run_newObj]
    · cases hl
  · cases hl
end
end Go.Ab

namespace Go.Ab
section
variable {P : Program}

theorem decode_small {s : ByteArray} {pos c : Nat} (h : (s.data.toList.map UInt8.toNat)[pos]? = some c) (hc : c < 128) : Utf8.decode s pos = (c, 1) := by
  have h0 : pos < s.size := by
    rcases Nat.lt_or_ge pos s.size with h' | h'
    · exact h'
    · rw [List.getElem?_eq_none (by simpa using h')] at h; cases h
  have h1 : (s.get! (pos + 0)).toNat = c := by
    have e1 : s.get! (pos + 0) = s.data[pos]! := rfl
    have h0' : pos < s.data.size := h0
    have e3 : s.data.toList[pos]? = some s.data[pos] := by simp [h0']
    rw [List.getElem?_map, e3] at h
    injection h with h
    rw [e1, getElem!_pos s.data pos h0']; exact h
  unfold Utf8.decode
  simp only [h1]
  rw [if_pos (show c < 0x80 from hc)]

theorem memN_iff {x : Nat} : ∀ {l : List Nat}, memN x l = true ↔ x ∈ l
  | [] => by simp [memN]
  | y :: ys => by
    unfold memN
    split
    · rename_i h; have := Nat.eq_of_beq_eq_true h; simp [this]
    · rename_i h
      have hne : x ≠ y := fun e => by rw [nbeq_t e] at h; cases h
      rw [memN_iff]; simp [hne]

theorem unseen_rel {ρ : Ren} {seen : List Nat} : ∀ {es : List (AV × AV × Nat)} {es' : List MapEntry}, ERels ρ es es' → ERels ρ (unseen seen es) (es'.filter fun e => !seen.contains e.born)
  | _, _, .nil => .nil
  | _, _, .cons k v b k' v' es es' h1 h2 hs => by
    unfold unseen
    split
    · rename_i h
      have h := memN_iff.1 h
      rw [List.filter_cons_of_neg (by simpa using h)]
      exact unseen_rel hs
    · rename_i h
      have h : b ∉ seen := fun hm => by rw [memN_iff.2 hm] at h; cases h
      rw [List.filter_cons_of_pos (by simpa using h)]
      exact .cons _ _ _ _ _ _ _ h1 h2 (unseen_rel hs)
theorem any_rel {ρ : Ren} {last : Nat} : ∀ {es : List (AV × AV × Nat)} {es' : List MapEntry}, ERels ρ es es' → es.any (fun e => Nat.blt e.2.2 last) = es'.any fun e => e.born < last
  | _, _, .nil => rfl
  | _, _, .cons k v b k' v' es es' h1 h2 hs => by
    simp only [List.any_cons, any_rel hs]
    congr 1
    by_cases h : b < last
    · rw [blt_t h]; simp [h]
    · rw [blt_f h]; simp [h]

theorem run_nextA {ρ : Ren} {h h' : H} {w : World} {x v : AV} {x' : Value} {ty : TypeId} {isS : Bool} (r : HRel P ρ h w) (hl : nextA h x isS = some (v, h')) (hx : VRel ρ x x') :
    ∃ v' w', (Instr.next x' isS ty).run P w = .ok v' w' ∧ VRel ρ v v' ∧ Stp P ρ ρ h h' w w' := by
  unfold nextA at hl
  split at hl
  · rename_i b
    cases hx with | ptr _ _ c hc =>
    split at hl
    · rename_i s pos hg
      obtain ⟨ob, q1, q2⟩ := r.obj _ _ _ hg (by simp) hc
      cases q2 with | siter _ s' _ e =>
      subst e
      split at hl
      · rename_i hd
        injection hl with hl; injection hl with h1 h2; subst h1; subst h2
        have hge : ¬ pos < s'.size := by
          have := List.drop_eq_nil_iff.1 hd
          simp at this
          exact Nat.not_lt.2 this
        refine ⟨.tuple #[.bool false], w, ?_, .tuple _ _ (.cons _ _ _ _ (.bool _) .nil), Stp.refl r⟩
        unfold Instr.next
        simp only [Sem.run_bind, getObj_run q1 (by simp), Result.andThen_ok, if_neg hge, Sem.run_pure]
      · rename_i c0 rest hd
        split at hl
        · rename_i h128
          injection hl with hl; injection hl with h1 h2; subst h1; subst h2
          have hget : (s'.data.toList.map UInt8.toNat)[pos]? = some c0 := by
            have : (List.drop pos (s'.data.toList.map UInt8.toNat))[0]? = some c0 := by rw [hd]; rfl
            simpa using this
          have hlt : pos < s'.size := by
            rcases Nat.lt_or_ge pos s'.size with h' | h'
            · exact h'
            · rw [List.getElem?_eq_none (by simpa using h')] at hget; cases hget
          have hdec := decode_small hget (lt_of_blt h128)
          refine ⟨.tuple #[.bool true, goInt pos, .int .i32 c0], _, ?_, .tuple _ _ (.cons _ _ _ _ (.bool _) (.cons _ _ _ _ (.int _ _) (.cons _ _ _ _ (.int _ _) .nil))), Stp.obj r hg (by simp) hc (.siter _ s' (pos + 1) rfl)⟩
          unfold Instr.next
          simp only [Sem.run_bind, getObj_run q1 (by simp), Result.andThen_ok, if_pos hlt, hdec, setObj_run q1 (by simp), Sem.run_pure]
        · cases hl
    · rename_i since seen st hg
      injection hl with hl; injection hl with h1 h2; subst h1; subst h2
      obtain ⟨ob, q1, q2⟩ := r.obj _ _ _ hg (by simp) hc
      cases q2 with | miter0 _ _ _ seen' =>
      refine ⟨.tuple #[.bool false], w, ?_, .tuple _ _ (.cons _ _ _ _ (.bool _) .nil), Stp.refl r⟩
      unfold Instr.next
      simp only [Sem.run_bind, getObj_run q1 (by simp), Result.andThen_ok, Sem.run_pure]
    · rename_i m since seen last hg
      split at hl
      · rename_i es clock hm
        obtain ⟨mc, seen', g1, g2, g3⟩ := r.miter hg hc
        obtain ⟨es', q1, q2⟩ := r.map hm g2
        subst g3
        unfold nextMap at hl
        split at hl
        · cases hl
        · rename_i hcase
          -- the model does not refuse
          have hok : (!seen'.isEmpty && !es'.isEmpty && es'.all (·.born ≥ last)) = false := by
            cases hc1 : seen'.toList with
            | nil => simp at hc1; simp [hc1]
            | cons a l =>
              cases hc2 : es.any (fun e => Nat.blt e.2.2 last) with
              | true =>
                rw [any_rel q2] at hc2
                have : es'.all (·.born ≥ last) = false := by
                  rw [← Array.all_toList]
                  rw [List.any_eq_true] at hc2
                  obtain ⟨y, hy1, hy2⟩ := hc2
                  rw [List.all_eq_false]
                  exact ⟨y, hy1, by simpa using hy2⟩
                rw [this]; simp
              | false =>
                cases hc3 : es with
                | nil =>
                  subst hc3
                  generalize hE : es'.toList = E at q2
                  cases q2
                  have : es' = #[] := by simpa using hE
                  simp [this]
                | cons x y => rw [hc1, hc2, hc3] at hcase; cases hcase
          have hun := unseen_rel (seen := seen'.toList) q2
          have hleft : (es'.filter fun e => !seen'.contains e.born).toList = es'.toList.filter fun e => !seen'.toList.contains e.born := by simp
          unfold Instr.next
          simp only [Sem.run_bind, getObj_run g1 (by simp), Result.andThen_ok, getObj_run q1 (by simp), hok, Bool.false_eq_true, if_false]
          split at hl
          · rename_i hu
            injection hl with hl; injection hl with h1 h2; subst h1; subst h2
            rw [hu] at hun
            generalize hE : (es'.toList.filter fun e => !seen'.toList.contains e.born) = E at hun hleft
            cases hun
            have hE2 : (es'.filter fun e => !seen'.contains e.born) = #[] := by simpa using hleft
            refine ⟨.tuple #[.bool false], w, ?_, .tuple _ _ (.cons _ _ _ _ (.bool _) .nil), Stp.refl r⟩
            simp only [hE2]
            simp [Question.forced]
          · rename_i e hu
            split at hl
            · rename_i hb
              injection hl with hl; injection hl with h1 h2; subst h1; subst h2
              rw [hu] at hun
              generalize hE : (es'.toList.filter fun e => !seen'.toList.contains e.born) = E at hun hleft
              obtain ⟨k, v0, bo⟩ := e
              generalize hNil : ([] : List (AV × AV × Nat)) = Nil at hun
              cases hun with | cons _ _ _ k' v' _ es2 p1 p2 p3 =>
              subst hNil
              cases p3
              have hE2 : (es'.filter fun e => !seen'.contains e.born) = #[⟨k', v', bo⟩] := by
                rw [← Array.toList_inj]; exact hleft
              have hb := lt_of_blt hb
              have hb : bo < since := hb
              refine ⟨.tuple #[.bool true, k', v'], { w with heap := w.heap.setIfInBounds c (.mapIter (some mc) since (seen'.push bo) clock) }, ?_, .tuple _ _ (.cons _ _ _ _ (.bool _) (.cons _ _ _ _ p1 (.cons _ _ _ _ p2 .nil))),
                Stp.obj r hg (by simp) hc (.miter _ _ _ _ _ _ g2 (by simp))⟩
              have f1 : (#[(⟨k', v', bo⟩ : MapEntry)].filter fun e => decide (e.born < since)) = #[⟨k', v', bo⟩] := by simp [hb]
              have f2 : (#[(⟨k', v', bo⟩ : MapEntry)].filter fun e => decide (e.born ≥ since)) = #[] := by simp [hb]
              simp only [hE2, f1, f2]
              simp [Question.forced, setObj_run g1]
            · cases hl
          · cases hl
      · cases hl
    · cases hl
  · cases hl
end
end Go.Ab

namespace Go.Ab
section
variable {P : Program}

theorem freeze_at {w : World} {c off n : Nat} {cs : Array Value} {e : TypeId} {fz : Nat × Nat} (h : w.heap[c]? = some (.cells cs e fz)) (hn : n ≠ 0) :
    w.freeze ⟨c, off, none⟩ n = { w with heap := w.heap.setIfInBounds c (.cells cs e (if fz.1 == fz.2 then (off, off + n) else (min fz.1 off, max fz.2 (off + n)))) } := by
  unfold World.freeze
  rw [if_neg hn]
  congr 1
  apply Array.ext_getElem?
  intro j
  rw [Array.getElem?_modify, Array.getElem?_setIfInBounds]
  have hlt : c < w.heap.size := by
    rcases Nat.lt_or_ge c w.heap.size with h' | h'
    · exact h'
    · rw [Array.getElem?_eq_none h'] at h; cases h
  by_cases hj : c = j
  · subst hj; rw [if_pos rfl, if_pos rfl, if_pos hlt, h]; rfl
  · simp [hj]

theorem run_markStringish {w : World} {a : Addr} {cs : Array Value} {e : TypeId} {fz : Nat × Nat} (h : w.heap[a.block]? = some (.cells cs e fz)) :
    ∃ fz', (markStringish a).run P w = .ok () { w with heap := w.heap.setIfInBounds a.block (.cells cs e fz') } ∧ (NoFz fz cs.size → NoFz fz' cs.size) := by
  refine ⟨if fz.1 == fz.2 then (cs.size, cs.size + 1) else (min fz.1 cs.size, max fz.2 (cs.size + 1)), ?_, ?_⟩
  · unfold markStringish
    have hs : w.shape? a.block = some (e, cs.size) := by simp [World.shape?, h]
    simp only [Sem.run_bind, run_shape, Result.andThen_ok, hs, run_freeze]
    rw [freeze_at h (by omega)]
  · intro hz
    by_cases hc : fz.1 == fz.2
    · rw [if_pos hc]; exact .inr (Nat.le_refl _)
    · rw [if_neg hc]
      rcases hz with hz | hz
      · simp [hz] at hc
      · exact .inr (by simp; omega)

theorem bytesOfCells_rel {ρ : Ren} : ∀ {cs : List AV} {vs : List Value} {ns : List Nat}, bytesOfCells cs = some ns → VRels ρ cs vs → ∃ bs : List UInt8, ns = bs.map UInt8.toNat ∧ vs = bs.map fun b => Value.int .u8 b.toNat
  | [], _, ns, h, .nil => by simp [bytesOfCells] at h; subst h; exact ⟨[], rfl, rfl⟩
  | v :: cs, _, ns, h, .cons _ v' _ vs hv hvs => by
    unfold bytesOfCells at h
    split at h
    · rename_i he; cases he
    · rename_i n cs2 he
      injection he with he1 he2
      subst he1; subst he2
      split at h
      · rename_i ns' h1 h2
        injection h with h; subst h
        have h1 := lt_of_blt h1
        cases hv
        obtain ⟨bs, e1, e2⟩ := bytesOfCells_rel h2 hvs
        refine ⟨UInt8.ofNat n :: bs, ?_, ?_⟩
        · simp [e1]; omega
        · have : ((UInt8.ofNat n).toNat : Int) = Int.ofNat n := by simp; omega
          simp only [List.map_cons, this, e2]
      · cases h
    · cases h

theorem conv_loop {w : World} : ∀ (bs : List UInt8) (s : ByteArray), (forIn (bs.map fun b => Value.int .u8 b.toNat) s fun c s => (do
      let .int .u8 n := c | stuck "bytesToString: byte expected"
      let s := s.push (UInt8.ofNat n.toNat)
      pure (ForInStep.yield s) : Sem (ForInStep ByteArray))).run P w = .ok ⟨s.data ++ bs.toArray⟩ w
  | [], s => by simp
  | b :: bs, s => by
    simp only [List.map_cons, List.forIn_cons, Sem.run_bind, Sem.run_pure, Result.andThen_ok]
    rw [conv_loop bs]
    congr 1
    cases s
    simp [ByteArray.push]

theorem bytes_map (bs : List UInt8) : (⟨bs.toArray⟩ : ByteArray).data.toList.map UInt8.toNat = bs.map UInt8.toNat := by simp

theorem readCells_sl {ρ : Ren} {h : H} {w : World} {b off len k cap' : Nat} {cs : List AV} {ad : Addr} (r : HRel P ρ h w) (hk : k = 0 ∨ len ≠ 0) (h1 : len ≤ cap') (h3 : cap' = 0 ∨ ∃ c, ρ b = some c ∧ ad = ⟨c, off, none⟩)
    (hr : readCells h b off k = some cs) : ∃ vs' : List Value, (loadCells ad k).run P w = .ok vs'.toArray w ∧ VRels ρ cs vs' := by
  rcases hk with rfl | hk
  · simp [readCells] at hr; subst hr
    exact ⟨[], rfl, .nil⟩
  · obtain ⟨c, hc, rfl⟩ := h3.resolve_left (by omega)
    exact readCells_rel r (.inl hc) hr _ (.inr rfl)

theorem run_bytesToString {ρ : Ren} {h : H} {w : World} {x : AV} {x' : Value} {s : List Nat} (r : HRel P ρ h w) (hx : VRel ρ x x') (hb : bytesOfA h x = some s) (hns : ∀ t, x ≠ .str t) :
    ∃ v', (Conv.bytesToString x').run P w = .ok v' w ∧ VRel ρ (.str s) v' := by
  unfold bytesOfA at hb
  split at hb
  · exact absurd rfl (hns _)
  · injection hb with hb; subst hb
    cases hx
    exact ⟨.string .empty, rfl, .str _ _ rfl⟩
  · rename_i b off len cap
    split at hb
    · rename_i cs hcs
      cases hx with | sl _ _ _ _ ad cap' g1 g2 g3 g4 =>
      obtain ⟨vs', e1, e2⟩ := readCells_sl (P := P) r (by omega) g1 g3 hcs
      obtain ⟨bs, e3, e4⟩ := bytesOfCells_rel hb e2
      subst e4
      refine ⟨.string ⟨(ByteArray.empty).data ++ bs.toArray⟩, ?_, .str _ _ (by simp [e3])⟩
      unfold Conv.bytesToString
      simp only [Sem.run_bind, e1, Result.andThen_ok, List.forIn_toArray]
      have := conv_loop (P := P) (w := w) bs ByteArray.empty
      erw [this]
      rfl
    · cases hb
  · cases hb

theorem byteCells_rel {ρ : Ren} (s : ByteArray) : VRels ρ (byteCells (s.data.toList.map UInt8.toNat)) (s.data.map fun b => Value.int .u8 b.toNat).toList := by
  simp only [byteCells, Array.toList_map, List.map_map]
  generalize s.data.toList = l
  induction l with
  | nil => exact .nil
  | cons b bs ih => exact .cons _ _ _ _ (.int _ _) ih

theorem underlyingId_self {t : TypeId} : P.underlyingId t = P.underlyingId t := rfl
theorem sameLayout_self (d : Nat) (t : TypeId) : sameLayout P (d + 1) t t = true := by unfold sameLayout; simp
theorem depth_pos : ∃ d, P.depth = d + 2 := ⟨2 * (P.types.size + Made.depth), rfl⟩
theorem cellsOf_sz {t : TypeId} {n : Nat} (h : szOf P t = some n) : P.cellsOf t = n := by
  unfold szOf at h
  unfold Program.cellsOf
  split at h
  · rename_i i hi; injection h with h; rw [hi]; simpa using h
  · cases h
/-- n variables of the row's own type, from cell off on. -/
theorem run_variablesAt {w : World} {c off s n : Nat} {cs : Array Value} {e : TypeId} {fz : Nat × Nat} (h : w.heap[c]? = some (.cells cs e fz)) (hs : szOf P e = some (s + 1)) (hoff : off % (s + 1) = 0) (hn : off / (s + 1) + n ≤ cs.size / (s + 1)) :
    (variablesAt ⟨c, off, none⟩ e n).run P w = .ok true w := by
  have hsh : w.shape? c = some (e, cs.size) := by simp [World.shape?, h]
  obtain ⟨d, hd⟩ := depth_pos (P := P)
  unfold variablesAt
  simp only [Sem.run_bind, run_program, Result.andThen_ok, run_shape, hsh, Sem.run_pure]
  congr 1
  rw [hd]
  unfold liesAt
  have hrow : rowAt P (fun x => sameLayout P (d + 2) x e) (d + 2) e (cs.size / P.cellsOf e) off n = true := by
    unfold rowAt
    rw [cellsOf_sz hs, if_neg (by omega)]
    simp only [hoff]
    have : sameLayout P (d + 2) e e = true := sameLayout_self _ _
    simp [this, hn]
  rw [hd]
  have hrow' : rowAt P (fun x => sameLayout P P.depth x e) (d + 2) e (cs.size / P.cellsOf e) off n = true := by rw [hd]; exact hrow
  simp [hrow]

theorem run_seenAt {w : World} {c off : Nat} {cs : Array Value} {e : TypeId} {fz : Nat × Nat} (h : w.heap[c]? = some (.cells cs e fz)) : (Conv.seenAt ⟨c, off, none⟩).run P w = .ok ⟨c, off, none⟩ w := by
  have hsh : w.shape? c = some (e, cs.size) := by simp [World.shape?, h]
  unfold Conv.seenAt viewAt
  simp [hsh]

theorem run_convertA {ρ : Ren} {h h' : H} {w : World} {s d : TypeId} {x v : AV} {x' : Value} (r : HRel P ρ h w) (hf : Free ρ h h') (hl : convertA P h s d x = some (v, h')) (hx : VRel ρ x x') :
    ∃ v' w' ρ', (convert s d x').run P w = .ok v' w' ∧ VRel ρ' v v' ∧ Stp P ρ ρ' h h' w w' := by
  unfold convertA at hl
  unfold convert
  split at hl
  · -- bytes to a string
    rename_i e hu1 hu2
    split at hl
    · rename_i bs he hb
      split at hl
      · cases hl
      · rename_i hns
        injection hl with hl; injection hl with h1 h2; subst h1; subst h2
        obtain ⟨v', e1, e2⟩ := run_bytesToString r hx hb hns
        refine ⟨v', w, ρ, ?_, e2, Stp.refl r⟩
        simp only [Sem.run_bind, und_run hu1, und_run hu2, Result.andThen_ok]
        cases hx <;> simp only [Sem.run_bind, und_run he, Result.andThen_ok] <;> first | exact e1 | (exact absurd rfl (hns _)) | (simp [bytesOfA] at hb)
    · cases hl
  · -- a string to bytes
    rename_i e hu1 hu2
    split at hl
    · rename_i bs he
      split at hl
      · rename_i hle hsz
        injection hl with hl; injection hl with h1 h2; subst h1; subst h2
        have hle := Nat.le_of_ble_eq_true hle
        cases hx with | str s' _ e0 =>
        subst e0
        have hlen : (s'.data.toList.map UInt8.toNat).length = s'.size := by simp
        rw [hlen] at hle
        have hn : ρ h.next = none := hf _ (Nat.le_refl _) (by unfold newRow; rw [H.new_next]; omega)
        let t0 := w.tape w.drawn (.appendCap s'.size 0 e)
        let cap := s'.size + t0 % (2 ^ 63 - s'.size)
        let w1 : World := { w with drawn := w.drawn + 1 }
        let cells : Array Value := (s'.data.map fun b => Value.int .u8 b.toNat) ++ Array.replicate (cap - s'.size) (.int .u8 0)
        let w2 : World := { w1 with heap := w1.heap.push (.cells cells e) }
        have hw2 : w2.heap[w.heap.size]? = some (.cells cells e (0, 0)) := by simp [w2, w1]
        obtain ⟨fz', m1, m2⟩ := run_markStringish (P := P) (w := w2) (a := ⟨w.heap.size, 0, none⟩) hw2
        refine ⟨.slice (some ⟨w.heap.size, 0, none⟩) s'.size cap, { w2 with heap := w2.heap.setIfInBounds w.heap.size (.cells cells e fz') }, ρ.add h.next w.heap.size cap, ?_, ?_, ?_⟩
        · simp only [Sem.run_bind, und_run hu1, und_run hu2, und_run he, Result.andThen_ok]
          unfold Conv.stringToBytes
          simp only [Sem.run_bind, run_choose, Question.forced, Bool.false_eq_true, if_false, Result.andThen_ok, Go.newRow, run_newObj, Sem.run_pure]
          erw [m1]
          rfl
        · rw [hlen]
          exact .sl _ _ _ _ _ _ (Nat.le_add_right _ _) (fun c hc => by cases hc) (.inr ⟨_, Ren.add_eq _ _ _ _, rfl⟩) (fun _ => ⟨by rw [Ren.add_k]; exact Nat.le_refl _, _, Ren.add_eq _ _ _ _⟩)
        · have hheap : (w2.heap.setIfInBounds w.heap.size (.cells cells e fz')) = w.heap.push (.cells cells e fz') := by
            apply Array.ext_getElem?
            intro j
            rw [Array.getElem?_setIfInBounds]
            by_cases hj : w.heap.size = j
            · subst hj; simp [w2, w1]
            · rw [if_neg hj]
              show (w.heap.push _)[j]? = _
              rw [Array.getElem?_push, Array.getElem?_push]
              simp [show j ≠ w.heap.size from fun e => hj e.symm]
          unfold newRow
          refine Stp.new r hn ?_ hheap rfl rfl rfl (by
            intro e1 m1 ro1 z1 t1 ha cs1 e2 fz1 hb1
            injection ha with a1; injection hb1 with b1
            subst a1; subst b1
            rw [cellsOf_sz hsz]
            show cap * 1 ≤ cells.size
            simp [cells, cap])
          have hrel := byteCells_rel (ρ := ρ.add h.next w.heap.size cap) s'
          have hl2 := hrel.length
          simp at hl2
          refine .row _ _ _ _ _ _ _ _ (fun hx => by cases hx) (by simp [cells]; omega) ?_ (fun _ => m2 (.inl rfl))
          intro i v hv
          obtain ⟨v', q1, q2⟩ := hrel.get _ _ (cellAt_new hv)
          refine ⟨v', ?_, q2⟩
          show cells[i]? = _
          have hi : i < s'.data.size := by
            rcases Nat.lt_or_ge i s'.data.size with h' | h'
            · exact h'
            · rw [List.getElem?_eq_none (by simpa using h')] at q1; cases q1
          rw [Array.getElem?_append_left (by simpa using hi)]
          simpa using q1
      · cases hl
    · cases hl
  · -- a slice as another type
    rename_i e1 e hu1 hu2
    split at hl
    · rename_i b off len cap hsd he
      split at hl
      · rename_i el n ex z tr hg
        injection hl with hl; injection hl with h1 h2; subst h1; subst h2
        cases hx with | sl _ _ _ _ ad cap' g1 g2 g3 g4 =>
        have hsd := Nat.eq_of_beq_eq_true hsd
        subst hsd
        have hee : e1 = e := by rw [hu1] at hu2; injection hu2 with h; injection h
        subst hee
        obtain ⟨c, hc, rfl⟩ := g3.resolve_left (by omega)
        obtain ⟨cs, fz, q1, q2, q3, q4, q5⟩ := r.row hg hc
        obtain ⟨fz', m1, m2⟩ := run_markStringish (P := P) (w := w) (a := ⟨c, off, none⟩) q1
        refine ⟨.slice (some ⟨c, off, none⟩) (len + 1) cap', { w with heap := w.heap.setIfInBounds c (.cells cs el fz') }, ρ, ?_, .sl _ _ _ _ _ _ g1 g2 (.inr ⟨c, hc, rfl⟩) g4, Stp.obj r hg (by simp) hc (.row _ _ _ _ _ _ _ _ q2 q3 q4 (fun h => m2 (q5 h))) (by
          intro e1 m1 ro1 z1 t1 ha cs1 e2 fz1 hb1
          injection ha with a1 a2 a3; injection hb1 with b1
          subst a1; subst a3; subst b1
          exact r.room _ _ _ _ _ _ _ _ _ _ hg hc q1)⟩
        simp only [Sem.run_bind, und_run hu1, und_run hu2, Result.andThen_ok, und_run he, beq_self_eq_true, m1, Sem.run_pure]
      · cases hl
    · cases hl
  · -- an unsafe pointer of a pointer
    rename_i t hu1 hu2
    split at hl
    · rename_i b off k hk
      split at hl
      · rename_i e n ex ro z tr hg
        split at hl
        · rename_i hlt
          injection hl with hl; injection hl with h1 h2; subst h1; subst h2
          have hlt := lt_of_blt hlt
          cases hx with | ptr _ _ c hc =>
          obtain ⟨cs, fz, q1, q2, q3, q4, q5⟩ := r.row hg hc
          have hsh : w.shape? c = some (e, cs.size) := by simp [World.shape?, q1]
          refine ⟨.pointer (some ⟨c, off, none⟩), w, ρ, ?_, .ptr _ _ _ hc, Stp.refl r⟩
          simp only [Sem.run_bind, und_run hu1, und_run hu2, Result.andThen_ok]
          unfold Conv.unsafePointer cellsIn
          simp only [Sem.run_bind, und_run hu1, und_run hu2, Result.andThen_ok, run_seenAt q1, run_shape, hsh, Sem.run_pure, sz_run hk]
          have : ¬ off ≥ cs.size := by omega
          simp [this]
        · cases hl
      · cases hl
    · cases hl
  · -- a pointer of an unsafe pointer
    rename_i u hu1 hu2
    split at hl
    · rename_i b k hk
      split at hl
      · rename_i e n ex ro z tr hg
        split at hl
        · rename_i hbe hble
          injection hl with hl; injection hl with h1 h2; subst h1; subst h2
          have hbe := Nat.eq_of_beq_eq_true hbe
          have hble := Nat.le_of_ble_eq_true hble
          subst hbe
          cases hx with | ptr _ _ c hc =>
          obtain ⟨cs, fz, q1, q2, q3, q4, q5⟩ := r.row hg hc
          refine ⟨.pointer (some ⟨c, 0, none⟩), w, ρ, ?_, .ptr _ _ _ hc, Stp.refl r⟩
          have hv : (variablesAt ⟨c, 0, none⟩ e 1).run P w = .ok true w := run_variablesAt q1 hk (by simp) (by
            simp
            exact Nat.div_pos (by omega) (by omega))
          simp only [Sem.run_bind, und_run hu1, und_run hu2, Result.andThen_ok]
          unfold Conv.unsafePointer
          simp only [Sem.run_bind, und_run hu1, und_run hu2, Result.andThen_ok, run_seenAt q1, sz_run hk, hv]
          simp
        · cases hl
      · cases hl
    · cases hl
  · cases hl
end
end Go.Ab

namespace Go.Ab
section
variable {P : Program}

theorem at_convert {o : Oper} {s d : TypeId} {x : Operand} (ho : o.op = .convert s d x) : EffAt P o (eConv P s d x) := by
  intro ρ tm a h w r h' hr hx hf he
  rw [ho] at hx
  unfold eConv at he
  split at he
  · rename_i u hu
    unfold vh at he
    split at he
    · rename_i y h2 hs
      injection he with he; injection he with e1 e2; subst e1; subst e2
      obtain ⟨v', w', ρ', g1, g2, g3⟩ := run_convertA hr hf hs (hx x (by simp [Op.operands]) _ hu)
      have hop : execOp a.eval o = (do pure (.value (← convert s d (a.eval x)))) := by unfold execOp; rw [ho]
      rw [hop]
      exact Came.value g1 g2 g3
    · cases he
  · cases he
theorem at_mapUpdate {o : Oper} {t : TypeId} {m k x : Operand} (ho : o.op = .mapUpdate t m k x ∨ o.op = .insert t m k x) : EffAt P o (eUpdate P t m k x) := by
  intro ρ tm a h w r h' hr hx hf he
  have hop : execOp a.eval o = (do Instr.mapUpdate t (a.eval m) (a.eval k) (a.eval x); pure .skip) := by rcases ho with ho | ho <;> (unfold execOp; rw [ho])
  have hx : ORels P ρ tm a [m, k, x] := by rcases ho with ho | ho <;> (rw [ho] at hx; simpa [Op.operands] using hx)
  unfold eUpdate at he
  split at he
  · rename_i um uk ux h1 h2 h3
    unfold uh at he
    split at he
    · rename_i h2' hs
      injection he with he; injection he with e1 e2; subst e1; subst e2
      obtain ⟨w', g1, g2⟩ := run_mapUpdateA hr hs (hx m (by simp) _ h1) (hx k (by simp) _ h2) (hx x (by simp) _ h3)
      rw [hop]
      exact Came.unit g1 g2
    · cases he
  · cases he
theorem at_mapEntry {o : Oper} {t : TypeId} {m k : Operand} (ho : o.op = .mapEntry t m k) : EffAt P o (eMapEntry P t m k) := by
  intro ρ tm a h w r h' hr hx hf he
  rw [ho] at hx
  unfold eMapEntry at he
  split at he
  · rename_i um uk h1 h2
    unfold vh at he
    split at he
    · rename_i y h2' hs
      injection he with he; injection he with e1 e2; subst e1; subst e2
      obtain ⟨v', w', g1, g2, g3⟩ := run_mapEntryA hr hs (hx m (by simp [Op.operands]) _ h1) (hx k (by simp [Op.operands]) _ h2)
      have hop : execOp a.eval o = (do pure (.value (← Instr.mapEntry t (a.eval m) (a.eval k)))) := by unfold execOp; rw [ho]
      rw [hop]
      exact Came.value g1 g2 g3
    · cases he
  · cases he
theorem at_entryStore {o : Oper} {t : TypeId} {m s x : Operand} (ho : o.op = .entryStore t m s x) : EffAt P o (eEntryStore P m s x) := by
  intro ρ tm a h w r h' hr hx hf he
  rw [ho] at hx
  unfold eEntryStore at he
  split at he
  · rename_i um uk ux h1 h2 h3
    unfold uh at he
    split at he
    · rename_i h2' hs
      injection he with he; injection he with e1 e2; subst e1; subst e2
      obtain ⟨w', g1, g2⟩ := run_entryStoreA (t := t) hr hs (hx m (by simp [Op.operands]) _ h1) (hx s (by simp [Op.operands]) _ h2) (hx x (by simp [Op.operands]) _ h3)
      have hop : execOp a.eval o = (do Instr.entryStore t (a.eval m) (a.eval s) (a.eval x); pure .skip) := by unfold execOp; rw [ho]
      rw [hop]
      exact Came.unit g1 g2
    · cases he
  · cases he
theorem at_range {o : Oper} {t : TypeId} {x : Operand} (ho : o.op = .range t x) : EffAt P o (eRange P t x) := by
  intro ρ tm a h w r h' hr hx hf he
  rw [ho] at hx
  unfold eRange at he
  split at he
  · rename_i u hu
    unfold vh at he
    split at he
    · rename_i y h2 hs
      injection he with he; injection he with e1 e2; subst e1; subst e2
      obtain ⟨v', w', ρ', g1, g2, g3⟩ := run_rangeA hr hf hs (hx x (by simp [Op.operands]) _ hu)
      have hop : execOp a.eval o = (do pure (.value (← Instr.range t (a.eval x)))) := by unfold execOp; rw [ho]
      rw [hop]
      exact Came.value g1 g2 g3
    · cases he
  · cases he
theorem at_next {o : Oper} {x : Operand} {b : Bool} (ho : o.op = .next x b) : EffAt P o (eNext P x b) := by
  intro ρ tm a h w r h' hr hx hf he
  rw [ho] at hx
  unfold eNext at he
  split at he
  · rename_i u hu
    unfold vh at he
    split at he
    · rename_i y h2 hs
      injection he with he; injection he with e1 e2; subst e1; subst e2
      obtain ⟨v', w', g1, g2, g3⟩ := run_nextA (ty := o.type) hr hs (hx x (by simp [Op.operands]) _ hu)
      have hop : execOp a.eval o = (do pure (.value (← Instr.next (a.eval x) b o.type))) := by unfold execOp; rw [ho]
      rw [hop]
      exact Came.value g1 g2 g3
    · cases he
  · cases he

-- copy, clear, append
theorem lenA_rel {ρ : Ren} {w : World} {x : AV} {x' : Value} {n : Nat} (hx : VRel ρ x x') (h : lenA x = some n) : (Builtin.lenOf x').run P w = .ok n w := by
  unfold lenA at h
  split at h
  · injection h with h; subst h; cases hx; rfl
  · injection h with h; subst h; cases hx; rfl
  · injection h with h; subst h
    cases hx with | str s l e =>
    subst e
    have : (s.data.toList.map UInt8.toNat).length = s.size := by simp
    rw [this]; rfl
  · cases h
theorem cellsOfArg_rel {ρ : Ren} {h : H} {w : World} {size n nn : Nat} {x : AV} {x' : Value} {cs : List AV} (r : HRel P ρ h w) (hx : VRel ρ x x') (hn : lenA x = some nn) (hle : n ≤ nn) (hc : cellsOfArg h size n x = some cs) :
    ∃ vs' : List Value, (Builtin.firstCells size n x').run P w = .ok vs'.toArray w ∧ VRels ρ cs vs' := by
  unfold cellsOfArg at hc
  split at hc
  · injection hc with hc; subst hc; cases hx; exact ⟨[], rfl, .nil⟩
  · rename_i b off len cap
    cases hx with | sl _ _ _ _ ad cap' g1 g2 g3 g4 =>
    simp only [lenA] at hn
    injection hn with hn; subst hn
    have hk : n * size = 0 ∨ len ≠ 0 := by
      by_cases h0 : len = 0
      · left; have : n = 0 := by omega
        rw [this]; omega
      · exact .inr h0
    exact readCells_sl r hk g1 g3 hc
  · rename_i s
    split at hc
    · rename_i hs
      injection hc with hc; subst hc
      cases hx with | str s' l e =>
      subst e
      refine ⟨((s'.extract 0 n).data.map fun b => .int .u8 b.toNat).toList, ?_, ?_⟩
      · unfold Builtin.firstCells; rfl
      · have := byteCells_rel (ρ := ρ) (s'.extract 0 n)
        have e2 : (s'.extract 0 n).data.toList.map UInt8.toNat = (s'.data.toList.map UInt8.toNat).take n := by
          rw [ByteArray.data_extract]; simp [List.map_take]
        rw [e2] at this; exact this
    · cases hc
  · cases hc

theorem cellsOfArg_zero {h : H} {size : Nat} {x : AV} {cs : List AV} (hc : cellsOfArg h size 0 x = some cs) : cs = [] := by
  unfold cellsOfArg at hc
  split at hc
  · injection hc with hc; exact hc.symm
  · simp [readCells] at hc; exact hc
  · split at hc
    · injection hc with hc; subst hc; rfl
    · cases hc
  · cases hc

theorem run_storeCellsSl {ρ : Ren} {h h' : H} {w : World} {b off cap' : Nat} {ad : Addr} {vs : List AV} {vs' : List Value} (r : HRel P ρ h w) (hne : cap' ≠ 0) (g3 : cap' = 0 ∨ ∃ c, ρ b = some c ∧ ad = ⟨c, off, none⟩)
    (k : Nat) (hs : storeCellsA h b (off + k) vs = some h') (hv : VRels ρ vs vs') : ∃ w', (storeCells (ad.add k) vs').run P w = .ok () w' ∧ Stp P ρ ρ h h' w w' := by
  obtain ⟨c, hc, rfl⟩ := g3.resolve_left hne
  rw [addr_add]
  exact run_storeCellsA r hc hs hv

theorem addr_add0 (ad : Addr) : ad.add 0 = ad := by simp [Addr.add]

theorem run_copyA {ρ : Ren} {h h' : H} {w : World} {ts : Array TypeId} {ty : TypeId} {x y v : AV} {x' y' : Value} (r : HRel P ρ h w) (hl : copyA P h ts x y = some (v, h')) (hx : VRel ρ x x') (hy : VRel ρ y y') :
    ∃ v' w', (Builtin.copy_ ts ty #[x', y']).run P w = .ok v' w' ∧ VRel ρ v v' ∧ Stp P ρ ρ h h' w w' := by
  unfold copyA at hl
  split at hl
  · cases hl
  · rename_i dt ht
    split at hl
    · rename_i e hu
      split at hl
      · rename_i size ns nd hs hns hnd
        split at hl
        · cases hl
        · rename_i cs hcs
          obtain ⟨vs', e1, e2⟩ := cellsOfArg_rel (P := P) (w := w) (n := Nat.min ns nd) r hy hns (Nat.min_le_left _ _) hcs
          have e0 := lenA_rel (P := P) (w := w) hy hns
          have a0 : (#[x', y'] : Array Value)[0]? = some x' := rfl
          have a1 : (#[x', y'] : Array Value)[1]? = some y' := rfl
          unfold Builtin.copy_
          simp only [ht, a0, a1, Sem.run_bind, und_run hu, Result.andThen_ok]
          generalize hN : Nat.min ns nd = N at *
          unfold copyTo at hl
          split at hl
          · injection hl with hl; injection hl with h1 h2; subst h1; subst h2
            cases hx
            simp only [lenA] at hnd; injection hnd with hnd; subst hnd
            simp only [Sem.run_bind, e0, Result.andThen_ok, sz_run hs, hN, e1, Sem.run_pure]
            exact ⟨_, _, rfl, .int _ _, Stp.refl r⟩
          · injection hl with hl; injection hl with h1 h2; subst h1; subst h2
            cases hx with | sl _ _ len cap ad cap' g1 g2 g3 g4 =>
            simp only [lenA] at hnd; injection hnd with hnd; subst hnd
            simp only [Sem.run_bind, e0, Result.andThen_ok, sz_run hs, hN, e1, Sem.run_pure]
            have hvs : vs' = [] := by
              have := cellsOfArg_zero hcs
              subst this
              cases e2; rfl
            subst hvs
            exact ⟨_, _, rfl, .int _ _, Stp.refl r⟩
          · rename_i b off l cp n
            split at hl
            · rename_i h2 hst
              injection hl with hl; injection hl with g1' g2'; subst g1'; subst g2'
              cases hx with | sl _ _ len cap ad cap' g1 g2 g3 g4 =>
              simp only [lenA] at hnd; injection hnd with hnd; subst hnd
              have hle : n + 1 ≤ l := by have := Nat.min_le_right ns l; rw [show min ns l = n + 1 from hN] at this; exact this
              obtain ⟨w', q1, q2⟩ := run_storeCellsSl (P := P) r (by omega) g3 0 hst e2
              rw [addr_add0] at q1
              simp only [Sem.run_bind, e0, Result.andThen_ok, sz_run hs, hN, e1, Sem.run_pure, q1]
              exact ⟨_, _, rfl, .int _ _, q2⟩
            · cases hl
          · cases hl
      · cases hl
    · cases hl
end
end Go.Ab

namespace Go.Ab
section
variable {P : Program}

/-- A name dies. -/
theorem Stp.kill {ρ : Ren} {h : H} {w : World} {b c : Nat} (r : HRel P ρ h w) (hb : Alive h b) (hc : ρ b = some c) : Stp P ρ ρ h (h.put b .dead) w w := by
  have hal : ∀ m, Alive (h.put b .dead) m → Alive h m := fun m a => hb.put a
  refine ⟨⟨Ren.le.refl ρ, fun n c a b => (by rw [a] at b; cases b), fun _ _ _ => rfl, Nat.le_refl _, ?_, by rw [H.put_next]; exact Nat.le_refl _, fun n _ a => hal n a, rfl, rfl, rfl⟩, ?_, fun n m c a b x y => r.inj n m c (hal n a) (hal m b) x y, r.glob, r.bound, ?_⟩
  · intro n _ hn
    exact H.put_ne _ _ fun e => by subst e; rw [hc] at hn; cases hn
  · intro n o c a d e
    by_cases he : b = n
    · subst he; exact absurd (H.put_eq _ _ a) d
    · rw [H.put_ne _ _ he] at a; exact r.obj n o c a d e
  · intro n e m ro z t c cs e' fz a x y
    by_cases he : b = n
    · subst he; cases H.put_eq _ _ a
    · rw [H.put_ne _ _ he] at a; exact r.room n e m ro z t c cs e' fz a x y

/-- The block has another name now, and is another one. -/
theorem Stp.rename {ρ : Ren} {h : H} {w w' : World} {b c k : Nat} {ao : AO} {ob : Obj} (r : HRel P ρ h w) (hb : Alive h b) (hc : ρ b = some c) (hn : ρ h.next = none)
    (ho : ORel (ρ.add h.next c k) ao ob) (e0 : w'.heap.size = w.heap.size) (e : w'.heap[c]? = some ob) (e' : ∀ d, d ≠ c → w'.heap[d]? = w.heap[d]?) (e1 : w'.os = w.os) (e2 : w'.tape = w.tape) (e3 : w'.output = w.output)
    (hk : ∀ e m ro z t, ao = .row e m false ro z t → ∀ cs e' fz, ob = .cells cs e' fz → k * P.cellsOf e ≤ cs.size) : Stp P ρ (ρ.add h.next c k) h ((h.put b .dead).new ao) w w' := by
  have hm := Ren.add_mono (c := c) (k := k) hn
  have hbl := hb.lt
  have hnx : (h.put b .dead).next = h.next := H.put_next _ _ _
  have get_new : ∀ {x}, ((h.put b .dead).new ao).get h.next = some x → x = ao := fun {x} hx => H.new_eq (h.put b .dead) ao (by rw [hnx]; exact hx)
  have get_old : ∀ {n : Nat}, n ≠ h.next → n ≠ b → ((h.put b .dead).new ao).get n = h.get n := fun {n} h1 h2 => by
    rw [H.new_ne _ _ (by rw [hnx]; exact h1), H.put_ne _ _ (fun e => h2 e.symm)]
  have get_dead : ∀ {x}, ((h.put b .dead).new ao).get b = some x → x = .dead := fun {x} hx => by
    rw [H.new_ne _ _ (by rw [hnx]; omega)] at hx; exact H.put_eq _ _ hx
  have hal : ∀ n, Alive ((h.put b .dead).new ao) n → n = h.next ∨ (n ≠ b ∧ n ≠ h.next ∧ Alive h n) := by
    intro n ⟨x, a, d⟩
    by_cases h1 : n = h.next
    · exact .inl h1
    · by_cases h2 : n = b
      · subst h2; exact absurd (get_dead a) d
      · rw [get_old h1 h2] at a; exact .inr ⟨h2, h1, x, a, d⟩
  refine ⟨⟨hm, ?_, ?_, by rw [e0]; exact Nat.le_refl _, ?_, ?_, ?_, e1, e2, e3⟩, ?_, ?_, ?_, ?_, ?_⟩
  · intro n d a x
    by_cases h1 : n = h.next
    · subst h1; rw [Ren.add_eq] at x; cases x
      exact ⟨Nat.le_refl _, by rw [H.new_next, hnx]; omega, .inr ⟨b, hb, hc⟩⟩
    · rw [Ren.add_ne _ _ _ h1, a] at x; cases x
  · intro d hd hf
    exact e' d fun hdc => hf b hb (hdc ▸ hc)
  · intro n hlt hnn
    by_cases h2 : n = b
    · subst h2; rw [hc] at hnn; cases hnn
    · exact get_old (by omega) h2
  · rw [H.new_next, hnx]; omega
  · intro n hlt a
    rcases hal n a with h1 | ⟨_, _, h1⟩
    · omega
    · exact h1
  · intro n x d a y g
    by_cases h1 : n = h.next
    · subst h1
      have := get_new a
      subst this
      rw [Ren.add_eq] at g; cases g
      exact ⟨ob, e, ho⟩
    · by_cases h2 : n = b
      · subst h2; exact absurd (get_dead a) y
      · rw [get_old h1 h2] at a
        rw [Ren.add_ne _ _ _ h1] at g
        obtain ⟨z, hz, hr⟩ := r.obj n x d a y g
        refine ⟨z, ?_, hr.mono hm⟩
        rw [e' d fun hdc => ?_]
        · exact hz
        · subst hdc; exact h2 (r.inj n b _ ⟨x, a, y⟩ hb g hc)
  · intro n m d a x y z
    rcases hal n a with h1 | ⟨h1, h1', h1a⟩ <;> rcases hal m x with h2 | ⟨h2, h2', h2a⟩
    · rw [h1, h2]
    · subst h1
      rw [Ren.add_eq] at y; cases y
      rw [Ren.add_ne _ _ _ h2'] at z
      exact absurd (r.inj m b _ h2a hb z hc) h2
    · subst h2
      rw [Ren.add_eq] at z; cases z
      rw [Ren.add_ne _ _ _ h1'] at y
      exact absurd (r.inj n b _ h1a hb y hc) h1
    · rw [Ren.add_ne _ _ _ h1'] at y
      rw [Ren.add_ne _ _ _ h2'] at z
      exact r.inj n m d h1a h2a y z
  · intro g hg; exact (hm _ _ (r.glob g hg)).1
  · intro n d a
    by_cases h1 : n = h.next
    · subst h1; rw [Ren.add_eq] at a; cases a; rw [e0]; exact r.bound b c hc
    · rw [Ren.add_ne _ _ _ h1] at a; rw [e0]; exact r.bound n d a
  · intro n el m ro z t d cs e4 fz a x y
    by_cases h1 : n = h.next
    · subst h1
      have := get_new a
      rw [Ren.add_eq] at x; cases x
      rw [e] at y; injection y with y
      rw [Ren.add_k]
      exact hk el m ro z t this.symm cs e4 fz y
    · by_cases h2 : n = b
      · subst h2; cases get_dead a
      · rw [get_old h1 h2] at a
        rw [Ren.add_ne _ _ _ h1] at x
        rw [Ren.add_kne _ _ _ h1]
        refine r.room n el m ro z t d cs e4 fz a x ?_
        rw [← e' d fun hdc => ?_]
        · exact y
        · subst hdc; exact h2 (r.inj n b _ ⟨_, a, by simp⟩ hb x hc)

/-- append, from where n and what is to come are known. -/
def appTail (e : TypeId) (size sLen sCap n : Nat) (base : Option Addr) (s x : Value) (zeros : Bool) (appended : Sem (Array Value)) : Sem Value := do
  let need := sLen + n
  if need ≤ sCap then
    let new ← appended
    if let some a := base then storeCells (a.add (sLen * size)) new.toList
    pure (.slice base need sCap)
  else
    if (need : Int) > IntKind.i64.max ∧ (zeros ∨ (← typeInfo e).bytes = 0) then runtimePanic (.error "growslice: len out of range")
    if Builtin.nextslicecap need sCap * (← typeInfo e).bytes > 2^48 then (if zeros then runtimePanic (.error "growslice: len out of range") else do
      if !(← Builtin.mayShare size sLen n base x) then mark .noRoom
      unsupported (.resourceLimit "append: a slice or a string whose bytes no memory bears"))
    let newCap ← choose (.appendCap need sCap e)
    askRoom (newCap * (← typeInfo e).bytes)
    let old ← Builtin.firstCells size sLen s
    let new ← appended
    let rest := Builtin.zeroCells (← zeroValue e).cells (newCap - need)
    pure (.slice (some (← Go.newRow e (old ++ new ++ rest))) need newCap)

theorem run_tail_in {w w' : World} {e : TypeId} {size sLen sCap n : Nat} {base : Option Addr} {s x : Value} {zeros : Bool} {appended : Sem (Array Value)} {new : List Value} (hle : sLen + n ≤ sCap) (ha : appended.run P w = .ok new.toArray w)
    (hs : match base with | some a => (storeCells (a.add (sLen * size)) new).run P w = .ok () w' | none => w' = w) : (appTail e size sLen sCap n base s x zeros appended).run P w = .ok (.slice base (sLen + n) sCap) w' := by
  unfold appTail
  simp only [hle, if_true, Sem.run_bind, ha, Result.andThen_ok]
  cases base with
  | none => simp only at hs; subst hs; simp
  | some a => simp only at hs; simp [hs]

theorem growBy_le (newLen : Nat) : ∀ (r c : Nat), Builtin.growBy newLen r c + 768 ≤ 2 ^ r * (c + 768)
  | 0, c => by simp [Builtin.growBy]
  | r + 1, c => by
    unfold Builtin.growBy
    split
    · rw [Nat.pow_succ]
      have : 1 ≤ 2 ^ r := Nat.one_le_two_pow
      calc c + 768 = 1 * (c + 768) := by omega
        _ ≤ 2 ^ r * 2 * (c + 768) := Nat.mul_le_mul_right _ (by omega)
    · refine Nat.le_trans (growBy_le newLen r _) ?_
      rw [Nat.pow_succ, Nat.mul_assoc]
      exact Nat.mul_le_mul_left _ (by omega)
theorem nextcap_le {need cap : Nat} (h : cap < need) : Builtin.nextslicecap need cap ≤ 16 * (need + 768) := by
  unfold Builtin.nextslicecap
  split
  · omega
  · split
    · omega
    · have := growBy_le need 4 cap
      have h16 : 2 ^ 4 = 16 := rfl
      rw [h16] at this
      omega

theorem run_tail_grow {w : World} {e : TypeId} {size sLen sCap n : Nat} {base : Option Addr} {s x zv : Value} {zeros : Bool} {appended : Sem (Array Value)} {old new : List Value} {i : TypeInfo}
    (hlt : sCap < sLen + n) (hneed : sLen + n ≤ 2097152) (hi : P.info? e = some i) (hib : i.bytes ≤ 1048576) :
    let cap := (sLen + n) + w.tape w.drawn (.appendCap (sLen + n) sCap e) % (2 ^ 63 - (sLen + n))
    let w1 : World := { w with drawn := w.drawn + 1 }
    (Builtin.firstCells size sLen s).run P w1 = .ok old.toArray w1 → appended.run P w1 = .ok new.toArray w1 → (zeroValue e).run P w1 = .ok zv w1 →
    (appTail e size sLen sCap n base s x zeros appended).run P w = .ok (.slice (some ⟨w.heap.size, 0, none⟩) (sLen + n) cap)
      { w1 with heap := w.heap.push (.cells (old.toArray ++ new.toArray ++ Builtin.zeroCells zv.cells (cap - (sLen + n))) e) } := by
  intro cap w1 ho hn hz
  unfold appTail
  have hb : Builtin.nextslicecap (sLen + n) sCap * i.bytes ≤ 2 ^ 48 := by
    have h1 := nextcap_le hlt
    have h2 : Builtin.nextslicecap (sLen + n) sCap ≤ 16 * (2097152 + 768) := Nat.le_trans h1 (Nat.mul_le_mul_left 16 (Nat.add_le_add_right hneed 768))
    exact Nat.le_trans (Nat.mul_le_mul h2 hib) (by decide)
  have hmax : ¬ (((sLen + n : Nat) : Int) > IntKind.i64.max) := by
    have : IntKind.i64.max = ((9223372036854775807 : Nat) : Int) := by decide
    rw [this]; omega
  have hc1 : ¬ (sLen + n ≤ sCap) := Nat.not_le.2 hlt
  have hp : ∀ (b : Prop), ¬ (((sLen + n : Nat) : Int) > IntKind.i64.max ∧ b) := fun b h => hmax h.1
  have hc2 : ¬ (Builtin.nextslicecap (sLen + n) sCap * i.bytes > 2 ^ 48) := Nat.not_lt.2 hb
  simp only [hc1, if_false, Sem.run_bind, info_run hi, Result.andThen_ok, hp, hc2, run_choose, Question.forced, Bool.false_eq_true, run_askRoom, Sem.run_pure]
  have e1 : Question.cut (.appendCap (sLen + n) sCap e) (w.tape w.drawn (.appendCap (sLen + n) sCap e)) = cap := rfl
  rw [e1]
  simp only [w1] at ho hn hz
  simp only [ho, hn, hz, Result.andThen_ok, Go.newRow, Sem.run_bind, run_newObj, Sem.run_pure]
  rfl

theorem readN_length {n : Nat} {z : List AV} {tr : PT AV} : ∀ {k i : Nat} {cs : List AV}, readN n z tr i k = some cs → cs.length = k
  | 0, i, cs, h => by simp [readN] at h; subst h; rfl
  | k + 1, i, cs, h => by
    unfold readN at h
    split at h
    · split at h
      · rename_i us hus
        injection h with h; subst h
        simp [readN_length hus]
      · cases h
    · cases h
theorem readCells_length {h : H} {b off k : Nat} {cs : List AV} (hr : readCells h b off k = some cs) : cs.length = k := by
  unfold readCells at hr
  split at hr
  · injection hr with hr; subst hr; rfl
  · split at hr
    · exact readN_length hr
    · cases hr
theorem cellsOfArg_length {h : H} {size n : Nat} {x : AV} {cs : List AV} (hn : lenA x = some n) (hc : cellsOfArg h size n x = some cs) : cs.length = n * size := by
  unfold cellsOfArg at hc
  split at hc
  · injection hc with hc; subst hc
    simp [lenA] at hn; subst hn; simp
  · exact readCells_length hc
  · split at hc
    · rename_i hs
      injection hc with hc; subst hc
      simp [lenA] at hn
      have := Nat.eq_of_beq_eq_true hs
      subst this
      simp [byteCells]; omega
    · cases hc
  · cases hc

theorem smallE_info {e : TypeId} (h : smallE P e = true) : ∃ i z, P.info? e = some i ∧ zeroOf P e = some z ∧ i.bytes ≤ 1048576 ∧ z.length = i.size := by
  unfold smallE at h
  split at h
  · rename_i i hi
    split at h
    · rename_i z hz
      simp only [Bool.and_eq_true] at h
      exact ⟨i, z, hi, hz, Nat.le_of_ble_eq_true h.1, Nat.eq_of_beq_eq_true h.2⟩
    · cases h
  · cases h

/-- What append is to add. -/
def appWhat (e : TypeId) (size n : Nat) (zeros : Bool) (x : Value) : Sem (Array Value) :=
  if !zeros then Builtin.firstCells size n x
  else if n * size = 0 then pure #[]
  else do pure (Builtin.zeroCells (← zeroValue e).cells n)

theorem zeroCells_rel {ρ : Ren} {z : List AV} {z' : Array Value} (hz : VRels ρ z z'.toList) (n : Nat) : VRels ρ (repl z n) (Builtin.zeroCells z' n).toList := by
  have hl := hz.length
  simp at hl
  exact repl_rel hz n (n * z'.size) (by rw [hl])

theorem appNew_rel {ρ : Ren} {h : H} {w : World} {e : TypeId} {size n : Nat} {ts : Array TypeId} {x : AV} {x' : Value} {new : List AV} {zb : Bool} (r : HRel P ρ h w) (hx : VRel ρ x x') (hz : isZeros P ts = some zb) (hn : appendN (some zb) x = some n)
    (hs : szOf P e = some size) (hsm : smallE P e = true) (ha : appendNew P h e size n (some zb) x = some new) : ∃ new' : List Value, (appWhat e size n zb x').run P w = .ok new'.toArray w ∧ VRels ρ new new' ∧ new.length = n * size := by
  obtain ⟨i, z, hi, hzo, hib, hzl⟩ := smallE_info hsm
  have hsz : i.size = size := by unfold szOf at hs; rw [hi] at hs; injection hs
  cases zb with
  | false =>
    simp only [appendN] at hn
    simp only [appendNew] at ha
    obtain ⟨vs', e1, e2⟩ := cellsOfArg_rel (P := P) (w := w) r hx hn (Nat.le_refl _) ha
    exact ⟨vs', by simpa [appWhat] using e1, e2, cellsOfArg_length hn ha⟩
  | true =>
    simp only [appendN] at hn
    simp only [appendNew] at ha
    split at ha
    · injection ha with ha; subst ha
      exact ⟨[], by simp [appWhat], .nil, by simp⟩
    · rename_i m
      rw [hzo] at ha
      injection ha with ha; subst ha
      obtain ⟨zv, z1, z2⟩ := zeroOf_run (P := P) (w := w) hzo
      by_cases h0 : m.succ * size = 0
      · refine ⟨[], by simp [appWhat, h0], ?_, by rw [repl_length, hzl, hsz]⟩
        have : repl z (m + 1) = [] := List.eq_nil_of_length_eq_zero (by rw [repl_length, hzl, hsz]; exact h0)
        rw [this]; exact .nil
      · refine ⟨(Builtin.zeroCells zv.cells m.succ).toList, ?_, zeroCells_rel (z2 ρ) _, by rw [repl_length, hzl, hsz]⟩
        simp [appWhat, h0, z1]

theorem append_head {w : World} {ts : Array TypeId} {ty st e : TypeId} {size n len cap : Nat} {base : Option Addr} {x : AV} {x' : Value} {ρ : Ren} {zb : Bool} (ht : ts[0]? = some st) (hu : P.underlying st = some (.slice e)) (hs : szOf P e = some size) (hsm : smallE P e = true)
    (hz : isZeros P ts = some zb) (hn : appendN (some zb) x = some n) (hle : n ≤ 1048576) (hx : VRel ρ x x') :
    (Builtin.append_ ts ty #[.slice base len cap, x']).run P w = (appTail e size len cap n base (.slice base len cap) x' zb (appWhat e size n zb x')).run P w := by
  obtain ⟨i, z, hi, hzo, hib, hzl⟩ := smallE_info hsm
  have a0 : (#[.slice base len cap, x'] : Array Value)[0]? = some (.slice base len cap) := rfl
  have a1 : (#[.slice base len cap, x'] : Array Value)[1]? = some x' := rfl
  unfold isZeros at hz
  split at hz
  · rename_i xt hxt
    unfold Builtin.append_
    simp only [ht, a0, a1, Sem.run_bind, und_run hu, Result.andThen_ok, sz_run hs, hxt]
    cases hd : P.underlying xt with
    | none => rw [hd] at hz; cases hz
    | some d =>
      simp only [und_run hd, Result.andThen_ok, Sem.run_pure]
      rw [hd] at hz
      split at hz
      · rename_i kk hkk
        injection hkk with hkk; subst hkk
        injection hz with hz; subst hz
        simp only [appendN] at hn
        obtain ⟨k2, rfl⟩ := nat?_rel hn hx
        have b1 : ¬ ((Int.ofNat n) < 0) := by simp
        have b2 : ¬ ((Int.ofNat n) * (i.bytes : Int) > 2 ^ 48) := by
          have p48 : (2 : Int) ^ 48 = ((281474976710656 : Nat) : Int) := by decide
          have := Nat.mul_le_mul hle hib
          have hh : n * i.bytes ≤ 281474976710656 := Nat.le_trans this (by decide)
          rw [p48]
          refine Int.not_lt.2 ?_
          show (n : Int) * (i.bytes : Int) ≤ _
          rw [← Int.natCast_mul]; exact Int.ofNat_le.2 hh
        simp only [if_true, Sem.run_bind, asInt, asIntOf, Sem.run_pure, Result.andThen_ok, wrap_small hle, b1, if_false, info_run hi, b2]
        unfold appTail appWhat
        simp only [if_true, Sem.run_bind, Sem.run_pure, Result.andThen_ok]
        rfl
      · rename_i d' hne hd'
        injection hd' with hd'; subst hd'
        injection hz with hz; subst hz
        simp only [appendN] at hn
        have e0 := lenA_rel (P := P) (w := w) hx hn
        have hm : (match d with | .int _ => true | _ => false) = false := by
          cases d <;> first | rfl | exact absurd rfl (hne _)
        unfold appTail appWhat
        simp only [hm, Bool.false_eq_true, if_false, Sem.run_bind, e0, Result.andThen_ok]
        rfl
      · cases hz
  · cases hz

theorem zeroCells_size (z : Array Value) (n : Nat) : (Builtin.zeroCells z n).size = n * z.size := by simp [Builtin.zeroCells]

theorem grow_stp {ρ : Ren} {h : H} {w : World} {e N cap : Nat} {tr : PT AV} {cells : Array Value} (r : HRel P ρ h w) (hn : ρ h.next = none) (hN : N ≤ cells.size) (hc : Cells ρ N [] tr cells) (hk : cap * P.cellsOf e ≤ cells.size) :
    Stp P ρ (ρ.add h.next w.heap.size cap) h (h.new (.row e N false false [] tr)) w { w with drawn := w.drawn + 1, heap := w.heap.push (.cells cells e) } := by
  refine Stp.new r hn (.row _ _ _ _ _ _ _ _ (fun hx => by cases hx) hN ?_ (fun _ => .inl rfl)) rfl rfl rfl rfl ?_
  · intro i v hv
    obtain ⟨v', q1, q2⟩ := hc i v hv
    exact ⟨v', q1, q2.mono (Ren.add_mono hn)⟩
  · intro e1 m1 ro1 z1 t1 ha cs1 e2 fz1 hb1
    injection ha with a1; injection hb1 with b1
    subst a1; subst b1
    exact hk

theorem cells_fresh {ρ : Ren} {cs : List AV} {cs' rest : Array Value} (h : VRels ρ cs cs'.toList) : Cells ρ cs.length [] (writeN .nil 0 cs) (cs' ++ rest) := by
  intro i v hv
  obtain ⟨v', q1, q2⟩ := h.get _ _ (cellAt_new hv)
  refine ⟨v', ?_, q2⟩
  have hi : i < cs'.size := by
    rcases Nat.lt_or_ge i cs'.size with h' | h'
    · exact h'
    · rw [List.getElem?_eq_none (by simpa using h')] at q1; cases q1
  rw [Array.getElem?_append_left hi]
  simpa using q1

theorem writeArr_lt : ∀ (vs : List Value) (cs : Array Value) (i j : Nat), j < i → (writeArr cs i vs)[j]? = cs[j]?
  | [], _, _, _, _ => rfl
  | v :: vs, cs, i, j, h => by
    unfold writeArr
    rw [writeArr_lt vs _ _ _ (by omega), Array.getElem?_setIfInBounds, if_neg (by omega)]
theorem writeArr_at : ∀ (vs : List Value) (cs : Array Value) (i j : Nat) {v : Value}, i + vs.length ≤ cs.size → vs[j]? = some v → (writeArr cs i vs)[i + j]? = some v
  | [], _, _, _, _, _, h => by simp at h
  | u :: vs, cs, i, 0, v, hl, h => by
    unfold writeArr
    simp at h; subst h
    have hl' : i + (vs.length + 1) ≤ cs.size := hl
    rw [writeArr_lt vs _ _ _ (by omega), Array.getElem?_setIfInBounds, if_pos (by omega), if_pos (by omega)]
  | u :: vs, cs, i, j + 1, v, hl, h => by
    unfold writeArr
    have hl' : i + (vs.length + 1) ≤ cs.size := hl
    have := writeArr_at vs (cs.setIfInBounds i u) (i + 1) j (v := v) (by rw [Array.size_setIfInBounds]; omega) (by simpa using h)
    rwa [show i + 1 + j = i + (j + 1) by omega] at this

theorem run_appendA {ρ : Ren} {h h' : H} {w : World} {ts : Array TypeId} {ty : TypeId} {s x v : AV} {s' x' : Value} (r : HRel P ρ h w) (hf : Free ρ h h') (hl : appendA P h ts s x = some (v, h')) (hs : VRel ρ s s') (hx : VRel ρ x x') :
    ∃ v' w' ρ', (Builtin.append_ ts ty #[s', x']).run P w = .ok v' w' ∧ VRel ρ' v v' ∧ Stp P ρ ρ' h h' w w' := by
  unfold appendA at hl
  split at hl
  · cases hl
  · rename_i st ht
    split at hl
    · rename_i e hu
      split at hl
      · cases hl
      · rename_i size hsz
        split at hl
        · cases hl
        · rename_i n hn
          split at hl
          · rename_i new hnb hnew
            split at hl
            · rename_i hsm
              have hnb := Nat.le_of_ble_eq_true hnb
              cases hz : isZeros P ts with
              | none => rw [hz] at hn; simp [appendN] at hn
              | some zb =>
              rw [hz] at hn hnew
              obtain ⟨i, z, hi, hzo, hib, hzl⟩ := smallE_info hsm
              have hisz : i.size = size := by unfold szOf at hsz; rw [hi] at hsz; injection hsz
              have hco := cellsOf_sz hsz
              have hnewlen : new.length = n * size := (appNew_rel (P := P) (w := w) r hx hz hn hsz hsm hnew).choose_spec.2.2
              -- the growth, from what is read
              have grow : ∀ {base : Option Addr} {len cap : Nat} {old : List Value}, s' = .slice base len cap → cap < len + n → len ≤ 1048576 → old.length = len * size →
                  (Builtin.firstCells size len (.slice base len cap)).run P { w with drawn := w.drawn + 1 } = .ok old.toArray { w with drawn := w.drawn + 1 } →
                  ∃ (cap2 : Nat) (new' : List Value) (rest : Array Value), VRels ρ new new' ∧ len + n ≤ cap2 ∧ (old.toArray ++ new'.toArray ++ rest).size = cap2 * size ∧
                  (Builtin.append_ ts ty #[s', x']).run P w = .ok (.slice (some ⟨w.heap.size, 0, none⟩) (len + n) cap2) { w with drawn := w.drawn + 1, heap := w.heap.push (.cells (old.toArray ++ new'.toArray ++ rest) e) } := by
                intro base len cap old hs' hlt hlen hol hold
                subst hs'
                have r1 : HRel P ρ h { w with drawn := w.drawn + 1 } := r.of_heap rfl
                obtain ⟨new', n1, n2, n3⟩ := appNew_rel r1 hx hz hn hsz hsm hnew
                obtain ⟨zv, z1, z2⟩ := zeroOf_run (P := P) (w := { w with drawn := w.drawn + 1 }) hzo
                have hzl2 : zv.cells.size = size := by have := (z2 ρ).length; simp at this; omega
                have hrun := run_tail_grow (P := P) (w := w) (base := base) (x := x') (zeros := zb) (size := size) (s := .slice base len cap) hlt (by omega) hi hib hold n1 z1
                refine ⟨_, new', _, n2, Nat.le_add_right _ _, ?_, (append_head ht hu hsz hsm hz hn hnb hx).trans hrun⟩
                have l2 := n2.length
                rw [Array.size_append, Array.size_append, zeroCells_size, hzl2]
                simp only [List.size_toArray]
                rw [hol, ← l2, n3, Nat.add_mul, Nat.add_mul]
                congr 1
                congr 1
                omega
              -- in place
              have inpl : ∀ {base : Option Addr} {len cap : Nat} {w' : World}, s' = .slice base len cap → len + n ≤ cap → (∀ new', VRels ρ new new' → match base with | some a => (storeCells (a.add (len * size)) new').run P w = .ok () w' | none => w' = w) →
                  (Builtin.append_ ts ty #[s', x']).run P w = .ok (.slice base (len + n) cap) w' := by
                intro base len cap w' hs' hle hst
                subst hs'
                obtain ⟨new', n1, n2, n3⟩ := appNew_rel r hx hz hn hsz hsm hnew
                exact (append_head ht hu hsz hsm hz hn hnb hx).trans (run_tail_in hle n1 (hst new' n2))
              have new0 : n = 0 → ∀ new', VRels ρ new new' → new' = [] := by
                intro h0 new' hv
                have := hv.length
                rw [hnewlen, h0] at this
                exact List.eq_nil_of_length_eq_zero (by omega)
              unfold appendTo at hl
              split at hl
              · -- nil
                cases hs
                split at hl
                · injection hl with hl; injection hl with h1 h2; subst h1; subst h2
                  exact ⟨_, w, ρ, inpl rfl (Nat.le_refl _) (fun _ _ => rfl), .nilSl, Stp.refl r⟩
                · injection hl with hl; injection hl with h1 h2; subst h1; subst h2
                  have hnn : ρ h.next = none := hf _ (Nat.le_refl _) (by unfold newRow; rw [H.new_next]; omega)
                  obtain ⟨cap2, new', rest, g1, g2, g3, g4⟩ := grow (old := []) rfl (by omega) (by omega) (by simp) rfl
                  refine ⟨_, _, ρ.add h.next w.heap.size cap2, g4, ?_, ?_⟩
                  · rw [Nat.zero_add]
                    exact .sl _ _ _ _ _ _ (by omega) (fun c hc => by cases hc) (.inr ⟨_, Ren.add_eq _ _ _ _, rfl⟩) (fun _ => ⟨by rw [Ren.add_k]; exact Nat.le_refl _, _, Ren.add_eq _ _ _ _⟩)
                  · unfold newRow
                    refine grow_stp r hnn ?_ ?_ (by rw [hco, g3]; exact Nat.le_refl _)
                    · rw [g3, hnewlen]; exact Nat.mul_le_mul_right _ (by omega)
                    · have := cells_fresh (rest := rest) (show VRels ρ new (new'.toArray).toList by simpa using g1)
                      simpa using this
              · -- the capacity is known
                rename_i b off len c
                cases hs with | sl _ _ _ _ ad cap' g1 g2 g3 g4 =>
                have hcc := g2 c rfl
                subst hcc
                split at hl
                · rename_i hle
                  have hle := Nat.le_of_ble_eq_true hle
                  split at hl
                  · injection hl with hl; injection hl with h1 h2; subst h1; subst h2
                    refine ⟨_, w, ρ, inpl rfl hle (fun new' hv => ?_), .sl _ _ _ _ _ _ g1 g2 g3 g4, Stp.refl r⟩
                    rw [new0 rfl new' hv]
                    rfl
                  · split at hl
                    · rename_i h2 hst
                      injection hl with hl; injection hl with h1 h2; subst h1; subst h2
                      obtain ⟨cb, hcb, rfl⟩ := g3.resolve_left (by omega)
                      obtain ⟨new', n1, n2, n3⟩ := appNew_rel r hx hz hn hsz hsm hnew
                      obtain ⟨w', q1, q2⟩ := run_storeCellsA (P := P) r hcb hst n2
                      refine ⟨_, w', ρ, (append_head ht hu hsz hsm hz hn hnb hx).trans (run_tail_in hle n1 ?_), .sl _ _ _ _ _ _ hle (fun c hc => by injection hc) (.inr ⟨cb, hcb, rfl⟩) (fun hc => by cases hc), q2⟩
                      show Sem.run P (storeCells (Addr.add ⟨cb, off, none⟩ (len * size)) new') w = Result.ok () w'
                      rw [addr_add]; exact q1
                    · cases hl
                · rename_i hle
                  have hgt : cap' < len + n := by
                    rcases Nat.lt_or_ge cap' (len + n) with h' | h'
                    · exact h'
                    · rw [Nat.ble_eq_true_of_le h'] at hle; cases hle
                  split at hl
                  · rename_i old hold hlen
                    injection hl with hl; injection hl with h1 h2; subst h1; subst h2
                    have hlen := Nat.le_of_ble_eq_true hlen
                    have hnn : ρ h.next = none := hf _ (Nat.le_refl _) (by unfold newRow; rw [H.new_next]; omega)
                    have r1 : HRel P ρ h { w with drawn := w.drawn + 1 } := r.of_heap rfl
                    obtain ⟨old', o1, o2⟩ := readCells_sl (P := P) r1 ((Nat.eq_zero_or_pos len).elim (fun h0 => .inl (by rw [h0, Nat.zero_mul])) (fun h0 => .inr (by omega))) g1 g3 hold
                    have ol := o2.length
                    have ol2 := readCells_length hold
                    obtain ⟨cap2, new', rest, q1, q2, q3, q4⟩ := grow (old := old') rfl hgt hlen (by omega) o1
                    refine ⟨_, _, ρ.add h.next w.heap.size cap2, q4, .sl _ _ _ _ _ _ q2 (fun c hc => by cases hc) (.inr ⟨_, Ren.add_eq _ _ _ _, rfl⟩) (fun _ => ⟨by rw [Ren.add_k]; exact Nat.le_refl _, _, Ren.add_eq _ _ _ _⟩), ?_⟩
                    unfold newRow
                    refine grow_stp r hnn ?_ ?_ (by rw [hco, q3]; exact Nat.le_refl _)
                    · rw [q3, List.length_append, hnewlen, ol2, ← Nat.add_mul]; exact Nat.mul_le_mul_right _ q2
                    · have := cells_fresh (rest := rest) (show VRels ρ (old ++ new) (old'.toArray ++ new'.toArray).toList by simpa using o2.append q1)
                      simpa using this
                  · cases hl
              · -- it is not known
                rename_i b off len
                cases hs with | sl _ _ _ _ ad cap' g1 g2 g3 g4 =>
                split at hl
                · injection hl with hl; injection hl with h1 h2; subst h1; subst h2
                  refine ⟨_, w, ρ, inpl rfl g1 (fun new' hv => ?_), .sl _ _ _ _ _ _ g1 g2 g3 g4, Stp.refl r⟩
                  rw [new0 rfl new' hv]
                  rfl
                · rename_i k _
                  split at hl
                  · rename_i e' nn z0 tr hg
                    split at hl
                    · rename_i hcnd hlen2
                      injection hl with hl; injection hl with h1 h2; subst h1; subst h2
                      simp only [Bool.and_eq_true] at hcnd
                      obtain ⟨⟨⟨⟨c1, c2⟩, c3⟩, c4⟩, c5⟩ := hcnd
                      have c1 := Nat.eq_of_beq_eq_true c1
                      subst c1
                      have c2 := Nat.le_of_ble_eq_true c2
                      have c3 := Nat.le_of_ble_eq_true c3
                      have hlen2 := Nat.le_of_ble_eq_true hlen2
                      have hz0 : z0 = [] := by cases z0 with | nil => rfl | cons _ _ => cases c4
                      subst hz0
                      obtain ⟨kb, c, hc⟩ := g4 rfl
                      have hnn : ρ h.next = none := hf _ (Nat.le_refl _) (by rw [H.new_next, H.put_next]; omega)
                      obtain ⟨cs, fz, q1, q2, q3, q4, q5⟩ := r.row hg hc
                      have hroom := r.room _ _ _ _ _ _ _ _ _ _ hg hc q1
                      rw [hco] at hroom
                      have hal : Alive h b := ⟨_, hg, by simp⟩
                      have hr2 : ∀ (cells : Array Value) (new' : List Value), VRels ρ new new' → (∀ j, j < len * size → cells[j]? = cs[j]?) → (∀ j v', new'[j]? = some v' → cells[len * size + j]? = some v') →
                          Cells ρ ((len + (k + 1)) * size) [] (writeN tr (len * size) new) cells := by
                        intro cells new' hv hc1 hc2 i v hi
                        rcases cellAt_writeN (.inl rfl) new tr (len * size) hi with ⟨j, e1, e2⟩ | ⟨e1, e2⟩
                        · obtain ⟨v', p1, p2⟩ := hv.get _ _ e2
                          exact ⟨v', by rw [e1]; exact hc2 _ _ p1, p2⟩
                        · have hilt : i < (len + (k + 1)) * size := by
                            unfold cellAt at e2
                            split at e2
                            · rename_i hb; exact lt_of_blt hb
                            · cases e2
                          have hi2 : i < len * size := by
                            rcases Nat.lt_or_ge i (len * size) with h' | h'
                            · exact h'
                            · have := e1 (i - len * size) (by rw [hnewlen, Nat.succ_eq_add_one]; rw [Nat.add_mul] at hilt; omega)
                              omega
                          have e3 : cellAt nn [] tr i = some v := by
                            unfold cellAt at e2 ⊢
                            rw [blt_t hilt] at e2
                            rw [blt_t (show i < nn by omega)]
                            exact e2
                          obtain ⟨v', p1, p2⟩ := q4 i v e3
                          exact ⟨v', by rw [hc1 i hi2]; exact p1, p2⟩
                      by_cases hroomy : len + (k + 1) ≤ cap'
                      · -- in place
                        obtain ⟨c', hc', rfl⟩ := g3.resolve_left (by omega)
                        rw [hc] at hc'; cases hc'
                        obtain ⟨new', n1, n2, n3⟩ := appNew_rel r hx hz hn hsz hsm hnew
                        have nl := n2.length
                        have hbig : len * size + new'.length ≤ cs.size := by
                          rw [← nl, n3, ← Nat.add_mul]
                          exact Nat.le_trans (Nat.mul_le_mul_right _ (Nat.le_trans hroomy kb)) hroom
                        have st := storeCells_run (P := P) new' w c (len * size) 0 cs q1 (by omega) (q5 rfl) (n2.ones c5)
                        refine ⟨_, { w with heap := w.heap.setIfInBounds c (.cells (writeArr cs (len * size + 0) new') e' fz) }, ρ.add h.next c (ρ.k b), (append_head ht hu hsz hsm hz hn hnb hx).trans (run_tail_in hroomy n1 ?_), ?_, ?_⟩
                        · show Sem.run P (storeCells (Addr.add ⟨c, 0, none⟩ (len * size)) new') w = Result.ok () _
                          rw [addr_add, Nat.zero_add]; exact st
                        · exact .sl _ _ _ _ _ _ hroomy (fun c hc => by cases hc) (.inr ⟨_, Ren.add_eq _ _ _ _, rfl⟩) (fun _ => ⟨by rw [Ren.add_k]; exact kb, _, Ren.add_eq _ _ _ _⟩)
                        · obtain ⟨s1, s2, s3⟩ := heap_set (w := w) (o := .cells (writeArr cs (len * size + 0) new') e' fz) (r.bound b c hc)
                          refine Stp.rename r hal hc hnn (.row _ _ _ _ _ _ _ _ (fun hx => by cases hx) ?_ ?_ (fun _ => by rw [writeArr_size]; exact q5 rfl)) s3 s1 s2 rfl rfl rfl ?_
                          · rw [writeArr_size, Nat.add_mul]; rw [← nl, n3] at hbig; exact hbig
                          · intro i v hi
                            obtain ⟨v', p1, p2⟩ := hr2 (writeArr cs (len * size + 0) new') new' n2 (fun j hj => writeArr_lt _ _ _ _ (by omega)) (fun j v' hj => writeArr_at _ _ _ _ (by omega) hj) i v hi
                            exact ⟨v', p1, p2.mono (Ren.add_mono hnn)⟩
                          · intro e1 m1 ro1 z1 t1 ha cs1 e2 fz1 hb1
                            injection ha with a1; injection hb1 with b1
                            subst a1; subst b1
                            rw [writeArr_size, hco]; exact hroom
                      · -- elsewhere
                        have r1 : HRel P ρ h { w with drawn := w.drawn + 1 } := r.of_heap rfl
                        let old' : List Value := cs.toList.take (len * size)
                        have ol : old'.length = len * size := by simp [old']; omega
                        have o1 : (Builtin.firstCells size len (.slice (some ad) len cap')).run P { w with drawn := w.drawn + 1 } = .ok old'.toArray { w with drawn := w.drawn + 1 } := by
                          show (loadCells ad (len * size)).run P _ = _
                          rw [← ol]
                          rcases g3 with g3 | ⟨c', hc', rfl⟩
                          · have hl0 : len = 0 := by omega
                            have : old' = [] := List.eq_nil_of_length_eq_zero (by rw [ol, hl0, Nat.zero_mul])
                            rw [this]; rfl
                          · rw [hc] at hc'; cases hc'
                            exact loadCells_run (w := { w with drawn := w.drawn + 1 }) q1 (fun j v' hj => by
                              simp only [old', List.getElem?_take] at hj
                              split at hj
                              · simpa using hj
                              · cases hj)
                        obtain ⟨cap2, new', rest, p1, p2, p3, p4⟩ := grow (old := old') rfl (by omega) c3 ol o1
                        refine ⟨_, _, ρ.add h.next w.heap.size cap2, p4, .sl _ _ _ _ _ _ p2 (fun c hc => by cases hc) (.inr ⟨_, Ren.add_eq _ _ _ _, rfl⟩) (fun _ => ⟨by rw [Ren.add_k]; exact Nat.le_refl _, _, Ren.add_eq _ _ _ _⟩), ?_⟩
                        have k1 := Stp.kill r hal hc
                        have hnx : (h.put b .dead).next = h.next := H.put_next _ _ _
                        have hnw : (h.put b .dead).new = fun ao => (h.put b .dead).new ao := rfl
                        have k2 := grow_stp (h := h.put b .dead) (e := e') (N := (len + (k + 1)) * size) (tr := writeN tr (len * size) new) (cap := cap2) k1.rel (by rw [hnx]; exact hnn)
                          (by rw [p3]; exact Nat.mul_le_mul_right _ p2) (hr2 _ new' p1 (fun j hj => ?_) (fun j v' hj => ?_)) (by rw [hco, p3]; exact Nat.le_refl _)
                        · rw [hnx] at k2
                          exact k1.trans (fun n a b => by rw [hnx] at b; omega) k2
                        · rw [Array.append_assoc, Array.getElem?_append_left (by simp only [List.size_toArray]; omega)]
                          simp only [List.getElem?_toArray, old', List.getElem?_take, hj, if_true]
                          simp
                        · have hjl : j < new'.length := by
                            rcases Nat.lt_or_ge j new'.length with h' | h'
                            · exact h'
                            · rw [List.getElem?_eq_none h'] at hj; cases hj
                          rw [Array.append_assoc, Array.getElem?_append_right (by simp only [List.size_toArray]; omega)]
                          simp only [List.size_toArray, ol]
                          rw [show len * size + j - len * size = j by omega, Array.getElem?_append_left (by simpa using hjl)]
                          simpa using hj
                    · cases hl
                  · cases hl
                · cases hl
              · cases hl
            · cases hl
          · cases hl
    · cases hl
end
end Go.Ab

namespace Go.Ab
section
variable {P : Program}

theorem builtin_args2 {c : Call} {a : Act} {x y : Operand} (ha : c.args.toList = [x, y]) : c.args.map a.eval = #[a.eval x, a.eval y] := by rw [← Array.toList_inj]; simp [ha]
theorem builtin_args1 {c : Call} {a : Act} {x : Operand} (ha : c.args.toList = [x]) : c.args.map a.eval = #[a.eval x] := by rw [← Array.toList_inj]; simp [ha]

theorem Came.congr {s s' : Sem Next} {ρ : Ren} {h h' : H} {w : World} {r : R} (e : s.run P w = s'.run P w) (c : Came P s' ρ h w h' r) : Came P s ρ h w h' r := by
  cases r <;> simpa [Came, e] using c

theorem at_append {o : Oper} {c : Call} {s x : Operand} (ho : o.op = .call c) (hc : c.callee = .builtin .append) (ha : c.args.toList = [s, x]) : EffAt P o (eAppend P c.argTypes s x) := by
  intro ρ tm a h w r h' hr hx hf he
  rw [ho] at hx
  have hop := builtin_exec (P := P) (a := a) (w := w) ho hc
  rw [builtin_args2 ha] at hop
  unfold eAppend at he
  split at he
  · rename_i us ux h1 h2
    unfold vh at he
    split at he
    · rename_i y h2' hs
      injection he with he; injection he with e1 e2; subst e1; subst e2
      obtain ⟨v', w', ρ', g1, g2, g3⟩ := run_appendA (ty := o.type) hr hf hs (hx s (call_args (by rw [ha]; simp)) _ h1) (hx x (call_args (by rw [ha]; simp)) _ h2)
      exact Came.congr hop (Came.value g1 g2 g3)
    · cases he
  · cases he
theorem at_copy {o : Oper} {c : Call} {s x : Operand} (ho : o.op = .call c) (hc : c.callee = .builtin .copy) (ha : c.args.toList = [s, x]) : EffAt P o (eCopy P c.argTypes s x) := by
  intro ρ tm a h w r h' hr hx hf he
  rw [ho] at hx
  have hop := builtin_exec (P := P) (a := a) (w := w) ho hc
  rw [builtin_args2 ha] at hop
  unfold eCopy at he
  split at he
  · rename_i us ux h1 h2
    unfold vh at he
    split at he
    · rename_i y h2' hs
      injection he with he; injection he with e1 e2; subst e1; subst e2
      obtain ⟨v', w', g1, g2, g3⟩ := run_copyA (ty := o.type) hr hs (hx s (call_args (by rw [ha]; simp)) _ h1) (hx x (call_args (by rw [ha]; simp)) _ h2)
      exact Came.congr hop (Came.value g1 g2 g3)
    · cases he
  · cases he
theorem at_delete {o : Oper} {c : Call} {m k : Operand} {t : TypeId} (ho : o.op = .call c) (hc : c.callee = .builtin .delete) (ha : c.args.toList = [m, k]) (ht : c.argTypes[0]? = some t) : EffAt P o (eDelete P t m k) := by
  intro ρ tm a h w r h' hr hx hf he
  rw [ho] at hx
  have hop := builtin_exec (P := P) (a := a) (w := w) ho hc
  rw [builtin_args2 ha] at hop
  unfold eDelete at he
  split at he
  · rename_i us ux h1 h2
    unfold uh at he
    split at he
    · rename_i h2' hs
      injection he with he; injection he with e1 e2; subst e1; subst e2
      obtain ⟨w', g1, g2⟩ := run_deleteA (ty := o.type) ht hr hs (hx m (call_args (by rw [ha]; simp)) _ h1) (hx k (call_args (by rw [ha]; simp)) _ h2)
      exact Came.congr hop (Came.value g1 (.tuple _ _ .nil) g2)
    · cases he
  · cases he

theorem run_clearA {ρ : Ren} {h h' : H} {w : World} {ts : Array TypeId} {ty : TypeId} {x : AV} {x' : Value} (r : HRel P ρ h w) (hl : clearA P h ts x = some h') (hx : VRel ρ x x') :
    ∃ w', (Builtin.clear_ ts ty #[x']).run P w = .ok undef w' ∧ Stp P ρ ρ h h' w w' := by
  unfold clearA at hl
  split at hl
  · cases hl
  · rename_i t ht
    have a0 : (#[x'] : Array Value)[0]? = some x' := rfl
    unfold Builtin.clear_
    simp only [ht, a0, Sem.run_bind]
    split at hl
    · rename_i e hu
      injection hl with hl; subst hl
      cases hx
      exact ⟨w, by simp [und_run hu]; rfl, Stp.refl r⟩
    · rename_i e b off cap hu
      injection hl with hl; subst hl
      cases hx
      exact ⟨w, by simp [und_run hu]; rfl, Stp.refl r⟩
    · rename_i e b off n cap hu
      split at hl
      · rename_i z hz
        cases hx with | sl _ _ _ _ ad cap' g1 g2 g3 g4 =>
        obtain ⟨c, hc, rfl⟩ := g3.resolve_left (by omega)
        obtain ⟨zv, z1, z2⟩ := zeroOf_run (P := P) (w := w) hz
        obtain ⟨w', q1, q2⟩ := run_storeCellsA (P := P) r hc hl (zeroCells_rel (z2 ρ) _)
        refine ⟨w', ?_, q2⟩
        simp only [und_run hu, Result.andThen_ok, Sem.run_bind, z1, q1, Sem.run_pure]
        rfl
      · cases hl
    · cases hl
theorem at_clear {o : Oper} {c : Call} {x : Operand} (ho : o.op = .call c) (hc : c.callee = .builtin .clear) (ha : c.args.toList = [x]) : EffAt P o (eClear P c.argTypes x) := by
  intro ρ tm a h w r h' hr hx hf he
  rw [ho] at hx
  have hop := builtin_exec (P := P) (a := a) (w := w) ho hc
  rw [builtin_args1 ha] at hop
  unfold eClear at he
  split at he
  · rename_i ux h1
    unfold uh at he
    split at he
    · rename_i h2' hs
      injection he with he; injection he with e1 e2; subst e1; subst e2
      obtain ⟨w', g1, g2⟩ := run_clearA (ty := o.type) hr hs (hx x (call_args (by rw [ha]; simp)) _ h1)
      exact Came.congr hop (Came.value g1 (.tuple _ _ .nil) g2)
    · cases he
  · cases he

theorem loadBytes_run {w : World} {c : Nat} {cs : Array Value} {e : TypeId} {fz : Nat × Nat} (h : w.heap[c]? = some (.cells cs e fz)) : ∀ (bs : List UInt8) (off : Nat) (acc : ByteArray),
    (∀ j b, bs[j]? = some b → cs[off + j]? = some (.int .u8 (b.toNat : Int))) → (Go.loadBytes ⟨c, off, none⟩ acc bs.length).run P w = .ok ⟨acc.data ++ bs.toArray⟩ w
  | [], off, acc, _ => by simp [Go.loadBytes]
  | b :: bs, off, acc, hb => by
    have h0 := hb 0 b rfl
    have : (b :: bs).length = bs.length + 1 := rfl
    rw [this]
    unfold Go.loadBytes
    simp only [Sem.run_bind, load_run h (show cs[off]? = _ from by simpa using h0), Result.andThen_ok]
    have e1 : ((b.toNat : Int)).toNat.toUInt8 = b := by simp
    rw [e1, addr_add]
    rw [loadBytes_run h bs (off + 1) (acc.push b) (fun j x hj => by
      have := hb (j + 1) x (by simpa using hj)
      rwa [show off + 1 + j = off + (j + 1) by omega])]
    congr 1
    cases acc
    simp [ByteArray.push]

theorem at_unsafeString {o : Oper} {c : Call} {p nO : Operand} (ho : o.op = .call c) (hc : c.callee = .builtin .unsafeString) (ha : c.args.toList = [p, nO]) : EffAt P o (eUnsafeString P c.argTypes p nO) := by
  intro ρ tm a h w r h' hr hx hf he
  rw [ho] at hx
  have hop := builtin_exec (P := P) (a := a) (w := w) ho hc
  rw [builtin_args2 ha] at hop
  unfold eUnsafeString at he
  split at he
  · rename_i b off k n h1 h2
    split at he
    · rename_i e nn ex ro z tr hg
      split at he
      · rename_i cs hpt hsz hrd hble
        split at he
        · rename_i s hbs
          injection he with he; injection he with e1 e2; subst e1; subst e2
          have v1 := hx p (call_args (by rw [ha]; simp)) _ h1
          have v2 := hx nO (call_args (by rw [ha]; simp)) _ h2
          unfold ptsAt at hpt
          split at hpt
          · rename_i t ht
            split at hpt
            · rename_i u hu
              have hpt := Nat.eq_of_beq_eq_true hpt
              subst hpt
              generalize a.eval p = p' at *
              generalize a.eval nO = n' at *
              cases v1 with | ptr _ _ cb hcb =>
              cases v2
              obtain ⟨cells, fz, q1, q2, q3, q4, q5⟩ := hr.row hg hcb
              obtain ⟨vs', r1, r2, r3⟩ := readN_rel q4 _ _ _ hrd
              obtain ⟨bs, b1, b2⟩ := bytesOfCells_rel hbs r2
              subst b2
              have hbl : bs.length = n + 1 := by simpa using r1
              have hcell : ∀ j b, bs[j]? = some b → cells[off + j]? = some (.int .u8 (b.toNat : Int)) := fun j b hj => r3 j _ (by simp [hj])
              have hoff : off + (n + 1) ≤ cells.size := by
                have := hcell n bs[n] (by simp)
                rcases Nat.lt_or_ge (off + n) cells.size with h' | h'
                · omega
                · rw [Array.getElem?_eq_none h'] at this; cases this
              have hv := run_variablesAt (P := P) (off := off) (n := n + 1) q1 hsz (by omega) (by simpa using hoff)
              have hl := loadBytes_run (P := P) q1 bs off .empty hcell
              rw [hbl] at hl
              have hfz := freeze_at (w := w) (off := off) (n := n + 1) q1 (by omega)
              have hst : Stp P ρ ρ h (h.put b (.row u nn ex true z tr)) w (w.freeze ⟨cb, off, none⟩ (n + 1)) := by
                rw [hfz]
                exact Stp.obj hr hg (by simp) hcb (.row _ _ _ _ _ _ _ _ q2 q3 q4 (fun hx => by cases hx)) (by
                  intro e1 m1 ro1 z1 t1 ha cs1 e2 fz1 hb1
                  injection ha with a1 a2 a3; injection hb1 with b1
                  subst a1; subst a3; subst b1
                  exact hr.room _ _ _ _ _ _ _ _ _ _ hg hcb q1)
              refine Came.congr (hop.trans rfl) (Came.value (s := Builtin.unsafeString_ c.argTypes o.type #[.pointer (some ⟨cb, off, none⟩), .int k (Int.ofNat (n + 1))]) (v' := .string ⟨ByteArray.empty.data ++ bs.toArray⟩) (ρ' := ρ) ?_ (.str _ _ (by simp [b1])) hst)
              have hble := Nat.le_of_ble_eq_true hble
              have m1 : ¬ ((Int.ofNat (n + 1)) < 0) := by simp; omega
              have m2 : ¬ ((Int.ofNat (n + 1)) > IntKind.i64.max) := by
                have : IntKind.i64.max = ((9223372036854775807 : Nat) : Int) := by decide
                rw [this]; simp; omega
              have m3 : ¬ ((Int.ofNat (n + 1)) = 0) := by simp; omega
              have m4 : (Int.ofNat (n + 1)).toNat = n + 1 := rfl
              show Sem.run P (Bind.bind (asInt (.int k (Int.ofNat (n + 1)))) _) w = _
              simp only [asInt, asIntOf, Sem.run_bind, Sem.run_pure, Result.andThen_ok, ht, m1, m2, m3, m4, if_false, elemOf, und_run hu, hv, if_true, hl, run_freeze]
            · cases hpt
          · cases hpt
        · cases he
      · cases he
    · cases he
  · cases he

theorem at_panic {o : Oper} {x : Operand} (ho : o.op = .panic x ∨ ∃ c, o.op = .call c ∧ c.callee = .builtin .panic ∧ c.args.toList = [x]) : EffAt P o (ePanic P x) := by
  intro ρ tm a h w r h' hr hx hf he
  have hv : ∀ u, eo P tm x = some u → VRel ρ u (a.eval x) := by
    intro u hu
    rcases ho with ho | ⟨c, ho, hc, ha⟩
    · rw [ho] at hx; exact hx x (by simp [Op.operands]) _ hu
    · rw [ho] at hx; exact hx x (call_args (by rw [ha]; simp)) _ hu
  unfold ePanic at he
  split at he
  · rename_i t y h1
    injection he with he; injection he with e1 e2; subst e1; subst e2
    have v1 := hv _ h1
    refine ⟨rfl, a.eval x, ?_, v1⟩
    have hp : (Instr.panic (a.eval x)).run P w = .halt (.panic (a.eval x)) w := by
      generalize a.eval x = x' at *
      cases v1
      rfl
    rcases ho with ho | ⟨c, ho, hc, ha⟩
    · unfold execOp; rw [ho]
      simp [hp]
    · rw [builtin_exec (P := P) (a := a) (w := w) ho hc, builtin_args1 ha]
      have : (#[a.eval x] : Array Value).getD 0 .nilIface = a.eval x := rfl
      unfold builtin
      simp [hp]
  · cases he

theorem at_recover {o : Oper} {c : Call} (ho : o.op = .call c) (hc : c.callee = .builtin .recover) : EffAt P o eRecover := by
  intro ρ tm a h w r h' hr hx hf he
  unfold eRecover at he
  injection he with he; injection he with e1 e2; subst e1; subst e2
  exact ⟨rfl, builtin_exec (P := P) (a := a) (w := w) ho hc⟩

theorem at_defer {o : Oper} {c : Call} {f : Operand} (ho : o.op = .defer c) (hc : c.callee = .value f) : EffAt P o (eDefer P f c.args.toList) := by
  intro ρ tm a h w r h' hr hx hf he
  rw [ho] at hx
  unfold eDefer at he
  split at he
  · rename_i args g first cap h1 h2
    split at he
    · rename_i fn hfn
      split at he
      · injection he with he; injection he with e1 e2; subst e1; subst e2
        have v1 := eos_rel (a := a) (fun y hy => hx y (call_args hy)) h1
        have v2 := hx f (by simp [Op.operands, Call.operands, hc]) _ h2
        have hop : (execOp a.eval o).run P w = (do pure (.defer (← Deferred.ofValue (a.eval f) (c.args.map a.eval))) : Sem Next).run P w := by
          unfold execOp; rw [ho]; dsimp only
          unfold resolve; rw [hc]
        rw [show (Came P (execOp a.eval o) ρ h w h _) = _ from rfl]
        generalize a.eval f = f' at *
        cases v2 with | func _ _ _ first' cap' g1 g2 g3 =>
        refine ⟨rfl, ⟨.fn (.func g) cap', first' ++ c.args.map a.eval⟩, ?_, cap', rfl, ?_⟩
        · rw [hop]; rfl
        · simp only [Array.toList_append]
          exact ((g2.append (by simpa using v1)).append g3)
      · cases he
    · cases he
  · cases he
end
end Go.Ab

namespace Go.Ab
section
variable {P : Program}

theorem lk_next (n : String) (fn : Func) (hn : fn.name = n) (ho : fn.origin = "") (h : Extern.allNextRows.lookup n = none) (h0 : Extern.allNextRows.lookup "" = none) : Extern.findNext fn = none := by
  unfold Extern.findNext
  simp [hn, ho, h, h0]
theorem lk_row (n : String) (fn : Func) {e : Array Value → Sem Value} (hn : fn.name = n) (h1 : Extern.allGenericRows.lookup n = none) (h2 : Extern.allTypedRows.lookup n = none) (h3 : Extern.allRows.lookup n = some e) : Extern.find fn = some e := by
  unfold Extern.find
  simp [hn, h1, h2, h3]
theorem lk_typed (n : String) (fn : Func) {e : Extern.Typed} (hn : fn.name = n) (h1 : Extern.allGenericRows.lookup n = none) (h2 : Extern.allTypedRows.lookup n = some e) : Extern.find fn = some (e fn.params fn.resultTypes) := by
  unfold Extern.find
  simp [hn, h1, h2]
theorem next_empty : Extern.allNextRows.lookup "" = none := by kernel_rfl
theorem n_ibs : Extern.allNextRows.lookup "internal/bytealg.IndexByteString" = none := by kernel_rfl
theorem g_ibs : Extern.allGenericRows.lookup "internal/bytealg.IndexByteString" = none := by kernel_rfl
theorem t_ibs : Extern.allTypedRows.lookup "internal/bytealg.IndexByteString" = none := by kernel_rfl
theorem r_ibs : Extern.allRows.lookup "internal/bytealg.IndexByteString" = some Extern.BytealgIndexByte.indexByte := by kernel_rfl
theorem n_cs : Extern.allNextRows.lookup "internal/bytealg.CountString" = none := by kernel_rfl
theorem g_cs : Extern.allGenericRows.lookup "internal/bytealg.CountString" = none := by kernel_rfl
theorem t_cs : Extern.allTypedRows.lookup "internal/bytealg.CountString" = none := by kernel_rfl
theorem r_cs : Extern.allRows.lookup "internal/bytealg.CountString" = some Extern.BytealgCount.count := by kernel_rfl
theorem n_cmp : Extern.allNextRows.lookup "internal/bytealg.abigen_runtime_cmpstring" = none := by kernel_rfl
theorem g_cmp : Extern.allGenericRows.lookup "internal/bytealg.abigen_runtime_cmpstring" = none := by kernel_rfl
theorem t_cmp : Extern.allTypedRows.lookup "internal/bytealg.abigen_runtime_cmpstring" = none := by kernel_rfl
theorem r_cmp : Extern.allRows.lookup "internal/bytealg.abigen_runtime_cmpstring" = some Extern.BytealgCompare.compare := by kernel_rfl
theorem n_mnz : Extern.allNextRows.lookup "internal/bytealg.MakeNoZero" = none := by kernel_rfl
theorem g_mnz : Extern.allGenericRows.lookup "internal/bytealg.MakeNoZero" = none := by kernel_rfl
theorem t_mnz : Extern.allTypedRows.lookup "internal/bytealg.MakeNoZero" = some Extern.BytealgMakeNoZero.makeNoZero := by kernel_rfl
theorem n_ne : Extern.allNextRows.lookup "internal/abi.NoEscape" = none := by kernel_rfl
theorem g_ne : Extern.allGenericRows.lookup "internal/abi.NoEscape" = none := by kernel_rfl
theorem t_ne : Extern.allTypedRows.lookup "internal/abi.NoEscape" = none := by kernel_rfl
theorem r_ne : Extern.allRows.lookup "internal/abi.NoEscape" = some Extern.AbiNoEscape.same := by kernel_rfl

theorem ext_run {f : FuncId} {fn : Func} {e : Array Value → Sem Value} {args : Array Value} {v : Value} {w w' : World} (hf : P.funcs[f]? = some fn) (hb : fn.body = none) (n : String) (hn : fn.name = n) (hne : (n == "runtime.NumGoroutine") = false)
    (h1 : Extern.findNext fn = none) (h2 : Extern.find fn = some e) (he : (e args).run P w = .ok v w') : (callFunc f args).run P w = .ok (.value v) w' := by
  unfold callFunc
  simp [hf, hn, hne, hb, h1, h2, he]
  simp at hne
  simp [hne, he]

theorem toNat_u8 {c : Nat} (h : c < 256) : ((Int.ofNat c).toNat.toUInt8).toNat = c := by
  show (UInt8.ofNat c).toNat = c
  simp; omega
theorem findByte_eq (c : UInt8) : ∀ (l : List UInt8) (i : Nat), findByte c.toNat (l.map UInt8.toNat) i = if Lib.indexByte l c = -1 then -1 else Lib.indexByte l c + i
  | [], i => rfl
  | b :: l, i => by
    have ge := Lib.indexByte_ge l c
    unfold Lib.indexByte
    simp only [List.map_cons, findByte]
    by_cases hb : b = c
    · subst hb
      rw [nbeq_t rfl]
      simp
    · have h1 : b.toNat ≠ c.toNat := fun e => hb (UInt8.toNat_inj.1 e)
      rw [nbeq_f h1]
      simp only []
      rw [findByte_eq c l (i + 1)]
      have h2 : (b == c) = false := by simpa using hb
      rw [h2]
      by_cases h3 : Lib.indexByte l c = -1
      · simp [h3]
      · have h4 : (Lib.indexByte l c == -1) = false := by simpa using h3
        rw [if_neg h3, h4]
        simp only [Bool.false_eq_true, if_false]
        rw [if_neg (by omega)]
        push_cast
        omega
theorem findByte_eq0 (c : UInt8) (l : List UInt8) : findByte c.toNat (l.map UInt8.toNat) 0 = Lib.indexByte l c := by
  rw [findByte_eq]
  split
  · rename_i h; exact h.symm
  · simp
theorem countByte_eq (c : UInt8) : ∀ (l : List UInt8), countByte c.toNat (l.map UInt8.toNat) = Lib.countByte l c
  | [] => rfl
  | b :: l => by
    have ih := countByte_eq c l
    unfold Lib.countByte at ih ⊢
    simp only [List.map_cons, countByte]
    rw [List.count_cons]
    by_cases hb : b = c
    · subst hb; rw [nbeq_t rfl]; simp [ih]
    · have h1 : b.toNat ≠ c.toNat := fun e => hb (UInt8.toNat_inj.1 e)
      rw [nbeq_f h1]
      simp [ih, hb]
theorem cmpBytes_eq : ∀ (a b : List UInt8), cmpBytes (a.map UInt8.toNat) (b.map UInt8.toNat) = Lib.compareBytes a b
  | [], [] => rfl
  | [], _ :: _ => rfl
  | _ :: _, [] => rfl
  | x :: a, y :: b => by
    simp only [List.map_cons, cmpBytes, Lib.compareBytes]
    by_cases hb : x = y
    · subst hb
      rw [nbeq_t rfl]
      have : ¬ x < x := by simp
      simp [cmpBytes_eq a b]
    · have h1 : x.toNat ≠ y.toNat := fun e => hb (UInt8.toNat_inj.1 e)
      rw [nbeq_f h1]
      simp only []
      by_cases h2 : x < y
      · rw [blt_t (UInt8.lt_iff_toNat_lt.1 h2)]; simp [h2]
      · have h3 : ¬ x.toNat < y.toNat := fun e => h2 (UInt8.lt_iff_toNat_lt.2 e)
        rw [blt_f h3]
        have h4 : y < x := UInt8.lt_iff_toNat_lt.2 (by omega)
        simp [h2, h4]

theorem digits_size : ∀ (n t : Nat) (acc : Array Value), (Extern.BytealgMakeNoZero.digits n t acc).size = acc.size + n
  | 0, _, _ => rfl
  | n + 1, t, acc => by unfold Extern.BytealgMakeNoZero.digits; rw [digits_size]; simp; omega

theorem run_externA {ρ : Ren} {h h' : H} {w : World} {f : FuncId} {fn : Func} {args : List AV} {args' : Array Value} {v : AV} (hf : P.funcs[f]? = some fn) (hb : fn.body = none) (r : HRel P ρ h w) (hfr : Free ρ h h')
    (hl : externA P h fn args = some (v, h')) (ha : VRels ρ args args'.toList) : ∃ v' w' ρ', (callFunc f args').run P w = .ok (.value v') w' ∧ VRel ρ' v v' ∧ Stp P ρ ρ' h h' w w' := by
  obtain ⟨al⟩ := args'
  simp only at ha
  unfold externA at hl
  split at hl
  · cases hl
  · rename_i ho
    have ho : fn.origin = "" := by simpa using ho
    split at hl
    · -- a string and a byte
      rename_i x c
      unfold ext2 at hl
      split at hl
      · rename_i s hc
        have hc := lt_of_blt hc
        cases ha with | cons _ x' _ _ hx hxs =>
        cases hxs with | cons _ c' _ _ hcc hn =>
        cases hn
        cases hcc
        cases hx with | str s' _ e =>
        subst e
        split at hl
        · rename_i hn
          have hn : fn.name = "internal/bytealg.IndexByteString" := by simpa using hn
          injection hl with hl; injection hl with h1 h2; subst h1; subst h2
          refine ⟨_, w, ρ, ext_run hf hb _ hn (by decide) (lk_next _ fn hn ho n_ibs next_empty) (lk_row _ fn hn g_ibs t_ibs r_ibs) (Lib.run_indexByteString s' (Int.ofNat c) w), ?_, Stp.refl r⟩
          rw [← findByte_eq0, toNat_u8 hc]; exact .int _ _
        · split at hl
          · rename_i hn
            have hn : fn.name = "internal/bytealg.CountString" := by simpa using hn
            injection hl with hl; injection hl with h1 h2; subst h1; subst h2
            refine ⟨_, w, ρ, ext_run hf hb _ hn (by decide) (lk_next _ fn hn ho n_cs next_empty) (lk_row _ fn hn g_cs t_cs r_cs) (Lib.run_countString s' (Int.ofNat c) w), ?_, Stp.refl r⟩
            rw [← countByte_eq, toNat_u8 hc]; exact .int _ _
          · cases hl
      · cases hl
    · -- two strings
      rename_i x y
      split at hl
      · rename_i hn
        have hn : fn.name = "internal/bytealg.abigen_runtime_cmpstring" := by simpa using hn
        injection hl with hl; injection hl with h1 h2; subst h1; subst h2
        cases ha with | cons _ x' _ _ hx hxs =>
        cases hxs with | cons _ c' _ _ hcc hn' =>
        cases hn'
        cases hx with | str s1 _ e1 =>
        cases hcc with | str s2 _ e2 =>
        subst e1; subst e2
        refine ⟨_, w, ρ, ext_run hf hb _ hn (by decide) (lk_next _ fn hn ho n_cmp next_empty) (lk_row _ fn hn g_cmp t_cmp r_cmp) (Lib.run_compareString s1 s2 w), ?_, Stp.refl r⟩
        rw [cmpBytes_eq]; exact .int _ _
      · cases hl
    · -- memory without zeros
      rename_i n
      split at hl
      · rename_i hn
        have hn : fn.name = "internal/bytealg.MakeNoZero" := by simpa using hn
        unfold extNoZero at hl
        split at hl
        · rename_i t hle ht
          have hle := Nat.le_of_ble_eq_true hle
          split at hl
          · rename_i e hu
            split at hl
            · rename_i hsz
              injection hl with hl; injection hl with h1 h2; subst h1; subst h2
              cases ha with | cons _ x' _ _ hx hxs =>
              cases hxs
              cases hx
              have hnn : ρ h.next = none := hfr _ (Nat.le_refl _) (by rw [H.new_next]; omega)
              have hts : fn.resultTypes = #[t] := by rw [← Array.toList_inj]; simpa using ht
              obtain ⟨cells, hrunm, hcs, _⟩ := Lib.run_makeNoZero (P := P) (w := w) fn.params t e hu n (by omega)
              rw [← hts] at hrunm
              refine ⟨.slice (some ⟨w.heap.size, 0, none⟩) n cells.size, _, ρ.add h.next w.heap.size cells.size,
                ext_run hf hb _ hn (by decide) (lk_next _ fn hn ho n_mnz next_empty) (lk_typed _ fn hn g_mnz t_mnz) hrunm, .sl _ _ _ _ _ _ hcs (fun c hc => by cases hc) (.inr ⟨_, Ren.add_eq _ _ _ _, rfl⟩) (fun _ => ⟨by rw [Ren.add_k]; exact Nat.le_refl _, _, Ren.add_eq _ _ _ _⟩),
                Stp.new r hnn (.row _ _ _ _ _ _ _ _ (fun hx => by cases hx) (Nat.zero_le _) (fun i v hv => (cellAt_nil hv).elim) (fun _ => .inl rfl)) rfl rfl rfl rfl ?_⟩
              · intro e1 m1 ro1 z1 t1 ha cs1 e2 fz1 hb1
                injection ha with a1; injection hb1 with b1
                subst a1; subst b1
                rw [cellsOf_sz hsz]; omega
            · cases hl
          · cases hl
        · cases hl
      · cases hl
    · -- the same
      rename_i b off
      split at hl
      · rename_i hn
        have hn : fn.name = "internal/abi.NoEscape" := by simpa using hn
        injection hl with hl; injection hl with h1 h2; subst h1; subst h2
        cases ha with | cons _ x' _ _ hx hxs =>
        cases hxs
        exact ⟨x', w, ρ, ext_run hf hb _ hn (by decide) (lk_next _ fn hn ho n_ne next_empty) (lk_row _ fn hn g_ne t_ne r_ne) rfl, hx, Stp.refl r⟩
      · cases hl
    · cases hl
end
end Go.Ab

namespace Go.Ab
section
variable {P : Program}

/-- No function of the program is the one whose call is told apart by its name. -/
def NoNG (P : Program) : Prop := ∀ (f : FuncId) (fn : Func), P.funcs[f]? = some fn → (fn.name == "runtime.NumGoroutine") = false

theorem run_callA (hng : NoNG P) {ρ : Ren} {h h' : H} {w : World} {f : FuncId} {args : List AV} {args' : Array Value} {r : R} (hr : HRel P ρ h w) (hfr : Free ρ h h') (hl : callA P h f args = some (r, h')) (ha : VRels ρ args args'.toList) :
    Came P (callFunc f args') ρ h w h' r := by
  unfold callA at hl
  split at hl
  · cases hl
  · rename_i fn hfn
    split at hl
    · rename_i body hb
      injection hl with hl; injection hl with h1 h2; subst h1; subst h2
      refine ⟨args', w, ρ, ?_, ha, Stp.refl hr⟩
      have hne := hng f fn hfn
      unfold callFunc
      simp only [Sem.run_bind, run_program, Result.andThen_ok, hfn, hne, Bool.false_eq_true, if_false, hb, Option.isNone_some]
      rfl
    · rename_i hb
      split at hl
      · rename_i v h2 hx
        injection hl with hl; injection hl with h1 h2; subst h1; subst h2
        obtain ⟨v', w', ρ', q1, q2, q3⟩ := run_externA hfn hb hr hfr hx ha
        exact ⟨_, v', w', ρ', .inl rfl, q2, q1, q3⟩
      · cases hl

theorem callV_exec {o : Oper} {c : Call} {g : Operand} {a : Act} (ho : o.op = .call c) (hc : c.callee = .value g) :
    execOp a.eval o = (do let d ← Deferred.ofValue (a.eval g) (c.args.map a.eval); invoke d.target d.args) := by
  unfold execOp; rw [ho]; dsimp only
  unfold resolve; rw [hc]

theorem run_callV (hng : NoNG P) {ρ : Ren} {h h' : H} {w : World} {f : AV} {f' : Value} {args : List AV} {args' : Array Value} {r : R} (hr : HRel P ρ h w) (hfr : Free ρ h h') (hl : callV P h f args = some (r, h')) (hf : VRel ρ f f') (ha : VRels ρ args args'.toList) :
    Came P (do let d ← Deferred.ofValue f' args'; invoke d.target d.args) ρ h w h' r := by
  unfold callV at hl
  split at hl
  · rename_i g first cap
    cases hf with | func _ _ _ first' cap' g1 g2 g3 =>
    refine Came.congr ?_ (run_callA hng (args' := first' ++ args' ++ cap') hr hfr hl (by simpa using (g2.append ha).append g3))
    rfl
  · rename_i t path g p first cap
    split at hl
    · rename_i hp
      cases hf with | func _ _ _ first' cap' g1 g2 g3 =>
      have hpn : path.toList = [] := by
        have : path.size = 0 := hp
        exact List.eq_nil_of_length_eq_zero (by simpa using this)
      have hargs := g2.append ha
      unfold callVia at hl
      split at hl
      · cases hl
      · rename_i x rest hxr
        rw [hxr] at hargs
        generalize hA : first'.toList ++ args'.toList = A at hargs
        have hA2 : (first' ++ args') = A.toArray := by rw [← Array.toList_inj]; simpa using hA
        cases hargs with | cons _ x' _ rest' hx hrest =>
        have hrun : ∀ (s : Sem Value) , (do let d ← Deferred.ofValue (.func (.via t path g p) first' cap') args'; invoke d.target d.args : Sem Next) = (do
            callFunc g (#[← receiverVia t x' path p] ++ (x' :: rest').toArray.extract 1 (x' :: rest').toArray.size)) := by
          intro _
          show invoke (.fn (.via t path g p) cap') (first' ++ args') = _
          rw [hA2]
          rfl
        have hext : (x' :: rest').toArray.extract 1 (x' :: rest').toArray.size = rest'.toArray := by simp
        rw [hrun (pure .nilIface), hext]
        have hrv : ∀ {s : Sem Value} {y : Value}, (receiverVia t x' path p).run P w = .ok y w → (do callFunc g (#[← receiverVia t x' path p] ++ rest'.toArray) : Sem Next).run P w = (callFunc g (#[y] ++ rest'.toArray)).run P w := by
          intro _ y hy
          simp [hy]
        have hfol : receiverVia t x' path p = receiverAt t (.val x') p none := by
          unfold receiverVia
          rw [hpn]
          rfl
        split at hl
        · rename_i e hu
          refine Came.congr (hrv (s := pure .nilIface) (y := x') ?_) (run_callA hng hr hfr hl (by simpa using .cons _ _ _ _ hx hrest))
          rw [hfol]; unfold receiverAt
          simp only [Sem.run_bind, und_run hu, Result.andThen_ok]; rfl
        · rename_i e b off hu
          split at hl
          · rename_i y hy
            cases hx with | ptr _ _ c hc =>
            obtain ⟨y', e1, e2⟩ := run_loadA hr hc hy
            refine Came.congr (hrv (s := pure .nilIface) (y := y') ?_) (run_callA hng hr hfr hl (by simpa using .cons _ _ _ _ e2 hrest))
            rw [hfol]; unfold receiverAt
            simp only [Sem.run_bind, und_run hu, Result.andThen_ok, Place.get, Sem.run_pure, asAddr]
            exact e1
          · cases hl
        · cases hl
        · rename_i d hd1 hu hd2
          refine Came.congr (hrv (s := pure .nilIface) (y := x') ?_) (run_callA hng hr hfr hl (by simpa using .cons _ _ _ _ hx hrest))
          rw [hfol]; unfold receiverAt
          simp only [Sem.run_bind, und_run hu, Result.andThen_ok]
          cases d <;> first | rfl | exact absurd rfl (hd1 _) | skip
        · cases hl
    · cases hl
  · rename_i l
    injection hl with hl; injection hl with h1 h2; subst h1; subst h2
    cases hf with
    | yld _ c hc =>
      refine ⟨rfl, c, #[] ++ args', hc, rfl, by simpa using ha⟩
  · cases hl
end
end Go.Ab

namespace Go.Ab
section
variable {P : Program}

theorem at_callF (hng : NoNG P) {o : Oper} {c : Call} {f : FuncId} (ho : o.op = .call c) (hc : c.callee = .value (.func f)) : EffAt P o (eCallF P f c.args.toList) := by
  intro ρ tm a h w r h' hr hx hf he
  rw [ho] at hx
  unfold eCallF at he
  split at he
  · rename_i args h1
    have v1 := eos_rel (a := a) (fun y hy => hx y (call_args hy)) h1
    rw [callV_exec ho hc]
    refine Came.congr ?_ (run_callA hng (args' := c.args.map a.eval) hr hf he (by simpa using v1))
    show (invoke (.fn (.func f) #[]) (#[] ++ c.args.map a.eval)).run P w = _
    unfold invoke
    simp
  · cases he
theorem at_callV (hng : NoNG P) {o : Oper} {c : Call} {f : Operand} (ho : o.op = .call c) (hc : c.callee = .value f) : EffAt P o (eCallV P f c.args.toList) := by
  intro ρ tm a h w r h' hr hx hf he
  rw [ho] at hx
  unfold eCallV at he
  split at he
  · rename_i args g h1 h2
    have v1 := eos_rel (a := a) (fun y hy => hx y (call_args hy)) h1
    have v2 := hx f (by simp [Op.operands, Call.operands, hc]) _ h2
    rw [callV_exec ho hc]
    exact run_callV hng hr hf he v2 (by simpa using v1)
  · cases he

theorem run_method {ρ : Ren} {w : World} {t : TypeId} {v : AV} {v' : Value} {name : String} {g : FuncId} {rv : AV} (h : methodA P t v name = some (g, rv)) (hv : VRel ρ v v') (D : Nat) :
    (method (D + 1) t v' name).run P w = .ok (g, v') w ∧ rv = v := by
  unfold methodA at h
  split at h
  · rename_i i hi
    split at h
    · rename_i m hm
      split at h
      · rename_i hp
        have hpn : m.path.toList = [] := List.eq_nil_of_length_eq_zero (by simpa using hp)
        unfold method
        simp only [Sem.run_bind, info_run hi, Result.andThen_ok, hm, hpn, follow, Sem.run_pure]
        split at h
        · rename_i f e hf hu
          injection h with h; injection h with h1 h2; subst h1; subst h2
          refine ⟨?_, rfl⟩
          simp only [hf]
          unfold receiverAt
          simp only [Sem.run_bind, und_run hu, Result.andThen_ok, Place.get, Sem.run_pure]
        · cases h
        · rename_i f d hd hf hu
          injection h with h; injection h with h1 h2; subst h1; subst h2
          refine ⟨?_, rfl⟩
          simp only [hf]
          unfold receiverAt
          simp only [Sem.run_bind, und_run hu, Result.andThen_ok]
          cases d <;> first | rfl | exact absurd rfl (hd _)
        · cases h
      · cases h
    · cases h
  · cases h

theorem at_invoke (hng : NoNG P) {o : Oper} {c : Call} {recv : Operand} {name : String} (ho : o.op = .call c) (hc : c.callee = .invoke recv name) : EffAt P o (eInvoke P recv name c.args.toList) := by
  intro ρ tm a h w r h' hr hx hf he
  rw [ho] at hx
  unfold eInvoke at he
  split at he
  · rename_i args t x h1 h2
    split at he
    · rename_i g rv hm
      have v1 := eos_rel (a := a) (fun y hy => hx y (call_args hy)) h1
      have v2 := hx recv (by simp [Op.operands, Call.operands, hc]) _ h2
      have hop : execOp a.eval o = invoke (.fn (.method name) #[]) (#[a.eval recv] ++ c.args.map a.eval) := by
        unfold execOp; rw [ho]; dsimp only
        unfold resolve; rw [hc]
        rfl
      rw [hop]
      generalize a.eval recv = rv' at *
      cases v2 with | iface _ _ x' hx' =>
      have e0 : (#[Value.iface t x'] ++ c.args.map a.eval : Array Value)[0]? = some (.iface t x') := by rw [Array.getElem?_append_left (by simp)]; rfl
      have e2 : (#[Value.iface t x'] ++ c.args.map a.eval : Array Value).extract 1 (#[Value.iface t x'] ++ c.args.map a.eval : Array Value).size = c.args.map a.eval := by
        rw [← Array.toList_inj]; simp [List.take_of_length_le]
      have e1 : invoke (.fn (.method name) #[]) (#[Value.iface t x'] ++ c.args.map a.eval) = callMethod (.iface t x') name (c.args.map a.eval) := by
        unfold invoke
        rw [e0, e2]
      rw [e1]
      obtain ⟨D, hD⟩ : ∃ D, P.types.size + Made.depth = D + 1 := ⟨P.types.size + 99, rfl⟩
      obtain ⟨m1, m2⟩ := run_method (P := P) (w := w) hm hx' D
      subst m2
      refine Came.congr ?_ (run_callA hng (args' := #[x'] ++ c.args.map a.eval) hr hf he (by simpa using .cons _ _ _ _ hx' v1))
      unfold callMethod
      simp only [Sem.run_bind, run_program, Result.andThen_ok, hD, m1]
    · cases he
  · cases he

theorem mkEff_eff {nt : Nat} {f g : PT AV → H → Option (R × H)} {dst dst' : Option Tmp} (h : mkEff nt f dst = .eff g dst') : (f = g ∧ dst = dst' ∧ ∀ d, dst = some d → d < nt) ∨ (g = eBad ∧ dst' = none) := by
  unfold mkEff at h
  split at h
  · split at h
    · rename_i hlt; injection h with h1 h2; subst h1; subst h2
      exact .inl ⟨rfl, rfl, fun d hd => by injection hd with hd; subst hd; exact lt_of_blt hlt⟩
    · injection h with h1 h2; exact .inr ⟨h1.symm, h2.symm⟩
  · injection h with h1 h2; subst h1; subst h2; exact .inl ⟨rfl, rfl, fun d hd => by cases hd⟩
theorem mkPure_eff {nt : Nat} {f : PT AV → Option AV} {g : PT AV → H → Option (R × H)} {dst dst' : Option Tmp} (h : mkPure nt f dst = .eff g dst') : g = eBad := by
  unfold mkPure at h
  split at h
  · split at h
    · cases h
    · injection h with h1 h2; exact h1.symm
  · injection h with h1 h2; exact h1.symm
theorem mkRead_eff {nt : Nat} {f : PT AV → H → Option AV} {g : PT AV → H → Option (R × H)} {dst dst' : Option Tmp} (h : mkRead nt f dst = .eff g dst') : g = eBad := by
  unfold mkRead at h
  split at h
  · split at h
    · cases h
    · injection h with h1 h2; exact h1.symm
  · injection h with h1 h2; exact h1.symm
theorem mkNew_eff {nt : Nat} {f : PT AV → Nat → Option (AV × AO)} {g : PT AV → H → Option (R × H)} {dst dst' : Option Tmp} (h : mkNew nt f dst = .eff g dst') : g = eBad := by
  unfold mkNew at h
  split at h
  · split at h
    · cases h
    · injection h with h1 h2; exact h1.symm
  · injection h with h1 h2; exact h1.symm

/-- What is known of a ready operation with an effect: it never goes, or it is what the model's is. -/
def EffOk (P : Program) (nt : Nat) (o : Oper) (g : PT AV → H → Option (R × H)) (dst : Option Tmp) : Prop := g = eBad ∨ (o.dst = dst ∧ (∀ d, dst = some d → d < nt) ∧ EffAt P o g)

theorem efin {nt : Nat} {o : Oper} {f g : PT AV → H → Option (R × H)} {dst : Option Tmp} (h : mkEff nt f o.dst = .eff g dst) (hp : EffAt P o f) : EffOk P nt o g dst := by
  rcases mkEff_eff h with ⟨h1, h2, h3⟩ | ⟨h1, _⟩
  · subst h1; subst h2; exact .inr ⟨rfl, h3, hp⟩
  · exact .inl h1
theorem ebad {nt : Nat} {o : Oper} {g : PT AV → H → Option (R × H)} {dst : Option Tmp} (h : COp.eff eBad none = .eff g dst) : EffOk P nt o g dst := by
  injection h with h1 h2; exact .inl h1.symm

theorem compBuiltin_eff {nt : Nat} {b : Builtin} {c : Call} {o : Oper} {g : PT AV → H → Option (R × H)} {dst : Option Tmp} (ho : o.op = .call c) (hc : c.callee = .builtin b) (h : compBuiltin P nt b c.argTypes c.args.toList o.dst = .eff g dst) :
    EffOk P nt o g dst := by
  unfold compBuiltin at h
  split at h <;> first
    | exact .inl (mkPure_eff h)
    | exact .inl (mkRead_eff h)
    | exact ebad h
    | exact efin h (at_append ho hc (by assumption))
    | exact efin h (at_copy ho hc (by assumption))
    | exact efin h (at_clear ho hc (by assumption))
    | exact efin h (at_recover ho hc)
    | exact efin h (at_panic (.inr ⟨c, ho, hc, by assumption⟩))
    | exact efin h (at_unsafeString ho hc (by assumption))
    | skip
  · split at h
    · split at h
      · exact .inl (mkPure_eff h)
      · exact ebad h
    · exact ebad h
  · split at h
    · rename_i t ht
      exact efin h (at_delete ho hc (by assumption) ht)
    · exact ebad h

theorem compCall_eff (hng : NoNG P) {nt : Nat} {c : Call} {o : Oper} {g : PT AV → H → Option (R × H)} {dst : Option Tmp} (ho : o.op = .call c) (h : compCall P nt c o.dst = .eff g dst) : EffOk P nt o g dst := by
  unfold compCall at h
  split at h
  · exact efin h (at_callF hng ho (by assumption))
  · exact efin h (at_callV hng ho (by assumption))
  · exact efin h (at_invoke hng ho (by assumption))
  · exact compBuiltin_eff ho (by assumption) h

theorem compField_eff {nt f : Nat} {t : TypeId} {x : Operand} {addr : Bool} {dst dst' : Option Tmp} {g : PT AV → H → Option (R × H)} {o : Oper}
    (h : compField P nt t x f addr dst = .eff g dst') : EffOk P nt o g dst' := by
  unfold compField at h
  split at h
  · split at h
    · split at h
      · split at h
        · exact ebad h
        · exact .inl (mkPure_eff h)
        · exact .inl (mkPure_eff h)
      · exact ebad h
    · exact ebad h
  · exact ebad h

theorem comp_eff (hng : NoNG P) {nt : Nat} {o : Oper} {g : PT AV → H → Option (R × H)} {dst : Option Tmp} (h : compOp P nt o = .eff g dst) : EffOk P nt o g dst := by
  unfold compOp at h
  split at h <;> first
    | exact .inl (mkPure_eff h)
    | exact .inl (mkRead_eff h)
    | exact .inl (mkNew_eff h)
    | exact ebad h
    | exact efin h (at_store (by assumption))
    | exact efin h (at_mapUpdate (.inl (by assumption)))
    | exact efin h (at_mapUpdate (.inr (by assumption)))
    | exact efin h (at_mapEntry (by assumption))
    | exact efin h (at_entryStore (by assumption))
    | exact efin h (at_range (by assumption))
    | exact efin h (at_next (by assumption))
    | exact efin h (at_panic (.inl (by assumption)))
    | exact compCall_eff hng (by assumption) h
    | exact compField_eff h
    | skip
  · split at h
    · exact efin h (at_convert (by assumption))
    · exact .inl (mkPure_eff h)
  · split at h
    · exact efin h (at_defer (by assumption) (by assumption))
    · exact ebad h
end
end Go.Ab
