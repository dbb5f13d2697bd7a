/-
  Statements that leave their order open; the theorem: what the evaluator says of a call, the call does.
  Own work for this claim; no condition.
-/
import Derived.Orders
import Derived.Test.YtfedglfdlgjbjaaGreatDoorA4
set_option linter.unusedSectionVars false
set_option linter.unnecessarySimpa false
set_option linter.unusedVariables false
set_option linter.unusedSimpArgs false
namespace Go.Ab
section
variable {P : Program}

theorem inMask_t {a m : Nat} (h : inMask a m = true) {i : Nat} (hi : a.testBit i = true) : m.testBit i = true := by
  have h := Nat.eq_of_beq_eq_true h
  have : (a &&& m).testBit i = true := by rw [h]; exact hi
  rw [Nat.testBit_and, hi] at this
  simpa using this
theorem mem_bitsOf {m i : Nat} : ∀ {n : Nat}, i < n → m.testBit i = true → i ∈ bitsOf m n
  | 0, h, _ => absurd h (Nat.not_lt_zero _)
  | n + 1, h, hb => by
    unfold bitsOf
    by_cases hi : i = n
    · subst hi; rw [hb]; simp
    · have := mem_bitsOf (n := n) (by omega) hb
      split
      · exact List.mem_cons_of_mem _ this
      · exact this
theorem testBit_rest {x m i : Nat} (hx : x.testBit i = true) (hm : m.testBit i = false) : (x ^^^ (x &&& m)).testBit i = true := by
  simp [Nat.testBit_xor, Nat.testBit_and, hx, hm]

/-- Which masks of operations bound to be earlier there are, and what they hold. -/
structure Stat (P : Program) (nt : Nat) (ops : Array Oper) (M : Nat → Nat) (loose : List (Nat × Nat)) (n : Nat) : Prop where
  edge : ∀ j o, j < n → ops[j]? = some o → ∀ e, e ∈ o.after.toList → Region.binds .any e = true → e.on < j
  anc : ∀ j o, j < n → ops[j]? = some o → ∀ i, (M j).testBit i = true → ∃ e, e ∈ o.after.toList ∧ Region.binds .any e = true ∧ (e.on = i ∨ (M e.on).testBit i = true)
  rw : ∀ i j oi oj d, i < j → j < n → ops[i]? = some oi → ops[j]? = some oj → oi.dst = some d → (d ∈ namesOf ops oj ∨ oj.dst = some d) → (M j).testBit i = true
  wr : ∀ i j oi oj d, i < j → j < n → ops[i]? = some oi → ops[j]? = some oj → d ∈ namesOf ops oi → oj.dst = some d → (M j).testBit i = true
  ee : ∀ i j oi oj, i < j → j < n → ops[i]? = some oi → ops[j]? = some oj → kindOf (compOp P nt oi) = .eff → kindOf (compOp P nt oj) = .eff → (M j).testBit i = true
  re : ∀ i j oi oj, i < j → j < n → ops[i]? = some oi → ops[j]? = some oj → kindOf (compOp P nt oi) = .eff → kindOf (compOp P nt oj) = .read → (M j).testBit i = true ∨ (j, i) ∈ loose
  er : ∀ i j oi oj, i < j → j < n → ops[i]? = some oi → ops[j]? = some oj → kindOf (compOp P nt oi) = .read → kindOf (compOp P nt oj) = .eff → (M j).testBit i = true ∨ (i, j) ∈ loose

/-- What the look knows behind the first n operations. -/
structure Seen (P : Program) (nt : Nat) (ops : Array Oper) (M : Nat → Nat) (s : Look) (n : Nat) : Prop where
  j : s.j = n
  anc : ∀ i a, s.anc.get i = some a → i < n ∧ a = M i
  wr : ∀ i o d, i < n → ops[i]? = some o → o.dst = some d → (maskAt s.wr d).testBit i = true
  rd : ∀ i o d, i < n → ops[i]? = some o → d ∈ namesOf ops o → (maskAt s.rd d).testBit i = true
  effs : ∀ i o, i < n → ops[i]? = some o → kindOf (compOp P nt o) = .eff → s.effs.testBit i = true
  reads : ∀ i o, i < n → ops[i]? = some o → kindOf (compOp P nt o) = .read → s.reads.testBit i = true
  st : Stat P nt ops M s.loose n

theorem edgeMask_some {anc : PT Nat} {j : Nat} : ∀ {es : List Edge} {m0 m : Nat}, edgeMask anc j es m0 = some m →
    (∀ e, e ∈ es → Region.binds .any e = true → e.on < j) ∧ ∀ i, m.testBit i = true → m0.testBit i = true ∨ ∃ e, e ∈ es ∧ Region.binds .any e = true ∧ (e.on = i ∨ ∃ a, anc.get e.on = some a ∧ a.testBit i = true)
  | [], m0, m, h => by simp [edgeMask] at h; subst h; exact ⟨by simp, fun i hi => .inl hi⟩
  | e :: es, m0, m, h => by
    unfold edgeMask at h
    split at h
    · rename_i hb hlt
      split at h
      · rename_i a ha
        obtain ⟨g1, g2⟩ := edgeMask_some h
        refine ⟨fun e' he' hb' => ?_, fun i hi => ?_⟩
        · rcases List.mem_cons.1 he' with rfl | he'
          · exact lt_of_blt hlt
          · exact g1 e' he' hb'
        · rcases g2 i hi with hm | ⟨e', he', hb', hx⟩
          · rw [Nat.testBit_or, Nat.testBit_or, Bool.or_eq_true, Bool.or_eq_true] at hm
            rcases hm with hm | hm | hm
            · exact .inl hm
            · refine .inr ⟨e, by simp, hb, .inl ?_⟩
              rw [Nat.testBit_two_pow] at hm
              simpa using hm
            · exact .inr ⟨e, by simp, hb, .inr ⟨a, ha, hm⟩⟩
          · exact .inr ⟨e', by simp [he'], hb', hx⟩
      · cases h
    · cases h
    · rename_i hb
      obtain ⟨g1, g2⟩ := edgeMask_some h
      refine ⟨fun e' he' hb' => ?_, fun i hi => ?_⟩
      · rcases List.mem_cons.1 he' with rfl | he'
        · rw [hb] at hb'; cases hb'
        · exact g1 e' he' hb'
      · rcases g2 i hi with hm | ⟨e', he', hb', hx⟩
        · exact .inl hm
        · exact .inr ⟨e', by simp [he'], hb', hx⟩

theorem readsOk_t {wr : PT Nat} {m : Nat} : ∀ {ts : List Tmp}, readsOk wr m ts = true → ∀ t, t ∈ ts → t < 1073741824 ∧ inMask (maskAt wr t) m = true
  | [], _, t, ht => by simp at ht
  | u :: us, h, t, ht => by
    unfold readsOk at h
    cases hu : (Nat.blt u 1073741824 && inMask (maskAt wr u) m) with
    | true =>
      rw [hu] at h
      rw [Bool.and_eq_true] at hu
      rcases List.mem_cons.1 ht with rfl | ht
      · exact ⟨lt_of_blt hu.1, hu.2⟩
      · exact readsOk_t h t ht
    | false => rw [hu] at h; cases h
theorem maskAt_set {p : PT Nat} {t u : Tmp} {x : Nat} (h : t < 1073741824) : maskAt (p.set t x) u = if t = u then x else maskAt p u := by
  unfold maskAt
  by_cases e : t = u
  · subst e; rw [PT.get_set _ _ h, if_pos rfl]
  · rw [PT.set_ne _ _ e, if_neg e]
theorem addMask_keep {b i : Nat} : ∀ {ts : List Tmp} {p : PT Nat} {t : Tmp}, (∀ u, u ∈ ts → u < 1073741824) → (maskAt p t).testBit i = true → (maskAt (addMask p b ts) t).testBit i = true
  | [], p, t, _, h => h
  | u :: us, p, t, hl, h => by
    unfold addMask
    refine addMask_keep (fun x hx => hl x (by simp [hx])) ?_
    rw [maskAt_set (hl u (by simp))]
    split
    · rename_i e; subst e; rw [Nat.testBit_or, h]; rfl
    · exact h
theorem addMask_in {i : Nat} : ∀ {ts : List Tmp} {p : PT Nat} {t : Tmp}, (∀ u, u ∈ ts → u < 1073741824) → t ∈ ts → (maskAt (addMask p (2 ^ i) ts) t).testBit i = true
  | [], p, t, _, h => by simp at h
  | u :: us, p, t, hl, h => by
    unfold addMask
    by_cases e : u = t
    · subst e
      refine addMask_keep (fun x hx => hl x (by simp [hx])) ?_
      rw [maskAt_set (hl u (by simp)), if_pos rfl, Nat.testBit_or, Nat.testBit_two_pow]
      simp
    · refine addMask_in (fun x hx => hl x (by simp [hx])) ?_
      rcases List.mem_cons.1 h with h | h
      · exact absurd h.symm e
      · exact h

theorem lookAt_seen {nt : Nat} {ops : Array Oper} {M : Nat → Nat} {s s' : Look} {n : Nat} {o : Oper} (S : Seen P nt ops M s n) (ho : ops[n]? = some o) (h : lookAt P nt ops s o = some s') :
    ∃ M', Seen P nt ops M' s' (n + 1) := by
  unfold lookAt at h
  split at h
  · cases h
  · rename_i m hm
    rw [S.j] at hm
    obtain ⟨e1, e2⟩ := edgeMask_some hm
    simp only [S.j] at h
    generalize hdm : (match o.dst with
      | some d => Nat.blt d 1073741824 && (inMask (maskAt s.wr d) m && inMask (maskAt s.rd d) m)
      | none => true) = dm at h
    generalize hwr : (match o.dst with
        | some d => s.wr.set d (maskAt s.wr d ||| 2 ^ n)
        | none => s.wr) = wr at h
    split at h
    · rename_i hro hd
      generalize hk : kindOf (compOp P nt o) = k at h
      subst hdm
      have names := readsOk_t hro
      have hnl : ∀ u, u ∈ namesOf ops o → u < 1073741824 := fun u hu => (names u hu).1
      have hdst : ∀ d, o.dst = some d → d < 1073741824 ∧ inMask (maskAt s.wr d) m = true ∧ inMask (maskAt s.rd d) m = true := by
        intro d hod
        rw [hod] at hd
        simp only [Bool.and_eq_true] at hd
        exact ⟨lt_of_blt hd.1, hd.2.1, hd.2.2⟩
      let M' : Nat → Nat := fun x => if x = n then m else M x
      have hM' : ∀ x, x < n → M' x = M x := fun x hx => if_neg (by omega)
      have hMn : M' n = m := if_pos rfl
      have hanc : ∀ i a, (s.anc.set n m).get i = some a → i < n + 1 ∧ a = M' i := by
        intro i a ha
        by_cases hi : n = i
        · subst hi; rw [PT.set_eq _ _ ha]; exact ⟨by omega, hMn.symm⟩
        · rw [PT.set_ne _ _ hi] at ha
          obtain ⟨q1, q2⟩ := S.anc i a ha
          exact ⟨by omega, by rw [q2, hM' i q1]⟩
      have hwr' : ∀ i oi d, i < n + 1 → ops[i]? = some oi → oi.dst = some d → (maskAt wr d).testBit i = true := by
        intro i oi d hi hoi hd'
        subst hwr
        by_cases hin : i = n
        · subst hin
          rw [ho] at hoi; cases hoi
          rw [hd']; simp only
          rw [maskAt_set (hdst d hd').1, if_pos rfl, Nat.testBit_or, Nat.testBit_two_pow]
          simp
        · have := S.wr i oi d (by omega) hoi hd'
          cases hod : o.dst with
          | none => exact this
          | some d2 =>
            simp only
            rw [maskAt_set (hdst d2 hod).1]
            split
            · rename_i e; subst e; rw [Nat.testBit_or, this]; rfl
            · exact this
      have hrd' : ∀ i oi d, i < n + 1 → ops[i]? = some oi → d ∈ namesOf ops oi → (maskAt (addMask s.rd (2 ^ n) (namesOf ops o)) d).testBit i = true := by
        intro i oi d hi hoi hd'
        by_cases hin : i = n
        · subst hin
          rw [ho] at hoi; cases hoi
          exact addMask_in hnl hd'
        · exact addMask_keep hnl (S.rd i oi d (by omega) hoi hd')
      -- the pairs, whatever is loose
      have hst : ∀ loose', (∀ x, x ∈ s.loose → x ∈ loose') →
          (kindOf (compOp P nt o) = .eff → ∀ i oi, i < n → ops[i]? = some oi → kindOf (compOp P nt oi) = .eff → m.testBit i = true) →
          (kindOf (compOp P nt o) = .read → ∀ i oi, i < n → ops[i]? = some oi → kindOf (compOp P nt oi) = .eff → m.testBit i = true ∨ (n, i) ∈ loose') →
          (kindOf (compOp P nt o) = .eff → ∀ i oi, i < n → ops[i]? = some oi → kindOf (compOp P nt oi) = .read → m.testBit i = true ∨ (i, n) ∈ loose') → Stat P nt ops M' loose' (n + 1) := by
        intro loose' hsub h1 h2 h3
        refine ⟨?_, ?_, ?_, ?_, ?_, ?_, ?_⟩
        · intro j oj hj hoj e he hb
          by_cases hjn : j = n
          · subst hjn; rw [ho] at hoj; cases hoj; exact e1 e he hb
          · exact S.st.edge j oj (by omega) hoj e he hb
        · intro j oj hj hoj i hi
          by_cases hjn : j = n
          · subst hjn; rw [ho] at hoj; cases hoj
            rw [hMn] at hi
            rcases e2 i hi with h0 | ⟨e, he, hb, hx⟩
            · simp at h0
            · refine ⟨e, he, hb, ?_⟩
              rcases hx with hx | ⟨a, ha, hai⟩
              · exact .inl hx
              · have := (S.anc _ _ ha).2
                rw [hM' _ (e1 e he hb), ← this]
                exact .inr hai
          · rw [hM' j (by omega)] at hi
            obtain ⟨e, he, hb, hx⟩ := S.st.anc j oj (by omega) hoj i hi
            have hlt := S.st.edge j oj (by omega) hoj e he hb
            exact ⟨e, he, hb, by rw [hM' _ (by omega)]; exact hx⟩
        · intro i j oi oj d hij hj hoi hoj hd' hor
          by_cases hjn : j = n
          · subst hjn; rw [ho] at hoj; cases hoj
            rw [hMn]
            have hb := S.wr i oi d hij hoi hd'
            rcases hor with hor | hor
            · exact inMask_t (names d hor).2 hb
            · exact inMask_t (hdst d hor).2.1 hb
          · rw [hM' j (by omega)]; exact S.st.rw i j oi oj d hij (by omega) hoi hoj hd' hor
        · intro i j oi oj d hij hj hoi hoj hd' hor
          by_cases hjn : j = n
          · subst hjn; rw [ho] at hoj; cases hoj
            rw [hMn]
            exact inMask_t (hdst d hor).2.2 (S.rd i oi d hij hoi hd')
          · rw [hM' j (by omega)]; exact S.st.wr i j oi oj d hij (by omega) hoi hoj hd' hor
        · intro i j oi oj hij hj hoi hoj hki hkj
          by_cases hjn : j = n
          · subst hjn; rw [ho] at hoj; cases hoj
            rw [hMn]; exact h1 hkj i oi hij hoi hki
          · rw [hM' j (by omega)]; exact S.st.ee i j oi oj hij (by omega) hoi hoj hki hkj
        · intro i j oi oj hij hj hoi hoj hki hkj
          by_cases hjn : j = n
          · subst hjn; rw [ho] at hoj; cases hoj
            rw [hMn]; exact h2 hkj i oi hij hoi hki
          · rw [hM' j (by omega)]
            exact (S.st.re i j oi oj hij (by omega) hoi hoj hki hkj).imp id (hsub _)
        · intro i j oi oj hij hj hoi hoj hki hkj
          by_cases hjn : j = n
          · subst hjn; rw [ho] at hoj; cases hoj
            rw [hMn]; exact h3 hkj i oi hij hoi hki
          · rw [hM' j (by omega)]
            exact (S.st.er i j oi oj hij (by omega) hoi hoj hki hkj).imp id (hsub _)
      cases hkk : k with
      | still =>
        subst hkk
        injection h with h; subst h
        refine ⟨M', rfl, hanc, (fun i oi d h1 h2 h3 => by have := hwr' i oi d h1 h2 h3; rw [← hwr] at this; exact this), hrd', ?_, ?_, hst _ (fun _ h => h) (fun q => by rw [hk] at q; cases q) (fun q => by rw [hk] at q; cases q) (fun q => by rw [hk] at q; cases q)⟩
        · intro i oi hi hoi hki
          by_cases hin : i = n
          · subst hin; rw [ho] at hoi; cases hoi; rw [hk] at hki; cases hki
          · exact S.effs i oi (by omega) hoi hki
        · intro i oi hi hoi hki
          by_cases hin : i = n
          · subst hin; rw [ho] at hoi; cases hoi; rw [hk] at hki; cases hki
          · exact S.reads i oi (by omega) hoi hki
      | read =>
        subst hkk
        injection h with h; subst h
        refine ⟨M', rfl, hanc, (fun i oi d h1 h2 h3 => by have := hwr' i oi d h1 h2 h3; rw [← hwr] at this; exact this), hrd', ?_, ?_, hst _ (fun _ h => List.mem_append_right _ h) (fun q => by rw [hk] at q; cases q) ?_ (fun q => by rw [hk] at q; cases q)⟩
        · intro i oi hi hoi hki
          by_cases hin : i = n
          · subst hin; rw [ho] at hoi; cases hoi; rw [hk] at hki; cases hki
          · exact S.effs i oi (by omega) hoi hki
        · intro i oi hi hoi hki
          simp only
          rw [Nat.testBit_or]
          by_cases hin : i = n
          · subst hin; rw [Nat.testBit_two_pow]; simp
          · rw [S.reads i oi (by omega) hoi hki]; rfl
        · intro _ i oi hi hoi hki
          cases hb : m.testBit i with
          | true => exact .inl rfl
          | false =>
            refine .inr (List.mem_append_left _ (List.mem_map.2 ⟨i, mem_bitsOf hi (testBit_rest (S.effs i oi hi hoi hki) hb), rfl⟩))
      | eff =>
        subst hkk
        simp only at h
        split at h
        · rename_i heff
          injection h with h; subst h
          refine ⟨M', rfl, hanc, (fun i oi d h1 h2 h3 => by have := hwr' i oi d h1 h2 h3; rw [← hwr] at this; exact this), hrd', ?_, ?_, hst _ (fun _ h => List.mem_append_right _ h) (fun _ i oi hi hoi hki => inMask_t heff (S.effs i oi hi hoi hki)) (fun q => by rw [hk] at q; cases q) ?_⟩
          · intro i oi hi hoi hki
            simp only
            rw [Nat.testBit_or]
            by_cases hin : i = n
            · subst hin; rw [Nat.testBit_two_pow]; simp
            · rw [S.effs i oi (by omega) hoi hki]; rfl
          · intro i oi hi hoi hki
            by_cases hin : i = n
            · subst hin; rw [ho] at hoi; cases hoi; rw [hk] at hki; cases hki
            · exact S.reads i oi (by omega) hoi hki
          · intro _ i oi hi hoi hki
            cases hb : m.testBit i with
            | true => exact .inl rfl
            | false =>
              refine .inr (List.mem_append_left _ (List.mem_map.2 ⟨i, mem_bitsOf hi (testBit_rest (S.reads i oi hi hoi hki) hb), rfl⟩))
        · cases h
    · cases h

theorem lookAll_seen {nt : Nat} {ops : Array Oper} : ∀ (m n : Nat), n + m = ops.size → ∀ {M : Nat → Nat} {s s' : Look}, Seen P nt ops M s n → lookAll P nt ops (ops.toList.drop n) s = some s' → ∃ M', Seen P nt ops M' s' ops.size
  | 0, n, hn, M, s, s', S, h => by
    have : ops.toList.drop n = [] := List.drop_eq_nil_iff.2 (by simp; omega)
    rw [this] at h
    simp [lookAll] at h
    subst h
    have : n = ops.size := by omega
    exact ⟨M, this ▸ S⟩
  | m + 1, n, hn, M, s, s', S, h => by
    have hlt : n < ops.size := by omega
    have hd : ops.toList.drop n = ops[n] :: ops.toList.drop (n + 1) := by
      rw [List.drop_eq_getElem_cons (by simpa using hlt)]
      simp
    rw [hd] at h
    unfold lookAll at h
    split at h
    · rename_i s1 hs1
      obtain ⟨M', S'⟩ := lookAt_seen S (by simp [hlt]) hs1
      exact lookAll_seen m (n + 1) (by omega) S' h
    · cases h

theorem loose_stat {nt : Nat} {ops : Array Oper} {loose : List (Nat × Nat)} (h : looseOf P nt ops = some loose) : ∃ M, Stat P nt ops M loose ops.size ∧ ∀ i a, (ancOf P nt ops).get i = some a → a = M i := by
  unfold looseOf at h
  split at h
  · rename_i s hs
    injection h with h; subst h
    have S0 : Seen P nt ops (fun _ => 0) ⟨0, .nil, .nil, .nil, 0, 0, []⟩ 0 := by
      refine ⟨rfl, fun i a h => ?_, fun _ _ _ h => absurd h (Nat.not_lt_zero _), fun _ _ _ h => absurd h (Nat.not_lt_zero _), fun _ _ h => absurd h (Nat.not_lt_zero _), fun _ _ h => absurd h (Nat.not_lt_zero _), ⟨fun _ _ h => absurd h (Nat.not_lt_zero _), fun _ _ h => absurd h (Nat.not_lt_zero _), ?_, ?_, ?_, ?_, ?_⟩⟩
      · rw [PT.get_nil] at h; cases h
      all_goals intros; omega
    obtain ⟨M, S⟩ := lookAll_seen ops.size 0 (by omega) S0 hs
    refine ⟨M, S.st, fun i a ha => ?_⟩
    unfold ancOf at ha
    rw [hs] at ha
    exact (S.anc i a ha).2
  · cases h
end
end Go.Ab

namespace Go.Ab
section
variable {P : Program}

/-- An effect of a region, by itself. -/
theorem eff_step (hng : NoNG P) {r : Rec} (hm : RecMono r) (hc : CallOk P r.call) (hrd : RoundOk P r.round) {nt : Nat} {ops : Array Oper} {i : Nat} {o : Oper} {f : PT AV → H → Option (R × H)} {dst : Option Tmp} (ho : ops[i]? = some o) (hcp : compOp P nt o = .eff f dst)
    {tm : PT AV} {h : H} {y : EO} (hre : runEff r h (f tm h) = some y) {ρ : Ren} {b : Frame} {a : Act} {k : List Item} {cs : List Frame} {w : World} {rest : List Nat} (hr : HRel P ρ h w) (OR : ORels P ρ tm a o.op.operands.toList) (F : Free ρ h y.hp)
    (hw : Region.wanted o (yielded ops a.tmps) = true) : o.dst = dst ∧ (∀ d, dst = some d → d < nt) ∧
      match y with
      | .val v h2 => ∃ ρ2 w2 u, Stp P ρ ρ2 h h2 w w2 ∧ VRel ρ2 v u ∧ Steps P (lone (b.atR a (.inRegion ops (i :: rest) :: k)) cs w) (lone (b.atR (a.put o.dst u) (.inRegion ops rest :: k)) cs w2)
      | .panic v h2 => ∃ ρ2 w2 v', Stp P ρ ρ2 h h2 w w2 ∧ VRel ρ2 v v' ∧ Steps P (lone (b.atR a (.inRegion ops (i :: rest) :: k)) cs w) (lone { b.atR a (.inRegion ops (i :: rest) :: k) with mode := .panicking [⟨v', false, false⟩] } cs w2)
      | _ => True := by
  rcases comp_eff hng hcp with hbad | ⟨p1, p2, p3⟩
  · subst hbad
    simp [runEff, eBad] at hre
  · refine ⟨p1, p2, ?_⟩
    have hsem : ∀ z h1, f tm h = some (z, h1) → (∀ d, z ≠ .defer d) → o.semAt b.roundOf a.eval = execOp a.eval o := by
      intro z h1 hz hor
      by_cases hd : ∃ c, o.op = .defer c
      · obtain ⟨c, hd⟩ := hd
        obtain ⟨g, dst', q1, q2⟩ := defer_eff (P := P) (nt := nt) hd
        rw [hcp] at q1; injection q1 with q1 q1'; subst q1
        obtain ⟨d, hz2⟩ := q2 _ _ _ _ hz
        exact absurd hz2 (hor d)
      · exact notDefer_semAt (fun c hc => hd ⟨c, hc⟩)
    obtain ⟨z, h1, hz, hle, hy⟩ := runEff_le hre
    have hle2 := runEff0_mono hm hy
    have F1 : Free ρ h h1 := F.mono hle2
    have came := p3 ρ tm a h w z h1 hr OR F1 hz
    cases z with
    | val v =>
      injection hy with hy
      subst hy
      obtain ⟨nx, u, w2, ρ2, hnx, hv, hrun, st⟩ := came
      have hs := hsem _ _ hz (fun d q => by cases q)
      rw [← hs] at hrun
      rcases hnx with rfl | ⟨rfl, rfl⟩
      · exact ⟨ρ2, w2, u, st, hv, .one (step_value ho hw hrun)⟩
      · exact ⟨ρ2, w2, _, st, hv, .one (step_skip ho hw hrun)⟩
    | call f' args =>
      obtain ⟨args', w1, ρ1, hrun, hargs, st1⟩ := came
      have hs := hsem _ _ hz (fun d q => by cases q)
      rw [← hs] at hrun
      have en := step_enter (cs := cs) (k := k) (rest := rest) ho hw hrun
      simp only [runEff0] at hy
      split at hy
      · rename_i v u' h2 hcall
        injection hy with hy
        subst hy
        have F2 : Free ρ1 h1 h2 := F.step st1.ext
        obtain ⟨ρ2, cs2, w2, fr, fn, v', st2, um2, ct, steps, hfn, hkd, hdf, hP, _, hres⟩ := hc _ _ _ _ _ _ _ hcall ρ1 args' .normal (b.atR a (.inRegion ops (i :: rest) :: k) :: cs) w1 hargs st1.rel F2 (.plain _)
        have := ct.normal; subst this
        obtain ⟨m1, m2, m3⟩ := hres
        have lv : fr.leaving P w2 (.returned v') := ⟨m1, hdf, hkd, fn, by rw [hfn]; exact hP, m2⟩
        have back := step_leave_returned (cs := cs) (c := b.atR a (.inRegion ops (i :: rest) :: k)) lv
        rw [put_at ho] at back
        exact ⟨ρ2, w2, v', st1.trans F1 st2, m3, .head en (steps.trans (.one back))⟩
      · rename_i v u' h2 hcall
        injection hy with hy
        subst hy
        have F2 : Free ρ1 h1 h2 := F.step st1.ext
        obtain ⟨ρ2, cs2, w2, fr, fn, v', st2, um2, ct, steps, hfn, hkd, hdf, hP, _, hres⟩ := hc _ _ _ _ _ _ _ hcall ρ1 args' .normal (b.atR a (.inRegion ops (i :: rest) :: k) :: cs) w1 hargs st1.rel F2 (.plain _)
        have := ct.normal; subst this
        obtain ⟨m1, m2⟩ := hres
        have lv : fr.leaving P w2 (.panicked [⟨v', false, false⟩]) := ⟨m1, hdf, fn, by rw [hfn]; exact hP⟩
        have back := step_leave_panicked (cs := cs) (c := b.atR a (.inRegion ops (i :: rest) :: k)) lv
        rw [Frame.raise_atR] at back
        exact ⟨ρ2, w2, v', st1.trans F1 st2, m2, .head en (steps.trans (.one back))⟩
      · cases hy
    | round l args =>
      obtain ⟨e1, lc, args', hl, hrun, hargs⟩ := came
      subst e1
      have hs := hsem _ _ hz (fun d q => by cases q)
      rw [← hs] at hrun
      simp only [runEff0] at hy
      split at hy
      · rename_i v h2 hround
        injection hy with hy
        subst hy
        obtain ⟨f2, tmps, asg, bd, hyld, hgo⟩ := hrd _ _ _ _ _ hround ρ lc args' w hl hargs hr F
        have en := step_round (cs := cs) (k := k) (rest := rest) ho hw (hrun.trans hyld)
        obtain ⟨ρ2, w2, v', st2, m1, m2⟩ := hgo (b.atR a (.inRegion ops (i :: rest) :: k)) cs rfl
        rw [put_at ho] at m2
        exact ⟨ρ2, w2, v', st2, m1, .head en m2⟩
      · rename_i v h2 hround
        injection hy with hy
        subst hy
        obtain ⟨f2, tmps, asg, bd, hyld, hgo⟩ := hrd _ _ _ _ _ hround ρ lc args' w hl hargs hr F
        have en := step_round (cs := cs) (k := k) (rest := rest) ho hw (hrun.trans hyld)
        obtain ⟨ρ2, w2, v', S, m1, m2⟩ := hgo (b.atR a (.inRegion ops (i :: rest) :: k)) cs rfl
        exact ⟨ρ2, w2, v', S, m1, .head en m2⟩
      · cases hy
    | defer d => injection hy with hy; subst hy; trivial
    | recover => injection hy with hy; subst hy; trivial
    | panic v =>
      injection hy with hy; subst hy
      obtain ⟨e1, v', hrun, hv⟩ := came
      subst e1
      have hs := hsem _ _ hz (fun d q => by cases q)
      rw [← hs] at hrun
      exact ⟨ρ, w, v', Stp.refl hr, hv, .one (step_panic ho hw hrun)⟩

/-- One operation of the run in the written order. -/
inductive DStep (r : Rec) (g : GOp) (i : Nat) (rs : List RNote) (es : List ENote) : PT AV × H → PT AV × H → Prop
  | skip {tm h} : wantedA tm g.guard = some false → DStep r g i rs es (tm, h) (putD tm g.dst (.tuple []), h)
  | pure {tm h f d v} : wantedA tm g.guard = some true → g.op = .pure f d → f tm = some v → DStep r g i rs es (tm, h) (tm.set d v, h)
  | read {tm h f d v} : wantedA tm g.guard = some true → g.op = .read f d → f tm h = some v → findR i rs = some ⟨i, f, tm, v⟩ → DStep r g i rs es (tm, h) (tm.set d v, h)
  | new {tm h f d v o} : wantedA tm g.guard = some true → g.op = .new f d → f tm h.next = some (v, o) → DStep r g i rs es (tm, h) (tm.set d v, h.new o)
  | eff {tm h f dst v h'} : wantedA tm g.guard = some true → g.op = .eff f dst → runEff r h (f tm h) = some (.val v h') → findE' i es = some ⟨i, h, h'⟩ → DStep r g i rs es (tm, h) (putD tm dst v, h')

/-- The run in the written order, from operation i on: the states T, up to N. -/
structure Trace (r : Rec) (gs : List GOp) (i : Nat) (d : DOut) (T : Nat → PT AV × H) (N : Nat) : Prop where
  le : i ≤ N
  steps : ∀ k, i ≤ k → k < N → ∃ g, gs[k - i]? = some g ∧ DStep r g k d.rs d.es (T k) (T (k + 1))
  fin : (d.ex = .normal ∧ N = i + gs.length ∧ T N = (d.tm, d.h)) ∨
    (∃ v g f dst, d.ex = .panic v ∧ N = d.i ∧ gs[N - i]? = some g ∧ wantedA (T N).1 g.guard = some true ∧ g.op = .eff f dst ∧ runEff r (T N).2 (f (T N).1 (T N).2) = some (.panic v d.h) ∧ findE' N d.es = some ⟨N, (T N).2, d.h⟩)

theorem evOpsD_keep {r : Rec} : ∀ (gs : List GOp) {i : Nat} {rs : List RNote} {es : List ENote} {tm : PT AV} {h : H} {d : DOut}, evOpsD r gs i rs es tm h = some d → ∀ k, k < i → findR k d.rs = findR k rs ∧ findE' k d.es = findE' k es
  | [], i, rs, es, tm, h, d, e, k, hk => by simp [evOpsD] at e; subst e; exact ⟨rfl, rfl⟩
  | g :: gs, i, rs, es, tm, h, d, e, k, hk => by
    have hR : ∀ f tm v, findR k (⟨i, f, tm, v⟩ :: rs) = findR k rs := by
      intro f tm v; rw [findR]; simp only; rw [nbeq_f (by omega)]
    have hE : ∀ h h', findE' k (⟨i, h, h'⟩ :: es) = findE' k es := by
      intro h h'; rw [findE']; simp only; rw [nbeq_f (by omega)]
    unfold evOpsD at e
    split at e
    · cases e
    · exact evOpsD_keep gs e k (by omega)
    · split at e
      · split at e
        · exact evOpsD_keep gs e k (by omega)
        · cases e
      · split at e
        · obtain ⟨q1, q2⟩ := evOpsD_keep gs e k (by omega)
          exact ⟨q1.trans (hR _ _ _), q2⟩
        · cases e
      · split at e
        · exact evOpsD_keep gs e k (by omega)
        · cases e
      · split at e
        · obtain ⟨q1, q2⟩ := evOpsD_keep gs e k (by omega)
          exact ⟨q1, q2.trans (hE _ _)⟩
        · injection e with e; subst e; exact ⟨rfl, hE _ _⟩
        · cases e

theorem Trace.cons {r : Rec} {g : GOp} {gs : List GOp} {i : Nat} {d : DOut} {T : Nat → PT AV × H} {N : Nat} {x : PT AV × H} (t : Trace r gs (i + 1) d T N) (h : DStep r g i d.rs d.es x (T (i + 1))) :
    Trace r (g :: gs) i d (fun n => if n = i then x else T n) N := by
  have hi := t.le
  have hget : ∀ k, i + 1 ≤ k → (g :: gs)[k - i]? = gs[k - (i + 1)]? := fun k hk => by
    rw [show k - i = (k - (i + 1)) + 1 from by omega, List.getElem?_cons_succ]
  refine ⟨by omega, fun k h1 h2 => ?_, ?_⟩
  · by_cases hk : k = i
    · subst hk
      refine ⟨g, by simp, ?_⟩
      simp only [if_true]
      rw [if_neg (by omega)]
      exact h
    · obtain ⟨g', q1, q2⟩ := t.steps k (by omega) h2
      refine ⟨g', by rw [hget k (by omega)]; exact q1, ?_⟩
      rw [if_neg hk, if_neg (by omega)]
      exact q2
  · rw [if_neg (show ¬ N = i from by omega)]
    rcases t.fin with ⟨q1, q2, q3⟩ | ⟨v, g', f, dst, q1, q2, q3, q4⟩
    · exact .inl ⟨q1, by simp; omega, q3⟩
    · exact .inr ⟨v, g', f, dst, q1, q2, by rw [hget N hi]; exact q3, q4⟩

theorem trace_of {r : Rec} : ∀ (gs : List GOp) {i : Nat} {rs : List RNote} {es : List ENote} {tm : PT AV} {h : H} {d : DOut}, evOpsD r gs i rs es tm h = some d → ∃ T N, Trace r gs i d T N ∧ T i = (tm, h)
  | [], i, rs, es, tm, h, d, e => by
    simp [evOpsD] at e; subst e
    exact ⟨fun _ => (tm, h), i, ⟨Nat.le_refl _, fun k h1 h2 => by omega, .inl ⟨rfl, rfl, rfl⟩⟩, rfl⟩
  | g :: gs, i, rs, es, tm, h, d, e => by
    have go : ∀ {rs' es' y}, evOpsD r gs (i + 1) rs' es' y.1 y.2 = some d → (∀ rs0 es0, (findR i rs0 = findR i rs' ∧ findE' i es0 = findE' i es') → DStep r g i rs0 es0 (tm, h) y) → ∃ T N, Trace r (g :: gs) i d T N ∧ T i = (tm, h) := by
      intro rs' es' y hy hd
      obtain ⟨T, N, t, ht⟩ := trace_of gs hy
      have hk := evOpsD_keep gs hy i (by omega)
      refine ⟨_, N, t.cons (x := (tm, h)) ?_, if_pos rfl⟩
      rw [ht]
      exact hd _ _ hk
    unfold evOpsD at e
    split at e
    · cases e
    · rename_i hw
      exact go (y := (putD tm g.dst (.tuple []), h)) e (fun _ _ _ => .skip hw)
    · rename_i hw
      split at e
      · rename_i f dd hop
        split at e
        · rename_i v hv
          exact go (y := (tm.set dd v, h)) e (fun _ _ _ => .pure hw hop hv)
        · cases e
      · rename_i f dd hop
        split at e
        · rename_i v hv
          refine go (y := (tm.set dd v, h)) e (fun rs0 es0 hk => .read hw hop hv ?_)
          rw [hk.1, findR]; simp only; rw [nbeq_t rfl]
        · cases e
      · rename_i f dd hop
        split at e
        · rename_i v o hv
          exact go (y := (tm.set dd v, h.new o)) e (fun _ _ _ => .new hw hop hv)
        · cases e
      · rename_i f dst hop
        split at e
        · rename_i v h' hv
          refine go (y := (putD tm dst v, h')) e (fun rs0 es0 hk => .eff hw hop hv ?_)
          rw [hk.2, findE']; simp only; rw [nbeq_t rfl]
        · rename_i v h' hv
          injection e with e; subst e
          refine ⟨fun _ => (tm, h), i, ⟨Nat.le_refl _, fun k h1 h2 => by omega, .inr ⟨v, g, f, dst, rfl, rfl, by simp, hw, hop, hv, ?_⟩⟩, rfl⟩
          rw [findE']; simp only; rw [nbeq_t rfl]
        · cases e

theorem looseOk_t {rs : List RNote} {es : List ENote} : ∀ {l : List (Nat × Nat)}, looseOk rs es l = true → ∀ i j, (i, j) ∈ l → ∀ n e, findR i rs = some n → findE' j es = some e → n.f n.tm e.before = some n.v ∧ n.f n.tm e.after = some n.v
  | [], _, i, j, h, _, _, _, _ => by simp at h
  | (i0, j0) :: l, h, i, j, hm, n, e, h1, h2 => by
    have sr : ∀ {x : H}, sameRead n x = true → n.f n.tm x = some n.v := by
      intro x hx
      unfold sameRead at hx
      split at hx
      · rename_i v hv; rw [hv, avBeq_eq hx]
      · cases hx
    unfold looseOk at h
    rcases List.mem_cons.1 hm with hm | hm
    · injection hm with e1 e2; subst e1; subst e2
      rw [h1, h2] at h
      simp only at h
      split at h
      · rename_i g1 g2; exact ⟨sr g1, sr g2⟩
      · cases h
    · split at h
      · split at h
        · exact looseOk_t h i j hm n e h1 h2
        · cases h
      · exact looseOk_t h i j hm n e h1 h2
end
end Go.Ab

namespace Go.Ab
section
variable {P : Program} {r : Rec} {nt : Nat} {ops : Array Oper} {M : Nat → Nat} {loose : List (Nat × Nat)} {d : DOut} {T : Nat → PT AV × H} {N : Nat}

/-- Memory, as far as g tells of it. -/
structure HRelG (P : Program) (ρ : Ren) (g : Nat → AO → Prop) (w : World) : Prop where
  obj : ∀ n o c, g n o → o ≠ .dead → ρ n = some c → ∃ ob, w.heap[c]? = some ob ∧ ORel ρ o ob
  inj : ∀ n m c o o', g n o → o ≠ .dead → g m o' → o' ≠ .dead → ρ n = some c → ρ m = some c → n = m
  glob : ∀ x, x < P.globals.size → ρ x = some x
  bound : ∀ n c, ρ n = some c → c < w.heap.size
  room : ∀ n e m ro z t c cs e' fz, g n (.row e m false ro z t) → ρ n = some c → w.heap[c]? = some (.cells cs e' fz) → ρ.k n * P.cellsOf e ≤ cs.size
theorem HRelG.sub {ρ : Ren} {g g' : Nat → AO → Prop} {w : World} (h : HRelG P ρ g w) (s : ∀ n o, g' n o → g n o) : HRelG P ρ g' w :=
  ⟨fun n o c a b e => h.obj n o c (s _ _ a) b e, fun n m c o o' a b e f x y => h.inj n m c o o' (s _ _ a) b (s _ _ e) f x y, h.glob, h.bound, fun n e m ro z t c cs e' fz a b x => h.room n e m ro z t c cs e' fz (s _ _ a) b x⟩
theorem HRelG.heap {ρ : Ren} {h : H} {w : World} (x : HRelG P ρ (fun n o => h.get n = some o) w) : HRel P ρ h w :=
  ⟨fun n o c a b e => x.obj n o c a b e, fun n m c ⟨o, e, f⟩ ⟨o', e', f'⟩ a b => x.inj n m c o o' e f e' f' a b, x.glob, x.bound, fun n e m ro z t c cs e' fz a b y => x.room n e m ro z t c cs e' fz a b y⟩
theorem HRelG.of {ρ : Ren} {h : H} {w : World} (x : HRel P ρ h w) : HRelG P ρ (fun n o => h.get n = some o) w :=
  ⟨fun n o c a b e => x.obj n o c a b e, fun n m c o o' e f e' f' a b => x.inj n m c ⟨o, e, f⟩ ⟨o', e', f'⟩ a b, x.glob, x.bound, fun n e m ro z t c cs e' fz a b y => x.room n e m ro z t c cs e' fz a b y⟩

structure DCtx (P : Program) (r : Rec) (nt : Nat) (ops : Array Oper) (M : Nat → Nat) (loose : List (Nat × Nat)) (d : DOut) (T : Nat → PT AV × H) (N : Nat) : Prop where
  st : Stat P nt ops M loose ops.size
  tr : Trace r (compOps P nt ops ops.toList) 0 d T N
  lo : looseOk d.rs d.es loose = true


theorem compOps_get : ∀ (l : List Oper) (k : Nat) (g : GOp), (compOps P nt ops l)[k]? = some g → g = (⟨none, none, .eff eBad none⟩ : GOp) ∨ ∃ o, l[k]? = some o ∧ okDst nt o.dst = true ∧ g = (⟨guardOf ops o, o.dst, compOp P nt o⟩ : GOp)
  | [], k, g, h => by simp [compOps] at h
  | o :: l, k, g, h => by
    unfold compOps at h
    split at h
    · rename_i hok
      cases k with
      | zero => simp at h; subst h; exact .inr ⟨o, rfl, hok, rfl⟩
      | succ k => simp at h; simpa using compOps_get l k g h
    · cases k with
      | zero => simp at h; subst h; exact .inl rfl
      | succ k => simp at h
theorem compOps_len : ∀ (l : List Oper), (∀ g, g ∈ compOps P nt ops l → g ≠ (⟨none, none, .eff eBad none⟩ : GOp)) → (compOps P nt ops l).length = l.length
  | [], _ => rfl
  | o :: l, h => by
    unfold compOps at h ⊢
    split
    · rename_i hok
      rw [hok] at h
      simp only [List.length_cons]
      rw [compOps_len l fun g hg => h g (by simp [hg])]
    · rename_i hok
      rw [hok] at h
      exact absurd rfl (h (⟨none, none, .eff eBad none⟩ : GOp) (by simp))
theorem DStep.not_bad {k : Nat} {rs : List RNote} {es : List ENote} {x y : PT AV × H} (h : DStep r (⟨none, none, .eff eBad none⟩ : GOp) k rs es x y) : False := by
  cases h with
  | skip h => simp [wantedA] at h
  | pure _ h _ => cases h
  | read _ h _ _ => cases h
  | new _ h _ => cases h
  | eff _ h h2 _ => injection h with h; subst h; simp [eBad, runEff] at h2

theorem DCtx.step (C : DCtx P r nt ops M loose d T N) {k : Nat} (hk : k < N) : ∃ o, ops[k]? = some o ∧ okDst nt o.dst = true ∧ DStep r (⟨guardOf ops o, o.dst, compOp P nt o⟩ : GOp) k d.rs d.es (T k) (T (k + 1)) := by
  obtain ⟨g, h1, h2⟩ := C.tr.steps k (Nat.zero_le _) hk
  rcases compOps_get _ _ _ h1 with rfl | ⟨o, e1, e2, rfl⟩
  · exact h2.not_bad.elim
  · exact ⟨o, by simpa using e1, e2, h2⟩

def NewI (P : Program) (nt : Nat) (ops : Array Oper) (T : Nat → PT AV × H) (k : Nat) (ao : AO) : Prop :=
  ∃ o f dd v, ops[k]? = some o ∧ compOp P nt o = .new f dd ∧ wantedA (T k).1 (guardOf ops o) = some true ∧ f (T k).1 (T k).2.next = some (v, ao) ∧ T (k + 1) = ((T k).1.set dd v, (T k).2.new ao)
def EffI (P : Program) (r : Rec) (nt : Nat) (ops : Array Oper) (d : DOut) (T : Nat → PT AV × H) (k : Nat) : Prop :=
  ∃ o f dst v, ops[k]? = some o ∧ compOp P nt o = .eff f dst ∧ wantedA (T k).1 (guardOf ops o) = some true ∧ runEff r (T k).2 (f (T k).1 (T k).2) = some (.val v (T (k + 1)).2) ∧ (T (k + 1)).1 = putD (T k).1 dst v ∧ findE' k d.es = some ⟨k, (T k).2, (T (k + 1)).2⟩

theorem NewI.uniq {k : Nat} {x y : AO} (a : NewI P nt ops T k x) (b : NewI P nt ops T k y) : x = y := by
  obtain ⟨o, f, dd, v, a1, a2, a3, a4, a5⟩ := a
  obtain ⟨o', f', dd', v', b1, b2, b3, b4, b5⟩ := b
  rw [a1] at b1; cases b1
  rw [a2] at b2; cases b2
  rw [a4] at b4; cases b4
  rfl
theorem NewI.heap {k : Nat} {x : AO} (a : NewI P nt ops T k x) : (T (k + 1)).2 = (T k).2.new x := by
  obtain ⟨o, f, dd, v, a1, a2, a3, a4, a5⟩ := a
  rw [a5]
theorem NewI.ex {k : Nat} {x : AO} (a : NewI P nt ops T k x) : ∀ e m ro z t, x ≠ .row e m false ro z t := by
  obtain ⟨o, f, dd, v, a1, a2, a3, a4, a5⟩ := a
  exact new_ex a2 a4

theorem DCtx.heap (C : DCtx P r nt ops M loose d T N) {k : Nat} (hk : k < N) : (T (k + 1)).2 = (T k).2 ∨ (∃ ao, NewI P nt ops T k ao) ∨ EffI P r nt ops d T k := by
  obtain ⟨o, ho, _, hs⟩ := C.step hk
  generalize hx : T k = x at hs
  generalize hy : T (k + 1) = y at hs
  cases hs with
  | skip _ => exact .inl rfl
  | pure _ _ _ => exact .inl rfl
  | read _ _ _ _ => exact .inl rfl
  | @new tm h f dd v ao h1 h2 h3 => exact .inr (.inl ⟨ao, o, f, dd, v, ho, h2, by rw [hx]; exact h1, by rw [hx]; exact h3, by rw [hx, hy]⟩)
  | @eff tm h f dst v h' h1 h2 h3 h4 => exact .inr (.inr ⟨o, f, dst, v, ho, h2, by rw [hx]; exact h1, by rw [hx, hy]; exact h3, by rw [hx, hy], by rw [hx, hy]; exact h4⟩)

theorem DCtx.tm (C : DCtx P r nt ops M loose d T N) (hng : NoNG P) {k : Nat} (hk : k < N) {o : Oper} (ho : ops[k]? = some o) {t : Tmp} (ht : o.dst ≠ some t) : (T (k + 1)).1.get t = (T k).1.get t := by
  obtain ⟨o', ho', _, hs⟩ := C.step hk
  rw [ho] at ho'; cases ho'
  generalize hx : T k = x at hs
  generalize hy : T (k + 1) = y at hs
  cases hs with
  | @skip tm h h1 =>
    simp only
    cases hd : o.dst with
    | none => rfl
    | some dd => exact PT.set_ne _ _ (fun e => ht (by rw [hd, e]))
  | @pure tm h f dd v h1 h2 h3 => exact PT.set_ne _ _ (fun e => ht (by rw [(comp_pure h2).1, e]))
  | @read tm h f dd v h1 h2 h3 h4 => exact PT.set_ne _ _ (fun e => ht (by rw [(comp_read h2).1, e]))
  | @new tm h f dd v ao h1 h2 h3 => exact PT.set_ne _ _ (fun e => ht (by rw [(comp_new h2).1, e]))
  | @eff tm h f dst v h' h1 h2 h3 h4 =>
    rcases comp_eff hng h2 with hb | ⟨p1, _, _⟩
    · subst hb; simp [eBad, runEff] at h3
    · simp only
      cases hd : dst with
      | none => rfl
      | some dd => exact PT.set_ne _ _ (fun e => ht (by rw [p1, hd, e]))

theorem DCtx.tm_quiet (C : DCtx P r nt ops M loose d T N) (hng : NoNG P) {t : Tmp} {k : Nat} : ∀ (n : Nat), k + n ≤ N → (∀ i o, k ≤ i → i < k + n → ops[i]? = some o → o.dst ≠ some t) → (T (k + n)).1.get t = (T k).1.get t
  | 0, _, _ => rfl
  | n + 1, hn, h => by
    obtain ⟨o, ho, _, _⟩ := C.step (k := k + n) (by omega)
    have := C.tm hng (k := k + n) (by omega) ho (h _ _ (by omega) (by omega) ho)
    rw [show k + (n + 1) = k + n + 1 from rfl, this]
    exact C.tm_quiet hng n (by omega) (fun i o a b c => h i o a (by omega) c)

theorem DCtx.next (C : DCtx P r nt ops M loose d T N) (hm : RecMono r) {k : Nat} (hk : k < N) : (T k).2.next ≤ (T (k + 1)).2.next := by
  rcases C.heap hk with h | ⟨ao, h⟩ | ⟨o, f, dst, v, _, _, _, h, _, _⟩
  · rw [h]; exact Nat.le_refl _
  · rw [h.heap, H.new_next]; omega
  · exact runEff_mono hm h
theorem DCtx.nexts (C : DCtx P r nt ops M loose d T N) (hm : RecMono r) {k : Nat} : ∀ (l : Nat), k ≤ l → l ≤ N → (T k).2.next ≤ (T l).2.next
  | 0, h, _ => by have : k = 0 := by omega
                  subst this; exact Nat.le_refl _
  | l + 1, h, hl => by
    by_cases hk : k = l + 1
    · rw [hk]; exact Nat.le_refl _
    · exact Nat.le_trans (C.nexts hm l (by omega) (by omega)) (C.next hm (by omega))

/-- Where no effect is, memory only grows. -/
theorem DCtx.quiet (C : DCtx P r nt ops M loose d T N) (hm : RecMono r) {k : Nat} : ∀ (n : Nat), k + n ≤ N → (∀ i, k ≤ i → i < k + n → ¬ EffI P r nt ops d T i) → ∀ m,
    (m < (T k).2.next → (T (k + n)).2.get m = (T k).2.get m) ∧ (∀ ao, (T (k + n)).2.get m = some ao → (T k).2.get m = some ao ∨ ∃ i, k ≤ i ∧ i < k + n ∧ NewI P nt ops T i ao ∧ m = (T i).2.next)
  | 0, _, _, m => ⟨fun _ => rfl, fun _ h => .inl h⟩
  | n + 1, hn, h, m => by
    obtain ⟨q1, q2⟩ := C.quiet hm n (by omega) (fun i a b => h i a (by omega)) m
    have hle := C.nexts hm (k := k) (k + n) (by omega) (by omega)
    rcases C.heap (k := k + n) (by omega) with e | ⟨ao, e⟩ | e
    · refine ⟨fun hlt => by rw [show k + (n + 1) = k + n + 1 from rfl, e]; exact q1 hlt, fun x hx => ?_⟩
      rw [show k + (n + 1) = k + n + 1 from rfl, e] at hx
      exact (q2 x hx).imp id fun ⟨i, a, b, c⟩ => ⟨i, a, by omega, c⟩
    · refine ⟨fun hlt => ?_, fun x hx => ?_⟩
      · rw [show k + (n + 1) = k + n + 1 from rfl, e.heap, H.new_ne _ _ (by omega)]; exact q1 hlt
      · rw [show k + (n + 1) = k + n + 1 from rfl, e.heap] at hx
        by_cases hm' : m = (T (k + n)).2.next
        · have := H.new_eq _ _ (hm' ▸ hx)
          subst this
          exact .inr ⟨k + n, by omega, by omega, e, hm'⟩
        · rw [H.new_ne _ _ hm'] at hx
          exact (q2 x hx).imp id fun ⟨i, a, b, c⟩ => ⟨i, a, by omega, c⟩
    · exact absurd e (h _ (by omega) (by omega))

/-- What memory is behind E, with what is made later and not yet touched. -/
def GR (P : Program) (nt : Nat) (ops : Array Oper) (T : Nat → PT AV × H) (N E m : Nat) (ao : AO) : Prop :=
  (T E).2.get m = some ao ∨ ∃ i, E ≤ i ∧ i < N ∧ NewI P nt ops T i ao ∧ m = (T i).2.next
theorem DCtx.gr (C : DCtx P r nt ops M loose d T N) (hm : RecMono r) {E k : Nat} (h1 : E ≤ k) (h2 : k ≤ N) (hq : ∀ i, E ≤ i → i < k → ¬ EffI P r nt ops d T i) {m : Nat} {ao : AO} (h : (T k).2.get m = some ao) : GR P nt ops T N E m ao := by
  obtain ⟨n, rfl⟩ : ∃ n, k = E + n := ⟨k - E, by omega⟩
  rcases (C.quiet hm n h2 (fun i a b => hq i a b) m).2 ao h with h | ⟨i, a, b, c⟩
  · exact .inl h
  · exact .inr ⟨i, a, by omega, c⟩
end
end Go.Ab

namespace Go.Ab
section
variable {P : Program} {r : Rec} {nt : Nat} {ops : Array Oper} {M : Nat → Nat} {loose : List (Nat × Nat)} {d : DOut} {T : Nat → PT AV × H} {N : Nat}

theorem mem_tmpsOf {t : Tmp} : ∀ {xs : List Operand}, Operand.tmp t ∈ xs → t ∈ tmpsOf xs
  | [], h => by simp at h
  | .tmp u :: xs, h => by
    rcases List.mem_cons.1 h with h | h
    · injection h with h; subst h; exact List.mem_cons_self ..
    · exact List.mem_cons_of_mem _ (mem_tmpsOf h)
  | .const _ :: xs, h => by
    rcases List.mem_cons.1 h with h | h
    · cases h
    · exact mem_tmpsOf (xs := xs) h
  | .global _ :: xs, h => by
    rcases List.mem_cons.1 h with h | h
    · cases h
    · exact mem_tmpsOf (xs := xs) h
  | .func _ :: xs, h => by
    rcases List.mem_cons.1 h with h | h
    · cases h
    · exact mem_tmpsOf (xs := xs) h

theorem EffI.kind {i : Nat} (h : EffI P r nt ops d T i) : ∃ o, ops[i]? = some o ∧ kindOf (compOp P nt o) = .eff ∧ i < ops.size := by
  obtain ⟨o, f, dst, v, a1, a2, _⟩ := h
  refine ⟨o, a1, by rw [a2]; rfl, ?_⟩
  rcases Nat.lt_or_ge i ops.size with h' | h'
  · exact h'
  · rw [Array.getElem?_eq_none h'] at a1; cases a1


theorem put_size {a : Act} {dst : Option Tmp} {u : Value} : (a.put dst u).tmps.size = a.tmps.size := by
  cases dst <;> simp [Act.put]


/-- Where a run stands that has done the operations of L, in whatever order. -/
structure Inv (P : Program) (r : Rec) (nt : Nat) (ops : Array Oper) (M : Nat → Nat) (d : DOut) (T : Nat → PT AV × H) (N : Nat) (top : Nat) (ρ0 : Ren) (w0 : World) (L : Nat → Prop) (E : Nat) (ρ : Ren) (a : Act) (w : World) : Prop where
  sub : ∀ i, L i → i < N
  cl : ∀ j, L j → ∀ i, (M j).testBit i = true → L i
  elt : E ≤ N
  efrom : E = 0 ∨ ∃ e, E = e + 1 ∧ EffI P r nt ops d T e
  effIn : ∀ i, i < E → EffI P r nt ops d T i → L i
  effOut : ∀ i, E ≤ i → EffI P r nt ops d T i → ¬ L i
  size : nt ≤ a.tmps.size
  tm : ∀ t k, k ≤ N → (∀ i o, L i → ops[i]? = some o → o.dst = some t → i < k) → (∀ i o, i < k → ops[i]? = some o → o.dst = some t → L i) → ∀ v, (T k).1.get t = some v → ∃ v', a.tmps[t]? = some v' ∧ VRel ρ v v'
  hr : HRelG P ρ (GR P nt ops T N E) w
  un : ∀ i, i < N → ¬ L i → ∀ m, (T i).2.next ≤ m → m < (T (i + 1)).2.next → ρ m = none
  top : ∀ m, (T N).2.next ≤ m → m < top → ρ m = none
  pre : ∀ i, i < E → ¬ L i → ∀ ao, NewI P nt ops T i ao → ∀ ao', (T E).2.get (T i).2.next = some ao' → ao' = ao
  e1 : ρ0.le ρ
  e2 : ∀ n c, ρ0 n = none → ρ n = some c → (T 0).2.next ≤ n ∧ n < (T N).2.next ∧ (w0.heap.size ≤ c ∨ ∃ m, Alive (T 0).2 m ∧ ρ0 m = some c)
  e3 : ∀ c, c < w0.heap.size → (∀ m, Alive (T 0).2 m → ρ0 m ≠ some c) → w.heap[c]? = w0.heap[c]?
  e4 : w0.heap.size ≤ w.heap.size
  e5 : ∀ m, m < (T 0).2.next → ρ0 m = none → (T E).2.get m = (T 0).2.get m
  e6 : ∀ m, m < (T 0).2.next → Alive (T E).2 m → Alive (T 0).2 m
  os : w.os = w0.os
  tape : w.tape = w0.tape
  output : w.output = w0.output

section
variable (C : DCtx P r nt ops M loose d T N) (hng : NoNG P) (hm : RecMono r) {top : Nat} {ρ0 ρ : Ren} {w0 w : World} {L : Nat → Prop} {E : Nat} {a : Act}
include C hng hm

/-- The operands of an operation whose turn it may be. -/
theorem Inv.names (I : Inv P r nt ops M d T N top ρ0 w0 L E ρ a w) {j : Nat} (hjN : j ≤ N) (hjs : j < ops.size) {o : Oper} (ho : ops[j]? = some o) (hj : ¬ L j) (hrd : ∀ i, (M j).testBit i = true → L i) {t : Tmp} (ht : t ∈ namesOf ops o) {v : AV} (hv : (T j).1.get t = some v) :
    ∃ v', a.tmps[t]? = some v' ∧ VRel ρ v v' := by
  refine I.tm t j hjN (fun i oi hi hoi hdi => ?_) (fun i oi hi hoi hdi => hrd i (C.st.rw i j oi o t hi hjs hoi ho hdi (.inl ht))) v hv
  rcases Nat.lt_trichotomy i j with h | h | h
  · exact h
  · subst h; exact absurd hi hj
  · have his : i < ops.size := by
      rcases Nat.lt_or_ge i ops.size with h' | h'
      · exact h'
      · rw [Array.getElem?_eq_none h'] at hoi; cases hoi
    exact absurd (I.cl i hi j (C.st.wr j i o oi t h his ho hoi ht hdi)) hj
theorem Inv.orels (I : Inv P r nt ops M d T N top ρ0 w0 L E ρ a w) {j : Nat} (hjN : j ≤ N) (hjs : j < ops.size) {o : Oper} (ho : ops[j]? = some o) (hj : ¬ L j) (hrd : ∀ i, (M j).testBit i = true → L i) : ORels P ρ (T j).1 a o.op.operands.toList := by
  intro x hx v hv
  refine eo_rel I.hr.glob x (fun t e u hu => ?_) hv
  subst e
  exact I.names C hng hm hjN hjs ho hj hrd (List.mem_append_left _ (mem_tmpsOf hx)) hu
theorem Inv.wanted (I : Inv P r nt ops M d T N top ρ0 w0 L E ρ a w) {j : Nat} (hjN : j ≤ N) (hjs : j < ops.size) {o : Oper} (ho : ops[j]? = some o) (hj : ¬ L j) (hrd : ∀ i, (M j).testBit i = true → L i) {x : Bool} (h : wantedA (T j).1 (guardOf ops o) = some x) :
    Region.wanted o (yielded ops a.tmps) = x := by
  have nm : ∀ dd b, guardOf ops o = some (some dd, b) → dd ∈ namesOf ops o := by
    intro dd b hg
    unfold namesOf
    rw [hg]
    exact List.mem_append_right _ (by simp)
  have rel : ∀ dd b, guardOf ops o = some (some dd, b) → ∀ v, (T j).1.get dd = some v → ∃ v', a.tmps[dd]? = some v' ∧ VRel ρ v v' := fun dd b hg v hv => I.names C hng hm hjN hjs ho hj hrd (nm dd b hg) hv
  unfold Region.wanted
  unfold guardOf at h rel
  split at h
  · rename_i hg; rw [hg]; simp [wantedA] at h; subst h; rfl
  · rename_i jj want hg
    rw [hg] at rel ⊢
    simp only at rel ⊢
    unfold yielded
    split at h
    · rename_i oj hjj
      rw [hjj] at rel ⊢
      simp only [Option.bind_some] at rel ⊢
      cases hd : oj.dst with
      | none => rw [hd] at h; simp [wantedA] at h; subst h; simp
      | some dd =>
        rw [hd] at h
        simp only [wantedA] at h
        simp only [Option.bind_some]
        split at h
        · rename_i bb hb
          injection h with h; subst h
          obtain ⟨v', e1, e2⟩ := rel dd want (by rw [hd]) _ hb
          cases e2
          rw [e1]
          simp
        · rename_i hb
          injection h with h; subst h
          obtain ⟨v', e1, e2⟩ := rel dd want (by rw [hd]) _ hb
          cases e2
          rw [e1]
          simp
        · cases h
    · rename_i hjj
      rw [hjj]
      simp [wantedA] at h
      subst h; simp

/-- Memory at a place between E and the next effect. -/
theorem Inv.at (I : Inv P r nt ops M d T N top ρ0 w0 L E ρ a w) {k : Nat} (h1 : E ≤ k) (h2 : k ≤ N) (hq : ∀ i, E ≤ i → i < k → ¬ EffI P r nt ops d T i) : HRel P ρ (T k).2 w :=
  (I.hr.sub fun n o h => C.gr hm h1 h2 hq h).heap

/-- The temporaries, one operation on. -/
theorem Inv.tm_put (I : Inv P r nt ops M d T N top ρ0 w0 L E ρ a w) {j : Nat} (hjN : j < N) (hjs : j < ops.size) {o : Oper} (ho : ops[j]? = some o) (hok : okDst nt o.dst = true) (hj : ¬ L j) {ρ' : Ren} (hρ : ρ.le ρ') {u : Value}
    (hu : ∀ t, o.dst = some t → ∀ v, (T (j + 1)).1.get t = some v → VRel ρ' v u) :
    ∀ t k, k ≤ N → (∀ i oi, (L i ∨ i = j) → ops[i]? = some oi → oi.dst = some t → i < k) → (∀ i oi, i < k → ops[i]? = some oi → oi.dst = some t → (L i ∨ i = j)) → ∀ v, (T k).1.get t = some v → ∃ v', (a.put o.dst u).tmps[t]? = some v' ∧ VRel ρ' v v' := by
  intro t k hk h1 h2 v hv
  by_cases ht : o.dst = some t
  · -- the place that was written
    have hjk := h1 j o (.inr rfl) ho ht
    obtain ⟨n, rfl⟩ : ∃ n, k = (j + 1) + n := ⟨k - (j + 1), by omega⟩
    rw [C.tm_quiet hng n hk ?_] at hv
    · refine ⟨u, ?_, hu t ht v hv⟩
      rw [ht]
      have := okDst_lt hok t ht
      have hs := I.size
      simp [Act.put, show t < a.tmps.size from Nat.lt_of_lt_of_le this hs]
    · intro i oi hi1 hi2 hoi hdi
      have his : i < ops.size := by
        rcases Nat.lt_or_ge i ops.size with h' | h'
        · exact h'
        · rw [Array.getElem?_eq_none h'] at hoi; cases hoi
      rcases h2 i oi hi2 hoi hdi with hL | rfl
      · exact hj (I.cl i hL j (C.st.rw j i o oi t (by omega) his ho hoi ht (.inr hdi)))
      · omega
  · have hne : (a.put o.dst u).tmps[t]? = a.tmps[t]? := by
      cases hd : o.dst with
      | none => rfl
      | some dd => simp [Act.put, Array.getElem?_setIfInBounds_ne (show dd ≠ t from fun e => ht (by rw [hd, e]))]
    rw [hne]
    obtain ⟨v', e1, e2⟩ := I.tm t k hk (fun i oi hi hoi hdi => h1 i oi (.inl hi) hoi hdi) (fun i oi hi hoi hdi => (h2 i oi hi hoi hdi).resolve_right fun e => by subst e; rw [ho] at hoi; cases hoi; exact ht hdi) v hv
    exact ⟨v', e1, e2.mono hρ⟩

/-- An operation that leaves memory alone. -/
theorem Inv.still (I : Inv P r nt ops M d T N top ρ0 w0 L E ρ a w) {j : Nat} (hjN : j < N) (hjs : j < ops.size) {o : Oper} (ho : ops[j]? = some o) (hok : okDst nt o.dst = true) (hj : ¬ L j) (hrd : ∀ i, (M j).testBit i = true → L i) {u : Value}
    (hu : ∀ t, o.dst = some t → ∀ v, (T (j + 1)).1.get t = some v → VRel ρ v u) (hne : ¬ EffI P r nt ops d T j) (hnn : ∀ ao, ¬ NewI P nt ops T j ao) :
    Inv P r nt ops M d T N top ρ0 w0 (fun i => L i ∨ i = j) E ρ (a.put o.dst u) w where
  sub i h := h.elim (I.sub i) fun e => e ▸ hjN
  cl i h x hx := by
    rcases h with h | rfl
    · exact .inl (I.cl i h x hx)
    · exact .inl (hrd x hx)
  elt := I.elt
  efrom := I.efrom
  effIn i h1 h2 := .inl (I.effIn i h1 h2)
  effOut i h1 h2 h3 := h3.elim (I.effOut i h1 h2) fun e => hne (e ▸ h2)
  size := by rw [put_size]; exact I.size
  tm := I.tm_put C hng hm hjN hjs ho hok hj (Ren.le.refl ρ) hu
  hr := I.hr
  un i h1 h2 := I.un i h1 (fun h => h2 (.inl h))
  top := I.top
  pre i h1 h2 ao h3 := I.pre i h1 (fun h => h2 (.inl h)) ao h3
  e1 := I.e1
  e2 := I.e2
  e3 := I.e3
  e4 := I.e4
  e5 := I.e5
  e6 := I.e6
  os := I.os
  tape := I.tape
  output := I.output

/-- What a read sees. -/
theorem Inv.read (I : Inv P r nt ops M d T N top ρ0 w0 L E ρ a w) {j : Nat} (hjN : j < N) (hjs : j < ops.size) {o : Oper} (ho : ops[j]? = some o) (hj : ¬ L j) (hrd : ∀ i, (M j).testBit i = true → L i) {f : PT AV → H → Option AV} {dd : Tmp} {v : AV}
    (hcp : compOp P nt o = .read f dd) (hf : f (T j).1 (T j).2 = some v) (hnote : findR j d.rs = some ⟨j, f, (T j).1, v⟩) : ∃ h, HRel P ρ h w ∧ f (T j).1 h = some v := by
  have hkj : kindOf (compOp P nt o) = .read := by rw [hcp]; rfl
  by_cases hE : E ≤ j
  · -- the first effect from E on, ahead of j
    by_cases hq : ∃ q, E ≤ q ∧ q < j ∧ EffI P r nt ops d T q
    · obtain ⟨q, hq1, hq2, hq3, hmin⟩ : ∃ q, E ≤ q ∧ q < j ∧ EffI P r nt ops d T q ∧ ∀ i, E ≤ i → i < q → ¬ EffI P r nt ops d T i := by
        obtain ⟨q, hq⟩ := hq
        induction q using Nat.strongRecOn with
        | _ q ih =>
          by_cases hx : ∃ i, E ≤ i ∧ i < q ∧ EffI P r nt ops d T i
          · obtain ⟨i, i1, i2, i3⟩ := hx
            exact ih i i2 ⟨i1, by omega, i3⟩
          · exact ⟨q, hq.1, hq.2.1, hq.2.2, fun i i1 i2 i3 => hx ⟨i, i1, i2, i3⟩⟩
      obtain ⟨oq, hoq, hkq, hqs⟩ := hq3.kind
      refine ⟨(T q).2, I.at C hng hm hq1 (by omega) hmin, ?_⟩
      rcases C.st.re q j oq o hq2 hjs hoq ho hkq hkj with hb | hl
      · exact absurd (hrd q hb) (I.effOut q hq1 hq3)
      · obtain ⟨_, _, _, _, _, _, _, _, _, hn⟩ := hq3
        exact (looseOk_t C.lo j q hl _ _ hnote hn).1
    · exact ⟨(T j).2, I.at C hng hm hE (by omega) (fun i a b c => hq ⟨i, a, b, c⟩), hf⟩
  · rcases I.efrom with h0 | ⟨e, he, hee⟩
    · omega
    · subst he
      obtain ⟨oe, hoe, hke, hes⟩ := hee.kind
      have hje : j < e := by
        rcases Nat.lt_trichotomy j e with h | h | h
        · exact h
        · subst h; rw [ho] at hoe; cases hoe; rw [hkj] at hke; cases hke
        · omega
      refine ⟨(T (e + 1)).2, I.at C hng hm (Nat.le_refl _) I.elt (fun i a b => by omega), ?_⟩
      rcases C.st.er j e o oe hje hes ho hoe hkj hke with hb | hl
      · exact absurd (I.cl e (I.effIn e (by omega) hee) j hb) hj
      · obtain ⟨_, _, _, _, _, _, _, _, _, hn⟩ := hee
        exact (looseOk_t C.lo j e hl _ _ hnote hn).2
end
end
end Go.Ab

namespace Go.Ab
section
variable {P : Program} {r : Rec} {nt : Nat} {ops : Array Oper} {M : Nat → Nat} {loose : List (Nat × Nat)} {d : DOut} {T : Nat → PT AV × H} {N : Nat}
section
variable (C : DCtx P r nt ops M loose d T N) (hng : NoNG P) (hm : RecMono r) {top : Nat} {ρ0 ρ : Ren} {w0 w : World} {L : Nat → Prop} {E : Nat} {a : Act}
include C hng hm

/-- New memory. -/
theorem Inv.new (I : Inv P r nt ops M d T N top ρ0 w0 L E ρ a w) {j : Nat} (hjN : j < N) (hjs : j < ops.size) {o : Oper} (ho : ops[j]? = some o) (hok : okDst nt o.dst = true) (hj : ¬ L j) (hrd : ∀ i, (M j).testBit i = true → L i) {u : Value} {ao : AO} {ob : Obj} {w' : World}
    (hn : NewI P nt ops T j ao) (ho2 : ORel (ρ.add (T j).2.next w.heap.size 0) ao ob) (hw : w' = { w with heap := w.heap.push ob })
    (hu : ∀ t, o.dst = some t → ∀ v, (T (j + 1)).1.get t = some v → VRel (ρ.add (T j).2.next w.heap.size 0) v u) :
    Inv P r nt ops M d T N top ρ0 w0 (fun i => L i ∨ i = j) E (ρ.add (T j).2.next w.heap.size 0) (a.put o.dst u) w' := by
  have hnx : (T (j + 1)).2.next = (T j).2.next + 1 := by rw [hn.heap, H.new_next]
  have hfree : ρ (T j).2.next = none := I.un j hjN hj _ (Nat.le_refl _) (by omega)
  have hmono := Ren.add_mono (c := w.heap.size) (k := 0) hfree
  have hB := I.hr.bound
  -- who is told of under the new name
  have huniq : ∀ x, GR P nt ops T N E (T j).2.next x → x = ao := by
    intro x hx
    rcases hx with hx | ⟨i, i1, i2, i3, i4⟩
    · have hlt := H.get_lt hx
      by_cases hE : E ≤ j
      · have := C.nexts hm j hE (by omega); omega
      · exact I.pre j (by omega) hj ao hn x hx
    · have hi : i = j := by
        rcases Nat.lt_trichotomy i j with h | h | h
        · have := C.nexts hm (k := i + 1) j (by omega) (by omega)
          rw [i3.heap, H.new_next] at this; omega
        · exact h
        · have := C.nexts hm (k := j + 1) i (by omega) (by omega)
          omega
      subst hi
      exact i3.uniq hn
  have hne : ∀ i, i < N → i ≠ j → ∀ m, (T i).2.next ≤ m → m < (T (i + 1)).2.next → m ≠ (T j).2.next := by
    intro i hi hij m h1 h2 hx
    subst hx
    rcases Nat.lt_trichotomy i j with h | h | h
    · have := C.nexts hm (k := i + 1) j (by omega) (by omega); omega
    · exact hij h
    · have := C.nexts hm (k := j + 1) i (by omega) (by omega); omega
  have hNle := C.nexts hm (k := j + 1) N (by omega) (Nat.le_refl _)
  subst hw
  refine ⟨?_, ?_, I.elt, I.efrom, fun i h1 h2 => .inl (I.effIn i h1 h2), ?_, by rw [put_size]; exact I.size, I.tm_put C hng hm hjN hjs ho hok hj hmono hu, ?_, ?_, ?_, fun i h1 h2 x h3 => I.pre i h1 (fun h => h2 (.inl h)) x h3, I.e1.trans hmono, ?_, ?_, ?_, I.e5, I.e6, I.os, I.tape, I.output⟩
  · exact fun i h => h.elim (I.sub i) fun e => e ▸ hjN
  · intro i h x hx
    rcases h with h | rfl
    · exact .inl (I.cl i h x hx)
    · exact .inl (hrd x hx)
  · intro i h1 h2 h3
    rcases h3 with h3 | rfl
    · exact I.effOut i h1 h2 h3
    · obtain ⟨o1, f1, dst1, v1, a1, a2, _⟩ := h2
      obtain ⟨o2, f2, dd2, v2, b1, b2, _⟩ := hn
      rw [a1] at b1; cases b1
      rw [a2] at b2; cases b2
  · refine ⟨?_, ?_, fun g hg => (hmono _ _ (I.hr.glob g hg)).1, ?_, ?_⟩
    · intro n x c hx hnd hc
      by_cases he : n = (T j).2.next
      · subst he
        rw [Ren.add_eq] at hc; cases hc
        exact ⟨ob, by simp, huniq x hx ▸ ho2⟩
      · rw [Ren.add_ne _ _ _ he] at hc
        obtain ⟨y, hy, hr⟩ := I.hr.obj n x c hx hnd hc
        have := hB n c hc
        exact ⟨y, by simp only; rw [Array.getElem?_push, if_neg (by omega)]; exact hy, hr.mono hmono⟩
    · intro n m c x x' g1 g2 g3 g4 c1 c2
      by_cases he : n = (T j).2.next
      · by_cases he' : m = (T j).2.next
        · rw [he, he']
        · subst he
          rw [Ren.add_eq] at c1; cases c1
          rw [Ren.add_ne _ _ _ he'] at c2
          have := hB _ _ c2; omega
      · by_cases he' : m = (T j).2.next
        · subst he'
          rw [Ren.add_eq] at c2; cases c2
          rw [Ren.add_ne _ _ _ he] at c1
          have := hB _ _ c1; omega
        · rw [Ren.add_ne _ _ _ he] at c1
          rw [Ren.add_ne _ _ _ he'] at c2
          exact I.hr.inj n m c x x' g1 g2 g3 g4 c1 c2
    · intro n c hc
      by_cases he : n = (T j).2.next
      · subst he; rw [Ren.add_eq] at hc; cases hc; simp
      · rw [Ren.add_ne _ _ _ he] at hc; have := hB n c hc; simp; omega
    · intro n e m ro z t c cs e' fz hx hc hg
      by_cases he : n = (T j).2.next
      · subst he
        exact absurd (huniq _ hx).symm (hn.ex e m ro z t)
      · rw [Ren.add_ne _ _ _ he] at hc
        rw [Ren.add_kne _ _ _ he]
        have := hB n c hc
        refine I.hr.room n e m ro z t c cs e' fz hx hc ?_
        simp only at hg
        rw [Array.getElem?_push, if_neg (by omega)] at hg
        exact hg
  · intro i h1 h2 m h3 h4
    have hij : i ≠ j := fun e => h2 (.inr e)
    rw [Ren.add_ne _ _ _ (hne i h1 hij m h3 h4)]
    exact I.un i h1 (fun h => h2 (.inl h)) m h3 h4
  · intro m h1 h2
    rw [Ren.add_ne _ _ _ (by omega)]
    exact I.top m h1 h2
  · intro n c h0 hc
    by_cases he : n = (T j).2.next
    · subst he
      rw [Ren.add_eq] at hc; cases hc
      have := C.nexts hm (k := 0) j (by omega) (by omega)
      exact ⟨this, by omega, .inl I.e4⟩
    · rw [Ren.add_ne _ _ _ he] at hc
      exact I.e2 n c h0 hc
  · intro c hc hx
    have := I.e4
    simp only
    rw [Array.getElem?_push, if_neg (by omega)]
    exact I.e3 c hc hx
  · have := I.e4
    simp; omega

/-- An effect. -/
theorem Inv.eff (I : Inv P r nt ops M d T N top ρ0 w0 L E ρ a w) (F0 : ∀ m, (T 0).2.next ≤ m → m < top → ρ0 m = none) (htop : (T N).2.next ≤ top) {j : Nat} (hjN : j < N) (hjs : j < ops.size) {o : Oper} (ho : ops[j]? = some o) (hok : okDst nt o.dst = true) (hj : ¬ L j) (hrd : ∀ i, (M j).testBit i = true → L i) {u : Value} {w' : World} {ρ' : Ren}
    (he : EffI P r nt ops d T j) (st : Stp P ρ ρ' (T j).2 (T (j + 1)).2 w w') (hEj : E ≤ j) (hquiet : ∀ i, E ≤ i → i < j → ¬ EffI P r nt ops d T i)
    (hu : ∀ t, o.dst = some t → ∀ v, (T (j + 1)).1.get t = some v → VRel ρ' v u) :
    Inv P r nt ops M d T N top ρ0 w0 (fun i => L i ∨ i = j) (j + 1) ρ' (a.put o.dst u) w' := by
  have hmono := st.ext.mono
  have hle1 := C.next hm hjN
  have hle0 := C.nexts hm (k := 0) j (by omega) (by omega)
  have hleE := C.nexts hm (k := E) j hEj (by omega)
  have hleN := C.nexts hm (k := j + 1) N (by omega) (Nat.le_refl _)
  have hle0E := C.nexts hm (k := 0) E (by omega) I.elt
  have hun : ∀ m, (T j).2.next ≤ m → m < (T (j + 1)).2.next → ρ m = none := I.un j hjN hj
  -- memory at j
  have atj : ∀ {m x}, (T j).2.get m = some x → GR P nt ops T N E m x := fun h => C.gr hm hEj (by omega) hquiet h
  obtain ⟨nq, hnq⟩ : ∃ n, j = E + n := ⟨j - E, by omega⟩
  have hqj : ∀ m, m < (T E).2.next → (T j).2.get m = (T E).2.get m := fun m hlt => by
    rw [hnq]; exact (C.quiet hm nq (by omega) (fun i a b => hquiet i a (by omega)) m).1 hlt
  -- a block that is named under ρ and told of later is no block of those that are there at j
  have later : ∀ {i x c}, j + 1 ≤ i → i < N → NewI P nt ops T i x → x ≠ .dead → ρ' (T i).2.next = some c → ρ (T i).2.next = some c ∧ GR P nt ops T N E (T i).2.next x ∧ (∀ m, Alive (T j).2 m → ρ m ≠ some c) := by
    intro i x c h1 h2 h3 h4 hc
    have hge := C.nexts hm (k := j + 1) i (by omega) (by omega)
    have hρ : ρ (T i).2.next = some c := by
      cases hx : ρ (T i).2.next with
      | none => have := (st.ext.fresh _ _ hx hc).2.1; omega
      | some c' => have := (hmono _ _ hx).1; rw [hc] at this; exact this.symm ▸ rfl
    have hg : GR P nt ops T N E (T i).2.next x := .inr ⟨i, by omega, h2, h3, rfl⟩
    refine ⟨hρ, hg, fun m ⟨y, hy, hyd⟩ hmc => ?_⟩
    have := I.hr.inj m _ c y x (atj hy) hyd hg h4 hmc hρ
    have := H.get_lt hy
    omega
  have frame : ∀ c, c < w0.heap.size → (∀ m, Alive (T 0).2 m → ρ0 m ≠ some c) → ∀ m, Alive (T j).2 m → ρ m ≠ some c := by
    intro c hc hx m hmal hmc
    have hml := hmal.lt
    cases h0 : ρ0 m with
    | some c' =>
      have := (I.e1 m c' h0).1
      rw [hmc] at this; cases this
      by_cases hlt : m < (T 0).2.next
      · refine hx m (I.e6 m hlt ?_) h0
        obtain ⟨y, hy, hyd⟩ := hmal
        exact ⟨y, by rw [← hqj m (by omega)]; exact hy, hyd⟩
      · have := F0 m (by omega) (by omega)
        rw [h0] at this; cases this
    | none =>
      rcases (I.e2 m c h0 hmc).2.2 with h | ⟨m', hm', hmc'⟩
      · omega
      · exact hx m' hm' hmc'
  refine ⟨?_, ?_, by omega, .inr ⟨j, rfl, he⟩, ?_, ?_, by rw [put_size]; exact I.size, I.tm_put C hng hm hjN hjs ho hok hj hmono hu, ?_, ?_, ?_, ?_, I.e1.trans hmono, ?_, ?_, ?_, ?_, ?_, st.ext.os.trans I.os, st.ext.tape.trans I.tape, st.ext.output.trans I.output⟩
  · exact fun i h => h.elim (I.sub i) fun e => e ▸ hjN
  · intro i h x hx
    rcases h with h | rfl
    · exact .inl (I.cl i h x hx)
    · exact .inl (hrd x hx)
  · intro i h1 h2
    by_cases hij : i = j
    · exact .inr hij
    · obtain ⟨oi, hoi, hki, his⟩ := h2.kind
      obtain ⟨oj, hoj, hkj, _⟩ := he.kind
      exact .inl (hrd i (C.st.ee i j oi oj (by omega) hjs hoi hoj hki hkj))
  · intro i h1 h2 h3
    rcases h3 with h3 | rfl
    · obtain ⟨oi, hoi, hki, his⟩ := h2.kind
      obtain ⟨oj, hoj, hkj, _⟩ := he.kind
      exact hj (I.cl i h3 j (C.st.ee j i oj oi (by omega) his hoj hoi hkj hki))
    · omega
  · refine ⟨?_, ?_, st.rel.glob, st.rel.bound, ?_⟩
    · intro n x c hx hnd hc
      rcases hx with hx | ⟨i, i1, i2, i3, rfl⟩
      · exact st.rel.obj n x c hx hnd hc
      · obtain ⟨q1, q2, q3⟩ := later i1 i2 i3 hnd hc
        obtain ⟨ob, p1, p2⟩ := I.hr.obj _ x c q2 hnd q1
        exact ⟨ob, by rw [st.ext.frame c (I.hr.bound _ _ q1) q3]; exact p1, p2.mono hmono⟩
    · -- no two names of one block
      have mixed : ∀ {n m c x x'}, (T (j + 1)).2.get n = some x → x ≠ .dead → (∃ i, j + 1 ≤ i ∧ i < N ∧ NewI P nt ops T i x' ∧ m = (T i).2.next) → x' ≠ .dead → ρ' n = some c → ρ' m = some c → n = m := by
        intro n m c x x' hx hnd ⟨i, i1, i2, i3, hmi⟩ hnd' c1 c2
        subst hmi
        obtain ⟨q1, q2, q3⟩ := later i1 i2 i3 hnd' c2
        cases hρn : ρ n with
        | some c' =>
          have := (hmono _ _ hρn).1
          rw [c1] at this; cases this
          by_cases hlt : n < (T j).2.next
          · exact absurd hρn (q3 n (st.ext.alive n hlt ⟨x, hx, hnd⟩))
          · have := hun n (by omega) (H.get_lt hx)
            rw [hρn] at this; cases this
        | none =>
          rcases (st.ext.fresh n c hρn c1).2.2 with h | ⟨m', hm', hmc⟩
          · have := I.hr.bound _ _ q1; omega
          · exact absurd hmc (q3 m' hm')
      intro n m c x x' hx hnd hx' hnd' c1 c2
      rcases hx with hx | hx
      · rcases hx' with hx' | hx'
        · exact st.rel.inj n m c ⟨x, hx, hnd⟩ ⟨x', hx', hnd'⟩ c1 c2
        · exact mixed hx hnd hx' hnd' c1 c2
      · rcases hx' with hx' | hx'
        · exact (mixed hx' hnd' hx hnd c2 c1).symm
        · obtain ⟨i, i1, i2, i3, rfl⟩ := hx
          obtain ⟨i', i1', i2', i3', rfl⟩ := hx'
          obtain ⟨q1, q2, _⟩ := later i1 i2 i3 hnd c1
          obtain ⟨q1', q2', _⟩ := later i1' i2' i3' hnd' c2
          exact I.hr.inj _ _ c x x' q2 hnd q2' hnd' q1 q1'
    · intro n e m ro z t c cs e' fz hx hc hg
      rcases hx with hx | ⟨i, i1, i2, i3, rfl⟩
      · exact st.rel.room n e m ro z t c cs e' fz hx hc hg
      · exact absurd rfl (i3.ex e m ro z t)
  · intro i h1 h2 m h3 h4
    have hij : i ≠ j := fun e => h2 (.inr e)
    have hn := I.un i h1 (fun h => h2 (.inl h)) m h3 h4
    cases hx : ρ' m with
    | none => rfl
    | some c =>
      obtain ⟨f1, f2, _⟩ := st.ext.fresh m c hn hx
      rcases Nat.lt_trichotomy i j with h | h | h
      · have := C.nexts hm (k := i + 1) j (by omega) (by omega); omega
      · exact absurd h hij
      · have := C.nexts hm (k := j + 1) i (by omega) (by omega); omega
  · intro m h1 h2
    cases hx : ρ' m with
    | none => rfl
    | some c => have := (st.ext.fresh m c (I.top m h1 h2) hx).2.1; omega
  · intro i h1 h2 x h3 x' hx'
    have hij : i ≠ j := fun e => h2 (.inr e)
    have hi : i < j := by omega
    have hnx : (T (i + 1)).2.next = (T i).2.next + 1 := by rw [h3.heap, H.new_next]
    have hle := C.nexts hm (k := i + 1) j (by omega) (by omega)
    have hn : ρ (T i).2.next = none := I.un i (by omega) (fun h => h2 (.inl h)) _ (Nat.le_refl _) (by omega)
    rw [st.ext.aframe _ (by omega) hn] at hx'
    by_cases hiE : i < E
    · have hltE : (T i).2.next < (T E).2.next := by
        have := C.nexts hm (k := i + 1) E (by omega) I.elt; omega
      rw [hqj _ hltE] at hx'
      exact I.pre i hiE (fun h => h2 (.inl h)) x h3 x' hx'
    · obtain ⟨n, hn'⟩ : ∃ n, j = (i + 1) + n := ⟨j - (i + 1), by omega⟩
      rw [hn', (C.quiet hm n (by omega) (fun k a b => hquiet k (by omega) (by omega)) _).1 (by omega), h3.heap] at hx'
      exact H.new_eq _ _ hx'
  · intro n c h0 hc
    cases hx : ρ n with
    | some c' =>
      have := (hmono _ _ hx).1
      rw [hc] at this; cases this
      exact I.e2 n c h0 hx
    | none =>
      obtain ⟨f1, f2, f3⟩ := st.ext.fresh n c hx hc
      refine ⟨by omega, by omega, ?_⟩
      rcases f3 with f3 | ⟨m, hmal, hmc⟩
      · exact .inl (Nat.le_trans I.e4 f3)
      · by_cases hc0 : c < w0.heap.size
        · by_cases hx0 : ∃ m, Alive (T 0).2 m ∧ ρ0 m = some c
          · exact .inr hx0
          · exact absurd hmc (frame c hc0 (fun m' h1 h2 => hx0 ⟨m', h1, h2⟩) m hmal)
        · exact .inl (by omega)
  · intro c hc hx
    have := I.e4
    rw [st.ext.frame c (by omega) (frame c hc hx)]
    exact I.e3 c hc hx
  · exact Nat.le_trans I.e4 st.ext.grow
  · intro m hlt h0
    have hn : ρ m = none := by
      cases hx : ρ m with
      | none => rfl
      | some c => have := (I.e2 m c h0 hx).1; omega
    rw [st.ext.aframe m (by omega) hn, hqj m (by omega)]
    exact I.e5 m hlt h0
  · intro m hlt hal
    refine I.e6 m hlt ?_
    obtain ⟨y, hy, hyd⟩ := st.ext.alive m (by omega) hal
    exact ⟨y, by rw [← hqj m (by omega)]; exact hy, hyd⟩
end
end
end Go.Ab

namespace Go.Ab
section
variable {P : Program} {r : Rec} {nt : Nat} {ops : Array Oper} {M : Nat → Nat} {loose : List (Nat × Nat)} {d : DOut} {T : Nat → PT AV × H} {N : Nat}
theorem putD_rel {tm : PT AV} {dst : Option Tmp} {v : AV} {ρ : Ren} {u : Value} (h : VRel ρ v u) : ∀ t, dst = some t → ∀ x, (putD tm dst v).get t = some x → VRel ρ x u := by
  intro t ht x hx
  subst ht
  rw [PT.set_eq _ _ hx]
  exact h

section
variable (C : DCtx P r nt ops M loose d T N) (hng : NoNG P) (hm : RecMono r) (hc : CallOk P r.call) (hrd : RoundOk P r.round) {top : Nat} {ρ0 ρ : Ren} {w0 w : World} {L : Nat → Prop} {E : Nat} {a : Act}
include C hng hm

/-- Whose turn it may be comes behind the effects that are done, and has none between. -/
theorem Inv.eff_place (I : Inv P r nt ops M d T N top ρ0 w0 L E ρ a w) {j : Nat} (hjs : j < ops.size) {o : Oper} (ho : ops[j]? = some o) (hj : ¬ L j) (hrd : ∀ i, (M j).testBit i = true → L i) (hk : kindOf (compOp P nt o) = .eff) (hin : j < N → EffI P r nt ops d T j) (hjN : j ≤ N) :
    E ≤ j ∧ ∀ i, E ≤ i → i < j → ¬ EffI P r nt ops d T i := by
  refine ⟨?_, fun i h1 h2 h3 => ?_⟩
  · rcases Nat.lt_or_ge j E with h | h
    · have := I.elt
      exact absurd (I.effIn j h (hin (by omega))) hj
    · exact h
  · obtain ⟨oi, hoi, hki, his⟩ := h3.kind
    exact I.effOut i h1 h3 (hrd i (C.st.ee i j oi o h2 hjs hoi ho hki hk))

include hc hrd

theorem draw_step (I : Inv P r nt ops M d T N top ρ0 w0 L E ρ a w) (F0 : ∀ m, (T 0).2.next ≤ m → m < top → ρ0 m = none) (htop : (T N).2.next ≤ top) {j : Nat} (hjN : j < N) (hjs : j < ops.size) (hj : ¬ L j) (hrd' : ∀ i, (M j).testBit i = true → L i)
    {b : Frame} {k : List Item} {cs : List Frame} (rest : List Nat) :
    ∃ ρ' a' w' E', Inv P r nt ops M d T N top ρ0 w0 (fun i => L i ∨ i = j) E' ρ' a' w' ∧ ρ.le ρ' ∧ a'.defers = a.defers ∧ Steps P (lone (b.atR a (.inRegion ops (j :: rest) :: k)) cs w) (lone (b.atR a' (.inRegion ops rest :: k)) cs w') := by
  obtain ⟨o, ho, hok, hs⟩ := C.step hjN
  have OR := I.orels C hng hm (by omega) hjs ho hj hrd'
  generalize hx : T j = x at hs
  generalize hy : T (j + 1) = y at hs
  cases hs with
  | @skip tm h h1 =>
    have hw := I.wanted C hng hm (by omega) hjs ho hj hrd' (x := false) (by rw [hx]; exact h1)
    refine ⟨ρ, a.put o.dst undef, w, E, I.still C hng hm hjN hjs ho hok hj hrd' ?_ ?_ ?_, Ren.le.refl ρ, put_defers, ?_⟩
    · rw [hy]; exact putD_rel (.tuple _ _ .nil)
    · rintro ⟨o', f, dst, v, q1, q2, q3, _⟩
      rw [ho] at q1; cases q1
      rw [hx, h1] at q3; cases q3
    · rintro ao ⟨o', f, dst, v, q1, q2, q3, _⟩
      rw [ho] at q1; cases q1
      rw [hx, h1] at q3; cases q3
    · have st := stepR_op_skip (P := P) (b := b) (a := a) (k := k) (cs := cs) (w := w) (ops := ops) (i := j) (rest := rest) (by simp [ho, hw])
      rw [ho] at st
      exact .one st
  | @pure tm h f dd v h1 h2 h3 =>
    replace h2 : compOp P nt o = .pure f dd := h2
    have hw := I.wanted C hng hm (by omega) hjs ho hj hrd' (x := true) (by rw [hx]; exact h1)
    obtain ⟨p1, p2, p3⟩ := comp_pure h2
    have hnd : ∀ c, o.op ≠ .defer c := fun c hd => by obtain ⟨g, dst, q, _⟩ := defer_eff (P := P) (nt := nt) hd; rw [h2] at q; cases q
    rw [hx] at OR
    obtain ⟨v', e1, e2⟩ := p3 ρ tm a w v OR h3
    refine ⟨ρ, a.put o.dst v', w, E, I.still C hng hm hjN hjs ho hok hj hrd' ?_ ?_ ?_, Ren.le.refl ρ, put_defers, .one (step_value ho hw (by rw [notDefer_semAt hnd]; exact e1))⟩
    · rw [hy, p1]; exact putD_rel e2
    · rintro ⟨o', f', dst, v, q1, q2, q3, _⟩
      rw [ho] at q1; cases q1
      rw [h2] at q2; cases q2
    · rintro ao ⟨o', f', dst, v, q1, q2, q3, _⟩
      rw [ho] at q1; cases q1
      rw [h2] at q2; cases q2
  | @read tm h f dd v h1 h2 h3 h4 =>
    replace h2 : compOp P nt o = .read f dd := h2
    have hw := I.wanted C hng hm (by omega) hjs ho hj hrd' (x := true) (by rw [hx]; exact h1)
    obtain ⟨p1, p2, p3⟩ := comp_read h2
    have hnd : ∀ c, o.op ≠ .defer c := fun c hd => by obtain ⟨g, dst, q, _⟩ := defer_eff (P := P) (nt := nt) hd; rw [h2] at q; cases q
    obtain ⟨h', hr', hv'⟩ := I.read C hng hm hjN hjs ho hj hrd' h2 (by rw [hx]; exact h3) (by rw [hx]; exact h4)
    rw [hx] at OR hv'
    obtain ⟨v', e1, e2⟩ := p3 ρ tm a h' w v hr' OR hv'
    refine ⟨ρ, a.put o.dst v', w, E, I.still C hng hm hjN hjs ho hok hj hrd' ?_ ?_ ?_, Ren.le.refl ρ, put_defers, .one (step_value ho hw (by rw [notDefer_semAt hnd]; exact e1))⟩
    · rw [hy, p1]; exact putD_rel e2
    · rintro ⟨o', f', dst, v, q1, q2, q3, _⟩
      rw [ho] at q1; cases q1
      rw [h2] at q2; cases q2
    · rintro ao ⟨o', f', dst, v, q1, q2, q3, _⟩
      rw [ho] at q1; cases q1
      rw [h2] at q2; cases q2
  | @new tm h f dd v ao h1 h2 h3 =>
    replace h2 : compOp P nt o = .new f dd := h2
    have hw := I.wanted C hng hm (by omega) hjs ho hj hrd' (x := true) (by rw [hx]; exact h1)
    obtain ⟨p1, p2, p3⟩ := comp_new h2
    have hnd : ∀ c, o.op ≠ .defer c := fun c hd => by obtain ⟨g, dst, q, _⟩ := defer_eff (P := P) (nt := nt) hd; rw [h2] at q; cases q
    have hn : NewI P nt ops T j ao := ⟨o, f, dd, v, ho, h2, by rw [hx]; exact h1, by rw [hx]; exact h3, by rw [hx, hy]⟩
    have hnx : (T (j + 1)).2.next = (T j).2.next + 1 := by rw [hn.heap, H.new_next]
    have hfree : ρ h.next = none := by
      have := I.un j hjN hj (T j).2.next (Nat.le_refl _) (by omega)
      rw [hx] at this; exact this
    rw [hx] at OR
    obtain ⟨v', ob, e1, e2, e3⟩ := p3 ρ tm a w h.next v ao hfree OR h3
    have hmono := Ren.add_mono (c := w.heap.size) (k := 0) hfree
    have hh : (T j).2.next = h.next := by rw [hx]
    refine ⟨_, a.put o.dst v', _, E, I.new C hng hm hjN hjs ho hok hj hrd' hn (by rw [hh]; exact e3) rfl ?_, ?_, put_defers, .one (step_value ho hw (by rw [notDefer_semAt hnd]; exact e1))⟩
    · rw [hy, p1, hh]; exact putD_rel e2
    · rw [hh]; exact hmono
  | @eff tm h f dst v h' h1 h2 h3 h4 =>
    replace h2 : compOp P nt o = .eff f dst := h2
    have hw := I.wanted C hng hm (by omega) hjs ho hj hrd' (x := true) (by rw [hx]; exact h1)
    have hEff : EffI P r nt ops d T j := ⟨o, f, dst, v, ho, h2, by rw [hx]; exact h1, by rw [hx, hy]; exact h3, by rw [hx, hy], by rw [hx, hy]; exact h4⟩
    obtain ⟨hEj, hq⟩ := I.eff_place C hng hm hjs ho hj hrd' (by rw [h2]; rfl) (fun _ => hEff) (by omega)
    have hrel := I.at C hng hm hEj (by omega) hq
    have F : Free ρ (T j).2 (T (j + 1)).2 := fun m q1 q2 => I.un j hjN hj m q1 q2
    have hhx : (T j).2 = h := by rw [hx]
    have hhy : (T (j + 1)).2 = h' := by rw [hy]
    have htx : (T j).1 = tm := by rw [hx]
    rw [hhx] at hrel
    rw [hhx, hhy] at F
    rw [htx] at OR
    obtain ⟨g1, g2, ρ2, w2, u, g3, g4, g5⟩ := eff_step hng hm hc hrd ho h2 h3 (b := b) (k := k) (cs := cs) (rest := rest) hrel OR F hw
    refine ⟨ρ2, a.put o.dst u, w2, j + 1, I.eff C hng hm F0 htop hjN hjs ho hok hj hrd' hEff (by rw [hhx, hhy]; exact g3) hEj hq ?_, g3.ext.mono, put_defers, g5⟩
    rw [hy, g1]; exact putD_rel g4

end
end
end Go.Ab

namespace Go.Ab
section
variable {P : Program} {r : Rec} {nt : Nat} {ops : Array Oper} {M : Nat → Nat} {loose : List (Nat × Nat)} {d : DOut} {T : Nat → PT AV × H} {N : Nat}

theorem ready_mem {listed : Array Bool} (hs : listed.size = ops.size) {i : Nat} : i ∈ Region.ready .any ops listed ↔ i < ops.size ∧ listed[i]? = some false ∧ ∃ o, ops[i]? = some o ∧ ∀ e, e ∈ o.after.toList → Region.binds .any e = true → listed[e.on]? = some true := by
  unfold Region.ready
  rw [List.mem_filter, List.mem_range]
  refine and_congr_right fun hi => ?_
  have h1 : listed[i]? = some (listed[i]'(by omega)) := by simp
  have h2 : ops[i]? = some ops[i] := by simp [hi]
  rw [Bool.and_eq_true, h1, h2]
  refine and_congr ?_ ?_
  · simp [Array.getD, hs, hi]
  · simp only [Option.map_some, Option.getD_some, Option.some.injEq, exists_eq_left']
    rw [Array.all_eq_true_iff_forall_mem]
    refine ⟨fun h e he hb => ?_, fun h e he => ?_⟩
    · have := h e (by simpa using he)
      rw [hb] at this
      simp only [Bool.not_true, Bool.false_or] at this
      unfold Array.getD at this
      split at this
      · rename_i hlt; simp at this; rw [Array.getElem?_eq_getElem hlt]; simpa using this
      · cases this
    · cases hb : Region.binds .any e with
      | false => rfl
      | true =>
        have := h e (by simpa using he) hb
        simp only [Bool.not_true, Bool.false_or]
        unfold Array.getD
        rw [Array.getElem?_eq_some_iff] at this
        obtain ⟨hlt, hv⟩ := this
        rw [dif_pos hlt]; simpa using hv

theorem go_succ (fuel t : Nat) (listed : Array Bool) : Region.linearise.go .any ops (fuel + 1) t listed [] = match (Region.ready .any ops listed)[t % (Region.ready .any ops listed).length]? with
    | some i => i :: Region.linearise.go .any ops fuel (t / (Region.ready .any ops listed).length) (listed.setIfInBounds i true) []
    | none => [] := by
  simp only [Region.linearise.go]
  change (match (Region.ready .any ops listed)[t % (Region.ready .any ops listed).length]? with
      | some i => Region.linearise.go .any ops fuel (t / (Region.ready .any ops listed).length) (listed.setIfInBounds i true) [i]
      | none => [].reverse) = _
  split
  · rename_i i hi
    rw [linearise_go_acc]
    rfl
  · rfl

theorem set_iff {listed : Array Bool} {i : Nat} (hi : i < listed.size) : (fun x => (listed.setIfInBounds i true)[x]? = some true) = fun x => listed[x]? = some true ∨ x = i := by
  funext x
  rw [Array.getElem?_setIfInBounds]
  by_cases h : i = x
  · subst h; simp [hi]
  · simp only [h, if_false]
    exact propext ⟨.inl, fun q => q.resolve_right fun e => h e.symm⟩

section
variable (C : DCtx P r nt ops M loose d T N) (hng : NoNG P) (hm : RecMono r) (hc : CallOk P r.call) (hrd : RoundOk P r.round) {top : Nat} {ρ0 : Ren} {w0 : World}
  (F0 : ∀ m, (T 0).2.next ≤ m → m < top → ρ0 m = none) (htop : (T N).2.next ≤ top) (hN : N ≤ ops.size) (hpan : N < ops.size → ∀ j, N < j → j < ops.size → (M j).testBit N = true)
  {b : Frame} {k : List Item} {cs : List Frame}
include C hng hm hc hrd F0 htop hN hpan

theorem draw_go : ∀ (fuel t : Nat) (listed : Array Bool) (E : Nat) (ρ : Ren) (a : Act) (w : World), listed.size = ops.size → listed.toList.count false ≤ fuel → Inv P r nt ops M d T N top ρ0 w0 (fun i => listed[i]? = some true) E ρ a w →
    (N = ops.size ∧ ∃ ρ' a' w' E' L', Inv P r nt ops M d T N top ρ0 w0 L' E' ρ' a' w' ∧ (∀ i, i < N → L' i) ∧ ρ.le ρ' ∧ a'.defers = a.defers ∧
      Steps P (lone (b.atR a (.inRegion ops (Region.linearise.go .any ops fuel t listed []) :: k)) cs w) (lone (b.atR a' (.inRegion ops [] :: k)) cs w')) ∨
    (N < ops.size ∧ ∃ ρ' a' w' E' L' rest, Inv P r nt ops M d T N top ρ0 w0 L' E' ρ' a' w' ∧ ¬ L' N ∧ (∀ i, (M N).testBit i = true → L' i) ∧ ρ.le ρ' ∧ a'.defers = a.defers ∧
      Steps P (lone (b.atR a (.inRegion ops (Region.linearise.go .any ops fuel t listed []) :: k)) cs w) (lone (b.atR a' (.inRegion ops (N :: rest) :: k)) cs w')) := by
  intro fuel
  induction fuel with
  | zero =>
    intro t listed E ρ a w hs hcnt I
    have hall : ∀ i, i < ops.size → listed[i]? = some true := by
      intro i hi
      have h0 : listed.toList.count false = 0 := by omega
      have hlt : i < listed.size := by omega
      rw [Array.getElem?_eq_getElem hlt]
      cases hv : listed[i] with
      | true => rfl
      | false =>
        have : false ∈ listed.toList := by rw [← hv]; simp
        rw [List.count_eq_zero] at h0
        exact absurd this h0
    have hNe : N = ops.size := by
      rcases Nat.lt_or_ge N ops.size with h | h
      · have := I.sub N (hall N h); omega
      · omega
    exact .inl ⟨hNe, ρ, a, w, E, _, I, fun i hi => hall i (by omega), Ren.le.refl ρ, rfl, .refl _ _⟩
  | succ fuel ih =>
    intro t listed E ρ a w hs hcnt I
    rw [go_succ]
    by_cases hall : ∀ i, i < ops.size → listed[i]? = some true
    · have hNe : N = ops.size := by
        rcases Nat.lt_or_ge N ops.size with h | h
        · have := I.sub N (hall N h); omega
        · omega
      have hempty : Region.ready .any ops listed = [] := by
        cases hr : Region.ready .any ops listed with
        | nil => rfl
        | cons x xs =>
          have hx : x ∈ Region.ready .any ops listed := by rw [hr]; simp
          obtain ⟨q1, q2, _⟩ := (ready_mem hs).1 hx
          rw [hall x q1] at q2; cases q2
      rw [hempty]
      exact .inl ⟨hNe, ρ, a, w, E, _, I, fun i hi => hall i (by omega), Ren.le.refl ρ, rfl, .refl _ _⟩
    · -- the least that is not done is ready
      have hex : ∃ i, i < ops.size ∧ listed[i]? = some false := by
        by_cases hx : ∃ i, i < ops.size ∧ listed[i]? = some false
        · exact hx
        · refine absurd (fun i hi => ?_) hall
          have hlt : i < listed.size := by omega
          rw [Array.getElem?_eq_getElem hlt]
          cases hv : listed[i] with
          | true => rfl
          | false => exact absurd ⟨i, hi, by rw [Array.getElem?_eq_getElem hlt, hv]⟩ hx
      obtain ⟨i0, hi1, hi2, hmin⟩ : ∃ i, i < ops.size ∧ listed[i]? = some false ∧ ∀ x, x < i → listed[x]? = some true := by
        obtain ⟨i, hi⟩ := hex
        induction i using Nat.strongRecOn with
        | _ i ihh =>
          by_cases hx : ∃ x, x < i ∧ listed[x]? = some false
          · obtain ⟨x, x1, x2⟩ := hx
            exact ihh x x1 ⟨by omega, x2⟩
          · refine ⟨i, hi.1, hi.2, fun x hxi => ?_⟩
            have hlt : x < listed.size := by omega
            rw [Array.getElem?_eq_getElem hlt]
            cases hv : listed[x] with
            | true => rfl
            | false => exact absurd ⟨x, hxi, by rw [Array.getElem?_eq_getElem hlt, hv]⟩ hx
      have hrdy : i0 ∈ Region.ready .any ops listed := (ready_mem hs).2 ⟨hi1, hi2, ops[i0], by simp [hi1], fun e he hb => hmin _ (C.st.edge i0 ops[i0] hi1 (by simp [hi1]) e he hb)⟩
      have hpos : 0 < (Region.ready .any ops listed).length := List.length_pos_of_mem hrdy
      have hlt : t % (Region.ready .any ops listed).length < (Region.ready .any ops listed).length := Nat.mod_lt _ hpos
      rw [List.getElem?_eq_getElem hlt]
      simp only
      have hin : (Region.ready .any ops listed)[t % (Region.ready .any ops listed).length] ∈ Region.ready .any ops listed := List.getElem_mem hlt
      generalize (Region.ready .any ops listed)[t % (Region.ready .any ops listed).length] = i at hin
      generalize t / (Region.ready .any ops listed).length = t'
      obtain ⟨hi, hnl, o, ho, hedge⟩ := (ready_mem hs).1 hin
      have hnL : ¬ listed[i]? = some true := by rw [hnl]; simp
      have hanc : ∀ x, (M i).testBit x = true → listed[x]? = some true := by
        intro x hx
        obtain ⟨e, he, hb, hor⟩ := C.st.anc i o hi ho x hx
        have hon := hedge e he hb
        rcases hor with rfl | hor
        · exact hon
        · exact I.cl e.on hon x hor
      rcases Nat.lt_trichotomy i N with h | h | h
      · -- one more
        obtain ⟨ρ1, a1, w1, E1, I1, hle, hdf, hst⟩ := draw_step C hng hm hc hrd I F0 htop h hi hnL hanc (b := b) (k := k) (cs := cs) (Region.linearise.go .any ops fuel t' (listed.setIfInBounds i true) [])
        rw [← set_iff (by omega)] at I1
        have hcnt' : (listed.setIfInBounds i true).toList.count false ≤ fuel := by
          have hil : i < listed.toList.length := by simp; omega
          rw [Array.toList_setIfInBounds, List.count_set hil]
          have hv : listed.toList[i] = false := by
            have : listed[i]? = some listed[i] := by simp [show i < listed.size from by omega]
            rw [this] at hnl
            simpa using hnl
          have hpos : 0 < listed.toList.count false := List.count_pos_iff.2 (by rw [← hv]; exact List.getElem_mem hil)
          rw [hv]
          simp
          simp at hcnt hpos
          omega
        rcases ih t' (listed.setIfInBounds i true) E1 ρ1 a1 w1 (by simpa using hs) hcnt' I1 with ⟨q1, ρ', a', w', E', L', q2, q3, q4, q5, q6⟩ | ⟨q1, ρ', a', w', E', L', rest, q2, q3, q4, q5, q6, q7⟩
        · exact .inl ⟨q1, ρ', a', w', E', L', q2, q3, hle.trans q4, q5.trans hdf, hst.trans q6⟩
        · exact .inr ⟨q1, ρ', a', w', E', L', rest, q2, q3, q4, hle.trans q5, q6.trans hdf, hst.trans q7⟩
      · subst h
        exact .inr ⟨hi, ρ, a, w, E, _, _, I, hnL, hanc, Ren.le.refl ρ, rfl, .refl _ _⟩
      · have := I.sub N (hanc N (hpan (by omega) i h hi))
        omega
end
end
end Go.Ab

namespace Go.Ab
section
variable {P : Program} {r : Rec} {nt : Nat} {ops : Array Oper} {M : Nat → Nat} {loose : List (Nat × Nat)} {d : DOut} {T : Nat → PT AV × H} {N : Nat}

theorem Inv.stp (C : DCtx P r nt ops M loose d T N) (hng : NoNG P) (hm : RecMono r) {top : Nat} {ρ0 ρ : Ren} {w0 w : World} {L : Nat → Prop} {E : Nat} {a : Act} (I : Inv P r nt ops M d T N top ρ0 w0 L E ρ a w) (hq : ∀ i, E ≤ i → i < N → ¬ EffI P r nt ops d T i) : Stp P ρ0 ρ (T 0).2 (T N).2 w0 w := by
  have hqN : ∀ m, m < (T E).2.next → (T N).2.get m = (T E).2.get m := fun m hlt => by
    obtain ⟨n, hn⟩ : ∃ n, N = E + n := ⟨N - E, by have := I.elt; omega⟩
    have := (C.quiet hm n (by omega) (fun i a b => hq i a (by omega)) m).1 hlt
    rw [← hn] at this
    exact this
  have h0E := C.nexts hm (k := 0) E (by omega) I.elt
  refine ⟨⟨I.e1, I.e2, I.e3, I.e4, fun m hlt h0 => ?_, C.nexts hm N (by omega) (Nat.le_refl _), fun m hlt hal => ?_, I.os, I.tape, I.output⟩, I.at C hng hm I.elt (Nat.le_refl _) hq⟩
  · rw [hqN m (by omega)]; exact I.e5 m hlt h0
  · refine I.e6 m hlt ?_
    obtain ⟨y, hy, hyd⟩ := hal
    exact ⟨y, by rw [← hqN m (by omega)]; exact hy, hyd⟩

theorem eraseD_get {t : Tmp} {v : AV} : ∀ (gs : List GOp) {tm : PT AV}, (eraseD tm gs).get t = some v → tm.get t = some v ∧ ∀ g, g ∈ gs → g.dst ≠ some t
  | [], tm, h => ⟨h, by simp⟩
  | g :: gs, tm, h => by
    unfold eraseD at h
    split at h
    · rename_i dd hd
      obtain ⟨h1, h2⟩ := eraseD_get gs h
      have hne : dd ≠ t := fun e => by subst e; rw [PT.del_eq] at h1; cases h1
      rw [PT.del_ne _ hne] at h1
      refine ⟨h1, fun g' hg' => ?_⟩
      rcases List.mem_cons.1 hg' with rfl | hg'
      · rw [hd]; exact fun e => hne (by injection e)
      · exact h2 g' hg'
    · rename_i hd
      obtain ⟨h1, h2⟩ := eraseD_get gs h
      refine ⟨h1, fun g' hg' => ?_⟩
      rcases List.mem_cons.1 hg' with rfl | hg'
      · rw [hd]; simp
      · exact h2 g' hg'

theorem allAfter_t {anc : PT Nat} {i : Nat} : ∀ (n j : Nat), allAfter anc i j n = true → ∀ x, j ≤ x → x < j + n → ∃ m, anc.get x = some m ∧ m.testBit i = true
  | 0, j, _, x, h1, h2 => by omega
  | n + 1, j, h, x, h1, h2 => by
    unfold allAfter at h
    split at h
    · rename_i m hmm
      split at h
      · rename_i hb
        by_cases hx : x = j
        · subst hx; exact ⟨m, hmm, hb⟩
        · exact allAfter_t n (j + 1) h x (by omega) (by omega)
      · cases h
    · cases h

/-- Any order that the region may draw leads where the written one does. -/
theorem draw_ok (hng : NoNG P) (hmix : P.follows .mixedOrders = true) {r : Rec} (hm : RecMono r) (hc : CallOk P r.call) (hrd : RoundOk P r.round) : DrawOk P r := by
  intro nt ro id ops s e s' h ρ b a k cs w A F
  unfold evRegion at h
  simp only at h
  unfold evDraw at h
  split at h
  · cases h
  · rename_i loose hloose
    split at h
    · cases h
    · rename_i d hd
      split at h
      · cases h
      · rename_i hlo
        obtain ⟨M, hstat, hanc⟩ := loose_stat hloose
        obtain ⟨T, N, htr, hT0⟩ := trace_of _ hd
        have C : DCtx P r nt ops M loose d T N := ⟨hstat, htr, hlo⟩
        have hT0h : (T 0).2 = s.h := by rw [hT0]
        have hT0t : (T 0).1 = s.tm := by rw [hT0]
        have hNle : N ≤ ops.size := by
          rcases Nat.lt_or_ge ops.size N with hx | hx
          · obtain ⟨o, ho, _⟩ := C.step hx
            simp at ho
          · exact hx
        -- where memory ends
        have htop : (T N).2.next ≤ s'.h.next := by
          rcases htr.fin with ⟨q1, q2, q3⟩ | ⟨v, g, f, dst, q1, q2, q3, q4, q5, q6, q7⟩
          · rw [q1] at h
            simp only at h
            injection h with h; injection h with _ h; subst h
            rw [q3]; exact Nat.le_refl _
          · rw [q1] at h
            simp only at h
            split at h
            · injection h with h; injection h with _ h; subst h
              exact runEff_mono hm q6
            · cases h
        have F0 : ∀ m, (T 0).2.next ≤ m → m < s'.h.next → ρ m = none := fun m h1 h2 => F m (by rw [← hT0h]; exact h1) h2
        -- the order is drawn
        have hstart := stepR_region_draw (P := P) (b := b) (a := a) (k := k) (cs := cs) (w := w) (id := id) (ops := ops)
        have hsch : Region.schedule (P.follows .mixedOrders) ops (w.tape w.drawn (.order b.fn id)) = Region.linearise.go .any ops ops.size (w.tape w.drawn (.order b.fn id)) (Array.replicate ops.size false) [] := by
          unfold Region.schedule
          rw [hmix]
          rfl
        rw [hsch] at hstart
        generalize w.tape w.drawn (.order b.fn id) = t at hstart
        have st0 : Stp P ρ ρ s.h s.h w { w with drawn := w.drawn + 1 } := Stp.of_heap A.hr rfl rfl rfl rfl
        generalize { w with drawn := w.drawn + 1 } = w0 at hstart st0
        have hnoL : ∀ i : Nat, ¬ (Array.replicate ops.size false)[i]? = some true := by
          intro i hx
          rw [Array.getElem?_replicate] at hx
          split at hx <;> simp at hx
        have I0 : Inv P r nt ops M d T N s'.h.next ρ w0 (fun i => (Array.replicate ops.size false)[i]? = some true) 0 ρ a w0 := by
          refine ⟨fun i hi => absurd hi (hnoL i), fun i hi => absurd hi (hnoL i), Nat.zero_le _, .inl rfl, fun i hi => absurd hi (Nat.not_lt_zero _), fun i _ _ => hnoL i, A.fr.size, ?_, ?_, ?_, fun m h1 h2 => F0 m (Nat.le_trans (C.nexts hm N (Nat.zero_le _) (Nat.le_refl _)) h1) h2, fun i hi => absurd hi (Nat.not_lt_zero _), Ren.le.refl ρ, fun n c h0 hc0 => (by rw [h0] at hc0; cases hc0), fun _ _ _ => rfl, Nat.le_refl _, fun _ _ _ => rfl, fun _ _ h => h, rfl, rfl, rfl⟩
          · intro u kk hk h1 h2 v hv
            have := C.tm_quiet hng (t := u) (k := 0) kk (by omega) (fun i o _ hi ho hdo => hnoL i (h2 i o (by omega) ho hdo))
            rw [Nat.zero_add] at this
            rw [this, hT0t] at hv
            exact A.fr.get u v hv
          · have hrel := st0.rel
            have noname : ∀ {i x c}, i < N → NewI P nt ops T i x → ρ (T i).2.next ≠ some c := by
              intro i x c hi hn hx
              have h1 := C.nexts hm (k := 0) i (by omega) (by omega)
              have h2 := C.nexts hm (k := i + 1) N (by omega) (Nat.le_refl _)
              rw [hn.heap, H.new_next] at h2
              rw [F0 _ h1 (by omega)] at hx
              cases hx
            refine ⟨?_, ?_, hrel.glob, hrel.bound, ?_⟩
            · intro n x c hx hnd hcc
              rcases hx with hx | ⟨i, _, i2, i3, rfl⟩
              · rw [hT0h] at hx; exact hrel.obj n x c hx hnd hcc
              · exact absurd hcc (noname i2 i3)
            · intro n m c x x' hx hnd hx' hnd' c1 c2
              rcases hx with hx | ⟨i, _, i2, i3, rfl⟩
              · rcases hx' with hx' | ⟨i, _, i2, i3, rfl⟩
                · rw [hT0h] at hx hx'; exact hrel.inj n m c ⟨x, hx, hnd⟩ ⟨x', hx', hnd'⟩ c1 c2
                · exact absurd c2 (noname i2 i3)
              · exact absurd c1 (noname i2 i3)
            · intro n el m ro' z tr c cells e' fz hx hcc hg
              rcases hx with hx | ⟨i, _, i2, i3, rfl⟩
              · rw [hT0h] at hx; exact hrel.room n el m ro' z tr c cells e' fz hx hcc hg
              · exact absurd hcc (noname i2 i3)
          · intro i hi _ m h1 h2
            have g1 := C.nexts hm (k := 0) i (by omega) (by omega)
            have g2 := C.nexts hm (k := i + 1) N (by omega) (Nat.le_refl _)
            exact F0 m (by omega) (by omega)
        have hpan : N < ops.size → ∀ j, N < j → j < ops.size → (M j).testBit N = true := by
          intro hN j h1 h2
          rcases htr.fin with ⟨q1, q2, q3⟩ | ⟨v, g, f, dst, q1, q2, q3, q4, q5, q6, q7⟩
          · exfalso
            have hlen : (compOps P nt ops ops.toList).length = ops.toList.length := by
              refine compOps_len _ fun g hg hb => ?_
              subst hb
              obtain ⟨kk, hk1, hk2⟩ := List.mem_iff_getElem.1 hg
              obtain ⟨g', hg', hs'⟩ := htr.steps kk (Nat.zero_le _) (by omega)
              rw [Nat.sub_zero, List.getElem?_eq_getElem hk1, hk2] at hg'
              injection hg' with hg'; subst hg'
              exact hs'.not_bad
            simp at hlen
            omega
          · rw [q1] at h
            simp only at h
            split at h
            · rename_i hall
              obtain ⟨m, hm1, hm2⟩ := allAfter_t _ _ hall j (by omega) (by omega)
              rw [← hanc j m hm1, q2]; exact hm2
            · cases h
        have hcount : (Array.replicate ops.size false).toList.count false ≤ ops.size := by
          have := List.count_le_length (a := false) (l := (Array.replicate ops.size false).toList)
          simpa using this
        have frs : Free ρ s.h s.h := fun n h1 h2 => by omega
        have frN : Free ρ s.h (T N).2 := F.mono htop
        rcases draw_go C hng hm hc hrd F0 htop hNle hpan (b := b) (k := k) (cs := cs) ops.size t (Array.replicate ops.size false) 0 ρ a w0 (by simp) hcount I0 with ⟨hN, ρ', a', w', E', L', I, hall, hle, hdf, hst⟩ | ⟨hN, ρ', a', w', E', L', rest, I, hnL, hancL, hle, hdf, hst⟩
        · -- through
          have hq : ∀ i, E' ≤ i → i < N → ¬ EffI P r nt ops d T i := fun i h1 h2 h3 => I.effOut i h1 h3 (hall i h2)
          have st := I.stp C hng hm hq
          rw [hT0h] at st
          rcases htr.fin with ⟨q1, q2, q3⟩ | ⟨v, g, f, dst, q1, q2, q3, q4, q5, q6, q7⟩
          · rw [q1] at h
            simp only at h
            injection h with h; injection h with h1 h2; subst h1; subst h2
            have hNh : (T N).2 = d.h := by rw [q3]
            have hNt : (T N).1 = d.tm := by rw [q3]
            rw [hNh] at st
            refine ⟨ρ', a', cs, w', st0.trans frs st, ⟨⟨I.size, fun u v hv => ?_⟩, st.rel, ?_, A.um.mono hle, A.ro.mono hle⟩, CsTo.refl _ _, ?_⟩
            · refine I.tm u N (Nat.le_refl _) (fun i o hi _ _ => I.sub i hi) (fun i o hi _ _ => hall i hi) v ?_
              rw [hNt]; exact hv
            · show DRels ρ' s.dfs a'.defers
              rw [hdf]; exact A.ds.mono hle
            · exact Steps.trans (.head hstart hst) (.one stepR_region_end)
          · have hlt : N < (compOps P nt ops ops.toList).length := by
              rcases Nat.lt_or_ge N (compOps P nt ops ops.toList).length with hx | hx
              · exact hx
              · rw [Nat.sub_zero, List.getElem?_eq_none hx] at q3; cases q3
            rcases compOps_get _ _ _ q3 with rfl | ⟨o, ho, _, _⟩
            · injection q5 with q5; subst q5; simp [eBad, runEff] at q6
            · simp [hN] at ho
        · -- it panicked
          rcases htr.fin with ⟨q1, q2, q3⟩ | ⟨v, g, f, dst, q1, q2, q3, q4, q5, q6, q7⟩
          · exfalso
            have hlen : (compOps P nt ops ops.toList).length = ops.toList.length := by
              refine compOps_len _ fun g hg hb => ?_
              subst hb
              obtain ⟨kk, hk1, hk2⟩ := List.mem_iff_getElem.1 hg
              obtain ⟨g', hg', hs'⟩ := htr.steps kk (Nat.zero_le _) (by omega)
              rw [Nat.sub_zero, List.getElem?_eq_getElem hk1, hk2] at hg'
              injection hg' with hg'; subst hg'
              exact hs'.not_bad
            simp at hlen
            omega
          · rw [q1] at h
            simp only at h
            split at h
            · injection h with h; injection h with h1 h2; subst h1; subst h2
              rcases compOps_get _ _ _ q3 with rfl | ⟨o, ho, hok, rfl⟩
              · injection q5 with q5; subst q5; simp [eBad, runEff] at q6
              · simp only [Nat.sub_zero] at ho
                have ho : ops[N]? = some o := by simpa using ho
                replace q5 : compOp P nt o = .eff f dst := q5
                obtain ⟨hEN, hq⟩ := I.eff_place C hng hm hN ho hnL hancL (by rw [q5]; rfl) (fun hx => absurd hx (Nat.lt_irrefl _)) (Nat.le_refl _)
                have st := I.stp C hng hm hq
                rw [hT0h] at st
                have OR := I.orels C hng hm (Nat.le_refl _) hN ho hnL hancL
                have hw := I.wanted C hng hm (Nat.le_refl _) hN ho hnL hancL q4
                have Fp : Free ρ' (T N).2 d.h := fun m h1 h2 => I.top m h1 h2
                obtain ⟨_, _, ρ2, w2, v', g3, g4, g5⟩ := eff_step hng hm hc hrd ho q5 q6 (b := b) (k := k) (cs := cs) (rest := rest) st.rel OR Fp hw
                have hle2 := hle.trans g3.ext.mono
                refine ⟨ρ2, a', cs, w2, st0.trans frs (st.trans frN g3), ⟨⟨I.size, fun u x hx => ?_⟩, g3.rel, ?_, A.um.mono hle2, A.ro.mono hle2⟩, CsTo.refl _ _, _, v', (fun _ _ _ _ _ q => by cases q), g4, (Steps.head hstart hst).trans g5⟩
                · obtain ⟨hx1, hx2⟩ := eraseD_get _ hx
                  obtain ⟨y, hy1, hy2⟩ := I.tm u 0 (Nat.zero_le _) (fun i oi hi hoi hdi => by
                    exfalso
                    obtain ⟨o', ho', _, _⟩ := C.step (I.sub i hi)
                    obtain ⟨gg, hg1, hg2⟩ := htr.steps i (Nat.zero_le _) (I.sub i hi)
                    rw [Nat.sub_zero] at hg1
                    rcases compOps_get _ _ _ hg1 with rfl | ⟨o2, ho2, _, rfl⟩
                    · exact hg2.not_bad
                    · have ho2 : ops[i]? = some o2 := by simpa using ho2
                      rw [hoi] at ho2; cases ho2
                      exact hx2 _ (List.mem_of_getElem? hg1) hdi) (fun i _ hi => absurd hi (Nat.not_lt_zero _)) x (by rw [hT0t]; exact hx1)
                  exact ⟨y, hy1, hy2.mono g3.ext.mono⟩
                · show DRels ρ2 s.dfs a'.defers
                  rw [hdf]; exact A.ds.mono hle2
            · cases h
end
end Go.Ab

namespace Go.Ab
section
variable {P : Program}

noncomputable def goN (P : Program) (sm : Sums) (n : Nat) : Rec :=
  Nat.rec (motive := fun _ => Rec) rec0 (fun _ ih => recS P sm ih) n

structure RecOk (P : Program) (r : Rec) : Prop where
  mono : RecMono r
  code : CodeOk P r.code
  call : CallOk P r.call
  round : RoundOk P r.round
theorem rec0_ok : RecOk P rec0 :=
  ⟨⟨fun _ _ _ _ _ _ e => (by cases e), fun _ _ _ _ _ _ _ e => (by cases e), fun _ _ _ _ _ e => (by cases e)⟩, fun _ _ _ _ _ _ e => (by cases e), fun _ _ _ _ _ _ _ e => (by cases e), fun _ _ _ _ _ e => (by cases e)⟩
theorem recS_ok (hng : NoNG P) (hmix : P.follows .mixedOrders = true) {sm : Sums} (hs : SumsOk P sm) {r : Rec} (o : RecOk P r) : RecOk P (recS P sm r) :=
  ⟨recS_mono sm r, code_ok hng o.mono o.code o.call o.round (draw_ok hng hmix o.mono o.call o.round) (range_ok hng o.mono o.code o.call), call_ok hng hs o.mono o.code o.call, round_ok o.mono o.code⟩
theorem goN_ok (hng : NoNG P) (hmix : P.follows .mixedOrders = true) {sm : Sums} (hs : SumsOk P sm) : ∀ n, RecOk P (goN P sm n)
  | 0 => rec0_ok
  | n + 1 => recS_ok hng hmix hs (goN_ok hng hmix hs n)

theorem sums_none : SumsOk P (fun _ => none) := fun _ _ _ _ _ _ _ e => by cases e

/-- What the evaluator says of a call is what the call does. -/
theorem call_calls {call : FuncId → List AV → UM → H → Option (Res × UM × H)} (o : CallOk P call) {f : FuncId} {args : List AV} {h h' : H} {v : AV} {um' : UM} (hrun : call f args .plain h = some (.ret v, um', h')) {ρ : Ren} {args' : Array Value} {w : World} (ha : VRels ρ args args'.toList) (hr : HRel P ρ h w) (F : Free ρ h h') :
    Calls P f args' w fun e w' => ∃ ρ' v', e = .returned v' ∧ VRel ρ' v v' ∧ Stp P ρ ρ' h h' w w' := by
  intro cs
  obtain ⟨ρ', cs', w', fr, fn, v', st, um, ct, steps, hfn, hk, hd, hP, hb, hres⟩ := o _ _ _ _ _ _ _ hrun ρ args' .normal cs w ha hr F (.plain _)
  have := ct.normal; subst this
  obtain ⟨m1, m2, m3⟩ := hres
  exact ⟨.returned v', w', fr, ⟨ρ', v', rfl, m3, st⟩, steps, hfn, m1, hd, hk, fn, by rw [hfn]; exact hP, m2⟩

/-- The names at the start: the package-level variables. -/
def ren0 (n : Nat) : Ren := ⟨fun m => if m < n then some m else none, fun _ => 0⟩
theorem hrel0 {h : H} {w : World} (hn : h.next = P.globals.size) (hsz : P.globals.size ≤ w.heap.size) (hf : ∀ g o, h.get g = some o → ∃ ob, o = .fixed ob ∧ w.heap[g]? = some ob) : HRel P (ren0 P.globals.size) h w := by
  have hv : ∀ n c, ren0 P.globals.size n = some c → n = c ∧ n < P.globals.size := by
    intro n c hc
    simp only [ren0] at hc
    split at hc
    · injection hc with hc; exact ⟨hc, by assumption⟩
    · cases hc
  refine ⟨fun n o c ho _ hc => ?_, fun n m c _ _ h1 h2 => ((hv n c h1).1).trans ((hv m c h2).1).symm, fun g hg => by simp [ren0, hg], fun n c hc => ?_, fun n e m ro z t c cs e' fz ho _ _ => ?_⟩
  · obtain ⟨rfl, _⟩ := hv n c hc
    obtain ⟨ob, rfl, hob⟩ := hf n o ho
    exact ⟨ob, hob, .fixed ob⟩
  · obtain ⟨rfl, hlt⟩ := hv n c hc; omega
  · obtain ⟨ob, q, _⟩ := hf n _ ho; cases q
theorem free0 {h h' : H} (hn : h.next = P.globals.size) : Free (ren0 P.globals.size) h h' := by
  intro n h1 _
  simp only [ren0]
  rw [if_neg (by omega)]

/-- Nothing that was there at the start is another one behind. -/
theorem kept0 {h h' : H} {w w' : World} {ρ' : Ren} (hn : h.next = P.globals.size) (hf : ∀ g o, h.get g = some o → ∃ ob, o = .fixed ob ∧ w.heap[g]? = some ob ∧ h'.get g = some (.fixed ob)) (st : Stp P (ren0 P.globals.size) ρ' h h' w w') :
    w'.os = w.os ∧ w'.output = w.output ∧ ∀ i, i < w.heap.size → w'.heap[i]? = w.heap[i]? := by
  refine ⟨st.ext.os, st.ext.output, fun i hi => ?_⟩
  by_cases hx : ∃ m, Alive h m ∧ ren0 P.globals.size m = some i
  · obtain ⟨m, ⟨o, ho, _⟩, hm⟩ := hx
    obtain ⟨ob, rfl, hob, hob'⟩ := hf m o ho
    have hmi : m = i := by
      simp only [ren0] at hm
      split at hm
      · injection hm
      · cases hm
    subst hmi
    obtain ⟨x, hx1, hx2⟩ := st.rel.obj m _ m hob' (by simp) (st.ext.mono _ _ hm).1
    cases hx2
    rw [hx1, hob]
  · exact st.ext.frame i hi fun m hm hmi => hx ⟨m, hm, hmi⟩
end
end Go.Ab
