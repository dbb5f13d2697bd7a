/-
  What the values of the evaluator are to those of the model; the operations that touch no memory.
  Own work for this claim; no condition.
-/
import Derived.AtR
import Derived.Defers
import Derived.Recover
import Derived.Laws.Sem
import Derived.Laws.StructEq
import GoSem.Dispatch
import Derived.Test.YtfedglfdlgjbjaaGreatDoorA1
set_option linter.unusedSectionVars false
set_option linter.unnecessarySimpa false
set_option linter.unusedVariables false
set_option linter.unusedSimpArgs false
namespace Go.Ab
theorem nbeq_t {a b : Nat} (h : a = b) : Nat.beq a b = true := by subst h; exact Nat.beq_refl a
theorem nbeq_f {a b : Nat} (h : a ≠ b) : Nat.beq a b = false := by
  cases e : Nat.beq a b with
  | false => rfl
  | true => exact absurd (Nat.eq_of_beq_eq_true e) h
-- the trees
section
variable {α β : Type}
theorem PT.getF_nil (k : Nat) : PT.getF (.nil : PT α) k = none := rfl
theorem PT.getF_node (l r : PT α) (v : Option α) (k : Nat) :
    PT.getF (.node l v r) k = if k = 1 then v else if k % 2 = 0 then PT.getF l (k / 2) else PT.getF r (k / 2) := by
  show (Bool.rec (Bool.rec (PT.getF r) (PT.getF l) (Nat.beq (Nat.mod k 2) 0) (Nat.div k 2)) v (Nat.beq k 1) : Option α) = _
  by_cases h : k = 1
  · subst h; rfl
  · have h1 : Nat.beq k 1 = false := nbeq_f h
    rw [h1, if_neg h]
    by_cases h2 : k % 2 = 0
    · have h3 : Nat.beq (Nat.mod k 2) 0 = true := nbeq_t h2
      rw [h3, if_pos h2]; rfl
    · have h3 : Nat.beq (Nat.mod k 2) 0 = false := nbeq_f h2
      rw [h3, if_neg h2]; rfl
theorem PT.sing_zero (x : Option α) (k : Nat) : PT.sing x 0 k = .nil := rfl
theorem PT.sing_succ (x : Option α) (d k : Nat) :
    PT.sing x (d + 1) k = if k = 1 then .node .nil x .nil else if k % 2 = 0 then .node (PT.sing x d (k / 2)) none .nil else .node .nil none (PT.sing x d (k / 2)) := by
  show (Bool.rec (Bool.rec (.node .nil none (PT.sing x d (Nat.div k 2))) (.node (PT.sing x d (Nat.div k 2)) none .nil) (Nat.beq (Nat.mod k 2) 0)) (.node .nil x .nil) (Nat.beq k 1) : PT α) = _
  by_cases h : k = 1
  · subst h; rfl
  · have h1 : Nat.beq k 1 = false := nbeq_f h
    rw [h1, if_neg h]
    by_cases h2 : k % 2 = 0
    · have h3 : Nat.beq (Nat.mod k 2) 0 = true := nbeq_t h2
      rw [h3, if_pos h2]; rfl
    · have h3 : Nat.beq (Nat.mod k 2) 0 = false := nbeq_f h2
      rw [h3, if_neg h2]; rfl
theorem PT.setF_node (x : Option α) (l r : PT α) (v : Option α) (k : Nat) (c : PT α → β) :
    PT.setF x (.node l v r) k c = if k = 1 then c (.node l x r) else if k % 2 = 0 then PT.setF x l (k / 2) (fun l => c (.node l v r)) else PT.setF x r (k / 2) (fun r => c (.node l v r)) := by
  show (Bool.rec (Bool.rec (PT.setF x r (Nat.div k 2) (fun r => c (.node l v r))) (PT.setF x l (Nat.div k 2) (fun l => c (.node l v r))) (Nat.beq (Nat.mod k 2) 0)) (c (.node l x r)) (Nat.beq k 1) : β) = _
  by_cases h : k = 1
  · subst h; rfl
  · have h1 : Nat.beq k 1 = false := nbeq_f h
    rw [h1, if_neg h]
    by_cases h2 : k % 2 = 0
    · have h3 : Nat.beq (Nat.mod k 2) 0 = true := nbeq_t h2
      rw [h3, if_pos h2]; rfl
    · have h3 : Nat.beq (Nat.mod k 2) 0 = false := nbeq_f h2
      rw [h3, if_neg h2]; rfl
theorem blt_t {a b : Nat} (h : a < b) : Nat.blt a b = true := by unfold Nat.blt; exact Nat.ble_eq_true_of_le h
theorem blt_f {a b : Nat} (h : ¬ a < b) : Nat.blt a b = false := by
  cases e : Nat.blt a b with
  | false => rfl
  | true => exact absurd (Nat.le_of_ble_eq_true e) h
theorem lt_of_blt {a b : Nat} (h : Nat.blt a b = true) : a < b := Nat.le_of_ble_eq_true h
/-- The tree with x at k. -/
noncomputable def PT.upd (x : Option α) (t : PT α) (k : Nat) : PT α := PT.setF x t k (fun t => t)
theorem PT.setF_eq (x : Option α) (t : PT α) : ∀ (k : Nat) (c : PT α → β), PT.setF x t k c = c (PT.upd x t k) := by
  induction t with
  | nil => intro k c; rfl
  | node l v r ihl ihr =>
    intro k c
    unfold PT.upd
    rw [PT.setF_node, PT.setF_node]
    split
    · rfl
    · split
      · rw [ihl, ihl' l]
      · rw [ihr, ihr' r]
where
  ihl' (l : PT α) {k : Nat} {c : PT α → PT α} : PT.setF x l k c = c (PT.upd x l k) := by
    induction l generalizing k c with
    | nil => rfl
    | node l v r ihl ihr =>
      unfold PT.upd
      rw [PT.setF_node, PT.setF_node]
      split
      · rfl
      · split
        · rw [ihl, @ihl (k / 2) (fun l => .node l v r)]
        · rw [ihr, @ihr (k / 2) (fun r => .node l v r)]
  ihr' (l : PT α) {k : Nat} {c : PT α → PT α} : PT.setF x l k c = c (PT.upd x l k) := ihl' l
theorem PT.upd_nil (x : Option α) (k : Nat) : PT.upd x (.nil : PT α) k = PT.sing x 48 k := rfl
theorem PT.upd_node (x : Option α) (l r : PT α) (v : Option α) (k : Nat) :
    PT.upd x (.node l v r) k = if k = 1 then .node l x r else if k % 2 = 0 then .node (PT.upd x l (k / 2)) v r else .node l v (PT.upd x r (k / 2)) := by
  unfold PT.upd
  rw [PT.setF_node]
  split
  · rfl
  · split
    · rw [PT.setF_eq]; rfl
    · rw [PT.setF_eq]; rfl
theorem PT.getF_sing (x : Option α) (d : Nat) : ∀ (k k' : Nat), 1 ≤ k → 1 ≤ k' → ∀ y, PT.getF (PT.sing x d k) k' = some y → k = k' ∧ x = some y := by
  induction d with
  | zero => intro k k' _ _ y h; simp [PT.sing_zero, PT.getF_nil] at h
  | succ d ih =>
    intro k k' hk hk' y h
    rw [PT.sing_succ] at h
    by_cases h1 : k = 1
    · rw [if_pos h1, PT.getF_node] at h
      by_cases h2 : k' = 1
      · rw [if_pos h2] at h; exact ⟨h1.trans h2.symm, h⟩
      · rw [if_neg h2] at h; split at h <;> simp [PT.getF_nil] at h
    · rw [if_neg h1] at h
      by_cases h2 : k % 2 = 0
      · rw [if_pos h2, PT.getF_node] at h
        by_cases h3 : k' = 1
        · rw [if_pos h3] at h; simp at h
        · rw [if_neg h3] at h
          by_cases h4 : k' % 2 = 0
          · rw [if_pos h4] at h
            obtain ⟨e, hx⟩ := ih _ _ (by omega) (by omega) y h
            exact ⟨by omega, hx⟩
          · rw [if_neg h4] at h; simp [PT.getF_nil] at h
      · rw [if_neg h2, PT.getF_node] at h
        by_cases h3 : k' = 1
        · rw [if_pos h3] at h; simp at h
        · rw [if_neg h3] at h
          by_cases h4 : k' % 2 = 0
          · rw [if_pos h4] at h; simp [PT.getF_nil] at h
          · rw [if_neg h4] at h
            obtain ⟨e, hx⟩ := ih _ _ (by omega) (by omega) y h
            exact ⟨by omega, hx⟩
theorem PT.getF_upd_ne (x : Option α) (t : PT α) : ∀ (k k' : Nat), 1 ≤ k → 1 ≤ k' → k ≠ k' → PT.getF (PT.upd x t k) k' = PT.getF t k' := by
  induction t with
  | nil =>
    intro k k' hk hk' hne
    rw [PT.upd_nil, PT.getF_nil]
    cases h : PT.getF (PT.sing x 48 k) k' with
    | none => rfl
    | some y => exact absurd (PT.getF_sing x 48 k k' hk hk' y h).1 hne
  | node l v r ihl ihr =>
    intro k k' hk hk' hne
    rw [PT.upd_node, PT.getF_node]
    by_cases h1 : k = 1
    · have h0 : ¬ k' = 1 := fun e => hne (h1.trans e.symm)
      rw [if_pos h1, PT.getF_node, if_neg h0, if_neg h0]
    · rw [if_neg h1]
      by_cases h2 : k % 2 = 0
      · rw [if_pos h2, PT.getF_node]
        by_cases h3 : k' = 1
        · rw [if_pos h3, if_pos h3]
        · rw [if_neg h3, if_neg h3]
          by_cases h4 : k' % 2 = 0
          · rw [if_pos h4, if_pos h4]; exact ihl _ _ (by omega) (by omega) (by omega)
          · rw [if_neg h4, if_neg h4]
      · rw [if_neg h2, PT.getF_node]
        by_cases h3 : k' = 1
        · rw [if_pos h3, if_pos h3]
        · rw [if_neg h3, if_neg h3]
          by_cases h4 : k' % 2 = 0
          · rw [if_pos h4, if_pos h4]
          · rw [if_neg h4, if_neg h4]; exact ihr _ _ (by omega) (by omega) (by omega)
theorem PT.getF_upd_eq (x : Option α) (t : PT α) : ∀ (k : Nat), 1 ≤ k → ∀ y, PT.getF (PT.upd x t k) k = some y → x = some y := by
  induction t with
  | nil => intro k hk y h; rw [PT.upd_nil] at h; exact (PT.getF_sing x 48 k k hk hk y h).2
  | node l v r ihl ihr =>
    intro k hk y h
    rw [PT.upd_node] at h
    by_cases h1 : k = 1
    · rw [if_pos h1, PT.getF_node, if_pos h1] at h; exact h
    · rw [if_neg h1] at h
      by_cases h2 : k % 2 = 0
      · rw [if_pos h2, PT.getF_node, if_neg h1, if_pos h2] at h; exact ihl _ (by omega) y h
      · rw [if_neg h2, PT.getF_node, if_neg h1, if_neg h2] at h; exact ihr _ (by omega) y h

theorem PT.getF_sing_eq (x : Option α) (d : Nat) : ∀ (k : Nat), 1 ≤ k → k < 2 ^ d → PT.getF (PT.sing x d k) k = x := by
  induction d with
  | zero => intro k h1 h2; simp at h2; omega
  | succ d ih =>
    intro k hk hd
    rw [PT.sing_succ]
    by_cases h1 : k = 1
    · rw [if_pos h1, PT.getF_node, if_pos h1]
    · rw [if_neg h1]
      have hd' : k / 2 < 2 ^ d := by rw [Nat.pow_succ] at hd; omega
      by_cases h2 : k % 2 = 0
      · rw [if_pos h2, PT.getF_node, if_neg h1, if_pos h2]; exact ih _ (by omega) hd'
      · rw [if_neg h2, PT.getF_node, if_neg h1, if_neg h2]; exact ih _ (by omega) hd'
theorem PT.getF_upd_eq2 (x : Option α) (t : PT α) : ∀ (k : Nat), 1 ≤ k → k < 2 ^ 48 → PT.getF (PT.upd x t k) k = x := by
  induction t with
  | nil => intro k hk h; rw [PT.upd_nil]; exact PT.getF_sing_eq x 48 k hk h
  | node l v r ihl ihr =>
    intro k hk h
    rw [PT.upd_node]
    by_cases h1 : k = 1
    · rw [if_pos h1, PT.getF_node, if_pos h1]
    · rw [if_neg h1]
      by_cases h2 : k % 2 = 0
      · rw [if_pos h2, PT.getF_node, if_neg h1, if_pos h2]; exact ihl _ (by omega) (by omega)
      · rw [if_neg h2, PT.getF_node, if_neg h1, if_neg h2]; exact ihr _ (by omega) (by omega)
theorem PT.get_set (t : PT α) {k : Nat} (v : α) (h : k < 1073741824) : (t.set k v).get k = some v := by
  unfold PT.set PT.setK PT.get
  rw [PT.setF_eq]
  exact PT.getF_upd_eq2 _ _ _ (by omega) (by omega)

theorem PT.set_ne (t : PT α) {k k' : Nat} (v : α) (h : k ≠ k') : (t.set k v).get k' = t.get k' := by
  unfold PT.set PT.setK PT.get
  rw [PT.setF_eq]
  exact PT.getF_upd_ne _ _ _ _ (by omega) (by omega) (by omega)
theorem PT.set_eq (t : PT α) {k : Nat} (v : α) {y : α} (h : (t.set k v).get k = some y) : y = v := by
  unfold PT.set PT.setK PT.get at h
  rw [PT.setF_eq] at h
  have := PT.getF_upd_eq _ _ _ (by omega) y h
  simpa using this.symm
theorem PT.del_ne (t : PT α) {k k' : Nat} (h : k ≠ k') : (t.del k).get k' = t.get k' := by
  unfold PT.del PT.setK PT.get
  rw [PT.setF_eq]
  exact PT.getF_upd_ne _ _ _ _ (by omega) (by omega) (by omega)
theorem PT.del_eq (t : PT α) (k : Nat) : (t.del k).get k = none := by
  cases h : (t.del k).get k with
  | none => rfl
  | some y =>
    unfold PT.del PT.setK PT.get at h
    rw [PT.setF_eq] at h
    have := PT.getF_upd_eq _ _ _ (by omega) y h
    simp at this
theorem PT.get_nil (k : Nat) : (PT.nil : PT α).get k = none := rfl
end

-- the abstract heap
theorem H.get_lt {h : H} {n : Nat} {o : AO} (e : h.get n = some o) : n < h.next := by
  unfold H.get at e
  split at e
  · rename_i hb; exact lt_of_blt hb
  · simp at e
theorem H.get_ge {h : H} {n : Nat} (e : h.next ≤ n) : h.get n = none := by
  cases hg : h.get n with
  | none => rfl
  | some o => have := H.get_lt hg; omega
theorem H.put_next (h : H) (n : Nat) (o : AO) : (h.put n o).next = h.next := by
  unfold H.put PT.setK; rw [PT.setF_eq]
theorem H.new_next (h : H) (o : AO) : (h.new o).next = h.next + 1 := by
  unfold H.new PT.setK; rw [PT.setF_eq]
theorem H.put_ne (h : H) {n m : Nat} (o : AO) (hne : n ≠ m) : (h.put n o).get m = h.get m := by
  unfold H.put PT.setK; rw [PT.setF_eq]; unfold H.get PT.get
  rw [PT.getF_upd_ne _ _ _ _ (by omega) (by omega) (by omega)]
theorem H.put_eq (h : H) {n : Nat} (o : AO) {o' : AO} (e : (h.put n o).get n = some o') : o' = o := by
  unfold H.put PT.setK at e; rw [PT.setF_eq] at e; unfold H.get PT.get at e
  split at e
  · have := PT.getF_upd_eq _ _ _ (by omega) _ e; simpa using this.symm
  · simp at e
theorem H.new_ne (h : H) {m : Nat} (o : AO) (hne : m ≠ h.next) : (h.new o).get m = h.get m := by
  unfold H.new PT.setK; rw [PT.setF_eq]; unfold H.get PT.get
  rw [PT.getF_upd_ne _ _ _ _ (by omega) (by omega) (by omega)]
  by_cases hlt : m < h.next
  · have h1 : Nat.blt m (h.next + 1) = true := blt_t (by omega)
    have h2 : Nat.blt m h.next = true := blt_t hlt
    simp only [h1, h2]
  · have h1 : Nat.blt m (h.next + 1) = false := blt_f (by omega)
    have h2 : Nat.blt m h.next = false := blt_f hlt
    simp only [h1, h2]
theorem H.new_eq (h : H) (o : AO) {o' : AO} (e : (h.new o).get h.next = some o') : o' = o := by
  unfold H.new PT.setK at e; rw [PT.setF_eq] at e; unfold H.get PT.get at e
  split at e
  · have := PT.getF_upd_eq _ _ _ (by omega) _ e; simpa using this.symm
  · simp at e
end Go.Ab

namespace Go.Ab

/-- Where a name's block lies. -/
structure Ren where
  f : Nat → Option Nat
  /-- How many elements the row has room for. -/
  k : Nat → Nat
instance : CoeFun Ren (fun _ => Nat → Option Nat) := ⟨Ren.f⟩
def Ren.le (ρ ρ' : Ren) : Prop := ∀ n c, ρ n = some c → ρ' n = some c ∧ ρ'.k n = ρ.k n
theorem Ren.le.refl (ρ : Ren) : ρ.le ρ := fun _ _ h => ⟨h, rfl⟩
theorem Ren.le.trans {a b c : Ren} (h : a.le b) (h' : b.le c) : a.le c := fun n x e => ⟨(h' n x (h n x e).1).1, (h' n x (h n x e).1).2.trans (h n x e).2⟩

mutual
inductive VRel (ρ : Ren) : AV → Value → Prop
  | bool (b : Bool) : VRel ρ (.bool b) (.bool b)
  | int (k : IntKind) (n : Int) : VRel ρ (.int k n) (.int k n)
  | str (s : ByteArray) (l : List Nat) : s.data.toList.map UInt8.toNat = l → VRel ρ (.str l) (.string s)
  | nilPtr : VRel ρ .nilPtr (.pointer none)
  | ptr (b off c : Nat) : ρ b = some c → VRel ρ (.ptr b off) (.pointer (some ⟨c, off, none⟩))
  | nilSl : VRel ρ .nilSl (.slice none 0 0)
  | sl (b off len : Nat) (cap : Option Nat) (a : Addr) (cap' : Nat) : len ≤ cap' → (∀ c, cap = some c → cap' = c) →
      (cap' = 0 ∨ ∃ c, ρ b = some c ∧ a = ⟨c, off, none⟩) → (cap = none → cap' ≤ ρ.k b ∧ ∃ c, ρ b = some c) → VRel ρ (.sl b off len cap) (.slice (some a) len cap')
  | nilMap : VRel ρ .nilMap (.map none)
  | map (r c : Nat) : ρ r = some c → VRel ρ (.map r) (.map (some c))
  | func (fn : Fn) (a b : List AV) (a' b' : Array Value) : (∀ l, fn ≠ .yield l) → VRels ρ a a'.toList → VRels ρ b b'.toList → VRel ρ (.func fn a b) (.func fn a' b')
  | yld (l c : Nat) : ρ l = some c → VRel ρ (.yld l) (.func (.yield c) #[] #[])
  | nilFunc : VRel ρ .nilFunc .nilFunc
  | iface (t : TypeId) (v : AV) (v' : Value) : VRel ρ v v' → VRel ρ (.iface t v) (.iface t v')
  | nilIface : VRel ρ .nilIface .nilIface
  | agg (cs : List AV) (cs' : Array Value) : VRels ρ cs cs'.toList → VRel ρ (.agg cs) (.agg cs')
  | tuple (vs : List AV) (vs' : Array Value) : VRels ρ vs vs'.toList → VRel ρ (.tuple vs) (.tuple vs')
inductive VRels (ρ : Ren) : List AV → List Value → Prop
  | nil : VRels ρ [] []
  | cons (v : AV) (v' : Value) (vs : List AV) (vs' : List Value) : VRel ρ v v' → VRels ρ vs vs' → VRels ρ (v :: vs) (v' :: vs')
end

mutual
theorem VRel.mono {ρ ρ' : Ren} (hρ : ρ.le ρ') : ∀ {v : AV} {v' : Value}, VRel ρ v v' → VRel ρ' v v'
  | _, _, .bool b => .bool b
  | _, _, .int k n => .int k n
  | _, _, .str s l h => .str s l h
  | _, _, .nilPtr => .nilPtr
  | _, _, .ptr b off c h => .ptr b off c (hρ _ _ h).1
  | _, _, .nilSl => .nilSl
  | _, _, .sl b off len cap a cap' h1 h2 h3 h4 => .sl b off len cap a cap' h1 h2 (h3.imp id fun ⟨c, hc, e⟩ => ⟨c, (hρ _ _ hc).1, e⟩) (fun e => by
      obtain ⟨g1, c, g2⟩ := h4 e
      exact ⟨by rw [(hρ _ _ g2).2]; exact g1, c, (hρ _ _ g2).1⟩)
  | _, _, .nilMap => .nilMap
  | _, _, .map r c h => .map r c (hρ _ _ h).1
  | _, _, .func fn a b a' b' h1 h2 h3 => .func fn a b a' b' h1 (VRels.mono hρ h2) (VRels.mono hρ h3)
  | _, _, .yld l c h => .yld l c (hρ _ _ h).1
  | _, _, .nilFunc => .nilFunc
  | _, _, .iface t v v' h => .iface t v v' (VRel.mono hρ h)
  | _, _, .nilIface => .nilIface
  | _, _, .agg cs cs' h => .agg cs cs' (VRels.mono hρ h)
  | _, _, .tuple cs cs' h => .tuple cs cs' (VRels.mono hρ h)
theorem VRels.mono {ρ ρ' : Ren} (hρ : ρ.le ρ') : ∀ {vs : List AV} {vs' : List Value}, VRels ρ vs vs' → VRels ρ' vs vs'
  | _, _, .nil => .nil
  | _, _, .cons _ _ _ _ h hs => .cons _ _ _ _ (VRel.mono hρ h) (VRels.mono hρ hs)
end

theorem VRels.length {ρ : Ren} : ∀ {vs : List AV} {vs' : List Value}, VRels ρ vs vs' → vs.length = vs'.length
  | _, _, .nil => rfl
  | _, _, .cons _ _ _ _ _ hs => congrArg (· + 1) hs.length
theorem VRels.get {ρ : Ren} : ∀ {vs : List AV} {vs' : List Value}, VRels ρ vs vs' → ∀ (i : Nat) (v : AV), vs[i]? = some v → ∃ v', vs'[i]? = some v' ∧ VRel ρ v v'
  | _, _, .nil, i, v, h => by simp at h
  | _, _, .cons a a' _ _ h hs, 0, v, e => by simp at e; subst e; exact ⟨a', rfl, h⟩
  | _, _, .cons _ _ _ _ _ hs, i + 1, v, e => by simp at e; simpa using hs.get i v e
theorem VRels.append {ρ : Ren} : ∀ {vs : List AV} {vs' : List Value} {us : List AV} {us' : List Value}, VRels ρ vs vs' → VRels ρ us us' → VRels ρ (vs ++ us) (vs' ++ us')
  | _, _, _, _, .nil, h => h
  | _, _, _, _, .cons _ _ _ _ h hs, h' => .cons _ _ _ _ h (hs.append h')
theorem VRels.drop {ρ : Ren} : ∀ (n : Nat) {vs : List AV} {vs' : List Value}, VRels ρ vs vs' → VRels ρ (vs.drop n) (vs'.drop n)
  | 0, _, _, h => by simpa using h
  | n + 1, _, _, .nil => by simpa using .nil
  | n + 1, _, _, .cons _ _ _ _ _ hs => by simpa using hs.drop n
theorem VRels.take {ρ : Ren} : ∀ (n : Nat) {vs : List AV} {vs' : List Value}, VRels ρ vs vs' → VRels ρ (vs.take n) (vs'.take n)
  | 0, _, _, _ => by simpa using .nil
  | n + 1, _, _, .nil => by simpa using .nil
  | n + 1, _, _, .cons _ _ _ _ h hs => by simpa using .cons _ _ _ _ h (hs.take n)
theorem VRels.of_get {ρ : Ren} : ∀ {vs : List AV} {vs' : List Value}, vs.length = vs'.length → (∀ (i : Nat) (v : AV), vs[i]? = some v → ∃ v', vs'[i]? = some v' ∧ VRel ρ v v') → VRels ρ vs vs'
  | [], [], _, _ => .nil
  | v :: vs, v' :: vs', hl, h => by
    obtain ⟨u, e, hu⟩ := h 0 v rfl
    simp at e; subst e
    refine .cons _ _ _ _ hu (VRels.of_get (by simpa using hl) fun i x hx => ?_)
    simpa using h (i + 1) x (by simpa using hx)

/-- An aggregate's cells. -/
theorem VRel.cells {ρ : Ren} {v : AV} {v' : Value} (h : VRel ρ v v') : VRels ρ v.cells v'.cells.toList := by
  cases h with
  | agg cs cs' h => exact h
  | bool b => exact .cons _ _ _ _ (.bool b) .nil
  | int k n => exact .cons _ _ _ _ (.int k n) .nil
  | str s l h => exact .cons _ _ _ _ (.str s l h) .nil
  | nilPtr => exact .cons _ _ _ _ .nilPtr .nil
  | ptr b off c h => exact .cons _ _ _ _ (.ptr b off c h) .nil
  | nilSl => exact .cons _ _ _ _ .nilSl .nil
  | sl b off len cap a cap' h1 h2 h3 h4 => exact .cons _ _ _ _ (.sl b off len cap a cap' h1 h2 h3 h4) .nil
  | nilMap => exact .cons _ _ _ _ .nilMap .nil
  | map r c h => exact .cons _ _ _ _ (.map r c h) .nil
  | func fn a b a' b' h1 h2 h3 => exact .cons _ _ _ _ (.func fn a b a' b' h1 h2 h3) .nil
  | yld l c h => exact .cons _ _ _ _ (.yld l c h) .nil
  | nilFunc => exact .cons _ _ _ _ .nilFunc .nil
  | iface t v v' h => exact .cons _ _ _ _ (.iface t v v' h) .nil
  | nilIface => exact .cons _ _ _ _ .nilIface .nil
  | tuple vs vs' h => exact .cons _ _ _ _ (.tuple vs vs' h) .nil

/-- A frame. -/
structure FRel (ρ : Ren) (nt : Nat) (tm : PT AV) (tmps : Array Value) : Prop where
  size : nt ≤ tmps.size
  get : ∀ t v, tm.get t = some v → ∃ v', tmps[t]? = some v' ∧ VRel ρ v v'
theorem FRel.mono {ρ ρ' : Ren} (hρ : ρ.le ρ') {nt : Nat} {tm : PT AV} {tmps : Array Value} (h : FRel ρ nt tm tmps) : FRel ρ' nt tm tmps :=
  ⟨h.size, fun t v e => let ⟨v', e', hv⟩ := h.get t v e; ⟨v', e', hv.mono hρ⟩⟩
theorem FRel.set {ρ : Ren} {nt : Nat} {tm : PT AV} {tmps : Array Value} (h : FRel ρ nt tm tmps) {d : Nat} (hd : d < nt) {v : AV} {v' : Value} (hv : VRel ρ v v') :
    FRel ρ nt (tm.set d v) (tmps.setIfInBounds d v') := by
  refine ⟨by simpa using h.size, fun t u e => ?_⟩
  have hs := h.size
  by_cases ht : d = t
  · subst ht
    have := PT.set_eq _ _ e
    subst this
    exact ⟨v', by simp [show d < tmps.size from by omega], hv⟩
  · rw [PT.set_ne _ _ ht] at e
    obtain ⟨u', e', hu⟩ := h.get t u e
    exact ⟨u', by rw [Array.getElem?_setIfInBounds]; simp [ht, e'], hu⟩
theorem FRel.del {ρ : Ren} {nt : Nat} {tm : PT AV} {tmps : Array Value} (h : FRel ρ nt tm tmps) (d : Nat) : FRel ρ nt (tm.del d) tmps := by
  refine ⟨h.size, fun t u e => ?_⟩
  by_cases ht : d = t
  · subst ht; rw [PT.del_eq] at e; simp at e
  · rw [PT.del_ne _ ht] at e; exact h.get t u e

/-- No cell of a row of n cells is frozen. -/
def NoFz (fz : Nat × Nat) (n : Nat) : Prop := fz.1 = fz.2 ∨ n ≤ fz.1

inductive ERels (ρ : Ren) : List (AV × AV × Nat) → List MapEntry → Prop
  | nil : ERels ρ [] []
  | cons (k v : AV) (b : Nat) (k' v' : Value) (es : List (AV × AV × Nat)) (es' : List MapEntry) : VRel ρ k k' → VRel ρ v v' → ERels ρ es es' →
      ERels ρ ((k, v, b) :: es) (⟨k', v', b⟩ :: es')
theorem ERels.mono {ρ ρ' : Ren} (hρ : ρ.le ρ') : ∀ {es : List (AV × AV × Nat)} {es' : List MapEntry}, ERels ρ es es' → ERels ρ' es es'
  | _, _, .nil => .nil
  | _, _, .cons _ _ _ _ _ _ _ h1 h2 hs => .cons _ _ _ _ _ _ _ (h1.mono hρ) (h2.mono hρ) (hs.mono hρ)

inductive ORel (ρ : Ren) : AO → Obj → Prop
  | row (e n : Nat) (ex ro : Bool) (z : List AV) (t : PT AV) (c : Array Value) (fz : Nat × Nat) : (ex = true → c.size = n) → n ≤ c.size →
      (∀ i v, cellAt n z t i = some v → ∃ v', c[i]? = some v' ∧ VRel ρ v v') → (ro = false → NoFz fz c.size) → ORel ρ (.row e n ex ro z t) (.cells c e fz)
  | map (es : List (AV × AV × Nat)) (clock : Nat) (es' : Array MapEntry) : ERels ρ es es'.toList → ORel ρ (.map es clock) (.map es' clock)
  | siter (l : List Nat) (s : ByteArray) (pos : Nat) : s.data.toList.map UInt8.toNat = l → ORel ρ (.siter l pos) (.stringIter s pos)
  | miter0 (since : Nat) (seen : List Nat) (st : Nat) (seen' : Array Nat) : ORel ρ (.miter none since seen st) (.mapIter none since seen' st)
  | miter (m c since : Nat) (seen : List Nat) (st : Nat) (seen' : Array Nat) : ρ m = some c → seen'.toList = seen → ORel ρ (.miter (some m) since seen st) (.mapIter (some c) since seen' st)
  | loop (st : LoopState) (pe : Option Code) (nt : Nat) (tm : PT AV) (ps : List Tmp) (asg bd : Code) (d : Nat) (fn : FuncId) (tmps : Array Value) (ps' : Array Tmp) (d' : Nat) :
      FRel ρ nt tm tmps → ps'.toList = ps → ρ d = some d' → ORel ρ (.loop st pe nt tm ps asg bd d) (.loop ⟨st, pe, fn, tmps, ps', asg, bd, d'⟩)
  | dfr (o : Bool) : ORel ρ (.dfr o) (.deferred (if o then some [] else none))
  | fixed (ob : Obj) : ORel ρ (.fixed ob) ob
theorem ORel.mono {ρ ρ' : Ren} (hρ : ρ.le ρ') {a : AO} {o : Obj} (h : ORel ρ a o) : ORel ρ' a o := by
  cases h with
  | row e n ex ro z t c fz h1 h2 h3 h4 => exact .row e n ex ro z t c fz h1 h2 (fun i v hv => let ⟨v', e', hr⟩ := h3 i v hv; ⟨v', e', hr.mono hρ⟩) h4
  | map es clock es' h => exact .map es clock es' (h.mono hρ)
  | siter l s pos h => exact .siter l s pos h
  | miter0 since seen st seen' => exact .miter0 since seen st seen'
  | miter m c since seen st seen' h1 h2 => exact .miter m c since seen st seen' (hρ _ _ h1).1 h2
  | loop st pe nt tm ps asg bd d fn tmps ps' d' h1 h2 h3 => exact .loop st pe nt tm ps asg bd d fn tmps ps' d' (h1.mono hρ) h2 (hρ _ _ h3).1
  | dfr o => exact .dfr o
  | fixed _ => exact .fixed _

/-- Is the name's block one that is there? -/
def Alive (h : H) (n : Nat) : Prop := ∃ o, h.get n = some o ∧ o ≠ .dead

/-- Memory, as far as it is named. -/
structure HRel (P : Program) (ρ : Ren) (h : H) (w : World) : Prop where
  obj : ∀ n o c, h.get n = some o → o ≠ .dead → ρ n = some c → ∃ ob, w.heap[c]? = some ob ∧ ORel ρ o ob
  inj : ∀ n m c, Alive h n → Alive h m → ρ n = some c → ρ m = some c → n = m
  glob : ∀ g, g < P.globals.size → ρ g = some g
  bound : ∀ n c, ρ n = some c → c < w.heap.size
  room : ∀ n e m ro z t c cs e' fz, h.get n = some (.row e m false ro z t) → ρ n = some c → w.heap[c]? = some (.cells cs e' fz) → ρ.k n * P.cellsOf e ≤ cs.size

/-- From (ρ, h, w) to (ρ', h', w'). -/
structure Ext (ρ ρ' : Ren) (h h' : H) (w w' : World) : Prop where
  mono : ρ.le ρ'
  fresh : ∀ n c, ρ n = none → ρ' n = some c → h.next ≤ n ∧ n < h'.next ∧ (w.heap.size ≤ c ∨ ∃ m, Alive h m ∧ ρ m = some c)
  frame : ∀ c, c < w.heap.size → (∀ m, Alive h m → ρ m ≠ some c) → w'.heap[c]? = w.heap[c]?
  grow : w.heap.size ≤ w'.heap.size
  aframe : ∀ n, n < h.next → ρ n = none → h'.get n = h.get n
  anext : h.next ≤ h'.next
  /-- whose block comes alive anew is new -/
  alive : ∀ n, n < h.next → Alive h' n → Alive h n
  os : w'.os = w.os
  tape : w'.tape = w.tape
  output : w'.output = w.output

theorem Ext.refl (ρ : Ren) (h : H) (w : World) : Ext ρ ρ h h w w where
  mono := Ren.le.refl ρ
  fresh n c e e' := by rw [e] at e'; cases e'
  frame _ _ _ := rfl
  grow := Nat.le_refl _
  aframe _ _ _ := rfl
  anext := Nat.le_refl _
  alive _ _ a := a
  os := rfl
  tape := rfl
  output := rfl

/-- No name of those to come is taken. -/
def Free (ρ : Ren) (h h' : H) : Prop := ∀ n, h.next ≤ n → n < h'.next → ρ n = none
theorem Free.mono {ρ : Ren} {h h' h'' : H} (f : Free ρ h h'') (le : h'.next ≤ h''.next) : Free ρ h h' := fun n a b => f n a (Nat.lt_of_lt_of_le b le)
theorem Free.step {ρ ρ' : Ren} {h h' h'' : H} {w w' : World} (f : Free ρ h h'') (e : Ext ρ ρ' h h' w w') : Free ρ' h' h'' := by
  intro n a b
  have h0 := f n (Nat.le_trans e.anext a) b
  cases hn : ρ' n with
  | none => rfl
  | some c => have := (e.fresh n c h0 hn).2.1; omega
theorem Alive.lt {h : H} {n : Nat} (a : Alive h n) : n < h.next := let ⟨_, e, _⟩ := a; H.get_lt e

theorem Ext.trans {ρ ρ' ρ'' : Ren} {h h' h'' : H} {w w' w'' : World} (f : Free ρ h h')
    (a : Ext ρ ρ' h h' w w') (b : Ext ρ' ρ'' h' h'' w' w'') : Ext ρ ρ'' h h'' w w'' where
  mono := a.mono.trans b.mono
  fresh n c e e'' := by
    cases e' : ρ' n with
    | some d =>
      have := (b.mono n d e').1
      rw [e''] at this; cases this
      obtain ⟨h1, h2, h3⟩ := a.fresh n _ e e'
      exact ⟨h1, Nat.lt_of_lt_of_le h2 b.anext, h3⟩
    | none =>
      obtain ⟨h1, h2, h3⟩ := b.fresh n c e' e''
      refine ⟨Nat.le_trans a.anext h1, h2, ?_⟩
      rcases h3 with h3 | ⟨m, hm, hmc⟩
      · exact .inl (Nat.le_trans a.grow h3)
      · cases em : ρ m with
        | some d =>
          have := (a.mono m d em).1
          rw [hmc] at this; cases this
          by_cases hlt : m < h.next
          · exact .inr ⟨m, a.alive m hlt hm, em⟩
          · have := f m (by omega) hm.lt
            rw [em] at this; cases this
        | none => exact (a.fresh m c em hmc).2.2
  frame c hc hn := by
    refine (b.frame c (Nat.lt_of_lt_of_le hc a.grow) fun m hm hmc => ?_).trans (a.frame c hc hn)
    cases em : ρ m with
    | some d =>
      have := (a.mono m d em).1
      rw [hmc] at this; cases this
      by_cases hlt : m < h.next
      · exact hn m (a.alive m hlt hm) em
      · have := f m (by omega) hm.lt
        rw [em] at this; cases this
    | none =>
      rcases (a.fresh m c em hmc).2.2 with h3 | ⟨k, hk, hkc⟩
      · omega
      · exact hn k hk hkc
  grow := Nat.le_trans a.grow b.grow
  aframe n hn e := by
    have e' : ρ' n = none := by
      cases e' : ρ' n with
      | none => rfl
      | some d => have := (a.fresh n d e e').1; omega
    exact (b.aframe n (Nat.lt_of_lt_of_le hn a.anext) e').trans (a.aframe n hn e)
  anext := Nat.le_trans a.anext b.anext
  alive n hn al := a.alive n hn (b.alive n (Nat.lt_of_lt_of_le hn a.anext) al)
  os := b.os.trans a.os
  tape := b.tape.trans a.tape
  output := b.output.trans a.output

/-- A step, and memory named behind it. -/
structure Stp (P : Program) (ρ ρ' : Ren) (h h' : H) (w w' : World) : Prop where
  ext : Ext ρ ρ' h h' w w'
  rel : HRel P ρ' h' w'
theorem Stp.refl {P : Program} {ρ : Ren} {h : H} {w : World} (r : HRel P ρ h w) : Stp P ρ ρ h h w w := ⟨.refl _ _ _, r⟩
theorem Stp.trans {P : Program} {ρ ρ' ρ'' : Ren} {h h' h'' : H} {w w' w'' : World} (f : Free ρ h h') (a : Stp P ρ ρ' h h' w w') (b : Stp P ρ' ρ'' h' h'' w' w'') :
    Stp P ρ ρ'' h h'' w w'' := ⟨a.ext.trans f b.ext, b.rel⟩

/-- The world drew, or nothing befell it. -/
theorem HRel.of_heap {P : Program} {ρ : Ren} {h : H} {w w' : World} (r : HRel P ρ h w) (e : w'.heap = w.heap) : HRel P ρ h w' :=
  ⟨fun n o c a b d => (by rw [e]; exact r.obj n o c a b d), r.inj, r.glob, fun n c a => (by rw [e]; exact r.bound n c a), fun n el m ro z t c cs e' fz a b d => r.room n el m ro z t c cs e' fz a b (by rw [← e]; exact d)⟩
theorem Stp.of_heap {P : Program} {ρ : Ren} {h : H} {w w' : World} (r : HRel P ρ h w) (e : w'.heap = w.heap) (e1 : w'.os = w.os) (e2 : w'.tape = w.tape) (e3 : w'.output = w.output) : Stp P ρ ρ h h w w' :=
  ⟨⟨Ren.le.refl ρ, fun n c a b => (by rw [a] at b; cases b), fun c _ _ => (by rw [e]), (by rw [e]; exact Nat.le_refl _), fun _ _ _ => rfl, Nat.le_refl _, fun _ _ a => a, e1, e2, e3⟩, r.of_heap e⟩

/-- One name more. -/
def Ren.add (ρ : Ren) (n c k : Nat) : Ren := ⟨fun m => if m = n then some c else ρ m, fun m => if m = n then k else ρ.k m⟩
theorem Ren.add_eq (ρ : Ren) (n c k : Nat) : ρ.add n c k n = some c := by simp [Ren.add]
theorem Ren.add_ne (ρ : Ren) {n m : Nat} (c k : Nat) (h : m ≠ n) : ρ.add n c k m = ρ m := by simp [Ren.add, h]
theorem Ren.add_k (ρ : Ren) (n c k : Nat) : (ρ.add n c k).k n = k := by simp [Ren.add]
theorem Ren.add_kne (ρ : Ren) {n m : Nat} (c k : Nat) (h : m ≠ n) : (ρ.add n c k).k m = ρ.k m := by simp [Ren.add, h]
theorem Ren.add_mono {ρ : Ren} {n c k : Nat} (hn : ρ n = none) : ρ.le (ρ.add n c k) := by
  intro m d e
  by_cases hm : m = n
  · subst hm; rw [hn] at e; cases e
  · rw [Ren.add_ne _ _ _ hm, Ren.add_kne _ _ _ hm]; exact ⟨e, rfl⟩

theorem Alive.new {h : H} {o : AO} {n : Nat} (a : Alive (h.new o) n) : n = h.next ∨ Alive h n := by
  by_cases hn : n = h.next
  · exact .inl hn
  · obtain ⟨x, e, hx⟩ := a
    rw [H.new_ne _ _ hn] at e
    exact .inr ⟨x, e, hx⟩

/-- A new block. -/
theorem Stp.new {P : Program} {ρ : Ren} {h : H} {w w' : World} {o : AO} {ob : Obj} {k : Nat} (r : HRel P ρ h w) (hρ : ρ h.next = none)
    (ho : ORel (ρ.add h.next w.heap.size k) o ob) (e : w'.heap = w.heap.push ob) (e1 : w'.os = w.os) (e2 : w'.tape = w.tape) (e3 : w'.output = w.output)
    (hk : ∀ e m ro z t, o = .row e m false ro z t → ∀ cs e' fz, ob = .cells cs e' fz → k * P.cellsOf e ≤ cs.size := by intro _ _ _ _ _ h; cases h) :
    Stp P ρ (ρ.add h.next w.heap.size k) h (h.new o) w w' := by
  have hm := Ren.add_mono (c := w.heap.size) (k := k) hρ
  have hR := r.bound
  refine ⟨⟨hm, ?_, ?_, ?_, ?_, ?_, ?_, e1, e2, e3⟩, ?_, ?_, ?_, ?_, ?_⟩
  · intro n c a b
    by_cases hn : n = h.next
    · subst hn; rw [Ren.add_eq] at b; cases b
      exact ⟨Nat.le_refl _, by rw [H.new_next]; omega, .inl (Nat.le_refl _)⟩
    · rw [Ren.add_ne _ _ _ hn, a] at b; cases b
  · intro c hc _; rw [e, Array.getElem?_push, if_neg (by omega)]
  · rw [e]; simp
  · intro n hn _; exact H.new_ne _ _ (by omega)
  · rw [H.new_next]; omega
  · intro n hn a; exact a.new.resolve_left (by omega)
  · intro n x c a b d
    by_cases hn : n = h.next
    · subst hn
      have := H.new_eq _ _ a
      subst this
      rw [Ren.add_eq] at d; cases d
      exact ⟨ob, by rw [e]; simp, ho⟩
    · rw [H.new_ne _ _ hn] at a
      rw [Ren.add_ne _ _ _ hn] at d
      obtain ⟨y, hy, hr⟩ := r.obj n x c a b d
      have := hR n c d
      exact ⟨y, by rw [e, Array.getElem?_push, if_neg (by omega)]; exact hy, hr.mono hm⟩
  · intro n m c a b d d'
    by_cases hn : n = h.next
    · by_cases hm' : m = h.next
      · rw [hn, hm']
      · subst hn
        rw [Ren.add_eq] at d; cases d
        rw [Ren.add_ne _ _ _ hm'] at d'
        have := hR _ _ d'; omega
    · by_cases hm' : m = h.next
      · subst hm'
        rw [Ren.add_eq] at d'; cases d'
        rw [Ren.add_ne _ _ _ hn] at d
        have := hR _ _ d; omega
      · rw [Ren.add_ne _ _ _ hn] at d
        rw [Ren.add_ne _ _ _ hm'] at d'
        exact r.inj n m c (a.new.resolve_left hn) (b.new.resolve_left hm') d d'
  · intro g hg; exact (hm _ _ (r.glob g hg)).1
  · intro n c a
    by_cases hn : n = h.next
    · subst hn; rw [Ren.add_eq] at a; cases a; rw [e]; simp
    · rw [Ren.add_ne _ _ _ hn] at a; have := hR n c a; rw [e]; simp; omega
  · intro n el m ro z t c cs e' fz a b d
    by_cases hn : n = h.next
    · subst hn
      have := H.new_eq _ _ a
      rw [Ren.add_eq] at b; cases b
      rw [e] at d
      simp at d
      rw [Ren.add_k]
      exact hk el m ro z t this.symm cs e' fz d
    · rw [H.new_ne _ _ hn] at a
      rw [Ren.add_ne _ _ _ hn] at b
      rw [Ren.add_kne _ _ _ hn]
      have := hR n c b
      rw [e, Array.getElem?_push, if_neg (by omega)] at d
      exact r.room n el m ro z t c cs e' fz a b d

theorem Alive.put {h : H} {o : AO} {n m : Nat} (hn : Alive h n) (a : Alive (h.put n o) m) : Alive h m := by
  by_cases he : n = m
  · exact he ▸ hn
  · obtain ⟨x, e, hx⟩ := a
    rw [H.put_ne _ _ he] at e
    exact ⟨x, e, hx⟩

/-- A block that is there is another one now. -/
theorem Stp.put {P : Program} {ρ : Ren} {h : H} {w w' : World} {n c : Nat} {o : AO} {ob : Obj} (r : HRel P ρ h w) (hn : Alive h n) (hc : ρ n = some c)
    (ho : ORel ρ o ob) (e0 : w'.heap.size = w.heap.size) (e : w'.heap[c]? = some ob) (e' : ∀ d, d ≠ c → w'.heap[d]? = w.heap[d]?) (e1 : w'.os = w.os) (e2 : w'.tape = w.tape) (e3 : w'.output = w.output)
    (hk : ∀ e m ro z t, o = .row e m false ro z t → ∀ cs e' fz, ob = .cells cs e' fz → ρ.k n * P.cellsOf e ≤ cs.size) :
    Stp P ρ ρ h (h.put n o) w w' := by
  refine ⟨⟨Ren.le.refl ρ, fun m c a b => (by rw [a] at b; cases b), ?_, (by rw [e0]; exact Nat.le_refl _), ?_, (by rw [H.put_next]; exact Nat.le_refl _), fun m _ a => hn.put a, e1, e2, e3⟩, ?_, ?_, r.glob, fun m d a => (by rw [e0]; exact r.bound m d a), ?_⟩
  · intro d hd hf
    exact e' d fun hdc => hf n hn (hdc ▸ hc)
  · intro m _ hm
    exact H.put_ne _ _ fun he => by subst he; rw [hc] at hm; cases hm
  · intro m x d a b g
    by_cases he : n = m
    · subst he
      have := H.put_eq _ _ a
      subst this
      rw [hc] at g; cases g
      exact ⟨ob, e, ho⟩
    · rw [H.put_ne _ _ he] at a
      obtain ⟨y, hy, hr⟩ := r.obj m x d a b g
      refine ⟨y, ?_, hr⟩
      rw [e' d fun hdc => ?_]
      · exact hy
      · subst hdc; exact he (r.inj n m _ hn ⟨x, a, b⟩ hc g)
  · intro k m d a b x y
    exact r.inj k m d (hn.put a) (hn.put b) x y
  · intro m el mm ro z t d cs e4 fz a b g
    by_cases he : n = m
    · subst he
      have := H.put_eq _ _ a
      rw [hc] at b; cases b
      rw [e] at g; injection g with g
      exact hk el mm ro z t this.symm cs e4 fz g
    · rw [H.put_ne _ _ he] at a
      refine r.room m el mm ro z t d cs e4 fz a b ?_
      rw [← e' d fun hdc => ?_]
      · exact g
      · subst hdc; exact he (r.inj n m _ hn ⟨_, a, by simp⟩ hc b)


end Go.Ab

namespace Go.Ab

theorem ofCell_rel (ρ : Ren) : ∀ {v : Value} {x : AV}, ofCell v = some x → VRel ρ x v := by
  intro v x h
  unfold ofCell at h
  split at h <;> first
    | (simp at h; done)
    | (injection h with h; subst h; first | exact .bool _ | exact .int _ _ | exact .str _ _ rfl | exact .nilPtr | exact .nilSl | exact .nilMap | exact .nilFunc | exact .nilIface)
theorem ofCells_rel (ρ : Ren) : ∀ {vs : List Value} {xs : List AV}, ofCells vs = some xs → VRels ρ xs vs
  | [], xs, h => by simp [ofCells] at h; subst h; exact .nil
  | v :: vs, xs, h => by
    unfold ofCells at h
    split at h
    · rename_i x hx
      split at h
      · rename_i ys hys
        injection h with h; subst h
        exact .cons _ _ _ _ (ofCell_rel ρ hx) (ofCells_rel ρ hys)
      · simp at h
    · simp at h
theorem ofConst_rel (ρ : Ren) {v : Value} {x : AV} (h : ofConst v = some x) : VRel ρ x v := by
  unfold ofConst at h
  split at h
  · split at h
    · rename_i xs hx; injection h with h; subst h; exact .agg _ _ (ofCells_rel ρ hx)
    · simp at h
  · split at h
    · rename_i f a b hab
      injection h with h; subst h
      have ha : a.toList = [] := by have := hab.1; simp at this; simp [this]
      have hb : b.toList = [] := by have := hab.2; simp at this; simp [this]
      exact .func _ _ _ _ _ (by intro l e; cases e) (by rw [ha]; exact .nil) (by rw [hb]; exact .nil)
    · simp at h
  · exact ofCell_rel ρ h

/-- The operands are as the frame's. -/
def ORels (P : Program) (ρ : Ren) (tm : PT AV) (a : Act) (xs : List Operand) : Prop := ∀ x, x ∈ xs → ∀ v, eo P tm x = some v → VRel ρ v (a.eval x)

theorem eo_rel {P : Program} {ρ : Ren} {tm : PT AV} {a : Act} (hg : ∀ g, g < P.globals.size → ρ g = some g) (x : Operand)
    (hx : ∀ t, x = .tmp t → ∀ v, tm.get t = some v → ∃ v', a.tmps[t]? = some v' ∧ VRel ρ v v') {v : AV} (h : eo P tm x = some v) : VRel ρ v (a.eval x) := by
  cases x with
  | tmp t =>
    obtain ⟨v', e, hv⟩ := hx t rfl v h
    show VRel ρ v (a.tmps.getD t undef)
    rw [Array.getD_eq_getD_getElem?, e]; exact hv
  | const c => exact ofConst_rel ρ h
  | global g =>
    simp only [eo] at h
    split at h
    · rename_i hb; injection h with h; subst h
      exact .ptr _ _ _ (hg g (lt_of_blt hb))
    · simp at h
  | func f => simp only [eo] at h; injection h with h; subst h; exact .func _ _ _ _ _ (by intro l e; cases e) .nil .nil

theorem FRel.ops {P : Program} {ρ : Ren} {nt : Nat} {tm : PT AV} {a : Act} (f : FRel ρ nt tm a.tmps) (hg : ∀ g, g < P.globals.size → ρ g = some g) (xs : List Operand) : ORels P ρ tm a xs :=
  fun x _ _ h => eo_rel hg x (fun t e v hv => f.get t v hv) h

theorem eos_rel {P : Program} {ρ : Ren} {tm : PT AV} {a : Act} : ∀ {xs : List Operand} {vs : List AV}, ORels P ρ tm a xs → eos P tm xs = some vs → VRels ρ vs (xs.map a.eval)
  | [], vs, _, h => by simp [eos] at h; subst h; exact .nil
  | x :: xs, vs, E, h => by
    unfold eos at h
    split at h
    · rename_i v hv
      split at h
      · rename_i us hus
        injection h with h; subst h
        exact .cons _ _ _ _ (E x (by simp) v hv) (eos_rel (fun y hy => E y (by simp [hy])) hus)
      · simp at h
    · simp at h
theorem parts_rel {P : Program} {ρ : Ren} {tm : PT AV} {a : Act} : ∀ {ps : List (Nat × Operand)} {vs : List (Nat × AV)}, ORels P ρ tm a (ps.map (·.2)) → parts P tm ps = some vs →
    vs.map (·.1) = ps.map (·.1) ∧ VRels ρ (vs.map (·.2)) (ps.map fun p => a.eval p.2)
  | [], vs, _, h => by simp [parts] at h; subst h; exact ⟨rfl, .nil⟩
  | (i, x) :: ps, vs, E, h => by
    unfold parts at h
    split at h
    · rename_i v hv
      split at h
      · rename_i us hus
        injection h with h; subst h
        obtain ⟨h1, h2⟩ := parts_rel (fun y hy => E y (by simp at hy ⊢; exact .inr hy)) hus
        exact ⟨by simp [h1], .cons _ _ _ _ (E x (by simp) v hv) h2⟩
      · simp at h
    · simp at h

-- numbers
theorem iEq_eq : ∀ a b : Int, iEq a b = (a == b)
  | .ofNat a, .ofNat b => by
    by_cases h : a = b
    · subst h; simp [iEq]
    · rw [show iEq (.ofNat a) (.ofNat b) = Nat.beq a b from rfl, nbeq_f h]; symm; simp; omega
  | .negSucc a, .negSucc b => by
    by_cases h : a = b
    · subst h; simp [iEq]
    · rw [show iEq (.negSucc a) (.negSucc b) = Nat.beq a b from rfl, nbeq_f h]; symm; simp; omega
  | .ofNat a, .negSucc b => by simp [iEq]
  | .negSucc a, .ofNat b => by simp [iEq]
theorem iLe_eq : ∀ a b : Int, iLe a b = decide (a ≤ b)
  | .ofNat a, .ofNat b => by
    show Nat.ble a b = _
    by_cases h : a ≤ b
    · rw [Nat.ble_eq_true_of_le h]; symm; simp; omega
    · have : Nat.ble a b = false := by
        cases e : Nat.ble a b with
        | false => rfl
        | true => exact absurd (Nat.le_of_ble_eq_true e) h
      rw [this]; symm; simp; omega
  | .negSucc a, .negSucc b => by
    show Nat.ble b a = _
    by_cases h : b ≤ a
    · rw [Nat.ble_eq_true_of_le h]; symm; simp; omega
    · have : Nat.ble b a = false := by
        cases e : Nat.ble b a with
        | false => rfl
        | true => exact absurd (Nat.le_of_ble_eq_true e) h
      rw [this]; symm; simp; omega
  | .negSucc a, .ofNat b => by simp [iLe]; omega
  | .ofNat a, .negSucc b => by simp [iLe]; omega
theorem kEq_eq {a b : IntKind} (h : kEq a b = true) : a = b := by unfold kEq at h; simpa using h
theorem strEq_eq : ∀ a b : List Nat, strEq a b = (a == b)
  | [], [] => rfl
  | [], b :: y => rfl
  | a :: x, [] => rfl
  | a :: x, b :: y => by
    unfold strEq
    by_cases h : a = b
    · subst h; rw [nbeq_t rfl]; simp [strEq_eq x y]
    · rw [nbeq_f h]; symm; simp [h]
theorem wrapI_eq (k : IntKind) : ∀ n : Int, wrapI k n = k.wrap n
  | .negSucc m => rfl
  | .ofNat m => by
    cases k with
    | i64 =>
      show (match Nat.ble m 9223372036854775807 with | true => Int.ofNat m | false => IntKind.wrap .i64 (.ofNat m)) = _
      split
      · rename_i h
        have := Nat.le_of_ble_eq_true h
        simp [IntKind.wrap, IntKind.bits, IntKind.signed]; omega
      · rfl
    | u8 => simp [wrapI, IntKind.wrap, IntKind.bits, IntKind.signed]
    | _ => rfl
end Go.Ab

namespace Go.Ab

def msz : IntKind → Nat
  | .i64 => 63
  | .u8 => 8
  | .u64 => 64
  | _ => 0
theorem fits_lt {k : IntKind} {n : Nat} (h : fits k n = true) : n < 2 ^ msz k ∧ msz k ≤ k.bits := by
  cases k <;> simp only [fits] at h <;> first
    | (have := Nat.le_of_ble_eq_true h; simp [msz, IntKind.bits]; omega)
    | cases h
theorem wrap_lt {k : IntKind} {n a : Nat} (hf : fits k a = true) (h : n < 2 ^ msz k) : k.wrap (n : Int) = n := by
  cases k <;> simp only [fits] at hf <;> first
    | (simp [msz] at h; simp [IntKind.wrap, IntKind.bits, IntKind.signed]; omega)
    | cases hf
theorem ofInt_toNat {k : IntKind} {n : Nat} (h : fits k n = true) : (BitVec.ofInt k.bits (Int.ofNat n)).toNat = n := by
  obtain ⟨h1, h2⟩ := fits_lt h
  have h3 : n < 2 ^ k.bits := Nat.lt_of_lt_of_le h1 (Nat.pow_le_pow_right (by omega) h2)
  rw [BitVec.toNat_ofInt, Int.ofNat_eq_natCast, ← Int.natCast_emod, Int.toNat_natCast, Nat.mod_eq_of_lt h3]
theorem run_bits {P : Program} {w : World} {op : BinOp} {k : IntKind} {x y : Int} {n : Int} (h : bitsOp op k x y = some n) :
    (Op.intBits op k x y).run P w = .ok (.int k n) w := by
  have slow : ∀ {x y : Int}, bitsSlow op k x y = some n → (Op.intBits op k x y).run P w = .ok (.int k n) w := by
    intro x y h
    unfold bitsSlow at h
    unfold Op.intBits
    cases op <;> dsimp only at h <;> first | (injection h with h; subst h; rfl) | cases h
  unfold bitsOp at h
  split at h
  · rename_i a b
    split at h
    · rename_i ha hb
      have la := (fits_lt ha).1
      have lb := (fits_lt hb).1
      have ea := ofInt_toNat ha
      have eb := ofInt_toNat hb
      split at h
      · injection h with h; subst h
        have : (Op.intBits .and k (.ofNat a) (.ofNat b)).run P w = .ok (.int k (k.wrap (((BitVec.ofInt k.bits (Int.ofNat a)) &&& (BitVec.ofInt k.bits (Int.ofNat b))).toNat : Int))) w := rfl
        rw [this, BitVec.toNat_and, ea, eb, wrap_lt ha (Nat.and_lt_two_pow _ lb)]; rfl
      · injection h with h; subst h
        have : (Op.intBits .or k (.ofNat a) (.ofNat b)).run P w = .ok (.int k (k.wrap (((BitVec.ofInt k.bits (Int.ofNat a)) ||| (BitVec.ofInt k.bits (Int.ofNat b))).toNat : Int))) w := rfl
        rw [this, BitVec.toNat_or, ea, eb, wrap_lt ha (Nat.or_lt_two_pow la lb)]; rfl
      · injection h with h; subst h
        have : (Op.intBits .xor k (.ofNat a) (.ofNat b)).run P w = .ok (.int k (k.wrap (((BitVec.ofInt k.bits (Int.ofNat a)) ^^^ (BitVec.ofInt k.bits (Int.ofNat b))).toNat : Int))) w := rfl
        rw [this, BitVec.toNat_xor, ea, eb, wrap_lt ha (Nat.xor_lt_two_pow la lb)]; rfl
      · exact slow h
    · exact slow h
  · exact slow h

theorem isZero_f {n : Int} (h : isZero n = false) : n ≠ 0 := by
  intro e; subst e; simp [isZero] at h

theorem run_intBin {P : Program} {w : World} (ρ : Ren) {op : BinOp} {k : IntKind} {t : TypeId} {a b : Int} {v : AV} (hs : isShift op = false) (h : intBin op k a b = some v) :
    ∃ v', (binOp op t (.int k a) (.int k b)).run P w = .ok v' w ∧ VRel ρ v v' := by
  unfold intBin at h
  cases op <;> simp only [isShift, Bool.true_eq_false] at hs <;> simp only [binOp, ne_eq, not_true_eq_false, if_false] <;> dsimp only at h
  case add => injection h with h; subst h; exact ⟨_, rfl, by rw [wrapI_eq]; exact .int _ _⟩
  case sub => injection h with h; subst h; exact ⟨_, rfl, by rw [wrapI_eq]; exact .int _ _⟩
  case mul => injection h with h; subst h; exact ⟨_, rfl, by rw [wrapI_eq]; exact .int _ _⟩
  case quo =>
    split at h
    · cases h
    · rename_i hz; injection h with h; subst h
      exact ⟨_, by simp only [Op.intDiv, isZero_f hz, if_false]; rfl, by rw [wrapI_eq]; exact .int _ _⟩
  case rem =>
    split at h
    · cases h
    · rename_i hz; injection h with h; subst h
      exact ⟨_, by simp only [Op.intDiv, isZero_f hz, if_false]; rfl, .int _ _⟩
  case and | or | xor | andNot =>
    split at h
    · rename_i n hn; injection h with h; subst h; exact ⟨_, run_bits hn, .int _ _⟩
    · cases h
  case eql => injection h with h; subst h; exact ⟨_, rfl, by rw [iEq_eq]; exact .bool _⟩
  case neq => injection h with h; subst h; exact ⟨_, rfl, by rw [iEq_eq]; exact .bool _⟩
  case lss =>
    injection h with h; subst h
    refine ⟨_, rfl, ?_⟩
    rw [iLe_eq, show (!decide (b ≤ a)) = decide (a < b) from by by_cases h : a < b <;> simp [h] <;> omega]; exact .bool _
  case leq => injection h with h; subst h; exact ⟨_, rfl, by rw [iLe_eq]; exact .bool _⟩
  case gtr =>
    injection h with h; subst h
    refine ⟨_, rfl, ?_⟩
    rw [iLe_eq, show (!decide (a ≤ b)) = decide (a > b) from by by_cases h : a > b <;> simp [h] <;> omega]; exact .bool _
  case geq => injection h with h; subst h; exact ⟨_, rfl, by rw [iLe_eq]; exact .bool _⟩

theorem run_shift {P : Program} {w : World} (ρ : Ren) {op : BinOp} {k k' : IntKind} {t : TypeId} {a : Int} {n : Nat} {v : AV} (hs : isShift op = true) (h : shiftA op k a n = some v) :
    ∃ v', (binOp op t (.int k a) (.int k' (.ofNat n))).run P w = .ok v' w ∧ VRel ρ v v' := by
  unfold shiftA at h
  have hn : ¬ (Int.ofNat n < 0) := by simp
  cases op <;> simp only [isShift, Bool.false_eq_true] at hs <;> dsimp only at h
  · injection h with h; subst h
    refine ⟨_, by simp only [binOp, Op.shift, hn, if_false]; rfl, ?_⟩
    rw [wrapI_eq]; exact .int _ _
  · injection h with h; subst h
    exact ⟨_, by simp only [binOp, Op.shift, hn, if_false]; rfl, .int _ _⟩

end Go.Ab

namespace Go.Ab
-- strings
theorem u8map_inj : ∀ {a b : List UInt8}, a.map UInt8.toNat = b.map UInt8.toNat → a = b
  | [], [], _ => rfl
  | [], _ :: _, h => by simp at h
  | _ :: _, [], h => by simp at h
  | x :: a, y :: b, h => by
    simp at h
    rw [UInt8.toNat_inj.1 h.1, u8map_inj h.2]
theorem strEq_bytes (a b : List UInt8) : strEq (a.map UInt8.toNat) (b.map UInt8.toNat) = (a == b) := by
  rw [strEq_eq]
  by_cases h : a = b
  · subst h; simp
  · have : a.map UInt8.toNat ≠ b.map UInt8.toNat := fun e => h (u8map_inj e)
    rw [beq_eq_false_iff_ne.2 this, beq_eq_false_iff_ne.2 h]
theorem strLess_bytes : ∀ (a b : List UInt8), strLess (a.map UInt8.toNat) (b.map UInt8.toNat) = Op.bytesLess a b
  | [], [] => rfl
  | _ :: _, [] => rfl
  | [], _ :: _ => rfl
  | x :: a, y :: b => by
    simp only [List.map_cons, strLess, Op.bytesLess]
    by_cases h : x.toNat < y.toNat
    · rw [blt_t h]
      have : x < y := UInt8.lt_iff_toNat_lt.2 h
      simp [this]
    · rw [blt_f h]
      have h1 : ¬ x < y := fun e => h (UInt8.lt_iff_toNat_lt.1 e)
      by_cases e : x = y
      · subst e
        rw [nbeq_t rfl]; simp [h1, strLess_bytes a b]
      · rw [nbeq_f (fun e' => e (UInt8.toNat_inj.1 e'))]; simp [h1, e]
theorem run_strBin {P : Program} {w : World} (ρ : Ren) {op : BinOp} {t : TypeId} {a b : ByteArray} {v : AV}
    (h : strBin op (a.data.toList.map UInt8.toNat) (b.data.toList.map UInt8.toNat) = some v) : ∃ v', (binOp op t (.string a) (.string b)).run P w = .ok v' w ∧ VRel ρ v v' := by
  unfold strBin at h
  rw [strEq_bytes, strLess_bytes] at h
  have e1 : ∀ x : ByteArray, x.toList = x.data.toList := ByteArray.toList_eq
  cases op <;> dsimp only at h
  case add =>
    split at h
    · rename_i hb
      injection h with h; subst h
      have := Nat.le_of_ble_eq_true hb
      simp only [List.length_map, Array.length_toList] at this
      have hc : ¬ (((a.size + b.size : Nat) : Int) > IntKind.i64.max) := by
        have e2 : a.size = a.data.size := rfl
        have e3 : b.size = b.data.size := rfl
        simp [IntKind.max, IntKind.signed, IntKind.bits]; omega
      refine ⟨.string (a ++ b), by simp only [binOp, Op.stringOp, hc, if_false]; rfl, .str _ _ (by simp [ByteArray.data_append])⟩
    · cases h
  all_goals first
    | (injection h with h; subst h; exact ⟨_, by simp only [binOp, Op.stringOp, e1]; rfl, .bool _⟩)
    | cases h

theorem isAgg_run {P : Program} {w : World} {t : TypeId} {b : Bool} (h : isAgg P t = some b) : (Go.isAgg t).run P w = .ok b w := by
  unfold isAgg at h
  unfold Go.isAgg underlying
  simp only [Sem.run_bind, run_program, Result.andThen_ok]
  cases hu : P.underlying t with
  | none => rw [hu] at h; simp at h
  | some d =>
    rw [hu] at h
    cases d <;> simp at h <;> subst h <;> simp
theorem und_run {P : Program} {w : World} {t : TypeId} {d : TypeDesc} (h : P.underlying t = some d) : (underlying t).run P w = .ok d w := by
  unfold underlying; simp [h]
theorem sz_run {P : Program} {w : World} {t : TypeId} {n : Nat} (h : szOf P t = some n) : (sizeOf t).run P w = .ok n w := by
  unfold szOf at h
  split at h
  · rename_i i hi; injection h with h; subst h; unfold sizeOf typeInfo; simp [hi]
  · cases h
theorem info_run {P : Program} {w : World} {t : TypeId} {i : TypeInfo} (h : P.info? t = some i) : (typeInfo t).run P w = .ok i w := by
  unfold typeInfo; simp [h]

theorem part_run {P : Program} {w : World} {ρ : Ren} {t : TypeId} {ag : Bool} {s off : Nat} {cs : List AV} {cs' : Array Value} {v : AV} (h1 : isAgg P t = some ag) (h2 : szOf P t = some s)
    (hc : VRels ρ cs cs'.toList) (h : partA ag s off cs = some v) : ∃ v', (part t cs' off).run P w = .ok v' w ∧ VRel ρ v v' := by
  unfold part
  simp only [Sem.run_bind, isAgg_run h1, Result.andThen_ok]
  cases ag with
  | true =>
    simp only [partA] at h; injection h with h; subst h
    refine ⟨.agg (cs'.extract off (off + s)), by simp [sz_run h2], .agg _ _ ?_⟩
    have := (hc.drop off).take s
    have e : (cs'.extract off (off + s)).toList = (cs'.toList.drop off).take s := by simp
    rw [e]; exact this
  | false =>
    simp only [partA] at h
    obtain ⟨v', e, hv⟩ := hc.get off v h
    refine ⟨v', ?_, hv⟩
    have : cs'[off]? = some v' := by rw [← Array.getElem?_toList]; exact e
    simp [this]

theorem arr_loop {P : Program} {w : World} {ρ : Ren} {D e : Nat} {xs ys : List AV} {xs' ys' : Array Value} {b : Bool} (he : P.underlying e = some (.int .u8)) (hag : isAgg P e = some false) (hs : szOf P e = some 1)
    (hx : VRels ρ xs xs'.toList) (hy : VRels ρ ys ys'.toList) : ∀ (k s : Nat), xs.length = s + k → ys.length = s + k → bytesEqA (xs.drop s) (ys.drop s) = some b →
    (forIn (List.range' s k) ((none, ()) : Option Bool × Unit) (fun i (_ : Option Bool × Unit) => (do
      let u ← part e xs' (i * 1)
      let v ← part e ys' (i * 1)
      let r ← Op.equalIn (D + 1) e u v
      if (!r) = true then pure (ForInStep.done (some false, ())) else pure (ForInStep.yield (none, ())) : Sem (ForInStep (Option Bool × Unit))))).run P w
      = .ok (if b then (none, ()) else (some false, ())) w := by
  intro k
  induction k with
  | zero =>
    intro s h1 h2 h3
    rw [List.drop_eq_nil_of_le (by omega), List.drop_eq_nil_of_le (by omega)] at h3
    simp [bytesEqA] at h3; subst h3
    simp
  | succ k ih =>
    intro s h1 h2 h3
    obtain ⟨x, hxe⟩ : ∃ x, xs[s]? = some x := ⟨xs[s]'(by omega), by simp⟩
    obtain ⟨y, hye⟩ : ∃ y, ys[s]? = some y := ⟨ys[s]'(by omega), by simp⟩
    have d1 : xs.drop s = x :: xs.drop (s + 1) := by
      have := List.getElem?_eq_some_iff.1 hxe
      obtain ⟨hl, e1⟩ := this
      rw [← e1]; exact List.drop_eq_getElem_cons hl
    have d2 : ys.drop s = y :: ys.drop (s + 1) := by
      have := List.getElem?_eq_some_iff.1 hye
      obtain ⟨hl, e1⟩ := this
      rw [← e1]; exact List.drop_eq_getElem_cons hl
    rw [d1, d2] at h3
    obtain ⟨u, hu, ru⟩ := part_run (w := w) (s := 1) (off := s * 1) hag hs hx (by simpa [partA] using hxe)
    obtain ⟨v, hv, rv⟩ := part_run (w := w) (s := 1) (off := s * 1) hag hs hy (by simpa [partA] using hye)
    unfold bytesEqA at h3
    split at h3
    · simp_all
    · rename_i m xs2 n ys2 e1 e2
      injection e1 with e1 e1'; injection e2 with e2 e2'
      subst e1; subst e2
      cases ru; cases rv
      rw [List.range'_succ, List.forIn_cons]
      simp only [Sem.run_bind, hu, hv, Result.andThen_ok, run_equalIn_int w D e _ _ _ _ he]
      rw [iEq_eq] at h3
      split at h3
      · rename_i hm
        rw [hm]
        simp only [Bool.not_true, Bool.false_eq_true, if_false, Sem.run_pure, Result.andThen_ok]
        exact ih (s + 1) (by omega) (by omega) (by rw [e1', e2']; exact h3)
      · rename_i hm
        injection h3 with h3; subst h3
        rw [hm]
        simp
    · cases h3

theorem run_equalIn_arr {P : Program} {w : World} {ρ : Ren} {D t n e : Nat} {xs ys : List AV} {xs' ys' : Array Value} {b : Bool} (ht : P.underlying t = some (.array n e)) (he : P.underlying e = some (.int .u8)) (hs : szOf P e = some 1)
    (hx : VRels ρ xs xs'.toList) (hy : VRels ρ ys ys'.toList) (h1 : xs.length = n) (h2 : ys.length = n) (h : bytesEqA xs ys = some b) :
    (Op.equalIn (D + 2) t (.agg xs') (.agg ys')).run P w = .ok b w := by
  have hag : isAgg P e = some false := by unfold isAgg; rw [he]
  have key := arr_loop (w := w) (D := D) he hag hs hx hy n 0 (by omega) (by omega) (by simpa using h)
  generalize hD : D + 1 = D1 at key
  have : D + 2 = D1 + 1 := by omega
  rw [this]
  unfold Op.equalIn
  simp only [Sem.run_bind, und_run ht, Result.andThen_ok, sz_run hs]
  rw [Std.Legacy.Range.forIn_eq_forIn_range']
  simp only [Std.Legacy.Range.size, Nat.sub_zero, Nat.add_sub_cancel, Nat.div_one]
  have e3 : ∀ (f g : Nat → Option Bool × Unit → Sem (ForInStep (Option Bool × Unit))), f = g → (forIn (List.range' 0 n) ((none, ()) : Option Bool × Unit) f).run P w = (forIn (List.range' 0 n) (none, ()) g).run P w := fun f g e => by rw [e]
  rw [e3 _ _ ?_, key]
  · cases b <;> simp
  · rfl

theorem run_eqFs {P : Program} {w : World} {ρ : Ren} {D : Nat} {rec : TypeId → AV → AV → Option Bool}
    (hrec : ∀ t x y x' y' b, rec t x y = some b → VRel ρ x x' → VRel ρ y y' → (Op.equalIn D t x' y').run P w = .ok b w)
    {xs ys : List AV} {xs' ys' : Array Value} (hx : VRels ρ xs xs'.toList) (hy : VRels ρ ys ys'.toList) : ∀ (fs : List Field) (b : Bool), eqFs P rec xs ys fs = some b →
    (Op.eqFields D xs' ys' fs).run P w = .ok b w
  | [], b, h => by simp [eqFs] at h; subst h; simp [Op.eqFields]
  | f :: fs, b, h => by
    unfold eqFs at h
    split at h
    · cases h
    · rename_i hn
      split at h
      · rename_i ag s hag hs
        split at h
        · rename_i x y px py
          obtain ⟨u, hu, ru⟩ := part_run (w := w) hag hs hx px
          obtain ⟨v, hv, rv⟩ := part_run (w := w) hag hs hy py
          have hne : f.name ≠ "_" := by simpa using hn
          unfold Op.eqFields
          rw [if_pos hne]
          simp only [Sem.run_bind, hu, hv, Result.andThen_ok]
          split at h
          · rename_i hr
            rw [hrec _ _ _ _ _ _ hr ru rv]
            simpa using run_eqFs hrec hx hy fs b h
          · rename_i hr
            injection h with h; subst h
            rw [hrec _ _ _ _ _ _ hr ru rv]
            simp
          · cases h
        · cases h
      · cases h

theorem run_eqT {P : Program} {w : World} {ρ : Ren} : ∀ (d : Nat) (t : TypeId) (x y : AV) (x' y' : Value) (b : Bool), eqT P d t x y = some b → VRel ρ x x' → VRel ρ y y' → ∀ D, d + 1 ≤ D → (Op.equalIn D t x' y').run P w = .ok b w := by
  intro d
  induction d with
  | zero => intro t x y x' y' b h; simp [eqT] at h
  | succ d ih =>
    intro t x y x' y' b h hx hy D hD
    obtain ⟨D, rfl⟩ : ∃ E, D = E + 2 := ⟨D - 2, by omega⟩
    unfold eqT at h
    split at h
    · injection h with h; subst h
      cases hx; cases hy; exact run_equalIn_bool' w (D + 1) t _ _ (by assumption)
    · cases hx; cases hy
      split at h
      · rename_i hk; injection h with h; subst h
        have := kEq_eq hk; subst this
        rw [iEq_eq]; exact run_equalIn_int w (D + 1) t _ _ _ _ (by assumption)
      · cases h
    · injection h with h; subst h
      cases hx with | str s l e1 => cases hy with | str s' l' e2 =>
        subst e1; subst e2
        rw [strEq_bytes, run_equalIn_string w (D + 1) t _ _ (by assumption), ByteArray.toList_eq, ByteArray.toList_eq]
    · rename_i fs xs ys hu
      cases hx with | agg _ xs' hx => cases hy with | agg _ ys' hy =>
        split at h
        · cases h
        · rename_i hst
          have hf : P.fieldsOf t = fs := by unfold Program.fieldsOf; rw [hu]
          rw [run_equalIn_struct w (D + 1) t xs' ys' (by rw [hf]; exact hu) hst, hf]
          exact run_eqFs (fun t x y x' y' b e hx hy => ih t x y x' y' b e hx hy (D + 1) (by omega)) hx hy _ _ h
    · rename_i n e xs ys hu
      cases hx with | agg _ xs' hx => cases hy with | agg _ ys' hy =>
        split at h
        · rename_i he hs
          split at h
          · rename_i h1 h2
            exact run_equalIn_arr hu he hs hx hy (Nat.eq_of_beq_eq_true h1) (Nat.eq_of_beq_eq_true h2) h
          · cases h
        · cases h
    · cases h
end Go.Ab

namespace Go.Ab
theorem noIface_guard {P : Program} : ∀ (d : Nat) (t : TypeId), noIface P d t = true → ∀ D, d ≤ D → P.eqGuardType D t = false := by
  intro d
  induction d with
  | zero => intro t h; simp [noIface] at h
  | succ d ih =>
    intro t h D hD
    obtain ⟨D, rfl⟩ : ∃ E, D = E + 1 := ⟨D - 1, by omega⟩
    unfold noIface at h
    unfold Program.eqGuardType
    split at h
    · cases h
    · rename_i fs hu
      rw [hu]
      simp only [List.all_eq_true] at h
      rw [Array.any_eq_false']
      intro f hf
      have := ih f.type (h f (by simpa using hf)) D (by omega)
      simp [this]
    · rename_i n e hu
      rw [hu]
      exact ih _ h D (by omega)
    · rename_i h1 h2 h3
      split
      · rename_i ms hu; exact absurd hu (h1 _)
      · rename_i fs hu; exact absurd hu (h2 _)
      · rename_i n e hu; exact absurd hu (h3 _ _)
      · rfl

theorem isIfaceT_und {P : Program} {t : TypeId} (h : isIfaceT P t = true) : ∃ ms, P.underlying t = some (.interface ms) := by
  unfold isIfaceT at h; split at h
  · exact ⟨_, by assumption⟩
  · cases h
theorem isPtrT_und {P : Program} {t : TypeId} (h : isPtrT P t = true) : ∃ e n, P.underlying t = some (.pointer e) ∧ szOf P e = some (n + 1) := by
  unfold isPtrT at h; split at h
  · split at h
    · exact ⟨_, _, by assumption, by assumption⟩
    · cases h
  · cases h
theorem isSlT_und {P : Program} {t : TypeId} (h : isSlT P t = true) : ∃ e, P.underlying t = some (.slice e) := by
  unfold isSlT at h; split at h
  · exact ⟨_, by assumption⟩
  · cases h
theorem isMapT_und {P : Program} {t : TypeId} (h : isMapT P t = true) : ∃ k e, P.underlying t = some (.map k e) := by
  unfold isMapT at h; split at h
  · exact ⟨_, _, by assumption⟩
  · cases h
theorem isFuncT_und {P : Program} {t : TypeId} (h : isFuncT P t = true) : ∃ a b c, P.underlying t = some (.func a b c) := by
  unfold isFuncT at h; split at h
  · exact ⟨_, _, _, by assumption⟩
  · cases h

theorem run_sameAddr {P : Program} {w : World} (c i j : Nat) : (sameAddr ⟨c, i, none⟩ ⟨c, j, none⟩).run P w = .ok (Nat.beq i j) w := by
  unfold sameAddr
  by_cases h : i = j
  · subst h; simp
  · simp [nbeq_f h]; exact h

theorem run_dom {P : Program} {w : World} {ρ : Ren} {t : TypeId} {x y : AV} {x' y' : Value} {b : Bool} (D : Nat) (h : sameDom x y = some b) (hx : VRel ρ x x') (hy : VRel ρ y y')
    (ht : (∃ e n, P.underlying t = some (.pointer e) ∧ szOf P e = some (n + 1) ∧ (x = .nilPtr ∨ ∃ i j, x = .ptr i j)) ∨ (∃ e, P.underlying t = some (.slice e) ∧ (x = .nilSl ∨ ∃ i j k l, x = .sl i j k l)) ∨
      (∃ k e, P.underlying t = some (.map k e) ∧ (x = .nilMap ∨ ∃ r, x = .map r)) ∨ (∃ p q v, P.underlying t = some (.func p q v) ∧ (x = .nilFunc ∨ (∃ f a c, x = .func f a c) ∨ ∃ l, x = .yld l))) :
    (Op.equalIn (D + 1) t x' y').run P w = .ok b w := by
  unfold Op.equalIn
  rcases ht with ⟨e, n, hu, hs, hx'⟩ | ⟨e, hu, hx'⟩ | ⟨k, e, hu, hx'⟩ | ⟨p, q, v, hu, hx'⟩
  · rcases hx' with rfl | ⟨i, j, rfl⟩
    · cases hx
      cases hy <;> simp [sameDom] at h <;> subst h <;> simp [und_run hu]
    · cases hx with | ptr _ _ c hc =>
      cases hy <;> simp [sameDom] at h
      · subst h; simp [und_run hu]
      · rename_i b' off' c' hc'
        split at h
        · rename_i hb
          have := Nat.eq_of_beq_eq_true hb
          subst this
          rw [hc] at hc'; cases hc'
          injection h with h; subst h
          simp only [Sem.run_bind, und_run hu, Result.andThen_ok, sz_run hs]
          simp [run_sameAddr]
        · cases h
  · rcases hx' with rfl | ⟨i, j, k, l, rfl⟩
    · cases hx
      cases hy <;> simp [sameDom] at h <;> subst h <;> simp [und_run hu]
    · cases hx
      cases hy <;> simp [sameDom] at h <;> subst h <;> simp [und_run hu]
  · rcases hx' with rfl | ⟨r, rfl⟩
    · cases hx
      cases hy <;> simp [sameDom] at h <;> subst h <;> simp [und_run hu]
    · cases hx
      cases hy <;> simp [sameDom] at h <;> subst h <;> simp [und_run hu]
  · rcases hx' with rfl | ⟨f, a, c, rfl⟩ | ⟨l, rfl⟩
    · cases hx
      cases hy <;> simp [sameDom] at h <;> subst h <;> simp [und_run hu]
    · cases hx
      cases hy <;> simp [sameDom] at h <;> subst h <;> simp [und_run hu]
    · cases hx
      cases hy <;> simp [sameDom] at h <;> subst h <;> simp [und_run hu]

theorem run_equal {P : Program} {w : World} {ρ : Ren} {t : TypeId} {nl : Bool} {x y : AV} {x' y' : Value} {b : Bool} (h : avEq P t nl x y = some b) (hx : VRel ρ x x') (hy : VRel ρ y y') :
    (Op.equal t x' y').run P w = .ok b w := by
  show (Op.equalIn (9999 + 1) t x' y').run P w = .ok b w
  unfold avEq at h
  split at h
  · split at h
    · injection h with h; subst h; cases hx; cases hy; exact run_equalIn_bool' w 9999 t _ _ (by assumption)
    · cases h
  · split at h
    · exact run_eqT 30 t _ _ _ _ b h hx hy _ (by omega)
    · cases h
  · split at h
    · rename_i hi; injection h with h; subst h
      obtain ⟨ms, hu⟩ := isIfaceT_und hi
      cases hx; cases hy; unfold Op.equalIn; simp [und_run hu]
    · cases h
  · split at h
    · rename_i hi; injection h with h; subst h
      obtain ⟨ms, hu⟩ := isIfaceT_und hi
      cases hx; cases hy; unfold Op.equalIn; simp [und_run hu]
    · cases h
  · split at h
    · rename_i hi; injection h with h; subst h
      obtain ⟨ms, hu⟩ := isIfaceT_und hi
      cases hx; cases hy; unfold Op.equalIn; simp [und_run hu]
    · cases h
  · split at h
    · rename_i hi; obtain ⟨e, n, h1, h2⟩ := isPtrT_und hi
      exact run_dom 9999 h hx hy (.inl ⟨e, n, h1, h2, .inl rfl⟩)
    · cases h
  · split at h
    · rename_i hi; obtain ⟨e, n, h1, h2⟩ := isPtrT_und hi
      exact run_dom 9999 h hx hy (.inl ⟨e, n, h1, h2, .inr ⟨_, _, rfl⟩⟩)
    · cases h
  · split at h
    · rename_i hi; obtain ⟨e, h1⟩ := isSlT_und hi
      exact run_dom 9999 h hx hy (.inr (.inl ⟨e, h1, .inl rfl⟩))
    · cases h
  · split at h
    · rename_i hi; obtain ⟨e, h1⟩ := isSlT_und hi
      exact run_dom 9999 h hx hy (.inr (.inl ⟨e, h1, .inr ⟨_, _, _, _, rfl⟩⟩))
    · cases h
  · split at h
    · rename_i hi; obtain ⟨k, e, h1⟩ := isMapT_und hi
      exact run_dom 9999 h hx hy (.inr (.inr (.inl ⟨k, e, h1, .inl rfl⟩)))
    · cases h
  · split at h
    · rename_i hi; obtain ⟨k, e, h1⟩ := isMapT_und hi
      exact run_dom 9999 h hx hy (.inr (.inr (.inl ⟨k, e, h1, .inr ⟨_, rfl⟩⟩)))
    · cases h
  · split at h
    · rename_i hi; obtain ⟨p, q, v, h1⟩ := isFuncT_und hi
      exact run_dom 9999 h hx hy (.inr (.inr (.inr ⟨p, q, v, h1, .inl rfl⟩)))
    · cases h
  · split at h
    · rename_i hi; obtain ⟨p, q, v, h1⟩ := isFuncT_und hi
      exact run_dom 9999 h hx hy (.inr (.inr (.inr ⟨p, q, v, h1, .inr (.inl ⟨_, _, _, rfl⟩)⟩)))
    · cases h
  · split at h
    · rename_i hi; obtain ⟨p, q, v, h1⟩ := isFuncT_und hi
      exact run_dom 9999 h hx hy (.inr (.inr (.inr ⟨p, q, v, h1, .inr (.inr ⟨_, rfl⟩)⟩)))
    · cases h
  · cases h

theorem run_guard {P : Program} {w : World} {ρ : Ren} {op : BinOp} {t : TypeId} {xo yo : Operand} {x y : AV} {x' y' : Value} {b : Bool} (h : avEq P t (constOp xo || constOp yo) x y = some b) (hx : VRel ρ x x') (hy : VRel ρ y y') :
    (eqGuard op t xo yo x' y').run P w = .ok () w := by
  have plain : (∀ a b, x' = .agg a → y' = .agg b → False) → (x' = .nilIface → y' = .nilIface → False) → (eqGuard op t xo yo x' y').run P w = .ok () w := by
    intro h1 h2
    unfold eqGuard
    cases op <;> simp <;> (split <;> first | rfl | (exact (h2 rfl rfl).elim) | (exact (h1 _ _ rfl rfl).elim) | simp)
  by_cases ha : ∃ a b, x' = .agg a ∧ y' = .agg b
  · obtain ⟨a, b, rfl, rfl⟩ := ha
    refine run_eqGuard_agg w op t xo yo a b ?_
    cases hx; cases hy
    unfold avEq at h
    dsimp only at h
    split at h
    · rename_i hi
      exact noIface_guard 30 t hi _ (by unfold Program.depth Made.depth; omega)
    · cases h
  · by_cases hi : x' = .nilIface ∧ y' = .nilIface
    · obtain ⟨rfl, rfl⟩ := hi
      cases hx; cases hy
      unfold avEq at h
      dsimp only at h
      split at h
      · rename_i hn _
        have hc : (constOp xo || constOp yo) = true := by assumption
        unfold eqGuard
        cases op <;> cases xo <;> cases yo <;> simp_all [constOp]
      · cases h
    · exact plain (fun a b e1 e2 => ha ⟨a, b, e1, e2⟩) (fun e1 e2 => hi ⟨e1, e2⟩)

theorem run_binA {P : Program} {w : World} {ρ : Ren} {op : BinOp} {t : TypeId} {xo yo : Operand} {x y : AV} {x' y' : Value} {v : AV} (h : binA P op t (constOp xo || constOp yo) x y = some v) (hx : VRel ρ x x') (hy : VRel ρ y y') :
    ∃ v', (do eqGuard op t xo yo x' y'; binOp op t x' y' : Sem Value).run P w = .ok v' w ∧ VRel ρ v v' := by
  have noguard : ∀ {x' y' : Value}, (∀ a b, x' = .agg a → y' = .agg b → False) → (x' = .nilIface → y' = .nilIface → False) → (eqGuard op t xo yo x' y').run P w = .ok () w := by
    intro x' y' h1 h2
    unfold eqGuard
    cases op <;> simp <;> (split <;> first | rfl | (exact (h2 rfl rfl).elim) | (exact (h1 _ _ rfl rfl).elim) | simp)
  unfold binA at h
  split at h
  · rename_i k a k' b
    cases hx; cases hy
    have g : (eqGuard op t xo yo (.int k a) (.int k' b)).run P w = .ok () w := noguard (by intro a b e; cases e) (by intro e; cases e)
    simp only [Sem.run_bind, g, Result.andThen_ok]
    split at h
    · rename_i hs
      split at h
      · exact run_shift ρ hs h
      · cases h
    · rename_i hs
      split at h
      · rename_i hk
        have := kEq_eq hk; subst this
        exact run_intBin ρ hs h
      · cases h
  · cases hx with | str s l e1 => cases hy with | str s' l' e2 =>
      subst e1; subst e2
      have g : (eqGuard op t xo yo (.string s) (.string s')).run P w = .ok () w := noguard (by intro a b e; cases e) (by intro e; cases e)
      simp only [Sem.run_bind, g, Result.andThen_ok]
      exact run_strBin ρ h
  · rename_i n1 n2
    unfold eqBin at h
    have keyE : (∃ b, avEq P t (constOp xo || constOp yo) x y = some b) → binOp .eql t x' y' = (do let b ← Op.equal t x' y'; pure (.bool b)) := by
      rintro ⟨b, hb⟩
      cases hx <;> cases hy <;> first
        | rfl
        | (exfalso; exact n1 _ _ _ _ rfl rfl)
        | (exfalso; exact n2 _ _ rfl rfl)
        | simp [avEq] at hb
    have keyN : (∃ b, avEq P t (constOp xo || constOp yo) x y = some b) → binOp .neq t x' y' = (do let b ← Op.equal t x' y'; pure (.bool (!b))) := by
      rintro ⟨b, hb⟩
      cases hx <;> cases hy <;> first
        | rfl
        | (exfalso; exact n1 _ _ _ _ rfl rfl)
        | (exfalso; exact n2 _ _ rfl rfl)
        | simp [avEq] at hb
    split at h
    · split at h
      · rename_i b hb
        injection h with h; subst h
        refine ⟨.bool b, ?_, .bool b⟩
        rw [keyE ⟨b, hb⟩]
        simp only [Sem.run_bind, run_guard hb hx hy, Result.andThen_ok, run_equal hb hx hy]
        simp
      · cases h
    · split at h
      · rename_i b hb
        injection h with h; subst h
        refine ⟨.bool (!b), ?_, .bool _⟩
        rw [keyN ⟨b, hb⟩]
        simp only [Sem.run_bind, run_guard hb hx hy, Result.andThen_ok, run_equal hb hx hy]
        simp
      · cases h
    · cases h
end Go.Ab

namespace Go.Ab
section
variable {P : Program} {w : World}
theorem zeroOf_run {t : TypeId} {z : List AV} (h : zeroOf P t = some z) : ∃ v, (zeroValue t).run P w = .ok v w ∧ ∀ ρ, VRels ρ z v.cells.toList := by
  unfold zeroOf at h
  split at h
  · rename_i i hi
    split at h
    · rename_i v hv
      exact ⟨v, by unfold zeroValue; simp [info_run hi, hv], fun ρ => ofCells_rel ρ h⟩
    · cases h
  · cases h
theorem zeroVal_run {t : TypeId} {z : AV} (h : zeroVal P t = some z) : ∃ v, (zeroValue t).run P w = .ok v w ∧ ∀ ρ, VRel ρ z v := by
  unfold zeroVal at h
  split at h
  · rename_i i hi
    split at h
    · rename_i v hv
      exact ⟨v, by unfold zeroValue; simp [info_run hi, hv], fun ρ => ofConst_rel ρ h⟩
    · cases h
  · cases h

theorem run_mapM_list {α β : Type} (g : α → Sem β) : ∀ (xs : List α) (ys : List β), (∀ (i : Nat) (x : α), xs[i]? = some x → ∃ y : β, ys[i]? = some y ∧ (g x).run P w = .ok y w) → xs.length = ys.length →
    (xs.mapM g).run P w = .ok ys w
  | [], [], _, _ => rfl
  | x :: xs, y :: ys, h, hl => by
    obtain ⟨y', e, hy⟩ := h 0 x rfl
    simp at e; subst e
    rw [List.mapM_cons]
    simp only [Sem.run_bind, hy, Result.andThen_ok]
    rw [run_mapM_list g xs ys (fun i x hx => by simpa using h (i + 1) x (by simpa using hx)) (by simpa using hl)]
    rfl
theorem placesOf_get : ∀ {fs : List Field} {pl : List (Nat × Nat)}, placesOf P fs = some pl → fs.length = pl.length ∧ ∀ (i : Nat) (f : Field), fs[i]? = some f → ∃ y : Nat × Nat, pl[i]? = some y ∧ y.1 = f.offset ∧ szOf P f.type = some y.2
  | [], pl, h => by simp [placesOf] at h; subst h; simp
  | f :: fs, pl, h => by
    unfold placesOf at h
    split at h
    · rename_i s hs
      split at h
      · rename_i r hr
        injection h with h; subst h
        obtain ⟨h1, h2⟩ := placesOf_get hr
        refine ⟨by simp [h1], fun i g hg => ?_⟩
        cases i with
        | zero => simp at hg; subst hg; exact ⟨_, rfl, rfl, hs⟩
        | succ i => simpa using h2 i g (by simpa using hg)
      · cases h
    · cases h
theorem places_run {fs : Array Field} {pl : List (Nat × Nat)} (h : placesOf P fs.toList = some pl) :
    (fs.mapM fun f => (do pure (f.offset, ← sizeOf f.type) : Sem (Nat × Nat))).run P w = .ok pl.toArray w := by
  obtain ⟨h1, h2⟩ := placesOf_get h
  have := run_mapM_list (P := P) (w := w) (fun f : Field => (do pure (f.offset, ← sizeOf f.type) : Sem (Nat × Nat))) fs.toList pl (fun i f hf => by
    obtain ⟨y, e, e1, e2⟩ := h2 i f hf
    refine ⟨y, e, ?_⟩
    simp [sz_run e2, ← e1]) h1
  rw [Array.mapM_eq_mapM_toList, Sem.run_map, this]
  rfl

theorem setAll_get (off : Nat) : ∀ (vs : List Value) (j : Nat) (cs : Array Value), off + j + vs.length ≤ cs.size →
    ((vs.zipIdx j).foldl (fun (cs : Array Value) (x : Value × Nat) => cs.setIfInBounds (off + x.2) x.1) cs).size = cs.size ∧
    ∀ i : Nat, ((vs.zipIdx j).foldl (fun (cs : Array Value) (x : Value × Nat) => cs.setIfInBounds (off + x.2) x.1) cs)[i]? = if off + j ≤ i ∧ i < off + j + vs.length then vs[i - (off + j)]? else cs[i]?
  | [], j, cs, h => by
    refine ⟨rfl, fun i => ?_⟩
    simp only [List.length_nil, List.zipIdx_nil, List.foldl_nil]
    rw [if_neg (by omega)]
  | v :: vs, j, cs, h => by
    simp only [List.length_cons] at h
    rw [List.zipIdx_cons, List.foldl_cons]
    obtain ⟨h1, h2⟩ := setAll_get off vs (j + 1) (cs.setIfInBounds (off + j) v) (by simp; omega)
    refine ⟨by rw [h1]; simp, fun i => ?_⟩
    rw [h2 i]
    simp only [List.length_cons]
    by_cases c1 : off + (j + 1) ≤ i ∧ i < off + (j + 1) + vs.length
    · rw [if_pos c1, if_pos (by omega)]
      rw [show i - (off + j) = (i - (off + (j + 1))) + 1 from by omega, List.getElem?_cons_succ]
    · rw [if_neg c1, Array.getElem?_setIfInBounds]
      by_cases c2 : off + j = i
      · subst c2
        rw [if_pos rfl, if_pos (by omega), if_pos (by omega)]
        simp
      · rw [if_neg c2, if_neg (by omega)]
theorem setAll_list (off : Nat) (vs : List Value) (cs : Array Value) (h : off + vs.length ≤ cs.size) :
    (vs.zipIdx.foldl (fun (cs : Array Value) (x : Value × Nat) => cs.setIfInBounds (off + x.2) x.1) cs).toList = cs.toList.take off ++ vs ++ cs.toList.drop (off + vs.length) := by
  obtain ⟨h1, h2⟩ := setAll_get off vs 0 cs (by omega)
  apply List.ext_getElem?
  intro i
  rw [Array.getElem?_toList, h2 i, List.append_assoc]
  have hl : cs.toList.length = cs.size := by simp
  simp only [Nat.add_zero]
  by_cases c1 : i < off
  · rw [if_neg (by omega), List.getElem?_append_left (by simp; omega), List.getElem?_take_of_lt c1, Array.getElem?_toList]
  · rw [List.getElem?_append_right (by simp; omega)]
    have e : (cs.toList.take off).length = off := by simp; omega
    rw [e]
    by_cases c2 : i < off + vs.length
    · rw [if_pos (by omega), List.getElem?_append_left (by omega)]
    · rw [if_neg (by omega), List.getElem?_append_right (by omega), List.getElem?_drop, ← Array.getElem?_toList]
      congr 1; omega

theorem fill_rel {ρ : Ren} {place : Nat → Option (Nat × Nat)} : ∀ {ps : List (Nat × AV)} {ps' : List (Nat × Value)} {cs : List AV} {cs' : Array Value} {out : List AV},
    ps.map (·.1) = ps'.map (·.1) → VRels ρ (ps.map (·.2)) (ps'.map (·.2)) → VRels ρ cs cs'.toList → fillP place cs ps = some out →
    ∃ out', Instr.fill place cs' ps' = some out' ∧ VRels ρ out out'.toList
  | [], [], cs, cs', out, _, _, hc, h => by simp [fillP] at h; subst h; exact ⟨cs', by simp [Instr.fill], hc⟩
  | [], _ :: _, _, _, _, h, _, _, _ => by simp at h
  | _ :: _, [], _, _, _, h, _, _, _ => by simp at h
  | (i, v) :: ps, (i', v') :: ps', cs, cs', out, h1, .cons _ _ _ _ hv hvs, hc, h => by
    simp at h1
    obtain ⟨rfl, h1⟩ := h1
    unfold fillP at h
    split at h
    · cases h
    · rename_i off size hp
      split at h
      · rename_i hb1 hb2
        have e1 := Nat.eq_of_beq_eq_true hb1
        have e2 := Nat.le_of_ble_eq_true hb2
        have hcl := hv.cells
        have l1 : v.cells.length = v'.cells.size := by simpa using hcl.length
        have l2 : cs.length = cs'.size := by simpa using hc.length
        unfold Instr.fill
        rw [hp]
        dsimp only
        have c1 : ¬ (v'.cells.size ≠ size ∨ off + v'.cells.size > cs'.size) := by omega
        simp only [Bool.or_eq_true, decide_eq_true_eq, c1, if_false]
        refine fill_rel h1 hvs ?_ h
        have := setAll_list off v'.cells.toList cs' (by simp; omega)
        rw [← Array.foldl_toList, Array.toList_zipIdx, this]
        have l3 : v'.cells.toList.length = size := by simp; omega
        rw [l3]
        exact ((hc.take off).append hcl).append (hc.drop _)
      · cases h

theorem run_buildA {ρ : Ren} {t : TypeId} {ps : List (Nat × AV)} {ps' : Array (Nat × Value)} {v : AV} (h1 : ps.map (·.1) = ps'.toList.map (·.1)) (h2 : VRels ρ (ps.map (·.2)) (ps'.toList.map (·.2)))
    (h : buildA P t ps = some v) : ∃ v', (Instr.build t ps').run P w = .ok v' w ∧ VRel ρ v v' := by
  unfold buildA at h
  split at h
  · cases h
  · rename_i z hz
    obtain ⟨zv, hzr, hzc⟩ := zeroOf_run (w := w) hz
    unfold Instr.build
    split at h
    · rename_i fs hu
      split at h
      · rename_i pl hpl
        split at h
        · rename_i cs hf
          injection h with h; subst h
          obtain ⟨out', e, ho⟩ := fill_rel h1 h2 (hzc ρ) hf
          refine ⟨.agg out', ?_, .agg _ _ ho⟩
          simp only [Sem.run_bind, hzr, Result.andThen_ok, und_run hu, places_run hpl]
          have : (fun i : Nat => pl.toArray[i]?) = fun i : Nat => pl[i]? := by funext i; simp
          rw [this, e]
          rfl
        · cases h
      · cases h
    · rename_i n e hu
      split at h
      · rename_i size hs
        split at h
        · rename_i cs hf
          injection h with h; subst h
          obtain ⟨out', e, ho⟩ := fill_rel h1 h2 (hzc ρ) hf
          refine ⟨.agg out', ?_, .agg _ _ ho⟩
          simp only [Sem.run_bind, hzr, Result.andThen_ok, und_run hu, sz_run hs]
          rw [e]
          rfl
        · cases h
      · cases h
    · cases h
end
end Go.Ab

namespace Go.Ab
section
variable {P : Program} {w : World}

theorem nat?_int {v : AV} {n : Nat} (h : nat? v = some n) : ∃ k, v = .int k (.ofNat n) := by
  unfold nat? at h
  split at h
  · injection h with h; subst h; exact ⟨_, rfl⟩
  · cases h
theorem nat?_rel {ρ : Ren} {v : AV} {v' : Value} {n : Nat} (h : nat? v = some n) (hv : VRel ρ v v') : ∃ k, v' = .int k (.ofNat n) := by
  obtain ⟨k, rfl⟩ := nat?_int h
  cases hv; exact ⟨k, rfl⟩

theorem run_unA {ρ : Ren} {op : UnOp} {x v : AV} {x' : Value} (h : unA op x = some v) (hx : VRel ρ x x') : ∃ v', (Op.unary op x').run P w = .ok v' w ∧ VRel ρ v v' := by
  unfold unA at h
  split at h
  · injection h with h; subst h; cases hx
    exact ⟨_, rfl, by rw [wrapI_eq]; exact .int _ _⟩
  · injection h with h; subst h; cases hx
    exact ⟨_, rfl, .bool _⟩
  · cases h

theorem run_nilCheck {ρ : Ren} {o : Oper} {a : Act} {y : Operand} {x v : AV} (ho : o.op = .nilCheck y) (h : nilOk x = some v) (hx : VRel ρ x (a.eval y)) :
    (execOp a.eval o).run P w = .ok (.value (a.eval y)) w ∧ VRel ρ v (a.eval y) := by
  unfold execOp
  rw [ho]
  dsimp only
  generalize a.eval y = x' at *
  unfold nilOk at h
  split at h <;> first
    | (injection h with h; subst h; refine ⟨?_, hx⟩; cases hx <;> rfl)
    | cases h

theorem run_convPure {ρ : Ren} {s d : TypeId} {x v : AV} {x' : Value} (h : convPure P s d x = some v) (hx : VRel ρ x x') : ∃ v', (convert s d x').run P w = .ok v' w ∧ VRel ρ v v' := by
  unfold convPure at h
  split at h
  · split at h
    · rename_i hs hd; injection h with h; subst h; cases hx
      refine ⟨.int _ _, ?_, by rw [wrapI_eq]; exact .int _ _⟩
      unfold convert
      simp only [Sem.run_bind, und_run hs, und_run hd, Result.andThen_ok]
      rfl
    · cases h
  · split at h
    · rename_i hs hd; injection h with h; subst h; cases hx with | str s' l e =>
        refine ⟨.string s', ?_, .str _ _ e⟩
        unfold convert
        simp only [Sem.run_bind, und_run hs, und_run hd, Result.andThen_ok]
        rfl
    · cases h
  · cases h

theorem run_index_elem {ρ : Ren} {len s b off i : Nat} {v : AV} {c : Nat} (h : elemIdx len s b off i = some v) (hb : ρ b = some c) : i < len ∧ VRel ρ v (.pointer (some ((⟨c, off, none⟩ : Addr).add (i * s)))) := by
  unfold elemIdx at h
  split at h
  · rename_i hlt; injection h with h; subst h
    refine ⟨lt_of_blt hlt, ?_⟩
    unfold Addr.add
    split
    · rename_i h0; rw [h0]; exact .ptr _ _ _ hb
    · exact .ptr _ _ _ hb
  · cases h

theorem run_indexAddrA {ρ : Ren} {t : TypeId} {x ix v : AV} {x' ix' : Value} (h : indexAddrA P t x ix = some v) (hx : VRel ρ x x') (hi : VRel ρ ix ix') :
    ∃ v', (Instr.indexAt t x' ix').run P w = .ok v' w ∧ VRel ρ v v' := by
  unfold indexAddrA at h
  split at h
  · cases h
  · rename_i i hn
    obtain ⟨k, rfl⟩ := nat?_rel hn hi
    split at h
    · rename_i b off len cap
      split at h
      · rename_i e hu
        split at h
        · rename_i s hs
          cases hx with | sl _ _ _ _ a cap' h1 h2 h3 h4 =>
            have hlt : i < len := by
              unfold elemIdx at h; split at h
              · rename_i hb; exact lt_of_blt hb
              · cases h
            rcases h3 with h3 | ⟨c, hc, rfl⟩
            · omega
            · obtain ⟨_, hv⟩ := run_index_elem h hc
              refine ⟨_, ?_, hv⟩
              unfold Instr.indexAt
              simp only [asIntOf, Sem.run_bind, Sem.run_pure, Result.andThen_ok, und_run hu]
              have c1 : (0 : Int) ≤ Int.ofNat i ∧ Int.ofNat i < (len : Int) := by simp; omega
              simp only [c1, and_self, if_true, Sem.run_bind, sz_run hs, Result.andThen_ok, Sem.run_pure]
              rfl
        · cases h
      · cases h
    · rename_i b off
      split at h
      · rename_i n e hu
        split at h
        · rename_i s hs
          cases hx with | ptr _ _ c hc =>
            obtain ⟨hlt, hv⟩ := run_index_elem h hc
            refine ⟨_, ?_, hv⟩
            unfold Instr.indexAt
            simp only [asIntOf, Sem.run_bind, Sem.run_pure, Result.andThen_ok, und_run hu, Instr.sureAddr]
            have c1 : (0 : Int) ≤ Int.ofNat i ∧ Int.ofNat i < (n : Int) := by simp; omega
            simp only [c1, and_self, if_true, Sem.run_bind, sz_run hs, Result.andThen_ok, Sem.run_pure]
            rfl
        · cases h
      · cases h
    · cases h

def optRel (ρ : Ren) : Option AV → Option Value → Prop
  | none, none => True
  | some x, some y => VRel ρ x y
  | _, _ => False
theorem run_bnd {ρ : Ren} {x : AV} {x' : Value} {top d i : Nat} (code : BoundsCode) (h : bnd (some x) top d = some i) (hx : VRel ρ x x') : (Instr.sliceBound x' top code).run P w = .ok i w ∧ i ≤ top := by
  simp only [bnd] at h
  split at h
  · rename_i j hj
    obtain ⟨k, rfl⟩ := nat?_rel hj hx
    split at h
    · rename_i hb; injection h with h; subst h
      have hle := Nat.le_of_ble_eq_true hb
      refine ⟨?_, hle⟩
      unfold Instr.sliceBound
      have c1 : (0 : Int) ≤ Int.ofNat j ∧ Int.ofNat j ≤ (top : Int) := by simp; omega
      simp only [asIntOf, Sem.run_bind, Sem.run_pure, Result.andThen_ok, c1, and_self, if_true]
      rfl
    · cases h
  · cases h
/-- The bounds, where the real capacity is cap'. -/
theorem run_sliceBnd {ρ : Ren} {isSl : Bool} {len cap' : Nat} {cap : Option Nat} {lo hi mx : Option AV} {lo' hi' mx' : Option Value} {l h : Nat} {m : Option Nat}
    (e : sliceBnd len cap lo hi mx = some (l, h, m)) (h1 : len ≤ cap') (h2 : ∀ c, cap = some c → cap' = c) (rl : optRel ρ lo lo') (rh : optRel ρ hi hi') (rm : optRel ρ mx mx') :
    ∃ m', (Instr.sliceBounds isSl len cap' lo' hi' mx').run P w = .ok (l, h, m') w ∧ l ≤ h ∧ h ≤ m' ∧ m' ≤ cap' ∧ (∀ c, m = some c → m' = c) ∧ (h ≤ len ∨ (∃ c, cap = some c ∧ h ≤ c)) := by
  have htop : topOf len cap ≤ cap' := by
    cases cap with
    | none => exact h1
    | some c => rw [h2 c rfl]; exact Nat.le_refl _
  have bound_mono : ∀ {x : AV} {x' : Value} {top d i top' : Nat} (code : BoundsCode), bnd (some x) top d = some i → VRel ρ x x' → top ≤ top' → (Instr.sliceBound x' top' code).run P w = .ok i w ∧ i ≤ top := by
    intro x x' top d i top' code hb hx hle
    have := (run_bnd (P := P) (w := w) code hb hx).2
    refine ⟨(run_bnd (P := P) (w := w) (top := top') (d := d) code ?_ hx).1, this⟩
    simp only [bnd] at hb ⊢
    split at hb
    · rename_i j hj
      split at hb
      · injection hb with hb; subst hb
        rw [Nat.ble_eq_true_of_le (Nat.le_trans this hle)]
      · cases hb
    · cases hb
  have lopart : ∀ {hh ll mm : Nat} (code : BoundsCode), bnd lo hh 0 = some ll →
      (match lo' with
        | some v => (do let l ← Instr.sliceBound v hh code; pure (l, hh, mm) : Sem (Nat × Nat × Nat))
        | none => (do let l ← pure 0; pure (l, hh, mm) : Sem (Nat × Nat × Nat))).run P w = .ok (ll, hh, mm) w ∧ ll ≤ hh := by
    intro hh ll mm code hb
    cases lo with
    | none =>
      cases lo' with
      | some _ => exact rl.elim
      | none => simp only [bnd] at hb; injection hb with hb; subst hb; exact ⟨rfl, Nat.zero_le _⟩
    | some lv =>
      cases lo' with
      | none => exact rl.elim
      | some lv' =>
        obtain ⟨a, b⟩ := run_bnd (P := P) (w := w) code hb rl
        exact ⟨by simp only [Sem.run_bind, a, Result.andThen_ok]; rfl, b⟩
  unfold sliceBnd at e
  unfold Instr.sliceBounds
  cases mx with
  | none =>
    cases mx' with
    | some _ => exact rm.elim
    | none =>
      dsimp only at e
      split at e
      · rename_i hh hhe
        split at e
        · rename_i ll hle
          injection e with e; injection e with e1 e; injection e with e2 e3
          subst e1; subst e2; subst e3
          simp only [Sem.run_bind, Sem.run_pure, Result.andThen_ok]
          cases hi with
          | none =>
            cases hi' with
            | some _ => exact rh.elim
            | none =>
              simp only [bnd] at hhe; injection hhe with hhe; subst hhe
              obtain ⟨a, b⟩ := lopart (mm := cap') _ hle
              exact ⟨cap', by simp only [Sem.run_bind, Sem.run_pure, Result.andThen_ok]; exact a, b, h1, Nat.le_refl _, h2, .inl (Nat.le_refl _)⟩
          | some hv =>
            cases hi' with
            | none => exact rh.elim
            | some hv' =>
              obtain ⟨a1, b1⟩ := bound_mono (if isSl then .sliceAcap else .sliceAlen) hhe rh htop
              obtain ⟨a, b⟩ := lopart (mm := cap') _ hle
              refine ⟨cap', by simp only [Sem.run_bind, a1, Result.andThen_ok]; exact a, b, Nat.le_trans b1 htop, Nat.le_refl _, h2, ?_⟩
              cases cap with
              | none => exact .inl b1
              | some c => exact .inr ⟨c, rfl, b1⟩
        · cases e
      · cases e
  | some mv =>
    cases mx' with
    | none => exact rm.elim
    | some mv' =>
      dsimp only at e
      split at e
      · rename_i mm hv hme
        cases hi' with
        | none => exact rh.elim
        | some hv' =>
          split at e
          · rename_i hh hhe
            split at e
            · rename_i ll hle
              injection e with e; injection e with e1 e; injection e with e2 e3
              subst e1; subst e2; subst e3
              obtain ⟨a1, b1⟩ := bound_mono (if isSl then .slice3Acap else .slice3Alen) hme rm htop
              obtain ⟨a2, b2⟩ := bound_mono .slice3B hhe rh (Nat.le_refl _)
              obtain ⟨a, b⟩ := lopart (mm := mm) _ hle
              refine ⟨mm, by simp only [Sem.run_bind, a1, a2, Result.andThen_ok]; exact a, b, b2, Nat.le_trans b1 htop, fun c hc => by injection hc, ?_⟩
              cases cap with
              | none => exact .inl (Nat.le_trans b2 b1)
              | some c => exact .inr ⟨c, rfl, Nat.le_trans b2 b1⟩
            · cases e
          · cases e
      · cases e
end
end Go.Ab

namespace Go.Ab
section
variable {P : Program} {w : World}

theorem addr_add (c off n : Nat) : (⟨c, off, none⟩ : Addr).add n = ⟨c, off + n, none⟩ := by
  unfold Addr.add; split
  · rename_i h; rw [h]; rfl
  · rfl

theorem sl_cut {ρ : Ren} {b off : Nat} {a : Addr} {cap' l h m' s : Nat} {m : Option Nat}
    (h3 : cap' = 0 ∨ ∃ c, ρ b = some c ∧ a = ⟨c, off, none⟩) (hk : m = none → cap' ≤ ρ.k b ∧ ∃ c, ρ b = some c) (k1 : l ≤ h) (k2 : h ≤ m') (k3 : m' ≤ cap') (k4 : ∀ c, m = some c → m' = c) :
    VRel ρ (.sl b (off + l * s) (h - l) (cutCap m l)) (.slice (some (if m' = l then a else a.add (l * s))) (h - l) (m' - l)) := by
  refine .sl _ _ _ _ _ _ (by omega) ?_ ?_ (fun e => by
    cases m with
    | none => obtain ⟨g, c⟩ := hk rfl; exact ⟨by omega, c⟩
    | some d => cases e)
  · intro c hc
    cases m with
    | none => simp [cutCap] at hc
    | some d => simp [cutCap] at hc; rw [k4 d rfl]; exact hc
  · by_cases e : m' = l
    · exact .inl (by omega)
    · rw [if_neg e]
      rcases h3 with h3 | ⟨c, hc, rfl⟩
      · omega
      · exact .inr ⟨c, hc, addr_add _ _ _⟩

theorem sliceBnd_cap {len : Nat} {cap : Option Nat} {lo hi mx : Option AV} {l h : Nat} {m : Option Nat} (e : sliceBnd len cap lo hi mx = some (l, h, m)) (hm : m = none) : cap = none := by
  subst hm
  unfold sliceBnd at e
  split at e
  · split at e
    · split at e
      · injection e with e; injection e with _ e; injection e
      · cases e
    · cases e
  · split at e
    · split at e
      · split at e
        · injection e with e; injection e with _ e; injection e with _ e; cases e
        · cases e
      · cases e
    · cases e

theorem run_sliceA {ρ : Ren} {t : TypeId} {x v : AV} {lo hi mx : Option AV} {x' : Value} {lo' hi' mx' : Option Value} (h : sliceA P t x lo hi mx = some v) (hx : VRel ρ x x')
    (rl : optRel ρ lo lo') (rh : optRel ρ hi hi') (rm : optRel ρ mx mx') : ∃ v', (Instr.sliceAt t x' lo' hi' mx').run P w = .ok v' w ∧ VRel ρ v v' := by
  unfold sliceA at h
  unfold Instr.sliceAt
  split at h
  · -- a string
    split at h
    · rename_i hu
      cases mx' with
      | some _ => exact rm.elim
      | none =>
        split at h
        · rename_i l hh m hb
          injection h with h; subst h
          cases hx with | str s l0 e =>
            subst e
            have hlen : (s.data.toList.map UInt8.toNat).length = s.size := by simp
            rw [hlen] at hb
            obtain ⟨m', h1, h2, h3, h4, h5, h6⟩ := run_sliceBnd (P := P) (w := w) (isSl := false) hb (Nat.le_refl _) (fun c hc => by injection hc) rl rh rm
            refine ⟨.string (s.extract l hh), ?_, .str _ _ ?_⟩
            · simp only [Sem.run_bind, und_run hu, Result.andThen_ok]
              unfold Instr.slice
              simp only [Sem.run_bind, und_run hu, Result.andThen_ok, Option.isSome_none, Bool.false_eq_true, if_false, h1]
              rfl
            · rw [ByteArray.data_extract]
              simp [List.map_drop, List.map_take]
        · cases h
    · cases h
  · -- a slice
    rename_i b off len cap
    split at h
    · rename_i e hu
      split at h
      · rename_i s hs
        unfold sliceRow at h
        split at h
        · rename_i l hh m hb
          injection h with h; subst h
          cases hx with | sl _ _ _ _ a cap' g1 g2 g3 g4 =>
            obtain ⟨m', h1, h2, h3, h4, h5, h6⟩ := run_sliceBnd (P := P) (w := w) (isSl := true) hb g1 g2 rl rh rm
            refine ⟨_, ?_, sl_cut g3 (fun e => g4 (sliceBnd_cap hb e)) h2 h3 h4 h5⟩
            simp only [Sem.run_bind, und_run hu, Result.andThen_ok]
            unfold Instr.slice
            simp only [Sem.run_bind, und_run hu, Result.andThen_ok, h1, sz_run hs]
            by_cases e : m' = l <;> simp [e]
        · cases h
      · cases h
    · cases h
  · -- no slice
    split at h
    · rename_i e hu
      split at h
      · rename_i s q hs hb
        injection h with h; subst h
        cases hx
        obtain ⟨⟨l, hh, m⟩, hq⟩ : ∃ r, r = q := ⟨q, rfl⟩
        subst hq
        obtain ⟨m', h1, h2, h3, h4, h5, h6⟩ := run_sliceBnd (P := P) (w := w) (isSl := true) (cap' := 0) hb (Nat.le_refl _) (fun c hc => by injection hc) rl rh rm
        refine ⟨_, ?_, .nilSl⟩
        simp only [Sem.run_bind, und_run hu, Result.andThen_ok]
        unfold Instr.slice
        simp only [Sem.run_bind, und_run hu, Result.andThen_ok, h1, sz_run hs]
        have e1 : l = 0 := by omega
        have e2 : hh = 0 := by omega
        have e3 : m' = 0 := by omega
        subst e1; subst e2; subst e3
        simp
      · cases h
    · cases h
  · -- an array's address
    rename_i b off
    split at h
    · rename_i n e hu
      split at h
      · rename_i s hs
        unfold sliceRow at h
        split at h
        · rename_i l hh m hb
          injection h with h; subst h
          cases hx with | ptr _ _ c hc =>
            obtain ⟨m', h1, h2, h3, h4, h5, h6⟩ := run_sliceBnd (P := P) (w := w) (isSl := false) hb (Nat.le_refl _) (fun c hc => by injection hc) rl rh rm
            refine ⟨_, ?_, sl_cut (.inr ⟨c, hc, rfl⟩) (fun e => by cases sliceBnd_cap hb e) h2 h3 h4 h5⟩
            simp only [Sem.run_bind, und_run hu, Result.andThen_ok, Instr.sureAddr, Sem.run_pure, h1, sz_run hs]
        · cases h
      · cases h
    · rename_i arr hu
      split at h
      · rename_i n e hu2
        split at h
        · rename_i s hs
          unfold sliceRow at h
          split at h
          · rename_i l hh m hb
            injection h with h; subst h
            cases hx with | ptr _ _ c hc =>
              obtain ⟨m', h1, h2, h3, h4, h5, h6⟩ := run_sliceBnd (P := P) (w := w) (isSl := false) hb (Nat.le_refl _) (fun c hc => by injection hc) rl rh rm
              refine ⟨_, ?_, sl_cut (.inr ⟨c, hc, rfl⟩) (fun e => by cases sliceBnd_cap hb e) h2 h3 h4 h5⟩
              simp only [Sem.run_bind, und_run hu, Result.andThen_ok]
              unfold Instr.slice
              simp only [Sem.run_bind, und_run hu, und_run hu2, Result.andThen_ok, asAddr, Sem.run_pure, h1, sz_run hs]
          · cases h
        · cases h
      · cases h
    · cases h
  · cases h

theorem run_fieldAt {ρ : Ren} {t : TypeId} {fs : Array Field} {f : Nat} {fd : Field} {s : Nat} {x v : AV} {x' : Value} (hu : P.underlying t = some (.struct fs)) (hf : fs[f]? = some fd) (hs : szOf P fd.type = some (s + 1))
    (h : fieldAt fd.offset x = some v) (hx : VRel ρ x x') : ∃ v', (Instr.fieldAt t x' f).run P w = .ok v' w ∧ VRel ρ v v' := by
  unfold fieldAt at h
  split at h
  · injection h with h; subst h
    cases hx with | ptr _ _ c hc =>
      refine ⟨_, ?_, .ptr _ _ _ hc⟩
      unfold Instr.fieldAt fieldPlace
      simp only [Sem.run_bind, und_run hu, Result.andThen_ok, hf, Instr.sureAddr, Sem.run_pure, sz_run hs]
      simp [addr_add]
  · cases h

theorem run_field {ρ : Ren} {t : TypeId} {fs : Array Field} {f : Nat} {fd : Field} {s : Nat} {ag : Bool} {cs : List AV} {v : AV} {x' : Value} (hu : P.underlying t = some (.struct fs)) (hf : fs[f]? = some fd) (hs : szOf P fd.type = some s)
    (ha : isAgg P fd.type = some ag) (h : partA ag s fd.offset cs = some v) (hx : VRel ρ (.agg cs) x') : ∃ v', (Instr.field t x' f).run P w = .ok v' w ∧ VRel ρ v v' := by
  cases hx with | agg _ cs' hc =>
    obtain ⟨v', e, hv⟩ := part_run (w := w) ha hs hc h
    refine ⟨v', ?_, hv⟩
    unfold Instr.field
    simp only [Sem.run_bind, und_run hu, Result.andThen_ok, hf, asAgg, Sem.run_pure, e]

theorem run_indexA {ρ : Ren} {t : TypeId} {x i v : AV} {x' i' : Value} (h : indexA P t x i = some v) (hx : VRel ρ x x') (hi : VRel ρ i i') : ∃ v', (Instr.index t x' i').run P w = .ok v' w ∧ VRel ρ v v' := by
  unfold indexA at h
  split at h
  · rename_i s n hu hn
    obtain ⟨k, rfl⟩ := nat?_rel hn hi
    split at h
    · rename_i c hc
      injection h with h; subst h
      cases hx with | str s' _ e =>
        subst e
        rw [List.getElem?_map] at hc
        have hb : ∃ b, s'.data.toList[n]? = some b ∧ b.toNat = c := by
          cases hq : s'.data.toList[n]? with
          | none => rw [hq] at hc; simp at hc
          | some b => rw [hq] at hc; simp at hc; exact ⟨b, rfl, hc⟩
        obtain ⟨b, hb, rfl⟩ := hb
        have hlt : n < s'.size := by
          have := (List.getElem?_eq_some_iff.1 hb).1
          simpa using this
        refine ⟨.int .u8 b.toNat, ?_, .int _ _⟩
        unfold Instr.index
        simp only [asIntOf, Sem.run_bind, Sem.run_pure, Result.andThen_ok, und_run hu]
        have e1 : s'[n]? = some b := by
          rw [getElem?_pos s' n hlt]
          have := (List.getElem?_eq_some_iff.1 hb).2
          rw [← this]; rfl
        simp [e1]
    · cases h
  · rename_i n e cs j hu hn
    obtain ⟨k, rfl⟩ := nat?_rel hn hi
    split at h
    · rename_i ag s hlt ha hs
      cases hx with | agg _ cs' hc =>
        obtain ⟨v', ev, hv⟩ := part_run (w := w) ha hs hc h
        refine ⟨v', ?_, hv⟩
        have := lt_of_blt hlt
        unfold Instr.index
        simp only [asIntOf, Sem.run_bind, Sem.run_pure, Result.andThen_ok, und_run hu]
        have c1 : (0 : Int) ≤ Int.ofNat j ∧ Int.ofNat j < (n : Int) := by simp; omega
        simp only [c1, and_self, if_true, Sem.run_bind, sz_run hs, Result.andThen_ok]
        exact ev
    · cases h
  · cases h

theorem okPair_rel {ρ : Ren} {ok : Bool} {v : AV} {v' : Value} {b : Bool} (h : VRel ρ v v') : VRel ρ (okPair ok v b) (if ok then .tuple #[v', .bool b] else v') := by
  cases ok with
  | true => exact .tuple _ _ (.cons _ _ _ _ h (.cons _ _ _ _ (.bool b) .nil))
  | false => exact h
theorem run_typeAssertA {ρ : Ren} {x v : AV} {xt t : TypeId} {ok : Bool} {x' : Value} (h : typeAssertA P x t ok = some v) (hx : VRel ρ x x') : ∃ v', (Instr.typeAssert x' xt t ok).run P w = .ok v' w ∧ VRel ρ v v' := by
  have fails : ∀ {v : AV}, assertFails P t ok = some v → ∃ v', VRel ρ v v' ∧ ok = true ∧ (do pure (.tuple #[← zeroValue t, .bool false]) : Sem Value).run P w = .ok v' w := by
    intro v h
    unfold assertFails at h
    split at h
    · split at h
      · rename_i z hz
        injection h with h; subst h
        obtain ⟨zv, e1, e2⟩ := zeroVal_run (w := w) hz
        exact ⟨.tuple #[zv, .bool false], .tuple _ _ (.cons _ _ _ _ (e2 ρ) (.cons _ _ _ _ (.bool false) .nil)), rfl, by simp [e1]⟩
      · cases h
    · cases h
  unfold typeAssertA at h
  unfold Instr.typeAssert
  split at h
  · rename_i ms hu
    cases hx
    obtain ⟨v', e1, e2, e3⟩ := fails h
    refine ⟨v', ?_, e1⟩
    subst e2
    simp only [Sem.run_bind, und_run hu, Result.andThen_ok]
    simpa using e3
  · rename_i want t' y hu
    cases hx with | iface _ _ y' hy =>
      split at h
      · rename_i i hi
        split at h
        · rename_i hm
          injection h with h; subst h
          refine ⟨_, ?_, okPair_rel (.iface _ _ _ hy)⟩
          simp only [Sem.run_bind, und_run hu, Result.andThen_ok, info_run hi, hm]
          rfl
        · rename_i m hm
          obtain ⟨v', e1, e2, e3⟩ := fails h
          refine ⟨v', ?_, e1⟩
          subst e2
          simp only [Sem.run_bind, und_run hu, Result.andThen_ok, info_run hi, hm]
          simpa using e3
      · cases h
  · rename_i d hd hu
    cases hx
    obtain ⟨v', e1, e2, e3⟩ := fails h
    refine ⟨v', ?_, e1⟩
    subst e2
    simp only [Sem.run_bind, und_run hu, Result.andThen_ok]
    cases d <;> first
      | (exact absurd rfl (hd _))
      | simpa using e3
  · rename_i d t' y hd hu
    cases hx with | iface _ _ y' hy =>
      split at h
      · rename_i hb
        have := Nat.eq_of_beq_eq_true hb
        subst this
        injection h with h; subst h
        refine ⟨_, ?_, okPair_rel hy⟩
        simp only [Sem.run_bind, und_run hu, Result.andThen_ok]
        cases d <;> first
          | (exact absurd rfl (hd _ _ _))
          | simp
      · rename_i hb
        have hne : ¬ t' = t := fun e => by rw [nbeq_t e] at hb; cases hb
        obtain ⟨v', e1, e2, e3⟩ := fails h
        refine ⟨v', ?_, e1⟩
        subst e2
        simp only [Sem.run_bind, und_run hu, Result.andThen_ok]
        cases d <;> first
          | (exact absurd rfl (hd _ _ _))
          | (simp [hne]; simpa using e3)
  · cases h

theorem run_mmI {ρ : Ren} {mx : Bool} : ∀ {xs : List AV} {x v : AV} {x' : Value} {xs' : List Value}, mmI mx x xs = some v → VRel ρ x x' → VRels ρ xs xs' →
    ∃ v', (xs'.foldlM (if mx then Builtin.max2 else Builtin.min2) x').run P w = .ok v' w ∧ VRel ρ v v'
  | [], x, v, x', _, h, hx, .nil => by simp [mmI] at h; subst h; exact ⟨x', rfl, hx⟩
  | y :: ys, x, v, x', _, h, hx, .cons _ y' _ ys' hy hys => by
    unfold mmI at h
    split at h
    · simp_all
    · rename_i k a k2 b rest e1
      injection e1 with e1 e2
      subst e1; subst e2
      cases hx; cases hy
      split at h
      · obtain ⟨v', e, hv⟩ := run_mmI (mx := true) h (.int _ _) hys
        refine ⟨v', ?_, hv⟩
        rw [List.foldlM_cons]
        simp only [Sem.run_bind, if_true]
        have : (Builtin.max2 (.int k a) (.int k2 b)).run P w = .ok (.int k (match iLe b a with | true => a | false => b)) w := by
          rw [iLe_eq]
          simp only [Builtin.max2]
          by_cases c : b ≤ a
          · simp [c, show ¬ b > a from by omega]
          · simp [c, show b > a from by omega]
        rw [this]; exact e
      · obtain ⟨v', e, hv⟩ := run_mmI (mx := false) h (.int _ _) hys
        refine ⟨v', ?_, hv⟩
        rw [List.foldlM_cons]
        simp only [Sem.run_bind, Bool.false_eq_true, if_false]
        have : (Builtin.min2 (.int k a) (.int k2 b)).run P w = .ok (.int k (match iLe a b with | true => a | false => b)) w := by
          rw [iLe_eq]
          simp only [Builtin.min2]
          by_cases c : a ≤ b
          · simp [c, show ¬ b < a from by omega]
          · simp [c, show b < a from by omega]
        rw [this]
        revert e
        simp only [Bool.false_eq_true, if_false]
        cases iLe a b <;> exact id
    · cases h
end
end Go.Ab
