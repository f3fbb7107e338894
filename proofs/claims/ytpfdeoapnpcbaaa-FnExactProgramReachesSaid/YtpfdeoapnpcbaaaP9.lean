/-
  What is proved here: both tell the same of an expression, and both give it the same value.
  Conditions: none.
-/
import Derived.Test.YtpfdeoapnpcbaaaP7
set_option linter.unusedSectionVars false
namespace Go.Proofs.Ytpfdeoapnpcbaaa
open Go.Vs
set_option linter.unusedVariables false
set_option linter.unusedSimpArgs false
set_option maxHeartbeats 1000000

abbrev nIn : ByteArray := ⟨#[105, 110]⟩
abbrev nConst : ByteArray := ⟨#[99, 111, 110, 115, 116]⟩
def ops10 : List ByteArray := [nAdd, nSub, nMul, nAnd, nOr, nXor, nShl, nShr, nLess, nEq]
theorem exTwo_iff {op : ByteArray} : m_spec_exTwo op = true ↔ op ∈ ops10 := by
  unfold m_spec_exTwo
  rw [l1HasS_iff]; rfl
theorem binary_iff {op : ByteArray} : m_slices_Contains_S_string_string m_impl_binary op = true ↔ op ∈ ops10 := by
  rw [containsS_iff]; rfl
theorem exOne_iff {op : ByteArray} : m_spec_exOne op = true ↔ op = nNot ∨ op = nNeg := by
  unfold m_spec_exOne bd
  simp
/-- how many operands -/
theorem operands_in : m_impl_operands nIn = 0 := by unfold m_impl_operands bd; simp
theorem operands_con : m_impl_operands nConst = 0 := by unfold m_impl_operands bd; simp
theorem operands_one {op : ByteArray} (h : op = nNot ∨ op = nNeg) : m_impl_operands op = 1 := by
  simp only [m_impl_operands, bd]
  rcases h with rfl | rfl
  · rw [if_neg (by decide), if_pos (by decide)]
  · rw [if_neg (by decide), if_pos (by decide)]
theorem ops10_not {op : ByteArray} (h : op ∈ ops10) : op ≠ nIn ∧ op ≠ nConst ∧ op ≠ nNot ∧ op ≠ nNeg := by
  simp only [ops10, List.mem_cons, List.not_mem_nil, or_false] at h
  rcases h with rfl | rfl | rfl | rfl | rfl | rfl | rfl | rfl | rfl | rfl <;> decide
theorem operands_two {op : ByteArray} (h : op ∈ ops10) : m_impl_operands op = 2 := by
  obtain ⟨h1, h2, h3, h4⟩ := ops10_not h
  simp only [m_impl_operands, bd]
  rw [if_neg (by simp [h1, h2]), if_neg (by simp [h3, h4]), if_pos (binary_iff.2 h)]
theorem operands_no {op : ByteArray} (h1 : op ≠ nIn) (h2 : op ≠ nConst) (h3 : ¬ (op = nNot ∨ op = nNeg)) (h4 : op ∉ ops10) : m_impl_operands op = -1 := by
  simp only [m_impl_operands, bd]
  rw [if_neg (by simp [h1, h2]), if_neg (by simpa using h3), if_neg (fun e => h4 (binary_iff.1 e))]
/-- the kind of an op -/
inductive Kd (op : ByteArray) : Prop
  | inp (h : op = nIn)
  | con (h : op = nConst)
  | one (h : op = nNot ∨ op = nNeg)
  | two (h : op ∈ ops10)
  | no (h1 : op ≠ nIn) (h2 : op ≠ nConst) (h3 : ¬ (op = nNot ∨ op = nNeg)) (h4 : op ∉ ops10)
theorem kd (op : ByteArray) : Kd op := by
  by_cases h1 : op = nIn
  · exact .inp h1
  by_cases h2 : op = nConst
  · exact .con h2
  by_cases h3 : op = nNot ∨ op = nNeg
  · exact .one h3
  by_cases h4 : op ∈ ops10
  · exact .two h4
  exact .no h1 h2 h3 h4
theorem isNode_eq (x : GNode) (i : Int) : m__impl_Node_isNode x i = m_spec_exNode x i := by
  obtain ⟨op, A, B, V⟩ := x
  unfold m__impl_Node_isNode m_spec_exNode
  simp only [m__impl_Node_isNode_l0, bd, within_same, m_impl_isWord, m_spec_exWord]
  rcases kd op with h | h | h | h | ⟨h1, h2, h3, h4⟩
  · subst h
    rw [operands_in, Bool.eq_iff_iff]; simp
  · subst h
    rw [operands_con, Bool.eq_iff_iff]; simp
  · have e1 : ¬ (op = nIn ∨ op = nConst) := by rintro (e | e) <;> rcases h with h | h <;> rw [h] at e <;> revert e <;> decide
    have e2 : m_spec_exOne op = true := exOne_iff.2 h
    have e3 : op ≠ nIn := fun e => e1 (.inl e)
    have e4 : op ≠ nConst := fun e => e1 (.inr e)
    rw [operands_one h, Bool.eq_iff_iff]
    simp [e2, e3, e4]
  · obtain ⟨e1, e2, e3, e4⟩ := ops10_not h
    have e5 : m_spec_exOne op = false := by
      rw [Bool.eq_false_iff]; intro e; rcases exOne_iff.1 e with e | e
      · exact e3 e
      · exact e4 e
    have e6 : m_spec_exTwo op = true := exTwo_iff.2 h
    rw [operands_two h, Bool.eq_iff_iff]
    simp [e1, e2, e5, e6]
  · have e5 : m_spec_exOne op = false := by
      rw [Bool.eq_false_iff]; intro e; exact h3 (exOne_iff.1 e)
    have e6 : m_spec_exTwo op = false := by
      rw [Bool.eq_false_iff]; intro e; exact h4 (exTwo_iff.1 e)
    rw [operands_no h1 h2 h3 h4]
    simp [h1, h2, e5, e6]
end Go.Proofs.Ytpfdeoapnpcbaaa
