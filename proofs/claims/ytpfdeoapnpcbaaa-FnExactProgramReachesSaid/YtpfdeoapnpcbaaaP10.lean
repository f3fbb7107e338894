/-
  What is proved here: both tell the same of an expression, and both give it the same value.
  Conditions: none.
-/
import Derived.Test.YtpfdeoapnpcbaaaP9
set_option linter.unusedSectionVars false
namespace Go.Proofs.Ytpfdeoapnpcbaaa
open Go.Vs
set_option linter.unusedVariables false
set_option linter.unusedSimpArgs false
set_option maxHeartbeats 1000000

/-- what a node that is one is -/
inductive NodeIs (x : GNode) (i : Int) : Prop
  | inp (h : x.Op = nIn) (hv : x.Value = 0 ∨ x.Value = 1)
  | con (h : x.Op = nConst) (hv : Wd x.Value)
  | one (h : x.Op = nNot ∨ x.Op = nNeg) (ha : 0 ≤ x.A ∧ x.A ≤ i - 1) (hb : x.B = 0)
  | two (h : x.Op ∈ ops10) (ha : 0 ≤ x.A ∧ x.A ≤ i - 1) (hb : 0 ≤ x.B ∧ x.B ≤ i - 1)
theorem one_not {op : ByteArray} (h : op = nNot ∨ op = nNeg) : op ≠ nIn ∧ op ≠ nConst := by
  rcases h with rfl | rfl <;> decide
theorem two_one {op : ByteArray} (h : op ∈ ops10) : m_spec_exOne op = false := by
  obtain ⟨_, _, e3, e4⟩ := ops10_not h
  rw [Bool.eq_false_iff]; intro e; rcases exOne_iff.1 e with e | e
  · exact e3 e
  · exact e4 e
theorem node_is {x : GNode} {i : Int} (h0 : 0 ≤ i) (h1 : i ≤ 1000000) (h : m_spec_exNode x i = true) : NodeIs x i := by
  obtain ⟨op, A, B, V⟩ := x
  simp only [m_spec_exNode, bd, m_spec_exWord, w64_id (x := i - 1) (by omega) (by omega)] at h
  rcases kd op with k | k | k | k | ⟨h1, h2, h3, h4⟩
  · subst k
    simp [l1In_iff] at h
    exact .inp rfl (by simp; omega)
  · subst k
    simp [l1In_iff] at h
    exact .con rfl h.2.2
  · obtain ⟨e3, e4⟩ := one_not k
    have e2 : m_spec_exOne op = true := exOne_iff.2 k
    simp [e2, e3, e4, l1In_iff] at h
    exact .one k h.1 h.2.1
  · obtain ⟨e1, e2, e3, e4⟩ := ops10_not k
    have e6 : m_spec_exTwo op = true := exTwo_iff.2 k
    simp [e1, e2, two_one k, e6, l1In_iff] at h
    exact .two k h.1 h.2.1
  · have e5 : m_spec_exOne op = false := by
      rw [Bool.eq_false_iff]; intro e; exact h3 (exOne_iff.1 e)
    have e6 : m_spec_exTwo op = false := by
      rw [Bool.eq_false_iff]; intro e; exact h4 (exTwo_iff.1 e)
    simp [h1, h2, e5, e6] at h
theorem parts_same {x : GNode} {i : Int} (h : NodeIs x i) : m__impl_Node_of x = some (m_spec_exParts x) ∧ ∀ y ∈ m_spec_exParts x, 0 ≤ y ∧ y ≤ i - 1 := by
  obtain ⟨op, A, B, V⟩ := x
  unfold m__impl_Node_of m_spec_exParts
  rcases h with ⟨k, hv⟩ | ⟨k, hv⟩ | ⟨k, ha, hb⟩ | ⟨k, ha, hb⟩
  · simp only at k; subst k
    have e1 : m_spec_exOne nIn = false := by rw [Bool.eq_false_iff]; intro e; have := exOne_iff.1 e; revert this; decide
    have e2 : m_spec_exTwo nIn = false := by rw [Bool.eq_false_iff]; intro e; exact (ops10_not (exTwo_iff.1 e)).1 rfl
    rw [operands_in]
    simp [e1, e2, subI]
  · simp only at k; subst k
    have e1 : m_spec_exOne nConst = false := by rw [Bool.eq_false_iff]; intro e; have := exOne_iff.1 e; revert this; decide
    have e2 : m_spec_exTwo nConst = false := by rw [Bool.eq_false_iff]; intro e; exact (ops10_not (exTwo_iff.1 e)).2.1 rfl
    rw [operands_con]
    simp [e1, e2, subI]
  · simp only at k ha hb
    have e1 : m_spec_exOne op = true := exOne_iff.2 k
    rw [operands_one k]
    simp [e1, subI, ha]
  · simp only at k ha hb
    have e2 : m_spec_exTwo op = true := exTwo_iff.2 k
    rw [operands_two k]
    simp [two_one k, e2, subI, ha, hb]
theorem uses_l1_same : ∀ (zs s : List Int), m_impl_uses_l1 zs s = m_spec_exUses_l1 zs s
  | [], s => rfl
  | z :: zs, s => by
    rw [m_impl_uses_l1, m_spec_exUses_l1]
    congr 1; funext a; congr 1; funext b
    exact uses_l1_same zs b
theorem uses_l1_ok : ∀ (zs s : List Int), (∀ y ∈ zs, 0 ≤ y ∧ y < s.length) → ∃ r, m_spec_exUses_l1 zs s = some r ∧ r.length = s.length
  | [], s, _ => ⟨s, rfl, rfl⟩
  | z :: zs, s, h => by
    obtain ⟨h0, h1⟩ := h z (by simp)
    obtain ⟨m, rfl⟩ := Int.eq_ofNat_of_zero_le h0
    have hm : m < s.length := by omega
    rw [m_spec_exUses_l1, getI_n, List.getElem?_eq_getElem hm, Option.bind_some, setI_n hm, Option.bind_some]
    obtain ⟨r, h2, h3⟩ := uses_l1_ok zs (s.set m (w64 (s[m] + 1))) (fun y hy => by simpa using h y (by simp [hy]))
    exact ⟨r, h2, by simpa using h3⟩
def GoodN (a : List GNode) : Prop := ∀ (j : Nat) x, a[j]? = some x → NodeIs x (j : Int)
theorem uses_l0 {a : List GNode} (hg : GoodN a) : ∀ (zs : List GNode) (i : Nat) (s : List Int), a.drop i = zs → s.length = a.length → ∃ r, m_impl_uses_l0 zs s = some r ∧ m_spec_exUses_l0 zs s = some r ∧ r.length = a.length
  | [], i, s, h, hs => ⟨s, rfl, rfl, hs⟩
  | x :: zs, i, s, h, hs => by
    obtain ⟨h1, h2⟩ := drop_tail h
    have hgt : a[i]? = some x := by
      have := congrArg List.head? h
      simpa [List.head?_drop] using this
    obtain ⟨p1, p2⟩ := parts_same (hg i x hgt)
    obtain ⟨r, r1, r2⟩ := uses_l1_ok (m_spec_exParts x) s (fun y hy => by have := p2 y hy; omega)
    rw [m_impl_uses_l0, m_spec_exUses_l0, p1, Option.bind_some, uses_l1_same, r1, Option.bind_some, Option.bind_some]
    exact uses_l0 hg zs (i + 1) r h1 (by omega)
theorem has_same (xs : List Int) (y : Int) : m_slices_Contains_S_int_int xs y = m_spec_l1Has xs y := by
  rw [Bool.eq_iff_iff, containsI_iff, l1Has_iff]
theorem good_l0 {a : List GNode} (h1 : 1 ≤ a.length) (h2 : a.length ≤ 24) : ∀ (zs : List GNode) (i : Nat), a.drop i = zs → (∀ (j : Nat) x, j < i → a[j]? = some x → NodeIs x (j : Int)) →
    ∃ b, m_impl_IsExpr_l0 a zs (i : Int) = some b ∧ m_spec_exGood_l0 a zs (i : Int) = some b ∧ (b = true → GoodN a)
  | [], i, h, hp => by
    have hi : a.length ≤ i := by simpa using h
    have hg : GoodN a := fun j x hx => hp j x (by have := (List.getElem?_eq_some_iff.1 hx).1; omega) hx
    obtain ⟨r, r1, r2, r3⟩ := uses_l0 hg a 0 (List.replicate a.length 0) rfl (by simp)
    have e1 : m_impl_uses a = some r := by
      unfold m_impl_uses
      rw [makI_n (by unfold LIM; omega), Option.bind_some, r1]; rfl
    have e2 : m_spec_exUses a = some r := by
      unfold m_spec_exUses
      rw [makI_n (by unfold LIM; omega), Option.bind_some, r2]; rfl
    have e3 : subI r 0 (w64 ((a.length : Int) - 1)) = some (r.take (a.length - 1)) := by
      rw [w64_id (by omega) (by omega), show (a.length : Int) - 1 = ((a.length - 1 : Nat) : Int) by omega, subI_take (by omega)]
    refine ⟨!(m_spec_l1Has (r.take (a.length - 1)) 0), ?_, ?_, fun _ => hg⟩
    · rw [m_impl_IsExpr_l0, e1, Option.bind_some, e3, Option.bind_some, has_same]
    · rw [m_spec_exGood_l0, e2, Option.bind_some, e3, Option.bind_some]
  | x :: zs, i, h, hp => by
    obtain ⟨k1, k2⟩ := drop_tail h
    have hgt : a[i]? = some x := by
      have := congrArg List.head? h
      simpa [List.head?_drop] using this
    rw [m_impl_IsExpr_l0, m_spec_exGood_l0, isNode_eq]
    cases hn : m_spec_exNode x (i : Int) with
    | false => exact ⟨false, rfl, rfl, fun h => by cases h⟩
    | true =>
      simp only [Bool.not_true, Bool.false_eq_true, if_false]
      rw [show ((i : Nat) : Int) + 1 = ((i + 1 : Nat) : Int) by simp]
      refine good_l0 h1 h2 zs (i + 1) k1 (fun j y hj hy => ?_)
      by_cases e : j < i
      · exact hp j y e hy
      · obtain rfl : j = i := by omega
        rw [hgt] at hy; cases hy
        exact node_is (by omega) (by omega) hn
def GoodE (a : List GNode) : Prop := (1 ≤ a.length ∧ a.length ≤ 24) ∧ GoodN a
theorem expr_same (a : List GNode) : ∃ b, m_impl_IsExpr a = some b ∧ m_spec_exGood a = some b ∧ (b = true → GoodE a) := by
  unfold m_impl_IsExpr m_spec_exGood
  rw [within_same]
  cases hn : m_spec_l1In (a.length : Int) 1 24 with
  | false => exact ⟨false, rfl, rfl, fun h => by cases h⟩
  | true =>
    obtain ⟨k1, k2⟩ := l1In_iff.1 hn
    obtain ⟨b, b1, b2, b3⟩ := good_l0 (a := a) (by omega) (by omega) a 0 rfl (fun j x hj => by omega)
    exact ⟨b, by simpa using b1, by simpa using b2, fun h => ⟨⟨by omega, by omega⟩, b3 h⟩⟩

/-! ### values -/
theorem one_b {op : ByteArray} (h : op = nNot ∨ op = nNeg) (a b : Int) : m_spec_exApply op a b = m_spec_exApply op a 0 := by
  unfold m_spec_exApply
  congr 1
  rcases h with rfl | rfl
  · first | rw [if_pos (by decide), if_pos (by decide)] | simp
  · first | rw [if_neg (by decide), if_pos (by decide), if_neg (by decide), if_pos (by decide)] | simp
theorem take_set {α : Type} {s : List α} {i : Nat} {v : α} (h : i < s.length) : (s.set i v).take (i + 1) = s.take i ++ [v] := by
  rw [List.take_add_one, List.getElem?_set_self h, List.take_set_of_le (Nat.le_refl _)]; rfl
theorem get_take {s : List Int} {i : Nat} {j : Int} (hi : i ≤ s.length) (h0 : 0 ≤ j) (h1 : j ≤ (i : Int) - 1) (hw : ∀ y ∈ s.take i, Wd y) : ∃ v, Wd v ∧ getI s j = some v ∧ getI (s.take i) j = some v := by
  obtain ⟨m, rfl⟩ := Int.eq_ofNat_of_zero_le h0
  have hm : m < (s.take i).length := by rw [List.length_take]; omega
  have hm2 : m < s.length := by omega
  refine ⟨(s.take i)[m], hw _ (List.getElem_mem hm), ?_, ?_⟩
  · rw [getI_n, List.getElem?_eq_getElem hm2]; simp
  · rw [getI_n, List.getElem?_eq_getElem hm]
theorem values_l0 {a : List GNode} (hg : GoodN a) (hn : a.length ≤ 24) {x0 x1 : Int} (w0 : Wd x0) (w1 : Wd x1) : ∀ (zs : List GNode) (i : Nat) (s : List Int), a.drop i = zs → i ≤ a.length → s.length = a.length → (∀ y ∈ s.take i, Wd y) →
    ∃ r, m_impl_values_l0 x0 x1 zs (i : Int) s = some r ∧ m_spec_exValues_l0 x0 x1 zs (s.take i) = some r ∧ r.length = a.length ∧ ∀ y ∈ r, Wd y
  | [], i, s, h, hi, hs, hw => by
    have hi : a.length ≤ i := by simpa using h
    have e : s.take i = s := List.take_of_length_le (by omega)
    rw [e] at hw ⊢
    exact ⟨s, rfl, rfl, hs, hw⟩
  | x :: zs, i, s, h, hi, hs, hw => by
    obtain ⟨k1, k2⟩ := drop_tail h
    have hgt : a[i]? = some x := by
      have := congrArg List.head? h
      simpa [List.head?_drop] using this
    have hlt : (s.take i).length ≤ 24 := by rw [List.length_take]; omega
    have step : ∀ v, Wd v → ∃ r, m_impl_values_l0 x0 x1 zs ((i : Int) + 1) (s.set i v) = some r ∧ m_spec_exValues_l0 x0 x1 zs (s.take i ++ [v]) = some r ∧ r.length = a.length ∧ ∀ y ∈ r, Wd y := by
      intro v hv
      have e := take_set (v := v) (show i < s.length by omega)
      rw [← e, show ((i : Nat) : Int) + 1 = ((i + 1 : Nat) : Int) by simp]
      refine values_l0 hg hn w0 w1 zs (i + 1) (s.set i v) k1 (by omega) (by simpa using hs) (fun y hy => ?_)
      rw [e] at hy
      rcases List.mem_append.1 hy with hy | hy
      · exact hw y hy
      · simp at hy; subst hy; exact hv
    have app : ∀ v : Int, appI (s.take i) [v] = some (s.take i ++ [v]) := fun v => appI_eq (by unfold LIM; simp at hlt ⊢; omega)
    have set : ∀ v : Int, setI s (i : Int) v = some (s.set i v) := fun v => setI_n (by omega)
    rw [m_impl_values_l0, m_spec_exValues_l0]
    simp only [bd]
    rcases hg i x hgt with ⟨k, hv⟩ | ⟨k, hv⟩ | ⟨k, ha, hb⟩ | ⟨k, ha, hb⟩
    · have e1 : decide (x.Op = nIn) = true := by rw [k]; rfl
      have e2 : decide (x.Op = nConst) = false := by rw [k]; rfl
      rw [e1, e2]
      rcases hv with hv | hv
      · rw [hv]
        simpa [app, set, getI] using step x0 w0
      · rw [hv]
        simpa [app, set, getI] using step x1 w1
    · have e1 : decide (x.Op = nIn) = false := by rw [k]; rfl
      have e2 : decide (x.Op = nConst) = true := by rw [k]; rfl
      rw [e1, e2]
      simpa [app, set] using step x.Value hv
    · obtain ⟨f1, f2⟩ := one_not k
      have e3 : m_spec_exOne x.Op = true := exOne_iff.2 k
      obtain ⟨va, wa, ga, ga'⟩ := get_take (s := s) (by omega) ha.1 ha.2 hw
      obtain ⟨vb, wb, gb, gb'⟩ := get_take (s := s) (i := i) (j := 0) (by omega) (by omega) (by omega) hw
      obtain ⟨p1, p2⟩ := exApply_eq (op := x.Op) (a := va) (b := 0) (by omega)
      have p3 : m_impl_apply x.Op va vb = some (apV x.Op va 0) := by rw [apply_eq, one_b k, p1]
      simpa [f1, f2, e3, hb, ga, ga', gb, p1, p3, app, set] using step (apV x.Op va 0) p2
    · obtain ⟨f1, f2, f3, f4⟩ := ops10_not k
      obtain ⟨va, wa, ga, ga'⟩ := get_take (s := s) (by omega) ha.1 ha.2 hw
      obtain ⟨vb, wb, gb, gb'⟩ := get_take (s := s) (by omega) hb.1 hb.2 hw
      obtain ⟨p1, p2⟩ := exApply_eq (op := x.Op) (a := va) (b := vb) wb.1
      have p3 : m_impl_apply x.Op va vb = some (apV x.Op va vb) := by rw [apply_eq, p1]
      simpa [f1, f2, two_one k, ga, ga', gb, gb', p1, p3, app, set] using step (apV x.Op va vb) p2
theorem eval_same {a : List GNode} (hg : GoodE a) {x0 x1 : Int} (w0 : Wd x0) (w1 : Wd x1) : ∃ v, Wd v ∧ m_spec_exAt a x0 x1 = some v ∧ m_impl_eval a x0 x1 = some v := by
  obtain ⟨⟨h1, h2⟩, hg⟩ := hg
  obtain ⟨r, r1, r2, r3, r4⟩ := values_l0 hg h2 w0 w1 a 0 (List.replicate a.length 0) rfl (by omega) (by simp) (by simp)
  have hm : a.length - 1 < r.length := by omega
  have e : getI r (w64 ((a.length : Int) - 1)) = some r[a.length - 1] := by
    rw [w64_id (by omega) (by omega), show (a.length : Int) - 1 = ((a.length - 1 : Nat) : Int) by omega, getI_n, List.getElem?_eq_getElem hm]
  refine ⟨r[a.length - 1], r4 _ (List.getElem_mem hm), ?_, ?_⟩
  · unfold m_spec_exAt m_spec_exValues
    rw [List.take_zero] at r2
    rw [r2]
    simp [e]
  · unfold m_impl_eval m_impl_values
    rw [makI_n (by unfold LIM; omega), Option.bind_some]
    rw [show ((0 : Nat) : Int) = 0 from rfl] at r1
    rw [r1]
    simp [e]
end Go.Proofs.Ytpfdeoapnpcbaaa
