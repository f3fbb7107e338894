/-
  What is proved here: what an op is, and what a choice is, alike for the program and the reference.
  Conditions: none.
-/
import Derived.Test.YtpfdeoapnpcbaaaP1
set_option linter.unusedSectionVars false
namespace Go.Proofs.Ytpfdeoapnpcbaaa
open Go.Vs
set_option linter.unusedVariables false
set_option linter.unusedSimpArgs false

abbrev nSet : ByteArray := ⟨#[115, 101, 116]⟩
abbrev nMov : ByteArray := ⟨#[109, 111, 118]⟩
abbrev nNot : ByteArray := ⟨#[110, 111, 116]⟩
abbrev nNeg : ByteArray := ⟨#[110, 101, 103]⟩
abbrev nAdd : ByteArray := ⟨#[97, 100, 100]⟩
abbrev nSub : ByteArray := ⟨#[115, 117, 98]⟩
abbrev nMul : ByteArray := ⟨#[109, 117, 108]⟩
abbrev nAnd : ByteArray := ⟨#[97, 110, 100]⟩
abbrev nOr : ByteArray := ⟨#[111, 114]⟩
abbrev nXor : ByteArray := ⟨#[120, 111, 114]⟩
abbrev nShl : ByteArray := ⟨#[115, 104, 108]⟩
abbrev nShr : ByteArray := ⟨#[115, 104, 114]⟩
abbrev nLess : ByteArray := ⟨#[108, 101, 115, 115]⟩
abbrev nEq : ByteArray := ⟨#[101, 113]⟩
abbrev nAddi : ByteArray := ⟨#[97, 100, 100, 105]⟩
abbrev nAndi : ByteArray := ⟨#[97, 110, 100, 105]⟩
abbrev nXori : ByteArray := ⟨#[120, 111, 114, 105]⟩
abbrev nShli : ByteArray := ⟨#[115, 104, 108, 105]⟩
abbrev nShri : ByteArray := ⟨#[115, 104, 114, 105]⟩
abbrev nLea : ByteArray := ⟨#[108, 101, 97]⟩
def ops20 : List ByteArray := [nSet, nMov, nNot, nNeg, nAdd, nSub, nMul, nAnd, nOr, nXor, nShl, nShr, nLess, nEq, nAddi, nAndi, nXori, nShli, nShri, nLea]

noncomputable abbrev shp (op : ByteArray) := m_spec_cdShape op
noncomputable def isOp (op : ByteArray) : Bool := (shp op).1
noncomputable def usA (op : ByteArray) : Bool := (shp op).2.1
noncomputable def usB (op : ByteArray) : Bool := (shp op).2.2.1
noncomputable def loI (op : ByteArray) : Int := (shp op).2.2.2.1
noncomputable def hiI (op : ByteArray) : Int := (shp op).2.2.2.2
noncomputable def usI (op : ByteArray) : Bool := m_spec_cdImm op

theorem not_ops {op : ByteArray} (h : op ∉ ops20) : op ≠ nSet ∧ op ≠ nMov ∧ op ≠ nNot ∧ op ≠ nNeg ∧ op ≠ nAdd ∧ op ≠ nSub ∧ op ≠ nMul ∧ op ≠ nAnd ∧ op ≠ nOr ∧ op ≠ nXor ∧ op ≠ nShl ∧ op ≠ nShr ∧ op ≠ nLess ∧ op ≠ nEq ∧ op ≠ nAddi ∧ op ≠ nAndi ∧ op ≠ nXori ∧ op ≠ nShli ∧ op ≠ nShri ∧ op ≠ nLea := by
  simpa [ops20] using h
theorem isOp_iff {op : ByteArray} : isOp op = true ↔ op ∈ ops20 := by
  constructor
  · intro h
    apply Classical.byContradiction
    intro hn
    obtain ⟨h1, h2, h3, h4, h5, h6, h7, h8, h9, h10, h11, h12, h13, h14, h15, h16, h17, h18, h19, h20⟩ := not_ops hn
    simp [isOp, shp, m_spec_cdShape, bd, *] at h
  · intro h
    simp only [ops20, List.mem_cons, List.not_mem_nil, or_false] at h
    rcases h with rfl | rfl | rfl | rfl | rfl | rfl | rfl | rfl | rfl | rfl | rfl | rfl | rfl | rfl | rfl | rfl | rfl | rfl | rfl | rfl <;> rfl

theorem contains_binary {op : ByteArray} (h : op ∉ ops20) : m_slices_Contains_S_string_string m_impl_binary op = false := by
  obtain ⟨h1, h2, h3, h4, h5, h6, h7, h8, h9, h10, h11, h12, h13, h14, h15, h16, h17, h18, h19, h20⟩ := not_ops h
  simp [m_slices_Contains_S_string_string, m_slices_Index_S_string_string, m_slices_Index_S_string_string_l0, m_impl_binary, *]

/-- the form of an op, held against its shape -/
theorem formOf_eq (op : ByteArray) : ∃ f, m_impl_formOf op = some (f, isOp op) ∧ (isOp op = true → f.a = usA op ∧ f.b = usB op ∧ m__impl_form_imm f = usI op ∧ (usI op = true → f.low = loI op ∧ f.high = hiI op)) := by
  by_cases h : op ∈ ops20
  · simp only [ops20, List.mem_cons, List.not_mem_nil, or_false] at h
    rcases h with rfl | rfl | rfl | rfl | rfl | rfl | rfl | rfl | rfl | rfl | rfl | rfl | rfl | rfl | rfl | rfl | rfl | rfl | rfl | rfl <;>
      exact ⟨_, rfl, fun _ => ⟨rfl, rfl, rfl, fun h => by first | exact ⟨rfl, rfl⟩ | cases h⟩⟩
  · have hf : isOp op = false := by
      cases hi : isOp op with
      | true => exact absurd (isOp_iff.1 hi) h
      | false => rfl
    have hc := contains_binary h
    obtain ⟨h1, h2, h3, h4, h5, h6, h7, h8, h9, h10, h11, h12, h13, h14, h15, h16, h17, h18, h19, h20⟩ := not_ops h
    refine ⟨⟨false, false, 0, 0, 0, ByteArray.empty⟩, ?_, fun h => by rw [hf] at h; cases h⟩
    rw [hf]
    simp [m_impl_formOf, bd, *]

/-! ### lists told apart -/
theorem indexS_ge : ∀ (xs : List ByteArray) (y : ByteArray) (i : Int), 0 ≤ i → (0 ≤ m_slices_Index_S_string_string_l0 y xs i ↔ y ∈ xs)
  | [], y, i, h => by simp [m_slices_Index_S_string_string_l0]
  | x :: xs, y, i, h => by
    rw [m_slices_Index_S_string_string_l0]
    by_cases hx : y = x
    · subst hx; simp [h]
    · have := indexS_ge xs y (i + 1) (by omega)
      simp [hx, this]
theorem containsS_iff {xs : List ByteArray} {y : ByteArray} : m_slices_Contains_S_string_string xs y = true ↔ y ∈ xs := by
  unfold m_slices_Contains_S_string_string m_slices_Index_S_string_string
  rw [← indexS_ge xs y 0 (Int.le_refl _)]
  simp
theorem indexI_ge : ∀ (xs : List Int) (y : Int) (i : Int), 0 ≤ i → (0 ≤ m_slices_Index_S_int_int_l0 y xs i ↔ y ∈ xs)
  | [], y, i, h => by simp [m_slices_Index_S_int_int_l0]
  | x :: xs, y, i, h => by
    rw [m_slices_Index_S_int_int_l0]
    by_cases hx : y = x
    · subst hx; simp [h]
    · have := indexI_ge xs y (i + 1) (by omega)
      simp [hx, this]
theorem containsI_iff {xs : List Int} {y : Int} : m_slices_Contains_S_int_int xs y = true ↔ y ∈ xs := by
  unfold m_slices_Contains_S_int_int m_slices_Index_S_int_int
  rw [← indexI_ge xs y 0 (Int.le_refl _)]
  simp
theorem l1HasS_iff : ∀ {xs : List ByteArray} {y : ByteArray}, m_spec_l1HasS xs y = true ↔ y ∈ xs := by
  intro xs y
  unfold m_spec_l1HasS
  induction xs with
  | nil => simp [m_spec_l1HasS_l0]
  | cons x xs ih =>
    rw [m_spec_l1HasS_l0]
    by_cases hx : x = y
    · subst hx; simp
    · simp [hx, ih, Ne.symm hx]
theorem l1Has_iff : ∀ {xs : List Int} {y : Int}, m_spec_l1Has xs y = true ↔ y ∈ xs := by
  intro xs y
  unfold m_spec_l1Has
  induction xs with
  | nil => simp [m_spec_l1Has_l0]
  | cons x xs ih =>
    rw [m_spec_l1Has_l0]
    by_cases hx : x = y
    · subst hx; simp
    · simp [hx, ih, Ne.symm hx]
theorem l1In_iff {n lo hi : Int} : m_spec_l1In n lo hi = true ↔ lo ≤ n ∧ n ≤ hi := by
  unfold m_spec_l1In; simp
theorem within_iff {n lo hi : Int} : m_impl_within n lo hi = true ↔ lo ≤ n ∧ n ≤ hi := by
  unfold m_impl_within; simp [bd]
theorem l1All_iff {xs : List Int} {lo hi : Int} : m_spec_l1All xs lo hi = true ↔ ∀ x ∈ xs, lo ≤ x ∧ x ≤ hi := by
  unfold m_spec_l1All
  induction xs with
  | nil => simp [m_spec_l1All_l0]
  | cons x xs ih =>
    rw [m_spec_l1All_l0]
    by_cases hx : m_spec_l1In x lo hi = true
    · rw [hx]
      simp [ih, l1In_iff.1 hx]
    · have : ¬ (lo ≤ x ∧ x ≤ hi) := fun h => hx (l1In_iff.2 h)
      simp only [Bool.not_eq_true] at hx
      rw [hx]
      simp only [Bool.not_false, if_true, Bool.false_eq_true, false_iff]
      intro h
      exact this (h x (by simp))

/-- no element twice, told from one place on -/
def Dis {α : Type} (xs : List α) (i : Nat) : Prop := ∀ j x, i ≤ j → xs[j]? = some x → x ∉ xs.take j
theorem dis_step {α : Type} {xs zs : List α} {i : Nat} {x : α} (h : xs.drop i = x :: zs) : Dis xs i ↔ x ∉ xs.take i ∧ Dis xs (i + 1) := by
  have hg : xs[i]? = some x := by
    have := congrArg List.head? h
    simpa [List.head?_drop] using this
  constructor
  · intro hd
    exact ⟨hd i x (Nat.le_refl _) hg, fun j y hj => hd j y (by omega)⟩
  · rintro ⟨h1, h2⟩ j y hj hy
    rcases Nat.lt_or_eq_of_le hj with hlt | rfl
    · exact h2 j y hlt hy
    · rw [hg] at hy; cases hy; exact h1
theorem dis_end {α : Type} {xs : List α} {i : Nat} (h : xs.drop i = []) : Dis xs i := fun j x hj hx => by
  have := (List.getElem?_eq_some_iff.1 hx).1
  have h2 : xs.length ≤ i := by simpa using h
  omega
theorem drop_tail {α : Type} {xs zs : List α} {i : Nat} {x : α} (h : xs.drop i = x :: zs) : xs.drop (i + 1) = zs ∧ i < xs.length := by
  refine ⟨by rw [← List.drop_drop, h]; rfl, ?_⟩
  apply Classical.byContradiction
  intro hn
  rw [List.drop_eq_nil_of_le (by omega)] at h; cases h

theorem areDifferentS_l0 (xs : List ByteArray) : ∀ (zs : List ByteArray) (i : Nat), xs.drop i = zs → ∃ b, m_impl_areDifferent_string_l0 xs zs i = some b ∧ (b = true ↔ Dis xs i)
  | [], i, h => ⟨true, by rw [m_impl_areDifferent_string_l0], by simpa using dis_end h⟩
  | x :: zs, i, h => by
    obtain ⟨h1, h2⟩ := drop_tail h
    rw [m_impl_areDifferent_string_l0, subI_take (by omega), Option.bind_some, dis_step h]
    by_cases hc : m_slices_Contains_S_string_string (xs.take i) x = true
    · rw [if_pos hc]
      exact ⟨false, rfl, by simp [containsS_iff.1 hc]⟩
    · rw [if_neg hc]
      obtain ⟨b, k1, k2⟩ := areDifferentS_l0 xs zs (i + 1) h1
      refine ⟨b, by rwa [show ((i : Nat) : Int) + 1 = ((i + 1 : Nat) : Int) by simp], ?_⟩
      rw [k2]
      have : x ∉ xs.take i := fun hm => hc (containsS_iff.2 hm)
      simp [this]
theorem areDifferentI_l0 (xs : List Int) : ∀ (zs : List Int) (i : Nat), xs.drop i = zs → ∃ b, m_impl_areDifferent_int_l0 xs zs i = some b ∧ (b = true ↔ Dis xs i)
  | [], i, h => ⟨true, by rw [m_impl_areDifferent_int_l0], by simpa using dis_end h⟩
  | x :: zs, i, h => by
    obtain ⟨h1, h2⟩ := drop_tail h
    rw [m_impl_areDifferent_int_l0, subI_take (by omega), Option.bind_some, dis_step h]
    by_cases hc : m_slices_Contains_S_int_int (xs.take i) x = true
    · rw [if_pos hc]
      exact ⟨false, rfl, by simp [containsI_iff.1 hc]⟩
    · rw [if_neg hc]
      obtain ⟨b, k1, k2⟩ := areDifferentI_l0 xs zs (i + 1) h1
      refine ⟨b, by rwa [show ((i : Nat) : Int) + 1 = ((i + 1 : Nat) : Int) by simp], ?_⟩
      rw [k2]
      have : x ∉ xs.take i := fun hm => hc (containsI_iff.2 hm)
      simp [this]

/-! ### choices -/
def OpOk (imms : List Int) (op : ByteArray) : Prop := isOp op = true ∧ (usI op = true → ∀ n ∈ imms, loI op ≤ n ∧ n ≤ hiI op)
def Good (c : GChoice) : Prop := (1 ≤ c.Ops.length ∧ c.Ops.length ≤ 4) ∧ c.Imms.length ≤ 2 ∧ (∀ n ∈ c.Imms, 0 ≤ n ∧ n ≤ 63) ∧ (∀ op ∈ c.Ops, OpOk c.Imms op) ∧ Dis c.Ops 0 ∧ Dis c.Imms 0

theorem suGood_l1 (c : GChoice) : ∀ (zs : List Int) (i : Nat), c.Imms.drop i = zs → ∃ b, m_spec_suGood_l1 c zs i = some b ∧ (b = true ↔ Dis c.Imms i)
  | [], i, h => ⟨true, by rw [m_spec_suGood_l1], by simpa using dis_end h⟩
  | x :: zs, i, h => by
    obtain ⟨h1, h2⟩ := drop_tail h
    rw [m_spec_suGood_l1, subI_take (by omega), Option.bind_some, dis_step h]
    by_cases hc : m_spec_l1Has (c.Imms.take i) x = true
    · rw [if_pos hc]
      exact ⟨false, rfl, by simp [l1Has_iff.1 hc]⟩
    · rw [if_neg hc]
      obtain ⟨b, k1, k2⟩ := suGood_l1 c zs (i + 1) h1
      refine ⟨b, by rwa [show ((i : Nat) : Int) + 1 = ((i + 1 : Nat) : Int) by simp], ?_⟩
      rw [k2]
      have : x ∉ c.Imms.take i := fun hm => hc (l1Has_iff.2 hm)
      simp [this]
theorem suGood_l0 (c : GChoice) : ∀ (zs : List ByteArray) (i : Nat), c.Ops.drop i = zs → ∃ b, m_spec_suGood_l0 c zs i = some b ∧ (b = true ↔ (∀ op ∈ zs, OpOk c.Imms op) ∧ Dis c.Ops i ∧ Dis c.Imms 0)
  | [], i, h => by
    obtain ⟨b, k1, k2⟩ := suGood_l1 c c.Imms 0 rfl
    rw [m_spec_suGood_l0]
    exact ⟨b, k1, by simp [k2, dis_end h]⟩
  | x :: zs, i, h => by
    obtain ⟨h1, h2⟩ := drop_tail h
    obtain ⟨b, k1, k2⟩ := suGood_l0 c zs (i + 1) h1
    rw [show ((i + 1 : Nat) : Int) = ((i : Nat) : Int) + 1 by simp] at k1
    rw [m_spec_suGood_l0, subI_take (by omega), dis_step h]
    have hop : ∀ (X : Bool), (X = false ↔ OpOk c.Imms x ∧ x ∉ c.Ops.take i) → ∃ b', ((some X).bind fun X4 => if X4 = true then some false else m_spec_suGood_l0 c zs ((i : Nat) + 1)) = some b' ∧ (b' = true ↔ (∀ op ∈ x :: zs, OpOk c.Imms op) ∧ (x ∉ c.Ops.take i ∧ Dis c.Ops (i + 1)) ∧ Dis c.Imms 0) := by
      intro X hX
      cases X with
      | true =>
        refine ⟨false, rfl, ?_⟩
        have : ¬ (OpOk c.Imms x ∧ x ∉ c.Ops.take i) := fun hh => by have := hX.2 hh; cases this
        simp only [Bool.false_eq_true, false_iff]
        rintro ⟨g1, ⟨g2, _⟩, _⟩
        exact this ⟨g1 x (by simp), g2⟩
      | false =>
        obtain ⟨g1, g2⟩ := hX.1 rfl
        refine ⟨b, by simpa using k1, ?_⟩
        rw [k2]
        simp [g1, g2]
    cases ho : isOp x with
    | false =>
      have : (m_spec_cdShape x).1 = false := ho
      rw [this]
      exact hop true (by simp [OpOk, ho])
    | true =>
      have h3 : (m_spec_cdShape x).1 = true := ho
      rw [h3]
      simp only [Bool.not_true, Bool.false_eq_true, if_false, Option.bind_some]
      by_cases hs : m_spec_l1HasS (c.Ops.take i) x = true
      · rw [if_pos hs]
        exact hop true (by simp [l1HasS_iff.1 hs])
      · rw [if_neg hs]
        have hs' : x ∉ c.Ops.take i := fun hm => hs (l1HasS_iff.2 hm)
        cases hi : usI x with
        | false =>
          have : m_spec_cdImm x = false := hi
          rw [this]
          exact hop false (by simp [OpOk, ho, hi, hs'])
        | true =>
          have : m_spec_cdImm x = true := hi
          rw [this]
          refine hop _ ?_
          simp only [OpOk, ho, hi, true_and, forall_const, hs', not_false_eq_true, and_true, Bool.not_eq_false']
          exact l1All_iff
theorem suGood_eq (c : GChoice) : ∃ b, m_spec_suGood c = some b ∧ (b = true ↔ Good c) := by
  unfold m_spec_suGood Good
  simp only [bd]
  by_cases h1 : (1 ≤ c.Ops.length ∧ c.Ops.length ≤ 4) ∧ c.Imms.length ≤ 2 ∧ (∀ n ∈ c.Imms, 0 ≤ n ∧ n ≤ 63)
  · have e1 : m_spec_l1In (c.Ops.length : Int) 1 4 = true := l1In_iff.2 (by omega)
    have e2 : m_spec_l1All c.Imms 0 63 = true := l1All_iff.2 h1.2.2
    have e3 : decide ((c.Imms.length : Int) > 2) = false := by simp; omega
    rw [e1, e2, e3]
    obtain ⟨b, k1, k2⟩ := suGood_l0 c c.Ops 0 rfl
    refine ⟨b, by simpa using k1, ?_⟩
    rw [k2]
    exact ⟨fun h => ⟨h1.1, h1.2.1, h1.2.2, h⟩, fun h => h.2.2.2⟩
  · refine ⟨false, ?_, ?_⟩
    · have : (!m_spec_l1In (c.Ops.length : Int) 1 4 || (decide ((c.Imms.length : Int) > 2) || !m_spec_l1All c.Imms 0 63)) = true := by
        apply Classical.byContradiction
        intro hn
        simp only [Bool.or_eq_true, Bool.not_eq_true', decide_eq_true_eq, not_or, Bool.not_eq_false] at hn
        exact h1 ⟨by have := l1In_iff.1 hn.1; omega, by omega, l1All_iff.1 hn.2.2⟩
      rw [if_pos this]
    · simp only [Bool.false_eq_true, false_iff]
      rintro ⟨g1, g2, g3, _⟩
      exact h1 ⟨g1, g2, g3⟩

theorem isChoice_l1 (f : GForm × Bool) : ∀ zs : List Int, m_impl_IsChoice_l1 f zs = (if (∀ n ∈ zs, (0 ≤ n ∧ n ≤ 63) ∧ (m__impl_form_imm f.1 = true → f.1.low ≤ n ∧ n ≤ f.1.high)) then .inl () else .inr false)
  | [] => by simp [m_impl_IsChoice_l1]
  | x :: zs => by
    rw [m_impl_IsChoice_l1, isChoice_l1 f zs]
    simp only [bd]
    by_cases hx : (0 ≤ x ∧ x ≤ 63) ∧ (m__impl_form_imm f.1 = true → f.1.low ≤ x ∧ x ≤ f.1.high)
    · have e1 : m_impl_isWord x = true := within_iff.2 hx.1
      have e2 : (m__impl_form_imm f.1 && !m_impl_within x f.1.low f.1.high) = false := by
        cases hi : m__impl_form_imm f.1 with
        | false => rfl
        | true => rw [within_iff.2 (hx.2 hi)]; rfl
      rw [e1, e2]
      simp only [Bool.not_true, Bool.or_self, Bool.false_eq_true, if_false]
      by_cases hz : ∀ n ∈ zs, (0 ≤ n ∧ n ≤ 63) ∧ (m__impl_form_imm f.1 = true → f.1.low ≤ n ∧ n ≤ f.1.high)
      · rw [if_pos hz, if_pos]
        intro n hn
        rcases List.mem_cons.1 hn with rfl | hn
        · exact hx
        · exact hz n hn
      · rw [if_neg hz, if_neg]
        intro hh; exact hz (fun n hn => hh n (by simp [hn]))
    · have e1 : (!m_impl_isWord x || (m__impl_form_imm f.1 && !m_impl_within x f.1.low f.1.high)) = true := by
        apply Classical.byContradiction
        intro hn
        simp only [Bool.or_eq_true, Bool.not_eq_true', Bool.and_eq_true, not_or, not_and, Bool.not_eq_false] at hn
        exact hx ⟨within_iff.1 hn.1, fun hi => within_iff.1 (hn.2 hi)⟩
      rw [if_pos e1, if_neg]
      intro hh
      exact hx (hh x (by simp))
theorem isChoice_l0 (c : GChoice) (hw : ∀ n ∈ c.Imms, 0 ≤ n ∧ n ≤ 63) : ∀ zs : List ByteArray, ∃ b, m_impl_IsChoice_l0 c zs = some b ∧ (b = true ↔ ∀ op ∈ zs, OpOk c.Imms op)
  | [] => ⟨true, by rw [m_impl_IsChoice_l0], by simp⟩
  | x :: zs => by
    obtain ⟨f, h1, h2⟩ := formOf_eq x
    rw [m_impl_IsChoice_l0, h1, Option.bind_some]
    cases ho : isOp x with
    | false => exact ⟨false, by simp, by simp [OpOk, ho]⟩
    | true =>
      obtain ⟨k1, k2, k3, k4⟩ := h2 ho
      simp only [Bool.not_true, Bool.false_eq_true, if_false]
      rw [isChoice_l1]
      simp only [bd]
      obtain ⟨b, g1, g2⟩ := isChoice_l0 c hw zs
      by_cases hx : OpOk c.Imms x
      · rw [if_pos]
        · exact ⟨b, g1, by rw [g2]; simp [hx]⟩
        · intro n hn
          refine ⟨hw n hn, fun hi => ?_⟩
          rw [k3] at hi
          obtain ⟨m1, m2⟩ := k4 hi
          simp only [m1, m2]
          exact hx.2 hi n hn
      · rw [if_neg]
        · exact ⟨false, rfl, by simp [hx]⟩
        · intro hh
          refine hx ⟨ho, fun hi n hn => ?_⟩
          obtain ⟨m1, m2⟩ := k4 hi
          have := (hh n hn).2 (by rw [k3]; exact hi)
          simp only [m1, m2] at this
          exact this
theorem isChoice_l0w (c : GChoice) (hw : ¬ ∀ n ∈ c.Imms, 0 ≤ n ∧ n ≤ 63) : ∀ zs : List ByteArray, zs ≠ [] → m_impl_IsChoice_l0 c zs = some false
  | [], h => absurd rfl h
  | x :: zs, _ => by
    obtain ⟨f, h1, h2⟩ := formOf_eq x
    rw [m_impl_IsChoice_l0, h1, Option.bind_some]
    cases ho : isOp x with
    | false => simp
    | true =>
      simp only [Bool.not_true, Bool.false_eq_true, if_false]
      rw [isChoice_l1, if_neg (fun hh => hw (fun n hn => (hh n hn).1))]
theorem isChoice_eq (c : GChoice) : ∃ b, m_impl_IsChoice c = some b ∧ (b = true ↔ Good c) := by
  unfold m_impl_IsChoice Good
  obtain ⟨b1, k1, k2⟩ := areDifferentS_l0 c.Ops c.Ops 0 rfl
  obtain ⟨b2, k3, k4⟩ := areDifferentI_l0 c.Imms c.Imms 0 rfl
  have k1' : m_impl_areDifferent_string c.Ops = some b1 := k1
  have k3' : m_impl_areDifferent_int c.Imms = some b2 := k3
  rw [k1', k3']
  by_cases h1 : 1 ≤ c.Ops.length ∧ c.Ops.length ≤ 4
  · have e1 : m_impl_within (c.Ops.length : Int) 1 4 = true := within_iff.2 (by omega)
    rw [e1]
    simp only [Bool.not_true, Bool.false_eq_true, if_false]
    by_cases h2 : c.Imms.length ≤ 2
    · have e2 : decide ((c.Imms.length : Int) > 2) = false := by simp; omega
      rw [e2]
      simp only [Bool.false_eq_true, if_false, Option.bind_some]
      cases b1 with
      | false =>
        refine ⟨false, by simp, ?_⟩
        have : ¬ Dis c.Ops 0 := fun h => by have := k2.2 h; cases this
        simp [this]
      | true =>
        cases b2 with
        | false =>
          refine ⟨false, by simp, ?_⟩
          have : ¬ Dis c.Imms 0 := fun h => by have := k4.2 h; cases this
          simp [this]
        | true =>
          have d1 := k2.1 rfl
          have d2 := k4.1 rfl
          simp only [Bool.not_true, Bool.false_eq_true, if_false, Option.bind_some]
          by_cases hw : ∀ n ∈ c.Imms, 0 ≤ n ∧ n ≤ 63
          · obtain ⟨b, g1, g2⟩ := isChoice_l0 c hw c.Ops
            refine ⟨b, g1, ?_⟩
            rw [g2]
            exact ⟨fun h => ⟨h1, h2, hw, h, d1, d2⟩, fun h => h.2.2.2.1⟩
          · refine ⟨false, isChoice_l0w c hw c.Ops (fun e => by rw [e] at h1; simp at h1), ?_⟩
            simp only [Bool.false_eq_true, false_iff]
            exact fun h => hw h.2.2.1
    · have e2 : decide ((c.Imms.length : Int) > 2) = true := by simp; omega
      rw [e2]
      refine ⟨false, by simp, ?_⟩
      simp only [Bool.false_eq_true, false_iff]
      exact fun h => h2 h.2.1
  · have e1 : m_impl_within (c.Ops.length : Int) 1 4 = false := by
      cases e : m_impl_within (c.Ops.length : Int) 1 4 with
      | false => rfl
      | true => exact absurd (by have := within_iff.1 e; omega) h1
    rw [e1]
    refine ⟨false, by simp, ?_⟩
    simp only [Bool.false_eq_true, false_iff]
    exact fun h => h1 h.1
/-- both tell the same of a choice -/
theorem choice_same (c : GChoice) : (m_impl_IsChoice c = some true ∧ m_spec_suGood c = some true ∧ Good c) ∨ (m_impl_IsChoice c = some false ∧ m_spec_suGood c = some false ∧ ¬ Good c) := by
  obtain ⟨b1, h1, h2⟩ := isChoice_eq c
  obtain ⟨b2, h3, h4⟩ := suGood_eq c
  by_cases hg : Good c
  · rw [h2.2 hg] at h1; rw [h4.2 hg] at h3; exact .inl ⟨h1, h3, hg⟩
  · have e1 : b1 = false := by cases b1 with
      | false => rfl
      | true => exact absurd (h2.1 rfl) hg
    have e2 : b2 = false := by cases b2 with
      | false => rfl
      | true => exact absurd (h4.1 rfl) hg
    subst e1 e2
    exact .inr ⟨h1, h3, hg⟩
end Go.Proofs.Ytpfdeoapnpcbaaa
