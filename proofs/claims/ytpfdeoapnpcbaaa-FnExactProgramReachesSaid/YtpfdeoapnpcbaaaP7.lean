/-
  What is proved here: the table that the tree starts with, and the law of CountUnpruned on plain values.
  Conditions: none.
-/
import Derived.Test.YtpfdeoapnpcbaaaP6
import Derived.Test.YtpfdeoapnpcbaaaVRowK
set_option linter.unusedSectionVars false
namespace Go.Proofs.Ytpfdeoapnpcbaaa
open Go.Vs
set_option linter.unusedVariables false
set_option linter.unusedSimpArgs false
set_option maxHeartbeats 1000000

theorem table_l1 {f : Int → Int → Option Int} {g : Int → Int → Int} (hf : ∀ i j, f i j = some (g i j)) (i : Int) : ∀ (zs s : List Int), s.length + zs.length ≤ LIM → m_impl_table_l1 f i zs s = some (s ++ zs.map (g i))
  | [], s, _ => by rw [m_impl_table_l1]; simp
  | z :: zs, s, h => by
    simp only [List.length_cons] at h
    rw [m_impl_table_l1, hf, Option.bind_some, appI_eq (by simp; omega), Option.bind_some, table_l1 hf i zs _ (by simp; omega)]
    simp
theorem rng64 : (rng 0 64).length = 64 := by rw [rng_length]; rfl
theorem table_l0 {f : Int → Int → Option Int} {g : Int → Int → Int} (hf : ∀ i j, f i j = some (g i j)) : ∀ (zs s : List Int), s.length + 64 * zs.length ≤ LIM → m_impl_table_l0 f zs s = some (s ++ zs.flatMap fun i => (rng 0 64).map (g i))
  | [], s, _ => by rw [m_impl_table_l0]; simp
  | z :: zs, s, h => by
    simp only [List.length_cons] at h
    rw [m_impl_table_l0, table_l1 hf z _ _ (by rw [rng64]; omega), Option.bind_some, table_l0 hf zs _ (by simp [rng64]; omega)]
    simp
theorem table_eq {f : Int → Int → Option Int} {g : Int → Int → Int} (hf : ∀ i j, f i j = some (g i j)) : m_impl_table f = some (IN.map fun xy => g xy.1 xy.2) := by
  unfold m_impl_table
  rw [table_l0 hf _ _ (by rw [rng64]; decide), Option.bind_some]
  unfold IN
  rw [List.map_flatMap]
  simp [Function.comp_def]
theorem wrap_wd {x : Int} (h : Wd x) : IntKind.u8.wrap x = x := by
  rw [IntKind.wrap_u8]
  exact Int.emod_eq_of_lt h.1 (by have := h.2; omega)
theorem columnOf_l0 : ∀ (zs s : List Int) (i : Nat), (∀ x ∈ zs, Wd x) → i + zs.length = s.length → m_impl_columnOf_l0 zs (i : Int) s = some (s.take i ++ zs)
  | [], s, i, _, h => by rw [m_impl_columnOf_l0, List.take_of_length_le (by simp at h; omega)]; simp
  | z :: zs, s, i, hz, h => by
    rw [List.length_cons] at h
    rw [m_impl_columnOf_l0, wrap_wd (hz z (by simp)), setI_n (by omega), Option.bind_some]
    have := columnOf_l0 zs (s.set i z) (i + 1) (fun x hx => hz x (by simp [hx])) (by simp; omega)
    rw [show ((i : Nat) : Int) + 1 = ((i + 1 : Nat) : Int) by simp, this, copy_step (by omega)]
theorem columnOf_eq {xs : List Int} (h : ∀ x ∈ xs, Wd x) (hl : xs.length ≤ LIM) : m_impl_columnOf xs = some xs := by
  unfold m_impl_columnOf
  rw [makI_n hl, Option.bind_some]
  have := columnOf_l0 xs (List.replicate xs.length 0) 0 h (by simp)
  simp only [Int.natCast_zero, List.take_zero, List.nil_append] at this
  rw [this]; rfl
theorem begun_eq : m_impl_begun = some (colsP []) := by
  unfold m_impl_begun
  rw [table_eq (f := fun y0 y1 => some (m_impl_begun_1 y0 y1)) (g := fun x y => x) (fun i j => rfl), Option.bind_some, columnOf_eq, Option.bind_some, table_eq (f := fun y0 y1 => some (m_impl_begun_2 y0 y1)) (g := fun x y => y) (fun i j => rfl), Option.bind_some, columnOf_eq, Option.bind_some]
  · rfl
  · intro x hx
    obtain ⟨xy, h, rfl⟩ := List.mem_map.1 hx
    exact (IN_mem.1 h).2
  · rw [List.length_map, IN_len]; decide
  · intro x hx
    obtain ⟨xy, h, rfl⟩ := List.mem_map.1 hx
    exact (IN_mem.1 h).1
  · rw [List.length_map, IN_len]; decide
theorem within_same (n a b : Int) : m_impl_within n a b = m_spec_l1In n a b := by
  rw [Bool.eq_iff_iff, within_iff, l1In_iff]
theorem gate {α : Type} {o : Option Bool} {b c : Bool} {x y : Option α} (h : o = some b) : ((o.bind fun x3 => if (!x3) = true then some true else some (!c)).bind fun X1 => if X1 = true then x else y) = if (b && c) = true then y else x := by
  subst h; cases b <;> cases c <;> rfl
theorem impl_no {c : GChoice} {n : Int} {b : Bool} (h : m_impl_IsChoice c = some b) (h2 : (b && m_impl_within n 0 3) = false) : m_impl_CountUnpruned c n = some (0, false) := by
  unfold m_impl_CountUnpruned
  rw [gate h, h2]
  rfl
theorem impl_yes {c : GChoice} {n r : Int} (h : m_impl_IsChoice c = some true) (h2 : m_impl_within n 0 3 = true) (h3 : m_impl_CountUnpruned_1 0 (colsP []) n c = some r) : m_impl_CountUnpruned c n = some (r, true) := by
  unfold m_impl_CountUnpruned
  rw [gate h, h2, begun_eq, Option.bind_some, h3]
  rfl
theorem spec_no {c : GChoice} {n : Int} {b : Bool} (h : m_spec_suGood c = some b) (h2 : (b && m_spec_l1In n 0 3) = false) : m_spec_CountUnpruned c n = some (0, false) := by
  unfold m_spec_CountUnpruned
  rw [gate h, h2]
  rfl
theorem spec_yes {c : GChoice} {n r : Int} (h : m_spec_suGood c = some true) (h2 : m_spec_l1In n 0 3 = true) (h3 : limO (fun k => m_spec_CountUnpruned_l0_k c n k 0 0) = some r) : m_spec_CountUnpruned c n = some (r, true) := by
  unfold m_spec_CountUnpruned
  rw [gate h, h2, h3]
  rfl
theorem count_same (c : GChoice) (n : Int) : ∃ r, m_impl_CountUnpruned c n = some r ∧ m_spec_CountUnpruned c n = some r := by
  rcases choice_same c with ⟨h1, h2, hg⟩ | ⟨h1, h2, _⟩
  · cases hi : m_spec_l1In n 0 3 with
    | false => exact ⟨(0, false), impl_no h1 (by rw [within_same, hi]; rfl), spec_no h2 (by rw [hi]; rfl)⟩
    | true =>
      obtain ⟨k0, k1⟩ := l1In_iff.1 hi
      obtain ⟨m, rfl⟩ := Int.eq_ofNat_of_zero_le k0
      exact ⟨((cntU c m : Int), true), impl_yes h1 (by rw [within_same, hi]) (implCount_eq hg (by omega)), spec_yes h2 hi (specCount_eq hg (by omega))⟩
  · exact ⟨(0, false), impl_no h1 rfl, spec_no h2 rfl⟩
theorem plain_FnExactCountUnpruned (a0 : GChoice) (a1 : Int) (ok0 : okL okS a0.Ops ∧ okL (okI .i64) a0.Imms) (ok1 : okI .i64 a1) : m_laws_FnExactCountUnpruned a0 a1 = some true := by
  unfold m_laws_FnExactCountUnpruned
  by_cases h : m_laws_szChoice a0 1048576 < 0
  · rw [if_pos (by simpa using h)]
  · rw [if_neg (by simpa using h)]
    obtain ⟨k1, k2⟩ := szChoice_nonneg h ok0.1.1 ok0.1.2 ok0.2.1
    obtain ⟨r, r1, r2⟩ := count_same a0 a1
    rw [toChoice_eq (by unfold LIM; omega) (by unfold LIM; omega), Option.bind_some, r2, Option.bind_some, Option.bind_some, r1, Option.bind_some]
    simp [bd, eqChoice_self]
end Go.Proofs.Ytpfdeoapnpcbaaa
