/-
  What is proved here: what the laws' sizes, copies and comparisons of choices tell.
  Conditions: none.
-/
import Derived.Test.YtpfdeoapnpcbaaaPBase
import Derived.Test.YtpfdeoapnpcbaaaVM8
set_option linter.unusedSectionVars false
namespace Go.Proofs.Ytpfdeoapnpcbaaa
open Go.Vs
set_option linter.unusedVariables false
set_option linter.unusedSimpArgs false

theorem szStringS_l0_nonneg : ∀ (zs : List ByteArray) (s : Int), 0 ≤ m_laws_szStringS_l0 zs s → 0 ≤ s → s ≤ 1048576 → (∀ x ∈ zs, x.size ≤ 9223372036854775807) → (∀ x ∈ zs, (x.size : Int) ≤ s) ∧ m_laws_szStringS_l0 zs s ≤ s
  | [], s, h, h0, h1, hz => ⟨fun x hx => (by cases hx), Int.le_refl _⟩
  | x :: zs, s, h, h0, h1, hz => by
    have hx := hz x (by simp)
    rw [m_laws_szStringS_l0] at h ⊢
    rw [w64_id (by omega) (by omega)] at h ⊢
    split at h
    · simp at h
    · rename_i hn
      rw [if_neg hn]
      simp only [decide_eq_true_eq] at hn
      obtain ⟨h2, h3⟩ := szStringS_l0_nonneg zs _ h (by omega) (by omega) (fun y hy => hz y (by simp [hy]))
      refine ⟨fun y hy => ?_, by omega⟩
      rcases List.mem_cons.1 hy with rfl | hy
      · omega
      · have := h2 y hy; omega
theorem szStringS_nonneg {xs : List ByteArray} {s : Int} (h : ¬ m_laws_szStringS xs s < 0) (h0 : 0 ≤ s) (h1 : s ≤ 1048576) (hl : xs.length ≤ 9223372036854775807) (hz : ∀ x ∈ xs, x.size ≤ 9223372036854775807) :
    (xs.length : Int) ≤ s ∧ (∀ x ∈ xs, (x.size : Int) ≤ s) ∧ m_laws_szStringS xs s ≤ s := by
  unfold m_laws_szStringS at h ⊢
  rw [w64_id (by omega) (by omega)] at h ⊢
  split at h
  · omega
  · rename_i hn
    rw [if_neg hn]
    simp only [decide_eq_true_eq] at hn
    obtain ⟨h2, h3⟩ := szStringS_l0_nonneg xs (s - xs.length) (by omega) (by omega) (by omega) hz
    exact ⟨by omega, fun x hx => by have := h2 x hx; omega, by omega⟩
theorem szIntS_nonneg {xs : List Int} {s : Int} (h : ¬ m_laws_szIntS xs s < 0) (h0 : 0 ≤ s) (h1 : s ≤ 1048576) (hl : xs.length ≤ 9223372036854775807) : (xs.length : Int) ≤ s ∧ m_laws_szIntS xs s ≤ s := by
  unfold m_laws_szIntS at h ⊢
  rw [w64_id (by omega) (by omega)] at h ⊢
  split at h
  · omega
  · rename_i hn
    rw [if_neg hn]
    simp only [decide_eq_true_eq] at hn
    omega
theorem szChoice_nonneg {c : GChoice} (h : ¬ m_laws_szChoice c 1048576 < 0) (ho : c.Ops.length ≤ 9223372036854775807) (hz : ∀ x ∈ c.Ops, x.size ≤ 9223372036854775807) (hi : c.Imms.length ≤ 9223372036854775807) : c.Ops.length ≤ 1048576 ∧ c.Imms.length ≤ 1048576 := by
  unfold m_laws_szChoice at h
  split at h
  · omega
  · rename_i h1
    simp only [decide_eq_true_eq] at h1
    obtain ⟨k1, _, k2⟩ := szStringS_nonneg h1 (by omega) (by omega) ho hz
    split at h
    · omega
    · rename_i h2
      simp only [decide_eq_true_eq] at h2
      obtain ⟨k3, _⟩ := szIntS_nonneg h2 (by omega) (by omega) hi
      omega

theorem toStringS_l0_eq : ∀ (zs : List ByteArray) (i : Nat) (s : List ByteArray), i + zs.length = s.length → m_laws_toStringS_l0 zs i s = some (s.take i ++ zs)
  | [], i, s, h => by rw [m_laws_toStringS_l0, List.take_of_length_le (by simp at h; omega), List.append_nil]
  | x :: zs, i, s, h => by
    rw [List.length_cons] at h
    rw [m_laws_toStringS_l0, setI_n (by omega), Option.bind_some]
    have := toStringS_l0_eq zs (i + 1) (s.set i x) (by simp; omega)
    rw [show ((i : Nat) : Int) + 1 = ((i + 1 : Nat) : Int) by simp, this, copy_step (by omega)]
theorem toStringS_eq {xs : List ByteArray} (h : xs.length ≤ LIM) : m_laws_toStringS xs = some xs := by
  unfold m_laws_toStringS
  rw [makI_n h, Option.bind_some]
  have := toStringS_l0_eq xs 0 (List.replicate xs.length ByteArray.empty) (by simp)
  simp at this
  simp [this]
theorem toIntS_l0_eq : ∀ (zs : List Int) (i : Nat) (s : List Int), i + zs.length = s.length → m_laws_toIntS_l0 zs i s = some (s.take i ++ zs)
  | [], i, s, h => by rw [m_laws_toIntS_l0, List.take_of_length_le (by simp at h; omega), List.append_nil]
  | x :: zs, i, s, h => by
    rw [List.length_cons] at h
    rw [m_laws_toIntS_l0, setI_n (by omega), Option.bind_some]
    have := toIntS_l0_eq zs (i + 1) (s.set i x) (by simp; omega)
    rw [show ((i : Nat) : Int) + 1 = ((i + 1 : Nat) : Int) by simp, this, copy_step (by omega)]
theorem toIntS_eq {xs : List Int} (h : xs.length ≤ LIM) : m_laws_toIntS xs = some xs := by
  unfold m_laws_toIntS
  rw [makI_n h, Option.bind_some]
  have := toIntS_l0_eq xs 0 (List.replicate xs.length 0) (by simp)
  simp at this
  simp [this]
theorem toChoice_eq {c : GChoice} (h1 : c.Ops.length ≤ LIM) (h2 : c.Imms.length ≤ LIM) : m_laws_toChoice c = some c := by
  unfold m_laws_toChoice
  rw [toStringS_eq h1, Option.bind_some, toIntS_eq h2, Option.bind_some]
theorem eqStringS_l0_self : ∀ (zs ys : List ByteArray) (i : Nat), ys.drop i = zs → m_laws_eqStringS_l0 ys zs i = some true
  | [], ys, i, h => by rw [m_laws_eqStringS_l0]
  | x :: zs, ys, i, h => by
    have hg : ys[i]? = some x := by
      have := congrArg List.head? h
      simpa [List.head?_drop] using this
    rw [m_laws_eqStringS_l0, getI_n, hg, Option.bind_some]
    simp only [decide_true, Bool.not_true, Bool.false_eq_true, if_false]
    have := eqStringS_l0_self zs ys (i + 1) (by rw [← List.drop_drop, h]; rfl)
    rwa [show ((i : Nat) : Int) + 1 = ((i + 1 : Nat) : Int) by simp]
theorem eqStringS_self (xs : List ByteArray) : m_laws_eqStringS xs xs = some true := by
  unfold m_laws_eqStringS
  simp only [bne_self_eq_false, Bool.false_eq_true, if_false]
  exact eqStringS_l0_self xs xs 0 rfl
theorem eqIntS_l0_self : ∀ (zs ys : List Int) (i : Nat), ys.drop i = zs → m_laws_eqIntS_l0 ys zs i = some true
  | [], ys, i, h => by rw [m_laws_eqIntS_l0]
  | x :: zs, ys, i, h => by
    have hg : ys[i]? = some x := by
      have := congrArg List.head? h
      simpa [List.head?_drop] using this
    rw [m_laws_eqIntS_l0, getI_n, hg, Option.bind_some]
    simp only [bne_self_eq_false, Bool.false_eq_true, if_false]
    have := eqIntS_l0_self zs ys (i + 1) (by rw [← List.drop_drop, h]; rfl)
    rwa [show ((i : Nat) : Int) + 1 = ((i + 1 : Nat) : Int) by simp]
theorem eqIntS_self (xs : List Int) : m_laws_eqIntS xs xs = some true := by
  unfold m_laws_eqIntS
  simp only [bne_self_eq_false, Bool.false_eq_true, if_false]
  exact eqIntS_l0_self xs xs 0 rfl
theorem eqChoice_self (c : GChoice) : m_laws_eqChoice c c = some true := by
  unfold m_laws_eqChoice
  rw [eqStringS_self, Option.bind_some]
  simp [eqIntS_self]
end Go.Proofs.Ytpfdeoapnpcbaaa
