/-
  What is proved here: sizes, copies and comparisons of nodes and instructions.
  Conditions: none.
-/
import Derived.Test.YtpfdeoapnpcbaaaP1
set_option linter.unusedSectionVars false
namespace Go.Proofs.Ytpfdeoapnpcbaaa
open Go.Vs
set_option linter.unusedVariables false
set_option linter.unusedSimpArgs false

theorem szChoice_nn {c : GChoice} {s : Int} (h : ¬ m_laws_szChoice c s < 0) (h0 : 0 ≤ s) (h1 : s ≤ 1048576) (ho : c.Ops.length ≤ 9223372036854775807) (hz : ∀ x ∈ c.Ops, x.size ≤ 9223372036854775807) (hi : c.Imms.length ≤ 9223372036854775807) : (c.Ops.length : Int) ≤ s ∧ (c.Imms.length : Int) ≤ s ∧ m_laws_szChoice c s ≤ s := by
  unfold m_laws_szChoice at h ⊢
  split at h
  · omega
  · rename_i hn
    rw [if_neg hn]
    simp only [decide_eq_true_eq] at hn
    obtain ⟨k1, _, k2⟩ := szStringS_nonneg hn (by omega) (by omega) ho hz
    split at h
    · omega
    · rename_i h2
      rw [if_neg h2]
      simp only [decide_eq_true_eq] at h2
      obtain ⟨k3, k4⟩ := szIntS_nonneg h2 (by omega) (by omega) hi
      omega

theorem szNode_eq {x : GNode} {s : Int} (h0 : 0 ≤ s) (h1 : s ≤ 1048576) (hz : x.Op.size ≤ 9223372036854775807) : m_laws_szNode x s = if s - (x.Op.size : Int) < 0 then -1 else s - (x.Op.size : Int) := by
  unfold m_laws_szNode
  rw [w64_id (by omega) (by omega)]
  simp only [decide_eq_true_eq]
theorem szNodeS_l0 : ∀ (zs : List GNode) (s : Int), 0 ≤ s → s ≤ 1048576 → (∀ x ∈ zs, x.Op.size ≤ 9223372036854775807) → m_laws_szNodeS_l0 zs s ≤ s
  | [], s, h0, h1, hz => Int.le_refl _
  | x :: zs, s, h0, h1, hz => by
    have hx := hz x (by simp)
    rw [m_laws_szNodeS_l0, szNode_eq h0 h1 hx]
    by_cases hn : s - (x.Op.size : Int) < 0
    · rw [if_pos hn, if_pos (by simp)]; omega
    · rw [if_neg hn, if_neg (by simpa using hn)]
      have := szNodeS_l0 zs (s - (x.Op.size : Int)) (by omega) (by omega) (fun y hy => hz y (by simp [hy]))
      omega
theorem szNodeS_nn {xs : List GNode} {s : Int} (h : ¬ m_laws_szNodeS xs s < 0) (h0 : 0 ≤ s) (h1 : s ≤ 1048576) (hl : xs.length ≤ 9223372036854775807) (hz : ∀ x ∈ xs, x.Op.size ≤ 9223372036854775807) : (xs.length : Int) ≤ s ∧ m_laws_szNodeS xs s ≤ s := by
  unfold m_laws_szNodeS at h ⊢
  rw [w64_id (by omega) (by omega)] at h ⊢
  split at h
  · omega
  · rename_i hn
    rw [if_neg hn]
    simp only [decide_eq_true_eq] at hn
    have := szNodeS_l0 xs (s - xs.length) (by omega) (by omega) hz
    omega
theorem toNodeS_l0_eq : ∀ (zs : List GNode) (i : Nat) (s : List GNode), i + zs.length = s.length → m_laws_toNodeS_l0 zs i s = some (s.take i ++ zs)
  | [], i, s, h => by rw [m_laws_toNodeS_l0, List.take_of_length_le (by simp at h; omega), List.append_nil]
  | x :: zs, i, s, h => by
    rw [List.length_cons] at h
    rw [m_laws_toNodeS_l0, setI_n (by omega), Option.bind_some, show m_laws_toNode x = x from rfl]
    have := toNodeS_l0_eq zs (i + 1) (s.set i x) (by simp; omega)
    rw [show ((i : Nat) : Int) + 1 = ((i + 1 : Nat) : Int) by simp, this, copy_step (by omega)]
theorem toNodeS_eq {xs : List GNode} (h : xs.length ≤ LIM) : m_laws_toNodeS xs = some xs := by
  unfold m_laws_toNodeS
  rw [makI_n h, Option.bind_some]
  have := toNodeS_l0_eq xs 0 (List.replicate xs.length ⟨ByteArray.empty, 0, 0, 0⟩) (by simp)
  simp only [Int.natCast_zero, List.take_zero, List.nil_append] at this
  rw [this]; rfl
theorem eqNode_self (x : GNode) : m_laws_eqNode x x = true := by
  unfold m_laws_eqNode
  simp
theorem eqNodeS_l0_self : ∀ (zs ys : List GNode) (i : Nat), ys.drop i = zs → m_laws_eqNodeS_l0 ys zs i = some true
  | [], ys, i, h => by rw [m_laws_eqNodeS_l0]
  | x :: zs, ys, i, h => by
    have hg : ys[i]? = some x := by
      have := congrArg List.head? h
      simpa [List.head?_drop] using this
    rw [m_laws_eqNodeS_l0, getI_n, hg, Option.bind_some, eqNode_self]
    simp only [Bool.not_true, Bool.false_eq_true, if_false]
    have := eqNodeS_l0_self zs ys (i + 1) (by rw [← List.drop_drop, h]; rfl)
    rwa [show ((i : Nat) : Int) + 1 = ((i + 1 : Nat) : Int) by simp]
theorem eqNodeS_self (xs : List GNode) : m_laws_eqNodeS xs xs = some true := by
  unfold m_laws_eqNodeS
  simp only [bne_self_eq_false, Bool.false_eq_true, if_false]
  exact eqNodeS_l0_self xs xs 0 rfl

theorem szInstr_eq {x : GInstr} {s : Int} (h0 : 0 ≤ s) (h1 : s ≤ 1048576) (hz : x.Op.size ≤ 9223372036854775807) : m_laws_szInstr x s = if s - (x.Op.size : Int) < 0 then -1 else s - (x.Op.size : Int) := by
  unfold m_laws_szInstr
  rw [w64_id (by omega) (by omega)]
  simp only [decide_eq_true_eq]
theorem szInstrS_l0 : ∀ (zs : List GInstr) (s : Int), 0 ≤ s → s ≤ 1048576 → (∀ x ∈ zs, x.Op.size ≤ 9223372036854775807) → m_laws_szInstrS_l0 zs s ≤ s
  | [], s, h0, h1, hz => Int.le_refl _
  | x :: zs, s, h0, h1, hz => by
    have hx := hz x (by simp)
    rw [m_laws_szInstrS_l0, szInstr_eq h0 h1 hx]
    by_cases hn : s - (x.Op.size : Int) < 0
    · rw [if_pos hn, if_pos (by simp)]; omega
    · rw [if_neg hn, if_neg (by simpa using hn)]
      have := szInstrS_l0 zs (s - (x.Op.size : Int)) (by omega) (by omega) (fun y hy => hz y (by simp [hy]))
      omega
theorem szInstrS_nn {xs : List GInstr} {s : Int} (h : ¬ m_laws_szInstrS xs s < 0) (h0 : 0 ≤ s) (h1 : s ≤ 1048576) (hl : xs.length ≤ 9223372036854775807) (hz : ∀ x ∈ xs, x.Op.size ≤ 9223372036854775807) : (xs.length : Int) ≤ s ∧ m_laws_szInstrS xs s ≤ s := by
  unfold m_laws_szInstrS at h ⊢
  rw [w64_id (by omega) (by omega)] at h ⊢
  split at h
  · omega
  · rename_i hn
    rw [if_neg hn]
    simp only [decide_eq_true_eq] at hn
    have := szInstrS_l0 xs (s - xs.length) (by omega) (by omega) hz
    omega
theorem toInstrS_l0_eq : ∀ (zs : List GInstr) (i : Nat) (s : List GInstr), i + zs.length = s.length → m_laws_toInstrS_l0 zs i s = some (s.take i ++ zs)
  | [], i, s, h => by rw [m_laws_toInstrS_l0, List.take_of_length_le (by simp at h; omega), List.append_nil]
  | x :: zs, i, s, h => by
    rw [List.length_cons] at h
    rw [m_laws_toInstrS_l0, setI_n (by omega), Option.bind_some, show m_laws_toInstr x = x from rfl]
    have := toInstrS_l0_eq zs (i + 1) (s.set i x) (by simp; omega)
    rw [show ((i : Nat) : Int) + 1 = ((i + 1 : Nat) : Int) by simp, this, copy_step (by omega)]
theorem toInstrS_eq {xs : List GInstr} (h : xs.length ≤ LIM) : m_laws_toInstrS xs = some xs := by
  unfold m_laws_toInstrS
  rw [makI_n h, Option.bind_some]
  have := toInstrS_l0_eq xs 0 (List.replicate xs.length ⟨ByteArray.empty, 0, 0, 0, 0⟩) (by simp)
  simp only [Int.natCast_zero, List.take_zero, List.nil_append] at this
  rw [this]; rfl
theorem eqInstr_self (x : GInstr) : m_laws_eqInstr x x = true := by
  unfold m_laws_eqInstr
  simp
theorem eqInstrS_l0_self : ∀ (zs ys : List GInstr) (i : Nat), ys.drop i = zs → m_laws_eqInstrS_l0 ys zs i = some true
  | [], ys, i, h => by rw [m_laws_eqInstrS_l0]
  | x :: zs, ys, i, h => by
    have hg : ys[i]? = some x := by
      have := congrArg List.head? h
      simpa [List.head?_drop] using this
    rw [m_laws_eqInstrS_l0, getI_n, hg, Option.bind_some, eqInstr_self]
    simp only [Bool.not_true, Bool.false_eq_true, if_false]
    have := eqInstrS_l0_self zs ys (i + 1) (by rw [← List.drop_drop, h]; rfl)
    rwa [show ((i : Nat) : Int) + 1 = ((i + 1 : Nat) : Int) by simp]
theorem eqInstrS_self (xs : List GInstr) : m_laws_eqInstrS xs xs = some true := by
  unfold m_laws_eqInstrS
  simp only [bne_self_eq_false, Bool.false_eq_true, if_false]
  exact eqInstrS_l0_self xs xs 0 rfl
end Go.Proofs.Ytpfdeoapnpcbaaa
