/-
  What is proved here: the steps of a choice for an index, alike for the program and the reference.
  Conditions: none.
-/
import Derived.Test.YtpfdeoapnpcbaaaP2
set_option linter.unusedSectionVars false
namespace Go.Proofs.Ytpfdeoapnpcbaaa
open Go.Vs
set_option linter.unusedVariables false
set_option linter.unusedSimpArgs false

noncomputable def regsL (u : Bool) (m : Int) : List Int := if u then rng 0 m else [0]
noncomputable def immsL (c : GChoice) (op : ByteArray) : List Int := if usI op then c.Imms else [0]
noncomputable def stB (op : ByteArray) (d a b : Int) (is : List Int) : List GInstr := is.map fun i => ⟨op, d, a, b, i⟩
noncomputable def stA (op : ByteArray) (d a : Int) (is bs : List Int) : List GInstr := bs.flatMap fun b => stB op d a b is
noncomputable def stO (op : ByteArray) (d : Int) (is bs ra : List Int) : List GInstr := ra.flatMap fun a => stA op d a is bs
noncomputable def stepsL (c : GChoice) (k : Int) : List GInstr := c.Ops.flatMap fun op => stO op (2 + k) (immsL c op) (regsL (usB op) (2 + k)) (regsL (usA op) (2 + k))

theorem rng_snoc {i n : Int} (h : i ≤ n) : rng i (n + 1) = rng i n ++ [n] := by
  unfold rng
  obtain ⟨m, hm⟩ : ∃ m : Nat, (n - i).toNat = m := ⟨_, rfl⟩
  rw [hm, show (n + 1 - i).toNat = m + 1 by omega, List.range_succ, List.map_append]
  simp; omega
theorem flat_le {α β : Type} {xs : List α} {f : α → List β} {n : Nat} (h : ∀ x ∈ xs, (f x).length ≤ n) : (xs.flatMap f).length ≤ xs.length * n := by
  induction xs with
  | nil => simp
  | cons x xs ih =>
    rw [List.flatMap_cons, List.length_append, List.length_cons, Nat.succ_mul]
    have := h x (by simp)
    have := ih (fun y hy => h y (by simp [hy]))
    omega

theorem suRegs_k (m : Int) (a1 : Int) (ha : w64 (2 + a1) = m) (hm : m ≤ 1000) : ∀ (k : Nat) (r : Int), 1 ≤ r → r ≤ m → (m - r).toNat < k → m_spec_suRegs_l0_k true a1 k r (rng 0 r) = some (rng 0 m)
  | 0, r, _, _, h => by omega
  | k + 1, r, h1, h2, h3 => by
    rw [m_spec_suRegs_l0_k]
    simp only [bd, ha, Bool.true_and]
    by_cases hr : r < m
    · simp only [hr, decide_true, if_true]
      rw [appI_eq (by rw [rng_length]; simp [LIM]; omega), Option.bind_some, ← rng_snoc (by omega), w64_id (by omega) (by omega)]
      exact suRegs_k m a1 ha hm k (r + 1) (by omega) (by omega) (by omega)
    · have : r = m := by omega
      subst this
      simp
theorem suRegs_eq {u : Bool} {a1 : Int} (h0 : 0 ≤ a1) (h1 : a1 ≤ 900) : m_spec_suRegs u a1 = some (regsL u (2 + a1)) := by
  unfold m_spec_suRegs regsL
  have hw : w64 (2 + a1) = 2 + a1 := w64_id (by omega) (by omega)
  cases u with
  | true =>
    rw [limO_eq (r := rng 0 (2 + a1)) (1000) (fun k hk => ?_)]
    · rfl
    · have := suRegs_k (2 + a1) a1 hw (by omega) k 1 (by omega) (by omega) (by omega)
      rwa [show rng 0 1 = [0] by rfl] at this
  | false =>
    rw [limO_eq (r := [0]) 1 (fun k hk => ?_)]
    · rfl
    · obtain ⟨n, rfl⟩ : ∃ n, k = n + 1 := ⟨k - 1, by omega⟩
      rw [m_spec_suRegs_l0_k]
      simp [bd]
theorem upTo_l0 : ∀ (zs s : List Int), s.length + zs.length ≤ LIM → m_impl_upTo_l0 zs s = some (s ++ zs)
  | [], s, h => by rw [m_impl_upTo_l0, List.append_nil]
  | z :: zs, s, h => by
    rw [List.length_cons] at h
    rw [m_impl_upTo_l0, appI_eq (by simp; omega), Option.bind_some, upTo_l0 zs _ (by simp; omega)]
    simp
theorem upTo_eq {u : Bool} {m : Int} (h0 : 0 ≤ m) (h1 : m ≤ 1000) : m_impl_upTo u m = some (regsL u m) := by
  unfold m_impl_upTo regsL
  cases u with
  | true =>
    simp only [Bool.not_true, Bool.false_eq_true, if_false, if_true]
    rw [chk_eq (by omega), Option.bind_some, upTo_l0 _ _ (by rw [rng_length]; simp [LIM]; omega)]
    rfl
  | false => rfl

section
variable (op : ByteArray) (k : Int) (a b : Int)
theorem suSteps_l3 (hw : w64 (2 + k) = 2 + k) : ∀ (zs : List Int) (s : List GInstr), (s ++ stB op (2 + k) a b zs).length ≤ LIM → m_spec_suSteps_l3 op k a b zs s = some (s ++ stB op (2 + k) a b zs)
  | [], s, h => by rw [m_spec_suSteps_l3]; simp [stB]
  | z :: zs, s, h => by
    simp only [stB, List.map_cons, List.length_append, List.length_cons] at h
    rw [m_spec_suSteps_l3, hw, appI_eq (by simp; omega), Option.bind_some, suSteps_l3 hw zs _ (by simp [stB] at h ⊢; omega)]
    simp [stB]
theorem steps_l3 (hw : w64 (2 + k) = 2 + k) : ∀ (zs : List Int) (s : List GInstr), (s ++ stB op (2 + k) a b zs).length ≤ LIM → m_impl_steps_l3 op k a b zs s = some (s ++ stB op (2 + k) a b zs)
  | [], s, h => by rw [m_impl_steps_l3]; simp [stB]
  | z :: zs, s, h => by
    simp only [stB, List.map_cons, List.length_append, List.length_cons] at h
    rw [m_impl_steps_l3, hw, appI_eq (by simp; omega), Option.bind_some, steps_l3 hw zs _ (by simp [stB] at h ⊢; omega)]
    simp [stB]
theorem suSteps_l2 (hw : w64 (2 + k) = 2 + k) (c : GChoice) : ∀ (zs : List Int) (s : List GInstr), (s ++ stA op (2 + k) a (immsL c op) zs).length ≤ LIM → m_spec_suSteps_l2 op k a c zs s = some (s ++ stA op (2 + k) a (immsL c op) zs)
  | [], s, h => by rw [m_spec_suSteps_l2]; simp [stA]
  | z :: zs, s, h => by
    simp only [stA, List.flatMap_cons, List.length_append] at h
    rw [m_spec_suSteps_l2, show m_spec_suImms c op = immsL c op from rfl, suSteps_l3 op k a z hw _ _ (by simp; omega), Option.bind_some, suSteps_l2 hw c zs _ (by simp only [List.length_append, stA]; omega)]
    simp [stA]
theorem steps_l2 (hw : w64 (2 + k) = 2 + k) (is : List Int) : ∀ (zs : List Int) (s : List GInstr), (s ++ stA op (2 + k) a is zs).length ≤ LIM → m_impl_steps_l2 op k a is zs s = some (s ++ stA op (2 + k) a is zs)
  | [], s, h => by rw [m_impl_steps_l2]; simp [stA]
  | z :: zs, s, h => by
    simp only [stA, List.flatMap_cons, List.length_append] at h
    rw [m_impl_steps_l2, steps_l3 op k a z hw _ _ (by simp; omega), Option.bind_some, steps_l2 hw is zs _ (by simp only [List.length_append, stA]; omega)]
    simp [stA]
theorem suSteps_l1 (h0 : 0 ≤ k) (h1 : k ≤ 900) (c : GChoice) : ∀ (zs : List Int) (s : List GInstr), (s ++ stO op (2 + k) (immsL c op) (regsL (usB op) (2 + k)) zs).length ≤ LIM → m_spec_suSteps_l1 op k c zs s = some (s ++ stO op (2 + k) (immsL c op) (regsL (usB op) (2 + k)) zs)
  | [], s, h => by rw [m_spec_suSteps_l1]; simp [stO]
  | z :: zs, s, h => by
    have hw : w64 (2 + k) = 2 + k := w64_id (by omega) (by omega)
    simp only [stO, List.flatMap_cons, List.length_append] at h
    rw [m_spec_suSteps_l1, show (m_spec_cdShape op).2.2.1 = usB op from rfl, suRegs_eq h0 h1, Option.bind_some, suSteps_l2 op k z hw c _ _ (by simp only [List.length_append]; omega), Option.bind_some, suSteps_l1 h0 h1 c zs _ (by simp only [List.length_append, stO]; omega)]
    simp [stO]
theorem steps_l1 (h0 : 0 ≤ k) (h1 : k ≤ 900) (f : GForm × Bool) (is : List Int) : ∀ (zs : List Int) (s : List GInstr), (s ++ stO op (2 + k) is (regsL f.1.b (2 + k)) zs).length ≤ LIM → m_impl_steps_l1 f k op is zs s = some (s ++ stO op (2 + k) is (regsL f.1.b (2 + k)) zs)
  | [], s, h => by rw [m_impl_steps_l1]; simp [stO]
  | z :: zs, s, h => by
    have hw : w64 (2 + k) = 2 + k := w64_id (by omega) (by omega)
    simp only [stO, List.flatMap_cons, List.length_append] at h
    rw [m_impl_steps_l1, hw, upTo_eq (by omega) (by omega), Option.bind_some, steps_l2 op k z hw is _ _ (by simp only [List.length_append]; omega), Option.bind_some, steps_l1 h0 h1 f is zs _ (by simp only [List.length_append, stO]; omega)]
    simp [stO]
end
theorem suSteps_l0 {k : Int} (h0 : 0 ≤ k) (h1 : k ≤ 900) (c : GChoice) : ∀ (zs : List ByteArray) (s : List GInstr), (s ++ zs.flatMap fun op => stO op (2 + k) (immsL c op) (regsL (usB op) (2 + k)) (regsL (usA op) (2 + k))).length ≤ LIM →
    m_spec_suSteps_l0 k c zs s = some (s ++ zs.flatMap fun op => stO op (2 + k) (immsL c op) (regsL (usB op) (2 + k)) (regsL (usA op) (2 + k)))
  | [], s, h => by rw [m_spec_suSteps_l0]; simp
  | z :: zs, s, h => by
    simp only [List.flatMap_cons, List.length_append] at h
    rw [m_spec_suSteps_l0, suRegs_eq h0 h1, Option.bind_some]
    rw [suSteps_l1 z k h0 h1 c _ _ (by simp only [List.length_append]; exact Nat.le_trans (Nat.add_le_add_left (Nat.le_add_right _ _) _) h), Option.bind_some, suSteps_l0 h0 h1 c zs _ (by simp only [List.length_append]; rw [Nat.add_assoc]; exact h)]
    rw [List.flatMap_cons, List.append_assoc]
    rfl
theorem steps_l0 {k : Int} (h0 : 0 ≤ k) (h1 : k ≤ 900) (c : GChoice) : ∀ (zs : List ByteArray) (s : List GInstr), (∀ op ∈ zs, isOp op = true) → (s ++ zs.flatMap fun op => stO op (2 + k) (immsL c op) (regsL (usB op) (2 + k)) (regsL (usA op) (2 + k))).length ≤ LIM →
    m_impl_steps_l0 c k zs s = some (s ++ zs.flatMap fun op => stO op (2 + k) (immsL c op) (regsL (usB op) (2 + k)) (regsL (usA op) (2 + k)))
  | [], s, hz, h => by rw [m_impl_steps_l0]; simp
  | z :: zs, s, hz, h => by
    have hw : w64 (2 + k) = 2 + k := w64_id (by omega) (by omega)
    simp only [List.flatMap_cons, List.length_append] at h
    obtain ⟨f, e1, e2⟩ := formOf_eq z
    obtain ⟨k1, k2, k3, _⟩ := e2 (hz z (by simp))
    rw [m_impl_steps_l0, e1, Option.bind_some]
    simp only [bd]
    have hi : (if m__impl_form_imm f = true then c.Imms else [0]) = immsL c z := by rw [k3]; rfl
    rw [hi, hw, upTo_eq (by omega) (by omega), Option.bind_some]
    have hl1 := steps_l1 z k h0 h1 (f, isOp z) (immsL c z) (regsL f.a (2 + k)) s
    simp only [k1, k2] at hl1
    rw [k1, hl1 (by simp only [List.length_append]; exact Nat.le_trans (Nat.add_le_add_left (Nat.le_add_right _ _) _) h), Option.bind_some, steps_l0 h0 h1 c zs _ (fun o ho => hz o (by simp [ho])) (by simp only [List.length_append]; rw [Nat.add_assoc]; exact h)]
    rw [List.flatMap_cons, List.append_assoc]
theorem stepsL_len {c : GChoice} (hg : Good c) {k : Int} (h0 : 0 ≤ k) (h1 : k ≤ 2) : (stepsL c k).length ≤ 128 := by
  have hr : ∀ u, (regsL u (2 + k)).length ≤ 4 := by
    intro u; unfold regsL; split
    · rw [rng_length]; omega
    · simp
  have hi : ∀ op, (immsL c op).length ≤ 2 := by
    intro op; unfold immsL; split
    · exact hg.2.1
    · simp
  have h3 : ∀ op ∈ c.Ops, (stO op (2 + k) (immsL c op) (regsL (usB op) (2 + k)) (regsL (usA op) (2 + k))).length ≤ 32 := by
    intro op _
    unfold stO
    refine Nat.le_trans (flat_le (n := 8) (fun a _ => ?_)) (by have := hr (usA op); omega)
    unfold stA
    refine Nat.le_trans (flat_le (n := 2) (fun b _ => ?_)) (by have := hr (usB op); omega)
    unfold stB
    rw [List.length_map]; exact hi op
  unfold stepsL
  exact Nat.le_trans (flat_le h3) (by have := hg.1.2; omega)
theorem suSteps_eq {c : GChoice} (hg : Good c) {k : Int} (h0 : 0 ≤ k) (h1 : k ≤ 2) : m_spec_suSteps c k = some (stepsL c k) := by
  unfold m_spec_suSteps
  rw [suSteps_l0 h0 (by omega) c c.Ops [] (by have := stepsL_len hg h0 h1; unfold stepsL at this; simp only [List.nil_append, LIM]; omega)]
  rfl
theorem steps_eq {c : GChoice} (hg : Good c) {k : Int} (h0 : 0 ≤ k) (h1 : k ≤ 2) : m_impl_steps c k = some (stepsL c k) := by
  unfold m_impl_steps
  rw [steps_l0 h0 (by omega) c c.Ops [] (fun o ho => (hg.2.2.2.1 o ho).1) (by have := stepsL_len hg h0 h1; unfold stepsL at this; simp only [List.nil_append, LIM]; omega)]
  rfl
/-- what a step is -/
theorem mem_stepsL {c : GChoice} {k : Int} {x : GInstr} (hk : 0 ≤ k) : x ∈ stepsL c k ↔ x.Op ∈ c.Ops ∧ x.Dst = 2 + k ∧ (x.A ∈ regsL (usA x.Op) (2 + k)) ∧ (x.B ∈ regsL (usB x.Op) (2 + k)) ∧ x.Imm ∈ immsL c x.Op := by
  obtain ⟨o, d, a, b, i⟩ := x
  simp only [stepsL, stO, stA, stB, List.mem_flatMap, List.mem_map, GInstr.mk.injEq]
  constructor
  · rintro ⟨op, h1, a', h2, b', h3, i', h4, rfl, rfl, rfl, rfl, rfl⟩
    exact ⟨h1, rfl, h2, h3, h4⟩
  · rintro ⟨h1, rfl, h2, h3, h4⟩
    exact ⟨o, h1, a, h2, b, h3, i, h4, rfl, rfl, rfl, rfl, rfl⟩
theorem regsL_mem {u : Bool} {m r : Int} (hm : 1 ≤ m) (h : r ∈ regsL u m) : 0 ≤ r ∧ r < m := by
  unfold regsL at h
  split at h
  · exact mem_rng.1 h
  · simp at h; omega
end Go.Proofs.Ytpfdeoapnpcbaaa
