/-
  What is proved here: what ops and instructions compute on words, alike for the program and the reference; runs of programs.
  Conditions: none.
-/
import Derived.Test.YtpfdeoapnpcbaaaP3
set_option linter.unusedSectionVars false
namespace Go.Proofs.Ytpfdeoapnpcbaaa
open Go.Vs
set_option linter.unusedVariables false
set_option linter.unusedSimpArgs false
set_option maxHeartbeats 1000000

/-! ### words -/
theorem andI63 (x : Int) : 0 ≤ andI .i64 x 63 ∧ andI .i64 x 63 ≤ 63 := by
  unfold andI
  have h : (BitVec.ofInt IntKind.i64.bits x &&& BitVec.ofInt IntKind.i64.bits 63).toNat ≤ 63 := by
    rw [BitVec.toNat_and]
    exact Nat.le_trans Nat.and_le_right (by decide)
  rw [IntKind.wrap_i64]
  omega
theorem apply_eq (op : ByteArray) (a b : Int) : m_impl_apply op a b = m_spec_exApply op a b := by
  unfold m_impl_apply m_spec_exApply m_impl_bit
  congr 1
  have e1 : (some (if decide (a < b) = true then (1 : Int) else 0)) = (if decide (a < b) = true then some 1 else some 0) := by split <;> rfl
  have e2 : (some (if (a == b) = true then (1 : Int) else 0)) = (if (a == b) = true then some 1 else some 0) := by split <;> rfl
  rw [e1, e2]
theorem ite_some {α : Type} {c : Prop} [Decidable c] {A B : Option α} (hA : ∃ X, A = some X) (hB : ∃ X, B = some X) : ∃ X, (if c then A else B) = some X := by
  split
  · exact hA
  · exact hB
noncomputable def apV (op : ByteArray) (a b : Int) : Int := (m_spec_exApply op a b).getD 0
theorem exApply_eq {op : ByteArray} {a b : Int} (hb : 0 ≤ b) : m_spec_exApply op a b = some (apV op a b) ∧ 0 ≤ apV op a b ∧ apV op a b ≤ 63 := by
  have h1 : ∃ v, shlI .i64 a b = some v := by unfold shlI; rw [if_neg (by omega)]; exact ⟨_, rfl⟩
  have h2 : ∃ v, shrI .i64 a b = some v := by unfold shrI; rw [if_neg (by omega)]; exact ⟨_, rfl⟩
  obtain ⟨v1, h1⟩ := h1
  obtain ⟨v2, h2⟩ := h2
  have key : ∃ E : Option Int, m_spec_exApply op a b = E.bind (fun X => some (andI .i64 X 63)) ∧ ∃ X, E = some X := by
    refine ⟨_, rfl, ?_⟩
    repeat' (first | refine ite_some ?_ ?_ | exact ⟨_, rfl⟩ | (rw [h1]; exact ⟨_, rfl⟩) | (rw [h2]; exact ⟨_, rfl⟩))
  obtain ⟨E, hE, X, rfl⟩ := key
  have hX : m_spec_exApply op a b = some (andI .i64 X 63) := hE
  have : apV op a b = andI .i64 X 63 := by unfold apV; rw [hX]; rfl
  rw [this]
  exact ⟨hX, andI63 X⟩

/-! ### instructions -/
noncomputable def valV (x : GInstr) (a b : Int) : Int := (m__impl_Instr_word x a b).getD 0
theorem cdValue_eq (x : GInstr) (regs : List Int) : m_spec_cdValue x regs = (getI regs x.A).bind fun a => (getI regs x.B).bind fun b => m__impl_Instr_word x a b := by
  unfold m_spec_cdValue m__impl_Instr_word
  congr 1; funext a; congr 1; funext b
  simp only [apply_eq]
  by_cases h1 : x.Op = nSet
  · rw [h1]; rfl
  by_cases h2 : x.Op = nMov
  · rw [h2]; rfl
  by_cases h3 : x.Op = nAddi
  · rw [h3]; rfl
  by_cases h4 : x.Op = nAndi
  · rw [h4]; rfl
  by_cases h5 : x.Op = nXori
  · rw [h5]; rfl
  by_cases h6 : x.Op = nShli
  · rw [h6]; rfl
  by_cases h7 : x.Op = nShri
  · rw [h7]; rfl
  by_cases h8 : x.Op = nLea
  · rw [h8]; rfl
  simp [h1, h2, h3, h4, h5, h6, h7, h8, bd]
def Wd (a : Int) : Prop := 0 ≤ a ∧ a ≤ 63
def ImmOk (x : GInstr) : Prop := isOp x.Op = true ∧ (usI x.Op = true → Wd x.Imm)
theorem word_ok {x : GInstr} (hx : ImmOk x) {a b : Int} (ha : Wd a) (hb : Wd b) : m__impl_Instr_word x a b = some (valV x a b) ∧ Wd (valV x a b) := by
  have key : ∃ v, m__impl_Instr_word x a b = some v ∧ Wd v := by
    unfold m__impl_Instr_word
    simp only [apply_eq]
    have hI : usI x.Op = true → 0 ≤ x.Imm := fun h => (hx.2 h).1
    by_cases h1 : x.Op = nSet
    · rw [h1]; exact ⟨x.Imm, rfl, hx.2 (by rw [h1]; rfl)⟩
    by_cases h2 : x.Op = nMov
    · rw [h2]; exact ⟨a, rfl, ha⟩
    by_cases h8 : x.Op = nLea
    · have hi : 0 ≤ x.Imm := hI (by rw [h8]; rfl)
      obtain ⟨e1, e2, e3⟩ := exApply_eq (op := nShl) (a := b) hi
      obtain ⟨e4, e5⟩ := exApply_eq (op := nAdd) (a := a) e2
      rw [h8]
      refine ⟨apV nAdd a (apV nShl b x.Imm), ?_, e5⟩
      show ((m_spec_exApply nShl b x.Imm).bind fun x1 => (m_spec_exApply nAdd a x1).bind fun x2 => some x2) = _
      rw [e1, Option.bind_some, e4]; rfl
    have hk : ∀ (o : ByteArray), x.Op = o → ∀ o3, subS o 0 3 = some o3 → usI o = true → ∃ v, ((subS o 0 3).bind fun x4 => (m_spec_exApply x4 a x.Imm).bind fun x5 => some x5) = some v ∧ Wd v := by
      intro o ho o3 h3 hu
      obtain ⟨e1, e2⟩ := exApply_eq (op := o3) (a := a) (hI (by rw [ho]; exact hu))
      exact ⟨_, by rw [h3, Option.bind_some, e1]; rfl, e2⟩
    by_cases h3 : x.Op = nAddi
    · have := hk nAddi h3 nAdd rfl rfl; rw [h3]; exact this
    by_cases h4 : x.Op = nAndi
    · have := hk nAndi h4 nAnd rfl rfl; rw [h4]; exact this
    by_cases h5 : x.Op = nXori
    · have := hk nXori h5 nXor rfl rfl; rw [h5]; exact this
    by_cases h6 : x.Op = nShli
    · have := hk nShli h6 nShl rfl rfl; rw [h6]; exact this
    by_cases h7 : x.Op = nShri
    · have := hk nShri h7 nShr rfl rfl; rw [h7]; exact this
    obtain ⟨e1, e2⟩ := exApply_eq (op := x.Op) (a := a) hb.1
    refine ⟨apV x.Op a b, ?_, e2⟩
    simp [h1, h2, h3, h4, h5, h6, h7, h8, bd, e1]
  obtain ⟨v, h1, h2⟩ := key
  have : valV x a b = v := by unfold valV; rw [h1]; rfl
  rw [this]; exact ⟨h1, h2⟩

/-! ### runs -/
noncomputable def stepR (x : GInstr) (R : List Int) : List Int := R.set x.Dst.toNat (valV x (R.getD x.A.toNat 0) (R.getD x.B.toNat 0))
noncomputable def runR (code : List GInstr) (R : List Int) : List Int := code.foldl (fun R x => stepR x R) R
def RegOk (R : List Int) : Prop := R.length = 6 ∧ ∀ a ∈ R, Wd a
def InOk (x : GInstr) : Prop := ImmOk x ∧ (0 ≤ x.Dst ∧ x.Dst ≤ 5) ∧ (0 ≤ x.A ∧ x.A ≤ 5) ∧ (0 ≤ x.B ∧ x.B ≤ 5)
theorem reg_get {R : List Int} (h : RegOk R) {i : Int} (h0 : 0 ≤ i) (h1 : i ≤ 5) : getI R i = some (R.getD i.toNat 0) ∧ Wd (R.getD i.toNat 0) := by
  have hlt : i.toNat < R.length := by rw [h.1]; omega
  have hg : R.getD i.toNat 0 = R[i.toNat] := by rw [List.getD_eq_getElem?_getD, List.getElem?_eq_getElem hlt]; rfl
  rw [getI_t h0, hg, List.getElem?_eq_getElem hlt]
  exact ⟨rfl, h.2 _ (List.getElem_mem hlt)⟩
theorem stepR_ok {x : GInstr} (hx : InOk x) {R : List Int} (hR : RegOk R) : RegOk (stepR x R) := by
  refine ⟨by unfold stepR; rw [List.length_set]; exact hR.1, fun a ha => ?_⟩
  rcases List.mem_or_eq_of_mem_set ha with h | h
  · exact hR.2 a h
  · rw [h]; exact (word_ok hx.1 (reg_get hR hx.2.2.1.1 hx.2.2.1.2).2 (reg_get hR hx.2.2.2.1 hx.2.2.2.2).2).2
theorem l1Own_eq {R : List Int} (h : R.length ≤ LIM) : m_spec_l1Own R = some R := by
  unfold m_spec_l1Own
  rw [appI_eq (by simpa using h)]; rfl
theorem cdStep_eq {x : GInstr} (hx : InOk x) {R : List Int} (hR : RegOk R) : m_spec_cdStep x R = some (stepR x R) := by
  unfold m_spec_cdStep
  rw [l1Own_eq (by rw [hR.1]; simp [LIM]), Option.bind_some, cdValue_eq]
  obtain ⟨a1, a2⟩ := reg_get hR hx.2.2.1.1 hx.2.2.1.2
  obtain ⟨b1, b2⟩ := reg_get hR hx.2.2.2.1 hx.2.2.2.2
  rw [a1, Option.bind_some, b1, Option.bind_some, (word_ok hx.1 a2 b2).1, Option.bind_some]
  unfold setI
  rw [if_pos ⟨hx.2.1.1, by rw [hR.1]; have := hx.2.1; omega⟩]
  rfl
theorem cdRun_l0_eq : ∀ (code : List GInstr) (R : List Int), (∀ x ∈ code, InOk x) → RegOk R → m_spec_cdRun_l0 code R = some (runR code R) ∧ RegOk (runR code R)
  | [], R, _, hR => ⟨by rw [m_spec_cdRun_l0]; rfl, hR⟩
  | x :: code, R, hc, hR => by
    have hx := hc x (by simp)
    rw [m_spec_cdRun_l0, cdStep_eq hx hR, Option.bind_some]
    exact cdRun_l0_eq code _ (fun y hy => hc y (by simp [hy])) (stepR_ok hx hR)
theorem cdRun_eq {code : List GInstr} {R : List Int} (hc : ∀ x ∈ code, InOk x) (hR : RegOk R) : m_spec_cdRun code R = some (runR code R) ∧ RegOk (runR code R) := by
  obtain ⟨h1, h2⟩ := cdRun_l0_eq code R hc hR
  refine ⟨?_, h2⟩
  unfold m_spec_cdRun
  rw [l1Own_eq (by rw [hR.1]; simp [LIM]), Option.bind_some, h1]; rfl
def startR (x0 x1 : Int) : List Int := [x0, x1, 0, 0, 0, 0]
theorem startR_ok {x0 x1 : Int} (h0 : Wd x0) (h1 : Wd x1) : RegOk (startR x0 x1) := by
  refine ⟨rfl, fun a ha => ?_⟩
  simp only [startR, List.mem_cons, List.not_mem_nil, or_false] at ha
  rcases ha with rfl | rfl | rfl | rfl | rfl | rfl
  · exact h0
  · exact h1
  all_goals exact ⟨by omega, by omega⟩
theorem cdStart_eq (x0 x1 : Int) : m_spec_cdStart x0 x1 = some (startR x0 x1) := by
  unfold m_spec_cdStart
  rw [show (6 : Int) = ((6 : Nat) : Int) from rfl, makI_n (by simp [LIM]), Option.bind_some]
  rfl
theorem runR_append (p q : List GInstr) (R : List Int) : runR (p ++ q) R = runR q (runR p R) := by unfold runR; rw [List.foldl_append]

/-! ### programs -/
def Prog (c : GChoice) (p : List GInstr) : Prop := p.length ≤ 3 ∧ ∀ (i : Nat) x, p[i]? = some x → x ∈ stepsL c (i : Int)
theorem step_ok {c : GChoice} (hg : Good c) {k : Int} (h0 : 0 ≤ k) (h1 : k ≤ 2) {x : GInstr} (hx : x ∈ stepsL c k) : InOk x ∧ x.Dst = 2 + k ∧ x.A < 2 + k ∧ x.B < 2 + k := by
  obtain ⟨m1, m2, m3, m4, m5⟩ := (mem_stepsL h0).1 hx
  have ho := hg.2.2.2.1 x.Op m1
  obtain ⟨a1, a2⟩ := regsL_mem (by omega) m3
  obtain ⟨b1, b2⟩ := regsL_mem (by omega) m4
  refine ⟨⟨⟨ho.1, fun hu => ?_⟩, by omega, by omega, by omega⟩, m2, a2, b2⟩
  unfold immsL at m5
  rw [if_pos hu] at m5
  exact hg.2.2.1 _ m5
theorem Prog.ok {c : GChoice} (hg : Good c) {p : List GInstr} (hp : Prog c p) : ∀ x ∈ p, InOk x := by
  intro x hx
  obtain ⟨i, hi⟩ := List.getElem?_of_mem hx
  have hlt := (List.getElem?_eq_some_iff.1 hi).1
  exact (step_ok hg (by omega) (by have := hp.1; omega) (hp.2 i x hi)).1
theorem Prog.take {c : GChoice} {p : List GInstr} (hp : Prog c p) (n : Nat) : Prog c (p.take n) := by
  refine ⟨by rw [List.length_take]; have := hp.1; omega, fun i x hx => ?_⟩
  rw [List.getElem?_take] at hx
  split at hx
  · exact hp.2 i x hx
  · cases hx
theorem Prog.snoc {c : GChoice} {p : List GInstr} {x : GInstr} (hp : Prog c p) (hl : p.length < 3) (hx : x ∈ stepsL c (p.length : Int)) : Prog c (p ++ [x]) := by
  refine ⟨by simp; omega, fun i y hy => ?_⟩
  by_cases hi : i < p.length
  · rw [List.getElem?_append_left hi] at hy; exact hp.2 i y hy
  · rw [List.getElem?_append_right (by omega)] at hy
    have : i - p.length = 0 := by
      have := (List.getElem?_eq_some_iff.1 hy).1
      simp at this; omega
    rw [this] at hy
    simp at hy; subst hy
    rwa [show i = p.length by omega]
/-- registers of the steps before stay -/
theorem stepR_get {x : GInstr} {R : List Int} {r : Nat} (hd : x.Dst.toNat ≠ r) : (stepR x R).getD r 0 = R.getD r 0 := by
  unfold stepR
  rw [List.getD_eq_getElem?_getD, List.getElem?_set_ne hd, ← List.getD_eq_getElem?_getD]
theorem stepR_dst {x : GInstr} {R : List Int} (hR : RegOk R) (hx : InOk x) : (stepR x R).getD x.Dst.toNat 0 = valV x (R.getD x.A.toNat 0) (R.getD x.B.toNat 0) := by
  unfold stepR
  rw [List.getD_eq_getElem?_getD, List.getElem?_set_self (by rw [hR.1]; have := hx.2.1; omega)]
  rfl
end Go.Proofs.Ytpfdeoapnpcbaaa
