/-
  What is proved here: when a step is a reason to call a program pruned, alike for the program's columns and the reference's runs.
  Conditions: none.
-/
import Derived.Test.YtpfdeoapnpcbaaaP4
namespace Go.Proofs.Ytpfdeoapnpcbaaa
open Go.Vs
set_option linter.unusedVariables false
set_option linter.unusedSimpArgs false
set_option maxHeartbeats 1000000
set_option linter.unusedSectionVars false

noncomputable def reg (code : List GInstr) (x0 x1 : Int) (r : Int) : Int := (runR code (startR x0 x1)).getD r.toNat 0
def Alike (code : List GInstr) (r s : Int) : Prop := ∀ x0 x1, Wd x0 → Wd x1 → reg code x0 x1 r = reg code x0 x1 s

/-! ### the reference -/
theorem tm {i c : Int} (h0 : 0 ≤ i) (h1 : i < 64) (hc : 0 ≤ c) (hc2 : c < 100) : remI (w64 (i + c)) 64 = some ((i + c).tmod 64) ∧ Wd ((i + c).tmod 64) := by
  rw [w64_id (by omega) (by omega)]
  unfold remI
  rw [if_neg (by omega)]
  refine ⟨rfl, ?_⟩
  unfold Wd
  rw [Int.tmod_eq_emod_of_nonneg (by omega)]
  omega
theorem suAlike_l1 {code : List GInstr} (hc : ∀ x ∈ code, InOk x) {r s : Int} (hr : 0 ≤ r ∧ r ≤ 5) (hs : 0 ≤ s ∧ s ≤ 5) {i : Int} (h0 : 0 ≤ i) (h1 : i < 64) : ∀ zs : List Int, (∀ j ∈ zs, 0 ≤ j ∧ j < 64) →
    ∃ o, m_spec_suAlike_l1 i code r s zs = some o ∧ ((o = .inl () ∧ ∀ j ∈ zs, reg code ((i + 37).tmod 64) ((j + 22).tmod 64) r = reg code ((i + 37).tmod 64) ((j + 22).tmod 64) s) ∨ (o = .inr false ∧ ¬ ∀ j ∈ zs, reg code ((i + 37).tmod 64) ((j + 22).tmod 64) r = reg code ((i + 37).tmod 64) ((j + 22).tmod 64) s))
  | [], _ => ⟨_, by rw [m_spec_suAlike_l1], .inl ⟨rfl, by simp⟩⟩
  | j :: zs, hz => by
    obtain ⟨a1, a2⟩ := tm h0 h1 (c := 37) (by omega) (by omega)
    obtain ⟨b1, b2⟩ := tm (hz j (by simp)).1 (hz j (by simp)).2 (c := 22) (by omega) (by omega)
    obtain ⟨c1, c2⟩ := cdRun_eq hc (startR_ok a2 b2)
    rw [m_spec_suAlike_l1, a1, Option.bind_some, b1, Option.bind_some, cdStart_eq, Option.bind_some, c1, Option.bind_some, (reg_get c2 hr.1 hr.2).1, Option.bind_some, (reg_get c2 hs.1 hs.2).1, Option.bind_some]
    obtain ⟨o, k1, k2⟩ := suAlike_l1 hc hr hs h0 h1 zs (fun y hy => hz y (by simp [hy]))
    by_cases he : reg code ((i + 37).tmod 64) ((j + 22).tmod 64) r = reg code ((i + 37).tmod 64) ((j + 22).tmod 64) s
    · have he' := he
      unfold reg at he'
      rw [he', bne_self_eq_false, if_neg (by simp)]
      refine ⟨o, k1, ?_⟩
      rcases k2 with ⟨e, h⟩ | ⟨e, h⟩
      · exact .inl ⟨e, fun y hy => by
          rcases List.mem_cons.1 hy with rfl | hy
          · exact he
          · exact h y hy⟩
      · exact .inr ⟨e, fun hh => h (fun y hy => hh y (by simp [hy]))⟩
    · have : ((runR code (startR ((i + 37).tmod 64) ((j + 22).tmod 64))).getD r.toNat 0 != (runR code (startR ((i + 37).tmod 64) ((j + 22).tmod 64))).getD s.toNat 0) = true := by
        simpa [reg] using he
      rw [if_pos this]
      exact ⟨_, rfl, .inr ⟨rfl, fun hh => he (hh j (by simp))⟩⟩
theorem suAlike_l0 {code : List GInstr} (hc : ∀ x ∈ code, InOk x) {r s : Int} (hr : 0 ≤ r ∧ r ≤ 5) (hs : 0 ≤ s ∧ s ≤ 5) : ∀ zs : List Int, (∀ j ∈ zs, 0 ≤ j ∧ j < 64) →
    ∃ b, m_spec_suAlike_l0 code r s zs = some b ∧ (b = true ↔ ∀ i ∈ zs, ∀ j ∈ rng 0 64, reg code ((i + 37).tmod 64) ((j + 22).tmod 64) r = reg code ((i + 37).tmod 64) ((j + 22).tmod 64) s)
  | [], _ => ⟨true, by rw [m_spec_suAlike_l0], by simp⟩
  | i :: zs, hz => by
    obtain ⟨o, k1, k2⟩ := suAlike_l1 hc hr hs (hz i (by simp)).1 (hz i (by simp)).2 (rng 0 64) (fun j hj => mem_rng.1 hj)
    obtain ⟨b, g1, g2⟩ := suAlike_l0 hc hr hs zs (fun y hy => hz y (by simp [hy]))
    rw [m_spec_suAlike_l0, k1, Option.bind_some]
    rcases k2 with ⟨rfl, h⟩ | ⟨rfl, h⟩
    · refine ⟨b, g1, ?_⟩
      rw [g2]
      exact ⟨fun hh y hy => by
        rcases List.mem_cons.1 hy with rfl | hy
        · exact h
        · exact hh y hy, fun hh y hy => hh y (by simp [hy])⟩
    · refine ⟨false, rfl, ?_⟩
      simp only [Bool.false_eq_true, false_iff]
      exact fun hh => h (hh i (by simp))
theorem suAlike_eq {code : List GInstr} (hc : ∀ x ∈ code, InOk x) {r s : Int} (hr : 0 ≤ r ∧ r ≤ 5) (hs : 0 ≤ s ∧ s ≤ 5) : ∃ b, m_spec_suAlike code r s = some b ∧ (b = true ↔ Alike code r s) := by
  obtain ⟨b, h1, h2⟩ := suAlike_l0 hc hr hs (rng 0 64) (fun j hj => mem_rng.1 hj)
  refine ⟨b, h1, h2.trans ⟨fun h x0 x1 h0 h1 => ?_, fun h i hi j hj => ?_⟩⟩
  · have e1 : (((x0 + 27).emod 64) + 37).tmod 64 = x0 := by
      unfold Wd at h0
      rw [Int.tmod_eq_emod_of_nonneg (by show 0 ≤ (x0 + 27) % 64 + 37; omega)]
      show ((x0 + 27) % 64 + 37) % 64 = x0
      omega
    have e2 : (((x1 + 42).emod 64) + 22).tmod 64 = x1 := by
      unfold Wd at h1
      rw [Int.tmod_eq_emod_of_nonneg (by show 0 ≤ (x1 + 42) % 64 + 22; omega)]
      show ((x1 + 42) % 64 + 22) % 64 = x1
      omega
    have := h ((x0 + 27).emod 64) (mem_rng.2 (by show 0 ≤ (x0 + 27) % 64 ∧ (x0 + 27) % 64 < 64; omega)) ((x1 + 42).emod 64) (mem_rng.2 (by show 0 ≤ (x1 + 42) % 64 ∧ (x1 + 42) % 64 < 64; omega))
    rwa [e1, e2] at this
  · obtain ⟨i0, i1⟩ := mem_rng.1 hi
    obtain ⟨j0, j1⟩ := mem_rng.1 hj
    exact h _ _ (tm i0 i1 (c := 37) (by omega) (by omega)).2 (tm j0 j1 (c := 22) (by omega) (by omega)).2

def turnOps : List ByteArray := [nAdd, nAnd, nOr, nXor, nMul, nEq]
/-- 'q' is the program up to the step x, the step with the index k -/
def Reason (q : List GInstr) (k : Nat) (x : GInstr) (last : Prop) : Prop := (x.B < x.A ∧ x.Op ∈ turnOps) ∨ ∃ r : Int, (0 ≤ r ∧ r < 2 + (k : Int)) ∧ (r ≠ 1 ∨ ¬ last) ∧ Alike q (2 + (k : Int)) r

theorem suPruned_l1 {code : List GInstr} (hc : ∀ x ∈ code, InOk x) {i : Nat} (hi : i < code.length) (hl : code.length ≤ 3) : ∀ zs : List Int, (∀ r ∈ zs, 0 ≤ r ∧ r < 2 + (i : Int)) →
    ∃ o, m_spec_suPruned_l1 code (i : Int) zs = some o ∧ ((o = .inr true ∧ ∃ r ∈ zs, (r ≠ 1 ∨ ¬ i + 1 = code.length) ∧ Alike (code.take (i + 1)) (2 + (i : Int)) r) ∨ (o = .inl () ∧ ¬ ∃ r ∈ zs, (r ≠ 1 ∨ ¬ i + 1 = code.length) ∧ Alike (code.take (i + 1)) (2 + (i : Int)) r))
  | [], _ => ⟨_, by rw [m_spec_suPruned_l1], .inr ⟨rfl, by simp⟩⟩
  | r :: zs, hz => by
    obtain ⟨r0, r1⟩ := hz r (by simp)
    obtain ⟨o, k1, k2⟩ := suPruned_l1 hc hi hl zs (fun y hy => hz y (by simp [hy]))
    have hc' : ∀ x ∈ code.take (i + 1), InOk x := fun x hx => hc x (List.mem_of_mem_take hx)
    obtain ⟨b, g1, g2⟩ := suAlike_eq hc' (r := 2 + (i : Int)) (s := r) (by omega) (by omega)
    have ew : w64 ((i : Int) + 1) = ((i + 1 : Nat) : Int) := by rw [w64_id (by omega) (by omega)]; simp
    have ew2 : w64 (2 + (i : Int)) = 2 + (i : Int) := w64_id (by omega) (by omega)
    have es : subI code 0 (w64 ((i : Int) + 1)) = some (code.take (i + 1)) := by rw [ew]; exact subI_take (by omega)
    have hX : ∀ X : Bool, (X = true ↔ (r ≠ 1 ∨ ¬ i + 1 = code.length) ∧ Alike (code.take (i + 1)) (2 + (i : Int)) r) → ∃ o', ((some X).bind fun X15 => if X15 = true then some (.inr true) else m_spec_suPruned_l1 code (i : Int) zs) = some o' ∧
        ((o' = .inr true ∧ ∃ r' ∈ r :: zs, (r' ≠ 1 ∨ ¬ i + 1 = code.length) ∧ Alike (code.take (i + 1)) (2 + (i : Int)) r') ∨ (o' = .inl () ∧ ¬ ∃ r' ∈ r :: zs, (r' ≠ 1 ∨ ¬ i + 1 = code.length) ∧ Alike (code.take (i + 1)) (2 + (i : Int)) r')) := by
      intro X hX
      cases X with
      | true => exact ⟨_, rfl, .inl ⟨rfl, r, by simp, hX.1 rfl⟩⟩
      | false =>
        have hn : ¬ ((r ≠ 1 ∨ ¬ i + 1 = code.length) ∧ Alike (code.take (i + 1)) (2 + (i : Int)) r) := fun h => by have := hX.2 h; cases this
        refine ⟨o, by simpa using k1, ?_⟩
        rcases k2 with ⟨e, r', hr', h⟩ | ⟨e, h⟩
        · exact .inl ⟨e, r', by simp [hr'], h⟩
        · refine .inr ⟨e, ?_⟩
          rintro ⟨r', hr', hh⟩
          rcases List.mem_cons.1 hr' with rfl | hr'
          · exact hn hh
          · exact h ⟨r', hr', hh⟩
    rw [m_spec_suPruned_l1, es, ew2, ew]
    by_cases h1 : r = 1
    · subst h1
      by_cases h2 : i + 1 = code.length
      · have : decide (((i + 1 : Nat) : Int) < (code.length : Int)) = false := by simp; omega
        rw [this]
        exact hX false (by simp [h2])
      · have : decide (((i + 1 : Nat) : Int) < (code.length : Int)) = true := by simp; omega
        rw [this]
        simp only [bne_self_eq_false, Bool.false_eq_true, if_false, if_true, Option.bind_some, g1]
        exact hX b (by rw [g2]; simp [h2])
    · have : (r != 1) = true := by simpa using h1
      rw [this]
      simp only [if_true, Option.bind_some, g1]
      exact hX b (by rw [g2]; simp [h1])
theorem suPruned_l0 {code : List GInstr} (hc : ∀ x ∈ code, InOk x) (hl : code.length ≤ 3) : ∀ (zs : List GInstr) (i : Nat), code.drop i = zs →
    ∃ b, m_spec_suPruned_l0 code zs (i : Int) = some b ∧ (b = true ↔ ∃ j x, i ≤ j ∧ code[j]? = some x ∧ Reason (code.take (j + 1)) j x (j + 1 = code.length))
  | [], i, h => ⟨false, by rw [m_spec_suPruned_l0], by
      simp only [Bool.false_eq_true, false_iff]
      rintro ⟨j, x, h1, h2, _⟩
      have := (List.getElem?_eq_some_iff.1 h2).1
      have h3 : code.length ≤ i := by simpa using h
      omega⟩
  | x :: zs, i, h => by
    obtain ⟨h1, h2⟩ := drop_tail h
    have hg : code[i]? = some x := by
      have := congrArg List.head? h
      simpa [List.head?_drop] using this
    obtain ⟨b, k1, k2⟩ := suPruned_l0 hc hl zs (i + 1) h1
    have ew2 : w64 (2 + (i : Int)) = 2 + (i : Int) := w64_id (by omega) (by omega)
    rw [m_spec_suPruned_l0, ew2, chk_eq (by omega)]
    simp only [bd, Option.bind_some]
    have hstep : (∃ j y, i ≤ j ∧ code[j]? = some y ∧ Reason (code.take (j + 1)) j y (j + 1 = code.length)) ↔ Reason (code.take (i + 1)) i x (i + 1 = code.length) ∨ ∃ j y, i + 1 ≤ j ∧ code[j]? = some y ∧ Reason (code.take (j + 1)) j y (j + 1 = code.length) := by
      constructor
      · rintro ⟨j, y, e1, e2, e3⟩
        rcases Nat.lt_or_eq_of_le e1 with hlt | rfl
        · exact .inr ⟨j, y, hlt, e2, e3⟩
        · rw [hg] at e2; cases e2; exact .inl e3
      · rintro (e | ⟨j, y, e1, e2, e3⟩)
        · exact ⟨i, x, Nat.le_refl _, hg, e⟩
        · exact ⟨j, y, by omega, e2, e3⟩
    rw [hstep]
    by_cases ht : x.B < x.A ∧ x.Op ∈ turnOps
    · have : (decide (x.A > x.B) && m_spec_l1HasS [⟨#[97, 100, 100]⟩, ⟨#[97, 110, 100]⟩, ⟨#[111, 114]⟩, ⟨#[120, 111, 114]⟩, ⟨#[109, 117, 108]⟩, ⟨#[101, 113]⟩] x.Op) = true := by
        rw [Bool.and_eq_true]
        exact ⟨by simpa using ht.1, l1HasS_iff.2 ht.2⟩
      rw [if_pos this]
      exact ⟨true, rfl, by simp only [true_iff]; exact .inl (.inl ht)⟩
    · have : ¬ (decide (x.A > x.B) && m_spec_l1HasS [⟨#[97, 100, 100]⟩, ⟨#[97, 110, 100]⟩, ⟨#[111, 114]⟩, ⟨#[120, 111, 114]⟩, ⟨#[109, 117, 108]⟩, ⟨#[101, 113]⟩] x.Op) = true := by
        rw [Bool.and_eq_true]
        rintro ⟨e1, e2⟩
        exact ht ⟨by simpa using e1, l1HasS_iff.1 e2⟩
      rw [if_neg this]
      obtain ⟨o, g1, g2⟩ := suPruned_l1 hc h2 hl (rng 0 (2 + (i : Int))) (fun r hr => mem_rng.1 hr)
      rw [g1, Option.bind_some]
      rcases g2 with ⟨rfl, r, hr, e⟩ | ⟨rfl, e⟩
      · exact ⟨true, rfl, by simp only [true_iff]; exact .inl (.inr ⟨r, mem_rng.1 hr, e⟩)⟩
      · refine ⟨b, by simpa using k1, ?_⟩
        rw [k2]
        have : ¬ Reason (code.take (i + 1)) i x (i + 1 = code.length) := by
          rintro (e1 | ⟨r, hr, e1⟩)
          · exact ht e1
          · exact e ⟨r, mem_rng.2 hr, e1⟩
        simp [this]
def Pruned (code : List GInstr) : Prop := ∃ (j : Nat) (x : GInstr), code[j]? = some x ∧ Reason (code.take (j + 1)) j x (j + 1 = code.length)
theorem suPruned_eq {code : List GInstr} (hc : ∀ x ∈ code, InOk x) (hl : code.length ≤ 3) : ∃ b, m_spec_suPruned code = some b ∧ (b = true ↔ Pruned code) := by
  obtain ⟨b, h1, h2⟩ := suPruned_l0 hc hl code 0 rfl
  refine ⟨b, h1, h2.trans ?_⟩
  unfold Pruned
  constructor
  · rintro ⟨j, x, _, e⟩; exact ⟨j, x, e⟩
  · rintro ⟨j, x, e⟩; exact ⟨j, x, Nat.zero_le _, e⟩

/-! ### columns -/
noncomputable def IN : List (Int × Int) := (rng 0 64).flatMap fun x0 => (rng 0 64).map fun x1 => (x0, x1)
theorem IN_mem {xy : Int × Int} : xy ∈ IN ↔ Wd xy.1 ∧ Wd xy.2 := by
  obtain ⟨a, b⟩ := xy
  simp only [IN, List.mem_flatMap, List.mem_map, Prod.mk.injEq, mem_rng, Wd]
  constructor
  · rintro ⟨x0, h0, x1, h1, rfl, rfl⟩; omega
  · rintro ⟨h0, h1⟩; exact ⟨a, by omega, b, by omega, rfl, rfl⟩
theorem IN_len : IN.length = 4096 := by
  have : ∀ zs : List Int, (zs.flatMap fun x0 => (rng 0 64).map fun x1 => (x0, x1)).length = zs.length * 64 := by
    intro zs
    induction zs with
    | nil => simp
    | cons z zs ih => rw [List.flatMap_cons, List.length_append, ih, List.length_map, rng_length, List.length_cons]; omega
  unfold IN
  rw [this, rng_length]; rfl
noncomputable def colsP (p : List GInstr) : List (List Int) := (List.range (2 + p.length)).map fun (r : Nat) => IN.map fun xy => reg p xy.1 xy.2 (r : Int)
noncomputable def newcol (p : List GInstr) (x : GInstr) : List Int := IN.map fun xy => reg (p ++ [x]) xy.1 xy.2 (2 + (p.length : Int))
theorem colsP_get {p : List GInstr} {r : Int} (h0 : 0 ≤ r) (h1 : r < 2 + (p.length : Int)) : getI (colsP p) r = some (IN.map fun xy => reg p xy.1 xy.2 r) := by
  rw [getI_t h0]
  unfold colsP
  rw [List.getElem?_map, List.getElem?_range (by omega)]
  simp only [Option.map_some]
  rw [Int.toNat_of_nonneg h0]
section
variable {c : GChoice} (hg : Good c) {p : List GInstr} (hp : Prog c p) (hl : p.length < 3) {x : GInstr} (hx : x ∈ stepsL c (p.length : Int))
include hg hp hl hx
theorem reg_new {x0 x1 : Int} (h0 : Wd x0) (h1 : Wd x1) : reg (p ++ [x]) x0 x1 (2 + (p.length : Int)) = valV x (reg p x0 x1 x.A) (reg p x0 x1 x.B) ∧ Wd (reg (p ++ [x]) x0 x1 (2 + (p.length : Int))) ∧ Wd (reg p x0 x1 x.A) ∧ Wd (reg p x0 x1 x.B) := by
  obtain ⟨s1, s2, s3, s4⟩ := step_ok hg (by omega) (by omega) hx
  obtain ⟨_, c2⟩ := cdRun_eq (hp.ok hg) (startR_ok h0 h1)
  have hd := stepR_dst c2 s1
  rw [s2] at hd
  have he : reg (p ++ [x]) x0 x1 (2 + (p.length : Int)) = valV x (reg p x0 x1 x.A) (reg p x0 x1 x.B) := by
    unfold reg
    rw [runR_append]
    exact hd
  have ha : Wd (reg p x0 x1 x.A) := (reg_get c2 s1.2.2.1.1 s1.2.2.1.2).2
  have hb : Wd (reg p x0 x1 x.B) := (reg_get c2 s1.2.2.2.1 s1.2.2.2.2).2
  exact ⟨he, by rw [he]; exact (word_ok s1.1 ha hb).2, ha, hb⟩
theorem reg_old {x0 x1 : Int} {r : Int} (h0 : 0 ≤ r) (h1 : r < 2 + (p.length : Int)) : reg (p ++ [x]) x0 x1 r = reg p x0 x1 r := by
  obtain ⟨s1, s2, s3, s4⟩ := step_ok hg (by omega) (by omega) hx
  unfold reg
  rw [runR_append]
  exact stepR_get (by rw [s2]; omega)
theorem colsP_snoc : colsP (p ++ [x]) = colsP p ++ [newcol p x] := by
  unfold colsP newcol
  rw [List.length_append, List.length_singleton, show 2 + (p.length + 1) = (2 + p.length) + 1 by omega, List.range_succ, List.map_append]
  congr 1
  · apply List.map_congr_left
    intro r hr
    apply List.map_congr_left
    intro xy hxy
    exact reg_old hg hp hl hx (by omega) (by have := List.mem_range.1 hr; omega)
theorem wordAt_eq {i : Nat} {xy : Int × Int} (hi : IN[i]? = some xy) : m_impl_wordAt x (colsP p) (i : Int) = some (reg (p ++ [x]) xy.1 xy.2 (2 + (p.length : Int))) := by
  obtain ⟨s1, s2, s3, s4⟩ := step_ok hg (by omega) (by omega) hx
  obtain ⟨w0, w1⟩ := IN_mem.1 (List.mem_of_getElem? hi)
  obtain ⟨e1, e2, e3, e4⟩ := reg_new hg hp hl hx w0 w1
  unfold m_impl_wordAt
  rw [colsP_get s1.2.2.1.1 s3, Option.bind_some, getI_n, List.getElem?_map, hi, Option.map_some, Option.bind_some, colsP_get s1.2.2.2.1 s4, Option.bind_some, getI_n, List.getElem?_map, hi, Option.map_some, Option.bind_some]
  have f1 : w64 (reg p xy.1 xy.2 x.A) = reg p xy.1 xy.2 x.A := w64_id (by have := e3.1; omega) (by have := e3.2; omega)
  have f2 : w64 (reg p xy.1 xy.2 x.B) = reg p xy.1 xy.2 x.B := w64_id (by have := e4.1; omega) (by have := e4.2; omega)
  simp only [f1, f2]
  rw [(word_ok s1.1 e3 e4).1, Option.bind_some, ← e1]
  congr 1
  rw [IntKind.wrap_u8]
  have := e2.1; have := e2.2
  omega
theorem isColumn_l0 {g : Int × Int → Int} : ∀ (zs : List (Int × Int)) (i : Nat), IN.drop i = zs → ∃ b, m_impl_isColumn_l0 x (colsP p) (zs.map g) (i : Int) = some b ∧ (b = true ↔ ∀ xy ∈ zs, reg (p ++ [x]) xy.1 xy.2 (2 + (p.length : Int)) = g xy)
  | [], i, h => ⟨true, by rw [List.map_nil, m_impl_isColumn_l0], by simp⟩
  | z :: zs, i, h => by
    obtain ⟨h1, h2⟩ := drop_tail h
    have hgt : IN[i]? = some z := by
      have := congrArg List.head? h
      simpa [List.head?_drop] using this
    obtain ⟨b, k1, k2⟩ := isColumn_l0 zs (i + 1) h1
    rw [List.map_cons, m_impl_isColumn_l0, wordAt_eq hg hp hl hx hgt, Option.bind_some]
    by_cases he : reg (p ++ [x]) z.1 z.2 (2 + (p.length : Int)) = g z
    · rw [he, bne_self_eq_false, if_neg (by simp)]
      refine ⟨b, by rwa [show ((i : Nat) : Int) + 1 = ((i + 1 : Nat) : Int) by simp], ?_⟩
      rw [k2]; simp [he]
    · have : (reg (p ++ [x]) z.1 z.2 (2 + (p.length : Int)) != g z) = true := by simpa using he
      rw [if_pos this]
      exact ⟨false, rfl, by simp [he]⟩
theorem isColumn_eq {r : Int} (h0 : 0 ≤ r) (h1 : r < 2 + (p.length : Int)) : ∃ b, m_impl_isColumn x (colsP p) (IN.map fun xy => reg p xy.1 xy.2 r) = some b ∧ (b = true ↔ Alike (p ++ [x]) (2 + (p.length : Int)) r) := by
  obtain ⟨b, k1, k2⟩ := isColumn_l0 hg hp hl hx (g := fun xy => reg p xy.1 xy.2 r) IN 0 rfl
  refine ⟨b, k1, k2.trans ?_⟩
  constructor
  · intro h x0 x1 w0 w1
    rw [h (x0, x1) (IN_mem.2 ⟨w0, w1⟩), reg_old hg hp hl hx h0 h1]
  · intro h xy hxy
    rw [h _ _ (IN_mem.1 hxy).1 (IN_mem.1 hxy).2, reg_old hg hp hl hx h0 h1]
theorem isReason_l0 {last : Bool} : ∀ (zs : List (List Int)) (i : Nat), (colsP p).drop i = zs → ∃ b, m_impl_isReason_l0 x (colsP p) last zs (i : Int) = some b ∧
    (b = true ↔ (x.B < x.A ∧ x.Op ∈ turnOps) ∨ ∃ r : Int, ((i : Int) ≤ r ∧ r < 2 + (p.length : Int)) ∧ (r ≠ 1 ∨ ¬ last = true) ∧ Alike (p ++ [x]) (2 + (p.length : Int)) r)
  | [], i, h => by
    have hi : 2 + p.length ≤ i := by have : (colsP p).length ≤ i := by simpa using h
                                     simpa [colsP] using this
    refine ⟨m_impl_isTurned x, by rw [m_impl_isReason_l0], ?_⟩
    have : ¬ ∃ r : Int, ((i : Int) ≤ r ∧ r < 2 + (p.length : Int)) ∧ (r ≠ 1 ∨ ¬ last = true) ∧ Alike (p ++ [x]) (2 + (p.length : Int)) r := by
      rintro ⟨r, hr, _⟩; omega
    simp only [this, or_false]
    unfold m_impl_isTurned
    simp only [bd, Bool.and_eq_true, decide_eq_true_eq]
    exact ⟨fun ⟨a, b⟩ => ⟨b, containsS_iff.1 a⟩, fun ⟨a, b⟩ => ⟨containsS_iff.2 b, a⟩⟩
  | z :: zs, i, h => by
    obtain ⟨h1, h2⟩ := drop_tail h
    have hgt : (colsP p)[i]? = some z := by
      have := congrArg List.head? h
      simpa [List.head?_drop] using this
    have hi : i < 2 + p.length := by simpa [colsP] using h2
    have hz : z = IN.map fun xy => reg p xy.1 xy.2 (i : Int) := by
      have := colsP_get (p := p) (r := (i : Int)) (by omega) (by omega)
      rw [getI_n, hgt] at this
      exact Option.some.inj this
    obtain ⟨b, k1, k2⟩ := isReason_l0 zs (i + 1) h1
    obtain ⟨b', g1, g2⟩ := isColumn_eq hg hp hl hx (r := (i : Int)) (by omega) (by omega)
    rw [← hz] at g1
    have hX : ∀ X : Bool, (X = true ↔ ((i : Int) ≠ 1 ∨ ¬ last = true) ∧ Alike (p ++ [x]) (2 + (p.length : Int)) (i : Int)) → ∃ o, ((some X).bind fun X3 => if X3 = true then some true else m_impl_isReason_l0 x (colsP p) last zs ((i : Int) + 1)) = some o ∧
        (o = true ↔ (x.B < x.A ∧ x.Op ∈ turnOps) ∨ ∃ r : Int, ((i : Int) ≤ r ∧ r < 2 + (p.length : Int)) ∧ (r ≠ 1 ∨ ¬ last = true) ∧ Alike (p ++ [x]) (2 + (p.length : Int)) r) := by
      intro X hX
      cases X with
      | true => exact ⟨true, rfl, by simp only [true_iff]; exact .inr ⟨(i : Int), by omega, hX.1 rfl⟩⟩
      | false =>
        have hn : ¬ (((i : Int) ≠ 1 ∨ ¬ last = true) ∧ Alike (p ++ [x]) (2 + (p.length : Int)) (i : Int)) := fun h => by have := hX.2 h; cases this
        refine ⟨b, by simpa using k1, ?_⟩
        rw [k2]
        constructor
        · rintro (e | ⟨r, hr, e⟩)
          · exact .inl e
          · exact .inr ⟨r, by omega, e⟩
        · rintro (e | ⟨r, hr, e⟩)
          · exact .inl e
          · by_cases hri : r = (i : Int)
            · subst hri; exact absurd e hn
            · exact .inr ⟨r, by omega, e⟩
    rw [m_impl_isReason_l0, g1]
    simp only [Option.bind_some]
    by_cases e1 : (i : Int) = 1
    · rw [e1] at g2 hX ⊢
      simp only [bne_self_eq_false, Bool.false_eq_true, if_false]
      cases last with
      | true => exact hX false (by simp)
      | false => exact hX b' (by rw [g2]; simp)
    · have : ((i : Int) != 1) = true := by simpa using e1
      rw [this]
      exact hX b' (by rw [g2]; simp [e1])
theorem isReason_eq {last : Bool} : ∃ b, m_impl_isReason x (colsP p) last = some b ∧ (b = true ↔ Reason (p ++ [x]) p.length x (last = true)) := by
  obtain ⟨b, h1, h2⟩ := isReason_l0 hg hp hl hx (last := last) (colsP p) 0 rfl
  exact ⟨b, h1, h2⟩
theorem writes_l0 : ∀ (zs : List (Int × Int)) (i : Nat) (s : List Int), IN.drop i = zs → i + zs.length = s.length → i + zs.length = 4096 →
    m_impl_writes_l0 x (colsP p) (rng (i : Int) 4096) s = some (s.take i ++ zs.map fun xy => reg (p ++ [x]) xy.1 xy.2 (2 + (p.length : Int)))
  | [], i, s, h, hs, hn => by
    simp at hn
    rw [rng_nil (by omega), m_impl_writes_l0, List.take_of_length_le (by simp at hs; omega)]; simp
  | z :: zs, i, s, h, hs, hn => by
    obtain ⟨h1, h2⟩ := drop_tail h
    have hgt : IN[i]? = some z := by
      have := congrArg List.head? h
      simpa [List.head?_drop] using this
    rw [List.length_cons] at hs hn
    rw [rng_cons (by omega), m_impl_writes_l0, wordAt_eq hg hp hl hx hgt, Option.bind_some, setI_n (by omega), Option.bind_some]
    have := writes_l0 zs (i + 1) (s.set i (reg (p ++ [x]) z.1 z.2 (2 + (p.length : Int)))) h1 (by simp; omega) (by omega)
    rw [show ((i : Nat) : Int) + 1 = ((i + 1 : Nat) : Int) by simp, this, List.map_cons, copy_step (by simp; omega)]
theorem writes_eq : m_impl_writes x (colsP p) = some (newcol p x) := by
  unfold m_impl_writes
  rw [show (4096 : Int) = ((4096 : Nat) : Int) from rfl, makI_n (by unfold LIM; decide), Option.bind_some, List.length_replicate]
  have := writes_l0 hg hp hl hx IN 0 (List.replicate 4096 0) rfl (by rw [IN_len, List.length_replicate]) (by rw [IN_len])
  simp only [Int.natCast_zero, List.take_zero, List.nil_append] at this
  rw [show ((4096 : Nat) : Int) = 4096 from rfl, this]; rfl
end
end Go.Proofs.Ytpfdeoapnpcbaaa
