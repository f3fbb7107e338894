/-
  What is proved here: programs, what they reach, and the law of ProgramReaches on plain values.
  Conditions: none.
-/
import Derived.Test.YtpfdeoapnpcbaaaP8
import Derived.Test.YtpfdeoapnpcbaaaP10
set_option linter.unusedSectionVars false
namespace Go.Proofs.Ytpfdeoapnpcbaaa
open Go.Vs
set_option linter.unusedVariables false
set_option linter.unusedSimpArgs false
set_option maxHeartbeats 1000000

theorem table_l1W {f : Int → Int → Option Int} {g : Int → Int → Int} {i : Int} (hf : ∀ j, Wd j → f i j = some (g i j)) : ∀ (zs s : List Int), (∀ z ∈ zs, Wd z) → s.length + zs.length ≤ LIM → m_impl_table_l1 f i zs s = some (s ++ zs.map (g i))
  | [], s, _, _ => by rw [m_impl_table_l1]; simp
  | z :: zs, s, hz, h => by
    simp only [List.length_cons] at h
    rw [m_impl_table_l1, hf z (hz z (by simp)), Option.bind_some, appI_eq (by simp; omega), Option.bind_some, table_l1W hf zs _ (fun y hy => hz y (by simp [hy])) (by simp; omega)]
    simp
theorem rng64_wd : ∀ z ∈ rng 0 64, Wd z := fun z hz => by
  have := mem_rng.1 hz
  exact ⟨by omega, by omega⟩
theorem table_l0W {f : Int → Int → Option Int} {g : Int → Int → Int} (hf : ∀ i j, Wd i → Wd j → f i j = some (g i j)) : ∀ (zs s : List Int), (∀ z ∈ zs, Wd z) → s.length + 64 * zs.length ≤ LIM → m_impl_table_l0 f zs s = some (s ++ zs.flatMap fun i => (rng 0 64).map (g i))
  | [], s, _, _ => by rw [m_impl_table_l0]; simp
  | z :: zs, s, hz, h => by
    simp only [List.length_cons] at h
    rw [m_impl_table_l0, table_l1W (fun j hj => hf z j (hz z (by simp)) hj) _ _ rng64_wd (by rw [rng64]; omega), Option.bind_some, table_l0W hf zs _ (fun y hy => hz y (by simp [hy])) (by simp [rng64]; omega)]
    simp
theorem table_eqW {f : Int → Int → Option Int} {g : Int → Int → Int} (hf : ∀ i j, Wd i → Wd j → f i j = some (g i j)) : m_impl_table f = some (IN.map fun xy => g xy.1 xy.2) := by
  unfold m_impl_table
  rw [table_l0W hf _ _ rng64_wd (by rw [rng64]; decide), Option.bind_some]
  unfold IN
  rw [List.map_flatMap]
  simp [Function.comp_def]
noncomputable def evV (a : List GNode) (x0 x1 : Int) : Int := (m_spec_exAt a x0 x1).getD 0
theorem ev_ok {a : List GNode} (hg : GoodE a) {x0 x1 : Int} (w0 : Wd x0) (w1 : Wd x1) : Wd (evV a x0 x1) ∧ m_spec_exAt a x0 x1 = some (evV a x0 x1) ∧ m_impl_eval a x0 x1 = some (evV a x0 x1) := by
  obtain ⟨v, h1, h2, h3⟩ := eval_same hg w0 w1
  have : evV a x0 x1 = v := by unfold evV; rw [h2]; rfl
  rw [this]; exact ⟨h1, h2, h3⟩
theorem tableOf_eq {a : List GNode} (hg : GoodE a) : m_impl_tableOf a = some (IN.map fun xy => evV a xy.1 xy.2) := by
  unfold m_impl_tableOf
  rw [table_eqW (f := fun y0 y1 => m_impl_tableOf_1 y0 y1 a) (g := evV a) (fun i j hi hj => by unfold m_impl_tableOf_1; rw [(ev_ok hg hi hj).2.2]; rfl)]
  rfl
theorem tableCol {a : List GNode} (hg : GoodE a) : m_impl_columnOf (IN.map fun xy => evV a xy.1 xy.2) = some (IN.map fun xy => evV a xy.1 xy.2) := by
  refine columnOf_eq (fun x hx => ?_) (by rw [List.length_map, IN_len]; decide)
  obtain ⟨xy, h, rfl⟩ := List.mem_map.1 hx
  obtain ⟨h1, h2⟩ := IN_mem.1 h
  exact (ev_ok hg h1 h2).1

/-! ### columns of a program -/
theorem columnsOf_l0 {c : GChoice} (hg : Good c) {code : List GInstr} (hp : Prog c code) : ∀ (zs : List GInstr) (i : Nat), code.drop i = zs → m_impl_columnsOf_l0 zs (colsP (code.take i)) = some (colsP code)
  | [], i, h => by
    have hi : code.length ≤ i := by simpa using h
    rw [m_impl_columnsOf_l0, List.take_of_length_le hi]
  | x :: zs, i, h => by
    obtain ⟨k1, k2⟩ := drop_tail h
    have hgt : code[i]? = some x := by
      have := congrArg List.head? h
      simpa [List.head?_drop] using this
    have hl : (code.take i).length = i := by rw [List.length_take]; omega
    have h3 := hp.1
    have hx : x ∈ stepsL c ((code.take i).length : Int) := by rw [hl]; exact hp.2 i x hgt
    have e : code.take (i + 1) = code.take i ++ [x] := by rw [List.take_add_one, hgt]; rfl
    rw [m_impl_columnsOf_l0, writes_eq hg (hp.take i) (by omega) hx, Option.bind_some, appI_eq (by simp [colsP, LIM]; omega), Option.bind_some, ← colsP_snoc hg (hp.take i) (by omega) hx, ← e]
    exact columnsOf_l0 hg hp zs (i + 1) k1
theorem columnsOf_eq {c : GChoice} (hg : Good c) {code : List GInstr} (hp : Prog c code) : m_impl_columnsOf code = some (colsP code) := by
  unfold m_impl_columnsOf
  have := columnsOf_l0 hg hp code 0 rfl
  rw [List.take_zero] at this
  rw [begun_eq, Option.bind_some, this]; rfl
theorem suLast_b {code : List GInstr} (h : code.length ≤ 3) : 0 ≤ m_spec_suLast code ∧ m_spec_suLast code ≤ 4 ∧ m_spec_suLast code < 2 + (code.length : Int) := by
  unfold m_spec_suLast
  split
  · omega
  · rw [w64_id (by omega) (by omega)]; omega
theorem lastOf_eq {c : GChoice} (hg : Good c) {code : List GInstr} (hp : Prog c code) : m_impl_lastOf code = some (IN.map fun xy => reg code xy.1 xy.2 (m_spec_suLast code)) := by
  have hl := hp.1
  unfold m_impl_lastOf m_spec_suLast
  by_cases h : code.length = 0
  · have e : ((code.length : Int) == 0) = true := by rw [beq_iff_eq]; omega
    have : code = [] := List.length_eq_zero_iff.1 h
    rw [if_pos e, begun_eq, Option.bind_some, if_pos e, this, colsP_get (by omega) (by omega)]; rfl
  · have e : ¬ ((code.length : Int) == 0) = true := by rw [beq_iff_eq]; omega
    have e2 : (colsP code).length = 2 + code.length := by simp [colsP]
    rw [if_neg e, columnsOf_eq hg hp, Option.bind_some, if_neg e, e2, w64_id (by omega) (by omega), w64_id (by omega) (by omega), show ((2 + code.length : Nat) : Int) - 1 = 1 + (code.length : Int) by omega, colsP_get (by omega) (by omega)]; rfl

/-! ### what a program is -/
theorem place_ge (y : GInstr) : ∀ (xs : List GInstr) (i : Int), 0 ≤ i → (m_spec_suPlace_l0 y xs i < 0 ↔ y ∉ xs)
  | [], i, h => by rw [m_spec_suPlace_l0]; simp
  | x :: xs, i, h => by
    rw [m_spec_suPlace_l0]
    by_cases e : y = x
    · rw [if_pos (by simpa using e)]; simp [e]; omega
    · rw [if_neg (by simpa using e), place_ge y xs (i + 1) (by omega)]; simp [e]
theorem index_place (y : GInstr) : ∀ (xs : List GInstr) (i : Int), m_slices_Index_S_impl_Instr_impl_Instr_l0 y xs i = m_spec_suPlace_l0 y xs i
  | [], i => rfl
  | x :: xs, i => by rw [m_slices_Index_S_impl_Instr_impl_Instr_l0, m_spec_suPlace_l0, index_place y xs]
theorem place_iff {y : GInstr} {xs : List GInstr} : m_spec_suPlace xs y < 0 ↔ y ∉ xs := place_ge y xs 0 (by omega)
theorem containsX_iff {y : GInstr} {xs : List GInstr} : m_slices_Contains_S_impl_Instr_impl_Instr xs y = true ↔ y ∈ xs := by
  unfold m_slices_Contains_S_impl_Instr_impl_Instr m_slices_Index_S_impl_Instr_impl_Instr
  rw [index_place]
  have := place_ge y xs 0 (by omega)
  simp only [decide_eq_true_eq]
  constructor
  · intro h; exact Classical.byContradiction fun e => by have := this.2 e; omega
  · intro h; exact Classical.byContradiction fun e => this.1 (by omega) h
theorem prog_l0 {c : GChoice} (hg : Good c) {code : List GInstr} (hl : code.length ≤ 3) : ∀ (zs : List GInstr) (i : Nat), code.drop i = zs → (∀ (j : Nat) x, j < i → code[j]? = some x → x ∈ stepsL c (j : Int)) →
    ∃ b, m_impl_isProgram_l0 c zs (i : Int) = some b ∧ m_spec_suIs_l0 c zs (i : Int) = some b ∧ (b = true → Prog c code)
  | [], i, h, hp => by
    have hi : code.length ≤ i := by simpa using h
    exact ⟨true, rfl, rfl, fun _ => ⟨hl, fun j x hx => hp j x (by have := (List.getElem?_eq_some_iff.1 hx).1; omega) hx⟩⟩
  | x :: zs, i, h, hp => by
    obtain ⟨k1, k2⟩ := drop_tail h
    have hgt : code[i]? = some x := by
      have := congrArg List.head? h
      simpa [List.head?_drop] using this
    have e1 : ¬ decide ((i : Int) ≥ 3) = true := by simp; omega
    rw [m_impl_isProgram_l0, m_spec_suIs_l0, if_neg e1, steps_eq hg (by omega) (by omega), suSteps_eq hg (by omega) (by omega)]
    simp only [Option.bind_some]
    by_cases hx : x ∈ stepsL c (i : Int)
    · have e2 : m_slices_Contains_S_impl_Instr_impl_Instr (stepsL c (i : Int)) x = true := containsX_iff.2 hx
      have e3 : ¬ decide (m_spec_suPlace (stepsL c (i : Int)) x < 0) = true := by
        simp only [decide_eq_true_eq]; exact fun h => place_iff.1 h hx
      rw [e2, if_neg e3]
      simp only [Bool.not_true, Bool.false_eq_true, if_false]
      rw [show ((i : Nat) : Int) + 1 = ((i + 1 : Nat) : Int) by simp]
      refine prog_l0 hg hl zs (i + 1) k1 (fun j y hj hy => ?_)
      by_cases e : j < i
      · exact hp j y e hy
      · obtain rfl : j = i := by omega
        rw [hgt] at hy; cases hy; exact hx
    · have e2 : m_slices_Contains_S_impl_Instr_impl_Instr (stepsL c (i : Int)) x = false := by
        rw [Bool.eq_false_iff]; exact fun h => hx (containsX_iff.1 h)
      have e3 : decide (m_spec_suPlace (stepsL c (i : Int)) x < 0) = true := by
        simp only [decide_eq_true_eq]; exact place_iff.2 hx
      rw [e2, if_pos e3]
      exact ⟨false, rfl, rfl, fun h => by cases h⟩
theorem prog_long {c : GChoice} (hg : Good c) {code : List GInstr} (hl : 3 < code.length) : ∀ (zs : List GInstr) (i : Nat), code.drop i = zs → i ≤ 3 → m_impl_isProgram_l0 c zs (i : Int) = some false
  | [], i, h, hi => by
    have : code.length ≤ i := by simpa using h
    omega
  | x :: zs, i, h, hi => by
    obtain ⟨k1, k2⟩ := drop_tail h
    rw [m_impl_isProgram_l0]
    by_cases h3 : i = 3
    · rw [if_pos (by simp; omega)]; rfl
    · rw [if_neg (by simp; omega), steps_eq hg (by omega) (by omega)]
      simp only [Option.bind_some]
      cases m_slices_Contains_S_impl_Instr_impl_Instr (stepsL c (i : Int)) x with
      | false => rfl
      | true =>
        simp only [Bool.not_true, Bool.false_eq_true, if_false]
        rw [show ((i : Nat) : Int) + 1 = ((i + 1 : Nat) : Int) by simp]
        exact prog_long hg hl zs (i + 1) k1 (by omega)
theorem prog_same {c : GChoice} (hg : Good c) (code : List GInstr) : ∃ b, m_impl_isProgram c code = some b ∧ m_spec_suIs c code = some b ∧ (b = true → Prog c code) := by
  unfold m_impl_isProgram m_spec_suIs
  by_cases hl : code.length ≤ 3
  · rw [if_neg (by simp; omega)]
    exact prog_l0 hg hl code 0 rfl (fun j x hj => by omega)
  · rw [if_pos (by simp; omega)]
    exact ⟨false, prog_long hg (by omega) code 0 rfl (by omega), rfl, fun h => by cases h⟩

/-! ### reaching -/
def Ag (a : List GNode) (code : List GInstr) (x0 x1 : Int) : Prop := reg code x0 x1 (m_spec_suLast code) = evV a x0 x1
section
variable {a : List GNode} (ha : GoodE a) {c : GChoice} (hg : Good c) {code : List GInstr} (hp : Prog c code)
include ha hg hp
theorem last_get {x0 x1 : Int} (w0 : Wd x0) (w1 : Wd x1) : m_spec_cdStart x0 x1 = some (startR x0 x1) ∧ m_spec_cdRun code (startR x0 x1) = some (runR code (startR x0 x1)) ∧ getI (runR code (startR x0 x1)) (m_spec_suLast code) = some (reg code x0 x1 (m_spec_suLast code)) := by
  obtain ⟨c1, c2⟩ := cdRun_eq (hp.ok hg) (startR_ok w0 w1)
  obtain ⟨b1, b2, _⟩ := suLast_b hp.1
  exact ⟨cdStart_eq _ _, c1, (reg_get c2 b1 (by omega)).1⟩
theorem diff_l1 {x0 : Int} (w0 : Wd x0) : ∀ zs : List Int, (∀ z ∈ zs, Wd z) → ((∀ z ∈ zs, Ag a code x0 z) ∧ m_spec_seDifference_l1 x0 code (m_spec_suLast code) a zs = some (.inl ())) ∨ ((¬ ∀ z ∈ zs, Ag a code x0 z) ∧ ∃ u v, m_spec_seDifference_l1 x0 code (m_spec_suLast code) a zs = some (.inr (u, v, true)))
  | [], _ => .inl ⟨fun z hz => (by cases hz), rfl⟩
  | z :: zs, hz => by
    have w1 := hz z (by simp)
    obtain ⟨g1, g2, g3⟩ := last_get ha hg hp w0 w1
    rw [m_spec_seDifference_l1, g1, Option.bind_some, g2, Option.bind_some, g3, Option.bind_some, (ev_ok ha w0 w1).2.1, Option.bind_some]
    by_cases e : reg code x0 z (m_spec_suLast code) = evV a x0 z
    · rw [if_neg (by simpa using e)]
      rcases diff_l1 w0 zs (fun y hy => hz y (by simp [hy])) with ⟨h1, h2⟩ | ⟨h1, h2⟩
      · refine .inl ⟨fun y hy => ?_, h2⟩
        rcases List.mem_cons.1 hy with rfl | hy
        · exact e
        · exact h1 y hy
      · exact .inr ⟨fun h => h1 (fun y hy => h y (by simp [hy])), h2⟩
    · rw [if_pos (by simpa using e)]
      exact .inr ⟨fun h => e (h z (by simp)), _, _, rfl⟩
theorem diff_l0 : ∀ zs : List Int, (∀ z ∈ zs, Wd z) → ((∀ y ∈ zs, ∀ z ∈ rng 0 64, Ag a code y z) ∧ m_spec_seDifference_l0 code (m_spec_suLast code) a zs = some (0, 0, false)) ∨ ((¬ ∀ y ∈ zs, ∀ z ∈ rng 0 64, Ag a code y z) ∧ ∃ u v, m_spec_seDifference_l0 code (m_spec_suLast code) a zs = some (u, v, true))
  | [], _ => .inl ⟨fun z hz => (by cases hz), rfl⟩
  | y :: zs, hz => by
    rw [m_spec_seDifference_l0]
    rcases diff_l1 ha hg hp (hz y (by simp)) (rng 0 64) rng64_wd with ⟨h1, h2⟩ | ⟨h1, u, v, h2⟩
    · rw [h2, Option.bind_some]
      rcases diff_l0 zs (fun y hy => hz y (by simp [hy])) with ⟨h3, h4⟩ | ⟨h3, h4⟩
      · refine .inl ⟨fun y' hy' => ?_, h4⟩
        rcases List.mem_cons.1 hy' with rfl | hy'
        · exact h1
        · exact h3 y' hy'
      · exact .inr ⟨fun h => h3 (fun y hy => h y (by simp [hy])), h4⟩
    · rw [h2, Option.bind_some]
      exact .inr ⟨fun h => h1 (h y (by simp)), u, v, rfl⟩
theorem wd_rng {P : Int → Int → Prop} : (∀ y ∈ rng 0 64, ∀ z ∈ rng 0 64, P y z) ↔ ∀ y z, Wd y → Wd z → P y z := by
  have : ∀ z, z ∈ rng 0 64 ↔ Wd z := fun z => by rw [mem_rng]; unfold Wd; omega
  simp only [this]
  exact ⟨fun h y z hy hz => h y hy z hz, fun h y hy z hz => h y z hy hz⟩
theorem reaches_l0 : ∀ zs : List (List Int), (∀ z ∈ zs, ∃ u v, z = [u, v] ∧ Wd u ∧ Wd v) → ∃ b, m_spec_suReaches_l0 a code zs = some b ∧ (b = true ↔ ∀ y z, Wd y → Wd z → Ag a code y z)
  | [], _ => by
    rw [m_spec_suReaches_l0]
    unfold m_spec_seDifference
    rcases diff_l0 ha hg hp (rng 0 64) rng64_wd with ⟨h1, h2⟩ | ⟨h1, u, v, h2⟩
    · rw [h2]; exact ⟨true, rfl, fun _ => (wd_rng ha hg hp).1 h1, fun _ => rfl⟩
    · rw [h2]; exact ⟨false, rfl, fun h => by (cases h), fun h => absurd ((wd_rng ha hg hp).2 h) h1⟩
  | z :: zs, hz => by
    obtain ⟨u, v, rfl, w0, w1⟩ := hz z (by simp)
    obtain ⟨g1, g2, g3⟩ := last_get ha hg hp w0 w1
    have e0 : getI [u, v] 0 = some u := rfl
    have e1 : getI [u, v] 1 = some v := rfl
    rw [m_spec_suReaches_l0, e0, Option.bind_some, e1, Option.bind_some, g1, Option.bind_some, g2, Option.bind_some, g3, Option.bind_some, Option.bind_some, Option.bind_some, (ev_ok ha w0 w1).2.1, Option.bind_some]
    by_cases e : reg code u v (m_spec_suLast code) = evV a u v
    · rw [if_neg (by simpa using e)]
      exact reaches_l0 zs (fun y hy => hz y (by simp [hy]))
    · rw [if_pos (by simpa using e)]
      exact ⟨false, rfl, fun h => by (cases h), fun h => absurd (h u v w0 w1) e⟩
theorem reaches_eq : ∃ b, m_spec_suReaches a code = some b ∧ (b = true ↔ ∀ y z, Wd y → Wd z → Ag a code y z) := by
  unfold m_spec_suReaches
  refine reaches_l0 ha hg hp _ (fun z hz => ?_)
  simp only [List.mem_cons, List.not_mem_nil, or_false] at hz
  rcases hz with rfl | rfl | rfl | rfl
  · exact ⟨37, 22, rfl, by unfold Wd; omega, by unfold Wd; omega⟩
  · exact ⟨5, 63, rfl, by unfold Wd; omega, by unfold Wd; omega⟩
  · exact ⟨62, 3, rfl, by unfold Wd; omega, by unfold Wd; omega⟩
  · exact ⟨1, 1, rfl, by unfold Wd; omega, by unfold Wd; omega⟩
end
theorem equal_l0 (ys : List Int) : ∀ (zs : List Int) (i : Nat), i + zs.length = ys.length → ∃ b, m_slices_Equal_impl_column_uint8_l0 ys zs (i : Int) = some b ∧ (b = true ↔ zs = ys.drop i)
  | [], i, h => ⟨true, rfl, fun _ => by rw [List.drop_of_length_le (by simp at h; omega)], fun _ => rfl⟩
  | z :: zs, i, h => by
    rw [List.length_cons] at h
    have hi : i < ys.length := by omega
    rw [m_slices_Equal_impl_column_uint8_l0, getI_n, List.getElem?_eq_getElem hi, Option.bind_some, List.drop_eq_getElem_cons hi]
    by_cases e : z = ys[i]
    · rw [if_neg (by simpa using e)]
      obtain ⟨b, h1, h2⟩ := equal_l0 ys zs (i + 1) (by omega)
      rw [show ((i : Nat) : Int) + 1 = ((i + 1 : Nat) : Int) by simp]
      exact ⟨b, h1, by rw [h2, ← e]; exact ⟨fun h => by rw [h], fun h => (List.cons.inj h).2⟩⟩
    · rw [if_pos (by simpa using e)]
      exact ⟨false, rfl, fun h => by (cases h), fun h => absurd (List.cons.inj h).1 e⟩
theorem equal_eq {xs ys : List Int} (h : xs.length = ys.length) : ∃ b, m_slices_Equal_impl_column_uint8 xs ys = some b ∧ (b = true ↔ xs = ys) := by
  unfold m_slices_Equal_impl_column_uint8
  rw [if_neg (by simp [h])]
  exact equal_l0 ys xs 0 (by omega)
theorem bool_same {b b' : Bool} {P : Prop} (h : b = true ↔ P) (h' : b' = true ↔ P) : b = b' := by
  rw [Bool.eq_iff_iff, h, h']
theorem reach_same (a : List GNode) (c : GChoice) (code : List GInstr) : ∃ r, m_impl_ProgramReaches a c code = some r ∧ m_spec_ProgramReaches a c code = some r := by
  obtain ⟨b, b1, b2, b3⟩ := expr_same a
  simp only [m_impl_ProgramReaches, m_spec_ProgramReaches, m_impl_areProgram, b1, b2, Option.bind_some]
  cases b with
  | false => exact ⟨(false, false), rfl, rfl⟩
  | true =>
    rcases choice_same c with ⟨h1, h2, hg⟩ | ⟨h1, h2, _⟩
    · obtain ⟨d, d1, d2, d3⟩ := prog_same hg code
      simp only [h1, h2, d1, d2, Option.bind_some, if_true, Bool.not_true, Bool.false_eq_true, if_false]
      cases d with
      | false => exact ⟨(false, false), rfl, rfl⟩
      | true =>
        have hp := d3 rfl
        have ha := b3 rfl
        simp only [Bool.not_true, Bool.false_eq_true, if_false]
        obtain ⟨e, e1, e2⟩ := equal_eq (xs := IN.map fun xy => reg code xy.1 xy.2 (m_spec_suLast code)) (ys := IN.map fun xy => evV a xy.1 xy.2) (by simp)
        obtain ⟨f, f1, f2⟩ := reaches_eq ha hg hp
        rw [lastOf_eq hg hp, Option.bind_some, tableOf_eq ha, Option.bind_some, tableCol ha, Option.bind_some, e1, Option.bind_some, f1, Option.bind_some]
        have : e = f := by
          refine bool_same (P := ∀ y z, Wd y → Wd z → Ag a code y z) ?_ f2
          rw [e2, List.map_inj_left]
          constructor
          · intro h y z hy hz; exact h (y, z) (IN_mem.2 ⟨hy, hz⟩)
          · intro h xy hxy; exact h xy.1 xy.2 (IN_mem.1 hxy).1 (IN_mem.1 hxy).2
        exact ⟨(e, true), rfl, by rw [this]⟩
    · simp only [h1, h2, Option.bind_some, Bool.not_true, Bool.not_false, Bool.false_eq_true, if_false, if_true]
      exact ⟨(false, false), rfl, rfl⟩
theorem plain_FnExactProgramReaches (a0 : List GNode) (a1 : GChoice) (a2 : List GInstr) (ok0 : okL (fun x : GNode => okS x.Op ∧ okI .i64 x.A ∧ okI .i64 x.B ∧ okI .i64 x.Value) a0) (ok1 : okL okS a1.Ops ∧ okL (okI .i64) a1.Imms) (ok2 : okL (fun x : GInstr => okS x.Op ∧ okI .i64 x.Dst ∧ okI .i64 x.A ∧ okI .i64 x.B ∧ okI .i64 x.Imm) a2) : m_laws_FnExactProgramReaches a0 a1 a2 = some true := by
  unfold m_laws_FnExactProgramReaches
  by_cases h : m_laws_szNodeS a0 1048576 < 0
  · rw [if_pos (by simpa using h)]
  · rw [if_neg (by simpa using h)]
    obtain ⟨k1, k2⟩ := szNodeS_nn h (by omega) (by omega) ok0.1 (fun x hx => (ok0.2 x hx).1)
    by_cases h' : m_laws_szChoice a1 (m_laws_szNodeS a0 1048576) < 0
    · rw [if_pos (by simpa using h')]
    · rw [if_neg (by simpa using h')]
      obtain ⟨k3, k4, k5⟩ := szChoice_nn h' (by omega) (by omega) ok1.1.1 ok1.1.2 ok1.2.1
      by_cases h'' : m_laws_szInstrS a2 (m_laws_szChoice a1 (m_laws_szNodeS a0 1048576)) < 0
      · rw [if_pos (by simpa using h'')]
      · rw [if_neg (by simpa using h'')]
        obtain ⟨k6, k7⟩ := szInstrS_nn h'' (by omega) (by omega) ok2.1 (fun x hx => (ok2.2 x hx).1)
        obtain ⟨r, r1, r2⟩ := reach_same a0 a1 a2
        have t0 : m_laws_toNodeS a0 = some a0 := toNodeS_eq (by unfold LIM; omega)
        have t1 : m_laws_toChoice a1 = some a1 := toChoice_eq (by unfold LIM; omega) (by unfold LIM; omega)
        have t2 : m_laws_toInstrS a2 = some a2 := toInstrS_eq (by unfold LIM; omega)
        simp [t0, t1, t2, r1, r2, bd, eqNodeS_self, eqChoice_self, eqInstrS_self]
end Go.Proofs.Ytpfdeoapnpcbaaa
