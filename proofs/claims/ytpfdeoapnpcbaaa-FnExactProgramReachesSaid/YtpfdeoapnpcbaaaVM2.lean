/-
  What is proved here: what functions of the program give, as functions over lists and numbers.
  Conditions: none.
-/
import Derived.Test.YtpfdeoapnpcbaaaVM1
set_option linter.unusedSectionVars false
namespace Go.Proofs.Ytpfdeoapnpcbaaa
open Go.Vs
set_option linter.unusedVariables false
set_option linter.unusedSimpArgs false
set_option maxHeartbeats 4000000
set_option maxRecDepth 4000
attribute [local irreducible] upd del

noncomputable def m_spec_suSteps_l3 (x89 : ByteArray) (a1 : Int) (x119 : Int) (x129 : Int) : List Int → (List GInstr) → Option (List GInstr)
  | [], s160 =>
    some s160
  | x132 :: zs, s160 =>
    (appI s160 ([(⟨x89, (w64 (2 + a1)), x119, x129, x132⟩ : GInstr)] : List GInstr)).bind fun c81 =>
    m_spec_suSteps_l3 x89 a1 x119 x129 zs c81

noncomputable def m_spec_suSteps_l2 (x89 : ByteArray) (a1 : Int) (x119 : Int) (a0 : GChoice) : List Int → (List GInstr) → Option (List GInstr)
  | [], s156 =>
    some s156
  | x129 :: zs, s156 =>
    (m_spec_suSteps_l3 x89 a1 x119 x129 (m_spec_suImms a0 x89) s156).bind fun X40 =>
    m_spec_suSteps_l2 x89 a1 x119 a0 zs X40

noncomputable def m_spec_suSteps_l1 (x89 : ByteArray) (a1 : Int) (a0 : GChoice) : List Int → (List GInstr) → Option (List GInstr)
  | [], s144 =>
    some s144
  | x119 :: zs, s144 =>
    (m_spec_suRegs ((m_spec_cdShape x89).2.2.1) a1).bind fun x120 =>
    (m_spec_suSteps_l2 x89 a1 x119 a0 x120 s144).bind fun X39 =>
    m_spec_suSteps_l1 x89 a1 a0 zs X39

noncomputable def m_spec_suSteps_l0 (a1 : Int) (a0 : GChoice) : List ByteArray → (List GInstr) → Option (List GInstr)
  | [], s108 =>
    some s108
  | x89 :: zs, s108 =>
    (m_spec_suRegs ((m_spec_cdShape x89).2.1) a1).bind fun x90 =>
    (m_spec_suSteps_l1 x89 a1 a0 x90 s108).bind fun X36 =>
    m_spec_suSteps_l0 a1 a0 zs X36

noncomputable def m_spec_suSteps (a0 : GChoice) (a1 : Int) : Option (List GInstr) :=
  (m_spec_suSteps_l0 a1 a0 a0.Ops ([] : List GInstr)).bind fun X27 =>
  some X27

theorem run_spec_suSteps {a0 : GChoice} {a1 : Int} {R : (List GInstr)} (hm : m_spec_suSteps a0 a1 = some R) : Gives PG F_spec_suSteps [eGChoice a0, I a1] (PV.sl false (R.map eGInstr)) := by
  intro p h
  have hvac : ∀ k, ∃ s : St, k ≤ s.nx ∧ Fin PG Try.f139 73 p h (PV.sl false (R.map eGInstr)) .ret s := fun k => ⟨⟨fun i => if i = 4 then PV.sl false (R.map eGInstr) else default, k, h⟩, Nat.le_refl _, finD1 [] (retTmp (t := 4) retNil) (.same _) (fun _ => .inl rfl)⟩
  unfold m_spec_suSteps at hm
  refine fn_dec fn_spec_suSteps ?_
  refine W_seq ?_
  refine W_region ?_
  refine WO_box sz_impl_Choice ?_
  refine WO_assign ?_
  refine WO_nil ?_
  refine W_seq ?_
  refine W_region ?_
  refine WO_assignRow 5 ?_
  have hl1 : ([] : List GInstr).length = 0 ∧ 0 ≤ LIM := ⟨rfl, Nat.zero_le _⟩
  refine WO_nil ?_
  refine W_seq ?_
  refine W_seq ?_
  refine W_region ?_
  refine WO_fieldP fa_impl_Choice_0 ?_
  refine WO_load1 sz_S_string ag_S_string ?_
  refine D_len sl_S_string (e := S) (xs := a0.Ops) ?_
  refine WO_move ?_
  refine WO_nil ?_
  refine W_bnd 20 hvac (fun hb27 => ?_)
  rw [List.length_map] at hb27
  obtain ⟨X27, hE27, hm⟩ := ob hm
  refine W_block ?_
  refine W_loopM (α := Nat × (List GInstr) × Nat × Nat) ([5] ++ List.range' 7 6 ++ [14] ++ [16] ++ [18] ++ List.range' 22 50) (fun a => [(22, I (a.1 : Nat)), (5, PV.ref (p ++ [1]) a.2.2.1 0 a.2.2.2)]) (fun a nx' h' => 2 ≤ nx' ∧ Kp p [] h h' ∧ a.1 ≤ a0.Ops.length ∧ (h' (p ++ [0]) = some ⟨0, 2, [eGChoice a0]⟩) ∧ (h' (p ++ [1]) = some ⟨a.2.2.1, 5, a.2.1.map eGInstr⟩) ∧ (a.2.1.length = a.2.2.2 ∧ a.2.2.2 ≤ LIM) ∧ m_spec_suSteps_l0 a1 a0 (a0.Ops.drop a.1) a.2.1 = some X27) (fun a => a0.Ops.length - a.1) (0, ([] : List GInstr), 0, 0) ⟨rfl, rfl, trivial⟩ ⟨aOm, aKp, Nat.zero_le _, aLk, aLk, hl1, hE27⟩ (fun a e27 nx81 h27 hI => ?_)
  obtain ⟨i27, s108, v81, n81⟩ := a
  obtain ⟨hn27, hk27, hi27, hr53, hr54, hl136, hE27⟩ := hI
  refine W_seq ?_
  refine W_region ?_
  refine WO_lss ?_
  refine WO_nil ?_
  refine W_seq ?_
  refine W_cond (fun hq => ?_) (fun hq => ?_)
  · have hlt27 : (i27 : Int) < (a0.Ops.length : Int) := dec_lt hq
    obtain ⟨x89, hx27, hd27⟩ := lt_get (xs := a0.Ops) (i := i27) (by omega)
    rw [hd27, m_spec_suSteps_l0] at hE27
    replace hx27 := getI_nat hx27
    refine W_skip ?_
    refine W_seq ?_
    refine W_block ?_
    refine W_seq ?_
    refine W_region ?_
    refine D_index el_S_string sz_string hx27 ?_
    refine WO_loadI1 sz_string ag_string ?_
    refine WO_assign ?_
    refine WO_nil ?_
    refine W_seq ?_
    refine W_region ?_
    refine WO_move ?_
    refine WO_callN (run_spec_cdShape (a0 := x89)) ?_
    refine WO_move ?_
    refine WO_extract ?_
    refine WO_extract ?_
    refine WO_extract ?_
    refine WO_extract ?_
    refine WO_extract ?_
    refine WO_assign ?_
    refine WO_assign ?_
    refine WO_assign ?_
    refine WO_assign ?_
    refine WO_assign ?_
    refine WO_nil ?_
    refine W_seq ?_
    refine W_region ?_
    refine WO_move ?_
    refine WO_move ?_
    obtain ⟨x90, g117, hE27⟩ := ob hE27
    refine WO_callN (run_spec_suRegs g117) ?_
    refine D_len sl_S_int (e := I) (xs := x90) ?_
    refine WO_move ?_
    refine WO_nil ?_
    refine W_bnd 36 hvac (fun hb36 => ?_)
    rw [List.length_map] at hb36
    obtain ⟨X36, hE36, hE27⟩ := ob hE27
    refine W_block ?_
    refine W_loopM (α := Nat × (List GInstr) × Nat × Nat) ([5] ++ [14] ++ [16] ++ [18] ++ List.range' 38 33) (fun a => [(38, I (a.1 : Nat)), (5, PV.ref (p ++ [1]) a.2.2.1 0 a.2.2.2)]) (fun a nx' h' => (nx81 + 2) ≤ nx' ∧ Kp p [] h h' ∧ a.1 ≤ x90.length ∧ (h' (p ++ [0]) = some ⟨0, 2, [eGChoice a0]⟩) ∧ (h' (p ++ [1]) = some ⟨a.2.2.1, 5, a.2.1.map eGInstr⟩) ∧ (a.2.1.length = a.2.2.2 ∧ a.2.2.2 ≤ LIM) ∧ m_spec_suSteps_l1 x89 a1 a0 (x90.drop a.1) a.2.1 = some X36) (fun a => x90.length - a.1) (0, s108, v81, n81) ⟨rfl, rfl, trivial⟩ ⟨aOm, aKp, Nat.zero_le _, aLk, aLk, hl136, hE36⟩ (fun a e36 nx108 h36 hI => ?_)
    obtain ⟨i36, s144, v108, n108⟩ := a
    obtain ⟨hn36, hk36, hi36, hr71, hr72, hl181, hE36⟩ := hI
    refine W_seq ?_
    refine W_region ?_
    refine WO_lss ?_
    refine WO_nil ?_
    refine W_seq ?_
    refine W_cond (fun hq => ?_) (fun hq => ?_)
    · have hlt36 : (i36 : Int) < (x90.length : Int) := dec_lt hq
      obtain ⟨x119, hx36, hd36⟩ := lt_get (xs := x90) (i := i36) (by omega)
      rw [hd36, m_spec_suSteps_l1] at hE36
      replace hx36 := getI_nat hx36
      refine W_skip ?_
      refine W_seq ?_
      refine W_block ?_
      refine W_seq ?_
      refine W_region ?_
      refine D_index el_S_int sz_int hx36 ?_
      refine WO_loadI1 sz_int ag_int ?_
      refine WO_assign ?_
      refine WO_nil ?_
      refine W_seq ?_
      refine W_region ?_
      refine WO_move ?_
      refine WO_move ?_
      obtain ⟨x120, g156, hE36⟩ := ob hE36
      refine WO_callN (run_spec_suRegs g156) ?_
      refine D_len sl_S_int (e := I) (xs := x120) ?_
      refine WO_move ?_
      refine WO_nil ?_
      refine W_bnd 44 hvac (fun hb39 => ?_)
      rw [List.length_map] at hb39
      obtain ⟨X39, hE39, hE36⟩ := ob hE36
      refine W_block ?_
      refine W_loopM (α := Nat × (List GInstr) × Nat × Nat) ([5] ++ [16] ++ [18] ++ List.range' 46 24) (fun a => [(46, I (a.1 : Nat)), (5, PV.ref (p ++ [1]) a.2.2.1 0 a.2.2.2)]) (fun a nx' h' => (nx108 + 1) ≤ nx' ∧ Kp p [] h h' ∧ a.1 ≤ x120.length ∧ (h' (p ++ [0]) = some ⟨0, 2, [eGChoice a0]⟩) ∧ (h' (p ++ [1]) = some ⟨a.2.2.1, 5, a.2.1.map eGInstr⟩) ∧ (a.2.1.length = a.2.2.2 ∧ a.2.2.2 ≤ LIM) ∧ m_spec_suSteps_l2 x89 a1 x119 a0 (x120.drop a.1) a.2.1 = some X39) (fun a => x120.length - a.1) (0, s144, v108, n108) ⟨rfl, rfl, trivial⟩ ⟨aOm, aKp, Nat.zero_le _, aLk, aLk, hl181, hE39⟩ (fun a e39 nx117 h39 hI => ?_)
      obtain ⟨i39, s156, v117, n117⟩ := a
      obtain ⟨hn39, hk39, hi39, hr77, hr78, hl196, hE39⟩ := hI
      refine W_seq ?_
      refine W_region ?_
      refine WO_lss ?_
      refine WO_nil ?_
      refine W_seq ?_
      refine W_cond (fun hq => ?_) (fun hq => ?_)
      · have hlt39 : (i39 : Int) < (x120.length : Int) := dec_lt hq
        obtain ⟨x129, hx39, hd39⟩ := lt_get (xs := x120) (i := i39) (by omega)
        rw [hd39, m_spec_suSteps_l2] at hE39
        replace hx39 := getI_nat hx39
        refine W_skip ?_
        refine W_seq ?_
        refine W_block ?_
        refine W_seq ?_
        refine W_region ?_
        refine D_index el_S_int sz_int hx39 ?_
        refine WO_loadI1 sz_int ag_int ?_
        refine WO_assign ?_
        refine WO_nil ?_
        refine W_seq ?_
        refine W_region ?_
        refine WO_loadS sz_impl_Choice ag_impl_Choice ?_
        refine WO_move ?_
        refine WO_callN (run_spec_suImms (a0 := a0) (a1 := x89)) ?_
        refine D_len sl_S_int (e := I) (xs := (m_spec_suImms a0 x89)) ?_
        refine WO_move ?_
        refine WO_nil ?_
        refine W_bnd 52 hvac (fun hb40 => ?_)
        rw [List.length_map] at hb40
        obtain ⟨X40, hE40, hE39⟩ := ob hE39
        refine W_block ?_
        refine W_loopM (α := Nat × (List GInstr) × Nat × Nat) [5, 18, 54, 55, 56, 57, 58, 59, 60, 61, 62, 63, 64, 65, 66, 67, 68] (fun a => [(54, I (a.1 : Nat)), (5, PV.ref (p ++ [1]) a.2.2.1 0 a.2.2.2)]) (fun a nx' h' => (nx117 + 1) ≤ nx' ∧ Kp p [] h h' ∧ a.1 ≤ (m_spec_suImms a0 x89).length ∧ (h' (p ++ [0]) = some ⟨0, 2, [eGChoice a0]⟩) ∧ (h' (p ++ [1]) = some ⟨a.2.2.1, 5, a.2.1.map eGInstr⟩) ∧ (a.2.1.length = a.2.2.2 ∧ a.2.2.2 ≤ LIM) ∧ m_spec_suSteps_l3 x89 a1 x119 x129 ((m_spec_suImms a0 x89).drop a.1) a.2.1 = some X40) (fun a => (m_spec_suImms a0 x89).length - a.1) (0, s156, v117, n117) ⟨rfl, rfl, trivial⟩ ⟨aOm, aKp, Nat.zero_le _, aLk, aLk, hl196, hE40⟩ (fun a e40 nx120 h40 hI => ?_)
        obtain ⟨i40, s160, v120, n120⟩ := a
        obtain ⟨hn40, hk40, hi40, hr79, hr80, hl201, hE40⟩ := hI
        refine W_seq ?_
        refine W_region ?_
        refine WO_lss ?_
        refine WO_nil ?_
        refine W_seq ?_
        refine W_cond (fun hq => ?_) (fun hq => ?_)
        · have hlt40 : (i40 : Int) < ((m_spec_suImms a0 x89).length : Int) := dec_lt hq
          obtain ⟨x132, hx40, hd40⟩ := lt_get (xs := (m_spec_suImms a0 x89)) (i := i40) (by omega)
          rw [hd40, m_spec_suSteps_l3] at hE40
          replace hx40 := getI_nat hx40
          refine W_skip ?_
          refine W_seq ?_
          refine W_block ?_
          refine W_seq ?_
          refine W_region ?_
          refine D_index el_S_int sz_int hx40 ?_
          refine WO_loadI1 sz_int ag_int ?_
          refine WO_assign ?_
          refine WO_nil ?_
          refine W_region ?_
          refine WO_move ?_
          refine WO_move ?_
          refine WO_move ?_
          refine WO_add ?_
          refine WO_move ?_
          refine WO_move ?_
          refine WO_move ?_
          refine WO_build zo_impl_Instr pl_impl_Instr ?_
          refine WO_buildSlice el_S_impl_Instr sz_impl_Instr zo_impl_Instr ?_
          obtain ⟨c81, g173, hE40⟩ := ob hE40
          refine D_appR sl_S_impl_Instr el_S_impl_Instr sz_impl_Instr zs_impl_Instr bt_impl_Instr g173 hl201 (e := eGInstr) ?_
          have hl202 := appI_len g173
          refine WO_assign ?_
          refine WO_nil ?_
          refine W_region ?_
          refine WO_succ ?_
          refine WO_move ?_
          refine WO_nil ?_
          exact round ((i40 + 1), c81, v120 + 1, c81.length) ⟨rfl, rfl, trivial⟩ ⟨aOm, aKp, aOm, aLk, aLk, hl202, hE40⟩ aOm
        · have hge37 : ((m_spec_suImms a0 x89).length : Int) ≤ (i40 : Int) := dec_ge hq
          rw [drop_len (by omega), m_spec_suSteps_l3] at hE40
          refine W_exit ?_
          cases hE40
          try dsimp only at hE39
          refine W_region ?_
          refine WO_succ ?_
          refine WO_move ?_
          refine WO_nil ?_
          exact round ((i39 + 1), s160, v120, n120) ⟨rfl, rfl, trivial⟩ ⟨aOm, aKp, aOm, aLk, aLk, hl201, hE39⟩ aOm
      · have hge38 : (x120.length : Int) ≤ (i39 : Int) := dec_ge hq
        rw [drop_len (by omega), m_spec_suSteps_l2] at hE39
        refine W_exit ?_
        cases hE39
        try dsimp only at hE36
        refine W_region ?_
        refine WO_succ ?_
        refine WO_move ?_
        refine WO_nil ?_
        exact round ((i36 + 1), s156, v117, n117) ⟨rfl, rfl, trivial⟩ ⟨aOm, aKp, aOm, aLk, aLk, hl196, hE36⟩ aOm
    · have hge39 : (x90.length : Int) ≤ (i36 : Int) := dec_ge hq
      rw [drop_len (by omega), m_spec_suSteps_l1] at hE36
      refine W_exit ?_
      cases hE36
      try dsimp only at hE27
      refine W_region ?_
      refine WO_succ ?_
      refine WO_move ?_
      refine WO_nil ?_
      exact round ((i27 + 1), s144, v108, n108) ⟨rfl, rfl, trivial⟩ ⟨aOm, aKp, aOm, aLk, aLk, hl181, hE27⟩ aOm
  · have hge40 : (a0.Ops.length : Int) ≤ (i27 : Int) := dec_ge hq
    rw [drop_len (by omega), m_spec_suSteps_l0] at hE27
    refine W_exit ?_
    cases hE27
    try dsimp only at hm
    refine W_seq ?_
    refine W_region ?_
    refine WO_move ?_
    refine WO_assign ?_
    refine WO_nil ?_
    cases hm
    exact W_ret (finD1 [(p ++ [1])] (retTmp (t := 4) retNil) (FV.rowL hl136) (Kp.fin aKp))

noncomputable def m_spec_suCount_l0 (a0 : GChoice) : List Int → Int → Option Int
  | [], s4 =>
    some s4
  | i1 :: zs, s4 =>
    (m_spec_suSteps a0 i1).bind fun x3 =>
    m_spec_suCount_l0 a0 zs (w64 (s4 * (x3.length : Int)))

noncomputable def m_spec_suCount (a0 : GChoice) (a1 : Int) : Option Int :=
  ((chk a1).bind fun _ => m_spec_suCount_l0 a0 (rng 0 a1) 1).bind fun X1 =>
  some X1

theorem run_spec_suCount {a0 : GChoice} {a1 : Int} {R : Int} (hm : m_spec_suCount a0 a1 = some R) : Gives PG F_spec_suCount [eGChoice a0, I a1] (I R) := by
  intro p h
  unfold m_spec_suCount at hm
  refine fn_dec fn_spec_suCount ?_
  refine W_seq ?_
  refine W_region ?_
  refine WO_box sz_impl_Choice ?_
  refine WO_assign ?_
  refine WO_nil ?_
  refine W_seq ?_
  refine W_region ?_
  refine WO_assign ?_
  refine WO_nil ?_
  refine W_seq ?_
  refine W_seq ?_
  refine W_region ?_
  refine WO_assign ?_
  refine WO_nil ?_
  obtain ⟨X1, hE1, hm⟩ := ob hm
  obtain ⟨_, g3, hE1⟩ := ob hE1
  have g3 := chk_le g3
  refine W_block ?_
  refine W_loopM (α := Int × Int) [5, 6, 7, 8, 9, 10, 11, 12, 13, 14, 15, 16, 17] (fun a => [(6, I a.1), (5, I a.2)]) (fun a nx' h' => 1 ≤ nx' ∧ Kp p [] h h' ∧ 0 ≤ a.1 ∧ (h' (p ++ [0]) = some ⟨0, 2, [eGChoice a0]⟩) ∧ m_spec_suCount_l0 a0 (rng a.1 a1) a.2 = some X1) (fun a => (a1 - a.1).toNat) (0, 1) ⟨rfl, rfl, trivial⟩ ⟨aOm, aKp, Int.le_refl _, aLk, hE1⟩ (fun a e1 nx3 h1 hI => ?_)
  obtain ⟨i1, s4⟩ := a
  obtain ⟨hn1, hk1, hi1, hr1, hE1⟩ := hI
  refine W_seq ?_
  refine W_seq ?_
  refine W_region ?_
  refine WO_move ?_
  refine WO_move ?_
  refine WO_lss ?_
  refine WO_nil ?_
  refine W_cond (fun hq => ?_) (fun hq => ?_)
  · have hlt1 : i1 < a1 := dec_lt hq
    rw [rng_cons (by omega), m_spec_suCount_l0] at hE1
    refine W_skip ?_
    refine W_seq ?_
    refine W_block ?_
    refine W_region ?_
    refine WO_move ?_
    refine WO_loadS sz_impl_Choice ag_impl_Choice ?_
    refine WO_move ?_
    obtain ⟨x3, g4, hE1⟩ := ob hE1
    refine WO_callN (run_spec_suSteps g4) ?_
    refine D_len sl_S_impl_Instr (e := eGInstr) (xs := x3) ?_
    refine WO_mul ?_
    refine WO_assign ?_
    refine WO_nil ?_
    refine W_region ?_
    refine WO_move ?_
    refine WO_addI ?_
    refine WO_assign ?_
    refine WO_nil ?_
    exact round ((i1 + 1), (w64 (s4 * (x3.length : Int)))) ⟨rfl, rfl, trivial⟩ ⟨aOm, aKp, aOm, aLk, hE1⟩ aOm
  · have hge1 : a1 ≤ (i1 : Int) := dec_ge hq
    rw [rng_nil (by omega), m_spec_suCount_l0] at hE1
    refine W_exit ?_
    cases hE1
    try dsimp only at hm
    refine W_seq ?_
    refine W_region ?_
    refine WO_move ?_
    refine WO_assign ?_
    refine WO_nil ?_
    cases hm
    exact W_ret (finD1 [] (retTmp (t := 4) retNil) (.same _) (Kp.fin aKp))

noncomputable def m_spec_suWith_l0_k (a0 : GChoice) : Nat → Int → Int → (List GInstr) → Option (List GInstr)
  | 0, _, _, _ => none
  | k1 + 1, s4, s5, s6 =>
    if (decide (s5 ≥ 0)) then
      (m_spec_suSteps a0 s5).bind fun x9 =>
      (remI s4 (x9.length : Int)).bind fun x10 =>
      (getI x9 x10).bind fun x11 =>
      (setI s6 s5 x11).bind fun c4 =>
      (quoI .i64 s4 (x9.length : Int)).bind fun x12 =>
      m_spec_suWith_l0_k a0 k1 x12 (w64 (s5 - 1)) c4
    else
      some s6

noncomputable def m_spec_suWith (a0 : GChoice) (a1 : Int) (a2 : Int) : Option (List GInstr) :=
  (makI a1 (⟨ByteArray.empty, 0, 0, 0, 0⟩ : GInstr)).bind fun c1 =>
  (limO (fun k => m_spec_suWith_l0_k a0 k a2 (w64 (a1 - 1)) c1)).bind fun X1 =>
  some X1

theorem run_spec_suWith {a0 : GChoice} {a1 : Int} {a2 : Int} {R : (List GInstr)} (hm : m_spec_suWith a0 a1 a2 = some R) : Gives PG F_spec_suWith [eGChoice a0, I a1, I a2] (PV.sl false (R.map eGInstr)) := by
  intro p h
  unfold m_spec_suWith at hm
  refine fn_dec fn_spec_suWith ?_
  refine W_seq ?_
  refine W_region ?_
  refine WO_box sz_impl_Choice ?_
  refine WO_assign ?_
  refine WO_nil ?_
  refine W_seq ?_
  refine W_region ?_
  refine WO_move ?_
  obtain ⟨c1, g1, hm⟩ := ob hm
  refine D_make el_S_impl_Instr sz_impl_Instr zo_impl_Instr b3_impl_Instr g1 (e := eGInstr) rfl ?_
  have hl1 := makI_len g1
  refine WO_assign ?_
  refine WO_nil ?_
  refine W_seq ?_
  refine W_seq ?_
  refine W_region ?_
  refine WO_move ?_
  refine WO_sub ?_
  refine WO_assign ?_
  refine WO_nil ?_
  obtain ⟨X1, hE1, hm⟩ := ob hm
  obtain ⟨k1, hE1⟩ := limO_some hE1
  refine W_block ?_
  refine W_loopM (α := Nat × Int × Int × (List GInstr)) [2, 8, 9, 14, 15, 16, 17, 18, 19, 20, 21, 22, 23, 24, 25, 26, 27, 28, 29, 30, 31, 32, 33, 34] (fun a => [(2, I a.2.1), (8, I a.2.2.1)]) (fun a nx' h' => 2 ≤ nx' ∧ Kp p [] h h' ∧ (h' (p ++ [0]) = some ⟨0, 2, [eGChoice a0]⟩) ∧ (h' (p ++ [1]) = some ⟨0, 5, a.2.2.2.map eGInstr⟩) ∧ (a.2.2.2.length = c1.length ∧ c1.length ≤ LIM) ∧ m_spec_suWith_l0_k a0 a.1 a.2.1 a.2.2.1 a.2.2.2 = some X1) (fun a => a.1) (k1, a2, (w64 (a1 - 1)), c1) ⟨rfl, rfl, trivial⟩ ⟨aOm, aKp, aLk, aLk, hl1, hE1⟩ (fun a e1 nx3 h1 hI => ?_)
  obtain ⟨k1, s4, s5, s6⟩ := a
  obtain ⟨hn1, hk1, hr1, hr2, hl5, hE1⟩ := hI
  obtain _ | k1 := k1
  · cases hE1
  rw [m_spec_suWith_l0_k] at hE1
  refine W_seq ?_
  refine W_seq ?_
  refine W_region ?_
  refine WO_move ?_
  refine WO_geq ?_
  refine WO_nil ?_
  refine W_ite hE1 (fun hq hE1 => ?_) (fun hq hE1 => ?_)
  · refine W_skip ?_
    refine W_seq ?_
    refine W_block ?_
    refine W_seq ?_
    refine W_region ?_
    refine WO_loadS sz_impl_Choice ag_impl_Choice ?_
    refine WO_move ?_
    obtain ⟨x9, g12, hE1⟩ := ob hE1
    refine WO_callN (run_spec_suSteps g12) ?_
    refine WO_assign ?_
    refine WO_nil ?_
    refine W_seq ?_
    refine W_region ?_
    refine WO_move ?_
    refine WO_move ?_
    refine WO_move ?_
    refine WO_move ?_
    refine WO_move ?_
    refine D_len sl_S_impl_Instr (e := eGInstr) (xs := x9) ?_
    obtain ⟨x10, g13, hE1⟩ := ob hE1
    refine D_rem g13 ?_
    obtain ⟨x11, g14, hE1⟩ := ob hE1
    refine D_index el_S_impl_Instr sz_impl_Instr g14 ?_
    refine WO_loadI sz_impl_Instr ag_impl_Instr ?_
    obtain ⟨c4, g15, hE1⟩ := ob hE1
    refine D_indexW el_S_impl_Instr sz_impl_Instr g15 hl5 ?_
    refine D_stSR sz_impl_Instr g15 (e := eGInstr) ?_
    have hl6 := setI_len g15 hl5
    refine WO_nil ?_
    refine W_region ?_
    refine WO_move ?_
    refine WO_move ?_
    refine D_len sl_S_impl_Instr (e := eGInstr) (xs := x9) ?_
    obtain ⟨x12, g16, hE1⟩ := ob hE1
    refine D_quo g16 ?_
    refine WO_assign ?_
    refine WO_nil ?_
    refine W_region ?_
    refine WO_move ?_
    refine WO_sub ?_
    refine WO_assign ?_
    refine WO_nil ?_
    exact round (k1, x12, (w64 (s5 - 1)), c4) ⟨rfl, rfl, trivial⟩ ⟨aOm, aKp, aLk, aLk, hl6, hE1⟩ aOm
  · refine W_exit ?_
    cases hE1
    try dsimp only at hm
    refine W_seq ?_
    refine W_region ?_
    refine WO_move ?_
    refine WO_assign ?_
    refine WO_nil ?_
    cases hm
    exact W_ret (finD1 [(p ++ [1])] (retTmp (t := 6) retNil) (FV.rowL hl5) (Kp.fin aKp))

noncomputable def m_spec_cdStart (a0 : Int) (a1 : Int) : Option (List Int) :=
  (makI 6 0).bind fun c1 =>
  (setI c1 0 a0).bind fun c2 =>
  (setI c2 1 a1).bind fun c3 =>
  some c3

theorem run_spec_cdStart {a0 : Int} {a1 : Int} {R : (List Int)} (hm : m_spec_cdStart a0 a1 = some R) : Gives PG F_spec_cdStart [I a0, I a1] (PV.sl false (R.map I)) := by
  intro p h
  unfold m_spec_cdStart at hm
  refine fn_dec fn_spec_cdStart ?_
  refine W_seq ?_
  refine W_region ?_
  refine WO_assign ?_
  refine WO_nil ?_
  refine W_seq ?_
  refine W_region ?_
  obtain ⟨c1, g1, hm⟩ := ob hm
  refine D_make el_S_int sz_int zo_int b3_int g1 (e := I) rfl ?_
  have hl1 := makI_len g1
  refine WO_assign ?_
  refine WO_nil ?_
  refine W_seq ?_
  refine W_region ?_
  refine WO_move ?_
  refine WO_move ?_
  obtain ⟨c2, g2, hm⟩ := ob hm
  refine D_indexW el_S_int sz_int g2 hl1 ?_
  refine D_st1R sz_int g2 (e := I) ?_
  have hl2 := setI_len g2 hl1
  refine WO_nil ?_
  refine W_seq ?_
  refine W_region ?_
  refine WO_move ?_
  refine WO_move ?_
  obtain ⟨c3, g3, hm⟩ := ob hm
  refine D_indexW el_S_int sz_int g3 hl2 ?_
  refine D_st1R sz_int g3 (e := I) ?_
  have hl3 := setI_len g3 hl2
  refine WO_nil ?_
  refine W_seq ?_
  refine W_region ?_
  refine WO_move ?_
  refine WO_assign ?_
  refine WO_nil ?_
  cases hm
  exact W_ret (finD1 [(p ++ [0])] (retTmp (t := 4) retNil) (FV.rowL hl3) (Kp.fin aKp))

noncomputable def m_spec_l1Own (a0 : List Int) : Option (List Int) :=
  (appI ([] : List Int) a0).bind fun c1 =>
  some c1

theorem runR_spec_l1Own {a0 : List Int} {b0 : Bool} {R : (List Int)} (hm : m_spec_l1Own a0 = some R) : GivesR PG F_spec_l1Own [PV.sl b0 (a0.map I)] 1 (R.map I) := by
  intro p h
  unfold m_spec_l1Own at hm
  refine fn_decR fn_spec_l1Own ?_
  refine W_seq ?_
  refine W_region ?_
  refine WO_assignRow 1 ?_
  have hl1 : ([] : List Int).length = 0 ∧ 0 ≤ LIM := ⟨rfl, Nat.zero_le _⟩
  refine WO_nil ?_
  refine W_seq ?_
  refine W_region ?_
  refine WO_buildSlice el_S_int sz_int zo_int ?_
  refine WO_move ?_
  obtain ⟨c1, g1, hm⟩ := ob hm
  refine D_appN sl_S_int el_S_int sz_int zs_int bt_int g1 (e := I) ?_
  have hl2 := appI_len g1
  refine WO_assign ?_
  refine WO_nil ?_
  cases hm
  exact W_ret (finR1 (retTmp (t := 2) retNil) hl2 aLk aKp)

theorem run_spec_l1Own {a0 : List Int} {b0 : Bool} {R : (List Int)} (hm : m_spec_l1Own a0 = some R) : Gives PG F_spec_l1Own [PV.sl b0 (a0.map I)] (PV.sl false (R.map I)) := GivesR.gives (runR_spec_l1Own hm)

noncomputable def m_spec_exApply (a0 : ByteArray) (a1 : Int) (a2 : Int) : Option Int :=
  (if (decide (a0 = (⟨#[110, 111, 116]⟩ : ByteArray))) then
      some (w64 (63 - a1))
    else
      if (decide (a0 = (⟨#[110, 101, 103]⟩ : ByteArray))) then
        some (w64 (0 - a1))
      else
        if (decide (a0 = (⟨#[97, 100, 100]⟩ : ByteArray))) then
          some (w64 (a1 + a2))
        else
          if (decide (a0 = (⟨#[115, 117, 98]⟩ : ByteArray))) then
            some (w64 (a1 - a2))
          else
            if (decide (a0 = (⟨#[109, 117, 108]⟩ : ByteArray))) then
              some (w64 (a1 * a2))
            else
              if (decide (a0 = (⟨#[97, 110, 100]⟩ : ByteArray))) then
                some (andI .i64 a1 a2)
              else
                if (decide (a0 = (⟨#[111, 114]⟩ : ByteArray))) then
                  some (orI .i64 a1 a2)
                else
                  if (decide (a0 = (⟨#[120, 111, 114]⟩ : ByteArray))) then
                    some (xorI .i64 a1 a2)
                  else
                    if (decide (a0 = (⟨#[115, 104, 108]⟩ : ByteArray))) then
                      if (decide (a2 < 6)) then
                        (shlI .i64 a1 a2).bind fun x4 =>
                        some x4
                      else
                        some 0
                    else
                      if (decide (a0 = (⟨#[115, 104, 114]⟩ : ByteArray))) then
                        if (decide (a2 < 6)) then
                          (shrI .i64 a1 a2).bind fun x5 =>
                          some x5
                        else
                          some 0
                      else
                        if (decide (a0 = (⟨#[108, 101, 115, 115]⟩ : ByteArray))) then
                          if (decide (a1 < a2)) then
                            some 1
                          else
                            some 0
                        else
                          if (decide (a0 = (⟨#[101, 113]⟩ : ByteArray))) then
                            if (a1 == a2) then
                              some 1
                            else
                              some 0
                          else
                            some 0).bind fun X1 =>
  some (andI .i64 X1 63)

theorem run_spec_exApply {a0 : ByteArray} {a1 : Int} {a2 : Int} {R : Int} (hm : m_spec_exApply a0 a1 a2 = some R) : Gives PG F_spec_exApply [S a0, I a1, I a2] (I R) := by
  intro p h
  unfold m_spec_exApply at hm
  refine fn_dec fn_spec_exApply ?_
  refine W_seq ?_
  refine W_region ?_
  refine WO_assign ?_
  refine WO_nil ?_
  refine W_seq ?_
  refine W_region ?_
  refine WO_assign ?_
  refine WO_nil ?_
  refine W_seq ?_
  refine W_seq ?_
  refine W_region ?_
  refine WO_move ?_
  refine WO_nil ?_
  refine W_block ?_
  refine W_seq ?_
  refine W_region ?_
  refine WO_eqlS ?_
  refine WO_assign ?_
  refine WO_nil ?_
  obtain ⟨X1, hE1, hm⟩ := ob hm
  refine W_joinH (γ := Unit) ([7] ++ List.range' 11 60) (fun b => [(7, I X1)]) ?_ ?_
  · refine W_ite hE1 (fun hq hE1 => ?_) (fun hq hE1 => ?_)
    · refine W_region ?_
      refine WO_move ?_
      refine WO_sub ?_
      refine WO_assign ?_
      refine WO_nil ?_
      cases hE1
      exact metH () ⟨rfl, trivial⟩ aOm
    · refine W_seq ?_
      refine W_region ?_
      refine WO_eqlS ?_
      refine WO_assign ?_
      refine WO_nil ?_
      refine W_ite hE1 (fun hq hE1 => ?_) (fun hq hE1 => ?_)
      · refine W_region ?_
        refine WO_move ?_
        refine WO_neg ?_
        refine WO_assign ?_
        refine WO_nil ?_
        cases hE1
        exact metH () ⟨rfl, trivial⟩ aOm
      · refine W_seq ?_
        refine W_region ?_
        refine WO_eqlS ?_
        refine WO_assign ?_
        refine WO_nil ?_
        refine W_ite hE1 (fun hq hE1 => ?_) (fun hq hE1 => ?_)
        · refine W_region ?_
          refine WO_move ?_
          refine WO_move ?_
          refine WO_add ?_
          refine WO_assign ?_
          refine WO_nil ?_
          cases hE1
          exact metH () ⟨rfl, trivial⟩ aOm
        · refine W_seq ?_
          refine W_region ?_
          refine WO_eqlS ?_
          refine WO_assign ?_
          refine WO_nil ?_
          refine W_ite hE1 (fun hq hE1 => ?_) (fun hq hE1 => ?_)
          · refine W_region ?_
            refine WO_move ?_
            refine WO_move ?_
            refine WO_sub ?_
            refine WO_assign ?_
            refine WO_nil ?_
            cases hE1
            exact metH () ⟨rfl, trivial⟩ aOm
          · refine W_seq ?_
            refine W_region ?_
            refine WO_eqlS ?_
            refine WO_assign ?_
            refine WO_nil ?_
            refine W_ite hE1 (fun hq hE1 => ?_) (fun hq hE1 => ?_)
            · refine W_region ?_
              refine WO_move ?_
              refine WO_move ?_
              refine WO_mul ?_
              refine WO_assign ?_
              refine WO_nil ?_
              cases hE1
              exact metH () ⟨rfl, trivial⟩ aOm
            · refine W_seq ?_
              refine W_region ?_
              refine WO_eqlS ?_
              refine WO_assign ?_
              refine WO_nil ?_
              refine W_ite hE1 (fun hq hE1 => ?_) (fun hq hE1 => ?_)
              · refine W_region ?_
                refine WO_move ?_
                refine WO_move ?_
                refine WO_and ?_
                refine WO_assign ?_
                refine WO_nil ?_
                cases hE1
                exact metH () ⟨rfl, trivial⟩ aOm
              · refine W_seq ?_
                refine W_region ?_
                refine WO_eqlS ?_
                refine WO_assign ?_
                refine WO_nil ?_
                refine W_ite hE1 (fun hq hE1 => ?_) (fun hq hE1 => ?_)
                · refine W_region ?_
                  refine WO_move ?_
                  refine WO_move ?_
                  refine WO_or ?_
                  refine WO_assign ?_
                  refine WO_nil ?_
                  cases hE1
                  exact metH () ⟨rfl, trivial⟩ aOm
                · refine W_seq ?_
                  refine W_region ?_
                  refine WO_eqlS ?_
                  refine WO_assign ?_
                  refine WO_nil ?_
                  refine W_ite hE1 (fun hq hE1 => ?_) (fun hq hE1 => ?_)
                  · refine W_region ?_
                    refine WO_move ?_
                    refine WO_move ?_
                    refine WO_xor ?_
                    refine WO_assign ?_
                    refine WO_nil ?_
                    cases hE1
                    exact metH () ⟨rfl, trivial⟩ aOm
                  · refine W_seq ?_
                    refine W_region ?_
                    refine WO_eqlS ?_
                    refine WO_assign ?_
                    refine WO_nil ?_
                    refine W_ite hE1 (fun hq hE1 => ?_) (fun hq hE1 => ?_)
                    · refine W_seq ?_
                      refine W_region ?_
                      refine WO_move ?_
                      refine WO_lss ?_
                      refine WO_nil ?_
                      refine W_ite hE1 (fun hq hE1 => ?_) (fun hq hE1 => ?_)
                      · refine W_region ?_
                        refine WO_move ?_
                        refine WO_move ?_
                        obtain ⟨x4, g3, hE1⟩ := ob hE1
                        refine D_shl g3 ?_
                        refine WO_assign ?_
                        refine WO_nil ?_
                        cases hE1
                        exact metH () ⟨rfl, trivial⟩ aOm
                      · refine W_skip ?_
                        cases hE1
                        exact metH () ⟨rfl, trivial⟩ aOm
                    · refine W_seq ?_
                      refine W_region ?_
                      refine WO_eqlS ?_
                      refine WO_assign ?_
                      refine WO_nil ?_
                      refine W_ite hE1 (fun hq hE1 => ?_) (fun hq hE1 => ?_)
                      · refine W_seq ?_
                        refine W_region ?_
                        refine WO_move ?_
                        refine WO_lss ?_
                        refine WO_nil ?_
                        refine W_ite hE1 (fun hq hE1 => ?_) (fun hq hE1 => ?_)
                        · refine W_region ?_
                          refine WO_move ?_
                          refine WO_move ?_
                          obtain ⟨x5, g4, hE1⟩ := ob hE1
                          refine D_shr g4 ?_
                          refine WO_assign ?_
                          refine WO_nil ?_
                          cases hE1
                          exact metH () ⟨rfl, trivial⟩ aOm
                        · refine W_skip ?_
                          cases hE1
                          exact metH () ⟨rfl, trivial⟩ aOm
                      · refine W_seq ?_
                        refine W_region ?_
                        refine WO_eqlS ?_
                        refine WO_assign ?_
                        refine WO_nil ?_
                        refine W_ite hE1 (fun hq hE1 => ?_) (fun hq hE1 => ?_)
                        · refine W_seq ?_
                          refine W_region ?_
                          refine WO_move ?_
                          refine WO_move ?_
                          refine WO_lss ?_
                          refine WO_nil ?_
                          refine W_ite hE1 (fun hq hE1 => ?_) (fun hq hE1 => ?_)
                          · refine W_region ?_
                            refine WO_assign ?_
                            refine WO_nil ?_
                            cases hE1
                            exact metH () ⟨rfl, trivial⟩ aOm
                          · refine W_skip ?_
                            cases hE1
                            exact metH () ⟨rfl, trivial⟩ aOm
                        · refine W_seq ?_
                          refine W_region ?_
                          refine WO_eqlS ?_
                          refine WO_assign ?_
                          refine WO_nil ?_
                          refine W_ite hE1 (fun hq hE1 => ?_) (fun hq hE1 => ?_)
                          · refine W_seq ?_
                            refine W_region ?_
                            refine WO_move ?_
                            refine WO_move ?_
                            refine WO_eql ?_
                            refine WO_nil ?_
                            refine W_ite hE1 (fun hq hE1 => ?_) (fun hq hE1 => ?_)
                            · refine W_region ?_
                              refine WO_assign ?_
                              refine WO_nil ?_
                              cases hE1
                              exact metH () ⟨rfl, trivial⟩ aOm
                            · refine W_skip ?_
                              cases hE1
                              exact metH () ⟨rfl, trivial⟩ aOm
                          · refine W_skip ?_
                            cases hE1
                            exact metH () ⟨rfl, trivial⟩ aOm
  · intro bb1 e1 nx1 hn1
    refine W_seq ?_
    refine W_region ?_
    refine WO_move ?_
    refine WO_and ?_
    refine WO_assign ?_
    refine WO_nil ?_
    cases hm
    exact W_ret (finD1 [] (retTmp (t := 6) retNil) (.same _) (Kp.fin aKp))

noncomputable def m_spec_cdValue (a0 : GInstr) (a1 : List Int) : Option Int :=
  (getI a1 a0.A).bind fun x1 =>
  (getI a1 a0.B).bind fun x2 =>
  if (decide (a0.Op = (⟨#[115, 101, 116]⟩ : ByteArray))) then
    some a0.Imm
  else
    if (decide (a0.Op = (⟨#[109, 111, 118]⟩ : ByteArray))) then
      some x1
    else
      if (decide (a0.Op = (⟨#[97, 100, 100, 105]⟩ : ByteArray))) then
        (m_spec_exApply (⟨#[97, 100, 100]⟩ : ByteArray) x1 a0.Imm).bind fun x3 =>
        some x3
      else
        if (decide (a0.Op = (⟨#[97, 110, 100, 105]⟩ : ByteArray))) then
          (m_spec_exApply (⟨#[97, 110, 100]⟩ : ByteArray) x1 a0.Imm).bind fun x4 =>
          some x4
        else
          if (decide (a0.Op = (⟨#[120, 111, 114, 105]⟩ : ByteArray))) then
            (m_spec_exApply (⟨#[120, 111, 114]⟩ : ByteArray) x1 a0.Imm).bind fun x5 =>
            some x5
          else
            if (decide (a0.Op = (⟨#[115, 104, 108, 105]⟩ : ByteArray))) then
              (m_spec_exApply (⟨#[115, 104, 108]⟩ : ByteArray) x1 a0.Imm).bind fun x6 =>
              some x6
            else
              if (decide (a0.Op = (⟨#[115, 104, 114, 105]⟩ : ByteArray))) then
                (m_spec_exApply (⟨#[115, 104, 114]⟩ : ByteArray) x1 a0.Imm).bind fun x7 =>
                some x7
              else
                if (decide (a0.Op = (⟨#[108, 101, 97]⟩ : ByteArray))) then
                  (m_spec_exApply (⟨#[115, 104, 108]⟩ : ByteArray) x2 a0.Imm).bind fun x8 =>
                  (m_spec_exApply (⟨#[97, 100, 100]⟩ : ByteArray) x1 x8).bind fun x9 =>
                  some x9
                else
                  (m_spec_exApply a0.Op x1 x2).bind fun x10 =>
                  some x10

theorem run_spec_cdValue {a0 : GInstr} {a1 : List Int} {b1 : Bool} {R : Int} (hm : m_spec_cdValue a0 a1 = some R) : Gives PG F_spec_cdValue [eGInstr a0, PV.sl b1 (a1.map I)] (I R) := by
  intro p h
  unfold m_spec_cdValue at hm
  refine fn_dec fn_spec_cdValue ?_
  refine W_seq ?_
  refine W_region ?_
  refine WO_box sz_impl_Instr ?_
  refine WO_assign ?_
  refine WO_nil ?_
  refine W_seq ?_
  refine W_regionD [0, 1, 1, 0, 0, 0, 1, 1, 0, 0, 0, 0] mixed (by kernel_rfl) ?_
  refine WO_move ?_
  refine WO_fieldP fa_impl_Instr_2 ?_
  refine WO_load1 sz_int ag_int ?_
  obtain ⟨x1, g1, hm⟩ := ob hm
  refine D_index el_S_int sz_int g1 ?_
  refine WO_loadI1 sz_int ag_int ?_
  refine WO_move ?_
  refine WO_fieldP fa_impl_Instr_3 ?_
  refine WO_load1 sz_int ag_int ?_
  obtain ⟨x2, g2, hm⟩ := ob hm
  refine D_index el_S_int sz_int g2 ?_
  refine WO_loadI1 sz_int ag_int ?_
  refine WO_assign ?_
  refine WO_assign ?_
  refine WO_nil ⟨rfl, ?_⟩
  refine W_seq ?_
  refine W_seq ?_
  refine W_region ?_
  refine WO_fieldP fa_impl_Instr_0 ?_
  refine WO_load1 sz_string ag_string ?_
  refine WO_nil ?_
  refine W_block ?_
  refine W_seq ?_
  refine W_region ?_
  refine WO_eqlS ?_
  refine WO_assign ?_
  refine WO_nil ?_
  refine W_ite hm (fun hq hm => ?_) (fun hq hm => ?_)
  · refine W_seq ?_
    refine W_region ?_
    refine WO_fieldP fa_impl_Instr_4 ?_
    refine WO_load1 sz_int ag_int ?_
    refine WO_assign ?_
    refine WO_nil ?_
    cases hm
    exact W_ret (finD1 [] (retTmp (t := 4) retNil) (.same _) (Kp.fin aKp))
  · refine W_seq ?_
    refine W_region ?_
    refine WO_eqlS ?_
    refine WO_assign ?_
    refine WO_nil ?_
    refine W_ite hm (fun hq hm => ?_) (fun hq hm => ?_)
    · refine W_seq ?_
      refine W_region ?_
      refine WO_move ?_
      refine WO_assign ?_
      refine WO_nil ?_
      cases hm
      exact W_ret (finD1 [] (retTmp (t := 4) retNil) (.same _) (Kp.fin aKp))
    · refine W_seq ?_
      refine W_region ?_
      refine WO_eqlS ?_
      refine WO_assign ?_
      refine WO_nil ?_
      refine W_ite hm (fun hq hm => ?_) (fun hq hm => ?_)
      · refine W_seq ?_
        refine W_region ?_
        refine WO_move ?_
        refine WO_fieldP fa_impl_Instr_4 ?_
        refine WO_load1 sz_int ag_int ?_
        obtain ⟨x3, g3, hm⟩ := ob hm
        refine WO_callN (run_spec_exApply g3) ?_
        refine WO_assign ?_
        refine WO_nil ?_
        cases hm
        exact W_ret (finD1 [] (retTmp (t := 4) retNil) (.same _) (Kp.fin aKp))
      · refine W_seq ?_
        refine W_region ?_
        refine WO_eqlS ?_
        refine WO_assign ?_
        refine WO_nil ?_
        refine W_ite hm (fun hq hm => ?_) (fun hq hm => ?_)
        · refine W_seq ?_
          refine W_region ?_
          refine WO_move ?_
          refine WO_fieldP fa_impl_Instr_4 ?_
          refine WO_load1 sz_int ag_int ?_
          obtain ⟨x4, g4, hm⟩ := ob hm
          refine WO_callN (run_spec_exApply g4) ?_
          refine WO_assign ?_
          refine WO_nil ?_
          cases hm
          exact W_ret (finD1 [] (retTmp (t := 4) retNil) (.same _) (Kp.fin aKp))
        · refine W_seq ?_
          refine W_region ?_
          refine WO_eqlS ?_
          refine WO_assign ?_
          refine WO_nil ?_
          refine W_ite hm (fun hq hm => ?_) (fun hq hm => ?_)
          · refine W_seq ?_
            refine W_region ?_
            refine WO_move ?_
            refine WO_fieldP fa_impl_Instr_4 ?_
            refine WO_load1 sz_int ag_int ?_
            obtain ⟨x5, g5, hm⟩ := ob hm
            refine WO_callN (run_spec_exApply g5) ?_
            refine WO_assign ?_
            refine WO_nil ?_
            cases hm
            exact W_ret (finD1 [] (retTmp (t := 4) retNil) (.same _) (Kp.fin aKp))
          · refine W_seq ?_
            refine W_region ?_
            refine WO_eqlS ?_
            refine WO_assign ?_
            refine WO_nil ?_
            refine W_ite hm (fun hq hm => ?_) (fun hq hm => ?_)
            · refine W_seq ?_
              refine W_region ?_
              refine WO_move ?_
              refine WO_fieldP fa_impl_Instr_4 ?_
              refine WO_load1 sz_int ag_int ?_
              obtain ⟨x6, g6, hm⟩ := ob hm
              refine WO_callN (run_spec_exApply g6) ?_
              refine WO_assign ?_
              refine WO_nil ?_
              cases hm
              exact W_ret (finD1 [] (retTmp (t := 4) retNil) (.same _) (Kp.fin aKp))
            · refine W_seq ?_
              refine W_region ?_
              refine WO_eqlS ?_
              refine WO_assign ?_
              refine WO_nil ?_
              refine W_ite hm (fun hq hm => ?_) (fun hq hm => ?_)
              · refine W_seq ?_
                refine W_region ?_
                refine WO_move ?_
                refine WO_fieldP fa_impl_Instr_4 ?_
                refine WO_load1 sz_int ag_int ?_
                obtain ⟨x7, g7, hm⟩ := ob hm
                refine WO_callN (run_spec_exApply g7) ?_
                refine WO_assign ?_
                refine WO_nil ?_
                cases hm
                exact W_ret (finD1 [] (retTmp (t := 4) retNil) (.same _) (Kp.fin aKp))
              · refine W_seq ?_
                refine W_region ?_
                refine WO_eqlS ?_
                refine WO_assign ?_
                refine WO_nil ?_
                refine W_ite hm (fun hq hm => ?_) (fun hq hm => ?_)
                · refine W_seq ?_
                  refine W_region ?_
                  refine WO_move ?_
                  refine WO_move ?_
                  refine WO_fieldP fa_impl_Instr_4 ?_
                  refine WO_load1 sz_int ag_int ?_
                  obtain ⟨x8, g8, hm⟩ := ob hm
                  refine WO_callN (run_spec_exApply g8) ?_
                  obtain ⟨x9, g9, hm⟩ := ob hm
                  refine WO_callN (run_spec_exApply g9) ?_
                  refine WO_assign ?_
                  refine WO_nil ?_
                  cases hm
                  exact W_ret (finD1 [] (retTmp (t := 4) retNil) (.same _) (Kp.fin aKp))
                · refine W_skip ?_
                  refine W_seq ?_
                  refine W_region ?_
                  refine WO_fieldP fa_impl_Instr_0 ?_
                  refine WO_load1 sz_string ag_string ?_
                  refine WO_move ?_
                  refine WO_move ?_
                  obtain ⟨x10, g10, hm⟩ := ob hm
                  refine WO_callN (run_spec_exApply g10) ?_
                  refine WO_assign ?_
                  refine WO_nil ?_
                  cases hm
                  exact W_ret (finD1 [] (retTmp (t := 4) retNil) (.same _) (Kp.fin aKp))

noncomputable def m_spec_cdStep (a0 : GInstr) (a1 : List Int) : Option (List Int) :=
  (m_spec_l1Own a1).bind fun x1 =>
  (m_spec_cdValue a0 a1).bind fun x2 =>
  (setI x1 a0.Dst x2).bind fun c1 =>
  some c1

theorem run_spec_cdStep {a0 : GInstr} {a1 : List Int} {b1 : Bool} {R : (List Int)} (hm : m_spec_cdStep a0 a1 = some R) : Gives PG F_spec_cdStep [eGInstr a0, PV.sl b1 (a1.map I)] (PV.sl false (R.map I)) := by
  intro p h
  unfold m_spec_cdStep at hm
  refine fn_dec fn_spec_cdStep ?_
  refine W_seq ?_
  refine W_region ?_
  refine WO_box sz_impl_Instr ?_
  refine WO_assign ?_
  refine WO_nil ?_
  refine W_seq ?_
  refine W_region ?_
  refine WO_move ?_
  obtain ⟨x1, g1, hm⟩ := ob hm
  refine D_callR (e := I) (runR_spec_l1Own g1) (fun q1 v1 hl1 => ?_)
  refine WO_assign ?_
  refine WO_nil ?_
  refine W_seq ?_
  refine W_regionD [0, 1, 1, 1, 0, 0, 1, 2] mixed (by kernel_rfl) ?_
  refine WO_move ?_
  refine WO_fieldP fa_impl_Instr_1 ?_
  refine WO_load1 sz_int ag_int ?_
  refine WO_loadS sz_impl_Instr ag_impl_Instr ?_
  refine WO_move ?_
  obtain ⟨x2, g2, hm⟩ := ob hm
  refine WO_callN (run_spec_cdValue g2) ?_
  obtain ⟨c1, g3, hm⟩ := ob hm
  refine D_indexW el_S_int sz_int g3 hl1 ?_
  refine D_st1R sz_int g3 (e := I) ?_
  have hl2 := setI_len g3 hl1
  refine WO_nil ⟨rfl, ?_⟩
  refine W_seq ?_
  refine W_region ?_
  refine WO_move ?_
  refine WO_assign ?_
  refine WO_nil ?_
  cases hm
  exact W_ret (finD1 [(p ++ 1 :: q1)] (retTmp (t := 4) retNil) (FV.rowL hl2) (Kp.fin aKp))

noncomputable def m_spec_cdRun_l0 : List GInstr → (List Int) → Option (List Int)
  | [], s4 =>
    some s4
  | x6 :: zs, s4 =>
    (m_spec_cdStep x6 s4).bind fun x7 =>
    m_spec_cdRun_l0 zs x7

noncomputable def m_spec_cdRun (a0 : List GInstr) (a1 : List Int) : Option (List Int) :=
  (m_spec_l1Own a1).bind fun x1 =>
  (m_spec_cdRun_l0 a0 x1).bind fun X1 =>
  some X1

theorem run_spec_cdRun {a0 : List GInstr} {b0 : Bool} {a1 : List Int} {b1 : Bool} {R : (List Int)} (hm : m_spec_cdRun a0 a1 = some R) : Gives PG F_spec_cdRun [PV.sl b0 (a0.map eGInstr), PV.sl b1 (a1.map I)] (PV.sl false (R.map I)) := by
  intro p h
  have hvac : ∀ k, ∃ s : St, k ≤ s.nx ∧ Fin PG Try.f120 21 p h (PV.sl false (R.map I)) .ret s := fun k => ⟨⟨fun i => if i = 4 then PV.sl false (R.map I) else default, k, h⟩, Nat.le_refl _, finD1 [] (retTmp (t := 4) retNil) (.same _) (fun _ => .inl rfl)⟩
  unfold m_spec_cdRun at hm
  refine fn_dec fn_spec_cdRun ?_
  refine W_seq ?_
  refine W_region ?_
  refine WO_assign ?_
  refine WO_nil ?_
  refine W_seq ?_
  refine W_region ?_
  refine WO_move ?_
  obtain ⟨x1, g1, hm⟩ := ob hm
  refine WO_callN (run_spec_l1Own g1) ?_
  refine WO_assign ?_
  refine WO_nil ?_
  refine W_seq ?_
  refine W_seq ?_
  refine W_region ?_
  refine WO_move ?_
  refine D_len sl_S_impl_Instr (e := eGInstr) (xs := a0) ?_
  refine WO_move ?_
  refine WO_nil ?_
  refine W_bnd 10 hvac (fun hb1 => ?_)
  rw [List.length_map] at hb1
  obtain ⟨X1, hE1, hm⟩ := ob hm
  refine W_block ?_
  refine W_loopM (α := Nat × (List Int) × Bool) [5, 7, 12, 13, 14, 15, 16, 17, 18, 19] (fun a => [(12, I (a.1 : Nat)), (5, PV.sl a.2.2 (a.2.1.map I))]) (fun a nx' h' => 1 ≤ nx' ∧ Kp p [] h h' ∧ a.1 ≤ a0.length ∧ m_spec_cdRun_l0 (a0.drop a.1) a.2.1 = some X1) (fun a => a0.length - a.1) (0, x1, false) ⟨rfl, rfl, trivial⟩ ⟨aOm, aKp, Nat.zero_le _, hE1⟩ (fun a e1 nx3 h1 hI => ?_)
  obtain ⟨i1, s4, b3⟩ := a
  obtain ⟨hn1, hk1, hi1, hE1⟩ := hI
  refine W_seq ?_
  refine W_region ?_
  refine WO_lss ?_
  refine WO_nil ?_
  refine W_seq ?_
  refine W_cond (fun hq => ?_) (fun hq => ?_)
  · have hlt1 : (i1 : Int) < (a0.length : Int) := dec_lt hq
    obtain ⟨x6, hx1, hd1⟩ := lt_get (xs := a0) (i := i1) (by omega)
    rw [hd1, m_spec_cdRun_l0] at hE1
    replace hx1 := getI_nat hx1
    refine W_skip ?_
    refine W_seq ?_
    refine W_block ?_
    refine W_seq ?_
    refine W_region ?_
    refine D_index el_S_impl_Instr sz_impl_Instr hx1 ?_
    refine WO_loadI sz_impl_Instr ag_impl_Instr ?_
    refine WO_alloc sz_impl_Instr zo_impl_Instr ?_
    refine WO_store sz_impl_Instr ?_
    refine WO_nil ?_
    refine W_region ?_
    refine WO_loadS sz_impl_Instr ag_impl_Instr ?_
    refine WO_move ?_
    obtain ⟨x7, g6, hE1⟩ := ob hE1
    refine WO_callN (run_spec_cdStep g6) ?_
    refine WO_assign ?_
    refine WO_nil ?_
    refine W_region ?_
    refine WO_succ ?_
    refine WO_move ?_
    refine WO_nil ?_
    exact round ((i1 + 1), x7, false) ⟨rfl, rfl, trivial⟩ ⟨aOm, aKp, aOm, hE1⟩ aOm
  · have hge1 : (a0.length : Int) ≤ (i1 : Int) := dec_ge hq
    rw [drop_len (by omega), m_spec_cdRun_l0] at hE1
    refine W_exit ?_
    cases hE1
    try dsimp only at hm
    refine W_seq ?_
    refine W_region ?_
    refine WO_move ?_
    refine WO_assign ?_
    refine WO_nil ?_
    cases hm
    exact W_ret (finD1 [] (retTmp (t := 4) retNil) .lo (Kp.fin aKp))

noncomputable def m_spec_suAlike_l1 (i3 : Int) (a0 : List GInstr) (a1 : Int) (a2 : Int) : List Int → Option (Unit ⊕ Bool)
  | [] =>
    some (.inl ())
  | i4 :: zs =>
    (remI (w64 (i3 + 37)) 64).bind fun x49 =>
    (remI (w64 (i4 + 22)) 64).bind fun x50 =>
    (m_spec_cdStart x49 x50).bind fun x51 =>
    (m_spec_cdRun a0 x51).bind fun x52 =>
    (getI x52 a1).bind fun x53 =>
    (getI x52 a2).bind fun x54 =>
    if (x53 != x54) then
      some (.inr false)
    else
      m_spec_suAlike_l1 i3 a0 a1 a2 zs

noncomputable def m_spec_suAlike_l0 (a0 : List GInstr) (a1 : Int) (a2 : Int) : List Int → Option Bool
  | [] =>
    some true
  | i3 :: zs =>
    (m_spec_suAlike_l1 i3 a0 a1 a2 (rng 0 64)).bind fun X3 =>
    match X3 with
      | .inl X3 =>
      m_spec_suAlike_l0 a0 a1 a2 zs
      | .inr r => some r

noncomputable def m_spec_suAlike (a0 : List GInstr) (a1 : Int) (a2 : Int) : Option Bool :=
  m_spec_suAlike_l0 a0 a1 a2 (rng 0 64)

theorem run_spec_suAlike {a0 : List GInstr} {b0 : Bool} {a1 : Int} {a2 : Int} {R : Bool} (hm : m_spec_suAlike a0 a1 a2 = some R) : Gives PG F_spec_suAlike [PV.sl b0 (a0.map eGInstr), I a1, I a2] (B R) := by
  intro p h
  unfold m_spec_suAlike at hm
  refine fn_dec fn_spec_suAlike ?_
  refine W_seq ?_
  refine W_region ?_
  refine WO_assign ?_
  refine WO_nil ?_
  refine W_seq ?_
  refine W_seq ?_
  refine W_region ?_
  refine WO_assign ?_
  refine WO_nil ?_
  refine W_block ?_
  refine W_loopM (α := Int) (List.range' 6 30) (fun a => [(7, I a)]) (fun a nx' h' => 0 ≤ nx' ∧ Kp p [] h h' ∧ 0 ≤ a ∧ m_spec_suAlike_l0 a0 a1 a2 (rng a 64) = some R) (fun a => (64 - a).toNat) 0 ⟨rfl, trivial⟩ ⟨aOm, aKp, Int.le_refl _, hm⟩ (fun i3 e3 nx9 h3 hI => ?_)
  obtain ⟨hn3, hk3, hi3, hm⟩ := hI
  refine W_seq ?_
  refine W_seq ?_
  refine W_region ?_
  refine WO_move ?_
  refine WO_leq ?_
  refine WO_nil ?_
  refine W_cond (fun hq => ?_) (fun hq => ?_)
  · have hlt3 : i3 ≤ 63 := dec_le hq
    rw [rng_cons (by omega), m_spec_suAlike_l0] at hm
    refine W_skip ?_
    refine W_seq ?_
    refine W_block ?_
    refine W_seq ?_
    refine W_region ?_
    refine WO_assign ?_
    refine WO_nil ?_
    obtain ⟨X3, hE3, hm⟩ := ob hm
    refine W_block ?_
    refine W_loopM (α := Int) ([6] ++ List.range' 8 2 ++ List.range' 14 22) (fun a => [(8, I a)]) (fun a nx' h' => nx9 ≤ nx' ∧ Kp p [] h h' ∧ 0 ≤ a ∧ m_spec_suAlike_l1 i3 a0 a1 a2 (rng a 64) = some X3) (fun a => (64 - a).toNat) 0 ⟨rfl, trivial⟩ ⟨aOm, aKp, Int.le_refl _, hE3⟩ (fun i4 e4 nx12 h4 hI => ?_)
    obtain ⟨hn4, hk4, hi4, hE3⟩ := hI
    refine W_seq ?_
    refine W_seq ?_
    refine W_region ?_
    refine WO_move ?_
    refine WO_leq ?_
    refine WO_nil ?_
    refine W_cond (fun hq => ?_) (fun hq => ?_)
    · have hlt4 : i4 ≤ 63 := dec_le hq
      rw [rng_cons (by omega), m_spec_suAlike_l1] at hE3
      refine W_skip ?_
      refine W_seq ?_
      refine W_block ?_
      refine W_seq ?_
      refine W_region ?_
      refine WO_move ?_
      refine WO_move ?_
      refine WO_add ?_
      obtain ⟨x49, g49, hE3⟩ := ob hE3
      refine D_rem g49 ?_
      refine WO_move ?_
      refine WO_add ?_
      obtain ⟨x50, g50, hE3⟩ := ob hE3
      refine D_rem g50 ?_
      obtain ⟨x51, g51, hE3⟩ := ob hE3
      refine WO_callN (run_spec_cdStart g51) ?_
      obtain ⟨x52, g52, hE3⟩ := ob hE3
      refine WO_callN (run_spec_cdRun g52) ?_
      refine WO_assign ?_
      refine WO_nil ?_
      refine W_seq ?_
      refine W_regionD [0, 0, 0, 0, 0, 0, 0, 0, 0] mixed (by kernel_rfl) ?_
      refine WO_move ?_
      refine WO_move ?_
      obtain ⟨x53, g53, hE3⟩ := ob hE3
      refine D_index el_S_int sz_int g53 ?_
      refine WO_loadI1 sz_int ag_int ?_
      refine WO_move ?_
      refine WO_move ?_
      obtain ⟨x54, g54, hE3⟩ := ob hE3
      refine D_index el_S_int sz_int g54 ?_
      refine WO_loadI1 sz_int ag_int ?_
      refine WO_neq ?_
      refine WO_nil ⟨rfl, ?_⟩
      refine W_ite hE3 (fun hq hE3 => ?_) (fun hq hE3 => ?_)
      · refine W_seq ?_
        refine W_region ?_
        refine WO_assign ?_
        refine WO_nil ?_
        cases hE3
        dsimp only at hm
        cases hm
        exact W_ret (finD1 [] (retTmp (t := 6) retNil) (.same _) (Kp.fin aKp))
      · refine W_skip ?_
        refine W_region ?_
        refine WO_move ?_
        refine WO_addI ?_
        refine WO_assign ?_
        refine WO_nil ?_
        exact round (i4 + 1) ⟨rfl, trivial⟩ ⟨aOm, aKp, aOm, hE3⟩ aOm
    · have hge3 : 63 < (i4 : Int) := dec_gt hq
      rw [rng_nil (by omega), m_spec_suAlike_l1] at hE3
      refine W_exit ?_
      cases hE3
      try dsimp only at hm
      refine W_region ?_
      refine WO_move ?_
      refine WO_addI ?_
      refine WO_assign ?_
      refine WO_nil ?_
      exact round (i3 + 1) ⟨rfl, trivial⟩ ⟨aOm, aKp, aOm, hm⟩ aOm
  · have hge4 : 63 < (i3 : Int) := dec_gt hq
    rw [rng_nil (by omega), m_spec_suAlike_l0] at hm
    refine W_exit ?_
    refine W_seq ?_
    refine W_region ?_
    refine WO_assign ?_
    refine WO_nil ?_
    cases hm
    exact W_ret (finD1 [] (retTmp (t := 6) retNil) (.same _) (Kp.fin aKp))

end Go.Proofs.Ytpfdeoapnpcbaaa
