/-
  What is proved here: what functions of the program give, as functions over lists and numbers.
  Conditions: none.
-/
import Derived.Test.YtpfdeoapnpcbaaaVM4
set_option linter.unusedSectionVars false
namespace Go.Proofs.Ytpfdeoapnpcbaaa
open Go.Vs
set_option linter.unusedVariables false
set_option linter.unusedSimpArgs false
set_option maxHeartbeats 4000000
set_option maxRecDepth 4000
attribute [local irreducible] upd del

noncomputable def m_impl_isReason_l0 (a0 : GInstr) (a1 : List (List Int)) (a2 : Bool) : List (List Int) → Int → Option Bool
  | [], i1 =>
    some (m_impl_isTurned a0)
  | x13 :: zs, i1 =>
    ((if ((i1 : Int) != 1) then (m_impl_isColumn a0 a1 x13).bind fun x17 =>
      some x17 else (if (!a2) then (m_impl_isColumn a0 a1 x13).bind fun x18 =>
      some x18 else some false))).bind fun X3 =>
    if X3 then
      some true
    else
      m_impl_isReason_l0 a0 a1 a2 zs (i1 + 1)

noncomputable def m_impl_isReason (a0 : GInstr) (a1 : List (List Int)) (a2 : Bool) : Option Bool :=
  m_impl_isReason_l0 a0 a1 a2 a1 0

theorem run_impl_isReason {a0 : GInstr} {a1 : List (List Int)} {b1 : Bool} {a2 : Bool} {R : Bool} (hm : m_impl_isReason a0 a1 a2 = some R) : Gives PG F_impl_isReason [eGInstr a0, PV.sl b1 (a1.map (eL U)), B a2] (B R) := by
  intro p h
  have hvac : ∀ k, ∃ s : St, k ≤ s.nx ∧ Fin PG Try.f83 31 p h (B R) .ret s := fun k => ⟨⟨fun i => if i = 6 then B R else default, k, h⟩, Nat.le_refl _, finD1 [] (retTmp (t := 6) retNil) (.same _) (fun _ => .inl rfl)⟩
  unfold m_impl_isReason at hm
  refine fn_dec fn_impl_isReason ?_
  refine W_seq ?_
  refine W_region ?_
  refine WO_box sz_impl_Instr ?_
  refine WO_assign ?_
  refine WO_nil ?_
  refine W_seq ?_
  refine W_seq ?_
  refine W_region ?_
  refine WO_move ?_
  refine D_len sl_S_impl_column (e := (eL U)) (xs := a1) ?_
  refine WO_move ?_
  refine WO_nil ?_
  refine W_bnd 1 hvac (fun hb1 => ?_)
  rw [List.length_map] at hb1
  refine W_block ?_
  refine W_loopM (α := Nat) [6, 7, 8, 11, 12, 13, 14, 15, 16, 17, 18, 19, 20, 21, 22, 23, 24, 25, 26, 27, 28] (fun a => [(11, I (a : Nat))]) (fun a nx' h' => 1 ≤ nx' ∧ Kp p [] h h' ∧ a ≤ a1.length ∧ (h' (p ++ [0]) = some ⟨0, 5, [eGInstr a0]⟩) ∧ m_impl_isReason_l0 a0 a1 a2 (a1.drop a) (a : Int) = some R) (fun a => a1.length - a) 0 ⟨rfl, trivial⟩ ⟨aOm, aKp, Nat.zero_le _, aLk, hm⟩ (fun i1 e3 nx5 h1 hI => ?_)
  obtain ⟨hn3, hk1, hi1, hr1, hm⟩ := hI
  refine W_seq ?_
  refine W_region ?_
  refine WO_lss ?_
  refine WO_nil ?_
  refine W_seq ?_
  refine W_cond (fun hq => ?_) (fun hq => ?_)
  · have hlt1 : (i1 : Int) < (a1.length : Int) := dec_lt hq
    obtain ⟨x13, hx1, hd1⟩ := lt_get (xs := a1) (i := i1) (by omega)
    rw [hd1, m_impl_isReason_l0] at hm
    replace hx1 := getI_nat hx1
    refine W_skip ?_
    refine W_seq ?_
    refine W_block ?_
    refine W_seq ?_
    refine W_region ?_
    refine WO_move ?_
    refine D_index el_S_impl_column sz_impl_column hx1 ?_
    refine WO_loadI1 sz_impl_column ag_impl_column ?_
    refine WO_assign ?_
    refine WO_assign ?_
    refine WO_nil ?_
    refine W_seq ?_
    obtain ⟨X3, hE3, hm⟩ := ob hm
    refine W_joinH (γ := Unit) [16, 17, 18, 19, 20, 21, 22, 23, 24, 25, 26, 27] (fun b => [(27, B X3)]) ?_ ?_
    · refine W_region ?_
      refine WO_move ?_
      refine WO_neq ?_
      refine WO_move ?_
      refine WO_ite 18 hE3 (fun hq hE3 => ?_) (fun hq hE3 => ?_)
      · refine WO_skip ?_
        refine WO_skip ?_
        refine WO_pick ?_
        refine WO_move ?_
        refine WO_loadS sz_impl_Instr ag_impl_Instr ?_
        refine WO_move ?_
        refine WO_move ?_
        obtain ⟨x17, g13, hE3⟩ := ob hE3
        refine WO_callN (run_impl_isColumn g13) ?_
        refine WO_pick ?_
        refine WO_nil ?_
        cases hE3
        exact metH () ⟨rfl, trivial⟩ aOm
      · refine WO_move ?_
        refine WO_not ?_
        refine WO_pick ?_
        refine WO_move ?_
        refine WO_ite 22 hE3 (fun hq hE3 => ?_) (fun hq hE3 => ?_)
        · refine WO_loadS sz_impl_Instr ag_impl_Instr ?_
          refine WO_move ?_
          refine WO_move ?_
          obtain ⟨x18, g14, hE3⟩ := ob hE3
          refine WO_callN (run_impl_isColumn g14) ?_
          refine WO_pick ?_
          refine WO_nil ?_
          cases hE3
          exact metH () ⟨rfl, trivial⟩ aOm
        · refine WO_skip ?_
          refine WO_skip ?_
          refine WO_skip ?_
          refine WO_skip ?_
          refine WO_pick ?_
          refine WO_nil ?_
          cases hE3
          exact metH () ⟨rfl, trivial⟩ aOm
    · intro bb3 e4 nx6 hn4
      refine W_ite hm (fun hq hm => ?_) (fun hq hm => ?_)
      · refine W_seq ?_
        refine W_region ?_
        refine WO_assign ?_
        refine WO_nil ?_
        cases hm
        exact W_ret (finD1 [] (retTmp (t := 6) retNil) (.same _) (Kp.fin aKp))
      · refine W_skip ?_
        refine W_region ?_
        refine WO_succ ?_
        refine WO_move ?_
        refine WO_nil ?_
        exact round (i1 + 1) ⟨rfl, trivial⟩ ⟨aOm, aKp, aOm, aLk, hm⟩ aOm
  · have hge1 : (a1.length : Int) ≤ (i1 : Int) := dec_ge hq
    rw [drop_len (by omega), m_impl_isReason_l0] at hm
    refine W_exit ?_
    refine W_seq ?_
    refine W_region ?_
    refine WO_loadS sz_impl_Instr ag_impl_Instr ?_
    refine WO_callN (run_impl_isTurned (a0 := a0)) ?_
    refine WO_assign ?_
    refine WO_nil ?_
    cases hm
    exact W_ret (finD1 [] (retTmp (t := 6) retNil) (.same _) (Kp.fin aKp))

noncomputable def m_impl_writes_l0 (a0 : GInstr) (a1 : List (List Int)) : List Int → (List Int) → Option (List Int)
  | [], s4 =>
    some s4
  | i1 :: zs, s4 =>
    (m_impl_wordAt a0 a1 i1).bind fun x3 =>
    (setI s4 i1 x3).bind fun c4 =>
    m_impl_writes_l0 a0 a1 zs c4

noncomputable def m_impl_writes (a0 : GInstr) (a1 : List (List Int)) : Option (List Int) :=
  (makI 4096 0).bind fun c1 =>
  (m_impl_writes_l0 a0 a1 (rng 0 (c1.length : Int)) c1).bind fun X1 =>
  some X1

theorem runR_impl_writes {a0 : GInstr} {a1 : List (List Int)} {b1 : Bool} {R : (List Int)} (hm : m_impl_writes a0 a1 = some R) : GivesR PG F_impl_writes [eGInstr a0, PV.sl b1 (a1.map (eL U))] 1 (R.map U) := by
  intro p h
  unfold m_impl_writes at hm
  refine fn_decR fn_impl_writes ?_
  refine W_seq ?_
  refine W_region ?_
  refine WO_box sz_impl_Instr ?_
  refine WO_assignRow 1 ?_
  have hl1 : ([] : List Int).length = 0 ∧ 0 ≤ LIM := ⟨rfl, Nat.zero_le _⟩
  refine WO_nil ?_
  refine W_seq ?_
  refine W_region ?_
  obtain ⟨c1, g1, hm⟩ := ob hm
  refine D_make el_impl_column sz_uint8 zo_uint8 b3_uint8 g1 (e := U) rfl ?_
  have hl2 := makI_len g1
  refine WO_assign ?_
  refine WO_nil ?_
  refine W_seq ?_
  refine W_seq ?_
  refine W_region ?_
  refine WO_move ?_
  refine D_lenR sl_impl_column hl2 (e := U) ?_
  refine WO_move ?_
  refine WO_nil ?_
  have hb1 := hl2
  unfold LIM at hb1
  obtain ⟨X1, hE1, hm⟩ := ob hm
  refine W_block ?_
  refine W_loopM (α := Int × (List Int)) [6, 10, 11, 12, 13, 14, 15, 16, 17, 18, 19, 20] (fun a => [(10, I a.1)]) (fun a nx' h' => 3 ≤ nx' ∧ Kp p [] h h' ∧ 0 ≤ a.1 ∧ (h' (p ++ [0]) = some ⟨0, 5, [eGInstr a0]⟩) ∧ (h' (p ++ [2]) = some ⟨0, 1, a.2.map U⟩) ∧ (a.2.length = c1.length ∧ c1.length ≤ LIM) ∧ m_impl_writes_l0 a0 a1 (rng a.1 (c1.length : Int)) a.2 = some X1) (fun a => ((c1.length : Int) - a.1).toNat) (0, c1) ⟨rfl, trivial⟩ ⟨aOm, aKp, Int.le_refl _, aLk, aLk, hl2, hE1⟩ (fun a e1 nx3 h1 hI => ?_)
  obtain ⟨i1, s4⟩ := a
  obtain ⟨hn1, hk1, hi1, hr1, hr2, hl7, hE1⟩ := hI
  refine W_seq ?_
  refine W_region ?_
  refine WO_lss ?_
  refine WO_nil ?_
  refine W_seq ?_
  refine W_cond (fun hq => ?_) (fun hq => ?_)
  · have hlt1 : i1 < (c1.length : Int) := dec_lt hq
    rw [rng_cons (by omega), m_impl_writes_l0] at hE1
    refine W_skip ?_
    refine W_seq ?_
    refine W_block ?_
    refine W_seq ?_
    refine W_region ?_
    refine WO_move ?_
    refine WO_assign ?_
    refine WO_nil ?_
    refine W_region ?_
    refine WO_move ?_
    refine WO_move ?_
    refine WO_loadS sz_impl_Instr ag_impl_Instr ?_
    refine WO_move ?_
    refine WO_move ?_
    obtain ⟨x3, g6, hE1⟩ := ob hE1
    refine WO_callN (run_impl_wordAt g6) ?_
    obtain ⟨c4, g7, hE1⟩ := ob hE1
    refine D_indexW el_impl_column sz_uint8 g7 hl7 ?_
    refine D_st1R sz_uint8 g7 (e := U) ?_
    have hl8 := setI_len g7 hl7
    refine WO_nil ?_
    refine W_region ?_
    refine WO_addI ?_
    refine WO_move ?_
    refine WO_nil ?_
    exact round ((i1 + 1), c4) ⟨rfl, trivial⟩ ⟨aOm, aKp, aOm, aLk, aLk, hl8, hE1⟩ aOm
  · have hge1 : (c1.length : Int) ≤ (i1 : Int) := dec_ge hq
    rw [rng_nil (by omega), m_impl_writes_l0] at hE1
    refine W_exit ?_
    cases hE1
    try dsimp only at hm
    refine W_seq ?_
    refine W_region ?_
    refine WO_move ?_
    refine WO_assign ?_
    refine WO_nil ?_
    cases hm
    exact W_ret (finR1 (retTmp (t := 4) retNil) hl7 aLk aKp)

theorem run_impl_writes {a0 : GInstr} {a1 : List (List Int)} {b1 : Bool} {R : (List Int)} (hm : m_impl_writes a0 a1 = some R) : Gives PG F_impl_writes [eGInstr a0, PV.sl b1 (a1.map (eL U))] (PV.sl false (R.map U)) := GivesR.gives (runR_impl_writes hm)

noncomputable def m_impl_CountUnpruned_1_l0 (a1 : List (List Int)) (a0 : Int) (a2 : Int) (rec_ : Int → (List (List Int)) → Int → GChoice → Option Int) (a3 : GChoice) : List GInstr → Int → Option Int
  | [], s4 =>
    some s4
  | x16 :: zs, s4 =>
    (m_impl_isReason x16 a1 (a0 == (w64 (a2 - 1)))).bind fun x17 =>
    (if x17 then
        some s4
      else
        if (a0 == (w64 (a2 - 1))) then
          some (w64 (s4 + 1))
        else
          (subI a1 0 (a1.length : Int)).bind fun c11 =>
          (m_impl_writes x16 a1).bind fun x21 =>
          (appI c11 ([x21] : List (List Int))).bind fun c12 =>
          (rec_ (w64 (a0 + 1)) c12 a2 a3).bind fun x22 =>
          some (w64 (s4 + x22))).bind fun X4 =>
    m_impl_CountUnpruned_1_l0 a1 a0 a2 rec_ a3 zs X4

noncomputable def m_impl_CountUnpruned_1_k : Nat → Int → (List (List Int)) → Int → GChoice → Option Int
  | 0, _, _, _, _ => none
  | k + 1, a0, a1, a2, a3 =>
    if (a0 == a2) then
      some 1
    else
      (m_impl_steps a3 a0).bind fun x1 =>
      (m_impl_CountUnpruned_1_l0 a1 a0 a2 (m_impl_CountUnpruned_1_k k) a3 x1 0).bind fun X3 =>
      some X3

noncomputable def m_impl_CountUnpruned_1 (a0 : Int) (a1 : List (List Int)) (a2 : Int) (a3 : GChoice) : Option Int := limO (fun k => m_impl_CountUnpruned_1_k k a0 a1 a2 a3)

theorem run_impl_CountUnpruned_1_k : ∀ (k : Nat) {p : Tok} {h : H} {a0 : Int} {a1 : List (List Int)} {b1 : Bool} {a2 : Int} {a3 : GChoice} {tk4 : Tok} {R : Int} (hm : m_impl_CountUnpruned_1_k k a0 a1 a2 a3 = some R) (hrow4 : h tk4 = some ⟨0, 1, [PV.clo 81 [PV.iptr (I a2).cells, PV.iptr (eGChoice a3).cells, PV.ptr tk4 0 0 0]]⟩) (htk4 : ¬ p <+: tk4), Run PG (.fn F_impl_CountUnpruned_1 [I a0, PV.sl b1 (a1.map (eL U)), PV.iptr (I a2).cells, PV.iptr (eGChoice a3).cells, .ptr tk4 0 0 0] p h (I R) h) := by
  intro k
  induction k with
  | zero => intro p h a0 a1 b1 a2 a3 tk4 R hm hrow4 htk4; cases hm
  | succ k ih =>
  intro p h a0 a1 b1 a2 a3 tk4 R hm hrow4 htk4
  have hvac : ∀ k, ∃ s : St, k ≤ s.nx ∧ Fin PG Try.f81 56 p h (I R) .ret s := fun k => ⟨⟨fun i => if i = 7 then I R else default, k, h⟩, Nat.le_refl _, finD1 [] (retTmp (t := 7) retNil) (.same _) (fun _ => .inl rfl)⟩
  rw [m_impl_CountUnpruned_1_k] at hm
  refine fn_dec fn_impl_CountUnpruned_1 ?_
  refine W_seq ?_
  refine W_region ?_
  refine WO_assign ?_
  refine WO_nil ?_
  refine W_seq ?_
  refine W_seq ?_
  refine W_region ?_
  refine WO_move ?_
  refine WO_loadI1 sz_int ag_int ?_
  refine WO_eql ?_
  refine WO_nil ?_
  refine W_ite hm (fun hq hm => ?_) (fun hq hm => ?_)
  · refine W_seq ?_
    refine W_region ?_
    refine WO_assign ?_
    refine WO_nil ?_
    cases hm
    exact W_ret (finD1 [] (retTmp (t := 7) retNil) (.same _) (Kp.fin aKp))
  · refine W_skip ?_
    refine W_seq ?_
    refine W_region ?_
    refine WO_assign ?_
    refine WO_nil ?_
    refine W_seq ?_
    refine W_seq ?_
    refine W_region ?_
    refine WO_loadI sz_impl_Choice ag_impl_Choice ?_
    refine WO_move ?_
    obtain ⟨x1, g1, hm⟩ := ob hm
    refine WO_callN (run_impl_steps g1) ?_
    refine D_len sl_S_impl_Instr (e := eGInstr) (xs := x1) ?_
    refine WO_move ?_
    refine WO_nil ?_
    refine W_bnd 16 hvac (fun hb1 => ?_)
    rw [List.length_map] at hb1
    obtain ⟨X3, hE3, hm⟩ := ob hm
    refine W_block ?_
    refine W_loopM (α := Nat × Int) ([8] ++ [10] ++ List.range' 18 37) (fun a => [(18, I (a.1 : Nat)), (8, I a.2)]) (fun a nx' h' => 1 ≤ nx' ∧ Kp p [] h h' ∧ a.1 ≤ x1.length ∧ (h' tk4 = some ⟨0, 1, [PV.clo 81 [PV.iptr (I a2).cells, PV.iptr (eGChoice a3).cells, PV.ptr tk4 0 0 0]]⟩) ∧ m_impl_CountUnpruned_1_l0 a1 a0 a2 (m_impl_CountUnpruned_1_k k) a3 (x1.drop a.1) a.2 = some X3) (fun a => x1.length - a.1) (0, 0) ⟨rfl, rfl, trivial⟩ ⟨aOm, aKp, Nat.zero_le _, aLk, hE3⟩ (fun a e3 nx5 h3 hI => ?_)
    obtain ⟨i1, s4⟩ := a
    obtain ⟨hn3, hk3, hi1, hr3, hE3⟩ := hI
    refine W_seq ?_
    refine W_region ?_
    refine WO_lss ?_
    refine WO_nil ?_
    refine W_seq ?_
    refine W_cond (fun hq => ?_) (fun hq => ?_)
    · have hlt1 : (i1 : Int) < (x1.length : Int) := dec_lt hq
      obtain ⟨x16, hx1, hd1⟩ := lt_get (xs := x1) (i := i1) (by omega)
      rw [hd1, m_impl_CountUnpruned_1_l0] at hE3
      replace hx1 := getI_nat hx1
      refine W_skip ?_
      refine W_seq ?_
      refine W_block ?_
      refine W_seq ?_
      refine W_region ?_
      refine D_index el_S_impl_Instr sz_impl_Instr hx1 ?_
      refine WO_loadI sz_impl_Instr ag_impl_Instr ?_
      refine WO_alloc sz_impl_Instr zo_impl_Instr ?_
      refine WO_store sz_impl_Instr ?_
      refine WO_nil ?_
      refine W_block ?_
      refine W_seq ?_
      refine W_region ?_
      refine WO_loadS sz_impl_Instr ag_impl_Instr ?_
      refine WO_move ?_
      refine WO_move ?_
      refine WO_loadI1 sz_int ag_int ?_
      refine WO_sub ?_
      refine WO_eql ?_
      obtain ⟨x17, g22, hE3⟩ := ob hE3
      refine WO_callN (run_impl_isReason g22) ?_
      refine WO_assign ?_
      refine WO_nil ?_
      obtain ⟨X4, hE4, hE3⟩ := ob hE3
      refine W_join (γ := Unit) ([8] ++ List.range' 22 17 ++ List.range' 47 7) (fun b => [(8, I X4)]) (fun b nx' h' => (nx5 + 2) ≤ nx' ∧ Kp p [] h h' ∧ (h' tk4 = some ⟨0, 1, [PV.clo 81 [PV.iptr (I a2).cells, PV.iptr (eGChoice a3).cells, PV.ptr tk4 0 0 0]]⟩)) ?_ ?_
      · refine W_ite hE4 (fun hq hE4 => ?_) (fun hq hE4 => ?_)
        · refine W_skip ?_
          cases hE4
          exact metJ () ⟨rfl, trivial⟩ ⟨aOm, aKp, aLk⟩
        · refine W_seq ?_
          refine W_region ?_
          refine WO_move ?_
          refine WO_loadI1 sz_int ag_int ?_
          refine WO_sub ?_
          refine WO_eql ?_
          refine WO_assign ?_
          refine WO_nil ?_
          refine W_ite hE4 (fun hq hE4 => ?_) (fun hq hE4 => ?_)
          · refine W_region ?_
            refine WO_move ?_
            refine WO_add ?_
            refine WO_assign ?_
            refine WO_nil ?_
            cases hE4
            exact metJ () ⟨rfl, trivial⟩ ⟨aOm, aKp, aLk⟩
          · refine W_regionD [0, 1, 0, 0, 0, 0, 0, 0, 0, 0, 1, 0, 0, 0, 0, 2, 0, 0] mixed (by kernel_rfl) ?_
            refine WO_move ?_
            refine WO_load1 sz_func_int_S_impl_column_int ag_func_int_S_impl_column_int ?_
            refine WO_move ?_
            refine WO_add ?_
            refine WO_move ?_
            refine WO_move ?_
            refine D_len sl_S_impl_column (e := (eL U)) (xs := a1) ?_
            refine WO_move ?_
            refine D_len sl_S_impl_column (e := (eL U)) (xs := a1) ?_
            obtain ⟨c11, g27, hE4⟩ := ob hE4
            refine D_slice3 os_S_impl_column g27 (e := (eL U)) ?_
            refine WO_loadS sz_impl_Instr ag_impl_Instr ?_
            refine WO_move ?_
            obtain ⟨x21, g28, hE4⟩ := ob hE4
            refine WO_callN (run_impl_writes g28) ?_
            refine WO_buildSlice el_S_impl_column sz_impl_column zo_impl_column ?_
            obtain ⟨c12, g29, hE4⟩ := ob hE4
            refine D_app sl_S_impl_column el_S_impl_column sz_impl_column zs_impl_column bt_impl_column g29 (e := (eL U)) ?_
            obtain ⟨x22, g30, hE4⟩ := ob hE4
            refine WO_callE ?_
            refine ⟨_, _, (ih g30 aLk aNp), ?_⟩
            refine WO_add ?_
            refine WO_assign ?_
            refine WO_nil ⟨rfl, ?_⟩
            cases hE4
            exact metJ () ⟨rfl, trivial⟩ ⟨aOm, aKp, aLk⟩
      · intro bb3 e4 nx6 h4 hJ
        obtain ⟨hn4, hk4, hr4⟩ := hJ
        refine W_region ?_
        refine WO_succ ?_
        refine WO_move ?_
        refine WO_nil ?_
        exact round ((i1 + 1), X4) ⟨rfl, rfl, trivial⟩ ⟨aOm, aKp, aOm, aLk, hE3⟩ aOm
    · have hge1 : (x1.length : Int) ≤ (i1 : Int) := dec_ge hq
      rw [drop_len (by omega), m_impl_CountUnpruned_1_l0] at hE3
      refine W_exit ?_
      cases hE3
      try dsimp only at hm
      refine W_seq ?_
      refine W_region ?_
      refine WO_move ?_
      refine WO_assign ?_
      refine WO_nil ?_
      cases hm
      exact W_ret (finD1 [] (retTmp (t := 7) retNil) (.same _) (Kp.fin aKp))

theorem run_impl_CountUnpruned_1 {p : Tok} {h : H} {a0 : Int} {a1 : List (List Int)} {b1 : Bool} {a2 : Int} {a3 : GChoice} {tk4 : Tok} {R : Int} (hm : m_impl_CountUnpruned_1 a0 a1 a2 a3 = some R) (hrow4 : h tk4 = some ⟨0, 1, [PV.clo 81 [PV.iptr (I a2).cells, PV.iptr (eGChoice a3).cells, PV.ptr tk4 0 0 0]]⟩) (htk4 : ¬ p <+: tk4) : Run PG (.fn F_impl_CountUnpruned_1 [I a0, PV.sl b1 (a1.map (eL U)), PV.iptr (I a2).cells, PV.iptr (eGChoice a3).cells, .ptr tk4 0 0 0] p h (I R) h) := by
  obtain ⟨k, hk⟩ := limO_some hm
  exact run_impl_CountUnpruned_1_k k hk hrow4 htk4

noncomputable def m_impl_table_l1 (a0 : Int → Int → Option Int) (i3 : Int) : List Int → (List Int) → Option (List Int)
  | [], s16 =>
    some s16
  | i4 :: zs, s16 =>
    (a0 i3 i4).bind fun x9 =>
    (appI s16 ([x9] : List Int)).bind fun c9 =>
    m_impl_table_l1 a0 i3 zs c9

noncomputable def m_impl_table_l0 (a0 : Int → Int → Option Int) : List Int → (List Int) → Option (List Int)
  | [], s12 =>
    some s12
  | i3 :: zs, s12 =>
    (m_impl_table_l1 a0 i3 (rng 0 64) s12).bind fun X4 =>
    m_impl_table_l0 a0 zs X4

noncomputable def m_impl_table (a0 : Int → Int → Option Int) : Option (List Int) :=
  (m_impl_table_l0 a0 (rng 0 64) ([] : List Int)).bind fun X3 =>
  some X3

theorem run_impl_table {f0 : FuncId} {c0 : List PV} {a0 : Int → Int → Option Int} {R : (List Int)} (hm : m_impl_table a0 = some R) (hf0 : ∀ {y0 y1 r}, a0 y0 y1 = some r → Gives PG f0 ([I y0, I y1] ++ c0) (I r)) : Gives PG F_impl_table [.clo f0 c0] (PV.sl false (R.map I)) := by
  intro p h
  unfold m_impl_table at hm
  refine fn_dec fn_impl_table ?_
  refine W_seq ?_
  refine W_region ?_
  refine WO_assign ?_
  refine WO_nil ?_
  refine W_seq ?_
  refine W_region ?_
  refine WO_buildSliceR el_S_int sz_int zo_int ?_
  have hl1 : ([] : List Int).length = 0 ∧ 0 ≤ LIM := ⟨rfl, Nat.le_of_ble_eq_true rfl⟩
  refine WO_assign ?_
  refine WO_nil ?_
  refine W_seq ?_
  refine W_seq ?_
  refine W_region ?_
  refine WO_move ?_
  refine WO_nil ?_
  obtain ⟨X3, hE3, hm⟩ := ob hm
  refine W_block ?_
  refine W_loopM (α := Int × (List Int) × Nat × Nat) [3, 4, 5, 7, 8, 9, 10, 11, 12, 13, 14, 15, 16, 17, 18, 19, 20, 21] (fun a => [(7, I a.1), (3, PV.ref (p ++ [0]) a.2.2.1 0 a.2.2.2)]) (fun a nx' h' => 1 ≤ nx' ∧ Kp p [] h h' ∧ 0 ≤ a.1 ∧ (h' (p ++ [0]) = some ⟨a.2.2.1, 1, a.2.1.map I⟩) ∧ (a.2.1.length = a.2.2.2 ∧ a.2.2.2 ≤ LIM) ∧ m_impl_table_l0 a0 (rng a.1 64) a.2.1 = some X3) (fun a => (64 - a.1).toNat) (0, ([] : List Int), 0, 0) ⟨rfl, rfl, trivial⟩ ⟨aOm, aKp, Int.le_refl _, aLk, hl1, hE3⟩ (fun a e3 nx9 h3 hI => ?_)
  obtain ⟨i3, s12, v9, n9⟩ := a
  obtain ⟨hn3, hk3, hi3, hr3, hl16, hE3⟩ := hI
  refine W_seq ?_
  refine W_region ?_
  refine WO_lss ?_
  refine WO_nil ?_
  refine W_seq ?_
  refine W_cond (fun hq => ?_) (fun hq => ?_)
  · have hlt3 : i3 < 64 := dec_lt hq
    rw [rng_cons (by omega), m_impl_table_l0] at hE3
    refine W_skip ?_
    refine W_seq ?_
    refine W_block ?_
    refine W_seq ?_
    refine W_region ?_
    refine WO_move ?_
    refine WO_assign ?_
    refine WO_nil ?_
    refine W_seq ?_
    refine W_region ?_
    refine WO_move ?_
    refine WO_nil ?_
    obtain ⟨X4, hE4, hE3⟩ := ob hE3
    refine W_block ?_
    refine W_loopM (α := Int × (List Int) × Nat × Nat) [3, 5, 10, 11, 12, 13, 14, 15, 16, 17, 18, 19, 20] (fun a => [(10, I a.1), (3, PV.ref (p ++ [0]) a.2.2.1 0 a.2.2.2)]) (fun a nx' h' => nx9 ≤ nx' ∧ Kp p [] h h' ∧ 0 ≤ a.1 ∧ (h' (p ++ [0]) = some ⟨a.2.2.1, 1, a.2.1.map I⟩) ∧ (a.2.1.length = a.2.2.2 ∧ a.2.2.2 ≤ LIM) ∧ m_impl_table_l1 a0 i3 (rng a.1 64) a.2.1 = some X4) (fun a => (64 - a.1).toNat) (0, s12, v9, n9) ⟨rfl, rfl, trivial⟩ ⟨aOm, aKp, Int.le_refl _, aLk, hl16, hE4⟩ (fun a e4 nx12 h4 hI => ?_)
    obtain ⟨i4, s16, v12, n12⟩ := a
    obtain ⟨hn4, hk4, hi4, hr4, hl21, hE4⟩ := hI
    refine W_seq ?_
    refine W_region ?_
    refine WO_lss ?_
    refine WO_nil ?_
    refine W_seq ?_
    refine W_cond (fun hq => ?_) (fun hq => ?_)
    · have hlt4 : i4 < 64 := dec_lt hq
      rw [rng_cons (by omega), m_impl_table_l1] at hE4
      refine W_skip ?_
      refine W_seq ?_
      refine W_block ?_
      refine W_seq ?_
      refine W_region ?_
      refine WO_move ?_
      refine WO_assign ?_
      refine WO_nil ?_
      refine W_region ?_
      refine WO_move ?_
      refine WO_move ?_
      refine WO_move ?_
      refine WO_move ?_
      obtain ⟨x9, g17, hE4⟩ := ob hE4
      refine WO_callN (hf0 g17) ?_
      refine WO_buildSlice el_S_int sz_int zo_int ?_
      obtain ⟨c9, g18, hE4⟩ := ob hE4
      refine D_appR sl_S_int el_S_int sz_int zs_int bt_int g18 hl21 (e := I) ?_
      have hl22 := appI_len g18
      refine WO_assign ?_
      refine WO_nil ?_
      refine W_region ?_
      refine WO_addI ?_
      refine WO_move ?_
      refine WO_nil ?_
      exact round ((i4 + 1), c9, v12 + 1, c9.length) ⟨rfl, rfl, trivial⟩ ⟨aOm, aKp, aOm, aLk, hl22, hE4⟩ aOm
    · have hge3 : 64 ≤ (i4 : Int) := dec_ge hq
      rw [rng_nil (by omega), m_impl_table_l1] at hE4
      refine W_exit ?_
      cases hE4
      try dsimp only at hE3
      refine W_region ?_
      refine WO_addI ?_
      refine WO_move ?_
      refine WO_nil ?_
      exact round ((i3 + 1), s16, v12, n12) ⟨rfl, rfl, trivial⟩ ⟨aOm, aKp, aOm, aLk, hl21, hE3⟩ aOm
  · have hge4 : 64 ≤ (i3 : Int) := dec_ge hq
    rw [rng_nil (by omega), m_impl_table_l0] at hE3
    refine W_exit ?_
    cases hE3
    try dsimp only at hm
    refine W_seq ?_
    refine W_region ?_
    refine WO_move ?_
    refine WO_assign ?_
    refine WO_nil ?_
    cases hm
    exact W_ret (finD1 [(p ++ [0])] (retTmp (t := 2) retNil) (FV.rowL hl16) (Kp.fin aKp))

noncomputable def m_impl_begun_1 (a0 : Int) (a1 : Int) : Int :=
  a0

theorem run_impl_begun_1 {a0 : Int} {a1 : Int} : Gives PG F_impl_begun_1 [I a0, I a1] (I (m_impl_begun_1 a0 a1)) := by
  intro p h
  generalize hm : m_impl_begun_1 a0 a1 = R
  unfold m_impl_begun_1 at hm
  refine fn_dec fn_impl_begun_1 ?_
  refine W_seq ?_
  refine W_region ?_
  refine WO_assign ?_
  refine WO_nil ?_
  refine W_seq ?_
  refine W_region ?_
  refine WO_move ?_
  refine WO_assign ?_
  refine WO_nil ?_
  cases hm
  exact W_ret (finD1 [] (retTmp (t := 4) retNil) (.same _) (Kp.fin aKp))

noncomputable def m_impl_columnOf_l0 : List Int → Int → (List Int) → Option (List Int)
  | [], i1, s4 =>
    some s4
  | x3 :: zs, i1, s4 =>
    (setI s4 (i1 : Int) (IntKind.u8.wrap x3)).bind fun c4 =>
    m_impl_columnOf_l0 zs (i1 + 1) c4

noncomputable def m_impl_columnOf (a0 : List Int) : Option (List Int) :=
  (makI (a0.length : Int) 0).bind fun c1 =>
  (m_impl_columnOf_l0 a0 0 c1).bind fun X1 =>
  some X1

theorem run_impl_columnOf {a0 : List Int} {b0 : Bool} {R : (List Int)} (hm : m_impl_columnOf a0 = some R) : Gives PG F_impl_columnOf [PV.sl b0 (a0.map I)] (PV.sl false (R.map U)) := by
  intro p h
  have hvac : ∀ k, ∃ s : St, k ≤ s.nx ∧ Fin PG Try.f131 23 p h (PV.sl false (R.map U)) .ret s := fun k => ⟨⟨fun i => if i = 2 then PV.sl false (R.map U) else default, k, h⟩, Nat.le_refl _, finD1 [] (retTmp (t := 2) retNil) (.same _) (fun _ => .inl rfl)⟩
  unfold m_impl_columnOf at hm
  refine fn_dec fn_impl_columnOf ?_
  refine W_seq ?_
  refine W_region ?_
  refine WO_assign ?_
  refine WO_nil ?_
  refine W_seq ?_
  refine W_region ?_
  refine WO_move ?_
  refine D_len sl_S_int (e := I) (xs := a0) ?_
  obtain ⟨c1, g1, hm⟩ := ob hm
  refine D_make el_impl_column sz_uint8 zo_uint8 b3_uint8 g1 (e := U) rfl ?_
  have hl1 := makI_len g1
  refine WO_assign ?_
  refine WO_nil ?_
  refine W_seq ?_
  refine W_seq ?_
  refine W_region ?_
  refine WO_move ?_
  refine D_len sl_S_int (e := I) (xs := a0) ?_
  refine WO_move ?_
  refine WO_nil ?_
  refine W_bnd 9 hvac (fun hb1 => ?_)
  rw [List.length_map] at hb1
  obtain ⟨X1, hE1, hm⟩ := ob hm
  refine W_block ?_
  refine W_loopM (α := Nat × (List Int)) [4, 5, 11, 12, 13, 14, 15, 16, 17, 18, 19, 20, 21] (fun a => [(11, I (a.1 : Nat))]) (fun a nx' h' => 1 ≤ nx' ∧ Kp p [] h h' ∧ a.1 ≤ a0.length ∧ (h' (p ++ [0]) = some ⟨0, 1, a.2.map U⟩) ∧ (a.2.length = c1.length ∧ c1.length ≤ LIM) ∧ m_impl_columnOf_l0 (a0.drop a.1) (a.1 : Int) a.2 = some X1) (fun a => a0.length - a.1) (0, c1) ⟨rfl, trivial⟩ ⟨aOm, aKp, Nat.zero_le _, aLk, hl1, hE1⟩ (fun a e1 nx3 h1 hI => ?_)
  obtain ⟨i1, s4⟩ := a
  obtain ⟨hn1, hk1, hi1, hr1, hl6, hE1⟩ := hI
  refine W_seq ?_
  refine W_region ?_
  refine WO_lss ?_
  refine WO_nil ?_
  refine W_seq ?_
  refine W_cond (fun hq => ?_) (fun hq => ?_)
  · have hlt1 : (i1 : Int) < (a0.length : Int) := dec_lt hq
    obtain ⟨x3, hx1, hd1⟩ := lt_get (xs := a0) (i := i1) (by omega)
    rw [hd1, m_impl_columnOf_l0] at hE1
    replace hx1 := getI_nat hx1
    refine W_skip ?_
    refine W_seq ?_
    refine W_block ?_
    refine W_seq ?_
    refine W_region ?_
    refine WO_move ?_
    refine D_index el_S_int sz_int hx1 ?_
    refine WO_loadI1 sz_int ag_int ?_
    refine WO_assign ?_
    refine WO_assign ?_
    refine WO_nil ?_
    refine W_region ?_
    refine WO_move ?_
    refine WO_move ?_
    refine WO_move ?_
    refine WO_convI un_int it_uint8 ?_
    obtain ⟨c4, g6, hE1⟩ := ob hE1
    refine D_indexW el_impl_column sz_uint8 g6 hl6 ?_
    refine D_st1R sz_uint8 g6 (e := U) ?_
    have hl7 := setI_len g6 hl6
    refine WO_nil ?_
    refine W_region ?_
    refine WO_succ ?_
    refine WO_move ?_
    refine WO_nil ?_
    exact round ((i1 + 1), c4) ⟨rfl, trivial⟩ ⟨aOm, aKp, aOm, aLk, hl7, hE1⟩ aOm
  · have hge1 : (a0.length : Int) ≤ (i1 : Int) := dec_ge hq
    rw [drop_len (by omega), m_impl_columnOf_l0] at hE1
    refine W_exit ?_
    cases hE1
    try dsimp only at hm
    refine W_seq ?_
    refine W_region ?_
    refine WO_move ?_
    refine WO_assign ?_
    refine WO_nil ?_
    cases hm
    exact W_ret (finD1 [(p ++ [0])] (retTmp (t := 2) retNil) (FV.rowL hl6) (Kp.fin aKp))

noncomputable def m_impl_begun_2 (a0 : Int) (a1 : Int) : Int :=
  a1

theorem run_impl_begun_2 {a0 : Int} {a1 : Int} : Gives PG F_impl_begun_2 [I a0, I a1] (I (m_impl_begun_2 a0 a1)) := by
  intro p h
  generalize hm : m_impl_begun_2 a0 a1 = R
  unfold m_impl_begun_2 at hm
  refine fn_dec fn_impl_begun_2 ?_
  refine W_seq ?_
  refine W_region ?_
  refine WO_assign ?_
  refine WO_nil ?_
  refine W_seq ?_
  refine W_region ?_
  refine WO_move ?_
  refine WO_assign ?_
  refine WO_nil ?_
  cases hm
  exact W_ret (finD1 [] (retTmp (t := 4) retNil) (.same _) (Kp.fin aKp))

noncomputable def m_impl_begun : Option (List (List Int)) :=
  (m_impl_table (fun y0 y1 => some (m_impl_begun_1 y0 y1))).bind fun x1 =>
  (m_impl_columnOf x1).bind fun x2 =>
  (m_impl_table (fun y0 y1 => some (m_impl_begun_2 y0 y1))).bind fun x3 =>
  (m_impl_columnOf x3).bind fun x4 =>
  some ([x2, x4] : List (List Int))

theorem runR_impl_begun {R : (List (List Int))} (hm : m_impl_begun = some R) : GivesR PG F_impl_begun [] 1 (R.map (eL U)) := by
  intro p h
  unfold m_impl_begun at hm
  refine fn_decR fn_impl_begun ?_
  refine W_seq ?_
  refine W_region ?_
  refine WO_assignRow 1 ?_
  have hl1 : ([] : List (List Int)).length = 0 ∧ 0 ≤ LIM := ⟨rfl, Nat.zero_le _⟩
  refine WO_nil ?_
  refine W_seq ?_
  refine W_region ?_
  obtain ⟨x1, g1, hm⟩ := ob hm
  refine WO_callN (run_impl_table g1 (fun hg => by cases hg; exact run_impl_begun_1)) ?_
  obtain ⟨x2, g2, hm⟩ := ob hm
  refine WO_callN (run_impl_columnOf g2) ?_
  obtain ⟨x3, g3, hm⟩ := ob hm
  refine WO_callN (run_impl_table g3 (fun hg => by cases hg; exact run_impl_begun_2)) ?_
  obtain ⟨x4, g4, hm⟩ := ob hm
  refine WO_callN (run_impl_columnOf g4) ?_
  refine WO_buildSliceR el_S_impl_column sz_impl_column zo_impl_column ?_
  have hl2 : ([x2, x4] : List (List Int)).length = 2 ∧ 2 ≤ LIM := ⟨rfl, Nat.le_of_ble_eq_true rfl⟩
  refine WO_assign ?_
  refine WO_nil ?_
  cases hm
  exact W_ret (finR1 (retTmp (t := 0) retNil) hl2 aLk aKp)

theorem run_impl_begun {R : (List (List Int))} (hm : m_impl_begun = some R) : Gives PG F_impl_begun [] (PV.sl false (R.map (eL U))) := GivesR.gives (runR_impl_begun hm)

noncomputable def m_impl_CountUnpruned (a0 : GChoice) (a1 : Int) : Option (Int × Bool) :=
  ((m_impl_IsChoice a0).bind fun x3 =>
    (if (!x3) then some true else some (!(m_impl_within a1 0 3)))).bind fun X1 =>
  if X1 then
    some (0, false)
  else
    (m_impl_begun).bind fun x4 =>
    (m_impl_CountUnpruned_1 0 x4 a1 a0).bind fun x5 =>
    some (x5, true)

theorem run_impl_CountUnpruned {a0 : GChoice} {a1 : Int} {R : Int × Bool} (hm : m_impl_CountUnpruned a0 a1 = some R) : Gives PG F_impl_CountUnpruned [eGChoice a0, I a1] (.tup [I R.1, B R.2]) := by
  intro p h
  unfold m_impl_CountUnpruned at hm
  refine fn_dec fn_impl_CountUnpruned ?_
  refine W_seq ?_
  refine W_region ?_
  refine WO_box sz_impl_Choice ?_
  refine WO_box sz_int ?_
  refine WO_assign ?_
  refine WO_assign ?_
  refine WO_nil ?_
  refine W_seq ?_
  refine W_seq ?_
  obtain ⟨X1, hE1, hm⟩ := ob hm
  refine W_joinH (γ := Unit) [7, 8, 9, 10, 11, 12, 13, 14] (fun b => [(14, B X1)]) ?_ ?_
  · refine W_region ?_
    refine WO_loadS sz_impl_Choice ag_impl_Choice ?_
    obtain ⟨x3, g2, hE1⟩ := ob hE1
    refine WO_callN (run_impl_IsChoice g2) ?_
    refine WO_not ?_
    refine WO_move ?_
    refine WO_ite 10 hE1 (fun hq hE1 => ?_) (fun hq hE1 => ?_)
    · refine WO_skip ?_
      refine WO_skip ?_
      refine WO_skip ?_
      refine WO_pick ?_
      refine WO_nil ?_
      cases hE1
      exact metH () ⟨rfl, trivial⟩ aOm
    · refine WO_load1 sz_int ag_int ?_
      refine WO_callN (run_impl_within (a0 := a1) (a1 := 0) (a2 := 3)) ?_
      refine WO_not ?_
      refine WO_pick ?_
      refine WO_nil ?_
      cases hE1
      exact metH () ⟨rfl, trivial⟩ aOm
  · intro bb1 e1 nx1 hn1
    refine W_ite hm (fun hq hm => ?_) (fun hq hm => ?_)
    · refine W_seq ?_
      refine W_region ?_
      refine WO_assign ?_
      refine WO_assign ?_
      refine WO_nil ?_
      cases hm
      exact W_ret (finD [] (retTmp (t := 4) (retTmp (t := 5) retNil)) (.cons _ _ _ _ (.same _) (.cons _ _ _ _ (.same _) .nil)) (Kp.fin aKp))
    · refine W_skip ?_
      refine W_seq ?_
      refine W_region ?_
      refine WO_alloc sz_func_int_S_impl_column_int zo_func_int_S_impl_column_int ?_
      refine WO_nil ?_
      refine W_seq ?_
      refine W_frzB 3 ?_
      refine W_frzB 2 ?_
      refine W_region ?_
      refine WO_makeFunc ?_
      refine WO_store1 sz_func_int_S_impl_column_int ?_
      refine WO_nil ?_
      refine W_seq ?_
      refine W_regionD [1, 0, 2, 0, 0] mixed (by kernel_rfl) ?_
      refine WO_load1 sz_func_int_S_impl_column_int ag_func_int_S_impl_column_int ?_
      obtain ⟨x4, g3, hm⟩ := ob hm
      refine WO_callN (run_impl_begun g3) ?_
      obtain ⟨x5, g4, hm⟩ := ob hm
      refine WO_callE ?_
      refine ⟨_, _, (run_impl_CountUnpruned_1 g4 aLk aNp), ?_⟩
      refine WO_assign ?_
      refine WO_assign ?_
      refine WO_nil ⟨rfl, ?_⟩
      cases hm
      exact W_ret (finD [] (retTmp (t := 4) (retTmp (t := 5) retNil)) (.cons _ _ _ _ (.same _) (.cons _ _ _ _ (.same _) .nil)) (Kp.fin aKp))

noncomputable def m_laws_eqStringS_l0 (a1 : List ByteArray) : List ByteArray → Int → Option Bool
  | [], i1 =>
    some true
  | x5 :: zs, i1 =>
    (getI a1 (i1 : Int)).bind fun x6 =>
    if (!decide (x5 = x6)) then
      some false
    else
      m_laws_eqStringS_l0 a1 zs (i1 + 1)

noncomputable def m_laws_eqStringS (a0 : List ByteArray) (a1 : List ByteArray) : Option Bool :=
  if ((a0.length : Int) != (a1.length : Int)) then
    some false
  else
    m_laws_eqStringS_l0 a1 a0 0

theorem run_laws_eqStringS {a0 : List ByteArray} {b0 : Bool} {a1 : List ByteArray} {b1 : Bool} {R : Bool} (hm : m_laws_eqStringS a0 a1 = some R) : Gives PG F_laws_eqStringS [PV.sl b0 (a0.map S), PV.sl b1 (a1.map S)] (B R) := by
  intro p h
  have hvac : ∀ k, ∃ s : St, k ≤ s.nx ∧ Fin PG Try.f86 26 p h (B R) .ret s := fun k => ⟨⟨fun i => if i = 4 then B R else default, k, h⟩, Nat.le_refl _, finD1 [] (retTmp (t := 4) retNil) (.same _) (fun _ => .inl rfl)⟩
  unfold m_laws_eqStringS at hm
  refine fn_dec fn_laws_eqStringS ?_
  refine W_seq ?_
  refine W_region ?_
  refine WO_assign ?_
  refine WO_nil ?_
  refine W_seq ?_
  refine W_seq ?_
  refine W_region ?_
  refine WO_move ?_
  refine D_len sl_S_string (e := S) (xs := a0) ?_
  refine WO_move ?_
  refine D_len sl_S_string (e := S) (xs := a1) ?_
  refine WO_neq ?_
  refine WO_nil ?_
  refine W_ite hm (fun hq hm => ?_) (fun hq hm => ?_)
  · refine W_seq ?_
    refine W_region ?_
    refine WO_assign ?_
    refine WO_nil ?_
    cases hm
    exact W_ret (finD1 [] (retTmp (t := 4) retNil) (.same _) (Kp.fin aKp))
  · refine W_skip ?_
    refine W_seq ?_
    refine W_seq ?_
    refine W_region ?_
    refine WO_assign ?_
    refine WO_nil ?_
    refine W_bnd 0 hvac (fun hb1 => ?_)
    rw [List.length_map] at hb1
    refine W_block ?_
    refine W_loopM (α := Nat) [4, 5, 11, 12, 13, 14, 15, 16, 17, 18, 19, 20, 21, 22, 23, 24, 25] (fun a => [(5, I (a : Nat))]) (fun a nx' h' => 0 ≤ nx' ∧ Kp p [] h h' ∧ a ≤ a0.length ∧ m_laws_eqStringS_l0 a1 (a0.drop a) (a : Int) = some R) (fun a => a0.length - a) 0 ⟨rfl, trivial⟩ ⟨aOm, aKp, Nat.zero_le _, hm⟩ (fun i1 e1 nx3 h1 hI => ?_)
    obtain ⟨hn1, hk1, hi1, hm⟩ := hI
    refine W_seq ?_
    refine W_seq ?_
    refine W_region ?_
    refine WO_move ?_
    refine WO_move ?_
    refine D_len sl_S_string (e := S) (xs := a0) ?_
    refine WO_lss ?_
    refine WO_nil ?_
    refine W_cond (fun hq => ?_) (fun hq => ?_)
    · have hlt1 : (i1 : Int) < (a0.length : Int) := dec_lt hq
      obtain ⟨x5, hx1, hd1⟩ := lt_get (xs := a0) (i := i1) (by omega)
      rw [hd1, m_laws_eqStringS_l0] at hm
      replace hx1 := getI_nat hx1
      refine W_skip ?_
      refine W_seq ?_
      refine W_block ?_
      refine W_seq ?_
      refine W_regionD [0, 0, 0, 0, 0, 0, 0, 0, 0] mixed (by kernel_rfl) ?_
      refine WO_move ?_
      refine WO_move ?_
      refine D_index el_S_string sz_string hx1 ?_
      refine WO_loadI1 sz_string ag_string ?_
      refine WO_move ?_
      refine WO_move ?_
      obtain ⟨x6, g5, hm⟩ := ob hm
      refine D_index el_S_string sz_string g5 ?_
      refine WO_loadI1 sz_string ag_string ?_
      refine WO_neqS ?_
      refine WO_nil ⟨rfl, ?_⟩
      refine W_ite hm (fun hq hm => ?_) (fun hq hm => ?_)
      · refine W_seq ?_
        refine W_region ?_
        refine WO_assign ?_
        refine WO_nil ?_
        cases hm
        exact W_ret (finD1 [] (retTmp (t := 4) retNil) (.same _) (Kp.fin aKp))
      · refine W_skip ?_
        refine W_region ?_
        refine WO_move ?_
        refine WO_succ ?_
        refine WO_assign ?_
        refine WO_nil ?_
        exact round (i1 + 1) ⟨rfl, trivial⟩ ⟨aOm, aKp, aOm, hm⟩ aOm
    · have hge1 : (a0.length : Int) ≤ (i1 : Int) := dec_ge hq
      rw [drop_len (by omega), m_laws_eqStringS_l0] at hm
      refine W_exit ?_
      refine W_seq ?_
      refine W_region ?_
      refine WO_assign ?_
      refine WO_nil ?_
      cases hm
      exact W_ret (finD1 [] (retTmp (t := 4) retNil) (.same _) (Kp.fin aKp))

noncomputable def m_laws_eqIntS_l0 (a1 : List Int) : List Int → Int → Option Bool
  | [], i1 =>
    some true
  | x5 :: zs, i1 =>
    (getI a1 (i1 : Int)).bind fun x6 =>
    if (x5 != x6) then
      some false
    else
      m_laws_eqIntS_l0 a1 zs (i1 + 1)

noncomputable def m_laws_eqIntS (a0 : List Int) (a1 : List Int) : Option Bool :=
  if ((a0.length : Int) != (a1.length : Int)) then
    some false
  else
    m_laws_eqIntS_l0 a1 a0 0

theorem run_laws_eqIntS {a0 : List Int} {b0 : Bool} {a1 : List Int} {b1 : Bool} {R : Bool} (hm : m_laws_eqIntS a0 a1 = some R) : Gives PG F_laws_eqIntS [PV.sl b0 (a0.map I), PV.sl b1 (a1.map I)] (B R) := by
  intro p h
  have hvac : ∀ k, ∃ s : St, k ≤ s.nx ∧ Fin PG Try.f60 26 p h (B R) .ret s := fun k => ⟨⟨fun i => if i = 4 then B R else default, k, h⟩, Nat.le_refl _, finD1 [] (retTmp (t := 4) retNil) (.same _) (fun _ => .inl rfl)⟩
  unfold m_laws_eqIntS at hm
  refine fn_dec fn_laws_eqIntS ?_
  refine W_seq ?_
  refine W_region ?_
  refine WO_assign ?_
  refine WO_nil ?_
  refine W_seq ?_
  refine W_seq ?_
  refine W_region ?_
  refine WO_move ?_
  refine D_len sl_S_int (e := I) (xs := a0) ?_
  refine WO_move ?_
  refine D_len sl_S_int (e := I) (xs := a1) ?_
  refine WO_neq ?_
  refine WO_nil ?_
  refine W_ite hm (fun hq hm => ?_) (fun hq hm => ?_)
  · refine W_seq ?_
    refine W_region ?_
    refine WO_assign ?_
    refine WO_nil ?_
    cases hm
    exact W_ret (finD1 [] (retTmp (t := 4) retNil) (.same _) (Kp.fin aKp))
  · refine W_skip ?_
    refine W_seq ?_
    refine W_seq ?_
    refine W_region ?_
    refine WO_assign ?_
    refine WO_nil ?_
    refine W_bnd 0 hvac (fun hb1 => ?_)
    rw [List.length_map] at hb1
    refine W_block ?_
    refine W_loopM (α := Nat) [4, 5, 11, 12, 13, 14, 15, 16, 17, 18, 19, 20, 21, 22, 23, 24, 25] (fun a => [(5, I (a : Nat))]) (fun a nx' h' => 0 ≤ nx' ∧ Kp p [] h h' ∧ a ≤ a0.length ∧ m_laws_eqIntS_l0 a1 (a0.drop a) (a : Int) = some R) (fun a => a0.length - a) 0 ⟨rfl, trivial⟩ ⟨aOm, aKp, Nat.zero_le _, hm⟩ (fun i1 e1 nx3 h1 hI => ?_)
    obtain ⟨hn1, hk1, hi1, hm⟩ := hI
    refine W_seq ?_
    refine W_seq ?_
    refine W_region ?_
    refine WO_move ?_
    refine WO_move ?_
    refine D_len sl_S_int (e := I) (xs := a0) ?_
    refine WO_lss ?_
    refine WO_nil ?_
    refine W_cond (fun hq => ?_) (fun hq => ?_)
    · have hlt1 : (i1 : Int) < (a0.length : Int) := dec_lt hq
      obtain ⟨x5, hx1, hd1⟩ := lt_get (xs := a0) (i := i1) (by omega)
      rw [hd1, m_laws_eqIntS_l0] at hm
      replace hx1 := getI_nat hx1
      refine W_skip ?_
      refine W_seq ?_
      refine W_block ?_
      refine W_seq ?_
      refine W_regionD [0, 0, 0, 0, 0, 0, 0, 0, 0] mixed (by kernel_rfl) ?_
      refine WO_move ?_
      refine WO_move ?_
      refine D_index el_S_int sz_int hx1 ?_
      refine WO_loadI1 sz_int ag_int ?_
      refine WO_move ?_
      refine WO_move ?_
      obtain ⟨x6, g5, hm⟩ := ob hm
      refine D_index el_S_int sz_int g5 ?_
      refine WO_loadI1 sz_int ag_int ?_
      refine WO_neq ?_
      refine WO_nil ⟨rfl, ?_⟩
      refine W_ite hm (fun hq hm => ?_) (fun hq hm => ?_)
      · refine W_seq ?_
        refine W_region ?_
        refine WO_assign ?_
        refine WO_nil ?_
        cases hm
        exact W_ret (finD1 [] (retTmp (t := 4) retNil) (.same _) (Kp.fin aKp))
      · refine W_skip ?_
        refine W_region ?_
        refine WO_move ?_
        refine WO_succ ?_
        refine WO_assign ?_
        refine WO_nil ?_
        exact round (i1 + 1) ⟨rfl, trivial⟩ ⟨aOm, aKp, aOm, hm⟩ aOm
    · have hge1 : (a0.length : Int) ≤ (i1 : Int) := dec_ge hq
      rw [drop_len (by omega), m_laws_eqIntS_l0] at hm
      refine W_exit ?_
      refine W_seq ?_
      refine W_region ?_
      refine WO_assign ?_
      refine WO_nil ?_
      cases hm
      exact W_ret (finD1 [] (retTmp (t := 4) retNil) (.same _) (Kp.fin aKp))

noncomputable def m_laws_eqChoice (a0 : GChoice) (a1 : GChoice) : Option Bool :=
  (m_laws_eqStringS a0.Ops a1.Ops).bind fun x1 =>
  if (!x1) then
    some false
  else
    (m_laws_eqIntS a0.Imms a1.Imms).bind fun x2 =>
    if (!x2) then
      some false
    else
      some true

theorem run_laws_eqChoice {a0 : GChoice} {a1 : GChoice} {R : Bool} (hm : m_laws_eqChoice a0 a1 = some R) : Gives PG F_laws_eqChoice [eGChoice a0, eGChoice a1] (B R) := by
  intro p h
  unfold m_laws_eqChoice at hm
  refine fn_dec fn_laws_eqChoice ?_
  refine W_seq ?_
  refine W_region ?_
  refine WO_box sz_impl_Choice ?_
  refine WO_box sz_impl_Choice ?_
  refine WO_assign ?_
  refine WO_nil ?_
  refine W_seq ?_
  refine W_seq ?_
  refine W_region ?_
  refine WO_fieldP fa_impl_Choice_0 ?_
  refine WO_load1 sz_S_string ag_S_string ?_
  refine WO_fieldP fa_impl_Choice_0 ?_
  refine WO_load1 sz_S_string ag_S_string ?_
  obtain ⟨x1, g1, hm⟩ := ob hm
  refine WO_callN (run_laws_eqStringS g1) ?_
  refine WO_not ?_
  refine WO_nil ?_
  refine W_ite hm (fun hq hm => ?_) (fun hq hm => ?_)
  · refine W_seq ?_
    refine W_region ?_
    refine WO_assign ?_
    refine WO_nil ?_
    cases hm
    exact W_ret (finD1 [] (retTmp (t := 4) retNil) (.same _) (Kp.fin aKp))
  · refine W_skip ?_
    refine W_seq ?_
    refine W_seq ?_
    refine W_region ?_
    refine WO_fieldP fa_impl_Choice_1 ?_
    refine WO_load1 sz_S_int ag_S_int ?_
    refine WO_fieldP fa_impl_Choice_1 ?_
    refine WO_load1 sz_S_int ag_S_int ?_
    obtain ⟨x2, g2, hm⟩ := ob hm
    refine WO_callN (run_laws_eqIntS g2) ?_
    refine WO_not ?_
    refine WO_nil ?_
    refine W_ite hm (fun hq hm => ?_) (fun hq hm => ?_)
    · refine W_seq ?_
      refine W_region ?_
      refine WO_assign ?_
      refine WO_nil ?_
      cases hm
      exact W_ret (finD1 [] (retTmp (t := 4) retNil) (.same _) (Kp.fin aKp))
    · refine W_skip ?_
      refine W_seq ?_
      refine W_region ?_
      refine WO_assign ?_
      refine WO_nil ?_
      cases hm
      exact W_ret (finD1 [] (retTmp (t := 4) retNil) (.same _) (Kp.fin aKp))

noncomputable def m_laws_FnExactCountUnpruned (a0 : GChoice) (a1 : Int) : Option Bool :=
  if (decide ((m_laws_szChoice a0 1048576) < 0)) then
    some true
  else
    (m_laws_toChoice a0).bind fun x1 =>
    (m_spec_CountUnpruned x1 a1).bind fun x2 =>
    (m_laws_toChoice a0).bind fun x3 =>
    (m_impl_CountUnpruned x3 a1).bind fun x4 =>
    bd (((x4.1 != x2.1) || (x4.2 != x2.2))) fun X1 =>
    if X1 then
      some false
    else
      (m_laws_toChoice a0).bind fun x6 =>
      (m_laws_eqChoice x3 x6).bind fun x7 =>
      if (!x7) then
        some false
      else
        some true

theorem run_laws_FnExactCountUnpruned {a0 : GChoice} {a1 : Int} {R : Bool} (hm : m_laws_FnExactCountUnpruned a0 a1 = some R) : Gives PG F_laws_FnExactCountUnpruned [eGChoice a0, I a1] (B R) := by
  intro p h
  unfold m_laws_FnExactCountUnpruned at hm
  refine fn_dec fn_laws_FnExactCountUnpruned ?_
  refine W_seq ?_
  refine W_region ?_
  refine WO_box sz_laws_Choice ?_
  refine WO_assign ?_
  refine WO_nil ?_
  refine W_seq ?_
  refine W_region ?_
  refine WO_assign ?_
  refine WO_nil ?_
  refine W_seq ?_
  refine W_region ?_
  refine WO_loadS sz_laws_Choice ag_laws_Choice ?_
  refine WO_move ?_
  refine WO_callN (run_laws_szChoice (a0 := a0) (a1 := 1048576)) ?_
  refine WO_assign ?_
  refine WO_nil ?_
  refine W_seq ?_
  refine W_seq ?_
  refine W_region ?_
  refine WO_move ?_
  refine WO_lss ?_
  refine WO_nil ?_
  refine W_ite hm (fun hq hm => ?_) (fun hq hm => ?_)
  · refine W_seq ?_
    refine W_region ?_
    refine WO_assign ?_
    refine WO_nil ?_
    cases hm
    exact W_ret (finD1 [] (retTmp (t := 4) retNil) (.same _) (Kp.fin aKp))
  · refine W_skip ?_
    refine W_seq ?_
    refine W_region ?_
    refine WO_loadS sz_laws_Choice ag_laws_Choice ?_
    obtain ⟨x1, g1, hm⟩ := ob hm
    refine WO_callN (run_laws_toChoice g1) ?_
    refine WO_move ?_
    obtain ⟨x2, g2, hm⟩ := ob hm
    refine WO_callN (run_spec_CountUnpruned g2) ?_
    refine WO_move ?_
    refine WO_extract ?_
    refine WO_extract ?_
    refine WO_assign ?_
    refine WO_assign ?_
    refine WO_nil ?_
    refine W_seq ?_
    refine W_region ?_
    refine WO_loadS sz_laws_Choice ag_laws_Choice ?_
    obtain ⟨x3, g3, hm⟩ := ob hm
    refine WO_callN (run_laws_toChoice g3) ?_
    refine WO_alloc sz_impl_Choice zo_impl_Choice ?_
    refine WO_store sz_impl_Choice ?_
    refine WO_nil ?_
    refine W_seq ?_
    refine W_region ?_
    refine WO_loadS sz_impl_Choice ag_impl_Choice ?_
    refine WO_move ?_
    obtain ⟨x4, g4, hm⟩ := ob hm
    refine WO_callN (run_impl_CountUnpruned g4) ?_
    refine WO_move ?_
    refine WO_extract ?_
    refine WO_extract ?_
    refine WO_assign ?_
    refine WO_assign ?_
    refine WO_nil ?_
    refine W_seq ?_
    refine W_seq ?_
    obtain ⟨X1, hE1, hm⟩ := obd hm
    refine W_joinH (γ := Unit) [31, 32, 33, 34, 35, 36, 37, 38] (fun b => [(38, B X1)]) ?_ ?_
    · refine W_region ?_
      refine WO_move ?_
      refine WO_move ?_
      refine WO_neq ?_
      refine WO_move ?_
      refine WO_ior 34 hE1 (fun hq hE1 => ?_) (fun hq hE1 => ?_)
      · refine WO_skip ?_
        refine WO_skip ?_
        refine WO_skip ?_
        refine WO_pick ?_
        refine WO_nil ?_
        cases hE1
        exact metH () ⟨rfl, trivial⟩ aOm
      · refine WO_move ?_
        refine WO_move ?_
        refine WO_neqB bo_bool ?_
        refine WO_pick ?_
        refine WO_nil ?_
        cases hE1
        exact metH () ⟨rfl, trivial⟩ aOm
    · intro bb1 e1 nx1 hn1
      refine W_ite hm (fun hq hm => ?_) (fun hq hm => ?_)
      · refine W_seq ?_
        refine W_region ?_
        refine WO_assign ?_
        refine WO_nil ?_
        cases hm
        exact W_ret (finD1 [] (retTmp (t := 4) retNil) (.same _) (Kp.fin aKp))
      · refine W_skip ?_
        refine W_seq ?_
        refine W_seq ?_
        refine W_regionD [1, 1, 0, 0, 0] mixed (by kernel_rfl) ?_
        refine WO_loadS sz_impl_Choice ag_impl_Choice ?_
        refine WO_loadS sz_laws_Choice ag_laws_Choice ?_
        obtain ⟨x6, g5, hm⟩ := ob hm
        refine WO_callN (run_laws_toChoice g5) ?_
        obtain ⟨x7, g6, hm⟩ := ob hm
        refine WO_callN (run_laws_eqChoice g6) ?_
        refine WO_not ?_
        refine WO_nil ⟨rfl, ?_⟩
        refine W_ite hm (fun hq hm => ?_) (fun hq hm => ?_)
        · refine W_seq ?_
          refine W_region ?_
          refine WO_assign ?_
          refine WO_nil ?_
          cases hm
          exact W_ret (finD1 [] (retTmp (t := 4) retNil) (.same _) (Kp.fin aKp))
        · refine W_skip ?_
          refine W_seq ?_
          refine W_region ?_
          refine WO_assign ?_
          refine WO_nil ?_
          cases hm
          exact W_ret (finD1 [] (retTmp (t := 4) retNil) (.same _) (Kp.fin aKp))

noncomputable def m_laws_szNode (a0 : GNode) (a1 : Int) : Int :=
  if (decide ((w64 (a1 - (a0.Op.size : Int))) < 0)) then
    (-1)
  else
    (w64 (a1 - (a0.Op.size : Int)))

theorem run_laws_szNode {a0 : GNode} {a1 : Int} : Gives PG F_laws_szNode [eGNode a0, I a1] (I (m_laws_szNode a0 a1)) := by
  intro p h
  generalize hm : m_laws_szNode a0 a1 = R
  unfold m_laws_szNode at hm
  refine fn_dec fn_laws_szNode ?_
  refine W_seq ?_
  refine W_region ?_
  refine WO_box sz_laws_Node ?_
  refine WO_assign ?_
  refine WO_nil ?_
  refine W_seq ?_
  refine W_region ?_
  refine WO_move ?_
  refine WO_fieldP fa_laws_Node_0 ?_
  refine WO_load1 sz_string ag_string ?_
  refine WO_lenS st_string ?_
  refine WO_sub ?_
  refine WO_assign ?_
  refine WO_nil ?_
  refine W_seq ?_
  refine W_seq ?_
  refine W_region ?_
  refine WO_move ?_
  refine WO_lss ?_
  refine WO_nil ?_
  refine W_ite hm (fun hq hm => ?_) (fun hq hm => ?_)
  · refine W_seq ?_
    refine W_region ?_
    refine WO_assign ?_
    refine WO_nil ?_
    cases hm
    exact W_ret (finD1 [] (retTmp (t := 4) retNil) (.same _) (Kp.fin aKp))
  · refine W_skip ?_
    refine W_seq ?_
    refine W_region ?_
    refine WO_move ?_
    refine WO_assign ?_
    refine WO_nil ?_
    cases hm
    exact W_ret (finD1 [] (retTmp (t := 4) retNil) (.same _) (Kp.fin aKp))

noncomputable def m_laws_szNodeS_l0 : List GNode → Int → Int
  | [], s4 =>
    s4
  | x3 :: zs, s4 =>
    if (decide ((m_laws_szNode x3 s4) < 0)) then
      (-1)
    else
      m_laws_szNodeS_l0 zs (m_laws_szNode x3 s4)

noncomputable def m_laws_szNodeS (a0 : List GNode) (a1 : Int) : Int :=
  if (decide ((w64 (a1 - (a0.length : Int))) < 0)) then
    (-1)
  else
    m_laws_szNodeS_l0 a0 (w64 (a1 - (a0.length : Int)))

theorem run_laws_szNodeS {a0 : List GNode} {b0 : Bool} {a1 : Int} : Gives PG F_laws_szNodeS [PV.sl b0 (a0.map eGNode), I a1] (I (m_laws_szNodeS a0 a1)) := by
  intro p h
  generalize hm : m_laws_szNodeS a0 a1 = R
  have hvac : ∀ k, ∃ s : St, k ≤ s.nx ∧ Fin PG Try.f35 27 p h (I R) .ret s := fun k => ⟨⟨fun i => if i = 4 then I R else default, k, h⟩, Nat.le_refl _, finD1 [] (retTmp (t := 4) retNil) (.same _) (fun _ => .inl rfl)⟩
  unfold m_laws_szNodeS at hm
  refine fn_dec fn_laws_szNodeS ?_
  refine W_seq ?_
  refine W_region ?_
  refine WO_assign ?_
  refine WO_nil ?_
  refine W_seq ?_
  refine W_region ?_
  refine WO_move ?_
  refine WO_move ?_
  refine D_len sl_S_laws_Node (e := eGNode) (xs := a0) ?_
  refine WO_sub ?_
  refine WO_assign ?_
  refine WO_nil ?_
  refine W_seq ?_
  refine W_seq ?_
  refine W_region ?_
  refine WO_move ?_
  refine WO_lss ?_
  refine WO_nil ?_
  refine W_ite hm (fun hq hm => ?_) (fun hq hm => ?_)
  · refine W_seq ?_
    refine W_region ?_
    refine WO_assign ?_
    refine WO_nil ?_
    cases hm
    exact W_ret (finD1 [] (retTmp (t := 4) retNil) (.same _) (Kp.fin aKp))
  · refine W_skip ?_
    refine W_seq ?_
    refine W_seq ?_
    refine W_region ?_
    refine WO_assign ?_
    refine WO_nil ?_
    refine W_bnd 0 hvac (fun hb1 => ?_)
    rw [List.length_map] at hb1
    refine W_block ?_
    refine W_loopM (α := Nat × Int) [1, 4, 5, 12, 13, 14, 15, 16, 17, 18, 19, 20, 21, 22, 23, 24, 25] (fun a => [(5, I (a.1 : Nat)), (1, I a.2)]) (fun a nx' h' => 0 ≤ nx' ∧ Kp p [] h h' ∧ a.1 ≤ a0.length ∧ m_laws_szNodeS_l0 (a0.drop a.1) a.2 = R) (fun a => a0.length - a.1) (0, (w64 (a1 - (a0.length : Int)))) ⟨rfl, rfl, trivial⟩ ⟨aOm, aKp, Nat.zero_le _, hm⟩ (fun a e1 nx3 h1 hI => ?_)
    obtain ⟨i1, s4⟩ := a
    obtain ⟨hn1, hk1, hi1, hm⟩ := hI
    refine W_seq ?_
    refine W_seq ?_
    refine W_region ?_
    refine WO_move ?_
    refine WO_move ?_
    refine D_len sl_S_laws_Node (e := eGNode) (xs := a0) ?_
    refine WO_lss ?_
    refine WO_nil ?_
    refine W_cond (fun hq => ?_) (fun hq => ?_)
    · have hlt1 : (i1 : Int) < (a0.length : Int) := dec_lt hq
      obtain ⟨x3, hx1, hd1⟩ := lt_get (xs := a0) (i := i1) (by omega)
      rw [hd1, m_laws_szNodeS_l0] at hm
      replace hx1 := getI_nat hx1
      refine W_skip ?_
      refine W_seq ?_
      refine W_block ?_
      refine W_seq ?_
      refine W_region ?_
      refine WO_move ?_
      refine WO_move ?_
      refine D_index el_S_laws_Node sz_laws_Node hx1 ?_
      refine WO_loadI sz_laws_Node ag_laws_Node ?_
      refine WO_move ?_
      refine WO_callN (run_laws_szNode (a0 := x3) (a1 := s4)) ?_
      refine WO_assign ?_
      refine WO_nil ?_
      refine W_seq ?_
      refine W_region ?_
      refine WO_move ?_
      refine WO_lss ?_
      refine WO_nil ?_
      refine W_ite hm (fun hq hm => ?_) (fun hq hm => ?_)
      · refine W_seq ?_
        refine W_region ?_
        refine WO_assign ?_
        refine WO_nil ?_
        cases hm
        exact W_ret (finD1 [] (retTmp (t := 4) retNil) (.same _) (Kp.fin aKp))
      · refine W_skip ?_
        refine W_region ?_
        refine WO_move ?_
        refine WO_succ ?_
        refine WO_assign ?_
        refine WO_nil ?_
        exact round ((i1 + 1), (m_laws_szNode x3 s4)) ⟨rfl, rfl, trivial⟩ ⟨aOm, aKp, aOm, hm⟩ aOm
    · have hge1 : (a0.length : Int) ≤ (i1 : Int) := dec_ge hq
      rw [drop_len (by omega), m_laws_szNodeS_l0] at hm
      refine W_exit ?_
      refine W_seq ?_
      refine W_region ?_
      refine WO_move ?_
      refine WO_assign ?_
      refine WO_nil ?_
      cases hm
      exact W_ret (finD1 [] (retTmp (t := 4) retNil) (.same _) (Kp.fin aKp))

noncomputable def m_laws_szInstr (a0 : GInstr) (a1 : Int) : Int :=
  if (decide ((w64 (a1 - (a0.Op.size : Int))) < 0)) then
    (-1)
  else
    (w64 (a1 - (a0.Op.size : Int)))

theorem run_laws_szInstr {a0 : GInstr} {a1 : Int} : Gives PG F_laws_szInstr [eGInstr a0, I a1] (I (m_laws_szInstr a0 a1)) := by
  intro p h
  generalize hm : m_laws_szInstr a0 a1 = R
  unfold m_laws_szInstr at hm
  refine fn_dec fn_laws_szInstr ?_
  refine W_seq ?_
  refine W_region ?_
  refine WO_box sz_laws_Instr ?_
  refine WO_assign ?_
  refine WO_nil ?_
  refine W_seq ?_
  refine W_region ?_
  refine WO_move ?_
  refine WO_fieldP fa_laws_Instr_0 ?_
  refine WO_load1 sz_string ag_string ?_
  refine WO_lenS st_string ?_
  refine WO_sub ?_
  refine WO_assign ?_
  refine WO_nil ?_
  refine W_seq ?_
  refine W_seq ?_
  refine W_region ?_
  refine WO_move ?_
  refine WO_lss ?_
  refine WO_nil ?_
  refine W_ite hm (fun hq hm => ?_) (fun hq hm => ?_)
  · refine W_seq ?_
    refine W_region ?_
    refine WO_assign ?_
    refine WO_nil ?_
    cases hm
    exact W_ret (finD1 [] (retTmp (t := 4) retNil) (.same _) (Kp.fin aKp))
  · refine W_skip ?_
    refine W_seq ?_
    refine W_region ?_
    refine WO_move ?_
    refine WO_assign ?_
    refine WO_nil ?_
    cases hm
    exact W_ret (finD1 [] (retTmp (t := 4) retNil) (.same _) (Kp.fin aKp))

noncomputable def m_laws_szInstrS_l0 : List GInstr → Int → Int
  | [], s4 =>
    s4
  | x3 :: zs, s4 =>
    if (decide ((m_laws_szInstr x3 s4) < 0)) then
      (-1)
    else
      m_laws_szInstrS_l0 zs (m_laws_szInstr x3 s4)

noncomputable def m_laws_szInstrS (a0 : List GInstr) (a1 : Int) : Int :=
  if (decide ((w64 (a1 - (a0.length : Int))) < 0)) then
    (-1)
  else
    m_laws_szInstrS_l0 a0 (w64 (a1 - (a0.length : Int)))

theorem run_laws_szInstrS {a0 : List GInstr} {b0 : Bool} {a1 : Int} : Gives PG F_laws_szInstrS [PV.sl b0 (a0.map eGInstr), I a1] (I (m_laws_szInstrS a0 a1)) := by
  intro p h
  generalize hm : m_laws_szInstrS a0 a1 = R
  have hvac : ∀ k, ∃ s : St, k ≤ s.nx ∧ Fin PG Try.f17 27 p h (I R) .ret s := fun k => ⟨⟨fun i => if i = 4 then I R else default, k, h⟩, Nat.le_refl _, finD1 [] (retTmp (t := 4) retNil) (.same _) (fun _ => .inl rfl)⟩
  unfold m_laws_szInstrS at hm
  refine fn_dec fn_laws_szInstrS ?_
  refine W_seq ?_
  refine W_region ?_
  refine WO_assign ?_
  refine WO_nil ?_
  refine W_seq ?_
  refine W_region ?_
  refine WO_move ?_
  refine WO_move ?_
  refine D_len sl_S_laws_Instr (e := eGInstr) (xs := a0) ?_
  refine WO_sub ?_
  refine WO_assign ?_
  refine WO_nil ?_
  refine W_seq ?_
  refine W_seq ?_
  refine W_region ?_
  refine WO_move ?_
  refine WO_lss ?_
  refine WO_nil ?_
  refine W_ite hm (fun hq hm => ?_) (fun hq hm => ?_)
  · refine W_seq ?_
    refine W_region ?_
    refine WO_assign ?_
    refine WO_nil ?_
    cases hm
    exact W_ret (finD1 [] (retTmp (t := 4) retNil) (.same _) (Kp.fin aKp))
  · refine W_skip ?_
    refine W_seq ?_
    refine W_seq ?_
    refine W_region ?_
    refine WO_assign ?_
    refine WO_nil ?_
    refine W_bnd 0 hvac (fun hb1 => ?_)
    rw [List.length_map] at hb1
    refine W_block ?_
    refine W_loopM (α := Nat × Int) [1, 4, 5, 12, 13, 14, 15, 16, 17, 18, 19, 20, 21, 22, 23, 24, 25] (fun a => [(5, I (a.1 : Nat)), (1, I a.2)]) (fun a nx' h' => 0 ≤ nx' ∧ Kp p [] h h' ∧ a.1 ≤ a0.length ∧ m_laws_szInstrS_l0 (a0.drop a.1) a.2 = R) (fun a => a0.length - a.1) (0, (w64 (a1 - (a0.length : Int)))) ⟨rfl, rfl, trivial⟩ ⟨aOm, aKp, Nat.zero_le _, hm⟩ (fun a e1 nx3 h1 hI => ?_)
    obtain ⟨i1, s4⟩ := a
    obtain ⟨hn1, hk1, hi1, hm⟩ := hI
    refine W_seq ?_
    refine W_seq ?_
    refine W_region ?_
    refine WO_move ?_
    refine WO_move ?_
    refine D_len sl_S_laws_Instr (e := eGInstr) (xs := a0) ?_
    refine WO_lss ?_
    refine WO_nil ?_
    refine W_cond (fun hq => ?_) (fun hq => ?_)
    · have hlt1 : (i1 : Int) < (a0.length : Int) := dec_lt hq
      obtain ⟨x3, hx1, hd1⟩ := lt_get (xs := a0) (i := i1) (by omega)
      rw [hd1, m_laws_szInstrS_l0] at hm
      replace hx1 := getI_nat hx1
      refine W_skip ?_
      refine W_seq ?_
      refine W_block ?_
      refine W_seq ?_
      refine W_region ?_
      refine WO_move ?_
      refine WO_move ?_
      refine D_index el_S_laws_Instr sz_laws_Instr hx1 ?_
      refine WO_loadI sz_laws_Instr ag_laws_Instr ?_
      refine WO_move ?_
      refine WO_callN (run_laws_szInstr (a0 := x3) (a1 := s4)) ?_
      refine WO_assign ?_
      refine WO_nil ?_
      refine W_seq ?_
      refine W_region ?_
      refine WO_move ?_
      refine WO_lss ?_
      refine WO_nil ?_
      refine W_ite hm (fun hq hm => ?_) (fun hq hm => ?_)
      · refine W_seq ?_
        refine W_region ?_
        refine WO_assign ?_
        refine WO_nil ?_
        cases hm
        exact W_ret (finD1 [] (retTmp (t := 4) retNil) (.same _) (Kp.fin aKp))
      · refine W_skip ?_
        refine W_region ?_
        refine WO_move ?_
        refine WO_succ ?_
        refine WO_assign ?_
        refine WO_nil ?_
        exact round ((i1 + 1), (m_laws_szInstr x3 s4)) ⟨rfl, rfl, trivial⟩ ⟨aOm, aKp, aOm, hm⟩ aOm
    · have hge1 : (a0.length : Int) ≤ (i1 : Int) := dec_ge hq
      rw [drop_len (by omega), m_laws_szInstrS_l0] at hm
      refine W_exit ?_
      refine W_seq ?_
      refine W_region ?_
      refine WO_move ?_
      refine WO_assign ?_
      refine WO_nil ?_
      cases hm
      exact W_ret (finD1 [] (retTmp (t := 4) retNil) (.same _) (Kp.fin aKp))

noncomputable def m_laws_toNode (a0 : GNode) : GNode :=
  { { { { (⟨ByteArray.empty, 0, 0, 0⟩ : GNode) with Op := a0.Op } with A := a0.A } with B := a0.B } with Value := a0.Value }

theorem run_laws_toNode {a0 : GNode} : Gives PG F_laws_toNode [eGNode a0] (eGNode (m_laws_toNode a0)) := by
  intro p h
  generalize hm : m_laws_toNode a0 = R
  unfold m_laws_toNode at hm
  refine fn_dec fn_laws_toNode ?_
  refine W_seq ?_
  refine W_region ?_
  refine WO_box sz_laws_Node ?_
  refine WO_alloc sz_impl_Node zo_impl_Node ?_
  refine WO_nil ?_
  refine W_seq ?_
  refine W_region ?_
  refine WO_alloc sz_impl_Node zo_impl_Node ?_
  refine WO_nil ?_
  refine W_seq ?_
  refine W_region ?_
  refine WO_fieldP fa_laws_Node_0 ?_
  refine WO_load1 sz_string ag_string ?_
  refine WO_fieldP fa_impl_Node_0 ?_
  refine WO_store sz_string ?_
  refine WO_nil ?_
  refine W_seq ?_
  refine W_region ?_
  refine WO_fieldP fa_laws_Node_1 ?_
  refine WO_load1 sz_int ag_int ?_
  refine WO_fieldP fa_impl_Node_1 ?_
  refine WO_store sz_int ?_
  refine WO_nil ?_
  refine W_seq ?_
  refine W_region ?_
  refine WO_fieldP fa_laws_Node_2 ?_
  refine WO_load1 sz_int ag_int ?_
  refine WO_fieldP fa_impl_Node_2 ?_
  refine WO_store sz_int ?_
  refine WO_nil ?_
  refine W_seq ?_
  refine W_region ?_
  refine WO_fieldP fa_laws_Node_3 ?_
  refine WO_load1 sz_int ag_int ?_
  refine WO_fieldP fa_impl_Node_3 ?_
  refine WO_store sz_int ?_
  refine WO_nil ?_
  refine W_seq ?_
  refine W_region ?_
  refine WO_loadS sz_impl_Node ag_impl_Node ?_
  refine WO_store sz_impl_Node ?_
  refine WO_nil ?_
  cases hm
  exact W_ret (finD1 [] (retCell (a := 2) sz_impl_Node ag_impl_Node retNil) (.same _) (Kp.fin aKp))

end Go.Proofs.Ytpfdeoapnpcbaaa
