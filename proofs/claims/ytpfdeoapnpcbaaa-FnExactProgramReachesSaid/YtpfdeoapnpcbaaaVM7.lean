/-
  What is proved here: what functions of the program give, as functions over lists and numbers.
  Conditions: none.
-/
import Derived.Test.YtpfdeoapnpcbaaaVM6
set_option linter.unusedSectionVars false
namespace Go.Proofs.Ytpfdeoapnpcbaaa
open Go.Vs
set_option linter.unusedVariables false
set_option linter.unusedSimpArgs false
set_option maxHeartbeats 4000000
set_option maxRecDepth 4000
attribute [local irreducible] upd del

noncomputable def m_spec_seDifference_l1 (i3 : Int) (a1 : List GInstr) (a2 : Int) (a0 : List GNode) : List Int → Option (Unit ⊕ (Int × Int × Bool))
  | [] =>
    some (.inl ())
  | i4 :: zs =>
    (m_spec_cdStart i3 i4).bind fun x33 =>
    (m_spec_cdRun a1 x33).bind fun x34 =>
    (getI x34 a2).bind fun x35 =>
    (m_spec_exAt a0 i3 i4).bind fun x36 =>
    if (x35 != x36) then
      some (.inr (i3, i4, true))
    else
      m_spec_seDifference_l1 i3 a1 a2 a0 zs

noncomputable def m_spec_seDifference_l0 (a1 : List GInstr) (a2 : Int) (a0 : List GNode) : List Int → Option (Int × Int × Bool)
  | [] =>
    some (0, 0, false)
  | i3 :: zs =>
    (m_spec_seDifference_l1 i3 a1 a2 a0 (rng 0 64)).bind fun X3 =>
    match X3 with
      | .inl X3 =>
      m_spec_seDifference_l0 a1 a2 a0 zs
      | .inr r => some r

noncomputable def m_spec_seDifference (a0 : List GNode) (a1 : List GInstr) (a2 : Int) : Option (Int × Int × Bool) :=
  m_spec_seDifference_l0 a1 a2 a0 (rng 0 64)

theorem run_spec_seDifference {a0 : List GNode} {b0 : Bool} {a1 : List GInstr} {b1 : Bool} {a2 : Int} {R : Int × Int × Bool} (hm : m_spec_seDifference a0 a1 a2 = some R) : Gives PG F_spec_seDifference [PV.sl b0 (a0.map eGNode), PV.sl b1 (a1.map eGInstr), I a2] (.tup [I R.1, I R.2.1, B R.2.2]) := by
  intro p h
  unfold m_spec_seDifference at hm
  refine fn_dec fn_spec_seDifference ?_
  refine W_seq ?_
  refine W_region ?_
  refine WO_assign ?_
  refine WO_assign ?_
  refine WO_assign ?_
  refine WO_nil ?_
  refine W_seq ?_
  refine W_seq ?_
  refine W_region ?_
  refine WO_assign ?_
  refine WO_nil ?_
  refine W_block ?_
  refine W_loopM (α := Int) (List.range' 6 28) (fun a => [(9, I a)]) (fun a nx' h' => 0 ≤ nx' ∧ Kp p [] h h' ∧ 0 ≤ a ∧ m_spec_seDifference_l0 a1 a2 a0 (rng a 64) = some R) (fun a => (64 - a).toNat) 0 ⟨rfl, trivial⟩ ⟨aOm, aKp, Int.le_refl _, hm⟩ (fun i3 e3 nx9 h3 hI => ?_)
  obtain ⟨hn3, hk3, hi3, hm⟩ := hI
  refine W_seq ?_
  refine W_seq ?_
  refine W_region ?_
  refine WO_move ?_
  refine WO_leq ?_
  refine WO_nil ?_
  refine W_cond (fun hq => ?_) (fun hq => ?_)
  · have hlt3 : i3 ≤ 63 := dec_le hq
    rw [rng_cons (by omega), m_spec_seDifference_l0] at hm
    refine W_skip ?_
    refine W_seq ?_
    refine W_block ?_
    refine W_seq ?_
    refine W_region ?_
    refine WO_assign ?_
    refine WO_nil ?_
    obtain ⟨X3, hE3, hm⟩ := ob hm
    refine W_block ?_
    refine W_loopM (α := Int) [6, 7, 8, 10, 15, 16, 17, 18, 19, 20, 21, 22, 23, 24, 25, 26, 27, 28, 29, 30, 31, 32, 33] (fun a => [(10, I a)]) (fun a nx' h' => nx9 ≤ nx' ∧ Kp p [] h h' ∧ 0 ≤ a ∧ m_spec_seDifference_l1 i3 a1 a2 a0 (rng a 64) = some X3) (fun a => (64 - a).toNat) 0 ⟨rfl, trivial⟩ ⟨aOm, aKp, Int.le_refl _, hE3⟩ (fun i4 e4 nx12 h4 hI => ?_)
    obtain ⟨hn4, hk4, hi4, hE3⟩ := hI
    refine W_seq ?_
    refine W_seq ?_
    refine W_region ?_
    refine WO_move ?_
    refine WO_leq ?_
    refine WO_nil ?_
    refine W_cond (fun hq => ?_) (fun hq => ?_)
    · have hlt4 : i4 ≤ 63 := dec_le hq
      rw [rng_cons (by omega), m_spec_seDifference_l1] at hE3
      refine W_skip ?_
      refine W_seq ?_
      refine W_block ?_
      refine W_seq ?_
      refine W_regionD [0, 0, 0, 0, 0, 0, 0, 0, 0, 0, 0, 0, 0] mixed (by kernel_rfl) ?_
      refine WO_move ?_
      refine WO_move ?_
      refine WO_move ?_
      obtain ⟨x33, g33, hE3⟩ := ob hE3
      refine WO_callN (run_spec_cdStart g33) ?_
      obtain ⟨x34, g34, hE3⟩ := ob hE3
      refine WO_callN (run_spec_cdRun g34) ?_
      refine WO_move ?_
      obtain ⟨x35, g35, hE3⟩ := ob hE3
      refine D_index el_S_int sz_int g35 ?_
      refine WO_loadI1 sz_int ag_int ?_
      refine WO_move ?_
      refine WO_move ?_
      refine WO_move ?_
      obtain ⟨x36, g36, hE3⟩ := ob hE3
      refine WO_callN (run_spec_exAt g36) ?_
      refine WO_neq ?_
      refine WO_nil ⟨rfl, ?_⟩
      refine W_ite hE3 (fun hq hE3 => ?_) (fun hq hE3 => ?_)
      · refine W_seq ?_
        refine W_region ?_
        refine WO_move ?_
        refine WO_move ?_
        refine WO_assign ?_
        refine WO_assign ?_
        refine WO_assign ?_
        refine WO_nil ?_
        cases hE3
        dsimp only at hm
        cases hm
        exact W_ret (finD [] (retTmp (t := 6) (retTmp (t := 7) (retTmp (t := 8) retNil))) (.cons _ _ _ _ (.same _) (.cons _ _ _ _ (.same _) (.cons _ _ _ _ (.same _) .nil))) (Kp.fin aKp))
      · refine W_skip ?_
        refine W_region ?_
        refine WO_move ?_
        refine WO_addI ?_
        refine WO_assign ?_
        refine WO_nil ?_
        exact round (i4 + 1) ⟨rfl, trivial⟩ ⟨aOm, aKp, aOm, hE3⟩ aOm
    · have hge3 : 63 < (i4 : Int) := dec_gt hq
      rw [rng_nil (by omega), m_spec_seDifference_l1] at hE3
      refine W_exit ?_
      cases hE3
      try dsimp only at hm
      refine W_region ?_
      refine WO_move ?_
      refine WO_addI ?_
      refine WO_assign ?_
      refine WO_nil ?_
      exact round (i3 + 1) ⟨rfl, trivial⟩ ⟨aOm, aKp, aOm, hm⟩ aOm
  · have hge4 : 63 < (i3 : Int) := dec_gt hq
    rw [rng_nil (by omega), m_spec_seDifference_l0] at hm
    refine W_exit ?_
    refine W_seq ?_
    refine W_region ?_
    refine WO_assign ?_
    refine WO_assign ?_
    refine WO_assign ?_
    refine WO_nil ?_
    cases hm
    exact W_ret (finD [] (retTmp (t := 6) (retTmp (t := 7) (retTmp (t := 8) retNil))) (.cons _ _ _ _ (.same _) (.cons _ _ _ _ (.same _) (.cons _ _ _ _ (.same _) .nil))) (Kp.fin aKp))

noncomputable def m_spec_suReaches_l0 (a0 : List GNode) (a1 : List GInstr) : List (List Int) → Option Bool
  | [] =>
    (m_spec_seDifference a0 a1 (m_spec_suLast a1)).bind fun x28 =>
    some (!x28.2.2)
  | x19 :: zs =>
    (getI x19 0).bind fun x20 =>
    (getI x19 1).bind fun x21 =>
    (m_spec_cdStart x20 x21).bind fun x22 =>
    (m_spec_cdRun a1 x22).bind fun x23 =>
    (getI x23 (m_spec_suLast a1)).bind fun x24 =>
    (getI x19 0).bind fun x25 =>
    (getI x19 1).bind fun x26 =>
    (m_spec_exAt a0 x25 x26).bind fun x27 =>
    if (x24 != x27) then
      some false
    else
      m_spec_suReaches_l0 a0 a1 zs

noncomputable def m_spec_suReaches (a0 : List GNode) (a1 : List GInstr) : Option Bool :=
  m_spec_suReaches_l0 a0 a1 ([([37, 22] : List Int), ([5, 63] : List Int), ([62, 3] : List Int), ([1, 1] : List Int)] : List (List Int))

theorem run_spec_suReaches {a0 : List GNode} {b0 : Bool} {a1 : List GInstr} {b1 : Bool} {R : Bool} (hm : m_spec_suReaches a0 a1 = some R) : Gives PG F_spec_suReaches [PV.sl b0 (a0.map eGNode), PV.sl b1 (a1.map eGInstr)] (B R) := by
  intro p h
  unfold m_spec_suReaches at hm
  refine fn_dec fn_spec_suReaches ?_
  refine W_seq ?_
  refine W_region ?_
  refine WO_assign ?_
  refine WO_nil ?_
  refine W_seq ?_
  refine W_region ?_
  refine WO_move ?_
  refine WO_callN (run_spec_suLast (a0 := a1)) ?_
  refine WO_assign ?_
  refine WO_nil ?_
  refine W_seq ?_
  refine W_seq ?_
  refine W_region ?_
  refine WO_buildSlice el_S_int sz_int zo_int ?_
  refine WO_buildSlice el_S_int sz_int zo_int ?_
  refine WO_buildSlice el_S_int sz_int zo_int ?_
  refine WO_buildSlice el_S_int sz_int zo_int ?_
  refine D_build (e := (eL I)) ([([37, 22] : List Int), ([5, 63] : List Int), ([62, 3] : List Int), ([1, 1] : List Int)] : List (List Int)) el_S_S_int sz_S_int zo_S_int ?_
  refine D_len sl_S_S_int (e := (eL I)) (xs := ([([37, 22] : List Int), ([5, 63] : List Int), ([62, 3] : List Int), ([1, 1] : List Int)] : List (List Int))) ?_
  refine WO_move ?_
  refine WO_nil ?_
  have hb1 : ([([37, 22] : List Int), ([5, 63] : List Int), ([62, 3] : List Int), ([1, 1] : List Int)] : List (List Int)).length ≤ 9223372036854775807 := Nat.le_of_ble_eq_true rfl
  refine W_block ?_
  refine W_loopM (α := Nat) ([4] ++ [7] ++ List.range' 19 26) (fun a => [(19, I (a : Nat))]) (fun a nx' h' => 1 ≤ nx' ∧ Kp p [] h h' ∧ a ≤ ([([37, 22] : List Int), ([5, 63] : List Int), ([62, 3] : List Int), ([1, 1] : List Int)] : List (List Int)).length ∧ m_spec_suReaches_l0 a0 a1 (([([37, 22] : List Int), ([5, 63] : List Int), ([62, 3] : List Int), ([1, 1] : List Int)] : List (List Int)).drop a) = some R) (fun a => ([([37, 22] : List Int), ([5, 63] : List Int), ([62, 3] : List Int), ([1, 1] : List Int)] : List (List Int)).length - a) 0 ⟨rfl, trivial⟩ ⟨aOm, aKp, Nat.zero_le _, hm⟩ (fun i1 e1 nx3 h1 hI => ?_)
  obtain ⟨hn1, hk1, hi1, hm⟩ := hI
  refine W_seq ?_
  refine W_region ?_
  refine WO_lss ?_
  refine WO_nil ?_
  refine W_seq ?_
  refine W_cond (fun hq => ?_) (fun hq => ?_)
  · have hlt1 : (i1 : Int) < (([([37, 22] : List Int), ([5, 63] : List Int), ([62, 3] : List Int), ([1, 1] : List Int)] : List (List Int)).length : Int) := dec_lt hq
    obtain ⟨x19, hx1, hd1⟩ := lt_get (xs := ([([37, 22] : List Int), ([5, 63] : List Int), ([62, 3] : List Int), ([1, 1] : List Int)] : List (List Int))) (i := i1) (by omega)
    rw [hd1, m_spec_suReaches_l0] at hm
    replace hx1 := getI_nat hx1
    refine W_skip ?_
    refine W_seq ?_
    refine W_block ?_
    refine W_seq ?_
    refine W_region ?_
    refine D_index el_S_S_int sz_S_int hx1 ?_
    refine WO_loadI1 sz_S_int ag_S_int ?_
    refine WO_assign ?_
    refine WO_nil ?_
    refine W_seq ?_
    refine W_regionD [0, 0, 0, 0, 0, 0, 0, 0, 0, 0, 0, 0, 0, 0, 0, 0, 0, 0, 0, 0, 0] mixed (by kernel_rfl) ?_
    refine WO_move ?_
    refine WO_move ?_
    obtain ⟨x20, g19, hm⟩ := ob hm
    refine D_index el_S_int sz_int g19 ?_
    refine WO_loadI1 sz_int ag_int ?_
    refine WO_move ?_
    obtain ⟨x21, g20, hm⟩ := ob hm
    refine D_index el_S_int sz_int g20 ?_
    refine WO_loadI1 sz_int ag_int ?_
    obtain ⟨x22, g21, hm⟩ := ob hm
    refine WO_callN (run_spec_cdStart g21) ?_
    obtain ⟨x23, g22, hm⟩ := ob hm
    refine WO_callN (run_spec_cdRun g22) ?_
    refine WO_move ?_
    obtain ⟨x24, g23, hm⟩ := ob hm
    refine D_index el_S_int sz_int g23 ?_
    refine WO_loadI1 sz_int ag_int ?_
    refine WO_move ?_
    refine WO_move ?_
    obtain ⟨x25, g24, hm⟩ := ob hm
    refine D_index el_S_int sz_int g24 ?_
    refine WO_loadI1 sz_int ag_int ?_
    refine WO_move ?_
    obtain ⟨x26, g25, hm⟩ := ob hm
    refine D_index el_S_int sz_int g25 ?_
    refine WO_loadI1 sz_int ag_int ?_
    obtain ⟨x27, g26, hm⟩ := ob hm
    refine WO_callN (run_spec_exAt g26) ?_
    refine WO_neq ?_
    refine WO_nil ⟨rfl, ?_⟩
    refine W_ite hm (fun hq hm => ?_) (fun hq hm => ?_)
    · refine W_seq ?_
      refine W_region ?_
      refine WO_assign ?_
      refine WO_nil ?_
      cases hm
      exact W_ret (finD1 [] (retTmp (t := 4) retNil) (.same _) (Kp.fin aKp))
    · refine W_skip ?_
      refine W_region ?_
      refine WO_succ ?_
      refine WO_move ?_
      refine WO_nil ?_
      exact round (i1 + 1) ⟨rfl, trivial⟩ ⟨aOm, aKp, aOm, hm⟩ aOm
  · have hge1 : (([([37, 22] : List Int), ([5, 63] : List Int), ([62, 3] : List Int), ([1, 1] : List Int)] : List (List Int)).length : Int) ≤ (i1 : Int) := dec_ge hq
    rw [drop_len (by omega), m_spec_suReaches_l0] at hm
    refine W_exit ?_
    refine W_seq ?_
    refine W_region ?_
    refine WO_move ?_
    refine WO_move ?_
    refine WO_move ?_
    obtain ⟨x28, g27, hm⟩ := ob hm
    refine WO_callN (run_spec_seDifference g27) ?_
    refine WO_move ?_
    refine WO_extract ?_
    refine WO_extract ?_
    refine WO_extract ?_
    refine WO_assign ?_
    refine WO_assign ?_
    refine WO_assign ?_
    refine WO_nil ?_
    refine W_seq ?_
    refine W_region ?_
    refine WO_move ?_
    refine WO_not ?_
    refine WO_assign ?_
    refine WO_nil ?_
    cases hm
    exact W_ret (finD1 [] (retTmp (t := 4) retNil) (.same _) (Kp.fin aKp))

noncomputable def m_spec_ProgramReaches (a0 : List GNode) (a1 : GChoice) (a2 : List GInstr) : Option (Bool × Bool) :=
  ((m_spec_exGood a0).bind fun x5 =>
    (if (!x5) then some true else (m_spec_suGood a1).bind fun x6 =>
    (if (!x6) then some true else (m_spec_suIs a1 a2).bind fun x7 =>
    some (!x7)))).bind fun X1 =>
  if X1 then
    some (false, false)
  else
    (m_spec_suReaches a0 a2).bind fun x8 =>
    some (x8, true)

theorem run_spec_ProgramReaches {a0 : List GNode} {b0 : Bool} {a1 : GChoice} {a2 : List GInstr} {b2 : Bool} {R : Bool × Bool} (hm : m_spec_ProgramReaches a0 a1 a2 = some R) : Gives PG F_spec_ProgramReaches [PV.sl b0 (a0.map eGNode), eGChoice a1, PV.sl b2 (a2.map eGInstr)] (.tup [B R.1, B R.2]) := by
  intro p h
  unfold m_spec_ProgramReaches at hm
  refine fn_dec fn_spec_ProgramReaches ?_
  refine W_seq ?_
  refine W_region ?_
  refine WO_box sz_impl_Choice ?_
  refine WO_assign ?_
  refine WO_assign ?_
  refine WO_nil ?_
  refine W_seq ?_
  refine W_seq ?_
  obtain ⟨X1, hE1, hm⟩ := ob hm
  refine W_joinH (γ := Unit) [8, 9, 10, 11, 12, 13, 14, 15, 16, 17, 18, 19, 20, 21] (fun b => [(21, B X1)]) ?_ ?_
  · refine W_region ?_
    refine WO_move ?_
    obtain ⟨x5, g4, hE1⟩ := ob hE1
    refine WO_callN (run_spec_exGood g4) ?_
    refine WO_not ?_
    refine WO_move ?_
    refine WO_ite 11 hE1 (fun hq hE1 => ?_) (fun hq hE1 => ?_)
    · refine WO_skip ?_
      refine WO_skip ?_
      refine WO_skip ?_
      refine WO_pick ?_
      refine WO_move ?_
      refine WO_skip ?_
      refine WO_skip ?_
      refine WO_skip ?_
      refine WO_skip ?_
      refine WO_pick ?_
      refine WO_nil ?_
      cases hE1
      exact metH () ⟨rfl, trivial⟩ aOm
    · refine WO_loadS sz_impl_Choice ag_impl_Choice ?_
      obtain ⟨x6, g5, hE1⟩ := ob hE1
      refine WO_callN (run_spec_suGood g5) ?_
      refine WO_not ?_
      refine WO_pick ?_
      refine WO_move ?_
      refine WO_ite 16 hE1 (fun hq hE1 => ?_) (fun hq hE1 => ?_)
      · refine WO_skip ?_
        refine WO_skip ?_
        refine WO_skip ?_
        refine WO_skip ?_
        refine WO_pick ?_
        refine WO_nil ?_
        cases hE1
        exact metH () ⟨rfl, trivial⟩ aOm
      · refine WO_loadS sz_impl_Choice ag_impl_Choice ?_
        refine WO_move ?_
        obtain ⟨x7, g6, hE1⟩ := ob hE1
        refine WO_callN (run_spec_suIs g6) ?_
        refine WO_not ?_
        refine WO_pick ?_
        refine WO_nil ?_
        cases hE1
        exact metH () ⟨rfl, trivial⟩ aOm
  · intro bb1 e1 nx1 hn1
    refine W_ite hm (fun hq hm => ?_) (fun hq hm => ?_)
    · refine W_seq ?_
      refine W_region ?_
      refine WO_assign ?_
      refine WO_assign ?_
      refine WO_nil ?_
      cases hm
      exact W_ret (finD [] (retTmp (t := 6) (retTmp (t := 7) retNil)) (.cons _ _ _ _ (.same _) (.cons _ _ _ _ (.same _) .nil)) (Kp.fin aKp))
    · refine W_skip ?_
      refine W_seq ?_
      refine W_region ?_
      refine WO_move ?_
      refine WO_move ?_
      obtain ⟨x8, g7, hm⟩ := ob hm
      refine WO_callN (run_spec_suReaches g7) ?_
      refine WO_assign ?_
      refine WO_assign ?_
      refine WO_nil ?_
      cases hm
      exact W_ret (finD [] (retTmp (t := 6) (retTmp (t := 7) retNil)) (.cons _ _ _ _ (.same _) (.cons _ _ _ _ (.same _) .nil)) (Kp.fin aKp))

noncomputable def m_impl_operands (a0 : ByteArray) : Int :=
  bd (((decide (a0 = (⟨#[105, 110]⟩ : ByteArray))) || (decide (a0 = (⟨#[99, 111, 110, 115, 116]⟩ : ByteArray))))) fun X1 =>
  if X1 then
    0
  else
    bd (((decide (a0 = (⟨#[110, 111, 116]⟩ : ByteArray))) || (decide (a0 = (⟨#[110, 101, 103]⟩ : ByteArray))))) fun X2 =>
    if X2 then
      1
    else
      if (m_slices_Contains_S_string_string (m_impl_binary) a0) then
        2
      else
        (-1)

theorem run_impl_operands {a0 : ByteArray} : Gives PG F_impl_operands [S a0] (I (m_impl_operands a0)) := by
  intro p h
  generalize hm : m_impl_operands a0 = R
  unfold m_impl_operands at hm
  refine fn_dec fn_impl_operands ?_
  refine W_seq ?_
  refine W_region ?_
  refine WO_assign ?_
  refine WO_nil ?_
  refine W_seq ?_
  refine W_block ?_
  refine W_seq ?_
  obtain ⟨X1, hE1, hm⟩ := obd hm
  refine W_joinH (γ := Unit) [3, 4, 5, 6, 7, 8, 9] (fun b => [(3, B X1)]) ?_ ?_
  · refine W_region ?_
    refine WO_move ?_
    refine WO_eqlS ?_
    refine WO_move ?_
    refine WO_ior 6 hE1 (fun hq hE1 => ?_) (fun hq hE1 => ?_)
    · refine WO_skip ?_
      refine WO_skip ?_
      refine WO_pick ?_
      refine WO_assign ?_
      refine WO_nil ?_
      cases hE1
      exact metH () ⟨rfl, trivial⟩ aOm
    · refine WO_move ?_
      refine WO_eqlS ?_
      refine WO_pick ?_
      refine WO_assign ?_
      refine WO_nil ?_
      cases hE1
      exact metH () ⟨rfl, trivial⟩ aOm
  · intro bb1 e1 nx1 hn1
    refine W_ite hm (fun hq hm => ?_) (fun hq hm => ?_)
    · refine W_seq ?_
      refine W_region ?_
      refine WO_assign ?_
      refine WO_nil ?_
      cases hm
      exact W_ret (finD1 [] (retTmp (t := 2) retNil) (.same _) (Kp.fin aKp))
    · refine W_seq ?_
      obtain ⟨X2, hE2, hm⟩ := obd hm
      refine W_joinH (γ := Unit) [10, 11, 12, 13, 14, 15, 16] (fun b => [(10, B X2)]) ?_ ?_
      · refine W_region ?_
        refine WO_move ?_
        refine WO_eqlS ?_
        refine WO_move ?_
        refine WO_ior 13 hE2 (fun hq hE2 => ?_) (fun hq hE2 => ?_)
        · refine WO_skip ?_
          refine WO_skip ?_
          refine WO_pick ?_
          refine WO_assign ?_
          refine WO_nil ?_
          cases hE2
          exact metH () ⟨rfl, trivial⟩ aOm
        · refine WO_move ?_
          refine WO_eqlS ?_
          refine WO_pick ?_
          refine WO_assign ?_
          refine WO_nil ?_
          cases hE2
          exact metH () ⟨rfl, trivial⟩ aOm
      · intro bb2 e2 nx2 hn2
        refine W_ite hm (fun hq hm => ?_) (fun hq hm => ?_)
        · refine W_seq ?_
          refine W_region ?_
          refine WO_assign ?_
          refine WO_nil ?_
          cases hm
          exact W_ret (finD1 [] (retTmp (t := 2) retNil) (.same _) (Kp.fin aKp))
        · refine W_seq ?_
          refine W_region ?_
          refine WO_callN run_impl_binary ?_
          refine WO_move ?_
          refine WO_callN (run_slices_Contains_S_string_string (a0 := (m_impl_binary)) (a1 := a0)) ?_
          refine WO_assign ?_
          refine WO_nil ?_
          refine W_ite hm (fun hq hm => ?_) (fun hq hm => ?_)
          · refine W_seq ?_
            refine W_region ?_
            refine WO_assign ?_
            refine WO_nil ?_
            cases hm
            exact W_ret (finD1 [] (retTmp (t := 2) retNil) (.same _) (Kp.fin aKp))
          · refine W_skip ?_
            refine W_seq ?_
            refine W_region ?_
            refine WO_assign ?_
            refine WO_nil ?_
            cases hm
            exact W_ret (finD1 [] (retTmp (t := 2) retNil) (.same _) (Kp.fin aKp))

noncomputable def m__impl_Node_isNode_l0 (a0 : GNode) (a1 : Int) : List Int → Int → Bool
  | [], i1 =>
    if (decide (a0.Op = (⟨#[105, 110]⟩ : ByteArray))) then
      (m_impl_within a0.Value 0 1)
    else
      if (decide (a0.Op = (⟨#[99, 111, 110, 115, 116]⟩ : ByteArray))) then
        (m_impl_isWord a0.Value)
      else
        bd (((decide ((m_impl_operands a0.Op) > 0)) && (a0.Value == 0))) fun X4 =>
        X4
  | x5 :: zs, i1 =>
    bd ((if (decide ((i1 : Int) < (m_impl_operands a0.Op))) then ((!(m_impl_within x5 0 (w64 (a1 - 1)))) || ((decide ((i1 : Int) ≥ (m_impl_operands a0.Op))) && (x5 != 0))) else ((decide ((i1 : Int) ≥ (m_impl_operands a0.Op))) && (x5 != 0)))) fun X3 =>
    if X3 then
      false
    else
      m__impl_Node_isNode_l0 a0 a1 zs (i1 + 1)

noncomputable def m__impl_Node_isNode (a0 : GNode) (a1 : Int) : Bool :=
  m__impl_Node_isNode_l0 a0 a1 ([a0.A, a0.B] : List Int) 0

theorem run__impl_Node_isNode {a0 : GNode} {a1 : Int} : Gives PG F__impl_Node_isNode [eGNode a0, I a1] (B (m__impl_Node_isNode a0 a1)) := by
  intro p h
  generalize hm : m__impl_Node_isNode a0 a1 = R
  unfold m__impl_Node_isNode at hm
  refine fn_dec fn__impl_Node_isNode ?_
  refine W_seq ?_
  refine W_region ?_
  refine WO_box sz_impl_Node ?_
  refine WO_assign ?_
  refine WO_nil ?_
  refine W_seq ?_
  refine W_region ?_
  refine WO_fieldP fa_impl_Node_0 ?_
  refine WO_load1 sz_string ag_string ?_
  refine WO_callN (run_impl_operands (a0 := a0.Op)) ?_
  refine WO_assign ?_
  refine WO_nil ?_
  refine W_seq ?_
  refine W_seq ?_
  refine W_region ?_
  refine WO_fieldP fa_impl_Node_1 ?_
  refine WO_load1 sz_int ag_int ?_
  refine WO_fieldP fa_impl_Node_2 ?_
  refine WO_load1 sz_int ag_int ?_
  refine D_build (e := I) ([a0.A, a0.B] : List Int) el_S_int sz_int zo_int ?_
  refine D_len sl_S_int (e := I) (xs := ([a0.A, a0.B] : List Int)) ?_
  refine WO_move ?_
  refine WO_nil ?_
  have hb1 : ([a0.A, a0.B] : List Int).length ≤ 9223372036854775807 := Nat.le_of_ble_eq_true rfl
  refine W_block ?_
  refine W_loopM (α := Nat) ([4] ++ List.range' 6 2 ++ List.range' 17 25) (fun a => [(17, I (a : Nat))]) (fun a nx' h' => 2 ≤ nx' ∧ Kp p [] h h' ∧ a ≤ ([a0.A, a0.B] : List Int).length ∧ (h' (p ++ [0]) = some ⟨0, 4, [eGNode a0]⟩) ∧ m__impl_Node_isNode_l0 a0 a1 (([a0.A, a0.B] : List Int).drop a) (a : Int) = R) (fun a => ([a0.A, a0.B] : List Int).length - a) 0 ⟨rfl, trivial⟩ ⟨aOm, aKp, Nat.zero_le _, aLk, hm⟩ (fun i1 e3 nx5 h1 hI => ?_)
  obtain ⟨hn3, hk1, hi1, hr1, hm⟩ := hI
  refine W_seq ?_
  refine W_region ?_
  refine WO_lss ?_
  refine WO_nil ?_
  refine W_seq ?_
  refine W_cond (fun hq => ?_) (fun hq => ?_)
  · have hlt1 : (i1 : Int) < (([a0.A, a0.B] : List Int).length : Int) := dec_lt hq
    obtain ⟨x5, hx1, hd1⟩ := lt_get (xs := ([a0.A, a0.B] : List Int)) (i := i1) (by omega)
    rw [hd1, m__impl_Node_isNode_l0] at hm
    replace hx1 := getI_nat hx1
    refine W_skip ?_
    refine W_seq ?_
    refine W_block ?_
    refine W_seq ?_
    refine W_region ?_
    refine WO_move ?_
    refine D_index el_S_int sz_int hx1 ?_
    refine WO_loadI1 sz_int ag_int ?_
    refine WO_assign ?_
    refine WO_assign ?_
    refine WO_nil ?_
    refine W_seq ?_
    obtain ⟨X3, hE3, hm⟩ := obd hm
    refine W_joinH (γ := Unit) [22, 23, 24, 25, 26, 27, 28, 29, 30, 31, 32, 33, 34, 35, 36, 37, 38, 39, 40] (fun b => [(40, B X3)]) ?_ ?_
    · refine W_region ?_
      refine WO_move ?_
      refine WO_move ?_
      refine WO_lss ?_
      refine WO_move ?_
      refine WO_ite 25 hE3 (fun hq hE3 => ?_) (fun hq hE3 => ?_)
      · refine WO_move ?_
        refine WO_move ?_
        refine WO_sub ?_
        refine WO_callN (run_impl_within (a0 := x5) (a1 := 0) (a2 := (w64 (a1 - 1)))) ?_
        refine WO_not ?_
        refine WO_pick ?_
        refine WO_move ?_
        refine WO_ior 32 hE3 (fun hq hE3 => ?_) (fun hq hE3 => ?_)
        · refine WO_skip ?_
          refine WO_skip ?_
          refine WO_skip ?_
          refine WO_skip ?_
          refine WO_skip ?_
          refine WO_skip ?_
          refine WO_skip ?_
          refine WO_pick ?_
          refine WO_nil ?_
          cases hE3
          exact metH () ⟨rfl, trivial⟩ aOm
        · refine WO_move ?_
          refine WO_move ?_
          refine WO_geq ?_
          refine WO_move ?_
          refine WO_iand 36 hE3 (fun hq hE3 => ?_) (fun hq hE3 => ?_)
          · refine WO_move ?_
            refine WO_neq ?_
            refine WO_pick ?_
            refine WO_pick ?_
            refine WO_nil ?_
            cases hE3
            exact metH () ⟨rfl, trivial⟩ aOm
          · refine WO_skip ?_
            refine WO_skip ?_
            refine WO_pick ?_
            refine WO_pick ?_
            refine WO_nil ?_
            cases hE3
            exact metH () ⟨rfl, trivial⟩ aOm
      · refine WO_skip ?_
        refine WO_skip ?_
        refine WO_skip ?_
        refine WO_skip ?_
        refine WO_skip ?_
        refine WO_pick ?_
        refine WO_move ?_
        refine WO_move ?_
        refine WO_move ?_
        refine WO_geq ?_
        refine WO_move ?_
        refine WO_iand 36 hE3 (fun hq hE3 => ?_) (fun hq hE3 => ?_)
        · refine WO_move ?_
          refine WO_neq ?_
          refine WO_pick ?_
          refine WO_pick ?_
          refine WO_nil ?_
          cases hE3
          exact metH () ⟨rfl, trivial⟩ aOm
        · refine WO_skip ?_
          refine WO_skip ?_
          refine WO_pick ?_
          refine WO_pick ?_
          refine WO_nil ?_
          cases hE3
          exact metH () ⟨rfl, trivial⟩ aOm
    · intro bb3 e4 nx6 hn4
      refine W_ite hm (fun hq hm => ?_) (fun hq hm => ?_)
      · refine W_seq ?_
        refine W_region ?_
        refine WO_assign ?_
        refine WO_nil ?_
        cases hm
        exact W_ret (finD1 [] (retTmp (t := 4) retNil) (.same _) (Kp.fin aKp))
      · refine W_skip ?_
        refine W_region ?_
        refine WO_succ ?_
        refine WO_move ?_
        refine WO_nil ?_
        exact round (i1 + 1) ⟨rfl, trivial⟩ ⟨aOm, aKp, aOm, aLk, hm⟩ aOm
  · have hge1 : (([a0.A, a0.B] : List Int).length : Int) ≤ (i1 : Int) := dec_ge hq
    rw [drop_len (by omega), m__impl_Node_isNode_l0] at hm
    refine W_exit ?_
    refine W_seq ?_
    refine W_seq ?_
    refine W_region ?_
    refine WO_fieldP fa_impl_Node_0 ?_
    refine WO_load1 sz_string ag_string ?_
    refine WO_nil ?_
    refine W_block ?_
    refine W_seq ?_
    refine W_region ?_
    refine WO_eqlS ?_
    refine WO_assign ?_
    refine WO_nil ?_
    refine W_ite hm (fun hq hm => ?_) (fun hq hm => ?_)
    · refine W_seq ?_
      refine W_region ?_
      refine WO_fieldP fa_impl_Node_3 ?_
      refine WO_load1 sz_int ag_int ?_
      refine WO_callN (run_impl_within (a0 := a0.Value) (a1 := 0) (a2 := 1)) ?_
      refine WO_assign ?_
      refine WO_nil ?_
      cases hm
      exact W_ret (finD1 [] (retTmp (t := 4) retNil) (.same _) (Kp.fin aKp))
    · refine W_seq ?_
      refine W_region ?_
      refine WO_eqlS ?_
      refine WO_assign ?_
      refine WO_nil ?_
      refine W_ite hm (fun hq hm => ?_) (fun hq hm => ?_)
      · refine W_seq ?_
        refine W_region ?_
        refine WO_fieldP fa_impl_Node_3 ?_
        refine WO_load1 sz_int ag_int ?_
        refine WO_callN (run_impl_isWord (a0 := a0.Value)) ?_
        refine WO_assign ?_
        refine WO_nil ?_
        cases hm
        exact W_ret (finD1 [] (retTmp (t := 4) retNil) (.same _) (Kp.fin aKp))
      · refine W_skip ?_
        refine W_seq ?_
        obtain ⟨X4, hE4, hm⟩ := obd hm
        refine W_joinH (γ := Unit) [4, 54, 55, 56, 57, 58, 59, 60] (fun b => [(4, B X4)]) ?_ ?_
        · refine W_region ?_
          refine WO_move ?_
          refine WO_gtr ?_
          refine WO_move ?_
          refine WO_iand 56 hE4 (fun hq hE4 => ?_) (fun hq hE4 => ?_)
          · refine WO_fieldP fa_impl_Node_3 ?_
            refine WO_load1 sz_int ag_int ?_
            refine WO_eql ?_
            refine WO_pick ?_
            refine WO_assign ?_
            refine WO_nil ?_
            cases hE4
            exact metH () ⟨rfl, trivial⟩ aOm
          · refine WO_skip ?_
            refine WO_skip ?_
            refine WO_skip ?_
            refine WO_pick ?_
            refine WO_assign ?_
            refine WO_nil ?_
            cases hE4
            exact metH () ⟨rfl, trivial⟩ aOm
        · intro bb4 e5 nx7 hn5
          cases hm
          exact W_ret (finD1 [] (retTmp (t := 4) retNil) (.same _) (Kp.fin aKp))

noncomputable def m__impl_Node_of (a0 : GNode) : Option (List Int) :=
  (subI ([a0.A, a0.B] : List Int) 0 (if 0 > (m_impl_operands a0.Op) then 0 else (m_impl_operands a0.Op))).bind fun c1 =>
  some c1

theorem run__impl_Node_of {a0 : GNode} {R : (List Int)} (hm : m__impl_Node_of a0 = some R) : Gives PG F__impl_Node_of [eGNode a0] (PV.sl false (R.map I)) := by
  intro p h
  unfold m__impl_Node_of at hm
  refine fn_dec fn__impl_Node_of ?_
  refine W_seq ?_
  refine W_region ?_
  refine WO_box sz_impl_Node ?_
  refine WO_assign ?_
  refine WO_nil ?_
  refine W_seq ?_
  refine W_regionD [1, 1, 1, 1, 0, 1, 1, 0, 0, 0, 0] mixed (by kernel_rfl) ?_
  refine WO_fieldP fa_impl_Node_1 ?_
  refine WO_load1 sz_int ag_int ?_
  refine WO_fieldP fa_impl_Node_2 ?_
  refine WO_load1 sz_int ag_int ?_
  refine WO_buildSlice el_S_int sz_int zo_int ?_
  refine WO_fieldP fa_impl_Node_0 ?_
  refine WO_load1 sz_string ag_string ?_
  refine WO_callN (run_impl_operands (a0 := a0.Op)) ?_
  refine WO_max2 ?_
  obtain ⟨c1, g1, hm⟩ := ob hm
  refine D_slice os_S_int g1 (e := I) (fun b1 => ?_)
  refine WO_assign ?_
  refine WO_nil ⟨rfl, ?_⟩
  cases hm
  exact W_ret (finD1 [] (retTmp (t := 2) retNil) .lo (Kp.fin aKp))

noncomputable def m_impl_uses_l1 : List Int → (List Int) → Option (List Int)
  | [], s16 =>
    some s16
  | x23 :: zs, s16 =>
    (getI s16 x23).bind fun x24 =>
    (setI s16 x23 (w64 (x24 + 1))).bind fun c10 =>
    m_impl_uses_l1 zs c10

noncomputable def m_impl_uses_l0 : List GNode → (List Int) → Option (List Int)
  | [], s12 =>
    some s12
  | x17 :: zs, s12 =>
    (m__impl_Node_of x17).bind fun x18 =>
    (m_impl_uses_l1 x18 s12).bind fun X4 =>
    m_impl_uses_l0 zs X4

noncomputable def m_impl_uses (a0 : List GNode) : Option (List Int) :=
  (makI (a0.length : Int) 0).bind fun c1 =>
  (m_impl_uses_l0 a0 c1).bind fun X3 =>
  some X3

theorem run_impl_uses {a0 : List GNode} {b0 : Bool} {R : (List Int)} (hm : m_impl_uses a0 = some R) : Gives PG F_impl_uses [PV.sl b0 (a0.map eGNode)] (PV.sl false (R.map I)) := by
  intro p h
  have hvac : ∀ k, ∃ s : St, k ≤ s.nx ∧ Fin PG Try.f198 33 p h (PV.sl false (R.map I)) .ret s := fun k => ⟨⟨fun i => if i = 2 then PV.sl false (R.map I) else default, k, h⟩, Nat.le_refl _, finD1 [] (retTmp (t := 2) retNil) (.same _) (fun _ => .inl rfl)⟩
  unfold m_impl_uses at hm
  refine fn_dec fn_impl_uses ?_
  refine W_seq ?_
  refine W_region ?_
  refine WO_assign ?_
  refine WO_nil ?_
  refine W_seq ?_
  refine W_region ?_
  refine WO_move ?_
  refine D_len sl_S_impl_Node (e := eGNode) (xs := a0) ?_
  obtain ⟨c1, g1, hm⟩ := ob hm
  refine D_make el_S_int sz_int zo_int b3_int g1 (e := I) rfl ?_
  have hl1 := makI_len g1
  refine WO_assign ?_
  refine WO_nil ?_
  refine W_seq ?_
  refine W_seq ?_
  refine W_region ?_
  refine WO_move ?_
  refine D_len sl_S_impl_Node (e := eGNode) (xs := a0) ?_
  refine WO_move ?_
  refine WO_nil ?_
  refine W_bnd 11 hvac (fun hb3 => ?_)
  rw [List.length_map] at hb3
  obtain ⟨X3, hE3, hm⟩ := ob hm
  refine W_block ?_
  refine W_loopM (α := Nat × (List Int)) [5, 7, 13, 14, 15, 16, 17, 18, 19, 20, 21, 22, 23, 24, 25, 26, 27, 28, 29, 30, 31] (fun a => [(13, I (a.1 : Nat))]) (fun a nx' h' => 1 ≤ nx' ∧ Kp p [] h h' ∧ a.1 ≤ a0.length ∧ (h' (p ++ [0]) = some ⟨0, 1, a.2.map I⟩) ∧ (a.2.length = c1.length ∧ c1.length ≤ LIM) ∧ m_impl_uses_l0 (a0.drop a.1) a.2 = some X3) (fun a => a0.length - a.1) (0, c1) ⟨rfl, trivial⟩ ⟨aOm, aKp, Nat.zero_le _, aLk, hl1, hE3⟩ (fun a e3 nx9 h3 hI => ?_)
  obtain ⟨i3, s12⟩ := a
  obtain ⟨hn3, hk3, hi3, hr3, hl16, hE3⟩ := hI
  refine W_seq ?_
  refine W_region ?_
  refine WO_lss ?_
  refine WO_nil ?_
  refine W_seq ?_
  refine W_cond (fun hq => ?_) (fun hq => ?_)
  · have hlt3 : (i3 : Int) < (a0.length : Int) := dec_lt hq
    obtain ⟨x17, hx3, hd3⟩ := lt_get (xs := a0) (i := i3) (by omega)
    rw [hd3, m_impl_uses_l0] at hE3
    replace hx3 := getI_nat hx3
    refine W_skip ?_
    refine W_seq ?_
    refine W_block ?_
    refine W_seq ?_
    refine W_region ?_
    refine D_index el_S_impl_Node sz_impl_Node hx3 ?_
    refine WO_loadI sz_impl_Node ag_impl_Node ?_
    refine WO_alloc sz_impl_Node zo_impl_Node ?_
    refine WO_store sz_impl_Node ?_
    refine WO_nil ?_
    refine W_seq ?_
    refine W_region ?_
    refine WO_loadS sz_impl_Node ag_impl_Node ?_
    obtain ⟨x18, g22, hE3⟩ := ob hE3
    refine WO_callN (run__impl_Node_of g22) ?_
    refine D_len sl_S_int (e := I) (xs := x18) ?_
    refine WO_move ?_
    refine WO_nil ?_
    refine W_bnd 18 hvac (fun hb4 => ?_)
    rw [List.length_map] at hb4
    obtain ⟨X4, hE4, hE3⟩ := ob hE3
    refine W_block ?_
    refine W_loopM (α := Nat × (List Int)) [7, 20, 21, 22, 23, 24, 25, 26, 27, 28, 29, 30] (fun a => [(20, I (a.1 : Nat))]) (fun a nx' h' => (nx9 + 2) ≤ nx' ∧ Kp p [] h h' ∧ a.1 ≤ x18.length ∧ (h' (p ++ [0]) = some ⟨0, 1, a.2.map I⟩) ∧ (a.2.length = c1.length ∧ c1.length ≤ LIM) ∧ m_impl_uses_l1 (x18.drop a.1) a.2 = some X4) (fun a => x18.length - a.1) (0, s12) ⟨rfl, trivial⟩ ⟨aOm, aKp, Nat.zero_le _, aLk, hl16, hE4⟩ (fun a e4 nx12 h4 hI => ?_)
    obtain ⟨i4, s16⟩ := a
    obtain ⟨hn4, hk4, hi4, hr4, hl21, hE4⟩ := hI
    refine W_seq ?_
    refine W_region ?_
    refine WO_lss ?_
    refine WO_nil ?_
    refine W_seq ?_
    refine W_cond (fun hq => ?_) (fun hq => ?_)
    · have hlt4 : (i4 : Int) < (x18.length : Int) := dec_lt hq
      obtain ⟨x23, hx4, hd4⟩ := lt_get (xs := x18) (i := i4) (by omega)
      rw [hd4, m_impl_uses_l1] at hE4
      replace hx4 := getI_nat hx4
      refine W_skip ?_
      refine W_seq ?_
      refine W_block ?_
      refine W_seq ?_
      refine W_region ?_
      refine D_index el_S_int sz_int hx4 ?_
      refine WO_loadI1 sz_int ag_int ?_
      refine WO_assign ?_
      refine WO_nil ?_
      refine W_region ?_
      refine WO_move ?_
      refine WO_move ?_
      obtain ⟨x24, g29, hE4⟩ := ob hE4
      refine D_indexR el_S_int sz_int g29 hl21 ?_
      refine D_ld1R sz_int ag_int g29 ?_
      refine WO_add ?_
      obtain ⟨c10, g30, hE4⟩ := ob hE4
      refine D_indexW el_S_int sz_int g30 hl21 ?_
      refine D_st1R sz_int g30 (e := I) ?_
      have hl22 := setI_len g30 hl21
      refine WO_nil ?_
      refine W_region ?_
      refine WO_succ ?_
      refine WO_move ?_
      refine WO_nil ?_
      exact round ((i4 + 1), c10) ⟨rfl, trivial⟩ ⟨aOm, aKp, aOm, aLk, hl22, hE4⟩ aOm
    · have hge3 : (x18.length : Int) ≤ (i4 : Int) := dec_ge hq
      rw [drop_len (by omega), m_impl_uses_l1] at hE4
      refine W_exit ?_
      cases hE4
      try dsimp only at hE3
      refine W_region ?_
      refine WO_succ ?_
      refine WO_move ?_
      refine WO_nil ?_
      exact round ((i3 + 1), s16) ⟨rfl, trivial⟩ ⟨aOm, aKp, aOm, aLk, hl21, hE3⟩ aOm
  · have hge4 : (a0.length : Int) ≤ (i3 : Int) := dec_ge hq
    rw [drop_len (by omega), m_impl_uses_l0] at hE3
    refine W_exit ?_
    cases hE3
    try dsimp only at hm
    refine W_seq ?_
    refine W_region ?_
    refine WO_move ?_
    refine WO_assign ?_
    refine WO_nil ?_
    cases hm
    exact W_ret (finD1 [(p ++ [0])] (retTmp (t := 2) retNil) (FV.rowL hl16) (Kp.fin aKp))

noncomputable def m_impl_IsExpr_l0 (a0 : List GNode) : List GNode → Int → Option Bool
  | [], i1 =>
    (m_impl_uses a0).bind fun x4 =>
    (subI x4 0 (w64 ((a0.length : Int) - 1))).bind fun c1 =>
    some (!(m_slices_Contains_S_int_int c1 0))
  | x3 :: zs, i1 =>
    if (!(m__impl_Node_isNode x3 (i1 : Int))) then
      some false
    else
      m_impl_IsExpr_l0 a0 zs (i1 + 1)

noncomputable def m_impl_IsExpr (a0 : List GNode) : Option Bool :=
  if (!(m_impl_within (a0.length : Int) 1 24)) then
    some false
  else
    m_impl_IsExpr_l0 a0 a0 0

theorem run_impl_IsExpr {a0 : List GNode} {b0 : Bool} {R : Bool} (hm : m_impl_IsExpr a0 = some R) : Gives PG F_impl_IsExpr [PV.sl b0 (a0.map eGNode)] (B R) := by
  intro p h
  have hvac : ∀ k, ∃ s : St, k ≤ s.nx ∧ Fin PG Try.f127 29 p h (B R) .ret s := fun k => ⟨⟨fun i => if i = 2 then B R else default, k, h⟩, Nat.le_refl _, finD1 [] (retTmp (t := 2) retNil) (.same _) (fun _ => .inl rfl)⟩
  unfold m_impl_IsExpr at hm
  refine fn_dec fn_impl_IsExpr ?_
  refine W_seq ?_
  refine W_region ?_
  refine WO_assign ?_
  refine WO_nil ?_
  refine W_seq ?_
  refine W_seq ?_
  refine W_region ?_
  refine WO_move ?_
  refine D_len sl_S_impl_Node (e := eGNode) (xs := a0) ?_
  refine WO_callN (run_impl_within (a0 := (a0.length : Int)) (a1 := 1) (a2 := 24)) ?_
  refine WO_not ?_
  refine WO_nil ?_
  refine W_ite hm (fun hq hm => ?_) (fun hq hm => ?_)
  · refine W_seq ?_
    refine W_region ?_
    refine WO_assign ?_
    refine WO_nil ?_
    cases hm
    exact W_ret (finD1 [] (retTmp (t := 2) retNil) (.same _) (Kp.fin aKp))
  · refine W_skip ?_
    refine W_seq ?_
    refine W_seq ?_
    refine W_region ?_
    refine WO_move ?_
    refine D_len sl_S_impl_Node (e := eGNode) (xs := a0) ?_
    refine WO_move ?_
    refine WO_nil ?_
    refine W_bnd 9 hvac (fun hb1 => ?_)
    rw [List.length_map] at hb1
    refine W_block ?_
    refine W_loopM (α := Nat) [2, 3, 4, 11, 12, 13, 14, 15, 16, 17, 18, 19, 20] (fun a => [(11, I (a : Nat))]) (fun a nx' h' => 1 ≤ nx' ∧ Kp p [] h h' ∧ a ≤ a0.length ∧ m_impl_IsExpr_l0 a0 (a0.drop a) (a : Int) = some R) (fun a => a0.length - a) 0 ⟨rfl, trivial⟩ ⟨aOm, aKp, Nat.zero_le _, hm⟩ (fun i1 e1 nx3 h1 hI => ?_)
    obtain ⟨hn1, hk1, hi1, hm⟩ := hI
    refine W_seq ?_
    refine W_region ?_
    refine WO_lss ?_
    refine WO_nil ?_
    refine W_seq ?_
    refine W_cond (fun hq => ?_) (fun hq => ?_)
    · have hlt1 : (i1 : Int) < (a0.length : Int) := dec_lt hq
      obtain ⟨x3, hx1, hd1⟩ := lt_get (xs := a0) (i := i1) (by omega)
      rw [hd1, m_impl_IsExpr_l0] at hm
      replace hx1 := getI_nat hx1
      refine W_skip ?_
      refine W_seq ?_
      refine W_block ?_
      refine W_seq ?_
      refine W_region ?_
      refine WO_move ?_
      refine D_index el_S_impl_Node sz_impl_Node hx1 ?_
      refine WO_loadI sz_impl_Node ag_impl_Node ?_
      refine WO_alloc sz_impl_Node zo_impl_Node ?_
      refine WO_assign ?_
      refine WO_store sz_impl_Node ?_
      refine WO_nil ?_
      refine W_seq ?_
      refine W_region ?_
      refine WO_loadS sz_impl_Node ag_impl_Node ?_
      refine WO_move ?_
      refine WO_callN (run__impl_Node_isNode (a0 := x3) (a1 := (i1 : Int))) ?_
      refine WO_not ?_
      refine WO_nil ?_
      refine W_ite hm (fun hq hm => ?_) (fun hq hm => ?_)
      · refine W_seq ?_
        refine W_region ?_
        refine WO_assign ?_
        refine WO_nil ?_
        cases hm
        exact W_ret (finD1 [] (retTmp (t := 2) retNil) (.same _) (Kp.fin aKp))
      · refine W_skip ?_
        refine W_region ?_
        refine WO_succ ?_
        refine WO_move ?_
        refine WO_nil ?_
        exact round (i1 + 1) ⟨rfl, trivial⟩ ⟨aOm, aKp, aOm, hm⟩ aOm
    · have hge1 : (a0.length : Int) ≤ (i1 : Int) := dec_ge hq
      rw [drop_len (by omega), m_impl_IsExpr_l0] at hm
      refine W_exit ?_
      refine W_seq ?_
      refine W_region ?_
      refine WO_move ?_
      obtain ⟨x4, g3, hm⟩ := ob hm
      refine WO_callN (run_impl_uses g3) ?_
      refine WO_move ?_
      refine D_len sl_S_impl_Node (e := eGNode) (xs := a0) ?_
      refine WO_sub ?_
      obtain ⟨c1, g4, hm⟩ := ob hm
      refine D_slice os_S_int g4 (e := I) (fun b1 => ?_)
      refine WO_callN (run_slices_Contains_S_int_int (a0 := c1) (a1 := 0)) ?_
      refine WO_not ?_
      refine WO_assign ?_
      refine WO_nil ?_
      cases hm
      exact W_ret (finD1 [] (retTmp (t := 2) retNil) (.same _) (Kp.fin aKp))

noncomputable def m_slices_Index_S_impl_Instr_impl_Instr_l0 (a1 : GInstr) : List GInstr → Int → Int
  | [], i1 =>
    (-1)
  | x3 :: zs, i1 =>
    if (decide (a1 = x3)) then
      (i1 : Int)
    else
      m_slices_Index_S_impl_Instr_impl_Instr_l0 a1 zs (i1 + 1)

noncomputable def m_slices_Index_S_impl_Instr_impl_Instr (a0 : List GInstr) (a1 : GInstr) : Int :=
  m_slices_Index_S_impl_Instr_impl_Instr_l0 a1 a0 0

theorem run_slices_Index_S_impl_Instr_impl_Instr {a0 : List GInstr} {b0 : Bool} {a1 : GInstr} : Gives PG F_slices_Index_S_impl_Instr_impl_Instr [PV.sl b0 (a0.map eGInstr), eGInstr a1] (I (m_slices_Index_S_impl_Instr_impl_Instr a0 a1)) := by
  intro p h
  generalize hm : m_slices_Index_S_impl_Instr_impl_Instr a0 a1 = R
  have hvac : ∀ k, ∃ s : St, k ≤ s.nx ∧ Fin PG Try.f147 19 p h (I R) .ret s := fun k => ⟨⟨fun i => if i = 4 then I R else default, k, h⟩, Nat.le_refl _, finD1 [] (retTmp (t := 4) retNil) (.same _) (fun _ => .inl rfl)⟩
  unfold m_slices_Index_S_impl_Instr_impl_Instr at hm
  refine fn_dec fn_slices_Index_S_impl_Instr_impl_Instr ?_
  refine W_seq ?_
  refine W_region ?_
  refine WO_box sz_impl_Instr ?_
  refine WO_assign ?_
  refine WO_nil ?_
  refine W_seq ?_
  refine W_seq ?_
  refine W_region ?_
  refine WO_move ?_
  refine D_len sl_S_impl_Instr (e := eGInstr) (xs := a0) ?_
  refine WO_move ?_
  refine WO_nil ?_
  refine W_bnd 0 hvac (fun hb1 => ?_)
  rw [List.length_map] at hb1
  refine W_block ?_
  refine W_loopM (α := Nat) [4, 5, 8, 9, 10, 11, 12, 13, 14, 15, 16, 17, 18] (fun a => [(8, I (a : Nat))]) (fun a nx' h' => 1 ≤ nx' ∧ Kp p [] h h' ∧ a ≤ a0.length ∧ (h' (p ++ [0]) = some ⟨0, 5, [eGInstr a1]⟩) ∧ m_slices_Index_S_impl_Instr_impl_Instr_l0 a1 (a0.drop a) (a : Int) = R) (fun a => a0.length - a) 0 ⟨rfl, trivial⟩ ⟨aOm, aKp, Nat.zero_le _, aLk, hm⟩ (fun i1 e1 nx3 h1 hI => ?_)
  obtain ⟨hn1, hk1, hi1, hr1, hm⟩ := hI
  refine W_seq ?_
  refine W_region ?_
  refine WO_lss ?_
  refine WO_nil ?_
  refine W_seq ?_
  refine W_cond (fun hq => ?_) (fun hq => ?_)
  · have hlt1 : (i1 : Int) < (a0.length : Int) := dec_lt hq
    obtain ⟨x3, hx1, hd1⟩ := lt_get (xs := a0) (i := i1) (by omega)
    rw [hd1, m_slices_Index_S_impl_Instr_impl_Instr_l0] at hm
    replace hx1 := getI_nat hx1
    refine W_skip ?_
    refine W_seq ?_
    refine W_block ?_
    refine W_seq ?_
    refine W_region ?_
    refine WO_move ?_
    refine WO_assign ?_
    refine WO_nil ?_
    refine W_seq ?_
    refine W_regionD [1, 0, 0, 0, 0, 0] mixed (by kernel_rfl) ?_
    refine WO_loadS sz_impl_Instr ag_impl_Instr ?_
    refine WO_move ?_
    refine WO_move ?_
    refine D_index el_S_impl_Instr sz_impl_Instr hx1 ?_
    refine WO_loadI sz_impl_Instr ag_impl_Instr ?_
    refine WO_eqlA ps_impl_Instr ks_impl_Instr (r := decide (a1 = x3)) ?_ (hr := eqGInstr _ _)
    refine WO_nil ⟨rfl, ?_⟩
    refine W_ite hm (fun hq hm => ?_) (fun hq hm => ?_)
    · refine W_seq ?_
      refine W_region ?_
      refine WO_move ?_
      refine WO_assign ?_
      refine WO_nil ?_
      cases hm
      exact W_ret (finD1 [] (retTmp (t := 4) retNil) (.same _) (Kp.fin aKp))
    · refine W_skip ?_
      refine W_region ?_
      refine WO_succ ?_
      refine WO_move ?_
      refine WO_nil ?_
      exact round (i1 + 1) ⟨rfl, trivial⟩ ⟨aOm, aKp, aOm, aLk, hm⟩ aOm
  · have hge1 : (a0.length : Int) ≤ (i1 : Int) := dec_ge hq
    rw [drop_len (by omega), m_slices_Index_S_impl_Instr_impl_Instr_l0] at hm
    refine W_exit ?_
    refine W_seq ?_
    refine W_region ?_
    refine WO_assign ?_
    refine WO_nil ?_
    cases hm
    exact W_ret (finD1 [] (retTmp (t := 4) retNil) (.same _) (Kp.fin aKp))

noncomputable def m_slices_Contains_S_impl_Instr_impl_Instr (a0 : List GInstr) (a1 : GInstr) : Bool :=
  (decide ((m_slices_Index_S_impl_Instr_impl_Instr a0 a1) ≥ 0))

theorem run_slices_Contains_S_impl_Instr_impl_Instr {a0 : List GInstr} {b0 : Bool} {a1 : GInstr} : Gives PG F_slices_Contains_S_impl_Instr_impl_Instr [PV.sl b0 (a0.map eGInstr), eGInstr a1] (B (m_slices_Contains_S_impl_Instr_impl_Instr a0 a1)) := by
  intro p h
  generalize hm : m_slices_Contains_S_impl_Instr_impl_Instr a0 a1 = R
  unfold m_slices_Contains_S_impl_Instr_impl_Instr at hm
  refine fn_dec fn_slices_Contains_S_impl_Instr_impl_Instr ?_
  refine W_seq ?_
  refine W_region ?_
  refine WO_box sz_impl_Instr ?_
  refine WO_assign ?_
  refine WO_nil ?_
  refine W_seq ?_
  refine W_region ?_
  refine WO_move ?_
  refine WO_loadS sz_impl_Instr ag_impl_Instr ?_
  refine WO_callN (run_slices_Index_S_impl_Instr_impl_Instr (a0 := a0) (a1 := a1)) ?_
  refine WO_geq ?_
  refine WO_assign ?_
  refine WO_nil ?_
  cases hm
  exact W_ret (finD1 [] (retTmp (t := 4) retNil) (.same _) (Kp.fin aKp))

noncomputable def m_impl_isProgram_l0 (a0 : GChoice) : List GInstr → Int → Option Bool
  | [], i1 =>
    some true
  | x9 :: zs, i1 =>
    ((if (decide ((i1 : Int) ≥ 3)) then some true else (m_impl_steps a0 (i1 : Int)).bind fun x12 =>
      some (!(m_slices_Contains_S_impl_Instr_impl_Instr x12 x9)))).bind fun X3 =>
    if X3 then
      some false
    else
      m_impl_isProgram_l0 a0 zs (i1 + 1)

noncomputable def m_impl_isProgram (a0 : GChoice) (a1 : List GInstr) : Option Bool :=
  m_impl_isProgram_l0 a0 a1 0

theorem run_impl_isProgram {a0 : GChoice} {a1 : List GInstr} {b1 : Bool} {R : Bool} (hm : m_impl_isProgram a0 a1 = some R) : Gives PG F_impl_isProgram [eGChoice a0, PV.sl b1 (a1.map eGInstr)] (B R) := by
  intro p h
  have hvac : ∀ k, ∃ s : St, k ≤ s.nx ∧ Fin PG Try.f149 25 p h (B R) .ret s := fun k => ⟨⟨fun i => if i = 4 then B R else default, k, h⟩, Nat.le_refl _, finD1 [] (retTmp (t := 4) retNil) (.same _) (fun _ => .inl rfl)⟩
  unfold m_impl_isProgram at hm
  refine fn_dec fn_impl_isProgram ?_
  refine W_seq ?_
  refine W_region ?_
  refine WO_box sz_impl_Choice ?_
  refine WO_assign ?_
  refine WO_nil ?_
  refine W_seq ?_
  refine W_seq ?_
  refine W_region ?_
  refine WO_move ?_
  refine D_len sl_S_impl_Instr (e := eGInstr) (xs := a1) ?_
  refine WO_move ?_
  refine WO_nil ?_
  refine W_bnd 7 hvac (fun hb1 => ?_)
  rw [List.length_map] at hb1
  refine W_block ?_
  refine W_loopM (α := Nat) [4, 5, 6, 9, 10, 11, 12, 13, 14, 15, 16, 17, 18, 19, 20, 21, 22, 23, 24] (fun a => [(9, I (a : Nat))]) (fun a nx' h' => 1 ≤ nx' ∧ Kp p [] h h' ∧ a ≤ a1.length ∧ (h' (p ++ [0]) = some ⟨0, 2, [eGChoice a0]⟩) ∧ m_impl_isProgram_l0 a0 (a1.drop a) (a : Int) = some R) (fun a => a1.length - a) 0 ⟨rfl, trivial⟩ ⟨aOm, aKp, Nat.zero_le _, aLk, hm⟩ (fun i1 e3 nx5 h1 hI => ?_)
  obtain ⟨hn3, hk1, hi1, hr1, hm⟩ := hI
  refine W_seq ?_
  refine W_region ?_
  refine WO_lss ?_
  refine WO_nil ?_
  refine W_seq ?_
  refine W_cond (fun hq => ?_) (fun hq => ?_)
  · have hlt1 : (i1 : Int) < (a1.length : Int) := dec_lt hq
    obtain ⟨x9, hx1, hd1⟩ := lt_get (xs := a1) (i := i1) (by omega)
    rw [hd1, m_impl_isProgram_l0] at hm
    replace hx1 := getI_nat hx1
    refine W_skip ?_
    refine W_seq ?_
    refine W_block ?_
    refine W_seq ?_
    refine W_region ?_
    refine WO_move ?_
    refine D_index el_S_impl_Instr sz_impl_Instr hx1 ?_
    refine WO_loadI sz_impl_Instr ag_impl_Instr ?_
    refine WO_alloc sz_impl_Instr zo_impl_Instr ?_
    refine WO_assign ?_
    refine WO_store sz_impl_Instr ?_
    refine WO_nil ?_
    refine W_seq ?_
    obtain ⟨X3, hE3, hm⟩ := ob hm
    refine W_joinH (γ := Unit) [14, 15, 16, 17, 18, 19, 20, 21, 22, 23] (fun b => [(23, B X3)]) ?_ ?_
    · refine W_regionD [0, 0, 0, 1, 0, 0, 1, 0, 0, 0] mixed (by kernel_rfl) ?_
      refine WO_move ?_
      refine WO_geq ?_
      refine WO_move ?_
      refine WO_ite 16 hE3 (fun hq hE3 => ?_) (fun hq hE3 => ?_)
      · refine WO_skip ?_
        refine WO_skip ?_
        refine WO_skip ?_
        refine WO_skip ?_
        refine WO_skip ?_
        refine WO_skip ?_
        refine WO_pick ?_
        refine WO_nil ⟨rfl, ?_⟩
        cases hE3
        exact metH () ⟨rfl, trivial⟩ aOm
      · refine WO_loadS sz_impl_Choice ag_impl_Choice ?_
        refine WO_move ?_
        obtain ⟨x12, g8, hE3⟩ := ob hE3
        refine WO_callN (run_impl_steps g8) ?_
        refine WO_loadS sz_impl_Instr ag_impl_Instr ?_
        refine WO_callN (run_slices_Contains_S_impl_Instr_impl_Instr (a0 := x12) (a1 := x9)) ?_
        refine WO_not ?_
        refine WO_pick ?_
        refine WO_nil ⟨rfl, ?_⟩
        cases hE3
        exact metH () ⟨rfl, trivial⟩ aOm
    · intro bb3 e4 nx6 hn4
      refine W_ite hm (fun hq hm => ?_) (fun hq hm => ?_)
      · refine W_seq ?_
        refine W_region ?_
        refine WO_assign ?_
        refine WO_nil ?_
        cases hm
        exact W_ret (finD1 [] (retTmp (t := 4) retNil) (.same _) (Kp.fin aKp))
      · refine W_skip ?_
        refine W_region ?_
        refine WO_succ ?_
        refine WO_move ?_
        refine WO_nil ?_
        exact round (i1 + 1) ⟨rfl, trivial⟩ ⟨aOm, aKp, aOm, aLk, hm⟩ aOm
  · have hge1 : (a1.length : Int) ≤ (i1 : Int) := dec_ge hq
    rw [drop_len (by omega), m_impl_isProgram_l0] at hm
    refine W_exit ?_
    refine W_seq ?_
    refine W_region ?_
    refine WO_assign ?_
    refine WO_nil ?_
    cases hm
    exact W_ret (finD1 [] (retTmp (t := 4) retNil) (.same _) (Kp.fin aKp))

noncomputable def m_impl_areProgram (a0 : GChoice) (a1 : List GInstr) : Option Bool :=
  ((m_impl_IsChoice a0).bind fun x4 =>
    (if x4 then (m_impl_isProgram a0 a1).bind fun x5 =>
    some x5 else some false)).bind fun X1 =>
  some X1

theorem run_impl_areProgram {a0 : GChoice} {a1 : List GInstr} {b1 : Bool} {R : Bool} (hm : m_impl_areProgram a0 a1 = some R) : Gives PG F_impl_areProgram [eGChoice a0, PV.sl b1 (a1.map eGInstr)] (B R) := by
  intro p h
  unfold m_impl_areProgram at hm
  refine fn_dec fn_impl_areProgram ?_
  refine W_seq ?_
  refine W_region ?_
  refine WO_box sz_impl_Choice ?_
  refine WO_assign ?_
  refine WO_nil ?_
  refine W_seq ?_
  obtain ⟨X1, hE1, hm⟩ := ob hm
  refine W_joinH (γ := Unit) [4, 5, 6, 7, 8, 9, 10, 11] (fun b => [(4, B X1)]) ?_ ?_
  · refine W_region ?_
    refine WO_loadS sz_impl_Choice ag_impl_Choice ?_
    obtain ⟨x4, g3, hE1⟩ := ob hE1
    refine WO_callN (run_impl_IsChoice g3) ?_
    refine WO_move ?_
    refine WO_ite 7 hE1 (fun hq hE1 => ?_) (fun hq hE1 => ?_)
    · refine WO_loadS sz_impl_Choice ag_impl_Choice ?_
      refine WO_move ?_
      obtain ⟨x5, g4, hE1⟩ := ob hE1
      refine WO_callN (run_impl_isProgram g4) ?_
      refine WO_pick ?_
      refine WO_assign ?_
      refine WO_nil ?_
      cases hE1
      exact metH () ⟨rfl, trivial⟩ aOm
    · refine WO_skip ?_
      refine WO_skip ?_
      refine WO_skip ?_
      refine WO_pick ?_
      refine WO_assign ?_
      refine WO_nil ?_
      cases hE1
      exact metH () ⟨rfl, trivial⟩ aOm
  · intro bb1 e1 nx1 hn1
    cases hm
    exact W_ret (finD1 [] (retTmp (t := 4) retNil) (.same _) (Kp.fin aKp))

noncomputable def m_impl_columnsOf_l0 : List GInstr → (List (List Int)) → Option (List (List Int))
  | [], s4 =>
    some s4
  | x6 :: zs, s4 =>
    (m_impl_writes x6 s4).bind fun x7 =>
    (appI s4 ([x7] : List (List Int))).bind fun c3 =>
    m_impl_columnsOf_l0 zs c3

noncomputable def m_impl_columnsOf (a0 : List GInstr) : Option (List (List Int)) :=
  (m_impl_begun).bind fun x1 =>
  (m_impl_columnsOf_l0 a0 x1).bind fun X1 =>
  some X1

theorem run_impl_columnsOf {a0 : List GInstr} {b0 : Bool} {R : (List (List Int))} (hm : m_impl_columnsOf a0 = some R) : Gives PG F_impl_columnsOf [PV.sl b0 (a0.map eGInstr)] (PV.sl false (R.map (eL U))) := by
  intro p h
  have hvac : ∀ k, ∃ s : St, k ≤ s.nx ∧ Fin PG Try.f199 21 p h (PV.sl false (R.map (eL U))) .ret s := fun k => ⟨⟨fun i => if i = 2 then PV.sl false (R.map (eL U)) else default, k, h⟩, Nat.le_refl _, finD1 [] (retTmp (t := 2) retNil) (.same _) (fun _ => .inl rfl)⟩
  unfold m_impl_columnsOf at hm
  refine fn_dec fn_impl_columnsOf ?_
  refine W_seq ?_
  refine W_region ?_
  refine WO_assign ?_
  refine WO_nil ?_
  refine W_seq ?_
  refine W_region ?_
  obtain ⟨x1, g1, hm⟩ := ob hm
  refine D_callR (e := (eL U)) (runR_impl_begun g1) (fun q1 v1 hl1 => ?_)
  refine WO_assign ?_
  refine WO_nil ?_
  refine W_seq ?_
  refine W_seq ?_
  refine W_region ?_
  refine WO_move ?_
  refine D_len sl_S_impl_Instr (e := eGInstr) (xs := a0) ?_
  refine WO_move ?_
  refine WO_nil ?_
  refine W_bnd 7 hvac (fun hb1 => ?_)
  rw [List.length_map] at hb1
  obtain ⟨X1, hE1, hm⟩ := ob hm
  refine W_block ?_
  refine W_loopM (α := Nat × (List (List Int)) × Nat × Nat) [3, 5, 9, 10, 11, 12, 13, 14, 15, 16, 17, 18, 19] (fun a => [(9, I (a.1 : Nat)), (3, PV.ref (p ++ 0 :: q1) a.2.2.1 0 a.2.2.2)]) (fun a nx' h' => 1 ≤ nx' ∧ Kp p [] h h' ∧ a.1 ≤ a0.length ∧ (h' (p ++ 0 :: q1) = some ⟨a.2.2.1, 1, a.2.1.map (eL U)⟩) ∧ (a.2.1.length = a.2.2.2 ∧ a.2.2.2 ≤ LIM) ∧ m_impl_columnsOf_l0 (a0.drop a.1) a.2.1 = some X1) (fun a => a0.length - a.1) (0, x1, v1, x1.length) ⟨rfl, rfl, trivial⟩ ⟨aOm, aKp, Nat.zero_le _, aLk, hl1, hE1⟩ (fun a e1 nx3 h1 hI => ?_)
  obtain ⟨i1, s4, v4, n3⟩ := a
  obtain ⟨hn1, hk1, hi1, hr1, hl6, hE1⟩ := hI
  refine W_seq ?_
  refine W_region ?_
  refine WO_lss ?_
  refine WO_nil ?_
  refine W_seq ?_
  refine W_cond (fun hq => ?_) (fun hq => ?_)
  · have hlt1 : (i1 : Int) < (a0.length : Int) := dec_lt hq
    obtain ⟨x6, hx1, hd1⟩ := lt_get (xs := a0) (i := i1) (by omega)
    rw [hd1, m_impl_columnsOf_l0] at hE1
    replace hx1 := getI_nat hx1
    refine W_skip ?_
    refine W_seq ?_
    refine W_block ?_
    refine W_seq ?_
    refine W_region ?_
    refine D_index el_S_impl_Instr sz_impl_Instr hx1 ?_
    refine WO_loadI sz_impl_Instr ag_impl_Instr ?_
    refine WO_alloc sz_impl_Instr zo_impl_Instr ?_
    refine WO_store sz_impl_Instr ?_
    refine WO_nil ?_
    refine W_region ?_
    refine WO_move ?_
    refine WO_loadS sz_impl_Instr ag_impl_Instr ?_
    refine WO_move ?_
    obtain ⟨x7, g8, hE1⟩ := ob hE1
    refine D_callLR [((p ++ 0 :: q1), ⟨v4, 1, s4.map (eL U)⟩)] (e := U) (hc := (runR_impl_writes g8)) (hS := (memCons aLk (memNil))) (hfv := by exact (.cons _ _ _ _ (.same _) (.cons _ _ _ _ (FV.rowL hl6) .nil))) (hfx := fun _ _ => by repeat constructor) (kk := ?_)
    refine WO_buildSlice el_S_impl_column sz_impl_column zo_impl_column ?_
    obtain ⟨c3, g9, hE1⟩ := ob hE1
    refine D_appR sl_S_impl_column el_S_impl_column sz_impl_column zs_impl_column bt_impl_column g9 hl6 (e := (eL U)) ?_
    have hl7 := appI_len g9
    refine WO_assign ?_
    refine WO_nil ?_
    refine W_region ?_
    refine WO_succ ?_
    refine WO_move ?_
    refine WO_nil ?_
    exact round ((i1 + 1), c3, v4 + 1, c3.length) ⟨rfl, rfl, trivial⟩ ⟨aOm, aKp, aOm, aLk, hl7, hE1⟩ aOm
  · have hge1 : (a0.length : Int) ≤ (i1 : Int) := dec_ge hq
    rw [drop_len (by omega), m_impl_columnsOf_l0] at hE1
    refine W_exit ?_
    cases hE1
    try dsimp only at hm
    refine W_seq ?_
    refine W_region ?_
    refine WO_move ?_
    refine WO_assign ?_
    refine WO_nil ?_
    cases hm
    exact W_ret (finD1 [(p ++ 0 :: q1)] (retTmp (t := 2) retNil) (FV.rowL hl6) (Kp.fin aKp))

noncomputable def m_impl_lastOf (a0 : List GInstr) : Option (List Int) :=
  if ((a0.length : Int) == 0) then
    (m_impl_begun).bind fun x1 =>
    (getI x1 0).bind fun x2 =>
    some x2
  else
    (m_impl_columnsOf a0).bind fun x3 =>
    (getI x3 (w64 ((x3.length : Int) - 1))).bind fun x4 =>
    some x4

theorem run_impl_lastOf {a0 : List GInstr} {b0 : Bool} {R : (List Int)} (hm : m_impl_lastOf a0 = some R) : Gives PG F_impl_lastOf [PV.sl b0 (a0.map eGInstr)] (PV.sl false (R.map U)) := by
  intro p h
  unfold m_impl_lastOf at hm
  refine fn_dec fn_impl_lastOf ?_
  refine W_seq ?_
  refine W_region ?_
  refine WO_assign ?_
  refine WO_nil ?_
  refine W_seq ?_
  refine W_seq ?_
  refine W_region ?_
  refine WO_move ?_
  refine D_len sl_S_impl_Instr (e := eGInstr) (xs := a0) ?_
  refine WO_eql ?_
  refine WO_nil ?_
  refine W_ite hm (fun hq hm => ?_) (fun hq hm => ?_)
  · refine W_seq ?_
    refine W_region ?_
    obtain ⟨x1, g1, hm⟩ := ob hm
    refine WO_callN (run_impl_begun g1) ?_
    obtain ⟨x2, g2, hm⟩ := ob hm
    refine D_index el_S_impl_column sz_impl_column g2 ?_
    refine WO_loadI1 sz_impl_column ag_impl_column ?_
    refine WO_assign ?_
    refine WO_nil ?_
    cases hm
    exact W_ret (finD1 [] (retTmp (t := 2) retNil) .lo (Kp.fin aKp))
  · refine W_skip ?_
    refine W_seq ?_
    refine W_region ?_
    refine WO_move ?_
    obtain ⟨x3, g3, hm⟩ := ob hm
    refine WO_callN (run_impl_columnsOf g3) ?_
    refine WO_assign ?_
    refine WO_nil ?_
    refine W_seq ?_
    refine W_region ?_
    refine WO_move ?_
    refine WO_move ?_
    refine D_len sl_S_impl_column (e := (eL U)) (xs := x3) ?_
    refine WO_sub ?_
    obtain ⟨x4, g4, hm⟩ := ob hm
    refine D_index el_S_impl_column sz_impl_column g4 ?_
    refine WO_loadI1 sz_impl_column ag_impl_column ?_
    refine WO_assign ?_
    refine WO_nil ?_
    cases hm
    exact W_ret (finD1 [] (retTmp (t := 2) retNil) .lo (Kp.fin aKp))

end Go.Proofs.Ytpfdeoapnpcbaaa
