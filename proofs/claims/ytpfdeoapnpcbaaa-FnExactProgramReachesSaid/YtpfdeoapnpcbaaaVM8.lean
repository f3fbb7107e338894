/-
  What is proved here: what functions of the program give, as functions over lists and numbers.
  Conditions: none.
-/
import Derived.Test.YtpfdeoapnpcbaaaVM7
set_option linter.unusedSectionVars false
namespace Go.Proofs.Ytpfdeoapnpcbaaa
open Go.Vs
set_option linter.unusedVariables false
set_option linter.unusedSimpArgs false
set_option maxHeartbeats 4000000
set_option maxRecDepth 4000
attribute [local irreducible] upd del

noncomputable def m_impl_values_l0 (a1 : Int) (a2 : Int) : List GNode → Int → (List Int) → Option (List Int)
  | [], i1, s4 =>
    some s4
  | x21 :: zs, i1, s4 =>
    (if (decide (x21.Op = (⟨#[105, 110]⟩ : ByteArray))) then
        (getI ([a1, a2] : List Int) x21.Value).bind fun x27 =>
        (setI s4 (i1 : Int) x27).bind fun c17 =>
        some c17
      else
        if (decide (x21.Op = (⟨#[99, 111, 110, 115, 116]⟩ : ByteArray))) then
          (setI s4 (i1 : Int) x21.Value).bind fun c18 =>
          some c18
        else
          (getI s4 x21.A).bind fun x28 =>
          (getI s4 x21.B).bind fun x29 =>
          (m_impl_apply x21.Op x28 x29).bind fun x30 =>
          (setI s4 (i1 : Int) x30).bind fun c19 =>
          some c19).bind fun X4 =>
    m_impl_values_l0 a1 a2 zs (i1 + 1) X4

noncomputable def m_impl_values (a0 : List GNode) (a1 : Int) (a2 : Int) : Option (List Int) :=
  (makI (a0.length : Int) 0).bind fun c1 =>
  (m_impl_values_l0 a1 a2 a0 0 c1).bind fun X3 =>
  some X3

theorem run_impl_values {a0 : List GNode} {b0 : Bool} {a1 : Int} {a2 : Int} {R : (List Int)} (hm : m_impl_values a0 a1 a2 = some R) : Gives PG F_impl_values [PV.sl b0 (a0.map eGNode), I a1, I a2] (PV.sl false (R.map I)) := by
  intro p h
  have hvac : ∀ k, ∃ s : St, k ≤ s.nx ∧ Fin PG Try.f246 59 p h (PV.sl false (R.map I)) .ret s := fun k => ⟨⟨fun i => if i = 6 then PV.sl false (R.map I) else default, k, h⟩, Nat.le_refl _, finD1 [] (retTmp (t := 6) retNil) (.same _) (fun _ => .inl rfl)⟩
  unfold m_impl_values at hm
  refine fn_dec fn_impl_values ?_
  refine W_seq ?_
  refine W_region ?_
  refine WO_assign ?_
  refine WO_nil ?_
  refine W_seq ?_
  refine W_region ?_
  refine WO_move ?_
  refine D_len sl_S_impl_Node (e := eGNode) (xs := a0) ?_
  obtain ⟨c1, g1, hm⟩ := ob hm
  refine D_make el_S_int sz_int zo_int b3_int g1 (e := I) rfl ?_
  have hl1 := makI_len g1
  refine WO_assign ?_
  refine WO_nil ?_
  refine W_seq ?_
  refine W_seq ?_
  refine W_region ?_
  refine WO_move ?_
  refine D_len sl_S_impl_Node (e := eGNode) (xs := a0) ?_
  refine WO_move ?_
  refine WO_nil ?_
  refine W_bnd 13 hvac (fun hb1 => ?_)
  rw [List.length_map] at hb1
  obtain ⟨X3, hE3, hm⟩ := ob hm
  refine W_block ?_
  refine W_loopM (α := Nat × (List Int)) (List.range' 8 2 ++ List.range' 15 43) (fun a => [(15, I (a.1 : Nat))]) (fun a nx' h' => 1 ≤ nx' ∧ Kp p [] h h' ∧ a.1 ≤ a0.length ∧ (h' (p ++ [0]) = some ⟨0, 1, a.2.map I⟩) ∧ (a.2.length = c1.length ∧ c1.length ≤ LIM) ∧ m_impl_values_l0 a1 a2 (a0.drop a.1) (a.1 : Int) a.2 = some X3) (fun a => a0.length - a.1) (0, c1) ⟨rfl, trivial⟩ ⟨aOm, aKp, Nat.zero_le _, aLk, hl1, hE3⟩ (fun a e3 nx5 h3 hI => ?_)
  obtain ⟨i1, s4⟩ := a
  obtain ⟨hn3, hk3, hi1, hr3, hl18, hE3⟩ := hI
  refine W_seq ?_
  refine W_region ?_
  refine WO_lss ?_
  refine WO_nil ?_
  refine W_seq ?_
  refine W_cond (fun hq => ?_) (fun hq => ?_)
  · have hlt1 : (i1 : Int) < (a0.length : Int) := dec_lt hq
    obtain ⟨x21, hx1, hd1⟩ := lt_get (xs := a0) (i := i1) (by omega)
    rw [hd1, m_impl_values_l0] at hE3
    replace hx1 := getI_nat hx1
    refine W_skip ?_
    refine W_seq ?_
    refine W_block ?_
    refine W_seq ?_
    refine W_region ?_
    refine WO_move ?_
    refine D_index el_S_impl_Node sz_impl_Node hx1 ?_
    refine WO_loadI sz_impl_Node ag_impl_Node ?_
    refine WO_alloc sz_impl_Node zo_impl_Node ?_
    refine WO_assign ?_
    refine WO_store sz_impl_Node ?_
    refine WO_nil ?_
    refine W_seq ?_
    refine W_region ?_
    refine WO_fieldP fa_impl_Node_0 ?_
    refine WO_load1 sz_string ag_string ?_
    refine WO_nil ?_
    refine W_block ?_
    refine W_seq ?_
    refine W_region ?_
    refine WO_eqlS ?_
    refine WO_assign ?_
    refine WO_nil ?_
    obtain ⟨X4, hE4, hE3⟩ := ob hE3
    refine W_join (γ := Unit) (List.range' 22 16 ++ List.range' 40 17) (fun b => []) (fun b nx' h' => (nx5 + 1) ≤ nx' ∧ Kp p [] h h' ∧ (h' (p ++ [0]) = some ⟨0, 1, X4.map I⟩) ∧ (X4.length = c1.length ∧ c1.length ≤ LIM)) ?_ ?_
    · refine W_ite hE4 (fun hq hE4 => ?_) (fun hq hE4 => ?_)
      · refine W_region ?_
        refine WO_move ?_
        refine WO_move ?_
        refine WO_move ?_
        refine WO_move ?_
        refine D_build (e := I) ([a1, a2] : List Int) el_S_int sz_int zo_int ?_
        refine WO_fieldP fa_impl_Node_3 ?_
        refine WO_load1 sz_int ag_int ?_
        obtain ⟨x27, g39, hE4⟩ := ob hE4
        refine D_index el_S_int sz_int g39 ?_
        refine WO_loadI1 sz_int ag_int ?_
        obtain ⟨c17, g40, hE4⟩ := ob hE4
        refine D_indexW el_S_int sz_int g40 hl18 ?_
        refine D_st1R sz_int g40 (e := I) ?_
        have hl23 := setI_len g40 hl18
        refine WO_nil ?_
        cases hE4
        exact metJ () trivial ⟨aOm, aKp, aLk, hl23⟩
      · refine W_seq ?_
        refine W_region ?_
        refine WO_eqlS ?_
        refine WO_assign ?_
        refine WO_nil ?_
        refine W_ite hE4 (fun hq hE4 => ?_) (fun hq hE4 => ?_)
        · refine W_region ?_
          refine WO_move ?_
          refine WO_move ?_
          refine WO_fieldP fa_impl_Node_3 ?_
          refine WO_load1 sz_int ag_int ?_
          obtain ⟨c18, g41, hE4⟩ := ob hE4
          refine D_indexW el_S_int sz_int g41 hl18 ?_
          refine D_st1R sz_int g41 (e := I) ?_
          have hl24 := setI_len g41 hl18
          refine WO_nil ?_
          cases hE4
          exact metJ () trivial ⟨aOm, aKp, aLk, hl24⟩
        · refine W_regionD [0, 0, 1, 1, 0, 1, 1, 1, 1, 0, 1, 1, 1, 1, 0, 1, 2] mixed (by kernel_rfl) ?_
          refine WO_move ?_
          refine WO_move ?_
          refine WO_fieldP fa_impl_Node_0 ?_
          refine WO_load1 sz_string ag_string ?_
          refine WO_move ?_
          refine WO_fieldP fa_impl_Node_1 ?_
          refine WO_load1 sz_int ag_int ?_
          obtain ⟨x28, g42, hE4⟩ := ob hE4
          refine D_indexR el_S_int sz_int g42 hl18 ?_
          refine D_ld1R sz_int ag_int g42 ?_
          refine WO_move ?_
          refine WO_fieldP fa_impl_Node_2 ?_
          refine WO_load1 sz_int ag_int ?_
          obtain ⟨x29, g43, hE4⟩ := ob hE4
          refine D_indexR el_S_int sz_int g43 hl18 ?_
          refine D_ld1R sz_int ag_int g43 ?_
          obtain ⟨x30, g44, hE4⟩ := ob hE4
          refine WO_callN (run_impl_apply g44) ?_
          obtain ⟨c19, g45, hE4⟩ := ob hE4
          refine D_indexW el_S_int sz_int g45 hl18 ?_
          refine D_st1R sz_int g45 (e := I) ?_
          have hl25 := setI_len g45 hl18
          refine WO_nil ⟨rfl, ?_⟩
          cases hE4
          exact metJ () trivial ⟨aOm, aKp, aLk, hl25⟩
    · intro bb3 e4 nx6 h4 hJ
      obtain ⟨hn4, hk4, hr4, hl22⟩ := hJ
      refine W_region ?_
      refine WO_succ ?_
      refine WO_move ?_
      refine WO_nil ?_
      exact round ((i1 + 1), X4) ⟨rfl, trivial⟩ ⟨aOm, aKp, aOm, aLk, hl22, hE3⟩ aOm
  · have hge1 : (a0.length : Int) ≤ (i1 : Int) := dec_ge hq
    rw [drop_len (by omega), m_impl_values_l0] at hE3
    refine W_exit ?_
    cases hE3
    try dsimp only at hm
    refine W_seq ?_
    refine W_region ?_
    refine WO_move ?_
    refine WO_assign ?_
    refine WO_nil ?_
    cases hm
    exact W_ret (finD1 [(p ++ [0])] (retTmp (t := 6) retNil) (FV.rowL hl18) (Kp.fin aKp))

noncomputable def m_impl_eval (a0 : List GNode) (a1 : Int) (a2 : Int) : Option Int :=
  (m_impl_values a0 a1 a2).bind fun x1 =>
  (getI x1 (w64 ((a0.length : Int) - 1))).bind fun x2 =>
  some x2

theorem run_impl_eval {a0 : List GNode} {b0 : Bool} {a1 : Int} {a2 : Int} {R : Int} (hm : m_impl_eval a0 a1 a2 = some R) : Gives PG F_impl_eval [PV.sl b0 (a0.map eGNode), I a1, I a2] (I R) := by
  intro p h
  unfold m_impl_eval at hm
  refine fn_dec fn_impl_eval ?_
  refine W_seq ?_
  refine W_region ?_
  refine WO_assign ?_
  refine WO_nil ?_
  refine W_seq ?_
  refine W_region ?_
  refine WO_move ?_
  refine WO_move ?_
  refine WO_move ?_
  obtain ⟨x1, g1, hm⟩ := ob hm
  refine WO_callN (run_impl_values g1) ?_
  refine WO_move ?_
  refine D_len sl_S_impl_Node (e := eGNode) (xs := a0) ?_
  refine WO_sub ?_
  obtain ⟨x2, g2, hm⟩ := ob hm
  refine D_index el_S_int sz_int g2 ?_
  refine WO_loadI1 sz_int ag_int ?_
  refine WO_assign ?_
  refine WO_nil ?_
  cases hm
  exact W_ret (finD1 [] (retTmp (t := 6) retNil) (.same _) (Kp.fin aKp))

noncomputable def m_impl_tableOf_1 (a0 : Int) (a1 : Int) (a2 : List GNode) : Option Int :=
  (m_impl_eval a2 a0 a1).bind fun x1 =>
  some x1

theorem run_impl_tableOf_1 {a0 : Int} {a1 : Int} {a2 : List GNode} {b2 : Bool} {R : Int} (hm : m_impl_tableOf_1 a0 a1 a2 = some R) : Gives PG F_impl_tableOf_1 [I a0, I a1, PV.iptr (PV.sl b2 (a2.map eGNode)).cells] (I R) := by
  intro p h
  unfold m_impl_tableOf_1 at hm
  refine fn_dec fn_impl_tableOf_1 ?_
  refine W_seq ?_
  refine W_region ?_
  refine WO_assign ?_
  refine WO_nil ?_
  refine W_seq ?_
  refine W_region ?_
  refine WO_loadI1 sz_S_impl_Node ag_S_impl_Node ?_
  refine WO_move ?_
  refine WO_move ?_
  obtain ⟨x1, g1, hm⟩ := ob hm
  refine WO_callN (run_impl_eval g1) ?_
  refine WO_assign ?_
  refine WO_nil ?_
  cases hm
  exact W_ret (finD1 [] (retTmp (t := 5) retNil) (.same _) (Kp.fin aKp))

noncomputable def m_impl_tableOf (a0 : List GNode) : Option (List Int) :=
  (m_impl_table (fun y0 y1 => m_impl_tableOf_1 y0 y1 a0)).bind fun x1 =>
  some x1

theorem run_impl_tableOf {a0 : List GNode} {b0 : Bool} {R : (List Int)} (hm : m_impl_tableOf a0 = some R) : Gives PG F_impl_tableOf [PV.sl b0 (a0.map eGNode)] (PV.sl false (R.map I)) := by
  intro p h
  unfold m_impl_tableOf at hm
  refine fn_dec fn_impl_tableOf ?_
  refine W_seq ?_
  refine W_region ?_
  refine WO_box sz_S_impl_Node ?_
  refine WO_assign ?_
  refine WO_nil ?_
  refine W_seq ?_
  refine W_frzB 1 ?_
  refine W_region ?_
  refine WO_makeFunc ?_
  obtain ⟨x1, g1, hm⟩ := ob hm
  refine WO_callN (run_impl_table g1 (fun hg => run_impl_tableOf_1 hg)) ?_
  refine WO_assign ?_
  refine WO_nil ?_
  cases hm
  exact W_ret (finD1 [] (retTmp (t := 2) retNil) .lo (Kp.fin aKp))

noncomputable def m_slices_Equal_impl_column_uint8_l0 (a1 : List Int) : List Int → Int → Option Bool
  | [], i1 =>
    some true
  | x5 :: zs, i1 =>
    (getI a1 (i1 : Int)).bind fun x6 =>
    if (x5 != x6) then
      some false
    else
      m_slices_Equal_impl_column_uint8_l0 a1 zs (i1 + 1)

noncomputable def m_slices_Equal_impl_column_uint8 (a0 : List Int) (a1 : List Int) : Option Bool :=
  if ((a0.length : Int) != (a1.length : Int)) then
    some false
  else
    m_slices_Equal_impl_column_uint8_l0 a1 a0 0

theorem run_slices_Equal_impl_column_uint8 {a0 : List Int} {b0 : Bool} {a1 : List Int} {b1 : Bool} {R : Bool} (hm : m_slices_Equal_impl_column_uint8 a0 a1 = some R) : Gives PG F_slices_Equal_impl_column_uint8 [PV.sl b0 (a0.map U), PV.sl b1 (a1.map U)] (B R) := by
  intro p h
  have hvac : ∀ k, ∃ s : St, k ≤ s.nx ∧ Fin PG Try.f129 26 p h (B R) .ret s := fun k => ⟨⟨fun i => if i = 4 then B R else default, k, h⟩, Nat.le_refl _, finD1 [] (retTmp (t := 4) retNil) (.same _) (fun _ => .inl rfl)⟩
  unfold m_slices_Equal_impl_column_uint8 at hm
  refine fn_dec fn_slices_Equal_impl_column_uint8 ?_
  refine W_seq ?_
  refine W_region ?_
  refine WO_assign ?_
  refine WO_nil ?_
  refine W_seq ?_
  refine W_seq ?_
  refine W_region ?_
  refine WO_move ?_
  refine D_len sl_impl_column (e := U) (xs := a0) ?_
  refine WO_move ?_
  refine D_len sl_impl_column (e := U) (xs := a1) ?_
  refine WO_neq ?_
  refine WO_nil ?_
  refine W_ite hm (fun hq hm => ?_) (fun hq hm => ?_)
  · refine W_seq ?_
    refine W_region ?_
    refine WO_assign ?_
    refine WO_nil ?_
    cases hm
    exact W_ret (finD1 [] (retTmp (t := 4) retNil) (.same _) (Kp.fin aKp))
  · refine W_skip ?_
    refine W_seq ?_
    refine W_seq ?_
    refine W_region ?_
    refine WO_move ?_
    refine D_len sl_impl_column (e := U) (xs := a0) ?_
    refine WO_move ?_
    refine WO_nil ?_
    refine W_bnd 0 hvac (fun hb1 => ?_)
    rw [List.length_map] at hb1
    refine W_block ?_
    refine W_loopM (α := Nat) [4, 5, 13, 14, 15, 16, 17, 18, 19, 20, 21, 22, 23, 24, 25] (fun a => [(13, I (a : Nat))]) (fun a nx' h' => 0 ≤ nx' ∧ Kp p [] h h' ∧ a ≤ a0.length ∧ m_slices_Equal_impl_column_uint8_l0 a1 (a0.drop a) (a : Int) = some R) (fun a => a0.length - a) 0 ⟨rfl, trivial⟩ ⟨aOm, aKp, Nat.zero_le _, hm⟩ (fun i1 e1 nx3 h1 hI => ?_)
    obtain ⟨hn1, hk1, hi1, hm⟩ := hI
    refine W_seq ?_
    refine W_region ?_
    refine WO_lss ?_
    refine WO_nil ?_
    refine W_seq ?_
    refine W_cond (fun hq => ?_) (fun hq => ?_)
    · have hlt1 : (i1 : Int) < (a0.length : Int) := dec_lt hq
      obtain ⟨x5, hx1, hd1⟩ := lt_get (xs := a0) (i := i1) (by omega)
      rw [hd1, m_slices_Equal_impl_column_uint8_l0] at hm
      replace hx1 := getI_nat hx1
      refine W_skip ?_
      refine W_seq ?_
      refine W_block ?_
      refine W_seq ?_
      refine W_region ?_
      refine WO_move ?_
      refine WO_assign ?_
      refine WO_nil ?_
      refine W_seq ?_
      refine W_regionD [0, 0, 0, 0, 0, 0, 0, 0, 0] mixed (by kernel_rfl) ?_
      refine WO_move ?_
      refine WO_move ?_
      refine D_index el_impl_column sz_uint8 hx1 ?_
      refine WO_loadI1 sz_uint8 ag_uint8 ?_
      refine WO_move ?_
      refine WO_move ?_
      obtain ⟨x6, g5, hm⟩ := ob hm
      refine D_index el_impl_column sz_uint8 g5 ?_
      refine WO_loadI1 sz_uint8 ag_uint8 ?_
      refine WO_neq ?_
      refine WO_nil ⟨rfl, ?_⟩
      refine W_ite hm (fun hq hm => ?_) (fun hq hm => ?_)
      · refine W_seq ?_
        refine W_region ?_
        refine WO_assign ?_
        refine WO_nil ?_
        cases hm
        exact W_ret (finD1 [] (retTmp (t := 4) retNil) (.same _) (Kp.fin aKp))
      · refine W_skip ?_
        refine W_region ?_
        refine WO_succ ?_
        refine WO_move ?_
        refine WO_nil ?_
        exact round (i1 + 1) ⟨rfl, trivial⟩ ⟨aOm, aKp, aOm, hm⟩ aOm
    · have hge1 : (a0.length : Int) ≤ (i1 : Int) := dec_ge hq
      rw [drop_len (by omega), m_slices_Equal_impl_column_uint8_l0] at hm
      refine W_exit ?_
      refine W_seq ?_
      refine W_region ?_
      refine WO_assign ?_
      refine WO_nil ?_
      cases hm
      exact W_ret (finD1 [] (retTmp (t := 4) retNil) (.same _) (Kp.fin aKp))

noncomputable def m_impl_ProgramReaches (a0 : List GNode) (a1 : GChoice) (a2 : List GInstr) : Option (Bool × Bool) :=
  ((m_impl_IsExpr a0).bind fun x4 =>
    (if (!x4) then some true else (m_impl_areProgram a1 a2).bind fun x5 =>
    some (!x5))).bind fun X1 =>
  if X1 then
    some (false, false)
  else
    (m_impl_lastOf a2).bind fun x6 =>
    (m_impl_tableOf a0).bind fun x7 =>
    (m_impl_columnOf x7).bind fun x8 =>
    (m_slices_Equal_impl_column_uint8 x6 x8).bind fun x9 =>
    some (x9, true)

theorem run_impl_ProgramReaches {a0 : List GNode} {b0 : Bool} {a1 : GChoice} {a2 : List GInstr} {b2 : Bool} {R : Bool × Bool} (hm : m_impl_ProgramReaches a0 a1 a2 = some R) : Gives PG F_impl_ProgramReaches [PV.sl b0 (a0.map eGNode), eGChoice a1, PV.sl b2 (a2.map eGInstr)] (.tup [B R.1, B R.2]) := by
  intro p h
  unfold m_impl_ProgramReaches at hm
  refine fn_dec fn_impl_ProgramReaches ?_
  refine W_seq ?_
  refine W_region ?_
  refine WO_box sz_impl_Choice ?_
  refine WO_assign ?_
  refine WO_assign ?_
  refine WO_nil ?_
  refine W_seq ?_
  refine W_seq ?_
  obtain ⟨X1, hE1, hm⟩ := ob hm
  refine W_joinH (γ := Unit) [8, 9, 10, 11, 12, 13, 14, 15, 16] (fun b => [(16, B X1)]) ?_ ?_
  · refine W_region ?_
    refine WO_move ?_
    obtain ⟨x4, g3, hE1⟩ := ob hE1
    refine WO_callN (run_impl_IsExpr g3) ?_
    refine WO_not ?_
    refine WO_move ?_
    refine WO_ite 11 hE1 (fun hq hE1 => ?_) (fun hq hE1 => ?_)
    · refine WO_skip ?_
      refine WO_skip ?_
      refine WO_skip ?_
      refine WO_skip ?_
      refine WO_pick ?_
      refine WO_nil ?_
      cases hE1
      exact metH () ⟨rfl, trivial⟩ aOm
    · refine WO_loadS sz_impl_Choice ag_impl_Choice ?_
      refine WO_move ?_
      obtain ⟨x5, g4, hE1⟩ := ob hE1
      refine WO_callN (run_impl_areProgram g4) ?_
      refine WO_not ?_
      refine WO_pick ?_
      refine WO_nil ?_
      cases hE1
      exact metH () ⟨rfl, trivial⟩ aOm
  · intro bb1 e1 nx1 hn1
    refine W_ite hm (fun hq hm => ?_) (fun hq hm => ?_)
    · refine W_seq ?_
      refine W_region ?_
      refine WO_assign ?_
      refine WO_assign ?_
      refine WO_nil ?_
      cases hm
      exact W_ret (finD [] (retTmp (t := 6) (retTmp (t := 7) retNil)) (.cons _ _ _ _ (.same _) (.cons _ _ _ _ (.same _) .nil)) (Kp.fin aKp))
    · refine W_skip ?_
      refine W_seq ?_
      refine W_region ?_
      refine WO_move ?_
      obtain ⟨x6, g5, hm⟩ := ob hm
      refine WO_callN (run_impl_lastOf g5) ?_
      refine WO_move ?_
      obtain ⟨x7, g6, hm⟩ := ob hm
      refine WO_callN (run_impl_tableOf g6) ?_
      obtain ⟨x8, g7, hm⟩ := ob hm
      refine WO_callN (run_impl_columnOf g7) ?_
      obtain ⟨x9, g8, hm⟩ := ob hm
      refine WO_callN (run_slices_Equal_impl_column_uint8 g8) ?_
      refine WO_assign ?_
      refine WO_assign ?_
      refine WO_nil ?_
      cases hm
      exact W_ret (finD [] (retTmp (t := 6) (retTmp (t := 7) retNil)) (.cons _ _ _ _ (.same _) (.cons _ _ _ _ (.same _) .nil)) (Kp.fin aKp))

noncomputable def m_laws_eqNode (a0 : GNode) (a1 : GNode) : Bool :=
  if (!decide (a0.Op = a1.Op)) then
    false
  else
    if (a0.A != a1.A) then
      false
    else
      if (a0.B != a1.B) then
        false
      else
        if (a0.Value != a1.Value) then
          false
        else
          true

theorem run_laws_eqNode {a0 : GNode} {a1 : GNode} : Gives PG F_laws_eqNode [eGNode a0, eGNode a1] (B (m_laws_eqNode a0 a1)) := by
  intro p h
  generalize hm : m_laws_eqNode a0 a1 = R
  unfold m_laws_eqNode at hm
  refine fn_dec fn_laws_eqNode ?_
  refine W_seq ?_
  refine W_region ?_
  refine WO_box sz_impl_Node ?_
  refine WO_box sz_impl_Node ?_
  refine WO_assign ?_
  refine WO_nil ?_
  refine W_seq ?_
  refine W_seq ?_
  refine W_region ?_
  refine WO_fieldP fa_impl_Node_0 ?_
  refine WO_load1 sz_string ag_string ?_
  refine WO_fieldP fa_impl_Node_0 ?_
  refine WO_load1 sz_string ag_string ?_
  refine WO_neqS ?_
  refine WO_nil ?_
  refine W_ite hm (fun hq hm => ?_) (fun hq hm => ?_)
  · refine W_seq ?_
    refine W_region ?_
    refine WO_assign ?_
    refine WO_nil ?_
    cases hm
    exact W_ret (finD1 [] (retTmp (t := 4) retNil) (.same _) (Kp.fin aKp))
  · refine W_skip ?_
    refine W_seq ?_
    refine W_seq ?_
    refine W_region ?_
    refine WO_fieldP fa_impl_Node_1 ?_
    refine WO_load1 sz_int ag_int ?_
    refine WO_fieldP fa_impl_Node_1 ?_
    refine WO_load1 sz_int ag_int ?_
    refine WO_neq ?_
    refine WO_nil ?_
    refine W_ite hm (fun hq hm => ?_) (fun hq hm => ?_)
    · refine W_seq ?_
      refine W_region ?_
      refine WO_assign ?_
      refine WO_nil ?_
      cases hm
      exact W_ret (finD1 [] (retTmp (t := 4) retNil) (.same _) (Kp.fin aKp))
    · refine W_skip ?_
      refine W_seq ?_
      refine W_seq ?_
      refine W_region ?_
      refine WO_fieldP fa_impl_Node_2 ?_
      refine WO_load1 sz_int ag_int ?_
      refine WO_fieldP fa_impl_Node_2 ?_
      refine WO_load1 sz_int ag_int ?_
      refine WO_neq ?_
      refine WO_nil ?_
      refine W_ite hm (fun hq hm => ?_) (fun hq hm => ?_)
      · refine W_seq ?_
        refine W_region ?_
        refine WO_assign ?_
        refine WO_nil ?_
        cases hm
        exact W_ret (finD1 [] (retTmp (t := 4) retNil) (.same _) (Kp.fin aKp))
      · refine W_skip ?_
        refine W_seq ?_
        refine W_seq ?_
        refine W_region ?_
        refine WO_fieldP fa_impl_Node_3 ?_
        refine WO_load1 sz_int ag_int ?_
        refine WO_fieldP fa_impl_Node_3 ?_
        refine WO_load1 sz_int ag_int ?_
        refine WO_neq ?_
        refine WO_nil ?_
        refine W_ite hm (fun hq hm => ?_) (fun hq hm => ?_)
        · refine W_seq ?_
          refine W_region ?_
          refine WO_assign ?_
          refine WO_nil ?_
          cases hm
          exact W_ret (finD1 [] (retTmp (t := 4) retNil) (.same _) (Kp.fin aKp))
        · refine W_skip ?_
          refine W_seq ?_
          refine W_region ?_
          refine WO_assign ?_
          refine WO_nil ?_
          cases hm
          exact W_ret (finD1 [] (retTmp (t := 4) retNil) (.same _) (Kp.fin aKp))

noncomputable def m_laws_eqNodeS_l0 (a1 : List GNode) : List GNode → Int → Option Bool
  | [], i1 =>
    some true
  | x5 :: zs, i1 =>
    (getI a1 (i1 : Int)).bind fun x6 =>
    if (!(m_laws_eqNode x5 x6)) then
      some false
    else
      m_laws_eqNodeS_l0 a1 zs (i1 + 1)

noncomputable def m_laws_eqNodeS (a0 : List GNode) (a1 : List GNode) : Option Bool :=
  if ((a0.length : Int) != (a1.length : Int)) then
    some false
  else
    m_laws_eqNodeS_l0 a1 a0 0

theorem run_laws_eqNodeS {a0 : List GNode} {b0 : Bool} {a1 : List GNode} {b1 : Bool} {R : Bool} (hm : m_laws_eqNodeS a0 a1 = some R) : Gives PG F_laws_eqNodeS [PV.sl b0 (a0.map eGNode), PV.sl b1 (a1.map eGNode)] (B R) := by
  intro p h
  have hvac : ∀ k, ∃ s : St, k ≤ s.nx ∧ Fin PG Try.f21 27 p h (B R) .ret s := fun k => ⟨⟨fun i => if i = 4 then B R else default, k, h⟩, Nat.le_refl _, finD1 [] (retTmp (t := 4) retNil) (.same _) (fun _ => .inl rfl)⟩
  unfold m_laws_eqNodeS at hm
  refine fn_dec fn_laws_eqNodeS ?_
  refine W_seq ?_
  refine W_region ?_
  refine WO_assign ?_
  refine WO_nil ?_
  refine W_seq ?_
  refine W_seq ?_
  refine W_region ?_
  refine WO_move ?_
  refine D_len sl_S_impl_Node (e := eGNode) (xs := a0) ?_
  refine WO_move ?_
  refine D_len sl_S_impl_Node (e := eGNode) (xs := a1) ?_
  refine WO_neq ?_
  refine WO_nil ?_
  refine W_ite hm (fun hq hm => ?_) (fun hq hm => ?_)
  · refine W_seq ?_
    refine W_region ?_
    refine WO_assign ?_
    refine WO_nil ?_
    cases hm
    exact W_ret (finD1 [] (retTmp (t := 4) retNil) (.same _) (Kp.fin aKp))
  · refine W_skip ?_
    refine W_seq ?_
    refine W_seq ?_
    refine W_region ?_
    refine WO_assign ?_
    refine WO_nil ?_
    refine W_bnd 0 hvac (fun hb1 => ?_)
    rw [List.length_map] at hb1
    refine W_block ?_
    refine W_loopM (α := Nat) [4, 5, 11, 12, 13, 14, 15, 16, 17, 18, 19, 20, 21, 22, 23, 24, 25, 26] (fun a => [(5, I (a : Nat))]) (fun a nx' h' => 0 ≤ nx' ∧ Kp p [] h h' ∧ a ≤ a0.length ∧ m_laws_eqNodeS_l0 a1 (a0.drop a) (a : Int) = some R) (fun a => a0.length - a) 0 ⟨rfl, trivial⟩ ⟨aOm, aKp, Nat.zero_le _, hm⟩ (fun i1 e1 nx3 h1 hI => ?_)
    obtain ⟨hn1, hk1, hi1, hm⟩ := hI
    refine W_seq ?_
    refine W_seq ?_
    refine W_region ?_
    refine WO_move ?_
    refine WO_move ?_
    refine D_len sl_S_impl_Node (e := eGNode) (xs := a0) ?_
    refine WO_lss ?_
    refine WO_nil ?_
    refine W_cond (fun hq => ?_) (fun hq => ?_)
    · have hlt1 : (i1 : Int) < (a0.length : Int) := dec_lt hq
      obtain ⟨x5, hx1, hd1⟩ := lt_get (xs := a0) (i := i1) (by omega)
      rw [hd1, m_laws_eqNodeS_l0] at hm
      replace hx1 := getI_nat hx1
      refine W_skip ?_
      refine W_seq ?_
      refine W_block ?_
      refine W_seq ?_
      refine W_regionD [0, 0, 0, 0, 0, 0, 0, 0, 0, 0] mixed (by kernel_rfl) ?_
      refine WO_move ?_
      refine WO_move ?_
      refine D_index el_S_impl_Node sz_impl_Node hx1 ?_
      refine WO_loadI sz_impl_Node ag_impl_Node ?_
      refine WO_move ?_
      refine WO_move ?_
      obtain ⟨x6, g5, hm⟩ := ob hm
      refine D_index el_S_impl_Node sz_impl_Node g5 ?_
      refine WO_loadI sz_impl_Node ag_impl_Node ?_
      refine WO_callN (run_laws_eqNode (a0 := x5) (a1 := x6)) ?_
      refine WO_not ?_
      refine WO_nil ⟨rfl, ?_⟩
      refine W_ite hm (fun hq hm => ?_) (fun hq hm => ?_)
      · refine W_seq ?_
        refine W_region ?_
        refine WO_assign ?_
        refine WO_nil ?_
        cases hm
        exact W_ret (finD1 [] (retTmp (t := 4) retNil) (.same _) (Kp.fin aKp))
      · refine W_skip ?_
        refine W_region ?_
        refine WO_move ?_
        refine WO_succ ?_
        refine WO_assign ?_
        refine WO_nil ?_
        exact round (i1 + 1) ⟨rfl, trivial⟩ ⟨aOm, aKp, aOm, hm⟩ aOm
    · have hge1 : (a0.length : Int) ≤ (i1 : Int) := dec_ge hq
      rw [drop_len (by omega), m_laws_eqNodeS_l0] at hm
      refine W_exit ?_
      refine W_seq ?_
      refine W_region ?_
      refine WO_assign ?_
      refine WO_nil ?_
      cases hm
      exact W_ret (finD1 [] (retTmp (t := 4) retNil) (.same _) (Kp.fin aKp))

noncomputable def m_laws_eqInstr (a0 : GInstr) (a1 : GInstr) : Bool :=
  if (!decide (a0.Op = a1.Op)) then
    false
  else
    if (a0.Dst != a1.Dst) then
      false
    else
      if (a0.A != a1.A) then
        false
      else
        if (a0.B != a1.B) then
          false
        else
          if (a0.Imm != a1.Imm) then
            false
          else
            true

theorem run_laws_eqInstr {a0 : GInstr} {a1 : GInstr} : Gives PG F_laws_eqInstr [eGInstr a0, eGInstr a1] (B (m_laws_eqInstr a0 a1)) := by
  intro p h
  generalize hm : m_laws_eqInstr a0 a1 = R
  unfold m_laws_eqInstr at hm
  refine fn_dec fn_laws_eqInstr ?_
  refine W_seq ?_
  refine W_region ?_
  refine WO_box sz_impl_Instr ?_
  refine WO_box sz_impl_Instr ?_
  refine WO_assign ?_
  refine WO_nil ?_
  refine W_seq ?_
  refine W_seq ?_
  refine W_region ?_
  refine WO_fieldP fa_impl_Instr_0 ?_
  refine WO_load1 sz_string ag_string ?_
  refine WO_fieldP fa_impl_Instr_0 ?_
  refine WO_load1 sz_string ag_string ?_
  refine WO_neqS ?_
  refine WO_nil ?_
  refine W_ite hm (fun hq hm => ?_) (fun hq hm => ?_)
  · refine W_seq ?_
    refine W_region ?_
    refine WO_assign ?_
    refine WO_nil ?_
    cases hm
    exact W_ret (finD1 [] (retTmp (t := 4) retNil) (.same _) (Kp.fin aKp))
  · refine W_skip ?_
    refine W_seq ?_
    refine W_seq ?_
    refine W_region ?_
    refine WO_fieldP fa_impl_Instr_1 ?_
    refine WO_load1 sz_int ag_int ?_
    refine WO_fieldP fa_impl_Instr_1 ?_
    refine WO_load1 sz_int ag_int ?_
    refine WO_neq ?_
    refine WO_nil ?_
    refine W_ite hm (fun hq hm => ?_) (fun hq hm => ?_)
    · refine W_seq ?_
      refine W_region ?_
      refine WO_assign ?_
      refine WO_nil ?_
      cases hm
      exact W_ret (finD1 [] (retTmp (t := 4) retNil) (.same _) (Kp.fin aKp))
    · refine W_skip ?_
      refine W_seq ?_
      refine W_seq ?_
      refine W_region ?_
      refine WO_fieldP fa_impl_Instr_2 ?_
      refine WO_load1 sz_int ag_int ?_
      refine WO_fieldP fa_impl_Instr_2 ?_
      refine WO_load1 sz_int ag_int ?_
      refine WO_neq ?_
      refine WO_nil ?_
      refine W_ite hm (fun hq hm => ?_) (fun hq hm => ?_)
      · refine W_seq ?_
        refine W_region ?_
        refine WO_assign ?_
        refine WO_nil ?_
        cases hm
        exact W_ret (finD1 [] (retTmp (t := 4) retNil) (.same _) (Kp.fin aKp))
      · refine W_skip ?_
        refine W_seq ?_
        refine W_seq ?_
        refine W_region ?_
        refine WO_fieldP fa_impl_Instr_3 ?_
        refine WO_load1 sz_int ag_int ?_
        refine WO_fieldP fa_impl_Instr_3 ?_
        refine WO_load1 sz_int ag_int ?_
        refine WO_neq ?_
        refine WO_nil ?_
        refine W_ite hm (fun hq hm => ?_) (fun hq hm => ?_)
        · refine W_seq ?_
          refine W_region ?_
          refine WO_assign ?_
          refine WO_nil ?_
          cases hm
          exact W_ret (finD1 [] (retTmp (t := 4) retNil) (.same _) (Kp.fin aKp))
        · refine W_skip ?_
          refine W_seq ?_
          refine W_seq ?_
          refine W_region ?_
          refine WO_fieldP fa_impl_Instr_4 ?_
          refine WO_load1 sz_int ag_int ?_
          refine WO_fieldP fa_impl_Instr_4 ?_
          refine WO_load1 sz_int ag_int ?_
          refine WO_neq ?_
          refine WO_nil ?_
          refine W_ite hm (fun hq hm => ?_) (fun hq hm => ?_)
          · refine W_seq ?_
            refine W_region ?_
            refine WO_assign ?_
            refine WO_nil ?_
            cases hm
            exact W_ret (finD1 [] (retTmp (t := 4) retNil) (.same _) (Kp.fin aKp))
          · refine W_skip ?_
            refine W_seq ?_
            refine W_region ?_
            refine WO_assign ?_
            refine WO_nil ?_
            cases hm
            exact W_ret (finD1 [] (retTmp (t := 4) retNil) (.same _) (Kp.fin aKp))

noncomputable def m_laws_eqInstrS_l0 (a1 : List GInstr) : List GInstr → Int → Option Bool
  | [], i1 =>
    some true
  | x5 :: zs, i1 =>
    (getI a1 (i1 : Int)).bind fun x6 =>
    if (!(m_laws_eqInstr x5 x6)) then
      some false
    else
      m_laws_eqInstrS_l0 a1 zs (i1 + 1)

noncomputable def m_laws_eqInstrS (a0 : List GInstr) (a1 : List GInstr) : Option Bool :=
  if ((a0.length : Int) != (a1.length : Int)) then
    some false
  else
    m_laws_eqInstrS_l0 a1 a0 0

theorem run_laws_eqInstrS {a0 : List GInstr} {b0 : Bool} {a1 : List GInstr} {b1 : Bool} {R : Bool} (hm : m_laws_eqInstrS a0 a1 = some R) : Gives PG F_laws_eqInstrS [PV.sl b0 (a0.map eGInstr), PV.sl b1 (a1.map eGInstr)] (B R) := by
  intro p h
  have hvac : ∀ k, ∃ s : St, k ≤ s.nx ∧ Fin PG Try.f22 27 p h (B R) .ret s := fun k => ⟨⟨fun i => if i = 4 then B R else default, k, h⟩, Nat.le_refl _, finD1 [] (retTmp (t := 4) retNil) (.same _) (fun _ => .inl rfl)⟩
  unfold m_laws_eqInstrS at hm
  refine fn_dec fn_laws_eqInstrS ?_
  refine W_seq ?_
  refine W_region ?_
  refine WO_assign ?_
  refine WO_nil ?_
  refine W_seq ?_
  refine W_seq ?_
  refine W_region ?_
  refine WO_move ?_
  refine D_len sl_S_impl_Instr (e := eGInstr) (xs := a0) ?_
  refine WO_move ?_
  refine D_len sl_S_impl_Instr (e := eGInstr) (xs := a1) ?_
  refine WO_neq ?_
  refine WO_nil ?_
  refine W_ite hm (fun hq hm => ?_) (fun hq hm => ?_)
  · refine W_seq ?_
    refine W_region ?_
    refine WO_assign ?_
    refine WO_nil ?_
    cases hm
    exact W_ret (finD1 [] (retTmp (t := 4) retNil) (.same _) (Kp.fin aKp))
  · refine W_skip ?_
    refine W_seq ?_
    refine W_seq ?_
    refine W_region ?_
    refine WO_assign ?_
    refine WO_nil ?_
    refine W_bnd 0 hvac (fun hb1 => ?_)
    rw [List.length_map] at hb1
    refine W_block ?_
    refine W_loopM (α := Nat) [4, 5, 11, 12, 13, 14, 15, 16, 17, 18, 19, 20, 21, 22, 23, 24, 25, 26] (fun a => [(5, I (a : Nat))]) (fun a nx' h' => 0 ≤ nx' ∧ Kp p [] h h' ∧ a ≤ a0.length ∧ m_laws_eqInstrS_l0 a1 (a0.drop a) (a : Int) = some R) (fun a => a0.length - a) 0 ⟨rfl, trivial⟩ ⟨aOm, aKp, Nat.zero_le _, hm⟩ (fun i1 e1 nx3 h1 hI => ?_)
    obtain ⟨hn1, hk1, hi1, hm⟩ := hI
    refine W_seq ?_
    refine W_seq ?_
    refine W_region ?_
    refine WO_move ?_
    refine WO_move ?_
    refine D_len sl_S_impl_Instr (e := eGInstr) (xs := a0) ?_
    refine WO_lss ?_
    refine WO_nil ?_
    refine W_cond (fun hq => ?_) (fun hq => ?_)
    · have hlt1 : (i1 : Int) < (a0.length : Int) := dec_lt hq
      obtain ⟨x5, hx1, hd1⟩ := lt_get (xs := a0) (i := i1) (by omega)
      rw [hd1, m_laws_eqInstrS_l0] at hm
      replace hx1 := getI_nat hx1
      refine W_skip ?_
      refine W_seq ?_
      refine W_block ?_
      refine W_seq ?_
      refine W_regionD [0, 0, 0, 0, 0, 0, 0, 0, 0, 0] mixed (by kernel_rfl) ?_
      refine WO_move ?_
      refine WO_move ?_
      refine D_index el_S_impl_Instr sz_impl_Instr hx1 ?_
      refine WO_loadI sz_impl_Instr ag_impl_Instr ?_
      refine WO_move ?_
      refine WO_move ?_
      obtain ⟨x6, g5, hm⟩ := ob hm
      refine D_index el_S_impl_Instr sz_impl_Instr g5 ?_
      refine WO_loadI sz_impl_Instr ag_impl_Instr ?_
      refine WO_callN (run_laws_eqInstr (a0 := x5) (a1 := x6)) ?_
      refine WO_not ?_
      refine WO_nil ⟨rfl, ?_⟩
      refine W_ite hm (fun hq hm => ?_) (fun hq hm => ?_)
      · refine W_seq ?_
        refine W_region ?_
        refine WO_assign ?_
        refine WO_nil ?_
        cases hm
        exact W_ret (finD1 [] (retTmp (t := 4) retNil) (.same _) (Kp.fin aKp))
      · refine W_skip ?_
        refine W_region ?_
        refine WO_move ?_
        refine WO_succ ?_
        refine WO_assign ?_
        refine WO_nil ?_
        exact round (i1 + 1) ⟨rfl, trivial⟩ ⟨aOm, aKp, aOm, hm⟩ aOm
    · have hge1 : (a0.length : Int) ≤ (i1 : Int) := dec_ge hq
      rw [drop_len (by omega), m_laws_eqInstrS_l0] at hm
      refine W_exit ?_
      refine W_seq ?_
      refine W_region ?_
      refine WO_assign ?_
      refine WO_nil ?_
      cases hm
      exact W_ret (finD1 [] (retTmp (t := 4) retNil) (.same _) (Kp.fin aKp))

noncomputable def m_laws_FnExactProgramReaches (a0 : List GNode) (a1 : GChoice) (a2 : List GInstr) : Option Bool :=
  if (decide ((m_laws_szNodeS a0 1048576) < 0)) then
    some true
  else
    if (decide ((m_laws_szChoice a1 (m_laws_szNodeS a0 1048576)) < 0)) then
      some true
    else
      if (decide ((m_laws_szInstrS a2 (m_laws_szChoice a1 (m_laws_szNodeS a0 1048576))) < 0)) then
        some true
      else
        (m_laws_toNodeS a0).bind fun x1 =>
        (m_laws_toChoice a1).bind fun x2 =>
        (m_laws_toInstrS a2).bind fun x3 =>
        (m_spec_ProgramReaches x1 x2 x3).bind fun x4 =>
        (m_laws_toNodeS a0).bind fun x5 =>
        (m_laws_toChoice a1).bind fun x6 =>
        (m_laws_toInstrS a2).bind fun x7 =>
        (m_impl_ProgramReaches x5 x6 x7).bind fun x8 =>
        bd (((x8.1 != x4.1) || (x8.2 != x4.2))) fun X1 =>
        if X1 then
          some false
        else
          (m_laws_toNodeS a0).bind fun x10 =>
          (m_laws_eqNodeS x5 x10).bind fun x11 =>
          if (!x11) then
            some false
          else
            (m_laws_toChoice a1).bind fun x12 =>
            (m_laws_eqChoice x6 x12).bind fun x13 =>
            if (!x13) then
              some false
            else
              (m_laws_toInstrS a2).bind fun x14 =>
              (m_laws_eqInstrS x7 x14).bind fun x15 =>
              if (!x15) then
                some false
              else
                some true

theorem run_laws_FnExactProgramReaches {a0 : List GNode} {b0 : Bool} {a1 : GChoice} {a2 : List GInstr} {b2 : Bool} {R : Bool} (hm : m_laws_FnExactProgramReaches a0 a1 a2 = some R) : Gives PG F_laws_FnExactProgramReaches [PV.sl b0 (a0.map eGNode), eGChoice a1, PV.sl b2 (a2.map eGInstr)] (B R) := by
  intro p h
  unfold m_laws_FnExactProgramReaches at hm
  refine fn_dec fn_laws_FnExactProgramReaches ?_
  refine W_seq ?_
  refine W_region ?_
  refine WO_box sz_laws_Choice ?_
  refine WO_assign ?_
  refine WO_nil ?_
  refine W_seq ?_
  refine W_region ?_
  refine WO_assign ?_
  refine WO_nil ?_
  refine W_seq ?_
  refine W_region ?_
  refine WO_move ?_
  refine WO_move ?_
  refine WO_callN (run_laws_szNodeS (a0 := a0) (a1 := 1048576)) ?_
  refine WO_assign ?_
  refine WO_nil ?_
  refine W_seq ?_
  refine W_seq ?_
  refine W_region ?_
  refine WO_move ?_
  refine WO_lss ?_
  refine WO_nil ?_
  refine W_ite hm (fun hq hm => ?_) (fun hq hm => ?_)
  · refine W_seq ?_
    refine W_region ?_
    refine WO_assign ?_
    refine WO_nil ?_
    cases hm
    exact W_ret (finD1 [] (retTmp (t := 6) retNil) (.same _) (Kp.fin aKp))
  · refine W_skip ?_
    refine W_seq ?_
    refine W_region ?_
    refine WO_loadS sz_laws_Choice ag_laws_Choice ?_
    refine WO_move ?_
    refine WO_callN (run_laws_szChoice (a0 := a1) (a1 := (m_laws_szNodeS a0 1048576))) ?_
    refine WO_assign ?_
    refine WO_nil ?_
    refine W_seq ?_
    refine W_seq ?_
    refine W_region ?_
    refine WO_move ?_
    refine WO_lss ?_
    refine WO_nil ?_
    refine W_ite hm (fun hq hm => ?_) (fun hq hm => ?_)
    · refine W_seq ?_
      refine W_region ?_
      refine WO_assign ?_
      refine WO_nil ?_
      cases hm
      exact W_ret (finD1 [] (retTmp (t := 6) retNil) (.same _) (Kp.fin aKp))
    · refine W_skip ?_
      refine W_seq ?_
      refine W_region ?_
      refine WO_move ?_
      refine WO_move ?_
      refine WO_callN (run_laws_szInstrS (a0 := a2) (a1 := (m_laws_szChoice a1 (m_laws_szNodeS a0 1048576)))) ?_
      refine WO_assign ?_
      refine WO_nil ?_
      refine W_seq ?_
      refine W_seq ?_
      refine W_region ?_
      refine WO_move ?_
      refine WO_lss ?_
      refine WO_nil ?_
      refine W_ite hm (fun hq hm => ?_) (fun hq hm => ?_)
      · refine W_seq ?_
        refine W_region ?_
        refine WO_assign ?_
        refine WO_nil ?_
        cases hm
        exact W_ret (finD1 [] (retTmp (t := 6) retNil) (.same _) (Kp.fin aKp))
      · refine W_skip ?_
        refine W_seq ?_
        refine W_regionD [0, 0, 1, 0, 0, 0, 0, 0, 0, 0, 0, 0] mixed (by kernel_rfl) ?_
        refine WO_move ?_
        obtain ⟨x1, g1, hm⟩ := ob hm
        refine WO_callN (run_laws_toNodeS g1) ?_
        refine WO_loadS sz_laws_Choice ag_laws_Choice ?_
        obtain ⟨x2, g2, hm⟩ := ob hm
        refine WO_callN (run_laws_toChoice g2) ?_
        refine WO_move ?_
        obtain ⟨x3, g3, hm⟩ := ob hm
        refine WO_callN (run_laws_toInstrS g3) ?_
        obtain ⟨x4, g4, hm⟩ := ob hm
        refine WO_callN (run_spec_ProgramReaches g4) ?_
        refine WO_move ?_
        refine WO_extract ?_
        refine WO_extract ?_
        refine WO_assign ?_
        refine WO_assign ?_
        refine WO_nil ⟨rfl, ?_⟩
        refine W_seq ?_
        refine W_region ?_
        refine WO_move ?_
        obtain ⟨x5, g5, hm⟩ := ob hm
        refine WO_callN (run_laws_toNodeS g5) ?_
        refine WO_assign ?_
        refine WO_nil ?_
        refine W_seq ?_
        refine W_region ?_
        refine WO_loadS sz_laws_Choice ag_laws_Choice ?_
        obtain ⟨x6, g6, hm⟩ := ob hm
        refine WO_callN (run_laws_toChoice g6) ?_
        refine WO_alloc sz_impl_Choice zo_impl_Choice ?_
        refine WO_store sz_impl_Choice ?_
        refine WO_nil ?_
        refine W_seq ?_
        refine W_region ?_
        refine WO_move ?_
        obtain ⟨x7, g7, hm⟩ := ob hm
        refine WO_callN (run_laws_toInstrS g7) ?_
        refine WO_assign ?_
        refine WO_nil ?_
        refine W_seq ?_
        refine W_region ?_
        refine WO_move ?_
        refine WO_loadS sz_impl_Choice ag_impl_Choice ?_
        refine WO_move ?_
        obtain ⟨x8, g8, hm⟩ := ob hm
        refine WO_callN (run_impl_ProgramReaches g8) ?_
        refine WO_move ?_
        refine WO_extract ?_
        refine WO_extract ?_
        refine WO_assign ?_
        refine WO_assign ?_
        refine WO_nil ?_
        refine W_seq ?_
        refine W_seq ?_
        obtain ⟨X1, hE1, hm⟩ := obd hm
        refine W_joinH (γ := Unit) [53, 54, 55, 56, 57, 58, 59, 60] (fun b => [(60, B X1)]) ?_ ?_
        · refine W_region ?_
          refine WO_move ?_
          refine WO_move ?_
          refine WO_neqB bo_bool ?_
          refine WO_move ?_
          refine WO_ior 56 hE1 (fun hq hE1 => ?_) (fun hq hE1 => ?_)
          · refine WO_skip ?_
            refine WO_skip ?_
            refine WO_skip ?_
            refine WO_pick ?_
            refine WO_nil ?_
            cases hE1
            exact metH () ⟨rfl, trivial⟩ aOm
          · refine WO_move ?_
            refine WO_move ?_
            refine WO_neqB bo_bool ?_
            refine WO_pick ?_
            refine WO_nil ?_
            cases hE1
            exact metH () ⟨rfl, trivial⟩ aOm
        · intro bb1 e1 nx1 hn1
          refine W_ite hm (fun hq hm => ?_) (fun hq hm => ?_)
          · refine W_seq ?_
            refine W_region ?_
            refine WO_assign ?_
            refine WO_nil ?_
            cases hm
            exact W_ret (finD1 [] (retTmp (t := 6) retNil) (.same _) (Kp.fin aKp))
          · refine W_skip ?_
            refine W_seq ?_
            refine W_seq ?_
            refine W_region ?_
            refine WO_move ?_
            refine WO_move ?_
            obtain ⟨x10, g9, hm⟩ := ob hm
            refine WO_callN (run_laws_toNodeS g9) ?_
            obtain ⟨x11, g10, hm⟩ := ob hm
            refine WO_callN (run_laws_eqNodeS g10) ?_
            refine WO_not ?_
            refine WO_nil ?_
            refine W_ite hm (fun hq hm => ?_) (fun hq hm => ?_)
            · refine W_seq ?_
              refine W_region ?_
              refine WO_assign ?_
              refine WO_nil ?_
              cases hm
              exact W_ret (finD1 [] (retTmp (t := 6) retNil) (.same _) (Kp.fin aKp))
            · refine W_skip ?_
              refine W_seq ?_
              refine W_seq ?_
              refine W_regionD [1, 1, 0, 0, 0] mixed (by kernel_rfl) ?_
              refine WO_loadS sz_impl_Choice ag_impl_Choice ?_
              refine WO_loadS sz_laws_Choice ag_laws_Choice ?_
              obtain ⟨x12, g11, hm⟩ := ob hm
              refine WO_callN (run_laws_toChoice g11) ?_
              obtain ⟨x13, g12, hm⟩ := ob hm
              refine WO_callN (run_laws_eqChoice g12) ?_
              refine WO_not ?_
              refine WO_nil ⟨rfl, ?_⟩
              refine W_ite hm (fun hq hm => ?_) (fun hq hm => ?_)
              · refine W_seq ?_
                refine W_region ?_
                refine WO_assign ?_
                refine WO_nil ?_
                cases hm
                exact W_ret (finD1 [] (retTmp (t := 6) retNil) (.same _) (Kp.fin aKp))
              · refine W_skip ?_
                refine W_seq ?_
                refine W_seq ?_
                refine W_region ?_
                refine WO_move ?_
                refine WO_move ?_
                obtain ⟨x14, g13, hm⟩ := ob hm
                refine WO_callN (run_laws_toInstrS g13) ?_
                obtain ⟨x15, g14, hm⟩ := ob hm
                refine WO_callN (run_laws_eqInstrS g14) ?_
                refine WO_not ?_
                refine WO_nil ?_
                refine W_ite hm (fun hq hm => ?_) (fun hq hm => ?_)
                · refine W_seq ?_
                  refine W_region ?_
                  refine WO_assign ?_
                  refine WO_nil ?_
                  cases hm
                  exact W_ret (finD1 [] (retTmp (t := 6) retNil) (.same _) (Kp.fin aKp))
                · refine W_skip ?_
                  refine W_seq ?_
                  refine W_region ?_
                  refine WO_assign ?_
                  refine WO_nil ?_
                  cases hm
                  exact W_ret (finD1 [] (retTmp (t := 6) retNil) (.same _) (Kp.fin aKp))

end Go.Proofs.Ytpfdeoapnpcbaaa
