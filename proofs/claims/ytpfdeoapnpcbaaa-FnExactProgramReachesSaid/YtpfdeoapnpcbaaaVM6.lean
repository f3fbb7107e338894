/-
  What is proved here: what functions of the program give, as functions over lists and numbers.
  Conditions: none.
-/
import Derived.Test.YtpfdeoapnpcbaaaVM5
set_option linter.unusedSectionVars false
namespace Go.Proofs.Ytpfdeoapnpcbaaa
open Go.Vs
set_option linter.unusedVariables false
set_option linter.unusedSimpArgs false
set_option maxHeartbeats 4000000
set_option maxRecDepth 4000
attribute [local irreducible] upd del

noncomputable def m_laws_toNodeS_l0 : List GNode → Int → (List GNode) → Option (List GNode)
  | [], i1, s4 =>
    some s4
  | x3 :: zs, i1, s4 =>
    (setI s4 (i1 : Int) (m_laws_toNode x3)).bind fun c4 =>
    m_laws_toNodeS_l0 zs (i1 + 1) c4

noncomputable def m_laws_toNodeS (a0 : List GNode) : Option (List GNode) :=
  (makI (a0.length : Int) (⟨ByteArray.empty, 0, 0, 0⟩ : GNode)).bind fun c1 =>
  (m_laws_toNodeS_l0 a0 0 c1).bind fun X1 =>
  some X1

theorem run_laws_toNodeS {a0 : List GNode} {b0 : Bool} {R : (List GNode)} (hm : m_laws_toNodeS a0 = some R) : Gives PG F_laws_toNodeS [PV.sl b0 (a0.map eGNode)] (PV.sl false (R.map eGNode)) := by
  intro p h
  have hvac : ∀ k, ∃ s : St, k ≤ s.nx ∧ Fin PG Try.f37 23 p h (PV.sl false (R.map eGNode)) .ret s := fun k => ⟨⟨fun i => if i = 2 then PV.sl false (R.map eGNode) else default, k, h⟩, Nat.le_refl _, finD1 [] (retTmp (t := 2) retNil) (.same _) (fun _ => .inl rfl)⟩
  unfold m_laws_toNodeS at hm
  refine fn_dec fn_laws_toNodeS ?_
  refine W_seq ?_
  refine W_region ?_
  refine WO_assign ?_
  refine WO_nil ?_
  refine W_seq ?_
  refine W_region ?_
  refine WO_move ?_
  refine D_len sl_S_laws_Node (e := eGNode) (xs := a0) ?_
  obtain ⟨c1, g1, hm⟩ := ob hm
  refine D_make el_S_impl_Node sz_impl_Node zo_impl_Node b3_impl_Node g1 (e := eGNode) rfl ?_
  have hl1 := makI_len g1
  refine WO_assign ?_
  refine WO_nil ?_
  refine W_seq ?_
  refine W_seq ?_
  refine W_region ?_
  refine WO_assign ?_
  refine WO_nil ?_
  refine W_bnd 0 hvac (fun hb1 => ?_)
  rw [List.length_map] at hb1
  obtain ⟨X1, hE1, hm⟩ := ob hm
  refine W_block ?_
  refine W_loopM (α := Nat × (List GNode)) [4, 8, 9, 10, 11, 12, 13, 14, 15, 16, 17, 18, 19, 20, 21] (fun a => [(4, I (a.1 : Nat))]) (fun a nx' h' => 1 ≤ nx' ∧ Kp p [] h h' ∧ a.1 ≤ a0.length ∧ (h' (p ++ [0]) = some ⟨0, 4, a.2.map eGNode⟩) ∧ (a.2.length = c1.length ∧ c1.length ≤ LIM) ∧ m_laws_toNodeS_l0 (a0.drop a.1) (a.1 : Int) a.2 = some X1) (fun a => a0.length - a.1) (0, c1) ⟨rfl, trivial⟩ ⟨aOm, aKp, Nat.zero_le _, aLk, hl1, hE1⟩ (fun a e1 nx3 h1 hI => ?_)
  obtain ⟨i1, s4⟩ := a
  obtain ⟨hn1, hk1, hi1, hr1, hl6, hE1⟩ := hI
  refine W_seq ?_
  refine W_seq ?_
  refine W_region ?_
  refine WO_move ?_
  refine WO_move ?_
  refine D_len sl_S_laws_Node (e := eGNode) (xs := a0) ?_
  refine WO_lss ?_
  refine WO_nil ?_
  refine W_cond (fun hq => ?_) (fun hq => ?_)
  · have hlt1 : (i1 : Int) < (a0.length : Int) := dec_lt hq
    obtain ⟨x3, hx1, hd1⟩ := lt_get (xs := a0) (i := i1) (by omega)
    rw [hd1, m_laws_toNodeS_l0] at hE1
    replace hx1 := getI_nat hx1
    refine W_skip ?_
    refine W_seq ?_
    refine W_block ?_
    refine W_region ?_
    refine WO_move ?_
    refine WO_move ?_
    refine WO_move ?_
    refine WO_move ?_
    refine D_index el_S_laws_Node sz_laws_Node hx1 ?_
    refine WO_loadI sz_laws_Node ag_laws_Node ?_
    refine WO_callN (run_laws_toNode (a0 := x3)) ?_
    obtain ⟨c4, g6, hE1⟩ := ob hE1
    refine D_indexW el_S_impl_Node sz_impl_Node g6 hl6 ?_
    refine D_stSR sz_impl_Node g6 (e := eGNode) ?_
    have hl7 := setI_len g6 hl6
    refine WO_nil ?_
    refine W_region ?_
    refine WO_move ?_
    refine WO_succ ?_
    refine WO_assign ?_
    refine WO_nil ?_
    exact round ((i1 + 1), c4) ⟨rfl, trivial⟩ ⟨aOm, aKp, aOm, aLk, hl7, hE1⟩ aOm
  · have hge1 : (a0.length : Int) ≤ (i1 : Int) := dec_ge hq
    rw [drop_len (by omega), m_laws_toNodeS_l0] at hE1
    refine W_exit ?_
    cases hE1
    try dsimp only at hm
    refine W_seq ?_
    refine W_region ?_
    refine WO_move ?_
    refine WO_assign ?_
    refine WO_nil ?_
    cases hm
    exact W_ret (finD1 [(p ++ [0])] (retTmp (t := 2) retNil) (FV.rowL hl6) (Kp.fin aKp))

noncomputable def m_laws_toInstr (a0 : GInstr) : GInstr :=
  { { { { { (⟨ByteArray.empty, 0, 0, 0, 0⟩ : GInstr) with Op := a0.Op } with Dst := a0.Dst } with A := a0.A } with B := a0.B } with Imm := a0.Imm }

theorem run_laws_toInstr {a0 : GInstr} : Gives PG F_laws_toInstr [eGInstr a0] (eGInstr (m_laws_toInstr a0)) := by
  intro p h
  generalize hm : m_laws_toInstr a0 = R
  unfold m_laws_toInstr at hm
  refine fn_dec fn_laws_toInstr ?_
  refine W_seq ?_
  refine W_region ?_
  refine WO_box sz_laws_Instr ?_
  refine WO_alloc sz_impl_Instr zo_impl_Instr ?_
  refine WO_nil ?_
  refine W_seq ?_
  refine W_region ?_
  refine WO_alloc sz_impl_Instr zo_impl_Instr ?_
  refine WO_nil ?_
  refine W_seq ?_
  refine W_region ?_
  refine WO_fieldP fa_laws_Instr_0 ?_
  refine WO_load1 sz_string ag_string ?_
  refine WO_fieldP fa_impl_Instr_0 ?_
  refine WO_store sz_string ?_
  refine WO_nil ?_
  refine W_seq ?_
  refine W_region ?_
  refine WO_fieldP fa_laws_Instr_1 ?_
  refine WO_load1 sz_int ag_int ?_
  refine WO_fieldP fa_impl_Instr_1 ?_
  refine WO_store sz_int ?_
  refine WO_nil ?_
  refine W_seq ?_
  refine W_region ?_
  refine WO_fieldP fa_laws_Instr_2 ?_
  refine WO_load1 sz_int ag_int ?_
  refine WO_fieldP fa_impl_Instr_2 ?_
  refine WO_store sz_int ?_
  refine WO_nil ?_
  refine W_seq ?_
  refine W_region ?_
  refine WO_fieldP fa_laws_Instr_3 ?_
  refine WO_load1 sz_int ag_int ?_
  refine WO_fieldP fa_impl_Instr_3 ?_
  refine WO_store sz_int ?_
  refine WO_nil ?_
  refine W_seq ?_
  refine W_region ?_
  refine WO_fieldP fa_laws_Instr_4 ?_
  refine WO_load1 sz_int ag_int ?_
  refine WO_fieldP fa_impl_Instr_4 ?_
  refine WO_store sz_int ?_
  refine WO_nil ?_
  refine W_seq ?_
  refine W_region ?_
  refine WO_loadS sz_impl_Instr ag_impl_Instr ?_
  refine WO_store sz_impl_Instr ?_
  refine WO_nil ?_
  cases hm
  exact W_ret (finD1 [] (retCell (a := 2) sz_impl_Instr ag_impl_Instr retNil) (.same _) (Kp.fin aKp))

noncomputable def m_laws_toInstrS_l0 : List GInstr → Int → (List GInstr) → Option (List GInstr)
  | [], i1, s4 =>
    some s4
  | x3 :: zs, i1, s4 =>
    (setI s4 (i1 : Int) (m_laws_toInstr x3)).bind fun c4 =>
    m_laws_toInstrS_l0 zs (i1 + 1) c4

noncomputable def m_laws_toInstrS (a0 : List GInstr) : Option (List GInstr) :=
  (makI (a0.length : Int) (⟨ByteArray.empty, 0, 0, 0, 0⟩ : GInstr)).bind fun c1 =>
  (m_laws_toInstrS_l0 a0 0 c1).bind fun X1 =>
  some X1

theorem run_laws_toInstrS {a0 : List GInstr} {b0 : Bool} {R : (List GInstr)} (hm : m_laws_toInstrS a0 = some R) : Gives PG F_laws_toInstrS [PV.sl b0 (a0.map eGInstr)] (PV.sl false (R.map eGInstr)) := by
  intro p h
  have hvac : ∀ k, ∃ s : St, k ≤ s.nx ∧ Fin PG Try.f19 23 p h (PV.sl false (R.map eGInstr)) .ret s := fun k => ⟨⟨fun i => if i = 2 then PV.sl false (R.map eGInstr) else default, k, h⟩, Nat.le_refl _, finD1 [] (retTmp (t := 2) retNil) (.same _) (fun _ => .inl rfl)⟩
  unfold m_laws_toInstrS at hm
  refine fn_dec fn_laws_toInstrS ?_
  refine W_seq ?_
  refine W_region ?_
  refine WO_assign ?_
  refine WO_nil ?_
  refine W_seq ?_
  refine W_region ?_
  refine WO_move ?_
  refine D_len sl_S_laws_Instr (e := eGInstr) (xs := a0) ?_
  obtain ⟨c1, g1, hm⟩ := ob hm
  refine D_make el_S_impl_Instr sz_impl_Instr zo_impl_Instr b3_impl_Instr g1 (e := eGInstr) rfl ?_
  have hl1 := makI_len g1
  refine WO_assign ?_
  refine WO_nil ?_
  refine W_seq ?_
  refine W_seq ?_
  refine W_region ?_
  refine WO_assign ?_
  refine WO_nil ?_
  refine W_bnd 0 hvac (fun hb1 => ?_)
  rw [List.length_map] at hb1
  obtain ⟨X1, hE1, hm⟩ := ob hm
  refine W_block ?_
  refine W_loopM (α := Nat × (List GInstr)) [4, 8, 9, 10, 11, 12, 13, 14, 15, 16, 17, 18, 19, 20, 21] (fun a => [(4, I (a.1 : Nat))]) (fun a nx' h' => 1 ≤ nx' ∧ Kp p [] h h' ∧ a.1 ≤ a0.length ∧ (h' (p ++ [0]) = some ⟨0, 5, a.2.map eGInstr⟩) ∧ (a.2.length = c1.length ∧ c1.length ≤ LIM) ∧ m_laws_toInstrS_l0 (a0.drop a.1) (a.1 : Int) a.2 = some X1) (fun a => a0.length - a.1) (0, c1) ⟨rfl, trivial⟩ ⟨aOm, aKp, Nat.zero_le _, aLk, hl1, hE1⟩ (fun a e1 nx3 h1 hI => ?_)
  obtain ⟨i1, s4⟩ := a
  obtain ⟨hn1, hk1, hi1, hr1, hl6, hE1⟩ := hI
  refine W_seq ?_
  refine W_seq ?_
  refine W_region ?_
  refine WO_move ?_
  refine WO_move ?_
  refine D_len sl_S_laws_Instr (e := eGInstr) (xs := a0) ?_
  refine WO_lss ?_
  refine WO_nil ?_
  refine W_cond (fun hq => ?_) (fun hq => ?_)
  · have hlt1 : (i1 : Int) < (a0.length : Int) := dec_lt hq
    obtain ⟨x3, hx1, hd1⟩ := lt_get (xs := a0) (i := i1) (by omega)
    rw [hd1, m_laws_toInstrS_l0] at hE1
    replace hx1 := getI_nat hx1
    refine W_skip ?_
    refine W_seq ?_
    refine W_block ?_
    refine W_region ?_
    refine WO_move ?_
    refine WO_move ?_
    refine WO_move ?_
    refine WO_move ?_
    refine D_index el_S_laws_Instr sz_laws_Instr hx1 ?_
    refine WO_loadI sz_laws_Instr ag_laws_Instr ?_
    refine WO_callN (run_laws_toInstr (a0 := x3)) ?_
    obtain ⟨c4, g6, hE1⟩ := ob hE1
    refine D_indexW el_S_impl_Instr sz_impl_Instr g6 hl6 ?_
    refine D_stSR sz_impl_Instr g6 (e := eGInstr) ?_
    have hl7 := setI_len g6 hl6
    refine WO_nil ?_
    refine W_region ?_
    refine WO_move ?_
    refine WO_succ ?_
    refine WO_assign ?_
    refine WO_nil ?_
    exact round ((i1 + 1), c4) ⟨rfl, trivial⟩ ⟨aOm, aKp, aOm, aLk, hl7, hE1⟩ aOm
  · have hge1 : (a0.length : Int) ≤ (i1 : Int) := dec_ge hq
    rw [drop_len (by omega), m_laws_toInstrS_l0] at hE1
    refine W_exit ?_
    cases hE1
    try dsimp only at hm
    refine W_seq ?_
    refine W_region ?_
    refine WO_move ?_
    refine WO_assign ?_
    refine WO_nil ?_
    cases hm
    exact W_ret (finD1 [(p ++ [0])] (retTmp (t := 2) retNil) (FV.rowL hl6) (Kp.fin aKp))

noncomputable def m_spec_exWord (a0 : Int) : Bool :=
  (m_spec_l1In a0 0 63)

theorem run_spec_exWord {a0 : Int} : Gives PG F_spec_exWord [I a0] (B (m_spec_exWord a0)) := by
  intro p h
  generalize hm : m_spec_exWord a0 = R
  unfold m_spec_exWord at hm
  refine fn_dec fn_spec_exWord ?_
  refine W_seq ?_
  refine W_region ?_
  refine WO_assign ?_
  refine WO_nil ?_
  refine W_seq ?_
  refine W_region ?_
  refine WO_move ?_
  refine WO_callN (run_spec_l1In (a0 := a0) (a1 := 0) (a2 := 63)) ?_
  refine WO_assign ?_
  refine WO_nil ?_
  cases hm
  exact W_ret (finD1 [] (retTmp (t := 2) retNil) (.same _) (Kp.fin aKp))

noncomputable def m_spec_exOne (a0 : ByteArray) : Bool :=
  bd (((decide (a0 = (⟨#[110, 111, 116]⟩ : ByteArray))) || (decide (a0 = (⟨#[110, 101, 103]⟩ : ByteArray))))) fun X1 =>
  X1

theorem run_spec_exOne {a0 : ByteArray} : Gives PG F_spec_exOne [S a0] (B (m_spec_exOne a0)) := by
  intro p h
  generalize hm : m_spec_exOne a0 = R
  unfold m_spec_exOne at hm
  refine fn_dec fn_spec_exOne ?_
  refine W_seq ?_
  refine W_region ?_
  refine WO_assign ?_
  refine WO_nil ?_
  refine W_seq ?_
  obtain ⟨X1, hE1, hm⟩ := obd hm
  refine W_joinH (γ := Unit) [2, 3, 4, 5, 6, 7, 8] (fun b => [(2, B X1)]) ?_ ?_
  · refine W_region ?_
    refine WO_move ?_
    refine WO_eqlS ?_
    refine WO_move ?_
    refine WO_ior 5 hE1 (fun hq hE1 => ?_) (fun hq hE1 => ?_)
    · refine WO_skip ?_
      refine WO_skip ?_
      refine WO_pick ?_
      refine WO_assign ?_
      refine WO_nil ?_
      cases hE1
      exact metH () ⟨rfl, trivial⟩ aOm
    · refine WO_move ?_
      refine WO_eqlS ?_
      refine WO_pick ?_
      refine WO_assign ?_
      refine WO_nil ?_
      cases hE1
      exact metH () ⟨rfl, trivial⟩ aOm
  · intro bb1 e1 nx1 hn1
    cases hm
    exact W_ret (finD1 [] (retTmp (t := 2) retNil) (.same _) (Kp.fin aKp))

noncomputable def m_spec_exOps : (List ByteArray) :=
  ([(⟨#[97, 100, 100]⟩ : ByteArray), (⟨#[115, 117, 98]⟩ : ByteArray), (⟨#[109, 117, 108]⟩ : ByteArray), (⟨#[97, 110, 100]⟩ : ByteArray), (⟨#[111, 114]⟩ : ByteArray), (⟨#[120, 111, 114]⟩ : ByteArray), (⟨#[115, 104, 108]⟩ : ByteArray), (⟨#[115, 104, 114]⟩ : ByteArray), (⟨#[108, 101, 115, 115]⟩ : ByteArray), (⟨#[101, 113]⟩ : ByteArray)] : List ByteArray)

theorem run_spec_exOps  : Gives PG F_spec_exOps [] (PV.sl false ((m_spec_exOps).map S)) := by
  intro p h
  generalize hm : m_spec_exOps = R
  unfold m_spec_exOps at hm
  refine fn_dec fn_spec_exOps ?_
  refine W_seq ?_
  refine W_region ?_
  refine WO_assign ?_
  refine WO_nil ?_
  refine W_seq ?_
  refine W_region ?_
  refine WO_buildSlice el_S_string sz_string zo_string ?_
  refine WO_assign ?_
  refine WO_nil ?_
  cases hm
  exact W_ret (finD1 [] (retTmp (t := 0) retNil) .lo (Kp.fin aKp))

noncomputable def m_spec_exTwo (a0 : ByteArray) : Bool :=
  (m_spec_l1HasS (m_spec_exOps) a0)

theorem run_spec_exTwo {a0 : ByteArray} : Gives PG F_spec_exTwo [S a0] (B (m_spec_exTwo a0)) := by
  intro p h
  generalize hm : m_spec_exTwo a0 = R
  unfold m_spec_exTwo at hm
  refine fn_dec fn_spec_exTwo ?_
  refine W_seq ?_
  refine W_region ?_
  refine WO_assign ?_
  refine WO_nil ?_
  refine W_seq ?_
  refine W_region ?_
  refine WO_callN run_spec_exOps ?_
  refine WO_move ?_
  refine WO_callN (run_spec_l1HasS (a0 := (m_spec_exOps)) (a1 := a0)) ?_
  refine WO_assign ?_
  refine WO_nil ?_
  cases hm
  exact W_ret (finD1 [] (retTmp (t := 2) retNil) (.same _) (Kp.fin aKp))

noncomputable def m_spec_exNode (a0 : GNode) (a1 : Int) : Bool :=
  if (decide (a0.Op = (⟨#[105, 110]⟩ : ByteArray))) then
    bd (((a0.A == 0) && ((a0.B == 0) && (m_spec_l1In a0.Value 0 1)))) fun X1 =>
    X1
  else
    if (decide (a0.Op = (⟨#[99, 111, 110, 115, 116]⟩ : ByteArray))) then
      bd (((a0.A == 0) && ((a0.B == 0) && (m_spec_exWord a0.Value)))) fun X2 =>
      X2
    else
      if (m_spec_exOne a0.Op) then
        bd (((m_spec_l1In a0.A 0 (w64 (a1 - 1))) && ((a0.B == 0) && (a0.Value == 0)))) fun X3 =>
        X3
      else
        bd (((m_spec_exTwo a0.Op) && ((m_spec_l1In a0.A 0 (w64 (a1 - 1))) && ((m_spec_l1In a0.B 0 (w64 (a1 - 1))) && (a0.Value == 0))))) fun X4 =>
        X4

theorem run_spec_exNode {a0 : GNode} {a1 : Int} : Gives PG F_spec_exNode [eGNode a0, I a1] (B (m_spec_exNode a0 a1)) := by
  intro p h
  generalize hm : m_spec_exNode a0 a1 = R
  unfold m_spec_exNode at hm
  refine fn_dec fn_spec_exNode ?_
  refine W_seq ?_
  refine W_region ?_
  refine WO_box sz_impl_Node ?_
  refine WO_assign ?_
  refine WO_nil ?_
  refine W_seq ?_
  refine W_block ?_
  refine W_seq ?_
  refine W_region ?_
  refine WO_fieldP fa_impl_Node_0 ?_
  refine WO_load1 sz_string ag_string ?_
  refine WO_eqlS ?_
  refine WO_assign ?_
  refine WO_nil ?_
  refine W_ite hm (fun hq hm => ?_) (fun hq hm => ?_)
  · refine W_seq ?_
    obtain ⟨X1, hE1, hm⟩ := obd hm
    refine W_joinH (γ := Unit) [4, 9, 10, 11, 12, 13, 14, 15, 16, 17, 18, 19, 20, 21] (fun b => [(4, B X1)]) ?_ ?_
    · refine W_region ?_
      refine WO_fieldP fa_impl_Node_1 ?_
      refine WO_load1 sz_int ag_int ?_
      refine WO_eql ?_
      refine WO_move ?_
      refine WO_iand 12 hE1 (fun hq hE1 => ?_) (fun hq hE1 => ?_)
      · refine WO_fieldP fa_impl_Node_2 ?_
        refine WO_load1 sz_int ag_int ?_
        refine WO_eql ?_
        refine WO_pick ?_
        refine WO_move ?_
        refine WO_iand 17 hE1 (fun hq hE1 => ?_) (fun hq hE1 => ?_)
        · refine WO_fieldP fa_impl_Node_3 ?_
          refine WO_load1 sz_int ag_int ?_
          refine WO_callN (run_spec_l1In (a0 := a0.Value) (a1 := 0) (a2 := 1)) ?_
          refine WO_pick ?_
          refine WO_assign ?_
          refine WO_nil ?_
          cases hE1
          exact metH () ⟨rfl, trivial⟩ aOm
        · refine WO_skip ?_
          refine WO_skip ?_
          refine WO_skip ?_
          refine WO_pick ?_
          refine WO_assign ?_
          refine WO_nil ?_
          cases hE1
          exact metH () ⟨rfl, trivial⟩ aOm
      · refine WO_skip ?_
        refine WO_skip ?_
        refine WO_skip ?_
        refine WO_pick ?_
        refine WO_move ?_
        refine WO_skip ?_
        refine WO_skip ?_
        refine WO_skip ?_
        refine WO_pick ?_
        refine WO_assign ?_
        refine WO_nil ?_
        cases hE1
        exact metH () ⟨rfl, trivial⟩ aOm
    · intro bb1 e1 nx1 hn1
      cases hm
      exact W_ret (finD1 [] (retTmp (t := 4) retNil) (.same _) (Kp.fin aKp))
  · refine W_seq ?_
    refine W_region ?_
    refine WO_fieldP fa_impl_Node_0 ?_
    refine WO_load1 sz_string ag_string ?_
    refine WO_eqlS ?_
    refine WO_assign ?_
    refine WO_nil ?_
    refine W_ite hm (fun hq hm => ?_) (fun hq hm => ?_)
    · refine W_seq ?_
      obtain ⟨X2, hE2, hm⟩ := obd hm
      refine W_joinH (γ := Unit) [4, 26, 27, 28, 29, 30, 31, 32, 33, 34, 35, 36, 37, 38] (fun b => [(4, B X2)]) ?_ ?_
      · refine W_region ?_
        refine WO_fieldP fa_impl_Node_1 ?_
        refine WO_load1 sz_int ag_int ?_
        refine WO_eql ?_
        refine WO_move ?_
        refine WO_iand 29 hE2 (fun hq hE2 => ?_) (fun hq hE2 => ?_)
        · refine WO_fieldP fa_impl_Node_2 ?_
          refine WO_load1 sz_int ag_int ?_
          refine WO_eql ?_
          refine WO_pick ?_
          refine WO_move ?_
          refine WO_iand 34 hE2 (fun hq hE2 => ?_) (fun hq hE2 => ?_)
          · refine WO_fieldP fa_impl_Node_3 ?_
            refine WO_load1 sz_int ag_int ?_
            refine WO_callN (run_spec_exWord (a0 := a0.Value)) ?_
            refine WO_pick ?_
            refine WO_assign ?_
            refine WO_nil ?_
            cases hE2
            exact metH () ⟨rfl, trivial⟩ aOm
          · refine WO_skip ?_
            refine WO_skip ?_
            refine WO_skip ?_
            refine WO_pick ?_
            refine WO_assign ?_
            refine WO_nil ?_
            cases hE2
            exact metH () ⟨rfl, trivial⟩ aOm
        · refine WO_skip ?_
          refine WO_skip ?_
          refine WO_skip ?_
          refine WO_pick ?_
          refine WO_move ?_
          refine WO_skip ?_
          refine WO_skip ?_
          refine WO_skip ?_
          refine WO_pick ?_
          refine WO_assign ?_
          refine WO_nil ?_
          cases hE2
          exact metH () ⟨rfl, trivial⟩ aOm
      · intro bb2 e2 nx2 hn2
        cases hm
        exact W_ret (finD1 [] (retTmp (t := 4) retNil) (.same _) (Kp.fin aKp))
    · refine W_seq ?_
      refine W_region ?_
      refine WO_fieldP fa_impl_Node_0 ?_
      refine WO_load1 sz_string ag_string ?_
      refine WO_callN (run_spec_exOne (a0 := a0.Op)) ?_
      refine WO_assign ?_
      refine WO_nil ?_
      refine W_ite hm (fun hq hm => ?_) (fun hq hm => ?_)
      · refine W_seq ?_
        obtain ⟨X3, hE3, hm⟩ := obd hm
        refine W_joinH (γ := Unit) [4, 43, 44, 45, 46, 47, 48, 49, 50, 51, 52, 53, 54, 55, 56, 57] (fun b => [(4, B X3)]) ?_ ?_
        · refine W_region ?_
          refine WO_fieldP fa_impl_Node_1 ?_
          refine WO_load1 sz_int ag_int ?_
          refine WO_move ?_
          refine WO_sub ?_
          refine WO_callN (run_spec_l1In (a0 := a0.A) (a1 := 0) (a2 := (w64 (a1 - 1)))) ?_
          refine WO_move ?_
          refine WO_iand 48 hE3 (fun hq hE3 => ?_) (fun hq hE3 => ?_)
          · refine WO_fieldP fa_impl_Node_2 ?_
            refine WO_load1 sz_int ag_int ?_
            refine WO_eql ?_
            refine WO_pick ?_
            refine WO_move ?_
            refine WO_iand 53 hE3 (fun hq hE3 => ?_) (fun hq hE3 => ?_)
            · refine WO_fieldP fa_impl_Node_3 ?_
              refine WO_load1 sz_int ag_int ?_
              refine WO_eql ?_
              refine WO_pick ?_
              refine WO_assign ?_
              refine WO_nil ?_
              cases hE3
              exact metH () ⟨rfl, trivial⟩ aOm
            · refine WO_skip ?_
              refine WO_skip ?_
              refine WO_skip ?_
              refine WO_pick ?_
              refine WO_assign ?_
              refine WO_nil ?_
              cases hE3
              exact metH () ⟨rfl, trivial⟩ aOm
          · refine WO_skip ?_
            refine WO_skip ?_
            refine WO_skip ?_
            refine WO_pick ?_
            refine WO_move ?_
            refine WO_skip ?_
            refine WO_skip ?_
            refine WO_skip ?_
            refine WO_pick ?_
            refine WO_assign ?_
            refine WO_nil ?_
            cases hE3
            exact metH () ⟨rfl, trivial⟩ aOm
        · intro bb3 e3 nx3 hn3
          cases hm
          exact W_ret (finD1 [] (retTmp (t := 4) retNil) (.same _) (Kp.fin aKp))
      · refine W_skip ?_
        refine W_seq ?_
        obtain ⟨X4, hE4, hm⟩ := obd hm
        refine W_joinH (γ := Unit) [4, 58, 59, 60, 61, 62, 63, 64, 65, 66, 67, 68, 69, 70, 71, 72, 73, 74, 75, 76, 77, 78, 79] (fun b => [(4, B X4)]) ?_ ?_
        · refine W_region ?_
          refine WO_fieldP fa_impl_Node_0 ?_
          refine WO_load1 sz_string ag_string ?_
          refine WO_callN (run_spec_exTwo (a0 := a0.Op)) ?_
          refine WO_move ?_
          refine WO_iand 61 hE4 (fun hq hE4 => ?_) (fun hq hE4 => ?_)
          · refine WO_fieldP fa_impl_Node_1 ?_
            refine WO_load1 sz_int ag_int ?_
            refine WO_move ?_
            refine WO_sub ?_
            refine WO_callN (run_spec_l1In (a0 := a0.A) (a1 := 0) (a2 := (w64 (a1 - 1)))) ?_
            refine WO_pick ?_
            refine WO_move ?_
            refine WO_iand 68 hE4 (fun hq hE4 => ?_) (fun hq hE4 => ?_)
            · refine WO_fieldP fa_impl_Node_2 ?_
              refine WO_load1 sz_int ag_int ?_
              refine WO_move ?_
              refine WO_sub ?_
              refine WO_callN (run_spec_l1In (a0 := a0.B) (a1 := 0) (a2 := (w64 (a1 - 1)))) ?_
              refine WO_pick ?_
              refine WO_move ?_
              refine WO_iand 75 hE4 (fun hq hE4 => ?_) (fun hq hE4 => ?_)
              · refine WO_fieldP fa_impl_Node_3 ?_
                refine WO_load1 sz_int ag_int ?_
                refine WO_eql ?_
                refine WO_pick ?_
                refine WO_assign ?_
                refine WO_nil ?_
                cases hE4
                exact metH () ⟨rfl, trivial⟩ aOm
              · refine WO_skip ?_
                refine WO_skip ?_
                refine WO_skip ?_
                refine WO_pick ?_
                refine WO_assign ?_
                refine WO_nil ?_
                cases hE4
                exact metH () ⟨rfl, trivial⟩ aOm
            · refine WO_skip ?_
              refine WO_skip ?_
              refine WO_skip ?_
              refine WO_skip ?_
              refine WO_skip ?_
              refine WO_pick ?_
              refine WO_move ?_
              refine WO_skip ?_
              refine WO_skip ?_
              refine WO_skip ?_
              refine WO_pick ?_
              refine WO_assign ?_
              refine WO_nil ?_
              cases hE4
              exact metH () ⟨rfl, trivial⟩ aOm
          · refine WO_skip ?_
            refine WO_skip ?_
            refine WO_skip ?_
            refine WO_skip ?_
            refine WO_skip ?_
            refine WO_pick ?_
            refine WO_move ?_
            refine WO_skip ?_
            refine WO_skip ?_
            refine WO_skip ?_
            refine WO_skip ?_
            refine WO_skip ?_
            refine WO_pick ?_
            refine WO_move ?_
            refine WO_skip ?_
            refine WO_skip ?_
            refine WO_skip ?_
            refine WO_pick ?_
            refine WO_assign ?_
            refine WO_nil ?_
            cases hE4
            exact metH () ⟨rfl, trivial⟩ aOm
        · intro bb4 e4 nx4 hn4
          cases hm
          exact W_ret (finD1 [] (retTmp (t := 4) retNil) (.same _) (Kp.fin aKp))

noncomputable def m_spec_exParts (a0 : GNode) : (List Int) :=
  if (m_spec_exOne a0.Op) then
    ([a0.A] : List Int)
  else
    if (m_spec_exTwo a0.Op) then
      ([a0.A, a0.B] : List Int)
    else
      ([] : List Int)

theorem run_spec_exParts {a0 : GNode} : Gives PG F_spec_exParts [eGNode a0] (PV.sl false ((m_spec_exParts a0).map I)) := by
  intro p h
  generalize hm : m_spec_exParts a0 = R
  unfold m_spec_exParts at hm
  refine fn_dec fn_spec_exParts ?_
  refine W_seq ?_
  refine W_region ?_
  refine WO_box sz_impl_Node ?_
  refine WO_assign ?_
  refine WO_nil ?_
  refine W_seq ?_
  refine W_block ?_
  refine W_seq ?_
  refine W_region ?_
  refine WO_fieldP fa_impl_Node_0 ?_
  refine WO_load1 sz_string ag_string ?_
  refine WO_callN (run_spec_exOne (a0 := a0.Op)) ?_
  refine WO_assign ?_
  refine WO_nil ?_
  refine W_ite hm (fun hq hm => ?_) (fun hq hm => ?_)
  · refine W_seq ?_
    refine W_region ?_
    refine WO_fieldP fa_impl_Node_1 ?_
    refine WO_load1 sz_int ag_int ?_
    refine WO_buildSlice el_S_int sz_int zo_int ?_
    refine WO_assign ?_
    refine WO_nil ?_
    cases hm
    exact W_ret (finD1 [] (retTmp (t := 2) retNil) .lo (Kp.fin aKp))
  · refine W_seq ?_
    refine W_region ?_
    refine WO_fieldP fa_impl_Node_0 ?_
    refine WO_load1 sz_string ag_string ?_
    refine WO_callN (run_spec_exTwo (a0 := a0.Op)) ?_
    refine WO_assign ?_
    refine WO_nil ?_
    refine W_ite hm (fun hq hm => ?_) (fun hq hm => ?_)
    · refine W_seq ?_
      refine W_region ?_
      refine WO_fieldP fa_impl_Node_1 ?_
      refine WO_load1 sz_int ag_int ?_
      refine WO_fieldP fa_impl_Node_2 ?_
      refine WO_load1 sz_int ag_int ?_
      refine WO_buildSlice el_S_int sz_int zo_int ?_
      refine WO_assign ?_
      refine WO_nil ?_
      cases hm
      exact W_ret (finD1 [] (retTmp (t := 2) retNil) .lo (Kp.fin aKp))
    · refine W_skip ?_
      refine W_seq ?_
      refine W_region ?_
      refine WO_assign ?_
      refine WO_nil ?_
      cases hm
      exact W_ret (finD1 [] (retTmp (t := 2) retNil) .lo (Kp.fin aKp))

noncomputable def m_spec_exUses_l1 : List Int → (List Int) → Option (List Int)
  | [], s16 =>
    some s16
  | x20 :: zs, s16 =>
    (getI s16 x20).bind fun x21 =>
    (setI s16 x20 (w64 (x21 + 1))).bind fun c10 =>
    m_spec_exUses_l1 zs c10

noncomputable def m_spec_exUses_l0 : List GNode → (List Int) → Option (List Int)
  | [], s12 =>
    some s12
  | x15 :: zs, s12 =>
    (m_spec_exUses_l1 (m_spec_exParts x15) s12).bind fun X4 =>
    m_spec_exUses_l0 zs X4

noncomputable def m_spec_exUses (a0 : List GNode) : Option (List Int) :=
  (makI (a0.length : Int) 0).bind fun c1 =>
  (m_spec_exUses_l0 a0 c1).bind fun X3 =>
  some X3

theorem run_spec_exUses {a0 : List GNode} {b0 : Bool} {R : (List Int)} (hm : m_spec_exUses a0 = some R) : Gives PG F_spec_exUses [PV.sl b0 (a0.map eGNode)] (PV.sl false (R.map I)) := by
  intro p h
  have hvac : ∀ k, ∃ s : St, k ≤ s.nx ∧ Fin PG Try.f192 33 p h (PV.sl false (R.map I)) .ret s := fun k => ⟨⟨fun i => if i = 2 then PV.sl false (R.map I) else default, k, h⟩, Nat.le_refl _, finD1 [] (retTmp (t := 2) retNil) (.same _) (fun _ => .inl rfl)⟩
  unfold m_spec_exUses at hm
  refine fn_dec fn_spec_exUses ?_
  refine W_seq ?_
  refine W_region ?_
  refine WO_assign ?_
  refine WO_nil ?_
  refine W_seq ?_
  refine W_region ?_
  refine WO_move ?_
  refine D_len sl_S_impl_Node (e := eGNode) (xs := a0) ?_
  obtain ⟨c1, g1, hm⟩ := ob hm
  refine D_make el_S_int sz_int zo_int b3_int g1 (e := I) rfl ?_
  have hl1 := makI_len g1
  refine WO_assign ?_
  refine WO_nil ?_
  refine W_seq ?_
  refine W_seq ?_
  refine W_region ?_
  refine WO_move ?_
  refine D_len sl_S_impl_Node (e := eGNode) (xs := a0) ?_
  refine WO_move ?_
  refine WO_nil ?_
  refine W_bnd 11 hvac (fun hb3 => ?_)
  rw [List.length_map] at hb3
  obtain ⟨X3, hE3, hm⟩ := ob hm
  refine W_block ?_
  refine W_loopM (α := Nat × (List Int)) [5, 7, 13, 14, 15, 16, 17, 18, 19, 20, 21, 22, 23, 24, 25, 26, 27, 28, 29, 30, 31] (fun a => [(13, I (a.1 : Nat))]) (fun a nx' h' => 1 ≤ nx' ∧ Kp p [] h h' ∧ a.1 ≤ a0.length ∧ (h' (p ++ [0]) = some ⟨0, 1, a.2.map I⟩) ∧ (a.2.length = c1.length ∧ c1.length ≤ LIM) ∧ m_spec_exUses_l0 (a0.drop a.1) a.2 = some X3) (fun a => a0.length - a.1) (0, c1) ⟨rfl, trivial⟩ ⟨aOm, aKp, Nat.zero_le _, aLk, hl1, hE3⟩ (fun a e3 nx9 h3 hI => ?_)
  obtain ⟨i3, s12⟩ := a
  obtain ⟨hn3, hk3, hi3, hr3, hl16, hE3⟩ := hI
  refine W_seq ?_
  refine W_region ?_
  refine WO_lss ?_
  refine WO_nil ?_
  refine W_seq ?_
  refine W_cond (fun hq => ?_) (fun hq => ?_)
  · have hlt3 : (i3 : Int) < (a0.length : Int) := dec_lt hq
    obtain ⟨x15, hx3, hd3⟩ := lt_get (xs := a0) (i := i3) (by omega)
    rw [hd3, m_spec_exUses_l0] at hE3
    replace hx3 := getI_nat hx3
    refine W_skip ?_
    refine W_seq ?_
    refine W_block ?_
    refine W_seq ?_
    refine W_region ?_
    refine D_index el_S_impl_Node sz_impl_Node hx3 ?_
    refine WO_loadI sz_impl_Node ag_impl_Node ?_
    refine WO_alloc sz_impl_Node zo_impl_Node ?_
    refine WO_store sz_impl_Node ?_
    refine WO_nil ?_
    refine W_seq ?_
    refine W_region ?_
    refine WO_loadS sz_impl_Node ag_impl_Node ?_
    refine WO_callN (run_spec_exParts (a0 := x15)) ?_
    refine D_len sl_S_int (e := I) (xs := (m_spec_exParts x15)) ?_
    refine WO_move ?_
    refine WO_nil ?_
    refine W_bnd 18 hvac (fun hb4 => ?_)
    rw [List.length_map] at hb4
    obtain ⟨X4, hE4, hE3⟩ := ob hE3
    refine W_block ?_
    refine W_loopM (α := Nat × (List Int)) [7, 20, 21, 22, 23, 24, 25, 26, 27, 28, 29, 30] (fun a => [(20, I (a.1 : Nat))]) (fun a nx' h' => (nx9 + 2) ≤ nx' ∧ Kp p [] h h' ∧ a.1 ≤ (m_spec_exParts x15).length ∧ (h' (p ++ [0]) = some ⟨0, 1, a.2.map I⟩) ∧ (a.2.length = c1.length ∧ c1.length ≤ LIM) ∧ m_spec_exUses_l1 ((m_spec_exParts x15).drop a.1) a.2 = some X4) (fun a => (m_spec_exParts x15).length - a.1) (0, s12) ⟨rfl, trivial⟩ ⟨aOm, aKp, Nat.zero_le _, aLk, hl16, hE4⟩ (fun a e4 nx12 h4 hI => ?_)
    obtain ⟨i4, s16⟩ := a
    obtain ⟨hn4, hk4, hi4, hr4, hl21, hE4⟩ := hI
    refine W_seq ?_
    refine W_region ?_
    refine WO_lss ?_
    refine WO_nil ?_
    refine W_seq ?_
    refine W_cond (fun hq => ?_) (fun hq => ?_)
    · have hlt4 : (i4 : Int) < ((m_spec_exParts x15).length : Int) := dec_lt hq
      obtain ⟨x20, hx4, hd4⟩ := lt_get (xs := (m_spec_exParts x15)) (i := i4) (by omega)
      rw [hd4, m_spec_exUses_l1] at hE4
      replace hx4 := getI_nat hx4
      refine W_skip ?_
      refine W_seq ?_
      refine W_block ?_
      refine W_seq ?_
      refine W_region ?_
      refine D_index el_S_int sz_int hx4 ?_
      refine WO_loadI1 sz_int ag_int ?_
      refine WO_assign ?_
      refine WO_nil ?_
      refine W_region ?_
      refine WO_move ?_
      refine WO_move ?_
      obtain ⟨x21, g26, hE4⟩ := ob hE4
      refine D_indexR el_S_int sz_int g26 hl21 ?_
      refine D_ld1R sz_int ag_int g26 ?_
      refine WO_add ?_
      obtain ⟨c10, g27, hE4⟩ := ob hE4
      refine D_indexW el_S_int sz_int g27 hl21 ?_
      refine D_st1R sz_int g27 (e := I) ?_
      have hl22 := setI_len g27 hl21
      refine WO_nil ?_
      refine W_region ?_
      refine WO_succ ?_
      refine WO_move ?_
      refine WO_nil ?_
      exact round ((i4 + 1), c10) ⟨rfl, trivial⟩ ⟨aOm, aKp, aOm, aLk, hl22, hE4⟩ aOm
    · have hge3 : ((m_spec_exParts x15).length : Int) ≤ (i4 : Int) := dec_ge hq
      rw [drop_len (by omega), m_spec_exUses_l1] at hE4
      refine W_exit ?_
      cases hE4
      try dsimp only at hE3
      refine W_region ?_
      refine WO_succ ?_
      refine WO_move ?_
      refine WO_nil ?_
      exact round ((i3 + 1), s16) ⟨rfl, trivial⟩ ⟨aOm, aKp, aOm, aLk, hl21, hE3⟩ aOm
  · have hge4 : (a0.length : Int) ≤ (i3 : Int) := dec_ge hq
    rw [drop_len (by omega), m_spec_exUses_l0] at hE3
    refine W_exit ?_
    cases hE3
    try dsimp only at hm
    refine W_seq ?_
    refine W_region ?_
    refine WO_move ?_
    refine WO_assign ?_
    refine WO_nil ?_
    cases hm
    exact W_ret (finD1 [(p ++ [0])] (retTmp (t := 2) retNil) (FV.rowL hl16) (Kp.fin aKp))

noncomputable def m_spec_exGood_l0 (a0 : List GNode) : List GNode → Int → Option Bool
  | [], i1 =>
    (m_spec_exUses a0).bind fun x4 =>
    (subI x4 0 (w64 ((a0.length : Int) - 1))).bind fun c1 =>
    some (!(m_spec_l1Has c1 0))
  | x3 :: zs, i1 =>
    if (!(m_spec_exNode x3 (i1 : Int))) then
      some false
    else
      m_spec_exGood_l0 a0 zs (i1 + 1)

noncomputable def m_spec_exGood (a0 : List GNode) : Option Bool :=
  if (!(m_spec_l1In (a0.length : Int) 1 24)) then
    some false
  else
    m_spec_exGood_l0 a0 a0 0

theorem run_spec_exGood {a0 : List GNode} {b0 : Bool} {R : Bool} (hm : m_spec_exGood a0 = some R) : Gives PG F_spec_exGood [PV.sl b0 (a0.map eGNode)] (B R) := by
  intro p h
  have hvac : ∀ k, ∃ s : St, k ≤ s.nx ∧ Fin PG Try.f123 29 p h (B R) .ret s := fun k => ⟨⟨fun i => if i = 2 then B R else default, k, h⟩, Nat.le_refl _, finD1 [] (retTmp (t := 2) retNil) (.same _) (fun _ => .inl rfl)⟩
  unfold m_spec_exGood at hm
  refine fn_dec fn_spec_exGood ?_
  refine W_seq ?_
  refine W_region ?_
  refine WO_assign ?_
  refine WO_nil ?_
  refine W_seq ?_
  refine W_seq ?_
  refine W_region ?_
  refine WO_move ?_
  refine D_len sl_S_impl_Node (e := eGNode) (xs := a0) ?_
  refine WO_callN (run_spec_l1In (a0 := (a0.length : Int)) (a1 := 1) (a2 := 24)) ?_
  refine WO_not ?_
  refine WO_nil ?_
  refine W_ite hm (fun hq hm => ?_) (fun hq hm => ?_)
  · refine W_seq ?_
    refine W_region ?_
    refine WO_assign ?_
    refine WO_nil ?_
    cases hm
    exact W_ret (finD1 [] (retTmp (t := 2) retNil) (.same _) (Kp.fin aKp))
  · refine W_skip ?_
    refine W_seq ?_
    refine W_seq ?_
    refine W_region ?_
    refine WO_move ?_
    refine D_len sl_S_impl_Node (e := eGNode) (xs := a0) ?_
    refine WO_move ?_
    refine WO_nil ?_
    refine W_bnd 9 hvac (fun hb1 => ?_)
    rw [List.length_map] at hb1
    refine W_block ?_
    refine W_loopM (α := Nat) [2, 3, 4, 11, 12, 13, 14, 15, 16, 17, 18, 19, 20] (fun a => [(11, I (a : Nat))]) (fun a nx' h' => 1 ≤ nx' ∧ Kp p [] h h' ∧ a ≤ a0.length ∧ m_spec_exGood_l0 a0 (a0.drop a) (a : Int) = some R) (fun a => a0.length - a) 0 ⟨rfl, trivial⟩ ⟨aOm, aKp, Nat.zero_le _, hm⟩ (fun i1 e1 nx3 h1 hI => ?_)
    obtain ⟨hn1, hk1, hi1, hm⟩ := hI
    refine W_seq ?_
    refine W_region ?_
    refine WO_lss ?_
    refine WO_nil ?_
    refine W_seq ?_
    refine W_cond (fun hq => ?_) (fun hq => ?_)
    · have hlt1 : (i1 : Int) < (a0.length : Int) := dec_lt hq
      obtain ⟨x3, hx1, hd1⟩ := lt_get (xs := a0) (i := i1) (by omega)
      rw [hd1, m_spec_exGood_l0] at hm
      replace hx1 := getI_nat hx1
      refine W_skip ?_
      refine W_seq ?_
      refine W_block ?_
      refine W_seq ?_
      refine W_region ?_
      refine WO_move ?_
      refine D_index el_S_impl_Node sz_impl_Node hx1 ?_
      refine WO_loadI sz_impl_Node ag_impl_Node ?_
      refine WO_alloc sz_impl_Node zo_impl_Node ?_
      refine WO_assign ?_
      refine WO_store sz_impl_Node ?_
      refine WO_nil ?_
      refine W_seq ?_
      refine W_region ?_
      refine WO_loadS sz_impl_Node ag_impl_Node ?_
      refine WO_move ?_
      refine WO_callN (run_spec_exNode (a0 := x3) (a1 := (i1 : Int))) ?_
      refine WO_not ?_
      refine WO_nil ?_
      refine W_ite hm (fun hq hm => ?_) (fun hq hm => ?_)
      · refine W_seq ?_
        refine W_region ?_
        refine WO_assign ?_
        refine WO_nil ?_
        cases hm
        exact W_ret (finD1 [] (retTmp (t := 2) retNil) (.same _) (Kp.fin aKp))
      · refine W_skip ?_
        refine W_region ?_
        refine WO_succ ?_
        refine WO_move ?_
        refine WO_nil ?_
        exact round (i1 + 1) ⟨rfl, trivial⟩ ⟨aOm, aKp, aOm, hm⟩ aOm
    · have hge1 : (a0.length : Int) ≤ (i1 : Int) := dec_ge hq
      rw [drop_len (by omega), m_spec_exGood_l0] at hm
      refine W_exit ?_
      refine W_seq ?_
      refine W_region ?_
      refine WO_move ?_
      obtain ⟨x4, g3, hm⟩ := ob hm
      refine WO_callN (run_spec_exUses g3) ?_
      refine WO_move ?_
      refine D_len sl_S_impl_Node (e := eGNode) (xs := a0) ?_
      refine WO_sub ?_
      obtain ⟨c1, g4, hm⟩ := ob hm
      refine D_slice os_S_int g4 (e := I) (fun b1 => ?_)
      refine WO_callN (run_spec_l1Has (a0 := c1) (a1 := 0)) ?_
      refine WO_not ?_
      refine WO_assign ?_
      refine WO_nil ?_
      cases hm
      exact W_ret (finD1 [] (retTmp (t := 2) retNil) (.same _) (Kp.fin aKp))

noncomputable def m_spec_suPlace_l0 (a1 : GInstr) : List GInstr → Int → Int
  | [], i1 =>
    (-1)
  | x3 :: zs, i1 =>
    if (decide (a1 = x3)) then
      (i1 : Int)
    else
      m_spec_suPlace_l0 a1 zs (i1 + 1)

noncomputable def m_spec_suPlace (a0 : List GInstr) (a1 : GInstr) : Int :=
  m_spec_suPlace_l0 a1 a0 0

theorem run_spec_suPlace {a0 : List GInstr} {b0 : Bool} {a1 : GInstr} : Gives PG F_spec_suPlace [PV.sl b0 (a0.map eGInstr), eGInstr a1] (I (m_spec_suPlace a0 a1)) := by
  intro p h
  generalize hm : m_spec_suPlace a0 a1 = R
  have hvac : ∀ k, ∃ s : St, k ≤ s.nx ∧ Fin PG Try.f148 19 p h (I R) .ret s := fun k => ⟨⟨fun i => if i = 4 then I R else default, k, h⟩, Nat.le_refl _, finD1 [] (retTmp (t := 4) retNil) (.same _) (fun _ => .inl rfl)⟩
  unfold m_spec_suPlace at hm
  refine fn_dec fn_spec_suPlace ?_
  refine W_seq ?_
  refine W_region ?_
  refine WO_box sz_impl_Instr ?_
  refine WO_assign ?_
  refine WO_nil ?_
  refine W_seq ?_
  refine W_seq ?_
  refine W_region ?_
  refine WO_move ?_
  refine D_len sl_S_impl_Instr (e := eGInstr) (xs := a0) ?_
  refine WO_move ?_
  refine WO_nil ?_
  refine W_bnd 7 hvac (fun hb1 => ?_)
  rw [List.length_map] at hb1
  refine W_block ?_
  refine W_loopM (α := Nat) [4, 5, 6, 9, 10, 11, 12, 13, 14, 15, 16, 17, 18] (fun a => [(9, I (a : Nat))]) (fun a nx' h' => 1 ≤ nx' ∧ Kp p [] h h' ∧ a ≤ a0.length ∧ (h' (p ++ [0]) = some ⟨0, 5, [eGInstr a1]⟩) ∧ m_spec_suPlace_l0 a1 (a0.drop a) (a : Int) = R) (fun a => a0.length - a) 0 ⟨rfl, trivial⟩ ⟨aOm, aKp, Nat.zero_le _, aLk, hm⟩ (fun i1 e1 nx3 h1 hI => ?_)
  obtain ⟨hn1, hk1, hi1, hr1, hm⟩ := hI
  refine W_seq ?_
  refine W_region ?_
  refine WO_lss ?_
  refine WO_nil ?_
  refine W_seq ?_
  refine W_cond (fun hq => ?_) (fun hq => ?_)
  · have hlt1 : (i1 : Int) < (a0.length : Int) := dec_lt hq
    obtain ⟨x3, hx1, hd1⟩ := lt_get (xs := a0) (i := i1) (by omega)
    rw [hd1, m_spec_suPlace_l0] at hm
    replace hx1 := getI_nat hx1
    refine W_skip ?_
    refine W_seq ?_
    refine W_block ?_
    refine W_seq ?_
    refine W_region ?_
    refine WO_move ?_
    refine D_index el_S_impl_Instr sz_impl_Instr hx1 ?_
    refine WO_loadI sz_impl_Instr ag_impl_Instr ?_
    refine WO_alloc sz_impl_Instr zo_impl_Instr ?_
    refine WO_assign ?_
    refine WO_store sz_impl_Instr ?_
    refine WO_nil ?_
    refine W_seq ?_
    refine W_region ?_
    refine WO_loadS sz_impl_Instr ag_impl_Instr ?_
    refine WO_loadS sz_impl_Instr ag_impl_Instr ?_
    refine WO_eqlA ps_impl_Instr ks_impl_Instr (r := decide (a1 = x3)) ?_ (hr := eqGInstr _ _)
    refine WO_nil ?_
    refine W_ite hm (fun hq hm => ?_) (fun hq hm => ?_)
    · refine W_seq ?_
      refine W_region ?_
      refine WO_move ?_
      refine WO_assign ?_
      refine WO_nil ?_
      cases hm
      exact W_ret (finD1 [] (retTmp (t := 4) retNil) (.same _) (Kp.fin aKp))
    · refine W_skip ?_
      refine W_region ?_
      refine WO_succ ?_
      refine WO_move ?_
      refine WO_nil ?_
      exact round (i1 + 1) ⟨rfl, trivial⟩ ⟨aOm, aKp, aOm, aLk, hm⟩ aOm
  · have hge1 : (a0.length : Int) ≤ (i1 : Int) := dec_ge hq
    rw [drop_len (by omega), m_spec_suPlace_l0] at hm
    refine W_exit ?_
    refine W_seq ?_
    refine W_region ?_
    refine WO_assign ?_
    refine WO_nil ?_
    cases hm
    exact W_ret (finD1 [] (retTmp (t := 4) retNil) (.same _) (Kp.fin aKp))

noncomputable def m_spec_suIs_l0 (a0 : GChoice) : List GInstr → Int → Option Bool
  | [], i1 =>
    some true
  | x5 :: zs, i1 =>
    (m_spec_suSteps a0 (i1 : Int)).bind fun x6 =>
    if (decide ((m_spec_suPlace x6 x5) < 0)) then
      some false
    else
      m_spec_suIs_l0 a0 zs (i1 + 1)

noncomputable def m_spec_suIs (a0 : GChoice) (a1 : List GInstr) : Option Bool :=
  if (decide ((a1.length : Int) > 3)) then
    some false
  else
    m_spec_suIs_l0 a0 a1 0

theorem run_spec_suIs {a0 : GChoice} {a1 : List GInstr} {b1 : Bool} {R : Bool} (hm : m_spec_suIs a0 a1 = some R) : Gives PG F_spec_suIs [eGChoice a0, PV.sl b1 (a1.map eGInstr)] (B R) := by
  intro p h
  have hvac : ∀ k, ∃ s : St, k ≤ s.nx ∧ Fin PG Try.f124 24 p h (B R) .ret s := fun k => ⟨⟨fun i => if i = 4 then B R else default, k, h⟩, Nat.le_refl _, finD1 [] (retTmp (t := 4) retNil) (.same _) (fun _ => .inl rfl)⟩
  unfold m_spec_suIs at hm
  refine fn_dec fn_spec_suIs ?_
  refine W_seq ?_
  refine W_region ?_
  refine WO_box sz_impl_Choice ?_
  refine WO_assign ?_
  refine WO_nil ?_
  refine W_seq ?_
  refine W_seq ?_
  refine W_region ?_
  refine WO_move ?_
  refine D_len sl_S_impl_Instr (e := eGInstr) (xs := a1) ?_
  refine WO_gtr ?_
  refine WO_nil ?_
  refine W_ite hm (fun hq hm => ?_) (fun hq hm => ?_)
  · refine W_seq ?_
    refine W_region ?_
    refine WO_assign ?_
    refine WO_nil ?_
    cases hm
    exact W_ret (finD1 [] (retTmp (t := 4) retNil) (.same _) (Kp.fin aKp))
  · refine W_skip ?_
    refine W_seq ?_
    refine W_seq ?_
    refine W_region ?_
    refine WO_move ?_
    refine D_len sl_S_impl_Instr (e := eGInstr) (xs := a1) ?_
    refine WO_move ?_
    refine WO_nil ?_
    refine W_bnd 10 hvac (fun hb1 => ?_)
    rw [List.length_map] at hb1
    refine W_block ?_
    refine W_loopM (α := Nat) [4, 5, 6, 12, 13, 14, 15, 16, 17, 18, 19, 20, 21, 22, 23] (fun a => [(12, I (a : Nat))]) (fun a nx' h' => 1 ≤ nx' ∧ Kp p [] h h' ∧ a ≤ a1.length ∧ (h' (p ++ [0]) = some ⟨0, 2, [eGChoice a0]⟩) ∧ m_spec_suIs_l0 a0 (a1.drop a) (a : Int) = some R) (fun a => a1.length - a) 0 ⟨rfl, trivial⟩ ⟨aOm, aKp, Nat.zero_le _, aLk, hm⟩ (fun i1 e1 nx3 h1 hI => ?_)
    obtain ⟨hn1, hk1, hi1, hr1, hm⟩ := hI
    refine W_seq ?_
    refine W_region ?_
    refine WO_lss ?_
    refine WO_nil ?_
    refine W_seq ?_
    refine W_cond (fun hq => ?_) (fun hq => ?_)
    · have hlt1 : (i1 : Int) < (a1.length : Int) := dec_lt hq
      obtain ⟨x5, hx1, hd1⟩ := lt_get (xs := a1) (i := i1) (by omega)
      rw [hd1, m_spec_suIs_l0] at hm
      replace hx1 := getI_nat hx1
      refine W_skip ?_
      refine W_seq ?_
      refine W_block ?_
      refine W_seq ?_
      refine W_region ?_
      refine WO_move ?_
      refine D_index el_S_impl_Instr sz_impl_Instr hx1 ?_
      refine WO_loadI sz_impl_Instr ag_impl_Instr ?_
      refine WO_alloc sz_impl_Instr zo_impl_Instr ?_
      refine WO_assign ?_
      refine WO_store sz_impl_Instr ?_
      refine WO_nil ?_
      refine W_seq ?_
      refine W_regionD [1, 0, 0, 1, 0, 0] mixed (by kernel_rfl) ?_
      refine WO_loadS sz_impl_Choice ag_impl_Choice ?_
      refine WO_move ?_
      obtain ⟨x6, g5, hm⟩ := ob hm
      refine WO_callN (run_spec_suSteps g5) ?_
      refine WO_loadS sz_impl_Instr ag_impl_Instr ?_
      refine WO_callN (run_spec_suPlace (a0 := x6) (a1 := x5)) ?_
      refine WO_lss ?_
      refine WO_nil ⟨rfl, ?_⟩
      refine W_ite hm (fun hq hm => ?_) (fun hq hm => ?_)
      · refine W_seq ?_
        refine W_region ?_
        refine WO_assign ?_
        refine WO_nil ?_
        cases hm
        exact W_ret (finD1 [] (retTmp (t := 4) retNil) (.same _) (Kp.fin aKp))
      · refine W_skip ?_
        refine W_region ?_
        refine WO_succ ?_
        refine WO_move ?_
        refine WO_nil ?_
        exact round (i1 + 1) ⟨rfl, trivial⟩ ⟨aOm, aKp, aOm, aLk, hm⟩ aOm
    · have hge1 : (a1.length : Int) ≤ (i1 : Int) := dec_ge hq
      rw [drop_len (by omega), m_spec_suIs_l0] at hm
      refine W_exit ?_
      refine W_seq ?_
      refine W_region ?_
      refine WO_assign ?_
      refine WO_nil ?_
      cases hm
      exact W_ret (finD1 [] (retTmp (t := 4) retNil) (.same _) (Kp.fin aKp))

noncomputable def m_spec_suLast (a0 : List GInstr) : Int :=
  if ((a0.length : Int) == 0) then
    0
  else
    (w64 (1 + (a0.length : Int)))

theorem run_spec_suLast {a0 : List GInstr} {b0 : Bool} : Gives PG F_spec_suLast [PV.sl b0 (a0.map eGInstr)] (I (m_spec_suLast a0)) := by
  intro p h
  generalize hm : m_spec_suLast a0 = R
  unfold m_spec_suLast at hm
  refine fn_dec fn_spec_suLast ?_
  refine W_seq ?_
  refine W_region ?_
  refine WO_assign ?_
  refine WO_nil ?_
  refine W_seq ?_
  refine W_seq ?_
  refine W_region ?_
  refine WO_move ?_
  refine D_len sl_S_impl_Instr (e := eGInstr) (xs := a0) ?_
  refine WO_eql ?_
  refine WO_nil ?_
  refine W_ite hm (fun hq hm => ?_) (fun hq hm => ?_)
  · refine W_seq ?_
    refine W_region ?_
    refine WO_assign ?_
    refine WO_nil ?_
    cases hm
    exact W_ret (finD1 [] (retTmp (t := 2) retNil) (.same _) (Kp.fin aKp))
  · refine W_skip ?_
    refine W_seq ?_
    refine W_region ?_
    refine WO_move ?_
    refine D_len sl_S_impl_Instr (e := eGInstr) (xs := a0) ?_
    refine WO_add ?_
    refine WO_assign ?_
    refine WO_nil ?_
    cases hm
    exact W_ret (finD1 [] (retTmp (t := 2) retNil) (.same _) (Kp.fin aKp))

noncomputable def m_spec_exValues_l0 (a1 : Int) (a2 : Int) : List GNode → (List Int) → Option (List Int)
  | [], s4 =>
    some s4
  | x29 :: zs, s4 =>
    (if (decide (x29.Op = (⟨#[99, 111, 110, 115, 116]⟩ : ByteArray))) then
        (appI s4 ([x29.Value] : List Int)).bind fun c26 =>
        some c26
      else
        bd (((decide (x29.Op = (⟨#[105, 110]⟩ : ByteArray))) && (x29.Value == 0))) fun X10 =>
        if X10 then
          (appI s4 ([a1] : List Int)).bind fun c27 =>
          some c27
        else
          if (decide (x29.Op = (⟨#[105, 110]⟩ : ByteArray))) then
            (appI s4 ([a2] : List Int)).bind fun c28 =>
            some c28
          else
            if (m_spec_exOne x29.Op) then
              (getI s4 x29.A).bind fun x38 =>
              (m_spec_exApply x29.Op x38 0).bind fun x39 =>
              (appI s4 ([x39] : List Int)).bind fun c29 =>
              some c29
            else
              (getI s4 x29.A).bind fun x40 =>
              (getI s4 x29.B).bind fun x41 =>
              (m_spec_exApply x29.Op x40 x41).bind fun x42 =>
              (appI s4 ([x42] : List Int)).bind fun c30 =>
              some c30).bind fun X9 =>
    m_spec_exValues_l0 a1 a2 zs X9

noncomputable def m_spec_exValues (a0 : List GNode) (a1 : Int) (a2 : Int) : Option (List Int) :=
  (m_spec_exValues_l0 a1 a2 a0 ([] : List Int)).bind fun X7 =>
  some X7

theorem run_spec_exValues {a0 : List GNode} {b0 : Bool} {a1 : Int} {a2 : Int} {R : (List Int)} (hm : m_spec_exValues a0 a1 a2 = some R) : Gives PG F_spec_exValues [PV.sl b0 (a0.map eGNode), I a1, I a2] (PV.sl false (R.map I)) := by
  intro p h
  have hvac : ∀ k, ∃ s : St, k ≤ s.nx ∧ Fin PG Try.f243 79 p h (PV.sl false (R.map I)) .ret s := fun k => ⟨⟨fun i => if i = 6 then PV.sl false (R.map I) else default, k, h⟩, Nat.le_refl _, finD1 [] (retTmp (t := 6) retNil) (.same _) (fun _ => .inl rfl)⟩
  unfold m_spec_exValues at hm
  refine fn_dec fn_spec_exValues ?_
  refine W_seq ?_
  refine W_region ?_
  refine WO_assign ?_
  refine WO_nil ?_
  refine W_seq ?_
  refine W_region ?_
  refine WO_assignRow 1 ?_
  have hl1 : ([] : List Int).length = 0 ∧ 0 ≤ LIM := ⟨rfl, Nat.zero_le _⟩
  refine WO_nil ?_
  refine W_seq ?_
  refine W_seq ?_
  refine W_region ?_
  refine WO_move ?_
  refine D_len sl_S_impl_Node (e := eGNode) (xs := a0) ?_
  refine WO_move ?_
  refine WO_nil ?_
  refine W_bnd 10 hvac (fun hb1 => ?_)
  rw [List.length_map] at hb1
  obtain ⟨X7, hE7, hm⟩ := ob hm
  refine W_block ?_
  refine W_loopM (α := Nat × (List Int) × Nat × Nat) ([7] ++ [9] ++ List.range' 12 66) (fun a => [(12, I (a.1 : Nat)), (7, PV.ref (p ++ [0]) a.2.2.1 0 a.2.2.2)]) (fun a nx' h' => 1 ≤ nx' ∧ Kp p [] h h' ∧ a.1 ≤ a0.length ∧ (h' (p ++ [0]) = some ⟨a.2.2.1, 1, a.2.1.map I⟩) ∧ (a.2.1.length = a.2.2.2 ∧ a.2.2.2 ≤ LIM) ∧ m_spec_exValues_l0 a1 a2 (a0.drop a.1) a.2.1 = some X7) (fun a => a0.length - a.1) (0, ([] : List Int), 0, 0) ⟨rfl, rfl, trivial⟩ ⟨aOm, aKp, Nat.zero_le _, aLk, hl1, hE7⟩ (fun a e7 nx9 h3 hI => ?_)
  obtain ⟨i1, s4, v5, n5⟩ := a
  obtain ⟨hn7, hk3, hi1, hr3, hl26, hE7⟩ := hI
  refine W_seq ?_
  refine W_region ?_
  refine WO_lss ?_
  refine WO_nil ?_
  refine W_seq ?_
  refine W_cond (fun hq => ?_) (fun hq => ?_)
  · have hlt1 : (i1 : Int) < (a0.length : Int) := dec_lt hq
    obtain ⟨x29, hx1, hd1⟩ := lt_get (xs := a0) (i := i1) (by omega)
    rw [hd1, m_spec_exValues_l0] at hE7
    replace hx1 := getI_nat hx1
    refine W_skip ?_
    refine W_seq ?_
    refine W_block ?_
    refine W_seq ?_
    refine W_region ?_
    refine D_index el_S_impl_Node sz_impl_Node hx1 ?_
    refine WO_loadI sz_impl_Node ag_impl_Node ?_
    refine WO_alloc sz_impl_Node zo_impl_Node ?_
    refine WO_store sz_impl_Node ?_
    refine WO_nil ?_
    refine W_block ?_
    refine W_seq ?_
    refine W_region ?_
    refine WO_fieldP fa_impl_Node_0 ?_
    refine WO_load1 sz_string ag_string ?_
    refine WO_eqlS ?_
    refine WO_assign ?_
    refine WO_nil ?_
    obtain ⟨X9, hE9, hE7⟩ := ob hE7
    refine W_join (γ := Nat × Nat) ([7] ++ List.range' 16 16 ++ List.range' 36 41) (fun b => [(7, PV.ref (p ++ [0]) b.1 0 b.2)]) (fun b nx' h' => (nx9 + 1) ≤ nx' ∧ Kp p [] h h' ∧ (h' (p ++ [0]) = some ⟨b.1, 1, X9.map I⟩) ∧ (X9.length = b.2 ∧ b.2 ≤ LIM)) ?_ ?_
    · refine W_ite hE9 (fun hq hE9 => ?_) (fun hq hE9 => ?_)
      · refine W_region ?_
        refine WO_move ?_
        refine WO_fieldP fa_impl_Node_3 ?_
        refine WO_load1 sz_int ag_int ?_
        refine WO_buildSlice el_S_int sz_int zo_int ?_
        obtain ⟨c26, g53, hE9⟩ := ob hE9
        refine D_appR sl_S_int el_S_int sz_int zs_int bt_int g53 hl26 (e := I) ?_
        have hl33 := appI_len g53
        refine WO_assign ?_
        refine WO_nil ?_
        cases hE9
        exact metJ (v5 + 1, X9.length) ⟨rfl, trivial⟩ ⟨aOm, aKp, aLk, hl33⟩
      · refine W_seq ?_
        obtain ⟨X10, hE10, hE9⟩ := obd hE9
        refine W_joinH (γ := Unit) [41, 42, 43, 44, 45, 46, 47, 48, 49] (fun b => [(41, B X10)]) ?_ ?_
        · refine W_region ?_
          refine WO_fieldP fa_impl_Node_0 ?_
          refine WO_load1 sz_string ag_string ?_
          refine WO_eqlS ?_
          refine WO_move ?_
          refine WO_iand 45 hE10 (fun hq hE10 => ?_) (fun hq hE10 => ?_)
          · refine WO_fieldP fa_impl_Node_3 ?_
            refine WO_load1 sz_int ag_int ?_
            refine WO_eql ?_
            refine WO_pick ?_
            refine WO_assign ?_
            refine WO_nil ?_
            cases hE10
            exact metH () ⟨rfl, trivial⟩ aOm
          · refine WO_skip ?_
            refine WO_skip ?_
            refine WO_skip ?_
            refine WO_pick ?_
            refine WO_assign ?_
            refine WO_nil ?_
            cases hE10
            exact metH () ⟨rfl, trivial⟩ aOm
        · intro bb8 e9 nx11 hn9
          refine W_ite hE9 (fun hq hE9 => ?_) (fun hq hE9 => ?_)
          · refine W_region ?_
            refine WO_move ?_
            refine WO_move ?_
            refine WO_buildSlice el_S_int sz_int zo_int ?_
            obtain ⟨c27, g54, hE9⟩ := ob hE9
            refine D_appR sl_S_int el_S_int sz_int zs_int bt_int g54 hl26 (e := I) ?_
            have hl34 := appI_len g54
            refine WO_assign ?_
            refine WO_nil ?_
            cases hE9
            exact metJ (v5 + 1, X9.length) ⟨rfl, trivial⟩ ⟨aOm, aKp, aLk, hl34⟩
          · refine W_seq ?_
            refine W_region ?_
            refine WO_fieldP fa_impl_Node_0 ?_
            refine WO_load1 sz_string ag_string ?_
            refine WO_eqlS ?_
            refine WO_assign ?_
            refine WO_nil ?_
            refine W_ite hE9 (fun hq hE9 => ?_) (fun hq hE9 => ?_)
            · refine W_region ?_
              refine WO_move ?_
              refine WO_move ?_
              refine WO_buildSlice el_S_int sz_int zo_int ?_
              obtain ⟨c28, g55, hE9⟩ := ob hE9
              refine D_appR sl_S_int el_S_int sz_int zs_int bt_int g55 hl26 (e := I) ?_
              have hl35 := appI_len g55
              refine WO_assign ?_
              refine WO_nil ?_
              cases hE9
              exact metJ (v5 + 1, X9.length) ⟨rfl, trivial⟩ ⟨aOm, aKp, aLk, hl35⟩
            · refine W_seq ?_
              refine W_region ?_
              refine WO_fieldP fa_impl_Node_0 ?_
              refine WO_load1 sz_string ag_string ?_
              refine WO_callN (run_spec_exOne (a0 := x29.Op)) ?_
              refine WO_assign ?_
              refine WO_nil ?_
              refine W_ite hE9 (fun hq hE9 => ?_) (fun hq hE9 => ?_)
              · refine W_regionD [0, 1, 1, 0, 1, 1, 1, 1, 0, 0, 2, 0] mixed (by kernel_rfl) ?_
                refine WO_move ?_
                refine WO_fieldP fa_impl_Node_0 ?_
                refine WO_load1 sz_string ag_string ?_
                refine WO_move ?_
                refine WO_fieldP fa_impl_Node_1 ?_
                refine WO_load1 sz_int ag_int ?_
                obtain ⟨x38, g56, hE9⟩ := ob hE9
                refine D_indexR el_S_int sz_int g56 hl26 ?_
                refine D_ld1R sz_int ag_int g56 ?_
                obtain ⟨x39, g57, hE9⟩ := ob hE9
                refine WO_callN (run_spec_exApply g57) ?_
                refine WO_buildSlice el_S_int sz_int zo_int ?_
                obtain ⟨c29, g58, hE9⟩ := ob hE9
                refine D_appR sl_S_int el_S_int sz_int zs_int bt_int g58 hl26 (e := I) ?_
                have hl36 := appI_len g58
                refine WO_assign ?_
                refine WO_nil ⟨rfl, ?_⟩
                cases hE9
                exact metJ (v5 + 1, X9.length) ⟨rfl, trivial⟩ ⟨aOm, aKp, aLk, hl36⟩
              · refine W_regionD [0, 1, 1, 0, 1, 1, 1, 1, 0, 1, 1, 1, 1, 0, 0, 2, 0] mixed (by kernel_rfl) ?_
                refine WO_move ?_
                refine WO_fieldP fa_impl_Node_0 ?_
                refine WO_load1 sz_string ag_string ?_
                refine WO_move ?_
                refine WO_fieldP fa_impl_Node_1 ?_
                refine WO_load1 sz_int ag_int ?_
                obtain ⟨x40, g59, hE9⟩ := ob hE9
                refine D_indexR el_S_int sz_int g59 hl26 ?_
                refine D_ld1R sz_int ag_int g59 ?_
                refine WO_move ?_
                refine WO_fieldP fa_impl_Node_2 ?_
                refine WO_load1 sz_int ag_int ?_
                obtain ⟨x41, g60, hE9⟩ := ob hE9
                refine D_indexR el_S_int sz_int g60 hl26 ?_
                refine D_ld1R sz_int ag_int g60 ?_
                obtain ⟨x42, g61, hE9⟩ := ob hE9
                refine WO_callN (run_spec_exApply g61) ?_
                refine WO_buildSlice el_S_int sz_int zo_int ?_
                obtain ⟨c30, g62, hE9⟩ := ob hE9
                refine D_appR sl_S_int el_S_int sz_int zs_int bt_int g62 hl26 (e := I) ?_
                have hl37 := appI_len g62
                refine WO_assign ?_
                refine WO_nil ⟨rfl, ?_⟩
                cases hE9
                exact metJ (v5 + 1, X9.length) ⟨rfl, trivial⟩ ⟨aOm, aKp, aLk, hl37⟩
    · intro bb9 e10 nx12 h4 hJ
      obtain ⟨v6, n6⟩ := bb9
      obtain ⟨hn10, hk4, hr4, hl32⟩ := hJ
      refine W_region ?_
      refine WO_succ ?_
      refine WO_move ?_
      refine WO_nil ?_
      exact round ((i1 + 1), X9, v6, n6) ⟨rfl, rfl, trivial⟩ ⟨aOm, aKp, aOm, aLk, hl32, hE7⟩ aOm
  · have hge1 : (a0.length : Int) ≤ (i1 : Int) := dec_ge hq
    rw [drop_len (by omega), m_spec_exValues_l0] at hE7
    refine W_exit ?_
    cases hE7
    try dsimp only at hm
    refine W_seq ?_
    refine W_region ?_
    refine WO_move ?_
    refine WO_assign ?_
    refine WO_nil ?_
    cases hm
    exact W_ret (finD1 [(p ++ [0])] (retTmp (t := 6) retNil) (FV.rowL hl26) (Kp.fin aKp))

noncomputable def m_spec_exAt (a0 : List GNode) (a1 : Int) (a2 : Int) : Option Int :=
  (m_spec_exValues a0 a1 a2).bind fun x1 =>
  (getI x1 (w64 ((a0.length : Int) - 1))).bind fun x2 =>
  some x2

theorem run_spec_exAt {a0 : List GNode} {b0 : Bool} {a1 : Int} {a2 : Int} {R : Int} (hm : m_spec_exAt a0 a1 a2 = some R) : Gives PG F_spec_exAt [PV.sl b0 (a0.map eGNode), I a1, I a2] (I R) := by
  intro p h
  unfold m_spec_exAt at hm
  refine fn_dec fn_spec_exAt ?_
  refine W_seq ?_
  refine W_region ?_
  refine WO_assign ?_
  refine WO_nil ?_
  refine W_seq ?_
  refine W_region ?_
  refine WO_move ?_
  refine WO_move ?_
  refine WO_move ?_
  obtain ⟨x1, g1, hm⟩ := ob hm
  refine WO_callN (run_spec_exValues g1) ?_
  refine WO_move ?_
  refine D_len sl_S_impl_Node (e := eGNode) (xs := a0) ?_
  refine WO_sub ?_
  obtain ⟨x2, g2, hm⟩ := ob hm
  refine D_index el_S_int sz_int g2 ?_
  refine WO_loadI1 sz_int ag_int ?_
  refine WO_assign ?_
  refine WO_nil ?_
  cases hm
  exact W_ret (finD1 [] (retTmp (t := 6) retNil) (.same _) (Kp.fin aKp))

end Go.Proofs.Ytpfdeoapnpcbaaa
