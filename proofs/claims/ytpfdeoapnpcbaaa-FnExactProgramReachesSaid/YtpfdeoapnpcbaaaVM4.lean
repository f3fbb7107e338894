/-
  What is proved here: what functions of the program give, as functions over lists and numbers.
  Conditions: none.
-/
import Derived.Test.YtpfdeoapnpcbaaaVM3
set_option linter.unusedSectionVars false
namespace Go.Proofs.Ytpfdeoapnpcbaaa
open Go.Vs
set_option linter.unusedVariables false
set_option linter.unusedSimpArgs false
set_option maxHeartbeats 4000000
set_option maxRecDepth 4000
attribute [local irreducible] upd del

noncomputable def m_impl_IsChoice_l1 (x23 : GForm × Bool) : List Int → Unit ⊕ Bool
  | [] =>
    .inl ()
  | x28 :: zs =>
    bd (((!(m_impl_isWord x28)) || ((m__impl_form_imm x23.1) && (!(m_impl_within x28 x23.1.low x23.1.high))))) fun X13 =>
    if X13 then
      .inr false
    else
      m_impl_IsChoice_l1 x23 zs

noncomputable def m_impl_IsChoice_l0 (a0 : GChoice) : List ByteArray → Option Bool
  | [] =>
    some true
  | x22 :: zs =>
    (m_impl_formOf x22).bind fun x23 =>
    if (!x23.2) then
      some false
    else
      bd (m_impl_IsChoice_l1 x23 a0.Imms) fun X12 =>
      match X12 with
        | .inl X12 =>
        m_impl_IsChoice_l0 a0 zs
        | .inr r => some r

noncomputable def m_impl_IsChoice (a0 : GChoice) : Option Bool :=
  ((if (!(m_impl_within (a0.Ops.length : Int) 1 4)) then some true else (if (decide ((a0.Imms.length : Int) > 2)) then some true else (m_impl_areDifferent_string a0.Ops).bind fun x4 =>
    (if (!x4) then some true else (m_impl_areDifferent_int a0.Imms).bind fun x5 =>
    some (!x5))))).bind fun X1 =>
  if X1 then
    some false
  else
    m_impl_IsChoice_l0 a0 a0.Ops

theorem run_impl_IsChoice {a0 : GChoice} {R : Bool} (hm : m_impl_IsChoice a0 = some R) : Gives PG F_impl_IsChoice [eGChoice a0] (B R) := by
  intro p h
  have hvac : ∀ k, ∃ s : St, k ≤ s.nx ∧ Fin PG Try.f50 71 p h (B R) .ret s := fun k => ⟨⟨fun i => if i = 2 then B R else default, k, h⟩, Nat.le_refl _, finD1 [] (retTmp (t := 2) retNil) (.same _) (fun _ => .inl rfl)⟩
  unfold m_impl_IsChoice at hm
  refine fn_dec fn_impl_IsChoice ?_
  refine W_seq ?_
  refine W_region ?_
  refine WO_box sz_impl_Choice ?_
  refine WO_assign ?_
  refine WO_nil ?_
  refine W_seq ?_
  refine W_seq ?_
  obtain ⟨X1, hE1, hm⟩ := ob hm
  refine W_joinH (γ := Unit) [9, 10, 11, 12, 13, 14, 15, 16, 17, 18, 19, 20, 21, 22, 23, 24, 25, 26, 27, 28, 29, 30, 31] (fun b => [(31, B X1)]) ?_ ?_
  · refine W_region ?_
    refine WO_fieldP fa_impl_Choice_0 ?_
    refine WO_load1 sz_S_string ag_S_string ?_
    refine D_len sl_S_string (e := S) (xs := a0.Ops) ?_
    refine WO_callN (run_impl_within (a0 := (a0.Ops.length : Int)) (a1 := 1) (a2 := 4)) ?_
    refine WO_not ?_
    refine WO_move ?_
    refine WO_ite 14 hE1 (fun hq hE1 => ?_) (fun hq hE1 => ?_)
    · refine WO_skip ?_
      refine WO_skip ?_
      refine WO_skip ?_
      refine WO_skip ?_
      refine WO_pick ?_
      refine WO_move ?_
      refine WO_skip ?_
      refine WO_skip ?_
      refine WO_skip ?_
      refine WO_skip ?_
      refine WO_pick ?_
      refine WO_move ?_
      refine WO_skip ?_
      refine WO_skip ?_
      refine WO_skip ?_
      refine WO_skip ?_
      refine WO_pick ?_
      refine WO_nil ?_
      cases hE1
      exact metH () ⟨rfl, trivial⟩ aOm
    · refine WO_fieldP fa_impl_Choice_1 ?_
      refine WO_load1 sz_S_int ag_S_int ?_
      refine D_len sl_S_int (e := I) (xs := a0.Imms) ?_
      refine WO_gtr ?_
      refine WO_pick ?_
      refine WO_move ?_
      refine WO_ite 20 hE1 (fun hq hE1 => ?_) (fun hq hE1 => ?_)
      · refine WO_skip ?_
        refine WO_skip ?_
        refine WO_skip ?_
        refine WO_skip ?_
        refine WO_pick ?_
        refine WO_move ?_
        refine WO_skip ?_
        refine WO_skip ?_
        refine WO_skip ?_
        refine WO_skip ?_
        refine WO_pick ?_
        refine WO_nil ?_
        cases hE1
        exact metH () ⟨rfl, trivial⟩ aOm
      · refine WO_fieldP fa_impl_Choice_0 ?_
        refine WO_load1 sz_S_string ag_S_string ?_
        obtain ⟨x4, g3, hE1⟩ := ob hE1
        refine WO_callN (run_impl_areDifferent_string g3) ?_
        refine WO_not ?_
        refine WO_pick ?_
        refine WO_move ?_
        refine WO_ite 26 hE1 (fun hq hE1 => ?_) (fun hq hE1 => ?_)
        · refine WO_skip ?_
          refine WO_skip ?_
          refine WO_skip ?_
          refine WO_skip ?_
          refine WO_pick ?_
          refine WO_nil ?_
          cases hE1
          exact metH () ⟨rfl, trivial⟩ aOm
        · refine WO_fieldP fa_impl_Choice_1 ?_
          refine WO_load1 sz_S_int ag_S_int ?_
          obtain ⟨x5, g4, hE1⟩ := ob hE1
          refine WO_callN (run_impl_areDifferent_int g4) ?_
          refine WO_not ?_
          refine WO_pick ?_
          refine WO_nil ?_
          cases hE1
          exact metH () ⟨rfl, trivial⟩ aOm
  · intro bb1 e1 nx1 hn1
    refine W_ite hm (fun hq hm => ?_) (fun hq hm => ?_)
    · refine W_seq ?_
      refine W_region ?_
      refine WO_assign ?_
      refine WO_nil ?_
      cases hm
      exact W_ret (finD1 [] (retTmp (t := 2) retNil) (.same _) (Kp.fin aKp))
    · refine W_skip ?_
      refine W_seq ?_
      refine W_seq ?_
      refine W_region ?_
      refine WO_fieldP fa_impl_Choice_0 ?_
      refine WO_load1 sz_S_string ag_S_string ?_
      refine D_len sl_S_string (e := S) (xs := a0.Ops) ?_
      refine WO_move ?_
      refine WO_nil ?_
      refine W_bnd 33 hvac (fun hb3 => ?_)
      rw [List.length_map] at hb3
      refine W_block ?_
      refine W_loopM (α := Nat) ([2] ++ List.range' 4 3 ++ [8] ++ List.range' 35 36) (fun a => [(35, I (a : Nat))]) (fun a nx' h' => nx1 ≤ nx' ∧ Kp p [] h h' ∧ a ≤ a0.Ops.length ∧ (h' (p ++ [0]) = some ⟨0, 2, [eGChoice a0]⟩) ∧ m_impl_IsChoice_l0 a0 (a0.Ops.drop a) = some R) (fun a => a0.Ops.length - a) 0 ⟨rfl, trivial⟩ ⟨aOm, aKp, Nat.zero_le _, aLk, hm⟩ (fun i3 e10 nx16 h3 hI => ?_)
      obtain ⟨hn10, hk3, hi3, hr5, hm⟩ := hI
      refine W_seq ?_
      refine W_region ?_
      refine WO_lss ?_
      refine WO_nil ?_
      refine W_seq ?_
      refine W_cond (fun hq => ?_) (fun hq => ?_)
      · have hlt3 : (i3 : Int) < (a0.Ops.length : Int) := dec_lt hq
        obtain ⟨x22, hx3, hd3⟩ := lt_get (xs := a0.Ops) (i := i3) (by omega)
        rw [hd3, m_impl_IsChoice_l0] at hm
        replace hx3 := getI_nat hx3
        refine W_skip ?_
        refine W_seq ?_
        refine W_block ?_
        refine W_seq ?_
        refine W_region ?_
        refine D_index el_S_string sz_string hx3 ?_
        refine WO_loadI1 sz_string ag_string ?_
        refine WO_assign ?_
        refine WO_nil ?_
        refine W_seq ?_
        refine W_region ?_
        refine WO_move ?_
        obtain ⟨x23, g13, hm⟩ := ob hm
        refine WO_callN (run_impl_formOf g13) ?_
        refine WO_move ?_
        refine WO_extract ?_
        refine WO_extract ?_
        refine WO_alloc sz_impl_form zo_impl_form ?_
        refine WO_store sz_impl_form ?_
        refine WO_assign ?_
        refine WO_nil ?_
        refine W_seq ?_
        refine W_seq ?_
        refine W_region ?_
        refine WO_move ?_
        refine WO_not ?_
        refine WO_nil ?_
        refine W_ite hm (fun hq hm => ?_) (fun hq hm => ?_)
        · refine W_seq ?_
          refine W_region ?_
          refine WO_assign ?_
          refine WO_nil ?_
          cases hm
          exact W_ret (finD1 [] (retTmp (t := 2) retNil) (.same _) (Kp.fin aKp))
        · refine W_skip ?_
          refine W_seq ?_
          refine W_region ?_
          refine WO_fieldP fa_impl_Choice_1 ?_
          refine WO_load1 sz_S_int ag_S_int ?_
          refine D_len sl_S_int (e := I) (xs := a0.Imms) ?_
          refine WO_move ?_
          refine WO_nil ?_
          refine W_bnd 47 hvac (fun hb4 => ?_)
          rw [List.length_map] at hb4
          obtain ⟨X12, hE12, hm⟩ := obd hm
          refine W_block ?_
          refine W_loopM (α := Nat) [2, 8, 49, 50, 51, 52, 53, 54, 55, 56, 57, 58, 59, 60, 61, 62, 63, 64, 65, 66, 67, 68, 69] (fun a => [(49, I (a : Nat))]) (fun a nx' h' => (nx16 + 2) ≤ nx' ∧ Kp p [] h h' ∧ a ≤ a0.Imms.length ∧ (h' (p ++ [0]) = some ⟨0, 2, [eGChoice a0]⟩) ∧ (h' (p ++ [(nx16 + 1)]) = some ⟨0, 6, [eGForm x23.1]⟩) ∧ m_impl_IsChoice_l1 x23 (a0.Imms.drop a) = X12) (fun a => a0.Imms.length - a) 0 ⟨rfl, trivial⟩ ⟨aOm, aKp, Nat.zero_le _, aLk, aLk, hE12⟩ (fun i4 e13 nx21 h4 hI => ?_)
          obtain ⟨hn13, hk4, hi4, hr6, hr7, hE12⟩ := hI
          refine W_seq ?_
          refine W_region ?_
          refine WO_lss ?_
          refine WO_nil ?_
          refine W_seq ?_
          refine W_cond (fun hq => ?_) (fun hq => ?_)
          · have hlt4 : (i4 : Int) < (a0.Imms.length : Int) := dec_lt hq
            obtain ⟨x28, hx4, hd4⟩ := lt_get (xs := a0.Imms) (i := i4) (by omega)
            rw [hd4, m_impl_IsChoice_l1] at hE12
            replace hx4 := getI_nat hx4
            refine W_skip ?_
            refine W_seq ?_
            refine W_block ?_
            refine W_seq ?_
            refine W_region ?_
            refine D_index el_S_int sz_int hx4 ?_
            refine WO_loadI1 sz_int ag_int ?_
            refine WO_assign ?_
            refine WO_nil ?_
            refine W_seq ?_
            obtain ⟨X13, hE13, hE12⟩ := obd hE12
            refine W_joinH (γ := Unit) [53, 54, 55, 56, 57, 58, 59, 60, 61, 62, 63, 64, 65, 66, 67, 68] (fun b => [(68, B X13)]) ?_ ?_
            · refine W_region ?_
              refine WO_move ?_
              refine WO_callN (run_impl_isWord (a0 := x28)) ?_
              refine WO_not ?_
              refine WO_move ?_
              refine WO_ior 56 hE13 (fun hq hE13 => ?_) (fun hq hE13 => ?_)
              · refine WO_skip ?_
                refine WO_skip ?_
                refine WO_skip ?_
                refine WO_skip ?_
                refine WO_skip ?_
                refine WO_skip ?_
                refine WO_skip ?_
                refine WO_skip ?_
                refine WO_skip ?_
                refine WO_skip ?_
                refine WO_skip ?_
                refine WO_pick ?_
                refine WO_nil ?_
                cases hE13
                exact metH () ⟨rfl, trivial⟩ aOm
              · refine WO_loadS sz_impl_form ag_impl_form ?_
                refine WO_callN (run__impl_form_imm (a0 := x23.1)) ?_
                refine WO_move ?_
                refine WO_iand 59 hE13 (fun hq hE13 => ?_) (fun hq hE13 => ?_)
                · refine WO_move ?_
                  refine WO_fieldP fa_impl_form_2 ?_
                  refine WO_load1 sz_int ag_int ?_
                  refine WO_fieldP fa_impl_form_3 ?_
                  refine WO_load1 sz_int ag_int ?_
                  refine WO_callN (run_impl_within (a0 := x28) (a1 := x23.1.low) (a2 := x23.1.high)) ?_
                  refine WO_not ?_
                  refine WO_pick ?_
                  refine WO_pick ?_
                  refine WO_nil ?_
                  cases hE13
                  exact metH () ⟨rfl, trivial⟩ aOm
                · refine WO_skip ?_
                  refine WO_skip ?_
                  refine WO_skip ?_
                  refine WO_skip ?_
                  refine WO_skip ?_
                  refine WO_skip ?_
                  refine WO_skip ?_
                  refine WO_pick ?_
                  refine WO_pick ?_
                  refine WO_nil ?_
                  cases hE13
                  exact metH () ⟨rfl, trivial⟩ aOm
            · intro bb10 e14 nx22 hn14
              refine W_ite hE12 (fun hq hE12 => ?_) (fun hq hE12 => ?_)
              · refine W_seq ?_
                refine W_region ?_
                refine WO_assign ?_
                refine WO_nil ?_
                cases hE12
                dsimp only at hm
                cases hm
                exact W_ret (finD1 [] (retTmp (t := 2) retNil) (.same _) (Kp.fin aKp))
              · refine W_skip ?_
                refine W_region ?_
                refine WO_succ ?_
                refine WO_move ?_
                refine WO_nil ?_
                exact round (i4 + 1) ⟨rfl, trivial⟩ ⟨aOm, aKp, aOm, aLk, aLk, hE12⟩ aOm
          · have hge3 : (a0.Imms.length : Int) ≤ (i4 : Int) := dec_ge hq
            rw [drop_len (by omega), m_impl_IsChoice_l1] at hE12
            refine W_exit ?_
            cases hE12
            try dsimp only at hm
            refine W_region ?_
            refine WO_succ ?_
            refine WO_move ?_
            refine WO_nil ?_
            exact round (i3 + 1) ⟨rfl, trivial⟩ ⟨aOm, aKp, aOm, aLk, hm⟩ aOm
      · have hge4 : (a0.Ops.length : Int) ≤ (i3 : Int) := dec_ge hq
        rw [drop_len (by omega), m_impl_IsChoice_l0] at hm
        refine W_exit ?_
        refine W_seq ?_
        refine W_region ?_
        refine WO_assign ?_
        refine WO_nil ?_
        cases hm
        exact W_ret (finD1 [] (retTmp (t := 2) retNil) (.same _) (Kp.fin aKp))

noncomputable def m_impl_upTo_l0 : List Int → (List Int) → Option (List Int)
  | [], s4 =>
    some s4
  | i1 :: zs, s4 =>
    (appI s4 ([i1] : List Int)).bind fun c3 =>
    m_impl_upTo_l0 zs c3

noncomputable def m_impl_upTo (a0 : Bool) (a1 : Int) : Option (List Int) :=
  if (!a0) then
    some ([0] : List Int)
  else
    ((chk a1).bind fun _ => m_impl_upTo_l0 (rng 0 a1) ([] : List Int)).bind fun X1 =>
    some X1

theorem run_impl_upTo {a0 : Bool} {a1 : Int} {R : (List Int)} (hm : m_impl_upTo a0 a1 = some R) : Gives PG F_impl_upTo [B a0, I a1] (PV.sl false (R.map I)) := by
  intro p h
  unfold m_impl_upTo at hm
  refine fn_dec fn_impl_upTo ?_
  refine W_seq ?_
  refine W_region ?_
  refine WO_assign ?_
  refine WO_nil ?_
  refine W_seq ?_
  refine W_seq ?_
  refine W_region ?_
  refine WO_move ?_
  refine WO_not ?_
  refine WO_nil ?_
  refine W_ite hm (fun hq hm => ?_) (fun hq hm => ?_)
  · refine W_seq ?_
    refine W_region ?_
    refine WO_buildSlice el_S_int sz_int zo_int ?_
    refine WO_assign ?_
    refine WO_nil ?_
    cases hm
    exact W_ret (finD1 [] (retTmp (t := 4) retNil) .lo (Kp.fin aKp))
  · refine W_skip ?_
    refine W_seq ?_
    refine W_region ?_
    refine WO_buildSliceR el_S_int sz_int zo_int ?_
    have hl1 : ([] : List Int).length = 0 ∧ 0 ≤ LIM := ⟨rfl, Nat.le_of_ble_eq_true rfl⟩
    refine WO_assign ?_
    refine WO_nil ?_
    refine W_seq ?_
    refine W_seq ?_
    refine W_region ?_
    refine WO_move ?_
    refine WO_move ?_
    refine WO_nil ?_
    obtain ⟨X1, hE1, hm⟩ := ob hm
    obtain ⟨_, g3, hE1⟩ := ob hE1
    have g3 := chk_le g3
    refine W_block ?_
    refine W_loopM (α := Int × (List Int) × Nat × Nat) [5, 6, 12, 13, 14, 15, 16, 17, 18, 19] (fun a => [(12, I a.1), (5, PV.ref (p ++ [0]) a.2.2.1 0 a.2.2.2)]) (fun a nx' h' => 1 ≤ nx' ∧ Kp p [] h h' ∧ 0 ≤ a.1 ∧ (h' (p ++ [0]) = some ⟨a.2.2.1, 1, a.2.1.map I⟩) ∧ (a.2.1.length = a.2.2.2 ∧ a.2.2.2 ≤ LIM) ∧ m_impl_upTo_l0 (rng a.1 a1) a.2.1 = some X1) (fun a => (a1 - a.1).toNat) (0, ([] : List Int), 0, 0) ⟨rfl, rfl, trivial⟩ ⟨aOm, aKp, Int.le_refl _, aLk, hl1, hE1⟩ (fun a e1 nx3 h1 hI => ?_)
    obtain ⟨i1, s4, v3, n3⟩ := a
    obtain ⟨hn1, hk1, hi1, hr1, hl6, hE1⟩ := hI
    refine W_seq ?_
    refine W_region ?_
    refine WO_lss ?_
    refine WO_nil ?_
    refine W_seq ?_
    refine W_cond (fun hq => ?_) (fun hq => ?_)
    · have hlt1 : i1 < a1 := dec_lt hq
      rw [rng_cons (by omega), m_impl_upTo_l0] at hE1
      refine W_skip ?_
      refine W_seq ?_
      refine W_block ?_
      refine W_seq ?_
      refine W_region ?_
      refine WO_move ?_
      refine WO_assign ?_
      refine WO_nil ?_
      refine W_region ?_
      refine WO_move ?_
      refine WO_move ?_
      refine WO_buildSlice el_S_int sz_int zo_int ?_
      obtain ⟨c3, g4, hE1⟩ := ob hE1
      refine D_appR sl_S_int el_S_int sz_int zs_int bt_int g4 hl6 (e := I) ?_
      have hl7 := appI_len g4
      refine WO_assign ?_
      refine WO_nil ?_
      refine W_region ?_
      refine WO_addI ?_
      refine WO_move ?_
      refine WO_nil ?_
      exact round ((i1 + 1), c3, v3 + 1, c3.length) ⟨rfl, rfl, trivial⟩ ⟨aOm, aKp, aOm, aLk, hl7, hE1⟩ aOm
    · have hge1 : a1 ≤ (i1 : Int) := dec_ge hq
      rw [rng_nil (by omega), m_impl_upTo_l0] at hE1
      refine W_exit ?_
      cases hE1
      try dsimp only at hm
      refine W_seq ?_
      refine W_region ?_
      refine WO_move ?_
      refine WO_assign ?_
      refine WO_nil ?_
      cases hm
      exact W_ret (finD1 [(p ++ [0])] (retTmp (t := 4) retNil) (FV.rowL hl6) (Kp.fin aKp))

noncomputable def m_impl_steps_l3 (x93 : ByteArray) (a1 : Int) (x125 : Int) (x135 : Int) : List Int → (List GInstr) → Option (List GInstr)
  | [], s160 =>
    some s160
  | x138 :: zs, s160 =>
    (appI s160 ([(⟨x93, (w64 (2 + a1)), x125, x135, x138⟩ : GInstr)] : List GInstr)).bind fun c81 =>
    m_impl_steps_l3 x93 a1 x125 x135 zs c81

noncomputable def m_impl_steps_l2 (x93 : ByteArray) (a1 : Int) (x125 : Int) (X30 : (List Int)) : List Int → (List GInstr) → Option (List GInstr)
  | [], s156 =>
    some s156
  | x135 :: zs, s156 =>
    (m_impl_steps_l3 x93 a1 x125 x135 X30 s156).bind fun X43 =>
    m_impl_steps_l2 x93 a1 x125 X30 zs X43

noncomputable def m_impl_steps_l1 (x94 : GForm × Bool) (a1 : Int) (x93 : ByteArray) (X30 : (List Int)) : List Int → (List GInstr) → Option (List GInstr)
  | [], s144 =>
    some s144
  | x125 :: zs, s144 =>
    (m_impl_upTo x94.1.b (w64 (2 + a1))).bind fun x126 =>
    (m_impl_steps_l2 x93 a1 x125 X30 x126 s144).bind fun X42 =>
    m_impl_steps_l1 x94 a1 x93 X30 zs X42

noncomputable def m_impl_steps_l0 (a0 : GChoice) (a1 : Int) : List ByteArray → (List GInstr) → Option (List GInstr)
  | [], s108 =>
    some s108
  | x93 :: zs, s108 =>
    (m_impl_formOf x93).bind fun x94 =>
    bd (if (m__impl_form_imm x94.1) then
        a0.Imms
      else
        ([0] : List Int)) fun X30 =>
    (m_impl_upTo x94.1.a (w64 (2 + a1))).bind fun x96 =>
    (m_impl_steps_l1 x94 a1 x93 X30 x96 s108).bind fun X39 =>
    m_impl_steps_l0 a0 a1 zs X39

noncomputable def m_impl_steps (a0 : GChoice) (a1 : Int) : Option (List GInstr) :=
  (m_impl_steps_l0 a0 a1 a0.Ops ([] : List GInstr)).bind fun X29 =>
  some X29

theorem run_impl_steps {a0 : GChoice} {a1 : Int} {R : (List GInstr)} (hm : m_impl_steps a0 a1 = some R) : Gives PG F_impl_steps [eGChoice a0, I a1] (PV.sl false (R.map eGInstr)) := by
  intro p h
  have hvac : ∀ k, ∃ s : St, k ≤ s.nx ∧ Fin PG Try.f82 76 p h (PV.sl false (R.map eGInstr)) .ret s := fun k => ⟨⟨fun i => if i = 4 then PV.sl false (R.map eGInstr) else default, k, h⟩, Nat.le_refl _, finD1 [] (retTmp (t := 4) retNil) (.same _) (fun _ => .inl rfl)⟩
  unfold m_impl_steps at hm
  refine fn_dec fn_impl_steps ?_
  refine W_seq ?_
  refine W_region ?_
  refine WO_box sz_impl_Choice ?_
  refine WO_assign ?_
  refine WO_nil ?_
  refine W_seq ?_
  refine W_region ?_
  refine WO_buildSliceR el_S_impl_Instr sz_impl_Instr zo_impl_Instr ?_
  have hl1 : ([] : List GInstr).length = 0 ∧ 0 ≤ LIM := ⟨rfl, Nat.le_of_ble_eq_true rfl⟩
  refine WO_assign ?_
  refine WO_nil ?_
  refine W_seq ?_
  refine W_seq ?_
  refine W_region ?_
  refine WO_fieldP fa_impl_Choice_0 ?_
  refine WO_load1 sz_S_string ag_S_string ?_
  refine D_len sl_S_string (e := S) (xs := a0.Ops) ?_
  refine WO_move ?_
  refine WO_nil ?_
  refine W_bnd 19 hvac (fun hb27 => ?_)
  rw [List.length_map] at hb27
  obtain ⟨X29, hE29, hm⟩ := ob hm
  refine W_block ?_
  refine W_loopM (α := Nat × (List GInstr) × Nat × Nat) ([5] ++ List.range' 7 4 ++ [12] ++ [14] ++ [16] ++ List.range' 21 54) (fun a => [(21, I (a.1 : Nat)), (5, PV.ref (p ++ [1]) a.2.2.1 0 a.2.2.2)]) (fun a nx' h' => 2 ≤ nx' ∧ Kp p [] h h' ∧ a.1 ≤ a0.Ops.length ∧ (h' (p ++ [0]) = some ⟨0, 2, [eGChoice a0]⟩) ∧ (h' (p ++ [1]) = some ⟨a.2.2.1, 5, a.2.1.map eGInstr⟩) ∧ (a.2.1.length = a.2.2.2 ∧ a.2.2.2 ≤ LIM) ∧ m_impl_steps_l0 a0 a1 (a0.Ops.drop a.1) a.2.1 = some X29) (fun a => a0.Ops.length - a.1) (0, ([] : List GInstr), 0, 0) ⟨rfl, rfl, trivial⟩ ⟨aOm, aKp, Nat.zero_le _, aLk, aLk, hl1, hE29⟩ (fun a e29 nx83 h27 hI => ?_)
  obtain ⟨i27, s108, v81, n81⟩ := a
  obtain ⟨hn29, hk27, hi27, hr79, hr80, hl136, hE29⟩ := hI
  refine W_seq ?_
  refine W_region ?_
  refine WO_lss ?_
  refine WO_nil ?_
  refine W_seq ?_
  refine W_cond (fun hq => ?_) (fun hq => ?_)
  · have hlt27 : (i27 : Int) < (a0.Ops.length : Int) := dec_lt hq
    obtain ⟨x93, hx27, hd27⟩ := lt_get (xs := a0.Ops) (i := i27) (by omega)
    rw [hd27, m_impl_steps_l0] at hE29
    replace hx27 := getI_nat hx27
    refine W_skip ?_
    refine W_seq ?_
    refine W_block ?_
    refine W_seq ?_
    refine W_region ?_
    refine D_index el_S_string sz_string hx27 ?_
    refine WO_loadI1 sz_string ag_string ?_
    refine WO_assign ?_
    refine WO_nil ?_
    refine W_seq ?_
    refine W_region ?_
    refine WO_move ?_
    obtain ⟨x94, g119, hE29⟩ := ob hE29
    refine WO_callN (run_impl_formOf g119) ?_
    refine WO_move ?_
    refine WO_extract ?_
    refine WO_extract ?_
    refine WO_alloc sz_impl_form zo_impl_form ?_
    refine WO_store sz_impl_form ?_
    refine WO_assign ?_
    refine WO_nil ?_
    refine W_seq ?_
    refine W_region ?_
    refine D_build (e := I) ([0] : List Int) el_S_int sz_int zo_int ?_
    refine WO_assign ?_
    refine WO_nil ?_
    refine W_seq ?_
    refine W_seq ?_
    refine W_region ?_
    refine WO_loadS sz_impl_form ag_impl_form ?_
    refine WO_callN (run__impl_form_imm (a0 := x94.1)) ?_
    refine WO_nil ?_
    obtain ⟨X30, hE30, hE29⟩ := obd hE29
    refine W_joinH (γ := Bool) [10, 33, 34] (fun b => [(10, PV.sl b (X30.map I))]) ?_ ?_
    · refine W_ite hE30 (fun hq hE30 => ?_) (fun hq hE30 => ?_)
      · refine W_region ?_
        refine WO_fieldP fa_impl_Choice_1 ?_
        refine WO_load1 sz_S_int ag_S_int ?_
        refine WO_assign ?_
        refine WO_nil ?_
        cases hE30
        exact metH false ⟨rfl, trivial⟩ aOm
      · refine W_skip ?_
        cases hE30
        exact metH true ⟨rfl, trivial⟩ aOm
    · intro bb3 e30 nx84 hn30
      obtain b3 := bb3
      refine W_seq ?_
      refine W_region ?_
      refine WO_fieldP fa_impl_form_0 ?_
      refine WO_load1 sz_bool ag_bool ?_
      refine WO_move ?_
      refine WO_add ?_
      obtain ⟨x96, g120, hE29⟩ := ob hE29
      refine WO_callN (run_impl_upTo g120) ?_
      refine D_len sl_S_int (e := I) (xs := x96) ?_
      refine WO_move ?_
      refine WO_nil ?_
      refine W_bnd 39 hvac (fun hb36 => ?_)
      rw [List.length_map] at hb36
      obtain ⟨X39, hE39, hE29⟩ := ob hE29
      refine W_block ?_
      refine W_loopM (α := Nat × (List GInstr) × Nat × Nat) ([5] ++ [12] ++ [14] ++ [16] ++ List.range' 41 33) (fun a => [(41, I (a.1 : Nat)), (5, PV.ref (p ++ [1]) a.2.2.1 0 a.2.2.2)]) (fun a nx' h' => (nx84 + 1) ≤ nx' ∧ Kp p [] h h' ∧ a.1 ≤ x96.length ∧ (h' (p ++ [0]) = some ⟨0, 2, [eGChoice a0]⟩) ∧ (h' (p ++ [1]) = some ⟨a.2.2.1, 5, a.2.1.map eGInstr⟩) ∧ (h' (p ++ [(nx83 + 1)]) = some ⟨0, 6, [eGForm x94.1]⟩) ∧ (a.2.1.length = a.2.2.2 ∧ a.2.2.2 ≤ LIM) ∧ m_impl_steps_l1 x94 a1 x93 X30 (x96.drop a.1) a.2.1 = some X39) (fun a => x96.length - a.1) (0, s108, v81, n81) ⟨rfl, rfl, trivial⟩ ⟨aOm, aKp, Nat.zero_le _, aLk, aLk, aLk, hl136, hE39⟩ (fun a e39 nx111 h36 hI => ?_)
      obtain ⟨i36, s144, v108, n108⟩ := a
      obtain ⟨hn39, hk36, hi36, hr105, hr106, hr107, hl181, hE39⟩ := hI
      refine W_seq ?_
      refine W_region ?_
      refine WO_lss ?_
      refine WO_nil ?_
      refine W_seq ?_
      refine W_cond (fun hq => ?_) (fun hq => ?_)
      · have hlt36 : (i36 : Int) < (x96.length : Int) := dec_lt hq
        obtain ⟨x125, hx36, hd36⟩ := lt_get (xs := x96) (i := i36) (by omega)
        rw [hd36, m_impl_steps_l1] at hE39
        replace hx36 := getI_nat hx36
        refine W_skip ?_
        refine W_seq ?_
        refine W_block ?_
        refine W_seq ?_
        refine W_region ?_
        refine D_index el_S_int sz_int hx36 ?_
        refine WO_loadI1 sz_int ag_int ?_
        refine WO_assign ?_
        refine WO_nil ?_
        refine W_seq ?_
        refine W_region ?_
        refine WO_fieldP fa_impl_form_1 ?_
        refine WO_load1 sz_bool ag_bool ?_
        refine WO_move ?_
        refine WO_add ?_
        obtain ⟨x126, g159, hE39⟩ := ob hE39
        refine WO_callN (run_impl_upTo g159) ?_
        refine D_len sl_S_int (e := I) (xs := x126) ?_
        refine WO_move ?_
        refine WO_nil ?_
        refine W_bnd 49 hvac (fun hb39 => ?_)
        rw [List.length_map] at hb39
        obtain ⟨X42, hE42, hE39⟩ := ob hE39
        refine W_block ?_
        refine W_loopM (α := Nat × (List GInstr) × Nat × Nat) ([5] ++ [14] ++ [16] ++ List.range' 51 22) (fun a => [(51, I (a.1 : Nat)), (5, PV.ref (p ++ [1]) a.2.2.1 0 a.2.2.2)]) (fun a nx' h' => (nx111 + 1) ≤ nx' ∧ Kp p [] h h' ∧ a.1 ≤ x126.length ∧ (h' (p ++ [0]) = some ⟨0, 2, [eGChoice a0]⟩) ∧ (h' (p ++ [1]) = some ⟨a.2.2.1, 5, a.2.1.map eGInstr⟩) ∧ (h' (p ++ [(nx83 + 1)]) = some ⟨0, 6, [eGForm x94.1]⟩) ∧ (a.2.1.length = a.2.2.2 ∧ a.2.2.2 ≤ LIM) ∧ m_impl_steps_l2 x93 a1 x125 X30 (x126.drop a.1) a.2.1 = some X42) (fun a => x126.length - a.1) (0, s144, v108, n108) ⟨rfl, rfl, trivial⟩ ⟨aOm, aKp, Nat.zero_le _, aLk, aLk, aLk, hl181, hE42⟩ (fun a e42 nx120 h39 hI => ?_)
        obtain ⟨i39, s156, v117, n117⟩ := a
        obtain ⟨hn42, hk39, hi39, hr114, hr115, hr116, hl196, hE42⟩ := hI
        refine W_seq ?_
        refine W_region ?_
        refine WO_lss ?_
        refine WO_nil ?_
        refine W_seq ?_
        refine W_cond (fun hq => ?_) (fun hq => ?_)
        · have hlt39 : (i39 : Int) < (x126.length : Int) := dec_lt hq
          obtain ⟨x135, hx39, hd39⟩ := lt_get (xs := x126) (i := i39) (by omega)
          rw [hd39, m_impl_steps_l2] at hE42
          replace hx39 := getI_nat hx39
          refine W_skip ?_
          refine W_seq ?_
          refine W_block ?_
          refine W_seq ?_
          refine W_region ?_
          refine D_index el_S_int sz_int hx39 ?_
          refine WO_loadI1 sz_int ag_int ?_
          refine WO_assign ?_
          refine WO_nil ?_
          refine W_seq ?_
          refine W_region ?_
          refine WO_move ?_
          refine D_len sl_S_int (e := I) (xs := X30) ?_
          refine WO_move ?_
          refine WO_nil ?_
          refine W_bnd 55 hvac (fun hb40 => ?_)
          rw [List.length_map] at hb40
          obtain ⟨X43, hE43, hE42⟩ := ob hE42
          refine W_block ?_
          refine W_loopM (α := Nat × (List GInstr) × Nat × Nat) [5, 16, 57, 58, 59, 60, 61, 62, 63, 64, 65, 66, 67, 68, 69, 70, 71] (fun a => [(57, I (a.1 : Nat)), (5, PV.ref (p ++ [1]) a.2.2.1 0 a.2.2.2)]) (fun a nx' h' => nx120 ≤ nx' ∧ Kp p [] h h' ∧ a.1 ≤ X30.length ∧ (h' (p ++ [0]) = some ⟨0, 2, [eGChoice a0]⟩) ∧ (h' (p ++ [1]) = some ⟨a.2.2.1, 5, a.2.1.map eGInstr⟩) ∧ (h' (p ++ [(nx83 + 1)]) = some ⟨0, 6, [eGForm x94.1]⟩) ∧ (a.2.1.length = a.2.2.2 ∧ a.2.2.2 ≤ LIM) ∧ m_impl_steps_l3 x93 a1 x125 x135 (X30.drop a.1) a.2.1 = some X43) (fun a => X30.length - a.1) (0, s156, v117, n117) ⟨rfl, rfl, trivial⟩ ⟨aOm, aKp, Nat.zero_le _, aLk, aLk, aLk, hl196, hE43⟩ (fun a e43 nx123 h40 hI => ?_)
          obtain ⟨i40, s160, v120, n120⟩ := a
          obtain ⟨hn43, hk40, hi40, hr117, hr118, hr119, hl201, hE43⟩ := hI
          refine W_seq ?_
          refine W_region ?_
          refine WO_lss ?_
          refine WO_nil ?_
          refine W_seq ?_
          refine W_cond (fun hq => ?_) (fun hq => ?_)
          · have hlt40 : (i40 : Int) < (X30.length : Int) := dec_lt hq
            obtain ⟨x138, hx40, hd40⟩ := lt_get (xs := X30) (i := i40) (by omega)
            rw [hd40, m_impl_steps_l3] at hE43
            replace hx40 := getI_nat hx40
            refine W_skip ?_
            refine W_seq ?_
            refine W_block ?_
            refine W_seq ?_
            refine W_region ?_
            refine D_index el_S_int sz_int hx40 ?_
            refine WO_loadI1 sz_int ag_int ?_
            refine WO_assign ?_
            refine WO_nil ?_
            refine W_region ?_
            refine WO_move ?_
            refine WO_move ?_
            refine WO_move ?_
            refine WO_add ?_
            refine WO_move ?_
            refine WO_move ?_
            refine WO_move ?_
            refine WO_build zo_impl_Instr pl_impl_Instr ?_
            refine WO_buildSlice el_S_impl_Instr sz_impl_Instr zo_impl_Instr ?_
            obtain ⟨c81, g176, hE43⟩ := ob hE43
            refine D_appR sl_S_impl_Instr el_S_impl_Instr sz_impl_Instr zs_impl_Instr bt_impl_Instr g176 hl201 (e := eGInstr) ?_
            have hl202 := appI_len g176
            refine WO_assign ?_
            refine WO_nil ?_
            refine W_region ?_
            refine WO_succ ?_
            refine WO_move ?_
            refine WO_nil ?_
            exact round ((i40 + 1), c81, v120 + 1, c81.length) ⟨rfl, rfl, trivial⟩ ⟨aOm, aKp, aOm, aLk, aLk, aLk, hl202, hE43⟩ aOm
          · have hge37 : (X30.length : Int) ≤ (i40 : Int) := dec_ge hq
            rw [drop_len (by omega), m_impl_steps_l3] at hE43
            refine W_exit ?_
            cases hE43
            try dsimp only at hE42
            refine W_region ?_
            refine WO_succ ?_
            refine WO_move ?_
            refine WO_nil ?_
            exact round ((i39 + 1), s160, v120, n120) ⟨rfl, rfl, trivial⟩ ⟨aOm, aKp, aOm, aLk, aLk, aLk, hl201, hE42⟩ aOm
        · have hge38 : (x126.length : Int) ≤ (i39 : Int) := dec_ge hq
          rw [drop_len (by omega), m_impl_steps_l2] at hE42
          refine W_exit ?_
          cases hE42
          try dsimp only at hE39
          refine W_region ?_
          refine WO_succ ?_
          refine WO_move ?_
          refine WO_nil ?_
          exact round ((i36 + 1), s156, v117, n117) ⟨rfl, rfl, trivial⟩ ⟨aOm, aKp, aOm, aLk, aLk, aLk, hl196, hE39⟩ aOm
      · have hge39 : (x96.length : Int) ≤ (i36 : Int) := dec_ge hq
        rw [drop_len (by omega), m_impl_steps_l1] at hE39
        refine W_exit ?_
        cases hE39
        try dsimp only at hE29
        refine W_region ?_
        refine WO_succ ?_
        refine WO_move ?_
        refine WO_nil ?_
        exact round ((i27 + 1), s144, v108, n108) ⟨rfl, rfl, trivial⟩ ⟨aOm, aKp, aOm, aLk, aLk, hl181, hE29⟩ aOm
  · have hge40 : (a0.Ops.length : Int) ≤ (i27 : Int) := dec_ge hq
    rw [drop_len (by omega), m_impl_steps_l0] at hE29
    refine W_exit ?_
    cases hE29
    try dsimp only at hm
    refine W_seq ?_
    refine W_region ?_
    refine WO_move ?_
    refine WO_assign ?_
    refine WO_nil ?_
    cases hm
    exact W_ret (finD1 [(p ++ [1])] (retTmp (t := 4) retNil) (FV.rowL hl136) (Kp.fin aKp))

noncomputable def m_impl_bit (a0 : Bool) : Int :=
  if a0 then
    1
  else
    0

theorem run_impl_bit {a0 : Bool} : Gives PG F_impl_bit [B a0] (I (m_impl_bit a0)) := by
  intro p h
  generalize hm : m_impl_bit a0 = R
  unfold m_impl_bit at hm
  refine fn_dec fn_impl_bit ?_
  refine W_seq ?_
  refine W_region ?_
  refine WO_assign ?_
  refine WO_nil ?_
  refine W_seq ?_
  refine W_seq ?_
  refine W_region ?_
  refine WO_move ?_
  refine WO_nil ?_
  refine W_ite hm (fun hq hm => ?_) (fun hq hm => ?_)
  · refine W_seq ?_
    refine W_region ?_
    refine WO_assign ?_
    refine WO_nil ?_
    cases hm
    exact W_ret (finD1 [] (retTmp (t := 2) retNil) (.same _) (Kp.fin aKp))
  · refine W_skip ?_
    refine W_seq ?_
    refine W_region ?_
    refine WO_assign ?_
    refine WO_nil ?_
    cases hm
    exact W_ret (finD1 [] (retTmp (t := 2) retNil) (.same _) (Kp.fin aKp))

noncomputable def m_impl_apply (a0 : ByteArray) (a1 : Int) (a2 : Int) : Option Int :=
  (if (decide (a0 = (⟨#[110, 111, 116]⟩ : ByteArray))) then
      some (w64 (63 - a1))
    else
      if (decide (a0 = (⟨#[110, 101, 103]⟩ : ByteArray))) then
        some (w64 (0 - a1))
      else
        if (decide (a0 = (⟨#[97, 100, 100]⟩ : ByteArray))) then
          some (w64 (a1 + a2))
        else
          if (decide (a0 = (⟨#[115, 117, 98]⟩ : ByteArray))) then
            some (w64 (a1 - a2))
          else
            if (decide (a0 = (⟨#[109, 117, 108]⟩ : ByteArray))) then
              some (w64 (a1 * a2))
            else
              if (decide (a0 = (⟨#[97, 110, 100]⟩ : ByteArray))) then
                some (andI .i64 a1 a2)
              else
                if (decide (a0 = (⟨#[111, 114]⟩ : ByteArray))) then
                  some (orI .i64 a1 a2)
                else
                  if (decide (a0 = (⟨#[120, 111, 114]⟩ : ByteArray))) then
                    some (xorI .i64 a1 a2)
                  else
                    if (decide (a0 = (⟨#[115, 104, 108]⟩ : ByteArray))) then
                      if (decide (a2 < 6)) then
                        (shlI .i64 a1 a2).bind fun x4 =>
                        some x4
                      else
                        some 0
                    else
                      if (decide (a0 = (⟨#[115, 104, 114]⟩ : ByteArray))) then
                        if (decide (a2 < 6)) then
                          (shrI .i64 a1 a2).bind fun x5 =>
                          some x5
                        else
                          some 0
                      else
                        if (decide (a0 = (⟨#[108, 101, 115, 115]⟩ : ByteArray))) then
                          some (m_impl_bit (decide (a1 < a2)))
                        else
                          if (decide (a0 = (⟨#[101, 113]⟩ : ByteArray))) then
                            some (m_impl_bit (a1 == a2))
                          else
                            some 0).bind fun X1 =>
  some (andI .i64 X1 63)

theorem run_impl_apply {a0 : ByteArray} {a1 : Int} {a2 : Int} {R : Int} (hm : m_impl_apply a0 a1 a2 = some R) : Gives PG F_impl_apply [S a0, I a1, I a2] (I R) := by
  intro p h
  unfold m_impl_apply at hm
  refine fn_dec fn_impl_apply ?_
  refine W_seq ?_
  refine W_region ?_
  refine WO_assign ?_
  refine WO_nil ?_
  refine W_seq ?_
  refine W_region ?_
  refine WO_assign ?_
  refine WO_nil ?_
  refine W_seq ?_
  refine W_seq ?_
  refine W_region ?_
  refine WO_move ?_
  refine WO_nil ?_
  refine W_block ?_
  refine W_seq ?_
  refine W_region ?_
  refine WO_eqlS ?_
  refine WO_assign ?_
  refine WO_nil ?_
  obtain ⟨X1, hE1, hm⟩ := ob hm
  refine W_joinH (γ := Unit) ([7] ++ List.range' 11 62) (fun b => [(7, I X1)]) ?_ ?_
  · refine W_ite hE1 (fun hq hE1 => ?_) (fun hq hE1 => ?_)
    · refine W_region ?_
      refine WO_move ?_
      refine WO_sub ?_
      refine WO_assign ?_
      refine WO_nil ?_
      cases hE1
      exact metH () ⟨rfl, trivial⟩ aOm
    · refine W_seq ?_
      refine W_region ?_
      refine WO_eqlS ?_
      refine WO_assign ?_
      refine WO_nil ?_
      refine W_ite hE1 (fun hq hE1 => ?_) (fun hq hE1 => ?_)
      · refine W_region ?_
        refine WO_move ?_
        refine WO_neg ?_
        refine WO_assign ?_
        refine WO_nil ?_
        cases hE1
        exact metH () ⟨rfl, trivial⟩ aOm
      · refine W_seq ?_
        refine W_region ?_
        refine WO_eqlS ?_
        refine WO_assign ?_
        refine WO_nil ?_
        refine W_ite hE1 (fun hq hE1 => ?_) (fun hq hE1 => ?_)
        · refine W_region ?_
          refine WO_move ?_
          refine WO_move ?_
          refine WO_add ?_
          refine WO_assign ?_
          refine WO_nil ?_
          cases hE1
          exact metH () ⟨rfl, trivial⟩ aOm
        · refine W_seq ?_
          refine W_region ?_
          refine WO_eqlS ?_
          refine WO_assign ?_
          refine WO_nil ?_
          refine W_ite hE1 (fun hq hE1 => ?_) (fun hq hE1 => ?_)
          · refine W_region ?_
            refine WO_move ?_
            refine WO_move ?_
            refine WO_sub ?_
            refine WO_assign ?_
            refine WO_nil ?_
            cases hE1
            exact metH () ⟨rfl, trivial⟩ aOm
          · refine W_seq ?_
            refine W_region ?_
            refine WO_eqlS ?_
            refine WO_assign ?_
            refine WO_nil ?_
            refine W_ite hE1 (fun hq hE1 => ?_) (fun hq hE1 => ?_)
            · refine W_region ?_
              refine WO_move ?_
              refine WO_move ?_
              refine WO_mul ?_
              refine WO_assign ?_
              refine WO_nil ?_
              cases hE1
              exact metH () ⟨rfl, trivial⟩ aOm
            · refine W_seq ?_
              refine W_region ?_
              refine WO_eqlS ?_
              refine WO_assign ?_
              refine WO_nil ?_
              refine W_ite hE1 (fun hq hE1 => ?_) (fun hq hE1 => ?_)
              · refine W_region ?_
                refine WO_move ?_
                refine WO_move ?_
                refine WO_and ?_
                refine WO_assign ?_
                refine WO_nil ?_
                cases hE1
                exact metH () ⟨rfl, trivial⟩ aOm
              · refine W_seq ?_
                refine W_region ?_
                refine WO_eqlS ?_
                refine WO_assign ?_
                refine WO_nil ?_
                refine W_ite hE1 (fun hq hE1 => ?_) (fun hq hE1 => ?_)
                · refine W_region ?_
                  refine WO_move ?_
                  refine WO_move ?_
                  refine WO_or ?_
                  refine WO_assign ?_
                  refine WO_nil ?_
                  cases hE1
                  exact metH () ⟨rfl, trivial⟩ aOm
                · refine W_seq ?_
                  refine W_region ?_
                  refine WO_eqlS ?_
                  refine WO_assign ?_
                  refine WO_nil ?_
                  refine W_ite hE1 (fun hq hE1 => ?_) (fun hq hE1 => ?_)
                  · refine W_region ?_
                    refine WO_move ?_
                    refine WO_move ?_
                    refine WO_xor ?_
                    refine WO_assign ?_
                    refine WO_nil ?_
                    cases hE1
                    exact metH () ⟨rfl, trivial⟩ aOm
                  · refine W_seq ?_
                    refine W_region ?_
                    refine WO_eqlS ?_
                    refine WO_assign ?_
                    refine WO_nil ?_
                    refine W_ite hE1 (fun hq hE1 => ?_) (fun hq hE1 => ?_)
                    · refine W_seq ?_
                      refine W_region ?_
                      refine WO_move ?_
                      refine WO_lss ?_
                      refine WO_nil ?_
                      refine W_ite hE1 (fun hq hE1 => ?_) (fun hq hE1 => ?_)
                      · refine W_region ?_
                        refine WO_move ?_
                        refine WO_move ?_
                        obtain ⟨x4, g3, hE1⟩ := ob hE1
                        refine D_shl g3 ?_
                        refine WO_assign ?_
                        refine WO_nil ?_
                        cases hE1
                        exact metH () ⟨rfl, trivial⟩ aOm
                      · refine W_skip ?_
                        cases hE1
                        exact metH () ⟨rfl, trivial⟩ aOm
                    · refine W_seq ?_
                      refine W_region ?_
                      refine WO_eqlS ?_
                      refine WO_assign ?_
                      refine WO_nil ?_
                      refine W_ite hE1 (fun hq hE1 => ?_) (fun hq hE1 => ?_)
                      · refine W_seq ?_
                        refine W_region ?_
                        refine WO_move ?_
                        refine WO_lss ?_
                        refine WO_nil ?_
                        refine W_ite hE1 (fun hq hE1 => ?_) (fun hq hE1 => ?_)
                        · refine W_region ?_
                          refine WO_move ?_
                          refine WO_move ?_
                          obtain ⟨x5, g4, hE1⟩ := ob hE1
                          refine D_shr g4 ?_
                          refine WO_assign ?_
                          refine WO_nil ?_
                          cases hE1
                          exact metH () ⟨rfl, trivial⟩ aOm
                        · refine W_skip ?_
                          cases hE1
                          exact metH () ⟨rfl, trivial⟩ aOm
                      · refine W_seq ?_
                        refine W_region ?_
                        refine WO_eqlS ?_
                        refine WO_assign ?_
                        refine WO_nil ?_
                        refine W_ite hE1 (fun hq hE1 => ?_) (fun hq hE1 => ?_)
                        · refine W_region ?_
                          refine WO_move ?_
                          refine WO_move ?_
                          refine WO_lss ?_
                          refine WO_callN (run_impl_bit (a0 := (decide (a1 < a2)))) ?_
                          refine WO_assign ?_
                          refine WO_nil ?_
                          cases hE1
                          exact metH () ⟨rfl, trivial⟩ aOm
                        · refine W_seq ?_
                          refine W_region ?_
                          refine WO_eqlS ?_
                          refine WO_assign ?_
                          refine WO_nil ?_
                          refine W_ite hE1 (fun hq hE1 => ?_) (fun hq hE1 => ?_)
                          · refine W_region ?_
                            refine WO_move ?_
                            refine WO_move ?_
                            refine WO_eql ?_
                            refine WO_callN (run_impl_bit (a0 := (a1 == a2))) ?_
                            refine WO_assign ?_
                            refine WO_nil ?_
                            cases hE1
                            exact metH () ⟨rfl, trivial⟩ aOm
                          · refine W_skip ?_
                            cases hE1
                            exact metH () ⟨rfl, trivial⟩ aOm
  · intro bb1 e1 nx1 hn1
    refine W_seq ?_
    refine W_region ?_
    refine WO_move ?_
    refine WO_and ?_
    refine WO_assign ?_
    refine WO_nil ?_
    cases hm
    exact W_ret (finD1 [] (retTmp (t := 6) retNil) (.same _) (Kp.fin aKp))

noncomputable def m__impl_Instr_word (a0 : GInstr) (a1 : Int) (a2 : Int) : Option Int :=
  if (decide (a0.Op = (⟨#[115, 101, 116]⟩ : ByteArray))) then
    some a0.Imm
  else
    if (decide (a0.Op = (⟨#[109, 111, 118]⟩ : ByteArray))) then
      some a1
    else
      if (decide (a0.Op = (⟨#[108, 101, 97]⟩ : ByteArray))) then
        (m_impl_apply (⟨#[115, 104, 108]⟩ : ByteArray) a2 a0.Imm).bind fun x1 =>
        (m_impl_apply (⟨#[97, 100, 100]⟩ : ByteArray) a1 x1).bind fun x2 =>
        some x2
      else
        bd (if (decide (a0.Op = (⟨#[97, 100, 100, 105]⟩ : ByteArray))) then
            (decide (a0.Op = (⟨#[97, 100, 100, 105]⟩ : ByteArray)))
          else
            if (decide (a0.Op = (⟨#[97, 110, 100, 105]⟩ : ByteArray))) then
              (decide (a0.Op = (⟨#[97, 110, 100, 105]⟩ : ByteArray)))
            else
              if (decide (a0.Op = (⟨#[120, 111, 114, 105]⟩ : ByteArray))) then
                (decide (a0.Op = (⟨#[120, 111, 114, 105]⟩ : ByteArray)))
              else
                if (decide (a0.Op = (⟨#[115, 104, 108, 105]⟩ : ByteArray))) then
                  (decide (a0.Op = (⟨#[115, 104, 108, 105]⟩ : ByteArray)))
                else
                  (decide (a0.Op = (⟨#[115, 104, 114, 105]⟩ : ByteArray)))) fun X1 =>
        if X1 then
          (subS a0.Op 0 3).bind fun x4 =>
          (m_impl_apply x4 a1 a0.Imm).bind fun x5 =>
          some x5
        else
          (m_impl_apply a0.Op a1 a2).bind fun x6 =>
          some x6

theorem run__impl_Instr_word {a0 : GInstr} {a1 : Int} {a2 : Int} {R : Int} (hm : m__impl_Instr_word a0 a1 a2 = some R) : Gives PG F__impl_Instr_word [eGInstr a0, I a1, I a2] (I R) := by
  intro p h
  unfold m__impl_Instr_word at hm
  refine fn_dec fn__impl_Instr_word ?_
  refine W_seq ?_
  refine W_region ?_
  refine WO_box sz_impl_Instr ?_
  refine WO_assign ?_
  refine WO_nil ?_
  refine W_seq ?_
  refine W_seq ?_
  refine W_region ?_
  refine WO_fieldP fa_impl_Instr_0 ?_
  refine WO_load1 sz_string ag_string ?_
  refine WO_nil ?_
  refine W_block ?_
  refine W_seq ?_
  refine W_region ?_
  refine WO_eqlS ?_
  refine WO_assign ?_
  refine WO_nil ?_
  refine W_ite hm (fun hq hm => ?_) (fun hq hm => ?_)
  · refine W_seq ?_
    refine W_region ?_
    refine WO_fieldP fa_impl_Instr_4 ?_
    refine WO_load1 sz_int ag_int ?_
    refine WO_assign ?_
    refine WO_nil ?_
    cases hm
    exact W_ret (finD1 [] (retTmp (t := 6) retNil) (.same _) (Kp.fin aKp))
  · refine W_seq ?_
    refine W_region ?_
    refine WO_eqlS ?_
    refine WO_assign ?_
    refine WO_nil ?_
    refine W_ite hm (fun hq hm => ?_) (fun hq hm => ?_)
    · refine W_seq ?_
      refine W_region ?_
      refine WO_move ?_
      refine WO_assign ?_
      refine WO_nil ?_
      cases hm
      exact W_ret (finD1 [] (retTmp (t := 6) retNil) (.same _) (Kp.fin aKp))
    · refine W_seq ?_
      refine W_region ?_
      refine WO_eqlS ?_
      refine WO_assign ?_
      refine WO_nil ?_
      refine W_ite hm (fun hq hm => ?_) (fun hq hm => ?_)
      · refine W_seq ?_
        refine W_region ?_
        refine WO_move ?_
        refine WO_move ?_
        refine WO_fieldP fa_impl_Instr_4 ?_
        refine WO_load1 sz_int ag_int ?_
        obtain ⟨x1, g1, hm⟩ := ob hm
        refine WO_callN (run_impl_apply g1) ?_
        obtain ⟨x2, g2, hm⟩ := ob hm
        refine WO_callN (run_impl_apply g2) ?_
        refine WO_assign ?_
        refine WO_nil ?_
        cases hm
        exact W_ret (finD1 [] (retTmp (t := 6) retNil) (.same _) (Kp.fin aKp))
      · refine W_seq ?_
        refine W_seq ?_
        refine W_region ?_
        refine WO_eqlS ?_
        refine WO_assign ?_
        refine WO_nil ?_
        obtain ⟨X1, hE1, hm⟩ := obd hm
        refine W_joinH (γ := Unit) [24, 26, 27, 28, 29] (fun b => [(24, B X1)]) ?_ ?_
        · refine W_ite hE1 (fun hq hE1 => ?_) (fun hq hE1 => ?_)
          · refine W_skip ?_
            cases hE1
            exact metH () ⟨rfl, trivial⟩ aOm
          · refine W_seq ?_
            refine W_region ?_
            refine WO_eqlS ?_
            refine WO_assign ?_
            refine WO_nil ?_
            refine W_ite hE1 (fun hq hE1 => ?_) (fun hq hE1 => ?_)
            · refine W_skip ?_
              cases hE1
              exact metH () ⟨rfl, trivial⟩ aOm
            · refine W_seq ?_
              refine W_region ?_
              refine WO_eqlS ?_
              refine WO_assign ?_
              refine WO_nil ?_
              refine W_ite hE1 (fun hq hE1 => ?_) (fun hq hE1 => ?_)
              · refine W_skip ?_
                cases hE1
                exact metH () ⟨rfl, trivial⟩ aOm
              · refine W_seq ?_
                refine W_region ?_
                refine WO_eqlS ?_
                refine WO_assign ?_
                refine WO_nil ?_
                refine W_ite hE1 (fun hq hE1 => ?_) (fun hq hE1 => ?_)
                · refine W_skip ?_
                  cases hE1
                  exact metH () ⟨rfl, trivial⟩ aOm
                · refine W_region ?_
                  refine WO_eqlS ?_
                  refine WO_assign ?_
                  refine WO_nil ?_
                  cases hE1
                  exact metH () ⟨rfl, trivial⟩ aOm
        · intro bb1 e1 nx1 hn1
          refine W_ite hm (fun hq hm => ?_) (fun hq hm => ?_)
          · refine W_seq ?_
            refine W_regionD [1, 1, 0, 0, 1, 1, 0, 0] mixed (by kernel_rfl) ?_
            refine WO_fieldP fa_impl_Instr_0 ?_
            refine WO_load1 sz_string ag_string ?_
            obtain ⟨x4, g3, hm⟩ := ob hm
            refine D_sliceS st_string g3 ?_
            refine WO_move ?_
            refine WO_fieldP fa_impl_Instr_4 ?_
            refine WO_load1 sz_int ag_int ?_
            obtain ⟨x5, g4, hm⟩ := ob hm
            refine WO_callN (run_impl_apply g4) ?_
            refine WO_assign ?_
            refine WO_nil ⟨rfl, ?_⟩
            cases hm
            exact W_ret (finD1 [] (retTmp (t := 6) retNil) (.same _) (Kp.fin aKp))
          · refine W_skip ?_
            refine W_seq ?_
            refine W_region ?_
            refine WO_fieldP fa_impl_Instr_0 ?_
            refine WO_load1 sz_string ag_string ?_
            refine WO_move ?_
            refine WO_move ?_
            obtain ⟨x6, g5, hm⟩ := ob hm
            refine WO_callN (run_impl_apply g5) ?_
            refine WO_assign ?_
            refine WO_nil ?_
            cases hm
            exact W_ret (finD1 [] (retTmp (t := 6) retNil) (.same _) (Kp.fin aKp))

noncomputable def m_impl_wordAt (a0 : GInstr) (a1 : List (List Int)) (a2 : Int) : Option Int :=
  (getI a1 a0.A).bind fun x1 =>
  (getI x1 a2).bind fun x2 =>
  (getI a1 a0.B).bind fun x3 =>
  (getI x3 a2).bind fun x4 =>
  (m__impl_Instr_word a0 (w64 x2) (w64 x4)).bind fun x5 =>
  some (IntKind.u8.wrap x5)

theorem run_impl_wordAt {a0 : GInstr} {a1 : List (List Int)} {b1 : Bool} {a2 : Int} {R : Int} (hm : m_impl_wordAt a0 a1 a2 = some R) : Gives PG F_impl_wordAt [eGInstr a0, PV.sl b1 (a1.map (eL U)), I a2] (U R) := by
  intro p h
  unfold m_impl_wordAt at hm
  refine fn_dec fn_impl_wordAt ?_
  refine W_seq ?_
  refine W_region ?_
  refine WO_box sz_impl_Instr ?_
  refine WO_assign ?_
  refine WO_nil ?_
  refine W_seq ?_
  refine W_regionD [1, 0, 1, 1, 0, 0, 0, 0, 0, 0, 0, 1, 1, 0, 0, 0, 0, 0, 0, 0, 0, 0] mixed (by kernel_rfl) ?_
  refine WO_loadS sz_impl_Instr ag_impl_Instr ?_
  refine WO_move ?_
  refine WO_fieldP fa_impl_Instr_2 ?_
  refine WO_load1 sz_int ag_int ?_
  obtain ⟨x1, g1, hm⟩ := ob hm
  refine D_index el_S_impl_column sz_impl_column g1 ?_
  refine WO_loadI1 sz_impl_column ag_impl_column ?_
  refine WO_move ?_
  obtain ⟨x2, g2, hm⟩ := ob hm
  refine D_index el_impl_column sz_uint8 g2 ?_
  refine WO_loadI1 sz_uint8 ag_uint8 ?_
  refine WO_convI un_uint8 it_int ?_
  refine WO_move ?_
  refine WO_fieldP fa_impl_Instr_3 ?_
  refine WO_load1 sz_int ag_int ?_
  obtain ⟨x3, g3, hm⟩ := ob hm
  refine D_index el_S_impl_column sz_impl_column g3 ?_
  refine WO_loadI1 sz_impl_column ag_impl_column ?_
  refine WO_move ?_
  obtain ⟨x4, g4, hm⟩ := ob hm
  refine D_index el_impl_column sz_uint8 g4 ?_
  refine WO_loadI1 sz_uint8 ag_uint8 ?_
  refine WO_convI un_uint8 it_int ?_
  obtain ⟨x5, g5, hm⟩ := ob hm
  refine WO_callN (run__impl_Instr_word g5) ?_
  refine WO_convI un_int it_uint8 ?_
  refine WO_assign ?_
  refine WO_nil ⟨rfl, ?_⟩
  cases hm
  exact W_ret (finD1 [] (retTmp (t := 6) retNil) (.same _) (Kp.fin aKp))

noncomputable def m_impl_isColumn_l0 (a0 : GInstr) (a1 : List (List Int)) : List Int → Int → Option Bool
  | [], i1 =>
    some true
  | x5 :: zs, i1 =>
    (m_impl_wordAt a0 a1 (i1 : Int)).bind fun x6 =>
    if (x6 != x5) then
      some false
    else
      m_impl_isColumn_l0 a0 a1 zs (i1 + 1)

noncomputable def m_impl_isColumn (a0 : GInstr) (a1 : List (List Int)) (a2 : List Int) : Option Bool :=
  m_impl_isColumn_l0 a0 a1 a2 0

theorem run_impl_isColumn {a0 : GInstr} {a1 : List (List Int)} {b1 : Bool} {a2 : List Int} {b2 : Bool} {R : Bool} (hm : m_impl_isColumn a0 a1 a2 = some R) : Gives PG F_impl_isColumn [eGInstr a0, PV.sl b1 (a1.map (eL U)), PV.sl b2 (a2.map U)] (B R) := by
  intro p h
  have hvac : ∀ k, ∃ s : St, k ≤ s.nx ∧ Fin PG Try.f167 23 p h (B R) .ret s := fun k => ⟨⟨fun i => if i = 6 then B R else default, k, h⟩, Nat.le_refl _, finD1 [] (retTmp (t := 6) retNil) (.same _) (fun _ => .inl rfl)⟩
  unfold m_impl_isColumn at hm
  refine fn_dec fn_impl_isColumn ?_
  refine W_seq ?_
  refine W_region ?_
  refine WO_box sz_impl_Instr ?_
  refine WO_assign ?_
  refine WO_nil ?_
  refine W_seq ?_
  refine W_seq ?_
  refine W_region ?_
  refine WO_move ?_
  refine D_len sl_impl_column (e := U) (xs := a2) ?_
  refine WO_move ?_
  refine WO_nil ?_
  refine W_bnd 2 hvac (fun hb1 => ?_)
  rw [List.length_map] at hb1
  refine W_block ?_
  refine W_loopM (α := Nat) [6, 7, 8, 11, 12, 13, 14, 15, 16, 17, 18, 19, 20, 21, 22] (fun a => [(11, I (a : Nat))]) (fun a nx' h' => 1 ≤ nx' ∧ Kp p [] h h' ∧ a ≤ a2.length ∧ (h' (p ++ [0]) = some ⟨0, 5, [eGInstr a0]⟩) ∧ m_impl_isColumn_l0 a0 a1 (a2.drop a) (a : Int) = some R) (fun a => a2.length - a) 0 ⟨rfl, trivial⟩ ⟨aOm, aKp, Nat.zero_le _, aLk, hm⟩ (fun i1 e1 nx3 h1 hI => ?_)
  obtain ⟨hn1, hk1, hi1, hr1, hm⟩ := hI
  refine W_seq ?_
  refine W_region ?_
  refine WO_lss ?_
  refine WO_nil ?_
  refine W_seq ?_
  refine W_cond (fun hq => ?_) (fun hq => ?_)
  · have hlt1 : (i1 : Int) < (a2.length : Int) := dec_lt hq
    obtain ⟨x5, hx1, hd1⟩ := lt_get (xs := a2) (i := i1) (by omega)
    rw [hd1, m_impl_isColumn_l0] at hm
    replace hx1 := getI_nat hx1
    refine W_skip ?_
    refine W_seq ?_
    refine W_block ?_
    refine W_seq ?_
    refine W_region ?_
    refine WO_move ?_
    refine D_index el_impl_column sz_uint8 hx1 ?_
    refine WO_loadI1 sz_uint8 ag_uint8 ?_
    refine WO_assign ?_
    refine WO_assign ?_
    refine WO_nil ?_
    refine W_seq ?_
    refine W_region ?_
    refine WO_loadS sz_impl_Instr ag_impl_Instr ?_
    refine WO_move ?_
    refine WO_move ?_
    obtain ⟨x6, g5, hm⟩ := ob hm
    refine WO_callN (run_impl_wordAt g5) ?_
    refine WO_move ?_
    refine WO_neq ?_
    refine WO_nil ?_
    refine W_ite hm (fun hq hm => ?_) (fun hq hm => ?_)
    · refine W_seq ?_
      refine W_region ?_
      refine WO_assign ?_
      refine WO_nil ?_
      cases hm
      exact W_ret (finD1 [] (retTmp (t := 6) retNil) (.same _) (Kp.fin aKp))
    · refine W_skip ?_
      refine W_region ?_
      refine WO_succ ?_
      refine WO_move ?_
      refine WO_nil ?_
      exact round (i1 + 1) ⟨rfl, trivial⟩ ⟨aOm, aKp, aOm, aLk, hm⟩ aOm
  · have hge1 : (a2.length : Int) ≤ (i1 : Int) := dec_ge hq
    rw [drop_len (by omega), m_impl_isColumn_l0] at hm
    refine W_exit ?_
    refine W_seq ?_
    refine W_region ?_
    refine WO_assign ?_
    refine WO_nil ?_
    cases hm
    exact W_ret (finD1 [] (retTmp (t := 6) retNil) (.same _) (Kp.fin aKp))

noncomputable def m_impl_isTurned (a0 : GInstr) : Bool :=
  bd (((m_slices_Contains_S_string_string ([(⟨#[97, 100, 100]⟩ : ByteArray), (⟨#[97, 110, 100]⟩ : ByteArray), (⟨#[111, 114]⟩ : ByteArray), (⟨#[120, 111, 114]⟩ : ByteArray), (⟨#[109, 117, 108]⟩ : ByteArray), (⟨#[101, 113]⟩ : ByteArray)] : List ByteArray) a0.Op) && (decide (a0.A > a0.B)))) fun X1 =>
  X1

theorem run_impl_isTurned {a0 : GInstr} : Gives PG F_impl_isTurned [eGInstr a0] (B (m_impl_isTurned a0)) := by
  intro p h
  generalize hm : m_impl_isTurned a0 = R
  unfold m_impl_isTurned at hm
  refine fn_dec fn_impl_isTurned ?_
  refine W_seq ?_
  refine W_region ?_
  refine WO_box sz_impl_Instr ?_
  refine WO_assign ?_
  refine WO_nil ?_
  refine W_seq ?_
  obtain ⟨X1, hE1, hm⟩ := obd hm
  refine W_joinH (γ := Unit) [2, 3, 4, 5, 6, 7, 8, 9, 10, 11, 12, 13] (fun b => [(2, B X1)]) ?_ ?_
  · refine W_region ?_
    refine WO_buildSlice el_S_string sz_string zo_string ?_
    refine WO_fieldP fa_impl_Instr_0 ?_
    refine WO_load1 sz_string ag_string ?_
    refine WO_callN (run_slices_Contains_S_string_string (a0 := ([(⟨#[97, 100, 100]⟩ : ByteArray), (⟨#[97, 110, 100]⟩ : ByteArray), (⟨#[111, 114]⟩ : ByteArray), (⟨#[120, 111, 114]⟩ : ByteArray), (⟨#[109, 117, 108]⟩ : ByteArray), (⟨#[101, 113]⟩ : ByteArray)] : List ByteArray)) (a1 := a0.Op)) ?_
    refine WO_move ?_
    refine WO_iand 7 hE1 (fun hq hE1 => ?_) (fun hq hE1 => ?_)
    · refine WO_fieldP fa_impl_Instr_2 ?_
      refine WO_load1 sz_int ag_int ?_
      refine WO_fieldP fa_impl_Instr_3 ?_
      refine WO_load1 sz_int ag_int ?_
      refine WO_gtr ?_
      refine WO_pick ?_
      refine WO_assign ?_
      refine WO_nil ?_
      cases hE1
      exact metH () ⟨rfl, trivial⟩ aOm
    · refine WO_skip ?_
      refine WO_skip ?_
      refine WO_skip ?_
      refine WO_skip ?_
      refine WO_skip ?_
      refine WO_pick ?_
      refine WO_assign ?_
      refine WO_nil ?_
      cases hE1
      exact metH () ⟨rfl, trivial⟩ aOm
  · intro bb1 e1 nx1 hn1
    cases hm
    exact W_ret (finD1 [] (retTmp (t := 2) retNil) (.same _) (Kp.fin aKp))

end Go.Proofs.Ytpfdeoapnpcbaaa
