/-
  What is proved here: what functions of the program give, as functions over lists and numbers.
  Conditions: none.
-/
import Derived.Test.YtpfdeoapnpcbaaaVM2
set_option linter.unusedSectionVars false
namespace Go.Proofs.Ytpfdeoapnpcbaaa
open Go.Vs
set_option linter.unusedVariables false
set_option linter.unusedSimpArgs false
set_option maxHeartbeats 4000000
set_option maxRecDepth 4000
attribute [local irreducible] upd del

noncomputable def m_spec_suPruned_l1 (a0 : List GInstr) (i3 : Int) : List Int → Option (Unit ⊕ Bool)
  | [] =>
    some (.inl ())
  | i4 :: zs =>
    ((if (i4 != 1) then (subI a0 0 (w64 ((i3 : Int) + 1))).bind fun c35 =>
      (m_spec_suAlike c35 (w64 (2 + (i3 : Int))) i4).bind fun x50 =>
      some x50 else (if (decide ((w64 ((i3 : Int) + 1)) < (a0.length : Int))) then (subI a0 0 (w64 ((i3 : Int) + 1))).bind fun c36 =>
      (m_spec_suAlike c36 (w64 (2 + (i3 : Int))) i4).bind fun x51 =>
      some x51 else some false))).bind fun X15 =>
    if X15 then
      some (.inr true)
    else
      m_spec_suPruned_l1 a0 i3 zs

noncomputable def m_spec_suPruned_l0 (a0 : List GInstr) : List GInstr → Int → Option Bool
  | [], i3 =>
    some false
  | x35 :: zs, i3 =>
    bd (((decide (x35.A > x35.B)) && (m_spec_l1HasS ([(⟨#[97, 100, 100]⟩ : ByteArray), (⟨#[97, 110, 100]⟩ : ByteArray), (⟨#[111, 114]⟩ : ByteArray), (⟨#[120, 111, 114]⟩ : ByteArray), (⟨#[109, 117, 108]⟩ : ByteArray), (⟨#[101, 113]⟩ : ByteArray)] : List ByteArray) x35.Op))) fun X11 =>
    if X11 then
      some true
    else
      ((chk (w64 (2 + (i3 : Int)))).bind fun _ => m_spec_suPruned_l1 a0 i3 (rng 0 (w64 (2 + (i3 : Int))))).bind fun X14 =>
      match X14 with
        | .inl X14 =>
        m_spec_suPruned_l0 a0 zs (i3 + 1)
        | .inr r => some r

noncomputable def m_spec_suPruned (a0 : List GInstr) : Option Bool :=
  m_spec_suPruned_l0 a0 a0 0

theorem run_spec_suPruned {a0 : List GInstr} {b0 : Bool} {R : Bool} (hm : m_spec_suPruned a0 = some R) : Gives PG F_spec_suPruned [PV.sl b0 (a0.map eGInstr)] (B R) := by
  intro p h
  have hvac : ∀ k, ∃ s : St, k ≤ s.nx ∧ Fin PG Try.f77 50 p h (B R) .ret s := fun k => ⟨⟨fun i => if i = 2 then B R else default, k, h⟩, Nat.le_refl _, finD1 [] (retTmp (t := 2) retNil) (.same _) (fun _ => .inl rfl)⟩
  unfold m_spec_suPruned at hm
  refine fn_dec fn_spec_suPruned ?_
  refine W_seq ?_
  refine W_region ?_
  refine WO_assign ?_
  refine WO_nil ?_
  refine W_seq ?_
  refine W_seq ?_
  refine W_region ?_
  refine WO_move ?_
  refine D_len sl_S_impl_Instr (e := eGInstr) (xs := a0) ?_
  refine WO_move ?_
  refine WO_nil ?_
  refine W_bnd 6 hvac (fun hb1 => ?_)
  rw [List.length_map] at hb1
  refine W_block ?_
  refine W_loopM (α := Nat) (List.range' 2 4 ++ List.range' 8 42) (fun a => [(8, I (a : Nat))]) (fun a nx' h' => 0 ≤ nx' ∧ Kp p [] h h' ∧ a ≤ a0.length ∧ m_spec_suPruned_l0 a0 (a0.drop a) (a : Int) = some R) (fun a => a0.length - a) 0 ⟨rfl, trivial⟩ ⟨aOm, aKp, Nat.zero_le _, hm⟩ (fun i3 e11 nx17 h3 hI => ?_)
  obtain ⟨hn11, hk3, hi3, hm⟩ := hI
  refine W_seq ?_
  refine W_region ?_
  refine WO_lss ?_
  refine WO_nil ?_
  refine W_seq ?_
  refine W_cond (fun hq => ?_) (fun hq => ?_)
  · have hlt3 : (i3 : Int) < (a0.length : Int) := dec_lt hq
    obtain ⟨x35, hx1, hd1⟩ := lt_get (xs := a0) (i := i3) (by omega)
    rw [hd1, m_spec_suPruned_l0] at hm
    replace hx1 := getI_nat hx1
    refine W_skip ?_
    refine W_seq ?_
    refine W_block ?_
    refine W_seq ?_
    refine W_region ?_
    refine WO_move ?_
    refine D_index el_S_impl_Instr sz_impl_Instr hx1 ?_
    refine WO_loadI sz_impl_Instr ag_impl_Instr ?_
    refine WO_alloc sz_impl_Instr zo_impl_Instr ?_
    refine WO_assign ?_
    refine WO_store sz_impl_Instr ?_
    refine WO_nil ?_
    refine W_seq ?_
    refine W_seq ?_
    obtain ⟨X11, hE11, hm⟩ := obd hm
    refine W_joinH (γ := Unit) [13, 14, 15, 16, 17, 18, 19, 20, 21, 22, 23] (fun b => [(23, B X11)]) ?_ ?_
    · refine W_region ?_
      refine WO_fieldP fa_impl_Instr_2 ?_
      refine WO_load1 sz_int ag_int ?_
      refine WO_fieldP fa_impl_Instr_3 ?_
      refine WO_load1 sz_int ag_int ?_
      refine WO_gtr ?_
      refine WO_move ?_
      refine WO_iand 18 hE11 (fun hq hE11 => ?_) (fun hq hE11 => ?_)
      · refine WO_buildSlice el_S_string sz_string zo_string ?_
        refine WO_fieldP fa_impl_Instr_0 ?_
        refine WO_load1 sz_string ag_string ?_
        refine WO_callN (run_spec_l1HasS (a0 := ([(⟨#[97, 100, 100]⟩ : ByteArray), (⟨#[97, 110, 100]⟩ : ByteArray), (⟨#[111, 114]⟩ : ByteArray), (⟨#[120, 111, 114]⟩ : ByteArray), (⟨#[109, 117, 108]⟩ : ByteArray), (⟨#[101, 113]⟩ : ByteArray)] : List ByteArray)) (a1 := x35.Op)) ?_
        refine WO_pick ?_
        refine WO_nil ?_
        cases hE11
        exact metH () ⟨rfl, trivial⟩ aOm
      · refine WO_skip ?_
        refine WO_skip ?_
        refine WO_skip ?_
        refine WO_skip ?_
        refine WO_pick ?_
        refine WO_nil ?_
        cases hE11
        exact metH () ⟨rfl, trivial⟩ aOm
    · intro bb9 e12 nx18 hn12
      refine W_ite hm (fun hq hm => ?_) (fun hq hm => ?_)
      · refine W_seq ?_
        refine W_region ?_
        refine WO_assign ?_
        refine WO_nil ?_
        cases hm
        exact W_ret (finD1 [] (retTmp (t := 2) retNil) (.same _) (Kp.fin aKp))
      · refine W_skip ?_
        refine W_seq ?_
        refine W_region ?_
        refine WO_assign ?_
        refine WO_nil ?_
        obtain ⟨X14, hE14, hm⟩ := ob hm
        obtain ⟨_, g69, hE14⟩ := ob hE14
        have g69 := chk_le g69
        refine W_block ?_
        refine W_loopM (α := Int) ([2] ++ [5] ++ List.range' 24 25) (fun a => [(5, I a)]) (fun a nx' h' => nx18 ≤ nx' ∧ Kp p [] h h' ∧ 0 ≤ a ∧ m_spec_suPruned_l1 a0 i3 (rng a (w64 (2 + (i3 : Int)))) = some X14) (fun a => ((w64 (2 + (i3 : Int))) - a).toNat) 0 ⟨rfl, trivial⟩ ⟨aOm, aKp, Int.le_refl _, hE14⟩ (fun i4 e15 nx23 h4 hI => ?_)
        obtain ⟨hn15, hk4, hi4, hE14⟩ := hI
        refine W_seq ?_
        refine W_seq ?_
        refine W_region ?_
        refine WO_move ?_
        refine WO_move ?_
        refine WO_add ?_
        refine WO_lss ?_
        refine WO_nil ?_
        refine W_cond (fun hq => ?_) (fun hq => ?_)
        · have hlt4 : i4 < (w64 (2 + (i3 : Int))) := dec_lt hq
          rw [rng_cons (by omega), m_spec_suPruned_l1] at hE14
          refine W_skip ?_
          refine W_seq ?_
          refine W_block ?_
          refine W_seq ?_
          obtain ⟨X15, hE15, hE14⟩ := ob hE14
          refine W_joinH (γ := Unit) [30, 31, 32, 33, 34, 35, 36, 37, 38, 39, 40, 41, 42, 43, 44, 45, 46, 47, 48] (fun b => [(48, B X15)]) ?_ ?_
          · refine W_region ?_
            refine WO_move ?_
            refine WO_neq ?_
            refine WO_move ?_
            refine WO_ite 32 hE15 (fun hq hE15 => ?_) (fun hq hE15 => ?_)
            · refine WO_skip ?_
              refine WO_skip ?_
              refine WO_skip ?_
              refine WO_skip ?_
              refine WO_skip ?_
              refine WO_pick ?_
              refine WO_move ?_
              refine WO_move ?_
              refine WO_move ?_
              refine WO_add ?_
              obtain ⟨c35, g74, hE15⟩ := ob hE15
              refine D_slice os_S_impl_Instr g74 (e := eGInstr) (fun b35 => ?_)
              refine WO_move ?_
              refine WO_add ?_
              refine WO_move ?_
              obtain ⟨x50, g75, hE15⟩ := ob hE15
              refine WO_callN (run_spec_suAlike g75) ?_
              refine WO_pick ?_
              refine WO_nil ?_
              cases hE15
              exact metH () ⟨rfl, trivial⟩ aOm
            · refine WO_move ?_
              refine WO_add ?_
              refine WO_move ?_
              refine D_len sl_S_impl_Instr (e := eGInstr) (xs := a0) ?_
              refine WO_lss ?_
              refine WO_pick ?_
              refine WO_move ?_
              refine WO_ite 39 hE15 (fun hq hE15 => ?_) (fun hq hE15 => ?_)
              · refine WO_move ?_
                refine WO_move ?_
                refine WO_add ?_
                obtain ⟨c36, g76, hE15⟩ := ob hE15
                refine D_slice os_S_impl_Instr g76 (e := eGInstr) (fun b36 => ?_)
                refine WO_move ?_
                refine WO_add ?_
                refine WO_move ?_
                obtain ⟨x51, g77, hE15⟩ := ob hE15
                refine WO_callN (run_spec_suAlike g77) ?_
                refine WO_pick ?_
                refine WO_nil ?_
                cases hE15
                exact metH () ⟨rfl, trivial⟩ aOm
              · refine WO_skip ?_
                refine WO_skip ?_
                refine WO_skip ?_
                refine WO_skip ?_
                refine WO_skip ?_
                refine WO_skip ?_
                refine WO_skip ?_
                refine WO_skip ?_
                refine WO_pick ?_
                refine WO_nil ?_
                cases hE15
                exact metH () ⟨rfl, trivial⟩ aOm
          · intro bb12 e16 nx24 hn16
            refine W_ite hE14 (fun hq hE14 => ?_) (fun hq hE14 => ?_)
            · refine W_seq ?_
              refine W_region ?_
              refine WO_assign ?_
              refine WO_nil ?_
              cases hE14
              dsimp only at hm
              cases hm
              exact W_ret (finD1 [] (retTmp (t := 2) retNil) (.same _) (Kp.fin aKp))
            · refine W_skip ?_
              refine W_region ?_
              refine WO_move ?_
              refine WO_addI ?_
              refine WO_assign ?_
              refine WO_nil ?_
              exact round (i4 + 1) ⟨rfl, trivial⟩ ⟨aOm, aKp, aOm, hE14⟩ aOm
        · have hge3 : (w64 (2 + (i3 : Int))) ≤ (i4 : Int) := dec_ge hq
          rw [rng_nil (by omega), m_spec_suPruned_l1] at hE14
          refine W_exit ?_
          cases hE14
          try dsimp only at hm
          refine W_region ?_
          refine WO_succ ?_
          refine WO_move ?_
          refine WO_nil ?_
          exact round (i3 + 1) ⟨rfl, trivial⟩ ⟨aOm, aKp, aOm, hm⟩ aOm
  · have hge4 : (a0.length : Int) ≤ (i3 : Int) := dec_ge hq
    rw [drop_len (by omega), m_spec_suPruned_l0] at hm
    refine W_exit ?_
    refine W_seq ?_
    refine W_region ?_
    refine WO_assign ?_
    refine WO_nil ?_
    cases hm
    exact W_ret (finD1 [] (retTmp (t := 2) retNil) (.same _) (Kp.fin aKp))

noncomputable def m_spec_CountUnpruned_l0_k (a0 : GChoice) (a1 : Int) : Nat → Int → Int → Option Int
  | 0, _, _ => none
  | k1 + 1, s4, s5 =>
    (m_spec_suCount a0 a1).bind fun x13 =>
    if (decide (s5 < x13)) then
      (m_spec_suWith a0 a1 s5).bind fun x14 =>
      (m_spec_suPruned x14).bind fun x15 =>
      bd (if (!x15) then
          (w64 (s4 + 1))
        else
          s4) fun X5 =>
      m_spec_CountUnpruned_l0_k a0 a1 k1 X5 (w64 (s5 + 1))
    else
      some s4

noncomputable def m_spec_CountUnpruned (a0 : GChoice) (a1 : Int) : Option (Int × Bool) :=
  ((m_spec_suGood a0).bind fun x3 =>
    (if (!x3) then some true else some (!(m_spec_l1In a1 0 3)))).bind fun X1 =>
  if X1 then
    some (0, false)
  else
    (limO (fun k => m_spec_CountUnpruned_l0_k a0 a1 k 0 0)).bind fun X4 =>
    some (X4, true)

theorem run_spec_CountUnpruned {a0 : GChoice} {a1 : Int} {R : Int × Bool} (hm : m_spec_CountUnpruned a0 a1 = some R) : Gives PG F_spec_CountUnpruned [eGChoice a0, I a1] (.tup [I R.1, B R.2]) := by
  intro p h
  unfold m_spec_CountUnpruned at hm
  refine fn_dec fn_spec_CountUnpruned ?_
  refine W_seq ?_
  refine W_region ?_
  refine WO_box sz_impl_Choice ?_
  refine WO_assign ?_
  refine WO_assign ?_
  refine WO_nil ?_
  refine W_seq ?_
  refine W_seq ?_
  obtain ⟨X1, hE1, hm⟩ := ob hm
  refine W_joinH (γ := Unit) [8, 9, 10, 11, 12, 13, 14, 15] (fun b => [(15, B X1)]) ?_ ?_
  · refine W_region ?_
    refine WO_loadS sz_impl_Choice ag_impl_Choice ?_
    obtain ⟨x3, g2, hE1⟩ := ob hE1
    refine WO_callN (run_spec_suGood g2) ?_
    refine WO_not ?_
    refine WO_move ?_
    refine WO_ite 11 hE1 (fun hq hE1 => ?_) (fun hq hE1 => ?_)
    · refine WO_skip ?_
      refine WO_skip ?_
      refine WO_skip ?_
      refine WO_pick ?_
      refine WO_nil ?_
      cases hE1
      exact metH () ⟨rfl, trivial⟩ aOm
    · refine WO_move ?_
      refine WO_callN (run_spec_l1In (a0 := a1) (a1 := 0) (a2 := 3)) ?_
      refine WO_not ?_
      refine WO_pick ?_
      refine WO_nil ?_
      cases hE1
      exact metH () ⟨rfl, trivial⟩ aOm
  · intro bb1 e1 nx1 hn1
    refine W_ite hm (fun hq hm => ?_) (fun hq hm => ?_)
    · refine W_seq ?_
      refine W_region ?_
      refine WO_assign ?_
      refine WO_assign ?_
      refine WO_nil ?_
      cases hm
      exact W_ret (finD [] (retTmp (t := 4) (retTmp (t := 5) retNil)) (.cons _ _ _ _ (.same _) (.cons _ _ _ _ (.same _) .nil)) (Kp.fin aKp))
    · refine W_skip ?_
      refine W_seq ?_
      refine W_region ?_
      refine WO_assign ?_
      refine WO_nil ?_
      refine W_seq ?_
      refine W_seq ?_
      refine W_region ?_
      refine WO_assign ?_
      refine WO_nil ?_
      obtain ⟨X4, hE4, hm⟩ := ob hm
      obtain ⟨k1, hE4⟩ := limO_some hE4
      refine W_block ?_
      refine W_loopM (α := Nat × Int × Int) [6, 7, 16, 17, 18, 19, 20, 21, 22, 23, 24, 25, 26, 27, 28, 29, 30] (fun a => [(6, I a.2.1), (7, I a.2.2)]) (fun a nx' h' => nx1 ≤ nx' ∧ Kp p [] h h' ∧ (h' (p ++ [0]) = some ⟨0, 2, [eGChoice a0]⟩) ∧ m_spec_CountUnpruned_l0_k a0 a1 a.1 a.2.1 a.2.2 = some X4) (fun a => a.1) (k1, 0, 0) ⟨rfl, rfl, trivial⟩ ⟨aOm, aKp, aLk, hE4⟩ (fun a e4 nx6 h1 hI => ?_)
      obtain ⟨k1, s4, s5⟩ := a
      obtain ⟨hn4, hk1, hr1, hE4⟩ := hI
      obtain _ | k1 := k1
      · cases hE4
      rw [m_spec_CountUnpruned_l0_k] at hE4
      refine W_seq ?_
      refine W_seq ?_
      refine W_region ?_
      refine WO_move ?_
      refine WO_loadS sz_impl_Choice ag_impl_Choice ?_
      refine WO_move ?_
      obtain ⟨x13, g10, hE4⟩ := ob hE4
      refine WO_callN (run_spec_suCount g10) ?_
      refine WO_lss ?_
      refine WO_nil ?_
      refine W_ite hE4 (fun hq hE4 => ?_) (fun hq hE4 => ?_)
      · refine W_skip ?_
        refine W_seq ?_
        refine W_block ?_
        refine W_seq ?_
        refine W_region ?_
        refine WO_loadS sz_impl_Choice ag_impl_Choice ?_
        refine WO_move ?_
        refine WO_move ?_
        obtain ⟨x14, g11, hE4⟩ := ob hE4
        refine WO_callN (run_spec_suWith g11) ?_
        obtain ⟨x15, g12, hE4⟩ := ob hE4
        refine WO_callN (run_spec_suPruned g12) ?_
        refine WO_not ?_
        refine WO_nil ?_
        obtain ⟨X5, hE5, hE4⟩ := obd hE4
        refine W_joinH (γ := Unit) [6, 29, 30] (fun b => [(6, I X5)]) ?_ ?_
        · refine W_ite hE5 (fun hq hE5 => ?_) (fun hq hE5 => ?_)
          · refine W_region ?_
            refine WO_move ?_
            refine WO_add ?_
            refine WO_assign ?_
            refine WO_nil ?_
            cases hE5
            exact metH () ⟨rfl, trivial⟩ aOm
          · refine W_skip ?_
            cases hE5
            exact metH () ⟨rfl, trivial⟩ aOm
        · intro bb4 e5 nx7 hn5
          refine W_region ?_
          refine WO_move ?_
          refine WO_add ?_
          refine WO_assign ?_
          refine WO_nil ?_
          exact round (k1, X5, (w64 (s5 + 1))) ⟨rfl, rfl, trivial⟩ ⟨aOm, aKp, aLk, hE4⟩ aOm
      · refine W_exit ?_
        cases hE4
        try dsimp only at hm
        refine W_seq ?_
        refine W_region ?_
        refine WO_move ?_
        refine WO_assign ?_
        refine WO_assign ?_
        refine WO_nil ?_
        cases hm
        exact W_ret (finD [] (retTmp (t := 4) (retTmp (t := 5) retNil)) (.cons _ _ _ _ (.same _) (.cons _ _ _ _ (.same _) .nil)) (Kp.fin aKp))

noncomputable def m_impl_within (a0 : Int) (a1 : Int) (a2 : Int) : Bool :=
  bd (((decide (a1 ≤ a0)) && (decide (a0 ≤ a2)))) fun X1 =>
  X1

theorem run_impl_within {a0 : Int} {a1 : Int} {a2 : Int} : Gives PG F_impl_within [I a0, I a1, I a2] (B (m_impl_within a0 a1 a2)) := by
  intro p h
  generalize hm : m_impl_within a0 a1 a2 = R
  unfold m_impl_within at hm
  refine fn_dec fn_impl_within ?_
  refine W_seq ?_
  refine W_region ?_
  refine WO_assign ?_
  refine WO_nil ?_
  refine W_seq ?_
  obtain ⟨X1, hE1, hm⟩ := obd hm
  refine W_joinH (γ := Unit) [6, 7, 8, 9, 10, 11, 12, 13, 14] (fun b => [(6, B X1)]) ?_ ?_
  · refine W_region ?_
    refine WO_move ?_
    refine WO_move ?_
    refine WO_leq ?_
    refine WO_move ?_
    refine WO_iand 10 hE1 (fun hq hE1 => ?_) (fun hq hE1 => ?_)
    · refine WO_move ?_
      refine WO_move ?_
      refine WO_leq ?_
      refine WO_pick ?_
      refine WO_assign ?_
      refine WO_nil ?_
      cases hE1
      exact metH () ⟨rfl, trivial⟩ aOm
    · refine WO_skip ?_
      refine WO_skip ?_
      refine WO_skip ?_
      refine WO_pick ?_
      refine WO_assign ?_
      refine WO_nil ?_
      cases hE1
      exact metH () ⟨rfl, trivial⟩ aOm
  · intro bb1 e1 nx1 hn1
    cases hm
    exact W_ret (finD1 [] (retTmp (t := 6) retNil) (.same _) (Kp.fin aKp))

noncomputable def m_slices_Index_S_string_string_l0 (a1 : ByteArray) : List ByteArray → Int → Int
  | [], i1 =>
    (-1)
  | x3 :: zs, i1 =>
    if (decide (a1 = x3)) then
      (i1 : Int)
    else
      m_slices_Index_S_string_string_l0 a1 zs (i1 + 1)

noncomputable def m_slices_Index_S_string_string (a0 : List ByteArray) (a1 : ByteArray) : Int :=
  m_slices_Index_S_string_string_l0 a1 a0 0

theorem run_slices_Index_S_string_string {a0 : List ByteArray} {b0 : Bool} {a1 : ByteArray} : Gives PG F_slices_Index_S_string_string [PV.sl b0 (a0.map S), S a1] (I (m_slices_Index_S_string_string a0 a1)) := by
  intro p h
  generalize hm : m_slices_Index_S_string_string a0 a1 = R
  have hvac : ∀ k, ∃ s : St, k ≤ s.nx ∧ Fin PG Try.f250 19 p h (I R) .ret s := fun k => ⟨⟨fun i => if i = 4 then I R else default, k, h⟩, Nat.le_refl _, finD1 [] (retTmp (t := 4) retNil) (.same _) (fun _ => .inl rfl)⟩
  unfold m_slices_Index_S_string_string at hm
  refine fn_dec fn_slices_Index_S_string_string ?_
  refine W_seq ?_
  refine W_region ?_
  refine WO_assign ?_
  refine WO_nil ?_
  refine W_seq ?_
  refine W_seq ?_
  refine W_region ?_
  refine WO_move ?_
  refine D_len sl_S_string (e := S) (xs := a0) ?_
  refine WO_move ?_
  refine WO_nil ?_
  refine W_bnd 0 hvac (fun hb1 => ?_)
  rw [List.length_map] at hb1
  refine W_block ?_
  refine W_loopM (α := Nat) [4, 5, 8, 9, 10, 11, 12, 13, 14, 15, 16, 17, 18] (fun a => [(8, I (a : Nat))]) (fun a nx' h' => 0 ≤ nx' ∧ Kp p [] h h' ∧ a ≤ a0.length ∧ m_slices_Index_S_string_string_l0 a1 (a0.drop a) (a : Int) = R) (fun a => a0.length - a) 0 ⟨rfl, trivial⟩ ⟨aOm, aKp, Nat.zero_le _, hm⟩ (fun i1 e1 nx3 h1 hI => ?_)
  obtain ⟨hn1, hk1, hi1, hm⟩ := hI
  refine W_seq ?_
  refine W_region ?_
  refine WO_lss ?_
  refine WO_nil ?_
  refine W_seq ?_
  refine W_cond (fun hq => ?_) (fun hq => ?_)
  · have hlt1 : (i1 : Int) < (a0.length : Int) := dec_lt hq
    obtain ⟨x3, hx1, hd1⟩ := lt_get (xs := a0) (i := i1) (by omega)
    rw [hd1, m_slices_Index_S_string_string_l0] at hm
    replace hx1 := getI_nat hx1
    refine W_skip ?_
    refine W_seq ?_
    refine W_block ?_
    refine W_seq ?_
    refine W_region ?_
    refine WO_move ?_
    refine WO_assign ?_
    refine WO_nil ?_
    refine W_seq ?_
    refine W_region ?_
    refine WO_move ?_
    refine WO_move ?_
    refine WO_move ?_
    refine D_index el_S_string sz_string hx1 ?_
    refine WO_loadI1 sz_string ag_string ?_
    refine WO_eqlS ?_
    refine WO_nil ?_
    refine W_ite hm (fun hq hm => ?_) (fun hq hm => ?_)
    · refine W_seq ?_
      refine W_region ?_
      refine WO_move ?_
      refine WO_assign ?_
      refine WO_nil ?_
      cases hm
      exact W_ret (finD1 [] (retTmp (t := 4) retNil) (.same _) (Kp.fin aKp))
    · refine W_skip ?_
      refine W_region ?_
      refine WO_succ ?_
      refine WO_move ?_
      refine WO_nil ?_
      exact round (i1 + 1) ⟨rfl, trivial⟩ ⟨aOm, aKp, aOm, hm⟩ aOm
  · have hge1 : (a0.length : Int) ≤ (i1 : Int) := dec_ge hq
    rw [drop_len (by omega), m_slices_Index_S_string_string_l0] at hm
    refine W_exit ?_
    refine W_seq ?_
    refine W_region ?_
    refine WO_assign ?_
    refine WO_nil ?_
    cases hm
    exact W_ret (finD1 [] (retTmp (t := 4) retNil) (.same _) (Kp.fin aKp))

noncomputable def m_slices_Contains_S_string_string (a0 : List ByteArray) (a1 : ByteArray) : Bool :=
  (decide ((m_slices_Index_S_string_string a0 a1) ≥ 0))

theorem run_slices_Contains_S_string_string {a0 : List ByteArray} {b0 : Bool} {a1 : ByteArray} : Gives PG F_slices_Contains_S_string_string [PV.sl b0 (a0.map S), S a1] (B (m_slices_Contains_S_string_string a0 a1)) := by
  intro p h
  generalize hm : m_slices_Contains_S_string_string a0 a1 = R
  unfold m_slices_Contains_S_string_string at hm
  refine fn_dec fn_slices_Contains_S_string_string ?_
  refine W_seq ?_
  refine W_region ?_
  refine WO_assign ?_
  refine WO_nil ?_
  refine W_seq ?_
  refine W_region ?_
  refine WO_move ?_
  refine WO_move ?_
  refine WO_callN (run_slices_Index_S_string_string (a0 := a0) (a1 := a1)) ?_
  refine WO_geq ?_
  refine WO_assign ?_
  refine WO_nil ?_
  cases hm
  exact W_ret (finD1 [] (retTmp (t := 4) retNil) (.same _) (Kp.fin aKp))

noncomputable def m_impl_areDifferent_string_l0 (a0 : List ByteArray) : List ByteArray → Int → Option Bool
  | [], i1 =>
    some true
  | x3 :: zs, i1 =>
    (subI a0 0 (i1 : Int)).bind fun c3 =>
    if (m_slices_Contains_S_string_string c3 x3) then
      some false
    else
      m_impl_areDifferent_string_l0 a0 zs (i1 + 1)

noncomputable def m_impl_areDifferent_string (a0 : List ByteArray) : Option Bool :=
  m_impl_areDifferent_string_l0 a0 a0 0

theorem run_impl_areDifferent_string {a0 : List ByteArray} {b0 : Bool} {R : Bool} (hm : m_impl_areDifferent_string a0 = some R) : Gives PG F_impl_areDifferent_string [PV.sl b0 (a0.map S)] (B R) := by
  intro p h
  have hvac : ∀ k, ∃ s : St, k ≤ s.nx ∧ Fin PG Try.f140 18 p h (B R) .ret s := fun k => ⟨⟨fun i => if i = 2 then B R else default, k, h⟩, Nat.le_refl _, finD1 [] (retTmp (t := 2) retNil) (.same _) (fun _ => .inl rfl)⟩
  unfold m_impl_areDifferent_string at hm
  refine fn_dec fn_impl_areDifferent_string ?_
  refine W_seq ?_
  refine W_region ?_
  refine WO_assign ?_
  refine WO_nil ?_
  refine W_seq ?_
  refine W_seq ?_
  refine W_region ?_
  refine WO_move ?_
  refine D_len sl_S_string (e := S) (xs := a0) ?_
  refine WO_move ?_
  refine WO_nil ?_
  refine W_bnd 5 hvac (fun hb1 => ?_)
  rw [List.length_map] at hb1
  refine W_block ?_
  refine W_loopM (α := Nat) [2, 3, 4, 7, 8, 9, 10, 11, 12, 13, 14, 15, 16, 17] (fun a => [(7, I (a : Nat))]) (fun a nx' h' => 0 ≤ nx' ∧ Kp p [] h h' ∧ a ≤ a0.length ∧ m_impl_areDifferent_string_l0 a0 (a0.drop a) (a : Int) = some R) (fun a => a0.length - a) 0 ⟨rfl, trivial⟩ ⟨aOm, aKp, Nat.zero_le _, hm⟩ (fun i1 e1 nx3 h1 hI => ?_)
  obtain ⟨hn1, hk1, hi1, hm⟩ := hI
  refine W_seq ?_
  refine W_region ?_
  refine WO_lss ?_
  refine WO_nil ?_
  refine W_seq ?_
  refine W_cond (fun hq => ?_) (fun hq => ?_)
  · have hlt1 : (i1 : Int) < (a0.length : Int) := dec_lt hq
    obtain ⟨x3, hx1, hd1⟩ := lt_get (xs := a0) (i := i1) (by omega)
    rw [hd1, m_impl_areDifferent_string_l0] at hm
    replace hx1 := getI_nat hx1
    refine W_skip ?_
    refine W_seq ?_
    refine W_block ?_
    refine W_seq ?_
    refine W_region ?_
    refine WO_move ?_
    refine D_index el_S_string sz_string hx1 ?_
    refine WO_loadI1 sz_string ag_string ?_
    refine WO_assign ?_
    refine WO_assign ?_
    refine WO_nil ?_
    refine W_seq ?_
    refine W_region ?_
    refine WO_move ?_
    refine WO_move ?_
    obtain ⟨c3, g5, hm⟩ := ob hm
    refine D_slice os_S_string g5 (e := S) (fun b3 => ?_)
    refine WO_move ?_
    refine WO_callN (run_slices_Contains_S_string_string (a0 := c3) (a1 := x3)) ?_
    refine WO_nil ?_
    refine W_ite hm (fun hq hm => ?_) (fun hq hm => ?_)
    · refine W_seq ?_
      refine W_region ?_
      refine WO_assign ?_
      refine WO_nil ?_
      cases hm
      exact W_ret (finD1 [] (retTmp (t := 2) retNil) (.same _) (Kp.fin aKp))
    · refine W_skip ?_
      refine W_region ?_
      refine WO_succ ?_
      refine WO_move ?_
      refine WO_nil ?_
      exact round (i1 + 1) ⟨rfl, trivial⟩ ⟨aOm, aKp, aOm, hm⟩ aOm
  · have hge1 : (a0.length : Int) ≤ (i1 : Int) := dec_ge hq
    rw [drop_len (by omega), m_impl_areDifferent_string_l0] at hm
    refine W_exit ?_
    refine W_seq ?_
    refine W_region ?_
    refine WO_assign ?_
    refine WO_nil ?_
    cases hm
    exact W_ret (finD1 [] (retTmp (t := 2) retNil) (.same _) (Kp.fin aKp))

noncomputable def m_slices_Index_S_int_int_l0 (a1 : Int) : List Int → Int → Int
  | [], i1 =>
    (-1)
  | x3 :: zs, i1 =>
    if (a1 == x3) then
      (i1 : Int)
    else
      m_slices_Index_S_int_int_l0 a1 zs (i1 + 1)

noncomputable def m_slices_Index_S_int_int (a0 : List Int) (a1 : Int) : Int :=
  m_slices_Index_S_int_int_l0 a1 a0 0

theorem run_slices_Index_S_int_int {a0 : List Int} {b0 : Bool} {a1 : Int} : Gives PG F_slices_Index_S_int_int [PV.sl b0 (a0.map I), I a1] (I (m_slices_Index_S_int_int a0 a1)) := by
  intro p h
  generalize hm : m_slices_Index_S_int_int a0 a1 = R
  have hvac : ∀ k, ∃ s : St, k ≤ s.nx ∧ Fin PG Try.f245 19 p h (I R) .ret s := fun k => ⟨⟨fun i => if i = 4 then I R else default, k, h⟩, Nat.le_refl _, finD1 [] (retTmp (t := 4) retNil) (.same _) (fun _ => .inl rfl)⟩
  unfold m_slices_Index_S_int_int at hm
  refine fn_dec fn_slices_Index_S_int_int ?_
  refine W_seq ?_
  refine W_region ?_
  refine WO_assign ?_
  refine WO_nil ?_
  refine W_seq ?_
  refine W_seq ?_
  refine W_region ?_
  refine WO_move ?_
  refine D_len sl_S_int (e := I) (xs := a0) ?_
  refine WO_move ?_
  refine WO_nil ?_
  refine W_bnd 0 hvac (fun hb1 => ?_)
  rw [List.length_map] at hb1
  refine W_block ?_
  refine W_loopM (α := Nat) [4, 5, 8, 9, 10, 11, 12, 13, 14, 15, 16, 17, 18] (fun a => [(8, I (a : Nat))]) (fun a nx' h' => 0 ≤ nx' ∧ Kp p [] h h' ∧ a ≤ a0.length ∧ m_slices_Index_S_int_int_l0 a1 (a0.drop a) (a : Int) = R) (fun a => a0.length - a) 0 ⟨rfl, trivial⟩ ⟨aOm, aKp, Nat.zero_le _, hm⟩ (fun i1 e1 nx3 h1 hI => ?_)
  obtain ⟨hn1, hk1, hi1, hm⟩ := hI
  refine W_seq ?_
  refine W_region ?_
  refine WO_lss ?_
  refine WO_nil ?_
  refine W_seq ?_
  refine W_cond (fun hq => ?_) (fun hq => ?_)
  · have hlt1 : (i1 : Int) < (a0.length : Int) := dec_lt hq
    obtain ⟨x3, hx1, hd1⟩ := lt_get (xs := a0) (i := i1) (by omega)
    rw [hd1, m_slices_Index_S_int_int_l0] at hm
    replace hx1 := getI_nat hx1
    refine W_skip ?_
    refine W_seq ?_
    refine W_block ?_
    refine W_seq ?_
    refine W_region ?_
    refine WO_move ?_
    refine WO_assign ?_
    refine WO_nil ?_
    refine W_seq ?_
    refine W_region ?_
    refine WO_move ?_
    refine WO_move ?_
    refine WO_move ?_
    refine D_index el_S_int sz_int hx1 ?_
    refine WO_loadI1 sz_int ag_int ?_
    refine WO_eql ?_
    refine WO_nil ?_
    refine W_ite hm (fun hq hm => ?_) (fun hq hm => ?_)
    · refine W_seq ?_
      refine W_region ?_
      refine WO_move ?_
      refine WO_assign ?_
      refine WO_nil ?_
      cases hm
      exact W_ret (finD1 [] (retTmp (t := 4) retNil) (.same _) (Kp.fin aKp))
    · refine W_skip ?_
      refine W_region ?_
      refine WO_succ ?_
      refine WO_move ?_
      refine WO_nil ?_
      exact round (i1 + 1) ⟨rfl, trivial⟩ ⟨aOm, aKp, aOm, hm⟩ aOm
  · have hge1 : (a0.length : Int) ≤ (i1 : Int) := dec_ge hq
    rw [drop_len (by omega), m_slices_Index_S_int_int_l0] at hm
    refine W_exit ?_
    refine W_seq ?_
    refine W_region ?_
    refine WO_assign ?_
    refine WO_nil ?_
    cases hm
    exact W_ret (finD1 [] (retTmp (t := 4) retNil) (.same _) (Kp.fin aKp))

noncomputable def m_slices_Contains_S_int_int (a0 : List Int) (a1 : Int) : Bool :=
  (decide ((m_slices_Index_S_int_int a0 a1) ≥ 0))

theorem run_slices_Contains_S_int_int {a0 : List Int} {b0 : Bool} {a1 : Int} : Gives PG F_slices_Contains_S_int_int [PV.sl b0 (a0.map I), I a1] (B (m_slices_Contains_S_int_int a0 a1)) := by
  intro p h
  generalize hm : m_slices_Contains_S_int_int a0 a1 = R
  unfold m_slices_Contains_S_int_int at hm
  refine fn_dec fn_slices_Contains_S_int_int ?_
  refine W_seq ?_
  refine W_region ?_
  refine WO_assign ?_
  refine WO_nil ?_
  refine W_seq ?_
  refine W_region ?_
  refine WO_move ?_
  refine WO_move ?_
  refine WO_callN (run_slices_Index_S_int_int (a0 := a0) (a1 := a1)) ?_
  refine WO_geq ?_
  refine WO_assign ?_
  refine WO_nil ?_
  cases hm
  exact W_ret (finD1 [] (retTmp (t := 4) retNil) (.same _) (Kp.fin aKp))

noncomputable def m_impl_areDifferent_int_l0 (a0 : List Int) : List Int → Int → Option Bool
  | [], i1 =>
    some true
  | x3 :: zs, i1 =>
    (subI a0 0 (i1 : Int)).bind fun c3 =>
    if (m_slices_Contains_S_int_int c3 x3) then
      some false
    else
      m_impl_areDifferent_int_l0 a0 zs (i1 + 1)

noncomputable def m_impl_areDifferent_int (a0 : List Int) : Option Bool :=
  m_impl_areDifferent_int_l0 a0 a0 0

theorem run_impl_areDifferent_int {a0 : List Int} {b0 : Bool} {R : Bool} (hm : m_impl_areDifferent_int a0 = some R) : Gives PG F_impl_areDifferent_int [PV.sl b0 (a0.map I)] (B R) := by
  intro p h
  have hvac : ∀ k, ∃ s : St, k ≤ s.nx ∧ Fin PG Try.f141 18 p h (B R) .ret s := fun k => ⟨⟨fun i => if i = 2 then B R else default, k, h⟩, Nat.le_refl _, finD1 [] (retTmp (t := 2) retNil) (.same _) (fun _ => .inl rfl)⟩
  unfold m_impl_areDifferent_int at hm
  refine fn_dec fn_impl_areDifferent_int ?_
  refine W_seq ?_
  refine W_region ?_
  refine WO_assign ?_
  refine WO_nil ?_
  refine W_seq ?_
  refine W_seq ?_
  refine W_region ?_
  refine WO_move ?_
  refine D_len sl_S_int (e := I) (xs := a0) ?_
  refine WO_move ?_
  refine WO_nil ?_
  refine W_bnd 5 hvac (fun hb1 => ?_)
  rw [List.length_map] at hb1
  refine W_block ?_
  refine W_loopM (α := Nat) [2, 3, 4, 7, 8, 9, 10, 11, 12, 13, 14, 15, 16, 17] (fun a => [(7, I (a : Nat))]) (fun a nx' h' => 0 ≤ nx' ∧ Kp p [] h h' ∧ a ≤ a0.length ∧ m_impl_areDifferent_int_l0 a0 (a0.drop a) (a : Int) = some R) (fun a => a0.length - a) 0 ⟨rfl, trivial⟩ ⟨aOm, aKp, Nat.zero_le _, hm⟩ (fun i1 e1 nx3 h1 hI => ?_)
  obtain ⟨hn1, hk1, hi1, hm⟩ := hI
  refine W_seq ?_
  refine W_region ?_
  refine WO_lss ?_
  refine WO_nil ?_
  refine W_seq ?_
  refine W_cond (fun hq => ?_) (fun hq => ?_)
  · have hlt1 : (i1 : Int) < (a0.length : Int) := dec_lt hq
    obtain ⟨x3, hx1, hd1⟩ := lt_get (xs := a0) (i := i1) (by omega)
    rw [hd1, m_impl_areDifferent_int_l0] at hm
    replace hx1 := getI_nat hx1
    refine W_skip ?_
    refine W_seq ?_
    refine W_block ?_
    refine W_seq ?_
    refine W_region ?_
    refine WO_move ?_
    refine D_index el_S_int sz_int hx1 ?_
    refine WO_loadI1 sz_int ag_int ?_
    refine WO_assign ?_
    refine WO_assign ?_
    refine WO_nil ?_
    refine W_seq ?_
    refine W_region ?_
    refine WO_move ?_
    refine WO_move ?_
    obtain ⟨c3, g5, hm⟩ := ob hm
    refine D_slice os_S_int g5 (e := I) (fun b3 => ?_)
    refine WO_move ?_
    refine WO_callN (run_slices_Contains_S_int_int (a0 := c3) (a1 := x3)) ?_
    refine WO_nil ?_
    refine W_ite hm (fun hq hm => ?_) (fun hq hm => ?_)
    · refine W_seq ?_
      refine W_region ?_
      refine WO_assign ?_
      refine WO_nil ?_
      cases hm
      exact W_ret (finD1 [] (retTmp (t := 2) retNil) (.same _) (Kp.fin aKp))
    · refine W_skip ?_
      refine W_region ?_
      refine WO_succ ?_
      refine WO_move ?_
      refine WO_nil ?_
      exact round (i1 + 1) ⟨rfl, trivial⟩ ⟨aOm, aKp, aOm, hm⟩ aOm
  · have hge1 : (a0.length : Int) ≤ (i1 : Int) := dec_ge hq
    rw [drop_len (by omega), m_impl_areDifferent_int_l0] at hm
    refine W_exit ?_
    refine W_seq ?_
    refine W_region ?_
    refine WO_assign ?_
    refine WO_nil ?_
    cases hm
    exact W_ret (finD1 [] (retTmp (t := 2) retNil) (.same _) (Kp.fin aKp))

noncomputable def m_impl_binary : (List ByteArray) :=
  ([(⟨#[97, 100, 100]⟩ : ByteArray), (⟨#[115, 117, 98]⟩ : ByteArray), (⟨#[109, 117, 108]⟩ : ByteArray), (⟨#[97, 110, 100]⟩ : ByteArray), (⟨#[111, 114]⟩ : ByteArray), (⟨#[120, 111, 114]⟩ : ByteArray), (⟨#[115, 104, 108]⟩ : ByteArray), (⟨#[115, 104, 114]⟩ : ByteArray), (⟨#[108, 101, 115, 115]⟩ : ByteArray), (⟨#[101, 113]⟩ : ByteArray)] : List ByteArray)

theorem run_impl_binary  : Gives PG F_impl_binary [] (PV.sl false ((m_impl_binary).map S)) := by
  intro p h
  generalize hm : m_impl_binary = R
  unfold m_impl_binary at hm
  refine fn_dec fn_impl_binary ?_
  refine W_seq ?_
  refine W_region ?_
  refine WO_assign ?_
  refine WO_nil ?_
  refine W_seq ?_
  refine W_region ?_
  refine WO_buildSlice el_S_string sz_string zo_string ?_
  refine WO_assign ?_
  refine WO_nil ?_
  cases hm
  exact W_ret (finD1 [] (retTmp (t := 0) retNil) .lo (Kp.fin aKp))

noncomputable def m_impl_formOf (a0 : ByteArray) : Option (GForm × Bool) :=
  if (decide (a0 = (⟨#[115, 101, 116]⟩ : ByteArray))) then
    some ({ { (⟨false, false, 1, 0, 1, a0⟩ : GForm) with low := 0 } with high := 63 }, true)
  else
    bd (if (decide (a0 = (⟨#[109, 111, 118]⟩ : ByteArray))) then
        (decide (a0 = (⟨#[109, 111, 118]⟩ : ByteArray)))
      else
        if (decide (a0 = (⟨#[110, 111, 116]⟩ : ByteArray))) then
          (decide (a0 = (⟨#[110, 111, 116]⟩ : ByteArray)))
        else
          (decide (a0 = (⟨#[110, 101, 103]⟩ : ByteArray)))) fun X1 =>
    if X1 then
      some ({ (⟨false, false, 1, 0, 1, a0⟩ : GForm) with a := true }, true)
    else
      if (m_slices_Contains_S_string_string (m_impl_binary) a0) then
        bd (((decide (a0 = (⟨#[115, 104, 108]⟩ : ByteArray))) || (decide (a0 = (⟨#[115, 104, 114]⟩ : ByteArray))))) fun X2 =>
        bd (if X2 then
            { { { (⟨false, false, 1, 0, 1, a0⟩ : GForm) with a := true } with b := true } with cost := 2 }
          else
            { { (⟨false, false, 1, 0, 1, a0⟩ : GForm) with a := true } with b := true }) fun X3 =>
        bd (if (decide (a0 = (⟨#[109, 117, 108]⟩ : ByteArray))) then
            { X3 with cost := 4 }
          else
            X3) fun X4 =>
        some (X4, true)
      else
        bd (if (decide (a0 = (⟨#[97, 100, 100, 105]⟩ : ByteArray))) then
            (decide (a0 = (⟨#[97, 100, 100, 105]⟩ : ByteArray)))
          else
            if (decide (a0 = (⟨#[97, 110, 100, 105]⟩ : ByteArray))) then
              (decide (a0 = (⟨#[97, 110, 100, 105]⟩ : ByteArray)))
            else
              (decide (a0 = (⟨#[120, 111, 114, 105]⟩ : ByteArray)))) fun X5 =>
        if X5 then
          (subS a0 0 3).bind fun x6 =>
          some ({ { { { (⟨false, false, 1, 0, 1, a0⟩ : GForm) with a := true } with low := 0 } with high := 63 } with op := x6 }, true)
        else
          bd (if (decide (a0 = (⟨#[115, 104, 108, 105]⟩ : ByteArray))) then
              (decide (a0 = (⟨#[115, 104, 108, 105]⟩ : ByteArray)))
            else
              (decide (a0 = (⟨#[115, 104, 114, 105]⟩ : ByteArray)))) fun X6 =>
          if X6 then
            (subS a0 0 3).bind fun x8 =>
            some ({ { { { (⟨false, false, 1, 0, 1, a0⟩ : GForm) with a := true } with low := 1 } with high := 5 } with op := x8 }, true)
          else
            if (decide (a0 = (⟨#[108, 101, 97]⟩ : ByteArray))) then
              some ({ { { { (⟨false, false, 1, 0, 1, a0⟩ : GForm) with a := true } with b := true } with low := 1 } with high := 3 }, true)
            else
              some ((⟨false, false, 0, 0, 0, ByteArray.empty⟩ : GForm), false)

theorem run_impl_formOf {a0 : ByteArray} {R : GForm × Bool} (hm : m_impl_formOf a0 = some R) : Gives PG F_impl_formOf [S a0] (.tup [eGForm R.1, B R.2]) := by
  intro p h
  unfold m_impl_formOf at hm
  refine fn_dec fn_impl_formOf ?_
  refine W_seq ?_
  refine W_region ?_
  refine WO_alloc sz_impl_form zo_impl_form ?_
  refine WO_assign ?_
  refine WO_nil ?_
  refine W_seq ?_
  refine W_region ?_
  refine WO_move ?_
  refine WO_build zo_impl_form pl_impl_form ?_
  refine WO_alloc sz_impl_form zo_impl_form ?_
  refine WO_store sz_impl_form ?_
  refine WO_nil ?_
  refine W_seq ?_
  refine W_block ?_
  refine W_seq ?_
  refine W_region ?_
  refine WO_move ?_
  refine WO_eqlS ?_
  refine WO_assign ?_
  refine WO_nil ?_
  refine W_ite hm (fun hq hm => ?_) (fun hq hm => ?_)
  · refine W_region ?_
    refine WO_fieldP fa_impl_form_2 ?_
    refine WO_store sz_int ?_
    refine WO_fieldP fa_impl_form_3 ?_
    refine WO_store sz_int ?_
    refine WO_nil ?_
    refine W_seq ?_
    refine W_region ?_
    refine WO_loadS sz_impl_form ag_impl_form ?_
    refine WO_store sz_impl_form ?_
    refine WO_assign ?_
    refine WO_nil ?_
    cases hm
    exact W_ret (finD [] (retCell (a := 2) sz_impl_form ag_impl_form (retTmp (t := 3) retNil)) (.cons _ _ _ _ (.same _) (.cons _ _ _ _ (.same _) .nil)) (Kp.fin aKp))
  · refine W_seq ?_
    refine W_seq ?_
    refine W_region ?_
    refine WO_move ?_
    refine WO_eqlS ?_
    refine WO_assign ?_
    refine WO_nil ?_
    obtain ⟨X1, hE1, hm⟩ := obd hm
    refine W_joinH (γ := Unit) [13, 16, 17, 18, 19] (fun b => [(13, B X1)]) ?_ ?_
    · refine W_ite hE1 (fun hq hE1 => ?_) (fun hq hE1 => ?_)
      · refine W_skip ?_
        cases hE1
        exact metH () ⟨rfl, trivial⟩ aOm
      · refine W_seq ?_
        refine W_region ?_
        refine WO_move ?_
        refine WO_eqlS ?_
        refine WO_assign ?_
        refine WO_nil ?_
        refine W_ite hE1 (fun hq hE1 => ?_) (fun hq hE1 => ?_)
        · refine W_skip ?_
          cases hE1
          exact metH () ⟨rfl, trivial⟩ aOm
        · refine W_region ?_
          refine WO_move ?_
          refine WO_eqlS ?_
          refine WO_assign ?_
          refine WO_nil ?_
          cases hE1
          exact metH () ⟨rfl, trivial⟩ aOm
    · intro bb1 e1 nx1 hn1
      refine W_ite hm (fun hq hm => ?_) (fun hq hm => ?_)
      · refine W_region ?_
        refine WO_fieldP fa_impl_form_0 ?_
        refine WO_store sz_bool ?_
        refine WO_nil ?_
        refine W_seq ?_
        refine W_region ?_
        refine WO_loadS sz_impl_form ag_impl_form ?_
        refine WO_store sz_impl_form ?_
        refine WO_assign ?_
        refine WO_nil ?_
        cases hm
        exact W_ret (finD [] (retCell (a := 2) sz_impl_form ag_impl_form (retTmp (t := 3) retNil)) (.cons _ _ _ _ (.same _) (.cons _ _ _ _ (.same _) .nil)) (Kp.fin aKp))
      · refine W_seq ?_
        refine W_region ?_
        refine WO_callN run_impl_binary ?_
        refine WO_move ?_
        refine WO_callN (run_slices_Contains_S_string_string (a0 := (m_impl_binary)) (a1 := a0)) ?_
        refine WO_assign ?_
        refine WO_nil ?_
        refine W_ite hm (fun hq hm => ?_) (fun hq hm => ?_)
        · refine W_seq ?_
          refine W_region ?_
          refine WO_fieldP fa_impl_form_0 ?_
          refine WO_store sz_bool ?_
          refine WO_fieldP fa_impl_form_1 ?_
          refine WO_store sz_bool ?_
          refine WO_nil ?_
          refine W_seq ?_
          refine W_seq ?_
          obtain ⟨X2, hE2, hm⟩ := obd hm
          refine W_joinH (γ := Unit) [27, 28, 29, 30, 31, 32] (fun b => [(32, B X2)]) ?_ ?_
          · refine W_region ?_
            refine WO_move ?_
            refine WO_eqlS ?_
            refine WO_move ?_
            refine WO_ior 29 hE2 (fun hq hE2 => ?_) (fun hq hE2 => ?_)
            · refine WO_skip ?_
              refine WO_skip ?_
              refine WO_pick ?_
              refine WO_nil ?_
              cases hE2
              exact metH () ⟨rfl, trivial⟩ aOm
            · refine WO_move ?_
              refine WO_eqlS ?_
              refine WO_pick ?_
              refine WO_nil ?_
              cases hE2
              exact metH () ⟨rfl, trivial⟩ aOm
          · intro bb2 e2 nx2 hn2
            obtain ⟨X3, hE3, hm⟩ := obd hm
            refine W_join (γ := Unit) [33] (fun b => []) (fun b nx' h' => nx2 ≤ nx' ∧ Kp p [] h h' ∧ (h' (p ++ [0]) = some ⟨0, 6, [eGForm (⟨false, false, 0, 0, 0, ByteArray.empty⟩ : GForm)]⟩) ∧ (h' (p ++ [1]) = some ⟨0, 6, [eGForm X3]⟩)) ?_ ?_
            · refine W_ite hE3 (fun hq hE3 => ?_) (fun hq hE3 => ?_)
              · refine W_region ?_
                refine WO_fieldP fa_impl_form_4 ?_
                refine WO_store sz_int ?_
                refine WO_nil ?_
                cases hE3
                exact metJ () trivial ⟨aOm, aKp, aLk, aLk⟩
              · refine W_skip ?_
                cases hE3
                exact metJ () trivial ⟨aOm, aKp, aLk, aLk⟩
            · intro bb3 e3 nx3 h1 hJ
              obtain ⟨hn3, hk1, hr1, hr2⟩ := hJ
              refine W_seq ?_
              refine W_region ?_
              refine WO_move ?_
              refine WO_eqlS ?_
              refine WO_nil ?_
              obtain ⟨X4, hE4, hm⟩ := obd hm
              refine W_join (γ := Unit) [36] (fun b => []) (fun b nx' h' => nx3 ≤ nx' ∧ Kp p [] h h' ∧ (h' (p ++ [0]) = some ⟨0, 6, [eGForm (⟨false, false, 0, 0, 0, ByteArray.empty⟩ : GForm)]⟩) ∧ (h' (p ++ [1]) = some ⟨0, 6, [eGForm X4]⟩)) ?_ ?_
              · refine W_ite hE4 (fun hq hE4 => ?_) (fun hq hE4 => ?_)
                · refine W_region ?_
                  refine WO_fieldP fa_impl_form_4 ?_
                  refine WO_store sz_int ?_
                  refine WO_nil ?_
                  cases hE4
                  exact metJ () trivial ⟨aOm, aKp, aLk, aLk⟩
                · refine W_skip ?_
                  cases hE4
                  exact metJ () trivial ⟨aOm, aKp, aLk, aLk⟩
              · intro bb4 e4 nx4 h2 hJ
                obtain ⟨hn4, hk2, hr3, hr4⟩ := hJ
                refine W_seq ?_
                refine W_region ?_
                refine WO_loadS sz_impl_form ag_impl_form ?_
                refine WO_store sz_impl_form ?_
                refine WO_assign ?_
                refine WO_nil ?_
                cases hm
                exact W_ret (finD [] (retCell (a := 2) sz_impl_form ag_impl_form (retTmp (t := 3) retNil)) (.cons _ _ _ _ (.same _) (.cons _ _ _ _ (.same _) .nil)) (Kp.fin aKp))
        · refine W_seq ?_
          refine W_seq ?_
          refine W_region ?_
          refine WO_move ?_
          refine WO_eqlS ?_
          refine WO_assign ?_
          refine WO_nil ?_
          obtain ⟨X5, hE5, hm⟩ := obd hm
          refine W_joinH (γ := Unit) [37, 40, 41, 42, 43] (fun b => [(37, B X5)]) ?_ ?_
          · refine W_ite hE5 (fun hq hE5 => ?_) (fun hq hE5 => ?_)
            · refine W_skip ?_
              cases hE5
              exact metH () ⟨rfl, trivial⟩ aOm
            · refine W_seq ?_
              refine W_region ?_
              refine WO_move ?_
              refine WO_eqlS ?_
              refine WO_assign ?_
              refine WO_nil ?_
              refine W_ite hE5 (fun hq hE5 => ?_) (fun hq hE5 => ?_)
              · refine W_skip ?_
                cases hE5
                exact metH () ⟨rfl, trivial⟩ aOm
              · refine W_region ?_
                refine WO_move ?_
                refine WO_eqlS ?_
                refine WO_assign ?_
                refine WO_nil ?_
                cases hE5
                exact metH () ⟨rfl, trivial⟩ aOm
          · intro bb5 e5 nx5 hn5
            refine W_ite hm (fun hq hm => ?_) (fun hq hm => ?_)
            · refine W_regionD [0, 0, 1, 2, 1, 2, 1, 2, 1, 2] mixed (by kernel_rfl) ?_
              refine WO_move ?_
              obtain ⟨x6, g1, hm⟩ := ob hm
              refine D_sliceS st_string g1 ?_
              refine WO_fieldP fa_impl_form_0 ?_
              refine WO_store sz_bool ?_
              refine WO_fieldP fa_impl_form_2 ?_
              refine WO_store sz_int ?_
              refine WO_fieldP fa_impl_form_3 ?_
              refine WO_store sz_int ?_
              refine WO_fieldP fa_impl_form_5 ?_
              refine WO_store sz_string ?_
              refine WO_nil ⟨rfl, ?_⟩
              refine W_seq ?_
              refine W_region ?_
              refine WO_loadS sz_impl_form ag_impl_form ?_
              refine WO_store sz_impl_form ?_
              refine WO_assign ?_
              refine WO_nil ?_
              cases hm
              exact W_ret (finD [] (retCell (a := 2) sz_impl_form ag_impl_form (retTmp (t := 3) retNil)) (.cons _ _ _ _ (.same _) (.cons _ _ _ _ (.same _) .nil)) (Kp.fin aKp))
            · refine W_seq ?_
              refine W_seq ?_
              refine W_region ?_
              refine WO_move ?_
              refine WO_eqlS ?_
              refine WO_assign ?_
              refine WO_nil ?_
              obtain ⟨X6, hE6, hm⟩ := obd hm
              refine W_joinH (γ := Unit) [50, 53, 54] (fun b => [(50, B X6)]) ?_ ?_
              · refine W_ite hE6 (fun hq hE6 => ?_) (fun hq hE6 => ?_)
                · refine W_skip ?_
                  cases hE6
                  exact metH () ⟨rfl, trivial⟩ aOm
                · refine W_region ?_
                  refine WO_move ?_
                  refine WO_eqlS ?_
                  refine WO_assign ?_
                  refine WO_nil ?_
                  cases hE6
                  exact metH () ⟨rfl, trivial⟩ aOm
              · intro bb6 e6 nx6 hn6
                refine W_ite hm (fun hq hm => ?_) (fun hq hm => ?_)
                · refine W_regionD [0, 0, 1, 2, 1, 2, 1, 2, 1, 2] mixed (by kernel_rfl) ?_
                  refine WO_move ?_
                  obtain ⟨x8, g2, hm⟩ := ob hm
                  refine D_sliceS st_string g2 ?_
                  refine WO_fieldP fa_impl_form_0 ?_
                  refine WO_store sz_bool ?_
                  refine WO_fieldP fa_impl_form_2 ?_
                  refine WO_store sz_int ?_
                  refine WO_fieldP fa_impl_form_3 ?_
                  refine WO_store sz_int ?_
                  refine WO_fieldP fa_impl_form_5 ?_
                  refine WO_store sz_string ?_
                  refine WO_nil ⟨rfl, ?_⟩
                  refine W_seq ?_
                  refine W_region ?_
                  refine WO_loadS sz_impl_form ag_impl_form ?_
                  refine WO_store sz_impl_form ?_
                  refine WO_assign ?_
                  refine WO_nil ?_
                  cases hm
                  exact W_ret (finD [] (retCell (a := 2) sz_impl_form ag_impl_form (retTmp (t := 3) retNil)) (.cons _ _ _ _ (.same _) (.cons _ _ _ _ (.same _) .nil)) (Kp.fin aKp))
                · refine W_seq ?_
                  refine W_region ?_
                  refine WO_move ?_
                  refine WO_eqlS ?_
                  refine WO_assign ?_
                  refine WO_nil ?_
                  refine W_ite hm (fun hq hm => ?_) (fun hq hm => ?_)
                  · refine W_region ?_
                    refine WO_fieldP fa_impl_form_0 ?_
                    refine WO_store sz_bool ?_
                    refine WO_fieldP fa_impl_form_1 ?_
                    refine WO_store sz_bool ?_
                    refine WO_fieldP fa_impl_form_2 ?_
                    refine WO_store sz_int ?_
                    refine WO_fieldP fa_impl_form_3 ?_
                    refine WO_store sz_int ?_
                    refine WO_nil ?_
                    refine W_seq ?_
                    refine W_region ?_
                    refine WO_loadS sz_impl_form ag_impl_form ?_
                    refine WO_store sz_impl_form ?_
                    refine WO_assign ?_
                    refine WO_nil ?_
                    cases hm
                    exact W_ret (finD [] (retCell (a := 2) sz_impl_form ag_impl_form (retTmp (t := 3) retNil)) (.cons _ _ _ _ (.same _) (.cons _ _ _ _ (.same _) .nil)) (Kp.fin aKp))
                  · refine W_seq ?_
                    refine W_region ?_
                    refine WO_build zo_impl_form pl_impl_form ?_
                    refine WO_store sz_impl_form ?_
                    refine WO_assign ?_
                    refine WO_nil ?_
                    cases hm
                    exact W_ret (finD [] (retCell (a := 2) sz_impl_form ag_impl_form (retTmp (t := 3) retNil)) (.cons _ _ _ _ (.same _) (.cons _ _ _ _ (.same _) .nil)) (Kp.fin aKp))

noncomputable def m_impl_isWord (a0 : Int) : Bool :=
  (m_impl_within a0 0 63)

theorem run_impl_isWord {a0 : Int} : Gives PG F_impl_isWord [I a0] (B (m_impl_isWord a0)) := by
  intro p h
  generalize hm : m_impl_isWord a0 = R
  unfold m_impl_isWord at hm
  refine fn_dec fn_impl_isWord ?_
  refine W_seq ?_
  refine W_region ?_
  refine WO_assign ?_
  refine WO_nil ?_
  refine W_seq ?_
  refine W_region ?_
  refine WO_move ?_
  refine WO_callN (run_impl_within (a0 := a0) (a1 := 0) (a2 := 63)) ?_
  refine WO_assign ?_
  refine WO_nil ?_
  cases hm
  exact W_ret (finD1 [] (retTmp (t := 2) retNil) (.same _) (Kp.fin aKp))

noncomputable def m__impl_form_imm (a0 : GForm) : Bool :=
  (decide (a0.low ≤ a0.high))

theorem run__impl_form_imm {a0 : GForm} : Gives PG F__impl_form_imm [eGForm a0] (B (m__impl_form_imm a0)) := by
  intro p h
  generalize hm : m__impl_form_imm a0 = R
  unfold m__impl_form_imm at hm
  refine fn_dec fn__impl_form_imm ?_
  refine W_seq ?_
  refine W_region ?_
  refine WO_box sz_impl_form ?_
  refine WO_assign ?_
  refine WO_nil ?_
  refine W_seq ?_
  refine W_region ?_
  refine WO_fieldP fa_impl_form_2 ?_
  refine WO_load1 sz_int ag_int ?_
  refine WO_fieldP fa_impl_form_3 ?_
  refine WO_load1 sz_int ag_int ?_
  refine WO_leq ?_
  refine WO_assign ?_
  refine WO_nil ?_
  cases hm
  exact W_ret (finD1 [] (retTmp (t := 2) retNil) (.same _) (Kp.fin aKp))

end Go.Proofs.Ytpfdeoapnpcbaaa
