/-
  What is proved here: what functions of the program give, as functions over lists and numbers.
  Conditions: none.
-/
import Derived.Test.YtpfdeoapnpcbaaaVPre
set_option linter.unusedSectionVars false
namespace Go.Proofs.Ytpfdeoapnpcbaaa
open Go.Vs
set_option linter.unusedVariables false
set_option linter.unusedSimpArgs false
set_option maxHeartbeats 4000000
set_option maxRecDepth 4000
attribute [local irreducible] upd del

noncomputable def m_laws_szStringS_l0 : List ByteArray → Int → Int
  | [], s4 =>
    s4
  | x3 :: zs, s4 =>
    if (decide ((w64 (s4 - (x3.size : Int))) < 0)) then
      (-1)
    else
      m_laws_szStringS_l0 zs (w64 (s4 - (x3.size : Int)))

noncomputable def m_laws_szStringS (a0 : List ByteArray) (a1 : Int) : Int :=
  if (decide ((w64 (a1 - (a0.length : Int))) < 0)) then
    (-1)
  else
    m_laws_szStringS_l0 a0 (w64 (a1 - (a0.length : Int)))

theorem run_laws_szStringS {a0 : List ByteArray} {b0 : Bool} {a1 : Int} : Gives PG F_laws_szStringS [PV.sl b0 (a0.map S), I a1] (I (m_laws_szStringS a0 a1)) := by
  intro p h
  generalize hm : m_laws_szStringS a0 a1 = R
  have hvac : ∀ k, ∃ s : St, k ≤ s.nx ∧ Fin PG Try.f72 28 p h (I R) .ret s := fun k => ⟨⟨fun i => if i = 4 then I R else default, k, h⟩, Nat.le_refl _, finD1 [] (retTmp (t := 4) retNil) (.same _) (fun _ => .inl rfl)⟩
  unfold m_laws_szStringS at hm
  refine fn_dec fn_laws_szStringS ?_
  refine W_seq ?_
  refine W_region ?_
  refine WO_assign ?_
  refine WO_nil ?_
  refine W_seq ?_
  refine W_region ?_
  refine WO_move ?_
  refine WO_move ?_
  refine D_len sl_S_string (e := S) (xs := a0) ?_
  refine WO_sub ?_
  refine WO_assign ?_
  refine WO_nil ?_
  refine W_seq ?_
  refine W_seq ?_
  refine W_region ?_
  refine WO_move ?_
  refine WO_lss ?_
  refine WO_nil ?_
  refine W_ite hm (fun hq hm => ?_) (fun hq hm => ?_)
  · refine W_seq ?_
    refine W_region ?_
    refine WO_assign ?_
    refine WO_nil ?_
    cases hm
    exact W_ret (finD1 [] (retTmp (t := 4) retNil) (.same _) (Kp.fin aKp))
  · refine W_skip ?_
    refine W_seq ?_
    refine W_seq ?_
    refine W_region ?_
    refine WO_assign ?_
    refine WO_nil ?_
    refine W_bnd 0 hvac (fun hb1 => ?_)
    rw [List.length_map] at hb1
    refine W_block ?_
    refine W_loopM (α := Nat × Int) [1, 4, 5, 12, 13, 14, 15, 16, 17, 18, 19, 20, 21, 22, 23, 24, 25, 26] (fun a => [(5, I (a.1 : Nat)), (1, I a.2)]) (fun a nx' h' => 0 ≤ nx' ∧ Kp p [] h h' ∧ a.1 ≤ a0.length ∧ m_laws_szStringS_l0 (a0.drop a.1) a.2 = R) (fun a => a0.length - a.1) (0, (w64 (a1 - (a0.length : Int)))) ⟨rfl, rfl, trivial⟩ ⟨aOm, aKp, Nat.zero_le _, hm⟩ (fun a e1 nx3 h1 hI => ?_)
    obtain ⟨i1, s4⟩ := a
    obtain ⟨hn1, hk1, hi1, hm⟩ := hI
    refine W_seq ?_
    refine W_seq ?_
    refine W_region ?_
    refine WO_move ?_
    refine WO_move ?_
    refine D_len sl_S_string (e := S) (xs := a0) ?_
    refine WO_lss ?_
    refine WO_nil ?_
    refine W_cond (fun hq => ?_) (fun hq => ?_)
    · have hlt1 : (i1 : Int) < (a0.length : Int) := dec_lt hq
      obtain ⟨x3, hx1, hd1⟩ := lt_get (xs := a0) (i := i1) (by omega)
      rw [hd1, m_laws_szStringS_l0] at hm
      replace hx1 := getI_nat hx1
      refine W_skip ?_
      refine W_seq ?_
      refine W_block ?_
      refine W_seq ?_
      refine W_region ?_
      refine WO_move ?_
      refine WO_move ?_
      refine WO_move ?_
      refine D_index el_S_string sz_string hx1 ?_
      refine WO_loadI1 sz_string ag_string ?_
      refine WO_lenS st_string ?_
      refine WO_sub ?_
      refine WO_assign ?_
      refine WO_nil ?_
      refine W_seq ?_
      refine W_region ?_
      refine WO_move ?_
      refine WO_lss ?_
      refine WO_nil ?_
      refine W_ite hm (fun hq hm => ?_) (fun hq hm => ?_)
      · refine W_seq ?_
        refine W_region ?_
        refine WO_assign ?_
        refine WO_nil ?_
        cases hm
        exact W_ret (finD1 [] (retTmp (t := 4) retNil) (.same _) (Kp.fin aKp))
      · refine W_skip ?_
        refine W_region ?_
        refine WO_move ?_
        refine WO_succ ?_
        refine WO_assign ?_
        refine WO_nil ?_
        exact round ((i1 + 1), (w64 (s4 - (x3.size : Int)))) ⟨rfl, rfl, trivial⟩ ⟨aOm, aKp, aOm, hm⟩ aOm
    · have hge1 : (a0.length : Int) ≤ (i1 : Int) := dec_ge hq
      rw [drop_len (by omega), m_laws_szStringS_l0] at hm
      refine W_exit ?_
      refine W_seq ?_
      refine W_region ?_
      refine WO_move ?_
      refine WO_assign ?_
      refine WO_nil ?_
      cases hm
      exact W_ret (finD1 [] (retTmp (t := 4) retNil) (.same _) (Kp.fin aKp))

noncomputable def m_laws_szIntS (a0 : List Int) (a1 : Int) : Int :=
  if (decide ((w64 (a1 - (a0.length : Int))) < 0)) then
    (-1)
  else
    (w64 (a1 - (a0.length : Int)))

theorem run_laws_szIntS {a0 : List Int} {b0 : Bool} {a1 : Int} : Gives PG F_laws_szIntS [PV.sl b0 (a0.map I), I a1] (I (m_laws_szIntS a0 a1)) := by
  intro p h
  generalize hm : m_laws_szIntS a0 a1 = R
  unfold m_laws_szIntS at hm
  refine fn_dec fn_laws_szIntS ?_
  refine W_seq ?_
  refine W_region ?_
  refine WO_assign ?_
  refine WO_nil ?_
  refine W_seq ?_
  refine W_region ?_
  refine WO_move ?_
  refine WO_move ?_
  refine D_len sl_S_int (e := I) (xs := a0) ?_
  refine WO_sub ?_
  refine WO_assign ?_
  refine WO_nil ?_
  refine W_seq ?_
  refine W_seq ?_
  refine W_region ?_
  refine WO_move ?_
  refine WO_lss ?_
  refine WO_nil ?_
  refine W_ite hm (fun hq hm => ?_) (fun hq hm => ?_)
  · refine W_seq ?_
    refine W_region ?_
    refine WO_assign ?_
    refine WO_nil ?_
    cases hm
    exact W_ret (finD1 [] (retTmp (t := 4) retNil) (.same _) (Kp.fin aKp))
  · refine W_skip ?_
    refine W_seq ?_
    refine W_region ?_
    refine WO_move ?_
    refine WO_assign ?_
    refine WO_nil ?_
    cases hm
    exact W_ret (finD1 [] (retTmp (t := 4) retNil) (.same _) (Kp.fin aKp))

noncomputable def m_laws_szChoice (a0 : GChoice) (a1 : Int) : Int :=
  if (decide ((m_laws_szStringS a0.Ops a1) < 0)) then
    (-1)
  else
    if (decide ((m_laws_szIntS a0.Imms (m_laws_szStringS a0.Ops a1)) < 0)) then
      (-1)
    else
      (m_laws_szIntS a0.Imms (m_laws_szStringS a0.Ops a1))

theorem run_laws_szChoice {a0 : GChoice} {a1 : Int} : Gives PG F_laws_szChoice [eGChoice a0, I a1] (I (m_laws_szChoice a0 a1)) := by
  intro p h
  generalize hm : m_laws_szChoice a0 a1 = R
  unfold m_laws_szChoice at hm
  refine fn_dec fn_laws_szChoice ?_
  refine W_seq ?_
  refine W_region ?_
  refine WO_box sz_laws_Choice ?_
  refine WO_assign ?_
  refine WO_nil ?_
  refine W_seq ?_
  refine W_region ?_
  refine WO_fieldP fa_laws_Choice_0 ?_
  refine WO_load1 sz_S_string ag_S_string ?_
  refine WO_move ?_
  refine WO_callN (run_laws_szStringS (a0 := a0.Ops) (a1 := a1)) ?_
  refine WO_assign ?_
  refine WO_nil ?_
  refine W_seq ?_
  refine W_seq ?_
  refine W_region ?_
  refine WO_move ?_
  refine WO_lss ?_
  refine WO_nil ?_
  refine W_ite hm (fun hq hm => ?_) (fun hq hm => ?_)
  · refine W_seq ?_
    refine W_region ?_
    refine WO_assign ?_
    refine WO_nil ?_
    cases hm
    exact W_ret (finD1 [] (retTmp (t := 4) retNil) (.same _) (Kp.fin aKp))
  · refine W_skip ?_
    refine W_seq ?_
    refine W_region ?_
    refine WO_fieldP fa_laws_Choice_1 ?_
    refine WO_load1 sz_S_int ag_S_int ?_
    refine WO_move ?_
    refine WO_callN (run_laws_szIntS (a0 := a0.Imms) (a1 := (m_laws_szStringS a0.Ops a1))) ?_
    refine WO_assign ?_
    refine WO_nil ?_
    refine W_seq ?_
    refine W_seq ?_
    refine W_region ?_
    refine WO_move ?_
    refine WO_lss ?_
    refine WO_nil ?_
    refine W_ite hm (fun hq hm => ?_) (fun hq hm => ?_)
    · refine W_seq ?_
      refine W_region ?_
      refine WO_assign ?_
      refine WO_nil ?_
      cases hm
      exact W_ret (finD1 [] (retTmp (t := 4) retNil) (.same _) (Kp.fin aKp))
    · refine W_skip ?_
      refine W_seq ?_
      refine W_region ?_
      refine WO_move ?_
      refine WO_assign ?_
      refine WO_nil ?_
      cases hm
      exact W_ret (finD1 [] (retTmp (t := 4) retNil) (.same _) (Kp.fin aKp))

noncomputable def m_laws_toStringS_l0 : List ByteArray → Int → (List ByteArray) → Option (List ByteArray)
  | [], i1, s4 =>
    some s4
  | x3 :: zs, i1, s4 =>
    (setI s4 (i1 : Int) x3).bind fun c4 =>
    m_laws_toStringS_l0 zs (i1 + 1) c4

noncomputable def m_laws_toStringS (a0 : List ByteArray) : Option (List ByteArray) :=
  (makI (a0.length : Int) ByteArray.empty).bind fun c1 =>
  (m_laws_toStringS_l0 a0 0 c1).bind fun X1 =>
  some X1

theorem run_laws_toStringS {a0 : List ByteArray} {b0 : Bool} {R : (List ByteArray)} (hm : m_laws_toStringS a0 = some R) : Gives PG F_laws_toStringS [PV.sl b0 (a0.map S)] (PV.sl false (R.map S)) := by
  intro p h
  have hvac : ∀ k, ∃ s : St, k ≤ s.nx ∧ Fin PG Try.f79 22 p h (PV.sl false (R.map S)) .ret s := fun k => ⟨⟨fun i => if i = 2 then PV.sl false (R.map S) else default, k, h⟩, Nat.le_refl _, finD1 [] (retTmp (t := 2) retNil) (.same _) (fun _ => .inl rfl)⟩
  unfold m_laws_toStringS at hm
  refine fn_dec fn_laws_toStringS ?_
  refine W_seq ?_
  refine W_region ?_
  refine WO_assign ?_
  refine WO_nil ?_
  refine W_seq ?_
  refine W_region ?_
  refine WO_move ?_
  refine D_len sl_S_string (e := S) (xs := a0) ?_
  obtain ⟨c1, g1, hm⟩ := ob hm
  refine D_make el_S_string sz_string zo_string b3_string g1 (e := S) rfl ?_
  have hl1 := makI_len g1
  refine WO_assign ?_
  refine WO_nil ?_
  refine W_seq ?_
  refine W_seq ?_
  refine W_region ?_
  refine WO_assign ?_
  refine WO_nil ?_
  refine W_bnd 0 hvac (fun hb1 => ?_)
  rw [List.length_map] at hb1
  obtain ⟨X1, hE1, hm⟩ := ob hm
  refine W_block ?_
  refine W_loopM (α := Nat × (List ByteArray)) [4, 8, 9, 10, 11, 12, 13, 14, 15, 16, 17, 18, 19, 20] (fun a => [(4, I (a.1 : Nat))]) (fun a nx' h' => 1 ≤ nx' ∧ Kp p [] h h' ∧ a.1 ≤ a0.length ∧ (h' (p ++ [0]) = some ⟨0, 1, a.2.map S⟩) ∧ (a.2.length = c1.length ∧ c1.length ≤ LIM) ∧ m_laws_toStringS_l0 (a0.drop a.1) (a.1 : Int) a.2 = some X1) (fun a => a0.length - a.1) (0, c1) ⟨rfl, trivial⟩ ⟨aOm, aKp, Nat.zero_le _, aLk, hl1, hE1⟩ (fun a e1 nx3 h1 hI => ?_)
  obtain ⟨i1, s4⟩ := a
  obtain ⟨hn1, hk1, hi1, hr1, hl6, hE1⟩ := hI
  refine W_seq ?_
  refine W_seq ?_
  refine W_region ?_
  refine WO_move ?_
  refine WO_move ?_
  refine D_len sl_S_string (e := S) (xs := a0) ?_
  refine WO_lss ?_
  refine WO_nil ?_
  refine W_cond (fun hq => ?_) (fun hq => ?_)
  · have hlt1 : (i1 : Int) < (a0.length : Int) := dec_lt hq
    obtain ⟨x3, hx1, hd1⟩ := lt_get (xs := a0) (i := i1) (by omega)
    rw [hd1, m_laws_toStringS_l0] at hE1
    replace hx1 := getI_nat hx1
    refine W_skip ?_
    refine W_seq ?_
    refine W_block ?_
    refine W_region ?_
    refine WO_move ?_
    refine WO_move ?_
    refine WO_move ?_
    refine WO_move ?_
    refine D_index el_S_string sz_string hx1 ?_
    refine WO_loadI1 sz_string ag_string ?_
    obtain ⟨c4, g6, hE1⟩ := ob hE1
    refine D_indexW el_S_string sz_string g6 hl6 ?_
    refine D_st1R sz_string g6 (e := S) ?_
    have hl7 := setI_len g6 hl6
    refine WO_nil ?_
    refine W_region ?_
    refine WO_move ?_
    refine WO_succ ?_
    refine WO_assign ?_
    refine WO_nil ?_
    exact round ((i1 + 1), c4) ⟨rfl, trivial⟩ ⟨aOm, aKp, aOm, aLk, hl7, hE1⟩ aOm
  · have hge1 : (a0.length : Int) ≤ (i1 : Int) := dec_ge hq
    rw [drop_len (by omega), m_laws_toStringS_l0] at hE1
    refine W_exit ?_
    cases hE1
    try dsimp only at hm
    refine W_seq ?_
    refine W_region ?_
    refine WO_move ?_
    refine WO_assign ?_
    refine WO_nil ?_
    cases hm
    exact W_ret (finD1 [(p ++ [0])] (retTmp (t := 2) retNil) (FV.rowL hl6) (Kp.fin aKp))

noncomputable def m_laws_toIntS_l0 : List Int → Int → (List Int) → Option (List Int)
  | [], i1, s4 =>
    some s4
  | x3 :: zs, i1, s4 =>
    (setI s4 (i1 : Int) x3).bind fun c4 =>
    m_laws_toIntS_l0 zs (i1 + 1) c4

noncomputable def m_laws_toIntS (a0 : List Int) : Option (List Int) :=
  (makI (a0.length : Int) 0).bind fun c1 =>
  (m_laws_toIntS_l0 a0 0 c1).bind fun X1 =>
  some X1

theorem run_laws_toIntS {a0 : List Int} {b0 : Bool} {R : (List Int)} (hm : m_laws_toIntS a0 = some R) : Gives PG F_laws_toIntS [PV.sl b0 (a0.map I)] (PV.sl false (R.map I)) := by
  intro p h
  have hvac : ∀ k, ∃ s : St, k ≤ s.nx ∧ Fin PG Try.f58 22 p h (PV.sl false (R.map I)) .ret s := fun k => ⟨⟨fun i => if i = 2 then PV.sl false (R.map I) else default, k, h⟩, Nat.le_refl _, finD1 [] (retTmp (t := 2) retNil) (.same _) (fun _ => .inl rfl)⟩
  unfold m_laws_toIntS at hm
  refine fn_dec fn_laws_toIntS ?_
  refine W_seq ?_
  refine W_region ?_
  refine WO_assign ?_
  refine WO_nil ?_
  refine W_seq ?_
  refine W_region ?_
  refine WO_move ?_
  refine D_len sl_S_int (e := I) (xs := a0) ?_
  obtain ⟨c1, g1, hm⟩ := ob hm
  refine D_make el_S_int sz_int zo_int b3_int g1 (e := I) rfl ?_
  have hl1 := makI_len g1
  refine WO_assign ?_
  refine WO_nil ?_
  refine W_seq ?_
  refine W_seq ?_
  refine W_region ?_
  refine WO_assign ?_
  refine WO_nil ?_
  refine W_bnd 0 hvac (fun hb1 => ?_)
  rw [List.length_map] at hb1
  obtain ⟨X1, hE1, hm⟩ := ob hm
  refine W_block ?_
  refine W_loopM (α := Nat × (List Int)) [4, 8, 9, 10, 11, 12, 13, 14, 15, 16, 17, 18, 19, 20] (fun a => [(4, I (a.1 : Nat))]) (fun a nx' h' => 1 ≤ nx' ∧ Kp p [] h h' ∧ a.1 ≤ a0.length ∧ (h' (p ++ [0]) = some ⟨0, 1, a.2.map I⟩) ∧ (a.2.length = c1.length ∧ c1.length ≤ LIM) ∧ m_laws_toIntS_l0 (a0.drop a.1) (a.1 : Int) a.2 = some X1) (fun a => a0.length - a.1) (0, c1) ⟨rfl, trivial⟩ ⟨aOm, aKp, Nat.zero_le _, aLk, hl1, hE1⟩ (fun a e1 nx3 h1 hI => ?_)
  obtain ⟨i1, s4⟩ := a
  obtain ⟨hn1, hk1, hi1, hr1, hl6, hE1⟩ := hI
  refine W_seq ?_
  refine W_seq ?_
  refine W_region ?_
  refine WO_move ?_
  refine WO_move ?_
  refine D_len sl_S_int (e := I) (xs := a0) ?_
  refine WO_lss ?_
  refine WO_nil ?_
  refine W_cond (fun hq => ?_) (fun hq => ?_)
  · have hlt1 : (i1 : Int) < (a0.length : Int) := dec_lt hq
    obtain ⟨x3, hx1, hd1⟩ := lt_get (xs := a0) (i := i1) (by omega)
    rw [hd1, m_laws_toIntS_l0] at hE1
    replace hx1 := getI_nat hx1
    refine W_skip ?_
    refine W_seq ?_
    refine W_block ?_
    refine W_region ?_
    refine WO_move ?_
    refine WO_move ?_
    refine WO_move ?_
    refine WO_move ?_
    refine D_index el_S_int sz_int hx1 ?_
    refine WO_loadI1 sz_int ag_int ?_
    obtain ⟨c4, g6, hE1⟩ := ob hE1
    refine D_indexW el_S_int sz_int g6 hl6 ?_
    refine D_st1R sz_int g6 (e := I) ?_
    have hl7 := setI_len g6 hl6
    refine WO_nil ?_
    refine W_region ?_
    refine WO_move ?_
    refine WO_succ ?_
    refine WO_assign ?_
    refine WO_nil ?_
    exact round ((i1 + 1), c4) ⟨rfl, trivial⟩ ⟨aOm, aKp, aOm, aLk, hl7, hE1⟩ aOm
  · have hge1 : (a0.length : Int) ≤ (i1 : Int) := dec_ge hq
    rw [drop_len (by omega), m_laws_toIntS_l0] at hE1
    refine W_exit ?_
    cases hE1
    try dsimp only at hm
    refine W_seq ?_
    refine W_region ?_
    refine WO_move ?_
    refine WO_assign ?_
    refine WO_nil ?_
    cases hm
    exact W_ret (finD1 [(p ++ [0])] (retTmp (t := 2) retNil) (FV.rowL hl6) (Kp.fin aKp))

noncomputable def m_laws_toChoice (a0 : GChoice) : Option GChoice :=
  (m_laws_toStringS a0.Ops).bind fun x1 =>
  (m_laws_toIntS a0.Imms).bind fun x2 =>
  some (⟨x1, x2⟩ : GChoice)

theorem run_laws_toChoice {a0 : GChoice} {R : GChoice} (hm : m_laws_toChoice a0 = some R) : Gives PG F_laws_toChoice [eGChoice a0] (eGChoice R) := by
  intro p h
  unfold m_laws_toChoice at hm
  refine fn_dec fn_laws_toChoice ?_
  refine W_seq ?_
  refine W_region ?_
  refine WO_box sz_laws_Choice ?_
  refine WO_alloc sz_impl_Choice zo_impl_Choice ?_
  refine WO_nil ?_
  refine W_seq ?_
  refine W_region ?_
  refine WO_alloc sz_impl_Choice zo_impl_Choice ?_
  refine WO_nil ?_
  refine W_seq ?_
  refine W_region ?_
  refine WO_fieldP fa_laws_Choice_0 ?_
  refine WO_load1 sz_S_string ag_S_string ?_
  obtain ⟨x1, g1, hm⟩ := ob hm
  refine WO_callN (run_laws_toStringS g1) ?_
  refine WO_fieldP fa_impl_Choice_0 ?_
  refine WO_store sz_S_string ?_
  refine WO_nil ?_
  refine W_seq ?_
  refine W_region ?_
  refine WO_fieldP fa_laws_Choice_1 ?_
  refine WO_load1 sz_S_int ag_S_int ?_
  obtain ⟨x2, g2, hm⟩ := ob hm
  refine WO_callN (run_laws_toIntS g2) ?_
  refine WO_fieldP fa_impl_Choice_1 ?_
  refine WO_store sz_S_int ?_
  refine WO_nil ?_
  refine W_seq ?_
  refine W_region ?_
  refine WO_loadS sz_impl_Choice ag_impl_Choice ?_
  refine WO_store sz_impl_Choice ?_
  refine WO_nil ?_
  cases hm
  exact W_ret (finD1 [] (retCell (a := 2) sz_impl_Choice ag_impl_Choice retNil) (.agg _ _ (.cons _ _ _ _ .lo (.cons _ _ _ _ .lo .nil))) (Kp.fin aKp))

noncomputable def m_spec_l1In (a0 : Int) (a1 : Int) (a2 : Int) : Bool :=
  bd (((decide (a0 ≥ a1)) && (decide (a0 ≤ a2)))) fun X1 =>
  X1

theorem run_spec_l1In {a0 : Int} {a1 : Int} {a2 : Int} : Gives PG F_spec_l1In [I a0, I a1, I a2] (B (m_spec_l1In a0 a1 a2)) := by
  intro p h
  generalize hm : m_spec_l1In a0 a1 a2 = R
  unfold m_spec_l1In at hm
  refine fn_dec fn_spec_l1In ?_
  refine W_seq ?_
  refine W_region ?_
  refine WO_assign ?_
  refine WO_nil ?_
  refine W_seq ?_
  obtain ⟨X1, hE1, hm⟩ := obd hm
  refine W_joinH (γ := Unit) [6, 7, 8, 9, 10, 11, 12, 13, 14] (fun b => [(6, B X1)]) ?_ ?_
  · refine W_region ?_
    refine WO_move ?_
    refine WO_move ?_
    refine WO_geq ?_
    refine WO_move ?_
    refine WO_iand 10 hE1 (fun hq hE1 => ?_) (fun hq hE1 => ?_)
    · refine WO_move ?_
      refine WO_move ?_
      refine WO_leq ?_
      refine WO_pick ?_
      refine WO_assign ?_
      refine WO_nil ?_
      cases hE1
      exact metH () ⟨rfl, trivial⟩ aOm
    · refine WO_skip ?_
      refine WO_skip ?_
      refine WO_skip ?_
      refine WO_pick ?_
      refine WO_assign ?_
      refine WO_nil ?_
      cases hE1
      exact metH () ⟨rfl, trivial⟩ aOm
  · intro bb1 e1 nx1 hn1
    cases hm
    exact W_ret (finD1 [] (retTmp (t := 6) retNil) (.same _) (Kp.fin aKp))

noncomputable def m_spec_l1All_l0 (a1 : Int) (a2 : Int) : List Int → Bool
  | [] =>
    true
  | x3 :: zs =>
    if (!(m_spec_l1In x3 a1 a2)) then
      false
    else
      m_spec_l1All_l0 a1 a2 zs

noncomputable def m_spec_l1All (a0 : List Int) (a1 : Int) (a2 : Int) : Bool :=
  m_spec_l1All_l0 a1 a2 a0

theorem run_spec_l1All {a0 : List Int} {b0 : Bool} {a1 : Int} {a2 : Int} : Gives PG F_spec_l1All [PV.sl b0 (a0.map I), I a1, I a2] (B (m_spec_l1All a0 a1 a2)) := by
  intro p h
  generalize hm : m_spec_l1All a0 a1 a2 = R
  have hvac : ∀ k, ∃ s : St, k ≤ s.nx ∧ Fin PG Try.f119 21 p h (B R) .ret s := fun k => ⟨⟨fun i => if i = 6 then B R else default, k, h⟩, Nat.le_refl _, finD1 [] (retTmp (t := 6) retNil) (.same _) (fun _ => .inl rfl)⟩
  unfold m_spec_l1All at hm
  refine fn_dec fn_spec_l1All ?_
  refine W_seq ?_
  refine W_region ?_
  refine WO_assign ?_
  refine WO_nil ?_
  refine W_seq ?_
  refine W_seq ?_
  refine W_region ?_
  refine WO_move ?_
  refine D_len sl_S_int (e := I) (xs := a0) ?_
  refine WO_move ?_
  refine WO_nil ?_
  refine W_bnd 9 hvac (fun hb1 => ?_)
  rw [List.length_map] at hb1
  refine W_block ?_
  refine W_loopM (α := Nat) [6, 8, 11, 12, 13, 14, 15, 16, 17, 18, 19, 20] (fun a => [(11, I (a : Nat))]) (fun a nx' h' => 0 ≤ nx' ∧ Kp p [] h h' ∧ a ≤ a0.length ∧ m_spec_l1All_l0 a1 a2 (a0.drop a) = R) (fun a => a0.length - a) 0 ⟨rfl, trivial⟩ ⟨aOm, aKp, Nat.zero_le _, hm⟩ (fun i1 e1 nx3 h1 hI => ?_)
  obtain ⟨hn1, hk1, hi1, hm⟩ := hI
  refine W_seq ?_
  refine W_region ?_
  refine WO_lss ?_
  refine WO_nil ?_
  refine W_seq ?_
  refine W_cond (fun hq => ?_) (fun hq => ?_)
  · have hlt1 : (i1 : Int) < (a0.length : Int) := dec_lt hq
    obtain ⟨x3, hx1, hd1⟩ := lt_get (xs := a0) (i := i1) (by omega)
    rw [hd1, m_spec_l1All_l0] at hm
    replace hx1 := getI_nat hx1
    refine W_skip ?_
    refine W_seq ?_
    refine W_block ?_
    refine W_seq ?_
    refine W_region ?_
    refine D_index el_S_int sz_int hx1 ?_
    refine WO_loadI1 sz_int ag_int ?_
    refine WO_assign ?_
    refine WO_nil ?_
    refine W_seq ?_
    refine W_region ?_
    refine WO_move ?_
    refine WO_move ?_
    refine WO_move ?_
    refine WO_callN (run_spec_l1In (a0 := x3) (a1 := a1) (a2 := a2)) ?_
    refine WO_not ?_
    refine WO_nil ?_
    refine W_ite hm (fun hq hm => ?_) (fun hq hm => ?_)
    · refine W_seq ?_
      refine W_region ?_
      refine WO_assign ?_
      refine WO_nil ?_
      cases hm
      exact W_ret (finD1 [] (retTmp (t := 6) retNil) (.same _) (Kp.fin aKp))
    · refine W_skip ?_
      refine W_region ?_
      refine WO_succ ?_
      refine WO_move ?_
      refine WO_nil ?_
      exact round (i1 + 1) ⟨rfl, trivial⟩ ⟨aOm, aKp, aOm, hm⟩ aOm
  · have hge1 : (a0.length : Int) ≤ (i1 : Int) := dec_ge hq
    rw [drop_len (by omega), m_spec_l1All_l0] at hm
    refine W_exit ?_
    refine W_seq ?_
    refine W_region ?_
    refine WO_assign ?_
    refine WO_nil ?_
    cases hm
    exact W_ret (finD1 [] (retTmp (t := 6) retNil) (.same _) (Kp.fin aKp))

noncomputable def m_spec_cdShape (a0 : ByteArray) : Bool × Bool × Bool × Int × Int :=
  if (decide (a0 = (⟨#[115, 101, 116]⟩ : ByteArray))) then
    (true, false, false, 0, 63)
  else
    bd (if (decide (a0 = (⟨#[109, 111, 118]⟩ : ByteArray))) then
        (decide (a0 = (⟨#[109, 111, 118]⟩ : ByteArray)))
      else
        if (decide (a0 = (⟨#[110, 111, 116]⟩ : ByteArray))) then
          (decide (a0 = (⟨#[110, 111, 116]⟩ : ByteArray)))
        else
          (decide (a0 = (⟨#[110, 101, 103]⟩ : ByteArray)))) fun X1 =>
    if X1 then
      (true, true, false, 0, 0)
    else
      bd (if (decide (a0 = (⟨#[97, 100, 100]⟩ : ByteArray))) then
          (decide (a0 = (⟨#[97, 100, 100]⟩ : ByteArray)))
        else
          if (decide (a0 = (⟨#[115, 117, 98]⟩ : ByteArray))) then
            (decide (a0 = (⟨#[115, 117, 98]⟩ : ByteArray)))
          else
            if (decide (a0 = (⟨#[97, 110, 100]⟩ : ByteArray))) then
              (decide (a0 = (⟨#[97, 110, 100]⟩ : ByteArray)))
            else
              if (decide (a0 = (⟨#[111, 114]⟩ : ByteArray))) then
                (decide (a0 = (⟨#[111, 114]⟩ : ByteArray)))
              else
                if (decide (a0 = (⟨#[120, 111, 114]⟩ : ByteArray))) then
                  (decide (a0 = (⟨#[120, 111, 114]⟩ : ByteArray)))
                else
                  if (decide (a0 = (⟨#[115, 104, 108]⟩ : ByteArray))) then
                    (decide (a0 = (⟨#[115, 104, 108]⟩ : ByteArray)))
                  else
                    if (decide (a0 = (⟨#[115, 104, 114]⟩ : ByteArray))) then
                      (decide (a0 = (⟨#[115, 104, 114]⟩ : ByteArray)))
                    else
                      if (decide (a0 = (⟨#[108, 101, 115, 115]⟩ : ByteArray))) then
                        (decide (a0 = (⟨#[108, 101, 115, 115]⟩ : ByteArray)))
                      else
                        if (decide (a0 = (⟨#[101, 113]⟩ : ByteArray))) then
                          (decide (a0 = (⟨#[101, 113]⟩ : ByteArray)))
                        else
                          (decide (a0 = (⟨#[109, 117, 108]⟩ : ByteArray)))) fun X2 =>
      if X2 then
        (true, true, true, 0, 0)
      else
        bd (if (decide (a0 = (⟨#[97, 100, 100, 105]⟩ : ByteArray))) then
            (decide (a0 = (⟨#[97, 100, 100, 105]⟩ : ByteArray)))
          else
            if (decide (a0 = (⟨#[97, 110, 100, 105]⟩ : ByteArray))) then
              (decide (a0 = (⟨#[97, 110, 100, 105]⟩ : ByteArray)))
            else
              (decide (a0 = (⟨#[120, 111, 114, 105]⟩ : ByteArray)))) fun X3 =>
        if X3 then
          (true, true, false, 0, 63)
        else
          bd (if (decide (a0 = (⟨#[115, 104, 108, 105]⟩ : ByteArray))) then
              (decide (a0 = (⟨#[115, 104, 108, 105]⟩ : ByteArray)))
            else
              (decide (a0 = (⟨#[115, 104, 114, 105]⟩ : ByteArray)))) fun X4 =>
          if X4 then
            (true, true, false, 1, 5)
          else
            if (decide (a0 = (⟨#[108, 101, 97]⟩ : ByteArray))) then
              (true, true, true, 1, 3)
            else
              (false, false, false, 0, 0)

theorem run_spec_cdShape {a0 : ByteArray} : Gives PG F_spec_cdShape [S a0] (.tup [B ((m_spec_cdShape a0).1), B ((m_spec_cdShape a0).2.1), B ((m_spec_cdShape a0).2.2.1), I ((m_spec_cdShape a0).2.2.2.1), I ((m_spec_cdShape a0).2.2.2.2)]) := by
  intro p h
  generalize hm : m_spec_cdShape a0 = R
  unfold m_spec_cdShape at hm
  refine fn_dec fn_spec_cdShape ?_
  refine W_seq ?_
  refine W_region ?_
  refine WO_assign ?_
  refine WO_assign ?_
  refine WO_assign ?_
  refine WO_assign ?_
  refine WO_assign ?_
  refine WO_nil ?_
  refine W_seq ?_
  refine W_seq ?_
  refine W_region ?_
  refine WO_move ?_
  refine WO_nil ?_
  refine W_block ?_
  refine W_seq ?_
  refine W_region ?_
  refine WO_eqlS ?_
  refine WO_assign ?_
  refine WO_nil ?_
  refine W_ite hm (fun hq hm => ?_) (fun hq hm => ?_)
  · refine W_seq ?_
    refine W_region ?_
    refine WO_assign ?_
    refine WO_assign ?_
    refine WO_assign ?_
    refine WO_assign ?_
    refine WO_assign ?_
    refine WO_nil ?_
    cases hm
    exact W_ret (finD [] (retTmp (t := 2) (retTmp (t := 3) (retTmp (t := 4) (retTmp (t := 5) (retTmp (t := 6) retNil))))) (.cons _ _ _ _ (.same _) (.cons _ _ _ _ (.same _) (.cons _ _ _ _ (.same _) (.cons _ _ _ _ (.same _) (.cons _ _ _ _ (.same _) .nil))))) (Kp.fin aKp))
  · refine W_seq ?_
    refine W_seq ?_
    refine W_region ?_
    refine WO_eqlS ?_
    refine WO_assign ?_
    refine WO_nil ?_
    obtain ⟨X1, hE1, hm⟩ := obd hm
    refine W_joinH (γ := Unit) [10, 12, 13] (fun b => [(10, B X1)]) ?_ ?_
    · refine W_ite hE1 (fun hq hE1 => ?_) (fun hq hE1 => ?_)
      · refine W_skip ?_
        cases hE1
        exact metH () ⟨rfl, trivial⟩ aOm
      · refine W_seq ?_
        refine W_region ?_
        refine WO_eqlS ?_
        refine WO_assign ?_
        refine WO_nil ?_
        refine W_ite hE1 (fun hq hE1 => ?_) (fun hq hE1 => ?_)
        · refine W_skip ?_
          cases hE1
          exact metH () ⟨rfl, trivial⟩ aOm
        · refine W_region ?_
          refine WO_eqlS ?_
          refine WO_assign ?_
          refine WO_nil ?_
          cases hE1
          exact metH () ⟨rfl, trivial⟩ aOm
    · intro bb1 e1 nx1 hn1
      refine W_ite hm (fun hq hm => ?_) (fun hq hm => ?_)
      · refine W_seq ?_
        refine W_region ?_
        refine WO_assign ?_
        refine WO_assign ?_
        refine WO_assign ?_
        refine WO_assign ?_
        refine WO_assign ?_
        refine WO_nil ?_
        cases hm
        exact W_ret (finD [] (retTmp (t := 2) (retTmp (t := 3) (retTmp (t := 4) (retTmp (t := 5) (retTmp (t := 6) retNil))))) (.cons _ _ _ _ (.same _) (.cons _ _ _ _ (.same _) (.cons _ _ _ _ (.same _) (.cons _ _ _ _ (.same _) (.cons _ _ _ _ (.same _) .nil))))) (Kp.fin aKp))
      · refine W_seq ?_
        refine W_seq ?_
        refine W_region ?_
        refine WO_eqlS ?_
        refine WO_assign ?_
        refine WO_nil ?_
        obtain ⟨X2, hE2, hm⟩ := obd hm
        refine W_joinH (γ := Unit) [14, 16, 17, 18, 19, 20, 21, 22, 23, 24] (fun b => [(14, B X2)]) ?_ ?_
        · refine W_ite hE2 (fun hq hE2 => ?_) (fun hq hE2 => ?_)
          · refine W_skip ?_
            cases hE2
            exact metH () ⟨rfl, trivial⟩ aOm
          · refine W_seq ?_
            refine W_region ?_
            refine WO_eqlS ?_
            refine WO_assign ?_
            refine WO_nil ?_
            refine W_ite hE2 (fun hq hE2 => ?_) (fun hq hE2 => ?_)
            · refine W_skip ?_
              cases hE2
              exact metH () ⟨rfl, trivial⟩ aOm
            · refine W_seq ?_
              refine W_region ?_
              refine WO_eqlS ?_
              refine WO_assign ?_
              refine WO_nil ?_
              refine W_ite hE2 (fun hq hE2 => ?_) (fun hq hE2 => ?_)
              · refine W_skip ?_
                cases hE2
                exact metH () ⟨rfl, trivial⟩ aOm
              · refine W_seq ?_
                refine W_region ?_
                refine WO_eqlS ?_
                refine WO_assign ?_
                refine WO_nil ?_
                refine W_ite hE2 (fun hq hE2 => ?_) (fun hq hE2 => ?_)
                · refine W_skip ?_
                  cases hE2
                  exact metH () ⟨rfl, trivial⟩ aOm
                · refine W_seq ?_
                  refine W_region ?_
                  refine WO_eqlS ?_
                  refine WO_assign ?_
                  refine WO_nil ?_
                  refine W_ite hE2 (fun hq hE2 => ?_) (fun hq hE2 => ?_)
                  · refine W_skip ?_
                    cases hE2
                    exact metH () ⟨rfl, trivial⟩ aOm
                  · refine W_seq ?_
                    refine W_region ?_
                    refine WO_eqlS ?_
                    refine WO_assign ?_
                    refine WO_nil ?_
                    refine W_ite hE2 (fun hq hE2 => ?_) (fun hq hE2 => ?_)
                    · refine W_skip ?_
                      cases hE2
                      exact metH () ⟨rfl, trivial⟩ aOm
                    · refine W_seq ?_
                      refine W_region ?_
                      refine WO_eqlS ?_
                      refine WO_assign ?_
                      refine WO_nil ?_
                      refine W_ite hE2 (fun hq hE2 => ?_) (fun hq hE2 => ?_)
                      · refine W_skip ?_
                        cases hE2
                        exact metH () ⟨rfl, trivial⟩ aOm
                      · refine W_seq ?_
                        refine W_region ?_
                        refine WO_eqlS ?_
                        refine WO_assign ?_
                        refine WO_nil ?_
                        refine W_ite hE2 (fun hq hE2 => ?_) (fun hq hE2 => ?_)
                        · refine W_skip ?_
                          cases hE2
                          exact metH () ⟨rfl, trivial⟩ aOm
                        · refine W_seq ?_
                          refine W_region ?_
                          refine WO_eqlS ?_
                          refine WO_assign ?_
                          refine WO_nil ?_
                          refine W_ite hE2 (fun hq hE2 => ?_) (fun hq hE2 => ?_)
                          · refine W_skip ?_
                            cases hE2
                            exact metH () ⟨rfl, trivial⟩ aOm
                          · refine W_region ?_
                            refine WO_eqlS ?_
                            refine WO_assign ?_
                            refine WO_nil ?_
                            cases hE2
                            exact metH () ⟨rfl, trivial⟩ aOm
        · intro bb2 e2 nx2 hn2
          refine W_ite hm (fun hq hm => ?_) (fun hq hm => ?_)
          · refine W_seq ?_
            refine W_region ?_
            refine WO_assign ?_
            refine WO_assign ?_
            refine WO_assign ?_
            refine WO_assign ?_
            refine WO_assign ?_
            refine WO_nil ?_
            cases hm
            exact W_ret (finD [] (retTmp (t := 2) (retTmp (t := 3) (retTmp (t := 4) (retTmp (t := 5) (retTmp (t := 6) retNil))))) (.cons _ _ _ _ (.same _) (.cons _ _ _ _ (.same _) (.cons _ _ _ _ (.same _) (.cons _ _ _ _ (.same _) (.cons _ _ _ _ (.same _) .nil))))) (Kp.fin aKp))
          · refine W_seq ?_
            refine W_seq ?_
            refine W_region ?_
            refine WO_eqlS ?_
            refine WO_assign ?_
            refine WO_nil ?_
            obtain ⟨X3, hE3, hm⟩ := obd hm
            refine W_joinH (γ := Unit) [25, 27, 28] (fun b => [(25, B X3)]) ?_ ?_
            · refine W_ite hE3 (fun hq hE3 => ?_) (fun hq hE3 => ?_)
              · refine W_skip ?_
                cases hE3
                exact metH () ⟨rfl, trivial⟩ aOm
              · refine W_seq ?_
                refine W_region ?_
                refine WO_eqlS ?_
                refine WO_assign ?_
                refine WO_nil ?_
                refine W_ite hE3 (fun hq hE3 => ?_) (fun hq hE3 => ?_)
                · refine W_skip ?_
                  cases hE3
                  exact metH () ⟨rfl, trivial⟩ aOm
                · refine W_region ?_
                  refine WO_eqlS ?_
                  refine WO_assign ?_
                  refine WO_nil ?_
                  cases hE3
                  exact metH () ⟨rfl, trivial⟩ aOm
            · intro bb3 e3 nx3 hn3
              refine W_ite hm (fun hq hm => ?_) (fun hq hm => ?_)
              · refine W_seq ?_
                refine W_region ?_
                refine WO_assign ?_
                refine WO_assign ?_
                refine WO_assign ?_
                refine WO_assign ?_
                refine WO_assign ?_
                refine WO_nil ?_
                cases hm
                exact W_ret (finD [] (retTmp (t := 2) (retTmp (t := 3) (retTmp (t := 4) (retTmp (t := 5) (retTmp (t := 6) retNil))))) (.cons _ _ _ _ (.same _) (.cons _ _ _ _ (.same _) (.cons _ _ _ _ (.same _) (.cons _ _ _ _ (.same _) (.cons _ _ _ _ (.same _) .nil))))) (Kp.fin aKp))
              · refine W_seq ?_
                refine W_seq ?_
                refine W_region ?_
                refine WO_eqlS ?_
                refine WO_assign ?_
                refine WO_nil ?_
                obtain ⟨X4, hE4, hm⟩ := obd hm
                refine W_joinH (γ := Unit) [29, 31] (fun b => [(29, B X4)]) ?_ ?_
                · refine W_ite hE4 (fun hq hE4 => ?_) (fun hq hE4 => ?_)
                  · refine W_skip ?_
                    cases hE4
                    exact metH () ⟨rfl, trivial⟩ aOm
                  · refine W_region ?_
                    refine WO_eqlS ?_
                    refine WO_assign ?_
                    refine WO_nil ?_
                    cases hE4
                    exact metH () ⟨rfl, trivial⟩ aOm
                · intro bb4 e4 nx4 hn4
                  refine W_ite hm (fun hq hm => ?_) (fun hq hm => ?_)
                  · refine W_seq ?_
                    refine W_region ?_
                    refine WO_assign ?_
                    refine WO_assign ?_
                    refine WO_assign ?_
                    refine WO_assign ?_
                    refine WO_assign ?_
                    refine WO_nil ?_
                    cases hm
                    exact W_ret (finD [] (retTmp (t := 2) (retTmp (t := 3) (retTmp (t := 4) (retTmp (t := 5) (retTmp (t := 6) retNil))))) (.cons _ _ _ _ (.same _) (.cons _ _ _ _ (.same _) (.cons _ _ _ _ (.same _) (.cons _ _ _ _ (.same _) (.cons _ _ _ _ (.same _) .nil))))) (Kp.fin aKp))
                  · refine W_seq ?_
                    refine W_region ?_
                    refine WO_eqlS ?_
                    refine WO_assign ?_
                    refine WO_nil ?_
                    refine W_ite hm (fun hq hm => ?_) (fun hq hm => ?_)
                    · refine W_seq ?_
                      refine W_region ?_
                      refine WO_assign ?_
                      refine WO_assign ?_
                      refine WO_assign ?_
                      refine WO_assign ?_
                      refine WO_assign ?_
                      refine WO_nil ?_
                      cases hm
                      exact W_ret (finD [] (retTmp (t := 2) (retTmp (t := 3) (retTmp (t := 4) (retTmp (t := 5) (retTmp (t := 6) retNil))))) (.cons _ _ _ _ (.same _) (.cons _ _ _ _ (.same _) (.cons _ _ _ _ (.same _) (.cons _ _ _ _ (.same _) (.cons _ _ _ _ (.same _) .nil))))) (Kp.fin aKp))
                    · refine W_skip ?_
                      refine W_seq ?_
                      refine W_region ?_
                      refine WO_assign ?_
                      refine WO_assign ?_
                      refine WO_assign ?_
                      refine WO_assign ?_
                      refine WO_assign ?_
                      refine WO_nil ?_
                      cases hm
                      exact W_ret (finD [] (retTmp (t := 2) (retTmp (t := 3) (retTmp (t := 4) (retTmp (t := 5) (retTmp (t := 6) retNil))))) (.cons _ _ _ _ (.same _) (.cons _ _ _ _ (.same _) (.cons _ _ _ _ (.same _) (.cons _ _ _ _ (.same _) (.cons _ _ _ _ (.same _) .nil))))) (Kp.fin aKp))

noncomputable def m_spec_l1HasS_l0 (a1 : ByteArray) : List ByteArray → Bool
  | [] =>
    false
  | x3 :: zs =>
    if (decide (x3 = a1)) then
      true
    else
      m_spec_l1HasS_l0 a1 zs

noncomputable def m_spec_l1HasS (a0 : List ByteArray) (a1 : ByteArray) : Bool :=
  m_spec_l1HasS_l0 a1 a0

theorem run_spec_l1HasS {a0 : List ByteArray} {b0 : Bool} {a1 : ByteArray} : Gives PG F_spec_l1HasS [PV.sl b0 (a0.map S), S a1] (B (m_spec_l1HasS a0 a1)) := by
  intro p h
  generalize hm : m_spec_l1HasS a0 a1 = R
  have hvac : ∀ k, ∃ s : St, k ≤ s.nx ∧ Fin PG Try.f162 17 p h (B R) .ret s := fun k => ⟨⟨fun i => if i = 4 then B R else default, k, h⟩, Nat.le_refl _, finD1 [] (retTmp (t := 4) retNil) (.same _) (fun _ => .inl rfl)⟩
  unfold m_spec_l1HasS at hm
  refine fn_dec fn_spec_l1HasS ?_
  refine W_seq ?_
  refine W_region ?_
  refine WO_assign ?_
  refine WO_nil ?_
  refine W_seq ?_
  refine W_seq ?_
  refine W_region ?_
  refine WO_move ?_
  refine D_len sl_S_string (e := S) (xs := a0) ?_
  refine WO_move ?_
  refine WO_nil ?_
  refine W_bnd 7 hvac (fun hb1 => ?_)
  rw [List.length_map] at hb1
  refine W_block ?_
  refine W_loopM (α := Nat) [4, 6, 9, 10, 11, 12, 13, 14, 15, 16] (fun a => [(9, I (a : Nat))]) (fun a nx' h' => 0 ≤ nx' ∧ Kp p [] h h' ∧ a ≤ a0.length ∧ m_spec_l1HasS_l0 a1 (a0.drop a) = R) (fun a => a0.length - a) 0 ⟨rfl, trivial⟩ ⟨aOm, aKp, Nat.zero_le _, hm⟩ (fun i1 e1 nx3 h1 hI => ?_)
  obtain ⟨hn1, hk1, hi1, hm⟩ := hI
  refine W_seq ?_
  refine W_region ?_
  refine WO_lss ?_
  refine WO_nil ?_
  refine W_seq ?_
  refine W_cond (fun hq => ?_) (fun hq => ?_)
  · have hlt1 : (i1 : Int) < (a0.length : Int) := dec_lt hq
    obtain ⟨x3, hx1, hd1⟩ := lt_get (xs := a0) (i := i1) (by omega)
    rw [hd1, m_spec_l1HasS_l0] at hm
    replace hx1 := getI_nat hx1
    refine W_skip ?_
    refine W_seq ?_
    refine W_block ?_
    refine W_seq ?_
    refine W_region ?_
    refine D_index el_S_string sz_string hx1 ?_
    refine WO_loadI1 sz_string ag_string ?_
    refine WO_assign ?_
    refine WO_nil ?_
    refine W_seq ?_
    refine W_region ?_
    refine WO_move ?_
    refine WO_move ?_
    refine WO_eqlS ?_
    refine WO_nil ?_
    refine W_ite hm (fun hq hm => ?_) (fun hq hm => ?_)
    · refine W_seq ?_
      refine W_region ?_
      refine WO_assign ?_
      refine WO_nil ?_
      cases hm
      exact W_ret (finD1 [] (retTmp (t := 4) retNil) (.same _) (Kp.fin aKp))
    · refine W_skip ?_
      refine W_region ?_
      refine WO_succ ?_
      refine WO_move ?_
      refine WO_nil ?_
      exact round (i1 + 1) ⟨rfl, trivial⟩ ⟨aOm, aKp, aOm, hm⟩ aOm
  · have hge1 : (a0.length : Int) ≤ (i1 : Int) := dec_ge hq
    rw [drop_len (by omega), m_spec_l1HasS_l0] at hm
    refine W_exit ?_
    refine W_seq ?_
    refine W_region ?_
    refine WO_assign ?_
    refine WO_nil ?_
    cases hm
    exact W_ret (finD1 [] (retTmp (t := 4) retNil) (.same _) (Kp.fin aKp))

noncomputable def m_spec_cdImm (a0 : ByteArray) : Bool :=
  (m_spec_l1HasS ([(⟨#[115, 101, 116]⟩ : ByteArray), (⟨#[97, 100, 100, 105]⟩ : ByteArray), (⟨#[97, 110, 100, 105]⟩ : ByteArray), (⟨#[120, 111, 114, 105]⟩ : ByteArray), (⟨#[115, 104, 108, 105]⟩ : ByteArray), (⟨#[115, 104, 114, 105]⟩ : ByteArray), (⟨#[108, 101, 97]⟩ : ByteArray)] : List ByteArray) a0)

theorem run_spec_cdImm {a0 : ByteArray} : Gives PG F_spec_cdImm [S a0] (B (m_spec_cdImm a0)) := by
  intro p h
  generalize hm : m_spec_cdImm a0 = R
  unfold m_spec_cdImm at hm
  refine fn_dec fn_spec_cdImm ?_
  refine W_seq ?_
  refine W_region ?_
  refine WO_assign ?_
  refine WO_nil ?_
  refine W_seq ?_
  refine W_region ?_
  refine WO_buildSlice el_S_string sz_string zo_string ?_
  refine WO_move ?_
  refine WO_callN (run_spec_l1HasS (a0 := ([(⟨#[115, 101, 116]⟩ : ByteArray), (⟨#[97, 100, 100, 105]⟩ : ByteArray), (⟨#[97, 110, 100, 105]⟩ : ByteArray), (⟨#[120, 111, 114, 105]⟩ : ByteArray), (⟨#[115, 104, 108, 105]⟩ : ByteArray), (⟨#[115, 104, 114, 105]⟩ : ByteArray), (⟨#[108, 101, 97]⟩ : ByteArray)] : List ByteArray)) (a1 := a0)) ?_
  refine WO_assign ?_
  refine WO_nil ?_
  cases hm
  exact W_ret (finD1 [] (retTmp (t := 2) retNil) (.same _) (Kp.fin aKp))

noncomputable def m_spec_l1Has_l0 (a1 : Int) : List Int → Bool
  | [] =>
    false
  | x3 :: zs =>
    if (x3 == a1) then
      true
    else
      m_spec_l1Has_l0 a1 zs

noncomputable def m_spec_l1Has (a0 : List Int) (a1 : Int) : Bool :=
  m_spec_l1Has_l0 a1 a0

theorem run_spec_l1Has {a0 : List Int} {b0 : Bool} {a1 : Int} : Gives PG F_spec_l1Has [PV.sl b0 (a0.map I), I a1] (B (m_spec_l1Has a0 a1)) := by
  intro p h
  generalize hm : m_spec_l1Has a0 a1 = R
  have hvac : ∀ k, ∃ s : St, k ≤ s.nx ∧ Fin PG Try.f164 17 p h (B R) .ret s := fun k => ⟨⟨fun i => if i = 4 then B R else default, k, h⟩, Nat.le_refl _, finD1 [] (retTmp (t := 4) retNil) (.same _) (fun _ => .inl rfl)⟩
  unfold m_spec_l1Has at hm
  refine fn_dec fn_spec_l1Has ?_
  refine W_seq ?_
  refine W_region ?_
  refine WO_assign ?_
  refine WO_nil ?_
  refine W_seq ?_
  refine W_seq ?_
  refine W_region ?_
  refine WO_move ?_
  refine D_len sl_S_int (e := I) (xs := a0) ?_
  refine WO_move ?_
  refine WO_nil ?_
  refine W_bnd 7 hvac (fun hb1 => ?_)
  rw [List.length_map] at hb1
  refine W_block ?_
  refine W_loopM (α := Nat) [4, 6, 9, 10, 11, 12, 13, 14, 15, 16] (fun a => [(9, I (a : Nat))]) (fun a nx' h' => 0 ≤ nx' ∧ Kp p [] h h' ∧ a ≤ a0.length ∧ m_spec_l1Has_l0 a1 (a0.drop a) = R) (fun a => a0.length - a) 0 ⟨rfl, trivial⟩ ⟨aOm, aKp, Nat.zero_le _, hm⟩ (fun i1 e1 nx3 h1 hI => ?_)
  obtain ⟨hn1, hk1, hi1, hm⟩ := hI
  refine W_seq ?_
  refine W_region ?_
  refine WO_lss ?_
  refine WO_nil ?_
  refine W_seq ?_
  refine W_cond (fun hq => ?_) (fun hq => ?_)
  · have hlt1 : (i1 : Int) < (a0.length : Int) := dec_lt hq
    obtain ⟨x3, hx1, hd1⟩ := lt_get (xs := a0) (i := i1) (by omega)
    rw [hd1, m_spec_l1Has_l0] at hm
    replace hx1 := getI_nat hx1
    refine W_skip ?_
    refine W_seq ?_
    refine W_block ?_
    refine W_seq ?_
    refine W_region ?_
    refine D_index el_S_int sz_int hx1 ?_
    refine WO_loadI1 sz_int ag_int ?_
    refine WO_assign ?_
    refine WO_nil ?_
    refine W_seq ?_
    refine W_region ?_
    refine WO_move ?_
    refine WO_move ?_
    refine WO_eql ?_
    refine WO_nil ?_
    refine W_ite hm (fun hq hm => ?_) (fun hq hm => ?_)
    · refine W_seq ?_
      refine W_region ?_
      refine WO_assign ?_
      refine WO_nil ?_
      cases hm
      exact W_ret (finD1 [] (retTmp (t := 4) retNil) (.same _) (Kp.fin aKp))
    · refine W_skip ?_
      refine W_region ?_
      refine WO_succ ?_
      refine WO_move ?_
      refine WO_nil ?_
      exact round (i1 + 1) ⟨rfl, trivial⟩ ⟨aOm, aKp, aOm, hm⟩ aOm
  · have hge1 : (a0.length : Int) ≤ (i1 : Int) := dec_ge hq
    rw [drop_len (by omega), m_spec_l1Has_l0] at hm
    refine W_exit ?_
    refine W_seq ?_
    refine W_region ?_
    refine WO_assign ?_
    refine WO_nil ?_
    cases hm
    exact W_ret (finD1 [] (retTmp (t := 4) retNil) (.same _) (Kp.fin aKp))

noncomputable def m_spec_suGood_l1 (a0 : GChoice) : List Int → Int → Option Bool
  | [], i2 =>
    some true
  | x10 :: zs, i2 =>
    (subI a0.Imms 0 (i2 : Int)).bind fun c9 =>
    if (m_spec_l1Has c9 x10) then
      some false
    else
      m_spec_suGood_l1 a0 zs (i2 + 1)

noncomputable def m_spec_suGood_l0 (a0 : GChoice) : List ByteArray → Int → Option Bool
  | [], i1 =>
    m_spec_suGood_l1 a0 a0.Imms 0
  | x6 :: zs, i1 =>
    ((if (!(m_spec_cdShape x6).1) then some true else (subI a0.Ops 0 (i1 : Int)).bind fun c6 =>
      (if (m_spec_l1HasS c6 x6) then some true else (if (m_spec_cdImm x6) then some (!(m_spec_l1All a0.Imms ((m_spec_cdShape x6).2.2.2.1) ((m_spec_cdShape x6).2.2.2.2))) else some false)))).bind fun X4 =>
    if X4 then
      some false
    else
      m_spec_suGood_l0 a0 zs (i1 + 1)

noncomputable def m_spec_suGood (a0 : GChoice) : Option Bool :=
  bd (((!(m_spec_l1In (a0.Ops.length : Int) 1 4)) || ((decide ((a0.Imms.length : Int) > 2)) || (!(m_spec_l1All a0.Imms 0 63))))) fun X1 =>
  if X1 then
    some false
  else
    m_spec_suGood_l0 a0 a0.Ops 0

theorem run_spec_suGood {a0 : GChoice} {R : Bool} (hm : m_spec_suGood a0 = some R) : Gives PG F_spec_suGood [eGChoice a0] (B R) := by
  intro p h
  have hvac : ∀ k, ∃ s : St, k ≤ s.nx ∧ Fin PG Try.f74 83 p h (B R) .ret s := fun k => ⟨⟨fun i => if i = 2 then B R else default, k, h⟩, Nat.le_refl _, finD1 [] (retTmp (t := 2) retNil) (.same _) (fun _ => .inl rfl)⟩
  unfold m_spec_suGood at hm
  refine fn_dec fn_spec_suGood ?_
  refine W_seq ?_
  refine W_region ?_
  refine WO_box sz_impl_Choice ?_
  refine WO_assign ?_
  refine WO_nil ?_
  refine W_seq ?_
  refine W_seq ?_
  obtain ⟨X1, hE1, hm⟩ := obd hm
  refine W_joinH (γ := Unit) [12, 13, 14, 15, 16, 17, 18, 19, 20, 21, 22, 23, 24, 25, 26, 27, 28] (fun b => [(28, B X1)]) ?_ ?_
  · refine W_region ?_
    refine WO_fieldP fa_impl_Choice_0 ?_
    refine WO_load1 sz_S_string ag_S_string ?_
    refine D_len sl_S_string (e := S) (xs := a0.Ops) ?_
    refine WO_callN (run_spec_l1In (a0 := (a0.Ops.length : Int)) (a1 := 1) (a2 := 4)) ?_
    refine WO_not ?_
    refine WO_move ?_
    refine WO_ior 17 hE1 (fun hq hE1 => ?_) (fun hq hE1 => ?_)
    · refine WO_skip ?_
      refine WO_skip ?_
      refine WO_skip ?_
      refine WO_skip ?_
      refine WO_pick ?_
      refine WO_move ?_
      refine WO_skip ?_
      refine WO_skip ?_
      refine WO_skip ?_
      refine WO_skip ?_
      refine WO_pick ?_
      refine WO_nil ?_
      cases hE1
      exact metH () ⟨rfl, trivial⟩ aOm
    · refine WO_fieldP fa_impl_Choice_1 ?_
      refine WO_load1 sz_S_int ag_S_int ?_
      refine D_len sl_S_int (e := I) (xs := a0.Imms) ?_
      refine WO_gtr ?_
      refine WO_pick ?_
      refine WO_move ?_
      refine WO_ior 23 hE1 (fun hq hE1 => ?_) (fun hq hE1 => ?_)
      · refine WO_skip ?_
        refine WO_skip ?_
        refine WO_skip ?_
        refine WO_skip ?_
        refine WO_pick ?_
        refine WO_nil ?_
        cases hE1
        exact metH () ⟨rfl, trivial⟩ aOm
      · refine WO_fieldP fa_impl_Choice_1 ?_
        refine WO_load1 sz_S_int ag_S_int ?_
        refine WO_callN (run_spec_l1All (a0 := a0.Imms) (a1 := 0) (a2 := 63)) ?_
        refine WO_not ?_
        refine WO_pick ?_
        refine WO_nil ?_
        cases hE1
        exact metH () ⟨rfl, trivial⟩ aOm
  · intro bb1 e1 nx1 hn1
    refine W_ite hm (fun hq hm => ?_) (fun hq hm => ?_)
    · refine W_seq ?_
      refine W_region ?_
      refine WO_assign ?_
      refine WO_nil ?_
      cases hm
      exact W_ret (finD1 [] (retTmp (t := 2) retNil) (.same _) (Kp.fin aKp))
    · refine W_skip ?_
      refine W_seq ?_
      refine W_seq ?_
      refine W_region ?_
      refine WO_fieldP fa_impl_Choice_0 ?_
      refine WO_load1 sz_S_string ag_S_string ?_
      refine D_len sl_S_string (e := S) (xs := a0.Ops) ?_
      refine WO_move ?_
      refine WO_nil ?_
      refine W_bnd 30 hvac (fun hb1 => ?_)
      rw [List.length_map] at hb1
      refine W_block ?_
      refine W_loopM (α := Nat) (List.range' 2 8 ++ List.range' 32 36) (fun a => [(32, I (a : Nat))]) (fun a nx' h' => nx1 ≤ nx' ∧ Kp p [] h h' ∧ a ≤ a0.Ops.length ∧ (h' (p ++ [0]) = some ⟨0, 2, [eGChoice a0]⟩) ∧ m_spec_suGood_l0 a0 (a0.Ops.drop a) (a : Int) = some R) (fun a => a0.Ops.length - a) 0 ⟨rfl, trivial⟩ ⟨aOm, aKp, Nat.zero_le _, aLk, hm⟩ (fun i1 e4 nx6 h1 hI => ?_)
      obtain ⟨hn4, hk1, hi1, hr1, hm⟩ := hI
      refine W_seq ?_
      refine W_region ?_
      refine WO_lss ?_
      refine WO_nil ?_
      refine W_seq ?_
      refine W_cond (fun hq => ?_) (fun hq => ?_)
      · have hlt1 : (i1 : Int) < (a0.Ops.length : Int) := dec_lt hq
        obtain ⟨x6, hx1, hd1⟩ := lt_get (xs := a0.Ops) (i := i1) (by omega)
        rw [hd1, m_spec_suGood_l0] at hm
        replace hx1 := getI_nat hx1
        refine W_skip ?_
        refine W_seq ?_
        refine W_block ?_
        refine W_seq ?_
        refine W_region ?_
        refine WO_move ?_
        refine D_index el_S_string sz_string hx1 ?_
        refine WO_loadI1 sz_string ag_string ?_
        refine WO_assign ?_
        refine WO_assign ?_
        refine WO_nil ?_
        refine W_seq ?_
        refine W_region ?_
        refine WO_move ?_
        refine WO_callN (run_spec_cdShape (a0 := x6)) ?_
        refine WO_move ?_
        refine WO_extract ?_
        refine WO_extract ?_
        refine WO_extract ?_
        refine WO_extract ?_
        refine WO_extract ?_
        refine WO_assign ?_
        refine WO_assign ?_
        refine WO_assign ?_
        refine WO_assign ?_
        refine WO_assign ?_
        refine WO_nil ?_
        refine W_seq ?_
        obtain ⟨X4, hE4, hm⟩ := ob hm
        refine W_joinH (γ := Unit) [45, 46, 47, 48, 49, 50, 51, 52, 53, 54, 55, 56, 57, 58, 59, 60, 61, 62, 63, 64, 65, 66] (fun b => [(66, B X4)]) ?_ ?_
        · refine W_region ?_
          refine WO_move ?_
          refine WO_not ?_
          refine WO_move ?_
          refine WO_ite 47 hE4 (fun hq hE4 => ?_) (fun hq hE4 => ?_)
          · refine WO_skip ?_
            refine WO_skip ?_
            refine WO_skip ?_
            refine WO_skip ?_
            refine WO_skip ?_
            refine WO_skip ?_
            refine WO_pick ?_
            refine WO_move ?_
            refine WO_skip ?_
            refine WO_skip ?_
            refine WO_skip ?_
            refine WO_skip ?_
            refine WO_skip ?_
            refine WO_skip ?_
            refine WO_skip ?_
            refine WO_skip ?_
            refine WO_skip ?_
            refine WO_skip ?_
            refine WO_pick ?_
            refine WO_nil ?_
            cases hE4
            exact metH () ⟨rfl, trivial⟩ aOm
          · refine WO_fieldP fa_impl_Choice_0 ?_
            refine WO_load1 sz_S_string ag_S_string ?_
            refine WO_move ?_
            obtain ⟨c6, g8, hE4⟩ := ob hE4
            refine D_slice os_S_string g8 (e := S) (fun b6 => ?_)
            refine WO_move ?_
            refine WO_callN (run_spec_l1HasS (a0 := c6) (a1 := x6)) ?_
            refine WO_pick ?_
            refine WO_move ?_
            refine WO_ite 55 hE4 (fun hq hE4 => ?_) (fun hq hE4 => ?_)
            · refine WO_skip ?_
              refine WO_skip ?_
              refine WO_skip ?_
              refine WO_skip ?_
              refine WO_skip ?_
              refine WO_skip ?_
              refine WO_skip ?_
              refine WO_skip ?_
              refine WO_skip ?_
              refine WO_skip ?_
              refine WO_pick ?_
              refine WO_nil ?_
              cases hE4
              exact metH () ⟨rfl, trivial⟩ aOm
            · refine WO_move ?_
              refine WO_callN (run_spec_cdImm (a0 := x6)) ?_
              refine WO_move ?_
              refine WO_ite 58 hE4 (fun hq hE4 => ?_) (fun hq hE4 => ?_)
              · refine WO_fieldP fa_impl_Choice_1 ?_
                refine WO_load1 sz_S_int ag_S_int ?_
                refine WO_move ?_
                refine WO_move ?_
                refine WO_callN (run_spec_l1All (a0 := a0.Imms) (a1 := (m_spec_cdShape x6).2.2.2.1) (a2 := (m_spec_cdShape x6).2.2.2.2)) ?_
                refine WO_not ?_
                refine WO_pick ?_
                refine WO_pick ?_
                refine WO_nil ?_
                cases hE4
                exact metH () ⟨rfl, trivial⟩ aOm
              · refine WO_skip ?_
                refine WO_skip ?_
                refine WO_skip ?_
                refine WO_skip ?_
                refine WO_skip ?_
                refine WO_skip ?_
                refine WO_pick ?_
                refine WO_pick ?_
                refine WO_nil ?_
                cases hE4
                exact metH () ⟨rfl, trivial⟩ aOm
        · intro bb4 e5 nx7 hn5
          refine W_ite hm (fun hq hm => ?_) (fun hq hm => ?_)
          · refine W_seq ?_
            refine W_region ?_
            refine WO_assign ?_
            refine WO_nil ?_
            cases hm
            exact W_ret (finD1 [] (retTmp (t := 2) retNil) (.same _) (Kp.fin aKp))
          · refine W_skip ?_
            refine W_region ?_
            refine WO_succ ?_
            refine WO_move ?_
            refine WO_nil ?_
            exact round (i1 + 1) ⟨rfl, trivial⟩ ⟨aOm, aKp, aOm, aLk, hm⟩ aOm
      · have hge1 : (a0.Ops.length : Int) ≤ (i1 : Int) := dec_ge hq
        rw [drop_len (by omega), m_spec_suGood_l0] at hm
        refine W_exit ?_
        refine W_seq ?_
        refine W_seq ?_
        refine W_region ?_
        refine WO_fieldP fa_impl_Choice_1 ?_
        refine WO_load1 sz_S_int ag_S_int ?_
        refine D_len sl_S_int (e := I) (xs := a0.Imms) ?_
        refine WO_move ?_
        refine WO_nil ?_
        refine W_bnd 69 hvac (fun hb2 => ?_)
        rw [List.length_map] at hb2
        refine W_block ?_
        refine W_loopM (α := Nat) [2, 10, 11, 71, 72, 73, 74, 75, 76, 77, 78, 79, 80, 81, 82] (fun a => [(71, I (a : Nat))]) (fun a nx' h' => nx6 ≤ nx' ∧ Kp p [] h h' ∧ a ≤ a0.Imms.length ∧ (h' (p ++ [0]) = some ⟨0, 2, [eGChoice a0]⟩) ∧ m_spec_suGood_l1 a0 (a0.Imms.drop a) (a : Int) = some R) (fun a => a0.Imms.length - a) 0 ⟨rfl, trivial⟩ ⟨aOm, aKp, Nat.zero_le _, aLk, hm⟩ (fun i2 e6 nx10 h2 hI => ?_)
        obtain ⟨hn6, hk2, hi2, hr2, hm⟩ := hI
        refine W_seq ?_
        refine W_region ?_
        refine WO_lss ?_
        refine WO_nil ?_
        refine W_seq ?_
        refine W_cond (fun hq => ?_) (fun hq => ?_)
        · have hlt2 : (i2 : Int) < (a0.Imms.length : Int) := dec_lt hq
          obtain ⟨x10, hx2, hd2⟩ := lt_get (xs := a0.Imms) (i := i2) (by omega)
          rw [hd2, m_spec_suGood_l1] at hm
          replace hx2 := getI_nat hx2
          refine W_skip ?_
          refine W_seq ?_
          refine W_block ?_
          refine W_seq ?_
          refine W_region ?_
          refine WO_move ?_
          refine D_index el_S_int sz_int hx2 ?_
          refine WO_loadI1 sz_int ag_int ?_
          refine WO_assign ?_
          refine WO_assign ?_
          refine WO_nil ?_
          refine W_seq ?_
          refine W_region ?_
          refine WO_fieldP fa_impl_Choice_1 ?_
          refine WO_load1 sz_S_int ag_S_int ?_
          refine WO_move ?_
          obtain ⟨c9, g13, hm⟩ := ob hm
          refine D_slice os_S_int g13 (e := I) (fun b9 => ?_)
          refine WO_move ?_
          refine WO_callN (run_spec_l1Has (a0 := c9) (a1 := x10)) ?_
          refine WO_nil ?_
          refine W_ite hm (fun hq hm => ?_) (fun hq hm => ?_)
          · refine W_seq ?_
            refine W_region ?_
            refine WO_assign ?_
            refine WO_nil ?_
            cases hm
            exact W_ret (finD1 [] (retTmp (t := 2) retNil) (.same _) (Kp.fin aKp))
          · refine W_skip ?_
            refine W_region ?_
            refine WO_succ ?_
            refine WO_move ?_
            refine WO_nil ?_
            exact round (i2 + 1) ⟨rfl, trivial⟩ ⟨aOm, aKp, aOm, aLk, hm⟩ aOm
        · have hge2 : (a0.Imms.length : Int) ≤ (i2 : Int) := dec_ge hq
          rw [drop_len (by omega), m_spec_suGood_l1] at hm
          refine W_exit ?_
          refine W_seq ?_
          refine W_region ?_
          refine WO_assign ?_
          refine WO_nil ?_
          cases hm
          exact W_ret (finD1 [] (retTmp (t := 2) retNil) (.same _) (Kp.fin aKp))

noncomputable def m_spec_suRegs_l0_k (a0 : Bool) (a1 : Int) : Nat → Int → (List Int) → Option (List Int)
  | 0, _, _ => none
  | k1 + 1, s3, s4 =>
    bd ((a0 && (decide (s3 < (w64 (2 + a1)))))) fun X4 =>
    if X4 then
      (appI s4 ([s3] : List Int)).bind fun c3 =>
      m_spec_suRegs_l0_k a0 a1 k1 (w64 (s3 + 1)) c3
    else
      some s4

noncomputable def m_spec_suRegs (a0 : Bool) (a1 : Int) : Option (List Int) :=
  (limO (fun k => m_spec_suRegs_l0_k a0 a1 k 1 ([0] : List Int))).bind fun X3 =>
  some X3

theorem run_spec_suRegs {a0 : Bool} {a1 : Int} {R : (List Int)} (hm : m_spec_suRegs a0 a1 = some R) : Gives PG F_spec_suRegs [B a0, I a1] (PV.sl false (R.map I)) := by
  intro p h
  unfold m_spec_suRegs at hm
  refine fn_dec fn_spec_suRegs ?_
  refine W_seq ?_
  refine W_region ?_
  refine WO_assign ?_
  refine WO_nil ?_
  refine W_seq ?_
  refine W_region ?_
  refine WO_buildSliceR el_S_int sz_int zo_int ?_
  have hl1 : ([0] : List Int).length = 1 ∧ 1 ≤ LIM := ⟨rfl, Nat.le_of_ble_eq_true rfl⟩
  refine WO_assign ?_
  refine WO_nil ?_
  refine W_seq ?_
  refine W_seq ?_
  refine W_region ?_
  refine WO_assign ?_
  refine WO_nil ?_
  obtain ⟨X3, hE3, hm⟩ := ob hm
  obtain ⟨k1, hE3⟩ := limO_some hE3
  refine W_block ?_
  refine W_loopM (α := Nat × Int × (List Int) × Nat × Nat) [5, 6, 8, 9, 10, 11, 12, 13, 14, 15, 16, 17, 18, 19, 20] (fun a => [(5, PV.ref (p ++ [0]) a.2.2.2.1 0 a.2.2.2.2), (6, I a.2.1)]) (fun a nx' h' => 1 ≤ nx' ∧ Kp p [] h h' ∧ (h' (p ++ [0]) = some ⟨a.2.2.2.1, 1, a.2.2.1.map I⟩) ∧ (a.2.2.1.length = a.2.2.2.2 ∧ a.2.2.2.2 ≤ LIM) ∧ m_spec_suRegs_l0_k a0 a1 a.1 a.2.1 a.2.2.1 = some X3) (fun a => a.1) (k1, 1, ([0] : List Int), 0, 1) ⟨rfl, rfl, trivial⟩ ⟨aOm, aKp, aLk, hl1, hE3⟩ (fun a e3 nx5 h1 hI => ?_)
  obtain ⟨k1, s3, s4, v2, n2⟩ := a
  obtain ⟨hn3, hk1, hr1, hl5, hE3⟩ := hI
  obtain _ | k1 := k1
  · cases hE3
  rw [m_spec_suRegs_l0_k] at hE3
  refine W_seq ?_
  refine W_seq ?_
  obtain ⟨X4, hE4, hE3⟩ := obd hE3
  refine W_joinH (γ := Unit) [8, 9, 10, 11, 12, 13, 14] (fun b => [(14, B X4)]) ?_ ?_
  · refine W_region ?_
    refine WO_move ?_
    refine WO_move ?_
    refine WO_iand 9 hE4 (fun hq hE4 => ?_) (fun hq hE4 => ?_)
    · refine WO_move ?_
      refine WO_move ?_
      refine WO_add ?_
      refine WO_lss ?_
      refine WO_pick ?_
      refine WO_nil ?_
      cases hE4
      exact metH () ⟨rfl, trivial⟩ aOm
    · refine WO_skip ?_
      refine WO_skip ?_
      refine WO_skip ?_
      refine WO_skip ?_
      refine WO_pick ?_
      refine WO_nil ?_
      cases hE4
      exact metH () ⟨rfl, trivial⟩ aOm
  · intro bb3 e4 nx6 hn4
    refine W_ite hE3 (fun hq hE3 => ?_) (fun hq hE3 => ?_)
    · refine W_skip ?_
      refine W_seq ?_
      refine W_block ?_
      refine W_region ?_
      refine WO_move ?_
      refine WO_move ?_
      refine WO_buildSlice el_S_int sz_int zo_int ?_
      obtain ⟨c3, g3, hE3⟩ := ob hE3
      refine D_appR sl_S_int el_S_int sz_int zs_int bt_int g3 hl5 (e := I) ?_
      have hl6 := appI_len g3
      refine WO_assign ?_
      refine WO_nil ?_
      refine W_region ?_
      refine WO_move ?_
      refine WO_add ?_
      refine WO_assign ?_
      refine WO_nil ?_
      exact round (k1, (w64 (s3 + 1)), c3, v2 + 1, c3.length) ⟨rfl, rfl, trivial⟩ ⟨aOm, aKp, aLk, hl6, hE3⟩ aOm
    · refine W_exit ?_
      cases hE3
      try dsimp only at hm
      refine W_seq ?_
      refine W_region ?_
      refine WO_move ?_
      refine WO_assign ?_
      refine WO_nil ?_
      cases hm
      exact W_ret (finD1 [(p ++ [0])] (retTmp (t := 4) retNil) (FV.rowL hl5) (Kp.fin aKp))

noncomputable def m_spec_suImms (a0 : GChoice) (a1 : ByteArray) : (List Int) :=
  if (m_spec_cdImm a1) then
    a0.Imms
  else
    ([0] : List Int)

theorem run_spec_suImms {a0 : GChoice} {a1 : ByteArray} : Gives PG F_spec_suImms [eGChoice a0, S a1] (PV.sl false ((m_spec_suImms a0 a1).map I)) := by
  intro p h
  generalize hm : m_spec_suImms a0 a1 = R
  unfold m_spec_suImms at hm
  refine fn_dec fn_spec_suImms ?_
  refine W_seq ?_
  refine W_region ?_
  refine WO_box sz_impl_Choice ?_
  refine WO_assign ?_
  refine WO_nil ?_
  refine W_seq ?_
  refine W_seq ?_
  refine W_region ?_
  refine WO_move ?_
  refine WO_callN (run_spec_cdImm (a0 := a1)) ?_
  refine WO_nil ?_
  refine W_ite hm (fun hq hm => ?_) (fun hq hm => ?_)
  · refine W_seq ?_
    refine W_region ?_
    refine WO_fieldP fa_impl_Choice_1 ?_
    refine WO_load1 sz_S_int ag_S_int ?_
    refine WO_assign ?_
    refine WO_nil ?_
    cases hm
    exact W_ret (finD1 [] (retTmp (t := 4) retNil) .lo (Kp.fin aKp))
  · refine W_skip ?_
    refine W_seq ?_
    refine W_region ?_
    refine WO_buildSlice el_S_int sz_int zo_int ?_
    refine WO_assign ?_
    refine WO_nil ?_
    cases hm
    exact W_ret (finD1 [] (retTmp (t := 4) retNil) .lo (Kp.fin aKp))

end Go.Proofs.Ytpfdeoapnpcbaaa
