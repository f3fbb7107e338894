/-
  What is proved here: 'Run' is sound.
  Conditions: none.
-/
import Derived.Test.YtpfdeoapnpcbaaaVRun
set_option linter.unusedSectionVars false
namespace Go.Vs
set_option linter.unusedVariables false
set_option linter.unusedSimpArgs false

section
variable {P : Program} {p : Tok} {n : Nat} {ops : Array Oper}

theorem sim0 {args : List PV} {vals : Array Value} {nt : Nat} {w : World} {h : H} {ι : Tok → TI} {used : Tok → Nat → Prop} (hr : HR w h ι used) (hu : ∀ t v, used t v → ¬ p <+: t) (ha : VRs (mkK w h ι used) args vals.toList) :
    Sim p (max nt args.length) (0 ≤ ·) (env0 args) h { tmps := vals ++ Array.replicate (nt - vals.size) undef, defers := [] } w ι used where
  sz := by
    have := ha.length
    simp at this ⊢
    omega
  df := rfl
  env := by
    intro i hi
    have hl := ha.length
    rw [Array.length_toList] at hl
    unfold env0
    rw [Array.getD_eq_getD_getElem?]
    by_cases hlt : i < args.length
    · obtain ⟨y, h1, h2⟩ := ha.get (i := i) (x := args[i]) (List.getElem?_eq_getElem hlt)
      rw [List.getD_eq_getElem?_getD, List.getElem?_eq_getElem hlt]
      rw [Array.getElem?_append_left (by omega), ← Array.getElem?_toList, h1]
      exact h2
    · rw [List.getD_eq_getElem?_getD, List.getElem?_eq_none (by omega)]
      rw [Array.getElem?_append_right (by omega)]
      have : ((Array.replicate (nt - vals.size) undef)[i - vals.size]?).getD undef = undef := by
        rw [Array.getElem?_replicate]
        split <;> rfl
      rw [this]
      simp only [Option.getD_none, VR]
  hr := hr
  fr := fun t v hv m _ hp => hu t v hv (List.IsPrefix.trans (List.prefix_append _ _) hp)

/-- fewer rows at the end of a call -/
theorem less_rows {w w' : World} {h h1 h2 : H} {ι ι' : Tok → TI} {used used' : Tok → Nat → Prop} (hr : HR w h ι used) (hu : ∀ t v, used t v → ¬ p <+: t) (hr1 : HR w' h1 ι' used') (he : Evo w w' (mkK w h ι used) (mkK w' h1 ι' used'))
    (hh : ∀ t, h2 t = h1 t ∨ (p <+: t ∧ h2 t = h t)) : (∀ t r, h2 t = some r → h1 t = some r) ∧ HR w' h2 ι' used' ∧ Evo w w' (mkK w h ι used) (mkK w' h2 ι' used') := by
  have hs : ∀ t r, h2 t = some r → h1 t = some r := by
    intro t r ht
    rcases hh t with e | ⟨hp, e⟩
    · rw [← e]; exact ht
    · rw [e] at ht
      exact absurd hp (hu t r.ver (hr.us t r ht))
  exact ⟨hs, sub_hr hr1 hs, he.trans (sub_evo hr1 hs)⟩

theorem ocallL_sound {f : FuncId} {args as : List PV} {S : List (Tok × Row)} {h0 h1 : H} {r r1 : PV} {q : Tok} (hS : ∀ x ∈ S, h0 x.1 = some x.2) (hfv : FVs h0 (S.map Prod.fst) args as) (hf : FSem P f as q noH r1 h1) (hx : FX h1 r1 r)
    (h h2 : H) (w : World) (ι : Tok → TI) (used : Tok → Nat → Prop) (vals : Array Value) (happ : App (.fin S []) h h2) (hr : HR w h ι used) (hu : ∀ t v, used t v → ¬ q <+: t) (ha : VRs (mkK w h ι used) args vals.toList) :
    Calls P f vals w fun e w' => ∃ y ι' used', e = .returned y ∧ HR w' h2 ι' used' ∧ Evo w w' (mkK w h ι used) (mkK w' h2 ι' used') ∧ VR (mkK w' h2 ι' used') r y ∧ Grew q used used' := by
  obtain ⟨hrd, rfl⟩ := happ
  have hfv' : FVs h2 (S.map Prod.fst) args as := hfv.mono (fun t ht => by
    obtain ⟨x, hx, rfl⟩ := List.mem_map.1 ht
    rw [hrd x hx, hS x hx])
  have has := (FVs.sound (h2 := noH) hr (fun t r e => by cases e) (fun _ _ => rfl) hfv').1 _ ha
  refine (hf.2 w ι used vals (noH_hr hr) hu has).mono fun e w' hpost => ?_
  obtain ⟨y, ι1, used1, rfl, k1, k2, k3, k4⟩ := hpost
  obtain ⟨g1, g2⟩ := grown_hr hr k2
  refine ⟨y, ι, used, rfl, g1, g2, ?_, Grew.refl _ _⟩
  refine (FX.sound k1 (fun t r b ht hb t' r' ht' hb' => ?_) hx).1 y k3
  have hlt := hr.mt_lt ht' hb'
  obtain ⟨_, _, e, _⟩ := k2.mt b hlt ⟨t, r, ht, hb⟩
  cases e

theorem upds_nil (h : H) : upds h [] = h := rfl

theorem names_le {R : List Step} {a b : Nat} (h : Names R a b) : ∀ m, b ≤ m → ∀ s ∈ R, ¬ (s.lo ≤ m ∧ m < s.hi) := by
  intro m hm s hs hc
  have := (h.within s hs).2
  omega

theorem osem_cons {st st' : St} {i : Nat} {is : List Nat} {acts : List Action} {o : Oper} {act : Action} {v : PV} {hi : Nat} {h1 : H} (ho : ops[i]? = some o) (hle : st.nx ≤ hi) (hok : StepOk P p n ops ⟨i, st.env, act, v, st.nx, hi⟩) (happ : App act st.h h1)
    (hrest : OSem P p n ops is ⟨putE st.env o.dst v, hi, h1⟩ acts st') : OSem P p n ops (i :: is) st (act :: acts) st' := by
  obtain ⟨R, e1, e2, hR, hx, hn⟩ := hrest
  refine ⟨⟨i, st.env, act, v, st.nx, hi⟩ :: R, by rw [List.map_cons, e1], by rw [List.map_cons, e2], fun s hs => ?_, ⟨fun t _ => rfl, h1, happ, ?_⟩, ⟨rfl, hle, hn⟩⟩
  · rcases List.mem_cons.1 hs with rfl | hs
    · exact hok
    · exact hR s hs
  · have : dstOf ops i = o.dst := by simp [dstOf, ho]
    rw [this]; exact hx

theorem run_sound' {j : Judg} (hj : Run P j) : JSem P j := by
  induction hj with
  | @fn f args p h r h' func c ex st hf hb hn hrun hex hret hh ih =>
    obtain ⟨hle, hsem⟩ := CSem'.sem ih
    refine ⟨⟨func, hf, by rw [hb]; rfl, hn⟩, fun w ι used vals hr hu ha => ?_⟩
    refine calls_of_wp hf hb ?_
    have hs := sim0 (nt := func.ntmps) hr hu ha
    refine hsem _ w ι used hs _ (fun a' w' ι' used' hs' he hg => ?_)
    obtain ⟨y, hy1, hy2⟩ := run_results hs' hret
    obtain ⟨hsub, hr2, he2⟩ := less_rows hr hu hs'.hr he hh
    have key : a'.defers = [] ∧ ∃ v, (results func a'.tmps).run P w' = .ok v w' ∧ (∃ y ι2 used2, Ending.returned v = .returned y ∧ HR w' h' ι2 used2 ∧ Evo w w' (mkK w h ι used) (mkK w' h' ι2 used2) ∧ VR (mkK w' h' ι2 used2) r y ∧ Grew p used used2) :=
      ⟨hs'.df, y, hy1, y, ι', used', rfl, hr2, he2, VR.evo (sub_evo hs'.hr hsub) _ _ hy2, hg⟩
    rcases hex with rfl | rfl <;> exact key
  | @freeze f args p h r h1 S r' h' hrun hS hfv hh ih =>
    obtain ⟨h0, hsem⟩ := ih
    refine ⟨h0, fun w ι used vals hr hu ha => (hsem w ι used vals hr hu ha).mono fun e w' hpost => ?_⟩
    obtain ⟨y, ι', used', rfl, k1, k2, k3, k4⟩ := hpost
    obtain ⟨hsub, hr2, he2⟩ := less_rows (h2 := h') hr hu k1 k2 (fun t => by
      rw [hh t]
      split
      · rename_i ht; exact .inr ⟨hS t ht, rfl⟩
      · exact .inl rfl)
    refine ⟨y, ι', used', rfl, hr2, he2, (FV.sound k1 hsub (fun t ht => ?_) hfv).1 y k3, k4⟩
    have e : h' t = h t := by rw [hh t, if_pos ht]
    rw [e]
    cases hc : h t with
    | none => rfl
    | some r0 => exact absurd (hS t ht) (hu t r0.ver (hr.us t r0 hc))
  | @fnarg f args args' p h r h1 hfv hrun ih =>
    obtain ⟨h0, hsem⟩ := ih
    exact ⟨h0, fun w ι used vals hr hu ha => hsem w ι used vals hr hu ((FVs.sound hr (fun _ _ h => h) (fun t ht => by cases ht) hfv).1 _ ha)⟩
  | @cfrz p n c st ex st' S env' h' hfv hS hs hrun ih =>
    obtain ⟨hle, N, hsem⟩ := ih
    refine ⟨hle, N, fun a w ι used hsim Q hQ => ?_⟩
    have hr2 := sub_hr hsim.hr hs
    refine hsem a w ι used ⟨hsim.sz, hsim.df, fun i hi => (FV.sound hsim.hr hs hS (hfv i)).1 _ (hsim.env i hi), hr2, hsim.fr⟩ Q (fun a' w' ι' used' hs' he hg => ?_)
    exact hQ a' w' ι' used' hs' ((sub_evo hsim.hr hs).trans he) hg
  | @cabs p n c st ex st' t b xs ht he hn hle =>
    refine ⟨hle, 0, fun a w ι used hsim Q hQ => ?_⟩
    have hv := hsim.env t ht
    rw [he] at hv
    simp only [VR] at hv
    obtain ⟨_, _, _, _, _, h, _⟩ := hv
    exact absurd h hn
  | skip => exact ⟨Nat.le_refl _, 0, fun a w ι used hs Q hQ => wp_skip (hQ a w ι used hs (Evo.refl w _ rfl) (Grew.refl _ _))⟩
  | label => exact ⟨Nat.le_refl _, 0, fun a w ι used hs Q hQ => wp_label (hQ a w ι used hs (Evo.refl w _ rfl) (Grew.refl _ _))⟩
  | exit => exact ⟨Nat.le_refl _, 0, fun a w ι used hs Q hQ => wp_exit (hQ a w ι used hs (Evo.refl w _ rfl) (Grew.refl _ _))⟩
  | ret => exact ⟨Nat.le_refl _, 0, fun a w ι used hs Q hQ => wp_ret (hQ a w ι used hs (Evo.refl w _ rfl) (Grew.refl _ _))⟩
  | seq h1 h2 ih1 ih2 =>
    obtain ⟨l1, s1⟩ := CSem'.sem ih1
    obtain ⟨l2, s2⟩ := CSem'.sem ih2
    exact ⟨Nat.le_trans l1 l2, 0, fun a w ι used hs Q hQ => wp_seq (s1 a w ι used hs _ fun a1 w1 ι1 u1 hs1 he1 hg1 => s2 a1 w1 ι1 u1 hs1 Q fun a2 w2 ι2 u2 hs2 he2 hg2 => hQ a2 w2 ι2 u2 hs2 (he1.trans he2) (hg1.trans hg2))⟩
  | seqX h1 hne ih1 =>
    obtain ⟨l1, s1⟩ := CSem'.sem ih1
    exact ⟨l1, 0, fun a w ι used hs Q hQ => wp_seq (s1 a w ι used hs _ fun a1 w1 ι1 u1 hs1 he1 hg1 => then_ne hne (hQ a1 w1 ι1 u1 hs1 he1 hg1))⟩
  | cond hc h1 ih1 =>
    obtain ⟨l1, s1⟩ := CSem'.sem ih1
    refine ⟨l1, 0, fun a w ι used hs Q hQ => wp_cond ?_ (s1 a w ι used hs Q hQ)⟩
    rename_i c _ _ _ _ _ _
    have := VR.operand hs.sz hs.env c
    rw [hc] at this
    simpa [VR] using this
  | block h1 hne ih1 =>
    obtain ⟨l1, s1⟩ := CSem'.sem ih1
    exact ⟨l1, 0, fun a w ι used hs Q hQ => wp_block (s1 a w ι used hs _ fun a1 w1 ι1 u1 hs1 he1 hg1 => inBlock_ne hne (hQ a1 w1 ι1 u1 hs1 he1 hg1))⟩
  | blockX h1 ih1 =>
    obtain ⟨l1, s1⟩ := CSem'.sem ih1
    refine ⟨l1, 0, fun a w ι used hs Q hQ => wp_block (s1 a w ι used hs _ fun a1 w1 ι1 u1 hs1 he1 hg1 => ?_)⟩
    show if _ = _ then _ else _
    rw [if_pos rfl]
    exact hQ a1 w1 ι1 u1 hs1 he1 hg1
  | loop h1 h2 ih1 ih2 =>
    obtain ⟨l1, s1⟩ := CSem'.sem ih1
    obtain ⟨l2, N, s2⟩ := ih2
    exact ⟨Nat.le_trans l1 l2, N + 1, fun a w ι used hs Q hQ => s1 a w ι used hs _ fun a1 w1 ι1 u1 hs1 he1 hg1 => s2 a1 w1 ι1 u1 hs1 Q fun a2 w2 ι2 u2 hs2 he2 hg2 => hQ a2 w2 ι2 u2 hs2 (he1.trans he2) (hg1.trans hg2)⟩
  | loopX h1 hne ih1 =>
    obtain ⟨l1, s1⟩ := CSem'.sem ih1
    exact ⟨l1, 1, fun a w ι used hs Q hQ => s1 a w ι used hs _ fun a1 w1 ι1 u1 hs1 he1 hg1 => then_ne hne (hQ a1 w1 ι1 u1 hs1 he1 hg1)⟩
  | region h1 ih1 =>
    obtain ⟨R, e1, e2, hok, hx, hn⟩ := ih1
    refine ⟨hn.le, 0, fun a w ι used hs Q hQ => wp_region ?_⟩
    rw [← e1]
    exact ex_run hx hok hn.pairwise (fun s hs m h1 h2 => Nat.le_trans (hn.within s hs).1 h1) hs Q fun a' w' ι' u' hs' he hg => hQ a' w' ι' u' (hs'.weaken fun m hm => ⟨Nat.le_trans hn.le hm, names_le hn m hm⟩) he hg
  | regionD hm hA hE h1 hc ih1 =>
    obtain ⟨R, e1, e2, hok, hx, hn⟩ := ih1
    refine ⟨hn.le, 0, fun a w ι used hs Q hQ => ?_⟩
    exact region_any hm hA hE e1 e2 hc hx hok hn (fun m hm => hm) hs Q fun a' w' ι' u' hs' he hg => hQ a' w' ι' u' (hs'.weaken fun m hm => ⟨Nat.le_trans hn.le hm, names_le hn m hm⟩) he hg
  | onil => exact ⟨[], rfl, rfl, fun s hs => (by cases hs), ⟨rfl, rfl⟩, rfl⟩
  | oskip ho hw h1 ih1 => exact osem_cons ho (Nat.le_refl _) (stepOk_skip ho hw) ⟨fun x hx => (by cases hx), rfl⟩ ih1
  | oop ho hw he hrd h1 ih1 => exact osem_cons ho (Nat.le_add_right _ _) (stepOk_op ho hw he) ⟨hrd, rfl⟩ ih1
  | ocallN ho hw hop hfn hc h1 ihc ih1 =>
    obtain ⟨⟨func, f1, f2, f3⟩, _⟩ := ihc noH
    refine osem_cons ho (Nat.le_succ _) (stepOk_call (act := .fin [] []) ho hw hop hfn f1 f2 f3 (fun h h2 w ι used vals happ hr hu ha => ?_)) ⟨fun x hx => (by cases hx), rfl⟩ ih1
    obtain ⟨_, rfl⟩ := happ
    exact (ihc _).2 w ι used vals hr hu ha
  | ocallA ho hw hop hfn hc h1 ihc ih1 =>
    obtain ⟨⟨func, f1, f2, f3⟩, _⟩ := ihc noH
    refine osem_cons ho (Nat.le_succ _) (stepOk_call (act := .fin [] _) ho hw hop hfn f1 f2 f3 (fun h h2 w ι used vals happ hr hu ha => ?_)) ⟨fun x hx => (by cases hx), rfl⟩ ih1
    obtain ⟨_, rfl⟩ := happ
    exact (ihc _).2 w ι used vals hr hu ha
  | ocallX ho hw hop hfn hc h1 ihc ih1 =>
    obtain ⟨⟨func, f1, f2, f3⟩, ihc⟩ := ihc
    refine osem_cons ho (Nat.le_succ _) (stepOk_call (act := .ca _ _) ho hw hop hfn f1 f2 f3 (fun h h2 w ι used vals happ hr hu ha => ?_)) ⟨rfl, rfl⟩ ih1
    obtain ⟨rfl, rfl⟩ := happ
    exact ihc w ι used vals hr hu ha
  | ocallL ho hw hop hfn hS hfv hc hfx h1 ihc ih1 =>
    obtain ⟨⟨func, f1, f2, f3⟩, ihc'⟩ := ihc
    exact osem_cons ho (Nat.le_succ _) (stepOk_call (act := .fin _ []) ho hw hop hfn f1 f2 f3 (ocallL_sound hS hfv ⟨⟨func, f1, f2, f3⟩, ihc'⟩ hfx)) ⟨hS, rfl⟩ ih1

theorem run_sound {f : FuncId} {args : List PV} {q : Tok} {h h' : H} {r : PV} (hrun : Run P (.fn f args q h r h')) : FSem P f args q h r h' := run_sound' hrun
end
end Go.Vs
