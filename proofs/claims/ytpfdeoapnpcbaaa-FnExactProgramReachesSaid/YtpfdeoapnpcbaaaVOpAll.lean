/-
  What is proved here: each operation does in the model what 'opF' says of it.
  Conditions: none.
-/
import Derived.Test.YtpfdeoapnpcbaaaVApp
set_option linter.unusedSectionVars false
namespace Go.Vs
set_option linter.unusedVariables false
set_option linter.unusedSimpArgs false

section
variable {P : Program} {w : World} {h : H} {ι : Tok → TI} {used : Tok → Nat → Prop} {tk : Tok}

theorem VRs.map {K : Ctx} {α : Type} (l : List α) (f : α → PV) (g : α → Value) (hfg : ∀ x ∈ l, VR K (f x) (g x)) : VRs K (l.map f) (l.map g) := by
  induction l with
  | nil => simp [VRs]
  | cons x l ih =>
    simp only [List.map_cons, VRs.cons_iff]
    exact ⟨hfg x (by simp), ih fun y hy => hfg y (by simp [hy])⟩

theorem VR.alloc_ptr {w' : World} {h' : H} {ι' : Tok → TI} {used' : Tok → Nat → Prop} {b sz cap : Nat} (hu : used' tk 0) (ht : (mkK w' h' ι' used').tok tk 0 = some ⟨some b, sz, cap⟩) :
    VR (mkK w' h' ι' used') (.ptr tk 0 0 0) (.pointer (some ⟨b, 0, none⟩)) := by
  simp only [VR]
  refine ⟨hu, _, rfl, fun ti hti => ?_⟩
  rw [ht] at hti; cases hti
  exact ⟨b, rfl, by simp⟩

theorem VR.alloc_ref {w' : World} {h' : H} {ι' : Tok → TI} {used' : Tok → Nat → Prop} {b sz cap n : Nat} (hu : used' tk 0) (ht : (mkK w' h' ι' used').tok tk 0 = some ⟨some b, sz, cap⟩) (hn : n ≤ cap) :
    VR (mkK w' h' ι' used') (.ref tk 0 0 n) (.slice (some ⟨b, 0, none⟩) n cap) := by
  simp only [VR]
  refine ⟨hu, _, _, rfl, fun ti hti => ?_⟩
  rw [ht] at hti; cases hti
  exact ⟨hn, by simp, fun _ => ⟨b, rfl, by simp⟩⟩

theorem foldV_run {f : Int → Int → Int} {g : Value → Value → Sem Value} {k : IntKind} (hg : ∀ a b k', (g (.int k a) (.int k' b)) = pure (.int k (f a b))) {K : Ctx} : ∀ {l : List PV} {vs : List Value} {a r : Int}, VRs K l vs → foldV f k a l = some r →
    (vs.foldlM g (.int k a)).run P w = .ok (.int k r) w
  | [], vs, a, r, hv, he => by
    simp only [VRs.nil_iff] at hv; subst hv
    simp only [foldV] at he; cases he
    rfl
  | x :: l, vs, a, r, hv, he => by
    simp only [VRs] at hv
    obtain ⟨y, vs', rfl, hv1, hv2⟩ := hv
    unfold foldV at he
    split at he
    · rename_i e; cases e
    · rename_i k' b l' e
      cases e
      split at he
      · rename_i hk
        simp only [VR] at hv1; subst hv1
        simp only [List.foldlM_cons, hg, Sem.run_bind, Sem.run_pure, Result.andThen_ok]
        exact foldV_run hg hv2 he
      · cases he
    · cases he

set_option maxHeartbeats 2000000 in
theorem op_sound {n : Nat} {env : Nat → PV} {a : Act} {o : Oper} {hint : Option Nat} {res : Res} (hr : HR w h ι used) (hn : a.tmps.size = n) (henv : ∀ i, i < n → VR (mkK w h ι used) (env i) (a.tmps.getD i undef)) (hnu : 0 < res.al → ∀ v, ¬ used tk v)
    (he : opF P n tk hint o.op o.type env h = some res) : Out ((execOp a.eval o).run P w) w h ι used tk res := by
  have hop : ∀ x, VR (mkK w h ι used) (evO n env x) (a.eval x) := VR.operand hn henv
  have hopO : ∀ (x : Option Operand) (p : PV), x.map (evO n env) = some p → ∃ q, x.map a.eval = some q ∧ VR (mkK w h ι used) p q := by
    intro x p hx
    cases x with
    | none => cases hx
    | some x => simp at hx; subst hx; exact ⟨_, rfl, hop x⟩
  have hopN : ∀ (x : Option Operand), x.map (evO n env) = none → x.map a.eval = none := by intro x hx; cases x <;> simp_all
  have mv : ∀ (x : Operand), moveF tk hint (evO n env x) = some res → (execOp a.eval o).run P w = .ok (.value (a.eval x)) w → Out ((execOp a.eval o).run P w) w h ι used tk res := by
    intro x he hrun
    have hv := hop x
    unfold moveF at he
    cases hint with
    | none => simp only [val] at he; cases he; exact Out.pure hr hv hrun
    | some s =>
      simp only at he
      split at he
      · rename_i heq
        cases he
        rw [heq] at hv
        simp only [VR] at hv
        obtain ⟨A, c, hy, g1, g2, _⟩ := hv
        have hc : c = 0 := g2 trivial
        subst hc
        obtain ⟨k1, k2, k3⟩ := lay_none hr (hnu Nat.one_pos) s
        refine ⟨_, w, _, _, .inl hrun, k1, k2, ?_, fun t v hu => used_new t v hu⟩
        rw [hy]
        simp only [VR]
        refine ⟨Or.inr ⟨rfl, rfl⟩, A, 0, rfl, fun ti hti => ?_⟩
        rw [show upds h [(tk, ⟨0, s, []⟩)] = upd h tk ⟨0, s, []⟩ from rfl] at hti
        rw [k3] at hti; cases hti
        exact ⟨Nat.le_refl _, Nat.le_refl _, fun h => absurd rfl h⟩
      · cases he
  have lay : ∀ (arr : Array Value) (ty : TypeId) (sz cap : Nat) (xs : List PV) (v : PV) (y : Value), arr.size = cap * sz → xs.length ≤ cap → SLR (mkK w h ι used) sz arr 0 xs →
      (execOp a.eval o).run P w = .ok (.value y) (w.alloc (.cells arr ty)) → res = ⟨[], [(tk, ⟨0, sz, xs⟩)], v, 1⟩ →
      (∀ {w' : World} {h' : H} {ι' : Tok → TI} {used' : Tok → Nat → Prop}, used' tk 0 → (mkK w' h' ι' used').tok tk 0 = some ⟨some w.heap.size, sz, cap⟩ → VR (mkK w' h' ι' used') v y) →
      Out ((execOp a.eval o).run P w) w h ι used tk res := by
    intro arr ty sz cap xs v y h1 h2 h3 hrun hres hv
    subst hres
    obtain ⟨k1, k2, k3⟩ := lay_new (w' := w.alloc (.cells arr ty)) hr (hnu Nat.one_pos) arr ty sz cap xs h1 h2 h3 rfl rfl rfl rfl
    exact ⟨_, _, _, _, .inl hrun, k1, k2, hv (Or.inr ⟨rfl, rfl⟩) k3, fun t v hu => used_new t v hu⟩
  have one : ∀ (e : PV) (y : Value) (s : Nat), VR (mkK w h ι used) e y → e.cells.length = s → (∀ c ∈ e.cells, c.one = true) → y.cells.size = 1 * s ∧ SLR (mkK w h ι used) s y.cells 0 [e] := by
    intro e y s hv hl h1
    obtain ⟨c1, _⟩ := VR.cells hv h1
    have hs : y.cells.size = s := by have := c1.length; simp at this; rw [this, hl]
    refine ⟨by omega, ?_⟩
    rw [SLR_iff (by simp [hs])]
    refine ⟨fun x hx => ?_, ?_⟩
    · simp at hx; subst hx; exact ⟨hl, h1⟩
    · simp only [flat_cons, flat_nil, List.append_nil, List.drop_zero, List.length_singleton, Nat.one_mul]
      rw [List.take_of_length_le (by simp [hs])]
      exact c1
  unfold opF at he
  cases hoo : o.op with
  | move x => simp only [hoo] at he; exact mv x he (by simp only [execOp, hoo, Sem.run_pure])
  | assign x => simp only [hoo] at he; exact mv x he (by simp only [execOp, hoo, Sem.run_pure])
  | pick c x y =>
    simp only [hoo] at he
    split at he
    · rename_i q heq
      simp only [val] at he; cases he
      have hc := hop c
      rw [heq] at hc; simp only [VR] at hc
      refine Out.pure hr (y := if q then a.eval x else a.eval y) ?_ ?_
      · cases q <;> simp only [Bool.false_eq_true, if_false, if_true] <;> exact hop _
      · simp only [execOp, hoo, hc, asBool, Sem.run_bind, Sem.run_pure, Result.andThen_ok]
    · cases he
  | alloc t =>
    simp only [hoo] at he
    cases hs : szOf P t with
    | none => simp [hs] at he
    | some s =>
    cases hz : zeroOf P t with
    | none => simp [hs, hz] at he
    | some z =>
    simp only [hs, hz] at he; cases he
    obtain ⟨i, zv, hi, hzv, hzs, hz1, hze, hsz⟩ := zeroOf_iff hz
    rw [hs] at hsz; cases hsz
    obtain ⟨o1, o2⟩ := one z zv i.size (by rw [hze]; exact VR.ofV _ _) (by rw [hze, cells_ofV]; simp [hzs]) (by rw [hze]; exact ofV_ones hz1)
    refine lay zv.cells t i.size 1 [z] _ _ o1 (by simp) o2 ?_ rfl (fun hu ht => VR.alloc_ptr hu ht)
    simp only [execOp, hoo, Instr.alloc, Sem.run_bind, zeroValue, typeInfo, run_program, Result.andThen_ok, hi, hzv, Sem.run_pure, newVar, newRow, run_newObj]
    rfl
  | box t x =>
    simp only [hoo] at he
    cases hs : szOf P t with
    | none => simp [hs] at he
    | some s =>
    simp only [hs] at he
    split at he
    · rename_i hc
      cases he
      obtain ⟨o1, o2⟩ := one (evO n env x) (a.eval x) s (hop x) hc.1 (by simpa using hc.2)
      refine lay (a.eval x).cells t s 1 [evO n env x] _ _ o1 (by simp) o2 ?_ rfl (fun hu ht => VR.alloc_ptr hu ht)
      simp only [execOp, hoo, Instr.box, Sem.run_bind, newVar, newRow, run_newObj, Result.andThen_ok, Sem.run_pure]
      rfl
    · cases he
  | build t parts =>
    simp only [hoo] at he
    split at he
    · rename_i z pl hz hpl
      split at he
      · cases he
      rename_i h1
      split at he
      · rename_i cs hcs
        simp only [val] at he; cases he
        obtain ⟨v, g1, g2⟩ := out_build (parts' := parts.map fun q => (q.1, a.eval q.2)) hr hz hpl hcs (by simp [Function.comp]) (by simp only [Array.toList_map, List.map_map]; exact VRs.map _ _ _ (fun q _ => VR.lo (hop q.2))) (by
          intro q hq c hc
          obtain ⟨q0, hq0, rfl⟩ := List.mem_map.1 hq
          simp only [Bool.not_eq_false, List.all_eq_true] at h1
          exact h1 q0 hq0 c hc)
        exact Out.pure hr g2 (by simp only [execOp, hoo, Sem.run_bind, g1, Result.andThen_ok, Sem.run_pure])
      · cases he
    · cases he
  | buildSlice t len parts =>
    simp only [hoo] at he
    cases hel : slElem P t with
    | none => simp [hel] at he
    | some el =>
    simp only [hel] at he
    cases hs : szOf P el with
    | none => simp [hs] at he
    | some s =>
    cases hz : zeroOf P el with
    | none => simp [hs, hz] at he
    | some z =>
    simp only [hs, hz] at he
    split at he
    rotate_left
    · cases he
    rename_i hc
    cases hxs : elemsOver s (List.replicate len z) (parts.toList.map fun q => (q.1, (evO n env q.2).lo)) with
    | none => simp [hxs] at he
    | some xs =>
    simp only [hxs] at he
    obtain ⟨arr, f1, f2, f3, f4, f5⟩ := run_buildSlice (parts' := parts.map fun q => (q.1, a.eval q.2)) (K := mkK w h ι used) (slElem_iff hel) hs hz hc.2.2 hc.2.1 hc.1
      (by simp [Function.comp]) (by simp only [Array.toList_map, List.map_map]; exact VRs.map _ _ _ (fun q _ => VR.lo (hop q.2))) hxs w
    have hslr : SLR (mkK w h ι used) s arr 0 xs := by
      rw [SLR_iff (by rw [f4, f5]; omega)]
      refine ⟨f2, ?_⟩
      rw [List.drop_zero, List.take_of_length_le (by simp [f5, f4])]
      exact f3
    have hrun : (execOp a.eval o).run P w = .ok (.value (.slice (some ⟨w.heap.size, 0, none⟩) len len)) (w.alloc (.cells arr el)) := by
      simp only [execOp, hoo, Sem.run_bind, f1, Result.andThen_ok, Sem.run_pure]
    cases hint with
    | some q =>
      simp only at he; cases he
      exact lay arr el s len xs _ _ f5 (by rw [f4]; exact Nat.le_refl _) hslr hrun rfl (fun hu ht => VR.alloc_ref hu ht (Nat.le_refl _))
    | none =>
      simp only [val] at he; cases he
      obtain ⟨k1, k2⟩ := grow_hr (w' := w.alloc (.cells arr el)) hr (.cells arr el) rfl rfl rfl rfl
      refine ⟨_, _, _, _, .inl hrun, k1, k2, ?_, fun t v hu => .inl ⟨v, hu⟩⟩
      have hlm : xs.length ≤ maxL := by
        have : len * 1 ≤ len * s := Nat.mul_le_mul_left _ hc.2.1
        rw [f4]; unfold maxL; omega
      have := VR.sl_mk (K := mkK (w.alloc (.cells arr el)) h ι used) (t := true) (xs := xs) (A := some ⟨w.heap.size, 0, none⟩) (c := xs.length) (Nat.le_refl _) (fun _ => rfl) hlm (fun _ => by
        refine ⟨⟨w.heap.size, 0, none⟩, arr, el, (0, 0), s, rfl, rfl, ?_, ?_, ?_, SLR.evo k2 _ _ _ _ hslr⟩
        · rintro ⟨t, r, h1, h2⟩
          exact Nat.lt_irrefl _ (hr.mt_lt h1 h2)
        · show (w.heap.push (.cells arr el))[w.heap.size]? = _
          simp
        · show 0 + xs.length * s ≤ arr.size
          rw [f4, f5]; omega)
      rw [f4] at this
      exact this
  | load t x =>
    simp only [hoo] at he
    obtain ⟨z, h1, h2, h3⟩ := out_load hr (hop x) he
    obtain ⟨rd, wr, v, al⟩ := res
    simp only at h2 h3; subst h3
    exact Out.pure hr h2 (by simp only [execOp, hoo, Sem.run_bind, h1, Result.andThen_ok, Sem.run_pure])
  | store t x y =>
    simp only [hoo] at he
    exact out_store hr (hop x) (hop y) he (fun w' hw => by simp only [execOp, hoo, Sem.run_bind, hw, Result.andThen_ok, Sem.run_pure])
  | nilCheck x =>
    simp only [hoo] at he
    have hv := hop x
    split at he
    · rename_i t ver i f heq
      split at he
      · rename_i r hrow
        cases he
        rw [heq] at hv
        have hv' := hv
        simp only [VR] at hv'
        obtain ⟨_, A, hy, hvv⟩ := hv'
        obtain ⟨b, hb, rfl⟩ := hvv _ (tok_of hrow)
        exact Out.pure hr hv (by simp only [execOp, hoo, hy, Sem.run_pure])
      · cases he
    · rename_i cs heq
      simp only [val] at he; cases he
      rw [heq] at hv
      have hv' := hv
      simp only [VR] at hv'
      obtain ⟨ad, arr, ty, fr, hy, _⟩ := hv'
      exact Out.pure hr hv (by simp only [execOp, hoo, hy, Sem.run_pure])
    · rename_i f cs heq
      simp only [val] at he; cases he
      rw [heq] at hv
      have hv' := hv
      simp only [VR] at hv'
      obtain ⟨ys, hy, _⟩ := hv'
      exact Out.pure hr hv (by simp only [execOp, hoo, hy, Sem.run_pure])
    · cases he
  | binOp op t x y yt =>
    simp only [hoo] at he
    have hx := hop x
    have hy := hop y
    split at he
    · rename_i va vb e1 e2
      split at he
      · rename_i r hb
        simp only [val] at he; cases he
        rw [e1] at hx; rw [e2] at hy
        simp only [VR] at hx hy
        exact Out.pure hr (y := r) (by simp only [VR]) (by
          have := binV_run hb x y w
          simp only [execOp, hoo, hx, hy]
          rw [Sem.run_bind, this]; rfl)
      · cases he
    · rename_i as bs e1 e2
      split at he
      · rename_i hp
        rw [e1] at hx; rw [e2] at hy
        simp only [VR] at hx hy
        obtain ⟨xs, hx0, hxs⟩ := hx
        obtain ⟨ys, hy0, hys⟩ := hy
        split at he
        · rename_i r heq
          simp only [val] at he; cases he
          obtain ⟨q1, q2⟩ := aggEq_run hp hxs hys heq w
          exact Out.pure hr (y := .bool r) (by simp only [VR]) (by
            simp only [execOp, hoo, hx0, hy0, Sem.run_bind, q2, Result.andThen_ok, run_eql_struct, q1, Sem.run_pure])
        · rename_i r heq
          simp only [val] at he; cases he
          obtain ⟨q1, q2⟩ := aggEq_run hp hxs hys heq w
          exact Out.pure hr (y := .bool !r) (by simp only [VR]) (by
            simp only [execOp, hoo, hx0, hy0, Sem.run_bind, q2, Result.andThen_ok, run_neq_struct, q1, Sem.run_pure])
        · cases he
      · cases he
    · cases he
  | unOp op t x =>
    simp only [hoo] at he
    have hx := hop x
    split at he
    · rename_i va e1
      split at he
      · rename_i r hu
        simp only [val] at he; cases he
        rw [e1] at hx; simp only [VR] at hx
        exact Out.pure hr (y := r) (by simp only [VR]) (by
          have := unV_run (P := P) hu w
          simp only [execOp, hoo, hx, Sem.run_bind, this, Result.andThen_ok, Sem.run_pure])
      · cases he
    · cases he
  | convert src dst x =>
    simp only [hoo] at he
    have hx := hop x
    split at he
    · rename_i k i e1
      split at he
      · rename_i d k' hsrc hd
        simp only [val] at he; cases he
        rw [e1] at hx; simp only [VR] at hx
        have hu := intT_iff hd
        exact Out.pure hr (y := .int k' (k'.wrap i)) (by simp only [VR]) (by
          simp only [execOp, hoo, hx, convert, Sem.run_bind, run_underlying hsrc, run_underlying hu, Result.andThen_ok]
          cases d <;> simp [Conv.intToInt])
      · cases he
    · rename_i s e1
      split at he
      · rename_i hc
        simp only [val] at he; cases he
        simp only [Bool.and_eq_true] at hc
        rw [e1] at hx; simp only [VR] at hx
        have hu := isStr_iff hc.1
        obtain ⟨d, hsrc⟩ := Option.isSome_iff_exists.1 hc.2
        exact Out.pure hr (y := .string s) (by simp only [VR]) (by
          simp only [execOp, hoo, hx, convert, Sem.run_bind, run_underlying hsrc, run_underlying hu, Result.andThen_ok]
          cases d <;> simp)
      · cases he
    · cases he
  | makeFunc fn first caps =>
    cases fn with
    | func f =>
      simp only [hoo] at he
      split at he
      · rename_i hf
        simp only [val] at he; cases he
        have hf0 : first = #[] := Array.eq_empty_of_size_eq_zero hf
        subst hf0
        refine Out.pure hr (y := .func (.func f) #[] (caps.map a.eval)) ?_ (by simp only [execOp, hoo, Instr.makeFunc, Sem.run_bind, Sem.run_pure, Result.andThen_ok, Array.map_empty])
        simp only [VR]
        exact ⟨_, rfl, by rw [Array.toList_map]; exact VRs.map _ _ _ (fun q _ => hop q)⟩
      · cases he
    | _ => simp [hoo] at he
  | makeSlice t l c =>
    simp only [hoo] at he
    cases hel : slElem P t with
    | none => simp [hel] at he
    | some el =>
    simp only [hel] at he
    split at he
    · rename_i s z k i k' j hs hz e1 e2
      split at he
      · rename_i hc
        obtain ⟨rfl, rfl, h1, h2, h3, h4, h5, h6⟩ := hc
        cases he
        have hl := hop l
        have hcc := hop c
        rw [e1] at hl; rw [e2] at hcc
        simp only [VR] at hl hcc
        obtain ⟨arr, g1, g2, g3⟩ := run_makeSlice (slElem_iff hel) hs hz h6 h5 h1 h2 h3 h4 (mkK w h ι used) w
        exact lay arr el s j.toNat (List.replicate i.toNat z) _ _ g2 (by simp; omega) g3 (by simp only [execOp, hoo, hl, hcc, Sem.run_bind, g1, Result.andThen_ok, Sem.run_pure]) rfl (fun hu ht => VR.alloc_ref hu ht (by omega))
      · cases he
    · cases he
  | slice t x lo hi mx =>
    simp only [hoo] at he
    obtain ⟨z, h1, h2, h3⟩ := out_slice hr (hop x) (hopO lo) (hopN lo) (hopO hi) (hopN hi) (hopO mx) (hopN mx) he
    obtain ⟨rd, wr, v, al⟩ := res
    simp only at h2 h3; subst h3
    exact Out.pure hr h2 (by simp only [execOp, hoo, Sem.run_bind, h1, Result.andThen_ok, Sem.run_pure])
  | fieldAddr s x f =>
    simp only [hoo] at he
    cases hf : fldOf P s f with
    | none => simp [hf] at he
    | some q =>
    obtain ⟨off, ft⟩ := q
    simp only [hf] at he
    split at he
    · cases he
    rename_i hz
    obtain ⟨fs, fx, hu, hx, ho, hft⟩ := fldOf_iff hf
    obtain ⟨z, hzz, hz0⟩ : ∃ z, szOf P ft = some z ∧ z ≠ 0 := by
      cases hzq : szOf P ft with
      | none => exact absurd (Or.inl hzq) hz
      | some z => exact ⟨z, rfl, fun e => hz (Or.inr (by rw [hzq, e]))⟩
    obtain ⟨c1, c2⟩ := out_fieldAddr hr hu hx ho hft hzz hz0 (hop x)
    split at he
    · rename_i t ver i g heq
      split at he
      · rename_i r hrow
        cases he
        obtain ⟨v, g1, g2⟩ := c1 t ver i g r heq hrow
        exact Out.pure hr g2 (by simp only [execOp, hoo, Sem.run_bind, g1, Result.andThen_ok, Sem.run_pure])
      · cases he
    · rename_i cs heq
      split at he
      · rename_i hle
        simp only [val] at he; cases he
        obtain ⟨v, g1, g2⟩ := c2 cs heq hle
        exact Out.pure hr g2 (by simp only [execOp, hoo, Sem.run_bind, g1, Result.andThen_ok, Sem.run_pure])
      · cases he
    · cases he
  | field s x f =>
    simp only [hoo] at he
    cases hf : fldOf P s f with
    | none => simp [hf] at he
    | some q =>
    obtain ⟨off, ft⟩ := q
    simp only [hf] at he
    obtain ⟨fs, fx, hu, hx, ho, hft⟩ := fldOf_iff hf
    split at he
    · rename_i cs z ag heq hz ha
      have hv := hop x
      rw [heq] at hv
      simp only [VR] at hv
      obtain ⟨ys, hy, hys⟩ := hv
      have hrun : ∀ v, (part ft ys off).run P w = .ok v w → (execOp a.eval o).run P w = .ok (.value v) w := by
        intro v hp
        subst ho hft
        simp only [execOp, hoo, hy, Instr.field, Sem.run_bind, run_underlying hu, Result.andThen_ok, hx, asAgg, Sem.run_pure, hp]
      cases ag with
      | true =>
        simp only [if_true] at he
        split at he
        · simp only [val] at he; cases he
          refine Out.pure hr (y := .agg (ys.extract off (off + z))) ?_ (hrun _ ?_)
          · simp only [VR]
            exact ⟨_, rfl, by rw [Array.toList_extract, List.extract_eq_take_drop, show off + z - off = z by omega]; exact (hys.drop off).take z⟩
          · simp [part, run_isAgg' ha, run_sizeOf' hz]
        · cases he
      | false =>
        simp only [Bool.false_eq_true, if_false] at he
        split at he
        · rename_i c hc
          simp only [val] at he; cases he
          obtain ⟨v, g1, g2⟩ := hys.get hc
          refine Out.pure hr g2 (hrun _ ?_)
          rw [Array.getElem?_toList] at g1
          simp [part, run_isAgg' ha, g1]
        · cases he
    · cases he
  | indexAddr t x ix =>
    simp only [hoo] at he
    cases hel : slElem P t with
    | none => simp [hel] at he
    | some el =>
    simp only [hel] at he
    split at he
    · rename_i s k i hs hix
      have hi := hop ix
      rw [hix] at hi; simp only [VR] at hi
      have hv := hop x
      split at he
      · rename_i tt xs heq
        split at he
        · rename_i hb
          split at he
          · rename_i c hc
            split at he
            · rename_i hcl
              simp only [val] at he; cases he
              rw [heq] at hv
              obtain ⟨v, g1, g2⟩ := out_index_sl (k := k) hr (slElem_iff hel) hs hv hb.1 hb.2 hc hcl
              exact Out.pure hr g2 (by simp only [execOp, hoo, hi, Sem.run_bind, g1, Result.andThen_ok, Sem.run_pure])
            · cases he
          · cases he
        · cases he
      · rename_i t0 ver off len heq
        split at he
        · rename_i r hrow
          split at he
          · rename_i hb
            cases he
            rw [heq] at hv
            obtain ⟨v, g1, g2⟩ := out_index_ref (k := k) hr (slElem_iff hel) hs hv hrow hb.2.2 hb.1 hb.2.1
            exact Out.pure hr g2 (by simp only [execOp, hoo, hi, Sem.run_bind, g1, Result.andThen_ok, Sem.run_pure])
          · cases he
        · cases he
      · cases he
    · cases he
  | index t x ix =>
    simp only [hoo] at he
    split at he
    · rename_i s k i e1 e2
      split at he
      · rename_i hc
        split at he
        · rename_i b hb
          simp only [val] at he; cases he
          have hx := hop x
          have hi := hop ix
          rw [e1] at hx; rw [e2] at hi
          simp only [VR] at hx hi
          exact Out.pure hr (y := .int .u8 b.toNat) (by simp only [VR]) (by
            simp only [execOp, hoo, hx, hi, Instr.index, asIntOf, Sem.run_bind, Sem.run_pure, Result.andThen_ok, run_underlying (isStr_iff hc.1), if_pos hc.2, hb])
        · cases he
      · cases he
    · cases he
  | extract x i =>
    simp only [hoo] at he
    split at he
    · rename_i vs heq
      split at he
      · rename_i c hc
        simp only [val] at he; cases he
        have hx := hop x
        rw [heq] at hx
        simp only [VR] at hx
        obtain ⟨ys, hy, hys⟩ := hx
        obtain ⟨v, g1, g2⟩ := hys.get hc
        rw [Array.getElem?_toList] at g1
        exact Out.pure hr g2 (by simp only [execOp, hoo, hy, Instr.extract, g1, Sem.run_bind, Sem.run_pure, Result.andThen_ok])
      · cases he
    · cases he
  | call c =>
    obtain ⟨callee, args, ats⟩ := c
    cases callee with
    | value f => simp [hoo] at he
    | invoke f m => simp [hoo] at he
    | builtin b =>
      have hrun : ∀ v w', (match b with | .len => Builtin.len_ ats o.type (args.map a.eval) | .append => Builtin.append_ ats o.type (args.map a.eval) | .max => Builtin.max_ ats o.type (args.map a.eval) | .min => Builtin.min_ ats o.type (args.map a.eval) | _ => stuck "" : Sem Value).run P w = .ok v w' →
          (execOp a.eval o).run P w = .ok (.value v) w' := by
        intro v w' hv
        simp only [execOp, hoo, resolve, Sem.run_bind, Sem.run_pure, Result.andThen_ok, invoke]
        cases b <;> first
          | (simp at hv; done)
          | (simp only [builtin, Sem.run_bind] at hv ⊢; rw [hv]; rfl)
      have hargs : ∀ (i : Nat) (x : Operand), args[i]? = some x → (args.map a.eval)[i]? = some (a.eval x) := by intro i x hx; simp [hx]
      cases b with
      | len =>
        simp only [hoo] at he
        split at he
        · rename_i t x ht hx
          have hv := hop x
          have hl : ∀ (m : Nat) (r : Value), (∀ d, P.underlying t = some d → (match d, a.eval x with | .string, .string s => s.size = m | .slice _, .slice _ k _ => k = m | _, _ => False)) → True := fun _ _ _ => trivial
          split at he
          · rename_i s heq
            split at he
            · rename_i hs
              simp only [val] at he; cases he
              rw [heq] at hv; simp only [VR] at hv
              exact Out.pure hr (y := .int .i64 s.size) (by simp only [VR]) (hrun _ _ (by
                simp only [Builtin.len_, ht, hargs _ _ hx, hv, Sem.run_bind, run_underlying (isStr_iff hs), Result.andThen_ok, Sem.run_pure]; rfl))
            · cases he
          · rename_i tt xs heq
            split at he
            · rename_i hs
              simp only [val] at he; cases he
              rw [heq] at hv; simp only [VR] at hv
              obtain ⟨A, c, hy, _⟩ := hv
              obtain ⟨el, hu⟩ := slElem_some hs
              exact Out.pure hr (y := .int .i64 xs.length) (by simp only [VR]) (hrun _ _ (by
                simp only [Builtin.len_, ht, hargs _ _ hx, hy, Sem.run_bind, run_underlying hu, Result.andThen_ok, Sem.run_pure]; rfl))
            · cases he
          · rename_i t0 ver off len heq
            split at he
            · rename_i r hrow
              split at he
              · rename_i hs
                cases he
                rw [heq] at hv; simp only [VR] at hv
                obtain ⟨_, A, c, hy, _⟩ := hv
                obtain ⟨el, hu⟩ := slElem_some hs
                exact Out.pure hr (y := .int .i64 len) (by simp only [VR]) (hrun _ _ (by
                  simp only [Builtin.len_, ht, hargs _ _ hx, hy, Sem.run_bind, run_underlying hu, Result.andThen_ok, Sem.run_pure]; rfl))
              · cases he
            · cases he
          · cases he
        · cases he
      | append =>
        simp only [hoo] at he
        split at he
        · rename_i t t' x y ht hx
          split at he
          · rename_i hs
            have e1 : ats = #[t, t'] := by rw [← Array.toArray_toList (xs := ats), ht]
            have e2 : args = #[x, y] := by rw [← Array.toArray_toList (xs := args), hx]
            refine out_append (ty := o.type) hr hnu (hop x) (hop y) hs he (fun v w' hv => hrun _ _ ?_)
            simp only [e1, e2]
            simpa using hv
          · cases he
        · cases he
      | max =>
        simp only [hoo] at he
        split at he
        · rename_i k b l heq
          split at he
          · rename_i r hf
            simp only [val] at he; cases he
            have hm := VRs.map args.toList (evO n env) a.eval (fun x _ => hop x)
            rw [heq] at hm
            simp only [VRs] at hm
            obtain ⟨y, ys, hy, hv1, hv2⟩ := hm
            simp only [VR] at hv1; subst hv1
            exact Out.pure hr (y := .int k r) (by simp only [VR]) (hrun _ _ (by
              simp only [Builtin.max_, Array.toList_map, hy]
              exact foldV_run (fun a b k' => rfl) hv2 hf))
          · cases he
        · cases he
      | min =>
        simp only [hoo] at he
        split at he
        · rename_i k b l heq
          split at he
          · rename_i r hf
            simp only [val] at he; cases he
            have hm := VRs.map args.toList (evO n env) a.eval (fun x _ => hop x)
            rw [heq] at hm
            simp only [VRs] at hm
            obtain ⟨y, ys, hy, hv1, hv2⟩ := hm
            simp only [VR] at hv1; subst hv1
            exact Out.pure hr (y := .int k r) (by simp only [VR]) (hrun _ _ (by
              simp only [Builtin.min_, Array.toList_map, hy]
              exact foldV_run (fun a b k' => rfl) hv2 hf))
          · cases he
        · cases he
      | _ => simp [hoo] at he
  | _ => simp [hoo] at he
end
end Go.Vs
