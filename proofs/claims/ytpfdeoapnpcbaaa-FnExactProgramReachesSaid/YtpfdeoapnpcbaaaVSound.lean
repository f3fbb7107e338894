/-
  What is proved here: what 'Run' says of a call, the model's call does.
  Conditions: none.
-/
import Derived.Test.YtpfdeoapnpcbaaaVReg
set_option linter.unusedSectionVars false
namespace Go.Vs
set_option linter.unusedVariables false
set_option linter.unusedSimpArgs false

def FSem (P : Program) (f : FuncId) (args : List PV) (p : Tok) (h : H) (r : PV) (h' : H) : Prop :=
  (∃ func, P.funcs[f]? = some func ∧ func.body.isSome = true ∧ (func.name == "runtime.NumGoroutine") = false) ∧
  ∀ (w : World) (ι : Tok → TI) (used : Tok → Nat → Prop) (vals : Array Value), HR w h ι used → (∀ t v, used t v → ¬ p <+: t) → VRs (mkK w h ι used) args vals.toList →
    Calls P f vals w fun e w' => ∃ y ι' used', e = .returned y ∧ HR w' h' ι' used' ∧ Evo w w' (mkK w h ι used) (mkK w' h' ι' used') ∧ VR (mkK w' h' ι' used') r y ∧ Grew p used used'

def CSem (P : Program) (p : Tok) (n : Nat) (c : Code) (st : St) (ex : Exit) (st' : St) : Prop :=
  st.nx ≤ st'.nx ∧ ∀ (a : Act) (w : World) (ι : Tok → TI) (used : Tok → Nat → Prop), Sim p n (st.nx ≤ ·) st.env st.h a w ι used → ∀ (Q : Exit → Act → World → Prop),
    (∀ a' w' ι' used', Sim p n (st'.nx ≤ ·) st'.env st'.h a' w' ι' used' → Evo w w' (mkK w st.h ι used) (mkK w' st'.h ι' used') → Grew p used used' → Q ex a' w') → c.wp P Q a w

def OSem (P : Program) (p : Tok) (n : Nat) (ops : Array Oper) (is : List Nat) (st : St) (acts : List Action) (st' : St) : Prop :=
  ∃ R : List Step, R.map (·.i) = is ∧ R.map (·.act) = acts ∧ (∀ s ∈ R, StepOk P p n ops s) ∧ Ex ops R st.env st.h st'.env st'.h ∧ Names R st.nx st'.nx

section
variable {P : Program} {p : Tok} {n : Nat} {ops : Array Oper}

theorem VR.notBool {K : Ctx} {x : PV} {y : Value} (hv : VR K x y) : (∀ b, y = .bool b ↔ x = .v (.bool b)) := by
  intro b
  cases x with
  | v z => simp only [VR] at hv; subst hv; exact ⟨fun h => by rw [h], fun h => by cases h; rfl⟩
  | sl t xs => simp only [VR] at hv; obtain ⟨A, c, rfl, _⟩ := hv; constructor <;> intro h <;> cases h
  | ref t v o l => simp only [VR] at hv; obtain ⟨_, A, c, rfl, _⟩ := hv; constructor <;> intro h <;> cases h
  | ptr t v i f => simp only [VR] at hv; obtain ⟨_, A, rfl, _⟩ := hv; constructor <;> intro h <;> cases h
  | iptr cs => simp only [VR] at hv; obtain ⟨ad, arr, ty, fr, rfl, _⟩ := hv; constructor <;> intro h <;> cases h
  | agg cs => simp only [VR] at hv; obtain ⟨ys, rfl, _⟩ := hv; constructor <;> intro h <;> cases h
  | tup cs => simp only [VR] at hv; obtain ⟨ys, rfl, _⟩ := hv; constructor <;> intro h <;> cases h
  | clo f cs => simp only [VR] at hv; obtain ⟨ys, rfl, _⟩ := hv; constructor <;> intro h <;> cases h

theorem yield_eq {A : Nat → Prop} {env : Nat → PV} {h : H} {a : Act} {w : World} {ι : Tok → TI} {used : Tok → Nat → Prop} (hs : Sim p n A env h a w ι used) (j : Nat) : yielded ops a.tmps j = yieldE ops n env j := by
  unfold yielded yieldE
  cases hd : (ops[j]?).bind (·.dst) with
  | none => rfl
  | some d =>
    simp only [Option.bind_some]
    by_cases hlt : d < n
    · rw [if_pos hlt]
      have hv := hs.env d hlt
      have hlt' : d < a.tmps.size := by rw [hs.sz]; exact hlt
      have hg : a.tmps[d]? = some (a.tmps.getD d undef) := by simp [Array.getD, hlt']
      rw [hg]
      have hb := hv.notBool
      generalize a.tmps.getD d undef = y at hb
      generalize env d = x at hb
      by_cases hx : ∃ b, x = .v (.bool b)
      · obtain ⟨b, rfl⟩ := hx
        rw [(hb b).2 rfl]; rfl
      · have hy : ∀ b, y ≠ .bool b := fun b e => hx ⟨b, (hb b).1 e⟩
        have e2 : boolOf x = none := by
          cases x with
          | v z => cases z <;> first | rfl | exact absurd ⟨_, rfl⟩ hx
          | _ => rfl
        rw [e2]
        split
        · rename_i b e; cases e; exact absurd rfl (hy b)
        · rfl
    · rw [if_neg hlt]
      have : a.tmps[d]? = none := Array.getElem?_eq_none (by rw [hs.sz]; exact Nat.not_lt.1 hlt)
      rw [this]

theorem wanted_eq {o : Oper} {f g : Nat → Option Bool} (h : ∀ j w, o.guard = some (j, w) → f j = g j) : Region.wanted o f = Region.wanted o g := by
  unfold Region.wanted
  cases hg : o.guard with
  | none => rfl
  | some q => simp only [hg, h q.1 q.2 (by rw [hg])]

theorem looks_operand {i : Nat} {o : Oper} (ho : ops[i]? = some o) {t : Tmp} (ht : .tmp t ∈ o.op.operands) : t ∈ looks ops i := by
  simp only [looks, ho, Oper.looksAt, List.mem_append, List.mem_filterMap]
  exact .inl ⟨.tmp t, by simpa using ht, rfl⟩
theorem looks_guard {i : Nat} {o : Oper} (ho : ops[i]? = some o) {j : Nat} {b : Bool} (hg : o.guard = some (j, b)) {d : Tmp} (hd : (ops[j]?).bind (·.dst) = some d) : d ∈ looks ops i := by
  simp only [looks, ho, Oper.looksAt, List.mem_append]
  refine .inr ?_
  rw [hg]
  simp [hd]

theorem yieldE_eq {i : Nat} {o : Oper} (ho : ops[i]? = some o) {env env' : Nat → PV} (h : ∀ t ∈ looks ops i, env t = env' t) : ∀ j w, o.guard = some (j, w) → yieldE ops n env j = yieldE ops n env' j := by
  intro j b hg
  unfold yieldE
  cases hd : (ops[j]?).bind (·.dst) with
  | none => rfl
  | some d => simp only [h d (looks_guard ho hg hd)]

theorem evO_eq {i : Nat} {o : Oper} (ho : ops[i]? = some o) {env env' : Nat → PV} (h : ∀ t ∈ looks ops i, env t = env' t) : ∀ x ∈ o.op.operands, evO n env x = evO n env' x := by
  intro x hx
  cases x with
  | tmp t => simp only [evO, h t (looks_operand ho hx)]
  | _ => rfl

/-- the frame, one slot written -/
theorem put_sim {A : Nat → Prop} {env : Nat → PV} {h h' : H} {a : Act} {w w' : World} {ι ι' : Tok → TI} {used used' : Tok → Nat → Prop} (hs : Sim p n A env h a w ι used) (he : Evo w w' (mkK w h ι used) (mkK w' h' ι' used')) (hr : HR w' h' ι' used')
    {dst : Option Tmp} {v : PV} {y : Value} (hv : VR (mkK w' h' ι' used') v y) {B : Nat → Prop} (hf : ∀ t v, used' t v → ∀ m, B m → ¬ (p ++ [m]) <+: t) : Sim p n B (putE env dst v) h' (a.put dst y) w' ι' used' where
  sz := by cases dst <;> simp [Act.put, hs.sz]
  df := by cases dst <;> simp [Act.put, hs.df]
  env := by
    intro i hi
    have hold := VR.evo he _ _ (hs.env i hi)
    cases dst with
    | none => exact hold
    | some d =>
      simp only [Act.put, putE]
      by_cases hd : i = d
      · subst hd
        rw [if_pos rfl]
        have : i < a.tmps.size := by rw [hs.sz]; exact hi
        simpa [Array.getD, this] using hv
      · rw [if_neg hd, Array.getD_eq_getD_getElem?, Array.getElem?_setIfInBounds, if_neg (fun e => hd e.symm), ← Array.getD_eq_getD_getElem?]
        exact hold
  hr := hr
  fr := hf

theorem prefix_ne {p : Tok} {m m' : Nat} {t : Tok} (h1 : (p ++ [m]) <+: t) (h2 : (p ++ [m']) <+: t) : m = m' := by
  obtain ⟨s, rfl⟩ := h1
  obtain ⟨s', h⟩ := h2
  simp [List.append_assoc] at h
  exact h.1.symm

theorem stepOk_op {i : Nat} {o : Oper} {hint : Option Nat} {nx : Nat} {env : Nat → PV} {h : H} {res : Res} (ho : ops[i]? = some o) (hw : Region.wanted o (yieldE ops n env) = true) (he : opF P n (p ++ [nx]) hint o.op o.type env h = some res) :
    StepOk P p n ops ⟨i, env, .fin res.rd res.wr, res.v, nx, nx + res.al⟩ := by
  intro A env' h0 h2 a w ι used hl hs happ hA Q K hK
  obtain ⟨hrd, rfl⟩ := happ
  have hw' : Region.wanted o (yielded ops a.tmps) = true := by
    rw [← hw]; exact wanted_eq fun j b hg => by rw [yield_eq hs, yieldE_eq ho hl j b hg]
  have he' : opF P n (p ++ [nx]) hint o.op o.type env' h0 = some res := by
    rw [opF_env (env := env) (fun x hx => evO_eq ho hl x hx)]
    exact opF_heap he hrd
  simp only [wpOp, ho, hw', if_true]
  left
  have hdst : dstOf ops i = o.dst := by simp [dstOf, ho]
  have hnu : 0 < res.al → ∀ v, ¬ used (p ++ [nx]) v := fun hal v hu => hs.fr _ v hu nx (hA nx (Nat.le_refl _) (by show nx < nx + res.al; omega)) (List.prefix_refl _)
  obtain ⟨y, w', ι', used', hrun, k1, k2, k3, k4⟩ := op_sound hs.hr hs.sz hs.env hnu he'
  have hgo : K (a.put o.dst y) w' := by
    have hsim := put_sim (B := fun m => A m ∧ ¬ (nx ≤ m ∧ m < nx + res.al)) (dst := o.dst) hs k2 k1 k3 (fun t v hu m hm hp => by
      rcases k4 t v hu with ⟨v', hu'⟩ | ⟨rfl, hal⟩
      · exact hs.fr t v' hu' m hm.1 hp
      · have := prefix_ne hp (List.prefix_refl _)
        exact hm.2 ⟨by omega, by omega⟩)
    exact hK _ w' ι' used' (by rw [hdst]; exact hsim) k2 (fun t v hu => by
      rcases k4 t v hu with h | ⟨rfl, _⟩
      · exact .inl h
      · exact .inr (List.prefix_append _ _))
  unfold Oper.wp
  rcases hrun with hrun | ⟨hrun, rfl⟩ <;> rw [hrun] <;> exact hgo

theorem stepOk_skip {i : Nat} {o : Oper} {nx : Nat} {env : Nat → PV} (ho : ops[i]? = some o) (hw : Region.wanted o (yieldE ops n env) = false) :
    StepOk P p n ops ⟨i, env, .fin [] [], .v undef, nx, nx⟩ := by
  intro A env' h0 h2 a w ι used hl hs happ hA Q K hK
  obtain ⟨_, rfl⟩ := happ
  have hw' : Region.wanted o (yielded ops a.tmps) = false := by
    rw [← hw]; exact wanted_eq fun j b hg => by rw [yield_eq hs, yieldE_eq ho hl j b hg]
  simp only [wpOp, ho, hw', Bool.false_eq_true, if_false]
  have hdst : dstOf ops i = o.dst := by simp [dstOf, ho]
  refine hK _ w ι used ?_ (Evo.refl w _ rfl) (Grew.refl _ _)
  rw [hdst]
  exact put_sim hs (Evo.refl w _ rfl) hs.hr (by simp only [VR]) (fun t v hu m hm => hs.fr t v hu m hm.1)

/-- a call by a function value that is known -/
theorem run_call {o : Oper} {a : Act} {w : World} {x : Operand} {args : Array Operand} {ats : Array TypeId} {f : FuncId} {ys : Array Value} {func : Func} (hop : o.op = .call ⟨.value x, args, ats⟩) (hx : a.eval x = .func (.func f) #[] ys)
    (hf : P.funcs[f]? = some func) (hb : func.body.isSome = true) (hn : (func.name == "runtime.NumGoroutine") = false) :
    (execOp a.eval o).run P w = .ok (.enter f (args.map a.eval ++ ys)) w := by
  have hb' : func.body.isNone = false := by cases h : func.body <;> simp_all
  simp only [execOp, hop, resolve, hx, Deferred.ofValue, Sem.run_bind, Sem.run_pure, Result.andThen_ok, invoke, callFunc, run_program, hf, hn, hb', Bool.false_eq_true, if_false, Array.empty_append]

/-- what a call step owes -/
theorem stepOk_call {i : Nat} {o : Oper} {nx : Nat} {env : Nat → PV} {x : Operand} {args : Array Operand} {ats : Array TypeId} {f : FuncId} {caps : List PV} {act : Action} {r : PV} (ho : ops[i]? = some o) (hw : Region.wanted o (yieldE ops n env) = true)
    (hop : o.op = .call ⟨.value x, args, ats⟩) (hx : evO n env x = .clo f caps) {func : Func} (hf : P.funcs[f]? = some func) (hb : func.body.isSome = true) (hn : (func.name == "runtime.NumGoroutine") = false)
    (hcall : ∀ (h h2 : H) (w : World) (ι : Tok → TI) (used : Tok → Nat → Prop) (vals : Array Value), App act h h2 → HR w h ι used → (∀ t v, used t v → ¬ (p ++ [nx]) <+: t) → VRs (mkK w h ι used) (args.toList.map (evO n env) ++ caps) vals.toList →
      Calls P f vals w fun e w' => ∃ y ι' used', e = .returned y ∧ HR w' h2 ι' used' ∧ Evo w w' (mkK w h ι used) (mkK w' h2 ι' used') ∧ VR (mkK w' h2 ι' used') r y ∧ Grew (p ++ [nx]) used used') :
    StepOk P p n ops ⟨i, env, act, r, nx, nx + 1⟩ := by
  intro A env' h0 h2 a w ι used hl hs happ hA Q K hK
  have hw' : Region.wanted o (yielded ops a.tmps) = true := by
    rw [← hw]; exact wanted_eq fun j b hg => by rw [yield_eq hs, yieldE_eq ho hl j b hg]
  simp only [wpOp, ho, hw', if_true]
  left
  have hdst : dstOf ops i = o.dst := by simp [dstOf, ho]
  have hev : ∀ y ∈ o.op.operands, VR (mkK w h0 ι used) (evO n env y) (a.eval y) := by
    intro y hy
    rw [← evO_eq ho hl y hy]
    exact VR.operand hs.sz hs.env y
  have hxv := hev x (by rw [hop]; simp [Op.operands, Call.operands])
  rw [hx] at hxv
  simp only [VR] at hxv
  obtain ⟨ys, hy, hys⟩ := hxv
  have hargs : VRs (mkK w h0 ι used) (args.toList.map (evO n env)) (args.toList.map a.eval) := VRs.map _ _ _ (fun y hy => hev y (by rw [hop]; simp [Op.operands, Call.operands]; right; simpa using hy))
  have hc := hcall h0 h2 w ι used (args.map a.eval ++ ys) happ hs.hr (fun t v hu => hs.fr t v hu nx (hA nx (Nat.le_refl _) (by show nx < nx + 1; omega))) (by
    rw [Array.toList_append, Array.toList_map]; exact hargs.append hys)
  unfold Oper.wp
  rw [run_call hop hy hf hb hn]
  refine hc.mono fun e w' hpost => ?_
  obtain ⟨y, ι', used', rfl, k1, k2, k3, k4⟩ := hpost
  refine hK _ w' ι' used' ?_ k2 (fun t v hu => ?_)
  · rw [hdst]
    refine put_sim hs k2 k1 k3 (fun t v hu m hm hp => ?_)
    rcases k4 t v hu with ⟨v', hu'⟩ | hpr
    · exact hs.fr t v' hu' m hm.1 hp
    · have e := prefix_ne hp hpr
      subst e
      exact hm.2 ⟨Nat.le_refl _, Nat.lt_succ_self _⟩
  · rcases k4 t v hu with h | h
    · exact .inl h
    · exact .inr (List.IsPrefix.trans (List.prefix_append _ _) h)

theorem noH_hr {w : World} {h : H} {ι : Tok → TI} {used : Tok → Nat → Prop} (hr : HR w h ι used) : HR w noH ι used := sub_hr hr (fun t r e => by cases e)

/-- the world only grew -/
theorem grown_hr {w w' : World} {h : H} {ι ι1 : Tok → TI} {used used1 : Tok → Nat → Prop} {h1 : H} (hr : HR w h ι used) (he : Evo w w' (mkK w noH ι used) (mkK w' h1 ι1 used1)) : HR w' h ι used ∧ Evo w w' (mkK w h ι used) (mkK w' h ι used) := by
  have keep : ∀ b, b < w.heap.size → w'.heap[b]? = w.heap[b]? := fun b hb => he.keep b hb (fun ⟨t, r, e, _⟩ => by cases e)
  have he' : Evo w w' (mkK w h ι used) (mkK w' h ι used) := ⟨he.os, he.tape, he.output, he.size, fun b hb _ => keep b hb, fun _ _ _ _ ht => ht, fun _ _ hm => hm, fun _ _ hu => hu, rfl, rfl⟩
  refine ⟨⟨hr.us, hr.ver, fun t r ht => ?_, hr.inj⟩, he'⟩
  have := hr.row t r ht
  unfold RowR at this ⊢
  refine ⟨this.1, ?_⟩
  cases hb : (ι t).blk with
  | none => rw [hb] at this; exact this.2
  | some b =>
    rw [hb] at this
    obtain ⟨_, arr, ty, e1, e2, e3, e4⟩ := this
    exact ⟨arr, ty, (keep b (hr.mt_lt ht hb)).trans e1, e2, e3, SLR.evo he' _ _ _ _ e4⟩

end
end Go.Vs
