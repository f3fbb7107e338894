/-
  What is proved here: rules for guards, ends of functions, heads of loops.
  Conditions: none.
-/
import Derived.Test.YtpfdeoapnpcbaaaVRule2
set_option linter.unusedSectionVars false
namespace Go.Vs
set_option linter.unusedVariables false
set_option linter.unusedSimpArgs false

section
variable {P : Program} {p : Tok} {n : Nat} {ops : Array Oper} {env : Nat → PV} {nx : Nat} {h : H} {is : List Nat} {K : List Action → St → Prop} {Q : Exit → St → Prop} {st : St}

/-! ### guards -/
theorem putE_self {e : Nat → PV} {d : Nat} {v : PV} (h : e d = v) : putE e (some d) v = e := by
  funext i
  simp only [putE]
  split
  · rename_i hi; rw [hi]; exact h.symm
  · rfl
theorem evO_bool {d : Nat} {b : Bool} (hb : evO n env (.tmp d) = .v (.bool b)) : env d = .v (.bool b) := by
  simp only [evO] at hb
  split at hb
  · exact hb
  · simp [undef] at hb
theorem WO_if (d : Nat) {b : Bool} (ht : b = true → WO P p n ops is ⟨putE env (some d) (.v (.bool true)), nx, h⟩ K) (hf : b = false → WO P p n ops is ⟨putE env (some d) (.v (.bool false)), nx, h⟩ K)
    (hb : evO n env (.tmp d) = .v (.bool b) := by rfl) : WO P p n ops is ⟨env, nx, h⟩ K := by
  have he := evO_bool hb
  cases b with
  | true => rw [← putE_self he]; exact ht rfl
  | false => rw [← putE_self he]; exact hf rfl
theorem W_if (d : Nat) {c : Code} {b : Bool} (ht : b = true → W P p n c ⟨putE env (some d) (.v (.bool true)), nx, h⟩ Q) (hf : b = false → W P p n c ⟨putE env (some d) (.v (.bool false)), nx, h⟩ Q)
    (hb : evO n env (.tmp d) = .v (.bool b) := by rfl) : W P p n c ⟨env, nx, h⟩ Q := by
  have he := evO_bool hb
  cases b with
  | true => rw [← putE_self he]; exact ht rfl
  | false => rw [← putE_self he]; exact hf rfl

theorem Agree.mask {ds : List Nat} {e e' : Nat → PV} : Agree ds e (maskD ds e' e) := fun i hi => by unfold maskD; rw [hi]; rfl
theorem Agree.mask' {ds ds' : List Nat} {e e' e0 : Nat → PV} (hs : (ds'.all ds.contains) = true) (h : Agree ds e e0) : Agree ds e (maskD ds' e' e0) := fun i hi => by
  unfold maskD
  split
  · rename_i hc
    have := (List.all_eq_true.1 hs) i (by simpa using hc)
    rw [this] at hi; cases hi
  · exact h i hi
theorem met {ds : List Nat} {env : Nat → PV} {s : St} {L : List (Nat × PV)} {Φ : Prop} (hl : agreeL s.env L) (hΦ : Φ) (ha : Agree ds env s.env := by (repeat (first | exact Agree.refl | exact Agree.mask | refine Agree.put rfl ?_ | refine Agree.mask' rfl ?_))) : Agree ds env s.env ∧ agreeL s.env L ∧ Φ := ⟨ha, hl, hΦ⟩
theorem round {α : Type} {ds : List Nat} {env : Nat → PV} {s : St} {L : α → List (Nat × PV)} {Φ : α → Prop} {μ : α → Nat} {m : Nat} (a : α) (hl : agreeL s.env (L a)) (hΦ : Φ a) (hm : μ a < m) (ha : Agree ds env s.env := by (repeat (first | exact Agree.refl | exact Agree.mask | refine Agree.put rfl ?_ | refine Agree.mask' rfl ?_))) : ∃ a', Agree ds env s.env ∧ agreeL s.env (L a') ∧ Φ a' ∧ μ a' < m := ⟨a, ha, hl, hΦ, hm⟩
/-- what a region of conditions leaves: one truth -/
def KB (ds : List Nat) (d : Nat) (env : Nat → PV) (nx : Nat) (h : H) (X : Bool) (s : St) : Prop := s.h = h ∧ nx ≤ s.nx ∧ Agree ds env s.env ∧ s.env d = .v (.bool X)
theorem W_keepB (ds : List Nat) (d : Nat) {c : Code} {X : Bool} (hw : W P p n c ⟨env, nx, h⟩ (fun ex s => ex = .normal ∧ KB ds d env nx h X s))
    (k : ∀ e nx', nx ≤ nx' → Q .normal ⟨putE (maskD ds e env) (some d) (.v (.bool X)), nx', h⟩) : W P p n c ⟨env, nx, h⟩ Q :=
  W_keep ds [(d, .v (.bool X))] (W_mono hw fun ex s hh => ⟨hh.1, hh.2.1, hh.2.2.1, hh.2.2.2.1, hh.2.2.2.2, trivial⟩) (fun e nx' hn => k e nx' hn)
theorem WB_region {ds : List Nat} {d : Nat} {X : Bool} {e0 : Nat → PV} {n0 : Nat} {h0 : H} {id : Nat} (h : WO P p n ops (List.range ops.size) st (fun _ s => KB ds d e0 n0 h0 X s)) : W P p n (.region id ops false) st (fun ex s => ex = .normal ∧ KB ds d e0 n0 h0 X s) :=
  W_region (h.imp fun a h => h.imp fun s h => ⟨h.1, rfl, h.2⟩)
theorem WB_regionD {ds : List Nat} {d : Nat} {X : Bool} {e0 : Nat → PV} {n0 : Nat} {h0 : H} {id : Nat} (ks : List Nat) (hm : P.follows .mixedOrders = true) (hc : (apartB ops && edgesB ops && freeOk ops ks) = true) (h : WO P p n ops (List.range ops.size) st (fun acts s => kindsOk ks acts = true ∧ KB ds d e0 n0 h0 X s)) : W P p n (.region id ops true) st (fun ex s => ex = .normal ∧ KB ds d e0 n0 h0 X s) :=
  W_regionD ks hm hc (h.imp fun a h => h.imp fun s h => ⟨h.1, h.2.1, rfl, h.2.2⟩)
theorem KB.mk' {ds : List Nat} {d : Nat} {e0 e : Nat → PV} {n0 nx : Nat} {h0 : H} {X Y : Bool} (hn : n0 ≤ nx := by omega) (ha : Agree ds e0 e := by (repeat (first | exact Agree.refl | exact Agree.mask | refine Agree.put rfl ?_ | refine Agree.mask' rfl ?_))) (hv : e d = .v (.bool Y) := by rfl) (hY : Y = X := by first | rfl | simp only [*, Bool.true_and, Bool.false_and, Bool.and_true, Bool.and_false, Bool.true_or, Bool.false_or, Bool.or_true, Bool.or_false, Bool.not_true, Bool.not_false] | simp_all) : KB ds d e0 n0 h0 X ⟨e, nx, h0⟩ := ⟨rfl, hn, ha, by show e d = _; rw [hv, hY]⟩

/-! ### ends -/
theorem fin1 {func : Func} {m : Nat} {s : St} {r v : PV} {t : Nat} {h0 : H} (hr : v = r) (hk : Keep p h0 s.h := by (repeat (first | exact Keep.refl | assumption | refine Keep.upd ?_))) (hres : func.results = #[.tmp t] := by rfl) (hv : evO m s.env (.tmp t) = v := by conv => lhs; whnf) :
    (Exit.ret = .normal ∨ Exit.ret = .ret) ∧ retV P func m s = some r ∧ Keep p h0 s.h := by
  refine ⟨.inr rfl, ?_, hk⟩
  subst hr
  unfold retV
  rw [hres]
  simp [cellOk, retOne, hv]
theorem fin2 {func : Func} {m : Nat} {s : St} {r1 r2 v1 v2 : PV} {t1 t2 : Nat} {h0 : H} (hr : v1 = r1) (hr' : v2 = r2) (hk : Keep p h0 s.h := by (repeat (first | exact Keep.refl | assumption | refine Keep.upd ?_))) (hres : func.results = #[.tmp t1, .tmp t2] := by rfl) (hv1 : evO m s.env (.tmp t1) = v1 := by conv => lhs; whnf) (hv2 : evO m s.env (.tmp t2) = v2 := by conv => lhs; whnf) :
    (Exit.ret = .normal ∨ Exit.ret = .ret) ∧ retV P func m s = some (.tup [r1, r2]) ∧ Keep p h0 s.h := by
  refine ⟨.inr rfl, ?_, hk⟩
  subst hr
  subst hr'
  unfold retV
  rw [hres]
  simp [cellOk, retOne, hv1, hv2]
theorem fin3 {func : Func} {m : Nat} {s : St} {r1 r2 r3 v1 v2 v3 : PV} {t1 t2 t3 : Nat} {h0 : H} (hr : v1 = r1) (hr' : v2 = r2) (hr3 : v3 = r3) (hk : Keep p h0 s.h := by (repeat (first | exact Keep.refl | assumption | refine Keep.upd ?_))) (hres : func.results = #[.tmp t1, .tmp t2, .tmp t3] := by rfl) (hv1 : evO m s.env (.tmp t1) = v1 := by conv => lhs; whnf) (hv2 : evO m s.env (.tmp t2) = v2 := by conv => lhs; whnf) (hv3 : evO m s.env (.tmp t3) = v3 := by conv => lhs; whnf) :
    (Exit.ret = .normal ∨ Exit.ret = .ret) ∧ retV P func m s = some (.tup [r1, r2, r3]) ∧ Keep p h0 s.h := by
  refine ⟨.inr rfl, ?_, hk⟩
  subst hr
  subst hr'
  subst hr3
  unfold retV
  rw [hres]
  simp [cellOk, retOne, hv1, hv2, hv3]
theorem fin4 {func : Func} {m : Nat} {s : St} {r1 r2 r3 r4 v1 v2 v3 v4 : PV} {t1 t2 t3 t4 : Nat} {h0 : H} (hr1 : v1 = r1) (hr2 : v2 = r2) (hr3 : v3 = r3) (hr4 : v4 = r4) (hk : Keep p h0 s.h := by (repeat (first | exact Keep.refl | assumption | refine Keep.upd ?_))) (hres : func.results = #[.tmp t1, .tmp t2, .tmp t3, .tmp t4] := by rfl) (hv1 : evO m s.env (.tmp t1) = v1 := by conv => lhs; whnf) (hv2 : evO m s.env (.tmp t2) = v2 := by conv => lhs; whnf) (hv3 : evO m s.env (.tmp t3) = v3 := by conv => lhs; whnf) (hv4 : evO m s.env (.tmp t4) = v4 := by conv => lhs; whnf) :
    (Exit.ret = .normal ∨ Exit.ret = .ret) ∧ retV P func m s = some (.tup [r1, r2, r3, r4]) ∧ Keep p h0 s.h := by
  refine ⟨.inr rfl, ?_, hk⟩
  subst hr1
  subst hr2
  subst hr3
  subst hr4
  unfold retV
  rw [hres]
  simp [cellOk, retOne, hv1, hv2, hv3, hv4]
theorem fin5 {func : Func} {m : Nat} {s : St} {r1 r2 r3 r4 r5 v1 v2 v3 v4 v5 : PV} {t1 t2 t3 t4 t5 : Nat} {h0 : H} (hr1 : v1 = r1) (hr2 : v2 = r2) (hr3 : v3 = r3) (hr4 : v4 = r4) (hr5 : v5 = r5) (hk : Keep p h0 s.h := by (repeat (first | exact Keep.refl | assumption | refine Keep.upd ?_))) (hres : func.results = #[.tmp t1, .tmp t2, .tmp t3, .tmp t4, .tmp t5] := by rfl) (hv1 : evO m s.env (.tmp t1) = v1 := by conv => lhs; whnf) (hv2 : evO m s.env (.tmp t2) = v2 := by conv => lhs; whnf) (hv3 : evO m s.env (.tmp t3) = v3 := by conv => lhs; whnf) (hv4 : evO m s.env (.tmp t4) = v4 := by conv => lhs; whnf) (hv5 : evO m s.env (.tmp t5) = v5 := by conv => lhs; whnf) :
    (Exit.ret = .normal ∨ Exit.ret = .ret) ∧ retV P func m s = some (.tup [r1, r2, r3, r4, r5]) ∧ Keep p h0 s.h := by
  refine ⟨.inr rfl, ?_, hk⟩
  subst hr1
  subst hr2
  subst hr3
  subst hr4
  subst hr5
  unfold retV
  rw [hres]
  simp [cellOk, retOne, hv1, hv2, hv3, hv4, hv5]
/-- a result in a cell, and another one -/
theorem finC2 {func : Func} {m : Nat} {s : St} {r e r2 v2 : PV} {a t2 : Nat} {ty : TypeId} {tk : Tok} {ver sz sz' : Nat} {ag : Bool} {xs : List PV} {h0 : H} (hs : szOf P ty = some sz) (hg : aggT P ty = some ag) (hr : e = r) (hr2 : v2 = r2) (hk : Keep p h0 s.h := by (repeat (first | exact Keep.refl | assumption | refine Keep.upd ?_))) (hres : func.results = #[.cell a ty, .tmp t2] := by rfl)
    (hv : evO m s.env (.tmp a) = .ptr tk ver 0 0 := by rfl) (hv2 : evO m s.env (.tmp t2) = v2 := by conv => lhs; whnf) (hrow : s.h tk = some ⟨ver, sz', xs⟩ := by (repeat (first | refine look_ne (by omega) ?_ | refine look_pn (by assumption) ?_ | refine look_np (by assumption) ?_ | refine look_del (by omega) ?_ | refine look_delp (by assumption) ?_)); first | with_reducible assumption | exact look_eq | assumption) (he : xs[0]? = some e := by rfl) (hok : (e.cells.length == sz && e.isAgg == ag) = true := by rfl) :
    (Exit.ret = .normal ∨ Exit.ret = .ret) ∧ retV P func m s = some (.tup [r, r2]) ∧ Keep p h0 s.h := by
  refine ⟨.inr rfl, ?_, hk⟩
  subst hr
  subst hr2
  unfold retV
  rw [hres]
  have h1 : cellOk P m s (.cell a ty) = true := by simp only [cellOk, hv, hs, hg, rowAt_ver hrow, he]; exact hok
  have h2 : retOne m s (.cell a ty) = some e := by simp only [retOne, hv, rowAt_ver hrow, he]
  have h3 : cellOk P m s (.tmp t2) = true := rfl
  have h4 : retOne m s (.tmp t2) = some v2 := by simp only [retOne, hv2]
  simp only [List.all_cons, List.all_nil, h1, h3, Bool.and_self, if_true, List.mapM_cons, List.mapM_nil, h2, h4]
  rfl
/-- the result lies in a cell -/
theorem finC {func : Func} {m : Nat} {s : St} {r e : PV} {a : Nat} {ty : TypeId} {tk : Tok} {ver sz sz' : Nat} {ag : Bool} {xs : List PV} {h0 : H} (hs : szOf P ty = some sz) (hg : aggT P ty = some ag) (hr : e = r) (hk : Keep p h0 s.h := by (repeat (first | exact Keep.refl | assumption | refine Keep.upd ?_))) (hres : func.results = #[.cell a ty] := by rfl)
    (hv : evO m s.env (.tmp a) = .ptr tk ver 0 0 := by rfl) (hrow : s.h tk = some ⟨ver, sz', xs⟩ := by (repeat (first | refine look_ne (by omega) ?_ | refine look_pn (by assumption) ?_ | refine look_np (by assumption) ?_ | refine look_del (by omega) ?_ | refine look_delp (by assumption) ?_)); first | with_reducible assumption | exact look_eq | assumption) (he : xs[0]? = some e := by rfl) (hok : (e.cells.length == sz && e.isAgg == ag) = true := by rfl) :
    (Exit.ret = .normal ∨ Exit.ret = .ret) ∧ retV P func m s = some r ∧ Keep p h0 s.h := by
  refine ⟨.inr rfl, ?_, hk⟩
  subst hr
  unfold retV
  rw [hres]
  have h1 : cellOk P m s (.cell a ty) = true := by simp only [cellOk, hv, hs, hg, rowAt_ver hrow, he]; exact hok
  have h2 : retOne m s (.cell a ty) = some e := by simp only [retOne, hv, rowAt_ver hrow, he]
  simp [h1, h2]
/-- the result is a row, read as a list -/
theorem finR {func : Func} {m : Nat} {s : St} {t : Nat} {h0 : H} {tk : Tok} {ver off len sz : Nat} {xs ys : List PV} (hle : off + len ≤ xs.length) (hm : len ≤ maxL) (hy : (xs.drop off).take len = ys) (hk : Keep p h0 s.h := by (repeat (first | exact Keep.refl | assumption | refine Keep.upd ?_))) (hres : func.results = #[.tmp t] := by rfl) (hv : evO m s.env (.tmp t) = .ref tk ver off len := by rfl)
    (hrow : s.h tk = some ⟨ver, sz, xs⟩ := by (repeat (first | refine look_ne (by omega) ?_ | refine look_pn (by assumption) ?_ | refine look_np (by assumption) ?_ | refine look_del (by omega) ?_ | refine look_delp (by assumption) ?_)); first | with_reducible assumption | exact look_eq | assumption) (htk : p <+: tk := by exact List.prefix_append _ _) :
    (Exit.ret = .normal ∨ Exit.ret = .ret) ∧ ∃ r0 S, retV P func m s = some r0 ∧ (∀ t ∈ S, p <+: t) ∧ FV s.h S r0 (.sl false ys) ∧ Keep p h0 s.h := by
  refine ⟨.inr rfl, .ref tk ver off len, [tk], ?_, fun t ht => by simp at ht; rw [ht]; exact htk, ?_, hk⟩
  · unfold retV
    rw [hres]
    simp [cellOk, retOne, hv]
  · subst hy
    have : ∀ l : List PV, FVs s.h [tk] l l := fun l => by
      induction l with
      | nil => exact .nil
      | cons x l ih => exact .cons x x l l (.same x) ih
    exact .row tk ver off len ⟨ver, sz, xs⟩ _ (by simp) (rowAt_ver hrow) hle hm (this _)
/-- the same, where nothing is to be read -/
theorem finP {func : Func} {m : Nat} {s : St} {t : Nat} {h0 : H} {r v : PV} (hr : v = r) (hk : Keep p h0 s.h := by (repeat (first | exact Keep.refl | assumption | refine Keep.upd ?_))) (hres : func.results = #[.tmp t] := by rfl) (hv : evO m s.env (.tmp t) = v := by conv => lhs; whnf) :
    (Exit.ret = .normal ∨ Exit.ret = .ret) ∧ ∃ r0 S, retV P func m s = some r0 ∧ (∀ t ∈ S, p <+: t) ∧ FV s.h S r0 r ∧ Keep p h0 s.h := by
  obtain ⟨h1, h2, h3⟩ := fin1 (P := P) (m := m) (s := s) hr hk hres hv
  exact ⟨h1, r, [], h2, (fun t ht => by cases ht), .same r, h3⟩

/-- a row of its own is handed back to be written on -/
theorem fn_row {f : FuncId} {args : List PV} {h : H} {r : PV} {func : Func} {c : Code} {m k : Nat} {row : Row} (hf : P.funcs[f]? = some func)
    (hw : W P p m c ⟨env0 args, 0, h⟩ (fun ex s => (ex = .normal ∨ ex = .ret) ∧ retV P func m s = some r ∧ s.h (p ++ [k]) = some row ∧ Keep p h s.h))
    (hb : func.body = some c := by rfl) (hn : (func.name == "runtime.NumGoroutine") = false := by rfl) (hm : max func.ntmps args.length = m := by conv => lhs; whnf) : Run P (.fn f args p h r (upd h (p ++ [k]) row)) := by
  obtain ⟨ex, s, h1, h2, h3, h4, h5⟩ := hw
  subst hm
  refine .fn hf hb hn h1 h2 h3 (fun t => ?_)
  by_cases e : t = p ++ [k]
  · subst e; exact .inl (by rw [upd_same, h4])
  · rw [upd_ne e]
    rcases h5 t with e | e
    · exact .inl e.symm
    · exact .inr ⟨e, rfl⟩
theorem finW {func : Func} {m k : Nat} {s : St} {t : Nat} {h0 : H} {r v : PV} {row : Row} (hr : v = r) (hrow : s.h (p ++ [k]) = some row) (hk : Keep p h0 s.h := by (repeat (first | exact Keep.refl | assumption | refine Keep.upd ?_))) (hres : func.results = #[.tmp t] := by rfl) (hv : evO m s.env (.tmp t) = v := by conv => lhs; whnf) :
    (Exit.ret = .normal ∨ Exit.ret = .ret) ∧ retV P func m s = some r ∧ s.h (p ++ [k]) = some row ∧ Keep p h0 s.h := by
  obtain ⟨h1, h2, h3⟩ := fin1 (P := P) (m := m) (s := s) hr hk hres hv
  exact ⟨h1, h2, hrow, h3⟩
/-- the row that a call hands back is another one -/
theorem look_sub {h : H} {p : Tok} {a b c : Nat} {r : Row} {x : Option Row} (hx : h (p ++ [a]) = x) : upd h (p ++ [b] ++ [c]) r (p ++ [a]) = x := by
  rw [upd_ne]; exact hx
  intro e
  have := congrArg List.length e
  simp at this
theorem Keep.of_sub {p : Tok} {h h' : H} {b c : Nat} {r : Row} (k : Keep p h h') : Keep p h (Go.Vs.upd h' (p ++ [b] ++ [c]) r) := by
  rw [List.append_assoc]; exact Keep.upd k

/-! ### heads of loops, and where ways meet -/
theorem put_of {ds : List Nat} {env : Nat → PV} {s : St} {L : List (Nat × PV)} (ha : Agree ds env s.env) (hl : agreeL s.env L) : s = ⟨putL L (maskD ds s.env env), s.nx, s.h⟩ := by
  rw [maskD_of ha, putL_self hl]
/-- 'ds' are the temporaries that the loop writes, 'L' those of them whose values its head needs -/
theorem W_loopM {α : Type} {c : Code} (ds : List Nat) (L : α → List (Nat × PV)) (Φ : α → Nat → H → Prop) (μ : α → Nat) (a : α) (h0 : agreeL env (L a)) (hΦ : Φ a nx h)
    (step : ∀ a e nx h, Φ a nx h → W P p n c ⟨putL (L a) (maskD ds e env), nx, h⟩ (Nx (fun s => ∃ a', Agree ds env s.env ∧ agreeL s.env (L a') ∧ Φ a' s.nx s.h ∧ μ a' < μ a) Q)) : W P p n (.loop c) ⟨env, nx, h⟩ Q := by
  refine W_loop (fun a s => Agree ds env s.env ∧ agreeL s.env (L a) ∧ Φ a s.nx s.h) μ a ⟨Agree.refl, h0, hΦ⟩ (fun a s hI => ?_)
  obtain ⟨h1, h2, h3⟩ := hI
  rw [put_of h1 h2]
  refine W_mono (step a s.env s.nx s.h h3) (fun ex s' hh => ?_)
  cases ex with
  | normal =>
    obtain ⟨a', k1, k2, k3, k4⟩ := hh
    exact ⟨a', ⟨k1, k2, k3⟩, k4⟩
  | _ => exact hh
theorem W_mid {c : Code} (ds : List Nat) (L : List (Nat × PV)) (Φ : Nat → H → Prop) (hw : W P p n c ⟨env, nx, h⟩ (Nx (fun s => Agree ds env s.env ∧ agreeL s.env L ∧ Φ s.nx s.h) Q))
    (k : ∀ e nx h, Φ nx h → Q .normal ⟨putL L (maskD ds e env), nx, h⟩) : W P p n c ⟨env, nx, h⟩ Q := by
  obtain ⟨ex, s, h1, h2⟩ := hw
  refine ⟨ex, s, h1, ?_⟩
  cases ex with
  | normal =>
    obtain ⟨h2, h3, h4⟩ := h2
    rw [put_of h2 h3]
    exact k _ _ _ h4
  | _ => exact h2
end
end Go.Vs
