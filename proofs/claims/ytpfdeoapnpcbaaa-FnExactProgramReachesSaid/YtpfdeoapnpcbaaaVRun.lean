/-
  What is proved here: what 'Run' says of a call, of code and of operations, the model does.
  Conditions: none.
-/
import Derived.Test.YtpfdeoapnpcbaaaVSound
import Derived.LoopN
set_option linter.unusedSectionVars false
namespace Go.Vs
set_option linter.unusedVariables false
set_option linter.unusedSimpArgs false

section
variable {P : Program} {p : Tok} {n : Nat} {ops : Array Oper}

mutual
theorem FV.mono {h h' : H} {S : List Tok} (hh : ∀ t ∈ S, h' t = h t) : ∀ {x y : PV}, FV h S x y → FV h' S x y
  | _, _, .same x => .same x
  | _, _, .row t ver off len r ys ht hrow hle hm hfv => .row t ver off len r ys ht (by unfold rowAt at hrow ⊢; rw [hh t ht]; exact hrow) hle hm (FVs.mono hh hfv)
  | _, _, .agg cs ds hfv => .agg cs ds (FVs.mono hh hfv)
  | _, _, .tup cs ds hfv => .tup cs ds (FVs.mono hh hfv)
  | _, _, .clo f cs ds hfv => .clo f cs ds (FVs.mono hh hfv)
  | _, _, .sl b xs ys hfv => .sl b xs ys (FVs.mono hh hfv)
  | _, _, .ptr t ver i f r e ds ht hrow he hf hfv => .ptr t ver i f r e ds ht (by unfold rowAt at hrow ⊢; rw [hh t ht]; exact hrow) he hf (FVs.mono hh hfv)
theorem FVs.mono {h h' : H} {S : List Tok} (hh : ∀ t ∈ S, h' t = h t) : ∀ {xs ys : List PV}, FVs h S xs ys → FVs h' S xs ys
  | _, _, .nil => .nil
  | _, _, .cons x y xs ys hx hxs => .cons x y xs ys (FV.mono hh hx) (FVs.mono hh hxs)
end

/-! ### loops -/
def CWp (P : Program) (c : Code) (N : Nat) (Q : Exit → Act → World → Prop) (a : Act) (w : World) : Prop := match c with
  | .loop b => Code.rounds P b Q N a w
  | c => c.wp P Q a w
theorem CWp.wp {c : Code} {N : Nat} {Q : Exit → Act → World → Prop} {a : Act} {w : World} (h : CWp P c N Q a w) : c.wp P Q a w := by
  cases c with
  | loop b => exact wp_loop_rounds N h
  | _ => exact h

def CSem' (P : Program) (p : Tok) (n : Nat) (c : Code) (st : St) (ex : Exit) (st' : St) : Prop :=
  st.nx ≤ st'.nx ∧ ∃ N, ∀ (a : Act) (w : World) (ι : Tok → TI) (used : Tok → Nat → Prop), Sim p n (st.nx ≤ ·) st.env st.h a w ι used → ∀ (Q : Exit → Act → World → Prop),
    (∀ a' w' ι' used', Sim p n (st'.nx ≤ ·) st'.env st'.h a' w' ι' used' → Evo w w' (mkK w st.h ι used) (mkK w' st'.h ι' used') → Grew p used used' → Q ex a' w') → CWp P c N Q a w

theorem CSem'.sem {c : Code} {st : St} {ex : Exit} {st' : St} (h : CSem' P p n c st ex st') : CSem P p n c st ex st' := by
  obtain ⟨h1, N, h2⟩ := h
  exact ⟨h1, fun a w ι used hs Q hQ => (h2 a w ι used hs Q hQ).wp⟩

def JSem (P : Program) : Judg → Prop
  | .fn f args p h r h' => FSem P f args p h r h'
  | .code p n c st ex st' => CSem' P p n c st ex st'
  | .ops p n ops is st acts st' => OSem P p n ops is st acts st'

theorem then_ne {ex : Exit} (hne : ex ≠ .normal) {K : Act → World → Prop} {Q : Exit → Act → World → Prop} {a : Act} {w : World} (h : Q ex a w) : Exit.then K Q ex a w := by
  cases ex <;> first | exact h | exact absurd rfl hne
theorem inBlock_ne {ex : Exit} {id : Nat} (hne : ex ≠ .exit id) {Q : Exit → Act → World → Prop} {a : Act} {w : World} (h : Q ex a w) : Exit.inBlock id Q ex a w := by
  cases ex with
  | exit i =>
    show if i = id then _ else _
    rw [if_neg (fun e => hne (by rw [e]))]; exact h
  | _ => exact h

/-! ### what a function hands back -/
def cellRun (tmps : Array Value) : ResultVar → Sem Value
  | .tmp t => pure (tmps.getD t undef)
  | .cell a t => do loadVar t (← asAddr (tmps.getD a undef))
theorem results_cell (fn : Func) (tmps : Array Value) : results fn tmps = (do
    let vs ← fn.results.mapM (cellRun tmps)
    pure (if h : vs.size = 1 then vs[0] else .tuple vs)) := by
  unfold results
  congr 1
theorem run_result {st : St} {a : Act} {w : World} {ι : Tok → TI} {used : Tok → Nat → Prop} (hs : Sim p n (st.nx ≤ ·) st.env st.h a w ι used) {rv : ResultVar} {x : PV} (hok : cellOk P n st rv = true) (hx : retOne n st rv = some x) :
    ∃ y, (cellRun a.tmps rv).run P w = .ok y w ∧ VR (mkK w st.h ι used) x y := by
  cases rv with
  | tmp t =>
    simp only [retOne, Option.some.injEq] at hx
    subst hx
    exact ⟨_, Sem.run_pure .., VR.operand hs.sz hs.env (.tmp t)⟩
  | cell ad t =>
    have hv := VR.operand hs.sz hs.env (.tmp ad)
    simp only [retOne] at hx
    simp only [cellOk] at hok
    generalize hpv : evO n st.env (.tmp ad) = pv at hv hx hok
    split at hx
    · rename_i tk ver
      cases hrow : rowAt st.h tk ver with
      | none => rw [hrow] at hx; cases hx
      | some r =>
      simp only [hrow] at hx hok
      cases hsz : szOf P t with
      | none => simp [hsz] at hok
      | some s =>
      cases hag : aggT P t with
      | none => simp [hsz, hag] at hok
      | some ag =>
      simp only [hsz, hag, hrow, hx, Bool.and_eq_true, beq_iff_eq] at hok
      have hl : loadF P st.h t (.ptr tk ver 0 0) = some ⟨[(tk, r)], [], x, 0⟩ := by
        unfold loadF
        simp only [hsz, hag, hrow, hx]
        clear hx
        obtain ⟨k1, k2⟩ := hok
        subst k2
        cases x with
        | agg cs =>
          simp only [PV.cells] at k1
          simp only [PV.isAgg, if_true, PV.cells, Nat.zero_add, List.drop_zero]
          rw [if_pos (by omega), List.take_of_length_le (by omega)]
        | _ => simp [PV.cells, PV.isAgg]
      obtain ⟨z, hz1, hz2, _⟩ := out_load hs.hr hv hl
      refine ⟨z, ?_, hz2⟩
      simp only [VR] at hv
      obtain ⟨_, A, hA, hv⟩ := hv
      obtain ⟨b, _, rfl⟩ := hv _ (tok_of hrow)
      simp only [cellRun]
      have : a.tmps.getD ad undef = .pointer (some ⟨b, 0 * (ι tk).sz + 0, none⟩) := hA
      simp only [this, asAddr, Sem.run_bind, Sem.run_pure, Result.andThen_ok]
      have hA' : a.eval (.tmp ad) = .pointer (some ⟨b, 0 * (ι tk).sz + 0, none⟩) := hA
      rw [hA'] at hz1
      simpa only [Instr.loadAt, Instr.sureAddr, Sem.run_bind, Sem.run_pure, Result.andThen_ok] using hz1
    · cases hx

theorem run_results_list {st : St} {a : Act} {w : World} {ι : Tok → TI} {used : Tok → Nat → Prop} (hs : Sim p n (st.nx ≤ ·) st.env st.h a w ι used) : ∀ (l : List ResultVar) (xs : List PV), l.all (cellOk P n st) = true → l.mapM (retOne n st) = some xs →
    ∃ ys, (l.mapM (cellRun a.tmps)).run P w = .ok ys w ∧ VRs (mkK w st.h ι used) xs ys
  | [], xs, _, hx => by
    simp at hx; subst hx
    exact ⟨[], by simp [Sem.run_pure], by simp [VRs]⟩
  | rv :: l, xs, hok, hx => by
    rw [List.all_cons, Bool.and_eq_true] at hok
    rw [List.mapM_cons] at hx
    cases h1 : retOne n st rv with
    | none => simp [h1] at hx
    | some x =>
    cases h2 : l.mapM (retOne n st) with
    | none => simp [h1, h2] at hx
    | some xs' =>
    simp [h1, h2] at hx
    subst hx
    obtain ⟨y, hy1, hy2⟩ := run_result hs hok.1 h1
    obtain ⟨ys, hys1, hys2⟩ := run_results_list hs l xs' hok.2 h2
    refine ⟨y :: ys, ?_, ?_⟩
    · rw [List.mapM_cons, Sem.run_bind, hy1, Result.andThen_ok, Sem.run_bind, hys1, Result.andThen_ok, Sem.run_pure]
    · simp only [VRs]; exact ⟨y, ys, rfl, hy2, hys2⟩

theorem run_results {fn : Func} {st : St} {a : Act} {w : World} {ι : Tok → TI} {used : Tok → Nat → Prop} (hs : Sim p n (st.nx ≤ ·) st.env st.h a w ι used) {r : PV} (hr : retV P fn n st = some r) :
    ∃ y, (results fn a.tmps).run P w = .ok y w ∧ VR (mkK w st.h ι used) r y := by
  unfold retV at hr
  split at hr
  · rename_i hok
    cases hm : fn.results.toList.mapM (retOne n st) with
    | none => rw [hm] at hr; cases hr
    | some xs =>
      obtain ⟨ys, h1, h2⟩ := run_results_list hs _ xs hok hm
      have hrun : (fn.results.mapM (cellRun a.tmps)).run P w = .ok ys.toArray w := by
        rw [Array.mapM_eq_mapM_toList, ← bind_pure_comp, Sem.run_bind, h1, Result.andThen_ok, Sem.run_pure]
      rw [results_cell]
      rw [Sem.run_bind, hrun, Result.andThen_ok, Sem.run_pure]
      rw [hm] at hr
      have hl := h2.length
      split at hr
      · rename_i x e
        cases e
        cases hr
        obtain ⟨y, rfl⟩ : ∃ y, ys = [y] := List.length_eq_one_iff.1 (by simpa using hl)
        exact ⟨y, by simp, by simpa [VRs] using h2⟩
      · rename_i vs hne e
        cases e
        cases hr
        refine ⟨.tuple ys.toArray, ?_, by simp only [VR]; exact ⟨_, rfl, h2⟩⟩
        have : ¬ ys.toArray.size = 1 := by
          intro h
          rw [List.size_toArray] at h
          obtain ⟨x, rfl⟩ := List.length_eq_one_iff.1 (hl.symm.trans h)
          exact hne x rfl
        rw [dif_neg this]
      · cases hr
  · cases hr
end
end Go.Vs
