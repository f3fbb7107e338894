/-
  What is proved here: what an operation may leave ('Out'); values at hand; a row laid down, a row written anew.
  Conditions: none.
-/
import Derived.Test.YtpfdeoapnpcbaaaVCells
import Derived.Laws.Tables
set_option linter.unusedSimpArgs false
set_option linter.unusedSectionVars false
namespace Go.Vs
set_option linter.unusedVariables false

def Out (run : Result Next) (w : World) (h : H) (ι : Tok → TI) (used : Tok → Nat → Prop) (tk : Tok) (res : Res) : Prop :=
  ∃ y w' ι' used', (run = .ok (.value y) w' ∨ (run = .ok .skip w' ∧ y = undef)) ∧ HR w' (upds h res.wr) ι' used' ∧
    Evo w w' (mkK w h ι used) (mkK w' (upds h res.wr) ι' used') ∧ VR (mkK w' (upds h res.wr) ι' used') res.v y ∧
    (∀ t v, used' t v → (∃ v', used t v') ∨ (t = tk ∧ 0 < res.al))

section
variable {w : World} {h : H} {ι : Tok → TI} {used : Tok → Nat → Prop} {tk : Tok}

theorem Out.pure (hr : HR w h ι used) {run : Result Next} {rd : List (Tok × Row)} {x : PV} {y : Value} {al : Nat} (hv : VR (mkK w h ι used) x y) (e : run = .ok (.value y) w) :
    Out run w h ι used tk ⟨rd, [], x, al⟩ :=
  ⟨y, w, ι, used, .inl e, hr, Evo.refl w _ rfl, hv, fun t v hu => .inl ⟨v, hu⟩⟩

theorem rowAt_some {t : Tok} {ver : Nat} {r : Row} (e : rowAt h t ver = some r) : h t = some r ∧ r.ver = ver := by
  unfold rowAt at e
  cases hh : h t with
  | none => simp [hh] at e
  | some r0 =>
    simp only [hh] at e
    split at e
    · rename_i hv; cases e; exact ⟨rfl, hv⟩
    · cases e

theorem tok_of {t : Tok} {ver : Nat} {r : Row} (e : rowAt h t ver = some r) : (mkK w h ι used).tok t ver = some (ι t) :=
  mkK_tok.2 ⟨r, (rowAt_some e).1, (rowAt_some e).2, rfl⟩

theorem VR.ofV1 (K : Ctx) (x : Value) : VR K (PV.ofV1 x) x := by
  unfold PV.ofV1
  split
  · simp only [VR]
    exact ⟨none, 0, rfl, Nat.le_refl _, fun _ => rfl, Nat.zero_le _, fun hne => absurd rfl hne⟩
  · simp only [VR]
theorem VRs.ofV1s (K : Ctx) : ∀ xs : List Value, VRs K (xs.map PV.ofV1) xs
  | [] => by simp [VRs]
  | x :: xs => by simp only [List.map_cons, VRs.cons_iff]; exact ⟨VR.ofV1 K x, VRs.ofV1s K xs⟩
theorem VR.ofV (K : Ctx) (x : Value) : VR K (PV.ofV x) x := by
  unfold PV.ofV
  split
  · simp only [VR]; exact ⟨_, rfl, VRs.ofV1s K _⟩
  · exact VR.ofV1 K _
theorem one_ofV1 {x : Value} (h1 : x.oneCell' = true) : (PV.ofV1 x).one = true := by
  unfold PV.ofV1
  split
  · rfl
  · exact h1
theorem ofV1_isAgg (x : Value) : (PV.ofV1 x).isAgg = false := by unfold PV.ofV1; split <;> rfl
theorem ofV1_cells (x : Value) : (PV.ofV1 x).cells = [PV.ofV1 x] := by unfold PV.ofV1; split <;> rfl
theorem cells_ofV (z : Value) : (PV.ofV z).cells = z.cells.toList.map PV.ofV1 := by
  cases z with
  | agg cs => simp [PV.ofV, PV.cells, Value.cells]
  | _ => simp only [PV.ofV, Value.cells, ofV1_cells, List.map_cons, List.map_nil]

/-- operands -/
theorem VR.operand {K : Ctx} {n : Nat} {env : Nat → PV} {a : Act} (hn : a.tmps.size = n) (he : ∀ i, i < n → VR K (env i) (a.tmps.getD i undef)) (x : Operand) : VR K (evO n env x) (a.eval x) := by
  cases x with
  | tmp t =>
    simp only [evO, Act.eval]
    split
    · exact he t ‹_›
    · rename_i hlt
      simp only [VR]
      simp [Array.getD, hn, hlt]
  | const c => exact VR.ofV K c
  | global g => simp [evO, Act.eval, VR]
  | func f => simp only [evO, Act.eval, VR]; exact ⟨#[], rfl, by simp [VRs]⟩

/-! ### a new row -/
theorem push_old {b : Nat} (o : Obj) (hb : b < w.heap.size) : ({ w with heap := w.heap.push o } : World).heap[b]? = w.heap[b]? := by
  simp [Array.getElem?_push, Nat.ne_of_lt hb]
theorem push_new (o : Obj) : ({ w with heap := w.heap.push o } : World).heap[w.heap.size]? = some o := by simp

theorem lay_new (hr : HR w h ι used) (hnu : ∀ v, ¬ used tk v) (arr : Array Value) (ty : TypeId) (sz cap : Nat) (xs : List PV) (hs : arr.size = cap * sz) (hl : xs.length ≤ cap)
    (hx : SLR (mkK w h ι used) sz arr 0 xs) {w' : World} (hw : w'.heap = w.heap.push (.cells arr ty)) (os : w'.os = w.os) (tape : w'.tape = w.tape) (out : w'.output = w.output) :
    HR w' (upd h tk ⟨0, sz, xs⟩) (upI ι tk ⟨some w.heap.size, sz, cap⟩) (upU used tk 0) ∧
    Evo w w' (mkK w h ι used) (mkK w' (upd h tk ⟨0, sz, xs⟩) (upI ι tk ⟨some w.heap.size, sz, cap⟩) (upU used tk 0)) ∧
    (mkK w' (upd h tk ⟨0, sz, xs⟩) (upI ι tk ⟨some w.heap.size, sz, cap⟩) (upU used tk 0)).tok tk 0 = some ⟨some w.heap.size, sz, cap⟩ := by
  have keep : ∀ b, b < w.heap.size → w'.heap[b]? = w.heap[b]? := by
    intro b hb; rw [hw]; simp [Array.getElem?_push, Nat.ne_of_lt hb]
  have he := lay_evo (w' := w') hr (t := tk) (r := ⟨0, sz, xs⟩) (ti := ⟨some w.heap.size, sz, cap⟩) os tape out (by rw [hw]; simp) (fun b hb _ => keep b hb)
    (fun v hu => absurd hu (hnu v)) (fun b hb => .inl (by cases hb; exact Nat.le_refl _))
  refine ⟨lay_hr hr he (fun b hb _ => keep b hb) (fun v hu => absurd hu (hnu v)) (fun b hb => .inl (by cases hb; exact Nat.le_refl _)) ?_, he, ?_⟩
  · refine ⟨rfl, arr, ty, ?_, hs, hl, SLR.evo he _ _ _ _ hx⟩
    show w'.heap[w.heap.size]? = _
    rw [hw]; simp
  · rw [mkK_tok]
    exact ⟨_, upd_same _ _ _, rfl, by simp [upI]⟩

/-- nothing has been made for the row yet -/
theorem lay_none (hr : HR w h ι used) (hnu : ∀ v, ¬ used tk v) (sz : Nat) :
    HR w (upd h tk ⟨0, sz, []⟩) (upI ι tk ⟨none, sz, 0⟩) (upU used tk 0) ∧
    Evo w w (mkK w h ι used) (mkK w (upd h tk ⟨0, sz, []⟩) (upI ι tk ⟨none, sz, 0⟩) (upU used tk 0)) ∧
    (mkK w (upd h tk ⟨0, sz, []⟩) (upI ι tk ⟨none, sz, 0⟩) (upU used tk 0)).tok tk 0 = some ⟨none, sz, 0⟩ := by
  have he := lay_evo (w' := w) hr (t := tk) (r := ⟨0, sz, []⟩) (ti := ⟨none, sz, 0⟩) rfl rfl rfl (Nat.le_refl _) (fun b hb _ => rfl)
    (fun v hu => absurd hu (hnu v)) (fun b hb => by cases hb)
  refine ⟨lay_hr hr he (fun b hb _ => rfl) (fun v hu => absurd hu (hnu v)) (fun b hb => by cases hb) ⟨rfl, rfl, rfl⟩, he, ?_⟩
  rw [mkK_tok]
  exact ⟨_, upd_same _ _ _, rfl, by simp [upI]⟩

theorem used_new (t : Tok) (v : Nat) (hu : upU used tk 0 t v) : (∃ v', used t v') ∨ (t = tk ∧ 0 < 1) := by
  rcases hu with hu | ⟨rfl, _⟩
  · exact .inl ⟨v, hu⟩
  · exact .inr ⟨rfl, Nat.one_pos⟩

/-- A block more that no token names. -/
theorem grow_hr (hr : HR w h ι used) (o : Obj) {w' : World} (hw : w'.heap = w.heap.push o) (os : w'.os = w.os) (tape : w'.tape = w.tape) (out : w'.output = w.output) :
    HR w' h ι used ∧ Evo w w' (mkK w h ι used) (mkK w' h ι used) := by
  have keep : ∀ b, b < w.heap.size → w'.heap[b]? = w.heap[b]? := by
    intro b hb; rw [hw]; simp [Array.getElem?_push, Nat.ne_of_lt hb]
  have he : Evo w w' (mkK w h ι used) (mkK w' h ι used) :=
    ⟨os, tape, out, by rw [hw]; simp, fun b hb _ => keep b hb, fun _ _ _ _ ht => ht, fun _ _ hm => hm, fun _ _ hu => hu, rfl, rfl⟩
  refine ⟨⟨hr.us, hr.ver, fun t r ht => ?_, hr.inj⟩, he⟩
  have := hr.row t r ht
  unfold RowR at this ⊢
  refine ⟨this.1, ?_⟩
  cases hb : (ι t).blk with
  | none => rw [hb] at this; exact this.2
  | some b =>
    rw [hb] at this
    obtain ⟨_, arr, ty, e1, e2, e3, e4⟩ := this
    exact ⟨arr, ty, (keep b (hr.mt_lt ht hb)).trans e1, e2, e3, SLR.evo he _ _ _ _ e4⟩

/-- A row written anew in its own block. -/
theorem lay_same (hr : HR w h ι used) {t : Tok} {r : Row} {b : Nat} {arr : Array Value} {ty : TypeId} (ht : h t = some r) (hb : (ι t).blk = some b) (hg : w.heap[b]? = some (.cells arr ty (0, 0)))
    (ver : Nat) (hv : r.ver = ver ∨ r.ver < ver) (xs : List PV) (hl : xs.length ≤ (ι t).cap) (arr' : Array Value) (hs : arr'.size = arr.size) (hsz : arr.size = (ι t).cap * (ι t).sz)
    (hx : SLR (mkK w h ι used) (ι t).sz arr' 0 xs) :
    HR (w.setRow b arr') (upd h t ⟨ver, (ι t).sz, xs⟩) (upI ι t (ι t)) (upU used t ver) ∧
    Evo w (w.setRow b arr') (mkK w h ι used) (mkK (w.setRow b arr') (upd h t ⟨ver, (ι t).sz, xs⟩) (upI ι t (ι t)) (upU used t ver)) ∧
    (mkK (w.setRow b arr') (upd h t ⟨ver, (ι t).sz, xs⟩) (upI ι t (ι t)) (upU used t ver)).tok t ver = some (ι t) := by
  have keep : ∀ b', b' < w.heap.size → (∀ r0, h t = some r0 → (ι t).blk ≠ some b') → (w.setRow b arr').heap[b']? = w.heap[b']? := by
    intro b' _ hne
    exact setRow_other w b b' arr' (fun e => hne r ht (by rw [hb, e]))
  have he := lay_evo (w' := w.setRow b arr') hr (t := t) (r := ⟨ver, (ι t).sz, xs⟩) (ti := ι t) rfl rfl rfl (by simp) keep
    (by
      intro v hu e
      have h1 := hr.ver t r v ht hu
      simp only at e
      exact ⟨by rw [ht]; simp, rfl, fun r0 h0 => by rw [ht] at h0; cases h0; omega⟩)
    (fun b' hb' => .inr ⟨⟨r, ht⟩, hb'⟩)
  refine ⟨lay_hr hr he keep (fun v hu => ?_) (fun b' hb' => .inr ⟨⟨r, ht⟩, hb'⟩) ?_, he, ?_⟩
  · have h1 := hr.ver t r v ht hu
    show v ≤ ver
    omega
  · refine ⟨rfl, ?_⟩
    rw [hb]
    exact ⟨arr', ty, setRow_heap w b arr arr' ty (0, 0) hg, by rw [hs, hsz], hl, SLR.evo he _ _ _ _ hx⟩
  · rw [mkK_tok]
    exact ⟨_, upd_same _ _ _, rfl, by simp [upI]⟩

/-- A row written anew in a new block. -/
theorem lay_moved (hr : HR w h ι used) {t : Tok} {r : Row} (ht : h t = some r) (ver : Nat) (hv : r.ver < ver) (arr : Array Value) (ty : TypeId) (sz cap : Nat) (xs : List PV) (hs : arr.size = cap * sz) (hl : xs.length ≤ cap)
    (hx : SLR (mkK w h ι used) sz arr 0 xs) {w' : World} (hw : w'.heap = w.heap.push (.cells arr ty)) (os : w'.os = w.os) (tape : w'.tape = w.tape) (out : w'.output = w.output) :
    HR w' (upd h t ⟨ver, sz, xs⟩) (upI ι t ⟨some w.heap.size, sz, cap⟩) (upU used t ver) ∧
    Evo w w' (mkK w h ι used) (mkK w' (upd h t ⟨ver, sz, xs⟩) (upI ι t ⟨some w.heap.size, sz, cap⟩) (upU used t ver)) ∧
    (mkK w' (upd h t ⟨ver, sz, xs⟩) (upI ι t ⟨some w.heap.size, sz, cap⟩) (upU used t ver)).tok t ver = some ⟨some w.heap.size, sz, cap⟩ := by
  have keep : ∀ b, b < w.heap.size → w'.heap[b]? = w.heap[b]? := by
    intro b hb; rw [hw]; simp [Array.getElem?_push, Nat.ne_of_lt hb]
  have hlt : ∀ v, used t v → v < ver := fun v hu => Nat.lt_of_le_of_lt (hr.ver t r v ht hu) hv
  have he := lay_evo (w' := w') hr (t := t) (r := ⟨ver, sz, xs⟩) (ti := ⟨some w.heap.size, sz, cap⟩) os tape out (by rw [hw]; simp) (fun b hb _ => keep b hb)
    (fun v hu e => absurd e (Nat.ne_of_gt (hlt v hu))) (fun b hb => .inl (by cases hb; exact Nat.le_refl _))
  refine ⟨lay_hr hr he (fun b hb _ => keep b hb) (fun v hu => Nat.le_of_lt (hlt v hu)) (fun b hb => .inl (by cases hb; exact Nat.le_refl _)) ?_, he, ?_⟩
  · refine ⟨rfl, arr, ty, ?_, hs, hl, SLR.evo he _ _ _ _ hx⟩
    show w'.heap[w.heap.size]? = _
    rw [hw]; simp
  · rw [mkK_tok]
    exact ⟨_, upd_same _ _ _, rfl, by simp [upI]⟩

/-- Nothing changes in memory: a row gets a new version (an empty append). -/
theorem lay_ver (hr : HR w h ι used) {t : Tok} {r : Row} (ht : h t = some r) (ver : Nat) (hv : r.ver < ver) (xs : List PV) (n : Nat) (hx : xs = r.xs.take n) :
    HR w (upd h t ⟨ver, (ι t).sz, xs⟩) (upI ι t (ι t)) (upU used t ver) ∧
    Evo w w (mkK w h ι used) (mkK w (upd h t ⟨ver, (ι t).sz, xs⟩) (upI ι t (ι t)) (upU used t ver)) ∧
    (mkK w (upd h t ⟨ver, (ι t).sz, xs⟩) (upI ι t (ι t)) (upU used t ver)).tok t ver = some (ι t) := by
  have hlt : ∀ v, used t v → v < ver := fun v hu => Nat.lt_of_le_of_lt (hr.ver t r v ht hu) hv
  have he := lay_evo (w' := w) hr (t := t) (r := ⟨ver, (ι t).sz, xs⟩) (ti := ι t) rfl rfl rfl (Nat.le_refl _) (fun b hb _ => rfl)
    (fun v hu e => absurd e (Nat.ne_of_gt (hlt v hu))) (fun b' hb' => .inr ⟨⟨r, ht⟩, hb'⟩)
  refine ⟨lay_hr hr he (fun b hb _ => rfl) (fun v hu => Nat.le_of_lt (hlt v hu)) (fun b' hb' => .inr ⟨⟨r, ht⟩, hb'⟩) ?_, he, ?_⟩
  · have := hr.row t r ht
    unfold RowR at this ⊢
    refine ⟨rfl, ?_⟩
    cases hb : (ι t).blk with
    | none =>
      rw [hb] at this
      exact ⟨by rw [hx, this.2.1]; simp, this.2.2⟩
    | some b =>
      rw [hb] at this
      obtain ⟨e1, arr, ty, e2, e3, e4, e5⟩ := this
      refine ⟨arr, ty, e2, e3, ?_, ?_⟩
      · rw [hx]; simp; omega
      · refine SLR.evo he _ _ _ _ ?_
        rw [e1, hx]
        have hbd : 0 + r.xs.length * r.sz ≤ arr.size := by
          rw [e3, e1]; have := Nat.mul_le_mul_right r.sz e4; omega
        have hbd2 : 0 + (r.xs.take n).length * r.sz ≤ arr.size := by
          have h1 : (r.xs.take n).length * r.sz ≤ r.xs.length * r.sz := Nat.mul_le_mul_right r.sz (by rw [List.length_take]; omega)
          omega
        rw [SLR_iff hbd] at e5
        rw [SLR_iff hbd2]
        refine ⟨e5.1.take n, ?_⟩
        have := e5.2.take (n * r.sz)
        rw [flat_take n e5.1]
        rw [List.take_take] at this
        rw [List.length_take]
        rwa [Nat.mul_min_mul_right] at this
  · rw [mkK_tok]
    exact ⟨_, upd_same _ _ _, rfl, by simp [upI]⟩
end
end Go.Vs
