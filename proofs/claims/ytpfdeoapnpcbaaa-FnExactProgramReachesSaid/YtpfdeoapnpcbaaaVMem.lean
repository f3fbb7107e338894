/-
  What is proved here: loads, stores, fields, indices of rows, for plain values.
  Conditions: none.
-/
import Derived.Test.YtpfdeoapnpcbaaaVOut
import Derived.Laws.CopyRow
set_option linter.unusedSimpArgs false
set_option linter.unusedSectionVars false
namespace Go.Vs
set_option linter.unusedVariables false

section
variable {P : Program}

theorem run_sizeOf' {t : TypeId} {s : Nat} (hs : szOf P t = some s) (w : World) : (sizeOf t).run P w = .ok s w := by
  unfold szOf at hs
  cases hi : P.info? t with
  | none => simp [hi] at hs
  | some i => simp [hi] at hs; simp [sizeOf, typeInfo, hi, hs]

theorem run_isAgg' {t : TypeId} {b : Bool} (ha : aggT P t = some b) (w : World) : (isAgg t).run P w = .ok b w := by
  unfold aggT at ha
  cases hu : P.underlying t with
  | none => simp [hu] at ha
  | some d =>
    simp only [hu] at ha
    cases d <;> simp at ha <;> subst ha <;> simp [isAgg, underlying, hu]

theorem add_at' (b o j : Nat) : (⟨b, o, none⟩ : Addr).add j = ⟨b, o + j, none⟩ := by unfold Addr.add; split <;> simp_all
theorem cell_at {w : World} {b : Nat} {arr : Array Value} {ty : TypeId} {fr : Nat × Nat} (hg : w.heap[b]? = some (.cells arr ty fr)) (o : Nat) : w.cell? ⟨b, o, none⟩ = arr[o]? := by
  simp [World.cell?, hg]

/-- a variable's cells -/
theorem run_loadVar {t : TypeId} {s : Nat} {ag : Bool} (hs : szOf P t = some s) (ha : aggT P t = some ag) {w : World} {ad : Addr} {cs : List Value}
    (hc : ∀ j v, cs[j]? = some v → w.cell? (ad.add j) = some v) (hl : if ag then cs.length = s else 0 < cs.length) :
    (loadVar t ad).run P w = .ok (if ag then .agg cs.toArray else cs.getD 0 undef) w := by
  unfold loadVar
  rw [Sem.run_bind, run_isAgg' ha]
  cases ag with
  | true =>
    simp only [if_true] at hl
    subst hl
    simp only [Result.andThen_ok, if_true, Sem.run_bind, run_sizeOf' hs, run_loadCells_list w ad cs hc, Sem.run_pure]
  | false =>
    simp only [Bool.false_eq_true, if_false] at hl ⊢
    have h0 := hc 0 (cs[0]'hl) (by simp [hl])
    have : ad.add 0 = ad := by simp [Addr.add]
    rw [this] at h0
    simp [h0, List.getD, hl]
end

section
variable {P : Program} {w : World} {h : H} {ι : Tok → TI} {used : Tok → Nat → Prop} {tk : Tok}

theorem SLR.get {K : Ctx} {s : Nat} {arr : Array Value} : ∀ {o : Nat} {xs : List PV} {i : Nat} {x : PV}, SLR K s arr o xs → xs[i]? = some x →
    (x.cells.length = s ∧ ∀ c ∈ x.cells, c.one = true) ∧ VR K x (elemVal s arr (o + i * s) x.isAgg)
  | o, [], i, x, _, hx => by simp at hx
  | o, x0 :: xs, i, x, h, hx => by
    simp only [SLR] at h
    cases i with
    | zero => simp at hx; subst hx; simpa using ⟨h.1, h.2.1⟩
    | succ i =>
      simp at hx
      have := SLR.get h.2.2 hx
      rwa [show o + (i + 1) * s = o + s + i * s by rw [Nat.succ_mul]; omega]

/-- An element of a row, and its cells in memory. -/
theorem row_elem (hr : HR w h ι used) {t : Tok} {r : Row} {i : Nat} {e : PV} {b : Nat} (ht : h t = some r) (hb : (ι t).blk = some b) (he : r.xs[i]? = some e) :
    ∃ arr ty, w.heap[b]? = some (.cells arr ty (0, 0)) ∧ arr.size = (ι t).cap * r.sz ∧ (ι t).sz = r.sz ∧ r.xs.length ≤ (ι t).cap ∧ i * r.sz + r.sz ≤ arr.size ∧ SLR (mkK w h ι used) r.sz arr 0 r.xs ∧
      (e.cells.length = r.sz ∧ ∀ c ∈ e.cells, c.one = true) ∧ VRs (mkK w h ι used) e.cells ((arr.toList.drop (i * r.sz)).take r.sz) := by
  have := hr.row t r ht
  unfold RowR at this
  rw [hb] at this
  obtain ⟨e1, arr, ty, e2, e3, e4, e5⟩ := this
  rw [e1] at e3
  have hi : i < r.xs.length := by
    rcases Nat.lt_or_ge i r.xs.length with hlt | hge
    · exact hlt
    · rw [List.getElem?_eq_none hge] at he; cases he
  have hbd : i * r.sz + r.sz ≤ arr.size := by
    rw [e3, ← Nat.succ_mul]; exact Nat.mul_le_mul_right _ (by omega)
  have hg := e5.get he
  simp only [Nat.zero_add] at hg
  exact ⟨arr, ty, e2, e3, e1, e4, hbd, e5, hg.1, (VR.elem hg.1.1 hbd).1 hg.2⟩

theorem drop_take_get {arr : Array Value} {o n j : Nat} {v : Value} (hj : ((arr.toList.drop o).take n)[j]? = some v) : arr[o + j]? = some v := by
  rw [List.getElem?_take] at hj
  split at hj
  · rw [List.getElem?_drop, Array.getElem?_toList] at hj; exact hj
  · cases hj

theorem out_load (hr : HR w h ι used) {t : TypeId} {x : PV} {y : Value} {res : Res} (hv : VR (mkK w h ι used) x y) (e : loadF P h t x = some res) :
    ∃ z, (Instr.loadAt t y).run P w = .ok z w ∧ VR (mkK w h ι used) res.v z ∧ res.wr = [] := by
  unfold loadF at e
  cases hs : szOf P t with
  | none => simp [hs] at e
  | some s =>
  cases ha : aggT P t with
  | none => simp [hs, ha] at e
  | some ag =>
  simp only [hs, ha] at e
  cases x with
  | ptr t0 ver i f =>
    simp only at e
    cases hrow : rowAt h t0 ver with
    | none => simp [hrow] at e
    | some r =>
    simp only [hrow] at e
    cases hx : r.xs[i]? with
    | none => simp [hx] at e
    | some el =>
    simp only [hx] at e
    simp only [VR] at hv
    obtain ⟨_, A, rfl, hv⟩ := hv
    obtain ⟨b, hb, rfl⟩ := hv _ (tok_of hrow)
    obtain ⟨arr, ty, g1, g2, g3, g4, g5, g6, g7, g8⟩ := row_elem hr (rowAt_some hrow).1 hb hx
    have hcell : ∀ (o : Nat) (cs : List Value), (∀ j v, cs[j]? = some v → arr[o + j]? = some v) → ∀ j v, cs[j]? = some v → w.cell? ((⟨b, o, none⟩ : Addr).add j) = some v := by
      intro o cs hcs j v hj
      rw [add_at', cell_at g1]
      exact hcs j v hj
    have hlL : ((arr.toList.drop (i * r.sz)).take r.sz).length = r.sz := by simp; omega
    cases ag with
    | true =>
      simp only [if_true] at e
      split at e
      · rename_i hb2
        cases e
        refine ⟨.agg (((((arr.toList.drop (i * r.sz)).take r.sz).drop f).take s)).toArray, ?_, ?_, rfl⟩
        · simp only [Instr.loadAt, Instr.sureAddr, Sem.run_bind, Sem.run_pure, Result.andThen_ok]
          rw [g3]
          have := run_loadVar (P := P) (w := w) hs ha (ad := ⟨b, i * r.sz + f, none⟩) (cs := (((arr.toList.drop (i * r.sz)).take r.sz).drop f).take s)
            (hcell _ _ (fun j v hj => by
              rw [List.getElem?_take] at hj
              split at hj
              · rw [List.getElem?_drop] at hj
                have := drop_take_get hj
                rwa [show i * r.sz + (f + j) = i * r.sz + f + j by omega] at this
              · cases hj)) (by simp; omega)
          simpa using this
        · simp only [VR]
          exact ⟨_, rfl, by simpa using (g8.drop f).take s⟩
      · cases e
    | false =>
      simp only [Bool.false_eq_true, if_false] at e
      cases hc : el.cells[f]? with
      | none => simp [hc] at e
      | some c =>
        simp only [hc] at e
        cases e
        obtain ⟨z, hz, hvz⟩ := g8.get hc
        refine ⟨z, ?_, hvz, rfl⟩
        simp only [Instr.loadAt, Instr.sureAddr, Sem.run_bind, Sem.run_pure, Result.andThen_ok]
        have := run_loadVar (P := P) (w := w) hs ha (ad := ⟨b, i * (ι t0).sz + f, none⟩) (cs := [z])
          (hcell _ _ (fun j v hj => by
            cases j with
            | zero =>
              simp at hj; subst hj
              have := drop_take_get hz
              rw [g3]; exact this
            | succ j => simp at hj)) (by simp)
        simpa using this
  | iptr cs =>
    simp only at e
    simp only [VR] at hv
    obtain ⟨ad, arr, ty, fr, rfl, g1, g2, g3, g4, g5⟩ := hv
    have g3' : w.heap[ad.block]? = some (.cells arr ty fr) := g3
    obtain ⟨bb, oo, ss⟩ := ad
    simp only at g1 g3' g4 g5
    subst g1
    have hLl := g5.length
    cases ag with
    | true =>
      simp only [if_true] at e
      split at e
      · rename_i hle
        simp only [val] at e
        cases e
        refine ⟨.agg ((arr.extract oo (oo + cs.length)).toList.take s).toArray, ?_, ?_, rfl⟩
        · simp only [Instr.loadAt, Instr.sureAddr, Sem.run_bind, Sem.run_pure, Result.andThen_ok]
          have := run_loadVar (P := P) (w := w) hs ha (ad := ⟨bb, oo, none⟩) (cs := (arr.extract oo (oo + cs.length)).toList.take s)
            (fun j v hj => by
              rw [add_at', cell_at g3']
              rw [List.getElem?_take] at hj
              split at hj
              · rw [Array.toList_extract, List.extract_eq_take_drop] at hj
                exact drop_take_get hj
              · cases hj) (by simp only [if_true]; rw [List.length_take, hLl]; omega)
          simpa using this
        · simp only [VR]
          exact ⟨_, rfl, by simpa using g5.take s⟩
      · cases e
    | false =>
      simp only [Bool.false_eq_true, if_false] at e
      cases hc : cs[0]? with
      | none => simp [hc] at e
      | some c =>
        simp only [hc, val] at e
        cases e
        obtain ⟨z, hz, hvz⟩ := g5.get hc
        refine ⟨z, ?_, hvz, rfl⟩
        simp only [Instr.loadAt, Instr.sureAddr, Sem.run_bind, Sem.run_pure, Result.andThen_ok]
        have := run_loadVar (P := P) (w := w) hs ha (ad := ⟨bb, oo, none⟩) (cs := [z])
          (fun j v hj => by
            cases j with
            | zero =>
              simp at hj; subst hj
              rw [add_at', cell_at g3']
              rw [Array.toList_extract, List.extract_eq_take_drop] at hz
              exact drop_take_get hz
            | succ j => simp at hj) (by simp)
        simpa using this
  | _ => simp at e

/-- A value's cells. -/
theorem VR.cells {K : Ctx} {x : PV} {y : Value} (hv : VR K x y) (h1 : ∀ c ∈ x.cells, c.one = true) : VRs K x.cells y.cells.toList ∧ ∀ v ∈ y.cells.toList, v.oneCell' = true := by
  have key : VRs K x.cells y.cells.toList := by
    cases x with
    | agg cs => simp only [VR] at hv; obtain ⟨ys, rfl, hv⟩ := hv; simpa [PV.cells, Value.cells] using hv
    | v z =>
      have := h1 (.v z) (by simp [PV.cells])
      simp only [VR] at hv; subst hv
      have hc : y.cells = #[y] := by cases y <;> first | rfl | simp [PV.one, Value.oneCell'] at this
      rw [hc]
      simp only [PV.cells, VRs.cons_iff, VR, VRs.nil_iff, and_self]
    | tup cs => have := h1 (.tup cs) (by simp [PV.cells]); simp [PV.one] at this
    | _ =>
      have h2 := VR.one hv rfl
      have hc : y.cells = #[y] := by cases y <;> first | rfl | simp [Value.oneCell'] at h2
      rw [hc]
      simp only [PV.cells, VRs.cons_iff, VRs.nil_iff, and_true]
      exact hv
  refine ⟨key, ?_⟩
  intro v hv'
  obtain ⟨j, hj⟩ := List.getElem?_of_mem hv'
  have hjl : j < x.cells.length := by
    rw [← key.length]
    exact (List.getElem?_eq_some_iff.1 hj).1
  obtain ⟨y', e, hvr⟩ := key.get (List.getElem?_eq_getElem hjl)
  rw [hj] at e; cases e
  exact VR.one hvr (h1 _ (List.getElem_mem hjl))

theorem VRs.over {K : Ctx} {cs ds : List PV} {ys zs : List Value} (h : VRs K cs ys) (h' : VRs K ds zs) (f : Nat) :
    VRs K (Vs.over cs f ds) (ys.take f ++ zs ++ ys.drop (f + zs.length)) := by
  unfold Vs.over
  rw [h'.length]
  exact ((h.take f).append h').append (h.drop _)

theorem flat_set {s : Nat} {xs : List PV} (hok : Ok s xs) {i : Nat} (e : PV) (hi : i < xs.length) :
    flat (xs.set i e) = (flat xs).take (i * s) ++ e.cells ++ (flat xs).drop (i * s + s) := by
  rw [List.set_eq_take_append_cons_drop, if_pos hi, flat_append, flat_cons, flat_take i hok, flat_drop (i + 1) hok, Nat.succ_mul]
  simp

/-- one element of a row written anew -/
theorem SLR.set {K : Ctx} {s : Nat} {arr : Array Value} {xs : List PV} (h : SLR K s arr 0 xs) (hb : xs.length * s ≤ arr.size) {i : Nat} {e : PV} (hi : i < xs.length) {L : List Value}
    (he : e.cells.length = s ∧ ∀ c ∈ e.cells, c.one = true) (hL : VRs K e.cells L) :
    SLR K s ((arr.toList.take (i * s) ++ L ++ arr.toList.drop (i * s + s)).toArray) 0 (xs.set i e) := by
  rw [SLR_iff (by simpa using hb)] at h
  obtain ⟨hok, hf⟩ := h
  have hLl := hL.length
  have hi2 : i * s + s ≤ xs.length * s := by rw [← Nat.succ_mul]; exact Nat.mul_le_mul_right _ (by omega)
  have hsz : ((arr.toList.take (i * s) ++ L ++ arr.toList.drop (i * s + s)).toArray).size = arr.size := by simp; omega
  rw [SLR_iff (by rw [hsz]; simpa using hb)]
  refine ⟨?_, ?_⟩
  · intro x hx
    rcases List.mem_or_eq_of_mem_set hx with hx | rfl
    · exact hok x hx
    · exact he
  · rw [flat_set hok e hi, List.length_set]
    simp only [List.drop_zero] at hf ⊢
    have e1 : (arr.toList.take (i * s) ++ L ++ arr.toList.drop (i * s + s)).take (xs.length * s) =
        ((arr.toList.take (xs.length * s)).take (i * s)) ++ L ++ (arr.toList.take (xs.length * s)).drop (i * s + s) := by
      rw [List.take_take, Nat.min_eq_left (by omega), List.take_append, List.take_of_length_le (by simp; omega), List.drop_take]
      congr 2
      simp; omega
    rw [e1]
    exact ((hf.take _).append hL).append (hf.drop _)

theorem out_store (hr : HR w h ι used) {t : TypeId} {a x : PV} {ya yx : Value} {res : Res} (hva : VR (mkK w h ι used) a ya) (hvx : VR (mkK w h ι used) x yx) (e : storeF P h t a x = some res)
    {run : Result Next} (hrun : ∀ w', (Instr.storeAt t ya yx).run P w = .ok () w' → run = .ok .skip w') : Out run w h ι used tk res := by
  unfold storeF at e
  cases hs : szOf P t with
  | none => simp [hs] at e
  | some s =>
  simp only [hs] at e
  cases a with
  | ptr t0 ver i f =>
    simp only at e
    cases hrow : rowAt h t0 ver with
    | none => simp [hrow] at e
    | some r =>
    simp only [hrow] at e
    simp only [VR] at hva
    obtain ⟨_, A, rfl, hva⟩ := hva
    obtain ⟨b, hb, rfl⟩ := hva _ (tok_of hrow)
    obtain ⟨ht0, hver⟩ := rowAt_some hrow
    -- what the store leaves, once the new element is known
    have go : ∀ (el el' : PV), r.xs[i]? = some el → f + s ≤ r.sz → x.cells.length = s → (∀ c ∈ x.cells, c.one = true) →
        (el'.cells.length = r.sz ∧ ∀ c ∈ el'.cells, c.one = true) → el'.cells = Vs.over el.cells f x.cells →
        Out run w h ι used tk ⟨[(t0, r)], [(t0, { r with xs := r.xs.set i el' })], .v undef, 0⟩ := by
      intro el el' hx hfs hxl hx1 he' hcells
      obtain ⟨arr, ty, g1, g2, g3, g4, g5, g6, g7, g8⟩ := row_elem hr ht0 hb hx
      obtain ⟨hvc, h1c⟩ := VR.cells hvx hx1
      have hyl := hvc.length
      have hi : i < r.xs.length := (List.getElem?_eq_some_iff.1 hx).1
      have hL := VRs.over g8 hvc f
      rw [← hcells] at hL
      have hbd : r.xs.length * r.sz ≤ arr.size := by rw [g2]; exact Nat.mul_le_mul_right _ g4
      have hset := g6.set hbd hi he' hL
      have hst := run_storeCells_at P b (i * r.sz + f) ty yx.cells.toList 0 arr w g1 (by rw [hyl, hxl]; omega) h1c
      have harr : (arr.toList.take (i * r.sz) ++ (((arr.toList.drop (i * r.sz)).take r.sz).take f ++ yx.cells.toList ++ ((arr.toList.drop (i * r.sz)).take r.sz).drop (f + yx.cells.toList.length)) ++ arr.toList.drop (i * r.sz + r.sz)) =
          arr.toList.take (i * r.sz + f) ++ yx.cells.toList ++ arr.toList.drop (i * r.sz + f + yx.cells.toList.length) := by
        have hyl' : yx.cells.toList.length = s := by rw [hyl, hxl]
        rw [hyl', List.take_take, Nat.min_eq_left (by omega), List.drop_take, List.drop_drop]
        have e1 : arr.toList.take (i * r.sz + f) = arr.toList.take (i * r.sz) ++ (arr.toList.drop (i * r.sz)).take f := by rw [List.take_add]
        have e2 : arr.toList.drop (i * r.sz + f + s) = (arr.toList.drop (i * r.sz + (f + s))).take (r.sz - (f + s)) ++ arr.toList.drop (i * r.sz + r.sz) := by
          have : arr.toList.drop (i * r.sz + r.sz) = (arr.toList.drop (i * r.sz + (f + s))).drop (r.sz - (f + s)) := by
            rw [List.drop_drop]; congr 1; omega
          rw [this, List.take_append_drop]; congr 1; omega
        rw [e1, e2]
        simp only [List.append_assoc]
      rw [harr] at hset
      have hlay := lay_same hr ht0 hb g1 ver (.inl hver) (r.xs.set i el') (by simpa using g4)
        ((arr.toList.take (i * r.sz + f) ++ yx.cells.toList ++ arr.toList.drop (i * r.sz + f + yx.cells.toList.length)).toArray) (by simp [hyl, hxl]; omega) (by rw [g3]; exact g2) (by rw [g3]; exact hset)
      obtain ⟨k1, k2, k3⟩ := hlay
      have hrw : (⟨ver, (ι t0).sz, r.xs.set i el'⟩ : Row) = { r with xs := r.xs.set i el' } := by rw [g3, ← hver]
      rw [hrw] at k1 k2 k3
      refine ⟨undef, _, _, _, .inr ⟨hrun _ ?_, rfl⟩, k1, k2, by simp only [VR], fun t' v' hu => ?_⟩
      · simp only [Instr.storeAt, Instr.sureAddr, storeVar, Sem.run_bind, Sem.run_pure, Result.andThen_ok, run_sizeOf' hs]
        rw [if_neg (by simp only [ne_eq, Decidable.not_not]; rw [← hxl, ← hyl]; simp)]
        simp only [Nat.add_zero] at hst
        rw [g3]
        exact hst
      · rcases hu with hu | ⟨rfl, _⟩
        · exact .inl ⟨_, hu⟩
        · exact .inl ⟨_, hr.us _ _ ht0⟩
    cases hx : r.xs[i]? with
    | none => simp [hx] at e
    | some el =>
    simp only [hx] at e
    obtain ⟨arr, ty, g1, g2, g3, g4, g5, g6, g7, g8⟩ := row_elem hr ht0 hb hx
    cases el with
    | agg cs =>
      simp only at e
      split at e
      · rename_i hc
        obtain ⟨c1, c2, c3⟩ := hc
        cases e
        have c3' : ∀ c ∈ x.cells, c.one = true := by simpa using c3
        have hcl : cs.length = r.sz := g7.1
        refine go (.agg cs) (.agg (Vs.over cs f x.cells)) hx (by omega) c1 c3' ⟨?_, ?_⟩ rfl
        · show (Vs.over cs f x.cells).length = r.sz
          simp only [Vs.over, List.length_append, List.length_take, List.length_drop, c1]; omega
        · intro c hc
          replace hc : c ∈ Vs.over cs f x.cells := hc
          simp only [Vs.over, List.mem_append] at hc
          rcases hc with (hc | hc) | hc
          · exact g7.2 c (List.mem_of_mem_take hc)
          · exact c3' c hc
          · exact g7.2 c (List.mem_of_mem_drop hc)
      · cases e
    | _ =>
      simp only at e
      split at e
      · rename_i hc
        obtain ⟨c1, c2, c3, c4⟩ := hc
        cases e
        have hxc : x.cells = [x] := by cases x <;> first | rfl | simp [PV.isAgg] at c1
        have hsz1 : r.sz = 1 := g7.1.symm
        refine go _ x hx (by omega) (by rw [hxc, c2]; rfl) (by rw [hxc]; simpa using c4) ⟨by rw [hxc, hsz1]; rfl, by rw [hxc]; simpa using c4⟩ ?_
        rw [c3, hxc]
        simp [Vs.over, PV.cells]
      · cases e
  | _ => simp at e
end
end Go.Vs
