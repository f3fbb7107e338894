/-
  What is proved here: fields and indices, structs and rows built, made and appended to, for plain values.
  Conditions: none.
-/
import Derived.Test.YtpfdeoapnpcbaaaVOps2
set_option linter.unusedSectionVars false
namespace Go.Vs
set_option linter.unusedVariables false
set_option linter.unusedSimpArgs false

section
variable {P : Program} {w : World} {h : H} {ι : Tok → TI} {used : Tok → Nat → Prop} {tk : Tok}

theorem run_fieldAt {s f off ft z : Nat} {fs : Array Field} {x : Field} (hu : P.underlying s = some (.struct fs)) (hx : fs[f]? = some x) (ho : x.offset = off) (hf : x.type = ft) (hz : szOf P ft = some z) (h0 : z ≠ 0) (a : Addr) (w : World) :
    (Instr.fieldAt s (.pointer (some a)) f).run P w = .ok (.pointer (some (a.add off))) w := by
  subst ho hf
  simp [Instr.fieldAt, run_underlying hu, hx, Instr.sureAddr, fieldPlace, run_sizeOf' hz, h0]

/-- a pointer into a row that nobody writes, moved on -/
theorem iptr_add {K : Ctx} {cells : List PV} {ad : Addr} (hv : VR K (.iptr cells) (.pointer (some ad))) (off : Nat) (hle : off ≤ cells.length) : VR K (.iptr (cells.drop off)) (.pointer (some (ad.add off))) := by
  simp only [VR] at hv ⊢
  obtain ⟨ad', arr, ty, fr, e, g1, g2, g3, g4, g5⟩ := hv
  cases e
  obtain ⟨bb, oo, ss⟩ := ad
  simp only at g1; subst g1
  refine ⟨⟨bb, oo + off, none⟩, arr, ty, fr, by rw [add_at'], rfl, g2, g3, by simp; simp at g4; omega, ?_⟩
  have := g5.drop off
  simp only [Array.toList_extract, List.extract_eq_take_drop, List.length_drop] at this ⊢
  rw [List.drop_take, List.drop_drop] at this
  rwa [show oo + cells.length - oo - off = oo + off + (cells.length - off) - (oo + off) by omega] at this

theorem out_fieldAddr (hr : HR w h ι used) {s f off ft z : Nat} {fs : Array Field} {fx : Field} (hu : P.underlying s = some (.struct fs)) (hx : fs[f]? = some fx) (ho : fx.offset = off) (hf : fx.type = ft) (hz : szOf P ft = some z) (h0 : z ≠ 0)
    {x : PV} {y : Value} (hv : VR (mkK w h ι used) x y) :
    (∀ t ver i g r, x = .ptr t ver i g → rowAt h t ver = some r → ∃ v, (Instr.fieldAt s y f).run P w = .ok v w ∧ VR (mkK w h ι used) (.ptr t ver i (g + off)) v) ∧
    (∀ cs, x = .iptr cs → off ≤ cs.length → ∃ v, (Instr.fieldAt s y f).run P w = .ok v w ∧ VR (mkK w h ι used) (.iptr (cs.drop off)) v) := by
  refine ⟨?_, ?_⟩
  · rintro t ver i g r rfl hrow
    simp only [VR] at hv
    obtain ⟨hus, A, rfl, hv⟩ := hv
    obtain ⟨b, hb, rfl⟩ := hv _ (tok_of hrow)
    refine ⟨_, run_fieldAt hu hx ho hf hz h0 _ w, ?_⟩
    simp only [VR]
    refine ⟨hus, _, rfl, fun ti hti => ?_⟩
    rw [tok_of hrow] at hti; cases hti
    exact ⟨b, hb, by rw [add_at', Nat.add_assoc]⟩
  · rintro cs rfl hle
    have hv' := hv
    simp only [VR] at hv'
    obtain ⟨ad, arr, ty, fr, rfl, _⟩ := hv'
    exact ⟨_, run_fieldAt hu hx ho hf hz h0 _ w, iptr_add hv off hle⟩

theorem run_indexAt {t e s : Nat} (hu : P.underlying t = some (.slice e)) (hs : szOf P e = some s) {a : Addr} {len c : Nat} {k : IntKind} {i : Int} (h0 : 0 ≤ i) (h1 : i < len) (w : World) :
    (Instr.indexAt t (.slice (some a) len c) (.int k i)).run P w = .ok (.pointer (some (a.add (i.toNat * s)))) w := by
  simp [Instr.indexAt, asIntOf, run_underlying hu, run_sizeOf' hs, h0, h1]

theorem out_index_sl (hr : HR w h ι used) {t e s : Nat} (hu : P.underlying t = some (.slice e)) (hs : szOf P e = some s) {tt : Bool} {xs : List PV} {y : Value} {k : IntKind} {i : Int} {c : PV}
    (hv : VR (mkK w h ι used) (.sl tt xs) y) (h0 : 0 ≤ i) (h1 : i < xs.length) (hc : xs[i.toNat]? = some c) (hcl : c.cells.length = s) :
    ∃ v, (Instr.indexAt t y (.int k i)).run P w = .ok v w ∧ VR (mkK w h ι used) (.iptr c.cells) v := by
  simp only [VR] at hv
  obtain ⟨A, cp, rfl, g1, g2, g3, g4⟩ := hv
  have hne : xs ≠ [] := by rintro rfl; simp at h1; omega
  obtain ⟨ad, arr, ty, fr, s0, rfl, e2, e3, e4, e5, e6⟩ := g4 hne
  have hg := e6.get hc
  have hs0 : s0 = s := by rw [← hg.1.1, hcl]
  subst hs0
  obtain ⟨bb, oo, ss⟩ := ad
  simp only at e2; subst e2
  have hi : i.toNat < xs.length := by omega
  have hb : oo + i.toNat * s0 + s0 ≤ arr.size := by
    have : (i.toNat + 1) * s0 ≤ xs.length * s0 := Nat.mul_le_mul_right _ hi
    rw [Nat.succ_mul] at this
    simp only at e5; omega
  refine ⟨_, run_indexAt hu hs h0 h1 w, ?_⟩
  simp only [VR]
  refine ⟨⟨bb, oo + i.toNat * s0, none⟩, arr, ty, fr, by rw [add_at'], rfl, e3, e4, by rw [hcl]; exact hb, ?_⟩
  have := (VR.elem hcl hb).1 hg.2
  rw [hcl, Array.toList_extract, List.extract_eq_take_drop]
  rwa [show oo + i.toNat * s0 + s0 - (oo + i.toNat * s0) = s0 by omega]

theorem out_index_ref (hr : HR w h ι used) {t e s : Nat} (hu : P.underlying t = some (.slice e)) (hs : szOf P e = some s) {t0 : Tok} {ver off len : Nat} {r : Row} {y : Value} {k : IntKind} {i : Int}
    (hv : VR (mkK w h ι used) (.ref t0 ver off len) y) (hrow : rowAt h t0 ver = some r) (hsz : r.sz = s) (h0 : 0 ≤ i) (h1 : i < len) :
    ∃ v, (Instr.indexAt t y (.int k i)).run P w = .ok v w ∧ VR (mkK w h ι used) (.ptr t0 ver (off + i.toNat) 0) v := by
  simp only [VR] at hv
  obtain ⟨hus, A, c, rfl, hv⟩ := hv
  obtain ⟨q1, q2, q3⟩ := hv _ (tok_of hrow)
  obtain ⟨b, hb, rfl⟩ := q3 (by omega)
  refine ⟨_, run_indexAt hu hs h0 h1 w, ?_⟩
  simp only [VR]
  refine ⟨hus, _, rfl, fun ti hti => ?_⟩
  rw [tok_of hrow] at hti; cases hti
  have hsz' : (ι t0).sz = s := by rw [(hr.row t0 r (rowAt_some hrow).1).1, hsz]
  exact ⟨b, hb, by rw [add_at', hsz', Nat.add_mul]; rfl⟩

/-! ### parts put together -/
theorem setFold : ∀ (L : List Value) (cs : Array Value) (off st : Nat), off + st + L.length ≤ cs.size →
    ((L.zipIdx st).foldl (fun cs x => cs.setIfInBounds (off + x.2) x.1) cs).toList = cs.toList.take (off + st) ++ L ++ cs.toList.drop (off + st + L.length)
  | [], cs, off, st, _ => by simp
  | v :: L, cs, off, st, hb => by
    simp only [List.zipIdx_cons, List.foldl_cons, List.length_cons] at hb ⊢
    rw [setFold L (cs.setIfInBounds (off + st) v) off (st + 1) (by simp; omega)]
    rw [Array.toList_setIfInBounds]
    have := list_seg_step cs.toList (off + st) v L (by simp; omega)
    simpa [Nat.add_assoc] using this

theorem setFoldA (vs cs : Array Value) (off : Nat) (hb : off + vs.size ≤ cs.size) :
    (vs.zipIdx.foldl (fun cs (x : Value × Nat) => cs.setIfInBounds (off + x.2) x.1) cs).toList = cs.toList.take off ++ vs.toList ++ cs.toList.drop (off + vs.size) := by
  have := setFold vs.toList cs off 0 (by simpa using hb)
  rw [← Array.foldl_toList]
  simpa [Array.toList_zipIdx] using this

theorem fill_rel {K : Ctx} {place place' : Nat → Option (Nat × Nat)} (hp : ∀ i q, place i = some q → place' i = some q) : ∀ {parts : List (Nat × PV)} {parts' : List (Nat × Value)} {cs : List PV} {arr : Array Value} {ds : List PV},
    parts'.map Prod.fst = parts.map Prod.fst → VRs K (parts.map Prod.snd) (parts'.map Prod.snd) → VRs K cs arr.toList → (∀ q ∈ parts, ∀ c ∈ q.2.cells, c.one = true) →
    partsOver place cs parts = some ds → ∃ arr', Instr.fill place' arr parts' = some arr' ∧ VRs K ds arr'.toList ∧ arr'.size = arr.size
  | [], parts', cs, arr, ds, h1, h2, h3, _, he => by
    have : parts' = [] := by simpa using h1
    subst this
    simp only [partsOver] at he; cases he
    exact ⟨arr, rfl, h3, rfl⟩
  | (i, x) :: parts, [], cs, arr, ds, h1, _, _, _, _ => by simp at h1
  | (i, x) :: parts, (i', y) :: parts', cs, arr, ds, h1, h2, h3, h4, he => by
    simp only [List.map_cons, List.cons.injEq] at h1
    obtain ⟨hi, h1⟩ := h1
    have hi : i' = i := hi
    subst hi
    simp only [List.map_cons, VRs.cons_iff] at h2
    simp only [partsOver] at he
    cases hpl : place i' with
    | none => simp [hpl] at he
    | some q =>
      obtain ⟨off, size⟩ := q
      simp only [hpl] at he
      split at he
      · rename_i hc
        obtain ⟨hv, _⟩ := VR.cells h2.1 (h4 (i', x) (by simp))
        have hyl : y.cells.size = size := by have := hv.length; simp at this; rw [this, hc.1]
        have hal : arr.size = cs.length := by have := h3.length; simpa using this
        have hset := setFoldA y.cells arr off (by rw [hyl, hal]; exact hc.2)
        have hov : VRs K (over cs off x.cells) (y.cells.zipIdx.foldl (fun cs (x : Value × Nat) => cs.setIfInBounds (off + x.2) x.1) arr).toList := by
          rw [hset]
          have := VRs.over h3 hv off
          simpa using this
        obtain ⟨arr', f1, f2, f3⟩ := fill_rel hp (parts := parts) (parts' := parts') h1 h2.2 hov (fun q hq => h4 q (by simp [hq])) he
        have hsz : (y.cells.zipIdx.foldl (fun cs (x : Value × Nat) => cs.setIfInBounds (off + x.2) x.1) arr).size = arr.size := by
          have := congrArg List.length hset
          simp only [Array.length_toList, List.length_append, List.length_take, List.length_drop] at this
          rw [this]; rw [hyl, hal]; have := hc.2; omega
        refine ⟨arr', ?_, f2, by rw [f3, hsz]⟩
        simp only [Instr.fill, hp _ _ hpl]
        rw [if_neg (by simp [hyl]; rw [hal]; exact hc.2)]
        exact f1
      · cases he

theorem placesOf_iff {t : TypeId} {pl : List (Nat × Nat)} (h : placesOf P t = some pl) : ∃ fs, P.underlying t = some (.struct fs) ∧ fs.toList.mapM (fun x => (szOf P x.type).map fun z => (x.offset, z)) = some pl := by
  unfold placesOf at h
  cases hu : P.underlying t with
  | none => simp [hu] at h
  | some d => simp only [hu] at h; cases d <;> first | (cases h; done) | exact ⟨_, rfl, h⟩

theorem zeroOf_iff {t : TypeId} {z : PV} (h : zeroOf P t = some z) : ∃ i zv, P.info? t = some i ∧ i.zero = some zv ∧ zv.cells.size = i.size ∧ (∀ c ∈ zv.cells.toList, c.oneCell' = true) ∧ z = PV.ofV zv ∧ szOf P t = some i.size := by
  unfold zeroOf at h
  cases hi : P.info? t with
  | none => simp [hi] at h
  | some i =>
    simp only [hi] at h
    cases hz : i.zero with
    | none => simp [hz] at h
    | some zv =>
      simp only [hz] at h
      split at h
      · rename_i hc
        cases h
        refine ⟨i, zv, rfl, hz, hc.1, ?_, rfl, by simp [szOf, hi]⟩
        intro c hm
        have := hc.2
        rw [← Array.all_toList] at this
        exact (List.all_eq_true.1 this) c hm
      · cases h

theorem run_mapM_places {fs : List Field} {pl : List (Nat × Nat)} (h : fs.mapM (fun x => (szOf P x.type).map fun z => (x.offset, z)) = some pl) (w : World) :
    (fs.mapM (fun f => sizeOf f.type >>= fun z => pure (f.offset, z)) : Sem (List (Nat × Nat))).run P w = .ok pl w := by
  induction fs generalizing pl with
  | nil => simp at h; subst h; rfl
  | cons f fs ih =>
    simp only [List.mapM_cons, Option.bind_eq_bind] at h
    cases hs : szOf P f.type with
    | none => simp [hs] at h
    | some z =>
      simp only [hs, Option.map_some, Option.bind_some] at h
      cases hm : fs.mapM (fun x => (szOf P x.type).map fun z => (x.offset, z)) with
      | none => simp [hm] at h
      | some pl' =>
        simp [hm] at h
        subst h
        simp only [List.mapM_cons, Sem.run_bind, run_sizeOf' hs, Result.andThen_ok, Sem.run_pure, ih hm]

theorem out_build (hr : HR w h ι used) {t : TypeId} {z : List PV} {pl : List (Nat × Nat)} {cs : List PV} {parts : List (Nat × PV)} {parts' : Array (Nat × Value)} (hz : zeroOf P t = some (.agg z)) (hpl : placesOf P t = some pl)
    (he : partsOver (fun i => pl[i]?) z parts = some cs) (h1 : parts'.toList.map Prod.fst = parts.map Prod.fst) (h2 : VRs (mkK w h ι used) (parts.map Prod.snd) (parts'.toList.map Prod.snd)) (h3 : ∀ q ∈ parts, ∀ c ∈ q.2.cells, c.one = true) :
    ∃ v, (Instr.build t parts').run P w = .ok v w ∧ VR (mkK w h ι used) (.agg cs) v := by
  obtain ⟨fs, hu, hm⟩ := placesOf_iff hpl
  obtain ⟨i, zv, hi, hzv, hzs, hz1, hze, hsz⟩ := zeroOf_iff hz
  have hcells : VRs (mkK w h ι used) z zv.cells.toList := by
    have := VR.ofV (mkK w h ι used) zv
    rw [← hze] at this
    simp only [VR] at this
    obtain ⟨ys, rfl, hy⟩ := this
    exact hy
  have hrun := run_mapM_places (P := P) hm w
  obtain ⟨arr', f1, f2, _⟩ := fill_rel (place := fun i => pl[i]?) (place' := fun i => (pl.toArray)[i]?) (fun i q hq => by simpa using hq) h1 h2 hcells h3 he
  refine ⟨.agg arr', ?_, by simp only [VR]; exact ⟨arr', rfl, f2⟩⟩
  have hfs : (fs.mapM (fun f => sizeOf f.type >>= fun z => pure (f.offset, z)) : Sem (Array (Nat × Nat))).run P w = .ok pl.toArray w := by
    rw [Array.mapM_eq_mapM_toList, Sem.run_map, hrun]; rfl
  simp only [Instr.build, Sem.run_bind, zeroValue, typeInfo, run_program, Result.andThen_ok, hi, hzv, Sem.run_pure, run_underlying hu, hfs, f1]
end
end Go.Vs
