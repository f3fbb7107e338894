/-
  What is proved here: a row that nobody writes any more reads as a list.
  Conditions: none.
-/
import Derived.Test.YtpfdeoapnpcbaaaVLocal
set_option linter.unusedSectionVars false
namespace Go.Vs
set_option linter.unusedVariables false
set_option linter.unusedSimpArgs false

section
variable {w : World} {h h2 : H} {ι : Tok → TI} {used : Tok → Nat → Prop} {S : List Tok}

/-- Fewer rows. -/
theorem sub_evo (hr : HR w h ι used) (hs : ∀ t r, h2 t = some r → h t = some r) : Evo w w (mkK w h ι used) (mkK w h2 ι used) :=
  ⟨rfl, rfl, rfl, Nat.le_refl _, fun _ _ _ => rfl, fun t v ti _ ht => by
    rw [mkK_tok] at ht ⊢
    obtain ⟨r, h1, h2', h3⟩ := ht
    exact ⟨r, hs t r h1, h2', h3⟩, fun b _ ⟨t, r, h1, h2'⟩ => ⟨t, r, hs t r h1, h2'⟩, fun _ _ hu => hu, rfl, rfl⟩

theorem sub_hr (hr : HR w h ι used) (hs : ∀ t r, h2 t = some r → h t = some r) : HR w h2 ι used where
  us := fun t r ht => hr.us t r (hs t r ht)
  ver := fun t r v ht hu => hr.ver t r v (hs t r ht) hu
  row := fun t r ht => by
    have := hr.row t r (hs t r ht)
    unfold RowR at this ⊢
    refine ⟨this.1, ?_⟩
    cases hb : (ι t).blk with
    | none => rw [hb] at this; exact this.2
    | some b =>
      rw [hb] at this
      obtain ⟨_, arr, ty, e1, e2, e3, e4⟩ := this
      exact ⟨arr, ty, e1, e2, e3, SLR.evo (sub_evo hr hs) _ _ _ _ e4⟩
  inj := fun t t' r r' b h1 h1' hb hb' => hr.inj t t' r r' b (hs t r h1) (hs t' r' h1') hb hb'

/-- the piece of a row that a slice shows, in memory -/
theorem ref_piece (hr : HR w h ι used) {t : Tok} {ver off len : Nat} {r : Row} {y : Value} (hv : VR (mkK w h ι used) (.ref t ver off len) y) (hrow : rowAt h t ver = some r) (hle : off + len ≤ r.xs.length) :
    ∃ A c, y = .slice A len c ∧ len ≤ c ∧ ((r.xs.drop off).take len ≠ [] → ∃ b arr ty, (ι t).blk = some b ∧ A = some ⟨b, off * r.sz, none⟩ ∧ w.heap[b]? = some (.cells arr ty (0, 0)) ∧
      off * r.sz + ((r.xs.drop off).take len).length * r.sz ≤ arr.size ∧ SLR (mkK w h ι used) r.sz arr (off * r.sz) ((r.xs.drop off).take len)) := by
  simp only [VR] at hv
  obtain ⟨hus, A, c, rfl, hv⟩ := hv
  obtain ⟨q1, q2, q3⟩ := hv _ (tok_of hrow)
  refine ⟨A, c, rfl, q1, fun hne => ?_⟩
  have hlen : 0 < len := by
    rcases Nat.eq_zero_or_pos len with h | h
    · subst h; simp at hne
    · exact h
  obtain ⟨b, hb, rfl⟩ := q3 (by omega)
  have hrr := hr.row t r (rowAt_some hrow).1
  unfold RowR at hrr
  rw [hb] at hrr
  obtain ⟨e1, arr, ty, e2, e3, e4, e5⟩ := hrr
  have hbd : 0 + r.xs.length * r.sz ≤ arr.size := by rw [e3, e1]; have := Nat.mul_le_mul_right r.sz e4; omega
  have hpc := e5.piece hbd off (off + len) (by omega) hle
  have heq : (r.xs.take (off + len)).drop off = (r.xs.drop off).take len := by rw [List.drop_take]; congr 1; omega
  rw [heq, Nat.zero_add] at hpc
  exact ⟨b, arr, ty, hb, by rw [e1], e2, hpc.2, hpc.1⟩

/-- what a frozen value keeps of its shape -/
def Shape (x y : PV) : Prop := x.isAgg = y.isAgg ∧ x.cells.length = y.cells.length ∧ ((∀ c ∈ x.cells, c.one = true) → ∀ c ∈ y.cells, c.one = true) ∧ (x.one = true → y.one = true)

theorem Shape.elem {K K' : Ctx} {x x' : PV} {s o : Nat} {arr : Array Value} (hsh : Shape x x') (h : ∀ y, VR K x y → VR K' x' y) (hx : (x.cells.length = s ∧ ∀ c ∈ x.cells, c.one = true) ∧ VR K x (elemVal s arr o x.isAgg)) :
    (x'.cells.length = s ∧ ∀ c ∈ x'.cells, c.one = true) ∧ VR K' x' (elemVal s arr o x'.isAgg) :=
  ⟨⟨hsh.2.1 ▸ hx.1.1, hsh.2.2.1 hx.1.2⟩, hsh.1 ▸ h _ hx.2⟩

mutual
theorem FV.sound (hr : HR w h ι used) (hs : ∀ t r, h2 t = some r → h t = some r) (hS : ∀ t ∈ S, h2 t = none) : ∀ {x x' : PV}, FV h S x x' → (∀ y, VR (mkK w h ι used) x y → VR (mkK w h2 ι used) x' y) ∧ Shape x x'
  | _, _, .same x => ⟨fun y hv => VR.evo (sub_evo hr hs) x y hv, rfl, rfl, fun h => h, fun h => h⟩
  | _, _, .row t ver off len r ys ht hrow hle hm hfv => by
    refine ⟨fun y hv => ?_, rfl, rfl, fun _ c hc => ?_, fun _ => rfl⟩
    · obtain ⟨A, c, rfl, h1, h2'⟩ := ref_piece hr hv hrow hle
      obtain ⟨i1, i2, i3⟩ := FVs.sound hr hs hS hfv
      have hl : ys.length = len := by rw [← i3]; simp; omega
      rw [← hl]
      refine VR.sl_mk (by rw [hl]; exact h1) (fun h => by cases h) (by rw [hl]; exact hm) (fun hne => ?_)
      obtain ⟨b, arr, ty, g1, g2, g3, g4, g5⟩ := h2' (by intro e; rw [e] at i3; exact hne (List.eq_nil_of_length_eq_zero i3.symm))
      refine ⟨_, arr, ty, (0, 0), r.sz, g2, rfl, ?_, g3, by rw [← i3]; exact g4, i2 _ _ _ g5⟩
      rintro ⟨t', r', k1, k2⟩
      have := hr.inj t' t r' r b (hs t' r' k1) (rowAt_some hrow).1 k2 g1
      subst this
      rw [hS _ ht] at k1; cases k1
    · simp [PV.cells] at hc; subst hc; rfl
  | _, _, .agg cs ds hfv => by
    obtain ⟨i1, i2, i3⟩ := FVs.sound hr hs hS hfv
    refine ⟨fun y hv => ?_, rfl, i3, FVs.ones hfv, fun h => by simp [PV.one] at h⟩
    simp only [VR] at hv ⊢
    obtain ⟨ys, e, hy⟩ := hv
    exact ⟨ys, e, i1 _ hy⟩
  | _, _, .tup cs ds hfv => by
    obtain ⟨i1, i2, i3⟩ := FVs.sound hr hs hS hfv
    refine ⟨fun y hv => ?_, rfl, rfl, fun h c hc => ?_, fun h => by simp [PV.one] at h⟩
    · simp only [VR] at hv ⊢
      obtain ⟨ys, e, hy⟩ := hv
      exact ⟨ys, e, i1 _ hy⟩
    · have := h (.tup cs) (by simp [PV.cells]); simp [PV.one] at this
  | _, _, .clo f cs ds hfv => by
    obtain ⟨i1, i2, i3⟩ := FVs.sound hr hs hS hfv
    refine ⟨fun y hv => ?_, rfl, rfl, fun h c hc => ?_, fun h => rfl⟩
    · simp only [VR] at hv ⊢
      obtain ⟨ys, e, hy⟩ := hv
      exact ⟨ys, e, i1 _ hy⟩
    · simp [PV.cells] at hc; subst hc; rfl
  | _, _, .sl b xs ys hfv => by
    obtain ⟨i1, i2, i3⟩ := FVs.sound hr hs hS hfv
    refine ⟨fun y hv => ?_, rfl, rfl, fun h c hc => ?_, fun h => rfl⟩
    · simp only [VR] at hv
      obtain ⟨A, c, rfl, h1, h2', h3, h4⟩ := hv
      rw [i3] at h1 h3 ⊢
      refine VR.sl_mk h1 (fun h => by cases h) h3 (fun hne => ?_)
      obtain ⟨ad, arr, ty, fr, s, g1, g2, g3, g4, g5, g6⟩ := h4 (fun e => hne (List.eq_nil_of_length_eq_zero (by rw [← i3, e]; rfl)))
      exact ⟨ad, arr, ty, fr, s, g1, g2, (fun ⟨t, r, k1, k2⟩ => g3 ⟨t, r, hs t r k1, k2⟩), g4, by rw [← i3]; exact g5, i2 _ _ _ g6⟩
    · simp [PV.cells] at hc; subst hc; rfl
  | _, _, .ptr t ver i f r e ds ht hrow he hf hfv => by
    obtain ⟨i1, i2, i3⟩ := FVs.sound hr hs hS hfv
    refine ⟨fun y hv => ?_, rfl, rfl, fun h c hc => ?_, fun h => rfl⟩
    · simp only [VR] at hv
      obtain ⟨_, A, rfl, hv⟩ := hv
      obtain ⟨b, hb, rfl⟩ := hv _ (tok_of hrow)
      obtain ⟨arr, ty, g1, g2, g3, g4, g5, g6, g7, g8⟩ := row_elem hr (rowAt_some hrow).1 hb he
      have hd := VRs.drop g8 f
      have hl := hd.length
      rw [List.length_drop, List.length_take, List.length_drop, Array.length_toList, List.length_drop] at hl
      have h3 : ds.length = r.sz - f := by rw [← i3, List.length_drop, g7.1]
      have hfs : f ≤ r.sz := by rw [← g7.1]; exact hf
      simp only [VR]
      refine ⟨_, arr, ty, (0, 0), rfl, rfl, ?_, g1, ?_, ?_⟩
      · rintro ⟨t', r', k1, k2⟩
        have := hr.inj t' t r' r b (hs t' r' k1) (rowAt_some hrow).1 k2 hb
        subst this
        rw [hS _ ht] at k1; cases k1
      · show i * (ι t).sz + f + ds.length ≤ arr.size
        rw [g3, h3]; omega
      · have := i1 _ hd
        show VRs _ ds (arr.extract (i * (ι t).sz + f) (i * (ι t).sz + f + ds.length)).toList
        rw [g3, h3]
        have e2 : (arr.extract (i * r.sz + f) (i * r.sz + f + (r.sz - f))).toList = ((arr.toList.drop (i * r.sz)).take r.sz).drop f := by
          rw [Array.toList_extract, List.extract_eq_take_drop, List.drop_take, List.drop_drop]
          congr 1
          omega
        rw [e2]; exact this
    · simp [PV.cells] at hc; subst hc; rfl
theorem FVs.sound (hr : HR w h ι used) (hs : ∀ t r, h2 t = some r → h t = some r) (hS : ∀ t ∈ S, h2 t = none) : ∀ {xs xs' : List PV}, FVs h S xs xs' →
    (∀ ys, VRs (mkK w h ι used) xs ys → VRs (mkK w h2 ι used) xs' ys) ∧ (∀ s arr o, SLR (mkK w h ι used) s arr o xs → SLR (mkK w h2 ι used) s arr o xs') ∧ xs.length = xs'.length
  | _, _, .nil => ⟨fun ys hy => by simpa [VRs] using hy, fun _ _ _ _ => by simp [SLR], rfl⟩
  | _, _, .cons x y xs ys hx hxs => by
    obtain ⟨i1, i2⟩ := FV.sound hr hs hS hx
    obtain ⟨j1, j2, j3⟩ := FVs.sound hr hs hS hxs
    refine ⟨fun zs hz => ?_, fun s arr o hz => ?_, by simp [j3]⟩
    · simp only [VRs] at hz ⊢
      obtain ⟨z, zs', e, k1, k2⟩ := hz
      exact ⟨z, zs', e, i1 _ k1, j1 _ k2⟩
    · simp only [SLR] at hz ⊢
      obtain ⟨k1, k2⟩ := i2.elem i1 ⟨hz.1, hz.2.1⟩
      exact ⟨k1, k2, j2 _ _ _ hz.2.2⟩
theorem FV.one : ∀ {x x' : PV}, FV h S x x' → x.one = true → x'.one = true
  | _, _, .same x, h1 => h1
  | _, _, .row .., _ => rfl
  | _, _, .agg .., h1 => by simp [PV.one] at h1
  | _, _, .tup .., h1 => by simp [PV.one] at h1
  | _, _, .clo .., _ => rfl
  | _, _, .sl .., _ => rfl
  | _, _, .ptr .., _ => rfl
theorem FVs.ones : ∀ {xs xs' : List PV}, FVs h S xs xs' → (∀ c ∈ xs, c.one = true) → ∀ c ∈ xs', c.one = true
  | _, _, .nil, _, c, hc => by cases hc
  | _, _, .cons x y xs ys hx hxs, h1, c, hc => by
    rcases List.mem_cons.1 hc with rfl | hc
    · exact FV.one hx (h1 x (by simp))
    · exact FVs.ones hxs (fun z hz => h1 z (by simp [hz])) c hc
end
end

/-! ### rows that a call has made, read as lists by the caller -/
section
variable {w' : World} {h h1 : H} {ι ι1 : Tok → TI} {used used1 : Tok → Nat → Prop}
mutual
theorem FX.sound (hr1 : HR w' h1 ι1 used1) (hf : ∀ t r b, h1 t = some r → (ι1 t).blk = some b → ∀ t' r', h t' = some r' → (ι t').blk ≠ some b) : ∀ {x x' : PV}, FX h1 x x' →
    (∀ y, VR (mkK w' h1 ι1 used1) x y → VR (mkK w' h ι used) x' y) ∧ Shape x x'
  | _, _, .v x => ⟨fun y hv => by simpa [VR] using hv, rfl, rfl, fun h => h, fun h => h⟩
  | _, _, .row t ver off len r ys hrow hle hm hfv => by
    refine ⟨fun y hv => ?_, rfl, rfl, fun _ c hc => ?_, fun _ => rfl⟩
    · obtain ⟨A, c, rfl, h1', h2'⟩ := ref_piece hr1 hv hrow hle
      obtain ⟨i1, i2, i3⟩ := FXs.sound hr1 hf hfv
      have hl : ys.length = len := by rw [← i3]; simp; omega
      rw [← hl]
      refine VR.sl_mk (by rw [hl]; exact h1') (fun h => by cases h) (by rw [hl]; exact hm) (fun hne => ?_)
      obtain ⟨b, arr, ty, g1, g2, g3, g4, g5⟩ := h2' (by intro e; rw [e] at i3; exact hne (List.eq_nil_of_length_eq_zero i3.symm))
      refine ⟨_, arr, ty, (0, 0), r.sz, g2, rfl, ?_, g3, by rw [← i3]; exact g4, i2 _ _ _ g5⟩
      rintro ⟨t', r', k1, k2⟩
      exact hf t r b (rowAt_some hrow).1 g1 t' r' k1 k2
    · simp [PV.cells] at hc; subst hc; rfl
  | _, _, .agg cs ds hfv => by
    obtain ⟨i1, i2, i3⟩ := FXs.sound hr1 hf hfv
    refine ⟨fun y hv => ?_, rfl, i3, FXs.ones hfv, fun h => by simp [PV.one] at h⟩
    simp only [VR] at hv ⊢
    obtain ⟨ys, e, hy⟩ := hv
    exact ⟨ys, e, i1 _ hy⟩
  | _, _, .tup cs ds hfv => by
    obtain ⟨i1, i2, i3⟩ := FXs.sound hr1 hf hfv
    refine ⟨fun y hv => ?_, rfl, rfl, fun h c hc => ?_, fun h => by simp [PV.one] at h⟩
    · simp only [VR] at hv ⊢
      obtain ⟨ys, e, hy⟩ := hv
      exact ⟨ys, e, i1 _ hy⟩
    · have := h (.tup cs) (by simp [PV.cells]); simp [PV.one] at this
theorem FXs.sound (hr1 : HR w' h1 ι1 used1) (hf : ∀ t r b, h1 t = some r → (ι1 t).blk = some b → ∀ t' r', h t' = some r' → (ι t').blk ≠ some b) : ∀ {xs xs' : List PV}, FXs h1 xs xs' →
    (∀ ys, VRs (mkK w' h1 ι1 used1) xs ys → VRs (mkK w' h ι used) xs' ys) ∧ (∀ s arr o, SLR (mkK w' h1 ι1 used1) s arr o xs → SLR (mkK w' h ι used) s arr o xs') ∧ xs.length = xs'.length
  | _, _, .nil => ⟨fun ys hy => by simpa [VRs] using hy, fun _ _ _ _ => by simp [SLR], rfl⟩
  | _, _, .cons x y xs ys hx hxs => by
    obtain ⟨i1, i2⟩ := FX.sound hr1 hf hx
    obtain ⟨j1, j2, j3⟩ := FXs.sound hr1 hf hxs
    refine ⟨fun zs hz => ?_, fun s arr o hz => ?_, by simp [j3]⟩
    · simp only [VRs] at hz ⊢
      obtain ⟨z, zs', e, k1, k2⟩ := hz
      exact ⟨z, zs', e, i1 _ k1, j1 _ k2⟩
    · simp only [SLR] at hz ⊢
      obtain ⟨k1, k2⟩ := i2.elem i1 ⟨hz.1, hz.2.1⟩
      exact ⟨k1, k2, j2 _ _ _ hz.2.2⟩
theorem FX.one : ∀ {x x' : PV}, FX h1 x x' → x.one = true → x'.one = true
  | _, _, .v x, h1 => h1
  | _, _, .row .., _ => rfl
  | _, _, .agg .., h1 => by simp [PV.one] at h1
  | _, _, .tup .., h1 => by simp [PV.one] at h1
theorem FXs.ones : ∀ {xs xs' : List PV}, FXs h1 xs xs' → (∀ c ∈ xs, c.one = true) → ∀ c ∈ xs', c.one = true
  | _, _, .nil, _, c, hc => by cases hc
  | _, _, .cons x y xs ys hx hxs, h1, c, hc => by
    rcases List.mem_cons.1 hc with rfl | hc
    · exact FX.one hx (h1 x (by simp))
    · exact FXs.ones hxs (fun z hz => h1 z (by simp [hz])) c hc
end
end
end Go.Vs
