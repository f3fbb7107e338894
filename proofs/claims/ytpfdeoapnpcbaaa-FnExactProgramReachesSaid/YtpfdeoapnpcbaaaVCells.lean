/-
  What is proved here: elements of a row, read cell by cell.
  Conditions: none.
-/
import Derived.Test.YtpfdeoapnpcbaaaVSim
import Derived.Laws.Cells
import Derived.Laws.CopyRow
set_option linter.unusedSimpArgs false
set_option linter.unusedSectionVars false
namespace Go.Vs
set_option linter.unusedVariables false

section
variable {K : Ctx}

theorem VR.one {x : PV} {y : Value} (h : VR K x y) (h1 : x.one = true) : y.oneCell' = true := by
  cases x with
  | v x => simp only [VR] at h; subst h; exact h1
  | sl t xs => simp only [VR] at h; obtain ⟨A, c, rfl, _⟩ := h; rfl
  | ref t ver off len => simp only [VR] at h; obtain ⟨_, A, c, rfl, _⟩ := h; rfl
  | ptr t ver i f => simp only [VR] at h; obtain ⟨_, A, rfl, _⟩ := h; rfl
  | iptr cs => simp only [VR] at h; obtain ⟨ad, arr, ty, fr, rfl, _⟩ := h; rfl
  | agg cs => simp [PV.one] at h1
  | tup cs => simp [PV.one] at h1
  | clo f cs => simp only [VR] at h; obtain ⟨ys, rfl, _⟩ := h; rfl

theorem VRs.length : ∀ {xs : List PV} {ys : List Value}, VRs K xs ys → ys.length = xs.length
  | [], ys, h => by simp only [VRs] at h; subst h; rfl
  | x :: xs, ys, h => by
    simp only [VRs] at h
    obtain ⟨y, ys', rfl, _, h⟩ := h
    simp [VRs.length h]

theorem VR.lo1 {x : PV} {y : Value} (h : VR K x y) : VR K x.lo1 y := by
  cases x with
  | sl t xs => simp only [VR, PV.lo1] at h ⊢; obtain ⟨A, c, e, h1, h2, h3, h4⟩ := h; exact ⟨A, c, e, h1, (fun h => by cases h), h3, h4⟩
  | _ => exact h
theorem VRs.lo1 : ∀ {xs : List PV} {ys : List Value}, VRs K xs ys → VRs K (xs.map PV.lo1) ys
  | [], ys, h => by simpa [VRs] using h
  | x :: xs, ys, h => by
    simp only [VRs, List.map_cons] at h ⊢
    obtain ⟨y, ys', e, h1, h2⟩ := h
    exact ⟨y, ys', e, h1.lo1, VRs.lo1 h2⟩
theorem VR.lo {x : PV} {y : Value} (h : VR K x y) : VR K x.lo y := by
  cases x with
  | sl t xs => exact h.lo1
  | agg cs => simp only [VR, PV.lo] at h ⊢; obtain ⟨ys, e, h1⟩ := h; exact ⟨ys, e, h1.lo1⟩
  | _ => exact h
theorem VRs.nil_iff {ys : List Value} : VRs K [] ys ↔ ys = [] := by simp [VRs]
theorem VRs.cons_iff {x : PV} {xs : List PV} {y : Value} {ys : List Value} : VRs K (x :: xs) (y :: ys) ↔ VR K x y ∧ VRs K xs ys := by
  simp only [VRs]
  constructor
  · rintro ⟨y', ys', e, h1, h2⟩; cases e; exact ⟨h1, h2⟩
  · rintro ⟨h1, h2⟩; exact ⟨y, ys, rfl, h1, h2⟩

theorem VRs.append_iff : ∀ {xs xs' : List PV} {ys ys' : List Value}, ys.length = xs.length → (VRs K (xs ++ xs') (ys ++ ys') ↔ VRs K xs ys ∧ VRs K xs' ys')
  | [], xs', ys, ys', h => by
    have : ys = [] := List.eq_nil_of_length_eq_zero (by simpa using h)
    subst this; simp [VRs.nil_iff]
  | x :: xs, xs', [], ys', h => by simp at h
  | x :: xs, xs', y :: ys, ys', h => by
    simp only [List.cons_append, VRs.cons_iff, VRs.append_iff (xs := xs) (ys := ys) (by simpa using h), and_assoc]

theorem VRs.get : ∀ {xs : List PV} {ys : List Value} {i : Nat} {x : PV}, VRs K xs ys → xs[i]? = some x → ∃ y, ys[i]? = some y ∧ VR K x y
  | [], ys, i, x, h, hx => by simp at hx
  | x0 :: xs, ys, i, x, h, hx => by
    simp only [VRs] at h
    obtain ⟨y, ys', rfl, h1, h2⟩ := h
    cases i with
    | zero => simp at hx; subst hx; exact ⟨y, by simp, h1⟩
    | succ i => simp at hx; obtain ⟨y', e, hv⟩ := VRs.get h2 hx; exact ⟨y', by simpa using e, hv⟩

theorem VRs.take {xs : List PV} {ys : List Value} (h : VRs K xs ys) (n : Nat) : VRs K (xs.take n) (ys.take n) := by
  have hl := h.length
  have : VRs K (xs.take n ++ xs.drop n) (ys.take n ++ ys.drop n) := by simpa using h
  exact ((VRs.append_iff (by simp [hl])).1 this).1
theorem VRs.drop {xs : List PV} {ys : List Value} (h : VRs K xs ys) (n : Nat) : VRs K (xs.drop n) (ys.drop n) := by
  have hl := h.length
  have : VRs K (xs.take n ++ xs.drop n) (ys.take n ++ ys.drop n) := by simpa using h
  exact ((VRs.append_iff (by simp [hl])).1 this).2
theorem VRs.append {xs xs' : List PV} {ys ys' : List Value} (h : VRs K xs ys) (h' : VRs K xs' ys') : VRs K (xs ++ xs') (ys ++ ys') :=
  (VRs.append_iff h.length).2 ⟨h, h'⟩

/-- An element against its cells. -/
theorem VR.elem {x : PV} {s o : Nat} {arr : Array Value} (hs : x.cells.length = s) (hb : o + s ≤ arr.size) :
    VR K x (elemVal s arr o x.isAgg) ↔ VRs K x.cells ((arr.toList.drop o).take s) := by
  cases x with
  | agg cs =>
    simp only [PV.isAgg, elemVal, if_true, PV.cells, VR]
    constructor
    · rintro ⟨ys, e, h⟩
      cases e
      simpa [Array.toList_extract, List.extract_eq_take_drop] using h
    · intro h
      exact ⟨_, rfl, by simpa [Array.toList_extract, List.extract_eq_take_drop] using h⟩
  | _ =>
    simp only [PV.cells, List.length_singleton] at hs
    subst hs
    have ho : o < arr.toList.length := by simp; omega
    have e : (arr.toList.drop o).take 1 = [arr.getD o undef] := by
      rw [List.drop_eq_getElem_cons ho]
      have : o < arr.size := by simpa using ho
      simp [Array.getD, this]
    rw [e]
    simp only [PV.cells, PV.isAgg, elemVal, Bool.false_eq_true, if_false, VRs.cons_iff, VRs.nil_iff, and_true]

def flat (xs : List PV) : List PV := xs.flatMap PV.cells
theorem flat_nil : flat [] = [] := rfl
theorem flat_cons (x : PV) (xs : List PV) : flat (x :: xs) = x.cells ++ flat xs := by simp [flat]
theorem flat_append (xs ys : List PV) : flat (xs ++ ys) = flat xs ++ flat ys := by simp [flat]
def Ok (s : Nat) (xs : List PV) : Prop := ∀ x ∈ xs, x.cells.length = s ∧ ∀ c ∈ x.cells, c.one = true
theorem flat_length {s : Nat} : ∀ {xs : List PV}, Ok s xs → (flat xs).length = xs.length * s
  | [], _ => by simp [flat]
  | x :: xs, h => by
    rw [flat_cons, List.length_append, flat_length (s := s) (xs := xs) (fun y hy => h y (by simp [hy])), (h x (by simp)).1, List.length_cons, Nat.succ_mul, Nat.add_comm]
theorem flat_take {s : Nat} : ∀ {xs : List PV} (n : Nat), Ok s xs → flat (xs.take n) = (flat xs).take (n * s)
  | [], n, _ => by simp [flat]
  | x :: xs, 0, h => by simp [flat]
  | x :: xs, n + 1, h => by
    have hx := (h x (by simp)).1
    rw [List.take_succ_cons, flat_cons, flat_cons, flat_take n (fun y hy => h y (by simp [hy])), Nat.succ_mul, List.take_append, hx,
      List.take_of_length_le (l := x.cells) (by omega), Nat.add_sub_cancel]
theorem flat_drop {s : Nat} : ∀ {xs : List PV} (n : Nat), Ok s xs → flat (xs.drop n) = (flat xs).drop (n * s)
  | [], n, _ => by simp [flat]
  | x :: xs, 0, h => by simp [flat]
  | x :: xs, n + 1, h => by
    have hx := (h x (by simp)).1
    rw [List.drop_succ_cons, flat_cons, flat_drop n (fun y hy => h y (by simp [hy])), Nat.succ_mul, List.drop_append, hx,
      List.drop_of_length_le (l := x.cells) (by omega), Nat.add_sub_cancel, List.nil_append]
theorem Ok.take {s : Nat} {xs : List PV} (h : Ok s xs) (n : Nat) : Ok s (xs.take n) := fun x hx => h x (List.mem_of_mem_take hx)
theorem Ok.drop {s : Nat} {xs : List PV} (h : Ok s xs) (n : Nat) : Ok s (xs.drop n) := fun x hx => h x (List.mem_of_mem_drop hx)
theorem Ok.append {s : Nat} {xs ys : List PV} (h : Ok s xs) (h' : Ok s ys) : Ok s (xs ++ ys) := fun x hx => by
  rcases List.mem_append.1 hx with hx | hx
  · exact h x hx
  · exact h' x hx
theorem Ok.one {s : Nat} {xs : List PV} (h : Ok s xs) : ∀ c ∈ flat xs, c.one = true := by
  intro c hc
  obtain ⟨x, hx, hc⟩ := List.mem_flatMap.1 hc
  exact (h x hx).2 c hc

/-- The elements of a row, all their cells in one list. -/
theorem SLR_iff {s : Nat} {arr : Array Value} : ∀ {o : Nat} {xs : List PV}, o + xs.length * s ≤ arr.size →
    (SLR K s arr o xs ↔ Ok s xs ∧ VRs K (flat xs) ((arr.toList.drop o).take (xs.length * s)))
  | o, [], _ => by simp [SLR, flat, VRs.nil_iff, Ok]
  | o, x :: xs, hb => by
    have hb' : o + s + xs.length * s ≤ arr.size := by rw [List.length_cons, Nat.succ_mul] at hb; omega
    simp only [SLR]
    rw [SLR_iff (o := o + s) (xs := xs) hb']
    have hcut : (arr.toList.drop o).take ((x :: xs).length * s) = (arr.toList.drop o).take s ++ (arr.toList.drop (o + s)).take (xs.length * s) := by
      rw [List.length_cons, Nat.succ_mul, Nat.add_comm (xs.length * s) s, List.take_add, List.drop_drop]
    rw [hcut, flat_cons]
    constructor
    · rintro ⟨h1, h2, h3, h4⟩
      rw [VR.elem h1.1 (by omega)] at h2
      refine ⟨?_, h2.append h4⟩
      intro y hy
      rcases List.mem_cons.1 hy with rfl | hy
      · exact h1
      · exact h3 y hy
    · rintro ⟨h1, h2⟩
      have hx := h1 x (by simp)
      have hl : ((arr.toList.drop o).take s).length = x.cells.length := by simp [hx.1]; omega
      rw [VRs.append_iff hl] at h2
      refine ⟨hx, ?_, fun y hy => h1 y (by simp [hy]), h2.2⟩
      rw [VR.elem hx.1 (by omega)]
      exact h2.1

end
end Go.Vs
