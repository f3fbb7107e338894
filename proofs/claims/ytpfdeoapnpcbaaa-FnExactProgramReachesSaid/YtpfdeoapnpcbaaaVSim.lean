/-
  What is proved here: how the rows of a plain heap lie in a world, and what a new row, and a row written anew, leave.
  Conditions: none.
-/
import Derived.Test.YtpfdeoapnpcbaaaVDef
set_option linter.unusedSimpArgs false
set_option linter.unusedSectionVars false
namespace Go.Vs
set_option linter.unusedVariables false

def mkK (w : World) (h : H) (ι : Tok → TI) (used : Tok → Nat → Prop) : Ctx where
  hp := fun b => w.heap[b]?
  tok := fun t v => match h t with | some r => if r.ver = v then some (ι t) else none | none => none
  mt := fun b => ∃ t r, h t = some r ∧ (ι t).blk = some b
  used := used

/-- a row, and where it lies -/
def RowR (K : Ctx) (r : Row) (ti : TI) : Prop :=
  ti.sz = r.sz ∧ match ti.blk with
    | none => r.xs = [] ∧ ti.cap = 0
    | some b => ∃ arr ty, K.hp b = some (.cells arr ty (0, 0)) ∧ arr.size = ti.cap * ti.sz ∧ r.xs.length ≤ ti.cap ∧ SLR K r.sz arr 0 r.xs

structure HR (w : World) (h : H) (ι : Tok → TI) (used : Tok → Nat → Prop) : Prop where
  us : ∀ t r, h t = some r → used t r.ver
  ver : ∀ t r v, h t = some r → used t v → v ≤ r.ver
  row : ∀ t r, h t = some r → RowR (mkK w h ι used) r (ι t)
  inj : ∀ t t' r r' b, h t = some r → h t' = some r' → (ι t).blk = some b → (ι t').blk = some b → t = t'

theorem mkK_tok {w : World} {h : H} {ι : Tok → TI} {used : Tok → Nat → Prop} {t : Tok} {v : Nat} {ti : TI} :
    (mkK w h ι used).tok t v = some ti ↔ ∃ r, h t = some r ∧ r.ver = v ∧ ti = ι t := by
  unfold mkK
  cases hh : h t with
  | none => simp [hh]
  | some r =>
    simp only [hh]
    constructor
    · intro e
      split at e
      · rename_i hv; exact ⟨r, rfl, hv, (Option.some.inj e).symm⟩
      · cases e
    · rintro ⟨r', e1, e2, e3⟩
      cases e1
      simp [e2, e3]

theorem upd_same (h : H) (t : Tok) (r : Row) : upd h t r t = some r := by simp [upd]
theorem upd_ne {h : H} {t t' : Tok} {r : Row} (hne : t' ≠ t) : upd h t r t' = h t' := by simp [upd, hne]

theorem HR.mt_lt {w : World} {h : H} {ι : Tok → TI} {used : Tok → Nat → Prop} (hr : HR w h ι used) {t : Tok} {r : Row} {b : Nat}
    (ht : h t = some r) (hb : (ι t).blk = some b) : b < w.heap.size := by
  have := hr.row t r ht
  unfold RowR at this
  rw [hb] at this
  obtain ⟨_, arr, ty, e, _⟩ := this
  exact (Array.getElem?_eq_some_iff.1 e).1

/-! ### a new row -/
theorem SLR.cellsLen {K : Ctx} {s : Nat} {arr : Array Value} : ∀ {o : Nat} {xs : List PV}, SLR K s arr o xs → ∀ x ∈ xs, x.cells.length = s ∧ ∀ c ∈ x.cells, c.one = true
  | _, [], _, _, hx => by cases hx
  | o, x :: xs, h, y, hy => by
    simp only [SLR] at h
    rcases List.mem_cons.1 hy with rfl | hy
    · exact h.1
    · exact SLR.cellsLen h.2.2 y hy

def upI (ι : Tok → TI) (t : Tok) (ti : TI) : Tok → TI := fun t' => if t' = t then ti else ι t'
def upU (used : Tok → Nat → Prop) (t : Tok) (v : Nat) : Tok → Nat → Prop := fun t' v' => used t' v' ∨ (t' = t ∧ v' = v)

section
variable {w w' : World} {h : H} {ι : Tok → TI} {used : Tok → Nat → Prop}

/-- A row is laid down anew, or in the place of an elder one: in a block that is new, or in its own. -/
theorem lay_evo (hr : HR w h ι used) {t : Tok} {r : Row} {ti : TI} (os : w'.os = w.os) (tape : w'.tape = w.tape) (out : w'.output = w.output) (size : w.heap.size ≤ w'.heap.size)
    (keep : ∀ b, b < w.heap.size → (∀ r0, h t = some r0 → (ι t).blk ≠ some b) → w'.heap[b]? = w.heap[b]?)
    (hver : ∀ v, used t v → r.ver = v → h t ≠ none ∧ ti = ι t ∧ ∀ r0, h t = some r0 → r0.ver = v)
    (hblk : ∀ b, ti.blk = some b → w.heap.size ≤ b ∨ (∃ r0, h t = some r0) ∧ (ι t).blk = some b) :
    Evo w w' (mkK w h ι used) (mkK w' (upd h t r) (upI ι t ti) (upU used t r.ver)) where
  os := os
  tape := tape
  output := out
  size := size
  keep := fun b hb hm => keep b hb (fun r0 h0 hb0 => hm ⟨t, r0, h0, hb0⟩)
  tok := by
    intro t' v ti' hu htok
    rw [mkK_tok] at htok ⊢
    obtain ⟨r1, h1, h2, h3⟩ := htok
    by_cases e : t' = t
    · subst e
      rw [upd_same] at h1; cases h1
      obtain ⟨g1, g2, g3⟩ := hver v hu h2
      cases hh : h t' with
      | none => exact absurd hh g1
      | some r0 => exact ⟨r0, rfl, g3 r0 hh, by simp only [upI, if_true] at h3; rw [h3, g2]⟩
    · rw [upd_ne e] at h1
      exact ⟨r1, h1, h2, by simp only [upI, if_neg e] at h3; exact h3⟩
  mt := by
    rintro b hb ⟨t', r1, h1, h2⟩
    by_cases e : t' = t
    · subst e
      simp only [upI, if_true] at h2
      rcases hblk b h2 with hge | ⟨⟨r0, h0⟩, h3⟩
      · omega
      · exact ⟨t', r0, h0, h3⟩
    · rw [upd_ne e] at h1
      simp only [upI, if_neg e] at h2
      exact ⟨t', r1, h1, h2⟩
  used := fun _ _ hu => Or.inl hu
  hp := rfl
  hp' := rfl

theorem lay_hr (hr : HR w h ι used) {t : Tok} {r : Row} {ti : TI}
    (he : Evo w w' (mkK w h ι used) (mkK w' (upd h t r) (upI ι t ti) (upU used t r.ver)))
    (keep : ∀ b, b < w.heap.size → (∀ r0, h t = some r0 → (ι t).blk ≠ some b) → w'.heap[b]? = w.heap[b]?)
    (hle : ∀ v, used t v → v ≤ r.ver)
    (hblk : ∀ b, ti.blk = some b → w.heap.size ≤ b ∨ (∃ r0, h t = some r0) ∧ (ι t).blk = some b)
    (hrow : RowR (mkK w' (upd h t r) (upI ι t ti) (upU used t r.ver)) r ti) : HR w' (upd h t r) (upI ι t ti) (upU used t r.ver) where
  us := by
    intro t' r' h'
    by_cases e : t' = t
    · subst e; rw [upd_same] at h'; cases h'; exact Or.inr ⟨rfl, rfl⟩
    · rw [upd_ne e] at h'; exact Or.inl (hr.us t' r' h')
  ver := by
    intro t' r' v h' hu
    by_cases e : t' = t
    · subst e; rw [upd_same] at h'; cases h'
      rcases hu with hu | ⟨_, rfl⟩
      · exact hle v hu
      · exact Nat.le_refl _
    · rw [upd_ne e] at h'
      rcases hu with hu | ⟨e', _⟩
      · exact hr.ver t' r' v h' hu
      · exact absurd e' e
  row := by
    intro t' r' h'
    by_cases e : t' = t
    · subst e; rw [upd_same] at h'; cases h'
      simpa only [upI, if_true] using hrow
    · rw [upd_ne e] at h'
      have := hr.row t' r' h'
      simp only [upI, if_neg e]
      unfold RowR at this ⊢
      refine ⟨this.1, ?_⟩
      cases hb : (ι t').blk with
      | none => rw [hb] at this; exact this.2
      | some b =>
        rw [hb] at this
        obtain ⟨_, arr, ty, e1, e2, e3, e4⟩ := this
        refine ⟨arr, ty, ?_, e2, e3, SLR.evo he _ _ _ _ e4⟩
        refine (keep b (hr.mt_lt h' hb) ?_).trans e1
        intro r0 h0 hb0
        exact e (hr.inj t' t r' r0 b h' h0 hb hb0)
  inj := by
    intro t1 t2 r1 r2 b h1 h2 b1 b2
    by_cases e1 : t1 = t <;> by_cases e2 : t2 = t
    · rw [e1, e2]
    · subst e1
      rw [upd_ne e2] at h2
      simp only [upI, if_true] at b1
      simp only [upI, if_neg e2] at b2
      rcases hblk b b1 with hge | ⟨⟨r0, h0⟩, h3⟩
      · have := hr.mt_lt h2 b2; omega
      · exact hr.inj t1 t2 r0 r2 b h0 h2 h3 b2
    · subst e2
      rw [upd_ne e1] at h1
      simp only [upI, if_true] at b2
      simp only [upI, if_neg e1] at b1
      rcases hblk b b2 with hge | ⟨⟨r0, h0⟩, h3⟩
      · have := hr.mt_lt h1 b1; omega
      · exact hr.inj t1 t2 r1 r0 b h1 h0 b1 h3
    · rw [upd_ne e1] at h1; rw [upd_ne e2] at h2
      simp only [upI, if_neg e1] at b1
      simp only [upI, if_neg e2] at b2
      exact hr.inj t1 t2 r1 r2 b h1 h2 b1 b2
end

end Go.Vs
