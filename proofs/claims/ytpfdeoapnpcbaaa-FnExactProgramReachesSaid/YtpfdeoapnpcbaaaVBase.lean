/-
  What is proved here: a reading of the model's values as plain values ('VR'), and that it stays when the world grows.
  Conditions: none.
-/
import Derived.Calls
import Derived.Orders
import Derived.Laws.Sem
import Derived.KernelRfl
set_option linter.unusedVariables false
set_option linter.unusedSimpArgs false
set_option linter.unusedSectionVars false
namespace Go.Vs

abbrev Tok := List Nat

/-- A value as a plain datum: a slice that nobody writes is the list of its elements; a row that may be written has a token. -/
inductive PV where
  | v (x : Value)
  | sl (tight : Bool) (xs : List PV)
  | ref (t : Tok) (ver off len : Nat)
  | ptr (t : Tok) (ver i f : Nat)
  | iptr (cells : List PV)
  | agg (cells : List PV)
  | tup (vs : List PV)
  | clo (f : FuncId) (caps : List PV)
  deriving Inhabited

def PV.cells : PV → List PV
  | .agg cs => cs
  | x => [x]
def PV.isAgg : PV → Bool
  | .agg _ => true
  | _ => false

/-- fits one cell -/
def PV.one : PV → Bool
  | .v x => x.oneCell'
  | .agg _ => false
  | .tup _ => false
  | _ => true

/-- Where a row lies: its block (none: nothing has been made for it yet), the cells of an element, how many elements it has room for. -/
structure TI where
  blk : Option Nat
  sz : Nat
  cap : Nat

structure Ctx where
  hp : Nat → Option Obj
  tok : Tok → Nat → Option TI
  mt : Nat → Prop
  used : Tok → Nat → Prop

/-- An element as a value, out of its cells. -/
def elemVal (s : Nat) (arr : Array Value) (o : Nat) (ag : Bool) : Value := if ag then .agg (arr.extract o (o + s)) else arr.getD o undef

def maxL : Nat := 2 ^ 63 - 1

mutual
def VR (K : Ctx) : PV → Value → Prop
  | .v x, y => y = x
  | .sl tight xs, y => ∃ A c, y = .slice A xs.length c ∧ xs.length ≤ c ∧ (tight = true → c = xs.length) ∧ xs.length ≤ maxL ∧
      (xs ≠ [] → ∃ ad arr ty fr s, A = some ad ∧ ad.spot = none ∧ ¬ K.mt ad.block ∧ K.hp ad.block = some (.cells arr ty fr) ∧
        ad.off + xs.length * s ≤ arr.size ∧ SLR K s arr ad.off xs)
  | .ref t ver off len, y => K.used t ver ∧ ∃ A c, y = .slice A len c ∧ ∀ ti, K.tok t ver = some ti →
      len ≤ c ∧ off + c ≤ ti.cap ∧ (c ≠ 0 → ∃ b, ti.blk = some b ∧ A = some ⟨b, off * ti.sz, none⟩)
  | .ptr t ver i f, y => K.used t ver ∧ ∃ A, y = .pointer A ∧ ∀ ti, K.tok t ver = some ti → ∃ b, ti.blk = some b ∧ A = some ⟨b, i * ti.sz + f, none⟩
  | .iptr cells, y => ∃ ad arr ty fr, y = .pointer (some ad) ∧ ad.spot = none ∧ ¬ K.mt ad.block ∧ K.hp ad.block = some (.cells arr ty fr) ∧
      ad.off + cells.length ≤ arr.size ∧ VRs K cells (arr.extract ad.off (ad.off + cells.length)).toList
  | .agg cs, y => ∃ ys : Array Value, y = .agg ys ∧ VRs K cs ys.toList
  | .tup cs, y => ∃ ys : Array Value, y = .tuple ys ∧ VRs K cs ys.toList
  | .clo f cs, y => ∃ ys : Array Value, y = .func (.func f) #[] ys ∧ VRs K cs ys.toList
def VRs (K : Ctx) : List PV → List Value → Prop
  | [], ys => ys = []
  | x :: xs, ys => ∃ y ys', ys = y :: ys' ∧ VR K x y ∧ VRs K xs ys'
def SLR (K : Ctx) (s : Nat) (arr : Array Value) : Nat → List PV → Prop
  | _, [] => True
  | o, x :: xs => (x.cells.length = s ∧ ∀ c ∈ x.cells, c.one = true) ∧ VR K x (elemVal s arr o x.isAgg) ∧ SLR K s arr (o + s) xs
end

/-- Worlds go on: below what has been made, only rows that may be written change. -/
structure Evo (w w' : World) (K K' : Ctx) : Prop where
  os : w'.os = w.os
  tape : w'.tape = w.tape
  output : w'.output = w.output
  size : w.heap.size ≤ w'.heap.size
  keep : ∀ b, b < w.heap.size → ¬ K.mt b → w'.heap[b]? = w.heap[b]?
  tok : ∀ t ver ti, K.used t ver → K'.tok t ver = some ti → K.tok t ver = some ti
  mt : ∀ b, b < w.heap.size → K'.mt b → K.mt b
  used : ∀ t ver, K.used t ver → K'.used t ver
  hp : K.hp = (w.heap[·]?)
  hp' : K'.hp = (w'.heap[·]?)

theorem Evo.obj {w w' : World} {K K' : Ctx} (h : Evo w w' K K') {b : Nat} {o : Obj} (hm : ¬ K.mt b) (ho : K.hp b = some o) : ¬ K'.mt b ∧ K'.hp b = some o := by
  rw [h.hp] at ho
  have hlt : b < w.heap.size := (Array.getElem?_eq_some_iff.1 ho).1
  refine ⟨fun h' => hm (h.mt b hlt h'), ?_⟩
  rw [h.hp']
  exact (h.keep b hlt hm).trans ho

section
variable {w w' : World} {K K' : Ctx}
mutual
theorem VR.evo (h : Evo w w' K K') : ∀ (x : PV) (y : Value), VR K x y → VR K' x y
  | .v x, y, hv => by simpa [VR] using hv
  | .sl t xs, y, hv => by
    simp only [VR] at hv ⊢
    obtain ⟨A, c, h1, h2, h3, h4, h5⟩ := hv
    refine ⟨A, c, h1, h2, h3, h4, fun hne => ?_⟩
    obtain ⟨ad, arr, ty, fr, s, e1, e2, e3, e4, e5, e6⟩ := h5 hne
    obtain ⟨g1, g2⟩ := h.obj e3 e4
    exact ⟨ad, arr, ty, fr, s, e1, e2, g1, g2, e5, SLR.evo h s arr ad.off xs e6⟩
  | .ref t ver off len, y, hv => by
    simp only [VR] at hv ⊢
    obtain ⟨hu, A, c, e, hv⟩ := hv
    exact ⟨h.used _ _ hu, A, c, e, fun ti hti => hv ti (h.tok _ _ _ hu hti)⟩
  | .ptr t ver i f, y, hv => by
    simp only [VR] at hv ⊢
    obtain ⟨hu, A, e, hv⟩ := hv
    exact ⟨h.used _ _ hu, A, e, fun ti hti => hv ti (h.tok _ _ _ hu hti)⟩
  | .iptr cs, y, hv => by
    simp only [VR] at hv ⊢
    obtain ⟨ad, arr, ty, fr, e1, e2, e3, e4, e5, e6⟩ := hv
    obtain ⟨g1, g2⟩ := h.obj e3 e4
    exact ⟨ad, arr, ty, fr, e1, e2, g1, g2, e5, VRs.evo h cs _ e6⟩
  | .agg cs, y, hv => by
    simp only [VR] at hv ⊢
    obtain ⟨ys, e1, e2⟩ := hv
    exact ⟨ys, e1, VRs.evo h cs _ e2⟩
  | .tup cs, y, hv => by
    simp only [VR] at hv ⊢
    obtain ⟨ys, e1, e2⟩ := hv
    exact ⟨ys, e1, VRs.evo h cs _ e2⟩
  | .clo f cs, y, hv => by
    simp only [VR] at hv ⊢
    obtain ⟨ys, e1, e2⟩ := hv
    exact ⟨ys, e1, VRs.evo h cs _ e2⟩
theorem VRs.evo (h : Evo w w' K K') : ∀ (xs : List PV) (ys : List Value), VRs K xs ys → VRs K' xs ys
  | [], ys, hv => by simpa [VRs] using hv
  | x :: xs, ys, hv => by
    simp only [VRs] at hv ⊢
    obtain ⟨y, ys', e1, e2, e3⟩ := hv
    exact ⟨y, ys', e1, VR.evo h x y e2, VRs.evo h xs ys' e3⟩
theorem SLR.evo (h : Evo w w' K K') (s : Nat) (arr : Array Value) : ∀ (o : Nat) (xs : List PV), SLR K s arr o xs → SLR K' s arr o xs
  | _, [], _ => by simp [SLR]
  | o, x :: xs, hv => by
    simp only [SLR] at hv ⊢
    exact ⟨hv.1, VR.evo h x _ hv.2.1, SLR.evo h s arr (o + s) xs hv.2.2⟩
end
end

theorem Evo.refl (w : World) (K : Ctx) (h : K.hp = (w.heap[·]?)) : Evo w w K K :=
  ⟨rfl, rfl, rfl, Nat.le_refl _, fun _ _ _ => rfl, fun _ _ _ _ h => h, fun _ _ h => h, fun _ _ h => h, h, h⟩

theorem Evo.trans {w w1 w2 : World} {K K1 K2 : Ctx} (h : Evo w w1 K K1) (k : Evo w1 w2 K1 K2) : Evo w w2 K K2 where
  os := k.os.trans h.os
  tape := k.tape.trans h.tape
  output := k.output.trans h.output
  size := Nat.le_trans h.size k.size
  keep := fun b hb hm => (k.keep b (Nat.lt_of_lt_of_le hb h.size) (fun h' => hm (h.mt b hb h'))).trans (h.keep b hb hm)
  tok := fun _ _ _ hu ht => h.tok _ _ _ hu (k.tok _ _ _ (h.used _ _ hu) ht)
  mt := fun b hb hm => h.mt b hb (k.mt b (Nat.lt_of_lt_of_le hb h.size) hm)
  used := fun t ver hu => k.used _ _ (h.used _ _ hu)
  hp := h.hp
  hp' := k.hp'

end Go.Vs
