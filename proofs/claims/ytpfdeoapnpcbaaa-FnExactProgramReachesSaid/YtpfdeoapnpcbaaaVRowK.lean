/-
  What is proved here: how arguments that are read as data are plain values, and what a law's run gives for its row.
  Conditions: none.
-/
import Derived.Test.YtpfdeoapnpcbaaaVDec
import Derived.Deep.Slices
import Derived.ChangeArms
import Derived.ChangeShapes
import Derived.WideShapes
import Derived.RowKit
import Derived.Below
import Derived.Carry
import Derived.WalkKit
import Derived.ProofKit
import Derived.OpenShut
set_option linter.unusedSimpArgs false
set_option linter.unusedSectionVars false
namespace Go.Vs
open Go.ChangeShapes Go.WideShapes Go.ChangeAt Go.RowKit
set_option linter.unusedVariables false

/-- a world before the call: no row -/
def K0 (w : World) : Ctx := mkK w noH (fun _ => ⟨none, 0, 0⟩) (fun _ _ => False)

def Opens (P : Program) (w : World) (t : TypeId) {α : Type} (e : α → PV) (ok : α → Prop) : Prop :=
  ∀ {H : Type} (enc : TypeId × Value → H) (fuel : Nat) (cs : List Value) (x : DataW H × List MemPlace), DataW.trod enc P w 0 (fun _ => true) true fuel t cs = some x → ∃ a, ok a ∧ VRs (K0 w) (e a).cells cs

section
variable {P : Program} {w : World} {t : TypeId}
def okI (k : IntKind) (n : Int) : Prop := (Lit.int k n).wf = true
def okS (s : ByteArray) : Prop := s.size ≤ 9223372036854775807
def okB (_ : Bool) : Prop := True
def okL {α : Type} (ok : α → Prop) (xs : List α) : Prop := xs.length ≤ 9223372036854775807 ∧ ∀ x ∈ xs, ok x

theorem Opens.int {k : IntKind} (ht : P.underlying t = some (.int k)) : Opens P w t (fun n => PV.v (.int k n)) (okI k) := by
  intro H enc fuel cs x h
  obtain ⟨n, rfl, _, hw⟩ := DataW.trod_int ht h
  exact ⟨n, hw, by simp [PV.cells, VRs, VR]⟩
theorem Opens.bool (ht : P.underlying t = some .bool) : Opens P w t B okB := by
  intro H enc fuel cs x h
  obtain ⟨n, rfl, _⟩ := DataW.trod_bool ht h
  exact ⟨n, trivial, by simp [PV.cells, VRs, VR]⟩
theorem Opens.string (ht : P.underlying t = some .string) : Opens P w t S okS := by
  intro H enc fuel cs x h
  obtain ⟨n, rfl, _, hs⟩ := DataW.trod_string ht h
  exact ⟨n, hs, by simp [PV.cells, VRs, VR]⟩

theorem SLR.mk {K : Ctx} {s : Nat} {arr : Array Value} : ∀ {o : Nat} {xs : List PV}, (∀ i x, xs[i]? = some x → (x.cells.length = s ∧ ∀ c ∈ x.cells, c.one = true) ∧ VR K x (elemVal s arr (o + i * s) x.isAgg)) → SLR K s arr o xs
  | _, [], _ => by simp [SLR]
  | o, x :: xs, h => by
    simp only [SLR]
    have h0 := h 0 x rfl
    rw [Nat.zero_mul, Nat.add_zero] at h0
    refine ⟨h0.1, h0.2, SLR.mk (fun i y hy => ?_)⟩
    have := h (i + 1) y (by simpa using hy)
    rwa [show o + (i + 1) * s = o + s + i * s by rw [Nat.succ_mul]; omega] at this

theorem choose_list {α : Type} {p : Nat → α → Prop} : ∀ n : Nat, (∀ i, i < n → ∃ a, p i a) → ∃ xs : List α, xs.length = n ∧ ∀ i x, xs[i]? = some x → p i x
  | 0, _ => ⟨[], rfl, fun i x h => by simp at h⟩
  | n + 1, h => by
    obtain ⟨xs, h1, h2⟩ := choose_list n (fun i hi => h i (by omega))
    obtain ⟨a, ha⟩ := h n (by omega)
    refine ⟨xs ++ [a], by simp [h1], fun i x hx => ?_⟩
    by_cases hi : i < xs.length
    · rw [List.getElem?_append_left hi] at hx; exact h2 i x hx
    · rw [List.getElem?_append_right (by omega)] at hx
      have : i - xs.length = 0 := by
        rcases Nat.eq_zero_or_pos (i - xs.length) with e | e
        · exact e
        · rw [List.getElem?_eq_none (by simp; omega)] at hx; cases hx
      rw [this] at hx
      simp at hx; subst hx
      rwa [show i = n by omega]

theorem Opens.slice {el : TypeId} {s : Nat} {α : Type} {e : α → PV} {ok : α → Prop} (ht : P.underlying t = some (.slice el)) (hs : szOf P el = some s) (hs0 : 0 < s) (hc : ∀ a, (e a).cells.length = s ∧ ∀ c ∈ (e a).cells, c.one = true) (h : Opens P w el e ok) :
    Opens P w t (eL e) (okL ok) := by
  intro H enc fuel cs x hx
  have hcel : P.cellsOf el = s := by unfold Program.cellsOf; unfold szOf at hs; rw [hs]; rfl
  rcases Go.Deep.open_slice ht hx with ⟨rfl, _⟩ | ⟨a, len, cap, m, n, D, Pl, rfl, _, hl, hm, hmm, _, hel⟩
  · refine ⟨[], ⟨Nat.zero_le _, fun x hx => by cases hx⟩, ?_⟩
    have : VR (K0 w) (.sl false []) (.slice none 0 0) := VR.sl_mk (Nat.le_refl _) (fun h => by cases h) (Nat.zero_le _) (fun h => absurd rfl h)
    exact VRs.cons_iff.2 ⟨this, VRs.nil_iff.2 rfl⟩
  · obtain ⟨xs, hx1, hx2⟩ := choose_list (p := fun i b => ok b ∧ ∃ cs', w.cells? 0 (a.add (i * s)) s = some cs' ∧ VRs (K0 w) (e b).cells cs') len (fun i hi => by
      obtain ⟨cs', h1, h2⟩ := hel i (by simp at hmm; omega)
      rw [hcel] at h1
      obtain ⟨b, hb1, hb2⟩ := h enc n cs' _ h2
      exact ⟨b, hb1, cs', h1, hb2⟩)
    have hml : len ≤ 9223372036854775807 := by unfold Go.maxLen at hm; omega
    refine ⟨xs, ⟨by omega, fun x hx => ?_⟩, ?_⟩
    · obtain ⟨i, hi⟩ := List.getElem?_of_mem hx
      exact (hx2 i x hi).1
    · have : VR (K0 w) (.sl false (xs.map e)) (.slice (some a) (xs.map e).length cap) := by
        refine VR.sl_mk (by simpa [hx1] using hl) (fun h => by cases h) (by simp [hx1]; unfold maxL; omega) (fun hne => ?_)
        have hlen : 0 < len := by
          rcases Nat.eq_zero_or_pos len with h0 | h0
          · exact absurd (by rw [List.eq_nil_of_length_eq_zero (hx1.trans h0)]; rfl) hne
          · exact h0
        -- the row's block
        obtain ⟨x0, hx0⟩ : ∃ x0, xs[0]? = some x0 := ⟨xs[0]'(by omega), List.getElem?_eq_getElem (by omega)⟩
        obtain ⟨_, cs0, hc0, _⟩ := hx2 0 x0 hx0
        obtain ⟨_, hl0, hg0⟩ := World.cells?_some hc0
        have hg := hg0 0 hs0
        have ha0 : (a.add (0 * s)).add 0 = a := by simp [Addr.add]
        rw [ha0] at hg
        have hsome : ∃ v, w.cell? a = some v := by rw [hg]; exact ⟨cs0[0]'(by omega), List.getElem?_eq_getElem (by omega)⟩
        obtain ⟨v, hv⟩ := hsome
        unfold World.cell? at hv
        obtain ⟨blk, off, spot⟩ := a
        simp only at hv
        cases hb : w.heap[blk]? with
        | none => simp [hb] at hv
        | some o =>
        cases o with
        | cells arr ty fr =>
          simp only [hb] at hv
          have hspot : spot = none := by
            cases spot with
            | none => rfl
            | some z => simp at hv
          subst hspot
          have hget : ∀ i x, xs[i]? = some x → VRs (K0 w) (e x).cells ((arr.toList.drop (off + i * s)).take s) ∧ off + i * s + s ≤ arr.size := by
            intro i x hxi
            obtain ⟨_, cs', hc', hv'⟩ := hx2 i x hxi
            obtain ⟨_, hl', hg'⟩ := World.cells?_some hc'
            have hk : ∀ j, j < s → arr[off + i * s + j]? = cs'[j]? := by
              intro j hj
              have := hg' j hj
              rw [add_at', add_at', cell_at hb] at this
              exact this
            have hsz : off + i * s + s ≤ arr.size := by
              have := hk (s - 1) (by omega)
              rw [List.getElem?_eq_getElem (by omega)] at this
              have := (Array.getElem?_eq_some_iff.1 this).1
              omega
            refine ⟨?_, hsz⟩
            have : (arr.toList.drop (off + i * s)).take s = cs' := by
              apply List.ext_getElem?
              intro j
              by_cases hj : j < s
              · rw [List.getElem?_take, if_pos hj, List.getElem?_drop, Array.getElem?_toList, hk j hj]
              · rw [List.getElem?_take, if_neg hj, List.getElem?_eq_none (by omega)]
            rw [this]; exact hv'
          refine ⟨⟨blk, off, none⟩, arr, ty, fr, s, rfl, rfl, (fun ⟨t', r, h1, _⟩ => by cases h1), hb, ?_, SLR.mk (fun i x hxi => ?_)⟩
          · obtain ⟨xl, hxl⟩ : ∃ xl, xs[len - 1]? = some xl := ⟨xs[len - 1]'(by omega), List.getElem?_eq_getElem (by omega)⟩
            have := (hget (len - 1) xl hxl).2
            rw [List.length_map, hx1]
            obtain ⟨k, rfl⟩ : ∃ k, len = k + 1 := ⟨len - 1, by omega⟩
            rw [Nat.add_sub_cancel] at this
            show off + (k + 1) * s ≤ arr.size
            rw [Nat.succ_mul]; omega
          · rw [List.getElem?_map] at hxi
            obtain ⟨b, hb1, rfl⟩ := Option.map_eq_some_iff.1 hxi
            obtain ⟨h1, h2⟩ := hget i b hb1
            exact ⟨hc b, (VR.elem (hc b).1 (by simpa using h2)).2 h1⟩
        | _ => simp [hb] at hv
      have e1 : (xs.map e).length = len := by simp [hx1]
      rw [e1] at this
      exact VRs.cons_iff.2 ⟨this, VRs.nil_iff.2 rfl⟩

/-- a field of one cell -/
theorem Opens.field {α : Type} {e : α → PV} {ok : α → Prop} {fs : Array Field} {cs : List Value} {H : Type} {enc : TypeId × Value → H} {xs : List (DataW H × List MemPlace)} {n i off ft : Nat} {f : Field} {c : Value}
    (hf : ∀ (i : Nat) (f : Field), fs[i]? = some f → DataW.trod enc P w 0 (fun _ => true) true n f.type ((cs.drop f.offset).take (P.cellsOf f.type)) = xs[i]?) (hn : xs.length = fs.size)
    (hi : fs[i]? = some f) (ho : f.offset = off) (hft : f.type = ft) (hc : szOf P ft = some 1) (hcs : cs[off]? = some c) (h : Opens P w ft e ok) : ∃ a, ok a ∧ VRs (K0 w) (e a).cells [c] := by
  subst ho hft
  have h1 := hf i f hi
  have hcel : P.cellsOf f.type = 1 := by unfold Program.cellsOf; unfold szOf at hc; rw [hc]; rfl
  have hlt : i < xs.length := by rw [hn]; exact (Array.getElem?_eq_some_iff.1 hi).1
  rw [hcel, List.getElem?_eq_getElem hlt] at h1
  have : (cs.drop f.offset).take 1 = [c] := by
    obtain ⟨hl, he⟩ := List.getElem?_eq_some_iff.1 hcs
    rw [List.drop_eq_getElem_cons hl, List.take_succ_cons, List.take_zero, he]
  rw [this] at h1
  exact h enc n [c] _ h1
theorem VRs.one1 {x : PV} {c : Value} (hx : x.isAgg = false) (h : VRs (K0 w) x.cells [c]) : VR (K0 w) x c := by
  cases x with
  | agg cs => cases hx
  | _ => simpa [PV.cells, VRs] using h

/-- arguments -/
theorem arg_int {H : Type} {enc : TypeId × Value → H} {k : IntKind} {v : Value} {d : DataW H} {ps : List MemPlace} {r : Reach} {b0 : Nat} (ht : P.underlying t = some (.int k)) (hval : Value.okWide P w r b0 t v) (hd : DataW.Trod enc P w 0 (fun _ => true) true t v d ps) :
    ∃ n, okI k n ∧ VR (K0 w) (.v (.int k n)) v := by
  obtain ⟨n, rfl, _, _, hw⟩ := open_int ht hval hd
  exact ⟨n, hw, by simp [VR]⟩
theorem arg_slice {H : Type} {enc : TypeId × Value → H} {v : Value} {d : DataW H} {ps : List MemPlace} {r : Reach} {b0 el : Nat} {α : Type} {e : α → PV} {ok : List α → Prop} (ht : P.underlying t = some (.slice el)) (hval : Value.okWide P w r b0 t v) (hd : DataW.Trod enc P w 0 (fun _ => true) true t v d ps) (h : Opens P w t (eL e) ok) :
    ∃ xs, ok xs ∧ VR (K0 w) (.sl false (xs.map e)) v := by
  obtain ⟨a, len, cap, rfl⟩ := okWide_slice ht hval
  obtain ⟨fuel, hf⟩ := hd
  obtain ⟨xs, h1, h2⟩ := h enc fuel _ _ hf
  exact ⟨xs, h1, VRs.one1 rfl (by simpa [Value.cells] using h2)⟩
theorem arg_struct {H : Type} {enc : TypeId × Value → H} {v : Value} {d : DataW H} {ps : List MemPlace} {r : Reach} {b0 : Nat} {fs : Array Field} {α : Type} {e : α → PV} {ok : α → Prop} (ht : P.underlying t = some (.struct fs)) (hval : Value.okWide P w r b0 t v) (hd : DataW.Trod enc P w 0 (fun _ => true) true t v d ps) (h : Opens P w t e ok) (he : ∀ a, ∃ cs, e a = .agg cs) :
    ∃ a, ok a ∧ VR (K0 w) (e a) v := by
  obtain ⟨cs, rfl, _⟩ := okWide_struct ht hval
  obtain ⟨fuel, hf⟩ := hd
  obtain ⟨a, h1, h2⟩ := h enc fuel _ _ hf
  obtain ⟨cl, hcl⟩ := he a
  refine ⟨a, h1, ?_⟩
  rw [hcl] at h2 ⊢
  simp only [VR]
  exact ⟨cs, rfl, by simpa [PV.cells, Value.cells] using h2⟩
theorem arg_bool {H : Type} {enc : TypeId × Value → H} {v : Value} {d : DataW H} {ps : List MemPlace} {r : Reach} {b0 : Nat} (ht : P.underlying t = some .bool) (hval : Value.okWide P w r b0 t v) (hd : DataW.Trod enc P w 0 (fun _ => true) true t v d ps) :
    ∃ n, VR (K0 w) (B n) v := by
  obtain ⟨n, rfl, _⟩ := open_bool ht hval hd
  exact ⟨n, by simp [VR]⟩

theorem K0_hr (w : World) : HR w noH (fun _ => ⟨none, 0, 0⟩) (fun _ _ => False) := ⟨fun t r h => (by cases h), fun t r v h => (by cases h), fun t r h => (by cases h), fun t t' r r' b h => (by cases h)⟩
/-- what a law's run gives for its row -/
theorem law_calls {f : FuncId} {args : List PV} {vals : Array Value} {W : World} {b : Bool} (hrun : Gives P f args (B b)) (ha : VRs (K0 W) args vals.toList) :
    Calls P f vals W fun e w' => e = .returned (.bool b) ∧ Below W.heap.size W w' := by
  refine ((run_sound (hrun [] noH)).2 W _ _ vals (K0_hr W) (fun _ _ h => h.elim) ha).mono fun e w' hp => ?_
  obtain ⟨y, ι', used', rfl, h1, h2, h3, _⟩ := hp
  simp only [VR] at h3
  subst h3
  exact ⟨rfl, h2.os, h2.tape, h2.output, h2.size, fun k hk => h2.keep k hk (fun ⟨t, r, h, _⟩ => by cases h)⟩
end
end Go.Vs
