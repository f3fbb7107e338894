/-
  What is proved here: slices cut, indexed, built, made and appended to, for plain values.
  Conditions: none.
-/
import Derived.Test.YtpfdeoapnpcbaaaVOps1
import Derived.Deep.Upon
import Derived.Laws.AppendOwn
set_option linter.unusedSectionVars false
namespace Go.Vs
set_option linter.unusedVariables false
set_option linter.unusedSimpArgs false

section
variable {P : Program} {w : World} {h : H} {ι : Tok → TI} {used : Tok → Nat → Prop} {tk : Tok}

theorem bound_run {K : Ctx} {x : PV} {y : Value} {hi hi' b : Nat} {code : BoundsCode} (hv : VR K x y) (hb : bound x hi = some b) (hle : hi ≤ hi') (w : World) : (Instr.sliceBound y hi' code).run P w = .ok b w ∧ b ≤ hi := by
  unfold bound at hb
  split at hb
  · rename_i k i
    split at hb
    · rename_i hc
      cases hb
      simp only [VR] at hv
      subst hv
      refine ⟨?_, by omega⟩
      simp [Instr.sliceBound, asIntOf, hc.1, (by omega : i ≤ (hi' : Int))]
    · cases hb
  · cases hb

theorem VR.sl_mk {K : Ctx} {t : Bool} {xs : List PV} {A : Option Addr} {c : Nat} (h1 : xs.length ≤ c) (h2 : t = true → c = xs.length) (h3 : xs.length ≤ maxL)
    (h4 : xs ≠ [] → ∃ ad arr ty fr s, A = some ad ∧ ad.spot = none ∧ ¬ K.mt ad.block ∧ K.hp ad.block = some (.cells arr ty fr) ∧ ad.off + xs.length * s ≤ arr.size ∧ SLR K s arr ad.off xs) :
    VR K (.sl t xs) (.slice A xs.length c) := by
  simp only [VR]; exact ⟨A, c, rfl, h1, h2, h3, h4⟩

/-- a piece of a row -/
theorem SLR.piece {K : Ctx} {s : Nat} {arr : Array Value} {o : Nat} {xs : List PV} (hb : o + xs.length * s ≤ arr.size) (h : SLR K s arr o xs) (a b : Nat) (hab : a ≤ b) (hbl : b ≤ xs.length) :
    SLR K s arr (o + a * s) ((xs.take b).drop a) ∧ o + a * s + ((xs.take b).drop a).length * s ≤ arr.size := by
  have hl : ((xs.take b).drop a).length = b - a := by simp; omega
  have hs : a * s + (b - a) * s = b * s := by rw [← Nat.add_mul]; congr 1; omega
  have hs2 : b * s ≤ xs.length * s := Nat.mul_le_mul_right _ hbl
  have hb2 : o + a * s + ((xs.take b).drop a).length * s ≤ arr.size := by rw [hl]; omega
  refine ⟨?_, hb2⟩
  rw [SLR_iff hb] at h
  rw [SLR_iff hb2]
  refine ⟨(h.1.take b).drop a, ?_⟩
  have := (h.2.take (b * s)).drop (a * s)
  rw [flat_drop a (h.1.take b), flat_take b h.1, hl]
  rw [List.take_take, Nat.min_eq_left hs2] at this
  simp only [List.drop_take, List.drop_drop] at this ⊢
  rwa [show b * s - a * s = (b - a) * s by rw [Nat.sub_mul]] at this ⊢

theorem sl_piece {K : Ctx} {t : Bool} {xs : List PV} {A : Option Addr} {n c s : Nat} (hv : VR K (.sl t xs) (.slice A n c)) (hsz : ∀ x ∈ xs, x.cells.length = s ∨ xs = []) (a b m : Nat) (hab : a ≤ b) (hbl : b ≤ xs.length) (hm : b ≤ m) (t' : Bool)
    (ht : t' = true → m = b) (hmc : m ≤ c) (hs : ∀ ad arr ty fr s0, A = some ad → K.hp ad.block = some (.cells arr ty fr) → SLR K s0 arr ad.off xs → xs ≠ [] → s0 = s) :
    VR K (.sl t' ((xs.take b).drop a)) (sliced A a b m s) := by
  simp only [VR] at hv
  obtain ⟨A', c', e, h1, h2, h3, h4⟩ := hv
  cases e
  have hl : ((xs.take b).drop a).length = b - a := by simp; omega
  unfold sliced
  rw [← hl]
  refine VR.sl_mk (by rw [hl]; omega) (fun e => by rw [hl, ht e]) (by rw [hl]; omega) (fun hne => ?_)
  have hlt : a < b := by
    rcases Nat.lt_or_ge a b with h | h
    · exact h
    · exfalso; apply hne; apply List.eq_nil_of_length_eq_zero; omega
  have hxs : xs ≠ [] := by rintro rfl; simp at hbl; omega
  obtain ⟨ad, arr, ty, fr, s0, g1, g2, g3, g4, g5, g6⟩ := h4 hxs
  have hs0 := hs ad arr ty fr s0 g1 g4 g6 hxs
  subst hs0
  obtain ⟨bb, oo, ss⟩ := ad
  simp only at g2; subst g2
  obtain ⟨k1, k2⟩ := g6.piece g5 a b hab hbl
  refine ⟨⟨bb, oo + a * s0, none⟩, arr, ty, fr, s0, ?_, rfl, g3, g4, k2, k1⟩
  rw [if_neg (by omega), g1]
  simp [add_at']

theorem okSz_iff {K : Ctx} {s s0 : Nat} {arr : Array Value} {o : Nat} {xs : List PV} (h : okSz s xs = true) (hx : SLR K s0 arr o xs) (hne : xs ≠ []) : s0 = s := by
  cases xs with
  | nil => exact absurd rfl hne
  | cons x xs =>
    simp only [okSz, List.all_cons, Bool.and_eq_true, beq_iff_eq] at h
    simp only [SLR] at hx
    rw [← hx.1.1, h.1]

theorem okSl_iff {t : TypeId} {xs : List PV} (hk : okSl P t xs = true) : ∃ e s, P.underlying t = some (.slice e) ∧ szOf P e = some s ∧ okSz s xs = true := by
  unfold okSl at hk
  cases he : slElem P t with
  | none => simp [he] at hk
  | some e =>
    cases hs : szOf P e with
    | none => simp [he, hs] at hk
    | some s => simp [he, hs] at hk; exact ⟨e, s, slElem_iff he, hs, hk⟩

/-- the bounds, and the cut -/
theorem run_cut {t e : TypeId} {s : Nat} (ht : P.underlying t = some (.slice e)) (hs : szOf P e = some s) {A : Option Addr} {n c a b m : Nat} {lo hi mx : Option Value}
    (hb : (Instr.sliceBounds true n c lo hi mx).run P w = .ok (a, b, m) w) : (Instr.sliceAt t (.slice A n c) lo hi mx).run P w = .ok (sliced A a b m s) w := by
  have hel : P.elem t = e := by simp [Program.elem, ht]
  have hu : P.underlying t = some (.slice (P.elem t)) := by rw [hel]; exact ht
  rw [run_sliceAt_slice w t _ lo hi mx hu, run_slice_any w t A n c hu, hb, hel]
  simp [run_sizeOf' hs]

def lowRun (lo : Option Value) (b : Nat) (code : BoundsCode) : Sem Nat := match lo with
  | some v => Instr.sliceBound v b code
  | none => Pure.pure 0
def highRun (hi : Option Value) (n c : Nat) (code : BoundsCode) : Sem Nat := match hi with
  | some v => Instr.sliceBound v c code
  | none => Pure.pure n
theorem bounds_two (isS : Bool) (n c : Nat) (lo hi : Option Value) : Instr.sliceBounds isS n c lo hi none =
    (do let h ← highRun hi n c (if isS then .sliceAcap else .sliceAlen); let l ← lowRun lo h .sliceB; Pure.pure (l, h, c)) := by
  cases lo <;> cases hi <;> rfl
theorem bounds_three (n c : Nat) (lo : Option Value) (hi mx : Value) : Instr.sliceBounds true n c lo (some hi) (some mx) =
    (do let m ← Instr.sliceBound mx c .slice3Acap; let h ← Instr.sliceBound hi m .slice3B; let l ← lowRun lo h .slice3C; Pure.pure (l, h, m)) := by
  cases lo <;> rfl

theorem out_slice (hr : HR w h ι used) {t : TypeId} {x : PV} {y : Value} {lo hi mx : Option PV} {lo' hi' mx' : Option Value} {res : Res} (hv : VR (mkK w h ι used) x y)
    (hlo : ∀ p, lo = some p → ∃ q, lo' = some q ∧ VR (mkK w h ι used) p q) (hlo0 : lo = none → lo' = none)
    (hhi : ∀ p, hi = some p → ∃ q, hi' = some q ∧ VR (mkK w h ι used) p q) (hhi0 : hi = none → hi' = none)
    (hmx : ∀ p, mx = some p → ∃ q, mx' = some q ∧ VR (mkK w h ι used) p q) (hmx0 : mx = none → mx' = none)
    (e : sliceF P h t x lo hi mx = some res) : ∃ z, (Instr.sliceAt t y lo' hi' mx').run P w = .ok z w ∧ VR (mkK w h ι used) res.v z ∧ res.wr = [] := by
  -- the lower bound
  have low : ∀ (b a : Nat) (code : BoundsCode), lowB lo b = some a → (lowRun lo' b code).run P w = .ok a w ∧ a ≤ b := by
    intro b a code ha
    cases lo with
    | none => cases hlo0 rfl; cases ha; exact ⟨rfl, Nat.zero_le _⟩
    | some p =>
      obtain ⟨q, rfl, e2⟩ := hlo p rfl
      exact bound_run e2 ha (Nat.le_refl _) w
  -- no third bound
  have two : ∀ (n c a b : Nat) (isS : Bool), mx = none → n ≤ c → highB hi n = some b → lowB lo b = some a →
      (Instr.sliceBounds isS n c lo' hi' mx').run P w = .ok (a, b, c) w ∧ a ≤ b ∧ b ≤ n := by
    intro n c a b isS hm hnc hb ha
    cases hmx0 hm
    have hl := low b a .sliceB ha
    have hbn : b ≤ n ∧ ∀ code, (highRun hi' n c code).run P w = .ok b w := by
      cases hi with
      | none => cases hhi0 rfl; cases hb; exact ⟨Nat.le_refl _, fun _ => rfl⟩
      | some p =>
        obtain ⟨q, rfl, e2⟩ := hhi p rfl
        exact ⟨(bound_run (P := P) (code := .sliceAcap) e2 hb hnc w).2, fun code => (bound_run e2 hb hnc w).1⟩
    refine ⟨?_, hl.2, hbn.1⟩
    rw [bounds_two]
    simp only [Sem.run_bind, hbn.2, Result.andThen_ok, hl.1, Sem.run_pure]
  unfold sliceF at e
  split at e
  · -- a text
    rename_i s
    split at e
    · rename_i hc
      simp only [Bool.and_eq_true, Option.isNone_iff_eq_none] at hc
      split at e
      · rename_i b hb
        split at e
        · rename_i a ha
          simp only [val] at e; cases e
          simp only [VR] at hv; subst hv
          have hu := isStr_iff hc.1
          obtain ⟨k1, k2, k3⟩ := two s.size s.size a b false hc.2 (Nat.le_refl _) hb ha
          refine ⟨.string (s.extract a b), ?_, by simp only [VR], rfl⟩
          rw [run_sliceAt_string w t _ lo' hi' mx' hu]
          cases hmx0 hc.2
          simp [Instr.slice, run_underlying hu, k1]
        · cases e
      · cases e
    · cases e
  · -- a list
    rename_i tight xs
    split at e
    · rename_i hk
      obtain ⟨el, s, hu, hs, hok⟩ := okSl_iff hk
      have hv0 := hv
      simp only [VR] at hv0
      obtain ⟨A, c, rfl, g1, g2, g3, g4⟩ := hv0
      have hs0 : ∀ (ad : Addr) (arr : Array Value) (ty : TypeId) (fr : Nat × Nat) (s0 : Nat), A = some ad → (mkK w h ι used).hp ad.block = some (.cells arr ty fr) → SLR (mkK w h ι used) s0 arr ad.off xs → xs ≠ [] → s0 = s :=
        fun ad arr ty fr s0 _ _ hx hne => okSz_iff hok hx hne
      cases mx with
      | none =>
        simp only at e
        split at e
        · rename_i b hb
          split at e
          · rename_i a ha
            simp only [val] at e; cases e
            obtain ⟨k1, k2, k3⟩ := two xs.length c a b true rfl g1 hb ha
            refine ⟨_, run_cut hu hs k1, ?_, rfl⟩
            refine sl_piece hv (fun x _ => .inl ?_) a b c k2 k3 (by omega) _ (fun ht => ?_) (Nat.le_refl _) hs0
            · simp only [okSz, List.all_eq_true, beq_iff_eq] at hok; exact hok x ‹_›
            · simp only [Bool.and_eq_true, beq_iff_eq] at ht; rw [g2 ht.1, ht.2]
          · cases e
        · cases e
      | some pm =>
        simp only at e
        cases hi with
        | none => simp at e
        | some ph =>
          simp only at e
          split at e
          · cases e
          · rename_i mm hmm
            split at e
            · cases e
            · rename_i b hb
              split at e
              · rename_i a ha
                simp only [val] at e; cases e
                obtain ⟨qm, rfl, vm⟩ := hmx pm rfl
                obtain ⟨qh, rfl, vh⟩ := hhi ph rfl
                obtain ⟨m1, m2⟩ := bound_run (P := P) (code := .slice3Acap) vm hmm g1 w
                obtain ⟨b1, b2⟩ := bound_run (P := P) (code := .slice3B) vh hb (Nat.le_refl _) w
                obtain ⟨a1, a2⟩ := low b a .slice3C ha
                have k1 : (Instr.sliceBounds true xs.length c lo' (some qh) (some qm)).run P w = .ok (a, b, mm) w := by
                  rw [bounds_three]
                  simp only [Sem.run_bind, m1, Result.andThen_ok, b1, a1, Sem.run_pure]
                refine ⟨_, run_cut hu hs k1, ?_, rfl⟩
                refine sl_piece hv (fun x _ => .inl ?_) a b mm a2 (by omega) b2 _ (fun ht => ?_) (by omega) hs0
                · simp only [okSz, List.all_eq_true, beq_iff_eq] at hok; exact hok x ‹_›
                · simp only [beq_iff_eq] at ht; exact ht.symm
              · cases e
    · cases e
  · -- a row
    rename_i t0 ver off len
    split at e
    · rename_i r hrow
      split at e
      · rename_i hc
        simp only [Bool.and_eq_true, beq_iff_eq, Option.isNone_iff_eq_none] at hc
        split at e
        · rename_i b hb
          split at e
          · rename_i a ha
            cases e
            obtain ⟨el, he1, he2⟩ : ∃ el, slElem P t = some el ∧ szOf P el = some r.sz := by
              cases hse : slElem P t with
              | none => rw [hse] at hc; simp at hc
              | some el => rw [hse] at hc; exact ⟨el, rfl, hc.1⟩
            have hu := slElem_iff he1
            simp only [VR] at hv
            obtain ⟨hus, A, c, rfl, hv⟩ := hv
            obtain ⟨q1, q2, q3⟩ := hv _ (tok_of hrow)
            obtain ⟨k1, k2, k3⟩ := two len c a b true hc.2 q1 hb ha
            have hsz : (ι t0).sz = r.sz := (hr.row t0 r (rowAt_some hrow).1).1
            refine ⟨_, run_cut hu he2 k1, ?_, rfl⟩
            simp only [VR]
            refine ⟨hus, _, _, rfl, fun ti hti => ?_⟩
            rw [tok_of hrow] at hti; cases hti
            refine ⟨by omega, by omega, fun hne => ?_⟩
            obtain ⟨bl, e1, e2⟩ := q3 (by omega)
            refine ⟨bl, e1, ?_⟩
            rw [if_neg (by omega), e2, ← hsz]
            simp [add_at', Nat.add_mul]
          · cases e
        · cases e
      · cases e
    · cases e
  · cases e
end
end Go.Vs
