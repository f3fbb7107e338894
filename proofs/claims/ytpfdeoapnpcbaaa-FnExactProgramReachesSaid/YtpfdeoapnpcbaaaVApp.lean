/-
  What is proved here: 'append' for plain values.
  Conditions: none.
-/
import Derived.Test.YtpfdeoapnpcbaaaVOps4
set_option linter.unusedSectionVars false
namespace Go.Vs
set_option linter.unusedVariables false
set_option linter.unusedSimpArgs false

section
variable {P : Program} {w : World} {h : H} {ι : Tok → TI} {used : Tok → Nat → Prop} {tk : Tok}

/-- What a slice reads as, in memory. -/
theorem elems_src (hr : HR w h ι used) {x : PV} {y : Value} {rd : List (Tok × Row)} {ys : List PV} {s : Nat} (hv : VR (mkK w h ι used) x y) (he : elemsOf h x = some (rd, ys)) (hok : okSz s ys = true) (h0 : 0 < s) {tx e' : TypeId} (hk : P.underlying tx = some (.slice e')) :
    ∃ B c news, y = .slice B ys.length c ∧ Ok s ys ∧ VRs (mkK w h ι used) (flat ys) news ∧ Src P s tx y ys.length news w := by
  have fin : ∀ (B : Option Addr) (c : Nat), (ys ≠ [] → ∃ bb oo arr ty fr, B = some ⟨bb, oo, none⟩ ∧ w.heap[bb]? = some (.cells arr ty fr) ∧ oo + ys.length * s ≤ arr.size ∧ SLR (mkK w h ι used) s arr oo ys) → y = .slice B ys.length c →
      ∃ B c news, y = .slice B ys.length c ∧ Ok s ys ∧ VRs (mkK w h ι used) (flat ys) news ∧ Src P s tx y ys.length news w := by
    intro B c hB hy
    by_cases hne : ys = []
    · subst hne
      refine ⟨B, c, [], hy, fun x hx => (by cases hx), by simp [flat, VRs.nil_iff], ?_⟩
      subst hy
      cases B with
      | none => exact Src.ofNil w hk c
      | some a => exact Src.ofSlice w hk a 0 c [] (by simp) (fun j u hj => by simp at hj) (fun u hu => by cases hu)
    · obtain ⟨bb, oo, arr, ty, fr, rfl, g1, g2, g3⟩ := hB hne
      rw [SLR_iff g2] at g3
      have hl : ((arr.toList.drop oo).take (ys.length * s)).length = ys.length * s := by simp; omega
      refine ⟨_, c, (arr.toList.drop oo).take (ys.length * s), hy, g3.1, g3.2, ?_⟩
      subst hy
      refine Src.ofSlice w hk _ _ c _ hl (fun j u hj => ?_) (fun u hu => ?_)
      · rw [add_at', cell_at g1]; exact drop_take_get hj
      · obtain ⟨j, hj⟩ := List.getElem?_of_mem hu
        have hjl : j < (flat ys).length := by rw [← g3.2.length]; exact (List.getElem?_eq_some_iff.1 hj).1
        obtain ⟨y', e, hvr⟩ := g3.2.get (List.getElem?_eq_getElem hjl)
        rw [hj] at e; cases e
        exact VR.one hvr (g3.1.one _ (List.getElem_mem hjl))
  unfold elemsOf at he
  split at he
  · rename_i tt xs
    cases he
    simp only [VR] at hv
    obtain ⟨A, c, rfl, g1, g2, g3, g4⟩ := hv
    refine fin A c (fun hne => ?_) rfl
    obtain ⟨ad, arr, ty, fr, s0, rfl, e2, e3, e4, e5, e6⟩ := g4 hne
    have hs0 := okSz_iff hok e6 hne
    subst hs0
    obtain ⟨bb, oo, ss⟩ := ad
    simp only at e2; subst e2
    exact ⟨bb, oo, arr, ty, fr, rfl, e4, e5, e6⟩
  · rename_i t0 ver off len
    split at he
    · rename_i r hrow
      split at he
      · rename_i hle
        cases he
        simp only [VR] at hv
        obtain ⟨hus, A, c, rfl, hv⟩ := hv
        obtain ⟨q1, q2, q3⟩ := hv _ (tok_of hrow)
        have hl : ((r.xs.drop off).take len).length = len := by simp; omega
        refine fin A c (fun hne => ?_) (by rw [hl])
        have hlen : 0 < len := by
          rcases Nat.eq_zero_or_pos len with h | h
          · subst h; simp at hne
          · exact h
        obtain ⟨b, hb, rfl⟩ := q3 (by omega)
        have hrr := hr.row t0 r (rowAt_some hrow).1
        unfold RowR at hrr
        rw [hb] at hrr
        obtain ⟨e1, arr, ty, e2, e3, e4, e5⟩ := hrr
        have hbd : 0 + r.xs.length * r.sz ≤ arr.size := by rw [e3, e1]; have := Nat.mul_le_mul_right r.sz e4; omega
        have hpc := e5.piece hbd off (off + len) (by omega) hle
        have heq : (r.xs.take (off + len)).drop off = (r.xs.drop off).take len := by rw [List.drop_take]; congr 1; omega
        rw [heq] at hpc
        have hs0 := okSz_iff hok hpc.1 hne
        rw [Nat.zero_add] at hpc
        refine ⟨b, off * (ι t0).sz, arr, ty, (0, 0), rfl, e2, ?_, ?_⟩
        · rw [e1, ← hs0]; exact hpc.2
        · rw [e1, ← hs0]; exact hpc.1
      · cases he
    · cases he
  · cases he

theorem run_append_room' (t tx ty e : TypeId) {s : Nat} {i : TypeInfo} (ht : P.underlying t = some (.slice e)) (hi : P.info? e = some i) (hs : i.size = s) {b n c : Nat} {x : Value} {m : Nat} {news : List Value} (hsrc : Src P s tx x m news w)
    (hroom : n + m ≤ c) {arr : Array Value} {te : TypeId} (hg : w.heap[b]? = some (.cells arr te (0, 0))) (hfit : n * s + news.length ≤ arr.size) :
    (Builtin.append_ #[t, tx] ty #[.slice (some ⟨b, 0, none⟩) n c, x]).run P w = .ok (.slice (some ⟨b, 0, none⟩) (n + m) c) (w.setRow b (arr.toList.take (n * s) ++ news ++ arr.toList.drop (n * s + news.length)).toArray) := by
  subst hs
  have hst := run_storeCells_at P b (n * i.size) te news 0 arr w hg (by simpa using hfit) hsrc.one
  simp only [Nat.add_zero] at hst
  have hadd : (⟨b, 0, none⟩ : Addr).add (n * i.size) = ⟨b, n * i.size, none⟩ := by rw [add_at', Nat.zero_add]
  obtain ⟨e', hk⟩ | hk := hsrc.kind
  · simp [Builtin.append_, run_underlying ht, run_underlying hk, sizeOf, typeInfo, hi, hsrc.len, hroom, hsrc.cells, hadd, hst]
  · simp [Builtin.append_, run_underlying ht, run_underlying hk, sizeOf, typeInfo, hi, hsrc.len, hroom, hsrc.cells, hadd, hst]

theorem zeroCells_size (z : Array Value) (n : Nat) : (Builtin.zeroCells z n).size = n * z.size := by simp [Builtin.zeroCells]

/-- a new row: what was there, what is appended, and room -/
theorem run_append_new (t tx ty e : TypeId) {s : Nat} {i : TypeInfo} {z : Value} (ht : P.underlying t = some (.slice e)) (hi : P.info? e = some i) (hz : i.zero = some z) (hzs : z.cells.size = i.size) (hs : i.size = s) (hby : i.bytes ≤ 64) {A : Option Addr} {n c : Nat} {x : Value} {m : Nat} {news olds : List Value} (hsrc : Src P s tx x m news w)
    (hold : olds.length = n * s) (hA : n ≠ 0 → ∃ ad, A = some ad ∧ ∀ j u, olds[j]? = some u → w.cell? (ad.add j) = some u) (hg : c < n + m) (hlim : n + m ≤ LIM) :
    ∃ arr cap, (Builtin.append_ #[t, tx] ty #[.slice A n c, x]).run P w = .ok (.slice (some ⟨w.heap.size, 0, none⟩) (n + m) cap) (w.drew.alloc (.cells arr e)) ∧ n + m ≤ cap ∧ arr.size = cap * s ∧ arr.toList.take ((n + m) * s) = olds ++ news := by
  subst hs
  unfold LIM at hlim
  have hold' : (Builtin.firstCells i.size n (.slice A n c)).run P w.drew = .ok olds.toArray w.drew := by
    by_cases hn : n = 0
    · subst hn
      have : olds = [] := List.eq_nil_of_length_eq_zero (by simpa using hold)
      subst this
      cases A <;> simp [Builtin.firstCells, loadCells, loadCellsFrom]
    · obtain ⟨ad, rfl, hcells⟩ := hA hn
      exact run_firstCells_some w.drew i.size n ad n c olds hold (by simpa using hcells)
  have hfit : Builtin.nextslicecap (n + m) c * i.bytes ≤ 281474976710656 := growslice_fits hg (by
    calc (n + m) * i.bytes ≤ (n + m) * 64 := Nat.mul_le_mul_left _ hby
      _ ≤ 2 ^ 40 * 64 := Nat.mul_le_mul_right _ hlim
      _ ≤ 140737488355328 := by decide)
  have hrun := run_append_grow_src w t tx ty e i z ht hi hz A n c olds hold' x m news hsrc hg (by omega) hfit
  have hge := grownCap_ge w (n + m) c e
  refine ⟨_, _, hrun, hge, ?_, ?_⟩
  · have := hsrc.newsLen
    simp only [Array.size_append, List.size_toArray, List.length_append, hold, this, zeroCells_size, hzs]
    rw [← Nat.add_mul, ← Nat.add_mul]; congr 1; omega
  · have := hsrc.newsLen
    have hl : (olds ++ news).length = (n + m) * i.size := by rw [List.length_append, hold, this, Nat.add_mul]
    rw [Array.toList_append]
    simp only
    rw [List.take_append_of_le_length (by rw [hl]; exact Nat.le_refl _), List.take_of_length_le (by rw [hl]; exact Nat.le_refl _)]

theorem szOf_info {e s : Nat} (hs : szOf P e = some s) : ∃ i, P.info? e = some i ∧ i.size = s ∧ bytesOf P e = i.bytes := by
  unfold szOf at hs
  cases hi : P.info? e with
  | none => simp [hi] at hs
  | some i => simp [hi] at hs; exact ⟨i, rfl, hs, by simp [bytesOf, hi]⟩

theorem append_lists {K : Ctx} {s : Nat} {xs ys : List PV} {L : List Value} {arr : Array Value} (hx : Ok s xs) (hy : Ok s ys) (h : VRs K (flat xs ++ flat ys) L) (hb : (xs.length + ys.length) * s ≤ arr.size) (ht : arr.toList.take ((xs.length + ys.length) * s) = L) :
    SLR K s arr 0 (xs ++ ys) := by
  rw [SLR_iff (by simpa using hb)]
  refine ⟨hx.append hy, ?_⟩
  rw [flat_append, List.length_append, List.drop_zero, ht]
  exact h

set_option maxHeartbeats 1000000 in
theorem out_append (hr : HR w h ι used) {hint : Option Nat} {ts tx ty : TypeId} {a x : PV} {ya yx : Value} {res : Res} (hnu : 0 < res.al → ∀ v, ¬ used tk v) (hva : VR (mkK w h ι used) a ya) (hvx : VR (mkK w h ι used) x yx) (hkx : (slElem P tx).isSome = true)
    (e : appendF P tk hint h ts a x = some res) {run : Result Next} (hrun : ∀ v w', (Builtin.append_ #[ts, tx] ty #[ya, yx]).run P w = .ok v w' → run = .ok (.value v) w') : Out run w h ι used tk res := by
  obtain ⟨e', hke⟩ := slElem_some hkx
  unfold appendF at e
  cases hel : slElem P ts with
  | none => simp [hel] at e
  | some el =>
  have ht := slElem_iff hel
  simp only [hel] at e
  cases hsz : szOf P el with
  | none => simp [hsz] at e
  | some s =>
  cases hes : elemsOf h x with
  | none => simp [hsz, hes] at e
  | some q =>
  obtain ⟨rd, ys⟩ := q
  simp only [hsz, hes] at e
  split at e
  rotate_left
  · cases e
  rename_i hc
  simp only [Bool.and_eq_true, decide_eq_true_eq] at hc
  obtain ⟨⟨⟨hok, hby⟩, h0⟩, hzo⟩ := hc
  obtain ⟨inf, hi, his, hib⟩ := szOf_info hsz
  rw [hib] at hby
  obtain ⟨B, cx, news, rfl, hoky, hvn, hsrc⟩ := elems_src hr hvx hes hok h0 hke
  obtain ⟨z, hz, hzs⟩ : ∃ z, inf.zero = some z ∧ z.cells.size = inf.size := by
    cases hzz : zeroOf P el with
    | none => rw [hzz] at hzo; cases hzo
    | some zp =>
      obtain ⟨i', zv, e1, e2, e3, _⟩ := zeroOf_iff hzz
      rw [hi] at e1; cases e1
      exact ⟨zv, e2, e3⟩
  -- nothing is appended: the value and the world stay
  have nothing : ∀ (A : Option Addr) (n c : Nat), ya = .slice A n c → n ≤ c → ys = [] → run = .ok (.value (.slice A n c)) w := by
    intro A n c hya hle hy
    subst hya hy
    have hn : news = [] := by have := hsrc.newsLen; exact List.eq_nil_of_length_eq_zero (by simpa using this)
    subst hn
    refine hrun _ _ (run_append_nothing w ts tx ty el inf ht hi A n c hle _ ?_)
    rw [his]; exact hsrc
  split at e
  · -- a list, cut off where it ends
    rename_i xs
    split at e
    rotate_left
    · cases e
    rename_i hc2
    obtain ⟨hlim, hokx⟩ := hc2
    simp only [VR] at hva
    obtain ⟨A, c, rfl, g1, g2, g3, g4⟩ := hva
    have hcx : c = xs.length := g2 trivial
    subst hcx
    by_cases hys : ys = []
    · -- nothing is appended
      subst hys
      have hr1 := nothing A xs.length xs.length rfl (Nat.le_refl _) rfl
      cases hint with
      | none =>
        simp only at e; cases e
        rw [List.append_nil]
        refine Out.pure hr ?_ hr1
        simp only [VR]
        exact ⟨A, xs.length, rfl, Nat.le_refl _, (fun h => by cases h), g3, g4⟩
      | some hh =>
        simp only at e
        cases xs with
        | cons _ _ => simp at e
        | nil =>
          simp only at e; cases e
          obtain ⟨k1, k2, k3⟩ := lay_none hr (hnu Nat.one_pos) s
          refine ⟨_, w, _, _, .inl hr1, k1, k2, ?_, fun t v hu => used_new t v hu⟩
          simp only [VR]
          refine ⟨Or.inr ⟨rfl, rfl⟩, A, 0, rfl, fun ti hti => ?_⟩
          rw [show upds h [(tk, ⟨0, s, []⟩)] = upd h tk ⟨0, s, []⟩ from rfl] at hti
          rw [k3] at hti; cases hti
          exact ⟨Nat.le_refl _, by simp, fun h => absurd rfl h⟩
    · -- a new row
      have hyl : 0 < ys.length := by cases ys with | nil => exact absurd rfl hys | cons => simp
      obtain ⟨olds, ho1, ho2, ho3, ho4⟩ : ∃ olds : List Value, olds.length = xs.length * s ∧ (xs.length ≠ 0 → ∃ ad, A = some ad ∧ ∀ j u, olds[j]? = some u → w.cell? (ad.add j) = some u) ∧ Ok s xs ∧ VRs (mkK w h ι used) (flat xs) olds := by
        by_cases hx : xs = []
        · subst hx; exact ⟨[], by simp, fun h => absurd rfl h, fun x hx => (by cases hx), by simp [flat, VRs.nil_iff]⟩
        · obtain ⟨ad, arr, tyy, fr, s0, rfl, e2, e3, e4, e5, e6⟩ := g4 hx
          have hs0 := okSz_iff hokx e6 hx
          subst hs0
          obtain ⟨bb, oo, ss⟩ := ad
          simp only at e2; subst e2
          rw [SLR_iff e5] at e6
          refine ⟨(arr.toList.drop oo).take (xs.length * s0), by simp; simp at e5; omega, fun _ => ⟨_, rfl, fun j u hj => ?_⟩, e6.1, e6.2⟩
          rw [add_at', cell_at e4]; exact drop_take_get hj
      obtain ⟨arr, cap, hr0, hcap, hasz, hat⟩ := run_append_new (A := A) (n := xs.length) (c := xs.length) ts tx ty el ht hi hz hzs his hby hsrc ho1 ho2 (by omega) hlim
      have hr1 := hrun _ _ hr0
      have hx := append_lists ho3 hoky (ho4.append hvn) (by rw [hasz]; exact Nat.mul_le_mul_right _ hcap) hat
      cases hint with
      | none =>
        simp only at e; cases e
        obtain ⟨k1, k2⟩ := grow_hr (w' := w.drew.alloc (.cells arr el)) hr (.cells arr el) rfl rfl rfl rfl
        refine ⟨_, _, _, _, .inl hr1, k1, k2, ?_, fun t v hu => .inl ⟨v, hu⟩⟩
        have hl : (xs ++ ys).length = xs.length + ys.length := by simp
        have hmx : (xs ++ ys).length ≤ maxL := by rw [hl]; exact Nat.le_trans hlim (by decide)
        have hcap' : (xs ++ ys).length ≤ cap := by rw [hl]; exact hcap
        rw [← hl]
        refine VR.sl_mk (A := some ⟨w.heap.size, 0, none⟩) (c := cap) hcap' (fun h => by cases h) hmx (fun _ => ?_)
        refine ⟨⟨w.heap.size, 0, none⟩, arr, el, (0, 0), s, rfl, rfl, ?_, ?_, ?_, SLR.evo k2 _ _ _ _ hx⟩
        · rintro ⟨t, r, h1, h2⟩
          have := hr.mt_lt h1 h2
          exact Nat.lt_irrefl _ this
        · show (w.heap.push (.cells arr el))[w.heap.size]? = _
          simp
        · rw [hl, hasz]; have := Nat.mul_le_mul_right s hcap; simp; exact this
      | some hh =>
        simp only at e
        cases xs with
        | cons _ _ => simp at e
        | nil =>
          simp only at e; cases e
          simp only [List.length_nil, Nat.zero_add, List.nil_append] at hcap hx hr1
          obtain ⟨k1, k2, k3⟩ := lay_new (w' := w.drew.alloc (.cells arr el)) hr (hnu Nat.one_pos) arr el s cap ys hasz hcap hx rfl rfl rfl rfl
          refine ⟨_, _, _, _, .inl hr1, k1, k2, ?_, fun t v hu => used_new t v hu⟩
          simp only [VR]
          refine ⟨Or.inr ⟨rfl, rfl⟩, _, _, rfl, fun ti hti => ?_⟩
          rw [show upds h [(tk, ⟨0, s, ys⟩)] = upd h tk ⟨0, s, ys⟩ from rfl] at hti
          rw [k3] at hti; cases hti
          exact ⟨hcap, by simp, fun _ => ⟨_, rfl, by simp⟩⟩
  · -- a row
    rename_i t0 ver off len
    cases hrow : rowAt h t0 ver with
    | none => simp [hrow] at e
    | some r =>
    simp only [hrow] at e
    split at e
    rotate_left
    · cases e
    rename_i hc2
    obtain ⟨rfl, hlen, hlim, hrsz⟩ := hc2
    cases e
    obtain ⟨ht0, hver⟩ := rowAt_some hrow
    simp only [VR] at hva
    obtain ⟨hus, A, c, rfl, hva⟩ := hva
    obtain ⟨q1, q2, q3⟩ := hva _ (tok_of hrow)
    have hrr := hr.row t0 r ht0
    have hsz0 : (ι t0).sz = s := by rw [hrr.1, hrsz]
    have hfr : ∀ t v, upU used t0 (ver + 1) t v → (∃ v', used t v') ∨ (t = tk ∧ 0 < 0) := by
      rintro t v (hu | ⟨rfl, _⟩)
      · exact .inl ⟨v, hu⟩
      · exact .inl ⟨_, hr.us _ _ ht0⟩
    -- what the new value is
    have fin : ∀ {w' : World} {ι' : Tok → TI} {ti : TI} (A' : Option Addr) (n' c' : Nat), n' = len + ys.length → (mkK w' (upd h t0 ⟨ver + 1, s, r.xs.take len ++ ys⟩) ι' (upU used t0 (ver + 1))).tok t0 (ver + 1) = some ti →
        n' ≤ c' → c' ≤ ti.cap → (c' ≠ 0 → ∃ b, ti.blk = some b ∧ A' = some ⟨b, 0, none⟩) →
        VR (mkK w' (upds h [(t0, ⟨ver + 1, s, r.xs.take len ++ ys⟩)]) ι' (upU used t0 (ver + 1))) (.ref t0 (ver + 1) 0 (len + ys.length)) (.slice A' n' c') := by
      intro w' ι' ti A' n' c' hn' htok h1 h2 h3
      subst hn'
      simp only [VR]
      refine ⟨Or.inr ⟨rfl, rfl⟩, A', c', rfl, fun ti' hti => ?_⟩
      rw [show upds h [(t0, ⟨ver + 1, s, r.xs.take len ++ ys⟩)] = upd h t0 ⟨ver + 1, s, r.xs.take len ++ ys⟩ from rfl] at hti
      rw [htok] at hti; cases hti
      exact ⟨h1, by omega, fun hne => by obtain ⟨b, e1, e2⟩ := h3 hne; exact ⟨b, e1, by rw [e2]; simp⟩⟩
    by_cases hys : ys = []
    · have hr1 := nothing A len c rfl q1 hys
      subst hys
      have hlay := lay_ver hr ht0 (ver + 1) (by omega) (r.xs.take len ++ []) len (by simp)
      rw [hsz0] at hlay
      obtain ⟨k1, k2, k3⟩ := hlay
      exact ⟨_, _, _, _, .inl hr1, k1, k2, fin A len c (by simp) k3 q1 (by omega) (fun hne => by
        obtain ⟨b, e1, e2⟩ := q3 hne
        exact ⟨b, e1, by rw [e2]; simp⟩), hfr⟩
    · have hyl : 0 < ys.length := by cases ys with | nil => exact absurd rfl hys | cons => simp
      have hnl : news.length = ys.length * s := hsrc.newsLen
      have hlx : (r.xs.take len).length = len := by simp; omega
      by_cases hroom : len + ys.length ≤ c
      · obtain ⟨b, hb, hA⟩ := q3 (by omega)
        have hA' : A = some ⟨b, 0, none⟩ := by rw [hA]; simp
        subst hA'
        unfold RowR at hrr
        rw [hb] at hrr
        obtain ⟨e1, arr, tyy, e2, e3, e4, e5⟩ := hrr
        rw [hsz0] at e3
        rw [hrsz] at e5
        have hfit : len * s + news.length ≤ arr.size := by
          rw [hnl, e3, ← Nat.add_mul]; exact Nat.mul_le_mul_right _ (by omega)
        have hr1 := hrun _ _ (run_append_room' ts tx ty el ht hi his hsrc hroom e2 hfit)
        have hbd : 0 + r.xs.length * s ≤ arr.size := by rw [e3]; have := Nat.mul_le_mul_right s e4; omega
        have hpc := e5.piece hbd 0 len (Nat.zero_le _) hlen
        simp only [List.drop_zero, Nat.zero_mul, Nat.add_zero] at hpc
        have hpc1 := hpc.1
        rw [SLR_iff (by simpa using hpc.2)] at hpc1
        rw [hlx, List.drop_zero] at hpc1
        have hasz : (arr.toList.take (len * s) ++ news ++ arr.toList.drop (len * s + news.length)).toArray.size = arr.size := by simp; omega
        have hx : SLR (mkK w h ι used) s (arr.toList.take (len * s) ++ news ++ arr.toList.drop (len * s + news.length)).toArray 0 (r.xs.take len ++ ys) := by
          refine append_lists hpc1.1 hoky (hpc1.2.append hvn) (by rw [hasz, hlx, e3]; exact Nat.mul_le_mul_right _ (by omega)) ?_
          rw [hlx]
          have hl : (arr.toList.take (len * s) ++ news).length = (len + ys.length) * s := by simp [hnl, Nat.add_mul]; omega
          simp only
          rw [List.take_append_of_le_length (by rw [hl]; exact Nat.le_refl _), List.take_of_length_le (by rw [hl]; exact Nat.le_refl _)]
        have hlay := lay_same hr ht0 hb e2 (ver + 1) (.inr (by omega)) (r.xs.take len ++ ys) (by rw [List.length_append, hlx]; omega) _ hasz (by rw [hsz0]; exact e3) (by rw [hsz0]; exact hx)
        rw [hsz0] at hlay
        obtain ⟨k1, k2, k3⟩ := hlay
        exact ⟨_, _, _, _, .inl hr1, k1, k2, fin _ _ c rfl k3 hroom (by omega) (fun _ => ⟨b, hb, rfl⟩), hfr⟩
      · obtain ⟨olds, ho1, ho2, ho3, ho4⟩ : ∃ olds : List Value, olds.length = len * s ∧ (len ≠ 0 → ∃ ad, A = some ad ∧ ∀ j u, olds[j]? = some u → w.cell? (ad.add j) = some u) ∧ Ok s (r.xs.take len) ∧ VRs (mkK w h ι used) (flat (r.xs.take len)) olds := by
          by_cases hl0 : len = 0
          · subst hl0; exact ⟨[], by simp, fun h => absurd rfl h, fun x hx => (by simp at hx), by simp [flat, VRs.nil_iff]⟩
          · obtain ⟨b, hb, hA⟩ := q3 (by omega)
            unfold RowR at hrr
            rw [hb] at hrr
            obtain ⟨e1, arr, tyy, e2, e3, e4, e5⟩ := hrr
            rw [hsz0] at e3
            rw [hrsz] at e5
            have hbd : 0 + r.xs.length * s ≤ arr.size := by rw [e3]; have := Nat.mul_le_mul_right s e4; omega
            have hpc := e5.piece hbd 0 len (Nat.zero_le _) hlen
            simp only [List.drop_zero, Nat.zero_mul, Nat.add_zero] at hpc
            have hpc1 := hpc.1
            rw [SLR_iff (by simpa using hpc.2)] at hpc1
            rw [hlx, List.drop_zero] at hpc1
            refine ⟨arr.toList.take (len * s), ?_, fun _ => ⟨_, hA, fun j u hj => ?_⟩, hpc1.1, hpc1.2⟩
            · have := hpc.2; rw [hlx] at this; simp; omega
            · rw [add_at', cell_at e2]
              rw [List.getElem?_take] at hj
              split at hj
              · simpa using hj
              · cases hj
        obtain ⟨arr, cap, hr0, hcap, hasz, hat⟩ := run_append_new (A := A) (n := len) (c := c) ts tx ty el ht hi hz hzs his hby hsrc ho1 ho2 (by omega) hlim
        have hr1 := hrun _ _ hr0
        have hx := append_lists ho3 hoky (ho4.append hvn) (by rw [hasz, hlx]; exact Nat.mul_le_mul_right _ hcap) (by rw [hlx]; exact hat)
        obtain ⟨k1, k2, k3⟩ := lay_moved (w' := w.drew.alloc (.cells arr el)) hr ht0 (ver + 1) (by omega) arr el s cap (r.xs.take len ++ ys) hasz (by rw [List.length_append, hlx]; exact hcap) hx rfl rfl rfl rfl
        exact ⟨_, _, _, _, .inl hr1, k1, k2, fin _ _ cap rfl k3 hcap (Nat.le_refl _) (fun _ => ⟨_, rfl, rfl⟩), hfr⟩
  · cases e
end
end Go.Vs
