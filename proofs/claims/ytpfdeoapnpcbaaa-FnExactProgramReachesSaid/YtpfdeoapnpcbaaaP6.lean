/-
  What is proved here: all programs of a length: their number, the one with a rank, how many are not pruned.
  Conditions: none.
-/
import Derived.Test.YtpfdeoapnpcbaaaP5
namespace Go.Proofs.Ytpfdeoapnpcbaaa
open Go.Vs
set_option linter.unusedVariables false
set_option linter.unusedSimpArgs false
set_option linter.unusedSectionVars false
set_option maxHeartbeats 1000000

noncomputable def progsL (c : GChoice) : Nat → List (List GInstr)
  | 0 => [[]]
  | n + 1 => (progsL c n).flatMap fun p => (stepsL c (n : Int)).map fun x => p ++ [x]
theorem flatMap_get {α β γ : Type} {xs : List α} {ys : List β} {f : α → β → γ} : ∀ {q d : Nat}, d < ys.length → (xs.flatMap fun a => ys.map (f a))[q * ys.length + d]? = (xs[q]?).bind fun a => (ys[d]?).map (f a) := by
  induction xs with
  | nil => intro q d _; simp
  | cons a xs ih =>
    intro q d hd
    rw [List.flatMap_cons]
    cases q with
    | zero =>
      rw [Nat.zero_mul, Nat.zero_add, List.getElem?_append_left (by simpa using hd)]
      simp
    | succ q =>
      rw [List.getElem?_append_right (by rw [List.length_map, Nat.succ_mul]; omega), List.length_map, show (q + 1) * ys.length + d - ys.length = q * ys.length + d by rw [Nat.succ_mul]; omega, ih hd]
      simp
theorem flatMap_len {α β γ : Type} {xs : List α} {ys : List β} {f : α → β → γ} : (xs.flatMap fun a => ys.map (f a)).length = xs.length * ys.length := by
  induction xs with
  | nil => simp
  | cons a xs ih => rw [List.flatMap_cons, List.length_append, ih, List.length_map, List.length_cons, Nat.succ_mul]; omega
theorem progsL_mem {c : GChoice} : ∀ {n : Nat} {p : List GInstr}, p ∈ progsL c n → p.length = n ∧ ∀ (i : Nat) x, p[i]? = some x → x ∈ stepsL c (i : Int)
  | 0, p, h => by
    simp [progsL] at h; subst h
    exact ⟨rfl, fun i x hx => by simp at hx⟩
  | n + 1, p, h => by
    simp only [progsL, List.mem_flatMap, List.mem_map] at h
    obtain ⟨q, hq, x, hx, rfl⟩ := h
    obtain ⟨h1, h2⟩ := progsL_mem hq
    refine ⟨by simp [h1], fun i y hy => ?_⟩
    by_cases hi : i < q.length
    · rw [List.getElem?_append_left hi] at hy; exact h2 i y hy
    · rw [List.getElem?_append_right (by omega)] at hy
      have : i - q.length = 0 := by
        have := (List.getElem?_eq_some_iff.1 hy).1
        simp at this; omega
      rw [this] at hy
      simp at hy; subst hy
      rwa [show i = n by omega]
theorem progsL_prog {c : GChoice} {n : Nat} (hn : n ≤ 3) {p : List GInstr} (h : p ∈ progsL c n) : Prog c p ∧ p.length = n := by
  obtain ⟨h1, h2⟩ := progsL_mem h
  exact ⟨⟨by omega, h2⟩, h1⟩
theorem progsL_len {c : GChoice} (hg : Good c) : ∀ {n : Nat}, n ≤ 3 → (progsL c n).length ≤ 128 ^ n
  | 0, _ => by simp [progsL]
  | n + 1, h => by
    unfold progsL
    rw [flatMap_len, Nat.pow_succ]
    exact Nat.mul_le_mul (progsL_len hg (by omega)) (stepsL_len hg (by omega) (by omega))
theorem pow_small {n : Nat} (h : n ≤ 3) : (128 : Nat) ^ n ≤ 2097152 := by
  rcases n with _ | _ | _ | _ | n
  · decide
  · decide
  · decide
  · decide
  · omega
theorem progs_small {c : GChoice} (hg : Good c) {n : Nat} (h : n ≤ 3) : (progsL c n).length ≤ 2097152 := Nat.le_trans (progsL_len hg h) (pow_small h)

/-! ### numbers and ranks, by the reference -/
theorem suCount_l0 {c : GChoice} (hg : Good c) {n : Nat} (hn : n ≤ 3) : ∀ (d k : Nat), k + d = n → m_spec_suCount_l0 c (rng (k : Int) n) ((progsL c k).length : Int) = some ((progsL c n).length : Int)
  | 0, k, h => by rw [rng_nil (by omega), m_spec_suCount_l0, show k = n by omega]
  | d + 1, k, h => by
    rw [rng_cons (by omega), m_spec_suCount_l0, suSteps_eq hg (by omega) (by omega), Option.bind_some]
    have h1 := progs_small hg (n := k + 1) (by omega)
    have h2 : (progsL c (k + 1)).length = (progsL c k).length * (stepsL c (k : Int)).length := by rw [progsL, flatMap_len]
    have h3 : ((progsL c k).length : Int) * ((stepsL c (k : Int)).length : Int) = ((progsL c (k + 1)).length : Int) := by rw [h2]; simp
    rw [h3, w64_id (by omega) (by omega)]
    have := suCount_l0 hg hn d (k + 1) (by omega)
    rwa [show ((k : Nat) : Int) + 1 = ((k + 1 : Nat) : Int) by simp]
theorem suCount_eq {c : GChoice} (hg : Good c) {n : Nat} (hn : n ≤ 3) : m_spec_suCount c (n : Int) = some ((progsL c n).length : Int) := by
  unfold m_spec_suCount
  have := suCount_l0 hg hn n 0 (by omega)
  rw [chk_eq (by omega), Option.bind_some]
  simp only [Int.natCast_zero, progsL, List.length_singleton, Int.natCast_one] at this
  rw [this]; rfl
theorem suWith_k {c : GChoice} (hg : Good c) : ∀ (m : Nat), m ≤ 3 → ∀ (k r : Nat) (arr : List GInstr), m < k → m ≤ arr.length → r < (progsL c m).length → ∃ p, (progsL c m)[r]? = some p ∧ m_spec_suWith_l0_k c k (r : Int) ((m : Int) - 1) arr = some (p ++ arr.drop m)
  | 0, _, k, r, arr, hk, ha, hr => by
    obtain ⟨k, rfl⟩ : ∃ k', k = k' + 1 := ⟨k - 1, by omega⟩
    simp [progsL] at hr
    subst hr
    refine ⟨[], rfl, ?_⟩
    rw [m_spec_suWith_l0_k]
    simp
  | m + 1, hm, k, r, arr, hk, ha, hr => by
    obtain ⟨k, rfl⟩ : ∃ k', k = k' + 1 := ⟨k - 1, by omega⟩
    have hlen : (progsL c (m + 1)).length = (progsL c m).length * (stepsL c (m : Int)).length := by rw [progsL, flatMap_len]
    have hL : 0 < (stepsL c (m : Int)).length := by
      rcases Nat.eq_zero_or_pos (stepsL c (m : Int)).length with h | h
      · rw [hlen, h] at hr; simp at hr
      · exact h
    have hd : r % (stepsL c (m : Int)).length < (stepsL c (m : Int)).length := Nat.mod_lt _ hL
    have hq : r / (stepsL c (m : Int)).length < (progsL c m).length := Nat.div_lt_of_lt_mul (by rw [Nat.mul_comm]; omega)
    have hs := progs_small hg hm
    obtain ⟨x, hx⟩ : ∃ x, (stepsL c (m : Int))[r % (stepsL c (m : Int)).length]? = some x := ⟨_, List.getElem?_eq_getElem hd⟩
    rw [m_spec_suWith_l0_k, show ((m + 1 : Nat) : Int) - 1 = (m : Int) by omega]
    have e1 : decide ((m : Int) ≥ 0) = true := by simp
    have e2 : remI (r : Int) ((stepsL c (m : Int)).length : Int) = some ((r % (stepsL c (m : Int)).length : Nat) : Int) := by
      unfold remI; rw [if_neg (by omega)]; rfl
    have e3 : quoI .i64 (r : Int) ((stepsL c (m : Int)).length : Int) = some ((r / (stepsL c (m : Int)).length : Nat) : Int) := by
      unfold quoI; rw [if_neg (by omega)]
      have h1 : (r : Int).tdiv ((stepsL c (m : Int)).length : Int) = ((r / (stepsL c (m : Int)).length : Nat) : Int) := rfl
      have hdr := Nat.div_le_self r (stepsL c (m : Int)).length
      rw [h1]
      clear h1 hq
      generalize r / (stepsL c (m : Int)).length = qq at hdr ⊢
      rw [wrap_i64 ⟨by omega, by omega⟩]
    rw [if_pos e1, suSteps_eq hg (by omega) (by omega), Option.bind_some, e2, Option.bind_some, getI_n, hx, Option.bind_some, setI_n (by omega), Option.bind_some, e3, Option.bind_some, w64_id (by omega) (by omega)]
    obtain ⟨p, h1, h2⟩ := suWith_k hg m (by omega) k (r / (stepsL c (m : Int)).length) (arr.set m x) (by omega) (by simp; omega) hq
    refine ⟨p ++ [x], ?_, ?_⟩
    · have := flatMap_get (xs := progsL c m) (ys := stepsL c (m : Int)) (f := fun p x => p ++ [x]) (q := r / (stepsL c (m : Int)).length) hd
      rw [Nat.mul_comm, Nat.div_add_mod] at this
      rw [progsL, this, h1]
      simp [hx]
    · rw [h2]
      have : (arr.set m x).drop m = x :: arr.drop (m + 1) := by
        rw [List.drop_eq_getElem_cons (by simp; omega)]
        simp [List.drop_set_of_lt]
      rw [this]; simp
theorem suWith_eq {c : GChoice} (hg : Good c) {n r : Nat} (hn : n ≤ 3) (hr : r < (progsL c n).length) : ∃ p, (progsL c n)[r]? = some p ∧ m_spec_suWith c (n : Int) (r : Int) = some p := by
  unfold m_spec_suWith
  rw [makI_n (by simp [LIM]; omega), Option.bind_some, w64_id (by omega) (by omega)]
  obtain ⟨p, h1, _⟩ := suWith_k hg n hn 100 r (List.replicate n ⟨ByteArray.empty, 0, 0, 0, 0⟩) (by omega) (by simp) hr
  refine ⟨p, h1, ?_⟩
  rw [limO_eq (r := p) 100 (fun k hk => ?_)]
  · rfl
  · obtain ⟨p', h3, h4⟩ := suWith_k hg n hn k r (List.replicate n ⟨ByteArray.empty, 0, 0, 0, 0⟩) (by omega) (by simp) hr
    rw [h1] at h3; cases h3
    rw [h4]; simp

/-! ### how many are not pruned -/
open Classical in
noncomputable def cntU (c : GChoice) (n : Nat) : Nat := (progsL c n).countP fun p => decide (¬ Pruned p)
open Classical in
theorem count_k {c : GChoice} (hg : Good c) {n : Nat} (hn : n ≤ 3) : ∀ (d k r : Nat) (s : Nat), r + d = (progsL c n).length → d < k → s = ((progsL c n).take r).countP (fun p => decide (¬ Pruned p)) → m_spec_CountUnpruned_l0_k c (n : Int) k (s : Int) (r : Int) = some (cntU c n : Int)
  | d, 0, r, s, _, h, _ => by omega
  | 0, k + 1, r, s, h, _, hs => by
    rw [m_spec_CountUnpruned_l0_k, suCount_eq hg hn, Option.bind_some]
    have : decide ((r : Int) < ((progsL c n).length : Int)) = false := by simp; omega
    rw [this, hs, List.take_of_length_le (by omega)]
    rfl
  | d + 1, k + 1, r, s, h, hk, hs => by
    have hsm := progs_small hg hn
    obtain ⟨p, h1, h2⟩ := suWith_eq hg hn (r := r) (by omega)
    obtain ⟨hp, hpl⟩ := progsL_prog hn (List.mem_of_getElem? h1)
    obtain ⟨b, g1, g2⟩ := suPruned_eq (hp.ok hg) hp.1
    rw [m_spec_CountUnpruned_l0_k, suCount_eq hg hn, Option.bind_some]
    have : decide ((r : Int) < ((progsL c n).length : Int)) = true := by simp; omega
    rw [if_pos this, h2, Option.bind_some, g1, Option.bind_some]
    simp only [bd]
    have hle : s ≤ (progsL c n).length := by
      rw [hs]
      exact Nat.le_trans List.countP_le_length (by rw [List.length_take]; omega)
    have ht : ((progsL c n).take (r + 1)).countP (fun p => decide (¬ Pruned p)) = s + (if b = true then 0 else 1) := by
      rw [List.take_add_one, h1, List.countP_append, ← hs]
      cases b with
      | true => simp [g2.1 rfl]
      | false =>
        have : ¬ Pruned p := fun hh => by have := g2.2 hh; cases this
        simp [this]
    have hX : (if (!b) = true then w64 ((s : Int) + 1) else (s : Int)) = ((s + (if b = true then 0 else 1) : Nat) : Int) := by
      cases b with
      | true => simp
      | false => simp only [Bool.not_false, if_true, Bool.false_eq_true, if_false]; rw [w64_id (by omega) (by omega)]; simp
    rw [hX, w64_id (by omega) (by omega)]
    have := count_k hg hn d k (r + 1) (s + (if b = true then 0 else 1)) (by omega) (by omega) ht.symm
    rwa [show ((r : Nat) : Int) + 1 = ((r + 1 : Nat) : Int) by simp]
theorem specCount_eq {c : GChoice} (hg : Good c) {n : Nat} (hn : n ≤ 3) : limO (fun k => m_spec_CountUnpruned_l0_k c (n : Int) k 0 0) = some (cntU c n : Int) :=
  limO_eq ((progsL c n).length + 1) (fun k hk => count_k hg hn (progsL c n).length k 0 0 (by omega) (by omega) (by simp))

/-! ### the program's tree -/
noncomputable def ext (c : GChoice) (p : List GInstr) : Nat → List (List GInstr)
  | 0 => [p]
  | m + 1 => (stepsL c (p.length : Int)).flatMap fun x => ext c (p ++ [x]) m
theorem ext_mem {c : GChoice} : ∀ {m : Nat} {p q : List GInstr}, q ∈ ext c p m → q.length = p.length + m ∧ p <+: q
  | 0, p, q, h => by simp [ext] at h; subst h; exact ⟨rfl, List.prefix_rfl⟩
  | m + 1, p, q, h => by
    simp only [ext, List.mem_flatMap] at h
    obtain ⟨x, _, hq⟩ := h
    obtain ⟨h1, h2⟩ := ext_mem hq
    exact ⟨by rw [h1]; simp; omega, (List.prefix_append _ _).trans h2⟩
theorem ext_snoc {c : GChoice} : ∀ (m : Nat) (p : List GInstr), ext c p (m + 1) = (ext c p m).flatMap fun q => (stepsL c (q.length : Int)).map fun x => q ++ [x]
  | 0, p => by simp only [ext, List.flatMap_cons, List.flatMap_nil, List.append_nil]; rw [List.map_eq_flatMap]
  | m + 1, p => by
    rw [ext, ext, List.flatMap_assoc]
    congr 1
    funext x
    exact ext_snoc m (p ++ [x])
theorem ext_progs {c : GChoice} : ∀ n : Nat, ext c [] n = progsL c n
  | 0 => rfl
  | n + 1 => by
    rw [ext_snoc, progsL, ext_progs n]
    have : ∀ (l : List (List GInstr)), (∀ q ∈ l, q.length = n) → (l.flatMap fun q => (stepsL c (q.length : Int)).map fun x => q ++ [x]) = l.flatMap fun q => (stepsL c (n : Int)).map fun x => q ++ [x] := by
      intro l hl
      induction l with
      | nil => rfl
      | cons q l ih => rw [List.flatMap_cons, List.flatMap_cons, ih (fun y hy => hl y (by simp [hy])), hl q (by simp)]
    exact this _ (fun q hq => (progsL_mem hq).1)
/-- no reason from one index on -/
def NoR (q : List GInstr) (a n : Nat) : Prop := ∀ (j : Nat) x, a ≤ j → q[j]? = some x → ¬ Reason (q.take (j + 1)) j x (j + 1 = n)
open Classical in
noncomputable def cntT (c : GChoice) : Nat → List GInstr → Nat
  | 0, _ => 1
  | m + 1, p => ((stepsL c (p.length : Int)).map fun x => if Reason (p ++ [x]) p.length x (m = 0) then 0 else cntT c m (p ++ [x])).sum
open Classical in
theorem cntT_eq {c : GChoice} : ∀ (m : Nat) (p : List GInstr), cntT c m p = (ext c p m).countP fun q => decide (NoR q p.length (p.length + m))
  | 0, p => by
    have : NoR p p.length p.length := fun j x hj hx => by
      have := (List.getElem?_eq_some_iff.1 hx).1
      omega
    simp [cntT, ext, this]
  | m + 1, p => by
    rw [cntT, ext, List.countP_flatMap]
    congr 1
    apply List.map_congr_left
    intro x hx
    simp only [Function.comp]
    have hpre : ∀ q ∈ ext c (p ++ [x]) m, q[p.length]? = some x ∧ q.take (p.length + 1) = p ++ [x] := by
      intro q hq
      obtain ⟨_, s, rfl⟩ := ext_mem hq
      constructor
      · rw [List.append_assoc, List.getElem?_append_right (Nat.le_refl _)]; simp
      · rw [show p.length + 1 = (p ++ [x]).length by simp, List.take_left']; rfl
    have hiff : ∀ q ∈ ext c (p ++ [x]) m, (NoR q p.length (p.length + (m + 1)) ↔ ¬ Reason (p ++ [x]) p.length x (m = 0) ∧ NoR q (p.length + 1) (p.length + 1 + m)) := by
      intro q hq
      obtain ⟨e1, e2⟩ := hpre q hq
      have hm : (p.length + 1 = p.length + (m + 1)) = (m = 0) := by apply propext; omega
      have hn : p.length + (m + 1) = p.length + 1 + m := by omega
      constructor
      · intro h
        refine ⟨?_, fun j y hj hy => ?_⟩
        · have := h p.length x (Nat.le_refl _) e1
          rwa [e2, hm] at this
        · have := h j y (by omega) hy
          rwa [hn] at this
      · rintro ⟨h1, h2⟩ j y hj hy
        rcases Nat.lt_or_eq_of_le hj with hlt | rfl
        · have := h2 j y hlt hy
          rwa [hn]
        · rw [e1] at hy; cases hy
          rwa [e2, hm]
    by_cases hr : Reason (p ++ [x]) p.length x (m = 0)
    · rw [if_pos hr]
      symm
      rw [List.countP_eq_zero]
      intro q hq
      simp only [decide_eq_true_eq]
      exact fun h => ((hiff q hq).1 h).1 hr
    · rw [if_neg hr, cntT_eq m (p ++ [x])]
      apply List.countP_congr
      intro q hq
      simp only [decide_eq_true_eq, List.length_append, List.length_singleton]
      rw [hiff q hq]
      exact ⟨fun h => ⟨hr, h⟩, fun h => h.2⟩
open Classical in
theorem cntT_cntU {c : GChoice} (n : Nat) : cntT c n [] = cntU c n := by
  rw [cntT_eq, ext_progs]
  unfold cntU
  apply List.countP_congr
  intro q hq
  have hl := (progsL_mem hq).1
  simp only [decide_eq_true_eq, List.length_nil, Nat.zero_add]
  unfold NoR Pruned
  rw [hl]
  constructor
  · rintro h ⟨j, x, h1, h2⟩
    exact h j x (Nat.zero_le _) h1 h2
  · intro h j x _ h1 h2
    exact h ⟨j, x, h1, h2⟩
open Classical in
theorem cntT_small {c : GChoice} (hg : Good c) (n : Nat) (hn : n ≤ 3) : ∀ (m : Nat) (p : List GInstr), p.length + m = n → cntT c m p ≤ 128 ^ m
  | 0, p, _ => by simp [cntT]
  | m + 1, p, h => by
    rw [cntT, Nat.pow_succ, Nat.mul_comm]
    have : ∀ l : List GInstr, (l.map fun x => if Reason (p ++ [x]) p.length x (m = 0) then 0 else cntT c m (p ++ [x])).sum ≤ l.length * 128 ^ m := by
      intro l
      induction l with
      | nil => simp
      | cons x l ih =>
        rw [List.map_cons, List.sum_cons, List.length_cons, Nat.succ_mul]
        have : (if Reason (p ++ [x]) p.length x (m = 0) then 0 else cntT c m (p ++ [x])) ≤ 128 ^ m := by
          split
          · exact Nat.zero_le _
          · exact cntT_small hg n hn m (p ++ [x]) (by simp; omega)
        omega
    exact Nat.le_trans (this _) (Nat.mul_le_mul_right _ (stepsL_len hg (by omega) (by omega)))
open Classical in
theorem implCount_l0 {c : GChoice} (hg : Good c) {n : Nat} (hn : n ≤ 3) {p : List GInstr} (hp : Prog c p) {m : Nat} (hm : p.length + (m + 1) = n) {rec_ : Int → List (List Int) → Int → GChoice → Option Int}
    (hrec : ∀ x ∈ stepsL c (p.length : Int), 0 < m → rec_ ((p.length + 1 : Nat) : Int) (colsP (p ++ [x])) (n : Int) c = some (cntT c m (p ++ [x]) : Int)) :
    ∀ (zs : List GInstr) (s : Nat), (∀ x ∈ zs, x ∈ stepsL c (p.length : Int)) → s + zs.length * 128 ^ m ≤ 2097152 →
    m_impl_CountUnpruned_1_l0 (colsP p) (p.length : Int) (n : Int) rec_ c zs (s : Int) = some ((s + (zs.map fun x => if Reason (p ++ [x]) p.length x (m = 0) then 0 else cntT c m (p ++ [x])).sum : Nat) : Int)
  | [], s, _, _ => by rw [m_impl_CountUnpruned_1_l0]; simp
  | x :: zs, s, hz, hs => by
    have hx := hz x (by simp)
    have hsmall := cntT_small hg n hn m (p ++ [x]) (by simp; omega)
    rw [List.length_cons, Nat.succ_mul] at hs
    have hpos : 1 ≤ 128 ^ m := Nat.one_le_pow _ _ (by omega)
    rw [m_impl_CountUnpruned_1_l0, w64_id (by omega) (by omega)]
    have hlast : (((p.length : Int) == (n : Int) - 1) = true) = (m = 0) := by
      apply propext; rw [beq_iff_eq]; omega
    obtain ⟨b, k1, k2⟩ := isReason_eq hg hp (by omega) hx (last := ((p.length : Int) == (n : Int) - 1))
    rw [hlast] at k2
    rw [k1, Option.bind_some]
    have step : ∀ v : Nat, v ≤ 128 ^ m → v = (if Reason (p ++ [x]) p.length x (m = 0) then 0 else cntT c m (p ++ [x])) →
        m_impl_CountUnpruned_1_l0 (colsP p) (p.length : Int) (n : Int) rec_ c zs ((s + v : Nat) : Int) = some ((s + ((x :: zs).map fun x => if Reason (p ++ [x]) p.length x (m = 0) then 0 else cntT c m (p ++ [x])).sum : Nat) : Int) := by
      intro v hv he
      rw [implCount_l0 hg hn hp hm hrec zs (s + v) (fun y hy => hz y (by simp [hy])) (by omega), List.map_cons, List.sum_cons, ← he]
      congr 2; omega
    cases b with
    | true =>
      simp only [if_true, Option.bind_some]
      have := step 0 (Nat.zero_le _) (by rw [if_pos (k2.1 rfl)])
      simpa using this
    | false =>
      have hr : ¬ Reason (p ++ [x]) p.length x (m = 0) := fun h => by have := k2.2 h; cases this
      simp only [Bool.false_eq_true, if_false]
      by_cases h0 : m = 0
      · have hb : ((p.length : Int) == (n : Int) - 1) = true := by rw [hlast]; exact h0
        rw [hb]
        simp only [if_true, Option.bind_some]
        rw [w64_id (by omega) (by omega)]
        have := step 1 hpos (by rw [if_neg hr]; subst h0; rfl)
        simpa using this
      · have hb : ((p.length : Int) == (n : Int) - 1) = false := by
          cases e : ((p.length : Int) == (n : Int) - 1) with
          | false => rfl
          | true => rw [hlast] at e; exact absurd e h0
        rw [hb]
        simp only [Bool.false_eq_true, if_false]
        rw [subI_all, Option.bind_some, writes_eq hg hp (by omega) hx, Option.bind_some, appI_eq (by simp [colsP, LIM]; have := hp.1; omega), Option.bind_some, ← colsP_snoc hg hp (by omega) hx, w64_id (by omega) (by omega)]
        have hr1 := hrec x hx (by omega)
        rw [show ((p.length + 1 : Nat) : Int) = (p.length : Int) + 1 by simp] at hr1
        rw [hr1, Option.bind_some, Option.bind_some]
        have e2 : 128 ^ m ≤ 2097152 := pow_small (by omega)
        rw [w64_id (by omega) (by omega)]
        have := step (cntT c m (p ++ [x])) hsmall (by rw [if_neg hr])
        simpa using this
theorem implCount_k {c : GChoice} (hg : Good c) {n : Nat} (hn : n ≤ 3) : ∀ (m k : Nat) (p : List GInstr), Prog c p → p.length + m = n → m < k → m_impl_CountUnpruned_1_k k (p.length : Int) (colsP p) (n : Int) c = some (cntT c m p : Int)
  | m, 0, p, _, _, h => by omega
  | 0, k + 1, p, hp, h, _ => by
    rw [m_impl_CountUnpruned_1_k, if_pos (by rw [beq_iff_eq]; omega)]; rfl
  | m + 1, k + 1, p, hp, h, hk => by
    rw [m_impl_CountUnpruned_1_k, if_neg (by rw [beq_iff_eq]; omega), steps_eq hg (by omega) (by omega), Option.bind_some]
    have hs := stepsL_len hg (k := (p.length : Int)) (by omega) (by omega)
    have hb : (stepsL c (p.length : Int)).length * 128 ^ m ≤ 2097152 := by
      have := Nat.mul_le_mul_right (128 ^ m) hs
      have e : 128 * 128 ^ m = 128 ^ (m + 1) := by rw [Nat.pow_succ, Nat.mul_comm]
      have := pow_small (n := m + 1) (by omega)
      omega
    have := implCount_l0 hg hn hp h (rec_ := m_impl_CountUnpruned_1_k k) (fun x hx h0 => by
      have := implCount_k hg hn m k (p ++ [x]) (hp.snoc (by omega) hx) (by simp; omega) (by omega)
      simpa using this) (stepsL c (p.length : Int)) 0 (fun x hx => hx) (by omega)
    rw [show ((0 : Nat) : Int) = 0 from rfl] at this
    rw [this, Option.bind_some, Nat.zero_add]
    rw [cntT]
theorem implCount_eq {c : GChoice} (hg : Good c) {n : Nat} (hn : n ≤ 3) : m_impl_CountUnpruned_1 0 (colsP []) (n : Int) c = some (cntU c n : Int) := by
  unfold m_impl_CountUnpruned_1
  refine limO_eq (n + 1) (fun k hk => ?_)
  have := implCount_k hg hn n k [] ⟨Nat.zero_le _, fun i x hx => by simp at hx⟩ (by simp) (by omega)
  rw [cntT_cntU] at this
  exact this
end Go.Proofs.Ytpfdeoapnpcbaaa
