/-
  What is proved here: a region in whatever order does what its text's order does.
  Conditions: none.
-/
import Derived.Test.YtpfdeoapnpcbaaaVStep
set_option linter.unusedSectionVars false
namespace Go.Vs
set_option linter.unusedVariables false
set_option linter.unusedSimpArgs false

section
variable {P : Program} {p : Tok} {n : Nat} {ops : Array Oper}

theorem ready_iff {listed : Array Bool} {i : Nat} : i ∈ Region.ready .any ops listed ↔ i < ops.size ∧ listed.getD i true = false ∧ ∀ e ∈ (ops.getD i default).after, Region.binds .any e = true → listed.getD e.on false = true := by
  unfold Region.ready
  rw [List.mem_filter, List.mem_range]
  constructor
  · rintro ⟨hi, h⟩
    simp only [Bool.and_eq_true, Bool.not_eq_true', Array.getElem?_eq_getElem hi, Option.map_some, Option.getD_some] at h
    refine ⟨hi, h.1, fun e he hb => ?_⟩
    have hg : ops.getD i default = ops[i] := by simp [Array.getD, hi]
    rw [hg] at he
    have := (Array.all_eq_true_iff_forall_mem.1 h.2) e he
    simpa [hb] using this
  · rintro ⟨hi, h1, h2⟩
    refine ⟨hi, ?_⟩
    simp only [Bool.and_eq_true, Bool.not_eq_true', Array.getElem?_eq_getElem hi, Option.map_some, Option.getD_some]
    refine ⟨h1, Array.all_eq_true_iff_forall_mem.2 fun e he => ?_⟩
    have hg : ops.getD i default = ops[i] := by simp [Array.getD, hi]
    cases hb : Region.binds .any e with
    | false => simp
    | true => simp [h2 e (by rw [hg]; exact he) hb]

theorem edges_lt (hE : edgesB ops = true) {i : Nat} (hi : i < ops.size) : ∀ e ∈ (ops.getD i default).after, Region.binds .any e = true → e.on < i := by
  intro e he hb
  unfold edgesB at hE
  rw [List.all_eq_true] at hE
  have hg : ops.getD i default = ops[i] := by simp [Array.getD, hi]
  rw [hg] at he
  have hm : (ops[i], i) ∈ ops.toList.zipIdx := by
    rw [List.mem_iff_getElem?]
    exact ⟨i, by simp [List.getElem?_zipIdx, hi]⟩
  have := (Array.all_eq_true_iff_forall_mem.1 (hE _ hm)) e he
  simpa [hb] using this

theorem set_getD {listed : Array Bool} {i j : Nat} {d : Bool} (hi : i < listed.size) : (listed.setIfInBounds i true).getD j d = if j = i then true else listed.getD j d := by
  by_cases hj : j = i
  · subst hj; simp [Array.getD, hi]
  · rw [if_neg hj, Array.getD_eq_getD_getElem?, Array.getD_eq_getD_getElem?, Array.getElem?_setIfInBounds, if_neg (fun e => hj e.symm)]

theorem any_run (hE : edgesB ops = true) : ∀ (fuel : Nat) {listed : Array Bool} {R : List Step} {A : Nat → Prop} {env env' : Nat → PV} {h h' : H} {a : Act} {w : World} {ι : Tok → TI} {used : Tok → Nat → Prop}, R.length = fuel →
    listed.size = ops.size → Closed ops listed → (∀ i, i < ops.size → (listed.getD i true = false ↔ i ∈ R.map (·.i))) → (R.map (·.i)).Pairwise (· < ·) → (∀ s ∈ R, s.i < ops.size) →
    (∀ r ∈ R, ∀ s ∈ R, r.i < s.i → ((Region.before ops).getD s.i 0).testBit r.i = false → Indep ops r s) →
    Ex ops R env h env' h' → (∀ s ∈ R, StepOk P p n ops s) → (∀ s ∈ R, ∀ s' ∈ R, s.i ≠ s'.i → Apart s s') → (∀ s ∈ R, ∀ m, s.lo ≤ m → m < s.hi → A m) → Sim p n A env h a w ι used → ∀ (Q : Exit → Act → World → Prop),
    (∀ a' w' ι' used', Sim p n (fun m => A m ∧ ∀ s ∈ R, ¬ (s.lo ≤ m ∧ m < s.hi)) env' h' a' w' ι' used' → Evo w w' (mkK w h ι used) (mkK w' h' ι' used') → Grew p used used' → Q .normal a' w') → wpAny P .any ops Q fuel listed a w
  | 0, listed, R, A, env, env', h, h', a, w, ι, used, hf, hsz, hcl, hR, hsrt, hlt, hind, hx, hok, hap, hA, hs, Q, hQ => by
    have : R = [] := List.eq_nil_of_length_eq_zero hf
    subst this
    obtain ⟨rfl, rfl⟩ := hx
    refine ⟨?_, hQ a w ι used (hs.weaken fun m hm => hm.1) (Evo.refl w _ rfl) (Grew.refl _ _)⟩
    rw [List.eq_nil_iff_forall_not_mem]
    intro i hi
    rw [ready_iff] at hi
    have := (hR i hi.1).1 hi.2.1
    simp at this
  | fuel + 1, listed, R, A, env, env', h, h', a, w, ι, used, hf, hsz, hcl, hR, hsrt, hlt, hind, hx, hok, hap, hA, hs, Q, hQ => by
    refine ⟨fun hnil => ?_, fun i hi => ?_⟩
    · cases R with
      | nil => simp at hf
      | cons s R =>
        exfalso
        have hin : s.i ∈ Region.ready .any ops listed := by
          rw [ready_iff]
          refine ⟨hlt s (by simp), (hR s.i (hlt s (by simp))).2 (by simp), fun e he hb => ?_⟩
          have hlo := edges_lt hE (hlt s (by simp)) e he hb
          have hlo' : e.on < ops.size := Nat.lt_trans hlo (hlt s (by simp))
          cases hl : listed.getD e.on false with
          | true => rfl
          | false =>
            exfalso
            have hl' : listed.getD e.on true = false := by
              simp only [Array.getD] at hl ⊢
              have hlt' : e.on < listed.size := by rw [hsz]; exact hlo'
              rw [dif_pos hlt'] at hl ⊢
              exact hl
            have := (hR e.on hlo').1 hl'
            rw [List.map_cons] at this hsrt
            rcases List.mem_cons.1 this with h1 | h1
            · omega
            · have := (List.pairwise_cons.1 hsrt).1 _ h1
              omega
        rw [hnil] at hin
        cases hin
    · rw [ready_iff] at hi
      obtain ⟨hi1, hi2, hi3⟩ := hi
      have hmem := (hR i hi1).1 hi2
      obtain ⟨s, hsR, rfl⟩ := List.mem_map.1 hmem
      obtain ⟨R1, R2, rfl⟩ := List.append_of_mem hsR
      have hR1 : ∀ r ∈ R1, r.i < s.i := by
        intro r hr
        rw [List.map_append, List.map_cons] at hsrt
        exact (List.pairwise_append.1 hsrt).2.2 r.i (List.mem_map.2 ⟨r, hr, rfl⟩) s.i (by simp)
      have hdist : ∀ r ∈ R1 ++ R2, r.i ≠ s.i := by
        intro r hr
        rcases List.mem_append.1 hr with hr | hr
        · exact Nat.ne_of_lt (hR1 r hr)
        · rw [List.map_append, List.map_cons] at hsrt
          have := (List.pairwise_cons.1 (List.pairwise_append.1 hsrt).2.1).1 r.i (List.mem_map.2 ⟨r, hr, rfl⟩)
          exact fun e => by omega
      have hin : ∀ r ∈ R1, Indep ops r s := by
        intro r hr
        refine hind r (by simp [hr]) s (by simp) (hR1 r hr) ?_
        cases ht : ((Region.before ops).getD s.i 0).testBit r.i with
        | false => rfl
        | true =>
          exfalso
          have h1 := closed_before hcl hsz s.i hi1 hi3 r.i ht
          have h2 := (hR r.i (hlt r (by simp [hr]))).2 (List.mem_map.2 ⟨r, by simp [hr], rfl⟩)
          simp only [Array.getD] at h1 h2
          split at h1
          · rename_i hlt'; rw [dif_pos hlt'] at h2; rw [h1] at h2; cases h2
          · cases h1
      have hx' := ex_front hin hx
      obtain ⟨e1, h1, app, hx'⟩ := hx'
      have hsub : ∀ r ∈ R1 ++ R2, r ∈ R1 ++ s :: R2 := by
        intro r hr
        rcases List.mem_append.1 hr with hr | hr <;> simp [hr]
      refine hok s (by simp) A env h h1 a w ι used e1 hs app (hA s (by simp)) Q _ (fun a' w' ι' used' hs' he hg => ?_)
      have hil : s.i < listed.size := by rw [hsz]; exact hi1
      refine any_run hE fuel (R := R1 ++ R2) (by simp at hf ⊢; omega) (by simp [hsz]) ?_ ?_ ?_ (fun r hr => hlt r (hsub r hr)) (fun r hr q hq => hind r (hsub r hr) q (hsub q hq)) hx' (fun r hr => hok r (hsub r hr))
        (fun r hr q hq => hap r (hsub r hr) q (hsub q hq)) ?_ hs' Q (fun a2 w2 ι2 used2 hs2 he2 hg2 => ?_)
      · intro j hj hjs e he hb
        rw [set_getD hil] at hj ⊢
        split at hj
        · rename_i hji
          subst hji
          rw [hi3 e he hb]; split <;> rfl
        · rw [hcl j hj hjs e he hb]; split <;> rfl
      · intro j hj
        rw [set_getD hil]
        by_cases hji : j = s.i
        · subst hji
          rw [if_pos rfl]
          constructor
          · intro h; cases h
          · intro hm
            obtain ⟨r, hr, e⟩ := List.mem_map.1 hm
            exact absurd e (hdist r hr)
        · rw [if_neg hji, hR j hj]
          simp only [List.map_append, List.map_cons, List.mem_append, List.mem_cons]
          constructor
          · rintro (h | h | h)
            · exact .inl h
            · exact absurd h hji
            · exact .inr h
          · rintro (h | h)
            · exact .inl h
            · exact .inr (.inr h)
      · rw [List.map_append, List.map_cons] at hsrt
        rw [List.map_append]
        obtain ⟨p1, p2, p3⟩ := List.pairwise_append.1 hsrt
        exact List.pairwise_append.2 ⟨p1, (List.pairwise_cons.1 p2).2, fun x hx y hy => p3 x hx y (by simp [hy])⟩
      · intro r hr m h1 h2
        exact ⟨hA r (hsub r hr) m h1 h2, fun hc => hap r (hsub r hr) s (by simp) (hdist r hr) m ⟨⟨h1, h2⟩, hc⟩⟩
      · refine hQ a2 w2 ι2 used2 (hs2.weaken fun m hm => ⟨⟨hm.1, hm.2 s (by simp)⟩, fun r hr => hm.2 r (hsub r hr)⟩) (he.trans he2) (hg.trans hg2)

/-- a region that draws its order -/
theorem region_any {id : Nat} {acts : List Action} (hm : P.follows .mixedOrders = true) (hA : apartB ops = true) (hE : edgesB ops = true) {R : List Step} (hR : R.map (·.i) = List.range ops.size) (hacts : R.map (·.act) = acts) (hc : commOk ops acts)
    {A : Nat → Prop} {env env' : Nat → PV} {h h' : H} {a : Act} {w : World} {ι : Tok → TI} {used : Tok → Nat → Prop} {lo hi : Nat} (hx : Ex ops R env h env' h') (hok : ∀ s ∈ R, StepOk P p n ops s) (hn : Names R lo hi) (hAv : ∀ m, lo ≤ m → A m)
    (hs : Sim p n A env h a w ι used) (Q : Exit → Act → World → Prop)
    (hQ : ∀ a' w' ι' used', Sim p n (fun m => A m ∧ ∀ s ∈ R, ¬ (s.lo ≤ m ∧ m < s.hi)) env' h' a' w' ι' used' → Evo w w' (mkK w h ι used) (mkK w' h' ι' used') → Grew p used used' → Q .normal a' w') : (Code.region id ops true).wp P Q a w := by
  refine wp_region_any hm ?_
  have hlen : R.length = ops.size := by have := congrArg List.length hR; simpa using this
  have hidx : ∀ (k : Nat) (s : Step), R[k]? = some s → s.i = k := by
    intro k s hk
    have := congrArg (·[k]?) hR
    simp only [List.getElem?_map, hk, Option.map_some] at this
    have hk' : k < ops.size := by rw [← hlen]; exact (List.getElem?_eq_some_iff.1 hk).1
    rw [List.getElem?_range hk'] at this
    exact Option.some.inj this
  have hw : Evo w { w with drawn := w.drawn + 1 } (mkK w h ι used) (mkK { w with drawn := w.drawn + 1 } h ι used) :=
    ⟨rfl, rfl, rfl, Nat.le_refl _, fun _ _ _ => rfl, fun _ _ _ _ ht => ht, fun _ _ hm => hm, fun _ _ hu => hu, rfl, rfl⟩
  have hs' : Sim p n A env h a { w with drawn := w.drawn + 1 } ι used :=
    ⟨hs.sz, hs.df, hs.env, ⟨hs.hr.us, hs.hr.ver, hs.hr.row, hs.hr.inj⟩, hs.fr⟩
  refine any_run hE ops.size (R := R) hlen (by simp) ?_ ?_ ?_ ?_ ?_ hx hok ?_ (fun s hs m h1 h2 => hAv m (Nat.le_trans (hn.within s hs).1 h1)) hs' Q (fun a' w' ι' used' h1 h2 h3 => hQ a' w' ι' used' h1 (hw.trans h2) h3)
  · intro i hi hlt
    simp [Array.getD, hlt] at hi
  · intro i hi
    rw [hR]
    simp [Array.getD, hi]
  · rw [hR]; exact List.pairwise_lt_range
  · intro s hs
    have : s.i ∈ R.map (·.i) := List.mem_map.2 ⟨s, hs, rfl⟩
    rw [hR] at this
    simpa using this
  · intro r hr s hs hlt hb
    obtain ⟨k, hk⟩ := List.getElem?_of_mem hr
    obtain ⟨j, hj⟩ := List.getElem?_of_mem hs
    have e1 := hidx k r hk
    have e2 := hidx j s hj
    have hjl : j < ops.size := by rw [← hlen]; exact (List.getElem?_eq_some_iff.1 hj).1
    have hkl : k < ops.size := by rw [← hlen]; exact (List.getElem?_eq_some_iff.1 hk).1
    have hap : Oper.apart ops (ops.getD k default) (ops.getD j default) = true := by
      unfold apartB at hA
      rw [List.all_eq_true] at hA
      have := hA j (by simpa using hjl)
      rw [List.all_eq_true] at this
      have := this k (by rw [List.mem_range]; omega)
      rw [e1, e2] at hb
      rw [hb, Bool.false_or] at this
      exact this
    obtain ⟨a1, a2, a3⟩ := Oper.apart_spec hap
    have hgk : ops[k]? = some (ops.getD k default) := by simp [Array.getD, hkl]
    have hgj : ops[j]? = some (ops.getD j default) := by simp [Array.getD, hjl]
    refine ⟨?_, ?_, ?_, ?_⟩
    · intro d hd
      rw [e1] at hd; rw [e2]
      simp only [dstOf, hgk, Option.bind_some] at hd
      simp only [looks, hgj]
      exact a1 d hd
    · intro d hd
      rw [e1] at hd; rw [e2]
      simp only [dstOf, hgk, hgj, Option.bind_some] at hd ⊢
      exact a2 d hd
    · intro d hd
      rw [e2] at hd; rw [e1]
      simp only [dstOf, hgj, Option.bind_some] at hd
      simp only [looks, hgk]
      exact a3 d hd
    · refine hc j hjl k (by omega) (by rw [e1, e2] at hb; exact hb) r.act s.act ?_ ?_
      · rw [← hacts]; simp [hk]
      · rw [← hacts]; simp [hj]
  · intro s hs s' hs' hne
    have hp := hn.pairwise
    obtain ⟨k, hk⟩ := List.getElem?_of_mem hs
    obtain ⟨j, hj⟩ := List.getElem?_of_mem hs'
    have hkl := (List.getElem?_eq_some_iff.1 hk)
    have hjl := (List.getElem?_eq_some_iff.1 hj)
    obtain ⟨hk1, hk2⟩ := hkl
    obtain ⟨hj1, hj2⟩ := hjl
    rcases Nat.lt_trichotomy k j with h | h | h
    · have := (List.pairwise_iff_getElem.1 hp) k j hk1 hj1 h
      rw [hk2, hj2] at this; exact this
    · subst h; rw [hk] at hj; cases hj; exact absurd rfl hne
    · have := (List.pairwise_iff_getElem.1 hp) j k hj1 hk1 h
      rw [hk2, hj2] at this
      exact fun m hm => this m ⟨hm.2, hm.1⟩
end
end Go.Vs
