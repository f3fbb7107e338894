/-
  What is proved here: operations as steps that may change places; a region in whatever order.
  Conditions: none.
-/
import Derived.Test.YtpfdeoapnpcbaaaVFrz
set_option linter.unusedSectionVars false
namespace Go.Vs
set_option linter.unusedVariables false
set_option linter.unusedSimpArgs false

structure Sim (p : Tok) (n : Nat) (A : Nat → Prop) (env : Nat → PV) (h : H) (a : Act) (w : World) (ι : Tok → TI) (used : Tok → Nat → Prop) : Prop where
  sz : a.tmps.size = n
  df : a.defers = []
  env : ∀ i, i < n → VR (mkK w h ι used) (env i) (a.tmps.getD i undef)
  hr : HR w h ι used
  fr : ∀ t v, used t v → ∀ m, A m → ¬ (p ++ [m]) <+: t

def Grew (p : Tok) (used used' : Tok → Nat → Prop) : Prop := ∀ t v, used' t v → (∃ v', used t v') ∨ p <+: t
theorem Grew.refl (p : Tok) (used : Tok → Nat → Prop) : Grew p used used := fun t v hu => .inl ⟨v, hu⟩
theorem Grew.trans {p : Tok} {u u1 u2 : Tok → Nat → Prop} (h : Grew p u u1) (k : Grew p u1 u2) : Grew p u u2 := fun t v hu => by
  rcases k t v hu with ⟨v', hu'⟩ | hp
  · exact h t v' hu'
  · exact .inr hp

structure Step where
  i : Nat
  e : Nat → PV
  act : Action
  v : PV
  lo : Nat
  hi : Nat

def looks (ops : Array Oper) (i : Nat) : List Tmp := match ops[i]? with
  | some o => o.looksAt ops
  | none => []
def dstOf (ops : Array Oper) (i : Nat) : Option Tmp := (ops[i]?).bind (·.dst)

def StepOk (P : Program) (p : Tok) (n : Nat) (ops : Array Oper) (s : Step) : Prop :=
  ∀ (A : Nat → Prop) (env : Nat → PV) (h h2 : H) (a : Act) (w : World) (ι : Tok → TI) (used : Tok → Nat → Prop), (∀ t ∈ looks ops s.i, env t = s.e t) → Sim p n A env h a w ι used → App s.act h h2 →
    (∀ m, s.lo ≤ m → m < s.hi → A m) → ∀ (Q : Exit → Act → World → Prop) (K : Act → World → Prop),
    (∀ a' w' ι' used', Sim p n (fun m => A m ∧ ¬ (s.lo ≤ m ∧ m < s.hi)) (putE env (dstOf ops s.i) s.v) h2 a' w' ι' used' → Evo w w' (mkK w h ι used) (mkK w' h2 ι' used') → Grew p used used' → K a' w') →
    wpOp P ops Q s.i K a w

/-- one behind the other -/
def Ex (ops : Array Oper) : List Step → (Nat → PV) → H → (Nat → PV) → H → Prop
  | [], env, h, env', h' => env' = env ∧ h' = h
  | s :: rest, env, h, env', h' => (∀ t ∈ looks ops s.i, env t = s.e t) ∧ ∃ h1, App s.act h h1 ∧ Ex ops rest (putE env (dstOf ops s.i) s.v) h1 env' h'

/-- the names that the steps take, one behind the other -/
def Names : List Step → Nat → Nat → Prop
  | [], a, b => a = b
  | s :: rest, a, b => s.lo = a ∧ a ≤ s.hi ∧ Names rest s.hi b

theorem Names.le : ∀ {l : List Step} {a b : Nat}, Names l a b → a ≤ b
  | [], a, b, h => by cases h; exact Nat.le_refl _
  | s :: rest, a, b, h => Nat.le_trans h.2.1 h.2.2.le
theorem Names.within : ∀ {l : List Step} {a b : Nat}, Names l a b → ∀ s ∈ l, a ≤ s.lo ∧ s.hi ≤ b
  | [], a, b, h, s, hs => by cases hs
  | s0 :: rest, a, b, h, s, hs => by
    rcases List.mem_cons.1 hs with rfl | hs
    · exact ⟨Nat.le_of_eq h.1.symm, h.2.2.le⟩
    · have := h.2.2.within s hs
      exact ⟨Nat.le_trans h.2.1 this.1, this.2⟩

def Apart (s s' : Step) : Prop := ∀ m, ¬ ((s.lo ≤ m ∧ m < s.hi) ∧ (s'.lo ≤ m ∧ m < s'.hi))
theorem Names.pairwise : ∀ {l : List Step} {a b : Nat}, Names l a b → l.Pairwise Apart
  | [], a, b, h => List.Pairwise.nil
  | s0 :: rest, a, b, h => by
    refine List.Pairwise.cons (fun s hs m hm => ?_) h.2.2.pairwise
    have := (h.2.2.within s hs).1
    omega

section
variable {P : Program} {p : Tok} {n : Nat} {ops : Array Oper}

theorem Sim.weaken {A B : Nat → Prop} {env : Nat → PV} {h : H} {a : Act} {w : World} {ι : Tok → TI} {used : Tok → Nat → Prop} (hs : Sim p n A env h a w ι used) (hAB : ∀ m, B m → A m) : Sim p n B env h a w ι used :=
  ⟨hs.sz, hs.df, hs.env, hs.hr, fun t v hu m hm => hs.fr t v hu m (hAB m hm)⟩

/-- in the order of the list -/
theorem ex_run : ∀ {l : List Step} {A : Nat → Prop} {env env' : Nat → PV} {h h' : H} {a : Act} {w : World} {ι : Tok → TI} {used : Tok → Nat → Prop}, Ex ops l env h env' h' → (∀ s ∈ l, StepOk P p n ops s) → l.Pairwise Apart →
    (∀ s ∈ l, ∀ m, s.lo ≤ m → m < s.hi → A m) → Sim p n A env h a w ι used → ∀ (Q : Exit → Act → World → Prop),
    (∀ a' w' ι' used', Sim p n (fun m => A m ∧ ∀ s ∈ l, ¬ (s.lo ≤ m ∧ m < s.hi)) env' h' a' w' ι' used' → Evo w w' (mkK w h ι used) (mkK w' h' ι' used') → Grew p used used' → Q .normal a' w') → wpOps P ops Q (l.map (·.i)) a w
  | [], A, env, env', h, h', a, w, ι, used, hx, _, _, _, hs, Q, hQ => by
    obtain ⟨rfl, rfl⟩ := hx
    exact hQ a w ι used (hs.weaken fun m hm => hm.1) (Evo.refl w _ rfl) (Grew.refl _ _)
  | s :: rest, A, env, env', h, h', a, w, ι, used, hx, hok, hap, hA, hs, Q, hQ => by
    obtain ⟨h1, h2, happ, hx'⟩ := hx
    rw [List.map_cons, wpOps_cons]
    refine hok s (by simp) A env h h2 a w ι used h1 hs happ (hA s (by simp)) Q _ (fun a' w' ι' used' hs' he hg => ?_)
    have hp := List.pairwise_cons.1 hap
    refine ex_run hx' (fun s' hs' => hok s' (by simp [hs'])) hp.2 (fun s' hm m h1 h2 => ⟨hA s' (by simp [hm]) m h1 h2, fun hc => hp.1 s' hm m ⟨hc, h1, h2⟩⟩) hs' Q (fun a2 w2 ι2 used2 hs2 he2 hg2 => ?_)
    refine hQ a2 w2 ι2 used2 (hs2.weaken fun m hm => ⟨⟨hm.1, hm.2 s (by simp)⟩, fun s' hs' => hm.2 s' (by simp [hs'])⟩) (he.trans he2) (hg.trans hg2)

/-! ### changing places -/
def Indep (ops : Array Oper) (r s : Step) : Prop :=
  (∀ d, dstOf ops r.i = some d → d ∉ looks ops s.i) ∧ (∀ d, dstOf ops r.i = some d → dstOf ops s.i ≠ some d) ∧ (∀ d, dstOf ops s.i = some d → d ∉ looks ops r.i) ∧ r.act.comm s.act

theorem putE_ne {env : Nat → PV} {dst : Option Tmp} {v : PV} {t : Nat} (h : ∀ d, dst = some d → d ≠ t) : putE env dst v t = env t := by
  cases dst with
  | none => rfl
  | some d => simp only [putE]; rw [if_neg]; exact fun e => h d rfl e.symm

theorem putE_comm {env : Nat → PV} {d d' : Option Tmp} {v v' : PV} (h : ∀ x, d = some x → d' ≠ some x) : putE (putE env d v) d' v' = putE (putE env d' v') d v := by
  cases d with
  | none => rfl
  | some x =>
    cases d' with
    | none => rfl
    | some y =>
      have hne : x ≠ y := fun e => h x rfl (by rw [e])
      funext i
      simp only [putE]
      by_cases h1 : i = x <;> by_cases h2 : i = y <;> simp_all

theorem upds_app : ∀ {wr : List (Tok × Row)} {h : H} {t : Tok}, (∀ x ∈ wr, x.1 ≠ t) → upds h wr t = h t
  | [], h, t, _ => rfl
  | (t', r) :: wr, h, t, hne => by
    simp only [upds]
    rw [upds_app (fun x hx => hne x (by simp [hx]))]
    exact upd_ne (fun e => hne (t', r) (by simp) e.symm)

theorem upds_cong : ∀ {wr : List (Tok × Row)} {h h' : H} {t : Tok}, h t = h' t → upds h wr t = upds h' wr t
  | [], h, h', t, e => e
  | (t', r) :: wr, h, h', t, e => by
    simp only [upds]
    refine upds_cong ?_
    by_cases h1 : t = t'
    · subst h1; simp [upd]
    · rw [upd_ne h1, upd_ne h1, e]

theorem upds_comm {wr wr' : List (Tok × Row)} {h : H} (hd : ∀ x ∈ wr, ∀ y ∈ wr', x.1 ≠ y.1) : upds (upds h wr) wr' = upds (upds h wr') wr := by
  funext t
  by_cases h1 : ∃ x ∈ wr, x.1 = t
  · obtain ⟨x, hx, rfl⟩ := h1
    rw [upds_app (fun y hy e => hd x hx y hy e.symm)]
    exact upds_cong (upds_app (fun y hy e => hd x hx y hy e.symm)).symm
  · have h2 : ∀ x ∈ wr, x.1 ≠ t := fun x hx e => h1 ⟨x, hx, e⟩
    rw [upds_app (wr := wr) (h := upds h wr') h2]
    exact upds_cong (upds_app h2)

theorem app_comm {a b : Action} (hc : a.comm b) {h h1 h2 : H} (h1' : App a h h1) (h2' : App b h1 h2) : ∃ h3, App b h h3 ∧ App a h3 h2 := by
  cases a with
  | fin rd wr =>
    cases b with
    | fin rd' wr' =>
      obtain ⟨c1, c2⟩ := hc
      obtain ⟨e1, rfl⟩ := h1'
      obtain ⟨e2, rfl⟩ := h2'
      refine ⟨upds h wr', ⟨fun y hy => ?_, rfl⟩, fun x hx => ?_, upds_comm (fun x hx y hy => (c1 x hx).2 y hy)⟩
      · rw [← e2 y hy]
        exact (upds_app (fun x hx => (c1 x hx).1 y hy)).symm
      · rw [upds_app (fun y hy => c2 y hy x hx)]
        exact e1 x hx
    | ca g g' =>
      obtain ⟨rfl, rfl⟩ := hc
      obtain ⟨_, rfl⟩ := h1'
      exact ⟨h2, h2', fun x hx => (by cases hx), rfl⟩
  | ca g g' =>
    cases b with
    | fin rd wr =>
      obtain ⟨rfl, rfl⟩ := hc
      obtain ⟨_, rfl⟩ := h2'
      exact ⟨h, ⟨fun x hx => (by cases hx), rfl⟩, h1'⟩
    | ca g2 g2' => exact hc.elim

theorem ex_swap {r s : Step} {l : List Step} {env env' : Nat → PV} {h h' : H} (hi : Indep ops r s) (hx : Ex ops (r :: s :: l) env h env' h') : Ex ops (s :: r :: l) env h env' h' := by
  obtain ⟨e1, h1, a1, e2, h2, a2, hx⟩ := hx
  obtain ⟨i1, i2, i3, i4⟩ := hi
  obtain ⟨h3, b1, b2⟩ := app_comm i4 a1 a2
  refine ⟨fun t ht => ?_, h3, b1, fun t ht => ?_, h2, b2, ?_⟩
  · rw [← e2 t ht]
    exact (putE_ne (fun d hd e => i1 d hd (e ▸ ht))).symm
  · rw [putE_ne (fun d hd e => i3 d hd (e ▸ ht))]
    exact e1 t ht
  · rw [← putE_comm i2]
    exact hx

theorem ex_front {s : Step} : ∀ {l l' : List Step} {env env' : Nat → PV} {h h' : H}, (∀ r ∈ l, Indep ops r s) → Ex ops (l ++ s :: l') env h env' h' → Ex ops (s :: (l ++ l')) env h env' h'
  | [], l', env, env', h, h', _, hx => hx
  | r :: l, l', env, env', h, h', hi, hx => by
    obtain ⟨e1, h1, a1, hx⟩ := hx
    have := ex_front (l := l) (fun q hq => hi q (by simp [hq])) hx
    exact ex_swap (hi r (by simp)) ⟨e1, h1, a1, this⟩

/-! ### what waits for what -/
theorem before_spec (ops : Array Oper) : ∀ i, i < ops.size → ∀ j, ((Region.before ops).getD i 0).testBit j = true →
    ∃ e ∈ (ops.getD i default).after, Region.binds .any e = true ∧ (e.on = j ∨ (e.on < i ∧ ((Region.before ops).getD e.on 0).testBit j = true)) := by
  have key := Array.foldl_induction (as := ops) (init := (#[] : Array Nat)) (f := fun acc o =>
      acc.push (o.after.foldl (fun s e => if Region.binds .any e then s ||| 2 ^ e.on ||| acc.getD e.on 0 else s) 0))
    (fun k acc => acc.size = k ∧ ∀ i, i < k → ∀ j, (acc.getD i 0).testBit j = true → ∃ e ∈ (ops.getD i default).after, Region.binds .any e = true ∧ (e.on = j ∨ (e.on < i ∧ (acc.getD e.on 0).testBit j = true)))
    ⟨rfl, fun i hi => by omega⟩
    (fun k acc ih => by
      obtain ⟨hs, ih⟩ := ih
      refine ⟨by simp [hs], fun i hi j hj => ?_⟩
      have hpush : ∀ (x : Nat) (q : Nat), q < acc.size → (acc.push x).getD q 0 = acc.getD q 0 := by
        intro x q hq; simp [Array.getD, hq, Nat.lt_succ_of_lt hq, Array.getElem_push_lt hq]
      by_cases hik : i < k
      · rw [hpush _ i (by omega)] at hj
        obtain ⟨e, h1, h2, h3⟩ := ih i hik j hj
        refine ⟨e, h1, h2, ?_⟩
        rcases h3 with h3 | ⟨h3, h4⟩
        · exact .inl h3
        · exact .inr ⟨h3, by rw [hpush _ e.on (by omega)]; exact h4⟩
      · have hik' : i = k := by omega
        subst hik'
        have hlast : ∀ x, (acc.push x).getD k.1 0 = x := by intro x; simp [Array.getD, ← hs]
        rw [hlast] at hj
        have hget : ops.getD k.1 default = ops[k] := by simp [Array.getD, k.2]
        rw [hget]
        -- the inner fold
        have inner := Array.foldl_induction (as := (ops[k]).after) (init := 0) (f := fun s e => if Region.binds .any e then s ||| 2 ^ e.on ||| acc.getD e.on 0 else s)
          (fun _ s => s.testBit j = true → ∃ e ∈ (ops[k]).after, Region.binds .any e = true ∧ (e.on = j ∨ (e.on < k.1 ∧ (acc.getD e.on 0).testBit j = true)))
          (fun h0 => by simp at h0)
          (fun q s ihq hq => by
            split at hq
            · rename_i hb
              simp only [Nat.testBit_or, Bool.or_eq_true] at hq
              rcases hq with (hq | hq) | hq
              · exact ihq hq
              · refine ⟨_, Array.getElem_mem q.2, hb, .inl ?_⟩
                rw [Nat.testBit_two_pow] at hq
                simpa using hq
              · refine ⟨_, Array.getElem_mem q.2, hb, .inr ⟨?_, hq⟩⟩
                rcases Nat.lt_or_ge ((ops[k]).after[q]).on acc.size with hlt | hge
                · rw [hs] at hlt; exact hlt
                · exfalso
                  have : acc.getD ((ops[k]).after[q]).on 0 = 0 := by
                    unfold Array.getD
                    rw [dif_neg (Nat.not_lt.2 hge)]
                  rw [this] at hq; simp at hq
            · exact ihq hq)
        obtain ⟨e, h1, h2, h3⟩ := inner hj
        refine ⟨e, h1, h2, ?_⟩
        rcases h3 with h3 | ⟨h3, h4⟩
        · exact .inl h3
        · exact .inr ⟨h3, by rw [hpush _ e.on (by omega)]; exact h4⟩)
  intro i hi j hj
  exact key.2 i hi j hj

/-- what has been listed is closed: whatever an operation waits for is listed ahead of it -/
def Closed (ops : Array Oper) (listed : Array Bool) : Prop :=
  ∀ i, listed.getD i true = true → i < ops.size → ∀ e ∈ (ops.getD i default).after, Region.binds .any e = true → listed.getD e.on false = true

theorem closed_before {listed : Array Bool} (hc : Closed ops listed) (hsz : listed.size = ops.size) : ∀ i, i < ops.size → (∀ e ∈ (ops.getD i default).after, Region.binds .any e = true → listed.getD e.on false = true) →
    ∀ j, ((Region.before ops).getD i 0).testBit j = true → listed.getD j false = true := by
  intro i
  induction i using Nat.strongRecOn with
  | _ i ih =>
    intro hi hd j hj
    obtain ⟨e, h1, h2, h3⟩ := before_spec ops i hi j hj
    rcases h3 with rfl | ⟨h3, h4⟩
    · exact hd e h1 h2
    · have hl := hd e h1 h2
      refine ih e.on h3 (by omega) (fun e' he' hb' => ?_) j h4
      refine hc e.on ?_ (by omega) e' he' hb'
      simp only [Array.getD] at hl ⊢
      split at hl
      · rename_i hlt; rw [dif_pos hlt]; exact hl
      · cases hl
end
end Go.Vs
