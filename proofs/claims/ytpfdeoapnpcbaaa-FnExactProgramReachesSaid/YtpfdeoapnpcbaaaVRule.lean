/-
  What is proved here: rules that lead from code to what it does with plain values.
  Conditions: none.
-/
import Derived.Test.YtpfdeoapnpcbaaaVRunAll
set_option linter.unusedSectionVars false
namespace Go.Vs
set_option linter.unusedVariables false
set_option linter.unusedSimpArgs false

def W (P : Program) (p : Tok) (n : Nat) (c : Code) (st : St) (Q : Exit → St → Prop) : Prop := ∃ ex st', Run P (.code p n c st ex st') ∧ Q ex st'
def WO (P : Program) (p : Tok) (n : Nat) (ops : Array Oper) (is : List Nat) (st : St) (Q : List Action → St → Prop) : Prop := ∃ acts st', Run P (.ops p n ops is st acts st') ∧ Q acts st'

/-- on with 'K', or out -/
def Nx (K : St → Prop) (Q : Exit → St → Prop) : Exit → St → Prop
  | .normal, st => K st
  | e, st => Q e st
def InB (id : Nat) (Q : Exit → St → Prop) : Exit → St → Prop
  | .exit i, st => if i = id then Q .normal st else Q (.exit i) st
  | e, st => Q e st

/-! ### temporaries and rows -/
def putL : List (Nat × PV) → (Nat → PV) → Nat → PV
  | [], e => e
  | (d, v) :: l, e => putE (putL l e) (some d) v
def agreeL (e : Nat → PV) : List (Nat × PV) → Prop
  | [] => True
  | (d, v) :: l => e d = v ∧ agreeL e l
theorem putL_self {e : Nat → PV} : ∀ {l : List (Nat × PV)}, agreeL e l → putL l e = e
  | [], _ => rfl
  | (d, v) :: l, h => by
    funext i
    simp only [putL, putE, putL_self h.2]
    split
    · rename_i hi; rw [hi]; exact h.1.symm
    · rfl
def maskD (ds : List Nat) (e' e : Nat → PV) : Nat → PV := fun i => if ds.contains i then e' i else e i
def Agree (ds : List Nat) (e e' : Nat → PV) : Prop := ∀ i, ds.contains i = false → e' i = e i
theorem Agree.refl {ds : List Nat} {e : Nat → PV} : Agree ds e e := fun _ _ => rfl
theorem Agree.put {ds : List Nat} {e e' : Nat → PV} {d : Nat} {v : PV} (hd : ds.contains d = true) (h : Agree ds e e') : Agree ds e (putE e' (some d) v) := fun i hi => by
  simp only [putE]
  rw [if_neg (fun e => by subst e; rw [hd] at hi; cases hi)]
  exact h i hi
theorem maskD_of {ds : List Nat} {e e' : Nat → PV} (h : Agree ds e e') : maskD ds e' e = e' := by
  funext i
  unfold maskD
  split
  · rfl
  · rename_i hi; exact (h i (by simpa using hi)).symm

def Keep (p : Tok) (h h' : H) : Prop := ∀ t, h' t = h t ∨ p <+: t
theorem Keep.refl {p : Tok} {h : H} : Keep p h h := fun _ => .inl rfl
theorem Keep.upd {p : Tok} {h h' : H} {q : Tok} {r : Row} (k : Keep p h h') : Keep p h (upd h' (p ++ q) r) := fun t => by
  by_cases e : t = p ++ q
  · exact .inr ⟨q, e.symm⟩
  · rw [upd_ne e]; exact k t
theorem Keep.trans {p : Tok} {h h' h2 : H} (k : Keep p h h') (k2 : Keep p h' h2) : Keep p h h2 := fun t => by
  rcases k2 t with e | e
  · rw [e]; exact k t
  · exact .inr e

theorem look_eq {h : H} {t : Tok} {r : Row} : upd h t r t = some r := upd_same h t r
theorem tok_ne {p q q' : Tok} {a b : Nat} (hab : a ≠ b) : p ++ a :: q ≠ p ++ b :: q' := by
  intro e; have := List.append_cancel_left e; simp at this; exact hab this.1
theorem look_ne {h : H} {p q q' : Tok} {a b : Nat} {r : Row} {x : Option Row} (hab : a ≠ b) (hx : h (p ++ a :: q) = x) : upd h (p ++ b :: q') r (p ++ a :: q) = x := by
  rw [upd_ne (tok_ne hab)]; exact hx

/-- a row that lies no longer there -/
def del (h : H) (t : Tok) : H := fun t' => if t' = t then none else h t'
theorem del_same (h : H) (t : Tok) : del h t t = none := by simp [del]
theorem del_ne {h : H} {t t' : Tok} (hne : t' ≠ t) : del h t t' = h t' := by simp [del, hne]
theorem look_del {h : H} {p q q' : Tok} {a b : Nat} {x : Option Row} (hab : a ≠ b) (hx : h (p ++ a :: q) = x) : del h (p ++ b :: q') (p ++ a :: q) = x := by
  rw [del_ne (tok_ne hab)]; exact hx
theorem look_pn {h : H} {p q tk : Tok} {r : Row} {x : Option Row} (hp : ¬ p <+: tk) (hx : h (p ++ q) = x) : upd h tk r (p ++ q) = x := by
  rw [upd_ne (fun e => hp (by first | rw [e]; exact List.prefix_append _ _ | rw [← e]; exact List.prefix_append _ _))]; exact hx
theorem look_np {h : H} {p q tk : Tok} {r : Row} {x : Option Row} (hp : ¬ p <+: tk) (hx : h tk = x) : upd h (p ++ q) r tk = x := by
  rw [upd_ne (fun e => hp (by first | rw [e]; exact List.prefix_append _ _ | rw [← e]; exact List.prefix_append _ _))]; exact hx
theorem look_delp {h : H} {p q tk : Tok} {x : Option Row} (hp : ¬ p <+: tk) (hx : h tk = x) : del h (p ++ q) tk = x := by
  rw [del_ne (fun e => hp (by rw [e]; exact List.prefix_append _ _))]; exact hx
theorem rowAt_of {h : H} {t : Tok} {r : Row} (e : h t = some r) : rowAt h t r.ver = some r := by unfold rowAt; rw [e]; simp
theorem rowAt_ver {h : H} {t : Tok} {ver sz : Nat} {xs : List PV} (e : h t = some ⟨ver, sz, xs⟩) : rowAt h t ver = some ⟨ver, sz, xs⟩ := by unfold rowAt; rw [e]; simp

section
variable {P : Program} {p : Tok} {n : Nat} {ops : Array Oper} {st : St} {Q : Exit → St → Prop}

/-! ### code -/
theorem W_mono {c : Code} {Q' : Exit → St → Prop} (h : W P p n c st Q) (hq : ∀ ex st', Q ex st' → Q' ex st') : W P p n c st Q' := by
  obtain ⟨ex, st', h1, h2⟩ := h; exact ⟨ex, st', h1, hq _ _ h2⟩
theorem W_skip (h : Q .normal st) : W P p n .skip st Q := ⟨_, _, .skip, h⟩
theorem W_label {l : Nat} (h : Q .normal st) : W P p n (.label l) st Q := ⟨_, _, .label, h⟩
theorem W_exit {id : Nat} (h : Q (.exit id) st) : W P p n (.exit id) st Q := ⟨_, _, .exit, h⟩
theorem W_ret (h : Q .ret st) : W P p n .ret st Q := ⟨_, _, .ret, h⟩
theorem W_seq {x y : Code} (h : W P p n x st (Nx (fun s => W P p n y s Q) Q)) : W P p n (.seq x y) st Q := by
  obtain ⟨ex, st1, h1, h2⟩ := h
  by_cases hx : ex = .normal
  · subst hx
    obtain ⟨ex2, st2, h3, h4⟩ := h2
    exact ⟨ex2, st2, .seq h1 h3, h4⟩
  · refine ⟨ex, st1, .seqX h1 hx, ?_⟩
    cases ex <;> first | exact h2 | exact absurd rfl hx
theorem W_cond {c : Operand} {x y : Code} {q : Bool} (h1 : q = true → W P p n x st Q) (h2 : q = false → W P p n y st Q) (hc : evO n st.env c = .v (.bool q) := by rfl) : W P p n (.cond c x y) st Q := by
  have h : W P p n (if q then x else y) st Q := by
    cases q with
    | false => exact h2 rfl
    | true => exact h1 rfl
  obtain ⟨ex, st1, h3, h4⟩ := h
  exact ⟨ex, st1, .cond hc h3, h4⟩
theorem W_condT {c : Operand} {x y : Code} (h1 : W P p n x st Q) (hc : evO n st.env c = .v (.bool true) := by rfl) : W P p n (.cond c x y) st Q := W_cond (fun _ => h1) (fun e => by cases e) hc
theorem W_condF {c : Operand} {x y : Code} (h1 : W P p n y st Q) (hc : evO n st.env c = .v (.bool false) := by rfl) : W P p n (.cond c x y) st Q := W_cond (fun e => by cases e) (fun _ => h1) hc
theorem W_block {id : Nat} {c : Code} (h : W P p n c st (InB id Q)) : W P p n (.block id c) st Q := by
  obtain ⟨ex, st1, h1, h2⟩ := h
  by_cases hx : ex = .exit id
  · subst hx
    exact ⟨_, _, .blockX h1, by simpa [InB] using h2⟩
  · refine ⟨ex, st1, .block h1 hx, ?_⟩
    cases ex with
    | exit i => simpa [InB, show ¬ i = id from fun e => hx (by rw [e])] using h2
    | _ => exact h2
/-- a loop by what holds at its head, and a number that falls -/
theorem W_loop {α : Type} {c : Code} (I : α → St → Prop) (μ : α → Nat) (a : α) (h0 : I a st) (step : ∀ a st, I a st → W P p n c st (Nx (fun st' => ∃ a', I a' st' ∧ μ a' < μ a) Q)) : W P p n (.loop c) st Q := by
  have key : ∀ m a st, μ a = m → I a st → W P p n (.loop c) st Q := by
    intro m
    induction m using Nat.strongRecOn with
    | _ m ih =>
      intro a st hm hI
      obtain ⟨ex, st1, h1, h2⟩ := step a st hI
      by_cases hx : ex = .normal
      · subst hx
        obtain ⟨a', h3, h4⟩ := h2
        obtain ⟨ex2, st2, h5, h6⟩ := ih (μ a') (hm ▸ h4) a' st1 rfl h3
        exact ⟨ex2, st2, .loop h1 h5, h6⟩
      · refine ⟨ex, st1, .loopX h1 hx, ?_⟩
        cases ex <;> first | exact h2 | exact absurd rfl hx
  exact key _ a st rfl h0
theorem W_region {id : Nat} (h : WO P p n ops (List.range ops.size) st (fun _ s => Q .normal s)) : W P p n (.region id ops false) st Q := by
  obtain ⟨acts, st', h1, h2⟩ := h
  exact ⟨_, _, .region h1, h2⟩

/-- an action's kind: 0 nothing, 1 reads alone, 2 the rest -/
def kindOk : Nat → Action → Bool
  | 0, .fin [] [] => true
  | 1, .fin _ [] => true
  | 2, _ => true
  | _, _ => false
def kindsOk : List Nat → List Action → Bool
  | [], [] => true
  | k :: ks, a :: as => kindOk k a && kindsOk ks as
  | _, _ => false
/-- operations that neither waits for the other are of kinds that may change places -/
def freeOk (ops : Array Oper) (ks : List Nat) : Bool :=
  (List.range ops.size).all fun i => (List.range i).all fun j =>
    ((Region.before ops).getD i 0).testBit j || (ks.getD i 2 == 0 || ks.getD j 2 == 0 || (ks.getD i 2 == 1 && ks.getD j 2 == 1))
theorem kindsOk_get : ∀ {ks : List Nat} {acts : List Action} {i : Nat} {a : Action}, kindsOk ks acts = true → acts[i]? = some a → kindOk (ks.getD i 2) a = true
  | [], [], i, a, _, h => by simp at h
  | [], _ :: _, _, _, h, _ => by simp [kindsOk] at h
  | _ :: _, [], _, _, h, _ => by simp [kindsOk] at h
  | k :: ks, b :: as, 0, a, h, ha => by
    simp [kindsOk] at h
    simp at ha; subst ha
    simpa using h.1
  | k :: ks, b :: as, i + 1, a, h, ha => by
    simp [kindsOk] at h
    simp at ha
    simpa using kindsOk_get h.2 ha
theorem kind0 {a : Action} (h : kindOk 0 a = true) : a = .fin [] [] := by
  cases a with
  | fin rd wr => cases rd <;> cases wr <;> simp [kindOk] at h ⊢
  | ca => simp [kindOk] at h
theorem kind1 {a : Action} (h : kindOk 1 a = true) : ∃ rd, a = .fin rd [] := by
  cases a with
  | fin rd wr => cases wr <;> simp [kindOk] at h ⊢
  | ca => simp [kindOk] at h
theorem comm0 (a : Action) : Action.comm (.fin [] []) a := by
  cases a <;> simp [Action.comm]
theorem comm0' (a : Action) : Action.comm a (.fin [] []) := by
  cases a <;> simp [Action.comm]
theorem commOk_of {ks : List Nat} {acts : List Action} (hf : freeOk ops ks = true) (hk : kindsOk ks acts = true) : commOk ops acts := by
  intro i hi j hj hb a b ha hb'
  unfold freeOk at hf
  rw [List.all_eq_true] at hf
  have := hf i (by simpa using hi)
  rw [List.all_eq_true] at this
  have := this j (by simpa using hj)
  rw [hb, Bool.false_or] at this
  have h1 := kindsOk_get hk ha
  have h2 := kindsOk_get hk hb'
  simp only [Bool.or_eq_true, Bool.and_eq_true, beq_iff_eq] at this
  rcases this with (e | e) | ⟨e1, e2⟩
  · rw [e] at h2; rw [kind0 h2]; exact comm0' a
  · rw [e] at h1; rw [kind0 h1]; exact comm0 b
  · rw [e2] at h1; rw [e1] at h2
    obtain ⟨rd, rfl⟩ := kind1 h1
    obtain ⟨rd', rfl⟩ := kind1 h2
    simp [Action.comm]
/-- a region that draws its order; 'ks' tells the kinds of its actions -/
theorem W_regionD {id : Nat} (ks : List Nat) (hm : P.follows .mixedOrders = true) (hc : (apartB ops && edgesB ops && freeOk ops ks) = true) (h : WO P p n ops (List.range ops.size) st (fun acts s => kindsOk ks acts = true ∧ Q .normal s)) : W P p n (.region id ops true) st Q := by
  obtain ⟨acts, st', h1, h2, h3⟩ := h
  simp only [Bool.and_eq_true] at hc
  exact ⟨_, _, .regionD hm hc.1.1 hc.1.2 h1 (commOk_of hc.2 h2), h3⟩

/-- a region of which some values are kept -/
theorem W_keep {c : Code} (ds : List Nat) (l : List (Nat × PV)) (h : W P p n c st (fun ex s => ex = .normal ∧ s.h = st.h ∧ st.nx ≤ s.nx ∧ Agree ds st.env s.env ∧ agreeL s.env l))
    (k : ∀ e nx, st.nx ≤ nx → Q .normal ⟨putL l (maskD ds e st.env), nx, st.h⟩) : W P p n c st Q := by
  obtain ⟨ex, s, h1, rfl, h2, h3, h4, h5⟩ := h
  refine ⟨_, _, h1, ?_⟩
  have := k s.env s.nx h3
  rw [maskD_of h4, putL_self h5, ← h2] at this
  exact this

/-! ### operations -/
variable {i : Nat} {is : List Nat} {K : List Action → St → Prop}
theorem WO_nil (h : K [] st) : WO P p n ops [] st K := ⟨_, _, .onil, h⟩
theorem WO_skip {env : Nat → PV} {nx : Nat} {h : H} {dst : Option Tmp} {op : Op} {ty : TypeId} {pos : String} {af : Array Edge} {g : Option (Nat × Bool)}
    (kk : WO P p n ops is ⟨putE env dst (.v undef), nx, h⟩ (fun acts so => K (.fin [] [] :: acts) so))
    (ho : ops[i]? = some ⟨dst, op, ty, pos, af, g⟩ := by rfl) (hw : Region.wanted ⟨dst, op, ty, pos, af, g⟩ (yieldE ops n env) = false := by rfl) : WO P p n ops (i :: is) ⟨env, nx, h⟩ K := by
  obtain ⟨acts, st', h1, h2⟩ := kk
  exact ⟨_, _, .oskip (o := ⟨dst, op, ty, pos, af, g⟩) ho hw h1, h2⟩
theorem WO_op {o : Oper} {hint : Option Nat} {res : Res} (ho : ops[i]? = some o) (hw : Region.wanted o (yieldE ops n st.env) = true) (he : opF P n (p ++ [st.nx]) hint o.op o.type st.env st.h = some res) (hrd : ∀ x ∈ res.rd, st.h x.1 = some x.2)
    (h : WO P p n ops is ⟨putE st.env o.dst res.v, st.nx + res.al, upds st.h res.wr⟩ (fun acts s => K (.fin res.rd res.wr :: acts) s)) : WO P p n ops (i :: is) st K := by
  obtain ⟨acts, st', h1, h2⟩ := h
  exact ⟨_, _, .oop ho hw he hrd h1, h2⟩
end
end Go.Vs
