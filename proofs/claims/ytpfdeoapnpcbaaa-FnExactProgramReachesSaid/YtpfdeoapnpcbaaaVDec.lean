/-
  What is proved here: rules for code that a program reads as Lean functions: lists and numbers with checks, rows, calls, joins and loops.
  Conditions: none.
-/
import Derived.Test.YtpfdeoapnpcbaaaVRule3
set_option linter.unusedSectionVars false
namespace Go.Vs
set_option linter.unusedVariables false
set_option linter.unusedSimpArgs false

abbrev I (n : Int) : PV := .v (.int .i64 n)
abbrev U (n : Int) : PV := .v (.int .u8 n)
abbrev U64 (n : Int) : PV := .v (.int .u64 n)
abbrev B (b : Bool) : PV := .v (.bool b)
abbrev S (s : ByteArray) : PV := .v (.string s)

/-! ### numbers and lists with checks -/
abbrev w64 (x : Int) : Int := IntKind.i64.wrap x
def andI (k : IntKind) (a b : Int) : Int := k.wrap ((BitVec.ofInt k.bits a &&& BitVec.ofInt k.bits b).toNat)
def orI (k : IntKind) (a b : Int) : Int := k.wrap ((BitVec.ofInt k.bits a ||| BitVec.ofInt k.bits b).toNat)
def xorI (k : IntKind) (a b : Int) : Int := k.wrap ((BitVec.ofInt k.bits a ^^^ BitVec.ofInt k.bits b).toNat)
def andNotI (k : IntKind) (a b : Int) : Int := k.wrap ((BitVec.ofInt k.bits a &&& ~~~BitVec.ofInt k.bits b).toNat)
def quoI (k : IntKind) (a b : Int) : Option Int := if b = 0 then none else some (k.wrap (a.tdiv b))
def remI (a b : Int) : Option Int := if b = 0 then none else some (a.tmod b)
def shlI (k : IntKind) (a b : Int) : Option Int := if b < 0 then none else some (k.wrap (a * 2 ^ min b.toNat k.bits))
def shrI (k : IntKind) (a b : Int) : Option Int := if b < 0 then none else some (a.fdiv (2 ^ min b.toNat k.bits))
section
variable {α β : Type}
def getI (xs : List α) (i : Int) : Option α := if 0 ≤ i then xs[i.toNat]? else none
def setI (xs : List α) (i : Int) (x : α) : Option (List α) := if 0 ≤ i ∧ i.toNat < xs.length then some (xs.set i.toNat x) else none
def subI (xs : List α) (a b : Int) : Option (List α) := if 0 ≤ a ∧ a ≤ b ∧ b.toNat ≤ xs.length then some ((xs.take b.toNat).drop a.toNat) else none
def appI (xs ys : List α) : Option (List α) := if xs.length + ys.length ≤ LIM then some (xs ++ ys) else none
def makI (n : Int) (z : α) : Option (List α) := if 0 ≤ n ∧ n.toNat ≤ LIM then some (List.replicate n.toNat z) else none
def getS (s : ByteArray) (i : Int) : Option Int := if 0 ≤ i then (s[i.toNat]?).map fun c => ((c.toNat : Nat) : Int) else none
def subS (s : ByteArray) (a b : Int) : Option ByteArray := if 0 ≤ a ∧ a ≤ b ∧ b.toNat ≤ s.size then some (s.extract a.toNat b.toNat) else none
def catS (a b : ByteArray) : Option ByteArray := if ((a.size + b.size : Nat) : Int) ≤ IntKind.i64.max then some (a ++ b) else none
/-- the numbers from i on, below n -/
def rng (i n : Int) : List Int := (List.range (n - i).toNat).map fun (k : Nat) => i + (k : Int)
/-- what holds for all greater numbers of rounds -/
noncomputable def limO (f : Nat → Option β) : Option β := by
  classical exact if h : ∃ r : β, ∃ k0, ∀ k, k0 ≤ k → f k = some r then some h.choose else none
@[reducible] def bd (E : α) (k : α → β) : β := k E

theorem getI_spec {xs : List α} {i : Int} {x : α} (h : getI xs i = some x) : 0 ≤ i ∧ xs[i.toNat]? = some x ∧ i.toNat < xs.length := by
  unfold getI at h
  split at h
  · rename_i h0; exact ⟨h0, h, (List.getElem?_eq_some_iff.1 h).1⟩
  · cases h
theorem getI_nat {xs : List α} {i : Nat} {x : α} (h : xs[i]? = some x) : getI xs (i : Nat) = some x := by
  unfold getI; rw [if_pos (by omega)]; simpa using h
theorem setI_spec {xs ys : List α} {i : Int} {x : α} (h : setI xs i x = some ys) : 0 ≤ i ∧ i.toNat < xs.length ∧ ys = xs.set i.toNat x := by
  unfold setI at h
  split at h
  · rename_i h0; cases h; exact ⟨h0.1, h0.2, rfl⟩
  · cases h
theorem subI_spec {xs ys : List α} {a b : Int} (h : subI xs a b = some ys) : 0 ≤ a ∧ a ≤ b ∧ b.toNat ≤ xs.length ∧ ys = (xs.take b.toNat).drop a.toNat := by
  unfold subI at h
  split at h
  · rename_i h0; cases h; exact ⟨h0.1, h0.2.1, h0.2.2, rfl⟩
  · cases h
theorem appI_spec {xs ys zs : List α} (h : appI xs zs = some ys) : xs.length + zs.length ≤ LIM ∧ ys = xs ++ zs := by
  unfold appI at h
  split at h
  · rename_i h0; cases h; exact ⟨h0, rfl⟩
  · cases h
theorem makI_spec {n : Int} {z : α} {ys : List α} (h : makI n z = some ys) : 0 ≤ n ∧ n.toNat ≤ LIM ∧ ys = List.replicate n.toNat z := by
  unfold makI at h
  split at h
  · rename_i h0; cases h; exact ⟨h0.1, h0.2, rfl⟩
  · cases h
theorem setI_len {xs ys : List α} {i : Int} {x : α} {n : Nat} (h : setI xs i x = some ys) (hl : xs.length = n ∧ n ≤ LIM) : ys.length = n ∧ n ≤ LIM := by
  obtain ⟨_, _, rfl⟩ := setI_spec h
  simpa using hl
theorem appI_len {xs ys zs : List α} (h : appI xs zs = some ys) : ys.length = ys.length ∧ ys.length ≤ LIM := by
  obtain ⟨h1, rfl⟩ := appI_spec h
  exact ⟨rfl, by simpa using h1⟩
theorem makI_len {n : Int} {z : α} {ys : List α} (h : makI n z = some ys) : ys.length = ys.length ∧ ys.length ≤ LIM := by
  obtain ⟨h0, h1, rfl⟩ := makI_spec h
  exact ⟨rfl, by simpa using h1⟩
theorem ob {o : Option α} {k : α → Option β} {r : β} (h : o.bind k = some r) : ∃ x, o = some x ∧ k x = some r := Option.bind_eq_some_iff.1 h
theorem obd {E : α} {k : α → β} {R : β} (h : bd E k = R) : ∃ x, E = x ∧ k x = R := ⟨E, rfl, h⟩
theorem limO_some {f : Nat → Option β} {r : β} (h : limO f = some r) : ∃ k, f k = some r := by
  unfold limO at h
  split at h
  · rename_i hh
    cases h
    obtain ⟨k0, hk⟩ := hh.choose_spec
    exact ⟨k0, hk k0 (Nat.le_refl _)⟩
  · cases h
theorem limO_eq {f : Nat → Option β} {r : β} (k0 : Nat) (h : ∀ k, k0 ≤ k → f k = some r) : limO f = some r := by
  have hh : ∃ r : β, ∃ k0, ∀ k, k0 ≤ k → f k = some r := ⟨r, k0, h⟩
  unfold limO
  rw [dif_pos hh]
  obtain ⟨k1, hk1⟩ := hh.choose_spec
  have h1 := hk1 (max k0 k1) (Nat.le_max_right _ _)
  rw [h _ (Nat.le_max_left _ _)] at h1
  exact h1.symm
theorem rng_nil {i n : Int} (h : n ≤ i) : rng i n = [] := by unfold rng; rw [show (n - i).toNat = 0 by omega]; rfl
theorem rng_cons {i n : Int} (h : i < n) : rng i n = i :: rng (i + 1) n := by
  unfold rng
  obtain ⟨m, hm⟩ : ∃ m : Nat, (n - i).toNat = m + 1 := ⟨(n - i).toNat - 1, by omega⟩
  rw [hm, show (n - (i + 1)).toNat = m by omega, List.range_succ_eq_map]
  simp only [List.map_cons, List.map_map]
  congr 1
  · simp
  · apply List.map_congr_left
    intro k _
    simp; omega
theorem okSz_map {sz : Nat} {e : α → PV} {xs : List α} (hc : ∀ x, (e x).cells.length = sz) : okSz sz (xs.map e) = true := by
  unfold okSz; simp [hc]
theorem lt_get {xs : List α} {i : Nat} (h : i < xs.length) : ∃ x, xs[i]? = some x ∧ xs.drop i = x :: xs.drop (i + 1) := ⟨xs[i], List.getElem?_eq_getElem h, List.drop_eq_getElem_cons h⟩
theorem drop_len {xs : List α} {i : Nat} (h : xs.length ≤ i) : xs.drop i = [] := List.drop_eq_nil_of_le h
theorem dec_lt {a b : Int} (h : decide (a < b) = true) : a < b := of_decide_eq_true h
theorem dec_ge {a b : Int} (h : decide (a < b) = false) : b ≤ a := Int.not_lt.1 (of_decide_eq_false h)
end
theorem w64_ge (x : Int) : -9223372036854775808 ≤ w64 x := by unfold w64; rw [IntKind.wrap_i64]; omega
def chk (n : Int) : Option Unit := if n ≤ 9223372036854775807 then some () else none
theorem chk_le {n : Int} {u : Unit} (h : chk n = some u) : n ≤ 9223372036854775807 := by
  unfold chk at h; split at h
  · assumption
  · cases h
theorem dec_le {a b : Int} (h : decide (a ≤ b) = true) : a ≤ b := of_decide_eq_true h
theorem dec_gt {a b : Int} (h : decide (a ≤ b) = false) : b < a := Int.not_le.1 (of_decide_eq_false h)
theorem tok_sub {p q : Tok} {a b : Nat} (hab : a ≠ b) : ¬ (p ++ [a]) <+: (p ++ b :: q) := fun h => by
  obtain ⟨s, e⟩ := h
  rw [List.append_assoc] at e
  have := List.append_cancel_left e
  simp at this; exact hab this.1
theorem notp_sub {p tk : Tok} {a : Nat} (h : ¬ p <+: tk) : ¬ (p ++ [a]) <+: tk := fun e => h ((List.prefix_append _ _).trans e)
abbrev eL {α : Type} (e : α → PV) (xs : List α) : PV := .sl false (xs.map e)
def lowI : Option PV → Option Int
  | none => some 0
  | some (.v (.int _ a)) => some a
  | _ => none
def highI : Option PV → Nat → Option Int
  | none, n => some (n : Nat)
  | some (.v (.int _ a)), _ => some a
  | _, _ => none

/-! ### frames -/
/-- rows of others stay, but for 'T' -/
def Kp (p : Tok) (T : List Tok) (h h' : H) : Prop := ∀ t, h' t = h t ∨ p <+: t ∨ t ∈ T
theorem Kp.refl {p : Tok} {T : List Tok} {h : H} : Kp p T h h := fun _ => .inl rfl
theorem Kp.upd {p : Tok} {T : List Tok} {h h' : H} {q : Tok} {r : Row} (k : Kp p T h h') : Kp p T h (upd h' (p ++ q) r) := fun t => by
  by_cases e : t = p ++ q
  · exact .inr (.inl ⟨q, e.symm⟩)
  · rw [upd_ne e]; exact k t
theorem Kp.del {p : Tok} {T : List Tok} {h h' : H} {q : Tok} (k : Kp p T h h') : Kp p T h (del h' (p ++ q)) := fun t => by
  by_cases e : t = p ++ q
  · exact .inr (.inl ⟨q, e.symm⟩)
  · rw [del_ne e]; exact k t
theorem Kp.updT {p : Tok} {T : List Tok} {h h' : H} {tk : Tok} {r : Row} (k : Kp p T h h') (ht : tk ∈ T := by simp) : Kp p T h (Go.Vs.upd h' tk r) := fun t => by
  by_cases e : t = tk
  · exact .inr (.inr (e ▸ ht))
  · rw [upd_ne e]; exact k t
theorem Kp.trans {p : Tok} {T : List Tok} {h h' h2 : H} (k : Kp p T h h') (k2 : Kp p T h' h2) : Kp p T h h2 := fun t => by
  rcases k2 t with e | e
  · rw [e]; exact k t
  · exact .inr e

section
variable {P : Program} {p : Tok} {n : Nat} {ops : Array Oper} {env : Nat → PV} {nx : Nat} {h : H} {i : Nat} {is : List Nat} {K : List Action → St → Prop} {dst : Option Tmp} {ty : TypeId} {pos : String} {af : Array Edge} {g : Option (Nat × Bool)} {Q : Exit → St → Prop}
variable {α β : Type}

theorem aKp {T : List Tok} {h h' : H} (k : Kp p T h h' := by repeat (first | exact Kp.refl | assumption | refine Kp.upd ?_ | refine Kp.del ?_ | refine Kp.updT ?_)) : Kp p T h h' := k
theorem aLk {h : H} {t : Tok} {x : Option Row} (k : h t = x := by (repeat (first | refine look_ne (by omega) ?_ | refine look_pn (by assumption) ?_ | refine look_np (by assumption) ?_ | refine look_del (by omega) ?_ | refine look_delp (by assumption) ?_)); first | with_reducible assumption | exact look_eq | assumption) : h t = x := k
theorem aOm {q : Prop} (k : q := by first | omega | (dsimp only at *; omega)) : q := k
theorem aNp {tk : Tok} (k : ¬ p <+: tk := by first | assumption | exact notp_sub (by assumption) | (intro e; exact tok_sub (by omega) e)) : ¬ p <+: tk := k
/-! ### truths -/
theorem W_ite {c : Operand} {x y : Code} {st : St} {b : Bool} {X Y R : α} (hm : (if b then X else Y) = R) (h1 : b = true → X = R → W P p n x st Q) (h2 : b = false → Y = R → W P p n y st Q) (hc : evO n st.env c = .v (.bool b) := by rfl) : W P p n (.cond c x y) st Q :=
  W_cond (fun hb => h1 hb (by subst hb; simpa using hm)) (fun hb => h2 hb (by subst hb; simpa using hm)) hc
theorem W_ite' {c : Operand} {x y : Code} {st : St} {b : Bool} {X Y R : α} (hm : (if b then X else Y) = R) (h1 : b = true → X = R → W P p n y st Q) (h2 : b = false → Y = R → W P p n x st Q) (hc : evO n st.env c = .v (.bool (!b)) := by rfl) : W P p n (.cond c x y) st Q :=
  by
  cases b with
  | true => exact W_condF (h1 rfl (by simpa using hm)) hc
  | false => exact W_condT (h2 rfl (by simpa using hm)) hc
theorem WO_ite (d : Nat) {b : Bool} {X Y R : α} (hm : (if b then X else Y) = R) (ht : b = true → X = R → WO P p n ops is ⟨putE env (some d) (.v (.bool true)), nx, h⟩ K) (hf : b = false → Y = R → WO P p n ops is ⟨putE env (some d) (.v (.bool false)), nx, h⟩ K)
    (hb : evO n env (.tmp d) = .v (.bool b) := by rfl) : WO P p n ops is ⟨env, nx, h⟩ K :=
  WO_if d (fun hb => ht hb (by subst hb; simpa using hm)) (fun hb => hf hb (by subst hb; simpa using hm)) hb
theorem WO_iand (d : Nat) {b Y R : Bool} (hm : (b && Y) = R) (ht : b = true → Y = R → WO P p n ops is ⟨putE env (some d) (.v (.bool true)), nx, h⟩ K) (hf : b = false → false = R → WO P p n ops is ⟨putE env (some d) (.v (.bool false)), nx, h⟩ K)
    (hb : evO n env (.tmp d) = .v (.bool b) := by rfl) : WO P p n ops is ⟨env, nx, h⟩ K :=
  WO_if d (fun hb => ht hb (by subst hb; simpa using hm)) (fun hb => hf hb (by subst hb; simpa using hm)) hb
theorem WO_ior (d : Nat) {b Y R : Bool} (hm : (b || Y) = R) (ht : b = true → true = R → WO P p n ops is ⟨putE env (some d) (.v (.bool true)), nx, h⟩ K) (hf : b = false → Y = R → WO P p n ops is ⟨putE env (some d) (.v (.bool false)), nx, h⟩ K)
    (hb : evO n env (.tmp d) = .v (.bool b) := by rfl) : WO P p n ops is ⟨env, nx, h⟩ K :=
  WO_if d (fun hb => ht hb (by subst hb; simpa using hm)) (fun hb => hf hb (by subst hb; simpa using hm)) hb

/-! ### elements -/
theorem D_index {x ix : Operand} {t el : TypeId} {s : Nat} {b : Bool} {xs : List α} {e : α → PV} {k : IntKind} {a : Int} {c : α} (he : slElem P t = some el) (hs : szOf P el = some s) (hg : getI xs a = some c)
    (kk : WO P p n ops is ⟨putE env dst (.iptr (e c).cells), nx, h⟩ (fun acts so => K (.fin [] [] :: acts) so))
    (ho : ops[i]? = some ⟨dst, .indexAddr t x ix, ty, pos, af, g⟩ := by rfl) (hw : Region.wanted ⟨dst, .indexAddr t x ix, ty, pos, af, g⟩ (yieldE ops n env) = true := by rfl)
    (hx : evO n env x = (.sl b (xs.map e)) := by rfl) (hi : evO n env ix = (.v (.int k a)) := by rfl) (hc : (e c).cells.length = s := by rfl) : WO P p n ops (i :: is) ⟨env, nx, h⟩ K :=
  WO_index he hs kk ho hw hx hi (getI_spec hg).1 (by rw [List.getElem?_map, (getI_spec hg).2.1]; rfl) hc
theorem D_indexR {x ix : Operand} {t el : TypeId} {s : Nat} {tk : Tok} {ver len : Nat} {xs : List α} {e : α → PV} {k : IntKind} {a : Int} {c : α} (he : slElem P t = some el) (hs : szOf P el = some s) (hg : getI xs a = some c) (hl : xs.length = len ∧ len ≤ LIM)
    (kk : WO P p n ops is ⟨putE env dst (.ptr tk ver a.toNat 0), nx, h⟩ (fun acts so => K (.fin [(tk, ⟨ver, s, xs.map e⟩)] [] :: acts) so))
    (ho : ops[i]? = some ⟨dst, .indexAddr t x ix, ty, pos, af, g⟩ := by rfl) (hw : Region.wanted ⟨dst, .indexAddr t x ix, ty, pos, af, g⟩ (yieldE ops n env) = true := by rfl)
    (hx : evO n env x = (.ref tk ver 0 len) := by rfl) (hi : evO n env ix = (.v (.int k a)) := by rfl) (hr : h tk = some ⟨ver, s, xs.map e⟩ := by (repeat (first | refine look_ne (by omega) ?_ | refine look_pn (by assumption) ?_ | refine look_np (by assumption) ?_ | refine look_del (by omega) ?_ | refine look_delp (by assumption) ?_)); first | with_reducible assumption | exact look_eq | assumption) : WO P p n ops (i :: is) ⟨env, nx, h⟩ K := by
  have h2 := getI_spec hg
  refine WO_indexR (off := 0) (len := len) he hs ?_ ho hw hx hi hr ⟨h2.1, by have := hl.1; omega⟩
  rwa [Nat.zero_add]
/-- the same before a store -/
theorem D_indexW {x ix : Operand} {t el : TypeId} {s : Nat} {tk : Tok} {ver len : Nat} {xs ys : List α} {e : α → PV} {k : IntKind} {a : Int} {c : α} (he : slElem P t = some el) (hs : szOf P el = some s) (hg : setI xs a c = some ys) (hl : xs.length = len ∧ len ≤ LIM)
    (kk : WO P p n ops is ⟨putE env dst (.ptr tk ver a.toNat 0), nx, h⟩ (fun acts so => K (.fin [(tk, ⟨ver, s, xs.map e⟩)] [] :: acts) so))
    (ho : ops[i]? = some ⟨dst, .indexAddr t x ix, ty, pos, af, g⟩ := by rfl) (hw : Region.wanted ⟨dst, .indexAddr t x ix, ty, pos, af, g⟩ (yieldE ops n env) = true := by rfl)
    (hx : evO n env x = (.ref tk ver 0 len) := by rfl) (hi : evO n env ix = (.v (.int k a)) := by rfl) (hr : h tk = some ⟨ver, s, xs.map e⟩ := by (repeat (first | refine look_ne (by omega) ?_ | refine look_pn (by assumption) ?_ | refine look_np (by assumption) ?_ | refine look_del (by omega) ?_ | refine look_delp (by assumption) ?_)); first | with_reducible assumption | exact look_eq | assumption) : WO P p n ops (i :: is) ⟨env, nx, h⟩ K := by
  have h2 := setI_spec hg
  refine WO_indexR (off := 0) (len := len) he hs ?_ ho hw hx hi hr ⟨h2.1, by have := hl.1; omega⟩
  rwa [Nat.zero_add]
theorem D_ld1R {a : Operand} {t : TypeId} {tk : Tok} {ver f sz s : Nat} {xs : List α} {e : α → PV} {j : Int} {x : α} {c : PV} (hs : szOf P t = some s) (hgg : aggT P t = some false) (hg : getI xs j = some x)
    (kk : WO P p n ops is ⟨putE env dst c, nx, h⟩ (fun acts so => K (.fin [(tk, ⟨ver, sz, xs.map e⟩)] [] :: acts) so))
    (ho : ops[i]? = some ⟨dst, .load t a, ty, pos, af, g⟩ := by rfl) (hw : Region.wanted ⟨dst, .load t a, ty, pos, af, g⟩ (yieldE ops n env) = true := by rfl)
    (ha : evO n env a = (.ptr tk ver j.toNat f) := by rfl) (hr : h tk = some ⟨ver, sz, xs.map e⟩ := by (repeat (first | refine look_ne (by omega) ?_ | refine look_pn (by assumption) ?_ | refine look_np (by assumption) ?_ | refine look_del (by omega) ?_ | refine look_delp (by assumption) ?_)); first | with_reducible assumption | exact look_eq | assumption) (hv : (e x).cells[f]? = some c := by rfl) : WO P p n ops (i :: is) ⟨env, nx, h⟩ K :=
  WO_load1 hs hgg kk ho hw ha hr (by rw [List.getElem?_map, (getI_spec hg).2.1]; rfl) hv
theorem D_ldSR {a : Operand} {t : TypeId} {tk : Tok} {ver sz s : Nat} {xs : List α} {e : α → PV} {j : Int} {x : α} {cs : List PV} (hs : szOf P t = some s) (hgg : aggT P t = some true) (hg : getI xs j = some x)
    (kk : WO P p n ops is ⟨putE env dst (.agg cs), nx, h⟩ (fun acts so => K (.fin [(tk, ⟨ver, sz, xs.map e⟩)] [] :: acts) so))
    (ho : ops[i]? = some ⟨dst, .load t a, ty, pos, af, g⟩ := by rfl) (hw : Region.wanted ⟨dst, .load t a, ty, pos, af, g⟩ (yieldE ops n env) = true := by rfl)
    (ha : evO n env a = (.ptr tk ver j.toNat 0) := by rfl) (hr : h tk = some ⟨ver, sz, xs.map e⟩ := by (repeat (first | refine look_ne (by omega) ?_ | refine look_pn (by assumption) ?_ | refine look_np (by assumption) ?_ | refine look_del (by omega) ?_ | refine look_delp (by assumption) ?_)); first | with_reducible assumption | exact look_eq | assumption) (hv : e x = .agg cs := by rfl) (hl : cs.length = s := by rfl) : WO P p n ops (i :: is) ⟨env, nx, h⟩ K :=
  WO_loadS hs hgg kk ho hw ha hr (by rw [List.getElem?_map, (getI_spec hg).2.1, ← hv]; rfl) hl
theorem D_st1R {a x : Operand} {t : TypeId} {tk : Tok} {ver sz : Nat} {xs ys : List α} {e : α → PV} {j : Int} {v : α} (hs : szOf P t = some 1) (hg : setI xs j v = some ys)
    (kk : WO P p n ops is ⟨putE env dst (.v undef), nx, upd h tk ⟨ver, sz, ys.map e⟩⟩ (fun acts so => K (.fin [(tk, ⟨ver, sz, xs.map e⟩)] [(tk, ⟨ver, sz, ys.map e⟩)] :: acts) so))
    (ho : ops[i]? = some ⟨dst, .store t a x, ty, pos, af, g⟩ := by rfl) (hw : Region.wanted ⟨dst, .store t a x, ty, pos, af, g⟩ (yieldE ops n env) = true := by rfl)
    (ha : evO n env a = (.ptr tk ver j.toNat 0) := by rfl) (hr : h tk = some ⟨ver, sz, xs.map e⟩ := by (repeat (first | refine look_ne (by omega) ?_ | refine look_pn (by assumption) ?_ | refine look_np (by assumption) ?_ | refine look_del (by omega) ?_ | refine look_delp (by assumption) ?_)); first | with_reducible assumption | exact look_eq | assumption) (hx : evO n env x = e v := by rfl) (h1 : (∀ y, (e y).isAgg = false) ∧ (e v).one = true := by exact ⟨fun _ => rfl, rfl⟩) : WO P p n ops (i :: is) ⟨env, nx, h⟩ K := by
  obtain ⟨h0, hlt, rfl⟩ := setI_spec hg
  exact WO_store1 hs kk ho hw ha hx hr (e := e xs[j.toNat]) (by rw [List.getElem?_map, List.getElem?_eq_getElem hlt]; rfl) ⟨h1.1 _, h1.1 _, h1.2⟩ (by rw [List.map_set])
theorem D_stSR {a x : Operand} {t : TypeId} {tk : Tok} {ver sz s : Nat} {xs ys : List α} {e : α → PV} {c : α → List PV} {j : Int} {v : α} (hs : szOf P t = some s) (hg : setI xs j v = some ys)
    (kk : WO P p n ops is ⟨putE env dst (.v undef), nx, upd h tk ⟨ver, sz, ys.map e⟩⟩ (fun acts so => K (.fin [(tk, ⟨ver, sz, xs.map e⟩)] [(tk, ⟨ver, sz, ys.map e⟩)] :: acts) so))
    (ho : ops[i]? = some ⟨dst, .store t a x, ty, pos, af, g⟩ := by rfl) (hw : Region.wanted ⟨dst, .store t a x, ty, pos, af, g⟩ (yieldE ops n env) = true := by rfl)
    (ha : evO n env a = (.ptr tk ver j.toNat 0) := by rfl) (hr : h tk = some ⟨ver, sz, xs.map e⟩ := by (repeat (first | refine look_ne (by omega) ?_ | refine look_pn (by assumption) ?_ | refine look_np (by assumption) ?_ | refine look_del (by omega) ?_ | refine look_delp (by assumption) ?_)); first | with_reducible assumption | exact look_eq | assumption) (hx : evO n env x = e v := by rfl) (hc : ∀ y, e y = .agg (c y) := by exact fun _ => rfl) (hl : ∀ y, (c y).length = s := by exact fun _ => rfl) (h1 : (e v).cells.all PV.one = true := by rfl) : WO P p n ops (i :: is) ⟨env, nx, h⟩ K := by
  obtain ⟨h0, hlt, rfl⟩ := setI_spec hg
  have hcv : (e v).cells = c v := by rw [hc]; rfl
  refine WO_store hs kk ho hw ha hx hr (cs := c xs[j.toNat]) (by rw [List.getElem?_map, List.getElem?_eq_getElem hlt, ← hc]; rfl) ⟨by rw [hcv, hl], by rw [hl]; omega, h1⟩ ?_
  rw [List.map_set, hcv, hc v]
  congr 2
  unfold over
  rw [List.take_zero, List.drop_eq_nil_of_le (by rw [hl, hl]; omega)]
  simp
theorem D_stFR {a x : Operand} {t : TypeId} {tk : Tok} {ver sz f : Nat} {xs ys : List α} {e : α → PV} {c : α → List PV} {j : Int} {u v : α} {z : PV} (hs : szOf P t = some 1) (hu : getI xs j = some u) (hg : setI xs j v = some ys)
    (kk : WO P p n ops is ⟨putE env dst (.v undef), nx, upd h tk ⟨ver, sz, ys.map e⟩⟩ (fun acts so => K (.fin [(tk, ⟨ver, sz, xs.map e⟩)] [(tk, ⟨ver, sz, ys.map e⟩)] :: acts) so))
    (ho : ops[i]? = some ⟨dst, .store t a x, ty, pos, af, g⟩ := by rfl) (hw : Region.wanted ⟨dst, .store t a x, ty, pos, af, g⟩ (yieldE ops n env) = true := by rfl)
    (ha : evO n env a = (.ptr tk ver j.toNat f) := by rfl) (hr : h tk = some ⟨ver, sz, xs.map e⟩ := by (repeat (first | refine look_ne (by omega) ?_ | refine look_pn (by assumption) ?_ | refine look_np (by assumption) ?_ | refine look_del (by omega) ?_ | refine look_delp (by assumption) ?_)); first | with_reducible assumption | exact look_eq | assumption) (hx : evO n env x = z := by conv => lhs; whnf) (hc : ∀ y, e y = .agg (c y) := by exact fun _ => rfl)
    (h1 : z.cells.length = 1 ∧ f + 1 ≤ (c u).length ∧ z.cells.all PV.one = true := by exact ⟨rfl, Nat.le_of_ble_eq_true rfl, rfl⟩) (h2 : over (c u) f z.cells = c v := by rfl) : WO P p n ops (i :: is) ⟨env, nx, h⟩ K := by
  obtain ⟨h0, hlt, rfl⟩ := setI_spec hg
  refine WO_store hs kk ho hw ha hx hr (cs := c u) (by rw [List.getElem?_map, (getI_spec hu).2.1, ← hc]; rfl) h1 ?_
  rw [List.map_set, h2, hc v]
theorem D_lenR {x : Operand} {t : TypeId} {tk : Tok} {ver len sz : Nat} {xs : List α} {e : α → PV} (ht : (slElem P t).isSome = true) (hl : xs.length = len ∧ len ≤ LIM)
    (kk : WO P p n ops is ⟨putE env dst (.v (.int .i64 ((xs.length : Nat) : Int))), nx, h⟩ (fun acts so => K (.fin [(tk, ⟨ver, sz, xs.map e⟩)] [] :: acts) so))
    (ho : ops[i]? = some ⟨dst, .call ⟨.builtin .len, #[x], #[t]⟩, ty, pos, af, g⟩ := by rfl) (hw : Region.wanted ⟨dst, .call ⟨.builtin .len, #[x], #[t]⟩, ty, pos, af, g⟩ (yieldE ops n env) = true := by rfl)
    (hx : evO n env x = (.ref tk ver 0 len) := by rfl) (hr : h tk = some ⟨ver, sz, xs.map e⟩ := by (repeat (first | refine look_ne (by omega) ?_ | refine look_pn (by assumption) ?_ | refine look_np (by assumption) ?_ | refine look_del (by omega) ?_ | refine look_delp (by assumption) ?_)); first | with_reducible assumption | exact look_eq | assumption) : WO P p n ops (i :: is) ⟨env, nx, h⟩ K := by
  refine WO_lenR ht ?_ ho hw hx hr
  rw [← hl.1]; exact kk
theorem D_len {x : Operand} {t : TypeId} {b : Bool} {xs : List α} {e : α → PV} (ht : (slElem P t).isSome = true)
    (kk : WO P p n ops is ⟨putE env dst (.v (.int .i64 ((xs.length : Nat) : Int))), nx, h⟩ (fun acts so => K (.fin [] [] :: acts) so))
    (ho : ops[i]? = some ⟨dst, .call ⟨.builtin .len, #[x], #[t]⟩, ty, pos, af, g⟩ := by rfl) (hw : Region.wanted ⟨dst, .call ⟨.builtin .len, #[x], #[t]⟩, ty, pos, af, g⟩ (yieldE ops n env) = true := by rfl)
    (hx : evO n env x = .sl b (xs.map e) := by rfl) : WO P p n ops (i :: is) ⟨env, nx, h⟩ K := by
  refine WO_len ht ?_ ho hw hx
  rw [List.length_map]; exact kk
theorem D_build {ps : Array (Nat × Operand)} {t el : TypeId} {len s : Nat} {z : PV} {l : List (Nat × PV)} {e : α → PV} (xs : List α) (he : slElem P t = some el) (hs : szOf P el = some s) (hz : zeroOf P el = some z)
    (kk : WO P p n ops is ⟨putE env dst (.sl true (xs.map e)), nx, h⟩ (fun acts so => K (.fin [] [] :: acts) so))
    (ho : ops[i]? = some ⟨dst, .buildSlice t len ps, ty, pos, af, g⟩ := by rfl) (hw : Region.wanted ⟨dst, .buildSlice t len ps, ty, pos, af, g⟩ (yieldE ops n env) = true := by rfl)
    (ha : (ps.toList.map fun q => (q.1, (evO n env q.2).lo)) = l := by rfl) (hl : len * s ≤ 4096 ∧ 0 < s ∧ z.cells.length = s := by decide) (hv : elemsOver s (List.replicate len z) l = some (xs.map e) := by rfl) : WO P p n ops (i :: is) ⟨env, nx, h⟩ K :=
  WO_buildSlice he hs hz kk ho hw ha hl hv
theorem D_appR {x y : Operand} {t t' el : TypeId} {sz : Nat} {tk : Tok} {ver len : Nat} {xs ys zs : List α} {e : α → PV} {b : Bool} (ht : (slElem P t').isSome = true) (he : slElem P t = some el) (hs : szOf P el = some sz) (hz : (zeroOf P el).isSome = true) (hb : bytesOf P el ≤ 64 ∧ 0 < sz) (hg : appI xs zs = some ys) (hl : xs.length = len ∧ len ≤ LIM)
    (kk : WO P p n ops is ⟨putE env dst (.ref tk (ver + 1) 0 ys.length), nx, upd h tk ⟨ver + 1, sz, ys.map e⟩⟩ (fun acts so => K (.fin [(tk, ⟨ver, sz, xs.map e⟩)] [(tk, ⟨ver + 1, sz, ys.map e⟩)] :: acts) so))
    (ho : ops[i]? = some ⟨dst, .call ⟨.builtin .append, #[x, y], #[t, t']⟩, ty, pos, af, g⟩ := by rfl) (hw : Region.wanted ⟨dst, .call ⟨.builtin .append, #[x, y], #[t, t']⟩, ty, pos, af, g⟩ (yieldE ops n env) = true := by rfl)
    (hx : evO n env x = (.ref tk ver 0 len) := by rfl) (hr : h tk = some ⟨ver, sz, xs.map e⟩ := by (repeat (first | refine look_ne (by omega) ?_ | refine look_pn (by assumption) ?_ | refine look_np (by assumption) ?_ | refine look_del (by omega) ?_ | refine look_delp (by assumption) ?_)); first | with_reducible assumption | exact look_eq | assumption) (hy : evO n env y = (.sl b (zs.map e)) := by rfl) (hc : ∀ y, (e y).cells.length = sz := by exact fun _ => rfl) : WO P p n ops (i :: is) ⟨env, nx, h⟩ K := by
  obtain ⟨h1, rfl⟩ := appI_spec hg
  obtain ⟨rfl, _⟩ := hl
  refine WO_appRow ht he hs hz hb (by simpa [LIM] using h1) (okSz_map hc) ?_ ho hw hx hy hr (by simp) rfl
  simpa [List.map_append, List.length_append] using kk
/-- a list of its own, tight: the result is a list -/
theorem D_app {x y : Operand} {t t' el : TypeId} {sz : Nat} {xs ys zs : List α} {e : α → PV} {b : Bool} (ht : (slElem P t').isSome = true) (he : slElem P t = some el) (hs : szOf P el = some sz) (hz : (zeroOf P el).isSome = true) (hb : bytesOf P el ≤ 64 ∧ 0 < sz) (hg : appI xs zs = some ys)
    (kk : WO P p n ops is ⟨putE env dst (.sl false (ys.map e)), nx, h⟩ (fun acts so => K (.fin [] [] :: acts) so))
    (ho : ops[i]? = some ⟨dst, .call ⟨.builtin .append, #[x, y], #[t, t']⟩, ty, pos, af, g⟩ := by rfl) (hw : Region.wanted ⟨dst, .call ⟨.builtin .append, #[x, y], #[t, t']⟩, ty, pos, af, g⟩ (yieldE ops n env) = true := by rfl)
    (hx : evO n env x = (.sl true (xs.map e)) := by rfl) (hy : evO n env y = (.sl b (zs.map e)) := by rfl) (hc : ∀ y, (e y).cells.length = sz := by exact fun _ => rfl) : WO P p n ops (i :: is) ⟨env, nx, h⟩ K := by
  obtain ⟨h1, rfl⟩ := appI_spec hg
  refine WO_app ht he hs hz hb (by simpa [LIM] using h1) (okSz_map hc) (okSz_map hc) ?_ ho hw hx hy
  simpa [List.map_append] using kk
/-- the result is a new row -/
theorem D_appN {x y : Operand} {t t' el : TypeId} {sz : Nat} {ys zs : List α} {e : α → PV} {b : Bool} (ht : (slElem P t').isSome = true) (he : slElem P t = some el) (hs : szOf P el = some sz) (hz : (zeroOf P el).isSome = true) (hb : bytesOf P el ≤ 64 ∧ 0 < sz) (hg : appI [] zs = some ys)
    (kk : WO P p n ops is ⟨putE env dst (.ref (p ++ [nx]) 0 0 ys.length), nx + 1, upd h (p ++ [nx]) ⟨0, sz, ys.map e⟩⟩ (fun acts so => K (.fin [] [((p ++ [nx]), ⟨0, sz, ys.map e⟩)] :: acts) so))
    (ho : ops[i]? = some ⟨dst, .call ⟨.builtin .append, #[x, y], #[t, t']⟩, ty, pos, af, g⟩ := by rfl) (hw : Region.wanted ⟨dst, .call ⟨.builtin .append, #[x, y], #[t, t']⟩, ty, pos, af, g⟩ (yieldE ops n env) = true := by rfl)
    (hx : evO n env x = (.sl true []) := by rfl) (hy : evO n env y = (.sl b (zs.map e)) := by rfl) (hc : ∀ y, (e y).cells.length = sz := by exact fun _ => rfl) : WO P p n ops (i :: is) ⟨env, nx, h⟩ K := by
  obtain ⟨h1, rfl⟩ := appI_spec hg
  refine WO_appNew ht he hs hz hb (by simpa [LIM] using h1) (okSz_map hc) ?_ ho hw hx hy
  simpa using kk
theorem D_make {x y : Operand} {t el : TypeId} {s : Nat} {z : PV} {a : Int} {zz : α} {e : α → PV} {ys : List α} (he : slElem P t = some el) (hs : szOf P el = some s) (hz : zeroOf P el = some z) (hb : bytesOf P el ≤ 64 ∧ 0 < s ∧ z.cells.length = s) (hg : makI a zz = some ys) (hzz : e zz = z)
    (kk : WO P p n ops is ⟨putE env dst (.ref (p ++ [nx]) 0 0 ys.length), nx + 1, upd h (p ++ [nx]) ⟨0, s, ys.map e⟩⟩ (fun acts so => K (.fin [] [((p ++ [nx]), ⟨0, s, ys.map e⟩)] :: acts) so))
    (ho : ops[i]? = some ⟨dst, .makeSlice t x y, ty, pos, af, g⟩ := by rfl) (hw : Region.wanted ⟨dst, .makeSlice t x y, ty, pos, af, g⟩ (yieldE ops n env) = true := by rfl)
    (hx : evO n env x = (.v (.int .i64 a)) := by rfl) (hy : evO n env y = (.v (.int .i64 a)) := by rfl) : WO P p n ops (i :: is) ⟨env, nx, h⟩ K := by
  obtain ⟨h0, h1, rfl⟩ := makI_spec hg
  refine WO_makeSlice he hs hz hb ?_ ho hw hx hy ⟨h0, Int.le_refl _, by unfold LIM at h1; omega⟩
  simpa [List.map_replicate, hzz] using kk
theorem okSz_of {sz : Nat} {e : α → PV} {xs : List α} (hc : ∀ y, (e y).cells.length = sz) : okSz sz (xs.map e) = true := okSz_map hc
theorem highB_of {hi : Option PV} {m : Nat} {c : Int} (hh : highI hi m = some c) (h0 : 0 ≤ c) (hm : c.toNat ≤ m) : highB hi m = some c.toNat := by
  cases hi with
  | none => simp only [highI, Option.some.injEq] at hh; subst hh; simp [highB]
  | some v =>
    cases v with
    | v z => cases z with
      | int k a => simp only [highI, Option.some.injEq] at hh; subst hh; simp only [highB, bound]; rw [if_pos ⟨h0, by omega⟩]
      | _ => simp [highI] at hh
    | _ => simp [highI] at hh
theorem lowB_of {lo : Option PV} {m : Nat} {a : Int} (hh : lowI lo = some a) (h0 : 0 ≤ a) (hm : a.toNat ≤ m) : lowB lo m = some a.toNat := by
  cases lo with
  | none => simp only [lowI, Option.some.injEq] at hh; subst hh; simp [lowB]
  | some v =>
    cases v with
    | v z => cases z with
      | int k a => simp only [lowI, Option.some.injEq] at hh; subst hh; simp only [lowB, bound]; rw [if_pos ⟨h0, by omega⟩]
      | _ => simp [lowI] at hh
    | _ => simp [lowI] at hh
theorem D_slice {x : Operand} {lo hi : Option Operand} {t : TypeId} {b : Bool} {xs ys : List α} {e : α → PV} {sz : Nat} {a c : Int} (hs : okSlT P t = some sz) (hg : subI xs a c = some ys)
    (kk : ∀ b', WO P p n ops is ⟨putE env dst (.sl b' (ys.map e)), nx, h⟩ (fun acts so => K (.fin [] [] :: acts) so))
    (ho : ops[i]? = some ⟨dst, .slice t x lo hi none, ty, pos, af, g⟩ := by rfl) (hw : Region.wanted ⟨dst, .slice t x lo hi none, ty, pos, af, g⟩ (yieldE ops n env) = true := by rfl)
    (hx : evO n env x = (.sl b (xs.map e)) := by rfl) (hl : lowI (lo.map (evO n env)) = some a := by rfl) (hh : highI (hi.map (evO n env)) xs.length = some c := by rfl) (hc : ∀ y, (e y).cells.length = sz := by exact fun _ => rfl) : WO P p n ops (i :: is) ⟨env, nx, h⟩ K := by
  obtain ⟨h0, h1, h2, rfl⟩ := subI_spec hg
  refine WO_op (o := ⟨dst, .slice t x lo hi none, ty, pos, af, g⟩) (hint := none) (res := ⟨[], [], .sl (b && (c.toNat == (xs.map e).length)) (((xs.take c.toNat).drop a.toNat).map e), 0⟩) ho hw ?_ (by simp) (kk _)
  have hsz : okSl P t (xs.map e) = true := by unfold okSl; unfold okSlT at hs; rw [hs]; exact okSz_map hc
  simp only [opF, hx, sliceF, hsz, if_true, Option.map_none]
  rw [highB_of (by rw [List.length_map]; exact hh) (by omega) (by simpa using h2)]
  simp only [lowB_of hl h0 (show a.toNat ≤ c.toNat by omega), val, List.map_drop, List.map_take]
theorem D_slice3 {x y z : Operand} {lo : Option Operand} {t : TypeId} {b : Bool} {xs ys : List α} {e : α → PV} {sz : Nat} {a c : Int} {k k' : IntKind} (hs : okSlT P t = some sz) (hg : subI xs a c = some ys)
    (kk : WO P p n ops is ⟨putE env dst (.sl true (ys.map e)), nx, h⟩ (fun acts so => K (.fin [] [] :: acts) so))
    (ho : ops[i]? = some ⟨dst, .slice t x lo (some y) (some z), ty, pos, af, g⟩ := by rfl) (hw : Region.wanted ⟨dst, .slice t x lo (some y) (some z), ty, pos, af, g⟩ (yieldE ops n env) = true := by rfl)
    (hx : evO n env x = (.sl b (xs.map e)) := by rfl) (hl : lowI (lo.map (evO n env)) = some a := by rfl) (hh : evO n env y = .v (.int k c) := by rfl) (hm : evO n env z = .v (.int k' c) := by rfl) (hc : ∀ y, (e y).cells.length = sz := by exact fun _ => rfl) : WO P p n ops (i :: is) ⟨env, nx, h⟩ K := by
  obtain ⟨h0, h1, h2, rfl⟩ := subI_spec hg
  refine WO_op (o := ⟨dst, .slice t x lo (some y) (some z), ty, pos, af, g⟩) (hint := none) (res := ⟨[], [], .sl true (((xs.take c.toNat).drop a.toNat).map e), 0⟩) ho hw ?_ (by simp) kk
  have hsz : okSl P t (xs.map e) = true := by unfold okSl; unfold okSlT at hs; rw [hs]; exact okSz_map hc
  have hb1 : bound (.v (.int k' c)) (xs.map e).length = some c.toNat := by unfold bound; simp only; rw [if_pos ⟨by omega, by rw [List.length_map]; omega⟩]
  have hb2 : bound (.v (.int k c)) c.toNat = some c.toNat := by unfold bound; simp only; rw [if_pos ⟨by omega, by omega⟩]
  simp only [opF, hx, sliceF, hsz, if_true, Option.map_some, hh, hm, hb1, hb2, lowB_of hl h0 (show a.toNat ≤ c.toNat by omega), val, beq_self_eq_true, List.map_drop, List.map_take]
theorem D_sliceR {x : Operand} {lo hi : Option Operand} {t : TypeId} {tk : Tok} {ver len sz : Nat} {xs ys : List α} {e : α → PV} {a c : Int} (hs : okSlT P t = some sz) (hg : subI xs a c = some ys) (hl0 : xs.length = len ∧ len ≤ LIM)
    (kk : WO P p n ops is ⟨putE env dst (.ref tk ver a.toNat (c.toNat - a.toNat)), nx, h⟩ (fun acts so => K (.fin [(tk, ⟨ver, sz, xs.map e⟩)] [] :: acts) so))
    (ho : ops[i]? = some ⟨dst, .slice t x lo hi none, ty, pos, af, g⟩ := by rfl) (hw : Region.wanted ⟨dst, .slice t x lo hi none, ty, pos, af, g⟩ (yieldE ops n env) = true := by rfl)
    (hx : evO n env x = (.ref tk ver 0 len) := by rfl) (hr : h tk = some ⟨ver, sz, xs.map e⟩ := by (repeat (first | refine look_ne (by omega) ?_ | refine look_pn (by assumption) ?_ | refine look_np (by assumption) ?_ | refine look_del (by omega) ?_ | refine look_delp (by assumption) ?_)); first | with_reducible assumption | exact look_eq | assumption) (hl : lowI (lo.map (evO n env)) = some a := by rfl) (hh : highI (hi.map (evO n env)) xs.length = some c := by rfl) : WO P p n ops (i :: is) ⟨env, nx, h⟩ K := by
  obtain ⟨h0, h1, h2, rfl⟩ := subI_spec hg
  obtain ⟨rfl, _⟩ := hl0
  refine WO_op (o := ⟨dst, .slice t x lo hi none, ty, pos, af, g⟩) (hint := none) (res := ⟨[(tk, ⟨ver, sz, xs.map e⟩)], [], .ref tk ver a.toNat (c.toNat - a.toNat), 0⟩) ho hw ?_ (by simp [hr]) kk
  have hs' : ((slElem P t).bind (szOf P) == some sz && (Option.none : Option PV).isNone) = true := by unfold okSlT at hs; simp [hs]
  simp only [opF, hx, sliceF, rowAt_ver hr, Option.map_none, hs', if_true]
  rw [highB_of hh (by omega) h2]
  simp only [lowB_of hl h0 (show a.toNat ≤ c.toNat by omega), Nat.zero_add]
theorem D_sliceS {x : Operand} {lo hi : Option Operand} {t : TypeId} {s s' : ByteArray} {a c : Int} (hs : isStr P t = true) (hg : subS s a c = some s')
    (kk : WO P p n ops is ⟨putE env dst (.v (.string s')), nx, h⟩ (fun acts so => K (.fin [] [] :: acts) so))
    (ho : ops[i]? = some ⟨dst, .slice t x lo hi none, ty, pos, af, g⟩ := by rfl) (hw : Region.wanted ⟨dst, .slice t x lo hi none, ty, pos, af, g⟩ (yieldE ops n env) = true := by rfl)
    (hx : evO n env x = (.v (.string s)) := by rfl) (hl : lowI (lo.map (evO n env)) = some a := by rfl) (hh : highI (hi.map (evO n env)) s.size = some c := by rfl) : WO P p n ops (i :: is) ⟨env, nx, h⟩ K := by
  unfold subS at hg
  split at hg
  · rename_i hc
    cases hg
    refine WO_op (o := ⟨dst, .slice t x lo hi none, ty, pos, af, g⟩) (hint := none) (res := ⟨[], [], .v (.string (s.extract a.toNat c.toNat)), 0⟩) ho hw ?_ (by simp) kk
    simp only [opF, hx, sliceF, hs, Option.map_none, Option.isNone_none, Bool.and_self, if_true]
    rw [highB_of hh (by omega) hc.2.2]
    simp only [lowB_of hl hc.1 (show a.toNat ≤ c.toNat by omega), val]
  · cases hg
theorem D_indexS {x ix : Operand} {t : TypeId} {s : ByteArray} {k : IntKind} {a c : Int} (hs : isStr P t = true) (hg : getS s a = some c)
    (kk : WO P p n ops is ⟨putE env dst (.v (.int .u8 c)), nx, h⟩ (fun acts so => K (.fin [] [] :: acts) so))
    (ho : ops[i]? = some ⟨dst, .index t x ix, ty, pos, af, g⟩ := by rfl) (hw : Region.wanted ⟨dst, .index t x ix, ty, pos, af, g⟩ (yieldE ops n env) = true := by rfl)
    (hx : evO n env x = (.v (.string s)) := by rfl) (hi : evO n env ix = .v (.int k a) := by rfl) : WO P p n ops (i :: is) ⟨env, nx, h⟩ K := by
  unfold getS at hg
  split at hg
  · rename_i h0
    obtain ⟨u, hu, rfl⟩ := Option.map_eq_some_iff.1 hg
    refine WO_op (o := ⟨dst, .index t x ix, ty, pos, af, g⟩) (hint := none) (res := ⟨[], [], .v (.int .u8 (u.toNat : Nat)), 0⟩) ho hw ?_ (by simp) kk
    simp only [opF, hx, hi, hs, h0, true_and, if_true, hu, val]
  · cases hg
theorem D_cat {x y : Operand} {t u : TypeId} {a b c : ByteArray} (hg : catS a b = some c)
    (kk : WO P p n ops is ⟨putE env dst (.v (.string c)), nx, h⟩ (fun acts so => K (.fin [] [] :: acts) so))
    (ho : ops[i]? = some ⟨dst, .binOp .add t x y u, ty, pos, af, g⟩ := by rfl) (hw : Region.wanted ⟨dst, .binOp .add t x y u, ty, pos, af, g⟩ (yieldE ops n env) = true := by rfl)
    (hx : evO n env x = (.v (.string a)) := by rfl) (hy : evO n env y = .v (.string b) := by rfl) : WO P p n ops (i :: is) ⟨env, nx, h⟩ K := by
  unfold catS at hg
  split at hg
  · rename_i h0; cases hg; exact WO_addS h0 kk ho hw hx hy
  · cases hg
theorem D_quo {x y : Operand} {t u : TypeId} {k : IntKind} {a b c : Int} (hg : quoI k a b = some c)
    (kk : WO P p n ops is ⟨putE env dst (.v (.int k c)), nx, h⟩ (fun acts so => K (.fin [] [] :: acts) so))
    (ho : ops[i]? = some ⟨dst, .binOp .quo t x y u, ty, pos, af, g⟩ := by rfl) (hw : Region.wanted ⟨dst, .binOp .quo t x y u, ty, pos, af, g⟩ (yieldE ops n env) = true := by rfl)
    (hx : evO n env x = (.v (.int k a)) := by rfl) (hy : evO n env y = (.v (.int k b)) := by rfl) : WO P p n ops (i :: is) ⟨env, nx, h⟩ K := by
  unfold quoI at hg
  split at hg
  · cases hg
  · rename_i hb; cases hg; exact WO_quo kk ho hw hx hy hb
theorem D_rem {x y : Operand} {t u : TypeId} {k : IntKind} {a b c : Int} (hg : remI a b = some c)
    (kk : WO P p n ops is ⟨putE env dst (.v (.int k c)), nx, h⟩ (fun acts so => K (.fin [] [] :: acts) so))
    (ho : ops[i]? = some ⟨dst, .binOp .rem t x y u, ty, pos, af, g⟩ := by rfl) (hw : Region.wanted ⟨dst, .binOp .rem t x y u, ty, pos, af, g⟩ (yieldE ops n env) = true := by rfl)
    (hx : evO n env x = (.v (.int k a)) := by rfl) (hy : evO n env y = (.v (.int k b)) := by rfl) : WO P p n ops (i :: is) ⟨env, nx, h⟩ K := by
  unfold remI at hg
  split at hg
  · cases hg
  · rename_i hb; cases hg; exact WO_rem kk ho hw hx hy hb
theorem D_shl {x y : Operand} {t u : TypeId} {k k' : IntKind} {a b c : Int} (hg : shlI k a b = some c)
    (kk : WO P p n ops is ⟨putE env dst (.v (.int k c)), nx, h⟩ (fun acts so => K (.fin [] [] :: acts) so))
    (ho : ops[i]? = some ⟨dst, .binOp .shl t x y u, ty, pos, af, g⟩ := by rfl) (hw : Region.wanted ⟨dst, .binOp .shl t x y u, ty, pos, af, g⟩ (yieldE ops n env) = true := by rfl)
    (hx : evO n env x = (.v (.int k a)) := by rfl) (hy : evO n env y = (.v (.int k' b)) := by rfl) : WO P p n ops (i :: is) ⟨env, nx, h⟩ K := by
  unfold shlI at hg
  split at hg
  · cases hg
  · rename_i hb; cases hg
    refine WO_op (o := ⟨dst, .binOp .shl t x y u, ty, pos, af, g⟩) (hint := none) (res := ⟨[], [], .v (.int k (k.wrap (a * 2 ^ min b.toNat k.bits))), 0⟩) ho hw ?_ (by simp) kk
    simp only [opF, hx, hy, binV, if_neg hb, val]
theorem D_shr {x y : Operand} {t u : TypeId} {k k' : IntKind} {a b c : Int} (hg : shrI k a b = some c)
    (kk : WO P p n ops is ⟨putE env dst (.v (.int k c)), nx, h⟩ (fun acts so => K (.fin [] [] :: acts) so))
    (ho : ops[i]? = some ⟨dst, .binOp .shr t x y u, ty, pos, af, g⟩ := by rfl) (hw : Region.wanted ⟨dst, .binOp .shr t x y u, ty, pos, af, g⟩ (yieldE ops n env) = true := by rfl)
    (hx : evO n env x = (.v (.int k a)) := by rfl) (hy : evO n env y = (.v (.int k' b)) := by rfl) : WO P p n ops (i :: is) ⟨env, nx, h⟩ K := by
  unfold shrI at hg
  split at hg
  · cases hg
  · rename_i hb; cases hg
    refine WO_op (o := ⟨dst, .binOp .shr t x y u, ty, pos, af, g⟩) (hint := none) (res := ⟨[], [], .v (.int k (a.fdiv (2 ^ min b.toNat k.bits))), 0⟩) ho hw ?_ (by simp) kk
    simp only [opF, hx, hy, binV, if_neg hb, val]

/-! ### calls -/
theorem FVs.refl {h : H} {S : List Tok} : ∀ l : List PV, FVs h S l l
  | [] => .nil
  | x :: l => .cons x x l l (.same x) (FVs.refl l)
theorem FV.lo {h : H} {S : List Tok} {b : Bool} {xs : List PV} : FV h S (.sl b xs) (.sl false xs) := .sl b xs xs (FVs.refl xs)
theorem FV.rowL {h : H} {S : List Tok} {tk : Tok} {ver sz n : Nat} {xs : List α} {e : α → PV} (hl : xs.length = n ∧ n ≤ LIM) (hS : tk ∈ S := by simp) (hr : h tk = some ⟨ver, sz, xs.map e⟩ := by (repeat (first | refine look_ne (by omega) ?_ | refine look_pn (by assumption) ?_ | refine look_np (by assumption) ?_ | refine look_del (by omega) ?_ | refine look_delp (by assumption) ?_)); first | with_reducible assumption | exact look_eq | assumption) : FV h S (.ref tk ver 0 n) (.sl false (xs.map e)) := by
  refine .row tk ver 0 n _ _ hS (rowAt_ver hr) (by simp; omega) (by have := hl.2; unfold LIM at this; unfold maxL; omega) ?_
  have : List.take n (List.drop 0 (xs.map e)) = xs.map e := by rw [List.drop_zero, List.take_of_length_le (by simp; omega)]
  rw [this]; exact FVs.refl _
theorem FV.rowS {h : H} {S : List Tok} {tk : Tok} {ver sz n : Nat} {xs ys : List α} {e : α → PV} {a c : Int} (hl : xs.length = n ∧ n ≤ LIM) (hg : subI xs a c = some ys) (hS : tk ∈ S := by simp) (hr : h tk = some ⟨ver, sz, xs.map e⟩ := by (repeat (first | refine look_ne (by omega) ?_ | refine look_pn (by assumption) ?_ | refine look_np (by assumption) ?_ | refine look_del (by omega) ?_ | refine look_delp (by assumption) ?_)); first | with_reducible assumption | exact look_eq | assumption) : FV h S (.ref tk ver a.toNat (c.toNat - a.toNat)) (.sl false (ys.map e)) := by
  obtain ⟨h0, h1, h2, rfl⟩ := subI_spec hg
  refine .row tk ver _ _ _ _ hS (rowAt_ver hr) (by simp; omega) (by have := hl.2; unfold LIM at this; unfold maxL; omega) ?_
  have : List.take (c.toNat - a.toNat) (List.drop a.toNat (xs.map e)) = ((xs.take c.toNat).drop a.toNat).map e := by rw [List.map_drop, List.map_take, List.drop_take]
  rw [this]; exact FVs.refl _
theorem Gives.lo {f : FuncId} {args args' : List PV} {r : PV} (hc : Gives P f args' r) (hl : FVs noH [] args args') : Gives P f args r := fun p h => .fnarg (hl.mono (fun t ht => by cases ht)) (hc p h)
theorem memNil {h : H} : ∀ q ∈ ([] : List (Tok × Row)), h q.1 = some q.2 := fun q hq => by cases hq
theorem memCons {h : H} {t : Tok} {r : Row} {S : List (Tok × Row)} (h1 : h t = some r) (h2 : ∀ q ∈ S, h q.1 = some q.2) : ∀ q ∈ (t, r) :: S, h q.1 = some q.2 := fun q hq => by
  rcases List.mem_cons.1 hq with rfl | hq
  · exact h1
  · exact h2 q hq
/-- rows are read as lists, what comes back has no row -/
theorem D_callL {x : Operand} {args : Array Operand} {ats : Array TypeId} {f : FuncId} {caps : List PV} {r : PV} {as : List PV} (S : List (Tok × Row))
    (ho : ops[i]? = some ⟨dst, .call ⟨.value x, args, ats⟩, ty, pos, af, g⟩ := by rfl) (hw : Region.wanted ⟨dst, .call ⟨.value x, args, ats⟩, ty, pos, af, g⟩ (yieldE ops n env) = true := by rfl)
    (hf : evO n env x = .clo f caps := by rfl)
    (hc : Gives P f as r) (hS : ∀ q ∈ S, h q.1 = some q.2) (hfv : FVs h (S.map Prod.fst) (args.toList.map (evO n env) ++ caps) as) (hfx : FX noH r r)
    (kk : WO P p n ops is ⟨putE env dst r, nx + 1, h⟩ (fun acts so => K (.fin S [] :: acts) so)) : WO P p n ops (i :: is) ⟨env, nx, h⟩ K :=
  WO_callL S hS hfv (hc _ _) hfx kk ho hw hf
/-- a new row is handed back -/
def GivesR (P : Program) (f : FuncId) (args : List PV) (sz : Nat) (xs : List PV) : Prop := ∀ p h, ∃ q ver, xs.length ≤ LIM ∧ Run P (.fn f args p h (.ref (p ++ q) ver 0 xs.length) (upd h (p ++ q) ⟨ver, sz, xs⟩))
theorem GivesR.gives {f : FuncId} {args : List PV} {sz : Nat} {xs : List PV} (hc : GivesR P f args sz xs) : Gives P f args (.sl false xs) := fun p h => by
  obtain ⟨q, ver, hle, hrun⟩ := hc p h
  refine Run.freeze (S := [p ++ q]) hrun (fun t ht => by simp at ht; rw [ht]; exact List.prefix_append _ _) ?_ (fun t => ?_)
  · refine .row _ ver 0 _ _ _ (by simp) (rowAt_ver (upd_same _ _ _)) (by simp) (by unfold LIM at hle; unfold maxL; omega) ?_
    rw [List.drop_zero, List.take_length]; exact FVs.refl _
  · by_cases e : t = p ++ q
    · simp [e]
    · simp [e, upd_ne e]
theorem GivesR.lo {f : FuncId} {args args' : List PV} {sz : Nat} {xs : List PV} (hc : GivesR P f args' sz xs) (hl : FVs noH [] args args') : GivesR P f args sz xs := fun p h => by
  obtain ⟨q, ver, hle, hrun⟩ := hc p h
  exact ⟨q, ver, hle, .fnarg (hl.mono (fun t ht => by cases ht)) hrun⟩
theorem D_callR {x : Operand} {args : Array Operand} {ats : Array TypeId} {f : FuncId} {caps : List PV} {sz : Nat} {xs : List α} {e : α → PV} (hc : GivesR P f (args.toList.map (evO n env) ++ caps) sz (xs.map e))
    (kk : ∀ q ver, xs.length = xs.length ∧ xs.length ≤ LIM → WO P p n ops is ⟨putE env dst (.ref (p ++ nx :: q) ver 0 xs.length), nx + 1, upd h (p ++ nx :: q) ⟨ver, sz, xs.map e⟩⟩ (fun acts so => K (.ca h (upd h (p ++ nx :: q) ⟨ver, sz, xs.map e⟩) :: acts) so))
    (ho : ops[i]? = some ⟨dst, .call ⟨.value x, args, ats⟩, ty, pos, af, g⟩ := by rfl) (hw : Region.wanted ⟨dst, .call ⟨.value x, args, ats⟩, ty, pos, af, g⟩ (yieldE ops n env) = true := by rfl)
    (hf : evO n env x = .clo f caps := by rfl) : WO P p n ops (i :: is) ⟨env, nx, h⟩ K := by
  obtain ⟨q, ver, hle, hrun⟩ := hc (p ++ [nx]) h
  have e1 : p ++ [nx] ++ q = p ++ nx :: q := by simp
  rw [e1, List.length_map] at hrun
  exact WO_callX hrun (kk q ver ⟨rfl, by simpa using hle⟩) ho hw hf

/-- rows are read as lists, a new row comes back, read as a list -/
theorem D_callLR {x : Operand} {args : Array Operand} {ats : Array TypeId} {f : FuncId} {caps : List PV} {as : List PV} {sz : Nat} {xs : List α} {e : α → PV} (S : List (Tok × Row))
    (ho : ops[i]? = some ⟨dst, .call ⟨.value x, args, ats⟩, ty, pos, af, g⟩ := by rfl) (hw : Region.wanted ⟨dst, .call ⟨.value x, args, ats⟩, ty, pos, af, g⟩ (yieldE ops n env) = true := by rfl)
    (hf : evO n env x = .clo f caps := by rfl)
    (hc : GivesR P f as sz (xs.map e)) (hS : ∀ q ∈ S, h q.1 = some q.2) (hfv : FVs h (S.map Prod.fst) (args.toList.map (evO n env) ++ caps) as) (hfx : ∀ (h : H) (a : α), FX h (e a) (e a))
    (kk : WO P p n ops is ⟨putE env dst (.sl false (xs.map e)), nx + 1, h⟩ (fun acts so => K (.fin S [] :: acts) so)) : WO P p n ops (i :: is) ⟨env, nx, h⟩ K := by
  obtain ⟨q, ver, hle, hrun⟩ := hc (p ++ [nx]) noH
  refine WO_callL S hS hfv hrun ?_ kk ho hw hf
  refine .row _ ver 0 _ _ _ (rowAt_ver (upd_same _ _ _)) (by simp) (by unfold LIM at hle; unfold maxL; omega) ?_
  rw [List.drop_zero, List.take_length]
  generalize upd noH (p ++ [nx] ++ q) ⟨ver, sz, xs.map e⟩ = H
  clear hrun hle kk hc
  induction xs with
  | nil => exact .nil
  | cons a xs ih => exact .cons _ _ _ _ (hfx _ a) ih
/-- a call that may write what it is given: what is called is found first -/
theorem WO_callE {x : Operand} {args : Array Operand} {ats : Array TypeId} {f : FuncId} {caps : List PV}
    (kk : ∃ r h1, Run P (.fn f (args.toList.map (evO n env) ++ caps) (p ++ [nx]) h r h1) ∧ WO P p n ops is ⟨putE env dst r, nx + 1, h1⟩ (fun acts so => K (.ca h h1 :: acts) so))
    (ho : ops[i]? = some ⟨dst, .call ⟨.value x, args, ats⟩, ty, pos, af, g⟩ := by rfl) (hw : Region.wanted ⟨dst, .call ⟨.value x, args, ats⟩, ty, pos, af, g⟩ (yieldE ops n env) = true := by rfl)
    (hf : evO n env x = .clo f caps := by rfl) : WO P p n ops (i :: is) ⟨env, nx, h⟩ K := by
  obtain ⟨r, h1, hc, kk⟩ := kk
  exact WO_callX hc kk ho hw hf

/-! ### what a function hands back -/
def RetL (P : Program) (m : Nat) (s : St) (l : List ResultVar) (vs : List PV) : Prop := l.all (cellOk P m s) = true ∧ l.mapM (retOne m s) = some vs
theorem retNil {m : Nat} {s : St} : RetL P m s [] [] := ⟨rfl, rfl⟩
theorem retTmp {m : Nat} {s : St} {t : Nat} {v : PV} {l : List ResultVar} {vs : List PV} (hl : RetL P m s l vs) (hv : evO m s.env (.tmp t) = v := by rfl) : RetL P m s (.tmp t :: l) (v :: vs) :=
  ⟨by rw [List.all_cons, hl.1]; rfl, by rw [List.mapM_cons, hl.2]; simp [retOne, hv]⟩
theorem retCell {m : Nat} {s : St} {a : Nat} {ty : TypeId} {tk : Tok} {ver sz sz' : Nat} {ag : Bool} {e : PV} {l : List ResultVar} {vs : List PV} (hs : szOf P ty = some sz) (hg : aggT P ty = some ag) (hl : RetL P m s l vs)
    (hv : evO m s.env (.tmp a) = .ptr tk ver 0 0 := by rfl) (hrow : s.h tk = some ⟨ver, sz', [e]⟩ := by (repeat (first | refine look_ne (by omega) ?_ | refine look_pn (by assumption) ?_ | refine look_np (by assumption) ?_ | refine look_del (by omega) ?_ | refine look_delp (by assumption) ?_)); first | with_reducible assumption | exact look_eq | assumption) (hok : (e.cells.length == sz && e.isAgg == ag) = true := by rfl) : RetL P m s (.cell a ty :: l) (e :: vs) := by
  have h1 : cellOk P m s (.cell a ty) = true := by
    simp only [cellOk, hv, hs, hg, rowAt_ver hrow, List.getElem?_cons_zero]
    exact hok
  have h2 : retOne m s (.cell a ty) = some e := by
    simp only [retOne, hv, rowAt_ver hrow, List.getElem?_cons_zero]
  exact ⟨by rw [List.all_cons, hl.1, h1]; rfl, by rw [List.mapM_cons, hl.2, h2]; simp⟩
def Fin (P : Program) (func : Func) (m : Nat) (p : Tok) (h' : H) (r : PV) (ex : Exit) (s : St) : Prop :=
  (ex = .normal ∨ ex = .ret) ∧ ∃ r0 S, retV P func m s = some r0 ∧ (∀ t ∈ S, p <+: t) ∧ FV s.h S r0 r ∧ (∀ t, s.h t = h' t ∨ p <+: t)
theorem finD1 {func : Func} {m : Nat} {s : St} {v r : PV} {rv : ResultVar} {h' : H} (S : List Tok) (hL : RetL P m s [rv] [v]) (hfv : FV s.h S v r) (hk : ∀ t, s.h t = h' t ∨ p <+: t) (hS : ∀ t ∈ S, p <+: t := by simp) (hres : func.results = #[rv] := by rfl) : Fin P func m p h' r .ret s := by
  refine ⟨.inr rfl, v, S, ?_, hS, hfv, hk⟩
  unfold retV; rw [hres]
  simp only [hL.1, hL.2, if_true]
theorem finD {func : Func} {m : Nat} {s : St} {v1 v2 : PV} {vs rs : List PV} {l : List ResultVar} {h' : H} (S : List Tok) (hL : RetL P m s l (v1 :: v2 :: vs)) (hfv : FVs s.h S (v1 :: v2 :: vs) rs) (hk : ∀ t, s.h t = h' t ∨ p <+: t) (hS : ∀ t ∈ S, p <+: t := by simp) (hres : func.results = l.toArray := by rfl) : Fin P func m p h' (.tup rs) .ret s := by
  refine ⟨.inr rfl, .tup (v1 :: v2 :: vs), S, ?_, hS, .tup _ _ hfv, hk⟩
  unfold retV; rw [hres]
  simp only [hL.1, hL.2, if_true]
theorem finD0 {func : Func} {m : Nat} {s : St} {h' : H} (hk : ∀ t, s.h t = h' t ∨ p <+: t) (hres : func.results = #[] := by rfl) {ex : Exit} (hex : ex = .normal ∨ ex = .ret) : Fin P func m p h' (.tup []) ex s := by
  refine ⟨hex, .tup [], [], ?_, (fun t ht => by cases ht), .same _, hk⟩
  unfold retV; rw [hres]; rfl
theorem Kp.fin {h0 h' : H} (k : Kp p [] h0 h') : ∀ t, h' t = h0 t ∨ p <+: t := fun t => by
  rcases k t with e | e | e
  · exact .inl e
  · exact .inr e
  · cases e
theorem Kp.finT {h0 h' : H} {tk : Tok} {r : Row} (k : Kp p [tk] h0 h') (hr : h' tk = some r) : ∀ t, h' t = Go.Vs.upd h0 tk r t ∨ p <+: t := fun t => by
  by_cases e : t = tk
  · subst e; exact .inl (by rw [hr, upd_same])
  · rw [upd_ne e]
    rcases k t with e1 | e1 | e1
    · exact .inl e1
    · exact .inr e1
    · simp at e1; exact absurd e1 e
theorem fn_dec {f : FuncId} {args : List PV} {r : PV} {func : Func} {c : Code} {m : Nat} {h' : H} (hf : P.funcs[f]? = some func)
    (hw : W P p m c ⟨env0 args, 0, h⟩ (Fin P func m p h' r))
    (hh : ∀ t, p <+: t → h' t = h t := by exact fun _ _ => rfl) (hb : func.body = some c := by rfl) (hn : (func.name == "runtime.NumGoroutine") = false := by rfl) (hm : max func.ntmps args.length = m := by conv => lhs; whnf) : Run P (.fn f args p h r h') := by
  obtain ⟨ex, s, h1, h2, r0, S, h3, h4, h5, h6⟩ := hw
  subst hm
  classical
  refine Run.freeze (h1 := fun t => if t ∈ S then s.h t else h' t) (S := S) (r := r0) (.fn hf hb hn h1 h2 h3 (fun t => ?_)) h4 (FV.mono (h := s.h) (fun t ht => by simp [ht]) h5) (fun t => ?_)
  · by_cases ht : t ∈ S
    · exact .inl (by simp [ht])
    · rcases h6 t with e | e
      · exact .inl (by simp [ht, e])
      · exact .inr ⟨e, by simp [ht, hh t e]⟩
  · by_cases ht : t ∈ S
    · simp only [ht, if_true]; exact hh t (h4 t ht)
    · simp [ht]
/-- what no slice is longer than -/
theorem W_bnd {c : Code} (t : Nat) {b : Bool} {xs : List PV} (hvac : ∀ k, ∃ s : St, k ≤ s.nx ∧ Q .ret s) (kk : xs.length ≤ 9223372036854775807 → W P p n c ⟨env, nx, h⟩ Q) (ht : t < n := by exact Nat.le_of_ble_eq_true rfl) (he : env t = .sl b xs := by rfl) : W P p n c ⟨env, nx, h⟩ Q := by
  by_cases hb : xs.length ≤ 9223372036854775807
  · exact kk hb
  · obtain ⟨s, h1, h2⟩ := hvac nx
    exact ⟨.ret, s, .cabs ht he (by unfold maxL; omega) h1, h2⟩
/-- a row that nobody writes any more -/
theorem W_frz {c : Code} (t : Nat) {tk : Tok} {ver sz len : Nat} {xs : List α} {e : α → PV} (hl : xs.length = len ∧ len ≤ LIM) (kk : W P p n c ⟨putE env (some t) (.sl false (xs.map e)), nx, del h tk⟩ Q)
    (he : env t = .ref tk ver 0 len := by rfl) (hr : h tk = some ⟨ver, sz, xs.map e⟩ := by (repeat (first | refine look_ne (by omega) ?_ | refine look_pn (by assumption) ?_ | refine look_np (by assumption) ?_ | refine look_del (by omega) ?_ | refine look_delp (by assumption) ?_)); first | with_reducible assumption | exact look_eq | assumption) : W P p n c ⟨env, nx, h⟩ Q := by
  obtain ⟨ex, st', h1, h2⟩ := kk
  refine ⟨ex, st', .cfrz (S := [tk]) (fun i => ?_) (fun t' ht' => ?_) (fun t' r ht' => ?_) h1, h2⟩
  · simp only [putE]
    split
    · rename_i hi; rw [hi, he]; exact FV.rowL hl (by simp) hr
    · exact .same _
  · simp at ht'; rw [ht']; exact del_same _ _
  · by_cases e1 : t' = tk
    · subst e1; rw [del_same] at ht'; cases ht'
    · rw [del_ne e1] at ht'; exact ht'
/-- where ways meet; 'X' tells what the ways have made, 'b' what else -/
theorem W_join {γ : Type} {c : Code} (ds : List Nat) (L : γ → List (Nat × PV)) (Φ : γ → Nat → H → Prop) (hw : W P p n c ⟨env, nx, h⟩ (Nx (fun s => ∃ b, Agree ds env s.env ∧ agreeL s.env (L b) ∧ Φ b s.nx s.h) Q))
    (k : ∀ b e nx h, Φ b nx h → Q .normal ⟨putL (L b) (maskD ds e env), nx, h⟩) : W P p n c ⟨env, nx, h⟩ Q := by
  obtain ⟨ex, s, h1, h2⟩ := hw
  refine ⟨ex, s, h1, ?_⟩
  cases ex with
  | normal =>
    obtain ⟨b, h2, h3, h4⟩ := h2
    rw [put_of h2 h3]
    exact k b _ _ _ h4
  | _ => exact h2
theorem metJ {γ : Type} {ds : List Nat} {s : St} {L : γ → List (Nat × PV)} {Φ : γ → Prop} (b : γ) (hl : agreeL s.env (L b)) (hΦ : Φ b) (ha : Agree ds env s.env := by (repeat (first | exact Agree.refl | exact Agree.mask | refine Agree.put rfl ?_ | refine Agree.mask' rfl ?_))) : ∃ b, Agree ds env s.env ∧ agreeL s.env (L b) ∧ Φ b := ⟨b, ha, hl, hΦ⟩
/-- the same where the heap stays -/
theorem W_joinH {γ : Type} {c : Code} (ds : List Nat) (L : γ → List (Nat × PV)) (hw : W P p n c ⟨env, nx, h⟩ (Nx (fun s => ∃ b, Agree ds env s.env ∧ agreeL s.env (L b) ∧ s.h = h ∧ nx ≤ s.nx) Q))
    (k : ∀ b e nx', nx ≤ nx' → Q .normal ⟨putL (L b) (maskD ds e env), nx', h⟩) : W P p n c ⟨env, nx, h⟩ Q := by
  obtain ⟨ex, s, h1, h2⟩ := hw
  refine ⟨ex, s, h1, ?_⟩
  cases ex with
  | normal =>
    obtain ⟨b, h2, h3, h4, h5⟩ := h2
    rw [put_of h2 h3, h4]
    exact k b _ _ h5
  | _ => exact h2
theorem metH {γ : Type} {ds : List Nat} {e : Nat → PV} {n0 nx' : Nat} {L : γ → List (Nat × PV)} (b : γ) (hl : agreeL e (L b)) (hn : n0 ≤ nx') (ha : Agree ds env e := by (repeat (first | exact Agree.refl | exact Agree.mask | refine Agree.put rfl ?_ | refine Agree.mask' rfl ?_))) : ∃ b, Agree ds env (St.mk e nx' h).env ∧ agreeL (St.mk e nx' h).env (L b) ∧ (St.mk e nx' h).h = h ∧ n0 ≤ (St.mk e nx' h).nx := ⟨b, ha, hl, rfl, hn⟩
/-- a variable that nobody writes any more -/
theorem W_frzB {c : Code} (t : Nat) {tk : Tok} {ver sz : Nat} {x : PV} (kk : W P p n c ⟨putE env (some t) (.iptr x.cells), nx, del h tk⟩ Q)
    (he : env t = .ptr tk ver 0 0 := by rfl) (hr : h tk = some ⟨ver, sz, [x]⟩ := by (repeat (first | refine look_ne (by omega) ?_ | refine look_pn (by assumption) ?_ | refine look_np (by assumption) ?_ | refine look_del (by omega) ?_ | refine look_delp (by assumption) ?_)); first | with_reducible assumption | exact look_eq | assumption) : W P p n c ⟨env, nx, h⟩ Q := by
  obtain ⟨ex, st', h1, h2⟩ := kk
  refine ⟨ex, st', .cfrz (S := [tk]) (fun i => ?_) (fun t' ht' => ?_) (fun t' r ht' => ?_) h1, h2⟩
  · simp only [putE]
    split
    · rename_i hi; rw [hi, he]
      refine .ptr tk ver 0 0 _ x _ (by simp) (rowAt_ver hr) rfl (Nat.zero_le _) ?_
      rw [List.drop_zero]; exact FVs.refl _
    · exact .same _
  · simp at ht'; rw [ht']; exact del_same _ _
  · by_cases e1 : t' = tk
    · subst e1; rw [del_same] at ht'; cases ht'
    · rw [del_ne e1] at ht'; exact ht'
def FinR (P : Program) (func : Func) (m : Nat) (p : Tok) (h : H) (sz : Nat) (xs : List PV) (ex : Exit) (s : St) : Prop :=
  (ex = .normal ∨ ex = .ret) ∧ ∃ q ver, xs.length ≤ LIM ∧ retV P func m s = some (.ref (p ++ q) ver 0 xs.length) ∧ s.h (p ++ q) = some ⟨ver, sz, xs⟩ ∧ Kp p [] h s.h
theorem finR1 {func : Func} {m : Nat} {s : St} {q : Tok} {ver sz len : Nat} {ys : List α} {e : α → PV} {rv : ResultVar} {h0 : H} (hL : RetL P m s [rv] [.ref (p ++ q) ver 0 len]) (hl : ys.length = len ∧ len ≤ LIM) (hr : s.h (p ++ q) = some ⟨ver, sz, ys.map e⟩) (hk : Kp p [] h0 s.h) (hres : func.results = #[rv] := by rfl) : FinR P func m p h0 sz (ys.map e) .ret s := by
  refine ⟨.inr rfl, q, ver, by rw [List.length_map, hl.1]; exact hl.2, ?_, hr, hk⟩
  unfold retV; rw [hres]
  rw [List.length_map, hl.1]
  simp only [hL.1, hL.2, if_true]
theorem fn_decR {f : FuncId} {args : List PV} {func : Func} {c : Code} {m sz : Nat} {xs : List PV} (hf : P.funcs[f]? = some func)
    (hw : W P p m c ⟨env0 args, 0, h⟩ (FinR P func m p h sz xs))
    (hb : func.body = some c := by rfl) (hn : (func.name == "runtime.NumGoroutine") = false := by rfl) (hm : max func.ntmps args.length = m := by conv => lhs; whnf) : ∃ q ver, xs.length ≤ LIM ∧ Run P (.fn f args p h (.ref (p ++ q) ver 0 xs.length) (upd h (p ++ q) ⟨ver, sz, xs⟩)) := by
  obtain ⟨ex, s, h1, h2, q, ver, h3, h4, h5, h6⟩ := hw
  subst hm
  refine ⟨q, ver, h3, .fn hf hb hn h1 h2 h4 (fun t => ?_)⟩
  by_cases e : t = p ++ q
  · subst e; exact .inl (by rw [upd_same, h5])
  · rw [upd_ne e]
    rcases h6 t with e1 | e1 | e1
    · exact .inl e1.symm
    · exact .inr ⟨e1, rfl⟩
    · cases e1
end

end Go.Vs
