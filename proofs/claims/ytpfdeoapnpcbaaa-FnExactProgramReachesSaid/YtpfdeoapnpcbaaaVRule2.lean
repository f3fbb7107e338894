/-
  What is proved here: a rule for each operation.
  Conditions: none.
-/
import Derived.Test.YtpfdeoapnpcbaaaVRule
import Derived.Laws.BitsLemmas
set_option linter.unusedSectionVars false
namespace Go.Vs
set_option linter.unusedVariables false
set_option linter.unusedSimpArgs false

/-- where a field lies -/
def faOf (P : Program) (t : TypeId) (f : Nat) : Option Nat := match fldOf P t f with
  | some (off, ft) => match szOf P ft with
    | some (_ + 1) => some off
    | _ => none
  | none => none
theorem faOf_spec {P : Program} {t : TypeId} {f off : Nat} (e : faOf P t f = some off) : ∃ ft, fldOf P t f = some (off, ft) ∧ ¬ (szOf P ft = none ∨ szOf P ft = some 0) := by
  unfold faOf at e
  split at e
  · rename_i o ft hf
    split at e
    · rename_i k hk
      cases e
      exact ⟨ft, hf, by rw [hk]; simp⟩
    · cases e
  · cases e
def okSlT (P : Program) (t : TypeId) : Option Nat := (slElem P t).bind (szOf P)
theorem wrap_i64 {x : Int} (h : -9223372036854775808 ≤ x ∧ x < 9223372036854775808) : IntKind.i64.wrap x = x := by
  have := h.1
  have := h.2
  rw [IntKind.wrap_i64]
  omega

theorem toList_loop (b : ByteArray) : ∀ (k i : Nat) (r : List UInt8), b.size - i = k → ByteArray.toList.loop b i r = r.reverse ++ b.data.toList.drop i := by
  intro k
  induction k with
  | zero =>
    intro i r h
    unfold ByteArray.toList.loop
    rw [if_neg (by omega), List.drop_eq_nil_of_le (by have : b.data.toList.length = b.size := rfl; omega)]
    simp
  | succ k ih =>
    intro i r h
    unfold ByteArray.toList.loop
    have hlt : i < b.size := by omega
    rw [if_pos hlt, ih (i + 1) _ (by omega)]
    have hl : i < b.data.toList.length := hlt
    rw [List.drop_eq_getElem_cons hl, List.reverse_cons, List.append_assoc]
    have hg : b.get! i = b.data.toList[i] := by
      cases b with
      | mk d =>
        show d[i]! = _
        have h2 : i < d.size := hlt
        simp [getElem!_pos, h2]
    rw [hg]; rfl
theorem toList_data (b : ByteArray) : b.toList = b.data.toList := by
  unfold ByteArray.toList
  rw [toList_loop b _ 0 [] rfl]
  simp
theorem toList_beq (a b : ByteArray) : (a.toList == b.toList) = decide (a = b) := by
  rw [toList_data, toList_data]
  by_cases h : a = b
  · subst h; simp
  · have : ¬ a.data.toList = b.data.toList := fun e => h (by
      cases a; cases b
      have := Array.toList_inj.1 e
      simp at this; simp [this])
    simp only [h, decide_false]
    exact beq_eq_false_iff_ne.2 this

section
variable {P : Program} {p : Tok} {n : Nat} {ops : Array Oper} {env : Nat → PV} {nx : Nat} {h : H} {i : Nat} {is : List Nat} {K : List Action → St → Prop} {dst : Option Tmp} {ty : TypeId} {pos : String} {af : Array Edge} {g : Option (Nat × Bool)}

theorem WO_move {x : Operand} {v : PV} 
    (kk : WO P p n ops is ⟨putE env dst v, nx, h⟩ (fun acts so => K (.fin [] [] :: acts) so))
    (ho : ops[i]? = some ⟨dst, .move x, ty, pos, af, g⟩ := by rfl) (hw : Region.wanted ⟨dst, .move x, ty, pos, af, g⟩ (yieldE ops n env) = true := by rfl)
    (hx : evO n env x = v := by conv => lhs; whnf) : WO P p n ops (i :: is) ⟨env, nx, h⟩ K :=
  WO_op (o := ⟨dst, .move x, ty, pos, af, g⟩) (hint := none) (res := ⟨[], [], v, 0⟩) ho hw (by simp [opF, moveF, val, hx]) (by simp) kk

theorem WO_assign {x : Operand} {v : PV} 
    (kk : WO P p n ops is ⟨putE env dst v, nx, h⟩ (fun acts so => K (.fin [] [] :: acts) so))
    (ho : ops[i]? = some ⟨dst, .assign x, ty, pos, af, g⟩ := by rfl) (hw : Region.wanted ⟨dst, .assign x, ty, pos, af, g⟩ (yieldE ops n env) = true := by rfl)
    (hx : evO n env x = v := by conv => lhs; whnf) : WO P p n ops (i :: is) ⟨env, nx, h⟩ K :=
  WO_op (o := ⟨dst, .assign x, ty, pos, af, g⟩) (hint := none) (res := ⟨[], [], v, 0⟩) ho hw (by simp [opF, moveF, val, hx]) (by simp) kk

theorem WO_moveRow {x : Operand} (sz : Nat)
    (kk : WO P p n ops is ⟨putE env dst (.ref (p ++ [nx]) 0 0 0), nx + 1, upd h (p ++ [nx]) ⟨0, sz, []⟩⟩ (fun acts so => K (.fin [] [((p ++ [nx]), ⟨0, sz, []⟩)] :: acts) so))
    (ho : ops[i]? = some ⟨dst, .move x, ty, pos, af, g⟩ := by rfl) (hw : Region.wanted ⟨dst, .move x, ty, pos, af, g⟩ (yieldE ops n env) = true := by rfl)
    (hx : evO n env x = (.sl true []) := by rfl) : WO P p n ops (i :: is) ⟨env, nx, h⟩ K :=
  WO_op (o := ⟨dst, .move x, ty, pos, af, g⟩) (hint := some sz) (res := ⟨[], [((p ++ [nx]), ⟨0, sz, []⟩)], (.ref (p ++ [nx]) 0 0 0), 1⟩) ho hw (by simp [opF, moveF, hx]) (by simp) kk

theorem WO_assignRow {x : Operand} (sz : Nat)
    (kk : WO P p n ops is ⟨putE env dst (.ref (p ++ [nx]) 0 0 0), nx + 1, upd h (p ++ [nx]) ⟨0, sz, []⟩⟩ (fun acts so => K (.fin [] [((p ++ [nx]), ⟨0, sz, []⟩)] :: acts) so))
    (ho : ops[i]? = some ⟨dst, .assign x, ty, pos, af, g⟩ := by rfl) (hw : Region.wanted ⟨dst, .assign x, ty, pos, af, g⟩ (yieldE ops n env) = true := by rfl)
    (hx : evO n env x = (.sl true []) := by rfl) : WO P p n ops (i :: is) ⟨env, nx, h⟩ K :=
  WO_op (o := ⟨dst, .assign x, ty, pos, af, g⟩) (hint := some sz) (res := ⟨[], [((p ++ [nx]), ⟨0, sz, []⟩)], (.ref (p ++ [nx]) 0 0 0), 1⟩) ho hw (by simp [opF, moveF, hx]) (by simp) kk

theorem WO_pick {c a b : Operand} {q : Bool} {v : PV} 
    (kk : WO P p n ops is ⟨putE env dst v, nx, h⟩ (fun acts so => K (.fin [] [] :: acts) so))
    (ho : ops[i]? = some ⟨dst, .pick c a b, ty, pos, af, g⟩ := by rfl) (hw : Region.wanted ⟨dst, .pick c a b, ty, pos, af, g⟩ (yieldE ops n env) = true := by rfl)
    (hc : evO n env c = (.v (.bool q)) := by rfl) (hv : (if q then evO n env a else evO n env b) = v := by conv => lhs; whnf) : WO P p n ops (i :: is) ⟨env, nx, h⟩ K :=
  WO_op (o := ⟨dst, .pick c a b, ty, pos, af, g⟩) (hint := none) (res := ⟨[], [], v, 0⟩) ho hw (by rw [← hv]; simp [opF, val, hc]) (by simp) kk

theorem WO_add {x y : Operand} {t u : TypeId} {k : IntKind} {a b : Int} 
    (kk : WO P p n ops is ⟨putE env dst (.v (.int k (k.wrap (a + b)))), nx, h⟩ (fun acts so => K (.fin [] [] :: acts) so))
    (ho : ops[i]? = some ⟨dst, .binOp .add t x y u, ty, pos, af, g⟩ := by rfl) (hw : Region.wanted ⟨dst, .binOp .add t x y u, ty, pos, af, g⟩ (yieldE ops n env) = true := by rfl)
    (hx : evO n env x = (.v (.int k a)) := by rfl) (hy : evO n env y = (.v (.int k b)) := by rfl) : WO P p n ops (i :: is) ⟨env, nx, h⟩ K :=
  WO_op (o := ⟨dst, .binOp .add t x y u, ty, pos, af, g⟩) (hint := none) (res := ⟨[], [], (.v (.int k (k.wrap (a + b)))), 0⟩) ho hw (by simp [opF, val, binV, binI, hx, hy]) (by simp) kk

theorem WO_sub {x y : Operand} {t u : TypeId} {k : IntKind} {a b : Int} 
    (kk : WO P p n ops is ⟨putE env dst (.v (.int k (k.wrap (a - b)))), nx, h⟩ (fun acts so => K (.fin [] [] :: acts) so))
    (ho : ops[i]? = some ⟨dst, .binOp .sub t x y u, ty, pos, af, g⟩ := by rfl) (hw : Region.wanted ⟨dst, .binOp .sub t x y u, ty, pos, af, g⟩ (yieldE ops n env) = true := by rfl)
    (hx : evO n env x = (.v (.int k a)) := by rfl) (hy : evO n env y = (.v (.int k b)) := by rfl) : WO P p n ops (i :: is) ⟨env, nx, h⟩ K :=
  WO_op (o := ⟨dst, .binOp .sub t x y u, ty, pos, af, g⟩) (hint := none) (res := ⟨[], [], (.v (.int k (k.wrap (a - b)))), 0⟩) ho hw (by simp [opF, val, binV, binI, hx, hy]) (by simp) kk

theorem WO_mul {x y : Operand} {t u : TypeId} {k : IntKind} {a b : Int} 
    (kk : WO P p n ops is ⟨putE env dst (.v (.int k (k.wrap (a * b)))), nx, h⟩ (fun acts so => K (.fin [] [] :: acts) so))
    (ho : ops[i]? = some ⟨dst, .binOp .mul t x y u, ty, pos, af, g⟩ := by rfl) (hw : Region.wanted ⟨dst, .binOp .mul t x y u, ty, pos, af, g⟩ (yieldE ops n env) = true := by rfl)
    (hx : evO n env x = (.v (.int k a)) := by rfl) (hy : evO n env y = (.v (.int k b)) := by rfl) : WO P p n ops (i :: is) ⟨env, nx, h⟩ K :=
  WO_op (o := ⟨dst, .binOp .mul t x y u, ty, pos, af, g⟩) (hint := none) (res := ⟨[], [], (.v (.int k (k.wrap (a * b)))), 0⟩) ho hw (by simp [opF, val, binV, binI, hx, hy]) (by simp) kk

theorem WO_addI {x y : Operand} {t u : TypeId} {a b : Int} 
    (kk : WO P p n ops is ⟨putE env dst (.v (.int .i64 (a + b))), nx, h⟩ (fun acts so => K (.fin [] [] :: acts) so))
    (ho : ops[i]? = some ⟨dst, .binOp .add t x y u, ty, pos, af, g⟩ := by rfl) (hw : Region.wanted ⟨dst, .binOp .add t x y u, ty, pos, af, g⟩ (yieldE ops n env) = true := by rfl)
    (hx : evO n env x = (.v (.int .i64 a)) := by rfl) (hy : evO n env y = (.v (.int .i64 b)) := by rfl) (hr : -9223372036854775808 ≤ a + b ∧ a + b < 9223372036854775808 := by omega) : WO P p n ops (i :: is) ⟨env, nx, h⟩ K :=
  WO_op (o := ⟨dst, .binOp .add t x y u, ty, pos, af, g⟩) (hint := none) (res := ⟨[], [], (.v (.int .i64 (a + b))), 0⟩) ho hw (by simp [opF, val, binV, binI, wrap_i64, hx, hy, hr]) (by simp) kk

theorem WO_subI {x y : Operand} {t u : TypeId} {a b : Int} 
    (kk : WO P p n ops is ⟨putE env dst (.v (.int .i64 (a - b))), nx, h⟩ (fun acts so => K (.fin [] [] :: acts) so))
    (ho : ops[i]? = some ⟨dst, .binOp .sub t x y u, ty, pos, af, g⟩ := by rfl) (hw : Region.wanted ⟨dst, .binOp .sub t x y u, ty, pos, af, g⟩ (yieldE ops n env) = true := by rfl)
    (hx : evO n env x = (.v (.int .i64 a)) := by rfl) (hy : evO n env y = (.v (.int .i64 b)) := by rfl) (hr : -9223372036854775808 ≤ a - b ∧ a - b < 9223372036854775808 := by omega) : WO P p n ops (i :: is) ⟨env, nx, h⟩ K :=
  WO_op (o := ⟨dst, .binOp .sub t x y u, ty, pos, af, g⟩) (hint := none) (res := ⟨[], [], (.v (.int .i64 (a - b))), 0⟩) ho hw (by simp [opF, val, binV, binI, wrap_i64, hx, hy, hr]) (by simp) kk

theorem WO_mulI {x y : Operand} {t u : TypeId} {a b : Int} 
    (kk : WO P p n ops is ⟨putE env dst (.v (.int .i64 (a * b))), nx, h⟩ (fun acts so => K (.fin [] [] :: acts) so))
    (ho : ops[i]? = some ⟨dst, .binOp .mul t x y u, ty, pos, af, g⟩ := by rfl) (hw : Region.wanted ⟨dst, .binOp .mul t x y u, ty, pos, af, g⟩ (yieldE ops n env) = true := by rfl)
    (hx : evO n env x = (.v (.int .i64 a)) := by rfl) (hy : evO n env y = (.v (.int .i64 b)) := by rfl) (hr : -9223372036854775808 ≤ a * b ∧ a * b < 9223372036854775808 := by omega) : WO P p n ops (i :: is) ⟨env, nx, h⟩ K :=
  WO_op (o := ⟨dst, .binOp .mul t x y u, ty, pos, af, g⟩) (hint := none) (res := ⟨[], [], (.v (.int .i64 (a * b))), 0⟩) ho hw (by simp [opF, val, binV, binI, wrap_i64, hx, hy, hr]) (by simp) kk

theorem WO_succ {x y : Operand} {t u : TypeId} {a : Nat} 
    (kk : WO P p n ops is ⟨putE env dst (.v (.int .i64 ((a + 1 : Nat) : Int))), nx, h⟩ (fun acts so => K (.fin [] [] :: acts) so))
    (ho : ops[i]? = some ⟨dst, .binOp .add t x y u, ty, pos, af, g⟩ := by rfl) (hw : Region.wanted ⟨dst, .binOp .add t x y u, ty, pos, af, g⟩ (yieldE ops n env) = true := by rfl)
    (hx : evO n env x = (.v (.int .i64 (a : Nat))) := by rfl) (hy : evO n env y = (.v (.int .i64 1)) := by rfl) (hr : (a : Int) < 9223372036854775807 := by omega) : WO P p n ops (i :: is) ⟨env, nx, h⟩ K :=
  WO_op (o := ⟨dst, .binOp .add t x y u, ty, pos, af, g⟩) (hint := none) (res := ⟨[], [], (.v (.int .i64 ((a + 1 : Nat) : Int))), 0⟩) ho hw (by have := wrap_i64 (x := (a : Int) + 1) ⟨by omega, by omega⟩; simp [opF, val, binV, binI, this, hx, hy, hr]) (by simp) kk

theorem WO_quo {x y : Operand} {t u : TypeId} {k : IntKind} {a b : Int} 
    (kk : WO P p n ops is ⟨putE env dst (.v (.int k (k.wrap (a.tdiv b)))), nx, h⟩ (fun acts so => K (.fin [] [] :: acts) so))
    (ho : ops[i]? = some ⟨dst, .binOp .quo t x y u, ty, pos, af, g⟩ := by rfl) (hw : Region.wanted ⟨dst, .binOp .quo t x y u, ty, pos, af, g⟩ (yieldE ops n env) = true := by rfl)
    (hx : evO n env x = (.v (.int k a)) := by rfl) (hy : evO n env y = (.v (.int k b)) := by rfl) (hb : b ≠ 0 := by first | decide | omega | assumption) : WO P p n ops (i :: is) ⟨env, nx, h⟩ K :=
  WO_op (o := ⟨dst, .binOp .quo t x y u, ty, pos, af, g⟩) (hint := none) (res := ⟨[], [], (.v (.int k (k.wrap (a.tdiv b)))), 0⟩) ho hw (by simp [opF, val, binV, binI, hx, hy, hb]) (by simp) kk

theorem WO_rem {x y : Operand} {t u : TypeId} {k : IntKind} {a b : Int} 
    (kk : WO P p n ops is ⟨putE env dst (.v (.int k (a.tmod b))), nx, h⟩ (fun acts so => K (.fin [] [] :: acts) so))
    (ho : ops[i]? = some ⟨dst, .binOp .rem t x y u, ty, pos, af, g⟩ := by rfl) (hw : Region.wanted ⟨dst, .binOp .rem t x y u, ty, pos, af, g⟩ (yieldE ops n env) = true := by rfl)
    (hx : evO n env x = (.v (.int k a)) := by rfl) (hy : evO n env y = (.v (.int k b)) := by rfl) (hb : b ≠ 0 := by first | decide | omega | assumption) : WO P p n ops (i :: is) ⟨env, nx, h⟩ K :=
  WO_op (o := ⟨dst, .binOp .rem t x y u, ty, pos, af, g⟩) (hint := none) (res := ⟨[], [], (.v (.int k (a.tmod b))), 0⟩) ho hw (by simp [opF, val, binV, binI, hx, hy, hb]) (by simp) kk

theorem WO_eql {x y : Operand} {t u : TypeId} {k : IntKind} {a b : Int} 
    (kk : WO P p n ops is ⟨putE env dst (.v (.bool (a == b))), nx, h⟩ (fun acts so => K (.fin [] [] :: acts) so))
    (ho : ops[i]? = some ⟨dst, .binOp .eql t x y u, ty, pos, af, g⟩ := by rfl) (hw : Region.wanted ⟨dst, .binOp .eql t x y u, ty, pos, af, g⟩ (yieldE ops n env) = true := by rfl)
    (hx : evO n env x = (.v (.int k a)) := by rfl) (hy : evO n env y = (.v (.int k b)) := by rfl) : WO P p n ops (i :: is) ⟨env, nx, h⟩ K :=
  WO_op (o := ⟨dst, .binOp .eql t x y u, ty, pos, af, g⟩) (hint := none) (res := ⟨[], [], (.v (.bool (a == b))), 0⟩) ho hw (by simp [opF, val, binV, binI, hx, hy]) (by simp) kk

theorem WO_neq {x y : Operand} {t u : TypeId} {k : IntKind} {a b : Int} 
    (kk : WO P p n ops is ⟨putE env dst (.v (.bool (a != b))), nx, h⟩ (fun acts so => K (.fin [] [] :: acts) so))
    (ho : ops[i]? = some ⟨dst, .binOp .neq t x y u, ty, pos, af, g⟩ := by rfl) (hw : Region.wanted ⟨dst, .binOp .neq t x y u, ty, pos, af, g⟩ (yieldE ops n env) = true := by rfl)
    (hx : evO n env x = (.v (.int k a)) := by rfl) (hy : evO n env y = (.v (.int k b)) := by rfl) : WO P p n ops (i :: is) ⟨env, nx, h⟩ K :=
  WO_op (o := ⟨dst, .binOp .neq t x y u, ty, pos, af, g⟩) (hint := none) (res := ⟨[], [], (.v (.bool (a != b))), 0⟩) ho hw (by simp [opF, val, binV, binI, hx, hy]) (by simp) kk

theorem WO_lss {x y : Operand} {t u : TypeId} {k : IntKind} {a b : Int} 
    (kk : WO P p n ops is ⟨putE env dst (.v (.bool (decide (a < b)))), nx, h⟩ (fun acts so => K (.fin [] [] :: acts) so))
    (ho : ops[i]? = some ⟨dst, .binOp .lss t x y u, ty, pos, af, g⟩ := by rfl) (hw : Region.wanted ⟨dst, .binOp .lss t x y u, ty, pos, af, g⟩ (yieldE ops n env) = true := by rfl)
    (hx : evO n env x = (.v (.int k a)) := by rfl) (hy : evO n env y = (.v (.int k b)) := by rfl) : WO P p n ops (i :: is) ⟨env, nx, h⟩ K :=
  WO_op (o := ⟨dst, .binOp .lss t x y u, ty, pos, af, g⟩) (hint := none) (res := ⟨[], [], (.v (.bool (decide (a < b)))), 0⟩) ho hw (by simp [opF, val, binV, binI, hx, hy]) (by simp) kk

theorem WO_leq {x y : Operand} {t u : TypeId} {k : IntKind} {a b : Int} 
    (kk : WO P p n ops is ⟨putE env dst (.v (.bool (decide (a ≤ b)))), nx, h⟩ (fun acts so => K (.fin [] [] :: acts) so))
    (ho : ops[i]? = some ⟨dst, .binOp .leq t x y u, ty, pos, af, g⟩ := by rfl) (hw : Region.wanted ⟨dst, .binOp .leq t x y u, ty, pos, af, g⟩ (yieldE ops n env) = true := by rfl)
    (hx : evO n env x = (.v (.int k a)) := by rfl) (hy : evO n env y = (.v (.int k b)) := by rfl) : WO P p n ops (i :: is) ⟨env, nx, h⟩ K :=
  WO_op (o := ⟨dst, .binOp .leq t x y u, ty, pos, af, g⟩) (hint := none) (res := ⟨[], [], (.v (.bool (decide (a ≤ b)))), 0⟩) ho hw (by simp [opF, val, binV, binI, hx, hy]) (by simp) kk

theorem WO_gtr {x y : Operand} {t u : TypeId} {k : IntKind} {a b : Int} 
    (kk : WO P p n ops is ⟨putE env dst (.v (.bool (decide (a > b)))), nx, h⟩ (fun acts so => K (.fin [] [] :: acts) so))
    (ho : ops[i]? = some ⟨dst, .binOp .gtr t x y u, ty, pos, af, g⟩ := by rfl) (hw : Region.wanted ⟨dst, .binOp .gtr t x y u, ty, pos, af, g⟩ (yieldE ops n env) = true := by rfl)
    (hx : evO n env x = (.v (.int k a)) := by rfl) (hy : evO n env y = (.v (.int k b)) := by rfl) : WO P p n ops (i :: is) ⟨env, nx, h⟩ K :=
  WO_op (o := ⟨dst, .binOp .gtr t x y u, ty, pos, af, g⟩) (hint := none) (res := ⟨[], [], (.v (.bool (decide (a > b)))), 0⟩) ho hw (by simp [opF, val, binV, binI, hx, hy]) (by simp) kk

theorem WO_geq {x y : Operand} {t u : TypeId} {k : IntKind} {a b : Int} 
    (kk : WO P p n ops is ⟨putE env dst (.v (.bool (decide (a ≥ b)))), nx, h⟩ (fun acts so => K (.fin [] [] :: acts) so))
    (ho : ops[i]? = some ⟨dst, .binOp .geq t x y u, ty, pos, af, g⟩ := by rfl) (hw : Region.wanted ⟨dst, .binOp .geq t x y u, ty, pos, af, g⟩ (yieldE ops n env) = true := by rfl)
    (hx : evO n env x = (.v (.int k a)) := by rfl) (hy : evO n env y = (.v (.int k b)) := by rfl) : WO P p n ops (i :: is) ⟨env, nx, h⟩ K :=
  WO_op (o := ⟨dst, .binOp .geq t x y u, ty, pos, af, g⟩) (hint := none) (res := ⟨[], [], (.v (.bool (decide (a ≥ b)))), 0⟩) ho hw (by simp [opF, val, binV, binI, hx, hy]) (by simp) kk

theorem WO_and {x y : Operand} {t u : TypeId} {k : IntKind} {a b : Int} {v : Value} 
    (kk : WO P p n ops is ⟨putE env dst (.v v), nx, h⟩ (fun acts so => K (.fin [] [] :: acts) so))
    (ho : ops[i]? = some ⟨dst, .binOp .and t x y u, ty, pos, af, g⟩ := by rfl) (hw : Region.wanted ⟨dst, .binOp .and t x y u, ty, pos, af, g⟩ (yieldE ops n env) = true := by rfl)
    (hx : evO n env x = (.v (.int k a)) := by rfl) (hy : evO n env y = (.v (.int k b)) := by rfl) (hv : bitsV .and k a b = some v := by rfl) : WO P p n ops (i :: is) ⟨env, nx, h⟩ K :=
  WO_op (o := ⟨dst, .binOp .and t x y u, ty, pos, af, g⟩) (hint := none) (res := ⟨[], [], (.v v), 0⟩) ho hw (by simp [opF, val, binV, binI, hx, hy, hv]) (by simp) kk

theorem WO_or {x y : Operand} {t u : TypeId} {k : IntKind} {a b : Int} {v : Value} 
    (kk : WO P p n ops is ⟨putE env dst (.v v), nx, h⟩ (fun acts so => K (.fin [] [] :: acts) so))
    (ho : ops[i]? = some ⟨dst, .binOp .or t x y u, ty, pos, af, g⟩ := by rfl) (hw : Region.wanted ⟨dst, .binOp .or t x y u, ty, pos, af, g⟩ (yieldE ops n env) = true := by rfl)
    (hx : evO n env x = (.v (.int k a)) := by rfl) (hy : evO n env y = (.v (.int k b)) := by rfl) (hv : bitsV .or k a b = some v := by rfl) : WO P p n ops (i :: is) ⟨env, nx, h⟩ K :=
  WO_op (o := ⟨dst, .binOp .or t x y u, ty, pos, af, g⟩) (hint := none) (res := ⟨[], [], (.v v), 0⟩) ho hw (by simp [opF, val, binV, binI, hx, hy, hv]) (by simp) kk

theorem WO_xor {x y : Operand} {t u : TypeId} {k : IntKind} {a b : Int} {v : Value} 
    (kk : WO P p n ops is ⟨putE env dst (.v v), nx, h⟩ (fun acts so => K (.fin [] [] :: acts) so))
    (ho : ops[i]? = some ⟨dst, .binOp .xor t x y u, ty, pos, af, g⟩ := by rfl) (hw : Region.wanted ⟨dst, .binOp .xor t x y u, ty, pos, af, g⟩ (yieldE ops n env) = true := by rfl)
    (hx : evO n env x = (.v (.int k a)) := by rfl) (hy : evO n env y = (.v (.int k b)) := by rfl) (hv : bitsV .xor k a b = some v := by rfl) : WO P p n ops (i :: is) ⟨env, nx, h⟩ K :=
  WO_op (o := ⟨dst, .binOp .xor t x y u, ty, pos, af, g⟩) (hint := none) (res := ⟨[], [], (.v v), 0⟩) ho hw (by simp [opF, val, binV, binI, hx, hy, hv]) (by simp) kk

theorem WO_andNot {x y : Operand} {t u : TypeId} {k : IntKind} {a b : Int} {v : Value} 
    (kk : WO P p n ops is ⟨putE env dst (.v v), nx, h⟩ (fun acts so => K (.fin [] [] :: acts) so))
    (ho : ops[i]? = some ⟨dst, .binOp .andNot t x y u, ty, pos, af, g⟩ := by rfl) (hw : Region.wanted ⟨dst, .binOp .andNot t x y u, ty, pos, af, g⟩ (yieldE ops n env) = true := by rfl)
    (hx : evO n env x = (.v (.int k a)) := by rfl) (hy : evO n env y = (.v (.int k b)) := by rfl) (hv : bitsV .andNot k a b = some v := by rfl) : WO P p n ops (i :: is) ⟨env, nx, h⟩ K :=
  WO_op (o := ⟨dst, .binOp .andNot t x y u, ty, pos, af, g⟩) (hint := none) (res := ⟨[], [], (.v v), 0⟩) ho hw (by simp [opF, val, binV, binI, hx, hy, hv]) (by simp) kk

theorem WO_shl {x y : Operand} {t u : TypeId} {k k' : IntKind} {a b : Int} 
    (kk : WO P p n ops is ⟨putE env dst (.v (.int k (k.wrap (a * 2 ^ min b.toNat k.bits)))), nx, h⟩ (fun acts so => K (.fin [] [] :: acts) so))
    (ho : ops[i]? = some ⟨dst, .binOp .shl t x y u, ty, pos, af, g⟩ := by rfl) (hw : Region.wanted ⟨dst, .binOp .shl t x y u, ty, pos, af, g⟩ (yieldE ops n env) = true := by rfl)
    (hx : evO n env x = (.v (.int k a)) := by rfl) (hy : evO n env y = (.v (.int k' b)) := by rfl) (hb : ¬ b < 0 := by first | decide | omega) : WO P p n ops (i :: is) ⟨env, nx, h⟩ K :=
  WO_op (o := ⟨dst, .binOp .shl t x y u, ty, pos, af, g⟩) (hint := none) (res := ⟨[], [], (.v (.int k (k.wrap (a * 2 ^ min b.toNat k.bits)))), 0⟩) ho hw (by simp [opF, val, binV, hx, hy, hb]) (by simp) kk

theorem WO_shr {x y : Operand} {t u : TypeId} {k k' : IntKind} {a b : Int} 
    (kk : WO P p n ops is ⟨putE env dst (.v (.int k (a.fdiv (2 ^ min b.toNat k.bits)))), nx, h⟩ (fun acts so => K (.fin [] [] :: acts) so))
    (ho : ops[i]? = some ⟨dst, .binOp .shr t x y u, ty, pos, af, g⟩ := by rfl) (hw : Region.wanted ⟨dst, .binOp .shr t x y u, ty, pos, af, g⟩ (yieldE ops n env) = true := by rfl)
    (hx : evO n env x = (.v (.int k a)) := by rfl) (hy : evO n env y = (.v (.int k' b)) := by rfl) (hb : ¬ b < 0 := by first | decide | omega) : WO P p n ops (i :: is) ⟨env, nx, h⟩ K :=
  WO_op (o := ⟨dst, .binOp .shr t x y u, ty, pos, af, g⟩) (hint := none) (res := ⟨[], [], (.v (.int k (a.fdiv (2 ^ min b.toNat k.bits)))), 0⟩) ho hw (by simp [opF, val, binV, hx, hy, hb]) (by simp) kk

theorem WO_eqlS {x y : Operand} {t u : TypeId} {a b : ByteArray} 
    (kk : WO P p n ops is ⟨putE env dst (.v (.bool (decide (a = b)))), nx, h⟩ (fun acts so => K (.fin [] [] :: acts) so))
    (ho : ops[i]? = some ⟨dst, .binOp .eql t x y u, ty, pos, af, g⟩ := by rfl) (hw : Region.wanted ⟨dst, .binOp .eql t x y u, ty, pos, af, g⟩ (yieldE ops n env) = true := by rfl)
    (hx : evO n env x = (.v (.string a)) := by rfl) (hy : evO n env y = (.v (.string b)) := by rfl) : WO P p n ops (i :: is) ⟨env, nx, h⟩ K :=
  WO_op (o := ⟨dst, .binOp .eql t x y u, ty, pos, af, g⟩) (hint := none) (res := ⟨[], [], (.v (.bool (decide (a = b)))), 0⟩) ho hw (by simp [opF, val, binV, binS, toList_beq, hx, hy]) (by simp) kk

theorem WO_neqS {x y : Operand} {t u : TypeId} {a b : ByteArray} 
    (kk : WO P p n ops is ⟨putE env dst (.v (.bool (!decide (a = b)))), nx, h⟩ (fun acts so => K (.fin [] [] :: acts) so))
    (ho : ops[i]? = some ⟨dst, .binOp .neq t x y u, ty, pos, af, g⟩ := by rfl) (hw : Region.wanted ⟨dst, .binOp .neq t x y u, ty, pos, af, g⟩ (yieldE ops n env) = true := by rfl)
    (hx : evO n env x = (.v (.string a)) := by rfl) (hy : evO n env y = (.v (.string b)) := by rfl) : WO P p n ops (i :: is) ⟨env, nx, h⟩ K :=
  WO_op (o := ⟨dst, .binOp .neq t x y u, ty, pos, af, g⟩) (hint := none) (res := ⟨[], [], (.v (.bool (!decide (a = b)))), 0⟩) ho hw (by simp [opF, val, binV, binS, toList_beq, hx, hy]) (by simp) kk

theorem WO_addS {x y : Operand} {t u : TypeId} {a b : ByteArray} (hr : ((a.size + b.size : Nat) : Int) ≤ IntKind.i64.max)
    (kk : WO P p n ops is ⟨putE env dst (.v (.string (a ++ b))), nx, h⟩ (fun acts so => K (.fin [] [] :: acts) so))
    (ho : ops[i]? = some ⟨dst, .binOp .add t x y u, ty, pos, af, g⟩ := by rfl) (hw : Region.wanted ⟨dst, .binOp .add t x y u, ty, pos, af, g⟩ (yieldE ops n env) = true := by rfl)
    (hx : evO n env x = (.v (.string a)) := by rfl) (hy : evO n env y = (.v (.string b)) := by rfl) : WO P p n ops (i :: is) ⟨env, nx, h⟩ K :=
  WO_op (o := ⟨dst, .binOp .add t x y u, ty, pos, af, g⟩) (hint := none) (res := ⟨[], [], (.v (.string (a ++ b))), 0⟩) ho hw (by simp only [opF, binV, binS, hx, hy]; rw [if_neg (by omega)]; rfl) (by simp) kk

theorem WO_eqlB {x y : Operand} {t u : TypeId} {a b : Bool} (ht : isBool P t = true)
    (kk : WO P p n ops is ⟨putE env dst (.v (.bool (a == b))), nx, h⟩ (fun acts so => K (.fin [] [] :: acts) so))
    (ho : ops[i]? = some ⟨dst, .binOp .eql t x y u, ty, pos, af, g⟩ := by rfl) (hw : Region.wanted ⟨dst, .binOp .eql t x y u, ty, pos, af, g⟩ (yieldE ops n env) = true := by rfl)
    (hx : evO n env x = (.v (.bool a)) := by rfl) (hy : evO n env y = (.v (.bool b)) := by rfl) : WO P p n ops (i :: is) ⟨env, nx, h⟩ K :=
  WO_op (o := ⟨dst, .binOp .eql t x y u, ty, pos, af, g⟩) (hint := none) (res := ⟨[], [], (.v (.bool (a == b))), 0⟩) ho hw (by simp [opF, val, binV, ht, hx, hy]) (by simp) kk

theorem WO_neqB {x y : Operand} {t u : TypeId} {a b : Bool} (ht : isBool P t = true)
    (kk : WO P p n ops is ⟨putE env dst (.v (.bool (!(a == b)))), nx, h⟩ (fun acts so => K (.fin [] [] :: acts) so))
    (ho : ops[i]? = some ⟨dst, .binOp .neq t x y u, ty, pos, af, g⟩ := by rfl) (hw : Region.wanted ⟨dst, .binOp .neq t x y u, ty, pos, af, g⟩ (yieldE ops n env) = true := by rfl)
    (hx : evO n env x = (.v (.bool a)) := by rfl) (hy : evO n env y = (.v (.bool b)) := by rfl) : WO P p n ops (i :: is) ⟨env, nx, h⟩ K :=
  WO_op (o := ⟨dst, .binOp .neq t x y u, ty, pos, af, g⟩) (hint := none) (res := ⟨[], [], (.v (.bool (!(a == b)))), 0⟩) ho hw (by simp [opF, val, binV, ht, hx, hy]) (by simp) kk

theorem WO_eqlA {x y : Operand} {t u : TypeId} {a b : List PV} {ks : List Nat} {r : Bool} (ht : plainStruct P t = true) (hk : kindsOf P t = ks)
    (kk : WO P p n ops is ⟨putE env dst (.v (.bool (r))), nx, h⟩ (fun acts so => K (.fin [] [] :: acts) so))
    (ho : ops[i]? = some ⟨dst, .binOp .eql t x y u, ty, pos, af, g⟩ := by rfl) (hw : Region.wanted ⟨dst, .binOp .eql t x y u, ty, pos, af, g⟩ (yieldE ops n env) = true := by rfl)
    (hx : evO n env x = (.agg a) := by rfl) (hy : evO n env y = (.agg b) := by rfl) (hr : eqCells ks a b = some r := by rfl) : WO P p n ops (i :: is) ⟨env, nx, h⟩ K :=
  WO_op (o := ⟨dst, .binOp .eql t x y u, ty, pos, af, g⟩) (hint := none) (res := ⟨[], [], (.v (.bool (r))), 0⟩) ho hw (by simp [opF, val, ht, hk, hx, hy, hr]) (by simp) kk

theorem WO_neqA {x y : Operand} {t u : TypeId} {a b : List PV} {ks : List Nat} {r : Bool} (ht : plainStruct P t = true) (hk : kindsOf P t = ks)
    (kk : WO P p n ops is ⟨putE env dst (.v (.bool (!r))), nx, h⟩ (fun acts so => K (.fin [] [] :: acts) so))
    (ho : ops[i]? = some ⟨dst, .binOp .neq t x y u, ty, pos, af, g⟩ := by rfl) (hw : Region.wanted ⟨dst, .binOp .neq t x y u, ty, pos, af, g⟩ (yieldE ops n env) = true := by rfl)
    (hx : evO n env x = (.agg a) := by rfl) (hy : evO n env y = (.agg b) := by rfl) (hr : eqCells ks a b = some r := by rfl) : WO P p n ops (i :: is) ⟨env, nx, h⟩ K :=
  WO_op (o := ⟨dst, .binOp .neq t x y u, ty, pos, af, g⟩) (hint := none) (res := ⟨[], [], (.v (.bool (!r))), 0⟩) ho hw (by simp [opF, val, ht, hk, hx, hy, hr]) (by simp) kk

theorem WO_not {x : Operand} {t : TypeId} {b : Bool} 
    (kk : WO P p n ops is ⟨putE env dst (.v (.bool (!b))), nx, h⟩ (fun acts so => K (.fin [] [] :: acts) so))
    (ho : ops[i]? = some ⟨dst, .unOp .not t x, ty, pos, af, g⟩ := by rfl) (hw : Region.wanted ⟨dst, .unOp .not t x, ty, pos, af, g⟩ (yieldE ops n env) = true := by rfl)
    (hx : evO n env x = (.v (.bool b)) := by rfl) : WO P p n ops (i :: is) ⟨env, nx, h⟩ K :=
  WO_op (o := ⟨dst, .unOp .not t x, ty, pos, af, g⟩) (hint := none) (res := ⟨[], [], (.v (.bool (!b))), 0⟩) ho hw (by simp [opF, val, unV, hx]) (by simp) kk

theorem WO_neg {x : Operand} {t : TypeId} {k : IntKind} {a : Int} 
    (kk : WO P p n ops is ⟨putE env dst (.v (.int k (k.wrap (0 - a)))), nx, h⟩ (fun acts so => K (.fin [] [] :: acts) so))
    (ho : ops[i]? = some ⟨dst, .unOp .neg t x, ty, pos, af, g⟩ := by rfl) (hw : Region.wanted ⟨dst, .unOp .neg t x, ty, pos, af, g⟩ (yieldE ops n env) = true := by rfl)
    (hx : evO n env x = (.v (.int k a)) := by rfl) : WO P p n ops (i :: is) ⟨env, nx, h⟩ K :=
  WO_op (o := ⟨dst, .unOp .neg t x, ty, pos, af, g⟩) (hint := none) (res := ⟨[], [], (.v (.int k (k.wrap (0 - a)))), 0⟩) ho hw (by simp [opF, val, unV, hx]) (by simp) kk

theorem WO_convI {x : Operand} {s d : TypeId} {k k' : IntKind} {a : Int} (hs : (P.underlying s).isSome = true) (hd : intT P d = some k')
    (kk : WO P p n ops is ⟨putE env dst (.v (.int k' (k'.wrap a))), nx, h⟩ (fun acts so => K (.fin [] [] :: acts) so))
    (ho : ops[i]? = some ⟨dst, .convert s d x, ty, pos, af, g⟩ := by rfl) (hw : Region.wanted ⟨dst, .convert s d x, ty, pos, af, g⟩ (yieldE ops n env) = true := by rfl)
    (hx : evO n env x = (.v (.int k a)) := by rfl) : WO P p n ops (i :: is) ⟨env, nx, h⟩ K :=
  WO_op (o := ⟨dst, .convert s d x, ty, pos, af, g⟩) (hint := none) (res := ⟨[], [], (.v (.int k' (k'.wrap a))), 0⟩) ho hw (by obtain ⟨u, hu⟩ := Option.isSome_iff_exists.1 hs; simp [opF, val, hu, hd, hx]) (by simp) kk

theorem WO_convS {x : Operand} {s d : TypeId} {a : ByteArray} (hs : (P.underlying s).isSome = true) (hd : isStr P d = true)
    (kk : WO P p n ops is ⟨putE env dst (.v (.string a)), nx, h⟩ (fun acts so => K (.fin [] [] :: acts) so))
    (ho : ops[i]? = some ⟨dst, .convert s d x, ty, pos, af, g⟩ := by rfl) (hw : Region.wanted ⟨dst, .convert s d x, ty, pos, af, g⟩ (yieldE ops n env) = true := by rfl)
    (hx : evO n env x = (.v (.string a)) := by rfl) : WO P p n ops (i :: is) ⟨env, nx, h⟩ K :=
  WO_op (o := ⟨dst, .convert s d x, ty, pos, af, g⟩) (hint := none) (res := ⟨[], [], (.v (.string a)), 0⟩) ho hw (by simp [opF, val, hs, hd, hx]) (by simp) kk

theorem WO_build {ps : Array (Nat × Operand)} {t : TypeId} {z cs : List PV} {pl : List (Nat × Nat)} {l : List (Nat × PV)} (hz : zeroOf P t = some (.agg z)) (hp : placesOf P t = some pl)
    (kk : WO P p n ops is ⟨putE env dst (.agg cs), nx, h⟩ (fun acts so => K (.fin [] [] :: acts) so))
    (ho : ops[i]? = some ⟨dst, .build t ps, ty, pos, af, g⟩ := by rfl) (hw : Region.wanted ⟨dst, .build t ps, ty, pos, af, g⟩ (yieldE ops n env) = true := by rfl)
    (ha : (ps.toList.map fun q => (q.1, (evO n env q.2).lo)) = l := by rfl) (h1 : (l.all fun q => q.2.cells.all PV.one) = true := by rfl) (hc : partsOver (fun i => pl[i]?) z l = some cs := by rfl) : WO P p n ops (i :: is) ⟨env, nx, h⟩ K :=
  WO_op (o := ⟨dst, .build t ps, ty, pos, af, g⟩) (hint := none) (res := ⟨[], [], (.agg cs), 0⟩) ho hw (by have e : (ps.toList.all fun q => (evO n env q.2).lo.cells.all PV.one) = true := by { subst ha; rw [List.all_map] at h1; exact h1 }; simp only [opF, hz, hp]; rw [if_neg (by rw [e]; simp), ha, hc]; rfl) (by simp) kk

theorem WO_extract {x : Operand} {j : Nat} {v : PV} 
    (kk : WO P p n ops is ⟨putE env dst v, nx, h⟩ (fun acts so => K (.fin [] [] :: acts) so))
    (ho : ops[i]? = some ⟨dst, .extract x j, ty, pos, af, g⟩ := by rfl) (hw : Region.wanted ⟨dst, .extract x j, ty, pos, af, g⟩ (yieldE ops n env) = true := by rfl)
    (hv : (match evO n env x with | .tup vs => vs[j]? | _ => none) = some v := by rfl) : WO P p n ops (i :: is) ⟨env, nx, h⟩ K :=
  WO_op (o := ⟨dst, .extract x j, ty, pos, af, g⟩) (hint := none) (res := ⟨[], [], v, 0⟩) ho hw (by revert hv; simp only [opF]; cases evO n env x <;> simp [val] <;> intro e <;> simp [e]) (by simp) kk

theorem WO_makeFunc {f : FuncId} {caps : Array Operand} {l : List PV} 
    (kk : WO P p n ops is ⟨putE env dst (.clo f l), nx, h⟩ (fun acts so => K (.fin [] [] :: acts) so))
    (ho : ops[i]? = some ⟨dst, .makeFunc (.func f) #[] caps, ty, pos, af, g⟩ := by rfl) (hw : Region.wanted ⟨dst, .makeFunc (.func f) #[] caps, ty, pos, af, g⟩ (yieldE ops n env) = true := by rfl)
    (hv : caps.toList.map (evO n env) = l := by rfl) : WO P p n ops (i :: is) ⟨env, nx, h⟩ K :=
  WO_op (o := ⟨dst, .makeFunc (.func f) #[] caps, ty, pos, af, g⟩) (hint := none) (res := ⟨[], [], (.clo f l), 0⟩) ho hw (by simp [opF, val, ← hv]) (by simp) kk

theorem WO_len {x : Operand} {t : TypeId} {b : Bool} {xs : List PV} (ht : (slElem P t).isSome = true)
    (kk : WO P p n ops is ⟨putE env dst (.v (.int .i64 (xs.length : Nat))), nx, h⟩ (fun acts so => K (.fin [] [] :: acts) so))
    (ho : ops[i]? = some ⟨dst, .call ⟨.builtin .len, #[x], #[t]⟩, ty, pos, af, g⟩ := by rfl) (hw : Region.wanted ⟨dst, .call ⟨.builtin .len, #[x], #[t]⟩, ty, pos, af, g⟩ (yieldE ops n env) = true := by rfl)
    (hx : evO n env x = (.sl b xs) := by rfl) : WO P p n ops (i :: is) ⟨env, nx, h⟩ K :=
  WO_op (o := ⟨dst, .call ⟨.builtin .len, #[x], #[t]⟩, ty, pos, af, g⟩) (hint := none) (res := ⟨[], [], (.v (.int .i64 (xs.length : Nat))), 0⟩) ho hw (by simp [opF, val, ht, hx]) (by simp) kk

theorem WO_lenL {x : Operand} {t : TypeId} {b : Bool} {xs : List PV} {m : Nat} (ht : (slElem P t).isSome = true)
    (kk : WO P p n ops is ⟨putE env dst (.v (.int .i64 (m : Nat))), nx, h⟩ (fun acts so => K (.fin [] [] :: acts) so))
    (ho : ops[i]? = some ⟨dst, .call ⟨.builtin .len, #[x], #[t]⟩, ty, pos, af, g⟩ := by rfl) (hw : Region.wanted ⟨dst, .call ⟨.builtin .len, #[x], #[t]⟩, ty, pos, af, g⟩ (yieldE ops n env) = true := by rfl)
    (hx : evO n env x = (.sl b xs) := by rfl) (hn : xs.length = m := by first | exact List.length_map .. | rfl) : WO P p n ops (i :: is) ⟨env, nx, h⟩ K :=
  WO_op (o := ⟨dst, .call ⟨.builtin .len, #[x], #[t]⟩, ty, pos, af, g⟩) (hint := none) (res := ⟨[], [], (.v (.int .i64 (m : Nat))), 0⟩) ho hw (by simp [opF, val, ht, hx, hn]) (by simp) kk

theorem WO_lenS {x : Operand} {t : TypeId} {s : ByteArray} (ht : isStr P t = true)
    (kk : WO P p n ops is ⟨putE env dst (.v (.int .i64 (s.size : Nat))), nx, h⟩ (fun acts so => K (.fin [] [] :: acts) so))
    (ho : ops[i]? = some ⟨dst, .call ⟨.builtin .len, #[x], #[t]⟩, ty, pos, af, g⟩ := by rfl) (hw : Region.wanted ⟨dst, .call ⟨.builtin .len, #[x], #[t]⟩, ty, pos, af, g⟩ (yieldE ops n env) = true := by rfl)
    (hx : evO n env x = (.v (.string s)) := by rfl) : WO P p n ops (i :: is) ⟨env, nx, h⟩ K :=
  WO_op (o := ⟨dst, .call ⟨.builtin .len, #[x], #[t]⟩, ty, pos, af, g⟩) (hint := none) (res := ⟨[], [], (.v (.int .i64 (s.size : Nat))), 0⟩) ho hw (by simp [opF, val, ht, hx]) (by simp) kk

theorem WO_lenR {x : Operand} {t : TypeId} {tk : Tok} {ver off len sz : Nat} {xs : List PV} (ht : (slElem P t).isSome = true)
    (kk : WO P p n ops is ⟨putE env dst (.v (.int .i64 (len : Nat))), nx, h⟩ (fun acts so => K (.fin [(tk, ⟨ver, sz, xs⟩)] [] :: acts) so))
    (ho : ops[i]? = some ⟨dst, .call ⟨.builtin .len, #[x], #[t]⟩, ty, pos, af, g⟩ := by rfl) (hw : Region.wanted ⟨dst, .call ⟨.builtin .len, #[x], #[t]⟩, ty, pos, af, g⟩ (yieldE ops n env) = true := by rfl)
    (hx : evO n env x = (.ref tk ver off len) := by rfl) (hr : h tk = some ⟨ver, sz, xs⟩ := by (repeat (first | refine look_ne (by omega) ?_ | refine look_pn (by assumption) ?_ | refine look_np (by assumption) ?_ | refine look_del (by omega) ?_ | refine look_delp (by assumption) ?_)); first | with_reducible assumption | exact look_eq | assumption) : WO P p n ops (i :: is) ⟨env, nx, h⟩ K :=
  WO_op (o := ⟨dst, .call ⟨.builtin .len, #[x], #[t]⟩, ty, pos, af, g⟩) (hint := none) (res := ⟨[(tk, ⟨ver, sz, xs⟩)], [], (.v (.int .i64 (len : Nat))), 0⟩) ho hw (by simp [opF, rowAt_ver hr, ht, hx]) (by simp [hr]) kk

theorem WO_buildSlice {ps : Array (Nat × Operand)} {t el : TypeId} {len s : Nat} {z : PV} {l : List (Nat × PV)} {xs : List PV} (he : slElem P t = some el) (hs : szOf P el = some s) (hz : zeroOf P el = some z)
    (kk : WO P p n ops is ⟨putE env dst (.sl true xs), nx, h⟩ (fun acts so => K (.fin [] [] :: acts) so))
    (ho : ops[i]? = some ⟨dst, .buildSlice t len ps, ty, pos, af, g⟩ := by rfl) (hw : Region.wanted ⟨dst, .buildSlice t len ps, ty, pos, af, g⟩ (yieldE ops n env) = true := by rfl)
    (ha : (ps.toList.map fun q => (q.1, (evO n env q.2).lo)) = l := by rfl) (hl : len * s ≤ 4096 ∧ 0 < s ∧ z.cells.length = s := by decide) (hv : elemsOver s (List.replicate len z) l = some xs := by rfl) : WO P p n ops (i :: is) ⟨env, nx, h⟩ K :=
  WO_op (o := ⟨dst, .buildSlice t len ps, ty, pos, af, g⟩) (hint := none) (res := ⟨[], [], (.sl true xs), 0⟩) ho hw (by simp only [opF, he, hs, hz]; rw [if_pos hl, ha, hv]; rfl) (by simp) kk

theorem WO_buildSliceR {ps : Array (Nat × Operand)} {t el : TypeId} {len s : Nat} {z : PV} {l : List (Nat × PV)} {xs : List PV} (he : slElem P t = some el) (hs : szOf P el = some s) (hz : zeroOf P el = some z)
    (kk : WO P p n ops is ⟨putE env dst (.ref (p ++ [nx]) 0 0 len), nx + 1, upd h (p ++ [nx]) ⟨0, s, xs⟩⟩ (fun acts so => K (.fin [] [((p ++ [nx]), ⟨0, s, xs⟩)] :: acts) so))
    (ho : ops[i]? = some ⟨dst, .buildSlice t len ps, ty, pos, af, g⟩ := by rfl) (hw : Region.wanted ⟨dst, .buildSlice t len ps, ty, pos, af, g⟩ (yieldE ops n env) = true := by rfl)
    (ha : (ps.toList.map fun q => (q.1, (evO n env q.2).lo)) = l := by rfl) (hl : len * s ≤ 4096 ∧ 0 < s ∧ z.cells.length = s := by decide) (hv : elemsOver s (List.replicate len z) l = some xs := by rfl) : WO P p n ops (i :: is) ⟨env, nx, h⟩ K :=
  WO_op (o := ⟨dst, .buildSlice t len ps, ty, pos, af, g⟩) (hint := some 0) (res := ⟨[], [((p ++ [nx]), ⟨0, s, xs⟩)], (.ref (p ++ [nx]) 0 0 len), 1⟩) ho hw (by simp only [opF, he, hs, hz]; rw [if_pos hl, ha, hv]) (by simp) kk

theorem WO_makeSlice {x y : Operand} {t el : TypeId} {s : Nat} {z : PV} {a b : Int} (he : slElem P t = some el) (hs : szOf P el = some s) (hz : zeroOf P el = some z) (hb : bytesOf P el ≤ 64 ∧ 0 < s ∧ z.cells.length = s)
    (kk : WO P p n ops is ⟨putE env dst (.ref (p ++ [nx]) 0 0 a.toNat), nx + 1, upd h (p ++ [nx]) ⟨0, s, List.replicate a.toNat z⟩⟩ (fun acts so => K (.fin [] [((p ++ [nx]), ⟨0, s, List.replicate a.toNat z⟩)] :: acts) so))
    (ho : ops[i]? = some ⟨dst, .makeSlice t x y, ty, pos, af, g⟩ := by rfl) (hw : Region.wanted ⟨dst, .makeSlice t x y, ty, pos, af, g⟩ (yieldE ops n env) = true := by rfl)
    (hx : evO n env x = (.v (.int .i64 a)) := by rfl) (hy : evO n env y = (.v (.int .i64 b)) := by rfl) (hr : 0 ≤ a ∧ a ≤ b ∧ b ≤ 1099511627776 := by omega) : WO P p n ops (i :: is) ⟨env, nx, h⟩ K :=
  WO_op (o := ⟨dst, .makeSlice t x y, ty, pos, af, g⟩) (hint := none) (res := ⟨[], [((p ++ [nx]), ⟨0, s, List.replicate a.toNat z⟩)], (.ref (p ++ [nx]) 0 0 a.toNat), 1⟩) ho hw (by have hr2 : b.toNat ≤ LIM := by { unfold LIM; omega }; simp [opF, he, hs, hz, hx, hy, hb, hr, hr2]) (by simp) kk

theorem WO_index {x ix : Operand} {t el : TypeId} {s : Nat} {b : Bool} {xs : List PV} {k : IntKind} {a : Int} {c : PV} (he : slElem P t = some el) (hs : szOf P el = some s)
    (kk : WO P p n ops is ⟨putE env dst (.iptr c.cells), nx, h⟩ (fun acts so => K (.fin [] [] :: acts) so))
    (ho : ops[i]? = some ⟨dst, .indexAddr t x ix, ty, pos, af, g⟩ := by rfl) (hw : Region.wanted ⟨dst, .indexAddr t x ix, ty, pos, af, g⟩ (yieldE ops n env) = true := by rfl)
    (hx : evO n env x = (.sl b xs) := by rfl) (hi : evO n env ix = (.v (.int k a)) := by rfl) (h0 : 0 ≤ a := by first | decide | omega) (hv : xs[a.toNat]? = some c := by first | rfl | simp [*]) (hc : c.cells.length = s := by rfl) : WO P p n ops (i :: is) ⟨env, nx, h⟩ K :=
  WO_op (o := ⟨dst, .indexAddr t x ix, ty, pos, af, g⟩) (hint := none) (res := ⟨[], [], (.iptr c.cells), 0⟩) ho hw (by have hlt : a < xs.length := by { have := (List.getElem?_eq_some_iff.1 hv).1; omega }; simp only [opF, he, hs, hx, hi]; rw [if_pos ⟨h0, hlt⟩, hv]; simp [val, hc]) (by simp) kk

theorem WO_indexR {x ix : Operand} {t el : TypeId} {s : Nat} {tk : Tok} {ver off len : Nat} {xs : List PV} {k : IntKind} {a : Int} (he : slElem P t = some el) (hs : szOf P el = some s)
    (kk : WO P p n ops is ⟨putE env dst (.ptr tk ver (off + a.toNat) 0), nx, h⟩ (fun acts so => K (.fin [(tk, ⟨ver, s, xs⟩)] [] :: acts) so))
    (ho : ops[i]? = some ⟨dst, .indexAddr t x ix, ty, pos, af, g⟩ := by rfl) (hw : Region.wanted ⟨dst, .indexAddr t x ix, ty, pos, af, g⟩ (yieldE ops n env) = true := by rfl)
    (hx : evO n env x = (.ref tk ver off len) := by rfl) (hi : evO n env ix = (.v (.int k a)) := by rfl) (hr : h tk = some ⟨ver, s, xs⟩ := by (repeat (first | refine look_ne (by omega) ?_ | refine look_pn (by assumption) ?_ | refine look_np (by assumption) ?_ | refine look_del (by omega) ?_ | refine look_delp (by assumption) ?_)); first | with_reducible assumption | exact look_eq | assumption) (h0 : 0 ≤ a ∧ a < len := by first | decide | omega) : WO P p n ops (i :: is) ⟨env, nx, h⟩ K :=
  WO_op (o := ⟨dst, .indexAddr t x ix, ty, pos, af, g⟩) (hint := none) (res := ⟨[(tk, ⟨ver, s, xs⟩)], [], (.ptr tk ver (off + a.toNat) 0), 0⟩) ho hw (by simp [opF, he, hs, hx, hi, rowAt_ver hr, h0]) (by simp [hr]) kk

theorem WO_indexS {x ix : Operand} {t : TypeId} {s : ByteArray} {k : IntKind} {a : Int} {c : UInt8} (ht : isStr P t = true)
    (kk : WO P p n ops is ⟨putE env dst (.v (.int .u8 c.toNat)), nx, h⟩ (fun acts so => K (.fin [] [] :: acts) so))
    (ho : ops[i]? = some ⟨dst, .index t x ix, ty, pos, af, g⟩ := by rfl) (hw : Region.wanted ⟨dst, .index t x ix, ty, pos, af, g⟩ (yieldE ops n env) = true := by rfl)
    (hx : evO n env x = (.v (.string s)) := by rfl) (hi : evO n env ix = (.v (.int k a)) := by rfl) (h0 : 0 ≤ a := by first | decide | omega) (hv : s[a.toNat]? = some c := by first | rfl | simp [*]) : WO P p n ops (i :: is) ⟨env, nx, h⟩ K :=
  WO_op (o := ⟨dst, .index t x ix, ty, pos, af, g⟩) (hint := none) (res := ⟨[], [], (.v (.int .u8 c.toNat)), 0⟩) ho hw (by simp [opF, val, ht, hx, hi, h0, hv]) (by simp) kk

theorem WO_loadI {a : Operand} {t : TypeId} {s : Nat} {cs : List PV} (hs : szOf P t = some s) (hg : aggT P t = some true)
    (kk : WO P p n ops is ⟨putE env dst (.agg cs), nx, h⟩ (fun acts so => K (.fin [] [] :: acts) so))
    (ho : ops[i]? = some ⟨dst, .load t a, ty, pos, af, g⟩ := by rfl) (hw : Region.wanted ⟨dst, .load t a, ty, pos, af, g⟩ (yieldE ops n env) = true := by rfl)
    (ha : evO n env a = (.iptr cs) := by rfl) (hl : cs.length = s := by rfl) : WO P p n ops (i :: is) ⟨env, nx, h⟩ K :=
  WO_op (o := ⟨dst, .load t a, ty, pos, af, g⟩) (hint := none) (res := ⟨[], [], (.agg cs), 0⟩) ho hw (by subst hl; simp [opF, loadF, val, hs, hg, ha]) (by simp) kk

theorem WO_loadI1 {a : Operand} {t : TypeId} {s : Nat} {c : PV} (hs : szOf P t = some s) (hg : aggT P t = some false)
    (kk : WO P p n ops is ⟨putE env dst c, nx, h⟩ (fun acts so => K (.fin [] [] :: acts) so))
    (ho : ops[i]? = some ⟨dst, .load t a, ty, pos, af, g⟩ := by rfl) (hw : Region.wanted ⟨dst, .load t a, ty, pos, af, g⟩ (yieldE ops n env) = true := by rfl)
    (ha : (match evO n env a with | .iptr cs => cs[0]? | _ => none) = some c := by rfl) : WO P p n ops (i :: is) ⟨env, nx, h⟩ K :=
  WO_op (o := ⟨dst, .load t a, ty, pos, af, g⟩) (hint := none) (res := ⟨[], [], c, 0⟩) ho hw (by revert ha; simp only [opF, loadF, hs, hg]; cases evO n env a <;> simp [val] <;> intro e <;> simp [e]) (by simp) kk

theorem WO_fieldI {x : Operand} {t : TypeId} {f off : Nat} {cs ds : List PV} (hf : faOf P t f = some off)
    (kk : WO P p n ops is ⟨putE env dst (.iptr ds), nx, h⟩ (fun acts so => K (.fin [] [] :: acts) so))
    (ho : ops[i]? = some ⟨dst, .fieldAddr t x f, ty, pos, af, g⟩ := by rfl) (hw : Region.wanted ⟨dst, .fieldAddr t x f, ty, pos, af, g⟩ (yieldE ops n env) = true := by rfl)
    (hx : evO n env x = (.iptr cs) := by rfl) (ho2 : off ≤ cs.length := by exact Nat.le_of_ble_eq_true rfl) (hd : cs.drop off = ds := by rfl) : WO P p n ops (i :: is) ⟨env, nx, h⟩ K :=
  WO_op (o := ⟨dst, .fieldAddr t x f, ty, pos, af, g⟩) (hint := none) (res := ⟨[], [], (.iptr ds), 0⟩) ho hw (by obtain ⟨ft, e1, e2⟩ := faOf_spec hf; subst hd; simp only [opF, e1, hx]; rw [if_neg e2]; simp [val, ho2]) (by simp) kk

theorem WO_slice {x : Operand} {lo hi : Option Operand} {t : TypeId} {b : Bool} {xs ys : List PV} {sz aa bb : Nat} (hs : okSlT P t = some sz) (hz : okSz sz xs = true) (hh : highB (hi.map (evO n env)) xs.length = some bb) (hl : lowB (lo.map (evO n env)) bb = some aa)
    (kk : WO P p n ops is ⟨putE env dst (.sl (b && (bb == xs.length)) ys), nx, h⟩ (fun acts so => K (.fin [] [] :: acts) so))
    (ho : ops[i]? = some ⟨dst, .slice t x lo hi none, ty, pos, af, g⟩ := by rfl) (hw : Region.wanted ⟨dst, .slice t x lo hi none, ty, pos, af, g⟩ (yieldE ops n env) = true := by rfl)
    (hx : evO n env x = (.sl b xs) := by rfl) (hv : (xs.take bb).drop aa = ys := by rfl) : WO P p n ops (i :: is) ⟨env, nx, h⟩ K :=
  WO_op (o := ⟨dst, .slice t x lo hi none, ty, pos, af, g⟩) (hint := none) (res := ⟨[], [], (.sl (b && (bb == xs.length)) ys), 0⟩) ho hw (by subst hv; unfold okSlT at hs; simp only [opF, sliceF, hx, okSl, hs, hz, Option.map_none]; simp [hh, hl, val]) (by simp) kk

theorem WO_slice3 {x hi mx : Operand} {lo : Option Operand} {t : TypeId} {b : Bool} {xs ys : List PV} {sz aa bb mm : Nat} (hs : okSlT P t = some sz) (hz : okSz sz xs = true) (hm : bound (evO n env mx) xs.length = some mm) (hh : bound (evO n env hi) mm = some bb) (hl : lowB (lo.map (evO n env)) bb = some aa)
    (kk : WO P p n ops is ⟨putE env dst (.sl (bb == mm) ys), nx, h⟩ (fun acts so => K (.fin [] [] :: acts) so))
    (ho : ops[i]? = some ⟨dst, .slice t x lo (some hi) (some mx), ty, pos, af, g⟩ := by rfl) (hw : Region.wanted ⟨dst, .slice t x lo (some hi) (some mx), ty, pos, af, g⟩ (yieldE ops n env) = true := by rfl)
    (hx : evO n env x = (.sl b xs) := by rfl) (hv : (xs.take bb).drop aa = ys := by rfl) : WO P p n ops (i :: is) ⟨env, nx, h⟩ K :=
  WO_op (o := ⟨dst, .slice t x lo (some hi) (some mx), ty, pos, af, g⟩) (hint := none) (res := ⟨[], [], (.sl (bb == mm) ys), 0⟩) ho hw (by subst hv; unfold okSlT at hs; simp only [opF, sliceF, hx, okSl, hs, hz, Option.map_some]; simp [hm, hh, hl, val]) (by simp) kk

theorem WO_sliceS {x : Operand} {lo hi : Option Operand} {t : TypeId} {s : ByteArray} {aa bb : Nat} (hs : isStr P t = true) (hh : highB (hi.map (evO n env)) s.size = some bb) (hl : lowB (lo.map (evO n env)) bb = some aa)
    (kk : WO P p n ops is ⟨putE env dst (.v (.string (s.extract aa bb))), nx, h⟩ (fun acts so => K (.fin [] [] :: acts) so))
    (ho : ops[i]? = some ⟨dst, .slice t x lo hi none, ty, pos, af, g⟩ := by rfl) (hw : Region.wanted ⟨dst, .slice t x lo hi none, ty, pos, af, g⟩ (yieldE ops n env) = true := by rfl)
    (hx : evO n env x = (.v (.string s)) := by rfl) : WO P p n ops (i :: is) ⟨env, nx, h⟩ K :=
  WO_op (o := ⟨dst, .slice t x lo hi none, ty, pos, af, g⟩) (hint := none) (res := ⟨[], [], (.v (.string (s.extract aa bb))), 0⟩) ho hw (by simp only [opF, sliceF, hx, hs, Option.map_none]; simp [hh, hl, val]) (by simp) kk

theorem WO_sliceR {x : Operand} {lo hi : Option Operand} {t : TypeId} {tk : Tok} {ver off len : Nat} {xs : List PV} {sz aa bb : Nat} (hs : okSlT P t = some sz) (hh : highB (hi.map (evO n env)) len = some bb) (hl : lowB (lo.map (evO n env)) bb = some aa)
    (kk : WO P p n ops is ⟨putE env dst (.ref tk ver (off + aa) (bb - aa)), nx, h⟩ (fun acts so => K (.fin [(tk, ⟨ver, sz, xs⟩)] [] :: acts) so))
    (ho : ops[i]? = some ⟨dst, .slice t x lo hi none, ty, pos, af, g⟩ := by rfl) (hw : Region.wanted ⟨dst, .slice t x lo hi none, ty, pos, af, g⟩ (yieldE ops n env) = true := by rfl)
    (hx : evO n env x = (.ref tk ver off len) := by rfl) (hr : h tk = some ⟨ver, sz, xs⟩ := by (repeat (first | refine look_ne (by omega) ?_ | refine look_pn (by assumption) ?_ | refine look_np (by assumption) ?_ | refine look_del (by omega) ?_ | refine look_delp (by assumption) ?_)); first | with_reducible assumption | exact look_eq | assumption) : WO P p n ops (i :: is) ⟨env, nx, h⟩ K :=
  WO_op (o := ⟨dst, .slice t x lo hi none, ty, pos, af, g⟩) (hint := none) (res := ⟨[(tk, ⟨ver, sz, xs⟩)], [], (.ref tk ver (off + aa) (bb - aa)), 0⟩) ho hw (by unfold okSlT at hs; simp only [opF, sliceF, hx, rowAt_ver hr, hs, Option.map_none]; simp [hh, hl]) (by simp [hr]) kk

theorem WO_sliceTo {x y : Operand} {t : TypeId} {b : Bool} {xs ys : List PV} {sz : Nat} {k : IntKind} {a : Int} (hs : okSlT P t = some sz) (hz : okSz sz xs = true)
    (kk : WO P p n ops is ⟨putE env dst (.sl (b && (a.toNat == xs.length)) ys), nx, h⟩ (fun acts so => K (.fin [] [] :: acts) so))
    (ho : ops[i]? = some ⟨dst, .slice t x none (some y) none, ty, pos, af, g⟩ := by rfl) (hw : Region.wanted ⟨dst, .slice t x none (some y) none, ty, pos, af, g⟩ (yieldE ops n env) = true := by rfl)
    (hx : evO n env x = (.sl b xs) := by rfl) (hy : evO n env y = (.v (.int k a)) := by rfl) (hb : 0 ≤ a ∧ a ≤ xs.length := by first | omega | (simp only [List.length_map]; omega)) (hv : xs.take a.toNat = ys := by first | exact (List.map_take ..).symm | rfl) : WO P p n ops (i :: is) ⟨env, nx, h⟩ K :=
  WO_op (o := ⟨dst, .slice t x none (some y) none, ty, pos, af, g⟩) (hint := none) (res := ⟨[], [], (.sl (b && (a.toNat == xs.length)) ys), 0⟩) ho hw (by subst hv; unfold okSlT at hs; obtain ⟨b1, b2⟩ := hb; simp [opF, sliceF, okSl, hx, hs, hy, highB, lowB, bound, val, b1, b2, hz]) (by simp) kk

theorem WO_sliceFrom {x y : Operand} {t : TypeId} {b : Bool} {xs ys : List PV} {sz : Nat} {k : IntKind} {a : Int} (hs : okSlT P t = some sz) (hz : okSz sz xs = true)
    (kk : WO P p n ops is ⟨putE env dst (.sl b ys), nx, h⟩ (fun acts so => K (.fin [] [] :: acts) so))
    (ho : ops[i]? = some ⟨dst, .slice t x (some y) none none, ty, pos, af, g⟩ := by rfl) (hw : Region.wanted ⟨dst, .slice t x (some y) none none, ty, pos, af, g⟩ (yieldE ops n env) = true := by rfl)
    (hx : evO n env x = (.sl b xs) := by rfl) (hy : evO n env y = (.v (.int k a)) := by rfl) (hb : 0 ≤ a ∧ a ≤ xs.length := by first | omega | (simp only [List.length_map]; omega)) (hv : xs.drop a.toNat = ys := by first | exact (List.map_drop ..).symm | rfl) : WO P p n ops (i :: is) ⟨env, nx, h⟩ K :=
  WO_op (o := ⟨dst, .slice t x (some y) none none, ty, pos, af, g⟩) (hint := none) (res := ⟨[], [], (.sl b ys), 0⟩) ho hw (by subst hv; unfold okSlT at hs; obtain ⟨b1, b2⟩ := hb; simp [opF, sliceF, okSl, hx, hs, hy, highB, lowB, bound, val, b1, b2, hz]) (by simp) kk

theorem WO_sliceBoth {x y w : Operand} {t : TypeId} {b : Bool} {xs ys : List PV} {sz : Nat} {k k' : IntKind} {a c : Int} (hs : okSlT P t = some sz) (hz : okSz sz xs = true)
    (kk : WO P p n ops is ⟨putE env dst (.sl (b && (a.toNat == xs.length)) ys), nx, h⟩ (fun acts so => K (.fin [] [] :: acts) so))
    (ho : ops[i]? = some ⟨dst, .slice t x (some w) (some y) none, ty, pos, af, g⟩ := by rfl) (hw : Region.wanted ⟨dst, .slice t x (some w) (some y) none, ty, pos, af, g⟩ (yieldE ops n env) = true := by rfl)
    (hx : evO n env x = (.sl b xs) := by rfl) (hl : evO n env w = (.v (.int k' c)) := by rfl) (hy : evO n env y = (.v (.int k a)) := by rfl) (hb : 0 ≤ c ∧ c ≤ a ∧ a ≤ xs.length := by first | omega | (simp only [List.length_map]; omega)) (hv : (xs.take a.toNat).drop c.toNat = ys := by rfl) : WO P p n ops (i :: is) ⟨env, nx, h⟩ K :=
  WO_op (o := ⟨dst, .slice t x (some w) (some y) none, ty, pos, af, g⟩) (hint := none) (res := ⟨[], [], (.sl (b && (a.toNat == xs.length)) ys), 0⟩) ho hw (by subst hv; unfold okSlT at hs; obtain ⟨b1, b2, b3⟩ := hb; have b4 : (0:Int) ≤ c ∧ (0:Int) ≤ a := ⟨by omega, by omega⟩; have b6 : c ≤ a → c ≤ max a 0 := (by omega); have b7 : a ≤ c → a ≤ max c 0 := (by omega); simp [opF, sliceF, okSl, hx, hs, hy, highB, lowB, bound, val, b1, b2, b3, b4.1, b4.2, b6, b7, hz, hl]) (by simp) kk

theorem WO_slice3To {x y w : Operand} {t : TypeId} {b tt : Bool} {xs ys : List PV} {sz : Nat} {k k' : IntKind} {a c : Int} (hs : okSlT P t = some sz) (hz : okSz sz xs = true)
    (kk : WO P p n ops is ⟨putE env dst (.sl tt ys), nx, h⟩ (fun acts so => K (.fin [] [] :: acts) so))
    (ho : ops[i]? = some ⟨dst, .slice t x none (some y) (some w), ty, pos, af, g⟩ := by rfl) (hw : Region.wanted ⟨dst, .slice t x none (some y) (some w), ty, pos, af, g⟩ (yieldE ops n env) = true := by rfl)
    (hx : evO n env x = (.sl b xs) := by rfl) (hl : evO n env w = (.v (.int k' c)) := by rfl) (hy : evO n env y = (.v (.int k a)) := by rfl) (hb : 0 ≤ a ∧ a ≤ c ∧ c ≤ xs.length := by first | omega | (simp only [List.length_map]; omega)) (hv : xs.take a.toNat = ys := by first | exact (List.map_take ..).symm | rfl) (ht : (a.toNat == c.toNat) = tt := by first | exact beq_self_eq_true _ | rfl) : WO P p n ops (i :: is) ⟨env, nx, h⟩ K :=
  WO_op (o := ⟨dst, .slice t x none (some y) (some w), ty, pos, af, g⟩) (hint := none) (res := ⟨[], [], (.sl tt ys), 0⟩) ho hw (by subst hv; subst ht; unfold okSlT at hs; obtain ⟨b1, b2, b3⟩ := hb; have b4 : (0:Int) ≤ c ∧ (0:Int) ≤ a := ⟨by omega, by omega⟩; have b6 : c ≤ a → c ≤ max a 0 := (by omega); have b7 : a ≤ c → a ≤ max c 0 := (by omega); simp [opF, sliceF, okSl, hx, hs, hy, highB, lowB, bound, val, b1, b2, b3, b4.1, b4.2, b6, b7, hz, hl]) (by simp) kk

theorem WO_sliceSTo {x y : Operand} {t : TypeId} {s : ByteArray} {k : IntKind} {a : Int} (hs : isStr P t = true)
    (kk : WO P p n ops is ⟨putE env dst (.v (.string (s.extract 0 a.toNat))), nx, h⟩ (fun acts so => K (.fin [] [] :: acts) so))
    (ho : ops[i]? = some ⟨dst, .slice t x none (some y) none, ty, pos, af, g⟩ := by rfl) (hw : Region.wanted ⟨dst, .slice t x none (some y) none, ty, pos, af, g⟩ (yieldE ops n env) = true := by rfl)
    (hx : evO n env x = (.v (.string s)) := by rfl) (hy : evO n env y = (.v (.int k a)) := by rfl) (hb : 0 ≤ a ∧ a ≤ s.size := by first | omega | (simp only [List.length_map]; omega)) : WO P p n ops (i :: is) ⟨env, nx, h⟩ K :=
  WO_op (o := ⟨dst, .slice t x none (some y) none, ty, pos, af, g⟩) (hint := none) (res := ⟨[], [], (.v (.string (s.extract 0 a.toNat))), 0⟩) ho hw (by obtain ⟨b1, b2⟩ := hb; simp [opF, sliceF, okSl, hx, hs, hy, highB, lowB, bound, val, b1, b2]) (by simp) kk

theorem WO_sliceSFrom {x y : Operand} {t : TypeId} {s : ByteArray} {k : IntKind} {a : Int} (hs : isStr P t = true)
    (kk : WO P p n ops is ⟨putE env dst (.v (.string (s.extract a.toNat s.size))), nx, h⟩ (fun acts so => K (.fin [] [] :: acts) so))
    (ho : ops[i]? = some ⟨dst, .slice t x (some y) none none, ty, pos, af, g⟩ := by rfl) (hw : Region.wanted ⟨dst, .slice t x (some y) none none, ty, pos, af, g⟩ (yieldE ops n env) = true := by rfl)
    (hx : evO n env x = (.v (.string s)) := by rfl) (hy : evO n env y = (.v (.int k a)) := by rfl) (hb : 0 ≤ a ∧ a ≤ s.size := by first | omega | (simp only [List.length_map]; omega)) : WO P p n ops (i :: is) ⟨env, nx, h⟩ K :=
  WO_op (o := ⟨dst, .slice t x (some y) none none, ty, pos, af, g⟩) (hint := none) (res := ⟨[], [], (.v (.string (s.extract a.toNat s.size))), 0⟩) ho hw (by obtain ⟨b1, b2⟩ := hb; simp [opF, sliceF, okSl, hx, hs, hy, highB, lowB, bound, val, b1, b2]) (by simp) kk

theorem WO_sliceSBoth {x y w : Operand} {t : TypeId} {s : ByteArray} {k k' : IntKind} {a c : Int} (hs : isStr P t = true)
    (kk : WO P p n ops is ⟨putE env dst (.v (.string (s.extract c.toNat a.toNat))), nx, h⟩ (fun acts so => K (.fin [] [] :: acts) so))
    (ho : ops[i]? = some ⟨dst, .slice t x (some w) (some y) none, ty, pos, af, g⟩ := by rfl) (hw : Region.wanted ⟨dst, .slice t x (some w) (some y) none, ty, pos, af, g⟩ (yieldE ops n env) = true := by rfl)
    (hx : evO n env x = (.v (.string s)) := by rfl) (hl : evO n env w = (.v (.int k' c)) := by rfl) (hy : evO n env y = (.v (.int k a)) := by rfl) (hb : 0 ≤ c ∧ c ≤ a ∧ a ≤ s.size := by first | omega | (simp only [List.length_map]; omega)) : WO P p n ops (i :: is) ⟨env, nx, h⟩ K :=
  WO_op (o := ⟨dst, .slice t x (some w) (some y) none, ty, pos, af, g⟩) (hint := none) (res := ⟨[], [], (.v (.string (s.extract c.toNat a.toNat))), 0⟩) ho hw (by obtain ⟨b1, b2, b3⟩ := hb; have b4 : (0:Int) ≤ c ∧ (0:Int) ≤ a := ⟨by omega, by omega⟩; have b6 : c ≤ a → c ≤ max a 0 := (by omega); have b7 : a ≤ c → a ≤ max c 0 := (by omega); simp [opF, sliceF, okSl, hx, hs, hy, highB, lowB, bound, val, b1, b2, b3, b4.1, b4.2, b6, b7, hl]) (by simp) kk

theorem WO_sliceRFrom {x y : Operand} {t : TypeId} {tk : Tok} {ver off len : Nat} {xs : List PV} {sz : Nat} {k : IntKind} {a : Int} (hs : okSlT P t = some sz)
    (kk : WO P p n ops is ⟨putE env dst (.ref tk ver (off + a.toNat) (len - a.toNat)), nx, h⟩ (fun acts so => K (.fin [(tk, ⟨ver, sz, xs⟩)] [] :: acts) so))
    (ho : ops[i]? = some ⟨dst, .slice t x (some y) none none, ty, pos, af, g⟩ := by rfl) (hw : Region.wanted ⟨dst, .slice t x (some y) none none, ty, pos, af, g⟩ (yieldE ops n env) = true := by rfl)
    (hx : evO n env x = (.ref tk ver off len) := by rfl) (hy : evO n env y = (.v (.int k a)) := by rfl) (hr : h tk = some ⟨ver, sz, xs⟩ := by (repeat (first | refine look_ne (by omega) ?_ | refine look_pn (by assumption) ?_ | refine look_np (by assumption) ?_ | refine look_del (by omega) ?_ | refine look_delp (by assumption) ?_)); first | with_reducible assumption | exact look_eq | assumption) (hb : 0 ≤ a ∧ a ≤ len := by first | omega | (simp only [List.length_map]; omega)) : WO P p n ops (i :: is) ⟨env, nx, h⟩ K :=
  WO_op (o := ⟨dst, .slice t x (some y) none none, ty, pos, af, g⟩) (hint := none) (res := ⟨[(tk, ⟨ver, sz, xs⟩)], [], (.ref tk ver (off + a.toNat) (len - a.toNat)), 0⟩) ho hw (by unfold okSlT at hs; obtain ⟨b1, b2⟩ := hb; simp [opF, sliceF, okSl, hx, hs, hy, highB, lowB, bound, val, b1, b2, rowAt_ver hr]) (by simp [hr]) kk

theorem WO_sliceRTo {x y : Operand} {t : TypeId} {tk : Tok} {ver off len : Nat} {xs : List PV} {sz : Nat} {k : IntKind} {a : Int} (hs : okSlT P t = some sz)
    (kk : WO P p n ops is ⟨putE env dst (.ref tk ver off a.toNat), nx, h⟩ (fun acts so => K (.fin [(tk, ⟨ver, sz, xs⟩)] [] :: acts) so))
    (ho : ops[i]? = some ⟨dst, .slice t x none (some y) none, ty, pos, af, g⟩ := by rfl) (hw : Region.wanted ⟨dst, .slice t x none (some y) none, ty, pos, af, g⟩ (yieldE ops n env) = true := by rfl)
    (hx : evO n env x = (.ref tk ver off len) := by rfl) (hy : evO n env y = (.v (.int k a)) := by rfl) (hr : h tk = some ⟨ver, sz, xs⟩ := by (repeat (first | refine look_ne (by omega) ?_ | refine look_pn (by assumption) ?_ | refine look_np (by assumption) ?_ | refine look_del (by omega) ?_ | refine look_delp (by assumption) ?_)); first | with_reducible assumption | exact look_eq | assumption) (hb : 0 ≤ a ∧ a ≤ len := by first | omega | (simp only [List.length_map]; omega)) : WO P p n ops (i :: is) ⟨env, nx, h⟩ K :=
  WO_op (o := ⟨dst, .slice t x none (some y) none, ty, pos, af, g⟩) (hint := none) (res := ⟨[(tk, ⟨ver, sz, xs⟩)], [], (.ref tk ver off a.toNat), 0⟩) ho hw (by unfold okSlT at hs; obtain ⟨b1, b2⟩ := hb; simp [opF, sliceF, okSl, hx, hs, hy, highB, lowB, bound, val, b1, b2, rowAt_ver hr]) (by simp [hr]) kk

theorem WO_alloc {t : TypeId} {s : Nat} {z : PV} (hs : szOf P t = some s) (hz : zeroOf P t = some z)
    (kk : WO P p n ops is ⟨putE env dst (.ptr (p ++ [nx]) 0 0 0), nx + 1, upd h (p ++ [nx]) ⟨0, s, [z]⟩⟩ (fun acts so => K (.fin [] [((p ++ [nx]), ⟨0, s, [z]⟩)] :: acts) so))
    (ho : ops[i]? = some ⟨dst, .alloc t, ty, pos, af, g⟩ := by rfl) (hw : Region.wanted ⟨dst, .alloc t, ty, pos, af, g⟩ (yieldE ops n env) = true := by rfl)
     : WO P p n ops (i :: is) ⟨env, nx, h⟩ K :=
  WO_op (o := ⟨dst, .alloc t, ty, pos, af, g⟩) (hint := none) (res := ⟨[], [((p ++ [nx]), ⟨0, s, [z]⟩)], (.ptr (p ++ [nx]) 0 0 0), 1⟩) ho hw (by simp [opF, hs, hz]) (by simp) kk

theorem WO_box {x : Operand} {t : TypeId} {s : Nat} {v : PV} (hs : szOf P t = some s)
    (kk : WO P p n ops is ⟨putE env dst (.ptr (p ++ [nx]) 0 0 0), nx + 1, upd h (p ++ [nx]) ⟨0, s, [v]⟩⟩ (fun acts so => K (.fin [] [((p ++ [nx]), ⟨0, s, [v]⟩)] :: acts) so))
    (ho : ops[i]? = some ⟨dst, .box t x, ty, pos, af, g⟩ := by rfl) (hw : Region.wanted ⟨dst, .box t x, ty, pos, af, g⟩ (yieldE ops n env) = true := by rfl)
    (hx : evO n env x = v := by conv => lhs; whnf) (h1 : v.cells.length = s ∧ v.cells.all PV.one = true := by first | exact ⟨rfl, rfl⟩ | simp [PV.cells, PV.one]) : WO P p n ops (i :: is) ⟨env, nx, h⟩ K :=
  WO_op (o := ⟨dst, .box t x, ty, pos, af, g⟩) (hint := none) (res := ⟨[], [((p ++ [nx]), ⟨0, s, [v]⟩)], (.ptr (p ++ [nx]) 0 0 0), 1⟩) ho hw (by simp only [opF, hs, hx]; rw [if_pos h1]) (by simp) kk

theorem WO_loadS {a : Operand} {t : TypeId} {tk : Tok} {ver j sz s : Nat} {xs cs : List PV} (hs : szOf P t = some s) (hg : aggT P t = some true)
    (kk : WO P p n ops is ⟨putE env dst (.agg cs), nx, h⟩ (fun acts so => K (.fin [(tk, ⟨ver, sz, xs⟩)] [] :: acts) so))
    (ho : ops[i]? = some ⟨dst, .load t a, ty, pos, af, g⟩ := by rfl) (hw : Region.wanted ⟨dst, .load t a, ty, pos, af, g⟩ (yieldE ops n env) = true := by rfl)
    (ha : evO n env a = (.ptr tk ver j 0) := by rfl) (hr : h tk = some ⟨ver, sz, xs⟩ := by (repeat (first | refine look_ne (by omega) ?_ | refine look_pn (by assumption) ?_ | refine look_np (by assumption) ?_ | refine look_del (by omega) ?_ | refine look_delp (by assumption) ?_)); first | with_reducible assumption | exact look_eq | assumption) (hj : xs[j]? = some (.agg cs) := by first | rfl | simp [*]) (hl : cs.length = s := by rfl) : WO P p n ops (i :: is) ⟨env, nx, h⟩ K :=
  WO_op (o := ⟨dst, .load t a, ty, pos, af, g⟩) (hint := none) (res := ⟨[(tk, ⟨ver, sz, xs⟩)], [], (.agg cs), 0⟩) ho hw (by subst hl; simp [opF, loadF, hs, hg, ha, rowAt_ver hr, hj, PV.cells]) (by simp [hr]) kk

theorem WO_load1 {a : Operand} {t : TypeId} {tk : Tok} {ver j f sz s : Nat} {xs : List PV} {e c : PV} (hs : szOf P t = some s) (hg : aggT P t = some false)
    (kk : WO P p n ops is ⟨putE env dst c, nx, h⟩ (fun acts so => K (.fin [(tk, ⟨ver, sz, xs⟩)] [] :: acts) so))
    (ho : ops[i]? = some ⟨dst, .load t a, ty, pos, af, g⟩ := by rfl) (hw : Region.wanted ⟨dst, .load t a, ty, pos, af, g⟩ (yieldE ops n env) = true := by rfl)
    (ha : evO n env a = (.ptr tk ver j f) := by rfl) (hr : h tk = some ⟨ver, sz, xs⟩ := by (repeat (first | refine look_ne (by omega) ?_ | refine look_pn (by assumption) ?_ | refine look_np (by assumption) ?_ | refine look_del (by omega) ?_ | refine look_delp (by assumption) ?_)); first | with_reducible assumption | exact look_eq | assumption) (hj : xs[j]? = some e := by first | rfl | simp [*]) (hv : e.cells[f]? = some c := by rfl) : WO P p n ops (i :: is) ⟨env, nx, h⟩ K :=
  WO_op (o := ⟨dst, .load t a, ty, pos, af, g⟩) (hint := none) (res := ⟨[(tk, ⟨ver, sz, xs⟩)], [], c, 0⟩) ho hw (by simp [opF, loadF, hs, hg, ha, rowAt_ver hr, hj, hv]) (by simp [hr]) kk

theorem WO_loadP {a : Operand} {t : TypeId} {tk : Tok} {ver j f sz s : Nat} {xs cs : List PV} {e : PV} (hs : szOf P t = some s) (hg : aggT P t = some true)
    (kk : WO P p n ops is ⟨putE env dst (.agg cs), nx, h⟩ (fun acts so => K (.fin [(tk, ⟨ver, sz, xs⟩)] [] :: acts) so))
    (ho : ops[i]? = some ⟨dst, .load t a, ty, pos, af, g⟩ := by rfl) (hw : Region.wanted ⟨dst, .load t a, ty, pos, af, g⟩ (yieldE ops n env) = true := by rfl)
    (ha : evO n env a = (.ptr tk ver j f) := by rfl) (hr : h tk = some ⟨ver, sz, xs⟩ := by (repeat (first | refine look_ne (by omega) ?_ | refine look_pn (by assumption) ?_ | refine look_np (by assumption) ?_ | refine look_del (by omega) ?_ | refine look_delp (by assumption) ?_)); first | with_reducible assumption | exact look_eq | assumption) (hj : xs[j]? = some e := by first | rfl | simp [*]) (hb : f + s ≤ e.cells.length := by exact Nat.le_of_ble_eq_true rfl) (hv : (e.cells.drop f).take s = cs := by rfl) : WO P p n ops (i :: is) ⟨env, nx, h⟩ K :=
  WO_op (o := ⟨dst, .load t a, ty, pos, af, g⟩) (hint := none) (res := ⟨[(tk, ⟨ver, sz, xs⟩)], [], (.agg cs), 0⟩) ho hw (by subst hv; simp [opF, loadF, hs, hg, ha, rowAt_ver hr, hj, hb]) (by simp [hr]) kk

theorem WO_store {a x : Operand} {t : TypeId} {tk : Tok} {ver j f sz s : Nat} {xs ys cs : List PV} {v : PV} (hs : szOf P t = some s)
    (kk : WO P p n ops is ⟨putE env dst (.v undef), nx, upd h tk ⟨ver, sz, ys⟩⟩ (fun acts so => K (.fin [(tk, ⟨ver, sz, xs⟩)] [(tk, ⟨ver, sz, ys⟩)] :: acts) so))
    (ho : ops[i]? = some ⟨dst, .store t a x, ty, pos, af, g⟩ := by rfl) (hw : Region.wanted ⟨dst, .store t a x, ty, pos, af, g⟩ (yieldE ops n env) = true := by rfl)
    (ha : evO n env a = (.ptr tk ver j f) := by rfl) (hx : evO n env x = v := by conv => lhs; whnf) (hr : h tk = some ⟨ver, sz, xs⟩ := by (repeat (first | refine look_ne (by omega) ?_ | refine look_pn (by assumption) ?_ | refine look_np (by assumption) ?_ | refine look_del (by omega) ?_ | refine look_delp (by assumption) ?_)); first | with_reducible assumption | exact look_eq | assumption) (hj : xs[j]? = some (.agg cs) := by first | rfl | simp [*]) (h1 : v.cells.length = s ∧ f + s ≤ cs.length ∧ v.cells.all PV.one = true := by first | exact ⟨rfl, Nat.le_of_ble_eq_true rfl, rfl⟩ | simp [PV.cells, PV.one]) (hv : xs.set j (.agg (over cs f v.cells)) = ys := by rfl) : WO P p n ops (i :: is) ⟨env, nx, h⟩ K :=
  WO_op (o := ⟨dst, .store t a x, ty, pos, af, g⟩) (hint := none) (res := ⟨[(tk, ⟨ver, sz, xs⟩)], [(tk, ⟨ver, sz, ys⟩)], (.v undef), 0⟩) ho hw (by subst hv; simp only [opF, storeF, hs, ha, hx, rowAt_ver hr, hj]; rw [if_pos h1]) (by simp [hr]) kk

theorem WO_store1 {a x : Operand} {t : TypeId} {tk : Tok} {ver j sz : Nat} {xs ys : List PV} {e v : PV} (hs : szOf P t = some 1)
    (kk : WO P p n ops is ⟨putE env dst (.v undef), nx, upd h tk ⟨ver, sz, ys⟩⟩ (fun acts so => K (.fin [(tk, ⟨ver, sz, xs⟩)] [(tk, ⟨ver, sz, ys⟩)] :: acts) so))
    (ho : ops[i]? = some ⟨dst, .store t a x, ty, pos, af, g⟩ := by rfl) (hw : Region.wanted ⟨dst, .store t a x, ty, pos, af, g⟩ (yieldE ops n env) = true := by rfl)
    (ha : evO n env a = (.ptr tk ver j 0) := by rfl) (hx : evO n env x = v := by conv => lhs; whnf) (hr : h tk = some ⟨ver, sz, xs⟩ := by (repeat (first | refine look_ne (by omega) ?_ | refine look_pn (by assumption) ?_ | refine look_np (by assumption) ?_ | refine look_del (by omega) ?_ | refine look_delp (by assumption) ?_)); first | with_reducible assumption | exact look_eq | assumption) (hj : xs[j]? = some e := by first | rfl | simp [*]) (h1 : e.isAgg = false ∧ v.isAgg = false ∧ v.one = true := by exact ⟨rfl, rfl, rfl⟩) (hv : xs.set j v = ys := by rfl) : WO P p n ops (i :: is) ⟨env, nx, h⟩ K :=
  WO_op (o := ⟨dst, .store t a x, ty, pos, af, g⟩) (hint := none) (res := ⟨[(tk, ⟨ver, sz, xs⟩)], [(tk, ⟨ver, sz, ys⟩)], (.v undef), 0⟩) ho hw (by subst hv; simp only [opF, storeF, hs, ha, hx, rowAt_ver hr, hj]; obtain ⟨q1, q2, q3⟩ := h1; cases e <;> simp_all [PV.isAgg]) (by simp [hr]) kk

theorem WO_nilP {x : Operand} {tk : Tok} {ver j f sz : Nat} {xs : List PV} 
    (kk : WO P p n ops is ⟨putE env dst (.ptr tk ver j f), nx, h⟩ (fun acts so => K (.fin [(tk, ⟨ver, sz, xs⟩)] [] :: acts) so))
    (ho : ops[i]? = some ⟨dst, .nilCheck x, ty, pos, af, g⟩ := by rfl) (hw : Region.wanted ⟨dst, .nilCheck x, ty, pos, af, g⟩ (yieldE ops n env) = true := by rfl)
    (hx : evO n env x = (.ptr tk ver j f) := by rfl) (hr : h tk = some ⟨ver, sz, xs⟩ := by (repeat (first | refine look_ne (by omega) ?_ | refine look_pn (by assumption) ?_ | refine look_np (by assumption) ?_ | refine look_del (by omega) ?_ | refine look_delp (by assumption) ?_)); first | with_reducible assumption | exact look_eq | assumption) : WO P p n ops (i :: is) ⟨env, nx, h⟩ K :=
  WO_op (o := ⟨dst, .nilCheck x, ty, pos, af, g⟩) (hint := none) (res := ⟨[(tk, ⟨ver, sz, xs⟩)], [], (.ptr tk ver j f), 0⟩) ho hw (by simp [opF, hx, rowAt_ver hr]) (by simp [hr]) kk

theorem WO_nilI {x : Operand} {cs : List PV} 
    (kk : WO P p n ops is ⟨putE env dst (.iptr cs), nx, h⟩ (fun acts so => K (.fin [] [] :: acts) so))
    (ho : ops[i]? = some ⟨dst, .nilCheck x, ty, pos, af, g⟩ := by rfl) (hw : Region.wanted ⟨dst, .nilCheck x, ty, pos, af, g⟩ (yieldE ops n env) = true := by rfl)
    (hx : evO n env x = (.iptr cs) := by rfl) : WO P p n ops (i :: is) ⟨env, nx, h⟩ K :=
  WO_op (o := ⟨dst, .nilCheck x, ty, pos, af, g⟩) (hint := none) (res := ⟨[], [], (.iptr cs), 0⟩) ho hw (by simp [opF, hx, val]) (by simp) kk

theorem WO_nilC {x : Operand} {f : FuncId} {cs : List PV} 
    (kk : WO P p n ops is ⟨putE env dst (.clo f cs), nx, h⟩ (fun acts so => K (.fin [] [] :: acts) so))
    (ho : ops[i]? = some ⟨dst, .nilCheck x, ty, pos, af, g⟩ := by rfl) (hw : Region.wanted ⟨dst, .nilCheck x, ty, pos, af, g⟩ (yieldE ops n env) = true := by rfl)
    (hx : evO n env x = (.clo f cs) := by rfl) : WO P p n ops (i :: is) ⟨env, nx, h⟩ K :=
  WO_op (o := ⟨dst, .nilCheck x, ty, pos, af, g⟩) (hint := none) (res := ⟨[], [], (.clo f cs), 0⟩) ho hw (by simp [opF, hx, val]) (by simp) kk

theorem WO_fieldP {x : Operand} {t : TypeId} {f off o2 : Nat} {tk : Tok} {ver j gg sz : Nat} {xs : List PV} (hf : faOf P t f = some off)
    (kk : WO P p n ops is ⟨putE env dst (.ptr tk ver j o2), nx, h⟩ (fun acts so => K (.fin [(tk, ⟨ver, sz, xs⟩)] [] :: acts) so))
    (ho : ops[i]? = some ⟨dst, .fieldAddr t x f, ty, pos, af, g⟩ := by rfl) (hw : Region.wanted ⟨dst, .fieldAddr t x f, ty, pos, af, g⟩ (yieldE ops n env) = true := by rfl)
    (hx : evO n env x = (.ptr tk ver j gg) := by rfl) (hr : h tk = some ⟨ver, sz, xs⟩ := by (repeat (first | refine look_ne (by omega) ?_ | refine look_pn (by assumption) ?_ | refine look_np (by assumption) ?_ | refine look_del (by omega) ?_ | refine look_delp (by assumption) ?_)); first | with_reducible assumption | exact look_eq | assumption) (hd : gg + off = o2 := by rfl) : WO P p n ops (i :: is) ⟨env, nx, h⟩ K :=
  WO_op (o := ⟨dst, .fieldAddr t x f, ty, pos, af, g⟩) (hint := none) (res := ⟨[(tk, ⟨ver, sz, xs⟩)], [], (.ptr tk ver j o2), 0⟩) ho hw (by obtain ⟨ft, e1, e2⟩ := faOf_spec hf; subst hd; simp only [opF, e1, hx]; rw [if_neg e2]; simp [rowAt_ver hr]) (by simp [hr]) kk

theorem WO_app {x y : Operand} {t t' el : TypeId} {sz : Nat} {xs ys : List PV} {b : Bool} (ht : (slElem P t').isSome = true) (he : slElem P t = some el) (hs : szOf P el = some sz) (hz : (zeroOf P el).isSome = true) (hb : bytesOf P el ≤ 64 ∧ 0 < sz) (hl : xs.length + ys.length ≤ 1099511627776) (ho1 : okSz sz xs = true) (ho2 : okSz sz ys = true)
    (kk : WO P p n ops is ⟨putE env dst (.sl false (xs ++ ys)), nx, h⟩ (fun acts so => K (.fin [] [] :: acts) so))
    (ho : ops[i]? = some ⟨dst, .call ⟨.builtin .append, #[x, y], #[t, t']⟩, ty, pos, af, g⟩ := by rfl) (hw : Region.wanted ⟨dst, .call ⟨.builtin .append, #[x, y], #[t, t']⟩, ty, pos, af, g⟩ (yieldE ops n env) = true := by rfl)
    (hx : evO n env x = (.sl true xs) := by rfl) (hy : evO n env y = (.sl b ys) := by rfl) : WO P p n ops (i :: is) ⟨env, nx, h⟩ K :=
  WO_op (o := ⟨dst, .call ⟨.builtin .append, #[x, y], #[t, t']⟩, ty, pos, af, g⟩) (hint := none) (res := ⟨[], [], (.sl false (xs ++ ys)), 0⟩) ho hw (by have hl' : xs.length + ys.length ≤ LIM := hl; simp [opF, appendF, elemsOf, hl', ht, he, hs, hz, hb, hx, hy, hl, ho1, ho2]) (by simp) kk

theorem WO_appNew {x y : Operand} {t t' el : TypeId} {sz : Nat} {ys : List PV} {b : Bool} (ht : (slElem P t').isSome = true) (he : slElem P t = some el) (hs : szOf P el = some sz) (hz : (zeroOf P el).isSome = true) (hb : bytesOf P el ≤ 64 ∧ 0 < sz) (hl : ys.length ≤ 1099511627776) (ho2 : okSz sz ys = true)
    (kk : WO P p n ops is ⟨putE env dst (.ref (p ++ [nx]) 0 0 ys.length), nx + 1, upd h (p ++ [nx]) ⟨0, sz, ys⟩⟩ (fun acts so => K (.fin [] [((p ++ [nx]), ⟨0, sz, ys⟩)] :: acts) so))
    (ho : ops[i]? = some ⟨dst, .call ⟨.builtin .append, #[x, y], #[t, t']⟩, ty, pos, af, g⟩ := by rfl) (hw : Region.wanted ⟨dst, .call ⟨.builtin .append, #[x, y], #[t, t']⟩, ty, pos, af, g⟩ (yieldE ops n env) = true := by rfl)
    (hx : evO n env x = (.sl true []) := by rfl) (hy : evO n env y = (.sl b ys) := by rfl) : WO P p n ops (i :: is) ⟨env, nx, h⟩ K :=
  WO_op (o := ⟨dst, .call ⟨.builtin .append, #[x, y], #[t, t']⟩, ty, pos, af, g⟩) (hint := some 0) (res := ⟨[], [((p ++ [nx]), ⟨0, sz, ys⟩)], (.ref (p ++ [nx]) 0 0 ys.length), 1⟩) ho hw (by have hl' : 0 + ys.length ≤ LIM := by { rw [Nat.zero_add]; exact hl }; simp only [opF, appendF, elemsOf, Array.toList, ht, he, hs, hx, hy, ho2, hz, hb, decide_true, Bool.and_self, if_true, List.length_nil]; rw [if_pos ⟨hl', by rfl⟩]) (by simp) kk

theorem WO_appRow {x y : Operand} {t t' el : TypeId} {sz : Nat} {tk : Tok} {ver len m : Nat} {xs ys : List PV} {b : Bool} (ht : (slElem P t').isSome = true) (he : slElem P t = some el) (hs : szOf P el = some sz) (hz : (zeroOf P el).isSome = true) (hb : bytesOf P el ≤ 64 ∧ 0 < sz) (hl : len + ys.length ≤ 1099511627776) (ho2 : okSz sz ys = true)
    (kk : WO P p n ops is ⟨putE env dst (.ref tk (ver + 1) 0 m), nx, upd h tk ⟨ver + 1, sz, xs ++ ys⟩⟩ (fun acts so => K (.fin [(tk, ⟨ver, sz, xs⟩)] [(tk, ⟨ver + 1, sz, xs ++ ys⟩)] :: acts) so))
    (ho : ops[i]? = some ⟨dst, .call ⟨.builtin .append, #[x, y], #[t, t']⟩, ty, pos, af, g⟩ := by rfl) (hw : Region.wanted ⟨dst, .call ⟨.builtin .append, #[x, y], #[t, t']⟩, ty, pos, af, g⟩ (yieldE ops n env) = true := by rfl)
    (hx : evO n env x = (.ref tk ver 0 len) := by rfl) (hy : evO n env y = (.sl b ys) := by rfl) (hr : h tk = some ⟨ver, sz, xs⟩ := by (repeat (first | refine look_ne (by omega) ?_ | refine look_pn (by assumption) ?_ | refine look_np (by assumption) ?_ | refine look_del (by omega) ?_ | refine look_delp (by assumption) ?_)); first | with_reducible assumption | exact look_eq | assumption) (hn : xs.length = len := by first | assumption | simp | simp [*]) (hm : len + ys.length = m := by rfl) : WO P p n ops (i :: is) ⟨env, nx, h⟩ K :=
  WO_op (o := ⟨dst, .call ⟨.builtin .append, #[x, y], #[t, t']⟩, ty, pos, af, g⟩) (hint := none) (res := ⟨[(tk, ⟨ver, sz, xs⟩)], [(tk, ⟨ver + 1, sz, xs ++ ys⟩)], (.ref tk (ver + 1) 0 m), 0⟩) ho hw (by have hl' : len + ys.length ≤ LIM := hl; subst hm; subst hn; simp [opF, appendF, elemsOf, rowAt_ver hr, hl', ht, he, hs, hx, hy, ho2, hz, hb]) (by simp [hr]) kk

theorem WO_max2 {x y : Operand} {ts : Array TypeId} {k : IntKind} {a b : Int} 
    (kk : WO P p n ops is ⟨putE env dst (.v (.int k (if b > a then b else a))), nx, h⟩ (fun acts so => K (.fin [] [] :: acts) so))
    (ho : ops[i]? = some ⟨dst, .call ⟨.builtin .max, #[x, y], ts⟩, ty, pos, af, g⟩ := by rfl) (hw : Region.wanted ⟨dst, .call ⟨.builtin .max, #[x, y], ts⟩, ty, pos, af, g⟩ (yieldE ops n env) = true := by rfl)
    (hx : evO n env x = (.v (.int k a)) := by rfl) (hy : evO n env y = (.v (.int k b)) := by rfl) : WO P p n ops (i :: is) ⟨env, nx, h⟩ K :=
  WO_op (o := ⟨dst, .call ⟨.builtin .max, #[x, y], ts⟩, ty, pos, af, g⟩) (hint := none) (res := ⟨[], [], (.v (.int k (if b > a then b else a))), 0⟩) ho hw (by simp [opF, val, foldV, hx, hy]) (by simp) kk

theorem WO_min2 {x y : Operand} {ts : Array TypeId} {k : IntKind} {a b : Int} 
    (kk : WO P p n ops is ⟨putE env dst (.v (.int k (if b < a then b else a))), nx, h⟩ (fun acts so => K (.fin [] [] :: acts) so))
    (ho : ops[i]? = some ⟨dst, .call ⟨.builtin .min, #[x, y], ts⟩, ty, pos, af, g⟩ := by rfl) (hw : Region.wanted ⟨dst, .call ⟨.builtin .min, #[x, y], ts⟩, ty, pos, af, g⟩ (yieldE ops n env) = true := by rfl)
    (hx : evO n env x = (.v (.int k a)) := by rfl) (hy : evO n env y = (.v (.int k b)) := by rfl) : WO P p n ops (i :: is) ⟨env, nx, h⟩ K :=
  WO_op (o := ⟨dst, .call ⟨.builtin .min, #[x, y], ts⟩, ty, pos, af, g⟩) (hint := none) (res := ⟨[], [], (.v (.int k (if b < a then b else a))), 0⟩) ho hw (by simp [opF, val, foldV, hx, hy]) (by simp) kk

/-! ### calls -/
/-- what a function gives, whatever lies in the rows -/
def Gives (P : Program) (f : FuncId) (args : List PV) (r : PV) : Prop := ∀ p h, Run P (.fn f args p h r h)
theorem WO_callN {x : Operand} {args : Array Operand} {ats : Array TypeId} {f : FuncId} {caps : List PV} {r : PV} (hc : Gives P f (args.toList.map (evO n env) ++ caps) r)
    (kk : WO P p n ops is ⟨putE env dst r, nx + 1, h⟩ (fun acts so => K (.fin [] [] :: acts) so))
    (ho : ops[i]? = some ⟨dst, .call ⟨.value x, args, ats⟩, ty, pos, af, g⟩ := by rfl) (hw : Region.wanted ⟨dst, .call ⟨.value x, args, ats⟩, ty, pos, af, g⟩ (yieldE ops n env) = true := by rfl)
    (hf : evO n env x = .clo f caps := by rfl) : WO P p n ops (i :: is) ⟨env, nx, h⟩ K := by
  obtain ⟨acts, st', h1, h2⟩ := kk
  exact ⟨_, _, .ocallN (o := ⟨dst, .call ⟨.value x, args, ats⟩, ty, pos, af, g⟩) ho hw rfl hf (fun h => hc _ h) h1, h2⟩
theorem WO_callA {x : Operand} {args : Array Operand} {ats : Array TypeId} {f : FuncId} {caps : List PV} {r : PV} {l : List (Tok × Row)} (hc : ∀ h, Run P (.fn f (args.toList.map (evO n env) ++ caps) (p ++ [nx]) h r (upds h l)))
    (kk : WO P p n ops is ⟨putE env dst r, nx + 1, upds h l⟩ (fun acts so => K (.fin [] l :: acts) so))
    (ho : ops[i]? = some ⟨dst, .call ⟨.value x, args, ats⟩, ty, pos, af, g⟩ := by rfl) (hw : Region.wanted ⟨dst, .call ⟨.value x, args, ats⟩, ty, pos, af, g⟩ (yieldE ops n env) = true := by rfl)
    (hf : evO n env x = .clo f caps := by rfl) : WO P p n ops (i :: is) ⟨env, nx, h⟩ K := by
  obtain ⟨acts, st', h1, h2⟩ := kk
  exact ⟨_, _, .ocallA (o := ⟨dst, .call ⟨.value x, args, ats⟩, ty, pos, af, g⟩) ho hw rfl hf hc h1, h2⟩
theorem WO_callX {x : Operand} {args : Array Operand} {ats : Array TypeId} {f : FuncId} {caps : List PV} {r : PV} {h1 : H} (hc : Run P (.fn f (args.toList.map (evO n env) ++ caps) (p ++ [nx]) h r h1))
    (kk : WO P p n ops is ⟨putE env dst r, nx + 1, h1⟩ (fun acts so => K (.ca h h1 :: acts) so))
    (ho : ops[i]? = some ⟨dst, .call ⟨.value x, args, ats⟩, ty, pos, af, g⟩ := by rfl) (hw : Region.wanted ⟨dst, .call ⟨.value x, args, ats⟩, ty, pos, af, g⟩ (yieldE ops n env) = true := by rfl)
    (hf : evO n env x = .clo f caps := by rfl) : WO P p n ops (i :: is) ⟨env, nx, h⟩ K := by
  obtain ⟨acts, st', k1, k2⟩ := kk
  exact ⟨_, _, .ocallX (o := ⟨dst, .call ⟨.value x, args, ats⟩, ty, pos, af, g⟩) ho hw rfl hf hc k1, k2⟩
theorem WO_callL {x : Operand} {args : Array Operand} {ats : Array TypeId} {f : FuncId} {caps : List PV} {r r1 : PV} {h1 : H} {as : List PV} (S : List (Tok × Row)) (hS : ∀ q ∈ S, h q.1 = some q.2) (hfv : FVs h (S.map Prod.fst) (args.toList.map (evO n env) ++ caps) as) (hc : Run P (.fn f as (p ++ [nx]) noH r1 h1)) (hfx : FX h1 r1 r)
    (kk : WO P p n ops is ⟨putE env dst r, nx + 1, h⟩ (fun acts so => K (.fin S [] :: acts) so))
    (ho : ops[i]? = some ⟨dst, .call ⟨.value x, args, ats⟩, ty, pos, af, g⟩ := by rfl) (hw : Region.wanted ⟨dst, .call ⟨.value x, args, ats⟩, ty, pos, af, g⟩ (yieldE ops n env) = true := by rfl)
    (hf : evO n env x = .clo f caps := by rfl) : WO P p n ops (i :: is) ⟨env, nx, h⟩ K := by
  obtain ⟨acts, st', k1, k2⟩ := kk
  exact ⟨_, _, .ocallL (o := ⟨dst, .call ⟨.value x, args, ats⟩, ty, pos, af, g⟩) ho hw rfl hf hS hfv hc hfx k1, k2⟩

/-! ### functions -/
theorem fn_of {f : FuncId} {args : List PV} {p : Tok} {h : H} {r : PV} {func : Func} {c : Code} {m : Nat} (hf : P.funcs[f]? = some func) 
    (hw : W P p m c ⟨env0 args, 0, h⟩ (fun ex s => (ex = .normal ∨ ex = .ret) ∧ retV P func m s = some r ∧ Keep p h s.h))
    (hb : func.body = some c := by rfl) (hn : (func.name == "runtime.NumGoroutine") = false := by rfl) (hm : max func.ntmps args.length = m := by conv => lhs; whnf) : Run P (.fn f args p h r h) := by
  obtain ⟨ex, s, h1, h2, h3, h4⟩ := hw
  subst hm
  exact .fn hf hb hn h1 h2 h3 (fun t => by
    rcases h4 t with e | e
    · exact .inl e.symm
    · exact .inr ⟨e, rfl⟩)
/-- rows of its own are read as lists at the end -/
theorem fn_frz {f : FuncId} {args : List PV} {p : Tok} {h : H} {r : PV} {func : Func} {c : Code} {m : Nat} (hf : P.funcs[f]? = some func) 
    (hw : W P p m c ⟨env0 args, 0, h⟩ (fun ex s => (ex = .normal ∨ ex = .ret) ∧ ∃ r0 S, retV P func m s = some r0 ∧ (∀ t ∈ S, p <+: t) ∧ FV s.h S r0 r ∧ Keep p h s.h))
    (hb : func.body = some c := by rfl) (hn : (func.name == "runtime.NumGoroutine") = false := by rfl) (hm : max func.ntmps args.length = m := by conv => lhs; whnf) : Run P (.fn f args p h r h) := by
  obtain ⟨ex, s, h1, h2, r0, S, h3, h4, h5, h6⟩ := hw
  subst hm
  classical
  refine Run.freeze (h1 := fun t => if t ∈ S then s.h t else h t) (S := S) (r := r0) (.fn hf hb hn h1 h2 h3 (fun t => ?_)) h4 (FV.mono (h := s.h) (fun t ht => by simp [ht]) h5) (fun t => ?_)
  · by_cases ht : t ∈ S
    · exact .inl (by simp [ht])
    · rcases h6 t with e | e
      · exact .inl (by simp [ht, e])
      · exact .inr ⟨e, by simp [ht]⟩
  · by_cases ht : t ∈ S <;> simp [ht]
end
end Go.Vs
