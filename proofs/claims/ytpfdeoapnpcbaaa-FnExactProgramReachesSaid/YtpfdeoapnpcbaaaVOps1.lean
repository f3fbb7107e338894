/-
  What is proved here: numbers, texts, comparisons, parts of values, for plain values.
  Conditions: none.
-/
import Derived.Test.YtpfdeoapnpcbaaaVMem
import Derived.Laws.StructEq
import Derived.Laws.Slices
set_option linter.unusedSectionVars false
namespace Go.Vs
set_option linter.unusedVariables false
set_option linter.unusedSimpArgs false

section
variable {P : Program}

theorem isStr_iff {t : TypeId} (h : isStr P t = true) : P.underlying t = some .string := by
  unfold isStr at h
  cases hu : P.underlying t with
  | none => simp [hu] at h
  | some d => simp only [hu] at h; cases d <;> first | rfl | simp at h
theorem isBool_iff {t : TypeId} (h : isBool P t = true) : P.underlying t = some .bool := by
  unfold isBool at h
  cases hu : P.underlying t with
  | none => simp [hu] at h
  | some d => simp only [hu] at h; cases d <;> first | rfl | simp at h
theorem intT_iff {t : TypeId} {k : IntKind} (h : intT P t = some k) : P.underlying t = some (.int k) := by
  unfold intT at h
  cases hu : P.underlying t with
  | none => simp [hu] at h
  | some d => simp only [hu] at h; cases d <;> simp at h; subst h; rfl
theorem slElem_iff {t e : TypeId} (h : slElem P t = some e) : P.underlying t = some (.slice e) := by
  unfold slElem at h
  cases hu : P.underlying t with
  | none => simp [hu] at h
  | some d => simp only [hu] at h; cases d <;> simp at h; subst h; rfl
theorem slElem_some {t : TypeId} (h : (slElem P t).isSome = true) : ∃ e, P.underlying t = some (.slice e) := by
  cases he : slElem P t with
  | none => simp [he] at h
  | some e => exact ⟨e, slElem_iff he⟩
theorem fldOf_iff {s f off ft} (h : fldOf P s f = some (off, ft)) : ∃ fs x, P.underlying s = some (.struct fs) ∧ fs[f]? = some x ∧ x.offset = off ∧ x.type = ft := by
  unfold fldOf at h
  cases hu : P.underlying s with
  | none => simp [hu] at h
  | some d =>
    simp only [hu] at h
    cases d <;> simp at h
    rename_i fs
    obtain ⟨x, h1, h2, h3⟩ := h
    exact ⟨fs, x, rfl, h1, h2, h3⟩

theorem bitsV_run {op : BinOp} {k : IntKind} {a b : Int} {r : Value} (h : bitsV op k a b = some r) (w : World) : (Op.intBits op k a b).run P w = .ok r w := by
  cases op <;> simp [bitsV] at h <;> subst h <;> simp [Op.intBits]

def bitsB : BinOp → Bool
  | .and | .or | .xor | .andNot => true
  | _ => false
theorem binOp_bits {t : TypeId} {k : IntKind} {a b : Int} (op : BinOp) (h : bitsB op = true) : binOp op t (.int k a) (.int k b) = Op.intBits op k a b := by
  cases op <;> first | (simp [bitsB] at h; done) | simp [binOp]

theorem binI_run {op : BinOp} {k : IntKind} {a b : Int} {t : TypeId} {r : Value} (h : binI op k a b = some r) (hs : op ≠ .shl) (hs' : op ≠ .shr) (w : World) : (binOp op t (.int k a) (.int k b)).run P w = .ok r w := by
  cases op with
  | shl => exact absurd rfl hs
  | shr => exact absurd rfl hs'
  | and => rw [binOp_bits .and rfl]; exact bitsV_run (op := .and) h w
  | or => rw [binOp_bits .or rfl]; exact bitsV_run (op := .or) h w
  | xor => rw [binOp_bits .xor rfl]; exact bitsV_run (op := .xor) h w
  | andNot => rw [binOp_bits .andNot rfl]; exact bitsV_run (op := .andNot) h w
  | quo =>
    simp only [binI] at h
    split at h
    · cases h
    · cases h; simp [binOp, Op.intDiv, *]
  | rem =>
    simp only [binI] at h
    split at h
    · cases h
    · cases h; simp [binOp, Op.intDiv, *]
  | _ => simp only [binI] at h; cases h; simp [binOp, Op.intArith, Op.intCmp]

theorem binS_run {op : BinOp} {a b : ByteArray} {t : TypeId} {r : Value} (h : binS op a b = some r) (w : World) : (binOp op t (.string a) (.string b)).run P w = .ok r w := by
  cases op with
  | add =>
    simp only [binS] at h
    split at h
    · cases h
    · cases h; simp only [binOp, Op.stringOp]; rw [if_neg ‹_›]; rfl
  | eql => cases h; rfl
  | neq => cases h; rfl
  | lss => cases h; rfl
  | leq => cases h; rfl
  | gtr => cases h; rfl
  | geq => cases h; rfl
  | _ => cases h

theorem binB_run {op : BinOp} {a b : Bool} {t : TypeId} {r : Value} (h : binV P op t (.bool a) (.bool b) = some r) (w : World) : (binOp op t (.bool a) (.bool b)).run P w = .ok r w := by
  simp only [binV] at h
  split at h
  · rename_i hb
    have hu := isBool_iff hb
    cases op with
    | eql => cases h; simp only [binOp, Sem.run_bind, run_equal_bool w t a b hu, Result.andThen_ok, Sem.run_pure]
    | neq => cases h; simp only [binOp, Sem.run_bind, run_equal_bool w t a b hu, Result.andThen_ok, Sem.run_pure]
    | _ => cases h
  · cases h

theorem binV_int {op : BinOp} {k k' : IntKind} {a b : Int} {t : TypeId} {r : Value} (h : binV P op t (.int k a) (.int k' b) = some r) (w : World) : (binOp op t (.int k a) (.int k' b)).run P w = .ok r w := by
  by_cases h1 : op = .shl
  · subst h1
    simp only [binV] at h
    split at h
    · cases h
    · cases h; simp [binOp, Op.shift, *]
  by_cases h2 : op = .shr
  · subst h2
    simp only [binV] at h
    split at h
    · cases h
    · cases h; simp [binOp, Op.shift, *]
  have h' : (if k = k' then binI op k a b else none) = some r := by
    cases op <;> first | exact absurd rfl h1 | exact absurd rfl h2 | exact h
  split at h'
  · rename_i hk; subst hk; exact binI_run h' h1 h2 w
  · cases h'

theorem eqGuard_int {op : BinOp} {t : TypeId} {x y : Operand} {k : IntKind} {a : Int} {b : Value} : (eqGuard op t x y (.int k a) b) = pure () := by unfold eqGuard; split <;> rfl
theorem eqGuard_string {op : BinOp} {t : TypeId} {x y : Operand} {a : ByteArray} {b : Value} : (eqGuard op t x y (.string a) b) = pure () := by unfold eqGuard; split <;> rfl
theorem eqGuard_bool {op : BinOp} {t : TypeId} {x y : Operand} {a : Bool} {b : Value} : (eqGuard op t x y (.bool a) b) = pure () := by unfold eqGuard; split <;> rfl

theorem binV_run {op : BinOp} {t : TypeId} {a b r : Value} (h : binV P op t a b = some r) (x y : Operand) (w : World) :
    ((do eqGuard op t x y a b; binOp op t a b) : Sem Value).run P w = .ok r w := by
  rw [Sem.run_bind]
  unfold binV at h
  split at h
  · rw [eqGuard_int]; simp only [Sem.run_pure, Result.andThen_ok]; exact binV_int (by unfold binV; exact h) w
  · rw [eqGuard_string]; simp only [Sem.run_pure, Result.andThen_ok]; exact binS_run h w
  · rw [eqGuard_bool]; simp only [Sem.run_pure, Result.andThen_ok]; exact binB_run (by unfold binV; exact h) w
  · cases h

theorem unV_run {op : UnOp} {a r : Value} (h : unV op a = some r) (w : World) : (Op.unary op a).run P w = .ok r w := by
  unfold unV at h
  split at h
  · cases op with
    | neg => cases h; rfl
    | xor => exact bitsV_run h w
    | _ => cases h
  · cases op with
    | not => cases h; rfl
    | _ => cases h
  · cases h

/-! ### structs compared -/
theorem plainStruct_iff {t : TypeId} (h : plainStruct P t = true) : ∃ fs, P.underlying t = some (.struct fs) ∧ P.stoodInHeld t = false ∧ P.eqGuardType P.depth t = false ∧
    ∀ (i : Nat) (f : Field), fs.toList[i]? = some f → f.name ≠ "_" ∧ f.offset = i ∧ basicT P f.type = true ∧ szOf P f.type = some 1 := by
  unfold plainStruct at h
  cases hu : P.underlying t with
  | none => simp [hu] at h
  | some d =>
    simp only [hu] at h
    cases d <;> simp only [Bool.false_eq_true] at h
    rename_i fs
    simp only [Bool.and_eq_true, Bool.not_eq_true', List.all_eq_true] at h
    refine ⟨fs, rfl, h.1.1, h.1.2, fun i f hf => ?_⟩
    have hm : (f, i) ∈ fs.toList.zipIdx := by
      rw [List.mem_iff_getElem?]
      exact ⟨i, by simp [List.getElem?_zipIdx, hf]⟩
    have := h.2 _ hm
    simp only [Bool.and_eq_true, bne_iff_ne, ne_eq, beq_iff_eq] at this
    exact ⟨this.1.1.1, this.1.1.2, this.1.2, this.2⟩

theorem run_part_basic {t : TypeId} {cs : Array Value} {off : Nat} {v : Value} (hb : basicT P t = true) (hv : cs[off]? = some v) (w : World) : (part t cs off).run P w = .ok v w := by
  unfold basicT at hb
  cases hu : P.underlying t with
  | none => simp [hu] at hb
  | some d =>
    simp only [hu] at hb
    cases d <;> simp at hb <;> simp [part, isAgg, run_underlying hu, hv]

/-- the fields of two structs, one by one -/
theorem run_eqFields {K : Ctx} {d : Nat} {xs ys : Array Value} (w : World) : ∀ {fs : List Field} {i : Nat} {cs ds : List PV} {r : Bool},
    (∀ (j : Nat) (f : Field), fs[j]? = some f → f.name ≠ "_" ∧ f.offset = i + j ∧ basicT P f.type = true ∧ szOf P f.type = some 1) →
    VRs K cs (xs.toList.drop i) → VRs K ds (ys.toList.drop i) → eqCells (fs.map fun f => kindT P f.type) cs ds = some r →
    (Op.eqFields (d + 1) xs ys fs).run P w = .ok r w
  | [], i, cs, ds, r, _, hc, hd, he => by
    cases cs <;> cases ds <;> simp [eqCells] at he
    subst he; simp [Op.eqFields]
  | f :: fs, i, cs, ds, r, hf, hc, hd, he => by
    obtain ⟨h1, h2, h3, h4⟩ := hf 0 f (by simp)
    cases cs with
    | nil => simp [eqCells] at he
    | cons x cs =>
    cases ds with
    | nil => cases x <;> simp [eqCells] at he
    | cons y ds =>
    have hrest : ∀ {r'}, eqCells (fs.map fun f => kindT P f.type) cs ds = some r' → (Op.eqFields (d + 1) xs ys fs).run P w = .ok r' w := by
      intro r' he'
      refine run_eqFields (K := K) (d := d) (i := i + 1) w (fun j g hg => ?_) ?_ ?_ he'
      · have := hf (j + 1) g (by simpa using hg)
        exact ⟨this.1, by rw [this.2.1]; omega, this.2.2⟩
      · have := hc.drop 1; simpa [Nat.add_comm] using this
      · have := hd.drop 1; simpa [Nat.add_comm] using this
    have hgx : ∀ a, VR K x a → x = .v a → xs[i]? = some a := by
      intro a ha hxa
      obtain ⟨a', e1, e2⟩ := hc.get (i := 0) (x := x) rfl
      subst hxa
      simp only [VR] at e2; subst e2
      simpa using e1
    have hgy : ∀ a, VR K y a → y = .v a → ys[i]? = some a := by
      intro a ha hxa
      obtain ⟨a', e1, e2⟩ := hd.get (i := 0) (x := y) rfl
      subst hxa
      simp only [VR] at e2; subst e2
      simpa using e1
    have hstep : ∀ (a b : Value) (q : Bool), x = .v a → y = .v b → (Op.equalIn (d + 1) f.type a b).run P w = .ok q w → ∀ r', eqCells (fs.map fun f => kindT P f.type) cs ds = some r' → r = (q && r') →
        (Op.eqFields (d + 1) xs ys (f :: fs)).run P w = .ok r w := by
      intro a b q hx hy hq r' hr' hrr
      have p1 := run_part_basic (cs := xs) (off := i) h3 (hgx a (by rw [hx]; simp only [VR]) hx) w
      have p2 := run_part_basic (cs := ys) (off := i) h3 (hgy b (by rw [hy]; simp only [VR]) hy) w
      have h2' : f.offset = i := by simpa using h2
      simp only [Op.eqFields, if_pos h1, Sem.run_bind, h2', p1, p2, Result.andThen_ok, hq, Sem.run_ite, hrest hr']
      subst hrr
      cases q <;> simp
    simp only [List.map_cons] at he
    have hk : kindT P f.type = 0 ∨ kindT P f.type = 1 ∨ kindT P f.type = 2 ∨ kindT P f.type = 3 := by unfold kindT; split <;> simp
    rcases hk with hk | hk | hk | hk
    · rw [hk] at he
      unfold eqCells at he
      split at he
      · rename_i e; cases e
      · rename_i ks k a xs' k' b ys' e1 e2 e3
        cases e1; cases e2; cases e3
        split at he
        · rename_i hkk; subst hkk
          cases hr' : eqCells (fs.map fun f => kindT P f.type) cs ds with
          | none => rw [hr'] at he; cases he
          | some r' =>
            rw [hr'] at he; cases he
            obtain ⟨k0, hu⟩ : ∃ k0, P.underlying f.type = some (.int k0) := by
              unfold kindT at hk; split at hk <;> first | exact ⟨_, ‹_›⟩ | cases hk
            exact hstep _ _ (a == b) rfl rfl (run_equalIn_int w d f.type k k0 a b hu) r' hr' rfl
        · cases he
      · rename_i e _ _; cases e
      · rename_i e _ _; cases e
      · cases he
    · rw [hk] at he
      unfold eqCells at he
      split at he
      · rename_i e; cases e
      · rename_i e _ _; cases e
      · rename_i ks a xs' b ys' e1 e2 e3
        cases e1; cases e2; cases e3
        cases hr' : eqCells (fs.map fun f => kindT P f.type) cs ds with
        | none => rw [hr'] at he; cases he
        | some r' =>
          rw [hr'] at he; cases he
          have hu : P.underlying f.type = some .string := by
            unfold kindT at hk; split at hk <;> first | assumption | cases hk
          exact hstep _ _ (a.toList == b.toList) rfl rfl (run_equalIn_string w d f.type a b hu) r' hr' rfl
      · rename_i e _ _; cases e
      · cases he
    · rw [hk] at he
      unfold eqCells at he
      split at he
      · rename_i e; cases e
      · rename_i e _ _; cases e
      · rename_i e _ _; cases e
      · rename_i ks a xs' b ys' e1 e2 e3
        cases e1; cases e2; cases e3
        cases hr' : eqCells (fs.map fun f => kindT P f.type) cs ds with
        | none => rw [hr'] at he; cases he
        | some r' =>
          rw [hr'] at he; cases he
          have hu : P.underlying f.type = some .bool := by
            unfold kindT at hk; split at hk <;> first | assumption | cases hk
          exact hstep _ _ (a == b) rfl rfl (run_equalIn_bool w d f.type a b hu) r' hr' rfl
      · cases he
    · rw [hk] at he
      simp [eqCells] at he

theorem aggEq_run {K : Ctx} {t : TypeId} {as bs : List PV} {xs ys : Array Value} {r : Bool} (hp : plainStruct P t = true) (ha : VRs K as xs.toList) (hb : VRs K bs ys.toList)
    (he : eqCells (kindsOf P t) as bs = some r) (w : World) : (Op.equalIn 10000 t (.agg xs) (.agg ys)).run P w = .ok r w ∧ ∀ op x y, (eqGuard op t x y (.agg xs) (.agg ys)).run P w = .ok () w := by
  obtain ⟨fs, h1, h2, h3, h4⟩ := plainStruct_iff hp
  have hfo : P.fieldsOf t = fs := by simp [Program.fieldsOf, h1]
  refine ⟨?_, fun op x y => run_eqGuard_agg w op t x y xs ys h3⟩
  rw [run_equalIn_agg w 9999 t xs ys (by rw [hfo]; exact h1) h2, hfo]
  refine run_eqFields (K := K) (d := 9998) (i := 0) w (fun j f hf => ?_) (by simpa using ha) (by simpa using hb) ?_
  · have := h4 j f hf
    exact ⟨this.1, by simpa using this.2.1, this.2.2⟩
  · simpa [kindsOf, h1] using he
end
end Go.Vs
