/-
  What is proved here: what an operation does hangs on its operands and on the rows that it reads alone.
  Conditions: none.
-/
import Derived.Test.YtpfdeoapnpcbaaaVOpAll
set_option linter.unusedSectionVars false
namespace Go.Vs
set_option linter.unusedVariables false
set_option linter.unusedSimpArgs false

section
variable {P : Program} {h h0 : H} {tk : Tok}

theorem rowAt_local {t : Tok} {ver : Nat} {r : Row} (e : rowAt h0 t ver = some r) (hh : h t = some r) : rowAt h t ver = some r := by
  obtain ⟨_, e2⟩ := rowAt_some e
  simp [rowAt, hh, e2]

theorem elemsOf_local {x : PV} {rd : List (Tok × Row)} {ys : List PV} (e : elemsOf h0 x = some (rd, ys)) (hh : ∀ q ∈ rd, h q.1 = some q.2) : elemsOf h x = some (rd, ys) := by
  unfold elemsOf at e ⊢
  split at e
  · exact e
  · rename_i t ver off len
    split at e
    · rename_i r hrow
      split at e
      · rename_i hle
        cases e
        rw [rowAt_local hrow (hh (t, r) (by simp))]
        simp [hle]
      · cases e
    · cases e
  · cases e

theorem loadF_local {t : TypeId} {x : PV} {res : Res} (e : loadF P h0 t x = some res) (hh : ∀ q ∈ res.rd, h q.1 = some q.2) : loadF P h t x = some res := by
  unfold loadF at e ⊢
  split at e
  · rename_i s ag hs ha
    split at e
    · rename_i tk ver i f
      split at e
      · rename_i r hrow
        have : (tk, r) ∈ res.rd := by
          split at e
          · split at e
            · split at e
              · cases e; simp
              · cases e
            · split at e
              · cases e; simp
              · cases e
          · cases e
        simp only [rowAt_local hrow (hh _ this)]
        exact e
      · cases e
    · exact e
    · cases e
  · cases e

theorem storeF_local {t : TypeId} {a x : PV} {res : Res} (e : storeF P h0 t a x = some res) (hh : ∀ q ∈ res.rd, h q.1 = some q.2) : storeF P h t a x = some res := by
  unfold storeF at e ⊢
  split at e
  · rename_i s tk ver i f hs
    split at e
    · rename_i r hrow
      have : (tk, r) ∈ res.rd := by
        split at e
        · split at e
          · cases e; simp
          · cases e
        · split at e
          · cases e; simp
          · cases e
        · cases e
      simp only [rowAt_local hrow (hh _ this)]
      exact e
    · cases e
  · cases e

theorem sliceF_local {t : TypeId} {x : PV} {lo hi mx : Option PV} {res : Res} (e : sliceF P h0 t x lo hi mx = some res) (hh : ∀ q ∈ res.rd, h q.1 = some q.2) : sliceF P h t x lo hi mx = some res := by
  unfold sliceF at e ⊢
  split at e
  · exact e
  · exact e
  · rename_i tk ver off len
    split at e
    · rename_i r hrow
      have : (tk, r) ∈ res.rd := by
        split at e
        · split at e
          · split at e
            · cases e; simp
            · cases e
          · cases e
        · cases e
      simp only [rowAt_local hrow (hh _ this)]
      exact e
    · cases e
  · cases e

theorem appendF_local {hint : Option Nat} {t : TypeId} {s x : PV} {res : Res} (e : appendF P tk hint h0 t s x = some res) (hh : ∀ q ∈ res.rd, h q.1 = some q.2) : appendF P tk hint h t s x = some res := by
  unfold appendF at e ⊢
  split at e
  · cases e
  · rename_i el hel
    split at e
    · rename_i sz rd ys hsz hes
      split at e
      · rename_i hc
        have hsub : ∀ q ∈ rd, q ∈ res.rd := by
          split at e
          · split at e
            · split at e
              · cases e; exact fun q hq => hq
              · split at e
                · cases e; exact fun q hq => hq
                · cases e
            · cases e
          · split at e
            · split at e
              · cases e; exact fun q hq => by simp [hq]
              · cases e
            · cases e
          · cases e
        simp only [hsz, elemsOf_local hes (fun q hq => hh q (hsub q hq)), hc, if_true]
        split at e
        · exact e
        · rename_i t0 ver off len
          split at e
          · rename_i r hrow
            have : (t0, r) ∈ res.rd := by
              split at e
              · cases e; simp
              · cases e
            simp only [rowAt_local hrow (hh _ this)]
            exact e
          · cases e
        · cases e
      · cases e
    · cases e

theorem opF_heap {n : Nat} {hint : Option Nat} {o : Op} {ty : TypeId} {env : Nat → PV} {res : Res} (e : opF P n tk hint o ty env h0 = some res) (hh : ∀ q ∈ res.rd, h q.1 = some q.2) : opF P n tk hint o ty env h = some res := by
  unfold opF at e ⊢
  cases o with
  | load t a => exact loadF_local e hh
  | store t a x => exact storeF_local e hh
  | slice t x lo hi mx => exact sliceF_local e hh
  | nilCheck x =>
    simp only at e ⊢
    split at e
    · rename_i t ver i f heq
      split at e
      · rename_i r hrow
        cases e
        simp only [rowAt_local hrow (hh (t, r) (by simp))]
      · cases e
    · exact e
    · exact e
    · cases e
  | fieldAddr s x f =>
    simp only at e ⊢
    split at e
    · rename_i off ft hf
      split at e
      · cases e
      · rename_i hz
        rw [if_neg hz]
        split at e
        · rename_i t ver i g heq
          split at e
          · rename_i r hrow
            cases e
            simp only [rowAt_local hrow (hh (t, r) (by simp))]
          · cases e
        · exact e
        · cases e
    · cases e
  | indexAddr t x ix =>
    simp only at e ⊢
    split at e
    · rename_i el hel
      split at e
      · rename_i s k i hs hix
        split at e
        · exact e
        · rename_i t0 ver off len heq
          split at e
          · rename_i r hrow
            split at e
            · rename_i hc
              cases e
              simp only [rowAt_local hrow (hh (t0, r) (by simp)), hc, and_self, if_true]
            · cases e
          · cases e
        · cases e
      · cases e
    · cases e
  | call c =>
    obtain ⟨callee, args, ats⟩ := c
    cases callee with
    | value f => simp at e
    | invoke f m => simp at e
    | builtin b =>
      cases b with
      | len =>
        simp only at e ⊢
        split at e
        · rename_i t x ht hx
          split at e
          · exact e
          · exact e
          · rename_i t0 ver off len heq
            split at e
            · rename_i r hrow
              split at e
              · rename_i hs
                cases e
                simp only [rowAt_local hrow (hh (t0, r) (by simp)), hs, if_true]
              · cases e
            · cases e
          · cases e
        · cases e
      | append =>
        simp only at e ⊢
        split at e
        · rename_i t t' x y ht hx
          split at e
          · rename_i hs
            rw [if_pos hs]
            exact appendF_local e hh
          · cases e
        · cases e
      | _ => exact e
  | makeFunc fn first caps => cases fn <;> exact e
  | _ => exact e

theorem opF_env {n : Nat} {hint : Option Nat} {o : Op} {ty : TypeId} {env env' : Nat → PV} (hE : ∀ x ∈ o.operands, evO n env' x = evO n env x) : opF P n tk hint o ty env' h = opF P n tk hint o ty env h := by
  unfold opF
  cases o with
  | build t parts =>
    have h1 : (parts.toList.map fun q => (q.1, (evO n env' q.2).lo)) = parts.toList.map fun q => (q.1, (evO n env q.2).lo) := by
      apply List.map_congr_left
      intro q hq
      rw [hE q.2 (by simp [Op.operands]; exact ⟨q.1, by simpa using hq⟩)]
    have h2 : (parts.toList.all fun q => (evO n env' q.2).lo.cells.all PV.one) = parts.toList.all fun q => (evO n env q.2).lo.cells.all PV.one := by
      rw [Bool.eq_iff_iff, List.all_eq_true, List.all_eq_true]
      constructor
      · intro hq q hm; have := hq q hm; rwa [hE q.2 (by simp [Op.operands]; exact ⟨q.1, by simpa using hm⟩)] at this
      · intro hq q hm; have := hq q hm; rwa [hE q.2 (by simp [Op.operands]; exact ⟨q.1, by simpa using hm⟩)]
    simp only [h1, h2]
  | buildSlice t len parts =>
    have h1 : (parts.toList.map fun q => (q.1, (evO n env' q.2).lo)) = parts.toList.map fun q => (q.1, (evO n env q.2).lo) := by
      apply List.map_congr_left
      intro q hq
      rw [hE q.2 (by simp [Op.operands]; exact ⟨q.1, by simpa using hq⟩)]
    simp only [h1]
  | makeFunc fn first caps =>
    have h1 : caps.toList.map (evO n env') = caps.toList.map (evO n env) := by
      apply List.map_congr_left
      intro q hq
      exact hE q (by simp [Op.operands]; exact .inr (by simpa using hq))
    cases fn with
    | func f => simp only [h1]
    | _ => rfl
  | slice t x lo hi mx =>
    have hx := hE x (by simp [Op.operands])
    have h1 : lo.map (evO n env') = lo.map (evO n env) := by
      cases lo with
      | none => rfl
      | some q => simp [hE q (by simp [Op.operands])]
    have h2 : hi.map (evO n env') = hi.map (evO n env) := by
      cases hi with
      | none => rfl
      | some q => simp [hE q (by simp [Op.operands])]
    have h3 : mx.map (evO n env') = mx.map (evO n env) := by
      cases mx with
      | none => rfl
      | some q => simp [hE q (by simp [Op.operands])]
    simp only [hx, h1, h2, h3]
  | call c =>
    obtain ⟨callee, args, ats⟩ := c
    cases callee with
    | value f => rfl
    | invoke f m => rfl
    | builtin b =>
      have ha : ∀ x ∈ args, evO n env' x = evO n env x := fun x hx => hE x (by simp [Op.operands, Call.operands, hx])
      have h1 : args.toList.map (evO n env') = args.toList.map (evO n env) := List.map_congr_left fun q hq => ha q (by simpa using hq)
      cases b with
      | len =>
        simp only
        split
        · rename_i t x ht hx
          rw [ha x (Array.mem_of_getElem? hx)]
        · rfl
      | append =>
        simp only
        split
        · rename_i t t' x y ht hx
          have hm : ∀ q ∈ [x, y], q ∈ args := fun q hq => by rw [← hx] at hq; simpa using hq
          rw [ha x (hm x (by simp)), ha y (hm y (by simp))]
        · rfl
      | max => simp only [h1]
      | min => simp only [h1]
      | _ => rfl
  | move x => simp only [hE x (by simp [Op.operands])]
  | assign x => simp only [hE x (by simp [Op.operands])]
  | pick c a b => simp only [hE c (by simp [Op.operands]), hE a (by simp [Op.operands]), hE b (by simp [Op.operands])]
  | box t x => simp only [hE x (by simp [Op.operands])]
  | load t x => simp only [hE x (by simp [Op.operands])]
  | store t a x => simp only [hE a (by simp [Op.operands]), hE x (by simp [Op.operands])]
  | nilCheck x => simp only [hE x (by simp [Op.operands])]
  | binOp op t x y yt => simp only [hE x (by simp [Op.operands]), hE y (by simp [Op.operands])]
  | unOp op t x => simp only [hE x (by simp [Op.operands])]
  | convert s d x => simp only [hE x (by simp [Op.operands])]
  | makeSlice t l c => simp only [hE l (by simp [Op.operands]), hE c (by simp [Op.operands])]
  | fieldAddr s x f => simp only [hE x (by simp [Op.operands])]
  | field s x f => simp only [hE x (by simp [Op.operands])]
  | indexAddr t x ix => simp only [hE x (by simp [Op.operands]), hE ix (by simp [Op.operands])]
  | index t x ix => simp only [hE x (by simp [Op.operands]), hE ix (by simp [Op.operands])]
  | extract x i => simp only [hE x (by simp [Op.operands])]
  | _ => rfl
end
end Go.Vs
