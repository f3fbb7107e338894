/-
  What is proved here: the law FnExactCountUnpruned returns true for every input, and each argument reads behind the call as it read before.
  Conditions: none.
-/
import Derived.Test.YtpfdeoapnpcbaaaRows
import Derived.WalkKit
import Derived.ProofKit
import Derived.OpenShut
import Derived.ChangeOld
import Derived.Below
import Derived.Carry
import Derived.Handed
import Derived.Test.YtpfdeoapnpcbaaaP7
import Derived.Test.YtpfdeoapnpcbaaaVRowK
set_option linter.unusedSimpArgs false
set_option linter.unusedSectionVars false
namespace Go.Proofs.Ytpfdeoapnpcbaaa
open Go.Vs
open Go.ChangeShapes Go.WideShapes Go.ChangeAt Go.RowKit
set_option linter.unusedVariables false
def okGChoice (a : GChoice) : Prop := (okL okS) a.Ops ∧ (okL (okI .i64)) a.Imms
theorem opens_laws_Choice (w : World) : Opens PG w 25 eGChoice okGChoice := by
  intro H enc fuel cs x h
  obtain ⟨xs, n, rfl, rfl, hl, hn, hf⟩ := DataW.trod_struct Try.underlying25 h
  have hl' : cs.length = 2 := hl.trans (by kernel_rfl)
  obtain ⟨c0, c1, rfl⟩ : ∃ c0 c1, cs = [c0, c1] := by
    obtain _ | ⟨c0, cs⟩ := cs
    · simp at hl'
    obtain _ | ⟨c1, cs⟩ := cs
    · simp at hl'
    obtain _ | ⟨_, _⟩ := cs
    · exact ⟨c0, c1, rfl⟩
    · simp at hl'
  obtain ⟨a0, k0, v0⟩ := Opens.field hf hn (i := 0) (off := 0) (ft := 22) rfl rfl rfl (by kernel_rfl) rfl (Opens.slice Try.underlying22 (s := 1) (by kernel_rfl) (by decide) (fun a => ⟨rfl, by simp [PV.cells, PV.one, Value.oneCell']⟩) (Opens.string Try.underlying9))
  obtain ⟨a1, k1, v1⟩ := Opens.field hf hn (i := 1) (off := 1) (ft := 23) rfl rfl rfl (by kernel_rfl) rfl (Opens.slice Try.underlying23 (s := 1) (by kernel_rfl) (by decide) (fun a => ⟨rfl, by simp [PV.cells, PV.one, Value.oneCell']⟩) (Opens.int Try.underlying3))
  refine ⟨⟨a0, a1⟩, ⟨k0, k1⟩, ?_⟩
  exact (VRs.cons_iff.2 ⟨VRs.one1 rfl v0, (VRs.cons_iff.2 ⟨VRs.one1 rfl v1, (VRs.nil_iff.2 rfl)⟩)⟩)

namespace fnExactCountUnpruned
theorem own : ownKnob Try.prog.godebug = none := by kernel_rfl
theorem laidOut : laidOutB Try.prog = true := by kernel_rfl
set_option maxRecDepth 100000 in
theorem lifted (os : Os) (started : os.Started) (H : Type) (enc : TypeId × Value → H) :
    ReturnsInHanded {} Try.checked os 3 .any (Rows.fnExactCountUnprunedSpec.pre6 enc Try.prog Try.f3 Rows.fnExactCountUnprunedRow.domain false) (Rows.fnExactCountUnprunedSpec.post enc Try.prog Try.f3 false true false false) := by
  refine returnsInHanded_of_change (C := Try.checked) own started (by kernel_rfl) Try.func3
    (ChangeSpec.witness6 (enc := enc) (C := Try.checked) false ⟨#[], #[.agg #[.slice none 0 0, .slice none 0 0], .int .i64 0], []⟩ 8 (by kernel_rfl) (by kernel_rfl) (by kernel_rfl) (by kernel_rfl)) ?_
  intro W base args ds gs before hval0 hW hcnd _
  have hval : ∀ (j : Nat) t v, Try.f3.params[j]? = some t → args[j]? = some v → Value.okWide Try.prog W .any base t v := hval0
  have hW' := hW
  obtain ⟨p, q, hA0, hV, rfl, hfz, hnd⟩ := hW
  have hA : DataW.TrodAll enc Try.prog W 0 (fun _ => true) true Try.f3.params.toList args.toList ds p := hA0
  rw [Try.params3] at hA hval
  obtain ⟨v0, vs0, d0, ds0, p0, q0, hargs, rfl, rfl, h0, r0⟩ := trodAll_cons hA
  obtain ⟨v1, vs1, d1, ds1, p1, q1, rfl, rfl, rfl, h1, r1⟩ := trodAll_cons r0
  obtain ⟨rfl, rfl, rfl⟩ := trodAll_nil r1
  obtain rfl : args = #[v0, v1] := by cases args; simp_all
  obtain ⟨rfl, rfl⟩ := trodVars_none hV
  have lt0 : ∀ x ∈ p0, x.block < W.heap.size := by obtain ⟨m, hm⟩ := h0; exact DataW.trod_lt m _ _ _ hm
  have lt1 : ∀ x ∈ p1, x.block < W.heap.size := by obtain ⟨m, hm⟩ := h1; exact DataW.trod_lt m _ _ _ hm
  obtain ⟨a0, ok0, r0_⟩ := arg_struct Try.underlying25 (hval 0 25 v0 rfl rfl) h0 (opens_laws_Choice _) (fun a => ⟨_, rfl⟩)
  obtain ⟨a1, ok1, r1_⟩ := arg_int Try.underlying3 (hval 1 3 v1 rfl rfl) h1
  refine (law_calls (run_laws_FnExactCountUnpruned (plain_FnExactCountUnpruned a0 a1 ok0 ok1)) (vals := #[v0, v1]) (VRs.cons_iff.2 ⟨r0_, (VRs.cons_iff.2 ⟨r1_, (VRs.nil_iff.2 rfl)⟩)⟩)).mono fun e W' ⟨he, bel⟩ => ?_
  subst he
  exact ⟨_, rfl, _, _, _, [], _, [], hW', trodAll_mk1 (shut_bool Try.underlying4 _), (trodAll_cons_mk (Below.trod laidOut (by kernel_rfl) (of_decide_eq_true (by kernel_rfl)) h0 bel lt0) (trodAll_cons_mk (Below.trod laidOut (by kernel_rfl) (of_decide_eq_true (by kernel_rfl)) h1 bel lt1) trodAll_mk0)), rfl, bel.frame _, fun h => by cases h⟩
theorem over : Rows.fnExactCountUnprunedRow.holds Try.pinned (OpenSpec.ofChange Rows.fnExactCountUnprunedSpec) :=
  OpenClaim.holds_of_wide 3 Try.f3 rfl rfl rfl rfl rfl rfl rfl ⟨rfl, rfl, rfl, rfl, rfl⟩ rfl rfl rfl rfl rfl (by kernel_rfl) Try.func3 (by kernel_rfl)
    (of_decide_eq_true (by kernel_rfl)) (by unfold Func.isWrapper; first | (rw [if_pos (by decide +kernel)]; kernel_rfl) | (rw [if_neg (by decide +kernel)]; exact ⟨rfl, rfl⟩))
    (fun os started H enc _ => lifted os started H enc)
theorem proved : Rows.FnExactCountUnprunedSaid := over
end fnExactCountUnpruned
/-- The row, under a short name, for the claim. -/
theorem fnExactCountUnpruned_holds : Rows.FnExactCountUnprunedSaid := fnExactCountUnpruned.proved
end Go.Proofs.Ytpfdeoapnpcbaaa
