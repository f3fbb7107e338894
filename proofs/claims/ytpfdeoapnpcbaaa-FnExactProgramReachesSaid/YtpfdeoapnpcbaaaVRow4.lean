/-
  What is proved here: the law FnExactProgramReaches returns true for every input, and each argument reads behind the call as it read before.
  Conditions: none.
-/
import Derived.Test.YtpfdeoapnpcbaaaRows
import Derived.WalkKit
import Derived.ProofKit
import Derived.OpenShut
import Derived.ChangeOld
import Derived.Below
import Derived.Carry
import Derived.Handed
import Derived.Test.YtpfdeoapnpcbaaaP11
import Derived.Test.YtpfdeoapnpcbaaaVRowK
set_option linter.unusedSimpArgs false
set_option linter.unusedSectionVars false
namespace Go.Proofs.Ytpfdeoapnpcbaaa
open Go.Vs
open Go.ChangeShapes Go.WideShapes Go.ChangeAt Go.RowKit
set_option linter.unusedVariables false
def okGNode (a : GNode) : Prop := okS a.Op ∧ (okI .i64) a.A ∧ (okI .i64) a.B ∧ (okI .i64) a.Value
theorem opens_laws_Node (w : World) : Opens PG w 141 eGNode okGNode := by
  intro H enc fuel cs x h
  obtain ⟨xs, n, rfl, rfl, hl, hn, hf⟩ := DataW.trod_struct Try.underlying141 h
  have hl' : cs.length = 4 := hl.trans (by kernel_rfl)
  obtain ⟨c0, c1, c2, c3, rfl⟩ : ∃ c0 c1 c2 c3, cs = [c0, c1, c2, c3] := by
    obtain _ | ⟨c0, cs⟩ := cs
    · simp at hl'
    obtain _ | ⟨c1, cs⟩ := cs
    · simp at hl'
    obtain _ | ⟨c2, cs⟩ := cs
    · simp at hl'
    obtain _ | ⟨c3, cs⟩ := cs
    · simp at hl'
    obtain _ | ⟨_, _⟩ := cs
    · exact ⟨c0, c1, c2, c3, rfl⟩
    · simp at hl'
  obtain ⟨a0, k0, v0⟩ := Opens.field hf hn (i := 0) (off := 0) (ft := 9) rfl rfl rfl (by kernel_rfl) rfl (Opens.string Try.underlying9)
  obtain ⟨a1, k1, v1⟩ := Opens.field hf hn (i := 1) (off := 1) (ft := 3) rfl rfl rfl (by kernel_rfl) rfl (Opens.int Try.underlying3)
  obtain ⟨a2, k2, v2⟩ := Opens.field hf hn (i := 2) (off := 2) (ft := 3) rfl rfl rfl (by kernel_rfl) rfl (Opens.int Try.underlying3)
  obtain ⟨a3, k3, v3⟩ := Opens.field hf hn (i := 3) (off := 3) (ft := 3) rfl rfl rfl (by kernel_rfl) rfl (Opens.int Try.underlying3)
  refine ⟨⟨a0, a1, a2, a3⟩, ⟨k0, k1, k2, k3⟩, ?_⟩
  exact (VRs.cons_iff.2 ⟨VRs.one1 rfl v0, (VRs.cons_iff.2 ⟨VRs.one1 rfl v1, (VRs.cons_iff.2 ⟨VRs.one1 rfl v2, (VRs.cons_iff.2 ⟨VRs.one1 rfl v3, (VRs.nil_iff.2 rfl)⟩)⟩)⟩)⟩)

def okGChoice (a : GChoice) : Prop := (okL okS) a.Ops ∧ (okL (okI .i64)) a.Imms
theorem opens_laws_Choice (w : World) : Opens PG w 25 eGChoice okGChoice := by
  intro H enc fuel cs x h
  obtain ⟨xs, n, rfl, rfl, hl, hn, hf⟩ := DataW.trod_struct Try.underlying25 h
  have hl' : cs.length = 2 := hl.trans (by kernel_rfl)
  obtain ⟨c0, c1, rfl⟩ : ∃ c0 c1, cs = [c0, c1] := by
    obtain _ | ⟨c0, cs⟩ := cs
    · simp at hl'
    obtain _ | ⟨c1, cs⟩ := cs
    · simp at hl'
    obtain _ | ⟨_, _⟩ := cs
    · exact ⟨c0, c1, rfl⟩
    · simp at hl'
  obtain ⟨a0, k0, v0⟩ := Opens.field hf hn (i := 0) (off := 0) (ft := 22) rfl rfl rfl (by kernel_rfl) rfl (Opens.slice Try.underlying22 (s := 1) (by kernel_rfl) (by decide) (fun a => ⟨rfl, by simp [PV.cells, PV.one, Value.oneCell']⟩) (Opens.string Try.underlying9))
  obtain ⟨a1, k1, v1⟩ := Opens.field hf hn (i := 1) (off := 1) (ft := 23) rfl rfl rfl (by kernel_rfl) rfl (Opens.slice Try.underlying23 (s := 1) (by kernel_rfl) (by decide) (fun a => ⟨rfl, by simp [PV.cells, PV.one, Value.oneCell']⟩) (Opens.int Try.underlying3))
  refine ⟨⟨a0, a1⟩, ⟨k0, k1⟩, ?_⟩
  exact (VRs.cons_iff.2 ⟨VRs.one1 rfl v0, (VRs.cons_iff.2 ⟨VRs.one1 rfl v1, (VRs.nil_iff.2 rfl)⟩)⟩)

def okGInstr (a : GInstr) : Prop := okS a.Op ∧ (okI .i64) a.Dst ∧ (okI .i64) a.A ∧ (okI .i64) a.B ∧ (okI .i64) a.Imm
theorem opens_laws_Instr (w : World) : Opens PG w 108 eGInstr okGInstr := by
  intro H enc fuel cs x h
  obtain ⟨xs, n, rfl, rfl, hl, hn, hf⟩ := DataW.trod_struct Try.underlying108 h
  have hl' : cs.length = 5 := hl.trans (by kernel_rfl)
  obtain ⟨c0, c1, c2, c3, c4, rfl⟩ : ∃ c0 c1 c2 c3 c4, cs = [c0, c1, c2, c3, c4] := by
    obtain _ | ⟨c0, cs⟩ := cs
    · simp at hl'
    obtain _ | ⟨c1, cs⟩ := cs
    · simp at hl'
    obtain _ | ⟨c2, cs⟩ := cs
    · simp at hl'
    obtain _ | ⟨c3, cs⟩ := cs
    · simp at hl'
    obtain _ | ⟨c4, cs⟩ := cs
    · simp at hl'
    obtain _ | ⟨_, _⟩ := cs
    · exact ⟨c0, c1, c2, c3, c4, rfl⟩
    · simp at hl'
  obtain ⟨a0, k0, v0⟩ := Opens.field hf hn (i := 0) (off := 0) (ft := 9) rfl rfl rfl (by kernel_rfl) rfl (Opens.string Try.underlying9)
  obtain ⟨a1, k1, v1⟩ := Opens.field hf hn (i := 1) (off := 1) (ft := 3) rfl rfl rfl (by kernel_rfl) rfl (Opens.int Try.underlying3)
  obtain ⟨a2, k2, v2⟩ := Opens.field hf hn (i := 2) (off := 2) (ft := 3) rfl rfl rfl (by kernel_rfl) rfl (Opens.int Try.underlying3)
  obtain ⟨a3, k3, v3⟩ := Opens.field hf hn (i := 3) (off := 3) (ft := 3) rfl rfl rfl (by kernel_rfl) rfl (Opens.int Try.underlying3)
  obtain ⟨a4, k4, v4⟩ := Opens.field hf hn (i := 4) (off := 4) (ft := 3) rfl rfl rfl (by kernel_rfl) rfl (Opens.int Try.underlying3)
  refine ⟨⟨a0, a1, a2, a3, a4⟩, ⟨k0, k1, k2, k3, k4⟩, ?_⟩
  exact (VRs.cons_iff.2 ⟨VRs.one1 rfl v0, (VRs.cons_iff.2 ⟨VRs.one1 rfl v1, (VRs.cons_iff.2 ⟨VRs.one1 rfl v2, (VRs.cons_iff.2 ⟨VRs.one1 rfl v3, (VRs.cons_iff.2 ⟨VRs.one1 rfl v4, (VRs.nil_iff.2 rfl)⟩)⟩)⟩)⟩)⟩)

namespace fnExactProgramReaches
theorem own : ownKnob Try.prog.godebug = none := by kernel_rfl
theorem laidOut : laidOutB Try.prog = true := by kernel_rfl
set_option maxRecDepth 100000 in
theorem lifted (os : Os) (started : os.Started) (H : Type) (enc : TypeId × Value → H) :
    ReturnsInHanded {} Try.checked os 6 .any (Rows.fnExactProgramReachesSpec.pre6 enc Try.prog Try.f6 Rows.fnExactProgramReachesRow.domain false) (Rows.fnExactProgramReachesSpec.post enc Try.prog Try.f6 false true false false) := by
  refine returnsInHanded_of_change (C := Try.checked) own started (by kernel_rfl) Try.func6
    (ChangeSpec.witness6 (enc := enc) (C := Try.checked) false ⟨#[], #[.slice none 0 0, .agg #[.slice none 0 0, .slice none 0 0], .slice none 0 0], []⟩ 8 (by kernel_rfl) (by kernel_rfl) (by kernel_rfl) (by kernel_rfl)) ?_
  intro W base args ds gs before hval0 hW hcnd _
  have hval : ∀ (j : Nat) t v, Try.f6.params[j]? = some t → args[j]? = some v → Value.okWide Try.prog W .any base t v := hval0
  have hW' := hW
  obtain ⟨p, q, hA0, hV, rfl, hfz, hnd⟩ := hW
  have hA : DataW.TrodAll enc Try.prog W 0 (fun _ => true) true Try.f6.params.toList args.toList ds p := hA0
  rw [Try.params6] at hA hval
  obtain ⟨v0, vs0, d0, ds0, p0, q0, hargs, rfl, rfl, h0, r0⟩ := trodAll_cons hA
  obtain ⟨v1, vs1, d1, ds1, p1, q1, rfl, rfl, rfl, h1, r1⟩ := trodAll_cons r0
  obtain ⟨v2, vs2, d2, ds2, p2, q2, rfl, rfl, rfl, h2, r2⟩ := trodAll_cons r1
  obtain ⟨rfl, rfl, rfl⟩ := trodAll_nil r2
  obtain rfl : args = #[v0, v1, v2] := by cases args; simp_all
  obtain ⟨rfl, rfl⟩ := trodVars_none hV
  have lt0 : ∀ x ∈ p0, x.block < W.heap.size := by obtain ⟨m, hm⟩ := h0; exact DataW.trod_lt m _ _ _ hm
  have lt1 : ∀ x ∈ p1, x.block < W.heap.size := by obtain ⟨m, hm⟩ := h1; exact DataW.trod_lt m _ _ _ hm
  have lt2 : ∀ x ∈ p2, x.block < W.heap.size := by obtain ⟨m, hm⟩ := h2; exact DataW.trod_lt m _ _ _ hm
  obtain ⟨a0, ok0, r0_⟩ := arg_slice Try.underlying59 (hval 0 59 v0 rfl rfl) h0 (Opens.slice Try.underlying59 (s := 4) (by kernel_rfl) (by decide) (fun a => ⟨rfl, by simp [PV.cells, PV.one, Value.oneCell']⟩) (opens_laws_Node _))
  obtain ⟨a1, ok1, r1_⟩ := arg_struct Try.underlying25 (hval 1 25 v1 rfl rfl) h1 (opens_laws_Choice _) (fun a => ⟨_, rfl⟩)
  obtain ⟨a2, ok2, r2_⟩ := arg_slice Try.underlying33 (hval 2 33 v2 rfl rfl) h2 (Opens.slice Try.underlying33 (s := 5) (by kernel_rfl) (by decide) (fun a => ⟨rfl, by simp [PV.cells, PV.one, Value.oneCell']⟩) (opens_laws_Instr _))
  refine (law_calls (run_laws_FnExactProgramReaches (plain_FnExactProgramReaches a0 a1 a2 ok0 ok1 ok2)) (vals := #[v0, v1, v2]) (VRs.cons_iff.2 ⟨r0_, (VRs.cons_iff.2 ⟨r1_, (VRs.cons_iff.2 ⟨r2_, (VRs.nil_iff.2 rfl)⟩)⟩)⟩)).mono fun e W' ⟨he, bel⟩ => ?_
  subst he
  exact ⟨_, rfl, _, _, _, [], _, [], hW', trodAll_mk1 (shut_bool Try.underlying4 _), (trodAll_cons_mk (Below.trod laidOut (by kernel_rfl) (of_decide_eq_true (by kernel_rfl)) h0 bel lt0) (trodAll_cons_mk (Below.trod laidOut (by kernel_rfl) (of_decide_eq_true (by kernel_rfl)) h1 bel lt1) (trodAll_cons_mk (Below.trod laidOut (by kernel_rfl) (of_decide_eq_true (by kernel_rfl)) h2 bel lt2) trodAll_mk0))), rfl, bel.frame _, fun h => by cases h⟩
theorem over : Rows.fnExactProgramReachesRow.holds Try.pinned (OpenSpec.ofChange Rows.fnExactProgramReachesSpec) :=
  OpenClaim.holds_of_wide 6 Try.f6 rfl rfl rfl rfl rfl rfl rfl ⟨rfl, rfl, rfl, rfl, rfl⟩ rfl rfl rfl rfl rfl (by kernel_rfl) Try.func6 (by kernel_rfl)
    (of_decide_eq_true (by kernel_rfl)) (by unfold Func.isWrapper; first | (rw [if_pos (by decide +kernel)]; kernel_rfl) | (rw [if_neg (by decide +kernel)]; exact ⟨rfl, rfl⟩))
    (fun os started H enc _ => lifted os started H enc)
theorem proved : Rows.FnExactProgramReachesSaid := over
end fnExactProgramReaches
/-- The row, under a short name, for the claim. -/
theorem fnExactProgramReaches_holds : Rows.FnExactProgramReachesSaid := fnExactProgramReaches.proved
end Go.Proofs.Ytpfdeoapnpcbaaa
