/-
  What is proved here: nothing; the program's structs as structures, and their cells.
  Conditions: none.
-/
import Derived.Test.YtpfdeoapnpcbaaaVTab
set_option linter.unusedSimpArgs false
set_option linter.unusedSectionVars false
namespace Go.Proofs.Ytpfdeoapnpcbaaa
open Go.Vs
set_option linter.unusedVariables false

structure GChoice where
  Ops : List ByteArray
  Imms : List Int
  deriving DecidableEq

abbrev eGChoice (x : GChoice) : PV := .agg [(eL S) x.Ops, (eL I) x.Imms]

structure GInstr where
  Op : ByteArray
  Dst : Int
  A : Int
  B : Int
  Imm : Int
  deriving DecidableEq

abbrev eGInstr (x : GInstr) : PV := .agg [S x.Op, I x.Dst, I x.A, I x.B, I x.Imm]

structure GForm where
  a : Bool
  b : Bool
  low : Int
  high : Int
  cost : Int
  op : ByteArray
  deriving DecidableEq

abbrev eGForm (x : GForm) : PV := .agg [B x.a, B x.b, I x.low, I x.high, I x.cost, S x.op]

structure GNode where
  Op : ByteArray
  A : Int
  B : Int
  Value : Int
  deriving DecidableEq

abbrev eGNode (x : GNode) : PV := .agg [S x.Op, I x.A, I x.B, I x.Value]

theorem beqI_dec (a b : Int) : (a == b) = decide (a = b) := by rw [Bool.eq_iff_iff]; simp
theorem beqB_dec (a b : Bool) : (a == b) = decide (a = b) := by rw [Bool.eq_iff_iff]; simp

theorem eqGInstr (x y : GInstr) : eqCells [1, 0, 0, 0, 0] ((eGInstr x).cells) ((eGInstr y).cells) = some (decide (x = y)) := by
  obtain ⟨x0, x1, x2, x3, x4⟩ := x
  obtain ⟨y0, y1, y2, y3, y4⟩ := y
  simp [eqCells, PV.cells, toList_beq, GInstr.mk.injEq, Bool.decide_and, beqI_dec, beqB_dec]

end Go.Proofs.Ytpfdeoapnpcbaaa
