/-
  What is proved here: nothing; the program's structs as structures, and their cells.
  Conditions: none.
-/
import Derived.Test.YtpfdeoapnpcbaaaVTab
set_option linter.unusedSimpArgs false
set_option linter.unusedSectionVars false
namespace Go.Proofs.Ytpfdeoapnpcbaaa
open Go.Vs
set_option linter.unusedVariables false

structure GChoice where
  Ops : List ByteArray
  Imms : List Int
  deriving DecidableEq

abbrev eGChoice (x : GChoice) : PV := .agg [(eL S) x.Ops, (eL I) x.Imms]

structure GInstr where
  Op : ByteArray
  Dst : Int
  A : Int
  B : Int
  Imm : Int
  deriving DecidableEq

abbrev eGInstr (x : GInstr) : PV := .agg [S x.Op, I x.Dst, I x.A, I x.B, I x.Imm]

structure GForm where
  a : Bool
  b : Bool
  low : Int
  high : Int
  cost : Int
  op : ByteArray
  deriving DecidableEq

abbrev eGForm (x : GForm) : PV := .agg [B x.a, B x.b, I x.low, I x.high, I x.cost, S x.op]

end Go.Proofs.Ytpfdeoapnpcbaaa
