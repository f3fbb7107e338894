/-
  What is defined here: what the model's operations, code and calls do with plain values: the relation 'Run'.
  Conditions: none.
-/
import Derived.Test.YtpfdeoapnpcbaaaVBase
set_option linter.unusedVariables false
set_option linter.unusedSimpArgs false
set_option linter.unusedSectionVars false
namespace Go.Vs

/-- slices in what is built are not tight -/
def PV.lo1 : PV → PV
  | .sl _ xs => .sl false xs
  | x => x
def PV.lo : PV → PV
  | .sl _ xs => .sl false xs
  | .agg cs => .agg (cs.map PV.lo1)
  | x => x

structure Row where
  ver : Nat
  sz : Nat
  xs : List PV

abbrev H := Tok → Option Row
def upd (h : H) (t : Tok) (r : Row) : H := fun t' => if t' = t then some r else h t'
def upds (h : H) : List (Tok × Row) → H
  | [] => h
  | (t, r) :: l => upds (upd h t r) l

structure St where
  env : Nat → PV
  nx : Nat
  h : H

def putE (env : Nat → PV) (dst : Option Tmp) (v : PV) : Nat → PV :=
  match dst with
  | some d => fun i => if i = d then v else env i
  | none => env

/-! ### constants -/
def PV.ofV1 : Value → PV
  | .slice none 0 0 => .sl true []
  | x => .v x
def PV.ofV : Value → PV
  | .agg cs => .agg (cs.toList.map PV.ofV1)
  | x => PV.ofV1 x

def evO (n : Nat) (env : Nat → PV) : Operand → PV
  | .tmp t => if t < n then env t else .v undef
  | .const c => PV.ofV c
  | .global g => .v (.pointer (some ⟨g, 0, none⟩))
  | .func f => .clo f []

/-! ### what the tables of types say -/
section
variable (P : Program)
def szOf (t : TypeId) : Option Nat := (P.info? t).map (·.size)
def zeroOf (t : TypeId) : Option PV := match P.info? t with
  | some i => match i.zero with
    | some z => if z.cells.size = i.size ∧ z.cells.all (·.oneCell') = true then some (PV.ofV z) else none
    | none => none
  | none => none
def aggT (t : TypeId) : Option Bool := match P.underlying t with
  | some (.struct _) => some true
  | some (.array _ _) => some true
  | some _ => some false
  | none => none
def slElem (t : TypeId) : Option TypeId := match P.underlying t with
  | some (.slice e) => some e
  | _ => none
def isStr (t : TypeId) : Bool := match P.underlying t with
  | some .string => true
  | _ => false
def isBool (t : TypeId) : Bool := match P.underlying t with
  | some .bool => true
  | _ => false
def intT (t : TypeId) : Option IntKind := match P.underlying t with
  | some (.int k) => some k
  | _ => none
/-- where a field lies, its type -/
def fldOf (s : TypeId) (f : Nat) : Option (Nat × TypeId) := match P.underlying s with
  | some (.struct fs) => (fs[f]?).map fun x => (x.offset, x.type)
  | _ => none
/-- the places of all fields: where they lie, their sizes -/
def placesOf (s : TypeId) : Option (List (Nat × Nat)) := match P.underlying s with
  | some (.struct fs) => fs.toList.mapM fun x => (szOf P x.type).map fun z => (x.offset, z)
  | _ => none
def basicT (t : TypeId) : Bool := match P.underlying t with
  | some .bool => true
  | some (.int _) => true
  | some .string => true
  | _ => false
/-- '==' goes by the cells -/
def plainStruct (t : TypeId) : Bool := match P.underlying t with
  | some (.struct fs) => !P.stoodInHeld t && !(P.eqGuardType P.depth t) &&
      (fs.toList.zipIdx.all fun x => x.1.name != "_" && x.1.offset == x.2 && basicT P x.1.type && szOf P x.1.type == some 1)
  | _ => false
/-- an element's bytes -/
def bytesOf (t : TypeId) : Nat := match P.info? t with
  | some i => i.bytes
  | none => 0
end

/-! ### operations on values -/
def bitsV (op : BinOp) (k : IntKind) (x y : Int) : Option Value :=
  let a := BitVec.ofInt k.bits x
  let b := BitVec.ofInt k.bits y
  match op with
  | .and => some (.int k (k.wrap (a &&& b).toNat))
  | .or => some (.int k (k.wrap (a ||| b).toNat))
  | .xor => some (.int k (k.wrap (a ^^^ b).toNat))
  | .andNot => some (.int k (k.wrap (a &&& ~~~b).toNat))
  | _ => none
def binI (op : BinOp) (k : IntKind) (a b : Int) : Option Value :=
  match op with
  | .add => some (.int k (k.wrap (a + b)))
  | .sub => some (.int k (k.wrap (a - b)))
  | .mul => some (.int k (k.wrap (a * b)))
  | .quo => if b = 0 then none else some (.int k (k.wrap (a.tdiv b)))
  | .rem => if b = 0 then none else some (.int k (a.tmod b))
  | .eql => some (.bool (a == b))
  | .neq => some (.bool (a != b))
  | .lss => some (.bool (a < b))
  | .leq => some (.bool (a ≤ b))
  | .gtr => some (.bool (a > b))
  | .geq => some (.bool (a ≥ b))
  | op => bitsV op k a b
def binS (op : BinOp) (x y : ByteArray) : Option Value :=
  let eq := x.toList == y.toList
  let lt := Op.bytesLess x.toList y.toList
  match op with
  | .add => if ((x.size + y.size : Nat) : Int) > IntKind.i64.max then none else some (.string (x ++ y))
  | .eql => some (.bool eq)
  | .neq => some (.bool !eq)
  | .lss => some (.bool lt)
  | .leq => some (.bool (lt || eq))
  | .gtr => some (.bool !(lt || eq))
  | .geq => some (.bool !lt)
  | _ => none
def binV (P : Program) (op : BinOp) (t : TypeId) : Value → Value → Option Value
  | .int k a, .int k' b => match op with
    | .shl => if b < 0 then none else some (.int k (k.wrap (a * 2 ^ min b.toNat k.bits)))
    | .shr => if b < 0 then none else some (.int k (a.fdiv (2 ^ min b.toNat k.bits)))
    | op => if k = k' then binI op k a b else none
  | .string a, .string b => binS op a b
  | .bool a, .bool b => if isBool P t then (match op with
    | .eql => some (.bool (a == b))
    | .neq => some (.bool !(a == b))
    | _ => none) else none
  | _, _ => none
/-- a field's kind: 0 a number, 1 a text, 2 a bool -/
def kindT (P : Program) (t : TypeId) : Nat := match P.underlying t with
  | some (.int _) => 0
  | some .string => 1
  | some .bool => 2
  | _ => 3
/-- the kinds of a struct's fields -/
def kindsOf (P : Program) (t : TypeId) : List Nat := match P.underlying t with
  | some (.struct fs) => fs.toList.map fun f => kindT P f.type
  | _ => []
/-- cells one by one -/
def eqCells : List Nat → List PV → List PV → Option Bool
  | [], [], [] => some true
  | 0 :: ks, .v (.int k a) :: xs, .v (.int k' b) :: ys => if k = k' then (eqCells ks xs ys).map (a == b && ·) else none
  | 1 :: ks, .v (.string a) :: xs, .v (.string b) :: ys => (eqCells ks xs ys).map (a.toList == b.toList && ·)
  | 2 :: ks, .v (.bool a) :: xs, .v (.bool b) :: ys => (eqCells ks xs ys).map (a == b && ·)
  | _, _, _ => none
def unV (op : UnOp) : Value → Option Value
  | .int k n => match op with
    | .neg => some (.int k (k.wrap (0 - n)))
    | .xor => bitsV .xor k (if k.signed then -1 else k.max) n
    | _ => none
  | .bool b => match op with
    | .not => some (.bool !b)
    | _ => none
  | _ => none

/-- What an operation does: rows that it reads, rows that it lays down, its value, how many names it takes. -/
structure Res where
  rd : List (Tok × Row)
  wr : List (Tok × Row)
  v : PV
  al : Nat

def val (x : PV) : Option Res := some ⟨[], [], x, 0⟩

/-- cells laid over cells, from one place on -/
def over (cs : List PV) (f : Nat) (ds : List PV) : List PV := cs.take f ++ ds ++ cs.drop (f + ds.length)

/-- The row behind a token, if this is the version that lies there. -/
def rowAt (h : H) (t : Tok) (ver : Nat) : Option Row := match h t with
  | some r => if r.ver = ver then some r else none
  | none => none

def partsOver (place : Nat → Option (Nat × Nat)) (cs : List PV) : List (Nat × PV) → Option (List PV)
  | [] => some cs
  | (i, x) :: rest => match place i with
    | none => none
    | some (off, size) => if x.cells.length = size ∧ off + size ≤ cs.length then partsOver place (over cs off x.cells) rest else none
/-- elements put into a list by their index -/
def elemsOver (sz : Nat) (xs : List PV) : List (Nat × PV) → Option (List PV)
  | [] => some xs
  | (i, x) :: rest => if x.cells.length = sz ∧ i < xs.length ∧ x.cells.all PV.one = true ∧ x.isAgg = (xs.getD i default).isAgg then elemsOver sz (xs.set i x) rest else none

/-- The elements that a slice reads as. -/
def elemsOf (h : H) : PV → Option (List (Tok × Row) × List PV)
  | .sl _ xs => some ([], xs)
  | .ref t ver off len => match rowAt h t ver with
    | some r => if off + len ≤ r.xs.length then some ([(t, r)], (r.xs.drop off).take len) else none
    | none => none
  | _ => none

def LIM : Nat := 2 ^ 40
def okSz (s : Nat) (xs : List PV) : Bool := xs.all fun y => y.cells.length == s

def appendF (P : Program) (tk : Tok) (hint : Option Nat) (h : H) (ts : TypeId) (s x : PV) : Option Res :=
  match slElem P ts with
  | none => none
  | some e => match szOf P e, elemsOf h x with
    | some sz, some (rd, ys) =>
      if okSz sz ys && decide (bytesOf P e ≤ 64) && decide (0 < sz) && (zeroOf P e).isSome then
        match s with
        | .sl true xs =>
          if xs.length + ys.length ≤ LIM ∧ okSz sz xs = true then
            match hint with
            | none => some ⟨rd, [], .sl false (xs ++ ys), 0⟩
            | some _ => match xs with
              | [] => some ⟨rd, [(tk, ⟨0, sz, ys⟩)], .ref tk 0 0 ys.length, 1⟩
              | _ => none
          else none
        | .ref t ver off len => match rowAt h t ver with
          | some r =>
            if off = 0 ∧ len ≤ r.xs.length ∧ len + ys.length ≤ LIM ∧ r.sz = sz then
              some ⟨(t, r) :: rd, [(t, ⟨ver + 1, sz, r.xs.take len ++ ys⟩)], .ref t (ver + 1) 0 (len + ys.length), 0⟩
            else none
          | none => none
        | _ => none
      else none
    | _, _ => none

def bound (x : PV) (hi : Nat) : Option Nat := match x with
  | .v (.int _ i) => if 0 ≤ i ∧ i ≤ hi then some i.toNat else none
  | _ => none

def lowB : Option PV → Nat → Option Nat
  | some y, b => bound y b
  | none, _ => some 0
def highB : Option PV → Nat → Option Nat
  | some y, n => bound y n
  | none, n => some n

/-- the type's element has this size -/
def okSl (P : Program) (t : TypeId) (xs : List PV) : Bool := match (slElem P t).bind (szOf P) with
  | some s => okSz s xs
  | none => false

def sliceF (P : Program) (h : H) (t : TypeId) (x : PV) (lo hi mx : Option PV) : Option Res :=
  match x with
  | .v (.string s) =>
    if isStr P t && mx.isNone then
      match highB hi s.size with
      | some b => match lowB lo b with
        | some a => val (.v (.string (s.extract a b)))
        | none => none
      | none => none
    else none
  | .sl tight xs =>
    if okSl P t xs then
      match mx with
      | none => match highB hi xs.length with
        | some b => match lowB lo b with
          | some a => val (.sl (tight && (b == xs.length)) ((xs.take b).drop a))
          | none => none
        | none => none
      | some m => match hi with
        | none => none
        | some y => match bound m xs.length with
          | none => none
          | some mm => match bound y mm with
            | none => none
            | some b => match lowB lo b with
              | some a => val (.sl (b == mm) ((xs.take b).drop a))
              | none => none
    else none
  | .ref tk ver off len =>
    match rowAt h tk ver with
    | some r => if (slElem P t).bind (szOf P) == some r.sz && mx.isNone then
        match highB hi len with
        | some b => match lowB lo b with
          | some a => some ⟨[(tk, r)], [], .ref tk ver (off + a) (b - a), 0⟩
          | none => none
        | none => none
      else none
    | none => none
  | _ => none

def loadF (P : Program) (h : H) (t : TypeId) (x : PV) : Option Res :=
  match szOf P t, aggT P t with
  | some s, some ag => match x with
    | .ptr tk ver i f => match rowAt h tk ver with
      | some r => match r.xs[i]? with
        | some e => if ag then (if f + s ≤ e.cells.length then some ⟨[(tk, r)], [], .agg ((e.cells.drop f).take s), 0⟩ else none)
            else (match e.cells[f]? with | some c => some ⟨[(tk, r)], [], c, 0⟩ | none => none)
        | none => none
      | none => none
    | .iptr cs => if ag then (if s ≤ cs.length then val (.agg (cs.take s)) else none) else (match cs[0]? with | some c => val c | none => none)
    | _ => none
  | _, _ => none

def storeF (P : Program) (h : H) (t : TypeId) (a x : PV) : Option Res :=
  match szOf P t, a with
  | some s, .ptr tk ver i f => match rowAt h tk ver with
    | some r => match r.xs[i]? with
      | some (.agg cs) => if x.cells.length = s ∧ f + s ≤ cs.length ∧ x.cells.all PV.one = true then
          some ⟨[(tk, r)], [(tk, { r with xs := r.xs.set i (.agg (over cs f x.cells)) })], .v undef, 0⟩ else none
      | some _ => if x.isAgg = false ∧ s = 1 ∧ f = 0 ∧ x.one = true then some ⟨[(tk, r)], [(tk, { r with xs := r.xs.set i x })], .v undef, 0⟩ else none
      | none => none
    | none => none
  | _, _ => none

def foldV (f : Int → Int → Int) (k : IntKind) : Int → List PV → Option Int
  | a, [] => some a
  | a, .v (.int k' b) :: l => if k' = k then foldV f k (f a b) l else none
  | _, _ => none

def moveF (tk : Tok) (hint : Option Nat) (x : PV) : Option Res := match hint with
  | none => val x
  | some s => match x with
    | .sl true [] => some ⟨[], [(tk, ⟨0, s, []⟩)], .ref tk 0 0 0, 1⟩
    | _ => none

def opF (P : Program) (n : Nat) (tk : Tok) (hint : Option Nat) (o : Op) (ty : TypeId) (env : Nat → PV) (h : H) : Option Res :=
  let e := evO n env
  match o with
  | .move x | .assign x => moveF tk hint (e x)
  | .pick c a b => match e c with
    | .v (.bool q) => val (if q then e a else e b)
    | _ => none
  | .alloc t => match szOf P t, zeroOf P t with
    | some s, some z => some ⟨[], [(tk, ⟨0, s, [z]⟩)], .ptr tk 0 0 0, 1⟩
    | _, _ => none
  | .box t x => match szOf P t with
    | some s => if (e x).cells.length = s ∧ (e x).cells.all PV.one = true then some ⟨[], [(tk, ⟨0, s, [e x]⟩)], .ptr tk 0 0 0, 1⟩ else none
    | none => none
  | .build t parts => match zeroOf P t, placesOf P t with
    | some (.agg z), some pl => if (parts.toList.all fun q => (e q.2).lo.cells.all PV.one) = false then none else match partsOver (fun i => pl[i]?) z (parts.toList.map fun q => (q.1, (e q.2).lo)) with
      | some cs => val (.agg cs)
      | none => none
    | _, _ => none
  | .buildSlice t len parts => match slElem P t with
    | some el => match szOf P el, zeroOf P el with
      | some s, some z => if len * s ≤ 4096 ∧ 0 < s ∧ z.cells.length = s then
          match elemsOver s (List.replicate len z) (parts.toList.map fun q => (q.1, (e q.2).lo)) with
          | some xs => match hint with
            | none => val (.sl true xs)
            | some _ => some ⟨[], [(tk, ⟨0, s, xs⟩)], .ref tk 0 0 len, 1⟩
          | none => none
        else none
      | _, _ => none
    | none => none
  | .load t a => loadF P h t (e a)
  | .store t a x => storeF P h t (e a) (e x)
  | .nilCheck x => match e x with
    | .ptr t ver i f => match rowAt h t ver with
      | some r => some ⟨[(t, r)], [], .ptr t ver i f, 0⟩
      | none => none
    | .iptr cs => val (.iptr cs)
    | .clo f cs => val (.clo f cs)
    | _ => none
  | .binOp op t x y _ => match e x, e y with
    | .v a, .v b => match binV P op t a b with
      | some r => val (.v r)
      | none => none
    | .agg a, .agg b => if plainStruct P t then (match op, eqCells (kindsOf P t) a b with
      | .eql, some r => val (.v (.bool r))
      | .neq, some r => val (.v (.bool !r))
      | _, _ => none) else none
    | _, _ => none
  | .unOp op _ x => match e x with
    | .v a => match unV op a with
      | some r => val (.v r)
      | none => none
    | _ => none
  | .convert src dst x => match e x with
    | .v (.int k i) => match P.underlying src, intT P dst with
      | some _, some k' => val (.v (.int k' (k'.wrap i)))
      | _, _ => none
    | .v (.string s) => if isStr P dst && (P.underlying src).isSome then val (.v (.string s)) else none
    | _ => none
  | .makeFunc (.func f) first caps => if first.size = 0 then val (.clo f (caps.toList.map e)) else none
  | .makeSlice t l c => match slElem P t with
    | some el => match szOf P el, zeroOf P el, e l, e c with
      | some s, some z, .v (.int k i), .v (.int k' j) =>
        if k = .i64 ∧ k' = .i64 ∧ 0 ≤ i ∧ i ≤ j ∧ j.toNat ≤ LIM ∧ bytesOf P el ≤ 64 ∧ 0 < s ∧ z.cells.length = s then
          some ⟨[], [(tk, ⟨0, s, List.replicate i.toNat z⟩)], .ref tk 0 0 i.toNat, 1⟩ else none
      | _, _, _, _ => none
    | none => none
  | .slice t x lo hi mx => sliceF P h t (e x) (lo.map e) (hi.map e) (mx.map e)
  | .fieldAddr s x f => match fldOf P s f with
    | some (off, ft) => if szOf P ft = none ∨ szOf P ft = some 0 then none else match e x with
      | .ptr t ver i g => match rowAt h t ver with
        | some r => some ⟨[(t, r)], [], .ptr t ver i (g + off), 0⟩
        | none => none
      | .iptr cs => if off ≤ cs.length then val (.iptr (cs.drop off)) else none
      | _ => none
    | none => none
  | .field s x f => match fldOf P s f with
    | some (off, ft) => match e x, szOf P ft, aggT P ft with
      | .agg cs, some z, some ag => if ag then (if off + z ≤ cs.length then val (.agg ((cs.drop off).take z)) else none)
          else (match cs[off]? with | some c => val c | none => none)
      | _, _, _ => none
    | none => none
  | .indexAddr t x ix => match slElem P t with
    | some el => match szOf P el, e ix with
      | some s, .v (.int _ i) => match e x with
        | .sl _ xs => if 0 ≤ i ∧ i < xs.length then (match xs[i.toNat]? with
            | some c => if c.cells.length = s then val (.iptr c.cells) else none
            | none => none) else none
        | .ref tk ver off len => match rowAt h tk ver with
          | some r => if 0 ≤ i ∧ i < len ∧ r.sz = s then some ⟨[(tk, r)], [], .ptr tk ver (off + i.toNat) 0, 0⟩ else none
          | none => none
        | _ => none
      | _, _ => none
    | none => none
  | .index t x ix => match e x, e ix with
    | .v (.string s), .v (.int _ i) => if isStr P t ∧ 0 ≤ i then (match s[i.toNat]? with
        | some b => val (.v (.int .u8 b.toNat))
        | none => none) else none
    | _, _ => none
  | .extract x i => match e x with
    | .tup vs => match vs[i]? with
      | some c => val c
      | none => none
    | _ => none
  | .call { callee := .builtin b, args, argTypes } => match b with
    | .len => match argTypes[0]?, args[0]? with
      | some t, some x => match e x with
        | .v (.string s) => if isStr P t then val (.v (.int .i64 s.size)) else none
        | .sl _ xs => if (slElem P t).isSome then val (.v (.int .i64 xs.length)) else none
        | .ref tk ver _ len => match rowAt h tk ver with
          | some r => if (slElem P t).isSome then some ⟨[(tk, r)], [], .v (.int .i64 len), 0⟩ else none
          | none => none
        | _ => none
      | _, _ => none
    | .append => match argTypes.toList, args.toList with
      | [t, t'], [x, y] => if (slElem P t').isSome then appendF P tk hint h t (e x) (e y) else none
      | _, _ => none
    | .max => match args.toList.map e with
      | .v (.int k a) :: l => match foldV (fun x y => if y > x then y else x) k a l with
        | some r => val (.v (.int k r))
        | none => none
      | _ => none
    | .min => match args.toList.map e with
      | .v (.int k a) :: l => match foldV (fun x y => if y < x then y else x) k a l with
        | some r => val (.v (.int k r))
        | none => none
      | _ => none
    | _ => none
  | _ => none

/-! ### rows laid aside: read as lists -/
mutual
inductive FV (h : H) (S : List Tok) : PV → PV → Prop
  | same (x : PV) : FV h S x x
  | row (t : Tok) (ver off len : Nat) (r : Row) (ys : List PV) : t ∈ S → rowAt h t ver = some r → off + len ≤ r.xs.length → len ≤ maxL →
      FVs h S ((r.xs.drop off).take len) ys → FV h S (.ref t ver off len) (.sl false ys)
  | agg (cs ds : List PV) : FVs h S cs ds → FV h S (.agg cs) (.agg ds)
  | tup (cs ds : List PV) : FVs h S cs ds → FV h S (.tup cs) (.tup ds)
  | clo (f : FuncId) (cs ds : List PV) : FVs h S cs ds → FV h S (.clo f cs) (.clo f ds)
  | sl (b : Bool) (xs ys : List PV) : FVs h S xs ys → FV h S (.sl b xs) (.sl false ys)
  | ptr (t : Tok) (ver i f : Nat) (r : Row) (e : PV) (ds : List PV) : t ∈ S → rowAt h t ver = some r → r.xs[i]? = some e → f ≤ e.cells.length →
      FVs h S (e.cells.drop f) ds → FV h S (.ptr t ver i f) (.iptr ds)
inductive FVs (h : H) (S : List Tok) : List PV → List PV → Prop
  | nil : FVs h S [] []
  | cons (x y : PV) (xs ys : List PV) : FV h S x y → FVs h S xs ys → FVs h S (x :: xs) (y :: ys)
end
/- the same, where each slice is one of these rows -/
mutual
inductive FX (h : H) : PV → PV → Prop
  | v (x : Value) : FX h (.v x) (.v x)
  | row (t : Tok) (ver off len : Nat) (r : Row) (ys : List PV) : rowAt h t ver = some r → off + len ≤ r.xs.length → len ≤ maxL →
      FXs h ((r.xs.drop off).take len) ys → FX h (.ref t ver off len) (.sl false ys)
  | agg (cs ds : List PV) : FXs h cs ds → FX h (.agg cs) (.agg ds)
  | tup (cs ds : List PV) : FXs h cs ds → FX h (.tup cs) (.tup ds)
inductive FXs (h : H) : List PV → List PV → Prop
  | nil : FXs h [] []
  | cons (x y : PV) (xs ys : List PV) : FX h x y → FXs h xs ys → FXs h (x :: xs) (y :: ys)
end

inductive Action where
  | fin (rd wr : List (Tok × Row))
  | ca (h h' : H)

def App : Action → H → H → Prop
  | .fin rd wr, h, h' => (∀ x ∈ rd, h x.1 = some x.2) ∧ h' = upds h wr
  | .ca h0 h1, h, h' => h = h0 ∧ h' = h1

/-- two doings that may change places -/
def Action.comm : Action → Action → Prop
  | .fin rd wr, .fin rd' wr' => (∀ x ∈ wr, (∀ y ∈ rd', x.1 ≠ y.1) ∧ ∀ y ∈ wr', x.1 ≠ y.1) ∧ ∀ x ∈ wr', ∀ y ∈ rd, x.1 ≠ y.1
  | .ca _ _, .fin rd wr => rd = [] ∧ wr = []
  | .fin rd wr, .ca _ _ => rd = [] ∧ wr = []
  | .ca _ _, .ca _ _ => False

def boolOf : PV → Option Bool
  | .v (.bool b) => some b
  | _ => none
def yieldE (ops : Array Oper) (n : Nat) (env : Nat → PV) (j : Nat) : Option Bool :=
  match (ops[j]?).bind (·.dst) with
  | some d => if d < n then boolOf (env d) else none
  | none => none

/-- No two operations that neither waits for the other touch one temporary. -/
def apartB (ops : Array Oper) : Bool :=
  (List.range ops.size).all fun i => (List.range i).all fun j =>
    ((Region.before ops).getD i 0).testBit j || Oper.apart ops (ops.getD j default) (ops.getD i default)
def edgesB (ops : Array Oper) : Bool :=
  ops.toList.zipIdx.all fun x => x.1.after.all fun e => !Region.binds .any e || decide (e.on < x.2)

def commOk (ops : Array Oper) (acts : List Action) : Prop :=
  ∀ i, i < ops.size → ∀ j, j < i → ((Region.before ops).getD i 0).testBit j = false → ∀ a b, acts[j]? = some a → acts[i]? = some b → a.comm b

def noH : H := fun _ => none

/-- what a function hands back -/
def retOne (n : Nat) (st : St) : ResultVar → Option PV
  | .tmp t => some (evO n st.env (.tmp t))
  | .cell a _ => match evO n st.env (.tmp a) with
    | .ptr tk ver 0 0 => match rowAt st.h tk ver with
      | some r => r.xs[0]?
      | none => none
    | _ => none
def cellOk (P : Program) (n : Nat) (st : St) : ResultVar → Bool
  | .tmp _ => true
  | .cell a t => match evO n st.env (.tmp a), szOf P t, aggT P t with
    | .ptr tk ver 0 0, some s, some ag => match rowAt st.h tk ver with
      | some r => match r.xs[0]? with
        | some e => e.cells.length == s && e.isAgg == ag
        | none => false
      | none => false
    | _, _, _ => false
def retV (P : Program) (fn : Func) (n : Nat) (st : St) : Option PV :=
  if fn.results.toList.all (cellOk P n st) then
    match fn.results.toList.mapM (retOne n st) with
    | some [x] => some x
    | some vs => some (.tup vs)
    | none => none
  else none

inductive Judg where
  | fn (f : FuncId) (args : List PV) (p : Tok) (h : H) (r : PV) (h' : H)
  | code (p : Tok) (n : Nat) (c : Code) (st : St) (ex : Exit) (st' : St)
  | ops (p : Tok) (n : Nat) (ops : Array Oper) (is : List Nat) (st : St) (acts : List Action) (st' : St)

def env0 (args : List PV) : Nat → PV := fun i => args.getD i (.v undef)

inductive Run (P : Program) : Judg → Prop
  /- calls -/
  | fn {f : FuncId} {args : List PV} {p : Tok} {h : H} {r : PV} {h' : H} {func : Func} {c : Code} {ex : Exit} {st : St} :
      P.funcs[f]? = some func → func.body = some c → (func.name == "runtime.NumGoroutine") = false → Run P (.code p (max func.ntmps args.length) c ⟨env0 args, 0, h⟩ ex st) → ex = .normal ∨ ex = .ret →
      retV P func (max func.ntmps args.length) st = some r → (∀ t, h' t = st.h t ∨ (p <+: t ∧ h' t = h t)) → Run P (.fn f args p h r h')
  | freeze {f : FuncId} {args : List PV} {p : Tok} {h : H} {r : PV} {h1 : H} {S : List Tok} {r' : PV} {h' : H} :
      Run P (.fn f args p h r h1) → (∀ t ∈ S, p <+: t) → FV h1 S r r' → (∀ t, h' t = if t ∈ S then h t else h1 t) → Run P (.fn f args p h r' h')
  /-- slices that are taken as not tight -/
  | fnarg {f : FuncId} {args args' : List PV} {p : Tok} {h : H} {r : PV} {h1 : H} : FVs h [] args args' → Run P (.fn f args' p h r h1) → Run P (.fn f args p h r h1)
  /- code -/
  /-- rows that nobody writes any more -/
  | cfrz {p n c st ex st'} {S : List Tok} {env' : Nat → PV} {h' : H} : (∀ i, FV st.h S (st.env i) (env' i)) → (∀ t ∈ S, h' t = none) → (∀ t r, h' t = some r → st.h t = some r) →
      Run P (.code p n c ⟨env', st.nx, h'⟩ ex st') → Run P (.code p n c st ex st')
  /-- no slice is longer than a number tells -/
  | cabs {p n c st ex st' t b xs} : t < n → st.env t = .sl b xs → ¬ xs.length ≤ maxL → st.nx ≤ st'.nx → Run P (.code p n c st ex st')
  | skip {p n st} : Run P (.code p n .skip st .normal st)
  | label {p n st l} : Run P (.code p n (.label l) st .normal st)
  | exit {p n st id} : Run P (.code p n (.exit id) st (.exit id) st)
  | ret {p n st} : Run P (.code p n .ret st .ret st)
  | seq {p n x y st st1 ex st2} : Run P (.code p n x st .normal st1) → Run P (.code p n y st1 ex st2) → Run P (.code p n (.seq x y) st ex st2)
  | seqX {p n x y st ex st1} : Run P (.code p n x st ex st1) → ex ≠ .normal → Run P (.code p n (.seq x y) st ex st1)
  | cond {p n c x y st q ex st1} : evO n st.env c = .v (.bool q) → Run P (.code p n (if q then x else y) st ex st1) → Run P (.code p n (.cond c x y) st ex st1)
  | block {p n id c st ex st1} : Run P (.code p n c st ex st1) → ex ≠ .exit id → Run P (.code p n (.block id c) st ex st1)
  | blockX {p n id c st st1} : Run P (.code p n c st (.exit id) st1) → Run P (.code p n (.block id c) st .normal st1)
  | loop {p n c st st1 ex st2} : Run P (.code p n c st .normal st1) → Run P (.code p n (.loop c) st1 ex st2) → Run P (.code p n (.loop c) st ex st2)
  | loopX {p n c st ex st1} : Run P (.code p n c st ex st1) → ex ≠ .normal → Run P (.code p n (.loop c) st ex st1)
  | region {p n id ops st acts st'} : Run P (.ops p n ops (List.range ops.size) st acts st') → Run P (.code p n (.region id ops false) st .normal st')
  | regionD {p n id ops st acts st'} : P.follows .mixedOrders = true → apartB ops = true → edgesB ops = true →
      Run P (.ops p n ops (List.range ops.size) st acts st') → commOk ops acts → Run P (.code p n (.region id ops true) st .normal st')
  /- operations, one behind the other -/
  | onil {p n ops st} : Run P (.ops p n ops [] st [] st)
  | oskip {p n ops i is st acts st' o} : ops[i]? = some o → Region.wanted o (yieldE ops n st.env) = false →
      Run P (.ops p n ops is { st with env := putE st.env o.dst (.v undef) } acts st') → Run P (.ops p n ops (i :: is) st (.fin [] [] :: acts) st')
  | oop {p n ops i is st acts st' o res} {hint : Option Nat} : ops[i]? = some o → Region.wanted o (yieldE ops n st.env) = true →
      opF P n (p ++ [st.nx]) hint o.op o.type st.env st.h = some res → (∀ x ∈ res.rd, st.h x.1 = some x.2) →
      Run P (.ops p n ops is ⟨putE st.env o.dst res.v, st.nx + res.al, upds st.h res.wr⟩ acts st') → Run P (.ops p n ops (i :: is) st (.fin res.rd res.wr :: acts) st')
  | ocallN {p n ops i is st acts st' o x args ats f caps r} : ops[i]? = some o → Region.wanted o (yieldE ops n st.env) = true →
      o.op = .call ⟨.value x, args, ats⟩ → evO n st.env x = .clo f caps →
      (∀ h, Run P (.fn f (args.toList.map (evO n st.env) ++ caps) (p ++ [st.nx]) h r h)) →
      Run P (.ops p n ops is ⟨putE st.env o.dst r, st.nx + 1, st.h⟩ acts st') → Run P (.ops p n ops (i :: is) st (.fin [] [] :: acts) st')
  | ocallA {p n ops i is st acts st' o x args ats f caps r l} : ops[i]? = some o → Region.wanted o (yieldE ops n st.env) = true →
      o.op = .call ⟨.value x, args, ats⟩ → evO n st.env x = .clo f caps →
      (∀ h, Run P (.fn f (args.toList.map (evO n st.env) ++ caps) (p ++ [st.nx]) h r (upds h l))) →
      Run P (.ops p n ops is ⟨putE st.env o.dst r, st.nx + 1, upds st.h l⟩ acts st') → Run P (.ops p n ops (i :: is) st (.fin [] l :: acts) st')
  /- a call that may write what it is given -/
  | ocallX {p n ops i is st acts st' o x args ats f caps r h1} : ops[i]? = some o → Region.wanted o (yieldE ops n st.env) = true →
      o.op = .call ⟨.value x, args, ats⟩ → evO n st.env x = .clo f caps →
      Run P (.fn f (args.toList.map (evO n st.env) ++ caps) (p ++ [st.nx]) st.h r h1) →
      Run P (.ops p n ops is ⟨putE st.env o.dst r, st.nx + 1, h1⟩ acts st') →
      Run P (.ops p n ops (i :: is) st (.ca st.h h1 :: acts) st')
  /- a call that reads rows as lists, and sees no row -/
  | ocallL {p n ops i is st acts st' o x args ats f caps r S as r1 h1} : ops[i]? = some o → Region.wanted o (yieldE ops n st.env) = true →
      o.op = .call ⟨.value x, args, ats⟩ → evO n st.env x = .clo f caps → (∀ q ∈ S, st.h q.1 = some q.2) →
      FVs st.h (S.map Prod.fst) (args.toList.map (evO n st.env) ++ caps) as →
      Run P (.fn f as (p ++ [st.nx]) noH r1 h1) → FX h1 r1 r →
      Run P (.ops p n ops is ⟨putE st.env o.dst r, st.nx + 1, st.h⟩ acts st') →
      Run P (.ops p n ops (i :: is) st (.fin S [] :: acts) st')

end Go.Vs
