/- The run of a function over plain values: its state, and what one operation does to it. -/
import Derived.Test.YtfdpbfdhcngfgaaEq
namespace Go.Proofs.Ytfdpbfdhcngfgaa
open Go.RowKit
/-- What is told ahead of a run's choices: this way, that way, both. -/
inductive Orc where
  | nil
  | t (o : Orc)
  | f (o : Orc)
  | both (a b : Orc)
--BEGIN RUN
/-! ### plain values: what operations make of them -/
def AV.prj (x : AV) (i : Nat) : AV := match x with | .tup vs => vs.getD i default | _ => default
def AV.cel (x : AV) (j : Nat) : AV := x.cls.getD j default
def AV.isAgg (x : AV) (m : Nat) : Prop := ∃ cs, x = .agg cs ∧ cs.length = m
def AV.isTup (x : AV) (m : Nat) : Prop := ∃ cs, x = .tup cs ∧ cs.length = m
def AV.isSl (x : AV) (s : Nat) : Prop := x = .sl s x.els
def AV.isInt (x : AV) : Prop := ∃ k n, x = .lit (.int k n)
def AV.isI64 (x : AV) : Prop := x = .int x.num
def AV.isBool (x : AV) : Prop := x = .bool x.tru
def AV.isStr (x : AV) : Prop := x = .string x.str
def AV.isOne (x : AV) : Prop := x.one = true
def AV.isNI (x : AV) : Prop := x = .lit .nilIface
def AV.isEmp (x : AV) : Prop := x.els = []
def AV.len (x : AV) : AV := .int (x.els.length : Nat)
def AV.slen (x : AV) : AV := .int (x.str.size : Nat)
/-- The index i lies in the slice x. -/
def AV.inb (x i : AV) : Prop := i.isInt ∧ 0 ≤ i.num ∧ i.num < x.els.length
def AV.at (x i : AV) (j : Nat) : AV := gt2 x.els i.num.toNat j
def AV.atAgg (x i : AV) (j m : Nat) : AV := .agg (((x.els.getD i.num.toNat []).drop j).take m)
def AV.mk (s : Nat) (L : List (List AV)) : AV := .sl s L
def AV.app (s : Nat) (x y : AV) : AV := .sl s (x.els ++ y.els)
def AV.setEl (x i : AV) (j : Nat) (cs : List AV) : AV := match x with
  | .sl s L => .sl s (L.set i.num.toNat (((L.getD i.num.toNat []).take j ++ cs ++ (L.getD i.num.toNat []).drop (j + cs.length))))
  | x => x
/-- The bytes of a string. -/
def AV.bytes (x : AV) : AV := .sl 1 (x.str.data.toList.map fun b => [.lit (.int .u8 b.toNat)])
def AV.bytesOk (x : AV) : Prop := (x.str.size : Int) ≤ 9223372036854775807
def AV.mkRef (cs : List AV) : AV := .ref cs
def AV.mkClo (f : FuncId) (cs : List AV) : AV := .clo f cs
def AV.isRef (x : AV) (m : Nat) : Prop := ∃ cs, x = .ref cs ∧ cs.length = m
def AV.der (x : AV) : AV := match x with | .ref cs => cs.getD 0 default | _ => default
def AV.derA (x : AV) : AV := match x with | .ref cs => .agg cs | _ => default
def AV.rep (s : Nat) (n : AV) (z : List AV) : AV := .sl s (List.replicate n.num.toNat z)
/-- x[lo:hi], within the length. -/
def AV.sub (s : Nat) (x lo hi : AV) : AV := .sl s ((x.els.take hi.num.toNat).drop lo.num.toNat)
def AV.subOk (x lo hi : AV) : Prop := lo.isInt ∧ hi.isInt ∧ 0 ≤ lo.num ∧ lo.num ≤ hi.num ∧ hi.num ≤ x.els.length
def AV.ssub (x lo hi : AV) : AV := .string (x.str.extract lo.num.toNat hi.num.toNat)
def AV.ssubOk (x lo hi : AV) : Prop := lo.isInt ∧ hi.isInt ∧ 0 ≤ lo.num ∧ lo.num ≤ hi.num ∧ hi.num ≤ x.str.size
def AV.sat (x i : AV) : AV := .lit (.int .u8 ((x.str[i.num.toNat]?).getD 0).toNat)
def AV.sinb (x i : AV) : Prop := i.isInt ∧ 0 ≤ i.num ∧ i.num < x.str.size
def AV.pick (c a b : AV) : AV := match c.tru with | true => a | false => b
def AV.conv (k : IntKind) (x : AV) : AV := .lit (.int k (k.wrap x.num))
def AV.mx (x y : AV) : AV := .lit (.int x.kind (if y.num > x.num then y.num else x.num))
def AV.mn (x y : AV) : AV := .lit (.int x.kind (if y.num < x.num then y.num else x.num))
/-- Cell number i of a few. -/
def AV.off (o : Nat) : List (AV × Nat) → Nat
  | [] => o
  | (i, s) :: l => i.num.toNat * s + AV.off o l
def AV.nth (cs : List AV) (o : Nat) (ix : List (AV × Nat)) : AV := cs.getD (AV.off o ix) default
def AV.nthOk (n o : Nat) (ix : List (AV × Nat)) : Prop := AV.off o ix < n
def AV.inl (n : Nat) (i : AV) : Prop := i.isInt ∧ 0 ≤ i.num ∧ i.num < n
/-- The cells behind an address. -/
def AV.rcs (x : AV) : List AV := match x with | .ref cs => cs | _ => []
def AV.refNth (x : AV) (o : Nat) (ix : List (AV × Nat)) : AV := x.rcs.getD (AV.off o ix) default
def AV.refOk (x : AV) (n o : Nat) (ix : List (AV × Nat)) : Prop := x.isRef n ∧ AV.off o ix < n
def AV.refSl (x : AV) : AV := .sl 1 (x.rcs.map fun c => [c])
/-- From l on, each element is z. -/
def AV.clr (s : Nat) (x l : AV) (z : List AV) : AV := .sl s (x.els.take l.num.toNat ++ List.replicate (x.els.length - l.num.toNat) z)
/-- Bits of numbers. -/
def intB (op : BinOp) (k : IntKind) (a b : Int) : Int := k.wrap (match op with
  | .and => (BitVec.ofInt k.bits a &&& BitVec.ofInt k.bits b).toNat
  | .or => (BitVec.ofInt k.bits a ||| BitVec.ofInt k.bits b).toNat
  | .xor => (BitVec.ofInt k.bits a ^^^ BitVec.ofInt k.bits b).toNat
  | _ => (BitVec.ofInt k.bits a &&& ~~~BitVec.ofInt k.bits b).toNat)
def AV.bin (op : BinOp) (x y : AV) : AV :=
  match x, y with
  | .lit (.int k a), .lit (.int _ b) =>
    match op with
    | .add => .lit (.int k (k.wrap (a + b))) | .sub => .lit (.int k (k.wrap (a - b))) | .mul => .lit (.int k (k.wrap (a * b)))
    | .quo => .lit (.int k (k.wrap (a.tdiv b))) | .rem => .lit (.int k (a.tmod b))
    | .and => .lit (.int k (intB .and k a b)) | .or => .lit (.int k (intB .or k a b)) | .xor => .lit (.int k (intB .xor k a b)) | .andNot => .lit (.int k (intB .andNot k a b))
    | .eql => .bool (a == b) | .neq => .bool (a != b) | .lss => .bool (decide (a < b)) | .leq => .bool (decide (a ≤ b)) | .gtr => .bool (decide (a > b)) | .geq => .bool (decide (a ≥ b))
    | _ => default
  | .lit (.string a), .lit (.string b) =>
    match op with
    | .add => .string (a ++ b)
    | .eql => .bool (a.toList == b.toList) | .neq => .bool (!(a.toList == b.toList)) | .lss => .bool (Op.bytesLess a.toList b.toList) | .leq => .bool (Op.bytesLess a.toList b.toList || a.toList == b.toList)
    | .gtr => .bool (!(Op.bytesLess a.toList b.toList || a.toList == b.toList)) | .geq => .bool (!Op.bytesLess a.toList b.toList)
    | _ => default
  | _, _ => default
def AV.eqB (x y : AV) : AV := .bool (x.tru == y.tru)
def AV.neB (x y : AV) : AV := .bool (!(x.tru == y.tru))
def AV.binOk (op : BinOp) (x y : AV) : Prop :=
  match x, y with
  | .lit (.int k _), .lit (.int k' b) => k = k' ∧
    match op with
    | .quo | .rem => b ≠ 0
    | .shl | .shr => False
    | _ => True
  | .lit (.string a), .lit (.string b) =>
    match op with
    | .add => ((a.size + b.size : Nat) : Int) ≤ 9223372036854775807
    | .eql | .neq | .lss | .leq | .gtr | .geq => True
    | _ => False
  | _, _ => False
def AV.shf (op : BinOp) (x y : AV) : AV :=
  match op with
  | .shl => .lit (.int x.kind (x.kind.wrap (x.num * 2 ^ (min y.num.toNat x.kind.bits))))
  | _ => .lit (.int x.kind (x.num.fdiv (2 ^ (min y.num.toNat x.kind.bits))))
def AV.shfOk (x y : AV) : Prop := x.isInt ∧ y.isInt ∧ 0 ≤ y.num
def AV.un (op : UnOp) (x : AV) : AV :=
  match op, x with
  | .neg, .lit (.int k n) => .lit (.int k (k.wrap (0 - n)))
  | .not, .lit (.bool b) => .bool (!b)
  | _, _ => default
def AV.unOk (op : UnOp) (x : AV) : Prop :=
  match op, x with
  | .neg, .lit (.int _ _) => True
  | .not, .lit (.bool _) => True
  | _, _ => False
def isT (x : AV) : Prop := x.tru = true
def isF (x : AV) : Prop := x.tru = false
def sameNum (x y : AV) : Prop := x.num = y.num
def hasPart (x : AV) (i : Nat) : Prop := ∃ m, x.isTup m ∧ i < m
/-- Two cells are alike. -/
def AV.eqc (x y : AV) : Bool :=
  match x, y with
  | .lit (.int _ a), .lit (.int _ b) => a == b
  | .lit (.string a), .lit (.string b) => a.toList == b.toList
  | .lit (.bool a), .lit (.bool b) => a == b
  | _, _ => false
/-- The planned cells of two structs are alike. -/
def AV.eqPl (pl : List (Nat × EK)) (x y : List AV) : AV := .bool (pl.all fun p => AV.eqc (x.getD p.1 default) (y.getD p.1 default))
def AV.nePl (pl : List (Nat × EK)) (x y : List AV) : AV := .bool (!(pl.all fun p => AV.eqc (x.getD p.1 default) (y.getD p.1 default)))
/-- A cell is as the plan says. -/
def okA (k : EK) (x : AV) : Prop := match k with
  | .int k => ∃ n, x = .lit (.int k n)
  | .str => ∃ s, x = .lit (.string s)
  | .bool => ∃ b, x = .lit (.bool b)
def AV.eqPlOk (pl : List (Nat × EK)) (x y : List AV) : Prop := ∀ p ∈ pl, okA p.2 (x.getD p.1 default) ∧ okA p.2 (y.getD p.1 default)

/-! ### the state -/
/-- What a slot, or a cell of a tracked block, holds. -/
inductive DE where
  | any
  | v (x : AV)
  | c (v : Value)
  | nil
  | ptr (b o : Nat)
  | row (b n : Nat)
  | rp (b n s : Nat) (i : AV) (j : Nat)
  | ip (x i : AV) (s j : Nat)
  | sp (b o : Nat) (ix : List (AV × Nat))
  | rt (b n s : Nat) (l : AV)
  | gp (x : AV) (m o : Nat) (ix : List (AV × Nat))
  | agg (cs : List DE)
  | tup (vs : List DE)
  | fn (f : FuncId) (cs : List DE)
instance : Inhabited DE := ⟨.any⟩
/-- A tracked block. -/
inductive DB where
  | dead
  | cells (t : TypeId) (cs : List DE)
  | row (e s n : Nat) (x : AV)
  | fz (n : Nat) (x : AV)
  | sv (ds : List DE) (vs : Array Value)
instance : Inhabited DB := ⟨.dead⟩
structure DS where
  tm : List DE
  bl : List (Nat × DB)
  clk : Nat
  orc : Orc
def DS.blk (σ : DS) (b : Nat) : DB := match σ.bl.find? (·.1 == b) with | some (_, d) => d | none => .dead

def cst : Value → DE
  | .slice none 0 0 => .nil
  | v => .c v
/-- The tracked blocks that something names. -/
def DE.id0 : DE → List Nat
  | .ptr b _ => [b] | .row b _ => [b] | .rp b _ _ _ _ => [b] | .sp b _ _ => [b] | .rt b _ _ _ => [b]
  | _ => []
def DE.id1 : DE → List Nat
  | .agg cs => cs.flatMap DE.id0
  | d => d.id0
def DE.ids : DE → List Nat
  | .tup vs => vs.flatMap DE.id1
  | .fn _ cs => cs.flatMap DE.id0
  | d => d.id1
def opTmps (o : Op) : List Nat := o.operands.toList.filterMap fun | .tmp t => some t | _ => none

/-- The blocks that an operation may look at: a move looks at none. -/
def opBlks (o : Op) (tm : Nat → DE) : List Nat := match o with
  | .move _ => []
  | o => (opTmps o).flatMap fun t => (tm t).ids
/-- What an operation may look at. -/
structure View where
  tm : Nat → DE
  bl : Nat → DB
  hint : Option Bool := none
def DS.view (σ : DS) (o : Op) : View :=
  { tm := fun t => if (opTmps o).contains t then σ.tm.getD t .any else .any
    bl := fun b => if (opBlks o fun t => σ.tm.getD t .any).contains b then σ.blk b else .dead }
def View.ev (V : View) : Operand → DE
  | .tmp t => V.tm t
  | .const c => cst c
  | .global g => match globL.lookup g with | some cs => .v (AV.mkRef (cs.map .lit)) | none => .any
  | .func f => .fn f []

/-- As a plain value; and the rows that it takes up. -/
def View.pc (V : View) : DE → Option (AV × List Nat)
  | .v x => some (x, [])
  | .c v => some (.lit v, [])
  | .nil => some (.lit (.slice none 0 0), [])
  | .row b n => match V.bl b with
    | .row _ _ m x => if m = n then some (x, [b]) else none
    | .fz m x => if m = n then some (x, []) else none
    | _ => none
  | _ => none
def View.pcs (V : View) : List DE → Option (List AV × List Nat)
  | [] => some ([], [])
  | d :: ds => match V.pc d, V.pcs ds with
    | some (x, r), some (xs, rs) => some (x :: xs, r ++ rs)
    | _, _ => none
def View.pl (V : View) : DE → Option (AV × List Nat)
  | .agg cs => (V.pcs cs).map fun (xs, r) => (.agg xs, r)
  | d => V.pc d
def View.pls (V : View) : List DE → Option (List AV × List Nat)
  | [] => some ([], [])
  | d :: ds => match V.pl d, V.pls ds with
    | some (x, r), some (xs, rs) => some (x :: xs, r ++ rs)
    | _, _ => none
/-- What a function captures: the address of cells, too. -/
def View.cap0 (V : View) : DE → Option (AV × List Nat)
  | .ptr b 0 => match V.bl b with
    | .cells _ cs => match V.pcs cs with
      | some (xs, r) => some (AV.mkRef xs, b :: r)
      | none => none
    | _ => none
  | d => V.pl d
def View.cap0s (V : View) : List DE → Option (List AV × List Nat)
  | [] => some ([], [])
  | d :: ds => match V.cap0 d, V.cap0s ds with
    | some (x, r), some (xs, rs) => some (x :: xs, r ++ rs)
    | _, _ => none
def View.cap (V : View) : DE → Option (AV × List Nat)
  | .fn f cs => match V.cap0s cs with
    | some (xs, r) => some (AV.mkClo f xs, r)
    | none => none
  | d => V.cap0 d
def View.caps (V : View) : List DE → Option (List AV × List Nat)
  | [] => some ([], [])
  | d :: ds => match V.cap d, V.caps ds with
    | some (x, r), some (xs, rs) => some (x :: xs, r ++ rs)
    | _, _ => none
/-- The rows r are from now on never written. -/
def View.frz (V : View) (r : List Nat) : List (Nat × DB) := r.filterMap fun b => match V.bl b with
  | .row _ _ n x => some (b, .fz n x)
  | _ => none

def isAggT (P : Program) (t : TypeId) : Bool := match P.underlying t with | some (.struct _) | some (.array _ _) => true | _ => false
/-- The cells of something of type t; and what is asked for that. -/
def split (P : Program) (t : TypeId) (d : DE) : Option (List DE × List Prop) :=
  match isAggT P t with
  | true => match d with
    | .agg cs => if cs.length = P.cellsOf t then some (cs, []) else none
    | .v x => some ((List.range (P.cellsOf t)).map fun j => .v (x.cel j), [x.isAgg (P.cellsOf t)])
    | _ => none
  | false => if P.cellsOf t = 1 then (match d with
    | .v x => some ([.v x], [x.isOne])
    | .c v => if v.oneCell' then some ([.c v], []) else none
    | .any => none
    | .agg _ => none
    | .tup _ => none
    | d => some ([d], [])) else none
/-- What a load of type t of these cells gives. -/
def whole (P : Program) (t : TypeId) (cs : List DE) : Option DE :=
  if isAggT P t then (if cs.length = P.cellsOf t then some (.agg cs) else none) else match cs with | [d] => some d | _ => none
def zeroOf (P : Program) (t : TypeId) : Option (List DE) := ((P.info? t).bind (·.zero)).map fun z => z.cells.toList.map cst

def onesD (z : List DE) : Bool := z.all fun | .c v => v.oneCell' | _ => true
structure Delta where
  d : DE
  bs : List (Nat × DB)
  deriving Inhabited

/-- What a call gives back. -/
inductive Sh where
  | sc
  | p
  | row (e s : Nat) (flat : Bool)
  | agg (cs : List Sh)
  | tup (vs : List Sh)

/-- What a call of a function is taken for. -/
inductive Ca where
  | fn (sh : Sh)
  | inl
  | upd (ret : Bool)
/-- No part of it may name what the caller owns. -/
def Sh.flat0 : Sh → Bool
  | .sc => true
  | .row _ _ f => f
  | _ => false
def Sh.flat1 : Sh → Bool
  | .agg cs => cs.all Sh.flat0
  | sh => sh.flat0
def Sh.flat : Sh → Bool
  | .tup vs => vs.all Sh.flat1
  | sh => sh.flat1
def Sh.small1 : Sh → Bool
  | .agg cs => cs.length ≤ 8
  | .tup _ => false
  | _ => true
def Sh.small : Sh → Bool
  | .tup vs => vs.length ≤ 8 && vs.all Sh.small1
  | sh => sh.small1
/-- The number of the row in part j, cell i, of what a call gives back. -/
def idOf (st j i : Nat) : Nat := st + 8 * j + i
def leafD (id st : Nat) (r : AV) : Sh → DE
  | .row _ _ _ => .row id st
  | _ => .v r
def Sh.de1 (st j : Nat) (r : AV) : Sh → DE
  | .agg cs => .agg ((List.range cs.length).map fun i => leafD (idOf st j i) st (r.cel i) (cs.getD i .sc))
  | sh => leafD (idOf st j 0) st r sh
def Sh.de (st : Nat) (r : AV) : Sh → DE
  | .tup vs => .tup ((List.range vs.length).map fun j => Sh.de1 st j (r.prj j) (vs.getD j .sc))
  | sh => Sh.de1 st 0 r sh
def leafB (id st : Nat) (r : AV) : Sh → List (Nat × DB)
  | .row e s _ => [(id, .row e s st r)]
  | _ => []
def Sh.bs1 (st j : Nat) (r : AV) : Sh → List (Nat × DB)
  | .agg cs => (List.range cs.length).flatMap fun i => leafB (idOf st j i) st (r.cel i) (cs.getD i .sc)
  | sh => leafB (idOf st j 0) st r sh
def Sh.bs (st : Nat) (r : AV) : Sh → List (Nat × DB)
  | .tup vs => (List.range vs.length).flatMap fun j => Sh.bs1 st j (r.prj j) (vs.getD j .sc)
  | sh => Sh.bs1 st 0 r sh
def leafSh1 (i : Nat) : Sh → Sh
  | .agg cs => cs.getD i .sc
  | sh => if i = 0 then sh else .sc
def leafSh (j i : Nat) : Sh → Sh
  | .tup vs => leafSh1 i (vs.getD j .sc)
  | sh => if j = 0 then leafSh1 i sh else .sc
def isRow : Sh → Bool
  | .row _ _ _ => true
  | _ => false
--END RUN
/-! ### contracts -/
/-- A row of a call's own, from block B on, whose elements are the plain value's. -/
def RRow (w' : World) (B e s : Nat) (okc : Nat → Prop) (r : AV) (v : Value) : Prop :=
  ∃ (L : List (List AV)) (xs : List Value), r = .sl s L ∧ 0 < s ∧ (∀ y ∈ L, y.length = s) ∧ w'.ownsRow B e s v L.length xs ∧ (∀ u ∈ xs, u.oneCell' = true) ∧ ∀ i j, i < L.length → j < s → RV w' okc (gt2 L i j) (xs.getD (i * s + j) undef)
def noBlock (_ : Nat) : Prop := False
section
variable (w' : World) (okn : Nat → Prop) (B : Nat)
def RS0 (r : AV) (v : Value) : Sh → Prop
  | .row e s f => RRow w' B e s (if f then noBlock else okn) r v
  | .p => RV w' okn r v
  | _ => RV w' noBlock r v
def RS1 (r : AV) (v : Value) : Sh → Prop
  | .agg cs => ∃ vs : Array Value, v = .agg vs ∧ vs.size = cs.length ∧ r.isAgg cs.length ∧ ∀ i, i < cs.length → (vs.getD i undef).oneCell' = true ∧ RS0 w' okn B (r.cel i) (vs.getD i undef) (cs.getD i .sc)
  | sh => RS0 w' okn B r v sh
def RS2 (r : AV) (v : Value) : Sh → Prop
  | .tup cs => ∃ vs : Array Value, v = .tuple vs ∧ vs.size = cs.length ∧ r.isTup cs.length ∧ ∀ i, i < cs.length → RS1 w' okn B (r.prj i) (vs.getD i undef) (cs.getD i .sc)
  | sh => RS1 w' okn B r v sh
end
/-! The parts of what a call gives back. -/
def leafVal1 (v : Value) (i : Nat) : Sh → Value
  | .agg _ => match v with | .agg us => us.getD i undef | v => v
  | _ => v
def leafVal (v : Value) (j i : Nat) : Sh → Value
  | .tup vs => match v with | .tuple us => leafVal1 (us.getD j undef) i (vs.getD j .sc) | v => v
  | sh => leafVal1 v i sh
/-- No two rows of it lie in one block. -/
def RowsApart (v : Value) (sh : Sh) : Prop := ∀ j i j' i', isRow (leafSh j i sh) = true → isRow (leafSh j' i' sh) = true → (j ≠ j' ∨ i ≠ i') → ∀ g, (leafVal v j i sh).ownBlock = some g → (leafVal v j' i' sh).ownBlock ≠ some g
/-- The block of one of its rows. -/
def inRows (v : Value) (sh : Sh) (g : Nat) : Prop := ∃ j i, isRow (leafSh j i sh) = true ∧ (leafVal v j i sh).ownBlock = some g
def okNew (ok : Nat → Prop) (B : Nat) (v : Value) (sh : Sh) (g : Nat) : Prop := ok g ∨ (B ≤ g ∧ ¬ inRows v sh g)
/-- The package-level variables that are known hold what they hold; their blocks are among the plain values'. -/
def Gl (B : Nat) (w : World) (ok : Nat → Prop) : Prop := (∀ p ∈ globL, p.1 < B ∧ ok p.1 ∧ (∀ i, i < p.2.length → w.cell? ⟨p.1, i, none⟩ = some (p.2.getD i undef) ∧ (p.2.getD i undef).oneCell' = true) ∧ ∃ x y, w.heap[p.1]? = some (.cells p.2.toArray x y)) ∧
  ∀ g ∈ globI, g < B ∧ ∃ m, w.cell? ⟨g, 0, none⟩ = some (.int .i64 m)
/-- A call of the function enters it. -/
def Ent (P : Program) (f : FuncId) : Prop := ∀ (args : Array Value) (W : World), (callFunc f args).run P W = .ok (.enter f args) W
/-- **The contract of a function**: with these plain values it returns that plain value, and touches nothing that lay there. -/
def Fn (P : Program) (f : FuncId) (args : List AV) (sh : Sh) (r : AV) : Prop :=
  Ent P f ∧ ∀ (w : World) (ok : Nat → Prop) (cargs : Array Value), (∀ g, ok g → g < w.heap.size) → Gl w.heap.size w ok → cargs.size = args.length → (∀ i, i < args.length → RV w ok (args.getD i default) (cargs.getD i undef)) →
    Calls P f cargs w fun e w' => ∃ v, e = .returned v ∧ Below w.heap.size w w' ∧ RS2 w' (okNew ok w.heap.size v sh) w.heap.size r v sh ∧ RowsApart v sh ∧ w.drawn ≤ w'.drawn
/-- The contract of a function that changes a row of the caller's: its first argument. -/
def FnU (P : Program) (f : FuncId) (e s : Nat) (x : AV) (args : List AV) (ret : Bool) (r : AV) : Prop :=
  Ent P f ∧ ∀ (w : World) (ok : Nat → Prop) (B : Nat) (okc : Nat → Prop) (v0 : Value) (cargs : Array Value), RRow w B e s okc x v0 → (∀ g, okc g → v0.ownBlock ≠ some g ∧ g < w.heap.size) → (∀ g, ok g → v0.ownBlock ≠ some g ∧ g < w.heap.size) → B ≤ w.heap.size → Gl w.heap.size w ok →
    cargs.size = args.length → (∀ i, i < args.length → RV w ok (args.getD i default) (cargs.getD i undef)) →
    Calls P f (#[v0] ++ cargs) w fun e' w' => ∃ v, e' = .returned (if ret then v else .tuple #[]) ∧ w.grownBy w' v0.ownBlock ∧ RRow w' B e s okc r v ∧ (ret = false → v = v0) ∧ (∀ g, v.ownBlock = some g → v0.ownBlock = some g ∨ w.heap.size ≤ g) ∧ w.drawn ≤ w'.drawn
/-- The contract of a function that is a plain value. -/
def FnC (P : Program) (x : AV) (args : List AV) (sh : Sh) (r : AV) : Prop := ∃ f cs, x = .clo f cs ∧ Fn P f (args ++ cs) sh r
/-- The contract of a function that is ranged over: it hands out these values, one behind the other, whatever the rounds do beside. -/
def It (P : Program) (f : FuncId) (cs xs : List AV) : Prop :=
  Ent P f ∧ ∀ (l : Nat) (J : List AV → World → Prop) (lb : Array Value) (w : World), lb.size = cs.length →
    (∀ s A C, J s A → Below A.heap.size A C → A.drawn ≤ C.drawn → J s C) →
    (∀ s A, J s A → ∃ ok : Nat → Prop, (∀ g, ok g → g < A.heap.size) ∧ Gl A.heap.size A ok ∧ ∀ i, i < cs.length → RV A ok (cs.getD i default) (lb.getD i undef)) →
    (∀ pre x rest v A n, xs = pre ++ x :: rest → J pre A → RV A noBlock x v → YieldAt Fence.wide n P l #[v] A fun e A' => e = .returned (.bool true) ∧ J (pre ++ [x]) A') →
    J [] w → Calls P f (#[.func (.yield l) #[] #[]] ++ lb) w fun e w' => (∃ v, e = .returned v) ∧ J xs w'
/-- The plain values of several values. -/
def RVs (w : World) (ok : Nat → Prop) (xs : List AV) (vs : Array Value) : Prop := vs.size = xs.length ∧ ∀ i, i < xs.length → RV w ok (xs.getD i default) (vs.getD i undef)
/-- The contract of a function that hands out values to visitors (its last arguments): which visitor, what it is handed, one call behind the other, whatever the visitors do beside. -/
def Vi (P : Program) (f : FuncId) (args : List AV) (rs : List Nat) (evs : List (Nat × List AV)) : Prop :=
  Ent P f ∧ (∀ p ∈ evs, p.1 < rs.length ∧ p.2.length = rs.getD p.1 0) ∧
  ∀ (fs : List (FuncId × Array Value)) (J : List (Nat × List AV) → (Nat → Prop) → World → Prop) (w : World) (ok : Nat → Prop) (cargs : Array Value), fs.length = rs.length → (∀ q ∈ fs, Ent P q.1) →
    (∀ s o A C, J s o A → Below A.heap.size A C → A.drawn ≤ C.drawn → ∃ o', J s o' C ∧ (∀ g, o g → o' g) ∧ ∀ g, A.heap.size ≤ g → g < C.heap.size → o' g) →
    (∀ s o A, J s o A → (∀ g, o g → g < A.heap.size) ∧ Gl A.heap.size A o) →
    (∀ pre p rest o A vs Y u, evs = pre ++ p :: rest → J pre o A → RVs A o p.2 vs → RV A o Y u →
      Calls P (fs.getD p.1 default).1 (vs ++ (fs.getD p.1 default).2) A fun e A' => (∃ v, e = .returned v) ∧ ∃ o', J (pre ++ [p]) o' A' ∧ RV A' o' Y u) →
    RVs w ok args cargs → J [] ok w →
    Calls P f (cargs ++ (fs.map fun q => Value.func (.func q.1) #[] q.2).toArray) w fun e w' => e = .returned (.tuple #[]) ∧ ∃ o', J evs o' w'
--BEGIN RUN
inductive Res where
  | stuck (why : String)
  | det (ob : List Prop) (δ : Delta)
  | ex (ob : AV → Prop) (δ : AV → Delta)

def pure1 (d : DE) : Res := .det [] ⟨d, []⟩
def slT (P : Program) (t : TypeId) : Option (TypeId × Nat × Nat) := match P.underlying t with
  | some (.slice e) => some (e, P.cellsOf e, P.bytesOf e)
  | _ => none
/-- Lays the cells cs over those at o. -/
def lay (l : List DE) (o : Nat) (cs : List DE) : Option (List DE) := if o + cs.length ≤ l.length then some (l.take o ++ cs ++ l.drop (o + cs.length)) else none
def fieldOf (P : Program) (t : TypeId) (f : Nat) : Option Field := match P.underlying t with
  | some (.struct fs) => fs[f]?
  | _ => none
/-- Where part i of a struct or an array lies, and its type. -/
def placeOf (P : Program) (t : TypeId) (i : Nat) : Option (Nat × TypeId) := match P.underlying t with
  | some (.struct fs) => (fs[i]?).map fun f => (f.offset, f.type)
  | some (.array n e) => if i < n then some (i * P.cellsOf e, e) else none
  | _ => none
def fillD (P : Program) (t : TypeId) (V : View) : List DE → List (Nat × Operand) → Option (List DE × List Prop)
  | cs, [] => some (cs, [])
  | cs, (i, x) :: rest => match placeOf P t i with
    | none => none
    | some (o, ft) => match split P ft (V.ev x) with
      | none => none
      | some (ds, obs) => match lay cs o ds with
        | none => none
        | some cs' => if P.cellsOf ft = 0 then none else (fillD P t V cs' rest).map fun (l, obs') => (l, obs ++ obs')
/-- The parts' types are there. -/
def sizesOk (P : Program) (t : TypeId) : Bool := match P.underlying t with
  | some (.struct fs) => fs.toList.all fun f => (P.info? f.type).isSome
  | some (.array _ e) => P.cellsOf e != 0
  | _ => false
/-- The elements of a slice that is written out. -/
def elsD (P : Program) (e : TypeId) (V : View) : List (List DE) → List (Nat × Operand) → Option (List (List DE) × List Prop)
  | L, [] => some (L, [])
  | L, (i, x) :: rest => match split P e (V.ev x) with
    | none => none
    | some (ds, obs) => if i < L.length then (elsD P e V (L.set i ds) rest).map fun (l, obs') => (l, obs ++ obs') else none
/-- Plain, or a function that captures plain values alone. -/
def View.pcf (V : View) : DE → Option (AV × List Nat)
  | .fn f cs => match V.pcs cs with
    | some (xs, []) => some (AV.mkClo f xs, [])
    | _ => none
  | d => V.pc d
def View.pcfs (V : View) : List DE → Option (List AV × List Nat)
  | [] => some ([], [])
  | d :: ds => match V.pcf d, V.pcfs ds with
    | some (x, r), some (xs, rs) => some (x :: xs, r ++ rs)
    | _, _ => none
def View.pcss (V : View) : List (List DE) → Option (List (List AV) × List Nat)
  | [] => some ([], [])
  | d :: ds => match V.pcfs d, V.pcss ds with
    | some (x, r), some (xs, rs) => some (x :: xs, r ++ rs)
    | _, _ => none
/-- A slice's element type's size, its elements as a plain value. -/
def View.asSl (V : View) (s : Nat) : DE → Option (AV × List Prop)
  | .v x => some (x, [x.isSl s])
  | .nil => some (AV.mk s [], [])
  | .row b n => match V.bl b with
    | .row _ s' m x => if m = n ∧ s' = s then some (x, []) else none
    | .fz m x => if m = n then some (x, [x.isSl s]) else none
    | _ => none
  | _ => none
def AV.room (x y : AV) (bytes : Nat) : Prop := (x.els.length + y.els.length) * bytes ≤ 140737488355328
def AV.mkOk (n : AV) (bytes : Nat) : Prop := n.isI64 ∧ 0 ≤ n.num ∧ n.num * bytes ≤ 140737488355328

/-- A row appended to itself: both stay as they are, plain. -/
def isSelf : DE → Nat → Bool
  | .row b' _, b => b == b'
  | _, _ => false
def appendD (P : Program) (t : TypeId) (st : Nat) (V : View) (s x : DE) : Res :=
  match slT P t with
  | none => .stuck "append: type"
  | some (e, sz, by_) =>
    if sz = 0 ∨ by_ = 0 ∨ (zeroOf P e).isNone ∨ (zeroOf P e).map (·.length) ≠ some sz then .stuck "append: element" else
    match V.asSl sz x with
    | none => .stuck "append: what is appended"
    | some (y, obs) =>
      match s with
      | .nil => .det (obs ++ [AV.room (AV.mk sz []) y by_]) ⟨.row st st, [(st, .row e sz st (AV.app sz (AV.mk sz []) y))]⟩
      | .row b n => match V.bl b with
        | .row e' s' m X => if m = n ∧ s' = sz ∧ e' = e then (if isSelf x b then .det (obs ++ [AV.room X y by_]) ⟨.v (AV.app sz X y), [(b, .fz m X)]⟩ else .det (obs ++ [AV.room X y by_]) ⟨.row b st, [(b, .row e sz st (AV.app sz X y))]⟩) else .stuck "append: an elder row"
        | _ => .stuck "append: no row"
      | _ => .stuck "append: to what"

def constInt : DE → Option (IntKind × Int)
  | .c (.int k n) => some (k, n)
  | _ => none
def foldCmp (op : BinOp) (a b : Int) : Option Bool := match op with
  | .eql => some (a == b) | .neq => some (a != b) | .lss => some (decide (a < b)) | .leq => some (decide (a ≤ b)) | .gtr => some (decide (a > b)) | .geq => some (decide (a ≥ b))
  | _ => none
def stampOf : DB → Option Nat
  | .row _ _ n _ => some n
  | .fz n _ => some n
  | _ => none
def isNilPtr : DE → Bool
  | .c (.pointer none) => true
  | _ => false
def View.isPtr (V : View) : DE → Bool
  | .ptr _ _ => true
  | .ip _ _ _ _ => true
  | .sp _ _ _ => true
  | .rp b n _ _ _ => stampOf (V.bl b) == some n
  | _ => false
def isShift : BinOp → Bool
  | .shl => true
  | .shr => true
  | _ => false
def binD (P : Program) (op : BinOp) (t : TypeId) (V : View) (x y : DE) : Res :=
  match constInt x, constInt y, foldCmp op ((constInt x).getD (.i64, 0)).2 ((constInt y).getD (.i64, 0)).2 with
  | some (k, _), some (k', _), some b => if k = k' then pure1 (.c (.bool b)) else .stuck "compare: kinds"
  | _, _, _ =>
    match P.underlying t with
    | some (.int _) => if isShift op then (match V.pc x, V.pc y with
        | some (a, []), some (b, []) => .det [AV.shfOk a b] ⟨.v (AV.shf op a b), []⟩
        | _, _ => .stuck "shift")
      else (match V.pc x, V.pc y with
        | some (a, []), some (b, []) => .det [AV.binOk op a b] ⟨.v (AV.bin op a b), []⟩
        | _, _ => .stuck "binop: operands")
    | some .string => match V.pc x, V.pc y with
      | some (a, []), some (b, []) => .det [AV.binOk op a b] ⟨.v (AV.bin op a b), []⟩
      | _, _ => .stuck "binop: operands"
    | some .bool => match V.pc x, V.pc y with
      | some (a, []), some (b, []) => match op with
        | .eql => .det [a.isBool, b.isBool] ⟨.v (AV.eqB a b), []⟩
        | .neq => .det [a.isBool, b.isBool] ⟨.v (AV.neB a b), []⟩
        | _ => .stuck "binop: bools"
      | _, _ => .stuck "binop: operands"
    | some (.pointer _) => if V.isPtr x && isNilPtr y then (match op with
        | .eql => pure1 (.c (.bool false))
        | .neq => pure1 (.c (.bool true))
        | _ => .stuck "pointers") else .stuck "pointers"
    | some (.struct _) => if P.eqGuardType P.depth t then .stuck "structs: type" else match eqPlan P 8 t, split P t x, split P t y with
      | some pl, some (cs, o1), some (ds, o2) => match V.pcs cs, V.pcs ds with
        | some (xs, _), some (ys, _) => match op with
          | .eql => .det (AV.eqPlOk pl xs ys :: (o1 ++ o2)) ⟨.v (AV.eqPl pl xs ys), []⟩
          | .neq => .det (AV.eqPlOk pl xs ys :: (o1 ++ o2)) ⟨.v (AV.nePl pl xs ys), []⟩
          | _ => .stuck "structs"
        | _, _ => .stuck "structs: cells"
      | _, _, _ => .stuck "structs: plan"
    | _ => .stuck "binop: type"

def isNilI : Operand → Bool
  | .const .nilIface => true
  | _ => false
def nilID (P : Program) (op : BinOp) (t : TypeId) (V : View) (x : DE) : Res := match P.underlying t, V.pc x with
  | some (.interface _), some (a, []) => (match op with
    | .eql => .det [a.isNI] ⟨.c (.bool true), []⟩
    | .neq => .det [a.isNI] ⟨.c (.bool false), []⟩
    | _ => .stuck "ifaces")
  | _, _ => .stuck "ifaces"

def lenD (P : Program) (V : View) (d : DE) (t : TypeId) : Res := match P.underlying t with
  | some .string => match V.pc d with
    | some (a, []) => .det [a.isStr] ⟨.v a.slen, []⟩
    | _ => .stuck "len"
  | some (.slice e) => match d with
    | .nil => pure1 (.c (.int .i64 0))
    | d => match V.asSl (P.cellsOf e) d with
      | some (a, obs) => .det obs ⟨.v a.len, []⟩
      | none => .stuck "len"
  | some (.array n _) => pure1 (.c (.int .i64 n))
  | _ => .stuck "len: type"
def isU8 (P : Program) (e : TypeId) : Bool := match P.underlying e with | some (.int .u8) => true | _ => false
def isUndef : DE → Bool
  | .c (.tuple vs) => vs.isEmpty
  | _ => false
def View.bnd (V : View) (x : Option Operand) (z : AV) : Option (AV × List Nat) := match x with | none => some (z, []) | some l => V.pc (V.ev l)
def opD (P : Program) (Γ : FuncId → Option Ca) (o : Oper) (st : Nat) (V : View) : Res :=
  match o.op with
  | .move x => pure1 (V.ev x)
  | .assign x => match V.ev x, slT P o.type with
    | .nil, some (e, s, _) => if s = 0 then pure1 .nil else .det [] ⟨.row st st, [(st, .row e s st (AV.mk s []))]⟩
    | d, _ => pure1 d
  | .pick c a b => match V.ev c with
   | .c (.bool true) => pure1 (V.ev a)
   | .c (.bool false) => pure1 (V.ev b)
   | d => match V.pc d with
    | some (x, []) => if V.hint = some true then .det [x.isBool, isT x] ⟨V.ev a, []⟩ else if V.hint = some false then .det [x.isBool, isF x] ⟨V.ev b, []⟩ else if isUndef (V.ev a) then .det [x.isBool, isF x] ⟨V.ev b, []⟩ else if isUndef (V.ev b) then .det [x.isBool, isT x] ⟨V.ev a, []⟩
      else match V.pc (V.ev a), V.pc (V.ev b) with
        | some (y, []), some (z, []) => .det [x.isBool] ⟨.v (AV.pick x y z), []⟩
        | _, _ => .stuck "pick"
    | _ => .stuck "pick"
  | .alloc t => match zeroOf P t with
    | some z => if onesD z then .det [] ⟨.ptr st 0, [(st, .cells t z)]⟩ else .stuck "alloc"
    | none => .stuck "alloc"
  | .box t x => match split P t (V.ev x) with
    | some (cs, obs) => .det obs ⟨.ptr st 0, [(st, .cells t cs)]⟩
    | none => .stuck "box"
  | .build t ps => match zeroOf P t with
    | none => .stuck "build"
    | some z => if !onesD z then .stuck "build" else if !sizesOk P t then .stuck "build: types" else match fillD P t V z ps.toList with
      | some (cs, obs) => .det obs ⟨.agg cs, []⟩
      | none => .stuck "build"
  | .buildSlice t n ps => match slT P t with
    | none => .stuck "buildSlice"
    | some (e, s, _) => match zeroOf P e with
      | none => .stuck "buildSlice"
      | some z => if s = 0 ∨ z.length ≠ s ∨ n * s > 16777216 ∨ onesD z = false then .stuck "buildSlice: size" else match elsD P e V (List.replicate n z) ps.toList with
        | none => .stuck "buildSlice: parts"
        | some (L, obs) => match V.pcss L with
          | none => .stuck "buildSlice: not plain"
          | some (L', r) => .det obs ⟨.row st st, (st, .row e s st (AV.mk s L')) :: V.frz r⟩
  | .load t a => if (P.underlying t).isNone ∨ P.cellsOf t = 0 then .stuck "load: type" else match V.ev a with
    | .ptr b k => match V.bl b with
      | .cells _ cs => match whole P t ((cs.drop k).take (P.cellsOf t)) with
        | some d => pure1 d
        | none => .stuck "load: cells"
      | _ => .stuck "load: no such block"
    | .rp b n s i j => match V.bl b with
      | .row _ s' m X => if m = n ∧ s' = s ∧ j + P.cellsOf t ≤ s ∧ (isAggT P t = true ∨ P.cellsOf t = 1) then .det [X.inb i] ⟨if isAggT P t then .v (X.atAgg i j (P.cellsOf t)) else .v (X.at i j), []⟩ else .stuck "load: an elder row"
      | _ => .stuck "load: no row"
    | .ip X i s j => if j + P.cellsOf t ≤ s ∧ (isAggT P t = true ∨ P.cellsOf t = 1) then pure1 (if isAggT P t then .v (X.atAgg i j (P.cellsOf t)) else .v (X.at i j)) else .stuck "load: size"
    | .sp b k ix => match V.bl b with
      | .cells _ cs => if isAggT P t then .stuck "load: sp" else match V.pcs cs with
        | some (xs, []) => .det [AV.nthOk xs.length k ix] ⟨.v (AV.nth xs k ix), []⟩
        | _ => .stuck "load: sp cells"
      | _ => .stuck "load: sp block"
    | .gp X m k ix => if isAggT P t then .stuck "load: gp" else if P.cellsOf t = 1 then .det [AV.refOk X m k ix] ⟨.v (AV.refNth X k ix), []⟩ else .stuck "load: size"
    | .v X => if isAggT P t then .det [X.isRef (P.cellsOf t)] ⟨.v X.derA, []⟩ else if P.cellsOf t = 1 then .det [X.isRef 1] ⟨.v X.der, []⟩ else .stuck "load: size"
    | _ => .stuck "load: address"
  | .store t a x => if P.cellsOf t = 0 then .stuck "store: type" else match V.ev a with
    | .ptr b k => match V.bl b with
      | .cells t' cs => match split P t (V.ev x) with
        | some (ds, obs) => match lay cs k ds with
          | some cs' => .det obs ⟨.any, [(b, .cells t' cs')]⟩
          | none => .stuck "store: beyond"
        | none => .stuck "store: what"
      | _ => .stuck "store: no such block"
    | .rp b n s i j => match V.bl b with
      | .row e s' m X => if m = n ∧ s' = s ∧ j + P.cellsOf t ≤ s then (match split P t (V.ev x) with
        | some (ds, obs) => match V.pcs ds with
          | some (ys, r) => if r.contains b then .stuck "store: itself" else .det (obs ++ [X.inb i]) ⟨.any, (b, .row e s m (X.setEl i j ys)) :: V.frz r⟩
          | none => .stuck "store: not plain"
        | none => .stuck "store: what") else .stuck "store: an elder row"
      | _ => .stuck "store: no row"
    | _ => .stuck "store: address"
  | .nilCheck x => if V.isPtr (V.ev x) then pure1 (V.ev x) else (match V.ev x with | .fn f cs => pure1 (.fn f cs) | _ => .stuck "nilCheck")
  | .binOp op t x y _ => if isNilI y then nilID P op t V (V.ev x) else binD P op t V (V.ev x) (V.ev y)
  | .unOp op _ x => match V.ev x, op with
    | .c (.bool b), .not => pure1 (.c (.bool (!b)))
    | d, _ => match V.pc d with
      | some (a, []) => .det [AV.unOk op a] ⟨.v (AV.un op a), []⟩
      | _ => .stuck "unop"
  | .convert s t x => match P.underlying s, P.underlying t, V.pc (V.ev x) with
    | some _, some (.int k), some (a, []) => .det [a.isInt] ⟨.v (AV.conv k a), []⟩
    | some _, some .string, some (a, []) => .det [a.isStr] ⟨.v a, []⟩
    | some .string, some (.slice e), some (a, []) => if isU8 P e then .det [a.isStr, a.bytesOk] ⟨.v a.bytes, []⟩ else .stuck "convert"
    | _, _, _ => .stuck "convert"
  | .makeFunc (.func f) first caps => if first.isEmpty then pure1 (.fn f (caps.toList.map V.ev)) else .stuck "makeFunc"
  | .makeSlice t l c => match slT P t with
    | none => .stuck "make"
    | some (e, s, by_) => match zeroOf P e, V.pc (V.ev l), V.pc (V.ev c) with
      | some z, some (n, []), some (m, []) => match V.pcs z with
        | some (z', []) => if s = 0 ∨ z.length ≠ s ∨ by_ = 0 ∨ onesD z = false then .stuck "make: size" else .det [n.mkOk by_, m.isI64, sameNum m n] ⟨.row st st, [(st, .row e s st (AV.rep s n z'))]⟩
        | _ => .stuck "make: zero"
      | _, _, _ => .stuck "make"
  | .slice t x lo hi none => match P.underlying t with
    | some .string => match V.pc (V.ev x) with
      | some (a, []) => match V.bnd lo (AV.int 0), V.bnd hi a.slen with
        | some (l, []), some (h, []) => .det [a.isStr, AV.ssubOk a l h] ⟨.v (AV.ssub a l h), []⟩
        | _, _ => .stuck "slice of a string"
      | _ => .stuck "slice of a string"
    | some (.array n e) => (match V.ev x, lo, hi with
      | .v X, none, none => if P.cellsOf e = 1 ∧ n ≤ 65536 then .det [X.isRef n] ⟨.v X.refSl, []⟩ else .stuck "slice: array's elements"
      | _, _, _ => .stuck "slice: array")
    | some (.slice e) => if P.cellsOf e = 0 then .stuck "slice: size" else if V.hint = some true then (match V.ev x, lo, hi with
      | .row b n, some lo', none => (match V.bl b, V.pc (V.ev lo') with
        | .row _ s m X, some (l, []) => if m = n ∧ s = P.cellsOf e then .det [AV.subOk X l X.len] ⟨.rt b n s l, []⟩ else .stuck "slice: an elder row"
        | _, _ => .stuck "slice: to clear")
      | _, _, _ => .stuck "slice: to clear") else match V.asSl (P.cellsOf e) (V.ev x) with
      | some (a, obs) => match V.bnd lo (AV.int 0), V.bnd hi a.len with
        | some (l, []), some (h, []) => .det (obs ++ [AV.subOk a l h]) ⟨.v (AV.sub (P.cellsOf e) a l h), (match V.ev x with | .row b _ => V.frz [b] | _ => [])⟩
        | _, _ => .stuck "slice: bounds"
      | none => .stuck "slice: of what"
    | _ => .stuck "slice: type"
  | .fieldAddr t x f => match fieldOf P t f with
    | none => .stuck "fieldAddr"
    | some fl => if P.cellsOf fl.type = 0 then .stuck "fieldAddr: size" else match V.ev x with
      | .ptr b k => pure1 (.ptr b (k + fl.offset))
      | .rp b n s i j => if stampOf (V.bl b) == some n then pure1 (.rp b n s i (j + fl.offset)) else .stuck "fieldAddr: an elder row"
      | .ip X i s j => pure1 (.ip X i s (j + fl.offset))
      | _ => .stuck "fieldAddr: address"
  | .field t x f => match fieldOf P t f, split P t (V.ev x) with
    | some fl, some (cs, obs) => if (P.underlying fl.type).isNone ∨ P.cellsOf fl.type = 0 then .stuck "field: type" else match whole P fl.type ((cs.drop fl.offset).take (P.cellsOf fl.type)) with
      | some d => .det obs ⟨d, []⟩
      | none => .stuck "field"
    | _, _ => .stuck "field"
  | .indexAddr t x i => match P.underlying t, V.pc (V.ev i) with
    | some (.slice e), some (k, []) => if P.cellsOf e = 0 then .stuck "indexAddr: size" else match V.ev x with
      | .v X => .det [X.isSl (P.cellsOf e), X.inb k] ⟨.ip X k (P.cellsOf e) 0, []⟩
      | .row b n => match V.bl b with
        | .row _ s m X => if m = n ∧ s = P.cellsOf e then .det [X.inb k] ⟨.rp b n s k 0, []⟩ else .stuck "indexAddr: an elder row"
        | .fz m X => if m = n then .det [X.isSl (P.cellsOf e), X.inb k] ⟨.ip X k (P.cellsOf e) 0, []⟩ else .stuck "indexAddr: an elder row"
        | _ => .stuck "indexAddr: no row"
      | _ => .stuck "indexAddr: of what"
    | some (.array n e), some (k, []) => if P.cellsOf e = 0 then .stuck "indexAddr: size" else match V.ev x, constInt (V.ev i) with
      | .ptr b o', some (_, j) => if 0 ≤ j ∧ j < n then pure1 (.ptr b (o' + j.toNat * P.cellsOf e)) else .stuck "indexAddr: out of range"
      | .ptr b o', none => .det [AV.inl n k] ⟨.sp b o' [(k, P.cellsOf e)], []⟩
      | .sp b o' ix, _ => .det [AV.inl n k] ⟨.sp b o' ((k, P.cellsOf e) :: ix), []⟩
      | .v X, _ => .det [AV.inl n k, X.isRef (n * P.cellsOf e)] ⟨.gp X (n * P.cellsOf e) 0 [(k, P.cellsOf e)], []⟩
      | _, _ => .stuck "indexAddr: array"
    | _, _ => .stuck "indexAddr"
  | .index t x i => match P.underlying t with
    | some .string => (match V.pc (V.ev x), V.pc (V.ev i) with
      | some (a, []), some (k, []) => .det [a.isStr, AV.sinb a k] ⟨.v (AV.sat a k), []⟩
      | _, _ => .stuck "index")
    | some (.array n e) => (match split P t (V.ev x), V.pc (V.ev i) with
      | some (cs, obs), some (k, []) => (match V.pcs cs with
        | some (xs, []) => if P.cellsOf e = 0 ∨ (P.underlying e).isNone ∨ xs.length ≠ n * P.cellsOf e then .stuck "index: array's type" else (match whole P e ((List.range (P.cellsOf e)).map fun j => .v (AV.nth xs j [(k, P.cellsOf e)])) with
          | some d => .det (obs ++ [AV.inl n k]) ⟨d, []⟩
          | none => .stuck "index: array's element")
        | _ => .stuck "index: array's cells")
      | _, _ => .stuck "index: array")
    | _ => .stuck "index"
  | .extract t i => match V.ev t with
    | .tup ds => match ds[i]? with
      | some d => pure1 d
      | none => .stuck "extract"
    | .v x => .det [hasPart x i] ⟨.v (x.prj i), []⟩
    | _ => .stuck "extract"
  | .call { callee := .builtin b, args, argTypes } => match b with
    | .len => match args.toList, argTypes.toList with
      | [x], [t] => lenD P V (V.ev x) t
      | _, _ => .stuck "len"
    | .max => match args.toList with
      | [x, y] => (match V.pc (V.ev x), V.pc (V.ev y) with
        | some (a, []), some (c, []) => .det [a.isInt, c.isInt] ⟨.v (AV.mx a c), []⟩
        | _, _ => .stuck "max")
      | [x, y, z] => (match V.pc (V.ev x), V.pc (V.ev y), V.pc (V.ev z) with
        | some (a, []), some (c, []), some (d, []) => .det [a.isInt, c.isInt, d.isInt] ⟨.v (AV.mx (AV.mx a c) d), []⟩
        | _, _, _ => .stuck "max")
      | _ => .stuck "max"
    | .min => match args.toList with
      | [x, y] => (match V.pc (V.ev x), V.pc (V.ev y) with
        | some (a, []), some (c, []) => .det [a.isInt, c.isInt] ⟨.v (AV.mn a c), []⟩
        | _, _ => .stuck "min")
      | _ => .stuck "min"
    | .append => match args.toList, argTypes.toList with
      | [s, x], [t, t'] => if t = t' then appendD P t st V (V.ev s) (V.ev x) else .stuck "append: types"
      | _, _ => .stuck "append"
    | .clear => match args.toList, argTypes.toList with
      | [x], [t] => (match V.ev x, slT P t with
        | .rt b n s l, some (e, s', _) => (match V.bl b, zeroOf P e with
          | .row e' s2 m X, some z => (match V.pcs z with
            | some (z', []) => if m = n ∧ s2 = s ∧ s' = s ∧ s ≠ 0 ∧ z.length = s ∧ onesD z = true then .det [] ⟨.tup [], [(b, .row e' s m (AV.clr s X l z'))]⟩ else .stuck "clear: an elder row"
            | _ => .stuck "clear: zero")
          | _, _ => .stuck "clear: no row")
        | _, _ => .stuck "clear: of what")
      | _, _ => .stuck "clear"
    | _ => .stuck "builtin"
  | .call { callee := .value g, args, .. } => match V.ev g with
    | .fn f caps => match Γ f with
      | some (.fn sh) => match V.pls (args.toList.map V.ev ++ caps) with
        | some (xs, r) => if sh.small then .ex (fun y => Fn P f xs sh y) (fun y => ⟨sh.de st y, sh.bs st y ++ (if sh.flat then [] else V.frz r)⟩) else .stuck "call: rows"
        | none => match V.caps (args.toList.map V.ev ++ caps) with
          | some (xs, _) => if sh.small && sh.flat then .ex (fun y => Fn P f xs sh y) (fun y => ⟨sh.de st y, sh.bs st y⟩) else .stuck "call: rows"
          | none => .stuck "call: arguments"
      | some (.upd ret) => match args.toList.map V.ev ++ caps with
        | .row b n :: rest => match V.bl b, V.caps rest with
          | .row e s m X, some (xs, r) => if m = n ∧ ¬ r.contains b then .ex (fun y => FnU P f e s X xs ret y) (fun y => ⟨if ret then .row b st else .tup [], [(b, .row e s (if ret then st else m) y)]⟩) else .stuck "call: an elder row"
          | _, _ => .stuck "call: row's arguments"
        | _ => .stuck "call: no row"
      | some .inl => .stuck "call: to walk into"
      | none => .stuck "call: no contract"
    | .v x => match V.pls (args.toList.map V.ev) with
      | some (xs, []) => .ex (fun y => FnC P x xs .sc y) (fun y => ⟨(Sh.sc).de st y, (Sh.sc).bs st y⟩)
      | _ => .stuck "call: a plain function's arguments"
    | _ => .stuck "call: of what"
  | _ => .stuck "operation"
/-- A call that is walked into. -/
def inlOf (Γ : FuncId → Option Ca) (o : Op) (V : View) : Option (FuncId × List DE) := match o with
  | .call { callee := .value g, args, .. } => match V.ev g with
    | .fn f caps => match Γ f with
      | some .inl => some (f, args.toList.map V.ev ++ caps)
      | _ => none
    | _ => none
  | _ => none
--END RUN
end Go.Proofs.Ytfdpbfdhcngfgaa
