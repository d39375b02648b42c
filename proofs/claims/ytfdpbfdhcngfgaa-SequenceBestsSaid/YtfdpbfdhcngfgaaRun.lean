/- The run of a function over plain values: its text. -/
import Derived.Test.YtfdpbfdhcngfgaaSt
namespace Go.Proofs.Ytfdpbfdhcngfgaa
open Go.RowKit
/-! ### the words of the formula -/
def fAnd (p q : Prop) : Prop := p ∧ q
def fImp (p q : Prop) : Prop := p → q
def fAllV (F : Array Value → Prop) : Prop := ∀ vs, F vs
/-- A slice is nil, or is not: only where it has no elements can it be so. -/
def fNil (x : AV) (F G : Prop) : Prop := ((∃ s L, x = .sl s L) ∧ (x.els = [] → F) ∧ G) ∨ (x = .lit (.slice none 0 0) ∧ F)
def fEx (_ : Nat) (p : AV → Prop) : Prop := ∃ x, p x
def fStuck (_ : String) : Prop := False
def fEnt (P : Program) (f : FuncId) : Prop := Ent P f
def fSame (x y : AV) : Prop := x = y
def fLoop (_ : Nat) (xs : List AV) (body : List AV → (List AV → Prop) → Prop) : Prop :=
  ∃ (Inv : Nat → List AV → Prop) (m0 : Nat), Inv m0 xs ∧ ∀ m ys, ys.length = xs.length → Inv m ys → body ys fun zs => ∃ m', m' < m ∧ Inv m' zs
/-- A loop over a function: what it hands out; what the rounds carry. -/
def fIter (P : Program) (_ : Nat) (X : AV) (ys0 : List AV) (body : AV → List AV → (List AV → Prop) → Prop) (K : List AV → Prop) : Prop :=
  ∃ (f : FuncId) (cs xs : List AV), X = .clo f cs ∧ It P f cs xs ∧ ∃ Inv : List AV → List AV → Prop, Inv [] ys0 ∧
    (∀ pre x rest ys, xs = pre ++ x :: rest → ys.length = ys0.length → Inv pre ys → body x ys fun zs => Inv (pre ++ [x]) zs) ∧ ∀ ys, ys.length = ys0.length → Inv xs ys → K ys
/-- For every plain value that lies there beside. -/
def fAllY (_ : Nat) (F : AV → Prop) : Prop := ∀ Y, F Y
/-- A call that hands out values to visitors; what their calls carry. -/
def fVis (P : Program) (f : FuncId) (xs : List AV) (rs : List Nat) (_ : Nat) (ys0 : List AV) (bodies : List (List AV → List AV → (List AV → Prop) → Prop)) (K : List AV → Prop) : Prop :=
  ∃ evs : List (Nat × List AV), Vi P f xs rs evs ∧ ∃ Inv : List (Nat × List AV) → List AV → Prop, Inv [] ys0 ∧
    (∀ pre p rest ys, evs = pre ++ p :: rest → ys.length = ys0.length → Inv pre ys → bodies.getD p.1 (fun _ _ _ => False) p.2 ys fun zs => Inv (pre ++ [p]) zs) ∧ ∀ ys, ys.length = ys0.length → Inv evs ys → K ys
/-- It holds no memory. -/
inductive AV.flat : AV → Prop
  | lit (v : Value) : AV.flat (.lit v)
  | nil (s : Nat) : AV.flat (.sl s [])
  | agg (cs : List AV) (h : ∀ x ∈ cs, AV.flat x) : AV.flat (.agg cs)
def AV.flatS (x : AV) : Prop := ∀ y ∈ x.els, ∀ z ∈ y, z.flat
/-- A choice: as it was told ahead. -/
def decF (σ : DS) (x : AV) (A B : DS → Prop) : Prop := match σ.orc with
  | .t o => fAnd x.isBool (fAnd (isT x) (A { σ with orc := o }))
  | .f o => fAnd x.isBool (fAnd (isF x) (B { σ with orc := o }))
  | .both a b => fAnd x.isBool (fAnd (fImp (isT x) (A { σ with orc := a })) (fImp (isF x) (B { σ with orc := b })))
  | .nil => fAnd x.isBool (fAnd (fImp (isT x) (A σ)) (fImp (isF x) (B σ)))
/-- What was told ahead for this side of a slice that is nil or is not. -/
def DS.lft (σ : DS) : DS := { σ with orc := match σ.orc with | .both a _ => a | o => o }
def DS.rgt (σ : DS) : DS := { σ with orc := match σ.orc with | .both _ b => b | o => o }
def DS.rgts : Nat → DS → DS
  | 0, σ => σ
  | n + 1, σ => DS.rgts n σ.rgt
--BEGIN RUN
def obsF : List Prop → Prop → Prop
  | [], F => F
  | p :: l, F => fAnd p (obsF l F)
def DS.put (σ : DS) (dst : Option Nat) (d : DE) : DS := { σ with tm := match dst with | some t => σ.tm.set t d | none => σ.tm }
def Delta.app (δ : Delta) (dst : Option Nat) (σ : DS) : DS := { tm := match dst with | some t => σ.tm.set t δ.d | none => σ.tm, bl := δ.bs ++ σ.bl, clk := σ.clk + 64, orc := σ.orc }
def DS.skip (σ : DS) (dst : Option Nat) : DS := { tm := match dst with | some t => σ.tm.set t (.c undef) | none => σ.tm, bl := σ.bl, clk := σ.clk + 64, orc := σ.orc }
abbrev Inl := FuncId → List DE → DS → (DE → DS → Prop) → Prop

/-- Slots and blocks that an operation looks at, and that it writes. -/
structure Foot where
  rt : List Nat
  rb : List Nat
  wt : List Nat
  wb : List Nat
def gdSlot (ops : List Oper) (o : Oper) : List Nat := match o.guard with
  | some (j, _) => ((ops[j]?).bind (·.dst)).toList
  | none => []
def footOf (ops : List Oper) (o : Oper) (σ : DS) (bs : List (Nat × DB)) : Foot :=
  { rt := opTmps o.op ++ gdSlot ops o, rb := opBlks o.op (fun t => σ.tm.getD t .any), wt := o.dst.toList, wb := bs.map (·.1) }
def footSkip (ops : List Oper) (o : Oper) : Foot := { rt := gdSlot ops o, rb := [], wt := o.dst.toList, wb := [] }
def meets (a b : List Nat) : Bool := a.any b.contains
def clash (a b : Foot) : Bool := meets a.wt b.rt || meets a.wt b.wt || meets a.rt b.wt || meets a.wb b.rb || meets a.wb b.wb || meets a.rb b.wb
/-- Those that an operation waits for, and those that they wait for, as bits. -/
def waits (ops : List Oper) : List Nat :=
  ops.foldl (init := []) fun acc o => acc ++ [o.after.toList.foldl (fun s e => if Region.binds .any e then s ||| 2 ^ e.on ||| acc.getD e.on 0 else s) 0]
def backOk (ops : List Oper) : Bool := (ops.zipIdx).all fun (o, i) => o.after.toList.all fun e => !Region.binds .any e || decide (e.on < i)
def noSel (ops : List Oper) : Bool := ops.all fun o => match o.op with | .select _ _ => false | _ => true
def clashOk (ws : List Nat) (fs : List Foot) : Bool :=
  (List.range fs.length).all fun k => (List.range k).all fun i => match fs[i]?, fs[k]? with
    | some a, some b => !clash a b || (ws.getD k 0).testBit i
    | _, _ => true
def drawOk (ops : List Oper) (fs : List Foot) : Bool := backOk ops && noSel ops && clashOk (waits ops) fs

def fStuckL (_ : String) (_ _ : DS) : Prop := False
section
variable (P : Program) (Γ : FuncId → Option Ca) (inl : Inl)
def slotOf (ops : List Oper) (j : Nat) : Option Nat := (ops[j]?).bind (·.dst)
/-- 'clear' of that slot. -/
def isClearOf (o : Op) (d : Option Nat) : Bool := match o with
  | .call { callee := .builtin .clear, args, .. } => args.toList.any fun | .tmp t => d == some t | _ => false
  | _ => false
/-- What is decided of a choice. -/
def hintOf (ops : List Oper) (dec : List (Nat × Bool)) (o : Oper) : Option Bool := match o.op with
  | .pick (.tmp t) _ _ => (dec.find? fun p => slotOf ops p.1 == some t).map (·.2)
  | .slice _ _ _ _ _ => if ops.any (fun q => isClearOf q.op o.dst) then some true else none
  | _ => none
def isNilSl : DE → Bool
  | .nil => true
  | .c (.slice none 0 0) => true
  | _ => false
/-- A slice compared with nil: the slice, and what comes where it is nil. -/
def nilOf (P : Program) (o : Op) (V : View) : Option (Operand × Bool) := match o with
  | .binOp op t x y _ => if isNilSl (V.ev y) then (match P.underlying t, op with
      | some (.slice _), .eql => some (x, true)
      | some (.slice _), .neq => some (x, false)
      | _, _ => none) else none
  | _ => none
def stepF (dr : Bool) (hint : Option Bool) (o : Oper) (σ : DS) (K : List (Nat × DB) → DS → Prop) : Prop :=
  match inlOf Γ o.op (σ.view o.op) with
  | some (f, args) => if dr then fStuck "a call to walk into, in a region that draws its order" else fAnd (fEnt P f) (inl f args σ fun d σ' => K [] ({ σ'.put o.dst d with clk := σ'.clk + 64 }))
  | none => match nilOf P o.op (σ.view o.op) with
   | some (x, b) => if dr then fStuck "a slice compared with nil, in a region that draws its order" else (match (σ.view o.op).ev x with
      | .nil => K [] (Delta.app ⟨.c (.bool b), []⟩ o.dst σ)
      | d => match (σ.view o.op).pc d with
        | some (y, []) => fNil y (K [] (Delta.app ⟨.c (.bool b), []⟩ o.dst σ.lft)) (K [] (Delta.app ⟨.c (.bool (!b)), []⟩ o.dst σ.rgt))
        | _ => fStuck "a slice compared with nil")
   | none => match opD P Γ o σ.clk { σ.view o.op with hint := hint } with
    | .stuck why => fStuck why
    | .det obs δ => obsF obs (K δ.bs (δ.app o.dst σ))
    | .ex ob δ => fEx (σ.clk) fun r => fAnd (ob r) (K (δ r).bs ((δ r).app o.dst σ))
/-- Does an operation run? dec: the guards that are decided. -/
def gateF (ops : List Oper) (dec : List (Nat × Bool)) (o : Oper) (σ : DS) (G : DS → List (Nat × Bool) → Bool → Prop) : Prop :=
  match o.guard with
  | none => G σ dec true
  | some (j, want) => match slotOf ops j with
    | none => fStuck "guard"
    | some t => match dec.lookup j with
      | some b => G σ dec (b == want)
      | none => match σ.tm.getD t .any with
        | .c (.bool b) => G σ dec (b == want)
        | .c (.tuple _) => G σ dec false
        | .v x => decF σ x (fun σ1 => G σ1 ((j, true) :: dec) (true == want)) (fun σ1 => G σ1 ((j, false) :: dec) (false == want))
        | _ => fStuck "guard"
/-- The decisions that an operation leaves. -/
def stillDec (ops : List Oper) (o : Oper) (dec : List (Nat × Bool)) : List (Nat × Bool) := dec.filter fun p => slotOf ops p.1 != o.dst
/-- A region's operations, in the text's order. -/
def regF (dr : Bool) (ops : List Oper) : List (Nat × Bool) → List Foot → List Oper → DS → (DS → Prop) → Prop
  | _, fs, [], σ, K => if !dr || drawOk ops fs then K σ else fStuck "a region that draws its order"
  | dec, fs, o :: rest, σ0, K => gateF ops dec o σ0 fun σ dec' run =>
    if run then stepF P Γ inl dr (hintOf ops dec' o) o σ (fun bs σ' => regF dr ops (stillDec ops o dec') (fs ++ [footOf ops o σ bs]) rest σ' K)
    else regF dr ops (stillDec ops o dec') (fs ++ [footSkip ops o]) rest (σ.skip o.dst) K

/-- What a loop's head forgets, and what it carries: slots; rows' elements; cells. -/
structure LoopAnn where
  drop : List Nat
  vs : List Nat
  rows : List Nat
  cells : List (Nat × Nat)
/-- What is told of a loop beside what is seen (rows: a block, or 1000000 + a slot that holds the row). -/
structure LoopEx where
  drop : List Nat
  rows : List Nat
  cells : List (Nat × Nat)
  nils : List (Nat × Nat × TypeId × Nat)
/-- It never ends but by a return. -/
def Code.rets : Code → Bool
  | .ret => true
  | .seq a b => Code.rets a || Code.rets b
  | .cond _ a b => Code.rets a && Code.rets b
  | _ => false
def Code.noExit : Code → Bool
  | .skip => true
  | .region _ _ _ => true
  | .ret => true
  | .seq a b => Code.noExit a && Code.noExit b
  | .cond _ a b => Code.noExit a && Code.noExit b
  | _ => false
/-- The slots that it writes, where it ends otherwise than by a return. -/
-- (boxSrc: the slots of boxes that closures of a written-out slice capture)
def boxSrc (ops : List Oper) : List Nat := ops.flatMap fun o => match o.op, o.dst with
  | .makeFunc _ _ caps, some d => if ops.any (fun o' => match o'.op with
      | .buildSlice _ _ els => els.toList.any fun e => match e.2 with
        | .tmp t => t == d
        | _ => false
      | _ => false) then caps.toList.filterMap (fun x => match x with
        | .tmp t => some t
        | _ => none) else []
  | _, _ => []
def Code.wr : Code → List Nat
  | .region _ ops _ => ops.toList.filterMap (·.dst) ++ boxSrc ops.toList
  | .seq a b => if Code.rets b && Code.noExit a && Code.noExit b then [] else Code.wr a ++ Code.wr b
  | .cond _ a b => Code.wr a ++ Code.wr b
  | .block _ a => Code.wr a
  | .loop a => Code.wr a
  | _ => []
def Code.reg1 : Code → Nat
  | .region i _ _ => i
  | .seq a _ => Code.reg1 a
  | .cond _ a _ => Code.reg1 a
  | .block _ a => Code.reg1 a
  | .loop a => Code.reg1 a
  | .scope a => Code.reg1 a
  | _ => 0
def DS.fview (σ : DS) : View := { tm := fun t => σ.tm.getD t .any, bl := σ.blk }
def plain1 (V : View) (d : DE) : Option AV := match V.pc d with | some (x, []) => some x | _ => none
def DS.cellsV (σ : DS) : List (Nat × Nat) → Option (List AV)
  | [] => some []
  | (b, o) :: l => match σ.blk b with
    | .cells _ cs => match cs[o]? with
      | some d => match plain1 σ.fview d, DS.cellsV σ l with
        | some x, some xs => some (x :: xs)
        | _, _ => none
      | none => none
    | _ => none
def DS.rowsV (σ : DS) : List Nat → Option (List AV)
  | [] => some []
  | b :: l => match σ.blk b, DS.rowsV σ l with
    | .row _ _ _ x, some xs => some (x :: xs)
    | _, _ => none
def DS.slotsV (σ : DS) : List Nat → Option (List AV)
  | [] => some []
  | t :: l => match plain1 σ.fview (σ.tm.getD t .any), DS.slotsV σ l with
    | some x, some xs => some (x :: xs)
    | _, _ => none
def LoopAnn.vals (A : LoopAnn) (σ : DS) : Option (List AV) := match σ.slotsV A.vs, σ.rowsV A.rows, σ.cellsV A.cells with
  | some a, some b, some c => some (a ++ b ++ c)
  | _, _, _ => none
def LoopAnn.tm (A : LoopAnn) (ys : List AV) (t : Nat) (d : DE) : DE :=
  if A.drop.contains t then .any else match A.vs.idxOf? t with
    | some k => .v (ys.getD k default)
    | none => d
def LoopAnn.cell (A : LoopAnn) (ys : List AV) (b o : Nat) (d : DE) : DE := match A.cells.idxOf? (b, o) with
  | some k => .v (ys.getD (A.vs.length + A.rows.length + k) default)
  | none => d
def LoopAnn.blkOf (A : LoopAnn) (ys : List AV) (b : Nat) (d : DB) : DB := match d with
  | .row e s n x => match A.rows.idxOf? b with
    | some k => .row e s n (ys.getD (A.vs.length + k) default)
    | none => .row e s n x
  | .cells t cs => .cells t (cs.zipIdx.map fun (d, o) => A.cell ys b o d)
  | d => d
def LoopAnn.touched (A : LoopAnn) : List Nat := A.rows ++ A.cells.map (·.1)
def LoopAnn.head (A : LoopAnn) (σ : DS) (ys : List AV) : DS :=
  { tm := σ.tm.zipIdx.map fun (d, t) => A.tm ys t d
    bl := (A.touched.map fun b => (b, A.blkOf ys b (σ.blk b))) ++ σ.bl
    clk := σ.clk, orc := σ.orc }
def isDead : DB → Bool
  | .dead => true
  | _ => false
def isAny : DE → Bool
  | .any => true
  | _ => false
/-- What something names is there at the head, and is as it was. -/
def ref0 (σ σ' : DS) : DE → Bool
  | .ptr b _ => !isDead (σ.blk b)
  | .sp b _ _ => !isDead (σ.blk b)
  | .row b n => decide (n < σ.clk) && (stampOf (σ.blk b) != some n || stampOf (σ'.blk b) == some n)
  | .rt b n _ _ => decide (n < σ.clk) && (stampOf (σ.blk b) != some n || stampOf (σ'.blk b) == some n)
  | .rp b n _ _ _ => decide (n < σ.clk) && (stampOf (σ.blk b) != some n || stampOf (σ'.blk b) == some n)
  | .agg _ => false
  | .tup _ => false
  | .fn _ _ => false
  | _ => true
def ref1 (σ σ' : DS) : DE → Bool
  | .agg cs => cs.all (ref0 σ σ')
  | .fn _ cs => cs.all (ref0 σ σ')
  | d => ref0 σ σ' d
def ref2 (σ σ' : DS) : DE → Bool
  | .agg cs => cs.all (ref1 σ σ')
  | .tup cs => cs.all (ref1 σ σ')
  | .fn _ cs => cs.all (ref1 σ σ')
  | d => ref0 σ σ' d
/-- One row, written on. -/
def sameRow (σ σ' : DS) : DE → DE → Bool
  | .row b n, .row b' n' => b == b' && decide (n < σ.clk) && stampOf (σ.blk b) == some n && stampOf (σ'.blk b) == some n'
  | .ptr b o, .ptr b' o' => b == b' && o == o' && !isDead (σ.blk b)
  | .any, _ => true
  | _, _ => false
def slotOk (A : LoopAnn) (W : List Nat) (σ σ' : DS) (t : Nat) : Bool :=
  A.drop.contains t || A.vs.contains t || (if W.contains t then sameRow σ σ' (σ.tm.getD t .any) (σ'.tm.getD t .any) else isAny (σ.tm.getD t .any) || (!isAny (σ'.tm.getD t .any) && ref2 σ σ' (σ.tm.getD t .any)))
def blkOk (A : LoopAnn) (pre : List Nat) (σ σ' : DS) (b : Nat) : Bool :=
  if A.rows.contains b then (match σ.blk b, σ'.blk b with | .row e s n _, .row e' s' _ _ => e == e' && s == s' && decide (n < σ.clk) | _, _ => false)
  else if pre.contains b then (match σ.blk b, σ'.blk b with
    | .cells t cs, .cells t' cs' => t == t' && cs.length == cs'.length && (List.range cs.length).all fun o => A.cells.contains (b, o) || sameRow σ σ' (cs.getD o .any) (cs'.getD o .any)
    | .dead, _ => true
    | _, _ => false)
  else (match σ.blk b with
    | .cells _ cs => (List.range cs.length).all fun o => A.cells.contains (b, o) || ref2 σ σ' (cs.getD o .any)
    | .row _ _ n _ => decide (n < σ.clk)
    | .fz n _ => decide (n < σ.clk)
    | .sv ds _ => ds.all (ref2 σ σ')
    | .dead => true)
def preOf (σ σ' : DS) : List Nat := (σ'.bl.take (σ'.bl.length - σ.bl.length)).map (·.1)
def chk (A : LoopAnn) (W : List Nat) (σ σ' : DS) : Bool :=
  (List.range σ.tm.length).all (slotOk A W σ σ') && ((σ.bl.map (·.1)) ++ preOf σ σ').all (blkOk A (preOf σ σ') σ σ') && (σ.bl.map (·.1)).all (fun b => decide (b < σ.clk)) && A.rows.all (fun b => !isDead (σ.blk b))

def isVal : DE → Bool
  | .v _ => true
  | .c (.tuple _) => false
  | .c _ => true
  | _ => false
def rowOf (σ : DS) : DE → Option Nat
  | .row b n => if stampOf (σ.blk b) == some n then (match σ.blk b with | .row _ _ _ _ => some b | _ => none) else none
  | _ => none
def namesRow (rows : List Nat) : DE → Bool
  | .row b _ => rows.contains b
  | .rp b _ _ _ _ => rows.contains b
  | .rt b _ _ _ => rows.contains b
  | _ => false
def autoAnn (ex : LoopEx) (W : List Nat) (σ : DS) : LoopAnn :=
  let W := W.eraseDups
  let wrows := W.filterMap fun t => if ex.drop.contains t then none else rowOf σ (σ.tm.getD t .any)
  let rows := (wrows ++ ex.rows.filterMap fun b => if 1000000 ≤ b then rowOf σ (σ.tm.getD (b - 1000000) .any) else some b).eraseDups
  let vs := W.filter fun t => isVal (σ.tm.getD t .any) && !ex.drop.contains t
  { vs := vs, rows := rows, cells := ex.cells
    drop := ex.drop ++ (W.filter fun t => !isVal (σ.tm.getD t .any) && (rowOf σ (σ.tm.getD t .any)).isNone && !(ex.nils.any fun q => q.1 == t && q.2.1 == 4 && q.2.2.2 == 0)) ++ ((List.range σ.tm.length).filter fun t => !W.contains t && namesRow wrows (σ.tm.getD t .any)) }

/-- Code that runs in a round as it runs elsewhere. -/
def Code.flatR : Code → Bool
  | .skip => true
  | .exit _ => true
  | .ret => true
  | .region _ ops dr => !dr && (ops.toList.all fun o => match o.op with | .defer _ => false | _ => true) && (boxSrc ops.toList).isEmpty
  | .seq a b => Code.flatR a && Code.flatR b
  | .cond _ a b => Code.flatR a && Code.flatR b
  | .block _ a => Code.flatR a
  | _ => false
def isNilD : DE → Bool
  | .nil => true
  | _ => false
/-- A variable's cell that holds nil, taken for a row of no element: block, cell, element type, its cells. -/
def rowify1 (σ : DS) (q : Nat × Nat × TypeId × Nat) : DS := match σ.blk q.1 with
  | .cells t cs => if isNilD (cs.getD q.2.1 .any) && decide (q.2.2.2 ≠ 0) then { σ with bl := (q.1, .cells t (cs.set q.2.1 (.row σ.clk σ.clk))) :: (σ.clk, .row q.2.2.1 q.2.2.2 σ.clk (AV.mk q.2.2.2 [])) :: σ.bl, clk := σ.clk + 64 } else σ
  | _ => σ
def rowify (l : List (Nat × Nat × TypeId × Nat)) (σ : DS) : DS := l.foldl rowify1 σ
/-- A slot that holds a row, taken for a plain value: the row is never written again. -/
def frzSlot (σ : DS) (t : Nat) : DS := match σ.tm.getD t .any with
  | .row b n => match σ.blk b with
    | .row _ _ m x => if m = n then { σ with tm := σ.tm.set t (.v x), bl := (b, .fz m x) :: σ.bl } else σ
    | .fz m x => if m = n then { σ with tm := σ.tm.set t (.v x) } else σ
    | _ => σ
  | _ => σ
/-- Those that a loop carries so: told by a size of 0. (A second part of 2: the slot's row is frozen, and the slot keeps naming it; of 3: its row, if another one by then, is known as the block that is told third.) -/
def frzBlk (σ : DS) (t : Nat) : DS := match σ.tm.getD t .any with
  | .row b _ => { σ with bl := σ.fview.frz [b] ++ σ.bl }
  | _ => σ
def noCells : DB → Bool
  | .cells _ _ => false
  | _ => true
/-- A slot's row, from now on known as block b0's. -/
def rebind (σ : DS) (t b0 : Nat) : DS := match σ.tm.getD t .any with
  | .row b n => if b = b0 then σ else match σ.blk b with
    | .row e s m x => if m = n ∧ b0 < σ.clk ∧ noCells (σ.blk b0) = true then { tm := σ.tm.set t (.row b0 σ.clk), bl := (b0, .row e s σ.clk x) :: (b, .dead) :: σ.bl, clk := σ.clk + 64, orc := σ.orc } else σ
    | _ => σ
  | _ => σ
def DE.noB (b c : Nat) : DE → Bool
  | .ptr k _ => k != b && k != c
  | .sp k _ _ => k != b && k != c
  | .row k _ => k != b && k != c
  | .rp k _ _ _ _ => k != b && k != c
  | .rt k _ _ _ => k != b && k != c
  | .agg _ => false
  | .tup _ => false
  | .fn _ _ => false
  | _ => true
def DB.noB (b c : Nat) : DB → Bool
  | .cells _ cs => cs.all (DE.noB b c)
  | .sv ds _ => ds.all (DE.noB b c)
  | _ => true
def dropB (b c : Nat) (d : DE) : DE := if d.noB b c then d else .any
/-- A slot's box, from now on known as block b0's (told by a second part of 4). -/
def rebindP (σ : DS) (t b0 : Nat) : DS := match σ.tm.getD t .any with
  | .ptr b o => match σ.blk b with
    | .cells ty cs => if (cs.all (DE.noB b b0) && ((σ.bl.map (·.1)).all fun c => c == b || c == b0 || (σ.blk c).noB b b0) && decide (b0 < σ.clk)) = true then { tm := (σ.tm.map (dropB b b0)).set t (.ptr b0 o), bl := (b0, .cells ty cs) :: (b, .dead) :: σ.bl, clk := σ.clk, orc := σ.orc } else σ
    | _ => σ
  | _ => σ
def frzQ (W : List Nat) (σ : DS) (q : Nat × Nat × TypeId × Nat) : DS := if q.2.2.2 = 0 then (if q.2.1 = 2 then frzBlk σ q.1 else if W.contains q.1 then (if q.2.1 = 3 then rebind σ q.1 q.2.2.1 else if q.2.1 = 4 then rebindP σ q.1 q.2.2.1 else frzSlot σ q.1) else σ) else σ
def frzSlots (W : List Nat) (l : List (Nat × Nat × TypeId × Nat)) (σ : DS) : DS := l.foldl (frzQ W) σ
/-- The rows that a region slices. -/
def sliceSrc (ops : List Oper) : List Nat := ops.filterMap fun o => match o.op, o.guard with
  | .slice _ (.tmp t) _ _ _, none => some t
  | _, _ => none
def moveSrc (ops : List Oper) (t : Nat) : Nat := match ops.find? (fun o => o.dst == some t) with
  | some o => match o.op with
    | .move (.tmp t') => t'
    | _ => t
  | none => t
def preRows (ops : List Oper) (σ : DS) : List Nat := (sliceSrc ops).filterMap fun t => match σ.tm.getD (moveSrc ops t) .any with
  | .row b _ => some b
  | _ => none
/-- A box that is never written again: from now on plain memory. -/
def frzBox (σ : DS) (t : Nat) : DS := match σ.tm.getD t .any with
  | .ptr b 0 => match σ.blk b with
    | .cells _ cs => match σ.fview.pcs cs with
      | some (xs, []) => if ((σ.bl.map (·.1)).all fun c => c == b || (σ.blk c).noB b b) = true then { tm := (σ.tm.map (dropB b b)).set t (.v (AV.mkRef xs)), bl := (b, .dead) :: σ.bl, clk := σ.clk, orc := σ.orc } else σ
      | _ => σ
    | _ => σ
  | _ => σ
/-- Ahead of a region that draws its order, the rows that it slices are taken for rows that are never written again. -/
def preFz (dr : Bool) (ops : List Oper) (σ : DS) : DS := if dr then { σ with bl := σ.fview.frz (preRows ops σ) ++ σ.bl } else (boxSrc ops).foldl frzBox σ
variable (ann : FuncId → Nat → LoopEx) (fid : FuncId)
def runC : Code → DS → (Exit → DS → Prop) → Prop
  | .skip, σ, K => K .normal σ
  | .region _ ops dr, σ, K => regF P Γ inl dr ops.toList [] [] ops.toList (preFz dr ops.toList σ) (K .normal)
  | .seq a b, σ, K => runC a σ fun e σ' => match e with | .normal => runC b σ' K | e => K e σ'
  | .cond c a b, σ, K => match σ.fview.ev c with
    | .c (.bool true) => runC a σ K
    | .c (.bool false) => runC b σ K
    | .v x => decF σ x (fun σ1 => runC a σ1 K) (fun σ1 => runC b σ1 K)
    | _ => fStuck "cond"
  | .block id a, σ, K => runC a σ fun e σ' => match e with | .exit i => if i = id then K .normal σ' else K (.exit i) σ' | e => K e σ'
  | .exit id, σ, K => K (.exit id) σ
  | .ret, σ, K => K .ret σ
  | .loop a, σ0, K =>
    let σ := frzSlots (Code.wr a) (ann fid (Code.reg1 a)).nils (rowify (ann fid (Code.reg1 a)).nils σ0)
    let A := autoAnn (ann fid (Code.reg1 a)) (Code.wr a) σ
    match A.vals σ with
    | none => fStuckL "a loop: what it carries" σ σ
    | some xs => if chk A (Code.wr a) σ σ then fLoop σ.clk xs fun ys again => runC a (A.head σ ys) fun e σ' => match e with
        | .normal => match A.vals (frzSlots (Code.wr a) (ann fid (Code.reg1 a)).nils σ') with
          | some zs => if chk A (Code.wr a) (A.head σ ys) (frzSlots (Code.wr a) (ann fid (Code.reg1 a)).nils σ') then again zs else fStuckL "a loop: its head does not come again" (A.head σ ys) σ'
          | none => fStuckL "a loop: what it carries, behind a round" (A.head σ ys) σ'
        | e => K e σ'
      else fStuckL "a loop: its start" σ σ
  | .rangeFunc g ps as_ body, σ0, K =>
    let σ := rowify (ann fid (Code.reg1 body)).nils σ0
    let A : LoopAnn := { drop := [], vs := [], rows := (ann fid (Code.reg1 body)).rows, cells := (ann fid (Code.reg1 body)).cells }
    match g, ps.toList with
    | .tmp t, [p] => (match σ.tm.getD t .any with
      | .v X => (match A.vals σ with
        | none => fStuckL "a loop over a function: what it carries" σ σ
        | some xs => if chk A [] σ σ && Code.flatR as_ && Code.flatR body then fIter P σ.clk X xs
            (fun x ys again => fAllV fun vs =>
              let σh := A.head σ ys
              let σ1 : DS := { tm := σh.tm.set p (.v x), bl := (σh.clk, .sv σh.tm vs) :: σh.bl, clk := σh.clk + 64, orc := σh.lft.orc }
              runC as_ σ1 fun e σ2 => match e with
                | .normal => runC body σ2 fun e σ' => (match e with
                  | .normal => if (preOf σ1 σ').contains σh.clk then fStuck "saved slots" else
                      let σ'' : DS := { tm := σh.tm, bl := (σh.clk, .dead) :: σ'.bl, clk := σ'.clk, orc := σ'.orc }
                      (match A.vals σ'' with
                        | some zs => if chk A [] σh σ'' then again zs else fStuckL "a loop over a function: its head does not come again" σh σ''
                        | none => fStuckL "a loop over a function: what it carries, behind a round" σh σ'')
                  | _ => fStuck "a round is left")
                | _ => fStuck "a loop's variable")
            (fun ys => K .normal (A.head σ ys).rgt)
          else fStuckL "a loop over a function: its start" σ σ)
      | _ => fStuck "a loop over a function: of what")
    | _, _ => fStuck "a loop over a function: its variables"
  | _, _, _ => fStuck "code"
end

/-! ### functions -/
def resD (P : Program) (σ : DS) : ResultVar → Option DE
  | .tmp t => some (σ.tm.getD t .any)
  | .cell a t => match σ.tm.getD a .any with
    | .ptr b 0 => match σ.blk b with
      | .cells _ cs => if (P.underlying t).isNone ∨ P.cellsOf t = 0 then none else whole P t cs
      | _ => none
    | _ => none
def ressD (P : Program) (σ : DS) : List ResultVar → Option (List DE)
  | [] => some []
  | r :: l => match resD P σ r, ressD P σ l with
    | some d, some ds => some (d :: ds)
    | _, _ => none
def resultD (P : Program) (fn : Func) (σ : DS) : Option DE := (ressD P σ fn.results.toList).map fun | [d] => d | ds => .tup ds
def exits (e : Exit) : Bool := match e with | .normal => true | .ret => true | _ => false
/-- A variable's cell that holds a row, taken for a plain value: the row is never written again. -/
def frzCell1 (σ : DS) (q : Nat × Nat) : DS := match σ.blk q.1 with
  | .cells t cs => match cs.getD q.2 .any with
    | .row b n => match σ.blk b with
      | .row _ _ m x => if m = n ∧ b ≠ q.1 then { σ with bl := (q.1, .cells t (cs.set q.2 (.v x))) :: (b, .fz m x) :: σ.bl } else σ
      | .fz m x => if m = n then { σ with bl := (q.1, .cells t (cs.set q.2 (.v x))) :: σ.bl } else σ
      | _ => σ
    | _ => σ
  | _ => σ
def frzCells (l : List (Nat × Nat)) (σ : DS) : DS := l.foldl frzCell1 σ
/-- The state around a visit: what was handed to the call is kept, and a plain value beside. -/
def visY (σr : DS) (Y : AV) (vs : Array Value) : DS := { tm := σr.tm, bl := (σr.clk, .sv [.v Y] vs) :: σr.bl, clk := σr.clk + 64, orc := σr.orc }
def visAnn (E : LoopEx) : LoopAnn := { drop := [], vs := [], rows := E.rows, cells := E.cells }
def visBody (P : Program) (E : LoopEx) (inl : Inl) (σr : DS) (i r : Nat) (d : DE) (x ys : List AV) (again : List AV → Prop) : Prop := match d with
  | .fn vf caps => (fAllV fun vs => fAllY σr.clk fun Y =>
      inl vf ((List.range r).map (fun j => .v (x.getD j default)) ++ caps) { (visAnn E).head (visY σr Y vs) ys with orc := (DS.rgts i σr).lft.orc } fun _ σ' =>
        match (visAnn E).vals (frzCells E.cells σ') with
        | some zs => if chk (visAnn E) [] ((visAnn E).head (visY σr Y vs) ys) (frzCells E.cells σ') then again zs else fStuckL "a visit: its head does not come again" ((visAnn E).head (visY σr Y vs) ys) (frzCells E.cells σ')
        | none => fStuckL "a visit: what it carries, behind it" ((visAnn E).head (visY σr Y vs) ys) (frzCells E.cells σ'))
  | _ => fStuck "no visitor"
def isFnD : DE → Bool
  | .fn _ _ => true
  | _ => false
def visEnts (P : Program) : List DE → Prop → Prop
  | [], F => F
  | .fn vf _ :: l, F => fAnd (fEnt P vf) (visEnts P l F)
  | _ :: l, F => visEnts P l F
def visF (P : Program) (E : LoopEx) (inl : Inl) (rs : List Nat) (f : FuncId) (args : List DE) (σ : DS) (K : DE → DS → Prop) : Prop :=
  fAllV fun us =>
    let σr := rowify E.nils { tm := σ.tm, bl := (σ.clk, .sv args us) :: σ.bl, clk := σ.clk + 64, orc := σ.orc }
    match (visAnn E).vals (visY σr (.lit undef) #[undef]) with
    | some ys0 => match ((visAnn E).head (visY σr (.lit undef) #[undef]) ys0).fview.pls (args.take (args.length - rs.length)) with
      | some (xs, []) => if chk (visAnn E) [] (visY σr (.lit undef) #[undef]) (visY σr (.lit undef) #[undef]) && decide (rs.length ≤ args.length) && (args.drop (args.length - rs.length)).all isFnD then
          visEnts P (args.drop (args.length - rs.length)) <| fVis P f xs rs σr.clk ys0 (rs.zipIdx.map fun p => visBody P E inl σr p.2 p.1 (args.getD (args.length - rs.length + p.2) .any))
            fun ys => K (.tup []) { tm := σ.tm, bl := (σ.clk, .dead) :: (σr.clk, .dead) :: ((visAnn E).head (visY σr (.lit undef) #[undef]) ys).bl, clk := σr.clk + 64, orc := (DS.rgts rs.length σr).orc }
        else fStuckL "visits: their start" σr σr
      | _ => fStuckL "visits: of what" σr σr
    | none => fStuckL "visits: what they carry" σr σr
def inF (P : Program) (Γ : FuncId → Option Ca) (ann : FuncId → Nat → LoopEx) : Nat → Inl
  | 0, _, _, _, _ => fStuck "too deep"
  | n + 1, f, args, σ, K => if (ann f 999999).drop ≠ [] then visF P (ann f 999999) (inF P Γ ann n) (ann f 999999).drop f args σ K else match P.funcs[f]? with
    | none => fStuck "no such function"
    | some fn => match fn.body with
      | none => fStuck "no body"
      | some c => fAllV fun vs =>
        let σ1 : DS := { tm := args ++ List.replicate (fn.ntmps - args.length) (.c undef), bl := (σ.clk, .sv σ.tm vs) :: σ.bl, clk := σ.clk + 64, orc := σ.orc }
        runC P Γ (inF P Γ ann n) ann f c σ1 fun e σ' =>
          if exits e then (match resultD P fn σ' with | some d => if (preOf σ1 σ').contains σ.clk then fStuck "saved slots" else K d { tm := σ.tm, bl := (σ.clk, .dead) :: σ'.bl, clk := σ'.clk, orc := σ'.orc } | none => fStuck "results") else fStuck "exit"
/-- What goes out: as a plain value; what is asked. -/
def out0 (V : View) (d : DE) : Sh → Option (AV × List Prop)
  | .row e s f => match d with
    | .nil => if s = 0 then none else some (AV.mk s [], [])
    | .row b n => match V.bl b with
      | .row e' s' m x => if m = n ∧ e' = e ∧ s' = s then some (x, if f then [x.flatS] else []) else none
      | _ => none
    | _ => none
  | .p => match V.pc d with
    | some (x, []) => some (x, [])
    | some (x, _) => some (x, [x.isEmp])
    | none => none
  | .sc => match V.pc d with
    | some (x, []) => some (x, [x.flat])
    | _ => none
  | _ => none
def out0s (V : View) : List DE → List Sh → Option (List AV × List Prop)
  | [], [] => some ([], [])
  | d :: ds, sh :: l => match out0 V d sh, out0s V ds l with
    | some (x, o), some (xs, os) => some (x :: xs, o ++ os)
    | _, _ => none
  | _, _ => none
def out1 (V : View) (d : DE) : Sh → Option (AV × List Prop)
  | .agg shs => match d with
    | .agg cs => (out0s V cs shs).map fun (xs, o) => (.agg xs, o)
    | _ => none
  | sh => match d with
    | .agg cs => match sh, V.pcs cs with
      | .sc, some (xs, []) => some (.agg xs, [AV.flat (.agg xs)])
      | .p, some (xs, []) => some (.agg xs, [])
      | _, _ => none
    | d => out0 V d sh
def out1s (V : View) : List DE → List Sh → Option (List AV × List Prop)
  | [], [] => some ([], [])
  | d :: ds, sh :: l => match out1 V d sh, out1s V ds l with
    | some (x, o), some (xs, os) => some (x :: xs, o ++ os)
    | _, _ => none
  | _, _ => none
def out2 (V : View) (d : DE) : Sh → Option (AV × List Prop)
  | .tup shs => match d with
    | .tup ds => (out1s V ds shs).map fun (xs, o) => (.tup xs, o)
    | _ => none
  | sh => out1 V d sh
def leafDE1 (d : DE) (i : Nat) : Sh → DE
  | .agg _ => match d with | .agg cs => cs.getD i .any | d => d
  | _ => d
def leafDE (d : DE) (j i : Nat) : Sh → DE
  | .tup vs => match d with | .tup ds => leafDE1 (ds.getD j .any) i (vs.getD j .sc) | d => d
  | sh => leafDE1 d i sh
def rowId (d : DE) (sh : Sh) (p : Nat × Nat) : Option Nat := if isRow (leafSh p.1 p.2 sh) then (match leafDE d p.1 p.2 sh with | .row b _ => some b | _ => none) else none
def paths : List (Nat × Nat) := (List.range 8).flatMap fun j => (List.range 8).map fun i => (j, i)
def rowIds (d : DE) (sh : Sh) : List Nat := paths.filterMap (rowId d sh)
/-- **What a function's contract asks**: the run of its text from these plain values ends with that one. -/
def fnF (P : Program) (Γ : FuncId → Option Ca) (ann : FuncId → Nat → LoopEx) (n : Nat) (f : FuncId) (fn : Func) (c : Code) (orc : Orc) (args : List AV) (sh : Sh) (r : AV) : Prop :=
  runC P Γ (inF P Γ ann n) ann f c { tm := args.map .v ++ List.replicate (fn.ntmps - args.length) (.c undef), bl := [], clk := 1, orc := orc } fun e σ' =>
    if exits e then (match resultD P fn σ' with
      | some d => match out2 σ'.fview d sh with
        | some (x, obs) => if decide (rowIds d sh).Nodup && sh.small then obsF obs (fSame x r) else fStuck "one row twice"
        | none => fStuck "what goes out"
      | none => fStuck "results") else fStuck "exit"
--END RUN
end Go.Proofs.Ytfdpbfdhcngfgaa
