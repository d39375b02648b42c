/- owner's laws: what the run ends in. -/
import Derived.Test.YtalfopommofdfaaOwnerF
namespace Go.Proofs.Ytalfopommofdfaa
open Go.RowKit
set_option linter.unusedVariables false
set_option maxRecDepth 100000
namespace OwnerG
--GAMMA
def Γ : FuncId → Option Ca := fun f =>
  if f = 49 ∨ f = 17 ∨ f = 37 ∨ f = 16 ∨ f = 35 ∨ f = 26 ∨ f = 14 ∨ f = 18 then some (.fn .sc)
  else if f = 42 ∨ f = 32 then some (.fn (.tup [.sc, .sc]))
  else if f = 38 then some (.fn (.row 44 3 true))
  else if f = 33 then some (.fn (.tup [.row 9 1 true, .sc]))
  else if f = 28 ∨ f = 34 ∨ f = 29 ∨ f = 30 ∨ f = 31 ∨ f = 15 then some (.fn (.tup [.row 44 3 true, .sc]))
  else if f = 43 ∨ f = 55 then some (.upd true)
  else some .inl
def ann : FuncId → Nat → LoopEx := fun f _ => if f = 15 then ⟨[], [1665], [], []⟩ else ⟨[], [], [], []⟩
--END GAMMA
theorem moves_form (x0 x1 x2 r : AV) : fnF Try.prog Γ ann 2 4 Try.f4 (Try.f4.body.getD .skip) ((.f (.both (.both (.t .nil) (.both (.t .nil) (.f (.f (.f (.both (.both (.f .nil) (.f .nil)) .nil)))))) (.t (.t .nil))))) [x0, x1, x2] (.sc) r = (((AV.isOne x1) ∧
((AV.isOne x2) ∧
(∃ r193 : AV, ((Fn Try.prog 14 [] Sh.sc r193) ∧
((AV.unOk Go.UnOp.not r193) ∧
((AV.isBool (AV.un Go.UnOp.not r193)) ∧
((isF (AV.un Go.UnOp.not r193)) ∧
(∃ r513 : AV, ((Fn Try.prog 15 [x0, x1, x2] (Sh.tup [(Sh.row 44 3 true), Sh.sc]) r513) ∧
(∃ r961 : AV, ((Fn Try.prog 16 [x0] Sh.sc r961) ∧
((AV.binOk Go.BinOp.eql r961 (AV.int 0)) ∧
((AV.isBool (AV.bin Go.BinOp.eql r961 (AV.int 0))) ∧
(((isT (AV.bin Go.BinOp.eql r961 (AV.int 0))) →
  (∃ r1345 : AV, ((Fn Try.prog 17 [x1] Sh.sc r1345) ∧
  ((AV.unOk Go.UnOp.not r1345) ∧
  ((AV.isBool (AV.un Go.UnOp.not r1345)) ∧
  (((isT (AV.un Go.UnOp.not r1345)) →
    ((AV.isBool (AV.un Go.UnOp.not r1345)) ∧
    ((isT (AV.un Go.UnOp.not r1345)) ∧
    ((AV.isBool (AV.bin Go.BinOp.eql r961 (AV.int 0))) ∧
    ((isT (AV.bin Go.BinOp.eql r961 (AV.int 0))) ∧
    ((AV.binOk Go.BinOp.eql (AV.prj r513 1) (AV.int 3)) ∧
    ((AV.isBool (AV.bin Go.BinOp.eql (AV.prj r513 1) (AV.int 3))) ∧
    ((isT (AV.bin Go.BinOp.eql (AV.prj r513 1) (AV.int 3))) ∧
    ((AV.binOk Go.BinOp.eql (AV.len (AV.prj r513 0)) (AV.int 0)) ∧
    ((AV.isBool (AV.bin Go.BinOp.eql (AV.prj r513 1) (AV.int 3))) ∧
    ((isT (AV.bin Go.BinOp.eql (AV.prj r513 1) (AV.int 3))) ∧
    ((AV.flat (AV.bin Go.BinOp.eql (AV.len (AV.prj r513 0)) (AV.int 0))) ∧
    (fSame (AV.bin Go.BinOp.eql (AV.len (AV.prj r513 0)) (AV.int 0)) r))))))))))))) ∧
  ((isF (AV.un Go.UnOp.not r1345)) →
    (∃ r1601 : AV, ((Fn Try.prog 17 [x2] Sh.sc r1601) ∧
    ((AV.unOk Go.UnOp.not r1601) ∧
    ((AV.isBool (AV.un Go.UnOp.not r1345)) ∧
    ((isF (AV.un Go.UnOp.not r1345)) ∧
    ((AV.isBool (AV.bin Go.BinOp.eql r961 (AV.int 0))) ∧
    ((isT (AV.bin Go.BinOp.eql r961 (AV.int 0))) ∧
    ((AV.isBool (AV.un Go.UnOp.not r1601)) ∧
    (((isT (AV.un Go.UnOp.not r1601)) →
      ((AV.binOk Go.BinOp.eql (AV.prj r513 1) (AV.int 3)) ∧
      ((AV.isBool (AV.bin Go.BinOp.eql (AV.prj r513 1) (AV.int 3))) ∧
      ((isT (AV.bin Go.BinOp.eql (AV.prj r513 1) (AV.int 3))) ∧
      ((AV.binOk Go.BinOp.eql (AV.len (AV.prj r513 0)) (AV.int 0)) ∧
      ((AV.isBool (AV.bin Go.BinOp.eql (AV.prj r513 1) (AV.int 3))) ∧
      ((isT (AV.bin Go.BinOp.eql (AV.prj r513 1) (AV.int 3))) ∧
      ((AV.flat (AV.bin Go.BinOp.eql (AV.len (AV.prj r513 0)) (AV.int 0))) ∧
      (fSame (AV.bin Go.BinOp.eql (AV.len (AV.prj r513 0)) (AV.int 0)) r))))))))) ∧
    ((isF (AV.un Go.UnOp.not r1601)) →
      ((AV.binOk Go.BinOp.neq r961 (AV.int 0)) ∧
      ((AV.isBool (AV.bin Go.BinOp.neq r961 (AV.int 0))) ∧
      ((isF (AV.bin Go.BinOp.neq r961 (AV.int 0))) ∧
      ((AV.binOk Go.BinOp.neq (AV.prj r513 1) (AV.int 0)) ∧
      ((AV.isBool (AV.bin Go.BinOp.neq (AV.prj r513 1) (AV.int 0))) ∧
      ((isF (AV.bin Go.BinOp.neq (AV.prj r513 1) (AV.int 0))) ∧
      ((AV.isSl x0 3) ∧
      ((AV.binOk Go.BinOp.neq (AV.len (AV.prj r513 0)) (AV.len x0)) ∧
      ((AV.isBool (AV.bin Go.BinOp.neq (AV.prj r513 1) (AV.int 0))) ∧
      ((isF (AV.bin Go.BinOp.neq (AV.prj r513 1) (AV.int 0))) ∧
      ((AV.isBool (AV.bin Go.BinOp.neq (AV.len (AV.prj r513 0)) (AV.len x0))) ∧
      ((isF (AV.bin Go.BinOp.neq (AV.len (AV.prj r513 0)) (AV.len x0))) ∧
      ((AV.isSl x0 3) ∧
      (fLoop 2881 [(AV.int 0)] fun ys2881 again2881 =>
        ((AV.binOk Go.BinOp.lss (ys2881.getD 0 default) (AV.len x0)) ∧
        ((AV.isBool (AV.bin Go.BinOp.lss (ys2881.getD 0 default) (AV.len x0))) ∧
        (((isT (AV.bin Go.BinOp.lss (ys2881.getD 0 default) (AV.len x0))) →
          ((AV.isSl x0 3) ∧
          ((AV.inb x0 (ys2881.getD 0 default)) ∧
          ((AV.isAgg (AV.atAgg x0 (ys2881.getD 0 default) 0 3) 3) ∧
          (∃ r3649 : AV, ((Fn Try.prog 18 [(AV.cel (AV.atAgg x0 (ys2881.getD 0 default) 0 3) 1), (AV.mkRef [x1]), (AV.mkRef [x2])] Sh.sc r3649) ∧
          (∃ r3905 : AV, ((Fn Try.prog 18 [(AV.cel (AV.atAgg x0 (ys2881.getD 0 default) 0 3) 2), (AV.mkRef [x1]), (AV.mkRef [x2])] Sh.sc r3905) ∧
          ((AV.isOne (AV.cel (AV.atAgg x0 (ys2881.getD 0 default) 0 3) 0)) ∧
          ((AV.isOne r3649) ∧
          ((AV.isOne r3905) ∧
          ((AV.binOk Go.BinOp.eql r3649 r3905) ∧
          ((AV.isBool (AV.bin Go.BinOp.eql r3649 r3905)) ∧
          (((isT (AV.bin Go.BinOp.eql r3649 r3905)) →
            ((AV.inb (AV.prj r513 0) (ys2881.getD 0 default)) ∧
            ((AV.inb (AV.prj r513 0) (ys2881.getD 0 default)) ∧
            ((AV.eqPlOk [(0, EK.str), (1, EK.str), (2, EK.str)] [(AV.cel (AV.atAgg (AV.prj r513 0) (ys2881.getD 0 default) 0 3) 0), (AV.cel (AV.atAgg (AV.prj r513 0) (ys2881.getD 0 default) 0 3) 1), (AV.cel (AV.atAgg (AV.prj r513 0) (ys2881.getD 0 default) 0 3) 2)] [(AV.cel (AV.atAgg x0 (ys2881.getD 0 default) 0 3) 0), r3649, (AV.lit (Value.string ⟨#[]⟩))]) ∧
            ((AV.isAgg (AV.atAgg (AV.prj r513 0) (ys2881.getD 0 default) 0 3) 3) ∧
            ((AV.isBool (AV.nePl [(0, EK.str), (1, EK.str), (2, EK.str)] [(AV.cel (AV.atAgg (AV.prj r513 0) (ys2881.getD 0 default) 0 3) 0), (AV.cel (AV.atAgg (AV.prj r513 0) (ys2881.getD 0 default) 0 3) 1), (AV.cel (AV.atAgg (AV.prj r513 0) (ys2881.getD 0 default) 0 3) 2)] [(AV.cel (AV.atAgg x0 (ys2881.getD 0 default) 0 3) 0), r3649, (AV.lit (Value.string ⟨#[]⟩))])) ∧
            ((isF (AV.nePl [(0, EK.str), (1, EK.str), (2, EK.str)] [(AV.cel (AV.atAgg (AV.prj r513 0) (ys2881.getD 0 default) 0 3) 0), (AV.cel (AV.atAgg (AV.prj r513 0) (ys2881.getD 0 default) 0 3) 1), (AV.cel (AV.atAgg (AV.prj r513 0) (ys2881.getD 0 default) 0 3) 2)] [(AV.cel (AV.atAgg x0 (ys2881.getD 0 default) 0 3) 0), r3649, (AV.lit (Value.string ⟨#[]⟩))])) ∧
            ((AV.binOk Go.BinOp.add (ys2881.getD 0 default) (AV.int 1)) ∧
            (again2881 [(AV.bin Go.BinOp.add (ys2881.getD 0 default) (AV.int 1))]))))))))) ∧
          ((isF (AV.bin Go.BinOp.eql r3649 r3905)) →
            ((AV.inb (AV.prj r513 0) (ys2881.getD 0 default)) ∧
            ((AV.inb (AV.prj r513 0) (ys2881.getD 0 default)) ∧
            ((AV.eqPlOk [(0, EK.str), (1, EK.str), (2, EK.str)] [(AV.cel (AV.atAgg (AV.prj r513 0) (ys2881.getD 0 default) 0 3) 0), (AV.cel (AV.atAgg (AV.prj r513 0) (ys2881.getD 0 default) 0 3) 1), (AV.cel (AV.atAgg (AV.prj r513 0) (ys2881.getD 0 default) 0 3) 2)] [(AV.cel (AV.atAgg x0 (ys2881.getD 0 default) 0 3) 0), r3649, r3905]) ∧
            ((AV.isAgg (AV.atAgg (AV.prj r513 0) (ys2881.getD 0 default) 0 3) 3) ∧
            ((AV.isBool (AV.nePl [(0, EK.str), (1, EK.str), (2, EK.str)] [(AV.cel (AV.atAgg (AV.prj r513 0) (ys2881.getD 0 default) 0 3) 0), (AV.cel (AV.atAgg (AV.prj r513 0) (ys2881.getD 0 default) 0 3) 1), (AV.cel (AV.atAgg (AV.prj r513 0) (ys2881.getD 0 default) 0 3) 2)] [(AV.cel (AV.atAgg x0 (ys2881.getD 0 default) 0 3) 0), r3649, r3905])) ∧
            ((isF (AV.nePl [(0, EK.str), (1, EK.str), (2, EK.str)] [(AV.cel (AV.atAgg (AV.prj r513 0) (ys2881.getD 0 default) 0 3) 0), (AV.cel (AV.atAgg (AV.prj r513 0) (ys2881.getD 0 default) 0 3) 1), (AV.cel (AV.atAgg (AV.prj r513 0) (ys2881.getD 0 default) 0 3) 2)] [(AV.cel (AV.atAgg x0 (ys2881.getD 0 default) 0 3) 0), r3649, r3905])) ∧
            ((AV.binOk Go.BinOp.add (ys2881.getD 0 default) (AV.int 1)) ∧
            (again2881 [(AV.bin Go.BinOp.add (ys2881.getD 0 default) (AV.int 1))]))))))))))))))))))))))) ∧
        ((isF (AV.bin Go.BinOp.lss (ys2881.getD 0 default) (AV.len x0))) →
          ((AV.flat (AV.bool true)) ∧
          (fSame (AV.bool true) r))))))))))))))))))))))))))))))))))))) ∧
((isF (AV.bin Go.BinOp.eql r961 (AV.int 0))) →
  ((AV.isBool (AV.bin Go.BinOp.eql r961 (AV.int 0))) ∧
  ((isF (AV.bin Go.BinOp.eql r961 (AV.int 0))) ∧
  ((AV.binOk Go.BinOp.neq r961 (AV.int 0)) ∧
  ((AV.isBool (AV.bin Go.BinOp.neq r961 (AV.int 0))) ∧
  ((isT (AV.bin Go.BinOp.neq r961 (AV.int 0))) ∧
  ((AV.binOk Go.BinOp.eql (AV.prj r513 1) r961) ∧
  ((AV.isBool (AV.bin Go.BinOp.eql (AV.prj r513 1) r961)) ∧
  ((isT (AV.bin Go.BinOp.eql (AV.prj r513 1) r961)) ∧
  ((AV.binOk Go.BinOp.eql (AV.len (AV.prj r513 0)) (AV.int 0)) ∧
  ((AV.isBool (AV.bin Go.BinOp.eql (AV.prj r513 1) r961)) ∧
  ((isT (AV.bin Go.BinOp.eql (AV.prj r513 1) r961)) ∧
  ((AV.flat (AV.bin Go.BinOp.eql (AV.len (AV.prj r513 0)) (AV.int 0))) ∧
  (fSame (AV.bin Go.BinOp.eql (AV.len (AV.prj r513 0)) (AV.int 0)) r))))))))))))))))))))))))))))) := by kernel_rfl
theorem fact_form ( r : AV) : fnF Try.prog Γ ann 2 14 Try.f14 (Try.f14.body.getD .skip) ((.t (.t (.t (.t (.t (.t (.t (.t (.t (.t (.t (.t (.t (.t (.t (.t .nil))))))))))))))))) [] (.sc) r = ((∃ r65 : AV, ((Fn Try.prog 28 [(AV.lit (Value.slice none 0 0)), (AV.lit (Value.string ⟨#[65, 49]⟩)), (AV.lit (Value.string ⟨#[69, 65, 83, 84]⟩))] (Sh.tup [(Sh.row 44 3 true), Sh.sc]) r65) ∧
(∃ r513 : AV, ((Fn Try.prog 29 [(AV.prj r65 0), (AV.lit (Value.string ⟨#[65, 49]⟩)), (AV.lit (Value.string ⟨#[69, 65, 83, 84]⟩)), (AV.lit (Value.string ⟨#[87, 69, 83, 84]⟩))] (Sh.tup [(Sh.row 44 3 true), Sh.sc]) r513) ∧
(∃ r961 : AV, ((Fn Try.prog 30 [(AV.prj r513 0), (AV.lit (Value.string ⟨#[65, 49]⟩)), (AV.lit (Value.string ⟨#[87, 69, 83, 84]⟩))] (Sh.tup [(Sh.row 44 3 true), Sh.sc]) r961) ∧
(∃ r1409 : AV, ((Fn Try.prog 31 [(AV.prj r513 0), (AV.lit (Value.string ⟨#[65, 49]⟩)), (AV.lit (Value.string ⟨#[87, 69, 83, 84]⟩))] (Sh.tup [(Sh.row 44 3 true), Sh.sc]) r1409) ∧
(∃ r1857 : AV, ((Fn Try.prog 32 [(AV.prj r961 0), (AV.lit (Value.string ⟨#[65, 49]⟩))] (Sh.tup [Sh.sc, Sh.sc]) r1857) ∧
(∃ r2305 : AV, ((Fn Try.prog 33 [(AV.prj r961 0), (AV.lit (Value.string ⟨#[87, 69, 83, 84]⟩))] (Sh.tup [(Sh.row 9 1 true), Sh.sc]) r2305) ∧
(∃ r2753 : AV, ((Fn Try.prog 15 [(AV.prj r513 0), (AV.lit (Value.string ⟨#[87, 69, 83, 84]⟩)), (AV.lit (Value.string ⟨#[69, 65, 83, 84]⟩))] (Sh.tup [(Sh.row 44 3 true), Sh.sc]) r2753) ∧
(∃ r3201 : AV, ((Fn Try.prog 34 [(AV.prj r961 0), (AV.lit (Value.string ⟨#[65, 49]⟩)), (AV.lit (Value.string ⟨#[87, 69, 83, 84]⟩))] (Sh.tup [(Sh.row 44 3 true), Sh.sc]) r3201) ∧
(∃ r3649 : AV, ((Fn Try.prog 34 [(AV.prj r961 0), (AV.lit (Value.string ⟨#[65, 49]⟩)), (AV.lit (Value.string ⟨#[69, 65, 83, 84]⟩))] (Sh.tup [(Sh.row 44 3 true), Sh.sc]) r3649) ∧
((AV.binOk Go.BinOp.eql (AV.prj r65 1) (AV.int 0)) ∧
((AV.isBool (AV.bin Go.BinOp.eql (AV.prj r65 1) (AV.int 0))) ∧
((isT (AV.bin Go.BinOp.eql (AV.prj r65 1) (AV.int 0))) ∧
((AV.binOk Go.BinOp.eql (AV.prj r513 1) (AV.int 0)) ∧
((AV.isBool (AV.bin Go.BinOp.eql (AV.prj r65 1) (AV.int 0))) ∧
((isT (AV.bin Go.BinOp.eql (AV.prj r65 1) (AV.int 0))) ∧
((AV.isBool (AV.bin Go.BinOp.eql (AV.prj r513 1) (AV.int 0))) ∧
((isT (AV.bin Go.BinOp.eql (AV.prj r513 1) (AV.int 0))) ∧
((AV.binOk Go.BinOp.eql (AV.prj r961 1) (AV.int 0)) ∧
((AV.isBool (AV.bin Go.BinOp.eql (AV.prj r513 1) (AV.int 0))) ∧
((isT (AV.bin Go.BinOp.eql (AV.prj r513 1) (AV.int 0))) ∧
((AV.isBool (AV.bin Go.BinOp.eql (AV.prj r961 1) (AV.int 0))) ∧
((isT (AV.bin Go.BinOp.eql (AV.prj r961 1) (AV.int 0))) ∧
((AV.binOk Go.BinOp.eql (AV.prj r1409 1) (AV.int 0)) ∧
((AV.isBool (AV.bin Go.BinOp.eql (AV.prj r961 1) (AV.int 0))) ∧
((isT (AV.bin Go.BinOp.eql (AV.prj r961 1) (AV.int 0))) ∧
((AV.isBool (AV.bin Go.BinOp.eql (AV.prj r1409 1) (AV.int 0))) ∧
((isT (AV.bin Go.BinOp.eql (AV.prj r1409 1) (AV.int 0))) ∧
((AV.binOk Go.BinOp.eql (AV.prj r1857 1) (AV.int 0)) ∧
((AV.isBool (AV.bin Go.BinOp.eql (AV.prj r1409 1) (AV.int 0))) ∧
((isT (AV.bin Go.BinOp.eql (AV.prj r1409 1) (AV.int 0))) ∧
((AV.isBool (AV.bin Go.BinOp.eql (AV.prj r1857 1) (AV.int 0))) ∧
((isT (AV.bin Go.BinOp.eql (AV.prj r1857 1) (AV.int 0))) ∧
((AV.binOk Go.BinOp.eql (AV.prj r2305 1) (AV.int 0)) ∧
((AV.isBool (AV.bin Go.BinOp.eql (AV.prj r1857 1) (AV.int 0))) ∧
((isT (AV.bin Go.BinOp.eql (AV.prj r1857 1) (AV.int 0))) ∧
((AV.isBool (AV.bin Go.BinOp.eql (AV.prj r2305 1) (AV.int 0))) ∧
((isT (AV.bin Go.BinOp.eql (AV.prj r2305 1) (AV.int 0))) ∧
((AV.binOk Go.BinOp.eql (AV.prj r2753 1) (AV.int 0)) ∧
((AV.isBool (AV.bin Go.BinOp.eql (AV.prj r2305 1) (AV.int 0))) ∧
((isT (AV.bin Go.BinOp.eql (AV.prj r2305 1) (AV.int 0))) ∧
((AV.isBool (AV.bin Go.BinOp.eql (AV.prj r2753 1) (AV.int 0))) ∧
((isT (AV.bin Go.BinOp.eql (AV.prj r2753 1) (AV.int 0))) ∧
((AV.binOk Go.BinOp.eql (AV.prj r3201 1) (AV.int 0)) ∧
((AV.isBool (AV.bin Go.BinOp.eql (AV.prj r2753 1) (AV.int 0))) ∧
((isT (AV.bin Go.BinOp.eql (AV.prj r2753 1) (AV.int 0))) ∧
((AV.isBool (AV.bin Go.BinOp.eql (AV.prj r3201 1) (AV.int 0))) ∧
((isT (AV.bin Go.BinOp.eql (AV.prj r3201 1) (AV.int 0))) ∧
((AV.binOk Go.BinOp.eql (AV.prj r3649 1) (AV.int 16)) ∧
((AV.isBool (AV.bin Go.BinOp.eql (AV.prj r3201 1) (AV.int 0))) ∧
((isT (AV.bin Go.BinOp.eql (AV.prj r3201 1) (AV.int 0))) ∧
((AV.isBool (AV.bin Go.BinOp.eql (AV.prj r3649 1) (AV.int 16))) ∧
((isT (AV.bin Go.BinOp.eql (AV.prj r3649 1) (AV.int 16))) ∧
((AV.binOk Go.BinOp.eql (AV.prj r1857 0) (AV.lit (Value.string ⟨#[87, 69, 83, 84]⟩))) ∧
((AV.isBool (AV.bin Go.BinOp.eql (AV.prj r3649 1) (AV.int 16))) ∧
((isT (AV.bin Go.BinOp.eql (AV.prj r3649 1) (AV.int 16))) ∧
((AV.isBool (AV.bin Go.BinOp.eql (AV.prj r1857 0) (AV.lit (Value.string ⟨#[87, 69, 83, 84]⟩)))) ∧
((isT (AV.bin Go.BinOp.eql (AV.prj r1857 0) (AV.lit (Value.string ⟨#[87, 69, 83, 84]⟩)))) ∧
(∃ r6657 : AV, ((Fn Try.prog 26 [(AV.prj r2305 0), (AV.mk 1 [[(AV.lit (Value.string ⟨#[65, 49]⟩))]])] Sh.sc r6657) ∧
((AV.isBool (AV.bin Go.BinOp.eql (AV.prj r1857 0) (AV.lit (Value.string ⟨#[87, 69, 83, 84]⟩)))) ∧
((isT (AV.bin Go.BinOp.eql (AV.prj r1857 0) (AV.lit (Value.string ⟨#[87, 69, 83, 84]⟩)))) ∧
((AV.isBool r6657) ∧
((isT r6657) ∧
(∃ r6977 : AV, ((Fn Try.prog 35 [(AV.prj r65 0), (AV.prj r1409 0)] Sh.sc r6977) ∧
((AV.isBool r6657) ∧
((isT r6657) ∧
((AV.isBool r6977) ∧
((isT r6977) ∧
(∃ r7297 : AV, ((Fn Try.prog 35 [(AV.prj r65 0), (AV.prj r2753 0)] Sh.sc r7297) ∧
((AV.isBool r6977) ∧
((isT r6977) ∧
((AV.isBool r7297) ∧
((isT r7297) ∧
((AV.binOk Go.BinOp.eql (AV.len (AV.prj r65 0)) (AV.int 1)) ∧
((AV.isBool r7297) ∧
((isT r7297) ∧
((AV.isBool (AV.bin Go.BinOp.eql (AV.len (AV.prj r65 0)) (AV.int 1))) ∧
((isT (AV.bin Go.BinOp.eql (AV.len (AV.prj r65 0)) (AV.int 1))) ∧
((AV.binOk Go.BinOp.eql (AV.len (AV.prj r3201 0)) (AV.int 0)) ∧
((AV.isBool (AV.bin Go.BinOp.eql (AV.len (AV.prj r65 0)) (AV.int 1))) ∧
((isT (AV.bin Go.BinOp.eql (AV.len (AV.prj r65 0)) (AV.int 1))) ∧
((AV.isBool (AV.bin Go.BinOp.eql (AV.len (AV.prj r3201 0)) (AV.int 0))) ∧
((isT (AV.bin Go.BinOp.eql (AV.len (AV.prj r3201 0)) (AV.int 0))) ∧
((fEnt Try.prog 36) ∧
(fAllV fun _ => (∃ r8321 : AV, ((Fn Try.prog 49 [(AV.lit (Value.string ⟨#[65, 49]⟩))] Sh.sc r8321) ∧
((AV.isBool (AV.bin Go.BinOp.eql (AV.len (AV.prj r3201 0)) (AV.int 0))) ∧
((isT (AV.bin Go.BinOp.eql (AV.len (AV.prj r3201 0)) (AV.int 0))) ∧
((AV.isBool r8321) ∧
((isT r8321) ∧
((AV.room (AV.prj r65 0) (AV.prj r65 0) 48) ∧
(∃ r8833 : AV, ((Fn Try.prog 37 [(AV.app 3 (AV.prj r65 0) (AV.prj r65 0))] Sh.sc r8833) ∧
((AV.binOk Go.BinOp.eql r8833 (AV.int 7)) ∧
((AV.isBool r8321) ∧
((isT r8321) ∧
((AV.flat (AV.bin Go.BinOp.eql r8833 (AV.int 7))) ∧
(fSame (AV.bin Go.BinOp.eql r8833 (AV.int 7)) r))))))))))))))))))))))))))))))))))))))))))))))))))))))))))))))))))))))))))))))))))))))))))))))))))))))))))))))) := by kernel_rfl
end OwnerG
end Go.Proofs.Ytalfopommofdfaa
