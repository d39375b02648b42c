/- cmp: what the run ends in. -/
import Derived.Test.YtfdpbfdhcngfgaaVal
namespace Go.Proofs.Ytfdpbfdhcngfgaa
open Go.RowKit
set_option linter.unusedVariables false
set_option maxRecDepth 100000
namespace CmpF
--GAMMA
def Γ : FuncId → Option Ca := fun f => some .inl
def ann : FuncId → Nat → LoopEx := fun f r => ⟨[], [], [], []⟩
--END GAMMA
theorem cmp_form (x0 x1 r : AV) : fnF Try.prog Γ ann 2 23 Try.f23 (Try.f23.body.getD .skip) (.nil) [x0, x1] (.sc) r = (((fEnt Try.prog 39) ∧
(fAllV fun _ => ((AV.binOk Go.BinOp.neq x0 x0) ∧
((fEnt Try.prog 39) ∧
(fAllV fun _ => ((AV.binOk Go.BinOp.neq x1 x1) ∧
((AV.isBool (AV.bin Go.BinOp.neq x0 x0)) ∧
(((isT (AV.bin Go.BinOp.neq x0 x0)) →
  ((AV.isBool (AV.bin Go.BinOp.neq x1 x1)) ∧
  (((isT (AV.bin Go.BinOp.neq x1 x1)) →
    ((AV.flat (AV.int 0)) ∧
    (fSame (AV.int 0) r))) ∧
  ((isF (AV.bin Go.BinOp.neq x1 x1)) →
    ((AV.flat (AV.int (-1))) ∧
    (fSame (AV.int (-1)) r)))))) ∧
((isF (AV.bin Go.BinOp.neq x0 x0)) →
  ((AV.isBool (AV.bin Go.BinOp.neq x1 x1)) ∧
  (((isT (AV.bin Go.BinOp.neq x1 x1)) →
    ((AV.flat (AV.int 1)) ∧
    (fSame (AV.int 1) r))) ∧
  ((isF (AV.bin Go.BinOp.neq x1 x1)) →
    ((AV.binOk Go.BinOp.lss x0 x1) ∧
    ((AV.isBool (AV.bin Go.BinOp.lss x0 x1)) ∧
    (((isT (AV.bin Go.BinOp.lss x0 x1)) →
      ((AV.flat (AV.int (-1))) ∧
      (fSame (AV.int (-1)) r))) ∧
    ((isF (AV.bin Go.BinOp.lss x0 x1)) →
      ((AV.binOk Go.BinOp.gtr x0 x1) ∧
      ((AV.isBool (AV.bin Go.BinOp.gtr x0 x1)) ∧
      (((isT (AV.bin Go.BinOp.gtr x0 x1)) →
        ((AV.flat (AV.int 1)) ∧
        (fSame (AV.int 1) r))) ∧
      ((isF (AV.bin Go.BinOp.gtr x0 x1)) →
        ((AV.flat (AV.int 0)) ∧
        (fSame (AV.int 0) r))))))))))))))))))))))) := by kernel_rfl
theorem or_form (x0 r : AV) : fnF Try.prog Γ ann 2 22 Try.f22 (Try.f22.body.getD .skip) (.nil) [x0] (.sc) r = (((AV.isSl x0 1) ∧
(fLoop 321 [(AV.int 0)] fun ys321 again321 =>
  ((AV.binOk Go.BinOp.lss (ys321.getD 0 default) (AV.len x0)) ∧
  ((AV.isBool (AV.bin Go.BinOp.lss (ys321.getD 0 default) (AV.len x0))) ∧
  (((isT (AV.bin Go.BinOp.lss (ys321.getD 0 default) (AV.len x0))) →
    ((AV.isSl x0 1) ∧
    ((AV.inb x0 (ys321.getD 0 default)) ∧
    ((AV.binOk Go.BinOp.neq (AV.at x0 (ys321.getD 0 default) 0) (AV.int 0)) ∧
    ((AV.isBool (AV.bin Go.BinOp.neq (AV.at x0 (ys321.getD 0 default) 0) (AV.int 0))) ∧
    (((isT (AV.bin Go.BinOp.neq (AV.at x0 (ys321.getD 0 default) 0) (AV.int 0))) →
      ((AV.flat (AV.at x0 (ys321.getD 0 default) 0)) ∧
      (fSame (AV.at x0 (ys321.getD 0 default) 0) r))) ∧
    ((isF (AV.bin Go.BinOp.neq (AV.at x0 (ys321.getD 0 default) 0) (AV.int 0))) →
      ((AV.binOk Go.BinOp.add (ys321.getD 0 default) (AV.int 1)) ∧
      (again321 [(AV.bin Go.BinOp.add (ys321.getD 0 default) (AV.int 1))]))))))))) ∧
  ((isF (AV.bin Go.BinOp.lss (ys321.getD 0 default) (AV.len x0))) →
    ((AV.flat (AV.int 0)) ∧
    (fSame (AV.int 0) r))))))))) := by kernel_rfl
end CmpF
end Go.Proofs.Ytfdpbfdhcngfgaa
