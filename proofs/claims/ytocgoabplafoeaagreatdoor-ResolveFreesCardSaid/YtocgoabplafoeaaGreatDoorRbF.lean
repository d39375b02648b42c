/- readback: what the run ends in. -/
import Derived.Test.YtocgoabplafoeaaGreatDoorVal
namespace Go.Proofs.YtocgoabplafoeaaGreatDoor
open Go.RowKit
set_option linter.unusedVariables false
set_option maxRecDepth 100000
namespace RbF
--GAMMA
def Γ : FuncId → Option Ca := fun f =>
  if f = 30 ∨ f = 22 ∨ f = 33 ∨ f = 51 ∨ f = 14 then some (.fn .sc)
  else some .inl
def ann : FuncId → Nat → LoopEx := fun f r => ⟨[], [], [], []⟩
--END GAMMA
theorem climbed_form (x0 r : AV) : fnF Tryz.prog Γ ann 1 14 Tryz.f14 (Tryz.f14.body.getD .skip) (.nil) [x0] (.sc) r = (((AV.isOne x0) ∧
((AV.flat (AV.agg [(AV.lit (Value.string ⟨#[65, 49]⟩)), (AV.int 0), x0, (AV.lit (Value.string ⟨#[]⟩))])) ∧
(fSame (AV.agg [(AV.lit (Value.string ⟨#[65, 49]⟩)), (AV.int 0), x0, (AV.lit (Value.string ⟨#[]⟩))]) r)))) := by kernel_rfl
theorem kind_form (x0 r : AV) : fnF Tryz.prog Γ ann 3 51 Tryz.f51 (Tryz.f51.body.getD .skip) (.nil) [x0] (.sc) r = (((AV.isRef (AV.mkRef [(AV.lit (Value.string ⟨#[72, 69, 73, 71, 72, 84]⟩)), (AV.lit (Value.string ⟨#[72, 69, 65, 68, 73, 78, 71]⟩)), (AV.lit (Value.string ⟨#[83, 80, 69, 69, 68]⟩)), (AV.lit (Value.string ⟨#[68, 73, 82, 69, 67, 84]⟩)), (AV.lit (Value.string ⟨#[72, 79, 76, 68]⟩)), (AV.lit (Value.string ⟨#[67, 79, 78, 84, 65, 67, 84]⟩)), (AV.lit (Value.string ⟨#[76, 65, 78, 68]⟩))]) 7) ∧
((fEnt Tryz.prog 65) ∧
(fAllV fun _ => ((AV.isSl (AV.refSl (AV.mkRef [(AV.lit (Value.string ⟨#[72, 69, 73, 71, 72, 84]⟩)), (AV.lit (Value.string ⟨#[72, 69, 65, 68, 73, 78, 71]⟩)), (AV.lit (Value.string ⟨#[83, 80, 69, 69, 68]⟩)), (AV.lit (Value.string ⟨#[68, 73, 82, 69, 67, 84]⟩)), (AV.lit (Value.string ⟨#[72, 79, 76, 68]⟩)), (AV.lit (Value.string ⟨#[67, 79, 78, 84, 65, 67, 84]⟩)), (AV.lit (Value.string ⟨#[76, 65, 78, 68]⟩))])) 1) ∧
(fLoop 513 [(AV.int 0)] fun ys513 again513 =>
  ((AV.binOk Go.BinOp.lss (ys513.getD 0 default) (AV.len (AV.refSl (AV.mkRef [(AV.lit (Value.string ⟨#[72, 69, 73, 71, 72, 84]⟩)), (AV.lit (Value.string ⟨#[72, 69, 65, 68, 73, 78, 71]⟩)), (AV.lit (Value.string ⟨#[83, 80, 69, 69, 68]⟩)), (AV.lit (Value.string ⟨#[68, 73, 82, 69, 67, 84]⟩)), (AV.lit (Value.string ⟨#[72, 79, 76, 68]⟩)), (AV.lit (Value.string ⟨#[67, 79, 78, 84, 65, 67, 84]⟩)), (AV.lit (Value.string ⟨#[76, 65, 78, 68]⟩))])))) ∧
  ((AV.isBool (AV.bin Go.BinOp.lss (ys513.getD 0 default) (AV.len (AV.refSl (AV.mkRef [(AV.lit (Value.string ⟨#[72, 69, 73, 71, 72, 84]⟩)), (AV.lit (Value.string ⟨#[72, 69, 65, 68, 73, 78, 71]⟩)), (AV.lit (Value.string ⟨#[83, 80, 69, 69, 68]⟩)), (AV.lit (Value.string ⟨#[68, 73, 82, 69, 67, 84]⟩)), (AV.lit (Value.string ⟨#[72, 79, 76, 68]⟩)), (AV.lit (Value.string ⟨#[67, 79, 78, 84, 65, 67, 84]⟩)), (AV.lit (Value.string ⟨#[76, 65, 78, 68]⟩))]))))) ∧
  (((isT (AV.bin Go.BinOp.lss (ys513.getD 0 default) (AV.len (AV.refSl (AV.mkRef [(AV.lit (Value.string ⟨#[72, 69, 73, 71, 72, 84]⟩)), (AV.lit (Value.string ⟨#[72, 69, 65, 68, 73, 78, 71]⟩)), (AV.lit (Value.string ⟨#[83, 80, 69, 69, 68]⟩)), (AV.lit (Value.string ⟨#[68, 73, 82, 69, 67, 84]⟩)), (AV.lit (Value.string ⟨#[72, 79, 76, 68]⟩)), (AV.lit (Value.string ⟨#[67, 79, 78, 84, 65, 67, 84]⟩)), (AV.lit (Value.string ⟨#[76, 65, 78, 68]⟩))]))))) →
    ((AV.isSl (AV.refSl (AV.mkRef [(AV.lit (Value.string ⟨#[72, 69, 73, 71, 72, 84]⟩)), (AV.lit (Value.string ⟨#[72, 69, 65, 68, 73, 78, 71]⟩)), (AV.lit (Value.string ⟨#[83, 80, 69, 69, 68]⟩)), (AV.lit (Value.string ⟨#[68, 73, 82, 69, 67, 84]⟩)), (AV.lit (Value.string ⟨#[72, 79, 76, 68]⟩)), (AV.lit (Value.string ⟨#[67, 79, 78, 84, 65, 67, 84]⟩)), (AV.lit (Value.string ⟨#[76, 65, 78, 68]⟩))])) 1) ∧
    ((AV.inb (AV.refSl (AV.mkRef [(AV.lit (Value.string ⟨#[72, 69, 73, 71, 72, 84]⟩)), (AV.lit (Value.string ⟨#[72, 69, 65, 68, 73, 78, 71]⟩)), (AV.lit (Value.string ⟨#[83, 80, 69, 69, 68]⟩)), (AV.lit (Value.string ⟨#[68, 73, 82, 69, 67, 84]⟩)), (AV.lit (Value.string ⟨#[72, 79, 76, 68]⟩)), (AV.lit (Value.string ⟨#[67, 79, 78, 84, 65, 67, 84]⟩)), (AV.lit (Value.string ⟨#[76, 65, 78, 68]⟩))])) (ys513.getD 0 default)) ∧
    ((AV.binOk Go.BinOp.eql x0 (AV.at (AV.refSl (AV.mkRef [(AV.lit (Value.string ⟨#[72, 69, 73, 71, 72, 84]⟩)), (AV.lit (Value.string ⟨#[72, 69, 65, 68, 73, 78, 71]⟩)), (AV.lit (Value.string ⟨#[83, 80, 69, 69, 68]⟩)), (AV.lit (Value.string ⟨#[68, 73, 82, 69, 67, 84]⟩)), (AV.lit (Value.string ⟨#[72, 79, 76, 68]⟩)), (AV.lit (Value.string ⟨#[67, 79, 78, 84, 65, 67, 84]⟩)), (AV.lit (Value.string ⟨#[76, 65, 78, 68]⟩))])) (ys513.getD 0 default) 0)) ∧
    ((AV.isBool (AV.bin Go.BinOp.eql x0 (AV.at (AV.refSl (AV.mkRef [(AV.lit (Value.string ⟨#[72, 69, 73, 71, 72, 84]⟩)), (AV.lit (Value.string ⟨#[72, 69, 65, 68, 73, 78, 71]⟩)), (AV.lit (Value.string ⟨#[83, 80, 69, 69, 68]⟩)), (AV.lit (Value.string ⟨#[68, 73, 82, 69, 67, 84]⟩)), (AV.lit (Value.string ⟨#[72, 79, 76, 68]⟩)), (AV.lit (Value.string ⟨#[67, 79, 78, 84, 65, 67, 84]⟩)), (AV.lit (Value.string ⟨#[76, 65, 78, 68]⟩))])) (ys513.getD 0 default) 0))) ∧
    (((isT (AV.bin Go.BinOp.eql x0 (AV.at (AV.refSl (AV.mkRef [(AV.lit (Value.string ⟨#[72, 69, 73, 71, 72, 84]⟩)), (AV.lit (Value.string ⟨#[72, 69, 65, 68, 73, 78, 71]⟩)), (AV.lit (Value.string ⟨#[83, 80, 69, 69, 68]⟩)), (AV.lit (Value.string ⟨#[68, 73, 82, 69, 67, 84]⟩)), (AV.lit (Value.string ⟨#[72, 79, 76, 68]⟩)), (AV.lit (Value.string ⟨#[67, 79, 78, 84, 65, 67, 84]⟩)), (AV.lit (Value.string ⟨#[76, 65, 78, 68]⟩))])) (ys513.getD 0 default) 0))) →
      ((AV.flat (ys513.getD 0 default)) ∧
      (fSame (ys513.getD 0 default) r))) ∧
    ((isF (AV.bin Go.BinOp.eql x0 (AV.at (AV.refSl (AV.mkRef [(AV.lit (Value.string ⟨#[72, 69, 73, 71, 72, 84]⟩)), (AV.lit (Value.string ⟨#[72, 69, 65, 68, 73, 78, 71]⟩)), (AV.lit (Value.string ⟨#[83, 80, 69, 69, 68]⟩)), (AV.lit (Value.string ⟨#[68, 73, 82, 69, 67, 84]⟩)), (AV.lit (Value.string ⟨#[72, 79, 76, 68]⟩)), (AV.lit (Value.string ⟨#[67, 79, 78, 84, 65, 67, 84]⟩)), (AV.lit (Value.string ⟨#[76, 65, 78, 68]⟩))])) (ys513.getD 0 default) 0))) →
      ((AV.binOk Go.BinOp.add (ys513.getD 0 default) (AV.int 1)) ∧
      (again513 [(AV.bin Go.BinOp.add (ys513.getD 0 default) (AV.int 1))]))))))))) ∧
  ((isF (AV.bin Go.BinOp.lss (ys513.getD 0 default) (AV.len (AV.refSl (AV.mkRef [(AV.lit (Value.string ⟨#[72, 69, 73, 71, 72, 84]⟩)), (AV.lit (Value.string ⟨#[72, 69, 65, 68, 73, 78, 71]⟩)), (AV.lit (Value.string ⟨#[83, 80, 69, 69, 68]⟩)), (AV.lit (Value.string ⟨#[68, 73, 82, 69, 67, 84]⟩)), (AV.lit (Value.string ⟨#[72, 79, 76, 68]⟩)), (AV.lit (Value.string ⟨#[67, 79, 78, 84, 65, 67, 84]⟩)), (AV.lit (Value.string ⟨#[76, 65, 78, 68]⟩))]))))) →
    ((AV.flat (AV.int (-1))) ∧
    (fSame (AV.int (-1)) r)))))))))))) := by kernel_rfl
theorem name_form (x0 r : AV) : fnF Tryz.prog Γ ann 3 33 Tryz.f33 (Tryz.f33.body.getD .skip) (.nil) [x0] (.sc) r = ((∃ r129 : AV, ((Fn Tryz.prog 30 [x0] Sh.sc r129) ∧
((AV.isBool r129) ∧
(((isT r129) →
  (∃ r321 : AV, ((Fn Tryz.prog 51 [x0] Sh.sc r321) ∧
  ((AV.binOk Go.BinOp.lss r321 (AV.int 0)) ∧
  ((AV.isBool r129) ∧
  ((isT r129) ∧
  ((AV.flat (AV.bin Go.BinOp.lss r321 (AV.int 0))) ∧
  (fSame (AV.bin Go.BinOp.lss r321 (AV.int 0)) r)))))))) ∧
((isF r129) →
  ((AV.isBool r129) ∧
  ((isF r129) ∧
  ((AV.flat (AV.bool false)) ∧
  (fSame (AV.bool false) r)))))))))) := by kernel_rfl
theorem check_form (x0 r : AV) : fnF Tryz.prog Γ ann 3 22 Tryz.f22 (Tryz.f22.body.getD .skip) (.nil) [x0] (.sc) r = (((AV.isAgg x0 4) ∧
(∃ r257 : AV, ((Fn Tryz.prog 33 [(AV.cel x0 0)] Sh.sc r257) ∧
((AV.unOk Go.UnOp.not r257) ∧
((AV.isBool (AV.un Go.UnOp.not r257)) ∧
(((isT (AV.un Go.UnOp.not r257)) →
  ((AV.flat (AV.int 3)) ∧
  (fSame (AV.int 3) r))) ∧
((isF (AV.un Go.UnOp.not r257)) →
  ((AV.binOk Go.BinOp.lss (AV.cel x0 1) (AV.int 0)) ∧
  ((AV.isBool (AV.bin Go.BinOp.lss (AV.cel x0 1) (AV.int 0))) ∧
  (((isT (AV.bin Go.BinOp.lss (AV.cel x0 1) (AV.int 0))) →
    ((AV.isBool (AV.bin Go.BinOp.lss (AV.cel x0 1) (AV.int 0))) ∧
    ((isT (AV.bin Go.BinOp.lss (AV.cel x0 1) (AV.int 0))) ∧
    ((AV.flat (AV.int 1)) ∧
    (fSame (AV.int 1) r))))) ∧
  ((isF (AV.bin Go.BinOp.lss (AV.cel x0 1) (AV.int 0))) →
    ((AV.binOk Go.BinOp.gtr (AV.cel x0 1) (AV.int 6)) ∧
    ((AV.isBool (AV.bin Go.BinOp.lss (AV.cel x0 1) (AV.int 0))) ∧
    ((isF (AV.bin Go.BinOp.lss (AV.cel x0 1) (AV.int 0))) ∧
    ((AV.isBool (AV.bin Go.BinOp.gtr (AV.cel x0 1) (AV.int 6))) ∧
    (((isT (AV.bin Go.BinOp.gtr (AV.cel x0 1) (AV.int 6))) →
      ((AV.flat (AV.int 1)) ∧
      (fSame (AV.int 1) r))) ∧
    ((isF (AV.bin Go.BinOp.gtr (AV.cel x0 1) (AV.int 6))) →
      ((AV.binOk Go.BinOp.gtr (AV.cel x0 1) (AV.int 2)) ∧
      ((AV.isBool (AV.bin Go.BinOp.gtr (AV.cel x0 1) (AV.int 2))) ∧
      (((isT (AV.bin Go.BinOp.gtr (AV.cel x0 1) (AV.int 2))) →
        ((AV.binOk Go.BinOp.neq (AV.cel x0 2) (AV.int 0)) ∧
        ((AV.isBool (AV.bin Go.BinOp.neq (AV.cel x0 2) (AV.int 0))) ∧
        (((isT (AV.bin Go.BinOp.neq (AV.cel x0 2) (AV.int 0))) →
          ((AV.isBool (AV.bin Go.BinOp.neq (AV.cel x0 2) (AV.int 0))) ∧
          ((isT (AV.bin Go.BinOp.neq (AV.cel x0 2) (AV.int 0))) ∧
          ((AV.flat (AV.int 3)) ∧
          (fSame (AV.int 3) r))))) ∧
        ((isF (AV.bin Go.BinOp.neq (AV.cel x0 2) (AV.int 0))) →
          (∃ r1665 : AV, ((Fn Tryz.prog 33 [(AV.cel x0 3)] Sh.sc r1665) ∧
          ((AV.unOk Go.UnOp.not r1665) ∧
          ((AV.isBool (AV.bin Go.BinOp.neq (AV.cel x0 2) (AV.int 0))) ∧
          ((isF (AV.bin Go.BinOp.neq (AV.cel x0 2) (AV.int 0))) ∧
          ((AV.isBool (AV.un Go.UnOp.not r1665)) ∧
          (((isT (AV.un Go.UnOp.not r1665)) →
            ((AV.flat (AV.int 3)) ∧
            (fSame (AV.int 3) r))) ∧
          ((isF (AV.un Go.UnOp.not r1665)) →
            ((AV.flat (AV.int 0)) ∧
            (fSame (AV.int 0) r))))))))))))))) ∧
      ((isF (AV.bin Go.BinOp.gtr (AV.cel x0 1) (AV.int 2))) →
        ((AV.binOk Go.BinOp.neq (AV.cel x0 3) (AV.lit (Value.string ⟨#[]⟩))) ∧
        ((AV.isBool (AV.bin Go.BinOp.neq (AV.cel x0 3) (AV.lit (Value.string ⟨#[]⟩)))) ∧
        (((isT (AV.bin Go.BinOp.neq (AV.cel x0 3) (AV.lit (Value.string ⟨#[]⟩)))) →
          ((AV.flat (AV.int 3)) ∧
          (fSame (AV.int 3) r))) ∧
        ((isF (AV.bin Go.BinOp.neq (AV.cel x0 3) (AV.lit (Value.string ⟨#[]⟩)))) →
          ((AV.binOk Go.BinOp.lss (AV.cel x0 2) (AV.int 0)) ∧
          ((AV.isBool (AV.bin Go.BinOp.lss (AV.cel x0 2) (AV.int 0))) ∧
          (((isT (AV.bin Go.BinOp.lss (AV.cel x0 2) (AV.int 0))) →
            ((AV.isBool (AV.bin Go.BinOp.lss (AV.cel x0 2) (AV.int 0))) ∧
            ((isT (AV.bin Go.BinOp.lss (AV.cel x0 2) (AV.int 0))) ∧
            ((AV.flat (AV.int 4)) ∧
            (fSame (AV.int 4) r))))) ∧
          ((isF (AV.bin Go.BinOp.lss (AV.cel x0 2) (AV.int 0))) →
            ((AV.inl 3 (AV.cel x0 1)) ∧
            ((AV.isRef (AV.mkRef [(AV.int 60000), (AV.int 4095), (AV.int 400)]) 3) ∧
            ((AV.refOk (AV.mkRef [(AV.int 60000), (AV.int 4095), (AV.int 400)]) 3 0 [((AV.cel x0 1), 1)]) ∧
            ((AV.binOk Go.BinOp.gtr (AV.cel x0 2) (AV.refNth (AV.mkRef [(AV.int 60000), (AV.int 4095), (AV.int 400)]) 0 [((AV.cel x0 1), 1)])) ∧
            ((AV.isBool (AV.bin Go.BinOp.lss (AV.cel x0 2) (AV.int 0))) ∧
            ((isF (AV.bin Go.BinOp.lss (AV.cel x0 2) (AV.int 0))) ∧
            ((AV.isBool (AV.bin Go.BinOp.gtr (AV.cel x0 2) (AV.refNth (AV.mkRef [(AV.int 60000), (AV.int 4095), (AV.int 400)]) 0 [((AV.cel x0 1), 1)]))) ∧
            (((isT (AV.bin Go.BinOp.gtr (AV.cel x0 2) (AV.refNth (AV.mkRef [(AV.int 60000), (AV.int 4095), (AV.int 400)]) 0 [((AV.cel x0 1), 1)]))) →
              ((AV.flat (AV.int 4)) ∧
              (fSame (AV.int 4) r))) ∧
            ((isF (AV.bin Go.BinOp.gtr (AV.cel x0 2) (AV.refNth (AV.mkRef [(AV.int 60000), (AV.int 4095), (AV.int 400)]) 0 [((AV.cel x0 1), 1)]))) →
              ((AV.flat (AV.int 0)) ∧
              (fSame (AV.int 0) r))))))))))))))))))))))))))))))))))))))))) := by kernel_rfl
end RbF
end Go.Proofs.YtocgoabplafoeaaGreatDoor
