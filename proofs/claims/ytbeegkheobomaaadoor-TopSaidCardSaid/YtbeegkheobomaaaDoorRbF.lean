/- readback: what the run ends in. -/
import Derived.Test.YtbeegkheobomaaaDoorVal
namespace Go.Proofs.YtbeegkheobomaaaDoor
open Go.RowKit
set_option linter.unusedVariables false
set_option maxRecDepth 100000
namespace RbF
--GAMMA
def Γ : FuncId → Option Ca := fun f =>
  if f = 33 ∨ f = 32 ∨ f = 9 ∨ f = 20 ∨ f = 34 ∨ f = 22 ∨ f = 19 ∨ f = 8 ∨ f = 41 ∨ f = 29 ∨ f = 42 ∨ f = 27 ∨ f = 17 then some (.fn .sc)
  else if f = 15 then some (.fn (.tup [.sc, .sc]))
  else if f = 14 ∨ f = 16 then some (.fn (.tup [.row 59 5 true, .sc]))
  else if f = 30 then some (.upd true)
  else some .inl
def ann : FuncId → Nat → LoopEx := fun f r => ⟨[], [], [], []⟩
--END GAMMA
theorem climbed_form (x0 r : AV) : fnF Tryd.prog Γ ann 1 17 Tryd.f17 (Tryd.f17.body.getD .skip) (.nil) [x0] (.sc) r = (((AV.isOne x0) ∧
((AV.flat (AV.agg [(AV.lit (Value.string ⟨#[65, 49]⟩)), (AV.int 0), x0, (AV.lit (Value.string ⟨#[]⟩))])) ∧
(fSame (AV.agg [(AV.lit (Value.string ⟨#[65, 49]⟩)), (AV.int 0), x0, (AV.lit (Value.string ⟨#[]⟩))]) r)))) := by kernel_rfl
theorem kind_form (x0 r : AV) : fnF Tryd.prog Γ ann 3 34 Tryd.f34 (Tryd.f34.body.getD .skip) (.nil) [x0] (.sc) r = (((AV.isRef (AV.mkRef [(AV.lit (Value.string ⟨#[72, 69, 73, 71, 72, 84]⟩)), (AV.lit (Value.string ⟨#[72, 69, 65, 68, 73, 78, 71]⟩)), (AV.lit (Value.string ⟨#[83, 80, 69, 69, 68]⟩)), (AV.lit (Value.string ⟨#[68, 73, 82, 69, 67, 84]⟩)), (AV.lit (Value.string ⟨#[72, 79, 76, 68]⟩)), (AV.lit (Value.string ⟨#[67, 79, 78, 84, 65, 67, 84]⟩)), (AV.lit (Value.string ⟨#[76, 65, 78, 68]⟩))]) 7) ∧
((fEnt Tryd.prog 37) ∧
(fAllV fun _ => ((AV.isSl (AV.refSl (AV.mkRef [(AV.lit (Value.string ⟨#[72, 69, 73, 71, 72, 84]⟩)), (AV.lit (Value.string ⟨#[72, 69, 65, 68, 73, 78, 71]⟩)), (AV.lit (Value.string ⟨#[83, 80, 69, 69, 68]⟩)), (AV.lit (Value.string ⟨#[68, 73, 82, 69, 67, 84]⟩)), (AV.lit (Value.string ⟨#[72, 79, 76, 68]⟩)), (AV.lit (Value.string ⟨#[67, 79, 78, 84, 65, 67, 84]⟩)), (AV.lit (Value.string ⟨#[76, 65, 78, 68]⟩))])) 1) ∧
(fLoop 513 [(AV.int 0)] fun ys513 again513 =>
  ((AV.binOk Go.BinOp.lss (ys513.getD 0 default) (AV.len (AV.refSl (AV.mkRef [(AV.lit (Value.string ⟨#[72, 69, 73, 71, 72, 84]⟩)), (AV.lit (Value.string ⟨#[72, 69, 65, 68, 73, 78, 71]⟩)), (AV.lit (Value.string ⟨#[83, 80, 69, 69, 68]⟩)), (AV.lit (Value.string ⟨#[68, 73, 82, 69, 67, 84]⟩)), (AV.lit (Value.string ⟨#[72, 79, 76, 68]⟩)), (AV.lit (Value.string ⟨#[67, 79, 78, 84, 65, 67, 84]⟩)), (AV.lit (Value.string ⟨#[76, 65, 78, 68]⟩))])))) ∧
  ((AV.isBool (AV.bin Go.BinOp.lss (ys513.getD 0 default) (AV.len (AV.refSl (AV.mkRef [(AV.lit (Value.string ⟨#[72, 69, 73, 71, 72, 84]⟩)), (AV.lit (Value.string ⟨#[72, 69, 65, 68, 73, 78, 71]⟩)), (AV.lit (Value.string ⟨#[83, 80, 69, 69, 68]⟩)), (AV.lit (Value.string ⟨#[68, 73, 82, 69, 67, 84]⟩)), (AV.lit (Value.string ⟨#[72, 79, 76, 68]⟩)), (AV.lit (Value.string ⟨#[67, 79, 78, 84, 65, 67, 84]⟩)), (AV.lit (Value.string ⟨#[76, 65, 78, 68]⟩))]))))) ∧
  (((isT (AV.bin Go.BinOp.lss (ys513.getD 0 default) (AV.len (AV.refSl (AV.mkRef [(AV.lit (Value.string ⟨#[72, 69, 73, 71, 72, 84]⟩)), (AV.lit (Value.string ⟨#[72, 69, 65, 68, 73, 78, 71]⟩)), (AV.lit (Value.string ⟨#[83, 80, 69, 69, 68]⟩)), (AV.lit (Value.string ⟨#[68, 73, 82, 69, 67, 84]⟩)), (AV.lit (Value.string ⟨#[72, 79, 76, 68]⟩)), (AV.lit (Value.string ⟨#[67, 79, 78, 84, 65, 67, 84]⟩)), (AV.lit (Value.string ⟨#[76, 65, 78, 68]⟩))]))))) →
    ((AV.isSl (AV.refSl (AV.mkRef [(AV.lit (Value.string ⟨#[72, 69, 73, 71, 72, 84]⟩)), (AV.lit (Value.string ⟨#[72, 69, 65, 68, 73, 78, 71]⟩)), (AV.lit (Value.string ⟨#[83, 80, 69, 69, 68]⟩)), (AV.lit (Value.string ⟨#[68, 73, 82, 69, 67, 84]⟩)), (AV.lit (Value.string ⟨#[72, 79, 76, 68]⟩)), (AV.lit (Value.string ⟨#[67, 79, 78, 84, 65, 67, 84]⟩)), (AV.lit (Value.string ⟨#[76, 65, 78, 68]⟩))])) 1) ∧
    ((AV.inb (AV.refSl (AV.mkRef [(AV.lit (Value.string ⟨#[72, 69, 73, 71, 72, 84]⟩)), (AV.lit (Value.string ⟨#[72, 69, 65, 68, 73, 78, 71]⟩)), (AV.lit (Value.string ⟨#[83, 80, 69, 69, 68]⟩)), (AV.lit (Value.string ⟨#[68, 73, 82, 69, 67, 84]⟩)), (AV.lit (Value.string ⟨#[72, 79, 76, 68]⟩)), (AV.lit (Value.string ⟨#[67, 79, 78, 84, 65, 67, 84]⟩)), (AV.lit (Value.string ⟨#[76, 65, 78, 68]⟩))])) (ys513.getD 0 default)) ∧
    ((AV.binOk Go.BinOp.eql x0 (AV.at (AV.refSl (AV.mkRef [(AV.lit (Value.string ⟨#[72, 69, 73, 71, 72, 84]⟩)), (AV.lit (Value.string ⟨#[72, 69, 65, 68, 73, 78, 71]⟩)), (AV.lit (Value.string ⟨#[83, 80, 69, 69, 68]⟩)), (AV.lit (Value.string ⟨#[68, 73, 82, 69, 67, 84]⟩)), (AV.lit (Value.string ⟨#[72, 79, 76, 68]⟩)), (AV.lit (Value.string ⟨#[67, 79, 78, 84, 65, 67, 84]⟩)), (AV.lit (Value.string ⟨#[76, 65, 78, 68]⟩))])) (ys513.getD 0 default) 0)) ∧
    ((AV.isBool (AV.bin Go.BinOp.eql x0 (AV.at (AV.refSl (AV.mkRef [(AV.lit (Value.string ⟨#[72, 69, 73, 71, 72, 84]⟩)), (AV.lit (Value.string ⟨#[72, 69, 65, 68, 73, 78, 71]⟩)), (AV.lit (Value.string ⟨#[83, 80, 69, 69, 68]⟩)), (AV.lit (Value.string ⟨#[68, 73, 82, 69, 67, 84]⟩)), (AV.lit (Value.string ⟨#[72, 79, 76, 68]⟩)), (AV.lit (Value.string ⟨#[67, 79, 78, 84, 65, 67, 84]⟩)), (AV.lit (Value.string ⟨#[76, 65, 78, 68]⟩))])) (ys513.getD 0 default) 0))) ∧
    (((isT (AV.bin Go.BinOp.eql x0 (AV.at (AV.refSl (AV.mkRef [(AV.lit (Value.string ⟨#[72, 69, 73, 71, 72, 84]⟩)), (AV.lit (Value.string ⟨#[72, 69, 65, 68, 73, 78, 71]⟩)), (AV.lit (Value.string ⟨#[83, 80, 69, 69, 68]⟩)), (AV.lit (Value.string ⟨#[68, 73, 82, 69, 67, 84]⟩)), (AV.lit (Value.string ⟨#[72, 79, 76, 68]⟩)), (AV.lit (Value.string ⟨#[67, 79, 78, 84, 65, 67, 84]⟩)), (AV.lit (Value.string ⟨#[76, 65, 78, 68]⟩))])) (ys513.getD 0 default) 0))) →
      ((AV.flat (ys513.getD 0 default)) ∧
      (fSame (ys513.getD 0 default) r))) ∧
    ((isF (AV.bin Go.BinOp.eql x0 (AV.at (AV.refSl (AV.mkRef [(AV.lit (Value.string ⟨#[72, 69, 73, 71, 72, 84]⟩)), (AV.lit (Value.string ⟨#[72, 69, 65, 68, 73, 78, 71]⟩)), (AV.lit (Value.string ⟨#[83, 80, 69, 69, 68]⟩)), (AV.lit (Value.string ⟨#[68, 73, 82, 69, 67, 84]⟩)), (AV.lit (Value.string ⟨#[72, 79, 76, 68]⟩)), (AV.lit (Value.string ⟨#[67, 79, 78, 84, 65, 67, 84]⟩)), (AV.lit (Value.string ⟨#[76, 65, 78, 68]⟩))])) (ys513.getD 0 default) 0))) →
      ((AV.binOk Go.BinOp.add (ys513.getD 0 default) (AV.int 1)) ∧
      (again513 [(AV.bin Go.BinOp.add (ys513.getD 0 default) (AV.int 1))]))))))))) ∧
  ((isF (AV.bin Go.BinOp.lss (ys513.getD 0 default) (AV.len (AV.refSl (AV.mkRef [(AV.lit (Value.string ⟨#[72, 69, 73, 71, 72, 84]⟩)), (AV.lit (Value.string ⟨#[72, 69, 65, 68, 73, 78, 71]⟩)), (AV.lit (Value.string ⟨#[83, 80, 69, 69, 68]⟩)), (AV.lit (Value.string ⟨#[68, 73, 82, 69, 67, 84]⟩)), (AV.lit (Value.string ⟨#[72, 79, 76, 68]⟩)), (AV.lit (Value.string ⟨#[67, 79, 78, 84, 65, 67, 84]⟩)), (AV.lit (Value.string ⟨#[76, 65, 78, 68]⟩))]))))) →
    ((AV.flat (AV.int (-1))) ∧
    (fSame (AV.int (-1)) r)))))))))))) := by kernel_rfl
theorem name_form (x0 r : AV) : fnF Tryd.prog Γ ann 3 20 Tryd.f20 (Tryd.f20.body.getD .skip) (.nil) [x0] (.sc) r = ((∃ r129 : AV, ((Fn Tryd.prog 33 [x0] Sh.sc r129) ∧
((AV.isBool r129) ∧
(((isT r129) →
  (∃ r321 : AV, ((Fn Tryd.prog 34 [x0] Sh.sc r321) ∧
  ((AV.binOk Go.BinOp.lss r321 (AV.int 0)) ∧
  ((AV.isBool r129) ∧
  ((isT r129) ∧
  ((AV.flat (AV.bin Go.BinOp.lss r321 (AV.int 0))) ∧
  (fSame (AV.bin Go.BinOp.lss r321 (AV.int 0)) r)))))))) ∧
((isF r129) →
  ((AV.isBool r129) ∧
  ((isF r129) ∧
  ((AV.flat (AV.bool false)) ∧
  (fSame (AV.bool false) r)))))))))) := by kernel_rfl
theorem check_form (x0 r : AV) : fnF Tryd.prog Γ ann 3 9 Tryd.f9 (Tryd.f9.body.getD .skip) (.nil) [x0] (.sc) r = (((AV.isAgg x0 4) ∧
(∃ r257 : AV, ((Fn Tryd.prog 20 [(AV.cel x0 0)] Sh.sc r257) ∧
((AV.unOk Go.UnOp.not r257) ∧
((AV.isBool (AV.un Go.UnOp.not r257)) ∧
(((isT (AV.un Go.UnOp.not r257)) →
  ((AV.flat (AV.int 3)) ∧
  (fSame (AV.int 3) r))) ∧
((isF (AV.un Go.UnOp.not r257)) →
  ((AV.binOk Go.BinOp.lss (AV.cel x0 1) (AV.int 0)) ∧
  ((AV.isBool (AV.bin Go.BinOp.lss (AV.cel x0 1) (AV.int 0))) ∧
  (((isT (AV.bin Go.BinOp.lss (AV.cel x0 1) (AV.int 0))) →
    ((AV.isBool (AV.bin Go.BinOp.lss (AV.cel x0 1) (AV.int 0))) ∧
    ((isT (AV.bin Go.BinOp.lss (AV.cel x0 1) (AV.int 0))) ∧
    ((AV.flat (AV.int 1)) ∧
    (fSame (AV.int 1) r))))) ∧
  ((isF (AV.bin Go.BinOp.lss (AV.cel x0 1) (AV.int 0))) →
    ((AV.binOk Go.BinOp.gtr (AV.cel x0 1) (AV.int 6)) ∧
    ((AV.isBool (AV.bin Go.BinOp.lss (AV.cel x0 1) (AV.int 0))) ∧
    ((isF (AV.bin Go.BinOp.lss (AV.cel x0 1) (AV.int 0))) ∧
    ((AV.isBool (AV.bin Go.BinOp.gtr (AV.cel x0 1) (AV.int 6))) ∧
    (((isT (AV.bin Go.BinOp.gtr (AV.cel x0 1) (AV.int 6))) →
      ((AV.flat (AV.int 1)) ∧
      (fSame (AV.int 1) r))) ∧
    ((isF (AV.bin Go.BinOp.gtr (AV.cel x0 1) (AV.int 6))) →
      ((AV.binOk Go.BinOp.gtr (AV.cel x0 1) (AV.int 2)) ∧
      ((AV.isBool (AV.bin Go.BinOp.gtr (AV.cel x0 1) (AV.int 2))) ∧
      (((isT (AV.bin Go.BinOp.gtr (AV.cel x0 1) (AV.int 2))) →
        ((AV.binOk Go.BinOp.neq (AV.cel x0 2) (AV.int 0)) ∧
        ((AV.isBool (AV.bin Go.BinOp.neq (AV.cel x0 2) (AV.int 0))) ∧
        (((isT (AV.bin Go.BinOp.neq (AV.cel x0 2) (AV.int 0))) →
          ((AV.isBool (AV.bin Go.BinOp.neq (AV.cel x0 2) (AV.int 0))) ∧
          ((isT (AV.bin Go.BinOp.neq (AV.cel x0 2) (AV.int 0))) ∧
          ((AV.flat (AV.int 3)) ∧
          (fSame (AV.int 3) r))))) ∧
        ((isF (AV.bin Go.BinOp.neq (AV.cel x0 2) (AV.int 0))) →
          (∃ r1665 : AV, ((Fn Tryd.prog 20 [(AV.cel x0 3)] Sh.sc r1665) ∧
          ((AV.unOk Go.UnOp.not r1665) ∧
          ((AV.isBool (AV.bin Go.BinOp.neq (AV.cel x0 2) (AV.int 0))) ∧
          ((isF (AV.bin Go.BinOp.neq (AV.cel x0 2) (AV.int 0))) ∧
          ((AV.isBool (AV.un Go.UnOp.not r1665)) ∧
          (((isT (AV.un Go.UnOp.not r1665)) →
            ((AV.flat (AV.int 3)) ∧
            (fSame (AV.int 3) r))) ∧
          ((isF (AV.un Go.UnOp.not r1665)) →
            ((AV.flat (AV.int 0)) ∧
            (fSame (AV.int 0) r))))))))))))))) ∧
      ((isF (AV.bin Go.BinOp.gtr (AV.cel x0 1) (AV.int 2))) →
        ((AV.binOk Go.BinOp.neq (AV.cel x0 3) (AV.lit (Value.string ⟨#[]⟩))) ∧
        ((AV.isBool (AV.bin Go.BinOp.neq (AV.cel x0 3) (AV.lit (Value.string ⟨#[]⟩)))) ∧
        (((isT (AV.bin Go.BinOp.neq (AV.cel x0 3) (AV.lit (Value.string ⟨#[]⟩)))) →
          ((AV.flat (AV.int 3)) ∧
          (fSame (AV.int 3) r))) ∧
        ((isF (AV.bin Go.BinOp.neq (AV.cel x0 3) (AV.lit (Value.string ⟨#[]⟩)))) →
          ((AV.binOk Go.BinOp.lss (AV.cel x0 2) (AV.int 0)) ∧
          ((AV.isBool (AV.bin Go.BinOp.lss (AV.cel x0 2) (AV.int 0))) ∧
          (((isT (AV.bin Go.BinOp.lss (AV.cel x0 2) (AV.int 0))) →
            ((AV.isBool (AV.bin Go.BinOp.lss (AV.cel x0 2) (AV.int 0))) ∧
            ((isT (AV.bin Go.BinOp.lss (AV.cel x0 2) (AV.int 0))) ∧
            ((AV.flat (AV.int 4)) ∧
            (fSame (AV.int 4) r))))) ∧
          ((isF (AV.bin Go.BinOp.lss (AV.cel x0 2) (AV.int 0))) →
            ((AV.inl 3 (AV.cel x0 1)) ∧
            ((AV.isRef (AV.mkRef [(AV.int 60000), (AV.int 4095), (AV.int 400)]) 3) ∧
            ((AV.refOk (AV.mkRef [(AV.int 60000), (AV.int 4095), (AV.int 400)]) 3 0 [((AV.cel x0 1), 1)]) ∧
            ((AV.binOk Go.BinOp.gtr (AV.cel x0 2) (AV.refNth (AV.mkRef [(AV.int 60000), (AV.int 4095), (AV.int 400)]) 0 [((AV.cel x0 1), 1)])) ∧
            ((AV.isBool (AV.bin Go.BinOp.lss (AV.cel x0 2) (AV.int 0))) ∧
            ((isF (AV.bin Go.BinOp.lss (AV.cel x0 2) (AV.int 0))) ∧
            ((AV.isBool (AV.bin Go.BinOp.gtr (AV.cel x0 2) (AV.refNth (AV.mkRef [(AV.int 60000), (AV.int 4095), (AV.int 400)]) 0 [((AV.cel x0 1), 1)]))) ∧
            (((isT (AV.bin Go.BinOp.gtr (AV.cel x0 2) (AV.refNth (AV.mkRef [(AV.int 60000), (AV.int 4095), (AV.int 400)]) 0 [((AV.cel x0 1), 1)]))) →
              ((AV.flat (AV.int 4)) ∧
              (fSame (AV.int 4) r))) ∧
            ((isF (AV.bin Go.BinOp.gtr (AV.cel x0 2) (AV.refNth (AV.mkRef [(AV.int 60000), (AV.int 4095), (AV.int 400)]) 0 [((AV.cel x0 1), 1)]))) →
              ((AV.flat (AV.int 0)) ∧
              (fSame (AV.int 0) r))))))))))))))))))))))))))))))))))))))))) := by kernel_rfl
theorem word_form (x0 r : AV) : fnF Tryd.prog Γ ann 3 22 Tryd.f22 (Tryd.f22.body.getD .skip) (.nil) [x0] (.sc) r = (((AV.inb (AV.mk 1 [[(AV.lit (Value.string ⟨#[72, 69, 73, 71, 72, 84]⟩))], [(AV.lit (Value.string ⟨#[72, 69, 65, 68, 73, 78, 71]⟩))], [(AV.lit (Value.string ⟨#[83, 80, 69, 69, 68]⟩))], [(AV.lit (Value.string ⟨#[68, 73, 82, 69, 67, 84]⟩))], [(AV.lit (Value.string ⟨#[72, 79, 76, 68]⟩))], [(AV.lit (Value.string ⟨#[67, 79, 78, 84, 65, 67, 84]⟩))], [(AV.lit (Value.string ⟨#[76, 65, 78, 68]⟩))]]) x0) ∧
((AV.inb (AV.mk 1 [[(AV.lit (Value.string ⟨#[72, 69, 73, 71, 72, 84]⟩))], [(AV.lit (Value.string ⟨#[72, 69, 65, 68, 73, 78, 71]⟩))], [(AV.lit (Value.string ⟨#[83, 80, 69, 69, 68]⟩))], [(AV.lit (Value.string ⟨#[68, 73, 82, 69, 67, 84]⟩))], [(AV.lit (Value.string ⟨#[72, 79, 76, 68]⟩))], [(AV.lit (Value.string ⟨#[67, 79, 78, 84, 65, 67, 84]⟩))], [(AV.lit (Value.string ⟨#[76, 65, 78, 68]⟩))]]) x0) ∧
((AV.flat (AV.at (AV.mk 1 [[(AV.lit (Value.string ⟨#[72, 69, 73, 71, 72, 84]⟩))], [(AV.lit (Value.string ⟨#[72, 69, 65, 68, 73, 78, 71]⟩))], [(AV.lit (Value.string ⟨#[83, 80, 69, 69, 68]⟩))], [(AV.lit (Value.string ⟨#[68, 73, 82, 69, 67, 84]⟩))], [(AV.lit (Value.string ⟨#[72, 79, 76, 68]⟩))], [(AV.lit (Value.string ⟨#[67, 79, 78, 84, 65, 67, 84]⟩))], [(AV.lit (Value.string ⟨#[76, 65, 78, 68]⟩))]]) x0 0)) ∧
(fSame (AV.at (AV.mk 1 [[(AV.lit (Value.string ⟨#[72, 69, 73, 71, 72, 84]⟩))], [(AV.lit (Value.string ⟨#[72, 69, 65, 68, 73, 78, 71]⟩))], [(AV.lit (Value.string ⟨#[83, 80, 69, 69, 68]⟩))], [(AV.lit (Value.string ⟨#[68, 73, 82, 69, 67, 84]⟩))], [(AV.lit (Value.string ⟨#[72, 79, 76, 68]⟩))], [(AV.lit (Value.string ⟨#[67, 79, 78, 84, 65, 67, 84]⟩))], [(AV.lit (Value.string ⟨#[76, 65, 78, 68]⟩))]]) x0 0) r))))) := by kernel_rfl
theorem free_form (x0 r : AV) : fnF Tryd.prog Γ ann 3 19 Tryd.f19 (Tryd.f19.body.getD .skip) (.nil) [x0] (.sc) r = ((fLoop 129 [(AV.int 0)] fun ys129 again129 =>
  ((AV.binOk Go.BinOp.lss (ys129.getD 0 default) (AV.int 7)) ∧
  ((AV.isBool (AV.bin Go.BinOp.lss (ys129.getD 0 default) (AV.int 7))) ∧
  (((isT (AV.bin Go.BinOp.lss (ys129.getD 0 default) (AV.int 7))) →
    (∃ r385 : AV, ((Fn Tryd.prog 22 [(ys129.getD 0 default)] Sh.sc r385) ∧
    ((AV.binOk Go.BinOp.eql r385 x0) ∧
    ((AV.isBool (AV.bin Go.BinOp.eql r385 x0)) ∧
    (((isT (AV.bin Go.BinOp.eql r385 x0)) →
      ((AV.flat (AV.bool false)) ∧
      (fSame (AV.bool false) r))) ∧
    ((isF (AV.bin Go.BinOp.eql r385 x0)) →
      ((AV.binOk Go.BinOp.add (ys129.getD 0 default) (AV.int 1)) ∧
      (again129 [(AV.bin Go.BinOp.add (ys129.getD 0 default) (AV.int 1))]))))))))) ∧
  ((isF (AV.bin Go.BinOp.lss (ys129.getD 0 default) (AV.int 7))) →
    (∃ r257 : AV, ((Fn Tryd.prog 32 [x0] Sh.sc r257) ∧
    ((AV.flat r257) ∧
    (fSame r257 r)))))))))) := by kernel_rfl
theorem cerr_form (x0 r : AV) : fnF Tryd.prog Γ ann 3 8 Tryd.f8 (Tryd.f8.body.getD .skip) ((.both .nil (.both .nil (.both .nil (.both (.both .nil (.both .nil (.f (.f .nil)))) (.t (.both .nil (.t .nil)))))))) [x0] (.sc) r = (((AV.isAgg x0 4) ∧
(∃ r257 : AV, ((Fn Tryd.prog 19 [(AV.cel x0 0)] Sh.sc r257) ∧
((AV.unOk Go.UnOp.not r257) ∧
((AV.isBool (AV.un Go.UnOp.not r257)) ∧
(((isT (AV.un Go.UnOp.not r257)) →
  ((AV.flat (AV.int 3)) ∧
  (fSame (AV.int 3) r))) ∧
((isF (AV.un Go.UnOp.not r257)) →
  ((AV.binOk Go.BinOp.lss (AV.cel x0 1) (AV.int 0)) ∧
  ((AV.isBool (AV.bin Go.BinOp.lss (AV.cel x0 1) (AV.int 0))) ∧
  (((isT (AV.bin Go.BinOp.lss (AV.cel x0 1) (AV.int 0))) →
    ((AV.isBool (AV.bin Go.BinOp.lss (AV.cel x0 1) (AV.int 0))) ∧
    ((isT (AV.bin Go.BinOp.lss (AV.cel x0 1) (AV.int 0))) ∧
    ((AV.flat (AV.int 1)) ∧
    (fSame (AV.int 1) r))))) ∧
  ((isF (AV.bin Go.BinOp.lss (AV.cel x0 1) (AV.int 0))) →
    ((AV.binOk Go.BinOp.gtr (AV.cel x0 1) (AV.int 6)) ∧
    ((AV.isBool (AV.bin Go.BinOp.lss (AV.cel x0 1) (AV.int 0))) ∧
    ((isF (AV.bin Go.BinOp.lss (AV.cel x0 1) (AV.int 0))) ∧
    ((AV.isBool (AV.bin Go.BinOp.gtr (AV.cel x0 1) (AV.int 6))) ∧
    (((isT (AV.bin Go.BinOp.gtr (AV.cel x0 1) (AV.int 6))) →
      ((AV.flat (AV.int 1)) ∧
      (fSame (AV.int 1) r))) ∧
    ((isF (AV.bin Go.BinOp.gtr (AV.cel x0 1) (AV.int 6))) →
      ((AV.inb (AV.mk 1 [[(AV.int 60000)], [(AV.int 4095)], [(AV.int 400)], [(AV.int (-1))], [(AV.int (-1))], [(AV.int (-1))], [(AV.int (-1))]]) (AV.cel x0 1)) ∧
      ((AV.inb (AV.mk 1 [[(AV.int 60000)], [(AV.int 4095)], [(AV.int 400)], [(AV.int (-1))], [(AV.int (-1))], [(AV.int (-1))], [(AV.int (-1))]]) (AV.cel x0 1)) ∧
      ((AV.binOk Go.BinOp.lss (AV.at (AV.mk 1 [[(AV.int 60000)], [(AV.int 4095)], [(AV.int 400)], [(AV.int (-1))], [(AV.int (-1))], [(AV.int (-1))], [(AV.int (-1))]]) (AV.cel x0 1) 0) (AV.int 0)) ∧
      ((AV.isBool (AV.bin Go.BinOp.lss (AV.at (AV.mk 1 [[(AV.int 60000)], [(AV.int 4095)], [(AV.int 400)], [(AV.int (-1))], [(AV.int (-1))], [(AV.int (-1))], [(AV.int (-1))]]) (AV.cel x0 1) 0) (AV.int 0))) ∧
      (((isT (AV.bin Go.BinOp.lss (AV.at (AV.mk 1 [[(AV.int 60000)], [(AV.int 4095)], [(AV.int 400)], [(AV.int (-1))], [(AV.int (-1))], [(AV.int (-1))], [(AV.int (-1))]]) (AV.cel x0 1) 0) (AV.int 0))) →
        ((AV.binOk Go.BinOp.neq (AV.cel x0 2) (AV.int 0)) ∧
        ((AV.isBool (AV.bin Go.BinOp.neq (AV.cel x0 2) (AV.int 0))) ∧
        (((isT (AV.bin Go.BinOp.neq (AV.cel x0 2) (AV.int 0))) →
          ((AV.isBool (AV.bin Go.BinOp.neq (AV.cel x0 2) (AV.int 0))) ∧
          ((isT (AV.bin Go.BinOp.neq (AV.cel x0 2) (AV.int 0))) ∧
          ((AV.isBool (AV.bin Go.BinOp.lss (AV.at (AV.mk 1 [[(AV.int 60000)], [(AV.int 4095)], [(AV.int 400)], [(AV.int (-1))], [(AV.int (-1))], [(AV.int (-1))], [(AV.int (-1))]]) (AV.cel x0 1) 0) (AV.int 0))) ∧
          ((isT (AV.bin Go.BinOp.lss (AV.at (AV.mk 1 [[(AV.int 60000)], [(AV.int 4095)], [(AV.int 400)], [(AV.int (-1))], [(AV.int (-1))], [(AV.int (-1))], [(AV.int (-1))]]) (AV.cel x0 1) 0) (AV.int 0))) ∧
          ((AV.flat (AV.int 3)) ∧
          (fSame (AV.int 3) r))))))) ∧
        ((isF (AV.bin Go.BinOp.neq (AV.cel x0 2) (AV.int 0))) →
          (∃ r1857 : AV, ((Fn Tryd.prog 19 [(AV.cel x0 3)] Sh.sc r1857) ∧
          ((AV.unOk Go.UnOp.not r1857) ∧
          ((AV.isBool (AV.bin Go.BinOp.neq (AV.cel x0 2) (AV.int 0))) ∧
          ((isF (AV.bin Go.BinOp.neq (AV.cel x0 2) (AV.int 0))) ∧
          ((AV.isBool (AV.bin Go.BinOp.lss (AV.at (AV.mk 1 [[(AV.int 60000)], [(AV.int 4095)], [(AV.int 400)], [(AV.int (-1))], [(AV.int (-1))], [(AV.int (-1))], [(AV.int (-1))]]) (AV.cel x0 1) 0) (AV.int 0))) ∧
          ((isT (AV.bin Go.BinOp.lss (AV.at (AV.mk 1 [[(AV.int 60000)], [(AV.int 4095)], [(AV.int 400)], [(AV.int (-1))], [(AV.int (-1))], [(AV.int (-1))], [(AV.int (-1))]]) (AV.cel x0 1) 0) (AV.int 0))) ∧
          ((AV.isBool (AV.un Go.UnOp.not r1857)) ∧
          (((isT (AV.un Go.UnOp.not r1857)) →
            ((AV.isBool (AV.un Go.UnOp.not r1857)) ∧
            ((isT (AV.un Go.UnOp.not r1857)) ∧
            ((AV.flat (AV.int 3)) ∧
            (fSame (AV.int 3) r))))) ∧
          ((isF (AV.un Go.UnOp.not r1857)) →
            ((AV.binOk Go.BinOp.geq (AV.at (AV.mk 1 [[(AV.int 60000)], [(AV.int 4095)], [(AV.int 400)], [(AV.int (-1))], [(AV.int (-1))], [(AV.int (-1))], [(AV.int (-1))]]) (AV.cel x0 1) 0) (AV.int 0)) ∧
            ((AV.isBool (AV.bin Go.BinOp.geq (AV.at (AV.mk 1 [[(AV.int 60000)], [(AV.int 4095)], [(AV.int 400)], [(AV.int (-1))], [(AV.int (-1))], [(AV.int (-1))], [(AV.int (-1))]]) (AV.cel x0 1) 0) (AV.int 0))) ∧
            ((isF (AV.bin Go.BinOp.geq (AV.at (AV.mk 1 [[(AV.int 60000)], [(AV.int 4095)], [(AV.int 400)], [(AV.int (-1))], [(AV.int (-1))], [(AV.int (-1))], [(AV.int (-1))]]) (AV.cel x0 1) 0) (AV.int 0))) ∧
            ((AV.isBool (AV.bin Go.BinOp.geq (AV.at (AV.mk 1 [[(AV.int 60000)], [(AV.int 4095)], [(AV.int 400)], [(AV.int (-1))], [(AV.int (-1))], [(AV.int (-1))], [(AV.int (-1))]]) (AV.cel x0 1) 0) (AV.int 0))) ∧
            ((isF (AV.bin Go.BinOp.geq (AV.at (AV.mk 1 [[(AV.int 60000)], [(AV.int 4095)], [(AV.int 400)], [(AV.int (-1))], [(AV.int (-1))], [(AV.int (-1))], [(AV.int (-1))]]) (AV.cel x0 1) 0) (AV.int 0))) ∧
            ((AV.isBool (AV.un Go.UnOp.not r1857)) ∧
            ((isF (AV.un Go.UnOp.not r1857)) ∧
            ((AV.binOk Go.BinOp.geq (AV.at (AV.mk 1 [[(AV.int 60000)], [(AV.int 4095)], [(AV.int 400)], [(AV.int (-1))], [(AV.int (-1))], [(AV.int (-1))], [(AV.int (-1))]]) (AV.cel x0 1) 0) (AV.int 0)) ∧
            ((AV.isBool (AV.bin Go.BinOp.geq (AV.at (AV.mk 1 [[(AV.int 60000)], [(AV.int 4095)], [(AV.int 400)], [(AV.int (-1))], [(AV.int (-1))], [(AV.int (-1))], [(AV.int (-1))]]) (AV.cel x0 1) 0) (AV.int 0))) ∧
            ((isF (AV.bin Go.BinOp.geq (AV.at (AV.mk 1 [[(AV.int 60000)], [(AV.int 4095)], [(AV.int 400)], [(AV.int (-1))], [(AV.int (-1))], [(AV.int (-1))], [(AV.int (-1))]]) (AV.cel x0 1) 0) (AV.int 0))) ∧
            ((AV.isBool (AV.bin Go.BinOp.geq (AV.at (AV.mk 1 [[(AV.int 60000)], [(AV.int 4095)], [(AV.int 400)], [(AV.int (-1))], [(AV.int (-1))], [(AV.int (-1))], [(AV.int (-1))]]) (AV.cel x0 1) 0) (AV.int 0))) ∧
            ((isF (AV.bin Go.BinOp.geq (AV.at (AV.mk 1 [[(AV.int 60000)], [(AV.int 4095)], [(AV.int 400)], [(AV.int (-1))], [(AV.int (-1))], [(AV.int (-1))], [(AV.int (-1))]]) (AV.cel x0 1) 0) (AV.int 0))) ∧
            ((AV.flat (AV.int 0)) ∧
            (fSame (AV.int 0) r))))))))))))))))))))))))))))) ∧
      ((isF (AV.bin Go.BinOp.lss (AV.at (AV.mk 1 [[(AV.int 60000)], [(AV.int 4095)], [(AV.int 400)], [(AV.int (-1))], [(AV.int (-1))], [(AV.int (-1))], [(AV.int (-1))]]) (AV.cel x0 1) 0) (AV.int 0))) →
        ((AV.isBool (AV.bin Go.BinOp.lss (AV.at (AV.mk 1 [[(AV.int 60000)], [(AV.int 4095)], [(AV.int 400)], [(AV.int (-1))], [(AV.int (-1))], [(AV.int (-1))], [(AV.int (-1))]]) (AV.cel x0 1) 0) (AV.int 0))) ∧
        ((isF (AV.bin Go.BinOp.lss (AV.at (AV.mk 1 [[(AV.int 60000)], [(AV.int 4095)], [(AV.int 400)], [(AV.int (-1))], [(AV.int (-1))], [(AV.int (-1))], [(AV.int (-1))]]) (AV.cel x0 1) 0) (AV.int 0))) ∧
        ((AV.binOk Go.BinOp.geq (AV.at (AV.mk 1 [[(AV.int 60000)], [(AV.int 4095)], [(AV.int 400)], [(AV.int (-1))], [(AV.int (-1))], [(AV.int (-1))], [(AV.int (-1))]]) (AV.cel x0 1) 0) (AV.int 0)) ∧
        ((AV.isBool (AV.bin Go.BinOp.geq (AV.at (AV.mk 1 [[(AV.int 60000)], [(AV.int 4095)], [(AV.int 400)], [(AV.int (-1))], [(AV.int (-1))], [(AV.int (-1))], [(AV.int (-1))]]) (AV.cel x0 1) 0) (AV.int 0))) ∧
        ((isT (AV.bin Go.BinOp.geq (AV.at (AV.mk 1 [[(AV.int 60000)], [(AV.int 4095)], [(AV.int 400)], [(AV.int (-1))], [(AV.int (-1))], [(AV.int (-1))], [(AV.int (-1))]]) (AV.cel x0 1) 0) (AV.int 0))) ∧
        ((AV.binOk Go.BinOp.neq (AV.cel x0 3) (AV.lit (Value.string ⟨#[]⟩))) ∧
        ((AV.isBool (AV.bin Go.BinOp.geq (AV.at (AV.mk 1 [[(AV.int 60000)], [(AV.int 4095)], [(AV.int 400)], [(AV.int (-1))], [(AV.int (-1))], [(AV.int (-1))], [(AV.int (-1))]]) (AV.cel x0 1) 0) (AV.int 0))) ∧
        ((isT (AV.bin Go.BinOp.geq (AV.at (AV.mk 1 [[(AV.int 60000)], [(AV.int 4095)], [(AV.int 400)], [(AV.int (-1))], [(AV.int (-1))], [(AV.int (-1))], [(AV.int (-1))]]) (AV.cel x0 1) 0) (AV.int 0))) ∧
        ((AV.isBool (AV.bin Go.BinOp.neq (AV.cel x0 3) (AV.lit (Value.string ⟨#[]⟩)))) ∧
        (((isT (AV.bin Go.BinOp.neq (AV.cel x0 3) (AV.lit (Value.string ⟨#[]⟩)))) →
          ((AV.flat (AV.int 3)) ∧
          (fSame (AV.int 3) r))) ∧
        ((isF (AV.bin Go.BinOp.neq (AV.cel x0 3) (AV.lit (Value.string ⟨#[]⟩)))) →
          ((AV.binOk Go.BinOp.geq (AV.at (AV.mk 1 [[(AV.int 60000)], [(AV.int 4095)], [(AV.int 400)], [(AV.int (-1))], [(AV.int (-1))], [(AV.int (-1))], [(AV.int (-1))]]) (AV.cel x0 1) 0) (AV.int 0)) ∧
          ((AV.isBool (AV.bin Go.BinOp.geq (AV.at (AV.mk 1 [[(AV.int 60000)], [(AV.int 4095)], [(AV.int 400)], [(AV.int (-1))], [(AV.int (-1))], [(AV.int (-1))], [(AV.int (-1))]]) (AV.cel x0 1) 0) (AV.int 0))) ∧
          ((isT (AV.bin Go.BinOp.geq (AV.at (AV.mk 1 [[(AV.int 60000)], [(AV.int 4095)], [(AV.int 400)], [(AV.int (-1))], [(AV.int (-1))], [(AV.int (-1))], [(AV.int (-1))]]) (AV.cel x0 1) 0) (AV.int 0))) ∧
          ((AV.binOk Go.BinOp.lss (AV.cel x0 2) (AV.int 0)) ∧
          ((AV.isBool (AV.bin Go.BinOp.lss (AV.cel x0 2) (AV.int 0))) ∧
          (((isT (AV.bin Go.BinOp.lss (AV.cel x0 2) (AV.int 0))) →
            ((AV.isBool (AV.bin Go.BinOp.lss (AV.cel x0 2) (AV.int 0))) ∧
            ((isT (AV.bin Go.BinOp.lss (AV.cel x0 2) (AV.int 0))) ∧
            ((AV.isBool (AV.bin Go.BinOp.geq (AV.at (AV.mk 1 [[(AV.int 60000)], [(AV.int 4095)], [(AV.int 400)], [(AV.int (-1))], [(AV.int (-1))], [(AV.int (-1))], [(AV.int (-1))]]) (AV.cel x0 1) 0) (AV.int 0))) ∧
            ((isT (AV.bin Go.BinOp.geq (AV.at (AV.mk 1 [[(AV.int 60000)], [(AV.int 4095)], [(AV.int 400)], [(AV.int (-1))], [(AV.int (-1))], [(AV.int (-1))], [(AV.int (-1))]]) (AV.cel x0 1) 0) (AV.int 0))) ∧
            ((AV.flat (AV.int 4)) ∧
            (fSame (AV.int 4) r))))))) ∧
          ((isF (AV.bin Go.BinOp.lss (AV.cel x0 2) (AV.int 0))) →
            ((AV.binOk Go.BinOp.gtr (AV.cel x0 2) (AV.at (AV.mk 1 [[(AV.int 60000)], [(AV.int 4095)], [(AV.int 400)], [(AV.int (-1))], [(AV.int (-1))], [(AV.int (-1))], [(AV.int (-1))]]) (AV.cel x0 1) 0)) ∧
            ((AV.isBool (AV.bin Go.BinOp.lss (AV.cel x0 2) (AV.int 0))) ∧
            ((isF (AV.bin Go.BinOp.lss (AV.cel x0 2) (AV.int 0))) ∧
            ((AV.isBool (AV.bin Go.BinOp.geq (AV.at (AV.mk 1 [[(AV.int 60000)], [(AV.int 4095)], [(AV.int 400)], [(AV.int (-1))], [(AV.int (-1))], [(AV.int (-1))], [(AV.int (-1))]]) (AV.cel x0 1) 0) (AV.int 0))) ∧
            ((isT (AV.bin Go.BinOp.geq (AV.at (AV.mk 1 [[(AV.int 60000)], [(AV.int 4095)], [(AV.int 400)], [(AV.int (-1))], [(AV.int (-1))], [(AV.int (-1))], [(AV.int (-1))]]) (AV.cel x0 1) 0) (AV.int 0))) ∧
            ((AV.isBool (AV.bin Go.BinOp.gtr (AV.cel x0 2) (AV.at (AV.mk 1 [[(AV.int 60000)], [(AV.int 4095)], [(AV.int 400)], [(AV.int (-1))], [(AV.int (-1))], [(AV.int (-1))], [(AV.int (-1))]]) (AV.cel x0 1) 0))) ∧
            (((isT (AV.bin Go.BinOp.gtr (AV.cel x0 2) (AV.at (AV.mk 1 [[(AV.int 60000)], [(AV.int 4095)], [(AV.int 400)], [(AV.int (-1))], [(AV.int (-1))], [(AV.int (-1))], [(AV.int (-1))]]) (AV.cel x0 1) 0))) →
              ((AV.flat (AV.int 4)) ∧
              (fSame (AV.int 4) r))) ∧
            ((isF (AV.bin Go.BinOp.gtr (AV.cel x0 2) (AV.at (AV.mk 1 [[(AV.int 60000)], [(AV.int 4095)], [(AV.int 400)], [(AV.int (-1))], [(AV.int (-1))], [(AV.int (-1))], [(AV.int (-1))]]) (AV.cel x0 1) 0))) →
              ((AV.flat (AV.int 0)) ∧
              (fSame (AV.int 0) r)))))))))))))))))))))))))))))))))))))))))))))))))))) := by kernel_rfl
theorem cmp_form (x0 x1 r : AV) : fnF Tryd.prog Γ ann 3 15 Tryd.f15 (Tryd.f15.body.getD .skip) (.nil) [x0, x1] (.tup [.sc, .sc]) r = (((AV.isAgg x0 4) ∧
((AV.isAgg x1 4) ∧
(fLoop 577 [(AV.int 0)] fun ys577 again577 =>
  ((AV.binOk Go.BinOp.lss (ys577.getD 0 default) (AV.len (AV.mk 4 [[(AV.cel x0 0), (AV.cel x0 1), (AV.cel x0 2), (AV.cel x0 3)], [(AV.cel x1 0), (AV.cel x1 1), (AV.cel x1 2), (AV.cel x1 3)]]))) ∧
  ((AV.isBool (AV.bin Go.BinOp.lss (ys577.getD 0 default) (AV.len (AV.mk 4 [[(AV.cel x0 0), (AV.cel x0 1), (AV.cel x0 2), (AV.cel x0 3)], [(AV.cel x1 0), (AV.cel x1 1), (AV.cel x1 2), (AV.cel x1 3)]])))) ∧
  (((isT (AV.bin Go.BinOp.lss (ys577.getD 0 default) (AV.len (AV.mk 4 [[(AV.cel x0 0), (AV.cel x0 1), (AV.cel x0 2), (AV.cel x0 3)], [(AV.cel x1 0), (AV.cel x1 1), (AV.cel x1 2), (AV.cel x1 3)]])))) →
    ((AV.inb (AV.mk 4 [[(AV.cel x0 0), (AV.cel x0 1), (AV.cel x0 2), (AV.cel x0 3)], [(AV.cel x1 0), (AV.cel x1 1), (AV.cel x1 2), (AV.cel x1 3)]]) (ys577.getD 0 default)) ∧
    ((AV.inb (AV.mk 4 [[(AV.cel x0 0), (AV.cel x0 1), (AV.cel x0 2), (AV.cel x0 3)], [(AV.cel x1 0), (AV.cel x1 1), (AV.cel x1 2), (AV.cel x1 3)]]) (ys577.getD 0 default)) ∧
    ((AV.isAgg (AV.atAgg (AV.mk 4 [[(AV.cel x0 0), (AV.cel x0 1), (AV.cel x0 2), (AV.cel x0 3)], [(AV.cel x1 0), (AV.cel x1 1), (AV.cel x1 2), (AV.cel x1 3)]]) (ys577.getD 0 default) 0 4) 4) ∧
    (∃ r961 : AV, ((Fn Tryd.prog 9 [(AV.agg [(AV.cel (AV.atAgg (AV.mk 4 [[(AV.cel x0 0), (AV.cel x0 1), (AV.cel x0 2), (AV.cel x0 3)], [(AV.cel x1 0), (AV.cel x1 1), (AV.cel x1 2), (AV.cel x1 3)]]) (ys577.getD 0 default) 0 4) 0), (AV.cel (AV.atAgg (AV.mk 4 [[(AV.cel x0 0), (AV.cel x0 1), (AV.cel x0 2), (AV.cel x0 3)], [(AV.cel x1 0), (AV.cel x1 1), (AV.cel x1 2), (AV.cel x1 3)]]) (ys577.getD 0 default) 0 4) 1), (AV.cel (AV.atAgg (AV.mk 4 [[(AV.cel x0 0), (AV.cel x0 1), (AV.cel x0 2), (AV.cel x0 3)], [(AV.cel x1 0), (AV.cel x1 1), (AV.cel x1 2), (AV.cel x1 3)]]) (ys577.getD 0 default) 0 4) 2), (AV.cel (AV.atAgg (AV.mk 4 [[(AV.cel x0 0), (AV.cel x0 1), (AV.cel x0 2), (AV.cel x0 3)], [(AV.cel x1 0), (AV.cel x1 1), (AV.cel x1 2), (AV.cel x1 3)]]) (ys577.getD 0 default) 0 4) 3)])] Sh.sc r961) ∧
    ((AV.binOk Go.BinOp.neq r961 (AV.int 0)) ∧
    ((AV.isBool (AV.bin Go.BinOp.neq r961 (AV.int 0))) ∧
    (((isT (AV.bin Go.BinOp.neq r961 (AV.int 0))) →
      ((AV.flat (AV.int 0)) ∧
      ((AV.flat r961) ∧
      (fSame (AV.tup [(AV.int 0), r961]) r)))) ∧
    ((isF (AV.bin Go.BinOp.neq r961 (AV.int 0))) →
      ((AV.binOk Go.BinOp.add (ys577.getD 0 default) (AV.int 1)) ∧
      (again577 [(AV.bin Go.BinOp.add (ys577.getD 0 default) (AV.int 1))])))))))))))) ∧
  ((isF (AV.bin Go.BinOp.lss (ys577.getD 0 default) (AV.len (AV.mk 4 [[(AV.cel x0 0), (AV.cel x0 1), (AV.cel x0 2), (AV.cel x0 3)], [(AV.cel x1 0), (AV.cel x1 1), (AV.cel x1 2), (AV.cel x1 3)]])))) →
    ((AV.binOk Go.BinOp.neq (AV.cel x0 0) (AV.cel x1 0)) ∧
    ((AV.isOne (AV.bin Go.BinOp.neq (AV.cel x0 0) (AV.cel x1 0))) ∧
    ((AV.binOk Go.BinOp.neq (AV.cel x0 1) (AV.cel x1 1)) ∧
    ((AV.isOne (AV.bin Go.BinOp.neq (AV.cel x0 1) (AV.cel x1 1))) ∧
    ((AV.binOk Go.BinOp.neq (AV.cel x0 2) (AV.cel x1 2)) ∧
    ((AV.isOne (AV.bin Go.BinOp.neq (AV.cel x0 2) (AV.cel x1 2))) ∧
    ((AV.binOk Go.BinOp.neq (AV.cel x0 3) (AV.cel x1 3)) ∧
    ((AV.isOne (AV.bin Go.BinOp.neq (AV.cel x0 3) (AV.cel x1 3))) ∧
    (fLoop 2433 [(AV.int 0), (AV.int 0)] fun ys2433 again2433 =>
      ((AV.binOk Go.BinOp.lss (ys2433.getD 1 default) (AV.len (AV.mk 2 [[(AV.bin Go.BinOp.neq (AV.cel x0 0) (AV.cel x1 0)), (AV.int 1)], [(AV.bin Go.BinOp.neq (AV.cel x0 1) (AV.cel x1 1)), (AV.int 2)], [(AV.bin Go.BinOp.neq (AV.cel x0 2) (AV.cel x1 2)), (AV.int 4)], [(AV.bin Go.BinOp.neq (AV.cel x0 3) (AV.cel x1 3)), (AV.int 8)]]))) ∧
      ((AV.isBool (AV.bin Go.BinOp.lss (ys2433.getD 1 default) (AV.len (AV.mk 2 [[(AV.bin Go.BinOp.neq (AV.cel x0 0) (AV.cel x1 0)), (AV.int 1)], [(AV.bin Go.BinOp.neq (AV.cel x0 1) (AV.cel x1 1)), (AV.int 2)], [(AV.bin Go.BinOp.neq (AV.cel x0 2) (AV.cel x1 2)), (AV.int 4)], [(AV.bin Go.BinOp.neq (AV.cel x0 3) (AV.cel x1 3)), (AV.int 8)]])))) ∧
      (((isT (AV.bin Go.BinOp.lss (ys2433.getD 1 default) (AV.len (AV.mk 2 [[(AV.bin Go.BinOp.neq (AV.cel x0 0) (AV.cel x1 0)), (AV.int 1)], [(AV.bin Go.BinOp.neq (AV.cel x0 1) (AV.cel x1 1)), (AV.int 2)], [(AV.bin Go.BinOp.neq (AV.cel x0 2) (AV.cel x1 2)), (AV.int 4)], [(AV.bin Go.BinOp.neq (AV.cel x0 3) (AV.cel x1 3)), (AV.int 8)]])))) →
        ((AV.inb (AV.mk 2 [[(AV.bin Go.BinOp.neq (AV.cel x0 0) (AV.cel x1 0)), (AV.int 1)], [(AV.bin Go.BinOp.neq (AV.cel x0 1) (AV.cel x1 1)), (AV.int 2)], [(AV.bin Go.BinOp.neq (AV.cel x0 2) (AV.cel x1 2)), (AV.int 4)], [(AV.bin Go.BinOp.neq (AV.cel x0 3) (AV.cel x1 3)), (AV.int 8)]]) (ys2433.getD 1 default)) ∧
        ((AV.inb (AV.mk 2 [[(AV.bin Go.BinOp.neq (AV.cel x0 0) (AV.cel x1 0)), (AV.int 1)], [(AV.bin Go.BinOp.neq (AV.cel x0 1) (AV.cel x1 1)), (AV.int 2)], [(AV.bin Go.BinOp.neq (AV.cel x0 2) (AV.cel x1 2)), (AV.int 4)], [(AV.bin Go.BinOp.neq (AV.cel x0 3) (AV.cel x1 3)), (AV.int 8)]]) (ys2433.getD 1 default)) ∧
        ((AV.isAgg (AV.atAgg (AV.mk 2 [[(AV.bin Go.BinOp.neq (AV.cel x0 0) (AV.cel x1 0)), (AV.int 1)], [(AV.bin Go.BinOp.neq (AV.cel x0 1) (AV.cel x1 1)), (AV.int 2)], [(AV.bin Go.BinOp.neq (AV.cel x0 2) (AV.cel x1 2)), (AV.int 4)], [(AV.bin Go.BinOp.neq (AV.cel x0 3) (AV.cel x1 3)), (AV.int 8)]]) (ys2433.getD 1 default) 0 2) 2) ∧
        ((AV.isBool (AV.cel (AV.atAgg (AV.mk 2 [[(AV.bin Go.BinOp.neq (AV.cel x0 0) (AV.cel x1 0)), (AV.int 1)], [(AV.bin Go.BinOp.neq (AV.cel x0 1) (AV.cel x1 1)), (AV.int 2)], [(AV.bin Go.BinOp.neq (AV.cel x0 2) (AV.cel x1 2)), (AV.int 4)], [(AV.bin Go.BinOp.neq (AV.cel x0 3) (AV.cel x1 3)), (AV.int 8)]]) (ys2433.getD 1 default) 0 2) 0)) ∧
        (((isT (AV.cel (AV.atAgg (AV.mk 2 [[(AV.bin Go.BinOp.neq (AV.cel x0 0) (AV.cel x1 0)), (AV.int 1)], [(AV.bin Go.BinOp.neq (AV.cel x0 1) (AV.cel x1 1)), (AV.int 2)], [(AV.bin Go.BinOp.neq (AV.cel x0 2) (AV.cel x1 2)), (AV.int 4)], [(AV.bin Go.BinOp.neq (AV.cel x0 3) (AV.cel x1 3)), (AV.int 8)]]) (ys2433.getD 1 default) 0 2) 0)) →
          ((AV.binOk Go.BinOp.add (ys2433.getD 0 default) (AV.cel (AV.atAgg (AV.mk 2 [[(AV.bin Go.BinOp.neq (AV.cel x0 0) (AV.cel x1 0)), (AV.int 1)], [(AV.bin Go.BinOp.neq (AV.cel x0 1) (AV.cel x1 1)), (AV.int 2)], [(AV.bin Go.BinOp.neq (AV.cel x0 2) (AV.cel x1 2)), (AV.int 4)], [(AV.bin Go.BinOp.neq (AV.cel x0 3) (AV.cel x1 3)), (AV.int 8)]]) (ys2433.getD 1 default) 0 2) 1)) ∧
          ((AV.binOk Go.BinOp.add (ys2433.getD 1 default) (AV.int 1)) ∧
          (again2433 [(AV.bin Go.BinOp.add (ys2433.getD 0 default) (AV.cel (AV.atAgg (AV.mk 2 [[(AV.bin Go.BinOp.neq (AV.cel x0 0) (AV.cel x1 0)), (AV.int 1)], [(AV.bin Go.BinOp.neq (AV.cel x0 1) (AV.cel x1 1)), (AV.int 2)], [(AV.bin Go.BinOp.neq (AV.cel x0 2) (AV.cel x1 2)), (AV.int 4)], [(AV.bin Go.BinOp.neq (AV.cel x0 3) (AV.cel x1 3)), (AV.int 8)]]) (ys2433.getD 1 default) 0 2) 1)), (AV.bin Go.BinOp.add (ys2433.getD 1 default) (AV.int 1))])))) ∧
        ((isF (AV.cel (AV.atAgg (AV.mk 2 [[(AV.bin Go.BinOp.neq (AV.cel x0 0) (AV.cel x1 0)), (AV.int 1)], [(AV.bin Go.BinOp.neq (AV.cel x0 1) (AV.cel x1 1)), (AV.int 2)], [(AV.bin Go.BinOp.neq (AV.cel x0 2) (AV.cel x1 2)), (AV.int 4)], [(AV.bin Go.BinOp.neq (AV.cel x0 3) (AV.cel x1 3)), (AV.int 8)]]) (ys2433.getD 1 default) 0 2) 0)) →
          ((AV.binOk Go.BinOp.add (ys2433.getD 1 default) (AV.int 1)) ∧
          (again2433 [(ys2433.getD 0 default), (AV.bin Go.BinOp.add (ys2433.getD 1 default) (AV.int 1))]))))))))) ∧
      ((isF (AV.bin Go.BinOp.lss (ys2433.getD 1 default) (AV.len (AV.mk 2 [[(AV.bin Go.BinOp.neq (AV.cel x0 0) (AV.cel x1 0)), (AV.int 1)], [(AV.bin Go.BinOp.neq (AV.cel x0 1) (AV.cel x1 1)), (AV.int 2)], [(AV.bin Go.BinOp.neq (AV.cel x0 2) (AV.cel x1 2)), (AV.int 4)], [(AV.bin Go.BinOp.neq (AV.cel x0 3) (AV.cel x1 3)), (AV.int 8)]])))) →
        ((AV.flat (ys2433.getD 0 default)) ∧
        ((AV.flat (AV.int 0)) ∧
        (fSame (AV.tup [(ys2433.getD 0 default), (AV.int 0)]) r)))))))))))))))))))))))) := by kernel_rfl
theorem index_form (x0 x1 r : AV) : fnF Tryd.prog Γ ann 3 29 Tryd.f29 (Tryd.f29.body.getD .skip) (.nil) [x0, x1] (.sc) r = (((AV.isAgg x1 4) ∧
((fEnt Tryd.prog 43) ∧
(fAllV fun _ => ((AV.isSl x0 5) ∧
(fLoop 577 [(AV.int 0)] fun ys577 again577 =>
  ((AV.binOk Go.BinOp.lss (ys577.getD 0 default) (AV.len x0)) ∧
  ((AV.isBool (AV.bin Go.BinOp.lss (ys577.getD 0 default) (AV.len x0))) ∧
  (((isT (AV.bin Go.BinOp.lss (ys577.getD 0 default) (AV.len x0))) →
    ((AV.isSl x0 5) ∧
    ((AV.inb x0 (ys577.getD 0 default)) ∧
    ((fEnt Tryd.prog 44) ∧
    (fAllV fun _ => ((AV.isAgg (AV.atAgg x0 (ys577.getD 0 default) 0 5) 5) ∧
    ((AV.binOk Go.BinOp.eql (AV.cel (AV.atAgg x0 (ys577.getD 0 default) 0 5) 0) (AV.cel x1 0)) ∧
    ((AV.isBool (AV.bin Go.BinOp.eql (AV.cel (AV.atAgg x0 (ys577.getD 0 default) 0 5) 0) (AV.cel x1 0))) ∧
    (((isT (AV.bin Go.BinOp.eql (AV.cel (AV.atAgg x0 (ys577.getD 0 default) 0 5) 0) (AV.cel x1 0))) →
      ((AV.binOk Go.BinOp.eql (AV.cel (AV.atAgg x0 (ys577.getD 0 default) 0 5) 1) (AV.cel x1 1)) ∧
      ((AV.isBool (AV.bin Go.BinOp.eql (AV.cel (AV.atAgg x0 (ys577.getD 0 default) 0 5) 0) (AV.cel x1 0))) ∧
      ((isT (AV.bin Go.BinOp.eql (AV.cel (AV.atAgg x0 (ys577.getD 0 default) 0 5) 0) (AV.cel x1 0))) ∧
      ((AV.isBool (AV.bin Go.BinOp.eql (AV.cel (AV.atAgg x0 (ys577.getD 0 default) 0 5) 1) (AV.cel x1 1))) ∧
      (((isT (AV.bin Go.BinOp.eql (AV.cel (AV.atAgg x0 (ys577.getD 0 default) 0 5) 1) (AV.cel x1 1))) →
        ((AV.flat (ys577.getD 0 default)) ∧
        (fSame (ys577.getD 0 default) r))) ∧
      ((isF (AV.bin Go.BinOp.eql (AV.cel (AV.atAgg x0 (ys577.getD 0 default) 0 5) 1) (AV.cel x1 1))) →
        ((AV.binOk Go.BinOp.add (ys577.getD 0 default) (AV.int 1)) ∧
        (again577 [(AV.bin Go.BinOp.add (ys577.getD 0 default) (AV.int 1))]))))))))) ∧
    ((isF (AV.bin Go.BinOp.eql (AV.cel (AV.atAgg x0 (ys577.getD 0 default) 0 5) 0) (AV.cel x1 0))) →
      ((AV.isBool (AV.bin Go.BinOp.eql (AV.cel (AV.atAgg x0 (ys577.getD 0 default) 0 5) 0) (AV.cel x1 0))) ∧
      ((isF (AV.bin Go.BinOp.eql (AV.cel (AV.atAgg x0 (ys577.getD 0 default) 0 5) 0) (AV.cel x1 0))) ∧
      ((AV.binOk Go.BinOp.add (ys577.getD 0 default) (AV.int 1)) ∧
      (again577 [(AV.bin Go.BinOp.add (ys577.getD 0 default) (AV.int 1))])))))))))))))) ∧
  ((isF (AV.bin Go.BinOp.lss (ys577.getD 0 default) (AV.len x0))) →
    ((AV.flat (AV.int (-1))) ∧
    (fSame (AV.int (-1)) r)))))))))))) := by kernel_rfl
theorem wrong_form (x0 x1 r : AV) : fnF Tryd.prog Γ ann 3 42 Tryd.f42 (Tryd.f42.body.getD .skip) (.nil) [x0, x1] (.sc) r = (((AV.binOk Go.BinOp.lss x1 (AV.int 0)) ∧
((AV.isBool (AV.bin Go.BinOp.lss x1 (AV.int 0))) ∧
(((isT (AV.bin Go.BinOp.lss x1 (AV.int 0))) →
  ((AV.isBool (AV.bin Go.BinOp.lss x1 (AV.int 0))) ∧
  ((isT (AV.bin Go.BinOp.lss x1 (AV.int 0))) ∧
  ((AV.flat (AV.bool true)) ∧
  (fSame (AV.bool true) r))))) ∧
((isF (AV.bin Go.BinOp.lss x1 (AV.int 0))) →
  ((AV.binOk Go.BinOp.gtr x1 (AV.int 200000)) ∧
  ((AV.isBool (AV.bin Go.BinOp.lss x1 (AV.int 0))) ∧
  ((isF (AV.bin Go.BinOp.lss x1 (AV.int 0))) ∧
  ((AV.isBool (AV.bin Go.BinOp.gtr x1 (AV.int 200000))) ∧
  (((isT (AV.bin Go.BinOp.gtr x1 (AV.int 200000))) →
    ((AV.isBool (AV.bin Go.BinOp.gtr x1 (AV.int 200000))) ∧
    ((isT (AV.bin Go.BinOp.gtr x1 (AV.int 200000))) ∧
    ((AV.flat (AV.bool true)) ∧
    (fSame (AV.bool true) r))))) ∧
  ((isF (AV.bin Go.BinOp.gtr x1 (AV.int 200000))) →
    ((AV.isSl x0 5) ∧
    ((AV.binOk Go.BinOp.gtr (AV.len x0) (AV.int 0)) ∧
    ((AV.isBool (AV.bin Go.BinOp.gtr (AV.len x0) (AV.int 0))) ∧
    (((isT (AV.bin Go.BinOp.gtr (AV.len x0) (AV.int 0))) →
      ((AV.isSl x0 5) ∧
      ((AV.binOk Go.BinOp.sub (AV.len x0) (AV.int 1)) ∧
      ((AV.isSl x0 5) ∧
      ((AV.inb x0 (AV.bin Go.BinOp.sub (AV.len x0) (AV.int 1))) ∧
      ((AV.binOk Go.BinOp.lss x1 (AV.at x0 (AV.bin Go.BinOp.sub (AV.len x0) (AV.int 1)) 4)) ∧
      ((AV.isBool (AV.bin Go.BinOp.gtr (AV.len x0) (AV.int 0))) ∧
      ((isT (AV.bin Go.BinOp.gtr (AV.len x0) (AV.int 0))) ∧
      ((AV.isBool (AV.bin Go.BinOp.gtr x1 (AV.int 200000))) ∧
      ((isF (AV.bin Go.BinOp.gtr x1 (AV.int 200000))) ∧
      ((AV.flat (AV.bin Go.BinOp.lss x1 (AV.at x0 (AV.bin Go.BinOp.sub (AV.len x0) (AV.int 1)) 4))) ∧
      (fSame (AV.bin Go.BinOp.lss x1 (AV.at x0 (AV.bin Go.BinOp.sub (AV.len x0) (AV.int 1)) 4)) r)))))))))))) ∧
    ((isF (AV.bin Go.BinOp.gtr (AV.len x0) (AV.int 0))) →
      ((AV.isBool (AV.bin Go.BinOp.gtr (AV.len x0) (AV.int 0))) ∧
      ((isF (AV.bin Go.BinOp.gtr (AV.len x0) (AV.int 0))) ∧
      ((AV.isBool (AV.bin Go.BinOp.gtr x1 (AV.int 200000))) ∧
      ((isF (AV.bin Go.BinOp.gtr x1 (AV.int 200000))) ∧
      ((AV.flat (AV.bool false)) ∧
      (fSame (AV.bool false) r)))))))))))))))))))))) := by kernel_rfl
theorem rcheck_form (x0 r : AV) : fnF Tryd.prog Γ ann 3 41 Tryd.f41 (Tryd.f41.body.getD .skip) (.nil) [x0] (.sc) r = (((AV.isSl x0 5) ∧
((AV.binOk Go.BinOp.gtr (AV.len x0) (AV.int 12)) ∧
((AV.isBool (AV.bin Go.BinOp.gtr (AV.len x0) (AV.int 12))) ∧
(((isT (AV.bin Go.BinOp.gtr (AV.len x0) (AV.int 12))) →
  ((AV.flat (AV.int 2)) ∧
  (fSame (AV.int 2) r))) ∧
((isF (AV.bin Go.BinOp.gtr (AV.len x0) (AV.int 12))) →
  ((AV.isSl x0 5) ∧
  (fLoop 449 [(AV.int 0)] fun ys449 again449 =>
    ((AV.binOk Go.BinOp.lss (ys449.getD 0 default) (AV.len x0)) ∧
    ((AV.isBool (AV.bin Go.BinOp.lss (ys449.getD 0 default) (AV.len x0))) ∧
    (((isT (AV.bin Go.BinOp.lss (ys449.getD 0 default) (AV.len x0))) →
      ((AV.isSl x0 5) ∧
      ((AV.inb x0 (ys449.getD 0 default)) ∧
      ((AV.isAgg (AV.atAgg x0 (ys449.getD 0 default) 0 5) 5) ∧
      (∃ r1025 : AV, ((Fn Tryd.prog 9 [(AV.agg [(AV.cel (AV.atAgg x0 (ys449.getD 0 default) 0 5) 0), (AV.cel (AV.atAgg x0 (ys449.getD 0 default) 0 5) 1), (AV.cel (AV.atAgg x0 (ys449.getD 0 default) 0 5) 2), (AV.cel (AV.atAgg x0 (ys449.getD 0 default) 0 5) 3)])] Sh.sc r1025) ∧
      ((AV.binOk Go.BinOp.neq r1025 (AV.int 0)) ∧
      ((AV.isBool (AV.bin Go.BinOp.neq r1025 (AV.int 0))) ∧
      (((isT (AV.bin Go.BinOp.neq r1025 (AV.int 0))) →
        ((AV.flat r1025) ∧
        (fSame r1025 r))) ∧
      ((isF (AV.bin Go.BinOp.neq r1025 (AV.int 0))) →
        ((AV.isSl x0 5) ∧
        ((AV.subOk x0 (AV.int 0) (ys449.getD 0 default)) ∧
        (∃ r1601 : AV, ((Fn Tryd.prog 42 [(AV.sub 5 x0 (AV.int 0) (ys449.getD 0 default)), (AV.cel (AV.atAgg x0 (ys449.getD 0 default) 0 5) 4)] Sh.sc r1601) ∧
        ((AV.isBool r1601) ∧
        (((isT r1601) →
          ((AV.flat (AV.int 12)) ∧
          (fSame (AV.int 12) r))) ∧
        ((isF r1601) →
          ((AV.isSl x0 5) ∧
          ((AV.subOk x0 (AV.int 0) (ys449.getD 0 default)) ∧
          (∃ r2049 : AV, ((Fn Tryd.prog 29 [(AV.sub 5 x0 (AV.int 0) (ys449.getD 0 default)), (AV.agg [(AV.cel (AV.atAgg x0 (ys449.getD 0 default) 0 5) 0), (AV.cel (AV.atAgg x0 (ys449.getD 0 default) 0 5) 1), (AV.cel (AV.atAgg x0 (ys449.getD 0 default) 0 5) 2), (AV.cel (AV.atAgg x0 (ys449.getD 0 default) 0 5) 3)])] Sh.sc r2049) ∧
          ((AV.binOk Go.BinOp.geq r2049 (AV.int 0)) ∧
          ((AV.isBool (AV.bin Go.BinOp.geq r2049 (AV.int 0))) ∧
          (((isT (AV.bin Go.BinOp.geq r2049 (AV.int 0))) →
            ((AV.flat (AV.int 7)) ∧
            (fSame (AV.int 7) r))) ∧
          ((isF (AV.bin Go.BinOp.geq r2049 (AV.int 0))) →
            ((AV.binOk Go.BinOp.add (ys449.getD 0 default) (AV.int 1)) ∧
            (again449 [(AV.bin Go.BinOp.add (ys449.getD 0 default) (AV.int 1))]))))))))))))))))))))))))))) ∧
    ((isF (AV.bin Go.BinOp.lss (ys449.getD 0 default) (AV.len x0))) →
      ((AV.flat (AV.int 0)) ∧
      (fSame (AV.int 0) r)))))))))))))) := by kernel_rfl
theorem check2_form (x0 x1 x2 r : AV) : fnF Tryd.prog Γ ann 3 27 Tryd.f27 (Tryd.f27.body.getD .skip) (.nil) [x0, x1, x2] (.sc) r = (((AV.isAgg x1 4) ∧
(∃ r193 : AV, ((Fn Tryd.prog 41 [x0] Sh.sc r193) ∧
((AV.binOk Go.BinOp.neq r193 (AV.int 0)) ∧
((AV.isBool (AV.bin Go.BinOp.neq r193 (AV.int 0))) ∧
(((isT (AV.bin Go.BinOp.neq r193 (AV.int 0))) →
  ((AV.flat r193) ∧
  (fSame r193 r))) ∧
((isF (AV.bin Go.BinOp.neq r193 (AV.int 0))) →
  (∃ r513 : AV, ((Fn Tryd.prog 9 [(AV.agg [(AV.cel x1 0), (AV.cel x1 1), (AV.cel x1 2), (AV.cel x1 3)])] Sh.sc r513) ∧
  ((AV.binOk Go.BinOp.neq r513 (AV.int 0)) ∧
  ((AV.isBool (AV.bin Go.BinOp.neq r513 (AV.int 0))) ∧
  (((isT (AV.bin Go.BinOp.neq r513 (AV.int 0))) →
    ((AV.flat r513) ∧
    (fSame r513 r))) ∧
  ((isF (AV.bin Go.BinOp.neq r513 (AV.int 0))) →
    (∃ r897 : AV, ((Fn Tryd.prog 42 [x0, x2] Sh.sc r897) ∧
    ((AV.isBool r897) ∧
    (((isT r897) →
      ((AV.flat (AV.int 12)) ∧
      (fSame (AV.int 12) r))) ∧
    ((isF r897) →
      ((AV.flat (AV.int 0)) ∧
      (fSame (AV.int 0) r))))))))))))))))))))) := by kernel_rfl
theorem say_form (x0 x1 x2 r : AV) : fnF Tryd.prog Γ ann 3 14 Tryd.f14 (Tryd.f14.body.getD .skip) (.nil) [x0, x1, x2] (.tup [.row 59 5 true, .sc]) r = (((AV.isAgg x1 4) ∧
(∃ r385 : AV, ((Fn Tryd.prog 27 [x0, (AV.agg [(AV.cel x1 0), (AV.cel x1 1), (AV.cel x1 2), (AV.cel x1 3)]), x2] Sh.sc r385) ∧
((AV.binOk Go.BinOp.neq r385 (AV.int 0)) ∧
((AV.isBool (AV.bin Go.BinOp.neq r385 (AV.int 0))) ∧
(((isT (AV.bin Go.BinOp.neq r385 (AV.int 0))) →
  ((AV.flatS (AV.mk 5 [])) ∧
  ((AV.flat r385) ∧
  (fSame (AV.tup [(AV.mk 5 []), r385]) r)))) ∧
((isF (AV.bin Go.BinOp.neq r385 (AV.int 0))) →
  ((fEnt Tryd.prog 28) ∧
  (fAllV fun _ => (fNil x0
    (∃ r1281 : AV, ((Fn Tryd.prog 29 [(AV.mk 5 []), (AV.agg [(AV.cel x1 0), (AV.cel x1 1), (AV.cel x1 2), (AV.cel x1 3)])] Sh.sc r1281) ∧
    ((AV.binOk Go.BinOp.geq r1281 (AV.int 0)) ∧
    ((AV.isBool (AV.bin Go.BinOp.geq r1281 (AV.int 0))) ∧
    (((isT (AV.bin Go.BinOp.geq r1281 (AV.int 0))) →
      ((AV.binOk Go.BinOp.add r1281 (AV.int 1)) ∧
      (∃ r1793 : AV, ((FnU Tryd.prog 30 59 5 (AV.mk 5 []) [r1281, (AV.bin Go.BinOp.add r1281 (AV.int 1))] true r1793) ∧
      ((AV.binOk Go.BinOp.eql (AV.len r1793) (AV.int 12)) ∧
      ((AV.isBool (AV.bin Go.BinOp.eql (AV.len r1793) (AV.int 12))) ∧
      (((isT (AV.bin Go.BinOp.eql (AV.len r1793) (AV.int 12))) →
        ((AV.flatS (AV.mk 5 [])) ∧
        ((AV.flat (AV.int 9)) ∧
        (fSame (AV.tup [(AV.mk 5 []), (AV.int 9)]) r)))) ∧
      ((isF (AV.bin Go.BinOp.eql (AV.len r1793) (AV.int 12))) →
        ((AV.isOne x2) ∧
        ((AV.room r1793 (AV.mk 5 [[(AV.cel x1 0), (AV.cel x1 1), (AV.cel x1 2), (AV.cel x1 3), x2]]) 56) ∧
        ((AV.flatS (AV.app 5 r1793 (AV.mk 5 [[(AV.cel x1 0), (AV.cel x1 1), (AV.cel x1 2), (AV.cel x1 3), x2]]))) ∧
        ((AV.flat (AV.int 0)) ∧
        (fSame (AV.tup [(AV.app 5 r1793 (AV.mk 5 [[(AV.cel x1 0), (AV.cel x1 1), (AV.cel x1 2), (AV.cel x1 3), x2]])), (AV.int 0)]) r))))))))))))) ∧
    ((isF (AV.bin Go.BinOp.geq r1281 (AV.int 0))) →
      ((AV.binOk Go.BinOp.eql (AV.len (AV.mk 5 [])) (AV.int 12)) ∧
      ((AV.isBool (AV.bin Go.BinOp.eql (AV.len (AV.mk 5 [])) (AV.int 12))) ∧
      (((isT (AV.bin Go.BinOp.eql (AV.len (AV.mk 5 [])) (AV.int 12))) →
        ((AV.flatS (AV.mk 5 [])) ∧
        ((AV.flat (AV.int 9)) ∧
        (fSame (AV.tup [(AV.mk 5 []), (AV.int 9)]) r)))) ∧
      ((isF (AV.bin Go.BinOp.eql (AV.len (AV.mk 5 [])) (AV.int 12))) →
        ((AV.isOne x2) ∧
        ((AV.room (AV.mk 5 []) (AV.mk 5 [[(AV.cel x1 0), (AV.cel x1 1), (AV.cel x1 2), (AV.cel x1 3), x2]]) 56) ∧
        ((AV.flatS (AV.app 5 (AV.mk 5 []) (AV.mk 5 [[(AV.cel x1 0), (AV.cel x1 1), (AV.cel x1 2), (AV.cel x1 3), x2]]))) ∧
        ((AV.flat (AV.int 0)) ∧
        (fSame (AV.tup [(AV.app 5 (AV.mk 5 []) (AV.mk 5 [[(AV.cel x1 0), (AV.cel x1 1), (AV.cel x1 2), (AV.cel x1 3), x2]])), (AV.int 0)]) r)))))))))))))))
    ((AV.isSl x0 5) ∧
    ((AV.room (AV.mk 5 []) x0 56) ∧
    (∃ r1473 : AV, ((Fn Tryd.prog 29 [(AV.app 5 (AV.mk 5 []) x0), (AV.agg [(AV.cel x1 0), (AV.cel x1 1), (AV.cel x1 2), (AV.cel x1 3)])] Sh.sc r1473) ∧
    ((AV.binOk Go.BinOp.geq r1473 (AV.int 0)) ∧
    ((AV.isBool (AV.bin Go.BinOp.geq r1473 (AV.int 0))) ∧
    (((isT (AV.bin Go.BinOp.geq r1473 (AV.int 0))) →
      ((AV.binOk Go.BinOp.add r1473 (AV.int 1)) ∧
      (∃ r1985 : AV, ((FnU Tryd.prog 30 59 5 (AV.app 5 (AV.mk 5 []) x0) [r1473, (AV.bin Go.BinOp.add r1473 (AV.int 1))] true r1985) ∧
      ((AV.binOk Go.BinOp.eql (AV.len r1985) (AV.int 12)) ∧
      ((AV.isBool (AV.bin Go.BinOp.eql (AV.len r1985) (AV.int 12))) ∧
      (((isT (AV.bin Go.BinOp.eql (AV.len r1985) (AV.int 12))) →
        ((AV.flatS (AV.mk 5 [])) ∧
        ((AV.flat (AV.int 9)) ∧
        (fSame (AV.tup [(AV.mk 5 []), (AV.int 9)]) r)))) ∧
      ((isF (AV.bin Go.BinOp.eql (AV.len r1985) (AV.int 12))) →
        ((AV.isOne x2) ∧
        ((AV.room r1985 (AV.mk 5 [[(AV.cel x1 0), (AV.cel x1 1), (AV.cel x1 2), (AV.cel x1 3), x2]]) 56) ∧
        ((AV.flatS (AV.app 5 r1985 (AV.mk 5 [[(AV.cel x1 0), (AV.cel x1 1), (AV.cel x1 2), (AV.cel x1 3), x2]]))) ∧
        ((AV.flat (AV.int 0)) ∧
        (fSame (AV.tup [(AV.app 5 r1985 (AV.mk 5 [[(AV.cel x1 0), (AV.cel x1 1), (AV.cel x1 2), (AV.cel x1 3), x2]])), (AV.int 0)]) r))))))))))))) ∧
    ((isF (AV.bin Go.BinOp.geq r1473 (AV.int 0))) →
      ((AV.binOk Go.BinOp.eql (AV.len (AV.app 5 (AV.mk 5 []) x0)) (AV.int 12)) ∧
      ((AV.isBool (AV.bin Go.BinOp.eql (AV.len (AV.app 5 (AV.mk 5 []) x0)) (AV.int 12))) ∧
      (((isT (AV.bin Go.BinOp.eql (AV.len (AV.app 5 (AV.mk 5 []) x0)) (AV.int 12))) →
        ((AV.flatS (AV.mk 5 [])) ∧
        ((AV.flat (AV.int 9)) ∧
        (fSame (AV.tup [(AV.mk 5 []), (AV.int 9)]) r)))) ∧
      ((isF (AV.bin Go.BinOp.eql (AV.len (AV.app 5 (AV.mk 5 []) x0)) (AV.int 12))) →
        ((AV.isOne x2) ∧
        ((AV.room (AV.app 5 (AV.mk 5 []) x0) (AV.mk 5 [[(AV.cel x1 0), (AV.cel x1 1), (AV.cel x1 2), (AV.cel x1 3), x2]]) 56) ∧
        ((AV.flatS (AV.app 5 (AV.app 5 (AV.mk 5 []) x0) (AV.mk 5 [[(AV.cel x1 0), (AV.cel x1 1), (AV.cel x1 2), (AV.cel x1 3), x2]]))) ∧
        ((AV.flat (AV.int 0)) ∧
        (fSame (AV.tup [(AV.app 5 (AV.app 5 (AV.mk 5 []) x0) (AV.mk 5 [[(AV.cel x1 0), (AV.cel x1 1), (AV.cel x1 2), (AV.cel x1 3), x2]])), (AV.int 0)]) r)))))))))))))))))))))))))))) := by kernel_rfl
theorem hear_form (x0 x1 x2 r : AV) : fnF Tryd.prog Γ ann 3 16 Tryd.f16 (Tryd.f16.body.getD .skip) (.nil) [x0, x1, x2] (.tup [.row 59 5 true, .sc]) r = (((AV.isAgg x1 4) ∧
(∃ r385 : AV, ((Fn Tryd.prog 27 [x0, (AV.agg [(AV.cel x1 0), (AV.cel x1 1), (AV.cel x1 2), (AV.cel x1 3)]), x2] Sh.sc r385) ∧
((AV.binOk Go.BinOp.neq r385 (AV.int 0)) ∧
((AV.isBool (AV.bin Go.BinOp.neq r385 (AV.int 0))) ∧
(((isT (AV.bin Go.BinOp.neq r385 (AV.int 0))) →
  ((AV.flatS (AV.mk 5 [])) ∧
  ((AV.flat r385) ∧
  (fSame (AV.tup [(AV.mk 5 []), r385]) r)))) ∧
((isF (AV.bin Go.BinOp.neq r385 (AV.int 0))) →
  (∃ r769 : AV, ((Fn Tryd.prog 29 [x0, (AV.agg [(AV.cel x1 0), (AV.cel x1 1), (AV.cel x1 2), (AV.cel x1 3)])] Sh.sc r769) ∧
  ((AV.binOk Go.BinOp.lss r769 (AV.int 0)) ∧
  ((AV.isBool (AV.bin Go.BinOp.lss r769 (AV.int 0))) ∧
  (((isT (AV.bin Go.BinOp.lss r769 (AV.int 0))) →
    ((AV.flatS (AV.mk 5 [])) ∧
    ((AV.flat (AV.int 8)) ∧
    (fSame (AV.tup [(AV.mk 5 []), (AV.int 8)]) r)))) ∧
  ((isF (AV.bin Go.BinOp.lss r769 (AV.int 0))) →
    ((AV.isSl x0 5) ∧
    ((AV.inb x0 r769) ∧
    ((AV.binOk Go.BinOp.sub x2 (AV.at x0 r769 4)) ∧
    ((AV.binOk Go.BinOp.gtr (AV.bin Go.BinOp.sub x2 (AV.at x0 r769 4)) (AV.int 40)) ∧
    ((AV.isBool (AV.bin Go.BinOp.gtr (AV.bin Go.BinOp.sub x2 (AV.at x0 r769 4)) (AV.int 40))) ∧
    (((isT (AV.bin Go.BinOp.gtr (AV.bin Go.BinOp.sub x2 (AV.at x0 r769 4)) (AV.int 40))) →
      ((AV.flatS (AV.mk 5 [])) ∧
      ((AV.flat (AV.int 21)) ∧
      (fSame (AV.tup [(AV.mk 5 []), (AV.int 21)]) r)))) ∧
    ((isF (AV.bin Go.BinOp.gtr (AV.bin Go.BinOp.sub x2 (AV.at x0 r769 4)) (AV.int 40))) →
      ((AV.isSl x0 5) ∧
      ((AV.inb x0 r769) ∧
      ((AV.eqPlOk [(0, EK.str), (1, (EK.int Go.IntKind.i64)), (2, (EK.int Go.IntKind.i64)), (3, EK.str)] [(AV.cel (AV.atAgg x0 r769 0 4) 0), (AV.cel (AV.atAgg x0 r769 0 4) 1), (AV.cel (AV.atAgg x0 r769 0 4) 2), (AV.cel (AV.atAgg x0 r769 0 4) 3)] [(AV.cel x1 0), (AV.cel x1 1), (AV.cel x1 2), (AV.cel x1 3)]) ∧
      ((AV.isAgg (AV.atAgg x0 r769 0 4) 4) ∧
      ((AV.isBool (AV.nePl [(0, EK.str), (1, (EK.int Go.IntKind.i64)), (2, (EK.int Go.IntKind.i64)), (3, EK.str)] [(AV.cel (AV.atAgg x0 r769 0 4) 0), (AV.cel (AV.atAgg x0 r769 0 4) 1), (AV.cel (AV.atAgg x0 r769 0 4) 2), (AV.cel (AV.atAgg x0 r769 0 4) 3)] [(AV.cel x1 0), (AV.cel x1 1), (AV.cel x1 2), (AV.cel x1 3)])) ∧
      (((isT (AV.nePl [(0, EK.str), (1, (EK.int Go.IntKind.i64)), (2, (EK.int Go.IntKind.i64)), (3, EK.str)] [(AV.cel (AV.atAgg x0 r769 0 4) 0), (AV.cel (AV.atAgg x0 r769 0 4) 1), (AV.cel (AV.atAgg x0 r769 0 4) 2), (AV.cel (AV.atAgg x0 r769 0 4) 3)] [(AV.cel x1 0), (AV.cel x1 1), (AV.cel x1 2), (AV.cel x1 3)])) →
        ((AV.flatS (AV.mk 5 [])) ∧
        ((AV.flat (AV.int 17)) ∧
        (fSame (AV.tup [(AV.mk 5 []), (AV.int 17)]) r)))) ∧
      ((isF (AV.nePl [(0, EK.str), (1, (EK.int Go.IntKind.i64)), (2, (EK.int Go.IntKind.i64)), (3, EK.str)] [(AV.cel (AV.atAgg x0 r769 0 4) 0), (AV.cel (AV.atAgg x0 r769 0 4) 1), (AV.cel (AV.atAgg x0 r769 0 4) 2), (AV.cel (AV.atAgg x0 r769 0 4) 3)] [(AV.cel x1 0), (AV.cel x1 1), (AV.cel x1 2), (AV.cel x1 3)])) →
        ((fEnt Tryd.prog 28) ∧
        (fAllV fun _ => (fNil x0
          ((AV.binOk Go.BinOp.add r769 (AV.int 1)) ∧
          (∃ r2817 : AV, ((FnU Tryd.prog 30 59 5 (AV.mk 5 []) [r769, (AV.bin Go.BinOp.add r769 (AV.int 1))] true r2817) ∧
          ((AV.flatS r2817) ∧
          ((AV.flat (AV.int 0)) ∧
          (fSame (AV.tup [r2817, (AV.int 0)]) r))))))
          ((AV.isSl x0 5) ∧
          ((AV.room (AV.mk 5 []) x0 56) ∧
          ((AV.binOk Go.BinOp.add r769 (AV.int 1)) ∧
          (∃ r3009 : AV, ((FnU Tryd.prog 30 59 5 (AV.app 5 (AV.mk 5 []) x0) [r769, (AV.bin Go.BinOp.add r769 (AV.int 1))] true r3009) ∧
          ((AV.flatS r3009) ∧
          ((AV.flat (AV.int 0)) ∧
          (fSame (AV.tup [r3009, (AV.int 0)]) r))))))))))))))))))))))))))))))))))))))) := by kernel_rfl
end RbF
end Go.Proofs.YtbeegkheobomaaaDoor
