/- Names: what the run ends in. -/
import Derived.Test.YtfdpbfdhcngfgaaVal
namespace Go.Proofs.Ytfdpbfdhcngfgaa
open Go.RowKit
set_option linter.unusedVariables false
set_option maxRecDepth 100000
namespace NameF
--GAMMA
def Γ : FuncId → Option Ca := fun _ => none
def ann : FuncId → Nat → LoopEx := fun _ _ => ⟨[], [], [], []⟩
--END GAMMA
theorem name_form (x0 r : AV) : fnF Try.prog Γ ann 0 29 Try.f29 (Try.f29.body.getD .skip) (.nil) [x0] (.sc) r = (((AV.isStr x0) ∧
((AV.binOk Go.BinOp.lss (AV.slen x0) (AV.int 1)) ∧
((AV.isBool (AV.bin Go.BinOp.lss (AV.slen x0) (AV.int 1))) ∧
(((isT (AV.bin Go.BinOp.lss (AV.slen x0) (AV.int 1))) →
  ((AV.isBool (AV.bin Go.BinOp.lss (AV.slen x0) (AV.int 1))) ∧
  ((isT (AV.bin Go.BinOp.lss (AV.slen x0) (AV.int 1))) ∧
  ((AV.flat (AV.bool false)) ∧
  (fSame (AV.bool false) r))))) ∧
((isF (AV.bin Go.BinOp.lss (AV.slen x0) (AV.int 1))) →
  ((AV.isStr x0) ∧
  ((AV.binOk Go.BinOp.gtr (AV.slen x0) (AV.int 8)) ∧
  ((AV.isBool (AV.bin Go.BinOp.lss (AV.slen x0) (AV.int 1))) ∧
  ((isF (AV.bin Go.BinOp.lss (AV.slen x0) (AV.int 1))) ∧
  ((AV.isBool (AV.bin Go.BinOp.gtr (AV.slen x0) (AV.int 8))) ∧
  (((isT (AV.bin Go.BinOp.gtr (AV.slen x0) (AV.int 8))) →
    ((AV.flat (AV.bool false)) ∧
    (fSame (AV.bool false) r))) ∧
  ((isF (AV.bin Go.BinOp.gtr (AV.slen x0) (AV.int 8))) →
    ((AV.isStr x0) ∧
    ((AV.bytesOk x0) ∧
    ((AV.isSl (AV.bytes x0) 1) ∧
    (fLoop 833 [(AV.int 0)] fun ys833 again833 =>
      ((AV.binOk Go.BinOp.lss (ys833.getD 0 default) (AV.len (AV.bytes x0))) ∧
      ((AV.isBool (AV.bin Go.BinOp.lss (ys833.getD 0 default) (AV.len (AV.bytes x0)))) ∧
      (((isT (AV.bin Go.BinOp.lss (ys833.getD 0 default) (AV.len (AV.bytes x0)))) →
        ((AV.isSl (AV.bytes x0) 1) ∧
        ((AV.inb (AV.bytes x0) (ys833.getD 0 default)) ∧
        ((AV.binOk Go.BinOp.geq (AV.at (AV.bytes x0) (ys833.getD 0 default) 0) (AV.lit (Value.int Go.IntKind.u8 65))) ∧
        ((AV.isBool (AV.bin Go.BinOp.geq (AV.at (AV.bytes x0) (ys833.getD 0 default) 0) (AV.lit (Value.int Go.IntKind.u8 65)))) ∧
        (((isT (AV.bin Go.BinOp.geq (AV.at (AV.bytes x0) (ys833.getD 0 default) 0) (AV.lit (Value.int Go.IntKind.u8 65)))) →
          ((AV.binOk Go.BinOp.leq (AV.at (AV.bytes x0) (ys833.getD 0 default) 0) (AV.lit (Value.int Go.IntKind.u8 90))) ∧
          ((AV.isBool (AV.bin Go.BinOp.geq (AV.at (AV.bytes x0) (ys833.getD 0 default) 0) (AV.lit (Value.int Go.IntKind.u8 65)))) ∧
          ((isT (AV.bin Go.BinOp.geq (AV.at (AV.bytes x0) (ys833.getD 0 default) 0) (AV.lit (Value.int Go.IntKind.u8 65)))) ∧
          ((AV.isBool (AV.bin Go.BinOp.leq (AV.at (AV.bytes x0) (ys833.getD 0 default) 0) (AV.lit (Value.int Go.IntKind.u8 90)))) ∧
          (((isT (AV.bin Go.BinOp.leq (AV.at (AV.bytes x0) (ys833.getD 0 default) 0) (AV.lit (Value.int Go.IntKind.u8 90)))) →
            ((AV.isBool (AV.bin Go.BinOp.leq (AV.at (AV.bytes x0) (ys833.getD 0 default) 0) (AV.lit (Value.int Go.IntKind.u8 90)))) ∧
            ((isT (AV.bin Go.BinOp.leq (AV.at (AV.bytes x0) (ys833.getD 0 default) 0) (AV.lit (Value.int Go.IntKind.u8 90)))) ∧
            ((AV.binOk Go.BinOp.add (ys833.getD 0 default) (AV.int 1)) ∧
            (again833 [(AV.bin Go.BinOp.add (ys833.getD 0 default) (AV.int 1))]))))) ∧
          ((isF (AV.bin Go.BinOp.leq (AV.at (AV.bytes x0) (ys833.getD 0 default) 0) (AV.lit (Value.int Go.IntKind.u8 90)))) →
            ((AV.binOk Go.BinOp.gtr (ys833.getD 0 default) (AV.int 0)) ∧
            ((AV.isBool (AV.bin Go.BinOp.gtr (ys833.getD 0 default) (AV.int 0))) ∧
            (((isT (AV.bin Go.BinOp.gtr (ys833.getD 0 default) (AV.int 0))) →
              ((AV.binOk Go.BinOp.geq (AV.at (AV.bytes x0) (ys833.getD 0 default) 0) (AV.lit (Value.int Go.IntKind.u8 48))) ∧
              ((AV.isBool (AV.bin Go.BinOp.gtr (ys833.getD 0 default) (AV.int 0))) ∧
              ((isT (AV.bin Go.BinOp.gtr (ys833.getD 0 default) (AV.int 0))) ∧
              ((AV.isBool (AV.bin Go.BinOp.geq (AV.at (AV.bytes x0) (ys833.getD 0 default) 0) (AV.lit (Value.int Go.IntKind.u8 48)))) ∧
              (((isT (AV.bin Go.BinOp.geq (AV.at (AV.bytes x0) (ys833.getD 0 default) 0) (AV.lit (Value.int Go.IntKind.u8 48)))) →
                ((AV.binOk Go.BinOp.leq (AV.at (AV.bytes x0) (ys833.getD 0 default) 0) (AV.lit (Value.int Go.IntKind.u8 57))) ∧
                ((AV.isBool (AV.bin Go.BinOp.geq (AV.at (AV.bytes x0) (ys833.getD 0 default) 0) (AV.lit (Value.int Go.IntKind.u8 48)))) ∧
                ((isT (AV.bin Go.BinOp.geq (AV.at (AV.bytes x0) (ys833.getD 0 default) 0) (AV.lit (Value.int Go.IntKind.u8 48)))) ∧
                ((AV.isBool (AV.bin Go.BinOp.leq (AV.at (AV.bytes x0) (ys833.getD 0 default) 0) (AV.lit (Value.int Go.IntKind.u8 90)))) ∧
                ((isF (AV.bin Go.BinOp.leq (AV.at (AV.bytes x0) (ys833.getD 0 default) 0) (AV.lit (Value.int Go.IntKind.u8 90)))) ∧
                ((AV.unOk Go.UnOp.not (AV.bin Go.BinOp.leq (AV.at (AV.bytes x0) (ys833.getD 0 default) 0) (AV.lit (Value.int Go.IntKind.u8 57)))) ∧
                ((AV.isBool (AV.un Go.UnOp.not (AV.bin Go.BinOp.leq (AV.at (AV.bytes x0) (ys833.getD 0 default) 0) (AV.lit (Value.int Go.IntKind.u8 57))))) ∧
                (((isT (AV.un Go.UnOp.not (AV.bin Go.BinOp.leq (AV.at (AV.bytes x0) (ys833.getD 0 default) 0) (AV.lit (Value.int Go.IntKind.u8 57))))) →
                  ((AV.flat (AV.bool false)) ∧
                  (fSame (AV.bool false) r))) ∧
                ((isF (AV.un Go.UnOp.not (AV.bin Go.BinOp.leq (AV.at (AV.bytes x0) (ys833.getD 0 default) 0) (AV.lit (Value.int Go.IntKind.u8 57))))) →
                  ((AV.binOk Go.BinOp.add (ys833.getD 0 default) (AV.int 1)) ∧
                  (again833 [(AV.bin Go.BinOp.add (ys833.getD 0 default) (AV.int 1))])))))))))))) ∧
              ((isF (AV.bin Go.BinOp.geq (AV.at (AV.bytes x0) (ys833.getD 0 default) 0) (AV.lit (Value.int Go.IntKind.u8 48)))) →
                ((AV.isBool (AV.bin Go.BinOp.geq (AV.at (AV.bytes x0) (ys833.getD 0 default) 0) (AV.lit (Value.int Go.IntKind.u8 48)))) ∧
                ((isF (AV.bin Go.BinOp.geq (AV.at (AV.bytes x0) (ys833.getD 0 default) 0) (AV.lit (Value.int Go.IntKind.u8 48)))) ∧
                ((AV.isBool (AV.bin Go.BinOp.leq (AV.at (AV.bytes x0) (ys833.getD 0 default) 0) (AV.lit (Value.int Go.IntKind.u8 90)))) ∧
                ((isF (AV.bin Go.BinOp.leq (AV.at (AV.bytes x0) (ys833.getD 0 default) 0) (AV.lit (Value.int Go.IntKind.u8 90)))) ∧
                ((AV.flat (AV.bool false)) ∧
                (fSame (AV.bool false) r))))))))))))) ∧
            ((isF (AV.bin Go.BinOp.gtr (ys833.getD 0 default) (AV.int 0))) →
              ((AV.isBool (AV.bin Go.BinOp.gtr (ys833.getD 0 default) (AV.int 0))) ∧
              ((isF (AV.bin Go.BinOp.gtr (ys833.getD 0 default) (AV.int 0))) ∧
              ((AV.isBool (AV.bin Go.BinOp.leq (AV.at (AV.bytes x0) (ys833.getD 0 default) 0) (AV.lit (Value.int Go.IntKind.u8 90)))) ∧
              ((isF (AV.bin Go.BinOp.leq (AV.at (AV.bytes x0) (ys833.getD 0 default) 0) (AV.lit (Value.int Go.IntKind.u8 90)))) ∧
              ((AV.flat (AV.bool false)) ∧
              (fSame (AV.bool false) r))))))))))))))))) ∧
        ((isF (AV.bin Go.BinOp.geq (AV.at (AV.bytes x0) (ys833.getD 0 default) 0) (AV.lit (Value.int Go.IntKind.u8 65)))) →
          ((AV.isBool (AV.bin Go.BinOp.geq (AV.at (AV.bytes x0) (ys833.getD 0 default) 0) (AV.lit (Value.int Go.IntKind.u8 65)))) ∧
          ((isF (AV.bin Go.BinOp.geq (AV.at (AV.bytes x0) (ys833.getD 0 default) 0) (AV.lit (Value.int Go.IntKind.u8 65)))) ∧
          ((AV.binOk Go.BinOp.gtr (ys833.getD 0 default) (AV.int 0)) ∧
          ((AV.isBool (AV.bin Go.BinOp.gtr (ys833.getD 0 default) (AV.int 0))) ∧
          (((isT (AV.bin Go.BinOp.gtr (ys833.getD 0 default) (AV.int 0))) →
            ((AV.binOk Go.BinOp.geq (AV.at (AV.bytes x0) (ys833.getD 0 default) 0) (AV.lit (Value.int Go.IntKind.u8 48))) ∧
            ((AV.isBool (AV.bin Go.BinOp.gtr (ys833.getD 0 default) (AV.int 0))) ∧
            ((isT (AV.bin Go.BinOp.gtr (ys833.getD 0 default) (AV.int 0))) ∧
            ((AV.isBool (AV.bin Go.BinOp.geq (AV.at (AV.bytes x0) (ys833.getD 0 default) 0) (AV.lit (Value.int Go.IntKind.u8 48)))) ∧
            (((isT (AV.bin Go.BinOp.geq (AV.at (AV.bytes x0) (ys833.getD 0 default) 0) (AV.lit (Value.int Go.IntKind.u8 48)))) →
              ((AV.binOk Go.BinOp.leq (AV.at (AV.bytes x0) (ys833.getD 0 default) 0) (AV.lit (Value.int Go.IntKind.u8 57))) ∧
              ((AV.isBool (AV.bin Go.BinOp.geq (AV.at (AV.bytes x0) (ys833.getD 0 default) 0) (AV.lit (Value.int Go.IntKind.u8 48)))) ∧
              ((isT (AV.bin Go.BinOp.geq (AV.at (AV.bytes x0) (ys833.getD 0 default) 0) (AV.lit (Value.int Go.IntKind.u8 48)))) ∧
              ((AV.unOk Go.UnOp.not (AV.bin Go.BinOp.leq (AV.at (AV.bytes x0) (ys833.getD 0 default) 0) (AV.lit (Value.int Go.IntKind.u8 57)))) ∧
              ((AV.isBool (AV.un Go.UnOp.not (AV.bin Go.BinOp.leq (AV.at (AV.bytes x0) (ys833.getD 0 default) 0) (AV.lit (Value.int Go.IntKind.u8 57))))) ∧
              (((isT (AV.un Go.UnOp.not (AV.bin Go.BinOp.leq (AV.at (AV.bytes x0) (ys833.getD 0 default) 0) (AV.lit (Value.int Go.IntKind.u8 57))))) →
                ((AV.flat (AV.bool false)) ∧
                (fSame (AV.bool false) r))) ∧
              ((isF (AV.un Go.UnOp.not (AV.bin Go.BinOp.leq (AV.at (AV.bytes x0) (ys833.getD 0 default) 0) (AV.lit (Value.int Go.IntKind.u8 57))))) →
                ((AV.binOk Go.BinOp.add (ys833.getD 0 default) (AV.int 1)) ∧
                (again833 [(AV.bin Go.BinOp.add (ys833.getD 0 default) (AV.int 1))])))))))))) ∧
            ((isF (AV.bin Go.BinOp.geq (AV.at (AV.bytes x0) (ys833.getD 0 default) 0) (AV.lit (Value.int Go.IntKind.u8 48)))) →
              ((AV.isBool (AV.bin Go.BinOp.geq (AV.at (AV.bytes x0) (ys833.getD 0 default) 0) (AV.lit (Value.int Go.IntKind.u8 48)))) ∧
              ((isF (AV.bin Go.BinOp.geq (AV.at (AV.bytes x0) (ys833.getD 0 default) 0) (AV.lit (Value.int Go.IntKind.u8 48)))) ∧
              ((AV.flat (AV.bool false)) ∧
              (fSame (AV.bool false) r))))))))))) ∧
          ((isF (AV.bin Go.BinOp.gtr (ys833.getD 0 default) (AV.int 0))) →
            ((AV.isBool (AV.bin Go.BinOp.gtr (ys833.getD 0 default) (AV.int 0))) ∧
            ((isF (AV.bin Go.BinOp.gtr (ys833.getD 0 default) (AV.int 0))) ∧
            ((AV.flat (AV.bool false)) ∧
            (fSame (AV.bool false) r))))))))))))))))) ∧
      ((isF (AV.bin Go.BinOp.lss (ys833.getD 0 default) (AV.len (AV.bytes x0)))) →
        ((AV.flat (AV.bool true)) ∧
        (fSame (AV.bool true) r))))))))))))))))))))))) := by kernel_rfl
theorem isname_form (x0 r : AV) : fnF Try.prog Γ ann 0 28 Try.f28 (Try.f28.body.getD .skip) (.nil) [x0] (.sc) r = (((AV.binOk Go.BinOp.eql x0 (AV.lit (Value.string ⟨#[]⟩))) ∧
((AV.isBool (AV.bin Go.BinOp.eql x0 (AV.lit (Value.string ⟨#[]⟩)))) ∧
(((isT (AV.bin Go.BinOp.eql x0 (AV.lit (Value.string ⟨#[]⟩)))) →
  ((AV.isBool (AV.bin Go.BinOp.eql x0 (AV.lit (Value.string ⟨#[]⟩)))) ∧
  ((isT (AV.bin Go.BinOp.eql x0 (AV.lit (Value.string ⟨#[]⟩)))) ∧
  ((AV.flat (AV.bool false)) ∧
  (fSame (AV.bool false) r))))) ∧
((isF (AV.bin Go.BinOp.eql x0 (AV.lit (Value.string ⟨#[]⟩)))) →
  ((AV.isStr x0) ∧
  ((AV.binOk Go.BinOp.gtr (AV.slen x0) (AV.int 8)) ∧
  ((AV.isBool (AV.bin Go.BinOp.eql x0 (AV.lit (Value.string ⟨#[]⟩)))) ∧
  ((isF (AV.bin Go.BinOp.eql x0 (AV.lit (Value.string ⟨#[]⟩)))) ∧
  ((AV.isBool (AV.bin Go.BinOp.gtr (AV.slen x0) (AV.int 8))) ∧
  (((isT (AV.bin Go.BinOp.gtr (AV.slen x0) (AV.int 8))) →
    ((AV.isBool (AV.bin Go.BinOp.gtr (AV.slen x0) (AV.int 8))) ∧
    ((isT (AV.bin Go.BinOp.gtr (AV.slen x0) (AV.int 8))) ∧
    ((AV.flat (AV.bool false)) ∧
    (fSame (AV.bool false) r))))) ∧
  ((isF (AV.bin Go.BinOp.gtr (AV.slen x0) (AV.int 8))) →
    ((AV.isStr x0) ∧
    ((AV.sinb x0 (AV.int 0)) ∧
    ((AV.binOk Go.BinOp.geq (AV.sat x0 (AV.int 0)) (AV.lit (Value.int Go.IntKind.u8 48))) ∧
    ((AV.isBool (AV.bin Go.BinOp.geq (AV.sat x0 (AV.int 0)) (AV.lit (Value.int Go.IntKind.u8 48)))) ∧
    (((isT (AV.bin Go.BinOp.geq (AV.sat x0 (AV.int 0)) (AV.lit (Value.int Go.IntKind.u8 48)))) →
      ((AV.isStr x0) ∧
      ((AV.sinb x0 (AV.int 0)) ∧
      ((AV.binOk Go.BinOp.leq (AV.sat x0 (AV.int 0)) (AV.lit (Value.int Go.IntKind.u8 57))) ∧
      ((AV.isBool (AV.bin Go.BinOp.geq (AV.sat x0 (AV.int 0)) (AV.lit (Value.int Go.IntKind.u8 48)))) ∧
      ((isT (AV.bin Go.BinOp.geq (AV.sat x0 (AV.int 0)) (AV.lit (Value.int Go.IntKind.u8 48)))) ∧
      ((AV.isBool (AV.bin Go.BinOp.gtr (AV.slen x0) (AV.int 8))) ∧
      ((isF (AV.bin Go.BinOp.gtr (AV.slen x0) (AV.int 8))) ∧
      ((AV.isBool (AV.bin Go.BinOp.leq (AV.sat x0 (AV.int 0)) (AV.lit (Value.int Go.IntKind.u8 57)))) ∧
      (((isT (AV.bin Go.BinOp.leq (AV.sat x0 (AV.int 0)) (AV.lit (Value.int Go.IntKind.u8 57)))) →
        ((AV.flat (AV.bool false)) ∧
        (fSame (AV.bool false) r))) ∧
      ((isF (AV.bin Go.BinOp.leq (AV.sat x0 (AV.int 0)) (AV.lit (Value.int Go.IntKind.u8 57)))) →
        (fLoop 1217 [(AV.int 0)] fun ys1217 again1217 =>
          ((AV.isStr x0) ∧
          ((AV.binOk Go.BinOp.lss (ys1217.getD 0 default) (AV.slen x0)) ∧
          ((AV.isBool (AV.bin Go.BinOp.lss (ys1217.getD 0 default) (AV.slen x0))) ∧
          (((isT (AV.bin Go.BinOp.lss (ys1217.getD 0 default) (AV.slen x0))) →
            ((AV.isStr x0) ∧
            ((AV.sinb x0 (ys1217.getD 0 default)) ∧
            ((AV.binOk Go.BinOp.lss (AV.sat x0 (ys1217.getD 0 default)) (AV.lit (Value.int Go.IntKind.u8 65))) ∧
            ((AV.isBool (AV.bin Go.BinOp.lss (AV.sat x0 (ys1217.getD 0 default)) (AV.lit (Value.int Go.IntKind.u8 65)))) ∧
            (((isT (AV.bin Go.BinOp.lss (AV.sat x0 (ys1217.getD 0 default)) (AV.lit (Value.int Go.IntKind.u8 65)))) →
              ((AV.isBool (AV.bin Go.BinOp.lss (AV.sat x0 (ys1217.getD 0 default)) (AV.lit (Value.int Go.IntKind.u8 65)))) ∧
              ((isT (AV.bin Go.BinOp.lss (AV.sat x0 (ys1217.getD 0 default)) (AV.lit (Value.int Go.IntKind.u8 65)))) ∧
              ((AV.binOk Go.BinOp.lss (AV.sat x0 (ys1217.getD 0 default)) (AV.lit (Value.int Go.IntKind.u8 48))) ∧
              ((AV.isBool (AV.bin Go.BinOp.lss (AV.sat x0 (ys1217.getD 0 default)) (AV.lit (Value.int Go.IntKind.u8 48)))) ∧
              (((isT (AV.bin Go.BinOp.lss (AV.sat x0 (ys1217.getD 0 default)) (AV.lit (Value.int Go.IntKind.u8 48)))) →
                ((AV.isBool (AV.bin Go.BinOp.lss (AV.sat x0 (ys1217.getD 0 default)) (AV.lit (Value.int Go.IntKind.u8 48)))) ∧
                ((isT (AV.bin Go.BinOp.lss (AV.sat x0 (ys1217.getD 0 default)) (AV.lit (Value.int Go.IntKind.u8 48)))) ∧
                ((AV.flat (AV.bool false)) ∧
                (fSame (AV.bool false) r))))) ∧
              ((isF (AV.bin Go.BinOp.lss (AV.sat x0 (ys1217.getD 0 default)) (AV.lit (Value.int Go.IntKind.u8 48)))) →
                ((AV.binOk Go.BinOp.gtr (AV.sat x0 (ys1217.getD 0 default)) (AV.lit (Value.int Go.IntKind.u8 57))) ∧
                ((AV.isBool (AV.bin Go.BinOp.lss (AV.sat x0 (ys1217.getD 0 default)) (AV.lit (Value.int Go.IntKind.u8 48)))) ∧
                ((isF (AV.bin Go.BinOp.lss (AV.sat x0 (ys1217.getD 0 default)) (AV.lit (Value.int Go.IntKind.u8 48)))) ∧
                ((AV.isBool (AV.bin Go.BinOp.gtr (AV.sat x0 (ys1217.getD 0 default)) (AV.lit (Value.int Go.IntKind.u8 57)))) ∧
                (((isT (AV.bin Go.BinOp.gtr (AV.sat x0 (ys1217.getD 0 default)) (AV.lit (Value.int Go.IntKind.u8 57)))) →
                  ((AV.flat (AV.bool false)) ∧
                  (fSame (AV.bool false) r))) ∧
                ((isF (AV.bin Go.BinOp.gtr (AV.sat x0 (ys1217.getD 0 default)) (AV.lit (Value.int Go.IntKind.u8 57)))) →
                  ((AV.binOk Go.BinOp.add (ys1217.getD 0 default) (AV.int 1)) ∧
                  (again1217 [(AV.bin Go.BinOp.add (ys1217.getD 0 default) (AV.int 1))]))))))))))))))) ∧
            ((isF (AV.bin Go.BinOp.lss (AV.sat x0 (ys1217.getD 0 default)) (AV.lit (Value.int Go.IntKind.u8 65)))) →
              ((AV.binOk Go.BinOp.gtr (AV.sat x0 (ys1217.getD 0 default)) (AV.lit (Value.int Go.IntKind.u8 90))) ∧
              ((AV.isBool (AV.bin Go.BinOp.lss (AV.sat x0 (ys1217.getD 0 default)) (AV.lit (Value.int Go.IntKind.u8 65)))) ∧
              ((isF (AV.bin Go.BinOp.lss (AV.sat x0 (ys1217.getD 0 default)) (AV.lit (Value.int Go.IntKind.u8 65)))) ∧
              ((AV.isBool (AV.bin Go.BinOp.gtr (AV.sat x0 (ys1217.getD 0 default)) (AV.lit (Value.int Go.IntKind.u8 90)))) ∧
              (((isT (AV.bin Go.BinOp.gtr (AV.sat x0 (ys1217.getD 0 default)) (AV.lit (Value.int Go.IntKind.u8 90)))) →
                ((AV.binOk Go.BinOp.lss (AV.sat x0 (ys1217.getD 0 default)) (AV.lit (Value.int Go.IntKind.u8 48))) ∧
                ((AV.isBool (AV.bin Go.BinOp.lss (AV.sat x0 (ys1217.getD 0 default)) (AV.lit (Value.int Go.IntKind.u8 48)))) ∧
                (((isT (AV.bin Go.BinOp.lss (AV.sat x0 (ys1217.getD 0 default)) (AV.lit (Value.int Go.IntKind.u8 48)))) →
                  ((AV.isBool (AV.bin Go.BinOp.lss (AV.sat x0 (ys1217.getD 0 default)) (AV.lit (Value.int Go.IntKind.u8 48)))) ∧
                  ((isT (AV.bin Go.BinOp.lss (AV.sat x0 (ys1217.getD 0 default)) (AV.lit (Value.int Go.IntKind.u8 48)))) ∧
                  ((AV.isBool (AV.bin Go.BinOp.gtr (AV.sat x0 (ys1217.getD 0 default)) (AV.lit (Value.int Go.IntKind.u8 90)))) ∧
                  ((isT (AV.bin Go.BinOp.gtr (AV.sat x0 (ys1217.getD 0 default)) (AV.lit (Value.int Go.IntKind.u8 90)))) ∧
                  ((AV.flat (AV.bool false)) ∧
                  (fSame (AV.bool false) r))))))) ∧
                ((isF (AV.bin Go.BinOp.lss (AV.sat x0 (ys1217.getD 0 default)) (AV.lit (Value.int Go.IntKind.u8 48)))) →
                  ((AV.binOk Go.BinOp.gtr (AV.sat x0 (ys1217.getD 0 default)) (AV.lit (Value.int Go.IntKind.u8 57))) ∧
                  ((AV.isBool (AV.bin Go.BinOp.lss (AV.sat x0 (ys1217.getD 0 default)) (AV.lit (Value.int Go.IntKind.u8 48)))) ∧
                  ((isF (AV.bin Go.BinOp.lss (AV.sat x0 (ys1217.getD 0 default)) (AV.lit (Value.int Go.IntKind.u8 48)))) ∧
                  ((AV.isBool (AV.bin Go.BinOp.gtr (AV.sat x0 (ys1217.getD 0 default)) (AV.lit (Value.int Go.IntKind.u8 90)))) ∧
                  ((isT (AV.bin Go.BinOp.gtr (AV.sat x0 (ys1217.getD 0 default)) (AV.lit (Value.int Go.IntKind.u8 90)))) ∧
                  ((AV.isBool (AV.bin Go.BinOp.gtr (AV.sat x0 (ys1217.getD 0 default)) (AV.lit (Value.int Go.IntKind.u8 57)))) ∧
                  (((isT (AV.bin Go.BinOp.gtr (AV.sat x0 (ys1217.getD 0 default)) (AV.lit (Value.int Go.IntKind.u8 57)))) →
                    ((AV.flat (AV.bool false)) ∧
                    (fSame (AV.bool false) r))) ∧
                  ((isF (AV.bin Go.BinOp.gtr (AV.sat x0 (ys1217.getD 0 default)) (AV.lit (Value.int Go.IntKind.u8 57)))) →
                    ((AV.binOk Go.BinOp.add (ys1217.getD 0 default) (AV.int 1)) ∧
                    (again1217 [(AV.bin Go.BinOp.add (ys1217.getD 0 default) (AV.int 1))]))))))))))))))) ∧
              ((isF (AV.bin Go.BinOp.gtr (AV.sat x0 (ys1217.getD 0 default)) (AV.lit (Value.int Go.IntKind.u8 90)))) →
                ((AV.isBool (AV.bin Go.BinOp.gtr (AV.sat x0 (ys1217.getD 0 default)) (AV.lit (Value.int Go.IntKind.u8 90)))) ∧
                ((isF (AV.bin Go.BinOp.gtr (AV.sat x0 (ys1217.getD 0 default)) (AV.lit (Value.int Go.IntKind.u8 90)))) ∧
                ((AV.binOk Go.BinOp.add (ys1217.getD 0 default) (AV.int 1)) ∧
                (again1217 [(AV.bin Go.BinOp.add (ys1217.getD 0 default) (AV.int 1))]))))))))))))))))) ∧
          ((isF (AV.bin Go.BinOp.lss (ys1217.getD 0 default) (AV.slen x0))) →
            ((AV.flat (AV.bool true)) ∧
            (fSame (AV.bool true) r))))))))))))))))))) ∧
    ((isF (AV.bin Go.BinOp.geq (AV.sat x0 (AV.int 0)) (AV.lit (Value.int Go.IntKind.u8 48)))) →
      ((AV.isBool (AV.bin Go.BinOp.geq (AV.sat x0 (AV.int 0)) (AV.lit (Value.int Go.IntKind.u8 48)))) ∧
      ((isF (AV.bin Go.BinOp.geq (AV.sat x0 (AV.int 0)) (AV.lit (Value.int Go.IntKind.u8 48)))) ∧
      ((AV.isBool (AV.bin Go.BinOp.gtr (AV.slen x0) (AV.int 8))) ∧
      ((isF (AV.bin Go.BinOp.gtr (AV.slen x0) (AV.int 8))) ∧
      (fLoop 1217 [(AV.int 0)] fun ys1217 again1217 =>
        ((AV.isStr x0) ∧
        ((AV.binOk Go.BinOp.lss (ys1217.getD 0 default) (AV.slen x0)) ∧
        ((AV.isBool (AV.bin Go.BinOp.lss (ys1217.getD 0 default) (AV.slen x0))) ∧
        (((isT (AV.bin Go.BinOp.lss (ys1217.getD 0 default) (AV.slen x0))) →
          ((AV.isStr x0) ∧
          ((AV.sinb x0 (ys1217.getD 0 default)) ∧
          ((AV.binOk Go.BinOp.lss (AV.sat x0 (ys1217.getD 0 default)) (AV.lit (Value.int Go.IntKind.u8 65))) ∧
          ((AV.isBool (AV.bin Go.BinOp.lss (AV.sat x0 (ys1217.getD 0 default)) (AV.lit (Value.int Go.IntKind.u8 65)))) ∧
          (((isT (AV.bin Go.BinOp.lss (AV.sat x0 (ys1217.getD 0 default)) (AV.lit (Value.int Go.IntKind.u8 65)))) →
            ((AV.isBool (AV.bin Go.BinOp.lss (AV.sat x0 (ys1217.getD 0 default)) (AV.lit (Value.int Go.IntKind.u8 65)))) ∧
            ((isT (AV.bin Go.BinOp.lss (AV.sat x0 (ys1217.getD 0 default)) (AV.lit (Value.int Go.IntKind.u8 65)))) ∧
            ((AV.binOk Go.BinOp.lss (AV.sat x0 (ys1217.getD 0 default)) (AV.lit (Value.int Go.IntKind.u8 48))) ∧
            ((AV.isBool (AV.bin Go.BinOp.lss (AV.sat x0 (ys1217.getD 0 default)) (AV.lit (Value.int Go.IntKind.u8 48)))) ∧
            (((isT (AV.bin Go.BinOp.lss (AV.sat x0 (ys1217.getD 0 default)) (AV.lit (Value.int Go.IntKind.u8 48)))) →
              ((AV.isBool (AV.bin Go.BinOp.lss (AV.sat x0 (ys1217.getD 0 default)) (AV.lit (Value.int Go.IntKind.u8 48)))) ∧
              ((isT (AV.bin Go.BinOp.lss (AV.sat x0 (ys1217.getD 0 default)) (AV.lit (Value.int Go.IntKind.u8 48)))) ∧
              ((AV.flat (AV.bool false)) ∧
              (fSame (AV.bool false) r))))) ∧
            ((isF (AV.bin Go.BinOp.lss (AV.sat x0 (ys1217.getD 0 default)) (AV.lit (Value.int Go.IntKind.u8 48)))) →
              ((AV.binOk Go.BinOp.gtr (AV.sat x0 (ys1217.getD 0 default)) (AV.lit (Value.int Go.IntKind.u8 57))) ∧
              ((AV.isBool (AV.bin Go.BinOp.lss (AV.sat x0 (ys1217.getD 0 default)) (AV.lit (Value.int Go.IntKind.u8 48)))) ∧
              ((isF (AV.bin Go.BinOp.lss (AV.sat x0 (ys1217.getD 0 default)) (AV.lit (Value.int Go.IntKind.u8 48)))) ∧
              ((AV.isBool (AV.bin Go.BinOp.gtr (AV.sat x0 (ys1217.getD 0 default)) (AV.lit (Value.int Go.IntKind.u8 57)))) ∧
              (((isT (AV.bin Go.BinOp.gtr (AV.sat x0 (ys1217.getD 0 default)) (AV.lit (Value.int Go.IntKind.u8 57)))) →
                ((AV.flat (AV.bool false)) ∧
                (fSame (AV.bool false) r))) ∧
              ((isF (AV.bin Go.BinOp.gtr (AV.sat x0 (ys1217.getD 0 default)) (AV.lit (Value.int Go.IntKind.u8 57)))) →
                ((AV.binOk Go.BinOp.add (ys1217.getD 0 default) (AV.int 1)) ∧
                (again1217 [(AV.bin Go.BinOp.add (ys1217.getD 0 default) (AV.int 1))]))))))))))))))) ∧
          ((isF (AV.bin Go.BinOp.lss (AV.sat x0 (ys1217.getD 0 default)) (AV.lit (Value.int Go.IntKind.u8 65)))) →
            ((AV.binOk Go.BinOp.gtr (AV.sat x0 (ys1217.getD 0 default)) (AV.lit (Value.int Go.IntKind.u8 90))) ∧
            ((AV.isBool (AV.bin Go.BinOp.lss (AV.sat x0 (ys1217.getD 0 default)) (AV.lit (Value.int Go.IntKind.u8 65)))) ∧
            ((isF (AV.bin Go.BinOp.lss (AV.sat x0 (ys1217.getD 0 default)) (AV.lit (Value.int Go.IntKind.u8 65)))) ∧
            ((AV.isBool (AV.bin Go.BinOp.gtr (AV.sat x0 (ys1217.getD 0 default)) (AV.lit (Value.int Go.IntKind.u8 90)))) ∧
            (((isT (AV.bin Go.BinOp.gtr (AV.sat x0 (ys1217.getD 0 default)) (AV.lit (Value.int Go.IntKind.u8 90)))) →
              ((AV.binOk Go.BinOp.lss (AV.sat x0 (ys1217.getD 0 default)) (AV.lit (Value.int Go.IntKind.u8 48))) ∧
              ((AV.isBool (AV.bin Go.BinOp.lss (AV.sat x0 (ys1217.getD 0 default)) (AV.lit (Value.int Go.IntKind.u8 48)))) ∧
              (((isT (AV.bin Go.BinOp.lss (AV.sat x0 (ys1217.getD 0 default)) (AV.lit (Value.int Go.IntKind.u8 48)))) →
                ((AV.isBool (AV.bin Go.BinOp.lss (AV.sat x0 (ys1217.getD 0 default)) (AV.lit (Value.int Go.IntKind.u8 48)))) ∧
                ((isT (AV.bin Go.BinOp.lss (AV.sat x0 (ys1217.getD 0 default)) (AV.lit (Value.int Go.IntKind.u8 48)))) ∧
                ((AV.isBool (AV.bin Go.BinOp.gtr (AV.sat x0 (ys1217.getD 0 default)) (AV.lit (Value.int Go.IntKind.u8 90)))) ∧
                ((isT (AV.bin Go.BinOp.gtr (AV.sat x0 (ys1217.getD 0 default)) (AV.lit (Value.int Go.IntKind.u8 90)))) ∧
                ((AV.flat (AV.bool false)) ∧
                (fSame (AV.bool false) r))))))) ∧
              ((isF (AV.bin Go.BinOp.lss (AV.sat x0 (ys1217.getD 0 default)) (AV.lit (Value.int Go.IntKind.u8 48)))) →
                ((AV.binOk Go.BinOp.gtr (AV.sat x0 (ys1217.getD 0 default)) (AV.lit (Value.int Go.IntKind.u8 57))) ∧
                ((AV.isBool (AV.bin Go.BinOp.lss (AV.sat x0 (ys1217.getD 0 default)) (AV.lit (Value.int Go.IntKind.u8 48)))) ∧
                ((isF (AV.bin Go.BinOp.lss (AV.sat x0 (ys1217.getD 0 default)) (AV.lit (Value.int Go.IntKind.u8 48)))) ∧
                ((AV.isBool (AV.bin Go.BinOp.gtr (AV.sat x0 (ys1217.getD 0 default)) (AV.lit (Value.int Go.IntKind.u8 90)))) ∧
                ((isT (AV.bin Go.BinOp.gtr (AV.sat x0 (ys1217.getD 0 default)) (AV.lit (Value.int Go.IntKind.u8 90)))) ∧
                ((AV.isBool (AV.bin Go.BinOp.gtr (AV.sat x0 (ys1217.getD 0 default)) (AV.lit (Value.int Go.IntKind.u8 57)))) ∧
                (((isT (AV.bin Go.BinOp.gtr (AV.sat x0 (ys1217.getD 0 default)) (AV.lit (Value.int Go.IntKind.u8 57)))) →
                  ((AV.flat (AV.bool false)) ∧
                  (fSame (AV.bool false) r))) ∧
                ((isF (AV.bin Go.BinOp.gtr (AV.sat x0 (ys1217.getD 0 default)) (AV.lit (Value.int Go.IntKind.u8 57)))) →
                  ((AV.binOk Go.BinOp.add (ys1217.getD 0 default) (AV.int 1)) ∧
                  (again1217 [(AV.bin Go.BinOp.add (ys1217.getD 0 default) (AV.int 1))]))))))))))))))) ∧
            ((isF (AV.bin Go.BinOp.gtr (AV.sat x0 (ys1217.getD 0 default)) (AV.lit (Value.int Go.IntKind.u8 90)))) →
              ((AV.isBool (AV.bin Go.BinOp.gtr (AV.sat x0 (ys1217.getD 0 default)) (AV.lit (Value.int Go.IntKind.u8 90)))) ∧
              ((isF (AV.bin Go.BinOp.gtr (AV.sat x0 (ys1217.getD 0 default)) (AV.lit (Value.int Go.IntKind.u8 90)))) ∧
              ((AV.binOk Go.BinOp.add (ys1217.getD 0 default) (AV.int 1)) ∧
              (again1217 [(AV.bin Go.BinOp.add (ys1217.getD 0 default) (AV.int 1))]))))))))))))))))) ∧
        ((isF (AV.bin Go.BinOp.lss (ys1217.getD 0 default) (AV.slen x0))) →
          ((AV.flat (AV.bool true)) ∧
          (fSame (AV.bool true) r)))))))))))))))))))))))))))))) := by kernel_rfl
end NameF
end Go.Proofs.Ytfdpbfdhcngfgaa
