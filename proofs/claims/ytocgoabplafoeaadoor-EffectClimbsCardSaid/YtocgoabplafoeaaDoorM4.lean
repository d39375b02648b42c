/- Texts of one proof, part 4: plain values, a run over them, contracts of functions. -/
import Derived.Test.YtocgoabplafoeaaDoorM3
/- Names: what the run ends in. -/
namespace Go.Proofs.YtocgoabplafoeaaDoor
open Go.RowKit
set_option linter.unusedVariables false
set_option maxRecDepth 100000
namespace NameF
--GAMMA
def Γ : FuncId → Option Ca := fun _ => none
def ann : FuncId → Nat → LoopEx := fun _ _ => ⟨[], [], [], []⟩
--END GAMMA
theorem name_form (x0 r : AV) : fnF Tryd.prog Γ ann 0 40 Tryd.f40 (Tryd.f40.body.getD .skip) (.nil) [x0] (.sc) r = (((AV.isStr x0) ∧
((AV.binOk Go.BinOp.lss (AV.slen x0) (AV.int 1)) ∧
((AV.isBool (AV.bin Go.BinOp.lss (AV.slen x0) (AV.int 1))) ∧
(((isT (AV.bin Go.BinOp.lss (AV.slen x0) (AV.int 1))) →
  ((AV.isBool (AV.bin Go.BinOp.lss (AV.slen x0) (AV.int 1))) ∧
  ((isT (AV.bin Go.BinOp.lss (AV.slen x0) (AV.int 1))) ∧
  ((AV.flat (AV.bool false)) ∧
  (fSame (AV.bool false) r))))) ∧
((isF (AV.bin Go.BinOp.lss (AV.slen x0) (AV.int 1))) →
  ((AV.isStr x0) ∧
  ((AV.binOk Go.BinOp.gtr (AV.slen x0) (AV.int 8)) ∧
  ((AV.isBool (AV.bin Go.BinOp.lss (AV.slen x0) (AV.int 1))) ∧
  ((isF (AV.bin Go.BinOp.lss (AV.slen x0) (AV.int 1))) ∧
  ((AV.isBool (AV.bin Go.BinOp.gtr (AV.slen x0) (AV.int 8))) ∧
  (((isT (AV.bin Go.BinOp.gtr (AV.slen x0) (AV.int 8))) →
    ((AV.flat (AV.bool false)) ∧
    (fSame (AV.bool false) r))) ∧
  ((isF (AV.bin Go.BinOp.gtr (AV.slen x0) (AV.int 8))) →
    ((AV.isStr x0) ∧
    ((AV.bytesOk x0) ∧
    ((AV.isSl (AV.bytes x0) 1) ∧
    (fLoop 833 [(AV.int 0)] fun ys833 again833 =>
      ((AV.binOk Go.BinOp.lss (ys833.getD 0 default) (AV.len (AV.bytes x0))) ∧
      ((AV.isBool (AV.bin Go.BinOp.lss (ys833.getD 0 default) (AV.len (AV.bytes x0)))) ∧
      (((isT (AV.bin Go.BinOp.lss (ys833.getD 0 default) (AV.len (AV.bytes x0)))) →
        ((AV.isSl (AV.bytes x0) 1) ∧
        ((AV.inb (AV.bytes x0) (ys833.getD 0 default)) ∧
        ((AV.binOk Go.BinOp.geq (AV.at (AV.bytes x0) (ys833.getD 0 default) 0) (AV.lit (Value.int Go.IntKind.u8 65))) ∧
        ((AV.isBool (AV.bin Go.BinOp.geq (AV.at (AV.bytes x0) (ys833.getD 0 default) 0) (AV.lit (Value.int Go.IntKind.u8 65)))) ∧
        (((isT (AV.bin Go.BinOp.geq (AV.at (AV.bytes x0) (ys833.getD 0 default) 0) (AV.lit (Value.int Go.IntKind.u8 65)))) →
          ((AV.binOk Go.BinOp.leq (AV.at (AV.bytes x0) (ys833.getD 0 default) 0) (AV.lit (Value.int Go.IntKind.u8 90))) ∧
          ((AV.isBool (AV.bin Go.BinOp.geq (AV.at (AV.bytes x0) (ys833.getD 0 default) 0) (AV.lit (Value.int Go.IntKind.u8 65)))) ∧
          ((isT (AV.bin Go.BinOp.geq (AV.at (AV.bytes x0) (ys833.getD 0 default) 0) (AV.lit (Value.int Go.IntKind.u8 65)))) ∧
          ((AV.isBool (AV.bin Go.BinOp.leq (AV.at (AV.bytes x0) (ys833.getD 0 default) 0) (AV.lit (Value.int Go.IntKind.u8 90)))) ∧
          (((isT (AV.bin Go.BinOp.leq (AV.at (AV.bytes x0) (ys833.getD 0 default) 0) (AV.lit (Value.int Go.IntKind.u8 90)))) →
            ((AV.isBool (AV.bin Go.BinOp.leq (AV.at (AV.bytes x0) (ys833.getD 0 default) 0) (AV.lit (Value.int Go.IntKind.u8 90)))) ∧
            ((isT (AV.bin Go.BinOp.leq (AV.at (AV.bytes x0) (ys833.getD 0 default) 0) (AV.lit (Value.int Go.IntKind.u8 90)))) ∧
            ((AV.binOk Go.BinOp.add (ys833.getD 0 default) (AV.int 1)) ∧
            (again833 [(AV.bin Go.BinOp.add (ys833.getD 0 default) (AV.int 1))]))))) ∧
          ((isF (AV.bin Go.BinOp.leq (AV.at (AV.bytes x0) (ys833.getD 0 default) 0) (AV.lit (Value.int Go.IntKind.u8 90)))) →
            ((AV.binOk Go.BinOp.gtr (ys833.getD 0 default) (AV.int 0)) ∧
            ((AV.isBool (AV.bin Go.BinOp.gtr (ys833.getD 0 default) (AV.int 0))) ∧
            (((isT (AV.bin Go.BinOp.gtr (ys833.getD 0 default) (AV.int 0))) →
              ((AV.binOk Go.BinOp.geq (AV.at (AV.bytes x0) (ys833.getD 0 default) 0) (AV.lit (Value.int Go.IntKind.u8 48))) ∧
              ((AV.isBool (AV.bin Go.BinOp.gtr (ys833.getD 0 default) (AV.int 0))) ∧
              ((isT (AV.bin Go.BinOp.gtr (ys833.getD 0 default) (AV.int 0))) ∧
              ((AV.isBool (AV.bin Go.BinOp.geq (AV.at (AV.bytes x0) (ys833.getD 0 default) 0) (AV.lit (Value.int Go.IntKind.u8 48)))) ∧
              (((isT (AV.bin Go.BinOp.geq (AV.at (AV.bytes x0) (ys833.getD 0 default) 0) (AV.lit (Value.int Go.IntKind.u8 48)))) →
                ((AV.binOk Go.BinOp.leq (AV.at (AV.bytes x0) (ys833.getD 0 default) 0) (AV.lit (Value.int Go.IntKind.u8 57))) ∧
                ((AV.isBool (AV.bin Go.BinOp.geq (AV.at (AV.bytes x0) (ys833.getD 0 default) 0) (AV.lit (Value.int Go.IntKind.u8 48)))) ∧
                ((isT (AV.bin Go.BinOp.geq (AV.at (AV.bytes x0) (ys833.getD 0 default) 0) (AV.lit (Value.int Go.IntKind.u8 48)))) ∧
                ((AV.isBool (AV.bin Go.BinOp.leq (AV.at (AV.bytes x0) (ys833.getD 0 default) 0) (AV.lit (Value.int Go.IntKind.u8 90)))) ∧
                ((isF (AV.bin Go.BinOp.leq (AV.at (AV.bytes x0) (ys833.getD 0 default) 0) (AV.lit (Value.int Go.IntKind.u8 90)))) ∧
                ((AV.unOk Go.UnOp.not (AV.bin Go.BinOp.leq (AV.at (AV.bytes x0) (ys833.getD 0 default) 0) (AV.lit (Value.int Go.IntKind.u8 57)))) ∧
                ((AV.isBool (AV.un Go.UnOp.not (AV.bin Go.BinOp.leq (AV.at (AV.bytes x0) (ys833.getD 0 default) 0) (AV.lit (Value.int Go.IntKind.u8 57))))) ∧
                (((isT (AV.un Go.UnOp.not (AV.bin Go.BinOp.leq (AV.at (AV.bytes x0) (ys833.getD 0 default) 0) (AV.lit (Value.int Go.IntKind.u8 57))))) →
                  ((AV.flat (AV.bool false)) ∧
                  (fSame (AV.bool false) r))) ∧
                ((isF (AV.un Go.UnOp.not (AV.bin Go.BinOp.leq (AV.at (AV.bytes x0) (ys833.getD 0 default) 0) (AV.lit (Value.int Go.IntKind.u8 57))))) →
                  ((AV.binOk Go.BinOp.add (ys833.getD 0 default) (AV.int 1)) ∧
                  (again833 [(AV.bin Go.BinOp.add (ys833.getD 0 default) (AV.int 1))])))))))))))) ∧
              ((isF (AV.bin Go.BinOp.geq (AV.at (AV.bytes x0) (ys833.getD 0 default) 0) (AV.lit (Value.int Go.IntKind.u8 48)))) →
                ((AV.isBool (AV.bin Go.BinOp.geq (AV.at (AV.bytes x0) (ys833.getD 0 default) 0) (AV.lit (Value.int Go.IntKind.u8 48)))) ∧
                ((isF (AV.bin Go.BinOp.geq (AV.at (AV.bytes x0) (ys833.getD 0 default) 0) (AV.lit (Value.int Go.IntKind.u8 48)))) ∧
                ((AV.isBool (AV.bin Go.BinOp.leq (AV.at (AV.bytes x0) (ys833.getD 0 default) 0) (AV.lit (Value.int Go.IntKind.u8 90)))) ∧
                ((isF (AV.bin Go.BinOp.leq (AV.at (AV.bytes x0) (ys833.getD 0 default) 0) (AV.lit (Value.int Go.IntKind.u8 90)))) ∧
                ((AV.flat (AV.bool false)) ∧
                (fSame (AV.bool false) r))))))))))))) ∧
            ((isF (AV.bin Go.BinOp.gtr (ys833.getD 0 default) (AV.int 0))) →
              ((AV.isBool (AV.bin Go.BinOp.gtr (ys833.getD 0 default) (AV.int 0))) ∧
              ((isF (AV.bin Go.BinOp.gtr (ys833.getD 0 default) (AV.int 0))) ∧
              ((AV.isBool (AV.bin Go.BinOp.leq (AV.at (AV.bytes x0) (ys833.getD 0 default) 0) (AV.lit (Value.int Go.IntKind.u8 90)))) ∧
              ((isF (AV.bin Go.BinOp.leq (AV.at (AV.bytes x0) (ys833.getD 0 default) 0) (AV.lit (Value.int Go.IntKind.u8 90)))) ∧
              ((AV.flat (AV.bool false)) ∧
              (fSame (AV.bool false) r))))))))))))))))) ∧
        ((isF (AV.bin Go.BinOp.geq (AV.at (AV.bytes x0) (ys833.getD 0 default) 0) (AV.lit (Value.int Go.IntKind.u8 65)))) →
          ((AV.isBool (AV.bin Go.BinOp.geq (AV.at (AV.bytes x0) (ys833.getD 0 default) 0) (AV.lit (Value.int Go.IntKind.u8 65)))) ∧
          ((isF (AV.bin Go.BinOp.geq (AV.at (AV.bytes x0) (ys833.getD 0 default) 0) (AV.lit (Value.int Go.IntKind.u8 65)))) ∧
          ((AV.binOk Go.BinOp.gtr (ys833.getD 0 default) (AV.int 0)) ∧
          ((AV.isBool (AV.bin Go.BinOp.gtr (ys833.getD 0 default) (AV.int 0))) ∧
          (((isT (AV.bin Go.BinOp.gtr (ys833.getD 0 default) (AV.int 0))) →
            ((AV.binOk Go.BinOp.geq (AV.at (AV.bytes x0) (ys833.getD 0 default) 0) (AV.lit (Value.int Go.IntKind.u8 48))) ∧
            ((AV.isBool (AV.bin Go.BinOp.gtr (ys833.getD 0 default) (AV.int 0))) ∧
            ((isT (AV.bin Go.BinOp.gtr (ys833.getD 0 default) (AV.int 0))) ∧
            ((AV.isBool (AV.bin Go.BinOp.geq (AV.at (AV.bytes x0) (ys833.getD 0 default) 0) (AV.lit (Value.int Go.IntKind.u8 48)))) ∧
            (((isT (AV.bin Go.BinOp.geq (AV.at (AV.bytes x0) (ys833.getD 0 default) 0) (AV.lit (Value.int Go.IntKind.u8 48)))) →
              ((AV.binOk Go.BinOp.leq (AV.at (AV.bytes x0) (ys833.getD 0 default) 0) (AV.lit (Value.int Go.IntKind.u8 57))) ∧
              ((AV.isBool (AV.bin Go.BinOp.geq (AV.at (AV.bytes x0) (ys833.getD 0 default) 0) (AV.lit (Value.int Go.IntKind.u8 48)))) ∧
              ((isT (AV.bin Go.BinOp.geq (AV.at (AV.bytes x0) (ys833.getD 0 default) 0) (AV.lit (Value.int Go.IntKind.u8 48)))) ∧
              ((AV.unOk Go.UnOp.not (AV.bin Go.BinOp.leq (AV.at (AV.bytes x0) (ys833.getD 0 default) 0) (AV.lit (Value.int Go.IntKind.u8 57)))) ∧
              ((AV.isBool (AV.un Go.UnOp.not (AV.bin Go.BinOp.leq (AV.at (AV.bytes x0) (ys833.getD 0 default) 0) (AV.lit (Value.int Go.IntKind.u8 57))))) ∧
              (((isT (AV.un Go.UnOp.not (AV.bin Go.BinOp.leq (AV.at (AV.bytes x0) (ys833.getD 0 default) 0) (AV.lit (Value.int Go.IntKind.u8 57))))) →
                ((AV.flat (AV.bool false)) ∧
                (fSame (AV.bool false) r))) ∧
              ((isF (AV.un Go.UnOp.not (AV.bin Go.BinOp.leq (AV.at (AV.bytes x0) (ys833.getD 0 default) 0) (AV.lit (Value.int Go.IntKind.u8 57))))) →
                ((AV.binOk Go.BinOp.add (ys833.getD 0 default) (AV.int 1)) ∧
                (again833 [(AV.bin Go.BinOp.add (ys833.getD 0 default) (AV.int 1))])))))))))) ∧
            ((isF (AV.bin Go.BinOp.geq (AV.at (AV.bytes x0) (ys833.getD 0 default) 0) (AV.lit (Value.int Go.IntKind.u8 48)))) →
              ((AV.isBool (AV.bin Go.BinOp.geq (AV.at (AV.bytes x0) (ys833.getD 0 default) 0) (AV.lit (Value.int Go.IntKind.u8 48)))) ∧
              ((isF (AV.bin Go.BinOp.geq (AV.at (AV.bytes x0) (ys833.getD 0 default) 0) (AV.lit (Value.int Go.IntKind.u8 48)))) ∧
              ((AV.flat (AV.bool false)) ∧
              (fSame (AV.bool false) r))))))))))) ∧
          ((isF (AV.bin Go.BinOp.gtr (ys833.getD 0 default) (AV.int 0))) →
            ((AV.isBool (AV.bin Go.BinOp.gtr (ys833.getD 0 default) (AV.int 0))) ∧
            ((isF (AV.bin Go.BinOp.gtr (ys833.getD 0 default) (AV.int 0))) ∧
            ((AV.flat (AV.bool false)) ∧
            (fSame (AV.bool false) r))))))))))))))))) ∧
      ((isF (AV.bin Go.BinOp.lss (ys833.getD 0 default) (AV.len (AV.bytes x0)))) →
        ((AV.flat (AV.bool true)) ∧
        (fSame (AV.bool true) r))))))))))))))))))))))) := by kernel_rfl
theorem isname_form (x0 r : AV) : fnF Tryd.prog Γ ann 0 67 Tryd.f67 (Tryd.f67.body.getD .skip) (.nil) [x0] (.sc) r = (((AV.binOk Go.BinOp.eql x0 (AV.lit (Value.string ⟨#[]⟩))) ∧
((AV.isBool (AV.bin Go.BinOp.eql x0 (AV.lit (Value.string ⟨#[]⟩)))) ∧
(((isT (AV.bin Go.BinOp.eql x0 (AV.lit (Value.string ⟨#[]⟩)))) →
  ((AV.isBool (AV.bin Go.BinOp.eql x0 (AV.lit (Value.string ⟨#[]⟩)))) ∧
  ((isT (AV.bin Go.BinOp.eql x0 (AV.lit (Value.string ⟨#[]⟩)))) ∧
  ((AV.flat (AV.bool false)) ∧
  (fSame (AV.bool false) r))))) ∧
((isF (AV.bin Go.BinOp.eql x0 (AV.lit (Value.string ⟨#[]⟩)))) →
  ((AV.isStr x0) ∧
  ((AV.binOk Go.BinOp.gtr (AV.slen x0) (AV.int 8)) ∧
  ((AV.isBool (AV.bin Go.BinOp.eql x0 (AV.lit (Value.string ⟨#[]⟩)))) ∧
  ((isF (AV.bin Go.BinOp.eql x0 (AV.lit (Value.string ⟨#[]⟩)))) ∧
  ((AV.isBool (AV.bin Go.BinOp.gtr (AV.slen x0) (AV.int 8))) ∧
  (((isT (AV.bin Go.BinOp.gtr (AV.slen x0) (AV.int 8))) →
    ((AV.isBool (AV.bin Go.BinOp.gtr (AV.slen x0) (AV.int 8))) ∧
    ((isT (AV.bin Go.BinOp.gtr (AV.slen x0) (AV.int 8))) ∧
    ((AV.flat (AV.bool false)) ∧
    (fSame (AV.bool false) r))))) ∧
  ((isF (AV.bin Go.BinOp.gtr (AV.slen x0) (AV.int 8))) →
    ((AV.isStr x0) ∧
    ((AV.sinb x0 (AV.int 0)) ∧
    ((AV.binOk Go.BinOp.geq (AV.sat x0 (AV.int 0)) (AV.lit (Value.int Go.IntKind.u8 48))) ∧
    ((AV.isBool (AV.bin Go.BinOp.geq (AV.sat x0 (AV.int 0)) (AV.lit (Value.int Go.IntKind.u8 48)))) ∧
    (((isT (AV.bin Go.BinOp.geq (AV.sat x0 (AV.int 0)) (AV.lit (Value.int Go.IntKind.u8 48)))) →
      ((AV.isStr x0) ∧
      ((AV.sinb x0 (AV.int 0)) ∧
      ((AV.binOk Go.BinOp.leq (AV.sat x0 (AV.int 0)) (AV.lit (Value.int Go.IntKind.u8 57))) ∧
      ((AV.isBool (AV.bin Go.BinOp.geq (AV.sat x0 (AV.int 0)) (AV.lit (Value.int Go.IntKind.u8 48)))) ∧
      ((isT (AV.bin Go.BinOp.geq (AV.sat x0 (AV.int 0)) (AV.lit (Value.int Go.IntKind.u8 48)))) ∧
      ((AV.isBool (AV.bin Go.BinOp.gtr (AV.slen x0) (AV.int 8))) ∧
      ((isF (AV.bin Go.BinOp.gtr (AV.slen x0) (AV.int 8))) ∧
      ((AV.isBool (AV.bin Go.BinOp.leq (AV.sat x0 (AV.int 0)) (AV.lit (Value.int Go.IntKind.u8 57)))) ∧
      (((isT (AV.bin Go.BinOp.leq (AV.sat x0 (AV.int 0)) (AV.lit (Value.int Go.IntKind.u8 57)))) →
        ((AV.flat (AV.bool false)) ∧
        (fSame (AV.bool false) r))) ∧
      ((isF (AV.bin Go.BinOp.leq (AV.sat x0 (AV.int 0)) (AV.lit (Value.int Go.IntKind.u8 57)))) →
        (fLoop 1217 [(AV.int 0)] fun ys1217 again1217 =>
          ((AV.isStr x0) ∧
          ((AV.binOk Go.BinOp.lss (ys1217.getD 0 default) (AV.slen x0)) ∧
          ((AV.isBool (AV.bin Go.BinOp.lss (ys1217.getD 0 default) (AV.slen x0))) ∧
          (((isT (AV.bin Go.BinOp.lss (ys1217.getD 0 default) (AV.slen x0))) →
            ((AV.isStr x0) ∧
            ((AV.sinb x0 (ys1217.getD 0 default)) ∧
            ((AV.binOk Go.BinOp.lss (AV.sat x0 (ys1217.getD 0 default)) (AV.lit (Value.int Go.IntKind.u8 65))) ∧
            ((AV.isBool (AV.bin Go.BinOp.lss (AV.sat x0 (ys1217.getD 0 default)) (AV.lit (Value.int Go.IntKind.u8 65)))) ∧
            (((isT (AV.bin Go.BinOp.lss (AV.sat x0 (ys1217.getD 0 default)) (AV.lit (Value.int Go.IntKind.u8 65)))) →
              ((AV.isBool (AV.bin Go.BinOp.lss (AV.sat x0 (ys1217.getD 0 default)) (AV.lit (Value.int Go.IntKind.u8 65)))) ∧
              ((isT (AV.bin Go.BinOp.lss (AV.sat x0 (ys1217.getD 0 default)) (AV.lit (Value.int Go.IntKind.u8 65)))) ∧
              ((AV.binOk Go.BinOp.lss (AV.sat x0 (ys1217.getD 0 default)) (AV.lit (Value.int Go.IntKind.u8 48))) ∧
              ((AV.isBool (AV.bin Go.BinOp.lss (AV.sat x0 (ys1217.getD 0 default)) (AV.lit (Value.int Go.IntKind.u8 48)))) ∧
              (((isT (AV.bin Go.BinOp.lss (AV.sat x0 (ys1217.getD 0 default)) (AV.lit (Value.int Go.IntKind.u8 48)))) →
                ((AV.isBool (AV.bin Go.BinOp.lss (AV.sat x0 (ys1217.getD 0 default)) (AV.lit (Value.int Go.IntKind.u8 48)))) ∧
                ((isT (AV.bin Go.BinOp.lss (AV.sat x0 (ys1217.getD 0 default)) (AV.lit (Value.int Go.IntKind.u8 48)))) ∧
                ((AV.flat (AV.bool false)) ∧
                (fSame (AV.bool false) r))))) ∧
              ((isF (AV.bin Go.BinOp.lss (AV.sat x0 (ys1217.getD 0 default)) (AV.lit (Value.int Go.IntKind.u8 48)))) →
                ((AV.binOk Go.BinOp.gtr (AV.sat x0 (ys1217.getD 0 default)) (AV.lit (Value.int Go.IntKind.u8 57))) ∧
                ((AV.isBool (AV.bin Go.BinOp.lss (AV.sat x0 (ys1217.getD 0 default)) (AV.lit (Value.int Go.IntKind.u8 48)))) ∧
                ((isF (AV.bin Go.BinOp.lss (AV.sat x0 (ys1217.getD 0 default)) (AV.lit (Value.int Go.IntKind.u8 48)))) ∧
                ((AV.isBool (AV.bin Go.BinOp.gtr (AV.sat x0 (ys1217.getD 0 default)) (AV.lit (Value.int Go.IntKind.u8 57)))) ∧
                (((isT (AV.bin Go.BinOp.gtr (AV.sat x0 (ys1217.getD 0 default)) (AV.lit (Value.int Go.IntKind.u8 57)))) →
                  ((AV.flat (AV.bool false)) ∧
                  (fSame (AV.bool false) r))) ∧
                ((isF (AV.bin Go.BinOp.gtr (AV.sat x0 (ys1217.getD 0 default)) (AV.lit (Value.int Go.IntKind.u8 57)))) →
                  ((AV.binOk Go.BinOp.add (ys1217.getD 0 default) (AV.int 1)) ∧
                  (again1217 [(AV.bin Go.BinOp.add (ys1217.getD 0 default) (AV.int 1))]))))))))))))))) ∧
            ((isF (AV.bin Go.BinOp.lss (AV.sat x0 (ys1217.getD 0 default)) (AV.lit (Value.int Go.IntKind.u8 65)))) →
              ((AV.binOk Go.BinOp.gtr (AV.sat x0 (ys1217.getD 0 default)) (AV.lit (Value.int Go.IntKind.u8 90))) ∧
              ((AV.isBool (AV.bin Go.BinOp.lss (AV.sat x0 (ys1217.getD 0 default)) (AV.lit (Value.int Go.IntKind.u8 65)))) ∧
              ((isF (AV.bin Go.BinOp.lss (AV.sat x0 (ys1217.getD 0 default)) (AV.lit (Value.int Go.IntKind.u8 65)))) ∧
              ((AV.isBool (AV.bin Go.BinOp.gtr (AV.sat x0 (ys1217.getD 0 default)) (AV.lit (Value.int Go.IntKind.u8 90)))) ∧
              (((isT (AV.bin Go.BinOp.gtr (AV.sat x0 (ys1217.getD 0 default)) (AV.lit (Value.int Go.IntKind.u8 90)))) →
                ((AV.binOk Go.BinOp.lss (AV.sat x0 (ys1217.getD 0 default)) (AV.lit (Value.int Go.IntKind.u8 48))) ∧
                ((AV.isBool (AV.bin Go.BinOp.lss (AV.sat x0 (ys1217.getD 0 default)) (AV.lit (Value.int Go.IntKind.u8 48)))) ∧
                (((isT (AV.bin Go.BinOp.lss (AV.sat x0 (ys1217.getD 0 default)) (AV.lit (Value.int Go.IntKind.u8 48)))) →
                  ((AV.isBool (AV.bin Go.BinOp.lss (AV.sat x0 (ys1217.getD 0 default)) (AV.lit (Value.int Go.IntKind.u8 48)))) ∧
                  ((isT (AV.bin Go.BinOp.lss (AV.sat x0 (ys1217.getD 0 default)) (AV.lit (Value.int Go.IntKind.u8 48)))) ∧
                  ((AV.isBool (AV.bin Go.BinOp.gtr (AV.sat x0 (ys1217.getD 0 default)) (AV.lit (Value.int Go.IntKind.u8 90)))) ∧
                  ((isT (AV.bin Go.BinOp.gtr (AV.sat x0 (ys1217.getD 0 default)) (AV.lit (Value.int Go.IntKind.u8 90)))) ∧
                  ((AV.flat (AV.bool false)) ∧
                  (fSame (AV.bool false) r))))))) ∧
                ((isF (AV.bin Go.BinOp.lss (AV.sat x0 (ys1217.getD 0 default)) (AV.lit (Value.int Go.IntKind.u8 48)))) →
                  ((AV.binOk Go.BinOp.gtr (AV.sat x0 (ys1217.getD 0 default)) (AV.lit (Value.int Go.IntKind.u8 57))) ∧
                  ((AV.isBool (AV.bin Go.BinOp.lss (AV.sat x0 (ys1217.getD 0 default)) (AV.lit (Value.int Go.IntKind.u8 48)))) ∧
                  ((isF (AV.bin Go.BinOp.lss (AV.sat x0 (ys1217.getD 0 default)) (AV.lit (Value.int Go.IntKind.u8 48)))) ∧
                  ((AV.isBool (AV.bin Go.BinOp.gtr (AV.sat x0 (ys1217.getD 0 default)) (AV.lit (Value.int Go.IntKind.u8 90)))) ∧
                  ((isT (AV.bin Go.BinOp.gtr (AV.sat x0 (ys1217.getD 0 default)) (AV.lit (Value.int Go.IntKind.u8 90)))) ∧
                  ((AV.isBool (AV.bin Go.BinOp.gtr (AV.sat x0 (ys1217.getD 0 default)) (AV.lit (Value.int Go.IntKind.u8 57)))) ∧
                  (((isT (AV.bin Go.BinOp.gtr (AV.sat x0 (ys1217.getD 0 default)) (AV.lit (Value.int Go.IntKind.u8 57)))) →
                    ((AV.flat (AV.bool false)) ∧
                    (fSame (AV.bool false) r))) ∧
                  ((isF (AV.bin Go.BinOp.gtr (AV.sat x0 (ys1217.getD 0 default)) (AV.lit (Value.int Go.IntKind.u8 57)))) →
                    ((AV.binOk Go.BinOp.add (ys1217.getD 0 default) (AV.int 1)) ∧
                    (again1217 [(AV.bin Go.BinOp.add (ys1217.getD 0 default) (AV.int 1))]))))))))))))))) ∧
              ((isF (AV.bin Go.BinOp.gtr (AV.sat x0 (ys1217.getD 0 default)) (AV.lit (Value.int Go.IntKind.u8 90)))) →
                ((AV.isBool (AV.bin Go.BinOp.gtr (AV.sat x0 (ys1217.getD 0 default)) (AV.lit (Value.int Go.IntKind.u8 90)))) ∧
                ((isF (AV.bin Go.BinOp.gtr (AV.sat x0 (ys1217.getD 0 default)) (AV.lit (Value.int Go.IntKind.u8 90)))) ∧
                ((AV.binOk Go.BinOp.add (ys1217.getD 0 default) (AV.int 1)) ∧
                (again1217 [(AV.bin Go.BinOp.add (ys1217.getD 0 default) (AV.int 1))]))))))))))))))))) ∧
          ((isF (AV.bin Go.BinOp.lss (ys1217.getD 0 default) (AV.slen x0))) →
            ((AV.flat (AV.bool true)) ∧
            (fSame (AV.bool true) r))))))))))))))))))) ∧
    ((isF (AV.bin Go.BinOp.geq (AV.sat x0 (AV.int 0)) (AV.lit (Value.int Go.IntKind.u8 48)))) →
      ((AV.isBool (AV.bin Go.BinOp.geq (AV.sat x0 (AV.int 0)) (AV.lit (Value.int Go.IntKind.u8 48)))) ∧
      ((isF (AV.bin Go.BinOp.geq (AV.sat x0 (AV.int 0)) (AV.lit (Value.int Go.IntKind.u8 48)))) ∧
      ((AV.isBool (AV.bin Go.BinOp.gtr (AV.slen x0) (AV.int 8))) ∧
      ((isF (AV.bin Go.BinOp.gtr (AV.slen x0) (AV.int 8))) ∧
      (fLoop 1217 [(AV.int 0)] fun ys1217 again1217 =>
        ((AV.isStr x0) ∧
        ((AV.binOk Go.BinOp.lss (ys1217.getD 0 default) (AV.slen x0)) ∧
        ((AV.isBool (AV.bin Go.BinOp.lss (ys1217.getD 0 default) (AV.slen x0))) ∧
        (((isT (AV.bin Go.BinOp.lss (ys1217.getD 0 default) (AV.slen x0))) →
          ((AV.isStr x0) ∧
          ((AV.sinb x0 (ys1217.getD 0 default)) ∧
          ((AV.binOk Go.BinOp.lss (AV.sat x0 (ys1217.getD 0 default)) (AV.lit (Value.int Go.IntKind.u8 65))) ∧
          ((AV.isBool (AV.bin Go.BinOp.lss (AV.sat x0 (ys1217.getD 0 default)) (AV.lit (Value.int Go.IntKind.u8 65)))) ∧
          (((isT (AV.bin Go.BinOp.lss (AV.sat x0 (ys1217.getD 0 default)) (AV.lit (Value.int Go.IntKind.u8 65)))) →
            ((AV.isBool (AV.bin Go.BinOp.lss (AV.sat x0 (ys1217.getD 0 default)) (AV.lit (Value.int Go.IntKind.u8 65)))) ∧
            ((isT (AV.bin Go.BinOp.lss (AV.sat x0 (ys1217.getD 0 default)) (AV.lit (Value.int Go.IntKind.u8 65)))) ∧
            ((AV.binOk Go.BinOp.lss (AV.sat x0 (ys1217.getD 0 default)) (AV.lit (Value.int Go.IntKind.u8 48))) ∧
            ((AV.isBool (AV.bin Go.BinOp.lss (AV.sat x0 (ys1217.getD 0 default)) (AV.lit (Value.int Go.IntKind.u8 48)))) ∧
            (((isT (AV.bin Go.BinOp.lss (AV.sat x0 (ys1217.getD 0 default)) (AV.lit (Value.int Go.IntKind.u8 48)))) →
              ((AV.isBool (AV.bin Go.BinOp.lss (AV.sat x0 (ys1217.getD 0 default)) (AV.lit (Value.int Go.IntKind.u8 48)))) ∧
              ((isT (AV.bin Go.BinOp.lss (AV.sat x0 (ys1217.getD 0 default)) (AV.lit (Value.int Go.IntKind.u8 48)))) ∧
              ((AV.flat (AV.bool false)) ∧
              (fSame (AV.bool false) r))))) ∧
            ((isF (AV.bin Go.BinOp.lss (AV.sat x0 (ys1217.getD 0 default)) (AV.lit (Value.int Go.IntKind.u8 48)))) →
              ((AV.binOk Go.BinOp.gtr (AV.sat x0 (ys1217.getD 0 default)) (AV.lit (Value.int Go.IntKind.u8 57))) ∧
              ((AV.isBool (AV.bin Go.BinOp.lss (AV.sat x0 (ys1217.getD 0 default)) (AV.lit (Value.int Go.IntKind.u8 48)))) ∧
              ((isF (AV.bin Go.BinOp.lss (AV.sat x0 (ys1217.getD 0 default)) (AV.lit (Value.int Go.IntKind.u8 48)))) ∧
              ((AV.isBool (AV.bin Go.BinOp.gtr (AV.sat x0 (ys1217.getD 0 default)) (AV.lit (Value.int Go.IntKind.u8 57)))) ∧
              (((isT (AV.bin Go.BinOp.gtr (AV.sat x0 (ys1217.getD 0 default)) (AV.lit (Value.int Go.IntKind.u8 57)))) →
                ((AV.flat (AV.bool false)) ∧
                (fSame (AV.bool false) r))) ∧
              ((isF (AV.bin Go.BinOp.gtr (AV.sat x0 (ys1217.getD 0 default)) (AV.lit (Value.int Go.IntKind.u8 57)))) →
                ((AV.binOk Go.BinOp.add (ys1217.getD 0 default) (AV.int 1)) ∧
                (again1217 [(AV.bin Go.BinOp.add (ys1217.getD 0 default) (AV.int 1))]))))))))))))))) ∧
          ((isF (AV.bin Go.BinOp.lss (AV.sat x0 (ys1217.getD 0 default)) (AV.lit (Value.int Go.IntKind.u8 65)))) →
            ((AV.binOk Go.BinOp.gtr (AV.sat x0 (ys1217.getD 0 default)) (AV.lit (Value.int Go.IntKind.u8 90))) ∧
            ((AV.isBool (AV.bin Go.BinOp.lss (AV.sat x0 (ys1217.getD 0 default)) (AV.lit (Value.int Go.IntKind.u8 65)))) ∧
            ((isF (AV.bin Go.BinOp.lss (AV.sat x0 (ys1217.getD 0 default)) (AV.lit (Value.int Go.IntKind.u8 65)))) ∧
            ((AV.isBool (AV.bin Go.BinOp.gtr (AV.sat x0 (ys1217.getD 0 default)) (AV.lit (Value.int Go.IntKind.u8 90)))) ∧
            (((isT (AV.bin Go.BinOp.gtr (AV.sat x0 (ys1217.getD 0 default)) (AV.lit (Value.int Go.IntKind.u8 90)))) →
              ((AV.binOk Go.BinOp.lss (AV.sat x0 (ys1217.getD 0 default)) (AV.lit (Value.int Go.IntKind.u8 48))) ∧
              ((AV.isBool (AV.bin Go.BinOp.lss (AV.sat x0 (ys1217.getD 0 default)) (AV.lit (Value.int Go.IntKind.u8 48)))) ∧
              (((isT (AV.bin Go.BinOp.lss (AV.sat x0 (ys1217.getD 0 default)) (AV.lit (Value.int Go.IntKind.u8 48)))) →
                ((AV.isBool (AV.bin Go.BinOp.lss (AV.sat x0 (ys1217.getD 0 default)) (AV.lit (Value.int Go.IntKind.u8 48)))) ∧
                ((isT (AV.bin Go.BinOp.lss (AV.sat x0 (ys1217.getD 0 default)) (AV.lit (Value.int Go.IntKind.u8 48)))) ∧
                ((AV.isBool (AV.bin Go.BinOp.gtr (AV.sat x0 (ys1217.getD 0 default)) (AV.lit (Value.int Go.IntKind.u8 90)))) ∧
                ((isT (AV.bin Go.BinOp.gtr (AV.sat x0 (ys1217.getD 0 default)) (AV.lit (Value.int Go.IntKind.u8 90)))) ∧
                ((AV.flat (AV.bool false)) ∧
                (fSame (AV.bool false) r))))))) ∧
              ((isF (AV.bin Go.BinOp.lss (AV.sat x0 (ys1217.getD 0 default)) (AV.lit (Value.int Go.IntKind.u8 48)))) →
                ((AV.binOk Go.BinOp.gtr (AV.sat x0 (ys1217.getD 0 default)) (AV.lit (Value.int Go.IntKind.u8 57))) ∧
                ((AV.isBool (AV.bin Go.BinOp.lss (AV.sat x0 (ys1217.getD 0 default)) (AV.lit (Value.int Go.IntKind.u8 48)))) ∧
                ((isF (AV.bin Go.BinOp.lss (AV.sat x0 (ys1217.getD 0 default)) (AV.lit (Value.int Go.IntKind.u8 48)))) ∧
                ((AV.isBool (AV.bin Go.BinOp.gtr (AV.sat x0 (ys1217.getD 0 default)) (AV.lit (Value.int Go.IntKind.u8 90)))) ∧
                ((isT (AV.bin Go.BinOp.gtr (AV.sat x0 (ys1217.getD 0 default)) (AV.lit (Value.int Go.IntKind.u8 90)))) ∧
                ((AV.isBool (AV.bin Go.BinOp.gtr (AV.sat x0 (ys1217.getD 0 default)) (AV.lit (Value.int Go.IntKind.u8 57)))) ∧
                (((isT (AV.bin Go.BinOp.gtr (AV.sat x0 (ys1217.getD 0 default)) (AV.lit (Value.int Go.IntKind.u8 57)))) →
                  ((AV.flat (AV.bool false)) ∧
                  (fSame (AV.bool false) r))) ∧
                ((isF (AV.bin Go.BinOp.gtr (AV.sat x0 (ys1217.getD 0 default)) (AV.lit (Value.int Go.IntKind.u8 57)))) →
                  ((AV.binOk Go.BinOp.add (ys1217.getD 0 default) (AV.int 1)) ∧
                  (again1217 [(AV.bin Go.BinOp.add (ys1217.getD 0 default) (AV.int 1))]))))))))))))))) ∧
            ((isF (AV.bin Go.BinOp.gtr (AV.sat x0 (ys1217.getD 0 default)) (AV.lit (Value.int Go.IntKind.u8 90)))) →
              ((AV.isBool (AV.bin Go.BinOp.gtr (AV.sat x0 (ys1217.getD 0 default)) (AV.lit (Value.int Go.IntKind.u8 90)))) ∧
              ((isF (AV.bin Go.BinOp.gtr (AV.sat x0 (ys1217.getD 0 default)) (AV.lit (Value.int Go.IntKind.u8 90)))) ∧
              ((AV.binOk Go.BinOp.add (ys1217.getD 0 default) (AV.int 1)) ∧
              (again1217 [(AV.bin Go.BinOp.add (ys1217.getD 0 default) (AV.int 1))]))))))))))))))))) ∧
        ((isF (AV.bin Go.BinOp.lss (ys1217.getD 0 default) (AV.slen x0))) →
          ((AV.flat (AV.bool true)) ∧
          (fSame (AV.bool true) r)))))))))))))))))))))))))))))) := by kernel_rfl
end NameF
end Go.Proofs.YtocgoabplafoeaaDoor
/- Names. -/
namespace Go.Proofs.YtocgoabplafoeaaDoor
open Go.RowKit
set_option linter.unusedVariables false
set_option linter.unusedSimpArgs false
set_option maxRecDepth 100000
def up (c : UInt8) : Prop := 65 ≤ c.toNat ∧ c.toNat ≤ 90
def dig (c : UInt8) : Prop := 48 ≤ c.toNat ∧ c.toNat ≤ 57
instance (c : UInt8) : Decidable (up c) := inferInstanceAs (Decidable (_ ∧ _))
instance (c : UInt8) : Decidable (dig c) := inferInstanceAs (Decidable (_ ∧ _))
def nameG : Nat → List UInt8 → Bool
  | _, [] => true
  | n, x :: rest => decide (up x ∨ (0 < n ∧ dig x)) && nameG (n + 1) rest
/-- A name: one to eight letters and digits, no digit at its head. -/
def isName (s : ByteArray) : Bool := decide (1 ≤ s.size ∧ s.size ≤ 8) && nameG 0 (key s)
theorem nameG_all : ∀ (n : Nat) (l : List UInt8), nameG (n + 1) l = l.all fun c => decide (up c ∨ dig c)
  | _, [] => rfl
  | n, x :: l => by simp [nameG, nameG_all (n + 1) l]
theorem nameG_head {x : UInt8} {l : List UInt8} (h : ¬ dig x) : nameG 0 (x :: l) = (x :: l).all fun c => decide (up c ∨ dig c) := by
  simp [nameG, nameG_all, h]
@[simp] theorem key_len (s : ByteArray) : (key s).length = s.size := Array.length_toList
def encB (c : UInt8) : List AV := [.lit (.int .u8 c.toNat)]
theorem bytes_lst (s : ByteArray) : AV.bytes (.lit (.string s)) = lst 1 encB (key s) := rfl
theorem sat_at {s : ByteArray} {n : Nat} {c : UInt8} {k : IntKind} (h : (key s)[n]? = some c) : AV.sat (.lit (.string s)) (.lit (.int k (n : Nat))) = .lit (.int .u8 c.toNat) := by
  have hn : n < s.data.size := by have := (List.getElem?_eq_some_iff.1 h).1; rwa [Array.length_toList] at this
  have hc : s.data[n] = c := by have := (List.getElem?_eq_some_iff.1 h).2; simpa [key] using this
  have : s[n]? = some c := by
    rw [getElem?_pos s n hn]
    exact congrArg some hc
  unfold AV.sat
  simp [this]
theorem isName_eq (s : ByteArray) (h1 : 1 ≤ s.size) (h2 : s.size ≤ 8) : isName s = nameG 0 (key s) := by
  unfold isName; rw [decide_eq_true ⟨h1, h2⟩, Bool.true_and]
theorem isName_no (s : ByteArray) (h : ¬ (1 ≤ s.size ∧ s.size ≤ 8)) : isName s = false := by
  unfold isName; rw [decide_eq_false h, Bool.false_and]
theorem name_fn (s : ByteArray) : Fn Tryd.prog 40 [.string s] .sc (.bool (isName s)) := by
  refine fn_run mixed 0 (Γ := NameF.Γ) (ann := NameF.ann) Tryd.func40 rfl Tryd.call40 ((NameF.name_form _ _).mpr ?_)
  simp [bytes_lst, AV.bytesOk]
  refine ⟨fun h => ⟨h, ?_⟩, fun h => ⟨h, fun h2 => ?_, fun h2 => ⟨by omega, ?_⟩⟩⟩
  · exact isName_no s (by omega)
  · exact isName_no s (by omega)
  · have hE := isName_eq s (by omega) (by omega)
    refine loop_list (σ := Unit) (key s) (fun n _ => [.int (n : Nat)]) (fun n rest _ => isName s = nameG n rest) () rfl hE ?_ ?_
    · intro n x rest _ K hx hr hn hg hK
      rw [nameG] at hg
      rw [key_len] at hn
      have bad : ¬ (up x ∨ (0 < n ∧ dig x)) → isName s = false := fun h => by rw [hg, decide_eq_false h]; rfl
      have good : (up x ∨ (0 < n ∧ dig x)) → K [.int ((n : Nat) + 1)] := fun h => hK _ () (by simp) (by rw [hg, decide_eq_true h, Bool.true_and])
      unfold up dig at bad good
      simp [hn, lst_at hx, encB]
      (repeat' (first | exact trivial | (with_reducible intro hw; (try simp (disch := omega) only [wrap64] at hw); first | (exfalso; omega; done) | skip) | (with_reducible refine And.intro ?_ ?_) | omega | assumption))
      all_goals (first | exact bad (by omega) | (rw [wrap64 (by omega) (by omega)]; exact good (by omega)))
    · intro _ K hg
      rw [key_len]
      simp [hg, nameG]
theorem isname_fn (s : ByteArray) : Fn Tryd.prog 67 [.string s] .sc (.bool (isName s)) := by
  refine fn_run mixed 0 (Γ := NameF.Γ) (ann := NameF.ann) Tryd.func67 rfl Tryd.call67 ((NameF.isname_form _ _).mpr ?_)
  have hem : s.size = 0 ↔ s = ⟨#[]⟩ := ⟨fun h => ByteArray.ext (Array.size_eq_zero_iff.1 h), fun h => by rw [h]; rfl⟩
  by_cases h0 : s = ⟨#[]⟩
  · simp [h0]
    exact isName_no _ (by decide)
  · have hs0 : 0 < s.size := by have := mt hem.1 h0; omega
    obtain ⟨x, rest, hk⟩ : ∃ x rest, key s = x :: rest := by
      cases hk : key s with
      | nil => have := key_len s; rw [hk] at this; simp at this; omega
      | cons x rest => exact ⟨x, rest, rfl⟩
    have hx0 : AV.sat (.lit (.string s)) (.lit (.int .i64 0)) = .lit (.int .u8 x.toNat) := sat_at (n := 0) (by rw [hk]; rfl)
    simp [h0, hx0, hs0]
    refine ⟨fun h => ⟨h, isName_no s (by omega)⟩, fun h => ?_⟩
    have hE := isName_eq s hs0 (by omega)
    (repeat' (first | exact trivial | (with_reducible intro hw; (try simp (disch := omega) only [wrap64] at hw); first | (exfalso; omega; done) | skip) | (with_reducible refine And.intro ?_ ?_) | omega | assumption))
    all_goals first
      | (rw [hE, hk, nameG, decide_eq_false (by unfold up dig; omega)]; rfl)
      | (have hnd : ¬ dig x := by unfold dig; omega
         have hE2 : isName s = (key s).all fun c => decide (up c ∨ dig c) := by rw [hE, hk, nameG_head hnd]
         refine loop_list (σ := Unit) (key s) (fun n _ => [.int (n : Nat)]) (fun n rest _ => isName s = rest.all fun c => decide (up c ∨ dig c)) () rfl hE2 ?_ ?_
         · intro n y rest' _ K hy hr hn hg hK
           rw [List.all_cons] at hg
           rw [key_len] at hn
           have bad : ¬ (up y ∨ dig y) → isName s = false := fun h => by rw [hg, decide_eq_false h]; rfl
           have good : (up y ∨ dig y) → K [.int ((n : Nat) + 1)] := fun h => hK _ () (by simp) (by rw [hg, decide_eq_true h, Bool.true_and])
           unfold up dig at bad good
           simp [hn, sat_at hy]
           (repeat' (first | exact trivial | (with_reducible intro hw; (try simp (disch := omega) only [wrap64] at hw); first | (exfalso; omega; done) | skip) | (with_reducible refine And.intro ?_ ?_) | omega | assumption))
           all_goals (first | exact bad (by omega) | (rw [wrap64 (by omega) (by omega)]; exact good (by omega)))
         · intro _ K hg
           rw [key_len]
           simp [hg])
end Go.Proofs.YtocgoabplafoeaaDoor
/- planes, polygons, volumes: what the run ends in. -/
namespace Go.Proofs.YtocgoabplafoeaaDoor
open Go.RowKit
set_option linter.unusedVariables false
set_option maxRecDepth 100000
namespace SecF
--GAMMA
def Γ : FuncId → Option Ca := fun f =>
  if f = 17 ∨ f = 87 ∨ f = 88 ∨ f = 80 ∨ f = 40 ∨ f = 67 ∨ f = 7 ∨ f = 19 then some (.fn .sc)
  else if f = 37 ∨ f = 30 ∨ f = 36 ∨ f = 18 ∨ f = 8 then some (.fn (.tup [.sc, .sc]))
  else some .inl
def ann : FuncId → Nat → LoopEx := fun f r => ⟨[], [], [], []⟩
--END GAMMA
theorem pcheck_form (x0 r : AV) : fnF Tryd.prog Γ ann 3 17 Tryd.f17 (Tryd.f17.body.getD .skip) (.nil) [x0] (.sc) r = (((AV.isAgg x0 2) ∧
((AV.binOk Go.BinOp.lss (AV.cel x0 0) (AV.int (-1000000))) ∧
((AV.isBool (AV.bin Go.BinOp.lss (AV.cel x0 0) (AV.int (-1000000)))) ∧
(((isT (AV.bin Go.BinOp.lss (AV.cel x0 0) (AV.int (-1000000)))) →
  ((AV.isBool (AV.bin Go.BinOp.lss (AV.cel x0 0) (AV.int (-1000000)))) ∧
  ((isT (AV.bin Go.BinOp.lss (AV.cel x0 0) (AV.int (-1000000)))) ∧
  ((AV.flat (AV.int 4)) ∧
  (fSame (AV.int 4) r))))) ∧
((isF (AV.bin Go.BinOp.lss (AV.cel x0 0) (AV.int (-1000000)))) →
  ((AV.binOk Go.BinOp.gtr (AV.cel x0 0) (AV.int 1000000)) ∧
  ((AV.isBool (AV.bin Go.BinOp.lss (AV.cel x0 0) (AV.int (-1000000)))) ∧
  ((isF (AV.bin Go.BinOp.lss (AV.cel x0 0) (AV.int (-1000000)))) ∧
  ((AV.isBool (AV.bin Go.BinOp.gtr (AV.cel x0 0) (AV.int 1000000))) ∧
  (((isT (AV.bin Go.BinOp.gtr (AV.cel x0 0) (AV.int 1000000))) →
    ((AV.isBool (AV.bin Go.BinOp.gtr (AV.cel x0 0) (AV.int 1000000))) ∧
    ((isT (AV.bin Go.BinOp.gtr (AV.cel x0 0) (AV.int 1000000))) ∧
    ((AV.flat (AV.int 4)) ∧
    (fSame (AV.int 4) r))))) ∧
  ((isF (AV.bin Go.BinOp.gtr (AV.cel x0 0) (AV.int 1000000))) →
    ((AV.binOk Go.BinOp.lss (AV.cel x0 1) (AV.int (-1000000))) ∧
    ((AV.isBool (AV.bin Go.BinOp.gtr (AV.cel x0 0) (AV.int 1000000))) ∧
    ((isF (AV.bin Go.BinOp.gtr (AV.cel x0 0) (AV.int 1000000))) ∧
    ((AV.isBool (AV.bin Go.BinOp.lss (AV.cel x0 1) (AV.int (-1000000)))) ∧
    (((isT (AV.bin Go.BinOp.lss (AV.cel x0 1) (AV.int (-1000000)))) →
      ((AV.isBool (AV.bin Go.BinOp.lss (AV.cel x0 1) (AV.int (-1000000)))) ∧
      ((isT (AV.bin Go.BinOp.lss (AV.cel x0 1) (AV.int (-1000000)))) ∧
      ((AV.flat (AV.int 4)) ∧
      (fSame (AV.int 4) r))))) ∧
    ((isF (AV.bin Go.BinOp.lss (AV.cel x0 1) (AV.int (-1000000)))) →
      ((AV.binOk Go.BinOp.gtr (AV.cel x0 1) (AV.int 1000000)) ∧
      ((AV.isBool (AV.bin Go.BinOp.lss (AV.cel x0 1) (AV.int (-1000000)))) ∧
      ((isF (AV.bin Go.BinOp.lss (AV.cel x0 1) (AV.int (-1000000)))) ∧
      ((AV.isBool (AV.bin Go.BinOp.gtr (AV.cel x0 1) (AV.int 1000000))) ∧
      (((isT (AV.bin Go.BinOp.gtr (AV.cel x0 1) (AV.int 1000000))) →
        ((AV.flat (AV.int 4)) ∧
        (fSame (AV.int 4) r))) ∧
      ((isF (AV.bin Go.BinOp.gtr (AV.cel x0 1) (AV.int 1000000))) →
        ((AV.flat (AV.int 0)) ∧
        (fSame (AV.int 0) r)))))))))))))))))))))))))) := by kernel_rfl
theorem sub_form (x0 x1 r : AV) : fnF Tryd.prog Γ ann 3 87 Tryd.f87 (Tryd.f87.body.getD .skip) (.nil) [x0, x1] (.sc) r = (((AV.isAgg x0 2) ∧
((AV.isAgg x1 2) ∧
((AV.binOk Go.BinOp.sub (AV.cel x0 0) (AV.cel x1 0)) ∧
((AV.binOk Go.BinOp.sub (AV.cel x0 1) (AV.cel x1 1)) ∧
((AV.isOne (AV.bin Go.BinOp.sub (AV.cel x0 0) (AV.cel x1 0))) ∧
((AV.isOne (AV.bin Go.BinOp.sub (AV.cel x0 1) (AV.cel x1 1))) ∧
((AV.flat (AV.agg [(AV.bin Go.BinOp.sub (AV.cel x0 0) (AV.cel x1 0)), (AV.bin Go.BinOp.sub (AV.cel x0 1) (AV.cel x1 1))])) ∧
(fSame (AV.agg [(AV.bin Go.BinOp.sub (AV.cel x0 0) (AV.cel x1 0)), (AV.bin Go.BinOp.sub (AV.cel x0 1) (AV.cel x1 1))]) r))))))))) := by kernel_rfl
theorem dot_form (x0 x1 r : AV) : fnF Tryd.prog Γ ann 3 88 Tryd.f88 (Tryd.f88.body.getD .skip) (.nil) [x0, x1] (.sc) r = (((AV.isAgg x0 2) ∧
((AV.isAgg x1 2) ∧
((AV.binOk Go.BinOp.mul (AV.cel x0 0) (AV.cel x1 0)) ∧
((AV.binOk Go.BinOp.mul (AV.cel x0 1) (AV.cel x1 1)) ∧
((AV.binOk Go.BinOp.add (AV.bin Go.BinOp.mul (AV.cel x0 0) (AV.cel x1 0)) (AV.bin Go.BinOp.mul (AV.cel x0 1) (AV.cel x1 1))) ∧
((AV.flat (AV.bin Go.BinOp.add (AV.bin Go.BinOp.mul (AV.cel x0 0) (AV.cel x1 0)) (AV.bin Go.BinOp.mul (AV.cel x0 1) (AV.cel x1 1)))) ∧
(fSame (AV.bin Go.BinOp.add (AV.bin Go.BinOp.mul (AV.cel x0 0) (AV.cel x1 0)) (AV.bin Go.BinOp.mul (AV.cel x0 1) (AV.cel x1 1))) r)))))))) := by kernel_rfl
theorem square_form (x0 x1 r : AV) : fnF Tryd.prog Γ ann 3 80 Tryd.f80 (Tryd.f80.body.getD .skip) (.nil) [x0, x1] (.sc) r = (((AV.isAgg x0 2) ∧
((AV.isAgg x1 2) ∧
(∃ r321 : AV, ((Fn Tryd.prog 87 [(AV.agg [(AV.cel x0 0), (AV.cel x0 1)]), (AV.agg [(AV.cel x1 0), (AV.cel x1 1)])] Sh.sc r321) ∧
((AV.isAgg r321 2) ∧
(∃ r641 : AV, ((Fn Tryd.prog 88 [(AV.agg [(AV.cel r321 0), (AV.cel r321 1)]), (AV.agg [(AV.cel r321 0), (AV.cel r321 1)])] Sh.sc r641) ∧
((AV.flat r641) ∧
(fSame r641 r)))))))))) := by kernel_rfl
theorem divd_form (x0 x1 r : AV) : fnF Tryd.prog Γ ann 3 37 Tryd.f37 (Tryd.f37.body.getD .skip) (.nil) [x0, x1] (.tup [.sc, .sc]) r = (((AV.binOk Go.BinOp.eql x1 (AV.int 0)) ∧
((AV.isBool (AV.bin Go.BinOp.eql x1 (AV.int 0))) ∧
(((isT (AV.bin Go.BinOp.eql x1 (AV.int 0))) →
  ((AV.flat (AV.int 0)) ∧
  ((AV.flat (AV.int 10)) ∧
  (fSame (AV.tup [(AV.int 0), (AV.int 10)]) r)))) ∧
((isF (AV.bin Go.BinOp.eql x1 (AV.int 0))) →
  ((AV.binOk Go.BinOp.eql x0 (AV.int (-9223372036854775808))) ∧
  ((AV.isBool (AV.bin Go.BinOp.eql x0 (AV.int (-9223372036854775808)))) ∧
  (((isT (AV.bin Go.BinOp.eql x0 (AV.int (-9223372036854775808)))) →
    ((AV.binOk Go.BinOp.eql x1 (AV.int (-1))) ∧
    ((AV.isBool (AV.bin Go.BinOp.eql x0 (AV.int (-9223372036854775808)))) ∧
    ((isT (AV.bin Go.BinOp.eql x0 (AV.int (-9223372036854775808)))) ∧
    ((AV.isBool (AV.bin Go.BinOp.eql x1 (AV.int (-1)))) ∧
    (((isT (AV.bin Go.BinOp.eql x1 (AV.int (-1)))) →
      ((AV.flat (AV.int 0)) ∧
      ((AV.flat (AV.int 2)) ∧
      (fSame (AV.tup [(AV.int 0), (AV.int 2)]) r)))) ∧
    ((isF (AV.bin Go.BinOp.eql x1 (AV.int (-1)))) →
      ((AV.binOk Go.BinOp.quo x0 x1) ∧
      ((AV.binOk Go.BinOp.rem x0 x1) ∧
      ((AV.binOk Go.BinOp.neq (AV.bin Go.BinOp.rem x0 x1) (AV.int 0)) ∧
      ((AV.isBool (AV.bin Go.BinOp.neq (AV.bin Go.BinOp.rem x0 x1) (AV.int 0))) ∧
      (((isT (AV.bin Go.BinOp.neq (AV.bin Go.BinOp.rem x0 x1) (AV.int 0))) →
        ((AV.binOk Go.BinOp.lss x0 (AV.int 0)) ∧
        ((AV.binOk Go.BinOp.lss x1 (AV.int 0)) ∧
        ((AV.isBool (AV.bin Go.BinOp.lss x0 (AV.int 0))) ∧
        ((AV.isBool (AV.bin Go.BinOp.lss x1 (AV.int 0))) ∧
        ((AV.isBool (AV.bin Go.BinOp.neq (AV.bin Go.BinOp.rem x0 x1) (AV.int 0))) ∧
        ((isT (AV.bin Go.BinOp.neq (AV.bin Go.BinOp.rem x0 x1) (AV.int 0))) ∧
        ((AV.isBool (AV.neB (AV.bin Go.BinOp.lss x0 (AV.int 0)) (AV.bin Go.BinOp.lss x1 (AV.int 0)))) ∧
        (((isT (AV.neB (AV.bin Go.BinOp.lss x0 (AV.int 0)) (AV.bin Go.BinOp.lss x1 (AV.int 0)))) →
          ((AV.binOk Go.BinOp.sub (AV.bin Go.BinOp.quo x0 x1) (AV.int 1)) ∧
          ((AV.flat (AV.bin Go.BinOp.sub (AV.bin Go.BinOp.quo x0 x1) (AV.int 1))) ∧
          ((AV.flat (AV.int 0)) ∧
          (fSame (AV.tup [(AV.bin Go.BinOp.sub (AV.bin Go.BinOp.quo x0 x1) (AV.int 1)), (AV.int 0)]) r))))) ∧
        ((isF (AV.neB (AV.bin Go.BinOp.lss x0 (AV.int 0)) (AV.bin Go.BinOp.lss x1 (AV.int 0)))) →
          ((AV.flat (AV.bin Go.BinOp.quo x0 x1)) ∧
          ((AV.flat (AV.int 0)) ∧
          (fSame (AV.tup [(AV.bin Go.BinOp.quo x0 x1), (AV.int 0)]) r))))))))))))) ∧
      ((isF (AV.bin Go.BinOp.neq (AV.bin Go.BinOp.rem x0 x1) (AV.int 0))) →
        ((AV.isBool (AV.bin Go.BinOp.neq (AV.bin Go.BinOp.rem x0 x1) (AV.int 0))) ∧
        ((isF (AV.bin Go.BinOp.neq (AV.bin Go.BinOp.rem x0 x1) (AV.int 0))) ∧
        ((AV.flat (AV.bin Go.BinOp.quo x0 x1)) ∧
        ((AV.flat (AV.int 0)) ∧
        (fSame (AV.tup [(AV.bin Go.BinOp.quo x0 x1), (AV.int 0)]) r)))))))))))))))))) ∧
  ((isF (AV.bin Go.BinOp.eql x0 (AV.int (-9223372036854775808)))) →
    ((AV.isBool (AV.bin Go.BinOp.eql x0 (AV.int (-9223372036854775808)))) ∧
    ((isF (AV.bin Go.BinOp.eql x0 (AV.int (-9223372036854775808)))) ∧
    ((AV.binOk Go.BinOp.quo x0 x1) ∧
    ((AV.binOk Go.BinOp.rem x0 x1) ∧
    ((AV.binOk Go.BinOp.neq (AV.bin Go.BinOp.rem x0 x1) (AV.int 0)) ∧
    ((AV.isBool (AV.bin Go.BinOp.neq (AV.bin Go.BinOp.rem x0 x1) (AV.int 0))) ∧
    (((isT (AV.bin Go.BinOp.neq (AV.bin Go.BinOp.rem x0 x1) (AV.int 0))) →
      ((AV.binOk Go.BinOp.lss x0 (AV.int 0)) ∧
      ((AV.binOk Go.BinOp.lss x1 (AV.int 0)) ∧
      ((AV.isBool (AV.bin Go.BinOp.lss x0 (AV.int 0))) ∧
      ((AV.isBool (AV.bin Go.BinOp.lss x1 (AV.int 0))) ∧
      ((AV.isBool (AV.bin Go.BinOp.neq (AV.bin Go.BinOp.rem x0 x1) (AV.int 0))) ∧
      ((isT (AV.bin Go.BinOp.neq (AV.bin Go.BinOp.rem x0 x1) (AV.int 0))) ∧
      ((AV.isBool (AV.neB (AV.bin Go.BinOp.lss x0 (AV.int 0)) (AV.bin Go.BinOp.lss x1 (AV.int 0)))) ∧
      (((isT (AV.neB (AV.bin Go.BinOp.lss x0 (AV.int 0)) (AV.bin Go.BinOp.lss x1 (AV.int 0)))) →
        ((AV.binOk Go.BinOp.sub (AV.bin Go.BinOp.quo x0 x1) (AV.int 1)) ∧
        ((AV.flat (AV.bin Go.BinOp.sub (AV.bin Go.BinOp.quo x0 x1) (AV.int 1))) ∧
        ((AV.flat (AV.int 0)) ∧
        (fSame (AV.tup [(AV.bin Go.BinOp.sub (AV.bin Go.BinOp.quo x0 x1) (AV.int 1)), (AV.int 0)]) r))))) ∧
      ((isF (AV.neB (AV.bin Go.BinOp.lss x0 (AV.int 0)) (AV.bin Go.BinOp.lss x1 (AV.int 0)))) →
        ((AV.flat (AV.bin Go.BinOp.quo x0 x1)) ∧
        ((AV.flat (AV.int 0)) ∧
        (fSame (AV.tup [(AV.bin Go.BinOp.quo x0 x1), (AV.int 0)]) r))))))))))))) ∧
    ((isF (AV.bin Go.BinOp.neq (AV.bin Go.BinOp.rem x0 x1) (AV.int 0))) →
      ((AV.isBool (AV.bin Go.BinOp.neq (AV.bin Go.BinOp.rem x0 x1) (AV.int 0))) ∧
      ((isF (AV.bin Go.BinOp.neq (AV.bin Go.BinOp.rem x0 x1) (AV.int 0))) ∧
      ((AV.flat (AV.bin Go.BinOp.quo x0 x1)) ∧
      ((AV.flat (AV.int 0)) ∧
      (fSame (AV.tup [(AV.bin Go.BinOp.quo x0 x1), (AV.int 0)]) r)))))))))))))))))))))) := by kernel_rfl
theorem divu_form (x0 x1 r : AV) : fnF Tryd.prog Γ ann 3 30 Tryd.f30 (Tryd.f30.body.getD .skip) (.nil) [x0, x1] (.tup [.sc, .sc]) r = ((∃ r257 : AV, ((Fn Tryd.prog 37 [x0, x1] (Sh.tup [Sh.sc, Sh.sc]) r257) ∧
((AV.binOk Go.BinOp.eql (AV.prj r257 1) (AV.int 0)) ∧
((AV.isBool (AV.bin Go.BinOp.eql (AV.prj r257 1) (AV.int 0))) ∧
(((isT (AV.bin Go.BinOp.eql (AV.prj r257 1) (AV.int 0))) →
  ((AV.binOk Go.BinOp.rem x0 x1) ∧
  ((AV.binOk Go.BinOp.neq (AV.bin Go.BinOp.rem x0 x1) (AV.int 0)) ∧
  ((AV.isBool (AV.bin Go.BinOp.eql (AV.prj r257 1) (AV.int 0))) ∧
  ((isT (AV.bin Go.BinOp.eql (AV.prj r257 1) (AV.int 0))) ∧
  ((AV.isBool (AV.bin Go.BinOp.neq (AV.bin Go.BinOp.rem x0 x1) (AV.int 0))) ∧
  (((isT (AV.bin Go.BinOp.neq (AV.bin Go.BinOp.rem x0 x1) (AV.int 0))) →
    ((AV.binOk Go.BinOp.add (AV.prj r257 0) (AV.int 1)) ∧
    ((AV.flat (AV.bin Go.BinOp.add (AV.prj r257 0) (AV.int 1))) ∧
    ((AV.flat (AV.prj r257 1)) ∧
    (fSame (AV.tup [(AV.bin Go.BinOp.add (AV.prj r257 0) (AV.int 1)), (AV.prj r257 1)]) r))))) ∧
  ((isF (AV.bin Go.BinOp.neq (AV.bin Go.BinOp.rem x0 x1) (AV.int 0))) →
    ((AV.flat (AV.prj r257 0)) ∧
    ((AV.flat (AV.prj r257 1)) ∧
    (fSame (AV.tup [(AV.prj r257 0), (AV.prj r257 1)]) r))))))))))) ∧
((isF (AV.bin Go.BinOp.eql (AV.prj r257 1) (AV.int 0))) →
  ((AV.isBool (AV.bin Go.BinOp.eql (AV.prj r257 1) (AV.int 0))) ∧
  ((isF (AV.bin Go.BinOp.eql (AV.prj r257 1) (AV.int 0))) ∧
  ((AV.flat (AV.prj r257 0)) ∧
  ((AV.flat (AV.prj r257 1)) ∧
  (fSame (AV.tup [(AV.prj r257 0), (AV.prj r257 1)]) r)))))))))))) := by kernel_rfl
theorem toward_form (x0 x1 x2 x3 r : AV) : fnF Tryd.prog Γ ann 3 36 Tryd.f36 (Tryd.f36.body.getD .skip) (.nil) [x0, x1, x2, x3] (.tup [.sc, .sc]) r = (((AV.isAgg x0 2) ∧
((AV.isAgg x1 2) ∧
((AV.binOk Go.BinOp.leq x3 (AV.int 0)) ∧
((AV.isBool (AV.bin Go.BinOp.leq x3 (AV.int 0))) ∧
(((isT (AV.bin Go.BinOp.leq x3 (AV.int 0))) →
  ((AV.flat (AV.agg [(AV.int 0), (AV.int 0)])) ∧
  ((AV.flat (AV.int 10)) ∧
  (fSame (AV.tup [(AV.agg [(AV.int 0), (AV.int 0)]), (AV.int 10)]) r)))) ∧
((isF (AV.bin Go.BinOp.leq x3 (AV.int 0))) →
  ((AV.binOk Go.BinOp.gtr x3 (AV.int 200000)) ∧
  ((AV.isBool (AV.bin Go.BinOp.gtr x3 (AV.int 200000))) ∧
  (((isT (AV.bin Go.BinOp.gtr x3 (AV.int 200000))) →
    ((AV.isBool (AV.bin Go.BinOp.gtr x3 (AV.int 200000))) ∧
    ((isT (AV.bin Go.BinOp.gtr x3 (AV.int 200000))) ∧
    ((AV.flat (AV.agg [(AV.int 0), (AV.int 0)])) ∧
    ((AV.flat (AV.int 4)) ∧
    (fSame (AV.tup [(AV.agg [(AV.int 0), (AV.int 0)]), (AV.int 4)]) r)))))) ∧
  ((isF (AV.bin Go.BinOp.gtr x3 (AV.int 200000))) →
    ((AV.binOk Go.BinOp.lss x2 (AV.int 0)) ∧
    ((AV.isBool (AV.bin Go.BinOp.gtr x3 (AV.int 200000))) ∧
    ((isF (AV.bin Go.BinOp.gtr x3 (AV.int 200000))) ∧
    ((AV.isBool (AV.bin Go.BinOp.lss x2 (AV.int 0))) ∧
    (((isT (AV.bin Go.BinOp.lss x2 (AV.int 0))) →
      ((AV.isBool (AV.bin Go.BinOp.lss x2 (AV.int 0))) ∧
      ((isT (AV.bin Go.BinOp.lss x2 (AV.int 0))) ∧
      ((AV.flat (AV.agg [(AV.int 0), (AV.int 0)])) ∧
      ((AV.flat (AV.int 4)) ∧
      (fSame (AV.tup [(AV.agg [(AV.int 0), (AV.int 0)]), (AV.int 4)]) r)))))) ∧
    ((isF (AV.bin Go.BinOp.lss x2 (AV.int 0))) →
      ((AV.binOk Go.BinOp.gtr x2 x3) ∧
      ((AV.isBool (AV.bin Go.BinOp.lss x2 (AV.int 0))) ∧
      ((isF (AV.bin Go.BinOp.lss x2 (AV.int 0))) ∧
      ((AV.isBool (AV.bin Go.BinOp.gtr x2 x3)) ∧
      (((isT (AV.bin Go.BinOp.gtr x2 x3)) →
        ((AV.flat (AV.agg [(AV.int 0), (AV.int 0)])) ∧
        ((AV.flat (AV.int 4)) ∧
        (fSame (AV.tup [(AV.agg [(AV.int 0), (AV.int 0)]), (AV.int 4)]) r)))) ∧
      ((isF (AV.bin Go.BinOp.gtr x2 x3)) →
        (∃ r1281 : AV, ((Fn Tryd.prog 17 [(AV.agg [(AV.cel x0 0), (AV.cel x0 1)])] Sh.sc r1281) ∧
        ((AV.binOk Go.BinOp.neq r1281 (AV.int 0)) ∧
        ((AV.isBool (AV.bin Go.BinOp.neq r1281 (AV.int 0))) ∧
        (((isT (AV.bin Go.BinOp.neq r1281 (AV.int 0))) →
          (∃ r1601 : AV, ((Fn Tryd.prog 17 [(AV.agg [(AV.cel x0 0), (AV.cel x0 1)])] Sh.sc r1601) ∧
          ((AV.flat (AV.agg [(AV.int 0), (AV.int 0)])) ∧
          ((AV.flat r1601) ∧
          (fSame (AV.tup [(AV.agg [(AV.int 0), (AV.int 0)]), r1601]) r)))))) ∧
        ((isF (AV.bin Go.BinOp.neq r1281 (AV.int 0))) →
          (∃ r1537 : AV, ((Fn Tryd.prog 17 [(AV.agg [(AV.cel x1 0), (AV.cel x1 1)])] Sh.sc r1537) ∧
          ((AV.binOk Go.BinOp.neq r1537 (AV.int 0)) ∧
          ((AV.isBool (AV.bin Go.BinOp.neq r1537 (AV.int 0))) ∧
          (((isT (AV.bin Go.BinOp.neq r1537 (AV.int 0))) →
            (∃ r1857 : AV, ((Fn Tryd.prog 17 [(AV.agg [(AV.cel x1 0), (AV.cel x1 1)])] Sh.sc r1857) ∧
            ((AV.flat (AV.agg [(AV.int 0), (AV.int 0)])) ∧
            ((AV.flat r1857) ∧
            (fSame (AV.tup [(AV.agg [(AV.int 0), (AV.int 0)]), r1857]) r)))))) ∧
          ((isF (AV.bin Go.BinOp.neq r1537 (AV.int 0))) →
            ((AV.binOk Go.BinOp.sub (AV.cel x1 0) (AV.cel x0 0)) ∧
            ((AV.binOk Go.BinOp.mul (AV.bin Go.BinOp.sub (AV.cel x1 0) (AV.cel x0 0)) x2) ∧
            (∃ r2241 : AV, ((Fn Tryd.prog 37 [(AV.bin Go.BinOp.mul (AV.bin Go.BinOp.sub (AV.cel x1 0) (AV.cel x0 0)) x2), x3] (Sh.tup [Sh.sc, Sh.sc]) r2241) ∧
            ((AV.binOk Go.BinOp.sub (AV.cel x1 1) (AV.cel x0 1)) ∧
            ((AV.binOk Go.BinOp.mul (AV.bin Go.BinOp.sub (AV.cel x1 1) (AV.cel x0 1)) x2) ∧
            (∃ r3137 : AV, ((Fn Tryd.prog 37 [(AV.bin Go.BinOp.mul (AV.bin Go.BinOp.sub (AV.cel x1 1) (AV.cel x0 1)) x2), x3] (Sh.tup [Sh.sc, Sh.sc]) r3137) ∧
            ((AV.binOk Go.BinOp.add (AV.cel x0 0) (AV.prj r2241 0)) ∧
            ((AV.binOk Go.BinOp.add (AV.cel x0 1) (AV.prj r3137 0)) ∧
            ((AV.isOne (AV.bin Go.BinOp.add (AV.cel x0 0) (AV.prj r2241 0))) ∧
            ((AV.isOne (AV.bin Go.BinOp.add (AV.cel x0 1) (AV.prj r3137 0))) ∧
            ((AV.flat (AV.agg [(AV.bin Go.BinOp.add (AV.cel x0 0) (AV.prj r2241 0)), (AV.bin Go.BinOp.add (AV.cel x0 1) (AV.prj r3137 0))])) ∧
            ((AV.flat (AV.int 0)) ∧
            (fSame (AV.tup [(AV.agg [(AV.bin Go.BinOp.add (AV.cel x0 0) (AV.prj r2241 0)), (AV.bin Go.BinOp.add (AV.cel x0 1) (AV.prj r3137 0))]), (AV.int 0)]) r)))))))))))))))))))))))))))))))))))))))))))))))))) := by kernel_rfl
theorem tcheck_form (x0 r : AV) : fnF Tryd.prog Γ ann 3 7 Tryd.f7 (Tryd.f7.body.getD .skip) (.nil) [x0] (.sc) r = (((AV.isSl x0 6) ∧
((AV.binOk Go.BinOp.gtr (AV.len x0) (AV.int 64)) ∧
((AV.isBool (AV.bin Go.BinOp.gtr (AV.len x0) (AV.int 64))) ∧
(((isT (AV.bin Go.BinOp.gtr (AV.len x0) (AV.int 64))) →
  ((AV.flat (AV.int 2)) ∧
  (fSame (AV.int 2) r))) ∧
((isF (AV.bin Go.BinOp.gtr (AV.len x0) (AV.int 64))) →
  ((AV.isSl x0 6) ∧
  ((AV.binOk Go.BinOp.eql (AV.len x0) (AV.int 0)) ∧
  ((AV.isBool (AV.bin Go.BinOp.eql (AV.len x0) (AV.int 0))) ∧
  (((isT (AV.bin Go.BinOp.eql (AV.len x0) (AV.int 0))) →
    ((AV.flat (AV.int 3)) ∧
    (fSame (AV.int 3) r))) ∧
  ((isF (AV.bin Go.BinOp.eql (AV.len x0) (AV.int 0))) →
    ((AV.isSl x0 6) ∧
    (fLoop 769 [(AV.int 0)] fun ys769 again769 =>
      ((AV.binOk Go.BinOp.lss (ys769.getD 0 default) (AV.len x0)) ∧
      ((AV.isBool (AV.bin Go.BinOp.lss (ys769.getD 0 default) (AV.len x0))) ∧
      (((isT (AV.bin Go.BinOp.lss (ys769.getD 0 default) (AV.len x0))) →
        ((AV.isSl x0 6) ∧
        ((AV.inb x0 (ys769.getD 0 default)) ∧
        ((AV.isAgg (AV.atAgg x0 (ys769.getD 0 default) 0 6) 6) ∧
        ((AV.binOk Go.BinOp.lss (AV.cel (AV.atAgg x0 (ys769.getD 0 default) 0 6) 0) (AV.int 0)) ∧
        ((AV.isBool (AV.bin Go.BinOp.lss (AV.cel (AV.atAgg x0 (ys769.getD 0 default) 0 6) 0) (AV.int 0))) ∧
        (((isT (AV.bin Go.BinOp.lss (AV.cel (AV.atAgg x0 (ys769.getD 0 default) 0 6) 0) (AV.int 0))) →
          ((AV.isBool (AV.bin Go.BinOp.lss (AV.cel (AV.atAgg x0 (ys769.getD 0 default) 0 6) 0) (AV.int 0))) ∧
          ((isT (AV.bin Go.BinOp.lss (AV.cel (AV.atAgg x0 (ys769.getD 0 default) 0 6) 0) (AV.int 0))) ∧
          ((AV.flat (AV.int 12)) ∧
          (fSame (AV.int 12) r))))) ∧
        ((isF (AV.bin Go.BinOp.lss (AV.cel (AV.atAgg x0 (ys769.getD 0 default) 0 6) 0) (AV.int 0))) →
          ((AV.binOk Go.BinOp.gtr (AV.cel (AV.atAgg x0 (ys769.getD 0 default) 0 6) 0) (AV.int 200000)) ∧
          ((AV.isBool (AV.bin Go.BinOp.lss (AV.cel (AV.atAgg x0 (ys769.getD 0 default) 0 6) 0) (AV.int 0))) ∧
          ((isF (AV.bin Go.BinOp.lss (AV.cel (AV.atAgg x0 (ys769.getD 0 default) 0 6) 0) (AV.int 0))) ∧
          ((AV.isBool (AV.bin Go.BinOp.gtr (AV.cel (AV.atAgg x0 (ys769.getD 0 default) 0 6) 0) (AV.int 200000))) ∧
          (((isT (AV.bin Go.BinOp.gtr (AV.cel (AV.atAgg x0 (ys769.getD 0 default) 0 6) 0) (AV.int 200000))) →
            ((AV.isBool (AV.bin Go.BinOp.gtr (AV.cel (AV.atAgg x0 (ys769.getD 0 default) 0 6) 0) (AV.int 200000))) ∧
            ((isT (AV.bin Go.BinOp.gtr (AV.cel (AV.atAgg x0 (ys769.getD 0 default) 0 6) 0) (AV.int 200000))) ∧
            ((AV.flat (AV.int 12)) ∧
            (fSame (AV.int 12) r))))) ∧
          ((isF (AV.bin Go.BinOp.gtr (AV.cel (AV.atAgg x0 (ys769.getD 0 default) 0 6) 0) (AV.int 200000))) →
            ((AV.binOk Go.BinOp.gtr (ys769.getD 0 default) (AV.int 0)) ∧
            ((AV.isBool (AV.bin Go.BinOp.gtr (ys769.getD 0 default) (AV.int 0))) ∧
            (((isT (AV.bin Go.BinOp.gtr (ys769.getD 0 default) (AV.int 0))) →
              ((AV.binOk Go.BinOp.sub (ys769.getD 0 default) (AV.int 1)) ∧
              ((AV.isSl x0 6) ∧
              ((AV.inb x0 (AV.bin Go.BinOp.sub (ys769.getD 0 default) (AV.int 1))) ∧
              ((AV.binOk Go.BinOp.leq (AV.cel (AV.atAgg x0 (ys769.getD 0 default) 0 6) 0) (AV.at x0 (AV.bin Go.BinOp.sub (ys769.getD 0 default) (AV.int 1)) 0)) ∧
              ((AV.isBool (AV.bin Go.BinOp.gtr (ys769.getD 0 default) (AV.int 0))) ∧
              ((isT (AV.bin Go.BinOp.gtr (ys769.getD 0 default) (AV.int 0))) ∧
              ((AV.isBool (AV.bin Go.BinOp.gtr (AV.cel (AV.atAgg x0 (ys769.getD 0 default) 0 6) 0) (AV.int 200000))) ∧
              ((isF (AV.bin Go.BinOp.gtr (AV.cel (AV.atAgg x0 (ys769.getD 0 default) 0 6) 0) (AV.int 200000))) ∧
              ((AV.isBool (AV.bin Go.BinOp.leq (AV.cel (AV.atAgg x0 (ys769.getD 0 default) 0 6) 0) (AV.at x0 (AV.bin Go.BinOp.sub (ys769.getD 0 default) (AV.int 1)) 0))) ∧
              (((isT (AV.bin Go.BinOp.leq (AV.cel (AV.atAgg x0 (ys769.getD 0 default) 0 6) 0) (AV.at x0 (AV.bin Go.BinOp.sub (ys769.getD 0 default) (AV.int 1)) 0))) →
                ((AV.flat (AV.int 12)) ∧
                (fSame (AV.int 12) r))) ∧
              ((isF (AV.bin Go.BinOp.leq (AV.cel (AV.atAgg x0 (ys769.getD 0 default) 0 6) 0) (AV.at x0 (AV.bin Go.BinOp.sub (ys769.getD 0 default) (AV.int 1)) 0))) →
                (∃ r3137 : AV, ((Fn Tryd.prog 17 [(AV.agg [(AV.cel (AV.atAgg x0 (ys769.getD 0 default) 0 6) 1), (AV.cel (AV.atAgg x0 (ys769.getD 0 default) 0 6) 2)])] Sh.sc r3137) ∧
                ((AV.binOk Go.BinOp.neq r3137 (AV.int 0)) ∧
                ((AV.isBool (AV.bin Go.BinOp.neq r3137 (AV.int 0))) ∧
                (((isT (AV.bin Go.BinOp.neq r3137 (AV.int 0))) →
                  ((AV.flat r3137) ∧
                  (fSame r3137 r))) ∧
                ((isF (AV.bin Go.BinOp.neq r3137 (AV.int 0))) →
                  ((AV.binOk Go.BinOp.lss (AV.cel (AV.atAgg x0 (ys769.getD 0 default) 0 6) 3) (AV.int 0)) ∧
                  ((AV.isBool (AV.bin Go.BinOp.lss (AV.cel (AV.atAgg x0 (ys769.getD 0 default) 0 6) 3) (AV.int 0))) ∧
                  (((isT (AV.bin Go.BinOp.lss (AV.cel (AV.atAgg x0 (ys769.getD 0 default) 0 6) 3) (AV.int 0))) →
                    ((AV.isBool (AV.bin Go.BinOp.lss (AV.cel (AV.atAgg x0 (ys769.getD 0 default) 0 6) 3) (AV.int 0))) ∧
                    ((isT (AV.bin Go.BinOp.lss (AV.cel (AV.atAgg x0 (ys769.getD 0 default) 0 6) 3) (AV.int 0))) ∧
                    ((AV.flat (AV.int 4)) ∧
                    (fSame (AV.int 4) r))))) ∧
                  ((isF (AV.bin Go.BinOp.lss (AV.cel (AV.atAgg x0 (ys769.getD 0 default) 0 6) 3) (AV.int 0))) →
                    ((AV.binOk Go.BinOp.gtr (AV.cel (AV.atAgg x0 (ys769.getD 0 default) 0 6) 3) (AV.int 60000)) ∧
                    ((AV.isBool (AV.bin Go.BinOp.lss (AV.cel (AV.atAgg x0 (ys769.getD 0 default) 0 6) 3) (AV.int 0))) ∧
                    ((isF (AV.bin Go.BinOp.lss (AV.cel (AV.atAgg x0 (ys769.getD 0 default) 0 6) 3) (AV.int 0))) ∧
                    ((AV.isBool (AV.bin Go.BinOp.gtr (AV.cel (AV.atAgg x0 (ys769.getD 0 default) 0 6) 3) (AV.int 60000))) ∧
                    (((isT (AV.bin Go.BinOp.gtr (AV.cel (AV.atAgg x0 (ys769.getD 0 default) 0 6) 3) (AV.int 60000))) →
                      ((AV.isBool (AV.bin Go.BinOp.gtr (AV.cel (AV.atAgg x0 (ys769.getD 0 default) 0 6) 3) (AV.int 60000))) ∧
                      ((isT (AV.bin Go.BinOp.gtr (AV.cel (AV.atAgg x0 (ys769.getD 0 default) 0 6) 3) (AV.int 60000))) ∧
                      ((AV.flat (AV.int 4)) ∧
                      (fSame (AV.int 4) r))))) ∧
                    ((isF (AV.bin Go.BinOp.gtr (AV.cel (AV.atAgg x0 (ys769.getD 0 default) 0 6) 3) (AV.int 60000))) →
                      ((AV.binOk Go.BinOp.lss (AV.cel (AV.atAgg x0 (ys769.getD 0 default) 0 6) 4) (AV.int 0)) ∧
                      ((AV.isBool (AV.bin Go.BinOp.gtr (AV.cel (AV.atAgg x0 (ys769.getD 0 default) 0 6) 3) (AV.int 60000))) ∧
                      ((isF (AV.bin Go.BinOp.gtr (AV.cel (AV.atAgg x0 (ys769.getD 0 default) 0 6) 3) (AV.int 60000))) ∧
                      ((AV.isBool (AV.bin Go.BinOp.lss (AV.cel (AV.atAgg x0 (ys769.getD 0 default) 0 6) 4) (AV.int 0))) ∧
                      (((isT (AV.bin Go.BinOp.lss (AV.cel (AV.atAgg x0 (ys769.getD 0 default) 0 6) 4) (AV.int 0))) →
                        ((AV.isBool (AV.bin Go.BinOp.lss (AV.cel (AV.atAgg x0 (ys769.getD 0 default) 0 6) 4) (AV.int 0))) ∧
                        ((isT (AV.bin Go.BinOp.lss (AV.cel (AV.atAgg x0 (ys769.getD 0 default) 0 6) 4) (AV.int 0))) ∧
                        ((AV.flat (AV.int 4)) ∧
                        (fSame (AV.int 4) r))))) ∧
                      ((isF (AV.bin Go.BinOp.lss (AV.cel (AV.atAgg x0 (ys769.getD 0 default) 0 6) 4) (AV.int 0))) →
                        ((AV.binOk Go.BinOp.gtr (AV.cel (AV.atAgg x0 (ys769.getD 0 default) 0 6) 4) (AV.int 1000000)) ∧
                        ((AV.isBool (AV.bin Go.BinOp.lss (AV.cel (AV.atAgg x0 (ys769.getD 0 default) 0 6) 4) (AV.int 0))) ∧
                        ((isF (AV.bin Go.BinOp.lss (AV.cel (AV.atAgg x0 (ys769.getD 0 default) 0 6) 4) (AV.int 0))) ∧
                        ((AV.isBool (AV.bin Go.BinOp.gtr (AV.cel (AV.atAgg x0 (ys769.getD 0 default) 0 6) 4) (AV.int 1000000))) ∧
                        (((isT (AV.bin Go.BinOp.gtr (AV.cel (AV.atAgg x0 (ys769.getD 0 default) 0 6) 4) (AV.int 1000000))) →
                          ((AV.isBool (AV.bin Go.BinOp.gtr (AV.cel (AV.atAgg x0 (ys769.getD 0 default) 0 6) 4) (AV.int 1000000))) ∧
                          ((isT (AV.bin Go.BinOp.gtr (AV.cel (AV.atAgg x0 (ys769.getD 0 default) 0 6) 4) (AV.int 1000000))) ∧
                          ((AV.flat (AV.int 4)) ∧
                          (fSame (AV.int 4) r))))) ∧
                        ((isF (AV.bin Go.BinOp.gtr (AV.cel (AV.atAgg x0 (ys769.getD 0 default) 0 6) 4) (AV.int 1000000))) →
                          ((AV.binOk Go.BinOp.lss (AV.cel (AV.atAgg x0 (ys769.getD 0 default) 0 6) 5) (AV.int 0)) ∧
                          ((AV.isBool (AV.bin Go.BinOp.gtr (AV.cel (AV.atAgg x0 (ys769.getD 0 default) 0 6) 4) (AV.int 1000000))) ∧
                          ((isF (AV.bin Go.BinOp.gtr (AV.cel (AV.atAgg x0 (ys769.getD 0 default) 0 6) 4) (AV.int 1000000))) ∧
                          ((AV.isBool (AV.bin Go.BinOp.lss (AV.cel (AV.atAgg x0 (ys769.getD 0 default) 0 6) 5) (AV.int 0))) ∧
                          (((isT (AV.bin Go.BinOp.lss (AV.cel (AV.atAgg x0 (ys769.getD 0 default) 0 6) 5) (AV.int 0))) →
                            ((AV.isBool (AV.bin Go.BinOp.lss (AV.cel (AV.atAgg x0 (ys769.getD 0 default) 0 6) 5) (AV.int 0))) ∧
                            ((isT (AV.bin Go.BinOp.lss (AV.cel (AV.atAgg x0 (ys769.getD 0 default) 0 6) 5) (AV.int 0))) ∧
                            ((AV.flat (AV.int 4)) ∧
                            (fSame (AV.int 4) r))))) ∧
                          ((isF (AV.bin Go.BinOp.lss (AV.cel (AV.atAgg x0 (ys769.getD 0 default) 0 6) 5) (AV.int 0))) →
                            ((AV.binOk Go.BinOp.gtr (AV.cel (AV.atAgg x0 (ys769.getD 0 default) 0 6) 5) (AV.int 60000)) ∧
                            ((AV.isBool (AV.bin Go.BinOp.lss (AV.cel (AV.atAgg x0 (ys769.getD 0 default) 0 6) 5) (AV.int 0))) ∧
                            ((isF (AV.bin Go.BinOp.lss (AV.cel (AV.atAgg x0 (ys769.getD 0 default) 0 6) 5) (AV.int 0))) ∧
                            ((AV.isBool (AV.bin Go.BinOp.gtr (AV.cel (AV.atAgg x0 (ys769.getD 0 default) 0 6) 5) (AV.int 60000))) ∧
                            (((isT (AV.bin Go.BinOp.gtr (AV.cel (AV.atAgg x0 (ys769.getD 0 default) 0 6) 5) (AV.int 60000))) →
                              ((AV.flat (AV.int 4)) ∧
                              (fSame (AV.int 4) r))) ∧
                            ((isF (AV.bin Go.BinOp.gtr (AV.cel (AV.atAgg x0 (ys769.getD 0 default) 0 6) 5) (AV.int 60000))) →
                              ((AV.binOk Go.BinOp.add (ys769.getD 0 default) (AV.int 1)) ∧
                              (again769 [(AV.bin Go.BinOp.add (ys769.getD 0 default) (AV.int 1))])))))))))))))))))))))))))))))))))))))))))))))))))))))) ∧
            ((isF (AV.bin Go.BinOp.gtr (ys769.getD 0 default) (AV.int 0))) →
              ((AV.isBool (AV.bin Go.BinOp.gtr (ys769.getD 0 default) (AV.int 0))) ∧
              ((isF (AV.bin Go.BinOp.gtr (ys769.getD 0 default) (AV.int 0))) ∧
              ((AV.isBool (AV.bin Go.BinOp.gtr (AV.cel (AV.atAgg x0 (ys769.getD 0 default) 0 6) 0) (AV.int 200000))) ∧
              ((isF (AV.bin Go.BinOp.gtr (AV.cel (AV.atAgg x0 (ys769.getD 0 default) 0 6) 0) (AV.int 200000))) ∧
              (∃ r3137 : AV, ((Fn Tryd.prog 17 [(AV.agg [(AV.cel (AV.atAgg x0 (ys769.getD 0 default) 0 6) 1), (AV.cel (AV.atAgg x0 (ys769.getD 0 default) 0 6) 2)])] Sh.sc r3137) ∧
              ((AV.binOk Go.BinOp.neq r3137 (AV.int 0)) ∧
              ((AV.isBool (AV.bin Go.BinOp.neq r3137 (AV.int 0))) ∧
              (((isT (AV.bin Go.BinOp.neq r3137 (AV.int 0))) →
                ((AV.flat r3137) ∧
                (fSame r3137 r))) ∧
              ((isF (AV.bin Go.BinOp.neq r3137 (AV.int 0))) →
                ((AV.binOk Go.BinOp.lss (AV.cel (AV.atAgg x0 (ys769.getD 0 default) 0 6) 3) (AV.int 0)) ∧
                ((AV.isBool (AV.bin Go.BinOp.lss (AV.cel (AV.atAgg x0 (ys769.getD 0 default) 0 6) 3) (AV.int 0))) ∧
                (((isT (AV.bin Go.BinOp.lss (AV.cel (AV.atAgg x0 (ys769.getD 0 default) 0 6) 3) (AV.int 0))) →
                  ((AV.isBool (AV.bin Go.BinOp.lss (AV.cel (AV.atAgg x0 (ys769.getD 0 default) 0 6) 3) (AV.int 0))) ∧
                  ((isT (AV.bin Go.BinOp.lss (AV.cel (AV.atAgg x0 (ys769.getD 0 default) 0 6) 3) (AV.int 0))) ∧
                  ((AV.flat (AV.int 4)) ∧
                  (fSame (AV.int 4) r))))) ∧
                ((isF (AV.bin Go.BinOp.lss (AV.cel (AV.atAgg x0 (ys769.getD 0 default) 0 6) 3) (AV.int 0))) →
                  ((AV.binOk Go.BinOp.gtr (AV.cel (AV.atAgg x0 (ys769.getD 0 default) 0 6) 3) (AV.int 60000)) ∧
                  ((AV.isBool (AV.bin Go.BinOp.lss (AV.cel (AV.atAgg x0 (ys769.getD 0 default) 0 6) 3) (AV.int 0))) ∧
                  ((isF (AV.bin Go.BinOp.lss (AV.cel (AV.atAgg x0 (ys769.getD 0 default) 0 6) 3) (AV.int 0))) ∧
                  ((AV.isBool (AV.bin Go.BinOp.gtr (AV.cel (AV.atAgg x0 (ys769.getD 0 default) 0 6) 3) (AV.int 60000))) ∧
                  (((isT (AV.bin Go.BinOp.gtr (AV.cel (AV.atAgg x0 (ys769.getD 0 default) 0 6) 3) (AV.int 60000))) →
                    ((AV.isBool (AV.bin Go.BinOp.gtr (AV.cel (AV.atAgg x0 (ys769.getD 0 default) 0 6) 3) (AV.int 60000))) ∧
                    ((isT (AV.bin Go.BinOp.gtr (AV.cel (AV.atAgg x0 (ys769.getD 0 default) 0 6) 3) (AV.int 60000))) ∧
                    ((AV.flat (AV.int 4)) ∧
                    (fSame (AV.int 4) r))))) ∧
                  ((isF (AV.bin Go.BinOp.gtr (AV.cel (AV.atAgg x0 (ys769.getD 0 default) 0 6) 3) (AV.int 60000))) →
                    ((AV.binOk Go.BinOp.lss (AV.cel (AV.atAgg x0 (ys769.getD 0 default) 0 6) 4) (AV.int 0)) ∧
                    ((AV.isBool (AV.bin Go.BinOp.gtr (AV.cel (AV.atAgg x0 (ys769.getD 0 default) 0 6) 3) (AV.int 60000))) ∧
                    ((isF (AV.bin Go.BinOp.gtr (AV.cel (AV.atAgg x0 (ys769.getD 0 default) 0 6) 3) (AV.int 60000))) ∧
                    ((AV.isBool (AV.bin Go.BinOp.lss (AV.cel (AV.atAgg x0 (ys769.getD 0 default) 0 6) 4) (AV.int 0))) ∧
                    (((isT (AV.bin Go.BinOp.lss (AV.cel (AV.atAgg x0 (ys769.getD 0 default) 0 6) 4) (AV.int 0))) →
                      ((AV.isBool (AV.bin Go.BinOp.lss (AV.cel (AV.atAgg x0 (ys769.getD 0 default) 0 6) 4) (AV.int 0))) ∧
                      ((isT (AV.bin Go.BinOp.lss (AV.cel (AV.atAgg x0 (ys769.getD 0 default) 0 6) 4) (AV.int 0))) ∧
                      ((AV.flat (AV.int 4)) ∧
                      (fSame (AV.int 4) r))))) ∧
                    ((isF (AV.bin Go.BinOp.lss (AV.cel (AV.atAgg x0 (ys769.getD 0 default) 0 6) 4) (AV.int 0))) →
                      ((AV.binOk Go.BinOp.gtr (AV.cel (AV.atAgg x0 (ys769.getD 0 default) 0 6) 4) (AV.int 1000000)) ∧
                      ((AV.isBool (AV.bin Go.BinOp.lss (AV.cel (AV.atAgg x0 (ys769.getD 0 default) 0 6) 4) (AV.int 0))) ∧
                      ((isF (AV.bin Go.BinOp.lss (AV.cel (AV.atAgg x0 (ys769.getD 0 default) 0 6) 4) (AV.int 0))) ∧
                      ((AV.isBool (AV.bin Go.BinOp.gtr (AV.cel (AV.atAgg x0 (ys769.getD 0 default) 0 6) 4) (AV.int 1000000))) ∧
                      (((isT (AV.bin Go.BinOp.gtr (AV.cel (AV.atAgg x0 (ys769.getD 0 default) 0 6) 4) (AV.int 1000000))) →
                        ((AV.isBool (AV.bin Go.BinOp.gtr (AV.cel (AV.atAgg x0 (ys769.getD 0 default) 0 6) 4) (AV.int 1000000))) ∧
                        ((isT (AV.bin Go.BinOp.gtr (AV.cel (AV.atAgg x0 (ys769.getD 0 default) 0 6) 4) (AV.int 1000000))) ∧
                        ((AV.flat (AV.int 4)) ∧
                        (fSame (AV.int 4) r))))) ∧
                      ((isF (AV.bin Go.BinOp.gtr (AV.cel (AV.atAgg x0 (ys769.getD 0 default) 0 6) 4) (AV.int 1000000))) →
                        ((AV.binOk Go.BinOp.lss (AV.cel (AV.atAgg x0 (ys769.getD 0 default) 0 6) 5) (AV.int 0)) ∧
                        ((AV.isBool (AV.bin Go.BinOp.gtr (AV.cel (AV.atAgg x0 (ys769.getD 0 default) 0 6) 4) (AV.int 1000000))) ∧
                        ((isF (AV.bin Go.BinOp.gtr (AV.cel (AV.atAgg x0 (ys769.getD 0 default) 0 6) 4) (AV.int 1000000))) ∧
                        ((AV.isBool (AV.bin Go.BinOp.lss (AV.cel (AV.atAgg x0 (ys769.getD 0 default) 0 6) 5) (AV.int 0))) ∧
                        (((isT (AV.bin Go.BinOp.lss (AV.cel (AV.atAgg x0 (ys769.getD 0 default) 0 6) 5) (AV.int 0))) →
                          ((AV.isBool (AV.bin Go.BinOp.lss (AV.cel (AV.atAgg x0 (ys769.getD 0 default) 0 6) 5) (AV.int 0))) ∧
                          ((isT (AV.bin Go.BinOp.lss (AV.cel (AV.atAgg x0 (ys769.getD 0 default) 0 6) 5) (AV.int 0))) ∧
                          ((AV.flat (AV.int 4)) ∧
                          (fSame (AV.int 4) r))))) ∧
                        ((isF (AV.bin Go.BinOp.lss (AV.cel (AV.atAgg x0 (ys769.getD 0 default) 0 6) 5) (AV.int 0))) →
                          ((AV.binOk Go.BinOp.gtr (AV.cel (AV.atAgg x0 (ys769.getD 0 default) 0 6) 5) (AV.int 60000)) ∧
                          ((AV.isBool (AV.bin Go.BinOp.lss (AV.cel (AV.atAgg x0 (ys769.getD 0 default) 0 6) 5) (AV.int 0))) ∧
                          ((isF (AV.bin Go.BinOp.lss (AV.cel (AV.atAgg x0 (ys769.getD 0 default) 0 6) 5) (AV.int 0))) ∧
                          ((AV.isBool (AV.bin Go.BinOp.gtr (AV.cel (AV.atAgg x0 (ys769.getD 0 default) 0 6) 5) (AV.int 60000))) ∧
                          (((isT (AV.bin Go.BinOp.gtr (AV.cel (AV.atAgg x0 (ys769.getD 0 default) 0 6) 5) (AV.int 60000))) →
                            ((AV.flat (AV.int 4)) ∧
                            (fSame (AV.int 4) r))) ∧
                          ((isF (AV.bin Go.BinOp.gtr (AV.cel (AV.atAgg x0 (ys769.getD 0 default) 0 6) 5) (AV.int 60000))) →
                            ((AV.binOk Go.BinOp.add (ys769.getD 0 default) (AV.int 1)) ∧
                            (again769 [(AV.bin Go.BinOp.add (ys769.getD 0 default) (AV.int 1))])))))))))))))))))))))))))))))))))))))))))))))))))))))))))))))))) ∧
      ((isF (AV.bin Go.BinOp.lss (ys769.getD 0 default) (AV.len x0))) →
        ((AV.flat (AV.int 0)) ∧
        (fSame (AV.int 0) r))))))))))))))))))) := by kernel_rfl
theorem ends_form (x0 r : AV) : fnF Tryd.prog Γ ann 3 18 Tryd.f18 (Tryd.f18.body.getD .skip) (.nil) [x0] (.tup [.sc, .sc]) r = (((AV.isSl x0 6) ∧
((AV.inb x0 (AV.int 0)) ∧
((AV.isSl x0 6) ∧
((AV.binOk Go.BinOp.sub (AV.len x0) (AV.int 1)) ∧
((AV.isSl x0 6) ∧
((AV.inb x0 (AV.bin Go.BinOp.sub (AV.len x0) (AV.int 1))) ∧
((AV.flat (AV.at x0 (AV.int 0) 0)) ∧
((AV.flat (AV.at x0 (AV.bin Go.BinOp.sub (AV.len x0) (AV.int 1)) 0)) ∧
(fSame (AV.tup [(AV.at x0 (AV.int 0) 0), (AV.at x0 (AV.bin Go.BinOp.sub (AV.len x0) (AV.int 1)) 0)]) r)))))))))) := by kernel_rfl
theorem at_form (x0 x1 r : AV) : fnF Tryd.prog Γ ann 3 19 Tryd.f19 (Tryd.f19.body.getD .skip) (.nil) [x0, x1] (.sc) r = (((fEnt Tryd.prog 34) ∧
(fAllV fun _ => ((AV.isSl x0 6) ∧
(fLoop 769 [(AV.int 0), (AV.len x0)] fun ys769 again769 =>
  ((AV.binOk Go.BinOp.lss (ys769.getD 0 default) (ys769.getD 1 default)) ∧
  ((AV.isBool (AV.bin Go.BinOp.lss (ys769.getD 0 default) (ys769.getD 1 default))) ∧
  (((isT (AV.bin Go.BinOp.lss (ys769.getD 0 default) (ys769.getD 1 default))) →
    ((AV.binOk Go.BinOp.add (ys769.getD 0 default) (ys769.getD 1 default)) ∧
    ((AV.isInt (AV.bin Go.BinOp.add (ys769.getD 0 default) (ys769.getD 1 default))) ∧
    ((AV.shfOk (AV.conv Go.IntKind.u64 (AV.bin Go.BinOp.add (ys769.getD 0 default) (ys769.getD 1 default))) (AV.lit (Value.int Go.IntKind.u64 1))) ∧
    ((AV.isInt (AV.shf Go.BinOp.shr (AV.conv Go.IntKind.u64 (AV.bin Go.BinOp.add (ys769.getD 0 default) (ys769.getD 1 default))) (AV.lit (Value.int Go.IntKind.u64 1)))) ∧
    ((AV.isSl x0 6) ∧
    ((AV.inb x0 (AV.conv Go.IntKind.i64 (AV.shf Go.BinOp.shr (AV.conv Go.IntKind.u64 (AV.bin Go.BinOp.add (ys769.getD 0 default) (ys769.getD 1 default))) (AV.lit (Value.int Go.IntKind.u64 1))))) ∧
    ((fEnt Tryd.prog 35) ∧
    (fAllV fun _ => ((AV.isAgg (AV.atAgg x0 (AV.conv Go.IntKind.i64 (AV.shf Go.BinOp.shr (AV.conv Go.IntKind.u64 (AV.bin Go.BinOp.add (ys769.getD 0 default) (ys769.getD 1 default))) (AV.lit (Value.int Go.IntKind.u64 1)))) 0 6) 6) ∧
    ((AV.binOk Go.BinOp.sub (AV.cel (AV.atAgg x0 (AV.conv Go.IntKind.i64 (AV.shf Go.BinOp.shr (AV.conv Go.IntKind.u64 (AV.bin Go.BinOp.add (ys769.getD 0 default) (ys769.getD 1 default))) (AV.lit (Value.int Go.IntKind.u64 1)))) 0 6) 0) x1) ∧
    ((AV.binOk Go.BinOp.lss (AV.bin Go.BinOp.sub (AV.cel (AV.atAgg x0 (AV.conv Go.IntKind.i64 (AV.shf Go.BinOp.shr (AV.conv Go.IntKind.u64 (AV.bin Go.BinOp.add (ys769.getD 0 default) (ys769.getD 1 default))) (AV.lit (Value.int Go.IntKind.u64 1)))) 0 6) 0) x1) (AV.int 0)) ∧
    ((AV.isBool (AV.bin Go.BinOp.lss (AV.bin Go.BinOp.sub (AV.cel (AV.atAgg x0 (AV.conv Go.IntKind.i64 (AV.shf Go.BinOp.shr (AV.conv Go.IntKind.u64 (AV.bin Go.BinOp.add (ys769.getD 0 default) (ys769.getD 1 default))) (AV.lit (Value.int Go.IntKind.u64 1)))) 0 6) 0) x1) (AV.int 0))) ∧
    (((isT (AV.bin Go.BinOp.lss (AV.bin Go.BinOp.sub (AV.cel (AV.atAgg x0 (AV.conv Go.IntKind.i64 (AV.shf Go.BinOp.shr (AV.conv Go.IntKind.u64 (AV.bin Go.BinOp.add (ys769.getD 0 default) (ys769.getD 1 default))) (AV.lit (Value.int Go.IntKind.u64 1)))) 0 6) 0) x1) (AV.int 0))) →
      ((AV.binOk Go.BinOp.add (AV.conv Go.IntKind.i64 (AV.shf Go.BinOp.shr (AV.conv Go.IntKind.u64 (AV.bin Go.BinOp.add (ys769.getD 0 default) (ys769.getD 1 default))) (AV.lit (Value.int Go.IntKind.u64 1)))) (AV.int 1)) ∧
      (again769 [(AV.bin Go.BinOp.add (AV.conv Go.IntKind.i64 (AV.shf Go.BinOp.shr (AV.conv Go.IntKind.u64 (AV.bin Go.BinOp.add (ys769.getD 0 default) (ys769.getD 1 default))) (AV.lit (Value.int Go.IntKind.u64 1)))) (AV.int 1)), (ys769.getD 1 default)]))) ∧
    ((isF (AV.bin Go.BinOp.lss (AV.bin Go.BinOp.sub (AV.cel (AV.atAgg x0 (AV.conv Go.IntKind.i64 (AV.shf Go.BinOp.shr (AV.conv Go.IntKind.u64 (AV.bin Go.BinOp.add (ys769.getD 0 default) (ys769.getD 1 default))) (AV.lit (Value.int Go.IntKind.u64 1)))) 0 6) 0) x1) (AV.int 0))) →
      (again769 [(ys769.getD 0 default), (AV.conv Go.IntKind.i64 (AV.shf Go.BinOp.shr (AV.conv Go.IntKind.u64 (AV.bin Go.BinOp.add (ys769.getD 0 default) (ys769.getD 1 default))) (AV.lit (Value.int Go.IntKind.u64 1))))])))))))))))))))) ∧
  ((isF (AV.bin Go.BinOp.lss (ys769.getD 0 default) (ys769.getD 1 default))) →
    ((AV.binOk Go.BinOp.lss (ys769.getD 0 default) (AV.len x0)) ∧
    ((AV.isBool (AV.bin Go.BinOp.lss (ys769.getD 0 default) (AV.len x0))) ∧
    (((isT (AV.bin Go.BinOp.lss (ys769.getD 0 default) (AV.len x0))) →
      ((AV.isSl x0 6) ∧
      ((AV.inb x0 (ys769.getD 0 default)) ∧
      ((fEnt Tryd.prog 35) ∧
      (fAllV fun _ => ((AV.isAgg (AV.atAgg x0 (ys769.getD 0 default) 0 6) 6) ∧
      ((AV.binOk Go.BinOp.sub (AV.cel (AV.atAgg x0 (ys769.getD 0 default) 0 6) 0) x1) ∧
      ((AV.binOk Go.BinOp.eql (AV.bin Go.BinOp.sub (AV.cel (AV.atAgg x0 (ys769.getD 0 default) 0 6) 0) x1) (AV.int 0)) ∧
      ((AV.isBool (AV.bin Go.BinOp.lss (ys769.getD 0 default) (AV.len x0))) ∧
      ((isT (AV.bin Go.BinOp.lss (ys769.getD 0 default) (AV.len x0))) ∧
      ((AV.isBool (AV.bin Go.BinOp.eql (AV.bin Go.BinOp.sub (AV.cel (AV.atAgg x0 (ys769.getD 0 default) 0 6) 0) x1) (AV.int 0))) ∧
      (((isT (AV.bin Go.BinOp.eql (AV.bin Go.BinOp.sub (AV.cel (AV.atAgg x0 (ys769.getD 0 default) 0 6) 0) x1) (AV.int 0))) →
        ((AV.isSl x0 6) ∧
        ((AV.inb x0 (ys769.getD 0 default)) ∧
        ((AV.isAgg (AV.atAgg x0 (ys769.getD 0 default) 0 6) 6) ∧
        ((AV.flat (AV.agg [(AV.cel (AV.atAgg x0 (ys769.getD 0 default) 0 6) 0), (AV.cel (AV.atAgg x0 (ys769.getD 0 default) 0 6) 1), (AV.cel (AV.atAgg x0 (ys769.getD 0 default) 0 6) 2), (AV.cel (AV.atAgg x0 (ys769.getD 0 default) 0 6) 3), (AV.cel (AV.atAgg x0 (ys769.getD 0 default) 0 6) 4), (AV.cel (AV.atAgg x0 (ys769.getD 0 default) 0 6) 5)])) ∧
        (fSame (AV.agg [(AV.cel (AV.atAgg x0 (ys769.getD 0 default) 0 6) 0), (AV.cel (AV.atAgg x0 (ys769.getD 0 default) 0 6) 1), (AV.cel (AV.atAgg x0 (ys769.getD 0 default) 0 6) 2), (AV.cel (AV.atAgg x0 (ys769.getD 0 default) 0 6) 3), (AV.cel (AV.atAgg x0 (ys769.getD 0 default) 0 6) 4), (AV.cel (AV.atAgg x0 (ys769.getD 0 default) 0 6) 5)]) r)))))) ∧
      ((isF (AV.bin Go.BinOp.eql (AV.bin Go.BinOp.sub (AV.cel (AV.atAgg x0 (ys769.getD 0 default) 0 6) 0) x1) (AV.int 0))) →
        ((AV.binOk Go.BinOp.sub (ys769.getD 0 default) (AV.int 1)) ∧
        ((AV.isSl x0 6) ∧
        ((AV.inb x0 (AV.bin Go.BinOp.sub (ys769.getD 0 default) (AV.int 1))) ∧
        ((AV.isSl x0 6) ∧
        ((AV.inb x0 (ys769.getD 0 default)) ∧
        ((AV.isAgg (AV.atAgg x0 (AV.bin Go.BinOp.sub (ys769.getD 0 default) (AV.int 1)) 0 6) 6) ∧
        ((AV.isAgg (AV.atAgg x0 (ys769.getD 0 default) 0 6) 6) ∧
        ((AV.binOk Go.BinOp.sub x1 (AV.cel (AV.atAgg x0 (AV.bin Go.BinOp.sub (ys769.getD 0 default) (AV.int 1)) 0 6) 0)) ∧
        ((AV.binOk Go.BinOp.sub (AV.cel (AV.atAgg x0 (ys769.getD 0 default) 0 6) 0) (AV.cel (AV.atAgg x0 (AV.bin Go.BinOp.sub (ys769.getD 0 default) (AV.int 1)) 0 6) 0)) ∧
        (∃ r5249 : AV, ((Fn Tryd.prog 36 [(AV.agg [(AV.cel (AV.atAgg x0 (AV.bin Go.BinOp.sub (ys769.getD 0 default) (AV.int 1)) 0 6) 1), (AV.cel (AV.atAgg x0 (AV.bin Go.BinOp.sub (ys769.getD 0 default) (AV.int 1)) 0 6) 2)]), (AV.agg [(AV.cel (AV.atAgg x0 (ys769.getD 0 default) 0 6) 1), (AV.cel (AV.atAgg x0 (ys769.getD 0 default) 0 6) 2)]), (AV.bin Go.BinOp.sub x1 (AV.cel (AV.atAgg x0 (AV.bin Go.BinOp.sub (ys769.getD 0 default) (AV.int 1)) 0 6) 0)), (AV.bin Go.BinOp.sub (AV.cel (AV.atAgg x0 (ys769.getD 0 default) 0 6) 0) (AV.cel (AV.atAgg x0 (AV.bin Go.BinOp.sub (ys769.getD 0 default) (AV.int 1)) 0 6) 0))] (Sh.tup [Sh.sc, Sh.sc]) r5249) ∧
        ((AV.isAgg (AV.prj r5249 0) 2) ∧
        ((AV.binOk Go.BinOp.sub (AV.cel (AV.atAgg x0 (ys769.getD 0 default) 0 6) 3) (AV.cel (AV.atAgg x0 (AV.bin Go.BinOp.sub (ys769.getD 0 default) (AV.int 1)) 0 6) 3)) ∧
        ((AV.binOk Go.BinOp.mul (AV.bin Go.BinOp.sub (AV.cel (AV.atAgg x0 (ys769.getD 0 default) 0 6) 3) (AV.cel (AV.atAgg x0 (AV.bin Go.BinOp.sub (ys769.getD 0 default) (AV.int 1)) 0 6) 3)) (AV.bin Go.BinOp.sub x1 (AV.cel (AV.atAgg x0 (AV.bin Go.BinOp.sub (ys769.getD 0 default) (AV.int 1)) 0 6) 0))) ∧
        (∃ r6337 : AV, ((Fn Tryd.prog 37 [(AV.bin Go.BinOp.mul (AV.bin Go.BinOp.sub (AV.cel (AV.atAgg x0 (ys769.getD 0 default) 0 6) 3) (AV.cel (AV.atAgg x0 (AV.bin Go.BinOp.sub (ys769.getD 0 default) (AV.int 1)) 0 6) 3)) (AV.bin Go.BinOp.sub x1 (AV.cel (AV.atAgg x0 (AV.bin Go.BinOp.sub (ys769.getD 0 default) (AV.int 1)) 0 6) 0))), (AV.bin Go.BinOp.sub (AV.cel (AV.atAgg x0 (ys769.getD 0 default) 0 6) 0) (AV.cel (AV.atAgg x0 (AV.bin Go.BinOp.sub (ys769.getD 0 default) (AV.int 1)) 0 6) 0))] (Sh.tup [Sh.sc, Sh.sc]) r6337) ∧
        ((AV.binOk Go.BinOp.sub (AV.cel (AV.atAgg x0 (ys769.getD 0 default) 0 6) 4) (AV.cel (AV.atAgg x0 (AV.bin Go.BinOp.sub (ys769.getD 0 default) (AV.int 1)) 0 6) 4)) ∧
        ((AV.binOk Go.BinOp.mul (AV.bin Go.BinOp.sub (AV.cel (AV.atAgg x0 (ys769.getD 0 default) 0 6) 4) (AV.cel (AV.atAgg x0 (AV.bin Go.BinOp.sub (ys769.getD 0 default) (AV.int 1)) 0 6) 4)) (AV.bin Go.BinOp.sub x1 (AV.cel (AV.atAgg x0 (AV.bin Go.BinOp.sub (ys769.getD 0 default) (AV.int 1)) 0 6) 0))) ∧
        (∃ r7233 : AV, ((Fn Tryd.prog 30 [(AV.bin Go.BinOp.mul (AV.bin Go.BinOp.sub (AV.cel (AV.atAgg x0 (ys769.getD 0 default) 0 6) 4) (AV.cel (AV.atAgg x0 (AV.bin Go.BinOp.sub (ys769.getD 0 default) (AV.int 1)) 0 6) 4)) (AV.bin Go.BinOp.sub x1 (AV.cel (AV.atAgg x0 (AV.bin Go.BinOp.sub (ys769.getD 0 default) (AV.int 1)) 0 6) 0))), (AV.bin Go.BinOp.sub (AV.cel (AV.atAgg x0 (ys769.getD 0 default) 0 6) 0) (AV.cel (AV.atAgg x0 (AV.bin Go.BinOp.sub (ys769.getD 0 default) (AV.int 1)) 0 6) 0))] (Sh.tup [Sh.sc, Sh.sc]) r7233) ∧
        ((AV.binOk Go.BinOp.sub (AV.cel (AV.atAgg x0 (ys769.getD 0 default) 0 6) 5) (AV.cel (AV.atAgg x0 (AV.bin Go.BinOp.sub (ys769.getD 0 default) (AV.int 1)) 0 6) 5)) ∧
        ((AV.binOk Go.BinOp.mul (AV.bin Go.BinOp.sub (AV.cel (AV.atAgg x0 (ys769.getD 0 default) 0 6) 5) (AV.cel (AV.atAgg x0 (AV.bin Go.BinOp.sub (ys769.getD 0 default) (AV.int 1)) 0 6) 5)) (AV.bin Go.BinOp.sub x1 (AV.cel (AV.atAgg x0 (AV.bin Go.BinOp.sub (ys769.getD 0 default) (AV.int 1)) 0 6) 0))) ∧
        (∃ r8129 : AV, ((Fn Tryd.prog 30 [(AV.bin Go.BinOp.mul (AV.bin Go.BinOp.sub (AV.cel (AV.atAgg x0 (ys769.getD 0 default) 0 6) 5) (AV.cel (AV.atAgg x0 (AV.bin Go.BinOp.sub (ys769.getD 0 default) (AV.int 1)) 0 6) 5)) (AV.bin Go.BinOp.sub x1 (AV.cel (AV.atAgg x0 (AV.bin Go.BinOp.sub (ys769.getD 0 default) (AV.int 1)) 0 6) 0))), (AV.bin Go.BinOp.sub (AV.cel (AV.atAgg x0 (ys769.getD 0 default) 0 6) 0) (AV.cel (AV.atAgg x0 (AV.bin Go.BinOp.sub (ys769.getD 0 default) (AV.int 1)) 0 6) 0))] (Sh.tup [Sh.sc, Sh.sc]) r8129) ∧
        ((AV.binOk Go.BinOp.add (AV.cel (AV.atAgg x0 (AV.bin Go.BinOp.sub (ys769.getD 0 default) (AV.int 1)) 0 6) 3) (AV.prj r6337 0)) ∧
        ((AV.isOne x1) ∧
        ((AV.isOne (AV.bin Go.BinOp.add (AV.cel (AV.atAgg x0 (AV.bin Go.BinOp.sub (ys769.getD 0 default) (AV.int 1)) 0 6) 3) (AV.prj r6337 0))) ∧
        ((AV.binOk Go.BinOp.add (AV.cel (AV.atAgg x0 (AV.bin Go.BinOp.sub (ys769.getD 0 default) (AV.int 1)) 0 6) 4) (AV.prj r7233 0)) ∧
        ((AV.binOk Go.BinOp.add (AV.cel (AV.atAgg x0 (AV.bin Go.BinOp.sub (ys769.getD 0 default) (AV.int 1)) 0 6) 5) (AV.prj r8129 0)) ∧
        ((AV.isOne (AV.bin Go.BinOp.add (AV.cel (AV.atAgg x0 (AV.bin Go.BinOp.sub (ys769.getD 0 default) (AV.int 1)) 0 6) 4) (AV.prj r7233 0))) ∧
        ((AV.isOne (AV.bin Go.BinOp.add (AV.cel (AV.atAgg x0 (AV.bin Go.BinOp.sub (ys769.getD 0 default) (AV.int 1)) 0 6) 5) (AV.prj r8129 0))) ∧
        ((AV.flat (AV.agg [x1, (AV.cel (AV.prj r5249 0) 0), (AV.cel (AV.prj r5249 0) 1), (AV.bin Go.BinOp.add (AV.cel (AV.atAgg x0 (AV.bin Go.BinOp.sub (ys769.getD 0 default) (AV.int 1)) 0 6) 3) (AV.prj r6337 0)), (AV.bin Go.BinOp.add (AV.cel (AV.atAgg x0 (AV.bin Go.BinOp.sub (ys769.getD 0 default) (AV.int 1)) 0 6) 4) (AV.prj r7233 0)), (AV.bin Go.BinOp.add (AV.cel (AV.atAgg x0 (AV.bin Go.BinOp.sub (ys769.getD 0 default) (AV.int 1)) 0 6) 5) (AV.prj r8129 0))])) ∧
        (fSame (AV.agg [x1, (AV.cel (AV.prj r5249 0) 0), (AV.cel (AV.prj r5249 0) 1), (AV.bin Go.BinOp.add (AV.cel (AV.atAgg x0 (AV.bin Go.BinOp.sub (ys769.getD 0 default) (AV.int 1)) 0 6) 3) (AV.prj r6337 0)), (AV.bin Go.BinOp.add (AV.cel (AV.atAgg x0 (AV.bin Go.BinOp.sub (ys769.getD 0 default) (AV.int 1)) 0 6) 4) (AV.prj r7233 0)), (AV.bin Go.BinOp.add (AV.cel (AV.atAgg x0 (AV.bin Go.BinOp.sub (ys769.getD 0 default) (AV.int 1)) 0 6) 5) (AV.prj r8129 0))]) r)))))))))))))))))))))))))))))))))))))))))))))) ∧
    ((isF (AV.bin Go.BinOp.lss (ys769.getD 0 default) (AV.len x0))) →
      ((AV.isBool (AV.bin Go.BinOp.lss (ys769.getD 0 default) (AV.len x0))) ∧
      ((isF (AV.bin Go.BinOp.lss (ys769.getD 0 default) (AV.len x0))) ∧
      ((AV.binOk Go.BinOp.sub (ys769.getD 0 default) (AV.int 1)) ∧
      ((AV.isSl x0 6) ∧
      ((AV.inb x0 (AV.bin Go.BinOp.sub (ys769.getD 0 default) (AV.int 1))) ∧
      ((AV.isSl x0 6) ∧
      ((AV.inb x0 (ys769.getD 0 default)) ∧
      ((AV.isAgg (AV.atAgg x0 (AV.bin Go.BinOp.sub (ys769.getD 0 default) (AV.int 1)) 0 6) 6) ∧
      ((AV.isAgg (AV.atAgg x0 (ys769.getD 0 default) 0 6) 6) ∧
      ((AV.binOk Go.BinOp.sub x1 (AV.cel (AV.atAgg x0 (AV.bin Go.BinOp.sub (ys769.getD 0 default) (AV.int 1)) 0 6) 0)) ∧
      ((AV.binOk Go.BinOp.sub (AV.cel (AV.atAgg x0 (ys769.getD 0 default) 0 6) 0) (AV.cel (AV.atAgg x0 (AV.bin Go.BinOp.sub (ys769.getD 0 default) (AV.int 1)) 0 6) 0)) ∧
      (∃ r4673 : AV, ((Fn Tryd.prog 36 [(AV.agg [(AV.cel (AV.atAgg x0 (AV.bin Go.BinOp.sub (ys769.getD 0 default) (AV.int 1)) 0 6) 1), (AV.cel (AV.atAgg x0 (AV.bin Go.BinOp.sub (ys769.getD 0 default) (AV.int 1)) 0 6) 2)]), (AV.agg [(AV.cel (AV.atAgg x0 (ys769.getD 0 default) 0 6) 1), (AV.cel (AV.atAgg x0 (ys769.getD 0 default) 0 6) 2)]), (AV.bin Go.BinOp.sub x1 (AV.cel (AV.atAgg x0 (AV.bin Go.BinOp.sub (ys769.getD 0 default) (AV.int 1)) 0 6) 0)), (AV.bin Go.BinOp.sub (AV.cel (AV.atAgg x0 (ys769.getD 0 default) 0 6) 0) (AV.cel (AV.atAgg x0 (AV.bin Go.BinOp.sub (ys769.getD 0 default) (AV.int 1)) 0 6) 0))] (Sh.tup [Sh.sc, Sh.sc]) r4673) ∧
      ((AV.isAgg (AV.prj r4673 0) 2) ∧
      ((AV.binOk Go.BinOp.sub (AV.cel (AV.atAgg x0 (ys769.getD 0 default) 0 6) 3) (AV.cel (AV.atAgg x0 (AV.bin Go.BinOp.sub (ys769.getD 0 default) (AV.int 1)) 0 6) 3)) ∧
      ((AV.binOk Go.BinOp.mul (AV.bin Go.BinOp.sub (AV.cel (AV.atAgg x0 (ys769.getD 0 default) 0 6) 3) (AV.cel (AV.atAgg x0 (AV.bin Go.BinOp.sub (ys769.getD 0 default) (AV.int 1)) 0 6) 3)) (AV.bin Go.BinOp.sub x1 (AV.cel (AV.atAgg x0 (AV.bin Go.BinOp.sub (ys769.getD 0 default) (AV.int 1)) 0 6) 0))) ∧
      (∃ r5761 : AV, ((Fn Tryd.prog 37 [(AV.bin Go.BinOp.mul (AV.bin Go.BinOp.sub (AV.cel (AV.atAgg x0 (ys769.getD 0 default) 0 6) 3) (AV.cel (AV.atAgg x0 (AV.bin Go.BinOp.sub (ys769.getD 0 default) (AV.int 1)) 0 6) 3)) (AV.bin Go.BinOp.sub x1 (AV.cel (AV.atAgg x0 (AV.bin Go.BinOp.sub (ys769.getD 0 default) (AV.int 1)) 0 6) 0))), (AV.bin Go.BinOp.sub (AV.cel (AV.atAgg x0 (ys769.getD 0 default) 0 6) 0) (AV.cel (AV.atAgg x0 (AV.bin Go.BinOp.sub (ys769.getD 0 default) (AV.int 1)) 0 6) 0))] (Sh.tup [Sh.sc, Sh.sc]) r5761) ∧
      ((AV.binOk Go.BinOp.sub (AV.cel (AV.atAgg x0 (ys769.getD 0 default) 0 6) 4) (AV.cel (AV.atAgg x0 (AV.bin Go.BinOp.sub (ys769.getD 0 default) (AV.int 1)) 0 6) 4)) ∧
      ((AV.binOk Go.BinOp.mul (AV.bin Go.BinOp.sub (AV.cel (AV.atAgg x0 (ys769.getD 0 default) 0 6) 4) (AV.cel (AV.atAgg x0 (AV.bin Go.BinOp.sub (ys769.getD 0 default) (AV.int 1)) 0 6) 4)) (AV.bin Go.BinOp.sub x1 (AV.cel (AV.atAgg x0 (AV.bin Go.BinOp.sub (ys769.getD 0 default) (AV.int 1)) 0 6) 0))) ∧
      (∃ r6657 : AV, ((Fn Tryd.prog 30 [(AV.bin Go.BinOp.mul (AV.bin Go.BinOp.sub (AV.cel (AV.atAgg x0 (ys769.getD 0 default) 0 6) 4) (AV.cel (AV.atAgg x0 (AV.bin Go.BinOp.sub (ys769.getD 0 default) (AV.int 1)) 0 6) 4)) (AV.bin Go.BinOp.sub x1 (AV.cel (AV.atAgg x0 (AV.bin Go.BinOp.sub (ys769.getD 0 default) (AV.int 1)) 0 6) 0))), (AV.bin Go.BinOp.sub (AV.cel (AV.atAgg x0 (ys769.getD 0 default) 0 6) 0) (AV.cel (AV.atAgg x0 (AV.bin Go.BinOp.sub (ys769.getD 0 default) (AV.int 1)) 0 6) 0))] (Sh.tup [Sh.sc, Sh.sc]) r6657) ∧
      ((AV.binOk Go.BinOp.sub (AV.cel (AV.atAgg x0 (ys769.getD 0 default) 0 6) 5) (AV.cel (AV.atAgg x0 (AV.bin Go.BinOp.sub (ys769.getD 0 default) (AV.int 1)) 0 6) 5)) ∧
      ((AV.binOk Go.BinOp.mul (AV.bin Go.BinOp.sub (AV.cel (AV.atAgg x0 (ys769.getD 0 default) 0 6) 5) (AV.cel (AV.atAgg x0 (AV.bin Go.BinOp.sub (ys769.getD 0 default) (AV.int 1)) 0 6) 5)) (AV.bin Go.BinOp.sub x1 (AV.cel (AV.atAgg x0 (AV.bin Go.BinOp.sub (ys769.getD 0 default) (AV.int 1)) 0 6) 0))) ∧
      (∃ r7553 : AV, ((Fn Tryd.prog 30 [(AV.bin Go.BinOp.mul (AV.bin Go.BinOp.sub (AV.cel (AV.atAgg x0 (ys769.getD 0 default) 0 6) 5) (AV.cel (AV.atAgg x0 (AV.bin Go.BinOp.sub (ys769.getD 0 default) (AV.int 1)) 0 6) 5)) (AV.bin Go.BinOp.sub x1 (AV.cel (AV.atAgg x0 (AV.bin Go.BinOp.sub (ys769.getD 0 default) (AV.int 1)) 0 6) 0))), (AV.bin Go.BinOp.sub (AV.cel (AV.atAgg x0 (ys769.getD 0 default) 0 6) 0) (AV.cel (AV.atAgg x0 (AV.bin Go.BinOp.sub (ys769.getD 0 default) (AV.int 1)) 0 6) 0))] (Sh.tup [Sh.sc, Sh.sc]) r7553) ∧
      ((AV.binOk Go.BinOp.add (AV.cel (AV.atAgg x0 (AV.bin Go.BinOp.sub (ys769.getD 0 default) (AV.int 1)) 0 6) 3) (AV.prj r5761 0)) ∧
      ((AV.isOne x1) ∧
      ((AV.isOne (AV.bin Go.BinOp.add (AV.cel (AV.atAgg x0 (AV.bin Go.BinOp.sub (ys769.getD 0 default) (AV.int 1)) 0 6) 3) (AV.prj r5761 0))) ∧
      ((AV.binOk Go.BinOp.add (AV.cel (AV.atAgg x0 (AV.bin Go.BinOp.sub (ys769.getD 0 default) (AV.int 1)) 0 6) 4) (AV.prj r6657 0)) ∧
      ((AV.binOk Go.BinOp.add (AV.cel (AV.atAgg x0 (AV.bin Go.BinOp.sub (ys769.getD 0 default) (AV.int 1)) 0 6) 5) (AV.prj r7553 0)) ∧
      ((AV.isOne (AV.bin Go.BinOp.add (AV.cel (AV.atAgg x0 (AV.bin Go.BinOp.sub (ys769.getD 0 default) (AV.int 1)) 0 6) 4) (AV.prj r6657 0))) ∧
      ((AV.isOne (AV.bin Go.BinOp.add (AV.cel (AV.atAgg x0 (AV.bin Go.BinOp.sub (ys769.getD 0 default) (AV.int 1)) 0 6) 5) (AV.prj r7553 0))) ∧
      ((AV.flat (AV.agg [x1, (AV.cel (AV.prj r4673 0) 0), (AV.cel (AV.prj r4673 0) 1), (AV.bin Go.BinOp.add (AV.cel (AV.atAgg x0 (AV.bin Go.BinOp.sub (ys769.getD 0 default) (AV.int 1)) 0 6) 3) (AV.prj r5761 0)), (AV.bin Go.BinOp.add (AV.cel (AV.atAgg x0 (AV.bin Go.BinOp.sub (ys769.getD 0 default) (AV.int 1)) 0 6) 4) (AV.prj r6657 0)), (AV.bin Go.BinOp.add (AV.cel (AV.atAgg x0 (AV.bin Go.BinOp.sub (ys769.getD 0 default) (AV.int 1)) 0 6) 5) (AV.prj r7553 0))])) ∧
      (fSame (AV.agg [x1, (AV.cel (AV.prj r4673 0) 0), (AV.cel (AV.prj r4673 0) 1), (AV.bin Go.BinOp.add (AV.cel (AV.atAgg x0 (AV.bin Go.BinOp.sub (ys769.getD 0 default) (AV.int 1)) 0 6) 3) (AV.prj r5761 0)), (AV.bin Go.BinOp.add (AV.cel (AV.atAgg x0 (AV.bin Go.BinOp.sub (ys769.getD 0 default) (AV.int 1)) 0 6) 4) (AV.prj r6657 0)), (AV.bin Go.BinOp.add (AV.cel (AV.atAgg x0 (AV.bin Go.BinOp.sub (ys769.getD 0 default) (AV.int 1)) 0 6) 5) (AV.prj r7553 0))]) r)))))))))))))))))))))))))))))))))))))))))))))))) := by kernel_rfl
theorem tat_form (x0 x1 r : AV) : fnF Tryd.prog Γ ann 3 8 Tryd.f8 (Tryd.f8.body.getD .skip) (.nil) [x0, x1] (.tup [.sc, .sc]) r = ((∃ r193 : AV, ((Fn Tryd.prog 7 [x0] Sh.sc r193) ∧
((AV.binOk Go.BinOp.neq r193 (AV.int 0)) ∧
((AV.isBool (AV.bin Go.BinOp.neq r193 (AV.int 0))) ∧
(((isT (AV.bin Go.BinOp.neq r193 (AV.int 0))) →
  ((AV.flat (AV.agg [(AV.int 0), (AV.int 0), (AV.int 0), (AV.int 0), (AV.int 0), (AV.int 0)])) ∧
  ((AV.flat r193) ∧
  (fSame (AV.tup [(AV.agg [(AV.int 0), (AV.int 0), (AV.int 0), (AV.int 0), (AV.int 0), (AV.int 0)]), r193]) r)))) ∧
((isF (AV.bin Go.BinOp.neq r193 (AV.int 0))) →
  (∃ r513 : AV, ((Fn Tryd.prog 18 [x0] (Sh.tup [Sh.sc, Sh.sc]) r513) ∧
  ((AV.binOk Go.BinOp.lss x1 (AV.prj r513 0)) ∧
  ((AV.isBool (AV.bin Go.BinOp.lss x1 (AV.prj r513 0))) ∧
  (((isT (AV.bin Go.BinOp.lss x1 (AV.prj r513 0))) →
    ((AV.isBool (AV.bin Go.BinOp.lss x1 (AV.prj r513 0))) ∧
    ((isT (AV.bin Go.BinOp.lss x1 (AV.prj r513 0))) ∧
    ((AV.flat (AV.agg [(AV.int 0), (AV.int 0), (AV.int 0), (AV.int 0), (AV.int 0), (AV.int 0)])) ∧
    ((AV.flat (AV.int 12)) ∧
    (fSame (AV.tup [(AV.agg [(AV.int 0), (AV.int 0), (AV.int 0), (AV.int 0), (AV.int 0), (AV.int 0)]), (AV.int 12)]) r)))))) ∧
  ((isF (AV.bin Go.BinOp.lss x1 (AV.prj r513 0))) →
    ((AV.binOk Go.BinOp.gtr x1 (AV.prj r513 1)) ∧
    ((AV.isBool (AV.bin Go.BinOp.lss x1 (AV.prj r513 0))) ∧
    ((isF (AV.bin Go.BinOp.lss x1 (AV.prj r513 0))) ∧
    ((AV.isBool (AV.bin Go.BinOp.gtr x1 (AV.prj r513 1))) ∧
    (((isT (AV.bin Go.BinOp.gtr x1 (AV.prj r513 1))) →
      ((AV.flat (AV.agg [(AV.int 0), (AV.int 0), (AV.int 0), (AV.int 0), (AV.int 0), (AV.int 0)])) ∧
      ((AV.flat (AV.int 12)) ∧
      (fSame (AV.tup [(AV.agg [(AV.int 0), (AV.int 0), (AV.int 0), (AV.int 0), (AV.int 0), (AV.int 0)]), (AV.int 12)]) r)))) ∧
    ((isF (AV.bin Go.BinOp.gtr x1 (AV.prj r513 1))) →
      (∃ r1537 : AV, ((Fn Tryd.prog 19 [x0, x1] Sh.sc r1537) ∧
      ((AV.isAgg r1537 6) ∧
      ((AV.flat (AV.agg [(AV.cel r1537 0), (AV.cel r1537 1), (AV.cel r1537 2), (AV.cel r1537 3), (AV.cel r1537 4), (AV.cel r1537 5)])) ∧
      ((AV.flat (AV.int 0)) ∧
      (fSame (AV.tup [(AV.agg [(AV.cel r1537 0), (AV.cel r1537 1), (AV.cel r1537 2), (AV.cel r1537 3), (AV.cel r1537 4), (AV.cel r1537 5)]), (AV.int 0)]) r))))))))))))))))))))))))) := by kernel_rfl
end SecF
end Go.Proofs.YtocgoabplafoeaaDoor
/- effects: what the run ends in. -/
namespace Go.Proofs.YtocgoabplafoeaaDoor
open Go.RowKit
set_option linter.unusedVariables false
set_option maxRecDepth 100000
namespace EffF
--GAMMA
def Γ : FuncId → Option Ca := fun f =>
  if f = 7 ∨ f = 17 ∨ f = 22 ∨ f = 24 ∨ f = 40 ∨ f = 38 ∨ f = 16 ∨ f = 15 ∨ f = 5 ∨ f = 10 ∨ f = 29 ∨ f = 20 ∨ f = 21 ∨ f = 23 ∨ f = 25 then some (.fn .sc)
  else if f = 8 ∨ f = 37 ∨ f = 30 ∨ f = 11 ∨ f = 6 then some (.fn (.tup [.sc, .sc]))
  else if f = 14 ∨ f = 27 ∨ f = 28 then some (.fn (.row 34 6 true))
  else if f = 9 ∨ f = 41 ∨ f = 42 ∨ f = 43 ∨ f = 44 then some (.fn (.tup [.row 34 6 true, .sc]))
  else if f = 26 then some (.fn (.tup [.row 34 6 true, .sc, .sc]))
  else if f = 61 then some (.upd true)
  else some .inl
def ann : FuncId → Nat → LoopEx := fun f r =>
  if f = 41 then ⟨[], [1000007], [], []⟩
  else if f = 9 ∧ r = 13 then ⟨[], [2305, 2369], [(1985, 0), (1985, 1), (1985, 2), (1985, 3), (1985, 6), (1985, 7), (1985, 8), (1985, 9), (1985, 10), (1985, 11), (1985, 12), (1985, 13), (1985, 14), (1985, 15), (1985, 16), (1985, 17), (1985, 18), (1985, 19), (1985, 20), (1985, 21)], [(1985, 4, 34, 6), (1985, 5, 34, 6)]⟩
  else ⟨[], [], [], []⟩
--END GAMMA
theorem acheck_form (x0 r : AV) : fnF Tryd.prog Γ ann 3 24 Tryd.f24 (Tryd.f24.body.getD .skip) (.nil) [x0] (.sc) r = (((AV.isAgg x0 7) ∧
(∃ r321 : AV, ((Fn Tryd.prog 40 [(AV.cel x0 0)] Sh.sc r321) ∧
((AV.unOk Go.UnOp.not r321) ∧
((AV.isBool (AV.un Go.UnOp.not r321)) ∧
(((isT (AV.un Go.UnOp.not r321)) →
  ((AV.flat (AV.int 5)) ∧
  (fSame (AV.int 5) r))) ∧
((isF (AV.un Go.UnOp.not r321)) →
  ((AV.binOk Go.BinOp.lss (AV.cel x0 1) (AV.int 0)) ∧
  ((AV.isBool (AV.bin Go.BinOp.lss (AV.cel x0 1) (AV.int 0))) ∧
  (((isT (AV.bin Go.BinOp.lss (AV.cel x0 1) (AV.int 0))) →
    ((AV.isBool (AV.bin Go.BinOp.lss (AV.cel x0 1) (AV.int 0))) ∧
    ((isT (AV.bin Go.BinOp.lss (AV.cel x0 1) (AV.int 0))) ∧
    ((AV.flat (AV.int 1)) ∧
    (fSame (AV.int 1) r))))) ∧
  ((isF (AV.bin Go.BinOp.lss (AV.cel x0 1) (AV.int 0))) →
    ((AV.binOk Go.BinOp.gtr (AV.cel x0 1) (AV.int 3)) ∧
    ((AV.isBool (AV.bin Go.BinOp.lss (AV.cel x0 1) (AV.int 0))) ∧
    ((isF (AV.bin Go.BinOp.lss (AV.cel x0 1) (AV.int 0))) ∧
    ((AV.isBool (AV.bin Go.BinOp.gtr (AV.cel x0 1) (AV.int 3))) ∧
    (((isT (AV.bin Go.BinOp.gtr (AV.cel x0 1) (AV.int 3))) →
      ((AV.flat (AV.int 1)) ∧
      (fSame (AV.int 1) r))) ∧
    ((isF (AV.bin Go.BinOp.gtr (AV.cel x0 1) (AV.int 3))) →
      ((fEnt Tryd.prog 39) ∧
      (fAllV fun _ => ((AV.binOk Go.BinOp.lss (AV.cel x0 2) (AV.int 1)) ∧
      ((AV.isBool (AV.bin Go.BinOp.lss (AV.cel x0 2) (AV.int 1))) ∧
      (((isT (AV.bin Go.BinOp.lss (AV.cel x0 2) (AV.int 1))) →
        ((AV.isBool (AV.bin Go.BinOp.lss (AV.cel x0 2) (AV.int 1))) ∧
        ((isT (AV.bin Go.BinOp.lss (AV.cel x0 2) (AV.int 1))) ∧
        ((AV.flat (AV.int 4)) ∧
        (fSame (AV.int 4) r))))) ∧
      ((isF (AV.bin Go.BinOp.lss (AV.cel x0 2) (AV.int 1))) →
        ((AV.binOk Go.BinOp.gtr (AV.cel x0 2) (AV.int 60000)) ∧
        ((AV.isBool (AV.bin Go.BinOp.lss (AV.cel x0 2) (AV.int 1))) ∧
        ((isF (AV.bin Go.BinOp.lss (AV.cel x0 2) (AV.int 1))) ∧
        ((AV.isBool (AV.bin Go.BinOp.gtr (AV.cel x0 2) (AV.int 60000))) ∧
        (((isT (AV.bin Go.BinOp.gtr (AV.cel x0 2) (AV.int 60000))) →
          ((AV.isBool (AV.bin Go.BinOp.gtr (AV.cel x0 2) (AV.int 60000))) ∧
          ((isT (AV.bin Go.BinOp.gtr (AV.cel x0 2) (AV.int 60000))) ∧
          ((AV.flat (AV.int 4)) ∧
          (fSame (AV.int 4) r))))) ∧
        ((isF (AV.bin Go.BinOp.gtr (AV.cel x0 2) (AV.int 60000))) →
          ((fEnt Tryd.prog 39) ∧
          (fAllV fun _ => ((AV.binOk Go.BinOp.lss (AV.cel x0 3) (AV.int 1)) ∧
          ((AV.isBool (AV.bin Go.BinOp.lss (AV.cel x0 3) (AV.int 1))) ∧
          (((isT (AV.bin Go.BinOp.lss (AV.cel x0 3) (AV.int 1))) →
            ((AV.isBool (AV.bin Go.BinOp.lss (AV.cel x0 3) (AV.int 1))) ∧
            ((isT (AV.bin Go.BinOp.lss (AV.cel x0 3) (AV.int 1))) ∧
            ((AV.isBool (AV.bin Go.BinOp.gtr (AV.cel x0 2) (AV.int 60000))) ∧
            ((isF (AV.bin Go.BinOp.gtr (AV.cel x0 2) (AV.int 60000))) ∧
            ((AV.flat (AV.int 4)) ∧
            (fSame (AV.int 4) r))))))) ∧
          ((isF (AV.bin Go.BinOp.lss (AV.cel x0 3) (AV.int 1))) →
            ((AV.binOk Go.BinOp.gtr (AV.cel x0 3) (AV.int 200)) ∧
            ((AV.isBool (AV.bin Go.BinOp.lss (AV.cel x0 3) (AV.int 1))) ∧
            ((isF (AV.bin Go.BinOp.lss (AV.cel x0 3) (AV.int 1))) ∧
            ((AV.isBool (AV.bin Go.BinOp.gtr (AV.cel x0 2) (AV.int 60000))) ∧
            ((isF (AV.bin Go.BinOp.gtr (AV.cel x0 2) (AV.int 60000))) ∧
            ((AV.isBool (AV.bin Go.BinOp.gtr (AV.cel x0 3) (AV.int 200))) ∧
            (((isT (AV.bin Go.BinOp.gtr (AV.cel x0 3) (AV.int 200))) →
              ((AV.isBool (AV.bin Go.BinOp.gtr (AV.cel x0 3) (AV.int 200))) ∧
              ((isT (AV.bin Go.BinOp.gtr (AV.cel x0 3) (AV.int 200))) ∧
              ((AV.flat (AV.int 4)) ∧
              (fSame (AV.int 4) r))))) ∧
            ((isF (AV.bin Go.BinOp.gtr (AV.cel x0 3) (AV.int 200))) →
              ((fEnt Tryd.prog 39) ∧
              (fAllV fun _ => ((AV.binOk Go.BinOp.lss (AV.cel x0 4) (AV.int 1)) ∧
              ((AV.isBool (AV.bin Go.BinOp.lss (AV.cel x0 4) (AV.int 1))) ∧
              (((isT (AV.bin Go.BinOp.lss (AV.cel x0 4) (AV.int 1))) →
                ((AV.isBool (AV.bin Go.BinOp.lss (AV.cel x0 4) (AV.int 1))) ∧
                ((isT (AV.bin Go.BinOp.lss (AV.cel x0 4) (AV.int 1))) ∧
                ((AV.isBool (AV.bin Go.BinOp.gtr (AV.cel x0 3) (AV.int 200))) ∧
                ((isF (AV.bin Go.BinOp.gtr (AV.cel x0 3) (AV.int 200))) ∧
                ((AV.flat (AV.int 4)) ∧
                (fSame (AV.int 4) r))))))) ∧
              ((isF (AV.bin Go.BinOp.lss (AV.cel x0 4) (AV.int 1))) →
                ((AV.binOk Go.BinOp.gtr (AV.cel x0 4) (AV.int 200)) ∧
                ((AV.isBool (AV.bin Go.BinOp.lss (AV.cel x0 4) (AV.int 1))) ∧
                ((isF (AV.bin Go.BinOp.lss (AV.cel x0 4) (AV.int 1))) ∧
                ((AV.isBool (AV.bin Go.BinOp.gtr (AV.cel x0 3) (AV.int 200))) ∧
                ((isF (AV.bin Go.BinOp.gtr (AV.cel x0 3) (AV.int 200))) ∧
                ((AV.isBool (AV.bin Go.BinOp.gtr (AV.cel x0 4) (AV.int 200))) ∧
                (((isT (AV.bin Go.BinOp.gtr (AV.cel x0 4) (AV.int 200))) →
                  ((AV.isBool (AV.bin Go.BinOp.gtr (AV.cel x0 4) (AV.int 200))) ∧
                  ((isT (AV.bin Go.BinOp.gtr (AV.cel x0 4) (AV.int 200))) ∧
                  ((AV.flat (AV.int 4)) ∧
                  (fSame (AV.int 4) r))))) ∧
                ((isF (AV.bin Go.BinOp.gtr (AV.cel x0 4) (AV.int 200))) →
                  ((fEnt Tryd.prog 39) ∧
                  (fAllV fun _ => ((AV.binOk Go.BinOp.lss (AV.cel x0 5) (AV.int 1)) ∧
                  ((AV.isBool (AV.bin Go.BinOp.lss (AV.cel x0 5) (AV.int 1))) ∧
                  (((isT (AV.bin Go.BinOp.lss (AV.cel x0 5) (AV.int 1))) →
                    ((AV.isBool (AV.bin Go.BinOp.lss (AV.cel x0 5) (AV.int 1))) ∧
                    ((isT (AV.bin Go.BinOp.lss (AV.cel x0 5) (AV.int 1))) ∧
                    ((AV.isBool (AV.bin Go.BinOp.gtr (AV.cel x0 4) (AV.int 200))) ∧
                    ((isF (AV.bin Go.BinOp.gtr (AV.cel x0 4) (AV.int 200))) ∧
                    ((AV.flat (AV.int 4)) ∧
                    (fSame (AV.int 4) r))))))) ∧
                  ((isF (AV.bin Go.BinOp.lss (AV.cel x0 5) (AV.int 1))) →
                    ((AV.binOk Go.BinOp.gtr (AV.cel x0 5) (AV.int 400)) ∧
                    ((AV.isBool (AV.bin Go.BinOp.lss (AV.cel x0 5) (AV.int 1))) ∧
                    ((isF (AV.bin Go.BinOp.lss (AV.cel x0 5) (AV.int 1))) ∧
                    ((AV.isBool (AV.bin Go.BinOp.gtr (AV.cel x0 4) (AV.int 200))) ∧
                    ((isF (AV.bin Go.BinOp.gtr (AV.cel x0 4) (AV.int 200))) ∧
                    ((AV.isBool (AV.bin Go.BinOp.gtr (AV.cel x0 5) (AV.int 400))) ∧
                    (((isT (AV.bin Go.BinOp.gtr (AV.cel x0 5) (AV.int 400))) →
                      ((AV.isBool (AV.bin Go.BinOp.gtr (AV.cel x0 5) (AV.int 400))) ∧
                      ((isT (AV.bin Go.BinOp.gtr (AV.cel x0 5) (AV.int 400))) ∧
                      ((AV.flat (AV.int 4)) ∧
                      (fSame (AV.int 4) r))))) ∧
                    ((isF (AV.bin Go.BinOp.gtr (AV.cel x0 5) (AV.int 400))) →
                      ((fEnt Tryd.prog 39) ∧
                      (fAllV fun _ => ((AV.binOk Go.BinOp.lss (AV.cel x0 6) (AV.int 1)) ∧
                      ((AV.isBool (AV.bin Go.BinOp.lss (AV.cel x0 6) (AV.int 1))) ∧
                      (((isT (AV.bin Go.BinOp.lss (AV.cel x0 6) (AV.int 1))) →
                        ((AV.isBool (AV.bin Go.BinOp.lss (AV.cel x0 6) (AV.int 1))) ∧
                        ((isT (AV.bin Go.BinOp.lss (AV.cel x0 6) (AV.int 1))) ∧
                        ((AV.isBool (AV.bin Go.BinOp.gtr (AV.cel x0 5) (AV.int 400))) ∧
                        ((isF (AV.bin Go.BinOp.gtr (AV.cel x0 5) (AV.int 400))) ∧
                        ((AV.flat (AV.int 4)) ∧
                        (fSame (AV.int 4) r))))))) ∧
                      ((isF (AV.bin Go.BinOp.lss (AV.cel x0 6) (AV.int 1))) →
                        ((AV.binOk Go.BinOp.gtr (AV.cel x0 6) (AV.int 400)) ∧
                        ((AV.isBool (AV.bin Go.BinOp.lss (AV.cel x0 6) (AV.int 1))) ∧
                        ((isF (AV.bin Go.BinOp.lss (AV.cel x0 6) (AV.int 1))) ∧
                        ((AV.isBool (AV.bin Go.BinOp.gtr (AV.cel x0 5) (AV.int 400))) ∧
                        ((isF (AV.bin Go.BinOp.gtr (AV.cel x0 5) (AV.int 400))) ∧
                        ((AV.isBool (AV.bin Go.BinOp.gtr (AV.cel x0 6) (AV.int 400))) ∧
                        (((isT (AV.bin Go.BinOp.gtr (AV.cel x0 6) (AV.int 400))) →
                          ((AV.flat (AV.int 4)) ∧
                          (fSame (AV.int 4) r))) ∧
                        ((isF (AV.bin Go.BinOp.gtr (AV.cel x0 6) (AV.int 400))) →
                          ((AV.binOk Go.BinOp.gtr (AV.cel x0 5) (AV.cel x0 6)) ∧
                          ((AV.isBool (AV.bin Go.BinOp.gtr (AV.cel x0 5) (AV.cel x0 6))) ∧
                          (((isT (AV.bin Go.BinOp.gtr (AV.cel x0 5) (AV.cel x0 6))) →
                            ((AV.flat (AV.int 3)) ∧
                            (fSame (AV.int 3) r))) ∧
                          ((isF (AV.bin Go.BinOp.gtr (AV.cel x0 5) (AV.cel x0 6))) →
                            ((AV.flat (AV.int 0)) ∧
                            (fSame (AV.int 0) r)))))))))))))))))))))))))))))))))))))))))))))))))))))))))))))))))))))))))))))))))))))))))))) := by kernel_rfl
theorem climb_form (x0 x1 x2 r : AV) : fnF Tryd.prog Γ ann 3 11 Tryd.f11 (Tryd.f11.body.getD .skip) (.nil) [x0, x1, x2] (.tup [.sc, .sc]) r = (((AV.isAgg x0 7) ∧
(∃ r257 : AV, ((Fn Tryd.prog 24 [(AV.agg [(AV.cel x0 0), (AV.cel x0 1), (AV.cel x0 2), (AV.cel x0 3), (AV.cel x0 4), (AV.cel x0 5), (AV.cel x0 6)])] Sh.sc r257) ∧
((AV.binOk Go.BinOp.neq r257 (AV.int 0)) ∧
((AV.isBool (AV.bin Go.BinOp.neq r257 (AV.int 0))) ∧
(((isT (AV.bin Go.BinOp.neq r257 (AV.int 0))) →
  ((AV.flat (AV.int 0)) ∧
  ((AV.flat r257) ∧
  (fSame (AV.tup [(AV.int 0), r257]) r)))) ∧
((isF (AV.bin Go.BinOp.neq r257 (AV.int 0))) →
  ((AV.binOk Go.BinOp.lss x1 (AV.int 0)) ∧
  ((AV.isBool (AV.bin Go.BinOp.lss x1 (AV.int 0))) ∧
  (((isT (AV.bin Go.BinOp.lss x1 (AV.int 0))) →
    ((AV.isBool (AV.bin Go.BinOp.lss x1 (AV.int 0))) ∧
    ((isT (AV.bin Go.BinOp.lss x1 (AV.int 0))) ∧
    ((AV.flat (AV.int 0)) ∧
    ((AV.flat (AV.int 4)) ∧
    (fSame (AV.tup [(AV.int 0), (AV.int 4)]) r)))))) ∧
  ((isF (AV.bin Go.BinOp.lss x1 (AV.int 0))) →
    ((AV.binOk Go.BinOp.gtr x1 (AV.int 60000)) ∧
    ((AV.isBool (AV.bin Go.BinOp.lss x1 (AV.int 0))) ∧
    ((isF (AV.bin Go.BinOp.lss x1 (AV.int 0))) ∧
    ((AV.isBool (AV.bin Go.BinOp.gtr x1 (AV.int 60000))) ∧
    (((isT (AV.bin Go.BinOp.gtr x1 (AV.int 60000))) →
      ((AV.isBool (AV.bin Go.BinOp.gtr x1 (AV.int 60000))) ∧
      ((isT (AV.bin Go.BinOp.gtr x1 (AV.int 60000))) ∧
      ((AV.flat (AV.int 0)) ∧
      ((AV.flat (AV.int 4)) ∧
      (fSame (AV.tup [(AV.int 0), (AV.int 4)]) r)))))) ∧
    ((isF (AV.bin Go.BinOp.gtr x1 (AV.int 60000))) →
      ((AV.binOk Go.BinOp.lss x2 (AV.int 0)) ∧
      ((AV.isBool (AV.bin Go.BinOp.gtr x1 (AV.int 60000))) ∧
      ((isF (AV.bin Go.BinOp.gtr x1 (AV.int 60000))) ∧
      ((AV.isBool (AV.bin Go.BinOp.lss x2 (AV.int 0))) ∧
      (((isT (AV.bin Go.BinOp.lss x2 (AV.int 0))) →
        ((AV.isBool (AV.bin Go.BinOp.lss x2 (AV.int 0))) ∧
        ((isT (AV.bin Go.BinOp.lss x2 (AV.int 0))) ∧
        ((AV.flat (AV.int 0)) ∧
        ((AV.flat (AV.int 4)) ∧
        (fSame (AV.tup [(AV.int 0), (AV.int 4)]) r)))))) ∧
      ((isF (AV.bin Go.BinOp.lss x2 (AV.int 0))) →
        ((AV.binOk Go.BinOp.gtr x2 (AV.int 60000)) ∧
        ((AV.isBool (AV.bin Go.BinOp.lss x2 (AV.int 0))) ∧
        ((isF (AV.bin Go.BinOp.lss x2 (AV.int 0))) ∧
        ((AV.isBool (AV.bin Go.BinOp.gtr x2 (AV.int 60000))) ∧
        (((isT (AV.bin Go.BinOp.gtr x2 (AV.int 60000))) →
          ((AV.flat (AV.int 0)) ∧
          ((AV.flat (AV.int 4)) ∧
          (fSame (AV.tup [(AV.int 0), (AV.int 4)]) r)))) ∧
        ((isF (AV.bin Go.BinOp.gtr x2 (AV.int 60000))) →
          ((AV.binOk Go.BinOp.gtr x1 (AV.cel x0 2)) ∧
          ((AV.isBool (AV.bin Go.BinOp.gtr x1 (AV.cel x0 2))) ∧
          (((isT (AV.bin Go.BinOp.gtr x1 (AV.cel x0 2))) →
            ((AV.isBool (AV.bin Go.BinOp.gtr x1 (AV.cel x0 2))) ∧
            ((isT (AV.bin Go.BinOp.gtr x1 (AV.cel x0 2))) ∧
            ((AV.flat (AV.int 0)) ∧
            ((AV.flat (AV.int 20)) ∧
            (fSame (AV.tup [(AV.int 0), (AV.int 20)]) r)))))) ∧
          ((isF (AV.bin Go.BinOp.gtr x1 (AV.cel x0 2))) →
            ((AV.binOk Go.BinOp.gtr x2 (AV.cel x0 2)) ∧
            ((AV.isBool (AV.bin Go.BinOp.gtr x1 (AV.cel x0 2))) ∧
            ((isF (AV.bin Go.BinOp.gtr x1 (AV.cel x0 2))) ∧
            ((AV.isBool (AV.bin Go.BinOp.gtr x2 (AV.cel x0 2))) ∧
            (((isT (AV.bin Go.BinOp.gtr x2 (AV.cel x0 2))) →
              ((AV.flat (AV.int 0)) ∧
              ((AV.flat (AV.int 20)) ∧
              (fSame (AV.tup [(AV.int 0), (AV.int 20)]) r)))) ∧
            ((isF (AV.bin Go.BinOp.gtr x2 (AV.cel x0 2))) →
              ((AV.binOk Go.BinOp.geq x2 x1) ∧
              ((AV.isBool (AV.bin Go.BinOp.geq x2 x1)) ∧
              (((isT (AV.bin Go.BinOp.geq x2 x1)) →
                ((AV.binOk Go.BinOp.sub x2 x1) ∧
                (∃ r2753 : AV, ((Fn Tryd.prog 30 [(AV.bin Go.BinOp.sub x2 x1), (AV.cel x0 3)] (Sh.tup [Sh.sc, Sh.sc]) r2753) ∧
                ((AV.flat (AV.prj r2753 0)) ∧
                ((AV.flat (AV.prj r2753 1)) ∧
                (fSame (AV.tup [(AV.prj r2753 0), (AV.prj r2753 1)]) r))))))) ∧
              ((isF (AV.bin Go.BinOp.geq x2 x1)) →
                ((AV.binOk Go.BinOp.sub x1 x2) ∧
                (∃ r2753 : AV, ((Fn Tryd.prog 30 [(AV.bin Go.BinOp.sub x1 x2), (AV.cel x0 4)] (Sh.tup [Sh.sc, Sh.sc]) r2753) ∧
                ((AV.flat (AV.prj r2753 0)) ∧
                ((AV.flat (AV.prj r2753 1)) ∧
                (fSame (AV.tup [(AV.prj r2753 0), (AV.prj r2753 1)]) r)))))))))))))))))))))))))))))))))))))))))))))))))) := by kernel_rfl
theorem phcheck_form (x0 r : AV) : fnF Tryd.prog Γ ann 3 22 Tryd.f22 (Tryd.f22.body.getD .skip) (.nil) [x0] (.sc) r = (((AV.isAgg x0 4) ∧
(∃ r257 : AV, ((Fn Tryd.prog 38 [(AV.cel x0 0)] Sh.sc r257) ∧
((AV.unOk Go.UnOp.not r257) ∧
((AV.isBool (AV.un Go.UnOp.not r257)) ∧
(((isT (AV.un Go.UnOp.not r257)) →
  ((AV.flat (AV.int 3)) ∧
  (fSame (AV.int 3) r))) ∧
((isF (AV.un Go.UnOp.not r257)) →
  ((AV.binOk Go.BinOp.lss (AV.cel x0 1) (AV.int 0)) ∧
  ((AV.isBool (AV.bin Go.BinOp.lss (AV.cel x0 1) (AV.int 0))) ∧
  (((isT (AV.bin Go.BinOp.lss (AV.cel x0 1) (AV.int 0))) →
    ((AV.isBool (AV.bin Go.BinOp.lss (AV.cel x0 1) (AV.int 0))) ∧
    ((isT (AV.bin Go.BinOp.lss (AV.cel x0 1) (AV.int 0))) ∧
    ((AV.flat (AV.int 1)) ∧
    (fSame (AV.int 1) r))))) ∧
  ((isF (AV.bin Go.BinOp.lss (AV.cel x0 1) (AV.int 0))) →
    ((AV.binOk Go.BinOp.gtr (AV.cel x0 1) (AV.int 6)) ∧
    ((AV.isBool (AV.bin Go.BinOp.lss (AV.cel x0 1) (AV.int 0))) ∧
    ((isF (AV.bin Go.BinOp.lss (AV.cel x0 1) (AV.int 0))) ∧
    ((AV.isBool (AV.bin Go.BinOp.gtr (AV.cel x0 1) (AV.int 6))) ∧
    (((isT (AV.bin Go.BinOp.gtr (AV.cel x0 1) (AV.int 6))) →
      ((AV.flat (AV.int 1)) ∧
      (fSame (AV.int 1) r))) ∧
    ((isF (AV.bin Go.BinOp.gtr (AV.cel x0 1) (AV.int 6))) →
      ((AV.binOk Go.BinOp.gtr (AV.cel x0 1) (AV.int 2)) ∧
      ((AV.isBool (AV.bin Go.BinOp.gtr (AV.cel x0 1) (AV.int 2))) ∧
      (((isT (AV.bin Go.BinOp.gtr (AV.cel x0 1) (AV.int 2))) →
        ((AV.binOk Go.BinOp.neq (AV.cel x0 2) (AV.int 0)) ∧
        ((AV.isBool (AV.bin Go.BinOp.neq (AV.cel x0 2) (AV.int 0))) ∧
        (((isT (AV.bin Go.BinOp.neq (AV.cel x0 2) (AV.int 0))) →
          ((AV.isBool (AV.bin Go.BinOp.neq (AV.cel x0 2) (AV.int 0))) ∧
          ((isT (AV.bin Go.BinOp.neq (AV.cel x0 2) (AV.int 0))) ∧
          ((AV.flat (AV.int 3)) ∧
          (fSame (AV.int 3) r))))) ∧
        ((isF (AV.bin Go.BinOp.neq (AV.cel x0 2) (AV.int 0))) →
          (∃ r1665 : AV, ((Fn Tryd.prog 38 [(AV.cel x0 3)] Sh.sc r1665) ∧
          ((AV.unOk Go.UnOp.not r1665) ∧
          ((AV.isBool (AV.bin Go.BinOp.neq (AV.cel x0 2) (AV.int 0))) ∧
          ((isF (AV.bin Go.BinOp.neq (AV.cel x0 2) (AV.int 0))) ∧
          ((AV.isBool (AV.un Go.UnOp.not r1665)) ∧
          (((isT (AV.un Go.UnOp.not r1665)) →
            ((AV.flat (AV.int 3)) ∧
            (fSame (AV.int 3) r))) ∧
          ((isF (AV.un Go.UnOp.not r1665)) →
            ((AV.flat (AV.int 0)) ∧
            (fSame (AV.int 0) r))))))))))))))) ∧
      ((isF (AV.bin Go.BinOp.gtr (AV.cel x0 1) (AV.int 2))) →
        ((AV.binOk Go.BinOp.neq (AV.cel x0 3) (AV.lit (Value.string ⟨#[]⟩))) ∧
        ((AV.isBool (AV.bin Go.BinOp.neq (AV.cel x0 3) (AV.lit (Value.string ⟨#[]⟩)))) ∧
        (((isT (AV.bin Go.BinOp.neq (AV.cel x0 3) (AV.lit (Value.string ⟨#[]⟩)))) →
          ((AV.flat (AV.int 3)) ∧
          (fSame (AV.int 3) r))) ∧
        ((isF (AV.bin Go.BinOp.neq (AV.cel x0 3) (AV.lit (Value.string ⟨#[]⟩)))) →
          ((AV.binOk Go.BinOp.lss (AV.cel x0 2) (AV.int 0)) ∧
          ((AV.isBool (AV.bin Go.BinOp.lss (AV.cel x0 2) (AV.int 0))) ∧
          (((isT (AV.bin Go.BinOp.lss (AV.cel x0 2) (AV.int 0))) →
            ((AV.isBool (AV.bin Go.BinOp.lss (AV.cel x0 2) (AV.int 0))) ∧
            ((isT (AV.bin Go.BinOp.lss (AV.cel x0 2) (AV.int 0))) ∧
            ((AV.flat (AV.int 4)) ∧
            (fSame (AV.int 4) r))))) ∧
          ((isF (AV.bin Go.BinOp.lss (AV.cel x0 2) (AV.int 0))) →
            ((AV.inl 3 (AV.cel x0 1)) ∧
            ((AV.isRef (AV.mkRef [(AV.int 60000), (AV.int 4095), (AV.int 400)]) 3) ∧
            ((AV.refOk (AV.mkRef [(AV.int 60000), (AV.int 4095), (AV.int 400)]) 3 0 [((AV.cel x0 1), 1)]) ∧
            ((AV.binOk Go.BinOp.gtr (AV.cel x0 2) (AV.refNth (AV.mkRef [(AV.int 60000), (AV.int 4095), (AV.int 400)]) 0 [((AV.cel x0 1), 1)])) ∧
            ((AV.isBool (AV.bin Go.BinOp.lss (AV.cel x0 2) (AV.int 0))) ∧
            ((isF (AV.bin Go.BinOp.lss (AV.cel x0 2) (AV.int 0))) ∧
            ((AV.isBool (AV.bin Go.BinOp.gtr (AV.cel x0 2) (AV.refNth (AV.mkRef [(AV.int 60000), (AV.int 4095), (AV.int 400)]) 0 [((AV.cel x0 1), 1)]))) ∧
            (((isT (AV.bin Go.BinOp.gtr (AV.cel x0 2) (AV.refNth (AV.mkRef [(AV.int 60000), (AV.int 4095), (AV.int 400)]) 0 [((AV.cel x0 1), 1)]))) →
              ((AV.flat (AV.int 4)) ∧
              (fSame (AV.int 4) r))) ∧
            ((isF (AV.bin Go.BinOp.gtr (AV.cel x0 2) (AV.refNth (AV.mkRef [(AV.int 60000), (AV.int 4095), (AV.int 400)]) 0 [((AV.cel x0 1), 1)]))) →
              ((AV.flat (AV.int 0)) ∧
              (fSame (AV.int 0) r))))))))))))))))))))))))))))))))))))))))) := by kernel_rfl
theorem phname_form (x0 r : AV) : fnF Tryd.prog Γ ann 3 38 Tryd.f38 (Tryd.f38.body.getD .skip) (.nil) [x0] (.sc) r = ((∃ r129 : AV, ((Fn Tryd.prog 40 [x0] Sh.sc r129) ∧
((AV.isBool r129) ∧
(((isT r129) →
  ((fEnt Tryd.prog 58) ∧
  (fAllV fun _ => ((AV.isRef (AV.mkRef [(AV.lit (Value.string ⟨#[72, 69, 73, 71, 72, 84]⟩)), (AV.lit (Value.string ⟨#[72, 69, 65, 68, 73, 78, 71]⟩)), (AV.lit (Value.string ⟨#[83, 80, 69, 69, 68]⟩)), (AV.lit (Value.string ⟨#[68, 73, 82, 69, 67, 84]⟩)), (AV.lit (Value.string ⟨#[72, 79, 76, 68]⟩)), (AV.lit (Value.string ⟨#[67, 79, 78, 84, 65, 67, 84]⟩)), (AV.lit (Value.string ⟨#[76, 65, 78, 68]⟩))]) 7) ∧
  ((fEnt Tryd.prog 74) ∧
  (fAllV fun _ => ((AV.isSl (AV.refSl (AV.mkRef [(AV.lit (Value.string ⟨#[72, 69, 73, 71, 72, 84]⟩)), (AV.lit (Value.string ⟨#[72, 69, 65, 68, 73, 78, 71]⟩)), (AV.lit (Value.string ⟨#[83, 80, 69, 69, 68]⟩)), (AV.lit (Value.string ⟨#[68, 73, 82, 69, 67, 84]⟩)), (AV.lit (Value.string ⟨#[72, 79, 76, 68]⟩)), (AV.lit (Value.string ⟨#[67, 79, 78, 84, 65, 67, 84]⟩)), (AV.lit (Value.string ⟨#[76, 65, 78, 68]⟩))])) 1) ∧
  (fLoop 897 [(AV.int 0)] fun ys897 again897 =>
    ((AV.binOk Go.BinOp.lss (ys897.getD 0 default) (AV.len (AV.refSl (AV.mkRef [(AV.lit (Value.string ⟨#[72, 69, 73, 71, 72, 84]⟩)), (AV.lit (Value.string ⟨#[72, 69, 65, 68, 73, 78, 71]⟩)), (AV.lit (Value.string ⟨#[83, 80, 69, 69, 68]⟩)), (AV.lit (Value.string ⟨#[68, 73, 82, 69, 67, 84]⟩)), (AV.lit (Value.string ⟨#[72, 79, 76, 68]⟩)), (AV.lit (Value.string ⟨#[67, 79, 78, 84, 65, 67, 84]⟩)), (AV.lit (Value.string ⟨#[76, 65, 78, 68]⟩))])))) ∧
    ((AV.isBool (AV.bin Go.BinOp.lss (ys897.getD 0 default) (AV.len (AV.refSl (AV.mkRef [(AV.lit (Value.string ⟨#[72, 69, 73, 71, 72, 84]⟩)), (AV.lit (Value.string ⟨#[72, 69, 65, 68, 73, 78, 71]⟩)), (AV.lit (Value.string ⟨#[83, 80, 69, 69, 68]⟩)), (AV.lit (Value.string ⟨#[68, 73, 82, 69, 67, 84]⟩)), (AV.lit (Value.string ⟨#[72, 79, 76, 68]⟩)), (AV.lit (Value.string ⟨#[67, 79, 78, 84, 65, 67, 84]⟩)), (AV.lit (Value.string ⟨#[76, 65, 78, 68]⟩))]))))) ∧
    (((isT (AV.bin Go.BinOp.lss (ys897.getD 0 default) (AV.len (AV.refSl (AV.mkRef [(AV.lit (Value.string ⟨#[72, 69, 73, 71, 72, 84]⟩)), (AV.lit (Value.string ⟨#[72, 69, 65, 68, 73, 78, 71]⟩)), (AV.lit (Value.string ⟨#[83, 80, 69, 69, 68]⟩)), (AV.lit (Value.string ⟨#[68, 73, 82, 69, 67, 84]⟩)), (AV.lit (Value.string ⟨#[72, 79, 76, 68]⟩)), (AV.lit (Value.string ⟨#[67, 79, 78, 84, 65, 67, 84]⟩)), (AV.lit (Value.string ⟨#[76, 65, 78, 68]⟩))]))))) →
      ((AV.isSl (AV.refSl (AV.mkRef [(AV.lit (Value.string ⟨#[72, 69, 73, 71, 72, 84]⟩)), (AV.lit (Value.string ⟨#[72, 69, 65, 68, 73, 78, 71]⟩)), (AV.lit (Value.string ⟨#[83, 80, 69, 69, 68]⟩)), (AV.lit (Value.string ⟨#[68, 73, 82, 69, 67, 84]⟩)), (AV.lit (Value.string ⟨#[72, 79, 76, 68]⟩)), (AV.lit (Value.string ⟨#[67, 79, 78, 84, 65, 67, 84]⟩)), (AV.lit (Value.string ⟨#[76, 65, 78, 68]⟩))])) 1) ∧
      ((AV.inb (AV.refSl (AV.mkRef [(AV.lit (Value.string ⟨#[72, 69, 73, 71, 72, 84]⟩)), (AV.lit (Value.string ⟨#[72, 69, 65, 68, 73, 78, 71]⟩)), (AV.lit (Value.string ⟨#[83, 80, 69, 69, 68]⟩)), (AV.lit (Value.string ⟨#[68, 73, 82, 69, 67, 84]⟩)), (AV.lit (Value.string ⟨#[72, 79, 76, 68]⟩)), (AV.lit (Value.string ⟨#[67, 79, 78, 84, 65, 67, 84]⟩)), (AV.lit (Value.string ⟨#[76, 65, 78, 68]⟩))])) (ys897.getD 0 default)) ∧
      ((AV.binOk Go.BinOp.eql x0 (AV.at (AV.refSl (AV.mkRef [(AV.lit (Value.string ⟨#[72, 69, 73, 71, 72, 84]⟩)), (AV.lit (Value.string ⟨#[72, 69, 65, 68, 73, 78, 71]⟩)), (AV.lit (Value.string ⟨#[83, 80, 69, 69, 68]⟩)), (AV.lit (Value.string ⟨#[68, 73, 82, 69, 67, 84]⟩)), (AV.lit (Value.string ⟨#[72, 79, 76, 68]⟩)), (AV.lit (Value.string ⟨#[67, 79, 78, 84, 65, 67, 84]⟩)), (AV.lit (Value.string ⟨#[76, 65, 78, 68]⟩))])) (ys897.getD 0 default) 0)) ∧
      ((AV.isBool (AV.bin Go.BinOp.eql x0 (AV.at (AV.refSl (AV.mkRef [(AV.lit (Value.string ⟨#[72, 69, 73, 71, 72, 84]⟩)), (AV.lit (Value.string ⟨#[72, 69, 65, 68, 73, 78, 71]⟩)), (AV.lit (Value.string ⟨#[83, 80, 69, 69, 68]⟩)), (AV.lit (Value.string ⟨#[68, 73, 82, 69, 67, 84]⟩)), (AV.lit (Value.string ⟨#[72, 79, 76, 68]⟩)), (AV.lit (Value.string ⟨#[67, 79, 78, 84, 65, 67, 84]⟩)), (AV.lit (Value.string ⟨#[76, 65, 78, 68]⟩))])) (ys897.getD 0 default) 0))) ∧
      (((isT (AV.bin Go.BinOp.eql x0 (AV.at (AV.refSl (AV.mkRef [(AV.lit (Value.string ⟨#[72, 69, 73, 71, 72, 84]⟩)), (AV.lit (Value.string ⟨#[72, 69, 65, 68, 73, 78, 71]⟩)), (AV.lit (Value.string ⟨#[83, 80, 69, 69, 68]⟩)), (AV.lit (Value.string ⟨#[68, 73, 82, 69, 67, 84]⟩)), (AV.lit (Value.string ⟨#[72, 79, 76, 68]⟩)), (AV.lit (Value.string ⟨#[67, 79, 78, 84, 65, 67, 84]⟩)), (AV.lit (Value.string ⟨#[76, 65, 78, 68]⟩))])) (ys897.getD 0 default) 0))) →
        ((AV.binOk Go.BinOp.lss (ys897.getD 0 default) (AV.int 0)) ∧
        ((AV.isBool r129) ∧
        ((isT r129) ∧
        ((AV.flat (AV.bin Go.BinOp.lss (ys897.getD 0 default) (AV.int 0))) ∧
        (fSame (AV.bin Go.BinOp.lss (ys897.getD 0 default) (AV.int 0)) r)))))) ∧
      ((isF (AV.bin Go.BinOp.eql x0 (AV.at (AV.refSl (AV.mkRef [(AV.lit (Value.string ⟨#[72, 69, 73, 71, 72, 84]⟩)), (AV.lit (Value.string ⟨#[72, 69, 65, 68, 73, 78, 71]⟩)), (AV.lit (Value.string ⟨#[83, 80, 69, 69, 68]⟩)), (AV.lit (Value.string ⟨#[68, 73, 82, 69, 67, 84]⟩)), (AV.lit (Value.string ⟨#[72, 79, 76, 68]⟩)), (AV.lit (Value.string ⟨#[67, 79, 78, 84, 65, 67, 84]⟩)), (AV.lit (Value.string ⟨#[76, 65, 78, 68]⟩))])) (ys897.getD 0 default) 0))) →
        ((AV.binOk Go.BinOp.add (ys897.getD 0 default) (AV.int 1)) ∧
        (again897 [(AV.bin Go.BinOp.add (ys897.getD 0 default) (AV.int 1))]))))))))) ∧
    ((isF (AV.bin Go.BinOp.lss (ys897.getD 0 default) (AV.len (AV.refSl (AV.mkRef [(AV.lit (Value.string ⟨#[72, 69, 73, 71, 72, 84]⟩)), (AV.lit (Value.string ⟨#[72, 69, 65, 68, 73, 78, 71]⟩)), (AV.lit (Value.string ⟨#[83, 80, 69, 69, 68]⟩)), (AV.lit (Value.string ⟨#[68, 73, 82, 69, 67, 84]⟩)), (AV.lit (Value.string ⟨#[72, 79, 76, 68]⟩)), (AV.lit (Value.string ⟨#[67, 79, 78, 84, 65, 67, 84]⟩)), (AV.lit (Value.string ⟨#[76, 65, 78, 68]⟩))]))))) →
      ((AV.isBool r129) ∧
      ((isT r129) ∧
      ((AV.flat (AV.bool true)) ∧
      (fSame (AV.bool true) r)))))))))))))))) ∧
((isF r129) →
  ((AV.isBool r129) ∧
  ((isF r129) ∧
  ((AV.flat (AV.bool false)) ∧
  (fSame (AV.bool false) r)))))))))) := by kernel_rfl
theorem level_form ( r : AV) : fnF Tryd.prog Γ ann 3 14 Tryd.f14 (Tryd.f14.body.getD .skip) (.nil) [] (.row 34 6 true) r = (((AV.flatS (AV.mk 6 [[(AV.int 0), (AV.int 0), (AV.int 0), (AV.int 9000), (AV.int 100), (AV.int 50)], [(AV.int 100), (AV.int 10000), (AV.int 0), (AV.int 9000), (AV.int 100), (AV.int 50)]])) ∧
(fSame (AV.mk 6 [[(AV.int 0), (AV.int 0), (AV.int 0), (AV.int 9000), (AV.int 100), (AV.int 50)], [(AV.int 100), (AV.int 10000), (AV.int 0), (AV.int 9000), (AV.int 100), (AV.int 50)]]) r))) := by kernel_rfl
theorem climbed_form (x0 r : AV) : fnF Tryd.prog Γ ann 3 15 Tryd.f15 (Tryd.f15.body.getD .skip) (.nil) [x0] (.sc) r = (((AV.isOne x0) ∧
((AV.flat (AV.agg [(AV.lit (Value.string ⟨#[65, 49]⟩)), (AV.int 0), x0, (AV.lit (Value.string ⟨#[]⟩))])) ∧
(fSame (AV.agg [(AV.lit (Value.string ⟨#[65, 49]⟩)), (AV.int 0), x0, (AV.lit (Value.string ⟨#[]⟩))]) r)))) := by kernel_rfl
theorem jet_form ( r : AV) : fnF Tryd.prog Γ ann 3 16 Tryd.f16 (Tryd.f16.body.getD .skip) (.nil) [] (.sc) r = (((AV.flat (AV.agg [(AV.lit (Value.string ⟨#[74, 69, 84]⟩)), (AV.int 1), (AV.int 40000), (AV.int 50), (AV.int 40), (AV.int 50), (AV.int 300)])) ∧
(fSame (AV.agg [(AV.lit (Value.string ⟨#[74, 69, 84]⟩)), (AV.int 1), (AV.int 40000), (AV.int 50), (AV.int 40), (AV.int 50), (AV.int 300)]) r))) := by kernel_rfl
theorem efact_form ( r : AV) : fnF Tryd.prog Γ ann 3 5 Tryd.f5 (Tryd.f5.body.getD .skip) ((.t (.t (.t (.t (.t (.t (.t (.t .nil))))))))) [] (.sc) r = ((∃ r65 : AV, ((Fn Tryd.prog 14 [] (Sh.row 34 6 true) r65) ∧
(∃ r129 : AV, ((Fn Tryd.prog 15 [(AV.int 9500)] Sh.sc r129) ∧
(∃ r193 : AV, ((Fn Tryd.prog 16 [] Sh.sc r193) ∧
(∃ r321 : AV, ((Fn Tryd.prog 9 [r65, r129, (AV.int 0), r193, (AV.agg [(AV.int 0), (AV.int 0)])] (Sh.tup [(Sh.row 34 6 true), Sh.sc]) r321) ∧
(∃ r705 : AV, ((Fn Tryd.prog 14 [] (Sh.row 34 6 true) r705) ∧
(∃ r833 : AV, ((Fn Tryd.prog 6 [r705, (AV.prj r321 0)] (Sh.tup [Sh.sc, Sh.sc]) r833) ∧
((AV.binOk Go.BinOp.eql (AV.prj r321 1) (AV.int 0)) ∧
((AV.isBool (AV.bin Go.BinOp.eql (AV.prj r321 1) (AV.int 0))) ∧
((isT (AV.bin Go.BinOp.eql (AV.prj r321 1) (AV.int 0))) ∧
((AV.binOk Go.BinOp.eql (AV.prj r833 1) (AV.int 0)) ∧
((AV.isBool (AV.bin Go.BinOp.eql (AV.prj r321 1) (AV.int 0))) ∧
((isT (AV.bin Go.BinOp.eql (AV.prj r321 1) (AV.int 0))) ∧
((AV.isBool (AV.bin Go.BinOp.eql (AV.prj r833 1) (AV.int 0))) ∧
((isT (AV.bin Go.BinOp.eql (AV.prj r833 1) (AV.int 0))) ∧
((AV.binOk Go.BinOp.eql (AV.len (AV.prj r321 0)) (AV.int 3)) ∧
((AV.isBool (AV.bin Go.BinOp.eql (AV.prj r833 1) (AV.int 0))) ∧
((isT (AV.bin Go.BinOp.eql (AV.prj r833 1) (AV.int 0))) ∧
((AV.isBool (AV.bin Go.BinOp.eql (AV.len (AV.prj r321 0)) (AV.int 3))) ∧
((isT (AV.bin Go.BinOp.eql (AV.len (AV.prj r321 0)) (AV.int 3))) ∧
((AV.inb (AV.prj r321 0) (AV.int 1)) ∧
((AV.inb (AV.prj r321 0) (AV.int 1)) ∧
((AV.binOk Go.BinOp.eql (AV.at (AV.prj r321 0) (AV.int 1) 0) (AV.int 10)) ∧
((AV.isBool (AV.bin Go.BinOp.eql (AV.len (AV.prj r321 0)) (AV.int 3))) ∧
((isT (AV.bin Go.BinOp.eql (AV.len (AV.prj r321 0)) (AV.int 3))) ∧
((AV.isBool (AV.bin Go.BinOp.eql (AV.at (AV.prj r321 0) (AV.int 1) 0) (AV.int 10))) ∧
((isT (AV.bin Go.BinOp.eql (AV.at (AV.prj r321 0) (AV.int 1) 0) (AV.int 10))) ∧
((AV.inb (AV.prj r321 0) (AV.int 1)) ∧
((AV.inb (AV.prj r321 0) (AV.int 1)) ∧
((AV.binOk Go.BinOp.eql (AV.at (AV.prj r321 0) (AV.int 1) 3) (AV.int 9500)) ∧
((AV.isBool (AV.bin Go.BinOp.eql (AV.at (AV.prj r321 0) (AV.int 1) 0) (AV.int 10))) ∧
((isT (AV.bin Go.BinOp.eql (AV.at (AV.prj r321 0) (AV.int 1) 0) (AV.int 10))) ∧
((AV.isBool (AV.bin Go.BinOp.eql (AV.at (AV.prj r321 0) (AV.int 1) 3) (AV.int 9500))) ∧
((isT (AV.bin Go.BinOp.eql (AV.at (AV.prj r321 0) (AV.int 1) 3) (AV.int 9500))) ∧
((AV.inb (AV.prj r321 0) (AV.int 1)) ∧
((AV.inb (AV.prj r321 0) (AV.int 1)) ∧
((AV.binOk Go.BinOp.eql (AV.at (AV.prj r321 0) (AV.int 1) 1) (AV.int 1000)) ∧
((AV.isBool (AV.bin Go.BinOp.eql (AV.at (AV.prj r321 0) (AV.int 1) 3) (AV.int 9500))) ∧
((isT (AV.bin Go.BinOp.eql (AV.at (AV.prj r321 0) (AV.int 1) 3) (AV.int 9500))) ∧
((AV.isBool (AV.bin Go.BinOp.eql (AV.at (AV.prj r321 0) (AV.int 1) 1) (AV.int 1000))) ∧
((isT (AV.bin Go.BinOp.eql (AV.at (AV.prj r321 0) (AV.int 1) 1) (AV.int 1000))) ∧
((AV.inb (AV.prj r321 0) (AV.int 2)) ∧
((AV.inb (AV.prj r321 0) (AV.int 2)) ∧
((AV.binOk Go.BinOp.eql (AV.at (AV.prj r321 0) (AV.int 2) 3) (AV.int 9500)) ∧
((AV.isBool (AV.bin Go.BinOp.eql (AV.at (AV.prj r321 0) (AV.int 1) 1) (AV.int 1000))) ∧
((isT (AV.bin Go.BinOp.eql (AV.at (AV.prj r321 0) (AV.int 1) 1) (AV.int 1000))) ∧
((AV.isBool (AV.bin Go.BinOp.eql (AV.at (AV.prj r321 0) (AV.int 2) 3) (AV.int 9500))) ∧
((isT (AV.bin Go.BinOp.eql (AV.at (AV.prj r321 0) (AV.int 2) 3) (AV.int 9500))) ∧
((AV.inb (AV.prj r321 0) (AV.int 1)) ∧
((AV.inb (AV.prj r321 0) (AV.int 1)) ∧
((AV.binOk Go.BinOp.eql (AV.at (AV.prj r321 0) (AV.int 1) 4) (AV.int 100)) ∧
((AV.isBool (AV.bin Go.BinOp.eql (AV.at (AV.prj r321 0) (AV.int 2) 3) (AV.int 9500))) ∧
((isT (AV.bin Go.BinOp.eql (AV.at (AV.prj r321 0) (AV.int 2) 3) (AV.int 9500))) ∧
((AV.isBool (AV.bin Go.BinOp.eql (AV.at (AV.prj r321 0) (AV.int 1) 4) (AV.int 100))) ∧
((isT (AV.bin Go.BinOp.eql (AV.at (AV.prj r321 0) (AV.int 1) 4) (AV.int 100))) ∧
((AV.binOk Go.BinOp.eql (AV.prj r833 0) (AV.int 1)) ∧
((AV.isBool (AV.bin Go.BinOp.eql (AV.at (AV.prj r321 0) (AV.int 1) 4) (AV.int 100))) ∧
((isT (AV.bin Go.BinOp.eql (AV.at (AV.prj r321 0) (AV.int 1) 4) (AV.int 100))) ∧
((AV.flat (AV.bin Go.BinOp.eql (AV.prj r833 0) (AV.int 1))) ∧
(fSame (AV.bin Go.BinOp.eql (AV.prj r833 0) (AV.int 1)) r)))))))))))))))))))))))))))))))))))))))))))))))))))))))))))))))))) := by kernel_rfl
theorem differs_form (x0 x1 r : AV) : fnF Tryd.prog Γ ann 3 6 Tryd.f6 (Tryd.f6.body.getD .skip) (.nil) [x0, x1] (.tup [.sc, .sc]) r = (((AV.isOne x0) ∧
((AV.isOne x1) ∧
(fLoop 449 [(AV.int 0)] fun ys449 again449 =>
  ((AV.binOk Go.BinOp.lss (ys449.getD 0 default) (AV.len (AV.mk 1 [[x0], [x1]]))) ∧
  ((AV.isBool (AV.bin Go.BinOp.lss (ys449.getD 0 default) (AV.len (AV.mk 1 [[x0], [x1]])))) ∧
  (((isT (AV.bin Go.BinOp.lss (ys449.getD 0 default) (AV.len (AV.mk 1 [[x0], [x1]])))) →
    ((AV.inb (AV.mk 1 [[x0], [x1]]) (ys449.getD 0 default)) ∧
    ((AV.inb (AV.mk 1 [[x0], [x1]]) (ys449.getD 0 default)) ∧
    (∃ r769 : AV, ((Fn Tryd.prog 7 [(AV.at (AV.mk 1 [[x0], [x1]]) (ys449.getD 0 default) 0)] Sh.sc r769) ∧
    ((AV.binOk Go.BinOp.neq r769 (AV.int 0)) ∧
    ((AV.isBool (AV.bin Go.BinOp.neq r769 (AV.int 0))) ∧
    (((isT (AV.bin Go.BinOp.neq r769 (AV.int 0))) →
      ((AV.flat (AV.int 0)) ∧
      ((AV.flat r769) ∧
      (fSame (AV.tup [(AV.int 0), r769]) r)))) ∧
    ((isF (AV.bin Go.BinOp.neq r769 (AV.int 0))) →
      ((AV.binOk Go.BinOp.add (ys449.getD 0 default) (AV.int 1)) ∧
      (again449 [(AV.bin Go.BinOp.add (ys449.getD 0 default) (AV.int 1))]))))))))))) ∧
  ((isF (AV.bin Go.BinOp.lss (ys449.getD 0 default) (AV.len (AV.mk 1 [[x0], [x1]])))) →
    ((AV.isSl x0 6) ∧
    ((AV.inb x0 (AV.int 0)) ∧
    ((AV.isSl x1 6) ∧
    ((AV.inb x1 (AV.int 0)) ∧
    ((AV.isInt (AV.at x0 (AV.int 0) 0)) ∧
    ((AV.isInt (AV.at x1 (AV.int 0) 0)) ∧
    ((AV.isSl x0 6) ∧
    ((AV.binOk Go.BinOp.sub (AV.len x0) (AV.int 1)) ∧
    ((AV.isSl x0 6) ∧
    ((AV.inb x0 (AV.bin Go.BinOp.sub (AV.len x0) (AV.int 1))) ∧
    ((AV.isSl x1 6) ∧
    ((AV.binOk Go.BinOp.sub (AV.len x1) (AV.int 1)) ∧
    ((AV.isSl x1 6) ∧
    ((AV.inb x1 (AV.bin Go.BinOp.sub (AV.len x1) (AV.int 1))) ∧
    ((AV.isInt (AV.at x0 (AV.bin Go.BinOp.sub (AV.len x0) (AV.int 1)) 0)) ∧
    ((AV.isInt (AV.at x1 (AV.bin Go.BinOp.sub (AV.len x1) (AV.int 1)) 0)) ∧
    ((AV.binOk Go.BinOp.sub (AV.mx (AV.at x0 (AV.bin Go.BinOp.sub (AV.len x0) (AV.int 1)) 0) (AV.at x1 (AV.bin Go.BinOp.sub (AV.len x1) (AV.int 1)) 0)) (AV.mn (AV.at x0 (AV.int 0) 0) (AV.at x1 (AV.int 0) 0))) ∧
    ((AV.binOk Go.BinOp.gtr (AV.bin Go.BinOp.sub (AV.mx (AV.at x0 (AV.bin Go.BinOp.sub (AV.len x0) (AV.int 1)) 0) (AV.at x1 (AV.bin Go.BinOp.sub (AV.len x1) (AV.int 1)) 0)) (AV.mn (AV.at x0 (AV.int 0) 0) (AV.at x1 (AV.int 0) 0))) (AV.int 20000)) ∧
    ((AV.isBool (AV.bin Go.BinOp.gtr (AV.bin Go.BinOp.sub (AV.mx (AV.at x0 (AV.bin Go.BinOp.sub (AV.len x0) (AV.int 1)) 0) (AV.at x1 (AV.bin Go.BinOp.sub (AV.len x1) (AV.int 1)) 0)) (AV.mn (AV.at x0 (AV.int 0) 0) (AV.at x1 (AV.int 0) 0))) (AV.int 20000))) ∧
    (((isT (AV.bin Go.BinOp.gtr (AV.bin Go.BinOp.sub (AV.mx (AV.at x0 (AV.bin Go.BinOp.sub (AV.len x0) (AV.int 1)) 0) (AV.at x1 (AV.bin Go.BinOp.sub (AV.len x1) (AV.int 1)) 0)) (AV.mn (AV.at x0 (AV.int 0) 0) (AV.at x1 (AV.int 0) 0))) (AV.int 20000))) →
      ((AV.flat (AV.int 0)) ∧
      ((AV.flat (AV.int 2)) ∧
      (fSame (AV.tup [(AV.int 0), (AV.int 2)]) r)))) ∧
    ((isF (AV.bin Go.BinOp.gtr (AV.bin Go.BinOp.sub (AV.mx (AV.at x0 (AV.bin Go.BinOp.sub (AV.len x0) (AV.int 1)) 0) (AV.at x1 (AV.bin Go.BinOp.sub (AV.len x1) (AV.int 1)) 0)) (AV.mn (AV.at x0 (AV.int 0) 0) (AV.at x1 (AV.int 0) 0))) (AV.int 20000))) →
      (fLoop 2817 [(AV.mn (AV.at x0 (AV.int 0) 0) (AV.at x1 (AV.int 0) 0))] fun ys2817 again2817 =>
        ((AV.binOk Go.BinOp.leq (ys2817.getD 0 default) (AV.mx (AV.at x0 (AV.bin Go.BinOp.sub (AV.len x0) (AV.int 1)) 0) (AV.at x1 (AV.bin Go.BinOp.sub (AV.len x1) (AV.int 1)) 0))) ∧
        ((AV.isBool (AV.bin Go.BinOp.leq (ys2817.getD 0 default) (AV.mx (AV.at x0 (AV.bin Go.BinOp.sub (AV.len x0) (AV.int 1)) 0) (AV.at x1 (AV.bin Go.BinOp.sub (AV.len x1) (AV.int 1)) 0)))) ∧
        (((isT (AV.bin Go.BinOp.leq (ys2817.getD 0 default) (AV.mx (AV.at x0 (AV.bin Go.BinOp.sub (AV.len x0) (AV.int 1)) 0) (AV.at x1 (AV.bin Go.BinOp.sub (AV.len x1) (AV.int 1)) 0)))) →
          (∃ r3137 : AV, ((Fn Tryd.prog 8 [x0, (ys2817.getD 0 default)] (Sh.tup [Sh.sc, Sh.sc]) r3137) ∧
          ((AV.isAgg (AV.prj r3137 0) 6) ∧
          (∃ r3713 : AV, ((Fn Tryd.prog 8 [x1, (ys2817.getD 0 default)] (Sh.tup [Sh.sc, Sh.sc]) r3713) ∧
          ((AV.isAgg (AV.prj r3713 0) 6) ∧
          ((AV.binOk Go.BinOp.neq (AV.prj r3137 1) (AV.prj r3713 1)) ∧
          ((AV.isBool (AV.bin Go.BinOp.neq (AV.prj r3137 1) (AV.prj r3713 1))) ∧
          (((isT (AV.bin Go.BinOp.neq (AV.prj r3137 1) (AV.prj r3713 1))) →
            ((AV.isBool (AV.bin Go.BinOp.neq (AV.prj r3137 1) (AV.prj r3713 1))) ∧
            ((isT (AV.bin Go.BinOp.neq (AV.prj r3137 1) (AV.prj r3713 1))) ∧
            ((AV.flat (ys2817.getD 0 default)) ∧
            ((AV.flat (AV.int 0)) ∧
            (fSame (AV.tup [(ys2817.getD 0 default), (AV.int 0)]) r)))))) ∧
          ((isF (AV.bin Go.BinOp.neq (AV.prj r3137 1) (AV.prj r3713 1))) →
            ((AV.eqPlOk [(0, (EK.int Go.IntKind.i64)), (1, (EK.int Go.IntKind.i64))] [(AV.cel (AV.prj r3137 0) 1), (AV.cel (AV.prj r3137 0) 2)] [(AV.cel (AV.prj r3713 0) 1), (AV.cel (AV.prj r3713 0) 2)]) ∧
            ((AV.isBool (AV.bin Go.BinOp.neq (AV.prj r3137 1) (AV.prj r3713 1))) ∧
            ((isF (AV.bin Go.BinOp.neq (AV.prj r3137 1) (AV.prj r3713 1))) ∧
            ((AV.isBool (AV.nePl [(0, (EK.int Go.IntKind.i64)), (1, (EK.int Go.IntKind.i64))] [(AV.cel (AV.prj r3137 0) 1), (AV.cel (AV.prj r3137 0) 2)] [(AV.cel (AV.prj r3713 0) 1), (AV.cel (AV.prj r3713 0) 2)])) ∧
            (((isT (AV.nePl [(0, (EK.int Go.IntKind.i64)), (1, (EK.int Go.IntKind.i64))] [(AV.cel (AV.prj r3137 0) 1), (AV.cel (AV.prj r3137 0) 2)] [(AV.cel (AV.prj r3713 0) 1), (AV.cel (AV.prj r3713 0) 2)])) →
              ((AV.isBool (AV.nePl [(0, (EK.int Go.IntKind.i64)), (1, (EK.int Go.IntKind.i64))] [(AV.cel (AV.prj r3137 0) 1), (AV.cel (AV.prj r3137 0) 2)] [(AV.cel (AV.prj r3713 0) 1), (AV.cel (AV.prj r3713 0) 2)])) ∧
              ((isT (AV.nePl [(0, (EK.int Go.IntKind.i64)), (1, (EK.int Go.IntKind.i64))] [(AV.cel (AV.prj r3137 0) 1), (AV.cel (AV.prj r3137 0) 2)] [(AV.cel (AV.prj r3713 0) 1), (AV.cel (AV.prj r3713 0) 2)])) ∧
              ((AV.flat (ys2817.getD 0 default)) ∧
              ((AV.flat (AV.int 0)) ∧
              (fSame (AV.tup [(ys2817.getD 0 default), (AV.int 0)]) r)))))) ∧
            ((isF (AV.nePl [(0, (EK.int Go.IntKind.i64)), (1, (EK.int Go.IntKind.i64))] [(AV.cel (AV.prj r3137 0) 1), (AV.cel (AV.prj r3137 0) 2)] [(AV.cel (AV.prj r3713 0) 1), (AV.cel (AV.prj r3713 0) 2)])) →
              ((AV.binOk Go.BinOp.neq (AV.cel (AV.prj r3137 0) 3) (AV.cel (AV.prj r3713 0) 3)) ∧
              ((AV.isBool (AV.nePl [(0, (EK.int Go.IntKind.i64)), (1, (EK.int Go.IntKind.i64))] [(AV.cel (AV.prj r3137 0) 1), (AV.cel (AV.prj r3137 0) 2)] [(AV.cel (AV.prj r3713 0) 1), (AV.cel (AV.prj r3713 0) 2)])) ∧
              ((isF (AV.nePl [(0, (EK.int Go.IntKind.i64)), (1, (EK.int Go.IntKind.i64))] [(AV.cel (AV.prj r3137 0) 1), (AV.cel (AV.prj r3137 0) 2)] [(AV.cel (AV.prj r3713 0) 1), (AV.cel (AV.prj r3713 0) 2)])) ∧
              ((AV.isBool (AV.bin Go.BinOp.neq (AV.cel (AV.prj r3137 0) 3) (AV.cel (AV.prj r3713 0) 3))) ∧
              (((isT (AV.bin Go.BinOp.neq (AV.cel (AV.prj r3137 0) 3) (AV.cel (AV.prj r3713 0) 3))) →
                ((AV.flat (ys2817.getD 0 default)) ∧
                ((AV.flat (AV.int 0)) ∧
                (fSame (AV.tup [(ys2817.getD 0 default), (AV.int 0)]) r)))) ∧
              ((isF (AV.bin Go.BinOp.neq (AV.cel (AV.prj r3137 0) 3) (AV.cel (AV.prj r3713 0) 3))) →
                ((AV.binOk Go.BinOp.add (ys2817.getD 0 default) (AV.int 1)) ∧
                (again2817 [(AV.bin Go.BinOp.add (ys2817.getD 0 default) (AV.int 1))]))))))))))))))))))))))))) ∧
        ((isF (AV.bin Go.BinOp.leq (ys2817.getD 0 default) (AV.mx (AV.at x0 (AV.bin Go.BinOp.sub (AV.len x0) (AV.int 1)) 0) (AV.at x1 (AV.bin Go.BinOp.sub (AV.len x1) (AV.int 1)) 0)))) →
          ((AV.flat (AV.int 0)) ∧
          ((AV.flat (AV.int 8)) ∧
          (fSame (AV.tup [(AV.int 0), (AV.int 8)]) r))))))))))))))))))))))))))))))))))))) := by kernel_rfl
theorem ldiffers_form (x0 x1 r : AV) : fnF Tryd.prog Γ ann 3 3 Tryd.f3 (Tryd.f3.body.getD .skip) ((.f (.both (.both (.t .nil) (.both (.t .nil) (.both .nil (.both (.both (.t .nil) (.both (.both (.t .nil) (.both (.t .nil) .nil)) .nil)) (.t .nil))))) (.t (.t .nil))))) [x0, x1] (.sc) r = ((∃ r65 : AV, ((Fn Tryd.prog 5 [] Sh.sc r65) ∧
((AV.unOk Go.UnOp.not r65) ∧
((AV.isBool (AV.un Go.UnOp.not r65)) ∧
((isF (AV.un Go.UnOp.not r65)) ∧
(∃ r321 : AV, ((Fn Tryd.prog 6 [x0, x1] (Sh.tup [Sh.sc, Sh.sc]) r321) ∧
(∃ r769 : AV, ((Fn Tryd.prog 7 [x0] Sh.sc r769) ∧
((AV.binOk Go.BinOp.eql r769 (AV.int 0)) ∧
((AV.isBool (AV.bin Go.BinOp.eql r769 (AV.int 0))) ∧
(((isT (AV.bin Go.BinOp.eql r769 (AV.int 0))) →
  (∃ r1089 : AV, ((Fn Tryd.prog 7 [x1] Sh.sc r1089) ∧
  ((AV.binOk Go.BinOp.neq r1089 (AV.int 0)) ∧
  ((AV.isBool (AV.bin Go.BinOp.neq r1089 (AV.int 0))) ∧
  (((isT (AV.bin Go.BinOp.neq r1089 (AV.int 0))) →
    ((AV.binOk Go.BinOp.eql (AV.prj r321 1) r1089) ∧
    ((AV.isBool (AV.bin Go.BinOp.eql (AV.prj r321 1) r1089)) ∧
    ((isT (AV.bin Go.BinOp.eql (AV.prj r321 1) r1089)) ∧
    ((AV.binOk Go.BinOp.eql (AV.prj r321 0) (AV.int 0)) ∧
    ((AV.isBool (AV.bin Go.BinOp.eql (AV.prj r321 1) r1089)) ∧
    ((isT (AV.bin Go.BinOp.eql (AV.prj r321 1) r1089)) ∧
    ((AV.flat (AV.bin Go.BinOp.eql (AV.prj r321 0) (AV.int 0))) ∧
    (fSame (AV.bin Go.BinOp.eql (AV.prj r321 0) (AV.int 0)) r))))))))) ∧
  ((isF (AV.bin Go.BinOp.neq r1089 (AV.int 0))) →
    ((AV.isSl x0 6) ∧
    ((AV.inb x0 (AV.int 0)) ∧
    ((AV.isSl x1 6) ∧
    ((AV.inb x1 (AV.int 0)) ∧
    ((AV.isInt (AV.at x0 (AV.int 0) 0)) ∧
    ((AV.isInt (AV.at x1 (AV.int 0) 0)) ∧
    ((AV.isSl x0 6) ∧
    ((AV.binOk Go.BinOp.sub (AV.len x0) (AV.int 1)) ∧
    ((AV.isSl x0 6) ∧
    ((AV.inb x0 (AV.bin Go.BinOp.sub (AV.len x0) (AV.int 1))) ∧
    ((AV.isSl x1 6) ∧
    ((AV.binOk Go.BinOp.sub (AV.len x1) (AV.int 1)) ∧
    ((AV.isSl x1 6) ∧
    ((AV.inb x1 (AV.bin Go.BinOp.sub (AV.len x1) (AV.int 1))) ∧
    ((AV.isInt (AV.at x0 (AV.bin Go.BinOp.sub (AV.len x0) (AV.int 1)) 0)) ∧
    ((AV.isInt (AV.at x1 (AV.bin Go.BinOp.sub (AV.len x1) (AV.int 1)) 0)) ∧
    ((AV.binOk Go.BinOp.sub (AV.mx (AV.at x0 (AV.bin Go.BinOp.sub (AV.len x0) (AV.int 1)) 0) (AV.at x1 (AV.bin Go.BinOp.sub (AV.len x1) (AV.int 1)) 0)) (AV.mn (AV.at x0 (AV.int 0) 0) (AV.at x1 (AV.int 0) 0))) ∧
    ((AV.binOk Go.BinOp.gtr (AV.bin Go.BinOp.sub (AV.mx (AV.at x0 (AV.bin Go.BinOp.sub (AV.len x0) (AV.int 1)) 0) (AV.at x1 (AV.bin Go.BinOp.sub (AV.len x1) (AV.int 1)) 0)) (AV.mn (AV.at x0 (AV.int 0) 0) (AV.at x1 (AV.int 0) 0))) (AV.int 20000)) ∧
    ((AV.isBool (AV.bin Go.BinOp.gtr (AV.bin Go.BinOp.sub (AV.mx (AV.at x0 (AV.bin Go.BinOp.sub (AV.len x0) (AV.int 1)) 0) (AV.at x1 (AV.bin Go.BinOp.sub (AV.len x1) (AV.int 1)) 0)) (AV.mn (AV.at x0 (AV.int 0) 0) (AV.at x1 (AV.int 0) 0))) (AV.int 20000))) ∧
    (((isT (AV.bin Go.BinOp.gtr (AV.bin Go.BinOp.sub (AV.mx (AV.at x0 (AV.bin Go.BinOp.sub (AV.len x0) (AV.int 1)) 0) (AV.at x1 (AV.bin Go.BinOp.sub (AV.len x1) (AV.int 1)) 0)) (AV.mn (AV.at x0 (AV.int 0) 0) (AV.at x1 (AV.int 0) 0))) (AV.int 20000))) →
      ((AV.binOk Go.BinOp.eql (AV.prj r321 1) (AV.int 2)) ∧
      ((AV.isBool (AV.bin Go.BinOp.eql (AV.prj r321 1) (AV.int 2))) ∧
      ((isT (AV.bin Go.BinOp.eql (AV.prj r321 1) (AV.int 2))) ∧
      ((AV.binOk Go.BinOp.eql (AV.prj r321 0) (AV.int 0)) ∧
      ((AV.isBool (AV.bin Go.BinOp.eql (AV.prj r321 1) (AV.int 2))) ∧
      ((isT (AV.bin Go.BinOp.eql (AV.prj r321 1) (AV.int 2))) ∧
      ((AV.flat (AV.bin Go.BinOp.eql (AV.prj r321 0) (AV.int 0))) ∧
      (fSame (AV.bin Go.BinOp.eql (AV.prj r321 0) (AV.int 0)) r))))))))) ∧
    ((isF (AV.bin Go.BinOp.gtr (AV.bin Go.BinOp.sub (AV.mx (AV.at x0 (AV.bin Go.BinOp.sub (AV.len x0) (AV.int 1)) 0) (AV.at x1 (AV.bin Go.BinOp.sub (AV.len x1) (AV.int 1)) 0)) (AV.mn (AV.at x0 (AV.int 0) 0) (AV.at x1 (AV.int 0) 0))) (AV.int 20000))) →
      ((AV.binOk Go.BinOp.sub (AV.mx (AV.at x0 (AV.bin Go.BinOp.sub (AV.len x0) (AV.int 1)) 0) (AV.at x1 (AV.bin Go.BinOp.sub (AV.len x1) (AV.int 1)) 0)) (AV.mn (AV.at x0 (AV.int 0) 0) (AV.at x1 (AV.int 0) 0))) ∧
      ((AV.binOk Go.BinOp.gtr (AV.bin Go.BinOp.sub (AV.mx (AV.at x0 (AV.bin Go.BinOp.sub (AV.len x0) (AV.int 1)) 0) (AV.at x1 (AV.bin Go.BinOp.sub (AV.len x1) (AV.int 1)) 0)) (AV.mn (AV.at x0 (AV.int 0) 0) (AV.at x1 (AV.int 0) 0))) (AV.int 800)) ∧
      ((AV.isBool (AV.bin Go.BinOp.gtr (AV.bin Go.BinOp.sub (AV.mx (AV.at x0 (AV.bin Go.BinOp.sub (AV.len x0) (AV.int 1)) 0) (AV.at x1 (AV.bin Go.BinOp.sub (AV.len x1) (AV.int 1)) 0)) (AV.mn (AV.at x0 (AV.int 0) 0) (AV.at x1 (AV.int 0) 0))) (AV.int 800))) ∧
      (((isT (AV.bin Go.BinOp.gtr (AV.bin Go.BinOp.sub (AV.mx (AV.at x0 (AV.bin Go.BinOp.sub (AV.len x0) (AV.int 1)) 0) (AV.at x1 (AV.bin Go.BinOp.sub (AV.len x1) (AV.int 1)) 0)) (AV.mn (AV.at x0 (AV.int 0) 0) (AV.at x1 (AV.int 0) 0))) (AV.int 800))) →
        ((AV.flat (AV.bool true)) ∧
        (fSame (AV.bool true) r))) ∧
      ((isF (AV.bin Go.BinOp.gtr (AV.bin Go.BinOp.sub (AV.mx (AV.at x0 (AV.bin Go.BinOp.sub (AV.len x0) (AV.int 1)) 0) (AV.at x1 (AV.bin Go.BinOp.sub (AV.len x1) (AV.int 1)) 0)) (AV.mn (AV.at x0 (AV.int 0) 0) (AV.at x1 (AV.int 0) 0))) (AV.int 800))) →
        (fLoop 3905 [(AV.mn (AV.at x0 (AV.int 0) 0) (AV.at x1 (AV.int 0) 0))] fun ys3905 again3905 =>
          ((AV.binOk Go.BinOp.leq (ys3905.getD 0 default) (AV.mx (AV.at x0 (AV.bin Go.BinOp.sub (AV.len x0) (AV.int 1)) 0) (AV.at x1 (AV.bin Go.BinOp.sub (AV.len x1) (AV.int 1)) 0))) ∧
          ((AV.isBool (AV.bin Go.BinOp.leq (ys3905.getD 0 default) (AV.mx (AV.at x0 (AV.bin Go.BinOp.sub (AV.len x0) (AV.int 1)) 0) (AV.at x1 (AV.bin Go.BinOp.sub (AV.len x1) (AV.int 1)) 0)))) ∧
          (((isT (AV.bin Go.BinOp.leq (ys3905.getD 0 default) (AV.mx (AV.at x0 (AV.bin Go.BinOp.sub (AV.len x0) (AV.int 1)) 0) (AV.at x1 (AV.bin Go.BinOp.sub (AV.len x1) (AV.int 1)) 0)))) →
            (∃ r4225 : AV, ((Fn Tryd.prog 8 [x0, (ys3905.getD 0 default)] (Sh.tup [Sh.sc, Sh.sc]) r4225) ∧
            ((AV.isAgg (AV.prj r4225 0) 6) ∧
            (∃ r4801 : AV, ((Fn Tryd.prog 8 [x1, (ys3905.getD 0 default)] (Sh.tup [Sh.sc, Sh.sc]) r4801) ∧
            ((AV.isAgg (AV.prj r4801 0) 6) ∧
            ((AV.binOk Go.BinOp.neq (AV.prj r4225 1) (AV.prj r4801 1)) ∧
            ((AV.isBool (AV.bin Go.BinOp.neq (AV.prj r4225 1) (AV.prj r4801 1))) ∧
            (((isT (AV.bin Go.BinOp.neq (AV.prj r4225 1) (AV.prj r4801 1))) →
              ((AV.isBool (AV.bin Go.BinOp.neq (AV.prj r4225 1) (AV.prj r4801 1))) ∧
              ((isT (AV.bin Go.BinOp.neq (AV.prj r4225 1) (AV.prj r4801 1))) ∧
              ((AV.binOk Go.BinOp.eql (AV.prj r321 1) (AV.int 0)) ∧
              ((AV.isBool (AV.bin Go.BinOp.eql (AV.prj r321 1) (AV.int 0))) ∧
              ((isT (AV.bin Go.BinOp.eql (AV.prj r321 1) (AV.int 0))) ∧
              ((AV.binOk Go.BinOp.eql (AV.prj r321 0) (ys3905.getD 0 default)) ∧
              ((AV.isBool (AV.bin Go.BinOp.eql (AV.prj r321 1) (AV.int 0))) ∧
              ((isT (AV.bin Go.BinOp.eql (AV.prj r321 1) (AV.int 0))) ∧
              ((AV.flat (AV.bin Go.BinOp.eql (AV.prj r321 0) (ys3905.getD 0 default))) ∧
              (fSame (AV.bin Go.BinOp.eql (AV.prj r321 0) (ys3905.getD 0 default)) r))))))))))) ∧
            ((isF (AV.bin Go.BinOp.neq (AV.prj r4225 1) (AV.prj r4801 1))) →
              ((AV.binOk Go.BinOp.eql (AV.prj r4225 1) (AV.int 0)) ∧
              ((AV.isBool (AV.bin Go.BinOp.eql (AV.prj r4225 1) (AV.int 0))) ∧
              (((isT (AV.bin Go.BinOp.eql (AV.prj r4225 1) (AV.int 0))) →
                ((AV.eqPlOk [(0, (EK.int Go.IntKind.i64)), (1, (EK.int Go.IntKind.i64))] [(AV.cel (AV.prj r4225 0) 1), (AV.cel (AV.prj r4225 0) 2)] [(AV.cel (AV.prj r4801 0) 1), (AV.cel (AV.prj r4801 0) 2)]) ∧
                ((AV.isBool (AV.nePl [(0, (EK.int Go.IntKind.i64)), (1, (EK.int Go.IntKind.i64))] [(AV.cel (AV.prj r4225 0) 1), (AV.cel (AV.prj r4225 0) 2)] [(AV.cel (AV.prj r4801 0) 1), (AV.cel (AV.prj r4801 0) 2)])) ∧
                (((isT (AV.nePl [(0, (EK.int Go.IntKind.i64)), (1, (EK.int Go.IntKind.i64))] [(AV.cel (AV.prj r4225 0) 1), (AV.cel (AV.prj r4225 0) 2)] [(AV.cel (AV.prj r4801 0) 1), (AV.cel (AV.prj r4801 0) 2)])) →
                  ((AV.isBool (AV.nePl [(0, (EK.int Go.IntKind.i64)), (1, (EK.int Go.IntKind.i64))] [(AV.cel (AV.prj r4225 0) 1), (AV.cel (AV.prj r4225 0) 2)] [(AV.cel (AV.prj r4801 0) 1), (AV.cel (AV.prj r4801 0) 2)])) ∧
                  ((isT (AV.nePl [(0, (EK.int Go.IntKind.i64)), (1, (EK.int Go.IntKind.i64))] [(AV.cel (AV.prj r4225 0) 1), (AV.cel (AV.prj r4225 0) 2)] [(AV.cel (AV.prj r4801 0) 1), (AV.cel (AV.prj r4801 0) 2)])) ∧
                  ((AV.isBool (AV.bin Go.BinOp.eql (AV.prj r4225 1) (AV.int 0))) ∧
                  ((isT (AV.bin Go.BinOp.eql (AV.prj r4225 1) (AV.int 0))) ∧
                  ((AV.isBool (AV.bin Go.BinOp.neq (AV.prj r4225 1) (AV.prj r4801 1))) ∧
                  ((isF (AV.bin Go.BinOp.neq (AV.prj r4225 1) (AV.prj r4801 1))) ∧
                  ((AV.binOk Go.BinOp.eql (AV.prj r321 1) (AV.int 0)) ∧
                  ((AV.isBool (AV.bin Go.BinOp.eql (AV.prj r321 1) (AV.int 0))) ∧
                  ((isT (AV.bin Go.BinOp.eql (AV.prj r321 1) (AV.int 0))) ∧
                  ((AV.binOk Go.BinOp.eql (AV.prj r321 0) (ys3905.getD 0 default)) ∧
                  ((AV.isBool (AV.bin Go.BinOp.eql (AV.prj r321 1) (AV.int 0))) ∧
                  ((isT (AV.bin Go.BinOp.eql (AV.prj r321 1) (AV.int 0))) ∧
                  ((AV.flat (AV.bin Go.BinOp.eql (AV.prj r321 0) (ys3905.getD 0 default))) ∧
                  (fSame (AV.bin Go.BinOp.eql (AV.prj r321 0) (ys3905.getD 0 default)) r))))))))))))))) ∧
                ((isF (AV.nePl [(0, (EK.int Go.IntKind.i64)), (1, (EK.int Go.IntKind.i64))] [(AV.cel (AV.prj r4225 0) 1), (AV.cel (AV.prj r4225 0) 2)] [(AV.cel (AV.prj r4801 0) 1), (AV.cel (AV.prj r4801 0) 2)])) →
                  ((AV.binOk Go.BinOp.neq (AV.cel (AV.prj r4225 0) 3) (AV.cel (AV.prj r4801 0) 3)) ∧
                  ((AV.isBool (AV.nePl [(0, (EK.int Go.IntKind.i64)), (1, (EK.int Go.IntKind.i64))] [(AV.cel (AV.prj r4225 0) 1), (AV.cel (AV.prj r4225 0) 2)] [(AV.cel (AV.prj r4801 0) 1), (AV.cel (AV.prj r4801 0) 2)])) ∧
                  ((isF (AV.nePl [(0, (EK.int Go.IntKind.i64)), (1, (EK.int Go.IntKind.i64))] [(AV.cel (AV.prj r4225 0) 1), (AV.cel (AV.prj r4225 0) 2)] [(AV.cel (AV.prj r4801 0) 1), (AV.cel (AV.prj r4801 0) 2)])) ∧
                  ((AV.isBool (AV.bin Go.BinOp.eql (AV.prj r4225 1) (AV.int 0))) ∧
                  ((isT (AV.bin Go.BinOp.eql (AV.prj r4225 1) (AV.int 0))) ∧
                  ((AV.isBool (AV.bin Go.BinOp.neq (AV.prj r4225 1) (AV.prj r4801 1))) ∧
                  ((isF (AV.bin Go.BinOp.neq (AV.prj r4225 1) (AV.prj r4801 1))) ∧
                  ((AV.isBool (AV.bin Go.BinOp.neq (AV.cel (AV.prj r4225 0) 3) (AV.cel (AV.prj r4801 0) 3))) ∧
                  (((isT (AV.bin Go.BinOp.neq (AV.cel (AV.prj r4225 0) 3) (AV.cel (AV.prj r4801 0) 3))) →
                    ((AV.binOk Go.BinOp.eql (AV.prj r321 1) (AV.int 0)) ∧
                    ((AV.isBool (AV.bin Go.BinOp.eql (AV.prj r321 1) (AV.int 0))) ∧
                    ((isT (AV.bin Go.BinOp.eql (AV.prj r321 1) (AV.int 0))) ∧
                    ((AV.binOk Go.BinOp.eql (AV.prj r321 0) (ys3905.getD 0 default)) ∧
                    ((AV.isBool (AV.bin Go.BinOp.eql (AV.prj r321 1) (AV.int 0))) ∧
                    ((isT (AV.bin Go.BinOp.eql (AV.prj r321 1) (AV.int 0))) ∧
                    ((AV.flat (AV.bin Go.BinOp.eql (AV.prj r321 0) (ys3905.getD 0 default))) ∧
                    (fSame (AV.bin Go.BinOp.eql (AV.prj r321 0) (ys3905.getD 0 default)) r))))))))) ∧
                  ((isF (AV.bin Go.BinOp.neq (AV.cel (AV.prj r4225 0) 3) (AV.cel (AV.prj r4801 0) 3))) →
                    ((AV.binOk Go.BinOp.add (ys3905.getD 0 default) (AV.int 1)) ∧
                    (again3905 [(AV.bin Go.BinOp.add (ys3905.getD 0 default) (AV.int 1))]))))))))))))))))) ∧
              ((isF (AV.bin Go.BinOp.eql (AV.prj r4225 1) (AV.int 0))) →
                ((AV.isBool (AV.bin Go.BinOp.eql (AV.prj r4225 1) (AV.int 0))) ∧
                ((isF (AV.bin Go.BinOp.eql (AV.prj r4225 1) (AV.int 0))) ∧
                ((AV.isBool (AV.bin Go.BinOp.neq (AV.prj r4225 1) (AV.prj r4801 1))) ∧
                ((isF (AV.bin Go.BinOp.neq (AV.prj r4225 1) (AV.prj r4801 1))) ∧
                ((AV.binOk Go.BinOp.add (ys3905.getD 0 default) (AV.int 1)) ∧
                (again3905 [(AV.bin Go.BinOp.add (ys3905.getD 0 default) (AV.int 1))]))))))))))))))))))))) ∧
          ((isF (AV.bin Go.BinOp.leq (ys3905.getD 0 default) (AV.mx (AV.at x0 (AV.bin Go.BinOp.sub (AV.len x0) (AV.int 1)) 0) (AV.at x1 (AV.bin Go.BinOp.sub (AV.len x1) (AV.int 1)) 0)))) →
            ((AV.binOk Go.BinOp.eql (AV.prj r321 1) (AV.int 8)) ∧
            ((AV.isBool (AV.bin Go.BinOp.eql (AV.prj r321 1) (AV.int 8))) ∧
            ((isT (AV.bin Go.BinOp.eql (AV.prj r321 1) (AV.int 8))) ∧
            ((AV.binOk Go.BinOp.eql (AV.prj r321 0) (AV.int 0)) ∧
            ((AV.isBool (AV.bin Go.BinOp.eql (AV.prj r321 1) (AV.int 8))) ∧
            ((isT (AV.bin Go.BinOp.eql (AV.prj r321 1) (AV.int 8))) ∧
            ((AV.flat (AV.bin Go.BinOp.eql (AV.prj r321 0) (AV.int 0))) ∧
            (fSame (AV.bin Go.BinOp.eql (AV.prj r321 0) (AV.int 0)) r)))))))))))))))))))))))))))))))))))))))))))))) ∧
((isF (AV.bin Go.BinOp.eql r769 (AV.int 0))) →
  ((AV.binOk Go.BinOp.neq r769 (AV.int 0)) ∧
  ((AV.isBool (AV.bin Go.BinOp.neq r769 (AV.int 0))) ∧
  ((isT (AV.bin Go.BinOp.neq r769 (AV.int 0))) ∧
  ((AV.binOk Go.BinOp.eql (AV.prj r321 1) r769) ∧
  ((AV.isBool (AV.bin Go.BinOp.eql (AV.prj r321 1) r769)) ∧
  ((isT (AV.bin Go.BinOp.eql (AV.prj r321 1) r769)) ∧
  ((AV.binOk Go.BinOp.eql (AV.prj r321 0) (AV.int 0)) ∧
  ((AV.isBool (AV.bin Go.BinOp.eql (AV.prj r321 1) r769)) ∧
  ((isT (AV.bin Go.BinOp.eql (AV.prj r321 1) r769)) ∧
  ((AV.flat (AV.bin Go.BinOp.eql (AV.prj r321 0) (AV.int 0))) ∧
  (fSame (AV.bin Go.BinOp.eql (AV.prj r321 0) (AV.int 0)) r))))))))))))))))))))))))) := by kernel_rfl
theorem of1_form (x0 r : AV) : fnF Tryd.prog Γ ann 3 20 Tryd.f20 (Tryd.f20.body.getD .skip) (.nil) [x0] (.sc) r = (((AV.isRef x0 1) ∧
(∃ r129 : AV, ((Fn Tryd.prog 7 [(AV.der x0)] Sh.sc r129) ∧
((AV.flat r129) ∧
(fSame r129 r)))))) := by kernel_rfl
theorem of_form (x0 x1 x2 x3 x4 r : AV) : fnF Tryd.prog Γ ann 3 9 Tryd.f9 (Tryd.f9.body.getD .skip) (.nil) [x0, x1, x2, x3, x4] (.tup [.row 34 6 true, .sc]) r = (((AV.isOne x0) ∧
((AV.isAgg x1 4) ∧
((AV.isAgg x3 7) ∧
((AV.isAgg x4 2) ∧
(fLoop 833 [(AV.int 0)] fun ys833 again833 =>
  ((AV.binOk Go.BinOp.lss (ys833.getD 0 default) (AV.len (AV.mk 1 [[(AV.mkClo 20 [(AV.mkRef [x0])])], [(AV.mkClo 21 [(AV.mkRef [(AV.cel x1 0), (AV.cel x1 1), (AV.cel x1 2), (AV.cel x1 3)])])], [(AV.mkClo 23 [(AV.mkRef [(AV.cel x3 0), (AV.cel x3 1), (AV.cel x3 2), (AV.cel x3 3), (AV.cel x3 4), (AV.cel x3 5), (AV.cel x3 6)])])], [(AV.mkClo 25 [(AV.mkRef [(AV.cel x4 0), (AV.cel x4 1)])])]]))) ∧
  ((AV.isBool (AV.bin Go.BinOp.lss (ys833.getD 0 default) (AV.len (AV.mk 1 [[(AV.mkClo 20 [(AV.mkRef [x0])])], [(AV.mkClo 21 [(AV.mkRef [(AV.cel x1 0), (AV.cel x1 1), (AV.cel x1 2), (AV.cel x1 3)])])], [(AV.mkClo 23 [(AV.mkRef [(AV.cel x3 0), (AV.cel x3 1), (AV.cel x3 2), (AV.cel x3 3), (AV.cel x3 4), (AV.cel x3 5), (AV.cel x3 6)])])], [(AV.mkClo 25 [(AV.mkRef [(AV.cel x4 0), (AV.cel x4 1)])])]])))) ∧
  (((isT (AV.bin Go.BinOp.lss (ys833.getD 0 default) (AV.len (AV.mk 1 [[(AV.mkClo 20 [(AV.mkRef [x0])])], [(AV.mkClo 21 [(AV.mkRef [(AV.cel x1 0), (AV.cel x1 1), (AV.cel x1 2), (AV.cel x1 3)])])], [(AV.mkClo 23 [(AV.mkRef [(AV.cel x3 0), (AV.cel x3 1), (AV.cel x3 2), (AV.cel x3 3), (AV.cel x3 4), (AV.cel x3 5), (AV.cel x3 6)])])], [(AV.mkClo 25 [(AV.mkRef [(AV.cel x4 0), (AV.cel x4 1)])])]])))) →
    ((AV.inb (AV.mk 1 [[(AV.mkClo 20 [(AV.mkRef [x0])])], [(AV.mkClo 21 [(AV.mkRef [(AV.cel x1 0), (AV.cel x1 1), (AV.cel x1 2), (AV.cel x1 3)])])], [(AV.mkClo 23 [(AV.mkRef [(AV.cel x3 0), (AV.cel x3 1), (AV.cel x3 2), (AV.cel x3 3), (AV.cel x3 4), (AV.cel x3 5), (AV.cel x3 6)])])], [(AV.mkClo 25 [(AV.mkRef [(AV.cel x4 0), (AV.cel x4 1)])])]]) (ys833.getD 0 default)) ∧
    ((AV.inb (AV.mk 1 [[(AV.mkClo 20 [(AV.mkRef [x0])])], [(AV.mkClo 21 [(AV.mkRef [(AV.cel x1 0), (AV.cel x1 1), (AV.cel x1 2), (AV.cel x1 3)])])], [(AV.mkClo 23 [(AV.mkRef [(AV.cel x3 0), (AV.cel x3 1), (AV.cel x3 2), (AV.cel x3 3), (AV.cel x3 4), (AV.cel x3 5), (AV.cel x3 6)])])], [(AV.mkClo 25 [(AV.mkRef [(AV.cel x4 0), (AV.cel x4 1)])])]]) (ys833.getD 0 default)) ∧
    (∃ r1153 : AV, ((FnC Tryd.prog (AV.at (AV.mk 1 [[(AV.mkClo 20 [(AV.mkRef [x0])])], [(AV.mkClo 21 [(AV.mkRef [(AV.cel x1 0), (AV.cel x1 1), (AV.cel x1 2), (AV.cel x1 3)])])], [(AV.mkClo 23 [(AV.mkRef [(AV.cel x3 0), (AV.cel x3 1), (AV.cel x3 2), (AV.cel x3 3), (AV.cel x3 4), (AV.cel x3 5), (AV.cel x3 6)])])], [(AV.mkClo 25 [(AV.mkRef [(AV.cel x4 0), (AV.cel x4 1)])])]]) (ys833.getD 0 default) 0) [] Sh.sc r1153) ∧
    ((AV.binOk Go.BinOp.neq r1153 (AV.int 0)) ∧
    ((AV.isBool (AV.bin Go.BinOp.neq r1153 (AV.int 0))) ∧
    (((isT (AV.bin Go.BinOp.neq r1153 (AV.int 0))) →
      ((AV.flatS (AV.mk 6 [])) ∧
      ((AV.flat r1153) ∧
      (fSame (AV.tup [(AV.mk 6 []), r1153]) r)))) ∧
    ((isF (AV.bin Go.BinOp.neq r1153 (AV.int 0))) →
      ((AV.binOk Go.BinOp.add (ys833.getD 0 default) (AV.int 1)) ∧
      (again833 [(AV.bin Go.BinOp.add (ys833.getD 0 default) (AV.int 1))]))))))))))) ∧
  ((isF (AV.bin Go.BinOp.lss (ys833.getD 0 default) (AV.len (AV.mk 1 [[(AV.mkClo 20 [(AV.mkRef [x0])])], [(AV.mkClo 21 [(AV.mkRef [(AV.cel x1 0), (AV.cel x1 1), (AV.cel x1 2), (AV.cel x1 3)])])], [(AV.mkClo 23 [(AV.mkRef [(AV.cel x3 0), (AV.cel x3 1), (AV.cel x3 2), (AV.cel x3 3), (AV.cel x3 4), (AV.cel x3 5), (AV.cel x3 6)])])], [(AV.mkClo 25 [(AV.mkRef [(AV.cel x4 0), (AV.cel x4 1)])])]])))) →
    ((AV.isRef (AV.mkRef [x0]) 1) ∧
    (∃ r1025 : AV, ((Fn Tryd.prog 8 [(AV.der (AV.mkRef [x0])), x2] (Sh.tup [Sh.sc, Sh.sc]) r1025) ∧
    ((AV.isAgg (AV.prj r1025 0) 6) ∧
    ((AV.binOk Go.BinOp.neq (AV.prj r1025 1) (AV.int 0)) ∧
    ((AV.isBool (AV.bin Go.BinOp.neq (AV.prj r1025 1) (AV.int 0))) ∧
    (((isT (AV.bin Go.BinOp.neq (AV.prj r1025 1) (AV.int 0))) →
      ((AV.flatS (AV.mk 6 [])) ∧
      ((AV.flat (AV.prj r1025 1)) ∧
      (fSame (AV.tup [(AV.mk 6 []), (AV.prj r1025 1)]) r)))) ∧
    ((isF (AV.bin Go.BinOp.neq (AV.prj r1025 1) (AV.int 0))) →
      ((AV.isRef (AV.mkRef [(AV.cel x1 0), (AV.cel x1 1), (AV.cel x1 2), (AV.cel x1 3)]) 4) ∧
      ((AV.isRef (AV.mkRef [(AV.cel x3 0), (AV.cel x3 1), (AV.cel x3 2), (AV.cel x3 3), (AV.cel x3 4), (AV.cel x3 5), (AV.cel x3 6)]) 7) ∧
      ((AV.isRef (AV.mkRef [(AV.cel x4 0), (AV.cel x4 1)]) 2) ∧
      ((AV.isRef (AV.mkRef [x0]) 1) ∧
      ((AV.isAgg (AV.derA (AV.mkRef [(AV.cel x1 0), (AV.cel x1 1), (AV.cel x1 2), (AV.cel x1 3)])) 4) ∧
      ((AV.isAgg (AV.derA (AV.mkRef [(AV.cel x3 0), (AV.cel x3 1), (AV.cel x3 2), (AV.cel x3 3), (AV.cel x3 4), (AV.cel x3 5), (AV.cel x3 6)])) 7) ∧
      ((AV.isAgg (AV.derA (AV.mkRef [(AV.cel x4 0), (AV.cel x4 1)])) 2) ∧
      ((AV.isOne (AV.der (AV.mkRef [x0]))) ∧
      ((AV.isRef (AV.mkRef [x0]) 1) ∧
      ((AV.isSl (AV.der (AV.mkRef [x0])) 6) ∧
      (fLoop 2433 [(AV.int 0), (AV.mk 6 []), (AV.mk 6 []), (AV.cel (AV.derA (AV.mkRef [(AV.cel x1 0), (AV.cel x1 1), (AV.cel x1 2), (AV.cel x1 3)])) 0), (AV.cel (AV.derA (AV.mkRef [(AV.cel x1 0), (AV.cel x1 1), (AV.cel x1 2), (AV.cel x1 3)])) 1), (AV.cel (AV.derA (AV.mkRef [(AV.cel x1 0), (AV.cel x1 1), (AV.cel x1 2), (AV.cel x1 3)])) 2), (AV.cel (AV.derA (AV.mkRef [(AV.cel x1 0), (AV.cel x1 1), (AV.cel x1 2), (AV.cel x1 3)])) 3), (AV.cel (AV.prj r1025 0) 0), (AV.cel (AV.prj r1025 0) 1), (AV.cel (AV.prj r1025 0) 2), (AV.cel (AV.prj r1025 0) 3), (AV.cel (AV.prj r1025 0) 4), (AV.cel (AV.prj r1025 0) 5), (AV.cel (AV.derA (AV.mkRef [(AV.cel x3 0), (AV.cel x3 1), (AV.cel x3 2), (AV.cel x3 3), (AV.cel x3 4), (AV.cel x3 5), (AV.cel x3 6)])) 0), (AV.cel (AV.derA (AV.mkRef [(AV.cel x3 0), (AV.cel x3 1), (AV.cel x3 2), (AV.cel x3 3), (AV.cel x3 4), (AV.cel x3 5), (AV.cel x3 6)])) 1), (AV.cel (AV.derA (AV.mkRef [(AV.cel x3 0), (AV.cel x3 1), (AV.cel x3 2), (AV.cel x3 3), (AV.cel x3 4), (AV.cel x3 5), (AV.cel x3 6)])) 2), (AV.cel (AV.derA (AV.mkRef [(AV.cel x3 0), (AV.cel x3 1), (AV.cel x3 2), (AV.cel x3 3), (AV.cel x3 4), (AV.cel x3 5), (AV.cel x3 6)])) 3), (AV.cel (AV.derA (AV.mkRef [(AV.cel x3 0), (AV.cel x3 1), (AV.cel x3 2), (AV.cel x3 3), (AV.cel x3 4), (AV.cel x3 5), (AV.cel x3 6)])) 4), (AV.cel (AV.derA (AV.mkRef [(AV.cel x3 0), (AV.cel x3 1), (AV.cel x3 2), (AV.cel x3 3), (AV.cel x3 4), (AV.cel x3 5), (AV.cel x3 6)])) 5), (AV.cel (AV.derA (AV.mkRef [(AV.cel x3 0), (AV.cel x3 1), (AV.cel x3 2), (AV.cel x3 3), (AV.cel x3 4), (AV.cel x3 5), (AV.cel x3 6)])) 6), (AV.cel (AV.derA (AV.mkRef [(AV.cel x4 0), (AV.cel x4 1)])) 0), (AV.cel (AV.derA (AV.mkRef [(AV.cel x4 0), (AV.cel x4 1)])) 1), (AV.der (AV.mkRef [x0]))] fun ys2433 again2433 =>
        ((AV.binOk Go.BinOp.lss (ys2433.getD 0 default) (AV.len (AV.der (AV.mkRef [x0])))) ∧
        ((AV.isBool (AV.bin Go.BinOp.lss (ys2433.getD 0 default) (AV.len (AV.der (AV.mkRef [x0]))))) ∧
        (((isT (AV.bin Go.BinOp.lss (ys2433.getD 0 default) (AV.len (AV.der (AV.mkRef [x0]))))) →
          ((AV.isSl (AV.der (AV.mkRef [x0])) 6) ∧
          ((AV.inb (AV.der (AV.mkRef [x0])) (ys2433.getD 0 default)) ∧
          ((AV.isAgg (AV.atAgg (AV.der (AV.mkRef [x0])) (ys2433.getD 0 default) 0 6) 6) ∧
          ((AV.binOk Go.BinOp.lss (AV.cel (AV.atAgg (AV.der (AV.mkRef [x0])) (ys2433.getD 0 default) 0 6) 0) x2) ∧
          ((AV.isBool (AV.bin Go.BinOp.lss (AV.cel (AV.atAgg (AV.der (AV.mkRef [x0])) (ys2433.getD 0 default) 0 6) 0) x2)) ∧
          (((isT (AV.bin Go.BinOp.lss (AV.cel (AV.atAgg (AV.der (AV.mkRef [x0])) (ys2433.getD 0 default) 0 6) 0) x2)) →
            ((AV.room (ys2433.getD 1 default) (AV.mk 6 [[(AV.cel (AV.atAgg (AV.der (AV.mkRef [x0])) (ys2433.getD 0 default) 0 6) 0), (AV.cel (AV.atAgg (AV.der (AV.mkRef [x0])) (ys2433.getD 0 default) 0 6) 1), (AV.cel (AV.atAgg (AV.der (AV.mkRef [x0])) (ys2433.getD 0 default) 0 6) 2), (AV.cel (AV.atAgg (AV.der (AV.mkRef [x0])) (ys2433.getD 0 default) 0 6) 3), (AV.cel (AV.atAgg (AV.der (AV.mkRef [x0])) (ys2433.getD 0 default) 0 6) 4), (AV.cel (AV.atAgg (AV.der (AV.mkRef [x0])) (ys2433.getD 0 default) 0 6) 5)]]) 48) ∧
            ((AV.binOk Go.BinOp.gtr (AV.cel (AV.atAgg (AV.der (AV.mkRef [x0])) (ys2433.getD 0 default) 0 6) 0) x2) ∧
            ((AV.isBool (AV.bin Go.BinOp.gtr (AV.cel (AV.atAgg (AV.der (AV.mkRef [x0])) (ys2433.getD 0 default) 0 6) 0) x2)) ∧
            (((isT (AV.bin Go.BinOp.gtr (AV.cel (AV.atAgg (AV.der (AV.mkRef [x0])) (ys2433.getD 0 default) 0 6) 0) x2)) →
              ((AV.room (ys2433.getD 2 default) (AV.mk 6 [[(AV.cel (AV.atAgg (AV.der (AV.mkRef [x0])) (ys2433.getD 0 default) 0 6) 0), (AV.cel (AV.atAgg (AV.der (AV.mkRef [x0])) (ys2433.getD 0 default) 0 6) 1), (AV.cel (AV.atAgg (AV.der (AV.mkRef [x0])) (ys2433.getD 0 default) 0 6) 2), (AV.cel (AV.atAgg (AV.der (AV.mkRef [x0])) (ys2433.getD 0 default) 0 6) 3), (AV.cel (AV.atAgg (AV.der (AV.mkRef [x0])) (ys2433.getD 0 default) 0 6) 4), (AV.cel (AV.atAgg (AV.der (AV.mkRef [x0])) (ys2433.getD 0 default) 0 6) 5)]]) 48) ∧
              ((AV.binOk Go.BinOp.add (ys2433.getD 0 default) (AV.int 1)) ∧
              (again2433 [(AV.bin Go.BinOp.add (ys2433.getD 0 default) (AV.int 1)), (AV.app 6 (ys2433.getD 1 default) (AV.mk 6 [[(AV.cel (AV.atAgg (AV.der (AV.mkRef [x0])) (ys2433.getD 0 default) 0 6) 0), (AV.cel (AV.atAgg (AV.der (AV.mkRef [x0])) (ys2433.getD 0 default) 0 6) 1), (AV.cel (AV.atAgg (AV.der (AV.mkRef [x0])) (ys2433.getD 0 default) 0 6) 2), (AV.cel (AV.atAgg (AV.der (AV.mkRef [x0])) (ys2433.getD 0 default) 0 6) 3), (AV.cel (AV.atAgg (AV.der (AV.mkRef [x0])) (ys2433.getD 0 default) 0 6) 4), (AV.cel (AV.atAgg (AV.der (AV.mkRef [x0])) (ys2433.getD 0 default) 0 6) 5)]])), (AV.app 6 (ys2433.getD 2 default) (AV.mk 6 [[(AV.cel (AV.atAgg (AV.der (AV.mkRef [x0])) (ys2433.getD 0 default) 0 6) 0), (AV.cel (AV.atAgg (AV.der (AV.mkRef [x0])) (ys2433.getD 0 default) 0 6) 1), (AV.cel (AV.atAgg (AV.der (AV.mkRef [x0])) (ys2433.getD 0 default) 0 6) 2), (AV.cel (AV.atAgg (AV.der (AV.mkRef [x0])) (ys2433.getD 0 default) 0 6) 3), (AV.cel (AV.atAgg (AV.der (AV.mkRef [x0])) (ys2433.getD 0 default) 0 6) 4), (AV.cel (AV.atAgg (AV.der (AV.mkRef [x0])) (ys2433.getD 0 default) 0 6) 5)]])), (ys2433.getD 3 default), (ys2433.getD 4 default), (ys2433.getD 5 default), (ys2433.getD 6 default), (ys2433.getD 7 default), (ys2433.getD 8 default), (ys2433.getD 9 default), (ys2433.getD 10 default), (ys2433.getD 11 default), (ys2433.getD 12 default), (ys2433.getD 13 default), (ys2433.getD 14 default), (ys2433.getD 15 default), (ys2433.getD 16 default), (ys2433.getD 17 default), (ys2433.getD 18 default), (ys2433.getD 19 default), (ys2433.getD 20 default), (ys2433.getD 21 default), (ys2433.getD 22 default)])))) ∧
            ((isF (AV.bin Go.BinOp.gtr (AV.cel (AV.atAgg (AV.der (AV.mkRef [x0])) (ys2433.getD 0 default) 0 6) 0) x2)) →
              ((AV.binOk Go.BinOp.add (ys2433.getD 0 default) (AV.int 1)) ∧
              (again2433 [(AV.bin Go.BinOp.add (ys2433.getD 0 default) (AV.int 1)), (AV.app 6 (ys2433.getD 1 default) (AV.mk 6 [[(AV.cel (AV.atAgg (AV.der (AV.mkRef [x0])) (ys2433.getD 0 default) 0 6) 0), (AV.cel (AV.atAgg (AV.der (AV.mkRef [x0])) (ys2433.getD 0 default) 0 6) 1), (AV.cel (AV.atAgg (AV.der (AV.mkRef [x0])) (ys2433.getD 0 default) 0 6) 2), (AV.cel (AV.atAgg (AV.der (AV.mkRef [x0])) (ys2433.getD 0 default) 0 6) 3), (AV.cel (AV.atAgg (AV.der (AV.mkRef [x0])) (ys2433.getD 0 default) 0 6) 4), (AV.cel (AV.atAgg (AV.der (AV.mkRef [x0])) (ys2433.getD 0 default) 0 6) 5)]])), (ys2433.getD 2 default), (ys2433.getD 3 default), (ys2433.getD 4 default), (ys2433.getD 5 default), (ys2433.getD 6 default), (ys2433.getD 7 default), (ys2433.getD 8 default), (ys2433.getD 9 default), (ys2433.getD 10 default), (ys2433.getD 11 default), (ys2433.getD 12 default), (ys2433.getD 13 default), (ys2433.getD 14 default), (ys2433.getD 15 default), (ys2433.getD 16 default), (ys2433.getD 17 default), (ys2433.getD 18 default), (ys2433.getD 19 default), (ys2433.getD 20 default), (ys2433.getD 21 default), (ys2433.getD 22 default)])))))))) ∧
          ((isF (AV.bin Go.BinOp.lss (AV.cel (AV.atAgg (AV.der (AV.mkRef [x0])) (ys2433.getD 0 default) 0 6) 0) x2)) →
            ((AV.binOk Go.BinOp.gtr (AV.cel (AV.atAgg (AV.der (AV.mkRef [x0])) (ys2433.getD 0 default) 0 6) 0) x2) ∧
            ((AV.isBool (AV.bin Go.BinOp.gtr (AV.cel (AV.atAgg (AV.der (AV.mkRef [x0])) (ys2433.getD 0 default) 0 6) 0) x2)) ∧
            (((isT (AV.bin Go.BinOp.gtr (AV.cel (AV.atAgg (AV.der (AV.mkRef [x0])) (ys2433.getD 0 default) 0 6) 0) x2)) →
              ((AV.room (ys2433.getD 2 default) (AV.mk 6 [[(AV.cel (AV.atAgg (AV.der (AV.mkRef [x0])) (ys2433.getD 0 default) 0 6) 0), (AV.cel (AV.atAgg (AV.der (AV.mkRef [x0])) (ys2433.getD 0 default) 0 6) 1), (AV.cel (AV.atAgg (AV.der (AV.mkRef [x0])) (ys2433.getD 0 default) 0 6) 2), (AV.cel (AV.atAgg (AV.der (AV.mkRef [x0])) (ys2433.getD 0 default) 0 6) 3), (AV.cel (AV.atAgg (AV.der (AV.mkRef [x0])) (ys2433.getD 0 default) 0 6) 4), (AV.cel (AV.atAgg (AV.der (AV.mkRef [x0])) (ys2433.getD 0 default) 0 6) 5)]]) 48) ∧
              ((AV.binOk Go.BinOp.add (ys2433.getD 0 default) (AV.int 1)) ∧
              (again2433 [(AV.bin Go.BinOp.add (ys2433.getD 0 default) (AV.int 1)), (ys2433.getD 1 default), (AV.app 6 (ys2433.getD 2 default) (AV.mk 6 [[(AV.cel (AV.atAgg (AV.der (AV.mkRef [x0])) (ys2433.getD 0 default) 0 6) 0), (AV.cel (AV.atAgg (AV.der (AV.mkRef [x0])) (ys2433.getD 0 default) 0 6) 1), (AV.cel (AV.atAgg (AV.der (AV.mkRef [x0])) (ys2433.getD 0 default) 0 6) 2), (AV.cel (AV.atAgg (AV.der (AV.mkRef [x0])) (ys2433.getD 0 default) 0 6) 3), (AV.cel (AV.atAgg (AV.der (AV.mkRef [x0])) (ys2433.getD 0 default) 0 6) 4), (AV.cel (AV.atAgg (AV.der (AV.mkRef [x0])) (ys2433.getD 0 default) 0 6) 5)]])), (ys2433.getD 3 default), (ys2433.getD 4 default), (ys2433.getD 5 default), (ys2433.getD 6 default), (ys2433.getD 7 default), (ys2433.getD 8 default), (ys2433.getD 9 default), (ys2433.getD 10 default), (ys2433.getD 11 default), (ys2433.getD 12 default), (ys2433.getD 13 default), (ys2433.getD 14 default), (ys2433.getD 15 default), (ys2433.getD 16 default), (ys2433.getD 17 default), (ys2433.getD 18 default), (ys2433.getD 19 default), (ys2433.getD 20 default), (ys2433.getD 21 default), (ys2433.getD 22 default)])))) ∧
            ((isF (AV.bin Go.BinOp.gtr (AV.cel (AV.atAgg (AV.der (AV.mkRef [x0])) (ys2433.getD 0 default) 0 6) 0) x2)) →
              ((AV.binOk Go.BinOp.add (ys2433.getD 0 default) (AV.int 1)) ∧
              (again2433 [(AV.bin Go.BinOp.add (ys2433.getD 0 default) (AV.int 1)), (ys2433.getD 1 default), (ys2433.getD 2 default), (ys2433.getD 3 default), (ys2433.getD 4 default), (ys2433.getD 5 default), (ys2433.getD 6 default), (ys2433.getD 7 default), (ys2433.getD 8 default), (ys2433.getD 9 default), (ys2433.getD 10 default), (ys2433.getD 11 default), (ys2433.getD 12 default), (ys2433.getD 13 default), (ys2433.getD 14 default), (ys2433.getD 15 default), (ys2433.getD 16 default), (ys2433.getD 17 default), (ys2433.getD 18 default), (ys2433.getD 19 default), (ys2433.getD 20 default), (ys2433.getD 21 default), (ys2433.getD 22 default)])))))))))))))) ∧
        ((isF (AV.bin Go.BinOp.lss (ys2433.getD 0 default) (AV.len (AV.der (AV.mkRef [x0]))))) →
          (∃ r2561 : AV, ((Fn Tryd.prog 26 [(AV.agg [(ys2433.getD 3 default), (ys2433.getD 4 default), (ys2433.getD 5 default), (ys2433.getD 6 default), (ys2433.getD 1 default), (ys2433.getD 2 default), (ys2433.getD 7 default), (ys2433.getD 8 default), (ys2433.getD 9 default), (ys2433.getD 10 default), (ys2433.getD 11 default), (ys2433.getD 12 default), (ys2433.getD 13 default), (ys2433.getD 14 default), (ys2433.getD 15 default), (ys2433.getD 16 default), (ys2433.getD 17 default), (ys2433.getD 18 default), (ys2433.getD 19 default), (ys2433.getD 20 default), (ys2433.getD 21 default), (ys2433.getD 22 default)])] (Sh.tup [(Sh.row 34 6 true), Sh.sc, Sh.sc]) r2561) ∧
          ((AV.binOk Go.BinOp.neq (AV.prj r2561 2) (AV.int 0)) ∧
          ((AV.isBool (AV.bin Go.BinOp.neq (AV.prj r2561 2) (AV.int 0))) ∧
          (((isT (AV.bin Go.BinOp.neq (AV.prj r2561 2) (AV.int 0))) →
            ((AV.flatS (AV.mk 6 [])) ∧
            ((AV.flat (AV.prj r2561 2)) ∧
            (fSame (AV.tup [(AV.mk 6 []), (AV.prj r2561 2)]) r)))) ∧
          ((isF (AV.bin Go.BinOp.neq (AV.prj r2561 2) (AV.int 0))) →
            ((AV.isBool (AV.prj r2561 1)) ∧
            (((isT (AV.prj r2561 1)) →
              ((AV.isRef (AV.mkRef [x0]) 1) ∧
              (∃ r3457 : AV, ((Fn Tryd.prog 27 [(AV.der (AV.mkRef [x0]))] (Sh.row 34 6 true) r3457) ∧
              ((AV.flatS r3457) ∧
              ((AV.flat (AV.int 0)) ∧
              (fSame (AV.tup [r3457, (AV.int 0)]) r))))))) ∧
            ((isF (AV.prj r2561 1)) →
              (∃ r3777 : AV, ((Fn Tryd.prog 28 [(AV.mk 1 [[(ys2433.getD 1 default)], [(AV.mk 6 [[(AV.cel (AV.prj r1025 0) 0), (AV.cel (AV.prj r1025 0) 1), (AV.cel (AV.prj r1025 0) 2), (AV.cel (AV.prj r1025 0) 3), (AV.cel (AV.prj r1025 0) 4), (AV.cel (AV.prj r1025 0) 5)]])], [(AV.prj r2561 0)]])] (Sh.row 34 6 true) r3777) ∧
              ((AV.binOk Go.BinOp.gtr (AV.len r3777) (AV.int 64)) ∧
              ((AV.isBool (AV.bin Go.BinOp.gtr (AV.len r3777) (AV.int 64))) ∧
              (((isT (AV.bin Go.BinOp.gtr (AV.len r3777) (AV.int 64))) →
                ((AV.flatS (AV.mk 6 [])) ∧
                ((AV.flat (AV.int 2)) ∧
                (fSame (AV.tup [(AV.mk 6 []), (AV.int 2)]) r)))) ∧
              ((isF (AV.bin Go.BinOp.gtr (AV.len r3777) (AV.int 64))) →
                ((AV.flatS r3777) ∧
                ((AV.flat (AV.int 0)) ∧
                (fSame (AV.tup [r3777, (AV.int 0)]) r))))))))))))))))))))))))))))))))))))))))))))))))))) := by kernel_rfl
theorem carried_form (x0 r : AV) : fnF Tryd.prog Γ ann 3 26 Tryd.f26 (Tryd.f26.body.getD .skip) (.nil) [x0] (.tup [.row 34 6 true, .sc, .sc]) r = (((AV.isAgg x0 22) ∧
((AV.binOk Go.BinOp.eql (AV.cel x0 1) (AV.int 0)) ∧
((AV.isBool (AV.bin Go.BinOp.eql (AV.cel x0 1) (AV.int 0))) ∧
(((isT (AV.bin Go.BinOp.eql (AV.cel x0 1) (AV.int 0))) →
  (∃ r641 : AV, ((Fn Tryd.prog 41 [(AV.agg [(AV.cel x0 0), (AV.cel x0 1), (AV.cel x0 2), (AV.cel x0 3), (AV.cel x0 4), (AV.cel x0 5), (AV.cel x0 6), (AV.cel x0 7), (AV.cel x0 8), (AV.cel x0 9), (AV.cel x0 10), (AV.cel x0 11), (AV.cel x0 12), (AV.cel x0 13), (AV.cel x0 14), (AV.cel x0 15), (AV.cel x0 16), (AV.cel x0 17), (AV.cel x0 18), (AV.cel x0 19), (AV.cel x0 20), (AV.cel x0 21)])] (Sh.tup [(Sh.row 34 6 true), Sh.sc]) r641) ∧
  ((AV.flatS (AV.prj r641 0)) ∧
  ((AV.flat (AV.bool false)) ∧
  ((AV.flat (AV.prj r641 1)) ∧
  (fSame (AV.tup [(AV.prj r641 0), (AV.bool false), (AV.prj r641 1)]) r))))))) ∧
((isF (AV.bin Go.BinOp.eql (AV.cel x0 1) (AV.int 0))) →
  ((AV.isSl (AV.cel x0 5) 6) ∧
  ((AV.binOk Go.BinOp.eql (AV.len (AV.cel x0 5)) (AV.int 0)) ∧
  ((AV.isBool (AV.bin Go.BinOp.eql (AV.len (AV.cel x0 5)) (AV.int 0))) ∧
  (((isT (AV.bin Go.BinOp.eql (AV.len (AV.cel x0 5)) (AV.int 0))) →
    ((AV.flatS (AV.mk 6 [])) ∧
    ((AV.flat (AV.bool true)) ∧
    ((AV.flat (AV.int 0)) ∧
    (fSame (AV.tup [(AV.mk 6 []), (AV.bool true), (AV.int 0)]) r))))) ∧
  ((isF (AV.bin Go.BinOp.eql (AV.len (AV.cel x0 5)) (AV.int 0))) →
    ((AV.binOk Go.BinOp.eql (AV.cel x0 1) (AV.int 1)) ∧
    ((AV.isBool (AV.bin Go.BinOp.eql (AV.cel x0 1) (AV.int 1))) ∧
    (((isT (AV.bin Go.BinOp.eql (AV.cel x0 1) (AV.int 1))) →
      (∃ r1281 : AV, ((Fn Tryd.prog 42 [(AV.agg [(AV.cel x0 0), (AV.cel x0 1), (AV.cel x0 2), (AV.cel x0 3), (AV.cel x0 4), (AV.cel x0 5), (AV.cel x0 6), (AV.cel x0 7), (AV.cel x0 8), (AV.cel x0 9), (AV.cel x0 10), (AV.cel x0 11), (AV.cel x0 12), (AV.cel x0 13), (AV.cel x0 14), (AV.cel x0 15), (AV.cel x0 16), (AV.cel x0 17), (AV.cel x0 18), (AV.cel x0 19), (AV.cel x0 20), (AV.cel x0 21)])] (Sh.tup [(Sh.row 34 6 true), Sh.sc]) r1281) ∧
      ((AV.flatS (AV.prj r1281 0)) ∧
      ((AV.flat (AV.bool false)) ∧
      ((AV.flat (AV.prj r1281 1)) ∧
      (fSame (AV.tup [(AV.prj r1281 0), (AV.bool false), (AV.prj r1281 1)]) r))))))) ∧
    ((isF (AV.bin Go.BinOp.eql (AV.cel x0 1) (AV.int 1))) →
      ((AV.binOk Go.BinOp.eql (AV.cel x0 1) (AV.int 2)) ∧
      ((AV.isBool (AV.bin Go.BinOp.eql (AV.cel x0 1) (AV.int 2))) ∧
      (((isT (AV.bin Go.BinOp.eql (AV.cel x0 1) (AV.int 2))) →
        (∃ r1601 : AV, ((Fn Tryd.prog 43 [(AV.agg [(AV.cel x0 0), (AV.cel x0 1), (AV.cel x0 2), (AV.cel x0 3), (AV.cel x0 4), (AV.cel x0 5), (AV.cel x0 6), (AV.cel x0 7), (AV.cel x0 8), (AV.cel x0 9), (AV.cel x0 10), (AV.cel x0 11), (AV.cel x0 12), (AV.cel x0 13), (AV.cel x0 14), (AV.cel x0 15), (AV.cel x0 16), (AV.cel x0 17), (AV.cel x0 18), (AV.cel x0 19), (AV.cel x0 20), (AV.cel x0 21)])] (Sh.tup [(Sh.row 34 6 true), Sh.sc]) r1601) ∧
        ((AV.flatS (AV.prj r1601 0)) ∧
        ((AV.flat (AV.bool false)) ∧
        ((AV.flat (AV.prj r1601 1)) ∧
        (fSame (AV.tup [(AV.prj r1601 0), (AV.bool false), (AV.prj r1601 1)]) r))))))) ∧
      ((isF (AV.bin Go.BinOp.eql (AV.cel x0 1) (AV.int 2))) →
        ((AV.binOk Go.BinOp.eql (AV.cel x0 1) (AV.int 3)) ∧
        ((AV.isBool (AV.bin Go.BinOp.eql (AV.cel x0 1) (AV.int 3))) ∧
        (((isT (AV.bin Go.BinOp.eql (AV.cel x0 1) (AV.int 3))) →
          (∃ r1921 : AV, ((Fn Tryd.prog 44 [(AV.agg [(AV.cel x0 0), (AV.cel x0 1), (AV.cel x0 2), (AV.cel x0 3), (AV.cel x0 4), (AV.cel x0 5), (AV.cel x0 6), (AV.cel x0 7), (AV.cel x0 8), (AV.cel x0 9), (AV.cel x0 10), (AV.cel x0 11), (AV.cel x0 12), (AV.cel x0 13), (AV.cel x0 14), (AV.cel x0 15), (AV.cel x0 16), (AV.cel x0 17), (AV.cel x0 18), (AV.cel x0 19), (AV.cel x0 20), (AV.cel x0 21)])] (Sh.tup [(Sh.row 34 6 true), Sh.sc]) r1921) ∧
          ((AV.flatS (AV.prj r1921 0)) ∧
          ((AV.flat (AV.bool false)) ∧
          ((AV.flat (AV.prj r1921 1)) ∧
          (fSame (AV.tup [(AV.prj r1921 0), (AV.bool false), (AV.prj r1921 1)]) r))))))) ∧
        ((isF (AV.bin Go.BinOp.eql (AV.cel x0 1) (AV.int 3))) →
          ((AV.flatS (AV.mk 6 [])) ∧
          ((AV.flat (AV.bool true)) ∧
          ((AV.flat (AV.int 0)) ∧
          (fSame (AV.tup [(AV.mk 6 []), (AV.bool true), (AV.int 0)]) r))))))))))))))))))))))))))) := by kernel_rfl
theorem height_form (x0 r : AV) : fnF Tryd.prog Γ ann 3 41 Tryd.f41 (Tryd.f41.body.getD .skip) (.nil) [x0] (.tup [.row 34 6 true, .sc]) r = (((AV.isAgg x0 22) ∧
(∃ r769 : AV, ((Fn Tryd.prog 11 [(AV.agg [(AV.cel x0 12), (AV.cel x0 13), (AV.cel x0 14), (AV.cel x0 15), (AV.cel x0 16), (AV.cel x0 17), (AV.cel x0 18)]), (AV.cel x0 9), (AV.cel x0 2)] (Sh.tup [Sh.sc, Sh.sc]) r769) ∧
((AV.binOk Go.BinOp.neq (AV.prj r769 1) (AV.int 0)) ∧
((AV.isBool (AV.bin Go.BinOp.neq (AV.prj r769 1) (AV.int 0))) ∧
(((isT (AV.bin Go.BinOp.neq (AV.prj r769 1) (AV.int 0))) →
  ((AV.flatS (AV.mk 6 [])) ∧
  ((AV.flat (AV.prj r769 1)) ∧
  (fSame (AV.tup [(AV.mk 6 []), (AV.prj r769 1)]) r)))) ∧
((isF (AV.bin Go.BinOp.neq (AV.prj r769 1) (AV.int 0))) →
  ((AV.binOk Go.BinOp.add (AV.cel x0 6) (AV.prj r769 0)) ∧
  ((AV.isOne (AV.bin Go.BinOp.add (AV.cel x0 6) (AV.prj r769 0))) ∧
  (∃ r1921 : AV, ((Fn Tryd.prog 27 [(AV.cel x0 5)] (Sh.row 34 6 true) r1921) ∧
  ((AV.binOk Go.BinOp.gtr (AV.prj r769 0) (AV.int 0)) ∧
  ((AV.isBool (AV.bin Go.BinOp.gtr (AV.prj r769 0) (AV.int 0))) ∧
  (((isT (AV.bin Go.BinOp.gtr (AV.prj r769 0) (AV.int 0))) →
    ((AV.binOk Go.BinOp.gtr (AV.len r1921) (AV.int 0)) ∧
    ((AV.isBool (AV.bin Go.BinOp.gtr (AV.prj r769 0) (AV.int 0))) ∧
    ((isT (AV.bin Go.BinOp.gtr (AV.prj r769 0) (AV.int 0))) ∧
    ((AV.isBool (AV.bin Go.BinOp.gtr (AV.len r1921) (AV.int 0))) ∧
    (((isT (AV.bin Go.BinOp.gtr (AV.len r1921) (AV.int 0))) →
      ((AV.binOk Go.BinOp.sub (AV.len r1921) (AV.int 1)) ∧
      ((AV.inb r1921 (AV.bin Go.BinOp.sub (AV.len r1921) (AV.int 1))) ∧
      ((AV.inb r1921 (AV.bin Go.BinOp.sub (AV.len r1921) (AV.int 1))) ∧
      ((AV.binOk Go.BinOp.lss (AV.bin Go.BinOp.add (AV.cel x0 6) (AV.prj r769 0)) (AV.at r1921 (AV.bin Go.BinOp.sub (AV.len r1921) (AV.int 1)) 0)) ∧
      ((AV.isBool (AV.bin Go.BinOp.gtr (AV.len r1921) (AV.int 0))) ∧
      ((isT (AV.bin Go.BinOp.gtr (AV.len r1921) (AV.int 0))) ∧
      ((AV.isBool (AV.bin Go.BinOp.lss (AV.bin Go.BinOp.add (AV.cel x0 6) (AV.prj r769 0)) (AV.at r1921 (AV.bin Go.BinOp.sub (AV.len r1921) (AV.int 1)) 0))) ∧
      (((isT (AV.bin Go.BinOp.lss (AV.bin Go.BinOp.add (AV.cel x0 6) (AV.prj r769 0)) (AV.at r1921 (AV.bin Go.BinOp.sub (AV.len r1921) (AV.int 1)) 0))) →
        ((fEnt Tryd.prog 59) ∧
        (fAllV fun _ => (fLoop 3777 [(AV.int 0)] fun ys3777 again3777 =>
          ((AV.binOk Go.BinOp.lss (ys3777.getD 0 default) (AV.len r1921)) ∧
          ((AV.isBool (AV.bin Go.BinOp.lss (ys3777.getD 0 default) (AV.len r1921))) ∧
          (((isT (AV.bin Go.BinOp.lss (ys3777.getD 0 default) (AV.len r1921))) →
            ((AV.inb r1921 (ys3777.getD 0 default)) ∧
            ((AV.inb r1921 (ys3777.getD 0 default)) ∧
            ((fEnt Tryd.prog 60) ∧
            (fAllV fun _ => ((AV.isAgg (AV.atAgg r1921 (ys3777.getD 0 default) 0 6) 6) ∧
            ((AV.binOk Go.BinOp.geq (AV.cel (AV.atAgg r1921 (ys3777.getD 0 default) 0 6) 0) (AV.bin Go.BinOp.add (AV.cel x0 6) (AV.prj r769 0))) ∧
            ((AV.isBool (AV.bin Go.BinOp.geq (AV.cel (AV.atAgg r1921 (ys3777.getD 0 default) 0 6) 0) (AV.bin Go.BinOp.add (AV.cel x0 6) (AV.prj r769 0)))) ∧
            (((isT (AV.bin Go.BinOp.geq (AV.cel (AV.atAgg r1921 (ys3777.getD 0 default) 0 6) 0) (AV.bin Go.BinOp.add (AV.cel x0 6) (AV.prj r769 0)))) →
              ((AV.inb r1921 (ys3777.getD 0 default)) ∧
              ((AV.inb r1921 (ys3777.getD 0 default)) ∧
              ((AV.binOk Go.BinOp.neq (AV.at r1921 (ys3777.getD 0 default) 0) (AV.bin Go.BinOp.add (AV.cel x0 6) (AV.prj r769 0))) ∧
              ((AV.isBool (AV.bin Go.BinOp.neq (AV.at r1921 (ys3777.getD 0 default) 0) (AV.bin Go.BinOp.add (AV.cel x0 6) (AV.prj r769 0)))) ∧
              (((isT (AV.bin Go.BinOp.neq (AV.at r1921 (ys3777.getD 0 default) 0) (AV.bin Go.BinOp.add (AV.cel x0 6) (AV.prj r769 0)))) →
                (∃ r5889 : AV, ((Fn Tryd.prog 8 [(AV.cel x0 21), (AV.bin Go.BinOp.add (AV.cel x0 6) (AV.prj r769 0))] (Sh.tup [Sh.sc, Sh.sc]) r5889) ∧
                ((AV.isAgg (AV.prj r5889 0) 6) ∧
                (∃ r6593 : AV, ((FnU Tryd.prog 61 34 6 r1921 [(ys3777.getD 0 default), (AV.mk 6 [[(AV.cel (AV.prj r5889 0) 0), (AV.cel (AV.prj r5889 0) 1), (AV.cel (AV.prj r5889 0) 2), (AV.cel (AV.prj r5889 0) 3), (AV.cel (AV.prj r5889 0) 4), (AV.cel (AV.prj r5889 0) 5)]])] true r6593) ∧
                (fLoop 6913 [(AV.int 0), r6593] fun ys6913 again6913 =>
                  ((AV.binOk Go.BinOp.lss (ys6913.getD 0 default) (AV.len r6593)) ∧
                  ((AV.isBool (AV.bin Go.BinOp.lss (ys6913.getD 0 default) (AV.len r6593))) ∧
                  (((isT (AV.bin Go.BinOp.lss (ys6913.getD 0 default) (AV.len r6593))) →
                    ((AV.inb (ys6913.getD 1 default) (ys6913.getD 0 default)) ∧
                    ((AV.inb (ys6913.getD 1 default) (ys6913.getD 0 default)) ∧
                    ((AV.binOk Go.BinOp.geq (AV.at (ys6913.getD 1 default) (ys6913.getD 0 default) 0) (AV.bin Go.BinOp.add (AV.cel x0 6) (AV.prj r769 0))) ∧
                    ((AV.isBool (AV.bin Go.BinOp.geq (AV.at (ys6913.getD 1 default) (ys6913.getD 0 default) 0) (AV.bin Go.BinOp.add (AV.cel x0 6) (AV.prj r769 0)))) ∧
                    (((isT (AV.bin Go.BinOp.geq (AV.at (ys6913.getD 1 default) (ys6913.getD 0 default) 0) (AV.bin Go.BinOp.add (AV.cel x0 6) (AV.prj r769 0)))) →
                      ((AV.isOne (AV.cel x0 2)) ∧
                      ((AV.inb (ys6913.getD 1 default) (ys6913.getD 0 default)) ∧
                      ((AV.binOk Go.BinOp.add (ys6913.getD 0 default) (AV.int 1)) ∧
                      (again6913 [(AV.bin Go.BinOp.add (ys6913.getD 0 default) (AV.int 1)), (AV.setEl (ys6913.getD 1 default) (ys6913.getD 0 default) 3 [(AV.cel x0 2)])]))))) ∧
                    ((isF (AV.bin Go.BinOp.geq (AV.at (ys6913.getD 1 default) (ys6913.getD 0 default) 0) (AV.bin Go.BinOp.add (AV.cel x0 6) (AV.prj r769 0)))) →
                      ((AV.binOk Go.BinOp.sub (AV.cel x0 2) (AV.cel x0 9)) ∧
                      ((AV.inb (ys6913.getD 1 default) (ys6913.getD 0 default)) ∧
                      ((AV.binOk Go.BinOp.sub (AV.at (ys6913.getD 1 default) (ys6913.getD 0 default) 0) (AV.cel x0 6)) ∧
                      ((AV.binOk Go.BinOp.mul (AV.bin Go.BinOp.sub (AV.cel x0 2) (AV.cel x0 9)) (AV.bin Go.BinOp.sub (AV.at (ys6913.getD 1 default) (ys6913.getD 0 default) 0) (AV.cel x0 6))) ∧
                      (∃ r9089 : AV, ((Fn Tryd.prog 37 [(AV.bin Go.BinOp.mul (AV.bin Go.BinOp.sub (AV.cel x0 2) (AV.cel x0 9)) (AV.bin Go.BinOp.sub (AV.at (ys6913.getD 1 default) (ys6913.getD 0 default) 0) (AV.cel x0 6))), (AV.prj r769 0)] (Sh.tup [Sh.sc, Sh.sc]) r9089) ∧
                      ((AV.binOk Go.BinOp.add (AV.cel x0 9) (AV.prj r9089 0)) ∧
                      ((AV.isOne (AV.bin Go.BinOp.add (AV.cel x0 9) (AV.prj r9089 0))) ∧
                      ((AV.inb (ys6913.getD 1 default) (ys6913.getD 0 default)) ∧
                      ((AV.binOk Go.BinOp.add (ys6913.getD 0 default) (AV.int 1)) ∧
                      (again6913 [(AV.bin Go.BinOp.add (ys6913.getD 0 default) (AV.int 1)), (AV.setEl (ys6913.getD 1 default) (ys6913.getD 0 default) 3 [(AV.bin Go.BinOp.add (AV.cel x0 9) (AV.prj r9089 0))])])))))))))))))))))) ∧
                  ((isF (AV.bin Go.BinOp.lss (ys6913.getD 0 default) (AV.len r6593))) →
                    ((AV.flatS (ys6913.getD 1 default)) ∧
                    ((AV.flat (AV.int 0)) ∧
                    (fSame (AV.tup [(ys6913.getD 1 default), (AV.int 0)]) r)))))))))))))) ∧
              ((isF (AV.bin Go.BinOp.neq (AV.at r1921 (ys3777.getD 0 default) 0) (AV.bin Go.BinOp.add (AV.cel x0 6) (AV.prj r769 0)))) →
                (fLoop 5889 [(AV.int 0), r1921] fun ys5889 again5889 =>
                  ((AV.binOk Go.BinOp.lss (ys5889.getD 0 default) (AV.len r1921)) ∧
                  ((AV.isBool (AV.bin Go.BinOp.lss (ys5889.getD 0 default) (AV.len r1921))) ∧
                  (((isT (AV.bin Go.BinOp.lss (ys5889.getD 0 default) (AV.len r1921))) →
                    ((AV.inb (ys5889.getD 1 default) (ys5889.getD 0 default)) ∧
                    ((AV.inb (ys5889.getD 1 default) (ys5889.getD 0 default)) ∧
                    ((AV.binOk Go.BinOp.geq (AV.at (ys5889.getD 1 default) (ys5889.getD 0 default) 0) (AV.bin Go.BinOp.add (AV.cel x0 6) (AV.prj r769 0))) ∧
                    ((AV.isBool (AV.bin Go.BinOp.geq (AV.at (ys5889.getD 1 default) (ys5889.getD 0 default) 0) (AV.bin Go.BinOp.add (AV.cel x0 6) (AV.prj r769 0)))) ∧
                    (((isT (AV.bin Go.BinOp.geq (AV.at (ys5889.getD 1 default) (ys5889.getD 0 default) 0) (AV.bin Go.BinOp.add (AV.cel x0 6) (AV.prj r769 0)))) →
                      ((AV.isOne (AV.cel x0 2)) ∧
                      ((AV.inb (ys5889.getD 1 default) (ys5889.getD 0 default)) ∧
                      ((AV.binOk Go.BinOp.add (ys5889.getD 0 default) (AV.int 1)) ∧
                      (again5889 [(AV.bin Go.BinOp.add (ys5889.getD 0 default) (AV.int 1)), (AV.setEl (ys5889.getD 1 default) (ys5889.getD 0 default) 3 [(AV.cel x0 2)])]))))) ∧
                    ((isF (AV.bin Go.BinOp.geq (AV.at (ys5889.getD 1 default) (ys5889.getD 0 default) 0) (AV.bin Go.BinOp.add (AV.cel x0 6) (AV.prj r769 0)))) →
                      ((AV.binOk Go.BinOp.sub (AV.cel x0 2) (AV.cel x0 9)) ∧
                      ((AV.inb (ys5889.getD 1 default) (ys5889.getD 0 default)) ∧
                      ((AV.binOk Go.BinOp.sub (AV.at (ys5889.getD 1 default) (ys5889.getD 0 default) 0) (AV.cel x0 6)) ∧
                      ((AV.binOk Go.BinOp.mul (AV.bin Go.BinOp.sub (AV.cel x0 2) (AV.cel x0 9)) (AV.bin Go.BinOp.sub (AV.at (ys5889.getD 1 default) (ys5889.getD 0 default) 0) (AV.cel x0 6))) ∧
                      (∃ r8065 : AV, ((Fn Tryd.prog 37 [(AV.bin Go.BinOp.mul (AV.bin Go.BinOp.sub (AV.cel x0 2) (AV.cel x0 9)) (AV.bin Go.BinOp.sub (AV.at (ys5889.getD 1 default) (ys5889.getD 0 default) 0) (AV.cel x0 6))), (AV.prj r769 0)] (Sh.tup [Sh.sc, Sh.sc]) r8065) ∧
                      ((AV.binOk Go.BinOp.add (AV.cel x0 9) (AV.prj r8065 0)) ∧
                      ((AV.isOne (AV.bin Go.BinOp.add (AV.cel x0 9) (AV.prj r8065 0))) ∧
                      ((AV.inb (ys5889.getD 1 default) (ys5889.getD 0 default)) ∧
                      ((AV.binOk Go.BinOp.add (ys5889.getD 0 default) (AV.int 1)) ∧
                      (again5889 [(AV.bin Go.BinOp.add (ys5889.getD 0 default) (AV.int 1)), (AV.setEl (ys5889.getD 1 default) (ys5889.getD 0 default) 3 [(AV.bin Go.BinOp.add (AV.cel x0 9) (AV.prj r8065 0))])])))))))))))))))))) ∧
                  ((isF (AV.bin Go.BinOp.lss (ys5889.getD 0 default) (AV.len r1921))) →
                    ((AV.flatS (ys5889.getD 1 default)) ∧
                    ((AV.flat (AV.int 0)) ∧
                    (fSame (AV.tup [(ys5889.getD 1 default), (AV.int 0)]) r))))))))))))))) ∧
            ((isF (AV.bin Go.BinOp.geq (AV.cel (AV.atAgg r1921 (ys3777.getD 0 default) 0 6) 0) (AV.bin Go.BinOp.add (AV.cel x0 6) (AV.prj r769 0)))) →
              ((AV.binOk Go.BinOp.add (ys3777.getD 0 default) (AV.int 1)) ∧
              (again3777 [(AV.bin Go.BinOp.add (ys3777.getD 0 default) (AV.int 1))])))))))))))) ∧
          ((isF (AV.bin Go.BinOp.lss (ys3777.getD 0 default) (AV.len r1921))) →
            ((AV.inb r1921 (AV.int (-1))) ∧
            ((AV.inb r1921 (AV.int (-1))) ∧
            ((AV.binOk Go.BinOp.neq (AV.at r1921 (AV.int (-1)) 0) (AV.bin Go.BinOp.add (AV.cel x0 6) (AV.prj r769 0))) ∧
            ((AV.isBool (AV.bin Go.BinOp.neq (AV.at r1921 (AV.int (-1)) 0) (AV.bin Go.BinOp.add (AV.cel x0 6) (AV.prj r769 0)))) ∧
            (((isT (AV.bin Go.BinOp.neq (AV.at r1921 (AV.int (-1)) 0) (AV.bin Go.BinOp.add (AV.cel x0 6) (AV.prj r769 0)))) →
              (∃ r4737 : AV, ((Fn Tryd.prog 8 [(AV.cel x0 21), (AV.bin Go.BinOp.add (AV.cel x0 6) (AV.prj r769 0))] (Sh.tup [Sh.sc, Sh.sc]) r4737) ∧
              ((AV.isAgg (AV.prj r4737 0) 6) ∧
              (∃ r5441 : AV, ((FnU Tryd.prog 61 34 6 r1921 [(AV.int (-1)), (AV.mk 6 [[(AV.cel (AV.prj r4737 0) 0), (AV.cel (AV.prj r4737 0) 1), (AV.cel (AV.prj r4737 0) 2), (AV.cel (AV.prj r4737 0) 3), (AV.cel (AV.prj r4737 0) 4), (AV.cel (AV.prj r4737 0) 5)]])] true r5441) ∧
              (fLoop 5761 [(AV.int 0), r5441] fun ys5761 again5761 =>
                ((AV.binOk Go.BinOp.lss (ys5761.getD 0 default) (AV.len r5441)) ∧
                ((AV.isBool (AV.bin Go.BinOp.lss (ys5761.getD 0 default) (AV.len r5441))) ∧
                (((isT (AV.bin Go.BinOp.lss (ys5761.getD 0 default) (AV.len r5441))) →
                  ((AV.inb (ys5761.getD 1 default) (ys5761.getD 0 default)) ∧
                  ((AV.inb (ys5761.getD 1 default) (ys5761.getD 0 default)) ∧
                  ((AV.binOk Go.BinOp.geq (AV.at (ys5761.getD 1 default) (ys5761.getD 0 default) 0) (AV.bin Go.BinOp.add (AV.cel x0 6) (AV.prj r769 0))) ∧
                  ((AV.isBool (AV.bin Go.BinOp.geq (AV.at (ys5761.getD 1 default) (ys5761.getD 0 default) 0) (AV.bin Go.BinOp.add (AV.cel x0 6) (AV.prj r769 0)))) ∧
                  (((isT (AV.bin Go.BinOp.geq (AV.at (ys5761.getD 1 default) (ys5761.getD 0 default) 0) (AV.bin Go.BinOp.add (AV.cel x0 6) (AV.prj r769 0)))) →
                    ((AV.isOne (AV.cel x0 2)) ∧
                    ((AV.inb (ys5761.getD 1 default) (ys5761.getD 0 default)) ∧
                    ((AV.binOk Go.BinOp.add (ys5761.getD 0 default) (AV.int 1)) ∧
                    (again5761 [(AV.bin Go.BinOp.add (ys5761.getD 0 default) (AV.int 1)), (AV.setEl (ys5761.getD 1 default) (ys5761.getD 0 default) 3 [(AV.cel x0 2)])]))))) ∧
                  ((isF (AV.bin Go.BinOp.geq (AV.at (ys5761.getD 1 default) (ys5761.getD 0 default) 0) (AV.bin Go.BinOp.add (AV.cel x0 6) (AV.prj r769 0)))) →
                    ((AV.binOk Go.BinOp.sub (AV.cel x0 2) (AV.cel x0 9)) ∧
                    ((AV.inb (ys5761.getD 1 default) (ys5761.getD 0 default)) ∧
                    ((AV.binOk Go.BinOp.sub (AV.at (ys5761.getD 1 default) (ys5761.getD 0 default) 0) (AV.cel x0 6)) ∧
                    ((AV.binOk Go.BinOp.mul (AV.bin Go.BinOp.sub (AV.cel x0 2) (AV.cel x0 9)) (AV.bin Go.BinOp.sub (AV.at (ys5761.getD 1 default) (ys5761.getD 0 default) 0) (AV.cel x0 6))) ∧
                    (∃ r7937 : AV, ((Fn Tryd.prog 37 [(AV.bin Go.BinOp.mul (AV.bin Go.BinOp.sub (AV.cel x0 2) (AV.cel x0 9)) (AV.bin Go.BinOp.sub (AV.at (ys5761.getD 1 default) (ys5761.getD 0 default) 0) (AV.cel x0 6))), (AV.prj r769 0)] (Sh.tup [Sh.sc, Sh.sc]) r7937) ∧
                    ((AV.binOk Go.BinOp.add (AV.cel x0 9) (AV.prj r7937 0)) ∧
                    ((AV.isOne (AV.bin Go.BinOp.add (AV.cel x0 9) (AV.prj r7937 0))) ∧
                    ((AV.inb (ys5761.getD 1 default) (ys5761.getD 0 default)) ∧
                    ((AV.binOk Go.BinOp.add (ys5761.getD 0 default) (AV.int 1)) ∧
                    (again5761 [(AV.bin Go.BinOp.add (ys5761.getD 0 default) (AV.int 1)), (AV.setEl (ys5761.getD 1 default) (ys5761.getD 0 default) 3 [(AV.bin Go.BinOp.add (AV.cel x0 9) (AV.prj r7937 0))])])))))))))))))))))) ∧
                ((isF (AV.bin Go.BinOp.lss (ys5761.getD 0 default) (AV.len r5441))) →
                  ((AV.flatS (ys5761.getD 1 default)) ∧
                  ((AV.flat (AV.int 0)) ∧
                  (fSame (AV.tup [(ys5761.getD 1 default), (AV.int 0)]) r)))))))))))))) ∧
            ((isF (AV.bin Go.BinOp.neq (AV.at r1921 (AV.int (-1)) 0) (AV.bin Go.BinOp.add (AV.cel x0 6) (AV.prj r769 0)))) →
              (fLoop 4737 [(AV.int 0), r1921] fun ys4737 again4737 =>
                ((AV.binOk Go.BinOp.lss (ys4737.getD 0 default) (AV.len r1921)) ∧
                ((AV.isBool (AV.bin Go.BinOp.lss (ys4737.getD 0 default) (AV.len r1921))) ∧
                (((isT (AV.bin Go.BinOp.lss (ys4737.getD 0 default) (AV.len r1921))) →
                  ((AV.inb (ys4737.getD 1 default) (ys4737.getD 0 default)) ∧
                  ((AV.inb (ys4737.getD 1 default) (ys4737.getD 0 default)) ∧
                  ((AV.binOk Go.BinOp.geq (AV.at (ys4737.getD 1 default) (ys4737.getD 0 default) 0) (AV.bin Go.BinOp.add (AV.cel x0 6) (AV.prj r769 0))) ∧
                  ((AV.isBool (AV.bin Go.BinOp.geq (AV.at (ys4737.getD 1 default) (ys4737.getD 0 default) 0) (AV.bin Go.BinOp.add (AV.cel x0 6) (AV.prj r769 0)))) ∧
                  (((isT (AV.bin Go.BinOp.geq (AV.at (ys4737.getD 1 default) (ys4737.getD 0 default) 0) (AV.bin Go.BinOp.add (AV.cel x0 6) (AV.prj r769 0)))) →
                    ((AV.isOne (AV.cel x0 2)) ∧
                    ((AV.inb (ys4737.getD 1 default) (ys4737.getD 0 default)) ∧
                    ((AV.binOk Go.BinOp.add (ys4737.getD 0 default) (AV.int 1)) ∧
                    (again4737 [(AV.bin Go.BinOp.add (ys4737.getD 0 default) (AV.int 1)), (AV.setEl (ys4737.getD 1 default) (ys4737.getD 0 default) 3 [(AV.cel x0 2)])]))))) ∧
                  ((isF (AV.bin Go.BinOp.geq (AV.at (ys4737.getD 1 default) (ys4737.getD 0 default) 0) (AV.bin Go.BinOp.add (AV.cel x0 6) (AV.prj r769 0)))) →
                    ((AV.binOk Go.BinOp.sub (AV.cel x0 2) (AV.cel x0 9)) ∧
                    ((AV.inb (ys4737.getD 1 default) (ys4737.getD 0 default)) ∧
                    ((AV.binOk Go.BinOp.sub (AV.at (ys4737.getD 1 default) (ys4737.getD 0 default) 0) (AV.cel x0 6)) ∧
                    ((AV.binOk Go.BinOp.mul (AV.bin Go.BinOp.sub (AV.cel x0 2) (AV.cel x0 9)) (AV.bin Go.BinOp.sub (AV.at (ys4737.getD 1 default) (ys4737.getD 0 default) 0) (AV.cel x0 6))) ∧
                    (∃ r6913 : AV, ((Fn Tryd.prog 37 [(AV.bin Go.BinOp.mul (AV.bin Go.BinOp.sub (AV.cel x0 2) (AV.cel x0 9)) (AV.bin Go.BinOp.sub (AV.at (ys4737.getD 1 default) (ys4737.getD 0 default) 0) (AV.cel x0 6))), (AV.prj r769 0)] (Sh.tup [Sh.sc, Sh.sc]) r6913) ∧
                    ((AV.binOk Go.BinOp.add (AV.cel x0 9) (AV.prj r6913 0)) ∧
                    ((AV.isOne (AV.bin Go.BinOp.add (AV.cel x0 9) (AV.prj r6913 0))) ∧
                    ((AV.inb (ys4737.getD 1 default) (ys4737.getD 0 default)) ∧
                    ((AV.binOk Go.BinOp.add (ys4737.getD 0 default) (AV.int 1)) ∧
                    (again4737 [(AV.bin Go.BinOp.add (ys4737.getD 0 default) (AV.int 1)), (AV.setEl (ys4737.getD 1 default) (ys4737.getD 0 default) 3 [(AV.bin Go.BinOp.add (AV.cel x0 9) (AV.prj r6913 0))])])))))))))))))))))) ∧
                ((isF (AV.bin Go.BinOp.lss (ys4737.getD 0 default) (AV.len r1921))) →
                  ((AV.flatS (ys4737.getD 1 default)) ∧
                  ((AV.flat (AV.int 0)) ∧
                  (fSame (AV.tup [(ys4737.getD 1 default), (AV.int 0)]) r)))))))))))))))))))))) ∧
      ((isF (AV.bin Go.BinOp.lss (AV.bin Go.BinOp.add (AV.cel x0 6) (AV.prj r769 0)) (AV.at r1921 (AV.bin Go.BinOp.sub (AV.len r1921) (AV.int 1)) 0))) →
        (fLoop 3521 [(AV.int 0), r1921] fun ys3521 again3521 =>
          ((AV.binOk Go.BinOp.lss (ys3521.getD 0 default) (AV.len r1921)) ∧
          ((AV.isBool (AV.bin Go.BinOp.lss (ys3521.getD 0 default) (AV.len r1921))) ∧
          (((isT (AV.bin Go.BinOp.lss (ys3521.getD 0 default) (AV.len r1921))) →
            ((AV.inb (ys3521.getD 1 default) (ys3521.getD 0 default)) ∧
            ((AV.inb (ys3521.getD 1 default) (ys3521.getD 0 default)) ∧
            ((AV.binOk Go.BinOp.geq (AV.at (ys3521.getD 1 default) (ys3521.getD 0 default) 0) (AV.bin Go.BinOp.add (AV.cel x0 6) (AV.prj r769 0))) ∧
            ((AV.isBool (AV.bin Go.BinOp.geq (AV.at (ys3521.getD 1 default) (ys3521.getD 0 default) 0) (AV.bin Go.BinOp.add (AV.cel x0 6) (AV.prj r769 0)))) ∧
            (((isT (AV.bin Go.BinOp.geq (AV.at (ys3521.getD 1 default) (ys3521.getD 0 default) 0) (AV.bin Go.BinOp.add (AV.cel x0 6) (AV.prj r769 0)))) →
              ((AV.isOne (AV.cel x0 2)) ∧
              ((AV.inb (ys3521.getD 1 default) (ys3521.getD 0 default)) ∧
              ((AV.binOk Go.BinOp.add (ys3521.getD 0 default) (AV.int 1)) ∧
              (again3521 [(AV.bin Go.BinOp.add (ys3521.getD 0 default) (AV.int 1)), (AV.setEl (ys3521.getD 1 default) (ys3521.getD 0 default) 3 [(AV.cel x0 2)])]))))) ∧
            ((isF (AV.bin Go.BinOp.geq (AV.at (ys3521.getD 1 default) (ys3521.getD 0 default) 0) (AV.bin Go.BinOp.add (AV.cel x0 6) (AV.prj r769 0)))) →
              ((AV.binOk Go.BinOp.sub (AV.cel x0 2) (AV.cel x0 9)) ∧
              ((AV.inb (ys3521.getD 1 default) (ys3521.getD 0 default)) ∧
              ((AV.binOk Go.BinOp.sub (AV.at (ys3521.getD 1 default) (ys3521.getD 0 default) 0) (AV.cel x0 6)) ∧
              ((AV.binOk Go.BinOp.mul (AV.bin Go.BinOp.sub (AV.cel x0 2) (AV.cel x0 9)) (AV.bin Go.BinOp.sub (AV.at (ys3521.getD 1 default) (ys3521.getD 0 default) 0) (AV.cel x0 6))) ∧
              (∃ r5697 : AV, ((Fn Tryd.prog 37 [(AV.bin Go.BinOp.mul (AV.bin Go.BinOp.sub (AV.cel x0 2) (AV.cel x0 9)) (AV.bin Go.BinOp.sub (AV.at (ys3521.getD 1 default) (ys3521.getD 0 default) 0) (AV.cel x0 6))), (AV.prj r769 0)] (Sh.tup [Sh.sc, Sh.sc]) r5697) ∧
              ((AV.binOk Go.BinOp.add (AV.cel x0 9) (AV.prj r5697 0)) ∧
              ((AV.isOne (AV.bin Go.BinOp.add (AV.cel x0 9) (AV.prj r5697 0))) ∧
              ((AV.inb (ys3521.getD 1 default) (ys3521.getD 0 default)) ∧
              ((AV.binOk Go.BinOp.add (ys3521.getD 0 default) (AV.int 1)) ∧
              (again3521 [(AV.bin Go.BinOp.add (ys3521.getD 0 default) (AV.int 1)), (AV.setEl (ys3521.getD 1 default) (ys3521.getD 0 default) 3 [(AV.bin Go.BinOp.add (AV.cel x0 9) (AV.prj r5697 0))])])))))))))))))))))) ∧
          ((isF (AV.bin Go.BinOp.lss (ys3521.getD 0 default) (AV.len r1921))) →
            ((AV.flatS (ys3521.getD 1 default)) ∧
            ((AV.flat (AV.int 0)) ∧
            (fSame (AV.tup [(ys3521.getD 1 default), (AV.int 0)]) r)))))))))))))))))) ∧
    ((isF (AV.bin Go.BinOp.gtr (AV.len r1921) (AV.int 0))) →
      ((AV.isBool (AV.bin Go.BinOp.gtr (AV.len r1921) (AV.int 0))) ∧
      ((isF (AV.bin Go.BinOp.gtr (AV.len r1921) (AV.int 0))) ∧
      (fLoop 3521 [(AV.int 0), r1921] fun ys3521 again3521 =>
        ((AV.binOk Go.BinOp.lss (ys3521.getD 0 default) (AV.len r1921)) ∧
        ((AV.isBool (AV.bin Go.BinOp.lss (ys3521.getD 0 default) (AV.len r1921))) ∧
        (((isT (AV.bin Go.BinOp.lss (ys3521.getD 0 default) (AV.len r1921))) →
          ((AV.inb (ys3521.getD 1 default) (ys3521.getD 0 default)) ∧
          ((AV.inb (ys3521.getD 1 default) (ys3521.getD 0 default)) ∧
          ((AV.binOk Go.BinOp.geq (AV.at (ys3521.getD 1 default) (ys3521.getD 0 default) 0) (AV.bin Go.BinOp.add (AV.cel x0 6) (AV.prj r769 0))) ∧
          ((AV.isBool (AV.bin Go.BinOp.geq (AV.at (ys3521.getD 1 default) (ys3521.getD 0 default) 0) (AV.bin Go.BinOp.add (AV.cel x0 6) (AV.prj r769 0)))) ∧
          (((isT (AV.bin Go.BinOp.geq (AV.at (ys3521.getD 1 default) (ys3521.getD 0 default) 0) (AV.bin Go.BinOp.add (AV.cel x0 6) (AV.prj r769 0)))) →
            ((AV.isOne (AV.cel x0 2)) ∧
            ((AV.inb (ys3521.getD 1 default) (ys3521.getD 0 default)) ∧
            ((AV.binOk Go.BinOp.add (ys3521.getD 0 default) (AV.int 1)) ∧
            (again3521 [(AV.bin Go.BinOp.add (ys3521.getD 0 default) (AV.int 1)), (AV.setEl (ys3521.getD 1 default) (ys3521.getD 0 default) 3 [(AV.cel x0 2)])]))))) ∧
          ((isF (AV.bin Go.BinOp.geq (AV.at (ys3521.getD 1 default) (ys3521.getD 0 default) 0) (AV.bin Go.BinOp.add (AV.cel x0 6) (AV.prj r769 0)))) →
            ((AV.binOk Go.BinOp.sub (AV.cel x0 2) (AV.cel x0 9)) ∧
            ((AV.inb (ys3521.getD 1 default) (ys3521.getD 0 default)) ∧
            ((AV.binOk Go.BinOp.sub (AV.at (ys3521.getD 1 default) (ys3521.getD 0 default) 0) (AV.cel x0 6)) ∧
            ((AV.binOk Go.BinOp.mul (AV.bin Go.BinOp.sub (AV.cel x0 2) (AV.cel x0 9)) (AV.bin Go.BinOp.sub (AV.at (ys3521.getD 1 default) (ys3521.getD 0 default) 0) (AV.cel x0 6))) ∧
            (∃ r5697 : AV, ((Fn Tryd.prog 37 [(AV.bin Go.BinOp.mul (AV.bin Go.BinOp.sub (AV.cel x0 2) (AV.cel x0 9)) (AV.bin Go.BinOp.sub (AV.at (ys3521.getD 1 default) (ys3521.getD 0 default) 0) (AV.cel x0 6))), (AV.prj r769 0)] (Sh.tup [Sh.sc, Sh.sc]) r5697) ∧
            ((AV.binOk Go.BinOp.add (AV.cel x0 9) (AV.prj r5697 0)) ∧
            ((AV.isOne (AV.bin Go.BinOp.add (AV.cel x0 9) (AV.prj r5697 0))) ∧
            ((AV.inb (ys3521.getD 1 default) (ys3521.getD 0 default)) ∧
            ((AV.binOk Go.BinOp.add (ys3521.getD 0 default) (AV.int 1)) ∧
            (again3521 [(AV.bin Go.BinOp.add (ys3521.getD 0 default) (AV.int 1)), (AV.setEl (ys3521.getD 1 default) (ys3521.getD 0 default) 3 [(AV.bin Go.BinOp.add (AV.cel x0 9) (AV.prj r5697 0))])])))))))))))))))))) ∧
        ((isF (AV.bin Go.BinOp.lss (ys3521.getD 0 default) (AV.len r1921))) →
          ((AV.flatS (ys3521.getD 1 default)) ∧
          ((AV.flat (AV.int 0)) ∧
          (fSame (AV.tup [(ys3521.getD 1 default), (AV.int 0)]) r))))))))))))))))) ∧
  ((isF (AV.bin Go.BinOp.gtr (AV.prj r769 0) (AV.int 0))) →
    ((AV.isBool (AV.bin Go.BinOp.gtr (AV.prj r769 0) (AV.int 0))) ∧
    ((isF (AV.bin Go.BinOp.gtr (AV.prj r769 0) (AV.int 0))) ∧
    (fLoop 3521 [(AV.int 0), r1921] fun ys3521 again3521 =>
      ((AV.binOk Go.BinOp.lss (ys3521.getD 0 default) (AV.len r1921)) ∧
      ((AV.isBool (AV.bin Go.BinOp.lss (ys3521.getD 0 default) (AV.len r1921))) ∧
      (((isT (AV.bin Go.BinOp.lss (ys3521.getD 0 default) (AV.len r1921))) →
        ((AV.inb (ys3521.getD 1 default) (ys3521.getD 0 default)) ∧
        ((AV.inb (ys3521.getD 1 default) (ys3521.getD 0 default)) ∧
        ((AV.binOk Go.BinOp.geq (AV.at (ys3521.getD 1 default) (ys3521.getD 0 default) 0) (AV.bin Go.BinOp.add (AV.cel x0 6) (AV.prj r769 0))) ∧
        ((AV.isBool (AV.bin Go.BinOp.geq (AV.at (ys3521.getD 1 default) (ys3521.getD 0 default) 0) (AV.bin Go.BinOp.add (AV.cel x0 6) (AV.prj r769 0)))) ∧
        (((isT (AV.bin Go.BinOp.geq (AV.at (ys3521.getD 1 default) (ys3521.getD 0 default) 0) (AV.bin Go.BinOp.add (AV.cel x0 6) (AV.prj r769 0)))) →
          ((AV.isOne (AV.cel x0 2)) ∧
          ((AV.inb (ys3521.getD 1 default) (ys3521.getD 0 default)) ∧
          ((AV.binOk Go.BinOp.add (ys3521.getD 0 default) (AV.int 1)) ∧
          (again3521 [(AV.bin Go.BinOp.add (ys3521.getD 0 default) (AV.int 1)), (AV.setEl (ys3521.getD 1 default) (ys3521.getD 0 default) 3 [(AV.cel x0 2)])]))))) ∧
        ((isF (AV.bin Go.BinOp.geq (AV.at (ys3521.getD 1 default) (ys3521.getD 0 default) 0) (AV.bin Go.BinOp.add (AV.cel x0 6) (AV.prj r769 0)))) →
          ((AV.binOk Go.BinOp.sub (AV.cel x0 2) (AV.cel x0 9)) ∧
          ((AV.inb (ys3521.getD 1 default) (ys3521.getD 0 default)) ∧
          ((AV.binOk Go.BinOp.sub (AV.at (ys3521.getD 1 default) (ys3521.getD 0 default) 0) (AV.cel x0 6)) ∧
          ((AV.binOk Go.BinOp.mul (AV.bin Go.BinOp.sub (AV.cel x0 2) (AV.cel x0 9)) (AV.bin Go.BinOp.sub (AV.at (ys3521.getD 1 default) (ys3521.getD 0 default) 0) (AV.cel x0 6))) ∧
          (∃ r5697 : AV, ((Fn Tryd.prog 37 [(AV.bin Go.BinOp.mul (AV.bin Go.BinOp.sub (AV.cel x0 2) (AV.cel x0 9)) (AV.bin Go.BinOp.sub (AV.at (ys3521.getD 1 default) (ys3521.getD 0 default) 0) (AV.cel x0 6))), (AV.prj r769 0)] (Sh.tup [Sh.sc, Sh.sc]) r5697) ∧
          ((AV.binOk Go.BinOp.add (AV.cel x0 9) (AV.prj r5697 0)) ∧
          ((AV.isOne (AV.bin Go.BinOp.add (AV.cel x0 9) (AV.prj r5697 0))) ∧
          ((AV.inb (ys3521.getD 1 default) (ys3521.getD 0 default)) ∧
          ((AV.binOk Go.BinOp.add (ys3521.getD 0 default) (AV.int 1)) ∧
          (again3521 [(AV.bin Go.BinOp.add (ys3521.getD 0 default) (AV.int 1)), (AV.setEl (ys3521.getD 1 default) (ys3521.getD 0 default) 3 [(AV.bin Go.BinOp.add (AV.cel x0 9) (AV.prj r5697 0))])])))))))))))))))))) ∧
      ((isF (AV.bin Go.BinOp.lss (ys3521.getD 0 default) (AV.len r1921))) →
        ((AV.flatS (ys3521.getD 1 default)) ∧
        ((AV.flat (AV.int 0)) ∧
        (fSame (AV.tup [(ys3521.getD 1 default), (AV.int 0)]) r)))))))))))))))))))))))))) := by kernel_rfl
end EffF
end Go.Proofs.YtocgoabplafoeaaDoor
/- effects: what the run ends in. -/
namespace Go.Proofs.YtocgoabplafoeaaDoor
open Go.RowKit
set_option linter.unusedVariables false
set_option maxRecDepth 100000
namespace EffG
--GAMMA
def Γ : FuncId → Option Ca := fun f =>
  if f = 7 ∨ f = 17 ∨ f = 22 ∨ f = 24 ∨ f = 40 ∨ f = 38 ∨ f = 16 ∨ f = 15 ∨ f = 5 ∨ f = 10 ∨ f = 29 ∨ f = 20 ∨ f = 21 ∨ f = 23 ∨ f = 25 then some (.fn .sc)
  else if f = 8 ∨ f = 37 ∨ f = 30 ∨ f = 11 ∨ f = 6 then some (.fn (.tup [.sc, .sc]))
  else if f = 14 ∨ f = 27 ∨ f = 28 then some (.fn (.row 34 6 true))
  else if f = 9 ∨ f = 41 ∨ f = 42 ∨ f = 43 ∨ f = 44 then some (.fn (.tup [.row 34 6 true, .sc]))
  else if f = 26 then some (.fn (.tup [.row 34 6 true, .sc, .sc]))
  else if f = 45 then some (.fn (.row 34 6 false))
  else if f = 61 then some (.upd true)
  else some .inl
def ann : FuncId → Nat → LoopEx := fun f r =>
  if f = 41 then ⟨[], [1000007], [], []⟩
  else if f = 9 ∧ r = 13 then ⟨[], [2305, 2369], [(1985, 0), (1985, 1), (1985, 2), (1985, 3), (1985, 6), (1985, 7), (1985, 8), (1985, 9), (1985, 10), (1985, 11), (1985, 12), (1985, 13), (1985, 14), (1985, 15), (1985, 16), (1985, 17), (1985, 18), (1985, 19), (1985, 20), (1985, 21)], [(1985, 4, 34, 6), (1985, 5, 34, 6)]⟩
  else ⟨[], [], [], []⟩
--END GAMMA
theorem of2_form (x0 r : AV) : fnF Tryd.prog Γ ann 3 21 Tryd.f21 (Tryd.f21.body.getD .skip) (.nil) [x0] (.sc) r = (((AV.isRef x0 4) ∧
(∃ r129 : AV, ((Fn Tryd.prog 22 [(AV.derA x0)] Sh.sc r129) ∧
((AV.flat r129) ∧
(fSame r129 r)))))) := by kernel_rfl
theorem of3_form (x0 r : AV) : fnF Tryd.prog Γ ann 3 23 Tryd.f23 (Tryd.f23.body.getD .skip) (.nil) [x0] (.sc) r = (((AV.isRef x0 7) ∧
(∃ r129 : AV, ((Fn Tryd.prog 24 [(AV.derA x0)] Sh.sc r129) ∧
((AV.flat r129) ∧
(fSame r129 r)))))) := by kernel_rfl
theorem of4_form (x0 r : AV) : fnF Tryd.prog Γ ann 3 25 Tryd.f25 (Tryd.f25.body.getD .skip) (.nil) [x0] (.sc) r = (((AV.isRef x0 2) ∧
(∃ r129 : AV, ((Fn Tryd.prog 17 [(AV.derA x0)] Sh.sc r129) ∧
((AV.flat r129) ∧
(fSame r129 r)))))) := by kernel_rfl
theorem clone_form (x0 r : AV) : fnF Tryd.prog Γ ann 3 27 Tryd.f27 (Tryd.f27.body.getD .skip) (.nil) [x0] (.row 34 6 true) r = ((fNil x0
  ((AV.flatS (AV.mk 6 [])) ∧
  (fSame (AV.mk 6 []) r))
  ((AV.isSl x0 6) ∧
  ((AV.room (AV.mk 6 []) x0 48) ∧
  ((AV.flatS (AV.app 6 (AV.mk 6 []) x0)) ∧
  (fSame (AV.app 6 (AV.mk 6 []) x0) r)))))) := by kernel_rfl
theorem concat_form (x0 r : AV) : fnF Tryd.prog Γ ann 3 28 Tryd.f28 (Tryd.f28.body.getD .skip) (.nil) [x0] (.row 34 6 true) r = (((AV.isSl x0 1) ∧
(fLoop 321 [(AV.int 0), (AV.int 0)] fun ys321 again321 =>
  ((AV.binOk Go.BinOp.lss (ys321.getD 1 default) (AV.len x0)) ∧
  ((AV.isBool (AV.bin Go.BinOp.lss (ys321.getD 1 default) (AV.len x0))) ∧
  (((isT (AV.bin Go.BinOp.lss (ys321.getD 1 default) (AV.len x0))) →
    ((AV.isSl x0 1) ∧
    ((AV.inb x0 (ys321.getD 1 default)) ∧
    ((AV.isSl (AV.at x0 (ys321.getD 1 default) 0) 6) ∧
    ((AV.binOk Go.BinOp.add (ys321.getD 0 default) (AV.len (AV.at x0 (ys321.getD 1 default) 0))) ∧
    ((AV.binOk Go.BinOp.lss (AV.bin Go.BinOp.add (ys321.getD 0 default) (AV.len (AV.at x0 (ys321.getD 1 default) 0))) (AV.int 0)) ∧
    ((AV.isBool (AV.bin Go.BinOp.lss (AV.bin Go.BinOp.add (ys321.getD 0 default) (AV.len (AV.at x0 (ys321.getD 1 default) 0))) (AV.int 0))) ∧
    (((isT (AV.bin Go.BinOp.lss (AV.bin Go.BinOp.add (ys321.getD 0 default) (AV.len (AV.at x0 (ys321.getD 1 default) 0))) (AV.int 0))) →
      (fStuck "operation")) ∧
    ((isF (AV.bin Go.BinOp.lss (AV.bin Go.BinOp.add (ys321.getD 0 default) (AV.len (AV.at x0 (ys321.getD 1 default) 0))) (AV.int 0))) →
      ((AV.binOk Go.BinOp.add (ys321.getD 1 default) (AV.int 1)) ∧
      (again321 [(AV.bin Go.BinOp.add (ys321.getD 0 default) (AV.len (AV.at x0 (ys321.getD 1 default) 0))), (AV.bin Go.BinOp.add (ys321.getD 1 default) (AV.int 1))]))))))))))) ∧
  ((isF (AV.bin Go.BinOp.lss (ys321.getD 1 default) (AV.len x0))) →
    (∃ r449 : AV, ((Fn Tryd.prog 45 [(AV.lit (Value.slice none 0 0)), (ys321.getD 0 default)] (Sh.row 34 6 false) r449) ∧
    ((AV.isSl x0 1) ∧
    (fLoop 769 [(AV.int 0), r449] fun ys769 again769 =>
      ((AV.binOk Go.BinOp.lss (ys769.getD 0 default) (AV.len x0)) ∧
      ((AV.isBool (AV.bin Go.BinOp.lss (ys769.getD 0 default) (AV.len x0))) ∧
      (((isT (AV.bin Go.BinOp.lss (ys769.getD 0 default) (AV.len x0))) →
        ((AV.isSl x0 1) ∧
        ((AV.inb x0 (ys769.getD 0 default)) ∧
        ((AV.isSl (AV.at x0 (ys769.getD 0 default) 0) 6) ∧
        ((AV.room (ys769.getD 1 default) (AV.at x0 (ys769.getD 0 default) 0) 48) ∧
        ((AV.binOk Go.BinOp.add (ys769.getD 0 default) (AV.int 1)) ∧
        (again769 [(AV.bin Go.BinOp.add (ys769.getD 0 default) (AV.int 1)), (AV.app 6 (ys769.getD 1 default) (AV.at x0 (ys769.getD 0 default) 0))]))))))) ∧
      ((isF (AV.bin Go.BinOp.lss (ys769.getD 0 default) (AV.len x0))) →
        ((AV.flatS (ys769.getD 1 default)) ∧
        (fSame (ys769.getD 1 default) r))))))))))))))))) := by kernel_rfl
end EffG
end Go.Proofs.YtocgoabplafoeaaDoor
/- readback: what the run ends in. -/
namespace Go.Proofs.YtocgoabplafoeaaDoor
open Go.RowKit
set_option linter.unusedVariables false
set_option maxRecDepth 100000
namespace RbF
--GAMMA
def Γ : FuncId → Option Ca := fun f =>
  if f = 40 ∨ f = 67 ∨ f = 22 ∨ f = 38 ∨ f = 58 ∨ f = 66 ∨ f = 46 ∨ f = 29 ∨ f = 15 then some (.fn .sc)
  else some .inl
def ann : FuncId → Nat → LoopEx := fun f r => ⟨[], [], [], []⟩
--END GAMMA
theorem climbed_form (x0 r : AV) : fnF Tryd.prog Γ ann 1 15 Tryd.f15 (Tryd.f15.body.getD .skip) (.nil) [x0] (.sc) r = (((AV.isOne x0) ∧
((AV.flat (AV.agg [(AV.lit (Value.string ⟨#[65, 49]⟩)), (AV.int 0), x0, (AV.lit (Value.string ⟨#[]⟩))])) ∧
(fSame (AV.agg [(AV.lit (Value.string ⟨#[65, 49]⟩)), (AV.int 0), x0, (AV.lit (Value.string ⟨#[]⟩))]) r)))) := by kernel_rfl
theorem kind_form (x0 r : AV) : fnF Tryd.prog Γ ann 3 58 Tryd.f58 (Tryd.f58.body.getD .skip) (.nil) [x0] (.sc) r = (((AV.isRef (AV.mkRef [(AV.lit (Value.string ⟨#[72, 69, 73, 71, 72, 84]⟩)), (AV.lit (Value.string ⟨#[72, 69, 65, 68, 73, 78, 71]⟩)), (AV.lit (Value.string ⟨#[83, 80, 69, 69, 68]⟩)), (AV.lit (Value.string ⟨#[68, 73, 82, 69, 67, 84]⟩)), (AV.lit (Value.string ⟨#[72, 79, 76, 68]⟩)), (AV.lit (Value.string ⟨#[67, 79, 78, 84, 65, 67, 84]⟩)), (AV.lit (Value.string ⟨#[76, 65, 78, 68]⟩))]) 7) ∧
((fEnt Tryd.prog 74) ∧
(fAllV fun _ => ((AV.isSl (AV.refSl (AV.mkRef [(AV.lit (Value.string ⟨#[72, 69, 73, 71, 72, 84]⟩)), (AV.lit (Value.string ⟨#[72, 69, 65, 68, 73, 78, 71]⟩)), (AV.lit (Value.string ⟨#[83, 80, 69, 69, 68]⟩)), (AV.lit (Value.string ⟨#[68, 73, 82, 69, 67, 84]⟩)), (AV.lit (Value.string ⟨#[72, 79, 76, 68]⟩)), (AV.lit (Value.string ⟨#[67, 79, 78, 84, 65, 67, 84]⟩)), (AV.lit (Value.string ⟨#[76, 65, 78, 68]⟩))])) 1) ∧
(fLoop 513 [(AV.int 0)] fun ys513 again513 =>
  ((AV.binOk Go.BinOp.lss (ys513.getD 0 default) (AV.len (AV.refSl (AV.mkRef [(AV.lit (Value.string ⟨#[72, 69, 73, 71, 72, 84]⟩)), (AV.lit (Value.string ⟨#[72, 69, 65, 68, 73, 78, 71]⟩)), (AV.lit (Value.string ⟨#[83, 80, 69, 69, 68]⟩)), (AV.lit (Value.string ⟨#[68, 73, 82, 69, 67, 84]⟩)), (AV.lit (Value.string ⟨#[72, 79, 76, 68]⟩)), (AV.lit (Value.string ⟨#[67, 79, 78, 84, 65, 67, 84]⟩)), (AV.lit (Value.string ⟨#[76, 65, 78, 68]⟩))])))) ∧
  ((AV.isBool (AV.bin Go.BinOp.lss (ys513.getD 0 default) (AV.len (AV.refSl (AV.mkRef [(AV.lit (Value.string ⟨#[72, 69, 73, 71, 72, 84]⟩)), (AV.lit (Value.string ⟨#[72, 69, 65, 68, 73, 78, 71]⟩)), (AV.lit (Value.string ⟨#[83, 80, 69, 69, 68]⟩)), (AV.lit (Value.string ⟨#[68, 73, 82, 69, 67, 84]⟩)), (AV.lit (Value.string ⟨#[72, 79, 76, 68]⟩)), (AV.lit (Value.string ⟨#[67, 79, 78, 84, 65, 67, 84]⟩)), (AV.lit (Value.string ⟨#[76, 65, 78, 68]⟩))]))))) ∧
  (((isT (AV.bin Go.BinOp.lss (ys513.getD 0 default) (AV.len (AV.refSl (AV.mkRef [(AV.lit (Value.string ⟨#[72, 69, 73, 71, 72, 84]⟩)), (AV.lit (Value.string ⟨#[72, 69, 65, 68, 73, 78, 71]⟩)), (AV.lit (Value.string ⟨#[83, 80, 69, 69, 68]⟩)), (AV.lit (Value.string ⟨#[68, 73, 82, 69, 67, 84]⟩)), (AV.lit (Value.string ⟨#[72, 79, 76, 68]⟩)), (AV.lit (Value.string ⟨#[67, 79, 78, 84, 65, 67, 84]⟩)), (AV.lit (Value.string ⟨#[76, 65, 78, 68]⟩))]))))) →
    ((AV.isSl (AV.refSl (AV.mkRef [(AV.lit (Value.string ⟨#[72, 69, 73, 71, 72, 84]⟩)), (AV.lit (Value.string ⟨#[72, 69, 65, 68, 73, 78, 71]⟩)), (AV.lit (Value.string ⟨#[83, 80, 69, 69, 68]⟩)), (AV.lit (Value.string ⟨#[68, 73, 82, 69, 67, 84]⟩)), (AV.lit (Value.string ⟨#[72, 79, 76, 68]⟩)), (AV.lit (Value.string ⟨#[67, 79, 78, 84, 65, 67, 84]⟩)), (AV.lit (Value.string ⟨#[76, 65, 78, 68]⟩))])) 1) ∧
    ((AV.inb (AV.refSl (AV.mkRef [(AV.lit (Value.string ⟨#[72, 69, 73, 71, 72, 84]⟩)), (AV.lit (Value.string ⟨#[72, 69, 65, 68, 73, 78, 71]⟩)), (AV.lit (Value.string ⟨#[83, 80, 69, 69, 68]⟩)), (AV.lit (Value.string ⟨#[68, 73, 82, 69, 67, 84]⟩)), (AV.lit (Value.string ⟨#[72, 79, 76, 68]⟩)), (AV.lit (Value.string ⟨#[67, 79, 78, 84, 65, 67, 84]⟩)), (AV.lit (Value.string ⟨#[76, 65, 78, 68]⟩))])) (ys513.getD 0 default)) ∧
    ((AV.binOk Go.BinOp.eql x0 (AV.at (AV.refSl (AV.mkRef [(AV.lit (Value.string ⟨#[72, 69, 73, 71, 72, 84]⟩)), (AV.lit (Value.string ⟨#[72, 69, 65, 68, 73, 78, 71]⟩)), (AV.lit (Value.string ⟨#[83, 80, 69, 69, 68]⟩)), (AV.lit (Value.string ⟨#[68, 73, 82, 69, 67, 84]⟩)), (AV.lit (Value.string ⟨#[72, 79, 76, 68]⟩)), (AV.lit (Value.string ⟨#[67, 79, 78, 84, 65, 67, 84]⟩)), (AV.lit (Value.string ⟨#[76, 65, 78, 68]⟩))])) (ys513.getD 0 default) 0)) ∧
    ((AV.isBool (AV.bin Go.BinOp.eql x0 (AV.at (AV.refSl (AV.mkRef [(AV.lit (Value.string ⟨#[72, 69, 73, 71, 72, 84]⟩)), (AV.lit (Value.string ⟨#[72, 69, 65, 68, 73, 78, 71]⟩)), (AV.lit (Value.string ⟨#[83, 80, 69, 69, 68]⟩)), (AV.lit (Value.string ⟨#[68, 73, 82, 69, 67, 84]⟩)), (AV.lit (Value.string ⟨#[72, 79, 76, 68]⟩)), (AV.lit (Value.string ⟨#[67, 79, 78, 84, 65, 67, 84]⟩)), (AV.lit (Value.string ⟨#[76, 65, 78, 68]⟩))])) (ys513.getD 0 default) 0))) ∧
    (((isT (AV.bin Go.BinOp.eql x0 (AV.at (AV.refSl (AV.mkRef [(AV.lit (Value.string ⟨#[72, 69, 73, 71, 72, 84]⟩)), (AV.lit (Value.string ⟨#[72, 69, 65, 68, 73, 78, 71]⟩)), (AV.lit (Value.string ⟨#[83, 80, 69, 69, 68]⟩)), (AV.lit (Value.string ⟨#[68, 73, 82, 69, 67, 84]⟩)), (AV.lit (Value.string ⟨#[72, 79, 76, 68]⟩)), (AV.lit (Value.string ⟨#[67, 79, 78, 84, 65, 67, 84]⟩)), (AV.lit (Value.string ⟨#[76, 65, 78, 68]⟩))])) (ys513.getD 0 default) 0))) →
      ((AV.flat (ys513.getD 0 default)) ∧
      (fSame (ys513.getD 0 default) r))) ∧
    ((isF (AV.bin Go.BinOp.eql x0 (AV.at (AV.refSl (AV.mkRef [(AV.lit (Value.string ⟨#[72, 69, 73, 71, 72, 84]⟩)), (AV.lit (Value.string ⟨#[72, 69, 65, 68, 73, 78, 71]⟩)), (AV.lit (Value.string ⟨#[83, 80, 69, 69, 68]⟩)), (AV.lit (Value.string ⟨#[68, 73, 82, 69, 67, 84]⟩)), (AV.lit (Value.string ⟨#[72, 79, 76, 68]⟩)), (AV.lit (Value.string ⟨#[67, 79, 78, 84, 65, 67, 84]⟩)), (AV.lit (Value.string ⟨#[76, 65, 78, 68]⟩))])) (ys513.getD 0 default) 0))) →
      ((AV.binOk Go.BinOp.add (ys513.getD 0 default) (AV.int 1)) ∧
      (again513 [(AV.bin Go.BinOp.add (ys513.getD 0 default) (AV.int 1))]))))))))) ∧
  ((isF (AV.bin Go.BinOp.lss (ys513.getD 0 default) (AV.len (AV.refSl (AV.mkRef [(AV.lit (Value.string ⟨#[72, 69, 73, 71, 72, 84]⟩)), (AV.lit (Value.string ⟨#[72, 69, 65, 68, 73, 78, 71]⟩)), (AV.lit (Value.string ⟨#[83, 80, 69, 69, 68]⟩)), (AV.lit (Value.string ⟨#[68, 73, 82, 69, 67, 84]⟩)), (AV.lit (Value.string ⟨#[72, 79, 76, 68]⟩)), (AV.lit (Value.string ⟨#[67, 79, 78, 84, 65, 67, 84]⟩)), (AV.lit (Value.string ⟨#[76, 65, 78, 68]⟩))]))))) →
    ((AV.flat (AV.int (-1))) ∧
    (fSame (AV.int (-1)) r)))))))))))) := by kernel_rfl
theorem name_form (x0 r : AV) : fnF Tryd.prog Γ ann 3 38 Tryd.f38 (Tryd.f38.body.getD .skip) (.nil) [x0] (.sc) r = ((∃ r129 : AV, ((Fn Tryd.prog 40 [x0] Sh.sc r129) ∧
((AV.isBool r129) ∧
(((isT r129) →
  (∃ r321 : AV, ((Fn Tryd.prog 58 [x0] Sh.sc r321) ∧
  ((AV.binOk Go.BinOp.lss r321 (AV.int 0)) ∧
  ((AV.isBool r129) ∧
  ((isT r129) ∧
  ((AV.flat (AV.bin Go.BinOp.lss r321 (AV.int 0))) ∧
  (fSame (AV.bin Go.BinOp.lss r321 (AV.int 0)) r)))))))) ∧
((isF r129) →
  ((AV.isBool r129) ∧
  ((isF r129) ∧
  ((AV.flat (AV.bool false)) ∧
  (fSame (AV.bool false) r)))))))))) := by kernel_rfl
theorem check_form (x0 r : AV) : fnF Tryd.prog Γ ann 3 22 Tryd.f22 (Tryd.f22.body.getD .skip) (.nil) [x0] (.sc) r = (((AV.isAgg x0 4) ∧
(∃ r257 : AV, ((Fn Tryd.prog 38 [(AV.cel x0 0)] Sh.sc r257) ∧
((AV.unOk Go.UnOp.not r257) ∧
((AV.isBool (AV.un Go.UnOp.not r257)) ∧
(((isT (AV.un Go.UnOp.not r257)) →
  ((AV.flat (AV.int 3)) ∧
  (fSame (AV.int 3) r))) ∧
((isF (AV.un Go.UnOp.not r257)) →
  ((AV.binOk Go.BinOp.lss (AV.cel x0 1) (AV.int 0)) ∧
  ((AV.isBool (AV.bin Go.BinOp.lss (AV.cel x0 1) (AV.int 0))) ∧
  (((isT (AV.bin Go.BinOp.lss (AV.cel x0 1) (AV.int 0))) →
    ((AV.isBool (AV.bin Go.BinOp.lss (AV.cel x0 1) (AV.int 0))) ∧
    ((isT (AV.bin Go.BinOp.lss (AV.cel x0 1) (AV.int 0))) ∧
    ((AV.flat (AV.int 1)) ∧
    (fSame (AV.int 1) r))))) ∧
  ((isF (AV.bin Go.BinOp.lss (AV.cel x0 1) (AV.int 0))) →
    ((AV.binOk Go.BinOp.gtr (AV.cel x0 1) (AV.int 6)) ∧
    ((AV.isBool (AV.bin Go.BinOp.lss (AV.cel x0 1) (AV.int 0))) ∧
    ((isF (AV.bin Go.BinOp.lss (AV.cel x0 1) (AV.int 0))) ∧
    ((AV.isBool (AV.bin Go.BinOp.gtr (AV.cel x0 1) (AV.int 6))) ∧
    (((isT (AV.bin Go.BinOp.gtr (AV.cel x0 1) (AV.int 6))) →
      ((AV.flat (AV.int 1)) ∧
      (fSame (AV.int 1) r))) ∧
    ((isF (AV.bin Go.BinOp.gtr (AV.cel x0 1) (AV.int 6))) →
      ((AV.binOk Go.BinOp.gtr (AV.cel x0 1) (AV.int 2)) ∧
      ((AV.isBool (AV.bin Go.BinOp.gtr (AV.cel x0 1) (AV.int 2))) ∧
      (((isT (AV.bin Go.BinOp.gtr (AV.cel x0 1) (AV.int 2))) →
        ((AV.binOk Go.BinOp.neq (AV.cel x0 2) (AV.int 0)) ∧
        ((AV.isBool (AV.bin Go.BinOp.neq (AV.cel x0 2) (AV.int 0))) ∧
        (((isT (AV.bin Go.BinOp.neq (AV.cel x0 2) (AV.int 0))) →
          ((AV.isBool (AV.bin Go.BinOp.neq (AV.cel x0 2) (AV.int 0))) ∧
          ((isT (AV.bin Go.BinOp.neq (AV.cel x0 2) (AV.int 0))) ∧
          ((AV.flat (AV.int 3)) ∧
          (fSame (AV.int 3) r))))) ∧
        ((isF (AV.bin Go.BinOp.neq (AV.cel x0 2) (AV.int 0))) →
          (∃ r1665 : AV, ((Fn Tryd.prog 38 [(AV.cel x0 3)] Sh.sc r1665) ∧
          ((AV.unOk Go.UnOp.not r1665) ∧
          ((AV.isBool (AV.bin Go.BinOp.neq (AV.cel x0 2) (AV.int 0))) ∧
          ((isF (AV.bin Go.BinOp.neq (AV.cel x0 2) (AV.int 0))) ∧
          ((AV.isBool (AV.un Go.UnOp.not r1665)) ∧
          (((isT (AV.un Go.UnOp.not r1665)) →
            ((AV.flat (AV.int 3)) ∧
            (fSame (AV.int 3) r))) ∧
          ((isF (AV.un Go.UnOp.not r1665)) →
            ((AV.flat (AV.int 0)) ∧
            (fSame (AV.int 0) r))))))))))))))) ∧
      ((isF (AV.bin Go.BinOp.gtr (AV.cel x0 1) (AV.int 2))) →
        ((AV.binOk Go.BinOp.neq (AV.cel x0 3) (AV.lit (Value.string ⟨#[]⟩))) ∧
        ((AV.isBool (AV.bin Go.BinOp.neq (AV.cel x0 3) (AV.lit (Value.string ⟨#[]⟩)))) ∧
        (((isT (AV.bin Go.BinOp.neq (AV.cel x0 3) (AV.lit (Value.string ⟨#[]⟩)))) →
          ((AV.flat (AV.int 3)) ∧
          (fSame (AV.int 3) r))) ∧
        ((isF (AV.bin Go.BinOp.neq (AV.cel x0 3) (AV.lit (Value.string ⟨#[]⟩)))) →
          ((AV.binOk Go.BinOp.lss (AV.cel x0 2) (AV.int 0)) ∧
          ((AV.isBool (AV.bin Go.BinOp.lss (AV.cel x0 2) (AV.int 0))) ∧
          (((isT (AV.bin Go.BinOp.lss (AV.cel x0 2) (AV.int 0))) →
            ((AV.isBool (AV.bin Go.BinOp.lss (AV.cel x0 2) (AV.int 0))) ∧
            ((isT (AV.bin Go.BinOp.lss (AV.cel x0 2) (AV.int 0))) ∧
            ((AV.flat (AV.int 4)) ∧
            (fSame (AV.int 4) r))))) ∧
          ((isF (AV.bin Go.BinOp.lss (AV.cel x0 2) (AV.int 0))) →
            ((AV.inl 3 (AV.cel x0 1)) ∧
            ((AV.isRef (AV.mkRef [(AV.int 60000), (AV.int 4095), (AV.int 400)]) 3) ∧
            ((AV.refOk (AV.mkRef [(AV.int 60000), (AV.int 4095), (AV.int 400)]) 3 0 [((AV.cel x0 1), 1)]) ∧
            ((AV.binOk Go.BinOp.gtr (AV.cel x0 2) (AV.refNth (AV.mkRef [(AV.int 60000), (AV.int 4095), (AV.int 400)]) 0 [((AV.cel x0 1), 1)])) ∧
            ((AV.isBool (AV.bin Go.BinOp.lss (AV.cel x0 2) (AV.int 0))) ∧
            ((isF (AV.bin Go.BinOp.lss (AV.cel x0 2) (AV.int 0))) ∧
            ((AV.isBool (AV.bin Go.BinOp.gtr (AV.cel x0 2) (AV.refNth (AV.mkRef [(AV.int 60000), (AV.int 4095), (AV.int 400)]) 0 [((AV.cel x0 1), 1)]))) ∧
            (((isT (AV.bin Go.BinOp.gtr (AV.cel x0 2) (AV.refNth (AV.mkRef [(AV.int 60000), (AV.int 4095), (AV.int 400)]) 0 [((AV.cel x0 1), 1)]))) →
              ((AV.flat (AV.int 4)) ∧
              (fSame (AV.int 4) r))) ∧
            ((isF (AV.bin Go.BinOp.gtr (AV.cel x0 2) (AV.refNth (AV.mkRef [(AV.int 60000), (AV.int 4095), (AV.int 400)]) 0 [((AV.cel x0 1), 1)]))) →
              ((AV.flat (AV.int 0)) ∧
              (fSame (AV.int 0) r))))))))))))))))))))))))))))))))))))))))) := by kernel_rfl
theorem word_form (x0 r : AV) : fnF Tryd.prog Γ ann 3 66 Tryd.f66 (Tryd.f66.body.getD .skip) (.nil) [x0] (.sc) r = (((AV.inb (AV.mk 1 [[(AV.lit (Value.string ⟨#[72, 69, 73, 71, 72, 84]⟩))], [(AV.lit (Value.string ⟨#[72, 69, 65, 68, 73, 78, 71]⟩))], [(AV.lit (Value.string ⟨#[83, 80, 69, 69, 68]⟩))], [(AV.lit (Value.string ⟨#[68, 73, 82, 69, 67, 84]⟩))], [(AV.lit (Value.string ⟨#[72, 79, 76, 68]⟩))], [(AV.lit (Value.string ⟨#[67, 79, 78, 84, 65, 67, 84]⟩))], [(AV.lit (Value.string ⟨#[76, 65, 78, 68]⟩))]]) x0) ∧
((AV.inb (AV.mk 1 [[(AV.lit (Value.string ⟨#[72, 69, 73, 71, 72, 84]⟩))], [(AV.lit (Value.string ⟨#[72, 69, 65, 68, 73, 78, 71]⟩))], [(AV.lit (Value.string ⟨#[83, 80, 69, 69, 68]⟩))], [(AV.lit (Value.string ⟨#[68, 73, 82, 69, 67, 84]⟩))], [(AV.lit (Value.string ⟨#[72, 79, 76, 68]⟩))], [(AV.lit (Value.string ⟨#[67, 79, 78, 84, 65, 67, 84]⟩))], [(AV.lit (Value.string ⟨#[76, 65, 78, 68]⟩))]]) x0) ∧
((AV.flat (AV.at (AV.mk 1 [[(AV.lit (Value.string ⟨#[72, 69, 73, 71, 72, 84]⟩))], [(AV.lit (Value.string ⟨#[72, 69, 65, 68, 73, 78, 71]⟩))], [(AV.lit (Value.string ⟨#[83, 80, 69, 69, 68]⟩))], [(AV.lit (Value.string ⟨#[68, 73, 82, 69, 67, 84]⟩))], [(AV.lit (Value.string ⟨#[72, 79, 76, 68]⟩))], [(AV.lit (Value.string ⟨#[67, 79, 78, 84, 65, 67, 84]⟩))], [(AV.lit (Value.string ⟨#[76, 65, 78, 68]⟩))]]) x0 0)) ∧
(fSame (AV.at (AV.mk 1 [[(AV.lit (Value.string ⟨#[72, 69, 73, 71, 72, 84]⟩))], [(AV.lit (Value.string ⟨#[72, 69, 65, 68, 73, 78, 71]⟩))], [(AV.lit (Value.string ⟨#[83, 80, 69, 69, 68]⟩))], [(AV.lit (Value.string ⟨#[68, 73, 82, 69, 67, 84]⟩))], [(AV.lit (Value.string ⟨#[72, 79, 76, 68]⟩))], [(AV.lit (Value.string ⟨#[67, 79, 78, 84, 65, 67, 84]⟩))], [(AV.lit (Value.string ⟨#[76, 65, 78, 68]⟩))]]) x0 0) r))))) := by kernel_rfl
theorem free_form (x0 r : AV) : fnF Tryd.prog Γ ann 3 46 Tryd.f46 (Tryd.f46.body.getD .skip) (.nil) [x0] (.sc) r = ((fLoop 129 [(AV.int 0)] fun ys129 again129 =>
  ((AV.binOk Go.BinOp.lss (ys129.getD 0 default) (AV.int 7)) ∧
  ((AV.isBool (AV.bin Go.BinOp.lss (ys129.getD 0 default) (AV.int 7))) ∧
  (((isT (AV.bin Go.BinOp.lss (ys129.getD 0 default) (AV.int 7))) →
    (∃ r385 : AV, ((Fn Tryd.prog 66 [(ys129.getD 0 default)] Sh.sc r385) ∧
    ((AV.binOk Go.BinOp.eql r385 x0) ∧
    ((AV.isBool (AV.bin Go.BinOp.eql r385 x0)) ∧
    (((isT (AV.bin Go.BinOp.eql r385 x0)) →
      ((AV.flat (AV.bool false)) ∧
      (fSame (AV.bool false) r))) ∧
    ((isF (AV.bin Go.BinOp.eql r385 x0)) →
      ((AV.binOk Go.BinOp.add (ys129.getD 0 default) (AV.int 1)) ∧
      (again129 [(AV.bin Go.BinOp.add (ys129.getD 0 default) (AV.int 1))]))))))))) ∧
  ((isF (AV.bin Go.BinOp.lss (ys129.getD 0 default) (AV.int 7))) →
    (∃ r257 : AV, ((Fn Tryd.prog 67 [x0] Sh.sc r257) ∧
    ((AV.flat r257) ∧
    (fSame r257 r)))))))))) := by kernel_rfl
theorem cerr_form (x0 r : AV) : fnF Tryd.prog Γ ann 3 29 Tryd.f29 (Tryd.f29.body.getD .skip) ((.both .nil (.both .nil (.both .nil (.both (.both .nil (.both .nil (.f (.f .nil)))) (.t (.both .nil (.t .nil)))))))) [x0] (.sc) r = (((AV.isAgg x0 4) ∧
(∃ r257 : AV, ((Fn Tryd.prog 46 [(AV.cel x0 0)] Sh.sc r257) ∧
((AV.unOk Go.UnOp.not r257) ∧
((AV.isBool (AV.un Go.UnOp.not r257)) ∧
(((isT (AV.un Go.UnOp.not r257)) →
  ((AV.flat (AV.int 3)) ∧
  (fSame (AV.int 3) r))) ∧
((isF (AV.un Go.UnOp.not r257)) →
  ((AV.binOk Go.BinOp.lss (AV.cel x0 1) (AV.int 0)) ∧
  ((AV.isBool (AV.bin Go.BinOp.lss (AV.cel x0 1) (AV.int 0))) ∧
  (((isT (AV.bin Go.BinOp.lss (AV.cel x0 1) (AV.int 0))) →
    ((AV.isBool (AV.bin Go.BinOp.lss (AV.cel x0 1) (AV.int 0))) ∧
    ((isT (AV.bin Go.BinOp.lss (AV.cel x0 1) (AV.int 0))) ∧
    ((AV.flat (AV.int 1)) ∧
    (fSame (AV.int 1) r))))) ∧
  ((isF (AV.bin Go.BinOp.lss (AV.cel x0 1) (AV.int 0))) →
    ((AV.binOk Go.BinOp.gtr (AV.cel x0 1) (AV.int 6)) ∧
    ((AV.isBool (AV.bin Go.BinOp.lss (AV.cel x0 1) (AV.int 0))) ∧
    ((isF (AV.bin Go.BinOp.lss (AV.cel x0 1) (AV.int 0))) ∧
    ((AV.isBool (AV.bin Go.BinOp.gtr (AV.cel x0 1) (AV.int 6))) ∧
    (((isT (AV.bin Go.BinOp.gtr (AV.cel x0 1) (AV.int 6))) →
      ((AV.flat (AV.int 1)) ∧
      (fSame (AV.int 1) r))) ∧
    ((isF (AV.bin Go.BinOp.gtr (AV.cel x0 1) (AV.int 6))) →
      ((AV.inb (AV.mk 1 [[(AV.int 60000)], [(AV.int 4095)], [(AV.int 400)], [(AV.int (-1))], [(AV.int (-1))], [(AV.int (-1))], [(AV.int (-1))]]) (AV.cel x0 1)) ∧
      ((AV.inb (AV.mk 1 [[(AV.int 60000)], [(AV.int 4095)], [(AV.int 400)], [(AV.int (-1))], [(AV.int (-1))], [(AV.int (-1))], [(AV.int (-1))]]) (AV.cel x0 1)) ∧
      ((AV.binOk Go.BinOp.lss (AV.at (AV.mk 1 [[(AV.int 60000)], [(AV.int 4095)], [(AV.int 400)], [(AV.int (-1))], [(AV.int (-1))], [(AV.int (-1))], [(AV.int (-1))]]) (AV.cel x0 1) 0) (AV.int 0)) ∧
      ((AV.isBool (AV.bin Go.BinOp.lss (AV.at (AV.mk 1 [[(AV.int 60000)], [(AV.int 4095)], [(AV.int 400)], [(AV.int (-1))], [(AV.int (-1))], [(AV.int (-1))], [(AV.int (-1))]]) (AV.cel x0 1) 0) (AV.int 0))) ∧
      (((isT (AV.bin Go.BinOp.lss (AV.at (AV.mk 1 [[(AV.int 60000)], [(AV.int 4095)], [(AV.int 400)], [(AV.int (-1))], [(AV.int (-1))], [(AV.int (-1))], [(AV.int (-1))]]) (AV.cel x0 1) 0) (AV.int 0))) →
        ((AV.binOk Go.BinOp.neq (AV.cel x0 2) (AV.int 0)) ∧
        ((AV.isBool (AV.bin Go.BinOp.neq (AV.cel x0 2) (AV.int 0))) ∧
        (((isT (AV.bin Go.BinOp.neq (AV.cel x0 2) (AV.int 0))) →
          ((AV.isBool (AV.bin Go.BinOp.neq (AV.cel x0 2) (AV.int 0))) ∧
          ((isT (AV.bin Go.BinOp.neq (AV.cel x0 2) (AV.int 0))) ∧
          ((AV.isBool (AV.bin Go.BinOp.lss (AV.at (AV.mk 1 [[(AV.int 60000)], [(AV.int 4095)], [(AV.int 400)], [(AV.int (-1))], [(AV.int (-1))], [(AV.int (-1))], [(AV.int (-1))]]) (AV.cel x0 1) 0) (AV.int 0))) ∧
          ((isT (AV.bin Go.BinOp.lss (AV.at (AV.mk 1 [[(AV.int 60000)], [(AV.int 4095)], [(AV.int 400)], [(AV.int (-1))], [(AV.int (-1))], [(AV.int (-1))], [(AV.int (-1))]]) (AV.cel x0 1) 0) (AV.int 0))) ∧
          ((AV.flat (AV.int 3)) ∧
          (fSame (AV.int 3) r))))))) ∧
        ((isF (AV.bin Go.BinOp.neq (AV.cel x0 2) (AV.int 0))) →
          (∃ r1857 : AV, ((Fn Tryd.prog 46 [(AV.cel x0 3)] Sh.sc r1857) ∧
          ((AV.unOk Go.UnOp.not r1857) ∧
          ((AV.isBool (AV.bin Go.BinOp.neq (AV.cel x0 2) (AV.int 0))) ∧
          ((isF (AV.bin Go.BinOp.neq (AV.cel x0 2) (AV.int 0))) ∧
          ((AV.isBool (AV.bin Go.BinOp.lss (AV.at (AV.mk 1 [[(AV.int 60000)], [(AV.int 4095)], [(AV.int 400)], [(AV.int (-1))], [(AV.int (-1))], [(AV.int (-1))], [(AV.int (-1))]]) (AV.cel x0 1) 0) (AV.int 0))) ∧
          ((isT (AV.bin Go.BinOp.lss (AV.at (AV.mk 1 [[(AV.int 60000)], [(AV.int 4095)], [(AV.int 400)], [(AV.int (-1))], [(AV.int (-1))], [(AV.int (-1))], [(AV.int (-1))]]) (AV.cel x0 1) 0) (AV.int 0))) ∧
          ((AV.isBool (AV.un Go.UnOp.not r1857)) ∧
          (((isT (AV.un Go.UnOp.not r1857)) →
            ((AV.isBool (AV.un Go.UnOp.not r1857)) ∧
            ((isT (AV.un Go.UnOp.not r1857)) ∧
            ((AV.flat (AV.int 3)) ∧
            (fSame (AV.int 3) r))))) ∧
          ((isF (AV.un Go.UnOp.not r1857)) →
            ((AV.binOk Go.BinOp.geq (AV.at (AV.mk 1 [[(AV.int 60000)], [(AV.int 4095)], [(AV.int 400)], [(AV.int (-1))], [(AV.int (-1))], [(AV.int (-1))], [(AV.int (-1))]]) (AV.cel x0 1) 0) (AV.int 0)) ∧
            ((AV.isBool (AV.bin Go.BinOp.geq (AV.at (AV.mk 1 [[(AV.int 60000)], [(AV.int 4095)], [(AV.int 400)], [(AV.int (-1))], [(AV.int (-1))], [(AV.int (-1))], [(AV.int (-1))]]) (AV.cel x0 1) 0) (AV.int 0))) ∧
            ((isF (AV.bin Go.BinOp.geq (AV.at (AV.mk 1 [[(AV.int 60000)], [(AV.int 4095)], [(AV.int 400)], [(AV.int (-1))], [(AV.int (-1))], [(AV.int (-1))], [(AV.int (-1))]]) (AV.cel x0 1) 0) (AV.int 0))) ∧
            ((AV.isBool (AV.bin Go.BinOp.geq (AV.at (AV.mk 1 [[(AV.int 60000)], [(AV.int 4095)], [(AV.int 400)], [(AV.int (-1))], [(AV.int (-1))], [(AV.int (-1))], [(AV.int (-1))]]) (AV.cel x0 1) 0) (AV.int 0))) ∧
            ((isF (AV.bin Go.BinOp.geq (AV.at (AV.mk 1 [[(AV.int 60000)], [(AV.int 4095)], [(AV.int 400)], [(AV.int (-1))], [(AV.int (-1))], [(AV.int (-1))], [(AV.int (-1))]]) (AV.cel x0 1) 0) (AV.int 0))) ∧
            ((AV.isBool (AV.un Go.UnOp.not r1857)) ∧
            ((isF (AV.un Go.UnOp.not r1857)) ∧
            ((AV.binOk Go.BinOp.geq (AV.at (AV.mk 1 [[(AV.int 60000)], [(AV.int 4095)], [(AV.int 400)], [(AV.int (-1))], [(AV.int (-1))], [(AV.int (-1))], [(AV.int (-1))]]) (AV.cel x0 1) 0) (AV.int 0)) ∧
            ((AV.isBool (AV.bin Go.BinOp.geq (AV.at (AV.mk 1 [[(AV.int 60000)], [(AV.int 4095)], [(AV.int 400)], [(AV.int (-1))], [(AV.int (-1))], [(AV.int (-1))], [(AV.int (-1))]]) (AV.cel x0 1) 0) (AV.int 0))) ∧
            ((isF (AV.bin Go.BinOp.geq (AV.at (AV.mk 1 [[(AV.int 60000)], [(AV.int 4095)], [(AV.int 400)], [(AV.int (-1))], [(AV.int (-1))], [(AV.int (-1))], [(AV.int (-1))]]) (AV.cel x0 1) 0) (AV.int 0))) ∧
            ((AV.isBool (AV.bin Go.BinOp.geq (AV.at (AV.mk 1 [[(AV.int 60000)], [(AV.int 4095)], [(AV.int 400)], [(AV.int (-1))], [(AV.int (-1))], [(AV.int (-1))], [(AV.int (-1))]]) (AV.cel x0 1) 0) (AV.int 0))) ∧
            ((isF (AV.bin Go.BinOp.geq (AV.at (AV.mk 1 [[(AV.int 60000)], [(AV.int 4095)], [(AV.int 400)], [(AV.int (-1))], [(AV.int (-1))], [(AV.int (-1))], [(AV.int (-1))]]) (AV.cel x0 1) 0) (AV.int 0))) ∧
            ((AV.flat (AV.int 0)) ∧
            (fSame (AV.int 0) r))))))))))))))))))))))))))))) ∧
      ((isF (AV.bin Go.BinOp.lss (AV.at (AV.mk 1 [[(AV.int 60000)], [(AV.int 4095)], [(AV.int 400)], [(AV.int (-1))], [(AV.int (-1))], [(AV.int (-1))], [(AV.int (-1))]]) (AV.cel x0 1) 0) (AV.int 0))) →
        ((AV.isBool (AV.bin Go.BinOp.lss (AV.at (AV.mk 1 [[(AV.int 60000)], [(AV.int 4095)], [(AV.int 400)], [(AV.int (-1))], [(AV.int (-1))], [(AV.int (-1))], [(AV.int (-1))]]) (AV.cel x0 1) 0) (AV.int 0))) ∧
        ((isF (AV.bin Go.BinOp.lss (AV.at (AV.mk 1 [[(AV.int 60000)], [(AV.int 4095)], [(AV.int 400)], [(AV.int (-1))], [(AV.int (-1))], [(AV.int (-1))], [(AV.int (-1))]]) (AV.cel x0 1) 0) (AV.int 0))) ∧
        ((AV.binOk Go.BinOp.geq (AV.at (AV.mk 1 [[(AV.int 60000)], [(AV.int 4095)], [(AV.int 400)], [(AV.int (-1))], [(AV.int (-1))], [(AV.int (-1))], [(AV.int (-1))]]) (AV.cel x0 1) 0) (AV.int 0)) ∧
        ((AV.isBool (AV.bin Go.BinOp.geq (AV.at (AV.mk 1 [[(AV.int 60000)], [(AV.int 4095)], [(AV.int 400)], [(AV.int (-1))], [(AV.int (-1))], [(AV.int (-1))], [(AV.int (-1))]]) (AV.cel x0 1) 0) (AV.int 0))) ∧
        ((isT (AV.bin Go.BinOp.geq (AV.at (AV.mk 1 [[(AV.int 60000)], [(AV.int 4095)], [(AV.int 400)], [(AV.int (-1))], [(AV.int (-1))], [(AV.int (-1))], [(AV.int (-1))]]) (AV.cel x0 1) 0) (AV.int 0))) ∧
        ((AV.binOk Go.BinOp.neq (AV.cel x0 3) (AV.lit (Value.string ⟨#[]⟩))) ∧
        ((AV.isBool (AV.bin Go.BinOp.geq (AV.at (AV.mk 1 [[(AV.int 60000)], [(AV.int 4095)], [(AV.int 400)], [(AV.int (-1))], [(AV.int (-1))], [(AV.int (-1))], [(AV.int (-1))]]) (AV.cel x0 1) 0) (AV.int 0))) ∧
        ((isT (AV.bin Go.BinOp.geq (AV.at (AV.mk 1 [[(AV.int 60000)], [(AV.int 4095)], [(AV.int 400)], [(AV.int (-1))], [(AV.int (-1))], [(AV.int (-1))], [(AV.int (-1))]]) (AV.cel x0 1) 0) (AV.int 0))) ∧
        ((AV.isBool (AV.bin Go.BinOp.neq (AV.cel x0 3) (AV.lit (Value.string ⟨#[]⟩)))) ∧
        (((isT (AV.bin Go.BinOp.neq (AV.cel x0 3) (AV.lit (Value.string ⟨#[]⟩)))) →
          ((AV.flat (AV.int 3)) ∧
          (fSame (AV.int 3) r))) ∧
        ((isF (AV.bin Go.BinOp.neq (AV.cel x0 3) (AV.lit (Value.string ⟨#[]⟩)))) →
          ((AV.binOk Go.BinOp.geq (AV.at (AV.mk 1 [[(AV.int 60000)], [(AV.int 4095)], [(AV.int 400)], [(AV.int (-1))], [(AV.int (-1))], [(AV.int (-1))], [(AV.int (-1))]]) (AV.cel x0 1) 0) (AV.int 0)) ∧
          ((AV.isBool (AV.bin Go.BinOp.geq (AV.at (AV.mk 1 [[(AV.int 60000)], [(AV.int 4095)], [(AV.int 400)], [(AV.int (-1))], [(AV.int (-1))], [(AV.int (-1))], [(AV.int (-1))]]) (AV.cel x0 1) 0) (AV.int 0))) ∧
          ((isT (AV.bin Go.BinOp.geq (AV.at (AV.mk 1 [[(AV.int 60000)], [(AV.int 4095)], [(AV.int 400)], [(AV.int (-1))], [(AV.int (-1))], [(AV.int (-1))], [(AV.int (-1))]]) (AV.cel x0 1) 0) (AV.int 0))) ∧
          ((AV.binOk Go.BinOp.lss (AV.cel x0 2) (AV.int 0)) ∧
          ((AV.isBool (AV.bin Go.BinOp.lss (AV.cel x0 2) (AV.int 0))) ∧
          (((isT (AV.bin Go.BinOp.lss (AV.cel x0 2) (AV.int 0))) →
            ((AV.isBool (AV.bin Go.BinOp.lss (AV.cel x0 2) (AV.int 0))) ∧
            ((isT (AV.bin Go.BinOp.lss (AV.cel x0 2) (AV.int 0))) ∧
            ((AV.isBool (AV.bin Go.BinOp.geq (AV.at (AV.mk 1 [[(AV.int 60000)], [(AV.int 4095)], [(AV.int 400)], [(AV.int (-1))], [(AV.int (-1))], [(AV.int (-1))], [(AV.int (-1))]]) (AV.cel x0 1) 0) (AV.int 0))) ∧
            ((isT (AV.bin Go.BinOp.geq (AV.at (AV.mk 1 [[(AV.int 60000)], [(AV.int 4095)], [(AV.int 400)], [(AV.int (-1))], [(AV.int (-1))], [(AV.int (-1))], [(AV.int (-1))]]) (AV.cel x0 1) 0) (AV.int 0))) ∧
            ((AV.flat (AV.int 4)) ∧
            (fSame (AV.int 4) r))))))) ∧
          ((isF (AV.bin Go.BinOp.lss (AV.cel x0 2) (AV.int 0))) →
            ((AV.binOk Go.BinOp.gtr (AV.cel x0 2) (AV.at (AV.mk 1 [[(AV.int 60000)], [(AV.int 4095)], [(AV.int 400)], [(AV.int (-1))], [(AV.int (-1))], [(AV.int (-1))], [(AV.int (-1))]]) (AV.cel x0 1) 0)) ∧
            ((AV.isBool (AV.bin Go.BinOp.lss (AV.cel x0 2) (AV.int 0))) ∧
            ((isF (AV.bin Go.BinOp.lss (AV.cel x0 2) (AV.int 0))) ∧
            ((AV.isBool (AV.bin Go.BinOp.geq (AV.at (AV.mk 1 [[(AV.int 60000)], [(AV.int 4095)], [(AV.int 400)], [(AV.int (-1))], [(AV.int (-1))], [(AV.int (-1))], [(AV.int (-1))]]) (AV.cel x0 1) 0) (AV.int 0))) ∧
            ((isT (AV.bin Go.BinOp.geq (AV.at (AV.mk 1 [[(AV.int 60000)], [(AV.int 4095)], [(AV.int 400)], [(AV.int (-1))], [(AV.int (-1))], [(AV.int (-1))], [(AV.int (-1))]]) (AV.cel x0 1) 0) (AV.int 0))) ∧
            ((AV.isBool (AV.bin Go.BinOp.gtr (AV.cel x0 2) (AV.at (AV.mk 1 [[(AV.int 60000)], [(AV.int 4095)], [(AV.int 400)], [(AV.int (-1))], [(AV.int (-1))], [(AV.int (-1))], [(AV.int (-1))]]) (AV.cel x0 1) 0))) ∧
            (((isT (AV.bin Go.BinOp.gtr (AV.cel x0 2) (AV.at (AV.mk 1 [[(AV.int 60000)], [(AV.int 4095)], [(AV.int 400)], [(AV.int (-1))], [(AV.int (-1))], [(AV.int (-1))], [(AV.int (-1))]]) (AV.cel x0 1) 0))) →
              ((AV.flat (AV.int 4)) ∧
              (fSame (AV.int 4) r))) ∧
            ((isF (AV.bin Go.BinOp.gtr (AV.cel x0 2) (AV.at (AV.mk 1 [[(AV.int 60000)], [(AV.int 4095)], [(AV.int 400)], [(AV.int (-1))], [(AV.int (-1))], [(AV.int (-1))], [(AV.int (-1))]]) (AV.cel x0 1) 0))) →
              ((AV.flat (AV.int 0)) ∧
              (fSame (AV.int 0) r)))))))))))))))))))))))))))))))))))))))))))))))))))) := by kernel_rfl
end RbF
end Go.Proofs.YtocgoabplafoeaaDoor
