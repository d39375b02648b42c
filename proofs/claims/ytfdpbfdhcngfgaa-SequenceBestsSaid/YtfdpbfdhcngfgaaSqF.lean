/- sequences: what the run ends in. -/
import Derived.Test.YtfdpbfdhcngfgaaVal
namespace Go.Proofs.Ytfdpbfdhcngfgaa
open Go.RowKit
set_option linter.unusedVariables false
set_option maxRecDepth 100000
namespace SqF
--GAMMA
def Γ : FuncId → Option Ca := fun f =>
  if f = 29 ∨ f = 28 ∨ f = 24 ∨ f = 30 ∨ f = 14 ∨ f = 10 ∨ f = 9 ∨ f = 11 ∨ f = 12 ∨ f = 13 ∨ f = 25 ∨ f = 27 ∨ f = 5 ∨ f = 42 ∨ f = 23 ∨ f = 22 ∨ f = 19 ∨ f = 21 ∨ f = 16 ∨ f = 40 then some (.fn .sc)
  else if f = 8 then some (.fn (.tup [.sc, .sc]))
  else if f = 26 ∨ f = 7 ∨ f = 6 ∨ f = 15 then some (.fn (.tup [.row 3 1 true, .sc]))
  else if f = 43 then some (.fn (.row 3 1 true))
  else if f = 17 then some (.fn (.tup [.p, .p, .sc]))
  else if f = 18 then some (.fn (.tup [.p, .sc]))
  else if f = 20 then some (.upd false)
  else some .inl
def ann : FuncId → Nat → LoopEx := fun f r =>
  if f = 33 then ⟨[1], [], [(1921, 0), (1985, 0), (2049, 0), (2113, 0)], []⟩
  else if f = 25 then ⟨[], [129], [], []⟩
  else if f = 35 then ⟨[1], [], [(321, 0), (385, 0), (449, 0)], []⟩
  else ⟨[], [], [], []⟩
--END GAMMA
theorem check_form (x0 r : AV) : fnF Try.prog Γ ann 3 10 Try.f10 (Try.f10.body.getD .skip) (.nil) [x0] (.sc) r = (((AV.isSl x0 4) ∧
((AV.binOk Go.BinOp.gtr (AV.len x0) (AV.int 8)) ∧
((AV.isBool (AV.bin Go.BinOp.gtr (AV.len x0) (AV.int 8))) ∧
(((isT (AV.bin Go.BinOp.gtr (AV.len x0) (AV.int 8))) →
  ((AV.flat (AV.int 2)) ∧
  (fSame (AV.int 2) r))) ∧
((isF (AV.bin Go.BinOp.gtr (AV.len x0) (AV.int 8))) →
  ((AV.isSl x0 4) ∧
  (fLoop 449 [(AV.int 0)] fun ys449 again449 =>
    ((AV.binOk Go.BinOp.lss (ys449.getD 0 default) (AV.len x0)) ∧
    ((AV.isBool (AV.bin Go.BinOp.lss (ys449.getD 0 default) (AV.len x0))) ∧
    (((isT (AV.bin Go.BinOp.lss (ys449.getD 0 default) (AV.len x0))) →
      ((AV.isSl x0 4) ∧
      ((AV.inb x0 (ys449.getD 0 default)) ∧
      ((AV.isAgg (AV.atAgg x0 (ys449.getD 0 default) 0 4) 4) ∧
      (∃ r1025 : AV, ((Fn Try.prog 29 [(AV.cel (AV.atAgg x0 (ys449.getD 0 default) 0 4) 0)] Sh.sc r1025) ∧
      ((AV.unOk Go.UnOp.not r1025) ∧
      ((AV.isBool (AV.un Go.UnOp.not r1025)) ∧
      (((isT (AV.un Go.UnOp.not r1025)) →
        ((AV.flat (AV.int 3)) ∧
        (fSame (AV.int 3) r))) ∧
      ((isF (AV.un Go.UnOp.not r1025)) →
        (∃ r1281 : AV, ((Fn Try.prog 30 [(AV.cel (AV.atAgg x0 (ys449.getD 0 default) 0 4) 1)] Sh.sc r1281) ∧
        ((AV.binOk Go.BinOp.neq r1281 (AV.int 0)) ∧
        ((AV.isBool (AV.bin Go.BinOp.neq r1281 (AV.int 0))) ∧
        (((isT (AV.bin Go.BinOp.neq r1281 (AV.int 0))) →
          ((AV.flat r1281) ∧
          (fSame r1281 r))) ∧
        ((isF (AV.bin Go.BinOp.neq r1281 (AV.int 0))) →
          ((AV.binOk Go.BinOp.lss (AV.cel (AV.atAgg x0 (ys449.getD 0 default) 0 4) 2) (AV.int 0)) ∧
          ((AV.isBool (AV.bin Go.BinOp.lss (AV.cel (AV.atAgg x0 (ys449.getD 0 default) 0 4) 2) (AV.int 0))) ∧
          (((isT (AV.bin Go.BinOp.lss (AV.cel (AV.atAgg x0 (ys449.getD 0 default) 0 4) 2) (AV.int 0))) →
            ((AV.isBool (AV.bin Go.BinOp.lss (AV.cel (AV.atAgg x0 (ys449.getD 0 default) 0 4) 2) (AV.int 0))) ∧
            ((isT (AV.bin Go.BinOp.lss (AV.cel (AV.atAgg x0 (ys449.getD 0 default) 0 4) 2) (AV.int 0))) ∧
            ((AV.flat (AV.int 12)) ∧
            (fSame (AV.int 12) r))))) ∧
          ((isF (AV.bin Go.BinOp.lss (AV.cel (AV.atAgg x0 (ys449.getD 0 default) 0 4) 2) (AV.int 0))) →
            ((AV.binOk Go.BinOp.gtr (AV.cel (AV.atAgg x0 (ys449.getD 0 default) 0 4) 2) (AV.cel (AV.atAgg x0 (ys449.getD 0 default) 0 4) 3)) ∧
            ((AV.isBool (AV.bin Go.BinOp.lss (AV.cel (AV.atAgg x0 (ys449.getD 0 default) 0 4) 2) (AV.int 0))) ∧
            ((isF (AV.bin Go.BinOp.lss (AV.cel (AV.atAgg x0 (ys449.getD 0 default) 0 4) 2) (AV.int 0))) ∧
            ((AV.isBool (AV.bin Go.BinOp.gtr (AV.cel (AV.atAgg x0 (ys449.getD 0 default) 0 4) 2) (AV.cel (AV.atAgg x0 (ys449.getD 0 default) 0 4) 3))) ∧
            (((isT (AV.bin Go.BinOp.gtr (AV.cel (AV.atAgg x0 (ys449.getD 0 default) 0 4) 2) (AV.cel (AV.atAgg x0 (ys449.getD 0 default) 0 4) 3))) →
              ((AV.isBool (AV.bin Go.BinOp.gtr (AV.cel (AV.atAgg x0 (ys449.getD 0 default) 0 4) 2) (AV.cel (AV.atAgg x0 (ys449.getD 0 default) 0 4) 3))) ∧
              ((isT (AV.bin Go.BinOp.gtr (AV.cel (AV.atAgg x0 (ys449.getD 0 default) 0 4) 2) (AV.cel (AV.atAgg x0 (ys449.getD 0 default) 0 4) 3))) ∧
              ((AV.flat (AV.int 12)) ∧
              (fSame (AV.int 12) r))))) ∧
            ((isF (AV.bin Go.BinOp.gtr (AV.cel (AV.atAgg x0 (ys449.getD 0 default) 0 4) 2) (AV.cel (AV.atAgg x0 (ys449.getD 0 default) 0 4) 3))) →
              ((AV.binOk Go.BinOp.gtr (AV.cel (AV.atAgg x0 (ys449.getD 0 default) 0 4) 3) (AV.int 200000)) ∧
              ((AV.isBool (AV.bin Go.BinOp.gtr (AV.cel (AV.atAgg x0 (ys449.getD 0 default) 0 4) 2) (AV.cel (AV.atAgg x0 (ys449.getD 0 default) 0 4) 3))) ∧
              ((isF (AV.bin Go.BinOp.gtr (AV.cel (AV.atAgg x0 (ys449.getD 0 default) 0 4) 2) (AV.cel (AV.atAgg x0 (ys449.getD 0 default) 0 4) 3))) ∧
              ((AV.isBool (AV.bin Go.BinOp.gtr (AV.cel (AV.atAgg x0 (ys449.getD 0 default) 0 4) 3) (AV.int 200000))) ∧
              (((isT (AV.bin Go.BinOp.gtr (AV.cel (AV.atAgg x0 (ys449.getD 0 default) 0 4) 3) (AV.int 200000))) →
                ((AV.flat (AV.int 12)) ∧
                (fSame (AV.int 12) r))) ∧
              ((isF (AV.bin Go.BinOp.gtr (AV.cel (AV.atAgg x0 (ys449.getD 0 default) 0 4) 3) (AV.int 200000))) →
                ((AV.isSl x0 4) ∧
                ((AV.subOk x0 (AV.int 0) (ys449.getD 0 default)) ∧
                ((fEnt Try.prog 31) ∧
                (fAllV fun _ => ((fEnt Try.prog 41) ∧
                (fAllV fun _ => ((AV.isSl (AV.sub 4 x0 (AV.int 0) (ys449.getD 0 default)) 4) ∧
                (fLoop 3393 [(AV.int 0)] fun ys3393 again3393 =>
                  ((AV.binOk Go.BinOp.lss (ys3393.getD 0 default) (AV.len (AV.sub 4 x0 (AV.int 0) (ys449.getD 0 default)))) ∧
                  ((AV.isBool (AV.bin Go.BinOp.lss (ys3393.getD 0 default) (AV.len (AV.sub 4 x0 (AV.int 0) (ys449.getD 0 default))))) ∧
                  (((isT (AV.bin Go.BinOp.lss (ys3393.getD 0 default) (AV.len (AV.sub 4 x0 (AV.int 0) (ys449.getD 0 default))))) →
                    ((AV.isSl (AV.sub 4 x0 (AV.int 0) (ys449.getD 0 default)) 4) ∧
                    ((AV.inb (AV.sub 4 x0 (AV.int 0) (ys449.getD 0 default)) (ys3393.getD 0 default)) ∧
                    ((fEnt Try.prog 32) ∧
                    (fAllV fun _ => ((AV.isAgg (AV.atAgg (AV.sub 4 x0 (AV.int 0) (ys449.getD 0 default)) (ys3393.getD 0 default) 0 4) 4) ∧
                    ((AV.binOk Go.BinOp.eql (AV.cel (AV.atAgg (AV.sub 4 x0 (AV.int 0) (ys449.getD 0 default)) (ys3393.getD 0 default) 0 4) 0) (AV.cel (AV.atAgg x0 (ys449.getD 0 default) 0 4) 0)) ∧
                    ((AV.isBool (AV.bin Go.BinOp.eql (AV.cel (AV.atAgg (AV.sub 4 x0 (AV.int 0) (ys449.getD 0 default)) (ys3393.getD 0 default) 0 4) 0) (AV.cel (AV.atAgg x0 (ys449.getD 0 default) 0 4) 0))) ∧
                    (((isT (AV.bin Go.BinOp.eql (AV.cel (AV.atAgg (AV.sub 4 x0 (AV.int 0) (ys449.getD 0 default)) (ys3393.getD 0 default) 0 4) 0) (AV.cel (AV.atAgg x0 (ys449.getD 0 default) 0 4) 0))) →
                      ((AV.binOk Go.BinOp.geq (ys3393.getD 0 default) (AV.int 0)) ∧
                      ((AV.isBool (AV.bin Go.BinOp.geq (ys3393.getD 0 default) (AV.int 0))) ∧
                      (((isT (AV.bin Go.BinOp.geq (ys3393.getD 0 default) (AV.int 0))) →
                        ((AV.flat (AV.int 7)) ∧
                        (fSame (AV.int 7) r))) ∧
                      ((isF (AV.bin Go.BinOp.geq (ys3393.getD 0 default) (AV.int 0))) →
                        ((AV.binOk Go.BinOp.add (ys449.getD 0 default) (AV.int 1)) ∧
                        (again449 [(AV.bin Go.BinOp.add (ys449.getD 0 default) (AV.int 1))]))))))) ∧
                    ((isF (AV.bin Go.BinOp.eql (AV.cel (AV.atAgg (AV.sub 4 x0 (AV.int 0) (ys449.getD 0 default)) (ys3393.getD 0 default) 0 4) 0) (AV.cel (AV.atAgg x0 (ys449.getD 0 default) 0 4) 0))) →
                      ((AV.binOk Go.BinOp.add (ys3393.getD 0 default) (AV.int 1)) ∧
                      (again3393 [(AV.bin Go.BinOp.add (ys3393.getD 0 default) (AV.int 1))])))))))))))) ∧
                  ((isF (AV.bin Go.BinOp.lss (ys3393.getD 0 default) (AV.len (AV.sub 4 x0 (AV.int 0) (ys449.getD 0 default))))) →
                    ((AV.binOk Go.BinOp.add (ys449.getD 0 default) (AV.int 1)) ∧
                    (again449 [(AV.bin Go.BinOp.add (ys449.getD 0 default) (AV.int 1))])))))))))))))))))))))))))))))))))))))))))))))) ∧
    ((isF (AV.bin Go.BinOp.lss (ys449.getD 0 default) (AV.len x0))) →
      ((AV.flat (AV.int 0)) ∧
      (fSame (AV.int 0) r)))))))))))))) := by kernel_rfl
theorem class_form (x0 r : AV) : fnF Try.prog Γ ann 3 30 Try.f30 (Try.f30.body.getD .skip) (.nil) [x0] (.sc) r = (((AV.binOk Go.BinOp.lss x0 (AV.int 0)) ∧
((AV.isBool (AV.bin Go.BinOp.lss x0 (AV.int 0))) ∧
(((isT (AV.bin Go.BinOp.lss x0 (AV.int 0))) →
  ((AV.isBool (AV.bin Go.BinOp.lss x0 (AV.int 0))) ∧
  ((isT (AV.bin Go.BinOp.lss x0 (AV.int 0))) ∧
  ((AV.flat (AV.int 1)) ∧
  (fSame (AV.int 1) r))))) ∧
((isF (AV.bin Go.BinOp.lss x0 (AV.int 0))) →
  ((AV.binOk Go.BinOp.gtr x0 (AV.int 3)) ∧
  ((AV.isBool (AV.bin Go.BinOp.lss x0 (AV.int 0))) ∧
  ((isF (AV.bin Go.BinOp.lss x0 (AV.int 0))) ∧
  ((AV.isBool (AV.bin Go.BinOp.gtr x0 (AV.int 3))) ∧
  (((isT (AV.bin Go.BinOp.gtr x0 (AV.int 3))) →
    ((AV.flat (AV.int 1)) ∧
    (fSame (AV.int 1) r))) ∧
  ((isF (AV.bin Go.BinOp.gtr x0 (AV.int 3))) →
    ((AV.flat (AV.int 0)) ∧
    (fSame (AV.int 0) r))))))))))))) := by kernel_rfl
theorem aerr_form (x0 r : AV) : fnF Try.prog Γ ann 3 9 Try.f9 (Try.f9.body.getD .skip) (.nil) [x0] (.sc) r = (((AV.isSl x0 4) ∧
((AV.binOk Go.BinOp.gtr (AV.len x0) (AV.int 8)) ∧
((AV.isBool (AV.bin Go.BinOp.gtr (AV.len x0) (AV.int 8))) ∧
(((isT (AV.bin Go.BinOp.gtr (AV.len x0) (AV.int 8))) →
  ((AV.flat (AV.int 2)) ∧
  (fSame (AV.int 2) r))) ∧
((isF (AV.bin Go.BinOp.gtr (AV.len x0) (AV.int 8))) →
  ((AV.isSl x0 4) ∧
  (fLoop 449 [(AV.int 0)] fun ys449 again449 =>
    ((AV.binOk Go.BinOp.lss (ys449.getD 0 default) (AV.len x0)) ∧
    ((AV.isBool (AV.bin Go.BinOp.lss (ys449.getD 0 default) (AV.len x0))) ∧
    (((isT (AV.bin Go.BinOp.lss (ys449.getD 0 default) (AV.len x0))) →
      ((AV.isSl x0 4) ∧
      ((AV.inb x0 (ys449.getD 0 default)) ∧
      ((AV.isAgg (AV.atAgg x0 (ys449.getD 0 default) 0 4) 4) ∧
      (∃ r1025 : AV, ((Fn Try.prog 28 [(AV.cel (AV.atAgg x0 (ys449.getD 0 default) 0 4) 0)] Sh.sc r1025) ∧
      ((AV.unOk Go.UnOp.not r1025) ∧
      ((AV.isBool (AV.un Go.UnOp.not r1025)) ∧
      (((isT (AV.un Go.UnOp.not r1025)) →
        ((AV.flat (AV.int 3)) ∧
        (fSame (AV.int 3) r))) ∧
      ((isF (AV.un Go.UnOp.not r1025)) →
        ((AV.binOk Go.BinOp.lss (AV.cel (AV.atAgg x0 (ys449.getD 0 default) 0 4) 1) (AV.int 0)) ∧
        ((AV.isBool (AV.bin Go.BinOp.lss (AV.cel (AV.atAgg x0 (ys449.getD 0 default) 0 4) 1) (AV.int 0))) ∧
        (((isT (AV.bin Go.BinOp.lss (AV.cel (AV.atAgg x0 (ys449.getD 0 default) 0 4) 1) (AV.int 0))) →
          ((AV.isBool (AV.bin Go.BinOp.lss (AV.cel (AV.atAgg x0 (ys449.getD 0 default) 0 4) 1) (AV.int 0))) ∧
          ((isT (AV.bin Go.BinOp.lss (AV.cel (AV.atAgg x0 (ys449.getD 0 default) 0 4) 1) (AV.int 0))) ∧
          ((AV.flat (AV.int 1)) ∧
          (fSame (AV.int 1) r))))) ∧
        ((isF (AV.bin Go.BinOp.lss (AV.cel (AV.atAgg x0 (ys449.getD 0 default) 0 4) 1) (AV.int 0))) →
          ((AV.binOk Go.BinOp.gtr (AV.cel (AV.atAgg x0 (ys449.getD 0 default) 0 4) 1) (AV.int 3)) ∧
          ((AV.isBool (AV.bin Go.BinOp.lss (AV.cel (AV.atAgg x0 (ys449.getD 0 default) 0 4) 1) (AV.int 0))) ∧
          ((isF (AV.bin Go.BinOp.lss (AV.cel (AV.atAgg x0 (ys449.getD 0 default) 0 4) 1) (AV.int 0))) ∧
          ((AV.isBool (AV.bin Go.BinOp.gtr (AV.cel (AV.atAgg x0 (ys449.getD 0 default) 0 4) 1) (AV.int 3))) ∧
          (((isT (AV.bin Go.BinOp.gtr (AV.cel (AV.atAgg x0 (ys449.getD 0 default) 0 4) 1) (AV.int 3))) →
            ((AV.flat (AV.int 1)) ∧
            (fSame (AV.int 1) r))) ∧
          ((isF (AV.bin Go.BinOp.gtr (AV.cel (AV.atAgg x0 (ys449.getD 0 default) 0 4) 1) (AV.int 3))) →
            ((AV.binOk Go.BinOp.lss (AV.cel (AV.atAgg x0 (ys449.getD 0 default) 0 4) 2) (AV.int 0)) ∧
            ((AV.isBool (AV.bin Go.BinOp.lss (AV.cel (AV.atAgg x0 (ys449.getD 0 default) 0 4) 2) (AV.int 0))) ∧
            (((isT (AV.bin Go.BinOp.lss (AV.cel (AV.atAgg x0 (ys449.getD 0 default) 0 4) 2) (AV.int 0))) →
              ((AV.isBool (AV.bin Go.BinOp.lss (AV.cel (AV.atAgg x0 (ys449.getD 0 default) 0 4) 2) (AV.int 0))) ∧
              ((isT (AV.bin Go.BinOp.lss (AV.cel (AV.atAgg x0 (ys449.getD 0 default) 0 4) 2) (AV.int 0))) ∧
              ((AV.flat (AV.int 12)) ∧
              (fSame (AV.int 12) r))))) ∧
            ((isF (AV.bin Go.BinOp.lss (AV.cel (AV.atAgg x0 (ys449.getD 0 default) 0 4) 2) (AV.int 0))) →
              ((AV.binOk Go.BinOp.gtr (AV.cel (AV.atAgg x0 (ys449.getD 0 default) 0 4) 2) (AV.cel (AV.atAgg x0 (ys449.getD 0 default) 0 4) 3)) ∧
              ((AV.isBool (AV.bin Go.BinOp.lss (AV.cel (AV.atAgg x0 (ys449.getD 0 default) 0 4) 2) (AV.int 0))) ∧
              ((isF (AV.bin Go.BinOp.lss (AV.cel (AV.atAgg x0 (ys449.getD 0 default) 0 4) 2) (AV.int 0))) ∧
              ((AV.isBool (AV.bin Go.BinOp.gtr (AV.cel (AV.atAgg x0 (ys449.getD 0 default) 0 4) 2) (AV.cel (AV.atAgg x0 (ys449.getD 0 default) 0 4) 3))) ∧
              (((isT (AV.bin Go.BinOp.gtr (AV.cel (AV.atAgg x0 (ys449.getD 0 default) 0 4) 2) (AV.cel (AV.atAgg x0 (ys449.getD 0 default) 0 4) 3))) →
                ((AV.isBool (AV.bin Go.BinOp.gtr (AV.cel (AV.atAgg x0 (ys449.getD 0 default) 0 4) 2) (AV.cel (AV.atAgg x0 (ys449.getD 0 default) 0 4) 3))) ∧
                ((isT (AV.bin Go.BinOp.gtr (AV.cel (AV.atAgg x0 (ys449.getD 0 default) 0 4) 2) (AV.cel (AV.atAgg x0 (ys449.getD 0 default) 0 4) 3))) ∧
                ((AV.flat (AV.int 12)) ∧
                (fSame (AV.int 12) r))))) ∧
              ((isF (AV.bin Go.BinOp.gtr (AV.cel (AV.atAgg x0 (ys449.getD 0 default) 0 4) 2) (AV.cel (AV.atAgg x0 (ys449.getD 0 default) 0 4) 3))) →
                ((AV.binOk Go.BinOp.gtr (AV.cel (AV.atAgg x0 (ys449.getD 0 default) 0 4) 3) (AV.int 200000)) ∧
                ((AV.isBool (AV.bin Go.BinOp.gtr (AV.cel (AV.atAgg x0 (ys449.getD 0 default) 0 4) 2) (AV.cel (AV.atAgg x0 (ys449.getD 0 default) 0 4) 3))) ∧
                ((isF (AV.bin Go.BinOp.gtr (AV.cel (AV.atAgg x0 (ys449.getD 0 default) 0 4) 2) (AV.cel (AV.atAgg x0 (ys449.getD 0 default) 0 4) 3))) ∧
                ((AV.isBool (AV.bin Go.BinOp.gtr (AV.cel (AV.atAgg x0 (ys449.getD 0 default) 0 4) 3) (AV.int 200000))) ∧
                (((isT (AV.bin Go.BinOp.gtr (AV.cel (AV.atAgg x0 (ys449.getD 0 default) 0 4) 3) (AV.int 200000))) →
                  ((AV.flat (AV.int 12)) ∧
                  (fSame (AV.int 12) r))) ∧
                ((isF (AV.bin Go.BinOp.gtr (AV.cel (AV.atAgg x0 (ys449.getD 0 default) 0 4) 3) (AV.int 200000))) →
                  (fLoop 2689 [(AV.int 0)] fun ys2689 again2689 =>
                    ((AV.binOk Go.BinOp.lss (ys2689.getD 0 default) (ys449.getD 0 default)) ∧
                    ((AV.isBool (AV.bin Go.BinOp.lss (ys2689.getD 0 default) (ys449.getD 0 default))) ∧
                    (((isT (AV.bin Go.BinOp.lss (ys2689.getD 0 default) (ys449.getD 0 default))) →
                      ((AV.isSl x0 4) ∧
                      ((AV.inb x0 (ys2689.getD 0 default)) ∧
                      ((AV.binOk Go.BinOp.eql (AV.at x0 (ys2689.getD 0 default) 0) (AV.cel (AV.atAgg x0 (ys449.getD 0 default) 0 4) 0)) ∧
                      ((AV.isBool (AV.bin Go.BinOp.eql (AV.at x0 (ys2689.getD 0 default) 0) (AV.cel (AV.atAgg x0 (ys449.getD 0 default) 0 4) 0))) ∧
                      (((isT (AV.bin Go.BinOp.eql (AV.at x0 (ys2689.getD 0 default) 0) (AV.cel (AV.atAgg x0 (ys449.getD 0 default) 0 4) 0))) →
                        ((AV.flat (AV.int 7)) ∧
                        (fSame (AV.int 7) r))) ∧
                      ((isF (AV.bin Go.BinOp.eql (AV.at x0 (ys2689.getD 0 default) 0) (AV.cel (AV.atAgg x0 (ys449.getD 0 default) 0 4) 0))) →
                        ((AV.binOk Go.BinOp.add (ys2689.getD 0 default) (AV.int 1)) ∧
                        (again2689 [(AV.bin Go.BinOp.add (ys2689.getD 0 default) (AV.int 1))]))))))))) ∧
                    ((isF (AV.bin Go.BinOp.lss (ys2689.getD 0 default) (ys449.getD 0 default))) →
                      ((AV.binOk Go.BinOp.add (ys449.getD 0 default) (AV.int 1)) ∧
                      (again449 [(AV.bin Go.BinOp.add (ys449.getD 0 default) (AV.int 1))]))))))))))))))))))))))))))))))))))))))))))) ∧
    ((isF (AV.bin Go.BinOp.lss (ys449.getD 0 default) (AV.len x0))) →
      ((AV.flat (AV.int 0)) ∧
      (fSame (AV.int 0) r)))))))))))))) := by kernel_rfl
theorem nat1_form (x0 x1 x2 r : AV) : fnF Try.prog Γ ann 3 21 Try.f21 (Try.f21.body.getD .skip) (.nil) [x0, x1, x2] (.sc) r = (((AV.isRef x2 1) ∧
((AV.isSl (AV.der x2) 4) ∧
((AV.inb (AV.der x2) x0) ∧
((AV.isRef x2 1) ∧
((AV.isSl (AV.der x2) 4) ∧
((AV.inb (AV.der x2) x1) ∧
((AV.binOk Go.BinOp.sub (AV.at (AV.der x2) x0 2) (AV.at (AV.der x2) x1 2)) ∧
((AV.isRef x2 1) ∧
((AV.isSl (AV.der x2) 4) ∧
((AV.inb (AV.der x2) x0) ∧
((AV.isRef x2 1) ∧
((AV.isSl (AV.der x2) 4) ∧
((AV.inb (AV.der x2) x1) ∧
(∃ r1409 : AV, ((Fn Try.prog 23 [(AV.at (AV.der x2) x0 0), (AV.at (AV.der x2) x1 0)] Sh.sc r1409) ∧
((AV.isOne (AV.bin Go.BinOp.sub (AV.at (AV.der x2) x0 2) (AV.at (AV.der x2) x1 2))) ∧
((AV.isOne r1409) ∧
(∃ r1537 : AV, ((Fn Try.prog 22 [(AV.mk 1 [[(AV.bin Go.BinOp.sub (AV.at (AV.der x2) x0 2) (AV.at (AV.der x2) x1 2))], [r1409]])] Sh.sc r1537) ∧
((AV.flat r1537) ∧
(fSame r1537 r)))))))))))))))))))))) := by kernel_rfl
theorem natural_form (x0 r : AV) : fnF Try.prog Γ ann 3 6 Try.f6 (Try.f6.body.getD .skip) (.nil) [x0] (.tup [.row 3 1 true, .sc]) r = (((AV.isOne x0) ∧
(∃ r257 : AV, ((Fn Try.prog 10 [x0] Sh.sc r257) ∧
((AV.binOk Go.BinOp.neq r257 (AV.int 0)) ∧
((AV.isBool (AV.bin Go.BinOp.neq r257 (AV.int 0))) ∧
(((isT (AV.bin Go.BinOp.neq r257 (AV.int 0))) →
  ((AV.flatS (AV.mk 1 [])) ∧
  ((AV.flat r257) ∧
  (fSame (AV.tup [(AV.mk 1 []), r257]) r)))) ∧
((isF (AV.bin Go.BinOp.neq r257 (AV.int 0))) →
  ((AV.isSl x0 4) ∧
  (fLoop 769 [(AV.int 0), (AV.mk 1 [])] fun ys769 again769 =>
    ((AV.binOk Go.BinOp.lss (ys769.getD 0 default) (AV.len x0)) ∧
    ((AV.isBool (AV.bin Go.BinOp.lss (ys769.getD 0 default) (AV.len x0))) ∧
    (((isT (AV.bin Go.BinOp.lss (ys769.getD 0 default) (AV.len x0))) →
      ((AV.isOne (ys769.getD 0 default)) ∧
      ((AV.room (ys769.getD 1 default) (AV.mk 1 [[(ys769.getD 0 default)]]) 8) ∧
      ((AV.binOk Go.BinOp.add (ys769.getD 0 default) (AV.int 1)) ∧
      (again769 [(AV.bin Go.BinOp.add (ys769.getD 0 default) (AV.int 1)), (AV.app 1 (ys769.getD 1 default) (AV.mk 1 [[(ys769.getD 0 default)]]))]))))) ∧
    ((isF (AV.bin Go.BinOp.lss (ys769.getD 0 default) (AV.len x0))) →
      (∃ r961 : AV, ((FnU Try.prog 20 3 1 (ys769.getD 1 default) [(AV.mkClo 21 [(AV.mkRef [x0])])] false r961) ∧
      ((AV.flatS r961) ∧
      ((AV.flat (AV.int 0)) ∧
      (fSame (AV.tup [r961, (AV.int 0)]) r))))))))))))))))))) := by kernel_rfl
theorem isord_form (x0 x1 r : AV) : fnF Try.prog Γ ann 3 25 Try.f25 (Try.f25.body.getD .skip) (.nil) [x0, x1] (.sc) r = (((AV.mkOk x1 1) ∧
((AV.isI64 x1) ∧
((sameNum x1 x1) ∧
((AV.isSl x0 1) ∧
(fLoop 449 [(AV.int 0), (AV.rep 1 x1 [(AV.bool false)])] fun ys449 again449 =>
  ((AV.binOk Go.BinOp.lss (ys449.getD 0 default) (AV.len x0)) ∧
  ((AV.isBool (AV.bin Go.BinOp.lss (ys449.getD 0 default) (AV.len x0))) ∧
  (((isT (AV.bin Go.BinOp.lss (ys449.getD 0 default) (AV.len x0))) →
    ((AV.isSl x0 1) ∧
    ((AV.inb x0 (ys449.getD 0 default)) ∧
    ((AV.binOk Go.BinOp.lss (AV.at x0 (ys449.getD 0 default) 0) (AV.int 0)) ∧
    ((AV.isBool (AV.bin Go.BinOp.lss (AV.at x0 (ys449.getD 0 default) 0) (AV.int 0))) ∧
    (((isT (AV.bin Go.BinOp.lss (AV.at x0 (ys449.getD 0 default) 0) (AV.int 0))) →
      ((AV.isBool (AV.bin Go.BinOp.lss (AV.at x0 (ys449.getD 0 default) 0) (AV.int 0))) ∧
      ((isT (AV.bin Go.BinOp.lss (AV.at x0 (ys449.getD 0 default) 0) (AV.int 0))) ∧
      ((AV.flat (AV.bool false)) ∧
      (fSame (AV.bool false) r))))) ∧
    ((isF (AV.bin Go.BinOp.lss (AV.at x0 (ys449.getD 0 default) 0) (AV.int 0))) →
      ((AV.binOk Go.BinOp.geq (AV.at x0 (ys449.getD 0 default) 0) x1) ∧
      ((AV.isBool (AV.bin Go.BinOp.lss (AV.at x0 (ys449.getD 0 default) 0) (AV.int 0))) ∧
      ((isF (AV.bin Go.BinOp.lss (AV.at x0 (ys449.getD 0 default) 0) (AV.int 0))) ∧
      ((AV.isBool (AV.bin Go.BinOp.geq (AV.at x0 (ys449.getD 0 default) 0) x1)) ∧
      (((isT (AV.bin Go.BinOp.geq (AV.at x0 (ys449.getD 0 default) 0) x1)) →
        ((AV.isBool (AV.bin Go.BinOp.geq (AV.at x0 (ys449.getD 0 default) 0) x1)) ∧
        ((isT (AV.bin Go.BinOp.geq (AV.at x0 (ys449.getD 0 default) 0) x1)) ∧
        ((AV.flat (AV.bool false)) ∧
        (fSame (AV.bool false) r))))) ∧
      ((isF (AV.bin Go.BinOp.geq (AV.at x0 (ys449.getD 0 default) 0) x1)) →
        ((AV.inb (ys449.getD 1 default) (AV.at x0 (ys449.getD 0 default) 0)) ∧
        ((AV.inb (ys449.getD 1 default) (AV.at x0 (ys449.getD 0 default) 0)) ∧
        ((AV.isBool (AV.bin Go.BinOp.geq (AV.at x0 (ys449.getD 0 default) 0) x1)) ∧
        ((isF (AV.bin Go.BinOp.geq (AV.at x0 (ys449.getD 0 default) 0) x1)) ∧
        ((AV.isBool (AV.at (ys449.getD 1 default) (AV.at x0 (ys449.getD 0 default) 0) 0)) ∧
        (((isT (AV.at (ys449.getD 1 default) (AV.at x0 (ys449.getD 0 default) 0) 0)) →
          ((AV.flat (AV.bool false)) ∧
          (fSame (AV.bool false) r))) ∧
        ((isF (AV.at (ys449.getD 1 default) (AV.at x0 (ys449.getD 0 default) 0) 0)) →
          ((AV.inb (ys449.getD 1 default) (AV.at x0 (ys449.getD 0 default) 0)) ∧
          ((AV.inb (ys449.getD 1 default) (AV.at x0 (ys449.getD 0 default) 0)) ∧
          ((AV.binOk Go.BinOp.add (ys449.getD 0 default) (AV.int 1)) ∧
          (again449 [(AV.bin Go.BinOp.add (ys449.getD 0 default) (AV.int 1)), (AV.setEl (ys449.getD 1 default) (AV.at x0 (ys449.getD 0 default) 0) 0 [(AV.bool true)])])))))))))))))))))))))))) ∧
  ((isF (AV.bin Go.BinOp.lss (ys449.getD 0 default) (AV.len x0))) →
    ((AV.isSl x0 1) ∧
    ((AV.binOk Go.BinOp.eql (AV.len x0) x1) ∧
    ((AV.flat (AV.bin Go.BinOp.eql (AV.len x0) x1)) ∧
    (fSame (AV.bin Go.BinOp.eql (AV.len x0) x1) r)))))))))))))) := by kernel_rfl
theorem times1_form (x0 x1 x2 r : AV) : fnF Try.prog Γ ann 3 26 Try.f26 (Try.f26.body.getD .skip) (.nil) [x0, x1, x2] (.tup [.row 3 1 true, .sc]) r = (((AV.isAgg x2 16) ∧
((AV.isSl x1 1) ∧
(fLoop 449 [(AV.int 0), (AV.mk 1 [])] fun ys449 again449 =>
  ((AV.binOk Go.BinOp.lss (ys449.getD 0 default) (AV.len x1)) ∧
  ((AV.isBool (AV.bin Go.BinOp.lss (ys449.getD 0 default) (AV.len x1))) ∧
  (((isT (AV.bin Go.BinOp.lss (ys449.getD 0 default) (AV.len x1))) →
    ((AV.isSl x1 1) ∧
    ((AV.inb x1 (ys449.getD 0 default)) ∧
    ((AV.isSl x0 4) ∧
    ((AV.inb x0 (AV.at x1 (ys449.getD 0 default) 0)) ∧
    ((AV.binOk Go.BinOp.gtr (ys449.getD 0 default) (AV.int 0)) ∧
    ((AV.isBool (AV.bin Go.BinOp.gtr (ys449.getD 0 default) (AV.int 0))) ∧
    (((isT (AV.bin Go.BinOp.gtr (ys449.getD 0 default) (AV.int 0))) →
      ((AV.binOk Go.BinOp.sub (ys449.getD 0 default) (AV.int 1)) ∧
      ((AV.inb (ys449.getD 1 default) (AV.bin Go.BinOp.sub (ys449.getD 0 default) (AV.int 1))) ∧
      ((AV.inb (ys449.getD 1 default) (AV.bin Go.BinOp.sub (ys449.getD 0 default) (AV.int 1))) ∧
      ((AV.binOk Go.BinOp.sub (ys449.getD 0 default) (AV.int 1)) ∧
      ((AV.isSl x1 1) ∧
      ((AV.inb x1 (AV.bin Go.BinOp.sub (ys449.getD 0 default) (AV.int 1))) ∧
      ((AV.isSl x0 4) ∧
      ((AV.inb x0 (AV.at x1 (AV.bin Go.BinOp.sub (ys449.getD 0 default) (AV.int 1)) 0)) ∧
      ((AV.isSl x0 4) ∧
      ((AV.inb x0 (AV.at x1 (ys449.getD 0 default) 0)) ∧
      ((AV.inl 4 (AV.at x0 (AV.at x1 (AV.bin Go.BinOp.sub (ys449.getD 0 default) (AV.int 1)) 0) 1)) ∧
      ((AV.inl 4 (AV.at x0 (AV.at x1 (ys449.getD 0 default) 0) 1)) ∧
      ((AV.nthOk 16 0 [((AV.at x0 (AV.at x1 (ys449.getD 0 default) 0) 1), 1), ((AV.at x0 (AV.at x1 (AV.bin Go.BinOp.sub (ys449.getD 0 default) (AV.int 1)) 0) 1), 4)]) ∧
      ((AV.binOk Go.BinOp.add (AV.at (ys449.getD 1 default) (AV.bin Go.BinOp.sub (ys449.getD 0 default) (AV.int 1)) 0) (AV.nth [(AV.cel x2 0), (AV.cel x2 1), (AV.cel x2 2), (AV.cel x2 3), (AV.cel x2 4), (AV.cel x2 5), (AV.cel x2 6), (AV.cel x2 7), (AV.cel x2 8), (AV.cel x2 9), (AV.cel x2 10), (AV.cel x2 11), (AV.cel x2 12), (AV.cel x2 13), (AV.cel x2 14), (AV.cel x2 15)] 0 [((AV.at x0 (AV.at x1 (ys449.getD 0 default) 0) 1), 1), ((AV.at x0 (AV.at x1 (AV.bin Go.BinOp.sub (ys449.getD 0 default) (AV.int 1)) 0) 1), 4)])) ∧
      ((AV.isInt (AV.at x0 (AV.at x1 (ys449.getD 0 default) 0) 2)) ∧
      ((AV.isInt (AV.bin Go.BinOp.add (AV.at (ys449.getD 1 default) (AV.bin Go.BinOp.sub (ys449.getD 0 default) (AV.int 1)) 0) (AV.nth [(AV.cel x2 0), (AV.cel x2 1), (AV.cel x2 2), (AV.cel x2 3), (AV.cel x2 4), (AV.cel x2 5), (AV.cel x2 6), (AV.cel x2 7), (AV.cel x2 8), (AV.cel x2 9), (AV.cel x2 10), (AV.cel x2 11), (AV.cel x2 12), (AV.cel x2 13), (AV.cel x2 14), (AV.cel x2 15)] 0 [((AV.at x0 (AV.at x1 (ys449.getD 0 default) 0) 1), 1), ((AV.at x0 (AV.at x1 (AV.bin Go.BinOp.sub (ys449.getD 0 default) (AV.int 1)) 0) 1), 4)]))) ∧
      ((AV.isSl x0 4) ∧
      ((AV.inb x0 (AV.at x1 (ys449.getD 0 default) 0)) ∧
      ((AV.binOk Go.BinOp.gtr (AV.mx (AV.at x0 (AV.at x1 (ys449.getD 0 default) 0) 2) (AV.bin Go.BinOp.add (AV.at (ys449.getD 1 default) (AV.bin Go.BinOp.sub (ys449.getD 0 default) (AV.int 1)) 0) (AV.nth [(AV.cel x2 0), (AV.cel x2 1), (AV.cel x2 2), (AV.cel x2 3), (AV.cel x2 4), (AV.cel x2 5), (AV.cel x2 6), (AV.cel x2 7), (AV.cel x2 8), (AV.cel x2 9), (AV.cel x2 10), (AV.cel x2 11), (AV.cel x2 12), (AV.cel x2 13), (AV.cel x2 14), (AV.cel x2 15)] 0 [((AV.at x0 (AV.at x1 (ys449.getD 0 default) 0) 1), 1), ((AV.at x0 (AV.at x1 (AV.bin Go.BinOp.sub (ys449.getD 0 default) (AV.int 1)) 0) 1), 4)]))) (AV.at x0 (AV.at x1 (ys449.getD 0 default) 0) 3)) ∧
      ((AV.isBool (AV.bin Go.BinOp.gtr (AV.mx (AV.at x0 (AV.at x1 (ys449.getD 0 default) 0) 2) (AV.bin Go.BinOp.add (AV.at (ys449.getD 1 default) (AV.bin Go.BinOp.sub (ys449.getD 0 default) (AV.int 1)) 0) (AV.nth [(AV.cel x2 0), (AV.cel x2 1), (AV.cel x2 2), (AV.cel x2 3), (AV.cel x2 4), (AV.cel x2 5), (AV.cel x2 6), (AV.cel x2 7), (AV.cel x2 8), (AV.cel x2 9), (AV.cel x2 10), (AV.cel x2 11), (AV.cel x2 12), (AV.cel x2 13), (AV.cel x2 14), (AV.cel x2 15)] 0 [((AV.at x0 (AV.at x1 (ys449.getD 0 default) 0) 1), 1), ((AV.at x0 (AV.at x1 (AV.bin Go.BinOp.sub (ys449.getD 0 default) (AV.int 1)) 0) 1), 4)]))) (AV.at x0 (AV.at x1 (ys449.getD 0 default) 0) 3))) ∧
      (((isT (AV.bin Go.BinOp.gtr (AV.mx (AV.at x0 (AV.at x1 (ys449.getD 0 default) 0) 2) (AV.bin Go.BinOp.add (AV.at (ys449.getD 1 default) (AV.bin Go.BinOp.sub (ys449.getD 0 default) (AV.int 1)) 0) (AV.nth [(AV.cel x2 0), (AV.cel x2 1), (AV.cel x2 2), (AV.cel x2 3), (AV.cel x2 4), (AV.cel x2 5), (AV.cel x2 6), (AV.cel x2 7), (AV.cel x2 8), (AV.cel x2 9), (AV.cel x2 10), (AV.cel x2 11), (AV.cel x2 12), (AV.cel x2 13), (AV.cel x2 14), (AV.cel x2 15)] 0 [((AV.at x0 (AV.at x1 (ys449.getD 0 default) 0) 1), 1), ((AV.at x0 (AV.at x1 (AV.bin Go.BinOp.sub (ys449.getD 0 default) (AV.int 1)) 0) 1), 4)]))) (AV.at x0 (AV.at x1 (ys449.getD 0 default) 0) 3))) →
        ((AV.flatS (AV.mk 1 [])) ∧
        ((AV.flat (AV.bool false)) ∧
        (fSame (AV.tup [(AV.mk 1 []), (AV.bool false)]) r)))) ∧
      ((isF (AV.bin Go.BinOp.gtr (AV.mx (AV.at x0 (AV.at x1 (ys449.getD 0 default) 0) 2) (AV.bin Go.BinOp.add (AV.at (ys449.getD 1 default) (AV.bin Go.BinOp.sub (ys449.getD 0 default) (AV.int 1)) 0) (AV.nth [(AV.cel x2 0), (AV.cel x2 1), (AV.cel x2 2), (AV.cel x2 3), (AV.cel x2 4), (AV.cel x2 5), (AV.cel x2 6), (AV.cel x2 7), (AV.cel x2 8), (AV.cel x2 9), (AV.cel x2 10), (AV.cel x2 11), (AV.cel x2 12), (AV.cel x2 13), (AV.cel x2 14), (AV.cel x2 15)] 0 [((AV.at x0 (AV.at x1 (ys449.getD 0 default) 0) 1), 1), ((AV.at x0 (AV.at x1 (AV.bin Go.BinOp.sub (ys449.getD 0 default) (AV.int 1)) 0) 1), 4)]))) (AV.at x0 (AV.at x1 (ys449.getD 0 default) 0) 3))) →
        ((AV.isOne (AV.mx (AV.at x0 (AV.at x1 (ys449.getD 0 default) 0) 2) (AV.bin Go.BinOp.add (AV.at (ys449.getD 1 default) (AV.bin Go.BinOp.sub (ys449.getD 0 default) (AV.int 1)) 0) (AV.nth [(AV.cel x2 0), (AV.cel x2 1), (AV.cel x2 2), (AV.cel x2 3), (AV.cel x2 4), (AV.cel x2 5), (AV.cel x2 6), (AV.cel x2 7), (AV.cel x2 8), (AV.cel x2 9), (AV.cel x2 10), (AV.cel x2 11), (AV.cel x2 12), (AV.cel x2 13), (AV.cel x2 14), (AV.cel x2 15)] 0 [((AV.at x0 (AV.at x1 (ys449.getD 0 default) 0) 1), 1), ((AV.at x0 (AV.at x1 (AV.bin Go.BinOp.sub (ys449.getD 0 default) (AV.int 1)) 0) 1), 4)])))) ∧
        ((AV.room (ys449.getD 1 default) (AV.mk 1 [[(AV.mx (AV.at x0 (AV.at x1 (ys449.getD 0 default) 0) 2) (AV.bin Go.BinOp.add (AV.at (ys449.getD 1 default) (AV.bin Go.BinOp.sub (ys449.getD 0 default) (AV.int 1)) 0) (AV.nth [(AV.cel x2 0), (AV.cel x2 1), (AV.cel x2 2), (AV.cel x2 3), (AV.cel x2 4), (AV.cel x2 5), (AV.cel x2 6), (AV.cel x2 7), (AV.cel x2 8), (AV.cel x2 9), (AV.cel x2 10), (AV.cel x2 11), (AV.cel x2 12), (AV.cel x2 13), (AV.cel x2 14), (AV.cel x2 15)] 0 [((AV.at x0 (AV.at x1 (ys449.getD 0 default) 0) 1), 1), ((AV.at x0 (AV.at x1 (AV.bin Go.BinOp.sub (ys449.getD 0 default) (AV.int 1)) 0) 1), 4)])))]]) 8) ∧
        ((AV.binOk Go.BinOp.add (ys449.getD 0 default) (AV.int 1)) ∧
        (again449 [(AV.bin Go.BinOp.add (ys449.getD 0 default) (AV.int 1)), (AV.app 1 (ys449.getD 1 default) (AV.mk 1 [[(AV.mx (AV.at x0 (AV.at x1 (ys449.getD 0 default) 0) 2) (AV.bin Go.BinOp.add (AV.at (ys449.getD 1 default) (AV.bin Go.BinOp.sub (ys449.getD 0 default) (AV.int 1)) 0) (AV.nth [(AV.cel x2 0), (AV.cel x2 1), (AV.cel x2 2), (AV.cel x2 3), (AV.cel x2 4), (AV.cel x2 5), (AV.cel x2 6), (AV.cel x2 7), (AV.cel x2 8), (AV.cel x2 9), (AV.cel x2 10), (AV.cel x2 11), (AV.cel x2 12), (AV.cel x2 13), (AV.cel x2 14), (AV.cel x2 15)] 0 [((AV.at x0 (AV.at x1 (ys449.getD 0 default) 0) 1), 1), ((AV.at x0 (AV.at x1 (AV.bin Go.BinOp.sub (ys449.getD 0 default) (AV.int 1)) 0) 1), 4)])))]]))]))))))))))))))))))))))))))) ∧
    ((isF (AV.bin Go.BinOp.gtr (ys449.getD 0 default) (AV.int 0))) →
      ((AV.isSl x0 4) ∧
      ((AV.inb x0 (AV.at x1 (ys449.getD 0 default) 0)) ∧
      ((AV.binOk Go.BinOp.gtr (AV.at x0 (AV.at x1 (ys449.getD 0 default) 0) 2) (AV.at x0 (AV.at x1 (ys449.getD 0 default) 0) 3)) ∧
      ((AV.isBool (AV.bin Go.BinOp.gtr (AV.at x0 (AV.at x1 (ys449.getD 0 default) 0) 2) (AV.at x0 (AV.at x1 (ys449.getD 0 default) 0) 3))) ∧
      (((isT (AV.bin Go.BinOp.gtr (AV.at x0 (AV.at x1 (ys449.getD 0 default) 0) 2) (AV.at x0 (AV.at x1 (ys449.getD 0 default) 0) 3))) →
        ((AV.flatS (AV.mk 1 [])) ∧
        ((AV.flat (AV.bool false)) ∧
        (fSame (AV.tup [(AV.mk 1 []), (AV.bool false)]) r)))) ∧
      ((isF (AV.bin Go.BinOp.gtr (AV.at x0 (AV.at x1 (ys449.getD 0 default) 0) 2) (AV.at x0 (AV.at x1 (ys449.getD 0 default) 0) 3))) →
        ((AV.isOne (AV.at x0 (AV.at x1 (ys449.getD 0 default) 0) 2)) ∧
        ((AV.room (ys449.getD 1 default) (AV.mk 1 [[(AV.at x0 (AV.at x1 (ys449.getD 0 default) 0) 2)]]) 8) ∧
        ((AV.binOk Go.BinOp.add (ys449.getD 0 default) (AV.int 1)) ∧
        (again449 [(AV.bin Go.BinOp.add (ys449.getD 0 default) (AV.int 1)), (AV.app 1 (ys449.getD 1 default) (AV.mk 1 [[(AV.at x0 (AV.at x1 (ys449.getD 0 default) 0) 2)]]))]))))))))))))))))))) ∧
  ((isF (AV.bin Go.BinOp.lss (ys449.getD 0 default) (AV.len x1))) →
    ((AV.flatS (ys449.getD 1 default)) ∧
    ((AV.flat (AV.bool true)) ∧
    (fSame (AV.tup [(ys449.getD 1 default), (AV.bool true)]) r))))))))))) := by kernel_rfl
theorem times_form (x0 x1 x2 r : AV) : fnF Try.prog Γ ann 3 7 Try.f7 (Try.f7.body.getD .skip) (.nil) [x0, x1, x2] (.tup [.row 3 1 true, .sc]) r = (((AV.isAgg x2 16) ∧
(∃ r257 : AV, ((Fn Try.prog 10 [x0] Sh.sc r257) ∧
((AV.binOk Go.BinOp.neq r257 (AV.int 0)) ∧
((AV.isBool (AV.bin Go.BinOp.neq r257 (AV.int 0))) ∧
(((isT (AV.bin Go.BinOp.neq r257 (AV.int 0))) →
  ((AV.flatS (AV.mk 1 [])) ∧
  ((AV.flat r257) ∧
  (fSame (AV.tup [(AV.mk 1 []), r257]) r)))) ∧
((isF (AV.bin Go.BinOp.neq r257 (AV.int 0))) →
  (∃ r577 : AV, ((Fn Try.prog 24 [(AV.agg [(AV.cel x2 0), (AV.cel x2 1), (AV.cel x2 2), (AV.cel x2 3), (AV.cel x2 4), (AV.cel x2 5), (AV.cel x2 6), (AV.cel x2 7), (AV.cel x2 8), (AV.cel x2 9), (AV.cel x2 10), (AV.cel x2 11), (AV.cel x2 12), (AV.cel x2 13), (AV.cel x2 14), (AV.cel x2 15)])] Sh.sc r577) ∧
  ((AV.binOk Go.BinOp.neq r577 (AV.int 0)) ∧
  ((AV.isBool (AV.bin Go.BinOp.neq r577 (AV.int 0))) ∧
  (((isT (AV.bin Go.BinOp.neq r577 (AV.int 0))) →
    ((AV.flatS (AV.mk 1 [])) ∧
    ((AV.flat r577) ∧
    (fSame (AV.tup [(AV.mk 1 []), r577]) r)))) ∧
  ((isF (AV.bin Go.BinOp.neq r577 (AV.int 0))) →
    ((AV.isSl x0 4) ∧
    (∃ r1025 : AV, ((Fn Try.prog 25 [x1, (AV.len x0)] Sh.sc r1025) ∧
    ((AV.unOk Go.UnOp.not r1025) ∧
    ((AV.isBool (AV.un Go.UnOp.not r1025)) ∧
    (((isT (AV.un Go.UnOp.not r1025)) →
      ((AV.flatS (AV.mk 1 [])) ∧
      ((AV.flat (AV.int 3)) ∧
      (fSame (AV.tup [(AV.mk 1 []), (AV.int 3)]) r)))) ∧
    ((isF (AV.un Go.UnOp.not r1025)) →
      (∃ r1345 : AV, ((Fn Try.prog 26 [x0, x1, (AV.agg [(AV.cel x2 0), (AV.cel x2 1), (AV.cel x2 2), (AV.cel x2 3), (AV.cel x2 4), (AV.cel x2 5), (AV.cel x2 6), (AV.cel x2 7), (AV.cel x2 8), (AV.cel x2 9), (AV.cel x2 10), (AV.cel x2 11), (AV.cel x2 12), (AV.cel x2 13), (AV.cel x2 14), (AV.cel x2 15)])] (Sh.tup [(Sh.row 3 1 true), Sh.sc]) r1345) ∧
      ((AV.unOk Go.UnOp.not (AV.prj r1345 1)) ∧
      ((AV.isBool (AV.un Go.UnOp.not (AV.prj r1345 1))) ∧
      (((isT (AV.un Go.UnOp.not (AV.prj r1345 1))) →
        ((AV.flatS (AV.mk 1 [])) ∧
        ((AV.flat (AV.int 8)) ∧
        (fSame (AV.tup [(AV.mk 1 []), (AV.int 8)]) r)))) ∧
      ((isF (AV.un Go.UnOp.not (AV.prj r1345 1))) →
        ((AV.flatS (AV.prj r1345 0)) ∧
        ((AV.flat (AV.int 0)) ∧
        (fSame (AV.tup [(AV.prj r1345 0), (AV.int 0)]) r)))))))))))))))))))))))))))))) := by kernel_rfl
theorem shift1_form (x0 x1 r : AV) : fnF Try.prog Γ ann 3 27 Try.f27 (Try.f27.body.getD .skip) (.nil) [x0, x1] (.sc) r = (((AV.isSl x1 1) ∧
(fLoop 321 [(AV.int 0), (AV.int 0)] fun ys321 again321 =>
  ((AV.binOk Go.BinOp.lss (ys321.getD 1 default) (AV.len x1)) ∧
  ((AV.isBool (AV.bin Go.BinOp.lss (ys321.getD 1 default) (AV.len x1))) ∧
  (((isT (AV.bin Go.BinOp.lss (ys321.getD 1 default) (AV.len x1))) →
    ((AV.isSl x1 1) ∧
    ((AV.inb x1 (ys321.getD 1 default)) ∧
    (∃ r897 : AV, ((Fn Try.prog 40 [x0, (AV.at x1 (ys321.getD 1 default) 0)] Sh.sc r897) ∧
    ((AV.binOk Go.BinOp.sub (ys321.getD 1 default) r897) ∧
    ((AV.unOk Go.UnOp.neg (AV.bin Go.BinOp.sub (ys321.getD 1 default) r897)) ∧
    ((AV.isInt (ys321.getD 0 default)) ∧
    ((AV.isInt (AV.bin Go.BinOp.sub (ys321.getD 1 default) r897)) ∧
    ((AV.isInt (AV.un Go.UnOp.neg (AV.bin Go.BinOp.sub (ys321.getD 1 default) r897))) ∧
    ((AV.binOk Go.BinOp.add (ys321.getD 1 default) (AV.int 1)) ∧
    (again321 [(AV.mx (AV.mx (ys321.getD 0 default) (AV.bin Go.BinOp.sub (ys321.getD 1 default) r897)) (AV.un Go.UnOp.neg (AV.bin Go.BinOp.sub (ys321.getD 1 default) r897))), (AV.bin Go.BinOp.add (ys321.getD 1 default) (AV.int 1))])))))))))))) ∧
  ((isF (AV.bin Go.BinOp.lss (ys321.getD 1 default) (AV.len x1))) →
    ((AV.flat (ys321.getD 0 default)) ∧
    (fSame (ys321.getD 0 default) r))))))))) := by kernel_rfl
theorem shift_form (x0 x1 r : AV) : fnF Try.prog Γ ann 3 8 Try.f8 (Try.f8.body.getD .skip) (.nil) [x0, x1] (.tup [.sc, .sc]) r = ((∃ r193 : AV, ((Fn Try.prog 6 [x0] (Sh.tup [(Sh.row 3 1 true), Sh.sc]) r193) ∧
((AV.binOk Go.BinOp.neq (AV.prj r193 1) (AV.int 0)) ∧
((AV.isBool (AV.bin Go.BinOp.neq (AV.prj r193 1) (AV.int 0))) ∧
(((isT (AV.bin Go.BinOp.neq (AV.prj r193 1) (AV.int 0))) →
  ((AV.flat (AV.int 0)) ∧
  ((AV.flat (AV.prj r193 1)) ∧
  (fSame (AV.tup [(AV.int 0), (AV.prj r193 1)]) r)))) ∧
((isF (AV.bin Go.BinOp.neq (AV.prj r193 1) (AV.int 0))) →
  ((AV.isSl x0 4) ∧
  (∃ r897 : AV, ((Fn Try.prog 25 [x1, (AV.len x0)] Sh.sc r897) ∧
  ((AV.unOk Go.UnOp.not r897) ∧
  ((AV.isBool (AV.un Go.UnOp.not r897)) ∧
  (((isT (AV.un Go.UnOp.not r897)) →
    ((AV.flat (AV.int 0)) ∧
    ((AV.flat (AV.int 3)) ∧
    (fSame (AV.tup [(AV.int 0), (AV.int 3)]) r)))) ∧
  ((isF (AV.un Go.UnOp.not r897)) →
    (∃ r1153 : AV, ((Fn Try.prog 27 [(AV.prj r193 0), x1] Sh.sc r1153) ∧
    ((AV.flat r1153) ∧
    ((AV.flat (AV.int 0)) ∧
    (fSame (AV.tup [r1153, (AV.int 0)]) r))))))))))))))))))) := by kernel_rfl
theorem best_form (x0 x1 x2 r : AV) : fnF Try.prog Γ ann 3 17 Try.f17 (Try.f17.body.getD .skip) (.nil) [x0, x1, x2] (.tup [.p, .p, .sc]) r = (((AV.isOne x0) ∧
((AV.isAgg x1 16) ∧
((AV.isOne x2) ∧
(∃ r449 : AV, ((Fn Try.prog 6 [x0] (Sh.tup [(Sh.row 3 1 true), Sh.sc]) r449) ∧
((AV.binOk Go.BinOp.neq (AV.prj r449 1) (AV.int 0)) ∧
((AV.isBool (AV.bin Go.BinOp.neq (AV.prj r449 1) (AV.int 0))) ∧
(((isT (AV.bin Go.BinOp.neq (AV.prj r449 1) (AV.int 0))) →
  ((AV.isEmp (AV.mk 1 [])) ∧
  ((AV.isEmp (AV.mk 1 [])) ∧
  ((AV.flat (AV.prj r449 1)) ∧
  (fSame (AV.tup [(AV.mk 1 []), (AV.mk 1 []), (AV.prj r449 1)]) r))))) ∧
((isF (AV.bin Go.BinOp.neq (AV.prj r449 1) (AV.int 0))) →
  (∃ r1089 : AV, ((Fn Try.prog 24 [(AV.agg [(AV.cel x1 0), (AV.cel x1 1), (AV.cel x1 2), (AV.cel x1 3), (AV.cel x1 4), (AV.cel x1 5), (AV.cel x1 6), (AV.cel x1 7), (AV.cel x1 8), (AV.cel x1 9), (AV.cel x1 10), (AV.cel x1 11), (AV.cel x1 12), (AV.cel x1 13), (AV.cel x1 14), (AV.cel x1 15)])] Sh.sc r1089) ∧
  ((AV.binOk Go.BinOp.neq r1089 (AV.int 0)) ∧
  ((AV.isBool (AV.bin Go.BinOp.neq r1089 (AV.int 0))) ∧
  (((isT (AV.bin Go.BinOp.neq r1089 (AV.int 0))) →
    ((AV.isEmp (AV.mk 1 [])) ∧
    ((AV.isEmp (AV.mk 1 [])) ∧
    ((AV.flat r1089) ∧
    (fSame (AV.tup [(AV.mk 1 []), (AV.mk 1 []), r1089]) r))))) ∧
  ((isF (AV.bin Go.BinOp.neq r1089 (AV.int 0))) →
    ((AV.binOk Go.BinOp.lss x2 (AV.int 0)) ∧
    ((AV.isBool (AV.bin Go.BinOp.lss x2 (AV.int 0))) ∧
    (((isT (AV.bin Go.BinOp.lss x2 (AV.int 0))) →
      ((AV.isBool (AV.bin Go.BinOp.lss x2 (AV.int 0))) ∧
      ((isT (AV.bin Go.BinOp.lss x2 (AV.int 0))) ∧
      ((AV.isEmp (AV.mk 1 [])) ∧
      ((AV.isEmp (AV.mk 1 [])) ∧
      ((AV.flat (AV.int 4)) ∧
      (fSame (AV.tup [(AV.mk 1 []), (AV.mk 1 []), (AV.int 4)]) r))))))) ∧
    ((isF (AV.bin Go.BinOp.lss x2 (AV.int 0))) →
      ((AV.binOk Go.BinOp.gtr x2 (AV.int 8)) ∧
      ((AV.isBool (AV.bin Go.BinOp.lss x2 (AV.int 0))) ∧
      ((isF (AV.bin Go.BinOp.lss x2 (AV.int 0))) ∧
      ((AV.isBool (AV.bin Go.BinOp.gtr x2 (AV.int 8))) ∧
      (((isT (AV.bin Go.BinOp.gtr x2 (AV.int 8))) →
        ((AV.isEmp (AV.mk 1 [])) ∧
        ((AV.isEmp (AV.mk 1 [])) ∧
        ((AV.flat (AV.int 4)) ∧
        (fSame (AV.tup [(AV.mk 1 []), (AV.mk 1 []), (AV.int 4)]) r))))) ∧
      ((isF (AV.bin Go.BinOp.gtr x2 (AV.int 8))) →
        ((AV.isSl x0 4) ∧
        ((AV.binOk Go.BinOp.eql (AV.len x0) (AV.int 0)) ∧
        ((AV.isBool (AV.bin Go.BinOp.eql (AV.len x0) (AV.int 0))) ∧
        (((isT (AV.bin Go.BinOp.eql (AV.len x0) (AV.int 0))) →
          ((AV.isEmp (AV.mk 1 [])) ∧
          ((AV.isEmp (AV.mk 1 [])) ∧
          ((AV.flat (AV.int 0)) ∧
          (fSame (AV.tup [(AV.mk 1 []), (AV.mk 1 []), (AV.int 0)]) r))))) ∧
        ((isF (AV.bin Go.BinOp.eql (AV.len x0) (AV.int 0))) →
          ((AV.isSl x0 4) ∧
          ((fEnt Try.prog 33) ∧
          (fAllV fun _ => ((fEnt Try.prog 34) ∧
          (fVis Try.prog 33 [(AV.len x0), (AV.lit (Value.slice none 0 0))] [1] 2561 [(AV.lit (Value.slice none 0 0)), (AV.lit (Value.slice none 0 0)), (AV.int 0), (AV.int 0)] [(fun ws2561 ys2561 again2561 =>
            (fAllV fun _ => (fAllY 2561 fun _ => (fAllV fun _ => (∃ r2881 : AV, ((Fn Try.prog 26 [x0, (ws2561.getD 0 default), (AV.agg [(AV.cel x1 0), (AV.cel x1 1), (AV.cel x1 2), (AV.cel x1 3), (AV.cel x1 4), (AV.cel x1 5), (AV.cel x1 6), (AV.cel x1 7), (AV.cel x1 8), (AV.cel x1 9), (AV.cel x1 10), (AV.cel x1 11), (AV.cel x1 12), (AV.cel x1 13), (AV.cel x1 14), (AV.cel x1 15)])] (Sh.tup [(Sh.row 3 1 true), Sh.sc]) r2881) ∧
            ((AV.unOk Go.UnOp.not (AV.prj r2881 1)) ∧
            ((AV.isBool (AV.un Go.UnOp.not (AV.prj r2881 1))) ∧
            (((isT (AV.un Go.UnOp.not (AV.prj r2881 1))) →
              ((AV.isBool (AV.un Go.UnOp.not (AV.prj r2881 1))) ∧
              ((isT (AV.un Go.UnOp.not (AV.prj r2881 1))) ∧
              (again2561 [(ys2561.getD 0 default), (ys2561.getD 1 default), (ys2561.getD 2 default), (ys2561.getD 3 default)])))) ∧
            ((isF (AV.un Go.UnOp.not (AV.prj r2881 1))) →
              (∃ r3585 : AV, ((Fn Try.prog 27 [(AV.prj r449 0), (ws2561.getD 0 default)] Sh.sc r3585) ∧
              ((AV.binOk Go.BinOp.gtr r3585 x2) ∧
              ((AV.isBool (AV.un Go.UnOp.not (AV.prj r2881 1))) ∧
              ((isF (AV.un Go.UnOp.not (AV.prj r2881 1))) ∧
              ((AV.isBool (AV.bin Go.BinOp.gtr r3585 x2)) ∧
              (((isT (AV.bin Go.BinOp.gtr r3585 x2)) →
                (again2561 [(ys2561.getD 0 default), (ys2561.getD 1 default), (ys2561.getD 2 default), (ys2561.getD 3 default)])) ∧
              ((isF (AV.bin Go.BinOp.gtr r3585 x2)) →
                ((AV.binOk Go.BinOp.sub (AV.len (AV.prj r2881 0)) (AV.int 1)) ∧
                ((AV.inb (AV.prj r2881 0) (AV.bin Go.BinOp.sub (AV.len (AV.prj r2881 0)) (AV.int 1))) ∧
                ((AV.inb (AV.prj r2881 0) (AV.bin Go.BinOp.sub (AV.len (AV.prj r2881 0)) (AV.int 1))) ∧
                ((AV.isSl (ws2561.getD 0 default) 1) ∧
                (fLoop 4545 [(AV.int 0), (AV.int 0)] fun ys4545 again4545 =>
                  ((AV.binOk Go.BinOp.lss (ys4545.getD 1 default) (AV.len (ws2561.getD 0 default))) ∧
                  ((AV.isBool (AV.bin Go.BinOp.lss (ys4545.getD 1 default) (AV.len (ws2561.getD 0 default)))) ∧
                  (((isT (AV.bin Go.BinOp.lss (ys4545.getD 1 default) (AV.len (ws2561.getD 0 default)))) →
                    ((AV.isSl (ws2561.getD 0 default) 1) ∧
                    ((AV.inb (ws2561.getD 0 default) (ys4545.getD 1 default)) ∧
                    ((AV.inb (AV.prj r2881 0) (ys4545.getD 1 default)) ∧
                    ((AV.inb (AV.prj r2881 0) (ys4545.getD 1 default)) ∧
                    ((AV.isSl x0 4) ∧
                    ((AV.inb x0 (AV.at (ws2561.getD 0 default) (ys4545.getD 1 default) 0)) ∧
                    ((AV.binOk Go.BinOp.sub (AV.at (AV.prj r2881 0) (ys4545.getD 1 default) 0) (AV.at x0 (AV.at (ws2561.getD 0 default) (ys4545.getD 1 default) 0) 2)) ∧
                    ((AV.binOk Go.BinOp.add (ys4545.getD 0 default) (AV.bin Go.BinOp.sub (AV.at (AV.prj r2881 0) (ys4545.getD 1 default) 0) (AV.at x0 (AV.at (ws2561.getD 0 default) (ys4545.getD 1 default) 0) 2))) ∧
                    ((AV.binOk Go.BinOp.add (ys4545.getD 1 default) (AV.int 1)) ∧
                    (again4545 [(AV.bin Go.BinOp.add (ys4545.getD 0 default) (AV.bin Go.BinOp.sub (AV.at (AV.prj r2881 0) (ys4545.getD 1 default) 0) (AV.at x0 (AV.at (ws2561.getD 0 default) (ys4545.getD 1 default) 0) 2))), (AV.bin Go.BinOp.add (ys4545.getD 1 default) (AV.int 1))]))))))))))) ∧
                  ((isF (AV.bin Go.BinOp.lss (ys4545.getD 1 default) (AV.len (ws2561.getD 0 default)))) →
                    (fNil (ys2561.getD 0 default)
                      ((AV.isOne (ws2561.getD 0 default)) ∧
                      ((AV.isOne (AV.at (AV.prj r2881 0) (AV.bin Go.BinOp.sub (AV.len (AV.prj r2881 0)) (AV.int 1)) 0)) ∧
                      ((AV.isOne (ys4545.getD 0 default)) ∧
                      (again2561 [(ws2561.getD 0 default), (AV.prj r2881 0), (AV.at (AV.prj r2881 0) (AV.bin Go.BinOp.sub (AV.len (AV.prj r2881 0)) (AV.int 1)) 0), (ys4545.getD 0 default)]))))
                      ((AV.binOk Go.BinOp.lss (AV.at (AV.prj r2881 0) (AV.bin Go.BinOp.sub (AV.len (AV.prj r2881 0)) (AV.int 1)) 0) (ys2561.getD 2 default)) ∧
                      ((AV.isBool (AV.bin Go.BinOp.lss (AV.at (AV.prj r2881 0) (AV.bin Go.BinOp.sub (AV.len (AV.prj r2881 0)) (AV.int 1)) 0) (ys2561.getD 2 default))) ∧
                      (((isT (AV.bin Go.BinOp.lss (AV.at (AV.prj r2881 0) (AV.bin Go.BinOp.sub (AV.len (AV.prj r2881 0)) (AV.int 1)) 0) (ys2561.getD 2 default))) →
                        ((AV.isBool (AV.bin Go.BinOp.lss (AV.at (AV.prj r2881 0) (AV.bin Go.BinOp.sub (AV.len (AV.prj r2881 0)) (AV.int 1)) 0) (ys2561.getD 2 default))) ∧
                        ((isT (AV.bin Go.BinOp.lss (AV.at (AV.prj r2881 0) (AV.bin Go.BinOp.sub (AV.len (AV.prj r2881 0)) (AV.int 1)) 0) (ys2561.getD 2 default))) ∧
                        ((AV.isOne (ws2561.getD 0 default)) ∧
                        ((AV.isOne (AV.at (AV.prj r2881 0) (AV.bin Go.BinOp.sub (AV.len (AV.prj r2881 0)) (AV.int 1)) 0)) ∧
                        ((AV.isOne (ys4545.getD 0 default)) ∧
                        (again2561 [(ws2561.getD 0 default), (AV.prj r2881 0), (AV.at (AV.prj r2881 0) (AV.bin Go.BinOp.sub (AV.len (AV.prj r2881 0)) (AV.int 1)) 0), (ys4545.getD 0 default)]))))))) ∧
                      ((isF (AV.bin Go.BinOp.lss (AV.at (AV.prj r2881 0) (AV.bin Go.BinOp.sub (AV.len (AV.prj r2881 0)) (AV.int 1)) 0) (ys2561.getD 2 default))) →
                        ((AV.binOk Go.BinOp.eql (AV.at (AV.prj r2881 0) (AV.bin Go.BinOp.sub (AV.len (AV.prj r2881 0)) (AV.int 1)) 0) (ys2561.getD 2 default)) ∧
                        ((AV.isBool (AV.bin Go.BinOp.eql (AV.at (AV.prj r2881 0) (AV.bin Go.BinOp.sub (AV.len (AV.prj r2881 0)) (AV.int 1)) 0) (ys2561.getD 2 default))) ∧
                        (((isT (AV.bin Go.BinOp.eql (AV.at (AV.prj r2881 0) (AV.bin Go.BinOp.sub (AV.len (AV.prj r2881 0)) (AV.int 1)) 0) (ys2561.getD 2 default))) →
                          ((AV.binOk Go.BinOp.lss (ys4545.getD 0 default) (ys2561.getD 3 default)) ∧
                          ((AV.isBool (AV.bin Go.BinOp.eql (AV.at (AV.prj r2881 0) (AV.bin Go.BinOp.sub (AV.len (AV.prj r2881 0)) (AV.int 1)) 0) (ys2561.getD 2 default))) ∧
                          ((isT (AV.bin Go.BinOp.eql (AV.at (AV.prj r2881 0) (AV.bin Go.BinOp.sub (AV.len (AV.prj r2881 0)) (AV.int 1)) 0) (ys2561.getD 2 default))) ∧
                          ((AV.isBool (AV.bin Go.BinOp.lss (AV.at (AV.prj r2881 0) (AV.bin Go.BinOp.sub (AV.len (AV.prj r2881 0)) (AV.int 1)) 0) (ys2561.getD 2 default))) ∧
                          ((isF (AV.bin Go.BinOp.lss (AV.at (AV.prj r2881 0) (AV.bin Go.BinOp.sub (AV.len (AV.prj r2881 0)) (AV.int 1)) 0) (ys2561.getD 2 default))) ∧
                          ((AV.isBool (AV.bin Go.BinOp.lss (ys4545.getD 0 default) (ys2561.getD 3 default))) ∧
                          (((isT (AV.bin Go.BinOp.lss (ys4545.getD 0 default) (ys2561.getD 3 default))) →
                            ((AV.isOne (ws2561.getD 0 default)) ∧
                            ((AV.isOne (AV.at (AV.prj r2881 0) (AV.bin Go.BinOp.sub (AV.len (AV.prj r2881 0)) (AV.int 1)) 0)) ∧
                            ((AV.isOne (ys4545.getD 0 default)) ∧
                            (again2561 [(ws2561.getD 0 default), (AV.prj r2881 0), (AV.at (AV.prj r2881 0) (AV.bin Go.BinOp.sub (AV.len (AV.prj r2881 0)) (AV.int 1)) 0), (ys4545.getD 0 default)]))))) ∧
                          ((isF (AV.bin Go.BinOp.lss (ys4545.getD 0 default) (ys2561.getD 3 default))) →
                            (again2561 [(ys2561.getD 0 default), (ys2561.getD 1 default), (ys2561.getD 2 default), (ys2561.getD 3 default)])))))))))) ∧
                        ((isF (AV.bin Go.BinOp.eql (AV.at (AV.prj r2881 0) (AV.bin Go.BinOp.sub (AV.len (AV.prj r2881 0)) (AV.int 1)) 0) (ys2561.getD 2 default))) →
                          ((AV.isBool (AV.bin Go.BinOp.eql (AV.at (AV.prj r2881 0) (AV.bin Go.BinOp.sub (AV.len (AV.prj r2881 0)) (AV.int 1)) 0) (ys2561.getD 2 default))) ∧
                          ((isF (AV.bin Go.BinOp.eql (AV.at (AV.prj r2881 0) (AV.bin Go.BinOp.sub (AV.len (AV.prj r2881 0)) (AV.int 1)) 0) (ys2561.getD 2 default))) ∧
                          ((AV.isBool (AV.bin Go.BinOp.lss (AV.at (AV.prj r2881 0) (AV.bin Go.BinOp.sub (AV.len (AV.prj r2881 0)) (AV.int 1)) 0) (ys2561.getD 2 default))) ∧
                          ((isF (AV.bin Go.BinOp.lss (AV.at (AV.prj r2881 0) (AV.bin Go.BinOp.sub (AV.len (AV.prj r2881 0)) (AV.int 1)) 0) (ys2561.getD 2 default))) ∧
                          (again2561 [(ys2561.getD 0 default), (ys2561.getD 1 default), (ys2561.getD 2 default), (ys2561.getD 3 default)])))))))))))))))))))))))))))))))))))))))))] (fun zs2561 =>
            (fNil (zs2561.getD 0 default)
              ((AV.isEmp (AV.mk 1 [])) ∧
              ((AV.isEmp (AV.mk 1 [])) ∧
              ((AV.flat (AV.int 8)) ∧
              (fSame (AV.tup [(AV.mk 1 []), (AV.mk 1 []), (AV.int 8)]) r))))
              ((AV.flat (AV.int 0)) ∧
              (fSame (AV.tup [(zs2561.getD 0 default), (zs2561.getD 1 default), (AV.int 0)]) r)))))))))))))))))))))))))))))))))))))))) := by kernel_rfl
theorem place_form (x0 x1 r : AV) : fnF Try.prog Γ ann 3 11 Try.f11 (Try.f11.body.getD .skip) (.nil) [x0, x1] (.sc) r = (((AV.isSl x0 4) ∧
(fLoop 321 [(AV.int 0), (AV.int 0)] fun ys321 again321 =>
  ((AV.binOk Go.BinOp.lss (ys321.getD 1 default) (AV.len x0)) ∧
  ((AV.isBool (AV.bin Go.BinOp.lss (ys321.getD 1 default) (AV.len x0))) ∧
  (((isT (AV.bin Go.BinOp.lss (ys321.getD 1 default) (AV.len x0))) →
    ((AV.isSl x0 4) ∧
    ((AV.inb x0 (ys321.getD 1 default)) ∧
    ((AV.isAgg (AV.atAgg x0 (ys321.getD 1 default) 0 4) 4) ∧
    ((AV.isSl x0 4) ∧
    ((AV.inb x0 x1) ∧
    ((AV.binOk Go.BinOp.lss (AV.cel (AV.atAgg x0 (ys321.getD 1 default) 0 4) 2) (AV.at x0 x1 2)) ∧
    ((AV.isBool (AV.bin Go.BinOp.lss (AV.cel (AV.atAgg x0 (ys321.getD 1 default) 0 4) 2) (AV.at x0 x1 2))) ∧
    (((isT (AV.bin Go.BinOp.lss (AV.cel (AV.atAgg x0 (ys321.getD 1 default) 0 4) 2) (AV.at x0 x1 2))) →
      ((AV.isBool (AV.bin Go.BinOp.lss (AV.cel (AV.atAgg x0 (ys321.getD 1 default) 0 4) 2) (AV.at x0 x1 2))) ∧
      ((isT (AV.bin Go.BinOp.lss (AV.cel (AV.atAgg x0 (ys321.getD 1 default) 0 4) 2) (AV.at x0 x1 2))) ∧
      ((AV.binOk Go.BinOp.add (ys321.getD 0 default) (AV.int 1)) ∧
      ((AV.binOk Go.BinOp.add (ys321.getD 1 default) (AV.int 1)) ∧
      (again321 [(AV.bin Go.BinOp.add (ys321.getD 0 default) (AV.int 1)), (AV.bin Go.BinOp.add (ys321.getD 1 default) (AV.int 1))])))))) ∧
    ((isF (AV.bin Go.BinOp.lss (AV.cel (AV.atAgg x0 (ys321.getD 1 default) 0 4) 2) (AV.at x0 x1 2))) →
      ((AV.isSl x0 4) ∧
      ((AV.inb x0 x1) ∧
      ((AV.binOk Go.BinOp.eql (AV.cel (AV.atAgg x0 (ys321.getD 1 default) 0 4) 2) (AV.at x0 x1 2)) ∧
      ((AV.isBool (AV.bin Go.BinOp.eql (AV.cel (AV.atAgg x0 (ys321.getD 1 default) 0 4) 2) (AV.at x0 x1 2))) ∧
      (((isT (AV.bin Go.BinOp.eql (AV.cel (AV.atAgg x0 (ys321.getD 1 default) 0 4) 2) (AV.at x0 x1 2))) →
        ((AV.isSl x0 4) ∧
        ((AV.inb x0 x1) ∧
        ((AV.binOk Go.BinOp.lss (AV.cel (AV.atAgg x0 (ys321.getD 1 default) 0 4) 0) (AV.at x0 x1 0)) ∧
        ((AV.isBool (AV.bin Go.BinOp.eql (AV.cel (AV.atAgg x0 (ys321.getD 1 default) 0 4) 2) (AV.at x0 x1 2))) ∧
        ((isT (AV.bin Go.BinOp.eql (AV.cel (AV.atAgg x0 (ys321.getD 1 default) 0 4) 2) (AV.at x0 x1 2))) ∧
        ((AV.isBool (AV.bin Go.BinOp.lss (AV.cel (AV.atAgg x0 (ys321.getD 1 default) 0 4) 2) (AV.at x0 x1 2))) ∧
        ((isF (AV.bin Go.BinOp.lss (AV.cel (AV.atAgg x0 (ys321.getD 1 default) 0 4) 2) (AV.at x0 x1 2))) ∧
        ((AV.isBool (AV.bin Go.BinOp.lss (AV.cel (AV.atAgg x0 (ys321.getD 1 default) 0 4) 0) (AV.at x0 x1 0))) ∧
        (((isT (AV.bin Go.BinOp.lss (AV.cel (AV.atAgg x0 (ys321.getD 1 default) 0 4) 0) (AV.at x0 x1 0))) →
          ((AV.binOk Go.BinOp.add (ys321.getD 0 default) (AV.int 1)) ∧
          ((AV.binOk Go.BinOp.add (ys321.getD 1 default) (AV.int 1)) ∧
          (again321 [(AV.bin Go.BinOp.add (ys321.getD 0 default) (AV.int 1)), (AV.bin Go.BinOp.add (ys321.getD 1 default) (AV.int 1))])))) ∧
        ((isF (AV.bin Go.BinOp.lss (AV.cel (AV.atAgg x0 (ys321.getD 1 default) 0 4) 0) (AV.at x0 x1 0))) →
          ((AV.binOk Go.BinOp.add (ys321.getD 1 default) (AV.int 1)) ∧
          (again321 [(ys321.getD 0 default), (AV.bin Go.BinOp.add (ys321.getD 1 default) (AV.int 1))]))))))))))))) ∧
      ((isF (AV.bin Go.BinOp.eql (AV.cel (AV.atAgg x0 (ys321.getD 1 default) 0 4) 2) (AV.at x0 x1 2))) →
        ((AV.isBool (AV.bin Go.BinOp.eql (AV.cel (AV.atAgg x0 (ys321.getD 1 default) 0 4) 2) (AV.at x0 x1 2))) ∧
        ((isF (AV.bin Go.BinOp.eql (AV.cel (AV.atAgg x0 (ys321.getD 1 default) 0 4) 2) (AV.at x0 x1 2))) ∧
        ((AV.isBool (AV.bin Go.BinOp.lss (AV.cel (AV.atAgg x0 (ys321.getD 1 default) 0 4) 2) (AV.at x0 x1 2))) ∧
        ((isF (AV.bin Go.BinOp.lss (AV.cel (AV.atAgg x0 (ys321.getD 1 default) 0 4) 2) (AV.at x0 x1 2))) ∧
        ((AV.binOk Go.BinOp.add (ys321.getD 1 default) (AV.int 1)) ∧
        (again321 [(ys321.getD 0 default), (AV.bin Go.BinOp.add (ys321.getD 1 default) (AV.int 1))])))))))))))))))))))))) ∧
  ((isF (AV.bin Go.BinOp.lss (ys321.getD 1 default) (AV.len x0))) →
    ((AV.flat (ys321.getD 0 default)) ∧
    (fSame (ys321.getD 0 default) r))))))))) := by kernel_rfl
theorem risord_form (x0 x1 r : AV) : fnF Try.prog Γ ann 3 12 Try.f12 (Try.f12.body.getD .skip) (.nil) [x0, x1] (.sc) r = (((AV.isSl x0 1) ∧
((AV.binOk Go.BinOp.neq (AV.len x0) x1) ∧
((AV.isBool (AV.bin Go.BinOp.neq (AV.len x0) x1)) ∧
(((isT (AV.bin Go.BinOp.neq (AV.len x0) x1)) →
  ((AV.flat (AV.bool false)) ∧
  (fSame (AV.bool false) r))) ∧
((isF (AV.bin Go.BinOp.neq (AV.len x0) x1)) →
  (fLoop 449 [(AV.int 0)] fun ys449 again449 =>
    ((AV.binOk Go.BinOp.lss (ys449.getD 0 default) x1) ∧
    ((AV.isBool (AV.bin Go.BinOp.lss (ys449.getD 0 default) x1)) ∧
    (((isT (AV.bin Go.BinOp.lss (ys449.getD 0 default) x1)) →
      ((AV.isSl x0 1) ∧
      (fLoop 897 [(AV.int 0), (AV.int 0)] fun ys897 again897 =>
        ((AV.binOk Go.BinOp.lss (ys897.getD 1 default) (AV.len x0)) ∧
        ((AV.isBool (AV.bin Go.BinOp.lss (ys897.getD 1 default) (AV.len x0))) ∧
        (((isT (AV.bin Go.BinOp.lss (ys897.getD 1 default) (AV.len x0))) →
          ((AV.isSl x0 1) ∧
          ((AV.inb x0 (ys897.getD 1 default)) ∧
          ((AV.binOk Go.BinOp.eql (AV.at x0 (ys897.getD 1 default) 0) (ys449.getD 0 default)) ∧
          ((AV.isBool (AV.bin Go.BinOp.eql (AV.at x0 (ys897.getD 1 default) 0) (ys449.getD 0 default))) ∧
          (((isT (AV.bin Go.BinOp.eql (AV.at x0 (ys897.getD 1 default) 0) (ys449.getD 0 default))) →
            ((AV.binOk Go.BinOp.add (ys897.getD 0 default) (AV.int 1)) ∧
            ((AV.binOk Go.BinOp.add (ys897.getD 1 default) (AV.int 1)) ∧
            (again897 [(AV.bin Go.BinOp.add (ys897.getD 0 default) (AV.int 1)), (AV.bin Go.BinOp.add (ys897.getD 1 default) (AV.int 1))])))) ∧
          ((isF (AV.bin Go.BinOp.eql (AV.at x0 (ys897.getD 1 default) 0) (ys449.getD 0 default))) →
            ((AV.binOk Go.BinOp.add (ys897.getD 1 default) (AV.int 1)) ∧
            (again897 [(ys897.getD 0 default), (AV.bin Go.BinOp.add (ys897.getD 1 default) (AV.int 1))]))))))))) ∧
        ((isF (AV.bin Go.BinOp.lss (ys897.getD 1 default) (AV.len x0))) →
          ((AV.binOk Go.BinOp.neq (ys897.getD 0 default) (AV.int 1)) ∧
          ((AV.isBool (AV.bin Go.BinOp.neq (ys897.getD 0 default) (AV.int 1))) ∧
          (((isT (AV.bin Go.BinOp.neq (ys897.getD 0 default) (AV.int 1))) →
            ((AV.flat (AV.bool false)) ∧
            (fSame (AV.bool false) r))) ∧
          ((isF (AV.bin Go.BinOp.neq (ys897.getD 0 default) (AV.int 1))) →
            ((AV.binOk Go.BinOp.add (ys449.getD 0 default) (AV.int 1)) ∧
            (again449 [(AV.bin Go.BinOp.add (ys449.getD 0 default) (AV.int 1))]))))))))))))) ∧
    ((isF (AV.bin Go.BinOp.lss (ys449.getD 0 default) x1)) →
      ((AV.flat (AV.bool true)) ∧
      (fSame (AV.bool true) r))))))))))))) := by kernel_rfl
theorem land_form (x0 x1 x2 r : AV) : fnF Try.prog Γ ann 3 15 Try.f15 (Try.f15.body.getD .skip) (.nil) [x0, x1, x2] (.tup [.row 3 1 true, .sc]) r = (((AV.isAgg x2 16) ∧
((AV.isSl x1 1) ∧
(fLoop 513 [(AV.bool true), (AV.int 0), (AV.mk 1 [])] fun ys513 again513 =>
  ((AV.binOk Go.BinOp.lss (ys513.getD 1 default) (AV.len x1)) ∧
  ((AV.isBool (AV.bin Go.BinOp.lss (ys513.getD 1 default) (AV.len x1))) ∧
  (((isT (AV.bin Go.BinOp.lss (ys513.getD 1 default) (AV.len x1))) →
    ((AV.isSl x1 1) ∧
    ((AV.inb x1 (ys513.getD 1 default)) ∧
    ((AV.isSl x0 4) ∧
    ((AV.inb x0 (AV.at x1 (ys513.getD 1 default) 0)) ∧
    (fLoop 1345 [(AV.at x0 (AV.at x1 (ys513.getD 1 default) 0) 2), (AV.int 0)] fun ys1345 again1345 =>
      ((AV.binOk Go.BinOp.lss (ys1345.getD 1 default) (ys513.getD 1 default)) ∧
      ((AV.isBool (AV.bin Go.BinOp.lss (ys1345.getD 1 default) (ys513.getD 1 default))) ∧
      (((isT (AV.bin Go.BinOp.lss (ys1345.getD 1 default) (ys513.getD 1 default))) →
        ((AV.inb (ys513.getD 2 default) (ys1345.getD 1 default)) ∧
        ((AV.inb (ys513.getD 2 default) (ys1345.getD 1 default)) ∧
        ((AV.isSl x1 1) ∧
        ((AV.inb x1 (ys1345.getD 1 default)) ∧
        ((AV.isSl x0 4) ∧
        ((AV.inb x0 (AV.at x1 (ys1345.getD 1 default) 0)) ∧
        ((AV.isSl x0 4) ∧
        ((AV.inb x0 (AV.at x1 (ys513.getD 1 default) 0)) ∧
        ((AV.inl 4 (AV.at x0 (AV.at x1 (ys1345.getD 1 default) 0) 1)) ∧
        ((AV.inl 4 (AV.at x0 (AV.at x1 (ys513.getD 1 default) 0) 1)) ∧
        ((AV.nthOk 16 0 [((AV.at x0 (AV.at x1 (ys513.getD 1 default) 0) 1), 1), ((AV.at x0 (AV.at x1 (ys1345.getD 1 default) 0) 1), 4)]) ∧
        ((AV.binOk Go.BinOp.add (AV.at (ys513.getD 2 default) (ys1345.getD 1 default) 0) (AV.nth [(AV.cel x2 0), (AV.cel x2 1), (AV.cel x2 2), (AV.cel x2 3), (AV.cel x2 4), (AV.cel x2 5), (AV.cel x2 6), (AV.cel x2 7), (AV.cel x2 8), (AV.cel x2 9), (AV.cel x2 10), (AV.cel x2 11), (AV.cel x2 12), (AV.cel x2 13), (AV.cel x2 14), (AV.cel x2 15)] 0 [((AV.at x0 (AV.at x1 (ys513.getD 1 default) 0) 1), 1), ((AV.at x0 (AV.at x1 (ys1345.getD 1 default) 0) 1), 4)])) ∧
        ((AV.binOk Go.BinOp.gtr (AV.bin Go.BinOp.add (AV.at (ys513.getD 2 default) (ys1345.getD 1 default) 0) (AV.nth [(AV.cel x2 0), (AV.cel x2 1), (AV.cel x2 2), (AV.cel x2 3), (AV.cel x2 4), (AV.cel x2 5), (AV.cel x2 6), (AV.cel x2 7), (AV.cel x2 8), (AV.cel x2 9), (AV.cel x2 10), (AV.cel x2 11), (AV.cel x2 12), (AV.cel x2 13), (AV.cel x2 14), (AV.cel x2 15)] 0 [((AV.at x0 (AV.at x1 (ys513.getD 1 default) 0) 1), 1), ((AV.at x0 (AV.at x1 (ys1345.getD 1 default) 0) 1), 4)])) (ys1345.getD 0 default)) ∧
        ((AV.isBool (AV.bin Go.BinOp.gtr (AV.bin Go.BinOp.add (AV.at (ys513.getD 2 default) (ys1345.getD 1 default) 0) (AV.nth [(AV.cel x2 0), (AV.cel x2 1), (AV.cel x2 2), (AV.cel x2 3), (AV.cel x2 4), (AV.cel x2 5), (AV.cel x2 6), (AV.cel x2 7), (AV.cel x2 8), (AV.cel x2 9), (AV.cel x2 10), (AV.cel x2 11), (AV.cel x2 12), (AV.cel x2 13), (AV.cel x2 14), (AV.cel x2 15)] 0 [((AV.at x0 (AV.at x1 (ys513.getD 1 default) 0) 1), 1), ((AV.at x0 (AV.at x1 (ys1345.getD 1 default) 0) 1), 4)])) (ys1345.getD 0 default))) ∧
        (((isT (AV.bin Go.BinOp.gtr (AV.bin Go.BinOp.add (AV.at (ys513.getD 2 default) (ys1345.getD 1 default) 0) (AV.nth [(AV.cel x2 0), (AV.cel x2 1), (AV.cel x2 2), (AV.cel x2 3), (AV.cel x2 4), (AV.cel x2 5), (AV.cel x2 6), (AV.cel x2 7), (AV.cel x2 8), (AV.cel x2 9), (AV.cel x2 10), (AV.cel x2 11), (AV.cel x2 12), (AV.cel x2 13), (AV.cel x2 14), (AV.cel x2 15)] 0 [((AV.at x0 (AV.at x1 (ys513.getD 1 default) 0) 1), 1), ((AV.at x0 (AV.at x1 (ys1345.getD 1 default) 0) 1), 4)])) (ys1345.getD 0 default))) →
          ((AV.binOk Go.BinOp.add (ys1345.getD 1 default) (AV.int 1)) ∧
          (again1345 [(AV.bin Go.BinOp.add (AV.at (ys513.getD 2 default) (ys1345.getD 1 default) 0) (AV.nth [(AV.cel x2 0), (AV.cel x2 1), (AV.cel x2 2), (AV.cel x2 3), (AV.cel x2 4), (AV.cel x2 5), (AV.cel x2 6), (AV.cel x2 7), (AV.cel x2 8), (AV.cel x2 9), (AV.cel x2 10), (AV.cel x2 11), (AV.cel x2 12), (AV.cel x2 13), (AV.cel x2 14), (AV.cel x2 15)] 0 [((AV.at x0 (AV.at x1 (ys513.getD 1 default) 0) 1), 1), ((AV.at x0 (AV.at x1 (ys1345.getD 1 default) 0) 1), 4)])), (AV.bin Go.BinOp.add (ys1345.getD 1 default) (AV.int 1))]))) ∧
        ((isF (AV.bin Go.BinOp.gtr (AV.bin Go.BinOp.add (AV.at (ys513.getD 2 default) (ys1345.getD 1 default) 0) (AV.nth [(AV.cel x2 0), (AV.cel x2 1), (AV.cel x2 2), (AV.cel x2 3), (AV.cel x2 4), (AV.cel x2 5), (AV.cel x2 6), (AV.cel x2 7), (AV.cel x2 8), (AV.cel x2 9), (AV.cel x2 10), (AV.cel x2 11), (AV.cel x2 12), (AV.cel x2 13), (AV.cel x2 14), (AV.cel x2 15)] 0 [((AV.at x0 (AV.at x1 (ys513.getD 1 default) 0) 1), 1), ((AV.at x0 (AV.at x1 (ys1345.getD 1 default) 0) 1), 4)])) (ys1345.getD 0 default))) →
          ((AV.binOk Go.BinOp.add (ys1345.getD 1 default) (AV.int 1)) ∧
          (again1345 [(ys1345.getD 0 default), (AV.bin Go.BinOp.add (ys1345.getD 1 default) (AV.int 1))]))))))))))))))))))) ∧
      ((isF (AV.bin Go.BinOp.lss (ys1345.getD 1 default) (ys513.getD 1 default))) →
        ((AV.isBool (ys513.getD 0 default)) ∧
        (((isT (ys513.getD 0 default)) →
          ((AV.isSl x0 4) ∧
          ((AV.inb x0 (AV.at x1 (ys513.getD 1 default) 0)) ∧
          ((AV.binOk Go.BinOp.leq (ys1345.getD 0 default) (AV.at x0 (AV.at x1 (ys513.getD 1 default) 0) 3)) ∧
          ((AV.isBool (ys513.getD 0 default)) ∧
          ((isT (ys513.getD 0 default)) ∧
          ((AV.isOne (ys1345.getD 0 default)) ∧
          ((AV.room (ys513.getD 2 default) (AV.mk 1 [[(ys1345.getD 0 default)]]) 8) ∧
          ((AV.binOk Go.BinOp.add (ys513.getD 1 default) (AV.int 1)) ∧
          (again513 [(AV.bin Go.BinOp.leq (ys1345.getD 0 default) (AV.at x0 (AV.at x1 (ys513.getD 1 default) 0) 3)), (AV.bin Go.BinOp.add (ys513.getD 1 default) (AV.int 1)), (AV.app 1 (ys513.getD 2 default) (AV.mk 1 [[(ys1345.getD 0 default)]]))])))))))))) ∧
        ((isF (ys513.getD 0 default)) →
          ((AV.isBool (ys513.getD 0 default)) ∧
          ((isF (ys513.getD 0 default)) ∧
          ((AV.isOne (ys1345.getD 0 default)) ∧
          ((AV.room (ys513.getD 2 default) (AV.mk 1 [[(ys1345.getD 0 default)]]) 8) ∧
          ((AV.binOk Go.BinOp.add (ys513.getD 1 default) (AV.int 1)) ∧
          (again513 [(AV.bool false), (AV.bin Go.BinOp.add (ys513.getD 1 default) (AV.int 1)), (AV.app 1 (ys513.getD 2 default) (AV.mk 1 [[(ys1345.getD 0 default)]]))]))))))))))))))))))) ∧
  ((isF (AV.bin Go.BinOp.lss (ys513.getD 1 default) (AV.len x1))) →
    ((AV.flatS (ys513.getD 2 default)) ∧
    ((AV.flat (ys513.getD 0 default)) ∧
    (fSame (AV.tup [(ys513.getD 2 default), (ys513.getD 0 default)]) r))))))))))) := by kernel_rfl
theorem shifted_form (x0 x1 r : AV) : fnF Try.prog Γ ann 3 13 Try.f13 (Try.f13.body.getD .skip) (.nil) [x0, x1] (.sc) r = (((AV.isSl x1 1) ∧
(fLoop 321 [(AV.int 0), (AV.int 0)] fun ys321 again321 =>
  ((AV.binOk Go.BinOp.lss (ys321.getD 1 default) (AV.len x1)) ∧
  ((AV.isBool (AV.bin Go.BinOp.lss (ys321.getD 1 default) (AV.len x1))) ∧
  (((isT (AV.bin Go.BinOp.lss (ys321.getD 1 default) (AV.len x1))) →
    ((AV.isSl x1 1) ∧
    ((AV.inb x1 (ys321.getD 1 default)) ∧
    (∃ r897 : AV, ((Fn Try.prog 11 [x0, (AV.at x1 (ys321.getD 1 default) 0)] Sh.sc r897) ∧
    ((AV.binOk Go.BinOp.sub (ys321.getD 1 default) r897) ∧
    ((AV.binOk Go.BinOp.lss (AV.bin Go.BinOp.sub (ys321.getD 1 default) r897) (AV.int 0)) ∧
    ((AV.isBool (AV.bin Go.BinOp.lss (AV.bin Go.BinOp.sub (ys321.getD 1 default) r897) (AV.int 0))) ∧
    (((isT (AV.bin Go.BinOp.lss (AV.bin Go.BinOp.sub (ys321.getD 1 default) r897) (AV.int 0))) →
      ((AV.unOk Go.UnOp.neg (AV.bin Go.BinOp.sub (ys321.getD 1 default) r897)) ∧
      ((AV.binOk Go.BinOp.gtr (AV.un Go.UnOp.neg (AV.bin Go.BinOp.sub (ys321.getD 1 default) r897)) (ys321.getD 0 default)) ∧
      ((AV.isBool (AV.bin Go.BinOp.gtr (AV.un Go.UnOp.neg (AV.bin Go.BinOp.sub (ys321.getD 1 default) r897)) (ys321.getD 0 default))) ∧
      (((isT (AV.bin Go.BinOp.gtr (AV.un Go.UnOp.neg (AV.bin Go.BinOp.sub (ys321.getD 1 default) r897)) (ys321.getD 0 default))) →
        ((AV.binOk Go.BinOp.add (ys321.getD 1 default) (AV.int 1)) ∧
        (again321 [(AV.un Go.UnOp.neg (AV.bin Go.BinOp.sub (ys321.getD 1 default) r897)), (AV.bin Go.BinOp.add (ys321.getD 1 default) (AV.int 1))]))) ∧
      ((isF (AV.bin Go.BinOp.gtr (AV.un Go.UnOp.neg (AV.bin Go.BinOp.sub (ys321.getD 1 default) r897)) (ys321.getD 0 default))) →
        ((AV.binOk Go.BinOp.add (ys321.getD 1 default) (AV.int 1)) ∧
        (again321 [(ys321.getD 0 default), (AV.bin Go.BinOp.add (ys321.getD 1 default) (AV.int 1))])))))))) ∧
    ((isF (AV.bin Go.BinOp.lss (AV.bin Go.BinOp.sub (ys321.getD 1 default) r897) (AV.int 0))) →
      ((AV.binOk Go.BinOp.gtr (AV.bin Go.BinOp.sub (ys321.getD 1 default) r897) (ys321.getD 0 default)) ∧
      ((AV.isBool (AV.bin Go.BinOp.gtr (AV.bin Go.BinOp.sub (ys321.getD 1 default) r897) (ys321.getD 0 default))) ∧
      (((isT (AV.bin Go.BinOp.gtr (AV.bin Go.BinOp.sub (ys321.getD 1 default) r897) (ys321.getD 0 default))) →
        ((AV.binOk Go.BinOp.add (ys321.getD 1 default) (AV.int 1)) ∧
        (again321 [(AV.bin Go.BinOp.sub (ys321.getD 1 default) r897), (AV.bin Go.BinOp.add (ys321.getD 1 default) (AV.int 1))]))) ∧
      ((isF (AV.bin Go.BinOp.gtr (AV.bin Go.BinOp.sub (ys321.getD 1 default) r897) (ys321.getD 0 default))) →
        ((AV.binOk Go.BinOp.add (ys321.getD 1 default) (AV.int 1)) ∧
        (again321 [(ys321.getD 0 default), (AV.bin Go.BinOp.add (ys321.getD 1 default) (AV.int 1))])))))))))))))))) ∧
  ((isF (AV.bin Go.BinOp.lss (ys321.getD 1 default) (AV.len x1))) →
    ((AV.flat (ys321.getD 0 default)) ∧
    (fSame (ys321.getD 0 default) r))))))))) := by kernel_rfl
theorem border_form (x0 x1 x2 r : AV) : fnF Try.prog Γ ann 3 18 Try.f18 (Try.f18.body.getD .skip) (.nil) [x0, x1, x2] (.tup [.p, .sc]) r = (((AV.isOne x0) ∧
((AV.isAgg x1 16) ∧
((AV.isOne x2) ∧
((AV.isSl x0 4) ∧
((fEnt Try.prog 35) ∧
(fAllV fun _ => ((fEnt Try.prog 36) ∧
(fVis Try.prog 35 [(AV.len x0), (AV.lit (Value.slice none 0 0))] [1] 897 [(AV.lit (Value.slice none 0 0)), (AV.int (-1)), (AV.int 0)] [(fun ws897 ys897 again897 =>
  (fAllV fun _ => (fAllY 897 fun _ => (fAllV fun _ => (∃ r1217 : AV, ((Fn Try.prog 15 [x0, (ws897.getD 0 default), (AV.agg [(AV.cel x1 0), (AV.cel x1 1), (AV.cel x1 2), (AV.cel x1 3), (AV.cel x1 4), (AV.cel x1 5), (AV.cel x1 6), (AV.cel x1 7), (AV.cel x1 8), (AV.cel x1 9), (AV.cel x1 10), (AV.cel x1 11), (AV.cel x1 12), (AV.cel x1 13), (AV.cel x1 14), (AV.cel x1 15)])] (Sh.tup [(Sh.row 3 1 true), Sh.sc]) r1217) ∧
  ((AV.unOk Go.UnOp.not (AV.prj r1217 1)) ∧
  ((AV.isBool (AV.un Go.UnOp.not (AV.prj r1217 1))) ∧
  (((isT (AV.un Go.UnOp.not (AV.prj r1217 1))) →
    ((AV.isBool (AV.un Go.UnOp.not (AV.prj r1217 1))) ∧
    ((isT (AV.un Go.UnOp.not (AV.prj r1217 1))) ∧
    (again897 [(ys897.getD 0 default), (ys897.getD 1 default), (ys897.getD 2 default)])))) ∧
  ((isF (AV.un Go.UnOp.not (AV.prj r1217 1))) →
    (∃ r1921 : AV, ((Fn Try.prog 13 [x0, (ws897.getD 0 default)] Sh.sc r1921) ∧
    ((AV.binOk Go.BinOp.gtr r1921 x2) ∧
    ((AV.isBool (AV.un Go.UnOp.not (AV.prj r1217 1))) ∧
    ((isF (AV.un Go.UnOp.not (AV.prj r1217 1))) ∧
    ((AV.isBool (AV.bin Go.BinOp.gtr r1921 x2)) ∧
    (((isT (AV.bin Go.BinOp.gtr r1921 x2)) →
      (again897 [(ys897.getD 0 default), (ys897.getD 1 default), (ys897.getD 2 default)])) ∧
    ((isF (AV.bin Go.BinOp.gtr r1921 x2)) →
      ((AV.isSl (ws897.getD 0 default) 1) ∧
      (fLoop 2497 [(AV.int 0), (AV.int 0), (AV.int 0)] fun ys2497 again2497 =>
        ((AV.binOk Go.BinOp.lss (ys2497.getD 2 default) (AV.len (ws897.getD 0 default))) ∧
        ((AV.isBool (AV.bin Go.BinOp.lss (ys2497.getD 2 default) (AV.len (ws897.getD 0 default)))) ∧
        (((isT (AV.bin Go.BinOp.lss (ys2497.getD 2 default) (AV.len (ws897.getD 0 default)))) →
          ((AV.isSl (ws897.getD 0 default) 1) ∧
          ((AV.inb (ws897.getD 0 default) (ys2497.getD 2 default)) ∧
          ((AV.inb (AV.prj r1217 0) (ys2497.getD 2 default)) ∧
          ((AV.inb (AV.prj r1217 0) (ys2497.getD 2 default)) ∧
          ((AV.isSl x0 4) ∧
          ((AV.inb x0 (AV.at (ws897.getD 0 default) (ys2497.getD 2 default) 0)) ∧
          ((AV.binOk Go.BinOp.sub (AV.at (AV.prj r1217 0) (ys2497.getD 2 default) 0) (AV.at x0 (AV.at (ws897.getD 0 default) (ys2497.getD 2 default) 0) 2)) ∧
          ((AV.binOk Go.BinOp.add (ys2497.getD 0 default) (AV.bin Go.BinOp.sub (AV.at (AV.prj r1217 0) (ys2497.getD 2 default) 0) (AV.at x0 (AV.at (ws897.getD 0 default) (ys2497.getD 2 default) 0) 2))) ∧
          ((AV.inb (AV.prj r1217 0) (ys2497.getD 2 default)) ∧
          ((AV.inb (AV.prj r1217 0) (ys2497.getD 2 default)) ∧
          ((AV.binOk Go.BinOp.add (ys2497.getD 2 default) (AV.int 1)) ∧
          (again2497 [(AV.bin Go.BinOp.add (ys2497.getD 0 default) (AV.bin Go.BinOp.sub (AV.at (AV.prj r1217 0) (ys2497.getD 2 default) 0) (AV.at x0 (AV.at (ws897.getD 0 default) (ys2497.getD 2 default) 0) 2))), (AV.at (AV.prj r1217 0) (ys2497.getD 2 default) 0), (AV.bin Go.BinOp.add (ys2497.getD 2 default) (AV.int 1))]))))))))))))) ∧
        ((isF (AV.bin Go.BinOp.lss (ys2497.getD 2 default) (AV.len (ws897.getD 0 default)))) →
          ((AV.binOk Go.BinOp.lss (ys897.getD 1 default) (AV.int 0)) ∧
          ((AV.isBool (AV.bin Go.BinOp.lss (ys897.getD 1 default) (AV.int 0))) ∧
          (((isT (AV.bin Go.BinOp.lss (ys897.getD 1 default) (AV.int 0))) →
            ((AV.isBool (AV.bin Go.BinOp.lss (ys897.getD 1 default) (AV.int 0))) ∧
            ((isT (AV.bin Go.BinOp.lss (ys897.getD 1 default) (AV.int 0))) ∧
            ((AV.isSl (ws897.getD 0 default) 1) ∧
            ((AV.room (AV.mk 1 []) (ws897.getD 0 default) 8) ∧
            ((AV.isOne (ys2497.getD 1 default)) ∧
            ((AV.isOne (ys2497.getD 0 default)) ∧
            (again897 [(AV.app 1 (AV.mk 1 []) (ws897.getD 0 default)), (ys2497.getD 1 default), (ys2497.getD 0 default)])))))))) ∧
          ((isF (AV.bin Go.BinOp.lss (ys897.getD 1 default) (AV.int 0))) →
            ((AV.binOk Go.BinOp.lss (ys2497.getD 1 default) (ys897.getD 1 default)) ∧
            ((AV.isBool (AV.bin Go.BinOp.lss (ys897.getD 1 default) (AV.int 0))) ∧
            ((isF (AV.bin Go.BinOp.lss (ys897.getD 1 default) (AV.int 0))) ∧
            ((AV.isBool (AV.bin Go.BinOp.lss (ys2497.getD 1 default) (ys897.getD 1 default))) ∧
            (((isT (AV.bin Go.BinOp.lss (ys2497.getD 1 default) (ys897.getD 1 default))) →
              ((AV.isBool (AV.bin Go.BinOp.lss (ys2497.getD 1 default) (ys897.getD 1 default))) ∧
              ((isT (AV.bin Go.BinOp.lss (ys2497.getD 1 default) (ys897.getD 1 default))) ∧
              ((AV.isSl (ws897.getD 0 default) 1) ∧
              ((AV.room (AV.mk 1 []) (ws897.getD 0 default) 8) ∧
              ((AV.isOne (ys2497.getD 1 default)) ∧
              ((AV.isOne (ys2497.getD 0 default)) ∧
              (again897 [(AV.app 1 (AV.mk 1 []) (ws897.getD 0 default)), (ys2497.getD 1 default), (ys2497.getD 0 default)])))))))) ∧
            ((isF (AV.bin Go.BinOp.lss (ys2497.getD 1 default) (ys897.getD 1 default))) →
              ((AV.binOk Go.BinOp.eql (ys2497.getD 1 default) (ys897.getD 1 default)) ∧
              ((AV.isBool (AV.bin Go.BinOp.eql (ys2497.getD 1 default) (ys897.getD 1 default))) ∧
              (((isT (AV.bin Go.BinOp.eql (ys2497.getD 1 default) (ys897.getD 1 default))) →
                ((AV.binOk Go.BinOp.lss (ys2497.getD 0 default) (ys897.getD 2 default)) ∧
                ((AV.isBool (AV.bin Go.BinOp.eql (ys2497.getD 1 default) (ys897.getD 1 default))) ∧
                ((isT (AV.bin Go.BinOp.eql (ys2497.getD 1 default) (ys897.getD 1 default))) ∧
                ((AV.isBool (AV.bin Go.BinOp.lss (ys2497.getD 1 default) (ys897.getD 1 default))) ∧
                ((isF (AV.bin Go.BinOp.lss (ys2497.getD 1 default) (ys897.getD 1 default))) ∧
                ((AV.isBool (AV.bin Go.BinOp.lss (ys2497.getD 0 default) (ys897.getD 2 default))) ∧
                (((isT (AV.bin Go.BinOp.lss (ys2497.getD 0 default) (ys897.getD 2 default))) →
                  ((AV.isSl (ws897.getD 0 default) 1) ∧
                  ((AV.room (AV.mk 1 []) (ws897.getD 0 default) 8) ∧
                  ((AV.isOne (ys2497.getD 1 default)) ∧
                  ((AV.isOne (ys2497.getD 0 default)) ∧
                  (again897 [(AV.app 1 (AV.mk 1 []) (ws897.getD 0 default)), (ys2497.getD 1 default), (ys2497.getD 0 default)])))))) ∧
                ((isF (AV.bin Go.BinOp.lss (ys2497.getD 0 default) (ys897.getD 2 default))) →
                  (again897 [(ys897.getD 0 default), (ys897.getD 1 default), (ys897.getD 2 default)])))))))))) ∧
              ((isF (AV.bin Go.BinOp.eql (ys2497.getD 1 default) (ys897.getD 1 default))) →
                ((AV.isBool (AV.bin Go.BinOp.eql (ys2497.getD 1 default) (ys897.getD 1 default))) ∧
                ((isF (AV.bin Go.BinOp.eql (ys2497.getD 1 default) (ys897.getD 1 default))) ∧
                ((AV.isBool (AV.bin Go.BinOp.lss (ys2497.getD 1 default) (ys897.getD 1 default))) ∧
                ((isF (AV.bin Go.BinOp.lss (ys2497.getD 1 default) (ys897.getD 1 default))) ∧
                (again897 [(ys897.getD 0 default), (ys897.getD 1 default), (ys897.getD 2 default)])))))))))))))))))))))))))))))))))))))))))))] (fun zs897 =>
  ((AV.binOk Go.BinOp.geq (zs897.getD 1 default) (AV.int 0)) ∧
  ((AV.flat (AV.bin Go.BinOp.geq (zs897.getD 1 default) (AV.int 0))) ∧
  (fSame (AV.tup [(zs897.getD 0 default), (AV.bin Go.BinOp.geq (zs897.getD 1 default) (AV.int 0))]) r))))))))))))) := by kernel_rfl
theorem clone_form (x0 r : AV) : fnF Try.prog Γ ann 3 43 Try.f43 (Try.f43.body.getD .skip) (.nil) [x0] (.row 3 1 true) r = ((fNil x0
  ((AV.flatS (AV.mk 1 [])) ∧
  (fSame (AV.mk 1 []) r))
  ((AV.isSl x0 1) ∧
  ((AV.room (AV.mk 1 []) x0 8) ∧
  ((AV.flatS (AV.app 1 (AV.mk 1 []) x0)) ∧
  (fSame (AV.app 1 (AV.mk 1 []) x0) r)))))) := by kernel_rfl
theorem contains_form (x0 x1 r : AV) : fnF Try.prog Γ ann 3 42 Try.f42 (Try.f42.body.getD .skip) (.nil) [x0, x1] (.sc) r = ((∃ r193 : AV, ((Fn Try.prog 40 [x0, x1] Sh.sc r193) ∧
((AV.binOk Go.BinOp.geq r193 (AV.int 0)) ∧
((AV.flat (AV.bin Go.BinOp.geq r193 (AV.int 0))) ∧
(fSame (AV.bin Go.BinOp.geq r193 (AV.int 0)) r)))))) := by kernel_rfl
theorem index_form (x0 x1 r : AV) : fnF Try.prog Γ ann 3 40 Try.f40 (Try.f40.body.getD .skip) (.nil) [x0, x1] (.sc) r = (((AV.isSl x0 1) ∧
(fLoop 257 [(AV.int 0)] fun ys257 again257 =>
  ((AV.binOk Go.BinOp.lss (ys257.getD 0 default) (AV.len x0)) ∧
  ((AV.isBool (AV.bin Go.BinOp.lss (ys257.getD 0 default) (AV.len x0))) ∧
  (((isT (AV.bin Go.BinOp.lss (ys257.getD 0 default) (AV.len x0))) →
    ((AV.isSl x0 1) ∧
    ((AV.inb x0 (ys257.getD 0 default)) ∧
    ((AV.binOk Go.BinOp.eql x1 (AV.at x0 (ys257.getD 0 default) 0)) ∧
    ((AV.isBool (AV.bin Go.BinOp.eql x1 (AV.at x0 (ys257.getD 0 default) 0))) ∧
    (((isT (AV.bin Go.BinOp.eql x1 (AV.at x0 (ys257.getD 0 default) 0))) →
      ((AV.flat (ys257.getD 0 default)) ∧
      (fSame (ys257.getD 0 default) r))) ∧
    ((isF (AV.bin Go.BinOp.eql x1 (AV.at x0 (ys257.getD 0 default) 0))) →
      ((AV.binOk Go.BinOp.add (ys257.getD 0 default) (AV.int 1)) ∧
      (again257 [(AV.bin Go.BinOp.add (ys257.getD 0 default) (AV.int 1))]))))))))) ∧
  ((isF (AV.bin Go.BinOp.lss (ys257.getD 0 default) (AV.len x0))) →
    ((AV.flat (AV.int (-1))) ∧
    (fSame (AV.int (-1)) r))))))))) := by kernel_rfl
theorem equal_form (x0 x1 r : AV) : fnF Try.prog Γ ann 3 16 Try.f16 (Try.f16.body.getD .skip) (.nil) [x0, x1] (.sc) r = (((AV.isSl x0 1) ∧
((AV.isSl x1 1) ∧
((AV.binOk Go.BinOp.neq (AV.len x0) (AV.len x1)) ∧
((AV.isBool (AV.bin Go.BinOp.neq (AV.len x0) (AV.len x1))) ∧
(((isT (AV.bin Go.BinOp.neq (AV.len x0) (AV.len x1))) →
  ((AV.flat (AV.bool false)) ∧
  (fSame (AV.bool false) r))) ∧
((isF (AV.bin Go.BinOp.neq (AV.len x0) (AV.len x1))) →
  ((AV.isSl x0 1) ∧
  (fLoop 577 [(AV.int 0)] fun ys577 again577 =>
    ((AV.binOk Go.BinOp.lss (ys577.getD 0 default) (AV.len x0)) ∧
    ((AV.isBool (AV.bin Go.BinOp.lss (ys577.getD 0 default) (AV.len x0))) ∧
    (((isT (AV.bin Go.BinOp.lss (ys577.getD 0 default) (AV.len x0))) →
      ((AV.isSl x0 1) ∧
      ((AV.inb x0 (ys577.getD 0 default)) ∧
      ((AV.isSl x1 1) ∧
      ((AV.inb x1 (ys577.getD 0 default)) ∧
      ((AV.binOk Go.BinOp.neq (AV.at x0 (ys577.getD 0 default) 0) (AV.at x1 (ys577.getD 0 default) 0)) ∧
      ((AV.isBool (AV.bin Go.BinOp.neq (AV.at x0 (ys577.getD 0 default) 0) (AV.at x1 (ys577.getD 0 default) 0))) ∧
      (((isT (AV.bin Go.BinOp.neq (AV.at x0 (ys577.getD 0 default) 0) (AV.at x1 (ys577.getD 0 default) 0))) →
        ((AV.flat (AV.bool false)) ∧
        (fSame (AV.bool false) r))) ∧
      ((isF (AV.bin Go.BinOp.neq (AV.at x0 (ys577.getD 0 default) 0) (AV.at x1 (ys577.getD 0 default) 0))) →
        ((AV.binOk Go.BinOp.add (ys577.getD 0 default) (AV.int 1)) ∧
        (again577 [(AV.bin Go.BinOp.add (ys577.getD 0 default) (AV.int 1))]))))))))))) ∧
    ((isF (AV.bin Go.BinOp.lss (ys577.getD 0 default) (AV.len x0))) →
      ((AV.flat (AV.bool true)) ∧
      (fSame (AV.bool true) r))))))))))))))) := by kernel_rfl
theorem standard_form ( r : AV) : fnF Try.prog Γ ann 3 19 Try.f19 (Try.f19.body.getD .skip) (.nil) [] (.sc) r = (((AV.flat (AV.agg [(AV.int 60), (AV.int 60), (AV.int 60), (AV.int 60), (AV.int 120), (AV.int 60), (AV.int 60), (AV.int 60), (AV.int 180), (AV.int 120), (AV.int 90), (AV.int 60), (AV.int 240), (AV.int 180), (AV.int 120), (AV.int 120)])) ∧
(fSame (AV.agg [(AV.int 60), (AV.int 60), (AV.int 60), (AV.int 60), (AV.int 120), (AV.int 60), (AV.int 60), (AV.int 60), (AV.int 180), (AV.int 120), (AV.int 90), (AV.int 60), (AV.int 240), (AV.int 180), (AV.int 120), (AV.int 120)]) r))) := by kernel_rfl
theorem ltimes_form (x0 x1 x2 r : AV) : fnF Try.prog Γ ann 3 3 Try.f3 (Try.f3.body.getD .skip) ((.f (.f (.f (.both (.t (.t (.t .nil))) (.f (.both (.f (.f (.f .nil))) (.both (.f (.f (.f (.both (.f (.f (.both (.t .nil) (.t .nil)))) (.t (.t .nil)))))) (.t (.f (.f (.both (.t (.t .nil)) (.t (.t .nil)))))))))))))) [x0, x1, x2] (.sc) r = (((AV.isAgg x2 16) ∧
(∃ r129 : AV, ((Fn Try.prog 5 [] Sh.sc r129) ∧
((AV.unOk Go.UnOp.not r129) ∧
((AV.isBool (AV.un Go.UnOp.not r129)) ∧
((isF (AV.un Go.UnOp.not r129)) ∧
(∃ r321 : AV, ((Fn Try.prog 6 [x0] (Sh.tup [(Sh.row 3 1 true), Sh.sc]) r321) ∧
(∃ r897 : AV, ((Fn Try.prog 7 [x0, x1, (AV.agg [(AV.cel x2 0), (AV.cel x2 1), (AV.cel x2 2), (AV.cel x2 3), (AV.cel x2 4), (AV.cel x2 5), (AV.cel x2 6), (AV.cel x2 7), (AV.cel x2 8), (AV.cel x2 9), (AV.cel x2 10), (AV.cel x2 11), (AV.cel x2 12), (AV.cel x2 13), (AV.cel x2 14), (AV.cel x2 15)])] (Sh.tup [(Sh.row 3 1 true), Sh.sc]) r897) ∧
(∃ r1409 : AV, ((Fn Try.prog 8 [x0, x1] (Sh.tup [Sh.sc, Sh.sc]) r1409) ∧
(∃ r1857 : AV, ((Fn Try.prog 9 [x0] Sh.sc r1857) ∧
(∃ r2049 : AV, ((Fn Try.prog 10 [x0] Sh.sc r2049) ∧
((AV.binOk Go.BinOp.neq r2049 r1857) ∧
((AV.isBool (AV.bin Go.BinOp.neq r2049 r1857)) ∧
((isF (AV.bin Go.BinOp.neq r2049 r1857)) ∧
((AV.binOk Go.BinOp.neq (AV.prj r321 1) r1857) ∧
((AV.isBool (AV.bin Go.BinOp.neq r2049 r1857)) ∧
((isF (AV.bin Go.BinOp.neq r2049 r1857)) ∧
((AV.isBool (AV.bin Go.BinOp.neq (AV.prj r321 1) r1857)) ∧
((isF (AV.bin Go.BinOp.neq (AV.prj r321 1) r1857)) ∧
((AV.binOk Go.BinOp.neq r1857 (AV.int 0)) ∧
((AV.isBool (AV.bin Go.BinOp.neq r1857 (AV.int 0))) ∧
(((isT (AV.bin Go.BinOp.neq r1857 (AV.int 0))) →
  ((AV.binOk Go.BinOp.eql (AV.prj r897 1) r1857) ∧
  ((AV.isBool (AV.bin Go.BinOp.eql (AV.prj r897 1) r1857)) ∧
  ((isT (AV.bin Go.BinOp.eql (AV.prj r897 1) r1857)) ∧
  ((AV.binOk Go.BinOp.eql (AV.prj r1409 1) r1857) ∧
  ((AV.isBool (AV.bin Go.BinOp.eql (AV.prj r897 1) r1857)) ∧
  ((isT (AV.bin Go.BinOp.eql (AV.prj r897 1) r1857)) ∧
  ((AV.isBool (AV.bin Go.BinOp.eql (AV.prj r1409 1) r1857)) ∧
  ((isT (AV.bin Go.BinOp.eql (AV.prj r1409 1) r1857)) ∧
  ((AV.binOk Go.BinOp.add (AV.len (AV.prj r321 0)) (AV.len (AV.prj r897 0))) ∧
  ((AV.binOk Go.BinOp.eql (AV.bin Go.BinOp.add (AV.len (AV.prj r321 0)) (AV.len (AV.prj r897 0))) (AV.int 0)) ∧
  ((AV.isBool (AV.bin Go.BinOp.eql (AV.prj r1409 1) r1857)) ∧
  ((isT (AV.bin Go.BinOp.eql (AV.prj r1409 1) r1857)) ∧
  ((AV.isBool (AV.bin Go.BinOp.eql (AV.bin Go.BinOp.add (AV.len (AV.prj r321 0)) (AV.len (AV.prj r897 0))) (AV.int 0))) ∧
  ((isT (AV.bin Go.BinOp.eql (AV.bin Go.BinOp.add (AV.len (AV.prj r321 0)) (AV.len (AV.prj r897 0))) (AV.int 0))) ∧
  ((AV.binOk Go.BinOp.eql (AV.prj r1409 0) (AV.int 0)) ∧
  ((AV.isBool (AV.bin Go.BinOp.eql (AV.bin Go.BinOp.add (AV.len (AV.prj r321 0)) (AV.len (AV.prj r897 0))) (AV.int 0))) ∧
  ((isT (AV.bin Go.BinOp.eql (AV.bin Go.BinOp.add (AV.len (AV.prj r321 0)) (AV.len (AV.prj r897 0))) (AV.int 0))) ∧
  ((AV.flat (AV.bin Go.BinOp.eql (AV.prj r1409 0) (AV.int 0))) ∧
  (fSame (AV.bin Go.BinOp.eql (AV.prj r1409 0) (AV.int 0)) r)))))))))))))))))))) ∧
((isF (AV.bin Go.BinOp.neq r1857 (AV.int 0))) →
  ((AV.isSl x0 4) ∧
  ((AV.binOk Go.BinOp.neq (AV.len (AV.prj r321 0)) (AV.len x0)) ∧
  ((AV.isBool (AV.bin Go.BinOp.neq (AV.len (AV.prj r321 0)) (AV.len x0))) ∧
  ((isF (AV.bin Go.BinOp.neq (AV.len (AV.prj r321 0)) (AV.len x0))) ∧
  (fLoop 3201 [(AV.int 0)] fun ys3201 again3201 =>
    ((AV.binOk Go.BinOp.lss (ys3201.getD 0 default) (AV.len (AV.prj r321 0))) ∧
    ((AV.isBool (AV.bin Go.BinOp.lss (ys3201.getD 0 default) (AV.len (AV.prj r321 0)))) ∧
    (((isT (AV.bin Go.BinOp.lss (ys3201.getD 0 default) (AV.len (AV.prj r321 0)))) →
      ((AV.inb (AV.prj r321 0) (ys3201.getD 0 default)) ∧
      ((AV.inb (AV.prj r321 0) (ys3201.getD 0 default)) ∧
      ((AV.binOk Go.BinOp.lss (AV.at (AV.prj r321 0) (ys3201.getD 0 default) 0) (AV.int 0)) ∧
      ((AV.isBool (AV.bin Go.BinOp.lss (AV.at (AV.prj r321 0) (ys3201.getD 0 default) 0) (AV.int 0))) ∧
      ((isF (AV.bin Go.BinOp.lss (AV.at (AV.prj r321 0) (ys3201.getD 0 default) 0) (AV.int 0))) ∧
      ((AV.isSl x0 4) ∧
      ((AV.binOk Go.BinOp.geq (AV.at (AV.prj r321 0) (ys3201.getD 0 default) 0) (AV.len x0)) ∧
      ((AV.isBool (AV.bin Go.BinOp.lss (AV.at (AV.prj r321 0) (ys3201.getD 0 default) 0) (AV.int 0))) ∧
      ((isF (AV.bin Go.BinOp.lss (AV.at (AV.prj r321 0) (ys3201.getD 0 default) 0) (AV.int 0))) ∧
      ((AV.isBool (AV.bin Go.BinOp.geq (AV.at (AV.prj r321 0) (ys3201.getD 0 default) 0) (AV.len x0))) ∧
      ((isF (AV.bin Go.BinOp.geq (AV.at (AV.prj r321 0) (ys3201.getD 0 default) 0) (AV.len x0))) ∧
      (∃ r4289 : AV, ((Fn Try.prog 11 [x0, (AV.at (AV.prj r321 0) (ys3201.getD 0 default) 0)] Sh.sc r4289) ∧
      ((AV.binOk Go.BinOp.neq r4289 (ys3201.getD 0 default)) ∧
      ((AV.isBool (AV.bin Go.BinOp.geq (AV.at (AV.prj r321 0) (ys3201.getD 0 default) 0) (AV.len x0))) ∧
      ((isF (AV.bin Go.BinOp.geq (AV.at (AV.prj r321 0) (ys3201.getD 0 default) 0) (AV.len x0))) ∧
      ((AV.isBool (AV.bin Go.BinOp.neq r4289 (ys3201.getD 0 default))) ∧
      ((isF (AV.bin Go.BinOp.neq r4289 (ys3201.getD 0 default))) ∧
      ((AV.binOk Go.BinOp.add (ys3201.getD 0 default) (AV.int 1)) ∧
      (again3201 [(AV.bin Go.BinOp.add (ys3201.getD 0 default) (AV.int 1))]))))))))))))))))))))) ∧
    ((isF (AV.bin Go.BinOp.lss (ys3201.getD 0 default) (AV.len (AV.prj r321 0)))) →
      ((AV.isSl x0 4) ∧
      (∃ r3457 : AV, ((Fn Try.prog 12 [x1, (AV.len x0)] Sh.sc r3457) ∧
      ((AV.isBool r3457) ∧
      (((isT r3457) →
        ((AV.binOk Go.BinOp.neq (AV.prj r1409 1) (AV.int 0)) ∧
        ((AV.isBool (AV.bin Go.BinOp.neq (AV.prj r1409 1) (AV.int 0))) ∧
        ((isF (AV.bin Go.BinOp.neq (AV.prj r1409 1) (AV.int 0))) ∧
        (∃ r4097 : AV, ((Fn Try.prog 13 [x0, x1] Sh.sc r4097) ∧
        ((AV.binOk Go.BinOp.neq (AV.prj r1409 0) r4097) ∧
        ((AV.isBool (AV.bin Go.BinOp.neq (AV.prj r1409 1) (AV.int 0))) ∧
        ((isF (AV.bin Go.BinOp.neq (AV.prj r1409 1) (AV.int 0))) ∧
        ((AV.isBool r3457) ∧
        ((isT r3457) ∧
        ((AV.isBool (AV.bin Go.BinOp.neq (AV.prj r1409 0) r4097)) ∧
        ((isF (AV.bin Go.BinOp.neq (AV.prj r1409 0) r4097)) ∧
        ((AV.unOk Go.UnOp.not r3457) ∧
        ((AV.isBool (AV.un Go.UnOp.not r3457)) ∧
        ((isF (AV.un Go.UnOp.not r3457)) ∧
        ((AV.isBool (AV.un Go.UnOp.not r3457)) ∧
        ((isF (AV.un Go.UnOp.not r3457)) ∧
        ((AV.isBool (AV.bin Go.BinOp.neq (AV.prj r1409 0) r4097)) ∧
        ((isF (AV.bin Go.BinOp.neq (AV.prj r1409 0) r4097)) ∧
        (∃ r5185 : AV, ((Fn Try.prog 14 [(AV.agg [(AV.cel x2 0), (AV.cel x2 1), (AV.cel x2 2), (AV.cel x2 3), (AV.cel x2 4), (AV.cel x2 5), (AV.cel x2 6), (AV.cel x2 7), (AV.cel x2 8), (AV.cel x2 9), (AV.cel x2 10), (AV.cel x2 11), (AV.cel x2 12), (AV.cel x2 13), (AV.cel x2 14), (AV.cel x2 15)])] Sh.sc r5185) ∧
        ((AV.binOk Go.BinOp.eql r5185 (AV.int 0)) ∧
        ((AV.isBool (AV.bin Go.BinOp.eql r5185 (AV.int 0))) ∧
        (((isT (AV.bin Go.BinOp.eql r5185 (AV.int 0))) →
          ((AV.unOk Go.UnOp.not r3457) ∧
          ((AV.isBool (AV.bin Go.BinOp.eql r5185 (AV.int 0))) ∧
          ((isT (AV.bin Go.BinOp.eql r5185 (AV.int 0))) ∧
          ((AV.isBool (AV.un Go.UnOp.not r3457)) ∧
          ((isF (AV.un Go.UnOp.not r3457)) ∧
          ((AV.binOk Go.BinOp.neq r5185 (AV.int 0)) ∧
          ((AV.isBool (AV.bin Go.BinOp.neq r5185 (AV.int 0))) ∧
          ((isF (AV.bin Go.BinOp.neq r5185 (AV.int 0))) ∧
          (∃ r6017 : AV, ((Fn Try.prog 15 [x0, x1, (AV.agg [(AV.cel x2 0), (AV.cel x2 1), (AV.cel x2 2), (AV.cel x2 3), (AV.cel x2 4), (AV.cel x2 5), (AV.cel x2 6), (AV.cel x2 7), (AV.cel x2 8), (AV.cel x2 9), (AV.cel x2 10), (AV.cel x2 11), (AV.cel x2 12), (AV.cel x2 13), (AV.cel x2 14), (AV.cel x2 15)])] (Sh.tup [(Sh.row 3 1 true), Sh.sc]) r6017) ∧
          ((AV.unOk Go.UnOp.not (AV.prj r6017 1)) ∧
          ((AV.isBool (AV.un Go.UnOp.not (AV.prj r6017 1))) ∧
          (((isT (AV.un Go.UnOp.not (AV.prj r6017 1))) →
            ((AV.binOk Go.BinOp.eql (AV.prj r897 1) (AV.int 8)) ∧
            ((AV.isBool (AV.bin Go.BinOp.eql (AV.prj r897 1) (AV.int 8))) ∧
            ((isT (AV.bin Go.BinOp.eql (AV.prj r897 1) (AV.int 8))) ∧
            ((AV.binOk Go.BinOp.eql (AV.len (AV.prj r897 0)) (AV.int 0)) ∧
            ((AV.isBool (AV.bin Go.BinOp.eql (AV.prj r897 1) (AV.int 8))) ∧
            ((isT (AV.bin Go.BinOp.eql (AV.prj r897 1) (AV.int 8))) ∧
            ((AV.flat (AV.bin Go.BinOp.eql (AV.len (AV.prj r897 0)) (AV.int 0))) ∧
            (fSame (AV.bin Go.BinOp.eql (AV.len (AV.prj r897 0)) (AV.int 0)) r))))))))) ∧
          ((isF (AV.un Go.UnOp.not (AV.prj r6017 1))) →
            ((AV.binOk Go.BinOp.eql (AV.prj r897 1) (AV.int 0)) ∧
            ((AV.isBool (AV.bin Go.BinOp.eql (AV.prj r897 1) (AV.int 0))) ∧
            ((isT (AV.bin Go.BinOp.eql (AV.prj r897 1) (AV.int 0))) ∧
            (∃ r6849 : AV, ((Fn Try.prog 16 [(AV.prj r897 0), (AV.prj r6017 0)] Sh.sc r6849) ∧
            ((AV.isBool (AV.bin Go.BinOp.eql (AV.prj r897 1) (AV.int 0))) ∧
            ((isT (AV.bin Go.BinOp.eql (AV.prj r897 1) (AV.int 0))) ∧
            ((AV.flat r6849) ∧
            (fSame r6849 r)))))))))))))))))))))))) ∧
        ((isF (AV.bin Go.BinOp.eql r5185 (AV.int 0))) →
          ((AV.isBool (AV.bin Go.BinOp.eql r5185 (AV.int 0))) ∧
          ((isF (AV.bin Go.BinOp.eql r5185 (AV.int 0))) ∧
          ((AV.binOk Go.BinOp.neq r5185 (AV.int 0)) ∧
          ((AV.isBool (AV.bin Go.BinOp.neq r5185 (AV.int 0))) ∧
          ((isT (AV.bin Go.BinOp.neq r5185 (AV.int 0))) ∧
          ((AV.binOk Go.BinOp.eql (AV.prj r897 1) r5185) ∧
          ((AV.isBool (AV.bin Go.BinOp.eql (AV.prj r897 1) r5185)) ∧
          ((isT (AV.bin Go.BinOp.eql (AV.prj r897 1) r5185)) ∧
          ((AV.binOk Go.BinOp.eql (AV.len (AV.prj r897 0)) (AV.int 0)) ∧
          ((AV.isBool (AV.bin Go.BinOp.eql (AV.prj r897 1) r5185)) ∧
          ((isT (AV.bin Go.BinOp.eql (AV.prj r897 1) r5185)) ∧
          ((AV.flat (AV.bin Go.BinOp.eql (AV.len (AV.prj r897 0)) (AV.int 0))) ∧
          (fSame (AV.bin Go.BinOp.eql (AV.len (AV.prj r897 0)) (AV.int 0)) r))))))))))))))))))))))))))))))))))))))) ∧
      ((isF r3457) →
        ((AV.isBool r3457) ∧
        ((isF r3457) ∧
        ((AV.unOk Go.UnOp.not r3457) ∧
        ((AV.isBool (AV.un Go.UnOp.not r3457)) ∧
        ((isT (AV.un Go.UnOp.not r3457)) ∧
        ((AV.binOk Go.BinOp.neq (AV.prj r1409 1) (AV.int 3)) ∧
        ((AV.isBool (AV.bin Go.BinOp.neq (AV.prj r1409 1) (AV.int 3))) ∧
        ((isF (AV.bin Go.BinOp.neq (AV.prj r1409 1) (AV.int 3))) ∧
        ((AV.binOk Go.BinOp.neq (AV.prj r1409 0) (AV.int 0)) ∧
        ((AV.isBool (AV.bin Go.BinOp.neq (AV.prj r1409 1) (AV.int 3))) ∧
        ((isF (AV.bin Go.BinOp.neq (AV.prj r1409 1) (AV.int 3))) ∧
        ((AV.isBool (AV.un Go.UnOp.not r3457)) ∧
        ((isT (AV.un Go.UnOp.not r3457)) ∧
        ((AV.isBool (AV.bin Go.BinOp.neq (AV.prj r1409 0) (AV.int 0))) ∧
        ((isF (AV.bin Go.BinOp.neq (AV.prj r1409 0) (AV.int 0))) ∧
        (∃ r5185 : AV, ((Fn Try.prog 14 [(AV.agg [(AV.cel x2 0), (AV.cel x2 1), (AV.cel x2 2), (AV.cel x2 3), (AV.cel x2 4), (AV.cel x2 5), (AV.cel x2 6), (AV.cel x2 7), (AV.cel x2 8), (AV.cel x2 9), (AV.cel x2 10), (AV.cel x2 11), (AV.cel x2 12), (AV.cel x2 13), (AV.cel x2 14), (AV.cel x2 15)])] Sh.sc r5185) ∧
        ((AV.binOk Go.BinOp.eql r5185 (AV.int 0)) ∧
        ((AV.isBool (AV.bin Go.BinOp.eql r5185 (AV.int 0))) ∧
        (((isT (AV.bin Go.BinOp.eql r5185 (AV.int 0))) →
          ((AV.unOk Go.UnOp.not r3457) ∧
          ((AV.isBool (AV.bin Go.BinOp.eql r5185 (AV.int 0))) ∧
          ((isT (AV.bin Go.BinOp.eql r5185 (AV.int 0))) ∧
          ((AV.isBool (AV.un Go.UnOp.not r3457)) ∧
          ((isT (AV.un Go.UnOp.not r3457)) ∧
          ((AV.binOk Go.BinOp.eql (AV.prj r897 1) (AV.int 3)) ∧
          ((AV.isBool (AV.bin Go.BinOp.eql (AV.prj r897 1) (AV.int 3))) ∧
          ((isT (AV.bin Go.BinOp.eql (AV.prj r897 1) (AV.int 3))) ∧
          ((AV.binOk Go.BinOp.eql (AV.len (AV.prj r897 0)) (AV.int 0)) ∧
          ((AV.isBool (AV.bin Go.BinOp.eql (AV.prj r897 1) (AV.int 3))) ∧
          ((isT (AV.bin Go.BinOp.eql (AV.prj r897 1) (AV.int 3))) ∧
          ((AV.flat (AV.bin Go.BinOp.eql (AV.len (AV.prj r897 0)) (AV.int 0))) ∧
          (fSame (AV.bin Go.BinOp.eql (AV.len (AV.prj r897 0)) (AV.int 0)) r)))))))))))))) ∧
        ((isF (AV.bin Go.BinOp.eql r5185 (AV.int 0))) →
          ((AV.isBool (AV.bin Go.BinOp.eql r5185 (AV.int 0))) ∧
          ((isF (AV.bin Go.BinOp.eql r5185 (AV.int 0))) ∧
          ((AV.binOk Go.BinOp.neq r5185 (AV.int 0)) ∧
          ((AV.isBool (AV.bin Go.BinOp.neq r5185 (AV.int 0))) ∧
          ((isT (AV.bin Go.BinOp.neq r5185 (AV.int 0))) ∧
          ((AV.binOk Go.BinOp.eql (AV.prj r897 1) r5185) ∧
          ((AV.isBool (AV.bin Go.BinOp.eql (AV.prj r897 1) r5185)) ∧
          ((isT (AV.bin Go.BinOp.eql (AV.prj r897 1) r5185)) ∧
          ((AV.binOk Go.BinOp.eql (AV.len (AV.prj r897 0)) (AV.int 0)) ∧
          ((AV.isBool (AV.bin Go.BinOp.eql (AV.prj r897 1) r5185)) ∧
          ((isT (AV.bin Go.BinOp.eql (AV.prj r897 1) r5185)) ∧
          ((AV.flat (AV.bin Go.BinOp.eql (AV.len (AV.prj r897 0)) (AV.int 0))) ∧
          (fSame (AV.bin Go.BinOp.eql (AV.len (AV.prj r897 0)) (AV.int 0)) r)))))))))))))))))))))))))))))))))))))))))))))))))))))))))))))))))))))))))))))) := by kernel_rfl
theorem lbests_form (x0 x1 x2 r : AV) : fnF Try.prog Γ ann 3 4 Try.f4 (Try.f4.body.getD .skip) ((.f (.both .nil (.both .nil (.both (.both (.both (.t .nil) (.both (.t .nil) (.f (.both (.t .nil) (.both (.t .nil) (.t (.t .nil))))))) (.t (.t .nil))) (.f (.t (.t .nil)))))))) [x0, x1, x2] (.sc) r = (((AV.isAgg x1 16) ∧
(∃ r129 : AV, ((Fn Try.prog 5 [] Sh.sc r129) ∧
((AV.unOk Go.UnOp.not r129) ∧
((AV.isBool (AV.un Go.UnOp.not r129)) ∧
((isF (AV.un Go.UnOp.not r129)) ∧
((AV.isSl x0 4) ∧
((AV.binOk Go.BinOp.eql (AV.len x0) (AV.int 7)) ∧
((AV.isBool (AV.bin Go.BinOp.eql (AV.len x0) (AV.int 7))) ∧
(((isT (AV.bin Go.BinOp.eql (AV.len x0) (AV.int 7))) →
  ((AV.isBool (AV.bin Go.BinOp.eql (AV.len x0) (AV.int 7))) ∧
  ((isT (AV.bin Go.BinOp.eql (AV.len x0) (AV.int 7))) ∧
  ((AV.flat (AV.bool true)) ∧
  (fSame (AV.bool true) r))))) ∧
((isF (AV.bin Go.BinOp.eql (AV.len x0) (AV.int 7))) →
  ((AV.isSl x0 4) ∧
  ((AV.binOk Go.BinOp.eql (AV.len x0) (AV.int 8)) ∧
  ((AV.isBool (AV.bin Go.BinOp.eql (AV.len x0) (AV.int 7))) ∧
  ((isF (AV.bin Go.BinOp.eql (AV.len x0) (AV.int 7))) ∧
  ((AV.isBool (AV.bin Go.BinOp.eql (AV.len x0) (AV.int 8))) ∧
  (((isT (AV.bin Go.BinOp.eql (AV.len x0) (AV.int 8))) →
    ((AV.flat (AV.bool true)) ∧
    (fSame (AV.bool true) r))) ∧
  ((isF (AV.bin Go.BinOp.eql (AV.len x0) (AV.int 8))) →
    (∃ r961 : AV, ((Fn Try.prog 17 [x0, (AV.agg [(AV.cel x1 0), (AV.cel x1 1), (AV.cel x1 2), (AV.cel x1 3), (AV.cel x1 4), (AV.cel x1 5), (AV.cel x1 6), (AV.cel x1 7), (AV.cel x1 8), (AV.cel x1 9), (AV.cel x1 10), (AV.cel x1 11), (AV.cel x1 12), (AV.cel x1 13), (AV.cel x1 14), (AV.cel x1 15)]), x2] (Sh.tup [Sh.p, Sh.p, Sh.sc]) r961) ∧
    (∃ r1537 : AV, ((Fn Try.prog 9 [x0] Sh.sc r1537) ∧
    ((AV.binOk Go.BinOp.eql r1537 (AV.int 0)) ∧
    ((AV.isBool (AV.bin Go.BinOp.eql r1537 (AV.int 0))) ∧
    (((isT (AV.bin Go.BinOp.eql r1537 (AV.int 0))) →
      (∃ r1857 : AV, ((Fn Try.prog 14 [(AV.agg [(AV.cel x1 0), (AV.cel x1 1), (AV.cel x1 2), (AV.cel x1 3), (AV.cel x1 4), (AV.cel x1 5), (AV.cel x1 6), (AV.cel x1 7), (AV.cel x1 8), (AV.cel x1 9), (AV.cel x1 10), (AV.cel x1 11), (AV.cel x1 12), (AV.cel x1 13), (AV.cel x1 14), (AV.cel x1 15)])] Sh.sc r1857) ∧
      ((AV.binOk Go.BinOp.eql r1857 (AV.int 0)) ∧
      ((AV.isBool (AV.bin Go.BinOp.eql r1857 (AV.int 0))) ∧
      (((isT (AV.bin Go.BinOp.eql r1857 (AV.int 0))) →
        ((AV.binOk Go.BinOp.lss x2 (AV.int 0)) ∧
        ((AV.isBool (AV.bin Go.BinOp.lss x2 (AV.int 0))) ∧
        (((isT (AV.bin Go.BinOp.lss x2 (AV.int 0))) →
          ((AV.isBool (AV.bin Go.BinOp.lss x2 (AV.int 0))) ∧
          ((isT (AV.bin Go.BinOp.lss x2 (AV.int 0))) ∧
          ((AV.isBool (AV.bin Go.BinOp.eql r1857 (AV.int 0))) ∧
          ((isT (AV.bin Go.BinOp.eql r1857 (AV.int 0))) ∧
          ((AV.binOk Go.BinOp.eql (AV.prj r961 2) (AV.int 4)) ∧
          ((AV.isBool (AV.bin Go.BinOp.eql (AV.prj r961 2) (AV.int 4))) ∧
          ((isT (AV.bin Go.BinOp.eql (AV.prj r961 2) (AV.int 4))) ∧
          ((AV.isSl (AV.prj r961 0) 1) ∧
          ((AV.isSl (AV.prj r961 1) 1) ∧
          ((AV.binOk Go.BinOp.add (AV.len (AV.prj r961 0)) (AV.len (AV.prj r961 1))) ∧
          ((AV.binOk Go.BinOp.eql (AV.bin Go.BinOp.add (AV.len (AV.prj r961 0)) (AV.len (AV.prj r961 1))) (AV.int 0)) ∧
          ((AV.isBool (AV.bin Go.BinOp.eql (AV.prj r961 2) (AV.int 4))) ∧
          ((isT (AV.bin Go.BinOp.eql (AV.prj r961 2) (AV.int 4))) ∧
          ((AV.flat (AV.bin Go.BinOp.eql (AV.bin Go.BinOp.add (AV.len (AV.prj r961 0)) (AV.len (AV.prj r961 1))) (AV.int 0))) ∧
          (fSame (AV.bin Go.BinOp.eql (AV.bin Go.BinOp.add (AV.len (AV.prj r961 0)) (AV.len (AV.prj r961 1))) (AV.int 0)) r)))))))))))))))) ∧
        ((isF (AV.bin Go.BinOp.lss x2 (AV.int 0))) →
          ((AV.binOk Go.BinOp.gtr x2 (AV.int 8)) ∧
          ((AV.isBool (AV.bin Go.BinOp.lss x2 (AV.int 0))) ∧
          ((isF (AV.bin Go.BinOp.lss x2 (AV.int 0))) ∧
          ((AV.isBool (AV.bin Go.BinOp.eql r1857 (AV.int 0))) ∧
          ((isT (AV.bin Go.BinOp.eql r1857 (AV.int 0))) ∧
          ((AV.isBool (AV.bin Go.BinOp.gtr x2 (AV.int 8))) ∧
          (((isT (AV.bin Go.BinOp.gtr x2 (AV.int 8))) →
            ((AV.binOk Go.BinOp.eql (AV.prj r961 2) (AV.int 4)) ∧
            ((AV.isBool (AV.bin Go.BinOp.eql (AV.prj r961 2) (AV.int 4))) ∧
            ((isT (AV.bin Go.BinOp.eql (AV.prj r961 2) (AV.int 4))) ∧
            ((AV.isSl (AV.prj r961 0) 1) ∧
            ((AV.isSl (AV.prj r961 1) 1) ∧
            ((AV.binOk Go.BinOp.add (AV.len (AV.prj r961 0)) (AV.len (AV.prj r961 1))) ∧
            ((AV.binOk Go.BinOp.eql (AV.bin Go.BinOp.add (AV.len (AV.prj r961 0)) (AV.len (AV.prj r961 1))) (AV.int 0)) ∧
            ((AV.isBool (AV.bin Go.BinOp.eql (AV.prj r961 2) (AV.int 4))) ∧
            ((isT (AV.bin Go.BinOp.eql (AV.prj r961 2) (AV.int 4))) ∧
            ((AV.flat (AV.bin Go.BinOp.eql (AV.bin Go.BinOp.add (AV.len (AV.prj r961 0)) (AV.len (AV.prj r961 1))) (AV.int 0))) ∧
            (fSame (AV.bin Go.BinOp.eql (AV.bin Go.BinOp.add (AV.len (AV.prj r961 0)) (AV.len (AV.prj r961 1))) (AV.int 0)) r)))))))))))) ∧
          ((isF (AV.bin Go.BinOp.gtr x2 (AV.int 8))) →
            ((AV.binOk Go.BinOp.neq r1857 (AV.int 0)) ∧
            ((AV.isBool (AV.bin Go.BinOp.neq r1857 (AV.int 0))) ∧
            ((isF (AV.bin Go.BinOp.neq r1857 (AV.int 0))) ∧
            (∃ r2945 : AV, ((Fn Try.prog 18 [x0, (AV.agg [(AV.cel x1 0), (AV.cel x1 1), (AV.cel x1 2), (AV.cel x1 3), (AV.cel x1 4), (AV.cel x1 5), (AV.cel x1 6), (AV.cel x1 7), (AV.cel x1 8), (AV.cel x1 9), (AV.cel x1 10), (AV.cel x1 11), (AV.cel x1 12), (AV.cel x1 13), (AV.cel x1 14), (AV.cel x1 15)]), x2] (Sh.tup [Sh.p, Sh.sc]) r2945) ∧
            ((AV.isSl x0 4) ∧
            ((AV.binOk Go.BinOp.eql (AV.len x0) (AV.int 0)) ∧
            ((AV.isBool (AV.bin Go.BinOp.eql (AV.len x0) (AV.int 0))) ∧
            (((isT (AV.bin Go.BinOp.eql (AV.len x0) (AV.int 0))) →
              ((AV.binOk Go.BinOp.eql (AV.prj r961 2) (AV.int 0)) ∧
              ((AV.isBool (AV.bin Go.BinOp.eql (AV.prj r961 2) (AV.int 0))) ∧
              ((isT (AV.bin Go.BinOp.eql (AV.prj r961 2) (AV.int 0))) ∧
              ((AV.isSl (AV.prj r961 0) 1) ∧
              ((AV.isSl (AV.prj r961 1) 1) ∧
              ((AV.binOk Go.BinOp.add (AV.len (AV.prj r961 0)) (AV.len (AV.prj r961 1))) ∧
              ((AV.binOk Go.BinOp.eql (AV.bin Go.BinOp.add (AV.len (AV.prj r961 0)) (AV.len (AV.prj r961 1))) (AV.int 0)) ∧
              ((AV.isBool (AV.bin Go.BinOp.eql (AV.prj r961 2) (AV.int 0))) ∧
              ((isT (AV.bin Go.BinOp.eql (AV.prj r961 2) (AV.int 0))) ∧
              ((AV.flat (AV.bin Go.BinOp.eql (AV.bin Go.BinOp.add (AV.len (AV.prj r961 0)) (AV.len (AV.prj r961 1))) (AV.int 0))) ∧
              (fSame (AV.bin Go.BinOp.eql (AV.bin Go.BinOp.add (AV.len (AV.prj r961 0)) (AV.len (AV.prj r961 1))) (AV.int 0)) r)))))))))))) ∧
            ((isF (AV.bin Go.BinOp.eql (AV.len x0) (AV.int 0))) →
              ((AV.unOk Go.UnOp.not (AV.prj r2945 1)) ∧
              ((AV.isBool (AV.un Go.UnOp.not (AV.prj r2945 1))) ∧
              (((isT (AV.un Go.UnOp.not (AV.prj r2945 1))) →
                ((AV.binOk Go.BinOp.eql (AV.prj r961 2) (AV.int 8)) ∧
                ((AV.isBool (AV.bin Go.BinOp.eql (AV.prj r961 2) (AV.int 8))) ∧
                ((isT (AV.bin Go.BinOp.eql (AV.prj r961 2) (AV.int 8))) ∧
                ((AV.isSl (AV.prj r961 0) 1) ∧
                ((AV.isSl (AV.prj r961 1) 1) ∧
                ((AV.binOk Go.BinOp.add (AV.len (AV.prj r961 0)) (AV.len (AV.prj r961 1))) ∧
                ((AV.binOk Go.BinOp.eql (AV.bin Go.BinOp.add (AV.len (AV.prj r961 0)) (AV.len (AV.prj r961 1))) (AV.int 0)) ∧
                ((AV.isBool (AV.bin Go.BinOp.eql (AV.prj r961 2) (AV.int 8))) ∧
                ((isT (AV.bin Go.BinOp.eql (AV.prj r961 2) (AV.int 8))) ∧
                ((AV.flat (AV.bin Go.BinOp.eql (AV.bin Go.BinOp.add (AV.len (AV.prj r961 0)) (AV.len (AV.prj r961 1))) (AV.int 0))) ∧
                (fSame (AV.bin Go.BinOp.eql (AV.bin Go.BinOp.add (AV.len (AV.prj r961 0)) (AV.len (AV.prj r961 1))) (AV.int 0)) r)))))))))))) ∧
              ((isF (AV.un Go.UnOp.not (AV.prj r2945 1))) →
                (∃ r3841 : AV, ((Fn Try.prog 15 [x0, (AV.prj r2945 0), (AV.agg [(AV.cel x1 0), (AV.cel x1 1), (AV.cel x1 2), (AV.cel x1 3), (AV.cel x1 4), (AV.cel x1 5), (AV.cel x1 6), (AV.cel x1 7), (AV.cel x1 8), (AV.cel x1 9), (AV.cel x1 10), (AV.cel x1 11), (AV.cel x1 12), (AV.cel x1 13), (AV.cel x1 14), (AV.cel x1 15)])] (Sh.tup [(Sh.row 3 1 true), Sh.sc]) r3841) ∧
                ((AV.binOk Go.BinOp.eql (AV.prj r961 2) (AV.int 0)) ∧
                ((AV.isBool (AV.bin Go.BinOp.eql (AV.prj r961 2) (AV.int 0))) ∧
                ((isT (AV.bin Go.BinOp.eql (AV.prj r961 2) (AV.int 0))) ∧
                (∃ r4545 : AV, ((Fn Try.prog 16 [(AV.prj r961 0), (AV.prj r2945 0)] Sh.sc r4545) ∧
                ((AV.isBool (AV.bin Go.BinOp.eql (AV.prj r961 2) (AV.int 0))) ∧
                ((isT (AV.bin Go.BinOp.eql (AV.prj r961 2) (AV.int 0))) ∧
                ((AV.isBool r4545) ∧
                ((isT r4545) ∧
                (∃ r4865 : AV, ((Fn Try.prog 16 [(AV.prj r961 1), (AV.prj r3841 0)] Sh.sc r4865) ∧
                ((AV.isBool r4545) ∧
                ((isT r4545) ∧
                ((AV.flat r4865) ∧
                (fSame r4865 r)))))))))))))))))))))))))))))))))))))))))))) ∧
      ((isF (AV.bin Go.BinOp.eql r1857 (AV.int 0))) →
        ((AV.isBool (AV.bin Go.BinOp.eql r1857 (AV.int 0))) ∧
        ((isF (AV.bin Go.BinOp.eql r1857 (AV.int 0))) ∧
        ((AV.binOk Go.BinOp.neq r1857 (AV.int 0)) ∧
        ((AV.isBool (AV.bin Go.BinOp.neq r1857 (AV.int 0))) ∧
        ((isT (AV.bin Go.BinOp.neq r1857 (AV.int 0))) ∧
        ((AV.binOk Go.BinOp.eql (AV.prj r961 2) r1857) ∧
        ((AV.isBool (AV.bin Go.BinOp.eql (AV.prj r961 2) r1857)) ∧
        ((isT (AV.bin Go.BinOp.eql (AV.prj r961 2) r1857)) ∧
        ((AV.isSl (AV.prj r961 0) 1) ∧
        ((AV.isSl (AV.prj r961 1) 1) ∧
        ((AV.binOk Go.BinOp.add (AV.len (AV.prj r961 0)) (AV.len (AV.prj r961 1))) ∧
        ((AV.binOk Go.BinOp.eql (AV.bin Go.BinOp.add (AV.len (AV.prj r961 0)) (AV.len (AV.prj r961 1))) (AV.int 0)) ∧
        ((AV.isBool (AV.bin Go.BinOp.eql (AV.prj r961 2) r1857)) ∧
        ((isT (AV.bin Go.BinOp.eql (AV.prj r961 2) r1857)) ∧
        ((AV.flat (AV.bin Go.BinOp.eql (AV.bin Go.BinOp.add (AV.len (AV.prj r961 0)) (AV.len (AV.prj r961 1))) (AV.int 0))) ∧
        (fSame (AV.bin Go.BinOp.eql (AV.bin Go.BinOp.add (AV.len (AV.prj r961 0)) (AV.len (AV.prj r961 1))) (AV.int 0)) r))))))))))))))))))))))) ∧
    ((isF (AV.bin Go.BinOp.eql r1537 (AV.int 0))) →
      ((AV.binOk Go.BinOp.eql r1537 (AV.int 0)) ∧
      ((AV.isBool (AV.bin Go.BinOp.eql r1537 (AV.int 0))) ∧
      ((isF (AV.bin Go.BinOp.eql r1537 (AV.int 0))) ∧
      ((AV.isBool (AV.bin Go.BinOp.eql r1537 (AV.int 0))) ∧
      ((isF (AV.bin Go.BinOp.eql r1537 (AV.int 0))) ∧
      ((AV.binOk Go.BinOp.neq r1537 (AV.int 0)) ∧
      ((AV.isBool (AV.bin Go.BinOp.neq r1537 (AV.int 0))) ∧
      ((isT (AV.bin Go.BinOp.neq r1537 (AV.int 0))) ∧
      ((AV.binOk Go.BinOp.eql (AV.prj r961 2) r1537) ∧
      ((AV.isBool (AV.bin Go.BinOp.eql (AV.prj r961 2) r1537)) ∧
      ((isT (AV.bin Go.BinOp.eql (AV.prj r961 2) r1537)) ∧
      ((AV.isSl (AV.prj r961 0) 1) ∧
      ((AV.isSl (AV.prj r961 1) 1) ∧
      ((AV.binOk Go.BinOp.add (AV.len (AV.prj r961 0)) (AV.len (AV.prj r961 1))) ∧
      ((AV.binOk Go.BinOp.eql (AV.bin Go.BinOp.add (AV.len (AV.prj r961 0)) (AV.len (AV.prj r961 1))) (AV.int 0)) ∧
      ((AV.isBool (AV.bin Go.BinOp.eql (AV.prj r961 2) r1537)) ∧
      ((isT (AV.bin Go.BinOp.eql (AV.prj r961 2) r1537)) ∧
      ((AV.flat (AV.bin Go.BinOp.eql (AV.bin Go.BinOp.add (AV.len (AV.prj r961 0)) (AV.len (AV.prj r961 1))) (AV.int 0))) ∧
      (fSame (AV.bin Go.BinOp.eql (AV.bin Go.BinOp.add (AV.len (AV.prj r961 0)) (AV.len (AV.prj r961 1))) (AV.int 0)) r)))))))))))))))))))))))))))))))))))))))))))))) := by kernel_rfl
end SqF
end Go.Proofs.Ytfdpbfdhcngfgaa
