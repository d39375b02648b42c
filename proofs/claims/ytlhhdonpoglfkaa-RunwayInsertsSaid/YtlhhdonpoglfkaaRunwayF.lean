/- runway: what the run ends in. -/
import Derived.Test.YtlhhdonpoglfkaaVal
namespace Go.Proofs.Ytlhhdonpoglfkaa
open Go.RowKit
set_option linter.unusedVariables false
set_option maxRecDepth 100000
namespace RunwayF
--GAMMA
def Γ : FuncId → Option Ca := fun f =>
  if f = 17 ∨ f = 19 ∨ f = 85 ∨ f = 86 ∨ f = 84 ∨ f = 83 ∨ f = 18 ∨ f = 16 ∨ f = 20 ∨ f = 23 ∨ f = 89 ∨ f = 22 ∨ f = 14 ∨ f = 25 ∨ f = 29 ∨ f = 32 ∨ f = 36 ∨ f = 80 ∨ f = 81 then some (.fn .sc)
  else if f = 82 ∨ f = 15 ∨ f = 21 ∨ f = 30 then some (.fn (.tup [.sc, .sc]))
  else if f = 24 ∨ f = 26 then some (.fn (.tup [.sc, .sc, .sc]))
  else if f = 28 then some (.fn (.row 35 4 true))
  else if f = 37 then some (.fn (.row 60 2 true))
  else if f = 27 then some (.fn (.tup [.row 35 4 true, .sc]))
  else if f = 33 then some (.fn (.tup [.row 60 2 true, .sc]))
  else if f = 31 then some (.upd true)
  else some .inl
def ann : FuncId → Nat → LoopEx := fun f r => if f = 27 ∧ r = 16 then ⟨[], [], [(3009, 0), (3009, 1), (3009, 2), (3009, 3)], []⟩ else ⟨[], [], [], []⟩
--END GAMMA
theorem wt_form (x0 r : AV) : fnF Try.prog Γ ann 0 81 Try.f81 (Try.f81.body.getD .skip) (.nil) [x0] (.sc) r = (((AV.binOk Go.BinOp.lss x0 (AV.int 0)) ∧
((AV.isBool (AV.bin Go.BinOp.lss x0 (AV.int 0))) ∧
(((isT (AV.bin Go.BinOp.lss x0 (AV.int 0))) →
  ((AV.isBool (AV.bin Go.BinOp.lss x0 (AV.int 0))) ∧
  ((isT (AV.bin Go.BinOp.lss x0 (AV.int 0))) ∧
  ((AV.flat (AV.bool true)) ∧
  (fSame (AV.bool true) r))))) ∧
((isF (AV.bin Go.BinOp.lss x0 (AV.int 0))) →
  ((AV.binOk Go.BinOp.gtr x0 (AV.int 200000)) ∧
  ((AV.isBool (AV.bin Go.BinOp.lss x0 (AV.int 0))) ∧
  ((isF (AV.bin Go.BinOp.lss x0 (AV.int 0))) ∧
  ((AV.flat (AV.bin Go.BinOp.gtr x0 (AV.int 200000))) ∧
  (fSame (AV.bin Go.BinOp.gtr x0 (AV.int 200000)) r)))))))))) := by kernel_rfl
theorem class_form (x0 r : AV) : fnF Try.prog Γ ann 0 83 Try.f83 (Try.f83.body.getD .skip) (.nil) [x0] (.sc) r = (((AV.binOk Go.BinOp.lss x0 (AV.int 0)) ∧
((AV.isBool (AV.bin Go.BinOp.lss x0 (AV.int 0))) ∧
(((isT (AV.bin Go.BinOp.lss x0 (AV.int 0))) →
  ((AV.isBool (AV.bin Go.BinOp.lss x0 (AV.int 0))) ∧
  ((isT (AV.bin Go.BinOp.lss x0 (AV.int 0))) ∧
  ((AV.flat (AV.int 1)) ∧
  (fSame (AV.int 1) r))))) ∧
((isF (AV.bin Go.BinOp.lss x0 (AV.int 0))) →
  ((AV.binOk Go.BinOp.gtr x0 (AV.int 3)) ∧
  ((AV.isBool (AV.bin Go.BinOp.lss x0 (AV.int 0))) ∧
  ((isF (AV.bin Go.BinOp.lss x0 (AV.int 0))) ∧
  ((AV.isBool (AV.bin Go.BinOp.gtr x0 (AV.int 3))) ∧
  (((isT (AV.bin Go.BinOp.gtr x0 (AV.int 3))) →
    ((AV.flat (AV.int 1)) ∧
    (fSame (AV.int 1) r))) ∧
  ((isF (AV.bin Go.BinOp.gtr x0 (AV.int 3))) →
    ((AV.flat (AV.int 0)) ∧
    (fSame (AV.int 0) r))))))))))))) := by kernel_rfl
theorem std_form ( r : AV) : fnF Try.prog Γ ann 0 80 Try.f80 (Try.f80.body.getD .skip) (.nil) [] (.sc) r = (((AV.flat (AV.agg [(AV.int 60), (AV.int 60), (AV.int 60), (AV.int 60), (AV.int 120), (AV.int 60), (AV.int 60), (AV.int 60), (AV.int 180), (AV.int 120), (AV.int 90), (AV.int 60), (AV.int 240), (AV.int 180), (AV.int 120), (AV.int 120)])) ∧
(fSame (AV.agg [(AV.int 60), (AV.int 60), (AV.int 60), (AV.int 60), (AV.int 120), (AV.int 60), (AV.int 60), (AV.int 60), (AV.int 180), (AV.int 120), (AV.int 90), (AV.int 60), (AV.int 240), (AV.int 180), (AV.int 120), (AV.int 120)]) r))) := by kernel_rfl
theorem check_form (x0 r : AV) : fnF Try.prog Γ ann 2 17 Try.f17 (Try.f17.body.getD .skip) (.nil) [x0] (.sc) r = (((AV.isSl x0 4) ∧
((AV.binOk Go.BinOp.gtr (AV.len x0) (AV.int 24)) ∧
((AV.isBool (AV.bin Go.BinOp.gtr (AV.len x0) (AV.int 24))) ∧
(((isT (AV.bin Go.BinOp.gtr (AV.len x0) (AV.int 24))) →
  ((AV.flat (AV.int 2)) ∧
  (fSame (AV.int 2) r))) ∧
((isF (AV.bin Go.BinOp.gtr (AV.len x0) (AV.int 24))) →
  ((AV.isSl x0 4) ∧
  (fLoop 449 [(AV.int 0)] fun ys449 again449 =>
    ((AV.binOk Go.BinOp.lss (ys449.getD 0 default) (AV.len x0)) ∧
    ((AV.isBool (AV.bin Go.BinOp.lss (ys449.getD 0 default) (AV.len x0))) ∧
    (((isT (AV.bin Go.BinOp.lss (ys449.getD 0 default) (AV.len x0))) →
      ((AV.isSl x0 4) ∧
      ((AV.inb x0 (ys449.getD 0 default)) ∧
      ((AV.isAgg (AV.atAgg x0 (ys449.getD 0 default) 0 4) 4) ∧
      (∃ r1025 : AV, ((Fn Try.prog 81 [(AV.cel (AV.atAgg x0 (ys449.getD 0 default) 0 4) 0)] Sh.sc r1025) ∧
      ((AV.isBool r1025) ∧
      (((isT r1025) →
        ((AV.isBool r1025) ∧
        ((isT r1025) ∧
        ((AV.flat (AV.int 12)) ∧
        (fSame (AV.int 12) r))))) ∧
      ((isF r1025) →
        ((AV.binOk Go.BinOp.gtr (ys449.getD 0 default) (AV.int 0)) ∧
        ((AV.isBool (AV.bin Go.BinOp.gtr (ys449.getD 0 default) (AV.int 0))) ∧
        (((isT (AV.bin Go.BinOp.gtr (ys449.getD 0 default) (AV.int 0))) →
          ((AV.binOk Go.BinOp.sub (ys449.getD 0 default) (AV.int 1)) ∧
          ((AV.isSl x0 4) ∧
          ((AV.inb x0 (AV.bin Go.BinOp.sub (ys449.getD 0 default) (AV.int 1))) ∧
          ((AV.binOk Go.BinOp.lss (AV.cel (AV.atAgg x0 (ys449.getD 0 default) 0 4) 0) (AV.at x0 (AV.bin Go.BinOp.sub (ys449.getD 0 default) (AV.int 1)) 0)) ∧
          ((AV.isBool (AV.bin Go.BinOp.gtr (ys449.getD 0 default) (AV.int 0))) ∧
          ((isT (AV.bin Go.BinOp.gtr (ys449.getD 0 default) (AV.int 0))) ∧
          ((AV.isBool r1025) ∧
          ((isF r1025) ∧
          ((AV.isBool (AV.bin Go.BinOp.lss (AV.cel (AV.atAgg x0 (ys449.getD 0 default) 0 4) 0) (AV.at x0 (AV.bin Go.BinOp.sub (ys449.getD 0 default) (AV.int 1)) 0))) ∧
          (((isT (AV.bin Go.BinOp.lss (AV.cel (AV.atAgg x0 (ys449.getD 0 default) 0 4) 0) (AV.at x0 (AV.bin Go.BinOp.sub (ys449.getD 0 default) (AV.int 1)) 0))) →
            ((AV.flat (AV.int 12)) ∧
            (fSame (AV.int 12) r))) ∧
          ((isF (AV.bin Go.BinOp.lss (AV.cel (AV.atAgg x0 (ys449.getD 0 default) 0 4) 0) (AV.at x0 (AV.bin Go.BinOp.sub (ys449.getD 0 default) (AV.int 1)) 0))) →
            (∃ r2177 : AV, ((Fn Try.prog 83 [(AV.cel (AV.atAgg x0 (ys449.getD 0 default) 0 4) 1)] Sh.sc r2177) ∧
            ((AV.binOk Go.BinOp.neq r2177 (AV.int 0)) ∧
            ((AV.isBool (AV.bin Go.BinOp.neq r2177 (AV.int 0))) ∧
            (((isT (AV.bin Go.BinOp.neq r2177 (AV.int 0))) →
              ((AV.flat r2177) ∧
              (fSame r2177 r))) ∧
            ((isF (AV.bin Go.BinOp.neq r2177 (AV.int 0))) →
              ((AV.binOk Go.BinOp.neq (AV.cel (AV.atAgg x0 (ys449.getD 0 default) 0 4) 3) (AV.int 0)) ∧
              ((AV.isBool (AV.bin Go.BinOp.neq (AV.cel (AV.atAgg x0 (ys449.getD 0 default) 0 4) 3) (AV.int 0))) ∧
              (((isT (AV.bin Go.BinOp.neq (AV.cel (AV.atAgg x0 (ys449.getD 0 default) 0 4) 3) (AV.int 0))) →
                ((AV.binOk Go.BinOp.neq (AV.cel (AV.atAgg x0 (ys449.getD 0 default) 0 4) 3) (AV.int 1)) ∧
                ((AV.isBool (AV.bin Go.BinOp.neq (AV.cel (AV.atAgg x0 (ys449.getD 0 default) 0 4) 3) (AV.int 0))) ∧
                ((isT (AV.bin Go.BinOp.neq (AV.cel (AV.atAgg x0 (ys449.getD 0 default) 0 4) 3) (AV.int 0))) ∧
                ((AV.isBool (AV.bin Go.BinOp.neq (AV.cel (AV.atAgg x0 (ys449.getD 0 default) 0 4) 3) (AV.int 1))) ∧
                (((isT (AV.bin Go.BinOp.neq (AV.cel (AV.atAgg x0 (ys449.getD 0 default) 0 4) 3) (AV.int 1))) →
                  ((AV.flat (AV.int 1)) ∧
                  (fSame (AV.int 1) r))) ∧
                ((isF (AV.bin Go.BinOp.neq (AV.cel (AV.atAgg x0 (ys449.getD 0 default) 0 4) 3) (AV.int 1))) →
                  ((AV.binOk Go.BinOp.add (ys449.getD 0 default) (AV.int 1)) ∧
                  (again449 [(AV.bin Go.BinOp.add (ys449.getD 0 default) (AV.int 1))]))))))))) ∧
              ((isF (AV.bin Go.BinOp.neq (AV.cel (AV.atAgg x0 (ys449.getD 0 default) 0 4) 3) (AV.int 0))) →
                ((AV.isBool (AV.bin Go.BinOp.neq (AV.cel (AV.atAgg x0 (ys449.getD 0 default) 0 4) 3) (AV.int 0))) ∧
                ((isF (AV.bin Go.BinOp.neq (AV.cel (AV.atAgg x0 (ys449.getD 0 default) 0 4) 3) (AV.int 0))) ∧
                ((AV.binOk Go.BinOp.add (ys449.getD 0 default) (AV.int 1)) ∧
                (again449 [(AV.bin Go.BinOp.add (ys449.getD 0 default) (AV.int 1))])))))))))))))))))))))))))) ∧
        ((isF (AV.bin Go.BinOp.gtr (ys449.getD 0 default) (AV.int 0))) →
          ((AV.isBool (AV.bin Go.BinOp.gtr (ys449.getD 0 default) (AV.int 0))) ∧
          ((isF (AV.bin Go.BinOp.gtr (ys449.getD 0 default) (AV.int 0))) ∧
          ((AV.isBool r1025) ∧
          ((isF r1025) ∧
          (∃ r2177 : AV, ((Fn Try.prog 83 [(AV.cel (AV.atAgg x0 (ys449.getD 0 default) 0 4) 1)] Sh.sc r2177) ∧
          ((AV.binOk Go.BinOp.neq r2177 (AV.int 0)) ∧
          ((AV.isBool (AV.bin Go.BinOp.neq r2177 (AV.int 0))) ∧
          (((isT (AV.bin Go.BinOp.neq r2177 (AV.int 0))) →
            ((AV.flat r2177) ∧
            (fSame r2177 r))) ∧
          ((isF (AV.bin Go.BinOp.neq r2177 (AV.int 0))) →
            ((AV.binOk Go.BinOp.neq (AV.cel (AV.atAgg x0 (ys449.getD 0 default) 0 4) 3) (AV.int 0)) ∧
            ((AV.isBool (AV.bin Go.BinOp.neq (AV.cel (AV.atAgg x0 (ys449.getD 0 default) 0 4) 3) (AV.int 0))) ∧
            (((isT (AV.bin Go.BinOp.neq (AV.cel (AV.atAgg x0 (ys449.getD 0 default) 0 4) 3) (AV.int 0))) →
              ((AV.binOk Go.BinOp.neq (AV.cel (AV.atAgg x0 (ys449.getD 0 default) 0 4) 3) (AV.int 1)) ∧
              ((AV.isBool (AV.bin Go.BinOp.neq (AV.cel (AV.atAgg x0 (ys449.getD 0 default) 0 4) 3) (AV.int 0))) ∧
              ((isT (AV.bin Go.BinOp.neq (AV.cel (AV.atAgg x0 (ys449.getD 0 default) 0 4) 3) (AV.int 0))) ∧
              ((AV.isBool (AV.bin Go.BinOp.neq (AV.cel (AV.atAgg x0 (ys449.getD 0 default) 0 4) 3) (AV.int 1))) ∧
              (((isT (AV.bin Go.BinOp.neq (AV.cel (AV.atAgg x0 (ys449.getD 0 default) 0 4) 3) (AV.int 1))) →
                ((AV.flat (AV.int 1)) ∧
                (fSame (AV.int 1) r))) ∧
              ((isF (AV.bin Go.BinOp.neq (AV.cel (AV.atAgg x0 (ys449.getD 0 default) 0 4) 3) (AV.int 1))) →
                ((AV.binOk Go.BinOp.add (ys449.getD 0 default) (AV.int 1)) ∧
                (again449 [(AV.bin Go.BinOp.add (ys449.getD 0 default) (AV.int 1))]))))))))) ∧
            ((isF (AV.bin Go.BinOp.neq (AV.cel (AV.atAgg x0 (ys449.getD 0 default) 0 4) 3) (AV.int 0))) →
              ((AV.isBool (AV.bin Go.BinOp.neq (AV.cel (AV.atAgg x0 (ys449.getD 0 default) 0 4) 3) (AV.int 0))) ∧
              ((isF (AV.bin Go.BinOp.neq (AV.cel (AV.atAgg x0 (ys449.getD 0 default) 0 4) 3) (AV.int 0))) ∧
              ((AV.binOk Go.BinOp.add (ys449.getD 0 default) (AV.int 1)) ∧
              (again449 [(AV.bin Go.BinOp.add (ys449.getD 0 default) (AV.int 1))]))))))))))))))))))))))))))))))) ∧
    ((isF (AV.bin Go.BinOp.lss (ys449.getD 0 default) (AV.len x0))) →
      ((AV.flat (AV.int 0)) ∧
      (fSame (AV.int 0) r)))))))))))))) := by kernel_rfl
theorem spans_form (x0 r : AV) : fnF Try.prog Γ ann 2 19 Try.f19 (Try.f19.body.getD .skip) ((.both .nil (.both .nil (.both (.both (.both .nil (.both .nil (.both (.both .nil (.t .nil)) (.f .nil)))) (.both .nil (.both (.both .nil (.t .nil)) (.f .nil)))) .nil)))) [x0] (.sc) r = (((AV.isSl x0 2) ∧
((AV.binOk Go.BinOp.gtr (AV.len x0) (AV.int 24)) ∧
((AV.isBool (AV.bin Go.BinOp.gtr (AV.len x0) (AV.int 24))) ∧
(((isT (AV.bin Go.BinOp.gtr (AV.len x0) (AV.int 24))) →
  ((AV.flat (AV.int 2)) ∧
  (fSame (AV.int 2) r))) ∧
((isF (AV.bin Go.BinOp.gtr (AV.len x0) (AV.int 24))) →
  ((AV.isSl x0 2) ∧
  ((AV.binOk Go.BinOp.eql (AV.len x0) (AV.int 0)) ∧
  ((AV.isBool (AV.bin Go.BinOp.eql (AV.len x0) (AV.int 0))) ∧
  (((isT (AV.bin Go.BinOp.eql (AV.len x0) (AV.int 0))) →
    ((AV.flat (AV.int 8)) ∧
    (fSame (AV.int 8) r))) ∧
  ((isF (AV.bin Go.BinOp.eql (AV.len x0) (AV.int 0))) →
    ((AV.isSl x0 2) ∧
    (fLoop 769 [(AV.int 0)] fun ys769 again769 =>
      ((AV.binOk Go.BinOp.lss (ys769.getD 0 default) (AV.len x0)) ∧
      ((AV.isBool (AV.bin Go.BinOp.lss (ys769.getD 0 default) (AV.len x0))) ∧
      (((isT (AV.bin Go.BinOp.lss (ys769.getD 0 default) (AV.len x0))) →
        ((AV.isSl x0 2) ∧
        ((AV.inb x0 (ys769.getD 0 default)) ∧
        ((AV.isAgg (AV.atAgg x0 (ys769.getD 0 default) 0 2) 2) ∧
        ((AV.binOk Go.BinOp.neq (AV.cel (AV.atAgg x0 (ys769.getD 0 default) 0 2) 1) (AV.int 0)) ∧
        ((AV.isBool (AV.bin Go.BinOp.neq (AV.cel (AV.atAgg x0 (ys769.getD 0 default) 0 2) 1) (AV.int 0))) ∧
        (((isT (AV.bin Go.BinOp.neq (AV.cel (AV.atAgg x0 (ys769.getD 0 default) 0 2) 1) (AV.int 0))) →
          ((AV.binOk Go.BinOp.neq (AV.cel (AV.atAgg x0 (ys769.getD 0 default) 0 2) 1) (AV.int 1)) ∧
          ((AV.isBool (AV.bin Go.BinOp.neq (AV.cel (AV.atAgg x0 (ys769.getD 0 default) 0 2) 1) (AV.int 0))) ∧
          ((isT (AV.bin Go.BinOp.neq (AV.cel (AV.atAgg x0 (ys769.getD 0 default) 0 2) 1) (AV.int 0))) ∧
          ((AV.isBool (AV.bin Go.BinOp.neq (AV.cel (AV.atAgg x0 (ys769.getD 0 default) 0 2) 1) (AV.int 1))) ∧
          (((isT (AV.bin Go.BinOp.neq (AV.cel (AV.atAgg x0 (ys769.getD 0 default) 0 2) 1) (AV.int 1))) →
            ((AV.flat (AV.int 1)) ∧
            (fSame (AV.int 1) r))) ∧
          ((isF (AV.bin Go.BinOp.neq (AV.cel (AV.atAgg x0 (ys769.getD 0 default) 0 2) 1) (AV.int 1))) →
            (∃ r1921 : AV, ((Fn Try.prog 81 [(AV.cel (AV.atAgg x0 (ys769.getD 0 default) 0 2) 0)] Sh.sc r1921) ∧
            ((AV.isBool r1921) ∧
            (((isT r1921) →
              ((AV.isBool r1921) ∧
              ((isT r1921) ∧
              ((AV.flat (AV.int 12)) ∧
              (fSame (AV.int 12) r))))) ∧
            ((isF r1921) →
              ((AV.binOk Go.BinOp.gtr (ys769.getD 0 default) (AV.int 0)) ∧
              ((AV.isBool (AV.bin Go.BinOp.gtr (ys769.getD 0 default) (AV.int 0))) ∧
              (((isT (AV.bin Go.BinOp.gtr (ys769.getD 0 default) (AV.int 0))) →
                ((AV.binOk Go.BinOp.sub (ys769.getD 0 default) (AV.int 1)) ∧
                ((AV.isSl x0 2) ∧
                ((AV.inb x0 (AV.bin Go.BinOp.sub (ys769.getD 0 default) (AV.int 1))) ∧
                ((AV.binOk Go.BinOp.add (AV.at x0 (AV.bin Go.BinOp.sub (ys769.getD 0 default) (AV.int 1)) 0) (AV.int 360)) ∧
                ((AV.binOk Go.BinOp.lss (AV.cel (AV.atAgg x0 (ys769.getD 0 default) 0 2) 0) (AV.bin Go.BinOp.add (AV.at x0 (AV.bin Go.BinOp.sub (ys769.getD 0 default) (AV.int 1)) 0) (AV.int 360))) ∧
                ((AV.isBool (AV.bin Go.BinOp.gtr (ys769.getD 0 default) (AV.int 0))) ∧
                ((isT (AV.bin Go.BinOp.gtr (ys769.getD 0 default) (AV.int 0))) ∧
                ((AV.isBool r1921) ∧
                ((isF r1921) ∧
                ((AV.isBool (AV.bin Go.BinOp.lss (AV.cel (AV.atAgg x0 (ys769.getD 0 default) 0 2) 0) (AV.bin Go.BinOp.add (AV.at x0 (AV.bin Go.BinOp.sub (ys769.getD 0 default) (AV.int 1)) 0) (AV.int 360)))) ∧
                (((isT (AV.bin Go.BinOp.lss (AV.cel (AV.atAgg x0 (ys769.getD 0 default) 0 2) 0) (AV.bin Go.BinOp.add (AV.at x0 (AV.bin Go.BinOp.sub (ys769.getD 0 default) (AV.int 1)) 0) (AV.int 360)))) →
                  ((AV.flat (AV.int 12)) ∧
                  (fSame (AV.int 12) r))) ∧
                ((isF (AV.bin Go.BinOp.lss (AV.cel (AV.atAgg x0 (ys769.getD 0 default) 0 2) 0) (AV.bin Go.BinOp.add (AV.at x0 (AV.bin Go.BinOp.sub (ys769.getD 0 default) (AV.int 1)) 0) (AV.int 360)))) →
                  ((AV.binOk Go.BinOp.gtr (ys769.getD 0 default) (AV.int 0)) ∧
                  ((AV.isBool (AV.bin Go.BinOp.gtr (ys769.getD 0 default) (AV.int 0))) ∧
                  ((isT (AV.bin Go.BinOp.gtr (ys769.getD 0 default) (AV.int 0))) ∧
                  ((AV.binOk Go.BinOp.sub (ys769.getD 0 default) (AV.int 1)) ∧
                  ((AV.isSl x0 2) ∧
                  ((AV.inb x0 (AV.bin Go.BinOp.sub (ys769.getD 0 default) (AV.int 1))) ∧
                  ((AV.binOk Go.BinOp.eql (AV.cel (AV.atAgg x0 (ys769.getD 0 default) 0 2) 1) (AV.at x0 (AV.bin Go.BinOp.sub (ys769.getD 0 default) (AV.int 1)) 1)) ∧
                  ((AV.isBool (AV.bin Go.BinOp.gtr (ys769.getD 0 default) (AV.int 0))) ∧
                  ((isT (AV.bin Go.BinOp.gtr (ys769.getD 0 default) (AV.int 0))) ∧
                  ((AV.isBool (AV.bin Go.BinOp.eql (AV.cel (AV.atAgg x0 (ys769.getD 0 default) 0 2) 1) (AV.at x0 (AV.bin Go.BinOp.sub (ys769.getD 0 default) (AV.int 1)) 1))) ∧
                  (((isT (AV.bin Go.BinOp.eql (AV.cel (AV.atAgg x0 (ys769.getD 0 default) 0 2) 1) (AV.at x0 (AV.bin Go.BinOp.sub (ys769.getD 0 default) (AV.int 1)) 1))) →
                    ((AV.flat (AV.int 11)) ∧
                    (fSame (AV.int 11) r))) ∧
                  ((isF (AV.bin Go.BinOp.eql (AV.cel (AV.atAgg x0 (ys769.getD 0 default) 0 2) 1) (AV.at x0 (AV.bin Go.BinOp.sub (ys769.getD 0 default) (AV.int 1)) 1))) →
                    ((AV.binOk Go.BinOp.add (ys769.getD 0 default) (AV.int 1)) ∧
                    (again769 [(AV.bin Go.BinOp.add (ys769.getD 0 default) (AV.int 1))]))))))))))))))))))))))))))) ∧
              ((isF (AV.bin Go.BinOp.gtr (ys769.getD 0 default) (AV.int 0))) →
                ((AV.isBool (AV.bin Go.BinOp.gtr (ys769.getD 0 default) (AV.int 0))) ∧
                ((isF (AV.bin Go.BinOp.gtr (ys769.getD 0 default) (AV.int 0))) ∧
                ((AV.isBool r1921) ∧
                ((isF r1921) ∧
                ((AV.binOk Go.BinOp.gtr (ys769.getD 0 default) (AV.int 0)) ∧
                ((AV.isBool (AV.bin Go.BinOp.gtr (ys769.getD 0 default) (AV.int 0))) ∧
                ((isF (AV.bin Go.BinOp.gtr (ys769.getD 0 default) (AV.int 0))) ∧
                ((AV.isBool (AV.bin Go.BinOp.gtr (ys769.getD 0 default) (AV.int 0))) ∧
                ((isF (AV.bin Go.BinOp.gtr (ys769.getD 0 default) (AV.int 0))) ∧
                ((AV.binOk Go.BinOp.add (ys769.getD 0 default) (AV.int 1)) ∧
                (again769 [(AV.bin Go.BinOp.add (ys769.getD 0 default) (AV.int 1))]))))))))))))))))))))))))))) ∧
        ((isF (AV.bin Go.BinOp.neq (AV.cel (AV.atAgg x0 (ys769.getD 0 default) 0 2) 1) (AV.int 0))) →
          ((AV.isBool (AV.bin Go.BinOp.neq (AV.cel (AV.atAgg x0 (ys769.getD 0 default) 0 2) 1) (AV.int 0))) ∧
          ((isF (AV.bin Go.BinOp.neq (AV.cel (AV.atAgg x0 (ys769.getD 0 default) 0 2) 1) (AV.int 0))) ∧
          (∃ r1921 : AV, ((Fn Try.prog 81 [(AV.cel (AV.atAgg x0 (ys769.getD 0 default) 0 2) 0)] Sh.sc r1921) ∧
          ((AV.isBool r1921) ∧
          (((isT r1921) →
            ((AV.isBool r1921) ∧
            ((isT r1921) ∧
            ((AV.flat (AV.int 12)) ∧
            (fSame (AV.int 12) r))))) ∧
          ((isF r1921) →
            ((AV.binOk Go.BinOp.gtr (ys769.getD 0 default) (AV.int 0)) ∧
            ((AV.isBool (AV.bin Go.BinOp.gtr (ys769.getD 0 default) (AV.int 0))) ∧
            (((isT (AV.bin Go.BinOp.gtr (ys769.getD 0 default) (AV.int 0))) →
              ((AV.binOk Go.BinOp.sub (ys769.getD 0 default) (AV.int 1)) ∧
              ((AV.isSl x0 2) ∧
              ((AV.inb x0 (AV.bin Go.BinOp.sub (ys769.getD 0 default) (AV.int 1))) ∧
              ((AV.binOk Go.BinOp.add (AV.at x0 (AV.bin Go.BinOp.sub (ys769.getD 0 default) (AV.int 1)) 0) (AV.int 360)) ∧
              ((AV.binOk Go.BinOp.lss (AV.cel (AV.atAgg x0 (ys769.getD 0 default) 0 2) 0) (AV.bin Go.BinOp.add (AV.at x0 (AV.bin Go.BinOp.sub (ys769.getD 0 default) (AV.int 1)) 0) (AV.int 360))) ∧
              ((AV.isBool (AV.bin Go.BinOp.gtr (ys769.getD 0 default) (AV.int 0))) ∧
              ((isT (AV.bin Go.BinOp.gtr (ys769.getD 0 default) (AV.int 0))) ∧
              ((AV.isBool r1921) ∧
              ((isF r1921) ∧
              ((AV.isBool (AV.bin Go.BinOp.lss (AV.cel (AV.atAgg x0 (ys769.getD 0 default) 0 2) 0) (AV.bin Go.BinOp.add (AV.at x0 (AV.bin Go.BinOp.sub (ys769.getD 0 default) (AV.int 1)) 0) (AV.int 360)))) ∧
              (((isT (AV.bin Go.BinOp.lss (AV.cel (AV.atAgg x0 (ys769.getD 0 default) 0 2) 0) (AV.bin Go.BinOp.add (AV.at x0 (AV.bin Go.BinOp.sub (ys769.getD 0 default) (AV.int 1)) 0) (AV.int 360)))) →
                ((AV.flat (AV.int 12)) ∧
                (fSame (AV.int 12) r))) ∧
              ((isF (AV.bin Go.BinOp.lss (AV.cel (AV.atAgg x0 (ys769.getD 0 default) 0 2) 0) (AV.bin Go.BinOp.add (AV.at x0 (AV.bin Go.BinOp.sub (ys769.getD 0 default) (AV.int 1)) 0) (AV.int 360)))) →
                ((AV.binOk Go.BinOp.gtr (ys769.getD 0 default) (AV.int 0)) ∧
                ((AV.isBool (AV.bin Go.BinOp.gtr (ys769.getD 0 default) (AV.int 0))) ∧
                ((isT (AV.bin Go.BinOp.gtr (ys769.getD 0 default) (AV.int 0))) ∧
                ((AV.binOk Go.BinOp.sub (ys769.getD 0 default) (AV.int 1)) ∧
                ((AV.isSl x0 2) ∧
                ((AV.inb x0 (AV.bin Go.BinOp.sub (ys769.getD 0 default) (AV.int 1))) ∧
                ((AV.binOk Go.BinOp.eql (AV.cel (AV.atAgg x0 (ys769.getD 0 default) 0 2) 1) (AV.at x0 (AV.bin Go.BinOp.sub (ys769.getD 0 default) (AV.int 1)) 1)) ∧
                ((AV.isBool (AV.bin Go.BinOp.gtr (ys769.getD 0 default) (AV.int 0))) ∧
                ((isT (AV.bin Go.BinOp.gtr (ys769.getD 0 default) (AV.int 0))) ∧
                ((AV.isBool (AV.bin Go.BinOp.eql (AV.cel (AV.atAgg x0 (ys769.getD 0 default) 0 2) 1) (AV.at x0 (AV.bin Go.BinOp.sub (ys769.getD 0 default) (AV.int 1)) 1))) ∧
                (((isT (AV.bin Go.BinOp.eql (AV.cel (AV.atAgg x0 (ys769.getD 0 default) 0 2) 1) (AV.at x0 (AV.bin Go.BinOp.sub (ys769.getD 0 default) (AV.int 1)) 1))) →
                  ((AV.flat (AV.int 11)) ∧
                  (fSame (AV.int 11) r))) ∧
                ((isF (AV.bin Go.BinOp.eql (AV.cel (AV.atAgg x0 (ys769.getD 0 default) 0 2) 1) (AV.at x0 (AV.bin Go.BinOp.sub (ys769.getD 0 default) (AV.int 1)) 1))) →
                  ((AV.binOk Go.BinOp.add (ys769.getD 0 default) (AV.int 1)) ∧
                  (again769 [(AV.bin Go.BinOp.add (ys769.getD 0 default) (AV.int 1))]))))))))))))))))))))))))))) ∧
            ((isF (AV.bin Go.BinOp.gtr (ys769.getD 0 default) (AV.int 0))) →
              ((AV.isBool (AV.bin Go.BinOp.gtr (ys769.getD 0 default) (AV.int 0))) ∧
              ((isF (AV.bin Go.BinOp.gtr (ys769.getD 0 default) (AV.int 0))) ∧
              ((AV.isBool r1921) ∧
              ((isF r1921) ∧
              ((AV.binOk Go.BinOp.gtr (ys769.getD 0 default) (AV.int 0)) ∧
              ((AV.isBool (AV.bin Go.BinOp.gtr (ys769.getD 0 default) (AV.int 0))) ∧
              ((isF (AV.bin Go.BinOp.gtr (ys769.getD 0 default) (AV.int 0))) ∧
              ((AV.isBool (AV.bin Go.BinOp.gtr (ys769.getD 0 default) (AV.int 0))) ∧
              ((isF (AV.bin Go.BinOp.gtr (ys769.getD 0 default) (AV.int 0))) ∧
              ((AV.binOk Go.BinOp.add (ys769.getD 0 default) (AV.int 1)) ∧
              (again769 [(AV.bin Go.BinOp.add (ys769.getD 0 default) (AV.int 1))])))))))))))))))))))))))))))))) ∧
      ((isF (AV.bin Go.BinOp.lss (ys769.getD 0 default) (AV.len x0))) →
        ((AV.flat (AV.int 0)) ∧
        (fSame (AV.int 0) r))))))))))))))))))) := by kernel_rfl
theorem dir_form (x0 x1 r : AV) : fnF Try.prog Γ ann 1 82 Try.f82 (Try.f82.body.getD .skip) (.nil) [x0, x1] (.tup [.sc, .sc]) r = (((AV.isSl x0 2) ∧
((AV.inb x0 (AV.int 0)) ∧
((AV.binOk Go.BinOp.lss x1 (AV.at x0 (AV.int 0) 0)) ∧
((AV.isBool (AV.bin Go.BinOp.lss x1 (AV.at x0 (AV.int 0) 0))) ∧
(((isT (AV.bin Go.BinOp.lss x1 (AV.at x0 (AV.int 0) 0))) →
  ((AV.flat (AV.int 0)) ∧
  ((AV.flat (AV.bool false)) ∧
  (fSame (AV.tup [(AV.int 0), (AV.bool false)]) r)))) ∧
((isF (AV.bin Go.BinOp.lss x1 (AV.at x0 (AV.int 0) 0))) →
  ((AV.isSl x0 2) ∧
  ((AV.inb x0 (AV.int 0)) ∧
  ((AV.isSl x0 2) ∧
  ((AV.subOk x0 (AV.int 1) (AV.len x0)) ∧
  ((AV.isSl (AV.sub 2 x0 (AV.int 1) (AV.len x0)) 2) ∧
  (fLoop 1089 [(AV.at x0 (AV.int 0) 1), (AV.int 0)] fun ys1089 again1089 =>
    ((AV.binOk Go.BinOp.lss (ys1089.getD 1 default) (AV.len (AV.sub 2 x0 (AV.int 1) (AV.len x0)))) ∧
    ((AV.isBool (AV.bin Go.BinOp.lss (ys1089.getD 1 default) (AV.len (AV.sub 2 x0 (AV.int 1) (AV.len x0))))) ∧
    (((isT (AV.bin Go.BinOp.lss (ys1089.getD 1 default) (AV.len (AV.sub 2 x0 (AV.int 1) (AV.len x0))))) →
      ((AV.isSl (AV.sub 2 x0 (AV.int 1) (AV.len x0)) 2) ∧
      ((AV.inb (AV.sub 2 x0 (AV.int 1) (AV.len x0)) (ys1089.getD 1 default)) ∧
      ((AV.isAgg (AV.atAgg (AV.sub 2 x0 (AV.int 1) (AV.len x0)) (ys1089.getD 1 default) 0 2) 2) ∧
      ((AV.binOk Go.BinOp.sub x1 (AV.cel (AV.atAgg (AV.sub 2 x0 (AV.int 1) (AV.len x0)) (ys1089.getD 1 default) 0 2) 0)) ∧
      ((AV.binOk Go.BinOp.sub (AV.cel (AV.atAgg (AV.sub 2 x0 (AV.int 1) (AV.len x0)) (ys1089.getD 1 default) 0 2) 0) x1) ∧
      ((AV.isInt (AV.bin Go.BinOp.sub x1 (AV.cel (AV.atAgg (AV.sub 2 x0 (AV.int 1) (AV.len x0)) (ys1089.getD 1 default) 0 2) 0))) ∧
      ((AV.isInt (AV.bin Go.BinOp.sub (AV.cel (AV.atAgg (AV.sub 2 x0 (AV.int 1) (AV.len x0)) (ys1089.getD 1 default) 0 2) 0) x1)) ∧
      ((AV.binOk Go.BinOp.lss (AV.mx (AV.bin Go.BinOp.sub x1 (AV.cel (AV.atAgg (AV.sub 2 x0 (AV.int 1) (AV.len x0)) (ys1089.getD 1 default) 0 2) 0)) (AV.bin Go.BinOp.sub (AV.cel (AV.atAgg (AV.sub 2 x0 (AV.int 1) (AV.len x0)) (ys1089.getD 1 default) 0 2) 0) x1)) (AV.int 180)) ∧
      ((AV.isBool (AV.bin Go.BinOp.lss (AV.mx (AV.bin Go.BinOp.sub x1 (AV.cel (AV.atAgg (AV.sub 2 x0 (AV.int 1) (AV.len x0)) (ys1089.getD 1 default) 0 2) 0)) (AV.bin Go.BinOp.sub (AV.cel (AV.atAgg (AV.sub 2 x0 (AV.int 1) (AV.len x0)) (ys1089.getD 1 default) 0 2) 0) x1)) (AV.int 180))) ∧
      (((isT (AV.bin Go.BinOp.lss (AV.mx (AV.bin Go.BinOp.sub x1 (AV.cel (AV.atAgg (AV.sub 2 x0 (AV.int 1) (AV.len x0)) (ys1089.getD 1 default) 0 2) 0)) (AV.bin Go.BinOp.sub (AV.cel (AV.atAgg (AV.sub 2 x0 (AV.int 1) (AV.len x0)) (ys1089.getD 1 default) 0 2) 0) x1)) (AV.int 180))) →
        ((AV.flat (AV.int 0)) ∧
        ((AV.flat (AV.bool false)) ∧
        (fSame (AV.tup [(AV.int 0), (AV.bool false)]) r)))) ∧
      ((isF (AV.bin Go.BinOp.lss (AV.mx (AV.bin Go.BinOp.sub x1 (AV.cel (AV.atAgg (AV.sub 2 x0 (AV.int 1) (AV.len x0)) (ys1089.getD 1 default) 0 2) 0)) (AV.bin Go.BinOp.sub (AV.cel (AV.atAgg (AV.sub 2 x0 (AV.int 1) (AV.len x0)) (ys1089.getD 1 default) 0 2) 0) x1)) (AV.int 180))) →
        ((AV.binOk Go.BinOp.leq (AV.cel (AV.atAgg (AV.sub 2 x0 (AV.int 1) (AV.len x0)) (ys1089.getD 1 default) 0 2) 0) x1) ∧
        ((AV.isBool (AV.bin Go.BinOp.leq (AV.cel (AV.atAgg (AV.sub 2 x0 (AV.int 1) (AV.len x0)) (ys1089.getD 1 default) 0 2) 0) x1)) ∧
        (((isT (AV.bin Go.BinOp.leq (AV.cel (AV.atAgg (AV.sub 2 x0 (AV.int 1) (AV.len x0)) (ys1089.getD 1 default) 0 2) 0) x1)) →
          ((AV.binOk Go.BinOp.add (ys1089.getD 1 default) (AV.int 1)) ∧
          (again1089 [(AV.cel (AV.atAgg (AV.sub 2 x0 (AV.int 1) (AV.len x0)) (ys1089.getD 1 default) 0 2) 1), (AV.bin Go.BinOp.add (ys1089.getD 1 default) (AV.int 1))]))) ∧
        ((isF (AV.bin Go.BinOp.leq (AV.cel (AV.atAgg (AV.sub 2 x0 (AV.int 1) (AV.len x0)) (ys1089.getD 1 default) 0 2) 0) x1)) →
          ((AV.binOk Go.BinOp.add (ys1089.getD 1 default) (AV.int 1)) ∧
          (again1089 [(ys1089.getD 0 default), (AV.bin Go.BinOp.add (ys1089.getD 1 default) (AV.int 1))])))))))))))))))))) ∧
    ((isF (AV.bin Go.BinOp.lss (ys1089.getD 1 default) (AV.len (AV.sub 2 x0 (AV.int 1) (AV.len x0))))) →
      ((AV.flat (ys1089.getD 0 default)) ∧
      ((AV.flat (AV.bool true)) ∧
      (fSame (AV.tup [(ys1089.getD 0 default), (AV.bool true)]) r)))))))))))))))))))) := by kernel_rfl
theorem Dir_form (x0 x1 r : AV) : fnF Try.prog Γ ann 2 15 Try.f15 (Try.f15.body.getD .skip) (.nil) [x0, x1] (.tup [.sc, .sc]) r = ((∃ r193 : AV, ((Fn Try.prog 19 [x0] Sh.sc r193) ∧
((AV.binOk Go.BinOp.neq r193 (AV.int 0)) ∧
((AV.isBool (AV.bin Go.BinOp.neq r193 (AV.int 0))) ∧
(((isT (AV.bin Go.BinOp.neq r193 (AV.int 0))) →
  ((AV.flat (AV.int 0)) ∧
  ((AV.flat r193) ∧
  (fSame (AV.tup [(AV.int 0), r193]) r)))) ∧
((isF (AV.bin Go.BinOp.neq r193 (AV.int 0))) →
  (∃ r513 : AV, ((Fn Try.prog 81 [x1] Sh.sc r513) ∧
  ((AV.isBool r513) ∧
  (((isT r513) →
    ((AV.flat (AV.int 0)) ∧
    ((AV.flat (AV.int 12)) ∧
    (fSame (AV.tup [(AV.int 0), (AV.int 12)]) r)))) ∧
  ((isF r513) →
    (∃ r705 : AV, ((Fn Try.prog 82 [x0, x1] (Sh.tup [Sh.sc, Sh.sc]) r705) ∧
    ((AV.unOk Go.UnOp.not (AV.prj r705 1)) ∧
    ((AV.isBool (AV.un Go.UnOp.not (AV.prj r705 1))) ∧
    (((isT (AV.un Go.UnOp.not (AV.prj r705 1))) →
      ((AV.flat (AV.int 0)) ∧
      ((AV.flat (AV.int 14)) ∧
      (fSame (AV.tup [(AV.int 0), (AV.int 14)]) r)))) ∧
    ((isF (AV.un Go.UnOp.not (AV.prj r705 1))) →
      ((AV.flat (AV.prj r705 0)) ∧
      ((AV.flat (AV.int 0)) ∧
      (fSame (AV.tup [(AV.prj r705 0), (AV.int 0)]) r))))))))))))))))))))) := by kernel_rfl
theorem gap_form (x0 x1 x2 r : AV) : fnF Try.prog Γ ann 0 85 Try.f85 (Try.f85.body.getD .skip) (.nil) [x0, x1, x2] (.sc) r = (((AV.isAgg x0 16) ∧
((AV.isAgg x1 4) ∧
((AV.isAgg x2 4) ∧
((AV.isBool (AV.cel x1 2)) ∧
((AV.isBool (AV.cel x2 2)) ∧
((AV.isBool (AV.neB (AV.cel x1 2) (AV.cel x2 2))) ∧
(((isT (AV.neB (AV.cel x1 2) (AV.cel x2 2))) →
  ((AV.flat (AV.int 60)) ∧
  (fSame (AV.int 60) r))) ∧
((isF (AV.neB (AV.cel x1 2) (AV.cel x2 2))) →
  ((AV.inl 4 (AV.cel x1 1)) ∧
  ((AV.inl 4 (AV.cel x2 1)) ∧
  ((AV.nthOk 16 0 [((AV.cel x2 1), 1), ((AV.cel x1 1), 4)]) ∧
  ((AV.flat (AV.nth [(AV.cel x0 0), (AV.cel x0 1), (AV.cel x0 2), (AV.cel x0 3), (AV.cel x0 4), (AV.cel x0 5), (AV.cel x0 6), (AV.cel x0 7), (AV.cel x0 8), (AV.cel x0 9), (AV.cel x0 10), (AV.cel x0 11), (AV.cel x0 12), (AV.cel x0 13), (AV.cel x0 14), (AV.cel x0 15)] 0 [((AV.cel x2 1), 1), ((AV.cel x1 1), 4)])) ∧
  (fSame (AV.nth [(AV.cel x0 0), (AV.cel x0 1), (AV.cel x0 2), (AV.cel x0 3), (AV.cel x0 4), (AV.cel x0 5), (AV.cel x0 6), (AV.cel x0 7), (AV.cel x0 8), (AV.cel x0 9), (AV.cel x0 10), (AV.cel x0 11), (AV.cel x0 12), (AV.cel x0 13), (AV.cel x0 14), (AV.cel x0 15)] 0 [((AV.cel x2 1), 1), ((AV.cel x1 1), 4)]) r)))))))))))))) := by kernel_rfl
theorem Gap_form (x0 x1 x2 r : AV) : fnF Try.prog Γ ann 1 21 Try.f21 (Try.f21.body.getD .skip) (.nil) [x0, x1, x2] (.tup [.sc, .sc]) r = (((AV.isAgg x0 16) ∧
((AV.isAgg x1 4) ∧
((AV.isAgg x2 4) ∧
(∃ r385 : AV, ((Fn Try.prog 84 [(AV.agg [(AV.cel x0 0), (AV.cel x0 1), (AV.cel x0 2), (AV.cel x0 3), (AV.cel x0 4), (AV.cel x0 5), (AV.cel x0 6), (AV.cel x0 7), (AV.cel x0 8), (AV.cel x0 9), (AV.cel x0 10), (AV.cel x0 11), (AV.cel x0 12), (AV.cel x0 13), (AV.cel x0 14), (AV.cel x0 15)])] Sh.sc r385) ∧
((AV.binOk Go.BinOp.neq r385 (AV.int 0)) ∧
((AV.isBool (AV.bin Go.BinOp.neq r385 (AV.int 0))) ∧
(((isT (AV.bin Go.BinOp.neq r385 (AV.int 0))) →
  ((AV.flat (AV.int 0)) ∧
  ((AV.flat r385) ∧
  (fSame (AV.tup [(AV.int 0), r385]) r)))) ∧
((isF (AV.bin Go.BinOp.neq r385 (AV.int 0))) →
  (fLoop 897 [(AV.int 0)] fun ys897 again897 =>
    ((AV.binOk Go.BinOp.lss (ys897.getD 0 default) (AV.int 2)) ∧
    ((AV.isBool (AV.bin Go.BinOp.lss (ys897.getD 0 default) (AV.int 2))) ∧
    (((isT (AV.bin Go.BinOp.lss (ys897.getD 0 default) (AV.int 2))) →
      ((AV.inl 2 (ys897.getD 0 default)) ∧
      (∃ r1281 : AV, ((Fn Try.prog 17 [(AV.mk 4 [[(AV.nth [(AV.cel x1 0), (AV.cel x1 1), (AV.cel x1 2), (AV.cel x1 3), (AV.cel x2 0), (AV.cel x2 1), (AV.cel x2 2), (AV.cel x2 3)] 0 [((ys897.getD 0 default), 4)]), (AV.nth [(AV.cel x1 0), (AV.cel x1 1), (AV.cel x1 2), (AV.cel x1 3), (AV.cel x2 0), (AV.cel x2 1), (AV.cel x2 2), (AV.cel x2 3)] 1 [((ys897.getD 0 default), 4)]), (AV.nth [(AV.cel x1 0), (AV.cel x1 1), (AV.cel x1 2), (AV.cel x1 3), (AV.cel x2 0), (AV.cel x2 1), (AV.cel x2 2), (AV.cel x2 3)] 2 [((ys897.getD 0 default), 4)]), (AV.nth [(AV.cel x1 0), (AV.cel x1 1), (AV.cel x1 2), (AV.cel x1 3), (AV.cel x2 0), (AV.cel x2 1), (AV.cel x2 2), (AV.cel x2 3)] 3 [((ys897.getD 0 default), 4)])]])] Sh.sc r1281) ∧
      ((AV.binOk Go.BinOp.neq r1281 (AV.int 0)) ∧
      ((AV.isBool (AV.bin Go.BinOp.neq r1281 (AV.int 0))) ∧
      (((isT (AV.bin Go.BinOp.neq r1281 (AV.int 0))) →
        ((AV.flat (AV.int 0)) ∧
        ((AV.flat r1281) ∧
        (fSame (AV.tup [(AV.int 0), r1281]) r)))) ∧
      ((isF (AV.bin Go.BinOp.neq r1281 (AV.int 0))) →
        ((AV.binOk Go.BinOp.add (ys897.getD 0 default) (AV.int 1)) ∧
        (again897 [(AV.bin Go.BinOp.add (ys897.getD 0 default) (AV.int 1))])))))))))) ∧
    ((isF (AV.bin Go.BinOp.lss (ys897.getD 0 default) (AV.int 2))) →
      (∃ r1153 : AV, ((Fn Try.prog 85 [(AV.agg [(AV.cel x0 0), (AV.cel x0 1), (AV.cel x0 2), (AV.cel x0 3), (AV.cel x0 4), (AV.cel x0 5), (AV.cel x0 6), (AV.cel x0 7), (AV.cel x0 8), (AV.cel x0 9), (AV.cel x0 10), (AV.cel x0 11), (AV.cel x0 12), (AV.cel x0 13), (AV.cel x0 14), (AV.cel x0 15)]), (AV.agg [(AV.cel x1 0), (AV.cel x1 1), (AV.cel x1 2), (AV.cel x1 3)]), (AV.agg [(AV.cel x2 0), (AV.cel x2 1), (AV.cel x2 2), (AV.cel x2 3)])] Sh.sc r1153) ∧
      ((AV.flat r1153) ∧
      ((AV.flat (AV.int 0)) ∧
      (fSame (AV.tup [r1153, (AV.int 0)]) r)))))))))))))))))))) := by kernel_rfl
theorem safe_form (x0 x1 x2 r : AV) : fnF Try.prog Γ ann 1 24 Try.f24 (Try.f24.body.getD .skip) (.nil) [x0, x1, x2] (.tup [.sc, .sc, .sc]) r = (((AV.isAgg x2 16) ∧
(∃ r321 : AV, ((Fn Try.prog 17 [x0] Sh.sc r321) ∧
((AV.binOk Go.BinOp.neq r321 (AV.int 0)) ∧
((AV.isBool (AV.bin Go.BinOp.neq r321 (AV.int 0))) ∧
(((isT (AV.bin Go.BinOp.neq r321 (AV.int 0))) →
  ((AV.flat (AV.int 0)) ∧
  ((AV.flat (AV.int 0)) ∧
  ((AV.flat r321) ∧
  (fSame (AV.tup [(AV.int 0), (AV.int 0), r321]) r))))) ∧
((isF (AV.bin Go.BinOp.neq r321 (AV.int 0))) →
  (∃ r641 : AV, ((Fn Try.prog 19 [x1] Sh.sc r641) ∧
  ((AV.binOk Go.BinOp.neq r641 (AV.int 0)) ∧
  ((AV.isBool (AV.bin Go.BinOp.neq r641 (AV.int 0))) ∧
  (((isT (AV.bin Go.BinOp.neq r641 (AV.int 0))) →
    ((AV.flat (AV.int 0)) ∧
    ((AV.flat (AV.int 0)) ∧
    ((AV.flat r641) ∧
    (fSame (AV.tup [(AV.int 0), (AV.int 0), r641]) r))))) ∧
  ((isF (AV.bin Go.BinOp.neq r641 (AV.int 0))) →
    (∃ r961 : AV, ((Fn Try.prog 84 [(AV.agg [(AV.cel x2 0), (AV.cel x2 1), (AV.cel x2 2), (AV.cel x2 3), (AV.cel x2 4), (AV.cel x2 5), (AV.cel x2 6), (AV.cel x2 7), (AV.cel x2 8), (AV.cel x2 9), (AV.cel x2 10), (AV.cel x2 11), (AV.cel x2 12), (AV.cel x2 13), (AV.cel x2 14), (AV.cel x2 15)])] Sh.sc r961) ∧
    ((AV.binOk Go.BinOp.neq r961 (AV.int 0)) ∧
    ((AV.isBool (AV.bin Go.BinOp.neq r961 (AV.int 0))) ∧
    (((isT (AV.bin Go.BinOp.neq r961 (AV.int 0))) →
      ((AV.flat (AV.int 0)) ∧
      ((AV.flat (AV.int 0)) ∧
      ((AV.flat r961) ∧
      (fSame (AV.tup [(AV.int 0), (AV.int 0), r961]) r))))) ∧
    ((isF (AV.bin Go.BinOp.neq r961 (AV.int 0))) →
      ((AV.isSl x0 4) ∧
      (fLoop 1409 [(AV.int 0)] fun ys1409 again1409 =>
        ((AV.binOk Go.BinOp.lss (ys1409.getD 0 default) (AV.len x0)) ∧
        ((AV.isBool (AV.bin Go.BinOp.lss (ys1409.getD 0 default) (AV.len x0))) ∧
        (((isT (AV.bin Go.BinOp.lss (ys1409.getD 0 default) (AV.len x0))) →
          ((AV.isSl x0 4) ∧
          ((AV.inb x0 (ys1409.getD 0 default)) ∧
          ((AV.isAgg (AV.atAgg x0 (ys1409.getD 0 default) 0 4) 4) ∧
          (∃ r2049 : AV, ((Fn Try.prog 82 [x1, (AV.cel (AV.atAgg x0 (ys1409.getD 0 default) 0 4) 0)] (Sh.tup [Sh.sc, Sh.sc]) r2049) ∧
          ((AV.unOk Go.UnOp.not (AV.prj r2049 1)) ∧
          ((AV.isBool (AV.un Go.UnOp.not (AV.prj r2049 1))) ∧
          (((isT (AV.un Go.UnOp.not (AV.prj r2049 1))) →
            ((AV.isBool (AV.un Go.UnOp.not (AV.prj r2049 1))) ∧
            ((isT (AV.un Go.UnOp.not (AV.prj r2049 1))) ∧
            ((AV.flat (ys1409.getD 0 default)) ∧
            ((AV.flat (ys1409.getD 0 default)) ∧
            ((AV.flat (AV.int 14)) ∧
            (fSame (AV.tup [(ys1409.getD 0 default), (ys1409.getD 0 default), (AV.int 14)]) r))))))) ∧
          ((isF (AV.un Go.UnOp.not (AV.prj r2049 1))) →
            ((AV.binOk Go.BinOp.neq (AV.prj r2049 0) (AV.cel (AV.atAgg x0 (ys1409.getD 0 default) 0 4) 3)) ∧
            ((AV.isBool (AV.un Go.UnOp.not (AV.prj r2049 1))) ∧
            ((isF (AV.un Go.UnOp.not (AV.prj r2049 1))) ∧
            ((AV.isBool (AV.bin Go.BinOp.neq (AV.prj r2049 0) (AV.cel (AV.atAgg x0 (ys1409.getD 0 default) 0 4) 3))) ∧
            (((isT (AV.bin Go.BinOp.neq (AV.prj r2049 0) (AV.cel (AV.atAgg x0 (ys1409.getD 0 default) 0 4) 3))) →
              ((AV.flat (ys1409.getD 0 default)) ∧
              ((AV.flat (ys1409.getD 0 default)) ∧
              ((AV.flat (AV.int 14)) ∧
              (fSame (AV.tup [(ys1409.getD 0 default), (ys1409.getD 0 default), (AV.int 14)]) r))))) ∧
            ((isF (AV.bin Go.BinOp.neq (AV.prj r2049 0) (AV.cel (AV.atAgg x0 (ys1409.getD 0 default) 0 4) 3))) →
              ((AV.binOk Go.BinOp.add (ys1409.getD 0 default) (AV.int 1)) ∧
              (again1409 [(AV.bin Go.BinOp.add (ys1409.getD 0 default) (AV.int 1))])))))))))))))))))) ∧
        ((isF (AV.bin Go.BinOp.lss (ys1409.getD 0 default) (AV.len x0))) →
          ((AV.isSl x0 4) ∧
          (fLoop 1665 [(AV.int 0)] fun ys1665 again1665 =>
            ((AV.binOk Go.BinOp.lss (ys1665.getD 0 default) (AV.len x0)) ∧
            ((AV.isBool (AV.bin Go.BinOp.lss (ys1665.getD 0 default) (AV.len x0))) ∧
            (((isT (AV.bin Go.BinOp.lss (ys1665.getD 0 default) (AV.len x0))) →
              ((AV.isSl x0 4) ∧
              ((AV.inb x0 (ys1665.getD 0 default)) ∧
              ((AV.isAgg (AV.atAgg x0 (ys1665.getD 0 default) 0 4) 4) ∧
              ((AV.binOk Go.BinOp.add (ys1665.getD 0 default) (AV.int 1)) ∧
              (fLoop 2305 [(AV.bin Go.BinOp.add (ys1665.getD 0 default) (AV.int 1))] fun ys2305 again2305 =>
                ((AV.isSl x0 4) ∧
                ((AV.binOk Go.BinOp.lss (ys2305.getD 0 default) (AV.len x0)) ∧
                ((AV.isBool (AV.bin Go.BinOp.lss (ys2305.getD 0 default) (AV.len x0))) ∧
                (((isT (AV.bin Go.BinOp.lss (ys2305.getD 0 default) (AV.len x0))) →
                  ((AV.isSl x0 4) ∧
                  ((AV.inb x0 (ys2305.getD 0 default)) ∧
                  ((AV.binOk Go.BinOp.sub (AV.at x0 (ys2305.getD 0 default) 0) (AV.cel (AV.atAgg x0 (ys1665.getD 0 default) 0 4) 0)) ∧
                  ((AV.isSl x0 4) ∧
                  ((AV.inb x0 (ys2305.getD 0 default)) ∧
                  (∃ r3457 : AV, ((Fn Try.prog 85 [(AV.agg [(AV.cel x2 0), (AV.cel x2 1), (AV.cel x2 2), (AV.cel x2 3), (AV.cel x2 4), (AV.cel x2 5), (AV.cel x2 6), (AV.cel x2 7), (AV.cel x2 8), (AV.cel x2 9), (AV.cel x2 10), (AV.cel x2 11), (AV.cel x2 12), (AV.cel x2 13), (AV.cel x2 14), (AV.cel x2 15)]), (AV.agg [(AV.cel (AV.atAgg x0 (ys1665.getD 0 default) 0 4) 0), (AV.cel (AV.atAgg x0 (ys1665.getD 0 default) 0 4) 1), (AV.cel (AV.atAgg x0 (ys1665.getD 0 default) 0 4) 2), (AV.cel (AV.atAgg x0 (ys1665.getD 0 default) 0 4) 3)]), (AV.atAgg x0 (ys2305.getD 0 default) 0 4)] Sh.sc r3457) ∧
                  ((AV.binOk Go.BinOp.lss (AV.bin Go.BinOp.sub (AV.at x0 (ys2305.getD 0 default) 0) (AV.cel (AV.atAgg x0 (ys1665.getD 0 default) 0 4) 0)) r3457) ∧
                  ((AV.isBool (AV.bin Go.BinOp.lss (AV.bin Go.BinOp.sub (AV.at x0 (ys2305.getD 0 default) 0) (AV.cel (AV.atAgg x0 (ys1665.getD 0 default) 0 4) 0)) r3457)) ∧
                  (((isT (AV.bin Go.BinOp.lss (AV.bin Go.BinOp.sub (AV.at x0 (ys2305.getD 0 default) 0) (AV.cel (AV.atAgg x0 (ys1665.getD 0 default) 0 4) 0)) r3457)) →
                    ((AV.flat (ys1665.getD 0 default)) ∧
                    ((AV.flat (ys2305.getD 0 default)) ∧
                    ((AV.flat (AV.int 15)) ∧
                    (fSame (AV.tup [(ys1665.getD 0 default), (ys2305.getD 0 default), (AV.int 15)]) r))))) ∧
                  ((isF (AV.bin Go.BinOp.lss (AV.bin Go.BinOp.sub (AV.at x0 (ys2305.getD 0 default) 0) (AV.cel (AV.atAgg x0 (ys1665.getD 0 default) 0 4) 0)) r3457)) →
                    ((AV.binOk Go.BinOp.add (ys2305.getD 0 default) (AV.int 1)) ∧
                    (again2305 [(AV.bin Go.BinOp.add (ys2305.getD 0 default) (AV.int 1))])))))))))))))) ∧
                ((isF (AV.bin Go.BinOp.lss (ys2305.getD 0 default) (AV.len x0))) →
                  ((AV.binOk Go.BinOp.add (ys1665.getD 0 default) (AV.int 1)) ∧
                  (again1665 [(AV.bin Go.BinOp.add (ys1665.getD 0 default) (AV.int 1))]))))))))))))) ∧
            ((isF (AV.bin Go.BinOp.lss (ys1665.getD 0 default) (AV.len x0))) →
              ((AV.flat (AV.int 0)) ∧
              ((AV.flat (AV.int 0)) ∧
              ((AV.flat (AV.int 0)) ∧
              (fSame (AV.tup [(AV.int 0), (AV.int 0), (AV.int 0)]) r)))))))))))))))))))))))))))))))))))) := by kernel_rfl
theorem fits_form (x0 x1 x2 r : AV) : fnF Try.prog Γ ann 0 86 Try.f86 (Try.f86.body.getD .skip) (.nil) [x0, x1, x2] (.sc) r = (((AV.isAgg x1 4) ∧
((AV.isAgg x2 16) ∧
((AV.isSl x0 4) ∧
(fLoop 385 [(AV.int 0)] fun ys385 again385 =>
  ((AV.binOk Go.BinOp.lss (ys385.getD 0 default) (AV.len x0)) ∧
  ((AV.isBool (AV.bin Go.BinOp.lss (ys385.getD 0 default) (AV.len x0))) ∧
  (((isT (AV.bin Go.BinOp.lss (ys385.getD 0 default) (AV.len x0))) →
    ((AV.isSl x0 4) ∧
    ((AV.inb x0 (ys385.getD 0 default)) ∧
    ((AV.isAgg (AV.atAgg x0 (ys385.getD 0 default) 0 4) 4) ∧
    ((AV.binOk Go.BinOp.leq (AV.cel (AV.atAgg x0 (ys385.getD 0 default) 0 4) 0) (AV.cel x1 0)) ∧
    ((AV.isBool (AV.bin Go.BinOp.leq (AV.cel (AV.atAgg x0 (ys385.getD 0 default) 0 4) 0) (AV.cel x1 0))) ∧
    (((isT (AV.bin Go.BinOp.leq (AV.cel (AV.atAgg x0 (ys385.getD 0 default) 0 4) 0) (AV.cel x1 0))) →
      ((AV.binOk Go.BinOp.sub (AV.cel x1 0) (AV.cel (AV.atAgg x0 (ys385.getD 0 default) 0 4) 0)) ∧
      (∃ r1601 : AV, ((Fn Try.prog 85 [(AV.agg [(AV.cel x2 0), (AV.cel x2 1), (AV.cel x2 2), (AV.cel x2 3), (AV.cel x2 4), (AV.cel x2 5), (AV.cel x2 6), (AV.cel x2 7), (AV.cel x2 8), (AV.cel x2 9), (AV.cel x2 10), (AV.cel x2 11), (AV.cel x2 12), (AV.cel x2 13), (AV.cel x2 14), (AV.cel x2 15)]), (AV.agg [(AV.cel (AV.atAgg x0 (ys385.getD 0 default) 0 4) 0), (AV.cel (AV.atAgg x0 (ys385.getD 0 default) 0 4) 1), (AV.cel (AV.atAgg x0 (ys385.getD 0 default) 0 4) 2), (AV.cel (AV.atAgg x0 (ys385.getD 0 default) 0 4) 3)]), (AV.agg [(AV.cel x1 0), (AV.cel x1 1), (AV.cel x1 2), (AV.cel x1 3)])] Sh.sc r1601) ∧
      ((AV.binOk Go.BinOp.lss (AV.bin Go.BinOp.sub (AV.cel x1 0) (AV.cel (AV.atAgg x0 (ys385.getD 0 default) 0 4) 0)) r1601) ∧
      ((AV.isBool (AV.bin Go.BinOp.leq (AV.cel (AV.atAgg x0 (ys385.getD 0 default) 0 4) 0) (AV.cel x1 0))) ∧
      ((isT (AV.bin Go.BinOp.leq (AV.cel (AV.atAgg x0 (ys385.getD 0 default) 0 4) 0) (AV.cel x1 0))) ∧
      ((AV.isBool (AV.bin Go.BinOp.lss (AV.bin Go.BinOp.sub (AV.cel x1 0) (AV.cel (AV.atAgg x0 (ys385.getD 0 default) 0 4) 0)) r1601)) ∧
      (((isT (AV.bin Go.BinOp.lss (AV.bin Go.BinOp.sub (AV.cel x1 0) (AV.cel (AV.atAgg x0 (ys385.getD 0 default) 0 4) 0)) r1601)) →
        ((AV.isBool (AV.bin Go.BinOp.lss (AV.bin Go.BinOp.sub (AV.cel x1 0) (AV.cel (AV.atAgg x0 (ys385.getD 0 default) 0 4) 0)) r1601)) ∧
        ((isT (AV.bin Go.BinOp.lss (AV.bin Go.BinOp.sub (AV.cel x1 0) (AV.cel (AV.atAgg x0 (ys385.getD 0 default) 0 4) 0)) r1601)) ∧
        ((AV.flat (AV.bool false)) ∧
        (fSame (AV.bool false) r))))) ∧
      ((isF (AV.bin Go.BinOp.lss (AV.bin Go.BinOp.sub (AV.cel x1 0) (AV.cel (AV.atAgg x0 (ys385.getD 0 default) 0 4) 0)) r1601)) →
        ((AV.binOk Go.BinOp.geq (AV.cel (AV.atAgg x0 (ys385.getD 0 default) 0 4) 0) (AV.cel x1 0)) ∧
        ((AV.isBool (AV.bin Go.BinOp.geq (AV.cel (AV.atAgg x0 (ys385.getD 0 default) 0 4) 0) (AV.cel x1 0))) ∧
        (((isT (AV.bin Go.BinOp.geq (AV.cel (AV.atAgg x0 (ys385.getD 0 default) 0 4) 0) (AV.cel x1 0))) →
          ((AV.binOk Go.BinOp.sub (AV.cel (AV.atAgg x0 (ys385.getD 0 default) 0 4) 0) (AV.cel x1 0)) ∧
          (∃ r2753 : AV, ((Fn Try.prog 85 [(AV.agg [(AV.cel x2 0), (AV.cel x2 1), (AV.cel x2 2), (AV.cel x2 3), (AV.cel x2 4), (AV.cel x2 5), (AV.cel x2 6), (AV.cel x2 7), (AV.cel x2 8), (AV.cel x2 9), (AV.cel x2 10), (AV.cel x2 11), (AV.cel x2 12), (AV.cel x2 13), (AV.cel x2 14), (AV.cel x2 15)]), (AV.agg [(AV.cel x1 0), (AV.cel x1 1), (AV.cel x1 2), (AV.cel x1 3)]), (AV.agg [(AV.cel (AV.atAgg x0 (ys385.getD 0 default) 0 4) 0), (AV.cel (AV.atAgg x0 (ys385.getD 0 default) 0 4) 1), (AV.cel (AV.atAgg x0 (ys385.getD 0 default) 0 4) 2), (AV.cel (AV.atAgg x0 (ys385.getD 0 default) 0 4) 3)])] Sh.sc r2753) ∧
          ((AV.binOk Go.BinOp.lss (AV.bin Go.BinOp.sub (AV.cel (AV.atAgg x0 (ys385.getD 0 default) 0 4) 0) (AV.cel x1 0)) r2753) ∧
          ((AV.isBool (AV.bin Go.BinOp.geq (AV.cel (AV.atAgg x0 (ys385.getD 0 default) 0 4) 0) (AV.cel x1 0))) ∧
          ((isT (AV.bin Go.BinOp.geq (AV.cel (AV.atAgg x0 (ys385.getD 0 default) 0 4) 0) (AV.cel x1 0))) ∧
          ((AV.isBool (AV.bin Go.BinOp.lss (AV.bin Go.BinOp.sub (AV.cel x1 0) (AV.cel (AV.atAgg x0 (ys385.getD 0 default) 0 4) 0)) r1601)) ∧
          ((isF (AV.bin Go.BinOp.lss (AV.bin Go.BinOp.sub (AV.cel x1 0) (AV.cel (AV.atAgg x0 (ys385.getD 0 default) 0 4) 0)) r1601)) ∧
          ((AV.isBool (AV.bin Go.BinOp.lss (AV.bin Go.BinOp.sub (AV.cel (AV.atAgg x0 (ys385.getD 0 default) 0 4) 0) (AV.cel x1 0)) r2753)) ∧
          (((isT (AV.bin Go.BinOp.lss (AV.bin Go.BinOp.sub (AV.cel (AV.atAgg x0 (ys385.getD 0 default) 0 4) 0) (AV.cel x1 0)) r2753)) →
            ((AV.flat (AV.bool false)) ∧
            (fSame (AV.bool false) r))) ∧
          ((isF (AV.bin Go.BinOp.lss (AV.bin Go.BinOp.sub (AV.cel (AV.atAgg x0 (ys385.getD 0 default) 0 4) 0) (AV.cel x1 0)) r2753)) →
            ((AV.binOk Go.BinOp.add (ys385.getD 0 default) (AV.int 1)) ∧
            (again385 [(AV.bin Go.BinOp.add (ys385.getD 0 default) (AV.int 1))])))))))))))))) ∧
        ((isF (AV.bin Go.BinOp.geq (AV.cel (AV.atAgg x0 (ys385.getD 0 default) 0 4) 0) (AV.cel x1 0))) →
          ((AV.isBool (AV.bin Go.BinOp.geq (AV.cel (AV.atAgg x0 (ys385.getD 0 default) 0 4) 0) (AV.cel x1 0))) ∧
          ((isF (AV.bin Go.BinOp.geq (AV.cel (AV.atAgg x0 (ys385.getD 0 default) 0 4) 0) (AV.cel x1 0))) ∧
          ((AV.isBool (AV.bin Go.BinOp.lss (AV.bin Go.BinOp.sub (AV.cel x1 0) (AV.cel (AV.atAgg x0 (ys385.getD 0 default) 0 4) 0)) r1601)) ∧
          ((isF (AV.bin Go.BinOp.lss (AV.bin Go.BinOp.sub (AV.cel x1 0) (AV.cel (AV.atAgg x0 (ys385.getD 0 default) 0 4) 0)) r1601)) ∧
          ((AV.binOk Go.BinOp.add (ys385.getD 0 default) (AV.int 1)) ∧
          (again385 [(AV.bin Go.BinOp.add (ys385.getD 0 default) (AV.int 1))])))))))))))))))))))) ∧
    ((isF (AV.bin Go.BinOp.leq (AV.cel (AV.atAgg x0 (ys385.getD 0 default) 0 4) 0) (AV.cel x1 0))) →
      ((AV.isBool (AV.bin Go.BinOp.leq (AV.cel (AV.atAgg x0 (ys385.getD 0 default) 0 4) 0) (AV.cel x1 0))) ∧
      ((isF (AV.bin Go.BinOp.leq (AV.cel (AV.atAgg x0 (ys385.getD 0 default) 0 4) 0) (AV.cel x1 0))) ∧
      ((AV.binOk Go.BinOp.geq (AV.cel (AV.atAgg x0 (ys385.getD 0 default) 0 4) 0) (AV.cel x1 0)) ∧
      ((AV.isBool (AV.bin Go.BinOp.geq (AV.cel (AV.atAgg x0 (ys385.getD 0 default) 0 4) 0) (AV.cel x1 0))) ∧
      (((isT (AV.bin Go.BinOp.geq (AV.cel (AV.atAgg x0 (ys385.getD 0 default) 0 4) 0) (AV.cel x1 0))) →
        ((AV.binOk Go.BinOp.sub (AV.cel (AV.atAgg x0 (ys385.getD 0 default) 0 4) 0) (AV.cel x1 0)) ∧
        (∃ r2753 : AV, ((Fn Try.prog 85 [(AV.agg [(AV.cel x2 0), (AV.cel x2 1), (AV.cel x2 2), (AV.cel x2 3), (AV.cel x2 4), (AV.cel x2 5), (AV.cel x2 6), (AV.cel x2 7), (AV.cel x2 8), (AV.cel x2 9), (AV.cel x2 10), (AV.cel x2 11), (AV.cel x2 12), (AV.cel x2 13), (AV.cel x2 14), (AV.cel x2 15)]), (AV.agg [(AV.cel x1 0), (AV.cel x1 1), (AV.cel x1 2), (AV.cel x1 3)]), (AV.agg [(AV.cel (AV.atAgg x0 (ys385.getD 0 default) 0 4) 0), (AV.cel (AV.atAgg x0 (ys385.getD 0 default) 0 4) 1), (AV.cel (AV.atAgg x0 (ys385.getD 0 default) 0 4) 2), (AV.cel (AV.atAgg x0 (ys385.getD 0 default) 0 4) 3)])] Sh.sc r2753) ∧
        ((AV.binOk Go.BinOp.lss (AV.bin Go.BinOp.sub (AV.cel (AV.atAgg x0 (ys385.getD 0 default) 0 4) 0) (AV.cel x1 0)) r2753) ∧
        ((AV.isBool (AV.bin Go.BinOp.geq (AV.cel (AV.atAgg x0 (ys385.getD 0 default) 0 4) 0) (AV.cel x1 0))) ∧
        ((isT (AV.bin Go.BinOp.geq (AV.cel (AV.atAgg x0 (ys385.getD 0 default) 0 4) 0) (AV.cel x1 0))) ∧
        ((AV.isBool (AV.bin Go.BinOp.lss (AV.bin Go.BinOp.sub (AV.cel (AV.atAgg x0 (ys385.getD 0 default) 0 4) 0) (AV.cel x1 0)) r2753)) ∧
        (((isT (AV.bin Go.BinOp.lss (AV.bin Go.BinOp.sub (AV.cel (AV.atAgg x0 (ys385.getD 0 default) 0 4) 0) (AV.cel x1 0)) r2753)) →
          ((AV.flat (AV.bool false)) ∧
          (fSame (AV.bool false) r))) ∧
        ((isF (AV.bin Go.BinOp.lss (AV.bin Go.BinOp.sub (AV.cel (AV.atAgg x0 (ys385.getD 0 default) 0 4) 0) (AV.cel x1 0)) r2753)) →
          ((AV.binOk Go.BinOp.add (ys385.getD 0 default) (AV.int 1)) ∧
          (again385 [(AV.bin Go.BinOp.add (ys385.getD 0 default) (AV.int 1))])))))))))))) ∧
      ((isF (AV.bin Go.BinOp.geq (AV.cel (AV.atAgg x0 (ys385.getD 0 default) 0 4) 0) (AV.cel x1 0))) →
        ((AV.isBool (AV.bin Go.BinOp.geq (AV.cel (AV.atAgg x0 (ys385.getD 0 default) 0 4) 0) (AV.cel x1 0))) ∧
        ((isF (AV.bin Go.BinOp.geq (AV.cel (AV.atAgg x0 (ys385.getD 0 default) 0 4) 0) (AV.cel x1 0))) ∧
        ((AV.binOk Go.BinOp.add (ys385.getD 0 default) (AV.int 1)) ∧
        (again385 [(AV.bin Go.BinOp.add (ys385.getD 0 default) (AV.int 1))])))))))))))))))))) ∧
  ((isF (AV.bin Go.BinOp.lss (ys385.getD 0 default) (AV.len x0))) →
    ((AV.flat (AV.bool true)) ∧
    (fSame (AV.bool true) r))))))))))) := by kernel_rfl
theorem change_form (x0 x1 x2 r : AV) : fnF Try.prog Γ ann 2 33 Try.f33 (Try.f33.body.getD .skip) (.nil) [x0, x1, x2] (.tup [.row 60 2 true, .sc]) r = ((∃ r193 : AV, ((Fn Try.prog 17 [x0] Sh.sc r193) ∧
((AV.binOk Go.BinOp.neq r193 (AV.int 0)) ∧
((AV.isBool (AV.bin Go.BinOp.neq r193 (AV.int 0))) ∧
(((isT (AV.bin Go.BinOp.neq r193 (AV.int 0))) →
  ((AV.flatS (AV.mk 2 [])) ∧
  ((AV.flat r193) ∧
  (fSame (AV.tup [(AV.mk 2 []), r193]) r)))) ∧
((isF (AV.bin Go.BinOp.neq r193 (AV.int 0))) →
  (∃ r513 : AV, ((Fn Try.prog 19 [x1] Sh.sc r513) ∧
  ((AV.binOk Go.BinOp.neq r513 (AV.int 0)) ∧
  ((AV.isBool (AV.bin Go.BinOp.neq r513 (AV.int 0))) ∧
  (((isT (AV.bin Go.BinOp.neq r513 (AV.int 0))) →
    ((AV.flatS (AV.mk 2 [])) ∧
    ((AV.flat r513) ∧
    (fSame (AV.tup [(AV.mk 2 []), r513]) r)))) ∧
  ((isF (AV.bin Go.BinOp.neq r513 (AV.int 0))) →
    ((AV.isSl x1 2) ∧
    ((AV.binOk Go.BinOp.sub (AV.len x1) (AV.int 1)) ∧
    ((AV.isSl x1 2) ∧
    ((AV.inb x1 (AV.bin Go.BinOp.sub (AV.len x1) (AV.int 1))) ∧
    ((AV.isAgg (AV.atAgg x1 (AV.bin Go.BinOp.sub (AV.len x1) (AV.int 1)) 0 2) 2) ∧
    ((AV.isSl x1 2) ∧
    ((AV.binOk Go.BinOp.eql (AV.len x1) (AV.int 24)) ∧
    ((AV.isBool (AV.bin Go.BinOp.eql (AV.len x1) (AV.int 24))) ∧
    (((isT (AV.bin Go.BinOp.eql (AV.len x1) (AV.int 24))) →
      ((AV.flatS (AV.mk 2 [])) ∧
      ((AV.flat (AV.int 9)) ∧
      (fSame (AV.tup [(AV.mk 2 []), (AV.int 9)]) r)))) ∧
    ((isF (AV.bin Go.BinOp.eql (AV.len x1) (AV.int 24))) →
      (∃ r1601 : AV, ((Fn Try.prog 81 [x2] Sh.sc r1601) ∧
      ((AV.isBool r1601) ∧
      (((isT r1601) →
        ((AV.isBool r1601) ∧
        ((isT r1601) ∧
        ((AV.flatS (AV.mk 2 [])) ∧
        ((AV.flat (AV.int 12)) ∧
        (fSame (AV.tup [(AV.mk 2 []), (AV.int 12)]) r)))))) ∧
      ((isF r1601) →
        ((AV.binOk Go.BinOp.add (AV.cel (AV.atAgg x1 (AV.bin Go.BinOp.sub (AV.len x1) (AV.int 1)) 0 2) 0) (AV.int 360)) ∧
        ((AV.binOk Go.BinOp.lss x2 (AV.bin Go.BinOp.add (AV.cel (AV.atAgg x1 (AV.bin Go.BinOp.sub (AV.len x1) (AV.int 1)) 0 2) 0) (AV.int 360))) ∧
        ((AV.isBool r1601) ∧
        ((isF r1601) ∧
        ((AV.isBool (AV.bin Go.BinOp.lss x2 (AV.bin Go.BinOp.add (AV.cel (AV.atAgg x1 (AV.bin Go.BinOp.sub (AV.len x1) (AV.int 1)) 0 2) 0) (AV.int 360)))) ∧
        (((isT (AV.bin Go.BinOp.lss x2 (AV.bin Go.BinOp.add (AV.cel (AV.atAgg x1 (AV.bin Go.BinOp.sub (AV.len x1) (AV.int 1)) 0 2) 0) (AV.int 360)))) →
          ((AV.flatS (AV.mk 2 [])) ∧
          ((AV.flat (AV.int 12)) ∧
          (fSame (AV.tup [(AV.mk 2 []), (AV.int 12)]) r)))) ∧
        ((isF (AV.bin Go.BinOp.lss x2 (AV.bin Go.BinOp.add (AV.cel (AV.atAgg x1 (AV.bin Go.BinOp.sub (AV.len x1) (AV.int 1)) 0 2) 0) (AV.int 360)))) →
          ((AV.isSl x0 4) ∧
          ((AV.binOk Go.BinOp.gtr (AV.len x0) (AV.int 0)) ∧
          ((AV.isBool (AV.bin Go.BinOp.gtr (AV.len x0) (AV.int 0))) ∧
          (((isT (AV.bin Go.BinOp.gtr (AV.len x0) (AV.int 0))) →
            ((AV.isSl x0 4) ∧
            ((AV.binOk Go.BinOp.sub (AV.len x0) (AV.int 1)) ∧
            ((AV.isSl x0 4) ∧
            ((AV.inb x0 (AV.bin Go.BinOp.sub (AV.len x0) (AV.int 1))) ∧
            ((AV.binOk Go.BinOp.sub x2 (AV.int 180)) ∧
            ((AV.binOk Go.BinOp.gtr (AV.at x0 (AV.bin Go.BinOp.sub (AV.len x0) (AV.int 1)) 0) (AV.bin Go.BinOp.sub x2 (AV.int 180))) ∧
            ((AV.isBool (AV.bin Go.BinOp.gtr (AV.len x0) (AV.int 0))) ∧
            ((isT (AV.bin Go.BinOp.gtr (AV.len x0) (AV.int 0))) ∧
            ((AV.isBool (AV.bin Go.BinOp.gtr (AV.at x0 (AV.bin Go.BinOp.sub (AV.len x0) (AV.int 1)) 0) (AV.bin Go.BinOp.sub x2 (AV.int 180)))) ∧
            (((isT (AV.bin Go.BinOp.gtr (AV.at x0 (AV.bin Go.BinOp.sub (AV.len x0) (AV.int 1)) 0) (AV.bin Go.BinOp.sub x2 (AV.int 180)))) →
              ((AV.flatS (AV.mk 2 [])) ∧
              ((AV.flat (AV.int 15)) ∧
              (fSame (AV.tup [(AV.mk 2 []), (AV.int 15)]) r)))) ∧
            ((isF (AV.bin Go.BinOp.gtr (AV.at x0 (AV.bin Go.BinOp.sub (AV.len x0) (AV.int 1)) 0) (AV.bin Go.BinOp.sub x2 (AV.int 180)))) →
              (∃ r3265 : AV, ((Fn Try.prog 37 [x1] (Sh.row 60 2 true) r3265) ∧
              ((AV.binOk Go.BinOp.sub (AV.int 1) (AV.cel (AV.atAgg x1 (AV.bin Go.BinOp.sub (AV.len x1) (AV.int 1)) 0 2) 1)) ∧
              ((AV.isOne x2) ∧
              ((AV.isOne (AV.bin Go.BinOp.sub (AV.int 1) (AV.cel (AV.atAgg x1 (AV.bin Go.BinOp.sub (AV.len x1) (AV.int 1)) 0 2) 1))) ∧
              ((AV.room r3265 (AV.mk 2 [[x2, (AV.bin Go.BinOp.sub (AV.int 1) (AV.cel (AV.atAgg x1 (AV.bin Go.BinOp.sub (AV.len x1) (AV.int 1)) 0 2) 1))]]) 16) ∧
              ((AV.flatS (AV.app 2 r3265 (AV.mk 2 [[x2, (AV.bin Go.BinOp.sub (AV.int 1) (AV.cel (AV.atAgg x1 (AV.bin Go.BinOp.sub (AV.len x1) (AV.int 1)) 0 2) 1))]]))) ∧
              ((AV.flat (AV.int 0)) ∧
              (fSame (AV.tup [(AV.app 2 r3265 (AV.mk 2 [[x2, (AV.bin Go.BinOp.sub (AV.int 1) (AV.cel (AV.atAgg x1 (AV.bin Go.BinOp.sub (AV.len x1) (AV.int 1)) 0 2) 1))]])), (AV.int 0)]) r))))))))))))))))))))) ∧
          ((isF (AV.bin Go.BinOp.gtr (AV.len x0) (AV.int 0))) →
            ((AV.isBool (AV.bin Go.BinOp.gtr (AV.len x0) (AV.int 0))) ∧
            ((isF (AV.bin Go.BinOp.gtr (AV.len x0) (AV.int 0))) ∧
            (∃ r3265 : AV, ((Fn Try.prog 37 [x1] (Sh.row 60 2 true) r3265) ∧
            ((AV.binOk Go.BinOp.sub (AV.int 1) (AV.cel (AV.atAgg x1 (AV.bin Go.BinOp.sub (AV.len x1) (AV.int 1)) 0 2) 1)) ∧
            ((AV.isOne x2) ∧
            ((AV.isOne (AV.bin Go.BinOp.sub (AV.int 1) (AV.cel (AV.atAgg x1 (AV.bin Go.BinOp.sub (AV.len x1) (AV.int 1)) 0 2) 1))) ∧
            ((AV.room r3265 (AV.mk 2 [[x2, (AV.bin Go.BinOp.sub (AV.int 1) (AV.cel (AV.atAgg x1 (AV.bin Go.BinOp.sub (AV.len x1) (AV.int 1)) 0 2) 1))]]) 16) ∧
            ((AV.flatS (AV.app 2 r3265 (AV.mk 2 [[x2, (AV.bin Go.BinOp.sub (AV.int 1) (AV.cel (AV.atAgg x1 (AV.bin Go.BinOp.sub (AV.len x1) (AV.int 1)) 0 2) 1))]]))) ∧
            ((AV.flat (AV.int 0)) ∧
            (fSame (AV.tup [(AV.app 2 r3265 (AV.mk 2 [[x2, (AV.bin Go.BinOp.sub (AV.int 1) (AV.cel (AV.atAgg x1 (AV.bin Go.BinOp.sub (AV.len x1) (AV.int 1)) 0 2) 1))]])), (AV.int 0)]) r))))))))))))))))))))))))))))))))))))))))))))))))))) := by kernel_rfl
theorem merr_form (x0 r : AV) : fnF Try.prog Γ ann 0 18 Try.f18 (Try.f18.body.getD .skip) (.nil) [x0] (.sc) r = (((AV.isSl x0 4) ∧
((AV.binOk Go.BinOp.gtr (AV.len x0) (AV.int 24)) ∧
((AV.isBool (AV.bin Go.BinOp.gtr (AV.len x0) (AV.int 24))) ∧
(((isT (AV.bin Go.BinOp.gtr (AV.len x0) (AV.int 24))) →
  ((AV.flat (AV.int 2)) ∧
  (fSame (AV.int 2) r))) ∧
((isF (AV.bin Go.BinOp.gtr (AV.len x0) (AV.int 24))) →
  ((AV.isSl x0 4) ∧
  (fLoop 513 [(AV.int 0), (AV.int 0)] fun ys513 again513 =>
    ((AV.binOk Go.BinOp.lss (ys513.getD 1 default) (AV.len x0)) ∧
    ((AV.isBool (AV.bin Go.BinOp.lss (ys513.getD 1 default) (AV.len x0))) ∧
    (((isT (AV.bin Go.BinOp.lss (ys513.getD 1 default) (AV.len x0))) →
      ((AV.isSl x0 4) ∧
      ((AV.inb x0 (ys513.getD 1 default)) ∧
      ((AV.isAgg (AV.atAgg x0 (ys513.getD 1 default) 0 4) 4) ∧
      ((AV.binOk Go.BinOp.lss (AV.cel (AV.atAgg x0 (ys513.getD 1 default) 0 4) 0) (ys513.getD 0 default)) ∧
      ((AV.isBool (AV.bin Go.BinOp.lss (AV.cel (AV.atAgg x0 (ys513.getD 1 default) 0 4) 0) (ys513.getD 0 default))) ∧
      (((isT (AV.bin Go.BinOp.lss (AV.cel (AV.atAgg x0 (ys513.getD 1 default) 0 4) 0) (ys513.getD 0 default))) →
        ((AV.isBool (AV.bin Go.BinOp.lss (AV.cel (AV.atAgg x0 (ys513.getD 1 default) 0 4) 0) (ys513.getD 0 default))) ∧
        ((isT (AV.bin Go.BinOp.lss (AV.cel (AV.atAgg x0 (ys513.getD 1 default) 0 4) 0) (ys513.getD 0 default))) ∧
        ((AV.flat (AV.int 12)) ∧
        (fSame (AV.int 12) r))))) ∧
      ((isF (AV.bin Go.BinOp.lss (AV.cel (AV.atAgg x0 (ys513.getD 1 default) 0 4) 0) (ys513.getD 0 default))) →
        ((AV.binOk Go.BinOp.gtr (AV.cel (AV.atAgg x0 (ys513.getD 1 default) 0 4) 0) (AV.int 200000)) ∧
        ((AV.isBool (AV.bin Go.BinOp.lss (AV.cel (AV.atAgg x0 (ys513.getD 1 default) 0 4) 0) (ys513.getD 0 default))) ∧
        ((isF (AV.bin Go.BinOp.lss (AV.cel (AV.atAgg x0 (ys513.getD 1 default) 0 4) 0) (ys513.getD 0 default))) ∧
        ((AV.isBool (AV.bin Go.BinOp.gtr (AV.cel (AV.atAgg x0 (ys513.getD 1 default) 0 4) 0) (AV.int 200000))) ∧
        (((isT (AV.bin Go.BinOp.gtr (AV.cel (AV.atAgg x0 (ys513.getD 1 default) 0 4) 0) (AV.int 200000))) →
          ((AV.flat (AV.int 12)) ∧
          (fSame (AV.int 12) r))) ∧
        ((isF (AV.bin Go.BinOp.gtr (AV.cel (AV.atAgg x0 (ys513.getD 1 default) 0 4) 0) (AV.int 200000))) →
          ((AV.binOk Go.BinOp.lss (AV.cel (AV.atAgg x0 (ys513.getD 1 default) 0 4) 1) (AV.int 0)) ∧
          ((AV.isBool (AV.bin Go.BinOp.lss (AV.cel (AV.atAgg x0 (ys513.getD 1 default) 0 4) 1) (AV.int 0))) ∧
          (((isT (AV.bin Go.BinOp.lss (AV.cel (AV.atAgg x0 (ys513.getD 1 default) 0 4) 1) (AV.int 0))) →
            ((AV.isBool (AV.bin Go.BinOp.lss (AV.cel (AV.atAgg x0 (ys513.getD 1 default) 0 4) 1) (AV.int 0))) ∧
            ((isT (AV.bin Go.BinOp.lss (AV.cel (AV.atAgg x0 (ys513.getD 1 default) 0 4) 1) (AV.int 0))) ∧
            ((AV.flat (AV.int 1)) ∧
            (fSame (AV.int 1) r))))) ∧
          ((isF (AV.bin Go.BinOp.lss (AV.cel (AV.atAgg x0 (ys513.getD 1 default) 0 4) 1) (AV.int 0))) →
            ((AV.binOk Go.BinOp.gtr (AV.cel (AV.atAgg x0 (ys513.getD 1 default) 0 4) 1) (AV.int 3)) ∧
            ((AV.isBool (AV.bin Go.BinOp.lss (AV.cel (AV.atAgg x0 (ys513.getD 1 default) 0 4) 1) (AV.int 0))) ∧
            ((isF (AV.bin Go.BinOp.lss (AV.cel (AV.atAgg x0 (ys513.getD 1 default) 0 4) 1) (AV.int 0))) ∧
            ((AV.isBool (AV.bin Go.BinOp.gtr (AV.cel (AV.atAgg x0 (ys513.getD 1 default) 0 4) 1) (AV.int 3))) ∧
            (((isT (AV.bin Go.BinOp.gtr (AV.cel (AV.atAgg x0 (ys513.getD 1 default) 0 4) 1) (AV.int 3))) →
              ((AV.isBool (AV.bin Go.BinOp.gtr (AV.cel (AV.atAgg x0 (ys513.getD 1 default) 0 4) 1) (AV.int 3))) ∧
              ((isT (AV.bin Go.BinOp.gtr (AV.cel (AV.atAgg x0 (ys513.getD 1 default) 0 4) 1) (AV.int 3))) ∧
              ((AV.flat (AV.int 1)) ∧
              (fSame (AV.int 1) r))))) ∧
            ((isF (AV.bin Go.BinOp.gtr (AV.cel (AV.atAgg x0 (ys513.getD 1 default) 0 4) 1) (AV.int 3))) →
              ((AV.binOk Go.BinOp.neq (AV.cel (AV.atAgg x0 (ys513.getD 1 default) 0 4) 3) (AV.int 0)) ∧
              ((AV.isBool (AV.bin Go.BinOp.neq (AV.cel (AV.atAgg x0 (ys513.getD 1 default) 0 4) 3) (AV.int 0))) ∧
              (((isT (AV.bin Go.BinOp.neq (AV.cel (AV.atAgg x0 (ys513.getD 1 default) 0 4) 3) (AV.int 0))) →
                ((AV.binOk Go.BinOp.neq (AV.cel (AV.atAgg x0 (ys513.getD 1 default) 0 4) 3) (AV.int 1)) ∧
                ((AV.isBool (AV.bin Go.BinOp.neq (AV.cel (AV.atAgg x0 (ys513.getD 1 default) 0 4) 3) (AV.int 0))) ∧
                ((isT (AV.bin Go.BinOp.neq (AV.cel (AV.atAgg x0 (ys513.getD 1 default) 0 4) 3) (AV.int 0))) ∧
                ((AV.isBool (AV.bin Go.BinOp.gtr (AV.cel (AV.atAgg x0 (ys513.getD 1 default) 0 4) 1) (AV.int 3))) ∧
                ((isF (AV.bin Go.BinOp.gtr (AV.cel (AV.atAgg x0 (ys513.getD 1 default) 0 4) 1) (AV.int 3))) ∧
                ((AV.isBool (AV.bin Go.BinOp.neq (AV.cel (AV.atAgg x0 (ys513.getD 1 default) 0 4) 3) (AV.int 1))) ∧
                (((isT (AV.bin Go.BinOp.neq (AV.cel (AV.atAgg x0 (ys513.getD 1 default) 0 4) 3) (AV.int 1))) →
                  ((AV.flat (AV.int 1)) ∧
                  (fSame (AV.int 1) r))) ∧
                ((isF (AV.bin Go.BinOp.neq (AV.cel (AV.atAgg x0 (ys513.getD 1 default) 0 4) 3) (AV.int 1))) →
                  ((AV.binOk Go.BinOp.add (ys513.getD 1 default) (AV.int 1)) ∧
                  (again513 [(AV.cel (AV.atAgg x0 (ys513.getD 1 default) 0 4) 0), (AV.bin Go.BinOp.add (ys513.getD 1 default) (AV.int 1))]))))))))))) ∧
              ((isF (AV.bin Go.BinOp.neq (AV.cel (AV.atAgg x0 (ys513.getD 1 default) 0 4) 3) (AV.int 0))) →
                ((AV.isBool (AV.bin Go.BinOp.neq (AV.cel (AV.atAgg x0 (ys513.getD 1 default) 0 4) 3) (AV.int 0))) ∧
                ((isF (AV.bin Go.BinOp.neq (AV.cel (AV.atAgg x0 (ys513.getD 1 default) 0 4) 3) (AV.int 0))) ∧
                ((AV.isBool (AV.bin Go.BinOp.gtr (AV.cel (AV.atAgg x0 (ys513.getD 1 default) 0 4) 1) (AV.int 3))) ∧
                ((isF (AV.bin Go.BinOp.gtr (AV.cel (AV.atAgg x0 (ys513.getD 1 default) 0 4) 1) (AV.int 3))) ∧
                ((AV.binOk Go.BinOp.add (ys513.getD 1 default) (AV.int 1)) ∧
                (again513 [(AV.cel (AV.atAgg x0 (ys513.getD 1 default) 0 4) 0), (AV.bin Go.BinOp.add (ys513.getD 1 default) (AV.int 1))])))))))))))))))))))))))))))))))))) ∧
    ((isF (AV.bin Go.BinOp.lss (ys513.getD 1 default) (AV.len x0))) →
      ((AV.flat (AV.int 0)) ∧
      (fSame (AV.int 0) r)))))))))))))) := by kernel_rfl
theorem eerr_form (x0 r : AV) : fnF Try.prog Γ ann 0 16 Try.f16 (Try.f16.body.getD .skip) ((.both .nil (.both .nil (.both (.both (.both .nil (.both .nil (.both .nil (.both (.both .nil (.t .nil)) (.f .nil))))) (.both .nil (.both .nil (.both (.both .nil (.t .nil)) (.f .nil))))) .nil)))) [x0] (.sc) r = (((AV.isSl x0 2) ∧
((AV.binOk Go.BinOp.gtr (AV.len x0) (AV.int 24)) ∧
((AV.isBool (AV.bin Go.BinOp.gtr (AV.len x0) (AV.int 24))) ∧
(((isT (AV.bin Go.BinOp.gtr (AV.len x0) (AV.int 24))) →
  ((AV.flat (AV.int 2)) ∧
  (fSame (AV.int 2) r))) ∧
((isF (AV.bin Go.BinOp.gtr (AV.len x0) (AV.int 24))) →
  ((AV.isSl x0 2) ∧
  ((AV.binOk Go.BinOp.eql (AV.len x0) (AV.int 0)) ∧
  ((AV.isBool (AV.bin Go.BinOp.eql (AV.len x0) (AV.int 0))) ∧
  (((isT (AV.bin Go.BinOp.eql (AV.len x0) (AV.int 0))) →
    ((AV.flat (AV.int 8)) ∧
    (fSame (AV.int 8) r))) ∧
  ((isF (AV.bin Go.BinOp.eql (AV.len x0) (AV.int 0))) →
    ((AV.isSl x0 2) ∧
    (fLoop 641 [(AV.int 0)] fun ys641 again641 =>
      ((AV.binOk Go.BinOp.lss (ys641.getD 0 default) (AV.len x0)) ∧
      ((AV.isBool (AV.bin Go.BinOp.lss (ys641.getD 0 default) (AV.len x0))) ∧
      (((isT (AV.bin Go.BinOp.lss (ys641.getD 0 default) (AV.len x0))) →
        ((AV.isSl x0 2) ∧
        ((AV.inb x0 (ys641.getD 0 default)) ∧
        ((AV.isAgg (AV.atAgg x0 (ys641.getD 0 default) 0 2) 2) ∧
        ((AV.binOk Go.BinOp.neq (AV.cel (AV.atAgg x0 (ys641.getD 0 default) 0 2) 1) (AV.int 0)) ∧
        ((AV.isBool (AV.bin Go.BinOp.neq (AV.cel (AV.atAgg x0 (ys641.getD 0 default) 0 2) 1) (AV.int 0))) ∧
        (((isT (AV.bin Go.BinOp.neq (AV.cel (AV.atAgg x0 (ys641.getD 0 default) 0 2) 1) (AV.int 0))) →
          ((AV.binOk Go.BinOp.neq (AV.cel (AV.atAgg x0 (ys641.getD 0 default) 0 2) 1) (AV.int 1)) ∧
          ((AV.isBool (AV.bin Go.BinOp.neq (AV.cel (AV.atAgg x0 (ys641.getD 0 default) 0 2) 1) (AV.int 0))) ∧
          ((isT (AV.bin Go.BinOp.neq (AV.cel (AV.atAgg x0 (ys641.getD 0 default) 0 2) 1) (AV.int 0))) ∧
          ((AV.isBool (AV.bin Go.BinOp.neq (AV.cel (AV.atAgg x0 (ys641.getD 0 default) 0 2) 1) (AV.int 1))) ∧
          (((isT (AV.bin Go.BinOp.neq (AV.cel (AV.atAgg x0 (ys641.getD 0 default) 0 2) 1) (AV.int 1))) →
            ((AV.flat (AV.int 1)) ∧
            (fSame (AV.int 1) r))) ∧
          ((isF (AV.bin Go.BinOp.neq (AV.cel (AV.atAgg x0 (ys641.getD 0 default) 0 2) 1) (AV.int 1))) →
            ((AV.binOk Go.BinOp.lss (AV.cel (AV.atAgg x0 (ys641.getD 0 default) 0 2) 0) (AV.int 0)) ∧
            ((AV.isBool (AV.bin Go.BinOp.lss (AV.cel (AV.atAgg x0 (ys641.getD 0 default) 0 2) 0) (AV.int 0))) ∧
            (((isT (AV.bin Go.BinOp.lss (AV.cel (AV.atAgg x0 (ys641.getD 0 default) 0 2) 0) (AV.int 0))) →
              ((AV.isBool (AV.bin Go.BinOp.lss (AV.cel (AV.atAgg x0 (ys641.getD 0 default) 0 2) 0) (AV.int 0))) ∧
              ((isT (AV.bin Go.BinOp.lss (AV.cel (AV.atAgg x0 (ys641.getD 0 default) 0 2) 0) (AV.int 0))) ∧
              ((AV.flat (AV.int 12)) ∧
              (fSame (AV.int 12) r))))) ∧
            ((isF (AV.bin Go.BinOp.lss (AV.cel (AV.atAgg x0 (ys641.getD 0 default) 0 2) 0) (AV.int 0))) →
              ((AV.binOk Go.BinOp.gtr (AV.cel (AV.atAgg x0 (ys641.getD 0 default) 0 2) 0) (AV.int 200000)) ∧
              ((AV.isBool (AV.bin Go.BinOp.lss (AV.cel (AV.atAgg x0 (ys641.getD 0 default) 0 2) 0) (AV.int 0))) ∧
              ((isF (AV.bin Go.BinOp.lss (AV.cel (AV.atAgg x0 (ys641.getD 0 default) 0 2) 0) (AV.int 0))) ∧
              ((AV.isBool (AV.bin Go.BinOp.gtr (AV.cel (AV.atAgg x0 (ys641.getD 0 default) 0 2) 0) (AV.int 200000))) ∧
              (((isT (AV.bin Go.BinOp.gtr (AV.cel (AV.atAgg x0 (ys641.getD 0 default) 0 2) 0) (AV.int 200000))) →
                ((AV.isBool (AV.bin Go.BinOp.gtr (AV.cel (AV.atAgg x0 (ys641.getD 0 default) 0 2) 0) (AV.int 200000))) ∧
                ((isT (AV.bin Go.BinOp.gtr (AV.cel (AV.atAgg x0 (ys641.getD 0 default) 0 2) 0) (AV.int 200000))) ∧
                ((AV.flat (AV.int 12)) ∧
                (fSame (AV.int 12) r))))) ∧
              ((isF (AV.bin Go.BinOp.gtr (AV.cel (AV.atAgg x0 (ys641.getD 0 default) 0 2) 0) (AV.int 200000))) →
                ((AV.binOk Go.BinOp.gtr (ys641.getD 0 default) (AV.int 0)) ∧
                ((AV.isBool (AV.bin Go.BinOp.gtr (ys641.getD 0 default) (AV.int 0))) ∧
                (((isT (AV.bin Go.BinOp.gtr (ys641.getD 0 default) (AV.int 0))) →
                  ((AV.binOk Go.BinOp.sub (ys641.getD 0 default) (AV.int 1)) ∧
                  ((AV.isSl x0 2) ∧
                  ((AV.inb x0 (AV.bin Go.BinOp.sub (ys641.getD 0 default) (AV.int 1))) ∧
                  ((AV.binOk Go.BinOp.sub (AV.cel (AV.atAgg x0 (ys641.getD 0 default) 0 2) 0) (AV.at x0 (AV.bin Go.BinOp.sub (ys641.getD 0 default) (AV.int 1)) 0)) ∧
                  ((AV.binOk Go.BinOp.lss (AV.bin Go.BinOp.sub (AV.cel (AV.atAgg x0 (ys641.getD 0 default) 0 2) 0) (AV.at x0 (AV.bin Go.BinOp.sub (ys641.getD 0 default) (AV.int 1)) 0)) (AV.int 360)) ∧
                  ((AV.isBool (AV.bin Go.BinOp.gtr (ys641.getD 0 default) (AV.int 0))) ∧
                  ((isT (AV.bin Go.BinOp.gtr (ys641.getD 0 default) (AV.int 0))) ∧
                  ((AV.isBool (AV.bin Go.BinOp.gtr (AV.cel (AV.atAgg x0 (ys641.getD 0 default) 0 2) 0) (AV.int 200000))) ∧
                  ((isF (AV.bin Go.BinOp.gtr (AV.cel (AV.atAgg x0 (ys641.getD 0 default) 0 2) 0) (AV.int 200000))) ∧
                  ((AV.isBool (AV.bin Go.BinOp.lss (AV.bin Go.BinOp.sub (AV.cel (AV.atAgg x0 (ys641.getD 0 default) 0 2) 0) (AV.at x0 (AV.bin Go.BinOp.sub (ys641.getD 0 default) (AV.int 1)) 0)) (AV.int 360))) ∧
                  (((isT (AV.bin Go.BinOp.lss (AV.bin Go.BinOp.sub (AV.cel (AV.atAgg x0 (ys641.getD 0 default) 0 2) 0) (AV.at x0 (AV.bin Go.BinOp.sub (ys641.getD 0 default) (AV.int 1)) 0)) (AV.int 360))) →
                    ((AV.flat (AV.int 12)) ∧
                    (fSame (AV.int 12) r))) ∧
                  ((isF (AV.bin Go.BinOp.lss (AV.bin Go.BinOp.sub (AV.cel (AV.atAgg x0 (ys641.getD 0 default) 0 2) 0) (AV.at x0 (AV.bin Go.BinOp.sub (ys641.getD 0 default) (AV.int 1)) 0)) (AV.int 360))) →
                    ((AV.binOk Go.BinOp.gtr (ys641.getD 0 default) (AV.int 0)) ∧
                    ((AV.isBool (AV.bin Go.BinOp.gtr (ys641.getD 0 default) (AV.int 0))) ∧
                    ((isT (AV.bin Go.BinOp.gtr (ys641.getD 0 default) (AV.int 0))) ∧
                    ((AV.binOk Go.BinOp.sub (ys641.getD 0 default) (AV.int 1)) ∧
                    ((AV.isSl x0 2) ∧
                    ((AV.inb x0 (AV.bin Go.BinOp.sub (ys641.getD 0 default) (AV.int 1))) ∧
                    ((AV.binOk Go.BinOp.eql (AV.cel (AV.atAgg x0 (ys641.getD 0 default) 0 2) 1) (AV.at x0 (AV.bin Go.BinOp.sub (ys641.getD 0 default) (AV.int 1)) 1)) ∧
                    ((AV.isBool (AV.bin Go.BinOp.gtr (ys641.getD 0 default) (AV.int 0))) ∧
                    ((isT (AV.bin Go.BinOp.gtr (ys641.getD 0 default) (AV.int 0))) ∧
                    ((AV.isBool (AV.bin Go.BinOp.eql (AV.cel (AV.atAgg x0 (ys641.getD 0 default) 0 2) 1) (AV.at x0 (AV.bin Go.BinOp.sub (ys641.getD 0 default) (AV.int 1)) 1))) ∧
                    (((isT (AV.bin Go.BinOp.eql (AV.cel (AV.atAgg x0 (ys641.getD 0 default) 0 2) 1) (AV.at x0 (AV.bin Go.BinOp.sub (ys641.getD 0 default) (AV.int 1)) 1))) →
                      ((AV.flat (AV.int 11)) ∧
                      (fSame (AV.int 11) r))) ∧
                    ((isF (AV.bin Go.BinOp.eql (AV.cel (AV.atAgg x0 (ys641.getD 0 default) 0 2) 1) (AV.at x0 (AV.bin Go.BinOp.sub (ys641.getD 0 default) (AV.int 1)) 1))) →
                      ((AV.binOk Go.BinOp.add (ys641.getD 0 default) (AV.int 1)) ∧
                      (again641 [(AV.bin Go.BinOp.add (ys641.getD 0 default) (AV.int 1))]))))))))))))))))))))))))))) ∧
                ((isF (AV.bin Go.BinOp.gtr (ys641.getD 0 default) (AV.int 0))) →
                  ((AV.isBool (AV.bin Go.BinOp.gtr (ys641.getD 0 default) (AV.int 0))) ∧
                  ((isF (AV.bin Go.BinOp.gtr (ys641.getD 0 default) (AV.int 0))) ∧
                  ((AV.isBool (AV.bin Go.BinOp.gtr (AV.cel (AV.atAgg x0 (ys641.getD 0 default) 0 2) 0) (AV.int 200000))) ∧
                  ((isF (AV.bin Go.BinOp.gtr (AV.cel (AV.atAgg x0 (ys641.getD 0 default) 0 2) 0) (AV.int 200000))) ∧
                  ((AV.binOk Go.BinOp.gtr (ys641.getD 0 default) (AV.int 0)) ∧
                  ((AV.isBool (AV.bin Go.BinOp.gtr (ys641.getD 0 default) (AV.int 0))) ∧
                  ((isF (AV.bin Go.BinOp.gtr (ys641.getD 0 default) (AV.int 0))) ∧
                  ((AV.isBool (AV.bin Go.BinOp.gtr (ys641.getD 0 default) (AV.int 0))) ∧
                  ((isF (AV.bin Go.BinOp.gtr (ys641.getD 0 default) (AV.int 0))) ∧
                  ((AV.binOk Go.BinOp.add (ys641.getD 0 default) (AV.int 1)) ∧
                  (again641 [(AV.bin Go.BinOp.add (ys641.getD 0 default) (AV.int 1))])))))))))))))))))))))))))))))))) ∧
        ((isF (AV.bin Go.BinOp.neq (AV.cel (AV.atAgg x0 (ys641.getD 0 default) 0 2) 1) (AV.int 0))) →
          ((AV.isBool (AV.bin Go.BinOp.neq (AV.cel (AV.atAgg x0 (ys641.getD 0 default) 0 2) 1) (AV.int 0))) ∧
          ((isF (AV.bin Go.BinOp.neq (AV.cel (AV.atAgg x0 (ys641.getD 0 default) 0 2) 1) (AV.int 0))) ∧
          ((AV.binOk Go.BinOp.lss (AV.cel (AV.atAgg x0 (ys641.getD 0 default) 0 2) 0) (AV.int 0)) ∧
          ((AV.isBool (AV.bin Go.BinOp.lss (AV.cel (AV.atAgg x0 (ys641.getD 0 default) 0 2) 0) (AV.int 0))) ∧
          (((isT (AV.bin Go.BinOp.lss (AV.cel (AV.atAgg x0 (ys641.getD 0 default) 0 2) 0) (AV.int 0))) →
            ((AV.isBool (AV.bin Go.BinOp.lss (AV.cel (AV.atAgg x0 (ys641.getD 0 default) 0 2) 0) (AV.int 0))) ∧
            ((isT (AV.bin Go.BinOp.lss (AV.cel (AV.atAgg x0 (ys641.getD 0 default) 0 2) 0) (AV.int 0))) ∧
            ((AV.flat (AV.int 12)) ∧
            (fSame (AV.int 12) r))))) ∧
          ((isF (AV.bin Go.BinOp.lss (AV.cel (AV.atAgg x0 (ys641.getD 0 default) 0 2) 0) (AV.int 0))) →
            ((AV.binOk Go.BinOp.gtr (AV.cel (AV.atAgg x0 (ys641.getD 0 default) 0 2) 0) (AV.int 200000)) ∧
            ((AV.isBool (AV.bin Go.BinOp.lss (AV.cel (AV.atAgg x0 (ys641.getD 0 default) 0 2) 0) (AV.int 0))) ∧
            ((isF (AV.bin Go.BinOp.lss (AV.cel (AV.atAgg x0 (ys641.getD 0 default) 0 2) 0) (AV.int 0))) ∧
            ((AV.isBool (AV.bin Go.BinOp.gtr (AV.cel (AV.atAgg x0 (ys641.getD 0 default) 0 2) 0) (AV.int 200000))) ∧
            (((isT (AV.bin Go.BinOp.gtr (AV.cel (AV.atAgg x0 (ys641.getD 0 default) 0 2) 0) (AV.int 200000))) →
              ((AV.isBool (AV.bin Go.BinOp.gtr (AV.cel (AV.atAgg x0 (ys641.getD 0 default) 0 2) 0) (AV.int 200000))) ∧
              ((isT (AV.bin Go.BinOp.gtr (AV.cel (AV.atAgg x0 (ys641.getD 0 default) 0 2) 0) (AV.int 200000))) ∧
              ((AV.flat (AV.int 12)) ∧
              (fSame (AV.int 12) r))))) ∧
            ((isF (AV.bin Go.BinOp.gtr (AV.cel (AV.atAgg x0 (ys641.getD 0 default) 0 2) 0) (AV.int 200000))) →
              ((AV.binOk Go.BinOp.gtr (ys641.getD 0 default) (AV.int 0)) ∧
              ((AV.isBool (AV.bin Go.BinOp.gtr (ys641.getD 0 default) (AV.int 0))) ∧
              (((isT (AV.bin Go.BinOp.gtr (ys641.getD 0 default) (AV.int 0))) →
                ((AV.binOk Go.BinOp.sub (ys641.getD 0 default) (AV.int 1)) ∧
                ((AV.isSl x0 2) ∧
                ((AV.inb x0 (AV.bin Go.BinOp.sub (ys641.getD 0 default) (AV.int 1))) ∧
                ((AV.binOk Go.BinOp.sub (AV.cel (AV.atAgg x0 (ys641.getD 0 default) 0 2) 0) (AV.at x0 (AV.bin Go.BinOp.sub (ys641.getD 0 default) (AV.int 1)) 0)) ∧
                ((AV.binOk Go.BinOp.lss (AV.bin Go.BinOp.sub (AV.cel (AV.atAgg x0 (ys641.getD 0 default) 0 2) 0) (AV.at x0 (AV.bin Go.BinOp.sub (ys641.getD 0 default) (AV.int 1)) 0)) (AV.int 360)) ∧
                ((AV.isBool (AV.bin Go.BinOp.gtr (ys641.getD 0 default) (AV.int 0))) ∧
                ((isT (AV.bin Go.BinOp.gtr (ys641.getD 0 default) (AV.int 0))) ∧
                ((AV.isBool (AV.bin Go.BinOp.gtr (AV.cel (AV.atAgg x0 (ys641.getD 0 default) 0 2) 0) (AV.int 200000))) ∧
                ((isF (AV.bin Go.BinOp.gtr (AV.cel (AV.atAgg x0 (ys641.getD 0 default) 0 2) 0) (AV.int 200000))) ∧
                ((AV.isBool (AV.bin Go.BinOp.lss (AV.bin Go.BinOp.sub (AV.cel (AV.atAgg x0 (ys641.getD 0 default) 0 2) 0) (AV.at x0 (AV.bin Go.BinOp.sub (ys641.getD 0 default) (AV.int 1)) 0)) (AV.int 360))) ∧
                (((isT (AV.bin Go.BinOp.lss (AV.bin Go.BinOp.sub (AV.cel (AV.atAgg x0 (ys641.getD 0 default) 0 2) 0) (AV.at x0 (AV.bin Go.BinOp.sub (ys641.getD 0 default) (AV.int 1)) 0)) (AV.int 360))) →
                  ((AV.flat (AV.int 12)) ∧
                  (fSame (AV.int 12) r))) ∧
                ((isF (AV.bin Go.BinOp.lss (AV.bin Go.BinOp.sub (AV.cel (AV.atAgg x0 (ys641.getD 0 default) 0 2) 0) (AV.at x0 (AV.bin Go.BinOp.sub (ys641.getD 0 default) (AV.int 1)) 0)) (AV.int 360))) →
                  ((AV.binOk Go.BinOp.gtr (ys641.getD 0 default) (AV.int 0)) ∧
                  ((AV.isBool (AV.bin Go.BinOp.gtr (ys641.getD 0 default) (AV.int 0))) ∧
                  ((isT (AV.bin Go.BinOp.gtr (ys641.getD 0 default) (AV.int 0))) ∧
                  ((AV.binOk Go.BinOp.sub (ys641.getD 0 default) (AV.int 1)) ∧
                  ((AV.isSl x0 2) ∧
                  ((AV.inb x0 (AV.bin Go.BinOp.sub (ys641.getD 0 default) (AV.int 1))) ∧
                  ((AV.binOk Go.BinOp.eql (AV.cel (AV.atAgg x0 (ys641.getD 0 default) 0 2) 1) (AV.at x0 (AV.bin Go.BinOp.sub (ys641.getD 0 default) (AV.int 1)) 1)) ∧
                  ((AV.isBool (AV.bin Go.BinOp.gtr (ys641.getD 0 default) (AV.int 0))) ∧
                  ((isT (AV.bin Go.BinOp.gtr (ys641.getD 0 default) (AV.int 0))) ∧
                  ((AV.isBool (AV.bin Go.BinOp.eql (AV.cel (AV.atAgg x0 (ys641.getD 0 default) 0 2) 1) (AV.at x0 (AV.bin Go.BinOp.sub (ys641.getD 0 default) (AV.int 1)) 1))) ∧
                  (((isT (AV.bin Go.BinOp.eql (AV.cel (AV.atAgg x0 (ys641.getD 0 default) 0 2) 1) (AV.at x0 (AV.bin Go.BinOp.sub (ys641.getD 0 default) (AV.int 1)) 1))) →
                    ((AV.flat (AV.int 11)) ∧
                    (fSame (AV.int 11) r))) ∧
                  ((isF (AV.bin Go.BinOp.eql (AV.cel (AV.atAgg x0 (ys641.getD 0 default) 0 2) 1) (AV.at x0 (AV.bin Go.BinOp.sub (ys641.getD 0 default) (AV.int 1)) 1))) →
                    ((AV.binOk Go.BinOp.add (ys641.getD 0 default) (AV.int 1)) ∧
                    (again641 [(AV.bin Go.BinOp.add (ys641.getD 0 default) (AV.int 1))]))))))))))))))))))))))))))) ∧
              ((isF (AV.bin Go.BinOp.gtr (ys641.getD 0 default) (AV.int 0))) →
                ((AV.isBool (AV.bin Go.BinOp.gtr (ys641.getD 0 default) (AV.int 0))) ∧
                ((isF (AV.bin Go.BinOp.gtr (ys641.getD 0 default) (AV.int 0))) ∧
                ((AV.isBool (AV.bin Go.BinOp.gtr (AV.cel (AV.atAgg x0 (ys641.getD 0 default) 0 2) 0) (AV.int 200000))) ∧
                ((isF (AV.bin Go.BinOp.gtr (AV.cel (AV.atAgg x0 (ys641.getD 0 default) 0 2) 0) (AV.int 200000))) ∧
                ((AV.binOk Go.BinOp.gtr (ys641.getD 0 default) (AV.int 0)) ∧
                ((AV.isBool (AV.bin Go.BinOp.gtr (ys641.getD 0 default) (AV.int 0))) ∧
                ((isF (AV.bin Go.BinOp.gtr (ys641.getD 0 default) (AV.int 0))) ∧
                ((AV.isBool (AV.bin Go.BinOp.gtr (ys641.getD 0 default) (AV.int 0))) ∧
                ((isF (AV.bin Go.BinOp.gtr (ys641.getD 0 default) (AV.int 0))) ∧
                ((AV.binOk Go.BinOp.add (ys641.getD 0 default) (AV.int 1)) ∧
                (again641 [(AV.bin Go.BinOp.add (ys641.getD 0 default) (AV.int 1))]))))))))))))))))))))))))))))))))))) ∧
      ((isF (AV.bin Go.BinOp.lss (ys641.getD 0 default) (AV.len x0))) →
        ((AV.flat (AV.int 0)) ∧
        (fSame (AV.int 0) r))))))))))))))))))) := by kernel_rfl
theorem endat_form (x0 x1 r : AV) : fnF Try.prog Γ ann 0 20 Try.f20 (Try.f20.body.getD .skip) (.nil) [x0, x1] (.sc) r = (((AV.isSl x0 2) ∧
(fLoop 321 [(AV.int (-1)), (AV.int 0)] fun ys321 again321 =>
  ((AV.binOk Go.BinOp.lss (ys321.getD 1 default) (AV.len x0)) ∧
  ((AV.isBool (AV.bin Go.BinOp.lss (ys321.getD 1 default) (AV.len x0))) ∧
  (((isT (AV.bin Go.BinOp.lss (ys321.getD 1 default) (AV.len x0))) →
    ((AV.isSl x0 2) ∧
    ((AV.inb x0 (ys321.getD 1 default)) ∧
    ((AV.isAgg (AV.atAgg x0 (ys321.getD 1 default) 0 2) 2) ∧
    ((AV.binOk Go.BinOp.leq (AV.cel (AV.atAgg x0 (ys321.getD 1 default) 0 2) 0) x1) ∧
    ((AV.isBool (AV.bin Go.BinOp.leq (AV.cel (AV.atAgg x0 (ys321.getD 1 default) 0 2) 0) x1)) ∧
    (((isT (AV.bin Go.BinOp.leq (AV.cel (AV.atAgg x0 (ys321.getD 1 default) 0 2) 0) x1)) →
      ((AV.binOk Go.BinOp.gtr (ys321.getD 1 default) (AV.int 0)) ∧
      ((AV.isBool (AV.bin Go.BinOp.gtr (ys321.getD 1 default) (AV.int 0))) ∧
      (((isT (AV.bin Go.BinOp.gtr (ys321.getD 1 default) (AV.int 0))) →
        ((AV.binOk Go.BinOp.sub x1 (AV.cel (AV.atAgg x0 (ys321.getD 1 default) 0 2) 0)) ∧
        ((AV.binOk Go.BinOp.lss (AV.bin Go.BinOp.sub x1 (AV.cel (AV.atAgg x0 (ys321.getD 1 default) 0 2) 0)) (AV.int 180)) ∧
        ((AV.isBool (AV.bin Go.BinOp.gtr (ys321.getD 1 default) (AV.int 0))) ∧
        ((isT (AV.bin Go.BinOp.gtr (ys321.getD 1 default) (AV.int 0))) ∧
        ((AV.isBool (AV.bin Go.BinOp.lss (AV.bin Go.BinOp.sub x1 (AV.cel (AV.atAgg x0 (ys321.getD 1 default) 0 2) 0)) (AV.int 180))) ∧
        (((isT (AV.bin Go.BinOp.lss (AV.bin Go.BinOp.sub x1 (AV.cel (AV.atAgg x0 (ys321.getD 1 default) 0 2) 0)) (AV.int 180))) →
          ((AV.binOk Go.BinOp.sub (AV.cel (AV.atAgg x0 (ys321.getD 1 default) 0 2) 0) x1) ∧
          ((AV.binOk Go.BinOp.lss (AV.bin Go.BinOp.sub (AV.cel (AV.atAgg x0 (ys321.getD 1 default) 0 2) 0) x1) (AV.int 180)) ∧
          ((AV.isBool (AV.bin Go.BinOp.lss (AV.bin Go.BinOp.sub x1 (AV.cel (AV.atAgg x0 (ys321.getD 1 default) 0 2) 0)) (AV.int 180))) ∧
          ((isT (AV.bin Go.BinOp.lss (AV.bin Go.BinOp.sub x1 (AV.cel (AV.atAgg x0 (ys321.getD 1 default) 0 2) 0)) (AV.int 180))) ∧
          ((AV.isBool (AV.bin Go.BinOp.lss (AV.bin Go.BinOp.sub (AV.cel (AV.atAgg x0 (ys321.getD 1 default) 0 2) 0) x1) (AV.int 180))) ∧
          (((isT (AV.bin Go.BinOp.lss (AV.bin Go.BinOp.sub (AV.cel (AV.atAgg x0 (ys321.getD 1 default) 0 2) 0) x1) (AV.int 180))) →
            ((AV.flat (AV.int (-1))) ∧
            (fSame (AV.int (-1)) r))) ∧
          ((isF (AV.bin Go.BinOp.lss (AV.bin Go.BinOp.sub (AV.cel (AV.atAgg x0 (ys321.getD 1 default) 0 2) 0) x1) (AV.int 180))) →
            ((AV.binOk Go.BinOp.add (ys321.getD 1 default) (AV.int 1)) ∧
            (again321 [(AV.cel (AV.atAgg x0 (ys321.getD 1 default) 0 2) 1), (AV.bin Go.BinOp.add (ys321.getD 1 default) (AV.int 1))])))))))))) ∧
        ((isF (AV.bin Go.BinOp.lss (AV.bin Go.BinOp.sub x1 (AV.cel (AV.atAgg x0 (ys321.getD 1 default) 0 2) 0)) (AV.int 180))) →
          ((AV.isBool (AV.bin Go.BinOp.lss (AV.bin Go.BinOp.sub x1 (AV.cel (AV.atAgg x0 (ys321.getD 1 default) 0 2) 0)) (AV.int 180))) ∧
          ((isF (AV.bin Go.BinOp.lss (AV.bin Go.BinOp.sub x1 (AV.cel (AV.atAgg x0 (ys321.getD 1 default) 0 2) 0)) (AV.int 180))) ∧
          ((AV.binOk Go.BinOp.add (ys321.getD 1 default) (AV.int 1)) ∧
          (again321 [(AV.cel (AV.atAgg x0 (ys321.getD 1 default) 0 2) 1), (AV.bin Go.BinOp.add (ys321.getD 1 default) (AV.int 1))])))))))))))) ∧
      ((isF (AV.bin Go.BinOp.gtr (ys321.getD 1 default) (AV.int 0))) →
        ((AV.isBool (AV.bin Go.BinOp.gtr (ys321.getD 1 default) (AV.int 0))) ∧
        ((isF (AV.bin Go.BinOp.gtr (ys321.getD 1 default) (AV.int 0))) ∧
        ((AV.binOk Go.BinOp.add (ys321.getD 1 default) (AV.int 1)) ∧
        (again321 [(AV.cel (AV.atAgg x0 (ys321.getD 1 default) 0 2) 1), (AV.bin Go.BinOp.add (ys321.getD 1 default) (AV.int 1))]))))))))) ∧
    ((isF (AV.bin Go.BinOp.leq (AV.cel (AV.atAgg x0 (ys321.getD 1 default) 0 2) 0) x1)) →
      ((AV.binOk Go.BinOp.gtr (ys321.getD 1 default) (AV.int 0)) ∧
      ((AV.isBool (AV.bin Go.BinOp.gtr (ys321.getD 1 default) (AV.int 0))) ∧
      (((isT (AV.bin Go.BinOp.gtr (ys321.getD 1 default) (AV.int 0))) →
        ((AV.binOk Go.BinOp.sub x1 (AV.cel (AV.atAgg x0 (ys321.getD 1 default) 0 2) 0)) ∧
        ((AV.binOk Go.BinOp.lss (AV.bin Go.BinOp.sub x1 (AV.cel (AV.atAgg x0 (ys321.getD 1 default) 0 2) 0)) (AV.int 180)) ∧
        ((AV.isBool (AV.bin Go.BinOp.gtr (ys321.getD 1 default) (AV.int 0))) ∧
        ((isT (AV.bin Go.BinOp.gtr (ys321.getD 1 default) (AV.int 0))) ∧
        ((AV.isBool (AV.bin Go.BinOp.lss (AV.bin Go.BinOp.sub x1 (AV.cel (AV.atAgg x0 (ys321.getD 1 default) 0 2) 0)) (AV.int 180))) ∧
        (((isT (AV.bin Go.BinOp.lss (AV.bin Go.BinOp.sub x1 (AV.cel (AV.atAgg x0 (ys321.getD 1 default) 0 2) 0)) (AV.int 180))) →
          ((AV.binOk Go.BinOp.sub (AV.cel (AV.atAgg x0 (ys321.getD 1 default) 0 2) 0) x1) ∧
          ((AV.binOk Go.BinOp.lss (AV.bin Go.BinOp.sub (AV.cel (AV.atAgg x0 (ys321.getD 1 default) 0 2) 0) x1) (AV.int 180)) ∧
          ((AV.isBool (AV.bin Go.BinOp.lss (AV.bin Go.BinOp.sub x1 (AV.cel (AV.atAgg x0 (ys321.getD 1 default) 0 2) 0)) (AV.int 180))) ∧
          ((isT (AV.bin Go.BinOp.lss (AV.bin Go.BinOp.sub x1 (AV.cel (AV.atAgg x0 (ys321.getD 1 default) 0 2) 0)) (AV.int 180))) ∧
          ((AV.isBool (AV.bin Go.BinOp.lss (AV.bin Go.BinOp.sub (AV.cel (AV.atAgg x0 (ys321.getD 1 default) 0 2) 0) x1) (AV.int 180))) ∧
          (((isT (AV.bin Go.BinOp.lss (AV.bin Go.BinOp.sub (AV.cel (AV.atAgg x0 (ys321.getD 1 default) 0 2) 0) x1) (AV.int 180))) →
            ((AV.flat (AV.int (-1))) ∧
            (fSame (AV.int (-1)) r))) ∧
          ((isF (AV.bin Go.BinOp.lss (AV.bin Go.BinOp.sub (AV.cel (AV.atAgg x0 (ys321.getD 1 default) 0 2) 0) x1) (AV.int 180))) →
            ((AV.binOk Go.BinOp.add (ys321.getD 1 default) (AV.int 1)) ∧
            (again321 [(ys321.getD 0 default), (AV.bin Go.BinOp.add (ys321.getD 1 default) (AV.int 1))])))))))))) ∧
        ((isF (AV.bin Go.BinOp.lss (AV.bin Go.BinOp.sub x1 (AV.cel (AV.atAgg x0 (ys321.getD 1 default) 0 2) 0)) (AV.int 180))) →
          ((AV.isBool (AV.bin Go.BinOp.lss (AV.bin Go.BinOp.sub x1 (AV.cel (AV.atAgg x0 (ys321.getD 1 default) 0 2) 0)) (AV.int 180))) ∧
          ((isF (AV.bin Go.BinOp.lss (AV.bin Go.BinOp.sub x1 (AV.cel (AV.atAgg x0 (ys321.getD 1 default) 0 2) 0)) (AV.int 180))) ∧
          ((AV.binOk Go.BinOp.add (ys321.getD 1 default) (AV.int 1)) ∧
          (again321 [(ys321.getD 0 default), (AV.bin Go.BinOp.add (ys321.getD 1 default) (AV.int 1))])))))))))))) ∧
      ((isF (AV.bin Go.BinOp.gtr (ys321.getD 1 default) (AV.int 0))) →
        ((AV.isBool (AV.bin Go.BinOp.gtr (ys321.getD 1 default) (AV.int 0))) ∧
        ((isF (AV.bin Go.BinOp.gtr (ys321.getD 1 default) (AV.int 0))) ∧
        ((AV.binOk Go.BinOp.add (ys321.getD 1 default) (AV.int 1)) ∧
        (again321 [(ys321.getD 0 default), (AV.bin Go.BinOp.add (ys321.getD 1 default) (AV.int 1))])))))))))))))))) ∧
  ((isF (AV.bin Go.BinOp.lss (ys321.getD 1 default) (AV.len x0))) →
    ((AV.flat (ys321.getD 0 default)) ∧
    (fSame (ys321.getD 0 default) r))))))))) := by kernel_rfl
theorem apart_form (x0 x1 x2 r : AV) : fnF Try.prog Γ ann 0 23 Try.f23 (Try.f23.body.getD .skip) (.nil) [x0, x1, x2] (.sc) r = (((AV.isAgg x0 16) ∧
((AV.isAgg x1 4) ∧
((AV.isAgg x2 4) ∧
((AV.isBool (AV.cel x1 2)) ∧
((AV.isBool (AV.cel x2 2)) ∧
((AV.isBool (AV.neB (AV.cel x1 2) (AV.cel x2 2))) ∧
(((isT (AV.neB (AV.cel x1 2) (AV.cel x2 2))) →
  ((AV.flat (AV.int 60)) ∧
  (fSame (AV.int 60) r))) ∧
((isF (AV.neB (AV.cel x1 2) (AV.cel x2 2))) →
  ((AV.inl 4 (AV.cel x1 1)) ∧
  ((AV.inl 4 (AV.cel x2 1)) ∧
  ((AV.nthOk 16 0 [((AV.cel x2 1), 1), ((AV.cel x1 1), 4)]) ∧
  ((AV.flat (AV.nth [(AV.cel x0 0), (AV.cel x0 1), (AV.cel x0 2), (AV.cel x0 3), (AV.cel x0 4), (AV.cel x0 5), (AV.cel x0 6), (AV.cel x0 7), (AV.cel x0 8), (AV.cel x0 9), (AV.cel x0 10), (AV.cel x0 11), (AV.cel x0 12), (AV.cel x0 13), (AV.cel x0 14), (AV.cel x0 15)] 0 [((AV.cel x2 1), 1), ((AV.cel x1 1), 4)])) ∧
  (fSame (AV.nth [(AV.cel x0 0), (AV.cel x0 1), (AV.cel x0 2), (AV.cel x0 3), (AV.cel x0 4), (AV.cel x0 5), (AV.cel x0 6), (AV.cel x0 7), (AV.cel x0 8), (AV.cel x0 9), (AV.cel x0 10), (AV.cel x0 11), (AV.cel x0 12), (AV.cel x0 13), (AV.cel x0 14), (AV.cel x0 15)] 0 [((AV.cel x2 1), 1), ((AV.cel x1 1), 4)]) r)))))))))))))) := by kernel_rfl
theorem fit_form (x0 x1 x2 x3 r : AV) : fnF Try.prog Γ ann 0 89 Try.f89 (Try.f89.body.getD .skip) ((.both .nil (.both (.both (.both .nil (.f .nil)) (.t .nil)) .nil))) [x0, x1, x2, x3] (.sc) r = (((AV.isAgg x2 16) ∧
((AV.isAgg x3 4) ∧
(∃ r385 : AV, ((Fn Try.prog 20 [x1, (AV.cel x3 0)] Sh.sc r385) ∧
((AV.binOk Go.BinOp.neq r385 (AV.cel x3 3)) ∧
((AV.isBool (AV.bin Go.BinOp.neq r385 (AV.cel x3 3))) ∧
(((isT (AV.bin Go.BinOp.neq r385 (AV.cel x3 3))) →
  ((AV.flat (AV.bool false)) ∧
  (fSame (AV.bool false) r))) ∧
((isF (AV.bin Go.BinOp.neq r385 (AV.cel x3 3))) →
  ((AV.isSl x0 4) ∧
  (fLoop 833 [(AV.int 0)] fun ys833 again833 =>
    ((AV.binOk Go.BinOp.lss (ys833.getD 0 default) (AV.len x0)) ∧
    ((AV.isBool (AV.bin Go.BinOp.lss (ys833.getD 0 default) (AV.len x0))) ∧
    (((isT (AV.bin Go.BinOp.lss (ys833.getD 0 default) (AV.len x0))) →
      ((AV.isSl x0 4) ∧
      ((AV.inb x0 (ys833.getD 0 default)) ∧
      ((AV.isAgg (AV.atAgg x0 (ys833.getD 0 default) 0 4) 4) ∧
      ((AV.binOk Go.BinOp.leq (AV.cel (AV.atAgg x0 (ys833.getD 0 default) 0 4) 0) (AV.cel x3 0)) ∧
      ((AV.isBool (AV.bin Go.BinOp.leq (AV.cel (AV.atAgg x0 (ys833.getD 0 default) 0 4) 0) (AV.cel x3 0))) ∧
      (((isT (AV.bin Go.BinOp.leq (AV.cel (AV.atAgg x0 (ys833.getD 0 default) 0 4) 0) (AV.cel x3 0))) →
        ((AV.binOk Go.BinOp.sub (AV.cel x3 0) (AV.cel (AV.atAgg x0 (ys833.getD 0 default) 0 4) 0)) ∧
        (∃ r2049 : AV, ((Fn Try.prog 23 [(AV.agg [(AV.cel x2 0), (AV.cel x2 1), (AV.cel x2 2), (AV.cel x2 3), (AV.cel x2 4), (AV.cel x2 5), (AV.cel x2 6), (AV.cel x2 7), (AV.cel x2 8), (AV.cel x2 9), (AV.cel x2 10), (AV.cel x2 11), (AV.cel x2 12), (AV.cel x2 13), (AV.cel x2 14), (AV.cel x2 15)]), (AV.agg [(AV.cel (AV.atAgg x0 (ys833.getD 0 default) 0 4) 0), (AV.cel (AV.atAgg x0 (ys833.getD 0 default) 0 4) 1), (AV.cel (AV.atAgg x0 (ys833.getD 0 default) 0 4) 2), (AV.cel (AV.atAgg x0 (ys833.getD 0 default) 0 4) 3)]), (AV.agg [(AV.cel x3 0), (AV.cel x3 1), (AV.cel x3 2), (AV.cel x3 3)])] Sh.sc r2049) ∧
        ((AV.binOk Go.BinOp.lss (AV.bin Go.BinOp.sub (AV.cel x3 0) (AV.cel (AV.atAgg x0 (ys833.getD 0 default) 0 4) 0)) r2049) ∧
        ((AV.isBool (AV.bin Go.BinOp.leq (AV.cel (AV.atAgg x0 (ys833.getD 0 default) 0 4) 0) (AV.cel x3 0))) ∧
        ((isT (AV.bin Go.BinOp.leq (AV.cel (AV.atAgg x0 (ys833.getD 0 default) 0 4) 0) (AV.cel x3 0))) ∧
        ((AV.isBool (AV.bin Go.BinOp.lss (AV.bin Go.BinOp.sub (AV.cel x3 0) (AV.cel (AV.atAgg x0 (ys833.getD 0 default) 0 4) 0)) r2049)) ∧
        (((isT (AV.bin Go.BinOp.lss (AV.bin Go.BinOp.sub (AV.cel x3 0) (AV.cel (AV.atAgg x0 (ys833.getD 0 default) 0 4) 0)) r2049)) →
          ((AV.isBool (AV.bin Go.BinOp.lss (AV.bin Go.BinOp.sub (AV.cel x3 0) (AV.cel (AV.atAgg x0 (ys833.getD 0 default) 0 4) 0)) r2049)) ∧
          ((isT (AV.bin Go.BinOp.lss (AV.bin Go.BinOp.sub (AV.cel x3 0) (AV.cel (AV.atAgg x0 (ys833.getD 0 default) 0 4) 0)) r2049)) ∧
          ((AV.flat (AV.bool false)) ∧
          (fSame (AV.bool false) r))))) ∧
        ((isF (AV.bin Go.BinOp.lss (AV.bin Go.BinOp.sub (AV.cel x3 0) (AV.cel (AV.atAgg x0 (ys833.getD 0 default) 0 4) 0)) r2049)) →
          ((AV.binOk Go.BinOp.gtr (AV.cel (AV.atAgg x0 (ys833.getD 0 default) 0 4) 0) (AV.cel x3 0)) ∧
          ((AV.isBool (AV.bin Go.BinOp.gtr (AV.cel (AV.atAgg x0 (ys833.getD 0 default) 0 4) 0) (AV.cel x3 0))) ∧
          ((isF (AV.bin Go.BinOp.gtr (AV.cel (AV.atAgg x0 (ys833.getD 0 default) 0 4) 0) (AV.cel x3 0))) ∧
          ((AV.isBool (AV.bin Go.BinOp.gtr (AV.cel (AV.atAgg x0 (ys833.getD 0 default) 0 4) 0) (AV.cel x3 0))) ∧
          ((isF (AV.bin Go.BinOp.gtr (AV.cel (AV.atAgg x0 (ys833.getD 0 default) 0 4) 0) (AV.cel x3 0))) ∧
          ((AV.isBool (AV.bin Go.BinOp.lss (AV.bin Go.BinOp.sub (AV.cel x3 0) (AV.cel (AV.atAgg x0 (ys833.getD 0 default) 0 4) 0)) r2049)) ∧
          ((isF (AV.bin Go.BinOp.lss (AV.bin Go.BinOp.sub (AV.cel x3 0) (AV.cel (AV.atAgg x0 (ys833.getD 0 default) 0 4) 0)) r2049)) ∧
          ((AV.binOk Go.BinOp.add (ys833.getD 0 default) (AV.int 1)) ∧
          (again833 [(AV.bin Go.BinOp.add (ys833.getD 0 default) (AV.int 1))]))))))))))))))))))) ∧
      ((isF (AV.bin Go.BinOp.leq (AV.cel (AV.atAgg x0 (ys833.getD 0 default) 0 4) 0) (AV.cel x3 0))) →
        ((AV.isBool (AV.bin Go.BinOp.leq (AV.cel (AV.atAgg x0 (ys833.getD 0 default) 0 4) 0) (AV.cel x3 0))) ∧
        ((isF (AV.bin Go.BinOp.leq (AV.cel (AV.atAgg x0 (ys833.getD 0 default) 0 4) 0) (AV.cel x3 0))) ∧
        ((AV.binOk Go.BinOp.gtr (AV.cel (AV.atAgg x0 (ys833.getD 0 default) 0 4) 0) (AV.cel x3 0)) ∧
        ((AV.isBool (AV.bin Go.BinOp.gtr (AV.cel (AV.atAgg x0 (ys833.getD 0 default) 0 4) 0) (AV.cel x3 0))) ∧
        ((isT (AV.bin Go.BinOp.gtr (AV.cel (AV.atAgg x0 (ys833.getD 0 default) 0 4) 0) (AV.cel x3 0))) ∧
        ((AV.binOk Go.BinOp.sub (AV.cel (AV.atAgg x0 (ys833.getD 0 default) 0 4) 0) (AV.cel x3 0)) ∧
        (∃ r3201 : AV, ((Fn Try.prog 23 [(AV.agg [(AV.cel x2 0), (AV.cel x2 1), (AV.cel x2 2), (AV.cel x2 3), (AV.cel x2 4), (AV.cel x2 5), (AV.cel x2 6), (AV.cel x2 7), (AV.cel x2 8), (AV.cel x2 9), (AV.cel x2 10), (AV.cel x2 11), (AV.cel x2 12), (AV.cel x2 13), (AV.cel x2 14), (AV.cel x2 15)]), (AV.agg [(AV.cel x3 0), (AV.cel x3 1), (AV.cel x3 2), (AV.cel x3 3)]), (AV.agg [(AV.cel (AV.atAgg x0 (ys833.getD 0 default) 0 4) 0), (AV.cel (AV.atAgg x0 (ys833.getD 0 default) 0 4) 1), (AV.cel (AV.atAgg x0 (ys833.getD 0 default) 0 4) 2), (AV.cel (AV.atAgg x0 (ys833.getD 0 default) 0 4) 3)])] Sh.sc r3201) ∧
        ((AV.binOk Go.BinOp.lss (AV.bin Go.BinOp.sub (AV.cel (AV.atAgg x0 (ys833.getD 0 default) 0 4) 0) (AV.cel x3 0)) r3201) ∧
        ((AV.isBool (AV.bin Go.BinOp.gtr (AV.cel (AV.atAgg x0 (ys833.getD 0 default) 0 4) 0) (AV.cel x3 0))) ∧
        ((isT (AV.bin Go.BinOp.gtr (AV.cel (AV.atAgg x0 (ys833.getD 0 default) 0 4) 0) (AV.cel x3 0))) ∧
        ((AV.isBool (AV.bin Go.BinOp.lss (AV.bin Go.BinOp.sub (AV.cel (AV.atAgg x0 (ys833.getD 0 default) 0 4) 0) (AV.cel x3 0)) r3201)) ∧
        (((isT (AV.bin Go.BinOp.lss (AV.bin Go.BinOp.sub (AV.cel (AV.atAgg x0 (ys833.getD 0 default) 0 4) 0) (AV.cel x3 0)) r3201)) →
          ((AV.flat (AV.bool false)) ∧
          (fSame (AV.bool false) r))) ∧
        ((isF (AV.bin Go.BinOp.lss (AV.bin Go.BinOp.sub (AV.cel (AV.atAgg x0 (ys833.getD 0 default) 0 4) 0) (AV.cel x3 0)) r3201)) →
          ((AV.binOk Go.BinOp.add (ys833.getD 0 default) (AV.int 1)) ∧
          (again833 [(AV.bin Go.BinOp.add (ys833.getD 0 default) (AV.int 1))])))))))))))))))))))))))) ∧
    ((isF (AV.bin Go.BinOp.lss (ys833.getD 0 default) (AV.len x0))) →
      ((AV.flat (AV.bool true)) ∧
      (fSame (AV.bool true) r))))))))))))))))) := by kernel_rfl
theorem wrong_form (x0 x1 x2 r : AV) : fnF Try.prog Γ ann 0 26 Try.f26 (Try.f26.body.getD .skip) (.nil) [x0, x1, x2] (.tup [.sc, .sc, .sc]) r = (((AV.isAgg x2 16) ∧
((AV.isSl x0 4) ∧
(fLoop 449 [(AV.int 0)] fun ys449 again449 =>
  ((AV.binOk Go.BinOp.lss (ys449.getD 0 default) (AV.len x0)) ∧
  ((AV.isBool (AV.bin Go.BinOp.lss (ys449.getD 0 default) (AV.len x0))) ∧
  (((isT (AV.bin Go.BinOp.lss (ys449.getD 0 default) (AV.len x0))) →
    ((AV.isSl x0 4) ∧
    ((AV.inb x0 (ys449.getD 0 default)) ∧
    ((AV.isAgg (AV.atAgg x0 (ys449.getD 0 default) 0 4) 4) ∧
    (∃ r1089 : AV, ((Fn Try.prog 20 [x1, (AV.cel (AV.atAgg x0 (ys449.getD 0 default) 0 4) 0)] Sh.sc r1089) ∧
    ((AV.binOk Go.BinOp.neq r1089 (AV.cel (AV.atAgg x0 (ys449.getD 0 default) 0 4) 3)) ∧
    ((AV.isBool (AV.bin Go.BinOp.neq r1089 (AV.cel (AV.atAgg x0 (ys449.getD 0 default) 0 4) 3))) ∧
    (((isT (AV.bin Go.BinOp.neq r1089 (AV.cel (AV.atAgg x0 (ys449.getD 0 default) 0 4) 3))) →
      ((AV.flat (ys449.getD 0 default)) ∧
      ((AV.flat (ys449.getD 0 default)) ∧
      ((AV.flat (AV.int 14)) ∧
      (fSame (AV.tup [(ys449.getD 0 default), (ys449.getD 0 default), (AV.int 14)]) r))))) ∧
    ((isF (AV.bin Go.BinOp.neq r1089 (AV.cel (AV.atAgg x0 (ys449.getD 0 default) 0 4) 3))) →
      ((AV.binOk Go.BinOp.add (ys449.getD 0 default) (AV.int 1)) ∧
      (again449 [(AV.bin Go.BinOp.add (ys449.getD 0 default) (AV.int 1))])))))))))))) ∧
  ((isF (AV.bin Go.BinOp.lss (ys449.getD 0 default) (AV.len x0))) →
    ((AV.isSl x0 4) ∧
    (fLoop 705 [(AV.int 0)] fun ys705 again705 =>
      ((AV.binOk Go.BinOp.lss (ys705.getD 0 default) (AV.len x0)) ∧
      ((AV.isBool (AV.bin Go.BinOp.lss (ys705.getD 0 default) (AV.len x0))) ∧
      (((isT (AV.bin Go.BinOp.lss (ys705.getD 0 default) (AV.len x0))) →
        ((AV.binOk Go.BinOp.add (ys705.getD 0 default) (AV.int 1)) ∧
        (fLoop 1089 [(AV.bin Go.BinOp.add (ys705.getD 0 default) (AV.int 1))] fun ys1089 again1089 =>
          ((AV.isSl x0 4) ∧
          ((AV.binOk Go.BinOp.lss (ys1089.getD 0 default) (AV.len x0)) ∧
          ((AV.isBool (AV.bin Go.BinOp.lss (ys1089.getD 0 default) (AV.len x0))) ∧
          (((isT (AV.bin Go.BinOp.lss (ys1089.getD 0 default) (AV.len x0))) →
            ((AV.isSl x0 4) ∧
            ((AV.inb x0 (ys1089.getD 0 default)) ∧
            ((AV.isSl x0 4) ∧
            ((AV.inb x0 (ys705.getD 0 default)) ∧
            ((AV.isSl x0 4) ∧
            ((AV.inb x0 (ys705.getD 0 default)) ∧
            ((AV.isSl x0 4) ∧
            ((AV.inb x0 (ys1089.getD 0 default)) ∧
            (∃ r2561 : AV, ((Fn Try.prog 23 [(AV.agg [(AV.cel x2 0), (AV.cel x2 1), (AV.cel x2 2), (AV.cel x2 3), (AV.cel x2 4), (AV.cel x2 5), (AV.cel x2 6), (AV.cel x2 7), (AV.cel x2 8), (AV.cel x2 9), (AV.cel x2 10), (AV.cel x2 11), (AV.cel x2 12), (AV.cel x2 13), (AV.cel x2 14), (AV.cel x2 15)]), (AV.atAgg x0 (ys705.getD 0 default) 0 4), (AV.atAgg x0 (ys1089.getD 0 default) 0 4)] Sh.sc r2561) ∧
            ((AV.binOk Go.BinOp.add (AV.at x0 (ys705.getD 0 default) 0) r2561) ∧
            ((AV.binOk Go.BinOp.lss (AV.at x0 (ys1089.getD 0 default) 0) (AV.bin Go.BinOp.add (AV.at x0 (ys705.getD 0 default) 0) r2561)) ∧
            ((AV.isBool (AV.bin Go.BinOp.lss (AV.at x0 (ys1089.getD 0 default) 0) (AV.bin Go.BinOp.add (AV.at x0 (ys705.getD 0 default) 0) r2561))) ∧
            (((isT (AV.bin Go.BinOp.lss (AV.at x0 (ys1089.getD 0 default) 0) (AV.bin Go.BinOp.add (AV.at x0 (ys705.getD 0 default) 0) r2561))) →
              ((AV.flat (ys705.getD 0 default)) ∧
              ((AV.flat (ys1089.getD 0 default)) ∧
              ((AV.flat (AV.int 15)) ∧
              (fSame (AV.tup [(ys705.getD 0 default), (ys1089.getD 0 default), (AV.int 15)]) r))))) ∧
            ((isF (AV.bin Go.BinOp.lss (AV.at x0 (ys1089.getD 0 default) 0) (AV.bin Go.BinOp.add (AV.at x0 (ys705.getD 0 default) 0) r2561))) →
              ((AV.binOk Go.BinOp.add (ys1089.getD 0 default) (AV.int 1)) ∧
              (again1089 [(AV.bin Go.BinOp.add (ys1089.getD 0 default) (AV.int 1))])))))))))))))))))) ∧
          ((isF (AV.bin Go.BinOp.lss (ys1089.getD 0 default) (AV.len x0))) →
            ((AV.binOk Go.BinOp.add (ys705.getD 0 default) (AV.int 1)) ∧
            (again705 [(AV.bin Go.BinOp.add (ys705.getD 0 default) (AV.int 1))])))))))))) ∧
      ((isF (AV.bin Go.BinOp.lss (ys705.getD 0 default) (AV.len x0))) →
        ((AV.flat (AV.int 0)) ∧
        ((AV.flat (AV.int 0)) ∧
        ((AV.flat (AV.int 0)) ∧
        (fSame (AV.tup [(AV.int 0), (AV.int 0), (AV.int 0)]) r)))))))))))))))))) := by kernel_rfl
theorem departed_form (x0 x1 x2 x3 x4 r : AV) : fnF Try.prog Γ ann 0 30 Try.f30 (Try.f30.body.getD .skip) (.nil) [x0, x1, x2, x3, x4] (.tup [.sc, .sc]) r = (((AV.isAgg x2 16) ∧
((AV.isAgg x3 2) ∧
(fLoop 449 [(AV.cel x3 0)] fun ys449 again449 =>
  ((AV.binOk Go.BinOp.leq (ys449.getD 0 default) x4) ∧
  ((AV.isBool (AV.bin Go.BinOp.leq (ys449.getD 0 default) x4)) ∧
  (((isT (AV.bin Go.BinOp.leq (ys449.getD 0 default) x4)) →
    (∃ r961 : AV, ((Fn Try.prog 20 [x1, (ys449.getD 0 default)] Sh.sc r961) ∧
    ((AV.isOne (ys449.getD 0 default)) ∧
    ((AV.isOne (AV.cel x3 1)) ∧
    ((AV.isOne r961) ∧
    ((AV.binOk Go.BinOp.geq r961 (AV.int 0)) ∧
    ((AV.isBool (AV.bin Go.BinOp.geq r961 (AV.int 0))) ∧
    (((isT (AV.bin Go.BinOp.geq r961 (AV.int 0))) →
      (∃ r1729 : AV, ((Fn Try.prog 89 [x0, x1, (AV.agg [(AV.cel x2 0), (AV.cel x2 1), (AV.cel x2 2), (AV.cel x2 3), (AV.cel x2 4), (AV.cel x2 5), (AV.cel x2 6), (AV.cel x2 7), (AV.cel x2 8), (AV.cel x2 9), (AV.cel x2 10), (AV.cel x2 11), (AV.cel x2 12), (AV.cel x2 13), (AV.cel x2 14), (AV.cel x2 15)]), (AV.agg [(ys449.getD 0 default), (AV.cel x3 1), (AV.bool true), r961])] Sh.sc r1729) ∧
      ((AV.isBool (AV.bin Go.BinOp.geq r961 (AV.int 0))) ∧
      ((isT (AV.bin Go.BinOp.geq r961 (AV.int 0))) ∧
      ((AV.isBool r1729) ∧
      (((isT r1729) →
        ((AV.flat (AV.agg [(ys449.getD 0 default), (AV.cel x3 1), (AV.bool true), r961])) ∧
        ((AV.flat (AV.bool true)) ∧
        (fSame (AV.tup [(AV.agg [(ys449.getD 0 default), (AV.cel x3 1), (AV.bool true), r961]), (AV.bool true)]) r)))) ∧
      ((isF r1729) →
        ((AV.binOk Go.BinOp.add (ys449.getD 0 default) (AV.int 1)) ∧
        (again449 [(AV.bin Go.BinOp.add (ys449.getD 0 default) (AV.int 1))])))))))))) ∧
    ((isF (AV.bin Go.BinOp.geq r961 (AV.int 0))) →
      ((AV.isBool (AV.bin Go.BinOp.geq r961 (AV.int 0))) ∧
      ((isF (AV.bin Go.BinOp.geq r961 (AV.int 0))) ∧
      ((AV.binOk Go.BinOp.add (ys449.getD 0 default) (AV.int 1)) ∧
      (again449 [(AV.bin Go.BinOp.add (ys449.getD 0 default) (AV.int 1))])))))))))))))) ∧
  ((isF (AV.bin Go.BinOp.leq (ys449.getD 0 default) x4)) →
    ((AV.flat (AV.agg [(AV.int 0), (AV.int 0), (AV.bool false), (AV.int 0)])) ∧
    ((AV.flat (AV.bool false)) ∧
    (fSame (AV.tup [(AV.agg [(AV.int 0), (AV.int 0), (AV.bool false), (AV.int 0)]), (AV.bool false)]) r))))))))))) := by kernel_rfl
theorem clonem_form (x0 r : AV) : fnF Try.prog Γ ann 0 28 Try.f28 (Try.f28.body.getD .skip) (.nil) [x0] (.row 35 4 true) r = ((fNil x0
  ((AV.flatS (AV.mk 4 [])) ∧
  (fSame (AV.mk 4 []) r))
  ((AV.isSl x0 4) ∧
  ((AV.room (AV.mk 4 []) x0 32) ∧
  ((AV.flatS (AV.app 4 (AV.mk 4 []) x0)) ∧
  (fSame (AV.app 4 (AV.mk 4 []) x0) r)))))) := by kernel_rfl
theorem clones_form (x0 r : AV) : fnF Try.prog Γ ann 0 37 Try.f37 (Try.f37.body.getD .skip) (.nil) [x0] (.row 60 2 true) r = ((fNil x0
  ((AV.flatS (AV.mk 2 [])) ∧
  (fSame (AV.mk 2 []) r))
  ((AV.isSl x0 2) ∧
  ((AV.room (AV.mk 2 []) x0 16) ∧
  ((AV.flatS (AV.app 2 (AV.mk 2 []) x0)) ∧
  (fSame (AV.app 2 (AV.mk 2 []) x0) r)))))) := by kernel_rfl
theorem eqm_form (x0 x1 r : AV) : fnF Try.prog Γ ann 0 32 Try.f32 (Try.f32.body.getD .skip) (.nil) [x0, x1] (.sc) r = (((AV.isSl x0 4) ∧
((AV.isSl x1 4) ∧
((AV.binOk Go.BinOp.neq (AV.len x0) (AV.len x1)) ∧
((AV.isBool (AV.bin Go.BinOp.neq (AV.len x0) (AV.len x1))) ∧
(((isT (AV.bin Go.BinOp.neq (AV.len x0) (AV.len x1))) →
  ((AV.flat (AV.bool false)) ∧
  (fSame (AV.bool false) r))) ∧
((isF (AV.bin Go.BinOp.neq (AV.len x0) (AV.len x1))) →
  ((AV.isSl x0 4) ∧
  (fLoop 577 [(AV.int 0)] fun ys577 again577 =>
    ((AV.binOk Go.BinOp.lss (ys577.getD 0 default) (AV.len x0)) ∧
    ((AV.isBool (AV.bin Go.BinOp.lss (ys577.getD 0 default) (AV.len x0))) ∧
    (((isT (AV.bin Go.BinOp.lss (ys577.getD 0 default) (AV.len x0))) →
      ((AV.isSl x0 4) ∧
      ((AV.inb x0 (ys577.getD 0 default)) ∧
      ((AV.isSl x1 4) ∧
      ((AV.inb x1 (ys577.getD 0 default)) ∧
      ((AV.eqPlOk [(0, (EK.int Go.IntKind.i64)), (1, (EK.int Go.IntKind.i64)), (2, EK.bool), (3, (EK.int Go.IntKind.i64))] [(AV.cel (AV.atAgg x0 (ys577.getD 0 default) 0 4) 0), (AV.cel (AV.atAgg x0 (ys577.getD 0 default) 0 4) 1), (AV.cel (AV.atAgg x0 (ys577.getD 0 default) 0 4) 2), (AV.cel (AV.atAgg x0 (ys577.getD 0 default) 0 4) 3)] [(AV.cel (AV.atAgg x1 (ys577.getD 0 default) 0 4) 0), (AV.cel (AV.atAgg x1 (ys577.getD 0 default) 0 4) 1), (AV.cel (AV.atAgg x1 (ys577.getD 0 default) 0 4) 2), (AV.cel (AV.atAgg x1 (ys577.getD 0 default) 0 4) 3)]) ∧
      ((AV.isAgg (AV.atAgg x0 (ys577.getD 0 default) 0 4) 4) ∧
      ((AV.isAgg (AV.atAgg x1 (ys577.getD 0 default) 0 4) 4) ∧
      ((AV.isBool (AV.nePl [(0, (EK.int Go.IntKind.i64)), (1, (EK.int Go.IntKind.i64)), (2, EK.bool), (3, (EK.int Go.IntKind.i64))] [(AV.cel (AV.atAgg x0 (ys577.getD 0 default) 0 4) 0), (AV.cel (AV.atAgg x0 (ys577.getD 0 default) 0 4) 1), (AV.cel (AV.atAgg x0 (ys577.getD 0 default) 0 4) 2), (AV.cel (AV.atAgg x0 (ys577.getD 0 default) 0 4) 3)] [(AV.cel (AV.atAgg x1 (ys577.getD 0 default) 0 4) 0), (AV.cel (AV.atAgg x1 (ys577.getD 0 default) 0 4) 1), (AV.cel (AV.atAgg x1 (ys577.getD 0 default) 0 4) 2), (AV.cel (AV.atAgg x1 (ys577.getD 0 default) 0 4) 3)])) ∧
      (((isT (AV.nePl [(0, (EK.int Go.IntKind.i64)), (1, (EK.int Go.IntKind.i64)), (2, EK.bool), (3, (EK.int Go.IntKind.i64))] [(AV.cel (AV.atAgg x0 (ys577.getD 0 default) 0 4) 0), (AV.cel (AV.atAgg x0 (ys577.getD 0 default) 0 4) 1), (AV.cel (AV.atAgg x0 (ys577.getD 0 default) 0 4) 2), (AV.cel (AV.atAgg x0 (ys577.getD 0 default) 0 4) 3)] [(AV.cel (AV.atAgg x1 (ys577.getD 0 default) 0 4) 0), (AV.cel (AV.atAgg x1 (ys577.getD 0 default) 0 4) 1), (AV.cel (AV.atAgg x1 (ys577.getD 0 default) 0 4) 2), (AV.cel (AV.atAgg x1 (ys577.getD 0 default) 0 4) 3)])) →
        ((AV.flat (AV.bool false)) ∧
        (fSame (AV.bool false) r))) ∧
      ((isF (AV.nePl [(0, (EK.int Go.IntKind.i64)), (1, (EK.int Go.IntKind.i64)), (2, EK.bool), (3, (EK.int Go.IntKind.i64))] [(AV.cel (AV.atAgg x0 (ys577.getD 0 default) 0 4) 0), (AV.cel (AV.atAgg x0 (ys577.getD 0 default) 0 4) 1), (AV.cel (AV.atAgg x0 (ys577.getD 0 default) 0 4) 2), (AV.cel (AV.atAgg x0 (ys577.getD 0 default) 0 4) 3)] [(AV.cel (AV.atAgg x1 (ys577.getD 0 default) 0 4) 0), (AV.cel (AV.atAgg x1 (ys577.getD 0 default) 0 4) 1), (AV.cel (AV.atAgg x1 (ys577.getD 0 default) 0 4) 2), (AV.cel (AV.atAgg x1 (ys577.getD 0 default) 0 4) 3)])) →
        ((AV.binOk Go.BinOp.add (ys577.getD 0 default) (AV.int 1)) ∧
        (again577 [(AV.bin Go.BinOp.add (ys577.getD 0 default) (AV.int 1))]))))))))))))) ∧
    ((isF (AV.bin Go.BinOp.lss (ys577.getD 0 default) (AV.len x0))) →
      ((AV.flat (AV.bool true)) ∧
      (fSame (AV.bool true) r))))))))))))))) := by kernel_rfl
theorem eqp_form (x0 x1 r : AV) : fnF Try.prog Γ ann 0 36 Try.f36 (Try.f36.body.getD .skip) (.nil) [x0, x1] (.sc) r = (((AV.isSl x0 2) ∧
((AV.isSl x1 2) ∧
((AV.binOk Go.BinOp.neq (AV.len x0) (AV.len x1)) ∧
((AV.isBool (AV.bin Go.BinOp.neq (AV.len x0) (AV.len x1))) ∧
(((isT (AV.bin Go.BinOp.neq (AV.len x0) (AV.len x1))) →
  ((AV.flat (AV.bool false)) ∧
  (fSame (AV.bool false) r))) ∧
((isF (AV.bin Go.BinOp.neq (AV.len x0) (AV.len x1))) →
  ((AV.isSl x0 2) ∧
  (fLoop 577 [(AV.int 0)] fun ys577 again577 =>
    ((AV.binOk Go.BinOp.lss (ys577.getD 0 default) (AV.len x0)) ∧
    ((AV.isBool (AV.bin Go.BinOp.lss (ys577.getD 0 default) (AV.len x0))) ∧
    (((isT (AV.bin Go.BinOp.lss (ys577.getD 0 default) (AV.len x0))) →
      ((AV.isSl x0 2) ∧
      ((AV.inb x0 (ys577.getD 0 default)) ∧
      ((AV.isSl x1 2) ∧
      ((AV.inb x1 (ys577.getD 0 default)) ∧
      ((AV.eqPlOk [(0, (EK.int Go.IntKind.i64)), (1, (EK.int Go.IntKind.i64))] [(AV.cel (AV.atAgg x0 (ys577.getD 0 default) 0 2) 0), (AV.cel (AV.atAgg x0 (ys577.getD 0 default) 0 2) 1)] [(AV.cel (AV.atAgg x1 (ys577.getD 0 default) 0 2) 0), (AV.cel (AV.atAgg x1 (ys577.getD 0 default) 0 2) 1)]) ∧
      ((AV.isAgg (AV.atAgg x0 (ys577.getD 0 default) 0 2) 2) ∧
      ((AV.isAgg (AV.atAgg x1 (ys577.getD 0 default) 0 2) 2) ∧
      ((AV.isBool (AV.nePl [(0, (EK.int Go.IntKind.i64)), (1, (EK.int Go.IntKind.i64))] [(AV.cel (AV.atAgg x0 (ys577.getD 0 default) 0 2) 0), (AV.cel (AV.atAgg x0 (ys577.getD 0 default) 0 2) 1)] [(AV.cel (AV.atAgg x1 (ys577.getD 0 default) 0 2) 0), (AV.cel (AV.atAgg x1 (ys577.getD 0 default) 0 2) 1)])) ∧
      (((isT (AV.nePl [(0, (EK.int Go.IntKind.i64)), (1, (EK.int Go.IntKind.i64))] [(AV.cel (AV.atAgg x0 (ys577.getD 0 default) 0 2) 0), (AV.cel (AV.atAgg x0 (ys577.getD 0 default) 0 2) 1)] [(AV.cel (AV.atAgg x1 (ys577.getD 0 default) 0 2) 0), (AV.cel (AV.atAgg x1 (ys577.getD 0 default) 0 2) 1)])) →
        ((AV.flat (AV.bool false)) ∧
        (fSame (AV.bool false) r))) ∧
      ((isF (AV.nePl [(0, (EK.int Go.IntKind.i64)), (1, (EK.int Go.IntKind.i64))] [(AV.cel (AV.atAgg x0 (ys577.getD 0 default) 0 2) 0), (AV.cel (AV.atAgg x0 (ys577.getD 0 default) 0 2) 1)] [(AV.cel (AV.atAgg x1 (ys577.getD 0 default) 0 2) 0), (AV.cel (AV.atAgg x1 (ys577.getD 0 default) 0 2) 1)])) →
        ((AV.binOk Go.BinOp.add (ys577.getD 0 default) (AV.int 1)) ∧
        (again577 [(AV.bin Go.BinOp.add (ys577.getD 0 default) (AV.int 1))]))))))))))))) ∧
    ((isF (AV.bin Go.BinOp.lss (ys577.getD 0 default) (AV.len x0))) →
      ((AV.flat (AV.bool true)) ∧
      (fSame (AV.bool true) r))))))))))))))) := by kernel_rfl
theorem plan_form (x0 x1 x2 r : AV) : fnF Try.prog Γ ann 0 25 Try.f25 (Try.f25.body.getD .skip) (.nil) [x0, x1, x2] (.sc) r = (((AV.isAgg x2 16) ∧
(∃ r193 : AV, ((Fn Try.prog 18 [x0] Sh.sc r193) ∧
((AV.binOk Go.BinOp.neq r193 (AV.int 0)) ∧
((AV.isBool (AV.bin Go.BinOp.neq r193 (AV.int 0))) ∧
(((isT (AV.bin Go.BinOp.neq r193 (AV.int 0))) →
  ((AV.flat r193) ∧
  (fSame r193 r))) ∧
((isF (AV.bin Go.BinOp.neq r193 (AV.int 0))) →
  (∃ r513 : AV, ((Fn Try.prog 16 [x1] Sh.sc r513) ∧
  ((AV.binOk Go.BinOp.neq r513 (AV.int 0)) ∧
  ((AV.isBool (AV.bin Go.BinOp.neq r513 (AV.int 0))) ∧
  (((isT (AV.bin Go.BinOp.neq r513 (AV.int 0))) →
    ((AV.flat r513) ∧
    (fSame r513 r))) ∧
  ((isF (AV.bin Go.BinOp.neq r513 (AV.int 0))) →
    (∃ r833 : AV, ((Fn Try.prog 22 [(AV.agg [(AV.cel x2 0), (AV.cel x2 1), (AV.cel x2 2), (AV.cel x2 3), (AV.cel x2 4), (AV.cel x2 5), (AV.cel x2 6), (AV.cel x2 7), (AV.cel x2 8), (AV.cel x2 9), (AV.cel x2 10), (AV.cel x2 11), (AV.cel x2 12), (AV.cel x2 13), (AV.cel x2 14), (AV.cel x2 15)])] Sh.sc r833) ∧
    ((AV.flat r833) ∧
    (fSame r833 r)))))))))))))))))) := by kernel_rfl
theorem classes_form (x0 r : AV) : fnF Try.prog Γ ann 0 29 Try.f29 (Try.f29.body.getD .skip) (.nil) [x0] (.sc) r = (((AV.isSl x0 1) ∧
(fLoop 257 [(AV.int 0)] fun ys257 again257 =>
  ((AV.binOk Go.BinOp.lss (ys257.getD 0 default) (AV.len x0)) ∧
  ((AV.isBool (AV.bin Go.BinOp.lss (ys257.getD 0 default) (AV.len x0))) ∧
  (((isT (AV.bin Go.BinOp.lss (ys257.getD 0 default) (AV.len x0))) →
    ((AV.isSl x0 1) ∧
    ((AV.inb x0 (ys257.getD 0 default)) ∧
    ((AV.binOk Go.BinOp.lss (AV.at x0 (ys257.getD 0 default) 0) (AV.int 0)) ∧
    ((AV.isBool (AV.bin Go.BinOp.lss (AV.at x0 (ys257.getD 0 default) 0) (AV.int 0))) ∧
    (((isT (AV.bin Go.BinOp.lss (AV.at x0 (ys257.getD 0 default) 0) (AV.int 0))) →
      ((AV.isBool (AV.bin Go.BinOp.lss (AV.at x0 (ys257.getD 0 default) 0) (AV.int 0))) ∧
      ((isT (AV.bin Go.BinOp.lss (AV.at x0 (ys257.getD 0 default) 0) (AV.int 0))) ∧
      ((AV.flat (AV.int 1)) ∧
      (fSame (AV.int 1) r))))) ∧
    ((isF (AV.bin Go.BinOp.lss (AV.at x0 (ys257.getD 0 default) 0) (AV.int 0))) →
      ((AV.binOk Go.BinOp.gtr (AV.at x0 (ys257.getD 0 default) 0) (AV.int 3)) ∧
      ((AV.isBool (AV.bin Go.BinOp.lss (AV.at x0 (ys257.getD 0 default) 0) (AV.int 0))) ∧
      ((isF (AV.bin Go.BinOp.lss (AV.at x0 (ys257.getD 0 default) 0) (AV.int 0))) ∧
      ((AV.isBool (AV.bin Go.BinOp.gtr (AV.at x0 (ys257.getD 0 default) 0) (AV.int 3))) ∧
      (((isT (AV.bin Go.BinOp.gtr (AV.at x0 (ys257.getD 0 default) 0) (AV.int 3))) →
        ((AV.flat (AV.int 1)) ∧
        (fSame (AV.int 1) r))) ∧
      ((isF (AV.bin Go.BinOp.gtr (AV.at x0 (ys257.getD 0 default) 0) (AV.int 3))) →
        ((AV.binOk Go.BinOp.add (ys257.getD 0 default) (AV.int 1)) ∧
        (again257 [(AV.bin Go.BinOp.add (ys257.getD 0 default) (AV.int 1))]))))))))))))))) ∧
  ((isF (AV.bin Go.BinOp.lss (ys257.getD 0 default) (AV.len x0))) →
    ((AV.flat (AV.int 0)) ∧
    (fSame (AV.int 0) r))))))))) := by kernel_rfl
end RunwayF
end Go.Proofs.Ytlhhdonpoglfkaa
