/- link, by the run. -/
import Derived.Test.YthihgkgfdmkmhaaVal
namespace Go.Proofs.Ythihgkgfdmkmhaa
open Go.RowKit
set_option linter.unusedVariables false
set_option maxRecDepth 100000
namespace LinkV
--GAMMA
def Γ : FuncId → Option Ca := fun f =>
  if f = 22 ∨ f = 24 ∨ f = 23 ∨ f = 25 then some .inl
  else if f = 18 then some (.fn .sc) else if f = 10 then some (.fn (.row 9 1 true)) else none
def ann : FuncId → Nat → LoopEx := fun _ _ => ⟨[], [], [], []⟩
--END GAMMA
theorem take_form (x0 x1 r : AV) : fnF Try.prog Γ ann 1 16 Try.f16 (Try.f16.body.getD .skip) (.nil) [x0, x1] (.tup [.sc, .sc, .sc]) r = (((AV.isAgg x1 2) ∧
((fEnt Try.prog 22) ∧
(fAllV fun _ => ((AV.binOk Go.BinOp.lss x0 (AV.int 1)) ∧
((AV.isBool (AV.bin Go.BinOp.lss x0 (AV.int 1))) ∧
(((isT (AV.bin Go.BinOp.lss x0 (AV.int 1))) →
  ((AV.isBool (AV.bin Go.BinOp.lss x0 (AV.int 1))) ∧
  ((isT (AV.bin Go.BinOp.lss x0 (AV.int 1))) ∧
  ((AV.flat (AV.int 0)) ∧
  ((AV.flat (AV.bool false)) ∧
  ((AV.flat (AV.int 4)) ∧
  (fSame (AV.tup [(AV.int 0), (AV.bool false), (AV.int 4)]) r))))))) ∧
((isF (AV.bin Go.BinOp.lss x0 (AV.int 1))) →
  ((AV.binOk Go.BinOp.gtr x0 (AV.int 99999)) ∧
  ((AV.isBool (AV.bin Go.BinOp.lss x0 (AV.int 1))) ∧
  ((isF (AV.bin Go.BinOp.lss x0 (AV.int 1))) ∧
  ((AV.isBool (AV.bin Go.BinOp.gtr x0 (AV.int 99999))) ∧
  (((isT (AV.bin Go.BinOp.gtr x0 (AV.int 99999))) →
    ((AV.isBool (AV.bin Go.BinOp.gtr x0 (AV.int 99999))) ∧
    ((isT (AV.bin Go.BinOp.gtr x0 (AV.int 99999))) ∧
    ((AV.flat (AV.int 0)) ∧
    ((AV.flat (AV.bool false)) ∧
    ((AV.flat (AV.int 4)) ∧
    (fSame (AV.tup [(AV.int 0), (AV.bool false), (AV.int 4)]) r))))))) ∧
  ((isF (AV.bin Go.BinOp.gtr x0 (AV.int 99999))) →
    ((fEnt Try.prog 22) ∧
    (fAllV fun _ => ((AV.binOk Go.BinOp.lss (AV.cel x1 0) (AV.int 1)) ∧
    ((AV.isBool (AV.bin Go.BinOp.lss (AV.cel x1 0) (AV.int 1))) ∧
    (((isT (AV.bin Go.BinOp.lss (AV.cel x1 0) (AV.int 1))) →
      ((AV.isBool (AV.bin Go.BinOp.lss (AV.cel x1 0) (AV.int 1))) ∧
      ((isT (AV.bin Go.BinOp.lss (AV.cel x1 0) (AV.int 1))) ∧
      ((AV.isBool (AV.bin Go.BinOp.gtr x0 (AV.int 99999))) ∧
      ((isF (AV.bin Go.BinOp.gtr x0 (AV.int 99999))) ∧
      ((AV.flat (AV.int 0)) ∧
      ((AV.flat (AV.bool false)) ∧
      ((AV.flat (AV.int 4)) ∧
      (fSame (AV.tup [(AV.int 0), (AV.bool false), (AV.int 4)]) r))))))))) ∧
    ((isF (AV.bin Go.BinOp.lss (AV.cel x1 0) (AV.int 1))) →
      ((AV.binOk Go.BinOp.gtr (AV.cel x1 0) (AV.int 99999)) ∧
      ((AV.isBool (AV.bin Go.BinOp.lss (AV.cel x1 0) (AV.int 1))) ∧
      ((isF (AV.bin Go.BinOp.lss (AV.cel x1 0) (AV.int 1))) ∧
      ((AV.isBool (AV.bin Go.BinOp.gtr x0 (AV.int 99999))) ∧
      ((isF (AV.bin Go.BinOp.gtr x0 (AV.int 99999))) ∧
      ((AV.isBool (AV.bin Go.BinOp.gtr (AV.cel x1 0) (AV.int 99999))) ∧
      (((isT (AV.bin Go.BinOp.gtr (AV.cel x1 0) (AV.int 99999))) →
        ((AV.flat (AV.int 0)) ∧
        ((AV.flat (AV.bool false)) ∧
        ((AV.flat (AV.int 4)) ∧
        (fSame (AV.tup [(AV.int 0), (AV.bool false), (AV.int 4)]) r))))) ∧
      ((isF (AV.bin Go.BinOp.gtr (AV.cel x1 0) (AV.int 99999))) →
        ((AV.isStr (AV.cel x1 1)) ∧
        ((AV.binOk Go.BinOp.gtr (AV.slen (AV.cel x1 1)) (AV.int 120)) ∧
        ((AV.isBool (AV.bin Go.BinOp.gtr (AV.slen (AV.cel x1 1)) (AV.int 120))) ∧
        (((isT (AV.bin Go.BinOp.gtr (AV.slen (AV.cel x1 1)) (AV.int 120))) →
          ((AV.flat (AV.int 0)) ∧
          ((AV.flat (AV.bool false)) ∧
          ((AV.flat (AV.int 2)) ∧
          (fSame (AV.tup [(AV.int 0), (AV.bool false), (AV.int 2)]) r))))) ∧
        ((isF (AV.bin Go.BinOp.gtr (AV.slen (AV.cel x1 1)) (AV.int 120))) →
          ((AV.binOk Go.BinOp.eql (AV.cel x1 0) x0) ∧
          ((AV.isBool (AV.bin Go.BinOp.eql (AV.cel x1 0) x0)) ∧
          (((isT (AV.bin Go.BinOp.eql (AV.cel x1 0) x0)) →
            ((AV.binOk Go.BinOp.add x0 (AV.int 1)) ∧
            ((AV.flat (AV.bin Go.BinOp.add x0 (AV.int 1))) ∧
            ((AV.flat (AV.bool true)) ∧
            ((AV.flat (AV.int 0)) ∧
            (fSame (AV.tup [(AV.bin Go.BinOp.add x0 (AV.int 1)), (AV.bool true), (AV.int 0)]) r)))))) ∧
          ((isF (AV.bin Go.BinOp.eql (AV.cel x1 0) x0)) →
            ((AV.flat x0) ∧
            ((AV.flat (AV.bool false)) ∧
            ((AV.flat (AV.int 0)) ∧
            (fSame (AV.tup [x0, (AV.bool false), (AV.int 0)]) r))))))))))))))))))))))))))))))))))))))))) := by kernel_rfl
theorem check_form (x0 r : AV) : fnF Try.prog Γ ann 3 18 Try.f18 (Try.f18.body.getD .skip) (.nil) [x0] (.sc) r = (((AV.isAgg x0 2) ∧
((AV.isSl (AV.cel x0 1) 1) ∧
((AV.binOk Go.BinOp.gtr (AV.len (AV.cel x0 1)) (AV.int 32)) ∧
((AV.isBool (AV.bin Go.BinOp.gtr (AV.len (AV.cel x0 1)) (AV.int 32))) ∧
(((isT (AV.bin Go.BinOp.gtr (AV.len (AV.cel x0 1)) (AV.int 32))) →
  ((AV.flat (AV.int 2)) ∧
  (fSame (AV.int 2) r))) ∧
((isF (AV.bin Go.BinOp.gtr (AV.len (AV.cel x0 1)) (AV.int 32))) →
  ((AV.binOk Go.BinOp.lss (AV.cel x0 0) (AV.int 1)) ∧
  ((AV.isBool (AV.bin Go.BinOp.lss (AV.cel x0 0) (AV.int 1))) ∧
  (((isT (AV.bin Go.BinOp.lss (AV.cel x0 0) (AV.int 1))) →
    ((AV.isBool (AV.bin Go.BinOp.lss (AV.cel x0 0) (AV.int 1))) ∧
    ((isT (AV.bin Go.BinOp.lss (AV.cel x0 0) (AV.int 1))) ∧
    ((AV.flat (AV.int 4)) ∧
    (fSame (AV.int 4) r))))) ∧
  ((isF (AV.bin Go.BinOp.lss (AV.cel x0 0) (AV.int 1))) →
    ((AV.isSl (AV.cel x0 1) 1) ∧
    ((AV.binOk Go.BinOp.sub (AV.int 100000) (AV.len (AV.cel x0 1))) ∧
    ((AV.binOk Go.BinOp.gtr (AV.cel x0 0) (AV.bin Go.BinOp.sub (AV.int 100000) (AV.len (AV.cel x0 1)))) ∧
    ((AV.isBool (AV.bin Go.BinOp.lss (AV.cel x0 0) (AV.int 1))) ∧
    ((isF (AV.bin Go.BinOp.lss (AV.cel x0 0) (AV.int 1))) ∧
    ((AV.isBool (AV.bin Go.BinOp.gtr (AV.cel x0 0) (AV.bin Go.BinOp.sub (AV.int 100000) (AV.len (AV.cel x0 1))))) ∧
    (((isT (AV.bin Go.BinOp.gtr (AV.cel x0 0) (AV.bin Go.BinOp.sub (AV.int 100000) (AV.len (AV.cel x0 1))))) →
      ((AV.flat (AV.int 4)) ∧
      (fSame (AV.int 4) r))) ∧
    ((isF (AV.bin Go.BinOp.gtr (AV.cel x0 0) (AV.bin Go.BinOp.sub (AV.int 100000) (AV.len (AV.cel x0 1))))) →
      ((fEnt Try.prog 23) ∧
      (fAllV fun _ => ((fEnt Try.prog 25) ∧
      (fAllV fun _ => ((AV.isSl (AV.cel x0 1) 1) ∧
      (fLoop 1985 [(AV.int 0)] fun ys1985 again1985 =>
        ((AV.binOk Go.BinOp.lss (ys1985.getD 0 default) (AV.len (AV.cel x0 1))) ∧
        ((AV.isBool (AV.bin Go.BinOp.lss (ys1985.getD 0 default) (AV.len (AV.cel x0 1)))) ∧
        (((isT (AV.bin Go.BinOp.lss (ys1985.getD 0 default) (AV.len (AV.cel x0 1)))) →
          ((AV.isSl (AV.cel x0 1) 1) ∧
          ((AV.inb (AV.cel x0 1) (ys1985.getD 0 default)) ∧
          ((fEnt Try.prog 24) ∧
          (fAllV fun _ => ((AV.isStr (AV.at (AV.cel x0 1) (ys1985.getD 0 default) 0)) ∧
          ((AV.binOk Go.BinOp.gtr (AV.slen (AV.at (AV.cel x0 1) (ys1985.getD 0 default) 0)) (AV.int 120)) ∧
          ((AV.isBool (AV.bin Go.BinOp.gtr (AV.slen (AV.at (AV.cel x0 1) (ys1985.getD 0 default) 0)) (AV.int 120))) ∧
          (((isT (AV.bin Go.BinOp.gtr (AV.slen (AV.at (AV.cel x0 1) (ys1985.getD 0 default) 0)) (AV.int 120))) →
            ((AV.binOk Go.BinOp.geq (ys1985.getD 0 default) (AV.int 0)) ∧
            ((AV.isBool (AV.bin Go.BinOp.geq (ys1985.getD 0 default) (AV.int 0))) ∧
            (((isT (AV.bin Go.BinOp.geq (ys1985.getD 0 default) (AV.int 0))) →
              ((AV.flat (AV.int 2)) ∧
              (fSame (AV.int 2) r))) ∧
            ((isF (AV.bin Go.BinOp.geq (ys1985.getD 0 default) (AV.int 0))) →
              ((AV.flat (AV.int 0)) ∧
              (fSame (AV.int 0) r))))))) ∧
          ((isF (AV.bin Go.BinOp.gtr (AV.slen (AV.at (AV.cel x0 1) (ys1985.getD 0 default) 0)) (AV.int 120))) →
            ((AV.binOk Go.BinOp.add (ys1985.getD 0 default) (AV.int 1)) ∧
            (again1985 [(AV.bin Go.BinOp.add (ys1985.getD 0 default) (AV.int 1))])))))))))))) ∧
        ((isF (AV.bin Go.BinOp.lss (ys1985.getD 0 default) (AV.len (AV.cel x0 1)))) →
          ((AV.flat (AV.int 0)) ∧
          (fSame (AV.int 0) r))))))))))))))))))))))))))))))) := by kernel_rfl
theorem clone_form (x0 r : AV) : fnF Try.prog Γ ann 0 10 Try.f10 (Try.f10.body.getD .skip) (.nil) [x0] (.row 9 1 true) r = ((fNil x0
  ((AV.flatS (AV.mk 1 [])) ∧
  (fSame (AV.mk 1 []) r))
  ((AV.isSl x0 1) ∧
  ((AV.room (AV.mk 1 []) x0 16) ∧
  ((AV.flatS (AV.app 1 (AV.mk 1 []) x0)) ∧
  (fSame (AV.app 1 (AV.mk 1 []) x0) r)))))) := by kernel_rfl
theorem put_form (x0 x1 r : AV) : fnF Try.prog Γ ann 0 13 Try.f13 (Try.f13.body.getD .skip) ((.both (.t .nil) (.both .nil (.both .nil (.both .nil (.f .nil)))))) [x0, x1] (.tup [.agg [.sc, .row 9 1 true], .sc]) r = (((AV.isAgg x0 2) ∧
(∃ r257 : AV, ((Fn Try.prog 18 [(AV.agg [(AV.cel x0 0), (AV.cel x0 1)])] Sh.sc r257) ∧
((AV.binOk Go.BinOp.neq r257 (AV.int 0)) ∧
((AV.isBool (AV.bin Go.BinOp.neq r257 (AV.int 0))) ∧
(((isT (AV.bin Go.BinOp.neq r257 (AV.int 0))) →
  ((AV.binOk Go.BinOp.neq r257 (AV.int 0)) ∧
  ((AV.isBool (AV.bin Go.BinOp.neq r257 (AV.int 0))) ∧
  ((isT (AV.bin Go.BinOp.neq r257 (AV.int 0))) ∧
  ((AV.flat (AV.int 0)) ∧
  ((AV.flat r257) ∧
  (fSame (AV.tup [(AV.agg [(AV.int 0), (AV.mk 1 [])]), r257]) r))))))) ∧
((isF (AV.bin Go.BinOp.neq r257 (AV.int 0))) →
  ((AV.isStr x1) ∧
  ((AV.binOk Go.BinOp.gtr (AV.slen x1) (AV.int 120)) ∧
  ((AV.isBool (AV.bin Go.BinOp.gtr (AV.slen x1) (AV.int 120))) ∧
  (((isT (AV.bin Go.BinOp.gtr (AV.slen x1) (AV.int 120))) →
    ((AV.flat (AV.int 0)) ∧
    ((AV.flat (AV.int 2)) ∧
    (fSame (AV.tup [(AV.agg [(AV.int 0), (AV.mk 1 [])]), (AV.int 2)]) r)))) ∧
  ((isF (AV.bin Go.BinOp.gtr (AV.slen x1) (AV.int 120))) →
    ((AV.isSl (AV.cel x0 1) 1) ∧
    ((AV.binOk Go.BinOp.eql (AV.len (AV.cel x0 1)) (AV.int 32)) ∧
    ((AV.isBool (AV.bin Go.BinOp.eql (AV.len (AV.cel x0 1)) (AV.int 32))) ∧
    (((isT (AV.bin Go.BinOp.eql (AV.len (AV.cel x0 1)) (AV.int 32))) →
      ((AV.isBool (AV.bin Go.BinOp.eql (AV.len (AV.cel x0 1)) (AV.int 32))) ∧
      ((isT (AV.bin Go.BinOp.eql (AV.len (AV.cel x0 1)) (AV.int 32))) ∧
      ((AV.flat (AV.int 0)) ∧
      ((AV.flat (AV.int 9)) ∧
      (fSame (AV.tup [(AV.agg [(AV.int 0), (AV.mk 1 [])]), (AV.int 9)]) r)))))) ∧
    ((isF (AV.bin Go.BinOp.eql (AV.len (AV.cel x0 1)) (AV.int 32))) →
      ((AV.isSl (AV.cel x0 1) 1) ∧
      ((AV.binOk Go.BinOp.add (AV.cel x0 0) (AV.len (AV.cel x0 1))) ∧
      ((AV.binOk Go.BinOp.eql (AV.bin Go.BinOp.add (AV.cel x0 0) (AV.len (AV.cel x0 1))) (AV.int 100000)) ∧
      ((AV.isBool (AV.bin Go.BinOp.eql (AV.len (AV.cel x0 1)) (AV.int 32))) ∧
      ((isF (AV.bin Go.BinOp.eql (AV.len (AV.cel x0 1)) (AV.int 32))) ∧
      ((AV.isBool (AV.bin Go.BinOp.eql (AV.bin Go.BinOp.add (AV.cel x0 0) (AV.len (AV.cel x0 1))) (AV.int 100000))) ∧
      (((isT (AV.bin Go.BinOp.eql (AV.bin Go.BinOp.add (AV.cel x0 0) (AV.len (AV.cel x0 1))) (AV.int 100000))) →
        ((AV.flat (AV.int 0)) ∧
        ((AV.flat (AV.int 9)) ∧
        (fSame (AV.tup [(AV.agg [(AV.int 0), (AV.mk 1 [])]), (AV.int 9)]) r)))) ∧
      ((isF (AV.bin Go.BinOp.eql (AV.bin Go.BinOp.add (AV.cel x0 0) (AV.len (AV.cel x0 1))) (AV.int 100000))) →
        ((AV.binOk Go.BinOp.neq r257 (AV.int 0)) ∧
        ((AV.isBool (AV.bin Go.BinOp.neq r257 (AV.int 0))) ∧
        ((isF (AV.bin Go.BinOp.neq r257 (AV.int 0))) ∧
        (∃ r2113 : AV, ((Fn Try.prog 10 [(AV.cel x0 1)] (Sh.row 9 1 true) r2113) ∧
        ((AV.isOne x1) ∧
        ((AV.room r2113 (AV.mk 1 [[x1]]) 16) ∧
        ((AV.isOne (AV.cel x0 0)) ∧
        ((AV.flat (AV.cel x0 0)) ∧
        ((AV.flatS (AV.app 1 r2113 (AV.mk 1 [[x1]]))) ∧
        ((AV.flat (AV.int 0)) ∧
        (fSame (AV.tup [(AV.agg [(AV.cel x0 0), (AV.app 1 r2113 (AV.mk 1 [[x1]]))]), (AV.int 0)]) r)))))))))))))))))))))))))))))))))))))) := by kernel_rfl
theorem frames_form (x0 r : AV) : fnF Try.prog Γ ann 0 15 Try.f15 (Try.f15.body.getD .skip) (.nil) [x0] (.tup [.row 48 2 true, .sc]) r = (((AV.isAgg x0 2) ∧
(∃ r257 : AV, ((Fn Try.prog 18 [(AV.agg [(AV.cel x0 0), (AV.cel x0 1)])] Sh.sc r257) ∧
((AV.binOk Go.BinOp.neq r257 (AV.int 0)) ∧
((AV.isBool (AV.bin Go.BinOp.neq r257 (AV.int 0))) ∧
(((isT (AV.bin Go.BinOp.neq r257 (AV.int 0))) →
  ((AV.flatS (AV.mk 2 [])) ∧
  ((AV.flat r257) ∧
  (fSame (AV.tup [(AV.mk 2 []), r257]) r)))) ∧
((isF (AV.bin Go.BinOp.neq r257 (AV.int 0))) →
  ((AV.isSl (AV.cel x0 1) 1) ∧
  ((AV.isInt (AV.int 4)) ∧
  ((AV.isInt (AV.len (AV.cel x0 1))) ∧
  ((AV.isSl (AV.cel x0 1) 1) ∧
  ((AV.subOk (AV.cel x0 1) (AV.int 0) (AV.mn (AV.int 4) (AV.len (AV.cel x0 1)))) ∧
  ((AV.isSl (AV.sub 1 (AV.cel x0 1) (AV.int 0) (AV.mn (AV.int 4) (AV.len (AV.cel x0 1)))) 1) ∧
  (fLoop 1153 [(AV.int 0), (AV.mk 2 [])] fun ys1153 again1153 =>
    ((AV.binOk Go.BinOp.lss (ys1153.getD 0 default) (AV.len (AV.sub 1 (AV.cel x0 1) (AV.int 0) (AV.mn (AV.int 4) (AV.len (AV.cel x0 1)))))) ∧
    ((AV.isBool (AV.bin Go.BinOp.lss (ys1153.getD 0 default) (AV.len (AV.sub 1 (AV.cel x0 1) (AV.int 0) (AV.mn (AV.int 4) (AV.len (AV.cel x0 1))))))) ∧
    (((isT (AV.bin Go.BinOp.lss (ys1153.getD 0 default) (AV.len (AV.sub 1 (AV.cel x0 1) (AV.int 0) (AV.mn (AV.int 4) (AV.len (AV.cel x0 1))))))) →
      ((AV.isSl (AV.sub 1 (AV.cel x0 1) (AV.int 0) (AV.mn (AV.int 4) (AV.len (AV.cel x0 1)))) 1) ∧
      ((AV.inb (AV.sub 1 (AV.cel x0 1) (AV.int 0) (AV.mn (AV.int 4) (AV.len (AV.cel x0 1)))) (ys1153.getD 0 default)) ∧
      ((AV.binOk Go.BinOp.add (AV.cel x0 0) (ys1153.getD 0 default)) ∧
      ((AV.isOne (AV.bin Go.BinOp.add (AV.cel x0 0) (ys1153.getD 0 default))) ∧
      ((AV.isOne (AV.at (AV.sub 1 (AV.cel x0 1) (AV.int 0) (AV.mn (AV.int 4) (AV.len (AV.cel x0 1)))) (ys1153.getD 0 default) 0)) ∧
      ((AV.room (ys1153.getD 1 default) (AV.mk 2 [[(AV.bin Go.BinOp.add (AV.cel x0 0) (ys1153.getD 0 default)), (AV.at (AV.sub 1 (AV.cel x0 1) (AV.int 0) (AV.mn (AV.int 4) (AV.len (AV.cel x0 1)))) (ys1153.getD 0 default) 0)]]) 24) ∧
      ((AV.binOk Go.BinOp.add (ys1153.getD 0 default) (AV.int 1)) ∧
      (again1153 [(AV.bin Go.BinOp.add (ys1153.getD 0 default) (AV.int 1)), (AV.app 2 (ys1153.getD 1 default) (AV.mk 2 [[(AV.bin Go.BinOp.add (AV.cel x0 0) (ys1153.getD 0 default)), (AV.at (AV.sub 1 (AV.cel x0 1) (AV.int 0) (AV.mn (AV.int 4) (AV.len (AV.cel x0 1)))) (ys1153.getD 0 default) 0)]]))]))))))))) ∧
    ((isF (AV.bin Go.BinOp.lss (ys1153.getD 0 default) (AV.len (AV.sub 1 (AV.cel x0 1) (AV.int 0) (AV.mn (AV.int 4) (AV.len (AV.cel x0 1))))))) →
      ((AV.flatS (ys1153.getD 1 default)) ∧
      ((AV.flat (AV.int 0)) ∧
      (fSame (AV.tup [(ys1153.getD 1 default), (AV.int 0)]) r)))))))))))))))))))))) := by kernel_rfl
theorem heard_form (x0 x1 r : AV) : fnF Try.prog Γ ann 0 17 Try.f17 (Try.f17.body.getD .skip) ((.both (.both .nil (.both .nil (.f .nil))) (.t .nil))) [x0, x1] (.tup [.agg [.sc, .row 9 1 true], .sc]) r = (((AV.isAgg x0 2) ∧
(∃ r257 : AV, ((Fn Try.prog 18 [(AV.agg [(AV.cel x0 0), (AV.cel x0 1)])] Sh.sc r257) ∧
((AV.binOk Go.BinOp.eql r257 (AV.int 0)) ∧
((AV.isBool (AV.bin Go.BinOp.eql r257 (AV.int 0))) ∧
(((isT (AV.bin Go.BinOp.eql r257 (AV.int 0))) →
  ((AV.binOk Go.BinOp.lss x1 (AV.int 1)) ∧
  ((AV.isBool (AV.bin Go.BinOp.lss x1 (AV.int 1))) ∧
  (((isT (AV.bin Go.BinOp.lss x1 (AV.int 1))) →
    ((AV.isBool (AV.bin Go.BinOp.lss x1 (AV.int 1))) ∧
    ((isT (AV.bin Go.BinOp.lss x1 (AV.int 1))) ∧
    ((AV.isBool (AV.bin Go.BinOp.eql r257 (AV.int 0))) ∧
    ((isT (AV.bin Go.BinOp.eql r257 (AV.int 0))) ∧
    ((AV.flat (AV.int 0)) ∧
    ((AV.flat (AV.int 4)) ∧
    (fSame (AV.tup [(AV.agg [(AV.int 0), (AV.mk 1 [])]), (AV.int 4)]) r)))))))) ∧
  ((isF (AV.bin Go.BinOp.lss x1 (AV.int 1))) →
    ((AV.isSl (AV.cel x0 1) 1) ∧
    ((AV.binOk Go.BinOp.add (AV.cel x0 0) (AV.len (AV.cel x0 1))) ∧
    ((AV.binOk Go.BinOp.gtr x1 (AV.bin Go.BinOp.add (AV.cel x0 0) (AV.len (AV.cel x0 1)))) ∧
    ((AV.isBool (AV.bin Go.BinOp.lss x1 (AV.int 1))) ∧
    ((isF (AV.bin Go.BinOp.lss x1 (AV.int 1))) ∧
    ((AV.isBool (AV.bin Go.BinOp.eql r257 (AV.int 0))) ∧
    ((isT (AV.bin Go.BinOp.eql r257 (AV.int 0))) ∧
    ((AV.isBool (AV.bin Go.BinOp.gtr x1 (AV.bin Go.BinOp.add (AV.cel x0 0) (AV.len (AV.cel x0 1))))) ∧
    (((isT (AV.bin Go.BinOp.gtr x1 (AV.bin Go.BinOp.add (AV.cel x0 0) (AV.len (AV.cel x0 1))))) →
      ((AV.flat (AV.int 0)) ∧
      ((AV.flat (AV.int 4)) ∧
      (fSame (AV.tup [(AV.agg [(AV.int 0), (AV.mk 1 [])]), (AV.int 4)]) r)))) ∧
    ((isF (AV.bin Go.BinOp.gtr x1 (AV.bin Go.BinOp.add (AV.cel x0 0) (AV.len (AV.cel x0 1))))) →
      ((AV.binOk Go.BinOp.neq r257 (AV.int 0)) ∧
      ((AV.isBool (AV.bin Go.BinOp.neq r257 (AV.int 0))) ∧
      ((isF (AV.bin Go.BinOp.neq r257 (AV.int 0))) ∧
      ((AV.binOk Go.BinOp.sub x1 (AV.cel x0 0)) ∧
      ((AV.isInt (AV.int 0)) ∧
      ((AV.isInt (AV.bin Go.BinOp.sub x1 (AV.cel x0 0))) ∧
      ((AV.binOk Go.BinOp.add (AV.cel x0 0) (AV.mx (AV.int 0) (AV.bin Go.BinOp.sub x1 (AV.cel x0 0)))) ∧
      ((AV.isSl (AV.cel x0 1) 1) ∧
      ((AV.subOk (AV.cel x0 1) (AV.mx (AV.int 0) (AV.bin Go.BinOp.sub x1 (AV.cel x0 0))) (AV.len (AV.cel x0 1))) ∧
      (∃ r2433 : AV, ((Fn Try.prog 10 [(AV.sub 1 (AV.cel x0 1) (AV.mx (AV.int 0) (AV.bin Go.BinOp.sub x1 (AV.cel x0 0))) (AV.len (AV.cel x0 1)))] (Sh.row 9 1 true) r2433) ∧
      ((AV.isOne (AV.bin Go.BinOp.add (AV.cel x0 0) (AV.mx (AV.int 0) (AV.bin Go.BinOp.sub x1 (AV.cel x0 0))))) ∧
      ((AV.flat (AV.bin Go.BinOp.add (AV.cel x0 0) (AV.mx (AV.int 0) (AV.bin Go.BinOp.sub x1 (AV.cel x0 0))))) ∧
      ((AV.flatS r2433) ∧
      ((AV.flat (AV.int 0)) ∧
      (fSame (AV.tup [(AV.agg [(AV.bin Go.BinOp.add (AV.cel x0 0) (AV.mx (AV.int 0) (AV.bin Go.BinOp.sub x1 (AV.cel x0 0)))), r2433]), (AV.int 0)]) r))))))))))))))))))))))))))))))) ∧
((isF (AV.bin Go.BinOp.eql r257 (AV.int 0))) →
  ((AV.isBool (AV.bin Go.BinOp.eql r257 (AV.int 0))) ∧
  ((isF (AV.bin Go.BinOp.eql r257 (AV.int 0))) ∧
  ((AV.binOk Go.BinOp.neq r257 (AV.int 0)) ∧
  ((AV.isBool (AV.bin Go.BinOp.neq r257 (AV.int 0))) ∧
  ((isT (AV.bin Go.BinOp.neq r257 (AV.int 0))) ∧
  ((AV.flat (AV.int 0)) ∧
  ((AV.flat r257) ∧
  (fSame (AV.tup [(AV.agg [(AV.int 0), (AV.mk 1 [])]), r257]) r)))))))))))))))) := by kernel_rfl
end LinkV
def takeV (next n : Int) (t : ByteArray) : AV :=
  if next < 1 ∨ next > 99999 ∨ n < 1 ∨ n > 99999 then .tup [.int 0, .bool false, .int 4] else if t.size > 120 then .tup [.int 0, .bool false, .int 2] else if n = next then .tup [.int (next + 1), .bool true, .int 0] else .tup [.int next, .bool false, .int 0]
theorem take_fn (next n : Int) (t : ByteArray) : Fn Try.prog 16 [.int next, .agg [.int n, .string t]] (.tup [.sc, .sc, .sc]) (takeV next n t) := by
  refine fn_run mixed 1 (Γ := LinkV.Γ) (ann := LinkV.ann) Try.func16 rfl Try.call16 ((LinkV.take_form _ _ _).mpr ?_)
  have e1 : Ent Try.prog 22 := Try.call22
  simp [e1]
  repeat' (first | assumption | exact trivial | (intro _) | (refine And.intro ?_ ?_))
  all_goals (first | omega | (unfold takeV; (repeat (first | rw [wrap64 (by omega) (by omega)] | rw [if_pos (by omega)] | rw [if_neg (by omega)])) <;> first | rfl | (simp; done) | (simp <;> omega)))
/-- A sender. -/
def sls (l : List ByteArray) : AV := .sl 1 (l.map fun t => [.string t])
def sndr (b : Int) (l : List ByteArray) : AV := .agg [.int b, sls l]
def checkE (b : Int) (l : List ByteArray) : Int :=
  if l.length > 32 then 2 else if b < 1 ∨ b > 100000 - (l.length : Nat) then 4 else if ∃ t ∈ l, t.size > 120 then 2 else 0
theorem gt2_sls (l : List ByteArray) (i : Nat) (h : i < l.length) : gt2 (l.map fun t => [AV.string t]) i 0 = .string l[i] := by
  simp [gt2, h]
theorem check_fn (b : Int) (l : List ByteArray) : Fn Try.prog 18 [sndr b l] .sc (.int (checkE b l)) := by
  refine fn_run mixed 3 (Γ := LinkV.Γ) (ann := LinkV.ann) Try.func18 rfl Try.call18 ((LinkV.check_form _ _).mpr ?_)
  have e1 : Ent Try.prog 24 := Try.call24
  have e2 : Ent Try.prog 23 := Try.call23
  have e3 : Ent Try.prog 25 := Try.call25
  simp [e1, e2, e3, sndr, sls]
  refine ⟨fun h => ?_, fun h => ⟨fun h2 => ⟨h2, ?_⟩, fun h2 => ⟨h2, fun h3 => ?_, fun h3 => ?_⟩⟩⟩
  · unfold checkE; rw [if_pos (by omega)]
  · unfold checkE; rw [if_neg (by omega), if_pos (by omega)]
  · rw [wrap64 (by omega) (by omega)] at h3
    unfold checkE; rw [if_neg (by omega), if_pos (by omega)]
  · rw [wrap64 (by omega) (by omega)] at h3
    have hE : checkE b l = if ∃ t ∈ l, t.size > 120 then 2 else 0 := by unfold checkE; rw [if_neg (by omega), if_neg (by omega)]
    refine loop_of (fun n : Nat => [.int n]) (fun n => n ≤ l.length ∧ ∀ i (h : i < l.length), i < n → l[i].size ≤ 120) (fun n => l.length - n) 0 rfl ⟨by omega, fun i _ h => absurd h (by omega)⟩ ?_
    rintro n ⟨hn, hall⟩
    simp
    refine ⟨fun hlt => ⟨hlt, ?_⟩, fun hge => ?_⟩
    · rw [gt2_sls l n hlt]
      simp
      refine ⟨fun hbig => ?_, fun hsm => ?_⟩
      · rw [hE, if_pos ⟨l[n], List.getElem_mem hlt, by omega⟩]
      · refine ⟨l.length - (n + 1), by omega, n + 1, ?_, ⟨by omega, fun i hi hin => ?_⟩, rfl⟩
        · rw [wrap64 (by omega) (by omega)]; simp
        · rcases Nat.lt_or_ge i n with q | q
          · exact hall i hi q
          · obtain rfl : i = n := by omega
            omega
    · rw [hE, if_neg]
      rintro ⟨t, ht, hbig⟩
      obtain ⟨i, hi, rfl⟩ := List.getElem_of_mem ht
      have := hall i hi (by omega)
      omega
theorem flat_sls (l : List ByteArray) : (sls l).flatS := by
  simp [sls]
theorem clone_fn (l : List ByteArray) (hl : l.length ≤ 1000000) : Fn Try.prog 10 [sls l] (.row 9 1 true) (sls l) := by
  refine fn_run mixed 0 (Γ := LinkV.Γ) (ann := LinkV.ann) Try.func10 rfl Try.call10 ((LinkV.clone_form _ _).mpr ?_)
  simp [sls, AV.room]
  omega
def putV (b : Int) (l : List ByteArray) (t : ByteArray) : AV :=
  if checkE b l ≠ 0 then .tup [.agg [.int 0, sls []], .int (checkE b l)] else if t.size > 120 then .tup [.agg [.int 0, sls []], .int 2]
  else if l.length = 32 ∨ b + (l.length : Nat) = 100000 then .tup [.agg [.int 0, sls []], .int 9] else .tup [.agg [.int b, sls (l ++ [t])], .int 0]
theorem check_ok {b : Int} {l : List ByteArray} (h : checkE b l = 0) : l.length ≤ 32 ∧ 1 ≤ b ∧ b ≤ 100000 - (l.length : Nat) := by
  unfold checkE at h
  split at h
  · cases h
  · split at h
    · cases h
    · omega
theorem put_fn (b : Int) (l : List ByteArray) (t : ByteArray) : Fn Try.prog 13 [sndr b l, .string t] (.tup [.agg [.sc, .row 9 1 true], .sc]) (putV b l t) := by
  refine fn_run mixed 0 (Γ := LinkV.Γ) (ann := LinkV.ann) Try.func13 rfl Try.call13 ((LinkV.put_form _ _ _).mpr ?_)
  have h0 := check_fn b l
  unfold sndr at h0 ⊢
  refine ⟨by simp, .int (checkE b l), h0, ?_⟩
  simp [sls]
  refine ⟨fun h => ⟨h, ?_⟩, fun h => ?_⟩
  · unfold putV; rw [if_pos h]; rfl
  have hc := check_ok h
  rw [wrap64 (by omega) (by omega)]
  refine ⟨fun h2 => ?_, fun h2 => ⟨fun h3 => ⟨h3, ?_⟩, fun h3 => ⟨h3, fun h4 => ?_, fun h4 => ⟨h, sls l, clone_fn l (by omega), ?_, ?_, ?_⟩⟩⟩⟩
  · unfold putV; rw [if_neg (by omega), if_pos (by omega)]; rfl
  · unfold putV; rw [if_neg (by omega), if_neg (by omega), if_pos (by omega)]; rfl
  · unfold putV; rw [if_neg (by omega), if_neg (by omega), if_pos (by omega)]; rfl
  · simp [AV.room, sls]; omega
  · simp [sls]
    rintro y (⟨t', _, rfl⟩ | rfl) z hz <;> simp at hz <;> subst hz <;> exact .lit _
  · unfold putV; rw [if_neg (by omega), if_neg (by omega), if_neg (by omega)]; simp [sls]
def heardV (b : Int) (l : List ByteArray) (next : Int) : AV :=
  if checkE b l ≠ 0 then .tup [.agg [.int 0, sls []], .int (checkE b l)] else if next < 1 ∨ next > b + (l.length : Nat) then .tup [.agg [.int 0, sls []], .int 4]
  else .tup [.agg [.int (if next > b then next else b), sls (l.drop (next - b).toNat)], .int 0]
theorem heard_fn (b : Int) (l : List ByteArray) (next : Int) : Fn Try.prog 17 [sndr b l, .int next] (.tup [.agg [.sc, .row 9 1 true], .sc]) (heardV b l next) := by
  refine fn_run mixed 0 (Γ := LinkV.Γ) (ann := LinkV.ann) Try.func17 rfl Try.call17 ((LinkV.heard_form _ _ _).mpr ?_)
  have h0 := check_fn b l
  unfold sndr at h0 ⊢
  refine ⟨by simp, .int (checkE b l), h0, ?_⟩
  by_cases h : checkE b l = 0
  · have hc := check_ok h
    simp [sls, h]
    rw [wrap64 (by omega) (by omega)]
    refine ⟨fun h2 => ⟨h2, ?_⟩, fun h2 => ⟨h2, fun h3 => ?_, fun h3 => ?_⟩⟩
    · unfold heardV; rw [if_neg (by omega), if_pos (by omega)]; rfl
    · unfold heardV; rw [if_neg (by omega), if_pos (by omega)]; rfl
    · rw [wrap64 (a := next - b) (by omega) (by omega)]
      generalize hk : (if 0 < next - b then next - b else 0) = k
      have hk1 : k = ((next - b).toNat : Int) := by subst hk; split <;> omega
      have hk2 : b + k = if next > b then next else b := by subst hk; split <;> split <;> omega
      have hk3 : (next - b).toNat ≤ l.length := by omega
      rw [hk2]
      refine ⟨by omega, sls (l.drop (next - b).toNat), ?_, flat_sls _, ?_⟩
      · have e : List.drop k.toNat (List.take l.length (List.map (fun t => [AV.string t]) l)) = (l.drop (next - b).toNat).map fun t => [AV.string t] := by
          rw [List.take_of_length_le (by simp), hk1, Int.toNat_natCast, List.map_drop]
        rw [e]
        exact clone_fn _ (by simp; omega)
      · have hB : -9223372036854775808 ≤ (if next > b then next else b) ∧ (if next > b then next else b) ≤ 9223372036854775807 := by split <;> omega
        rw [wrap64 hB.1 hB.2]
        unfold heardV; rw [if_neg (show ¬ checkE b l ≠ 0 by omega), if_neg (show ¬ (next < 1 ∨ next > b + (l.length : Nat)) by omega)]
  · simp [sls, h]
    unfold heardV; rw [if_pos h]; rfl
def framesL (b : Int) (l : List ByteArray) : List (List AV) := l.zipIdx.map fun (t, i) => [.int (b + (i : Nat)), .string t]
def framesV (b : Int) (l : List ByteArray) : AV := if checkE b l ≠ 0 then .tup [.sl 2 [], .int (checkE b l)] else .tup [.sl 2 (framesL b (l.take 4)), .int 0]
theorem framesL_snoc (b : Int) (m : List ByteArray) (n : Nat) (h : n < m.length) : framesL b (m.take (n + 1)) = framesL b (m.take n) ++ [[.int (b + (n : Nat)), .string m[n]]] := by
  unfold framesL
  rw [← List.take_append_getElem h, List.zipIdx_append, List.map_append]
  simp [Nat.min_eq_left (Nat.le_of_lt h)]
theorem flat_frames (b : Int) (m : List ByteArray) : ∀ y ∈ framesL b m, ∀ z ∈ y, z.flat := by
  intro y hy z hz
  obtain ⟨q, _, rfl⟩ := List.mem_map.1 hy
  simp at hz
  rcases hz with rfl | rfl <;> exact .lit _
theorem frames_fn (b : Int) (l : List ByteArray) : Fn Try.prog 15 [sndr b l] (.tup [.row 48 2 true, .sc]) (framesV b l) := by
  refine fn_run mixed 0 (Γ := LinkV.Γ) (ann := LinkV.ann) Try.func15 rfl Try.call15 ((LinkV.frames_form _ _).mpr ?_)
  have h0 := check_fn b l
  unfold sndr at h0 ⊢
  refine ⟨by simp, .int (checkE b l), h0, ?_⟩
  by_cases h : checkE b l = 0
  · have hc := check_ok h
    simp only [h]
    generalize hm : l.take 4 = m
    have hml : m.length ≤ 4 ∧ m.length ≤ l.length := by subst hm; simp; omega
    have e1 : AV.sub 1 (AV.cel (AV.agg [AV.int b, sls l]) 1) (AV.int 0) (AV.mn (AV.int 4) (AV.len (AV.cel (AV.agg [AV.int b, sls l]) 1))) = sls m := by
      simp [sls, ← hm, ← List.map_take]
      congr 1
      split <;> simp
      rw [List.take_of_length_le (by omega)]
    rw [e1]
    have e2 : framesV b l = .tup [.sl 2 (framesL b m), .int 0] := by unfold framesV; rw [if_neg (by omega), hm]
    rw [e2]
    simp [sls]
    refine ⟨by split <;> omega, ?_⟩
    refine loop_of (fun n : Nat => [.int n, .sl 2 (framesL b (m.take n))]) (fun n => n ≤ m.length) (fun n => m.length - n) 0 (by simp [framesL]) (by omega) ?_
    intro n hn
    simp
    refine ⟨fun hlt => ⟨hlt, ?_⟩, fun hge => ?_⟩
    · rw [gt2_sls m n hlt]
      simp
      rw [wrap64 (a := b + (n : Int)) (by omega) (by omega), wrap64 (by omega) (by omega)]
      exact ⟨by simp [AV.room, framesL]; omega, m.length - (n + 1), by omega, n + 1, ⟨by omega, (framesL_snoc b m n hlt).symm⟩, by omega, rfl⟩
    · obtain rfl : n = m.length := by omega
      simp
      exact flat_frames b m
  · simp [sls, h]
    unfold framesV; rw [if_pos h]
end Go.Proofs.Ythihgkgfdmkmhaa
