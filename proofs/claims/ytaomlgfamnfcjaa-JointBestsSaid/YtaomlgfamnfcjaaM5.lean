/- Texts of one proof, part 5: plain values, a run over them, contracts of functions. -/
import Derived.Test.YtaomlgfamnfcjaaM4
import Derived.Deep.RegionLaw
import Derived.Deep.OwnRows
import Derived.Lib.AppendZeros
import Derived.Deep.RegionHeld3
/- planes, polygons, volumes: what the run ends in. -/
namespace Go.Proofs.Ytaomlgfamnfcjaa
open Go.RowKit
set_option linter.unusedVariables false
set_option maxRecDepth 100000
namespace SecF
--GAMMA
def Γ : FuncId → Option Ca := fun f =>
  if f = 27 ∨ f = 46 ∨ f = 47 ∨ f = 44 ∨ f = 19 ∨ f = 37 then some (.fn .sc)
  else if f = 42 ∨ f = 43 ∨ f = 41 ∨ f = 36 ∨ f = 34 then some (.fn (.tup [.sc, .sc]))
  else some .inl
def ann : FuncId → Nat → LoopEx := fun f r => ⟨[], [], [], []⟩
--END GAMMA
theorem pcheck_form (x0 r : AV) : fnF Try.prog Γ ann 3 27 Try.f27 (Try.f27.body.getD .skip) (.nil) [x0] (.sc) r = (((AV.isAgg x0 2) ∧
((AV.binOk Go.BinOp.lss (AV.cel x0 0) (AV.int (-1000000))) ∧
((AV.isBool (AV.bin Go.BinOp.lss (AV.cel x0 0) (AV.int (-1000000)))) ∧
(((isT (AV.bin Go.BinOp.lss (AV.cel x0 0) (AV.int (-1000000)))) →
  ((AV.isBool (AV.bin Go.BinOp.lss (AV.cel x0 0) (AV.int (-1000000)))) ∧
  ((isT (AV.bin Go.BinOp.lss (AV.cel x0 0) (AV.int (-1000000)))) ∧
  ((AV.flat (AV.int 4)) ∧
  (fSame (AV.int 4) r))))) ∧
((isF (AV.bin Go.BinOp.lss (AV.cel x0 0) (AV.int (-1000000)))) →
  ((AV.binOk Go.BinOp.gtr (AV.cel x0 0) (AV.int 1000000)) ∧
  ((AV.isBool (AV.bin Go.BinOp.lss (AV.cel x0 0) (AV.int (-1000000)))) ∧
  ((isF (AV.bin Go.BinOp.lss (AV.cel x0 0) (AV.int (-1000000)))) ∧
  ((AV.isBool (AV.bin Go.BinOp.gtr (AV.cel x0 0) (AV.int 1000000))) ∧
  (((isT (AV.bin Go.BinOp.gtr (AV.cel x0 0) (AV.int 1000000))) →
    ((AV.isBool (AV.bin Go.BinOp.gtr (AV.cel x0 0) (AV.int 1000000))) ∧
    ((isT (AV.bin Go.BinOp.gtr (AV.cel x0 0) (AV.int 1000000))) ∧
    ((AV.flat (AV.int 4)) ∧
    (fSame (AV.int 4) r))))) ∧
  ((isF (AV.bin Go.BinOp.gtr (AV.cel x0 0) (AV.int 1000000))) →
    ((AV.binOk Go.BinOp.lss (AV.cel x0 1) (AV.int (-1000000))) ∧
    ((AV.isBool (AV.bin Go.BinOp.gtr (AV.cel x0 0) (AV.int 1000000))) ∧
    ((isF (AV.bin Go.BinOp.gtr (AV.cel x0 0) (AV.int 1000000))) ∧
    ((AV.isBool (AV.bin Go.BinOp.lss (AV.cel x0 1) (AV.int (-1000000)))) ∧
    (((isT (AV.bin Go.BinOp.lss (AV.cel x0 1) (AV.int (-1000000)))) →
      ((AV.isBool (AV.bin Go.BinOp.lss (AV.cel x0 1) (AV.int (-1000000)))) ∧
      ((isT (AV.bin Go.BinOp.lss (AV.cel x0 1) (AV.int (-1000000)))) ∧
      ((AV.flat (AV.int 4)) ∧
      (fSame (AV.int 4) r))))) ∧
    ((isF (AV.bin Go.BinOp.lss (AV.cel x0 1) (AV.int (-1000000)))) →
      ((AV.binOk Go.BinOp.gtr (AV.cel x0 1) (AV.int 1000000)) ∧
      ((AV.isBool (AV.bin Go.BinOp.lss (AV.cel x0 1) (AV.int (-1000000)))) ∧
      ((isF (AV.bin Go.BinOp.lss (AV.cel x0 1) (AV.int (-1000000)))) ∧
      ((AV.isBool (AV.bin Go.BinOp.gtr (AV.cel x0 1) (AV.int 1000000))) ∧
      (((isT (AV.bin Go.BinOp.gtr (AV.cel x0 1) (AV.int 1000000))) →
        ((AV.flat (AV.int 4)) ∧
        (fSame (AV.int 4) r))) ∧
      ((isF (AV.bin Go.BinOp.gtr (AV.cel x0 1) (AV.int 1000000))) →
        ((AV.flat (AV.int 0)) ∧
        (fSame (AV.int 0) r)))))))))))))))))))))))))) := by kernel_rfl
theorem sub_form (x0 x1 r : AV) : fnF Try.prog Γ ann 3 46 Try.f46 (Try.f46.body.getD .skip) (.nil) [x0, x1] (.sc) r = (((AV.isAgg x0 2) ∧
((AV.isAgg x1 2) ∧
((AV.binOk Go.BinOp.sub (AV.cel x0 0) (AV.cel x1 0)) ∧
((AV.binOk Go.BinOp.sub (AV.cel x0 1) (AV.cel x1 1)) ∧
((AV.isOne (AV.bin Go.BinOp.sub (AV.cel x0 0) (AV.cel x1 0))) ∧
((AV.isOne (AV.bin Go.BinOp.sub (AV.cel x0 1) (AV.cel x1 1))) ∧
((AV.flat (AV.agg [(AV.bin Go.BinOp.sub (AV.cel x0 0) (AV.cel x1 0)), (AV.bin Go.BinOp.sub (AV.cel x0 1) (AV.cel x1 1))])) ∧
(fSame (AV.agg [(AV.bin Go.BinOp.sub (AV.cel x0 0) (AV.cel x1 0)), (AV.bin Go.BinOp.sub (AV.cel x0 1) (AV.cel x1 1))]) r))))))))) := by kernel_rfl
theorem dot_form (x0 x1 r : AV) : fnF Try.prog Γ ann 3 47 Try.f47 (Try.f47.body.getD .skip) (.nil) [x0, x1] (.sc) r = (((AV.isAgg x0 2) ∧
((AV.isAgg x1 2) ∧
((AV.binOk Go.BinOp.mul (AV.cel x0 0) (AV.cel x1 0)) ∧
((AV.binOk Go.BinOp.mul (AV.cel x0 1) (AV.cel x1 1)) ∧
((AV.binOk Go.BinOp.add (AV.bin Go.BinOp.mul (AV.cel x0 0) (AV.cel x1 0)) (AV.bin Go.BinOp.mul (AV.cel x0 1) (AV.cel x1 1))) ∧
((AV.flat (AV.bin Go.BinOp.add (AV.bin Go.BinOp.mul (AV.cel x0 0) (AV.cel x1 0)) (AV.bin Go.BinOp.mul (AV.cel x0 1) (AV.cel x1 1)))) ∧
(fSame (AV.bin Go.BinOp.add (AV.bin Go.BinOp.mul (AV.cel x0 0) (AV.cel x1 0)) (AV.bin Go.BinOp.mul (AV.cel x0 1) (AV.cel x1 1))) r)))))))) := by kernel_rfl
theorem square_form (x0 x1 r : AV) : fnF Try.prog Γ ann 3 44 Try.f44 (Try.f44.body.getD .skip) (.nil) [x0, x1] (.sc) r = (((AV.isAgg x0 2) ∧
((AV.isAgg x1 2) ∧
(∃ r321 : AV, ((Fn Try.prog 46 [(AV.agg [(AV.cel x0 0), (AV.cel x0 1)]), (AV.agg [(AV.cel x1 0), (AV.cel x1 1)])] Sh.sc r321) ∧
((AV.isAgg r321 2) ∧
(∃ r641 : AV, ((Fn Try.prog 47 [(AV.agg [(AV.cel r321 0), (AV.cel r321 1)]), (AV.agg [(AV.cel r321 0), (AV.cel r321 1)])] Sh.sc r641) ∧
((AV.flat r641) ∧
(fSame r641 r)))))))))) := by kernel_rfl
theorem divd_form (x0 x1 r : AV) : fnF Try.prog Γ ann 3 42 Try.f42 (Try.f42.body.getD .skip) (.nil) [x0, x1] (.tup [.sc, .sc]) r = (((AV.binOk Go.BinOp.eql x1 (AV.int 0)) ∧
((AV.isBool (AV.bin Go.BinOp.eql x1 (AV.int 0))) ∧
(((isT (AV.bin Go.BinOp.eql x1 (AV.int 0))) →
  ((AV.flat (AV.int 0)) ∧
  ((AV.flat (AV.int 10)) ∧
  (fSame (AV.tup [(AV.int 0), (AV.int 10)]) r)))) ∧
((isF (AV.bin Go.BinOp.eql x1 (AV.int 0))) →
  ((AV.binOk Go.BinOp.eql x0 (AV.int (-9223372036854775808))) ∧
  ((AV.isBool (AV.bin Go.BinOp.eql x0 (AV.int (-9223372036854775808)))) ∧
  (((isT (AV.bin Go.BinOp.eql x0 (AV.int (-9223372036854775808)))) →
    ((AV.binOk Go.BinOp.eql x1 (AV.int (-1))) ∧
    ((AV.isBool (AV.bin Go.BinOp.eql x0 (AV.int (-9223372036854775808)))) ∧
    ((isT (AV.bin Go.BinOp.eql x0 (AV.int (-9223372036854775808)))) ∧
    ((AV.isBool (AV.bin Go.BinOp.eql x1 (AV.int (-1)))) ∧
    (((isT (AV.bin Go.BinOp.eql x1 (AV.int (-1)))) →
      ((AV.flat (AV.int 0)) ∧
      ((AV.flat (AV.int 2)) ∧
      (fSame (AV.tup [(AV.int 0), (AV.int 2)]) r)))) ∧
    ((isF (AV.bin Go.BinOp.eql x1 (AV.int (-1)))) →
      ((AV.binOk Go.BinOp.quo x0 x1) ∧
      ((AV.binOk Go.BinOp.rem x0 x1) ∧
      ((AV.binOk Go.BinOp.neq (AV.bin Go.BinOp.rem x0 x1) (AV.int 0)) ∧
      ((AV.isBool (AV.bin Go.BinOp.neq (AV.bin Go.BinOp.rem x0 x1) (AV.int 0))) ∧
      (((isT (AV.bin Go.BinOp.neq (AV.bin Go.BinOp.rem x0 x1) (AV.int 0))) →
        ((AV.binOk Go.BinOp.lss x0 (AV.int 0)) ∧
        ((AV.binOk Go.BinOp.lss x1 (AV.int 0)) ∧
        ((AV.isBool (AV.bin Go.BinOp.lss x0 (AV.int 0))) ∧
        ((AV.isBool (AV.bin Go.BinOp.lss x1 (AV.int 0))) ∧
        ((AV.isBool (AV.bin Go.BinOp.neq (AV.bin Go.BinOp.rem x0 x1) (AV.int 0))) ∧
        ((isT (AV.bin Go.BinOp.neq (AV.bin Go.BinOp.rem x0 x1) (AV.int 0))) ∧
        ((AV.isBool (AV.neB (AV.bin Go.BinOp.lss x0 (AV.int 0)) (AV.bin Go.BinOp.lss x1 (AV.int 0)))) ∧
        (((isT (AV.neB (AV.bin Go.BinOp.lss x0 (AV.int 0)) (AV.bin Go.BinOp.lss x1 (AV.int 0)))) →
          ((AV.binOk Go.BinOp.sub (AV.bin Go.BinOp.quo x0 x1) (AV.int 1)) ∧
          ((AV.flat (AV.bin Go.BinOp.sub (AV.bin Go.BinOp.quo x0 x1) (AV.int 1))) ∧
          ((AV.flat (AV.int 0)) ∧
          (fSame (AV.tup [(AV.bin Go.BinOp.sub (AV.bin Go.BinOp.quo x0 x1) (AV.int 1)), (AV.int 0)]) r))))) ∧
        ((isF (AV.neB (AV.bin Go.BinOp.lss x0 (AV.int 0)) (AV.bin Go.BinOp.lss x1 (AV.int 0)))) →
          ((AV.flat (AV.bin Go.BinOp.quo x0 x1)) ∧
          ((AV.flat (AV.int 0)) ∧
          (fSame (AV.tup [(AV.bin Go.BinOp.quo x0 x1), (AV.int 0)]) r))))))))))))) ∧
      ((isF (AV.bin Go.BinOp.neq (AV.bin Go.BinOp.rem x0 x1) (AV.int 0))) →
        ((AV.isBool (AV.bin Go.BinOp.neq (AV.bin Go.BinOp.rem x0 x1) (AV.int 0))) ∧
        ((isF (AV.bin Go.BinOp.neq (AV.bin Go.BinOp.rem x0 x1) (AV.int 0))) ∧
        ((AV.flat (AV.bin Go.BinOp.quo x0 x1)) ∧
        ((AV.flat (AV.int 0)) ∧
        (fSame (AV.tup [(AV.bin Go.BinOp.quo x0 x1), (AV.int 0)]) r)))))))))))))))))) ∧
  ((isF (AV.bin Go.BinOp.eql x0 (AV.int (-9223372036854775808)))) →
    ((AV.isBool (AV.bin Go.BinOp.eql x0 (AV.int (-9223372036854775808)))) ∧
    ((isF (AV.bin Go.BinOp.eql x0 (AV.int (-9223372036854775808)))) ∧
    ((AV.binOk Go.BinOp.quo x0 x1) ∧
    ((AV.binOk Go.BinOp.rem x0 x1) ∧
    ((AV.binOk Go.BinOp.neq (AV.bin Go.BinOp.rem x0 x1) (AV.int 0)) ∧
    ((AV.isBool (AV.bin Go.BinOp.neq (AV.bin Go.BinOp.rem x0 x1) (AV.int 0))) ∧
    (((isT (AV.bin Go.BinOp.neq (AV.bin Go.BinOp.rem x0 x1) (AV.int 0))) →
      ((AV.binOk Go.BinOp.lss x0 (AV.int 0)) ∧
      ((AV.binOk Go.BinOp.lss x1 (AV.int 0)) ∧
      ((AV.isBool (AV.bin Go.BinOp.lss x0 (AV.int 0))) ∧
      ((AV.isBool (AV.bin Go.BinOp.lss x1 (AV.int 0))) ∧
      ((AV.isBool (AV.bin Go.BinOp.neq (AV.bin Go.BinOp.rem x0 x1) (AV.int 0))) ∧
      ((isT (AV.bin Go.BinOp.neq (AV.bin Go.BinOp.rem x0 x1) (AV.int 0))) ∧
      ((AV.isBool (AV.neB (AV.bin Go.BinOp.lss x0 (AV.int 0)) (AV.bin Go.BinOp.lss x1 (AV.int 0)))) ∧
      (((isT (AV.neB (AV.bin Go.BinOp.lss x0 (AV.int 0)) (AV.bin Go.BinOp.lss x1 (AV.int 0)))) →
        ((AV.binOk Go.BinOp.sub (AV.bin Go.BinOp.quo x0 x1) (AV.int 1)) ∧
        ((AV.flat (AV.bin Go.BinOp.sub (AV.bin Go.BinOp.quo x0 x1) (AV.int 1))) ∧
        ((AV.flat (AV.int 0)) ∧
        (fSame (AV.tup [(AV.bin Go.BinOp.sub (AV.bin Go.BinOp.quo x0 x1) (AV.int 1)), (AV.int 0)]) r))))) ∧
      ((isF (AV.neB (AV.bin Go.BinOp.lss x0 (AV.int 0)) (AV.bin Go.BinOp.lss x1 (AV.int 0)))) →
        ((AV.flat (AV.bin Go.BinOp.quo x0 x1)) ∧
        ((AV.flat (AV.int 0)) ∧
        (fSame (AV.tup [(AV.bin Go.BinOp.quo x0 x1), (AV.int 0)]) r))))))))))))) ∧
    ((isF (AV.bin Go.BinOp.neq (AV.bin Go.BinOp.rem x0 x1) (AV.int 0))) →
      ((AV.isBool (AV.bin Go.BinOp.neq (AV.bin Go.BinOp.rem x0 x1) (AV.int 0))) ∧
      ((isF (AV.bin Go.BinOp.neq (AV.bin Go.BinOp.rem x0 x1) (AV.int 0))) ∧
      ((AV.flat (AV.bin Go.BinOp.quo x0 x1)) ∧
      ((AV.flat (AV.int 0)) ∧
      (fSame (AV.tup [(AV.bin Go.BinOp.quo x0 x1), (AV.int 0)]) r)))))))))))))))))))))) := by kernel_rfl
theorem divu_form (x0 x1 r : AV) : fnF Try.prog Γ ann 3 43 Try.f43 (Try.f43.body.getD .skip) (.nil) [x0, x1] (.tup [.sc, .sc]) r = ((∃ r257 : AV, ((Fn Try.prog 42 [x0, x1] (Sh.tup [Sh.sc, Sh.sc]) r257) ∧
((AV.binOk Go.BinOp.eql (AV.prj r257 1) (AV.int 0)) ∧
((AV.isBool (AV.bin Go.BinOp.eql (AV.prj r257 1) (AV.int 0))) ∧
(((isT (AV.bin Go.BinOp.eql (AV.prj r257 1) (AV.int 0))) →
  ((AV.binOk Go.BinOp.rem x0 x1) ∧
  ((AV.binOk Go.BinOp.neq (AV.bin Go.BinOp.rem x0 x1) (AV.int 0)) ∧
  ((AV.isBool (AV.bin Go.BinOp.eql (AV.prj r257 1) (AV.int 0))) ∧
  ((isT (AV.bin Go.BinOp.eql (AV.prj r257 1) (AV.int 0))) ∧
  ((AV.isBool (AV.bin Go.BinOp.neq (AV.bin Go.BinOp.rem x0 x1) (AV.int 0))) ∧
  (((isT (AV.bin Go.BinOp.neq (AV.bin Go.BinOp.rem x0 x1) (AV.int 0))) →
    ((AV.binOk Go.BinOp.add (AV.prj r257 0) (AV.int 1)) ∧
    ((AV.flat (AV.bin Go.BinOp.add (AV.prj r257 0) (AV.int 1))) ∧
    ((AV.flat (AV.prj r257 1)) ∧
    (fSame (AV.tup [(AV.bin Go.BinOp.add (AV.prj r257 0) (AV.int 1)), (AV.prj r257 1)]) r))))) ∧
  ((isF (AV.bin Go.BinOp.neq (AV.bin Go.BinOp.rem x0 x1) (AV.int 0))) →
    ((AV.flat (AV.prj r257 0)) ∧
    ((AV.flat (AV.prj r257 1)) ∧
    (fSame (AV.tup [(AV.prj r257 0), (AV.prj r257 1)]) r))))))))))) ∧
((isF (AV.bin Go.BinOp.eql (AV.prj r257 1) (AV.int 0))) →
  ((AV.isBool (AV.bin Go.BinOp.eql (AV.prj r257 1) (AV.int 0))) ∧
  ((isF (AV.bin Go.BinOp.eql (AV.prj r257 1) (AV.int 0))) ∧
  ((AV.flat (AV.prj r257 0)) ∧
  ((AV.flat (AV.prj r257 1)) ∧
  (fSame (AV.tup [(AV.prj r257 0), (AV.prj r257 1)]) r)))))))))))) := by kernel_rfl
theorem toward_form (x0 x1 x2 x3 r : AV) : fnF Try.prog Γ ann 3 41 Try.f41 (Try.f41.body.getD .skip) (.nil) [x0, x1, x2, x3] (.tup [.sc, .sc]) r = (((AV.isAgg x0 2) ∧
((AV.isAgg x1 2) ∧
((AV.binOk Go.BinOp.leq x3 (AV.int 0)) ∧
((AV.isBool (AV.bin Go.BinOp.leq x3 (AV.int 0))) ∧
(((isT (AV.bin Go.BinOp.leq x3 (AV.int 0))) →
  ((AV.flat (AV.agg [(AV.int 0), (AV.int 0)])) ∧
  ((AV.flat (AV.int 10)) ∧
  (fSame (AV.tup [(AV.agg [(AV.int 0), (AV.int 0)]), (AV.int 10)]) r)))) ∧
((isF (AV.bin Go.BinOp.leq x3 (AV.int 0))) →
  ((AV.binOk Go.BinOp.gtr x3 (AV.int 200000)) ∧
  ((AV.isBool (AV.bin Go.BinOp.gtr x3 (AV.int 200000))) ∧
  (((isT (AV.bin Go.BinOp.gtr x3 (AV.int 200000))) →
    ((AV.isBool (AV.bin Go.BinOp.gtr x3 (AV.int 200000))) ∧
    ((isT (AV.bin Go.BinOp.gtr x3 (AV.int 200000))) ∧
    ((AV.flat (AV.agg [(AV.int 0), (AV.int 0)])) ∧
    ((AV.flat (AV.int 4)) ∧
    (fSame (AV.tup [(AV.agg [(AV.int 0), (AV.int 0)]), (AV.int 4)]) r)))))) ∧
  ((isF (AV.bin Go.BinOp.gtr x3 (AV.int 200000))) →
    ((AV.binOk Go.BinOp.lss x2 (AV.int 0)) ∧
    ((AV.isBool (AV.bin Go.BinOp.gtr x3 (AV.int 200000))) ∧
    ((isF (AV.bin Go.BinOp.gtr x3 (AV.int 200000))) ∧
    ((AV.isBool (AV.bin Go.BinOp.lss x2 (AV.int 0))) ∧
    (((isT (AV.bin Go.BinOp.lss x2 (AV.int 0))) →
      ((AV.isBool (AV.bin Go.BinOp.lss x2 (AV.int 0))) ∧
      ((isT (AV.bin Go.BinOp.lss x2 (AV.int 0))) ∧
      ((AV.flat (AV.agg [(AV.int 0), (AV.int 0)])) ∧
      ((AV.flat (AV.int 4)) ∧
      (fSame (AV.tup [(AV.agg [(AV.int 0), (AV.int 0)]), (AV.int 4)]) r)))))) ∧
    ((isF (AV.bin Go.BinOp.lss x2 (AV.int 0))) →
      ((AV.binOk Go.BinOp.gtr x2 x3) ∧
      ((AV.isBool (AV.bin Go.BinOp.lss x2 (AV.int 0))) ∧
      ((isF (AV.bin Go.BinOp.lss x2 (AV.int 0))) ∧
      ((AV.isBool (AV.bin Go.BinOp.gtr x2 x3)) ∧
      (((isT (AV.bin Go.BinOp.gtr x2 x3)) →
        ((AV.flat (AV.agg [(AV.int 0), (AV.int 0)])) ∧
        ((AV.flat (AV.int 4)) ∧
        (fSame (AV.tup [(AV.agg [(AV.int 0), (AV.int 0)]), (AV.int 4)]) r)))) ∧
      ((isF (AV.bin Go.BinOp.gtr x2 x3)) →
        (∃ r1281 : AV, ((Fn Try.prog 27 [(AV.agg [(AV.cel x0 0), (AV.cel x0 1)])] Sh.sc r1281) ∧
        ((AV.binOk Go.BinOp.neq r1281 (AV.int 0)) ∧
        ((AV.isBool (AV.bin Go.BinOp.neq r1281 (AV.int 0))) ∧
        (((isT (AV.bin Go.BinOp.neq r1281 (AV.int 0))) →
          (∃ r1601 : AV, ((Fn Try.prog 27 [(AV.agg [(AV.cel x0 0), (AV.cel x0 1)])] Sh.sc r1601) ∧
          ((AV.flat (AV.agg [(AV.int 0), (AV.int 0)])) ∧
          ((AV.flat r1601) ∧
          (fSame (AV.tup [(AV.agg [(AV.int 0), (AV.int 0)]), r1601]) r)))))) ∧
        ((isF (AV.bin Go.BinOp.neq r1281 (AV.int 0))) →
          (∃ r1537 : AV, ((Fn Try.prog 27 [(AV.agg [(AV.cel x1 0), (AV.cel x1 1)])] Sh.sc r1537) ∧
          ((AV.binOk Go.BinOp.neq r1537 (AV.int 0)) ∧
          ((AV.isBool (AV.bin Go.BinOp.neq r1537 (AV.int 0))) ∧
          (((isT (AV.bin Go.BinOp.neq r1537 (AV.int 0))) →
            (∃ r1857 : AV, ((Fn Try.prog 27 [(AV.agg [(AV.cel x1 0), (AV.cel x1 1)])] Sh.sc r1857) ∧
            ((AV.flat (AV.agg [(AV.int 0), (AV.int 0)])) ∧
            ((AV.flat r1857) ∧
            (fSame (AV.tup [(AV.agg [(AV.int 0), (AV.int 0)]), r1857]) r)))))) ∧
          ((isF (AV.bin Go.BinOp.neq r1537 (AV.int 0))) →
            ((AV.binOk Go.BinOp.sub (AV.cel x1 0) (AV.cel x0 0)) ∧
            ((AV.binOk Go.BinOp.mul (AV.bin Go.BinOp.sub (AV.cel x1 0) (AV.cel x0 0)) x2) ∧
            (∃ r2241 : AV, ((Fn Try.prog 42 [(AV.bin Go.BinOp.mul (AV.bin Go.BinOp.sub (AV.cel x1 0) (AV.cel x0 0)) x2), x3] (Sh.tup [Sh.sc, Sh.sc]) r2241) ∧
            ((AV.binOk Go.BinOp.sub (AV.cel x1 1) (AV.cel x0 1)) ∧
            ((AV.binOk Go.BinOp.mul (AV.bin Go.BinOp.sub (AV.cel x1 1) (AV.cel x0 1)) x2) ∧
            (∃ r3137 : AV, ((Fn Try.prog 42 [(AV.bin Go.BinOp.mul (AV.bin Go.BinOp.sub (AV.cel x1 1) (AV.cel x0 1)) x2), x3] (Sh.tup [Sh.sc, Sh.sc]) r3137) ∧
            ((AV.binOk Go.BinOp.add (AV.cel x0 0) (AV.prj r2241 0)) ∧
            ((AV.binOk Go.BinOp.add (AV.cel x0 1) (AV.prj r3137 0)) ∧
            ((AV.isOne (AV.bin Go.BinOp.add (AV.cel x0 0) (AV.prj r2241 0))) ∧
            ((AV.isOne (AV.bin Go.BinOp.add (AV.cel x0 1) (AV.prj r3137 0))) ∧
            ((AV.flat (AV.agg [(AV.bin Go.BinOp.add (AV.cel x0 0) (AV.prj r2241 0)), (AV.bin Go.BinOp.add (AV.cel x0 1) (AV.prj r3137 0))])) ∧
            ((AV.flat (AV.int 0)) ∧
            (fSame (AV.tup [(AV.agg [(AV.bin Go.BinOp.add (AV.cel x0 0) (AV.prj r2241 0)), (AV.bin Go.BinOp.add (AV.cel x0 1) (AV.prj r3137 0))]), (AV.int 0)]) r)))))))))))))))))))))))))))))))))))))))))))))))))) := by kernel_rfl
theorem tcheck_form (x0 r : AV) : fnF Try.prog Γ ann 3 19 Try.f19 (Try.f19.body.getD .skip) (.nil) [x0] (.sc) r = (((AV.isSl x0 6) ∧
((AV.binOk Go.BinOp.gtr (AV.len x0) (AV.int 64)) ∧
((AV.isBool (AV.bin Go.BinOp.gtr (AV.len x0) (AV.int 64))) ∧
(((isT (AV.bin Go.BinOp.gtr (AV.len x0) (AV.int 64))) →
  ((AV.flat (AV.int 2)) ∧
  (fSame (AV.int 2) r))) ∧
((isF (AV.bin Go.BinOp.gtr (AV.len x0) (AV.int 64))) →
  ((AV.isSl x0 6) ∧
  ((AV.binOk Go.BinOp.eql (AV.len x0) (AV.int 0)) ∧
  ((AV.isBool (AV.bin Go.BinOp.eql (AV.len x0) (AV.int 0))) ∧
  (((isT (AV.bin Go.BinOp.eql (AV.len x0) (AV.int 0))) →
    ((AV.flat (AV.int 3)) ∧
    (fSame (AV.int 3) r))) ∧
  ((isF (AV.bin Go.BinOp.eql (AV.len x0) (AV.int 0))) →
    ((AV.isSl x0 6) ∧
    (fLoop 769 [(AV.int 0)] fun ys769 again769 =>
      ((AV.binOk Go.BinOp.lss (ys769.getD 0 default) (AV.len x0)) ∧
      ((AV.isBool (AV.bin Go.BinOp.lss (ys769.getD 0 default) (AV.len x0))) ∧
      (((isT (AV.bin Go.BinOp.lss (ys769.getD 0 default) (AV.len x0))) →
        ((AV.isSl x0 6) ∧
        ((AV.inb x0 (ys769.getD 0 default)) ∧
        ((AV.isAgg (AV.atAgg x0 (ys769.getD 0 default) 0 6) 6) ∧
        ((AV.binOk Go.BinOp.lss (AV.cel (AV.atAgg x0 (ys769.getD 0 default) 0 6) 0) (AV.int 0)) ∧
        ((AV.isBool (AV.bin Go.BinOp.lss (AV.cel (AV.atAgg x0 (ys769.getD 0 default) 0 6) 0) (AV.int 0))) ∧
        (((isT (AV.bin Go.BinOp.lss (AV.cel (AV.atAgg x0 (ys769.getD 0 default) 0 6) 0) (AV.int 0))) →
          ((AV.isBool (AV.bin Go.BinOp.lss (AV.cel (AV.atAgg x0 (ys769.getD 0 default) 0 6) 0) (AV.int 0))) ∧
          ((isT (AV.bin Go.BinOp.lss (AV.cel (AV.atAgg x0 (ys769.getD 0 default) 0 6) 0) (AV.int 0))) ∧
          ((AV.flat (AV.int 12)) ∧
          (fSame (AV.int 12) r))))) ∧
        ((isF (AV.bin Go.BinOp.lss (AV.cel (AV.atAgg x0 (ys769.getD 0 default) 0 6) 0) (AV.int 0))) →
          ((AV.binOk Go.BinOp.gtr (AV.cel (AV.atAgg x0 (ys769.getD 0 default) 0 6) 0) (AV.int 200000)) ∧
          ((AV.isBool (AV.bin Go.BinOp.lss (AV.cel (AV.atAgg x0 (ys769.getD 0 default) 0 6) 0) (AV.int 0))) ∧
          ((isF (AV.bin Go.BinOp.lss (AV.cel (AV.atAgg x0 (ys769.getD 0 default) 0 6) 0) (AV.int 0))) ∧
          ((AV.isBool (AV.bin Go.BinOp.gtr (AV.cel (AV.atAgg x0 (ys769.getD 0 default) 0 6) 0) (AV.int 200000))) ∧
          (((isT (AV.bin Go.BinOp.gtr (AV.cel (AV.atAgg x0 (ys769.getD 0 default) 0 6) 0) (AV.int 200000))) →
            ((AV.isBool (AV.bin Go.BinOp.gtr (AV.cel (AV.atAgg x0 (ys769.getD 0 default) 0 6) 0) (AV.int 200000))) ∧
            ((isT (AV.bin Go.BinOp.gtr (AV.cel (AV.atAgg x0 (ys769.getD 0 default) 0 6) 0) (AV.int 200000))) ∧
            ((AV.flat (AV.int 12)) ∧
            (fSame (AV.int 12) r))))) ∧
          ((isF (AV.bin Go.BinOp.gtr (AV.cel (AV.atAgg x0 (ys769.getD 0 default) 0 6) 0) (AV.int 200000))) →
            ((AV.binOk Go.BinOp.gtr (ys769.getD 0 default) (AV.int 0)) ∧
            ((AV.isBool (AV.bin Go.BinOp.gtr (ys769.getD 0 default) (AV.int 0))) ∧
            (((isT (AV.bin Go.BinOp.gtr (ys769.getD 0 default) (AV.int 0))) →
              ((AV.binOk Go.BinOp.sub (ys769.getD 0 default) (AV.int 1)) ∧
              ((AV.isSl x0 6) ∧
              ((AV.inb x0 (AV.bin Go.BinOp.sub (ys769.getD 0 default) (AV.int 1))) ∧
              ((AV.binOk Go.BinOp.leq (AV.cel (AV.atAgg x0 (ys769.getD 0 default) 0 6) 0) (AV.at x0 (AV.bin Go.BinOp.sub (ys769.getD 0 default) (AV.int 1)) 0)) ∧
              ((AV.isBool (AV.bin Go.BinOp.gtr (ys769.getD 0 default) (AV.int 0))) ∧
              ((isT (AV.bin Go.BinOp.gtr (ys769.getD 0 default) (AV.int 0))) ∧
              ((AV.isBool (AV.bin Go.BinOp.gtr (AV.cel (AV.atAgg x0 (ys769.getD 0 default) 0 6) 0) (AV.int 200000))) ∧
              ((isF (AV.bin Go.BinOp.gtr (AV.cel (AV.atAgg x0 (ys769.getD 0 default) 0 6) 0) (AV.int 200000))) ∧
              ((AV.isBool (AV.bin Go.BinOp.leq (AV.cel (AV.atAgg x0 (ys769.getD 0 default) 0 6) 0) (AV.at x0 (AV.bin Go.BinOp.sub (ys769.getD 0 default) (AV.int 1)) 0))) ∧
              (((isT (AV.bin Go.BinOp.leq (AV.cel (AV.atAgg x0 (ys769.getD 0 default) 0 6) 0) (AV.at x0 (AV.bin Go.BinOp.sub (ys769.getD 0 default) (AV.int 1)) 0))) →
                ((AV.flat (AV.int 12)) ∧
                (fSame (AV.int 12) r))) ∧
              ((isF (AV.bin Go.BinOp.leq (AV.cel (AV.atAgg x0 (ys769.getD 0 default) 0 6) 0) (AV.at x0 (AV.bin Go.BinOp.sub (ys769.getD 0 default) (AV.int 1)) 0))) →
                (∃ r3137 : AV, ((Fn Try.prog 27 [(AV.agg [(AV.cel (AV.atAgg x0 (ys769.getD 0 default) 0 6) 1), (AV.cel (AV.atAgg x0 (ys769.getD 0 default) 0 6) 2)])] Sh.sc r3137) ∧
                ((AV.binOk Go.BinOp.neq r3137 (AV.int 0)) ∧
                ((AV.isBool (AV.bin Go.BinOp.neq r3137 (AV.int 0))) ∧
                (((isT (AV.bin Go.BinOp.neq r3137 (AV.int 0))) →
                  ((AV.flat r3137) ∧
                  (fSame r3137 r))) ∧
                ((isF (AV.bin Go.BinOp.neq r3137 (AV.int 0))) →
                  ((AV.binOk Go.BinOp.lss (AV.cel (AV.atAgg x0 (ys769.getD 0 default) 0 6) 3) (AV.int 0)) ∧
                  ((AV.isBool (AV.bin Go.BinOp.lss (AV.cel (AV.atAgg x0 (ys769.getD 0 default) 0 6) 3) (AV.int 0))) ∧
                  (((isT (AV.bin Go.BinOp.lss (AV.cel (AV.atAgg x0 (ys769.getD 0 default) 0 6) 3) (AV.int 0))) →
                    ((AV.isBool (AV.bin Go.BinOp.lss (AV.cel (AV.atAgg x0 (ys769.getD 0 default) 0 6) 3) (AV.int 0))) ∧
                    ((isT (AV.bin Go.BinOp.lss (AV.cel (AV.atAgg x0 (ys769.getD 0 default) 0 6) 3) (AV.int 0))) ∧
                    ((AV.flat (AV.int 4)) ∧
                    (fSame (AV.int 4) r))))) ∧
                  ((isF (AV.bin Go.BinOp.lss (AV.cel (AV.atAgg x0 (ys769.getD 0 default) 0 6) 3) (AV.int 0))) →
                    ((AV.binOk Go.BinOp.gtr (AV.cel (AV.atAgg x0 (ys769.getD 0 default) 0 6) 3) (AV.int 60000)) ∧
                    ((AV.isBool (AV.bin Go.BinOp.lss (AV.cel (AV.atAgg x0 (ys769.getD 0 default) 0 6) 3) (AV.int 0))) ∧
                    ((isF (AV.bin Go.BinOp.lss (AV.cel (AV.atAgg x0 (ys769.getD 0 default) 0 6) 3) (AV.int 0))) ∧
                    ((AV.isBool (AV.bin Go.BinOp.gtr (AV.cel (AV.atAgg x0 (ys769.getD 0 default) 0 6) 3) (AV.int 60000))) ∧
                    (((isT (AV.bin Go.BinOp.gtr (AV.cel (AV.atAgg x0 (ys769.getD 0 default) 0 6) 3) (AV.int 60000))) →
                      ((AV.isBool (AV.bin Go.BinOp.gtr (AV.cel (AV.atAgg x0 (ys769.getD 0 default) 0 6) 3) (AV.int 60000))) ∧
                      ((isT (AV.bin Go.BinOp.gtr (AV.cel (AV.atAgg x0 (ys769.getD 0 default) 0 6) 3) (AV.int 60000))) ∧
                      ((AV.flat (AV.int 4)) ∧
                      (fSame (AV.int 4) r))))) ∧
                    ((isF (AV.bin Go.BinOp.gtr (AV.cel (AV.atAgg x0 (ys769.getD 0 default) 0 6) 3) (AV.int 60000))) →
                      ((AV.binOk Go.BinOp.lss (AV.cel (AV.atAgg x0 (ys769.getD 0 default) 0 6) 4) (AV.int 0)) ∧
                      ((AV.isBool (AV.bin Go.BinOp.gtr (AV.cel (AV.atAgg x0 (ys769.getD 0 default) 0 6) 3) (AV.int 60000))) ∧
                      ((isF (AV.bin Go.BinOp.gtr (AV.cel (AV.atAgg x0 (ys769.getD 0 default) 0 6) 3) (AV.int 60000))) ∧
                      ((AV.isBool (AV.bin Go.BinOp.lss (AV.cel (AV.atAgg x0 (ys769.getD 0 default) 0 6) 4) (AV.int 0))) ∧
                      (((isT (AV.bin Go.BinOp.lss (AV.cel (AV.atAgg x0 (ys769.getD 0 default) 0 6) 4) (AV.int 0))) →
                        ((AV.isBool (AV.bin Go.BinOp.lss (AV.cel (AV.atAgg x0 (ys769.getD 0 default) 0 6) 4) (AV.int 0))) ∧
                        ((isT (AV.bin Go.BinOp.lss (AV.cel (AV.atAgg x0 (ys769.getD 0 default) 0 6) 4) (AV.int 0))) ∧
                        ((AV.flat (AV.int 4)) ∧
                        (fSame (AV.int 4) r))))) ∧
                      ((isF (AV.bin Go.BinOp.lss (AV.cel (AV.atAgg x0 (ys769.getD 0 default) 0 6) 4) (AV.int 0))) →
                        ((AV.binOk Go.BinOp.gtr (AV.cel (AV.atAgg x0 (ys769.getD 0 default) 0 6) 4) (AV.int 1000000)) ∧
                        ((AV.isBool (AV.bin Go.BinOp.lss (AV.cel (AV.atAgg x0 (ys769.getD 0 default) 0 6) 4) (AV.int 0))) ∧
                        ((isF (AV.bin Go.BinOp.lss (AV.cel (AV.atAgg x0 (ys769.getD 0 default) 0 6) 4) (AV.int 0))) ∧
                        ((AV.isBool (AV.bin Go.BinOp.gtr (AV.cel (AV.atAgg x0 (ys769.getD 0 default) 0 6) 4) (AV.int 1000000))) ∧
                        (((isT (AV.bin Go.BinOp.gtr (AV.cel (AV.atAgg x0 (ys769.getD 0 default) 0 6) 4) (AV.int 1000000))) →
                          ((AV.isBool (AV.bin Go.BinOp.gtr (AV.cel (AV.atAgg x0 (ys769.getD 0 default) 0 6) 4) (AV.int 1000000))) ∧
                          ((isT (AV.bin Go.BinOp.gtr (AV.cel (AV.atAgg x0 (ys769.getD 0 default) 0 6) 4) (AV.int 1000000))) ∧
                          ((AV.flat (AV.int 4)) ∧
                          (fSame (AV.int 4) r))))) ∧
                        ((isF (AV.bin Go.BinOp.gtr (AV.cel (AV.atAgg x0 (ys769.getD 0 default) 0 6) 4) (AV.int 1000000))) →
                          ((AV.binOk Go.BinOp.lss (AV.cel (AV.atAgg x0 (ys769.getD 0 default) 0 6) 5) (AV.int 0)) ∧
                          ((AV.isBool (AV.bin Go.BinOp.gtr (AV.cel (AV.atAgg x0 (ys769.getD 0 default) 0 6) 4) (AV.int 1000000))) ∧
                          ((isF (AV.bin Go.BinOp.gtr (AV.cel (AV.atAgg x0 (ys769.getD 0 default) 0 6) 4) (AV.int 1000000))) ∧
                          ((AV.isBool (AV.bin Go.BinOp.lss (AV.cel (AV.atAgg x0 (ys769.getD 0 default) 0 6) 5) (AV.int 0))) ∧
                          (((isT (AV.bin Go.BinOp.lss (AV.cel (AV.atAgg x0 (ys769.getD 0 default) 0 6) 5) (AV.int 0))) →
                            ((AV.isBool (AV.bin Go.BinOp.lss (AV.cel (AV.atAgg x0 (ys769.getD 0 default) 0 6) 5) (AV.int 0))) ∧
                            ((isT (AV.bin Go.BinOp.lss (AV.cel (AV.atAgg x0 (ys769.getD 0 default) 0 6) 5) (AV.int 0))) ∧
                            ((AV.flat (AV.int 4)) ∧
                            (fSame (AV.int 4) r))))) ∧
                          ((isF (AV.bin Go.BinOp.lss (AV.cel (AV.atAgg x0 (ys769.getD 0 default) 0 6) 5) (AV.int 0))) →
                            ((AV.binOk Go.BinOp.gtr (AV.cel (AV.atAgg x0 (ys769.getD 0 default) 0 6) 5) (AV.int 60000)) ∧
                            ((AV.isBool (AV.bin Go.BinOp.lss (AV.cel (AV.atAgg x0 (ys769.getD 0 default) 0 6) 5) (AV.int 0))) ∧
                            ((isF (AV.bin Go.BinOp.lss (AV.cel (AV.atAgg x0 (ys769.getD 0 default) 0 6) 5) (AV.int 0))) ∧
                            ((AV.isBool (AV.bin Go.BinOp.gtr (AV.cel (AV.atAgg x0 (ys769.getD 0 default) 0 6) 5) (AV.int 60000))) ∧
                            (((isT (AV.bin Go.BinOp.gtr (AV.cel (AV.atAgg x0 (ys769.getD 0 default) 0 6) 5) (AV.int 60000))) →
                              ((AV.flat (AV.int 4)) ∧
                              (fSame (AV.int 4) r))) ∧
                            ((isF (AV.bin Go.BinOp.gtr (AV.cel (AV.atAgg x0 (ys769.getD 0 default) 0 6) 5) (AV.int 60000))) →
                              ((AV.binOk Go.BinOp.add (ys769.getD 0 default) (AV.int 1)) ∧
                              (again769 [(AV.bin Go.BinOp.add (ys769.getD 0 default) (AV.int 1))])))))))))))))))))))))))))))))))))))))))))))))))))))))) ∧
            ((isF (AV.bin Go.BinOp.gtr (ys769.getD 0 default) (AV.int 0))) →
              ((AV.isBool (AV.bin Go.BinOp.gtr (ys769.getD 0 default) (AV.int 0))) ∧
              ((isF (AV.bin Go.BinOp.gtr (ys769.getD 0 default) (AV.int 0))) ∧
              ((AV.isBool (AV.bin Go.BinOp.gtr (AV.cel (AV.atAgg x0 (ys769.getD 0 default) 0 6) 0) (AV.int 200000))) ∧
              ((isF (AV.bin Go.BinOp.gtr (AV.cel (AV.atAgg x0 (ys769.getD 0 default) 0 6) 0) (AV.int 200000))) ∧
              (∃ r3137 : AV, ((Fn Try.prog 27 [(AV.agg [(AV.cel (AV.atAgg x0 (ys769.getD 0 default) 0 6) 1), (AV.cel (AV.atAgg x0 (ys769.getD 0 default) 0 6) 2)])] Sh.sc r3137) ∧
              ((AV.binOk Go.BinOp.neq r3137 (AV.int 0)) ∧
              ((AV.isBool (AV.bin Go.BinOp.neq r3137 (AV.int 0))) ∧
              (((isT (AV.bin Go.BinOp.neq r3137 (AV.int 0))) →
                ((AV.flat r3137) ∧
                (fSame r3137 r))) ∧
              ((isF (AV.bin Go.BinOp.neq r3137 (AV.int 0))) →
                ((AV.binOk Go.BinOp.lss (AV.cel (AV.atAgg x0 (ys769.getD 0 default) 0 6) 3) (AV.int 0)) ∧
                ((AV.isBool (AV.bin Go.BinOp.lss (AV.cel (AV.atAgg x0 (ys769.getD 0 default) 0 6) 3) (AV.int 0))) ∧
                (((isT (AV.bin Go.BinOp.lss (AV.cel (AV.atAgg x0 (ys769.getD 0 default) 0 6) 3) (AV.int 0))) →
                  ((AV.isBool (AV.bin Go.BinOp.lss (AV.cel (AV.atAgg x0 (ys769.getD 0 default) 0 6) 3) (AV.int 0))) ∧
                  ((isT (AV.bin Go.BinOp.lss (AV.cel (AV.atAgg x0 (ys769.getD 0 default) 0 6) 3) (AV.int 0))) ∧
                  ((AV.flat (AV.int 4)) ∧
                  (fSame (AV.int 4) r))))) ∧
                ((isF (AV.bin Go.BinOp.lss (AV.cel (AV.atAgg x0 (ys769.getD 0 default) 0 6) 3) (AV.int 0))) →
                  ((AV.binOk Go.BinOp.gtr (AV.cel (AV.atAgg x0 (ys769.getD 0 default) 0 6) 3) (AV.int 60000)) ∧
                  ((AV.isBool (AV.bin Go.BinOp.lss (AV.cel (AV.atAgg x0 (ys769.getD 0 default) 0 6) 3) (AV.int 0))) ∧
                  ((isF (AV.bin Go.BinOp.lss (AV.cel (AV.atAgg x0 (ys769.getD 0 default) 0 6) 3) (AV.int 0))) ∧
                  ((AV.isBool (AV.bin Go.BinOp.gtr (AV.cel (AV.atAgg x0 (ys769.getD 0 default) 0 6) 3) (AV.int 60000))) ∧
                  (((isT (AV.bin Go.BinOp.gtr (AV.cel (AV.atAgg x0 (ys769.getD 0 default) 0 6) 3) (AV.int 60000))) →
                    ((AV.isBool (AV.bin Go.BinOp.gtr (AV.cel (AV.atAgg x0 (ys769.getD 0 default) 0 6) 3) (AV.int 60000))) ∧
                    ((isT (AV.bin Go.BinOp.gtr (AV.cel (AV.atAgg x0 (ys769.getD 0 default) 0 6) 3) (AV.int 60000))) ∧
                    ((AV.flat (AV.int 4)) ∧
                    (fSame (AV.int 4) r))))) ∧
                  ((isF (AV.bin Go.BinOp.gtr (AV.cel (AV.atAgg x0 (ys769.getD 0 default) 0 6) 3) (AV.int 60000))) →
                    ((AV.binOk Go.BinOp.lss (AV.cel (AV.atAgg x0 (ys769.getD 0 default) 0 6) 4) (AV.int 0)) ∧
                    ((AV.isBool (AV.bin Go.BinOp.gtr (AV.cel (AV.atAgg x0 (ys769.getD 0 default) 0 6) 3) (AV.int 60000))) ∧
                    ((isF (AV.bin Go.BinOp.gtr (AV.cel (AV.atAgg x0 (ys769.getD 0 default) 0 6) 3) (AV.int 60000))) ∧
                    ((AV.isBool (AV.bin Go.BinOp.lss (AV.cel (AV.atAgg x0 (ys769.getD 0 default) 0 6) 4) (AV.int 0))) ∧
                    (((isT (AV.bin Go.BinOp.lss (AV.cel (AV.atAgg x0 (ys769.getD 0 default) 0 6) 4) (AV.int 0))) →
                      ((AV.isBool (AV.bin Go.BinOp.lss (AV.cel (AV.atAgg x0 (ys769.getD 0 default) 0 6) 4) (AV.int 0))) ∧
                      ((isT (AV.bin Go.BinOp.lss (AV.cel (AV.atAgg x0 (ys769.getD 0 default) 0 6) 4) (AV.int 0))) ∧
                      ((AV.flat (AV.int 4)) ∧
                      (fSame (AV.int 4) r))))) ∧
                    ((isF (AV.bin Go.BinOp.lss (AV.cel (AV.atAgg x0 (ys769.getD 0 default) 0 6) 4) (AV.int 0))) →
                      ((AV.binOk Go.BinOp.gtr (AV.cel (AV.atAgg x0 (ys769.getD 0 default) 0 6) 4) (AV.int 1000000)) ∧
                      ((AV.isBool (AV.bin Go.BinOp.lss (AV.cel (AV.atAgg x0 (ys769.getD 0 default) 0 6) 4) (AV.int 0))) ∧
                      ((isF (AV.bin Go.BinOp.lss (AV.cel (AV.atAgg x0 (ys769.getD 0 default) 0 6) 4) (AV.int 0))) ∧
                      ((AV.isBool (AV.bin Go.BinOp.gtr (AV.cel (AV.atAgg x0 (ys769.getD 0 default) 0 6) 4) (AV.int 1000000))) ∧
                      (((isT (AV.bin Go.BinOp.gtr (AV.cel (AV.atAgg x0 (ys769.getD 0 default) 0 6) 4) (AV.int 1000000))) →
                        ((AV.isBool (AV.bin Go.BinOp.gtr (AV.cel (AV.atAgg x0 (ys769.getD 0 default) 0 6) 4) (AV.int 1000000))) ∧
                        ((isT (AV.bin Go.BinOp.gtr (AV.cel (AV.atAgg x0 (ys769.getD 0 default) 0 6) 4) (AV.int 1000000))) ∧
                        ((AV.flat (AV.int 4)) ∧
                        (fSame (AV.int 4) r))))) ∧
                      ((isF (AV.bin Go.BinOp.gtr (AV.cel (AV.atAgg x0 (ys769.getD 0 default) 0 6) 4) (AV.int 1000000))) →
                        ((AV.binOk Go.BinOp.lss (AV.cel (AV.atAgg x0 (ys769.getD 0 default) 0 6) 5) (AV.int 0)) ∧
                        ((AV.isBool (AV.bin Go.BinOp.gtr (AV.cel (AV.atAgg x0 (ys769.getD 0 default) 0 6) 4) (AV.int 1000000))) ∧
                        ((isF (AV.bin Go.BinOp.gtr (AV.cel (AV.atAgg x0 (ys769.getD 0 default) 0 6) 4) (AV.int 1000000))) ∧
                        ((AV.isBool (AV.bin Go.BinOp.lss (AV.cel (AV.atAgg x0 (ys769.getD 0 default) 0 6) 5) (AV.int 0))) ∧
                        (((isT (AV.bin Go.BinOp.lss (AV.cel (AV.atAgg x0 (ys769.getD 0 default) 0 6) 5) (AV.int 0))) →
                          ((AV.isBool (AV.bin Go.BinOp.lss (AV.cel (AV.atAgg x0 (ys769.getD 0 default) 0 6) 5) (AV.int 0))) ∧
                          ((isT (AV.bin Go.BinOp.lss (AV.cel (AV.atAgg x0 (ys769.getD 0 default) 0 6) 5) (AV.int 0))) ∧
                          ((AV.flat (AV.int 4)) ∧
                          (fSame (AV.int 4) r))))) ∧
                        ((isF (AV.bin Go.BinOp.lss (AV.cel (AV.atAgg x0 (ys769.getD 0 default) 0 6) 5) (AV.int 0))) →
                          ((AV.binOk Go.BinOp.gtr (AV.cel (AV.atAgg x0 (ys769.getD 0 default) 0 6) 5) (AV.int 60000)) ∧
                          ((AV.isBool (AV.bin Go.BinOp.lss (AV.cel (AV.atAgg x0 (ys769.getD 0 default) 0 6) 5) (AV.int 0))) ∧
                          ((isF (AV.bin Go.BinOp.lss (AV.cel (AV.atAgg x0 (ys769.getD 0 default) 0 6) 5) (AV.int 0))) ∧
                          ((AV.isBool (AV.bin Go.BinOp.gtr (AV.cel (AV.atAgg x0 (ys769.getD 0 default) 0 6) 5) (AV.int 60000))) ∧
                          (((isT (AV.bin Go.BinOp.gtr (AV.cel (AV.atAgg x0 (ys769.getD 0 default) 0 6) 5) (AV.int 60000))) →
                            ((AV.flat (AV.int 4)) ∧
                            (fSame (AV.int 4) r))) ∧
                          ((isF (AV.bin Go.BinOp.gtr (AV.cel (AV.atAgg x0 (ys769.getD 0 default) 0 6) 5) (AV.int 60000))) →
                            ((AV.binOk Go.BinOp.add (ys769.getD 0 default) (AV.int 1)) ∧
                            (again769 [(AV.bin Go.BinOp.add (ys769.getD 0 default) (AV.int 1))])))))))))))))))))))))))))))))))))))))))))))))))))))))))))))))))) ∧
      ((isF (AV.bin Go.BinOp.lss (ys769.getD 0 default) (AV.len x0))) →
        ((AV.flat (AV.int 0)) ∧
        (fSame (AV.int 0) r))))))))))))))))))) := by kernel_rfl
theorem ends_form (x0 r : AV) : fnF Try.prog Γ ann 3 36 Try.f36 (Try.f36.body.getD .skip) (.nil) [x0] (.tup [.sc, .sc]) r = (((AV.isSl x0 6) ∧
((AV.inb x0 (AV.int 0)) ∧
((AV.isSl x0 6) ∧
((AV.binOk Go.BinOp.sub (AV.len x0) (AV.int 1)) ∧
((AV.isSl x0 6) ∧
((AV.inb x0 (AV.bin Go.BinOp.sub (AV.len x0) (AV.int 1))) ∧
((AV.flat (AV.at x0 (AV.int 0) 0)) ∧
((AV.flat (AV.at x0 (AV.bin Go.BinOp.sub (AV.len x0) (AV.int 1)) 0)) ∧
(fSame (AV.tup [(AV.at x0 (AV.int 0) 0), (AV.at x0 (AV.bin Go.BinOp.sub (AV.len x0) (AV.int 1)) 0)]) r)))))))))) := by kernel_rfl
theorem at_form (x0 x1 r : AV) : fnF Try.prog Γ ann 3 37 Try.f37 (Try.f37.body.getD .skip) (.nil) [x0, x1] (.sc) r = (((fEnt Try.prog 39) ∧
(fAllV fun _ => ((AV.isSl x0 6) ∧
(fLoop 769 [(AV.int 0), (AV.len x0)] fun ys769 again769 =>
  ((AV.binOk Go.BinOp.lss (ys769.getD 0 default) (ys769.getD 1 default)) ∧
  ((AV.isBool (AV.bin Go.BinOp.lss (ys769.getD 0 default) (ys769.getD 1 default))) ∧
  (((isT (AV.bin Go.BinOp.lss (ys769.getD 0 default) (ys769.getD 1 default))) →
    ((AV.binOk Go.BinOp.add (ys769.getD 0 default) (ys769.getD 1 default)) ∧
    ((AV.isInt (AV.bin Go.BinOp.add (ys769.getD 0 default) (ys769.getD 1 default))) ∧
    ((AV.shfOk (AV.conv Go.IntKind.u64 (AV.bin Go.BinOp.add (ys769.getD 0 default) (ys769.getD 1 default))) (AV.lit (Value.int Go.IntKind.u64 1))) ∧
    ((AV.isInt (AV.shf Go.BinOp.shr (AV.conv Go.IntKind.u64 (AV.bin Go.BinOp.add (ys769.getD 0 default) (ys769.getD 1 default))) (AV.lit (Value.int Go.IntKind.u64 1)))) ∧
    ((AV.isSl x0 6) ∧
    ((AV.inb x0 (AV.conv Go.IntKind.i64 (AV.shf Go.BinOp.shr (AV.conv Go.IntKind.u64 (AV.bin Go.BinOp.add (ys769.getD 0 default) (ys769.getD 1 default))) (AV.lit (Value.int Go.IntKind.u64 1))))) ∧
    ((fEnt Try.prog 40) ∧
    (fAllV fun _ => ((AV.isAgg (AV.atAgg x0 (AV.conv Go.IntKind.i64 (AV.shf Go.BinOp.shr (AV.conv Go.IntKind.u64 (AV.bin Go.BinOp.add (ys769.getD 0 default) (ys769.getD 1 default))) (AV.lit (Value.int Go.IntKind.u64 1)))) 0 6) 6) ∧
    ((AV.binOk Go.BinOp.sub (AV.cel (AV.atAgg x0 (AV.conv Go.IntKind.i64 (AV.shf Go.BinOp.shr (AV.conv Go.IntKind.u64 (AV.bin Go.BinOp.add (ys769.getD 0 default) (ys769.getD 1 default))) (AV.lit (Value.int Go.IntKind.u64 1)))) 0 6) 0) x1) ∧
    ((AV.binOk Go.BinOp.lss (AV.bin Go.BinOp.sub (AV.cel (AV.atAgg x0 (AV.conv Go.IntKind.i64 (AV.shf Go.BinOp.shr (AV.conv Go.IntKind.u64 (AV.bin Go.BinOp.add (ys769.getD 0 default) (ys769.getD 1 default))) (AV.lit (Value.int Go.IntKind.u64 1)))) 0 6) 0) x1) (AV.int 0)) ∧
    ((AV.isBool (AV.bin Go.BinOp.lss (AV.bin Go.BinOp.sub (AV.cel (AV.atAgg x0 (AV.conv Go.IntKind.i64 (AV.shf Go.BinOp.shr (AV.conv Go.IntKind.u64 (AV.bin Go.BinOp.add (ys769.getD 0 default) (ys769.getD 1 default))) (AV.lit (Value.int Go.IntKind.u64 1)))) 0 6) 0) x1) (AV.int 0))) ∧
    (((isT (AV.bin Go.BinOp.lss (AV.bin Go.BinOp.sub (AV.cel (AV.atAgg x0 (AV.conv Go.IntKind.i64 (AV.shf Go.BinOp.shr (AV.conv Go.IntKind.u64 (AV.bin Go.BinOp.add (ys769.getD 0 default) (ys769.getD 1 default))) (AV.lit (Value.int Go.IntKind.u64 1)))) 0 6) 0) x1) (AV.int 0))) →
      ((AV.binOk Go.BinOp.add (AV.conv Go.IntKind.i64 (AV.shf Go.BinOp.shr (AV.conv Go.IntKind.u64 (AV.bin Go.BinOp.add (ys769.getD 0 default) (ys769.getD 1 default))) (AV.lit (Value.int Go.IntKind.u64 1)))) (AV.int 1)) ∧
      (again769 [(AV.bin Go.BinOp.add (AV.conv Go.IntKind.i64 (AV.shf Go.BinOp.shr (AV.conv Go.IntKind.u64 (AV.bin Go.BinOp.add (ys769.getD 0 default) (ys769.getD 1 default))) (AV.lit (Value.int Go.IntKind.u64 1)))) (AV.int 1)), (ys769.getD 1 default)]))) ∧
    ((isF (AV.bin Go.BinOp.lss (AV.bin Go.BinOp.sub (AV.cel (AV.atAgg x0 (AV.conv Go.IntKind.i64 (AV.shf Go.BinOp.shr (AV.conv Go.IntKind.u64 (AV.bin Go.BinOp.add (ys769.getD 0 default) (ys769.getD 1 default))) (AV.lit (Value.int Go.IntKind.u64 1)))) 0 6) 0) x1) (AV.int 0))) →
      (again769 [(ys769.getD 0 default), (AV.conv Go.IntKind.i64 (AV.shf Go.BinOp.shr (AV.conv Go.IntKind.u64 (AV.bin Go.BinOp.add (ys769.getD 0 default) (ys769.getD 1 default))) (AV.lit (Value.int Go.IntKind.u64 1))))])))))))))))))))) ∧
  ((isF (AV.bin Go.BinOp.lss (ys769.getD 0 default) (ys769.getD 1 default))) →
    ((AV.binOk Go.BinOp.lss (ys769.getD 0 default) (AV.len x0)) ∧
    ((AV.isBool (AV.bin Go.BinOp.lss (ys769.getD 0 default) (AV.len x0))) ∧
    (((isT (AV.bin Go.BinOp.lss (ys769.getD 0 default) (AV.len x0))) →
      ((AV.isSl x0 6) ∧
      ((AV.inb x0 (ys769.getD 0 default)) ∧
      ((fEnt Try.prog 40) ∧
      (fAllV fun _ => ((AV.isAgg (AV.atAgg x0 (ys769.getD 0 default) 0 6) 6) ∧
      ((AV.binOk Go.BinOp.sub (AV.cel (AV.atAgg x0 (ys769.getD 0 default) 0 6) 0) x1) ∧
      ((AV.binOk Go.BinOp.eql (AV.bin Go.BinOp.sub (AV.cel (AV.atAgg x0 (ys769.getD 0 default) 0 6) 0) x1) (AV.int 0)) ∧
      ((AV.isBool (AV.bin Go.BinOp.lss (ys769.getD 0 default) (AV.len x0))) ∧
      ((isT (AV.bin Go.BinOp.lss (ys769.getD 0 default) (AV.len x0))) ∧
      ((AV.isBool (AV.bin Go.BinOp.eql (AV.bin Go.BinOp.sub (AV.cel (AV.atAgg x0 (ys769.getD 0 default) 0 6) 0) x1) (AV.int 0))) ∧
      (((isT (AV.bin Go.BinOp.eql (AV.bin Go.BinOp.sub (AV.cel (AV.atAgg x0 (ys769.getD 0 default) 0 6) 0) x1) (AV.int 0))) →
        ((AV.isSl x0 6) ∧
        ((AV.inb x0 (ys769.getD 0 default)) ∧
        ((AV.isAgg (AV.atAgg x0 (ys769.getD 0 default) 0 6) 6) ∧
        ((AV.flat (AV.agg [(AV.cel (AV.atAgg x0 (ys769.getD 0 default) 0 6) 0), (AV.cel (AV.atAgg x0 (ys769.getD 0 default) 0 6) 1), (AV.cel (AV.atAgg x0 (ys769.getD 0 default) 0 6) 2), (AV.cel (AV.atAgg x0 (ys769.getD 0 default) 0 6) 3), (AV.cel (AV.atAgg x0 (ys769.getD 0 default) 0 6) 4), (AV.cel (AV.atAgg x0 (ys769.getD 0 default) 0 6) 5)])) ∧
        (fSame (AV.agg [(AV.cel (AV.atAgg x0 (ys769.getD 0 default) 0 6) 0), (AV.cel (AV.atAgg x0 (ys769.getD 0 default) 0 6) 1), (AV.cel (AV.atAgg x0 (ys769.getD 0 default) 0 6) 2), (AV.cel (AV.atAgg x0 (ys769.getD 0 default) 0 6) 3), (AV.cel (AV.atAgg x0 (ys769.getD 0 default) 0 6) 4), (AV.cel (AV.atAgg x0 (ys769.getD 0 default) 0 6) 5)]) r)))))) ∧
      ((isF (AV.bin Go.BinOp.eql (AV.bin Go.BinOp.sub (AV.cel (AV.atAgg x0 (ys769.getD 0 default) 0 6) 0) x1) (AV.int 0))) →
        ((AV.binOk Go.BinOp.sub (ys769.getD 0 default) (AV.int 1)) ∧
        ((AV.isSl x0 6) ∧
        ((AV.inb x0 (AV.bin Go.BinOp.sub (ys769.getD 0 default) (AV.int 1))) ∧
        ((AV.isSl x0 6) ∧
        ((AV.inb x0 (ys769.getD 0 default)) ∧
        ((AV.isAgg (AV.atAgg x0 (AV.bin Go.BinOp.sub (ys769.getD 0 default) (AV.int 1)) 0 6) 6) ∧
        ((AV.isAgg (AV.atAgg x0 (ys769.getD 0 default) 0 6) 6) ∧
        ((AV.binOk Go.BinOp.sub x1 (AV.cel (AV.atAgg x0 (AV.bin Go.BinOp.sub (ys769.getD 0 default) (AV.int 1)) 0 6) 0)) ∧
        ((AV.binOk Go.BinOp.sub (AV.cel (AV.atAgg x0 (ys769.getD 0 default) 0 6) 0) (AV.cel (AV.atAgg x0 (AV.bin Go.BinOp.sub (ys769.getD 0 default) (AV.int 1)) 0 6) 0)) ∧
        (∃ r5249 : AV, ((Fn Try.prog 41 [(AV.agg [(AV.cel (AV.atAgg x0 (AV.bin Go.BinOp.sub (ys769.getD 0 default) (AV.int 1)) 0 6) 1), (AV.cel (AV.atAgg x0 (AV.bin Go.BinOp.sub (ys769.getD 0 default) (AV.int 1)) 0 6) 2)]), (AV.agg [(AV.cel (AV.atAgg x0 (ys769.getD 0 default) 0 6) 1), (AV.cel (AV.atAgg x0 (ys769.getD 0 default) 0 6) 2)]), (AV.bin Go.BinOp.sub x1 (AV.cel (AV.atAgg x0 (AV.bin Go.BinOp.sub (ys769.getD 0 default) (AV.int 1)) 0 6) 0)), (AV.bin Go.BinOp.sub (AV.cel (AV.atAgg x0 (ys769.getD 0 default) 0 6) 0) (AV.cel (AV.atAgg x0 (AV.bin Go.BinOp.sub (ys769.getD 0 default) (AV.int 1)) 0 6) 0))] (Sh.tup [Sh.sc, Sh.sc]) r5249) ∧
        ((AV.isAgg (AV.prj r5249 0) 2) ∧
        ((AV.binOk Go.BinOp.sub (AV.cel (AV.atAgg x0 (ys769.getD 0 default) 0 6) 3) (AV.cel (AV.atAgg x0 (AV.bin Go.BinOp.sub (ys769.getD 0 default) (AV.int 1)) 0 6) 3)) ∧
        ((AV.binOk Go.BinOp.mul (AV.bin Go.BinOp.sub (AV.cel (AV.atAgg x0 (ys769.getD 0 default) 0 6) 3) (AV.cel (AV.atAgg x0 (AV.bin Go.BinOp.sub (ys769.getD 0 default) (AV.int 1)) 0 6) 3)) (AV.bin Go.BinOp.sub x1 (AV.cel (AV.atAgg x0 (AV.bin Go.BinOp.sub (ys769.getD 0 default) (AV.int 1)) 0 6) 0))) ∧
        (∃ r6337 : AV, ((Fn Try.prog 42 [(AV.bin Go.BinOp.mul (AV.bin Go.BinOp.sub (AV.cel (AV.atAgg x0 (ys769.getD 0 default) 0 6) 3) (AV.cel (AV.atAgg x0 (AV.bin Go.BinOp.sub (ys769.getD 0 default) (AV.int 1)) 0 6) 3)) (AV.bin Go.BinOp.sub x1 (AV.cel (AV.atAgg x0 (AV.bin Go.BinOp.sub (ys769.getD 0 default) (AV.int 1)) 0 6) 0))), (AV.bin Go.BinOp.sub (AV.cel (AV.atAgg x0 (ys769.getD 0 default) 0 6) 0) (AV.cel (AV.atAgg x0 (AV.bin Go.BinOp.sub (ys769.getD 0 default) (AV.int 1)) 0 6) 0))] (Sh.tup [Sh.sc, Sh.sc]) r6337) ∧
        ((AV.binOk Go.BinOp.sub (AV.cel (AV.atAgg x0 (ys769.getD 0 default) 0 6) 4) (AV.cel (AV.atAgg x0 (AV.bin Go.BinOp.sub (ys769.getD 0 default) (AV.int 1)) 0 6) 4)) ∧
        ((AV.binOk Go.BinOp.mul (AV.bin Go.BinOp.sub (AV.cel (AV.atAgg x0 (ys769.getD 0 default) 0 6) 4) (AV.cel (AV.atAgg x0 (AV.bin Go.BinOp.sub (ys769.getD 0 default) (AV.int 1)) 0 6) 4)) (AV.bin Go.BinOp.sub x1 (AV.cel (AV.atAgg x0 (AV.bin Go.BinOp.sub (ys769.getD 0 default) (AV.int 1)) 0 6) 0))) ∧
        (∃ r7233 : AV, ((Fn Try.prog 43 [(AV.bin Go.BinOp.mul (AV.bin Go.BinOp.sub (AV.cel (AV.atAgg x0 (ys769.getD 0 default) 0 6) 4) (AV.cel (AV.atAgg x0 (AV.bin Go.BinOp.sub (ys769.getD 0 default) (AV.int 1)) 0 6) 4)) (AV.bin Go.BinOp.sub x1 (AV.cel (AV.atAgg x0 (AV.bin Go.BinOp.sub (ys769.getD 0 default) (AV.int 1)) 0 6) 0))), (AV.bin Go.BinOp.sub (AV.cel (AV.atAgg x0 (ys769.getD 0 default) 0 6) 0) (AV.cel (AV.atAgg x0 (AV.bin Go.BinOp.sub (ys769.getD 0 default) (AV.int 1)) 0 6) 0))] (Sh.tup [Sh.sc, Sh.sc]) r7233) ∧
        ((AV.binOk Go.BinOp.sub (AV.cel (AV.atAgg x0 (ys769.getD 0 default) 0 6) 5) (AV.cel (AV.atAgg x0 (AV.bin Go.BinOp.sub (ys769.getD 0 default) (AV.int 1)) 0 6) 5)) ∧
        ((AV.binOk Go.BinOp.mul (AV.bin Go.BinOp.sub (AV.cel (AV.atAgg x0 (ys769.getD 0 default) 0 6) 5) (AV.cel (AV.atAgg x0 (AV.bin Go.BinOp.sub (ys769.getD 0 default) (AV.int 1)) 0 6) 5)) (AV.bin Go.BinOp.sub x1 (AV.cel (AV.atAgg x0 (AV.bin Go.BinOp.sub (ys769.getD 0 default) (AV.int 1)) 0 6) 0))) ∧
        (∃ r8129 : AV, ((Fn Try.prog 43 [(AV.bin Go.BinOp.mul (AV.bin Go.BinOp.sub (AV.cel (AV.atAgg x0 (ys769.getD 0 default) 0 6) 5) (AV.cel (AV.atAgg x0 (AV.bin Go.BinOp.sub (ys769.getD 0 default) (AV.int 1)) 0 6) 5)) (AV.bin Go.BinOp.sub x1 (AV.cel (AV.atAgg x0 (AV.bin Go.BinOp.sub (ys769.getD 0 default) (AV.int 1)) 0 6) 0))), (AV.bin Go.BinOp.sub (AV.cel (AV.atAgg x0 (ys769.getD 0 default) 0 6) 0) (AV.cel (AV.atAgg x0 (AV.bin Go.BinOp.sub (ys769.getD 0 default) (AV.int 1)) 0 6) 0))] (Sh.tup [Sh.sc, Sh.sc]) r8129) ∧
        ((AV.binOk Go.BinOp.add (AV.cel (AV.atAgg x0 (AV.bin Go.BinOp.sub (ys769.getD 0 default) (AV.int 1)) 0 6) 3) (AV.prj r6337 0)) ∧
        ((AV.isOne x1) ∧
        ((AV.isOne (AV.bin Go.BinOp.add (AV.cel (AV.atAgg x0 (AV.bin Go.BinOp.sub (ys769.getD 0 default) (AV.int 1)) 0 6) 3) (AV.prj r6337 0))) ∧
        ((AV.binOk Go.BinOp.add (AV.cel (AV.atAgg x0 (AV.bin Go.BinOp.sub (ys769.getD 0 default) (AV.int 1)) 0 6) 4) (AV.prj r7233 0)) ∧
        ((AV.binOk Go.BinOp.add (AV.cel (AV.atAgg x0 (AV.bin Go.BinOp.sub (ys769.getD 0 default) (AV.int 1)) 0 6) 5) (AV.prj r8129 0)) ∧
        ((AV.isOne (AV.bin Go.BinOp.add (AV.cel (AV.atAgg x0 (AV.bin Go.BinOp.sub (ys769.getD 0 default) (AV.int 1)) 0 6) 4) (AV.prj r7233 0))) ∧
        ((AV.isOne (AV.bin Go.BinOp.add (AV.cel (AV.atAgg x0 (AV.bin Go.BinOp.sub (ys769.getD 0 default) (AV.int 1)) 0 6) 5) (AV.prj r8129 0))) ∧
        ((AV.flat (AV.agg [x1, (AV.cel (AV.prj r5249 0) 0), (AV.cel (AV.prj r5249 0) 1), (AV.bin Go.BinOp.add (AV.cel (AV.atAgg x0 (AV.bin Go.BinOp.sub (ys769.getD 0 default) (AV.int 1)) 0 6) 3) (AV.prj r6337 0)), (AV.bin Go.BinOp.add (AV.cel (AV.atAgg x0 (AV.bin Go.BinOp.sub (ys769.getD 0 default) (AV.int 1)) 0 6) 4) (AV.prj r7233 0)), (AV.bin Go.BinOp.add (AV.cel (AV.atAgg x0 (AV.bin Go.BinOp.sub (ys769.getD 0 default) (AV.int 1)) 0 6) 5) (AV.prj r8129 0))])) ∧
        (fSame (AV.agg [x1, (AV.cel (AV.prj r5249 0) 0), (AV.cel (AV.prj r5249 0) 1), (AV.bin Go.BinOp.add (AV.cel (AV.atAgg x0 (AV.bin Go.BinOp.sub (ys769.getD 0 default) (AV.int 1)) 0 6) 3) (AV.prj r6337 0)), (AV.bin Go.BinOp.add (AV.cel (AV.atAgg x0 (AV.bin Go.BinOp.sub (ys769.getD 0 default) (AV.int 1)) 0 6) 4) (AV.prj r7233 0)), (AV.bin Go.BinOp.add (AV.cel (AV.atAgg x0 (AV.bin Go.BinOp.sub (ys769.getD 0 default) (AV.int 1)) 0 6) 5) (AV.prj r8129 0))]) r)))))))))))))))))))))))))))))))))))))))))))))) ∧
    ((isF (AV.bin Go.BinOp.lss (ys769.getD 0 default) (AV.len x0))) →
      ((AV.isBool (AV.bin Go.BinOp.lss (ys769.getD 0 default) (AV.len x0))) ∧
      ((isF (AV.bin Go.BinOp.lss (ys769.getD 0 default) (AV.len x0))) ∧
      ((AV.binOk Go.BinOp.sub (ys769.getD 0 default) (AV.int 1)) ∧
      ((AV.isSl x0 6) ∧
      ((AV.inb x0 (AV.bin Go.BinOp.sub (ys769.getD 0 default) (AV.int 1))) ∧
      ((AV.isSl x0 6) ∧
      ((AV.inb x0 (ys769.getD 0 default)) ∧
      ((AV.isAgg (AV.atAgg x0 (AV.bin Go.BinOp.sub (ys769.getD 0 default) (AV.int 1)) 0 6) 6) ∧
      ((AV.isAgg (AV.atAgg x0 (ys769.getD 0 default) 0 6) 6) ∧
      ((AV.binOk Go.BinOp.sub x1 (AV.cel (AV.atAgg x0 (AV.bin Go.BinOp.sub (ys769.getD 0 default) (AV.int 1)) 0 6) 0)) ∧
      ((AV.binOk Go.BinOp.sub (AV.cel (AV.atAgg x0 (ys769.getD 0 default) 0 6) 0) (AV.cel (AV.atAgg x0 (AV.bin Go.BinOp.sub (ys769.getD 0 default) (AV.int 1)) 0 6) 0)) ∧
      (∃ r4673 : AV, ((Fn Try.prog 41 [(AV.agg [(AV.cel (AV.atAgg x0 (AV.bin Go.BinOp.sub (ys769.getD 0 default) (AV.int 1)) 0 6) 1), (AV.cel (AV.atAgg x0 (AV.bin Go.BinOp.sub (ys769.getD 0 default) (AV.int 1)) 0 6) 2)]), (AV.agg [(AV.cel (AV.atAgg x0 (ys769.getD 0 default) 0 6) 1), (AV.cel (AV.atAgg x0 (ys769.getD 0 default) 0 6) 2)]), (AV.bin Go.BinOp.sub x1 (AV.cel (AV.atAgg x0 (AV.bin Go.BinOp.sub (ys769.getD 0 default) (AV.int 1)) 0 6) 0)), (AV.bin Go.BinOp.sub (AV.cel (AV.atAgg x0 (ys769.getD 0 default) 0 6) 0) (AV.cel (AV.atAgg x0 (AV.bin Go.BinOp.sub (ys769.getD 0 default) (AV.int 1)) 0 6) 0))] (Sh.tup [Sh.sc, Sh.sc]) r4673) ∧
      ((AV.isAgg (AV.prj r4673 0) 2) ∧
      ((AV.binOk Go.BinOp.sub (AV.cel (AV.atAgg x0 (ys769.getD 0 default) 0 6) 3) (AV.cel (AV.atAgg x0 (AV.bin Go.BinOp.sub (ys769.getD 0 default) (AV.int 1)) 0 6) 3)) ∧
      ((AV.binOk Go.BinOp.mul (AV.bin Go.BinOp.sub (AV.cel (AV.atAgg x0 (ys769.getD 0 default) 0 6) 3) (AV.cel (AV.atAgg x0 (AV.bin Go.BinOp.sub (ys769.getD 0 default) (AV.int 1)) 0 6) 3)) (AV.bin Go.BinOp.sub x1 (AV.cel (AV.atAgg x0 (AV.bin Go.BinOp.sub (ys769.getD 0 default) (AV.int 1)) 0 6) 0))) ∧
      (∃ r5761 : AV, ((Fn Try.prog 42 [(AV.bin Go.BinOp.mul (AV.bin Go.BinOp.sub (AV.cel (AV.atAgg x0 (ys769.getD 0 default) 0 6) 3) (AV.cel (AV.atAgg x0 (AV.bin Go.BinOp.sub (ys769.getD 0 default) (AV.int 1)) 0 6) 3)) (AV.bin Go.BinOp.sub x1 (AV.cel (AV.atAgg x0 (AV.bin Go.BinOp.sub (ys769.getD 0 default) (AV.int 1)) 0 6) 0))), (AV.bin Go.BinOp.sub (AV.cel (AV.atAgg x0 (ys769.getD 0 default) 0 6) 0) (AV.cel (AV.atAgg x0 (AV.bin Go.BinOp.sub (ys769.getD 0 default) (AV.int 1)) 0 6) 0))] (Sh.tup [Sh.sc, Sh.sc]) r5761) ∧
      ((AV.binOk Go.BinOp.sub (AV.cel (AV.atAgg x0 (ys769.getD 0 default) 0 6) 4) (AV.cel (AV.atAgg x0 (AV.bin Go.BinOp.sub (ys769.getD 0 default) (AV.int 1)) 0 6) 4)) ∧
      ((AV.binOk Go.BinOp.mul (AV.bin Go.BinOp.sub (AV.cel (AV.atAgg x0 (ys769.getD 0 default) 0 6) 4) (AV.cel (AV.atAgg x0 (AV.bin Go.BinOp.sub (ys769.getD 0 default) (AV.int 1)) 0 6) 4)) (AV.bin Go.BinOp.sub x1 (AV.cel (AV.atAgg x0 (AV.bin Go.BinOp.sub (ys769.getD 0 default) (AV.int 1)) 0 6) 0))) ∧
      (∃ r6657 : AV, ((Fn Try.prog 43 [(AV.bin Go.BinOp.mul (AV.bin Go.BinOp.sub (AV.cel (AV.atAgg x0 (ys769.getD 0 default) 0 6) 4) (AV.cel (AV.atAgg x0 (AV.bin Go.BinOp.sub (ys769.getD 0 default) (AV.int 1)) 0 6) 4)) (AV.bin Go.BinOp.sub x1 (AV.cel (AV.atAgg x0 (AV.bin Go.BinOp.sub (ys769.getD 0 default) (AV.int 1)) 0 6) 0))), (AV.bin Go.BinOp.sub (AV.cel (AV.atAgg x0 (ys769.getD 0 default) 0 6) 0) (AV.cel (AV.atAgg x0 (AV.bin Go.BinOp.sub (ys769.getD 0 default) (AV.int 1)) 0 6) 0))] (Sh.tup [Sh.sc, Sh.sc]) r6657) ∧
      ((AV.binOk Go.BinOp.sub (AV.cel (AV.atAgg x0 (ys769.getD 0 default) 0 6) 5) (AV.cel (AV.atAgg x0 (AV.bin Go.BinOp.sub (ys769.getD 0 default) (AV.int 1)) 0 6) 5)) ∧
      ((AV.binOk Go.BinOp.mul (AV.bin Go.BinOp.sub (AV.cel (AV.atAgg x0 (ys769.getD 0 default) 0 6) 5) (AV.cel (AV.atAgg x0 (AV.bin Go.BinOp.sub (ys769.getD 0 default) (AV.int 1)) 0 6) 5)) (AV.bin Go.BinOp.sub x1 (AV.cel (AV.atAgg x0 (AV.bin Go.BinOp.sub (ys769.getD 0 default) (AV.int 1)) 0 6) 0))) ∧
      (∃ r7553 : AV, ((Fn Try.prog 43 [(AV.bin Go.BinOp.mul (AV.bin Go.BinOp.sub (AV.cel (AV.atAgg x0 (ys769.getD 0 default) 0 6) 5) (AV.cel (AV.atAgg x0 (AV.bin Go.BinOp.sub (ys769.getD 0 default) (AV.int 1)) 0 6) 5)) (AV.bin Go.BinOp.sub x1 (AV.cel (AV.atAgg x0 (AV.bin Go.BinOp.sub (ys769.getD 0 default) (AV.int 1)) 0 6) 0))), (AV.bin Go.BinOp.sub (AV.cel (AV.atAgg x0 (ys769.getD 0 default) 0 6) 0) (AV.cel (AV.atAgg x0 (AV.bin Go.BinOp.sub (ys769.getD 0 default) (AV.int 1)) 0 6) 0))] (Sh.tup [Sh.sc, Sh.sc]) r7553) ∧
      ((AV.binOk Go.BinOp.add (AV.cel (AV.atAgg x0 (AV.bin Go.BinOp.sub (ys769.getD 0 default) (AV.int 1)) 0 6) 3) (AV.prj r5761 0)) ∧
      ((AV.isOne x1) ∧
      ((AV.isOne (AV.bin Go.BinOp.add (AV.cel (AV.atAgg x0 (AV.bin Go.BinOp.sub (ys769.getD 0 default) (AV.int 1)) 0 6) 3) (AV.prj r5761 0))) ∧
      ((AV.binOk Go.BinOp.add (AV.cel (AV.atAgg x0 (AV.bin Go.BinOp.sub (ys769.getD 0 default) (AV.int 1)) 0 6) 4) (AV.prj r6657 0)) ∧
      ((AV.binOk Go.BinOp.add (AV.cel (AV.atAgg x0 (AV.bin Go.BinOp.sub (ys769.getD 0 default) (AV.int 1)) 0 6) 5) (AV.prj r7553 0)) ∧
      ((AV.isOne (AV.bin Go.BinOp.add (AV.cel (AV.atAgg x0 (AV.bin Go.BinOp.sub (ys769.getD 0 default) (AV.int 1)) 0 6) 4) (AV.prj r6657 0))) ∧
      ((AV.isOne (AV.bin Go.BinOp.add (AV.cel (AV.atAgg x0 (AV.bin Go.BinOp.sub (ys769.getD 0 default) (AV.int 1)) 0 6) 5) (AV.prj r7553 0))) ∧
      ((AV.flat (AV.agg [x1, (AV.cel (AV.prj r4673 0) 0), (AV.cel (AV.prj r4673 0) 1), (AV.bin Go.BinOp.add (AV.cel (AV.atAgg x0 (AV.bin Go.BinOp.sub (ys769.getD 0 default) (AV.int 1)) 0 6) 3) (AV.prj r5761 0)), (AV.bin Go.BinOp.add (AV.cel (AV.atAgg x0 (AV.bin Go.BinOp.sub (ys769.getD 0 default) (AV.int 1)) 0 6) 4) (AV.prj r6657 0)), (AV.bin Go.BinOp.add (AV.cel (AV.atAgg x0 (AV.bin Go.BinOp.sub (ys769.getD 0 default) (AV.int 1)) 0 6) 5) (AV.prj r7553 0))])) ∧
      (fSame (AV.agg [x1, (AV.cel (AV.prj r4673 0) 0), (AV.cel (AV.prj r4673 0) 1), (AV.bin Go.BinOp.add (AV.cel (AV.atAgg x0 (AV.bin Go.BinOp.sub (ys769.getD 0 default) (AV.int 1)) 0 6) 3) (AV.prj r5761 0)), (AV.bin Go.BinOp.add (AV.cel (AV.atAgg x0 (AV.bin Go.BinOp.sub (ys769.getD 0 default) (AV.int 1)) 0 6) 4) (AV.prj r6657 0)), (AV.bin Go.BinOp.add (AV.cel (AV.atAgg x0 (AV.bin Go.BinOp.sub (ys769.getD 0 default) (AV.int 1)) 0 6) 5) (AV.prj r7553 0))]) r)))))))))))))))))))))))))))))))))))))))))))))))) := by kernel_rfl
theorem tat_form (x0 x1 r : AV) : fnF Try.prog Γ ann 3 34 Try.f34 (Try.f34.body.getD .skip) (.nil) [x0, x1] (.tup [.sc, .sc]) r = ((∃ r193 : AV, ((Fn Try.prog 19 [x0] Sh.sc r193) ∧
((AV.binOk Go.BinOp.neq r193 (AV.int 0)) ∧
((AV.isBool (AV.bin Go.BinOp.neq r193 (AV.int 0))) ∧
(((isT (AV.bin Go.BinOp.neq r193 (AV.int 0))) →
  ((AV.flat (AV.agg [(AV.int 0), (AV.int 0), (AV.int 0), (AV.int 0), (AV.int 0), (AV.int 0)])) ∧
  ((AV.flat r193) ∧
  (fSame (AV.tup [(AV.agg [(AV.int 0), (AV.int 0), (AV.int 0), (AV.int 0), (AV.int 0), (AV.int 0)]), r193]) r)))) ∧
((isF (AV.bin Go.BinOp.neq r193 (AV.int 0))) →
  (∃ r513 : AV, ((Fn Try.prog 36 [x0] (Sh.tup [Sh.sc, Sh.sc]) r513) ∧
  ((AV.binOk Go.BinOp.lss x1 (AV.prj r513 0)) ∧
  ((AV.isBool (AV.bin Go.BinOp.lss x1 (AV.prj r513 0))) ∧
  (((isT (AV.bin Go.BinOp.lss x1 (AV.prj r513 0))) →
    ((AV.isBool (AV.bin Go.BinOp.lss x1 (AV.prj r513 0))) ∧
    ((isT (AV.bin Go.BinOp.lss x1 (AV.prj r513 0))) ∧
    ((AV.flat (AV.agg [(AV.int 0), (AV.int 0), (AV.int 0), (AV.int 0), (AV.int 0), (AV.int 0)])) ∧
    ((AV.flat (AV.int 12)) ∧
    (fSame (AV.tup [(AV.agg [(AV.int 0), (AV.int 0), (AV.int 0), (AV.int 0), (AV.int 0), (AV.int 0)]), (AV.int 12)]) r)))))) ∧
  ((isF (AV.bin Go.BinOp.lss x1 (AV.prj r513 0))) →
    ((AV.binOk Go.BinOp.gtr x1 (AV.prj r513 1)) ∧
    ((AV.isBool (AV.bin Go.BinOp.lss x1 (AV.prj r513 0))) ∧
    ((isF (AV.bin Go.BinOp.lss x1 (AV.prj r513 0))) ∧
    ((AV.isBool (AV.bin Go.BinOp.gtr x1 (AV.prj r513 1))) ∧
    (((isT (AV.bin Go.BinOp.gtr x1 (AV.prj r513 1))) →
      ((AV.flat (AV.agg [(AV.int 0), (AV.int 0), (AV.int 0), (AV.int 0), (AV.int 0), (AV.int 0)])) ∧
      ((AV.flat (AV.int 12)) ∧
      (fSame (AV.tup [(AV.agg [(AV.int 0), (AV.int 0), (AV.int 0), (AV.int 0), (AV.int 0), (AV.int 0)]), (AV.int 12)]) r)))) ∧
    ((isF (AV.bin Go.BinOp.gtr x1 (AV.prj r513 1))) →
      (∃ r1537 : AV, ((Fn Try.prog 37 [x0, x1] Sh.sc r1537) ∧
      ((AV.isAgg r1537 6) ∧
      ((AV.flat (AV.agg [(AV.cel r1537 0), (AV.cel r1537 1), (AV.cel r1537 2), (AV.cel r1537 3), (AV.cel r1537 4), (AV.cel r1537 5)])) ∧
      ((AV.flat (AV.int 0)) ∧
      (fSame (AV.tup [(AV.agg [(AV.cel r1537 0), (AV.cel r1537 1), (AV.cel r1537 2), (AV.cel r1537 3), (AV.cel r1537 4), (AV.cel r1537 5)]), (AV.int 0)]) r))))))))))))))))))))))))) := by kernel_rfl
end SecF
end Go.Proofs.Ytaomlgfamnfcjaa
/- planes and segments. -/
namespace Go.Proofs.Ytaomlgfamnfcjaa
open Go.RowKit
set_option linter.unusedVariables false
set_option linter.unusedSimpArgs false
set_option maxRecDepth 100000
structure Pt where
  x : Int
  y : Int
  deriving DecidableEq, Inhabited
def encP (p : Pt) : List AV := [.int p.x, .int p.y]
abbrev pt (p : Pt) : AV := .agg (encP p)
abbrev pts (l : List Pt) : AV := lst 2 encP l
def wr (n : Int) : Int := IntKind.i64.wrap n
@[simp] theorem wr_eq (n : Int) : IntKind.i64.wrap n = wr n := rfl
theorem wr_id {n : Int} (h1 : -9223372036854775808 ≤ n) (h2 : n ≤ 9223372036854775807) : wr n = n := wrap64 h1 h2
def subP (a b : Pt) : Pt := ⟨wr (a.x - b.x), wr (a.y - b.y)⟩
def dotP (a b : Pt) : Int := wr (wr (a.x * b.x) + wr (a.y * b.y))
def crossP (a b : Pt) : Int := wr (wr (a.x * b.y) - wr (a.y * b.x))
def turnP (a b c : Pt) : Int := if 0 < crossP (subP b a) (subP c a) then 1 else if crossP (subP b a) (subP c a) < 0 then -1 else 0
def sqrP (a b : Pt) : Int := dotP (subP a b) (subP a b)
def pE (p : Pt) : Int := if p.x < -1000000 ∨ p.x > 1000000 ∨ p.y < -1000000 ∨ p.y > 1000000 then 4 else 0
theorem pE_ok {p : Pt} (h : pE p = 0) : -1000000 ≤ p.x ∧ p.x ≤ 1000000 ∧ -1000000 ≤ p.y ∧ p.y ≤ 1000000 := by
  unfold pE at h
  split at h
  · cases h
  · omega
theorem pe_fn (p : Pt) : Fn Try.prog 27 [pt p] .sc (.int (pE p)) := by
  refine fn_run mixed 3 (Γ := SecF.Γ) (ann := SecF.ann) Try.func27 rfl Try.call27 ((SecF.pcheck_form _ _).mpr ?_)
  obtain ⟨x, y⟩ := p
  simp [encP]
  have h4 : (x < -1000000 ∨ x > 1000000 ∨ y < -1000000 ∨ y > 1000000) → 4 = pE ⟨x, y⟩ := fun h => by unfold pE; rw [if_pos h]
  have h0 : ¬ (x < -1000000 ∨ x > 1000000 ∨ y < -1000000 ∨ y > 1000000) → 0 = pE ⟨x, y⟩ := fun h => by unfold pE; rw [if_neg h]
  refine ⟨fun a => ⟨a, h4 (by omega)⟩, fun a => ⟨a, fun b => ⟨b, h4 (by omega)⟩, fun b => ⟨b, fun c => ⟨c, h4 (by omega)⟩, fun c => ⟨c, fun d => h4 (by omega), fun d => h0 (by omega)⟩⟩⟩⟩
theorem sub_fn (a b : Pt) : Fn Try.prog 46 [pt a, pt b] .sc (pt (subP a b)) := by
  refine fn_run mixed 3 (Γ := SecF.Γ) (ann := SecF.ann) Try.func46 rfl Try.call46 ((SecF.sub_form _ _ _).mpr ?_)
  simp [encP, subP]
theorem dot_fn (a b : Pt) : Fn Try.prog 47 [pt a, pt b] .sc (.int (dotP a b)) := by
  refine fn_run mixed 3 (Γ := SecF.Γ) (ann := SecF.ann) Try.func47 rfl Try.call47 ((SecF.dot_form _ _ _).mpr ?_)
  simp [encP, dotP]
theorem sqr_fn (a b : Pt) : Fn Try.prog 44 [pt a, pt b] .sc (.int (sqrP a b)) := by
  refine fn_run mixed 3 (Γ := SecF.Γ) (ann := SecF.ann) Try.func44 rfl Try.call44 ((SecF.square_form _ _ _).mpr ?_)
  refine ⟨by simp [encP], by simp [encP], _, sub_fn a b, by simp [encP], _, dot_fn _ _, ?_⟩
  simp [sqrP]
def nextP (l : List Pt) (i : Nat) : Pt := l.getD ((i + 1) % l.length) default
def mnI (a b : Int) : Int := if b < a then b else a
def mxI (a b : Int) : Int := if a < b then b else a
def betw (a b c : Pt) : Bool := decide (mnI a.x b.x ≤ c.x) && decide (c.x ≤ mxI a.x b.x) && decide (mnI a.y b.y ≤ c.y) && decide (c.y ≤ mxI a.y b.y)
def onS (a b c : Pt) : Bool := decide (turnP a b c = 0) && betw a b c
def crs (a b c d : Pt) : Bool := decide (wr (turnP a b c * turnP a b d) < 0) && decide (wr (turnP c d a * turnP c d b) < 0)
def comS (a b c d : Pt) : Bool := crs a b c d || onS a b c || onS a b d || onS c d a || onS c d b
end Go.Proofs.Ytaomlgfamnfcjaa
/- tubes: quotients, points on the way, what is checked. -/
namespace Go.Proofs.Ytaomlgfamnfcjaa
open Go.RowKit
set_option linter.unusedVariables false
set_option linter.unusedSimpArgs false
set_option maxRecDepth 100000
theorem quo_of (a b : Int) (hb : 0 < b) : (¬ a.tmod b = 0 → a < 0 → a.tdiv b - 1 = a / b) ∧ (¬ (¬ a.tmod b = 0 ∧ a < 0) → a.tdiv b = a / b) := by
  have h1 := Int.tdiv_eq_ediv (a := a) (b := b)
  have h2 := Int.tmod_eq_emod (a := a) (b := b)
  have h3 : b.sign = 1 := Int.sign_eq_one_of_pos hb
  have h4 : (b ∣ a) ↔ a % b = 0 := Int.dvd_iff_emod_eq_zero
  by_cases h : 0 ≤ a ∨ b ∣ a
  · rw [if_pos h] at h1 h2
    refine ⟨fun q1 q2 => ?_, fun _ => by omega⟩
    rcases h with h | h
    · omega
    · have := h4.1 h; omega
  · rw [if_neg h, h3] at h1
    rw [if_neg h] at h2
    have h5 : ¬ 0 ≤ a := fun q => h (.inl q)
    have h6 : ¬ b ∣ a := fun q => h (.inr q)
    have h7 : ¬ a % b = 0 := fun q => h6 (h4.2 q)
    have h8 : ¬ a.tmod b = 0 := by
      have l1 := Int.emod_nonneg a (show b ≠ 0 by omega)
      have l2 := Int.emod_lt_of_pos a hb
      omega
    exact ⟨fun _ _ => by omega, fun q => absurd ⟨h8, by omega⟩ q⟩
theorem quo_bd {a b : Int} (hb : 0 < b) (h1 : -1000000000000 ≤ a) (h2 : a ≤ 1000000000000) : -1000000000000 ≤ a / b ∧ a / b ≤ 1000000000000 ∧ -1000000000000 ≤ a.tdiv b ∧ a.tdiv b ≤ 1000000000000 := by
  have e1 : a / b ≤ 1000000000000 := by
    rcases Int.lt_or_le a 0 with h | h
    · have := Int.ediv_neg_of_neg_of_pos h hb; omega
    · have := Int.ediv_le_self b h; omega
  have e2 : -1000000000000 ≤ a / b := by
    refine (Int.le_ediv_iff_mul_le hb).2 ?_
    have := Int.mul_le_mul_of_nonneg_left (show (1 : Int) ≤ b by omega) (show (0 : Int) ≤ 1000000000000 by omega)
    omega
  obtain ⟨q1, q2⟩ := quo_of a b hb
  refine ⟨e2, e1, ?_, ?_⟩
  · by_cases h : ¬ a.tmod b = 0 ∧ a < 0
    · have := q1 h.1 h.2; omega
    · have := q2 h; omega
  · have h3 := Int.tdiv_eq_ediv (a := a) (b := b)
    have h4 : b.sign = 1 := Int.sign_eq_one_of_pos hb
    rcases Int.lt_or_le a 0 with h | h
    · have := Int.ediv_neg_of_neg_of_pos h hb
      split at h3 <;> omega
    · rw [if_pos (.inl h)] at h3; omega
theorem divd_fn (a b : Int) (hb : 0 < b) (h1 : -1000000000000 ≤ a) (h2 : a ≤ 1000000000000) : Fn Try.prog 42 [.int a, .int b] (.tup [.sc, .sc]) (.tup [.int (a / b), .int 0]) := by
  refine fn_run mixed 3 (Γ := SecF.Γ) (ann := SecF.ann) Try.func42 rfl Try.call42 ((SecF.divd_form _ _ _).mpr ?_)
  obtain ⟨q1, q2⟩ := quo_of a b hb
  obtain ⟨b1, b2, b3, b4⟩ := quo_bd hb h1 h2
  have hw : wr (a.tdiv b) = a.tdiv b := wr_id (by omega) (by omega)
  have hw2 : wr (a.tdiv b - 1) = a.tdiv b - 1 := wr_id (by omega) (by omega)
  have hm : (a == -9223372036854775808) = false := by simp; omega
  have hb0 : (b == 0) = false := by simp; omega
  have hlt : decide (b < 0) = false := by simp; omega
  simp [hb0, hm, hw, hw2, hlt, show ¬ b = 0 by omega]
  generalize a.tmod b = m at *
  generalize a.tdiv b = q at *
  refine ⟨fun h => ⟨h, fun h2 => q1 h h2, fun h2 => q2 (by omega)⟩, fun h => ⟨h, q2 (by omega)⟩⟩
def dvu (a b : Int) : Int := if a.tmod b = 0 then a / b else a / b + 1
theorem dvu_bd {a b : Int} (hb : 0 < b) (h1 : -1000000000000 ≤ a) (h2 : a ≤ 1000000000000) : -1000000000001 ≤ dvu a b ∧ dvu a b ≤ 1000000000001 := by
  obtain ⟨b1, b2, _, _⟩ := quo_bd hb h1 h2
  unfold dvu
  split <;> omega
theorem divu_fn (a b : Int) (hb : 0 < b) (h1 : -1000000000000 ≤ a) (h2 : a ≤ 1000000000000) : Fn Try.prog 43 [.int a, .int b] (.tup [.sc, .sc]) (.tup [.int (dvu a b), .int 0]) := by
  refine fn_run mixed 3 (Γ := SecF.Γ) (ann := SecF.ann) Try.func43 rfl Try.call43 ((SecF.divu_form _ _ _).mpr ?_)
  refine ⟨_, divd_fn a b hb h1 h2, ?_⟩
  obtain ⟨b1, b2, _, _⟩ := quo_bd hb h1 h2
  have hw : wr (a / b + 1) = a / b + 1 := wr_id (by omega) (by omega)
  have u1 : ¬ a.tmod b = 0 → a / b + 1 = dvu a b := fun h => by unfold dvu; rw [if_neg h]
  have u2 : a.tmod b = 0 → a / b = dvu a b := fun h => by unfold dvu; rw [if_pos h]
  simp [hw, show ¬ b = 0 by omega]
  exact ⟨u1, u2⟩
theorem mulb {p n : Int} (h1 : -2000000 ≤ p) (h2 : p ≤ 2000000) (h3 : 0 ≤ n) (h4 : n ≤ 200000) : -400000000000 ≤ p * n ∧ p * n ≤ 400000000000 := by
  have e1 := Int.mul_le_mul_of_nonneg_right h2 h3
  have e2 := Int.mul_le_mul_of_nonneg_right h1 h3
  omega
/-- A point on the way lies between the ends. -/
theorem way {p n d : Int} (hd : 0 < d) (h0 : 0 ≤ n) (h1 : n ≤ d) : (0 ≤ p → 0 ≤ p * n / d ∧ p * n / d ≤ p) ∧ (p ≤ 0 → p ≤ p * n / d ∧ p * n / d ≤ 0) := by
  have hc := Int.mul_ediv_cancel p (show d ≠ 0 by omega)
  refine ⟨fun hp => ⟨Int.ediv_nonneg (Int.mul_nonneg hp h0) (by omega), ?_⟩, fun hp => ⟨?_, ?_⟩⟩
  · have := Int.ediv_le_ediv hd (Int.mul_le_mul_of_nonneg_left h1 hp)
    omega
  · have h2 : p * d ≤ p * n := Int.mul_le_mul_of_nonpos_left hp h1
    have := Int.ediv_le_ediv hd h2
    omega
  · have h2 : p * n ≤ p * 0 := Int.mul_le_mul_of_nonpos_left hp h0
    have := Int.ediv_le_ediv hd h2
    simpa using this
def towP (a b : Pt) (n d : Int) : Pt := ⟨a.x + (b.x - a.x) * n / d, a.y + (b.y - a.y) * n / d⟩
theorem tow_ok {a b : Pt} {n d : Int} (ha : pE a = 0) (hb : pE b = 0) (hd : 0 < d) (h0 : 0 ≤ n) (h1 : n ≤ d) : pE (towP a b n d) = 0 := by
  obtain ⟨a1, a2, a3, a4⟩ := pE_ok ha
  obtain ⟨b1, b2, b3, b4⟩ := pE_ok hb
  obtain ⟨x1, x2⟩ := way (p := b.x - a.x) hd h0 h1
  obtain ⟨y1, y2⟩ := way (p := b.y - a.y) hd h0 h1
  unfold pE towP
  rw [if_neg]
  simp only
  omega
theorem toward_fn (a b : Pt) (n d : Int) (ha : pE a = 0) (hb : pE b = 0) (hd : 0 < d) (hd2 : d ≤ 200000) (h0 : 0 ≤ n) (h1 : n ≤ d) : Fn Try.prog 41 [pt a, pt b, .int n, .int d] (.tup [.sc, .sc]) (.tup [pt (towP a b n d), .int 0]) := by
  refine fn_run mixed 3 (Γ := SecF.Γ) (ann := SecF.ann) Try.func41 rfl Try.call41 ((SecF.toward_form _ _ _ _ _).mpr ?_)
  have pa := pe_fn a
  have pb := pe_fn b
  have ht := pE_ok (tow_ok ha hb hd h0 h1)
  rw [ha] at pa
  rw [hb] at pb
  obtain ⟨a1, a2, a3, a4⟩ := pE_ok ha
  obtain ⟨b1, b2, b3, b4⟩ := pE_ok hb
  obtain ⟨ax, ay⟩ := a; obtain ⟨bx, b_⟩ := b
  simp only at a1 a2 a3 a4 b1 b2 b3 b4
  have mx := mulb (p := bx - ax) (n := n) (by omega) (by omega) h0 (by omega)
  have my := mulb (p := b_ - ay) (n := n) (by omega) (by omega) h0 (by omega)
  have w1 : wr (bx - ax) = bx - ax := wr_id (by omega) (by omega)
  have w2 : wr (b_ - ay) = b_ - ay := wr_id (by omega) (by omega)
  have w3 : wr ((bx - ax) * n) = (bx - ax) * n := wr_id (by omega) (by omega)
  have w4 : wr ((b_ - ay) * n) = (b_ - ay) * n := wr_id (by omega) (by omega)
  have d1 := divd_fn ((bx - ax) * n) d hd (by omega) (by omega)
  have d2 := divd_fn ((b_ - ay) * n) d hd (by omega) (by omega)
  have w5 : wr (ax + (bx - ax) * n / d) = ax + (bx - ax) * n / d := wr_id (by simp only [towP] at ht; omega) (by simp only [towP] at ht; omega)
  have w6 : wr (ay + (b_ - ay) * n / d) = ay + (b_ - ay) * n / d := wr_id (by simp only [towP] at ht; omega) (by simp only [towP] at ht; omega)
  refine ⟨by simp [encP], by simp [encP], ?_⟩
  simp [show ¬ d ≤ 0 by omega, show ¬ 200000 < d by omega, show ¬ n < 0 by omega, show ¬ d < n by omega]
  refine ⟨_, pa, ?_⟩
  simp
  refine ⟨_, pb, ?_⟩
  simp [encP, w1, w2, w3, w4]
  refine ⟨_, d1, _, d2, ?_⟩
  simp [w5, w6, towP]
structure Nd where
  t : Int
  x : Int
  y : Int
  h : Int
  r : Int
  b : Int
  deriving DecidableEq, Inhabited
def Nd.p (n : Nd) : Pt := ⟨n.x, n.y⟩
def encN (n : Nd) : List AV := [.int n.t, .int n.x, .int n.y, .int n.h, .int n.r, .int n.b]
abbrev nd (n : Nd) : AV := .agg (encN n)
abbrev tube (l : List Nd) : AV := lst 6 encN l
theorem flat_tube (l : List Nd) : (tube l).flatS := lst_flatS fun x _ z hz => by
  simp [encN] at hz; rcases hz with rfl | rfl | rfl | rfl | rfl | rfl <;> exact .lit _
/-- The error of a node behind one of time p. -/
def nE (p : Int) (n : Nd) : Int := if n.t < 0 ∨ n.t > 200000 ∨ n.t ≤ p then 12 else if pE n.p ≠ 0 then pE n.p else if n.h < 0 ∨ n.h > 60000 ∨ n.r < 0 ∨ n.r > 1000000 ∨ n.b < 0 ∨ n.b > 60000 then 4 else 0
theorem nE_ok {p : Int} {n : Nd} (h : nE p n = 0) : 0 ≤ n.t ∧ n.t ≤ 200000 ∧ p < n.t ∧ pE n.p = 0 ∧ 0 ≤ n.h ∧ n.h ≤ 60000 ∧ 0 ≤ n.r ∧ n.r ≤ 1000000 ∧ 0 ≤ n.b ∧ n.b ≤ 60000 := by
  unfold nE at h
  split at h
  · cases h
  · split at h
    · rename_i q; exact absurd h q
    · rename_i q
      split at h
      · cases h
      · exact ⟨by omega, by omega, by omega, by simpa using q, by omega, by omega, by omega, by omega, by omega, by omega⟩
def tG : Int → List Nd → Int
  | _, [] => 0
  | p, n :: r => if nE p n ≠ 0 then nE p n else tG n.t r
def tE (l : List Nd) : Int := if l.length > 64 then 2 else if l.length = 0 then 3 else tG (-1) l
theorem tcheck_fn (l : List Nd) : Fn Try.prog 19 [tube l] .sc (.int (tE l)) := by
  have e := SecF.tcheck_form (tube l) (.int (tE l))
  have k := fun h => fn_run mixed 3 (Γ := SecF.Γ) (ann := SecF.ann) Try.func19 rfl Try.call19 (e.mpr h)
  refine k ?_
  clear k e
  simp
  refine ⟨fun h => by unfold tE; rw [if_pos (by omega)], fun h64 => ⟨fun h => by unfold tE; rw [if_neg (by omega), if_pos (by simp [h])], fun h0 => ?_⟩⟩
  have hE : tE l = tG (-1) l := by
    unfold tE
    rw [if_neg (by omega), if_neg (by simpa using h0)]
  have hl64 : l.length ≤ 64 := by omega
  generalize tE l = E at hE ⊢
  refine loop_list (σ := Int) l (fun n _ => [.int (n : Nat)]) (fun n rest p => E = tG p rest ∧ ((n = 0 ∧ p = -1) ∨ ∃ y, 0 < n ∧ l[n - 1]? = some y ∧ y.t = p ∧ 0 ≤ p)) (-1) rfl ⟨hE, .inl ⟨rfl, rfl⟩⟩ ?_ ?_
  · rintro n x rest p K hx hr hn ⟨hg, hp⟩ hK
    have hw : wr ((n : Int) + 1) = (n : Int) + 1 := wr_id (by omega) (by omega)
    have hw1 : wr ((n : Int) - 1) = (n : Int) - 1 := wr_id (by omega) (by omega)
    rw [tG] at hg
    have g1 : nE p x ≠ 0 → nE p x = E := fun h => by rw [hg, if_pos h]
    have g2 : nE p x = 0 → K [.int ((n : Nat) + 1)] := fun h => hK _ x.t (by simp) ⟨by rw [hg, if_neg (by simp [h])], .inr ⟨x, by omega, by simpa using hx, rfl, (nE_ok h).1⟩⟩
    clear hg hK
    obtain ⟨xt, xx, xy, xh, xr, xb⟩ := x
    have f1 : (xt < 0 ∨ xt > 200000 ∨ xt ≤ p) → 12 = E := fun h => by
      have : nE p ⟨xt, xx, xy, xh, xr, xb⟩ = 12 := by unfold nE; rw [if_pos h]
      rw [this] at g1; exact g1 (by decide)
    have f2 : ¬ (xt < 0 ∨ xt > 200000 ∨ xt ≤ p) → pE ⟨xx, xy⟩ ≠ 0 → pE ⟨xx, xy⟩ = E := fun h h2 => by
      have : nE p ⟨xt, xx, xy, xh, xr, xb⟩ = pE ⟨xx, xy⟩ := by unfold nE; rw [if_neg h]; exact if_pos h2
      rw [this] at g1; exact g1 h2
    have f3 : ¬ (xt < 0 ∨ xt > 200000 ∨ xt ≤ p) → pE ⟨xx, xy⟩ = 0 → (xh < 0 ∨ xh > 60000 ∨ xr < 0 ∨ xr > 1000000 ∨ xb < 0 ∨ xb > 60000) → 4 = E := fun h h2 h3 => by
      have : nE p ⟨xt, xx, xy, xh, xr, xb⟩ = 4 := by unfold nE; rw [if_neg h, if_neg (by simp [Nd.p, h2]), if_pos h3]
      rw [this] at g1; exact g1 (by decide)
    have f4 : ¬ (xt < 0 ∨ xt > 200000 ∨ xt ≤ p) → pE ⟨xx, xy⟩ = 0 → ¬ (xh < 0 ∨ xh > 60000 ∨ xr < 0 ∨ xr > 1000000 ∨ xb < 0 ∨ xb > 60000) → K [.int ((n : Nat) + 1)] := fun h h2 h3 => g2 (by unfold nE; rw [if_neg h, if_neg (by simp [Nd.p, h2]), if_neg h3])
    clear g1 g2
    have hpe := pe_fn ⟨xx, xy⟩
    generalize pE ⟨xx, xy⟩ = e at *
    have tail : ¬ (xt < 0 ∨ xt > 200000 ∨ xt ≤ p) → (e = 0 → xh < 0 → 4 = E) ∧ (e = 0 → 60000 < xh → 4 = E) ∧ (e = 0 → xr < 0 → 4 = E) ∧ (e = 0 → 1000000 < xr → 4 = E) ∧ (e = 0 → xb < 0 → 4 = E) ∧ (e = 0 → 60000 < xb → 4 = E) ∧ (e = 0 → 0 ≤ xh → xh ≤ 60000 → 0 ≤ xr → xr ≤ 1000000 → 0 ≤ xb → xb ≤ 60000 → K [.int ((n : Nat) + 1)]) := fun h =>
      ⟨fun a b => f3 h a (by omega), fun a b => f3 h a (by omega), fun a b => f3 h a (by omega), fun a b => f3 h a (by omega), fun a b => f3 h a (by omega), fun a b => f3 h a (by omega), fun a b c d f g i => f4 h a (by omega)⟩
    simp [hn, lst_atAgg hx, encN, hw, hw1]
    refine ⟨fun a => ⟨a, f1 (by omega)⟩, fun a => ⟨a, fun b => ⟨b, f1 (by omega)⟩, fun b => ⟨?_, ?_⟩⟩⟩
    · intro hn0
      rcases hp with ⟨hp1, _⟩ | ⟨y, hp1, hp2, hp3, hp4⟩
      · omega
      · have hat : AV.at (tube l) (.lit (.int .i64 ((n : Int) - 1))) 0 = .int p := by
          have h1 : ((n : Int) - 1).toNat = n - 1 := by omega
          rw [lst_atI (by omega) (by rw [h1]; exact hp2)]
          simp [encN, hp3]
        have hin : (0 : Int) ≤ (n : Int) - 1 ∧ (n : Int) - 1 < l.length := ⟨by omega, by omega⟩
        simp only [hat]
        refine ⟨by omega, by simp, hn0, b, by simp, fun q => ?_, fun q => ?_⟩
        · have : xt ≤ p := by simpa using q
          exact f1 (by omega)
        have hq : p < xt := by simpa using q
        obtain ⟨t1, t2, t3, t4, t5, t6, t7⟩ := tail (by omega)
        refine ⟨_, hpe, ?_⟩
        simp
        exact ⟨fun z => f2 (by omega) z, fun z => ⟨fun a => ⟨a, t1 z a⟩, fun a1 => ⟨a1, fun a => ⟨a, t2 z a⟩, fun a2 => ⟨a2, fun a => ⟨a, t3 z a⟩, fun a3 => ⟨a3, fun a => ⟨a, t4 z a⟩, fun a4 => ⟨a4, fun a => ⟨a, t5 z a⟩, fun a5 => ⟨a5, fun a => t6 z a, fun a6 => t7 z a1 a2 a3 a4 a5 a6⟩⟩⟩⟩⟩⟩⟩
    · intro hn0
      refine ⟨hn0, b, ?_⟩
      have hp1 : p = -1 := by
        rcases hp with ⟨_, h⟩ | ⟨y, h, _⟩
        · exact h
        · omega
      obtain ⟨t1, t2, t3, t4, t5, t6, t7⟩ := tail (by omega)
      refine ⟨_, hpe, ?_⟩
      simp
      exact ⟨fun z => f2 (by omega) z, fun z => ⟨fun a => ⟨a, t1 z a⟩, fun a1 => ⟨a1, fun a => ⟨a, t2 z a⟩, fun a2 => ⟨a2, fun a => ⟨a, t3 z a⟩, fun a3 => ⟨a3, fun a => ⟨a, t4 z a⟩, fun a4 => ⟨a4, fun a => ⟨a, t5 z a⟩, fun a5 => ⟨a5, fun a => t6 z a, fun a6 => t7 z a1 a2 a3 a4 a5 a6⟩⟩⟩⟩⟩⟩⟩
  · rintro _ K ⟨hg, _⟩
    rw [tG] at hg
    simp [hg]
theorem ends_fn (l : List Nd) (a b : Nd) (h0 : l[0]? = some a) (h1 : l[l.length - 1]? = some b) (hl : l.length ≤ 1000) : Fn Try.prog 36 [tube l] (.tup [.sc, .sc]) (.tup [.int a.t, .int b.t]) := by
  refine fn_run mixed 3 (Γ := SecF.Γ) (ann := SecF.ann) Try.func36 rfl Try.call36 ((SecF.ends_form _ _).mpr ?_)
  have hpos : 0 < l.length := (List.getElem?_eq_some_iff.1 h0).1
  have hw1 : wr ((l.length : Int) - 1) = (l.length : Int) - 1 := wr_id (by omega) (by omega)
  have e0 : AV.at (tube l) (.lit (.int .i64 0)) 0 = .int a.t := by
    rw [lst_atI (by omega) (by simpa using h0)]; simp [encN]
  have e1 : AV.at (tube l) (.lit (.int .i64 ((l.length : Int) - 1))) 0 = .int b.t := by
    have q : ((l.length : Int) - 1).toNat = l.length - 1 := by omega
    rw [lst_atI (by omega) (by rw [q]; exact h1)]; simp [encN]
  simp [hw1, e0, e1]
  omega
end Go.Proofs.Ytaomlgfamnfcjaa
/- tubes: the node at a time. -/
namespace Go.Proofs.Ytaomlgfamnfcjaa
open Go.RowKit
set_option linter.unusedVariables false
set_option linter.unusedSimpArgs false
set_option maxRecDepth 100000
/-- The nodes ahead of a time. -/
def ixF (t : Int) : List Nd → Nat
  | [] => 0
  | n :: r => if n.t < t then ixF t r + 1 else 0
theorem ixF_is {t : Int} : ∀ {l : List Nd} {k : Nat}, k ≤ l.length → (∀ j x, j < k → l[j]? = some x → x.t < t) → (∀ x, l[k]? = some x → ¬ x.t < t) → ixF t l = k
  | [], k, h, _, _ => by simp at h; simp [ixF, h]
  | n :: r, k, h, h1, h2 => by
    rw [ixF]
    cases k with
    | zero => rw [if_neg (h2 n rfl)]
    | succ k =>
      rw [if_pos (h1 0 n (by omega) rfl), ixF_is (k := k) (by simpa using h) (fun j x hj hx => h1 (j + 1) x (by omega) (by simpa using hx)) (fun x hx => h2 x (by simpa using hx))]
def okN (x : Nd) : Prop := 0 ≤ x.t ∧ x.t ≤ 200000 ∧ pE x.p = 0 ∧ 0 ≤ x.h ∧ x.h ≤ 60000 ∧ 0 ≤ x.r ∧ x.r ≤ 1000000 ∧ 0 ≤ x.b ∧ x.b ≤ 60000
/-- Valid nodes: each behind the one ahead. -/
theorem tG_get : ∀ {l : List Nd} {p : Int}, tG p l = 0 → ∀ {j : Nat} {x : Nd}, l[j]? = some x → p < x.t ∧ okN x ∧ ∀ k y, j < k → l[k]? = some y → x.t < y.t
  | [], p, _, j, x, hx => by simp at hx
  | n :: r, p, h, j, x, hx => by
    rw [tG] at h
    split at h
    · rename_i q; exact absurd h q
    · rename_i q
      have q : nE p n = 0 := by simpa using q
      have qo := nE_ok q
      cases j with
      | zero =>
        simp at hx
        subst hx
        refine ⟨qo.2.2.1, ⟨qo.1, qo.2.1, qo.2.2.2.1, qo.2.2.2.2.1, qo.2.2.2.2.2.1, qo.2.2.2.2.2.2.1, qo.2.2.2.2.2.2.2.1, qo.2.2.2.2.2.2.2.2.1, qo.2.2.2.2.2.2.2.2.2⟩, fun k y hk hy => ?_⟩
        obtain ⟨k, rfl⟩ : ∃ k', k = k' + 1 := ⟨k - 1, by omega⟩
        exact (tG_get h (j := k) (by simpa using hy)).1
      | succ j =>
        have ih := tG_get h (j := j) (by simpa using hx)
        refine ⟨by have := ih.1; omega, ih.2.1, fun k y hk hy => ?_⟩
        obtain ⟨k, rfl⟩ : ∃ k', k = k' + 1 := ⟨k - 1, by omega⟩
        exact ih.2.2 k y (by omega) (by simpa using hy)
theorem tE_ok {l : List Nd} (h : tE l = 0) : 0 < l.length ∧ l.length ≤ 64 ∧ tG (-1) l = 0 := by
  unfold tE at h
  split at h
  · cases h
  · split at h
    · cases h
    · exact ⟨by omega, by omega, h⟩
def interp (a b : Nd) (t : Int) : Nd :=
  ⟨t, (towP a.p b.p (t - a.t) (b.t - a.t)).x, (towP a.p b.p (t - a.t) (b.t - a.t)).y, a.h + (b.h - a.h) * (t - a.t) / (b.t - a.t), a.r + dvu ((b.r - a.r) * (t - a.t)) (b.t - a.t), a.b + dvu ((b.b - a.b) * (t - a.t)) (b.t - a.t)⟩
def atN (l : List Nd) (t : Int) : Nd := if (l.getD (ixF t l) default).t = t then l.getD (ixF t l) default else interp (l.getD (ixF t l - 1) default) (l.getD (ixF t l) default) t
theorem half_u (n : Nat) (h : n ≤ 1000) : AV.shfOk (.lit (.int .u64 (n : Nat))) (.lit (.int .u64 1)) ∧ AV.conv .i64 (AV.shf .shr (.lit (.int .u64 (n : Nat))) (.lit (.int .u64 1))) = .int ((n / 2 : Nat) : Int) ∧ AV.isInt (AV.shf .shr (.lit (.int .u64 (n : Nat))) (.lit (.int .u64 1))) := by
  refine ⟨⟨⟨_, _, rfl⟩, ⟨_, _, rfl⟩, by simp⟩, ?_, ⟨_, _, rfl⟩⟩
  have e : AV.shf .shr (.lit (.int .u64 (n : Nat))) (.lit (.int .u64 1)) = .lit (.int .u64 ((n : Int).fdiv 2)) := by
    show AV.lit (.int .u64 ((n : Int).fdiv (2 ^ 1))) = _
    simp
  rw [e, Int.fdiv_eq_ediv_of_nonneg _ (by omega)]
  show AV.lit (.int .i64 (IntKind.i64.wrap ((n : Int) / 2))) = _
  rw [wrap64 (by omega) (by omega)]
  congr 2
theorem u64_id (n : Nat) (h : n ≤ 1000) : IntKind.u64.wrap (n : Int) = (n : Int) := by
  simp [IntKind.wrap, IntKind.bits, IntKind.signed]; omega
theorem at_fn (l : List Nd) (t : Int) (hv : tE l = 0) (h0 : ∀ x, l[0]? = some x → x.t ≤ t) (h1 : ∀ x, l[l.length - 1]? = some x → t ≤ x.t) : Fn Try.prog 37 [tube l, .int t] .sc (nd (atN l t)) := by
  have e := SecF.at_form (tube l) (.int t) (nd (atN l t))
  have k := fun h => fn_run mixed 3 (Γ := SecF.Γ) (ann := SecF.ann) Try.func37 rfl Try.call37 (e.mpr h)
  refine k ?_
  clear k e
  obtain ⟨hp, h64, hG⟩ := tE_ok hv
  have en1 : Ent Try.prog 40 := Try.call40
  refine ⟨Try.call39, fun _ => ⟨by simp, ?_⟩⟩
  refine loop_of (τ := Nat × Nat) (fun s => [.int (s.1 : Nat), .int (s.2 : Nat)]) (fun s => s.1 ≤ s.2 ∧ s.2 ≤ l.length ∧ (∀ j x, j < s.1 → l[j]? = some x → x.t < t) ∧ ∀ j x, s.2 ≤ j → l[j]? = some x → ¬ x.t < t) (fun s => s.2 - s.1) (0, l.length) (by simp)
    ⟨by omega, Nat.le_refl _, fun j x hj => by simp at hj, fun j x hj hx => by have hj : l.length ≤ j := hj; rw [List.getElem?_eq_none hj] at hx; cases hx⟩ ?_
  rintro ⟨lo, hi⟩ ⟨i1, i2, i3, i4⟩
  simp only at i1 i2 i3 i4
  obtain ⟨S, hS⟩ : ∃ S, S = lo + hi := ⟨_, rfl⟩
  have w1 : wr ((lo : Int) + (hi : Int)) = (S : Int) := by rw [wr_id (by omega) (by omega)]; omega
  have w2 : AV.conv .u64 (.lit (.int .i64 (S : Int))) = .lit (.int .u64 (S : Int)) := by
    show AV.lit (.int .u64 (IntKind.u64.wrap (S : Int))) = _
    rw [u64_id S (by omega)]
  obtain ⟨s1, s2, s3⟩ := half_u S (by omega)
  refine ⟨by simp, by simp, fun hlt => ?_, fun hge => ?_⟩
  · have hlt : lo < hi := by simpa using hlt
    generalize hm : S / 2 = m at s2
    have hmb : lo ≤ m ∧ m < hi := by omega
    obtain ⟨x, hx⟩ : ∃ x, l[m]? = some x := ⟨_, List.getElem?_eq_getElem (by omega)⟩
    have hxo := (tG_get hG hx).2.1
    have g1 : x.t < t → (fun zs : List AV => ∃ m', m' < hi - lo ∧ ∃ y : Nat × Nat, zs = [.int (y.1 : Nat), .int (y.2 : Nat)] ∧ (y.1 ≤ y.2 ∧ y.2 ≤ l.length ∧ (∀ j x, j < y.1 → l[j]? = some x → x.t < t) ∧ ∀ j x, y.2 ≤ j → l[j]? = some x → ¬ x.t < t) ∧ y.2 - y.1 = m') [.int ((m : Nat) + 1), .int (hi : Nat)] := fun q =>
      ⟨_, by omega, (m + 1, hi), by simp, ⟨by simp; omega, i2, fun j y hj hy => ?_, i4⟩, rfl⟩
    have g2 : ¬ x.t < t → (fun zs : List AV => ∃ m', m' < hi - lo ∧ ∃ y : Nat × Nat, zs = [.int (y.1 : Nat), .int (y.2 : Nat)] ∧ (y.1 ≤ y.2 ∧ y.2 ≤ l.length ∧ (∀ j x, j < y.1 → l[j]? = some x → x.t < t) ∧ ∀ j x, y.2 ≤ j → l[j]? = some x → ¬ x.t < t) ∧ y.2 - y.1 = m') [.int (lo : Nat), .int (m : Nat)] := fun q =>
      ⟨_, by omega, (lo, m), by simp, ⟨by simp; omega, by simp; omega, i3, fun j y hj hy => ?_⟩, rfl⟩
    rotate_left
    · have hj : m ≤ j := hj
      rcases Nat.eq_or_lt_of_le hj with q2 | q2
      · subst q2
        rw [hx] at hy; injection hy with hy; rw [← hy]; exact q
      · have := (tG_get hG hx).2.2 j y q2 hy; omega
    · have hj : j < m + 1 := hj
      rcases Nat.lt_or_ge j m with q2 | q2
      · have := (tG_get hG hy).2.2 m x q2 hx; omega
      · obtain rfl : j = m := by omega
        rw [hx] at hy; injection hy with hy; rw [← hy]; exact q
    obtain ⟨q1, q2, _⟩ := hxo
    obtain ⟨x0, hx0⟩ : ∃ x0, l[0]? = some x0 := ⟨_, List.getElem?_eq_getElem (by omega)⟩
    have t0 : 0 ≤ t := by have := h0 x0 hx0; have := (tG_get hG hx0).2.1.1; omega
    obtain ⟨x1, hx1⟩ : ∃ x1, l[l.length - 1]? = some x1 := ⟨_, List.getElem?_eq_getElem (by omega)⟩
    have t1 : t ≤ 200000 := by have := h1 x1 hx1; have := (tG_get hG hx1).2.1.2.1; omega
    have wd : wr (x.t - t) = x.t - t := wr_id (by omega) (by omega)
    have wm : wr ((m : Int) + 1) = (m : Int) + 1 := wr_id (by omega) (by omega)
    generalize hKK : (fun zs : List AV => ∃ m', m' < hi - lo ∧ ∃ y : Nat × Nat, zs = [.int (y.1 : Nat), .int (y.2 : Nat)] ∧ (y.1 ≤ y.2 ∧ y.2 ≤ l.length ∧ (∀ j x, j < y.1 → l[j]? = some x → x.t < t) ∧ ∀ j x, y.2 ≤ j → l[j]? = some x → ¬ x.t < t) ∧ y.2 - y.1 = m') = KK at *
    clear hKK i3 i4 h0 h1
    obtain ⟨xt, xx, xy, xh, xr, xb⟩ := x
    simp [w1, w2, s1, s2, s3, lst_atAgg hx, encN, wd, wm, en1, show m < l.length by omega]
    exact ⟨fun q => g1 (by show xt < t; omega), fun q => g2 (by show ¬ xt < t; omega)⟩
  · have hge : hi ≤ lo := by simpa using hge
    obtain rfl : hi = lo := by omega
    have hlo : hi < l.length := by
      refine Nat.lt_of_le_of_ne i2 fun q => ?_
      obtain ⟨z, hz⟩ : ∃ z, l[l.length - 1]? = some z := ⟨_, List.getElem?_eq_getElem (by omega)⟩
      have := h1 z hz
      have := i3 (l.length - 1) z (by omega) hz
      omega
    have hix : ixF t l = hi := ixF_is i2 i3 (fun x hx => i4 hi x (Nat.le_refl _) hx)
    obtain ⟨b, hb⟩ : ∃ b, l[hi]? = some b := ⟨_, List.getElem?_eq_getElem hlo⟩
    have hbd : l.getD (ixF t l) default = b := by rw [hix, List.getD_eq_getElem?_getD, hb]; rfl
    have hbo := (tG_get hG hb).2.1
    have hbt := i4 hi b (Nat.le_refl _) hb
    have hat : atN l t = if b.t = t then b else interp (l.getD (hi - 1) default) b t := by unfold atN; rw [hbd, hix]
    obtain ⟨x0, hx0⟩ : ∃ x0, l[0]? = some x0 := ⟨_, List.getElem?_eq_getElem (by omega)⟩
    have t0 : 0 ≤ t := by have := h0 x0 hx0; have := (tG_get hG hx0).2.1.1; omega
    obtain ⟨x1, hx1⟩ : ∃ x1, l[l.length - 1]? = some x1 := ⟨_, List.getElem?_eq_getElem (by omega)⟩
    have t1 : t ≤ 200000 := by have := h1 x1 hx1; have := (tG_get hG hx1).2.1.2.1; omega
    have e1 : b.t = t → nd (atN l t) = nd b := fun q => by rw [hat, if_pos q]
    have e2 : b.t ≠ t → ∃ a, l[hi - 1]? = some a ∧ 0 < hi ∧ okN a ∧ a.t < t ∧ t < b.t ∧ nd (atN l t) = nd (interp a b t) := fun q => by
      have hpos : 0 < hi := by
        refine Nat.pos_of_ne_zero fun z => ?_
        subst z
        have := h0 b hb
        omega
      obtain ⟨a, ha⟩ : ∃ a, l[hi - 1]? = some a := ⟨_, List.getElem?_eq_getElem (by omega)⟩
      have had : l.getD (hi - 1) default = a := by rw [List.getD_eq_getElem?_getD, ha]; rfl
      exact ⟨a, ha, hpos, (tG_get hG ha).2.1, i3 (hi - 1) a (by omega) ha, by omega, by rw [hat, if_neg q, had]⟩
    generalize nd (atN l t) = R at *
    have wd : wr (b.t - t) = b.t - t := by obtain ⟨q1, q2, _⟩ := hbo; exact wr_id (by omega) (by omega)
    clear hat hbd hix i3 i4 h1
    have hbo' := hbo
    obtain ⟨bt, bx, b_, bh, br, bb⟩ := b
    simp only at wd
    by_cases hbt0 : bt = t
    · have hz : bt - t = 0 := by omega
      have hw0 : wr (bt - t) = 0 := by rw [wd, hz]
      simp [hlo, lst_atAgg hb, encN, hw0, en1]
      exact (e1 hbt0).symm
    · obtain ⟨a, ha, hpos, hao, hat1, hat2, hR⟩ := e2 hbt0
      obtain ⟨k, rfl⟩ : ∃ k, hi = k + 1 := ⟨hi - 1, by omega⟩
      have wk : wr (k : Int) = (k : Int) := wr_id (by omega) (by omega)
      have ha : l[k]? = some a := ha
      have hz : ¬ bt - t = 0 := by omega
      have hao' := hao
      obtain ⟨at_, ax, ay, ah, ar, ab⟩ := a
      simp only [okN, Nd.p] at hbo hao hat1 hat2
      obtain ⟨a1, a2, a3, a4, a5, a6, a7, a8, a9⟩ := hao
      obtain ⟨b1, b2, b3, b4, b5, b6, b7, b8, b9⟩ := hbo
      have v1 : wr (t - at_) = t - at_ := wr_id (by omega) (by omega)
      have v2 : wr (bt - at_) = bt - at_ := wr_id (by omega) (by omega)
      have v3 : wr (bh - ah) = bh - ah := wr_id (by omega) (by omega)
      have v4 : wr (br - ar) = br - ar := wr_id (by omega) (by omega)
      have v5 : wr (bb - ab) = bb - ab := wr_id (by omega) (by omega)
      have m1 := mulb (p := bh - ah) (n := t - at_) (by omega) (by omega) (by omega) (by omega)
      have m2 := mulb (p := br - ar) (n := t - at_) (by omega) (by omega) (by omega) (by omega)
      have m3 := mulb (p := bb - ab) (n := t - at_) (by omega) (by omega) (by omega) (by omega)
      have v6 : wr ((bh - ah) * (t - at_)) = (bh - ah) * (t - at_) := wr_id (by omega) (by omega)
      have v7 : wr ((br - ar) * (t - at_)) = (br - ar) * (t - at_) := wr_id (by omega) (by omega)
      have v8 : wr ((bb - ab) * (t - at_)) = (bb - ab) * (t - at_) := wr_id (by omega) (by omega)
      have hd : 0 < bt - at_ := by omega
      have c1 := toward_fn ⟨ax, ay⟩ ⟨bx, b_⟩ (t - at_) (bt - at_) a3 b3 hd (by omega) (by omega) (by omega)
      have c2 := divd_fn ((bh - ah) * (t - at_)) (bt - at_) hd (by omega) (by omega)
      have c3 := divu_fn ((br - ar) * (t - at_)) (bt - at_) hd (by omega) (by omega)
      have c4 := divu_fn ((bb - ab) * (t - at_)) (bt - at_) hd (by omega) (by omega)
      have d2 := quo_bd hd (a := (bh - ah) * (t - at_)) (by omega) (by omega)
      have d3 := dvu_bd hd (a := (br - ar) * (t - at_)) (by omega) (by omega)
      have d4 := dvu_bd hd (a := (bb - ab) * (t - at_)) (by omega) (by omega)
      have v9 : wr (ah + (bh - ah) * (t - at_) / (bt - at_)) = ah + (bh - ah) * (t - at_) / (bt - at_) := wr_id (by omega) (by omega)
      have v10 : wr (ar + dvu ((br - ar) * (t - at_)) (bt - at_)) = ar + dvu ((br - ar) * (t - at_)) (bt - at_) := wr_id (by omega) (by omega)
      have v11 : wr (ab + dvu ((bb - ab) * (t - at_)) (bt - at_)) = ab + dvu ((bb - ab) * (t - at_)) (bt - at_) := wr_id (by omega) (by omega)
      have hlo' : (k : Int) + 1 < l.length := by omega
      have hlo2 : (k : Int) < l.length := by omega
      have hbz : AV.atAgg (tube l) (.lit (.int .i64 ((k : Int) + 1))) 0 6 = .agg [.int bt, .int bx, .int b_, .int bh, .int br, .int bb] := by
        have := lst_atAgg (s := 6) (enc := encN) (k := .i64) (j := 0) (m := 6) hb
        simpa [encN] using this
      rw [hR]
      simp [hlo', hlo2, hbz, lst_atAgg ha, encN, wd, en1, hz, wk, v1, v2]
      refine ⟨by omega, _, c1, ?_⟩
      simp [encP, v3, v6]
      refine ⟨_, c2, ?_⟩
      simp [v4, v7]
      refine ⟨_, c3, ?_⟩
      simp [v5, v8]
      refine ⟨_, c4, ?_⟩
      simp [v9, v10, v11, interp, Nd.p]
def tatE (l : List Nd) (t : Int) : Int := if tE l ≠ 0 then tE l else if t < (l.getD 0 default).t ∨ t > (l.getD (l.length - 1) default).t then 12 else 0
def nd0 : Nd := ⟨0, 0, 0, 0, 0, 0⟩
def tatV (l : List Nd) (t : Int) : AV := if tatE l t = 0 then .tup [nd (atN l t), .int 0] else .tup [nd nd0, .int (tatE l t)]
theorem tat_fn (l : List Nd) (t : Int) : Fn Try.prog 34 [tube l, .int t] (.tup [.sc, .sc]) (tatV l t) := by
  refine fn_run mixed 3 (Γ := SecF.Γ) (ann := SecF.ann) Try.func34 rfl Try.call34 ((SecF.tat_form _ _ _).mpr ?_)
  refine ⟨_, tcheck_fn l, ?_⟩
  have hV1 : tE l ≠ 0 → tatV l t = .tup [nd nd0, .int (tE l)] := fun g => by
    have : tatE l t = tE l := by unfold tatE; rw [if_pos g]
    unfold tatV; rw [this, if_neg g]
  simp
  refine ⟨fun g => (hV1 g).symm, fun g => ?_⟩
  obtain ⟨hp, h64, hG⟩ := tE_ok g
  obtain ⟨a, ha⟩ : ∃ a, l[0]? = some a := ⟨_, List.getElem?_eq_getElem hp⟩
  obtain ⟨b, hb⟩ : ∃ b, l[l.length - 1]? = some b := ⟨_, List.getElem?_eq_getElem (by omega)⟩
  have had : l.getD 0 default = a := by rw [List.getD_eq_getElem?_getD, ha]; rfl
  have hbd : l.getD (l.length - 1) default = b := by rw [List.getD_eq_getElem?_getD, hb]; rfl
  have hV2 : (t < a.t ∨ t > b.t) → tatV l t = .tup [nd nd0, .int 12] := fun q => by
    have : tatE l t = 12 := by unfold tatE; rw [if_neg (by simp [g]), had, hbd, if_pos q]
    unfold tatV; rw [this, if_neg (by decide)]
  have hV3 : ¬ (t < a.t ∨ t > b.t) → tatV l t = .tup [nd (atN l t), .int 0] := fun q => by
    have : tatE l t = 0 := by unfold tatE; rw [if_neg (by simp [g]), had, hbd, if_neg q]
    unfold tatV; rw [if_pos this]
  refine ⟨_, ends_fn l a b ha hb (by omega), ?_⟩
  simp
  refine ⟨fun q => ⟨q, (hV2 (by omega)).symm⟩, fun q => ⟨q, fun q2 => (hV2 (by omega)).symm, fun q2 => ?_⟩⟩
  rw [hV3 (by omega)]
  refine ⟨_, at_fn l t g (fun x hx => by rw [ha] at hx; injection hx with hx; rw [← hx]; exact q) (fun x hx => by rw [hb] at hx; injection hx with hx; rw [← hx]; exact q2), ?_⟩
  simp [encN]
end Go.Proofs.Ytaomlgfamnfcjaa
/- resolve: roots, distances, separations; the intervals without separation. -/
namespace Go.Proofs.Ytaomlgfamnfcjaa
open Go.RowKit
set_option linter.unusedVariables false
set_option linter.unusedSimpArgs false
set_option maxRecDepth 100000
def stT (x : Int) : List Nd := [⟨0, x, 0, 0, 0, 0⟩, ⟨10, x, 0, 0, 0, 0⟩]
theorem still_fn (x : Int) : Fn Try.prog 11 [.int x] (.row 64 6 true) (tube (stT x)) := by
  have e := ResF.still_form (.int x) (tube (stT x))
  have k := fun h => fn_run mixed 3 (Γ := ResF.Γ) (ann := ResF.ann) Try.func11 rfl Try.call11 (e.mpr h)
  refine k ?_
  clear k e
  exact ⟨by simp, flat_tube (stT x), rfl⟩
structure Sp where
  la : Int
  ve : Int
def encSp (s : Sp) : List AV := [.int s.la, .int s.ve]
abbrev sp (s : Sp) : AV := .agg (encSp s)
theorem near_fn : Fn Try.prog 12 [] .sc (sp ⟨100, 1000⟩) := by
  have e := ResF.near_form (sp ⟨100, 1000⟩)
  have k := fun h => fn_run mixed 3 (Γ := ResF.Γ) (ann := ResF.ann) Try.func12 rfl Try.call12 (e.mpr h)
  refine k ?_
  clear k e
  simp [encSp]
def sepE (s : Sp) : Int := if s.la < 0 ∨ s.la > 1000000 ∨ s.ve < 0 ∨ s.ve > 60000 then 4 else 0
theorem csep_fn (s : Sp) : Fn Try.prog 8 [sp s] .sc (.int (sepE s)) := by
  refine fn_run mixed 3 (Γ := ResF.Γ) (ann := ResF.ann) Try.func8 rfl Try.call8 ((ResF.csep_form _ _).mpr ?_)
  obtain ⟨la, ve⟩ := s
  simp [encSp]
  have h4 : (la < 0 ∨ la > 1000000 ∨ ve < 0 ∨ ve > 60000) → 4 = sepE ⟨la, ve⟩ := fun h => by unfold sepE; rw [if_pos h]
  have h0 : ¬ (la < 0 ∨ la > 1000000 ∨ ve < 0 ∨ ve > 60000) → 0 = sepE ⟨la, ve⟩ := fun h => by unfold sepE; rw [if_neg h]
  refine ⟨fun a => ⟨a, h4 (by omega)⟩, fun a => ⟨a, fun b => ⟨b, h4 (by omega)⟩, fun b => ⟨b, fun c => ⟨c, h4 (by omega)⟩, fun c => ⟨c, fun d => h4 (by omega), fun d => h0 (by omega)⟩⟩⟩⟩
def rbin (n : Int) : Nat → Int → Int → Int
  | 0, lo, _ => lo
  | f + 1, lo, hi => if lo < hi then (if (lo + (hi - lo + 1) / 2) * (lo + (hi - lo + 1) / 2) ≤ n then rbin n f (lo + (hi - lo + 1) / 2) hi else rbin n f lo (lo + (hi - lo + 1) / 2 - 1)) else lo
def rootI (n : Int) : Int := if n ≤ 0 then 0 else rbin n 40 0 3037000499
theorem rbin_bd (n : Int) : ∀ (f : Nat) (lo hi : Int), lo ≤ hi → lo ≤ rbin n f lo hi ∧ rbin n f lo hi ≤ hi
  | 0, lo, hi, h => ⟨Int.le_refl _, h⟩
  | f + 1, lo, hi, h => by
    rw [rbin]
    split
    · split
      · have := rbin_bd n f (lo + (hi - lo + 1) / 2) hi (by omega); omega
      · have := rbin_bd n f lo (lo + (hi - lo + 1) / 2 - 1) (by omega); omega
    · omega
theorem rootI_bd (n : Int) : 0 ≤ rootI n ∧ rootI n ≤ 3037000499 := by
  unfold rootI
  split
  · omega
  · exact rbin_bd n 40 0 3037000499 (by omega)
theorem sq_bd {r : Int} (h0 : 0 ≤ r) (h1 : r ≤ 3037000499) : 0 ≤ r * r ∧ r * r ≤ 9223372030926249001 := by
  have a1 := Int.mul_le_mul h1 h1 h0 (by omega)
  have a2 := Int.mul_nonneg h0 h0
  exact ⟨a2, by simpa using a1⟩
theorem root_fn (n : Int) : Fn Try.prog 45 [.int n] .sc (.int (rootI n)) := by
  have e := ResF.root_form (.int n) (.int (rootI n))
  have k := fun h => fn_run mixed 3 (Γ := ResF.Γ) (ann := ResF.ann) Try.func45 rfl Try.call45 (e.mpr h)
  refine k ?_
  clear k e
  refine ⟨by simp, by simp, fun h => ?_, fun h => ?_⟩
  · have h : n ≤ 0 := by simpa using h
    unfold rootI
    rw [if_pos h]
    simp
  · have h : ¬ n ≤ 0 := by simpa using h
    have hR : rootI n = rbin n 40 0 3037000499 := by unfold rootI; rw [if_neg h]
    rw [hR]
    generalize hr : rbin n 40 0 3037000499 = R
    refine loop_of (τ := Int × Int × Nat) (fun s => [.int s.1, .int s.2.1]) (fun s => 0 ≤ s.1 ∧ s.1 ≤ s.2.1 ∧ s.2.1 ≤ 3037000499 ∧ s.2.1 - s.1 < (2 ^ s.2.2 : Nat) ∧ rbin n s.2.2 s.1 s.2.1 = R) (fun s => (s.2.1 - s.1).toNat) (0, 3037000499, 40) rfl ⟨by simp, by simp, by simp, by simp, hr⟩ ?_
    rintro ⟨lo, hi, f⟩ ⟨i1, i2, i3, i4, i5⟩
    simp only at i1 i2 i3 i4 i5
    by_cases hlt : lo < hi
    · obtain ⟨g, rfl⟩ : ∃ g, f = g + 1 := ⟨f - 1, by
        rcases Nat.eq_zero_or_pos f with z | z
        · subst z; simp at i4; omega
        · omega⟩
      rw [Nat.pow_succ] at i4
      generalize hP : 2 ^ g = P at i4
      have hP' : (2 : Int) ^ g = (P : Int) := by rw [← hP]; simp
      rw [rbin, if_pos hlt] at i5
      have e1 : (hi - lo + 1).tdiv 2 = (hi - lo + 1) / 2 := Int.tdiv_eq_ediv_of_nonneg (by omega)
      have w1 : wr (hi - lo) = hi - lo := wr_id (by omega) (by omega)
      have w2 : wr (hi - lo + 1) = hi - lo + 1 := wr_id (by omega) (by omega)
      have w3 : wr ((hi - lo + 1) / 2) = (hi - lo + 1) / 2 := wr_id (by omega) (by omega)
      have w4 : wr (lo + (hi - lo + 1) / 2) = lo + (hi - lo + 1) / 2 := wr_id (by omega) (by omega)
      generalize hm : lo + (hi - lo + 1) / 2 = m at *
      have hmb : lo < m ∧ m ≤ hi ∧ 2 * (hi - m) ≤ hi - lo ∧ 2 * (m - 1 - lo) ≤ hi - lo := by omega
      have hsq := sq_bd (r := m) (by omega) (by omega)
      have w5 : wr (m * m) = m * m := wr_id (by omega) (by omega)
      have w6 : wr (m - 1) = m - 1 := wr_id (by omega) (by omega)
      simp [hlt, w1, w2, w3, hm, w4, w5, w6, e1]
      refine ⟨fun q => ?_, fun q => ?_⟩
      · rw [if_pos q] at i5
        exact ⟨_, by omega, m, hi, ⟨rfl, rfl⟩, ⟨⟨by omega, by omega, i3, g, by rw [hP']; omega, i5⟩, rfl⟩⟩
      · rw [if_neg (by omega)] at i5
        exact ⟨_, by omega, lo, m - 1, ⟨rfl, rfl⟩, ⟨⟨by omega, by omega, by omega, g, by rw [hP']; omega, i5⟩, rfl⟩⟩
    · have : rbin n f lo hi = lo := by cases f <;> simp [rbin, hlt]
      rw [this] at i5
      subst i5
      simp [hlt]
def disA (a b : Pt) : Int := rootI (sqrP a b)
def disB (a b : Pt) : Int := if disA a b * disA a b < sqrP a b then disA a b + 1 else disA a b
theorem dist_fn (a b : Pt) : Fn Try.prog 38 [pt a, pt b] (.tup [.sc, .sc]) (.tup [.int (disA a b), .int (disB a b)]) := by
  have e := ResF.dist_form (pt a) (pt b) (.tup [.int (disA a b), .int (disB a b)])
  have k := fun h => fn_run mixed 3 (Γ := ResF.Γ) (ann := ResF.ann) Try.func38 rfl Try.call38 (e.mpr h)
  refine k ?_
  clear k e
  have hb := rootI_bd (sqrP a b)
  have hsq := sq_bd hb.1 hb.2
  have hB : disB a b = if disA a b * disA a b < sqrP a b then disA a b + 1 else disA a b := rfl
  have hA : disA a b = rootI (sqrP a b) := rfl
  rw [hB, hA]
  refine ⟨by simp [encP], by simp [encP], _, sqr_fn a b, _, root_fn _, ?_⟩
  generalize sqrP a b = n at *
  generalize rootI n = R at *
  have w1 : wr (R * R) = R * R := wr_id (by omega) (by omega)
  have w2 : wr (R + 1) = R + 1 := wr_id (by omega) (by omega)
  simp [w1, w2]
  exact ⟨fun q q2 => by omega, fun q q2 => by omega⟩
def mxJ (a b : Int) : Int := if b > a then b else a
def sepB (a b : Nd) (s : Sp) : Bool := decide (wr (wr (disA a.p b.p - a.r) - b.r) ≥ s.la) || decide (wr (wr (mxJ (wr (a.h - b.h)) (wr (b.h - a.h)) - a.b) - b.b) ≥ s.ve)
theorem sep_fn (a b : Nd) (s : Sp) : Fn Try.prog 35 [nd a, nd b, sp s] .sc (.bool (sepB a b s)) := by
  have e := ResF.sep_form (nd a) (nd b) (sp s) (.bool (sepB a b s))
  have k := fun h => fn_run mixed 3 (Γ := ResF.Γ) (ann := ResF.ann) Try.func35 rfl Try.call35 (e.mpr h)
  refine k ?_
  clear k e
  have hd := dist_fn a.p b.p
  have hS : sepB a b s = (decide (wr (wr (disA a.p b.p - a.r) - b.r) ≥ s.la) || decide (wr (wr (mxJ (wr (a.h - b.h)) (wr (b.h - a.h)) - a.b) - b.b) ≥ s.ve)) := rfl
  rw [hS]
  generalize disA a.p b.p = D at *
  generalize disB a.p b.p = D2 at *
  obtain ⟨at_, ax, ay, ah, ar, ab⟩ := a
  obtain ⟨bt, bx, b_, bh, br, bb⟩ := b
  obtain ⟨la, ve⟩ := s
  refine ⟨by simp [encN], by simp [encN], by simp [encSp], _, hd, ?_⟩
  simp [encN, encSp]
  refine ⟨fun h => ⟨h, .inl h⟩, fun h => ⟨h, ?_⟩⟩
  have : ¬ la ≤ wr (wr (D - ar) - br) := by omega
  simp [this, mxJ]
/-- The start and the end of what two tubes have in common. -/
def comA (a b : List Nd) : Int := mxJ (a.getD 0 default).t (b.getD 0 default).t
def comB (a b : List Nd) : Int := if (b.getD (b.length - 1) default).t < (a.getD (a.length - 1) default).t then (b.getD (b.length - 1) default).t else (a.getD (a.length - 1) default).t
theorem ends_of {a : List Nd} (h : tE a = 0) : ∃ x y, a[0]? = some x ∧ a[a.length - 1]? = some y ∧ a.getD 0 default = x ∧ a.getD (a.length - 1) default = y ∧ 0 ≤ x.t ∧ x.t ≤ 200000 ∧ 0 ≤ y.t ∧ y.t ≤ 200000 ∧ 0 < a.length ∧ a.length ≤ 64 := by
  obtain ⟨hp, h64, hG⟩ := tE_ok h
  obtain ⟨x, hx⟩ : ∃ x, a[0]? = some x := ⟨_, List.getElem?_eq_getElem (by omega)⟩
  obtain ⟨y, hy⟩ : ∃ y, a[a.length - 1]? = some y := ⟨_, List.getElem?_eq_getElem (by omega)⟩
  have h1 := (tG_get hG hx).2.1
  have h2 := (tG_get hG hy).2.1
  exact ⟨x, y, hx, hy, by rw [List.getD_eq_getElem?_getD, hx]; rfl, by rw [List.getD_eq_getElem?_getD, hy]; rfl, h1.1, h1.2.1, h2.1, h2.2.1, hp, h64⟩
theorem common_fn (a b : List Nd) (ha : tE a = 0) (hb : tE b = 0) : Fn Try.prog 33 [tube a, tube b] (.tup [.sc, .sc]) (.tup [.int (comA a b), .int (comB a b)]) := by
  have e := ResF.common_form (tube a) (tube b) (.tup [.int (comA a b), .int (comB a b)])
  have k := fun h => fn_run mixed 3 (Γ := ResF.Γ) (ann := ResF.ann) Try.func33 rfl Try.call33 (e.mpr h)
  refine k ?_
  clear k e
  obtain ⟨x, y, hx, hy, hxd, hyd, x1, x2, y1, y2, la, la2⟩ := ends_of ha
  obtain ⟨z, u, hz, hu, hzd, hud, z1, z2, u1, u2, lb, lb2⟩ := ends_of hb
  have wa : wr ((a.length : Int) - 1) = ((a.length - 1 : Nat) : Int) := by rw [wr_id (by omega) (by omega)]; omega
  have wb : wr ((b.length : Int) - 1) = ((b.length - 1 : Nat) : Int) := by rw [wr_id (by omega) (by omega)]; omega
  have hza : AV.at (tube a) (.lit (.int .i64 0)) 0 = .int x.t := by have := lst_at (s := 6) (enc := encN) (k := .i64) (j := 0) hx; simpa [encN] using this
  have hzb : AV.at (tube b) (.lit (.int .i64 0)) 0 = .int z.t := by have := lst_at (s := 6) (enc := encN) (k := .i64) (j := 0) hz; simpa [encN] using this
  have hF : comA a b = if z.t > x.t then z.t else x.t := by unfold comA mxJ; rw [hxd, hzd]
  have hL : comB a b = if u.t < y.t then u.t else y.t := by unfold comB; rw [hyd, hud]
  have hal : ((a.length - 1 : Nat) : Int) < a.length := by omega
  have hbl : ((b.length - 1 : Nat) : Int) < b.length := by omega
  rw [hF, hL]
  simp only [hza, hzb, lst_len, av_subt, wr_eq, wa, wb, lst_at hy, lst_at hu, encN, List.getD_cons_zero]
  refine ⟨by simp, by simp; omega, by simp, by simp; omega, by simp, by simp, by simp, by simp, by simp, by simp; omega, by simp, by simp, by simp, by simp; omega, by simp, by simp, .lit _, .lit _, rfl⟩
end Go.Proofs.Ytaomlgfamnfcjaa
/- resolve: the intervals without separation; the first second of two tubes. -/
namespace Go.Proofs.Ytaomlgfamnfcjaa
open Go.RowKit
set_option linter.unusedVariables false
set_option linter.unusedSimpArgs false
set_option maxRecDepth 100000
/-- The node at a time; the zero node where there is none. -/
def ndA (l : List Nd) (s : Int) : Nd := if tatE l s = 0 then atN l s else nd0
theorem tatV_nd (l : List Nd) (s : Int) : tatV l s = .tup [nd (ndA l s), .int (tatE l s)] := by
  unfold tatV ndA
  by_cases h : tatE l s = 0
  · rw [if_pos h, if_pos h, h]
  · rw [if_neg h, if_neg h]
def encQ (q : Int × Int) : List AV := [.int q.1, .int q.2]
abbrev qs (l : List (Int × Int)) : AV := lst 2 encQ l
theorem flat_qs (l : List (Int × Int)) : (qs l).flatS := lst_flatS fun x _ z hz => by
  simp [encQ] at hz; rcases hz with rfl | rfl <;> exact .lit _
def addS (t : Int) (out : List (Int × Int)) : List (Int × Int) := if 0 < out.length ∧ (out.getD (out.length - 1) default).2 = t then out.set (out.length - 1) ((out.getD (out.length - 1) default).1, t + 1) else out ++ [(t, t + 1)]
theorem addS_len (t : Int) (out : List (Int × Int)) : (addS t out).length ≤ out.length + 1 := by
  unfold addS
  split
  · simp
  · simp
def stpS (a b : List Nd) (s : Sp) (t : Int) (out : List (Int × Int)) : List (Int × Int) := if sepB (ndA a t) (ndA b t) s = true then out else addS t out
theorem stpS_len (a b : List Nd) (s : Sp) (t : Int) (out : List (Int × Int)) : (stpS a b s t out).length ≤ out.length + 1 := by
  unfold stpS
  split
  · omega
  · exact addS_len t out
def spansF (a b : List Nd) (s : Sp) : Int → Nat → List (Int × Int) → List (Int × Int)
  | _, 0, out => out
  | t, n + 1, out => spansF a b s (t + 1) n (stpS a b s t out)
def spnL (a b : List Nd) (s : Sp) : List (Int × Int) := spansF a b s (comA a b) (comB a b - comA a b + 1).toNat []
theorem com_bd {a b : List Nd} (ha : tE a = 0) (hb : tE b = 0) : 0 ≤ comA a b ∧ comA a b ≤ 200000 ∧ 0 ≤ comB a b ∧ comB a b ≤ 200000 := by
  obtain ⟨x, y, hx, hy, hxd, hyd, x1, x2, y1, y2, la, la2⟩ := ends_of ha
  obtain ⟨z, u, hz, hu, hzd, hud, z1, z2, u1, u2, lb, lb2⟩ := ends_of hb
  unfold comA comB mxJ
  rw [hxd, hzd, hyd, hud]
  split <;> split <;> omega
theorem spans_fn (a b : List Nd) (s : Sp) (ha : tE a = 0) (hb : tE b = 0) : Fn Try.prog 31 [tube a, tube b, sp s] (.row 75 2 true) (qs (spnL a b s)) := by
  have e := ResF.spans_form (tube a) (tube b) (sp s) (qs (spnL a b s))
  have k := fun h => fn_run mixed 3 (Γ := ResF.Γ) (ann := ResF.ann) Try.func31 rfl Try.call31 (e.mpr h)
  refine k ?_
  clear k e
  obtain ⟨c1, c2, c3, c4⟩ := com_bd ha hb
  have hcom := common_fn a b ha hb
  have hL : spnL a b s = spansF a b s (comA a b) (comB a b - comA a b + 1).toNat [] := rfl
  generalize spnL a b s = R at *
  generalize comA a b = F at *
  generalize comB a b = L at *
  refine ⟨by simp [encSp], _, hcom, ?_⟩
  refine loop_of (τ := Int × List (Int × Int)) (fun s => [.int s.1, qs s.2]) (fun p => F ≤ p.1 ∧ p.1 ≤ 200001 ∧ p.2.length ≤ (p.1 - F).toNat ∧ R = spansF a b s p.1 (L - p.1 + 1).toNat p.2) (fun p => (L - p.1 + 1).toNat) (F, []) rfl ⟨Int.le_refl _, by simp; omega, by simp, hL⟩ ?_
  rintro ⟨t, out⟩ ⟨i1, i2, i3, i4⟩
  simp only at i1 i2 i3 i4
  by_cases hle : t ≤ L
  · obtain ⟨n, hn⟩ : ∃ n, (L - t + 1).toNat = n + 1 := ⟨(L - t).toNat, by omega⟩
    have hn2 : (L - (t + 1) + 1).toNat = n := by omega
    rw [hn, spansF, ← hn2] at i4
    have hlen := stpS_len a b s t out
    have hta := tat_fn a t
    have htb := tat_fn b t
    rw [tatV_nd] at hta htb
    have hsp := sep_fn (ndA a t) (ndA b t) s
    have hst : stpS a b s t out = if sepB (ndA a t) (ndA b t) s = true then out else addS t out := rfl
    have wt : wr (t + 1) = t + 1 := wr_id (by omega) (by omega)
    have hK : ∀ o, o = stpS a b s t out → (fun zs : List AV => ∃ m', m' < (L - t + 1).toNat ∧ ∃ y : Int × List (Int × Int), zs = [AV.int y.1, qs y.2] ∧ (F ≤ y.1 ∧ y.1 ≤ 200001 ∧ y.2.length ≤ (y.1 - F).toNat ∧ R = spansF a b s y.1 (L - y.1 + 1).toNat y.2) ∧ (L - y.1 + 1).toNat = m') [.int (t + 1), qs o] := fun o ho => by
      rw [← ho] at i4 hlen
      exact ⟨_, by show (L - (t + 1) + 1).toNat < _; omega, (t + 1, o), rfl, ⟨by simp; omega, by simp; omega, by simp; omega, i4⟩, rfl⟩
    generalize (fun zs : List AV => ∃ m', m' < (L - t + 1).toNat ∧ ∃ y : Int × List (Int × Int), zs = [AV.int y.1, qs y.2] ∧ (F ≤ y.1 ∧ y.1 ≤ 200001 ∧ y.2.length ≤ (y.1 - F).toNat ∧ R = spansF a b s y.1 (L - y.1 + 1).toNat y.2) ∧ (L - y.1 + 1).toNat = m') = KK at *
    rw [hst] at hK
    generalize ndA a t = A at *
    generalize ndA b t = B at *
    generalize sepB A B s = c at *
    clear hst i4 hlen
    refine ⟨by simp, by simp, fun _ => ⟨_, hta, by simp [encN], _, htb, by simp [encN], _, hsp, by simp, fun h => ?_, fun h => ?_⟩, fun h => absurd h (by simp; omega)⟩
    · have h : c = true := by simpa using h
      have := hK out (by rw [if_pos h])
      simp [wt]
      exact this
    · have h : ¬ c = true := by simpa using h
      have hK2 := fun o ho => hK o (by rw [if_neg h]; exact ho)
      clear hK
      have hr : AV.room (qs out) (.sl 2 [[.int t, .int (t + 1)]]) 16 := by
        unfold AV.room
        simp only [lst_els, List.length_map, av_els, List.length_cons, List.length_nil]
        omega
      have happ : AV.app 2 (qs out) (.sl 2 [[.int t, .int (t + 1)]]) = qs (out ++ [(t, t + 1)]) := by simp [lst, encQ]
      by_cases ho : 0 < out.length
      · obtain ⟨z, hz⟩ : ∃ z, out[out.length - 1]? = some z := ⟨_, List.getElem?_eq_getElem (by omega)⟩
        have hzd : out.getD (out.length - 1) default = z := by rw [List.getD_eq_getElem?_getD, hz]; rfl
        have wl : wr ((out.length : Int) - 1) = ((out.length - 1 : Nat) : Int) := by rw [wr_id (by omega) (by omega)]; omega
        have hset : AV.setEl (qs out) (.lit (.int .i64 ((out.length - 1 : Nat) : Int))) 1 [.int (t + 1)] = qs (out.set (out.length - 1) (z.1, t + 1)) := lst_setEl hz (by simp [encQ])
        have hadd : addS t out = if z.2 = t then out.set (out.length - 1) (z.1, t + 1) else out ++ [(t, t + 1)] := by
          unfold addS
          rw [hzd]
          by_cases q : z.2 = t
          · rw [if_pos ⟨ho, q⟩, if_pos q]
          · rw [if_neg (fun g => q g.2), if_neg q]
        have hat := lst_at (s := 2) (enc := encQ) (k := .i64) (j := 1) hz
        simp only [encQ, List.getD_cons_succ, List.getD_cons_zero] at hat
        have hlt : ((out.length - 1 : Nat) : Int) < out.length := by omega
        simp only [List.getD_cons_zero, List.getD_cons_succ, lst_len, av_subt, av_add, wr_eq, wl, wt, hat, hset, av_mk, happ]
        refine ⟨by simp, by simp, fun _ => ⟨by simp, by simp; omega, by simp; omega, by simp, by simp, by simp; (first | omega | (intro q; simp [q] at ho)), by simp, fun g => ?_, fun g => ?_⟩, fun g => absurd g (by simp; intro q; simp [q] at ho)⟩
        · have g : z.2 = t := by simpa using g
          exact ⟨by simp, by simp, by simp; omega, by simp, by simp; omega, by simp, hK2 _ (by rw [hadd, if_pos g])⟩
        · have g : ¬ z.2 = t := by simpa using g
          exact ⟨by simp, by simp, by simp, hr, by simp, hK2 _ (by rw [hadd, if_neg g])⟩
      · have hadd : addS t out = out ++ [(t, t + 1)] := by unfold addS; rw [if_neg (fun g => ho g.1)]
        simp only [List.getD_cons_zero, List.getD_cons_succ, lst_len, av_add, wr_eq, wt, av_mk, happ]
        have ho0 : out = [] := List.eq_nil_of_length_eq_zero (by omega)
        refine ⟨by simp, by simp, fun g => absurd g (by simp [ho0]), fun _ => ⟨by simp, by simp [ho0], by simp, by simp, by simp, hr, by simp, hK2 _ hadd.symm⟩⟩
  · have e : (L - t + 1).toNat = 0 := by omega
    rw [e, spansF] at i4
    subst i4
    exact ⟨by simp, by simp, fun h => absurd h (by simp; omega), fun _ => ⟨flat_qs R, rfl⟩⟩
def pairE (a b : List Nd) (s : Sp) : Int := if sepE s ≠ 0 then sepE s else if tE a ≠ 0 then tE a else tE b
def pairV (a b : List Nd) (s : Sp) : AV := if pairE a b s ≠ 0 then .tup [.sl 2 [], .int (pairE a b s)] else .tup [qs (spnL a b s), .int 0]
def encT (l : List Nd) : List AV := [tube l]
abbrev tbs (l : List (List Nd)) : AV := lst 1 encT l
theorem pair_fn (a b : List Nd) (s : Sp) : Fn Try.prog 28 [tube a, tube b, sp s] (.tup [.row 75 2 true, .sc]) (pairV a b s) := by
  have e := ResF.pair_form (tube a) (tube b) (sp s) (pairV a b s)
  have k := fun h => fn_run mixed 3 (Γ := ResF.Γ) (ann := ResF.ann) Try.func28 rfl Try.call28 (e.mpr h)
  refine k ?_
  clear k e
  rw [show AV.mk 1 [[tube a], [tube b]] = tbs [a, b] from rfl]
  have hV : pairV a b s = if pairE a b s ≠ 0 then .tup [.sl 2 [], .int (pairE a b s)] else .tup [qs (spnL a b s), .int 0] := rfl
  have hE : pairE a b s = if sepE s ≠ 0 then sepE s else if tE a ≠ 0 then tE a else tE b := rfl
  have hv : ∀ e, e ≠ 0 → pairE a b s = e → pairV a b s = .tup [.sl 2 [], .int e] := fun e h1 h2 => by rw [hV, h2, if_pos h1]
  refine ⟨by simp [encSp], by simp, by simp, Try.call30, fun _ => ⟨_, csep_fn s, by simp, by simp, fun h => ?_, fun h => ?_⟩⟩
  · have h : sepE s ≠ 0 := by simpa using h
    rw [hv _ h (by rw [hE, if_pos h])]
    simp [h]
  have h0 : sepE s = 0 := by simpa using h
  rw [if_neg (by simp [h0])] at hE
  refine loop_list (σ := Unit) [a, b] (fun i _ => [.int (i : Nat)]) (fun i rest _ => (rest = [a, b] ∨ (tE a = 0 ∧ rest = [b]) ∨ (tE a = 0 ∧ tE b = 0 ∧ rest = []))) () rfl (.inl rfl) ?_ ?_
  · rintro i x rest _ K hx hrest hi hG hK
    have hi2 : (i : Int) < 2 := by have : i < 2 := hi; omega
    have hwi : wr ((i : Int) + 1) = (i : Int) + 1 := wr_id (by omega) (by omega)
    have hK' := hK [.int ((i : Int) + 1)] () (by simp)
    clear hK
    simp [hi2, lst_at hx, encT]
    refine ⟨_, tcheck_fn x, ?_⟩
    simp [hwi]
    refine ⟨fun h => ⟨h, ?_⟩, fun h => hK' ?_⟩
    · rcases hG with g | ⟨g0, g⟩ | ⟨_, _, g⟩
      · injection g with g1 g2
        subst g1
        rw [hv _ h (by rw [hE, if_pos h])]
      · injection g with g1 g2
        subst g1
        rw [hv _ h (by rw [hE, if_neg (by simp [g0])])]
      · cases g
    · rcases hG with g | ⟨g0, g⟩ | ⟨_, _, g⟩
      · injection g with g1 g2
        subst g1
        exact .inr (.inl ⟨h, g2⟩)
      · injection g with g1 g2
        subst g1
        exact .inr (.inr ⟨g0, h, g2⟩)
      · cases g
  · rintro _ K hG
    obtain ⟨ha, hb⟩ : tE a = 0 ∧ tE b = 0 := by
      rcases hG with g | ⟨g0, g⟩ | ⟨g1, g2, g⟩
      · cases g
      · cases g
      · exact ⟨g1, g2⟩
    rw [if_neg (by simp [ha])] at hE
    rw [hV, if_neg (by rw [hE]; simp [hb])]
    have hs := spans_fn a b s ha hb
    have hf := flat_qs (spnL a b s)
    refine ⟨by simp, by simp, fun h => absurd h (by simp), fun _ => ?_⟩
    first
      | exact ⟨_, hs, hf, .lit _, rfl⟩
      | exact ⟨by simp, by simp, by simp, _, hs, hf, .lit _, rfl⟩
def firE (a b : List Nd) (s : Sp) : Int := if pairE a b s ≠ 0 then pairE a b s else if (spnL a b s).length = 0 then 8 else 0
def firT (a b : List Nd) (s : Sp) : Int := if firE a b s ≠ 0 then 0 else ((spnL a b s).getD 0 default).1
theorem first_fn (a b : List Nd) (s : Sp) : Fn Try.prog 20 [tube a, tube b, sp s] (.tup [.sc, .sc]) (.tup [.int (firT a b s), .int (firE a b s)]) := by
  have e := ResF.first_form (tube a) (tube b) (sp s) (.tup [.int (firT a b s), .int (firE a b s)])
  have k := fun h => fn_run mixed 3 (Γ := ResF.Γ) (ann := ResF.ann) Try.func20 rfl Try.call20 (e.mpr h)
  refine k ?_
  clear k e
  have hp := pair_fn a b s
  have hV : pairV a b s = if pairE a b s ≠ 0 then .tup [.sl 2 [], .int (pairE a b s)] else .tup [qs (spnL a b s), .int 0] := rfl
  have hE : firE a b s = if pairE a b s ≠ 0 then pairE a b s else if (spnL a b s).length = 0 then 8 else 0 := rfl
  have hT : firT a b s = if firE a b s ≠ 0 then 0 else ((spnL a b s).getD 0 default).1 := rfl
  refine ⟨by simp [encSp], _, hp, ?_⟩
  by_cases h0 : pairE a b s = 0
  · rw [hV, if_neg (by simp [h0])]
    rw [if_neg (by simp [h0])] at hE
    by_cases hl : (spnL a b s).length = 0
    · rw [if_pos hl] at hE
      rw [hE, if_pos (by decide)] at hT
      rw [hE, hT]
      have : spnL a b s = [] := List.eq_nil_of_length_eq_zero hl
      rw [this]
      simp
    · rw [if_neg hl] at hE
      rw [hE, if_neg (by decide)] at hT
      rw [hE, hT]
      obtain ⟨z, hz⟩ : ∃ z, (spnL a b s)[0]? = some z := ⟨_, List.getElem?_eq_getElem (by omega)⟩
      have hzd : (spnL a b s).getD 0 default = z := by rw [List.getD_eq_getElem?_getD, hz]; rfl
      rw [hzd]
      generalize spnL a b s = L at *
      have hat : AV.at (qs L) (.lit (.int .i64 0)) 0 = .int z.1 := by have := lst_at (s := 2) (enc := encQ) (k := .i64) (j := 0) hz; simpa [encQ] using this
      refine ⟨by simp, by simp, fun h => absurd h (by simp), fun _ => ⟨by simp, by simp, fun h => absurd h (by simp; intro q; simp [q] at hl), fun _ => ?_⟩⟩
      simp only [av_prj, List.getD_cons_zero, hat]
      exact ⟨by simp; omega, by simp; omega, .lit _, .lit _, rfl⟩
  · rw [hV, if_pos h0]
    rw [if_pos h0] at hE
    rw [hE, if_pos h0] at hT
    rw [hE, hT]
    simp [h0]
end Go.Proofs.Ytaomlgfamnfcjaa
/- resolve: what is free; the fact; the law. -/
namespace Go.Proofs.Ytaomlgfamnfcjaa
open Go.RowKit
set_option linter.unusedVariables false
set_option linter.unusedSimpArgs false
set_option maxRecDepth 100000
def tsE : List (List Nd) → Int
  | [] => 0
  | t :: r => if tE t ≠ 0 then tE t else tsE r
def rcE (l : List (List Nd)) (i : Int) (s : Sp) : Int := if sepE s ≠ 0 then sepE s else if 24 < l.length then 2 else if tsE l ≠ 0 then tsE l else if i < 0 ∨ l.length ≤ i then 4 else 0
def freeB (i : Int) (own : List Nd) (s : Sp) : Nat → List (List Nd) → Bool
  | _, [] => true
  | k, t :: r => if (k : Int) ≠ i ∧ firE own t s = 0 then false else freeB i own s (k + 1) r
def rfB (l : List (List Nd)) (i : Int) (s : Sp) : Bool := if rcE l i s = 0 then freeB i (l.getD i.toNat []) s 0 l else false
theorem clash_fn (a b : List Nd) (s : Sp) : Fn Try.prog 9 [tube a, tube b, sp s] .sc (.bool (decide (firE a b s = 0))) := by
  have e := ResF.clash_form (tube a) (tube b) (sp s) (.bool (decide (firE a b s = 0)))
  have k := fun h => fn_run mixed 3 (Γ := ResF.Γ) (ann := ResF.ann) Try.func9 rfl Try.call9 (e.mpr h)
  refine k ?_
  clear k e
  refine ⟨by simp [encSp], _, first_fn a b s, ?_⟩
  simp
  rfl
end Go.Proofs.Ytaomlgfamnfcjaa
/- joint resolutions: what is checked; the first flight that clashes. -/
namespace Go.Proofs.Ytaomlgfamnfcjaa
open Go.RowKit
set_option linter.unusedVariables false
set_option linter.unusedSimpArgs false
set_option maxRecDepth 100000
/-- An option: what it costs, its tube. -/
structure Jo where
  c : Int
  t : List Nd
  deriving Inhabited
def encJ (x : Jo) : List AV := [.int x.c, tube x.t]
abbrev ops (o : List Jo) : AV := lst 2 encJ o
def encO (o : List Jo) : List AV := [ops o]
abbrev opss (l : List (List Jo)) : AV := lst 1 encO l
def encI (n : Int) : List AV := [.int n]
abbrev ints (l : List Int) : AV := lst 1 encI l
theorem flat_ints (l : List Int) : (ints l).flatS := lst_flatS fun x _ z hz => by
  simp [encI] at hz; rw [hz]; exact .lit _
def optE : List Jo → Int
  | [] => 0
  | x :: r => if x.c < 0 ∨ x.c > 1000000 then 4 else if tE x.t ≠ 0 then tE x.t else optE r
def jcG : Int → List (List Jo) → Int
  | _, [] => 0
  | n, o :: r => if o.length = 0 then 8 else if o.length > 8 then 2 else if n * o.length > 5000 then 2 else if optE o ≠ 0 then optE o else jcG (n * o.length) r
def jcE (l : List (List Jo)) : Int := if l.length > 6 then 2 else jcG 1 l
/-- How many choices the first flights have. -/
def manyN : List (List Jo) → Int
  | [] => 1
  | o :: r => o.length * manyN r
theorem jcheck_fn (l : List (List Jo)) : Fn Try.prog 7 [opss l] .sc (.int (jcE l)) := by
  refine fn_run mixed 3 (Γ := JtF.Γ) (ann := JtF.ann) Try.func7 rfl Try.call7 ((JtF.check_form _ _).mpr ?_)
  refine ⟨by simp, by simp, by simp, fun q => ?_, fun q => ?_⟩
  · have q : (l.length : Int) > 6 := by simpa using q
    have e : jcE l = 2 := by unfold jcE; rw [if_pos (by omega)]
    rw [e]
    exact ⟨.lit _, rfl⟩
  have q : ¬ (l.length : Int) > 6 := by simpa using q
  have hE : jcE l = jcG 1 l := by unfold jcE; rw [if_neg (by omega)]
  rw [hE]
  refine ⟨by simp, ?_⟩
  refine loop_list (σ := Int) l (fun n s => [.int s, .int (n : Nat)]) (fun n rest s => 0 ≤ s ∧ s ≤ 5000 ∧ jcG 1 l = jcG s rest) 1 rfl ⟨by omega, by omega, rfl⟩ ?_ ?_
  · rintro n o rest s K hx hr hn ⟨g1, g2, g3⟩ hK
    have an : AV.bin Go.BinOp.add (.int (n : Int)) (.int 1) = .int ((n : Int) + 1) := by rw [av_add]; exact congrArg (fun z => AV.lit (.int .i64 z)) (wrap64 (by omega) (by omega))
    have ha : AV.at (opss l) (.int (n : Int)) 0 = ops o := by rw [lst_at hx]; rfl
    have hl : AV.len (ops o) = .int (o.length : Nat) := by simp
    rw [jcG] at g3
    simp only [List.getD_cons_zero, List.getD_cons_succ, an, ha, hl]
    refine ⟨by simp, by simp, fun _ => ⟨by simp, by simp; omega, by simp, by simp, by simp, fun q => ?_, fun q => ⟨by simp, by simp, by simp, fun q2 => ?_, fun q2 => ?_⟩⟩, fun q => absurd q (by simp; omega)⟩
    · have q : o.length = 0 := by simpa using q
      rw [g3, if_pos q]
      exact ⟨.lit _, rfl⟩
    · have q : ¬ o.length = 0 := by simpa using q
      have q2 : (o.length : Int) > 8 := by simpa using q2
      rw [g3, if_neg q, if_pos (by omega)]
      exact ⟨.lit _, rfl⟩
    have q : ¬ o.length = 0 := by simpa using q
    have q2 : ¬ (o.length : Int) > 8 := by simpa using q2
    rw [if_neg q, if_neg (by omega)] at g3
    have hm : 0 ≤ s * (o.length : Int) ∧ s * (o.length : Int) ≤ 40000 := by
      have h1 := Int.mul_le_mul g2 (show (o.length : Int) ≤ 8 by omega) (by omega) (by omega)
      have h2 := Int.mul_nonneg g1 (show 0 ≤ (o.length : Int) by omega)
      omega
    have am : AV.bin Go.BinOp.mul (.int s) (.int (o.length : Nat)) = .int (s * o.length) := by rw [av_mul]; exact congrArg (fun z => AV.lit (.int .i64 z)) (wrap64 (by omega) (by omega))
    simp only [am]
    refine ⟨by simp, by simp, by simp, by simp, fun q3 => ?_, fun q3 => ⟨by simp, ?_⟩⟩
    · have q3 : s * (o.length : Int) > 5000 := by simpa using q3
      rw [g3, if_pos q3]
      exact ⟨.lit _, rfl⟩
    have q3 : ¬ s * (o.length : Int) > 5000 := by simpa using q3
    rw [if_neg q3] at g3
    refine loop_list (σ := Unit) o (fun m _ => [.int (m : Nat)]) (fun m rest _ => optE o = optE rest) () rfl rfl ?_ ?_
    · rintro m x rest2 _ K2 hx2 hr2 hm2 h1 hK2
      have am2 : AV.bin Go.BinOp.add (.int (m : Int)) (.int 1) = .int ((m : Int) + 1) := by rw [av_add]; exact congrArg (fun z => AV.lit (.int .i64 z)) (wrap64 (by omega) (by omega))
      have ha2 : AV.atAgg (ops o) (.int (m : Int)) 0 2 = .agg (encJ x) := by rw [lst_atAgg hx2]; rfl
      have c0 : AV.cel (.agg (encJ x)) 0 = .int x.c := rfl
      have c1 : AV.cel (.agg (encJ x)) 1 = tube x.t := rfl
      rw [optE] at h1
      have bad : (x.c < 0 ∨ x.c > 1000000) → jcG 1 l = 4 := fun h => by
        rw [if_pos h] at h1
        rw [g3, if_pos (by rw [h1]; decide), h1]
      simp only [List.getD_cons_zero, am2, ha2, c0, c1]
      refine ⟨by simp, by simp, fun _ => ⟨by simp, by simp; omega, by simp [encJ], by simp, by simp, fun q4 => ?_, fun q4 => ⟨by simp, by simp, q4, by simp, fun q5 => ?_, fun q5 => ⟨_, tcheck_fn x.t, by simp, by simp, fun q6 => ?_, fun q6 => ?_⟩⟩⟩, fun q => absurd q (by simp; omega)⟩
      · have q4' : x.c < 0 := by simpa using q4
        rw [bad (.inl q4')]
        exact ⟨by simp, q4, .lit _, rfl⟩
      · have q5 : x.c > 1000000 := by simpa using q5
        rw [bad (.inr q5)]
        exact ⟨.lit _, rfl⟩
      all_goals
        have q4 : ¬ x.c < 0 := by simpa using q4
        have q5 : ¬ x.c > 1000000 := by simpa using q5
        rw [if_neg (by omega)] at h1
      · have q6 : tE x.t ≠ 0 := by simpa using q6
        rw [if_pos q6] at h1
        rw [g3, if_pos (by rw [h1]; exact q6), h1]
        exact ⟨.lit _, rfl⟩
      · have q6 : tE x.t = 0 := by simpa using q6
        rw [if_neg (by simp [q6])] at h1
        exact ⟨by simp, hK2 [.int ((m : Int) + 1)] () (by simp) h1⟩
    · rintro _ K2 h1
      rw [optE] at h1
      rw [if_neg (by simp [h1])] at g3
      exact ⟨by simp, by simp, fun q => absurd q (by simp), fun _ => ⟨by simp, hK [.int (s * o.length), .int ((n : Int) + 1)] _ (by simp) ⟨hm.1, by omega, g3⟩⟩⟩
  · rintro s K ⟨g1, g2, g3⟩
    rw [jcG] at g3
    rw [g3]
    exact ⟨by simp, by simp, fun q => absurd q (by simp), fun _ => ⟨.lit _, rfl⟩⟩
theorem clone_fn (l : List Int) (hl : l.length ≤ 1000000) : Fn Try.prog 23 [ints l] (.row 3 1 true) (ints l) := by
  refine fn_run mixed 3 (Γ := JtF.Γ) (ann := JtF.ann) Try.func23 rfl Try.call23 ((JtF.clone_form _ _).mpr ?_)
  have hf := flat_ints l
  simp [ints, AV.room] at hf ⊢
  simp [lst] at hf ⊢
  exact ⟨by omega, hf⟩
end Go.Proofs.Ytaomlgfamnfcjaa
/- joint resolutions: the first flight that clashes; equal choices. -/
namespace Go.Proofs.Ytaomlgfamnfcjaa
open Go.RowKit
set_option linter.unusedVariables false
set_option linter.unusedSimpArgs false
set_option maxRecDepth 100000
/-- The first flight from i on whose option clashes with the option z of flight k. -/
def wiN (L : List (List Int × Bool)) (k z : Int) : Nat → List Int → Int
  | _, [] => -1
  | i, x :: r => if mgetL L [(i : Int), k, x, z] = true then (i : Int) else wiN L k z (i + 1) r
/-- The first flight that clashes with the last one of a choice. -/
def withI (L : List (List Int × Bool)) (ch : List Int) : Int := wiN L ((ch.length : Int) - 1) (ch.getD (ch.length - 1) 0) 0 (ch.take (ch.length - 1))
theorem with_fn (T : AV) (L : List (List Int × Bool)) (ch : List Int) (hT : T.isAgg 2) (hT1 : AV.cel T 1 = .mp 4 L) (hl : ch.length ≤ 1000) (hc : ∀ x ∈ ch, 0 ≤ x ∧ x ≤ 1000) : Fn Try.prog 26 [T, ints ch] .sc (.int (withI L ch)) := by
  refine fn_run mixed 3 (Γ := JtF.Γ) (ann := JtF.ann) Try.func26 rfl Try.call26 ((JtF.with_form _ _ _).mpr ?_)
  have hk : AV.bin Go.BinOp.sub (AV.len (ints ch)) (.int 1) = .int ((ch.length : Int) - 1) := by
    rw [lst_len, av_subt]
    exact congrArg (fun z => AV.lit (.int .i64 z)) (wrap64 (by omega) (by omega))
  have hW : withI L ch = wiN L ((ch.length : Int) - 1) (ch.getD (ch.length - 1) 0) 0 (ch.take (ch.length - 1)) := rfl
  simp only [hk, hT1]
  refine ⟨hT, by simp, by simp, ?_⟩
  refine loop_list (σ := Unit) (ch.take (ch.length - 1)) (fun n _ => [.int (n : Nat)]) (fun n rest _ => withI L ch = wiN L ((ch.length : Int) - 1) (ch.getD (ch.length - 1) 0) n rest) () rfl hW ?_ ?_
  · rintro n x rest _ K hx hr hn hg hK
    have hn' : n < ch.length - 1 := by rw [List.length_take] at hn; omega
    have hx' : ch[n]? = some x := by rw [List.getElem?_take, if_pos hn'] at hx; exact hx
    obtain ⟨z, hz⟩ : ∃ z, ch[ch.length - 1]? = some z := ⟨_, List.getElem?_eq_getElem (by omega)⟩
    have hzd : ch.getD (ch.length - 1) 0 = z := by rw [List.getD_eq_getElem?_getD, hz]; rfl
    have an : AV.bin Go.BinOp.add (.int (n : Int)) (.int 1) = .int ((n : Int) + 1) := by rw [av_add]; exact congrArg (fun z => AV.lit (.int .i64 z)) (wrap64 (by omega) (by omega))
    have ha : AV.at (ints ch) (.int (n : Int)) 0 = .int x := by rw [lst_at hx']; rfl
    have hb : AV.at (ints ch) (.int ((ch.length : Int) - 1)) 0 = .int z := by
      have e : ((ch.length : Int) - 1) = ((ch.length - 1 : Nat) : Int) := by omega
      rw [e, lst_at hz]; rfl
    have hx0 := hc x (List.mem_of_getElem? hx')
    have hz0 := hc z (List.mem_of_getElem? hz)
    rw [wiN, hzd] at hg
    simp only [List.getD_cons_zero, an, ha, hb]
    have hm : AV.mget (.mp 4 L) [.int (n : Int), .int ((ch.length : Int) - 1), .int x, .int z] = .bool (mgetL L [(n : Int), (ch.length : Int) - 1, x, z]) := rfl
    have hky : AV.mkey [.int (n : Int), .int ((ch.length : Int) - 1), .int x, .int z] := by
      intro y hy
      simp only [List.mem_cons, List.mem_nil_iff, or_false] at hy
      rcases hy with rfl | rfl | rfl | rfl <;> exact ⟨rfl, by show (_ : Int) ≤ _; simp only [AV.num]; omega, by show (_ : Int) ≤ _; simp only [AV.num]; omega⟩
    simp only [hm]
    refine ⟨by simp, by simp, fun _ => ⟨by simp, by simp; omega, by simp, by simp; omega, rfl, rfl, rfl, rfl, ⟨L, rfl⟩, hky, rfl, fun q => ?_, fun q => ?_⟩, fun q => absurd q (by simp; omega)⟩
    · have q : mgetL L [(n : Int), (ch.length : Int) - 1, x, z] = true := q
      rw [if_pos q] at hg
      rw [hg]
      exact ⟨.lit _, rfl⟩
    · have q : mgetL L [(n : Int), (ch.length : Int) - 1, x, z] = false := q
      rw [if_neg (by simp [q]), hzd.symm] at hg
      exact ⟨by simp, hK [.int ((n : Int) + 1)] () (by simp) hg⟩
  · rintro _ K hg
    rw [wiN] at hg
    rw [hg]
    have hlen : (ch.take (ch.length - 1)).length = ch.length - 1 := by rw [List.length_take]; omega
    rw [hlen]
    simp only [List.getD_cons_zero]
    exact ⟨by simp, by simp, fun q => absurd q (by simp; omega), fun _ => ⟨.lit _, rfl⟩⟩
theorem equal_fn (a b : List Int) (ha : a.length ≤ 1000) : Fn Try.prog 10 [ints a, ints b] .sc (.bool (decide (a = b))) := by
  refine fn_run mixed 3 (Γ := JtF.Γ) (ann := JtF.ann) Try.func10 rfl Try.call10 ((JtF.equal_form _ _ _).mpr ?_)
  refine ⟨by simp, by simp, by simp, by simp, fun q => ?_, fun q => ⟨by simp, ?_⟩⟩
  · have q : ¬ (a.length : Int) = b.length := by simpa using q
    have e : decide (a = b) = false := decide_eq_false fun h => q (by rw [h])
    rw [e]
    exact ⟨.lit _, rfl⟩
  have q : a.length = b.length := by have : (a.length : Int) = b.length := by simpa using q
                                     omega
  refine loop_list (σ := Unit) a (fun n _ => [.int (n : Nat)]) (fun n rest _ => decide (a = b) = decide (rest = b.drop n)) () rfl (by simp) ?_ ?_
  · rintro n x rest _ K hx hr hn hg hK
    obtain ⟨y, hy⟩ : ∃ y, b[n]? = some y := ⟨_, List.getElem?_eq_getElem (by omega)⟩
    have an : AV.bin Go.BinOp.add (.int (n : Int)) (.int 1) = .int ((n : Int) + 1) := by rw [av_add]; exact congrArg (fun z => AV.lit (.int .i64 z)) (wrap64 (by omega) (by omega))
    have h1 : AV.at (ints a) (.int (n : Int)) 0 = .int x := by rw [lst_at hx]; rfl
    have h2 : AV.at (ints b) (.int (n : Int)) 0 = .int y := by rw [lst_at hy]; rfl
    have hd : b.drop n = y :: b.drop (n + 1) := by
      obtain ⟨hl, e⟩ := List.getElem?_eq_some_iff.1 hy
      rw [List.drop_eq_getElem_cons hl, e]
    rw [hd] at hg
    simp only [List.getD_cons_zero, an, h1, h2]
    refine ⟨by simp, by simp, fun _ => ⟨by simp, by simp; omega, by simp, by simp; omega, by simp, by simp, fun p => ?_, fun p => ?_⟩, fun p => absurd p (by simp; omega)⟩
    · have p : x ≠ y := by simpa using p
      rw [hg, decide_eq_false (by simp [p])]
      exact ⟨.lit _, rfl⟩
    · have p : x = y := by simpa using p
      subst p
      exact ⟨by simp, hK [.int ((n : Int) + 1)] () (by simp) (by rw [hg]; simp)⟩
  · rintro _ K hg
    have : b.drop a.length = [] := by rw [q]; simp
    rw [hg, this]
    exact ⟨by simp, by simp, fun p => absurd p (by simp), fun _ => ⟨.lit _, rfl⟩⟩
end Go.Proofs.Ytaomlgfamnfcjaa
/- Maps of truth values whose keys are arrays of numbers: what an entry does. -/
namespace Go.Proofs.Ytaomlgfamnfcjaa
open Go.RowKit Go.Shelf
set_option linter.unusedVariables false
set_option linter.unusedSimpArgs false
set_option maxRecDepth 100000
abbrev Mp := List (List Int × Bool)
/-- A map's entries, one more (or another in its place). -/
def mputL (L : Mp) (k : List Int) (v : Bool) : Mp := if L.any (fun p => decide (p.1 = k)) = true then L.map (fun p => if p.1 = k then (k, v) else p) else L ++ [(k, v)]
structure GoodM (L : Mp) : Prop where
  dst : L.Pairwise fun p q => p.1 ≠ q.1
  key : ∀ p ∈ L, p.1.length = 4 ∧ I64L p.1
theorem mput_keys {L : Mp} {k : List Int} {v : Bool} : L.any (fun p => decide (p.1 = k)) = true → (mputL L k v).map (·.1) = L.map (·.1) := fun h => by
  unfold mputL
  rw [if_pos h, List.map_map]
  refine List.map_congr_left fun p _ => ?_
  simp only [Function.comp]
  split
  · rename_i e; exact e.symm
  · rfl
theorem GoodM.put {L : Mp} (g : GoodM L) {k : List Int} (hl : k.length = 4) (hk : I64L k) (v : Bool) : GoodM (mputL L k v) := by
  by_cases h : L.any (fun p => decide (p.1 = k)) = true
  · have hm := mput_keys (v := v) h
    refine ⟨?_, fun p hp => ?_⟩
    · have := g.dst
      have h1 : (L.map (·.1)).Pairwise (· ≠ ·) := List.pairwise_map.2 this
      rw [← hm] at h1
      exact List.pairwise_map.1 h1
    · have : p.1 ∈ (mputL L k v).map (·.1) := List.mem_map.2 ⟨p, hp, rfl⟩
      rw [hm] at this
      obtain ⟨q, hq, e⟩ := List.mem_map.1 this
      rw [← e]; exact g.key q hq
  · unfold mputL
    rw [if_neg h]
    have hn : ∀ p ∈ L, p.1 ≠ k := fun p hp e => h (List.any_eq_true.2 ⟨p, hp, decide_eq_true e⟩)
    refine ⟨?_, fun p hp => ?_⟩
    · rw [List.pairwise_append]
      exact ⟨g.dst, List.pairwise_singleton _ _, fun p hp q hq => by rw [List.mem_singleton] at hq; rw [hq]; exact hn p hp⟩
    · rcases List.mem_append.1 hp with e | e
      · exact g.key p e
      · rw [List.mem_singleton] at e; rw [e]; exact ⟨hl, hk⟩
theorem mput_set {L : Mp} (hd : L.Pairwise fun p q => p.1 ≠ q.1) {k : List Int} {b v : Bool} {j : Nat} (h : L[j]? = some (k, b)) : mputL L k v = L.set j (k, v) := by
  have ha : L.any (fun p => decide (p.1 = k)) = true := List.any_eq_true.2 ⟨_, List.mem_of_getElem? h, by simp⟩
  unfold mputL
  rw [if_pos ha]
  apply List.ext_getElem?
  intro i
  rw [List.getElem?_map, List.getElem?_set]
  by_cases e : j = i
  · subst e
    have hj := (List.getElem?_eq_some_iff.1 h).1
    rw [h, if_pos rfl, if_pos hj]
    simp
  · rw [if_neg e]
    cases q : L[i]? with
    | none => rfl
    | some p =>
      have hne : p.1 ≠ k := by
        obtain ⟨hi, ei⟩ := List.getElem?_eq_some_iff.1 q
        obtain ⟨hj, ej⟩ := List.getElem?_eq_some_iff.1 h
        rcases Nat.lt_or_ge i j with r | r
        · have := List.pairwise_iff_getElem.1 hd i j hi hj r
          rw [ei, ej] at this; exact this
        · have := List.pairwise_iff_getElem.1 hd j i hj hi (by omega)
          rw [ei, ej] at this; exact fun z => this z.symm
      simp [hne]
abbrev entP (e : MapEntry) : Value × Value := (e.key, e.val)
abbrev mpP (p : List Int × Bool) : Value × Value := (mpKey p.1, Value.bool p.2)
theorem put_mp {w : World} {g : Nat} {es : Array MapEntry} {ck : Nat} (hb : w.heap[g]? = some (.map es ck)) {L : Mp} (he : es.toList.map entP = L.map mpP) (G : GoodM L) {xs : List Int} (hl : xs.length = 4) (hx : I64L xs) (b : Bool) :
    ∃ (es' : Array MapEntry) (ck' : Nat), (Instr.mapUpdate 48 (.map (some g)) (mpKey xs) (.bool b)).run Try.prog w = .ok () (ChangeMaps.setBlock w g (.map es' ck')) ∧ es'.toList.map entP = (mputL L xs b).map mpP := by
  have ht : Try.prog.underlying 48 = some (.map 68 4) := by kernel_rfl
  have hk : Try.prog.underlying 68 = some (.array 4 3) := by kernel_rfl
  have hi : Try.prog.underlying 3 = some (.int .i64) := by kernel_rfl
  have h1 : Try.prog.cellsOf 3 = 1 := by kernel_rfl
  have hn : Try.prog.cellsOf 68 = 4 := by kernel_rfl
  have hp : 0 < Try.prog.types.size := by
    have : (Try.prog.types[0]?).isSome = true := by kernel_rfl
    obtain ⟨x, hx⟩ := Option.isSome_iff_exists.1 this
    exact (Array.getElem?_eq_some_iff.1 hx).1
  have K := law_mp hk hi h1 hn
  obtain ⟨kl, hkl⟩ := keyOf_mp hp hk hi h1 hn hl hx
  have hall : ∀ y ∈ es.toList, ∃ q, keyOf Try.prog 68 y.key = some q := fun y hy => by
    have : entP y ∈ L.map mpP := by rw [← he]; exact List.mem_map.2 ⟨y, hy, rfl⟩
    obtain ⟨p, hpm, q⟩ := List.mem_map.1 this
    injection q with q _
    rw [← q]
    exact keyOf_mp hp hk hi h1 hn (G.key p hpm).1 (G.key p hpm).2
  obtain ⟨f1, f2⟩ := find_mp he G.dst (x := xs)
  rcases K.find w hkl es.toList hall with ⟨r1, r2⟩ | ⟨j, e0, r1, r2, r3⟩
  · refine ⟨es.push ⟨mpKey xs, .bool b, ck⟩, ck + 1, ?_, ?_⟩
    · simp [Instr.mapUpdate, run_underlying ht, MapKept.run_getObj_map hb, K.check w false hkl, r1, MapKept.run_setObj_map _ hb, Result.andThen, ChangeMaps.setBlock]
    · have hno : ¬ L.any (fun p => decide (p.1 = xs)) = true := fun h => by
        obtain ⟨p, hp1, hp2⟩ := List.any_eq_true.1 h
        have := List.find?_eq_none.1 (f1 r2) p hp1
        exact this hp2
      unfold mputL
      rw [if_neg hno, Array.toList_push, List.map_append, List.map_append, he]
      rfl
  · obtain ⟨b0, _, hLj, _⟩ := f2 j e0 r2 r3
    have hj : es[j]? = some e0 := by simpa using r2
    refine ⟨es.modify j (fun e' => { e' with key := mpKey xs, val := .bool b }), ck, ?_, ?_⟩
    · simp [Instr.mapUpdate, run_underlying ht, MapKept.run_getObj_map hb, K.check w false hkl, r1, hj, r3, K.stays w hkl, MapKept.run_setObj_map _ hb, Result.andThen, ChangeMaps.setBlock]
    · rw [mput_set G.dst hLj]
      apply List.ext_getElem?
      intro i
      rw [List.getElem?_map, List.getElem?_map, Array.toList_modify, List.getElem?_modify, List.getElem?_set]
      have hei : (es.toList.map entP)[i]? = (L.map mpP)[i]? := by rw [he]
      rw [List.getElem?_map, List.getElem?_map] at hei
      by_cases e : j = i
      · subst e
        have hjl := (List.getElem?_eq_some_iff.1 hLj).1
        rw [if_pos rfl, if_pos hjl, r2]
        simp
      · rw [if_neg e]
        cases q : es.toList[i]? with
        | none => rw [q] at hei; simpa [e] using hei
        | some z => rw [q] at hei; simpa [e] using hei
end Go.Proofs.Ytaomlgfamnfcjaa
/- joint resolutions: which options clash. -/
namespace Go.Proofs.Ytaomlgfamnfcjaa
open Go.RowKit Go.Shelf
set_option linter.unusedVariables false
set_option linter.unusedSimpArgs false
set_option maxRecDepth 100000
set_option maxHeartbeats 2000000
def foldN {α : Type} (f : Nat → α → α) : Nat → α → α
  | 0, a => a
  | n + 1, a => f n (foldN f n a)
def optAt (l : List (List Jo)) (i m : Nat) : Jo := (l.getD i []).getD m default
/-- Do two options clash? -/
def clB (l : List (List Jo)) (s : Sp) (i k m n : Nat) : Bool := decide (firE (optAt l i m).t (optAt l k n).t s = 0)
def st4 (l : List (List Jo)) (s : Sp) (k i m n : Nat) (L : Mp) : Mp := mputL L [(i : Int), k, m, n] (clB l s i k m n)
def st3 (l : List (List Jo)) (s : Sp) (k i m : Nat) (L : Mp) : Mp := foldN (st4 l s k i m) (l.getD k []).length L
def st2 (l : List (List Jo)) (s : Sp) (k i : Nat) (L : Mp) : Mp := foldN (st3 l s k i) (l.getD i []).length L
def st1 (l : List (List Jo)) (s : Sp) (k : Nat) (L : Mp) : Mp := foldN (st2 l s k) k L
def clL (l : List (List Jo)) (s : Sp) : Mp := foldN (st1 l s) l.length []
def ofJ (l : List (List Jo)) (s : Sp) : AV :=
  if sepE s ≠ 0 then .tup [.agg [.sl 1 [], .lit (.map none)], .int (sepE s)]
  else if jcE l ≠ 0 then .tup [.agg [.sl 1 [], .lit (.map none)], .int (jcE l)] else .tup [.agg [opss l, .mp 4 (clL l s)], .int 0]
/-- What lies there in the loops: the map's entries; all else as it lay. -/
structure OfW (w w4 : World) (g : Nat) (L : Mp) (wr : World) : Prop where
  bel : Below w.heap.size w wr
  low : w4.heap.size ≤ wr.heap.size
  same : ∀ b, b < w4.heap.size → b ≠ g → wr.heap[b]? = w4.heap[b]?
  map : ∃ (es : Array MapEntry) (ck : Nat), wr.heap[g]? = some (.map es ck) ∧ es.toList.map entP = L.map mpP
  good : GoodM L
  drw : w.drawn ≤ wr.drawn
/-- The elements of a slice of one's own reading. -/
theorem rv_elems {w : World} {ok : Nat → Prop} {l : List (List Jo)} {A : Option Addr} {c : Nat} (h : RV w ok (opss l) (.slice A l.length c)) (hok : ∀ g, ok g → g < w.heap.size) : ∀ k o, l[k]? = some o → ∃ b off Ak ck, A = some ⟨b, off, none⟩ ∧ b < w.heap.size ∧ w.cell? ⟨b, off + k, none⟩ = some (.slice Ak o.length ck) ∧ RV w ok (ops o) (.slice Ak o.length ck) := by
  intro k o hk
  cases h with
  | sl _ _ _ _ _ us hn hnc hc hs hA hone hu =>
    have hkl : k < l.length := (List.getElem?_eq_some_iff.1 hk).1
    obtain ⟨b, off, e, hb, hlt, hcell⟩ := hA (by omega)
    have h1 := hcell k 0 hkl (by omega)
    have h2 := hu k 0 hkl (by omega)
    have e2 : gt2 (l.map encO) k 0 = ops o := by unfold gt2; simp [List.getD_eq_getElem?_getD, hk, encO]
    rw [e2] at h2
    obtain ⟨Ak, ck, us2, e3, _⟩ := src_rv h2 (s := 2) (by simp)
    rw [lst_els, List.length_map] at e3
    rw [e3] at h1 h2
    exact ⟨b, off, Ak, ck, e, hlt, by simpa using h1, h2⟩
theorem rv_opts {w : World} {ok : Nat → Prop} {o : List Jo} {A : Option Addr} {c : Nat} (h : RV w ok (ops o) (.slice A o.length c)) (hok : ∀ g, ok g → g < w.heap.size) : ∀ k x, o[k]? = some x → ∃ b off u, A = some ⟨b, off, none⟩ ∧ b < w.heap.size ∧ w.cell? ⟨b, off + k * 2, none⟩ = some (.int .i64 x.c) ∧ w.cell? ⟨b, off + k * 2 + 1, none⟩ = some u ∧ u.oneCell' = true ∧ RV w ok (tube x.t) u := by
  intro k x hk
  cases h with
  | sl _ _ _ _ _ us hn hnc hc hs hA hone hu =>
    have hkl : k < o.length := (List.getElem?_eq_some_iff.1 hk).1
    obtain ⟨b, off, e, hb, hlt, hcell⟩ := hA (by omega)
    have h1 := hcell k 0 hkl (by omega)
    have h2 := hcell k 1 hkl (by omega)
    have r1 := hu k 0 hkl (by omega)
    have r2 := hu k 1 hkl (by omega)
    have e1 : gt2 (o.map encJ) k 0 = .int x.c := by unfold gt2; simp [List.getD_eq_getElem?_getD, hk, encJ]
    have e2 : gt2 (o.map encJ) k 1 = tube x.t := by unfold gt2; simp [List.getD_eq_getElem?_getD, hk, encJ]
    rw [e1] at r1
    rw [e2] at r2
    rw [RV.lit_iff.1 r1] at h1
    exact ⟨b, off, us k 1, e, hlt, by simpa using h1, h2, hone k 1 hkl (by omega), r2⟩
theorem rv_len {w : World} {ok : Nat → Prop} {o : List Jo} {A : Option Addr} {c : Nat} (h : RV w ok (ops o) (.slice A o.length c)) : o.length ≤ maxLen := by
  cases h with
  | sl _ _ _ _ _ us hn hnc hc hs hA hone hu => simp at hn; omega
theorem gl_up {B B' : Nat} {w w' : World} {ok : Nat → Prop} (h : Gl B w ok) (hb : Below B w w') (hB : B ≤ B') : Gl B' w' ok := by
  have h2 := h.later hb
  exact ⟨fun p hp => ⟨Nat.lt_of_lt_of_le (h2.1 p hp).1 hB, (h2.1 p hp).2⟩, fun g hg => ⟨Nat.lt_of_lt_of_le (h2.2 g hg).1 hB, (h2.2 g hg).2⟩⟩
abbrev ofSh : Sh := .tup [.agg [.p, .p], .sc]
theorem rs_of {W : World} {okn : Nat → Prop} {B : Nat} {x0 x1 : AV} {u0 u1 : Value} {e : Int} (h0 : RV W okn x0 u0) (h1 : RV W okn x1 u1) (o0 : u0.oneCell' = true) (o1 : u1.oneCell' = true) : RS2 W okn B (.tup [.agg [x0, x1], .int e]) (.tuple #[.agg #[u0, u1], .int .i64 e]) ofSh := by
  refine ⟨_, rfl, rfl, ⟨_, rfl, rfl⟩, fun i hi => ?_⟩
  have : i = 0 ∨ i = 1 := by have : i < 2 := hi
                             omega
  rcases this with rfl | rfl
  · refine ⟨_, rfl, rfl, ⟨_, rfl, rfl⟩, fun j hj => ?_⟩
    have : j = 0 ∨ j = 1 := by have : j < 2 := hj
                               omega
    rcases this with rfl | rfl
    · exact ⟨o0, h0⟩
    · exact ⟨o1, h1⟩
  · exact .lit _
theorem of_apart (v : Value) : RowsApart v ofSh := fun j i j' i' hr => by
  exfalso
  have : isRow (leafSh j i ofSh) = false := by
    rcases j with _ | _ | j <;> rcases i with _ | _ | i <;> rfl
  rw [this] at hr; cases hr
theorem of_err {w W : World} {ok : Nat → Prop} {l : List (List Jo)} {s : Sp} {e : Int} (he : ofJ l s = .tup [.agg [.sl 1 [], .lit (.map none)], .int e]) (hb : Below w.heap.size w W) (hd : w.drawn ≤ W.drawn) :
    ∃ v, Ending.returned (.tuple #[.agg #[.slice none 0 0, .map none], .int .i64 e]) = .returned v ∧ Below w.heap.size w W ∧ RS2 W (okNew ok w.heap.size v ofSh) w.heap.size (ofJ l s) v ofSh ∧ RowsApart v ofSh ∧ w.drawn ≤ W.drawn :=
  ⟨_, rfl, hb, by rw [he]; exact rs_of (rv_nil 1 _) (.lit _) rfl rfl, of_apart _, hd⟩
theorem no_rows (v : Value) (g : Nat) : ¬ inRows v ofSh g := fun ⟨j, i, hr, _⟩ => by
  have : isRow (leafSh j i ofSh) = false := by
    rcases j with _ | _ | j <;> rcases i with _ | _ | i <;> rfl
  rw [this] at hr; cases hr
theorem of_ok {w w4 wr : World} {ok : Nat → Prop} {l : List (List Jo)} {s : Sp} {A : Option Addr} {c g b : Nat} (he : ofJ l s = .tup [.agg [opss l, .mp 4 (clL l s)], .int 0]) (J : OfW w w4 g (clL l s) wr) (h0 : RV w ok (opss l) (.slice A l.length c)) (hg : w.heap.size ≤ g) (hb : w.heap.size ≤ b) (hbg : g ≠ b) (hgr : g < wr.heap.size) (u1 u2 : Value) (o1 o2 : Nat) :
    ∃ v, Ending.returned (.tuple #[.agg #[.slice A l.length c, .map (some g)], .int .i64 0]) = .returned v ∧ Below w.heap.size w ((wr.setCell ⟨b, o1, none⟩ u1).setCell ⟨b, o2, none⟩ u2) ∧ RS2 ((wr.setCell ⟨b, o1, none⟩ u1).setCell ⟨b, o2, none⟩ u2) (okNew ok w.heap.size v ofSh) w.heap.size (ofJ l s) v ofSh ∧ RowsApart v ofSh ∧ w.drawn ≤ ((wr.setCell ⟨b, o1, none⟩ u1).setCell ⟨b, o2, none⟩ u2).drawn := by
  have hB : Below w.heap.size w ((wr.setCell ⟨b, o1, none⟩ u1).setCell ⟨b, o2, none⟩ u2) := (J.bel.setCell (by simp only; omega) _).setCell (by simp only; omega) _
  refine ⟨_, rfl, hB, ?_, of_apart _, J.drw⟩
  rw [he]
  obtain ⟨es, ck, e1, e2⟩ := J.map
  refine rs_of (h0.mono fun b' hb' hl => ⟨.inl hb', hB.block b' hl⟩) (.mp 4 (clL l s) g es ck (.inr ⟨hg, no_rows _ _⟩) ?_ ?_ e2 J.good.dst J.good.key) rfl rfl
  · have : ((wr.setCell ⟨b, o1, none⟩ u1).setCell ⟨b, o2, none⟩ u2).heap.size = wr.heap.size := by simp [World.setCell]
    omega
  · rw [Below.heap_setCell _ _ _ _ hbg, Below.heap_setCell _ _ _ _ hbg]; exact e1
theorem rv_sp (w : World) (ok : Nat → Prop) (s : Sp) : RV w ok (sp s) (.agg #[.int .i64 s.la, .int .i64 s.ve]) := by
  refine .agg _ _ rfl (fun i hi => ?_) fun i hi => ?_
  all_goals
    have : i = 0 ∨ i = 1 := by have : i < 2 := by simpa [encSp] using hi
                               omega
    rcases this with rfl | rfl
  · rfl
  · rfl
  · exact .lit _
  · exact .lit _
theorem ofw_next {w w4 wr wc : World} {g : Nat} {L L' : Mp} {o : Obj} {es es' : Array MapEntry} {ck ck' : Nat} (J : OfW w w4 g L wr) (hbc : Below (wr.alloc o).heap.size (wr.alloc o) wc) (hdc : (wr.alloc o).drawn ≤ wc.drawn) (hg : w.heap.size ≤ g) (hg4 : g < w4.heap.size) (he : wc.heap[g]? = some (.map es ck)) (he4 : es'.toList.map entP = L'.map mpP) (hG : GoodM L') : OfW w w4 g L' (ChangeMaps.setBlock wc g (.map es' ck')) := by
  have hz : (wr.alloc o).heap.size = wr.heap.size + 1 := by simp
  have h1 := J.bel.size
  have h2 := J.low
  have h3 := hbc.size
  have hb2 : Below w.heap.size w wc := (J.bel.alloc h1 o).trans (hbc.mono (by omega))
  have hother : ∀ b, b ≠ g → (ChangeMaps.setBlock wc g (.map es' ck')).heap[b]? = wc.heap[b]? := fun b hb => ChangeMaps.heap_setBlock_other he _ hb
  refine ⟨⟨hb2.os, hb2.tape, hb2.output, by simp [ChangeMaps.setBlock]; omega, fun b hb => (hother b (by omega)).trans (hb2.block b hb)⟩, by simp [ChangeMaps.setBlock]; omega, fun b hb hne => (hother b hne).trans ((hbc.block b (by omega)).trans ((heap_alloc_old _ _ (by omega)).trans (J.same b hb hne))), ⟨es', ck', ChangeMaps.heap_setBlock_same he _, he4⟩, hG, Nat.le_trans J.drw hdc⟩
theorem clB_at {l : List (List Jo)} {s : Sp} {j k m n : Nat} {a b : List Jo} {x y : Jo} (ha : l[j]? = some a) (hb : l[k]? = some b) (hx : a[m]? = some x) (hy : b[n]? = some y) : clB l s j k m n = (firE x.t y.t s == 0) := by
  unfold clB optAt
  simp only [List.getD_eq_getElem?_getD, ha, hb, hx, hy, Option.getD_some]
  rfl
theorem wr_succ {m : Nat} (h : (m : Int) ≤ 9223372036854775806) : Value.int .i64 (wr ((m : Int) + 1)) = Value.int .i64 ((m + 1 : Nat) : Int) := by
  rw [wr_id (by omega) (by omega)]
  exact congrArg (Value.int .i64) (by omega)
theorem rs_tup2 {W : World} {okn : Nat → Prop} {B : Nat} {a b : Value} {v : Value} (h : RS2 W okn B (.tup [.lit a, .lit b]) v (.tup [.sc, .sc])) : v = .tuple #[a, b] := by
  obtain ⟨vs, rfl, hs, _, h3⟩ := h
  obtain ⟨vs⟩ := vs
  match vs, hs with
  | [p, q], _ =>
    have h0 : RV W noBlock (.lit a) p := h3 0 (by simp)
    have h1 : RV W noBlock (.lit b) q := h3 1 (by simp)
    obtain rfl := RV.lit_iff.1 h0
    obtain rfl := RV.lit_iff.1 h1
    rfl
theorem rv_tube {w W : World} {ok : Nat → Prop} {l : List Nd} {v : Value} (h : RV w ok (tube l) v) (hok : ∀ g, ok g → g < w.heap.size) (hb : Below w.heap.size w W) : RV W ok (tube l) v := h.mono fun b hb' hl => ⟨hb', hb.block b hl⟩
theorem of_fn (l : List (List Jo)) (s : Sp) : Fn Try.prog 15 [opss l, sp s] (.tup [.agg [.p, .p], .sc]) (ofJ l s) := by
  refine ⟨Try.call15, fun w ok cargs hok hgl hsz hargs => calls_of_wp Try.func15 rfl ?_⟩
  obtain ⟨c0, c1, rfl⟩ : ∃ c0 c1, cargs = #[c0, c1] := by
    obtain ⟨c⟩ := cargs
    match c, hsz with
    | [a, b], _ => exact ⟨a, b, rfl⟩
  have h0 : RV w ok (opss l) c0 := hargs 0 (by simp)
  have h1 : RV w ok (sp s) c1 := hargs 1 (by simp)
  obtain rfl : c1 = .agg #[.int .i64 s.la, .int .i64 s.ve] := by
    cases h1 with
    | agg _ vs hl _ hh =>
      obtain ⟨vs⟩ := vs
      match vs, hl with
      | [a, b], _ =>
        obtain rfl := RV.lit_iff.1 (hh 0 (by simp [encSp]))
        obtain rfl := RV.lit_iff.1 (hh 1 (by simp [encSp]))
        rfl
  obtain ⟨A, c, rfl⟩ : ∃ A c, c0 = .slice A l.length c := by
    obtain ⟨A, c, us, e, _⟩ := src_rv h0 (s := 1) (by simp)
    exact ⟨A, c, by rw [e, lst_els]; simp⟩
  simp only [Try.ntmps15, List.size_toArray, List.length_cons, List.length_nil, Nat.reduceAdd, Nat.reduceSub, Array.replicate_succ, Array.replicate_zero, List.push_toArray, List.append_toArray, List.nil_append, List.cons_append]
  clear hargs h1 hsz
  go_wp2_with fail
  generalize hw1 : (w.alloc (.cells #[.int .i64 s.la, .int .i64 s.ve] 24)).alloc (.cells #[.slice none 0 0, .map none] 50) = w1
  have hz1 : w1.heap.size = w.heap.size + 2 := by rw [← hw1]; simp
  have hb1 : Below w.heap.size w w1 := by rw [← hw1]; exact ((Below.refl _ w).alloc (Nat.le_refl _) _).alloc (by simp) _
  have hd1 : w1.drawn = w.drawn := by rw [← hw1]; rfl
  have s31 : w1.heap[w.heap.size]? = some (.cells #[.int .i64 s.la, .int .i64 s.ve] 24 (0, 0)) := by
    rw [← hw1, heap_alloc_old _ _ (by simp)]; exact World.alloc_heap_new w _
  have s41 : w1.heap[w.heap.size + 1]? = some (.cells #[.slice none 0 0, .map none] 50 (0, 0)) := by
    rw [← hw1]
    have := World.alloc_heap_new (w.alloc (.cells #[.int .i64 s.la, .int .i64 s.ve] 24)) (.cells #[.slice none 0 0, .map none] 50)
    simpa using this
  clear hw1
  have hok1 : ∀ g, ok g → g < w1.heap.size := fun g hg => by have := hok g hg; omega
  refine ((csep_fn s).2 w1 ok #[.agg #[.int .i64 s.la, .int .i64 s.ve]] hok1 (gl_up hgl hb1 (by omega)) rfl (fun i hi => by
    obtain rfl : i = 0 := by simpa using hi
    exact rv_sp w1 ok s)).mono ?_
  rintro e w2 ⟨v, rfl, hb2, hR, _, hd2⟩
  obtain rfl := RV.lit_iff.1 hR
  clear hR
  have hz2 := hb2.size
  have hb2w : Below w.heap.size w w2 := hb1.trans (hb2.mono (by omega))
  have s32 := (hb2.block _ (show w.heap.size < w1.heap.size by omega)).trans s31
  have s42 := (hb2.block _ (show w.heap.size + 1 < w1.heap.size by omega)).trans s41
  clear s31 s41
  by_cases hs : sepE s = 0
  · have hsd : (sepE s != 0) = false := by simp [hs]
    go_wp2_with fail
    have hok2 : ∀ g, ok g → g < w2.heap.size := fun g hg => by have := hok g hg; omega
    have h02 : RV w2 ok (opss l) (.slice A l.length c) := h0.mono fun b hb hl => ⟨hb, hb2w.block b hl⟩
    refine ((jcheck_fn l).2 w2 ok #[.slice A l.length c] hok2 (gl_up hgl hb2w (by omega)) rfl (fun i hi => by
      obtain rfl : i = 0 := by simpa using hi
      exact h02)).mono ?_
    rintro e w3 ⟨v, rfl, hb3, hR, _, hd3⟩
    obtain rfl := RV.lit_iff.1 hR
    clear hR h02
    have hz3 := hb3.size
    have hb3w : Below w.heap.size w w3 := hb2w.trans (hb3.mono (by omega))
    have s33 := (hb3.block _ (show w.heap.size < w2.heap.size by omega)).trans s32
    have s43 := (hb3.block _ (show w.heap.size + 1 < w2.heap.size by omega)).trans s42
    clear s32 s42
    have c40 : w3.cell? ⟨w.heap.size + 1, 0, none⟩ = some (.slice none 0 0) := by rw [cell_of_row w3 _ _ _ _ _ s43]; rfl
    have c41 : w3.cell? ⟨w.heap.size + 1, 1, none⟩ = some (.map none) := by rw [cell_of_row w3 _ _ _ _ _ s43]; rfl
    have f40 : w3.frozen? ⟨w.heap.size + 1, 0, none⟩ = false := frozen_of_row w3 _ _ _ _ s43
    have f41 : w3.frozen? ⟨w.heap.size + 1, 1, none⟩ = false := frozen_of_row w3 _ _ _ _ s43
    by_cases hj : jcE l = 0
    · have hjd : (jcE l != 0) = false := by simp [hj]
      clear c40 c41 f40 f41
      have hmk : (Instr.makeMap 48 none).run Try.prog w3 = .ok (.map (some w3.heap.size)) (w3.alloc (.map #[] 0)) := by simp [Instr.makeMap]
      go_wp2
      generalize hw4 : (w3.alloc (.map #[] 0)).alloc (.cells #[.slice A l.length c, .map (some w3.heap.size)] 50) = w4
      have hz4 : w4.heap.size = w3.heap.size + 2 := by rw [← hw4]; simp
      have hb34 : Below w3.heap.size w3 w4 := by rw [← hw4]; exact ((Below.refl _ w3).alloc (Nat.le_refl _) _).alloc (by simp) _
      have hd4 : w4.drawn = w3.drawn := by rw [← hw4]; rfl
      have s34 := (hb34.block _ (show w.heap.size < w3.heap.size by omega)).trans s33
      have s44 := (hb34.block _ (show w.heap.size + 1 < w3.heap.size by omega)).trans s43
      have s84 : w4.heap[w3.heap.size + 1]? = some (.cells #[.slice A l.length c, .map (some w3.heap.size)] 50 (0, 0)) := by
        rw [← hw4]
        have := World.alloc_heap_new (w3.alloc (.map #[] 0)) (.cells #[.slice A l.length c, .map (some w3.heap.size)] 50)
        simpa using this
      have m4 : w4.heap[w3.heap.size]? = some (.map #[] 0) := by
        rw [← hw4, heap_alloc_old _ _ (by simp)]
        exact World.alloc_heap_new w3 _
      have hb4w : Below w.heap.size w w4 := hb3w.trans (hb34.mono (by omega))
      clear hw4 hmk
      have J0 : OfW w w4 w3.heap.size [] w4 := ⟨hb4w, Nat.le_refl _, fun _ _ _ => rfl, ⟨#[], 0, m4, rfl⟩, ⟨.nil, fun p hp => by simp at hp⟩, by omega⟩
      have hel := rv_elems h0 hok
      have hl6 : l.length ≤ 6 := by
        unfold jcE at hj
        split at hj
        · cases hj
        · omega
      have HE := Lib.hid hel
      have H4 := Lib.hid (And.intro s34 (And.intro s44 s84))
      clear s33 s43 s34 s44 s84 hel m4 hb1 hb2 hb3 hb2w hb3w hb34 hok2
      go_loopg [34] l.length (fun g i wr => ∃ k : Nat, g = l.length - k ∧ k ≤ l.length ∧ i = .int .i64 k ∧ OfW w w4 w3.heap.size (foldN (st1 l s) k []) wr)
      case atStart => exact ⟨0, rfl, by omega, rfl, J0⟩
      case round =>
        obtain ⟨k, rfl, hk, rfl, J⟩ := hrel
        by_cases hlt : k < l.length
        · have hlt' : (k : Int) < l.length := by omega
          go_wp2_with fail
          go_loopg [38] k (fun g i wr => ∃ j : Nat, g = k - j ∧ j ≤ k ∧ i = .int .i64 j ∧ OfW w w4 w3.heap.size (foldN (st2 l s k) j (foldN (st1 l s) k [])) wr)
          case atStart => exact ⟨0, rfl, by omega, rfl, J⟩
          case round =>
            obtain ⟨j, rfl, hjk, rfl, J⟩ := hrel
            by_cases hlt2 : j < k
            · have hlt2' : (j : Int) < k := by omega
              obtain ⟨oj, hoj⟩ : ∃ oj, l[j]? = some oj := ⟨_, List.getElem?_eq_getElem (by omega)⟩
              obtain ⟨bA, off, Aj, cj, eA, hbA, hcA, hrj⟩ := HE.out j oj hoj
              subst eA
              have hcA2 : wr.cell? ⟨bA, off + j, none⟩ = some (.slice Aj oj.length cj) := (World.cell?_of_block (a := ⟨bA, off + j, none⟩) (J.bel.block bA hbA)).trans hcA
              have HJ := Lib.hid J
              have HR := Lib.hid hrj
              clear hcA J hrj
              go_wp2_with fail
              go_loopg [46] oj.length (fun g i wr => ∃ m : Nat, g = oj.length - m ∧ m ≤ oj.length ∧ i = .int .i64 m ∧ OfW w w4 w3.heap.size (foldN (st3 l s k j) m (foldN (st2 l s k) j (foldN (st1 l s) k []))) wr)
              case atStart => exact ⟨0, rfl, by omega, rfl, HJ.out⟩
              case round =>
                obtain ⟨m, rfl, hm, rfl, J⟩ := hrel
                clear HJ
                by_cases hlt3 : m < oj.length
                · have hlt3' : (m : Int) < oj.length := by omega
                  obtain ⟨x, hx⟩ : ∃ x, oj[m]? = some x := ⟨_, List.getElem?_eq_getElem hlt3⟩
                  obtain ⟨bj, offj, ux, eA, hbj, hcx, hcu, hux1, hrx⟩ := rv_opts HR.out hok m x hx
                  subst eA
                  obtain ⟨Ax, cx, rfl⟩ : ∃ Ax cx, ux = .slice Ax x.t.length cx := by
                    obtain ⟨Ax, cx, us, e, _⟩ := src_rv hrx (s := 6) (by simp)
                    exact ⟨Ax, cx, by rw [e, lst_els]; simp⟩
                  obtain ⟨okk, hokk⟩ : ∃ okk, l[k]? = some okk := ⟨_, List.getElem?_eq_getElem hlt⟩
                  obtain ⟨bA', off', Ak, ck, eA', hbA', hcA', hrk⟩ := HE.out k okk hokk
                  obtain ⟨rfl, rfl⟩ : bA = bA' ∧ off = off' := by injection eA' with e; injection e with e1 e2; exact ⟨e1, e2⟩
                  have hcx2 : wr.cell? ⟨bj, offj + m * 2, none⟩ = some (.int .i64 x.c) := (World.cell?_of_block (a := ⟨bj, offj + m * 2, none⟩) (J.bel.block bj hbj)).trans hcx
                  have hcu2 : wr.cell? ⟨bj, offj + m * 2 + 1, none⟩ = some (.slice Ax x.t.length cx) := (World.cell?_of_block (a := ⟨bj, offj + m * 2 + 1, none⟩) (J.bel.block bj hbj)).trans hcu
                  have hcA2 : wr.cell? ⟨bA, off + k, none⟩ = some (.slice Ak okk.length ck) := (World.cell?_of_block (a := ⟨bA, off + k, none⟩) (J.bel.block bA hbA)).trans hcA'
                  have hlow := J.low
                  have hsz2 := J.bel.size
                  have hne1 : bA ≠ wr.heap.size := by omega
                  have hbw : ∀ b, b < w.heap.size → b < wr.heap.size := fun b hb => by omega
                  have hcA3 : (wr.alloc (.cells #[.int .i64 x.c, .slice Ax x.t.length cx] 36)).cell? ⟨bA, off + k, none⟩ = some (.slice Ak okk.length ck) := (World.cell?_of_block (a := ⟨bA, off + k, none⟩) (heap_alloc_old _ _ (hbw bA hbA))).trans hcA2
                  have HJ := Lib.hid J
                  have hlj : oj.length ≤ 9223372036854775807 := by have := rv_len HR.out; unfold maxLen at this; omega
                  have hlk : okk.length ≤ 9223372036854775807 := by have := rv_len hrk; unfold maxLen at this; omega
                  have HRk := Lib.hid hrk
                  have HRx := Lib.hid hrx
                  clear hcx hcu hcA' hcA2 J hrk hrx
                  obtain ⟨wr3, rfl⟩ : ∃ x, x = wr := ⟨wr, rfl⟩
                  go_wp2_with fail
                  go_loopg [56] okk.length (fun g i wr' => ∃ n : Nat, g = okk.length - n ∧ n ≤ okk.length ∧ i = .int .i64 n ∧ OfW w w4 w3.heap.size (foldN (st4 l s k j m) n (foldN (st3 l s k j) m (foldN (st2 l s k) j (foldN (st1 l s) k [])))) wr' ∧ wr'.heap[wr3.heap.size]? = some (.cells #[.int .i64 x.c, .slice Ax x.t.length cx] 36 (0, 0)))
                  case atStart => exact ⟨0, rfl, by omega, rfl, ⟨HJ.out.bel.alloc (by omega) _, by simp; omega, fun b hb hne => (heap_alloc_old _ _ (by omega)).trans (HJ.out.same b hb hne), by
                    obtain ⟨es, ck, e1, e2⟩ := HJ.out.map
                    exact ⟨es, ck, (heap_alloc_old _ _ (by omega)).trans e1, e2⟩, HJ.out.good, HJ.out.drw⟩, World.alloc_heap_new _ _⟩
                  case round =>
                    obtain ⟨n, rfl, hn, rfl, J, hbx⟩ := hrel
                    by_cases hlt4 : n < okk.length
                    · have hlt4' : (n : Int) < okk.length := by omega
                      obtain ⟨y, hy⟩ : ∃ y, okk[n]? = some y := ⟨_, List.getElem?_eq_getElem hlt4⟩
                      obtain ⟨bk, offk, uy, eA, hbk, hcy, hcv, huy1, hry⟩ := rv_opts HRk.out hok n y hy
                      subst eA
                      obtain ⟨Ay, cy, rfl⟩ : ∃ Ay cy, uy = .slice Ay y.t.length cy := by
                        obtain ⟨Ay, cy, us, e, _⟩ := src_rv hry (s := 6) (by simp)
                        exact ⟨Ay, cy, by rw [e, lst_els]; simp⟩
                      have hcy2 : wr.cell? ⟨bk, offk + n * 2, none⟩ = some (.int .i64 y.c) := (World.cell?_of_block (a := ⟨bk, offk + n * 2, none⟩) (J.bel.block bk hbk)).trans hcy
                      have hcv2 : wr.cell? ⟨bk, offk + n * 2 + 1, none⟩ = some (.slice Ay y.t.length cy) := (World.cell?_of_block (a := ⟨bk, offk + n * 2 + 1, none⟩) (J.bel.block bk hbk)).trans hcv
                      have hlow2 := J.low
                      have hsz5 := J.bel.size
                      have hbxl : wr3.heap.size < wr.heap.size := (Array.getElem?_eq_some_iff.1 hbx).1
                      have s3r : wr.heap[w.heap.size]? = some (.cells #[.int .i64 s.la, .int .i64 s.ve] 24 (0, 0)) := (J.same _ (by omega) (by omega)).trans H4.out.1
                      have s8r : wr.heap[w3.heap.size + 1]? = some (.cells #[.slice (some ⟨bA, off, none⟩) l.length c, .map (some w3.heap.size)] 50 (0, 0)) := (J.same _ (by omega) (by omega)).trans H4.out.2.2
                      have hbx2 : (wr.alloc (.cells #[.int .i64 y.c, .slice Ay y.t.length cy] 36)).heap[wr3.heap.size]? = some (.cells #[.int .i64 x.c, .slice Ax x.t.length cx] 36 (0, 0)) := (heap_alloc_old _ _ hbxl).trans hbx
                      have s3r2 : (wr.alloc (.cells #[.int .i64 y.c, .slice Ay y.t.length cy] 36)).heap[w.heap.size]? = some (.cells #[.int .i64 s.la, .int .i64 s.ve] 24 (0, 0)) := (heap_alloc_old _ _ (by omega)).trans s3r
                      have hX0 : (wr.alloc (.cells #[.int .i64 y.c, .slice Ay y.t.length cy] 36)).cell? ⟨wr3.heap.size, 1, none⟩ = some (.slice Ax x.t.length cx) := by rw [cell_of_row _ _ _ _ _ _ hbx2]; rfl
                      have hX1 : (wr.alloc (.cells #[.int .i64 y.c, .slice Ay y.t.length cy] 36)).cell? ⟨w.heap.size, 0, none⟩ = some (.int .i64 s.la) := by rw [cell_of_row _ _ _ _ _ _ s3r2]; rfl
                      have hX2 : (wr.alloc (.cells #[.int .i64 y.c, .slice Ay y.t.length cy] 36)).cell? ⟨w.heap.size, 1, none⟩ = some (.int .i64 s.ve) := by rw [cell_of_row _ _ _ _ _ _ s3r2]; rfl
                      have HJ2 := Lib.hid J
                      have HRy := Lib.hid hry
                      have HB := Lib.hid (And.intro hbx2 (And.intro s3r2 s8r))
                      clear hcy hcv J hry hbx hbx2 s3r s3r2 s8r
                      go_wp2_with fail
                      have hbW : Below w.heap.size w (wr.alloc (.cells #[.int .i64 y.c, .slice Ay y.t.length cy] 36)) := HJ2.out.bel.alloc (by omega) _
                      have hW : (wr.alloc (.cells #[.int .i64 y.c, .slice Ay y.t.length cy] 36)).heap.size = wr.heap.size + 1 := by simp
                      refine ((first_fn x.t y.t s).2 _ ok #[.slice Ax x.t.length cx, .slice Ay y.t.length cy, .agg #[.int .i64 s.la, .int .i64 s.ve]] (fun g hg => by have := hok g hg; omega) (gl_up hgl hbW (by omega)) rfl (fun i hi => by
                        match i, hi with
                        | 0, _ => exact rv_tube HRx.out hok hbW
                        | 1, _ => exact rv_tube HRy.out hok hbW
                        | 2, _ => exact rv_sp _ ok s)).mono ?_
                      rintro e wc ⟨v, rfl, hbc, hR, _, hdc⟩
                      obtain rfl := rs_tup2 hR
                      clear hR
                      have c8 : wc.cell? ⟨w3.heap.size + 1, 1, none⟩ = some (.map (some w3.heap.size)) := by
                        rw [cell_of_row _ _ _ _ _ _ ((hbc.block _ (by omega)).trans ((heap_alloc_old _ _ (by omega)).trans HB.out.2.2))]; rfl
                      obtain ⟨es, ck, he1, he2⟩ := HJ2.out.map
                      have he3 : wc.heap[w3.heap.size]? = some (.map es ck) := (hbc.block _ (by omega)).trans ((heap_alloc_old _ _ (by omega)).trans he1)
                      have hI4 : I64L [(j : Int), k, m, n] := by
                        intro z hz
                        simp only [List.mem_cons, List.mem_nil_iff, or_false] at hz
                        rcases hz with rfl | rfl | rfl | rfl <;> omega
                      obtain ⟨es', ck', hmu, he4⟩ := put_mp he3 he2 HJ2.out.good (xs := [(j : Int), k, m, n]) rfl hI4 (firE x.t y.t s == 0)
                      simp only [mpKey, List.map_cons, List.map_nil] at hmu
                      go_wp2_with fail
                      have hJ3 := ofw_next (ck' := ck') (L' := st4 l s k j m n (foldN (st4 l s k j m) n (foldN (st3 l s k j) m (foldN (st2 l s k) j (foldN (st1 l s) k []))))) HJ2.out hbc hdc (by omega) (by omega) he3 (by unfold st4; rw [clB_at hoj hokk hx hy]; exact he4) (by unfold st4; exact HJ2.out.good.put rfl hI4 _)
                      have hbx3 : (ChangeMaps.setBlock wc w3.heap.size (.map es' ck')).heap[wr3.heap.size]? = some (.cells #[.int .i64 x.c, .slice Ax x.t.length cx] 36 (0, 0)) := (ChangeMaps.heap_setBlock_other he3 _ (by omega)).trans ((hbc.block _ (by omega)).trans HB.out.1)
                      go_roundg (okk.length - (n + 1))
                      case measure => omega
                      case rel => exact ⟨n + 1, rfl, by omega, wr_succ (by omega), hJ3, hbx3⟩
                    · obtain rfl : n = okk.length := by omega
                      have J3 : OfW w w4 w3.heap.size (foldN (st3 l s k j) (m + 1) (foldN (st2 l s k) j (foldN (st1 l s) k []))) wr := by
                        have : (l.getD k []).length = okk.length := by rw [List.getD_eq_getElem?_getD, hokk]; rfl
                        show OfW w w4 w3.heap.size (st3 l s k j m (foldN (st3 l s k j) m (foldN (st2 l s k) j (foldN (st1 l s) k [])))) wr
                        have e : ∀ m', st3 l s k j m' = foldN (st4 l s k j m') okk.length := fun m' => by funext L; unfold st3; rw [this]
                        rw [e m]
                        exact J
                      have HJ3 := Lib.hid J3
                      clear J J3 hbx
                      go_wp2_with fail
                      go_roundg (oj.length - (m + 1))
                      case measure => omega
                      case rel => exact ⟨m + 1, rfl, by omega, wr_succ (by omega), HJ3.out⟩
                · obtain rfl : m = oj.length := by omega
                  have J3 : OfW w w4 w3.heap.size (foldN (st2 l s k) (j + 1) (foldN (st1 l s) k [])) wr := by
                    have : (l.getD j []).length = oj.length := by rw [List.getD_eq_getElem?_getD, hoj]; rfl
                    show OfW w w4 w3.heap.size (st2 l s k j (foldN (st2 l s k) j (foldN (st1 l s) k []))) wr
                    have e : ∀ j', j' = j → st2 l s k j' = foldN (st3 l s k j') oj.length := fun j' h => by subst h; funext L; unfold st2; rw [this]
                    rw [e j rfl]
                    exact J
                  have HJ3 := Lib.hid J3
                  clear J J3
                  go_wp2_with fail
                  go_roundg (k - (j + 1))
                  case measure => omega
                  case rel => exact ⟨j + 1, rfl, by omega, wr_succ (by omega), HJ3.out⟩
            · obtain rfl : j = k := by omega
              have J3 : OfW w w4 w3.heap.size (foldN (st1 l s) (j + 1) []) wr := J
              have HJ3 := Lib.hid J3
              clear J J3
              go_wp2_with fail
              go_roundg (l.length - (j + 1))
              case measure => omega
              case rel => exact ⟨j + 1, rfl, by omega, wr_succ (by omega), HJ3.out⟩
        · obtain rfl : k = l.length := by omega
          have hsz5 := J.bel.size
          have s3r : wr.heap[w.heap.size + 1]? = some (.cells #[.slice none 0 0, .map none] 50 (0, 0)) := (J.same _ (by omega) (by omega)).trans H4.out.2.1
          have s8r : wr.heap[w3.heap.size + 1]? = some (.cells #[.slice A l.length c, .map (some w3.heap.size)] 50 (0, 0)) := (J.same _ (by omega) (by omega)).trans H4.out.2.2
          have c80 : wr.cell? ⟨w3.heap.size + 1, 0, none⟩ = some (.slice A l.length c) := by rw [cell_of_row _ _ _ _ _ _ s8r]; rfl
          have c81 : wr.cell? ⟨w3.heap.size + 1, 1, none⟩ = some (.map (some w3.heap.size)) := by rw [cell_of_row _ _ _ _ _ _ s8r]; rfl
          have c40 : wr.cell? ⟨w.heap.size + 1, 0, none⟩ = some (.slice none 0 0) := by rw [cell_of_row _ _ _ _ _ _ s3r]; rfl
          have c41 : wr.cell? ⟨w.heap.size + 1, 1, none⟩ = some (.map none) := by rw [cell_of_row _ _ _ _ _ _ s3r]; rfl
          have f40 : wr.frozen? ⟨w.heap.size + 1, 0, none⟩ = false := frozen_of_row _ _ _ _ _ s3r
          have f41 : wr.frozen? ⟨w.heap.size + 1, 1, none⟩ = false := frozen_of_row _ _ _ _ _ s3r
          have hlw := J.low
          have fin := of_ok (b := w.heap.size + 1) (by unfold ofJ; rw [if_neg (by simp [hs]), if_neg (by simp [hj])]) J h0 (by omega) (by omega) (by omega) (by omega) (.slice A l.length c) (.map (some w3.heap.size)) 0 1
          have HF := Lib.hid fin
          clear J s3r s8r fin
          go_wp2_with fail
          exact bodyPost_ret (v := .tuple #[.agg #[.slice A l.length c, .map (some w3.heap.size)], .int .i64 0]) (by rw [results_cell_tmp rfl]; go_simp) rfl HF.out
    · have hjd : (jcE l != 0) = true := by simp [hj]
      have hbf : Below w.heap.size w ((w3.setCell ⟨w.heap.size + 1, 0, none⟩ (.slice none 0 0)).setCell ⟨w.heap.size + 1, 1, none⟩ (.map none)) := (hb3w.setCell (by simp only; omega) _).setCell (by simp only; omega) _
      have hdf : w.drawn ≤ ((w3.setCell ⟨w.heap.size + 1, 0, none⟩ (.slice none 0 0)).setCell ⟨w.heap.size + 1, 1, none⟩ (.map none)).drawn := by show w.drawn ≤ w3.drawn; omega
      have fin := of_err (ok := ok) (l := l) (s := s) (e := jcE l) (by unfold ofJ; rw [if_neg (by simp [hs]), if_pos hj]) hbf hdf
      have HF := Lib.hid fin
      clear fin hbf hdf
      go_wp2
      exact bodyPost_ret (v := .tuple #[.agg #[.slice none 0 0, .map none], .int .i64 (jcE l)]) (by rw [results_cell_tmp rfl]; go_simp) rfl HF.out
  · have hsd : (sepE s != 0) = true := by simp [hs]
    have c40 : w2.cell? ⟨w.heap.size + 1, 0, none⟩ = some (.slice none 0 0) := by rw [cell_of_row w2 _ _ _ _ _ s42]; rfl
    have c41 : w2.cell? ⟨w.heap.size + 1, 1, none⟩ = some (.map none) := by rw [cell_of_row w2 _ _ _ _ _ s42]; rfl
    have f40 : w2.frozen? ⟨w.heap.size + 1, 0, none⟩ = false := frozen_of_row w2 _ _ _ _ s42
    have f41 : w2.frozen? ⟨w.heap.size + 1, 1, none⟩ = false := frozen_of_row w2 _ _ _ _ s42
    have hbf : Below w.heap.size w ((w2.setCell ⟨w.heap.size + 1, 0, none⟩ (.slice none 0 0)).setCell ⟨w.heap.size + 1, 1, none⟩ (.map none)) := (hb2w.setCell (by simp only; omega) _).setCell (by simp only; omega) _
    have hdf : w.drawn ≤ ((w2.setCell ⟨w.heap.size + 1, 0, none⟩ (.slice none 0 0)).setCell ⟨w.heap.size + 1, 1, none⟩ (.map none)).drawn := by show w.drawn ≤ w2.drawn; omega
    have fin := of_err (ok := ok) (l := l) (s := s) (e := sepE s) (by unfold ofJ; rw [if_pos hs]) hbf hdf
    have HF := Lib.hid fin
    clear fin hbf hdf
    go_wp2
    exact bodyPost_ret (v := .tuple #[.agg #[.slice none 0 0, .map none], .int .i64 (sepE s)]) (by rw [results_cell_tmp rfl]; go_simp) rfl HF.out
end Go.Proofs.Ytaomlgfamnfcjaa
/- joint resolutions: the walk, by visits. -/
namespace Go.Proofs.Ytaomlgfamnfcjaa
open Go.RowKit
set_option linter.unusedVariables false
set_option linter.unusedSimpArgs false
set_option maxRecDepth 100000
set_option maxHeartbeats 2000000
/-- What the walk from a choice visits: m flights are still to choose. -/
def wk (l : List (List Jo)) (L : Mp) : Nat → List Int → List (Nat × List AV)
  | 0, c => if c ≠ [] ∧ 0 ≤ withI L c then [(1, [ints c, .int (withI L c)])] else [(0, [ints c])]
  | m + 1, c => if c ≠ [] ∧ 0 ≤ withI L c then [(1, [ints c, .int (withI L c)])] else (List.range (l.getD c.length []).length).flatMap fun i : Nat => wk l L m (c ++ [(i : Int)])
theorem wk_ok (l : List (List Jo)) (L : Mp) : ∀ (m : Nat) (c : List Int) (p : Nat × List AV), p ∈ wk l L m c → p.1 < [1, 2].length ∧ p.2.length = [1, 2].getD p.1 0 := by
  intro m
  induction m with
  | zero =>
    intro c p hp
    unfold wk at hp
    split at hp
    all_goals
      obtain rfl := List.mem_singleton.1 hp
      exact ⟨by simp, rfl⟩
  | succ m ih =>
    intro c p hp
    unfold wk at hp
    split at hp
    · obtain rfl := List.mem_singleton.1 hp
      exact ⟨by simp, rfl⟩
    · obtain ⟨i, _, h⟩ := List.mem_flatMap.1 hp
      exact ih _ _ h
theorem ref_task {w : World} {ok : Nat → Prop} {a b : AV} {g : Nat} (h : RV w ok (.ref [a, b]) (.pointer (some ⟨g, 0, none⟩))) : ∃ t0 t1, ok g ∧ g < w.heap.size ∧ w.cell? ⟨g, 0, none⟩ = some t0 ∧ w.cell? ⟨g, 1, none⟩ = some t1 ∧ RV w ok (.agg [a, b]) (.agg #[t0, t1]) := by
  cases h with
  | ref _ _ us hok hg hc h1 hh =>
    refine ⟨us 0, us 1, hok, hg, hc 0 (by simp), hc 1 (by simp), .agg _ _ rfl (fun i hi => ?_) fun i hi => ?_⟩
    all_goals
      have : i = 0 ∨ i = 1 := by have : i < 2 := by simpa using hi
                                 omega
    · rcases this with rfl | rfl
      · exact h1 0 (by simp)
      · exact h1 1 (by simp)
    · rcases this with rfl | rfl
      · exact hh 0 (by simp)
      · exact hh 1 (by simp)
theorem clone_in {w X : World} {ok : Nat → Prop} {o : List Int} {A : Option Addr} {c : Nat} (hok : ∀ g, ok g → g < w.heap.size) (hgl : Gl w.heap.size w ok) (hv : RV w ok (ints o) (.slice A o.length c)) (hl : o.length ≤ 1000) (hb : Below w.heap.size w X) :
    Calls Try.prog 23 #[.slice A o.length c] X fun e w3 => ∃ A3 c3, e = .returned (.slice A3 o.length c3) ∧ Below X.heap.size X w3 ∧ X.drawn ≤ w3.drawn ∧ RRow w3 X.heap.size 3 1 noBlock (ints o) (.slice A3 o.length c3) := by
  have hz := hb.size
  refine ((clone_fn o (by omega)).2 X ok #[.slice A o.length c] (fun g hg => by have := hok g hg; omega) (gl_up hgl hb hz) rfl (fun i hi => by
    obtain rfl : i = 0 := by simpa using hi
    exact hv.mono fun b hb' hl' => ⟨hb', hb.block b hl'⟩)).mono ?_
  rintro e w3 ⟨v3, rfl, hb3, hrow, _, hd3⟩
  have hrow : RRow w3 X.heap.size 3 1 noBlock (ints o) v3 := hrow
  obtain ⟨A3, c3, rfl⟩ : ∃ A3 c3, v3 = .slice A3 o.length c3 := by
    obtain ⟨A3, n3, c3, e, hn3, _⟩ := hrow.form
    exact ⟨A3, c3, by rw [e, hn3, lst_els]; simp⟩
  exact ⟨A3, c3, rfl, hb3, hd3, hrow⟩
theorem info_int : (Try.prog.info? 3).map (fun i => (i.zero, i.size, i.bytes)) = some (some (.int .i64 0), 1, 8) := by kernel_rfl
theorem inf_int : ∃ inf, Try.prog.info? 3 = some inf ∧ inf.zero = some (.int .i64 0) ∧ inf.size = 1 ∧ inf.bytes = 8 := by
  have h := info_int
  cases q : Try.prog.info? 3 with
  | none => rw [q] at h; cases h
  | some inf =>
    rw [q] at h
    have h' : (inf.zero, inf.size, inf.bytes) = (some (.int .i64 0), 1, 8) := by injection h
    exact ⟨inf, rfl, congrArg (·.1) h', congrArg (·.2.1) h', congrArg (·.2.2) h'⟩
theorem app_in {Y Z : World} {B g : Nat} {o : List Int} {A3 : Option Addr} {c3 : Nat} {k : Nat} (hZ : Z.heap.size ≤ B) (hb : Below Z.heap.size Z Y) (hB : B ≤ Y.heap.size) (hrow : RRow Y B 3 1 noBlock (ints o) (.slice A3 o.length c3)) (hh : Y.heap[g]? = some (.cells #[.int .i64 (k : Nat)] 3 (0, 0))) (hl : o.length ≤ 1000) :
    ∃ v5 w5, (Builtin.append_ #[27, 27] 27 #[.slice A3 o.length c3, .slice (some ⟨g, 0, none⟩) 1 1]).run Try.prog Y = .ok v5 w5 ∧ Below Z.heap.size Z w5 ∧ Y.drawn ≤ w5.drawn ∧ RRow w5 B 3 1 noBlock (ints (o ++ [(k : Int)])) v5 := by
  have hsrc : Src Y noBlock 1 (ints [(k : Int)]) (.slice (some ⟨g, 0, none⟩) 1 1) := by
    refine ⟨some ⟨g, 0, none⟩, 1, fun _ _ => .int .i64 (k : Nat), rfl, by simp [lst, encI, AV.els], by simp [lst, encI, AV.els, maxLen], fun _ => ⟨_, _, rfl, fun i j hi hj => ?_⟩, fun i j hi hj => rfl, fun i j hi hj => ?_⟩
    · have hi : i < 1 := by simpa [lst, encI, AV.els] using hi
      obtain rfl : i = 0 := by omega
      obtain rfl : j = 0 := by omega
      rw [cell_of_row Y _ _ _ _ _ hh]; rfl
    · have hi : i < 1 := by simpa [lst, encI, AV.els] using hi
      obtain rfl : i = 0 := by omega
      obtain rfl : j = 0 := by omega
      exact .lit _
  obtain ⟨inf, hi0, hz0, hz1, hz2⟩ := inf_int
  obtain ⟨v5, w5, hrun, hgr, hown, hres⟩ := run_append_av (ty := 27) (B := B) (t := 27) Try.underlying27 hi0 hz0 hz1 rfl (by omega) hrow hsrc hB (by omega) (by unfold AV.room; rw [lst_els, hz2]; simp [lst, AV.els]; omega)
  obtain ⟨hrow5, _⟩ := hres noBlock (fun g hg => hg.elim)
  rw [lst_app] at hrow5
  exact ⟨v5, w5, hrun, hb.grown hgr (by omega) (fun g e => by have := (hrow.lt e).1; omega), run_drawn _ hrun, hrow5⟩
theorem step_append_run {P : Program} {w w' : World} {ops : Array Oper} {o : Oper} {a : Act} {K : Act → World → Prop} {Q : Exit → Act → World → Prop} {E : Prop} {v u v' : Value} (hgd : o.guard = none) (s x : Operand) (t : TypeId)
    (ho : o.op = .call { callee := .builtin .append, args := #[s, x], argTypes := #[t, t] }) (hs : a.eval s = v) (hx : a.eval x = u) (hrun : (Builtin.append_ #[t, t] o.type #[v, u]).run P w = .ok v' w') (h : K (a.put o.dst v') w') :
    if Region.wanted o (yielded ops a.tmps) = true then Oper.wp P o a w K Q else E := by
  have hw : Region.wanted o (yielded ops a.tmps) = true := by simp [Region.wanted, hgd]
  rw [if_pos hw]
  unfold Oper.wp
  simp [execOp, ho, resolve, invoke, builtin, hs, hx, hrun, Result.andThen]
  exact h
theorem RRow.below {w w' : World} {B e s : Nat} {r : AV} {v : Value} (h : RRow w B e s noBlock r v) (hb : Below w.heap.size w w') : RRow w' B e s noBlock r v :=
  h.keep (fun g hg => hb.block g (h.lt hg).2) (fun g hg => hg.elim)
theorem step_app {w Z : World} {ops : Array Oper} {op : Oper} {a : Act} {K : Act → World → Prop} {Q : Exit → Act → World → Prop} {E : Prop} {o : List Int} {A3 : Option Addr} {c3 g k : Nat} (hgd : op.guard = none) (s x : Operand)
    (ho : op.op = .call { callee := .builtin .append, args := #[s, x], argTypes := #[27, 27] }) (hty : op.type = 27) (hs : a.eval s = .slice A3 o.length c3) (hx : a.eval x = .slice (some ⟨g, 0, none⟩) 1 1)
    (hl : o.length ≤ 1000) (hb : Below Z.heap.size Z w) (hrow : RRow w Z.heap.size 3 1 noBlock (ints o) (.slice A3 o.length c3)) (hh : w.heap[g]? = some (.cells #[.int .i64 (k : Nat)] 3 (0, 0))) (hdr : Z.drawn ≤ w.drawn)
    (h : ∀ v5 w5, Below Z.heap.size Z w5 → Z.drawn ≤ w5.drawn → RRow w5 Z.heap.size 3 1 noBlock (ints (o ++ [(k : Int)])) v5 → K (a.put op.dst v5) w5) :
    if Region.wanted op (yielded ops a.tmps) = true then Oper.wp Try.prog op a w K Q else E := by
  obtain ⟨v5, w5, hrun, h1, h2, h3⟩ := app_in (Nat.le_refl _) hb hb.size hrow hh hl
  exact step_append_run hgd s x _ ho hs hx (by rw [hty]; exact hrun) (h v5 w5 h1 (Nat.le_trans hdr h2) h3)
theorem ref_lits {w : World} {ok : Nat → Prop} {t0 t1 : Value} {g : Nat} (h : RV w ok (.ref [.lit t0, .lit t1]) (.pointer (some ⟨g, 0, none⟩))) : ok g ∧ g < w.heap.size ∧ w.cell? ⟨g, 0, none⟩ = some t0 ∧ w.cell? ⟨g, 1, none⟩ = some t1 := by
  obtain ⟨u0, u1, h1, h2, h3, h4, h5⟩ := ref_task h
  cases h5 with
  | agg _ _ hl _ hh =>
  have e0 : u0 = t0 := RV.lit_iff.1 (hh 0 (by simp))
  have e1 : u1 = t1 := RV.lit_iff.1 (hh 1 (by simp))
  exact ⟨h1, h2, by rw [h3, e0], by rw [h4, e1]⟩
theorem wkIn {l : List (List Jo)} {L : Mp} {m k : Nat} {o : List Int} {q r : FuncId} {cs ds : Array Value} {J : List (Nat × List AV) → (Nat → Prop) → World → Prop} {evs pre rest : List (Nat × List AV)} {wr : World} {o4 : Nat → Prop} {A : Option Addr} {c g : Nat} {t0 t1 : Value}
    (ih : Vi Try.prog 16 [.agg [opss l, .mp 4 L], ints (o ++ [(k : Int)])] [1, 2] (wk l L m (o ++ [(k : Int)])))
    (hent : ∀ x ∈ [(q, cs), (r, ds)], Ent Try.prog x.1)
    (hJ : ∀ (s : List (Nat × List AV)) (o : Nat → Prop) (A C : World), J s o A → Below A.heap.size A C → A.drawn ≤ C.drawn → ∃ o', J s o' C ∧ (∀ (g : Nat), o g → o' g) ∧ ∀ (g : Nat), A.heap.size ≤ g → g < C.heap.size → o' g)
    (hG : ∀ (s : List (Nat × List AV)) (o : Nat → Prop) (A : World), J s o A → (∀ (g : Nat), o g → g < A.heap.size) ∧ Gl A.heap.size A o)
    (hV : ∀ (pre : List (Nat × List AV)) (p : Nat × List AV) (rest : List (Nat × List AV)) (o_1 : Nat → Prop) (A : World) (vs : Array Value) (Y : AV) (u : Value), evs = pre ++ p :: rest → J pre o_1 A → RVs A o_1 p.snd vs → RV A o_1 Y u →
      Calls Try.prog ([(q, cs), (r, ds)].getD p.fst default).fst (vs ++ ([(q, cs), (r, ds)].getD p.fst default).snd) A fun e A' => (∃ v, e = Ending.returned v) ∧ ∃ o', J (pre ++ [p]) o' A' ∧ RV A' o' Y u)
    (hev : evs = pre ++ wk l L m (o ++ [(k : Int)]) ++ rest) (h4 : J pre o4 wr) (hv4 : RV wr o4 (ints o) (.slice A o.length c)) (hr4 : RV wr o4 (.ref [.lit t0, .lit t1]) (.pointer (some ⟨g, 0, none⟩))) (hrt : RV wr o4 (.agg [opss l, .mp 4 L]) (.agg #[t0, t1]))
    {W : World} {v5 : Value} (hb5 : Below wr.heap.size wr W) (hdr5 : wr.drawn ≤ W.drawn) (hrow5 : RRow W wr.heap.size 3 1 noBlock (ints (o ++ [(k : Int)])) v5) :
    Calls Try.prog 16 #[.agg #[t0, t1], v5, .func (.func q) #[] cs, .func (.func r) #[] ds] W fun e W' => e = .returned (.tuple #[]) ∧ ∃ o', J (pre ++ wk l L m (o ++ [(k : Int)])) o' W' ∧ RV W' o' (ints o) (.slice A o.length c) ∧ RV W' o' (.ref [.lit t0, .lit t1]) (.pointer (some ⟨g, 0, none⟩)) ∧ RV W' o' (.agg [opss l, .mp 4 L]) (.agg #[t0, t1]) := by
  obtain ⟨o5, h5, hs5, hn5⟩ := hJ _ _ _ _ h4 hb5 hdr5
  have hv5 := hv4.mono fun b hb hl => ⟨hs5 b hb, hb5.block b hl⟩
  have hr5 := hr4.mono fun b hb hl => ⟨hs5 b hb, hb5.block b hl⟩
  have ht5 := hrt.mono fun b hb hl => ⟨hs5 b hb, hb5.block b hl⟩
  have hw5 : RV W o5 (ints (o ++ [(k : Int)])) v5 := hrow5.rv (fun g hg => hg.elim) (fun g hg => hn5 g (hrow5.lt hg).1 (hrow5.lt hg).2)
  obtain ⟨_, _, hI⟩ := ih
  exact hI [(q, cs), (r, ds)] (fun s o' X => J (pre ++ s) o' X ∧ RV X o' (ints o) (.slice A o.length c) ∧ RV X o' (.ref [.lit t0, .lit t1]) (.pointer (some ⟨g, 0, none⟩)) ∧ RV X o' (.agg [opss l, .mp 4 L]) (.agg #[t0, t1])) W o5 #[.agg #[t0, t1], v5] rfl hent
    (fun s o' X C hs hb hd => by
      obtain ⟨o'', a1, a2, a3⟩ := hJ _ _ _ _ hs.1 hb hd
      exact ⟨o'', ⟨a1, hs.2.1.mono fun b hb' hl => ⟨a2 b hb', hb.block b hl⟩, hs.2.2.1.mono fun b hb' hl => ⟨a2 b hb', hb.block b hl⟩, hs.2.2.2.mono fun b hb' hl => ⟨a2 b hb', hb.block b hl⟩⟩, a2, a3⟩)
    (fun s o' X hs => hG _ _ _ hs.1)
    (fun pre' p rest' o' X vs Y u he hs hvs hY => by
      refine (hV (pre ++ pre') p (rest' ++ rest) o' X vs (.tup [Y, ints o, .ref [.lit t0, .lit t1], .agg [opss l, .mp 4 L]]) (.tuple #[u, .slice A o.length c, .pointer (some ⟨g, 0, none⟩), .agg #[t0, t1]]) (by rw [hev, he]; simp) hs.1 hvs (.tup _ _ rfl fun i hi => ?_)).mono ?_
      · have : i = 0 ∨ i = 1 ∨ i = 2 ∨ i = 3 := by have : i < 4 := by simpa using hi
                                                   omega
        rcases this with rfl | rfl | rfl | rfl
        · exact hY
        · exact hs.2.1
        · exact hs.2.2.1
        · exact hs.2.2.2
      · rintro e X' ⟨hv, o'', hj, ht⟩
        cases ht with
        | tup _ _ hl ht =>
        exact ⟨hv, o'', ⟨by rw [← List.append_assoc]; exact hj, ht 1 (by simp), ht 2 (by simp), ht 3 (by simp)⟩, ht 0 (by simp)⟩)
    ⟨rfl, fun i hi => by
      have : i = 0 ∨ i = 1 := by have : i < 2 := by simpa using hi
                                 omega
      rcases this with rfl | rfl
      · exact ht5
      · exact hw5⟩
    ⟨by rw [List.append_nil]; exact h5, hv5, hr5, ht5⟩
end Go.Proofs.Ytaomlgfamnfcjaa
/- joint resolutions: the walk, by visits. -/
namespace Go.Proofs.Ytaomlgfamnfcjaa
open Go.RowKit
set_option linter.unusedVariables false
set_option linter.unusedSimpArgs false
set_option maxRecDepth 100000
set_option maxHeartbeats 2000000
theorem walk_vi (l : List (List Jo)) (L : Mp) (hl6 : l.length ≤ 1000) (hol : ∀ o ∈ l, o.length ≤ 1000) : ∀ (m : Nat) (c : List Int), (∀ x ∈ c, 0 ≤ x ∧ x ≤ 1000) → c.length + m = l.length → Vi Try.prog 16 [.agg [opss l, .mp 4 L], ints c] [1, 2] (wk l L m c) := by
  intro m
  induction m with
  | zero =>
    intro o hc ho
    refine ⟨Try.call16, fun p hp => ?_, fun fs J w ok cargs hfs hent hJ hG hV hargs h0 => ?_⟩
    · unfold wk at hp
      split at hp
      · obtain rfl := List.mem_singleton.1 hp
        exact ⟨by simp, rfl⟩
      · obtain rfl := List.mem_singleton.1 hp
        exact ⟨by simp, rfl⟩
    obtain ⟨q, r, rfl⟩ : ∃ q r, fs = [q, r] := by
      match fs, hfs with
      | [q, r], _ => exact ⟨q, r, rfl⟩
    obtain ⟨q, cs⟩ := q
    obtain ⟨r, ds⟩ := r
    have hq : Ent Try.prog q := hent (q, cs) (by simp)
    have hr : Ent Try.prog r := hent (r, ds) (by simp)
    obtain ⟨hsz, hargs⟩ := hargs
    obtain ⟨u0, u1, rfl⟩ : ∃ u0 u1, cargs = #[u0, u1] := by
      obtain ⟨c⟩ := cargs
      match c, hsz with
      | [a, b], _ => exact ⟨a, b, rfl⟩
    have hu0 : RV w ok (.agg [opss l, .mp 4 L]) u0 := hargs 0 (by simp)
    have hu1 : RV w ok (ints o) u1 := hargs 1 (by simp)
    obtain ⟨v0, v1, rfl⟩ : ∃ v0 v1, u0 = .agg #[v0, v1] := by
      cases hu0 with
      | agg _ vs hl _ hh =>
        obtain ⟨vs⟩ := vs
        match vs, hl with
        | [a, b], _ => exact ⟨a, b, rfl⟩
    obtain ⟨A, c, rfl⟩ : ∃ A c, u1 = .slice A o.length c := by
      obtain ⟨A, c, us, e, _⟩ := src_rv hu1 (s := 1) (by simp)
      exact ⟨A, c, by rw [e, lst_els]; simp⟩
    have hu00 : RV w ok (opss l) v0 := by
      cases hu0 with
      | agg _ _ hl _ hh => exact hh 0 (by simp)
    obtain ⟨B, d, rfl⟩ : ∃ B d, v0 = .slice B l.length d := by
      obtain ⟨A, c, us, e, _⟩ := src_rv hu00 (s := 1) (by simp)
      exact ⟨A, c, by rw [e, lst_els]; simp⟩
    refine calls_of_wp Try.func16 rfl ?_
    simp only [Try.ntmps16, List.map_cons, List.map_nil, List.size_toArray, List.length_cons, List.length_nil, Nat.reduceAdd, Nat.reduceSub, Array.replicate_succ, Array.replicate_zero, List.push_toArray, List.append_toArray, List.nil_append, List.cons_append]
    obtain ⟨w2, hw2⟩ : ∃ w2, w2 = w.alloc (.cells #[.slice B l.length d, v1] 50) := ⟨_, rfl⟩
    have hz2 : w2.heap.size = w.heap.size + 1 := by rw [hw2]; simp
    have hb2 : Below w.heap.size w w2 := by rw [hw2]; exact (Below.refl _ w).alloc (Nat.le_refl _) _
    have hd2 : w2.drawn = w.drawn := by rw [hw2]; rfl
    have hh2 : w2.heap[w.heap.size]? = some (.cells #[.slice B l.length d, v1] 50 (0, 0)) := by rw [hw2]; exact World.alloc_heap_new w _
    obtain ⟨o2, h2, hs2, hn2⟩ := hJ _ _ _ _ h0 hb2 (by omega)
    have hv0 : RV w2 o2 (.agg [opss l, .mp 4 L]) (.agg #[.slice B l.length d, v1]) := hu0.mono fun b hb hl => ⟨hs2 b hb, hb2.block b hl⟩
    have hv1 : RV w2 o2 (ints o) (.slice A o.length c) := hu1.mono fun b hb hl => ⟨hs2 b hb, hb2.block b hl⟩
    obtain ⟨g1, g2⟩ := hG _ _ _ h2
    have hwith := (with_fn (.agg [opss l, .mp 4 L]) L o (by simp [AV.isAgg]) rfl (by omega) hc).2 w2 o2 #[.agg #[.slice B l.length d, v1], .slice A o.length c] g1 g2 rfl (fun i hi => by
      have : i = 0 ∨ i = 1 := by have : i < 2 := by simpa using hi
                                 omega
      rcases this with rfl | rfl
      · exact hv0
      · exact hv1)
    rw [hw2] at hwith
    by_cases h01 : 0 < o.length
    · have hd01 : decide (0 < o.length) = true := by simpa using h01
      go_wp2_with fail
      refine hwith.mono ?_
      rintro e w3 ⟨v, rfl, hb3, hR, _, hd3⟩
      obtain rfl := RV.lit_iff.1 hR
      clear hR hwith
      rw [← hw2] at hb3 hd3
      obtain ⟨o3, h3, hs3, hn3⟩ := hJ _ _ _ _ h2 hb3 hd3
      have hv13 : RV w3 o3 (ints o) (.slice A o.length c) := hv1.mono fun b hb hl => ⟨hs3 b hb, hb3.block b hl⟩
      have hh3 : w3.heap[w.heap.size]? = some (.cells #[.slice B l.length d, v1] 50 (0, 0)) := (hb3.block _ (by omega)).trans hh2
      by_cases hi : 0 ≤ withI L o
      · have hdi : decide (0 ≤ withI L o) = true := by simpa using hi
        have hwk : wk l L 0 o = [(1, [ints o, .int (withI L o)])] := by unfold wk; rw [if_pos ⟨by intro e; rw [e] at h01; simp at h01, hi⟩]
        go_wp2_with fail
        rw [hr, Oper.upon_enter]
        refine (hV [] (1, [ints o, .int (withI L o)]) [] o3 w3 #[.slice A o.length c, .int .i64 (withI L o)] (.lit undef) undef (by rw [hwk]; rfl) h3 ⟨rfl, fun i hi => ?_⟩ (.lit _)).mono ?_
        · have : i = 0 ∨ i = 1 := by have : i < 2 := by simpa using hi
                                     omega
          rcases this with rfl | rfl
          · exact hv13
          · exact .lit _
        rintro e w4 ⟨⟨v, rfl⟩, o4, h4, _⟩
        go_wp2_with fail
        exact ⟨rfl, _, results_none rfl _ _ _, rfl, o4, by rw [hwk]; exact h4⟩
      · have hdi : decide (0 ≤ withI L o) = false := by simpa using hi
        have c31 : w3.cell? ⟨w.heap.size, 0, none⟩ = some (.slice B l.length d) := by rw [cell_of_row _ _ _ _ _ _ hh3]; rfl
        have hwk : wk l L 0 o = [(0, [ints o])] := by unfold wk; rw [if_neg (fun h => hi h.2)]
        have hdl : ((o.length : Int) == (l.length : Int)) = true := by simp; omega
        go_wp2_with fail
        rw [hq, Oper.upon_enter]
        refine (hV [] (0, [ints o]) [] o3 w3 #[.slice A o.length c] (.lit undef) undef (by rw [hwk]; rfl) h3 ⟨rfl, fun i hi => ?_⟩ (.lit _)).mono ?_
        · obtain rfl : i = 0 := by simpa using hi
          exact hv13
        rintro e w4 ⟨⟨v, rfl⟩, o4, h4, _⟩
        go_wp2_with fail
        exact ⟨rfl, _, results_none rfl _ _ _, rfl, o4, by rw [hwk]; exact h4⟩
    · have hd01 : decide (0 < o.length) = false := by simpa using h01
      have hwk : wk l L 0 o = [(0, [ints o])] := by unfold wk; rw [if_neg (fun h => h01 (by cases o with | nil => exact absurd rfl h.1 | cons a r => simp))]
      have hdl : ((o.length : Int) == (l.length : Int)) = true := by simp; omega
      go_wp2_with fail
      rw [hq, Oper.upon_enter]
      refine (hV [] (0, [ints o]) [] o2 _ #[.slice A o.length c] (.lit undef) undef (by rw [hwk]; rfl) (by rw [hw2] at h2; exact h2) ⟨rfl, fun i hi => ?_⟩ (.lit _)).mono ?_
      · obtain rfl : i = 0 := by simpa using hi
        exact (by rw [hw2] at hv1; exact hv1)
      rintro e w4 ⟨⟨v, rfl⟩, o4, h4, _⟩
      go_wp2_with fail
      exact ⟨rfl, _, results_none rfl _ _ _, rfl, o4, by rw [hwk]; exact h4⟩
  | succ m ih =>
    intro o hc ho
    refine ⟨Try.call16, fun p hp => ?_, fun fs J w ok cargs hfs hent hJ hG hV hargs h0 => ?_⟩
    · exact wk_ok l L _ o p hp
    obtain ⟨q, r, rfl⟩ : ∃ q r, fs = [q, r] := by
      match fs, hfs with
      | [q, r], _ => exact ⟨q, r, rfl⟩
    obtain ⟨q, cs⟩ := q
    obtain ⟨r, ds⟩ := r
    have hq : Ent Try.prog q := hent (q, cs) (by simp)
    have hr : Ent Try.prog r := hent (r, ds) (by simp)
    obtain ⟨hsz, hargs⟩ := hargs
    obtain ⟨u0, u1, rfl⟩ : ∃ u0 u1, cargs = #[u0, u1] := by
      obtain ⟨c⟩ := cargs
      match c, hsz with
      | [a, b], _ => exact ⟨a, b, rfl⟩
    have hu0 : RV w ok (.agg [opss l, .mp 4 L]) u0 := hargs 0 (by simp)
    have hu1 : RV w ok (ints o) u1 := hargs 1 (by simp)
    obtain ⟨v0, v1, rfl⟩ : ∃ v0 v1, u0 = .agg #[v0, v1] := by
      cases hu0 with
      | agg _ vs hl _ hh =>
        obtain ⟨vs⟩ := vs
        match vs, hl with
        | [a, b], _ => exact ⟨a, b, rfl⟩
    obtain ⟨A, c, rfl⟩ : ∃ A c, u1 = .slice A o.length c := by
      obtain ⟨A, c, us, e, _⟩ := src_rv hu1 (s := 1) (by simp)
      exact ⟨A, c, by rw [e, lst_els]; simp⟩
    have hu00 : RV w ok (opss l) v0 := by
      cases hu0 with
      | agg _ _ hl _ hh => exact hh 0 (by simp)
    obtain ⟨B, d, rfl⟩ : ∃ B d, v0 = .slice B l.length d := by
      obtain ⟨A, c, us, e, _⟩ := src_rv hu00 (s := 1) (by simp)
      exact ⟨A, c, by rw [e, lst_els]; simp⟩
    refine calls_of_wp Try.func16 rfl ?_
    simp only [Try.ntmps16, List.map_cons, List.map_nil, List.size_toArray, List.length_cons, List.length_nil, Nat.reduceAdd, Nat.reduceSub, Array.replicate_succ, Array.replicate_zero, List.push_toArray, List.append_toArray, List.nil_append, List.cons_append]
    obtain ⟨w2, hw2⟩ : ∃ w2, w2 = w.alloc (.cells #[.slice B l.length d, v1] 50) := ⟨_, rfl⟩
    have hz2 : w2.heap.size = w.heap.size + 1 := by rw [hw2]; simp
    have hb2 : Below w.heap.size w w2 := by rw [hw2]; exact (Below.refl _ w).alloc (Nat.le_refl _) _
    have hd2 : w2.drawn = w.drawn := by rw [hw2]; rfl
    have hh2 : w2.heap[w.heap.size]? = some (.cells #[.slice B l.length d, v1] 50 (0, 0)) := by rw [hw2]; exact World.alloc_heap_new w _
    obtain ⟨o2, h2, hs2, hn2⟩ := hJ _ _ _ _ h0 hb2 (by omega)
    have hv0 : RV w2 o2 (.agg [opss l, .mp 4 L]) (.agg #[.slice B l.length d, v1]) := hu0.mono fun b hb hl => ⟨hs2 b hb, hb2.block b hl⟩
    have hv1 : RV w2 o2 (ints o) (.slice A o.length c) := hu1.mono fun b hb hl => ⟨hs2 b hb, hb2.block b hl⟩
    obtain ⟨g1, g2⟩ := hG _ _ _ h2
    have hwith := (with_fn (.agg [opss l, .mp 4 L]) L o (by simp [AV.isAgg]) rfl (by omega) hc).2 w2 o2 #[.agg #[.slice B l.length d, v1], .slice A o.length c] g1 g2 rfl (fun i hi => by
      have : i = 0 ∨ i = 1 := by have : i < 2 := by simpa using hi
                                 omega
      rcases this with rfl | rfl
      · exact hv0
      · exact hv1)
    rw [hw2] at hwith
    by_cases h01 : 0 < o.length
    · have hd01 : decide (0 < o.length) = true := by simpa using h01
      go_wp2_with fail
      refine hwith.mono ?_
      rintro e w3 ⟨v, rfl, hb3, hR, _, hd3⟩
      obtain rfl := RV.lit_iff.1 hR
      clear hR hwith
      rw [← hw2] at hb3 hd3
      obtain ⟨o3, h3, hs3, hn3⟩ := hJ _ _ _ _ h2 hb3 hd3
      have hv13 : RV w3 o3 (ints o) (.slice A o.length c) := hv1.mono fun b hb hl => ⟨hs3 b hb, hb3.block b hl⟩
      have hh3 : w3.heap[w.heap.size]? = some (.cells #[.slice B l.length d, v1] 50 (0, 0)) := (hb3.block _ (by omega)).trans hh2
      by_cases hi : 0 ≤ withI L o
      · have hdi : decide (0 ≤ withI L o) = true := by simpa using hi
        have hwk : wk l L (m + 1) o = [(1, [ints o, .int (withI L o)])] := by unfold wk; rw [if_pos ⟨by intro e; rw [e] at h01; simp at h01, hi⟩]
        go_wp2_with fail
        rw [hr, Oper.upon_enter]
        refine (hV [] (1, [ints o, .int (withI L o)]) [] o3 w3 #[.slice A o.length c, .int .i64 (withI L o)] (.lit undef) undef (by rw [hwk]; rfl) h3 ⟨rfl, fun i hi => ?_⟩ (.lit _)).mono ?_
        · have : i = 0 ∨ i = 1 := by have : i < 2 := by simpa using hi
                                     omega
          rcases this with rfl | rfl
          · exact hv13
          · exact .lit _
        rintro e w4 ⟨⟨v, rfl⟩, o4, h4, _⟩
        go_wp2_with fail
        exact ⟨rfl, _, results_none rfl _ _ _, rfl, o4, by rw [hwk]; exact h4⟩
      · have hdi : decide (0 ≤ withI L o) = false := by simpa using hi
        obtain ⟨okk, hokk⟩ : ∃ y, l[o.length]? = some y := ⟨_, List.getElem?_eq_getElem (by omega)⟩
        have hkl : okk.length ≤ 1000 := hol okk (List.mem_of_getElem? hokk)
        let F : Nat → List (Nat × List AV) := fun i => wk l L m (o ++ [(i : Int)])
        have hF : ∀ i, F i = wk l L m (o ++ [(i : Int)]) := fun i => rfl
        have hwk : wk l L (m + 1) o = (List.range okk.length).flatMap F := by
          have hlk : (l.getD o.length []).length = okk.length := by rw [List.getD_eq_getElem?_getD, hokk]; rfl
          unfold wk
          rw [if_neg (fun h => hi h.2), hlk]
        clear_value F
        have hdl : ((o.length : Int) == (l.length : Int)) = false := by simp; omega
        have hv00 : RV w3 o3 (opss l) (.slice B l.length d) := hu00.mono fun b hb hl => ⟨hs3 b (hs2 b hb), (hb3.block b (by omega)).trans (hb2.block b hl)⟩
        have hrf : RV w3 o3 (.ref [.lit (.slice B l.length d), .lit v1]) (.pointer (some ⟨w.heap.size, 0, none⟩)) := by
          cases hv0 with
          | agg _ _ hl h1 hh =>
          refine .ref _ _ (fun i => #[.slice B l.length d, v1].getD i undef) (hs3 _ (hn2 _ (Nat.le_refl _) (by omega))) (by have := hb3.size; omega) (fun i hi => ?_) h1 (fun i hi => ?_)
          · have : i = 0 ∨ i = 1 := by have : i < 2 := by simpa using hi
                                       omega
            rcases this with rfl | rfl <;> (rw [cell_of_row _ _ _ _ _ _ hh3]; rfl)
          · have : i = 0 ∨ i = 1 := by have : i < 2 := by simpa using hi
                                       omega
            rcases this with rfl | rfl <;> exact .lit _
        have hrt3 : RV w3 o3 (.agg [opss l, .mp 4 L]) (.agg #[.slice B l.length d, v1]) := hv0.mono fun b hb hl => ⟨hs3 b hb, hb3.block b hl⟩
        have c31 : w3.cell? ⟨w.heap.size, 0, none⟩ = some (.slice B l.length d) := by rw [cell_of_row _ _ _ _ _ _ hh3]; rfl
        obtain ⟨bA, off, Ak, ck, eA, hbA, hcA, hrk⟩ := rv_elems hv00 (hG _ _ _ h3).1 o.length okk hokk
        subst eA
        skip
        go_wp2_with fail
        go_loopg [38] okk.length (fun g i wr => ∃ k : Nat, g = okk.length - k ∧ k ≤ okk.length ∧ i = .int .i64 k ∧ ∃ o', J ((List.range k).flatMap F) o' wr ∧ RV wr o' (ints o) (.slice A o.length c) ∧ RV wr o' (.ref [.lit (.slice (some ⟨bA, off, none⟩) l.length d), .lit v1]) (.pointer (some ⟨w.heap.size, 0, none⟩)) ∧ RV wr o' (.agg [opss l, .mp 4 L]) (.agg #[.slice (some ⟨bA, off, none⟩) l.length d, v1]))
        case atStart => exact ⟨0, rfl, by omega, rfl, o3, h3, hv13, hrf, hrt3⟩
        case round =>
          obtain ⟨k, rfl, hk, rfl, o4, h4, hv4, hr4, hrt⟩ := hrel
          by_cases hlt : k < okk.length
          · have hlt' : (k : Int) < okk.length := by omega
            obtain ⟨g3, g4⟩ := hG _ _ _ h4
            go_wp2_with fail
            obtain ⟨hok0, hg0, ct0, ct1⟩ := ref_lits hr4
            have HI := Lib.hid (ih (o ++ [(k : Int)]) (by intro x hx; rcases List.mem_append.1 hx with hx | hx; exact hc x hx; simp at hx; omega) (by simp; omega))
            have HK := Lib.hid (fun (w' : World) (h : Below wr.heap.size wr w') => (⟨(h.cell (p := ⟨w.heap.size, 0, none⟩) hg0).trans ct0, (h.cell (p := ⟨w.heap.size, 1, none⟩) hg0).trans ct1⟩ : w'.cell? ⟨w.heap.size, 0, none⟩ = some (.slice (some ⟨bA, off, none⟩) l.length d) ∧ w'.cell? ⟨w.heap.size, 1, none⟩ = some v1))
            have hev : wk l L (m + 1) o = (List.range k).flatMap F ++ wk l L m (o ++ [(k : Int)]) ++ ((List.range okk.length).drop (k + 1)).flatMap F := by
              have hcut : List.range okk.length = List.range k ++ k :: (List.range okk.length).drop (k + 1) := by
                have h1 := (List.take_append_drop k (List.range okk.length)).symm
                rw [List.drop_eq_getElem_cons (by simpa using hlt), List.take_range, Nat.min_eq_left (by omega)] at h1
                simpa using h1
              rw [hwk]
              conv => lhs; rw [hcut]
              rw [List.flatMap_append, List.flatMap_cons, hF k]
              simp
            go_region_held3 (fun w' => w'.cell? ⟨w.heap.size, 0, none⟩ = some (.slice (some ⟨bA, off, none⟩) l.length d) ∧ w'.cell? ⟨w.heap.size, 1, none⟩ = some v1) (first | exact HW6.out | exact HK.out _ (by (repeat (first | exact HBX.out | exact HB5.out | exact Below.refl _ _ | apply Below.drew | (refine Below.alloc ?_ (by first | exact Nat.le_refl _ | exact HBX.out.size) _)))))
              (first
                | (refine step_app (Z := wr) rfl (.tmp 43) (.tmp 45) rfl rfl rfl rfl (by omega) (by (repeat (first | exact HBX.out | exact HB5.out | exact Below.refl _ _ | apply Below.drew | (refine Below.alloc ?_ (by first | exact Nat.le_refl _ | exact HBX.out.size) _)))) ((HRX.out.base (by first | exact Nat.le_refl _ | (simp; done) | (simp; omega))).below (by (repeat (first | exact Below.refl _ _ | apply Below.drew | (refine Below.alloc ?_ (Nat.le_refl _) _))))) (by first | exact World.alloc_heap_new _ _ | exact (HBY.out.block _ (by first | (simp; done) | (simp; omega))).trans (World.alloc_heap_new _ _)) (by first | exact HDX.out | exact Nat.le_trans (Nat.le_succ _) HDX.out) ?_; intro v5 w5 hb5 hdr5 hrow5; have HB5 := Lib.hid hb5; have HR5 := Lib.hid hrow5; clear hb5 hrow5)
                | (go_at_call 16; refine (wkIn HI.out hent hJ hG hV hev h4 hv4 hr4 hrt (by (repeat (first | exact HBX.out | exact HB5.out | exact Below.refl _ _ | apply Below.drew | (refine Below.alloc ?_ (by first | exact Nat.le_refl _ | exact HBX.out.size) _)))) (by first | assumption | omega) HR5.out).mono ?_; rintro e w6 ⟨rfl, o6, h6, hv6, hr6, ht6⟩; have HW6 := Lib.hid (ref_lits hr6).2.2)
                | (go_at_call 23; refine (clone_in g3 g4 hv4 (by omega) (by (repeat (first | exact HBX.out | exact HB5.out | exact Below.refl _ _ | apply Below.drew | (refine Below.alloc ?_ (by first | exact Nat.le_refl _ | exact HBX.out.size) _))))).mono ?_; rintro e wx ⟨A3, c3, rfl, hbx, hdx, hrow3⟩; have HBX := Lib.hid (Below.trans (show Below wr.heap.size wr _ by (repeat (first | exact HBX.out | exact HB5.out | exact Below.refl _ _ | apply Below.drew | (refine Below.alloc ?_ (by first | exact Nat.le_refl _ | exact HBX.out.size) _)))) (hbx.mono (by first | exact Nat.le_refl _ | (simp; done) | (simp; omega)))); have HRX := Lib.hid hrow3; have HDX := Lib.hid hdx; have HBY := Lib.hid hbx; clear hrow3 hbx))
            all_goals (
              go_wp2_with fail
              go_roundg (okk.length - (k + 1))
              case measure => omega
              case rel =>
                refine ⟨k + 1, rfl, by omega, wr_succ (by omega), o6, ?_, hv6, hr6, ht6⟩
                rw [List.range_succ, List.flatMap_append, List.flatMap_cons, List.flatMap_nil, List.append_nil, hF k]
                exact h6)
          · obtain rfl : k = okk.length := by omega
            go_wp2_with fail
            exact ⟨rfl, _, results_none rfl _ _ _, rfl, o4, by rw [hwk]; exact h4⟩
    · have hd01 : decide (0 < o.length) = false := by simpa using h01
      obtain ⟨okk, hokk⟩ : ∃ y, l[o.length]? = some y := ⟨_, List.getElem?_eq_getElem (by omega)⟩
      have hkl : okk.length ≤ 1000 := hol okk (List.mem_of_getElem? hokk)
      let F : Nat → List (Nat × List AV) := fun i => wk l L m (o ++ [(i : Int)])
      have hF : ∀ i, F i = wk l L m (o ++ [(i : Int)]) := fun i => rfl
      have hwk : wk l L (m + 1) o = (List.range okk.length).flatMap F := by
        have hlk : (l.getD o.length []).length = okk.length := by rw [List.getD_eq_getElem?_getD, hokk]; rfl
        unfold wk
        rw [if_neg (fun h => h01 (by cases o with | nil => exact absurd rfl h.1 | cons a r => simp)), hlk]
      clear_value F
      have hdl : ((o.length : Int) == (l.length : Int)) = false := by simp; omega
      obtain ⟨w3, hw3⟩ : ∃ w3, w3 = w2 := ⟨_, rfl⟩
      rw [← hw3] at h2 hv0 hv1 hh2
      obtain ⟨o3, ho3⟩ : ∃ o3, o3 = o2 := ⟨_, rfl⟩
      rw [← ho3] at h2 hv0 hv1
      have h3 := h2
      have hv13 := hv1
      have hh3 := hh2
      have hv00 : RV w3 o3 (opss l) (.slice B l.length d) := by rw [hw3, ho3]; exact hu00.mono fun b hb hl => ⟨hs2 b hb, hb2.block b hl⟩
      have hrf : RV w3 o3 (.ref [.lit (.slice B l.length d), .lit v1]) (.pointer (some ⟨w.heap.size, 0, none⟩)) := by
        cases hv0 with
        | agg _ _ hl h1 hh =>
        refine .ref _ _ (fun i => #[.slice B l.length d, v1].getD i undef) (by rw [ho3]; exact hn2 _ (Nat.le_refl _) (by omega)) (by rw [hw3]; omega) (fun i hi => ?_) h1 (fun i hi => ?_)
        · have : i = 0 ∨ i = 1 := by have : i < 2 := by simpa using hi
                                     omega
          rcases this with rfl | rfl <;> (rw [cell_of_row _ _ _ _ _ _ hh3]; rfl)
        · have : i = 0 ∨ i = 1 := by have : i < 2 := by simpa using hi
                                     omega
          rcases this with rfl | rfl <;> exact .lit _
      have hrt3 : RV w3 o3 (.agg [opss l, .mp 4 L]) (.agg #[.slice B l.length d, v1]) := hv0
      obtain ⟨bA, off, Ak, ck, eA, hbA, hcA, hrk⟩ := rv_elems hv00 (hG _ _ _ h3).1 o.length okk hokk
      subst eA
      rw [hw3, hw2] at hcA
      go_wp2_with fail
      go_loopg [38] okk.length (fun g i wr => ∃ k : Nat, g = okk.length - k ∧ k ≤ okk.length ∧ i = .int .i64 k ∧ ∃ o', J ((List.range k).flatMap F) o' wr ∧ RV wr o' (ints o) (.slice A o.length c) ∧ RV wr o' (.ref [.lit (.slice (some ⟨bA, off, none⟩) l.length d), .lit v1]) (.pointer (some ⟨w.heap.size, 0, none⟩)) ∧ RV wr o' (.agg [opss l, .mp 4 L]) (.agg #[.slice (some ⟨bA, off, none⟩) l.length d, v1]))
      case atStart => exact ⟨0, rfl, by omega, rfl, o3, (by rw [hw3, hw2] at h3; exact h3), (by rw [hw3, hw2] at hv13; exact hv13), (by rw [hw3, hw2] at hrf; exact hrf), (by rw [hw3, hw2] at hrt3; exact hrt3)⟩
      case round =>
        obtain ⟨k, rfl, hk, rfl, o4, h4, hv4, hr4, hrt⟩ := hrel
        by_cases hlt : k < okk.length
        · have hlt' : (k : Int) < okk.length := by omega
          obtain ⟨g3, g4⟩ := hG _ _ _ h4
          go_wp2_with fail
          obtain ⟨hok0, hg0, ct0, ct1⟩ := ref_lits hr4
          have HI := Lib.hid (ih (o ++ [(k : Int)]) (by intro x hx; rcases List.mem_append.1 hx with hx | hx; exact hc x hx; simp at hx; omega) (by simp; omega))
          have HK := Lib.hid (fun (w' : World) (h : Below wr.heap.size wr w') => (⟨(h.cell (p := ⟨w.heap.size, 0, none⟩) hg0).trans ct0, (h.cell (p := ⟨w.heap.size, 1, none⟩) hg0).trans ct1⟩ : w'.cell? ⟨w.heap.size, 0, none⟩ = some (.slice (some ⟨bA, off, none⟩) l.length d) ∧ w'.cell? ⟨w.heap.size, 1, none⟩ = some v1))
          have hev : wk l L (m + 1) o = (List.range k).flatMap F ++ wk l L m (o ++ [(k : Int)]) ++ ((List.range okk.length).drop (k + 1)).flatMap F := by
            have hcut : List.range okk.length = List.range k ++ k :: (List.range okk.length).drop (k + 1) := by
              have h1 := (List.take_append_drop k (List.range okk.length)).symm
              rw [List.drop_eq_getElem_cons (by simpa using hlt), List.take_range, Nat.min_eq_left (by omega)] at h1
              simpa using h1
            rw [hwk]
            conv => lhs; rw [hcut]
            rw [List.flatMap_append, List.flatMap_cons, hF k]
            simp
          go_region_held3 (fun w' => w'.cell? ⟨w.heap.size, 0, none⟩ = some (.slice (some ⟨bA, off, none⟩) l.length d) ∧ w'.cell? ⟨w.heap.size, 1, none⟩ = some v1) (first | exact HW6.out | exact HK.out _ (by (repeat (first | exact HBX.out | exact HB5.out | exact Below.refl _ _ | apply Below.drew | (refine Below.alloc ?_ (by first | exact Nat.le_refl _ | exact HBX.out.size) _)))))
            (first
              | (refine step_app (Z := wr) rfl (.tmp 43) (.tmp 45) rfl rfl rfl rfl (by omega) (by (repeat (first | exact HBX.out | exact HB5.out | exact Below.refl _ _ | apply Below.drew | (refine Below.alloc ?_ (by first | exact Nat.le_refl _ | exact HBX.out.size) _)))) ((HRX.out.base (by first | exact Nat.le_refl _ | (simp; done) | (simp; omega))).below (by (repeat (first | exact Below.refl _ _ | apply Below.drew | (refine Below.alloc ?_ (Nat.le_refl _) _))))) (by first | exact World.alloc_heap_new _ _ | exact (HBY.out.block _ (by first | (simp; done) | (simp; omega))).trans (World.alloc_heap_new _ _)) (by first | exact HDX.out | exact Nat.le_trans (Nat.le_succ _) HDX.out) ?_; intro v5 w5 hb5 hdr5 hrow5; have HB5 := Lib.hid hb5; have HR5 := Lib.hid hrow5; clear hb5 hrow5)
              | (go_at_call 16; refine (wkIn HI.out hent hJ hG hV hev h4 hv4 hr4 hrt (by (repeat (first | exact HBX.out | exact HB5.out | exact Below.refl _ _ | apply Below.drew | (refine Below.alloc ?_ (by first | exact Nat.le_refl _ | exact HBX.out.size) _)))) (by first | assumption | omega) HR5.out).mono ?_; rintro e w6 ⟨rfl, o6, h6, hv6, hr6, ht6⟩; have HW6 := Lib.hid (ref_lits hr6).2.2)
              | (go_at_call 23; refine (clone_in g3 g4 hv4 (by omega) (by (repeat (first | exact HBX.out | exact HB5.out | exact Below.refl _ _ | apply Below.drew | (refine Below.alloc ?_ (by first | exact Nat.le_refl _ | exact HBX.out.size) _))))).mono ?_; rintro e wx ⟨A3, c3, rfl, hbx, hdx, hrow3⟩; have HBX := Lib.hid (Below.trans (show Below wr.heap.size wr _ by (repeat (first | exact HBX.out | exact HB5.out | exact Below.refl _ _ | apply Below.drew | (refine Below.alloc ?_ (by first | exact Nat.le_refl _ | exact HBX.out.size) _)))) (hbx.mono (by first | exact Nat.le_refl _ | (simp; done) | (simp; omega)))); have HRX := Lib.hid hrow3; have HDX := Lib.hid hdx; have HBY := Lib.hid hbx; clear hrow3 hbx))
          all_goals (
            go_wp2_with fail
            go_roundg (okk.length - (k + 1))
            case measure => omega
            case rel =>
              refine ⟨k + 1, rfl, by omega, wr_succ (by omega), o6, ?_, hv6, hr6, ht6⟩
              rw [List.range_succ, List.flatMap_append, List.flatMap_cons, List.flatMap_nil, List.append_nil, hF k]
              exact h6)
        · obtain rfl : k = okk.length := by omega
          go_wp2_with fail
          exact ⟨rfl, _, results_none rfl _ _ _, rfl, o4, by rw [hwk]; exact h4⟩
end Go.Proofs.Ytaomlgfamnfcjaa
/- joint resolutions: whether two tubes clash does not hang on their order. -/
namespace Go.Proofs.Ytaomlgfamnfcjaa
open Go.RowKit
set_option linter.unusedVariables false
set_option linter.unusedSimpArgs false
theorem wr_form (n : Int) : wr n = if n % 18446744073709551616 ≥ 9223372036854775808 then n % 18446744073709551616 - 18446744073709551616 else n % 18446744073709551616 := by
  have h : wr n = (let m := n % (18446744073709551616 : Int); if (true && decide (m ≥ (9223372036854775808 : Int))) = true then m - 18446744073709551616 else m) := rfl
  rw [h]
  simp
theorem wr_dvd (n : Int) : ∃ k : Int, n - wr n = 18446744073709551616 * k := by
  rw [wr_form]
  split
  · exact ⟨n / 18446744073709551616 + 1, by omega⟩
  · exact ⟨n / 18446744073709551616, by omega⟩
theorem wr_cong {x y : Int} (k : Int) (h : x - y = 18446744073709551616 * k) : wr x = wr y := by
  have e : x % 18446744073709551616 = y % 18446744073709551616 := by omega
  rw [wr_form, wr_form, e]
theorem wr_sub (x y : Int) : wr (wr x - y) = wr (x - y) := by
  obtain ⟨k, hk⟩ := wr_dvd x
  exact wr_cong (-k) (by omega)
theorem sq_comm (a b : Int) : wr (wr (a - b) * wr (a - b)) = wr (wr (b - a) * wr (b - a)) := by
  obtain ⟨k, hk⟩ := wr_dvd (a - b)
  obtain ⟨m, hm⟩ := wr_dvd (b - a)
  generalize wr (a - b) = u at *
  generalize wr (b - a) = v at *
  refine wr_cong ((m + k) * (v - u)) ?_
  have h : u + v = -(18446744073709551616 * (m + k)) := by omega
  have e : u * u - v * v = (u + v) * (u - v) := by rw [Int.add_mul, Int.mul_sub, Int.mul_sub, Int.mul_comm v u]; omega
  rw [e, h, Int.neg_mul, Int.mul_assoc, ← Int.mul_neg, ← Int.mul_neg]
  congr 2
  omega
theorem sqrP_comm (a b : Pt) : sqrP a b = sqrP b a := by
  unfold sqrP dotP subP
  simp only
  rw [sq_comm a.x b.x, sq_comm a.y b.y]
theorem mxJ_comm (a b : Int) : mxJ a b = mxJ b a := by unfold mxJ; split <;> split <;> omega
theorem sepB_comm (a b : Nd) (s : Sp) : sepB a b s = sepB b a s := by
  unfold sepB disA
  rw [sqrP_comm a.p b.p, mxJ_comm (wr (a.h - b.h)), wr_sub, wr_sub, wr_sub, wr_sub]
  rw [show rootI (sqrP b.p a.p) - a.r - b.r = rootI (sqrP b.p a.p) - b.r - a.r by omega]
  rw [show mxJ (wr (b.h - a.h)) (wr (a.h - b.h)) - a.b - b.b = mxJ (wr (b.h - a.h)) (wr (a.h - b.h)) - b.b - a.b by omega]
theorem stpS_nil (a b : List Nd) (s : Sp) (t : Int) (out : List (Int × Int)) : (stpS a b s t out).length = 0 ↔ out.length = 0 ∧ sepB (ndA a t) (ndA b t) s = true := by
  unfold stpS
  split
  · rename_i h; simp [h]
  · rename_i h
    unfold addS
    split
    · rename_i g; simp only [List.length_set]; constructor
      · intro q; omega
      · intro q; exact q.1
    · simp [h]
theorem spansF_nil (a b : List Nd) (s : Sp) : ∀ (n : Nat) (t : Int) (out : List (Int × Int)), (spansF a b s t n out).length = 0 ↔ out.length = 0 ∧ ∀ k : Nat, k < n → sepB (ndA a (t + k)) (ndA b (t + k)) s = true
  | 0, t, out => by simp [spansF]
  | n + 1, t, out => by
    rw [spansF, spansF_nil a b s n, stpS_nil]
    constructor
    · rintro ⟨⟨h1, h2⟩, h3⟩
      refine ⟨h1, fun k hk => ?_⟩
      cases k with
      | zero => simpa using h2
      | succ k => have := h3 k (by omega); rw [show t + ((k + 1 : Nat) : Int) = t + 1 + k by omega]; exact this
    · rintro ⟨h1, h2⟩
      refine ⟨⟨h1, by simpa using h2 0 (by omega)⟩, fun k hk => ?_⟩
      have := h2 (k + 1) (by omega)
      rw [show t + ((k + 1 : Nat) : Int) = t + 1 + k by omega] at this; exact this
theorem comA_comm (a b : List Nd) : comA a b = comA b a := mxJ_comm _ _
theorem comB_comm (a b : List Nd) : comB a b = comB b a := by unfold comB; split <;> split <;> omega
theorem spnL_comm (a b : List Nd) (s : Sp) : (spnL a b s).length = 0 ↔ (spnL b a s).length = 0 := by
  unfold spnL
  rw [spansF_nil, spansF_nil, comA_comm a b, comB_comm a b]
  simp only [sepB_comm (ndA a _)]
/-- Do two tubes clash? -/
theorem firE_comm (a b : List Nd) (s : Sp) : firE a b s = 0 ↔ firE b a s = 0 := by
  have key : ∀ a b : List Nd, firE a b s = 0 → firE b a s = 0 := fun a b h => by
    unfold firE at h ⊢
    split at h
    · rename_i g; exact absurd h g
    · rename_i g
      have g : pairE a b s = 0 := by omega
      have g2 : pairE b a s = 0 := by
        unfold pairE at g ⊢
        split at g
        · omega
        · split at g
          · omega
          · rename_i g1 g2
            rw [if_neg g1, if_neg (by omega)]; omega
      rw [if_neg (by omega)]
      split at h
      · omega
      · rename_i g3
        rw [if_neg (fun q => g3 ((spnL_comm a b s).2 q))]
  exact ⟨key a b, key b a⟩
end Go.Proofs.Ytaomlgfamnfcjaa
/- joint resolutions: plain Lean: what the walk visits, and all choices. -/
namespace Go.Proofs.Ytaomlgfamnfcjaa
open Go.RowKit
set_option linter.unusedVariables false
set_option linter.unusedSimpArgs false
theorem mget_cons (p : List Int × Bool) (L : Mp) (k : List Int) : mgetL (p :: L) k = if p.1 = k then p.2 else mgetL L k := by
  unfold mgetL
  rw [List.find?_cons]
  by_cases h : p.1 = k
  · simp [h]
  · simp [h]
theorem mget_app (q : List Int × Bool) (k : List Int) : ∀ (L : Mp), (∀ p ∈ L, p.1 ≠ q.1) → mgetL (L ++ [q]) k = if q.1 = k then q.2 else mgetL L k
  | [], _ => by rw [List.nil_append, mget_cons]
  | p :: L, h => by
    rw [List.cons_append, mget_cons, mget_cons, mget_app q k L fun r hr => h r (by simp [hr])]
    by_cases h1 : p.1 = k
    · rw [if_pos h1, if_pos h1, if_neg (fun e => h p (by simp) (h1.trans e.symm))]
    · rw [if_neg h1, if_neg h1]
theorem mget_map (k k' : List Int) (v : Bool) : ∀ (L : Mp), mgetL (L.map (fun p => if p.1 = k then (k, v) else p)) k' = if k = k' ∧ L.any (fun p => decide (p.1 = k)) = true then v else mgetL L k'
  | [] => by simp [mgetL]
  | p :: L => by
    rw [List.map_cons, mget_cons, mget_cons, mget_map k k' v L, List.any_cons]
    by_cases h1 : p.1 = k
    · rw [if_pos h1]
      by_cases h2 : k = k'
      · simp [h1, h2]
      · simp [h1, h2]
    · rw [if_neg h1]
      by_cases h2 : k = k'
      · subst h2
        simp [h1]
      · simp [h1, h2]
theorem mget_put (L : Mp) (k k' : List Int) (v : Bool) : mgetL (mputL L k v) k' = if k = k' then v else mgetL L k' := by
  unfold mputL
  split
  · rename_i h
    rw [mget_map]
    simp [h]
  · rename_i h
    rw [mget_app]
    intro p hp e
    exact h (List.any_eq_true.2 ⟨p, hp, by simpa using e⟩)
theorem foldN_keeps {α : Type} {f : Nat → α → α} {P : α → Prop} (h : ∀ n a, P a → P (f n a)) : ∀ (n : Nat) (a : α), P a → P (foldN f n a)
  | 0, a, ha => ha
  | n + 1, a, ha => h n _ (foldN_keeps h n a ha)
theorem foldN_makes {α : Type} {f : Nat → α → α} {P : α → Prop} (h : ∀ n a, P a → P (f n a)) {j : Nat} (hj : ∀ a, P (f j a)) : ∀ (n : Nat) (a : α), j < n → P (foldN f n a)
  | 0, a, hn => absurd hn (by omega)
  | n + 1, a, hn => by
    rcases Nat.lt_or_ge j n with q | q
    · exact h n _ (foldN_makes h hj n a q)
    · obtain rfl : j = n := by omega
      exact hj _
theorem st4_get (l : List (List Jo)) (s : Sp) (k i m n : Nat) (L : Mp) (i' k' m' n' : Nat) : mgetL (st4 l s k i m n L) [(i' : Int), k', m', n'] = if i = i' ∧ k = k' ∧ m = m' ∧ n = n' then clB l s i' k' m' n' else mgetL L [(i' : Int), k', m', n'] := by
  unfold st4
  rw [mget_put]
  by_cases h : i = i' ∧ k = k' ∧ m = m' ∧ n = n'
  · obtain ⟨rfl, rfl, rfl, rfl⟩ := h
    simp
  · rw [if_neg h, if_neg (fun e => h (by
      simp only [List.cons.injEq, and_true] at e
      omega))]
theorem clL_get (l : List (List Jo)) (s : Sp) {i k m n : Nat} (hik : i < k) (hk : k < l.length) (hm : m < (l.getD i []).length) (hn : n < (l.getD k []).length) : mgetL (clL l s) [(i : Int), k, m, n] = clB l s i k m n := by
  have h4 : ∀ k' i' m' n' (L : Mp), mgetL L [(i : Int), k, m, n] = clB l s i k m n → mgetL (st4 l s k' i' m' n' L) [(i : Int), k, m, n] = clB l s i k m n := fun k' i' m' n' L h => by
    rw [st4_get]
    split
    · rfl
    · exact h
  have h3 : ∀ k' i' m' (L : Mp), mgetL L [(i : Int), k, m, n] = clB l s i k m n → mgetL (st3 l s k' i' m' L) [(i : Int), k, m, n] = clB l s i k m n := fun k' i' m' L h => foldN_keeps (P := fun L => mgetL L [(i : Int), k, m, n] = clB l s i k m n) (fun n' a ha => h4 k' i' m' n' a ha) _ _ h
  have h2 : ∀ k' i' (L : Mp), mgetL L [(i : Int), k, m, n] = clB l s i k m n → mgetL (st2 l s k' i' L) [(i : Int), k, m, n] = clB l s i k m n := fun k' i' L h => foldN_keeps (P := fun L => mgetL L [(i : Int), k, m, n] = clB l s i k m n) (fun m' a ha => h3 k' i' m' a ha) _ _ h
  have h1 : ∀ k' (L : Mp), mgetL L [(i : Int), k, m, n] = clB l s i k m n → mgetL (st1 l s k' L) [(i : Int), k, m, n] = clB l s i k m n := fun k' L h => foldN_keeps (P := fun L => mgetL L [(i : Int), k, m, n] = clB l s i k m n) (fun i' a ha => h2 k' i' a ha) _ _ h
  refine foldN_makes (P := fun L => mgetL L [(i : Int), k, m, n] = clB l s i k m n) h1 (j := k) (fun L => ?_) _ _ hk
  refine foldN_makes (P := fun L => mgetL L [(i : Int), k, m, n] = clB l s i k m n) (h2 k) (j := i) (fun L => ?_) _ _ hik
  refine foldN_makes (P := fun L => mgetL L [(i : Int), k, m, n] = clB l s i k m n) (h3 k i) (j := m) (fun L => ?_) _ _ hm
  refine foldN_makes (P := fun L => mgetL L [(i : Int), k, m, n] = clB l s i k m n) (h4 k i m) (j := n) (fun L => ?_) _ _ hn
  rw [st4_get, if_pos ⟨rfl, rfl, rfl, rfl⟩]
/-- A choice's options are options. -/
def ValC (l : List (List Jo)) (c : List Int) : Prop := c.length ≤ l.length ∧ ∀ (j : Nat) (x : Int), c[j]? = some x → 0 ≤ x ∧ x < (l.getD j []).length
def freeP (l : List (List Jo)) (s : Sp) (c : List Int) : Prop := ∀ (k : Nat) (x : Int), c[k]? = some x → ∀ (i : Nat) (y : Int), i < k → c[i]? = some y → clB l s i k y.toNat x.toNat = false
theorem freeP_pre {l : List (List Jo)} {s : Sp} {c d : List Int} (h : freeP l s (c ++ d)) : freeP l s c := fun k x hk i y hi hy =>
  h k x (by rw [List.getElem?_append_left (List.getElem?_eq_some_iff.1 hk).1]; exact hk) i y hi (by rw [List.getElem?_append_left (List.getElem?_eq_some_iff.1 hy).1]; exact hy)
theorem wiN_neg (L : Mp) (k z : Int) : ∀ (xs : List Int) (i : Nat), (wiN L k z i xs < 0 ↔ ∀ (j : Nat) (x : Int), xs[j]? = some x → mgetL L [((i + j : Nat) : Int), k, x, z] = false) ∧ wiN L k z i xs < i + xs.length
  | [], i => by simp [wiN]; omega
  | x :: r, i => by
    obtain ⟨h1, h2⟩ := wiN_neg L k z r (i + 1)
    unfold wiN
    by_cases h : mgetL L [(i : Int), k, x, z] = true
    · rw [if_pos h]
      refine ⟨⟨fun q => by omega, fun q => ?_⟩, by simp; omega⟩
      have := q 0 x rfl
      rw [Nat.add_zero, h] at this
      cases this
    · rw [if_neg h]
      refine ⟨⟨fun q j y hy => ?_, fun q => ?_⟩, by simp; omega⟩
      · cases j with
        | zero => injection hy with hy; subst hy; simpa using h
        | succ j => have := h1.1 q j y hy; rw [show i + (j + 1) = i + 1 + j by omega]; exact this
      · refine h1.2 fun j y hy => ?_
        have := q (j + 1) y hy
        rw [show i + 1 + j = i + (j + 1) by omega]; exact this
theorem with_snoc (l : List (List Jo)) (s : Sp) {c : List Int} {z : Int} (hv : ValC l (c ++ [z])) (hf : freeP l s c) : withI (clL l s) (c ++ [z]) < 0 ↔ freeP l s (c ++ [z]) := by
  have hlen : c.length < l.length := by have := hv.1; simp at this; omega
  have hz := hv.2 c.length z (by simp)
  unfold withI
  have e1 : (c ++ [z]).length - 1 = c.length := by simp
  have e2 : (c ++ [z]).getD c.length 0 = z := by simp
  have e3 : (c ++ [z]).take c.length = c := by simp
  have e4 : (((c ++ [z]).length : Int) - 1) = c.length := by simp
  rw [e1, e2, e3, e4, (wiN_neg _ _ _ _ _).1]
  have hcl : ∀ (j : Nat) (y : Int), c[j]? = some y → mgetL (clL l s) [((0 + j : Nat) : Int), (c.length : Int), y, z] = clB l s j c.length y.toNat z.toNat := fun j y hy => by
    have hj := (List.getElem?_eq_some_iff.1 hy).1
    have hy2 := hv.2 j y (by rw [List.getElem?_append_left hj]; exact hy)
    have := clL_get l s (i := j) (k := c.length) (m := y.toNat) (n := z.toNat) hj hlen (by omega) (by omega)
    rw [show (y.toNat : Int) = y by omega, show (z.toNat : Int) = z by omega] at this
    rw [Nat.zero_add]; exact this
  constructor
  · intro h k x hk i y hi hy
    by_cases hkc : k < c.length
    · rw [List.getElem?_append_left hkc] at hk
      rw [List.getElem?_append_left (by omega)] at hy
      exact hf k x hk i y hi hy
    · have hk2 := (List.getElem?_eq_some_iff.1 hk).1
      have : k = c.length := by simp at hk2; omega
      subst this
      rw [List.getElem?_append_left hi] at hy
      have hx : x = z := by simpa using hk.symm
      subst hx
      rw [← hcl i y hy]
      exact h i y hy
  · intro h j y hy
    rw [hcl j y hy]
    have hj := (List.getElem?_eq_some_iff.1 hy).1
    exact h c.length z (by simp) j y hj (by rw [List.getElem?_append_left hj]; exact hy)
/-- What a choice costs. -/
def costN : List (List Jo) → List Int → Int
  | o :: l, z :: c => (o.getD z.toNat default).c + costN l c
  | _, _ => 0
/-- All choices, in lexicographic order. -/
def allC : List (List Jo) → List (List Int)
  | [] => [[]]
  | o :: l => (List.range o.length).flatMap fun i : Nat => (allC l).map ((i : Int) :: ·)
/-- What the walk hands out: 0: a free choice; 1: one that is refuted. -/
def wkC (l : List (List Jo)) (L : Mp) : Nat → List Int → List (Nat × List Int)
  | 0, c => if c ≠ [] ∧ 0 ≤ withI L c then [(1, c)] else [(0, c)]
  | m + 1, c => if c ≠ [] ∧ 0 ≤ withI L c then [(1, c)] else (List.range (l.getD c.length []).length).flatMap fun i : Nat => wkC l L m (c ++ [(i : Int)])
def evC (L : Mp) (p : Nat × List Int) : Nat × List AV := (p.1, if p.1 = 0 then [ints p.2] else [ints p.2, .int (withI L p.2)])
theorem wk_map (l : List (List Jo)) (L : Mp) : ∀ (m : Nat) (c : List Int), wk l L m c = (wkC l L m c).map (evC L)
  | 0, c => by
    unfold wk wkC
    split <;> rfl
  | m + 1, c => by
    unfold wk wkC
    split
    · rfl
    · rw [List.map_flatMap]
      congr 1
      funext i
      exact wk_map l L m _
theorem wkC_val (l : List (List Jo)) (L : Mp) : ∀ (m : Nat) (c : List Int), c.length + m = l.length → ValC l c → ∀ p ∈ wkC l L m c, ValC l p.2 ∧ (p.1 = 0 ∨ p.1 = 1) ∧ (p.1 = 0 → p.2.length = l.length)
  | 0, c, hl, hv, p, hp => by
    unfold wkC at hp
    split at hp
    all_goals
      obtain rfl := List.mem_singleton.1 hp
      exact ⟨hv, by simp, by simp; try omega⟩
  | m + 1, c, hl, hv, p, hp => by
    unfold wkC at hp
    split at hp
    · obtain rfl := List.mem_singleton.1 hp
      exact ⟨hv, by simp, by simp⟩
    · obtain ⟨i, hi, h⟩ := List.mem_flatMap.1 hp
      have hi : i < (l.getD c.length []).length := List.mem_range.1 hi
      refine wkC_val l L m _ (by simp; omega) ⟨by simp; omega, fun j x hj => ?_⟩ p h
      by_cases hc : j < c.length
      · rw [List.getElem?_append_left hc] at hj
        exact hv.2 j x hj
      · have hj2 := (List.getElem?_eq_some_iff.1 hj).1
        have : j = c.length := by simp at hj2; omega
        subst this
        have : x = (i : Int) := by simpa using hj.symm
        subst this
        omega
open Classical in
/-- The better one of what is best so far and of one more choice. -/
noncomputable def stpC (l : List (List Jo)) (s : Sp) (b : List Int × Int) (c : List Int) : List Int × Int := if freeP l s c ∧ (b.2 < 0 ∨ costN l c < b.2) then (c, costN l c) else b
def bstC (l : List (List Jo)) (b : List Int × Int) (p : Nat × List Int) : List Int × Int := if p.1 = 0 ∧ (b.2 < 0 ∨ costN l p.2 < b.2) then (p.2, costN l p.2) else b
theorem foldl_stay {α β : Type} {f : β → α → β} : ∀ (L : List α) (b : β), (∀ x ∈ L, f b x = b) → L.foldl f b = b
  | [], b, _ => rfl
  | x :: L, b, h => by rw [List.foldl_cons, h x (by simp)]; exact foldl_stay L b fun y hy => h y (by simp [hy])
theorem foldl_flat {α β γ : Type} {f : β → α → β} {g : γ → List α} : ∀ (L : List γ) (b : β), (L.flatMap g).foldl f b = L.foldl (fun b x => (g x).foldl f b) b
  | [], b => rfl
  | x :: L, b => by rw [List.flatMap_cons, List.foldl_append, List.foldl_cons, foldl_flat L]
theorem foldl_same {α β : Type} {f g : β → α → β} : ∀ (L : List α) (b : β), (∀ x ∈ L, ∀ b, f b x = g b x) → L.foldl f b = L.foldl g b
  | [], b, _ => rfl
  | x :: L, b, h => by rw [List.foldl_cons, List.foldl_cons, h x (by simp)]; exact foldl_same L _ fun y hy => h y (by simp [hy])
theorem walk_fold (l : List (List Jo)) (s : Sp) : ∀ (m : Nat) (c : List Int) (b : List Int × Int), c.length + m = l.length → ValC l c → (c = [] ∨ ∃ c' z, c = c' ++ [z] ∧ freeP l s c') →
    (wkC l (clL l s) m c).foldl (bstC l) b = ((allC (l.drop c.length)).map (c ++ ·)).foldl (stpC l s) b := by
  intro m
  induction m with
  | zero =>
    intro c b hl hv hc
    have hd : l.drop c.length = [] := List.drop_eq_nil_of_le (by omega)
    rw [hd]
    simp only [allC, List.map_cons, List.map_nil, List.append_nil, List.foldl_cons, List.foldl_nil]
    have hfree : ¬ (c ≠ [] ∧ 0 ≤ withI (clL l s) c) ↔ freeP l s c := by
      rcases hc with rfl | ⟨c', z, rfl, hf⟩
      · simp; intro k x hk; simp at hk
      · rw [← with_snoc l s hv hf]; simp
    unfold wkC
    by_cases h : c ≠ [] ∧ 0 ≤ withI (clL l s) c
    · rw [if_pos h]
      have hn : ¬ freeP l s c := fun q => hfree.2 q h
      simp [bstC, stpC, hn]
    · rw [if_neg h]
      simp [bstC, stpC, hfree.1 h]
  | succ m ih =>
    intro c b hl hv hc
    have hfree : ¬ (c ≠ [] ∧ 0 ≤ withI (clL l s) c) ↔ freeP l s c := by
      rcases hc with rfl | ⟨c', z, rfl, hf⟩
      · simp; intro k x hk; simp at hk
      · rw [← with_snoc l s hv hf]; simp
    unfold wkC
    by_cases h : c ≠ [] ∧ 0 ≤ withI (clL l s) c
    · rw [if_pos h]
      have hn : ¬ freeP l s c := fun q => hfree.2 q h
      rw [foldl_stay (f := stpC l s)]
      · simp [bstC]
      · intro x hx
        obtain ⟨d, _, rfl⟩ := List.mem_map.1 hx
        unfold stpC
        rw [if_neg (fun q => hn (freeP_pre q.1))]
    · rw [if_neg h]
      obtain ⟨o, ho⟩ : ∃ o, l[c.length]? = some o := ⟨_, List.getElem?_eq_getElem (by omega)⟩
      have hod : l.getD c.length [] = o := by rw [List.getD_eq_getElem?_getD, ho]; rfl
      have hdrop : l.drop c.length = o :: l.drop (c.length + 1) := by
        rw [List.drop_eq_getElem_cons (by omega)]
        congr 1
        exact Option.some.inj ((List.getElem?_eq_getElem (by omega)).symm.trans ho)
      rw [hod, hdrop]
      simp only [allC]
      rw [List.map_flatMap, foldl_flat, foldl_flat]
      refine foldl_same _ _ fun i hi b => ?_
      have hi : i < o.length := List.mem_range.1 hi
      rw [ih (c ++ [(i : Int)]) b (by simp; omega) ⟨by simp; omega, fun j x hj => ?_⟩ (.inr ⟨c, _, rfl, hfree.1 h⟩)]
      · simp [Function.comp_def]
      · by_cases hc : j < c.length
        · rw [List.getElem?_append_left hc] at hj
          exact hv.2 j x hj
        · have hj2 := (List.getElem?_eq_some_iff.1 hj).1
          have : j = c.length := by simp at hj2; omega
          subst this
          have : x = (i : Int) := by simpa using hj.symm
          subst this
          rw [hod]; omega
/-- The best choice, and what it costs; -1: none. -/
noncomputable def bestC (l : List (List Jo)) (s : Sp) : List Int × Int := (allC l).foldl (stpC l s) ([], -1)
theorem walk_best (l : List (List Jo)) (s : Sp) : (wkC l (clL l s) l.length []).foldl (bstC l) ([], -1) = bestC l s := by
  rw [walk_fold l s l.length [] _ (by simp) ⟨by simp, fun j x hj => by simp at hj⟩ (.inl rfl)]
  simp [bestC]
/-! ### the law's own order -/
def digs : List (List Jo) → Nat → List Int
  | [], _ => []
  | o :: l, n => ((n / (manyN l).toNat % o.length : Nat) : Int) :: digs l n
def mny : List (List Jo) → Nat
  | [] => 1
  | o :: l => o.length * mny l
theorem manyN_mny : ∀ l : List (List Jo), manyN l = (mny l : Int)
  | [] => rfl
  | o :: l => by rw [manyN, mny, manyN_mny l]; simp
theorem range_mul {α : Type} (M : Nat) (f : Nat → α) : ∀ a : Nat, (List.range (a * M)).map f = (List.range a).flatMap fun i => (List.range M).map fun j => f (i * M + j)
  | 0 => by simp
  | a + 1 => by
    rw [Nat.succ_mul, List.range_add, List.map_append, range_mul M f a, List.range_succ, List.flatMap_append]
    simp [Function.comp_def]
theorem digs_mod : ∀ (l : List (List Jo)) (i j : Nat), digs l (i * mny l + j) = digs l j
  | [], _, _ => rfl
  | o :: l, i, j => by
    have e : i * mny (o :: l) + j = (i * o.length) * mny l + j := by rw [mny, Nat.mul_assoc]
    rw [e]
    unfold digs
    rw [digs_mod l, manyN_mny]
    congr 2
    rw [Int.toNat_natCast]
    rcases Nat.eq_zero_or_pos (mny l) with h | h
    · simp [h]
    · rw [Nat.add_comm, Nat.add_mul_div_right _ _ h, Nat.add_mul_mod_self_right]
theorem all_digs : ∀ l : List (List Jo), allC l = (List.range (mny l)).map (digs l)
  | [] => by simp [allC, mny, digs]
  | o :: l => by
    rw [allC, mny, range_mul, all_digs l]
    have : ∀ i ∈ List.range o.length, ((List.range (mny l)).map (digs l)).map ((i : Int) :: ·) = (List.range (mny l)).map fun j => digs (o :: l) (i * mny l + j) := fun i hi => by
      have hi : i < o.length := List.mem_range.1 hi
      rw [List.map_map]
      refine List.map_congr_left fun j hj => ?_
      have hj : j < mny l := List.mem_range.1 hj
      show (i : Int) :: digs l j = digs (o :: l) (i * mny l + j)
      unfold digs
      rw [digs_mod, manyN_mny, Int.toNat_natCast, Nat.add_comm, Nat.add_mul_div_right _ _ (by omega), Nat.div_eq_of_lt hj, Nat.zero_add, Nat.mod_eq_of_lt hi]
      cases l <;> rfl
    have hc : ∀ (L : List Nat) (f g : Nat → List (List Int)), (∀ i ∈ L, f i = g i) → L.flatMap f = L.flatMap g := fun L f g h => by
      induction L with
      | nil => rfl
      | cons x L ih => rw [List.flatMap_cons, List.flatMap_cons, h x (by simp), ih fun i hi => h i (by simp [hi])]
    exact hc _ _ _ this
end Go.Proofs.Ytaomlgfamnfcjaa
