/- Texts of one proof, part 5: plain values, a run over them, contracts of functions. -/
import Derived.Test.YtdlakpomcafemaaDoorM4
import Derived.Laws.FloatArith
/- planes, polygons, volumes: what the run ends in. -/
namespace Go.Proofs.YtdlakpomcafemaaDoor
open Go.RowKit
set_option linter.unusedVariables false
set_option maxRecDepth 100000
namespace SecF
--GAMMA
def Γ : FuncId → Option Ca := fun f =>
  if f = 20 ∨ f = 58 ∨ f = 59 ∨ f = 39 ∨ f = 30 ∨ f = 57 ∨ f = 14 ∨ f = 32 then some (.fn .sc)
  else if f = 48 ∨ f = 49 ∨ f = 47 ∨ f = 31 ∨ f = 21 then some (.fn (.tup [.sc, .sc]))
  else some .inl
def ann : FuncId → Nat → LoopEx := fun f r => ⟨[], [], [], []⟩
--END GAMMA
theorem pcheck_form (x0 r : AV) : fnF Tryd.prog Γ ann 3 20 Tryd.f20 (Tryd.f20.body.getD .skip) (.nil) [x0] (.sc) r = (((AV.isAgg x0 2) ∧
((AV.binOk Go.BinOp.lss (AV.cel x0 0) (AV.int (-1000000))) ∧
((AV.isBool (AV.bin Go.BinOp.lss (AV.cel x0 0) (AV.int (-1000000)))) ∧
(((isT (AV.bin Go.BinOp.lss (AV.cel x0 0) (AV.int (-1000000)))) →
  ((AV.isBool (AV.bin Go.BinOp.lss (AV.cel x0 0) (AV.int (-1000000)))) ∧
  ((isT (AV.bin Go.BinOp.lss (AV.cel x0 0) (AV.int (-1000000)))) ∧
  ((AV.flat (AV.int 4)) ∧
  (fSame (AV.int 4) r))))) ∧
((isF (AV.bin Go.BinOp.lss (AV.cel x0 0) (AV.int (-1000000)))) →
  ((AV.binOk Go.BinOp.gtr (AV.cel x0 0) (AV.int 1000000)) ∧
  ((AV.isBool (AV.bin Go.BinOp.lss (AV.cel x0 0) (AV.int (-1000000)))) ∧
  ((isF (AV.bin Go.BinOp.lss (AV.cel x0 0) (AV.int (-1000000)))) ∧
  ((AV.isBool (AV.bin Go.BinOp.gtr (AV.cel x0 0) (AV.int 1000000))) ∧
  (((isT (AV.bin Go.BinOp.gtr (AV.cel x0 0) (AV.int 1000000))) →
    ((AV.isBool (AV.bin Go.BinOp.gtr (AV.cel x0 0) (AV.int 1000000))) ∧
    ((isT (AV.bin Go.BinOp.gtr (AV.cel x0 0) (AV.int 1000000))) ∧
    ((AV.flat (AV.int 4)) ∧
    (fSame (AV.int 4) r))))) ∧
  ((isF (AV.bin Go.BinOp.gtr (AV.cel x0 0) (AV.int 1000000))) →
    ((AV.binOk Go.BinOp.lss (AV.cel x0 1) (AV.int (-1000000))) ∧
    ((AV.isBool (AV.bin Go.BinOp.gtr (AV.cel x0 0) (AV.int 1000000))) ∧
    ((isF (AV.bin Go.BinOp.gtr (AV.cel x0 0) (AV.int 1000000))) ∧
    ((AV.isBool (AV.bin Go.BinOp.lss (AV.cel x0 1) (AV.int (-1000000)))) ∧
    (((isT (AV.bin Go.BinOp.lss (AV.cel x0 1) (AV.int (-1000000)))) →
      ((AV.isBool (AV.bin Go.BinOp.lss (AV.cel x0 1) (AV.int (-1000000)))) ∧
      ((isT (AV.bin Go.BinOp.lss (AV.cel x0 1) (AV.int (-1000000)))) ∧
      ((AV.flat (AV.int 4)) ∧
      (fSame (AV.int 4) r))))) ∧
    ((isF (AV.bin Go.BinOp.lss (AV.cel x0 1) (AV.int (-1000000)))) →
      ((AV.binOk Go.BinOp.gtr (AV.cel x0 1) (AV.int 1000000)) ∧
      ((AV.isBool (AV.bin Go.BinOp.lss (AV.cel x0 1) (AV.int (-1000000)))) ∧
      ((isF (AV.bin Go.BinOp.lss (AV.cel x0 1) (AV.int (-1000000)))) ∧
      ((AV.isBool (AV.bin Go.BinOp.gtr (AV.cel x0 1) (AV.int 1000000))) ∧
      (((isT (AV.bin Go.BinOp.gtr (AV.cel x0 1) (AV.int 1000000))) →
        ((AV.flat (AV.int 4)) ∧
        (fSame (AV.int 4) r))) ∧
      ((isF (AV.bin Go.BinOp.gtr (AV.cel x0 1) (AV.int 1000000))) →
        ((AV.flat (AV.int 0)) ∧
        (fSame (AV.int 0) r)))))))))))))))))))))))))) := by kernel_rfl
theorem sub_form (x0 x1 r : AV) : fnF Tryd.prog Γ ann 3 58 Tryd.f58 (Tryd.f58.body.getD .skip) (.nil) [x0, x1] (.sc) r = (((AV.isAgg x0 2) ∧
((AV.isAgg x1 2) ∧
((AV.binOk Go.BinOp.sub (AV.cel x0 0) (AV.cel x1 0)) ∧
((AV.binOk Go.BinOp.sub (AV.cel x0 1) (AV.cel x1 1)) ∧
((AV.isOne (AV.bin Go.BinOp.sub (AV.cel x0 0) (AV.cel x1 0))) ∧
((AV.isOne (AV.bin Go.BinOp.sub (AV.cel x0 1) (AV.cel x1 1))) ∧
((AV.flat (AV.agg [(AV.bin Go.BinOp.sub (AV.cel x0 0) (AV.cel x1 0)), (AV.bin Go.BinOp.sub (AV.cel x0 1) (AV.cel x1 1))])) ∧
(fSame (AV.agg [(AV.bin Go.BinOp.sub (AV.cel x0 0) (AV.cel x1 0)), (AV.bin Go.BinOp.sub (AV.cel x0 1) (AV.cel x1 1))]) r))))))))) := by kernel_rfl
theorem dot_form (x0 x1 r : AV) : fnF Tryd.prog Γ ann 3 59 Tryd.f59 (Tryd.f59.body.getD .skip) (.nil) [x0, x1] (.sc) r = (((AV.isAgg x0 2) ∧
((AV.isAgg x1 2) ∧
((AV.binOk Go.BinOp.mul (AV.cel x0 0) (AV.cel x1 0)) ∧
((AV.binOk Go.BinOp.mul (AV.cel x0 1) (AV.cel x1 1)) ∧
((AV.binOk Go.BinOp.add (AV.bin Go.BinOp.mul (AV.cel x0 0) (AV.cel x1 0)) (AV.bin Go.BinOp.mul (AV.cel x0 1) (AV.cel x1 1))) ∧
((AV.flat (AV.bin Go.BinOp.add (AV.bin Go.BinOp.mul (AV.cel x0 0) (AV.cel x1 0)) (AV.bin Go.BinOp.mul (AV.cel x0 1) (AV.cel x1 1)))) ∧
(fSame (AV.bin Go.BinOp.add (AV.bin Go.BinOp.mul (AV.cel x0 0) (AV.cel x1 0)) (AV.bin Go.BinOp.mul (AV.cel x0 1) (AV.cel x1 1))) r)))))))) := by kernel_rfl
theorem square_form (x0 x1 r : AV) : fnF Tryd.prog Γ ann 3 39 Tryd.f39 (Tryd.f39.body.getD .skip) (.nil) [x0, x1] (.sc) r = (((AV.isAgg x0 2) ∧
((AV.isAgg x1 2) ∧
(∃ r321 : AV, ((Fn Tryd.prog 58 [(AV.agg [(AV.cel x0 0), (AV.cel x0 1)]), (AV.agg [(AV.cel x1 0), (AV.cel x1 1)])] Sh.sc r321) ∧
((AV.isAgg r321 2) ∧
(∃ r641 : AV, ((Fn Tryd.prog 59 [(AV.agg [(AV.cel r321 0), (AV.cel r321 1)]), (AV.agg [(AV.cel r321 0), (AV.cel r321 1)])] Sh.sc r641) ∧
((AV.flat r641) ∧
(fSame r641 r)))))))))) := by kernel_rfl
theorem divd_form (x0 x1 r : AV) : fnF Tryd.prog Γ ann 3 48 Tryd.f48 (Tryd.f48.body.getD .skip) (.nil) [x0, x1] (.tup [.sc, .sc]) r = (((AV.binOk Go.BinOp.eql x1 (AV.int 0)) ∧
((AV.isBool (AV.bin Go.BinOp.eql x1 (AV.int 0))) ∧
(((isT (AV.bin Go.BinOp.eql x1 (AV.int 0))) →
  ((AV.flat (AV.int 0)) ∧
  ((AV.flat (AV.int 10)) ∧
  (fSame (AV.tup [(AV.int 0), (AV.int 10)]) r)))) ∧
((isF (AV.bin Go.BinOp.eql x1 (AV.int 0))) →
  ((AV.binOk Go.BinOp.eql x0 (AV.int (-9223372036854775808))) ∧
  ((AV.isBool (AV.bin Go.BinOp.eql x0 (AV.int (-9223372036854775808)))) ∧
  (((isT (AV.bin Go.BinOp.eql x0 (AV.int (-9223372036854775808)))) →
    ((AV.binOk Go.BinOp.eql x1 (AV.int (-1))) ∧
    ((AV.isBool (AV.bin Go.BinOp.eql x0 (AV.int (-9223372036854775808)))) ∧
    ((isT (AV.bin Go.BinOp.eql x0 (AV.int (-9223372036854775808)))) ∧
    ((AV.isBool (AV.bin Go.BinOp.eql x1 (AV.int (-1)))) ∧
    (((isT (AV.bin Go.BinOp.eql x1 (AV.int (-1)))) →
      ((AV.flat (AV.int 0)) ∧
      ((AV.flat (AV.int 2)) ∧
      (fSame (AV.tup [(AV.int 0), (AV.int 2)]) r)))) ∧
    ((isF (AV.bin Go.BinOp.eql x1 (AV.int (-1)))) →
      ((AV.binOk Go.BinOp.quo x0 x1) ∧
      ((AV.binOk Go.BinOp.rem x0 x1) ∧
      ((AV.binOk Go.BinOp.neq (AV.bin Go.BinOp.rem x0 x1) (AV.int 0)) ∧
      ((AV.isBool (AV.bin Go.BinOp.neq (AV.bin Go.BinOp.rem x0 x1) (AV.int 0))) ∧
      (((isT (AV.bin Go.BinOp.neq (AV.bin Go.BinOp.rem x0 x1) (AV.int 0))) →
        ((AV.binOk Go.BinOp.lss x0 (AV.int 0)) ∧
        ((AV.binOk Go.BinOp.lss x1 (AV.int 0)) ∧
        ((AV.isBool (AV.bin Go.BinOp.lss x0 (AV.int 0))) ∧
        ((AV.isBool (AV.bin Go.BinOp.lss x1 (AV.int 0))) ∧
        ((AV.isBool (AV.bin Go.BinOp.neq (AV.bin Go.BinOp.rem x0 x1) (AV.int 0))) ∧
        ((isT (AV.bin Go.BinOp.neq (AV.bin Go.BinOp.rem x0 x1) (AV.int 0))) ∧
        ((AV.isBool (AV.neB (AV.bin Go.BinOp.lss x0 (AV.int 0)) (AV.bin Go.BinOp.lss x1 (AV.int 0)))) ∧
        (((isT (AV.neB (AV.bin Go.BinOp.lss x0 (AV.int 0)) (AV.bin Go.BinOp.lss x1 (AV.int 0)))) →
          ((AV.binOk Go.BinOp.sub (AV.bin Go.BinOp.quo x0 x1) (AV.int 1)) ∧
          ((AV.flat (AV.bin Go.BinOp.sub (AV.bin Go.BinOp.quo x0 x1) (AV.int 1))) ∧
          ((AV.flat (AV.int 0)) ∧
          (fSame (AV.tup [(AV.bin Go.BinOp.sub (AV.bin Go.BinOp.quo x0 x1) (AV.int 1)), (AV.int 0)]) r))))) ∧
        ((isF (AV.neB (AV.bin Go.BinOp.lss x0 (AV.int 0)) (AV.bin Go.BinOp.lss x1 (AV.int 0)))) →
          ((AV.flat (AV.bin Go.BinOp.quo x0 x1)) ∧
          ((AV.flat (AV.int 0)) ∧
          (fSame (AV.tup [(AV.bin Go.BinOp.quo x0 x1), (AV.int 0)]) r))))))))))))) ∧
      ((isF (AV.bin Go.BinOp.neq (AV.bin Go.BinOp.rem x0 x1) (AV.int 0))) →
        ((AV.isBool (AV.bin Go.BinOp.neq (AV.bin Go.BinOp.rem x0 x1) (AV.int 0))) ∧
        ((isF (AV.bin Go.BinOp.neq (AV.bin Go.BinOp.rem x0 x1) (AV.int 0))) ∧
        ((AV.flat (AV.bin Go.BinOp.quo x0 x1)) ∧
        ((AV.flat (AV.int 0)) ∧
        (fSame (AV.tup [(AV.bin Go.BinOp.quo x0 x1), (AV.int 0)]) r)))))))))))))))))) ∧
  ((isF (AV.bin Go.BinOp.eql x0 (AV.int (-9223372036854775808)))) →
    ((AV.isBool (AV.bin Go.BinOp.eql x0 (AV.int (-9223372036854775808)))) ∧
    ((isF (AV.bin Go.BinOp.eql x0 (AV.int (-9223372036854775808)))) ∧
    ((AV.binOk Go.BinOp.quo x0 x1) ∧
    ((AV.binOk Go.BinOp.rem x0 x1) ∧
    ((AV.binOk Go.BinOp.neq (AV.bin Go.BinOp.rem x0 x1) (AV.int 0)) ∧
    ((AV.isBool (AV.bin Go.BinOp.neq (AV.bin Go.BinOp.rem x0 x1) (AV.int 0))) ∧
    (((isT (AV.bin Go.BinOp.neq (AV.bin Go.BinOp.rem x0 x1) (AV.int 0))) →
      ((AV.binOk Go.BinOp.lss x0 (AV.int 0)) ∧
      ((AV.binOk Go.BinOp.lss x1 (AV.int 0)) ∧
      ((AV.isBool (AV.bin Go.BinOp.lss x0 (AV.int 0))) ∧
      ((AV.isBool (AV.bin Go.BinOp.lss x1 (AV.int 0))) ∧
      ((AV.isBool (AV.bin Go.BinOp.neq (AV.bin Go.BinOp.rem x0 x1) (AV.int 0))) ∧
      ((isT (AV.bin Go.BinOp.neq (AV.bin Go.BinOp.rem x0 x1) (AV.int 0))) ∧
      ((AV.isBool (AV.neB (AV.bin Go.BinOp.lss x0 (AV.int 0)) (AV.bin Go.BinOp.lss x1 (AV.int 0)))) ∧
      (((isT (AV.neB (AV.bin Go.BinOp.lss x0 (AV.int 0)) (AV.bin Go.BinOp.lss x1 (AV.int 0)))) →
        ((AV.binOk Go.BinOp.sub (AV.bin Go.BinOp.quo x0 x1) (AV.int 1)) ∧
        ((AV.flat (AV.bin Go.BinOp.sub (AV.bin Go.BinOp.quo x0 x1) (AV.int 1))) ∧
        ((AV.flat (AV.int 0)) ∧
        (fSame (AV.tup [(AV.bin Go.BinOp.sub (AV.bin Go.BinOp.quo x0 x1) (AV.int 1)), (AV.int 0)]) r))))) ∧
      ((isF (AV.neB (AV.bin Go.BinOp.lss x0 (AV.int 0)) (AV.bin Go.BinOp.lss x1 (AV.int 0)))) →
        ((AV.flat (AV.bin Go.BinOp.quo x0 x1)) ∧
        ((AV.flat (AV.int 0)) ∧
        (fSame (AV.tup [(AV.bin Go.BinOp.quo x0 x1), (AV.int 0)]) r))))))))))))) ∧
    ((isF (AV.bin Go.BinOp.neq (AV.bin Go.BinOp.rem x0 x1) (AV.int 0))) →
      ((AV.isBool (AV.bin Go.BinOp.neq (AV.bin Go.BinOp.rem x0 x1) (AV.int 0))) ∧
      ((isF (AV.bin Go.BinOp.neq (AV.bin Go.BinOp.rem x0 x1) (AV.int 0))) ∧
      ((AV.flat (AV.bin Go.BinOp.quo x0 x1)) ∧
      ((AV.flat (AV.int 0)) ∧
      (fSame (AV.tup [(AV.bin Go.BinOp.quo x0 x1), (AV.int 0)]) r)))))))))))))))))))))) := by kernel_rfl
theorem divu_form (x0 x1 r : AV) : fnF Tryd.prog Γ ann 3 49 Tryd.f49 (Tryd.f49.body.getD .skip) (.nil) [x0, x1] (.tup [.sc, .sc]) r = ((∃ r257 : AV, ((Fn Tryd.prog 48 [x0, x1] (Sh.tup [Sh.sc, Sh.sc]) r257) ∧
((AV.binOk Go.BinOp.eql (AV.prj r257 1) (AV.int 0)) ∧
((AV.isBool (AV.bin Go.BinOp.eql (AV.prj r257 1) (AV.int 0))) ∧
(((isT (AV.bin Go.BinOp.eql (AV.prj r257 1) (AV.int 0))) →
  ((AV.binOk Go.BinOp.rem x0 x1) ∧
  ((AV.binOk Go.BinOp.neq (AV.bin Go.BinOp.rem x0 x1) (AV.int 0)) ∧
  ((AV.isBool (AV.bin Go.BinOp.eql (AV.prj r257 1) (AV.int 0))) ∧
  ((isT (AV.bin Go.BinOp.eql (AV.prj r257 1) (AV.int 0))) ∧
  ((AV.isBool (AV.bin Go.BinOp.neq (AV.bin Go.BinOp.rem x0 x1) (AV.int 0))) ∧
  (((isT (AV.bin Go.BinOp.neq (AV.bin Go.BinOp.rem x0 x1) (AV.int 0))) →
    ((AV.binOk Go.BinOp.add (AV.prj r257 0) (AV.int 1)) ∧
    ((AV.flat (AV.bin Go.BinOp.add (AV.prj r257 0) (AV.int 1))) ∧
    ((AV.flat (AV.prj r257 1)) ∧
    (fSame (AV.tup [(AV.bin Go.BinOp.add (AV.prj r257 0) (AV.int 1)), (AV.prj r257 1)]) r))))) ∧
  ((isF (AV.bin Go.BinOp.neq (AV.bin Go.BinOp.rem x0 x1) (AV.int 0))) →
    ((AV.flat (AV.prj r257 0)) ∧
    ((AV.flat (AV.prj r257 1)) ∧
    (fSame (AV.tup [(AV.prj r257 0), (AV.prj r257 1)]) r))))))))))) ∧
((isF (AV.bin Go.BinOp.eql (AV.prj r257 1) (AV.int 0))) →
  ((AV.isBool (AV.bin Go.BinOp.eql (AV.prj r257 1) (AV.int 0))) ∧
  ((isF (AV.bin Go.BinOp.eql (AV.prj r257 1) (AV.int 0))) ∧
  ((AV.flat (AV.prj r257 0)) ∧
  ((AV.flat (AV.prj r257 1)) ∧
  (fSame (AV.tup [(AV.prj r257 0), (AV.prj r257 1)]) r)))))))))))) := by kernel_rfl
theorem toward_form (x0 x1 x2 x3 r : AV) : fnF Tryd.prog Γ ann 3 47 Tryd.f47 (Tryd.f47.body.getD .skip) (.nil) [x0, x1, x2, x3] (.tup [.sc, .sc]) r = (((AV.isAgg x0 2) ∧
((AV.isAgg x1 2) ∧
((AV.binOk Go.BinOp.leq x3 (AV.int 0)) ∧
((AV.isBool (AV.bin Go.BinOp.leq x3 (AV.int 0))) ∧
(((isT (AV.bin Go.BinOp.leq x3 (AV.int 0))) →
  ((AV.flat (AV.agg [(AV.int 0), (AV.int 0)])) ∧
  ((AV.flat (AV.int 10)) ∧
  (fSame (AV.tup [(AV.agg [(AV.int 0), (AV.int 0)]), (AV.int 10)]) r)))) ∧
((isF (AV.bin Go.BinOp.leq x3 (AV.int 0))) →
  ((AV.binOk Go.BinOp.gtr x3 (AV.int 200000)) ∧
  ((AV.isBool (AV.bin Go.BinOp.gtr x3 (AV.int 200000))) ∧
  (((isT (AV.bin Go.BinOp.gtr x3 (AV.int 200000))) →
    ((AV.isBool (AV.bin Go.BinOp.gtr x3 (AV.int 200000))) ∧
    ((isT (AV.bin Go.BinOp.gtr x3 (AV.int 200000))) ∧
    ((AV.flat (AV.agg [(AV.int 0), (AV.int 0)])) ∧
    ((AV.flat (AV.int 4)) ∧
    (fSame (AV.tup [(AV.agg [(AV.int 0), (AV.int 0)]), (AV.int 4)]) r)))))) ∧
  ((isF (AV.bin Go.BinOp.gtr x3 (AV.int 200000))) →
    ((AV.binOk Go.BinOp.lss x2 (AV.int 0)) ∧
    ((AV.isBool (AV.bin Go.BinOp.gtr x3 (AV.int 200000))) ∧
    ((isF (AV.bin Go.BinOp.gtr x3 (AV.int 200000))) ∧
    ((AV.isBool (AV.bin Go.BinOp.lss x2 (AV.int 0))) ∧
    (((isT (AV.bin Go.BinOp.lss x2 (AV.int 0))) →
      ((AV.isBool (AV.bin Go.BinOp.lss x2 (AV.int 0))) ∧
      ((isT (AV.bin Go.BinOp.lss x2 (AV.int 0))) ∧
      ((AV.flat (AV.agg [(AV.int 0), (AV.int 0)])) ∧
      ((AV.flat (AV.int 4)) ∧
      (fSame (AV.tup [(AV.agg [(AV.int 0), (AV.int 0)]), (AV.int 4)]) r)))))) ∧
    ((isF (AV.bin Go.BinOp.lss x2 (AV.int 0))) →
      ((AV.binOk Go.BinOp.gtr x2 x3) ∧
      ((AV.isBool (AV.bin Go.BinOp.lss x2 (AV.int 0))) ∧
      ((isF (AV.bin Go.BinOp.lss x2 (AV.int 0))) ∧
      ((AV.isBool (AV.bin Go.BinOp.gtr x2 x3)) ∧
      (((isT (AV.bin Go.BinOp.gtr x2 x3)) →
        ((AV.flat (AV.agg [(AV.int 0), (AV.int 0)])) ∧
        ((AV.flat (AV.int 4)) ∧
        (fSame (AV.tup [(AV.agg [(AV.int 0), (AV.int 0)]), (AV.int 4)]) r)))) ∧
      ((isF (AV.bin Go.BinOp.gtr x2 x3)) →
        (∃ r1281 : AV, ((Fn Tryd.prog 20 [(AV.agg [(AV.cel x0 0), (AV.cel x0 1)])] Sh.sc r1281) ∧
        ((AV.binOk Go.BinOp.neq r1281 (AV.int 0)) ∧
        ((AV.isBool (AV.bin Go.BinOp.neq r1281 (AV.int 0))) ∧
        (((isT (AV.bin Go.BinOp.neq r1281 (AV.int 0))) →
          (∃ r1601 : AV, ((Fn Tryd.prog 20 [(AV.agg [(AV.cel x0 0), (AV.cel x0 1)])] Sh.sc r1601) ∧
          ((AV.flat (AV.agg [(AV.int 0), (AV.int 0)])) ∧
          ((AV.flat r1601) ∧
          (fSame (AV.tup [(AV.agg [(AV.int 0), (AV.int 0)]), r1601]) r)))))) ∧
        ((isF (AV.bin Go.BinOp.neq r1281 (AV.int 0))) →
          (∃ r1537 : AV, ((Fn Tryd.prog 20 [(AV.agg [(AV.cel x1 0), (AV.cel x1 1)])] Sh.sc r1537) ∧
          ((AV.binOk Go.BinOp.neq r1537 (AV.int 0)) ∧
          ((AV.isBool (AV.bin Go.BinOp.neq r1537 (AV.int 0))) ∧
          (((isT (AV.bin Go.BinOp.neq r1537 (AV.int 0))) →
            (∃ r1857 : AV, ((Fn Tryd.prog 20 [(AV.agg [(AV.cel x1 0), (AV.cel x1 1)])] Sh.sc r1857) ∧
            ((AV.flat (AV.agg [(AV.int 0), (AV.int 0)])) ∧
            ((AV.flat r1857) ∧
            (fSame (AV.tup [(AV.agg [(AV.int 0), (AV.int 0)]), r1857]) r)))))) ∧
          ((isF (AV.bin Go.BinOp.neq r1537 (AV.int 0))) →
            ((AV.binOk Go.BinOp.sub (AV.cel x1 0) (AV.cel x0 0)) ∧
            ((AV.binOk Go.BinOp.mul (AV.bin Go.BinOp.sub (AV.cel x1 0) (AV.cel x0 0)) x2) ∧
            (∃ r2241 : AV, ((Fn Tryd.prog 48 [(AV.bin Go.BinOp.mul (AV.bin Go.BinOp.sub (AV.cel x1 0) (AV.cel x0 0)) x2), x3] (Sh.tup [Sh.sc, Sh.sc]) r2241) ∧
            ((AV.binOk Go.BinOp.sub (AV.cel x1 1) (AV.cel x0 1)) ∧
            ((AV.binOk Go.BinOp.mul (AV.bin Go.BinOp.sub (AV.cel x1 1) (AV.cel x0 1)) x2) ∧
            (∃ r3137 : AV, ((Fn Tryd.prog 48 [(AV.bin Go.BinOp.mul (AV.bin Go.BinOp.sub (AV.cel x1 1) (AV.cel x0 1)) x2), x3] (Sh.tup [Sh.sc, Sh.sc]) r3137) ∧
            ((AV.binOk Go.BinOp.add (AV.cel x0 0) (AV.prj r2241 0)) ∧
            ((AV.binOk Go.BinOp.add (AV.cel x0 1) (AV.prj r3137 0)) ∧
            ((AV.isOne (AV.bin Go.BinOp.add (AV.cel x0 0) (AV.prj r2241 0))) ∧
            ((AV.isOne (AV.bin Go.BinOp.add (AV.cel x0 1) (AV.prj r3137 0))) ∧
            ((AV.flat (AV.agg [(AV.bin Go.BinOp.add (AV.cel x0 0) (AV.prj r2241 0)), (AV.bin Go.BinOp.add (AV.cel x0 1) (AV.prj r3137 0))])) ∧
            ((AV.flat (AV.int 0)) ∧
            (fSame (AV.tup [(AV.agg [(AV.bin Go.BinOp.add (AV.cel x0 0) (AV.prj r2241 0)), (AV.bin Go.BinOp.add (AV.cel x0 1) (AV.prj r3137 0))]), (AV.int 0)]) r)))))))))))))))))))))))))))))))))))))))))))))))))) := by kernel_rfl
theorem tcheck_form (x0 r : AV) : fnF Tryd.prog Γ ann 3 14 Tryd.f14 (Tryd.f14.body.getD .skip) (.nil) [x0] (.sc) r = (((AV.isSl x0 6) ∧
((AV.binOk Go.BinOp.gtr (AV.len x0) (AV.int 64)) ∧
((AV.isBool (AV.bin Go.BinOp.gtr (AV.len x0) (AV.int 64))) ∧
(((isT (AV.bin Go.BinOp.gtr (AV.len x0) (AV.int 64))) →
  ((AV.flat (AV.int 2)) ∧
  (fSame (AV.int 2) r))) ∧
((isF (AV.bin Go.BinOp.gtr (AV.len x0) (AV.int 64))) →
  ((AV.isSl x0 6) ∧
  ((AV.binOk Go.BinOp.eql (AV.len x0) (AV.int 0)) ∧
  ((AV.isBool (AV.bin Go.BinOp.eql (AV.len x0) (AV.int 0))) ∧
  (((isT (AV.bin Go.BinOp.eql (AV.len x0) (AV.int 0))) →
    ((AV.flat (AV.int 3)) ∧
    (fSame (AV.int 3) r))) ∧
  ((isF (AV.bin Go.BinOp.eql (AV.len x0) (AV.int 0))) →
    ((AV.isSl x0 6) ∧
    (fLoop 769 [(AV.int 0)] fun ys769 again769 =>
      ((AV.binOk Go.BinOp.lss (ys769.getD 0 default) (AV.len x0)) ∧
      ((AV.isBool (AV.bin Go.BinOp.lss (ys769.getD 0 default) (AV.len x0))) ∧
      (((isT (AV.bin Go.BinOp.lss (ys769.getD 0 default) (AV.len x0))) →
        ((AV.isSl x0 6) ∧
        ((AV.inb x0 (ys769.getD 0 default)) ∧
        ((AV.isAgg (AV.atAgg x0 (ys769.getD 0 default) 0 6) 6) ∧
        ((AV.binOk Go.BinOp.lss (AV.cel (AV.atAgg x0 (ys769.getD 0 default) 0 6) 0) (AV.int 0)) ∧
        ((AV.isBool (AV.bin Go.BinOp.lss (AV.cel (AV.atAgg x0 (ys769.getD 0 default) 0 6) 0) (AV.int 0))) ∧
        (((isT (AV.bin Go.BinOp.lss (AV.cel (AV.atAgg x0 (ys769.getD 0 default) 0 6) 0) (AV.int 0))) →
          ((AV.isBool (AV.bin Go.BinOp.lss (AV.cel (AV.atAgg x0 (ys769.getD 0 default) 0 6) 0) (AV.int 0))) ∧
          ((isT (AV.bin Go.BinOp.lss (AV.cel (AV.atAgg x0 (ys769.getD 0 default) 0 6) 0) (AV.int 0))) ∧
          ((AV.flat (AV.int 12)) ∧
          (fSame (AV.int 12) r))))) ∧
        ((isF (AV.bin Go.BinOp.lss (AV.cel (AV.atAgg x0 (ys769.getD 0 default) 0 6) 0) (AV.int 0))) →
          ((AV.binOk Go.BinOp.gtr (AV.cel (AV.atAgg x0 (ys769.getD 0 default) 0 6) 0) (AV.int 200000)) ∧
          ((AV.isBool (AV.bin Go.BinOp.lss (AV.cel (AV.atAgg x0 (ys769.getD 0 default) 0 6) 0) (AV.int 0))) ∧
          ((isF (AV.bin Go.BinOp.lss (AV.cel (AV.atAgg x0 (ys769.getD 0 default) 0 6) 0) (AV.int 0))) ∧
          ((AV.isBool (AV.bin Go.BinOp.gtr (AV.cel (AV.atAgg x0 (ys769.getD 0 default) 0 6) 0) (AV.int 200000))) ∧
          (((isT (AV.bin Go.BinOp.gtr (AV.cel (AV.atAgg x0 (ys769.getD 0 default) 0 6) 0) (AV.int 200000))) →
            ((AV.isBool (AV.bin Go.BinOp.gtr (AV.cel (AV.atAgg x0 (ys769.getD 0 default) 0 6) 0) (AV.int 200000))) ∧
            ((isT (AV.bin Go.BinOp.gtr (AV.cel (AV.atAgg x0 (ys769.getD 0 default) 0 6) 0) (AV.int 200000))) ∧
            ((AV.flat (AV.int 12)) ∧
            (fSame (AV.int 12) r))))) ∧
          ((isF (AV.bin Go.BinOp.gtr (AV.cel (AV.atAgg x0 (ys769.getD 0 default) 0 6) 0) (AV.int 200000))) →
            ((AV.binOk Go.BinOp.gtr (ys769.getD 0 default) (AV.int 0)) ∧
            ((AV.isBool (AV.bin Go.BinOp.gtr (ys769.getD 0 default) (AV.int 0))) ∧
            (((isT (AV.bin Go.BinOp.gtr (ys769.getD 0 default) (AV.int 0))) →
              ((AV.binOk Go.BinOp.sub (ys769.getD 0 default) (AV.int 1)) ∧
              ((AV.isSl x0 6) ∧
              ((AV.inb x0 (AV.bin Go.BinOp.sub (ys769.getD 0 default) (AV.int 1))) ∧
              ((AV.binOk Go.BinOp.leq (AV.cel (AV.atAgg x0 (ys769.getD 0 default) 0 6) 0) (AV.at x0 (AV.bin Go.BinOp.sub (ys769.getD 0 default) (AV.int 1)) 0)) ∧
              ((AV.isBool (AV.bin Go.BinOp.gtr (ys769.getD 0 default) (AV.int 0))) ∧
              ((isT (AV.bin Go.BinOp.gtr (ys769.getD 0 default) (AV.int 0))) ∧
              ((AV.isBool (AV.bin Go.BinOp.gtr (AV.cel (AV.atAgg x0 (ys769.getD 0 default) 0 6) 0) (AV.int 200000))) ∧
              ((isF (AV.bin Go.BinOp.gtr (AV.cel (AV.atAgg x0 (ys769.getD 0 default) 0 6) 0) (AV.int 200000))) ∧
              ((AV.isBool (AV.bin Go.BinOp.leq (AV.cel (AV.atAgg x0 (ys769.getD 0 default) 0 6) 0) (AV.at x0 (AV.bin Go.BinOp.sub (ys769.getD 0 default) (AV.int 1)) 0))) ∧
              (((isT (AV.bin Go.BinOp.leq (AV.cel (AV.atAgg x0 (ys769.getD 0 default) 0 6) 0) (AV.at x0 (AV.bin Go.BinOp.sub (ys769.getD 0 default) (AV.int 1)) 0))) →
                ((AV.flat (AV.int 12)) ∧
                (fSame (AV.int 12) r))) ∧
              ((isF (AV.bin Go.BinOp.leq (AV.cel (AV.atAgg x0 (ys769.getD 0 default) 0 6) 0) (AV.at x0 (AV.bin Go.BinOp.sub (ys769.getD 0 default) (AV.int 1)) 0))) →
                (∃ r3137 : AV, ((Fn Tryd.prog 20 [(AV.agg [(AV.cel (AV.atAgg x0 (ys769.getD 0 default) 0 6) 1), (AV.cel (AV.atAgg x0 (ys769.getD 0 default) 0 6) 2)])] Sh.sc r3137) ∧
                ((AV.binOk Go.BinOp.neq r3137 (AV.int 0)) ∧
                ((AV.isBool (AV.bin Go.BinOp.neq r3137 (AV.int 0))) ∧
                (((isT (AV.bin Go.BinOp.neq r3137 (AV.int 0))) →
                  ((AV.flat r3137) ∧
                  (fSame r3137 r))) ∧
                ((isF (AV.bin Go.BinOp.neq r3137 (AV.int 0))) →
                  ((AV.binOk Go.BinOp.lss (AV.cel (AV.atAgg x0 (ys769.getD 0 default) 0 6) 3) (AV.int 0)) ∧
                  ((AV.isBool (AV.bin Go.BinOp.lss (AV.cel (AV.atAgg x0 (ys769.getD 0 default) 0 6) 3) (AV.int 0))) ∧
                  (((isT (AV.bin Go.BinOp.lss (AV.cel (AV.atAgg x0 (ys769.getD 0 default) 0 6) 3) (AV.int 0))) →
                    ((AV.isBool (AV.bin Go.BinOp.lss (AV.cel (AV.atAgg x0 (ys769.getD 0 default) 0 6) 3) (AV.int 0))) ∧
                    ((isT (AV.bin Go.BinOp.lss (AV.cel (AV.atAgg x0 (ys769.getD 0 default) 0 6) 3) (AV.int 0))) ∧
                    ((AV.flat (AV.int 4)) ∧
                    (fSame (AV.int 4) r))))) ∧
                  ((isF (AV.bin Go.BinOp.lss (AV.cel (AV.atAgg x0 (ys769.getD 0 default) 0 6) 3) (AV.int 0))) →
                    ((AV.binOk Go.BinOp.gtr (AV.cel (AV.atAgg x0 (ys769.getD 0 default) 0 6) 3) (AV.int 60000)) ∧
                    ((AV.isBool (AV.bin Go.BinOp.lss (AV.cel (AV.atAgg x0 (ys769.getD 0 default) 0 6) 3) (AV.int 0))) ∧
                    ((isF (AV.bin Go.BinOp.lss (AV.cel (AV.atAgg x0 (ys769.getD 0 default) 0 6) 3) (AV.int 0))) ∧
                    ((AV.isBool (AV.bin Go.BinOp.gtr (AV.cel (AV.atAgg x0 (ys769.getD 0 default) 0 6) 3) (AV.int 60000))) ∧
                    (((isT (AV.bin Go.BinOp.gtr (AV.cel (AV.atAgg x0 (ys769.getD 0 default) 0 6) 3) (AV.int 60000))) →
                      ((AV.isBool (AV.bin Go.BinOp.gtr (AV.cel (AV.atAgg x0 (ys769.getD 0 default) 0 6) 3) (AV.int 60000))) ∧
                      ((isT (AV.bin Go.BinOp.gtr (AV.cel (AV.atAgg x0 (ys769.getD 0 default) 0 6) 3) (AV.int 60000))) ∧
                      ((AV.flat (AV.int 4)) ∧
                      (fSame (AV.int 4) r))))) ∧
                    ((isF (AV.bin Go.BinOp.gtr (AV.cel (AV.atAgg x0 (ys769.getD 0 default) 0 6) 3) (AV.int 60000))) →
                      ((AV.binOk Go.BinOp.lss (AV.cel (AV.atAgg x0 (ys769.getD 0 default) 0 6) 4) (AV.int 0)) ∧
                      ((AV.isBool (AV.bin Go.BinOp.gtr (AV.cel (AV.atAgg x0 (ys769.getD 0 default) 0 6) 3) (AV.int 60000))) ∧
                      ((isF (AV.bin Go.BinOp.gtr (AV.cel (AV.atAgg x0 (ys769.getD 0 default) 0 6) 3) (AV.int 60000))) ∧
                      ((AV.isBool (AV.bin Go.BinOp.lss (AV.cel (AV.atAgg x0 (ys769.getD 0 default) 0 6) 4) (AV.int 0))) ∧
                      (((isT (AV.bin Go.BinOp.lss (AV.cel (AV.atAgg x0 (ys769.getD 0 default) 0 6) 4) (AV.int 0))) →
                        ((AV.isBool (AV.bin Go.BinOp.lss (AV.cel (AV.atAgg x0 (ys769.getD 0 default) 0 6) 4) (AV.int 0))) ∧
                        ((isT (AV.bin Go.BinOp.lss (AV.cel (AV.atAgg x0 (ys769.getD 0 default) 0 6) 4) (AV.int 0))) ∧
                        ((AV.flat (AV.int 4)) ∧
                        (fSame (AV.int 4) r))))) ∧
                      ((isF (AV.bin Go.BinOp.lss (AV.cel (AV.atAgg x0 (ys769.getD 0 default) 0 6) 4) (AV.int 0))) →
                        ((AV.binOk Go.BinOp.gtr (AV.cel (AV.atAgg x0 (ys769.getD 0 default) 0 6) 4) (AV.int 1000000)) ∧
                        ((AV.isBool (AV.bin Go.BinOp.lss (AV.cel (AV.atAgg x0 (ys769.getD 0 default) 0 6) 4) (AV.int 0))) ∧
                        ((isF (AV.bin Go.BinOp.lss (AV.cel (AV.atAgg x0 (ys769.getD 0 default) 0 6) 4) (AV.int 0))) ∧
                        ((AV.isBool (AV.bin Go.BinOp.gtr (AV.cel (AV.atAgg x0 (ys769.getD 0 default) 0 6) 4) (AV.int 1000000))) ∧
                        (((isT (AV.bin Go.BinOp.gtr (AV.cel (AV.atAgg x0 (ys769.getD 0 default) 0 6) 4) (AV.int 1000000))) →
                          ((AV.isBool (AV.bin Go.BinOp.gtr (AV.cel (AV.atAgg x0 (ys769.getD 0 default) 0 6) 4) (AV.int 1000000))) ∧
                          ((isT (AV.bin Go.BinOp.gtr (AV.cel (AV.atAgg x0 (ys769.getD 0 default) 0 6) 4) (AV.int 1000000))) ∧
                          ((AV.flat (AV.int 4)) ∧
                          (fSame (AV.int 4) r))))) ∧
                        ((isF (AV.bin Go.BinOp.gtr (AV.cel (AV.atAgg x0 (ys769.getD 0 default) 0 6) 4) (AV.int 1000000))) →
                          ((AV.binOk Go.BinOp.lss (AV.cel (AV.atAgg x0 (ys769.getD 0 default) 0 6) 5) (AV.int 0)) ∧
                          ((AV.isBool (AV.bin Go.BinOp.gtr (AV.cel (AV.atAgg x0 (ys769.getD 0 default) 0 6) 4) (AV.int 1000000))) ∧
                          ((isF (AV.bin Go.BinOp.gtr (AV.cel (AV.atAgg x0 (ys769.getD 0 default) 0 6) 4) (AV.int 1000000))) ∧
                          ((AV.isBool (AV.bin Go.BinOp.lss (AV.cel (AV.atAgg x0 (ys769.getD 0 default) 0 6) 5) (AV.int 0))) ∧
                          (((isT (AV.bin Go.BinOp.lss (AV.cel (AV.atAgg x0 (ys769.getD 0 default) 0 6) 5) (AV.int 0))) →
                            ((AV.isBool (AV.bin Go.BinOp.lss (AV.cel (AV.atAgg x0 (ys769.getD 0 default) 0 6) 5) (AV.int 0))) ∧
                            ((isT (AV.bin Go.BinOp.lss (AV.cel (AV.atAgg x0 (ys769.getD 0 default) 0 6) 5) (AV.int 0))) ∧
                            ((AV.flat (AV.int 4)) ∧
                            (fSame (AV.int 4) r))))) ∧
                          ((isF (AV.bin Go.BinOp.lss (AV.cel (AV.atAgg x0 (ys769.getD 0 default) 0 6) 5) (AV.int 0))) →
                            ((AV.binOk Go.BinOp.gtr (AV.cel (AV.atAgg x0 (ys769.getD 0 default) 0 6) 5) (AV.int 60000)) ∧
                            ((AV.isBool (AV.bin Go.BinOp.lss (AV.cel (AV.atAgg x0 (ys769.getD 0 default) 0 6) 5) (AV.int 0))) ∧
                            ((isF (AV.bin Go.BinOp.lss (AV.cel (AV.atAgg x0 (ys769.getD 0 default) 0 6) 5) (AV.int 0))) ∧
                            ((AV.isBool (AV.bin Go.BinOp.gtr (AV.cel (AV.atAgg x0 (ys769.getD 0 default) 0 6) 5) (AV.int 60000))) ∧
                            (((isT (AV.bin Go.BinOp.gtr (AV.cel (AV.atAgg x0 (ys769.getD 0 default) 0 6) 5) (AV.int 60000))) →
                              ((AV.flat (AV.int 4)) ∧
                              (fSame (AV.int 4) r))) ∧
                            ((isF (AV.bin Go.BinOp.gtr (AV.cel (AV.atAgg x0 (ys769.getD 0 default) 0 6) 5) (AV.int 60000))) →
                              ((AV.binOk Go.BinOp.add (ys769.getD 0 default) (AV.int 1)) ∧
                              (again769 [(AV.bin Go.BinOp.add (ys769.getD 0 default) (AV.int 1))])))))))))))))))))))))))))))))))))))))))))))))))))))))) ∧
            ((isF (AV.bin Go.BinOp.gtr (ys769.getD 0 default) (AV.int 0))) →
              ((AV.isBool (AV.bin Go.BinOp.gtr (ys769.getD 0 default) (AV.int 0))) ∧
              ((isF (AV.bin Go.BinOp.gtr (ys769.getD 0 default) (AV.int 0))) ∧
              ((AV.isBool (AV.bin Go.BinOp.gtr (AV.cel (AV.atAgg x0 (ys769.getD 0 default) 0 6) 0) (AV.int 200000))) ∧
              ((isF (AV.bin Go.BinOp.gtr (AV.cel (AV.atAgg x0 (ys769.getD 0 default) 0 6) 0) (AV.int 200000))) ∧
              (∃ r3137 : AV, ((Fn Tryd.prog 20 [(AV.agg [(AV.cel (AV.atAgg x0 (ys769.getD 0 default) 0 6) 1), (AV.cel (AV.atAgg x0 (ys769.getD 0 default) 0 6) 2)])] Sh.sc r3137) ∧
              ((AV.binOk Go.BinOp.neq r3137 (AV.int 0)) ∧
              ((AV.isBool (AV.bin Go.BinOp.neq r3137 (AV.int 0))) ∧
              (((isT (AV.bin Go.BinOp.neq r3137 (AV.int 0))) →
                ((AV.flat r3137) ∧
                (fSame r3137 r))) ∧
              ((isF (AV.bin Go.BinOp.neq r3137 (AV.int 0))) →
                ((AV.binOk Go.BinOp.lss (AV.cel (AV.atAgg x0 (ys769.getD 0 default) 0 6) 3) (AV.int 0)) ∧
                ((AV.isBool (AV.bin Go.BinOp.lss (AV.cel (AV.atAgg x0 (ys769.getD 0 default) 0 6) 3) (AV.int 0))) ∧
                (((isT (AV.bin Go.BinOp.lss (AV.cel (AV.atAgg x0 (ys769.getD 0 default) 0 6) 3) (AV.int 0))) →
                  ((AV.isBool (AV.bin Go.BinOp.lss (AV.cel (AV.atAgg x0 (ys769.getD 0 default) 0 6) 3) (AV.int 0))) ∧
                  ((isT (AV.bin Go.BinOp.lss (AV.cel (AV.atAgg x0 (ys769.getD 0 default) 0 6) 3) (AV.int 0))) ∧
                  ((AV.flat (AV.int 4)) ∧
                  (fSame (AV.int 4) r))))) ∧
                ((isF (AV.bin Go.BinOp.lss (AV.cel (AV.atAgg x0 (ys769.getD 0 default) 0 6) 3) (AV.int 0))) →
                  ((AV.binOk Go.BinOp.gtr (AV.cel (AV.atAgg x0 (ys769.getD 0 default) 0 6) 3) (AV.int 60000)) ∧
                  ((AV.isBool (AV.bin Go.BinOp.lss (AV.cel (AV.atAgg x0 (ys769.getD 0 default) 0 6) 3) (AV.int 0))) ∧
                  ((isF (AV.bin Go.BinOp.lss (AV.cel (AV.atAgg x0 (ys769.getD 0 default) 0 6) 3) (AV.int 0))) ∧
                  ((AV.isBool (AV.bin Go.BinOp.gtr (AV.cel (AV.atAgg x0 (ys769.getD 0 default) 0 6) 3) (AV.int 60000))) ∧
                  (((isT (AV.bin Go.BinOp.gtr (AV.cel (AV.atAgg x0 (ys769.getD 0 default) 0 6) 3) (AV.int 60000))) →
                    ((AV.isBool (AV.bin Go.BinOp.gtr (AV.cel (AV.atAgg x0 (ys769.getD 0 default) 0 6) 3) (AV.int 60000))) ∧
                    ((isT (AV.bin Go.BinOp.gtr (AV.cel (AV.atAgg x0 (ys769.getD 0 default) 0 6) 3) (AV.int 60000))) ∧
                    ((AV.flat (AV.int 4)) ∧
                    (fSame (AV.int 4) r))))) ∧
                  ((isF (AV.bin Go.BinOp.gtr (AV.cel (AV.atAgg x0 (ys769.getD 0 default) 0 6) 3) (AV.int 60000))) →
                    ((AV.binOk Go.BinOp.lss (AV.cel (AV.atAgg x0 (ys769.getD 0 default) 0 6) 4) (AV.int 0)) ∧
                    ((AV.isBool (AV.bin Go.BinOp.gtr (AV.cel (AV.atAgg x0 (ys769.getD 0 default) 0 6) 3) (AV.int 60000))) ∧
                    ((isF (AV.bin Go.BinOp.gtr (AV.cel (AV.atAgg x0 (ys769.getD 0 default) 0 6) 3) (AV.int 60000))) ∧
                    ((AV.isBool (AV.bin Go.BinOp.lss (AV.cel (AV.atAgg x0 (ys769.getD 0 default) 0 6) 4) (AV.int 0))) ∧
                    (((isT (AV.bin Go.BinOp.lss (AV.cel (AV.atAgg x0 (ys769.getD 0 default) 0 6) 4) (AV.int 0))) →
                      ((AV.isBool (AV.bin Go.BinOp.lss (AV.cel (AV.atAgg x0 (ys769.getD 0 default) 0 6) 4) (AV.int 0))) ∧
                      ((isT (AV.bin Go.BinOp.lss (AV.cel (AV.atAgg x0 (ys769.getD 0 default) 0 6) 4) (AV.int 0))) ∧
                      ((AV.flat (AV.int 4)) ∧
                      (fSame (AV.int 4) r))))) ∧
                    ((isF (AV.bin Go.BinOp.lss (AV.cel (AV.atAgg x0 (ys769.getD 0 default) 0 6) 4) (AV.int 0))) →
                      ((AV.binOk Go.BinOp.gtr (AV.cel (AV.atAgg x0 (ys769.getD 0 default) 0 6) 4) (AV.int 1000000)) ∧
                      ((AV.isBool (AV.bin Go.BinOp.lss (AV.cel (AV.atAgg x0 (ys769.getD 0 default) 0 6) 4) (AV.int 0))) ∧
                      ((isF (AV.bin Go.BinOp.lss (AV.cel (AV.atAgg x0 (ys769.getD 0 default) 0 6) 4) (AV.int 0))) ∧
                      ((AV.isBool (AV.bin Go.BinOp.gtr (AV.cel (AV.atAgg x0 (ys769.getD 0 default) 0 6) 4) (AV.int 1000000))) ∧
                      (((isT (AV.bin Go.BinOp.gtr (AV.cel (AV.atAgg x0 (ys769.getD 0 default) 0 6) 4) (AV.int 1000000))) →
                        ((AV.isBool (AV.bin Go.BinOp.gtr (AV.cel (AV.atAgg x0 (ys769.getD 0 default) 0 6) 4) (AV.int 1000000))) ∧
                        ((isT (AV.bin Go.BinOp.gtr (AV.cel (AV.atAgg x0 (ys769.getD 0 default) 0 6) 4) (AV.int 1000000))) ∧
                        ((AV.flat (AV.int 4)) ∧
                        (fSame (AV.int 4) r))))) ∧
                      ((isF (AV.bin Go.BinOp.gtr (AV.cel (AV.atAgg x0 (ys769.getD 0 default) 0 6) 4) (AV.int 1000000))) →
                        ((AV.binOk Go.BinOp.lss (AV.cel (AV.atAgg x0 (ys769.getD 0 default) 0 6) 5) (AV.int 0)) ∧
                        ((AV.isBool (AV.bin Go.BinOp.gtr (AV.cel (AV.atAgg x0 (ys769.getD 0 default) 0 6) 4) (AV.int 1000000))) ∧
                        ((isF (AV.bin Go.BinOp.gtr (AV.cel (AV.atAgg x0 (ys769.getD 0 default) 0 6) 4) (AV.int 1000000))) ∧
                        ((AV.isBool (AV.bin Go.BinOp.lss (AV.cel (AV.atAgg x0 (ys769.getD 0 default) 0 6) 5) (AV.int 0))) ∧
                        (((isT (AV.bin Go.BinOp.lss (AV.cel (AV.atAgg x0 (ys769.getD 0 default) 0 6) 5) (AV.int 0))) →
                          ((AV.isBool (AV.bin Go.BinOp.lss (AV.cel (AV.atAgg x0 (ys769.getD 0 default) 0 6) 5) (AV.int 0))) ∧
                          ((isT (AV.bin Go.BinOp.lss (AV.cel (AV.atAgg x0 (ys769.getD 0 default) 0 6) 5) (AV.int 0))) ∧
                          ((AV.flat (AV.int 4)) ∧
                          (fSame (AV.int 4) r))))) ∧
                        ((isF (AV.bin Go.BinOp.lss (AV.cel (AV.atAgg x0 (ys769.getD 0 default) 0 6) 5) (AV.int 0))) →
                          ((AV.binOk Go.BinOp.gtr (AV.cel (AV.atAgg x0 (ys769.getD 0 default) 0 6) 5) (AV.int 60000)) ∧
                          ((AV.isBool (AV.bin Go.BinOp.lss (AV.cel (AV.atAgg x0 (ys769.getD 0 default) 0 6) 5) (AV.int 0))) ∧
                          ((isF (AV.bin Go.BinOp.lss (AV.cel (AV.atAgg x0 (ys769.getD 0 default) 0 6) 5) (AV.int 0))) ∧
                          ((AV.isBool (AV.bin Go.BinOp.gtr (AV.cel (AV.atAgg x0 (ys769.getD 0 default) 0 6) 5) (AV.int 60000))) ∧
                          (((isT (AV.bin Go.BinOp.gtr (AV.cel (AV.atAgg x0 (ys769.getD 0 default) 0 6) 5) (AV.int 60000))) →
                            ((AV.flat (AV.int 4)) ∧
                            (fSame (AV.int 4) r))) ∧
                          ((isF (AV.bin Go.BinOp.gtr (AV.cel (AV.atAgg x0 (ys769.getD 0 default) 0 6) 5) (AV.int 60000))) →
                            ((AV.binOk Go.BinOp.add (ys769.getD 0 default) (AV.int 1)) ∧
                            (again769 [(AV.bin Go.BinOp.add (ys769.getD 0 default) (AV.int 1))])))))))))))))))))))))))))))))))))))))))))))))))))))))))))))))))) ∧
      ((isF (AV.bin Go.BinOp.lss (ys769.getD 0 default) (AV.len x0))) →
        ((AV.flat (AV.int 0)) ∧
        (fSame (AV.int 0) r))))))))))))))))))) := by kernel_rfl
theorem ends_form (x0 r : AV) : fnF Tryd.prog Γ ann 3 31 Tryd.f31 (Tryd.f31.body.getD .skip) (.nil) [x0] (.tup [.sc, .sc]) r = (((AV.isSl x0 6) ∧
((AV.inb x0 (AV.int 0)) ∧
((AV.isSl x0 6) ∧
((AV.binOk Go.BinOp.sub (AV.len x0) (AV.int 1)) ∧
((AV.isSl x0 6) ∧
((AV.inb x0 (AV.bin Go.BinOp.sub (AV.len x0) (AV.int 1))) ∧
((AV.flat (AV.at x0 (AV.int 0) 0)) ∧
((AV.flat (AV.at x0 (AV.bin Go.BinOp.sub (AV.len x0) (AV.int 1)) 0)) ∧
(fSame (AV.tup [(AV.at x0 (AV.int 0) 0), (AV.at x0 (AV.bin Go.BinOp.sub (AV.len x0) (AV.int 1)) 0)]) r)))))))))) := by kernel_rfl
theorem at_form (x0 x1 r : AV) : fnF Tryd.prog Γ ann 3 32 Tryd.f32 (Tryd.f32.body.getD .skip) (.nil) [x0, x1] (.sc) r = (((fEnt Tryd.prog 45) ∧
(fAllV fun _ => ((AV.isSl x0 6) ∧
(fLoop 769 [(AV.int 0), (AV.len x0)] fun ys769 again769 =>
  ((AV.binOk Go.BinOp.lss (ys769.getD 0 default) (ys769.getD 1 default)) ∧
  ((AV.isBool (AV.bin Go.BinOp.lss (ys769.getD 0 default) (ys769.getD 1 default))) ∧
  (((isT (AV.bin Go.BinOp.lss (ys769.getD 0 default) (ys769.getD 1 default))) →
    ((AV.binOk Go.BinOp.add (ys769.getD 0 default) (ys769.getD 1 default)) ∧
    ((AV.isInt (AV.bin Go.BinOp.add (ys769.getD 0 default) (ys769.getD 1 default))) ∧
    ((AV.shfOk (AV.conv Go.IntKind.u64 (AV.bin Go.BinOp.add (ys769.getD 0 default) (ys769.getD 1 default))) (AV.lit (Value.int Go.IntKind.u64 1))) ∧
    ((AV.isInt (AV.shf Go.BinOp.shr (AV.conv Go.IntKind.u64 (AV.bin Go.BinOp.add (ys769.getD 0 default) (ys769.getD 1 default))) (AV.lit (Value.int Go.IntKind.u64 1)))) ∧
    ((AV.isSl x0 6) ∧
    ((AV.inb x0 (AV.conv Go.IntKind.i64 (AV.shf Go.BinOp.shr (AV.conv Go.IntKind.u64 (AV.bin Go.BinOp.add (ys769.getD 0 default) (ys769.getD 1 default))) (AV.lit (Value.int Go.IntKind.u64 1))))) ∧
    ((fEnt Tryd.prog 46) ∧
    (fAllV fun _ => ((AV.isAgg (AV.atAgg x0 (AV.conv Go.IntKind.i64 (AV.shf Go.BinOp.shr (AV.conv Go.IntKind.u64 (AV.bin Go.BinOp.add (ys769.getD 0 default) (ys769.getD 1 default))) (AV.lit (Value.int Go.IntKind.u64 1)))) 0 6) 6) ∧
    ((AV.binOk Go.BinOp.sub (AV.cel (AV.atAgg x0 (AV.conv Go.IntKind.i64 (AV.shf Go.BinOp.shr (AV.conv Go.IntKind.u64 (AV.bin Go.BinOp.add (ys769.getD 0 default) (ys769.getD 1 default))) (AV.lit (Value.int Go.IntKind.u64 1)))) 0 6) 0) x1) ∧
    ((AV.binOk Go.BinOp.lss (AV.bin Go.BinOp.sub (AV.cel (AV.atAgg x0 (AV.conv Go.IntKind.i64 (AV.shf Go.BinOp.shr (AV.conv Go.IntKind.u64 (AV.bin Go.BinOp.add (ys769.getD 0 default) (ys769.getD 1 default))) (AV.lit (Value.int Go.IntKind.u64 1)))) 0 6) 0) x1) (AV.int 0)) ∧
    ((AV.isBool (AV.bin Go.BinOp.lss (AV.bin Go.BinOp.sub (AV.cel (AV.atAgg x0 (AV.conv Go.IntKind.i64 (AV.shf Go.BinOp.shr (AV.conv Go.IntKind.u64 (AV.bin Go.BinOp.add (ys769.getD 0 default) (ys769.getD 1 default))) (AV.lit (Value.int Go.IntKind.u64 1)))) 0 6) 0) x1) (AV.int 0))) ∧
    (((isT (AV.bin Go.BinOp.lss (AV.bin Go.BinOp.sub (AV.cel (AV.atAgg x0 (AV.conv Go.IntKind.i64 (AV.shf Go.BinOp.shr (AV.conv Go.IntKind.u64 (AV.bin Go.BinOp.add (ys769.getD 0 default) (ys769.getD 1 default))) (AV.lit (Value.int Go.IntKind.u64 1)))) 0 6) 0) x1) (AV.int 0))) →
      ((AV.binOk Go.BinOp.add (AV.conv Go.IntKind.i64 (AV.shf Go.BinOp.shr (AV.conv Go.IntKind.u64 (AV.bin Go.BinOp.add (ys769.getD 0 default) (ys769.getD 1 default))) (AV.lit (Value.int Go.IntKind.u64 1)))) (AV.int 1)) ∧
      (again769 [(AV.bin Go.BinOp.add (AV.conv Go.IntKind.i64 (AV.shf Go.BinOp.shr (AV.conv Go.IntKind.u64 (AV.bin Go.BinOp.add (ys769.getD 0 default) (ys769.getD 1 default))) (AV.lit (Value.int Go.IntKind.u64 1)))) (AV.int 1)), (ys769.getD 1 default)]))) ∧
    ((isF (AV.bin Go.BinOp.lss (AV.bin Go.BinOp.sub (AV.cel (AV.atAgg x0 (AV.conv Go.IntKind.i64 (AV.shf Go.BinOp.shr (AV.conv Go.IntKind.u64 (AV.bin Go.BinOp.add (ys769.getD 0 default) (ys769.getD 1 default))) (AV.lit (Value.int Go.IntKind.u64 1)))) 0 6) 0) x1) (AV.int 0))) →
      (again769 [(ys769.getD 0 default), (AV.conv Go.IntKind.i64 (AV.shf Go.BinOp.shr (AV.conv Go.IntKind.u64 (AV.bin Go.BinOp.add (ys769.getD 0 default) (ys769.getD 1 default))) (AV.lit (Value.int Go.IntKind.u64 1))))])))))))))))))))) ∧
  ((isF (AV.bin Go.BinOp.lss (ys769.getD 0 default) (ys769.getD 1 default))) →
    ((AV.binOk Go.BinOp.lss (ys769.getD 0 default) (AV.len x0)) ∧
    ((AV.isBool (AV.bin Go.BinOp.lss (ys769.getD 0 default) (AV.len x0))) ∧
    (((isT (AV.bin Go.BinOp.lss (ys769.getD 0 default) (AV.len x0))) →
      ((AV.isSl x0 6) ∧
      ((AV.inb x0 (ys769.getD 0 default)) ∧
      ((fEnt Tryd.prog 46) ∧
      (fAllV fun _ => ((AV.isAgg (AV.atAgg x0 (ys769.getD 0 default) 0 6) 6) ∧
      ((AV.binOk Go.BinOp.sub (AV.cel (AV.atAgg x0 (ys769.getD 0 default) 0 6) 0) x1) ∧
      ((AV.binOk Go.BinOp.eql (AV.bin Go.BinOp.sub (AV.cel (AV.atAgg x0 (ys769.getD 0 default) 0 6) 0) x1) (AV.int 0)) ∧
      ((AV.isBool (AV.bin Go.BinOp.lss (ys769.getD 0 default) (AV.len x0))) ∧
      ((isT (AV.bin Go.BinOp.lss (ys769.getD 0 default) (AV.len x0))) ∧
      ((AV.isBool (AV.bin Go.BinOp.eql (AV.bin Go.BinOp.sub (AV.cel (AV.atAgg x0 (ys769.getD 0 default) 0 6) 0) x1) (AV.int 0))) ∧
      (((isT (AV.bin Go.BinOp.eql (AV.bin Go.BinOp.sub (AV.cel (AV.atAgg x0 (ys769.getD 0 default) 0 6) 0) x1) (AV.int 0))) →
        ((AV.isSl x0 6) ∧
        ((AV.inb x0 (ys769.getD 0 default)) ∧
        ((AV.isAgg (AV.atAgg x0 (ys769.getD 0 default) 0 6) 6) ∧
        ((AV.flat (AV.agg [(AV.cel (AV.atAgg x0 (ys769.getD 0 default) 0 6) 0), (AV.cel (AV.atAgg x0 (ys769.getD 0 default) 0 6) 1), (AV.cel (AV.atAgg x0 (ys769.getD 0 default) 0 6) 2), (AV.cel (AV.atAgg x0 (ys769.getD 0 default) 0 6) 3), (AV.cel (AV.atAgg x0 (ys769.getD 0 default) 0 6) 4), (AV.cel (AV.atAgg x0 (ys769.getD 0 default) 0 6) 5)])) ∧
        (fSame (AV.agg [(AV.cel (AV.atAgg x0 (ys769.getD 0 default) 0 6) 0), (AV.cel (AV.atAgg x0 (ys769.getD 0 default) 0 6) 1), (AV.cel (AV.atAgg x0 (ys769.getD 0 default) 0 6) 2), (AV.cel (AV.atAgg x0 (ys769.getD 0 default) 0 6) 3), (AV.cel (AV.atAgg x0 (ys769.getD 0 default) 0 6) 4), (AV.cel (AV.atAgg x0 (ys769.getD 0 default) 0 6) 5)]) r)))))) ∧
      ((isF (AV.bin Go.BinOp.eql (AV.bin Go.BinOp.sub (AV.cel (AV.atAgg x0 (ys769.getD 0 default) 0 6) 0) x1) (AV.int 0))) →
        ((AV.binOk Go.BinOp.sub (ys769.getD 0 default) (AV.int 1)) ∧
        ((AV.isSl x0 6) ∧
        ((AV.inb x0 (AV.bin Go.BinOp.sub (ys769.getD 0 default) (AV.int 1))) ∧
        ((AV.isSl x0 6) ∧
        ((AV.inb x0 (ys769.getD 0 default)) ∧
        ((AV.isAgg (AV.atAgg x0 (AV.bin Go.BinOp.sub (ys769.getD 0 default) (AV.int 1)) 0 6) 6) ∧
        ((AV.isAgg (AV.atAgg x0 (ys769.getD 0 default) 0 6) 6) ∧
        ((AV.binOk Go.BinOp.sub x1 (AV.cel (AV.atAgg x0 (AV.bin Go.BinOp.sub (ys769.getD 0 default) (AV.int 1)) 0 6) 0)) ∧
        ((AV.binOk Go.BinOp.sub (AV.cel (AV.atAgg x0 (ys769.getD 0 default) 0 6) 0) (AV.cel (AV.atAgg x0 (AV.bin Go.BinOp.sub (ys769.getD 0 default) (AV.int 1)) 0 6) 0)) ∧
        (∃ r5249 : AV, ((Fn Tryd.prog 47 [(AV.agg [(AV.cel (AV.atAgg x0 (AV.bin Go.BinOp.sub (ys769.getD 0 default) (AV.int 1)) 0 6) 1), (AV.cel (AV.atAgg x0 (AV.bin Go.BinOp.sub (ys769.getD 0 default) (AV.int 1)) 0 6) 2)]), (AV.agg [(AV.cel (AV.atAgg x0 (ys769.getD 0 default) 0 6) 1), (AV.cel (AV.atAgg x0 (ys769.getD 0 default) 0 6) 2)]), (AV.bin Go.BinOp.sub x1 (AV.cel (AV.atAgg x0 (AV.bin Go.BinOp.sub (ys769.getD 0 default) (AV.int 1)) 0 6) 0)), (AV.bin Go.BinOp.sub (AV.cel (AV.atAgg x0 (ys769.getD 0 default) 0 6) 0) (AV.cel (AV.atAgg x0 (AV.bin Go.BinOp.sub (ys769.getD 0 default) (AV.int 1)) 0 6) 0))] (Sh.tup [Sh.sc, Sh.sc]) r5249) ∧
        ((AV.isAgg (AV.prj r5249 0) 2) ∧
        ((AV.binOk Go.BinOp.sub (AV.cel (AV.atAgg x0 (ys769.getD 0 default) 0 6) 3) (AV.cel (AV.atAgg x0 (AV.bin Go.BinOp.sub (ys769.getD 0 default) (AV.int 1)) 0 6) 3)) ∧
        ((AV.binOk Go.BinOp.mul (AV.bin Go.BinOp.sub (AV.cel (AV.atAgg x0 (ys769.getD 0 default) 0 6) 3) (AV.cel (AV.atAgg x0 (AV.bin Go.BinOp.sub (ys769.getD 0 default) (AV.int 1)) 0 6) 3)) (AV.bin Go.BinOp.sub x1 (AV.cel (AV.atAgg x0 (AV.bin Go.BinOp.sub (ys769.getD 0 default) (AV.int 1)) 0 6) 0))) ∧
        (∃ r6337 : AV, ((Fn Tryd.prog 48 [(AV.bin Go.BinOp.mul (AV.bin Go.BinOp.sub (AV.cel (AV.atAgg x0 (ys769.getD 0 default) 0 6) 3) (AV.cel (AV.atAgg x0 (AV.bin Go.BinOp.sub (ys769.getD 0 default) (AV.int 1)) 0 6) 3)) (AV.bin Go.BinOp.sub x1 (AV.cel (AV.atAgg x0 (AV.bin Go.BinOp.sub (ys769.getD 0 default) (AV.int 1)) 0 6) 0))), (AV.bin Go.BinOp.sub (AV.cel (AV.atAgg x0 (ys769.getD 0 default) 0 6) 0) (AV.cel (AV.atAgg x0 (AV.bin Go.BinOp.sub (ys769.getD 0 default) (AV.int 1)) 0 6) 0))] (Sh.tup [Sh.sc, Sh.sc]) r6337) ∧
        ((AV.binOk Go.BinOp.sub (AV.cel (AV.atAgg x0 (ys769.getD 0 default) 0 6) 4) (AV.cel (AV.atAgg x0 (AV.bin Go.BinOp.sub (ys769.getD 0 default) (AV.int 1)) 0 6) 4)) ∧
        ((AV.binOk Go.BinOp.mul (AV.bin Go.BinOp.sub (AV.cel (AV.atAgg x0 (ys769.getD 0 default) 0 6) 4) (AV.cel (AV.atAgg x0 (AV.bin Go.BinOp.sub (ys769.getD 0 default) (AV.int 1)) 0 6) 4)) (AV.bin Go.BinOp.sub x1 (AV.cel (AV.atAgg x0 (AV.bin Go.BinOp.sub (ys769.getD 0 default) (AV.int 1)) 0 6) 0))) ∧
        (∃ r7233 : AV, ((Fn Tryd.prog 49 [(AV.bin Go.BinOp.mul (AV.bin Go.BinOp.sub (AV.cel (AV.atAgg x0 (ys769.getD 0 default) 0 6) 4) (AV.cel (AV.atAgg x0 (AV.bin Go.BinOp.sub (ys769.getD 0 default) (AV.int 1)) 0 6) 4)) (AV.bin Go.BinOp.sub x1 (AV.cel (AV.atAgg x0 (AV.bin Go.BinOp.sub (ys769.getD 0 default) (AV.int 1)) 0 6) 0))), (AV.bin Go.BinOp.sub (AV.cel (AV.atAgg x0 (ys769.getD 0 default) 0 6) 0) (AV.cel (AV.atAgg x0 (AV.bin Go.BinOp.sub (ys769.getD 0 default) (AV.int 1)) 0 6) 0))] (Sh.tup [Sh.sc, Sh.sc]) r7233) ∧
        ((AV.binOk Go.BinOp.sub (AV.cel (AV.atAgg x0 (ys769.getD 0 default) 0 6) 5) (AV.cel (AV.atAgg x0 (AV.bin Go.BinOp.sub (ys769.getD 0 default) (AV.int 1)) 0 6) 5)) ∧
        ((AV.binOk Go.BinOp.mul (AV.bin Go.BinOp.sub (AV.cel (AV.atAgg x0 (ys769.getD 0 default) 0 6) 5) (AV.cel (AV.atAgg x0 (AV.bin Go.BinOp.sub (ys769.getD 0 default) (AV.int 1)) 0 6) 5)) (AV.bin Go.BinOp.sub x1 (AV.cel (AV.atAgg x0 (AV.bin Go.BinOp.sub (ys769.getD 0 default) (AV.int 1)) 0 6) 0))) ∧
        (∃ r8129 : AV, ((Fn Tryd.prog 49 [(AV.bin Go.BinOp.mul (AV.bin Go.BinOp.sub (AV.cel (AV.atAgg x0 (ys769.getD 0 default) 0 6) 5) (AV.cel (AV.atAgg x0 (AV.bin Go.BinOp.sub (ys769.getD 0 default) (AV.int 1)) 0 6) 5)) (AV.bin Go.BinOp.sub x1 (AV.cel (AV.atAgg x0 (AV.bin Go.BinOp.sub (ys769.getD 0 default) (AV.int 1)) 0 6) 0))), (AV.bin Go.BinOp.sub (AV.cel (AV.atAgg x0 (ys769.getD 0 default) 0 6) 0) (AV.cel (AV.atAgg x0 (AV.bin Go.BinOp.sub (ys769.getD 0 default) (AV.int 1)) 0 6) 0))] (Sh.tup [Sh.sc, Sh.sc]) r8129) ∧
        ((AV.binOk Go.BinOp.add (AV.cel (AV.atAgg x0 (AV.bin Go.BinOp.sub (ys769.getD 0 default) (AV.int 1)) 0 6) 3) (AV.prj r6337 0)) ∧
        ((AV.isOne x1) ∧
        ((AV.isOne (AV.bin Go.BinOp.add (AV.cel (AV.atAgg x0 (AV.bin Go.BinOp.sub (ys769.getD 0 default) (AV.int 1)) 0 6) 3) (AV.prj r6337 0))) ∧
        ((AV.binOk Go.BinOp.add (AV.cel (AV.atAgg x0 (AV.bin Go.BinOp.sub (ys769.getD 0 default) (AV.int 1)) 0 6) 4) (AV.prj r7233 0)) ∧
        ((AV.binOk Go.BinOp.add (AV.cel (AV.atAgg x0 (AV.bin Go.BinOp.sub (ys769.getD 0 default) (AV.int 1)) 0 6) 5) (AV.prj r8129 0)) ∧
        ((AV.isOne (AV.bin Go.BinOp.add (AV.cel (AV.atAgg x0 (AV.bin Go.BinOp.sub (ys769.getD 0 default) (AV.int 1)) 0 6) 4) (AV.prj r7233 0))) ∧
        ((AV.isOne (AV.bin Go.BinOp.add (AV.cel (AV.atAgg x0 (AV.bin Go.BinOp.sub (ys769.getD 0 default) (AV.int 1)) 0 6) 5) (AV.prj r8129 0))) ∧
        ((AV.flat (AV.agg [x1, (AV.cel (AV.prj r5249 0) 0), (AV.cel (AV.prj r5249 0) 1), (AV.bin Go.BinOp.add (AV.cel (AV.atAgg x0 (AV.bin Go.BinOp.sub (ys769.getD 0 default) (AV.int 1)) 0 6) 3) (AV.prj r6337 0)), (AV.bin Go.BinOp.add (AV.cel (AV.atAgg x0 (AV.bin Go.BinOp.sub (ys769.getD 0 default) (AV.int 1)) 0 6) 4) (AV.prj r7233 0)), (AV.bin Go.BinOp.add (AV.cel (AV.atAgg x0 (AV.bin Go.BinOp.sub (ys769.getD 0 default) (AV.int 1)) 0 6) 5) (AV.prj r8129 0))])) ∧
        (fSame (AV.agg [x1, (AV.cel (AV.prj r5249 0) 0), (AV.cel (AV.prj r5249 0) 1), (AV.bin Go.BinOp.add (AV.cel (AV.atAgg x0 (AV.bin Go.BinOp.sub (ys769.getD 0 default) (AV.int 1)) 0 6) 3) (AV.prj r6337 0)), (AV.bin Go.BinOp.add (AV.cel (AV.atAgg x0 (AV.bin Go.BinOp.sub (ys769.getD 0 default) (AV.int 1)) 0 6) 4) (AV.prj r7233 0)), (AV.bin Go.BinOp.add (AV.cel (AV.atAgg x0 (AV.bin Go.BinOp.sub (ys769.getD 0 default) (AV.int 1)) 0 6) 5) (AV.prj r8129 0))]) r)))))))))))))))))))))))))))))))))))))))))))))) ∧
    ((isF (AV.bin Go.BinOp.lss (ys769.getD 0 default) (AV.len x0))) →
      ((AV.isBool (AV.bin Go.BinOp.lss (ys769.getD 0 default) (AV.len x0))) ∧
      ((isF (AV.bin Go.BinOp.lss (ys769.getD 0 default) (AV.len x0))) ∧
      ((AV.binOk Go.BinOp.sub (ys769.getD 0 default) (AV.int 1)) ∧
      ((AV.isSl x0 6) ∧
      ((AV.inb x0 (AV.bin Go.BinOp.sub (ys769.getD 0 default) (AV.int 1))) ∧
      ((AV.isSl x0 6) ∧
      ((AV.inb x0 (ys769.getD 0 default)) ∧
      ((AV.isAgg (AV.atAgg x0 (AV.bin Go.BinOp.sub (ys769.getD 0 default) (AV.int 1)) 0 6) 6) ∧
      ((AV.isAgg (AV.atAgg x0 (ys769.getD 0 default) 0 6) 6) ∧
      ((AV.binOk Go.BinOp.sub x1 (AV.cel (AV.atAgg x0 (AV.bin Go.BinOp.sub (ys769.getD 0 default) (AV.int 1)) 0 6) 0)) ∧
      ((AV.binOk Go.BinOp.sub (AV.cel (AV.atAgg x0 (ys769.getD 0 default) 0 6) 0) (AV.cel (AV.atAgg x0 (AV.bin Go.BinOp.sub (ys769.getD 0 default) (AV.int 1)) 0 6) 0)) ∧
      (∃ r4673 : AV, ((Fn Tryd.prog 47 [(AV.agg [(AV.cel (AV.atAgg x0 (AV.bin Go.BinOp.sub (ys769.getD 0 default) (AV.int 1)) 0 6) 1), (AV.cel (AV.atAgg x0 (AV.bin Go.BinOp.sub (ys769.getD 0 default) (AV.int 1)) 0 6) 2)]), (AV.agg [(AV.cel (AV.atAgg x0 (ys769.getD 0 default) 0 6) 1), (AV.cel (AV.atAgg x0 (ys769.getD 0 default) 0 6) 2)]), (AV.bin Go.BinOp.sub x1 (AV.cel (AV.atAgg x0 (AV.bin Go.BinOp.sub (ys769.getD 0 default) (AV.int 1)) 0 6) 0)), (AV.bin Go.BinOp.sub (AV.cel (AV.atAgg x0 (ys769.getD 0 default) 0 6) 0) (AV.cel (AV.atAgg x0 (AV.bin Go.BinOp.sub (ys769.getD 0 default) (AV.int 1)) 0 6) 0))] (Sh.tup [Sh.sc, Sh.sc]) r4673) ∧
      ((AV.isAgg (AV.prj r4673 0) 2) ∧
      ((AV.binOk Go.BinOp.sub (AV.cel (AV.atAgg x0 (ys769.getD 0 default) 0 6) 3) (AV.cel (AV.atAgg x0 (AV.bin Go.BinOp.sub (ys769.getD 0 default) (AV.int 1)) 0 6) 3)) ∧
      ((AV.binOk Go.BinOp.mul (AV.bin Go.BinOp.sub (AV.cel (AV.atAgg x0 (ys769.getD 0 default) 0 6) 3) (AV.cel (AV.atAgg x0 (AV.bin Go.BinOp.sub (ys769.getD 0 default) (AV.int 1)) 0 6) 3)) (AV.bin Go.BinOp.sub x1 (AV.cel (AV.atAgg x0 (AV.bin Go.BinOp.sub (ys769.getD 0 default) (AV.int 1)) 0 6) 0))) ∧
      (∃ r5761 : AV, ((Fn Tryd.prog 48 [(AV.bin Go.BinOp.mul (AV.bin Go.BinOp.sub (AV.cel (AV.atAgg x0 (ys769.getD 0 default) 0 6) 3) (AV.cel (AV.atAgg x0 (AV.bin Go.BinOp.sub (ys769.getD 0 default) (AV.int 1)) 0 6) 3)) (AV.bin Go.BinOp.sub x1 (AV.cel (AV.atAgg x0 (AV.bin Go.BinOp.sub (ys769.getD 0 default) (AV.int 1)) 0 6) 0))), (AV.bin Go.BinOp.sub (AV.cel (AV.atAgg x0 (ys769.getD 0 default) 0 6) 0) (AV.cel (AV.atAgg x0 (AV.bin Go.BinOp.sub (ys769.getD 0 default) (AV.int 1)) 0 6) 0))] (Sh.tup [Sh.sc, Sh.sc]) r5761) ∧
      ((AV.binOk Go.BinOp.sub (AV.cel (AV.atAgg x0 (ys769.getD 0 default) 0 6) 4) (AV.cel (AV.atAgg x0 (AV.bin Go.BinOp.sub (ys769.getD 0 default) (AV.int 1)) 0 6) 4)) ∧
      ((AV.binOk Go.BinOp.mul (AV.bin Go.BinOp.sub (AV.cel (AV.atAgg x0 (ys769.getD 0 default) 0 6) 4) (AV.cel (AV.atAgg x0 (AV.bin Go.BinOp.sub (ys769.getD 0 default) (AV.int 1)) 0 6) 4)) (AV.bin Go.BinOp.sub x1 (AV.cel (AV.atAgg x0 (AV.bin Go.BinOp.sub (ys769.getD 0 default) (AV.int 1)) 0 6) 0))) ∧
      (∃ r6657 : AV, ((Fn Tryd.prog 49 [(AV.bin Go.BinOp.mul (AV.bin Go.BinOp.sub (AV.cel (AV.atAgg x0 (ys769.getD 0 default) 0 6) 4) (AV.cel (AV.atAgg x0 (AV.bin Go.BinOp.sub (ys769.getD 0 default) (AV.int 1)) 0 6) 4)) (AV.bin Go.BinOp.sub x1 (AV.cel (AV.atAgg x0 (AV.bin Go.BinOp.sub (ys769.getD 0 default) (AV.int 1)) 0 6) 0))), (AV.bin Go.BinOp.sub (AV.cel (AV.atAgg x0 (ys769.getD 0 default) 0 6) 0) (AV.cel (AV.atAgg x0 (AV.bin Go.BinOp.sub (ys769.getD 0 default) (AV.int 1)) 0 6) 0))] (Sh.tup [Sh.sc, Sh.sc]) r6657) ∧
      ((AV.binOk Go.BinOp.sub (AV.cel (AV.atAgg x0 (ys769.getD 0 default) 0 6) 5) (AV.cel (AV.atAgg x0 (AV.bin Go.BinOp.sub (ys769.getD 0 default) (AV.int 1)) 0 6) 5)) ∧
      ((AV.binOk Go.BinOp.mul (AV.bin Go.BinOp.sub (AV.cel (AV.atAgg x0 (ys769.getD 0 default) 0 6) 5) (AV.cel (AV.atAgg x0 (AV.bin Go.BinOp.sub (ys769.getD 0 default) (AV.int 1)) 0 6) 5)) (AV.bin Go.BinOp.sub x1 (AV.cel (AV.atAgg x0 (AV.bin Go.BinOp.sub (ys769.getD 0 default) (AV.int 1)) 0 6) 0))) ∧
      (∃ r7553 : AV, ((Fn Tryd.prog 49 [(AV.bin Go.BinOp.mul (AV.bin Go.BinOp.sub (AV.cel (AV.atAgg x0 (ys769.getD 0 default) 0 6) 5) (AV.cel (AV.atAgg x0 (AV.bin Go.BinOp.sub (ys769.getD 0 default) (AV.int 1)) 0 6) 5)) (AV.bin Go.BinOp.sub x1 (AV.cel (AV.atAgg x0 (AV.bin Go.BinOp.sub (ys769.getD 0 default) (AV.int 1)) 0 6) 0))), (AV.bin Go.BinOp.sub (AV.cel (AV.atAgg x0 (ys769.getD 0 default) 0 6) 0) (AV.cel (AV.atAgg x0 (AV.bin Go.BinOp.sub (ys769.getD 0 default) (AV.int 1)) 0 6) 0))] (Sh.tup [Sh.sc, Sh.sc]) r7553) ∧
      ((AV.binOk Go.BinOp.add (AV.cel (AV.atAgg x0 (AV.bin Go.BinOp.sub (ys769.getD 0 default) (AV.int 1)) 0 6) 3) (AV.prj r5761 0)) ∧
      ((AV.isOne x1) ∧
      ((AV.isOne (AV.bin Go.BinOp.add (AV.cel (AV.atAgg x0 (AV.bin Go.BinOp.sub (ys769.getD 0 default) (AV.int 1)) 0 6) 3) (AV.prj r5761 0))) ∧
      ((AV.binOk Go.BinOp.add (AV.cel (AV.atAgg x0 (AV.bin Go.BinOp.sub (ys769.getD 0 default) (AV.int 1)) 0 6) 4) (AV.prj r6657 0)) ∧
      ((AV.binOk Go.BinOp.add (AV.cel (AV.atAgg x0 (AV.bin Go.BinOp.sub (ys769.getD 0 default) (AV.int 1)) 0 6) 5) (AV.prj r7553 0)) ∧
      ((AV.isOne (AV.bin Go.BinOp.add (AV.cel (AV.atAgg x0 (AV.bin Go.BinOp.sub (ys769.getD 0 default) (AV.int 1)) 0 6) 4) (AV.prj r6657 0))) ∧
      ((AV.isOne (AV.bin Go.BinOp.add (AV.cel (AV.atAgg x0 (AV.bin Go.BinOp.sub (ys769.getD 0 default) (AV.int 1)) 0 6) 5) (AV.prj r7553 0))) ∧
      ((AV.flat (AV.agg [x1, (AV.cel (AV.prj r4673 0) 0), (AV.cel (AV.prj r4673 0) 1), (AV.bin Go.BinOp.add (AV.cel (AV.atAgg x0 (AV.bin Go.BinOp.sub (ys769.getD 0 default) (AV.int 1)) 0 6) 3) (AV.prj r5761 0)), (AV.bin Go.BinOp.add (AV.cel (AV.atAgg x0 (AV.bin Go.BinOp.sub (ys769.getD 0 default) (AV.int 1)) 0 6) 4) (AV.prj r6657 0)), (AV.bin Go.BinOp.add (AV.cel (AV.atAgg x0 (AV.bin Go.BinOp.sub (ys769.getD 0 default) (AV.int 1)) 0 6) 5) (AV.prj r7553 0))])) ∧
      (fSame (AV.agg [x1, (AV.cel (AV.prj r4673 0) 0), (AV.cel (AV.prj r4673 0) 1), (AV.bin Go.BinOp.add (AV.cel (AV.atAgg x0 (AV.bin Go.BinOp.sub (ys769.getD 0 default) (AV.int 1)) 0 6) 3) (AV.prj r5761 0)), (AV.bin Go.BinOp.add (AV.cel (AV.atAgg x0 (AV.bin Go.BinOp.sub (ys769.getD 0 default) (AV.int 1)) 0 6) 4) (AV.prj r6657 0)), (AV.bin Go.BinOp.add (AV.cel (AV.atAgg x0 (AV.bin Go.BinOp.sub (ys769.getD 0 default) (AV.int 1)) 0 6) 5) (AV.prj r7553 0))]) r)))))))))))))))))))))))))))))))))))))))))))))))) := by kernel_rfl
theorem tat_form (x0 x1 r : AV) : fnF Tryd.prog Γ ann 3 21 Tryd.f21 (Tryd.f21.body.getD .skip) (.nil) [x0, x1] (.tup [.sc, .sc]) r = ((∃ r193 : AV, ((Fn Tryd.prog 14 [x0] Sh.sc r193) ∧
((AV.binOk Go.BinOp.neq r193 (AV.int 0)) ∧
((AV.isBool (AV.bin Go.BinOp.neq r193 (AV.int 0))) ∧
(((isT (AV.bin Go.BinOp.neq r193 (AV.int 0))) →
  ((AV.flat (AV.agg [(AV.int 0), (AV.int 0), (AV.int 0), (AV.int 0), (AV.int 0), (AV.int 0)])) ∧
  ((AV.flat r193) ∧
  (fSame (AV.tup [(AV.agg [(AV.int 0), (AV.int 0), (AV.int 0), (AV.int 0), (AV.int 0), (AV.int 0)]), r193]) r)))) ∧
((isF (AV.bin Go.BinOp.neq r193 (AV.int 0))) →
  (∃ r513 : AV, ((Fn Tryd.prog 31 [x0] (Sh.tup [Sh.sc, Sh.sc]) r513) ∧
  ((AV.binOk Go.BinOp.lss x1 (AV.prj r513 0)) ∧
  ((AV.isBool (AV.bin Go.BinOp.lss x1 (AV.prj r513 0))) ∧
  (((isT (AV.bin Go.BinOp.lss x1 (AV.prj r513 0))) →
    ((AV.isBool (AV.bin Go.BinOp.lss x1 (AV.prj r513 0))) ∧
    ((isT (AV.bin Go.BinOp.lss x1 (AV.prj r513 0))) ∧
    ((AV.flat (AV.agg [(AV.int 0), (AV.int 0), (AV.int 0), (AV.int 0), (AV.int 0), (AV.int 0)])) ∧
    ((AV.flat (AV.int 12)) ∧
    (fSame (AV.tup [(AV.agg [(AV.int 0), (AV.int 0), (AV.int 0), (AV.int 0), (AV.int 0), (AV.int 0)]), (AV.int 12)]) r)))))) ∧
  ((isF (AV.bin Go.BinOp.lss x1 (AV.prj r513 0))) →
    ((AV.binOk Go.BinOp.gtr x1 (AV.prj r513 1)) ∧
    ((AV.isBool (AV.bin Go.BinOp.lss x1 (AV.prj r513 0))) ∧
    ((isF (AV.bin Go.BinOp.lss x1 (AV.prj r513 0))) ∧
    ((AV.isBool (AV.bin Go.BinOp.gtr x1 (AV.prj r513 1))) ∧
    (((isT (AV.bin Go.BinOp.gtr x1 (AV.prj r513 1))) →
      ((AV.flat (AV.agg [(AV.int 0), (AV.int 0), (AV.int 0), (AV.int 0), (AV.int 0), (AV.int 0)])) ∧
      ((AV.flat (AV.int 12)) ∧
      (fSame (AV.tup [(AV.agg [(AV.int 0), (AV.int 0), (AV.int 0), (AV.int 0), (AV.int 0), (AV.int 0)]), (AV.int 12)]) r)))) ∧
    ((isF (AV.bin Go.BinOp.gtr x1 (AV.prj r513 1))) →
      (∃ r1537 : AV, ((Fn Tryd.prog 32 [x0, x1] Sh.sc r1537) ∧
      ((AV.isAgg r1537 6) ∧
      ((AV.flat (AV.agg [(AV.cel r1537 0), (AV.cel r1537 1), (AV.cel r1537 2), (AV.cel r1537 3), (AV.cel r1537 4), (AV.cel r1537 5)])) ∧
      ((AV.flat (AV.int 0)) ∧
      (fSame (AV.tup [(AV.agg [(AV.cel r1537 0), (AV.cel r1537 1), (AV.cel r1537 2), (AV.cel r1537 3), (AV.cel r1537 4), (AV.cel r1537 5)]), (AV.int 0)]) r))))))))))))))))))))))))) := by kernel_rfl
end SecF
end Go.Proofs.YtdlakpomcafemaaDoor
/- planes and segments. -/
namespace Go.Proofs.YtdlakpomcafemaaDoor
open Go.RowKit
set_option linter.unusedVariables false
set_option linter.unusedSimpArgs false
set_option maxRecDepth 100000
structure Pt where
  x : Int
  y : Int
  deriving DecidableEq, Inhabited
def encP (p : Pt) : List AV := [.int p.x, .int p.y]
abbrev pt (p : Pt) : AV := .agg (encP p)
abbrev pts (l : List Pt) : AV := lst 2 encP l
def wr (n : Int) : Int := IntKind.i64.wrap n
@[simp] theorem wr_eq (n : Int) : IntKind.i64.wrap n = wr n := rfl
theorem wr_id {n : Int} (h1 : -9223372036854775808 ≤ n) (h2 : n ≤ 9223372036854775807) : wr n = n := wrap64 h1 h2
def subP (a b : Pt) : Pt := ⟨wr (a.x - b.x), wr (a.y - b.y)⟩
def dotP (a b : Pt) : Int := wr (wr (a.x * b.x) + wr (a.y * b.y))
def crossP (a b : Pt) : Int := wr (wr (a.x * b.y) - wr (a.y * b.x))
def turnP (a b c : Pt) : Int := if 0 < crossP (subP b a) (subP c a) then 1 else if crossP (subP b a) (subP c a) < 0 then -1 else 0
def sqrP (a b : Pt) : Int := dotP (subP a b) (subP a b)
def pE (p : Pt) : Int := if p.x < -1000000 ∨ p.x > 1000000 ∨ p.y < -1000000 ∨ p.y > 1000000 then 4 else 0
theorem pE_ok {p : Pt} (h : pE p = 0) : -1000000 ≤ p.x ∧ p.x ≤ 1000000 ∧ -1000000 ≤ p.y ∧ p.y ≤ 1000000 := by
  unfold pE at h
  split at h
  · cases h
  · omega
theorem pe_fn (p : Pt) : Fn Tryd.prog 20 [pt p] .sc (.int (pE p)) := by
  refine fn_run mixed 3 (Γ := SecF.Γ) (ann := SecF.ann) Tryd.func20 rfl Tryd.call20 ((SecF.pcheck_form _ _).mpr ?_)
  obtain ⟨x, y⟩ := p
  simp [encP]
  have h4 : (x < -1000000 ∨ x > 1000000 ∨ y < -1000000 ∨ y > 1000000) → 4 = pE ⟨x, y⟩ := fun h => by unfold pE; rw [if_pos h]
  have h0 : ¬ (x < -1000000 ∨ x > 1000000 ∨ y < -1000000 ∨ y > 1000000) → 0 = pE ⟨x, y⟩ := fun h => by unfold pE; rw [if_neg h]
  refine ⟨fun a => ⟨a, h4 (by omega)⟩, fun a => ⟨a, fun b => ⟨b, h4 (by omega)⟩, fun b => ⟨b, fun c => ⟨c, h4 (by omega)⟩, fun c => ⟨c, fun d => h4 (by omega), fun d => h0 (by omega)⟩⟩⟩⟩
theorem sub_fn (a b : Pt) : Fn Tryd.prog 58 [pt a, pt b] .sc (pt (subP a b)) := by
  refine fn_run mixed 3 (Γ := SecF.Γ) (ann := SecF.ann) Tryd.func58 rfl Tryd.call58 ((SecF.sub_form _ _ _).mpr ?_)
  simp [encP, subP]
theorem dot_fn (a b : Pt) : Fn Tryd.prog 59 [pt a, pt b] .sc (.int (dotP a b)) := by
  refine fn_run mixed 3 (Γ := SecF.Γ) (ann := SecF.ann) Tryd.func59 rfl Tryd.call59 ((SecF.dot_form _ _ _).mpr ?_)
  simp [encP, dotP]
theorem sqr_fn (a b : Pt) : Fn Tryd.prog 39 [pt a, pt b] .sc (.int (sqrP a b)) := by
  refine fn_run mixed 3 (Γ := SecF.Γ) (ann := SecF.ann) Tryd.func39 rfl Tryd.call39 ((SecF.square_form _ _ _).mpr ?_)
  refine ⟨by simp [encP], by simp [encP], _, sub_fn a b, by simp [encP], _, dot_fn _ _, ?_⟩
  simp [sqrP]
def nextP (l : List Pt) (i : Nat) : Pt := l.getD ((i + 1) % l.length) default
def mnI (a b : Int) : Int := if b < a then b else a
def mxI (a b : Int) : Int := if a < b then b else a
def betw (a b c : Pt) : Bool := decide (mnI a.x b.x ≤ c.x) && decide (c.x ≤ mxI a.x b.x) && decide (mnI a.y b.y ≤ c.y) && decide (c.y ≤ mxI a.y b.y)
def onS (a b c : Pt) : Bool := decide (turnP a b c = 0) && betw a b c
def crs (a b c d : Pt) : Bool := decide (wr (turnP a b c * turnP a b d) < 0) && decide (wr (turnP c d a * turnP c d b) < 0)
def comS (a b c d : Pt) : Bool := crs a b c d || onS a b c || onS a b d || onS c d a || onS c d b
end Go.Proofs.YtdlakpomcafemaaDoor
/- tubes: quotients, points on the way, what is checked. -/
namespace Go.Proofs.YtdlakpomcafemaaDoor
open Go.RowKit
set_option linter.unusedVariables false
set_option linter.unusedSimpArgs false
set_option maxRecDepth 100000
theorem quo_of (a b : Int) (hb : 0 < b) : (¬ a.tmod b = 0 → a < 0 → a.tdiv b - 1 = a / b) ∧ (¬ (¬ a.tmod b = 0 ∧ a < 0) → a.tdiv b = a / b) := by
  have h1 := Int.tdiv_eq_ediv (a := a) (b := b)
  have h2 := Int.tmod_eq_emod (a := a) (b := b)
  have h3 : b.sign = 1 := Int.sign_eq_one_of_pos hb
  have h4 : (b ∣ a) ↔ a % b = 0 := Int.dvd_iff_emod_eq_zero
  by_cases h : 0 ≤ a ∨ b ∣ a
  · rw [if_pos h] at h1 h2
    refine ⟨fun q1 q2 => ?_, fun _ => by omega⟩
    rcases h with h | h
    · omega
    · have := h4.1 h; omega
  · rw [if_neg h, h3] at h1
    rw [if_neg h] at h2
    have h5 : ¬ 0 ≤ a := fun q => h (.inl q)
    have h6 : ¬ b ∣ a := fun q => h (.inr q)
    have h7 : ¬ a % b = 0 := fun q => h6 (h4.2 q)
    have h8 : ¬ a.tmod b = 0 := by
      have l1 := Int.emod_nonneg a (show b ≠ 0 by omega)
      have l2 := Int.emod_lt_of_pos a hb
      omega
    exact ⟨fun _ _ => by omega, fun q => absurd ⟨h8, by omega⟩ q⟩
theorem quo_bd {a b : Int} (hb : 0 < b) (h1 : -1000000000000 ≤ a) (h2 : a ≤ 1000000000000) : -1000000000000 ≤ a / b ∧ a / b ≤ 1000000000000 ∧ -1000000000000 ≤ a.tdiv b ∧ a.tdiv b ≤ 1000000000000 := by
  have e1 : a / b ≤ 1000000000000 := by
    rcases Int.lt_or_le a 0 with h | h
    · have := Int.ediv_neg_of_neg_of_pos h hb; omega
    · have := Int.ediv_le_self b h; omega
  have e2 : -1000000000000 ≤ a / b := by
    refine (Int.le_ediv_iff_mul_le hb).2 ?_
    have := Int.mul_le_mul_of_nonneg_left (show (1 : Int) ≤ b by omega) (show (0 : Int) ≤ 1000000000000 by omega)
    omega
  obtain ⟨q1, q2⟩ := quo_of a b hb
  refine ⟨e2, e1, ?_, ?_⟩
  · by_cases h : ¬ a.tmod b = 0 ∧ a < 0
    · have := q1 h.1 h.2; omega
    · have := q2 h; omega
  · have h3 := Int.tdiv_eq_ediv (a := a) (b := b)
    have h4 : b.sign = 1 := Int.sign_eq_one_of_pos hb
    rcases Int.lt_or_le a 0 with h | h
    · have := Int.ediv_neg_of_neg_of_pos h hb
      split at h3 <;> omega
    · rw [if_pos (.inl h)] at h3; omega
theorem divd_fn (a b : Int) (hb : 0 < b) (h1 : -1000000000000 ≤ a) (h2 : a ≤ 1000000000000) : Fn Tryd.prog 48 [.int a, .int b] (.tup [.sc, .sc]) (.tup [.int (a / b), .int 0]) := by
  refine fn_run mixed 3 (Γ := SecF.Γ) (ann := SecF.ann) Tryd.func48 rfl Tryd.call48 ((SecF.divd_form _ _ _).mpr ?_)
  obtain ⟨q1, q2⟩ := quo_of a b hb
  obtain ⟨b1, b2, b3, b4⟩ := quo_bd hb h1 h2
  have hw : wr (a.tdiv b) = a.tdiv b := wr_id (by omega) (by omega)
  have hw2 : wr (a.tdiv b - 1) = a.tdiv b - 1 := wr_id (by omega) (by omega)
  have hm : (a == -9223372036854775808) = false := by simp; omega
  have hb0 : (b == 0) = false := by simp; omega
  have hlt : decide (b < 0) = false := by simp; omega
  simp [hb0, hm, hw, hw2, hlt, show ¬ b = 0 by omega]
  generalize a.tmod b = m at *
  generalize a.tdiv b = q at *
  refine ⟨fun h => ⟨h, fun h2 => q1 h h2, fun h2 => q2 (by omega)⟩, fun h => ⟨h, q2 (by omega)⟩⟩
def dvu (a b : Int) : Int := if a.tmod b = 0 then a / b else a / b + 1
theorem dvu_bd {a b : Int} (hb : 0 < b) (h1 : -1000000000000 ≤ a) (h2 : a ≤ 1000000000000) : -1000000000001 ≤ dvu a b ∧ dvu a b ≤ 1000000000001 := by
  obtain ⟨b1, b2, _, _⟩ := quo_bd hb h1 h2
  unfold dvu
  split <;> omega
theorem divu_fn (a b : Int) (hb : 0 < b) (h1 : -1000000000000 ≤ a) (h2 : a ≤ 1000000000000) : Fn Tryd.prog 49 [.int a, .int b] (.tup [.sc, .sc]) (.tup [.int (dvu a b), .int 0]) := by
  refine fn_run mixed 3 (Γ := SecF.Γ) (ann := SecF.ann) Tryd.func49 rfl Tryd.call49 ((SecF.divu_form _ _ _).mpr ?_)
  refine ⟨_, divd_fn a b hb h1 h2, ?_⟩
  obtain ⟨b1, b2, _, _⟩ := quo_bd hb h1 h2
  have hw : wr (a / b + 1) = a / b + 1 := wr_id (by omega) (by omega)
  have u1 : ¬ a.tmod b = 0 → a / b + 1 = dvu a b := fun h => by unfold dvu; rw [if_neg h]
  have u2 : a.tmod b = 0 → a / b = dvu a b := fun h => by unfold dvu; rw [if_pos h]
  simp [hw, show ¬ b = 0 by omega]
  exact ⟨u1, u2⟩
theorem mulb {p n : Int} (h1 : -2000000 ≤ p) (h2 : p ≤ 2000000) (h3 : 0 ≤ n) (h4 : n ≤ 200000) : -400000000000 ≤ p * n ∧ p * n ≤ 400000000000 := by
  have e1 := Int.mul_le_mul_of_nonneg_right h2 h3
  have e2 := Int.mul_le_mul_of_nonneg_right h1 h3
  omega
/-- A point on the way lies between the ends. -/
theorem way {p n d : Int} (hd : 0 < d) (h0 : 0 ≤ n) (h1 : n ≤ d) : (0 ≤ p → 0 ≤ p * n / d ∧ p * n / d ≤ p) ∧ (p ≤ 0 → p ≤ p * n / d ∧ p * n / d ≤ 0) := by
  have hc := Int.mul_ediv_cancel p (show d ≠ 0 by omega)
  refine ⟨fun hp => ⟨Int.ediv_nonneg (Int.mul_nonneg hp h0) (by omega), ?_⟩, fun hp => ⟨?_, ?_⟩⟩
  · have := Int.ediv_le_ediv hd (Int.mul_le_mul_of_nonneg_left h1 hp)
    omega
  · have h2 : p * d ≤ p * n := Int.mul_le_mul_of_nonpos_left hp h1
    have := Int.ediv_le_ediv hd h2
    omega
  · have h2 : p * n ≤ p * 0 := Int.mul_le_mul_of_nonpos_left hp h0
    have := Int.ediv_le_ediv hd h2
    simpa using this
def towP (a b : Pt) (n d : Int) : Pt := ⟨a.x + (b.x - a.x) * n / d, a.y + (b.y - a.y) * n / d⟩
theorem tow_ok {a b : Pt} {n d : Int} (ha : pE a = 0) (hb : pE b = 0) (hd : 0 < d) (h0 : 0 ≤ n) (h1 : n ≤ d) : pE (towP a b n d) = 0 := by
  obtain ⟨a1, a2, a3, a4⟩ := pE_ok ha
  obtain ⟨b1, b2, b3, b4⟩ := pE_ok hb
  obtain ⟨x1, x2⟩ := way (p := b.x - a.x) hd h0 h1
  obtain ⟨y1, y2⟩ := way (p := b.y - a.y) hd h0 h1
  unfold pE towP
  rw [if_neg]
  simp only
  omega
theorem toward_fn (a b : Pt) (n d : Int) (ha : pE a = 0) (hb : pE b = 0) (hd : 0 < d) (hd2 : d ≤ 200000) (h0 : 0 ≤ n) (h1 : n ≤ d) : Fn Tryd.prog 47 [pt a, pt b, .int n, .int d] (.tup [.sc, .sc]) (.tup [pt (towP a b n d), .int 0]) := by
  refine fn_run mixed 3 (Γ := SecF.Γ) (ann := SecF.ann) Tryd.func47 rfl Tryd.call47 ((SecF.toward_form _ _ _ _ _).mpr ?_)
  have pa := pe_fn a
  have pb := pe_fn b
  have ht := pE_ok (tow_ok ha hb hd h0 h1)
  rw [ha] at pa
  rw [hb] at pb
  obtain ⟨a1, a2, a3, a4⟩ := pE_ok ha
  obtain ⟨b1, b2, b3, b4⟩ := pE_ok hb
  obtain ⟨ax, ay⟩ := a; obtain ⟨bx, b_⟩ := b
  simp only at a1 a2 a3 a4 b1 b2 b3 b4
  have mx := mulb (p := bx - ax) (n := n) (by omega) (by omega) h0 (by omega)
  have my := mulb (p := b_ - ay) (n := n) (by omega) (by omega) h0 (by omega)
  have w1 : wr (bx - ax) = bx - ax := wr_id (by omega) (by omega)
  have w2 : wr (b_ - ay) = b_ - ay := wr_id (by omega) (by omega)
  have w3 : wr ((bx - ax) * n) = (bx - ax) * n := wr_id (by omega) (by omega)
  have w4 : wr ((b_ - ay) * n) = (b_ - ay) * n := wr_id (by omega) (by omega)
  have d1 := divd_fn ((bx - ax) * n) d hd (by omega) (by omega)
  have d2 := divd_fn ((b_ - ay) * n) d hd (by omega) (by omega)
  have w5 : wr (ax + (bx - ax) * n / d) = ax + (bx - ax) * n / d := wr_id (by simp only [towP] at ht; omega) (by simp only [towP] at ht; omega)
  have w6 : wr (ay + (b_ - ay) * n / d) = ay + (b_ - ay) * n / d := wr_id (by simp only [towP] at ht; omega) (by simp only [towP] at ht; omega)
  refine ⟨by simp [encP], by simp [encP], ?_⟩
  simp [show ¬ d ≤ 0 by omega, show ¬ 200000 < d by omega, show ¬ n < 0 by omega, show ¬ d < n by omega]
  refine ⟨_, pa, ?_⟩
  simp
  refine ⟨_, pb, ?_⟩
  simp [encP, w1, w2, w3, w4]
  refine ⟨_, d1, _, d2, ?_⟩
  simp [w5, w6, towP]
structure Nd where
  t : Int
  x : Int
  y : Int
  h : Int
  r : Int
  b : Int
  deriving DecidableEq, Inhabited
def Nd.p (n : Nd) : Pt := ⟨n.x, n.y⟩
def encN (n : Nd) : List AV := [.int n.t, .int n.x, .int n.y, .int n.h, .int n.r, .int n.b]
abbrev nd (n : Nd) : AV := .agg (encN n)
abbrev tube (l : List Nd) : AV := lst 6 encN l
theorem flat_tube (l : List Nd) : (tube l).flatS := lst_flatS fun x _ z hz => by
  simp [encN] at hz; rcases hz with rfl | rfl | rfl | rfl | rfl | rfl <;> exact .lit _
/-- The error of a node behind one of time p. -/
def nE (p : Int) (n : Nd) : Int := if n.t < 0 ∨ n.t > 200000 ∨ n.t ≤ p then 12 else if pE n.p ≠ 0 then pE n.p else if n.h < 0 ∨ n.h > 60000 ∨ n.r < 0 ∨ n.r > 1000000 ∨ n.b < 0 ∨ n.b > 60000 then 4 else 0
theorem nE_ok {p : Int} {n : Nd} (h : nE p n = 0) : 0 ≤ n.t ∧ n.t ≤ 200000 ∧ p < n.t ∧ pE n.p = 0 ∧ 0 ≤ n.h ∧ n.h ≤ 60000 ∧ 0 ≤ n.r ∧ n.r ≤ 1000000 ∧ 0 ≤ n.b ∧ n.b ≤ 60000 := by
  unfold nE at h
  split at h
  · cases h
  · split at h
    · rename_i q; exact absurd h q
    · rename_i q
      split at h
      · cases h
      · exact ⟨by omega, by omega, by omega, by simpa using q, by omega, by omega, by omega, by omega, by omega, by omega⟩
def tG : Int → List Nd → Int
  | _, [] => 0
  | p, n :: r => if nE p n ≠ 0 then nE p n else tG n.t r
def tE (l : List Nd) : Int := if l.length > 64 then 2 else if l.length = 0 then 3 else tG (-1) l
theorem tcheck_fn (l : List Nd) : Fn Tryd.prog 14 [tube l] .sc (.int (tE l)) := by
  have e := SecF.tcheck_form (tube l) (.int (tE l))
  have k := fun h => fn_run mixed 3 (Γ := SecF.Γ) (ann := SecF.ann) Tryd.func14 rfl Tryd.call14 (e.mpr h)
  refine k ?_
  clear k e
  simp
  refine ⟨fun h => by unfold tE; rw [if_pos (by omega)], fun h64 => ⟨fun h => by unfold tE; rw [if_neg (by omega), if_pos (by simp [h])], fun h0 => ?_⟩⟩
  have hE : tE l = tG (-1) l := by
    unfold tE
    rw [if_neg (by omega), if_neg (by simpa using h0)]
  have hl64 : l.length ≤ 64 := by omega
  generalize tE l = E at hE ⊢
  refine loop_list (σ := Int) l (fun n _ => [.int (n : Nat)]) (fun n rest p => E = tG p rest ∧ ((n = 0 ∧ p = -1) ∨ ∃ y, 0 < n ∧ l[n - 1]? = some y ∧ y.t = p ∧ 0 ≤ p)) (-1) rfl ⟨hE, .inl ⟨rfl, rfl⟩⟩ ?_ ?_
  · rintro n x rest p K hx hr hn ⟨hg, hp⟩ hK
    have hw : wr ((n : Int) + 1) = (n : Int) + 1 := wr_id (by omega) (by omega)
    have hw1 : wr ((n : Int) - 1) = (n : Int) - 1 := wr_id (by omega) (by omega)
    rw [tG] at hg
    have g1 : nE p x ≠ 0 → nE p x = E := fun h => by rw [hg, if_pos h]
    have g2 : nE p x = 0 → K [.int ((n : Nat) + 1)] := fun h => hK _ x.t (by simp) ⟨by rw [hg, if_neg (by simp [h])], .inr ⟨x, by omega, by simpa using hx, rfl, (nE_ok h).1⟩⟩
    clear hg hK
    obtain ⟨xt, xx, xy, xh, xr, xb⟩ := x
    have f1 : (xt < 0 ∨ xt > 200000 ∨ xt ≤ p) → 12 = E := fun h => by
      have : nE p ⟨xt, xx, xy, xh, xr, xb⟩ = 12 := by unfold nE; rw [if_pos h]
      rw [this] at g1; exact g1 (by decide)
    have f2 : ¬ (xt < 0 ∨ xt > 200000 ∨ xt ≤ p) → pE ⟨xx, xy⟩ ≠ 0 → pE ⟨xx, xy⟩ = E := fun h h2 => by
      have : nE p ⟨xt, xx, xy, xh, xr, xb⟩ = pE ⟨xx, xy⟩ := by unfold nE; rw [if_neg h]; exact if_pos h2
      rw [this] at g1; exact g1 h2
    have f3 : ¬ (xt < 0 ∨ xt > 200000 ∨ xt ≤ p) → pE ⟨xx, xy⟩ = 0 → (xh < 0 ∨ xh > 60000 ∨ xr < 0 ∨ xr > 1000000 ∨ xb < 0 ∨ xb > 60000) → 4 = E := fun h h2 h3 => by
      have : nE p ⟨xt, xx, xy, xh, xr, xb⟩ = 4 := by unfold nE; rw [if_neg h, if_neg (by simp [Nd.p, h2]), if_pos h3]
      rw [this] at g1; exact g1 (by decide)
    have f4 : ¬ (xt < 0 ∨ xt > 200000 ∨ xt ≤ p) → pE ⟨xx, xy⟩ = 0 → ¬ (xh < 0 ∨ xh > 60000 ∨ xr < 0 ∨ xr > 1000000 ∨ xb < 0 ∨ xb > 60000) → K [.int ((n : Nat) + 1)] := fun h h2 h3 => g2 (by unfold nE; rw [if_neg h, if_neg (by simp [Nd.p, h2]), if_neg h3])
    clear g1 g2
    have hpe := pe_fn ⟨xx, xy⟩
    generalize pE ⟨xx, xy⟩ = e at *
    have tail : ¬ (xt < 0 ∨ xt > 200000 ∨ xt ≤ p) → (e = 0 → xh < 0 → 4 = E) ∧ (e = 0 → 60000 < xh → 4 = E) ∧ (e = 0 → xr < 0 → 4 = E) ∧ (e = 0 → 1000000 < xr → 4 = E) ∧ (e = 0 → xb < 0 → 4 = E) ∧ (e = 0 → 60000 < xb → 4 = E) ∧ (e = 0 → 0 ≤ xh → xh ≤ 60000 → 0 ≤ xr → xr ≤ 1000000 → 0 ≤ xb → xb ≤ 60000 → K [.int ((n : Nat) + 1)]) := fun h =>
      ⟨fun a b => f3 h a (by omega), fun a b => f3 h a (by omega), fun a b => f3 h a (by omega), fun a b => f3 h a (by omega), fun a b => f3 h a (by omega), fun a b => f3 h a (by omega), fun a b c d f g i => f4 h a (by omega)⟩
    simp [hn, lst_atAgg hx, encN, hw, hw1]
    refine ⟨fun a => ⟨a, f1 (by omega)⟩, fun a => ⟨a, fun b => ⟨b, f1 (by omega)⟩, fun b => ⟨?_, ?_⟩⟩⟩
    · intro hn0
      rcases hp with ⟨hp1, _⟩ | ⟨y, hp1, hp2, hp3, hp4⟩
      · omega
      · have hat : AV.at (tube l) (.lit (.int .i64 ((n : Int) - 1))) 0 = .int p := by
          have h1 : ((n : Int) - 1).toNat = n - 1 := by omega
          rw [lst_atI (by omega) (by rw [h1]; exact hp2)]
          simp [encN, hp3]
        have hin : (0 : Int) ≤ (n : Int) - 1 ∧ (n : Int) - 1 < l.length := ⟨by omega, by omega⟩
        simp only [hat]
        refine ⟨by omega, by simp, hn0, b, by simp, fun q => ?_, fun q => ?_⟩
        · have : xt ≤ p := by simpa using q
          exact f1 (by omega)
        have hq : p < xt := by simpa using q
        obtain ⟨t1, t2, t3, t4, t5, t6, t7⟩ := tail (by omega)
        refine ⟨_, hpe, ?_⟩
        simp
        exact ⟨fun z => f2 (by omega) z, fun z => ⟨fun a => ⟨a, t1 z a⟩, fun a1 => ⟨a1, fun a => ⟨a, t2 z a⟩, fun a2 => ⟨a2, fun a => ⟨a, t3 z a⟩, fun a3 => ⟨a3, fun a => ⟨a, t4 z a⟩, fun a4 => ⟨a4, fun a => ⟨a, t5 z a⟩, fun a5 => ⟨a5, fun a => t6 z a, fun a6 => t7 z a1 a2 a3 a4 a5 a6⟩⟩⟩⟩⟩⟩⟩
    · intro hn0
      refine ⟨hn0, b, ?_⟩
      have hp1 : p = -1 := by
        rcases hp with ⟨_, h⟩ | ⟨y, h, _⟩
        · exact h
        · omega
      obtain ⟨t1, t2, t3, t4, t5, t6, t7⟩ := tail (by omega)
      refine ⟨_, hpe, ?_⟩
      simp
      exact ⟨fun z => f2 (by omega) z, fun z => ⟨fun a => ⟨a, t1 z a⟩, fun a1 => ⟨a1, fun a => ⟨a, t2 z a⟩, fun a2 => ⟨a2, fun a => ⟨a, t3 z a⟩, fun a3 => ⟨a3, fun a => ⟨a, t4 z a⟩, fun a4 => ⟨a4, fun a => ⟨a, t5 z a⟩, fun a5 => ⟨a5, fun a => t6 z a, fun a6 => t7 z a1 a2 a3 a4 a5 a6⟩⟩⟩⟩⟩⟩⟩
  · rintro _ K ⟨hg, _⟩
    rw [tG] at hg
    simp [hg]
theorem ends_fn (l : List Nd) (a b : Nd) (h0 : l[0]? = some a) (h1 : l[l.length - 1]? = some b) (hl : l.length ≤ 1000) : Fn Tryd.prog 31 [tube l] (.tup [.sc, .sc]) (.tup [.int a.t, .int b.t]) := by
  refine fn_run mixed 3 (Γ := SecF.Γ) (ann := SecF.ann) Tryd.func31 rfl Tryd.call31 ((SecF.ends_form _ _).mpr ?_)
  have hpos : 0 < l.length := (List.getElem?_eq_some_iff.1 h0).1
  have hw1 : wr ((l.length : Int) - 1) = (l.length : Int) - 1 := wr_id (by omega) (by omega)
  have e0 : AV.at (tube l) (.lit (.int .i64 0)) 0 = .int a.t := by
    rw [lst_atI (by omega) (by simpa using h0)]; simp [encN]
  have e1 : AV.at (tube l) (.lit (.int .i64 ((l.length : Int) - 1))) 0 = .int b.t := by
    have q : ((l.length : Int) - 1).toNat = l.length - 1 := by omega
    rw [lst_atI (by omega) (by rw [q]; exact h1)]; simp [encN]
  simp [hw1, e0, e1]
  omega
end Go.Proofs.YtdlakpomcafemaaDoor
/- tubes: the node at a time. -/
namespace Go.Proofs.YtdlakpomcafemaaDoor
open Go.RowKit
set_option linter.unusedVariables false
set_option linter.unusedSimpArgs false
set_option maxRecDepth 100000
/-- The nodes ahead of a time. -/
def ixF (t : Int) : List Nd → Nat
  | [] => 0
  | n :: r => if n.t < t then ixF t r + 1 else 0
theorem ixF_is {t : Int} : ∀ {l : List Nd} {k : Nat}, k ≤ l.length → (∀ j x, j < k → l[j]? = some x → x.t < t) → (∀ x, l[k]? = some x → ¬ x.t < t) → ixF t l = k
  | [], k, h, _, _ => by simp at h; simp [ixF, h]
  | n :: r, k, h, h1, h2 => by
    rw [ixF]
    cases k with
    | zero => rw [if_neg (h2 n rfl)]
    | succ k =>
      rw [if_pos (h1 0 n (by omega) rfl), ixF_is (k := k) (by simpa using h) (fun j x hj hx => h1 (j + 1) x (by omega) (by simpa using hx)) (fun x hx => h2 x (by simpa using hx))]
theorem ixF_le (t : Int) : ∀ l : List Nd, ixF t l ≤ l.length
  | [] => Nat.le_refl _
  | n :: r => by
    rw [ixF]
    have := ixF_le t r
    split <;> simp <;> omega
theorem ixF_lt {t : Int} : ∀ {l : List Nd} {j : Nat} {x : Nd}, j < ixF t l → l[j]? = some x → x.t < t
  | [], j, x, h, _ => by simp [ixF] at h
  | n :: r, j, x, h, hx => by
    rw [ixF] at h
    split at h
    · rename_i hn
      cases j with
      | zero => simp at hx; rw [← hx]; exact hn
      | succ j => exact ixF_lt (l := r) (j := j) (by omega) (by simpa using hx)
    · omega
theorem ixF_ge {t : Int} : ∀ {l : List Nd} {x : Nd}, l[ixF t l]? = some x → ¬ x.t < t
  | [], x, h => by simp [ixF] at h
  | n :: r, x, h => by
    rw [ixF] at h
    split at h
    · exact ixF_ge (by simpa using h)
    · rename_i hn
      simp at h; rw [← h]; exact hn
def okN (x : Nd) : Prop := 0 ≤ x.t ∧ x.t ≤ 200000 ∧ pE x.p = 0 ∧ 0 ≤ x.h ∧ x.h ≤ 60000 ∧ 0 ≤ x.r ∧ x.r ≤ 1000000 ∧ 0 ≤ x.b ∧ x.b ≤ 60000
/-- Valid nodes: each behind the one ahead. -/
theorem tG_get : ∀ {l : List Nd} {p : Int}, tG p l = 0 → ∀ {j : Nat} {x : Nd}, l[j]? = some x → p < x.t ∧ okN x ∧ ∀ k y, j < k → l[k]? = some y → x.t < y.t
  | [], p, _, j, x, hx => by simp at hx
  | n :: r, p, h, j, x, hx => by
    rw [tG] at h
    split at h
    · rename_i q; exact absurd h q
    · rename_i q
      have q : nE p n = 0 := by simpa using q
      have qo := nE_ok q
      cases j with
      | zero =>
        simp at hx
        subst hx
        refine ⟨qo.2.2.1, ⟨qo.1, qo.2.1, qo.2.2.2.1, qo.2.2.2.2.1, qo.2.2.2.2.2.1, qo.2.2.2.2.2.2.1, qo.2.2.2.2.2.2.2.1, qo.2.2.2.2.2.2.2.2.1, qo.2.2.2.2.2.2.2.2.2⟩, fun k y hk hy => ?_⟩
        obtain ⟨k, rfl⟩ : ∃ k', k = k' + 1 := ⟨k - 1, by omega⟩
        exact (tG_get h (j := k) (by simpa using hy)).1
      | succ j =>
        have ih := tG_get h (j := j) (by simpa using hx)
        refine ⟨by have := ih.1; omega, ih.2.1, fun k y hk hy => ?_⟩
        obtain ⟨k, rfl⟩ : ∃ k', k = k' + 1 := ⟨k - 1, by omega⟩
        exact ih.2.2 k y (by omega) (by simpa using hy)
theorem tE_ok {l : List Nd} (h : tE l = 0) : 0 < l.length ∧ l.length ≤ 64 ∧ tG (-1) l = 0 := by
  unfold tE at h
  split at h
  · cases h
  · split at h
    · cases h
    · exact ⟨by omega, by omega, h⟩
def interp (a b : Nd) (t : Int) : Nd :=
  ⟨t, (towP a.p b.p (t - a.t) (b.t - a.t)).x, (towP a.p b.p (t - a.t) (b.t - a.t)).y, a.h + (b.h - a.h) * (t - a.t) / (b.t - a.t), a.r + dvu ((b.r - a.r) * (t - a.t)) (b.t - a.t), a.b + dvu ((b.b - a.b) * (t - a.t)) (b.t - a.t)⟩
def atN (l : List Nd) (t : Int) : Nd := if (l.getD (ixF t l) default).t = t then l.getD (ixF t l) default else interp (l.getD (ixF t l - 1) default) (l.getD (ixF t l) default) t
theorem half_u (n : Nat) (h : n ≤ 1000) : AV.shfOk (.lit (.int .u64 (n : Nat))) (.lit (.int .u64 1)) ∧ AV.conv .i64 (AV.shf .shr (.lit (.int .u64 (n : Nat))) (.lit (.int .u64 1))) = .int ((n / 2 : Nat) : Int) ∧ AV.isInt (AV.shf .shr (.lit (.int .u64 (n : Nat))) (.lit (.int .u64 1))) := by
  refine ⟨⟨⟨_, _, rfl⟩, ⟨_, _, rfl⟩, by simp⟩, ?_, ⟨_, _, rfl⟩⟩
  have e : AV.shf .shr (.lit (.int .u64 (n : Nat))) (.lit (.int .u64 1)) = .lit (.int .u64 ((n : Int).fdiv 2)) := by
    show AV.lit (.int .u64 ((n : Int).fdiv (2 ^ 1))) = _
    simp
  rw [e, Int.fdiv_eq_ediv_of_nonneg _ (by omega)]
  show AV.lit (.int .i64 (IntKind.i64.wrap ((n : Int) / 2))) = _
  rw [wrap64 (by omega) (by omega)]
  congr 2
theorem u64_id (n : Nat) (h : n ≤ 1000) : IntKind.u64.wrap (n : Int) = (n : Int) := by
  simp [IntKind.wrap, IntKind.bits, IntKind.signed]; omega
/-- Between two valid nodes. -/
theorem interp_ok {a b : Nd} {t : Int} (ha : okN a) (hb : okN b) (h1 : a.t < t) (h2 : t < b.t) : pE (interp a b t).p = 0 ∧ 0 ≤ (interp a b t).h ∧ (interp a b t).h ≤ 60000 := by
  refine ⟨tow_ok ha.2.2.1 hb.2.2.1 (by omega) (by omega) (by omega), ?_⟩
  obtain ⟨q1, q2⟩ := way (p := b.h - a.h) (n := t - a.t) (d := b.t - a.t) (by omega) (by omega) (by omega)
  unfold okN at ha hb
  simp only [interp]
  omega
theorem at_fn (l : List Nd) (t : Int) (hv : tE l = 0) (h0 : ∀ x, l[0]? = some x → x.t ≤ t) (h1 : ∀ x, l[l.length - 1]? = some x → t ≤ x.t) : Fn Tryd.prog 32 [tube l, .int t] .sc (nd (atN l t)) := by
  have e := SecF.at_form (tube l) (.int t) (nd (atN l t))
  have k := fun h => fn_run mixed 3 (Γ := SecF.Γ) (ann := SecF.ann) Tryd.func32 rfl Tryd.call32 (e.mpr h)
  refine k ?_
  clear k e
  obtain ⟨hp, h64, hG⟩ := tE_ok hv
  have en1 : Ent Tryd.prog 46 := Tryd.call46
  refine ⟨Tryd.call45, fun _ => ⟨by simp, ?_⟩⟩
  refine loop_of (τ := Nat × Nat) (fun s => [.int (s.1 : Nat), .int (s.2 : Nat)]) (fun s => s.1 ≤ s.2 ∧ s.2 ≤ l.length ∧ (∀ j x, j < s.1 → l[j]? = some x → x.t < t) ∧ ∀ j x, s.2 ≤ j → l[j]? = some x → ¬ x.t < t) (fun s => s.2 - s.1) (0, l.length) (by simp)
    ⟨by omega, Nat.le_refl _, fun j x hj => by simp at hj, fun j x hj hx => by have hj : l.length ≤ j := hj; rw [List.getElem?_eq_none hj] at hx; cases hx⟩ ?_
  rintro ⟨lo, hi⟩ ⟨i1, i2, i3, i4⟩
  simp only at i1 i2 i3 i4
  obtain ⟨S, hS⟩ : ∃ S, S = lo + hi := ⟨_, rfl⟩
  have w1 : wr ((lo : Int) + (hi : Int)) = (S : Int) := by rw [wr_id (by omega) (by omega)]; omega
  have w2 : AV.conv .u64 (.lit (.int .i64 (S : Int))) = .lit (.int .u64 (S : Int)) := by
    show AV.lit (.int .u64 (IntKind.u64.wrap (S : Int))) = _
    rw [u64_id S (by omega)]
  obtain ⟨s1, s2, s3⟩ := half_u S (by omega)
  refine ⟨by simp, by simp, fun hlt => ?_, fun hge => ?_⟩
  · have hlt : lo < hi := by simpa using hlt
    generalize hm : S / 2 = m at s2
    have hmb : lo ≤ m ∧ m < hi := by omega
    obtain ⟨x, hx⟩ : ∃ x, l[m]? = some x := ⟨_, List.getElem?_eq_getElem (by omega)⟩
    have hxo := (tG_get hG hx).2.1
    have g1 : x.t < t → (fun zs : List AV => ∃ m', m' < hi - lo ∧ ∃ y : Nat × Nat, zs = [.int (y.1 : Nat), .int (y.2 : Nat)] ∧ (y.1 ≤ y.2 ∧ y.2 ≤ l.length ∧ (∀ j x, j < y.1 → l[j]? = some x → x.t < t) ∧ ∀ j x, y.2 ≤ j → l[j]? = some x → ¬ x.t < t) ∧ y.2 - y.1 = m') [.int ((m : Nat) + 1), .int (hi : Nat)] := fun q =>
      ⟨_, by omega, (m + 1, hi), by simp, ⟨by simp; omega, i2, fun j y hj hy => ?_, i4⟩, rfl⟩
    have g2 : ¬ x.t < t → (fun zs : List AV => ∃ m', m' < hi - lo ∧ ∃ y : Nat × Nat, zs = [.int (y.1 : Nat), .int (y.2 : Nat)] ∧ (y.1 ≤ y.2 ∧ y.2 ≤ l.length ∧ (∀ j x, j < y.1 → l[j]? = some x → x.t < t) ∧ ∀ j x, y.2 ≤ j → l[j]? = some x → ¬ x.t < t) ∧ y.2 - y.1 = m') [.int (lo : Nat), .int (m : Nat)] := fun q =>
      ⟨_, by omega, (lo, m), by simp, ⟨by simp; omega, by simp; omega, i3, fun j y hj hy => ?_⟩, rfl⟩
    rotate_left
    · have hj : m ≤ j := hj
      rcases Nat.eq_or_lt_of_le hj with q2 | q2
      · subst q2
        rw [hx] at hy; injection hy with hy; rw [← hy]; exact q
      · have := (tG_get hG hx).2.2 j y q2 hy; omega
    · have hj : j < m + 1 := hj
      rcases Nat.lt_or_ge j m with q2 | q2
      · have := (tG_get hG hy).2.2 m x q2 hx; omega
      · obtain rfl : j = m := by omega
        rw [hx] at hy; injection hy with hy; rw [← hy]; exact q
    obtain ⟨q1, q2, _⟩ := hxo
    obtain ⟨x0, hx0⟩ : ∃ x0, l[0]? = some x0 := ⟨_, List.getElem?_eq_getElem (by omega)⟩
    have t0 : 0 ≤ t := by have := h0 x0 hx0; have := (tG_get hG hx0).2.1.1; omega
    obtain ⟨x1, hx1⟩ : ∃ x1, l[l.length - 1]? = some x1 := ⟨_, List.getElem?_eq_getElem (by omega)⟩
    have t1 : t ≤ 200000 := by have := h1 x1 hx1; have := (tG_get hG hx1).2.1.2.1; omega
    have wd : wr (x.t - t) = x.t - t := wr_id (by omega) (by omega)
    have wm : wr ((m : Int) + 1) = (m : Int) + 1 := wr_id (by omega) (by omega)
    generalize hKK : (fun zs : List AV => ∃ m', m' < hi - lo ∧ ∃ y : Nat × Nat, zs = [.int (y.1 : Nat), .int (y.2 : Nat)] ∧ (y.1 ≤ y.2 ∧ y.2 ≤ l.length ∧ (∀ j x, j < y.1 → l[j]? = some x → x.t < t) ∧ ∀ j x, y.2 ≤ j → l[j]? = some x → ¬ x.t < t) ∧ y.2 - y.1 = m') = KK at *
    clear hKK i3 i4 h0 h1
    obtain ⟨xt, xx, xy, xh, xr, xb⟩ := x
    simp [w1, w2, s1, s2, s3, lst_atAgg hx, encN, wd, wm, en1, show m < l.length by omega]
    exact ⟨fun q => g1 (by show xt < t; omega), fun q => g2 (by show ¬ xt < t; omega)⟩
  · have hge : hi ≤ lo := by simpa using hge
    obtain rfl : hi = lo := by omega
    have hlo : hi < l.length := by
      refine Nat.lt_of_le_of_ne i2 fun q => ?_
      obtain ⟨z, hz⟩ : ∃ z, l[l.length - 1]? = some z := ⟨_, List.getElem?_eq_getElem (by omega)⟩
      have := h1 z hz
      have := i3 (l.length - 1) z (by omega) hz
      omega
    have hix : ixF t l = hi := ixF_is i2 i3 (fun x hx => i4 hi x (Nat.le_refl _) hx)
    obtain ⟨b, hb⟩ : ∃ b, l[hi]? = some b := ⟨_, List.getElem?_eq_getElem hlo⟩
    have hbd : l.getD (ixF t l) default = b := by rw [hix, List.getD_eq_getElem?_getD, hb]; rfl
    have hbo := (tG_get hG hb).2.1
    have hbt := i4 hi b (Nat.le_refl _) hb
    have hat : atN l t = if b.t = t then b else interp (l.getD (hi - 1) default) b t := by unfold atN; rw [hbd, hix]
    obtain ⟨x0, hx0⟩ : ∃ x0, l[0]? = some x0 := ⟨_, List.getElem?_eq_getElem (by omega)⟩
    have t0 : 0 ≤ t := by have := h0 x0 hx0; have := (tG_get hG hx0).2.1.1; omega
    obtain ⟨x1, hx1⟩ : ∃ x1, l[l.length - 1]? = some x1 := ⟨_, List.getElem?_eq_getElem (by omega)⟩
    have t1 : t ≤ 200000 := by have := h1 x1 hx1; have := (tG_get hG hx1).2.1.2.1; omega
    have e1 : b.t = t → nd (atN l t) = nd b := fun q => by rw [hat, if_pos q]
    have e2 : b.t ≠ t → ∃ a, l[hi - 1]? = some a ∧ 0 < hi ∧ okN a ∧ a.t < t ∧ t < b.t ∧ nd (atN l t) = nd (interp a b t) := fun q => by
      have hpos : 0 < hi := by
        refine Nat.pos_of_ne_zero fun z => ?_
        subst z
        have := h0 b hb
        omega
      obtain ⟨a, ha⟩ : ∃ a, l[hi - 1]? = some a := ⟨_, List.getElem?_eq_getElem (by omega)⟩
      have had : l.getD (hi - 1) default = a := by rw [List.getD_eq_getElem?_getD, ha]; rfl
      exact ⟨a, ha, hpos, (tG_get hG ha).2.1, i3 (hi - 1) a (by omega) ha, by omega, by rw [hat, if_neg q, had]⟩
    generalize nd (atN l t) = R at *
    have wd : wr (b.t - t) = b.t - t := by obtain ⟨q1, q2, _⟩ := hbo; exact wr_id (by omega) (by omega)
    clear hat hbd hix i3 i4 h1
    have hbo' := hbo
    obtain ⟨bt, bx, b_, bh, br, bb⟩ := b
    simp only at wd
    by_cases hbt0 : bt = t
    · have hz : bt - t = 0 := by omega
      have hw0 : wr (bt - t) = 0 := by rw [wd, hz]
      simp [hlo, lst_atAgg hb, encN, hw0, en1]
      exact (e1 hbt0).symm
    · obtain ⟨a, ha, hpos, hao, hat1, hat2, hR⟩ := e2 hbt0
      obtain ⟨k, rfl⟩ : ∃ k, hi = k + 1 := ⟨hi - 1, by omega⟩
      have wk : wr (k : Int) = (k : Int) := wr_id (by omega) (by omega)
      have ha : l[k]? = some a := ha
      have hz : ¬ bt - t = 0 := by omega
      have hao' := hao
      obtain ⟨at_, ax, ay, ah, ar, ab⟩ := a
      simp only [okN, Nd.p] at hbo hao hat1 hat2
      obtain ⟨a1, a2, a3, a4, a5, a6, a7, a8, a9⟩ := hao
      obtain ⟨b1, b2, b3, b4, b5, b6, b7, b8, b9⟩ := hbo
      have v1 : wr (t - at_) = t - at_ := wr_id (by omega) (by omega)
      have v2 : wr (bt - at_) = bt - at_ := wr_id (by omega) (by omega)
      have v3 : wr (bh - ah) = bh - ah := wr_id (by omega) (by omega)
      have v4 : wr (br - ar) = br - ar := wr_id (by omega) (by omega)
      have v5 : wr (bb - ab) = bb - ab := wr_id (by omega) (by omega)
      have m1 := mulb (p := bh - ah) (n := t - at_) (by omega) (by omega) (by omega) (by omega)
      have m2 := mulb (p := br - ar) (n := t - at_) (by omega) (by omega) (by omega) (by omega)
      have m3 := mulb (p := bb - ab) (n := t - at_) (by omega) (by omega) (by omega) (by omega)
      have v6 : wr ((bh - ah) * (t - at_)) = (bh - ah) * (t - at_) := wr_id (by omega) (by omega)
      have v7 : wr ((br - ar) * (t - at_)) = (br - ar) * (t - at_) := wr_id (by omega) (by omega)
      have v8 : wr ((bb - ab) * (t - at_)) = (bb - ab) * (t - at_) := wr_id (by omega) (by omega)
      have hd : 0 < bt - at_ := by omega
      have c1 := toward_fn ⟨ax, ay⟩ ⟨bx, b_⟩ (t - at_) (bt - at_) a3 b3 hd (by omega) (by omega) (by omega)
      have c2 := divd_fn ((bh - ah) * (t - at_)) (bt - at_) hd (by omega) (by omega)
      have c3 := divu_fn ((br - ar) * (t - at_)) (bt - at_) hd (by omega) (by omega)
      have c4 := divu_fn ((bb - ab) * (t - at_)) (bt - at_) hd (by omega) (by omega)
      have d2 := quo_bd hd (a := (bh - ah) * (t - at_)) (by omega) (by omega)
      have d3 := dvu_bd hd (a := (br - ar) * (t - at_)) (by omega) (by omega)
      have d4 := dvu_bd hd (a := (bb - ab) * (t - at_)) (by omega) (by omega)
      have v9 : wr (ah + (bh - ah) * (t - at_) / (bt - at_)) = ah + (bh - ah) * (t - at_) / (bt - at_) := wr_id (by omega) (by omega)
      have v10 : wr (ar + dvu ((br - ar) * (t - at_)) (bt - at_)) = ar + dvu ((br - ar) * (t - at_)) (bt - at_) := wr_id (by omega) (by omega)
      have v11 : wr (ab + dvu ((bb - ab) * (t - at_)) (bt - at_)) = ab + dvu ((bb - ab) * (t - at_)) (bt - at_) := wr_id (by omega) (by omega)
      have hlo' : (k : Int) + 1 < l.length := by omega
      have hlo2 : (k : Int) < l.length := by omega
      have hbz : AV.atAgg (tube l) (.lit (.int .i64 ((k : Int) + 1))) 0 6 = .agg [.int bt, .int bx, .int b_, .int bh, .int br, .int bb] := by
        have := lst_atAgg (s := 6) (enc := encN) (k := .i64) (j := 0) (m := 6) hb
        simpa [encN] using this
      rw [hR]
      simp [hlo', hlo2, hbz, lst_atAgg ha, encN, wd, en1, hz, wk, v1, v2]
      refine ⟨by omega, _, c1, ?_⟩
      simp [encP, v3, v6]
      refine ⟨_, c2, ?_⟩
      simp [v4, v7]
      refine ⟨_, c3, ?_⟩
      simp [v5, v8]
      refine ⟨_, c4, ?_⟩
      simp [v9, v10, v11, interp, Nd.p]
def tatE (l : List Nd) (t : Int) : Int := if tE l ≠ 0 then tE l else if t < (l.getD 0 default).t ∨ t > (l.getD (l.length - 1) default).t then 12 else 0
def nd0 : Nd := ⟨0, 0, 0, 0, 0, 0⟩
def tatV (l : List Nd) (t : Int) : AV := if tatE l t = 0 then .tup [nd (atN l t), .int 0] else .tup [nd nd0, .int (tatE l t)]
theorem tatE_ok {l : List Nd} {t : Int} (h : tatE l t = 0) : tE l = 0 ∧ (∀ x, l[0]? = some x → x.t ≤ t) ∧ ∀ x, l[l.length - 1]? = some x → t ≤ x.t := by
  unfold tatE at h
  split at h
  · rename_i q; exact absurd h q
  · rename_i q
    split at h
    · cases h
    · refine ⟨by simpa using q, fun x hx => ?_, fun x hx => ?_⟩
      · have : (l.getD 0 default).t = x.t := by rw [List.getD_eq_getElem?_getD, hx]; rfl
        omega
      · have : (l.getD (l.length - 1) default).t = x.t := by rw [List.getD_eq_getElem?_getD, hx]; rfl
        omega
/-- The node at a time is valid. -/
theorem atN_ok {l : List Nd} {t : Int} (hv : tE l = 0) (h0 : ∀ x, l[0]? = some x → x.t ≤ t) (h1 : ∀ x, l[l.length - 1]? = some x → t ≤ x.t) : pE (atN l t).p = 0 ∧ 0 ≤ (atN l t).h ∧ (atN l t).h ≤ 60000 := by
  obtain ⟨hp, h64, hG⟩ := tE_ok hv
  have hlt : ixF t l < l.length := by
    refine Nat.lt_of_le_of_ne (ixF_le t l) fun q => ?_
    obtain ⟨z, hz⟩ : ∃ z, l[l.length - 1]? = some z := ⟨_, List.getElem?_eq_getElem (by omega)⟩
    have := h1 z hz
    have := ixF_lt (t := t) (l := l) (j := l.length - 1) (by omega) hz
    omega
  obtain ⟨b, hb⟩ : ∃ b, l[ixF t l]? = some b := ⟨_, List.getElem?_eq_getElem hlt⟩
  have hbd : l.getD (ixF t l) default = b := by rw [List.getD_eq_getElem?_getD, hb]; rfl
  have hbo := (tG_get hG hb).2.1
  have hbt := ixF_ge hb
  unfold atN
  rw [hbd]
  split
  · exact ⟨hbo.2.2.1, hbo.2.2.2.1, hbo.2.2.2.2.1⟩
  · rename_i hne
    have hpos : 0 < ixF t l := by
      refine Nat.pos_of_ne_zero fun z => ?_
      rw [z] at hb
      have := h0 b hb
      omega
    obtain ⟨a, ha⟩ : ∃ a, l[ixF t l - 1]? = some a := ⟨_, List.getElem?_eq_getElem (by omega)⟩
    have had : l.getD (ixF t l - 1) default = a := by rw [List.getD_eq_getElem?_getD, ha]; rfl
    rw [had]
    exact interp_ok (tG_get hG ha).2.1 hbo (ixF_lt (by omega) ha) (by omega)
theorem tat_fn (l : List Nd) (t : Int) : Fn Tryd.prog 21 [tube l, .int t] (.tup [.sc, .sc]) (tatV l t) := by
  refine fn_run mixed 3 (Γ := SecF.Γ) (ann := SecF.ann) Tryd.func21 rfl Tryd.call21 ((SecF.tat_form _ _ _).mpr ?_)
  refine ⟨_, tcheck_fn l, ?_⟩
  have hV1 : tE l ≠ 0 → tatV l t = .tup [nd nd0, .int (tE l)] := fun g => by
    have : tatE l t = tE l := by unfold tatE; rw [if_pos g]
    unfold tatV; rw [this, if_neg g]
  simp
  refine ⟨fun g => (hV1 g).symm, fun g => ?_⟩
  obtain ⟨hp, h64, hG⟩ := tE_ok g
  obtain ⟨a, ha⟩ : ∃ a, l[0]? = some a := ⟨_, List.getElem?_eq_getElem hp⟩
  obtain ⟨b, hb⟩ : ∃ b, l[l.length - 1]? = some b := ⟨_, List.getElem?_eq_getElem (by omega)⟩
  have had : l.getD 0 default = a := by rw [List.getD_eq_getElem?_getD, ha]; rfl
  have hbd : l.getD (l.length - 1) default = b := by rw [List.getD_eq_getElem?_getD, hb]; rfl
  have hV2 : (t < a.t ∨ t > b.t) → tatV l t = .tup [nd nd0, .int 12] := fun q => by
    have : tatE l t = 12 := by unfold tatE; rw [if_neg (by simp [g]), had, hbd, if_pos q]
    unfold tatV; rw [this, if_neg (by decide)]
  have hV3 : ¬ (t < a.t ∨ t > b.t) → tatV l t = .tup [nd (atN l t), .int 0] := fun q => by
    have : tatE l t = 0 := by unfold tatE; rw [if_neg (by simp [g]), had, hbd, if_neg q]
    unfold tatV; rw [if_pos this]
  refine ⟨_, ends_fn l a b ha hb (by omega), ?_⟩
  simp
  refine ⟨fun q => ⟨q, (hV2 (by omega)).symm⟩, fun q => ⟨q, fun q2 => (hV2 (by omega)).symm, fun q2 => ?_⟩⟩
  rw [hV3 (by omega)]
  refine ⟨_, at_fn l t g (fun x hx => by rw [ha] at hx; injection hx with hx; rw [← hx]; exact q) (fun x hx => by rw [hb] at hx; injection hx with hx; rw [← hx]; exact q2), ?_⟩
  simp [encN]
end Go.Proofs.YtdlakpomcafemaaDoor
/- plane: distances. -/
namespace Go.Proofs.YtdlakpomcafemaaDoor
open Go.RowKit
set_option linter.unusedVariables false
set_option linter.unusedSimpArgs false
set_option maxRecDepth 100000
def rbin (n : Int) : Nat → Int → Int → Int
  | 0, lo, _ => lo
  | f + 1, lo, hi => if lo < hi then (if (lo + (hi - lo + 1) / 2) * (lo + (hi - lo + 1) / 2) ≤ n then rbin n f (lo + (hi - lo + 1) / 2) hi else rbin n f lo (lo + (hi - lo + 1) / 2 - 1)) else lo
def rootI (n : Int) : Int := if n ≤ 0 then 0 else rbin n 40 0 3037000499
theorem rbin_bd (n : Int) : ∀ (f : Nat) (lo hi : Int), lo ≤ hi → lo ≤ rbin n f lo hi ∧ rbin n f lo hi ≤ hi
  | 0, lo, hi, h => ⟨Int.le_refl _, h⟩
  | f + 1, lo, hi, h => by
    rw [rbin]
    split
    · split
      · have := rbin_bd n f (lo + (hi - lo + 1) / 2) hi (by omega); omega
      · have := rbin_bd n f lo (lo + (hi - lo + 1) / 2 - 1) (by omega); omega
    · omega
theorem rootI_bd (n : Int) : 0 ≤ rootI n ∧ rootI n ≤ 3037000499 := by
  unfold rootI
  split
  · omega
  · exact rbin_bd n 40 0 3037000499 (by omega)
theorem sq_bd {r : Int} (h0 : 0 ≤ r) (h1 : r ≤ 3037000499) : 0 ≤ r * r ∧ r * r ≤ 9223372030926249001 := by
  have a1 := Int.mul_le_mul h1 h1 h0 (by omega)
  have a2 := Int.mul_nonneg h0 h0
  exact ⟨a2, by simpa using a1⟩
theorem root_fn (n : Int) : Fn Tryd.prog 40 [.int n] .sc (.int (rootI n)) := by
  have e := DisF.root_form (.int n) (.int (rootI n))
  have k := fun h => fn_run mixed 3 (Γ := DisF.Γ) (ann := DisF.ann) Tryd.func40 rfl Tryd.call40 (e.mpr h)
  refine k ?_
  clear k e
  refine ⟨by simp, by simp, fun h => ?_, fun h => ?_⟩
  · have h : n ≤ 0 := by simpa using h
    unfold rootI
    rw [if_pos h]
    simp
  · have h : ¬ n ≤ 0 := by simpa using h
    have hR : rootI n = rbin n 40 0 3037000499 := by unfold rootI; rw [if_neg h]
    rw [hR]
    generalize hr : rbin n 40 0 3037000499 = R
    refine loop_of (τ := Int × Int × Nat) (fun s => [.int s.1, .int s.2.1]) (fun s => 0 ≤ s.1 ∧ s.1 ≤ s.2.1 ∧ s.2.1 ≤ 3037000499 ∧ s.2.1 - s.1 < (2 ^ s.2.2 : Nat) ∧ rbin n s.2.2 s.1 s.2.1 = R) (fun s => (s.2.1 - s.1).toNat) (0, 3037000499, 40) rfl ⟨by simp, by simp, by simp, by simp, hr⟩ ?_
    rintro ⟨lo, hi, f⟩ ⟨i1, i2, i3, i4, i5⟩
    simp only at i1 i2 i3 i4 i5
    by_cases hlt : lo < hi
    · obtain ⟨g, rfl⟩ : ∃ g, f = g + 1 := ⟨f - 1, by
        rcases Nat.eq_zero_or_pos f with z | z
        · subst z; simp at i4; omega
        · omega⟩
      rw [Nat.pow_succ] at i4
      generalize hP : 2 ^ g = P at i4
      have hP' : (2 : Int) ^ g = (P : Int) := by rw [← hP]; simp
      rw [rbin, if_pos hlt] at i5
      have e1 : (hi - lo + 1).tdiv 2 = (hi - lo + 1) / 2 := Int.tdiv_eq_ediv_of_nonneg (by omega)
      have w1 : wr (hi - lo) = hi - lo := wr_id (by omega) (by omega)
      have w2 : wr (hi - lo + 1) = hi - lo + 1 := wr_id (by omega) (by omega)
      have w3 : wr ((hi - lo + 1) / 2) = (hi - lo + 1) / 2 := wr_id (by omega) (by omega)
      have w4 : wr (lo + (hi - lo + 1) / 2) = lo + (hi - lo + 1) / 2 := wr_id (by omega) (by omega)
      generalize hm : lo + (hi - lo + 1) / 2 = m at *
      have hmb : lo < m ∧ m ≤ hi ∧ 2 * (hi - m) ≤ hi - lo ∧ 2 * (m - 1 - lo) ≤ hi - lo := by omega
      have hsq := sq_bd (r := m) (by omega) (by omega)
      have w5 : wr (m * m) = m * m := wr_id (by omega) (by omega)
      have w6 : wr (m - 1) = m - 1 := wr_id (by omega) (by omega)
      simp [hlt, w1, w2, w3, hm, w4, w5, w6, e1]
      refine ⟨fun q => ?_, fun q => ?_⟩
      · rw [if_pos q] at i5
        exact ⟨_, by omega, m, hi, ⟨rfl, rfl⟩, ⟨⟨by omega, by omega, i3, g, by rw [hP']; omega, i5⟩, rfl⟩⟩
      · rw [if_neg (by omega)] at i5
        exact ⟨_, by omega, lo, m - 1, ⟨rfl, rfl⟩, ⟨⟨by omega, by omega, by omega, g, by rw [hP']; omega, i5⟩, rfl⟩⟩
    · have : rbin n f lo hi = lo := by cases f <;> simp [rbin, hlt]
      rw [this] at i5
      subst i5
      simp [hlt]
def disA (a b : Pt) : Int := rootI (sqrP a b)
def disB (a b : Pt) : Int := if disA a b * disA a b < sqrP a b then disA a b + 1 else disA a b
theorem dist_fn (a b : Pt) : Fn Tryd.prog 26 [pt a, pt b] (.tup [.sc, .sc]) (.tup [.int (disA a b), .int (disB a b)]) := by
  have e := DisF.dist_form (pt a) (pt b) (.tup [.int (disA a b), .int (disB a b)])
  have k := fun h => fn_run mixed 3 (Γ := DisF.Γ) (ann := DisF.ann) Tryd.func26 rfl Tryd.call26 (e.mpr h)
  refine k ?_
  clear k e
  have hb := rootI_bd (sqrP a b)
  have hsq := sq_bd hb.1 hb.2
  have hB : disB a b = if disA a b * disA a b < sqrP a b then disA a b + 1 else disA a b := rfl
  have hA : disA a b = rootI (sqrP a b) := rfl
  rw [hB, hA]
  refine ⟨by simp [encP], by simp [encP], _, sqr_fn a b, _, root_fn _, ?_⟩
  generalize sqrP a b = n at *
  generalize rootI n = R at *
  have w1 : wr (R * R) = R * R := wr_id (by omega) (by omega)
  have w2 : wr (R + 1) = R + 1 := wr_id (by omega) (by omega)
  simp [w1, w2]
  exact ⟨fun q q2 => by omega, fun q q2 => by omega⟩
end Go.Proofs.YtdlakpomcafemaaDoor
/- angles: what the run ends in. -/
namespace Go.Proofs.YtdlakpomcafemaaDoor
open Go.RowKit
set_option linter.unusedVariables false
set_option maxRecDepth 100000
namespace AngF
--GAMMA
def Γ : FuncId → Option Ca := fun f =>
  if f = 66 ∨ f = 67 then some .ext
  else if f = 69 ∨ f = 60 ∨ f = 62 ∨ f = 42 ∨ f = 43 ∨ f = 41 then some (.fn .sc)
  else if f = 74 then none
  else some .inl
def ann : FuncId → Nat → LoopEx := fun f r => ⟨[], [], [], []⟩
--END GAMMA
theorem norm_form (x0 r : AV) : fnF Tryd.prog Γ ann 3 62 Tryd.f62 (Tryd.f62.body.getD .skip) (.nil) [x0] (.sc) r = (((AV.binOk Go.BinOp.rem x0 (AV.int 4096)) ∧
((AV.binOk Go.BinOp.add (AV.bin Go.BinOp.rem x0 (AV.int 4096)) (AV.int 4096)) ∧
((AV.binOk Go.BinOp.rem (AV.bin Go.BinOp.add (AV.bin Go.BinOp.rem x0 (AV.int 4096)) (AV.int 4096)) (AV.int 4096)) ∧
((AV.flat (AV.bin Go.BinOp.rem (AV.bin Go.BinOp.add (AV.bin Go.BinOp.rem x0 (AV.int 4096)) (AV.int 4096)) (AV.int 4096))) ∧
(fSame (AV.bin Go.BinOp.rem (AV.bin Go.BinOp.add (AV.bin Go.BinOp.rem x0 (AV.int 4096)) (AV.int 4096)) (AV.int 4096)) r)))))) := by kernel_rfl
theorem round_form (x0 r : AV) : fnF Tryd.prog Γ ann 3 60 Tryd.f60 (Tryd.f60.body.getD .skip) (.nil) [x0] (.sc) r = ((∃ r129 : AV, ((FnE Tryd.prog 66 [x0] r129) ∧
((AV.shfOk r129 (AV.lit (Value.int Go.IntKind.u64 52))) ∧
((AV.binOk Go.BinOp.and (AV.shf Go.BinOp.shr r129 (AV.lit (Value.int Go.IntKind.u64 52))) (AV.lit (Value.int Go.IntKind.u64 2047))) ∧
((AV.binOk Go.BinOp.lss (AV.bin Go.BinOp.and (AV.shf Go.BinOp.shr r129 (AV.lit (Value.int Go.IntKind.u64 52))) (AV.lit (Value.int Go.IntKind.u64 2047))) (AV.lit (Value.int Go.IntKind.u64 1023))) ∧
((AV.isBool (AV.bin Go.BinOp.lss (AV.bin Go.BinOp.and (AV.shf Go.BinOp.shr r129 (AV.lit (Value.int Go.IntKind.u64 52))) (AV.lit (Value.int Go.IntKind.u64 2047))) (AV.lit (Value.int Go.IntKind.u64 1023)))) ∧
(((isT (AV.bin Go.BinOp.lss (AV.bin Go.BinOp.and (AV.shf Go.BinOp.shr r129 (AV.lit (Value.int Go.IntKind.u64 52))) (AV.lit (Value.int Go.IntKind.u64 2047))) (AV.lit (Value.int Go.IntKind.u64 1023)))) →
  ((AV.binOk Go.BinOp.and r129 (AV.lit (Value.int Go.IntKind.u64 9223372036854775808))) ∧
  ((AV.binOk Go.BinOp.eql (AV.bin Go.BinOp.and (AV.shf Go.BinOp.shr r129 (AV.lit (Value.int Go.IntKind.u64 52))) (AV.lit (Value.int Go.IntKind.u64 2047))) (AV.lit (Value.int Go.IntKind.u64 1022))) ∧
  ((AV.isBool (AV.bin Go.BinOp.eql (AV.bin Go.BinOp.and (AV.shf Go.BinOp.shr r129 (AV.lit (Value.int Go.IntKind.u64 52))) (AV.lit (Value.int Go.IntKind.u64 2047))) (AV.lit (Value.int Go.IntKind.u64 1022)))) ∧
  (((isT (AV.bin Go.BinOp.eql (AV.bin Go.BinOp.and (AV.shf Go.BinOp.shr r129 (AV.lit (Value.int Go.IntKind.u64 52))) (AV.lit (Value.int Go.IntKind.u64 2047))) (AV.lit (Value.int Go.IntKind.u64 1022)))) →
    ((AV.binOk Go.BinOp.or (AV.bin Go.BinOp.and r129 (AV.lit (Value.int Go.IntKind.u64 9223372036854775808))) (AV.lit (Value.int Go.IntKind.u64 4607182418800017408))) ∧
    (∃ r1217 : AV, ((FnE Tryd.prog 67 [(AV.bin Go.BinOp.or (AV.bin Go.BinOp.and r129 (AV.lit (Value.int Go.IntKind.u64 9223372036854775808))) (AV.lit (Value.int Go.IntKind.u64 4607182418800017408)))] r1217) ∧
    ((AV.flat r1217) ∧
    (fSame r1217 r)))))) ∧
  ((isF (AV.bin Go.BinOp.eql (AV.bin Go.BinOp.and (AV.shf Go.BinOp.shr r129 (AV.lit (Value.int Go.IntKind.u64 52))) (AV.lit (Value.int Go.IntKind.u64 2047))) (AV.lit (Value.int Go.IntKind.u64 1022)))) →
    (∃ r1025 : AV, ((FnE Tryd.prog 67 [(AV.bin Go.BinOp.and r129 (AV.lit (Value.int Go.IntKind.u64 9223372036854775808)))] r1025) ∧
    ((AV.flat r1025) ∧
    (fSame r1025 r)))))))))) ∧
((isF (AV.bin Go.BinOp.lss (AV.bin Go.BinOp.and (AV.shf Go.BinOp.shr r129 (AV.lit (Value.int Go.IntKind.u64 52))) (AV.lit (Value.int Go.IntKind.u64 2047))) (AV.lit (Value.int Go.IntKind.u64 1023)))) →
  ((AV.binOk Go.BinOp.lss (AV.bin Go.BinOp.and (AV.shf Go.BinOp.shr r129 (AV.lit (Value.int Go.IntKind.u64 52))) (AV.lit (Value.int Go.IntKind.u64 2047))) (AV.lit (Value.int Go.IntKind.u64 1075))) ∧
  ((AV.isBool (AV.bin Go.BinOp.lss (AV.bin Go.BinOp.and (AV.shf Go.BinOp.shr r129 (AV.lit (Value.int Go.IntKind.u64 52))) (AV.lit (Value.int Go.IntKind.u64 2047))) (AV.lit (Value.int Go.IntKind.u64 1075)))) ∧
  (((isT (AV.bin Go.BinOp.lss (AV.bin Go.BinOp.and (AV.shf Go.BinOp.shr r129 (AV.lit (Value.int Go.IntKind.u64 52))) (AV.lit (Value.int Go.IntKind.u64 2047))) (AV.lit (Value.int Go.IntKind.u64 1075)))) →
    ((AV.binOk Go.BinOp.sub (AV.bin Go.BinOp.and (AV.shf Go.BinOp.shr r129 (AV.lit (Value.int Go.IntKind.u64 52))) (AV.lit (Value.int Go.IntKind.u64 2047))) (AV.lit (Value.int Go.IntKind.u64 1023))) ∧
    ((AV.shfOk (AV.lit (Value.int Go.IntKind.u64 2251799813685248)) (AV.bin Go.BinOp.sub (AV.bin Go.BinOp.and (AV.shf Go.BinOp.shr r129 (AV.lit (Value.int Go.IntKind.u64 52))) (AV.lit (Value.int Go.IntKind.u64 2047))) (AV.lit (Value.int Go.IntKind.u64 1023)))) ∧
    ((AV.binOk Go.BinOp.add r129 (AV.shf Go.BinOp.shr (AV.lit (Value.int Go.IntKind.u64 2251799813685248)) (AV.bin Go.BinOp.sub (AV.bin Go.BinOp.and (AV.shf Go.BinOp.shr r129 (AV.lit (Value.int Go.IntKind.u64 52))) (AV.lit (Value.int Go.IntKind.u64 2047))) (AV.lit (Value.int Go.IntKind.u64 1023))))) ∧
    ((AV.shfOk (AV.lit (Value.int Go.IntKind.u64 4503599627370495)) (AV.bin Go.BinOp.sub (AV.bin Go.BinOp.and (AV.shf Go.BinOp.shr r129 (AV.lit (Value.int Go.IntKind.u64 52))) (AV.lit (Value.int Go.IntKind.u64 2047))) (AV.lit (Value.int Go.IntKind.u64 1023)))) ∧
    ((AV.binOk Go.BinOp.andNot (AV.bin Go.BinOp.add r129 (AV.shf Go.BinOp.shr (AV.lit (Value.int Go.IntKind.u64 2251799813685248)) (AV.bin Go.BinOp.sub (AV.bin Go.BinOp.and (AV.shf Go.BinOp.shr r129 (AV.lit (Value.int Go.IntKind.u64 52))) (AV.lit (Value.int Go.IntKind.u64 2047))) (AV.lit (Value.int Go.IntKind.u64 1023))))) (AV.shf Go.BinOp.shr (AV.lit (Value.int Go.IntKind.u64 4503599627370495)) (AV.bin Go.BinOp.sub (AV.bin Go.BinOp.and (AV.shf Go.BinOp.shr r129 (AV.lit (Value.int Go.IntKind.u64 52))) (AV.lit (Value.int Go.IntKind.u64 2047))) (AV.lit (Value.int Go.IntKind.u64 1023))))) ∧
    (∃ r1665 : AV, ((FnE Tryd.prog 67 [(AV.bin Go.BinOp.andNot (AV.bin Go.BinOp.add r129 (AV.shf Go.BinOp.shr (AV.lit (Value.int Go.IntKind.u64 2251799813685248)) (AV.bin Go.BinOp.sub (AV.bin Go.BinOp.and (AV.shf Go.BinOp.shr r129 (AV.lit (Value.int Go.IntKind.u64 52))) (AV.lit (Value.int Go.IntKind.u64 2047))) (AV.lit (Value.int Go.IntKind.u64 1023))))) (AV.shf Go.BinOp.shr (AV.lit (Value.int Go.IntKind.u64 4503599627370495)) (AV.bin Go.BinOp.sub (AV.bin Go.BinOp.and (AV.shf Go.BinOp.shr r129 (AV.lit (Value.int Go.IntKind.u64 52))) (AV.lit (Value.int Go.IntKind.u64 2047))) (AV.lit (Value.int Go.IntKind.u64 1023)))))] r1665) ∧
    ((AV.flat r1665) ∧
    (fSame r1665 r)))))))))) ∧
  ((isF (AV.bin Go.BinOp.lss (AV.bin Go.BinOp.and (AV.shf Go.BinOp.shr r129 (AV.lit (Value.int Go.IntKind.u64 52))) (AV.lit (Value.int Go.IntKind.u64 2047))) (AV.lit (Value.int Go.IntKind.u64 1075)))) →
    (∃ r833 : AV, ((FnE Tryd.prog 67 [r129] r833) ∧
    ((AV.flat r833) ∧
    (fSame r833 r))))))))))))))))) := by kernel_rfl
set_option maxHeartbeats 4000000 in
theorem msin_form (x0 r t1 t2 t3 t4 t5 t6 t7 t8 t9 t10 t11 t12 t13 t14 t15 t16 t17 t18 t19 t20 t21 t22 t23 t24 t25 t26 t27 t28 t29 t30 t31 t32 t33 t34 t35 t36 t37 t38 t39 t40 t41 t42 t43 t44 t45 t46 t47 t48 t49 t50 t51 t52 t53 t54 t55 t56 t57 t58 t59 t60 t61 t62 t63 t64 t65 t66 t67 t68 t69 t70 t71 t72 t73 t74 t75 t76 t77 t78 t79 t80 t81 t82 t83 t84 t85 t86 t87 t88 t89 t90 t91 t92 t93 t94 t95 t96 t97 t98 t99 t100 t101 t102 t103 t104 t105 t106 t107 t108 t109 t110 t111 t112 t113 : AV) (et1 : t1 = (AV.bin Go.BinOp.eql x0 (AV.lit (Value.float Go.FloatKind.f64 0)))) (et2 : t2 = (AV.bin Go.BinOp.neq x0 x0)) (et3 : t3 = (AV.bin Go.BinOp.lss x0 (AV.lit (Value.float Go.FloatKind.f64 0)))) (et4 : t4 = (AV.bin Go.BinOp.geq x0 (AV.lit (Value.float Go.FloatKind.f64 4737786807993761792)))) (et5 : t5 = (AV.bin Go.BinOp.mul x0 (AV.lit (Value.float Go.FloatKind.f64 4608412980311869571)))) (et6 : t6 = (AV.f2i Go.FloatKind.f64 Go.IntKind.u64 t5)) (et7 : t7 = (AV.bin Go.BinOp.and t6 (AV.lit (Value.int Go.IntKind.u64 1)))) (et8 : t8 = (AV.bin Go.BinOp.eql t7 (AV.lit (Value.int Go.IntKind.u64 1)))) (et9 : t9 = (AV.i2f Go.FloatKind.f64 t6)) (et10 : t10 = (AV.bin Go.BinOp.add t6 (AV.lit (Value.int Go.IntKind.u64 1)))) (et11 : t11 = (AV.bin Go.BinOp.add t9 (AV.lit (Value.float Go.FloatKind.f64 4607182418800017408)))) (et12 : t12 = (AV.bin Go.BinOp.mul t11 (AV.lit (Value.float Go.FloatKind.f64 4605249456957292544)))) (et13 : t13 = (AV.bin Go.BinOp.sub x0 t12)) (et14 : t14 = (AV.bin Go.BinOp.mul t11 (AV.lit (Value.float Go.FloatKind.f64 4495793288086814720)))) (et15 : t15 = (AV.bin Go.BinOp.sub t13 t14)) (et16 : t16 = (AV.bin Go.BinOp.mul t11 (AV.lit (Value.float Go.FloatKind.f64 4388835458085048688)))) (et17 : t17 = (AV.bin Go.BinOp.and t10 (AV.lit (Value.int Go.IntKind.u64 7)))) (et18 : t18 = (AV.bin Go.BinOp.gtr t17 (AV.lit (Value.int Go.IntKind.u64 3)))) (et19 : t19 = (AV.bin Go.BinOp.sub t15 t16)) (et20 : t20 = (AV.bin Go.BinOp.sub t17 (AV.lit (Value.int Go.IntKind.u64 4)))) (et21 : t21 = (AV.bin Go.BinOp.eql t20 (AV.lit (Value.int Go.IntKind.u64 1)))) (et22 : t22 = (AV.bin Go.BinOp.mul t19 t19)) (et23 : t23 = (AV.bin Go.BinOp.mul (AV.lit (Value.float Go.FloatKind.f64 4602678819172646912)) t22)) (et24 : t24 = (AV.mkRef [(AV.lit (Value.float Go.FloatKind.f64 13666448263388469915)), (AV.lit (Value.float Go.FloatKind.f64 4477121864728985349)), (AV.lit (Value.float Go.FloatKind.f64 13732177093698800582)), (AV.lit (Value.float Go.FloatKind.f64 4537941361668146421)), (AV.lit (Value.float Go.FloatKind.f64 13787419979223748497)), (AV.lit (Value.float Go.FloatKind.f64 4586165620538955083))])) (et25 : t25 = (AV.refNth t24 0 [((AV.int 0), 1)])) (et26 : t26 = (AV.bin Go.BinOp.mul t25 t22)) (et27 : t27 = (AV.refNth t24 0 [((AV.int 1), 1)])) (et28 : t28 = (AV.bin Go.BinOp.add t26 t27)) (et29 : t29 = (AV.bin Go.BinOp.mul t28 t22)) (et30 : t30 = (AV.refNth t24 0 [((AV.int 2), 1)])) (et31 : t31 = (AV.bin Go.BinOp.add t29 t30)) (et32 : t32 = (AV.bin Go.BinOp.mul t31 t22)) (et33 : t33 = (AV.refNth t24 0 [((AV.int 3), 1)])) (et34 : t34 = (AV.bin Go.BinOp.add t32 t33)) (et35 : t35 = (AV.bin Go.BinOp.mul t34 t22)) (et36 : t36 = (AV.refNth t24 0 [((AV.int 4), 1)])) (et37 : t37 = (AV.bin Go.BinOp.add t35 t36)) (et38 : t38 = (AV.bin Go.BinOp.mul t37 t22)) (et39 : t39 = (AV.refNth t24 0 [((AV.int 5), 1)])) (et40 : t40 = (AV.bin Go.BinOp.mul t22 t22)) (et41 : t41 = (AV.bin Go.BinOp.add t38 t39)) (et42 : t42 = (AV.bin Go.BinOp.sub (AV.lit (Value.float Go.FloatKind.f64 4607182418800017408)) t23)) (et43 : t43 = (AV.bin Go.BinOp.mul t40 t41)) (et44 : t44 = (AV.bin Go.BinOp.add t42 t43)) (et45 : t45 = (AV.un Go.UnOp.neg t44)) (et46 : t46 = (AV.bin Go.BinOp.eql t20 (AV.lit (Value.int Go.IntKind.u64 2)))) (et47 : t47 = (AV.mkRef [(AV.lit (Value.float Go.FloatKind.f64 4460209587652500685)), (AV.lit (Value.float Go.FloatKind.f64 13716528389658582877)), (AV.lit (Value.float Go.FloatKind.f64 4523617212962785441)), (AV.lit (Value.float Go.FloatKind.f64 13774824197404483331)), (AV.lit (Value.float Go.FloatKind.f64 4575957461383575504)), (AV.lit (Value.float Go.FloatKind.f64 13818544856648471880))])) (et48 : t48 = (AV.refNth t47 0 [((AV.int 0), 1)])) (et49 : t49 = (AV.bin Go.BinOp.mul t48 t22)) (et50 : t50 = (AV.refNth t47 0 [((AV.int 1), 1)])) (et51 : t51 = (AV.bin Go.BinOp.add t49 t50)) (et52 : t52 = (AV.bin Go.BinOp.mul t51 t22)) (et53 : t53 = (AV.refNth t47 0 [((AV.int 2), 1)])) (et54 : t54 = (AV.bin Go.BinOp.add t52 t53)) (et55 : t55 = (AV.bin Go.BinOp.mul t54 t22)) (et56 : t56 = (AV.refNth t47 0 [((AV.int 3), 1)])) (et57 : t57 = (AV.bin Go.BinOp.add t55 t56)) (et58 : t58 = (AV.bin Go.BinOp.mul t57 t22)) (et59 : t59 = (AV.refNth t47 0 [((AV.int 4), 1)])) (et60 : t60 = (AV.bin Go.BinOp.add t58 t59)) (et61 : t61 = (AV.bin Go.BinOp.mul t60 t22)) (et62 : t62 = (AV.refNth t47 0 [((AV.int 5), 1)])) (et63 : t63 = (AV.bin Go.BinOp.mul t19 t22)) (et64 : t64 = (AV.bin Go.BinOp.add t61 t62)) (et65 : t65 = (AV.bin Go.BinOp.mul t63 t64)) (et66 : t66 = (AV.bin Go.BinOp.add t19 t65)) (et67 : t67 = (AV.un Go.UnOp.neg t66)) (et68 : t68 = (AV.bin Go.BinOp.eql t17 (AV.lit (Value.int Go.IntKind.u64 1)))) (et69 : t69 = (AV.bin Go.BinOp.eql t17 (AV.lit (Value.int Go.IntKind.u64 2)))) (et70 : t70 = (AV.bin Go.BinOp.mul t9 (AV.lit (Value.float Go.FloatKind.f64 4605249456957292544)))) (et71 : t71 = (AV.bin Go.BinOp.sub x0 t70)) (et72 : t72 = (AV.bin Go.BinOp.mul t9 (AV.lit (Value.float Go.FloatKind.f64 4495793288086814720)))) (et73 : t73 = (AV.bin Go.BinOp.sub t71 t72)) (et74 : t74 = (AV.bin Go.BinOp.mul t9 (AV.lit (Value.float Go.FloatKind.f64 4388835458085048688)))) (et75 : t75 = (AV.bin Go.BinOp.and t6 (AV.lit (Value.int Go.IntKind.u64 7)))) (et76 : t76 = (AV.bin Go.BinOp.gtr t75 (AV.lit (Value.int Go.IntKind.u64 3)))) (et77 : t77 = (AV.bin Go.BinOp.sub t73 t74)) (et78 : t78 = (AV.bin Go.BinOp.sub t75 (AV.lit (Value.int Go.IntKind.u64 4)))) (et79 : t79 = (AV.bin Go.BinOp.eql t78 (AV.lit (Value.int Go.IntKind.u64 1)))) (et80 : t80 = (AV.bin Go.BinOp.mul t77 t77)) (et81 : t81 = (AV.bin Go.BinOp.mul (AV.lit (Value.float Go.FloatKind.f64 4602678819172646912)) t80)) (et82 : t82 = (AV.bin Go.BinOp.mul t25 t80)) (et83 : t83 = (AV.bin Go.BinOp.add t82 t27)) (et84 : t84 = (AV.bin Go.BinOp.mul t83 t80)) (et85 : t85 = (AV.bin Go.BinOp.add t84 t30)) (et86 : t86 = (AV.bin Go.BinOp.mul t85 t80)) (et87 : t87 = (AV.bin Go.BinOp.add t86 t33)) (et88 : t88 = (AV.bin Go.BinOp.mul t87 t80)) (et89 : t89 = (AV.bin Go.BinOp.add t88 t36)) (et90 : t90 = (AV.bin Go.BinOp.mul t89 t80)) (et91 : t91 = (AV.bin Go.BinOp.mul t80 t80)) (et92 : t92 = (AV.bin Go.BinOp.add t90 t39)) (et93 : t93 = (AV.bin Go.BinOp.sub (AV.lit (Value.float Go.FloatKind.f64 4607182418800017408)) t81)) (et94 : t94 = (AV.bin Go.BinOp.mul t91 t92)) (et95 : t95 = (AV.bin Go.BinOp.add t93 t94)) (et96 : t96 = (AV.un Go.UnOp.neg t95)) (et97 : t97 = (AV.bin Go.BinOp.eql t78 (AV.lit (Value.int Go.IntKind.u64 2)))) (et98 : t98 = (AV.bin Go.BinOp.mul t48 t80)) (et99 : t99 = (AV.bin Go.BinOp.add t98 t50)) (et100 : t100 = (AV.bin Go.BinOp.mul t99 t80)) (et101 : t101 = (AV.bin Go.BinOp.add t100 t53)) (et102 : t102 = (AV.bin Go.BinOp.mul t101 t80)) (et103 : t103 = (AV.bin Go.BinOp.add t102 t56)) (et104 : t104 = (AV.bin Go.BinOp.mul t103 t80)) (et105 : t105 = (AV.bin Go.BinOp.add t104 t59)) (et106 : t106 = (AV.bin Go.BinOp.mul t105 t80)) (et107 : t107 = (AV.bin Go.BinOp.mul t77 t80)) (et108 : t108 = (AV.bin Go.BinOp.add t106 t62)) (et109 : t109 = (AV.bin Go.BinOp.mul t107 t108)) (et110 : t110 = (AV.bin Go.BinOp.add t77 t109)) (et111 : t111 = (AV.un Go.UnOp.neg t110)) (et112 : t112 = (AV.bin Go.BinOp.eql t75 (AV.lit (Value.int Go.IntKind.u64 1)))) (et113 : t113 = (AV.bin Go.BinOp.eql t75 (AV.lit (Value.int Go.IntKind.u64 2)))) : fnF Tryd.prog Γ ann 3 69 Tryd.f69 (Tryd.f69.body.getD .skip) ((.both .nil (.f (.f (.f (.f .nil)))))) [x0] (.sc) r = (((AV.binOk Go.BinOp.eql x0 (AV.lit (Value.float Go.FloatKind.f64 0))) ∧
((AV.isBool t1) ∧
(((isT t1) →
  ((AV.isBool t1) ∧
  ((isT t1) ∧
  ((AV.flat x0) ∧
  (fSame x0 r))))) ∧
((isF t1) →
  ((fEnt Tryd.prog 71) ∧
  (fAllV fun _ => ((AV.binOk Go.BinOp.neq x0 x0) ∧
  ((AV.isBool t1) ∧
  ((isF t1) ∧
  ((AV.isBool t2) ∧
  ((isF t2) ∧
  ((fEnt Tryd.prog 72) ∧
  (fAllV fun _ => ((fEnt Tryd.prog 76) ∧
  (fAllV fun _ => (∃ r1473 : AV, ((FnE Tryd.prog 66 [x0] r1473) ∧
  ((AV.binOk Go.BinOp.andNot r1473 (AV.lit (Value.int Go.IntKind.u64 9223372036854775808))) ∧
  (∃ r1601 : AV, ((FnE Tryd.prog 67 [(AV.bin Go.BinOp.andNot r1473 (AV.lit (Value.int Go.IntKind.u64 9223372036854775808)))] r1601) ∧
  ((AV.binOk Go.BinOp.gtr r1601 (AV.lit (Value.float Go.FloatKind.f64 9218868437227405311))) ∧
  ((AV.isBool (AV.bin Go.BinOp.gtr r1601 (AV.lit (Value.float Go.FloatKind.f64 9218868437227405311)))) ∧
  ((isF (AV.bin Go.BinOp.gtr r1601 (AV.lit (Value.float Go.FloatKind.f64 9218868437227405311)))) ∧
  ((AV.binOk Go.BinOp.lss x0 (AV.lit (Value.float Go.FloatKind.f64 0))) ∧
  ((AV.isBool t3) ∧
  ((isF t3) ∧
  ((AV.binOk Go.BinOp.geq x0 (AV.lit (Value.float Go.FloatKind.f64 4737786807993761792))) ∧
  ((AV.isBool t4) ∧
  ((isF t4) ∧
  ((AV.binOk Go.BinOp.mul x0 (AV.lit (Value.float Go.FloatKind.f64 4608412980311869571))) ∧
  ((AV.f2iOk Go.FloatKind.f64 Go.IntKind.u64 t5) ∧
  ((AV.isInt t6) ∧
  ((AV.binOk Go.BinOp.and t6 (AV.lit (Value.int Go.IntKind.u64 1))) ∧
  ((AV.binOk Go.BinOp.eql t7 (AV.lit (Value.int Go.IntKind.u64 1))) ∧
  ((AV.isBool t8) ∧
  (((isT t8) →
    ((AV.binOk Go.BinOp.add t6 (AV.lit (Value.int Go.IntKind.u64 1))) ∧
    ((AV.binOk Go.BinOp.add t9 (AV.lit (Value.float Go.FloatKind.f64 4607182418800017408))) ∧
    ((AV.binOk Go.BinOp.and t10 (AV.lit (Value.int Go.IntKind.u64 7))) ∧
    ((AV.binOk Go.BinOp.mul t11 (AV.lit (Value.float Go.FloatKind.f64 4605249456957292544))) ∧
    ((AV.binOk Go.BinOp.sub x0 t12) ∧
    ((AV.binOk Go.BinOp.mul t11 (AV.lit (Value.float Go.FloatKind.f64 4495793288086814720))) ∧
    ((AV.binOk Go.BinOp.sub t13 t14) ∧
    ((AV.binOk Go.BinOp.mul t11 (AV.lit (Value.float Go.FloatKind.f64 4388835458085048688))) ∧
    ((AV.binOk Go.BinOp.sub t15 t16) ∧
    ((AV.binOk Go.BinOp.gtr t17 (AV.lit (Value.int Go.IntKind.u64 3))) ∧
    ((AV.isBool t18) ∧
    (((isT t18) →
      ((AV.binOk Go.BinOp.sub t17 (AV.lit (Value.int Go.IntKind.u64 4))) ∧
      ((AV.binOk Go.BinOp.mul t19 t19) ∧
      ((AV.binOk Go.BinOp.eql t20 (AV.lit (Value.int Go.IntKind.u64 1))) ∧
      ((AV.isBool t21) ∧
      (((isT t21) →
        ((AV.isBool t21) ∧
        ((isT t21) ∧
        ((AV.binOk Go.BinOp.mul (AV.lit (Value.float Go.FloatKind.f64 4602678819172646912)) t22) ∧
        ((AV.binOk Go.BinOp.sub (AV.lit (Value.float Go.FloatKind.f64 4607182418800017408)) t23) ∧
        ((AV.binOk Go.BinOp.mul t22 t22) ∧
        ((AV.inl 6 (AV.int 0)) ∧
        ((AV.isRef t24 6) ∧
        ((AV.refOk t24 6 0 [((AV.int 0), 1)]) ∧
        ((AV.binOk Go.BinOp.mul t25 t22) ∧
        ((AV.inl 6 (AV.int 1)) ∧
        ((AV.isRef t24 6) ∧
        ((AV.refOk t24 6 0 [((AV.int 1), 1)]) ∧
        ((AV.binOk Go.BinOp.add t26 t27) ∧
        ((AV.binOk Go.BinOp.mul t28 t22) ∧
        ((AV.inl 6 (AV.int 2)) ∧
        ((AV.isRef t24 6) ∧
        ((AV.refOk t24 6 0 [((AV.int 2), 1)]) ∧
        ((AV.binOk Go.BinOp.add t29 t30) ∧
        ((AV.binOk Go.BinOp.mul t31 t22) ∧
        ((AV.inl 6 (AV.int 3)) ∧
        ((AV.isRef t24 6) ∧
        ((AV.refOk t24 6 0 [((AV.int 3), 1)]) ∧
        ((AV.binOk Go.BinOp.add t32 t33) ∧
        ((AV.binOk Go.BinOp.mul t34 t22) ∧
        ((AV.inl 6 (AV.int 4)) ∧
        ((AV.isRef t24 6) ∧
        ((AV.refOk t24 6 0 [((AV.int 4), 1)]) ∧
        ((AV.binOk Go.BinOp.add t35 t36) ∧
        ((AV.binOk Go.BinOp.mul t37 t22) ∧
        ((AV.inl 6 (AV.int 5)) ∧
        ((AV.isRef t24 6) ∧
        ((AV.refOk t24 6 0 [((AV.int 5), 1)]) ∧
        ((AV.binOk Go.BinOp.add t38 t39) ∧
        ((AV.binOk Go.BinOp.mul t40 t41) ∧
        ((AV.binOk Go.BinOp.add t42 t43) ∧
        ((AV.unOk Go.UnOp.neg t44) ∧
        ((AV.flat t45) ∧
        (fSame t45 r))))))))))))))))))))))))))))))))))))))) ∧
      ((isF t21) →
        ((AV.binOk Go.BinOp.eql t20 (AV.lit (Value.int Go.IntKind.u64 2))) ∧
        ((AV.isBool t21) ∧
        ((isF t21) ∧
        ((AV.isBool t46) ∧
        (((isT t46) →
          ((AV.binOk Go.BinOp.mul (AV.lit (Value.float Go.FloatKind.f64 4602678819172646912)) t22) ∧
          ((AV.binOk Go.BinOp.sub (AV.lit (Value.float Go.FloatKind.f64 4607182418800017408)) t23) ∧
          ((AV.binOk Go.BinOp.mul t22 t22) ∧
          ((AV.inl 6 (AV.int 0)) ∧
          ((AV.isRef t24 6) ∧
          ((AV.refOk t24 6 0 [((AV.int 0), 1)]) ∧
          ((AV.binOk Go.BinOp.mul t25 t22) ∧
          ((AV.inl 6 (AV.int 1)) ∧
          ((AV.isRef t24 6) ∧
          ((AV.refOk t24 6 0 [((AV.int 1), 1)]) ∧
          ((AV.binOk Go.BinOp.add t26 t27) ∧
          ((AV.binOk Go.BinOp.mul t28 t22) ∧
          ((AV.inl 6 (AV.int 2)) ∧
          ((AV.isRef t24 6) ∧
          ((AV.refOk t24 6 0 [((AV.int 2), 1)]) ∧
          ((AV.binOk Go.BinOp.add t29 t30) ∧
          ((AV.binOk Go.BinOp.mul t31 t22) ∧
          ((AV.inl 6 (AV.int 3)) ∧
          ((AV.isRef t24 6) ∧
          ((AV.refOk t24 6 0 [((AV.int 3), 1)]) ∧
          ((AV.binOk Go.BinOp.add t32 t33) ∧
          ((AV.binOk Go.BinOp.mul t34 t22) ∧
          ((AV.inl 6 (AV.int 4)) ∧
          ((AV.isRef t24 6) ∧
          ((AV.refOk t24 6 0 [((AV.int 4), 1)]) ∧
          ((AV.binOk Go.BinOp.add t35 t36) ∧
          ((AV.binOk Go.BinOp.mul t37 t22) ∧
          ((AV.inl 6 (AV.int 5)) ∧
          ((AV.isRef t24 6) ∧
          ((AV.refOk t24 6 0 [((AV.int 5), 1)]) ∧
          ((AV.binOk Go.BinOp.add t38 t39) ∧
          ((AV.binOk Go.BinOp.mul t40 t41) ∧
          ((AV.binOk Go.BinOp.add t42 t43) ∧
          ((AV.unOk Go.UnOp.neg t44) ∧
          ((AV.flat t45) ∧
          (fSame t45 r))))))))))))))))))))))))))))))))))))) ∧
        ((isF t46) →
          ((AV.binOk Go.BinOp.mul t19 t22) ∧
          ((AV.inl 6 (AV.int 0)) ∧
          ((AV.isRef t47 6) ∧
          ((AV.refOk t47 6 0 [((AV.int 0), 1)]) ∧
          ((AV.binOk Go.BinOp.mul t48 t22) ∧
          ((AV.inl 6 (AV.int 1)) ∧
          ((AV.isRef t47 6) ∧
          ((AV.refOk t47 6 0 [((AV.int 1), 1)]) ∧
          ((AV.binOk Go.BinOp.add t49 t50) ∧
          ((AV.binOk Go.BinOp.mul t51 t22) ∧
          ((AV.inl 6 (AV.int 2)) ∧
          ((AV.isRef t47 6) ∧
          ((AV.refOk t47 6 0 [((AV.int 2), 1)]) ∧
          ((AV.binOk Go.BinOp.add t52 t53) ∧
          ((AV.binOk Go.BinOp.mul t54 t22) ∧
          ((AV.inl 6 (AV.int 3)) ∧
          ((AV.isRef t47 6) ∧
          ((AV.refOk t47 6 0 [((AV.int 3), 1)]) ∧
          ((AV.binOk Go.BinOp.add t55 t56) ∧
          ((AV.binOk Go.BinOp.mul t57 t22) ∧
          ((AV.inl 6 (AV.int 4)) ∧
          ((AV.isRef t47 6) ∧
          ((AV.refOk t47 6 0 [((AV.int 4), 1)]) ∧
          ((AV.binOk Go.BinOp.add t58 t59) ∧
          ((AV.binOk Go.BinOp.mul t60 t22) ∧
          ((AV.inl 6 (AV.int 5)) ∧
          ((AV.isRef t47 6) ∧
          ((AV.refOk t47 6 0 [((AV.int 5), 1)]) ∧
          ((AV.binOk Go.BinOp.add t61 t62) ∧
          ((AV.binOk Go.BinOp.mul t63 t64) ∧
          ((AV.binOk Go.BinOp.add t19 t65) ∧
          ((AV.unOk Go.UnOp.neg t66) ∧
          ((AV.flat t67) ∧
          (fSame t67 r))))))))))))))))))))))))))))))))))))))))))))))) ∧
    ((isF t18) →
      ((AV.binOk Go.BinOp.mul t19 t19) ∧
      ((AV.binOk Go.BinOp.eql t17 (AV.lit (Value.int Go.IntKind.u64 1))) ∧
      ((AV.isBool t68) ∧
      (((isT t68) →
        ((AV.isBool t68) ∧
        ((isT t68) ∧
        ((AV.binOk Go.BinOp.mul (AV.lit (Value.float Go.FloatKind.f64 4602678819172646912)) t22) ∧
        ((AV.binOk Go.BinOp.sub (AV.lit (Value.float Go.FloatKind.f64 4607182418800017408)) t23) ∧
        ((AV.binOk Go.BinOp.mul t22 t22) ∧
        ((AV.inl 6 (AV.int 0)) ∧
        ((AV.isRef t24 6) ∧
        ((AV.refOk t24 6 0 [((AV.int 0), 1)]) ∧
        ((AV.binOk Go.BinOp.mul t25 t22) ∧
        ((AV.inl 6 (AV.int 1)) ∧
        ((AV.isRef t24 6) ∧
        ((AV.refOk t24 6 0 [((AV.int 1), 1)]) ∧
        ((AV.binOk Go.BinOp.add t26 t27) ∧
        ((AV.binOk Go.BinOp.mul t28 t22) ∧
        ((AV.inl 6 (AV.int 2)) ∧
        ((AV.isRef t24 6) ∧
        ((AV.refOk t24 6 0 [((AV.int 2), 1)]) ∧
        ((AV.binOk Go.BinOp.add t29 t30) ∧
        ((AV.binOk Go.BinOp.mul t31 t22) ∧
        ((AV.inl 6 (AV.int 3)) ∧
        ((AV.isRef t24 6) ∧
        ((AV.refOk t24 6 0 [((AV.int 3), 1)]) ∧
        ((AV.binOk Go.BinOp.add t32 t33) ∧
        ((AV.binOk Go.BinOp.mul t34 t22) ∧
        ((AV.inl 6 (AV.int 4)) ∧
        ((AV.isRef t24 6) ∧
        ((AV.refOk t24 6 0 [((AV.int 4), 1)]) ∧
        ((AV.binOk Go.BinOp.add t35 t36) ∧
        ((AV.binOk Go.BinOp.mul t37 t22) ∧
        ((AV.inl 6 (AV.int 5)) ∧
        ((AV.isRef t24 6) ∧
        ((AV.refOk t24 6 0 [((AV.int 5), 1)]) ∧
        ((AV.binOk Go.BinOp.add t38 t39) ∧
        ((AV.binOk Go.BinOp.mul t40 t41) ∧
        ((AV.binOk Go.BinOp.add t42 t43) ∧
        ((AV.flat t44) ∧
        (fSame t44 r)))))))))))))))))))))))))))))))))))))) ∧
      ((isF t68) →
        ((AV.binOk Go.BinOp.eql t17 (AV.lit (Value.int Go.IntKind.u64 2))) ∧
        ((AV.isBool t68) ∧
        ((isF t68) ∧
        ((AV.isBool t69) ∧
        (((isT t69) →
          ((AV.binOk Go.BinOp.mul (AV.lit (Value.float Go.FloatKind.f64 4602678819172646912)) t22) ∧
          ((AV.binOk Go.BinOp.sub (AV.lit (Value.float Go.FloatKind.f64 4607182418800017408)) t23) ∧
          ((AV.binOk Go.BinOp.mul t22 t22) ∧
          ((AV.inl 6 (AV.int 0)) ∧
          ((AV.isRef t24 6) ∧
          ((AV.refOk t24 6 0 [((AV.int 0), 1)]) ∧
          ((AV.binOk Go.BinOp.mul t25 t22) ∧
          ((AV.inl 6 (AV.int 1)) ∧
          ((AV.isRef t24 6) ∧
          ((AV.refOk t24 6 0 [((AV.int 1), 1)]) ∧
          ((AV.binOk Go.BinOp.add t26 t27) ∧
          ((AV.binOk Go.BinOp.mul t28 t22) ∧
          ((AV.inl 6 (AV.int 2)) ∧
          ((AV.isRef t24 6) ∧
          ((AV.refOk t24 6 0 [((AV.int 2), 1)]) ∧
          ((AV.binOk Go.BinOp.add t29 t30) ∧
          ((AV.binOk Go.BinOp.mul t31 t22) ∧
          ((AV.inl 6 (AV.int 3)) ∧
          ((AV.isRef t24 6) ∧
          ((AV.refOk t24 6 0 [((AV.int 3), 1)]) ∧
          ((AV.binOk Go.BinOp.add t32 t33) ∧
          ((AV.binOk Go.BinOp.mul t34 t22) ∧
          ((AV.inl 6 (AV.int 4)) ∧
          ((AV.isRef t24 6) ∧
          ((AV.refOk t24 6 0 [((AV.int 4), 1)]) ∧
          ((AV.binOk Go.BinOp.add t35 t36) ∧
          ((AV.binOk Go.BinOp.mul t37 t22) ∧
          ((AV.inl 6 (AV.int 5)) ∧
          ((AV.isRef t24 6) ∧
          ((AV.refOk t24 6 0 [((AV.int 5), 1)]) ∧
          ((AV.binOk Go.BinOp.add t38 t39) ∧
          ((AV.binOk Go.BinOp.mul t40 t41) ∧
          ((AV.binOk Go.BinOp.add t42 t43) ∧
          ((AV.flat t44) ∧
          (fSame t44 r)))))))))))))))))))))))))))))))))))) ∧
        ((isF t69) →
          ((AV.binOk Go.BinOp.mul t19 t22) ∧
          ((AV.inl 6 (AV.int 0)) ∧
          ((AV.isRef t47 6) ∧
          ((AV.refOk t47 6 0 [((AV.int 0), 1)]) ∧
          ((AV.binOk Go.BinOp.mul t48 t22) ∧
          ((AV.inl 6 (AV.int 1)) ∧
          ((AV.isRef t47 6) ∧
          ((AV.refOk t47 6 0 [((AV.int 1), 1)]) ∧
          ((AV.binOk Go.BinOp.add t49 t50) ∧
          ((AV.binOk Go.BinOp.mul t51 t22) ∧
          ((AV.inl 6 (AV.int 2)) ∧
          ((AV.isRef t47 6) ∧
          ((AV.refOk t47 6 0 [((AV.int 2), 1)]) ∧
          ((AV.binOk Go.BinOp.add t52 t53) ∧
          ((AV.binOk Go.BinOp.mul t54 t22) ∧
          ((AV.inl 6 (AV.int 3)) ∧
          ((AV.isRef t47 6) ∧
          ((AV.refOk t47 6 0 [((AV.int 3), 1)]) ∧
          ((AV.binOk Go.BinOp.add t55 t56) ∧
          ((AV.binOk Go.BinOp.mul t57 t22) ∧
          ((AV.inl 6 (AV.int 4)) ∧
          ((AV.isRef t47 6) ∧
          ((AV.refOk t47 6 0 [((AV.int 4), 1)]) ∧
          ((AV.binOk Go.BinOp.add t58 t59) ∧
          ((AV.binOk Go.BinOp.mul t60 t22) ∧
          ((AV.inl 6 (AV.int 5)) ∧
          ((AV.isRef t47 6) ∧
          ((AV.refOk t47 6 0 [((AV.int 5), 1)]) ∧
          ((AV.binOk Go.BinOp.add t61 t62) ∧
          ((AV.binOk Go.BinOp.mul t63 t64) ∧
          ((AV.binOk Go.BinOp.add t19 t65) ∧
          ((AV.flat t66) ∧
          (fSame t66 r)))))))))))))))))))))))))))))))))))))))))))))))))))))))))) ∧
  ((isF t8) →
    ((AV.binOk Go.BinOp.and t6 (AV.lit (Value.int Go.IntKind.u64 7))) ∧
    ((AV.binOk Go.BinOp.mul t9 (AV.lit (Value.float Go.FloatKind.f64 4605249456957292544))) ∧
    ((AV.binOk Go.BinOp.sub x0 t70) ∧
    ((AV.binOk Go.BinOp.mul t9 (AV.lit (Value.float Go.FloatKind.f64 4495793288086814720))) ∧
    ((AV.binOk Go.BinOp.sub t71 t72) ∧
    ((AV.binOk Go.BinOp.mul t9 (AV.lit (Value.float Go.FloatKind.f64 4388835458085048688))) ∧
    ((AV.binOk Go.BinOp.sub t73 t74) ∧
    ((AV.binOk Go.BinOp.gtr t75 (AV.lit (Value.int Go.IntKind.u64 3))) ∧
    ((AV.isBool t76) ∧
    (((isT t76) →
      ((AV.binOk Go.BinOp.sub t75 (AV.lit (Value.int Go.IntKind.u64 4))) ∧
      ((AV.binOk Go.BinOp.mul t77 t77) ∧
      ((AV.binOk Go.BinOp.eql t78 (AV.lit (Value.int Go.IntKind.u64 1))) ∧
      ((AV.isBool t79) ∧
      (((isT t79) →
        ((AV.isBool t79) ∧
        ((isT t79) ∧
        ((AV.binOk Go.BinOp.mul (AV.lit (Value.float Go.FloatKind.f64 4602678819172646912)) t80) ∧
        ((AV.binOk Go.BinOp.sub (AV.lit (Value.float Go.FloatKind.f64 4607182418800017408)) t81) ∧
        ((AV.binOk Go.BinOp.mul t80 t80) ∧
        ((AV.inl 6 (AV.int 0)) ∧
        ((AV.isRef t24 6) ∧
        ((AV.refOk t24 6 0 [((AV.int 0), 1)]) ∧
        ((AV.binOk Go.BinOp.mul t25 t80) ∧
        ((AV.inl 6 (AV.int 1)) ∧
        ((AV.isRef t24 6) ∧
        ((AV.refOk t24 6 0 [((AV.int 1), 1)]) ∧
        ((AV.binOk Go.BinOp.add t82 t27) ∧
        ((AV.binOk Go.BinOp.mul t83 t80) ∧
        ((AV.inl 6 (AV.int 2)) ∧
        ((AV.isRef t24 6) ∧
        ((AV.refOk t24 6 0 [((AV.int 2), 1)]) ∧
        ((AV.binOk Go.BinOp.add t84 t30) ∧
        ((AV.binOk Go.BinOp.mul t85 t80) ∧
        ((AV.inl 6 (AV.int 3)) ∧
        ((AV.isRef t24 6) ∧
        ((AV.refOk t24 6 0 [((AV.int 3), 1)]) ∧
        ((AV.binOk Go.BinOp.add t86 t33) ∧
        ((AV.binOk Go.BinOp.mul t87 t80) ∧
        ((AV.inl 6 (AV.int 4)) ∧
        ((AV.isRef t24 6) ∧
        ((AV.refOk t24 6 0 [((AV.int 4), 1)]) ∧
        ((AV.binOk Go.BinOp.add t88 t36) ∧
        ((AV.binOk Go.BinOp.mul t89 t80) ∧
        ((AV.inl 6 (AV.int 5)) ∧
        ((AV.isRef t24 6) ∧
        ((AV.refOk t24 6 0 [((AV.int 5), 1)]) ∧
        ((AV.binOk Go.BinOp.add t90 t39) ∧
        ((AV.binOk Go.BinOp.mul t91 t92) ∧
        ((AV.binOk Go.BinOp.add t93 t94) ∧
        ((AV.unOk Go.UnOp.neg t95) ∧
        ((AV.flat t96) ∧
        (fSame t96 r))))))))))))))))))))))))))))))))))))))) ∧
      ((isF t79) →
        ((AV.binOk Go.BinOp.eql t78 (AV.lit (Value.int Go.IntKind.u64 2))) ∧
        ((AV.isBool t79) ∧
        ((isF t79) ∧
        ((AV.isBool t97) ∧
        (((isT t97) →
          ((AV.binOk Go.BinOp.mul (AV.lit (Value.float Go.FloatKind.f64 4602678819172646912)) t80) ∧
          ((AV.binOk Go.BinOp.sub (AV.lit (Value.float Go.FloatKind.f64 4607182418800017408)) t81) ∧
          ((AV.binOk Go.BinOp.mul t80 t80) ∧
          ((AV.inl 6 (AV.int 0)) ∧
          ((AV.isRef t24 6) ∧
          ((AV.refOk t24 6 0 [((AV.int 0), 1)]) ∧
          ((AV.binOk Go.BinOp.mul t25 t80) ∧
          ((AV.inl 6 (AV.int 1)) ∧
          ((AV.isRef t24 6) ∧
          ((AV.refOk t24 6 0 [((AV.int 1), 1)]) ∧
          ((AV.binOk Go.BinOp.add t82 t27) ∧
          ((AV.binOk Go.BinOp.mul t83 t80) ∧
          ((AV.inl 6 (AV.int 2)) ∧
          ((AV.isRef t24 6) ∧
          ((AV.refOk t24 6 0 [((AV.int 2), 1)]) ∧
          ((AV.binOk Go.BinOp.add t84 t30) ∧
          ((AV.binOk Go.BinOp.mul t85 t80) ∧
          ((AV.inl 6 (AV.int 3)) ∧
          ((AV.isRef t24 6) ∧
          ((AV.refOk t24 6 0 [((AV.int 3), 1)]) ∧
          ((AV.binOk Go.BinOp.add t86 t33) ∧
          ((AV.binOk Go.BinOp.mul t87 t80) ∧
          ((AV.inl 6 (AV.int 4)) ∧
          ((AV.isRef t24 6) ∧
          ((AV.refOk t24 6 0 [((AV.int 4), 1)]) ∧
          ((AV.binOk Go.BinOp.add t88 t36) ∧
          ((AV.binOk Go.BinOp.mul t89 t80) ∧
          ((AV.inl 6 (AV.int 5)) ∧
          ((AV.isRef t24 6) ∧
          ((AV.refOk t24 6 0 [((AV.int 5), 1)]) ∧
          ((AV.binOk Go.BinOp.add t90 t39) ∧
          ((AV.binOk Go.BinOp.mul t91 t92) ∧
          ((AV.binOk Go.BinOp.add t93 t94) ∧
          ((AV.unOk Go.UnOp.neg t95) ∧
          ((AV.flat t96) ∧
          (fSame t96 r))))))))))))))))))))))))))))))))))))) ∧
        ((isF t97) →
          ((AV.binOk Go.BinOp.mul t77 t80) ∧
          ((AV.inl 6 (AV.int 0)) ∧
          ((AV.isRef t47 6) ∧
          ((AV.refOk t47 6 0 [((AV.int 0), 1)]) ∧
          ((AV.binOk Go.BinOp.mul t48 t80) ∧
          ((AV.inl 6 (AV.int 1)) ∧
          ((AV.isRef t47 6) ∧
          ((AV.refOk t47 6 0 [((AV.int 1), 1)]) ∧
          ((AV.binOk Go.BinOp.add t98 t50) ∧
          ((AV.binOk Go.BinOp.mul t99 t80) ∧
          ((AV.inl 6 (AV.int 2)) ∧
          ((AV.isRef t47 6) ∧
          ((AV.refOk t47 6 0 [((AV.int 2), 1)]) ∧
          ((AV.binOk Go.BinOp.add t100 t53) ∧
          ((AV.binOk Go.BinOp.mul t101 t80) ∧
          ((AV.inl 6 (AV.int 3)) ∧
          ((AV.isRef t47 6) ∧
          ((AV.refOk t47 6 0 [((AV.int 3), 1)]) ∧
          ((AV.binOk Go.BinOp.add t102 t56) ∧
          ((AV.binOk Go.BinOp.mul t103 t80) ∧
          ((AV.inl 6 (AV.int 4)) ∧
          ((AV.isRef t47 6) ∧
          ((AV.refOk t47 6 0 [((AV.int 4), 1)]) ∧
          ((AV.binOk Go.BinOp.add t104 t59) ∧
          ((AV.binOk Go.BinOp.mul t105 t80) ∧
          ((AV.inl 6 (AV.int 5)) ∧
          ((AV.isRef t47 6) ∧
          ((AV.refOk t47 6 0 [((AV.int 5), 1)]) ∧
          ((AV.binOk Go.BinOp.add t106 t62) ∧
          ((AV.binOk Go.BinOp.mul t107 t108) ∧
          ((AV.binOk Go.BinOp.add t77 t109) ∧
          ((AV.unOk Go.UnOp.neg t110) ∧
          ((AV.flat t111) ∧
          (fSame t111 r))))))))))))))))))))))))))))))))))))))))))))))) ∧
    ((isF t76) →
      ((AV.binOk Go.BinOp.mul t77 t77) ∧
      ((AV.binOk Go.BinOp.eql t75 (AV.lit (Value.int Go.IntKind.u64 1))) ∧
      ((AV.isBool t112) ∧
      (((isT t112) →
        ((AV.isBool t112) ∧
        ((isT t112) ∧
        ((AV.binOk Go.BinOp.mul (AV.lit (Value.float Go.FloatKind.f64 4602678819172646912)) t80) ∧
        ((AV.binOk Go.BinOp.sub (AV.lit (Value.float Go.FloatKind.f64 4607182418800017408)) t81) ∧
        ((AV.binOk Go.BinOp.mul t80 t80) ∧
        ((AV.inl 6 (AV.int 0)) ∧
        ((AV.isRef t24 6) ∧
        ((AV.refOk t24 6 0 [((AV.int 0), 1)]) ∧
        ((AV.binOk Go.BinOp.mul t25 t80) ∧
        ((AV.inl 6 (AV.int 1)) ∧
        ((AV.isRef t24 6) ∧
        ((AV.refOk t24 6 0 [((AV.int 1), 1)]) ∧
        ((AV.binOk Go.BinOp.add t82 t27) ∧
        ((AV.binOk Go.BinOp.mul t83 t80) ∧
        ((AV.inl 6 (AV.int 2)) ∧
        ((AV.isRef t24 6) ∧
        ((AV.refOk t24 6 0 [((AV.int 2), 1)]) ∧
        ((AV.binOk Go.BinOp.add t84 t30) ∧
        ((AV.binOk Go.BinOp.mul t85 t80) ∧
        ((AV.inl 6 (AV.int 3)) ∧
        ((AV.isRef t24 6) ∧
        ((AV.refOk t24 6 0 [((AV.int 3), 1)]) ∧
        ((AV.binOk Go.BinOp.add t86 t33) ∧
        ((AV.binOk Go.BinOp.mul t87 t80) ∧
        ((AV.inl 6 (AV.int 4)) ∧
        ((AV.isRef t24 6) ∧
        ((AV.refOk t24 6 0 [((AV.int 4), 1)]) ∧
        ((AV.binOk Go.BinOp.add t88 t36) ∧
        ((AV.binOk Go.BinOp.mul t89 t80) ∧
        ((AV.inl 6 (AV.int 5)) ∧
        ((AV.isRef t24 6) ∧
        ((AV.refOk t24 6 0 [((AV.int 5), 1)]) ∧
        ((AV.binOk Go.BinOp.add t90 t39) ∧
        ((AV.binOk Go.BinOp.mul t91 t92) ∧
        ((AV.binOk Go.BinOp.add t93 t94) ∧
        ((AV.flat t95) ∧
        (fSame t95 r)))))))))))))))))))))))))))))))))))))) ∧
      ((isF t112) →
        ((AV.binOk Go.BinOp.eql t75 (AV.lit (Value.int Go.IntKind.u64 2))) ∧
        ((AV.isBool t112) ∧
        ((isF t112) ∧
        ((AV.isBool t113) ∧
        (((isT t113) →
          ((AV.binOk Go.BinOp.mul (AV.lit (Value.float Go.FloatKind.f64 4602678819172646912)) t80) ∧
          ((AV.binOk Go.BinOp.sub (AV.lit (Value.float Go.FloatKind.f64 4607182418800017408)) t81) ∧
          ((AV.binOk Go.BinOp.mul t80 t80) ∧
          ((AV.inl 6 (AV.int 0)) ∧
          ((AV.isRef t24 6) ∧
          ((AV.refOk t24 6 0 [((AV.int 0), 1)]) ∧
          ((AV.binOk Go.BinOp.mul t25 t80) ∧
          ((AV.inl 6 (AV.int 1)) ∧
          ((AV.isRef t24 6) ∧
          ((AV.refOk t24 6 0 [((AV.int 1), 1)]) ∧
          ((AV.binOk Go.BinOp.add t82 t27) ∧
          ((AV.binOk Go.BinOp.mul t83 t80) ∧
          ((AV.inl 6 (AV.int 2)) ∧
          ((AV.isRef t24 6) ∧
          ((AV.refOk t24 6 0 [((AV.int 2), 1)]) ∧
          ((AV.binOk Go.BinOp.add t84 t30) ∧
          ((AV.binOk Go.BinOp.mul t85 t80) ∧
          ((AV.inl 6 (AV.int 3)) ∧
          ((AV.isRef t24 6) ∧
          ((AV.refOk t24 6 0 [((AV.int 3), 1)]) ∧
          ((AV.binOk Go.BinOp.add t86 t33) ∧
          ((AV.binOk Go.BinOp.mul t87 t80) ∧
          ((AV.inl 6 (AV.int 4)) ∧
          ((AV.isRef t24 6) ∧
          ((AV.refOk t24 6 0 [((AV.int 4), 1)]) ∧
          ((AV.binOk Go.BinOp.add t88 t36) ∧
          ((AV.binOk Go.BinOp.mul t89 t80) ∧
          ((AV.inl 6 (AV.int 5)) ∧
          ((AV.isRef t24 6) ∧
          ((AV.refOk t24 6 0 [((AV.int 5), 1)]) ∧
          ((AV.binOk Go.BinOp.add t90 t39) ∧
          ((AV.binOk Go.BinOp.mul t91 t92) ∧
          ((AV.binOk Go.BinOp.add t93 t94) ∧
          ((AV.flat t95) ∧
          (fSame t95 r)))))))))))))))))))))))))))))))))))) ∧
        ((isF t113) →
          ((AV.binOk Go.BinOp.mul t77 t80) ∧
          ((AV.inl 6 (AV.int 0)) ∧
          ((AV.isRef t47 6) ∧
          ((AV.refOk t47 6 0 [((AV.int 0), 1)]) ∧
          ((AV.binOk Go.BinOp.mul t48 t80) ∧
          ((AV.inl 6 (AV.int 1)) ∧
          ((AV.isRef t47 6) ∧
          ((AV.refOk t47 6 0 [((AV.int 1), 1)]) ∧
          ((AV.binOk Go.BinOp.add t98 t50) ∧
          ((AV.binOk Go.BinOp.mul t99 t80) ∧
          ((AV.inl 6 (AV.int 2)) ∧
          ((AV.isRef t47 6) ∧
          ((AV.refOk t47 6 0 [((AV.int 2), 1)]) ∧
          ((AV.binOk Go.BinOp.add t100 t53) ∧
          ((AV.binOk Go.BinOp.mul t101 t80) ∧
          ((AV.inl 6 (AV.int 3)) ∧
          ((AV.isRef t47 6) ∧
          ((AV.refOk t47 6 0 [((AV.int 3), 1)]) ∧
          ((AV.binOk Go.BinOp.add t102 t56) ∧
          ((AV.binOk Go.BinOp.mul t103 t80) ∧
          ((AV.inl 6 (AV.int 4)) ∧
          ((AV.isRef t47 6) ∧
          ((AV.refOk t47 6 0 [((AV.int 4), 1)]) ∧
          ((AV.binOk Go.BinOp.add t104 t59) ∧
          ((AV.binOk Go.BinOp.mul t105 t80) ∧
          ((AV.inl 6 (AV.int 5)) ∧
          ((AV.isRef t47 6) ∧
          ((AV.refOk t47 6 0 [((AV.int 5), 1)]) ∧
          ((AV.binOk Go.BinOp.add t106 t62) ∧
          ((AV.binOk Go.BinOp.mul t107 t108) ∧
          ((AV.binOk Go.BinOp.add t77 t109) ∧
          ((AV.flat t110) ∧
          (fSame t110 r))))))))))))))))))))))))))))))))))))))))))))))))))))))))))))))))))))))))))))))))))))))))))))) := by
  subst et113 et112 et111 et110 et109 et108 et107 et106 et105 et104 et103 et102 et101 et100 et99 et98 et97 et96 et95 et94 et93 et92 et91 et90 et89 et88 et87 et86 et85 et84 et83 et82 et81 et80 et79 et78 et77 et76 et75 et74 et73 et72 et71 et70 et69 et68 et67 et66 et65 et64 et63 et62 et61 et60 et59 et58 et57 et56 et55 et54 et53 et52 et51 et50 et49 et48 et47 et46 et45 et44 et43 et42 et41 et40 et39 et38 et37 et36 et35 et34 et33 et32 et31 et30 et29 et28 et27 et26 et25 et24 et23 et22 et21 et20 et19 et18 et17 et16 et15 et14 et13 et12 et11 et10 et9 et8 et7 et6 et5 et4 et3 et2 et1
  kernel_rfl
theorem sin_form (x0 r : AV) : fnF Tryd.prog Γ ann 3 42 Tryd.f42 (Tryd.f42.body.getD .skip) (.nil) [x0] (.sc) r = ((∃ r129 : AV, ((Fn Tryd.prog 62 [x0] Sh.sc r129) ∧
((AV.isInt r129) ∧
((AV.binOk Go.BinOp.mul (AV.i2f Go.FloatKind.f64 r129) (AV.lit (Value.float Go.FloatKind.f64 4614256656552045848))) ∧
((AV.binOk Go.BinOp.quo (AV.bin Go.BinOp.mul (AV.i2f Go.FloatKind.f64 r129) (AV.lit (Value.float Go.FloatKind.f64 4614256656552045848))) (AV.lit (Value.float Go.FloatKind.f64 4656722014701092864))) ∧
((fEnt Tryd.prog 61) ∧
(fAllV fun _ => (∃ r577 : AV, ((Fn Tryd.prog 69 [(AV.bin Go.BinOp.quo (AV.bin Go.BinOp.mul (AV.i2f Go.FloatKind.f64 r129) (AV.lit (Value.float Go.FloatKind.f64 4614256656552045848))) (AV.lit (Value.float Go.FloatKind.f64 4656722014701092864)))] Sh.sc r577) ∧
((AV.binOk Go.BinOp.mul (AV.lit (Value.float Go.FloatKind.f64 4670232813583204352)) r577) ∧
(∃ r833 : AV, ((Fn Tryd.prog 60 [(AV.bin Go.BinOp.mul (AV.lit (Value.float Go.FloatKind.f64 4670232813583204352)) r577)] Sh.sc r833) ∧
((AV.f2iOk Go.FloatKind.f64 Go.IntKind.i64 r833) ∧
((AV.flat (AV.f2i Go.FloatKind.f64 Go.IntKind.i64 r833)) ∧
(fSame (AV.f2i Go.FloatKind.f64 Go.IntKind.i64 r833) r)))))))))))))))) := by kernel_rfl
theorem cos_form (x0 r : AV) : fnF Tryd.prog Γ ann 3 43 Tryd.f43 (Tryd.f43.body.getD .skip) (.nil) [x0] (.sc) r = ((∃ r129 : AV, ((Fn Tryd.prog 62 [x0] Sh.sc r129) ∧
((AV.binOk Go.BinOp.add r129 (AV.int 1024)) ∧
(∃ r257 : AV, ((Fn Tryd.prog 42 [(AV.bin Go.BinOp.add r129 (AV.int 1024))] Sh.sc r257) ∧
((AV.flat r257) ∧
(fSame r257 r)))))))) := by kernel_rfl
theorem near_form (x0 x1 r : AV) : fnF Tryd.prog Γ ann 3 41 Tryd.f41 (Tryd.f41.body.getD .skip) (.nil) [x0, x1] (.sc) r = (((AV.binOk Go.BinOp.lss x0 (AV.int 0)) ∧
((AV.isBool (AV.bin Go.BinOp.lss x0 (AV.int 0))) ∧
(((isT (AV.bin Go.BinOp.lss x0 (AV.int 0))) →
  ((AV.unOk Go.UnOp.neg x0) ∧
  (∃ r385 : AV, ((Fn Tryd.prog 41 [(AV.un Go.UnOp.neg x0), x1] Sh.sc r385) ∧
  ((AV.unOk Go.UnOp.neg r385) ∧
  ((AV.flat (AV.un Go.UnOp.neg r385)) ∧
  (fSame (AV.un Go.UnOp.neg r385) r))))))) ∧
((isF (AV.bin Go.BinOp.lss x0 (AV.int 0))) →
  ((AV.binOk Go.BinOp.quo x1 (AV.int 2)) ∧
  ((AV.binOk Go.BinOp.add x0 (AV.bin Go.BinOp.quo x1 (AV.int 2))) ∧
  ((AV.binOk Go.BinOp.quo (AV.bin Go.BinOp.add x0 (AV.bin Go.BinOp.quo x1 (AV.int 2))) x1) ∧
  ((AV.flat (AV.bin Go.BinOp.quo (AV.bin Go.BinOp.add x0 (AV.bin Go.BinOp.quo x1 (AV.int 2))) x1)) ∧
  (fSame (AV.bin Go.BinOp.quo (AV.bin Go.BinOp.add x0 (AV.bin Go.BinOp.quo x1 (AV.int 2))) x1) r)))))))))) := by kernel_rfl
theorem vec_form (x0 x1 r : AV) : fnF Tryd.prog Γ ann 3 27 Tryd.f27 (Tryd.f27.body.getD .skip) (.nil) [x0, x1] (.tup [.agg [.sc, .sc], .sc]) r = (((AV.binOk Go.BinOp.lss x1 (AV.int 0)) ∧
((AV.isBool (AV.bin Go.BinOp.lss x1 (AV.int 0))) ∧
(((isT (AV.bin Go.BinOp.lss x1 (AV.int 0))) →
  ((AV.isBool (AV.bin Go.BinOp.lss x1 (AV.int 0))) ∧
  ((isT (AV.bin Go.BinOp.lss x1 (AV.int 0))) ∧
  ((AV.flat (AV.int 0)) ∧
  ((AV.flat (AV.int 0)) ∧
  ((AV.flat (AV.int 4)) ∧
  (fSame (AV.tup [(AV.agg [(AV.int 0), (AV.int 0)]), (AV.int 4)]) r))))))) ∧
((isF (AV.bin Go.BinOp.lss x1 (AV.int 0))) →
  ((AV.binOk Go.BinOp.gtr x1 (AV.int 2000000)) ∧
  ((AV.isBool (AV.bin Go.BinOp.lss x1 (AV.int 0))) ∧
  ((isF (AV.bin Go.BinOp.lss x1 (AV.int 0))) ∧
  ((AV.isBool (AV.bin Go.BinOp.gtr x1 (AV.int 2000000))) ∧
  (((isT (AV.bin Go.BinOp.gtr x1 (AV.int 2000000))) →
    ((AV.flat (AV.int 0)) ∧
    ((AV.flat (AV.int 0)) ∧
    ((AV.flat (AV.int 4)) ∧
    (fSame (AV.tup [(AV.agg [(AV.int 0), (AV.int 0)]), (AV.int 4)]) r))))) ∧
  ((isF (AV.bin Go.BinOp.gtr x1 (AV.int 2000000))) →
    (∃ r641 : AV, ((Fn Tryd.prog 42 [x0] Sh.sc r641) ∧
    ((AV.binOk Go.BinOp.mul x1 r641) ∧
    (∃ r769 : AV, ((Fn Tryd.prog 41 [(AV.bin Go.BinOp.mul x1 r641), (AV.int 16384)] Sh.sc r769) ∧
    (∃ r961 : AV, ((Fn Tryd.prog 43 [x0] Sh.sc r961) ∧
    ((AV.binOk Go.BinOp.mul x1 r961) ∧
    (∃ r1089 : AV, ((Fn Tryd.prog 41 [(AV.bin Go.BinOp.mul x1 r961), (AV.int 16384)] Sh.sc r1089) ∧
    ((AV.isOne r769) ∧
    ((AV.isOne r1089) ∧
    ((AV.flat r769) ∧
    ((AV.flat r1089) ∧
    ((AV.flat (AV.int 0)) ∧
    (fSame (AV.tup [(AV.agg [r769, r1089]), (AV.int 0)]) r))))))))))))))))))))))))))) := by kernel_rfl
end AngF
end Go.Proofs.YtdlakpomcafemaaDoor
/- Floats reckoned in plain numbers, so that the kernel is quick; the sine. -/
namespace Go.Proofs.YtdlakpomcafemaaDoor.Flo
open Go
set_option linter.unusedVariables false
/-- k of n's worth (the kernel reckons n first). -/
def frc {α : Type} (n : Nat) (k : Nat → α) : α := match n with | 0 => k 0 | m + 1 => k (m + 1)
theorem frc_eq {α : Type} (n : Nat) (k : Nat → α) : frc n k = k n := by cases n <;> rfl
def finN (x : Nat) : Bool := decide (x % 9223372036854775808 < 9218868437227405312)
def magN (x : Nat) : Nat := frc (x % 9223372036854775808) fun r => if r < 4503599627370496 then r else 4503599627370496 + r % 4503599627370496
def expN (x : Nat) : Nat := x % 9223372036854775808 / 4503599627370496 - 1
def negN (x : Nat) : Bool := x / 9223372036854775808 % 2 == 1
theorem read_fin {x : Nat} (h : finN x = true) : Ieee.double.read x = .number (negN x) (magN x) ((expN x : Nat) - 1074) := by
  have h' : x % 9223372036854775808 < 9218868437227405312 := by simpa [finN] using h
  have e1 : Ieee.double.signWeight = 9223372036854775808 := by decide
  have e2 : Ieee.double.binade = 4503599627370496 := by decide
  have e3 : Ieee.double.infRung = 9218868437227405312 := by decide
  have e4 : Ieee.double.leastPlace = -1074 := by decide
  unfold Ieee.Format.read
  rw [e1, e2, e3, e4]
  simp only [magN, frc_eq, expN, negN]
  generalize x % 9223372036854775808 = r at *
  by_cases h1 : r < 4503599627370496
  · have : r / 4503599627370496 = 0 := Nat.div_eq_of_lt h1
    simp [h1, this]
  · simp only [h1, h', if_false, if_true]
    congr 1
/-- log2, by halves. -/
def lgB : Nat → Nat → Nat
  | 0, _ => 0
  | k + 1, n => frc (2 ^ 2 ^ k) fun p => if p ≤ n then frc (n / p) fun q => 2 ^ k + lgB k q else lgB k n
theorem lgB_spec (k n : Nat) (h0 : n ≠ 0) (h : n < 2 ^ 2 ^ k) : 2 ^ lgB k n ≤ n ∧ n < 2 ^ (lgB k n + 1) := by
  induction k generalizing n with
  | zero => simp only [lgB]; have : n < 2 := by simpa using h
            omega
  | succ k ih =>
    simp only [lgB, frc_eq]
    have e : (2 : Nat) ^ 2 ^ (k + 1) = 2 ^ 2 ^ k * 2 ^ 2 ^ k := by rw [← Nat.pow_add]; congr 1; rw [Nat.pow_succ]; omega
    rw [e] at h
    have hp : 0 < (2 : Nat) ^ 2 ^ k := Nat.two_pow_pos _
    by_cases h1 : 2 ^ 2 ^ k ≤ n
    · rw [if_pos h1]
      obtain ⟨a, b⟩ := ih (n / 2 ^ 2 ^ k) (by have := Nat.div_pos h1 hp; omega) (Nat.div_lt_of_lt_mul h)
      refine ⟨?_, ?_⟩
      · rw [Nat.pow_add, Nat.mul_comm]; exact Nat.le_trans (Nat.mul_le_mul_right _ a) (Nat.div_mul_le_self _ _)
      · rw [Nat.add_assoc, Nat.pow_add, Nat.mul_comm]; exact (Nat.div_lt_iff_lt_mul hp).1 b
    · rw [if_neg h1]
      exact ih n h0 (by omega)
def lgN (n : Nat) : Nat := if n < 340282366920938463463374607431768211456 then lgB 7 n else if n < 2 ^ 2 ^ 12 then lgB 12 n else n.log2
theorem lgN_eq (n : Nat) (h0 : n ≠ 0) : lgN n = n.log2 := by
  unfold lgN
  by_cases h : n < 340282366920938463463374607431768211456
  · rw [if_pos h]
    obtain ⟨a, b⟩ := lgB_spec 7 n h0 h
    exact ((Nat.log2_eq_iff h0).2 ⟨a, b⟩).symm
  · rw [if_neg h]
    by_cases h2 : n < 2 ^ 2 ^ 12
    · rw [if_pos h2]
      obtain ⟨a, b⟩ := lgB_spec 12 n h0 h2
      exact ((Nat.log2_eq_iff h0).2 ⟨a, b⟩).symm
    · rw [if_neg h2]
def cutD (n d : Nat) : Nat := frc (2 ^ d) fun g => frc (n / g) fun low => frc (2 * (n % g)) fun rest => if g < rest ∨ (g = rest ∧ low % 2 = 1) then low + 1 else low
def cutN (n drop : Nat) : Nat := frc (min drop (n.log2 + 2)) fun d => frc (2 ^ d) fun g => frc (n / g) fun low => frc (2 * (n % g)) fun rest => if g < rest ∨ (g = rest ∧ low % 2 = 1) then low + 1 else low
theorem cut_eq (neg : Bool) (n drop : Nat) : Ieee.Toward.even.cut neg n drop = cutN n drop := by
  unfold Ieee.Toward.cut cutN
  simp only [frc_eq, Nat.one_shiftLeft]
  generalize 2 ^ min drop (n.log2 + 2) = g
  by_cases h1 : g < 2 * (n % g)
  · simp [h1]
  · by_cases h2 : g = 2 * (n % g)
    · by_cases h3 : n / g % 2 = 1
      · rw [if_pos (.inr ⟨h2, h3⟩)]
        have e1 : decide (g < 2 * (n % g)) = false := by simpa using h1
        have e2 : (g == 2 * (n % g)) = true := by simpa using h2
        have e3 : (n / g % 2 == 1) = true := by simpa using h3
        rw [e1, e2, e3]; rfl
      · rw [if_neg (by rintro (h | ⟨_, h⟩) <;> contradiction)]
        have e1 : decide (g < 2 * (n % g)) = false := by simpa using h1
        have e3 : (n / g % 2 == 1) = false := by simpa using h3
        rw [e1, e3]; simp
    · rw [if_neg (by rintro (h | ⟨h, _⟩) <;> contradiction)]
      have e1 : decide (g < 2 * (n % g)) = false := by simpa using h1
      have e2 : (g == 2 * (n % g)) = false := by simpa using h2
      rw [e1, e2]; simp
theorem cutD_eq (n d : Nat) (h : d ≤ n.log2 + 2) : cutN n d = cutD n d := by
  unfold cutN cutD
  rw [Nat.min_eq_left h]
  simp only [frc_eq]
def wordN (neg : Bool) (r : Nat) : Nat := frc (min r 9218868437227405312) fun r => match neg with | true => 9223372036854775808 + r | false => r
def nearN (neg : Bool) (mag P : Nat) : Nat :=
  if mag = 0 then wordN neg 0 else frc (lgN mag) fun l =>
  if 1126 ≤ P + l then frc (mag * 2 ^ (52 - l)) fun m => wordN neg ((P + l - 1126) * 4503599627370496 + cutD m (l - 52))
  else frc (mag * 2 ^ (P - 1074)) fun m => wordN neg (cutN m (1074 - P))
theorem near_eq (neg : Bool) (mag P : Nat) : Ieee.double.nearest neg mag ((P : Int) - 2148) = nearN neg mag P := by
  have e1 : Ieee.double.signWeight = 9223372036854775808 := by decide
  have e2 : Ieee.double.binade = 4503599627370496 := by decide
  have e3 : Ieee.double.infRung = 9218868437227405312 := by decide
  have e4 : Ieee.double.leastPlace = -1074 := by decide
  have e5 : (Ieee.double.fractionBits : Int) = 52 := rfl
  have hw : ∀ r, Ieee.double.word neg (min r 9218868437227405312) = wordN neg r := fun r => by
    unfold Ieee.Format.word wordN
    rw [e1]; simp only [frc_eq]
    cases neg <;> simp
  unfold Ieee.Format.nearest nearN
  rw [e2, e3, e4, e5]
  simp only [frc_eq]
  by_cases h0 : mag = 0
  · rw [if_pos h0, if_pos h0]; exact hw 0
  · rw [if_neg h0, if_neg h0]
    rw [lgN_eq mag h0]
    generalize hl : mag.log2 = l
    have hd : cutN (mag * 2 ^ (52 - l)) (l - 52) = cutD (mag * 2 ^ (52 - l)) (l - 52) := cutD_eq _ _ (by
      by_cases h : l ≤ 52
      · omega
      · rw [show 52 - l = 0 by omega, Nat.pow_zero, Nat.mul_one, hl]; omega)
    simp only [cut_eq, Nat.shiftLeft_eq]
    by_cases h1 : 1126 ≤ P + l
    · rw [if_pos h1]
      have q : max ((P : Int) - 2148 + (l : Nat) - 52) (-1074) = (P : Int) - 2148 + l - 52 := by omega
      rw [q, show ((P : Int) - 2148 - (P - 2148 + l - 52)).toNat = 52 - l by omega, show ((P : Int) - 2148 + l - 52 - (P - 2148)).toNat = l - 52 by omega, show ((P : Int) - 2148 + l - 52 - -1074).toNat = P + l - 1126 by omega, hd]
      exact hw _
    · rw [if_neg h1]
      have q : max ((P : Int) - 2148 + (l : Nat) - 52) (-1074) = -1074 := by omega
      rw [q, show ((P : Int) - 2148 - -1074).toNat = P - 1074 by omega, show ((-1074 : Int) - (P - 2148)).toNat = 1074 - P by omega, show ((-1074 : Int) - -1074).toNat = 0 by omega, Nat.zero_mul, Nat.zero_add]
      exact hw _
def mulN (a b : Nat) : Option Nat := match finN a, finN b with
  | true, true => some (frc (magN a * magN b) fun m => frc (expN a + expN b) fun e => nearN (negN a ^^ negN b) m e)
  | _, _ => none
theorem mulN_eq {a b r : Nat} (h : mulN a b = some r) : floatBits .mul .f64 a b = some r := by
  unfold mulN at h
  split at h
  · rename_i h1 h2
    simp only [frc_eq, Option.some.injEq] at h
    subst h
    show Option.map Ieee.double.write _ = _
    show Option.map Ieee.double.write ((Ieee.double.read a).product (Ieee.double.read b)) = _
    rw [read_fin h1, read_fin h2]
    show some (Ieee.double.nearest _ _ _) = _
    rw [← near_eq]
    congr 2
    omega
  · cases h
def addD (s : Bool) (m i : Nat) (t : Bool) (n j : Nat) : Nat :=
  frc (min i j) fun base => frc (m * 2 ^ (i - base)) fun A => frc (n * 2 ^ (j - base)) fun B => frc (base + 1074) fun P =>
  if s = t then nearN s (A + B) P
  else if A = B then nearN false 0 P
  else if B < A then nearN s (A - B) P else nearN t (B - A) P
theorem addD_eq (s : Bool) (m i : Nat) (t : Bool) (n j : Nat) : (Ieee.Datum.sum (.number s m ((i : Nat) - 1074)) (.number t n ((j : Nat) - 1074))).map Ieee.double.write = some (addD s m i t n j) := by
  unfold addD
  simp only [frc_eq]
  show some (Ieee.double.nearest _ _ _) = _
  have hb : min ((i : Int) - 1074) ((j : Int) - 1074) = ((min i j + 1074 : Nat) : Int) - 2148 := by omega
  rw [hb, show ((i : Int) - 1074 - (((min i j + 1074 : Nat) : Int) - 2148)).toNat = i - min i j by omega, show ((j : Int) - 1074 - (((min i j + 1074 : Nat) : Int) - 2148)).toNat = j - min i j by omega, near_eq]
  congr 1
  unfold Ieee.signed
  simp only [Nat.shiftLeft_eq]
  generalize m * 2 ^ (i - min i j) = A
  generalize n * 2 ^ (j - min i j) = B
  generalize min i j + 1074 = P
  cases s <;> cases t <;> simp only [Bool.false_eq_true, Bool.true_eq_false, if_false, if_true, Bool.and_self, Bool.and_false, Bool.false_and]
  · have e1 : ((A : Int) + B).natAbs = A + B := by omega
    rw [e1]
    by_cases h : (A : Int) + B = 0
    · rw [if_pos h]
    · rw [if_neg h, decide_eq_false (by omega)]
  · by_cases h : (A : Int) + -(B : Int) = 0
    · have h2 : A = B := by omega
      rw [if_pos h, if_pos h2, h]; rfl
    · have h2 : ¬ A = B := by omega
      rw [if_neg h, if_neg h2]
      by_cases h3 : B < A
      · rw [if_pos h3, decide_eq_false (by omega), show ((A : Int) + -(B : Int)).natAbs = A - B by omega]
      · rw [if_neg h3, decide_eq_true (by omega), show ((A : Int) + -(B : Int)).natAbs = B - A by omega]
  · by_cases h : -(A : Int) + (B : Int) = 0
    · have h2 : A = B := by omega
      rw [if_pos h, if_pos h2, h]; rfl
    · have h2 : ¬ A = B := by omega
      rw [if_neg h, if_neg h2]
      by_cases h3 : B < A
      · rw [if_pos h3, decide_eq_true (by omega), show (-(A : Int) + (B : Int)).natAbs = A - B by omega]
      · rw [if_neg h3, decide_eq_false (by omega), show (-(A : Int) + (B : Int)).natAbs = B - A by omega]
  · have e1 : (-(A : Int) + -(B : Int)).natAbs = A + B := by omega
    rw [e1]
    by_cases h : -(A : Int) + -(B : Int) = 0
    · rw [if_pos h]
    · rw [if_neg h, decide_eq_true (by omega)]
def addN (a b : Nat) : Option Nat := match finN a, finN b with
  | true, true => some (frc (magN a) fun m => frc (magN b) fun n => frc (expN a) fun i => frc (expN b) fun j => addD (negN a) m i (negN b) n j)
  | _, _ => none
def subN (a b : Nat) : Option Nat := match finN a, finN b with
  | true, true => some (frc (magN a) fun m => frc (magN b) fun n => frc (expN a) fun i => frc (expN b) fun j => addD (negN a) m i (!negN b) n j)
  | _, _ => none
theorem addN_eq {a b r : Nat} (h : addN a b = some r) : floatBits .add .f64 a b = some r := by
  unfold addN at h
  split at h
  · rename_i h1 h2
    simp only [frc_eq, Option.some.injEq] at h
    subst h
    show Option.map Ieee.double.write ((Ieee.double.read a).sum (Ieee.double.read b)) = _
    rw [read_fin h1, read_fin h2]
    exact addD_eq ..
  · cases h
theorem subN_eq {a b r : Nat} (h : subN a b = some r) : floatBits .sub .f64 a b = some r := by
  unfold subN at h
  split at h
  · rename_i h1 h2
    simp only [frc_eq, Option.some.injEq] at h
    subst h
    show Option.map Ieee.double.write ((Ieee.double.read a).sum (Ieee.double.read b).opposite) = _
    rw [read_fin h1, read_fin h2]
    exact addD_eq ..
  · cases h

/-! ### the sine -/
def bnd {α : Type} (x : Option Nat) (f : Nat → Option α) : Option α := match x with | some a => frc a f | none => none
theorem bnd_some {α : Type} {x : Option Nat} {f : Nat → Option α} {r : α} (h : bnd x f = some r) : ∃ a, x = some a ∧ f a = some r := by
  cases x with
  | none => cases h
  | some a => exact ⟨a, rfl, by simpa [bnd, frc_eq] using h⟩
def polyN (zz c0 c1 c2 c3 c4 c5 : Nat) : Option Nat :=
  bnd (mulN c0 zz) fun a => bnd (addN a c1) fun a => bnd (mulN a zz) fun a => bnd (addN a c2) fun a => bnd (mulN a zz) fun a => bnd (addN a c3) fun a => bnd (mulN a zz) fun a => bnd (addN a c4) fun a => bnd (mulN a zz) fun a => addN a c5
def sinN (z zz : Nat) : Option Nat :=
  bnd (mulN z zz) fun u => bnd (polyN zz 4460209587652500685 13716528389658582877 4523617212962785441 13774824197404483331 4575957461383575504 13818544856648471880) fun p => bnd (mulN u p) fun q => addN z q
def cosN (zz : Nat) : Option Nat :=
  bnd (mulN 4602678819172646912 zz) fun h => bnd (subN 4607182418800017408 h) fun o => bnd (mulN zz zz) fun u => bnd (polyN zz 13666448263388469915 4477121864728985349 13732177093698800582 4537941361668146421 13787419979223748497 4586165620538955083) fun p => bnd (mulN u p) fun q => addN o q
def redN (b y : Nat) : Option Nat :=
  bnd (mulN y 4605249456957292544) fun t => bnd (subN b t) fun b => bnd (mulN y 4495793288086814720) fun t => bnd (subN b t) fun b => bnd (mulN y 4388835458085048688) fun t => subN b t
/-- Bits of numbers (as the run has them). -/
def intN (op : BinOp) (k : IntKind) (a b : Int) : Int := k.wrap (match op with
  | .and => (BitVec.ofInt k.bits a &&& BitVec.ofInt k.bits b).toNat
  | .or => (BitVec.ofInt k.bits a ||| BitVec.ofInt k.bits b).toNat
  | .xor => (BitVec.ofInt k.bits a ^^^ BitVec.ofInt k.bits b).toNat
  | _ => (BitVec.ofInt k.bits a &&& ~~~BitVec.ofInt k.bits b).toNat)
def f2uN (m : Nat) : Option Nat := match floatToIntVal .f64 m .u64 with | some (.ofNat n) => some n | _ => none
theorem f2uN_eq {m j : Nat} (h : f2uN m = some j) : floatToIntVal .f64 m .u64 = some (j : Int) := by
  unfold f2uN at h
  split at h
  · rename_i e; cases h; exact e
  · cases h
def octN (z zz : Nat) (o : Int) : Option Nat := if o = 1 then cosN zz else if o = 2 then cosN zz else sinN z zz
def tailN (b y : Nat) (o : Int) : Option Nat :=
  bnd (redN b y) fun z => bnd (mulN z z) fun zz => if 3 < o then bnd (octN z zz (IntKind.u64.wrap (o - 4))) (fun s => some (Op.negFloat .f64 s)) else octN z zz o
def ordN (a b : Nat) : Option Ordering := FloatKind.f64.format.order a b
def chkN (b : Nat) : Bool := !(ordN b 0 == some .eq) && (ordN b b == some .eq) && !(ordN (intN .andNot .u64 b 9223372036854775808).toNat 9218868437227405311 == some .gt) && !(ordN b 0 == some .lt) && !(ordN b 4737786807993761792 == some .gt || ordN b 4737786807993761792 == some .eq)
def msinN (b : Nat) : Option Nat :=
  if b = 0 then some 0 else match chkN b with
  | false => none
  | true =>
  bnd (mulN b 4608412980311869571) fun m => bnd (f2uN m) fun j =>
  frc (FloatKind.f64.nearest (j : Nat)) fun y0 =>
  if intN .and .u64 j 1 = 1 then bnd (addN y0 4607182418800017408) fun y => tailN b y (intN .and .u64 (IntKind.u64.wrap (j + 1)) 7) else tailN b y0 (intN .and .u64 j 7)
/-- The exponent's bits. -/
def rE (b : Nat) : Int := intN .and .u64 ((b : Int).fdiv (2 ^ 52)) 2047
def rndV (b : Nat) : Int :=
  if rE b < 1023 then (if rE b = 1022 then intN .or .u64 (intN .and .u64 b 9223372036854775808) 4607182418800017408 else intN .and .u64 b 9223372036854775808)
  else if rE b < 1075 then intN .andNot .u64 (IntKind.u64.wrap (b + Int.fdiv 2251799813685248 (2 ^ (min (IntKind.u64.wrap (rE b - 1023)).toNat 64)))) (Int.fdiv 4503599627370495 (2 ^ (min (IntKind.u64.wrap (rE b - 1023)).toNat 64)))
  else b
def argN (h : Nat) : Option Nat := bnd (mulN (FloatKind.f64.nearest (h : Nat)) 4614256656552045848) fun a => floatBits .quo .f64 a 4656722014701092864
def sinI (h : Nat) : Option Int := bnd (argN h) fun x => bnd (msinN x) fun s => bnd (mulN 4670232813583204352 s) fun t => frc (rndV t).toNat fun t => floatToIntVal .f64 t .i64
def okH (h : Nat) : Bool := match sinI h with | some n => decide (-16384 ≤ n ∧ n ≤ 16384) | none => false
def allB (f : Nat → Bool) (n : Nat) : Bool := Nat.rec true (fun m ih => match f m with | true => ih | false => false) n
theorem allB_spec {f : Nat → Bool} {n : Nat} (h : allB f n = true) (i : Nat) (hi : i < n) : f i = true := by
  induction n with
  | zero => omega
  | succ n ih =>
    have h' : (match f n with | true => allB f n | false => false) = true := h
    cases hf : f n with
    | false => rw [hf] at h'; cases h'
    | true =>
      rw [hf] at h'
      by_cases e : i = n
      · subst e; exact hf
      · exact ih h' (by omega)
end Go.Proofs.YtdlakpomcafemaaDoor.Flo
/- Plain values, reckoned: floats. -/
namespace Go.Proofs.YtdlakpomcafemaaDoor
open Go.RowKit
set_option linter.unusedVariables false
section
variable {k k' : FloatKind} {a b : Nat} {i : IntKind} {n : Int}
@[simp] theorem av_fadd : AV.bin .add (.lit (.float k a)) (.lit (.float k' b)) = .lit (.float k ((floatBits .add k a b).getD 0)) := rfl
@[simp] theorem av_fsub : AV.bin .sub (.lit (.float k a)) (.lit (.float k' b)) = .lit (.float k ((floatBits .sub k a b).getD 0)) := rfl
@[simp] theorem av_fmul : AV.bin .mul (.lit (.float k a)) (.lit (.float k' b)) = .lit (.float k ((floatBits .mul k a b).getD 0)) := rfl
@[simp] theorem av_fquo : AV.bin .quo (.lit (.float k a)) (.lit (.float k' b)) = .lit (.float k ((floatBits .quo k a b).getD 0)) := rfl
@[simp] theorem av_feql : AV.bin .eql (.lit (.float k a)) (.lit (.float k' b)) = .lit (.bool (k.format.order a b == some .eq)) := rfl
@[simp] theorem av_fneq : AV.bin .neq (.lit (.float k a)) (.lit (.float k' b)) = .lit (.bool (k.format.order a b != some .eq)) := rfl
@[simp] theorem av_flss : AV.bin .lss (.lit (.float k a)) (.lit (.float k' b)) = .lit (.bool (k.format.order a b == some .lt)) := rfl
@[simp] theorem av_fleq : AV.bin .leq (.lit (.float k a)) (.lit (.float k' b)) = .lit (.bool (k.format.order a b == some .lt || k.format.order a b == some .eq)) := rfl
@[simp] theorem av_fgtr : AV.bin .gtr (.lit (.float k a)) (.lit (.float k' b)) = .lit (.bool (k.format.order a b == some .gt)) := rfl
@[simp] theorem av_fgeq : AV.bin .geq (.lit (.float k a)) (.lit (.float k' b)) = .lit (.bool (k.format.order a b == some .gt || k.format.order a b == some .eq)) := rfl
@[simp] theorem av_okadd : AV.binOk .add (.lit (.float k a)) (.lit (.float k' b)) ↔ k = k' ∧ (floatBits .add k a b).isSome = true := Iff.rfl
@[simp] theorem av_oksub : AV.binOk .sub (.lit (.float k a)) (.lit (.float k' b)) ↔ k = k' ∧ (floatBits .sub k a b).isSome = true := Iff.rfl
@[simp] theorem av_okmul : AV.binOk .mul (.lit (.float k a)) (.lit (.float k' b)) ↔ k = k' ∧ (floatBits .mul k a b).isSome = true := Iff.rfl
@[simp] theorem av_okquo : AV.binOk .quo (.lit (.float k a)) (.lit (.float k' b)) ↔ k = k' ∧ (floatBits .quo k a b).isSome = true := Iff.rfl
@[simp] theorem av_okeql : AV.binOk .eql (.lit (.float k a)) (.lit (.float k' b)) ↔ k = k' := ⟨fun h => h.1, fun h => ⟨h, trivial⟩⟩
@[simp] theorem av_okneq : AV.binOk .neq (.lit (.float k a)) (.lit (.float k' b)) ↔ k = k' := ⟨fun h => h.1, fun h => ⟨h, trivial⟩⟩
@[simp] theorem av_oklss : AV.binOk .lss (.lit (.float k a)) (.lit (.float k' b)) ↔ k = k' := ⟨fun h => h.1, fun h => ⟨h, trivial⟩⟩
@[simp] theorem av_okgtr : AV.binOk .gtr (.lit (.float k a)) (.lit (.float k' b)) ↔ k = k' := ⟨fun h => h.1, fun h => ⟨h, trivial⟩⟩
@[simp] theorem av_okgeq : AV.binOk .geq (.lit (.float k a)) (.lit (.float k' b)) ↔ k = k' := ⟨fun h => h.1, fun h => ⟨h, trivial⟩⟩
@[simp] theorem av_fneg : AV.un .neg (.lit (.float k a)) = .lit (.float k (Op.negFloat k a)) := rfl
@[simp] theorem av_okneg : AV.unOk .neg (.lit (.float k a)) ↔ True := Iff.rfl
@[simp] theorem av_i2f : AV.i2f k (.lit (.int i n)) = .lit (.float k (k.nearest n)) := rfl
@[simp] theorem av_f2i : AV.f2i k' i (.lit (.float k a)) = .lit (.int i ((floatToIntVal k' a i).getD 0)) := rfl
@[simp] theorem av_f2iOk : AV.f2iOk k' i (.lit (.float k a)) ↔ k = k' ∧ (floatToIntVal k' a i).isSome = true := ⟨fun h => ⟨by have := h.1; simp only [AV.lit.injEq, Value.float.injEq] at this; exact this.1, h.2⟩, fun h => ⟨by rw [h.1]; rfl, h.2⟩⟩
@[simp] theorem av_fb : AV.fb (.lit (.float k a)) = a := rfl
end
/-- A function without a text, of one argument. -/
theorem fnE_of {P : Program} {f : FuncId} {fn : Func} {e : Array Value → Sem Value} (hf : P.funcs[f]? = some fn) (hname : (fn.name == "runtime.NumGoroutine") = false) (hb : fn.body.isNone = true) (hn : Extern.findNext fn = none) (he : Extern.find fn = some e)
    {u v : Value} (hr : ∀ w : World, (e #[u]).run P w = .ok v w) : FnE P f [.lit u] (.lit v) := by
  intro w ok cargs hsz hargs
  have h0 := RV.lit_iff.1 (hargs 0 (by simp))
  have hc : cargs = #[u] := by
    apply Array.ext_getElem?
    intro i
    have hsz' : cargs.size = 1 := hsz
    match i with
    | 0 => simpa [Array.getD, hsz'] using h0
    | n + 1 => rw [Array.getElem?_eq_none (by omega), Array.getElem?_eq_none (by simp)]
  subst hc
  exact ⟨v, by rw [run_callFunc_extern hf hname hb hn he, hr w]; rfl, .lit _⟩
end Go.Proofs.YtdlakpomcafemaaDoor
/- angles: the functions of math. -/
namespace Go.Proofs.YtdlakpomcafemaaDoor
open Go.RowKit
set_option linter.unusedVariables false
set_option linter.unusedSimpArgs false
set_option maxRecDepth 100000
abbrev fl (b : Nat) : AV := .lit (.float .f64 b)
abbrev u64 (n : Int) : AV := .lit (.int .u64 n)
theorem bits_fn (b : Nat) : FnE Tryd.prog 66 [fl b] (u64 (b : Nat)) :=
  fnE_of Tryd.func66 (e := Extern.MathFloatBits.float64bits) (by kernel_rfl) (by kernel_rfl) (by kernel_rfl) (by kernel_rfl) fun w => rfl
theorem frombits_fn (n : Int) : FnE Tryd.prog 67 [u64 n] (fl n.toNat) :=
  fnE_of Tryd.func67 (e := Extern.MathFloatBits.float64frombits) (by kernel_rfl) (by kernel_rfl) (by kernel_rfl) (by kernel_rfl) fun w => rfl
theorem norm_fn (h : Int) (h1 : -9223372036854775808 ≤ h) (h2 : h ≤ 9223372036854775807) : Fn Tryd.prog 62 [.int h] .sc (.int (h % 4096)) := by
  refine fn_run mixed 3 (Γ := AngF.Γ) (ann := AngF.ann) Tryd.func62 rfl Tryd.call62 ((AngF.norm_form _ _).mpr ?_)
  have e1 : h.tmod 4096 = if 0 ≤ h then h % 4096 else - (-h % 4096) := by
    split
    · rw [Int.tmod_eq_emod_of_nonneg (by omega)]
    · have : h = -(-h) := by omega
      rw [this, Int.neg_tmod, Int.tmod_eq_emod_of_nonneg (by omega)]; omega
  have e2 : (h.tmod 4096 + 4096).tmod 4096 = h % 4096 := by
    rw [e1, Int.tmod_eq_emod_of_nonneg (by split <;> omega)]; split <;> omega
  have e3 : IntKind.i64.wrap (h.tmod 4096 + 4096) = h.tmod 4096 + 4096 := wrap64 (by rw [e1]; split <;> omega) (by rw [e1]; split <;> omega)
  simp [e3, e2]
theorem round_fn (b : Nat) : Fn Tryd.prog 60 [fl b] .sc (fl (Flo.rndV b).toNat) := by
  refine fn_run mixed 3 (Γ := AngF.Γ) (ann := AngF.ann) Tryd.func60 rfl Tryd.call60 ((AngF.round_form _ _).mpr ?_)
  refine ⟨_, bits_fn b, ?_⟩
  have hE : AV.bin .and (AV.shf .shr (u64 (b : Nat)) (u64 52)) (u64 2047) = u64 (Flo.rE b) := rfl
  rw [hE]
  generalize hR : Flo.rndV b = R
  unfold Flo.rndV at hR
  generalize Flo.rE b = e at *
  have g1 : e < 1023 → e = 1022 → R = intB .or .u64 (intB .and .u64 b 9223372036854775808) 4607182418800017408 := fun h1 h2 => by rw [if_pos h1, if_pos h2] at hR; exact hR.symm
  have g2 : e < 1023 → e ≠ 1022 → R = intB .and .u64 b 9223372036854775808 := fun h1 h2 => by rw [if_pos h1, if_neg h2] at hR; exact hR.symm
  have g3 : ¬ e < 1023 → e < 1075 → R = Flo.intN .andNot .u64 (IntKind.u64.wrap (b + Int.fdiv 2251799813685248 (2 ^ (min (IntKind.u64.wrap (e - 1023)).toNat 64)))) (Int.fdiv 4503599627370495 (2 ^ (min (IntKind.u64.wrap (e - 1023)).toNat 64))) := fun h1 h2 => by rw [if_neg h1, if_pos h2] at hR; exact hR.symm
  have g4 : ¬ e < 1023 → ¬ e < 1075 → R = b := fun h1 h2 => by rw [if_neg h1, if_neg h2] at hR; exact hR.symm
  clear hR
  have hw : 0 ≤ IntKind.u64.wrap (e - 1023) := by simp [IntKind.wrap, IntKind.bits, IntKind.signed]; omega
  refine ⟨⟨⟨_, _, rfl⟩, ⟨_, _, rfl⟩, by show (0 : Int) ≤ 52; decide⟩, ⟨rfl, trivial⟩, ⟨rfl, trivial⟩, by simp, fun h1 => ⟨⟨rfl, trivial⟩, ⟨rfl, trivial⟩, by simp, fun h2 => ?_, fun h2 => ?_⟩, fun h1 => ⟨⟨rfl, trivial⟩, by simp, fun h2 => ?_, fun h2 => ?_⟩⟩
  · refine ⟨⟨rfl, trivial⟩, _, frombits_fn _, by simp, ?_⟩
    rw [g1 (by simpa using h1) (by simpa using h2)]; rfl
  · refine ⟨_, frombits_fn _, by simp, ?_⟩
    rw [g2 (by simpa using h1) (by simpa using h2)]; rfl
  · refine ⟨⟨rfl, trivial⟩, ⟨⟨_, _, rfl⟩, ⟨_, _, rfl⟩, hw⟩, ⟨rfl, trivial⟩, ⟨⟨_, _, rfl⟩, ⟨_, _, rfl⟩, hw⟩, ⟨rfl, trivial⟩, _, frombits_fn _, by simp, ?_⟩
    rw [g3 (by simpa using h1) (by simpa using h2)]; rfl
  · refine ⟨_, frombits_fn _, by simp, ?_⟩
    rw [g4 (by simpa using h1) (by simpa using h2)]; rfl
end Go.Proofs.YtdlakpomcafemaaDoor
/- The sine's worth at each of 4096 angles: small (half 1). -/
namespace Go.Proofs.YtdlakpomcafemaaDoor.Flo
set_option maxRecDepth 100000
theorem ok0 : allB (fun h => okH (0 + h)) 256 = true := by decide +kernel
theorem ok1 : allB (fun h => okH (256 + h)) 256 = true := by decide +kernel
theorem ok2 : allB (fun h => okH (512 + h)) 256 = true := by decide +kernel
theorem ok3 : allB (fun h => okH (768 + h)) 256 = true := by decide +kernel
theorem ok4 : allB (fun h => okH (1024 + h)) 256 = true := by decide +kernel
theorem ok5 : allB (fun h => okH (1280 + h)) 256 = true := by decide +kernel
theorem ok6 : allB (fun h => okH (1536 + h)) 256 = true := by decide +kernel
theorem ok7 : allB (fun h => okH (1792 + h)) 256 = true := by decide +kernel
end Go.Proofs.YtdlakpomcafemaaDoor.Flo
/- The sine's worth at each of 4096 angles: small (half 2). -/
namespace Go.Proofs.YtdlakpomcafemaaDoor.Flo
set_option maxRecDepth 100000
theorem ok8 : allB (fun h => okH (2048 + h)) 256 = true := by decide +kernel
theorem ok9 : allB (fun h => okH (2304 + h)) 256 = true := by decide +kernel
theorem ok10 : allB (fun h => okH (2560 + h)) 256 = true := by decide +kernel
theorem ok11 : allB (fun h => okH (2816 + h)) 256 = true := by decide +kernel
theorem ok12 : allB (fun h => okH (3072 + h)) 256 = true := by decide +kernel
theorem ok13 : allB (fun h => okH (3328 + h)) 256 = true := by decide +kernel
theorem ok14 : allB (fun h => okH (3584 + h)) 256 = true := by decide +kernel
theorem ok15 : allB (fun h => okH (3840 + h)) 256 = true := by decide +kernel
end Go.Proofs.YtdlakpomcafemaaDoor.Flo
/- angles: the sine of math. -/
namespace Go.Proofs.YtdlakpomcafemaaDoor
open Go.RowKit
set_option linter.unusedVariables false
set_option linter.unusedSimpArgs false
set_option maxRecDepth 100000
theorem polyN_some {zz c0 c1 c2 c3 c4 c5 r : Nat} (h : Flo.polyN zz c0 c1 c2 c3 c4 c5 = some r) : ∃ a1 a2 a3 a4 a5 a6 a7 a8 a9, floatBits .mul .f64 c0 zz = some a1 ∧ floatBits .add .f64 a1 c1 = some a2 ∧ floatBits .mul .f64 a2 zz = some a3 ∧ floatBits .add .f64 a3 c2 = some a4 ∧ floatBits .mul .f64 a4 zz = some a5 ∧
    floatBits .add .f64 a5 c3 = some a6 ∧ floatBits .mul .f64 a6 zz = some a7 ∧ floatBits .add .f64 a7 c4 = some a8 ∧ floatBits .mul .f64 a8 zz = some a9 ∧ floatBits .add .f64 a9 c5 = some r := by
  unfold Flo.polyN at h
  obtain ⟨a1, h1, h⟩ := Flo.bnd_some h
  obtain ⟨a2, h2, h⟩ := Flo.bnd_some h
  obtain ⟨a3, h3, h⟩ := Flo.bnd_some h
  obtain ⟨a4, h4, h⟩ := Flo.bnd_some h
  obtain ⟨a5, h5, h⟩ := Flo.bnd_some h
  obtain ⟨a6, h6, h⟩ := Flo.bnd_some h
  obtain ⟨a7, h7, h⟩ := Flo.bnd_some h
  obtain ⟨a8, h8, h⟩ := Flo.bnd_some h
  obtain ⟨a9, h9, h⟩ := Flo.bnd_some h
  exact ⟨a1, a2, a3, a4, a5, a6, a7, a8, a9, Flo.mulN_eq h1, Flo.addN_eq h2, Flo.mulN_eq h3, Flo.addN_eq h4, Flo.mulN_eq h5, Flo.addN_eq h6, Flo.mulN_eq h7, Flo.addN_eq h8, Flo.mulN_eq h9, Flo.addN_eq h⟩
theorem redN_some {b y z : Nat} (h : Flo.redN b y = some z) : ∃ t1 t2 t3 t4 t5, floatBits .mul .f64 y 4605249456957292544 = some t1 ∧ floatBits .sub .f64 b t1 = some t2 ∧ floatBits .mul .f64 y 4495793288086814720 = some t3 ∧ floatBits .sub .f64 t2 t3 = some t4 ∧ floatBits .mul .f64 y 4388835458085048688 = some t5 ∧ floatBits .sub .f64 t4 t5 = some z := by
  unfold Flo.redN at h
  obtain ⟨a1, h1, h⟩ := Flo.bnd_some h
  obtain ⟨a2, h2, h⟩ := Flo.bnd_some h
  obtain ⟨a3, h3, h⟩ := Flo.bnd_some h
  obtain ⟨a4, h4, h⟩ := Flo.bnd_some h
  obtain ⟨a5, h5, h⟩ := Flo.bnd_some h
  exact ⟨a1, a2, a3, a4, a5, Flo.mulN_eq h1, Flo.subN_eq h2, Flo.mulN_eq h3, Flo.subN_eq h4, Flo.mulN_eq h5, Flo.subN_eq h⟩
theorem sinN_some {z zz s : Nat} (h : Flo.sinN z zz = some s) : ∃ u p q, floatBits .mul .f64 z zz = some u ∧ Flo.polyN zz 4460209587652500685 13716528389658582877 4523617212962785441 13774824197404483331 4575957461383575504 13818544856648471880 = some p ∧ floatBits .mul .f64 u p = some q ∧ floatBits .add .f64 z q = some s := by
  unfold Flo.sinN at h
  obtain ⟨a1, h1, h⟩ := Flo.bnd_some h
  obtain ⟨a2, h2, h⟩ := Flo.bnd_some h
  obtain ⟨a3, h3, h⟩ := Flo.bnd_some h
  exact ⟨a1, a2, a3, Flo.mulN_eq h1, h2, Flo.mulN_eq h3, Flo.addN_eq h⟩
theorem cosN_some {zz s : Nat} (h : Flo.cosN zz = some s) : ∃ t o u p q, floatBits .mul .f64 4602678819172646912 zz = some t ∧ floatBits .sub .f64 4607182418800017408 t = some o ∧ floatBits .mul .f64 zz zz = some u ∧ Flo.polyN zz 13666448263388469915 4477121864728985349 13732177093698800582 4537941361668146421 13787419979223748497 4586165620538955083 = some p ∧ floatBits .mul .f64 u p = some q ∧ floatBits .add .f64 o q = some s := by
  unfold Flo.cosN at h
  obtain ⟨a1, h1, h⟩ := Flo.bnd_some h
  obtain ⟨a2, h2, h⟩ := Flo.bnd_some h
  obtain ⟨a3, h3, h⟩ := Flo.bnd_some h
  obtain ⟨a4, h4, h⟩ := Flo.bnd_some h
  obtain ⟨a5, h5, h⟩ := Flo.bnd_some h
  exact ⟨a1, a2, a3, a4, a5, Flo.mulN_eq h1, Flo.subN_eq h2, Flo.mulN_eq h3, h4, Flo.mulN_eq h5, Flo.addN_eq h⟩
theorem av_and' {a b : Int} : AV.bin .and (u64 a) (u64 b) = u64 (Flo.intN .and .u64 a b) := rfl
theorem msin_fn {b s : Nat} (h : Flo.msinN b = some s) : Fn Tryd.prog 69 [fl b] .sc (fl s) := by
  refine fn_run mixed 3 (Γ := AngF.Γ) (ann := AngF.ann) Tryd.func69 rfl Tryd.call69 ((AngF.msin_form (fl b) (fl s) _ _ _ _ _ _ _ _ _ _ _ _ _ _ _ _ _ _ _ _ _ _ _ _ _ _ _ _ _ _ _ _ _ _ _ _ _ _ _ _ _ _ _ _ _ _ _ _ _ _ _ _ _ _ _ _ _ _ _ _ _ _ _ _ _ _ _ _ _ _ _ _ _ _ _ _ _ _ _ _ _ _ _ _ _ _ _ _ _ _ _ _ _ _ _ _ _ _ _ _ _ _ _ _ _ _ _ _ _ _ _ _ _ rfl rfl rfl rfl rfl rfl rfl rfl rfl rfl rfl rfl rfl rfl rfl rfl rfl rfl rfl rfl rfl rfl rfl rfl rfl rfl rfl rfl rfl rfl rfl rfl rfl rfl rfl rfl rfl rfl rfl rfl rfl rfl rfl rfl rfl rfl rfl rfl rfl rfl rfl rfl rfl rfl rfl rfl rfl rfl rfl rfl rfl rfl rfl rfl rfl rfl rfl rfl rfl rfl rfl rfl rfl rfl rfl rfl rfl rfl rfl rfl rfl rfl rfl rfl rfl rfl rfl rfl rfl rfl rfl rfl rfl rfl rfl rfl rfl rfl rfl rfl rfl rfl rfl rfl rfl rfl rfl rfl rfl rfl rfl rfl rfl).mpr ?_)
  have c1 := Tryd.call71
  have c2 := Tryd.call72
  have c3 := Tryd.call76
  unfold Flo.msinN at h
  split at h
  · rename_i h0
    subst h0
    simp only [Option.some.injEq] at h
    subst h
    have o1 : (FloatKind.f64.format.order 0 0 == some Ordering.eq) = true := by decide
    refine ⟨⟨rfl, trivial⟩, rfl, fun _ => ⟨rfl, o1, .lit _, rfl⟩, fun hw => ?_⟩
    have hw' : (FloatKind.f64.format.order 0 0 == some Ordering.eq) = false := hw
    rw [o1] at hw'; cases hw'
  split at h
  · cases h
  rename_i h0 hc
  simp only [Flo.chkN, Flo.ordN, Bool.and_eq_true, Bool.not_eq_true'] at hc
  obtain ⟨⟨⟨⟨o1, o2⟩, o3⟩, o4⟩, o5⟩ := hc
  have oT : ∀ x : Bool, (x = true) ≠ (x = false) := fun x => by cases x <;> simp
  replace h := Flo.bnd_some h
  obtain ⟨m, hm, h⟩ := h
  replace h := Flo.bnd_some h
  obtain ⟨j, hj, h⟩ := h
  replace hm := Flo.mulN_eq hm
  replace hj := Flo.f2uN_eq hj
  rw [Flo.frc_eq] at h
  have hpre : ∀ F : Prop, F → ((AV.binOk Go.BinOp.eql (fl b) (AV.lit (Value.float Go.FloatKind.f64 0))) ∧ AV.isBool (AV.bin Go.BinOp.eql (fl b) (AV.lit (Value.float Go.FloatKind.f64 0))) ∧ F) := fun F hF => ⟨⟨rfl, trivial⟩, rfl, hF⟩
  refine hpre _ ⟨fun hw => ?_, fun _ => ⟨c1, fun _ => ⟨⟨rfl, trivial⟩, rfl, o1, rfl, ?_, c2, fun _ => ⟨c3, fun _ => ⟨_, bits_fn b, ⟨rfl, trivial⟩, _, frombits_fn _, ⟨rfl, trivial⟩, rfl, o3, ⟨rfl, trivial⟩, rfl, o4, ⟨rfl, trivial⟩, rfl, o5, by simp [hm], by simp [hm, hj], by simp, ?_⟩⟩⟩⟩⟩
  · have hw' : (FloatKind.f64.format.order b 0 == some Ordering.eq) = true := hw
    rw [o1] at hw'; cases hw'
  · show (FloatKind.f64.format.order b b != some Ordering.eq) = false
    simpa using o2
  have q6 : AV.f2i .f64 .u64 (AV.bin .mul (fl b) (AV.lit (.float .f64 4608412980311869571))) = u64 (j : Nat) := by simp [hm, hj]
  rw [q6]
  have q9 : AV.i2f .f64 (u64 (j : Nat)) = fl (FloatKind.f64.nearest (j : Nat)) := rfl
  rw [q9]
  generalize hy0 : FloatKind.f64.nearest (j : Nat) = y0 at h
  clear q6 q9 hy0 hpre hm hj o1 o2 o3 o4 o5 c1 c2 c3 h0
  generalize (j : Int) = j at *
  refine ⟨⟨rfl, trivial⟩, ⟨rfl, trivial⟩, rfl, fun hw => ?_, fun hw => ?_⟩
  · have hodd : Flo.intN .and .u64 j 1 = 1 := by
      have : (Flo.intN .and .u64 j 1 == 1) = true := hw
      simpa using this
    rw [if_pos hodd] at h
    replace h := Flo.bnd_some h
    obtain ⟨y, hy, h⟩ := h
    replace hy := Flo.addN_eq hy
    have q11 : AV.bin .add (fl y0) (AV.lit (.float .f64 4607182418800017408)) = fl y := by simp [hy]
    have q17 : AV.bin .and (AV.bin .add (u64 j) (u64 1)) (u64 7) = u64 (Flo.intN .and .u64 (IntKind.u64.wrap (j + 1)) 7) := rfl
    refine ⟨⟨rfl, trivial⟩, by simp [hy], ⟨rfl, trivial⟩, ?_⟩
    rw [q11, q17]
    clear hy hw q11 q17
    generalize Flo.intN .and .u64 (IntKind.u64.wrap (j + 1)) 7 = o at *
    clear hodd
    unfold Flo.tailN at h
    replace h := Flo.bnd_some h
    obtain ⟨z, hz, h⟩ := h
    replace h := Flo.bnd_some h
    obtain ⟨zz, hzz, h⟩ := h
    obtain ⟨t1, t2, t3, t4, t5, e1, e2, e3, e4, e5, e6⟩ := redN_some hz
    replace hzz := Flo.mulN_eq hzz
    clear hz
    have r1 : AV.bin .mul (fl y) (AV.lit (.float .f64 4605249456957292544)) = fl t1 := by simp [e1]
    have r2 : AV.bin .sub (fl b) (fl t1) = fl t2 := by simp [e2]
    have r3 : AV.bin .mul (fl y) (AV.lit (.float .f64 4495793288086814720)) = fl t3 := by simp [e3]
    have r4 : AV.bin .sub (fl t2) (fl t3) = fl t4 := by simp [e4]
    have r5 : AV.bin .mul (fl y) (AV.lit (.float .f64 4388835458085048688)) = fl t5 := by simp [e5]
    have r6 : AV.bin .sub (fl t4) (fl t5) = fl z := by simp [e6]
    have r7 : AV.bin .mul (fl z) (fl z) = fl zz := by simp [hzz]
    have w1 : AV.binOk .mul (fl y) (AV.lit (.float .f64 4605249456957292544)) ↔ True := by simp [e1]
    have w2 : AV.binOk .sub (fl b) (fl t1) ↔ True := by simp [e2]
    have w3 : AV.binOk .mul (fl y) (AV.lit (.float .f64 4495793288086814720)) ↔ True := by simp [e3]
    have w4 : AV.binOk .sub (fl t2) (fl t3) ↔ True := by simp [e4]
    have w5 : AV.binOk .mul (fl y) (AV.lit (.float .f64 4388835458085048688)) ↔ True := by simp [e5]
    have w6 : AV.binOk .sub (fl t4) (fl t5) ↔ True := by simp [e6]
    have w7 : AV.binOk .mul (fl z) (fl z) ↔ True := by simp [hzz]
    simp only [r1, r2, r3, r4, r5, r6, r7, w1, w2, w3, w4, w5, w6, w7, true_and]
    clear r1 r2 r3 r4 r5 r6 r7 w1 w2 w3 w4 w5 w6 w7 e1 e2 e3 e4 e5 e6 hzz t1 t2 t3 t4 t5
    split at h
    · rename_i ho
      replace h := Flo.bnd_some h
      obtain ⟨s', h, hs⟩ := h
      simp only [Option.some.injEq] at hs
      subst hs
      refine ⟨⟨rfl, trivial⟩, rfl, fun _ => ?_, fun hw => ?_⟩
      · have q20 : AV.bin .sub (u64 o) (u64 4) = u64 (IntKind.u64.wrap (o - 4)) := rfl
        rw [q20]
        generalize IntKind.u64.wrap (o - 4) = o' at *
        refine ⟨⟨rfl, trivial⟩, ?_⟩
        unfold Flo.octN at h
        split at h
        · rename_i h1
          subst h1
          replace h := cosN_some h
          obtain ⟨t, q, u, p, v, f1, f2, f3, f4, f5, f6⟩ := h
          obtain ⟨a1, a2, a3, a4, a5, a6, a7, a8, a9, g1, g2, g3, g4, g5, g6, g7, g8, g9, g10⟩ := polyN_some f4
          clear f4
          repeat' (first
            | exact trivial
            | (with_reducible refine And.intro ?_ ?_)
            | (intro hw; first | (exfalso; revert hw; simp [*, av_and', AV.refNth, AV.mkRef, AV.rcs, AV.off]; done) | skip)
            | (simp [*, av_and', AV.refNth, AV.mkRef, AV.rcs, AV.off, AV.isRef, AV.refOk, AV.inl]; done))
        · split at h
          · rename_i h1 h2
            subst h2
            replace h := cosN_some h
            obtain ⟨t, q, u, p, v, f1, f2, f3, f4, f5, f6⟩ := h
            obtain ⟨a1, a2, a3, a4, a5, a6, a7, a8, a9, g1, g2, g3, g4, g5, g6, g7, g8, g9, g10⟩ := polyN_some f4
            clear f4
            repeat' (first
              | exact trivial
              | (with_reducible refine And.intro ?_ ?_)
              | (intro hw; first | (exfalso; revert hw; simp [*, av_and', AV.refNth, AV.mkRef, AV.rcs, AV.off]; done) | skip)
              | (simp [*, av_and', AV.refNth, AV.mkRef, AV.rcs, AV.off, AV.isRef, AV.refOk, AV.inl]; done))
          · rename_i h1 h2
            replace h := sinN_some h
            obtain ⟨u, p, v, f1, f2, f3, f4⟩ := h
            obtain ⟨a1, a2, a3, a4, a5, a6, a7, a8, a9, g1, g2, g3, g4, g5, g6, g7, g8, g9, g10⟩ := polyN_some f2
            clear f2
            repeat' (first
              | exact trivial
              | (with_reducible refine And.intro ?_ ?_)
              | (intro hw; first | (exfalso; revert hw; simp [*, av_and', AV.refNth, AV.mkRef, AV.rcs, AV.off]; done) | skip)
              | (simp [*, av_and', AV.refNth, AV.mkRef, AV.rcs, AV.off, AV.isRef, AV.refOk, AV.inl]; done))
      · have hw' : decide (o > 3) = false := hw
        simp only [decide_eq_false_iff_not] at hw'
        exact absurd ho hw'
    · rename_i ho
      refine ⟨⟨rfl, trivial⟩, rfl, fun hw => ?_, fun _ => ?_⟩
      · have hw' : decide (o > 3) = true := hw
        simp only [decide_eq_true_eq] at hw'
        exact absurd hw' ho
      · unfold Flo.octN at h
        split at h
        · rename_i h1
          subst h1
          replace h := cosN_some h
          obtain ⟨t, q, u, p, v, f1, f2, f3, f4, f5, f6⟩ := h
          obtain ⟨a1, a2, a3, a4, a5, a6, a7, a8, a9, g1, g2, g3, g4, g5, g6, g7, g8, g9, g10⟩ := polyN_some f4
          clear f4
          repeat' (first
            | exact trivial
            | (with_reducible refine And.intro ?_ ?_)
            | (intro hw; first | (exfalso; revert hw; simp [*, av_and', AV.refNth, AV.mkRef, AV.rcs, AV.off]; done) | skip)
            | (simp [*, av_and', AV.refNth, AV.mkRef, AV.rcs, AV.off, AV.isRef, AV.refOk, AV.inl]; done))
        · split at h
          · rename_i h1 h2
            subst h2
            replace h := cosN_some h
            obtain ⟨t, q, u, p, v, f1, f2, f3, f4, f5, f6⟩ := h
            obtain ⟨a1, a2, a3, a4, a5, a6, a7, a8, a9, g1, g2, g3, g4, g5, g6, g7, g8, g9, g10⟩ := polyN_some f4
            clear f4
            repeat' (first
              | exact trivial
              | (with_reducible refine And.intro ?_ ?_)
              | (intro hw; first | (exfalso; revert hw; simp [*, av_and', AV.refNth, AV.mkRef, AV.rcs, AV.off]; done) | skip)
              | (simp [*, av_and', AV.refNth, AV.mkRef, AV.rcs, AV.off, AV.isRef, AV.refOk, AV.inl]; done))
          · rename_i h1 h2
            replace h := sinN_some h
            obtain ⟨u, p, v, f1, f2, f3, f4⟩ := h
            obtain ⟨a1, a2, a3, a4, a5, a6, a7, a8, a9, g1, g2, g3, g4, g5, g6, g7, g8, g9, g10⟩ := polyN_some f2
            clear f2
            repeat' (first
              | exact trivial
              | (with_reducible refine And.intro ?_ ?_)
              | (intro hw; first | (exfalso; revert hw; simp [*, av_and', AV.refNth, AV.mkRef, AV.rcs, AV.off]; done) | skip)
              | (simp [*, av_and', AV.refNth, AV.mkRef, AV.rcs, AV.off, AV.isRef, AV.refOk, AV.inl]; done))
  · have hodd : ¬ Flo.intN .and .u64 j 1 = 1 := by
      have : (Flo.intN .and .u64 j 1 == 1) = false := hw
      simpa using this
    rw [if_neg hodd] at h
    have q17 : AV.bin .and (u64 j) (u64 7) = u64 (Flo.intN .and .u64 j 7) := rfl
    refine ⟨⟨rfl, trivial⟩, ?_⟩
    rw [q17]
    clear hw q17
    generalize Flo.intN .and .u64 j 7 = o at *
    clear hodd
    generalize y0 = y at *
    unfold Flo.tailN at h
    replace h := Flo.bnd_some h
    obtain ⟨z, hz, h⟩ := h
    replace h := Flo.bnd_some h
    obtain ⟨zz, hzz, h⟩ := h
    obtain ⟨t1, t2, t3, t4, t5, e1, e2, e3, e4, e5, e6⟩ := redN_some hz
    replace hzz := Flo.mulN_eq hzz
    clear hz
    have r1 : AV.bin .mul (fl y) (AV.lit (.float .f64 4605249456957292544)) = fl t1 := by simp [e1]
    have r2 : AV.bin .sub (fl b) (fl t1) = fl t2 := by simp [e2]
    have r3 : AV.bin .mul (fl y) (AV.lit (.float .f64 4495793288086814720)) = fl t3 := by simp [e3]
    have r4 : AV.bin .sub (fl t2) (fl t3) = fl t4 := by simp [e4]
    have r5 : AV.bin .mul (fl y) (AV.lit (.float .f64 4388835458085048688)) = fl t5 := by simp [e5]
    have r6 : AV.bin .sub (fl t4) (fl t5) = fl z := by simp [e6]
    have r7 : AV.bin .mul (fl z) (fl z) = fl zz := by simp [hzz]
    have w1 : AV.binOk .mul (fl y) (AV.lit (.float .f64 4605249456957292544)) ↔ True := by simp [e1]
    have w2 : AV.binOk .sub (fl b) (fl t1) ↔ True := by simp [e2]
    have w3 : AV.binOk .mul (fl y) (AV.lit (.float .f64 4495793288086814720)) ↔ True := by simp [e3]
    have w4 : AV.binOk .sub (fl t2) (fl t3) ↔ True := by simp [e4]
    have w5 : AV.binOk .mul (fl y) (AV.lit (.float .f64 4388835458085048688)) ↔ True := by simp [e5]
    have w6 : AV.binOk .sub (fl t4) (fl t5) ↔ True := by simp [e6]
    have w7 : AV.binOk .mul (fl z) (fl z) ↔ True := by simp [hzz]
    simp only [r1, r2, r3, r4, r5, r6, r7, w1, w2, w3, w4, w5, w6, w7, true_and]
    clear r1 r2 r3 r4 r5 r6 r7 w1 w2 w3 w4 w5 w6 w7 e1 e2 e3 e4 e5 e6 hzz t1 t2 t3 t4 t5
    split at h
    · rename_i ho
      replace h := Flo.bnd_some h
      obtain ⟨s', h, hs⟩ := h
      simp only [Option.some.injEq] at hs
      subst hs
      refine ⟨⟨rfl, trivial⟩, rfl, fun _ => ?_, fun hw => ?_⟩
      · have q20 : AV.bin .sub (u64 o) (u64 4) = u64 (IntKind.u64.wrap (o - 4)) := rfl
        rw [q20]
        generalize IntKind.u64.wrap (o - 4) = o' at *
        refine ⟨⟨rfl, trivial⟩, ?_⟩
        unfold Flo.octN at h
        split at h
        · rename_i h1
          subst h1
          replace h := cosN_some h
          obtain ⟨t, q, u, p, v, f1, f2, f3, f4, f5, f6⟩ := h
          obtain ⟨a1, a2, a3, a4, a5, a6, a7, a8, a9, g1, g2, g3, g4, g5, g6, g7, g8, g9, g10⟩ := polyN_some f4
          clear f4
          repeat' (first
            | exact trivial
            | (with_reducible refine And.intro ?_ ?_)
            | (intro hw; first | (exfalso; revert hw; simp [*, av_and', AV.refNth, AV.mkRef, AV.rcs, AV.off]; done) | skip)
            | (simp [*, av_and', AV.refNth, AV.mkRef, AV.rcs, AV.off, AV.isRef, AV.refOk, AV.inl]; done))
        · split at h
          · rename_i h1 h2
            subst h2
            replace h := cosN_some h
            obtain ⟨t, q, u, p, v, f1, f2, f3, f4, f5, f6⟩ := h
            obtain ⟨a1, a2, a3, a4, a5, a6, a7, a8, a9, g1, g2, g3, g4, g5, g6, g7, g8, g9, g10⟩ := polyN_some f4
            clear f4
            repeat' (first
              | exact trivial
              | (with_reducible refine And.intro ?_ ?_)
              | (intro hw; first | (exfalso; revert hw; simp [*, av_and', AV.refNth, AV.mkRef, AV.rcs, AV.off]; done) | skip)
              | (simp [*, av_and', AV.refNth, AV.mkRef, AV.rcs, AV.off, AV.isRef, AV.refOk, AV.inl]; done))
          · rename_i h1 h2
            replace h := sinN_some h
            obtain ⟨u, p, v, f1, f2, f3, f4⟩ := h
            obtain ⟨a1, a2, a3, a4, a5, a6, a7, a8, a9, g1, g2, g3, g4, g5, g6, g7, g8, g9, g10⟩ := polyN_some f2
            clear f2
            repeat' (first
              | exact trivial
              | (with_reducible refine And.intro ?_ ?_)
              | (intro hw; first | (exfalso; revert hw; simp [*, av_and', AV.refNth, AV.mkRef, AV.rcs, AV.off]; done) | skip)
              | (simp [*, av_and', AV.refNth, AV.mkRef, AV.rcs, AV.off, AV.isRef, AV.refOk, AV.inl]; done))
      · have hw' : decide (o > 3) = false := hw
        simp only [decide_eq_false_iff_not] at hw'
        exact absurd ho hw'
    · rename_i ho
      refine ⟨⟨rfl, trivial⟩, rfl, fun hw => ?_, fun _ => ?_⟩
      · have hw' : decide (o > 3) = true := hw
        simp only [decide_eq_true_eq] at hw'
        exact absurd hw' ho
      · unfold Flo.octN at h
        split at h
        · rename_i h1
          subst h1
          replace h := cosN_some h
          obtain ⟨t, q, u, p, v, f1, f2, f3, f4, f5, f6⟩ := h
          obtain ⟨a1, a2, a3, a4, a5, a6, a7, a8, a9, g1, g2, g3, g4, g5, g6, g7, g8, g9, g10⟩ := polyN_some f4
          clear f4
          repeat' (first
            | exact trivial
            | (with_reducible refine And.intro ?_ ?_)
            | (intro hw; first | (exfalso; revert hw; simp [*, av_and', AV.refNth, AV.mkRef, AV.rcs, AV.off]; done) | skip)
            | (simp [*, av_and', AV.refNth, AV.mkRef, AV.rcs, AV.off, AV.isRef, AV.refOk, AV.inl]; done))
        · split at h
          · rename_i h1 h2
            subst h2
            replace h := cosN_some h
            obtain ⟨t, q, u, p, v, f1, f2, f3, f4, f5, f6⟩ := h
            obtain ⟨a1, a2, a3, a4, a5, a6, a7, a8, a9, g1, g2, g3, g4, g5, g6, g7, g8, g9, g10⟩ := polyN_some f4
            clear f4
            repeat' (first
              | exact trivial
              | (with_reducible refine And.intro ?_ ?_)
              | (intro hw; first | (exfalso; revert hw; simp [*, av_and', AV.refNth, AV.mkRef, AV.rcs, AV.off]; done) | skip)
              | (simp [*, av_and', AV.refNth, AV.mkRef, AV.rcs, AV.off, AV.isRef, AV.refOk, AV.inl]; done))
          · rename_i h1 h2
            replace h := sinN_some h
            obtain ⟨u, p, v, f1, f2, f3, f4⟩ := h
            obtain ⟨a1, a2, a3, a4, a5, a6, a7, a8, a9, g1, g2, g3, g4, g5, g6, g7, g8, g9, g10⟩ := polyN_some f2
            clear f2
            repeat' (first
              | exact trivial
              | (with_reducible refine And.intro ?_ ?_)
              | (intro hw; first | (exfalso; revert hw; simp [*, av_and', AV.refNth, AV.mkRef, AV.rcs, AV.off]; done) | skip)
              | (simp [*, av_and', AV.refNth, AV.mkRef, AV.rcs, AV.off, AV.isRef, AV.refOk, AV.inl]; done))
/-- The sine, as the program has it. -/
def sinV (h : Int) : Int := (Flo.sinI (h % 4096).toNat).getD 0
theorem sin_ok (h : Int) : Flo.sinI (h % 4096).toNat = some (sinV h) ∧ -16384 ≤ sinV h ∧ sinV h ≤ 16384 := by
  have hk : Flo.okH (h % 4096).toNat = true := by
    have hlt : (h % 4096).toNat < 4096 := by omega
    generalize (h % 4096).toNat = n at hlt
    have key : ∀ k, k < 16 → Flo.allB (fun i => Flo.okH (256 * k + i)) 256 = true := fun k hk => by
      match k, hk with
      | 0, _ => exact Flo.ok0 | 1, _ => exact Flo.ok1 | 2, _ => exact Flo.ok2 | 3, _ => exact Flo.ok3
      | 4, _ => exact Flo.ok4 | 5, _ => exact Flo.ok5 | 6, _ => exact Flo.ok6 | 7, _ => exact Flo.ok7
      | 8, _ => exact Flo.ok8 | 9, _ => exact Flo.ok9 | 10, _ => exact Flo.ok10 | 11, _ => exact Flo.ok11
      | 12, _ => exact Flo.ok12 | 13, _ => exact Flo.ok13 | 14, _ => exact Flo.ok14 | 15, _ => exact Flo.ok15
      | k + 16, hk => exact absurd hk (by omega)
    have := Flo.allB_spec (key (n / 256) (by omega)) (n % 256) (by omega)
    rwa [Nat.div_add_mod] at this
  unfold sinV
  generalize (h % 4096).toNat = n at *
  unfold Flo.okH at hk
  split at hk
  · rename_i m hm
    rw [hm]
    simp only [decide_eq_true_eq] at hk
    exact ⟨rfl, hk⟩
  · cases hk
theorem sin_fn (h : Int) (h1 : -9223372036854775808 ≤ h) (h2 : h ≤ 9223372036854775807) : Fn Tryd.prog 42 [.int h] .sc (.int (sinV h)) := by
  refine fn_run mixed 3 (Γ := AngF.Γ) (ann := AngF.ann) Tryd.func42 rfl Tryd.call42 ((AngF.sin_form _ _).mpr ?_)
  obtain ⟨hs, _⟩ := sin_ok h
  refine ⟨_, norm_fn h h1 h2, ?_⟩
  have hn : ((h % 4096).toNat : Int) = h % 4096 := by omega
  rw [← hn]
  generalize (h % 4096).toNat = n at *
  unfold Flo.sinI at hs
  replace hs := Flo.bnd_some hs
  obtain ⟨x, hx, hs⟩ := hs
  replace hs := Flo.bnd_some hs
  obtain ⟨s, hm, hs⟩ := hs
  replace hs := Flo.bnd_some hs
  obtain ⟨t, ht, hs⟩ := hs
  rw [Flo.frc_eq] at hs
  unfold Flo.argN at hx
  replace hx := Flo.bnd_some hx
  obtain ⟨a, ha, hx⟩ := hx
  replace ha := Flo.mulN_eq ha
  replace ht := Flo.mulN_eq ht
  have q1 : AV.bin .mul (AV.i2f .f64 (.int n)) (AV.lit (.float .f64 4614256656552045848)) = fl a := by simp [ha]
  have q2 : AV.bin .quo (fl a) (AV.lit (.float .f64 4656722014701092864)) = fl x := by simp [hx]
  have q3 : AV.bin .mul (AV.lit (.float .f64 4670232813583204352)) (fl s) = fl t := by simp [ht]
  rw [q1, q2]
  refine ⟨⟨_, _, rfl⟩, by simp [ha], by simp [hx], Tryd.call61, fun _ => ⟨_, msin_fn hm, by simp [ht], ?_⟩⟩
  rw [q3]
  exact ⟨_, round_fn t, by simp [hs], by simp, by simp [hs]⟩
theorem cos_fn (h : Int) (h1 : -9223372036854775808 ≤ h) (h2 : h ≤ 9223372036854775807) : Fn Tryd.prog 43 [.int h] .sc (.int (sinV (h % 4096 + 1024))) := by
  refine fn_run mixed 3 (Γ := AngF.Γ) (ann := AngF.ann) Tryd.func43 rfl Tryd.call43 ((AngF.cos_form _ _).mpr ?_)
  refine ⟨_, norm_fn h h1 h2, ⟨rfl, trivial⟩, ?_⟩
  have q : AV.bin .add (.int (h % 4096)) (AV.int 1024) = .int (h % 4096 + 1024) := by
    rw [av_add, wrap64 (by omega) (by omega)]
  rw [q]
  exact ⟨_, sin_fn _ (by omega) (by omega), by simp, by simp⟩
def nearV (n : Int) : Int := if n < 0 then -((-n + 8192).tdiv 16384) else (n + 8192).tdiv 16384
theorem near_fn (n : Int) (h1 : -1000000000000 ≤ n) (h2 : n ≤ 1000000000000) : Fn Tryd.prog 41 [.int n, .int 16384] .sc (.int (nearV n)) := by
  have pos : ∀ n : Int, 0 ≤ n → n ≤ 1000000000000 → Fn Tryd.prog 41 [.int n, .int 16384] .sc (.int ((n + 8192).tdiv 16384)) := fun n h1 h2 => by
    refine fn_run mixed 3 (Γ := AngF.Γ) (ann := AngF.ann) Tryd.func41 rfl Tryd.call41 ((AngF.near_form _ _ _).mpr ?_)
    refine ⟨⟨rfl, trivial⟩, rfl, fun hw => ?_, fun _ => ?_⟩
    · exfalso; simp at hw; omega
    · have e0 : (16384 : Int).tdiv 2 = 8192 := by decide
      have e1 : IntKind.i64.wrap (n + 8192) = n + 8192 := wrap64 (by omega) (by omega)
      have e3 : (n + 8192).tdiv 16384 = (n + 8192) / 16384 := Int.tdiv_eq_ediv_of_nonneg (by omega)
      have e2 : IntKind.i64.wrap ((n + 8192).tdiv 16384) = (n + 8192).tdiv 16384 := wrap64 (by rw [e3]; omega) (by rw [e3]; omega)
      have e4 : IntKind.i64.wrap 8192 = 8192 := by decide
      simp [e0, e1, e2, e4]
  unfold nearV
  split
  · rename_i hn
    refine fn_run mixed 3 (Γ := AngF.Γ) (ann := AngF.ann) Tryd.func41 rfl Tryd.call41 ((AngF.near_form _ _ _).mpr ?_)
    have q : AV.un .neg (.int n) = .int (-n) := by
      show AV.lit (.int .i64 (IntKind.i64.wrap (0 - n))) = _
      rw [wrap64 (by omega) (by omega)]; congr 2; omega
    rw [q]
    refine ⟨⟨rfl, trivial⟩, rfl, fun _ => ⟨trivial, _, pos (-n) (by omega) (by omega), trivial, .lit _, ?_⟩, fun hw => ?_⟩
    · have e3 : (-n + 8192).tdiv 16384 = (-n + 8192) / 16384 := Int.tdiv_eq_ediv_of_nonneg (by omega)
      show AV.lit (.int .i64 (IntKind.i64.wrap (0 - (-n + 8192).tdiv 16384))) = _
      rw [wrap64 (by rw [e3]; omega) (by rw [e3]; omega)]; congr 2; omega
    · exfalso; simp at hw; omega
  · exact pos n (by omega) h2
def vecV (h l : Int) : Int × Int := (nearV (l * sinV h), nearV (l * sinV (h % 4096 + 1024)))
def vecE (l : Int) : Int := if l < 0 ∨ l > 2000000 then 4 else 0
/-- angle.Vector. -/
theorem vec_fn (h l : Int) (h1 : -9223372036854775808 ≤ h) (h2 : h ≤ 9223372036854775807) : Fn Tryd.prog 27 [.int h, .int l] (.tup [.agg [.sc, .sc], .sc]) (.tup [.agg [.int (if vecE l = 0 then (vecV h l).1 else 0), .int (if vecE l = 0 then (vecV h l).2 else 0)], .int (vecE l)]) := by
  refine fn_run mixed 3 (Γ := AngF.Γ) (ann := AngF.ann) Tryd.func27 rfl Tryd.call27 ((AngF.vec_form _ _ _).mpr ?_)
  by_cases hl : l < 0 ∨ l > 2000000
  · have e : vecE l = 4 := if_pos hl
    rw [e]
    by_cases h0 : l < 0
    · simp [h0]
    · have h3 : l > 2000000 := by omega
      simp [h0, h3]
  · have e : vecE l = 0 := if_neg hl
    rw [e]
    have h0 : ¬ l < 0 := by omega
    have h3 : ¬ l > 2000000 := by omega
    obtain ⟨_, s1, s2⟩ := sin_ok h
    obtain ⟨_, s3, s4⟩ := sin_ok (h % 4096 + 1024)
    have b1 : ∀ s : Int, -16384 ≤ s → s ≤ 16384 → -1000000000000 ≤ l * s ∧ l * s ≤ 1000000000000 := fun s a b => by
      have p1 : l * s ≤ l * 16384 := Int.mul_le_mul_of_nonneg_left b (by omega)
      have p2 : l * (-16384) ≤ l * s := Int.mul_le_mul_of_nonneg_left a (by omega)
      omega
    obtain ⟨x1, x2⟩ := b1 _ s1 s2
    obtain ⟨x3, x4⟩ := b1 _ s3 s4
    refine ⟨⟨rfl, trivial⟩, rfl, fun hw => ?_, fun _ => ⟨⟨rfl, trivial⟩, rfl, ?_, rfl, fun hw => ?_, fun _ => ?_⟩⟩
    · exfalso; simp at hw; omega
    · simpa using h0
    · exfalso; simp at hw; omega
    · refine ⟨_, sin_fn h h1 h2, ⟨rfl, trivial⟩, ?_⟩
      have q1 : AV.bin .mul (.int l) (.int (sinV h)) = .int (l * sinV h) := by rw [av_mul, wrap64 (by omega) (by omega)]
      rw [q1]
      refine ⟨_, near_fn _ x1 x2, _, cos_fn h h1 h2, ⟨rfl, trivial⟩, ?_⟩
      have q2 : AV.bin .mul (.int l) (.int (sinV (h % 4096 + 1024))) = .int (l * sinV (h % 4096 + 1024)) := by rw [av_mul, wrap64 (by omega) (by omega)]
      rw [q2]
      refine ⟨_, near_fn _ x3 x4, rfl, rfl, .lit _, .lit _, .lit _, ?_⟩
      simp [vecV]
end Go.Proofs.YtdlakpomcafemaaDoor
