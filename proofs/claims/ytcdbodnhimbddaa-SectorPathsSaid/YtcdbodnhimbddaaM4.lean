/- Texts of one proof, part 4: plain values, a run over them, contracts of functions. -/
import Derived.Test.YtcdbodnhimbddaaM3
/- planes, polygons, volumes: what the run ends in. -/
namespace Go.Proofs.Ytcdbodnhimbddaa
open Go.RowKit
set_option linter.unusedVariables false
set_option maxRecDepth 100000
namespace SecF
--GAMMA
def Γ : FuncId → Option Ca := fun f =>
  if f = 12 ∨ f = 62 ∨ f = 67 ∨ f = 61 ∨ f = 51 ∨ f = 66 ∨ f = 52 ∨ f = 50 ∨ f = 68 ∨ f = 63 ∨ f = 53 ∨ f = 54 ∨ f = 36 ∨ f = 58 ∨ f = 56 ∨ f = 23 ∨ f = 42 ∨ f = 10 ∨ f = 28 ∨ f = 11 ∨ f = 8 ∨ f = 29 ∨ f = 13 ∨ f = 17 ∨ f = 33 ∨ f = 7 ∨ f = 9 ∨ f = 15 ∨ f = 27 ∨ f = 19 then some (.fn .sc)
  else if f = 48 ∨ f = 49 ∨ f = 47 ∨ f = 43 ∨ f = 35 ∨ f = 38 ∨ f = 30 ∨ f = 26 ∨ f = 14 ∨ f = 21 ∨ f = 32 ∨ f = 18 then some (.fn (.tup [.sc, .sc]))
  else if f = 55 then some (.fn (.row 29 2 true))
  else if f = 22 then some (.fn (.row 44 6 true))
  else if f = 20 then some (.fn (.row 60 2 false))
  else if f = 34 then some (.fn (.agg [.row 29 2 true, .sc, .sc]))
  else if f = 31 then some (.fn (.row 52 3 true))
  else if f = 16 then some (.fn (.tup [.row 52 3 true, .sc]))
  else if f = 64 then some (.upd false)
  else some .inl
def ann : FuncId → Nat → LoopEx := fun f r => if f = 8 ∧ r = 25 then ⟨[], [], [], [(3, 2, 0, 0)]⟩ else ⟨[], [], [], []⟩
--END GAMMA
theorem pcheck_form (x0 r : AV) : fnF Try.prog Γ ann 3 12 Try.f12 (Try.f12.body.getD .skip) (.nil) [x0] (.sc) r = (((AV.isAgg x0 2) ∧
((AV.binOk Go.BinOp.lss (AV.cel x0 0) (AV.int (-1000000))) ∧
((AV.isBool (AV.bin Go.BinOp.lss (AV.cel x0 0) (AV.int (-1000000)))) ∧
(((isT (AV.bin Go.BinOp.lss (AV.cel x0 0) (AV.int (-1000000)))) →
  ((AV.isBool (AV.bin Go.BinOp.lss (AV.cel x0 0) (AV.int (-1000000)))) ∧
  ((isT (AV.bin Go.BinOp.lss (AV.cel x0 0) (AV.int (-1000000)))) ∧
  ((AV.flat (AV.int 4)) ∧
  (fSame (AV.int 4) r))))) ∧
((isF (AV.bin Go.BinOp.lss (AV.cel x0 0) (AV.int (-1000000)))) →
  ((AV.binOk Go.BinOp.gtr (AV.cel x0 0) (AV.int 1000000)) ∧
  ((AV.isBool (AV.bin Go.BinOp.lss (AV.cel x0 0) (AV.int (-1000000)))) ∧
  ((isF (AV.bin Go.BinOp.lss (AV.cel x0 0) (AV.int (-1000000)))) ∧
  ((AV.isBool (AV.bin Go.BinOp.gtr (AV.cel x0 0) (AV.int 1000000))) ∧
  (((isT (AV.bin Go.BinOp.gtr (AV.cel x0 0) (AV.int 1000000))) →
    ((AV.isBool (AV.bin Go.BinOp.gtr (AV.cel x0 0) (AV.int 1000000))) ∧
    ((isT (AV.bin Go.BinOp.gtr (AV.cel x0 0) (AV.int 1000000))) ∧
    ((AV.flat (AV.int 4)) ∧
    (fSame (AV.int 4) r))))) ∧
  ((isF (AV.bin Go.BinOp.gtr (AV.cel x0 0) (AV.int 1000000))) →
    ((AV.binOk Go.BinOp.lss (AV.cel x0 1) (AV.int (-1000000))) ∧
    ((AV.isBool (AV.bin Go.BinOp.gtr (AV.cel x0 0) (AV.int 1000000))) ∧
    ((isF (AV.bin Go.BinOp.gtr (AV.cel x0 0) (AV.int 1000000))) ∧
    ((AV.isBool (AV.bin Go.BinOp.lss (AV.cel x0 1) (AV.int (-1000000)))) ∧
    (((isT (AV.bin Go.BinOp.lss (AV.cel x0 1) (AV.int (-1000000)))) →
      ((AV.isBool (AV.bin Go.BinOp.lss (AV.cel x0 1) (AV.int (-1000000)))) ∧
      ((isT (AV.bin Go.BinOp.lss (AV.cel x0 1) (AV.int (-1000000)))) ∧
      ((AV.flat (AV.int 4)) ∧
      (fSame (AV.int 4) r))))) ∧
    ((isF (AV.bin Go.BinOp.lss (AV.cel x0 1) (AV.int (-1000000)))) →
      ((AV.binOk Go.BinOp.gtr (AV.cel x0 1) (AV.int 1000000)) ∧
      ((AV.isBool (AV.bin Go.BinOp.lss (AV.cel x0 1) (AV.int (-1000000)))) ∧
      ((isF (AV.bin Go.BinOp.lss (AV.cel x0 1) (AV.int (-1000000)))) ∧
      ((AV.isBool (AV.bin Go.BinOp.gtr (AV.cel x0 1) (AV.int 1000000))) ∧
      (((isT (AV.bin Go.BinOp.gtr (AV.cel x0 1) (AV.int 1000000))) →
        ((AV.flat (AV.int 4)) ∧
        (fSame (AV.int 4) r))) ∧
      ((isF (AV.bin Go.BinOp.gtr (AV.cel x0 1) (AV.int 1000000))) →
        ((AV.flat (AV.int 0)) ∧
        (fSame (AV.int 0) r)))))))))))))))))))))))))) := by kernel_rfl
theorem sub_form (x0 x1 r : AV) : fnF Try.prog Γ ann 3 62 Try.f62 (Try.f62.body.getD .skip) (.nil) [x0, x1] (.sc) r = (((AV.isAgg x0 2) ∧
((AV.isAgg x1 2) ∧
((AV.binOk Go.BinOp.sub (AV.cel x0 0) (AV.cel x1 0)) ∧
((AV.binOk Go.BinOp.sub (AV.cel x0 1) (AV.cel x1 1)) ∧
((AV.isOne (AV.bin Go.BinOp.sub (AV.cel x0 0) (AV.cel x1 0))) ∧
((AV.isOne (AV.bin Go.BinOp.sub (AV.cel x0 1) (AV.cel x1 1))) ∧
((AV.flat (AV.agg [(AV.bin Go.BinOp.sub (AV.cel x0 0) (AV.cel x1 0)), (AV.bin Go.BinOp.sub (AV.cel x0 1) (AV.cel x1 1))])) ∧
(fSame (AV.agg [(AV.bin Go.BinOp.sub (AV.cel x0 0) (AV.cel x1 0)), (AV.bin Go.BinOp.sub (AV.cel x0 1) (AV.cel x1 1))]) r))))))))) := by kernel_rfl
theorem dot_form (x0 x1 r : AV) : fnF Try.prog Γ ann 3 67 Try.f67 (Try.f67.body.getD .skip) (.nil) [x0, x1] (.sc) r = (((AV.isAgg x0 2) ∧
((AV.isAgg x1 2) ∧
((AV.binOk Go.BinOp.mul (AV.cel x0 0) (AV.cel x1 0)) ∧
((AV.binOk Go.BinOp.mul (AV.cel x0 1) (AV.cel x1 1)) ∧
((AV.binOk Go.BinOp.add (AV.bin Go.BinOp.mul (AV.cel x0 0) (AV.cel x1 0)) (AV.bin Go.BinOp.mul (AV.cel x0 1) (AV.cel x1 1))) ∧
((AV.flat (AV.bin Go.BinOp.add (AV.bin Go.BinOp.mul (AV.cel x0 0) (AV.cel x1 0)) (AV.bin Go.BinOp.mul (AV.cel x0 1) (AV.cel x1 1)))) ∧
(fSame (AV.bin Go.BinOp.add (AV.bin Go.BinOp.mul (AV.cel x0 0) (AV.cel x1 0)) (AV.bin Go.BinOp.mul (AV.cel x0 1) (AV.cel x1 1))) r)))))))) := by kernel_rfl
theorem cross_form (x0 x1 r : AV) : fnF Try.prog Γ ann 3 61 Try.f61 (Try.f61.body.getD .skip) (.nil) [x0, x1] (.sc) r = (((AV.isAgg x0 2) ∧
((AV.isAgg x1 2) ∧
((AV.binOk Go.BinOp.mul (AV.cel x0 0) (AV.cel x1 1)) ∧
((AV.binOk Go.BinOp.mul (AV.cel x0 1) (AV.cel x1 0)) ∧
((AV.binOk Go.BinOp.sub (AV.bin Go.BinOp.mul (AV.cel x0 0) (AV.cel x1 1)) (AV.bin Go.BinOp.mul (AV.cel x0 1) (AV.cel x1 0))) ∧
((AV.flat (AV.bin Go.BinOp.sub (AV.bin Go.BinOp.mul (AV.cel x0 0) (AV.cel x1 1)) (AV.bin Go.BinOp.mul (AV.cel x0 1) (AV.cel x1 0)))) ∧
(fSame (AV.bin Go.BinOp.sub (AV.bin Go.BinOp.mul (AV.cel x0 0) (AV.cel x1 1)) (AV.bin Go.BinOp.mul (AV.cel x0 1) (AV.cel x1 0))) r)))))))) := by kernel_rfl
theorem turn_form (x0 x1 x2 r : AV) : fnF Try.prog Γ ann 3 51 Try.f51 (Try.f51.body.getD .skip) (.nil) [x0, x1, x2] (.sc) r = (((AV.isAgg x0 2) ∧
((AV.isAgg x1 2) ∧
((AV.isAgg x2 2) ∧
(∃ r385 : AV, ((Fn Try.prog 62 [(AV.agg [(AV.cel x1 0), (AV.cel x1 1)]), (AV.agg [(AV.cel x0 0), (AV.cel x0 1)])] Sh.sc r385) ∧
(∃ r577 : AV, ((Fn Try.prog 62 [(AV.agg [(AV.cel x2 0), (AV.cel x2 1)]), (AV.agg [(AV.cel x0 0), (AV.cel x0 1)])] Sh.sc r577) ∧
(∃ r641 : AV, ((Fn Try.prog 61 [r385, r577] Sh.sc r641) ∧
((AV.binOk Go.BinOp.gtr r641 (AV.int 0)) ∧
((AV.isBool (AV.bin Go.BinOp.gtr r641 (AV.int 0))) ∧
(((isT (AV.bin Go.BinOp.gtr r641 (AV.int 0))) →
  ((AV.flat (AV.int 1)) ∧
  (fSame (AV.int 1) r))) ∧
((isF (AV.bin Go.BinOp.gtr r641 (AV.int 0))) →
  ((AV.binOk Go.BinOp.lss r641 (AV.int 0)) ∧
  ((AV.isBool (AV.bin Go.BinOp.lss r641 (AV.int 0))) ∧
  (((isT (AV.bin Go.BinOp.lss r641 (AV.int 0))) →
    ((AV.flat (AV.int (-1))) ∧
    (fSame (AV.int (-1)) r))) ∧
  ((isF (AV.bin Go.BinOp.lss r641 (AV.int 0))) →
    ((AV.flat (AV.int 0)) ∧
    (fSame (AV.int 0) r)))))))))))))))))))) := by kernel_rfl
theorem square_form (x0 x1 r : AV) : fnF Try.prog Γ ann 3 66 Try.f66 (Try.f66.body.getD .skip) (.nil) [x0, x1] (.sc) r = (((AV.isAgg x0 2) ∧
((AV.isAgg x1 2) ∧
(∃ r321 : AV, ((Fn Try.prog 62 [(AV.agg [(AV.cel x0 0), (AV.cel x0 1)]), (AV.agg [(AV.cel x1 0), (AV.cel x1 1)])] Sh.sc r321) ∧
((AV.isAgg r321 2) ∧
(∃ r641 : AV, ((Fn Try.prog 67 [(AV.agg [(AV.cel r321 0), (AV.cel r321 1)]), (AV.agg [(AV.cel r321 0), (AV.cel r321 1)])] Sh.sc r641) ∧
((AV.flat r641) ∧
(fSame r641 r)))))))))) := by kernel_rfl
theorem divd_form (x0 x1 r : AV) : fnF Try.prog Γ ann 3 48 Try.f48 (Try.f48.body.getD .skip) (.nil) [x0, x1] (.tup [.sc, .sc]) r = (((AV.binOk Go.BinOp.eql x1 (AV.int 0)) ∧
((AV.isBool (AV.bin Go.BinOp.eql x1 (AV.int 0))) ∧
(((isT (AV.bin Go.BinOp.eql x1 (AV.int 0))) →
  ((AV.flat (AV.int 0)) ∧
  ((AV.flat (AV.int 10)) ∧
  (fSame (AV.tup [(AV.int 0), (AV.int 10)]) r)))) ∧
((isF (AV.bin Go.BinOp.eql x1 (AV.int 0))) →
  ((AV.binOk Go.BinOp.eql x0 (AV.int (-9223372036854775808))) ∧
  ((AV.isBool (AV.bin Go.BinOp.eql x0 (AV.int (-9223372036854775808)))) ∧
  (((isT (AV.bin Go.BinOp.eql x0 (AV.int (-9223372036854775808)))) →
    ((AV.binOk Go.BinOp.eql x1 (AV.int (-1))) ∧
    ((AV.isBool (AV.bin Go.BinOp.eql x0 (AV.int (-9223372036854775808)))) ∧
    ((isT (AV.bin Go.BinOp.eql x0 (AV.int (-9223372036854775808)))) ∧
    ((AV.isBool (AV.bin Go.BinOp.eql x1 (AV.int (-1)))) ∧
    (((isT (AV.bin Go.BinOp.eql x1 (AV.int (-1)))) →
      ((AV.flat (AV.int 0)) ∧
      ((AV.flat (AV.int 2)) ∧
      (fSame (AV.tup [(AV.int 0), (AV.int 2)]) r)))) ∧
    ((isF (AV.bin Go.BinOp.eql x1 (AV.int (-1)))) →
      ((AV.binOk Go.BinOp.quo x0 x1) ∧
      ((AV.binOk Go.BinOp.rem x0 x1) ∧
      ((AV.binOk Go.BinOp.neq (AV.bin Go.BinOp.rem x0 x1) (AV.int 0)) ∧
      ((AV.isBool (AV.bin Go.BinOp.neq (AV.bin Go.BinOp.rem x0 x1) (AV.int 0))) ∧
      (((isT (AV.bin Go.BinOp.neq (AV.bin Go.BinOp.rem x0 x1) (AV.int 0))) →
        ((AV.binOk Go.BinOp.lss x0 (AV.int 0)) ∧
        ((AV.binOk Go.BinOp.lss x1 (AV.int 0)) ∧
        ((AV.isBool (AV.bin Go.BinOp.lss x0 (AV.int 0))) ∧
        ((AV.isBool (AV.bin Go.BinOp.lss x1 (AV.int 0))) ∧
        ((AV.isBool (AV.bin Go.BinOp.neq (AV.bin Go.BinOp.rem x0 x1) (AV.int 0))) ∧
        ((isT (AV.bin Go.BinOp.neq (AV.bin Go.BinOp.rem x0 x1) (AV.int 0))) ∧
        ((AV.isBool (AV.neB (AV.bin Go.BinOp.lss x0 (AV.int 0)) (AV.bin Go.BinOp.lss x1 (AV.int 0)))) ∧
        (((isT (AV.neB (AV.bin Go.BinOp.lss x0 (AV.int 0)) (AV.bin Go.BinOp.lss x1 (AV.int 0)))) →
          ((AV.binOk Go.BinOp.sub (AV.bin Go.BinOp.quo x0 x1) (AV.int 1)) ∧
          ((AV.flat (AV.bin Go.BinOp.sub (AV.bin Go.BinOp.quo x0 x1) (AV.int 1))) ∧
          ((AV.flat (AV.int 0)) ∧
          (fSame (AV.tup [(AV.bin Go.BinOp.sub (AV.bin Go.BinOp.quo x0 x1) (AV.int 1)), (AV.int 0)]) r))))) ∧
        ((isF (AV.neB (AV.bin Go.BinOp.lss x0 (AV.int 0)) (AV.bin Go.BinOp.lss x1 (AV.int 0)))) →
          ((AV.flat (AV.bin Go.BinOp.quo x0 x1)) ∧
          ((AV.flat (AV.int 0)) ∧
          (fSame (AV.tup [(AV.bin Go.BinOp.quo x0 x1), (AV.int 0)]) r))))))))))))) ∧
      ((isF (AV.bin Go.BinOp.neq (AV.bin Go.BinOp.rem x0 x1) (AV.int 0))) →
        ((AV.isBool (AV.bin Go.BinOp.neq (AV.bin Go.BinOp.rem x0 x1) (AV.int 0))) ∧
        ((isF (AV.bin Go.BinOp.neq (AV.bin Go.BinOp.rem x0 x1) (AV.int 0))) ∧
        ((AV.flat (AV.bin Go.BinOp.quo x0 x1)) ∧
        ((AV.flat (AV.int 0)) ∧
        (fSame (AV.tup [(AV.bin Go.BinOp.quo x0 x1), (AV.int 0)]) r)))))))))))))))))) ∧
  ((isF (AV.bin Go.BinOp.eql x0 (AV.int (-9223372036854775808)))) →
    ((AV.isBool (AV.bin Go.BinOp.eql x0 (AV.int (-9223372036854775808)))) ∧
    ((isF (AV.bin Go.BinOp.eql x0 (AV.int (-9223372036854775808)))) ∧
    ((AV.binOk Go.BinOp.quo x0 x1) ∧
    ((AV.binOk Go.BinOp.rem x0 x1) ∧
    ((AV.binOk Go.BinOp.neq (AV.bin Go.BinOp.rem x0 x1) (AV.int 0)) ∧
    ((AV.isBool (AV.bin Go.BinOp.neq (AV.bin Go.BinOp.rem x0 x1) (AV.int 0))) ∧
    (((isT (AV.bin Go.BinOp.neq (AV.bin Go.BinOp.rem x0 x1) (AV.int 0))) →
      ((AV.binOk Go.BinOp.lss x0 (AV.int 0)) ∧
      ((AV.binOk Go.BinOp.lss x1 (AV.int 0)) ∧
      ((AV.isBool (AV.bin Go.BinOp.lss x0 (AV.int 0))) ∧
      ((AV.isBool (AV.bin Go.BinOp.lss x1 (AV.int 0))) ∧
      ((AV.isBool (AV.bin Go.BinOp.neq (AV.bin Go.BinOp.rem x0 x1) (AV.int 0))) ∧
      ((isT (AV.bin Go.BinOp.neq (AV.bin Go.BinOp.rem x0 x1) (AV.int 0))) ∧
      ((AV.isBool (AV.neB (AV.bin Go.BinOp.lss x0 (AV.int 0)) (AV.bin Go.BinOp.lss x1 (AV.int 0)))) ∧
      (((isT (AV.neB (AV.bin Go.BinOp.lss x0 (AV.int 0)) (AV.bin Go.BinOp.lss x1 (AV.int 0)))) →
        ((AV.binOk Go.BinOp.sub (AV.bin Go.BinOp.quo x0 x1) (AV.int 1)) ∧
        ((AV.flat (AV.bin Go.BinOp.sub (AV.bin Go.BinOp.quo x0 x1) (AV.int 1))) ∧
        ((AV.flat (AV.int 0)) ∧
        (fSame (AV.tup [(AV.bin Go.BinOp.sub (AV.bin Go.BinOp.quo x0 x1) (AV.int 1)), (AV.int 0)]) r))))) ∧
      ((isF (AV.neB (AV.bin Go.BinOp.lss x0 (AV.int 0)) (AV.bin Go.BinOp.lss x1 (AV.int 0)))) →
        ((AV.flat (AV.bin Go.BinOp.quo x0 x1)) ∧
        ((AV.flat (AV.int 0)) ∧
        (fSame (AV.tup [(AV.bin Go.BinOp.quo x0 x1), (AV.int 0)]) r))))))))))))) ∧
    ((isF (AV.bin Go.BinOp.neq (AV.bin Go.BinOp.rem x0 x1) (AV.int 0))) →
      ((AV.isBool (AV.bin Go.BinOp.neq (AV.bin Go.BinOp.rem x0 x1) (AV.int 0))) ∧
      ((isF (AV.bin Go.BinOp.neq (AV.bin Go.BinOp.rem x0 x1) (AV.int 0))) ∧
      ((AV.flat (AV.bin Go.BinOp.quo x0 x1)) ∧
      ((AV.flat (AV.int 0)) ∧
      (fSame (AV.tup [(AV.bin Go.BinOp.quo x0 x1), (AV.int 0)]) r)))))))))))))))))))))) := by kernel_rfl
theorem divu_form (x0 x1 r : AV) : fnF Try.prog Γ ann 3 49 Try.f49 (Try.f49.body.getD .skip) (.nil) [x0, x1] (.tup [.sc, .sc]) r = ((∃ r257 : AV, ((Fn Try.prog 48 [x0, x1] (Sh.tup [Sh.sc, Sh.sc]) r257) ∧
((AV.binOk Go.BinOp.eql (AV.prj r257 1) (AV.int 0)) ∧
((AV.isBool (AV.bin Go.BinOp.eql (AV.prj r257 1) (AV.int 0))) ∧
(((isT (AV.bin Go.BinOp.eql (AV.prj r257 1) (AV.int 0))) →
  ((AV.binOk Go.BinOp.rem x0 x1) ∧
  ((AV.binOk Go.BinOp.neq (AV.bin Go.BinOp.rem x0 x1) (AV.int 0)) ∧
  ((AV.isBool (AV.bin Go.BinOp.eql (AV.prj r257 1) (AV.int 0))) ∧
  ((isT (AV.bin Go.BinOp.eql (AV.prj r257 1) (AV.int 0))) ∧
  ((AV.isBool (AV.bin Go.BinOp.neq (AV.bin Go.BinOp.rem x0 x1) (AV.int 0))) ∧
  (((isT (AV.bin Go.BinOp.neq (AV.bin Go.BinOp.rem x0 x1) (AV.int 0))) →
    ((AV.binOk Go.BinOp.add (AV.prj r257 0) (AV.int 1)) ∧
    ((AV.flat (AV.bin Go.BinOp.add (AV.prj r257 0) (AV.int 1))) ∧
    ((AV.flat (AV.prj r257 1)) ∧
    (fSame (AV.tup [(AV.bin Go.BinOp.add (AV.prj r257 0) (AV.int 1)), (AV.prj r257 1)]) r))))) ∧
  ((isF (AV.bin Go.BinOp.neq (AV.bin Go.BinOp.rem x0 x1) (AV.int 0))) →
    ((AV.flat (AV.prj r257 0)) ∧
    ((AV.flat (AV.prj r257 1)) ∧
    (fSame (AV.tup [(AV.prj r257 0), (AV.prj r257 1)]) r))))))))))) ∧
((isF (AV.bin Go.BinOp.eql (AV.prj r257 1) (AV.int 0))) →
  ((AV.isBool (AV.bin Go.BinOp.eql (AV.prj r257 1) (AV.int 0))) ∧
  ((isF (AV.bin Go.BinOp.eql (AV.prj r257 1) (AV.int 0))) ∧
  ((AV.flat (AV.prj r257 0)) ∧
  ((AV.flat (AV.prj r257 1)) ∧
  (fSame (AV.tup [(AV.prj r257 0), (AV.prj r257 1)]) r)))))))))))) := by kernel_rfl
theorem toward_form (x0 x1 x2 x3 r : AV) : fnF Try.prog Γ ann 3 47 Try.f47 (Try.f47.body.getD .skip) (.nil) [x0, x1, x2, x3] (.tup [.sc, .sc]) r = (((AV.isAgg x0 2) ∧
((AV.isAgg x1 2) ∧
((AV.binOk Go.BinOp.leq x3 (AV.int 0)) ∧
((AV.isBool (AV.bin Go.BinOp.leq x3 (AV.int 0))) ∧
(((isT (AV.bin Go.BinOp.leq x3 (AV.int 0))) →
  ((AV.flat (AV.agg [(AV.int 0), (AV.int 0)])) ∧
  ((AV.flat (AV.int 10)) ∧
  (fSame (AV.tup [(AV.agg [(AV.int 0), (AV.int 0)]), (AV.int 10)]) r)))) ∧
((isF (AV.bin Go.BinOp.leq x3 (AV.int 0))) →
  ((AV.binOk Go.BinOp.gtr x3 (AV.int 200000)) ∧
  ((AV.isBool (AV.bin Go.BinOp.gtr x3 (AV.int 200000))) ∧
  (((isT (AV.bin Go.BinOp.gtr x3 (AV.int 200000))) →
    ((AV.isBool (AV.bin Go.BinOp.gtr x3 (AV.int 200000))) ∧
    ((isT (AV.bin Go.BinOp.gtr x3 (AV.int 200000))) ∧
    ((AV.flat (AV.agg [(AV.int 0), (AV.int 0)])) ∧
    ((AV.flat (AV.int 4)) ∧
    (fSame (AV.tup [(AV.agg [(AV.int 0), (AV.int 0)]), (AV.int 4)]) r)))))) ∧
  ((isF (AV.bin Go.BinOp.gtr x3 (AV.int 200000))) →
    ((AV.binOk Go.BinOp.lss x2 (AV.int 0)) ∧
    ((AV.isBool (AV.bin Go.BinOp.gtr x3 (AV.int 200000))) ∧
    ((isF (AV.bin Go.BinOp.gtr x3 (AV.int 200000))) ∧
    ((AV.isBool (AV.bin Go.BinOp.lss x2 (AV.int 0))) ∧
    (((isT (AV.bin Go.BinOp.lss x2 (AV.int 0))) →
      ((AV.isBool (AV.bin Go.BinOp.lss x2 (AV.int 0))) ∧
      ((isT (AV.bin Go.BinOp.lss x2 (AV.int 0))) ∧
      ((AV.flat (AV.agg [(AV.int 0), (AV.int 0)])) ∧
      ((AV.flat (AV.int 4)) ∧
      (fSame (AV.tup [(AV.agg [(AV.int 0), (AV.int 0)]), (AV.int 4)]) r)))))) ∧
    ((isF (AV.bin Go.BinOp.lss x2 (AV.int 0))) →
      ((AV.binOk Go.BinOp.gtr x2 x3) ∧
      ((AV.isBool (AV.bin Go.BinOp.lss x2 (AV.int 0))) ∧
      ((isF (AV.bin Go.BinOp.lss x2 (AV.int 0))) ∧
      ((AV.isBool (AV.bin Go.BinOp.gtr x2 x3)) ∧
      (((isT (AV.bin Go.BinOp.gtr x2 x3)) →
        ((AV.flat (AV.agg [(AV.int 0), (AV.int 0)])) ∧
        ((AV.flat (AV.int 4)) ∧
        (fSame (AV.tup [(AV.agg [(AV.int 0), (AV.int 0)]), (AV.int 4)]) r)))) ∧
      ((isF (AV.bin Go.BinOp.gtr x2 x3)) →
        (∃ r1281 : AV, ((Fn Try.prog 12 [(AV.agg [(AV.cel x0 0), (AV.cel x0 1)])] Sh.sc r1281) ∧
        ((AV.binOk Go.BinOp.neq r1281 (AV.int 0)) ∧
        ((AV.isBool (AV.bin Go.BinOp.neq r1281 (AV.int 0))) ∧
        (((isT (AV.bin Go.BinOp.neq r1281 (AV.int 0))) →
          (∃ r1601 : AV, ((Fn Try.prog 12 [(AV.agg [(AV.cel x0 0), (AV.cel x0 1)])] Sh.sc r1601) ∧
          ((AV.flat (AV.agg [(AV.int 0), (AV.int 0)])) ∧
          ((AV.flat r1601) ∧
          (fSame (AV.tup [(AV.agg [(AV.int 0), (AV.int 0)]), r1601]) r)))))) ∧
        ((isF (AV.bin Go.BinOp.neq r1281 (AV.int 0))) →
          (∃ r1537 : AV, ((Fn Try.prog 12 [(AV.agg [(AV.cel x1 0), (AV.cel x1 1)])] Sh.sc r1537) ∧
          ((AV.binOk Go.BinOp.neq r1537 (AV.int 0)) ∧
          ((AV.isBool (AV.bin Go.BinOp.neq r1537 (AV.int 0))) ∧
          (((isT (AV.bin Go.BinOp.neq r1537 (AV.int 0))) →
            (∃ r1857 : AV, ((Fn Try.prog 12 [(AV.agg [(AV.cel x1 0), (AV.cel x1 1)])] Sh.sc r1857) ∧
            ((AV.flat (AV.agg [(AV.int 0), (AV.int 0)])) ∧
            ((AV.flat r1857) ∧
            (fSame (AV.tup [(AV.agg [(AV.int 0), (AV.int 0)]), r1857]) r)))))) ∧
          ((isF (AV.bin Go.BinOp.neq r1537 (AV.int 0))) →
            ((AV.binOk Go.BinOp.sub (AV.cel x1 0) (AV.cel x0 0)) ∧
            ((AV.binOk Go.BinOp.mul (AV.bin Go.BinOp.sub (AV.cel x1 0) (AV.cel x0 0)) x2) ∧
            (∃ r2241 : AV, ((Fn Try.prog 48 [(AV.bin Go.BinOp.mul (AV.bin Go.BinOp.sub (AV.cel x1 0) (AV.cel x0 0)) x2), x3] (Sh.tup [Sh.sc, Sh.sc]) r2241) ∧
            ((AV.binOk Go.BinOp.sub (AV.cel x1 1) (AV.cel x0 1)) ∧
            ((AV.binOk Go.BinOp.mul (AV.bin Go.BinOp.sub (AV.cel x1 1) (AV.cel x0 1)) x2) ∧
            (∃ r3137 : AV, ((Fn Try.prog 48 [(AV.bin Go.BinOp.mul (AV.bin Go.BinOp.sub (AV.cel x1 1) (AV.cel x0 1)) x2), x3] (Sh.tup [Sh.sc, Sh.sc]) r3137) ∧
            ((AV.binOk Go.BinOp.add (AV.cel x0 0) (AV.prj r2241 0)) ∧
            ((AV.binOk Go.BinOp.add (AV.cel x0 1) (AV.prj r3137 0)) ∧
            ((AV.isOne (AV.bin Go.BinOp.add (AV.cel x0 0) (AV.prj r2241 0))) ∧
            ((AV.isOne (AV.bin Go.BinOp.add (AV.cel x0 1) (AV.prj r3137 0))) ∧
            ((AV.flat (AV.agg [(AV.bin Go.BinOp.add (AV.cel x0 0) (AV.prj r2241 0)), (AV.bin Go.BinOp.add (AV.cel x0 1) (AV.prj r3137 0))])) ∧
            ((AV.flat (AV.int 0)) ∧
            (fSame (AV.tup [(AV.agg [(AV.bin Go.BinOp.add (AV.cel x0 0) (AV.prj r2241 0)), (AV.bin Go.BinOp.add (AV.cel x0 1) (AV.prj r3137 0))]), (AV.int 0)]) r)))))))))))))))))))))))))))))))))))))))))))))))))) := by kernel_rfl
theorem next_form (x0 x1 r : AV) : fnF Try.prog Γ ann 3 52 Try.f52 (Try.f52.body.getD .skip) (.nil) [x0, x1] (.sc) r = (((AV.binOk Go.BinOp.add x1 (AV.int 1)) ∧
((AV.isSl x0 2) ∧
((AV.binOk Go.BinOp.rem (AV.bin Go.BinOp.add x1 (AV.int 1)) (AV.len x0)) ∧
((AV.isSl x0 2) ∧
((AV.inb x0 (AV.bin Go.BinOp.rem (AV.bin Go.BinOp.add x1 (AV.int 1)) (AV.len x0))) ∧
((AV.isAgg (AV.atAgg x0 (AV.bin Go.BinOp.rem (AV.bin Go.BinOp.add x1 (AV.int 1)) (AV.len x0)) 0 2) 2) ∧
((AV.flat (AV.agg [(AV.cel (AV.atAgg x0 (AV.bin Go.BinOp.rem (AV.bin Go.BinOp.add x1 (AV.int 1)) (AV.len x0)) 0 2) 0), (AV.cel (AV.atAgg x0 (AV.bin Go.BinOp.rem (AV.bin Go.BinOp.add x1 (AV.int 1)) (AV.len x0)) 0 2) 1)])) ∧
(fSame (AV.agg [(AV.cel (AV.atAgg x0 (AV.bin Go.BinOp.rem (AV.bin Go.BinOp.add x1 (AV.int 1)) (AV.len x0)) 0 2) 0), (AV.cel (AV.atAgg x0 (AV.bin Go.BinOp.rem (AV.bin Go.BinOp.add x1 (AV.int 1)) (AV.len x0)) 0 2) 1)]) r))))))))) := by kernel_rfl
theorem twice_form (x0 r : AV) : fnF Try.prog Γ ann 3 50 Try.f50 (Try.f50.body.getD .skip) (.nil) [x0] (.sc) r = (((AV.isSl x0 2) ∧
(fLoop 321 [(AV.int 0), (AV.int 0)] fun ys321 again321 =>
  ((AV.binOk Go.BinOp.lss (ys321.getD 1 default) (AV.len x0)) ∧
  ((AV.isBool (AV.bin Go.BinOp.lss (ys321.getD 1 default) (AV.len x0))) ∧
  (((isT (AV.bin Go.BinOp.lss (ys321.getD 1 default) (AV.len x0))) →
    ((AV.isSl x0 2) ∧
    ((AV.inb x0 (ys321.getD 1 default)) ∧
    (∃ r961 : AV, ((Fn Try.prog 52 [x0, (ys321.getD 1 default)] Sh.sc r961) ∧
    (∃ r1025 : AV, ((Fn Try.prog 61 [(AV.atAgg x0 (ys321.getD 1 default) 0 2), r961] Sh.sc r1025) ∧
    ((AV.binOk Go.BinOp.add (ys321.getD 0 default) r1025) ∧
    ((AV.binOk Go.BinOp.add (ys321.getD 1 default) (AV.int 1)) ∧
    (again321 [(AV.bin Go.BinOp.add (ys321.getD 0 default) r1025), (AV.bin Go.BinOp.add (ys321.getD 1 default) (AV.int 1))])))))))))) ∧
  ((isF (AV.bin Go.BinOp.lss (ys321.getD 1 default) (AV.len x0))) →
    ((AV.flat (ys321.getD 0 default)) ∧
    (fSame (ys321.getD 0 default) r))))))))) := by kernel_rfl
theorem between_form (x0 x1 x2 r : AV) : fnF Try.prog Γ ann 3 68 Try.f68 (Try.f68.body.getD .skip) (.nil) [x0, x1, x2] (.sc) r = (((AV.isAgg x0 2) ∧
((AV.isAgg x1 2) ∧
((AV.isAgg x2 2) ∧
((AV.isInt (AV.cel x0 0)) ∧
((AV.isInt (AV.cel x1 0)) ∧
((AV.binOk Go.BinOp.leq (AV.mn (AV.cel x0 0) (AV.cel x1 0)) (AV.cel x2 0)) ∧
((AV.isBool (AV.bin Go.BinOp.leq (AV.mn (AV.cel x0 0) (AV.cel x1 0)) (AV.cel x2 0))) ∧
(((isT (AV.bin Go.BinOp.leq (AV.mn (AV.cel x0 0) (AV.cel x1 0)) (AV.cel x2 0))) →
  ((AV.isInt (AV.cel x0 0)) ∧
  ((AV.isInt (AV.cel x1 0)) ∧
  ((AV.binOk Go.BinOp.leq (AV.cel x2 0) (AV.mx (AV.cel x0 0) (AV.cel x1 0))) ∧
  ((AV.isBool (AV.bin Go.BinOp.leq (AV.mn (AV.cel x0 0) (AV.cel x1 0)) (AV.cel x2 0))) ∧
  ((isT (AV.bin Go.BinOp.leq (AV.mn (AV.cel x0 0) (AV.cel x1 0)) (AV.cel x2 0))) ∧
  ((AV.isBool (AV.bin Go.BinOp.leq (AV.cel x2 0) (AV.mx (AV.cel x0 0) (AV.cel x1 0)))) ∧
  (((isT (AV.bin Go.BinOp.leq (AV.cel x2 0) (AV.mx (AV.cel x0 0) (AV.cel x1 0)))) →
    ((AV.isInt (AV.cel x0 1)) ∧
    ((AV.isInt (AV.cel x1 1)) ∧
    ((AV.binOk Go.BinOp.leq (AV.mn (AV.cel x0 1) (AV.cel x1 1)) (AV.cel x2 1)) ∧
    ((AV.isBool (AV.bin Go.BinOp.leq (AV.cel x2 0) (AV.mx (AV.cel x0 0) (AV.cel x1 0)))) ∧
    ((isT (AV.bin Go.BinOp.leq (AV.cel x2 0) (AV.mx (AV.cel x0 0) (AV.cel x1 0)))) ∧
    ((AV.isBool (AV.bin Go.BinOp.leq (AV.mn (AV.cel x0 1) (AV.cel x1 1)) (AV.cel x2 1))) ∧
    (((isT (AV.bin Go.BinOp.leq (AV.mn (AV.cel x0 1) (AV.cel x1 1)) (AV.cel x2 1))) →
      ((AV.isInt (AV.cel x0 1)) ∧
      ((AV.isInt (AV.cel x1 1)) ∧
      ((AV.binOk Go.BinOp.leq (AV.cel x2 1) (AV.mx (AV.cel x0 1) (AV.cel x1 1))) ∧
      ((AV.isBool (AV.bin Go.BinOp.leq (AV.mn (AV.cel x0 1) (AV.cel x1 1)) (AV.cel x2 1))) ∧
      ((isT (AV.bin Go.BinOp.leq (AV.mn (AV.cel x0 1) (AV.cel x1 1)) (AV.cel x2 1))) ∧
      ((AV.flat (AV.bin Go.BinOp.leq (AV.cel x2 1) (AV.mx (AV.cel x0 1) (AV.cel x1 1)))) ∧
      (fSame (AV.bin Go.BinOp.leq (AV.cel x2 1) (AV.mx (AV.cel x0 1) (AV.cel x1 1))) r)))))))) ∧
    ((isF (AV.bin Go.BinOp.leq (AV.mn (AV.cel x0 1) (AV.cel x1 1)) (AV.cel x2 1))) →
      ((AV.isBool (AV.bin Go.BinOp.leq (AV.mn (AV.cel x0 1) (AV.cel x1 1)) (AV.cel x2 1))) ∧
      ((isF (AV.bin Go.BinOp.leq (AV.mn (AV.cel x0 1) (AV.cel x1 1)) (AV.cel x2 1))) ∧
      ((AV.flat (AV.bool false)) ∧
      (fSame (AV.bool false) r))))))))))))) ∧
  ((isF (AV.bin Go.BinOp.leq (AV.cel x2 0) (AV.mx (AV.cel x0 0) (AV.cel x1 0)))) →
    ((AV.isBool (AV.bin Go.BinOp.leq (AV.cel x2 0) (AV.mx (AV.cel x0 0) (AV.cel x1 0)))) ∧
    ((isF (AV.bin Go.BinOp.leq (AV.cel x2 0) (AV.mx (AV.cel x0 0) (AV.cel x1 0)))) ∧
    ((AV.flat (AV.bool false)) ∧
    (fSame (AV.bool false) r))))))))))))) ∧
((isF (AV.bin Go.BinOp.leq (AV.mn (AV.cel x0 0) (AV.cel x1 0)) (AV.cel x2 0))) →
  ((AV.isBool (AV.bin Go.BinOp.leq (AV.mn (AV.cel x0 0) (AV.cel x1 0)) (AV.cel x2 0))) ∧
  ((isF (AV.bin Go.BinOp.leq (AV.mn (AV.cel x0 0) (AV.cel x1 0)) (AV.cel x2 0))) ∧
  ((AV.flat (AV.bool false)) ∧
  (fSame (AV.bool false) r)))))))))))))) := by kernel_rfl
theorem on_form (x0 x1 x2 r : AV) : fnF Try.prog Γ ann 3 63 Try.f63 (Try.f63.body.getD .skip) (.nil) [x0, x1, x2] (.sc) r = (((AV.isAgg x0 2) ∧
((AV.isAgg x1 2) ∧
((AV.isAgg x2 2) ∧
(∃ r449 : AV, ((Fn Try.prog 51 [(AV.agg [(AV.cel x0 0), (AV.cel x0 1)]), (AV.agg [(AV.cel x1 0), (AV.cel x1 1)]), (AV.agg [(AV.cel x2 0), (AV.cel x2 1)])] Sh.sc r449) ∧
((AV.binOk Go.BinOp.eql r449 (AV.int 0)) ∧
((AV.isBool (AV.bin Go.BinOp.eql r449 (AV.int 0))) ∧
(((isT (AV.bin Go.BinOp.eql r449 (AV.int 0))) →
  (∃ r833 : AV, ((Fn Try.prog 68 [(AV.agg [(AV.cel x0 0), (AV.cel x0 1)]), (AV.agg [(AV.cel x1 0), (AV.cel x1 1)]), (AV.agg [(AV.cel x2 0), (AV.cel x2 1)])] Sh.sc r833) ∧
  ((AV.isBool (AV.bin Go.BinOp.eql r449 (AV.int 0))) ∧
  ((isT (AV.bin Go.BinOp.eql r449 (AV.int 0))) ∧
  ((AV.flat r833) ∧
  (fSame r833 r))))))) ∧
((isF (AV.bin Go.BinOp.eql r449 (AV.int 0))) →
  ((AV.isBool (AV.bin Go.BinOp.eql r449 (AV.int 0))) ∧
  ((isF (AV.bin Go.BinOp.eql r449 (AV.int 0))) ∧
  ((AV.flat (AV.bool false)) ∧
  (fSame (AV.bool false) r)))))))))))))) := by kernel_rfl
theorem crosses_form (x0 x1 x2 x3 r : AV) : fnF Try.prog Γ ann 3 54 Try.f54 (Try.f54.body.getD .skip) (.nil) [x0, x1, x2, x3] (.sc) r = (((AV.isAgg x0 2) ∧
((AV.isAgg x1 2) ∧
((AV.isAgg x2 2) ∧
((AV.isAgg x3 2) ∧
(∃ r513 : AV, ((Fn Try.prog 51 [(AV.agg [(AV.cel x0 0), (AV.cel x0 1)]), (AV.agg [(AV.cel x1 0), (AV.cel x1 1)]), (AV.agg [(AV.cel x2 0), (AV.cel x2 1)])] Sh.sc r513) ∧
(∃ r769 : AV, ((Fn Try.prog 51 [(AV.agg [(AV.cel x0 0), (AV.cel x0 1)]), (AV.agg [(AV.cel x1 0), (AV.cel x1 1)]), (AV.agg [(AV.cel x3 0), (AV.cel x3 1)])] Sh.sc r769) ∧
((AV.binOk Go.BinOp.mul r513 r769) ∧
((AV.binOk Go.BinOp.lss (AV.bin Go.BinOp.mul r513 r769) (AV.int 0)) ∧
((AV.isBool (AV.bin Go.BinOp.lss (AV.bin Go.BinOp.mul r513 r769) (AV.int 0))) ∧
(((isT (AV.bin Go.BinOp.lss (AV.bin Go.BinOp.mul r513 r769) (AV.int 0))) →
  (∃ r1217 : AV, ((Fn Try.prog 51 [(AV.agg [(AV.cel x2 0), (AV.cel x2 1)]), (AV.agg [(AV.cel x3 0), (AV.cel x3 1)]), (AV.agg [(AV.cel x0 0), (AV.cel x0 1)])] Sh.sc r1217) ∧
  (∃ r1473 : AV, ((Fn Try.prog 51 [(AV.agg [(AV.cel x2 0), (AV.cel x2 1)]), (AV.agg [(AV.cel x3 0), (AV.cel x3 1)]), (AV.agg [(AV.cel x1 0), (AV.cel x1 1)])] Sh.sc r1473) ∧
  ((AV.binOk Go.BinOp.mul r1217 r1473) ∧
  ((AV.binOk Go.BinOp.lss (AV.bin Go.BinOp.mul r1217 r1473) (AV.int 0)) ∧
  ((AV.isBool (AV.bin Go.BinOp.lss (AV.bin Go.BinOp.mul r513 r769) (AV.int 0))) ∧
  ((isT (AV.bin Go.BinOp.lss (AV.bin Go.BinOp.mul r513 r769) (AV.int 0))) ∧
  ((AV.flat (AV.bin Go.BinOp.lss (AV.bin Go.BinOp.mul r1217 r1473) (AV.int 0))) ∧
  (fSame (AV.bin Go.BinOp.lss (AV.bin Go.BinOp.mul r1217 r1473) (AV.int 0)) r))))))))))) ∧
((isF (AV.bin Go.BinOp.lss (AV.bin Go.BinOp.mul r513 r769) (AV.int 0))) →
  ((AV.isBool (AV.bin Go.BinOp.lss (AV.bin Go.BinOp.mul r513 r769) (AV.int 0))) ∧
  ((isF (AV.bin Go.BinOp.lss (AV.bin Go.BinOp.mul r513 r769) (AV.int 0))) ∧
  ((AV.flat (AV.bool false)) ∧
  (fSame (AV.bool false) r)))))))))))))))))) := by kernel_rfl
theorem common_form (x0 x1 x2 x3 r : AV) : fnF Try.prog Γ ann 3 53 Try.f53 (Try.f53.body.getD .skip) (.nil) [x0, x1, x2, x3] (.sc) r = (((AV.isAgg x0 2) ∧
((AV.isAgg x1 2) ∧
((AV.isAgg x2 2) ∧
((AV.isAgg x3 2) ∧
(∃ r577 : AV, ((Fn Try.prog 54 [(AV.agg [(AV.cel x0 0), (AV.cel x0 1)]), (AV.agg [(AV.cel x1 0), (AV.cel x1 1)]), (AV.agg [(AV.cel x2 0), (AV.cel x2 1)]), (AV.agg [(AV.cel x3 0), (AV.cel x3 1)])] Sh.sc r577) ∧
((AV.isBool r577) ∧
(((isT r577) →
  ((AV.isBool r577) ∧
  ((isT r577) ∧
  ((AV.flat (AV.bool true)) ∧
  (fSame (AV.bool true) r))))) ∧
((isF r577) →
  (∃ r897 : AV, ((Fn Try.prog 63 [(AV.agg [(AV.cel x0 0), (AV.cel x0 1)]), (AV.agg [(AV.cel x1 0), (AV.cel x1 1)]), (AV.agg [(AV.cel x2 0), (AV.cel x2 1)])] Sh.sc r897) ∧
  ((AV.isBool r577) ∧
  ((isF r577) ∧
  ((AV.isBool r897) ∧
  (((isT r897) →
    ((AV.isBool r897) ∧
    ((isT r897) ∧
    ((AV.flat (AV.bool true)) ∧
    (fSame (AV.bool true) r))))) ∧
  ((isF r897) →
    (∃ r1281 : AV, ((Fn Try.prog 63 [(AV.agg [(AV.cel x0 0), (AV.cel x0 1)]), (AV.agg [(AV.cel x1 0), (AV.cel x1 1)]), (AV.agg [(AV.cel x3 0), (AV.cel x3 1)])] Sh.sc r1281) ∧
    ((AV.isBool r897) ∧
    ((isF r897) ∧
    ((AV.isBool r1281) ∧
    (((isT r1281) →
      ((AV.isBool r1281) ∧
      ((isT r1281) ∧
      ((AV.flat (AV.bool true)) ∧
      (fSame (AV.bool true) r))))) ∧
    ((isF r1281) →
      (∃ r1665 : AV, ((Fn Try.prog 63 [(AV.agg [(AV.cel x2 0), (AV.cel x2 1)]), (AV.agg [(AV.cel x3 0), (AV.cel x3 1)]), (AV.agg [(AV.cel x0 0), (AV.cel x0 1)])] Sh.sc r1665) ∧
      ((AV.isBool r1281) ∧
      ((isF r1281) ∧
      ((AV.isBool r1665) ∧
      (((isT r1665) →
        ((AV.isBool r1665) ∧
        ((isT r1665) ∧
        ((AV.flat (AV.bool true)) ∧
        (fSame (AV.bool true) r))))) ∧
      ((isF r1665) →
        (∃ r2049 : AV, ((Fn Try.prog 63 [(AV.agg [(AV.cel x2 0), (AV.cel x2 1)]), (AV.agg [(AV.cel x3 0), (AV.cel x3 1)]), (AV.agg [(AV.cel x1 0), (AV.cel x1 1)])] Sh.sc r2049) ∧
        ((AV.isBool r1665) ∧
        ((isF r1665) ∧
        ((AV.flat r2049) ∧
        (fSame r2049 r))))))))))))))))))))))))))))))))))))) := by kernel_rfl
theorem gcheck_form (x0 r : AV) : fnF Try.prog Γ ann 3 36 Try.f36 (Try.f36.body.getD .skip) (.nil) [x0] (.sc) r = (((AV.isSl x0 2) ∧
((AV.binOk Go.BinOp.gtr (AV.len x0) (AV.int 16)) ∧
((AV.isBool (AV.bin Go.BinOp.gtr (AV.len x0) (AV.int 16))) ∧
(((isT (AV.bin Go.BinOp.gtr (AV.len x0) (AV.int 16))) →
  ((AV.flat (AV.int 2)) ∧
  (fSame (AV.int 2) r))) ∧
((isF (AV.bin Go.BinOp.gtr (AV.len x0) (AV.int 16))) →
  ((AV.binOk Go.BinOp.lss (AV.len x0) (AV.int 3)) ∧
  ((AV.isBool (AV.bin Go.BinOp.lss (AV.len x0) (AV.int 3))) ∧
  (((isT (AV.bin Go.BinOp.lss (AV.len x0) (AV.int 3))) →
    ((AV.flat (AV.int 3)) ∧
    (fSame (AV.int 3) r))) ∧
  ((isF (AV.bin Go.BinOp.lss (AV.len x0) (AV.int 3))) →
    ((AV.isSl x0 2) ∧
    (fLoop 833 [(AV.int 0)] fun ys833 again833 =>
      ((AV.binOk Go.BinOp.lss (ys833.getD 0 default) (AV.len x0)) ∧
      ((AV.isBool (AV.bin Go.BinOp.lss (ys833.getD 0 default) (AV.len x0))) ∧
      (((isT (AV.bin Go.BinOp.lss (ys833.getD 0 default) (AV.len x0))) →
        ((AV.isSl x0 2) ∧
        ((AV.inb x0 (ys833.getD 0 default)) ∧
        ((AV.isAgg (AV.atAgg x0 (ys833.getD 0 default) 0 2) 2) ∧
        (∃ r1217 : AV, ((Fn Try.prog 12 [(AV.agg [(AV.cel (AV.atAgg x0 (ys833.getD 0 default) 0 2) 0), (AV.cel (AV.atAgg x0 (ys833.getD 0 default) 0 2) 1)])] Sh.sc r1217) ∧
        ((AV.binOk Go.BinOp.neq r1217 (AV.int 0)) ∧
        ((AV.isBool (AV.bin Go.BinOp.neq r1217 (AV.int 0))) ∧
        (((isT (AV.bin Go.BinOp.neq r1217 (AV.int 0))) →
          ((AV.flat r1217) ∧
          (fSame r1217 r))) ∧
        ((isF (AV.bin Go.BinOp.neq r1217 (AV.int 0))) →
          ((AV.binOk Go.BinOp.add (ys833.getD 0 default) (AV.int 1)) ∧
          (again833 [(AV.bin Go.BinOp.add (ys833.getD 0 default) (AV.int 1))])))))))))))) ∧
      ((isF (AV.bin Go.BinOp.lss (ys833.getD 0 default) (AV.len x0))) →
        ((AV.isSl x0 2) ∧
        (fLoop 1089 [(AV.int 0)] fun ys1089 again1089 =>
          ((AV.binOk Go.BinOp.lss (ys1089.getD 0 default) (AV.len x0)) ∧
          ((AV.isBool (AV.bin Go.BinOp.lss (ys1089.getD 0 default) (AV.len x0))) ∧
          (((isT (AV.bin Go.BinOp.lss (ys1089.getD 0 default) (AV.len x0))) →
            ((AV.isSl x0 2) ∧
            ((AV.inb x0 (ys1089.getD 0 default)) ∧
            (∃ r1665 : AV, ((Fn Try.prog 52 [x0, (ys1089.getD 0 default)] Sh.sc r1665) ∧
            ((AV.binOk Go.BinOp.add (ys1089.getD 0 default) (AV.int 2)) ∧
            ((AV.binOk Go.BinOp.rem (AV.bin Go.BinOp.add (ys1089.getD 0 default) (AV.int 2)) (AV.len x0)) ∧
            ((AV.isSl x0 2) ∧
            ((AV.inb x0 (AV.bin Go.BinOp.rem (AV.bin Go.BinOp.add (ys1089.getD 0 default) (AV.int 2)) (AV.len x0))) ∧
            (∃ r2177 : AV, ((Fn Try.prog 51 [(AV.atAgg x0 (ys1089.getD 0 default) 0 2), r1665, (AV.atAgg x0 (AV.bin Go.BinOp.rem (AV.bin Go.BinOp.add (ys1089.getD 0 default) (AV.int 2)) (AV.len x0)) 0 2)] Sh.sc r2177) ∧
            ((AV.binOk Go.BinOp.eql r2177 (AV.int 0)) ∧
            ((AV.isBool (AV.bin Go.BinOp.eql r2177 (AV.int 0))) ∧
            (((isT (AV.bin Go.BinOp.eql r2177 (AV.int 0))) →
              ((AV.flat (AV.int 3)) ∧
              (fSame (AV.int 3) r))) ∧
            ((isF (AV.bin Go.BinOp.eql r2177 (AV.int 0))) →
              ((AV.binOk Go.BinOp.add (ys1089.getD 0 default) (AV.int 2)) ∧
              (fLoop 2497 [(AV.bin Go.BinOp.add (ys1089.getD 0 default) (AV.int 2))] fun ys2497 again2497 =>
                ((AV.binOk Go.BinOp.lss (ys2497.getD 0 default) (AV.len x0)) ∧
                ((AV.isBool (AV.bin Go.BinOp.lss (ys2497.getD 0 default) (AV.len x0))) ∧
                (((isT (AV.bin Go.BinOp.lss (ys2497.getD 0 default) (AV.len x0))) →
                  ((AV.binOk Go.BinOp.add (ys2497.getD 0 default) (AV.int 1)) ∧
                  ((AV.binOk Go.BinOp.rem (AV.bin Go.BinOp.add (ys2497.getD 0 default) (AV.int 1)) (AV.len x0)) ∧
                  ((AV.binOk Go.BinOp.neq (AV.bin Go.BinOp.rem (AV.bin Go.BinOp.add (ys2497.getD 0 default) (AV.int 1)) (AV.len x0)) (ys1089.getD 0 default)) ∧
                  ((AV.isBool (AV.bin Go.BinOp.neq (AV.bin Go.BinOp.rem (AV.bin Go.BinOp.add (ys2497.getD 0 default) (AV.int 1)) (AV.len x0)) (ys1089.getD 0 default))) ∧
                  (((isT (AV.bin Go.BinOp.neq (AV.bin Go.BinOp.rem (AV.bin Go.BinOp.add (ys2497.getD 0 default) (AV.int 1)) (AV.len x0)) (ys1089.getD 0 default))) →
                    ((AV.isSl x0 2) ∧
                    ((AV.inb x0 (ys1089.getD 0 default)) ∧
                    (∃ r3521 : AV, ((Fn Try.prog 52 [x0, (ys1089.getD 0 default)] Sh.sc r3521) ∧
                    ((AV.isSl x0 2) ∧
                    ((AV.inb x0 (ys2497.getD 0 default)) ∧
                    (∃ r3969 : AV, ((Fn Try.prog 52 [x0, (ys2497.getD 0 default)] Sh.sc r3969) ∧
                    (∃ r4033 : AV, ((Fn Try.prog 53 [(AV.atAgg x0 (ys1089.getD 0 default) 0 2), r3521, (AV.atAgg x0 (ys2497.getD 0 default) 0 2), r3969] Sh.sc r4033) ∧
                    ((AV.isBool (AV.bin Go.BinOp.neq (AV.bin Go.BinOp.rem (AV.bin Go.BinOp.add (ys2497.getD 0 default) (AV.int 1)) (AV.len x0)) (ys1089.getD 0 default))) ∧
                    ((isT (AV.bin Go.BinOp.neq (AV.bin Go.BinOp.rem (AV.bin Go.BinOp.add (ys2497.getD 0 default) (AV.int 1)) (AV.len x0)) (ys1089.getD 0 default))) ∧
                    ((AV.isBool r4033) ∧
                    (((isT r4033) →
                      ((AV.flat (AV.int 3)) ∧
                      (fSame (AV.int 3) r))) ∧
                    ((isF r4033) →
                      ((AV.binOk Go.BinOp.add (ys2497.getD 0 default) (AV.int 1)) ∧
                      (again2497 [(AV.bin Go.BinOp.add (ys2497.getD 0 default) (AV.int 1))])))))))))))))))))) ∧
                  ((isF (AV.bin Go.BinOp.neq (AV.bin Go.BinOp.rem (AV.bin Go.BinOp.add (ys2497.getD 0 default) (AV.int 1)) (AV.len x0)) (ys1089.getD 0 default))) →
                    ((AV.isBool (AV.bin Go.BinOp.neq (AV.bin Go.BinOp.rem (AV.bin Go.BinOp.add (ys2497.getD 0 default) (AV.int 1)) (AV.len x0)) (ys1089.getD 0 default))) ∧
                    ((isF (AV.bin Go.BinOp.neq (AV.bin Go.BinOp.rem (AV.bin Go.BinOp.add (ys2497.getD 0 default) (AV.int 1)) (AV.len x0)) (ys1089.getD 0 default))) ∧
                    ((AV.binOk Go.BinOp.add (ys2497.getD 0 default) (AV.int 1)) ∧
                    (again2497 [(AV.bin Go.BinOp.add (ys2497.getD 0 default) (AV.int 1))]))))))))))) ∧
                ((isF (AV.bin Go.BinOp.lss (ys2497.getD 0 default) (AV.len x0))) →
                  ((AV.binOk Go.BinOp.add (ys1089.getD 0 default) (AV.int 1)) ∧
                  (again1089 [(AV.bin Go.BinOp.add (ys1089.getD 0 default) (AV.int 1))]))))))))))))))))))))))) ∧
          ((isF (AV.bin Go.BinOp.lss (ys1089.getD 0 default) (AV.len x0))) →
            (∃ r1217 : AV, ((Fn Try.prog 50 [x0] Sh.sc r1217) ∧
            ((AV.binOk Go.BinOp.leq r1217 (AV.int 0)) ∧
            ((AV.isBool (AV.bin Go.BinOp.leq r1217 (AV.int 0))) ∧
            (((isT (AV.bin Go.BinOp.leq r1217 (AV.int 0))) →
              ((AV.flat (AV.int 3)) ∧
              (fSame (AV.int 3) r))) ∧
            ((isF (AV.bin Go.BinOp.leq r1217 (AV.int 0))) →
              ((AV.flat (AV.int 0)) ∧
              (fSame (AV.int 0) r)))))))))))))))))))))))))))))) := by kernel_rfl
theorem gplace_form (x0 x1 r : AV) : fnF Try.prog Γ ann 3 58 Try.f58 (Try.f58.body.getD .skip) (.nil) [x0, x1] (.sc) r = (((AV.isAgg x1 2) ∧
((AV.isSl x0 2) ∧
(fLoop 385 [(AV.int (-1)), (AV.int 0)] fun ys385 again385 =>
  ((AV.binOk Go.BinOp.lss (ys385.getD 1 default) (AV.len x0)) ∧
  ((AV.isBool (AV.bin Go.BinOp.lss (ys385.getD 1 default) (AV.len x0))) ∧
  (((isT (AV.bin Go.BinOp.lss (ys385.getD 1 default) (AV.len x0))) →
    ((AV.isSl x0 2) ∧
    ((AV.inb x0 (ys385.getD 1 default)) ∧
    (∃ r961 : AV, ((Fn Try.prog 52 [x0, (ys385.getD 1 default)] Sh.sc r961) ∧
    ((AV.isAgg (AV.atAgg x0 (ys385.getD 1 default) 0 2) 2) ∧
    ((AV.isAgg r961 2) ∧
    (∃ r1473 : AV, ((Fn Try.prog 63 [(AV.agg [(AV.cel (AV.atAgg x0 (ys385.getD 1 default) 0 2) 0), (AV.cel (AV.atAgg x0 (ys385.getD 1 default) 0 2) 1)]), (AV.agg [(AV.cel r961 0), (AV.cel r961 1)]), (AV.agg [(AV.cel x1 0), (AV.cel x1 1)])] Sh.sc r1473) ∧
    ((AV.isBool r1473) ∧
    (((isT r1473) →
      ((AV.flat (AV.int 0)) ∧
      (fSame (AV.int 0) r))) ∧
    ((isF r1473) →
      ((AV.binOk Go.BinOp.gtr (AV.cel (AV.atAgg x0 (ys385.getD 1 default) 0 2) 1) (AV.cel x1 1)) ∧
      ((AV.binOk Go.BinOp.gtr (AV.cel r961 1) (AV.cel x1 1)) ∧
      ((AV.isBool (AV.bin Go.BinOp.gtr (AV.cel (AV.atAgg x0 (ys385.getD 1 default) 0 2) 1) (AV.cel x1 1))) ∧
      ((AV.isBool (AV.bin Go.BinOp.gtr (AV.cel r961 1) (AV.cel x1 1))) ∧
      ((AV.isBool (AV.neB (AV.bin Go.BinOp.gtr (AV.cel (AV.atAgg x0 (ys385.getD 1 default) 0 2) 1) (AV.cel x1 1)) (AV.bin Go.BinOp.gtr (AV.cel r961 1) (AV.cel x1 1)))) ∧
      (((isT (AV.neB (AV.bin Go.BinOp.gtr (AV.cel (AV.atAgg x0 (ys385.getD 1 default) 0 2) 1) (AV.cel x1 1)) (AV.bin Go.BinOp.gtr (AV.cel r961 1) (AV.cel x1 1)))) →
        (∃ r2433 : AV, ((Fn Try.prog 51 [(AV.agg [(AV.cel (AV.atAgg x0 (ys385.getD 1 default) 0 2) 0), (AV.cel (AV.atAgg x0 (ys385.getD 1 default) 0 2) 1)]), (AV.agg [(AV.cel r961 0), (AV.cel r961 1)]), (AV.agg [(AV.cel x1 0), (AV.cel x1 1)])] Sh.sc r2433) ∧
        ((AV.binOk Go.BinOp.gtr (AV.cel r961 1) (AV.cel (AV.atAgg x0 (ys385.getD 1 default) 0 2) 1)) ∧
        ((AV.isBool (AV.bin Go.BinOp.gtr (AV.cel r961 1) (AV.cel (AV.atAgg x0 (ys385.getD 1 default) 0 2) 1))) ∧
        (((isT (AV.bin Go.BinOp.gtr (AV.cel r961 1) (AV.cel (AV.atAgg x0 (ys385.getD 1 default) 0 2) 1))) →
          ((AV.binOk Go.BinOp.gtr r2433 (AV.int 0)) ∧
          ((AV.isBool (AV.bin Go.BinOp.gtr (AV.cel r961 1) (AV.cel (AV.atAgg x0 (ys385.getD 1 default) 0 2) 1))) ∧
          ((isT (AV.bin Go.BinOp.gtr (AV.cel r961 1) (AV.cel (AV.atAgg x0 (ys385.getD 1 default) 0 2) 1))) ∧
          ((AV.isBool (AV.bin Go.BinOp.gtr r2433 (AV.int 0))) ∧
          (((isT (AV.bin Go.BinOp.gtr r2433 (AV.int 0))) →
            ((AV.isBool (AV.bin Go.BinOp.gtr r2433 (AV.int 0))) ∧
            ((isT (AV.bin Go.BinOp.gtr r2433 (AV.int 0))) ∧
            ((AV.unOk Go.UnOp.neg (ys385.getD 0 default)) ∧
            ((AV.binOk Go.BinOp.add (ys385.getD 1 default) (AV.int 1)) ∧
            (again385 [(AV.un Go.UnOp.neg (ys385.getD 0 default)), (AV.bin Go.BinOp.add (ys385.getD 1 default) (AV.int 1))])))))) ∧
          ((isF (AV.bin Go.BinOp.gtr r2433 (AV.int 0))) →
            ((AV.binOk Go.BinOp.lss (AV.cel r961 1) (AV.cel (AV.atAgg x0 (ys385.getD 1 default) 0 2) 1)) ∧
            ((AV.isBool (AV.bin Go.BinOp.lss (AV.cel r961 1) (AV.cel (AV.atAgg x0 (ys385.getD 1 default) 0 2) 1))) ∧
            (((isT (AV.bin Go.BinOp.lss (AV.cel r961 1) (AV.cel (AV.atAgg x0 (ys385.getD 1 default) 0 2) 1))) →
              ((AV.binOk Go.BinOp.lss r2433 (AV.int 0)) ∧
              ((AV.isBool (AV.bin Go.BinOp.lss (AV.cel r961 1) (AV.cel (AV.atAgg x0 (ys385.getD 1 default) 0 2) 1))) ∧
              ((isT (AV.bin Go.BinOp.lss (AV.cel r961 1) (AV.cel (AV.atAgg x0 (ys385.getD 1 default) 0 2) 1))) ∧
              ((AV.isBool (AV.bin Go.BinOp.gtr r2433 (AV.int 0))) ∧
              ((isF (AV.bin Go.BinOp.gtr r2433 (AV.int 0))) ∧
              ((AV.isBool (AV.bin Go.BinOp.lss r2433 (AV.int 0))) ∧
              (((isT (AV.bin Go.BinOp.lss r2433 (AV.int 0))) →
                ((AV.unOk Go.UnOp.neg (ys385.getD 0 default)) ∧
                ((AV.binOk Go.BinOp.add (ys385.getD 1 default) (AV.int 1)) ∧
                (again385 [(AV.un Go.UnOp.neg (ys385.getD 0 default)), (AV.bin Go.BinOp.add (ys385.getD 1 default) (AV.int 1))])))) ∧
              ((isF (AV.bin Go.BinOp.lss r2433 (AV.int 0))) →
                ((AV.binOk Go.BinOp.add (ys385.getD 1 default) (AV.int 1)) ∧
                (again385 [(ys385.getD 0 default), (AV.bin Go.BinOp.add (ys385.getD 1 default) (AV.int 1))]))))))))))) ∧
            ((isF (AV.bin Go.BinOp.lss (AV.cel r961 1) (AV.cel (AV.atAgg x0 (ys385.getD 1 default) 0 2) 1))) →
              ((AV.isBool (AV.bin Go.BinOp.lss (AV.cel r961 1) (AV.cel (AV.atAgg x0 (ys385.getD 1 default) 0 2) 1))) ∧
              ((isF (AV.bin Go.BinOp.lss (AV.cel r961 1) (AV.cel (AV.atAgg x0 (ys385.getD 1 default) 0 2) 1))) ∧
              ((AV.isBool (AV.bin Go.BinOp.gtr r2433 (AV.int 0))) ∧
              ((isF (AV.bin Go.BinOp.gtr r2433 (AV.int 0))) ∧
              ((AV.binOk Go.BinOp.add (ys385.getD 1 default) (AV.int 1)) ∧
              (again385 [(ys385.getD 0 default), (AV.bin Go.BinOp.add (ys385.getD 1 default) (AV.int 1))]))))))))))))))))) ∧
        ((isF (AV.bin Go.BinOp.gtr (AV.cel r961 1) (AV.cel (AV.atAgg x0 (ys385.getD 1 default) 0 2) 1))) →
          ((AV.isBool (AV.bin Go.BinOp.gtr (AV.cel r961 1) (AV.cel (AV.atAgg x0 (ys385.getD 1 default) 0 2) 1))) ∧
          ((isF (AV.bin Go.BinOp.gtr (AV.cel r961 1) (AV.cel (AV.atAgg x0 (ys385.getD 1 default) 0 2) 1))) ∧
          ((AV.binOk Go.BinOp.lss (AV.cel r961 1) (AV.cel (AV.atAgg x0 (ys385.getD 1 default) 0 2) 1)) ∧
          ((AV.isBool (AV.bin Go.BinOp.lss (AV.cel r961 1) (AV.cel (AV.atAgg x0 (ys385.getD 1 default) 0 2) 1))) ∧
          (((isT (AV.bin Go.BinOp.lss (AV.cel r961 1) (AV.cel (AV.atAgg x0 (ys385.getD 1 default) 0 2) 1))) →
            ((AV.binOk Go.BinOp.lss r2433 (AV.int 0)) ∧
            ((AV.isBool (AV.bin Go.BinOp.lss (AV.cel r961 1) (AV.cel (AV.atAgg x0 (ys385.getD 1 default) 0 2) 1))) ∧
            ((isT (AV.bin Go.BinOp.lss (AV.cel r961 1) (AV.cel (AV.atAgg x0 (ys385.getD 1 default) 0 2) 1))) ∧
            ((AV.isBool (AV.bin Go.BinOp.lss r2433 (AV.int 0))) ∧
            (((isT (AV.bin Go.BinOp.lss r2433 (AV.int 0))) →
              ((AV.unOk Go.UnOp.neg (ys385.getD 0 default)) ∧
              ((AV.binOk Go.BinOp.add (ys385.getD 1 default) (AV.int 1)) ∧
              (again385 [(AV.un Go.UnOp.neg (ys385.getD 0 default)), (AV.bin Go.BinOp.add (ys385.getD 1 default) (AV.int 1))])))) ∧
            ((isF (AV.bin Go.BinOp.lss r2433 (AV.int 0))) →
              ((AV.binOk Go.BinOp.add (ys385.getD 1 default) (AV.int 1)) ∧
              (again385 [(ys385.getD 0 default), (AV.bin Go.BinOp.add (ys385.getD 1 default) (AV.int 1))]))))))))) ∧
          ((isF (AV.bin Go.BinOp.lss (AV.cel r961 1) (AV.cel (AV.atAgg x0 (ys385.getD 1 default) 0 2) 1))) →
            ((AV.isBool (AV.bin Go.BinOp.lss (AV.cel r961 1) (AV.cel (AV.atAgg x0 (ys385.getD 1 default) 0 2) 1))) ∧
            ((isF (AV.bin Go.BinOp.lss (AV.cel r961 1) (AV.cel (AV.atAgg x0 (ys385.getD 1 default) 0 2) 1))) ∧
            ((AV.binOk Go.BinOp.add (ys385.getD 1 default) (AV.int 1)) ∧
            (again385 [(ys385.getD 0 default), (AV.bin Go.BinOp.add (ys385.getD 1 default) (AV.int 1))]))))))))))))))))) ∧
      ((isF (AV.neB (AV.bin Go.BinOp.gtr (AV.cel (AV.atAgg x0 (ys385.getD 1 default) 0 2) 1) (AV.cel x1 1)) (AV.bin Go.BinOp.gtr (AV.cel r961 1) (AV.cel x1 1)))) →
        ((AV.binOk Go.BinOp.add (ys385.getD 1 default) (AV.int 1)) ∧
        (again385 [(ys385.getD 0 default), (AV.bin Go.BinOp.add (ys385.getD 1 default) (AV.int 1))]))))))))))))))))))))) ∧
  ((isF (AV.bin Go.BinOp.lss (ys385.getD 1 default) (AV.len x0))) →
    ((AV.flat (ys385.getD 0 default)) ∧
    (fSame (ys385.getD 0 default) r)))))))))) := by kernel_rfl
theorem locate_form (x0 x1 r : AV) : fnF Try.prog Γ ann 3 43 Try.f43 (Try.f43.body.getD .skip) (.nil) [x0, x1] (.tup [.sc, .sc]) r = (((AV.isAgg x1 2) ∧
(∃ r257 : AV, ((Fn Try.prog 36 [x0] Sh.sc r257) ∧
((AV.binOk Go.BinOp.neq r257 (AV.int 0)) ∧
((AV.isBool (AV.bin Go.BinOp.neq r257 (AV.int 0))) ∧
(((isT (AV.bin Go.BinOp.neq r257 (AV.int 0))) →
  ((AV.flat (AV.int 0)) ∧
  ((AV.flat r257) ∧
  (fSame (AV.tup [(AV.int 0), r257]) r)))) ∧
((isF (AV.bin Go.BinOp.neq r257 (AV.int 0))) →
  (∃ r577 : AV, ((Fn Try.prog 12 [(AV.agg [(AV.cel x1 0), (AV.cel x1 1)])] Sh.sc r577) ∧
  ((AV.binOk Go.BinOp.neq r577 (AV.int 0)) ∧
  ((AV.isBool (AV.bin Go.BinOp.neq r577 (AV.int 0))) ∧
  (((isT (AV.bin Go.BinOp.neq r577 (AV.int 0))) →
    ((AV.flat (AV.int 0)) ∧
    ((AV.flat r577) ∧
    (fSame (AV.tup [(AV.int 0), r577]) r)))) ∧
  ((isF (AV.bin Go.BinOp.neq r577 (AV.int 0))) →
    (∃ r961 : AV, ((Fn Try.prog 58 [x0, (AV.agg [(AV.cel x1 0), (AV.cel x1 1)])] Sh.sc r961) ∧
    ((AV.flat r961) ∧
    ((AV.flat (AV.int 0)) ∧
    (fSame (AV.tup [r961, (AV.int 0)]) r))))))))))))))))))) := by kernel_rfl
theorem area_form (x0 r : AV) : fnF Try.prog Γ ann 3 35 Try.f35 (Try.f35.body.getD .skip) (.nil) [x0] (.tup [.sc, .sc]) r = ((∃ r193 : AV, ((Fn Try.prog 36 [x0] Sh.sc r193) ∧
((AV.binOk Go.BinOp.neq r193 (AV.int 0)) ∧
((AV.isBool (AV.bin Go.BinOp.neq r193 (AV.int 0))) ∧
(((isT (AV.bin Go.BinOp.neq r193 (AV.int 0))) →
  ((AV.flat (AV.int 0)) ∧
  ((AV.flat r193) ∧
  (fSame (AV.tup [(AV.int 0), r193]) r)))) ∧
((isF (AV.bin Go.BinOp.neq r193 (AV.int 0))) →
  (∃ r513 : AV, ((Fn Try.prog 50 [x0] Sh.sc r513) ∧
  ((AV.flat r513) ∧
  ((AV.flat (AV.int 0)) ∧
  (fSame (AV.tup [r513, (AV.int 0)]) r)))))))))))) := by kernel_rfl
theorem doubled_form (x0 r : AV) : fnF Try.prog Γ ann 3 55 Try.f55 (Try.f55.body.getD .skip) (.nil) [x0] (.row 29 2 true) r = (((AV.isSl x0 2) ∧
(fLoop 321 [(AV.int 0), (AV.mk 2 [])] fun ys321 again321 =>
  ((AV.binOk Go.BinOp.lss (ys321.getD 0 default) (AV.len x0)) ∧
  ((AV.isBool (AV.bin Go.BinOp.lss (ys321.getD 0 default) (AV.len x0))) ∧
  (((isT (AV.bin Go.BinOp.lss (ys321.getD 0 default) (AV.len x0))) →
    ((AV.isSl x0 2) ∧
    ((AV.inb x0 (ys321.getD 0 default)) ∧
    ((AV.isAgg (AV.atAgg x0 (ys321.getD 0 default) 0 2) 2) ∧
    ((AV.binOk Go.BinOp.mul (AV.int 2) (AV.cel (AV.atAgg x0 (ys321.getD 0 default) 0 2) 0)) ∧
    ((AV.binOk Go.BinOp.mul (AV.int 2) (AV.cel (AV.atAgg x0 (ys321.getD 0 default) 0 2) 1)) ∧
    ((AV.isOne (AV.bin Go.BinOp.mul (AV.int 2) (AV.cel (AV.atAgg x0 (ys321.getD 0 default) 0 2) 0))) ∧
    ((AV.isOne (AV.bin Go.BinOp.mul (AV.int 2) (AV.cel (AV.atAgg x0 (ys321.getD 0 default) 0 2) 1))) ∧
    ((AV.room (ys321.getD 1 default) (AV.mk 2 [[(AV.bin Go.BinOp.mul (AV.int 2) (AV.cel (AV.atAgg x0 (ys321.getD 0 default) 0 2) 0)), (AV.bin Go.BinOp.mul (AV.int 2) (AV.cel (AV.atAgg x0 (ys321.getD 0 default) 0 2) 1))]]) 16) ∧
    ((AV.binOk Go.BinOp.add (ys321.getD 0 default) (AV.int 1)) ∧
    (again321 [(AV.bin Go.BinOp.add (ys321.getD 0 default) (AV.int 1)), (AV.app 2 (ys321.getD 1 default) (AV.mk 2 [[(AV.bin Go.BinOp.mul (AV.int 2) (AV.cel (AV.atAgg x0 (ys321.getD 0 default) 0 2) 0)), (AV.bin Go.BinOp.mul (AV.int 2) (AV.cel (AV.atAgg x0 (ys321.getD 0 default) 0 2) 1))]]))]))))))))))) ∧
  ((isF (AV.bin Go.BinOp.lss (ys321.getD 0 default) (AV.len x0))) →
    ((AV.flatS (ys321.getD 1 default)) ∧
    (fSame (ys321.getD 1 default) r))))))))) := by kernel_rfl
theorem enters_form (x0 x1 r : AV) : fnF Try.prog Γ ann 3 56 Try.f56 (Try.f56.body.getD .skip) (.nil) [x0, x1] (.sc) r = (((AV.isSl x0 2) ∧
(fLoop 257 [(AV.int 0)] fun ys257 again257 =>
  ((AV.binOk Go.BinOp.lss (ys257.getD 0 default) (AV.len x0)) ∧
  ((AV.isBool (AV.bin Go.BinOp.lss (ys257.getD 0 default) (AV.len x0))) ∧
  (((isT (AV.bin Go.BinOp.lss (ys257.getD 0 default) (AV.len x0))) →
    ((AV.isSl x0 2) ∧
    ((AV.inb x0 (ys257.getD 0 default)) ∧
    (∃ r833 : AV, ((Fn Try.prog 52 [x0, (ys257.getD 0 default)] Sh.sc r833) ∧
    ((AV.isAgg (AV.atAgg x0 (ys257.getD 0 default) 0 2) 2) ∧
    ((AV.isAgg r833 2) ∧
    ((AV.isSl x1 2) ∧
    (fLoop 1601 [(AV.int 0), (AV.mk 2 [[(AV.cel (AV.atAgg x0 (ys257.getD 0 default) 0 2) 0), (AV.cel (AV.atAgg x0 (ys257.getD 0 default) 0 2) 1)], [(AV.cel r833 0), (AV.cel r833 1)]])] fun ys1601 again1601 =>
      ((AV.binOk Go.BinOp.lss (ys1601.getD 0 default) (AV.len x1)) ∧
      ((AV.isBool (AV.bin Go.BinOp.lss (ys1601.getD 0 default) (AV.len x1))) ∧
      (((isT (AV.bin Go.BinOp.lss (ys1601.getD 0 default) (AV.len x1))) →
        ((AV.isSl x1 2) ∧
        ((AV.inb x1 (ys1601.getD 0 default)) ∧
        ((AV.isAgg (AV.atAgg x1 (ys1601.getD 0 default) 0 2) 2) ∧
        (∃ r2113 : AV, ((Fn Try.prog 63 [(AV.agg [(AV.cel (AV.atAgg x0 (ys257.getD 0 default) 0 2) 0), (AV.cel (AV.atAgg x0 (ys257.getD 0 default) 0 2) 1)]), (AV.agg [(AV.cel r833 0), (AV.cel r833 1)]), (AV.agg [(AV.cel (AV.atAgg x1 (ys1601.getD 0 default) 0 2) 0), (AV.cel (AV.atAgg x1 (ys1601.getD 0 default) 0 2) 1)])] Sh.sc r2113) ∧
        ((AV.isBool r2113) ∧
        (((isT r2113) →
          ((AV.room (ys1601.getD 1 default) (AV.mk 2 [[(AV.cel (AV.atAgg x1 (ys1601.getD 0 default) 0 2) 0), (AV.cel (AV.atAgg x1 (ys1601.getD 0 default) 0 2) 1)]]) 16) ∧
          ((AV.binOk Go.BinOp.add (ys1601.getD 0 default) (AV.int 1)) ∧
          (again1601 [(AV.bin Go.BinOp.add (ys1601.getD 0 default) (AV.int 1)), (AV.app 2 (ys1601.getD 1 default) (AV.mk 2 [[(AV.cel (AV.atAgg x1 (ys1601.getD 0 default) 0 2) 0), (AV.cel (AV.atAgg x1 (ys1601.getD 0 default) 0 2) 1)]]))])))) ∧
        ((isF r2113) →
          ((AV.binOk Go.BinOp.add (ys1601.getD 0 default) (AV.int 1)) ∧
          (again1601 [(AV.bin Go.BinOp.add (ys1601.getD 0 default) (AV.int 1)), (ys1601.getD 1 default)]))))))))))) ∧
      ((isF (AV.bin Go.BinOp.lss (ys1601.getD 0 default) (AV.len x1))) →
        (∃ r1793 : AV, ((FnU Try.prog 64 29 2 (ys1601.getD 1 default) [(AV.mkClo 65 [(AV.mkRef [(AV.cel (AV.atAgg x0 (ys257.getD 0 default) 0 2) 0), (AV.cel (AV.atAgg x0 (ys257.getD 0 default) 0 2) 1)])])] false r1793) ∧
        (fLoop 1921 [(AV.int 1)] fun ys1921 again1921 =>
          ((AV.binOk Go.BinOp.lss (ys1921.getD 0 default) (AV.len r1793)) ∧
          ((AV.isBool (AV.bin Go.BinOp.lss (ys1921.getD 0 default) (AV.len r1793))) ∧
          (((isT (AV.bin Go.BinOp.lss (ys1921.getD 0 default) (AV.len r1793))) →
            ((AV.inb r1793 (ys1921.getD 0 default)) ∧
            ((AV.inb r1793 (ys1921.getD 0 default)) ∧
            ((AV.binOk Go.BinOp.sub (ys1921.getD 0 default) (AV.int 1)) ∧
            ((AV.inb r1793 (AV.bin Go.BinOp.sub (ys1921.getD 0 default) (AV.int 1))) ∧
            ((AV.inb r1793 (AV.bin Go.BinOp.sub (ys1921.getD 0 default) (AV.int 1))) ∧
            ((AV.eqPlOk [(0, (EK.int Go.IntKind.i64)), (1, (EK.int Go.IntKind.i64))] [(AV.cel (AV.atAgg r1793 (ys1921.getD 0 default) 0 2) 0), (AV.cel (AV.atAgg r1793 (ys1921.getD 0 default) 0 2) 1)] [(AV.cel (AV.atAgg r1793 (AV.bin Go.BinOp.sub (ys1921.getD 0 default) (AV.int 1)) 0 2) 0), (AV.cel (AV.atAgg r1793 (AV.bin Go.BinOp.sub (ys1921.getD 0 default) (AV.int 1)) 0 2) 1)]) ∧
            ((AV.isAgg (AV.atAgg r1793 (ys1921.getD 0 default) 0 2) 2) ∧
            ((AV.isAgg (AV.atAgg r1793 (AV.bin Go.BinOp.sub (ys1921.getD 0 default) (AV.int 1)) 0 2) 2) ∧
            ((AV.isBool (AV.eqPl [(0, (EK.int Go.IntKind.i64)), (1, (EK.int Go.IntKind.i64))] [(AV.cel (AV.atAgg r1793 (ys1921.getD 0 default) 0 2) 0), (AV.cel (AV.atAgg r1793 (ys1921.getD 0 default) 0 2) 1)] [(AV.cel (AV.atAgg r1793 (AV.bin Go.BinOp.sub (ys1921.getD 0 default) (AV.int 1)) 0 2) 0), (AV.cel (AV.atAgg r1793 (AV.bin Go.BinOp.sub (ys1921.getD 0 default) (AV.int 1)) 0 2) 1)])) ∧
            (((isT (AV.eqPl [(0, (EK.int Go.IntKind.i64)), (1, (EK.int Go.IntKind.i64))] [(AV.cel (AV.atAgg r1793 (ys1921.getD 0 default) 0 2) 0), (AV.cel (AV.atAgg r1793 (ys1921.getD 0 default) 0 2) 1)] [(AV.cel (AV.atAgg r1793 (AV.bin Go.BinOp.sub (ys1921.getD 0 default) (AV.int 1)) 0 2) 0), (AV.cel (AV.atAgg r1793 (AV.bin Go.BinOp.sub (ys1921.getD 0 default) (AV.int 1)) 0 2) 1)])) →
              ((AV.binOk Go.BinOp.add (ys1921.getD 0 default) (AV.int 1)) ∧
              (again1921 [(AV.bin Go.BinOp.add (ys1921.getD 0 default) (AV.int 1))]))) ∧
            ((isF (AV.eqPl [(0, (EK.int Go.IntKind.i64)), (1, (EK.int Go.IntKind.i64))] [(AV.cel (AV.atAgg r1793 (ys1921.getD 0 default) 0 2) 0), (AV.cel (AV.atAgg r1793 (ys1921.getD 0 default) 0 2) 1)] [(AV.cel (AV.atAgg r1793 (AV.bin Go.BinOp.sub (ys1921.getD 0 default) (AV.int 1)) 0 2) 0), (AV.cel (AV.atAgg r1793 (AV.bin Go.BinOp.sub (ys1921.getD 0 default) (AV.int 1)) 0 2) 1)])) →
              ((AV.inb r1793 (ys1921.getD 0 default)) ∧
              ((AV.inb r1793 (ys1921.getD 0 default)) ∧
              ((AV.binOk Go.BinOp.sub (ys1921.getD 0 default) (AV.int 1)) ∧
              ((AV.inb r1793 (AV.bin Go.BinOp.sub (ys1921.getD 0 default) (AV.int 1))) ∧
              ((AV.inb r1793 (AV.bin Go.BinOp.sub (ys1921.getD 0 default) (AV.int 1))) ∧
              ((AV.binOk Go.BinOp.add (AV.at r1793 (ys1921.getD 0 default) 0) (AV.at r1793 (AV.bin Go.BinOp.sub (ys1921.getD 0 default) (AV.int 1)) 0)) ∧
              ((AV.binOk Go.BinOp.quo (AV.bin Go.BinOp.add (AV.at r1793 (ys1921.getD 0 default) 0) (AV.at r1793 (AV.bin Go.BinOp.sub (ys1921.getD 0 default) (AV.int 1)) 0)) (AV.int 2)) ∧
              ((AV.inb r1793 (ys1921.getD 0 default)) ∧
              ((AV.inb r1793 (ys1921.getD 0 default)) ∧
              ((AV.binOk Go.BinOp.sub (ys1921.getD 0 default) (AV.int 1)) ∧
              ((AV.inb r1793 (AV.bin Go.BinOp.sub (ys1921.getD 0 default) (AV.int 1))) ∧
              ((AV.inb r1793 (AV.bin Go.BinOp.sub (ys1921.getD 0 default) (AV.int 1))) ∧
              ((AV.binOk Go.BinOp.add (AV.at r1793 (ys1921.getD 0 default) 1) (AV.at r1793 (AV.bin Go.BinOp.sub (ys1921.getD 0 default) (AV.int 1)) 1)) ∧
              ((AV.binOk Go.BinOp.quo (AV.bin Go.BinOp.add (AV.at r1793 (ys1921.getD 0 default) 1) (AV.at r1793 (AV.bin Go.BinOp.sub (ys1921.getD 0 default) (AV.int 1)) 1)) (AV.int 2)) ∧
              ((AV.isOne (AV.bin Go.BinOp.quo (AV.bin Go.BinOp.add (AV.at r1793 (ys1921.getD 0 default) 0) (AV.at r1793 (AV.bin Go.BinOp.sub (ys1921.getD 0 default) (AV.int 1)) 0)) (AV.int 2))) ∧
              ((AV.isOne (AV.bin Go.BinOp.quo (AV.bin Go.BinOp.add (AV.at r1793 (ys1921.getD 0 default) 1) (AV.at r1793 (AV.bin Go.BinOp.sub (ys1921.getD 0 default) (AV.int 1)) 1)) (AV.int 2))) ∧
              (∃ r4801 : AV, ((Fn Try.prog 58 [x1, (AV.agg [(AV.bin Go.BinOp.quo (AV.bin Go.BinOp.add (AV.at r1793 (ys1921.getD 0 default) 0) (AV.at r1793 (AV.bin Go.BinOp.sub (ys1921.getD 0 default) (AV.int 1)) 0)) (AV.int 2)), (AV.bin Go.BinOp.quo (AV.bin Go.BinOp.add (AV.at r1793 (ys1921.getD 0 default) 1) (AV.at r1793 (AV.bin Go.BinOp.sub (ys1921.getD 0 default) (AV.int 1)) 1)) (AV.int 2))])] Sh.sc r4801) ∧
              ((AV.binOk Go.BinOp.eql r4801 (AV.int 1)) ∧
              ((AV.isBool (AV.bin Go.BinOp.eql r4801 (AV.int 1))) ∧
              (((isT (AV.bin Go.BinOp.eql r4801 (AV.int 1))) →
                ((AV.flat (AV.bool true)) ∧
                (fSame (AV.bool true) r))) ∧
              ((isF (AV.bin Go.BinOp.eql r4801 (AV.int 1))) →
                ((AV.binOk Go.BinOp.eql r4801 (AV.int 0)) ∧
                ((AV.isBool (AV.bin Go.BinOp.eql r4801 (AV.int 0))) ∧
                (((isT (AV.bin Go.BinOp.eql r4801 (AV.int 0))) →
                  ((AV.isSl x1 2) ∧
                  (fLoop 5313 [(AV.int 0)] fun ys5313 again5313 =>
                    ((AV.binOk Go.BinOp.lss (ys5313.getD 0 default) (AV.len x1)) ∧
                    ((AV.isBool (AV.bin Go.BinOp.lss (ys5313.getD 0 default) (AV.len x1))) ∧
                    (((isT (AV.bin Go.BinOp.lss (ys5313.getD 0 default) (AV.len x1))) →
                      ((AV.isSl x1 2) ∧
                      ((AV.inb x1 (ys5313.getD 0 default)) ∧
                      (∃ r5889 : AV, ((Fn Try.prog 52 [x1, (ys5313.getD 0 default)] Sh.sc r5889) ∧
                      ((AV.isAgg (AV.atAgg x1 (ys5313.getD 0 default) 0 2) 2) ∧
                      ((AV.isAgg r5889 2) ∧
                      (∃ r6401 : AV, ((Fn Try.prog 63 [(AV.agg [(AV.cel (AV.atAgg x1 (ys5313.getD 0 default) 0 2) 0), (AV.cel (AV.atAgg x1 (ys5313.getD 0 default) 0 2) 1)]), (AV.agg [(AV.cel r5889 0), (AV.cel r5889 1)]), (AV.agg [(AV.bin Go.BinOp.quo (AV.bin Go.BinOp.add (AV.at r1793 (ys1921.getD 0 default) 0) (AV.at r1793 (AV.bin Go.BinOp.sub (ys1921.getD 0 default) (AV.int 1)) 0)) (AV.int 2)), (AV.bin Go.BinOp.quo (AV.bin Go.BinOp.add (AV.at r1793 (ys1921.getD 0 default) 1) (AV.at r1793 (AV.bin Go.BinOp.sub (ys1921.getD 0 default) (AV.int 1)) 1)) (AV.int 2))])] Sh.sc r6401) ∧
                      ((AV.isBool r6401) ∧
                      (((isT r6401) →
                        (∃ r6657 : AV, ((Fn Try.prog 62 [(AV.agg [(AV.cel r833 0), (AV.cel r833 1)]), (AV.agg [(AV.cel (AV.atAgg x0 (ys257.getD 0 default) 0 2) 0), (AV.cel (AV.atAgg x0 (ys257.getD 0 default) 0 2) 1)])] Sh.sc r6657) ∧
                        (∃ r6849 : AV, ((Fn Try.prog 62 [(AV.agg [(AV.cel r5889 0), (AV.cel r5889 1)]), (AV.agg [(AV.cel (AV.atAgg x1 (ys5313.getD 0 default) 0 2) 0), (AV.cel (AV.atAgg x1 (ys5313.getD 0 default) 0 2) 1)])] Sh.sc r6849) ∧
                        (∃ r6913 : AV, ((Fn Try.prog 67 [r6657, r6849] Sh.sc r6913) ∧
                        ((AV.binOk Go.BinOp.gtr r6913 (AV.int 0)) ∧
                        ((AV.isBool r6401) ∧
                        ((isT r6401) ∧
                        ((AV.isBool (AV.bin Go.BinOp.gtr r6913 (AV.int 0))) ∧
                        (((isT (AV.bin Go.BinOp.gtr r6913 (AV.int 0))) →
                          ((AV.flat (AV.bool true)) ∧
                          (fSame (AV.bool true) r))) ∧
                        ((isF (AV.bin Go.BinOp.gtr r6913 (AV.int 0))) →
                          ((AV.binOk Go.BinOp.add (ys5313.getD 0 default) (AV.int 1)) ∧
                          (again5313 [(AV.bin Go.BinOp.add (ys5313.getD 0 default) (AV.int 1))]))))))))))))))) ∧
                      ((isF r6401) →
                        ((AV.isBool r6401) ∧
                        ((isF r6401) ∧
                        ((AV.binOk Go.BinOp.add (ys5313.getD 0 default) (AV.int 1)) ∧
                        (again5313 [(AV.bin Go.BinOp.add (ys5313.getD 0 default) (AV.int 1))])))))))))))))))) ∧
                    ((isF (AV.bin Go.BinOp.lss (ys5313.getD 0 default) (AV.len x1))) →
                      ((AV.binOk Go.BinOp.add (ys1921.getD 0 default) (AV.int 1)) ∧
                      (again1921 [(AV.bin Go.BinOp.add (ys1921.getD 0 default) (AV.int 1))]))))))))) ∧
                ((isF (AV.bin Go.BinOp.eql r4801 (AV.int 0))) →
                  ((AV.binOk Go.BinOp.add (ys1921.getD 0 default) (AV.int 1)) ∧
                  (again1921 [(AV.bin Go.BinOp.add (ys1921.getD 0 default) (AV.int 1))])))))))))))))))))))))))))))))))))))))))) ∧
          ((isF (AV.bin Go.BinOp.lss (ys1921.getD 0 default) (AV.len r1793))) →
            ((AV.binOk Go.BinOp.add (ys257.getD 0 default) (AV.int 1)) ∧
            (again257 [(AV.bin Go.BinOp.add (ys257.getD 0 default) (AV.int 1))])))))))))))))))))))))) ∧
  ((isF (AV.bin Go.BinOp.lss (ys257.getD 0 default) (AV.len x0))) →
    ((AV.flat (AV.bool false)) ∧
    (fSame (AV.bool false) r))))))))) := by kernel_rfl
theorem gover_form (x0 x1 r : AV) : fnF Try.prog Γ ann 3 38 Try.f38 (Try.f38.body.getD .skip) (.nil) [x0, x1] (.tup [.sc, .sc]) r = (((AV.isOne x0) ∧
((AV.isOne x1) ∧
(fLoop 449 [(AV.int 0)] fun ys449 again449 =>
  ((AV.binOk Go.BinOp.lss (ys449.getD 0 default) (AV.len (AV.mk 1 [[x0], [x1]]))) ∧
  ((AV.isBool (AV.bin Go.BinOp.lss (ys449.getD 0 default) (AV.len (AV.mk 1 [[x0], [x1]])))) ∧
  (((isT (AV.bin Go.BinOp.lss (ys449.getD 0 default) (AV.len (AV.mk 1 [[x0], [x1]])))) →
    ((AV.inb (AV.mk 1 [[x0], [x1]]) (ys449.getD 0 default)) ∧
    ((AV.inb (AV.mk 1 [[x0], [x1]]) (ys449.getD 0 default)) ∧
    (∃ r769 : AV, ((Fn Try.prog 36 [(AV.at (AV.mk 1 [[x0], [x1]]) (ys449.getD 0 default) 0)] Sh.sc r769) ∧
    ((AV.binOk Go.BinOp.neq r769 (AV.int 0)) ∧
    ((AV.isBool (AV.bin Go.BinOp.neq r769 (AV.int 0))) ∧
    (((isT (AV.bin Go.BinOp.neq r769 (AV.int 0))) →
      ((AV.flat (AV.bool false)) ∧
      ((AV.flat r769) ∧
      (fSame (AV.tup [(AV.bool false), r769]) r)))) ∧
    ((isF (AV.bin Go.BinOp.neq r769 (AV.int 0))) →
      ((AV.binOk Go.BinOp.add (ys449.getD 0 default) (AV.int 1)) ∧
      (again449 [(AV.bin Go.BinOp.add (ys449.getD 0 default) (AV.int 1))]))))))))))) ∧
  ((isF (AV.bin Go.BinOp.lss (ys449.getD 0 default) (AV.len (AV.mk 1 [[x0], [x1]])))) →
    ((AV.isSl x0 2) ∧
    (fLoop 705 [(AV.int 0)] fun ys705 again705 =>
      ((AV.binOk Go.BinOp.lss (ys705.getD 0 default) (AV.len x0)) ∧
      ((AV.isBool (AV.bin Go.BinOp.lss (ys705.getD 0 default) (AV.len x0))) ∧
      (((isT (AV.bin Go.BinOp.lss (ys705.getD 0 default) (AV.len x0))) →
        ((AV.isSl x1 2) ∧
        (fLoop 1089 [(AV.int 0)] fun ys1089 again1089 =>
          ((AV.binOk Go.BinOp.lss (ys1089.getD 0 default) (AV.len x1)) ∧
          ((AV.isBool (AV.bin Go.BinOp.lss (ys1089.getD 0 default) (AV.len x1))) ∧
          (((isT (AV.bin Go.BinOp.lss (ys1089.getD 0 default) (AV.len x1))) →
            ((AV.isSl x0 2) ∧
            ((AV.inb x0 (ys705.getD 0 default)) ∧
            (∃ r1665 : AV, ((Fn Try.prog 52 [x0, (ys705.getD 0 default)] Sh.sc r1665) ∧
            ((AV.isSl x1 2) ∧
            ((AV.inb x1 (ys1089.getD 0 default)) ∧
            (∃ r2113 : AV, ((Fn Try.prog 52 [x1, (ys1089.getD 0 default)] Sh.sc r2113) ∧
            (∃ r2177 : AV, ((Fn Try.prog 54 [(AV.atAgg x0 (ys705.getD 0 default) 0 2), r1665, (AV.atAgg x1 (ys1089.getD 0 default) 0 2), r2113] Sh.sc r2177) ∧
            ((AV.isBool r2177) ∧
            (((isT r2177) →
              ((AV.flat (AV.bool true)) ∧
              ((AV.flat (AV.int 0)) ∧
              (fSame (AV.tup [(AV.bool true), (AV.int 0)]) r)))) ∧
            ((isF r2177) →
              ((AV.binOk Go.BinOp.add (ys1089.getD 0 default) (AV.int 1)) ∧
              (again1089 [(AV.bin Go.BinOp.add (ys1089.getD 0 default) (AV.int 1))])))))))))))))))) ∧
          ((isF (AV.bin Go.BinOp.lss (ys1089.getD 0 default) (AV.len x1))) →
            ((AV.binOk Go.BinOp.add (ys705.getD 0 default) (AV.int 1)) ∧
            (again705 [(AV.bin Go.BinOp.add (ys705.getD 0 default) (AV.int 1))]))))))))) ∧
      ((isF (AV.bin Go.BinOp.lss (ys705.getD 0 default) (AV.len x0))) →
        (∃ r833 : AV, ((Fn Try.prog 55 [x0] (Sh.row 29 2 true) r833) ∧
        (∃ r961 : AV, ((Fn Try.prog 55 [x1] (Sh.row 29 2 true) r961) ∧
        (∃ r1281 : AV, ((Fn Try.prog 56 [r833, r961] Sh.sc r1281) ∧
        ((AV.isBool r1281) ∧
        (((isT r1281) →
          ((AV.isBool r1281) ∧
          ((isT r1281) ∧
          ((AV.flat (AV.bool true)) ∧
          ((AV.flat (AV.int 0)) ∧
          (fSame (AV.tup [(AV.bool true), (AV.int 0)]) r)))))) ∧
        ((isF r1281) →
          (∃ r1537 : AV, ((Fn Try.prog 56 [r961, r833] Sh.sc r1537) ∧
          ((AV.isBool r1281) ∧
          ((isF r1281) ∧
          ((AV.flat r1537) ∧
          ((AV.flat (AV.int 0)) ∧
          (fSame (AV.tup [r1537, (AV.int 0)]) r)))))))))))))))))))))))))))))) := by kernel_rfl
theorem vcheck_form (x0 r : AV) : fnF Try.prog Γ ann 3 23 Try.f23 (Try.f23.body.getD .skip) (.nil) [x0] (.sc) r = (((AV.isAgg x0 3) ∧
(∃ r257 : AV, ((Fn Try.prog 36 [(AV.cel x0 0)] Sh.sc r257) ∧
((AV.binOk Go.BinOp.neq r257 (AV.int 0)) ∧
((AV.isBool (AV.bin Go.BinOp.neq r257 (AV.int 0))) ∧
(((isT (AV.bin Go.BinOp.neq r257 (AV.int 0))) →
  ((AV.flat r257) ∧
  (fSame r257 r))) ∧
((isF (AV.bin Go.BinOp.neq r257 (AV.int 0))) →
  ((AV.binOk Go.BinOp.lss (AV.cel x0 1) (AV.int 0)) ∧
  ((AV.isBool (AV.bin Go.BinOp.lss (AV.cel x0 1) (AV.int 0))) ∧
  (((isT (AV.bin Go.BinOp.lss (AV.cel x0 1) (AV.int 0))) →
    ((AV.isBool (AV.bin Go.BinOp.lss (AV.cel x0 1) (AV.int 0))) ∧
    ((isT (AV.bin Go.BinOp.lss (AV.cel x0 1) (AV.int 0))) ∧
    ((AV.flat (AV.int 4)) ∧
    (fSame (AV.int 4) r))))) ∧
  ((isF (AV.bin Go.BinOp.lss (AV.cel x0 1) (AV.int 0))) →
    ((AV.binOk Go.BinOp.gtr (AV.cel x0 2) (AV.int 60001)) ∧
    ((AV.isBool (AV.bin Go.BinOp.lss (AV.cel x0 1) (AV.int 0))) ∧
    ((isF (AV.bin Go.BinOp.lss (AV.cel x0 1) (AV.int 0))) ∧
    ((AV.isBool (AV.bin Go.BinOp.gtr (AV.cel x0 2) (AV.int 60001))) ∧
    (((isT (AV.bin Go.BinOp.gtr (AV.cel x0 2) (AV.int 60001))) →
      ((AV.isBool (AV.bin Go.BinOp.gtr (AV.cel x0 2) (AV.int 60001))) ∧
      ((isT (AV.bin Go.BinOp.gtr (AV.cel x0 2) (AV.int 60001))) ∧
      ((AV.flat (AV.int 4)) ∧
      (fSame (AV.int 4) r))))) ∧
    ((isF (AV.bin Go.BinOp.gtr (AV.cel x0 2) (AV.int 60001))) →
      ((AV.binOk Go.BinOp.geq (AV.cel x0 1) (AV.cel x0 2)) ∧
      ((AV.isBool (AV.bin Go.BinOp.gtr (AV.cel x0 2) (AV.int 60001))) ∧
      ((isF (AV.bin Go.BinOp.gtr (AV.cel x0 2) (AV.int 60001))) ∧
      ((AV.isBool (AV.bin Go.BinOp.geq (AV.cel x0 1) (AV.cel x0 2))) ∧
      (((isT (AV.bin Go.BinOp.geq (AV.cel x0 1) (AV.cel x0 2))) →
        ((AV.flat (AV.int 4)) ∧
        (fSame (AV.int 4) r))) ∧
      ((isF (AV.bin Go.BinOp.geq (AV.cel x0 1) (AV.cel x0 2))) →
        ((AV.flat (AV.int 0)) ∧
        (fSame (AV.int 0) r)))))))))))))))))))))))))) := by kernel_rfl
theorem vhas_form (x0 x1 x2 r : AV) : fnF Try.prog Γ ann 3 30 Try.f30 (Try.f30.body.getD .skip) (.nil) [x0, x1, x2] (.tup [.sc, .sc]) r = (((AV.isAgg x0 3) ∧
((AV.isAgg x1 2) ∧
(∃ r321 : AV, ((Fn Try.prog 23 [(AV.agg [(AV.cel x0 0), (AV.cel x0 1), (AV.cel x0 2)])] Sh.sc r321) ∧
((AV.binOk Go.BinOp.neq r321 (AV.int 0)) ∧
((AV.isBool (AV.bin Go.BinOp.neq r321 (AV.int 0))) ∧
(((isT (AV.bin Go.BinOp.neq r321 (AV.int 0))) →
  ((AV.flat (AV.bool false)) ∧
  ((AV.flat r321) ∧
  (fSame (AV.tup [(AV.bool false), r321]) r)))) ∧
((isF (AV.bin Go.BinOp.neq r321 (AV.int 0))) →
  (∃ r641 : AV, ((Fn Try.prog 12 [(AV.agg [(AV.cel x1 0), (AV.cel x1 1)])] Sh.sc r641) ∧
  ((AV.binOk Go.BinOp.neq r641 (AV.int 0)) ∧
  ((AV.isBool (AV.bin Go.BinOp.neq r641 (AV.int 0))) ∧
  (((isT (AV.bin Go.BinOp.neq r641 (AV.int 0))) →
    ((AV.flat (AV.bool false)) ∧
    ((AV.flat r641) ∧
    (fSame (AV.tup [(AV.bool false), r641]) r)))) ∧
  ((isF (AV.bin Go.BinOp.neq r641 (AV.int 0))) →
    ((AV.binOk Go.BinOp.lss x2 (AV.int 0)) ∧
    ((AV.isBool (AV.bin Go.BinOp.lss x2 (AV.int 0))) ∧
    (((isT (AV.bin Go.BinOp.lss x2 (AV.int 0))) →
      ((AV.isBool (AV.bin Go.BinOp.lss x2 (AV.int 0))) ∧
      ((isT (AV.bin Go.BinOp.lss x2 (AV.int 0))) ∧
      ((AV.flat (AV.bool false)) ∧
      ((AV.flat (AV.int 4)) ∧
      (fSame (AV.tup [(AV.bool false), (AV.int 4)]) r)))))) ∧
    ((isF (AV.bin Go.BinOp.lss x2 (AV.int 0))) →
      ((AV.binOk Go.BinOp.gtr x2 (AV.int 60000)) ∧
      ((AV.isBool (AV.bin Go.BinOp.lss x2 (AV.int 0))) ∧
      ((isF (AV.bin Go.BinOp.lss x2 (AV.int 0))) ∧
      ((AV.isBool (AV.bin Go.BinOp.gtr x2 (AV.int 60000))) ∧
      (((isT (AV.bin Go.BinOp.gtr x2 (AV.int 60000))) →
        ((AV.flat (AV.bool false)) ∧
        ((AV.flat (AV.int 4)) ∧
        (fSame (AV.tup [(AV.bool false), (AV.int 4)]) r)))) ∧
      ((isF (AV.bin Go.BinOp.gtr x2 (AV.int 60000))) →
        (∃ r1473 : AV, ((Fn Try.prog 43 [(AV.cel x0 0), (AV.agg [(AV.cel x1 0), (AV.cel x1 1)])] (Sh.tup [Sh.sc, Sh.sc]) r1473) ∧
        ((AV.binOk Go.BinOp.eql (AV.prj r1473 1) (AV.int 0)) ∧
        ((AV.isBool (AV.bin Go.BinOp.eql (AV.prj r1473 1) (AV.int 0))) ∧
        (((isT (AV.bin Go.BinOp.eql (AV.prj r1473 1) (AV.int 0))) →
          ((AV.binOk Go.BinOp.geq (AV.prj r1473 0) (AV.int 0)) ∧
          ((AV.isBool (AV.bin Go.BinOp.eql (AV.prj r1473 1) (AV.int 0))) ∧
          ((isT (AV.bin Go.BinOp.eql (AV.prj r1473 1) (AV.int 0))) ∧
          ((AV.isBool (AV.bin Go.BinOp.geq (AV.prj r1473 0) (AV.int 0))) ∧
          (((isT (AV.bin Go.BinOp.geq (AV.prj r1473 0) (AV.int 0))) →
            ((AV.binOk Go.BinOp.geq x2 (AV.cel x0 1)) ∧
            ((AV.isBool (AV.bin Go.BinOp.geq (AV.prj r1473 0) (AV.int 0))) ∧
            ((isT (AV.bin Go.BinOp.geq (AV.prj r1473 0) (AV.int 0))) ∧
            ((AV.isBool (AV.bin Go.BinOp.geq x2 (AV.cel x0 1))) ∧
            (((isT (AV.bin Go.BinOp.geq x2 (AV.cel x0 1))) →
              ((AV.binOk Go.BinOp.lss x2 (AV.cel x0 2)) ∧
              ((AV.isBool (AV.bin Go.BinOp.geq x2 (AV.cel x0 1))) ∧
              ((isT (AV.bin Go.BinOp.geq x2 (AV.cel x0 1))) ∧
              ((AV.flat (AV.bin Go.BinOp.lss x2 (AV.cel x0 2))) ∧
              ((AV.flat (AV.prj r1473 1)) ∧
              (fSame (AV.tup [(AV.bin Go.BinOp.lss x2 (AV.cel x0 2)), (AV.prj r1473 1)]) r))))))) ∧
            ((isF (AV.bin Go.BinOp.geq x2 (AV.cel x0 1))) →
              ((AV.isBool (AV.bin Go.BinOp.geq x2 (AV.cel x0 1))) ∧
              ((isF (AV.bin Go.BinOp.geq x2 (AV.cel x0 1))) ∧
              ((AV.flat (AV.bool false)) ∧
              ((AV.flat (AV.prj r1473 1)) ∧
              (fSame (AV.tup [(AV.bool false), (AV.prj r1473 1)]) r)))))))))))) ∧
          ((isF (AV.bin Go.BinOp.geq (AV.prj r1473 0) (AV.int 0))) →
            ((AV.isBool (AV.bin Go.BinOp.geq (AV.prj r1473 0) (AV.int 0))) ∧
            ((isF (AV.bin Go.BinOp.geq (AV.prj r1473 0) (AV.int 0))) ∧
            ((AV.flat (AV.bool false)) ∧
            ((AV.flat (AV.prj r1473 1)) ∧
            (fSame (AV.tup [(AV.bool false), (AV.prj r1473 1)]) r)))))))))))) ∧
        ((isF (AV.bin Go.BinOp.eql (AV.prj r1473 1) (AV.int 0))) →
          ((AV.isBool (AV.bin Go.BinOp.eql (AV.prj r1473 1) (AV.int 0))) ∧
          ((isF (AV.bin Go.BinOp.eql (AV.prj r1473 1) (AV.int 0))) ∧
          ((AV.flat (AV.bool false)) ∧
          ((AV.flat (AV.prj r1473 1)) ∧
          (fSame (AV.tup [(AV.bool false), (AV.prj r1473 1)]) r)))))))))))))))))))))))))))))))))))) := by kernel_rfl
theorem vcont_form (x0 x1 x2 r : AV) : fnF Try.prog Γ ann 3 42 Try.f42 (Try.f42.body.getD .skip) (.nil) [x0, x1, x2] (.sc) r = (((AV.isAgg x0 3) ∧
((AV.isAgg x1 2) ∧
((AV.binOk Go.BinOp.geq x2 (AV.cel x0 1)) ∧
((AV.isBool (AV.bin Go.BinOp.geq x2 (AV.cel x0 1))) ∧
(((isT (AV.bin Go.BinOp.geq x2 (AV.cel x0 1))) →
  ((AV.binOk Go.BinOp.lss x2 (AV.cel x0 2)) ∧
  ((AV.isBool (AV.bin Go.BinOp.geq x2 (AV.cel x0 1))) ∧
  ((isT (AV.bin Go.BinOp.geq x2 (AV.cel x0 1))) ∧
  ((AV.isBool (AV.bin Go.BinOp.lss x2 (AV.cel x0 2))) ∧
  (((isT (AV.bin Go.BinOp.lss x2 (AV.cel x0 2))) →
    (∃ r1089 : AV, ((Fn Try.prog 58 [(AV.cel x0 0), (AV.agg [(AV.cel x1 0), (AV.cel x1 1)])] Sh.sc r1089) ∧
    ((AV.binOk Go.BinOp.geq r1089 (AV.int 0)) ∧
    ((AV.isBool (AV.bin Go.BinOp.lss x2 (AV.cel x0 2))) ∧
    ((isT (AV.bin Go.BinOp.lss x2 (AV.cel x0 2))) ∧
    ((AV.flat (AV.bin Go.BinOp.geq r1089 (AV.int 0))) ∧
    (fSame (AV.bin Go.BinOp.geq r1089 (AV.int 0)) r)))))))) ∧
  ((isF (AV.bin Go.BinOp.lss x2 (AV.cel x0 2))) →
    ((AV.isBool (AV.bin Go.BinOp.lss x2 (AV.cel x0 2))) ∧
    ((isF (AV.bin Go.BinOp.lss x2 (AV.cel x0 2))) ∧
    ((AV.flat (AV.bool false)) ∧
    (fSame (AV.bool false) r))))))))))) ∧
((isF (AV.bin Go.BinOp.geq x2 (AV.cel x0 1))) →
  ((AV.isBool (AV.bin Go.BinOp.geq x2 (AV.cel x0 1))) ∧
  ((isF (AV.bin Go.BinOp.geq x2 (AV.cel x0 1))) ∧
  ((AV.flat (AV.bool false)) ∧
  (fSame (AV.bool false) r))))))))))) := by kernel_rfl
theorem vover_form (x0 x1 r : AV) : fnF Try.prog Γ ann 3 26 Try.f26 (Try.f26.body.getD .skip) (.nil) [x0, x1] (.tup [.sc, .sc]) r = (((AV.isAgg x0 3) ∧
((AV.isAgg x1 3) ∧
(fLoop 577 [(AV.int 0)] fun ys577 again577 =>
  ((AV.binOk Go.BinOp.lss (ys577.getD 0 default) (AV.len (AV.mk 3 [[(AV.cel x0 0), (AV.cel x0 1), (AV.cel x0 2)], [(AV.cel x1 0), (AV.cel x1 1), (AV.cel x1 2)]]))) ∧
  ((AV.isBool (AV.bin Go.BinOp.lss (ys577.getD 0 default) (AV.len (AV.mk 3 [[(AV.cel x0 0), (AV.cel x0 1), (AV.cel x0 2)], [(AV.cel x1 0), (AV.cel x1 1), (AV.cel x1 2)]])))) ∧
  (((isT (AV.bin Go.BinOp.lss (ys577.getD 0 default) (AV.len (AV.mk 3 [[(AV.cel x0 0), (AV.cel x0 1), (AV.cel x0 2)], [(AV.cel x1 0), (AV.cel x1 1), (AV.cel x1 2)]])))) →
    ((AV.inb (AV.mk 3 [[(AV.cel x0 0), (AV.cel x0 1), (AV.cel x0 2)], [(AV.cel x1 0), (AV.cel x1 1), (AV.cel x1 2)]]) (ys577.getD 0 default)) ∧
    ((AV.inb (AV.mk 3 [[(AV.cel x0 0), (AV.cel x0 1), (AV.cel x0 2)], [(AV.cel x1 0), (AV.cel x1 1), (AV.cel x1 2)]]) (ys577.getD 0 default)) ∧
    ((AV.isAgg (AV.atAgg (AV.mk 3 [[(AV.cel x0 0), (AV.cel x0 1), (AV.cel x0 2)], [(AV.cel x1 0), (AV.cel x1 1), (AV.cel x1 2)]]) (ys577.getD 0 default) 0 3) 3) ∧
    (∃ r961 : AV, ((Fn Try.prog 23 [(AV.agg [(AV.cel (AV.atAgg (AV.mk 3 [[(AV.cel x0 0), (AV.cel x0 1), (AV.cel x0 2)], [(AV.cel x1 0), (AV.cel x1 1), (AV.cel x1 2)]]) (ys577.getD 0 default) 0 3) 0), (AV.cel (AV.atAgg (AV.mk 3 [[(AV.cel x0 0), (AV.cel x0 1), (AV.cel x0 2)], [(AV.cel x1 0), (AV.cel x1 1), (AV.cel x1 2)]]) (ys577.getD 0 default) 0 3) 1), (AV.cel (AV.atAgg (AV.mk 3 [[(AV.cel x0 0), (AV.cel x0 1), (AV.cel x0 2)], [(AV.cel x1 0), (AV.cel x1 1), (AV.cel x1 2)]]) (ys577.getD 0 default) 0 3) 2)])] Sh.sc r961) ∧
    ((AV.binOk Go.BinOp.neq r961 (AV.int 0)) ∧
    ((AV.isBool (AV.bin Go.BinOp.neq r961 (AV.int 0))) ∧
    (((isT (AV.bin Go.BinOp.neq r961 (AV.int 0))) →
      ((AV.flat (AV.bool false)) ∧
      ((AV.flat r961) ∧
      (fSame (AV.tup [(AV.bool false), r961]) r)))) ∧
    ((isF (AV.bin Go.BinOp.neq r961 (AV.int 0))) →
      ((AV.binOk Go.BinOp.add (ys577.getD 0 default) (AV.int 1)) ∧
      (again577 [(AV.bin Go.BinOp.add (ys577.getD 0 default) (AV.int 1))])))))))))))) ∧
  ((isF (AV.bin Go.BinOp.lss (ys577.getD 0 default) (AV.len (AV.mk 3 [[(AV.cel x0 0), (AV.cel x0 1), (AV.cel x0 2)], [(AV.cel x1 0), (AV.cel x1 1), (AV.cel x1 2)]])))) →
    (∃ r897 : AV, ((Fn Try.prog 38 [(AV.cel x0 0), (AV.cel x1 0)] (Sh.tup [Sh.sc, Sh.sc]) r897) ∧
    ((AV.binOk Go.BinOp.eql (AV.prj r897 1) (AV.int 0)) ∧
    ((AV.isBool (AV.bin Go.BinOp.eql (AV.prj r897 1) (AV.int 0))) ∧
    (((isT (AV.bin Go.BinOp.eql (AV.prj r897 1) (AV.int 0))) →
      ((AV.isBool (AV.bin Go.BinOp.eql (AV.prj r897 1) (AV.int 0))) ∧
      ((isT (AV.bin Go.BinOp.eql (AV.prj r897 1) (AV.int 0))) ∧
      ((AV.isBool (AV.prj r897 0)) ∧
      (((isT (AV.prj r897 0)) →
        ((AV.isInt (AV.cel x0 1)) ∧
        ((AV.isInt (AV.cel x1 1)) ∧
        ((AV.isInt (AV.cel x0 2)) ∧
        ((AV.isInt (AV.cel x1 2)) ∧
        ((AV.binOk Go.BinOp.lss (AV.mx (AV.cel x0 1) (AV.cel x1 1)) (AV.mn (AV.cel x0 2) (AV.cel x1 2))) ∧
        ((AV.isBool (AV.prj r897 0)) ∧
        ((isT (AV.prj r897 0)) ∧
        ((AV.flat (AV.bin Go.BinOp.lss (AV.mx (AV.cel x0 1) (AV.cel x1 1)) (AV.mn (AV.cel x0 2) (AV.cel x1 2)))) ∧
        ((AV.flat (AV.prj r897 1)) ∧
        (fSame (AV.tup [(AV.bin Go.BinOp.lss (AV.mx (AV.cel x0 1) (AV.cel x1 1)) (AV.mn (AV.cel x0 2) (AV.cel x1 2))), (AV.prj r897 1)]) r))))))))))) ∧
      ((isF (AV.prj r897 0)) →
        ((AV.isBool (AV.prj r897 0)) ∧
        ((isF (AV.prj r897 0)) ∧
        ((AV.flat (AV.bool false)) ∧
        ((AV.flat (AV.prj r897 1)) ∧
        (fSame (AV.tup [(AV.bool false), (AV.prj r897 1)]) r))))))))))) ∧
    ((isF (AV.bin Go.BinOp.eql (AV.prj r897 1) (AV.int 0))) →
      ((AV.isBool (AV.bin Go.BinOp.eql (AV.prj r897 1) (AV.int 0))) ∧
      ((isF (AV.bin Go.BinOp.eql (AV.prj r897 1) (AV.int 0))) ∧
      ((AV.flat (AV.bool false)) ∧
      ((AV.flat (AV.prj r897 1)) ∧
      (fSame (AV.tup [(AV.bool false), (AV.prj r897 1)]) r))))))))))))))))))) := by kernel_rfl
theorem scheck_form (x0 r : AV) : fnF Try.prog Γ ann 3 8 Try.f8 (Try.f8.body.getD .skip) (.nil) [x0] (.sc) r = (((AV.isSl x0 2) ∧
((AV.binOk Go.BinOp.gtr (AV.len x0) (AV.int 12)) ∧
((AV.isBool (AV.bin Go.BinOp.gtr (AV.len x0) (AV.int 12))) ∧
(((isT (AV.bin Go.BinOp.gtr (AV.len x0) (AV.int 12))) →
  ((AV.flat (AV.int 2)) ∧
  (fSame (AV.int 2) r))) ∧
((isF (AV.bin Go.BinOp.gtr (AV.len x0) (AV.int 12))) →
  ((AV.isSl x0 2) ∧
  (fLoop 513 [(AV.int 0), (AV.mk 3 [])] fun ys513 again513 =>
    ((AV.binOk Go.BinOp.lss (ys513.getD 0 default) (AV.len x0)) ∧
    ((AV.isBool (AV.bin Go.BinOp.lss (ys513.getD 0 default) (AV.len x0))) ∧
    (((isT (AV.bin Go.BinOp.lss (ys513.getD 0 default) (AV.len x0))) →
      ((AV.isSl x0 2) ∧
      ((AV.inb x0 (ys513.getD 0 default)) ∧
      ((AV.isAgg (AV.atAgg x0 (ys513.getD 0 default) 0 2) 2) ∧
      (∃ r1089 : AV, ((Fn Try.prog 10 [(AV.cel (AV.atAgg x0 (ys513.getD 0 default) 0 2) 0)] Sh.sc r1089) ∧
      ((AV.unOk Go.UnOp.not r1089) ∧
      ((AV.isBool (AV.un Go.UnOp.not r1089)) ∧
      (((isT (AV.un Go.UnOp.not r1089)) →
        ((AV.flat (AV.int 3)) ∧
        (fSame (AV.int 3) r))) ∧
      ((isF (AV.un Go.UnOp.not r1089)) →
        ((AV.isSl (AV.cel (AV.atAgg x0 (ys513.getD 0 default) 0 2) 1) 3) ∧
        ((AV.binOk Go.BinOp.eql (AV.len (AV.cel (AV.atAgg x0 (ys513.getD 0 default) 0 2) 1)) (AV.int 0)) ∧
        ((AV.isBool (AV.bin Go.BinOp.eql (AV.len (AV.cel (AV.atAgg x0 (ys513.getD 0 default) 0 2) 1)) (AV.int 0))) ∧
        (((isT (AV.bin Go.BinOp.eql (AV.len (AV.cel (AV.atAgg x0 (ys513.getD 0 default) 0 2) 1)) (AV.int 0))) →
          ((AV.flat (AV.int 8)) ∧
          (fSame (AV.int 8) r))) ∧
        ((isF (AV.bin Go.BinOp.eql (AV.len (AV.cel (AV.atAgg x0 (ys513.getD 0 default) 0 2) 1)) (AV.int 0))) →
          ((AV.isSl (AV.cel (AV.atAgg x0 (ys513.getD 0 default) 0 2) 1) 3) ∧
          ((AV.binOk Go.BinOp.gtr (AV.len (AV.cel (AV.atAgg x0 (ys513.getD 0 default) 0 2) 1)) (AV.int 4)) ∧
          ((AV.isBool (AV.bin Go.BinOp.gtr (AV.len (AV.cel (AV.atAgg x0 (ys513.getD 0 default) 0 2) 1)) (AV.int 4))) ∧
          (((isT (AV.bin Go.BinOp.gtr (AV.len (AV.cel (AV.atAgg x0 (ys513.getD 0 default) 0 2) 1)) (AV.int 4))) →
            ((AV.flat (AV.int 2)) ∧
            (fSame (AV.int 2) r))) ∧
          ((isF (AV.bin Go.BinOp.gtr (AV.len (AV.cel (AV.atAgg x0 (ys513.getD 0 default) 0 2) 1)) (AV.int 4))) →
            ((AV.isSl (AV.cel (AV.atAgg x0 (ys513.getD 0 default) 0 2) 1) 3) ∧
            (fLoop 2177 [(AV.int 0)] fun ys2177 again2177 =>
              ((AV.binOk Go.BinOp.lss (ys2177.getD 0 default) (AV.len (AV.cel (AV.atAgg x0 (ys513.getD 0 default) 0 2) 1))) ∧
              ((AV.isBool (AV.bin Go.BinOp.lss (ys2177.getD 0 default) (AV.len (AV.cel (AV.atAgg x0 (ys513.getD 0 default) 0 2) 1)))) ∧
              (((isT (AV.bin Go.BinOp.lss (ys2177.getD 0 default) (AV.len (AV.cel (AV.atAgg x0 (ys513.getD 0 default) 0 2) 1)))) →
                ((AV.isSl (AV.cel (AV.atAgg x0 (ys513.getD 0 default) 0 2) 1) 3) ∧
                ((AV.inb (AV.cel (AV.atAgg x0 (ys513.getD 0 default) 0 2) 1) (ys2177.getD 0 default)) ∧
                ((AV.isAgg (AV.atAgg (AV.cel (AV.atAgg x0 (ys513.getD 0 default) 0 2) 1) (ys2177.getD 0 default) 0 3) 3) ∧
                (∃ r2561 : AV, ((Fn Try.prog 23 [(AV.agg [(AV.cel (AV.atAgg (AV.cel (AV.atAgg x0 (ys513.getD 0 default) 0 2) 1) (ys2177.getD 0 default) 0 3) 0), (AV.cel (AV.atAgg (AV.cel (AV.atAgg x0 (ys513.getD 0 default) 0 2) 1) (ys2177.getD 0 default) 0 3) 1), (AV.cel (AV.atAgg (AV.cel (AV.atAgg x0 (ys513.getD 0 default) 0 2) 1) (ys2177.getD 0 default) 0 3) 2)])] Sh.sc r2561) ∧
                ((AV.binOk Go.BinOp.neq r2561 (AV.int 0)) ∧
                ((AV.isBool (AV.bin Go.BinOp.neq r2561 (AV.int 0))) ∧
                (((isT (AV.bin Go.BinOp.neq r2561 (AV.int 0))) →
                  ((AV.flat r2561) ∧
                  (fSame r2561 r))) ∧
                ((isF (AV.bin Go.BinOp.neq r2561 (AV.int 0))) →
                  ((AV.binOk Go.BinOp.add (ys2177.getD 0 default) (AV.int 1)) ∧
                  (again2177 [(AV.bin Go.BinOp.add (ys2177.getD 0 default) (AV.int 1))])))))))))))) ∧
              ((isF (AV.bin Go.BinOp.lss (ys2177.getD 0 default) (AV.len (AV.cel (AV.atAgg x0 (ys513.getD 0 default) 0 2) 1)))) →
                ((AV.isSl x0 2) ∧
                ((AV.subOk x0 (AV.int 0) (ys513.getD 0 default)) ∧
                ((fEnt Try.prog 24) ∧
                (fAllV fun _ => ((fEnt Try.prog 37) ∧
                (fAllV fun _ => ((AV.isSl (AV.sub 2 x0 (AV.int 0) (ys513.getD 0 default)) 2) ∧
                (fLoop 3073 [(AV.int 0)] fun ys3073 again3073 =>
                  ((AV.binOk Go.BinOp.lss (ys3073.getD 0 default) (AV.len (AV.sub 2 x0 (AV.int 0) (ys513.getD 0 default)))) ∧
                  ((AV.isBool (AV.bin Go.BinOp.lss (ys3073.getD 0 default) (AV.len (AV.sub 2 x0 (AV.int 0) (ys513.getD 0 default))))) ∧
                  (((isT (AV.bin Go.BinOp.lss (ys3073.getD 0 default) (AV.len (AV.sub 2 x0 (AV.int 0) (ys513.getD 0 default))))) →
                    ((AV.isSl (AV.sub 2 x0 (AV.int 0) (ys513.getD 0 default)) 2) ∧
                    ((AV.inb (AV.sub 2 x0 (AV.int 0) (ys513.getD 0 default)) (ys3073.getD 0 default)) ∧
                    ((fEnt Try.prog 25) ∧
                    (fAllV fun _ => ((AV.isAgg (AV.atAgg (AV.sub 2 x0 (AV.int 0) (ys513.getD 0 default)) (ys3073.getD 0 default) 0 2) 2) ∧
                    ((AV.binOk Go.BinOp.eql (AV.cel (AV.atAgg (AV.sub 2 x0 (AV.int 0) (ys513.getD 0 default)) (ys3073.getD 0 default) 0 2) 0) (AV.cel (AV.atAgg x0 (ys513.getD 0 default) 0 2) 0)) ∧
                    ((AV.isBool (AV.bin Go.BinOp.eql (AV.cel (AV.atAgg (AV.sub 2 x0 (AV.int 0) (ys513.getD 0 default)) (ys3073.getD 0 default) 0 2) 0) (AV.cel (AV.atAgg x0 (ys513.getD 0 default) 0 2) 0))) ∧
                    (((isT (AV.bin Go.BinOp.eql (AV.cel (AV.atAgg (AV.sub 2 x0 (AV.int 0) (ys513.getD 0 default)) (ys3073.getD 0 default) 0 2) 0) (AV.cel (AV.atAgg x0 (ys513.getD 0 default) 0 2) 0))) →
                      ((AV.binOk Go.BinOp.geq (ys3073.getD 0 default) (AV.int 0)) ∧
                      ((AV.isBool (AV.bin Go.BinOp.geq (ys3073.getD 0 default) (AV.int 0))) ∧
                      (((isT (AV.bin Go.BinOp.geq (ys3073.getD 0 default) (AV.int 0))) →
                        ((AV.flat (AV.int 7)) ∧
                        (fSame (AV.int 7) r))) ∧
                      ((isF (AV.bin Go.BinOp.geq (ys3073.getD 0 default) (AV.int 0))) →
                        ((AV.isSl (AV.cel (AV.atAgg x0 (ys513.getD 0 default) 0 2) 1) 3) ∧
                        ((AV.room (ys513.getD 1 default) (AV.cel (AV.atAgg x0 (ys513.getD 0 default) 0 2) 1) 40) ∧
                        ((AV.binOk Go.BinOp.add (ys513.getD 0 default) (AV.int 1)) ∧
                        (again513 [(AV.bin Go.BinOp.add (ys513.getD 0 default) (AV.int 1)), (AV.app 3 (ys513.getD 1 default) (AV.cel (AV.atAgg x0 (ys513.getD 0 default) 0 2) 1))]))))))))) ∧
                    ((isF (AV.bin Go.BinOp.eql (AV.cel (AV.atAgg (AV.sub 2 x0 (AV.int 0) (ys513.getD 0 default)) (ys3073.getD 0 default) 0 2) 0) (AV.cel (AV.atAgg x0 (ys513.getD 0 default) 0 2) 0))) →
                      ((AV.binOk Go.BinOp.add (ys3073.getD 0 default) (AV.int 1)) ∧
                      (again3073 [(AV.bin Go.BinOp.add (ys3073.getD 0 default) (AV.int 1))])))))))))))) ∧
                  ((isF (AV.bin Go.BinOp.lss (ys3073.getD 0 default) (AV.len (AV.sub 2 x0 (AV.int 0) (ys513.getD 0 default))))) →
                    ((AV.isSl (AV.cel (AV.atAgg x0 (ys513.getD 0 default) 0 2) 1) 3) ∧
                    ((AV.room (ys513.getD 1 default) (AV.cel (AV.atAgg x0 (ys513.getD 0 default) 0 2) 1) 40) ∧
                    ((AV.binOk Go.BinOp.add (ys513.getD 0 default) (AV.int 1)) ∧
                    (again513 [(AV.bin Go.BinOp.add (ys513.getD 0 default) (AV.int 1)), (AV.app 3 (ys513.getD 1 default) (AV.cel (AV.atAgg x0 (ys513.getD 0 default) 0 2) 1))])))))))))))))))))))))))))))))))))))))))))) ∧
    ((isF (AV.bin Go.BinOp.lss (ys513.getD 0 default) (AV.len x0))) →
      (fLoop 769 [(AV.int 0)] fun ys769 again769 =>
        ((AV.binOk Go.BinOp.lss (ys769.getD 0 default) (AV.len (ys513.getD 1 default))) ∧
        ((AV.isBool (AV.bin Go.BinOp.lss (ys769.getD 0 default) (AV.len (ys513.getD 1 default)))) ∧
        (((isT (AV.bin Go.BinOp.lss (ys769.getD 0 default) (AV.len (ys513.getD 1 default)))) →
          ((AV.isSl (ys513.getD 1 default) 3) ∧
          ((AV.inb (ys513.getD 1 default) (ys769.getD 0 default)) ∧
          ((AV.isAgg (AV.atAgg (ys513.getD 1 default) (ys769.getD 0 default) 0 3) 3) ∧
          ((AV.isSl (ys513.getD 1 default) 3) ∧
          ((AV.subOk (ys513.getD 1 default) (AV.int 0) (ys769.getD 0 default)) ∧
          ((AV.isSl (AV.sub 3 (ys513.getD 1 default) (AV.int 0) (ys769.getD 0 default)) 3) ∧
          (fLoop 1537 [(AV.int 0)] fun ys1537 again1537 =>
            ((AV.binOk Go.BinOp.lss (ys1537.getD 0 default) (AV.len (AV.sub 3 (ys513.getD 1 default) (AV.int 0) (ys769.getD 0 default)))) ∧
            ((AV.isBool (AV.bin Go.BinOp.lss (ys1537.getD 0 default) (AV.len (AV.sub 3 (ys513.getD 1 default) (AV.int 0) (ys769.getD 0 default))))) ∧
            (((isT (AV.bin Go.BinOp.lss (ys1537.getD 0 default) (AV.len (AV.sub 3 (ys513.getD 1 default) (AV.int 0) (ys769.getD 0 default))))) →
              ((AV.isSl (AV.sub 3 (ys513.getD 1 default) (AV.int 0) (ys769.getD 0 default)) 3) ∧
              ((AV.inb (AV.sub 3 (ys513.getD 1 default) (AV.int 0) (ys769.getD 0 default)) (ys1537.getD 0 default)) ∧
              ((AV.isAgg (AV.atAgg (AV.sub 3 (ys513.getD 1 default) (AV.int 0) (ys769.getD 0 default)) (ys1537.getD 0 default) 0 3) 3) ∧
              (∃ r1985 : AV, ((Fn Try.prog 26 [(AV.agg [(AV.cel (AV.atAgg (ys513.getD 1 default) (ys769.getD 0 default) 0 3) 0), (AV.cel (AV.atAgg (ys513.getD 1 default) (ys769.getD 0 default) 0 3) 1), (AV.cel (AV.atAgg (ys513.getD 1 default) (ys769.getD 0 default) 0 3) 2)]), (AV.agg [(AV.cel (AV.atAgg (AV.sub 3 (ys513.getD 1 default) (AV.int 0) (ys769.getD 0 default)) (ys1537.getD 0 default) 0 3) 0), (AV.cel (AV.atAgg (AV.sub 3 (ys513.getD 1 default) (AV.int 0) (ys769.getD 0 default)) (ys1537.getD 0 default) 0 3) 1), (AV.cel (AV.atAgg (AV.sub 3 (ys513.getD 1 default) (AV.int 0) (ys769.getD 0 default)) (ys1537.getD 0 default) 0 3) 2)])] (Sh.tup [Sh.sc, Sh.sc]) r1985) ∧
              ((AV.isBool (AV.prj r1985 0)) ∧
              (((isT (AV.prj r1985 0)) →
                ((AV.flat (AV.int 19)) ∧
                (fSame (AV.int 19) r))) ∧
              ((isF (AV.prj r1985 0)) →
                ((AV.binOk Go.BinOp.add (ys1537.getD 0 default) (AV.int 1)) ∧
                (again1537 [(AV.bin Go.BinOp.add (ys1537.getD 0 default) (AV.int 1))]))))))))))) ∧
            ((isF (AV.bin Go.BinOp.lss (ys1537.getD 0 default) (AV.len (AV.sub 3 (ys513.getD 1 default) (AV.int 0) (ys769.getD 0 default))))) →
              ((AV.binOk Go.BinOp.add (ys769.getD 0 default) (AV.int 1)) ∧
              (again769 [(AV.bin Go.BinOp.add (ys769.getD 0 default) (AV.int 1))])))))))))))))) ∧
        ((isF (AV.bin Go.BinOp.lss (ys769.getD 0 default) (AV.len (ys513.getD 1 default)))) →
          ((AV.flat (AV.int 0)) ∧
          (fSame (AV.int 0) r))))))))))))))))))) := by kernel_rfl
theorem splace_form (x0 x1 x2 r : AV) : fnF Try.prog Γ ann 5 29 Try.f29 (Try.f29.body.getD .skip) (.nil) [x0, x1, x2] (.sc) r = (((AV.isAgg x1 2) ∧
((AV.isOne x2) ∧
((fEnt Try.prog 37) ∧
(fAllV fun _ => ((AV.isSl x0 2) ∧
(fLoop 641 [(AV.int 0)] fun ys641 again641 =>
  ((AV.binOk Go.BinOp.lss (ys641.getD 0 default) (AV.len x0)) ∧
  ((AV.isBool (AV.bin Go.BinOp.lss (ys641.getD 0 default) (AV.len x0))) ∧
  (((isT (AV.bin Go.BinOp.lss (ys641.getD 0 default) (AV.len x0))) →
    ((AV.isSl x0 2) ∧
    ((AV.inb x0 (ys641.getD 0 default)) ∧
    ((fEnt Try.prog 39) ∧
    (fAllV fun _ => ((AV.isAgg (AV.atAgg x0 (ys641.getD 0 default) 0 2) 2) ∧
    ((fEnt Try.prog 40) ∧
    (fAllV fun _ => ((fEnt Try.prog 57) ∧
    (fAllV fun _ => ((AV.isSl (AV.cel (AV.atAgg x0 (ys641.getD 0 default) 0 2) 1) 3) ∧
    (fLoop 2113 [(AV.int 0)] fun ys2113 again2113 =>
      ((AV.binOk Go.BinOp.lss (ys2113.getD 0 default) (AV.len (AV.cel (AV.atAgg x0 (ys641.getD 0 default) 0 2) 1))) ∧
      ((AV.isBool (AV.bin Go.BinOp.lss (ys2113.getD 0 default) (AV.len (AV.cel (AV.atAgg x0 (ys641.getD 0 default) 0 2) 1)))) ∧
      (((isT (AV.bin Go.BinOp.lss (ys2113.getD 0 default) (AV.len (AV.cel (AV.atAgg x0 (ys641.getD 0 default) 0 2) 1)))) →
        ((AV.isSl (AV.cel (AV.atAgg x0 (ys641.getD 0 default) 0 2) 1) 3) ∧
        ((AV.inb (AV.cel (AV.atAgg x0 (ys641.getD 0 default) 0 2) 1) (ys2113.getD 0 default)) ∧
        ((fEnt Try.prog 41) ∧
        (fAllV fun _ => ((AV.isAgg (AV.atAgg (AV.cel (AV.atAgg x0 (ys641.getD 0 default) 0 2) 1) (ys2113.getD 0 default) 0 3) 3) ∧
        (∃ r3009 : AV, ((Fn Try.prog 42 [(AV.agg [(AV.cel (AV.atAgg (AV.cel (AV.atAgg x0 (ys641.getD 0 default) 0 2) 1) (ys2113.getD 0 default) 0 3) 0), (AV.cel (AV.atAgg (AV.cel (AV.atAgg x0 (ys641.getD 0 default) 0 2) 1) (ys2113.getD 0 default) 0 3) 1), (AV.cel (AV.atAgg (AV.cel (AV.atAgg x0 (ys641.getD 0 default) 0 2) 1) (ys2113.getD 0 default) 0 3) 2)]), (AV.agg [(AV.cel x1 0), (AV.cel x1 1)]), x2] Sh.sc r3009) ∧
        ((AV.isBool r3009) ∧
        (((isT r3009) →
          ((AV.binOk Go.BinOp.geq (ys2113.getD 0 default) (AV.int 0)) ∧
          ((AV.isBool (AV.bin Go.BinOp.geq (ys2113.getD 0 default) (AV.int 0))) ∧
          (((isT (AV.bin Go.BinOp.geq (ys2113.getD 0 default) (AV.int 0))) →
            ((AV.flat (ys641.getD 0 default)) ∧
            (fSame (ys641.getD 0 default) r))) ∧
          ((isF (AV.bin Go.BinOp.geq (ys2113.getD 0 default) (AV.int 0))) →
            ((AV.binOk Go.BinOp.add (ys641.getD 0 default) (AV.int 1)) ∧
            (again641 [(AV.bin Go.BinOp.add (ys641.getD 0 default) (AV.int 1))]))))))) ∧
        ((isF r3009) →
          ((AV.binOk Go.BinOp.add (ys2113.getD 0 default) (AV.int 1)) ∧
          (again2113 [(AV.bin Go.BinOp.add (ys2113.getD 0 default) (AV.int 1))]))))))))))))) ∧
      ((isF (AV.bin Go.BinOp.lss (ys2113.getD 0 default) (AV.len (AV.cel (AV.atAgg x0 (ys641.getD 0 default) 0 2) 1)))) →
        ((AV.binOk Go.BinOp.add (ys641.getD 0 default) (AV.int 1)) ∧
        (again641 [(AV.bin Go.BinOp.add (ys641.getD 0 default) (AV.int 1))])))))))))))))))))) ∧
  ((isF (AV.bin Go.BinOp.lss (ys641.getD 0 default) (AV.len x0))) →
    ((AV.flat (AV.int (-1))) ∧
    (fSame (AV.int (-1)) r))))))))))))) := by kernel_rfl
theorem find_form (x0 x1 x2 r : AV) : fnF Try.prog Γ ann 3 14 Try.f14 (Try.f14.body.getD .skip) (.nil) [x0, x1, x2] (.tup [.sc, .sc]) r = (((AV.isAgg x1 2) ∧
(∃ r257 : AV, ((Fn Try.prog 8 [x0] Sh.sc r257) ∧
((AV.binOk Go.BinOp.neq r257 (AV.int 0)) ∧
((AV.isBool (AV.bin Go.BinOp.neq r257 (AV.int 0))) ∧
(((isT (AV.bin Go.BinOp.neq r257 (AV.int 0))) →
  ((AV.flat (AV.int 0)) ∧
  ((AV.flat r257) ∧
  (fSame (AV.tup [(AV.int 0), r257]) r)))) ∧
((isF (AV.bin Go.BinOp.neq r257 (AV.int 0))) →
  (∃ r577 : AV, ((Fn Try.prog 12 [(AV.agg [(AV.cel x1 0), (AV.cel x1 1)])] Sh.sc r577) ∧
  ((AV.binOk Go.BinOp.neq r577 (AV.int 0)) ∧
  ((AV.isBool (AV.bin Go.BinOp.neq r577 (AV.int 0))) ∧
  (((isT (AV.bin Go.BinOp.neq r577 (AV.int 0))) →
    ((AV.flat (AV.int 0)) ∧
    ((AV.flat r577) ∧
    (fSame (AV.tup [(AV.int 0), r577]) r)))) ∧
  ((isF (AV.bin Go.BinOp.neq r577 (AV.int 0))) →
    ((AV.binOk Go.BinOp.lss x2 (AV.int 0)) ∧
    ((AV.isBool (AV.bin Go.BinOp.lss x2 (AV.int 0))) ∧
    (((isT (AV.bin Go.BinOp.lss x2 (AV.int 0))) →
      ((AV.isBool (AV.bin Go.BinOp.lss x2 (AV.int 0))) ∧
      ((isT (AV.bin Go.BinOp.lss x2 (AV.int 0))) ∧
      ((AV.flat (AV.int 0)) ∧
      ((AV.flat (AV.int 4)) ∧
      (fSame (AV.tup [(AV.int 0), (AV.int 4)]) r)))))) ∧
    ((isF (AV.bin Go.BinOp.lss x2 (AV.int 0))) →
      ((AV.binOk Go.BinOp.gtr x2 (AV.int 60000)) ∧
      ((AV.isBool (AV.bin Go.BinOp.lss x2 (AV.int 0))) ∧
      ((isF (AV.bin Go.BinOp.lss x2 (AV.int 0))) ∧
      ((AV.isBool (AV.bin Go.BinOp.gtr x2 (AV.int 60000))) ∧
      (((isT (AV.bin Go.BinOp.gtr x2 (AV.int 60000))) →
        ((AV.flat (AV.int 0)) ∧
        ((AV.flat (AV.int 4)) ∧
        (fSame (AV.tup [(AV.int 0), (AV.int 4)]) r)))) ∧
      ((isF (AV.bin Go.BinOp.gtr x2 (AV.int 60000))) →
        (∃ r1409 : AV, ((Fn Try.prog 29 [x0, (AV.agg [(AV.cel x1 0), (AV.cel x1 1)]), x2] Sh.sc r1409) ∧
        ((AV.binOk Go.BinOp.lss r1409 (AV.int 0)) ∧
        ((AV.isBool (AV.bin Go.BinOp.lss r1409 (AV.int 0))) ∧
        (((isT (AV.bin Go.BinOp.lss r1409 (AV.int 0))) →
          ((AV.flat (AV.int 0)) ∧
          ((AV.flat (AV.int 8)) ∧
          (fSame (AV.tup [(AV.int 0), (AV.int 8)]) r)))) ∧
        ((isF (AV.bin Go.BinOp.lss r1409 (AV.int 0))) →
          ((AV.flat r1409) ∧
          ((AV.flat (AV.int 0)) ∧
          (fSame (AV.tup [r1409, (AV.int 0)]) r))))))))))))))))))))))))))))))))) := by kernel_rfl
theorem box_form (x0 r : AV) : fnF Try.prog Γ ann 3 13 Try.f13 (Try.f13.body.getD .skip) (.nil) [x0] (.sc) r = (((AV.isAgg x0 6) ∧
(fLoop 513 [(AV.int 0)] fun ys513 again513 =>
  ((AV.binOk Go.BinOp.lss (ys513.getD 0 default) (AV.int 2)) ∧
  ((AV.isBool (AV.bin Go.BinOp.lss (ys513.getD 0 default) (AV.int 2))) ∧
  (((isT (AV.bin Go.BinOp.lss (ys513.getD 0 default) (AV.int 2))) →
    ((AV.inl 2 (ys513.getD 0 default)) ∧
    (∃ r833 : AV, ((Fn Try.prog 12 [(AV.agg [(AV.nth [(AV.cel x0 0), (AV.cel x0 1), (AV.cel x0 2), (AV.cel x0 3)] 0 [((ys513.getD 0 default), 2)]), (AV.nth [(AV.cel x0 0), (AV.cel x0 1), (AV.cel x0 2), (AV.cel x0 3)] 1 [((ys513.getD 0 default), 2)])])] Sh.sc r833) ∧
    ((AV.binOk Go.BinOp.neq r833 (AV.int 0)) ∧
    ((AV.isBool (AV.bin Go.BinOp.neq r833 (AV.int 0))) ∧
    (((isT (AV.bin Go.BinOp.neq r833 (AV.int 0))) →
      ((AV.flat r833) ∧
      (fSame r833 r))) ∧
    ((isF (AV.bin Go.BinOp.neq r833 (AV.int 0))) →
      ((AV.binOk Go.BinOp.add (ys513.getD 0 default) (AV.int 1)) ∧
      (again513 [(AV.bin Go.BinOp.add (ys513.getD 0 default) (AV.int 1))])))))))))) ∧
  ((isF (AV.bin Go.BinOp.lss (ys513.getD 0 default) (AV.int 2))) →
    ((AV.binOk Go.BinOp.geq (AV.cel x0 0) (AV.cel x0 2)) ∧
    ((AV.isBool (AV.bin Go.BinOp.geq (AV.cel x0 0) (AV.cel x0 2))) ∧
    (((isT (AV.bin Go.BinOp.geq (AV.cel x0 0) (AV.cel x0 2))) →
      ((AV.isBool (AV.bin Go.BinOp.geq (AV.cel x0 0) (AV.cel x0 2))) ∧
      ((isT (AV.bin Go.BinOp.geq (AV.cel x0 0) (AV.cel x0 2))) ∧
      ((AV.flat (AV.int 4)) ∧
      (fSame (AV.int 4) r))))) ∧
    ((isF (AV.bin Go.BinOp.geq (AV.cel x0 0) (AV.cel x0 2))) →
      ((AV.binOk Go.BinOp.geq (AV.cel x0 1) (AV.cel x0 3)) ∧
      ((AV.isBool (AV.bin Go.BinOp.geq (AV.cel x0 0) (AV.cel x0 2))) ∧
      ((isF (AV.bin Go.BinOp.geq (AV.cel x0 0) (AV.cel x0 2))) ∧
      ((AV.isBool (AV.bin Go.BinOp.geq (AV.cel x0 1) (AV.cel x0 3))) ∧
      (((isT (AV.bin Go.BinOp.geq (AV.cel x0 1) (AV.cel x0 3))) →
        ((AV.isBool (AV.bin Go.BinOp.geq (AV.cel x0 1) (AV.cel x0 3))) ∧
        ((isT (AV.bin Go.BinOp.geq (AV.cel x0 1) (AV.cel x0 3))) ∧
        ((AV.flat (AV.int 4)) ∧
        (fSame (AV.int 4) r))))) ∧
      ((isF (AV.bin Go.BinOp.geq (AV.cel x0 1) (AV.cel x0 3))) →
        ((AV.binOk Go.BinOp.lss (AV.cel x0 4) (AV.int 0)) ∧
        ((AV.isBool (AV.bin Go.BinOp.geq (AV.cel x0 1) (AV.cel x0 3))) ∧
        ((isF (AV.bin Go.BinOp.geq (AV.cel x0 1) (AV.cel x0 3))) ∧
        ((AV.isBool (AV.bin Go.BinOp.lss (AV.cel x0 4) (AV.int 0))) ∧
        (((isT (AV.bin Go.BinOp.lss (AV.cel x0 4) (AV.int 0))) →
          ((AV.isBool (AV.bin Go.BinOp.lss (AV.cel x0 4) (AV.int 0))) ∧
          ((isT (AV.bin Go.BinOp.lss (AV.cel x0 4) (AV.int 0))) ∧
          ((AV.flat (AV.int 4)) ∧
          (fSame (AV.int 4) r))))) ∧
        ((isF (AV.bin Go.BinOp.lss (AV.cel x0 4) (AV.int 0))) →
          ((AV.binOk Go.BinOp.geq (AV.cel x0 4) (AV.cel x0 5)) ∧
          ((AV.isBool (AV.bin Go.BinOp.lss (AV.cel x0 4) (AV.int 0))) ∧
          ((isF (AV.bin Go.BinOp.lss (AV.cel x0 4) (AV.int 0))) ∧
          ((AV.isBool (AV.bin Go.BinOp.geq (AV.cel x0 4) (AV.cel x0 5))) ∧
          (((isT (AV.bin Go.BinOp.geq (AV.cel x0 4) (AV.cel x0 5))) →
            ((AV.isBool (AV.bin Go.BinOp.geq (AV.cel x0 4) (AV.cel x0 5))) ∧
            ((isT (AV.bin Go.BinOp.geq (AV.cel x0 4) (AV.cel x0 5))) ∧
            ((AV.flat (AV.int 4)) ∧
            (fSame (AV.int 4) r))))) ∧
          ((isF (AV.bin Go.BinOp.geq (AV.cel x0 4) (AV.cel x0 5))) →
            ((AV.binOk Go.BinOp.gtr (AV.cel x0 5) (AV.int 60001)) ∧
            ((AV.isBool (AV.bin Go.BinOp.geq (AV.cel x0 4) (AV.cel x0 5))) ∧
            ((isF (AV.bin Go.BinOp.geq (AV.cel x0 4) (AV.cel x0 5))) ∧
            ((AV.isBool (AV.bin Go.BinOp.gtr (AV.cel x0 5) (AV.int 60001))) ∧
            (((isT (AV.bin Go.BinOp.gtr (AV.cel x0 5) (AV.int 60001))) →
              ((AV.flat (AV.int 4)) ∧
              (fSame (AV.int 4) r))) ∧
            ((isF (AV.bin Go.BinOp.gtr (AV.cel x0 5) (AV.int 60001))) →
              ((AV.flat (AV.int 0)) ∧
              (fSame (AV.int 0) r))))))))))))))))))))))))))))))))))))) := by kernel_rfl
theorem left_form (x0 x1 r : AV) : fnF Try.prog Γ ann 3 21 Try.f21 (Try.f21.body.getD .skip) (.nil) [x0, x1] (.tup [.sc, .sc]) r = (((AV.isAgg x1 6) ∧
(∃ r257 : AV, ((Fn Try.prog 8 [x0] Sh.sc r257) ∧
((AV.binOk Go.BinOp.neq r257 (AV.int 0)) ∧
((AV.isBool (AV.bin Go.BinOp.neq r257 (AV.int 0))) ∧
(((isT (AV.bin Go.BinOp.neq r257 (AV.int 0))) →
  ((AV.flat (AV.int 0)) ∧
  ((AV.flat r257) ∧
  (fSame (AV.tup [(AV.int 0), r257]) r)))) ∧
((isF (AV.bin Go.BinOp.neq r257 (AV.int 0))) →
  (∃ r577 : AV, ((Fn Try.prog 13 [(AV.agg [(AV.cel x1 0), (AV.cel x1 1), (AV.cel x1 2), (AV.cel x1 3), (AV.cel x1 4), (AV.cel x1 5)])] Sh.sc r577) ∧
  ((AV.binOk Go.BinOp.neq r577 (AV.int 0)) ∧
  ((AV.isBool (AV.bin Go.BinOp.neq r577 (AV.int 0))) ∧
  (((isT (AV.bin Go.BinOp.neq r577 (AV.int 0))) →
    ((AV.flat (AV.int 0)) ∧
    ((AV.flat r577) ∧
    (fSame (AV.tup [(AV.int 0), r577]) r)))) ∧
  ((isF (AV.bin Go.BinOp.neq r577 (AV.int 0))) →
    ((AV.binOk Go.BinOp.sub (AV.cel x1 2) (AV.cel x1 0)) ∧
    ((AV.binOk Go.BinOp.mul (AV.int 2) (AV.bin Go.BinOp.sub (AV.cel x1 2) (AV.cel x1 0))) ∧
    ((AV.binOk Go.BinOp.sub (AV.cel x1 3) (AV.cel x1 1)) ∧
    ((AV.binOk Go.BinOp.mul (AV.bin Go.BinOp.mul (AV.int 2) (AV.bin Go.BinOp.sub (AV.cel x1 2) (AV.cel x1 0))) (AV.bin Go.BinOp.sub (AV.cel x1 3) (AV.cel x1 1))) ∧
    ((AV.binOk Go.BinOp.sub (AV.cel x1 5) (AV.cel x1 4)) ∧
    ((AV.binOk Go.BinOp.mul (AV.bin Go.BinOp.mul (AV.bin Go.BinOp.mul (AV.int 2) (AV.bin Go.BinOp.sub (AV.cel x1 2) (AV.cel x1 0))) (AV.bin Go.BinOp.sub (AV.cel x1 3) (AV.cel x1 1))) (AV.bin Go.BinOp.sub (AV.cel x1 5) (AV.cel x1 4))) ∧
    ((AV.isSl x0 2) ∧
    (fLoop 2497 [(AV.bin Go.BinOp.mul (AV.bin Go.BinOp.mul (AV.bin Go.BinOp.mul (AV.int 2) (AV.bin Go.BinOp.sub (AV.cel x1 2) (AV.cel x1 0))) (AV.bin Go.BinOp.sub (AV.cel x1 3) (AV.cel x1 1))) (AV.bin Go.BinOp.sub (AV.cel x1 5) (AV.cel x1 4))), (AV.int 0)] fun ys2497 again2497 =>
      ((AV.binOk Go.BinOp.lss (ys2497.getD 1 default) (AV.len x0)) ∧
      ((AV.isBool (AV.bin Go.BinOp.lss (ys2497.getD 1 default) (AV.len x0))) ∧
      (((isT (AV.bin Go.BinOp.lss (ys2497.getD 1 default) (AV.len x0))) →
        ((AV.isSl x0 2) ∧
        ((AV.inb x0 (ys2497.getD 1 default)) ∧
        ((AV.isAgg (AV.atAgg x0 (ys2497.getD 1 default) 0 2) 2) ∧
        ((AV.isSl (AV.cel (AV.atAgg x0 (ys2497.getD 1 default) 0 2) 1) 3) ∧
        (fLoop 3073 [(ys2497.getD 0 default), (AV.int 0)] fun ys3073 again3073 =>
          ((AV.binOk Go.BinOp.lss (ys3073.getD 1 default) (AV.len (AV.cel (AV.atAgg x0 (ys2497.getD 1 default) 0 2) 1))) ∧
          ((AV.isBool (AV.bin Go.BinOp.lss (ys3073.getD 1 default) (AV.len (AV.cel (AV.atAgg x0 (ys2497.getD 1 default) 0 2) 1)))) ∧
          (((isT (AV.bin Go.BinOp.lss (ys3073.getD 1 default) (AV.len (AV.cel (AV.atAgg x0 (ys2497.getD 1 default) 0 2) 1)))) →
            ((AV.isSl (AV.cel (AV.atAgg x0 (ys2497.getD 1 default) 0 2) 1) 3) ∧
            ((AV.inb (AV.cel (AV.atAgg x0 (ys2497.getD 1 default) 0 2) 1) (ys3073.getD 1 default)) ∧
            ((AV.isAgg (AV.atAgg (AV.cel (AV.atAgg x0 (ys2497.getD 1 default) 0 2) 1) (ys3073.getD 1 default) 0 3) 3) ∧
            ((AV.binOk Go.BinOp.lss (AV.cel (AV.atAgg (AV.cel (AV.atAgg x0 (ys2497.getD 1 default) 0 2) 1) (ys3073.getD 1 default) 0 3) 1) (AV.cel x1 4)) ∧
            ((AV.isBool (AV.bin Go.BinOp.lss (AV.cel (AV.atAgg (AV.cel (AV.atAgg x0 (ys2497.getD 1 default) 0 2) 1) (ys3073.getD 1 default) 0 3) 1) (AV.cel x1 4))) ∧
            (((isT (AV.bin Go.BinOp.lss (AV.cel (AV.atAgg (AV.cel (AV.atAgg x0 (ys2497.getD 1 default) 0 2) 1) (ys3073.getD 1 default) 0 3) 1) (AV.cel x1 4))) →
              ((AV.isBool (AV.bin Go.BinOp.lss (AV.cel (AV.atAgg (AV.cel (AV.atAgg x0 (ys2497.getD 1 default) 0 2) 1) (ys3073.getD 1 default) 0 3) 1) (AV.cel x1 4))) ∧
              ((isT (AV.bin Go.BinOp.lss (AV.cel (AV.atAgg (AV.cel (AV.atAgg x0 (ys2497.getD 1 default) 0 2) 1) (ys3073.getD 1 default) 0 3) 1) (AV.cel x1 4))) ∧
              ((AV.flat (AV.int 0)) ∧
              ((AV.flat (AV.int 19)) ∧
              (fSame (AV.tup [(AV.int 0), (AV.int 19)]) r)))))) ∧
            ((isF (AV.bin Go.BinOp.lss (AV.cel (AV.atAgg (AV.cel (AV.atAgg x0 (ys2497.getD 1 default) 0 2) 1) (ys3073.getD 1 default) 0 3) 1) (AV.cel x1 4))) →
              ((AV.binOk Go.BinOp.gtr (AV.cel (AV.atAgg (AV.cel (AV.atAgg x0 (ys2497.getD 1 default) 0 2) 1) (ys3073.getD 1 default) 0 3) 2) (AV.cel x1 5)) ∧
              ((AV.isBool (AV.bin Go.BinOp.lss (AV.cel (AV.atAgg (AV.cel (AV.atAgg x0 (ys2497.getD 1 default) 0 2) 1) (ys3073.getD 1 default) 0 3) 1) (AV.cel x1 4))) ∧
              ((isF (AV.bin Go.BinOp.lss (AV.cel (AV.atAgg (AV.cel (AV.atAgg x0 (ys2497.getD 1 default) 0 2) 1) (ys3073.getD 1 default) 0 3) 1) (AV.cel x1 4))) ∧
              ((AV.isBool (AV.bin Go.BinOp.gtr (AV.cel (AV.atAgg (AV.cel (AV.atAgg x0 (ys2497.getD 1 default) 0 2) 1) (ys3073.getD 1 default) 0 3) 2) (AV.cel x1 5))) ∧
              (((isT (AV.bin Go.BinOp.gtr (AV.cel (AV.atAgg (AV.cel (AV.atAgg x0 (ys2497.getD 1 default) 0 2) 1) (ys3073.getD 1 default) 0 3) 2) (AV.cel x1 5))) →
                ((AV.flat (AV.int 0)) ∧
                ((AV.flat (AV.int 19)) ∧
                (fSame (AV.tup [(AV.int 0), (AV.int 19)]) r)))) ∧
              ((isF (AV.bin Go.BinOp.gtr (AV.cel (AV.atAgg (AV.cel (AV.atAgg x0 (ys2497.getD 1 default) 0 2) 1) (ys3073.getD 1 default) 0 3) 2) (AV.cel x1 5))) →
                ((AV.isSl (AV.cel (AV.atAgg (AV.cel (AV.atAgg x0 (ys2497.getD 1 default) 0 2) 1) (ys3073.getD 1 default) 0 3) 0) 2) ∧
                (fLoop 4417 [(AV.int 0)] fun ys4417 again4417 =>
                  ((AV.binOk Go.BinOp.lss (ys4417.getD 0 default) (AV.len (AV.cel (AV.atAgg (AV.cel (AV.atAgg x0 (ys2497.getD 1 default) 0 2) 1) (ys3073.getD 1 default) 0 3) 0))) ∧
                  ((AV.isBool (AV.bin Go.BinOp.lss (ys4417.getD 0 default) (AV.len (AV.cel (AV.atAgg (AV.cel (AV.atAgg x0 (ys2497.getD 1 default) 0 2) 1) (ys3073.getD 1 default) 0 3) 0)))) ∧
                  (((isT (AV.bin Go.BinOp.lss (ys4417.getD 0 default) (AV.len (AV.cel (AV.atAgg (AV.cel (AV.atAgg x0 (ys2497.getD 1 default) 0 2) 1) (ys3073.getD 1 default) 0 3) 0)))) →
                    ((AV.isSl (AV.cel (AV.atAgg (AV.cel (AV.atAgg x0 (ys2497.getD 1 default) 0 2) 1) (ys3073.getD 1 default) 0 3) 0) 2) ∧
                    ((AV.inb (AV.cel (AV.atAgg (AV.cel (AV.atAgg x0 (ys2497.getD 1 default) 0 2) 1) (ys3073.getD 1 default) 0 3) 0) (ys4417.getD 0 default)) ∧
                    ((AV.isAgg (AV.atAgg (AV.cel (AV.atAgg (AV.cel (AV.atAgg x0 (ys2497.getD 1 default) 0 2) 1) (ys3073.getD 1 default) 0 3) 0) (ys4417.getD 0 default) 0 2) 2) ∧
                    ((AV.binOk Go.BinOp.lss (AV.cel (AV.atAgg (AV.cel (AV.atAgg (AV.cel (AV.atAgg x0 (ys2497.getD 1 default) 0 2) 1) (ys3073.getD 1 default) 0 3) 0) (ys4417.getD 0 default) 0 2) 0) (AV.cel x1 0)) ∧
                    ((AV.isBool (AV.bin Go.BinOp.lss (AV.cel (AV.atAgg (AV.cel (AV.atAgg (AV.cel (AV.atAgg x0 (ys2497.getD 1 default) 0 2) 1) (ys3073.getD 1 default) 0 3) 0) (ys4417.getD 0 default) 0 2) 0) (AV.cel x1 0))) ∧
                    (((isT (AV.bin Go.BinOp.lss (AV.cel (AV.atAgg (AV.cel (AV.atAgg (AV.cel (AV.atAgg x0 (ys2497.getD 1 default) 0 2) 1) (ys3073.getD 1 default) 0 3) 0) (ys4417.getD 0 default) 0 2) 0) (AV.cel x1 0))) →
                      ((AV.isBool (AV.bin Go.BinOp.lss (AV.cel (AV.atAgg (AV.cel (AV.atAgg (AV.cel (AV.atAgg x0 (ys2497.getD 1 default) 0 2) 1) (ys3073.getD 1 default) 0 3) 0) (ys4417.getD 0 default) 0 2) 0) (AV.cel x1 0))) ∧
                      ((isT (AV.bin Go.BinOp.lss (AV.cel (AV.atAgg (AV.cel (AV.atAgg (AV.cel (AV.atAgg x0 (ys2497.getD 1 default) 0 2) 1) (ys3073.getD 1 default) 0 3) 0) (ys4417.getD 0 default) 0 2) 0) (AV.cel x1 0))) ∧
                      ((AV.flat (AV.int 0)) ∧
                      ((AV.flat (AV.int 19)) ∧
                      (fSame (AV.tup [(AV.int 0), (AV.int 19)]) r)))))) ∧
                    ((isF (AV.bin Go.BinOp.lss (AV.cel (AV.atAgg (AV.cel (AV.atAgg (AV.cel (AV.atAgg x0 (ys2497.getD 1 default) 0 2) 1) (ys3073.getD 1 default) 0 3) 0) (ys4417.getD 0 default) 0 2) 0) (AV.cel x1 0))) →
                      ((AV.binOk Go.BinOp.gtr (AV.cel (AV.atAgg (AV.cel (AV.atAgg (AV.cel (AV.atAgg x0 (ys2497.getD 1 default) 0 2) 1) (ys3073.getD 1 default) 0 3) 0) (ys4417.getD 0 default) 0 2) 0) (AV.cel x1 2)) ∧
                      ((AV.isBool (AV.bin Go.BinOp.lss (AV.cel (AV.atAgg (AV.cel (AV.atAgg (AV.cel (AV.atAgg x0 (ys2497.getD 1 default) 0 2) 1) (ys3073.getD 1 default) 0 3) 0) (ys4417.getD 0 default) 0 2) 0) (AV.cel x1 0))) ∧
                      ((isF (AV.bin Go.BinOp.lss (AV.cel (AV.atAgg (AV.cel (AV.atAgg (AV.cel (AV.atAgg x0 (ys2497.getD 1 default) 0 2) 1) (ys3073.getD 1 default) 0 3) 0) (ys4417.getD 0 default) 0 2) 0) (AV.cel x1 0))) ∧
                      ((AV.isBool (AV.bin Go.BinOp.gtr (AV.cel (AV.atAgg (AV.cel (AV.atAgg (AV.cel (AV.atAgg x0 (ys2497.getD 1 default) 0 2) 1) (ys3073.getD 1 default) 0 3) 0) (ys4417.getD 0 default) 0 2) 0) (AV.cel x1 2))) ∧
                      (((isT (AV.bin Go.BinOp.gtr (AV.cel (AV.atAgg (AV.cel (AV.atAgg (AV.cel (AV.atAgg x0 (ys2497.getD 1 default) 0 2) 1) (ys3073.getD 1 default) 0 3) 0) (ys4417.getD 0 default) 0 2) 0) (AV.cel x1 2))) →
                        ((AV.isBool (AV.bin Go.BinOp.gtr (AV.cel (AV.atAgg (AV.cel (AV.atAgg (AV.cel (AV.atAgg x0 (ys2497.getD 1 default) 0 2) 1) (ys3073.getD 1 default) 0 3) 0) (ys4417.getD 0 default) 0 2) 0) (AV.cel x1 2))) ∧
                        ((isT (AV.bin Go.BinOp.gtr (AV.cel (AV.atAgg (AV.cel (AV.atAgg (AV.cel (AV.atAgg x0 (ys2497.getD 1 default) 0 2) 1) (ys3073.getD 1 default) 0 3) 0) (ys4417.getD 0 default) 0 2) 0) (AV.cel x1 2))) ∧
                        ((AV.flat (AV.int 0)) ∧
                        ((AV.flat (AV.int 19)) ∧
                        (fSame (AV.tup [(AV.int 0), (AV.int 19)]) r)))))) ∧
                      ((isF (AV.bin Go.BinOp.gtr (AV.cel (AV.atAgg (AV.cel (AV.atAgg (AV.cel (AV.atAgg x0 (ys2497.getD 1 default) 0 2) 1) (ys3073.getD 1 default) 0 3) 0) (ys4417.getD 0 default) 0 2) 0) (AV.cel x1 2))) →
                        ((AV.binOk Go.BinOp.lss (AV.cel (AV.atAgg (AV.cel (AV.atAgg (AV.cel (AV.atAgg x0 (ys2497.getD 1 default) 0 2) 1) (ys3073.getD 1 default) 0 3) 0) (ys4417.getD 0 default) 0 2) 1) (AV.cel x1 1)) ∧
                        ((AV.isBool (AV.bin Go.BinOp.gtr (AV.cel (AV.atAgg (AV.cel (AV.atAgg (AV.cel (AV.atAgg x0 (ys2497.getD 1 default) 0 2) 1) (ys3073.getD 1 default) 0 3) 0) (ys4417.getD 0 default) 0 2) 0) (AV.cel x1 2))) ∧
                        ((isF (AV.bin Go.BinOp.gtr (AV.cel (AV.atAgg (AV.cel (AV.atAgg (AV.cel (AV.atAgg x0 (ys2497.getD 1 default) 0 2) 1) (ys3073.getD 1 default) 0 3) 0) (ys4417.getD 0 default) 0 2) 0) (AV.cel x1 2))) ∧
                        ((AV.isBool (AV.bin Go.BinOp.lss (AV.cel (AV.atAgg (AV.cel (AV.atAgg (AV.cel (AV.atAgg x0 (ys2497.getD 1 default) 0 2) 1) (ys3073.getD 1 default) 0 3) 0) (ys4417.getD 0 default) 0 2) 1) (AV.cel x1 1))) ∧
                        (((isT (AV.bin Go.BinOp.lss (AV.cel (AV.atAgg (AV.cel (AV.atAgg (AV.cel (AV.atAgg x0 (ys2497.getD 1 default) 0 2) 1) (ys3073.getD 1 default) 0 3) 0) (ys4417.getD 0 default) 0 2) 1) (AV.cel x1 1))) →
                          ((AV.isBool (AV.bin Go.BinOp.lss (AV.cel (AV.atAgg (AV.cel (AV.atAgg (AV.cel (AV.atAgg x0 (ys2497.getD 1 default) 0 2) 1) (ys3073.getD 1 default) 0 3) 0) (ys4417.getD 0 default) 0 2) 1) (AV.cel x1 1))) ∧
                          ((isT (AV.bin Go.BinOp.lss (AV.cel (AV.atAgg (AV.cel (AV.atAgg (AV.cel (AV.atAgg x0 (ys2497.getD 1 default) 0 2) 1) (ys3073.getD 1 default) 0 3) 0) (ys4417.getD 0 default) 0 2) 1) (AV.cel x1 1))) ∧
                          ((AV.flat (AV.int 0)) ∧
                          ((AV.flat (AV.int 19)) ∧
                          (fSame (AV.tup [(AV.int 0), (AV.int 19)]) r)))))) ∧
                        ((isF (AV.bin Go.BinOp.lss (AV.cel (AV.atAgg (AV.cel (AV.atAgg (AV.cel (AV.atAgg x0 (ys2497.getD 1 default) 0 2) 1) (ys3073.getD 1 default) 0 3) 0) (ys4417.getD 0 default) 0 2) 1) (AV.cel x1 1))) →
                          ((AV.binOk Go.BinOp.gtr (AV.cel (AV.atAgg (AV.cel (AV.atAgg (AV.cel (AV.atAgg x0 (ys2497.getD 1 default) 0 2) 1) (ys3073.getD 1 default) 0 3) 0) (ys4417.getD 0 default) 0 2) 1) (AV.cel x1 3)) ∧
                          ((AV.isBool (AV.bin Go.BinOp.lss (AV.cel (AV.atAgg (AV.cel (AV.atAgg (AV.cel (AV.atAgg x0 (ys2497.getD 1 default) 0 2) 1) (ys3073.getD 1 default) 0 3) 0) (ys4417.getD 0 default) 0 2) 1) (AV.cel x1 1))) ∧
                          ((isF (AV.bin Go.BinOp.lss (AV.cel (AV.atAgg (AV.cel (AV.atAgg (AV.cel (AV.atAgg x0 (ys2497.getD 1 default) 0 2) 1) (ys3073.getD 1 default) 0 3) 0) (ys4417.getD 0 default) 0 2) 1) (AV.cel x1 1))) ∧
                          ((AV.isBool (AV.bin Go.BinOp.gtr (AV.cel (AV.atAgg (AV.cel (AV.atAgg (AV.cel (AV.atAgg x0 (ys2497.getD 1 default) 0 2) 1) (ys3073.getD 1 default) 0 3) 0) (ys4417.getD 0 default) 0 2) 1) (AV.cel x1 3))) ∧
                          (((isT (AV.bin Go.BinOp.gtr (AV.cel (AV.atAgg (AV.cel (AV.atAgg (AV.cel (AV.atAgg x0 (ys2497.getD 1 default) 0 2) 1) (ys3073.getD 1 default) 0 3) 0) (ys4417.getD 0 default) 0 2) 1) (AV.cel x1 3))) →
                            ((AV.flat (AV.int 0)) ∧
                            ((AV.flat (AV.int 19)) ∧
                            (fSame (AV.tup [(AV.int 0), (AV.int 19)]) r)))) ∧
                          ((isF (AV.bin Go.BinOp.gtr (AV.cel (AV.atAgg (AV.cel (AV.atAgg (AV.cel (AV.atAgg x0 (ys2497.getD 1 default) 0 2) 1) (ys3073.getD 1 default) 0 3) 0) (ys4417.getD 0 default) 0 2) 1) (AV.cel x1 3))) →
                            ((AV.binOk Go.BinOp.add (ys4417.getD 0 default) (AV.int 1)) ∧
                            (again4417 [(AV.bin Go.BinOp.add (ys4417.getD 0 default) (AV.int 1))])))))))))))))))))))))))))))) ∧
                  ((isF (AV.bin Go.BinOp.lss (ys4417.getD 0 default) (AV.len (AV.cel (AV.atAgg (AV.cel (AV.atAgg x0 (ys2497.getD 1 default) 0 2) 1) (ys3073.getD 1 default) 0 3) 0)))) →
                    (∃ r4609 : AV, ((Fn Try.prog 35 [(AV.cel (AV.atAgg (AV.cel (AV.atAgg x0 (ys2497.getD 1 default) 0 2) 1) (ys3073.getD 1 default) 0 3) 0)] (Sh.tup [Sh.sc, Sh.sc]) r4609) ∧
                    ((AV.binOk Go.BinOp.sub (AV.cel (AV.atAgg (AV.cel (AV.atAgg x0 (ys2497.getD 1 default) 0 2) 1) (ys3073.getD 1 default) 0 3) 2) (AV.cel (AV.atAgg (AV.cel (AV.atAgg x0 (ys2497.getD 1 default) 0 2) 1) (ys3073.getD 1 default) 0 3) 1)) ∧
                    ((AV.binOk Go.BinOp.mul (AV.prj r4609 0) (AV.bin Go.BinOp.sub (AV.cel (AV.atAgg (AV.cel (AV.atAgg x0 (ys2497.getD 1 default) 0 2) 1) (ys3073.getD 1 default) 0 3) 2) (AV.cel (AV.atAgg (AV.cel (AV.atAgg x0 (ys2497.getD 1 default) 0 2) 1) (ys3073.getD 1 default) 0 3) 1))) ∧
                    ((AV.binOk Go.BinOp.sub (ys3073.getD 0 default) (AV.bin Go.BinOp.mul (AV.prj r4609 0) (AV.bin Go.BinOp.sub (AV.cel (AV.atAgg (AV.cel (AV.atAgg x0 (ys2497.getD 1 default) 0 2) 1) (ys3073.getD 1 default) 0 3) 2) (AV.cel (AV.atAgg (AV.cel (AV.atAgg x0 (ys2497.getD 1 default) 0 2) 1) (ys3073.getD 1 default) 0 3) 1)))) ∧
                    ((AV.binOk Go.BinOp.add (ys3073.getD 1 default) (AV.int 1)) ∧
                    (again3073 [(AV.bin Go.BinOp.sub (ys3073.getD 0 default) (AV.bin Go.BinOp.mul (AV.prj r4609 0) (AV.bin Go.BinOp.sub (AV.cel (AV.atAgg (AV.cel (AV.atAgg x0 (ys2497.getD 1 default) 0 2) 1) (ys3073.getD 1 default) 0 3) 2) (AV.cel (AV.atAgg (AV.cel (AV.atAgg x0 (ys2497.getD 1 default) 0 2) 1) (ys3073.getD 1 default) 0 3) 1)))), (AV.bin Go.BinOp.add (ys3073.getD 1 default) (AV.int 1))]))))))))))))))))))))))))))) ∧
          ((isF (AV.bin Go.BinOp.lss (ys3073.getD 1 default) (AV.len (AV.cel (AV.atAgg x0 (ys2497.getD 1 default) 0 2) 1)))) →
            ((AV.binOk Go.BinOp.add (ys2497.getD 1 default) (AV.int 1)) ∧
            (again2497 [(ys3073.getD 0 default), (AV.bin Go.BinOp.add (ys2497.getD 1 default) (AV.int 1))])))))))))))) ∧
      ((isF (AV.bin Go.BinOp.lss (ys2497.getD 1 default) (AV.len x0))) →
        ((AV.flat (ys2497.getD 0 default)) ∧
        ((AV.flat (AV.int 0)) ∧
        (fSame (AV.tup [(ys2497.getD 0 default), (AV.int 0)]) r))))))))))))))))))))))))))))) := by kernel_rfl
theorem path_form (x0 x1 r : AV) : fnF Try.prog Γ ann 3 16 Try.f16 (Try.f16.body.getD .skip) (.nil) [x0, x1] (.tup [.row 52 3 true, .sc]) r = ((∃ r193 : AV, ((Fn Try.prog 8 [x0] Sh.sc r193) ∧
((AV.binOk Go.BinOp.neq r193 (AV.int 0)) ∧
((AV.isBool (AV.bin Go.BinOp.neq r193 (AV.int 0))) ∧
(((isT (AV.bin Go.BinOp.neq r193 (AV.int 0))) →
  ((AV.flatS (AV.mk 3 [])) ∧
  ((AV.flat r193) ∧
  (fSame (AV.tup [(AV.mk 3 []), r193]) r)))) ∧
((isF (AV.bin Go.BinOp.neq r193 (AV.int 0))) →
  (∃ r513 : AV, ((Fn Try.prog 17 [x1] Sh.sc r513) ∧
  ((AV.binOk Go.BinOp.neq r513 (AV.int 0)) ∧
  ((AV.isBool (AV.bin Go.BinOp.neq r513 (AV.int 0))) ∧
  (((isT (AV.bin Go.BinOp.neq r513 (AV.int 0))) →
    ((AV.flatS (AV.mk 3 [])) ∧
    ((AV.flat r513) ∧
    (fSame (AV.tup [(AV.mk 3 []), r513]) r)))) ∧
  ((isF (AV.bin Go.BinOp.neq r513 (AV.int 0))) →
    ((AV.isSl x1 6) ∧
    ((AV.binOk Go.BinOp.sub (AV.len x1) (AV.int 1)) ∧
    ((AV.isSl x1 6) ∧
    ((AV.inb x1 (AV.bin Go.BinOp.sub (AV.len x1) (AV.int 1))) ∧
    ((AV.isSl x1 6) ∧
    ((AV.inb x1 (AV.int 0)) ∧
    ((AV.binOk Go.BinOp.sub (AV.at x1 (AV.bin Go.BinOp.sub (AV.len x1) (AV.int 1)) 0) (AV.at x1 (AV.int 0) 0)) ∧
    ((AV.binOk Go.BinOp.gtr (AV.bin Go.BinOp.sub (AV.at x1 (AV.bin Go.BinOp.sub (AV.len x1) (AV.int 1)) 0) (AV.at x1 (AV.int 0) 0)) (AV.int 20000)) ∧
    ((AV.isBool (AV.bin Go.BinOp.gtr (AV.bin Go.BinOp.sub (AV.at x1 (AV.bin Go.BinOp.sub (AV.len x1) (AV.int 1)) 0) (AV.at x1 (AV.int 0) 0)) (AV.int 20000))) ∧
    (((isT (AV.bin Go.BinOp.gtr (AV.bin Go.BinOp.sub (AV.at x1 (AV.bin Go.BinOp.sub (AV.len x1) (AV.int 1)) 0) (AV.at x1 (AV.int 0) 0)) (AV.int 20000))) →
      ((AV.flatS (AV.mk 3 [])) ∧
      ((AV.flat (AV.int 2)) ∧
      (fSame (AV.tup [(AV.mk 3 []), (AV.int 2)]) r)))) ∧
    ((isF (AV.bin Go.BinOp.gtr (AV.bin Go.BinOp.sub (AV.at x1 (AV.bin Go.BinOp.sub (AV.len x1) (AV.int 1)) 0) (AV.at x1 (AV.int 0) 0)) (AV.int 20000))) →
      (∃ r1857 : AV, ((Fn Try.prog 31 [x0, x1] (Sh.row 52 3 true) r1857) ∧
      ((AV.flatS r1857) ∧
      ((AV.flat (AV.int 0)) ∧
      (fSame (AV.tup [r1857, (AV.int 0)]) r))))))))))))))))))))))))))))) := by kernel_rfl
theorem tcheck_form (x0 r : AV) : fnF Try.prog Γ ann 3 17 Try.f17 (Try.f17.body.getD .skip) (.nil) [x0] (.sc) r = (((AV.isSl x0 6) ∧
((AV.binOk Go.BinOp.gtr (AV.len x0) (AV.int 64)) ∧
((AV.isBool (AV.bin Go.BinOp.gtr (AV.len x0) (AV.int 64))) ∧
(((isT (AV.bin Go.BinOp.gtr (AV.len x0) (AV.int 64))) →
  ((AV.flat (AV.int 2)) ∧
  (fSame (AV.int 2) r))) ∧
((isF (AV.bin Go.BinOp.gtr (AV.len x0) (AV.int 64))) →
  ((AV.isSl x0 6) ∧
  ((AV.binOk Go.BinOp.eql (AV.len x0) (AV.int 0)) ∧
  ((AV.isBool (AV.bin Go.BinOp.eql (AV.len x0) (AV.int 0))) ∧
  (((isT (AV.bin Go.BinOp.eql (AV.len x0) (AV.int 0))) →
    ((AV.flat (AV.int 3)) ∧
    (fSame (AV.int 3) r))) ∧
  ((isF (AV.bin Go.BinOp.eql (AV.len x0) (AV.int 0))) →
    ((AV.isSl x0 6) ∧
    (fLoop 769 [(AV.int 0)] fun ys769 again769 =>
      ((AV.binOk Go.BinOp.lss (ys769.getD 0 default) (AV.len x0)) ∧
      ((AV.isBool (AV.bin Go.BinOp.lss (ys769.getD 0 default) (AV.len x0))) ∧
      (((isT (AV.bin Go.BinOp.lss (ys769.getD 0 default) (AV.len x0))) →
        ((AV.isSl x0 6) ∧
        ((AV.inb x0 (ys769.getD 0 default)) ∧
        ((AV.isAgg (AV.atAgg x0 (ys769.getD 0 default) 0 6) 6) ∧
        ((AV.binOk Go.BinOp.lss (AV.cel (AV.atAgg x0 (ys769.getD 0 default) 0 6) 0) (AV.int 0)) ∧
        ((AV.isBool (AV.bin Go.BinOp.lss (AV.cel (AV.atAgg x0 (ys769.getD 0 default) 0 6) 0) (AV.int 0))) ∧
        (((isT (AV.bin Go.BinOp.lss (AV.cel (AV.atAgg x0 (ys769.getD 0 default) 0 6) 0) (AV.int 0))) →
          ((AV.isBool (AV.bin Go.BinOp.lss (AV.cel (AV.atAgg x0 (ys769.getD 0 default) 0 6) 0) (AV.int 0))) ∧
          ((isT (AV.bin Go.BinOp.lss (AV.cel (AV.atAgg x0 (ys769.getD 0 default) 0 6) 0) (AV.int 0))) ∧
          ((AV.flat (AV.int 12)) ∧
          (fSame (AV.int 12) r))))) ∧
        ((isF (AV.bin Go.BinOp.lss (AV.cel (AV.atAgg x0 (ys769.getD 0 default) 0 6) 0) (AV.int 0))) →
          ((AV.binOk Go.BinOp.gtr (AV.cel (AV.atAgg x0 (ys769.getD 0 default) 0 6) 0) (AV.int 200000)) ∧
          ((AV.isBool (AV.bin Go.BinOp.lss (AV.cel (AV.atAgg x0 (ys769.getD 0 default) 0 6) 0) (AV.int 0))) ∧
          ((isF (AV.bin Go.BinOp.lss (AV.cel (AV.atAgg x0 (ys769.getD 0 default) 0 6) 0) (AV.int 0))) ∧
          ((AV.isBool (AV.bin Go.BinOp.gtr (AV.cel (AV.atAgg x0 (ys769.getD 0 default) 0 6) 0) (AV.int 200000))) ∧
          (((isT (AV.bin Go.BinOp.gtr (AV.cel (AV.atAgg x0 (ys769.getD 0 default) 0 6) 0) (AV.int 200000))) →
            ((AV.isBool (AV.bin Go.BinOp.gtr (AV.cel (AV.atAgg x0 (ys769.getD 0 default) 0 6) 0) (AV.int 200000))) ∧
            ((isT (AV.bin Go.BinOp.gtr (AV.cel (AV.atAgg x0 (ys769.getD 0 default) 0 6) 0) (AV.int 200000))) ∧
            ((AV.flat (AV.int 12)) ∧
            (fSame (AV.int 12) r))))) ∧
          ((isF (AV.bin Go.BinOp.gtr (AV.cel (AV.atAgg x0 (ys769.getD 0 default) 0 6) 0) (AV.int 200000))) →
            ((AV.binOk Go.BinOp.gtr (ys769.getD 0 default) (AV.int 0)) ∧
            ((AV.isBool (AV.bin Go.BinOp.gtr (ys769.getD 0 default) (AV.int 0))) ∧
            (((isT (AV.bin Go.BinOp.gtr (ys769.getD 0 default) (AV.int 0))) →
              ((AV.binOk Go.BinOp.sub (ys769.getD 0 default) (AV.int 1)) ∧
              ((AV.isSl x0 6) ∧
              ((AV.inb x0 (AV.bin Go.BinOp.sub (ys769.getD 0 default) (AV.int 1))) ∧
              ((AV.binOk Go.BinOp.leq (AV.cel (AV.atAgg x0 (ys769.getD 0 default) 0 6) 0) (AV.at x0 (AV.bin Go.BinOp.sub (ys769.getD 0 default) (AV.int 1)) 0)) ∧
              ((AV.isBool (AV.bin Go.BinOp.gtr (ys769.getD 0 default) (AV.int 0))) ∧
              ((isT (AV.bin Go.BinOp.gtr (ys769.getD 0 default) (AV.int 0))) ∧
              ((AV.isBool (AV.bin Go.BinOp.gtr (AV.cel (AV.atAgg x0 (ys769.getD 0 default) 0 6) 0) (AV.int 200000))) ∧
              ((isF (AV.bin Go.BinOp.gtr (AV.cel (AV.atAgg x0 (ys769.getD 0 default) 0 6) 0) (AV.int 200000))) ∧
              ((AV.isBool (AV.bin Go.BinOp.leq (AV.cel (AV.atAgg x0 (ys769.getD 0 default) 0 6) 0) (AV.at x0 (AV.bin Go.BinOp.sub (ys769.getD 0 default) (AV.int 1)) 0))) ∧
              (((isT (AV.bin Go.BinOp.leq (AV.cel (AV.atAgg x0 (ys769.getD 0 default) 0 6) 0) (AV.at x0 (AV.bin Go.BinOp.sub (ys769.getD 0 default) (AV.int 1)) 0))) →
                ((AV.flat (AV.int 12)) ∧
                (fSame (AV.int 12) r))) ∧
              ((isF (AV.bin Go.BinOp.leq (AV.cel (AV.atAgg x0 (ys769.getD 0 default) 0 6) 0) (AV.at x0 (AV.bin Go.BinOp.sub (ys769.getD 0 default) (AV.int 1)) 0))) →
                (∃ r3137 : AV, ((Fn Try.prog 12 [(AV.agg [(AV.cel (AV.atAgg x0 (ys769.getD 0 default) 0 6) 1), (AV.cel (AV.atAgg x0 (ys769.getD 0 default) 0 6) 2)])] Sh.sc r3137) ∧
                ((AV.binOk Go.BinOp.neq r3137 (AV.int 0)) ∧
                ((AV.isBool (AV.bin Go.BinOp.neq r3137 (AV.int 0))) ∧
                (((isT (AV.bin Go.BinOp.neq r3137 (AV.int 0))) →
                  ((AV.flat r3137) ∧
                  (fSame r3137 r))) ∧
                ((isF (AV.bin Go.BinOp.neq r3137 (AV.int 0))) →
                  ((AV.binOk Go.BinOp.lss (AV.cel (AV.atAgg x0 (ys769.getD 0 default) 0 6) 3) (AV.int 0)) ∧
                  ((AV.isBool (AV.bin Go.BinOp.lss (AV.cel (AV.atAgg x0 (ys769.getD 0 default) 0 6) 3) (AV.int 0))) ∧
                  (((isT (AV.bin Go.BinOp.lss (AV.cel (AV.atAgg x0 (ys769.getD 0 default) 0 6) 3) (AV.int 0))) →
                    ((AV.isBool (AV.bin Go.BinOp.lss (AV.cel (AV.atAgg x0 (ys769.getD 0 default) 0 6) 3) (AV.int 0))) ∧
                    ((isT (AV.bin Go.BinOp.lss (AV.cel (AV.atAgg x0 (ys769.getD 0 default) 0 6) 3) (AV.int 0))) ∧
                    ((AV.flat (AV.int 4)) ∧
                    (fSame (AV.int 4) r))))) ∧
                  ((isF (AV.bin Go.BinOp.lss (AV.cel (AV.atAgg x0 (ys769.getD 0 default) 0 6) 3) (AV.int 0))) →
                    ((AV.binOk Go.BinOp.gtr (AV.cel (AV.atAgg x0 (ys769.getD 0 default) 0 6) 3) (AV.int 60000)) ∧
                    ((AV.isBool (AV.bin Go.BinOp.lss (AV.cel (AV.atAgg x0 (ys769.getD 0 default) 0 6) 3) (AV.int 0))) ∧
                    ((isF (AV.bin Go.BinOp.lss (AV.cel (AV.atAgg x0 (ys769.getD 0 default) 0 6) 3) (AV.int 0))) ∧
                    ((AV.isBool (AV.bin Go.BinOp.gtr (AV.cel (AV.atAgg x0 (ys769.getD 0 default) 0 6) 3) (AV.int 60000))) ∧
                    (((isT (AV.bin Go.BinOp.gtr (AV.cel (AV.atAgg x0 (ys769.getD 0 default) 0 6) 3) (AV.int 60000))) →
                      ((AV.isBool (AV.bin Go.BinOp.gtr (AV.cel (AV.atAgg x0 (ys769.getD 0 default) 0 6) 3) (AV.int 60000))) ∧
                      ((isT (AV.bin Go.BinOp.gtr (AV.cel (AV.atAgg x0 (ys769.getD 0 default) 0 6) 3) (AV.int 60000))) ∧
                      ((AV.flat (AV.int 4)) ∧
                      (fSame (AV.int 4) r))))) ∧
                    ((isF (AV.bin Go.BinOp.gtr (AV.cel (AV.atAgg x0 (ys769.getD 0 default) 0 6) 3) (AV.int 60000))) →
                      ((AV.binOk Go.BinOp.lss (AV.cel (AV.atAgg x0 (ys769.getD 0 default) 0 6) 4) (AV.int 0)) ∧
                      ((AV.isBool (AV.bin Go.BinOp.gtr (AV.cel (AV.atAgg x0 (ys769.getD 0 default) 0 6) 3) (AV.int 60000))) ∧
                      ((isF (AV.bin Go.BinOp.gtr (AV.cel (AV.atAgg x0 (ys769.getD 0 default) 0 6) 3) (AV.int 60000))) ∧
                      ((AV.isBool (AV.bin Go.BinOp.lss (AV.cel (AV.atAgg x0 (ys769.getD 0 default) 0 6) 4) (AV.int 0))) ∧
                      (((isT (AV.bin Go.BinOp.lss (AV.cel (AV.atAgg x0 (ys769.getD 0 default) 0 6) 4) (AV.int 0))) →
                        ((AV.isBool (AV.bin Go.BinOp.lss (AV.cel (AV.atAgg x0 (ys769.getD 0 default) 0 6) 4) (AV.int 0))) ∧
                        ((isT (AV.bin Go.BinOp.lss (AV.cel (AV.atAgg x0 (ys769.getD 0 default) 0 6) 4) (AV.int 0))) ∧
                        ((AV.flat (AV.int 4)) ∧
                        (fSame (AV.int 4) r))))) ∧
                      ((isF (AV.bin Go.BinOp.lss (AV.cel (AV.atAgg x0 (ys769.getD 0 default) 0 6) 4) (AV.int 0))) →
                        ((AV.binOk Go.BinOp.gtr (AV.cel (AV.atAgg x0 (ys769.getD 0 default) 0 6) 4) (AV.int 1000000)) ∧
                        ((AV.isBool (AV.bin Go.BinOp.lss (AV.cel (AV.atAgg x0 (ys769.getD 0 default) 0 6) 4) (AV.int 0))) ∧
                        ((isF (AV.bin Go.BinOp.lss (AV.cel (AV.atAgg x0 (ys769.getD 0 default) 0 6) 4) (AV.int 0))) ∧
                        ((AV.isBool (AV.bin Go.BinOp.gtr (AV.cel (AV.atAgg x0 (ys769.getD 0 default) 0 6) 4) (AV.int 1000000))) ∧
                        (((isT (AV.bin Go.BinOp.gtr (AV.cel (AV.atAgg x0 (ys769.getD 0 default) 0 6) 4) (AV.int 1000000))) →
                          ((AV.isBool (AV.bin Go.BinOp.gtr (AV.cel (AV.atAgg x0 (ys769.getD 0 default) 0 6) 4) (AV.int 1000000))) ∧
                          ((isT (AV.bin Go.BinOp.gtr (AV.cel (AV.atAgg x0 (ys769.getD 0 default) 0 6) 4) (AV.int 1000000))) ∧
                          ((AV.flat (AV.int 4)) ∧
                          (fSame (AV.int 4) r))))) ∧
                        ((isF (AV.bin Go.BinOp.gtr (AV.cel (AV.atAgg x0 (ys769.getD 0 default) 0 6) 4) (AV.int 1000000))) →
                          ((AV.binOk Go.BinOp.lss (AV.cel (AV.atAgg x0 (ys769.getD 0 default) 0 6) 5) (AV.int 0)) ∧
                          ((AV.isBool (AV.bin Go.BinOp.gtr (AV.cel (AV.atAgg x0 (ys769.getD 0 default) 0 6) 4) (AV.int 1000000))) ∧
                          ((isF (AV.bin Go.BinOp.gtr (AV.cel (AV.atAgg x0 (ys769.getD 0 default) 0 6) 4) (AV.int 1000000))) ∧
                          ((AV.isBool (AV.bin Go.BinOp.lss (AV.cel (AV.atAgg x0 (ys769.getD 0 default) 0 6) 5) (AV.int 0))) ∧
                          (((isT (AV.bin Go.BinOp.lss (AV.cel (AV.atAgg x0 (ys769.getD 0 default) 0 6) 5) (AV.int 0))) →
                            ((AV.isBool (AV.bin Go.BinOp.lss (AV.cel (AV.atAgg x0 (ys769.getD 0 default) 0 6) 5) (AV.int 0))) ∧
                            ((isT (AV.bin Go.BinOp.lss (AV.cel (AV.atAgg x0 (ys769.getD 0 default) 0 6) 5) (AV.int 0))) ∧
                            ((AV.flat (AV.int 4)) ∧
                            (fSame (AV.int 4) r))))) ∧
                          ((isF (AV.bin Go.BinOp.lss (AV.cel (AV.atAgg x0 (ys769.getD 0 default) 0 6) 5) (AV.int 0))) →
                            ((AV.binOk Go.BinOp.gtr (AV.cel (AV.atAgg x0 (ys769.getD 0 default) 0 6) 5) (AV.int 60000)) ∧
                            ((AV.isBool (AV.bin Go.BinOp.lss (AV.cel (AV.atAgg x0 (ys769.getD 0 default) 0 6) 5) (AV.int 0))) ∧
                            ((isF (AV.bin Go.BinOp.lss (AV.cel (AV.atAgg x0 (ys769.getD 0 default) 0 6) 5) (AV.int 0))) ∧
                            ((AV.isBool (AV.bin Go.BinOp.gtr (AV.cel (AV.atAgg x0 (ys769.getD 0 default) 0 6) 5) (AV.int 60000))) ∧
                            (((isT (AV.bin Go.BinOp.gtr (AV.cel (AV.atAgg x0 (ys769.getD 0 default) 0 6) 5) (AV.int 60000))) →
                              ((AV.flat (AV.int 4)) ∧
                              (fSame (AV.int 4) r))) ∧
                            ((isF (AV.bin Go.BinOp.gtr (AV.cel (AV.atAgg x0 (ys769.getD 0 default) 0 6) 5) (AV.int 60000))) →
                              ((AV.binOk Go.BinOp.add (ys769.getD 0 default) (AV.int 1)) ∧
                              (again769 [(AV.bin Go.BinOp.add (ys769.getD 0 default) (AV.int 1))])))))))))))))))))))))))))))))))))))))))))))))))))))))) ∧
            ((isF (AV.bin Go.BinOp.gtr (ys769.getD 0 default) (AV.int 0))) →
              ((AV.isBool (AV.bin Go.BinOp.gtr (ys769.getD 0 default) (AV.int 0))) ∧
              ((isF (AV.bin Go.BinOp.gtr (ys769.getD 0 default) (AV.int 0))) ∧
              ((AV.isBool (AV.bin Go.BinOp.gtr (AV.cel (AV.atAgg x0 (ys769.getD 0 default) 0 6) 0) (AV.int 200000))) ∧
              ((isF (AV.bin Go.BinOp.gtr (AV.cel (AV.atAgg x0 (ys769.getD 0 default) 0 6) 0) (AV.int 200000))) ∧
              (∃ r3137 : AV, ((Fn Try.prog 12 [(AV.agg [(AV.cel (AV.atAgg x0 (ys769.getD 0 default) 0 6) 1), (AV.cel (AV.atAgg x0 (ys769.getD 0 default) 0 6) 2)])] Sh.sc r3137) ∧
              ((AV.binOk Go.BinOp.neq r3137 (AV.int 0)) ∧
              ((AV.isBool (AV.bin Go.BinOp.neq r3137 (AV.int 0))) ∧
              (((isT (AV.bin Go.BinOp.neq r3137 (AV.int 0))) →
                ((AV.flat r3137) ∧
                (fSame r3137 r))) ∧
              ((isF (AV.bin Go.BinOp.neq r3137 (AV.int 0))) →
                ((AV.binOk Go.BinOp.lss (AV.cel (AV.atAgg x0 (ys769.getD 0 default) 0 6) 3) (AV.int 0)) ∧
                ((AV.isBool (AV.bin Go.BinOp.lss (AV.cel (AV.atAgg x0 (ys769.getD 0 default) 0 6) 3) (AV.int 0))) ∧
                (((isT (AV.bin Go.BinOp.lss (AV.cel (AV.atAgg x0 (ys769.getD 0 default) 0 6) 3) (AV.int 0))) →
                  ((AV.isBool (AV.bin Go.BinOp.lss (AV.cel (AV.atAgg x0 (ys769.getD 0 default) 0 6) 3) (AV.int 0))) ∧
                  ((isT (AV.bin Go.BinOp.lss (AV.cel (AV.atAgg x0 (ys769.getD 0 default) 0 6) 3) (AV.int 0))) ∧
                  ((AV.flat (AV.int 4)) ∧
                  (fSame (AV.int 4) r))))) ∧
                ((isF (AV.bin Go.BinOp.lss (AV.cel (AV.atAgg x0 (ys769.getD 0 default) 0 6) 3) (AV.int 0))) →
                  ((AV.binOk Go.BinOp.gtr (AV.cel (AV.atAgg x0 (ys769.getD 0 default) 0 6) 3) (AV.int 60000)) ∧
                  ((AV.isBool (AV.bin Go.BinOp.lss (AV.cel (AV.atAgg x0 (ys769.getD 0 default) 0 6) 3) (AV.int 0))) ∧
                  ((isF (AV.bin Go.BinOp.lss (AV.cel (AV.atAgg x0 (ys769.getD 0 default) 0 6) 3) (AV.int 0))) ∧
                  ((AV.isBool (AV.bin Go.BinOp.gtr (AV.cel (AV.atAgg x0 (ys769.getD 0 default) 0 6) 3) (AV.int 60000))) ∧
                  (((isT (AV.bin Go.BinOp.gtr (AV.cel (AV.atAgg x0 (ys769.getD 0 default) 0 6) 3) (AV.int 60000))) →
                    ((AV.isBool (AV.bin Go.BinOp.gtr (AV.cel (AV.atAgg x0 (ys769.getD 0 default) 0 6) 3) (AV.int 60000))) ∧
                    ((isT (AV.bin Go.BinOp.gtr (AV.cel (AV.atAgg x0 (ys769.getD 0 default) 0 6) 3) (AV.int 60000))) ∧
                    ((AV.flat (AV.int 4)) ∧
                    (fSame (AV.int 4) r))))) ∧
                  ((isF (AV.bin Go.BinOp.gtr (AV.cel (AV.atAgg x0 (ys769.getD 0 default) 0 6) 3) (AV.int 60000))) →
                    ((AV.binOk Go.BinOp.lss (AV.cel (AV.atAgg x0 (ys769.getD 0 default) 0 6) 4) (AV.int 0)) ∧
                    ((AV.isBool (AV.bin Go.BinOp.gtr (AV.cel (AV.atAgg x0 (ys769.getD 0 default) 0 6) 3) (AV.int 60000))) ∧
                    ((isF (AV.bin Go.BinOp.gtr (AV.cel (AV.atAgg x0 (ys769.getD 0 default) 0 6) 3) (AV.int 60000))) ∧
                    ((AV.isBool (AV.bin Go.BinOp.lss (AV.cel (AV.atAgg x0 (ys769.getD 0 default) 0 6) 4) (AV.int 0))) ∧
                    (((isT (AV.bin Go.BinOp.lss (AV.cel (AV.atAgg x0 (ys769.getD 0 default) 0 6) 4) (AV.int 0))) →
                      ((AV.isBool (AV.bin Go.BinOp.lss (AV.cel (AV.atAgg x0 (ys769.getD 0 default) 0 6) 4) (AV.int 0))) ∧
                      ((isT (AV.bin Go.BinOp.lss (AV.cel (AV.atAgg x0 (ys769.getD 0 default) 0 6) 4) (AV.int 0))) ∧
                      ((AV.flat (AV.int 4)) ∧
                      (fSame (AV.int 4) r))))) ∧
                    ((isF (AV.bin Go.BinOp.lss (AV.cel (AV.atAgg x0 (ys769.getD 0 default) 0 6) 4) (AV.int 0))) →
                      ((AV.binOk Go.BinOp.gtr (AV.cel (AV.atAgg x0 (ys769.getD 0 default) 0 6) 4) (AV.int 1000000)) ∧
                      ((AV.isBool (AV.bin Go.BinOp.lss (AV.cel (AV.atAgg x0 (ys769.getD 0 default) 0 6) 4) (AV.int 0))) ∧
                      ((isF (AV.bin Go.BinOp.lss (AV.cel (AV.atAgg x0 (ys769.getD 0 default) 0 6) 4) (AV.int 0))) ∧
                      ((AV.isBool (AV.bin Go.BinOp.gtr (AV.cel (AV.atAgg x0 (ys769.getD 0 default) 0 6) 4) (AV.int 1000000))) ∧
                      (((isT (AV.bin Go.BinOp.gtr (AV.cel (AV.atAgg x0 (ys769.getD 0 default) 0 6) 4) (AV.int 1000000))) →
                        ((AV.isBool (AV.bin Go.BinOp.gtr (AV.cel (AV.atAgg x0 (ys769.getD 0 default) 0 6) 4) (AV.int 1000000))) ∧
                        ((isT (AV.bin Go.BinOp.gtr (AV.cel (AV.atAgg x0 (ys769.getD 0 default) 0 6) 4) (AV.int 1000000))) ∧
                        ((AV.flat (AV.int 4)) ∧
                        (fSame (AV.int 4) r))))) ∧
                      ((isF (AV.bin Go.BinOp.gtr (AV.cel (AV.atAgg x0 (ys769.getD 0 default) 0 6) 4) (AV.int 1000000))) →
                        ((AV.binOk Go.BinOp.lss (AV.cel (AV.atAgg x0 (ys769.getD 0 default) 0 6) 5) (AV.int 0)) ∧
                        ((AV.isBool (AV.bin Go.BinOp.gtr (AV.cel (AV.atAgg x0 (ys769.getD 0 default) 0 6) 4) (AV.int 1000000))) ∧
                        ((isF (AV.bin Go.BinOp.gtr (AV.cel (AV.atAgg x0 (ys769.getD 0 default) 0 6) 4) (AV.int 1000000))) ∧
                        ((AV.isBool (AV.bin Go.BinOp.lss (AV.cel (AV.atAgg x0 (ys769.getD 0 default) 0 6) 5) (AV.int 0))) ∧
                        (((isT (AV.bin Go.BinOp.lss (AV.cel (AV.atAgg x0 (ys769.getD 0 default) 0 6) 5) (AV.int 0))) →
                          ((AV.isBool (AV.bin Go.BinOp.lss (AV.cel (AV.atAgg x0 (ys769.getD 0 default) 0 6) 5) (AV.int 0))) ∧
                          ((isT (AV.bin Go.BinOp.lss (AV.cel (AV.atAgg x0 (ys769.getD 0 default) 0 6) 5) (AV.int 0))) ∧
                          ((AV.flat (AV.int 4)) ∧
                          (fSame (AV.int 4) r))))) ∧
                        ((isF (AV.bin Go.BinOp.lss (AV.cel (AV.atAgg x0 (ys769.getD 0 default) 0 6) 5) (AV.int 0))) →
                          ((AV.binOk Go.BinOp.gtr (AV.cel (AV.atAgg x0 (ys769.getD 0 default) 0 6) 5) (AV.int 60000)) ∧
                          ((AV.isBool (AV.bin Go.BinOp.lss (AV.cel (AV.atAgg x0 (ys769.getD 0 default) 0 6) 5) (AV.int 0))) ∧
                          ((isF (AV.bin Go.BinOp.lss (AV.cel (AV.atAgg x0 (ys769.getD 0 default) 0 6) 5) (AV.int 0))) ∧
                          ((AV.isBool (AV.bin Go.BinOp.gtr (AV.cel (AV.atAgg x0 (ys769.getD 0 default) 0 6) 5) (AV.int 60000))) ∧
                          (((isT (AV.bin Go.BinOp.gtr (AV.cel (AV.atAgg x0 (ys769.getD 0 default) 0 6) 5) (AV.int 60000))) →
                            ((AV.flat (AV.int 4)) ∧
                            (fSame (AV.int 4) r))) ∧
                          ((isF (AV.bin Go.BinOp.gtr (AV.cel (AV.atAgg x0 (ys769.getD 0 default) 0 6) 5) (AV.int 60000))) →
                            ((AV.binOk Go.BinOp.add (ys769.getD 0 default) (AV.int 1)) ∧
                            (again769 [(AV.bin Go.BinOp.add (ys769.getD 0 default) (AV.int 1))])))))))))))))))))))))))))))))))))))))))))))))))))))))))))))))))) ∧
      ((isF (AV.bin Go.BinOp.lss (ys769.getD 0 default) (AV.len x0))) →
        ((AV.flat (AV.int 0)) ∧
        (fSame (AV.int 0) r))))))))))))))))))) := by kernel_rfl
theorem ends_form (x0 r : AV) : fnF Try.prog Γ ann 3 32 Try.f32 (Try.f32.body.getD .skip) (.nil) [x0] (.tup [.sc, .sc]) r = (((AV.isSl x0 6) ∧
((AV.inb x0 (AV.int 0)) ∧
((AV.isSl x0 6) ∧
((AV.binOk Go.BinOp.sub (AV.len x0) (AV.int 1)) ∧
((AV.isSl x0 6) ∧
((AV.inb x0 (AV.bin Go.BinOp.sub (AV.len x0) (AV.int 1))) ∧
((AV.flat (AV.at x0 (AV.int 0) 0)) ∧
((AV.flat (AV.at x0 (AV.bin Go.BinOp.sub (AV.len x0) (AV.int 1)) 0)) ∧
(fSame (AV.tup [(AV.at x0 (AV.int 0) 0), (AV.at x0 (AV.bin Go.BinOp.sub (AV.len x0) (AV.int 1)) 0)]) r)))))))))) := by kernel_rfl
theorem at_form (x0 x1 r : AV) : fnF Try.prog Γ ann 3 33 Try.f33 (Try.f33.body.getD .skip) (.nil) [x0, x1] (.sc) r = (((fEnt Try.prog 45) ∧
(fAllV fun _ => ((AV.isSl x0 6) ∧
(fLoop 769 [(AV.int 0), (AV.len x0)] fun ys769 again769 =>
  ((AV.binOk Go.BinOp.lss (ys769.getD 0 default) (ys769.getD 1 default)) ∧
  ((AV.isBool (AV.bin Go.BinOp.lss (ys769.getD 0 default) (ys769.getD 1 default))) ∧
  (((isT (AV.bin Go.BinOp.lss (ys769.getD 0 default) (ys769.getD 1 default))) →
    ((AV.binOk Go.BinOp.add (ys769.getD 0 default) (ys769.getD 1 default)) ∧
    ((AV.isInt (AV.bin Go.BinOp.add (ys769.getD 0 default) (ys769.getD 1 default))) ∧
    ((AV.shfOk (AV.conv Go.IntKind.u64 (AV.bin Go.BinOp.add (ys769.getD 0 default) (ys769.getD 1 default))) (AV.lit (Value.int Go.IntKind.u64 1))) ∧
    ((AV.isInt (AV.shf Go.BinOp.shr (AV.conv Go.IntKind.u64 (AV.bin Go.BinOp.add (ys769.getD 0 default) (ys769.getD 1 default))) (AV.lit (Value.int Go.IntKind.u64 1)))) ∧
    ((AV.isSl x0 6) ∧
    ((AV.inb x0 (AV.conv Go.IntKind.i64 (AV.shf Go.BinOp.shr (AV.conv Go.IntKind.u64 (AV.bin Go.BinOp.add (ys769.getD 0 default) (ys769.getD 1 default))) (AV.lit (Value.int Go.IntKind.u64 1))))) ∧
    ((fEnt Try.prog 46) ∧
    (fAllV fun _ => ((AV.isAgg (AV.atAgg x0 (AV.conv Go.IntKind.i64 (AV.shf Go.BinOp.shr (AV.conv Go.IntKind.u64 (AV.bin Go.BinOp.add (ys769.getD 0 default) (ys769.getD 1 default))) (AV.lit (Value.int Go.IntKind.u64 1)))) 0 6) 6) ∧
    ((AV.binOk Go.BinOp.sub (AV.cel (AV.atAgg x0 (AV.conv Go.IntKind.i64 (AV.shf Go.BinOp.shr (AV.conv Go.IntKind.u64 (AV.bin Go.BinOp.add (ys769.getD 0 default) (ys769.getD 1 default))) (AV.lit (Value.int Go.IntKind.u64 1)))) 0 6) 0) x1) ∧
    ((AV.binOk Go.BinOp.lss (AV.bin Go.BinOp.sub (AV.cel (AV.atAgg x0 (AV.conv Go.IntKind.i64 (AV.shf Go.BinOp.shr (AV.conv Go.IntKind.u64 (AV.bin Go.BinOp.add (ys769.getD 0 default) (ys769.getD 1 default))) (AV.lit (Value.int Go.IntKind.u64 1)))) 0 6) 0) x1) (AV.int 0)) ∧
    ((AV.isBool (AV.bin Go.BinOp.lss (AV.bin Go.BinOp.sub (AV.cel (AV.atAgg x0 (AV.conv Go.IntKind.i64 (AV.shf Go.BinOp.shr (AV.conv Go.IntKind.u64 (AV.bin Go.BinOp.add (ys769.getD 0 default) (ys769.getD 1 default))) (AV.lit (Value.int Go.IntKind.u64 1)))) 0 6) 0) x1) (AV.int 0))) ∧
    (((isT (AV.bin Go.BinOp.lss (AV.bin Go.BinOp.sub (AV.cel (AV.atAgg x0 (AV.conv Go.IntKind.i64 (AV.shf Go.BinOp.shr (AV.conv Go.IntKind.u64 (AV.bin Go.BinOp.add (ys769.getD 0 default) (ys769.getD 1 default))) (AV.lit (Value.int Go.IntKind.u64 1)))) 0 6) 0) x1) (AV.int 0))) →
      ((AV.binOk Go.BinOp.add (AV.conv Go.IntKind.i64 (AV.shf Go.BinOp.shr (AV.conv Go.IntKind.u64 (AV.bin Go.BinOp.add (ys769.getD 0 default) (ys769.getD 1 default))) (AV.lit (Value.int Go.IntKind.u64 1)))) (AV.int 1)) ∧
      (again769 [(AV.bin Go.BinOp.add (AV.conv Go.IntKind.i64 (AV.shf Go.BinOp.shr (AV.conv Go.IntKind.u64 (AV.bin Go.BinOp.add (ys769.getD 0 default) (ys769.getD 1 default))) (AV.lit (Value.int Go.IntKind.u64 1)))) (AV.int 1)), (ys769.getD 1 default)]))) ∧
    ((isF (AV.bin Go.BinOp.lss (AV.bin Go.BinOp.sub (AV.cel (AV.atAgg x0 (AV.conv Go.IntKind.i64 (AV.shf Go.BinOp.shr (AV.conv Go.IntKind.u64 (AV.bin Go.BinOp.add (ys769.getD 0 default) (ys769.getD 1 default))) (AV.lit (Value.int Go.IntKind.u64 1)))) 0 6) 0) x1) (AV.int 0))) →
      (again769 [(ys769.getD 0 default), (AV.conv Go.IntKind.i64 (AV.shf Go.BinOp.shr (AV.conv Go.IntKind.u64 (AV.bin Go.BinOp.add (ys769.getD 0 default) (ys769.getD 1 default))) (AV.lit (Value.int Go.IntKind.u64 1))))])))))))))))))))) ∧
  ((isF (AV.bin Go.BinOp.lss (ys769.getD 0 default) (ys769.getD 1 default))) →
    ((AV.binOk Go.BinOp.lss (ys769.getD 0 default) (AV.len x0)) ∧
    ((AV.isBool (AV.bin Go.BinOp.lss (ys769.getD 0 default) (AV.len x0))) ∧
    (((isT (AV.bin Go.BinOp.lss (ys769.getD 0 default) (AV.len x0))) →
      ((AV.isSl x0 6) ∧
      ((AV.inb x0 (ys769.getD 0 default)) ∧
      ((fEnt Try.prog 46) ∧
      (fAllV fun _ => ((AV.isAgg (AV.atAgg x0 (ys769.getD 0 default) 0 6) 6) ∧
      ((AV.binOk Go.BinOp.sub (AV.cel (AV.atAgg x0 (ys769.getD 0 default) 0 6) 0) x1) ∧
      ((AV.binOk Go.BinOp.eql (AV.bin Go.BinOp.sub (AV.cel (AV.atAgg x0 (ys769.getD 0 default) 0 6) 0) x1) (AV.int 0)) ∧
      ((AV.isBool (AV.bin Go.BinOp.lss (ys769.getD 0 default) (AV.len x0))) ∧
      ((isT (AV.bin Go.BinOp.lss (ys769.getD 0 default) (AV.len x0))) ∧
      ((AV.isBool (AV.bin Go.BinOp.eql (AV.bin Go.BinOp.sub (AV.cel (AV.atAgg x0 (ys769.getD 0 default) 0 6) 0) x1) (AV.int 0))) ∧
      (((isT (AV.bin Go.BinOp.eql (AV.bin Go.BinOp.sub (AV.cel (AV.atAgg x0 (ys769.getD 0 default) 0 6) 0) x1) (AV.int 0))) →
        ((AV.isSl x0 6) ∧
        ((AV.inb x0 (ys769.getD 0 default)) ∧
        ((AV.isAgg (AV.atAgg x0 (ys769.getD 0 default) 0 6) 6) ∧
        ((AV.flat (AV.agg [(AV.cel (AV.atAgg x0 (ys769.getD 0 default) 0 6) 0), (AV.cel (AV.atAgg x0 (ys769.getD 0 default) 0 6) 1), (AV.cel (AV.atAgg x0 (ys769.getD 0 default) 0 6) 2), (AV.cel (AV.atAgg x0 (ys769.getD 0 default) 0 6) 3), (AV.cel (AV.atAgg x0 (ys769.getD 0 default) 0 6) 4), (AV.cel (AV.atAgg x0 (ys769.getD 0 default) 0 6) 5)])) ∧
        (fSame (AV.agg [(AV.cel (AV.atAgg x0 (ys769.getD 0 default) 0 6) 0), (AV.cel (AV.atAgg x0 (ys769.getD 0 default) 0 6) 1), (AV.cel (AV.atAgg x0 (ys769.getD 0 default) 0 6) 2), (AV.cel (AV.atAgg x0 (ys769.getD 0 default) 0 6) 3), (AV.cel (AV.atAgg x0 (ys769.getD 0 default) 0 6) 4), (AV.cel (AV.atAgg x0 (ys769.getD 0 default) 0 6) 5)]) r)))))) ∧
      ((isF (AV.bin Go.BinOp.eql (AV.bin Go.BinOp.sub (AV.cel (AV.atAgg x0 (ys769.getD 0 default) 0 6) 0) x1) (AV.int 0))) →
        ((AV.binOk Go.BinOp.sub (ys769.getD 0 default) (AV.int 1)) ∧
        ((AV.isSl x0 6) ∧
        ((AV.inb x0 (AV.bin Go.BinOp.sub (ys769.getD 0 default) (AV.int 1))) ∧
        ((AV.isSl x0 6) ∧
        ((AV.inb x0 (ys769.getD 0 default)) ∧
        ((AV.isAgg (AV.atAgg x0 (AV.bin Go.BinOp.sub (ys769.getD 0 default) (AV.int 1)) 0 6) 6) ∧
        ((AV.isAgg (AV.atAgg x0 (ys769.getD 0 default) 0 6) 6) ∧
        ((AV.binOk Go.BinOp.sub x1 (AV.cel (AV.atAgg x0 (AV.bin Go.BinOp.sub (ys769.getD 0 default) (AV.int 1)) 0 6) 0)) ∧
        ((AV.binOk Go.BinOp.sub (AV.cel (AV.atAgg x0 (ys769.getD 0 default) 0 6) 0) (AV.cel (AV.atAgg x0 (AV.bin Go.BinOp.sub (ys769.getD 0 default) (AV.int 1)) 0 6) 0)) ∧
        (∃ r5249 : AV, ((Fn Try.prog 47 [(AV.agg [(AV.cel (AV.atAgg x0 (AV.bin Go.BinOp.sub (ys769.getD 0 default) (AV.int 1)) 0 6) 1), (AV.cel (AV.atAgg x0 (AV.bin Go.BinOp.sub (ys769.getD 0 default) (AV.int 1)) 0 6) 2)]), (AV.agg [(AV.cel (AV.atAgg x0 (ys769.getD 0 default) 0 6) 1), (AV.cel (AV.atAgg x0 (ys769.getD 0 default) 0 6) 2)]), (AV.bin Go.BinOp.sub x1 (AV.cel (AV.atAgg x0 (AV.bin Go.BinOp.sub (ys769.getD 0 default) (AV.int 1)) 0 6) 0)), (AV.bin Go.BinOp.sub (AV.cel (AV.atAgg x0 (ys769.getD 0 default) 0 6) 0) (AV.cel (AV.atAgg x0 (AV.bin Go.BinOp.sub (ys769.getD 0 default) (AV.int 1)) 0 6) 0))] (Sh.tup [Sh.sc, Sh.sc]) r5249) ∧
        ((AV.isAgg (AV.prj r5249 0) 2) ∧
        ((AV.binOk Go.BinOp.sub (AV.cel (AV.atAgg x0 (ys769.getD 0 default) 0 6) 3) (AV.cel (AV.atAgg x0 (AV.bin Go.BinOp.sub (ys769.getD 0 default) (AV.int 1)) 0 6) 3)) ∧
        ((AV.binOk Go.BinOp.mul (AV.bin Go.BinOp.sub (AV.cel (AV.atAgg x0 (ys769.getD 0 default) 0 6) 3) (AV.cel (AV.atAgg x0 (AV.bin Go.BinOp.sub (ys769.getD 0 default) (AV.int 1)) 0 6) 3)) (AV.bin Go.BinOp.sub x1 (AV.cel (AV.atAgg x0 (AV.bin Go.BinOp.sub (ys769.getD 0 default) (AV.int 1)) 0 6) 0))) ∧
        (∃ r6337 : AV, ((Fn Try.prog 48 [(AV.bin Go.BinOp.mul (AV.bin Go.BinOp.sub (AV.cel (AV.atAgg x0 (ys769.getD 0 default) 0 6) 3) (AV.cel (AV.atAgg x0 (AV.bin Go.BinOp.sub (ys769.getD 0 default) (AV.int 1)) 0 6) 3)) (AV.bin Go.BinOp.sub x1 (AV.cel (AV.atAgg x0 (AV.bin Go.BinOp.sub (ys769.getD 0 default) (AV.int 1)) 0 6) 0))), (AV.bin Go.BinOp.sub (AV.cel (AV.atAgg x0 (ys769.getD 0 default) 0 6) 0) (AV.cel (AV.atAgg x0 (AV.bin Go.BinOp.sub (ys769.getD 0 default) (AV.int 1)) 0 6) 0))] (Sh.tup [Sh.sc, Sh.sc]) r6337) ∧
        ((AV.binOk Go.BinOp.sub (AV.cel (AV.atAgg x0 (ys769.getD 0 default) 0 6) 4) (AV.cel (AV.atAgg x0 (AV.bin Go.BinOp.sub (ys769.getD 0 default) (AV.int 1)) 0 6) 4)) ∧
        ((AV.binOk Go.BinOp.mul (AV.bin Go.BinOp.sub (AV.cel (AV.atAgg x0 (ys769.getD 0 default) 0 6) 4) (AV.cel (AV.atAgg x0 (AV.bin Go.BinOp.sub (ys769.getD 0 default) (AV.int 1)) 0 6) 4)) (AV.bin Go.BinOp.sub x1 (AV.cel (AV.atAgg x0 (AV.bin Go.BinOp.sub (ys769.getD 0 default) (AV.int 1)) 0 6) 0))) ∧
        (∃ r7233 : AV, ((Fn Try.prog 49 [(AV.bin Go.BinOp.mul (AV.bin Go.BinOp.sub (AV.cel (AV.atAgg x0 (ys769.getD 0 default) 0 6) 4) (AV.cel (AV.atAgg x0 (AV.bin Go.BinOp.sub (ys769.getD 0 default) (AV.int 1)) 0 6) 4)) (AV.bin Go.BinOp.sub x1 (AV.cel (AV.atAgg x0 (AV.bin Go.BinOp.sub (ys769.getD 0 default) (AV.int 1)) 0 6) 0))), (AV.bin Go.BinOp.sub (AV.cel (AV.atAgg x0 (ys769.getD 0 default) 0 6) 0) (AV.cel (AV.atAgg x0 (AV.bin Go.BinOp.sub (ys769.getD 0 default) (AV.int 1)) 0 6) 0))] (Sh.tup [Sh.sc, Sh.sc]) r7233) ∧
        ((AV.binOk Go.BinOp.sub (AV.cel (AV.atAgg x0 (ys769.getD 0 default) 0 6) 5) (AV.cel (AV.atAgg x0 (AV.bin Go.BinOp.sub (ys769.getD 0 default) (AV.int 1)) 0 6) 5)) ∧
        ((AV.binOk Go.BinOp.mul (AV.bin Go.BinOp.sub (AV.cel (AV.atAgg x0 (ys769.getD 0 default) 0 6) 5) (AV.cel (AV.atAgg x0 (AV.bin Go.BinOp.sub (ys769.getD 0 default) (AV.int 1)) 0 6) 5)) (AV.bin Go.BinOp.sub x1 (AV.cel (AV.atAgg x0 (AV.bin Go.BinOp.sub (ys769.getD 0 default) (AV.int 1)) 0 6) 0))) ∧
        (∃ r8129 : AV, ((Fn Try.prog 49 [(AV.bin Go.BinOp.mul (AV.bin Go.BinOp.sub (AV.cel (AV.atAgg x0 (ys769.getD 0 default) 0 6) 5) (AV.cel (AV.atAgg x0 (AV.bin Go.BinOp.sub (ys769.getD 0 default) (AV.int 1)) 0 6) 5)) (AV.bin Go.BinOp.sub x1 (AV.cel (AV.atAgg x0 (AV.bin Go.BinOp.sub (ys769.getD 0 default) (AV.int 1)) 0 6) 0))), (AV.bin Go.BinOp.sub (AV.cel (AV.atAgg x0 (ys769.getD 0 default) 0 6) 0) (AV.cel (AV.atAgg x0 (AV.bin Go.BinOp.sub (ys769.getD 0 default) (AV.int 1)) 0 6) 0))] (Sh.tup [Sh.sc, Sh.sc]) r8129) ∧
        ((AV.binOk Go.BinOp.add (AV.cel (AV.atAgg x0 (AV.bin Go.BinOp.sub (ys769.getD 0 default) (AV.int 1)) 0 6) 3) (AV.prj r6337 0)) ∧
        ((AV.isOne x1) ∧
        ((AV.isOne (AV.bin Go.BinOp.add (AV.cel (AV.atAgg x0 (AV.bin Go.BinOp.sub (ys769.getD 0 default) (AV.int 1)) 0 6) 3) (AV.prj r6337 0))) ∧
        ((AV.binOk Go.BinOp.add (AV.cel (AV.atAgg x0 (AV.bin Go.BinOp.sub (ys769.getD 0 default) (AV.int 1)) 0 6) 4) (AV.prj r7233 0)) ∧
        ((AV.binOk Go.BinOp.add (AV.cel (AV.atAgg x0 (AV.bin Go.BinOp.sub (ys769.getD 0 default) (AV.int 1)) 0 6) 5) (AV.prj r8129 0)) ∧
        ((AV.isOne (AV.bin Go.BinOp.add (AV.cel (AV.atAgg x0 (AV.bin Go.BinOp.sub (ys769.getD 0 default) (AV.int 1)) 0 6) 4) (AV.prj r7233 0))) ∧
        ((AV.isOne (AV.bin Go.BinOp.add (AV.cel (AV.atAgg x0 (AV.bin Go.BinOp.sub (ys769.getD 0 default) (AV.int 1)) 0 6) 5) (AV.prj r8129 0))) ∧
        ((AV.flat (AV.agg [x1, (AV.cel (AV.prj r5249 0) 0), (AV.cel (AV.prj r5249 0) 1), (AV.bin Go.BinOp.add (AV.cel (AV.atAgg x0 (AV.bin Go.BinOp.sub (ys769.getD 0 default) (AV.int 1)) 0 6) 3) (AV.prj r6337 0)), (AV.bin Go.BinOp.add (AV.cel (AV.atAgg x0 (AV.bin Go.BinOp.sub (ys769.getD 0 default) (AV.int 1)) 0 6) 4) (AV.prj r7233 0)), (AV.bin Go.BinOp.add (AV.cel (AV.atAgg x0 (AV.bin Go.BinOp.sub (ys769.getD 0 default) (AV.int 1)) 0 6) 5) (AV.prj r8129 0))])) ∧
        (fSame (AV.agg [x1, (AV.cel (AV.prj r5249 0) 0), (AV.cel (AV.prj r5249 0) 1), (AV.bin Go.BinOp.add (AV.cel (AV.atAgg x0 (AV.bin Go.BinOp.sub (ys769.getD 0 default) (AV.int 1)) 0 6) 3) (AV.prj r6337 0)), (AV.bin Go.BinOp.add (AV.cel (AV.atAgg x0 (AV.bin Go.BinOp.sub (ys769.getD 0 default) (AV.int 1)) 0 6) 4) (AV.prj r7233 0)), (AV.bin Go.BinOp.add (AV.cel (AV.atAgg x0 (AV.bin Go.BinOp.sub (ys769.getD 0 default) (AV.int 1)) 0 6) 5) (AV.prj r8129 0))]) r)))))))))))))))))))))))))))))))))))))))))))))) ∧
    ((isF (AV.bin Go.BinOp.lss (ys769.getD 0 default) (AV.len x0))) →
      ((AV.isBool (AV.bin Go.BinOp.lss (ys769.getD 0 default) (AV.len x0))) ∧
      ((isF (AV.bin Go.BinOp.lss (ys769.getD 0 default) (AV.len x0))) ∧
      ((AV.binOk Go.BinOp.sub (ys769.getD 0 default) (AV.int 1)) ∧
      ((AV.isSl x0 6) ∧
      ((AV.inb x0 (AV.bin Go.BinOp.sub (ys769.getD 0 default) (AV.int 1))) ∧
      ((AV.isSl x0 6) ∧
      ((AV.inb x0 (ys769.getD 0 default)) ∧
      ((AV.isAgg (AV.atAgg x0 (AV.bin Go.BinOp.sub (ys769.getD 0 default) (AV.int 1)) 0 6) 6) ∧
      ((AV.isAgg (AV.atAgg x0 (ys769.getD 0 default) 0 6) 6) ∧
      ((AV.binOk Go.BinOp.sub x1 (AV.cel (AV.atAgg x0 (AV.bin Go.BinOp.sub (ys769.getD 0 default) (AV.int 1)) 0 6) 0)) ∧
      ((AV.binOk Go.BinOp.sub (AV.cel (AV.atAgg x0 (ys769.getD 0 default) 0 6) 0) (AV.cel (AV.atAgg x0 (AV.bin Go.BinOp.sub (ys769.getD 0 default) (AV.int 1)) 0 6) 0)) ∧
      (∃ r4673 : AV, ((Fn Try.prog 47 [(AV.agg [(AV.cel (AV.atAgg x0 (AV.bin Go.BinOp.sub (ys769.getD 0 default) (AV.int 1)) 0 6) 1), (AV.cel (AV.atAgg x0 (AV.bin Go.BinOp.sub (ys769.getD 0 default) (AV.int 1)) 0 6) 2)]), (AV.agg [(AV.cel (AV.atAgg x0 (ys769.getD 0 default) 0 6) 1), (AV.cel (AV.atAgg x0 (ys769.getD 0 default) 0 6) 2)]), (AV.bin Go.BinOp.sub x1 (AV.cel (AV.atAgg x0 (AV.bin Go.BinOp.sub (ys769.getD 0 default) (AV.int 1)) 0 6) 0)), (AV.bin Go.BinOp.sub (AV.cel (AV.atAgg x0 (ys769.getD 0 default) 0 6) 0) (AV.cel (AV.atAgg x0 (AV.bin Go.BinOp.sub (ys769.getD 0 default) (AV.int 1)) 0 6) 0))] (Sh.tup [Sh.sc, Sh.sc]) r4673) ∧
      ((AV.isAgg (AV.prj r4673 0) 2) ∧
      ((AV.binOk Go.BinOp.sub (AV.cel (AV.atAgg x0 (ys769.getD 0 default) 0 6) 3) (AV.cel (AV.atAgg x0 (AV.bin Go.BinOp.sub (ys769.getD 0 default) (AV.int 1)) 0 6) 3)) ∧
      ((AV.binOk Go.BinOp.mul (AV.bin Go.BinOp.sub (AV.cel (AV.atAgg x0 (ys769.getD 0 default) 0 6) 3) (AV.cel (AV.atAgg x0 (AV.bin Go.BinOp.sub (ys769.getD 0 default) (AV.int 1)) 0 6) 3)) (AV.bin Go.BinOp.sub x1 (AV.cel (AV.atAgg x0 (AV.bin Go.BinOp.sub (ys769.getD 0 default) (AV.int 1)) 0 6) 0))) ∧
      (∃ r5761 : AV, ((Fn Try.prog 48 [(AV.bin Go.BinOp.mul (AV.bin Go.BinOp.sub (AV.cel (AV.atAgg x0 (ys769.getD 0 default) 0 6) 3) (AV.cel (AV.atAgg x0 (AV.bin Go.BinOp.sub (ys769.getD 0 default) (AV.int 1)) 0 6) 3)) (AV.bin Go.BinOp.sub x1 (AV.cel (AV.atAgg x0 (AV.bin Go.BinOp.sub (ys769.getD 0 default) (AV.int 1)) 0 6) 0))), (AV.bin Go.BinOp.sub (AV.cel (AV.atAgg x0 (ys769.getD 0 default) 0 6) 0) (AV.cel (AV.atAgg x0 (AV.bin Go.BinOp.sub (ys769.getD 0 default) (AV.int 1)) 0 6) 0))] (Sh.tup [Sh.sc, Sh.sc]) r5761) ∧
      ((AV.binOk Go.BinOp.sub (AV.cel (AV.atAgg x0 (ys769.getD 0 default) 0 6) 4) (AV.cel (AV.atAgg x0 (AV.bin Go.BinOp.sub (ys769.getD 0 default) (AV.int 1)) 0 6) 4)) ∧
      ((AV.binOk Go.BinOp.mul (AV.bin Go.BinOp.sub (AV.cel (AV.atAgg x0 (ys769.getD 0 default) 0 6) 4) (AV.cel (AV.atAgg x0 (AV.bin Go.BinOp.sub (ys769.getD 0 default) (AV.int 1)) 0 6) 4)) (AV.bin Go.BinOp.sub x1 (AV.cel (AV.atAgg x0 (AV.bin Go.BinOp.sub (ys769.getD 0 default) (AV.int 1)) 0 6) 0))) ∧
      (∃ r6657 : AV, ((Fn Try.prog 49 [(AV.bin Go.BinOp.mul (AV.bin Go.BinOp.sub (AV.cel (AV.atAgg x0 (ys769.getD 0 default) 0 6) 4) (AV.cel (AV.atAgg x0 (AV.bin Go.BinOp.sub (ys769.getD 0 default) (AV.int 1)) 0 6) 4)) (AV.bin Go.BinOp.sub x1 (AV.cel (AV.atAgg x0 (AV.bin Go.BinOp.sub (ys769.getD 0 default) (AV.int 1)) 0 6) 0))), (AV.bin Go.BinOp.sub (AV.cel (AV.atAgg x0 (ys769.getD 0 default) 0 6) 0) (AV.cel (AV.atAgg x0 (AV.bin Go.BinOp.sub (ys769.getD 0 default) (AV.int 1)) 0 6) 0))] (Sh.tup [Sh.sc, Sh.sc]) r6657) ∧
      ((AV.binOk Go.BinOp.sub (AV.cel (AV.atAgg x0 (ys769.getD 0 default) 0 6) 5) (AV.cel (AV.atAgg x0 (AV.bin Go.BinOp.sub (ys769.getD 0 default) (AV.int 1)) 0 6) 5)) ∧
      ((AV.binOk Go.BinOp.mul (AV.bin Go.BinOp.sub (AV.cel (AV.atAgg x0 (ys769.getD 0 default) 0 6) 5) (AV.cel (AV.atAgg x0 (AV.bin Go.BinOp.sub (ys769.getD 0 default) (AV.int 1)) 0 6) 5)) (AV.bin Go.BinOp.sub x1 (AV.cel (AV.atAgg x0 (AV.bin Go.BinOp.sub (ys769.getD 0 default) (AV.int 1)) 0 6) 0))) ∧
      (∃ r7553 : AV, ((Fn Try.prog 49 [(AV.bin Go.BinOp.mul (AV.bin Go.BinOp.sub (AV.cel (AV.atAgg x0 (ys769.getD 0 default) 0 6) 5) (AV.cel (AV.atAgg x0 (AV.bin Go.BinOp.sub (ys769.getD 0 default) (AV.int 1)) 0 6) 5)) (AV.bin Go.BinOp.sub x1 (AV.cel (AV.atAgg x0 (AV.bin Go.BinOp.sub (ys769.getD 0 default) (AV.int 1)) 0 6) 0))), (AV.bin Go.BinOp.sub (AV.cel (AV.atAgg x0 (ys769.getD 0 default) 0 6) 0) (AV.cel (AV.atAgg x0 (AV.bin Go.BinOp.sub (ys769.getD 0 default) (AV.int 1)) 0 6) 0))] (Sh.tup [Sh.sc, Sh.sc]) r7553) ∧
      ((AV.binOk Go.BinOp.add (AV.cel (AV.atAgg x0 (AV.bin Go.BinOp.sub (ys769.getD 0 default) (AV.int 1)) 0 6) 3) (AV.prj r5761 0)) ∧
      ((AV.isOne x1) ∧
      ((AV.isOne (AV.bin Go.BinOp.add (AV.cel (AV.atAgg x0 (AV.bin Go.BinOp.sub (ys769.getD 0 default) (AV.int 1)) 0 6) 3) (AV.prj r5761 0))) ∧
      ((AV.binOk Go.BinOp.add (AV.cel (AV.atAgg x0 (AV.bin Go.BinOp.sub (ys769.getD 0 default) (AV.int 1)) 0 6) 4) (AV.prj r6657 0)) ∧
      ((AV.binOk Go.BinOp.add (AV.cel (AV.atAgg x0 (AV.bin Go.BinOp.sub (ys769.getD 0 default) (AV.int 1)) 0 6) 5) (AV.prj r7553 0)) ∧
      ((AV.isOne (AV.bin Go.BinOp.add (AV.cel (AV.atAgg x0 (AV.bin Go.BinOp.sub (ys769.getD 0 default) (AV.int 1)) 0 6) 4) (AV.prj r6657 0))) ∧
      ((AV.isOne (AV.bin Go.BinOp.add (AV.cel (AV.atAgg x0 (AV.bin Go.BinOp.sub (ys769.getD 0 default) (AV.int 1)) 0 6) 5) (AV.prj r7553 0))) ∧
      ((AV.flat (AV.agg [x1, (AV.cel (AV.prj r4673 0) 0), (AV.cel (AV.prj r4673 0) 1), (AV.bin Go.BinOp.add (AV.cel (AV.atAgg x0 (AV.bin Go.BinOp.sub (ys769.getD 0 default) (AV.int 1)) 0 6) 3) (AV.prj r5761 0)), (AV.bin Go.BinOp.add (AV.cel (AV.atAgg x0 (AV.bin Go.BinOp.sub (ys769.getD 0 default) (AV.int 1)) 0 6) 4) (AV.prj r6657 0)), (AV.bin Go.BinOp.add (AV.cel (AV.atAgg x0 (AV.bin Go.BinOp.sub (ys769.getD 0 default) (AV.int 1)) 0 6) 5) (AV.prj r7553 0))])) ∧
      (fSame (AV.agg [x1, (AV.cel (AV.prj r4673 0) 0), (AV.cel (AV.prj r4673 0) 1), (AV.bin Go.BinOp.add (AV.cel (AV.atAgg x0 (AV.bin Go.BinOp.sub (ys769.getD 0 default) (AV.int 1)) 0 6) 3) (AV.prj r5761 0)), (AV.bin Go.BinOp.add (AV.cel (AV.atAgg x0 (AV.bin Go.BinOp.sub (ys769.getD 0 default) (AV.int 1)) 0 6) 4) (AV.prj r6657 0)), (AV.bin Go.BinOp.add (AV.cel (AV.atAgg x0 (AV.bin Go.BinOp.sub (ys769.getD 0 default) (AV.int 1)) 0 6) 5) (AV.prj r7553 0))]) r)))))))))))))))))))))))))))))))))))))))))))))))) := by kernel_rfl
theorem tat_form (x0 x1 r : AV) : fnF Try.prog Γ ann 3 18 Try.f18 (Try.f18.body.getD .skip) (.nil) [x0, x1] (.tup [.sc, .sc]) r = ((∃ r193 : AV, ((Fn Try.prog 17 [x0] Sh.sc r193) ∧
((AV.binOk Go.BinOp.neq r193 (AV.int 0)) ∧
((AV.isBool (AV.bin Go.BinOp.neq r193 (AV.int 0))) ∧
(((isT (AV.bin Go.BinOp.neq r193 (AV.int 0))) →
  ((AV.flat (AV.agg [(AV.int 0), (AV.int 0), (AV.int 0), (AV.int 0), (AV.int 0), (AV.int 0)])) ∧
  ((AV.flat r193) ∧
  (fSame (AV.tup [(AV.agg [(AV.int 0), (AV.int 0), (AV.int 0), (AV.int 0), (AV.int 0), (AV.int 0)]), r193]) r)))) ∧
((isF (AV.bin Go.BinOp.neq r193 (AV.int 0))) →
  (∃ r513 : AV, ((Fn Try.prog 32 [x0] (Sh.tup [Sh.sc, Sh.sc]) r513) ∧
  ((AV.binOk Go.BinOp.lss x1 (AV.prj r513 0)) ∧
  ((AV.isBool (AV.bin Go.BinOp.lss x1 (AV.prj r513 0))) ∧
  (((isT (AV.bin Go.BinOp.lss x1 (AV.prj r513 0))) →
    ((AV.isBool (AV.bin Go.BinOp.lss x1 (AV.prj r513 0))) ∧
    ((isT (AV.bin Go.BinOp.lss x1 (AV.prj r513 0))) ∧
    ((AV.flat (AV.agg [(AV.int 0), (AV.int 0), (AV.int 0), (AV.int 0), (AV.int 0), (AV.int 0)])) ∧
    ((AV.flat (AV.int 12)) ∧
    (fSame (AV.tup [(AV.agg [(AV.int 0), (AV.int 0), (AV.int 0), (AV.int 0), (AV.int 0), (AV.int 0)]), (AV.int 12)]) r)))))) ∧
  ((isF (AV.bin Go.BinOp.lss x1 (AV.prj r513 0))) →
    ((AV.binOk Go.BinOp.gtr x1 (AV.prj r513 1)) ∧
    ((AV.isBool (AV.bin Go.BinOp.lss x1 (AV.prj r513 0))) ∧
    ((isF (AV.bin Go.BinOp.lss x1 (AV.prj r513 0))) ∧
    ((AV.isBool (AV.bin Go.BinOp.gtr x1 (AV.prj r513 1))) ∧
    (((isT (AV.bin Go.BinOp.gtr x1 (AV.prj r513 1))) →
      ((AV.flat (AV.agg [(AV.int 0), (AV.int 0), (AV.int 0), (AV.int 0), (AV.int 0), (AV.int 0)])) ∧
      ((AV.flat (AV.int 12)) ∧
      (fSame (AV.tup [(AV.agg [(AV.int 0), (AV.int 0), (AV.int 0), (AV.int 0), (AV.int 0), (AV.int 0)]), (AV.int 12)]) r)))) ∧
    ((isF (AV.bin Go.BinOp.gtr x1 (AV.prj r513 1))) →
      (∃ r1537 : AV, ((Fn Try.prog 33 [x0, x1] Sh.sc r1537) ∧
      ((AV.isAgg r1537 6) ∧
      ((AV.flat (AV.agg [(AV.cel r1537 0), (AV.cel r1537 1), (AV.cel r1537 2), (AV.cel r1537 3), (AV.cel r1537 4), (AV.cel r1537 5)])) ∧
      ((AV.flat (AV.int 0)) ∧
      (fSame (AV.tup [(AV.agg [(AV.cel r1537 0), (AV.cel r1537 1), (AV.cel r1537 2), (AV.cel r1537 3), (AV.cel r1537 4), (AV.cel r1537 5)]), (AV.int 0)]) r))))))))))))))))))))))))) := by kernel_rfl
theorem serr_form (x0 r : AV) : fnF Try.prog Γ ann 3 9 Try.f9 (Try.f9.body.getD .skip) (.nil) [x0] (.sc) r = (((AV.isSl x0 2) ∧
((AV.binOk Go.BinOp.gtr (AV.len x0) (AV.int 12)) ∧
((AV.isBool (AV.bin Go.BinOp.gtr (AV.len x0) (AV.int 12))) ∧
(((isT (AV.bin Go.BinOp.gtr (AV.len x0) (AV.int 12))) →
  ((AV.flat (AV.int 2)) ∧
  (fSame (AV.int 2) r))) ∧
((isF (AV.bin Go.BinOp.gtr (AV.len x0) (AV.int 12))) →
  ((AV.isSl x0 2) ∧
  (fLoop 577 [(AV.int 0), (AV.mk 1 []), (AV.mk 3 [])] fun ys577 again577 =>
    ((AV.binOk Go.BinOp.lss (ys577.getD 0 default) (AV.len x0)) ∧
    ((AV.isBool (AV.bin Go.BinOp.lss (ys577.getD 0 default) (AV.len x0))) ∧
    (((isT (AV.bin Go.BinOp.lss (ys577.getD 0 default) (AV.len x0))) →
      ((AV.isSl x0 2) ∧
      ((AV.inb x0 (ys577.getD 0 default)) ∧
      ((AV.isAgg (AV.atAgg x0 (ys577.getD 0 default) 0 2) 2) ∧
      (∃ r1025 : AV, ((Fn Try.prog 11 [(AV.cel (AV.atAgg x0 (ys577.getD 0 default) 0 2) 0)] Sh.sc r1025) ∧
      ((AV.unOk Go.UnOp.not r1025) ∧
      ((AV.isBool (AV.un Go.UnOp.not r1025)) ∧
      (((isT (AV.un Go.UnOp.not r1025)) →
        ((AV.flat (AV.int 3)) ∧
        (fSame (AV.int 3) r))) ∧
      ((isF (AV.un Go.UnOp.not r1025)) →
        ((AV.isSl (AV.cel (AV.atAgg x0 (ys577.getD 0 default) 0 2) 1) 3) ∧
        ((AV.binOk Go.BinOp.eql (AV.len (AV.cel (AV.atAgg x0 (ys577.getD 0 default) 0 2) 1)) (AV.int 0)) ∧
        ((AV.isBool (AV.bin Go.BinOp.eql (AV.len (AV.cel (AV.atAgg x0 (ys577.getD 0 default) 0 2) 1)) (AV.int 0))) ∧
        (((isT (AV.bin Go.BinOp.eql (AV.len (AV.cel (AV.atAgg x0 (ys577.getD 0 default) 0 2) 1)) (AV.int 0))) →
          ((AV.flat (AV.int 8)) ∧
          (fSame (AV.int 8) r))) ∧
        ((isF (AV.bin Go.BinOp.eql (AV.len (AV.cel (AV.atAgg x0 (ys577.getD 0 default) 0 2) 1)) (AV.int 0))) →
          ((AV.isSl (AV.cel (AV.atAgg x0 (ys577.getD 0 default) 0 2) 1) 3) ∧
          ((AV.binOk Go.BinOp.gtr (AV.len (AV.cel (AV.atAgg x0 (ys577.getD 0 default) 0 2) 1)) (AV.int 4)) ∧
          ((AV.isBool (AV.bin Go.BinOp.gtr (AV.len (AV.cel (AV.atAgg x0 (ys577.getD 0 default) 0 2) 1)) (AV.int 4))) ∧
          (((isT (AV.bin Go.BinOp.gtr (AV.len (AV.cel (AV.atAgg x0 (ys577.getD 0 default) 0 2) 1)) (AV.int 4))) →
            ((AV.flat (AV.int 2)) ∧
            (fSame (AV.int 2) r))) ∧
          ((isF (AV.bin Go.BinOp.gtr (AV.len (AV.cel (AV.atAgg x0 (ys577.getD 0 default) 0 2) 1)) (AV.int 4))) →
            ((AV.isSl (AV.cel (AV.atAgg x0 (ys577.getD 0 default) 0 2) 1) 3) ∧
            (fLoop 1921 [(AV.int 0)] fun ys1921 again1921 =>
              ((AV.binOk Go.BinOp.lss (ys1921.getD 0 default) (AV.len (AV.cel (AV.atAgg x0 (ys577.getD 0 default) 0 2) 1))) ∧
              ((AV.isBool (AV.bin Go.BinOp.lss (ys1921.getD 0 default) (AV.len (AV.cel (AV.atAgg x0 (ys577.getD 0 default) 0 2) 1)))) ∧
              (((isT (AV.bin Go.BinOp.lss (ys1921.getD 0 default) (AV.len (AV.cel (AV.atAgg x0 (ys577.getD 0 default) 0 2) 1)))) →
                ((AV.isSl (AV.cel (AV.atAgg x0 (ys577.getD 0 default) 0 2) 1) 3) ∧
                ((AV.inb (AV.cel (AV.atAgg x0 (ys577.getD 0 default) 0 2) 1) (ys1921.getD 0 default)) ∧
                ((AV.isAgg (AV.atAgg (AV.cel (AV.atAgg x0 (ys577.getD 0 default) 0 2) 1) (ys1921.getD 0 default) 0 3) 3) ∧
                (∃ r2305 : AV, ((Fn Try.prog 23 [(AV.agg [(AV.cel (AV.atAgg (AV.cel (AV.atAgg x0 (ys577.getD 0 default) 0 2) 1) (ys1921.getD 0 default) 0 3) 0), (AV.cel (AV.atAgg (AV.cel (AV.atAgg x0 (ys577.getD 0 default) 0 2) 1) (ys1921.getD 0 default) 0 3) 1), (AV.cel (AV.atAgg (AV.cel (AV.atAgg x0 (ys577.getD 0 default) 0 2) 1) (ys1921.getD 0 default) 0 3) 2)])] Sh.sc r2305) ∧
                ((AV.binOk Go.BinOp.neq r2305 (AV.int 0)) ∧
                ((AV.isBool (AV.bin Go.BinOp.neq r2305 (AV.int 0))) ∧
                (((isT (AV.bin Go.BinOp.neq r2305 (AV.int 0))) →
                  ((AV.flat r2305) ∧
                  (fSame r2305 r))) ∧
                ((isF (AV.bin Go.BinOp.neq r2305 (AV.int 0))) →
                  ((AV.binOk Go.BinOp.add (ys1921.getD 0 default) (AV.int 1)) ∧
                  (again1921 [(AV.bin Go.BinOp.add (ys1921.getD 0 default) (AV.int 1))])))))))))))) ∧
              ((isF (AV.bin Go.BinOp.lss (ys1921.getD 0 default) (AV.len (AV.cel (AV.atAgg x0 (ys577.getD 0 default) 0 2) 1)))) →
                (∃ r2177 : AV, ((Fn Try.prog 27 [(ys577.getD 1 default), (AV.cel (AV.atAgg x0 (ys577.getD 0 default) 0 2) 0)] Sh.sc r2177) ∧
                ((AV.isBool r2177) ∧
                (((isT r2177) →
                  ((AV.flat (AV.int 7)) ∧
                  (fSame (AV.int 7) r))) ∧
                ((isF r2177) →
                  ((AV.isOne (AV.cel (AV.atAgg x0 (ys577.getD 0 default) 0 2) 0)) ∧
                  ((AV.room (ys577.getD 1 default) (AV.mk 1 [[(AV.cel (AV.atAgg x0 (ys577.getD 0 default) 0 2) 0)]]) 16) ∧
                  ((AV.isSl (AV.cel (AV.atAgg x0 (ys577.getD 0 default) 0 2) 1) 3) ∧
                  ((AV.room (ys577.getD 2 default) (AV.cel (AV.atAgg x0 (ys577.getD 0 default) 0 2) 1) 40) ∧
                  ((AV.binOk Go.BinOp.add (ys577.getD 0 default) (AV.int 1)) ∧
                  (again577 [(AV.bin Go.BinOp.add (ys577.getD 0 default) (AV.int 1)), (AV.app 1 (ys577.getD 1 default) (AV.mk 1 [[(AV.cel (AV.atAgg x0 (ys577.getD 0 default) 0 2) 0)]])), (AV.app 3 (ys577.getD 2 default) (AV.cel (AV.atAgg x0 (ys577.getD 0 default) 0 2) 1))]))))))))))))))))))))))))))))))))))))) ∧
    ((isF (AV.bin Go.BinOp.lss (ys577.getD 0 default) (AV.len x0))) →
      (fLoop 833 [(AV.int 0)] fun ys833 again833 =>
        ((AV.binOk Go.BinOp.lss (ys833.getD 0 default) (AV.len (ys577.getD 2 default))) ∧
        ((AV.isBool (AV.bin Go.BinOp.lss (ys833.getD 0 default) (AV.len (ys577.getD 2 default)))) ∧
        (((isT (AV.bin Go.BinOp.lss (ys833.getD 0 default) (AV.len (ys577.getD 2 default)))) →
          (fLoop 1153 [(AV.int 0)] fun ys1153 again1153 =>
            ((AV.binOk Go.BinOp.lss (ys1153.getD 0 default) (ys833.getD 0 default)) ∧
            ((AV.isBool (AV.bin Go.BinOp.lss (ys1153.getD 0 default) (ys833.getD 0 default))) ∧
            (((isT (AV.bin Go.BinOp.lss (ys1153.getD 0 default) (ys833.getD 0 default))) →
              ((AV.inb (ys577.getD 2 default) (ys1153.getD 0 default)) ∧
              ((AV.inb (ys577.getD 2 default) (ys1153.getD 0 default)) ∧
              ((AV.inb (ys577.getD 2 default) (ys833.getD 0 default)) ∧
              ((AV.inb (ys577.getD 2 default) (ys833.getD 0 default)) ∧
              (∃ r1857 : AV, ((Fn Try.prog 26 [(AV.atAgg (ys577.getD 2 default) (ys1153.getD 0 default) 0 3), (AV.atAgg (ys577.getD 2 default) (ys833.getD 0 default) 0 3)] (Sh.tup [Sh.sc, Sh.sc]) r1857) ∧
              ((AV.binOk Go.BinOp.neq (AV.prj r1857 1) (AV.int 0)) ∧
              ((AV.isBool (AV.bin Go.BinOp.neq (AV.prj r1857 1) (AV.int 0))) ∧
              (((isT (AV.bin Go.BinOp.neq (AV.prj r1857 1) (AV.int 0))) →
                ((AV.isBool (AV.bin Go.BinOp.neq (AV.prj r1857 1) (AV.int 0))) ∧
                ((isT (AV.bin Go.BinOp.neq (AV.prj r1857 1) (AV.int 0))) ∧
                ((AV.flat (AV.int 19)) ∧
                (fSame (AV.int 19) r))))) ∧
              ((isF (AV.bin Go.BinOp.neq (AV.prj r1857 1) (AV.int 0))) →
                ((AV.isBool (AV.bin Go.BinOp.neq (AV.prj r1857 1) (AV.int 0))) ∧
                ((isF (AV.bin Go.BinOp.neq (AV.prj r1857 1) (AV.int 0))) ∧
                ((AV.isBool (AV.prj r1857 0)) ∧
                (((isT (AV.prj r1857 0)) →
                  ((AV.flat (AV.int 19)) ∧
                  (fSame (AV.int 19) r))) ∧
                ((isF (AV.prj r1857 0)) →
                  ((AV.binOk Go.BinOp.add (ys1153.getD 0 default) (AV.int 1)) ∧
                  (again1153 [(AV.bin Go.BinOp.add (ys1153.getD 0 default) (AV.int 1))])))))))))))))))))) ∧
            ((isF (AV.bin Go.BinOp.lss (ys1153.getD 0 default) (ys833.getD 0 default))) →
              ((AV.binOk Go.BinOp.add (ys833.getD 0 default) (AV.int 1)) ∧
              (again833 [(AV.bin Go.BinOp.add (ys833.getD 0 default) (AV.int 1))])))))))) ∧
        ((isF (AV.bin Go.BinOp.lss (ys833.getD 0 default) (AV.len (ys577.getD 2 default)))) →
          ((AV.flat (AV.int 0)) ∧
          (fSame (AV.int 0) r))))))))))))))))))) := by kernel_rfl
theorem lplace_form (x0 x1 x2 r : AV) : fnF Try.prog Γ ann 3 15 Try.f15 (Try.f15.body.getD .skip) (.nil) [x0, x1, x2] (.sc) r = (((AV.isAgg x1 2) ∧
((AV.isSl x0 2) ∧
((AV.binOk Go.BinOp.sub (AV.len x0) (AV.int 1)) ∧
(fLoop 449 [(AV.int (-1)), (AV.bin Go.BinOp.sub (AV.len x0) (AV.int 1))] fun ys449 again449 =>
  ((AV.binOk Go.BinOp.geq (ys449.getD 1 default) (AV.int 0)) ∧
  ((AV.isBool (AV.bin Go.BinOp.geq (ys449.getD 1 default) (AV.int 0))) ∧
  (((isT (AV.bin Go.BinOp.geq (ys449.getD 1 default) (AV.int 0))) →
    ((AV.isSl x0 2) ∧
    ((AV.inb x0 (ys449.getD 1 default)) ∧
    ((AV.isSl (AV.at x0 (ys449.getD 1 default) 1) 3) ∧
    (fLoop 1025 [(ys449.getD 0 default), (AV.int 0)] fun ys1025 again1025 =>
      ((AV.binOk Go.BinOp.lss (ys1025.getD 1 default) (AV.len (AV.at x0 (ys449.getD 1 default) 1))) ∧
      ((AV.isBool (AV.bin Go.BinOp.lss (ys1025.getD 1 default) (AV.len (AV.at x0 (ys449.getD 1 default) 1)))) ∧
      (((isT (AV.bin Go.BinOp.lss (ys1025.getD 1 default) (AV.len (AV.at x0 (ys449.getD 1 default) 1)))) →
        ((AV.isSl (AV.at x0 (ys449.getD 1 default) 1) 3) ∧
        ((AV.inb (AV.at x0 (ys449.getD 1 default) 1) (ys1025.getD 1 default)) ∧
        ((AV.isAgg (AV.atAgg (AV.at x0 (ys449.getD 1 default) 1) (ys1025.getD 1 default) 0 3) 3) ∧
        (∃ r1537 : AV, ((Fn Try.prog 30 [(AV.agg [(AV.cel (AV.atAgg (AV.at x0 (ys449.getD 1 default) 1) (ys1025.getD 1 default) 0 3) 0), (AV.cel (AV.atAgg (AV.at x0 (ys449.getD 1 default) 1) (ys1025.getD 1 default) 0 3) 1), (AV.cel (AV.atAgg (AV.at x0 (ys449.getD 1 default) 1) (ys1025.getD 1 default) 0 3) 2)]), (AV.agg [(AV.cel x1 0), (AV.cel x1 1)]), x2] (Sh.tup [Sh.sc, Sh.sc]) r1537) ∧
        ((AV.binOk Go.BinOp.eql (AV.prj r1537 1) (AV.int 0)) ∧
        ((AV.isBool (AV.bin Go.BinOp.eql (AV.prj r1537 1) (AV.int 0))) ∧
        (((isT (AV.bin Go.BinOp.eql (AV.prj r1537 1) (AV.int 0))) →
          ((AV.isBool (AV.bin Go.BinOp.eql (AV.prj r1537 1) (AV.int 0))) ∧
          ((isT (AV.bin Go.BinOp.eql (AV.prj r1537 1) (AV.int 0))) ∧
          ((AV.isBool (AV.prj r1537 0)) ∧
          (((isT (AV.prj r1537 0)) →
            ((AV.binOk Go.BinOp.add (ys1025.getD 1 default) (AV.int 1)) ∧
            (again1025 [(ys449.getD 1 default), (AV.bin Go.BinOp.add (ys1025.getD 1 default) (AV.int 1))]))) ∧
          ((isF (AV.prj r1537 0)) →
            ((AV.binOk Go.BinOp.add (ys1025.getD 1 default) (AV.int 1)) ∧
            (again1025 [(ys1025.getD 0 default), (AV.bin Go.BinOp.add (ys1025.getD 1 default) (AV.int 1))])))))))) ∧
        ((isF (AV.bin Go.BinOp.eql (AV.prj r1537 1) (AV.int 0))) →
          ((AV.isBool (AV.bin Go.BinOp.eql (AV.prj r1537 1) (AV.int 0))) ∧
          ((isF (AV.bin Go.BinOp.eql (AV.prj r1537 1) (AV.int 0))) ∧
          ((AV.binOk Go.BinOp.add (ys1025.getD 1 default) (AV.int 1)) ∧
          (again1025 [(ys1025.getD 0 default), (AV.bin Go.BinOp.add (ys1025.getD 1 default) (AV.int 1))])))))))))))))) ∧
      ((isF (AV.bin Go.BinOp.lss (ys1025.getD 1 default) (AV.len (AV.at x0 (ys449.getD 1 default) 1)))) →
        ((AV.binOk Go.BinOp.sub (ys449.getD 1 default) (AV.int 1)) ∧
        (again449 [(ys1025.getD 0 default), (AV.bin Go.BinOp.sub (ys449.getD 1 default) (AV.int 1))]))))))))))) ∧
  ((isF (AV.bin Go.BinOp.geq (ys449.getD 1 default) (AV.int 0))) →
    ((AV.flat (ys449.getD 0 default)) ∧
    (fSame (ys449.getD 0 default) r))))))))))) := by kernel_rfl
theorem has_form (x0 x1 r : AV) : fnF Try.prog Γ ann 3 27 Try.f27 (Try.f27.body.getD .skip) (.nil) [x0, x1] (.sc) r = (((AV.isSl x0 1) ∧
(fLoop 257 [(AV.int 0)] fun ys257 again257 =>
  ((AV.binOk Go.BinOp.lss (ys257.getD 0 default) (AV.len x0)) ∧
  ((AV.isBool (AV.bin Go.BinOp.lss (ys257.getD 0 default) (AV.len x0))) ∧
  (((isT (AV.bin Go.BinOp.lss (ys257.getD 0 default) (AV.len x0))) →
    ((AV.isSl x0 1) ∧
    ((AV.inb x0 (ys257.getD 0 default)) ∧
    ((AV.binOk Go.BinOp.eql (AV.at x0 (ys257.getD 0 default) 0) x1) ∧
    ((AV.isBool (AV.bin Go.BinOp.eql (AV.at x0 (ys257.getD 0 default) 0) x1)) ∧
    (((isT (AV.bin Go.BinOp.eql (AV.at x0 (ys257.getD 0 default) 0) x1)) →
      ((AV.flat (AV.bool true)) ∧
      (fSame (AV.bool true) r))) ∧
    ((isF (AV.bin Go.BinOp.eql (AV.at x0 (ys257.getD 0 default) 0) x1)) →
      ((AV.binOk Go.BinOp.add (ys257.getD 0 default) (AV.int 1)) ∧
      (again257 [(AV.bin Go.BinOp.add (ys257.getD 0 default) (AV.int 1))]))))))))) ∧
  ((isF (AV.bin Go.BinOp.lss (ys257.getD 0 default) (AV.len x0))) →
    ((AV.flat (AV.bool false)) ∧
    (fSame (AV.bool false) r))))))))) := by kernel_rfl
theorem two_form ( r : AV) : fnF Try.prog Γ ann 3 20 Try.f20 (Try.f20.body.getD .skip) (.nil) [] (.row 60 2 false) r = ((∃ r65 : AV, ((Fn Try.prog 34 [(AV.int 0)] (Sh.agg [(Sh.row 29 2 true), Sh.sc, Sh.sc]) r65) ∧
(∃ r257 : AV, ((Fn Try.prog 34 [(AV.int 10)] (Sh.agg [(Sh.row 29 2 true), Sh.sc, Sh.sc]) r257) ∧
(fSame (AV.mk 2 [[(AV.lit (Value.string ⟨#[65]⟩)), (AV.mk 3 [[(AV.cel r65 0), (AV.cel r65 1), (AV.cel r65 2)]])], [(AV.lit (Value.string ⟨#[66]⟩)), (AV.mk 3 [[(AV.cel r257 0), (AV.cel r257 1), (AV.cel r257 2)]])]]) r)))))) := by kernel_rfl
theorem straight_form (x0 x1 r : AV) : fnF Try.prog Γ ann 3 22 Try.f22 (Try.f22.body.getD .skip) (.nil) [x0, x1] (.row 44 6 true) r = (((AV.isOne x0) ∧
((AV.isOne x1) ∧
((AV.flatS (AV.mk 6 [[(AV.int 0), x0, (AV.int 5), (AV.int 50), (AV.int 0), (AV.int 0)], [(AV.int 10), x1, (AV.int 5), (AV.int 50), (AV.int 0), (AV.int 0)]])) ∧
(fSame (AV.mk 6 [[(AV.int 0), x0, (AV.int 5), (AV.int 50), (AV.int 0), (AV.int 0)], [(AV.int 10), x1, (AV.int 5), (AV.int 50), (AV.int 0), (AV.int 0)]]) r))))) := by kernel_rfl
theorem sq_form (x0 r : AV) : fnF Try.prog Γ ann 3 34 Try.f34 (Try.f34.body.getD .skip) (.nil) [x0] (.agg [.row 29 2 true, .sc, .sc]) r = (((AV.isOne x0) ∧
((AV.binOk Go.BinOp.add x0 (AV.int 10)) ∧
((AV.isOne (AV.bin Go.BinOp.add x0 (AV.int 10))) ∧
((AV.binOk Go.BinOp.add x0 (AV.int 10)) ∧
((AV.isOne (AV.bin Go.BinOp.add x0 (AV.int 10))) ∧
((AV.isOne x0) ∧
((AV.flatS (AV.mk 2 [[x0, (AV.int 0)], [(AV.bin Go.BinOp.add x0 (AV.int 10)), (AV.int 0)], [(AV.bin Go.BinOp.add x0 (AV.int 10)), (AV.int 10)], [x0, (AV.int 10)]])) ∧
((AV.flat (AV.int 0)) ∧
((AV.flat (AV.int 100)) ∧
(fSame (AV.agg [(AV.mk 2 [[x0, (AV.int 0)], [(AV.bin Go.BinOp.add x0 (AV.int 10)), (AV.int 0)], [(AV.bin Go.BinOp.add x0 (AV.int 10)), (AV.int 10)], [x0, (AV.int 10)]]), (AV.int 0), (AV.int 100)]) r))))))))))) := by kernel_rfl
theorem fact_form ( r : AV) : fnF Try.prog Γ ann 3 7 Try.f7 (Try.f7.body.getD .skip) ((.t (.t (.t (.t (.t (.t (.t (.t .nil))))))))) [] (.sc) r = ((∃ r65 : AV, ((Fn Try.prog 20 [] (Sh.row 60 2 false) r65) ∧
(∃ r321 : AV, ((Fn Try.prog 14 [r65, (AV.agg [(AV.int 15), (AV.int 5)]), (AV.int 50)] (Sh.tup [Sh.sc, Sh.sc]) r321) ∧
(∃ r897 : AV, ((Fn Try.prog 21 [r65, (AV.agg [(AV.int 0), (AV.int 0), (AV.int 20), (AV.int 10), (AV.int 0), (AV.int 200)])] (Sh.tup [Sh.sc, Sh.sc]) r897) ∧
(∃ r1345 : AV, ((Fn Try.prog 22 [(AV.int 5), (AV.int 15)] (Sh.row 44 6 true) r1345) ∧
(∃ r1409 : AV, ((Fn Try.prog 16 [r65, r1345] (Sh.tup [(Sh.row 52 3 true), Sh.sc]) r1409) ∧
((AV.binOk Go.BinOp.eql (AV.prj r321 1) (AV.int 0)) ∧
((AV.isBool (AV.bin Go.BinOp.eql (AV.prj r321 1) (AV.int 0))) ∧
((isT (AV.bin Go.BinOp.eql (AV.prj r321 1) (AV.int 0))) ∧
((AV.binOk Go.BinOp.eql (AV.prj r897 1) (AV.int 0)) ∧
((AV.isBool (AV.bin Go.BinOp.eql (AV.prj r321 1) (AV.int 0))) ∧
((isT (AV.bin Go.BinOp.eql (AV.prj r321 1) (AV.int 0))) ∧
((AV.isBool (AV.bin Go.BinOp.eql (AV.prj r897 1) (AV.int 0))) ∧
((isT (AV.bin Go.BinOp.eql (AV.prj r897 1) (AV.int 0))) ∧
((AV.binOk Go.BinOp.eql (AV.prj r1409 1) (AV.int 0)) ∧
((AV.isBool (AV.bin Go.BinOp.eql (AV.prj r897 1) (AV.int 0))) ∧
((isT (AV.bin Go.BinOp.eql (AV.prj r897 1) (AV.int 0))) ∧
((AV.isBool (AV.bin Go.BinOp.eql (AV.prj r1409 1) (AV.int 0))) ∧
((isT (AV.bin Go.BinOp.eql (AV.prj r1409 1) (AV.int 0))) ∧
((AV.binOk Go.BinOp.eql (AV.prj r321 0) (AV.int 1)) ∧
((AV.isBool (AV.bin Go.BinOp.eql (AV.prj r1409 1) (AV.int 0))) ∧
((isT (AV.bin Go.BinOp.eql (AV.prj r1409 1) (AV.int 0))) ∧
((AV.isBool (AV.bin Go.BinOp.eql (AV.prj r321 0) (AV.int 1))) ∧
((isT (AV.bin Go.BinOp.eql (AV.prj r321 0) (AV.int 1))) ∧
((AV.binOk Go.BinOp.eql (AV.prj r897 0) (AV.int 40000)) ∧
((AV.isBool (AV.bin Go.BinOp.eql (AV.prj r321 0) (AV.int 1))) ∧
((isT (AV.bin Go.BinOp.eql (AV.prj r321 0) (AV.int 1))) ∧
((AV.isBool (AV.bin Go.BinOp.eql (AV.prj r897 0) (AV.int 40000))) ∧
((isT (AV.bin Go.BinOp.eql (AV.prj r897 0) (AV.int 40000))) ∧
((AV.inb r65 (AV.int 0)) ∧
((AV.inb r65 (AV.int 0)) ∧
((AV.isAgg (AV.atAgg r65 (AV.int 0) 0 2) 2) ∧
((AV.room r65 (AV.mk 2 [[(AV.cel (AV.atAgg r65 (AV.int 0) 0 2) 0), (AV.cel (AV.atAgg r65 (AV.int 0) 0 2) 1)]]) 40) ∧
(∃ r3393 : AV, ((Fn Try.prog 8 [(AV.app 2 r65 (AV.mk 2 [[(AV.cel (AV.atAgg r65 (AV.int 0) 0 2) 0), (AV.cel (AV.atAgg r65 (AV.int 0) 0 2) 1)]]))] Sh.sc r3393) ∧
((AV.binOk Go.BinOp.eql r3393 (AV.int 7)) ∧
((AV.isBool (AV.bin Go.BinOp.eql (AV.prj r897 0) (AV.int 40000))) ∧
((isT (AV.bin Go.BinOp.eql (AV.prj r897 0) (AV.int 40000))) ∧
((AV.isBool (AV.bin Go.BinOp.eql r3393 (AV.int 7))) ∧
((isT (AV.bin Go.BinOp.eql r3393 (AV.int 7))) ∧
(∃ r3905 : AV, ((Fn Try.prog 19 [(AV.prj r1409 0), (AV.mk 3 [[(AV.int 0), (AV.int 0), (AV.int 5)], [(AV.int 1), (AV.int 6), (AV.int 10)]])] Sh.sc r3905) ∧
((AV.isBool (AV.bin Go.BinOp.eql r3393 (AV.int 7))) ∧
((isT (AV.bin Go.BinOp.eql r3393 (AV.int 7))) ∧
((AV.isBool r3905) ∧
((isT r3905) ∧
(∃ r4097 : AV, ((Fn Try.prog 10 [(AV.lit (Value.string ⟨#[65, 49]⟩))] Sh.sc r4097) ∧
((AV.isBool r3905) ∧
((isT r3905) ∧
((AV.isBool r4097) ∧
((isT r4097) ∧
(∃ r4353 : AV, ((Fn Try.prog 13 [(AV.agg [(AV.int 0), (AV.int 0), (AV.int 0), (AV.int 0), (AV.int 0), (AV.int 0)])] Sh.sc r4353) ∧
((AV.binOk Go.BinOp.eql r4353 (AV.int 4)) ∧
((AV.isBool r4097) ∧
((isT r4097) ∧
((AV.flat (AV.bin Go.BinOp.eql r4353 (AV.int 4))) ∧
(fSame (AV.bin Go.BinOp.eql r4353 (AV.int 4)) r)))))))))))))))))))))))))))))))))))))))))))))))))))))))))))))))) := by kernel_rfl
theorem checks_form (x0 x1 r : AV) : fnF Try.prog Γ ann 3 3 Try.f3 (Try.f3.body.getD .skip) ((.t (.t .nil))) [x0, x1] (.sc) r = ((∃ r65 : AV, ((Fn Try.prog 7 [] Sh.sc r65) ∧
((AV.isBool r65) ∧
((isT r65) ∧
(∃ r257 : AV, ((Fn Try.prog 8 [x0] Sh.sc r257) ∧
(∃ r385 : AV, ((Fn Try.prog 9 [x0] Sh.sc r385) ∧
((AV.binOk Go.BinOp.eql r257 r385) ∧
((AV.isBool r65) ∧
((isT r65) ∧
((AV.isBool (AV.bin Go.BinOp.eql r257 r385)) ∧
((isT (AV.bin Go.BinOp.eql r257 r385)) ∧
(∃ r705 : AV, ((Fn Try.prog 10 [x1] Sh.sc r705) ∧
(∃ r833 : AV, ((Fn Try.prog 11 [x1] Sh.sc r833) ∧
((AV.isBool r705) ∧
((AV.isBool r833) ∧
((AV.isBool (AV.bin Go.BinOp.eql r257 r385)) ∧
((isT (AV.bin Go.BinOp.eql r257 r385)) ∧
((AV.flat (AV.eqB r705 r833)) ∧
(fSame (AV.eqB r705 r833) r)))))))))))))))))))))))) := by kernel_rfl
theorem boxes_form (x0 r : AV) : fnF Try.prog Γ ann 3 4 Try.f4 (Try.f4.body.getD .skip) ((.f (.both .nil (.f .nil)))) [x0] (.sc) r = (((AV.isAgg x0 6) ∧
(∃ r129 : AV, ((Fn Try.prog 7 [] Sh.sc r129) ∧
((AV.unOk Go.UnOp.not r129) ∧
((AV.isBool (AV.un Go.UnOp.not r129)) ∧
((isF (AV.un Go.UnOp.not r129)) ∧
(∃ r385 : AV, ((Fn Try.prog 12 [(AV.agg [(AV.cel x0 0), (AV.cel x0 1)])] Sh.sc r385) ∧
((AV.binOk Go.BinOp.eql r385 (AV.int 0)) ∧
((AV.isBool (AV.bin Go.BinOp.eql r385 (AV.int 0))) ∧
(((isT (AV.bin Go.BinOp.eql r385 (AV.int 0))) →
  (∃ r769 : AV, ((Fn Try.prog 12 [(AV.agg [(AV.cel x0 2), (AV.cel x0 3)])] Sh.sc r769) ∧
  ((AV.binOk Go.BinOp.eql r769 (AV.int 0)) ∧
  ((AV.isBool (AV.bin Go.BinOp.eql r769 (AV.int 0))) ∧
  (((isT (AV.bin Go.BinOp.eql r769 (AV.int 0))) →
    ((AV.binOk Go.BinOp.lss (AV.cel x0 0) (AV.cel x0 2)) ∧
    ((AV.isBool (AV.bin Go.BinOp.lss (AV.cel x0 0) (AV.cel x0 2))) ∧
    (((isT (AV.bin Go.BinOp.lss (AV.cel x0 0) (AV.cel x0 2))) →
      ((AV.binOk Go.BinOp.lss (AV.cel x0 1) (AV.cel x0 3)) ∧
      ((AV.isBool (AV.bin Go.BinOp.lss (AV.cel x0 0) (AV.cel x0 2))) ∧
      ((isT (AV.bin Go.BinOp.lss (AV.cel x0 0) (AV.cel x0 2))) ∧
      ((AV.isBool (AV.bin Go.BinOp.lss (AV.cel x0 1) (AV.cel x0 3))) ∧
      (((isT (AV.bin Go.BinOp.lss (AV.cel x0 1) (AV.cel x0 3))) →
        ((AV.binOk Go.BinOp.geq (AV.cel x0 4) (AV.int 0)) ∧
        ((AV.isBool (AV.bin Go.BinOp.lss (AV.cel x0 1) (AV.cel x0 3))) ∧
        ((isT (AV.bin Go.BinOp.lss (AV.cel x0 1) (AV.cel x0 3))) ∧
        ((AV.isBool (AV.bin Go.BinOp.geq (AV.cel x0 4) (AV.int 0))) ∧
        (((isT (AV.bin Go.BinOp.geq (AV.cel x0 4) (AV.int 0))) →
          ((AV.binOk Go.BinOp.lss (AV.cel x0 4) (AV.cel x0 5)) ∧
          ((AV.isBool (AV.bin Go.BinOp.geq (AV.cel x0 4) (AV.int 0))) ∧
          ((isT (AV.bin Go.BinOp.geq (AV.cel x0 4) (AV.int 0))) ∧
          ((AV.isBool (AV.bin Go.BinOp.lss (AV.cel x0 4) (AV.cel x0 5))) ∧
          (((isT (AV.bin Go.BinOp.lss (AV.cel x0 4) (AV.cel x0 5))) →
            ((AV.binOk Go.BinOp.leq (AV.cel x0 5) (AV.int 60001)) ∧
            ((AV.isBool (AV.bin Go.BinOp.lss (AV.cel x0 4) (AV.cel x0 5))) ∧
            ((isT (AV.bin Go.BinOp.lss (AV.cel x0 4) (AV.cel x0 5))) ∧
            ((AV.unOk Go.UnOp.not (AV.bin Go.BinOp.leq (AV.cel x0 5) (AV.int 60001))) ∧
            ((AV.isBool (AV.bin Go.BinOp.eql r769 (AV.int 0))) ∧
            ((isT (AV.bin Go.BinOp.eql r769 (AV.int 0))) ∧
            ((AV.isBool (AV.un Go.UnOp.not (AV.bin Go.BinOp.leq (AV.cel x0 5) (AV.int 60001)))) ∧
            (((isT (AV.un Go.UnOp.not (AV.bin Go.BinOp.leq (AV.cel x0 5) (AV.int 60001)))) →
              (∃ r3457 : AV, ((Fn Try.prog 13 [(AV.agg [(AV.cel x0 0), (AV.cel x0 1), (AV.cel x0 2), (AV.cel x0 3), (AV.cel x0 4), (AV.cel x0 5)])] Sh.sc r3457) ∧
              ((AV.binOk Go.BinOp.eql r3457 (AV.int 4)) ∧
              ((AV.flat (AV.bin Go.BinOp.eql r3457 (AV.int 4))) ∧
              (fSame (AV.bin Go.BinOp.eql r3457 (AV.int 4)) r)))))) ∧
            ((isF (AV.un Go.UnOp.not (AV.bin Go.BinOp.leq (AV.cel x0 5) (AV.int 60001)))) →
              (∃ r3393 : AV, ((Fn Try.prog 13 [(AV.agg [(AV.cel x0 0), (AV.cel x0 1), (AV.cel x0 2), (AV.cel x0 3), (AV.cel x0 4), (AV.cel x0 5)])] Sh.sc r3393) ∧
              ((AV.binOk Go.BinOp.eql r3393 r769) ∧
              ((AV.flat (AV.bin Go.BinOp.eql r3393 r769)) ∧
              (fSame (AV.bin Go.BinOp.eql r3393 r769) r))))))))))))))) ∧
          ((isF (AV.bin Go.BinOp.lss (AV.cel x0 4) (AV.cel x0 5))) →
            ((AV.isBool (AV.bin Go.BinOp.lss (AV.cel x0 4) (AV.cel x0 5))) ∧
            ((isF (AV.bin Go.BinOp.lss (AV.cel x0 4) (AV.cel x0 5))) ∧
            ((AV.isBool (AV.bin Go.BinOp.eql r769 (AV.int 0))) ∧
            ((isT (AV.bin Go.BinOp.eql r769 (AV.int 0))) ∧
            (∃ r3457 : AV, ((Fn Try.prog 13 [(AV.agg [(AV.cel x0 0), (AV.cel x0 1), (AV.cel x0 2), (AV.cel x0 3), (AV.cel x0 4), (AV.cel x0 5)])] Sh.sc r3457) ∧
            ((AV.binOk Go.BinOp.eql r3457 (AV.int 4)) ∧
            ((AV.flat (AV.bin Go.BinOp.eql r3457 (AV.int 4))) ∧
            (fSame (AV.bin Go.BinOp.eql r3457 (AV.int 4)) r)))))))))))))))) ∧
        ((isF (AV.bin Go.BinOp.geq (AV.cel x0 4) (AV.int 0))) →
          ((AV.isBool (AV.bin Go.BinOp.geq (AV.cel x0 4) (AV.int 0))) ∧
          ((isF (AV.bin Go.BinOp.geq (AV.cel x0 4) (AV.int 0))) ∧
          ((AV.isBool (AV.bin Go.BinOp.eql r769 (AV.int 0))) ∧
          ((isT (AV.bin Go.BinOp.eql r769 (AV.int 0))) ∧
          (∃ r3457 : AV, ((Fn Try.prog 13 [(AV.agg [(AV.cel x0 0), (AV.cel x0 1), (AV.cel x0 2), (AV.cel x0 3), (AV.cel x0 4), (AV.cel x0 5)])] Sh.sc r3457) ∧
          ((AV.binOk Go.BinOp.eql r3457 (AV.int 4)) ∧
          ((AV.flat (AV.bin Go.BinOp.eql r3457 (AV.int 4))) ∧
          (fSame (AV.bin Go.BinOp.eql r3457 (AV.int 4)) r)))))))))))))))) ∧
      ((isF (AV.bin Go.BinOp.lss (AV.cel x0 1) (AV.cel x0 3))) →
        ((AV.isBool (AV.bin Go.BinOp.lss (AV.cel x0 1) (AV.cel x0 3))) ∧
        ((isF (AV.bin Go.BinOp.lss (AV.cel x0 1) (AV.cel x0 3))) ∧
        ((AV.isBool (AV.bin Go.BinOp.eql r769 (AV.int 0))) ∧
        ((isT (AV.bin Go.BinOp.eql r769 (AV.int 0))) ∧
        (∃ r3457 : AV, ((Fn Try.prog 13 [(AV.agg [(AV.cel x0 0), (AV.cel x0 1), (AV.cel x0 2), (AV.cel x0 3), (AV.cel x0 4), (AV.cel x0 5)])] Sh.sc r3457) ∧
        ((AV.binOk Go.BinOp.eql r3457 (AV.int 4)) ∧
        ((AV.flat (AV.bin Go.BinOp.eql r3457 (AV.int 4))) ∧
        (fSame (AV.bin Go.BinOp.eql r3457 (AV.int 4)) r)))))))))))))))) ∧
    ((isF (AV.bin Go.BinOp.lss (AV.cel x0 0) (AV.cel x0 2))) →
      ((AV.isBool (AV.bin Go.BinOp.lss (AV.cel x0 0) (AV.cel x0 2))) ∧
      ((isF (AV.bin Go.BinOp.lss (AV.cel x0 0) (AV.cel x0 2))) ∧
      ((AV.isBool (AV.bin Go.BinOp.eql r769 (AV.int 0))) ∧
      ((isT (AV.bin Go.BinOp.eql r769 (AV.int 0))) ∧
      (∃ r3457 : AV, ((Fn Try.prog 13 [(AV.agg [(AV.cel x0 0), (AV.cel x0 1), (AV.cel x0 2), (AV.cel x0 3), (AV.cel x0 4), (AV.cel x0 5)])] Sh.sc r3457) ∧
      ((AV.binOk Go.BinOp.eql r3457 (AV.int 4)) ∧
      ((AV.flat (AV.bin Go.BinOp.eql r3457 (AV.int 4))) ∧
      (fSame (AV.bin Go.BinOp.eql r3457 (AV.int 4)) r)))))))))))))) ∧
  ((isF (AV.bin Go.BinOp.eql r769 (AV.int 0))) →
    ((AV.isBool (AV.bin Go.BinOp.eql r769 (AV.int 0))) ∧
    ((isF (AV.bin Go.BinOp.eql r769 (AV.int 0))) ∧
    (∃ r3393 : AV, ((Fn Try.prog 13 [(AV.agg [(AV.cel x0 0), (AV.cel x0 1), (AV.cel x0 2), (AV.cel x0 3), (AV.cel x0 4), (AV.cel x0 5)])] Sh.sc r3393) ∧
    ((AV.binOk Go.BinOp.eql r3393 r769) ∧
    ((AV.flat (AV.bin Go.BinOp.eql r3393 r769)) ∧
    (fSame (AV.bin Go.BinOp.eql r3393 r769) r)))))))))))))) ∧
((isF (AV.bin Go.BinOp.eql r385 (AV.int 0))) →
  ((AV.binOk Go.BinOp.eql r385 (AV.int 0)) ∧
  ((AV.isBool (AV.bin Go.BinOp.eql r385 (AV.int 0))) ∧
  ((isF (AV.bin Go.BinOp.eql r385 (AV.int 0))) ∧
  ((AV.isBool (AV.bin Go.BinOp.eql r385 (AV.int 0))) ∧
  ((isF (AV.bin Go.BinOp.eql r385 (AV.int 0))) ∧
  (∃ r3137 : AV, ((Fn Try.prog 13 [(AV.agg [(AV.cel x0 0), (AV.cel x0 1), (AV.cel x0 2), (AV.cel x0 3), (AV.cel x0 4), (AV.cel x0 5)])] Sh.sc r3137) ∧
  ((AV.binOk Go.BinOp.eql r3137 r385) ∧
  ((AV.flat (AV.bin Go.BinOp.eql r3137 r385)) ∧
  (fSame (AV.bin Go.BinOp.eql r3137 r385) r))))))))))))))))))))))) := by kernel_rfl
theorem finds_form (x0 x1 x2 r : AV) : fnF Try.prog Γ ann 3 5 Try.f5 (Try.f5.body.getD .skip) ((.f (.both (.both (.both (.t .nil) (.both (.t .nil) (.t (.both (.t .nil) (.t .nil))))) (.f (.t .nil))) (.f (.f (.t .nil)))))) [x0, x1, x2] (.sc) r = (((AV.isAgg x1 2) ∧
(∃ r129 : AV, ((Fn Try.prog 7 [] Sh.sc r129) ∧
((AV.unOk Go.UnOp.not r129) ∧
((AV.isBool (AV.un Go.UnOp.not r129)) ∧
((isF (AV.un Go.UnOp.not r129)) ∧
(∃ r449 : AV, ((Fn Try.prog 14 [x0, (AV.agg [(AV.cel x1 0), (AV.cel x1 1)]), x2] (Sh.tup [Sh.sc, Sh.sc]) r449) ∧
(∃ r897 : AV, ((Fn Try.prog 9 [x0] Sh.sc r897) ∧
((AV.binOk Go.BinOp.eql r897 (AV.int 0)) ∧
((AV.isBool (AV.bin Go.BinOp.eql r897 (AV.int 0))) ∧
(((isT (AV.bin Go.BinOp.eql r897 (AV.int 0))) →
  (∃ r1217 : AV, ((Fn Try.prog 12 [(AV.agg [(AV.cel x1 0), (AV.cel x1 1)])] Sh.sc r1217) ∧
  ((AV.binOk Go.BinOp.eql r1217 (AV.int 0)) ∧
  ((AV.isBool (AV.bin Go.BinOp.eql r1217 (AV.int 0))) ∧
  (((isT (AV.bin Go.BinOp.eql r1217 (AV.int 0))) →
    ((AV.binOk Go.BinOp.lss x2 (AV.int 0)) ∧
    ((AV.isBool (AV.bin Go.BinOp.lss x2 (AV.int 0))) ∧
    (((isT (AV.bin Go.BinOp.lss x2 (AV.int 0))) →
      ((AV.isBool (AV.bin Go.BinOp.lss x2 (AV.int 0))) ∧
      ((isT (AV.bin Go.BinOp.lss x2 (AV.int 0))) ∧
      ((AV.isBool (AV.bin Go.BinOp.eql r1217 (AV.int 0))) ∧
      ((isT (AV.bin Go.BinOp.eql r1217 (AV.int 0))) ∧
      ((AV.binOk Go.BinOp.eql (AV.prj r449 1) (AV.int 4)) ∧
      ((AV.isBool (AV.bin Go.BinOp.eql (AV.prj r449 1) (AV.int 4))) ∧
      ((isT (AV.bin Go.BinOp.eql (AV.prj r449 1) (AV.int 4))) ∧
      ((AV.binOk Go.BinOp.eql (AV.prj r449 0) (AV.int 0)) ∧
      ((AV.isBool (AV.bin Go.BinOp.eql (AV.prj r449 1) (AV.int 4))) ∧
      ((isT (AV.bin Go.BinOp.eql (AV.prj r449 1) (AV.int 4))) ∧
      ((AV.flat (AV.bin Go.BinOp.eql (AV.prj r449 0) (AV.int 0))) ∧
      (fSame (AV.bin Go.BinOp.eql (AV.prj r449 0) (AV.int 0)) r))))))))))))) ∧
    ((isF (AV.bin Go.BinOp.lss x2 (AV.int 0))) →
      ((AV.binOk Go.BinOp.gtr x2 (AV.int 60000)) ∧
      ((AV.isBool (AV.bin Go.BinOp.lss x2 (AV.int 0))) ∧
      ((isF (AV.bin Go.BinOp.lss x2 (AV.int 0))) ∧
      ((AV.isBool (AV.bin Go.BinOp.eql r1217 (AV.int 0))) ∧
      ((isT (AV.bin Go.BinOp.eql r1217 (AV.int 0))) ∧
      ((AV.isBool (AV.bin Go.BinOp.gtr x2 (AV.int 60000))) ∧
      (((isT (AV.bin Go.BinOp.gtr x2 (AV.int 60000))) →
        ((AV.binOk Go.BinOp.eql (AV.prj r449 1) (AV.int 4)) ∧
        ((AV.isBool (AV.bin Go.BinOp.eql (AV.prj r449 1) (AV.int 4))) ∧
        ((isT (AV.bin Go.BinOp.eql (AV.prj r449 1) (AV.int 4))) ∧
        ((AV.binOk Go.BinOp.eql (AV.prj r449 0) (AV.int 0)) ∧
        ((AV.isBool (AV.bin Go.BinOp.eql (AV.prj r449 1) (AV.int 4))) ∧
        ((isT (AV.bin Go.BinOp.eql (AV.prj r449 1) (AV.int 4))) ∧
        ((AV.flat (AV.bin Go.BinOp.eql (AV.prj r449 0) (AV.int 0))) ∧
        (fSame (AV.bin Go.BinOp.eql (AV.prj r449 0) (AV.int 0)) r))))))))) ∧
      ((isF (AV.bin Go.BinOp.gtr x2 (AV.int 60000))) →
        ((AV.binOk Go.BinOp.eql r1217 (AV.int 0)) ∧
        ((AV.isBool (AV.bin Go.BinOp.eql r1217 (AV.int 0))) ∧
        ((isT (AV.bin Go.BinOp.eql r1217 (AV.int 0))) ∧
        (∃ r2369 : AV, ((Fn Try.prog 15 [x0, (AV.agg [(AV.cel x1 0), (AV.cel x1 1)]), x2] Sh.sc r2369) ∧
        ((AV.binOk Go.BinOp.lss r2369 (AV.int 0)) ∧
        ((AV.isBool (AV.bin Go.BinOp.lss r2369 (AV.int 0))) ∧
        (((isT (AV.bin Go.BinOp.lss r2369 (AV.int 0))) →
          ((AV.binOk Go.BinOp.eql (AV.prj r449 1) (AV.int 8)) ∧
          ((AV.isBool (AV.bin Go.BinOp.eql (AV.prj r449 1) (AV.int 8))) ∧
          ((isT (AV.bin Go.BinOp.eql (AV.prj r449 1) (AV.int 8))) ∧
          ((AV.binOk Go.BinOp.eql (AV.prj r449 0) (AV.int 0)) ∧
          ((AV.isBool (AV.bin Go.BinOp.eql (AV.prj r449 1) (AV.int 8))) ∧
          ((isT (AV.bin Go.BinOp.eql (AV.prj r449 1) (AV.int 8))) ∧
          ((AV.flat (AV.bin Go.BinOp.eql (AV.prj r449 0) (AV.int 0))) ∧
          (fSame (AV.bin Go.BinOp.eql (AV.prj r449 0) (AV.int 0)) r))))))))) ∧
        ((isF (AV.bin Go.BinOp.lss r2369 (AV.int 0))) →
          ((AV.binOk Go.BinOp.eql (AV.prj r449 1) r1217) ∧
          ((AV.isBool (AV.bin Go.BinOp.eql (AV.prj r449 1) r1217)) ∧
          ((isT (AV.bin Go.BinOp.eql (AV.prj r449 1) r1217)) ∧
          ((AV.binOk Go.BinOp.eql (AV.prj r449 0) r2369) ∧
          ((AV.isBool (AV.bin Go.BinOp.eql (AV.prj r449 1) r1217)) ∧
          ((isT (AV.bin Go.BinOp.eql (AV.prj r449 1) r1217)) ∧
          ((AV.flat (AV.bin Go.BinOp.eql (AV.prj r449 0) r2369)) ∧
          (fSame (AV.bin Go.BinOp.eql (AV.prj r449 0) r2369) r)))))))))))))))))))))))))))))) ∧
  ((isF (AV.bin Go.BinOp.eql r1217 (AV.int 0))) →
    ((AV.isBool (AV.bin Go.BinOp.eql r1217 (AV.int 0))) ∧
    ((isF (AV.bin Go.BinOp.eql r1217 (AV.int 0))) ∧
    ((AV.binOk Go.BinOp.eql r1217 (AV.int 0)) ∧
    ((AV.isBool (AV.bin Go.BinOp.eql r1217 (AV.int 0))) ∧
    ((isF (AV.bin Go.BinOp.eql r1217 (AV.int 0))) ∧
    ((AV.binOk Go.BinOp.eql (AV.prj r449 1) r1217) ∧
    ((AV.isBool (AV.bin Go.BinOp.eql (AV.prj r449 1) r1217)) ∧
    ((isT (AV.bin Go.BinOp.eql (AV.prj r449 1) r1217)) ∧
    ((AV.binOk Go.BinOp.eql (AV.prj r449 0) (AV.int 0)) ∧
    ((AV.isBool (AV.bin Go.BinOp.eql (AV.prj r449 1) r1217)) ∧
    ((isT (AV.bin Go.BinOp.eql (AV.prj r449 1) r1217)) ∧
    ((AV.flat (AV.bin Go.BinOp.eql (AV.prj r449 0) (AV.int 0))) ∧
    (fSame (AV.bin Go.BinOp.eql (AV.prj r449 0) (AV.int 0)) r)))))))))))))))))))) ∧
((isF (AV.bin Go.BinOp.eql r897 (AV.int 0))) →
  ((AV.binOk Go.BinOp.eql r897 (AV.int 0)) ∧
  ((AV.isBool (AV.bin Go.BinOp.eql r897 (AV.int 0))) ∧
  ((isF (AV.bin Go.BinOp.eql r897 (AV.int 0))) ∧
  ((AV.isBool (AV.bin Go.BinOp.eql r897 (AV.int 0))) ∧
  ((isF (AV.bin Go.BinOp.eql r897 (AV.int 0))) ∧
  ((AV.binOk Go.BinOp.eql r897 (AV.int 0)) ∧
  ((AV.isBool (AV.bin Go.BinOp.eql r897 (AV.int 0))) ∧
  ((isF (AV.bin Go.BinOp.eql r897 (AV.int 0))) ∧
  ((AV.binOk Go.BinOp.eql (AV.prj r449 1) r897) ∧
  ((AV.isBool (AV.bin Go.BinOp.eql (AV.prj r449 1) r897)) ∧
  ((isT (AV.bin Go.BinOp.eql (AV.prj r449 1) r897)) ∧
  ((AV.binOk Go.BinOp.eql (AV.prj r449 0) (AV.int 0)) ∧
  ((AV.isBool (AV.bin Go.BinOp.eql (AV.prj r449 1) r897)) ∧
  ((isT (AV.bin Go.BinOp.eql (AV.prj r449 1) r897)) ∧
  ((AV.flat (AV.bin Go.BinOp.eql (AV.prj r449 0) (AV.int 0))) ∧
  (fSame (AV.bin Go.BinOp.eql (AV.prj r449 0) (AV.int 0)) r))))))))))))))))))))))))))))))) := by kernel_rfl
theorem paths_form (x0 x1 r : AV) : fnF Try.prog Γ ann 3 6 Try.f6 (Try.f6.body.getD .skip) ((.f (.both (.both .nil (.both (.both (.t .nil) (.f (.both (.f .nil) .nil))) (.t (.t .nil)))) (.both (.both (.t .nil) (.f (.both (.f .nil) .nil))) (.t (.t .nil)))))) [x0, x1] (.sc) r = ((∃ r65 : AV, ((Fn Try.prog 7 [] Sh.sc r65) ∧
((AV.unOk Go.UnOp.not r65) ∧
((AV.isBool (AV.un Go.UnOp.not r65)) ∧
((isF (AV.un Go.UnOp.not r65)) ∧
((AV.isSl x1 6) ∧
((AV.binOk Go.BinOp.gtr (AV.len x1) (AV.int 0)) ∧
((AV.isBool (AV.bin Go.BinOp.gtr (AV.len x1) (AV.int 0))) ∧
(((isT (AV.bin Go.BinOp.gtr (AV.len x1) (AV.int 0))) →
  ((AV.isSl x1 6) ∧
  ((AV.binOk Go.BinOp.sub (AV.len x1) (AV.int 1)) ∧
  ((AV.isSl x1 6) ∧
  ((AV.inb x1 (AV.bin Go.BinOp.sub (AV.len x1) (AV.int 1))) ∧
  ((AV.isSl x1 6) ∧
  ((AV.inb x1 (AV.int 0)) ∧
  ((AV.binOk Go.BinOp.sub (AV.at x1 (AV.bin Go.BinOp.sub (AV.len x1) (AV.int 1)) 0) (AV.at x1 (AV.int 0) 0)) ∧
  ((AV.binOk Go.BinOp.gtr (AV.bin Go.BinOp.sub (AV.at x1 (AV.bin Go.BinOp.sub (AV.len x1) (AV.int 1)) 0) (AV.at x1 (AV.int 0) 0)) (AV.int 400)) ∧
  ((AV.isBool (AV.bin Go.BinOp.gtr (AV.len x1) (AV.int 0))) ∧
  ((isT (AV.bin Go.BinOp.gtr (AV.len x1) (AV.int 0))) ∧
  ((AV.isBool (AV.bin Go.BinOp.gtr (AV.bin Go.BinOp.sub (AV.at x1 (AV.bin Go.BinOp.sub (AV.len x1) (AV.int 1)) 0) (AV.at x1 (AV.int 0) 0)) (AV.int 400))) ∧
  (((isT (AV.bin Go.BinOp.gtr (AV.bin Go.BinOp.sub (AV.at x1 (AV.bin Go.BinOp.sub (AV.len x1) (AV.int 1)) 0) (AV.at x1 (AV.int 0) 0)) (AV.int 400))) →
    ((AV.flat (AV.bool true)) ∧
    (fSame (AV.bool true) r))) ∧
  ((isF (AV.bin Go.BinOp.gtr (AV.bin Go.BinOp.sub (AV.at x1 (AV.bin Go.BinOp.sub (AV.len x1) (AV.int 1)) 0) (AV.at x1 (AV.int 0) 0)) (AV.int 400))) →
    (∃ r1601 : AV, ((Fn Try.prog 16 [x0, x1] (Sh.tup [(Sh.row 52 3 true), Sh.sc]) r1601) ∧
    (∃ r2049 : AV, ((Fn Try.prog 9 [x0] Sh.sc r2049) ∧
    ((AV.binOk Go.BinOp.eql r2049 (AV.int 0)) ∧
    ((AV.isBool (AV.bin Go.BinOp.eql r2049 (AV.int 0))) ∧
    (((isT (AV.bin Go.BinOp.eql r2049 (AV.int 0))) →
      (∃ r2369 : AV, ((Fn Try.prog 17 [x1] Sh.sc r2369) ∧
      ((AV.binOk Go.BinOp.neq r2369 (AV.int 0)) ∧
      ((AV.isBool (AV.bin Go.BinOp.neq r2369 (AV.int 0))) ∧
      (((isT (AV.bin Go.BinOp.neq r2369 (AV.int 0))) →
        ((AV.binOk Go.BinOp.eql (AV.prj r1601 1) r2369) ∧
        ((AV.isBool (AV.bin Go.BinOp.eql (AV.prj r1601 1) r2369)) ∧
        ((isT (AV.bin Go.BinOp.eql (AV.prj r1601 1) r2369)) ∧
        ((AV.binOk Go.BinOp.eql (AV.len (AV.prj r1601 0)) (AV.int 0)) ∧
        ((AV.isBool (AV.bin Go.BinOp.eql (AV.prj r1601 1) r2369)) ∧
        ((isT (AV.bin Go.BinOp.eql (AV.prj r1601 1) r2369)) ∧
        ((AV.flat (AV.bin Go.BinOp.eql (AV.len (AV.prj r1601 0)) (AV.int 0))) ∧
        (fSame (AV.bin Go.BinOp.eql (AV.len (AV.prj r1601 0)) (AV.int 0)) r))))))))) ∧
      ((isF (AV.bin Go.BinOp.neq r2369 (AV.int 0))) →
        ((AV.binOk Go.BinOp.neq (AV.prj r1601 1) (AV.int 0)) ∧
        ((AV.isBool (AV.bin Go.BinOp.neq (AV.prj r1601 1) (AV.int 0))) ∧
        ((isF (AV.bin Go.BinOp.neq (AV.prj r1601 1) (AV.int 0))) ∧
        ((AV.isSl x1 6) ∧
        ((AV.inb x1 (AV.int 0)) ∧
        (fLoop 3201 [(AV.at x1 (AV.int 0) 0), (AV.mk 3 [])] fun ys3201 again3201 =>
          ((AV.isSl x1 6) ∧
          ((AV.binOk Go.BinOp.sub (AV.len x1) (AV.int 1)) ∧
          ((AV.isSl x1 6) ∧
          ((AV.inb x1 (AV.bin Go.BinOp.sub (AV.len x1) (AV.int 1))) ∧
          ((AV.binOk Go.BinOp.leq (ys3201.getD 0 default) (AV.at x1 (AV.bin Go.BinOp.sub (AV.len x1) (AV.int 1)) 0)) ∧
          ((AV.isBool (AV.bin Go.BinOp.leq (ys3201.getD 0 default) (AV.at x1 (AV.bin Go.BinOp.sub (AV.len x1) (AV.int 1)) 0))) ∧
          (((isT (AV.bin Go.BinOp.leq (ys3201.getD 0 default) (AV.at x1 (AV.bin Go.BinOp.sub (AV.len x1) (AV.int 1)) 0))) →
            (∃ r3969 : AV, ((Fn Try.prog 18 [x1, (ys3201.getD 0 default)] (Sh.tup [Sh.sc, Sh.sc]) r3969) ∧
            ((AV.isAgg (AV.prj r3969 0) 6) ∧
            ((AV.binOk Go.BinOp.neq (AV.prj r3969 1) (AV.int 0)) ∧
            ((AV.isBool (AV.bin Go.BinOp.neq (AV.prj r3969 1) (AV.int 0))) ∧
            ((isF (AV.bin Go.BinOp.neq (AV.prj r3969 1) (AV.int 0))) ∧
            (∃ r4993 : AV, ((Fn Try.prog 15 [x0, (AV.agg [(AV.cel (AV.prj r3969 0) 1), (AV.cel (AV.prj r3969 0) 2)]), (AV.cel (AV.prj r3969 0) 3)] Sh.sc r4993) ∧
            ((AV.binOk Go.BinOp.sub (AV.len (ys3201.getD 1 default)) (AV.int 1)) ∧
            ((AV.binOk Go.BinOp.geq (AV.bin Go.BinOp.sub (AV.len (ys3201.getD 1 default)) (AV.int 1)) (AV.int 0)) ∧
            ((AV.isBool (AV.bin Go.BinOp.geq (AV.bin Go.BinOp.sub (AV.len (ys3201.getD 1 default)) (AV.int 1)) (AV.int 0))) ∧
            (((isT (AV.bin Go.BinOp.geq (AV.bin Go.BinOp.sub (AV.len (ys3201.getD 1 default)) (AV.int 1)) (AV.int 0))) →
              ((AV.inb (ys3201.getD 1 default) (AV.bin Go.BinOp.sub (AV.len (ys3201.getD 1 default)) (AV.int 1))) ∧
              ((AV.inb (ys3201.getD 1 default) (AV.bin Go.BinOp.sub (AV.len (ys3201.getD 1 default)) (AV.int 1))) ∧
              ((AV.binOk Go.BinOp.eql (AV.at (ys3201.getD 1 default) (AV.bin Go.BinOp.sub (AV.len (ys3201.getD 1 default)) (AV.int 1)) 0) r4993) ∧
              ((AV.isBool (AV.bin Go.BinOp.geq (AV.bin Go.BinOp.sub (AV.len (ys3201.getD 1 default)) (AV.int 1)) (AV.int 0))) ∧
              ((isT (AV.bin Go.BinOp.geq (AV.bin Go.BinOp.sub (AV.len (ys3201.getD 1 default)) (AV.int 1)) (AV.int 0))) ∧
              ((AV.isBool (AV.bin Go.BinOp.eql (AV.at (ys3201.getD 1 default) (AV.bin Go.BinOp.sub (AV.len (ys3201.getD 1 default)) (AV.int 1)) 0) r4993)) ∧
              (((isT (AV.bin Go.BinOp.eql (AV.at (ys3201.getD 1 default) (AV.bin Go.BinOp.sub (AV.len (ys3201.getD 1 default)) (AV.int 1)) 0) r4993)) →
                ((AV.inb (ys3201.getD 1 default) (AV.bin Go.BinOp.sub (AV.len (ys3201.getD 1 default)) (AV.int 1))) ∧
                ((AV.isOne (ys3201.getD 0 default)) ∧
                ((AV.inb (ys3201.getD 1 default) (AV.bin Go.BinOp.sub (AV.len (ys3201.getD 1 default)) (AV.int 1))) ∧
                ((AV.binOk Go.BinOp.add (ys3201.getD 0 default) (AV.int 1)) ∧
                (again3201 [(AV.bin Go.BinOp.add (ys3201.getD 0 default) (AV.int 1)), (AV.setEl (ys3201.getD 1 default) (AV.bin Go.BinOp.sub (AV.len (ys3201.getD 1 default)) (AV.int 1)) 2 [(ys3201.getD 0 default)])])))))) ∧
              ((isF (AV.bin Go.BinOp.eql (AV.at (ys3201.getD 1 default) (AV.bin Go.BinOp.sub (AV.len (ys3201.getD 1 default)) (AV.int 1)) 0) r4993)) →
                ((AV.isOne r4993) ∧
                ((AV.isOne (ys3201.getD 0 default)) ∧
                ((AV.isOne (ys3201.getD 0 default)) ∧
                ((AV.room (ys3201.getD 1 default) (AV.mk 3 [[r4993, (ys3201.getD 0 default), (ys3201.getD 0 default)]]) 24) ∧
                ((AV.binOk Go.BinOp.add (ys3201.getD 0 default) (AV.int 1)) ∧
                (again3201 [(AV.bin Go.BinOp.add (ys3201.getD 0 default) (AV.int 1)), (AV.app 3 (ys3201.getD 1 default) (AV.mk 3 [[r4993, (ys3201.getD 0 default), (ys3201.getD 0 default)]]))]))))))))))))))) ∧
            ((isF (AV.bin Go.BinOp.geq (AV.bin Go.BinOp.sub (AV.len (ys3201.getD 1 default)) (AV.int 1)) (AV.int 0))) →
              ((AV.isBool (AV.bin Go.BinOp.geq (AV.bin Go.BinOp.sub (AV.len (ys3201.getD 1 default)) (AV.int 1)) (AV.int 0))) ∧
              ((isF (AV.bin Go.BinOp.geq (AV.bin Go.BinOp.sub (AV.len (ys3201.getD 1 default)) (AV.int 1)) (AV.int 0))) ∧
              ((AV.isOne r4993) ∧
              ((AV.isOne (ys3201.getD 0 default)) ∧
              ((AV.isOne (ys3201.getD 0 default)) ∧
              ((AV.room (ys3201.getD 1 default) (AV.mk 3 [[r4993, (ys3201.getD 0 default), (ys3201.getD 0 default)]]) 24) ∧
              ((AV.binOk Go.BinOp.add (ys3201.getD 0 default) (AV.int 1)) ∧
              (again3201 [(AV.bin Go.BinOp.add (ys3201.getD 0 default) (AV.int 1)), (AV.app 3 (ys3201.getD 1 default) (AV.mk 3 [[r4993, (ys3201.getD 0 default), (ys3201.getD 0 default)]]))])))))))))))))))))))))) ∧
          ((isF (AV.bin Go.BinOp.leq (ys3201.getD 0 default) (AV.at x1 (AV.bin Go.BinOp.sub (AV.len x1) (AV.int 1)) 0))) →
            (∃ r3969 : AV, ((Fn Try.prog 19 [(AV.prj r1601 0), (ys3201.getD 1 default)] Sh.sc r3969) ∧
            ((AV.flat r3969) ∧
            (fSame r3969 r))))))))))))))))))))))))) ∧
    ((isF (AV.bin Go.BinOp.eql r2049 (AV.int 0))) →
      ((AV.binOk Go.BinOp.neq r2049 (AV.int 0)) ∧
      ((AV.isBool (AV.bin Go.BinOp.neq r2049 (AV.int 0))) ∧
      ((isT (AV.bin Go.BinOp.neq r2049 (AV.int 0))) ∧
      ((AV.binOk Go.BinOp.eql (AV.prj r1601 1) r2049) ∧
      ((AV.isBool (AV.bin Go.BinOp.eql (AV.prj r1601 1) r2049)) ∧
      ((isT (AV.bin Go.BinOp.eql (AV.prj r1601 1) r2049)) ∧
      ((AV.binOk Go.BinOp.eql (AV.len (AV.prj r1601 0)) (AV.int 0)) ∧
      ((AV.isBool (AV.bin Go.BinOp.eql (AV.prj r1601 1) r2049)) ∧
      ((isT (AV.bin Go.BinOp.eql (AV.prj r1601 1) r2049)) ∧
      ((AV.flat (AV.bin Go.BinOp.eql (AV.len (AV.prj r1601 0)) (AV.int 0))) ∧
      (fSame (AV.bin Go.BinOp.eql (AV.len (AV.prj r1601 0)) (AV.int 0)) r))))))))))))))))))))))))))))))))) ∧
((isF (AV.bin Go.BinOp.gtr (AV.len x1) (AV.int 0))) →
  ((AV.isBool (AV.bin Go.BinOp.gtr (AV.len x1) (AV.int 0))) ∧
  ((isF (AV.bin Go.BinOp.gtr (AV.len x1) (AV.int 0))) ∧
  (∃ r1601 : AV, ((Fn Try.prog 16 [x0, x1] (Sh.tup [(Sh.row 52 3 true), Sh.sc]) r1601) ∧
  (∃ r2049 : AV, ((Fn Try.prog 9 [x0] Sh.sc r2049) ∧
  ((AV.binOk Go.BinOp.eql r2049 (AV.int 0)) ∧
  ((AV.isBool (AV.bin Go.BinOp.eql r2049 (AV.int 0))) ∧
  (((isT (AV.bin Go.BinOp.eql r2049 (AV.int 0))) →
    (∃ r2369 : AV, ((Fn Try.prog 17 [x1] Sh.sc r2369) ∧
    ((AV.binOk Go.BinOp.neq r2369 (AV.int 0)) ∧
    ((AV.isBool (AV.bin Go.BinOp.neq r2369 (AV.int 0))) ∧
    (((isT (AV.bin Go.BinOp.neq r2369 (AV.int 0))) →
      ((AV.binOk Go.BinOp.eql (AV.prj r1601 1) r2369) ∧
      ((AV.isBool (AV.bin Go.BinOp.eql (AV.prj r1601 1) r2369)) ∧
      ((isT (AV.bin Go.BinOp.eql (AV.prj r1601 1) r2369)) ∧
      ((AV.binOk Go.BinOp.eql (AV.len (AV.prj r1601 0)) (AV.int 0)) ∧
      ((AV.isBool (AV.bin Go.BinOp.eql (AV.prj r1601 1) r2369)) ∧
      ((isT (AV.bin Go.BinOp.eql (AV.prj r1601 1) r2369)) ∧
      ((AV.flat (AV.bin Go.BinOp.eql (AV.len (AV.prj r1601 0)) (AV.int 0))) ∧
      (fSame (AV.bin Go.BinOp.eql (AV.len (AV.prj r1601 0)) (AV.int 0)) r))))))))) ∧
    ((isF (AV.bin Go.BinOp.neq r2369 (AV.int 0))) →
      ((AV.binOk Go.BinOp.neq (AV.prj r1601 1) (AV.int 0)) ∧
      ((AV.isBool (AV.bin Go.BinOp.neq (AV.prj r1601 1) (AV.int 0))) ∧
      ((isF (AV.bin Go.BinOp.neq (AV.prj r1601 1) (AV.int 0))) ∧
      ((AV.isSl x1 6) ∧
      ((AV.inb x1 (AV.int 0)) ∧
      (fLoop 3201 [(AV.at x1 (AV.int 0) 0), (AV.mk 3 [])] fun ys3201 again3201 =>
        ((AV.isSl x1 6) ∧
        ((AV.binOk Go.BinOp.sub (AV.len x1) (AV.int 1)) ∧
        ((AV.isSl x1 6) ∧
        ((AV.inb x1 (AV.bin Go.BinOp.sub (AV.len x1) (AV.int 1))) ∧
        ((AV.binOk Go.BinOp.leq (ys3201.getD 0 default) (AV.at x1 (AV.bin Go.BinOp.sub (AV.len x1) (AV.int 1)) 0)) ∧
        ((AV.isBool (AV.bin Go.BinOp.leq (ys3201.getD 0 default) (AV.at x1 (AV.bin Go.BinOp.sub (AV.len x1) (AV.int 1)) 0))) ∧
        (((isT (AV.bin Go.BinOp.leq (ys3201.getD 0 default) (AV.at x1 (AV.bin Go.BinOp.sub (AV.len x1) (AV.int 1)) 0))) →
          (∃ r3969 : AV, ((Fn Try.prog 18 [x1, (ys3201.getD 0 default)] (Sh.tup [Sh.sc, Sh.sc]) r3969) ∧
          ((AV.isAgg (AV.prj r3969 0) 6) ∧
          ((AV.binOk Go.BinOp.neq (AV.prj r3969 1) (AV.int 0)) ∧
          ((AV.isBool (AV.bin Go.BinOp.neq (AV.prj r3969 1) (AV.int 0))) ∧
          ((isF (AV.bin Go.BinOp.neq (AV.prj r3969 1) (AV.int 0))) ∧
          (∃ r4993 : AV, ((Fn Try.prog 15 [x0, (AV.agg [(AV.cel (AV.prj r3969 0) 1), (AV.cel (AV.prj r3969 0) 2)]), (AV.cel (AV.prj r3969 0) 3)] Sh.sc r4993) ∧
          ((AV.binOk Go.BinOp.sub (AV.len (ys3201.getD 1 default)) (AV.int 1)) ∧
          ((AV.binOk Go.BinOp.geq (AV.bin Go.BinOp.sub (AV.len (ys3201.getD 1 default)) (AV.int 1)) (AV.int 0)) ∧
          ((AV.isBool (AV.bin Go.BinOp.geq (AV.bin Go.BinOp.sub (AV.len (ys3201.getD 1 default)) (AV.int 1)) (AV.int 0))) ∧
          (((isT (AV.bin Go.BinOp.geq (AV.bin Go.BinOp.sub (AV.len (ys3201.getD 1 default)) (AV.int 1)) (AV.int 0))) →
            ((AV.inb (ys3201.getD 1 default) (AV.bin Go.BinOp.sub (AV.len (ys3201.getD 1 default)) (AV.int 1))) ∧
            ((AV.inb (ys3201.getD 1 default) (AV.bin Go.BinOp.sub (AV.len (ys3201.getD 1 default)) (AV.int 1))) ∧
            ((AV.binOk Go.BinOp.eql (AV.at (ys3201.getD 1 default) (AV.bin Go.BinOp.sub (AV.len (ys3201.getD 1 default)) (AV.int 1)) 0) r4993) ∧
            ((AV.isBool (AV.bin Go.BinOp.geq (AV.bin Go.BinOp.sub (AV.len (ys3201.getD 1 default)) (AV.int 1)) (AV.int 0))) ∧
            ((isT (AV.bin Go.BinOp.geq (AV.bin Go.BinOp.sub (AV.len (ys3201.getD 1 default)) (AV.int 1)) (AV.int 0))) ∧
            ((AV.isBool (AV.bin Go.BinOp.eql (AV.at (ys3201.getD 1 default) (AV.bin Go.BinOp.sub (AV.len (ys3201.getD 1 default)) (AV.int 1)) 0) r4993)) ∧
            (((isT (AV.bin Go.BinOp.eql (AV.at (ys3201.getD 1 default) (AV.bin Go.BinOp.sub (AV.len (ys3201.getD 1 default)) (AV.int 1)) 0) r4993)) →
              ((AV.inb (ys3201.getD 1 default) (AV.bin Go.BinOp.sub (AV.len (ys3201.getD 1 default)) (AV.int 1))) ∧
              ((AV.isOne (ys3201.getD 0 default)) ∧
              ((AV.inb (ys3201.getD 1 default) (AV.bin Go.BinOp.sub (AV.len (ys3201.getD 1 default)) (AV.int 1))) ∧
              ((AV.binOk Go.BinOp.add (ys3201.getD 0 default) (AV.int 1)) ∧
              (again3201 [(AV.bin Go.BinOp.add (ys3201.getD 0 default) (AV.int 1)), (AV.setEl (ys3201.getD 1 default) (AV.bin Go.BinOp.sub (AV.len (ys3201.getD 1 default)) (AV.int 1)) 2 [(ys3201.getD 0 default)])])))))) ∧
            ((isF (AV.bin Go.BinOp.eql (AV.at (ys3201.getD 1 default) (AV.bin Go.BinOp.sub (AV.len (ys3201.getD 1 default)) (AV.int 1)) 0) r4993)) →
              ((AV.isOne r4993) ∧
              ((AV.isOne (ys3201.getD 0 default)) ∧
              ((AV.isOne (ys3201.getD 0 default)) ∧
              ((AV.room (ys3201.getD 1 default) (AV.mk 3 [[r4993, (ys3201.getD 0 default), (ys3201.getD 0 default)]]) 24) ∧
              ((AV.binOk Go.BinOp.add (ys3201.getD 0 default) (AV.int 1)) ∧
              (again3201 [(AV.bin Go.BinOp.add (ys3201.getD 0 default) (AV.int 1)), (AV.app 3 (ys3201.getD 1 default) (AV.mk 3 [[r4993, (ys3201.getD 0 default), (ys3201.getD 0 default)]]))]))))))))))))))) ∧
          ((isF (AV.bin Go.BinOp.geq (AV.bin Go.BinOp.sub (AV.len (ys3201.getD 1 default)) (AV.int 1)) (AV.int 0))) →
            ((AV.isBool (AV.bin Go.BinOp.geq (AV.bin Go.BinOp.sub (AV.len (ys3201.getD 1 default)) (AV.int 1)) (AV.int 0))) ∧
            ((isF (AV.bin Go.BinOp.geq (AV.bin Go.BinOp.sub (AV.len (ys3201.getD 1 default)) (AV.int 1)) (AV.int 0))) ∧
            ((AV.isOne r4993) ∧
            ((AV.isOne (ys3201.getD 0 default)) ∧
            ((AV.isOne (ys3201.getD 0 default)) ∧
            ((AV.room (ys3201.getD 1 default) (AV.mk 3 [[r4993, (ys3201.getD 0 default), (ys3201.getD 0 default)]]) 24) ∧
            ((AV.binOk Go.BinOp.add (ys3201.getD 0 default) (AV.int 1)) ∧
            (again3201 [(AV.bin Go.BinOp.add (ys3201.getD 0 default) (AV.int 1)), (AV.app 3 (ys3201.getD 1 default) (AV.mk 3 [[r4993, (ys3201.getD 0 default), (ys3201.getD 0 default)]]))])))))))))))))))))))))) ∧
        ((isF (AV.bin Go.BinOp.leq (ys3201.getD 0 default) (AV.at x1 (AV.bin Go.BinOp.sub (AV.len x1) (AV.int 1)) 0))) →
          (∃ r3969 : AV, ((Fn Try.prog 19 [(AV.prj r1601 0), (ys3201.getD 1 default)] Sh.sc r3969) ∧
          ((AV.flat r3969) ∧
          (fSame r3969 r))))))))))))))))))))))))) ∧
  ((isF (AV.bin Go.BinOp.eql r2049 (AV.int 0))) →
    ((AV.binOk Go.BinOp.neq r2049 (AV.int 0)) ∧
    ((AV.isBool (AV.bin Go.BinOp.neq r2049 (AV.int 0))) ∧
    ((isT (AV.bin Go.BinOp.neq r2049 (AV.int 0))) ∧
    ((AV.binOk Go.BinOp.eql (AV.prj r1601 1) r2049) ∧
    ((AV.isBool (AV.bin Go.BinOp.eql (AV.prj r1601 1) r2049)) ∧
    ((isT (AV.bin Go.BinOp.eql (AV.prj r1601 1) r2049)) ∧
    ((AV.binOk Go.BinOp.eql (AV.len (AV.prj r1601 0)) (AV.int 0)) ∧
    ((AV.isBool (AV.bin Go.BinOp.eql (AV.prj r1601 1) r2049)) ∧
    ((isT (AV.bin Go.BinOp.eql (AV.prj r1601 1) r2049)) ∧
    ((AV.flat (AV.bin Go.BinOp.eql (AV.len (AV.prj r1601 0)) (AV.int 0))) ∧
    (fSame (AV.bin Go.BinOp.eql (AV.len (AV.prj r1601 0)) (AV.int 0)) r)))))))))))))))))))))))))))))))) := by kernel_rfl
end SecF
end Go.Proofs.Ytcdbodnhimbddaa
/- the comparison of polygon.enters. -/
namespace Go.Proofs.Ytcdbodnhimbddaa
open Go.RowKit
set_option linter.unusedVariables false
set_option maxRecDepth 100000
namespace SecF2
--GAMMA
def Γ : FuncId → Option Ca := fun f => if f = 66 then some (.fn .sc) else some .inl
def ann : FuncId → Nat → LoopEx := fun f r => ⟨[], [], [], []⟩
--END GAMMA
theorem entc_form (x0 x1 x2 r : AV) : fnF Try.prog Γ ann 3 65 Try.f65 (Try.f65.body.getD .skip) (.nil) [x0, x1, x2] (.sc) r = (((AV.isAgg x0 2) ∧
((AV.isAgg x1 2) ∧
((AV.isRef x2 2) ∧
(∃ r321 : AV, ((Fn Try.prog 66 [(AV.derA x2), (AV.agg [(AV.cel x0 0), (AV.cel x0 1)])] Sh.sc r321) ∧
((AV.isRef x2 2) ∧
(∃ r513 : AV, ((Fn Try.prog 66 [(AV.derA x2), (AV.agg [(AV.cel x1 0), (AV.cel x1 1)])] Sh.sc r513) ∧
((AV.binOk Go.BinOp.sub r321 r513) ∧
((AV.flat (AV.bin Go.BinOp.sub r321 r513)) ∧
(fSame (AV.bin Go.BinOp.sub r321 r513) r)))))))))))) := by kernel_rfl
end SecF2
end Go.Proofs.Ytcdbodnhimbddaa
/- sector.Name. -/
namespace Go.Proofs.Ytcdbodnhimbddaa
open Go.RowKit
set_option linter.unusedVariables false
set_option maxRecDepth 100000
namespace SecF3
--GAMMA
def Γ : FuncId → Option Ca := fun f => if f = 28 then some (.fn .sc) else some .inl
def ann : FuncId → Nat → LoopEx := fun f r => ⟨[], [], [], []⟩
--END GAMMA
theorem sname_form (x0 r : AV) : fnF Try.prog Γ ann 3 10 Try.f10 (Try.f10.body.getD .skip) (.nil) [x0] (.sc) r = ((∃ r129 : AV, ((Fn Try.prog 28 [x0] Sh.sc r129) ∧
((AV.flat r129) ∧
(fSame r129 r))))) := by kernel_rfl
end SecF3
end Go.Proofs.Ytcdbodnhimbddaa
/- slices.Equal at visits. -/
namespace Go.Proofs.Ytcdbodnhimbddaa
open Go.RowKit
set_option linter.unusedVariables false
set_option maxRecDepth 100000
namespace SecG
--GAMMA
def Γ : FuncId → Option Ca := fun f => some .inl
def ann : FuncId → Nat → LoopEx := fun f r => ⟨[], [], [], []⟩
--END GAMMA
theorem vequal_form (x0 x1 r : AV) : fnF Try.prog Γ ann 3 19 Try.f19 (Try.f19.body.getD .skip) (.nil) [x0, x1] (.sc) r = (((AV.isSl x0 3) ∧
((AV.isSl x1 3) ∧
((AV.binOk Go.BinOp.neq (AV.len x0) (AV.len x1)) ∧
((AV.isBool (AV.bin Go.BinOp.neq (AV.len x0) (AV.len x1))) ∧
(((isT (AV.bin Go.BinOp.neq (AV.len x0) (AV.len x1))) →
  ((AV.flat (AV.bool false)) ∧
  (fSame (AV.bool false) r))) ∧
((isF (AV.bin Go.BinOp.neq (AV.len x0) (AV.len x1))) →
  ((AV.isSl x0 3) ∧
  (fLoop 577 [(AV.int 0)] fun ys577 again577 =>
    ((AV.binOk Go.BinOp.lss (ys577.getD 0 default) (AV.len x0)) ∧
    ((AV.isBool (AV.bin Go.BinOp.lss (ys577.getD 0 default) (AV.len x0))) ∧
    (((isT (AV.bin Go.BinOp.lss (ys577.getD 0 default) (AV.len x0))) →
      ((AV.isSl x0 3) ∧
      ((AV.inb x0 (ys577.getD 0 default)) ∧
      ((AV.isSl x1 3) ∧
      ((AV.inb x1 (ys577.getD 0 default)) ∧
      ((AV.eqPlOk [(0, (EK.int Go.IntKind.i64)), (1, (EK.int Go.IntKind.i64)), (2, (EK.int Go.IntKind.i64))] [(AV.cel (AV.atAgg x0 (ys577.getD 0 default) 0 3) 0), (AV.cel (AV.atAgg x0 (ys577.getD 0 default) 0 3) 1), (AV.cel (AV.atAgg x0 (ys577.getD 0 default) 0 3) 2)] [(AV.cel (AV.atAgg x1 (ys577.getD 0 default) 0 3) 0), (AV.cel (AV.atAgg x1 (ys577.getD 0 default) 0 3) 1), (AV.cel (AV.atAgg x1 (ys577.getD 0 default) 0 3) 2)]) ∧
      ((AV.isAgg (AV.atAgg x0 (ys577.getD 0 default) 0 3) 3) ∧
      ((AV.isAgg (AV.atAgg x1 (ys577.getD 0 default) 0 3) 3) ∧
      ((AV.isBool (AV.nePl [(0, (EK.int Go.IntKind.i64)), (1, (EK.int Go.IntKind.i64)), (2, (EK.int Go.IntKind.i64))] [(AV.cel (AV.atAgg x0 (ys577.getD 0 default) 0 3) 0), (AV.cel (AV.atAgg x0 (ys577.getD 0 default) 0 3) 1), (AV.cel (AV.atAgg x0 (ys577.getD 0 default) 0 3) 2)] [(AV.cel (AV.atAgg x1 (ys577.getD 0 default) 0 3) 0), (AV.cel (AV.atAgg x1 (ys577.getD 0 default) 0 3) 1), (AV.cel (AV.atAgg x1 (ys577.getD 0 default) 0 3) 2)])) ∧
      (((isT (AV.nePl [(0, (EK.int Go.IntKind.i64)), (1, (EK.int Go.IntKind.i64)), (2, (EK.int Go.IntKind.i64))] [(AV.cel (AV.atAgg x0 (ys577.getD 0 default) 0 3) 0), (AV.cel (AV.atAgg x0 (ys577.getD 0 default) 0 3) 1), (AV.cel (AV.atAgg x0 (ys577.getD 0 default) 0 3) 2)] [(AV.cel (AV.atAgg x1 (ys577.getD 0 default) 0 3) 0), (AV.cel (AV.atAgg x1 (ys577.getD 0 default) 0 3) 1), (AV.cel (AV.atAgg x1 (ys577.getD 0 default) 0 3) 2)])) →
        ((AV.flat (AV.bool false)) ∧
        (fSame (AV.bool false) r))) ∧
      ((isF (AV.nePl [(0, (EK.int Go.IntKind.i64)), (1, (EK.int Go.IntKind.i64)), (2, (EK.int Go.IntKind.i64))] [(AV.cel (AV.atAgg x0 (ys577.getD 0 default) 0 3) 0), (AV.cel (AV.atAgg x0 (ys577.getD 0 default) 0 3) 1), (AV.cel (AV.atAgg x0 (ys577.getD 0 default) 0 3) 2)] [(AV.cel (AV.atAgg x1 (ys577.getD 0 default) 0 3) 0), (AV.cel (AV.atAgg x1 (ys577.getD 0 default) 0 3) 1), (AV.cel (AV.atAgg x1 (ys577.getD 0 default) 0 3) 2)])) →
        ((AV.binOk Go.BinOp.add (ys577.getD 0 default) (AV.int 1)) ∧
        (again577 [(AV.bin Go.BinOp.add (ys577.getD 0 default) (AV.int 1))]))))))))))))) ∧
    ((isF (AV.bin Go.BinOp.lss (ys577.getD 0 default) (AV.len x0))) →
      ((AV.flat (AV.bool true)) ∧
      (fSame (AV.bool true) r))))))))))))))) := by kernel_rfl
end SecG
end Go.Proofs.Ytcdbodnhimbddaa
/- visits -/
namespace Go.Proofs.Ytcdbodnhimbddaa
open Go.RowKit
set_option linter.unusedVariables false
set_option maxRecDepth 100000
namespace VisF
--GAMMA
def Γ : FuncId → Option Ca := fun f =>
  if f = 29 then some (.fn .sc)
  else if f = 44 then some (.fn .p)
  else some .inl
def ann : FuncId → Nat → LoopEx := fun f r => if f = 31 ∧ r = 4 then ⟨[], [321], [], [(129, 0, 52, 3)]⟩ else ⟨[], [], [], []⟩
--END GAMMA
theorem visits_form (x0 x1 r : AV) : fnF Try.prog Γ ann 3 31 Try.f31 (Try.f31.body.getD .skip) (.nil) [x0, x1] (.row 52 3 true) r = (((AV.isOne x0) ∧
(∃ r257 : AV, ((Fn Try.prog 44 [x1] Sh.p r257) ∧
(fIter Try.prog 385 r257 [(AV.mk 3 [])] (fun x385 ys385 again385 =>
  (fAllV fun _ => ((AV.isAgg x385 6) ∧
  (∃ r1025 : AV, ((Fn Try.prog 29 [x0, (AV.agg [(AV.cel x385 1), (AV.cel x385 2)]), (AV.cel x385 3)] Sh.sc r1025) ∧
  ((AV.binOk Go.BinOp.gtr (AV.len (ys385.getD 0 default)) (AV.int 0)) ∧
  ((AV.isBool (AV.bin Go.BinOp.gtr (AV.len (ys385.getD 0 default)) (AV.int 0))) ∧
  (((isT (AV.bin Go.BinOp.gtr (AV.len (ys385.getD 0 default)) (AV.int 0))) →
    ((AV.binOk Go.BinOp.sub (AV.len (ys385.getD 0 default)) (AV.int 1)) ∧
    ((AV.inb (ys385.getD 0 default) (AV.bin Go.BinOp.sub (AV.len (ys385.getD 0 default)) (AV.int 1))) ∧
    ((AV.inb (ys385.getD 0 default) (AV.bin Go.BinOp.sub (AV.len (ys385.getD 0 default)) (AV.int 1))) ∧
    ((AV.binOk Go.BinOp.eql (AV.at (ys385.getD 0 default) (AV.bin Go.BinOp.sub (AV.len (ys385.getD 0 default)) (AV.int 1)) 0) r1025) ∧
    ((AV.isBool (AV.bin Go.BinOp.gtr (AV.len (ys385.getD 0 default)) (AV.int 0))) ∧
    ((isT (AV.bin Go.BinOp.gtr (AV.len (ys385.getD 0 default)) (AV.int 0))) ∧
    ((AV.isBool (AV.bin Go.BinOp.eql (AV.at (ys385.getD 0 default) (AV.bin Go.BinOp.sub (AV.len (ys385.getD 0 default)) (AV.int 1)) 0) r1025)) ∧
    (((isT (AV.bin Go.BinOp.eql (AV.at (ys385.getD 0 default) (AV.bin Go.BinOp.sub (AV.len (ys385.getD 0 default)) (AV.int 1)) 0) r1025)) →
      ((AV.binOk Go.BinOp.sub (AV.len (ys385.getD 0 default)) (AV.int 1)) ∧
      ((AV.inb (ys385.getD 0 default) (AV.bin Go.BinOp.sub (AV.len (ys385.getD 0 default)) (AV.int 1))) ∧
      ((AV.isOne (AV.cel x385 0)) ∧
      ((AV.inb (ys385.getD 0 default) (AV.bin Go.BinOp.sub (AV.len (ys385.getD 0 default)) (AV.int 1))) ∧
      (again385 [(AV.setEl (ys385.getD 0 default) (AV.bin Go.BinOp.sub (AV.len (ys385.getD 0 default)) (AV.int 1)) 2 [(AV.cel x385 0)])])))))) ∧
    ((isF (AV.bin Go.BinOp.eql (AV.at (ys385.getD 0 default) (AV.bin Go.BinOp.sub (AV.len (ys385.getD 0 default)) (AV.int 1)) 0) r1025)) →
      ((AV.isOne r1025) ∧
      ((AV.isOne (AV.cel x385 0)) ∧
      ((AV.isOne (AV.cel x385 0)) ∧
      ((AV.room (ys385.getD 0 default) (AV.mk 3 [[r1025, (AV.cel x385 0), (AV.cel x385 0)]]) 24) ∧
      (again385 [(AV.app 3 (ys385.getD 0 default) (AV.mk 3 [[r1025, (AV.cel x385 0), (AV.cel x385 0)]]))]))))))))))))))) ∧
  ((isF (AV.bin Go.BinOp.gtr (AV.len (ys385.getD 0 default)) (AV.int 0))) →
    ((AV.isBool (AV.bin Go.BinOp.gtr (AV.len (ys385.getD 0 default)) (AV.int 0))) ∧
    ((isF (AV.bin Go.BinOp.gtr (AV.len (ys385.getD 0 default)) (AV.int 0))) ∧
    ((AV.isOne r1025) ∧
    ((AV.isOne (AV.cel x385 0)) ∧
    ((AV.isOne (AV.cel x385 0)) ∧
    ((AV.room (ys385.getD 0 default) (AV.mk 3 [[r1025, (AV.cel x385 0), (AV.cel x385 0)]]) 24) ∧
    (again385 [(AV.app 3 (ys385.getD 0 default) (AV.mk 3 [[r1025, (AV.cel x385 0), (AV.cel x385 0)]]))])))))))))))))))) (fun zs385 =>
  ((AV.flatS (zs385.getD 0 default)) ∧
  (fSame (zs385.getD 0 default) r)))))))) := by kernel_rfl
end VisF
end Go.Proofs.Ytcdbodnhimbddaa
/- slices.Clone at the nodes of a tube. -/
namespace Go.Proofs.Ytcdbodnhimbddaa
open Go.RowKit
set_option linter.unusedVariables false
set_option maxRecDepth 100000
namespace AllF
--GAMMA
def Γ : FuncId → Option Ca := fun f => some .inl
def ann : FuncId → Nat → LoopEx := fun f r => ⟨[], [], [], []⟩
--END GAMMA
theorem clone_form (x0 r : AV) : fnF Try.prog Γ ann 3 59 Try.f59 (Try.f59.body.getD .skip) (.nil) [x0] (.row 44 6 true) r = ((fNil x0
  ((AV.flatS (AV.mk 6 [])) ∧
  (fSame (AV.mk 6 []) r))
  ((AV.isSl x0 6) ∧
  ((AV.room (AV.mk 6 []) x0 48) ∧
  ((AV.flatS (AV.app 6 (AV.mk 6 []) x0)) ∧
  (fSame (AV.app 6 (AV.mk 6 []) x0) r)))))) := by kernel_rfl
end AllF
end Go.Proofs.Ytcdbodnhimbddaa
/- planes and segments. -/
namespace Go.Proofs.Ytcdbodnhimbddaa
open Go.RowKit
set_option linter.unusedVariables false
set_option linter.unusedSimpArgs false
set_option maxRecDepth 100000
structure Pt where
  x : Int
  y : Int
  deriving DecidableEq, Inhabited
def encP (p : Pt) : List AV := [.int p.x, .int p.y]
abbrev pt (p : Pt) : AV := .agg (encP p)
abbrev pts (l : List Pt) : AV := lst 2 encP l
theorem flat_pts (l : List Pt) : (pts l).flatS := lst_flatS fun x _ z hz => by
  simp [encP] at hz; rcases hz with rfl | rfl <;> exact .lit _
def wr (n : Int) : Int := IntKind.i64.wrap n
@[simp] theorem wr_eq (n : Int) : IntKind.i64.wrap n = wr n := rfl
theorem wr_id {n : Int} (h1 : -9223372036854775808 ≤ n) (h2 : n ≤ 9223372036854775807) : wr n = n := wrap64 h1 h2
def subP (a b : Pt) : Pt := ⟨wr (a.x - b.x), wr (a.y - b.y)⟩
def dotP (a b : Pt) : Int := wr (wr (a.x * b.x) + wr (a.y * b.y))
def crossP (a b : Pt) : Int := wr (wr (a.x * b.y) - wr (a.y * b.x))
def turnP (a b c : Pt) : Int := if 0 < crossP (subP b a) (subP c a) then 1 else if crossP (subP b a) (subP c a) < 0 then -1 else 0
def sqrP (a b : Pt) : Int := dotP (subP a b) (subP a b)
def pE (p : Pt) : Int := if p.x < -1000000 ∨ p.x > 1000000 ∨ p.y < -1000000 ∨ p.y > 1000000 then 4 else 0
theorem pE_ok {p : Pt} (h : pE p = 0) : -1000000 ≤ p.x ∧ p.x ≤ 1000000 ∧ -1000000 ≤ p.y ∧ p.y ≤ 1000000 := by
  unfold pE at h
  split at h
  · cases h
  · omega
theorem pe_fn (p : Pt) : Fn Try.prog 12 [pt p] .sc (.int (pE p)) := by
  refine fn_run mixed 3 (Γ := SecF.Γ) (ann := SecF.ann) Try.func12 rfl Try.call12 ((SecF.pcheck_form _ _).mpr ?_)
  obtain ⟨x, y⟩ := p
  simp [encP]
  have h4 : (x < -1000000 ∨ x > 1000000 ∨ y < -1000000 ∨ y > 1000000) → 4 = pE ⟨x, y⟩ := fun h => by unfold pE; rw [if_pos h]
  have h0 : ¬ (x < -1000000 ∨ x > 1000000 ∨ y < -1000000 ∨ y > 1000000) → 0 = pE ⟨x, y⟩ := fun h => by unfold pE; rw [if_neg h]
  refine ⟨fun a => ⟨a, h4 (by omega)⟩, fun a => ⟨a, fun b => ⟨b, h4 (by omega)⟩, fun b => ⟨b, fun c => ⟨c, h4 (by omega)⟩, fun c => ⟨c, fun d => h4 (by omega), fun d => h0 (by omega)⟩⟩⟩⟩
theorem sub_fn (a b : Pt) : Fn Try.prog 62 [pt a, pt b] .sc (pt (subP a b)) := by
  refine fn_run mixed 3 (Γ := SecF.Γ) (ann := SecF.ann) Try.func62 rfl Try.call62 ((SecF.sub_form _ _ _).mpr ?_)
  simp [encP, subP]
theorem dot_fn (a b : Pt) : Fn Try.prog 67 [pt a, pt b] .sc (.int (dotP a b)) := by
  refine fn_run mixed 3 (Γ := SecF.Γ) (ann := SecF.ann) Try.func67 rfl Try.call67 ((SecF.dot_form _ _ _).mpr ?_)
  simp [encP, dotP]
theorem cross_fn (a b : Pt) : Fn Try.prog 61 [pt a, pt b] .sc (.int (crossP a b)) := by
  refine fn_run mixed 3 (Γ := SecF.Γ) (ann := SecF.ann) Try.func61 rfl Try.call61 ((SecF.cross_form _ _ _).mpr ?_)
  simp [encP, crossP]
theorem turn_fn (a b c : Pt) : Fn Try.prog 51 [pt a, pt b, pt c] .sc (.int (turnP a b c)) := by
  refine fn_run mixed 3 (Γ := SecF.Γ) (ann := SecF.ann) Try.func51 rfl Try.call51 ((SecF.turn_form _ _ _ _).mpr ?_)
  refine ⟨by simp [encP], by simp [encP], by simp [encP], _, sub_fn b a, _, sub_fn c a, _, cross_fn _ _, ?_⟩
  have t1 : 0 < crossP (subP b a) (subP c a) → 1 = turnP a b c := fun h => by unfold turnP; rw [if_pos h]
  have t2 : crossP (subP b a) (subP c a) < 0 → -1 = turnP a b c := fun h => by unfold turnP; rw [if_neg (by omega), if_pos h]
  have t3 : crossP (subP b a) (subP c a) = 0 → 0 = turnP a b c := fun h => by unfold turnP; rw [if_neg (by omega), if_neg (by omega)]
  generalize crossP (subP b a) (subP c a) = n at *
  simp
  exact ⟨t1, fun h => ⟨t2, fun q => t3 (by omega)⟩⟩
theorem sqr_fn (a b : Pt) : Fn Try.prog 66 [pt a, pt b] .sc (.int (sqrP a b)) := by
  refine fn_run mixed 3 (Γ := SecF.Γ) (ann := SecF.ann) Try.func66 rfl Try.call66 ((SecF.square_form _ _ _).mpr ?_)
  refine ⟨by simp [encP], by simp [encP], _, sub_fn a b, by simp [encP], _, dot_fn _ _, ?_⟩
  simp [sqrP]
def nextP (l : List Pt) (i : Nat) : Pt := l.getD ((i + 1) % l.length) default
theorem tmod_nat (a b : Nat) : ((a : Int) + 1).tmod (b : Nat) = (((a + 1) % b : Nat) : Int) := by
  rw [show (a : Int) + 1 = ((a + 1 : Nat) : Int) by omega]
  rfl
theorem nextP_at {l : List Pt} {i : Nat} (h : 0 < l.length) : l[(i + 1) % l.length]? = some (nextP l i) := by
  have := Nat.mod_lt (i + 1) h
  unfold nextP
  rw [List.getD_eq_getElem?_getD, List.getElem?_eq_getElem this]
  rfl
theorem next_fn (l : List Pt) (i : Nat) (h : 0 < l.length) (hl : l.length ≤ maxLen) (hi : i < l.length) : Fn Try.prog 52 [pts l, .int (i : Nat)] .sc (pt (nextP l i)) := by
  refine fn_run mixed 3 (Γ := SecF.Γ) (ann := SecF.ann) Try.func52 rfl Try.call52 ((SecF.next_form _ _ _).mpr ?_)
  unfold maxLen at hl
  have h1 := wr_id (n := (i : Int) + 1) (by omega) (by omega)
  have h2 := tmod_nat i l.length
  have h3 := Nat.mod_lt (i + 1) h
  have h4 := nextP_at (i := i) h
  generalize (i + 1) % l.length = k at h2 h3 h4
  simp [h1, h2, lst_atAgg h4, show ¬ l = [] from List.length_pos_iff.1 h, encP]
  omega
def mnI (a b : Int) : Int := if b < a then b else a
def mxI (a b : Int) : Int := if a < b then b else a
def betw (a b c : Pt) : Bool := decide (mnI a.x b.x ≤ c.x) && decide (c.x ≤ mxI a.x b.x) && decide (mnI a.y b.y ≤ c.y) && decide (c.y ≤ mxI a.y b.y)
theorem betw_fn (a b c : Pt) : Fn Try.prog 68 [pt a, pt b, pt c] .sc (.bool (betw a b c)) := by
  refine fn_run mixed 3 (Γ := SecF.Γ) (ann := SecF.ann) Try.func68 rfl Try.call68 ((SecF.between_form _ _ _ _).mpr ?_)
  obtain ⟨ax, ay⟩ := a; obtain ⟨bx, b_⟩ := b; obtain ⟨cx, cy⟩ := c
  have e1 : (if bx < ax then bx else ax) = mnI ax bx := rfl
  have e2 : (if ax < bx then bx else ax) = mxI ax bx := rfl
  have e3 : (if b_ < ay then b_ else ay) = mnI ay b_ := rfl
  have e4 : (if ay < b_ then b_ else ay) = mxI ay b_ := rfl
  simp [encP, AV.mn, AV.mx, e1, e2, e3, e4, betw]
  generalize mnI ax bx = m1, mxI ax bx = m2, mnI ay b_ = m3, mxI ay b_ = m4
  by_cases h1 : m1 ≤ cx <;> by_cases h2 : cx ≤ m2 <;> by_cases h3 : m3 ≤ cy <;> simp [h1, h2, h3] <;> omega
def onS (a b c : Pt) : Bool := decide (turnP a b c = 0) && betw a b c
theorem on_fn (a b c : Pt) : Fn Try.prog 63 [pt a, pt b, pt c] .sc (.bool (onS a b c)) := by
  refine fn_run mixed 3 (Γ := SecF.Γ) (ann := SecF.ann) Try.func63 rfl Try.call63 ((SecF.on_form _ _ _ _).mpr ?_)
  refine ⟨by simp [encP], by simp [encP], by simp [encP], _, turn_fn a b c, ?_⟩
  simp
  exact ⟨fun h => ⟨_, betw_fn a b c, by simp [h, onS]⟩, fun h => ⟨h, by simp [onS, h]⟩⟩
def crs (a b c d : Pt) : Bool := decide (wr (turnP a b c * turnP a b d) < 0) && decide (wr (turnP c d a * turnP c d b) < 0)
theorem crosses_fn (a b c d : Pt) : Fn Try.prog 54 [pt a, pt b, pt c, pt d] .sc (.bool (crs a b c d)) := by
  refine fn_run mixed 3 (Γ := SecF.Γ) (ann := SecF.ann) Try.func54 rfl Try.call54 ((SecF.crosses_form _ _ _ _ _).mpr ?_)
  refine ⟨by simp [encP], by simp [encP], by simp [encP], by simp [encP], _, turn_fn a b c, _, turn_fn a b d, ?_⟩
  simp
  exact ⟨fun h => ⟨_, turn_fn c d a, _, turn_fn c d b, by simp [h, crs]⟩, fun h => ⟨h, by simp [crs]; omega⟩⟩
theorem crs_symm (a b c d : Pt) : crs c d a b = crs a b c d := by simp [crs, Bool.and_comm]
def comS (a b c d : Pt) : Bool := crs a b c d || onS a b c || onS a b d || onS c d a || onS c d b
theorem common_fn (a b c d : Pt) : Fn Try.prog 53 [pt a, pt b, pt c, pt d] .sc (.bool (comS a b c d)) := by
  refine fn_run mixed 3 (Γ := SecF.Γ) (ann := SecF.ann) Try.func53 rfl Try.call53 ((SecF.common_form _ _ _ _ _).mpr ?_)
  refine ⟨by simp [encP], by simp [encP], by simp [encP], by simp [encP], _, crosses_fn a b c d, ?_⟩
  have h1 := on_fn a b c; have h2 := on_fn a b d; have h3 := on_fn c d a; have h4 := on_fn c d b
  simp
  refine ⟨fun h => ⟨h, by simp [comS, h]⟩, fun h => ⟨_, h1, ?_⟩⟩
  simp [h]
  refine ⟨fun k => ⟨k, by simp [comS, h, k]⟩, fun k => ⟨_, h2, ?_⟩⟩
  simp [k]
  refine ⟨fun m => ⟨m, by simp [comS, h, k, m]⟩, fun m => ⟨_, h3, ?_⟩⟩
  simp [m]
  refine ⟨fun o => ⟨o, by simp [comS, h, k, m, o]⟩, fun o => ⟨_, h4, ?_⟩⟩
  simp [o, comS, h, k, m]
end Go.Proofs.Ytcdbodnhimbddaa
