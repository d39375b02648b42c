/- phrase's texts and console: what the run ends in. -/
import Derived.Test.YtbeegkheobomaaaDoorVal
namespace Go.Proofs.YtbeegkheobomaaaDoor
open Go.RowKit
set_option linter.unusedVariables false
set_option maxRecDepth 100000
namespace PhF
--GAMMA
def Γ : FuncId → Option Ca := fun f =>
  if f = 33 ∨ f = 32 ∨ f = 9 ∨ f = 20 ∨ f = 34 ∨ f = 22 ∨ f = 19 ∨ f = 8 ∨ f = 5 ∨ f = 17 ∨ f = 31 ∨ f = 18 ∨ f = 10 ∨ f = 21 ∨ f = 24 ∨ f = 23 ∨ f = 12 then some (.fn .sc)
  else if f = 6 ∨ f = 7 ∨ f = 26 ∨ f = 40 ∨ f = 11 ∨ f = 15 then some (.fn (.tup [.sc, .sc]))
  else if f = 13 then some (.fn (.tup [.sc, .sc, .sc]))
  else if f = 14 ∨ f = 16 then some (.fn (.tup [.row 59 5 true, .sc]))
  else if f = 25 ∨ f = 38 then some (.fn (.row 9 1 true))
  else some .inl
def ann : FuncId → Nat → LoopEx := fun f r => ⟨[], [], [], []⟩
--END GAMMA
theorem what_form (x0 r : AV) : fnF Tryd.prog Γ ann 3 18 Tryd.f18 (Tryd.f18.body.getD .skip) (.nil) [x0] (.sc) r = (((AV.isAgg x0 4) ∧
((AV.binOk Go.BinOp.gtr (AV.cel x0 1) (AV.int 2)) ∧
((AV.isBool (AV.bin Go.BinOp.gtr (AV.cel x0 1) (AV.int 2))) ∧
(((isT (AV.bin Go.BinOp.gtr (AV.cel x0 1) (AV.int 2))) →
  ((AV.inl 7 (AV.cel x0 1)) ∧
  ((AV.isRef (AV.mkRef [(AV.lit (Value.string ⟨#[72, 69, 73, 71, 72, 84]⟩)), (AV.lit (Value.string ⟨#[72, 69, 65, 68, 73, 78, 71]⟩)), (AV.lit (Value.string ⟨#[83, 80, 69, 69, 68]⟩)), (AV.lit (Value.string ⟨#[68, 73, 82, 69, 67, 84]⟩)), (AV.lit (Value.string ⟨#[72, 79, 76, 68]⟩)), (AV.lit (Value.string ⟨#[67, 79, 78, 84, 65, 67, 84]⟩)), (AV.lit (Value.string ⟨#[76, 65, 78, 68]⟩))]) 7) ∧
  ((AV.refOk (AV.mkRef [(AV.lit (Value.string ⟨#[72, 69, 73, 71, 72, 84]⟩)), (AV.lit (Value.string ⟨#[72, 69, 65, 68, 73, 78, 71]⟩)), (AV.lit (Value.string ⟨#[83, 80, 69, 69, 68]⟩)), (AV.lit (Value.string ⟨#[68, 73, 82, 69, 67, 84]⟩)), (AV.lit (Value.string ⟨#[72, 79, 76, 68]⟩)), (AV.lit (Value.string ⟨#[67, 79, 78, 84, 65, 67, 84]⟩)), (AV.lit (Value.string ⟨#[76, 65, 78, 68]⟩))]) 7 0 [((AV.cel x0 1), 1)]) ∧
  ((AV.binOk Go.BinOp.add (AV.refNth (AV.mkRef [(AV.lit (Value.string ⟨#[72, 69, 73, 71, 72, 84]⟩)), (AV.lit (Value.string ⟨#[72, 69, 65, 68, 73, 78, 71]⟩)), (AV.lit (Value.string ⟨#[83, 80, 69, 69, 68]⟩)), (AV.lit (Value.string ⟨#[68, 73, 82, 69, 67, 84]⟩)), (AV.lit (Value.string ⟨#[72, 79, 76, 68]⟩)), (AV.lit (Value.string ⟨#[67, 79, 78, 84, 65, 67, 84]⟩)), (AV.lit (Value.string ⟨#[76, 65, 78, 68]⟩))]) 0 [((AV.cel x0 1), 1)]) (AV.lit (Value.string ⟨#[32]⟩))) ∧
  ((AV.binOk Go.BinOp.add (AV.bin Go.BinOp.add (AV.refNth (AV.mkRef [(AV.lit (Value.string ⟨#[72, 69, 73, 71, 72, 84]⟩)), (AV.lit (Value.string ⟨#[72, 69, 65, 68, 73, 78, 71]⟩)), (AV.lit (Value.string ⟨#[83, 80, 69, 69, 68]⟩)), (AV.lit (Value.string ⟨#[68, 73, 82, 69, 67, 84]⟩)), (AV.lit (Value.string ⟨#[72, 79, 76, 68]⟩)), (AV.lit (Value.string ⟨#[67, 79, 78, 84, 65, 67, 84]⟩)), (AV.lit (Value.string ⟨#[76, 65, 78, 68]⟩))]) 0 [((AV.cel x0 1), 1)]) (AV.lit (Value.string ⟨#[32]⟩))) (AV.cel x0 3)) ∧
  ((AV.flat (AV.bin Go.BinOp.add (AV.bin Go.BinOp.add (AV.refNth (AV.mkRef [(AV.lit (Value.string ⟨#[72, 69, 73, 71, 72, 84]⟩)), (AV.lit (Value.string ⟨#[72, 69, 65, 68, 73, 78, 71]⟩)), (AV.lit (Value.string ⟨#[83, 80, 69, 69, 68]⟩)), (AV.lit (Value.string ⟨#[68, 73, 82, 69, 67, 84]⟩)), (AV.lit (Value.string ⟨#[72, 79, 76, 68]⟩)), (AV.lit (Value.string ⟨#[67, 79, 78, 84, 65, 67, 84]⟩)), (AV.lit (Value.string ⟨#[76, 65, 78, 68]⟩))]) 0 [((AV.cel x0 1), 1)]) (AV.lit (Value.string ⟨#[32]⟩))) (AV.cel x0 3))) ∧
  (fSame (AV.bin Go.BinOp.add (AV.bin Go.BinOp.add (AV.refNth (AV.mkRef [(AV.lit (Value.string ⟨#[72, 69, 73, 71, 72, 84]⟩)), (AV.lit (Value.string ⟨#[72, 69, 65, 68, 73, 78, 71]⟩)), (AV.lit (Value.string ⟨#[83, 80, 69, 69, 68]⟩)), (AV.lit (Value.string ⟨#[68, 73, 82, 69, 67, 84]⟩)), (AV.lit (Value.string ⟨#[72, 79, 76, 68]⟩)), (AV.lit (Value.string ⟨#[67, 79, 78, 84, 65, 67, 84]⟩)), (AV.lit (Value.string ⟨#[76, 65, 78, 68]⟩))]) 0 [((AV.cel x0 1), 1)]) (AV.lit (Value.string ⟨#[32]⟩))) (AV.cel x0 3)) r)))))))) ∧
((isF (AV.bin Go.BinOp.gtr (AV.cel x0 1) (AV.int 2))) →
  ((AV.inl 7 (AV.cel x0 1)) ∧
  ((AV.isRef (AV.mkRef [(AV.lit (Value.string ⟨#[72, 69, 73, 71, 72, 84]⟩)), (AV.lit (Value.string ⟨#[72, 69, 65, 68, 73, 78, 71]⟩)), (AV.lit (Value.string ⟨#[83, 80, 69, 69, 68]⟩)), (AV.lit (Value.string ⟨#[68, 73, 82, 69, 67, 84]⟩)), (AV.lit (Value.string ⟨#[72, 79, 76, 68]⟩)), (AV.lit (Value.string ⟨#[67, 79, 78, 84, 65, 67, 84]⟩)), (AV.lit (Value.string ⟨#[76, 65, 78, 68]⟩))]) 7) ∧
  ((AV.refOk (AV.mkRef [(AV.lit (Value.string ⟨#[72, 69, 73, 71, 72, 84]⟩)), (AV.lit (Value.string ⟨#[72, 69, 65, 68, 73, 78, 71]⟩)), (AV.lit (Value.string ⟨#[83, 80, 69, 69, 68]⟩)), (AV.lit (Value.string ⟨#[68, 73, 82, 69, 67, 84]⟩)), (AV.lit (Value.string ⟨#[72, 79, 76, 68]⟩)), (AV.lit (Value.string ⟨#[67, 79, 78, 84, 65, 67, 84]⟩)), (AV.lit (Value.string ⟨#[76, 65, 78, 68]⟩))]) 7 0 [((AV.cel x0 1), 1)]) ∧
  ((AV.binOk Go.BinOp.add (AV.refNth (AV.mkRef [(AV.lit (Value.string ⟨#[72, 69, 73, 71, 72, 84]⟩)), (AV.lit (Value.string ⟨#[72, 69, 65, 68, 73, 78, 71]⟩)), (AV.lit (Value.string ⟨#[83, 80, 69, 69, 68]⟩)), (AV.lit (Value.string ⟨#[68, 73, 82, 69, 67, 84]⟩)), (AV.lit (Value.string ⟨#[72, 79, 76, 68]⟩)), (AV.lit (Value.string ⟨#[67, 79, 78, 84, 65, 67, 84]⟩)), (AV.lit (Value.string ⟨#[76, 65, 78, 68]⟩))]) 0 [((AV.cel x0 1), 1)]) (AV.lit (Value.string ⟨#[32]⟩))) ∧
  (∃ r769 : AV, ((Fn Tryd.prog 31 [(AV.cel x0 2)] Sh.sc r769) ∧
  ((AV.binOk Go.BinOp.add (AV.bin Go.BinOp.add (AV.refNth (AV.mkRef [(AV.lit (Value.string ⟨#[72, 69, 73, 71, 72, 84]⟩)), (AV.lit (Value.string ⟨#[72, 69, 65, 68, 73, 78, 71]⟩)), (AV.lit (Value.string ⟨#[83, 80, 69, 69, 68]⟩)), (AV.lit (Value.string ⟨#[68, 73, 82, 69, 67, 84]⟩)), (AV.lit (Value.string ⟨#[72, 79, 76, 68]⟩)), (AV.lit (Value.string ⟨#[67, 79, 78, 84, 65, 67, 84]⟩)), (AV.lit (Value.string ⟨#[76, 65, 78, 68]⟩))]) 0 [((AV.cel x0 1), 1)]) (AV.lit (Value.string ⟨#[32]⟩))) r769) ∧
  ((AV.flat (AV.bin Go.BinOp.add (AV.bin Go.BinOp.add (AV.refNth (AV.mkRef [(AV.lit (Value.string ⟨#[72, 69, 73, 71, 72, 84]⟩)), (AV.lit (Value.string ⟨#[72, 69, 65, 68, 73, 78, 71]⟩)), (AV.lit (Value.string ⟨#[83, 80, 69, 69, 68]⟩)), (AV.lit (Value.string ⟨#[68, 73, 82, 69, 67, 84]⟩)), (AV.lit (Value.string ⟨#[72, 79, 76, 68]⟩)), (AV.lit (Value.string ⟨#[67, 79, 78, 84, 65, 67, 84]⟩)), (AV.lit (Value.string ⟨#[76, 65, 78, 68]⟩))]) 0 [((AV.cel x0 1), 1)]) (AV.lit (Value.string ⟨#[32]⟩))) r769)) ∧
  (fSame (AV.bin Go.BinOp.add (AV.bin Go.BinOp.add (AV.refNth (AV.mkRef [(AV.lit (Value.string ⟨#[72, 69, 73, 71, 72, 84]⟩)), (AV.lit (Value.string ⟨#[72, 69, 65, 68, 73, 78, 71]⟩)), (AV.lit (Value.string ⟨#[83, 80, 69, 69, 68]⟩)), (AV.lit (Value.string ⟨#[68, 73, 82, 69, 67, 84]⟩)), (AV.lit (Value.string ⟨#[72, 79, 76, 68]⟩)), (AV.lit (Value.string ⟨#[67, 79, 78, 84, 65, 67, 84]⟩)), (AV.lit (Value.string ⟨#[76, 65, 78, 68]⟩))]) 0 [((AV.cel x0 1), 1)]) (AV.lit (Value.string ⟨#[32]⟩))) r769) r))))))))))))))) := by kernel_rfl
theorem print_form (x0 r : AV) : fnF Tryd.prog Γ ann 3 6 Tryd.f6 (Tryd.f6.body.getD .skip) (.nil) [x0] (.tup [.sc, .sc]) r = (((AV.isAgg x0 4) ∧
(∃ r257 : AV, ((Fn Tryd.prog 9 [(AV.agg [(AV.cel x0 0), (AV.cel x0 1), (AV.cel x0 2), (AV.cel x0 3)])] Sh.sc r257) ∧
((AV.binOk Go.BinOp.neq r257 (AV.int 0)) ∧
((AV.isBool (AV.bin Go.BinOp.neq r257 (AV.int 0))) ∧
(((isT (AV.bin Go.BinOp.neq r257 (AV.int 0))) →
  ((AV.flat (AV.lit (Value.string ⟨#[]⟩))) ∧
  ((AV.flat r257) ∧
  (fSame (AV.tup [(AV.lit (Value.string ⟨#[]⟩)), r257]) r)))) ∧
((isF (AV.bin Go.BinOp.neq r257 (AV.int 0))) →
  ((AV.binOk Go.BinOp.add (AV.cel x0 0) (AV.lit (Value.string ⟨#[32]⟩))) ∧
  (∃ r769 : AV, ((Fn Tryd.prog 18 [(AV.agg [(AV.cel x0 0), (AV.cel x0 1), (AV.cel x0 2), (AV.cel x0 3)])] Sh.sc r769) ∧
  ((AV.binOk Go.BinOp.add (AV.bin Go.BinOp.add (AV.cel x0 0) (AV.lit (Value.string ⟨#[32]⟩))) r769) ∧
  ((AV.flat (AV.bin Go.BinOp.add (AV.bin Go.BinOp.add (AV.cel x0 0) (AV.lit (Value.string ⟨#[32]⟩))) r769)) ∧
  ((AV.flat (AV.int 0)) ∧
  (fSame (AV.tup [(AV.bin Go.BinOp.add (AV.bin Go.BinOp.add (AV.cel x0 0) (AV.lit (Value.string ⟨#[32]⟩))) r769), (AV.int 0)]) r))))))))))))))) := by kernel_rfl
theorem back_form (x0 r : AV) : fnF Tryd.prog Γ ann 3 7 Tryd.f7 (Tryd.f7.body.getD .skip) (.nil) [x0] (.tup [.sc, .sc]) r = (((AV.isAgg x0 4) ∧
(∃ r257 : AV, ((Fn Tryd.prog 9 [(AV.agg [(AV.cel x0 0), (AV.cel x0 1), (AV.cel x0 2), (AV.cel x0 3)])] Sh.sc r257) ∧
((AV.binOk Go.BinOp.neq r257 (AV.int 0)) ∧
((AV.isBool (AV.bin Go.BinOp.neq r257 (AV.int 0))) ∧
(((isT (AV.bin Go.BinOp.neq r257 (AV.int 0))) →
  ((AV.flat (AV.lit (Value.string ⟨#[]⟩))) ∧
  ((AV.flat r257) ∧
  (fSame (AV.tup [(AV.lit (Value.string ⟨#[]⟩)), r257]) r)))) ∧
((isF (AV.bin Go.BinOp.neq r257 (AV.int 0))) →
  (∃ r577 : AV, ((Fn Tryd.prog 18 [(AV.agg [(AV.cel x0 0), (AV.cel x0 1), (AV.cel x0 2), (AV.cel x0 3)])] Sh.sc r577) ∧
  ((AV.binOk Go.BinOp.add r577 (AV.lit (Value.string ⟨#[32]⟩))) ∧
  ((AV.binOk Go.BinOp.add (AV.bin Go.BinOp.add r577 (AV.lit (Value.string ⟨#[32]⟩))) (AV.cel x0 0)) ∧
  ((AV.flat (AV.bin Go.BinOp.add (AV.bin Go.BinOp.add r577 (AV.lit (Value.string ⟨#[32]⟩))) (AV.cel x0 0))) ∧
  ((AV.flat (AV.int 0)) ∧
  (fSame (AV.tup [(AV.bin Go.BinOp.add (AV.bin Go.BinOp.add r577 (AV.lit (Value.string ⟨#[32]⟩))) (AV.cel x0 0)), (AV.int 0)]) r))))))))))))))) := by kernel_rfl
theorem read_form (x0 x1 x2 r : AV) : fnF Tryd.prog Γ ann 3 26 Tryd.f26 (Tryd.f26.body.getD .skip) (.nil) [x0, x1, x2] (.tup [.sc, .sc]) r = ((∃ r257 : AV, ((Fn Tryd.prog 34 [x1] Sh.sc r257) ∧
((AV.isOne x0) ∧
((AV.isOne r257) ∧
((AV.binOk Go.BinOp.lss r257 (AV.int 0)) ∧
((AV.isBool (AV.bin Go.BinOp.lss r257 (AV.int 0))) ∧
(((isT (AV.bin Go.BinOp.lss r257 (AV.int 0))) →
  ((AV.flat (AV.agg [x0, r257, (AV.int 0), (AV.lit (Value.string ⟨#[]⟩))])) ∧
  ((AV.flat (AV.bool false)) ∧
  (fSame (AV.tup [(AV.agg [x0, r257, (AV.int 0), (AV.lit (Value.string ⟨#[]⟩))]), (AV.bool false)]) r)))) ∧
((isF (AV.bin Go.BinOp.lss r257 (AV.int 0))) →
  ((AV.binOk Go.BinOp.gtr r257 (AV.int 2)) ∧
  ((AV.isBool (AV.bin Go.BinOp.gtr r257 (AV.int 2))) ∧
  (((isT (AV.bin Go.BinOp.gtr r257 (AV.int 2))) →
    ((AV.isOne x2) ∧
    ((AV.flat (AV.agg [x0, r257, (AV.int 0), x2])) ∧
    ((AV.flat (AV.bool true)) ∧
    (fSame (AV.tup [(AV.agg [x0, r257, (AV.int 0), x2]), (AV.bool true)]) r))))) ∧
  ((isF (AV.bin Go.BinOp.gtr r257 (AV.int 2))) →
    (∃ r1089 : AV, ((Fn Tryd.prog 40 [x2] (Sh.tup [Sh.sc, Sh.sc]) r1089) ∧
    ((AV.isOne (AV.prj r1089 0)) ∧
    ((AV.isNI (AV.prj r1089 1)) ∧
    (∃ r1985 : AV, ((Fn Tryd.prog 31 [(AV.prj r1089 0)] Sh.sc r1985) ∧
    ((AV.binOk Go.BinOp.eql r1985 x2) ∧
    ((AV.flat (AV.agg [x0, r257, (AV.prj r1089 0), (AV.lit (Value.string ⟨#[]⟩))])) ∧
    ((AV.flat (AV.bin Go.BinOp.eql r1985 x2)) ∧
    (fSame (AV.tup [(AV.agg [x0, r257, (AV.prj r1089 0), (AV.lit (Value.string ⟨#[]⟩))]), (AV.bin Go.BinOp.eql r1985 x2)]) r))))))))))))))))))))))) := by kernel_rfl
theorem parse_form (x0 r : AV) : fnF Tryd.prog Γ ann 3 13 Tryd.f13 (Tryd.f13.body.getD .skip) ((.both .nil (.both .nil (.both .nil (.f .nil))))) [x0] (.tup [.sc, .sc, .sc]) r = (((AV.isStr x0) ∧
((AV.binOk Go.BinOp.gtr (AV.slen x0) (AV.int 120)) ∧
((AV.isBool (AV.bin Go.BinOp.gtr (AV.slen x0) (AV.int 120))) ∧
(((isT (AV.bin Go.BinOp.gtr (AV.slen x0) (AV.int 120))) →
  ((AV.flat (AV.agg [(AV.lit (Value.string ⟨#[]⟩)), (AV.int 0), (AV.int 0), (AV.lit (Value.string ⟨#[]⟩))])) ∧
  ((AV.flat (AV.bool false)) ∧
  ((AV.flat (AV.int 2)) ∧
  (fSame (AV.tup [(AV.agg [(AV.lit (Value.string ⟨#[]⟩)), (AV.int 0), (AV.int 0), (AV.lit (Value.string ⟨#[]⟩))]), (AV.bool false), (AV.int 2)]) r))))) ∧
((isF (AV.bin Go.BinOp.gtr (AV.slen x0) (AV.int 120))) →
  (∃ r449 : AV, ((Fn Tryd.prog 25 [x0, (AV.lit (Value.string ⟨#[32]⟩))] (Sh.row 9 1 true) r449) ∧
  ((AV.binOk Go.BinOp.neq (AV.len r449) (AV.int 3)) ∧
  ((AV.isBool (AV.bin Go.BinOp.neq (AV.len r449) (AV.int 3))) ∧
  (((isT (AV.bin Go.BinOp.neq (AV.len r449) (AV.int 3))) →
    ((AV.flat (AV.agg [(AV.lit (Value.string ⟨#[]⟩)), (AV.int 0), (AV.int 0), (AV.lit (Value.string ⟨#[]⟩))])) ∧
    ((AV.flat (AV.bool false)) ∧
    ((AV.flat (AV.int 5)) ∧
    (fSame (AV.tup [(AV.agg [(AV.lit (Value.string ⟨#[]⟩)), (AV.int 0), (AV.int 0), (AV.lit (Value.string ⟨#[]⟩))]), (AV.bool false), (AV.int 5)]) r))))) ∧
  ((isF (AV.bin Go.BinOp.neq (AV.len r449) (AV.int 3))) →
    ((AV.inb r449 (AV.int 0)) ∧
    ((AV.inb r449 (AV.int 0)) ∧
    ((AV.inb r449 (AV.int 1)) ∧
    ((AV.inb r449 (AV.int 1)) ∧
    ((AV.inb r449 (AV.int 2)) ∧
    ((AV.inb r449 (AV.int 2)) ∧
    (∃ r1409 : AV, ((Fn Tryd.prog 26 [(AV.at r449 (AV.int 0) 0), (AV.at r449 (AV.int 1) 0), (AV.at r449 (AV.int 2) 0)] (Sh.tup [Sh.sc, Sh.sc]) r1409) ∧
    ((AV.isAgg (AV.prj r1409 0) 4) ∧
    ((AV.unOk Go.UnOp.not (AV.prj r1409 1)) ∧
    ((AV.isBool (AV.un Go.UnOp.not (AV.prj r1409 1))) ∧
    (((isT (AV.un Go.UnOp.not (AV.prj r1409 1))) →
      ((AV.inb r449 (AV.int 2)) ∧
      ((AV.inb r449 (AV.int 2)) ∧
      ((AV.inb r449 (AV.int 0)) ∧
      ((AV.inb r449 (AV.int 0)) ∧
      ((AV.inb r449 (AV.int 1)) ∧
      ((AV.inb r449 (AV.int 1)) ∧
      (∃ r2561 : AV, ((Fn Tryd.prog 26 [(AV.at r449 (AV.int 2) 0), (AV.at r449 (AV.int 0) 0), (AV.at r449 (AV.int 1) 0)] (Sh.tup [Sh.sc, Sh.sc]) r2561) ∧
      ((AV.isAgg (AV.prj r2561 0) 4) ∧
      ((AV.unOk Go.UnOp.not (AV.prj r2561 1)) ∧
      ((AV.isBool (AV.un Go.UnOp.not (AV.prj r2561 1))) ∧
      (((isT (AV.un Go.UnOp.not (AV.prj r2561 1))) →
        ((AV.flat (AV.agg [(AV.lit (Value.string ⟨#[]⟩)), (AV.int 0), (AV.int 0), (AV.lit (Value.string ⟨#[]⟩))])) ∧
        ((AV.flat (AV.bool false)) ∧
        ((AV.flat (AV.int 5)) ∧
        (fSame (AV.tup [(AV.agg [(AV.lit (Value.string ⟨#[]⟩)), (AV.int 0), (AV.int 0), (AV.lit (Value.string ⟨#[]⟩))]), (AV.bool false), (AV.int 5)]) r))))) ∧
      ((isF (AV.un Go.UnOp.not (AV.prj r2561 1))) →
        (∃ r3201 : AV, ((Fn Tryd.prog 9 [(AV.agg [(AV.cel (AV.prj r2561 0) 0), (AV.cel (AV.prj r2561 0) 1), (AV.cel (AV.prj r2561 0) 2), (AV.cel (AV.prj r2561 0) 3)])] Sh.sc r3201) ∧
        ((AV.binOk Go.BinOp.neq r3201 (AV.int 0)) ∧
        ((AV.isBool (AV.bin Go.BinOp.neq r3201 (AV.int 0))) ∧
        (((isT (AV.bin Go.BinOp.neq r3201 (AV.int 0))) →
          ((AV.flat (AV.agg [(AV.lit (Value.string ⟨#[]⟩)), (AV.int 0), (AV.int 0), (AV.lit (Value.string ⟨#[]⟩))])) ∧
          ((AV.flat (AV.bool false)) ∧
          ((AV.flat r3201) ∧
          (fSame (AV.tup [(AV.agg [(AV.lit (Value.string ⟨#[]⟩)), (AV.int 0), (AV.int 0), (AV.lit (Value.string ⟨#[]⟩))]), (AV.bool false), r3201]) r))))) ∧
        ((isF (AV.bin Go.BinOp.neq r3201 (AV.int 0))) →
          ((AV.flat (AV.agg [(AV.cel (AV.prj r2561 0) 0), (AV.cel (AV.prj r2561 0) 1), (AV.cel (AV.prj r2561 0) 2), (AV.cel (AV.prj r2561 0) 3)])) ∧
          ((AV.flat (AV.bool true)) ∧
          ((AV.flat (AV.int 0)) ∧
          (fSame (AV.tup [(AV.agg [(AV.cel (AV.prj r2561 0) 0), (AV.cel (AV.prj r2561 0) 1), (AV.cel (AV.prj r2561 0) 2), (AV.cel (AV.prj r2561 0) 3)]), (AV.bool true), (AV.int 0)]) r)))))))))))))))))))))))) ∧
    ((isF (AV.un Go.UnOp.not (AV.prj r1409 1))) →
      ((AV.unOk Go.UnOp.not (AV.prj r1409 1)) ∧
      ((AV.isBool (AV.un Go.UnOp.not (AV.prj r1409 1))) ∧
      ((isF (AV.un Go.UnOp.not (AV.prj r1409 1))) ∧
      (∃ r2177 : AV, ((Fn Tryd.prog 9 [(AV.agg [(AV.cel (AV.prj r1409 0) 0), (AV.cel (AV.prj r1409 0) 1), (AV.cel (AV.prj r1409 0) 2), (AV.cel (AV.prj r1409 0) 3)])] Sh.sc r2177) ∧
      ((AV.binOk Go.BinOp.neq r2177 (AV.int 0)) ∧
      ((AV.isBool (AV.bin Go.BinOp.neq r2177 (AV.int 0))) ∧
      (((isT (AV.bin Go.BinOp.neq r2177 (AV.int 0))) →
        ((AV.flat (AV.agg [(AV.lit (Value.string ⟨#[]⟩)), (AV.int 0), (AV.int 0), (AV.lit (Value.string ⟨#[]⟩))])) ∧
        ((AV.flat (AV.bool false)) ∧
        ((AV.flat r2177) ∧
        (fSame (AV.tup [(AV.agg [(AV.lit (Value.string ⟨#[]⟩)), (AV.int 0), (AV.int 0), (AV.lit (Value.string ⟨#[]⟩))]), (AV.bool false), r2177]) r))))) ∧
      ((isF (AV.bin Go.BinOp.neq r2177 (AV.int 0))) →
        ((AV.flat (AV.agg [(AV.cel (AV.prj r1409 0) 0), (AV.cel (AV.prj r1409 0) 1), (AV.cel (AV.prj r1409 0) 2), (AV.cel (AV.prj r1409 0) 3)])) ∧
        ((AV.flat (AV.bool false)) ∧
        ((AV.flat (AV.int 0)) ∧
        (fSame (AV.tup [(AV.agg [(AV.cel (AV.prj r1409 0) 0), (AV.cel (AV.prj r1409 0) 1), (AV.cel (AV.prj r1409 0) 2), (AV.cel (AV.prj r1409 0) 3)]), (AV.bool false), (AV.int 0)]) r)))))))))))))))))))))))))))))))))))))) := by kernel_rfl
theorem dec_form (x0 r : AV) : fnF Tryd.prog Γ ann 3 21 Tryd.f21 (Tryd.f21.body.getD .skip) (.nil) [x0] (.sc) r = (((AV.binOk Go.BinOp.lss x0 (AV.int 0)) ∧
((AV.isBool (AV.bin Go.BinOp.lss x0 (AV.int 0))) ∧
(((isT (AV.bin Go.BinOp.lss x0 (AV.int 0))) →
  ((AV.unOk Go.UnOp.neg x0) ∧
  (∃ r321 : AV, ((Fn Tryd.prog 21 [(AV.un Go.UnOp.neg x0)] Sh.sc r321) ∧
  ((AV.binOk Go.BinOp.add (AV.lit (Value.string ⟨#[45]⟩)) r321) ∧
  ((AV.flat (AV.bin Go.BinOp.add (AV.lit (Value.string ⟨#[45]⟩)) r321)) ∧
  (fSame (AV.bin Go.BinOp.add (AV.lit (Value.string ⟨#[45]⟩)) r321) r))))))) ∧
((isF (AV.bin Go.BinOp.lss x0 (AV.int 0))) →
  ((AV.binOk Go.BinOp.lss x0 (AV.int 10)) ∧
  ((AV.isBool (AV.bin Go.BinOp.lss x0 (AV.int 10))) ∧
  (((isT (AV.bin Go.BinOp.lss x0 (AV.int 10))) →
    ((AV.binOk Go.BinOp.add x0 (AV.int 1)) ∧
    ((AV.isStr (AV.lit (Value.string ⟨#[48, 49, 50, 51, 52, 53, 54, 55, 56, 57]⟩))) ∧
    ((AV.ssubOk (AV.lit (Value.string ⟨#[48, 49, 50, 51, 52, 53, 54, 55, 56, 57]⟩)) x0 (AV.bin Go.BinOp.add x0 (AV.int 1))) ∧
    ((AV.flat (AV.ssub (AV.lit (Value.string ⟨#[48, 49, 50, 51, 52, 53, 54, 55, 56, 57]⟩)) x0 (AV.bin Go.BinOp.add x0 (AV.int 1)))) ∧
    (fSame (AV.ssub (AV.lit (Value.string ⟨#[48, 49, 50, 51, 52, 53, 54, 55, 56, 57]⟩)) x0 (AV.bin Go.BinOp.add x0 (AV.int 1))) r)))))) ∧
  ((isF (AV.bin Go.BinOp.lss x0 (AV.int 10))) →
    ((AV.binOk Go.BinOp.quo x0 (AV.int 10)) ∧
    (∃ r449 : AV, ((Fn Tryd.prog 21 [(AV.bin Go.BinOp.quo x0 (AV.int 10))] Sh.sc r449) ∧
    ((AV.binOk Go.BinOp.rem x0 (AV.int 10)) ∧
    (∃ r641 : AV, ((Fn Tryd.prog 21 [(AV.bin Go.BinOp.rem x0 (AV.int 10))] Sh.sc r641) ∧
    ((AV.binOk Go.BinOp.add r449 r641) ∧
    ((AV.flat (AV.bin Go.BinOp.add r449 r641)) ∧
    (fSame (AV.bin Go.BinOp.add r449 r641) r)))))))))))))))))) := by kernel_rfl
theorem text_form (x0 x1 r : AV) : fnF Tryd.prog Γ ann 3 10 Tryd.f10 (Tryd.f10.body.getD .skip) (.nil) [x0, x1] (.sc) r = (((AV.isAgg x0 4) ∧
((AV.binOk Go.BinOp.lss (AV.cel x0 1) (AV.int 3)) ∧
((AV.isBool (AV.bin Go.BinOp.lss (AV.cel x0 1) (AV.int 3))) ∧
(((isT (AV.bin Go.BinOp.lss (AV.cel x0 1) (AV.int 3))) →
  (∃ r641 : AV, ((Fn Tryd.prog 21 [(AV.cel x0 2)] Sh.sc r641) ∧
  (∃ r897 : AV, ((Fn Tryd.prog 22 [(AV.cel x0 1)] Sh.sc r897) ∧
  ((AV.binOk Go.BinOp.add r897 (AV.lit (Value.string ⟨#[32]⟩))) ∧
  ((AV.binOk Go.BinOp.add (AV.bin Go.BinOp.add r897 (AV.lit (Value.string ⟨#[32]⟩))) r641) ∧
  ((AV.isBool x1) ∧
  (((isT x1) →
    ((AV.binOk Go.BinOp.add (AV.bin Go.BinOp.add (AV.bin Go.BinOp.add r897 (AV.lit (Value.string ⟨#[32]⟩))) r641) (AV.lit (Value.string ⟨#[32]⟩))) ∧
    ((AV.binOk Go.BinOp.add (AV.bin Go.BinOp.add (AV.bin Go.BinOp.add (AV.bin Go.BinOp.add r897 (AV.lit (Value.string ⟨#[32]⟩))) r641) (AV.lit (Value.string ⟨#[32]⟩))) (AV.cel x0 0)) ∧
    ((AV.flat (AV.bin Go.BinOp.add (AV.bin Go.BinOp.add (AV.bin Go.BinOp.add (AV.bin Go.BinOp.add r897 (AV.lit (Value.string ⟨#[32]⟩))) r641) (AV.lit (Value.string ⟨#[32]⟩))) (AV.cel x0 0))) ∧
    (fSame (AV.bin Go.BinOp.add (AV.bin Go.BinOp.add (AV.bin Go.BinOp.add (AV.bin Go.BinOp.add r897 (AV.lit (Value.string ⟨#[32]⟩))) r641) (AV.lit (Value.string ⟨#[32]⟩))) (AV.cel x0 0)) r))))) ∧
  ((isF x1) →
    ((AV.binOk Go.BinOp.add (AV.cel x0 0) (AV.lit (Value.string ⟨#[32]⟩))) ∧
    ((AV.binOk Go.BinOp.add (AV.bin Go.BinOp.add (AV.cel x0 0) (AV.lit (Value.string ⟨#[32]⟩))) (AV.bin Go.BinOp.add (AV.bin Go.BinOp.add r897 (AV.lit (Value.string ⟨#[32]⟩))) r641)) ∧
    ((AV.flat (AV.bin Go.BinOp.add (AV.bin Go.BinOp.add (AV.cel x0 0) (AV.lit (Value.string ⟨#[32]⟩))) (AV.bin Go.BinOp.add (AV.bin Go.BinOp.add r897 (AV.lit (Value.string ⟨#[32]⟩))) r641))) ∧
    (fSame (AV.bin Go.BinOp.add (AV.bin Go.BinOp.add (AV.cel x0 0) (AV.lit (Value.string ⟨#[32]⟩))) (AV.bin Go.BinOp.add (AV.bin Go.BinOp.add r897 (AV.lit (Value.string ⟨#[32]⟩))) r641)) r)))))))))))))) ∧
((isF (AV.bin Go.BinOp.lss (AV.cel x0 1) (AV.int 3))) →
  (∃ r641 : AV, ((Fn Tryd.prog 22 [(AV.cel x0 1)] Sh.sc r641) ∧
  ((AV.binOk Go.BinOp.add r641 (AV.lit (Value.string ⟨#[32]⟩))) ∧
  ((AV.binOk Go.BinOp.add (AV.bin Go.BinOp.add r641 (AV.lit (Value.string ⟨#[32]⟩))) (AV.cel x0 3)) ∧
  ((AV.isBool x1) ∧
  (((isT x1) →
    ((AV.binOk Go.BinOp.add (AV.bin Go.BinOp.add (AV.bin Go.BinOp.add r641 (AV.lit (Value.string ⟨#[32]⟩))) (AV.cel x0 3)) (AV.lit (Value.string ⟨#[32]⟩))) ∧
    ((AV.binOk Go.BinOp.add (AV.bin Go.BinOp.add (AV.bin Go.BinOp.add (AV.bin Go.BinOp.add r641 (AV.lit (Value.string ⟨#[32]⟩))) (AV.cel x0 3)) (AV.lit (Value.string ⟨#[32]⟩))) (AV.cel x0 0)) ∧
    ((AV.flat (AV.bin Go.BinOp.add (AV.bin Go.BinOp.add (AV.bin Go.BinOp.add (AV.bin Go.BinOp.add r641 (AV.lit (Value.string ⟨#[32]⟩))) (AV.cel x0 3)) (AV.lit (Value.string ⟨#[32]⟩))) (AV.cel x0 0))) ∧
    (fSame (AV.bin Go.BinOp.add (AV.bin Go.BinOp.add (AV.bin Go.BinOp.add (AV.bin Go.BinOp.add r641 (AV.lit (Value.string ⟨#[32]⟩))) (AV.cel x0 3)) (AV.lit (Value.string ⟨#[32]⟩))) (AV.cel x0 0)) r))))) ∧
  ((isF x1) →
    ((AV.binOk Go.BinOp.add (AV.cel x0 0) (AV.lit (Value.string ⟨#[32]⟩))) ∧
    ((AV.binOk Go.BinOp.add (AV.bin Go.BinOp.add (AV.cel x0 0) (AV.lit (Value.string ⟨#[32]⟩))) (AV.bin Go.BinOp.add (AV.bin Go.BinOp.add r641 (AV.lit (Value.string ⟨#[32]⟩))) (AV.cel x0 3))) ∧
    ((AV.flat (AV.bin Go.BinOp.add (AV.bin Go.BinOp.add (AV.cel x0 0) (AV.lit (Value.string ⟨#[32]⟩))) (AV.bin Go.BinOp.add (AV.bin Go.BinOp.add r641 (AV.lit (Value.string ⟨#[32]⟩))) (AV.cel x0 3)))) ∧
    (fSame (AV.bin Go.BinOp.add (AV.bin Go.BinOp.add (AV.cel x0 0) (AV.lit (Value.string ⟨#[32]⟩))) (AV.bin Go.BinOp.add (AV.bin Go.BinOp.add r641 (AV.lit (Value.string ⟨#[32]⟩))) (AV.cel x0 3))) r))))))))))))))))) := by kernel_rfl
theorem verbs_form ( r : AV) : fnF Tryd.prog Γ ann 3 38 Tryd.f38 (Tryd.f38.body.getD .skip) (.nil) [] (.row 9 1 true) r = (((AV.flatS (AV.mk 1 [[(AV.lit (Value.string ⟨#[104, 101, 105, 103, 104, 116]⟩))], [(AV.lit (Value.string ⟨#[104, 101, 97, 100, 105, 110, 103]⟩))], [(AV.lit (Value.string ⟨#[115, 112, 101, 101, 100]⟩))], [(AV.lit (Value.string ⟨#[100, 105, 114, 101, 99, 116]⟩))], [(AV.lit (Value.string ⟨#[104, 111, 108, 100]⟩))], [(AV.lit (Value.string ⟨#[99, 111, 110, 116, 97, 99, 116]⟩))], [(AV.lit (Value.string ⟨#[108, 97, 110, 100]⟩))], [(AV.lit (Value.string ⟨#[111, 102, 102, 101, 114]⟩))], [(AV.lit (Value.string ⟨#[97, 99, 99, 101, 112, 116]⟩))], [(AV.lit (Value.string ⟨#[100, 114, 111, 112]⟩))]])) ∧
(fSame (AV.mk 1 [[(AV.lit (Value.string ⟨#[104, 101, 105, 103, 104, 116]⟩))], [(AV.lit (Value.string ⟨#[104, 101, 97, 100, 105, 110, 103]⟩))], [(AV.lit (Value.string ⟨#[115, 112, 101, 101, 100]⟩))], [(AV.lit (Value.string ⟨#[100, 105, 114, 101, 99, 116]⟩))], [(AV.lit (Value.string ⟨#[104, 111, 108, 100]⟩))], [(AV.lit (Value.string ⟨#[99, 111, 110, 116, 97, 99, 116]⟩))], [(AV.lit (Value.string ⟨#[108, 97, 110, 100]⟩))], [(AV.lit (Value.string ⟨#[111, 102, 102, 101, 114]⟩))], [(AV.lit (Value.string ⟨#[97, 99, 99, 101, 112, 116]⟩))], [(AV.lit (Value.string ⟨#[100, 114, 111, 112]⟩))]]) r))) := by kernel_rfl
theorem verb_form (x0 r : AV) : fnF Tryd.prog Γ ann 3 24 Tryd.f24 (Tryd.f24.body.getD .skip) (.nil) [x0] (.sc) r = ((∃ r65 : AV, ((Fn Tryd.prog 38 [] (Sh.row 9 1 true) r65) ∧
((fEnt Tryd.prog 37) ∧
(fAllV fun _ => (fLoop 513 [(AV.int 0)] fun ys513 again513 =>
  ((AV.binOk Go.BinOp.lss (ys513.getD 0 default) (AV.len r65)) ∧
  ((AV.isBool (AV.bin Go.BinOp.lss (ys513.getD 0 default) (AV.len r65))) ∧
  (((isT (AV.bin Go.BinOp.lss (ys513.getD 0 default) (AV.len r65))) →
    ((AV.inb r65 (ys513.getD 0 default)) ∧
    ((AV.inb r65 (ys513.getD 0 default)) ∧
    ((AV.binOk Go.BinOp.eql x0 (AV.at r65 (ys513.getD 0 default) 0)) ∧
    ((AV.isBool (AV.bin Go.BinOp.eql x0 (AV.at r65 (ys513.getD 0 default) 0))) ∧
    (((isT (AV.bin Go.BinOp.eql x0 (AV.at r65 (ys513.getD 0 default) 0))) →
      ((AV.flat (ys513.getD 0 default)) ∧
      (fSame (ys513.getD 0 default) r))) ∧
    ((isF (AV.bin Go.BinOp.eql x0 (AV.at r65 (ys513.getD 0 default) 0))) →
      ((AV.binOk Go.BinOp.add (ys513.getD 0 default) (AV.int 1)) ∧
      (again513 [(AV.bin Go.BinOp.add (ys513.getD 0 default) (AV.int 1))]))))))))) ∧
  ((isF (AV.bin Go.BinOp.lss (ys513.getD 0 default) (AV.len r65))) →
    ((AV.flat (AV.int (-1))) ∧
    (fSame (AV.int (-1)) r)))))))))))) := by kernel_rfl
theorem ccheck_form (x0 r : AV) : fnF Tryd.prog Γ ann 3 23 Tryd.f23 (Tryd.f23.body.getD .skip) ((.both .nil (.both .nil (.both (.both (.both .nil (.t (.f (.t (.both .nil (.f .nil)))))) (.t (.t (.both .nil (.t (.both .nil (.f .nil))))))) (.f (.both .nil (.f (.t .nil)))))))) [x0] (.sc) r = (((AV.isAgg x0 4) ∧
(∃ r257 : AV, ((Fn Tryd.prog 24 [(AV.cel x0 0)] Sh.sc r257) ∧
((AV.binOk Go.BinOp.lss r257 (AV.int 0)) ∧
((AV.isBool (AV.bin Go.BinOp.lss r257 (AV.int 0))) ∧
(((isT (AV.bin Go.BinOp.lss r257 (AV.int 0))) →
  ((AV.flat (AV.int 5)) ∧
  (fSame (AV.int 5) r))) ∧
((isF (AV.bin Go.BinOp.lss r257 (AV.int 0))) →
  (∃ r705 : AV, ((Fn Tryd.prog 33 [(AV.cel x0 1)] Sh.sc r705) ∧
  ((AV.unOk Go.UnOp.not r705) ∧
  ((AV.isBool (AV.un Go.UnOp.not r705)) ∧
  (((isT (AV.un Go.UnOp.not r705)) →
    ((AV.isBool (AV.un Go.UnOp.not r705)) ∧
    ((isT (AV.un Go.UnOp.not r705)) ∧
    ((AV.flat (AV.int 6)) ∧
    (fSame (AV.int 6) r))))) ∧
  ((isF (AV.un Go.UnOp.not r705)) →
    ((fEnt Tryd.prog 35) ∧
    (fAllV fun _ => ((AV.binOk Go.BinOp.gtr r257 (AV.int 2)) ∧
    ((AV.isBool (AV.bin Go.BinOp.gtr r257 (AV.int 2))) ∧
    (((isT (AV.bin Go.BinOp.gtr r257 (AV.int 2))) →
      ((AV.binOk Go.BinOp.leq r257 (AV.int 7)) ∧
      ((AV.isBool (AV.bin Go.BinOp.gtr r257 (AV.int 2))) ∧
      ((isT (AV.bin Go.BinOp.gtr r257 (AV.int 2))) ∧
      ((AV.isBool (AV.bin Go.BinOp.leq r257 (AV.int 7))) ∧
      (((isT (AV.bin Go.BinOp.leq r257 (AV.int 7))) →
        (∃ r1793 : AV, ((Fn Tryd.prog 33 [(AV.cel x0 3)] Sh.sc r1793) ∧
        ((AV.unOk Go.UnOp.not r1793) ∧
        ((AV.isBool (AV.bin Go.BinOp.leq r257 (AV.int 7))) ∧
        ((isT (AV.bin Go.BinOp.leq r257 (AV.int 7))) ∧
        ((AV.isBool (AV.un Go.UnOp.not r705)) ∧
        ((isF (AV.un Go.UnOp.not r705)) ∧
        ((AV.isBool (AV.un Go.UnOp.not r1793)) ∧
        (((isT (AV.un Go.UnOp.not r1793)) →
          ((AV.flat (AV.int 6)) ∧
          (fSame (AV.int 6) r))) ∧
        ((isF (AV.un Go.UnOp.not r1793)) →
          ((fEnt Tryd.prog 35) ∧
          (fAllV fun _ => ((AV.binOk Go.BinOp.gtr r257 (AV.int 2)) ∧
          ((AV.isBool (AV.bin Go.BinOp.gtr r257 (AV.int 2))) ∧
          ((isT (AV.bin Go.BinOp.gtr r257 (AV.int 2))) ∧
          ((AV.binOk Go.BinOp.leq r257 (AV.int 7)) ∧
          ((AV.isBool (AV.bin Go.BinOp.gtr r257 (AV.int 2))) ∧
          ((isT (AV.bin Go.BinOp.gtr r257 (AV.int 2))) ∧
          ((AV.unOk Go.UnOp.not (AV.bin Go.BinOp.leq r257 (AV.int 7))) ∧
          ((AV.isBool (AV.un Go.UnOp.not (AV.bin Go.BinOp.leq r257 (AV.int 7)))) ∧
          ((isF (AV.un Go.UnOp.not (AV.bin Go.BinOp.leq r257 (AV.int 7)))) ∧
          ((AV.isBool (AV.un Go.UnOp.not (AV.bin Go.BinOp.leq r257 (AV.int 7)))) ∧
          ((isF (AV.un Go.UnOp.not (AV.bin Go.BinOp.leq r257 (AV.int 7)))) ∧
          ((fEnt Tryd.prog 36) ∧
          (fAllV fun _ => ((AV.binOk Go.BinOp.leq r257 (AV.int 2)) ∧
          ((AV.unOk Go.UnOp.not (AV.bin Go.BinOp.leq r257 (AV.int 2))) ∧
          ((AV.isBool (AV.un Go.UnOp.not (AV.bin Go.BinOp.leq r257 (AV.int 2)))) ∧
          ((isT (AV.un Go.UnOp.not (AV.bin Go.BinOp.leq r257 (AV.int 2)))) ∧
          ((AV.binOk Go.BinOp.neq (AV.cel x0 2) (AV.int 0)) ∧
          ((AV.isBool (AV.un Go.UnOp.not (AV.bin Go.BinOp.leq r257 (AV.int 2)))) ∧
          ((isT (AV.un Go.UnOp.not (AV.bin Go.BinOp.leq r257 (AV.int 2)))) ∧
          ((AV.isBool (AV.bin Go.BinOp.neq (AV.cel x0 2) (AV.int 0))) ∧
          (((isT (AV.bin Go.BinOp.neq (AV.cel x0 2) (AV.int 0))) →
            ((AV.flat (AV.int 3)) ∧
            (fSame (AV.int 3) r))) ∧
          ((isF (AV.bin Go.BinOp.neq (AV.cel x0 2) (AV.int 0))) →
            ((fEnt Tryd.prog 36) ∧
            (fAllV fun _ => ((AV.binOk Go.BinOp.leq r257 (AV.int 2)) ∧
            ((AV.isBool (AV.bin Go.BinOp.leq r257 (AV.int 2))) ∧
            ((isF (AV.bin Go.BinOp.leq r257 (AV.int 2))) ∧
            ((AV.flat (AV.int 0)) ∧
            (fSame (AV.int 0) r))))))))))))))))))))))))))))))))))))))))))) ∧
      ((isF (AV.bin Go.BinOp.leq r257 (AV.int 7))) →
        ((AV.isBool (AV.bin Go.BinOp.leq r257 (AV.int 7))) ∧
        ((isF (AV.bin Go.BinOp.leq r257 (AV.int 7))) ∧
        ((AV.isBool (AV.un Go.UnOp.not r705)) ∧
        ((isF (AV.un Go.UnOp.not r705)) ∧
        ((fEnt Tryd.prog 35) ∧
        (fAllV fun _ => ((AV.binOk Go.BinOp.gtr r257 (AV.int 2)) ∧
        ((AV.isBool (AV.bin Go.BinOp.gtr r257 (AV.int 2))) ∧
        ((isT (AV.bin Go.BinOp.gtr r257 (AV.int 2))) ∧
        ((AV.binOk Go.BinOp.leq r257 (AV.int 7)) ∧
        ((AV.isBool (AV.bin Go.BinOp.gtr r257 (AV.int 2))) ∧
        ((isT (AV.bin Go.BinOp.gtr r257 (AV.int 2))) ∧
        ((AV.unOk Go.UnOp.not (AV.bin Go.BinOp.leq r257 (AV.int 7))) ∧
        ((AV.isBool (AV.un Go.UnOp.not (AV.bin Go.BinOp.leq r257 (AV.int 7)))) ∧
        ((isT (AV.un Go.UnOp.not (AV.bin Go.BinOp.leq r257 (AV.int 7)))) ∧
        ((AV.binOk Go.BinOp.neq (AV.cel x0 3) (AV.lit (Value.string ⟨#[]⟩))) ∧
        ((AV.isBool (AV.un Go.UnOp.not (AV.bin Go.BinOp.leq r257 (AV.int 7)))) ∧
        ((isT (AV.un Go.UnOp.not (AV.bin Go.BinOp.leq r257 (AV.int 7)))) ∧
        ((AV.isBool (AV.bin Go.BinOp.neq (AV.cel x0 3) (AV.lit (Value.string ⟨#[]⟩)))) ∧
        (((isT (AV.bin Go.BinOp.neq (AV.cel x0 3) (AV.lit (Value.string ⟨#[]⟩)))) →
          ((AV.isBool (AV.bin Go.BinOp.neq (AV.cel x0 3) (AV.lit (Value.string ⟨#[]⟩)))) ∧
          ((isT (AV.bin Go.BinOp.neq (AV.cel x0 3) (AV.lit (Value.string ⟨#[]⟩)))) ∧
          ((AV.flat (AV.int 3)) ∧
          (fSame (AV.int 3) r))))) ∧
        ((isF (AV.bin Go.BinOp.neq (AV.cel x0 3) (AV.lit (Value.string ⟨#[]⟩)))) →
          ((fEnt Tryd.prog 36) ∧
          (fAllV fun _ => ((AV.binOk Go.BinOp.leq r257 (AV.int 2)) ∧
          ((AV.unOk Go.UnOp.not (AV.bin Go.BinOp.leq r257 (AV.int 2))) ∧
          ((AV.isBool (AV.un Go.UnOp.not (AV.bin Go.BinOp.leq r257 (AV.int 2)))) ∧
          ((isT (AV.un Go.UnOp.not (AV.bin Go.BinOp.leq r257 (AV.int 2)))) ∧
          ((AV.binOk Go.BinOp.neq (AV.cel x0 2) (AV.int 0)) ∧
          ((AV.isBool (AV.un Go.UnOp.not (AV.bin Go.BinOp.leq r257 (AV.int 2)))) ∧
          ((isT (AV.un Go.UnOp.not (AV.bin Go.BinOp.leq r257 (AV.int 2)))) ∧
          ((AV.isBool (AV.bin Go.BinOp.neq (AV.cel x0 3) (AV.lit (Value.string ⟨#[]⟩)))) ∧
          ((isF (AV.bin Go.BinOp.neq (AV.cel x0 3) (AV.lit (Value.string ⟨#[]⟩)))) ∧
          ((AV.isBool (AV.bin Go.BinOp.neq (AV.cel x0 2) (AV.int 0))) ∧
          (((isT (AV.bin Go.BinOp.neq (AV.cel x0 2) (AV.int 0))) →
            ((AV.flat (AV.int 3)) ∧
            (fSame (AV.int 3) r))) ∧
          ((isF (AV.bin Go.BinOp.neq (AV.cel x0 2) (AV.int 0))) →
            ((fEnt Tryd.prog 36) ∧
            (fAllV fun _ => ((AV.binOk Go.BinOp.leq r257 (AV.int 2)) ∧
            ((AV.isBool (AV.bin Go.BinOp.leq r257 (AV.int 2))) ∧
            ((isF (AV.bin Go.BinOp.leq r257 (AV.int 2))) ∧
            ((AV.flat (AV.int 0)) ∧
            (fSame (AV.int 0) r))))))))))))))))))))))))))))))))))))))))))))))))) ∧
    ((isF (AV.bin Go.BinOp.gtr r257 (AV.int 2))) →
      ((AV.isBool (AV.bin Go.BinOp.gtr r257 (AV.int 2))) ∧
      ((isF (AV.bin Go.BinOp.gtr r257 (AV.int 2))) ∧
      ((AV.isBool (AV.un Go.UnOp.not r705)) ∧
      ((isF (AV.un Go.UnOp.not r705)) ∧
      ((fEnt Tryd.prog 35) ∧
      (fAllV fun _ => ((AV.binOk Go.BinOp.gtr r257 (AV.int 2)) ∧
      ((AV.isBool (AV.bin Go.BinOp.gtr r257 (AV.int 2))) ∧
      ((isF (AV.bin Go.BinOp.gtr r257 (AV.int 2))) ∧
      ((AV.isBool (AV.bin Go.BinOp.gtr r257 (AV.int 2))) ∧
      ((isF (AV.bin Go.BinOp.gtr r257 (AV.int 2))) ∧
      ((AV.binOk Go.BinOp.neq (AV.cel x0 3) (AV.lit (Value.string ⟨#[]⟩))) ∧
      ((AV.isBool (AV.bin Go.BinOp.neq (AV.cel x0 3) (AV.lit (Value.string ⟨#[]⟩)))) ∧
      (((isT (AV.bin Go.BinOp.neq (AV.cel x0 3) (AV.lit (Value.string ⟨#[]⟩)))) →
        ((AV.isBool (AV.bin Go.BinOp.neq (AV.cel x0 3) (AV.lit (Value.string ⟨#[]⟩)))) ∧
        ((isT (AV.bin Go.BinOp.neq (AV.cel x0 3) (AV.lit (Value.string ⟨#[]⟩)))) ∧
        ((AV.flat (AV.int 3)) ∧
        (fSame (AV.int 3) r))))) ∧
      ((isF (AV.bin Go.BinOp.neq (AV.cel x0 3) (AV.lit (Value.string ⟨#[]⟩)))) →
        ((fEnt Tryd.prog 36) ∧
        (fAllV fun _ => ((AV.binOk Go.BinOp.leq r257 (AV.int 2)) ∧
        ((AV.unOk Go.UnOp.not (AV.bin Go.BinOp.leq r257 (AV.int 2))) ∧
        ((AV.isBool (AV.un Go.UnOp.not (AV.bin Go.BinOp.leq r257 (AV.int 2)))) ∧
        ((isF (AV.un Go.UnOp.not (AV.bin Go.BinOp.leq r257 (AV.int 2)))) ∧
        ((AV.isBool (AV.un Go.UnOp.not (AV.bin Go.BinOp.leq r257 (AV.int 2)))) ∧
        ((isF (AV.un Go.UnOp.not (AV.bin Go.BinOp.leq r257 (AV.int 2)))) ∧
        ((AV.isBool (AV.bin Go.BinOp.neq (AV.cel x0 3) (AV.lit (Value.string ⟨#[]⟩)))) ∧
        ((isF (AV.bin Go.BinOp.neq (AV.cel x0 3) (AV.lit (Value.string ⟨#[]⟩)))) ∧
        ((fEnt Tryd.prog 36) ∧
        (fAllV fun _ => ((AV.binOk Go.BinOp.leq r257 (AV.int 2)) ∧
        ((AV.isBool (AV.bin Go.BinOp.leq r257 (AV.int 2))) ∧
        ((isT (AV.bin Go.BinOp.leq r257 (AV.int 2))) ∧
        ((AV.inb (AV.mk 1 [[(AV.int 60000)], [(AV.int 4095)], [(AV.int 400)]]) r257) ∧
        ((AV.inb (AV.mk 1 [[(AV.int 60000)], [(AV.int 4095)], [(AV.int 400)]]) r257) ∧
        ((AV.binOk Go.BinOp.lss (AV.cel x0 2) (AV.int 0)) ∧
        ((AV.isBool (AV.bin Go.BinOp.lss (AV.cel x0 2) (AV.int 0))) ∧
        (((isT (AV.bin Go.BinOp.lss (AV.cel x0 2) (AV.int 0))) →
          ((AV.isBool (AV.bin Go.BinOp.lss (AV.cel x0 2) (AV.int 0))) ∧
          ((isT (AV.bin Go.BinOp.lss (AV.cel x0 2) (AV.int 0))) ∧
          ((AV.flat (AV.int 4)) ∧
          (fSame (AV.int 4) r))))) ∧
        ((isF (AV.bin Go.BinOp.lss (AV.cel x0 2) (AV.int 0))) →
          ((AV.binOk Go.BinOp.gtr (AV.cel x0 2) (AV.at (AV.mk 1 [[(AV.int 60000)], [(AV.int 4095)], [(AV.int 400)]]) r257 0)) ∧
          ((AV.isBool (AV.bin Go.BinOp.lss (AV.cel x0 2) (AV.int 0))) ∧
          ((isF (AV.bin Go.BinOp.lss (AV.cel x0 2) (AV.int 0))) ∧
          ((AV.isBool (AV.bin Go.BinOp.gtr (AV.cel x0 2) (AV.at (AV.mk 1 [[(AV.int 60000)], [(AV.int 4095)], [(AV.int 400)]]) r257 0))) ∧
          (((isT (AV.bin Go.BinOp.gtr (AV.cel x0 2) (AV.at (AV.mk 1 [[(AV.int 60000)], [(AV.int 4095)], [(AV.int 400)]]) r257 0))) →
            ((AV.flat (AV.int 4)) ∧
            (fSame (AV.int 4) r))) ∧
          ((isF (AV.bin Go.BinOp.gtr (AV.cel x0 2) (AV.at (AV.mk 1 [[(AV.int 60000)], [(AV.int 4095)], [(AV.int 400)]]) r257 0))) →
            ((AV.flat (AV.int 0)) ∧
            (fSame (AV.int 0) r)))))))))))))))))))))))))))))))))))))))))))))))))))))))))))))))) := by kernel_rfl
theorem clear_form (x0 r : AV) : fnF Tryd.prog Γ ann 3 11 Tryd.f11 (Tryd.f11.body.getD .skip) (.nil) [x0] (.tup [.sc, .sc]) r = (((AV.isAgg x0 4) ∧
(∃ r257 : AV, ((Fn Tryd.prog 23 [(AV.agg [(AV.cel x0 0), (AV.cel x0 1), (AV.cel x0 2), (AV.cel x0 3)])] Sh.sc r257) ∧
((AV.binOk Go.BinOp.neq r257 (AV.int 0)) ∧
((AV.isBool (AV.bin Go.BinOp.neq r257 (AV.int 0))) ∧
(((isT (AV.bin Go.BinOp.neq r257 (AV.int 0))) →
  ((AV.flat (AV.agg [(AV.lit (Value.string ⟨#[]⟩)), (AV.int 0), (AV.int 0), (AV.lit (Value.string ⟨#[]⟩))])) ∧
  ((AV.flat r257) ∧
  (fSame (AV.tup [(AV.agg [(AV.lit (Value.string ⟨#[]⟩)), (AV.int 0), (AV.int 0), (AV.lit (Value.string ⟨#[]⟩))]), r257]) r)))) ∧
((isF (AV.bin Go.BinOp.neq r257 (AV.int 0))) →
  (∃ r641 : AV, ((Fn Tryd.prog 24 [(AV.cel x0 0)] Sh.sc r641) ∧
  ((AV.binOk Go.BinOp.gtr r641 (AV.int 6)) ∧
  ((AV.isBool (AV.bin Go.BinOp.gtr r641 (AV.int 6))) ∧
  (((isT (AV.bin Go.BinOp.gtr r641 (AV.int 6))) →
    ((AV.flat (AV.agg [(AV.lit (Value.string ⟨#[]⟩)), (AV.int 0), (AV.int 0), (AV.lit (Value.string ⟨#[]⟩))])) ∧
    ((AV.flat (AV.int 8)) ∧
    (fSame (AV.tup [(AV.agg [(AV.lit (Value.string ⟨#[]⟩)), (AV.int 0), (AV.int 0), (AV.lit (Value.string ⟨#[]⟩))]), (AV.int 8)]) r)))) ∧
  ((isF (AV.bin Go.BinOp.gtr r641 (AV.int 6))) →
    ((AV.isOne (AV.cel x0 1)) ∧
    ((AV.isOne r641) ∧
    ((AV.isOne (AV.cel x0 2)) ∧
    ((AV.isOne (AV.cel x0 3)) ∧
    ((AV.flat (AV.agg [(AV.cel x0 1), r641, (AV.cel x0 2), (AV.cel x0 3)])) ∧
    ((AV.flat (AV.int 0)) ∧
    (fSame (AV.tup [(AV.agg [(AV.cel x0 1), r641, (AV.cel x0 2), (AV.cel x0 3)]), (AV.int 0)]) r))))))))))))))))))))) := by kernel_rfl
theorem cut_form (x0 x1 x2 r : AV) : fnF Tryd.prog Γ ann 3 12 Tryd.f12 (Tryd.f12.body.getD .skip) (.nil) [x0, x1, x2] (.sc) r = (((AV.binOk Go.BinOp.sub x2 x1) ∧
((AV.binOk Go.BinOp.add (AV.bin Go.BinOp.sub x2 x1) (AV.int 1)) ∧
((AV.binOk Go.BinOp.rem x0 (AV.bin Go.BinOp.add (AV.bin Go.BinOp.sub x2 x1) (AV.int 1))) ∧
((AV.binOk Go.BinOp.lss (AV.bin Go.BinOp.rem x0 (AV.bin Go.BinOp.add (AV.bin Go.BinOp.sub x2 x1) (AV.int 1))) (AV.int 0)) ∧
((AV.isBool (AV.bin Go.BinOp.lss (AV.bin Go.BinOp.rem x0 (AV.bin Go.BinOp.add (AV.bin Go.BinOp.sub x2 x1) (AV.int 1))) (AV.int 0))) ∧
(((isT (AV.bin Go.BinOp.lss (AV.bin Go.BinOp.rem x0 (AV.bin Go.BinOp.add (AV.bin Go.BinOp.sub x2 x1) (AV.int 1))) (AV.int 0))) →
  ((AV.binOk Go.BinOp.add (AV.bin Go.BinOp.rem x0 (AV.bin Go.BinOp.add (AV.bin Go.BinOp.sub x2 x1) (AV.int 1))) (AV.bin Go.BinOp.add (AV.bin Go.BinOp.sub x2 x1) (AV.int 1))) ∧
  ((AV.binOk Go.BinOp.add x1 (AV.bin Go.BinOp.add (AV.bin Go.BinOp.rem x0 (AV.bin Go.BinOp.add (AV.bin Go.BinOp.sub x2 x1) (AV.int 1))) (AV.bin Go.BinOp.add (AV.bin Go.BinOp.sub x2 x1) (AV.int 1)))) ∧
  ((AV.flat (AV.bin Go.BinOp.add x1 (AV.bin Go.BinOp.add (AV.bin Go.BinOp.rem x0 (AV.bin Go.BinOp.add (AV.bin Go.BinOp.sub x2 x1) (AV.int 1))) (AV.bin Go.BinOp.add (AV.bin Go.BinOp.sub x2 x1) (AV.int 1))))) ∧
  (fSame (AV.bin Go.BinOp.add x1 (AV.bin Go.BinOp.add (AV.bin Go.BinOp.rem x0 (AV.bin Go.BinOp.add (AV.bin Go.BinOp.sub x2 x1) (AV.int 1))) (AV.bin Go.BinOp.add (AV.bin Go.BinOp.sub x2 x1) (AV.int 1)))) r))))) ∧
((isF (AV.bin Go.BinOp.lss (AV.bin Go.BinOp.rem x0 (AV.bin Go.BinOp.add (AV.bin Go.BinOp.sub x2 x1) (AV.int 1))) (AV.int 0))) →
  ((AV.binOk Go.BinOp.add x1 (AV.bin Go.BinOp.rem x0 (AV.bin Go.BinOp.add (AV.bin Go.BinOp.sub x2 x1) (AV.int 1)))) ∧
  ((AV.flat (AV.bin Go.BinOp.add x1 (AV.bin Go.BinOp.rem x0 (AV.bin Go.BinOp.add (AV.bin Go.BinOp.sub x2 x1) (AV.int 1))))) ∧
  (fSame (AV.bin Go.BinOp.add x1 (AV.bin Go.BinOp.rem x0 (AV.bin Go.BinOp.add (AV.bin Go.BinOp.sub x2 x1) (AV.int 1)))) r))))))))))) := by kernel_rfl
theorem fact_form ( r : AV) : fnF Tryd.prog Γ ann 3 5 Tryd.f5 (Tryd.f5.body.getD .skip) ((.t (.t (.t (.t (.t (.t (.t (.t (.t (.t .nil))))))))))) [] (.sc) r = ((∃ r65 : AV, ((Fn Tryd.prog 17 [(AV.int 9000)] Sh.sc r65) ∧
((AV.isAgg r65 4) ∧
(∃ r321 : AV, ((Fn Tryd.prog 6 [(AV.agg [(AV.cel r65 0), (AV.cel r65 1), (AV.cel r65 2), (AV.cel r65 3)])] (Sh.tup [Sh.sc, Sh.sc]) r321) ∧
(∃ r769 : AV, ((Fn Tryd.prog 7 [(AV.agg [(AV.cel r65 0), (AV.cel r65 1), (AV.cel r65 2), (AV.cel r65 3)])] (Sh.tup [Sh.sc, Sh.sc]) r769) ∧
(∃ r1217 : AV, ((Fn Tryd.prog 13 [(AV.prj r321 0)] (Sh.tup [Sh.sc, Sh.sc, Sh.sc]) r1217) ∧
((AV.isAgg (AV.prj r1217 0) 4) ∧
(∃ r1857 : AV, ((Fn Tryd.prog 13 [(AV.prj r769 0)] (Sh.tup [Sh.sc, Sh.sc, Sh.sc]) r1857) ∧
((AV.isAgg (AV.prj r1857 0) 4) ∧
((AV.binOk Go.BinOp.eql (AV.prj r321 1) (AV.int 0)) ∧
((AV.isBool (AV.bin Go.BinOp.eql (AV.prj r321 1) (AV.int 0))) ∧
((isT (AV.bin Go.BinOp.eql (AV.prj r321 1) (AV.int 0))) ∧
((AV.binOk Go.BinOp.eql (AV.prj r769 1) (AV.int 0)) ∧
((AV.isBool (AV.bin Go.BinOp.eql (AV.prj r321 1) (AV.int 0))) ∧
((isT (AV.bin Go.BinOp.eql (AV.prj r321 1) (AV.int 0))) ∧
((AV.isBool (AV.bin Go.BinOp.eql (AV.prj r769 1) (AV.int 0))) ∧
((isT (AV.bin Go.BinOp.eql (AV.prj r769 1) (AV.int 0))) ∧
((AV.binOk Go.BinOp.eql (AV.prj r1217 2) (AV.int 0)) ∧
((AV.isBool (AV.bin Go.BinOp.eql (AV.prj r769 1) (AV.int 0))) ∧
((isT (AV.bin Go.BinOp.eql (AV.prj r769 1) (AV.int 0))) ∧
((AV.isBool (AV.bin Go.BinOp.eql (AV.prj r1217 2) (AV.int 0))) ∧
((isT (AV.bin Go.BinOp.eql (AV.prj r1217 2) (AV.int 0))) ∧
((AV.binOk Go.BinOp.eql (AV.prj r1857 2) (AV.int 0)) ∧
((AV.isBool (AV.bin Go.BinOp.eql (AV.prj r1217 2) (AV.int 0))) ∧
((isT (AV.bin Go.BinOp.eql (AV.prj r1217 2) (AV.int 0))) ∧
((AV.isBool (AV.bin Go.BinOp.eql (AV.prj r1857 2) (AV.int 0))) ∧
((isT (AV.bin Go.BinOp.eql (AV.prj r1857 2) (AV.int 0))) ∧
((AV.binOk Go.BinOp.eql (AV.prj r321 0) (AV.lit (Value.string ⟨#[65, 49, 32, 72, 69, 73, 71, 72, 84, 32, 57, 48, 48, 48]⟩))) ∧
((AV.isBool (AV.bin Go.BinOp.eql (AV.prj r1857 2) (AV.int 0))) ∧
((isT (AV.bin Go.BinOp.eql (AV.prj r1857 2) (AV.int 0))) ∧
((AV.isBool (AV.bin Go.BinOp.eql (AV.prj r321 0) (AV.lit (Value.string ⟨#[65, 49, 32, 72, 69, 73, 71, 72, 84, 32, 57, 48, 48, 48]⟩)))) ∧
((isT (AV.bin Go.BinOp.eql (AV.prj r321 0) (AV.lit (Value.string ⟨#[65, 49, 32, 72, 69, 73, 71, 72, 84, 32, 57, 48, 48, 48]⟩)))) ∧
((AV.binOk Go.BinOp.eql (AV.prj r769 0) (AV.lit (Value.string ⟨#[72, 69, 73, 71, 72, 84, 32, 57, 48, 48, 48, 32, 65, 49]⟩))) ∧
((AV.isBool (AV.bin Go.BinOp.eql (AV.prj r321 0) (AV.lit (Value.string ⟨#[65, 49, 32, 72, 69, 73, 71, 72, 84, 32, 57, 48, 48, 48]⟩)))) ∧
((isT (AV.bin Go.BinOp.eql (AV.prj r321 0) (AV.lit (Value.string ⟨#[65, 49, 32, 72, 69, 73, 71, 72, 84, 32, 57, 48, 48, 48]⟩)))) ∧
((AV.isBool (AV.bin Go.BinOp.eql (AV.prj r769 0) (AV.lit (Value.string ⟨#[72, 69, 73, 71, 72, 84, 32, 57, 48, 48, 48, 32, 65, 49]⟩)))) ∧
((isT (AV.bin Go.BinOp.eql (AV.prj r769 0) (AV.lit (Value.string ⟨#[72, 69, 73, 71, 72, 84, 32, 57, 48, 48, 48, 32, 65, 49]⟩)))) ∧
((AV.eqPlOk [(0, EK.str), (1, (EK.int Go.IntKind.i64)), (2, (EK.int Go.IntKind.i64)), (3, EK.str)] [(AV.cel (AV.prj r1217 0) 0), (AV.cel (AV.prj r1217 0) 1), (AV.cel (AV.prj r1217 0) 2), (AV.cel (AV.prj r1217 0) 3)] [(AV.cel r65 0), (AV.cel r65 1), (AV.cel r65 2), (AV.cel r65 3)]) ∧
((AV.isBool (AV.bin Go.BinOp.eql (AV.prj r769 0) (AV.lit (Value.string ⟨#[72, 69, 73, 71, 72, 84, 32, 57, 48, 48, 48, 32, 65, 49]⟩)))) ∧
((isT (AV.bin Go.BinOp.eql (AV.prj r769 0) (AV.lit (Value.string ⟨#[72, 69, 73, 71, 72, 84, 32, 57, 48, 48, 48, 32, 65, 49]⟩)))) ∧
((AV.isBool (AV.eqPl [(0, EK.str), (1, (EK.int Go.IntKind.i64)), (2, (EK.int Go.IntKind.i64)), (3, EK.str)] [(AV.cel (AV.prj r1217 0) 0), (AV.cel (AV.prj r1217 0) 1), (AV.cel (AV.prj r1217 0) 2), (AV.cel (AV.prj r1217 0) 3)] [(AV.cel r65 0), (AV.cel r65 1), (AV.cel r65 2), (AV.cel r65 3)])) ∧
((isT (AV.eqPl [(0, EK.str), (1, (EK.int Go.IntKind.i64)), (2, (EK.int Go.IntKind.i64)), (3, EK.str)] [(AV.cel (AV.prj r1217 0) 0), (AV.cel (AV.prj r1217 0) 1), (AV.cel (AV.prj r1217 0) 2), (AV.cel (AV.prj r1217 0) 3)] [(AV.cel r65 0), (AV.cel r65 1), (AV.cel r65 2), (AV.cel r65 3)])) ∧
((AV.eqPlOk [(0, EK.str), (1, (EK.int Go.IntKind.i64)), (2, (EK.int Go.IntKind.i64)), (3, EK.str)] [(AV.cel (AV.prj r1857 0) 0), (AV.cel (AV.prj r1857 0) 1), (AV.cel (AV.prj r1857 0) 2), (AV.cel (AV.prj r1857 0) 3)] [(AV.cel r65 0), (AV.cel r65 1), (AV.cel r65 2), (AV.cel r65 3)]) ∧
((AV.isBool (AV.eqPl [(0, EK.str), (1, (EK.int Go.IntKind.i64)), (2, (EK.int Go.IntKind.i64)), (3, EK.str)] [(AV.cel (AV.prj r1217 0) 0), (AV.cel (AV.prj r1217 0) 1), (AV.cel (AV.prj r1217 0) 2), (AV.cel (AV.prj r1217 0) 3)] [(AV.cel r65 0), (AV.cel r65 1), (AV.cel r65 2), (AV.cel r65 3)])) ∧
((isT (AV.eqPl [(0, EK.str), (1, (EK.int Go.IntKind.i64)), (2, (EK.int Go.IntKind.i64)), (3, EK.str)] [(AV.cel (AV.prj r1217 0) 0), (AV.cel (AV.prj r1217 0) 1), (AV.cel (AV.prj r1217 0) 2), (AV.cel (AV.prj r1217 0) 3)] [(AV.cel r65 0), (AV.cel r65 1), (AV.cel r65 2), (AV.cel r65 3)])) ∧
((AV.isBool (AV.eqPl [(0, EK.str), (1, (EK.int Go.IntKind.i64)), (2, (EK.int Go.IntKind.i64)), (3, EK.str)] [(AV.cel (AV.prj r1857 0) 0), (AV.cel (AV.prj r1857 0) 1), (AV.cel (AV.prj r1857 0) 2), (AV.cel (AV.prj r1857 0) 3)] [(AV.cel r65 0), (AV.cel r65 1), (AV.cel r65 2), (AV.cel r65 3)])) ∧
((isT (AV.eqPl [(0, EK.str), (1, (EK.int Go.IntKind.i64)), (2, (EK.int Go.IntKind.i64)), (3, EK.str)] [(AV.cel (AV.prj r1857 0) 0), (AV.cel (AV.prj r1857 0) 1), (AV.cel (AV.prj r1857 0) 2), (AV.cel (AV.prj r1857 0) 3)] [(AV.cel r65 0), (AV.cel r65 1), (AV.cel r65 2), (AV.cel r65 3)])) ∧
((AV.unOk Go.UnOp.not (AV.prj r1217 1)) ∧
((AV.isBool (AV.eqPl [(0, EK.str), (1, (EK.int Go.IntKind.i64)), (2, (EK.int Go.IntKind.i64)), (3, EK.str)] [(AV.cel (AV.prj r1857 0) 0), (AV.cel (AV.prj r1857 0) 1), (AV.cel (AV.prj r1857 0) 2), (AV.cel (AV.prj r1857 0) 3)] [(AV.cel r65 0), (AV.cel r65 1), (AV.cel r65 2), (AV.cel r65 3)])) ∧
((isT (AV.eqPl [(0, EK.str), (1, (EK.int Go.IntKind.i64)), (2, (EK.int Go.IntKind.i64)), (3, EK.str)] [(AV.cel (AV.prj r1857 0) 0), (AV.cel (AV.prj r1857 0) 1), (AV.cel (AV.prj r1857 0) 2), (AV.cel (AV.prj r1857 0) 3)] [(AV.cel r65 0), (AV.cel r65 1), (AV.cel r65 2), (AV.cel r65 3)])) ∧
((AV.isBool (AV.un Go.UnOp.not (AV.prj r1217 1))) ∧
((isT (AV.un Go.UnOp.not (AV.prj r1217 1))) ∧
((AV.isBool (AV.un Go.UnOp.not (AV.prj r1217 1))) ∧
((isT (AV.un Go.UnOp.not (AV.prj r1217 1))) ∧
((AV.isBool (AV.prj r1857 1)) ∧
((isT (AV.prj r1857 1)) ∧
(∃ r5057 : AV, ((Fn Tryd.prog 9 [(AV.agg [(AV.lit (Value.string ⟨#[]⟩)), (AV.int 0), (AV.int 0), (AV.lit (Value.string ⟨#[]⟩))])] Sh.sc r5057) ∧
((AV.binOk Go.BinOp.eql r5057 (AV.int 3)) ∧
((AV.isBool (AV.prj r1857 1)) ∧
((isT (AV.prj r1857 1)) ∧
((AV.flat (AV.bin Go.BinOp.eql r5057 (AV.int 3))) ∧
(fSame (AV.bin Go.BinOp.eql r5057 (AV.int 3)) r)))))))))))))))))))))))))))))))))))))))))))))))))))))))))))))))))))) := by kernel_rfl
theorem texts_form (x0 r : AV) : fnF Tryd.prog Γ ann 3 3 Tryd.f3 (Tryd.f3.body.getD .skip) ((.f (.f (.f (.f (.both (.t .nil) (.t .nil))))))) [x0] (.sc) r = (((AV.isAgg x0 4) ∧
(∃ r129 : AV, ((Fn Tryd.prog 5 [] Sh.sc r129) ∧
((AV.unOk Go.UnOp.not r129) ∧
((AV.isBool (AV.un Go.UnOp.not r129)) ∧
((isF (AV.un Go.UnOp.not r129)) ∧
(∃ r321 : AV, ((Fn Tryd.prog 6 [(AV.agg [(AV.cel x0 0), (AV.cel x0 1), (AV.cel x0 2), (AV.cel x0 3)])] (Sh.tup [Sh.sc, Sh.sc]) r321) ∧
(∃ r769 : AV, ((Fn Tryd.prog 7 [(AV.agg [(AV.cel x0 0), (AV.cel x0 1), (AV.cel x0 2), (AV.cel x0 3)])] (Sh.tup [Sh.sc, Sh.sc]) r769) ∧
(∃ r1217 : AV, ((Fn Tryd.prog 8 [(AV.agg [(AV.cel x0 0), (AV.cel x0 1), (AV.cel x0 2), (AV.cel x0 3)])] Sh.sc r1217) ∧
(∃ r1409 : AV, ((Fn Tryd.prog 9 [(AV.agg [(AV.cel x0 0), (AV.cel x0 1), (AV.cel x0 2), (AV.cel x0 3)])] Sh.sc r1409) ∧
((AV.binOk Go.BinOp.neq r1409 r1217) ∧
((AV.isBool (AV.bin Go.BinOp.neq r1409 r1217)) ∧
((isF (AV.bin Go.BinOp.neq r1409 r1217)) ∧
((AV.binOk Go.BinOp.neq (AV.prj r321 1) r1217) ∧
((AV.isBool (AV.bin Go.BinOp.neq r1409 r1217)) ∧
((isF (AV.bin Go.BinOp.neq r1409 r1217)) ∧
((AV.isBool (AV.bin Go.BinOp.neq (AV.prj r321 1) r1217)) ∧
((isF (AV.bin Go.BinOp.neq (AV.prj r321 1) r1217)) ∧
((AV.binOk Go.BinOp.neq (AV.prj r769 1) r1217) ∧
((AV.isBool (AV.bin Go.BinOp.neq (AV.prj r321 1) r1217)) ∧
((isF (AV.bin Go.BinOp.neq (AV.prj r321 1) r1217)) ∧
((AV.isBool (AV.bin Go.BinOp.neq (AV.prj r769 1) r1217)) ∧
((isF (AV.bin Go.BinOp.neq (AV.prj r769 1) r1217)) ∧
((AV.binOk Go.BinOp.neq r1217 (AV.int 0)) ∧
((AV.isBool (AV.bin Go.BinOp.neq r1217 (AV.int 0))) ∧
(((isT (AV.bin Go.BinOp.neq r1217 (AV.int 0))) →
  ((AV.binOk Go.BinOp.eql (AV.prj r321 0) (AV.lit (Value.string ⟨#[]⟩))) ∧
  ((AV.isBool (AV.bin Go.BinOp.eql (AV.prj r321 0) (AV.lit (Value.string ⟨#[]⟩)))) ∧
  ((isT (AV.bin Go.BinOp.eql (AV.prj r321 0) (AV.lit (Value.string ⟨#[]⟩)))) ∧
  ((AV.binOk Go.BinOp.eql (AV.prj r769 0) (AV.lit (Value.string ⟨#[]⟩))) ∧
  ((AV.isBool (AV.bin Go.BinOp.eql (AV.prj r321 0) (AV.lit (Value.string ⟨#[]⟩)))) ∧
  ((isT (AV.bin Go.BinOp.eql (AV.prj r321 0) (AV.lit (Value.string ⟨#[]⟩)))) ∧
  ((AV.flat (AV.bin Go.BinOp.eql (AV.prj r769 0) (AV.lit (Value.string ⟨#[]⟩)))) ∧
  (fSame (AV.bin Go.BinOp.eql (AV.prj r769 0) (AV.lit (Value.string ⟨#[]⟩))) r))))))))) ∧
((isF (AV.bin Go.BinOp.neq r1217 (AV.int 0))) →
  (∃ r2497 : AV, ((Fn Tryd.prog 10 [(AV.agg [(AV.cel x0 0), (AV.cel x0 1), (AV.cel x0 2), (AV.cel x0 3)]), (AV.bool false)] Sh.sc r2497) ∧
  ((AV.binOk Go.BinOp.eql (AV.prj r321 0) r2497) ∧
  ((AV.isBool (AV.bin Go.BinOp.eql (AV.prj r321 0) r2497)) ∧
  ((isT (AV.bin Go.BinOp.eql (AV.prj r321 0) r2497)) ∧
  (∃ r2817 : AV, ((Fn Tryd.prog 10 [(AV.agg [(AV.cel x0 0), (AV.cel x0 1), (AV.cel x0 2), (AV.cel x0 3)]), (AV.bool true)] Sh.sc r2817) ∧
  ((AV.binOk Go.BinOp.eql (AV.prj r769 0) r2817) ∧
  ((AV.isBool (AV.bin Go.BinOp.eql (AV.prj r321 0) r2497)) ∧
  ((isT (AV.bin Go.BinOp.eql (AV.prj r321 0) r2497)) ∧
  ((AV.flat (AV.bin Go.BinOp.eql (AV.prj r769 0) r2817)) ∧
  (fSame (AV.bin Go.BinOp.eql (AV.prj r769 0) r2817) r)))))))))))))))))))))))))))))))))))))))))))) := by kernel_rfl
theorem said_form (x0 x1 r : AV) : fnF Tryd.prog Γ ann 3 4 Tryd.f4 (Tryd.f4.body.getD .skip) ((.f (.f (.f (.both .nil (.both .nil (.f (.f (.f (.f (.f (.f (.f (.f (.f (.f (.f (.f (.f (.f .nil)))))))))))))))))))) [x0, x1] (.sc) r = (((AV.isAgg x0 4) ∧
(∃ r193 : AV, ((Fn Tryd.prog 11 [(AV.agg [(AV.lit (Value.string ⟨#[104, 101, 105, 103, 104, 116]⟩)), (AV.lit (Value.string ⟨#[65, 66, 49]⟩)), (AV.int 9000), (AV.lit (Value.string ⟨#[]⟩))])] (Sh.tup [Sh.sc, Sh.sc]) r193) ∧
((AV.isAgg (AV.prj r193 0) 4) ∧
(∃ r705 : AV, ((Fn Tryd.prog 6 [(AV.agg [(AV.cel (AV.prj r193 0) 0), (AV.cel (AV.prj r193 0) 1), (AV.cel (AV.prj r193 0) 2), (AV.cel (AV.prj r193 0) 3)])] (Sh.tup [Sh.sc, Sh.sc]) r705) ∧
((AV.binOk Go.BinOp.neq (AV.prj r193 1) (AV.int 0)) ∧
((AV.isBool (AV.bin Go.BinOp.neq (AV.prj r193 1) (AV.int 0))) ∧
((isF (AV.bin Go.BinOp.neq (AV.prj r193 1) (AV.int 0))) ∧
((AV.binOk Go.BinOp.neq (AV.prj r705 1) (AV.int 0)) ∧
((AV.isBool (AV.bin Go.BinOp.neq (AV.prj r193 1) (AV.int 0))) ∧
((isF (AV.bin Go.BinOp.neq (AV.prj r193 1) (AV.int 0))) ∧
((AV.isBool (AV.bin Go.BinOp.neq (AV.prj r705 1) (AV.int 0))) ∧
((isF (AV.bin Go.BinOp.neq (AV.prj r705 1) (AV.int 0))) ∧
((AV.binOk Go.BinOp.neq (AV.prj r705 0) (AV.lit (Value.string ⟨#[65, 66, 49, 32, 72, 69, 73, 71, 72, 84, 32, 57, 48, 48, 48]⟩))) ∧
((AV.isBool (AV.bin Go.BinOp.neq (AV.prj r705 1) (AV.int 0))) ∧
((isF (AV.bin Go.BinOp.neq (AV.prj r705 1) (AV.int 0))) ∧
((AV.isBool (AV.bin Go.BinOp.neq (AV.prj r705 0) (AV.lit (Value.string ⟨#[65, 66, 49, 32, 72, 69, 73, 71, 72, 84, 32, 57, 48, 48, 48]⟩)))) ∧
((isF (AV.bin Go.BinOp.neq (AV.prj r705 0) (AV.lit (Value.string ⟨#[65, 66, 49, 32, 72, 69, 73, 71, 72, 84, 32, 57, 48, 48, 48]⟩)))) ∧
(∃ r1793 : AV, ((Fn Tryd.prog 11 [(AV.agg [(AV.cel x0 0), (AV.cel x0 1), (AV.cel x0 2), (AV.cel x0 3)])] (Sh.tup [Sh.sc, Sh.sc]) r1793) ∧
((AV.isAgg (AV.prj r1793 0) 4) ∧
((AV.binOk Go.BinOp.neq (AV.prj r1793 1) (AV.int 0)) ∧
((AV.isBool (AV.bin Go.BinOp.neq (AV.prj r1793 1) (AV.int 0))) ∧
(((isT (AV.bin Go.BinOp.neq (AV.prj r1793 1) (AV.int 0))) →
  ((AV.isBool (AV.bin Go.BinOp.neq (AV.prj r1793 1) (AV.int 0))) ∧
  ((isT (AV.bin Go.BinOp.neq (AV.prj r1793 1) (AV.int 0))) ∧
  ((AV.flat (AV.bool true)) ∧
  (fSame (AV.bool true) r))))) ∧
((isF (AV.bin Go.BinOp.neq (AV.prj r1793 1) (AV.int 0))) →
  (∃ r2433 : AV, ((Fn Tryd.prog 9 [(AV.agg [(AV.cel (AV.prj r1793 0) 0), (AV.cel (AV.prj r1793 0) 1), (AV.cel (AV.prj r1793 0) 2), (AV.cel (AV.prj r1793 0) 3)])] Sh.sc r2433) ∧
  ((AV.binOk Go.BinOp.neq r2433 (AV.int 0)) ∧
  ((AV.isBool (AV.bin Go.BinOp.neq (AV.prj r1793 1) (AV.int 0))) ∧
  ((isF (AV.bin Go.BinOp.neq (AV.prj r1793 1) (AV.int 0))) ∧
  ((AV.isBool (AV.bin Go.BinOp.neq r2433 (AV.int 0))) ∧
  (((isT (AV.bin Go.BinOp.neq r2433 (AV.int 0))) →
    ((AV.flat (AV.bool true)) ∧
    (fSame (AV.bool true) r))) ∧
  ((isF (AV.bin Go.BinOp.neq r2433 (AV.int 0))) →
    (∃ r2689 : AV, ((Fn Tryd.prog 12 [x1, (AV.int 0), (AV.int 1000)] Sh.sc r2689) ∧
    (∃ r2881 : AV, ((Fn Tryd.prog 6 [(AV.agg [(AV.cel (AV.prj r1793 0) 0), (AV.cel (AV.prj r1793 0) 1), (AV.cel (AV.prj r1793 0) 2), (AV.cel (AV.prj r1793 0) 3)])] (Sh.tup [Sh.sc, Sh.sc]) r2881) ∧
    (∃ r3329 : AV, ((Fn Tryd.prog 13 [(AV.prj r2881 0)] (Sh.tup [Sh.sc, Sh.sc, Sh.sc]) r3329) ∧
    ((AV.isAgg (AV.prj r3329 0) 4) ∧
    (∃ r4033 : AV, ((Fn Tryd.prog 14 [(AV.lit (Value.slice none 0 0)), (AV.agg [(AV.cel (AV.prj r3329 0) 0), (AV.cel (AV.prj r3329 0) 1), (AV.cel (AV.prj r3329 0) 2), (AV.cel (AV.prj r3329 0) 3)]), r2689] (Sh.tup [(Sh.row 59 5 true), Sh.sc]) r4033) ∧
    (∃ r4481 : AV, ((Fn Tryd.prog 7 [(AV.agg [(AV.cel (AV.prj r3329 0) 0), (AV.cel (AV.prj r3329 0) 1), (AV.cel (AV.prj r3329 0) 2), (AV.cel (AV.prj r3329 0) 3)])] (Sh.tup [Sh.sc, Sh.sc]) r4481) ∧
    (∃ r4929 : AV, ((Fn Tryd.prog 13 [(AV.prj r4481 0)] (Sh.tup [Sh.sc, Sh.sc, Sh.sc]) r4929) ∧
    ((AV.isAgg (AV.prj r4929 0) 4) ∧
    (∃ r5633 : AV, ((Fn Tryd.prog 15 [(AV.agg [(AV.cel (AV.prj r3329 0) 0), (AV.cel (AV.prj r3329 0) 1), (AV.cel (AV.prj r3329 0) 2), (AV.cel (AV.prj r3329 0) 3)]), (AV.agg [(AV.cel (AV.prj r4929 0) 0), (AV.cel (AV.prj r4929 0) 1), (AV.cel (AV.prj r4929 0) 2), (AV.cel (AV.prj r4929 0) 3)])] (Sh.tup [Sh.sc, Sh.sc]) r5633) ∧
    ((AV.binOk Go.BinOp.add r2689 (AV.int 1)) ∧
    (∃ r6273 : AV, ((Fn Tryd.prog 16 [(AV.prj r4033 0), (AV.agg [(AV.cel (AV.prj r4929 0) 0), (AV.cel (AV.prj r4929 0) 1), (AV.cel (AV.prj r4929 0) 2), (AV.cel (AV.prj r4929 0) 3)]), (AV.bin Go.BinOp.add r2689 (AV.int 1))] (Sh.tup [(Sh.row 59 5 true), Sh.sc]) r6273) ∧
    ((AV.binOk Go.BinOp.neq (AV.prj r2881 1) (AV.int 0)) ∧
    ((AV.isBool (AV.bin Go.BinOp.neq (AV.prj r2881 1) (AV.int 0))) ∧
    ((isF (AV.bin Go.BinOp.neq (AV.prj r2881 1) (AV.int 0))) ∧
    ((AV.binOk Go.BinOp.neq (AV.prj r3329 2) (AV.int 0)) ∧
    ((AV.isBool (AV.bin Go.BinOp.neq (AV.prj r2881 1) (AV.int 0))) ∧
    ((isF (AV.bin Go.BinOp.neq (AV.prj r2881 1) (AV.int 0))) ∧
    ((AV.isBool (AV.bin Go.BinOp.neq (AV.prj r3329 2) (AV.int 0))) ∧
    ((isF (AV.bin Go.BinOp.neq (AV.prj r3329 2) (AV.int 0))) ∧
    ((AV.binOk Go.BinOp.neq (AV.prj r4033 1) (AV.int 0)) ∧
    ((AV.isBool (AV.bin Go.BinOp.neq (AV.prj r3329 2) (AV.int 0))) ∧
    ((isF (AV.bin Go.BinOp.neq (AV.prj r3329 2) (AV.int 0))) ∧
    ((AV.isBool (AV.bin Go.BinOp.neq (AV.prj r4033 1) (AV.int 0))) ∧
    ((isF (AV.bin Go.BinOp.neq (AV.prj r4033 1) (AV.int 0))) ∧
    ((AV.binOk Go.BinOp.neq (AV.prj r4481 1) (AV.int 0)) ∧
    ((AV.isBool (AV.bin Go.BinOp.neq (AV.prj r4033 1) (AV.int 0))) ∧
    ((isF (AV.bin Go.BinOp.neq (AV.prj r4033 1) (AV.int 0))) ∧
    ((AV.isBool (AV.bin Go.BinOp.neq (AV.prj r4481 1) (AV.int 0))) ∧
    ((isF (AV.bin Go.BinOp.neq (AV.prj r4481 1) (AV.int 0))) ∧
    ((AV.binOk Go.BinOp.neq (AV.prj r4929 2) (AV.int 0)) ∧
    ((AV.isBool (AV.bin Go.BinOp.neq (AV.prj r4481 1) (AV.int 0))) ∧
    ((isF (AV.bin Go.BinOp.neq (AV.prj r4481 1) (AV.int 0))) ∧
    ((AV.isBool (AV.bin Go.BinOp.neq (AV.prj r4929 2) (AV.int 0))) ∧
    ((isF (AV.bin Go.BinOp.neq (AV.prj r4929 2) (AV.int 0))) ∧
    ((AV.binOk Go.BinOp.neq (AV.prj r5633 1) (AV.int 0)) ∧
    ((AV.isBool (AV.bin Go.BinOp.neq (AV.prj r4929 2) (AV.int 0))) ∧
    ((isF (AV.bin Go.BinOp.neq (AV.prj r4929 2) (AV.int 0))) ∧
    ((AV.isBool (AV.bin Go.BinOp.neq (AV.prj r5633 1) (AV.int 0))) ∧
    ((isF (AV.bin Go.BinOp.neq (AV.prj r5633 1) (AV.int 0))) ∧
    ((AV.binOk Go.BinOp.neq (AV.prj r6273 1) (AV.int 0)) ∧
    ((AV.isBool (AV.bin Go.BinOp.neq (AV.prj r5633 1) (AV.int 0))) ∧
    ((isF (AV.bin Go.BinOp.neq (AV.prj r5633 1) (AV.int 0))) ∧
    ((AV.isBool (AV.bin Go.BinOp.neq (AV.prj r6273 1) (AV.int 0))) ∧
    ((isF (AV.bin Go.BinOp.neq (AV.prj r6273 1) (AV.int 0))) ∧
    ((AV.isBool (AV.bin Go.BinOp.neq (AV.prj r6273 1) (AV.int 0))) ∧
    ((isF (AV.bin Go.BinOp.neq (AV.prj r6273 1) (AV.int 0))) ∧
    ((AV.isBool (AV.prj r3329 1)) ∧
    ((isF (AV.prj r3329 1)) ∧
    ((AV.unOk Go.UnOp.not (AV.prj r4929 1)) ∧
    ((AV.isBool (AV.prj r3329 1)) ∧
    ((isF (AV.prj r3329 1)) ∧
    ((AV.isBool (AV.un Go.UnOp.not (AV.prj r4929 1))) ∧
    ((isF (AV.un Go.UnOp.not (AV.prj r4929 1))) ∧
    ((AV.eqPlOk [(0, EK.str), (1, (EK.int Go.IntKind.i64)), (2, (EK.int Go.IntKind.i64)), (3, EK.str)] [(AV.cel (AV.prj r1793 0) 0), (AV.cel (AV.prj r1793 0) 1), (AV.cel (AV.prj r1793 0) 2), (AV.cel (AV.prj r1793 0) 3)] [(AV.cel (AV.prj r3329 0) 0), (AV.cel (AV.prj r3329 0) 1), (AV.cel (AV.prj r3329 0) 2), (AV.cel (AV.prj r3329 0) 3)]) ∧
    ((AV.isBool (AV.un Go.UnOp.not (AV.prj r4929 1))) ∧
    ((isF (AV.un Go.UnOp.not (AV.prj r4929 1))) ∧
    ((AV.isBool (AV.nePl [(0, EK.str), (1, (EK.int Go.IntKind.i64)), (2, (EK.int Go.IntKind.i64)), (3, EK.str)] [(AV.cel (AV.prj r1793 0) 0), (AV.cel (AV.prj r1793 0) 1), (AV.cel (AV.prj r1793 0) 2), (AV.cel (AV.prj r1793 0) 3)] [(AV.cel (AV.prj r3329 0) 0), (AV.cel (AV.prj r3329 0) 1), (AV.cel (AV.prj r3329 0) 2), (AV.cel (AV.prj r3329 0) 3)])) ∧
    ((isF (AV.nePl [(0, EK.str), (1, (EK.int Go.IntKind.i64)), (2, (EK.int Go.IntKind.i64)), (3, EK.str)] [(AV.cel (AV.prj r1793 0) 0), (AV.cel (AV.prj r1793 0) 1), (AV.cel (AV.prj r1793 0) 2), (AV.cel (AV.prj r1793 0) 3)] [(AV.cel (AV.prj r3329 0) 0), (AV.cel (AV.prj r3329 0) 1), (AV.cel (AV.prj r3329 0) 2), (AV.cel (AV.prj r3329 0) 3)])) ∧
    ((AV.eqPlOk [(0, EK.str), (1, (EK.int Go.IntKind.i64)), (2, (EK.int Go.IntKind.i64)), (3, EK.str)] [(AV.cel (AV.prj r1793 0) 0), (AV.cel (AV.prj r1793 0) 1), (AV.cel (AV.prj r1793 0) 2), (AV.cel (AV.prj r1793 0) 3)] [(AV.cel (AV.prj r4929 0) 0), (AV.cel (AV.prj r4929 0) 1), (AV.cel (AV.prj r4929 0) 2), (AV.cel (AV.prj r4929 0) 3)]) ∧
    ((AV.isBool (AV.nePl [(0, EK.str), (1, (EK.int Go.IntKind.i64)), (2, (EK.int Go.IntKind.i64)), (3, EK.str)] [(AV.cel (AV.prj r1793 0) 0), (AV.cel (AV.prj r1793 0) 1), (AV.cel (AV.prj r1793 0) 2), (AV.cel (AV.prj r1793 0) 3)] [(AV.cel (AV.prj r3329 0) 0), (AV.cel (AV.prj r3329 0) 1), (AV.cel (AV.prj r3329 0) 2), (AV.cel (AV.prj r3329 0) 3)])) ∧
    ((isF (AV.nePl [(0, EK.str), (1, (EK.int Go.IntKind.i64)), (2, (EK.int Go.IntKind.i64)), (3, EK.str)] [(AV.cel (AV.prj r1793 0) 0), (AV.cel (AV.prj r1793 0) 1), (AV.cel (AV.prj r1793 0) 2), (AV.cel (AV.prj r1793 0) 3)] [(AV.cel (AV.prj r3329 0) 0), (AV.cel (AV.prj r3329 0) 1), (AV.cel (AV.prj r3329 0) 2), (AV.cel (AV.prj r3329 0) 3)])) ∧
    ((AV.isBool (AV.nePl [(0, EK.str), (1, (EK.int Go.IntKind.i64)), (2, (EK.int Go.IntKind.i64)), (3, EK.str)] [(AV.cel (AV.prj r1793 0) 0), (AV.cel (AV.prj r1793 0) 1), (AV.cel (AV.prj r1793 0) 2), (AV.cel (AV.prj r1793 0) 3)] [(AV.cel (AV.prj r4929 0) 0), (AV.cel (AV.prj r4929 0) 1), (AV.cel (AV.prj r4929 0) 2), (AV.cel (AV.prj r4929 0) 3)])) ∧
    ((isF (AV.nePl [(0, EK.str), (1, (EK.int Go.IntKind.i64)), (2, (EK.int Go.IntKind.i64)), (3, EK.str)] [(AV.cel (AV.prj r1793 0) 0), (AV.cel (AV.prj r1793 0) 1), (AV.cel (AV.prj r1793 0) 2), (AV.cel (AV.prj r1793 0) 3)] [(AV.cel (AV.prj r4929 0) 0), (AV.cel (AV.prj r4929 0) 1), (AV.cel (AV.prj r4929 0) 2), (AV.cel (AV.prj r4929 0) 3)])) ∧
    ((AV.binOk Go.BinOp.neq (AV.prj r5633 0) (AV.int 0)) ∧
    ((AV.isBool (AV.nePl [(0, EK.str), (1, (EK.int Go.IntKind.i64)), (2, (EK.int Go.IntKind.i64)), (3, EK.str)] [(AV.cel (AV.prj r1793 0) 0), (AV.cel (AV.prj r1793 0) 1), (AV.cel (AV.prj r1793 0) 2), (AV.cel (AV.prj r1793 0) 3)] [(AV.cel (AV.prj r4929 0) 0), (AV.cel (AV.prj r4929 0) 1), (AV.cel (AV.prj r4929 0) 2), (AV.cel (AV.prj r4929 0) 3)])) ∧
    ((isF (AV.nePl [(0, EK.str), (1, (EK.int Go.IntKind.i64)), (2, (EK.int Go.IntKind.i64)), (3, EK.str)] [(AV.cel (AV.prj r1793 0) 0), (AV.cel (AV.prj r1793 0) 1), (AV.cel (AV.prj r1793 0) 2), (AV.cel (AV.prj r1793 0) 3)] [(AV.cel (AV.prj r4929 0) 0), (AV.cel (AV.prj r4929 0) 1), (AV.cel (AV.prj r4929 0) 2), (AV.cel (AV.prj r4929 0) 3)])) ∧
    ((AV.isBool (AV.bin Go.BinOp.neq (AV.prj r5633 0) (AV.int 0))) ∧
    ((isF (AV.bin Go.BinOp.neq (AV.prj r5633 0) (AV.int 0))) ∧
    ((AV.binOk Go.BinOp.neq (AV.len (AV.prj r4033 0)) (AV.int 1)) ∧
    ((AV.isBool (AV.bin Go.BinOp.neq (AV.prj r5633 0) (AV.int 0))) ∧
    ((isF (AV.bin Go.BinOp.neq (AV.prj r5633 0) (AV.int 0))) ∧
    ((AV.isBool (AV.bin Go.BinOp.neq (AV.len (AV.prj r4033 0)) (AV.int 1))) ∧
    ((isF (AV.bin Go.BinOp.neq (AV.len (AV.prj r4033 0)) (AV.int 1))) ∧
    ((AV.binOk Go.BinOp.neq (AV.len (AV.prj r6273 0)) (AV.int 0)) ∧
    ((AV.isBool (AV.bin Go.BinOp.neq (AV.len (AV.prj r4033 0)) (AV.int 1))) ∧
    ((isF (AV.bin Go.BinOp.neq (AV.len (AV.prj r4033 0)) (AV.int 1))) ∧
    ((AV.isBool (AV.bin Go.BinOp.neq (AV.len (AV.prj r6273 0)) (AV.int 0))) ∧
    ((isF (AV.bin Go.BinOp.neq (AV.len (AV.prj r6273 0)) (AV.int 0))) ∧
    ((AV.binOk Go.BinOp.neq (AV.cel (AV.prj r1793 0) 1) (AV.int 0)) ∧
    ((AV.isBool (AV.bin Go.BinOp.neq (AV.cel (AV.prj r1793 0) 1) (AV.int 0))) ∧
    (((isT (AV.bin Go.BinOp.neq (AV.cel (AV.prj r1793 0) 1) (AV.int 0))) →
      ((AV.flat (AV.bool true)) ∧
      (fSame (AV.bool true) r))) ∧
    ((isF (AV.bin Go.BinOp.neq (AV.cel (AV.prj r1793 0) 1) (AV.int 0))) →
      ((AV.binOk Go.BinOp.add (AV.cel (AV.prj r4929 0) 2) (AV.int 1)) ∧
      ((AV.binOk Go.BinOp.rem (AV.bin Go.BinOp.add (AV.cel (AV.prj r4929 0) 2) (AV.int 1)) (AV.int 60001)) ∧
      ((AV.isOne (AV.bin Go.BinOp.rem (AV.bin Go.BinOp.add (AV.cel (AV.prj r4929 0) 2) (AV.int 1)) (AV.int 60001))) ∧
      ((AV.binOk Go.BinOp.add r2689 (AV.int 1)) ∧
      (∃ r11137 : AV, ((Fn Tryd.prog 16 [(AV.prj r4033 0), (AV.agg [(AV.cel (AV.prj r4929 0) 0), (AV.cel (AV.prj r4929 0) 1), (AV.bin Go.BinOp.rem (AV.bin Go.BinOp.add (AV.cel (AV.prj r4929 0) 2) (AV.int 1)) (AV.int 60001)), (AV.cel (AV.prj r4929 0) 3)]), (AV.bin Go.BinOp.add r2689 (AV.int 1))] (Sh.tup [(Sh.row 59 5 true), Sh.sc]) r11137) ∧
      ((AV.binOk Go.BinOp.eql (AV.prj r11137 1) (AV.int 17)) ∧
      ((AV.flat (AV.bin Go.BinOp.eql (AV.prj r11137 1) (AV.int 17))) ∧
      (fSame (AV.bin Go.BinOp.eql (AV.prj r11137 1) (AV.int 17)) r)))))))))))))))))))))))))))))))))))))))))))))))))))))))))))))))))))))))))))))))))))))))))))))))))))))))))))))))))))))))))))))))))))))) := by kernel_rfl
end PhF
end Go.Proofs.YtbeegkheobomaaaDoor
