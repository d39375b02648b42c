/- readback's laws: what the run ends in. -/
import Derived.Test.YtdneccmpojidmaaDoorVal
namespace Go.Proofs.YtdneccmpojidmaaDoor
open Go.RowKit
set_option linter.unusedVariables false
set_option maxRecDepth 100000
namespace RbG
--GAMMA
def Γ : FuncId → Option Ca := fun f =>
  if f = 34 ∨ f = 31 ∨ f = 22 ∨ f = 29 ∨ f = 35 ∨ f = 30 ∨ f = 23 ∨ f = 9 ∨ f = 12 ∨ f = 26 ∨ f = 28 ∨ f = 24 ∨ f = 11 ∨ f = 13 ∨ f = 15 ∨ f = 7 ∨ f = 21 ∨ f = 16 ∨ f = 20 then some (.fn .sc)
  else if f = 8 then some (.fn (.tup [.sc, .sc]))
  else if f = 10 ∨ f = 17 then some (.fn (.tup [.row 40 5 true, .sc]))
  else if f = 18 then some (.fn (.tup [.row 40 5 true, .row 23 4 true, .sc]))
  else if f = 19 then some (.fn (.tup [.row 23 4 true, .sc]))
  else if f = 14 then some (.fn (.row 40 5 true))
  else if f = 27 then some (.upd true)
  else some .inl
def ann : FuncId → Nat → LoopEx := fun f r => ⟨[], [], [], []⟩
--END GAMMA
theorem fact_form ( r : AV) : fnF Tryd.prog Γ ann 3 7 Tryd.f7 (Tryd.f7.body.getD .skip) ((.t (.t (.t (.t (.t (.t (.t (.t (.t (.t (.t (.t .nil))))))))))))) [] (.sc) r = ((∃ r65 : AV, ((Fn Tryd.prog 21 [(AV.int 9000)] Sh.sc r65) ∧
(∃ r129 : AV, ((Fn Tryd.prog 21 [(AV.int 8000)] Sh.sc r129) ∧
(∃ r193 : AV, ((Fn Tryd.prog 8 [r65, r129] (Sh.tup [Sh.sc, Sh.sc]) r193) ∧
(∃ r577 : AV, ((Fn Tryd.prog 21 [(AV.int 9000)] Sh.sc r577) ∧
(∃ r641 : AV, ((Fn Tryd.prog 10 [(AV.lit (Value.slice none 0 0)), r577, (AV.int 5)] (Sh.tup [(Sh.row 40 5 true), Sh.sc]) r641) ∧
(∃ r1089 : AV, ((Fn Tryd.prog 21 [(AV.int 8000)] Sh.sc r1089) ∧
(∃ r1153 : AV, ((Fn Tryd.prog 17 [(AV.prj r641 0), r1089, (AV.int 6)] (Sh.tup [(Sh.row 40 5 true), Sh.sc]) r1153) ∧
(∃ r1601 : AV, ((Fn Tryd.prog 21 [(AV.int 9000)] Sh.sc r1601) ∧
(∃ r1665 : AV, ((Fn Tryd.prog 17 [(AV.prj r641 0), r1601, (AV.int 6)] (Sh.tup [(Sh.row 40 5 true), Sh.sc]) r1665) ∧
(∃ r2113 : AV, ((Fn Tryd.prog 18 [(AV.prj r641 0), (AV.int 46)] (Sh.tup [(Sh.row 40 5 true), (Sh.row 23 4 true), Sh.sc]) r2113) ∧
(∃ r2689 : AV, ((Fn Tryd.prog 19 [(AV.prj r641 0), (AV.lit (Value.string ⟨#[65, 49]⟩))] (Sh.tup [(Sh.row 23 4 true), Sh.sc]) r2689) ∧
((AV.binOk Go.BinOp.eql (AV.prj r193 1) (AV.int 0)) ∧
((AV.isBool (AV.bin Go.BinOp.eql (AV.prj r193 1) (AV.int 0))) ∧
((isT (AV.bin Go.BinOp.eql (AV.prj r193 1) (AV.int 0))) ∧
((AV.binOk Go.BinOp.eql (AV.prj r641 1) (AV.int 0)) ∧
((AV.isBool (AV.bin Go.BinOp.eql (AV.prj r193 1) (AV.int 0))) ∧
((isT (AV.bin Go.BinOp.eql (AV.prj r193 1) (AV.int 0))) ∧
((AV.isBool (AV.bin Go.BinOp.eql (AV.prj r641 1) (AV.int 0))) ∧
((isT (AV.bin Go.BinOp.eql (AV.prj r641 1) (AV.int 0))) ∧
((AV.binOk Go.BinOp.eql (AV.prj r1153 1) (AV.int 17)) ∧
((AV.isBool (AV.bin Go.BinOp.eql (AV.prj r641 1) (AV.int 0))) ∧
((isT (AV.bin Go.BinOp.eql (AV.prj r641 1) (AV.int 0))) ∧
((AV.isBool (AV.bin Go.BinOp.eql (AV.prj r1153 1) (AV.int 17))) ∧
((isT (AV.bin Go.BinOp.eql (AV.prj r1153 1) (AV.int 17))) ∧
((AV.binOk Go.BinOp.eql (AV.prj r1665 1) (AV.int 0)) ∧
((AV.isBool (AV.bin Go.BinOp.eql (AV.prj r1153 1) (AV.int 17))) ∧
((isT (AV.bin Go.BinOp.eql (AV.prj r1153 1) (AV.int 17))) ∧
((AV.isBool (AV.bin Go.BinOp.eql (AV.prj r1665 1) (AV.int 0))) ∧
((isT (AV.bin Go.BinOp.eql (AV.prj r1665 1) (AV.int 0))) ∧
((AV.binOk Go.BinOp.eql (AV.prj r2113 2) (AV.int 0)) ∧
((AV.isBool (AV.bin Go.BinOp.eql (AV.prj r1665 1) (AV.int 0))) ∧
((isT (AV.bin Go.BinOp.eql (AV.prj r1665 1) (AV.int 0))) ∧
((AV.isBool (AV.bin Go.BinOp.eql (AV.prj r2113 2) (AV.int 0))) ∧
((isT (AV.bin Go.BinOp.eql (AV.prj r2113 2) (AV.int 0))) ∧
((AV.binOk Go.BinOp.eql (AV.prj r2689 1) (AV.int 0)) ∧
((AV.isBool (AV.bin Go.BinOp.eql (AV.prj r2113 2) (AV.int 0))) ∧
((isT (AV.bin Go.BinOp.eql (AV.prj r2113 2) (AV.int 0))) ∧
((AV.isBool (AV.bin Go.BinOp.eql (AV.prj r2689 1) (AV.int 0))) ∧
((isT (AV.bin Go.BinOp.eql (AV.prj r2689 1) (AV.int 0))) ∧
((AV.binOk Go.BinOp.eql (AV.prj r193 0) (AV.int 4)) ∧
((AV.isBool (AV.bin Go.BinOp.eql (AV.prj r2689 1) (AV.int 0))) ∧
((isT (AV.bin Go.BinOp.eql (AV.prj r2689 1) (AV.int 0))) ∧
((AV.isBool (AV.bin Go.BinOp.eql (AV.prj r193 0) (AV.int 4))) ∧
((isT (AV.bin Go.BinOp.eql (AV.prj r193 0) (AV.int 4))) ∧
(∃ r4865 : AV, ((Fn Tryd.prog 21 [(AV.int 9000)] Sh.sc r4865) ∧
((AV.isAgg r4865 4) ∧
(∃ r5057 : AV, ((Fn Tryd.prog 16 [(AV.prj r641 0), (AV.mk 5 [[(AV.cel r4865 0), (AV.cel r4865 1), (AV.cel r4865 2), (AV.cel r4865 3), (AV.int 5)]])] Sh.sc r5057) ∧
((AV.isBool (AV.bin Go.BinOp.eql (AV.prj r193 0) (AV.int 4))) ∧
((isT (AV.bin Go.BinOp.eql (AV.prj r193 0) (AV.int 4))) ∧
((AV.isBool r5057) ∧
((isT r5057) ∧
((AV.binOk Go.BinOp.add (AV.len (AV.prj r1665 0)) (AV.len (AV.prj r2113 0))) ∧
((AV.binOk Go.BinOp.eql (AV.bin Go.BinOp.add (AV.len (AV.prj r1665 0)) (AV.len (AV.prj r2113 0))) (AV.int 0)) ∧
((AV.isBool r5057) ∧
((isT r5057) ∧
((AV.isBool (AV.bin Go.BinOp.eql (AV.bin Go.BinOp.add (AV.len (AV.prj r1665 0)) (AV.len (AV.prj r2113 0))) (AV.int 0))) ∧
((isT (AV.bin Go.BinOp.eql (AV.bin Go.BinOp.add (AV.len (AV.prj r1665 0)) (AV.len (AV.prj r2113 0))) (AV.int 0))) ∧
((AV.binOk Go.BinOp.eql (AV.len (AV.prj r2113 1)) (AV.int 1)) ∧
((AV.isBool (AV.bin Go.BinOp.eql (AV.bin Go.BinOp.add (AV.len (AV.prj r1665 0)) (AV.len (AV.prj r2113 0))) (AV.int 0))) ∧
((isT (AV.bin Go.BinOp.eql (AV.bin Go.BinOp.add (AV.len (AV.prj r1665 0)) (AV.len (AV.prj r2113 0))) (AV.int 0))) ∧
((AV.isBool (AV.bin Go.BinOp.eql (AV.len (AV.prj r2113 1)) (AV.int 1))) ∧
((isT (AV.bin Go.BinOp.eql (AV.len (AV.prj r2113 1)) (AV.int 1))) ∧
((AV.inb (AV.prj r2113 1) (AV.int 0)) ∧
((AV.inb (AV.prj r2113 1) (AV.int 0)) ∧
(∃ r6273 : AV, ((Fn Tryd.prog 21 [(AV.int 9000)] Sh.sc r6273) ∧
((AV.eqPlOk [(0, EK.str), (1, (EK.int Go.IntKind.i64)), (2, (EK.int Go.IntKind.i64)), (3, EK.str)] [(AV.cel (AV.atAgg (AV.prj r2113 1) (AV.int 0) 0 4) 0), (AV.cel (AV.atAgg (AV.prj r2113 1) (AV.int 0) 0 4) 1), (AV.cel (AV.atAgg (AV.prj r2113 1) (AV.int 0) 0 4) 2), (AV.cel (AV.atAgg (AV.prj r2113 1) (AV.int 0) 0 4) 3)] [(AV.cel r6273 0), (AV.cel r6273 1), (AV.cel r6273 2), (AV.cel r6273 3)]) ∧
((AV.isAgg (AV.atAgg (AV.prj r2113 1) (AV.int 0) 0 4) 4) ∧
((AV.isAgg r6273 4) ∧
((AV.isBool (AV.bin Go.BinOp.eql (AV.len (AV.prj r2113 1)) (AV.int 1))) ∧
((isT (AV.bin Go.BinOp.eql (AV.len (AV.prj r2113 1)) (AV.int 1))) ∧
((AV.isBool (AV.eqPl [(0, EK.str), (1, (EK.int Go.IntKind.i64)), (2, (EK.int Go.IntKind.i64)), (3, EK.str)] [(AV.cel (AV.atAgg (AV.prj r2113 1) (AV.int 0) 0 4) 0), (AV.cel (AV.atAgg (AV.prj r2113 1) (AV.int 0) 0 4) 1), (AV.cel (AV.atAgg (AV.prj r2113 1) (AV.int 0) 0 4) 2), (AV.cel (AV.atAgg (AV.prj r2113 1) (AV.int 0) 0 4) 3)] [(AV.cel r6273 0), (AV.cel r6273 1), (AV.cel r6273 2), (AV.cel r6273 3)])) ∧
((isT (AV.eqPl [(0, EK.str), (1, (EK.int Go.IntKind.i64)), (2, (EK.int Go.IntKind.i64)), (3, EK.str)] [(AV.cel (AV.atAgg (AV.prj r2113 1) (AV.int 0) 0 4) 0), (AV.cel (AV.atAgg (AV.prj r2113 1) (AV.int 0) 0 4) 1), (AV.cel (AV.atAgg (AV.prj r2113 1) (AV.int 0) 0 4) 2), (AV.cel (AV.atAgg (AV.prj r2113 1) (AV.int 0) 0 4) 3)] [(AV.cel r6273 0), (AV.cel r6273 1), (AV.cel r6273 2), (AV.cel r6273 3)])) ∧
(∃ r6657 : AV, ((Fn Tryd.prog 20 [(AV.prj r2689 0), (AV.prj r2113 1)] Sh.sc r6657) ∧
((AV.isBool (AV.eqPl [(0, EK.str), (1, (EK.int Go.IntKind.i64)), (2, (EK.int Go.IntKind.i64)), (3, EK.str)] [(AV.cel (AV.atAgg (AV.prj r2113 1) (AV.int 0) 0 4) 0), (AV.cel (AV.atAgg (AV.prj r2113 1) (AV.int 0) 0 4) 1), (AV.cel (AV.atAgg (AV.prj r2113 1) (AV.int 0) 0 4) 2), (AV.cel (AV.atAgg (AV.prj r2113 1) (AV.int 0) 0 4) 3)] [(AV.cel r6273 0), (AV.cel r6273 1), (AV.cel r6273 2), (AV.cel r6273 3)])) ∧
((isT (AV.eqPl [(0, EK.str), (1, (EK.int Go.IntKind.i64)), (2, (EK.int Go.IntKind.i64)), (3, EK.str)] [(AV.cel (AV.atAgg (AV.prj r2113 1) (AV.int 0) 0 4) 0), (AV.cel (AV.atAgg (AV.prj r2113 1) (AV.int 0) 0 4) 1), (AV.cel (AV.atAgg (AV.prj r2113 1) (AV.int 0) 0 4) 2), (AV.cel (AV.atAgg (AV.prj r2113 1) (AV.int 0) 0 4) 3)] [(AV.cel r6273 0), (AV.cel r6273 1), (AV.cel r6273 2), (AV.cel r6273 3)])) ∧
((AV.isBool r6657) ∧
((isT r6657) ∧
((AV.room (AV.prj r641 0) (AV.prj r641 0) 56) ∧
(∃ r7041 : AV, ((Fn Tryd.prog 12 [(AV.app 5 (AV.prj r641 0) (AV.prj r641 0))] Sh.sc r7041) ∧
((AV.binOk Go.BinOp.eql r7041 (AV.int 7)) ∧
((AV.isBool r6657) ∧
((isT r6657) ∧
((AV.flat (AV.bin Go.BinOp.eql r7041 (AV.int 7))) ∧
(fSame (AV.bin Go.BinOp.eql r7041 (AV.int 7)) r))))))))))))))))))))))))))))))))))))))))))))))))))))))))))))))))))))))))))))))))))))))))))))))))))))) := by kernel_rfl
theorem differs_form (x0 x1 r : AV) : fnF Tryd.prog Γ ann 3 3 Tryd.f3 (Tryd.f3.body.getD .skip) ((.f (.both (.both (.t .nil) (.both .nil (.t .nil))) (.t (.t .nil))))) [x0, x1] (.sc) r = (((AV.isAgg x0 4) ∧
((AV.isAgg x1 4) ∧
(∃ r193 : AV, ((Fn Tryd.prog 7 [] Sh.sc r193) ∧
((AV.unOk Go.UnOp.not r193) ∧
((AV.isBool (AV.un Go.UnOp.not r193)) ∧
((isF (AV.un Go.UnOp.not r193)) ∧
(∃ r449 : AV, ((Fn Tryd.prog 8 [(AV.agg [(AV.cel x0 0), (AV.cel x0 1), (AV.cel x0 2), (AV.cel x0 3)]), (AV.agg [(AV.cel x1 0), (AV.cel x1 1), (AV.cel x1 2), (AV.cel x1 3)])] (Sh.tup [Sh.sc, Sh.sc]) r449) ∧
(∃ r897 : AV, ((Fn Tryd.prog 9 [(AV.agg [(AV.cel x0 0), (AV.cel x0 1), (AV.cel x0 2), (AV.cel x0 3)])] Sh.sc r897) ∧
((AV.binOk Go.BinOp.eql r897 (AV.int 0)) ∧
((AV.isBool (AV.bin Go.BinOp.eql r897 (AV.int 0))) ∧
(((isT (AV.bin Go.BinOp.eql r897 (AV.int 0))) →
  (∃ r1217 : AV, ((Fn Tryd.prog 9 [(AV.agg [(AV.cel x1 0), (AV.cel x1 1), (AV.cel x1 2), (AV.cel x1 3)])] Sh.sc r1217) ∧
  ((AV.binOk Go.BinOp.neq r1217 (AV.int 0)) ∧
  ((AV.isBool (AV.bin Go.BinOp.neq r1217 (AV.int 0))) ∧
  (((isT (AV.bin Go.BinOp.neq r1217 (AV.int 0))) →
    ((AV.binOk Go.BinOp.eql (AV.prj r449 1) r1217) ∧
    ((AV.isBool (AV.bin Go.BinOp.eql (AV.prj r449 1) r1217)) ∧
    ((isT (AV.bin Go.BinOp.eql (AV.prj r449 1) r1217)) ∧
    ((AV.binOk Go.BinOp.eql (AV.prj r449 0) (AV.int 0)) ∧
    ((AV.isBool (AV.bin Go.BinOp.eql (AV.prj r449 1) r1217)) ∧
    ((isT (AV.bin Go.BinOp.eql (AV.prj r449 1) r1217)) ∧
    ((AV.flat (AV.bin Go.BinOp.eql (AV.prj r449 0) (AV.int 0))) ∧
    (fSame (AV.bin Go.BinOp.eql (AV.prj r449 0) (AV.int 0)) r))))))))) ∧
  ((isF (AV.bin Go.BinOp.neq r1217 (AV.int 0))) →
    ((AV.binOk Go.BinOp.neq (AV.cel x0 0) (AV.cel x1 0)) ∧
    ((AV.binOk Go.BinOp.neq (AV.cel x0 1) (AV.cel x1 1)) ∧
    ((AV.binOk Go.BinOp.neq (AV.cel x0 2) (AV.cel x1 2)) ∧
    ((AV.binOk Go.BinOp.neq (AV.cel x0 3) (AV.cel x1 3)) ∧
    ((AV.isOne (AV.bin Go.BinOp.neq (AV.cel x0 0) (AV.cel x1 0))) ∧
    ((AV.isOne (AV.bin Go.BinOp.neq (AV.cel x0 1) (AV.cel x1 1))) ∧
    ((AV.isOne (AV.bin Go.BinOp.neq (AV.cel x0 2) (AV.cel x1 2))) ∧
    ((AV.isOne (AV.bin Go.BinOp.neq (AV.cel x0 3) (AV.cel x1 3))) ∧
    (fLoop 3009 [(AV.int 0), (AV.int 0)] fun ys3009 again3009 =>
      ((AV.binOk Go.BinOp.lss (ys3009.getD 1 default) (AV.len (AV.mk 1 [[(AV.bin Go.BinOp.neq (AV.cel x0 0) (AV.cel x1 0))], [(AV.bin Go.BinOp.neq (AV.cel x0 1) (AV.cel x1 1))], [(AV.bin Go.BinOp.neq (AV.cel x0 2) (AV.cel x1 2))], [(AV.bin Go.BinOp.neq (AV.cel x0 3) (AV.cel x1 3))]]))) ∧
      ((AV.isBool (AV.bin Go.BinOp.lss (ys3009.getD 1 default) (AV.len (AV.mk 1 [[(AV.bin Go.BinOp.neq (AV.cel x0 0) (AV.cel x1 0))], [(AV.bin Go.BinOp.neq (AV.cel x0 1) (AV.cel x1 1))], [(AV.bin Go.BinOp.neq (AV.cel x0 2) (AV.cel x1 2))], [(AV.bin Go.BinOp.neq (AV.cel x0 3) (AV.cel x1 3))]])))) ∧
      (((isT (AV.bin Go.BinOp.lss (ys3009.getD 1 default) (AV.len (AV.mk 1 [[(AV.bin Go.BinOp.neq (AV.cel x0 0) (AV.cel x1 0))], [(AV.bin Go.BinOp.neq (AV.cel x0 1) (AV.cel x1 1))], [(AV.bin Go.BinOp.neq (AV.cel x0 2) (AV.cel x1 2))], [(AV.bin Go.BinOp.neq (AV.cel x0 3) (AV.cel x1 3))]])))) →
        ((AV.inb (AV.mk 1 [[(AV.bin Go.BinOp.neq (AV.cel x0 0) (AV.cel x1 0))], [(AV.bin Go.BinOp.neq (AV.cel x0 1) (AV.cel x1 1))], [(AV.bin Go.BinOp.neq (AV.cel x0 2) (AV.cel x1 2))], [(AV.bin Go.BinOp.neq (AV.cel x0 3) (AV.cel x1 3))]]) (ys3009.getD 1 default)) ∧
        ((AV.inb (AV.mk 1 [[(AV.bin Go.BinOp.neq (AV.cel x0 0) (AV.cel x1 0))], [(AV.bin Go.BinOp.neq (AV.cel x0 1) (AV.cel x1 1))], [(AV.bin Go.BinOp.neq (AV.cel x0 2) (AV.cel x1 2))], [(AV.bin Go.BinOp.neq (AV.cel x0 3) (AV.cel x1 3))]]) (ys3009.getD 1 default)) ∧
        ((AV.isBool (AV.at (AV.mk 1 [[(AV.bin Go.BinOp.neq (AV.cel x0 0) (AV.cel x1 0))], [(AV.bin Go.BinOp.neq (AV.cel x0 1) (AV.cel x1 1))], [(AV.bin Go.BinOp.neq (AV.cel x0 2) (AV.cel x1 2))], [(AV.bin Go.BinOp.neq (AV.cel x0 3) (AV.cel x1 3))]]) (ys3009.getD 1 default) 0)) ∧
        (((isT (AV.at (AV.mk 1 [[(AV.bin Go.BinOp.neq (AV.cel x0 0) (AV.cel x1 0))], [(AV.bin Go.BinOp.neq (AV.cel x0 1) (AV.cel x1 1))], [(AV.bin Go.BinOp.neq (AV.cel x0 2) (AV.cel x1 2))], [(AV.bin Go.BinOp.neq (AV.cel x0 3) (AV.cel x1 3))]]) (ys3009.getD 1 default) 0)) →
          ((AV.shfOk (AV.int 1) (ys3009.getD 1 default)) ∧
          ((AV.binOk Go.BinOp.add (ys3009.getD 0 default) (AV.shf Go.BinOp.shl (AV.int 1) (ys3009.getD 1 default))) ∧
          ((AV.binOk Go.BinOp.add (ys3009.getD 1 default) (AV.int 1)) ∧
          (again3009 [(AV.bin Go.BinOp.add (ys3009.getD 0 default) (AV.shf Go.BinOp.shl (AV.int 1) (ys3009.getD 1 default))), (AV.bin Go.BinOp.add (ys3009.getD 1 default) (AV.int 1))]))))) ∧
        ((isF (AV.at (AV.mk 1 [[(AV.bin Go.BinOp.neq (AV.cel x0 0) (AV.cel x1 0))], [(AV.bin Go.BinOp.neq (AV.cel x0 1) (AV.cel x1 1))], [(AV.bin Go.BinOp.neq (AV.cel x0 2) (AV.cel x1 2))], [(AV.bin Go.BinOp.neq (AV.cel x0 3) (AV.cel x1 3))]]) (ys3009.getD 1 default) 0)) →
          ((AV.binOk Go.BinOp.add (ys3009.getD 1 default) (AV.int 1)) ∧
          (again3009 [(ys3009.getD 0 default), (AV.bin Go.BinOp.add (ys3009.getD 1 default) (AV.int 1))])))))))) ∧
      ((isF (AV.bin Go.BinOp.lss (ys3009.getD 1 default) (AV.len (AV.mk 1 [[(AV.bin Go.BinOp.neq (AV.cel x0 0) (AV.cel x1 0))], [(AV.bin Go.BinOp.neq (AV.cel x0 1) (AV.cel x1 1))], [(AV.bin Go.BinOp.neq (AV.cel x0 2) (AV.cel x1 2))], [(AV.bin Go.BinOp.neq (AV.cel x0 3) (AV.cel x1 3))]])))) →
        ((AV.binOk Go.BinOp.eql (AV.prj r449 1) (AV.int 0)) ∧
        ((AV.isBool (AV.bin Go.BinOp.eql (AV.prj r449 1) (AV.int 0))) ∧
        ((isT (AV.bin Go.BinOp.eql (AV.prj r449 1) (AV.int 0))) ∧
        ((AV.binOk Go.BinOp.eql (AV.prj r449 0) (ys3009.getD 0 default)) ∧
        ((AV.isBool (AV.bin Go.BinOp.eql (AV.prj r449 1) (AV.int 0))) ∧
        ((isT (AV.bin Go.BinOp.eql (AV.prj r449 1) (AV.int 0))) ∧
        ((AV.flat (AV.bin Go.BinOp.eql (AV.prj r449 0) (ys3009.getD 0 default))) ∧
        (fSame (AV.bin Go.BinOp.eql (AV.prj r449 0) (ys3009.getD 0 default)) r)))))))))))))))))))))))))))) ∧
((isF (AV.bin Go.BinOp.eql r897 (AV.int 0))) →
  ((AV.binOk Go.BinOp.neq r897 (AV.int 0)) ∧
  ((AV.isBool (AV.bin Go.BinOp.neq r897 (AV.int 0))) ∧
  ((isT (AV.bin Go.BinOp.neq r897 (AV.int 0))) ∧
  ((AV.binOk Go.BinOp.eql (AV.prj r449 1) r897) ∧
  ((AV.isBool (AV.bin Go.BinOp.eql (AV.prj r449 1) r897)) ∧
  ((isT (AV.bin Go.BinOp.eql (AV.prj r449 1) r897)) ∧
  ((AV.binOk Go.BinOp.eql (AV.prj r449 0) (AV.int 0)) ∧
  ((AV.isBool (AV.bin Go.BinOp.eql (AV.prj r449 1) r897)) ∧
  ((isT (AV.bin Go.BinOp.eql (AV.prj r449 1) r897)) ∧
  ((AV.flat (AV.bin Go.BinOp.eql (AV.prj r449 0) (AV.int 0))) ∧
  (fSame (AV.bin Go.BinOp.eql (AV.prj r449 0) (AV.int 0)) r))))))))))))))))))))))))))) := by kernel_rfl
theorem says_form (x0 x1 x2 r : AV) : fnF Tryd.prog Γ ann 3 4 Tryd.f4 (Tryd.f4.body.getD .skip) ((.f (.f (.both (.both (.both (.both (.t .nil) (.f (.t .nil))) (.t (.t .nil))) (.f (.t (.t .nil)))) (.f (.f (.t (.t .nil)))))))) [x0, x1, x2] (.sc) r = (((AV.isAgg x1 4) ∧
(∃ r129 : AV, ((Fn Tryd.prog 7 [] Sh.sc r129) ∧
((AV.unOk Go.UnOp.not r129) ∧
((AV.isBool (AV.un Go.UnOp.not r129)) ∧
((isF (AV.un Go.UnOp.not r129)) ∧
(∃ r449 : AV, ((Fn Tryd.prog 10 [x0, (AV.agg [(AV.cel x1 0), (AV.cel x1 1), (AV.cel x1 2), (AV.cel x1 3)]), x2] (Sh.tup [(Sh.row 40 5 true), Sh.sc]) r449) ∧
(∃ r897 : AV, ((Fn Tryd.prog 11 [x0] Sh.sc r897) ∧
(∃ r1089 : AV, ((Fn Tryd.prog 12 [x0] Sh.sc r1089) ∧
((AV.binOk Go.BinOp.neq r1089 r897) ∧
((AV.isBool (AV.bin Go.BinOp.neq r1089 r897)) ∧
((isF (AV.bin Go.BinOp.neq r1089 r897)) ∧
((AV.binOk Go.BinOp.eql r897 (AV.int 0)) ∧
((AV.isBool (AV.bin Go.BinOp.eql r897 (AV.int 0))) ∧
(((isT (AV.bin Go.BinOp.eql r897 (AV.int 0))) →
  (∃ r1473 : AV, ((Fn Tryd.prog 9 [(AV.agg [(AV.cel x1 0), (AV.cel x1 1), (AV.cel x1 2), (AV.cel x1 3)])] Sh.sc r1473) ∧
  ((AV.binOk Go.BinOp.eql r1473 (AV.int 0)) ∧
  ((AV.isBool (AV.bin Go.BinOp.eql r1473 (AV.int 0))) ∧
  (((isT (AV.bin Go.BinOp.eql r1473 (AV.int 0))) →
    (∃ r1857 : AV, ((Fn Tryd.prog 13 [x0, x2] Sh.sc r1857) ∧
    (∃ r2177 : AV, ((Fn Tryd.prog 15 [x0, (AV.agg [(AV.cel x1 0), (AV.cel x1 1), (AV.cel x1 2), (AV.cel x1 3)])] Sh.sc r2177) ∧
    (∃ r2241 : AV, ((Fn Tryd.prog 14 [x0, r2177] (Sh.row 40 5 true) r2241) ∧
    ((AV.binOk Go.BinOp.eql r1857 (AV.int 0)) ∧
    ((AV.isBool (AV.bin Go.BinOp.eql r1857 (AV.int 0))) ∧
    (((isT (AV.bin Go.BinOp.eql r1857 (AV.int 0))) →
      ((AV.binOk Go.BinOp.gtr (AV.len r2241) (AV.int 11)) ∧
      ((AV.isBool (AV.bin Go.BinOp.eql r1857 (AV.int 0))) ∧
      ((isT (AV.bin Go.BinOp.eql r1857 (AV.int 0))) ∧
      ((AV.isBool (AV.bin Go.BinOp.gtr (AV.len r2241) (AV.int 11))) ∧
      (((isT (AV.bin Go.BinOp.gtr (AV.len r2241) (AV.int 11))) →
        ((AV.binOk Go.BinOp.eql (AV.prj r449 1) (AV.int 9)) ∧
        ((AV.isBool (AV.bin Go.BinOp.eql (AV.prj r449 1) (AV.int 9))) ∧
        ((isT (AV.bin Go.BinOp.eql (AV.prj r449 1) (AV.int 9))) ∧
        ((AV.binOk Go.BinOp.eql (AV.len (AV.prj r449 0)) (AV.int 0)) ∧
        ((AV.isBool (AV.bin Go.BinOp.eql (AV.prj r449 1) (AV.int 9))) ∧
        ((isT (AV.bin Go.BinOp.eql (AV.prj r449 1) (AV.int 9))) ∧
        ((AV.flat (AV.bin Go.BinOp.eql (AV.len (AV.prj r449 0)) (AV.int 0))) ∧
        (fSame (AV.bin Go.BinOp.eql (AV.len (AV.prj r449 0)) (AV.int 0)) r))))))))) ∧
      ((isF (AV.bin Go.BinOp.gtr (AV.len r2241) (AV.int 11))) →
        ((AV.binOk Go.BinOp.neq r1857 (AV.int 0)) ∧
        ((AV.isBool (AV.bin Go.BinOp.neq r1857 (AV.int 0))) ∧
        ((isF (AV.bin Go.BinOp.neq r1857 (AV.int 0))) ∧
        ((AV.binOk Go.BinOp.eql (AV.prj r449 1) (AV.int 0)) ∧
        ((AV.isBool (AV.bin Go.BinOp.eql (AV.prj r449 1) (AV.int 0))) ∧
        ((isT (AV.bin Go.BinOp.eql (AV.prj r449 1) (AV.int 0))) ∧
        ((AV.isOne x2) ∧
        ((AV.room r2241 (AV.mk 5 [[(AV.cel x1 0), (AV.cel x1 1), (AV.cel x1 2), (AV.cel x1 3), x2]]) 56) ∧
        (∃ r3585 : AV, ((Fn Tryd.prog 16 [(AV.prj r449 0), (AV.app 5 r2241 (AV.mk 5 [[(AV.cel x1 0), (AV.cel x1 1), (AV.cel x1 2), (AV.cel x1 3), x2]]))] Sh.sc r3585) ∧
        ((AV.isBool (AV.bin Go.BinOp.eql (AV.prj r449 1) (AV.int 0))) ∧
        ((isT (AV.bin Go.BinOp.eql (AV.prj r449 1) (AV.int 0))) ∧
        ((AV.flat r3585) ∧
        (fSame r3585 r))))))))))))))))))))) ∧
    ((isF (AV.bin Go.BinOp.eql r1857 (AV.int 0))) →
      ((AV.isBool (AV.bin Go.BinOp.eql r1857 (AV.int 0))) ∧
      ((isF (AV.bin Go.BinOp.eql r1857 (AV.int 0))) ∧
      ((AV.binOk Go.BinOp.neq r1857 (AV.int 0)) ∧
      ((AV.isBool (AV.bin Go.BinOp.neq r1857 (AV.int 0))) ∧
      ((isT (AV.bin Go.BinOp.neq r1857 (AV.int 0))) ∧
      ((AV.binOk Go.BinOp.eql (AV.prj r449 1) r1857) ∧
      ((AV.isBool (AV.bin Go.BinOp.eql (AV.prj r449 1) r1857)) ∧
      ((isT (AV.bin Go.BinOp.eql (AV.prj r449 1) r1857)) ∧
      ((AV.binOk Go.BinOp.eql (AV.len (AV.prj r449 0)) (AV.int 0)) ∧
      ((AV.isBool (AV.bin Go.BinOp.eql (AV.prj r449 1) r1857)) ∧
      ((isT (AV.bin Go.BinOp.eql (AV.prj r449 1) r1857)) ∧
      ((AV.flat (AV.bin Go.BinOp.eql (AV.len (AV.prj r449 0)) (AV.int 0))) ∧
      (fSame (AV.bin Go.BinOp.eql (AV.len (AV.prj r449 0)) (AV.int 0)) r)))))))))))))))))))))))) ∧
  ((isF (AV.bin Go.BinOp.eql r1473 (AV.int 0))) →
    (∃ r1921 : AV, ((Fn Tryd.prog 15 [x0, (AV.agg [(AV.cel x1 0), (AV.cel x1 1), (AV.cel x1 2), (AV.cel x1 3)])] Sh.sc r1921) ∧
    (∃ r1985 : AV, ((Fn Tryd.prog 14 [x0, r1921] (Sh.row 40 5 true) r1985) ∧
    ((AV.binOk Go.BinOp.eql r1473 (AV.int 0)) ∧
    ((AV.isBool (AV.bin Go.BinOp.eql r1473 (AV.int 0))) ∧
    ((isF (AV.bin Go.BinOp.eql r1473 (AV.int 0))) ∧
    ((AV.isBool (AV.bin Go.BinOp.eql r1473 (AV.int 0))) ∧
    ((isF (AV.bin Go.BinOp.eql r1473 (AV.int 0))) ∧
    ((AV.binOk Go.BinOp.neq r1473 (AV.int 0)) ∧
    ((AV.isBool (AV.bin Go.BinOp.neq r1473 (AV.int 0))) ∧
    ((isT (AV.bin Go.BinOp.neq r1473 (AV.int 0))) ∧
    ((AV.binOk Go.BinOp.eql (AV.prj r449 1) r1473) ∧
    ((AV.isBool (AV.bin Go.BinOp.eql (AV.prj r449 1) r1473)) ∧
    ((isT (AV.bin Go.BinOp.eql (AV.prj r449 1) r1473)) ∧
    ((AV.binOk Go.BinOp.eql (AV.len (AV.prj r449 0)) (AV.int 0)) ∧
    ((AV.isBool (AV.bin Go.BinOp.eql (AV.prj r449 1) r1473)) ∧
    ((isT (AV.bin Go.BinOp.eql (AV.prj r449 1) r1473)) ∧
    ((AV.flat (AV.bin Go.BinOp.eql (AV.len (AV.prj r449 0)) (AV.int 0))) ∧
    (fSame (AV.bin Go.BinOp.eql (AV.len (AV.prj r449 0)) (AV.int 0)) r))))))))))))))))))))))))))) ∧
((isF (AV.bin Go.BinOp.eql r897 (AV.int 0))) →
  ((AV.binOk Go.BinOp.eql r897 (AV.int 0)) ∧
  ((AV.isBool (AV.bin Go.BinOp.eql r897 (AV.int 0))) ∧
  ((isF (AV.bin Go.BinOp.eql r897 (AV.int 0))) ∧
  (∃ r1729 : AV, ((Fn Tryd.prog 15 [x0, (AV.agg [(AV.cel x1 0), (AV.cel x1 1), (AV.cel x1 2), (AV.cel x1 3)])] Sh.sc r1729) ∧
  (∃ r1793 : AV, ((Fn Tryd.prog 14 [x0, r1729] (Sh.row 40 5 true) r1793) ∧
  ((AV.binOk Go.BinOp.eql r897 (AV.int 0)) ∧
  ((AV.isBool (AV.bin Go.BinOp.eql r897 (AV.int 0))) ∧
  ((isF (AV.bin Go.BinOp.eql r897 (AV.int 0))) ∧
  ((AV.isBool (AV.bin Go.BinOp.eql r897 (AV.int 0))) ∧
  ((isF (AV.bin Go.BinOp.eql r897 (AV.int 0))) ∧
  ((AV.binOk Go.BinOp.neq r897 (AV.int 0)) ∧
  ((AV.isBool (AV.bin Go.BinOp.neq r897 (AV.int 0))) ∧
  ((isT (AV.bin Go.BinOp.neq r897 (AV.int 0))) ∧
  ((AV.binOk Go.BinOp.eql (AV.prj r449 1) r897) ∧
  ((AV.isBool (AV.bin Go.BinOp.eql (AV.prj r449 1) r897)) ∧
  ((isT (AV.bin Go.BinOp.eql (AV.prj r449 1) r897)) ∧
  ((AV.binOk Go.BinOp.eql (AV.len (AV.prj r449 0)) (AV.int 0)) ∧
  ((AV.isBool (AV.bin Go.BinOp.eql (AV.prj r449 1) r897)) ∧
  ((isT (AV.bin Go.BinOp.eql (AV.prj r449 1) r897)) ∧
  ((AV.flat (AV.bin Go.BinOp.eql (AV.len (AV.prj r449 0)) (AV.int 0))) ∧
  (fSame (AV.bin Go.BinOp.eql (AV.len (AV.prj r449 0)) (AV.int 0)) r))))))))))))))))))))))))))))))))))))))))))) := by kernel_rfl
theorem hears_form (x0 x1 x2 r : AV) : fnF Tryd.prog Γ ann 3 5 Tryd.f5 (Tryd.f5.body.getD .skip) ((.f (.both (.both (.both (.both (.t .nil) (.both (.t .nil) (.both (.t .nil) (.f (.t .nil))))) (.t (.t .nil))) (.f (.t (.t .nil)))) (.f (.f (.t (.t .nil))))))) [x0, x1, x2] (.sc) r = (((AV.isAgg x1 4) ∧
(∃ r129 : AV, ((Fn Tryd.prog 7 [] Sh.sc r129) ∧
((AV.unOk Go.UnOp.not r129) ∧
((AV.isBool (AV.un Go.UnOp.not r129)) ∧
((isF (AV.un Go.UnOp.not r129)) ∧
(∃ r449 : AV, ((Fn Tryd.prog 17 [x0, (AV.agg [(AV.cel x1 0), (AV.cel x1 1), (AV.cel x1 2), (AV.cel x1 3)]), x2] (Sh.tup [(Sh.row 40 5 true), Sh.sc]) r449) ∧
(∃ r897 : AV, ((Fn Tryd.prog 11 [x0] Sh.sc r897) ∧
((AV.binOk Go.BinOp.eql r897 (AV.int 0)) ∧
((AV.isBool (AV.bin Go.BinOp.eql r897 (AV.int 0))) ∧
(((isT (AV.bin Go.BinOp.eql r897 (AV.int 0))) →
  (∃ r1217 : AV, ((Fn Tryd.prog 9 [(AV.agg [(AV.cel x1 0), (AV.cel x1 1), (AV.cel x1 2), (AV.cel x1 3)])] Sh.sc r1217) ∧
  ((AV.binOk Go.BinOp.eql r1217 (AV.int 0)) ∧
  ((AV.isBool (AV.bin Go.BinOp.eql r1217 (AV.int 0))) ∧
  (((isT (AV.bin Go.BinOp.eql r1217 (AV.int 0))) →
    (∃ r1601 : AV, ((Fn Tryd.prog 13 [x0, x2] Sh.sc r1601) ∧
    (∃ r1857 : AV, ((Fn Tryd.prog 15 [x0, (AV.agg [(AV.cel x1 0), (AV.cel x1 1), (AV.cel x1 2), (AV.cel x1 3)])] Sh.sc r1857) ∧
    ((AV.binOk Go.BinOp.eql r1601 (AV.int 0)) ∧
    ((AV.isBool (AV.bin Go.BinOp.eql r1601 (AV.int 0))) ∧
    (((isT (AV.bin Go.BinOp.eql r1601 (AV.int 0))) →
      ((AV.binOk Go.BinOp.lss r1857 (AV.int 0)) ∧
      ((AV.isBool (AV.bin Go.BinOp.lss r1857 (AV.int 0))) ∧
      (((isT (AV.bin Go.BinOp.lss r1857 (AV.int 0))) →
        ((AV.binOk Go.BinOp.eql (AV.prj r449 1) (AV.int 8)) ∧
        ((AV.isBool (AV.bin Go.BinOp.eql (AV.prj r449 1) (AV.int 8))) ∧
        ((isT (AV.bin Go.BinOp.eql (AV.prj r449 1) (AV.int 8))) ∧
        ((AV.binOk Go.BinOp.eql (AV.len (AV.prj r449 0)) (AV.int 0)) ∧
        ((AV.isBool (AV.bin Go.BinOp.eql (AV.prj r449 1) (AV.int 8))) ∧
        ((isT (AV.bin Go.BinOp.eql (AV.prj r449 1) (AV.int 8))) ∧
        ((AV.flat (AV.bin Go.BinOp.eql (AV.len (AV.prj r449 0)) (AV.int 0))) ∧
        (fSame (AV.bin Go.BinOp.eql (AV.len (AV.prj r449 0)) (AV.int 0)) r))))))))) ∧
      ((isF (AV.bin Go.BinOp.lss r1857 (AV.int 0))) →
        ((AV.isSl x0 5) ∧
        ((AV.inb x0 r1857) ∧
        ((AV.binOk Go.BinOp.add (AV.at x0 r1857 4) (AV.int 40)) ∧
        ((AV.binOk Go.BinOp.gtr x2 (AV.bin Go.BinOp.add (AV.at x0 r1857 4) (AV.int 40))) ∧
        ((AV.isBool (AV.bin Go.BinOp.gtr x2 (AV.bin Go.BinOp.add (AV.at x0 r1857 4) (AV.int 40)))) ∧
        (((isT (AV.bin Go.BinOp.gtr x2 (AV.bin Go.BinOp.add (AV.at x0 r1857 4) (AV.int 40)))) →
          ((AV.binOk Go.BinOp.eql (AV.prj r449 1) (AV.int 21)) ∧
          ((AV.isBool (AV.bin Go.BinOp.eql (AV.prj r449 1) (AV.int 21))) ∧
          ((isT (AV.bin Go.BinOp.eql (AV.prj r449 1) (AV.int 21))) ∧
          ((AV.binOk Go.BinOp.eql (AV.len (AV.prj r449 0)) (AV.int 0)) ∧
          ((AV.isBool (AV.bin Go.BinOp.eql (AV.prj r449 1) (AV.int 21))) ∧
          ((isT (AV.bin Go.BinOp.eql (AV.prj r449 1) (AV.int 21))) ∧
          ((AV.flat (AV.bin Go.BinOp.eql (AV.len (AV.prj r449 0)) (AV.int 0))) ∧
          (fSame (AV.bin Go.BinOp.eql (AV.len (AV.prj r449 0)) (AV.int 0)) r))))))))) ∧
        ((isF (AV.bin Go.BinOp.gtr x2 (AV.bin Go.BinOp.add (AV.at x0 r1857 4) (AV.int 40)))) →
          ((AV.isSl x0 5) ∧
          ((AV.inb x0 r1857) ∧
          ((AV.eqPlOk [(0, EK.str), (1, (EK.int Go.IntKind.i64)), (2, (EK.int Go.IntKind.i64)), (3, EK.str)] [(AV.cel (AV.atAgg x0 r1857 0 4) 0), (AV.cel (AV.atAgg x0 r1857 0 4) 1), (AV.cel (AV.atAgg x0 r1857 0 4) 2), (AV.cel (AV.atAgg x0 r1857 0 4) 3)] [(AV.cel x1 0), (AV.cel x1 1), (AV.cel x1 2), (AV.cel x1 3)]) ∧
          ((AV.isAgg (AV.atAgg x0 r1857 0 4) 4) ∧
          ((AV.isBool (AV.nePl [(0, EK.str), (1, (EK.int Go.IntKind.i64)), (2, (EK.int Go.IntKind.i64)), (3, EK.str)] [(AV.cel (AV.atAgg x0 r1857 0 4) 0), (AV.cel (AV.atAgg x0 r1857 0 4) 1), (AV.cel (AV.atAgg x0 r1857 0 4) 2), (AV.cel (AV.atAgg x0 r1857 0 4) 3)] [(AV.cel x1 0), (AV.cel x1 1), (AV.cel x1 2), (AV.cel x1 3)])) ∧
          (((isT (AV.nePl [(0, EK.str), (1, (EK.int Go.IntKind.i64)), (2, (EK.int Go.IntKind.i64)), (3, EK.str)] [(AV.cel (AV.atAgg x0 r1857 0 4) 0), (AV.cel (AV.atAgg x0 r1857 0 4) 1), (AV.cel (AV.atAgg x0 r1857 0 4) 2), (AV.cel (AV.atAgg x0 r1857 0 4) 3)] [(AV.cel x1 0), (AV.cel x1 1), (AV.cel x1 2), (AV.cel x1 3)])) →
            ((AV.binOk Go.BinOp.eql (AV.prj r449 1) (AV.int 17)) ∧
            ((AV.isBool (AV.bin Go.BinOp.eql (AV.prj r449 1) (AV.int 17))) ∧
            ((isT (AV.bin Go.BinOp.eql (AV.prj r449 1) (AV.int 17))) ∧
            ((AV.binOk Go.BinOp.eql (AV.len (AV.prj r449 0)) (AV.int 0)) ∧
            ((AV.isBool (AV.bin Go.BinOp.eql (AV.prj r449 1) (AV.int 17))) ∧
            ((isT (AV.bin Go.BinOp.eql (AV.prj r449 1) (AV.int 17))) ∧
            ((AV.flat (AV.bin Go.BinOp.eql (AV.len (AV.prj r449 0)) (AV.int 0))) ∧
            (fSame (AV.bin Go.BinOp.eql (AV.len (AV.prj r449 0)) (AV.int 0)) r))))))))) ∧
          ((isF (AV.nePl [(0, EK.str), (1, (EK.int Go.IntKind.i64)), (2, (EK.int Go.IntKind.i64)), (3, EK.str)] [(AV.cel (AV.atAgg x0 r1857 0 4) 0), (AV.cel (AV.atAgg x0 r1857 0 4) 1), (AV.cel (AV.atAgg x0 r1857 0 4) 2), (AV.cel (AV.atAgg x0 r1857 0 4) 3)] [(AV.cel x1 0), (AV.cel x1 1), (AV.cel x1 2), (AV.cel x1 3)])) →
            ((AV.binOk Go.BinOp.neq r1601 (AV.int 0)) ∧
            ((AV.isBool (AV.bin Go.BinOp.neq r1601 (AV.int 0))) ∧
            ((isF (AV.bin Go.BinOp.neq r1601 (AV.int 0))) ∧
            ((AV.binOk Go.BinOp.eql (AV.prj r449 1) (AV.int 0)) ∧
            ((AV.isBool (AV.bin Go.BinOp.eql (AV.prj r449 1) (AV.int 0))) ∧
            ((isT (AV.bin Go.BinOp.eql (AV.prj r449 1) (AV.int 0))) ∧
            (∃ r3905 : AV, ((Fn Tryd.prog 14 [x0, r1857] (Sh.row 40 5 true) r3905) ∧
            (∃ r3969 : AV, ((Fn Tryd.prog 16 [(AV.prj r449 0), r3905] Sh.sc r3969) ∧
            ((AV.isBool (AV.bin Go.BinOp.eql (AV.prj r449 1) (AV.int 0))) ∧
            ((isT (AV.bin Go.BinOp.eql (AV.prj r449 1) (AV.int 0))) ∧
            ((AV.flat r3969) ∧
            (fSame r3969 r))))))))))))))))))))))))))))))))) ∧
    ((isF (AV.bin Go.BinOp.eql r1601 (AV.int 0))) →
      ((AV.binOk Go.BinOp.neq r1601 (AV.int 0)) ∧
      ((AV.isBool (AV.bin Go.BinOp.neq r1601 (AV.int 0))) ∧
      ((isT (AV.bin Go.BinOp.neq r1601 (AV.int 0))) ∧
      ((AV.binOk Go.BinOp.eql (AV.prj r449 1) r1601) ∧
      ((AV.isBool (AV.bin Go.BinOp.eql (AV.prj r449 1) r1601)) ∧
      ((isT (AV.bin Go.BinOp.eql (AV.prj r449 1) r1601)) ∧
      ((AV.binOk Go.BinOp.eql (AV.len (AV.prj r449 0)) (AV.int 0)) ∧
      ((AV.isBool (AV.bin Go.BinOp.eql (AV.prj r449 1) r1601)) ∧
      ((isT (AV.bin Go.BinOp.eql (AV.prj r449 1) r1601)) ∧
      ((AV.flat (AV.bin Go.BinOp.eql (AV.len (AV.prj r449 0)) (AV.int 0))) ∧
      (fSame (AV.bin Go.BinOp.eql (AV.len (AV.prj r449 0)) (AV.int 0)) r)))))))))))))))))))) ∧
  ((isF (AV.bin Go.BinOp.eql r1217 (AV.int 0))) →
    (∃ r1601 : AV, ((Fn Tryd.prog 15 [x0, (AV.agg [(AV.cel x1 0), (AV.cel x1 1), (AV.cel x1 2), (AV.cel x1 3)])] Sh.sc r1601) ∧
    ((AV.binOk Go.BinOp.eql r1217 (AV.int 0)) ∧
    ((AV.isBool (AV.bin Go.BinOp.eql r1217 (AV.int 0))) ∧
    ((isF (AV.bin Go.BinOp.eql r1217 (AV.int 0))) ∧
    ((AV.binOk Go.BinOp.neq r1217 (AV.int 0)) ∧
    ((AV.isBool (AV.bin Go.BinOp.neq r1217 (AV.int 0))) ∧
    ((isT (AV.bin Go.BinOp.neq r1217 (AV.int 0))) ∧
    ((AV.binOk Go.BinOp.eql (AV.prj r449 1) r1217) ∧
    ((AV.isBool (AV.bin Go.BinOp.eql (AV.prj r449 1) r1217)) ∧
    ((isT (AV.bin Go.BinOp.eql (AV.prj r449 1) r1217)) ∧
    ((AV.binOk Go.BinOp.eql (AV.len (AV.prj r449 0)) (AV.int 0)) ∧
    ((AV.isBool (AV.bin Go.BinOp.eql (AV.prj r449 1) r1217)) ∧
    ((isT (AV.bin Go.BinOp.eql (AV.prj r449 1) r1217)) ∧
    ((AV.flat (AV.bin Go.BinOp.eql (AV.len (AV.prj r449 0)) (AV.int 0))) ∧
    (fSame (AV.bin Go.BinOp.eql (AV.len (AV.prj r449 0)) (AV.int 0)) r))))))))))))))))))))))) ∧
((isF (AV.bin Go.BinOp.eql r897 (AV.int 0))) →
  ((AV.binOk Go.BinOp.eql r897 (AV.int 0)) ∧
  ((AV.isBool (AV.bin Go.BinOp.eql r897 (AV.int 0))) ∧
  ((isF (AV.bin Go.BinOp.eql r897 (AV.int 0))) ∧
  (∃ r1409 : AV, ((Fn Tryd.prog 15 [x0, (AV.agg [(AV.cel x1 0), (AV.cel x1 1), (AV.cel x1 2), (AV.cel x1 3)])] Sh.sc r1409) ∧
  ((AV.binOk Go.BinOp.eql r897 (AV.int 0)) ∧
  ((AV.isBool (AV.bin Go.BinOp.eql r897 (AV.int 0))) ∧
  ((isF (AV.bin Go.BinOp.eql r897 (AV.int 0))) ∧
  ((AV.binOk Go.BinOp.neq r897 (AV.int 0)) ∧
  ((AV.isBool (AV.bin Go.BinOp.neq r897 (AV.int 0))) ∧
  ((isT (AV.bin Go.BinOp.neq r897 (AV.int 0))) ∧
  ((AV.binOk Go.BinOp.eql (AV.prj r449 1) r897) ∧
  ((AV.isBool (AV.bin Go.BinOp.eql (AV.prj r449 1) r897)) ∧
  ((isT (AV.bin Go.BinOp.eql (AV.prj r449 1) r897)) ∧
  ((AV.binOk Go.BinOp.eql (AV.len (AV.prj r449 0)) (AV.int 0)) ∧
  ((AV.isBool (AV.bin Go.BinOp.eql (AV.prj r449 1) r897)) ∧
  ((isT (AV.bin Go.BinOp.eql (AV.prj r449 1) r897)) ∧
  ((AV.flat (AV.bin Go.BinOp.eql (AV.len (AV.prj r449 0)) (AV.int 0))) ∧
  (fSame (AV.bin Go.BinOp.eql (AV.len (AV.prj r449 0)) (AV.int 0)) r)))))))))))))))))))))))))))))))))) := by kernel_rfl
theorem lapses_form (x0 x1 x2 r : AV) : fnF Tryd.prog Γ ann 3 6 Tryd.f6 (Tryd.f6.body.getD .skip) ((.f (.f (.both (.t .nil) (.both .nil (.f (.both (.t .nil) (.both .nil (.t (.t .nil)))))))))) [x0, x1, x2] (.sc) r = ((∃ r65 : AV, ((Fn Tryd.prog 7 [] Sh.sc r65) ∧
((AV.unOk Go.UnOp.not r65) ∧
((AV.isBool (AV.un Go.UnOp.not r65)) ∧
((isF (AV.un Go.UnOp.not r65)) ∧
(∃ r321 : AV, ((Fn Tryd.prog 18 [x0, x1] (Sh.tup [(Sh.row 40 5 true), (Sh.row 23 4 true), Sh.sc]) r321) ∧
(∃ r961 : AV, ((Fn Tryd.prog 19 [x0, x2] (Sh.tup [(Sh.row 23 4 true), Sh.sc]) r961) ∧
(∃ r1409 : AV, ((Fn Tryd.prog 11 [x0] Sh.sc r1409) ∧
((AV.binOk Go.BinOp.neq (AV.prj r961 1) r1409) ∧
((AV.isBool (AV.bin Go.BinOp.neq (AV.prj r961 1) r1409)) ∧
((isF (AV.bin Go.BinOp.neq (AV.prj r961 1) r1409)) ∧
((AV.binOk Go.BinOp.neq r1409 (AV.int 0)) ∧
((AV.isBool (AV.bin Go.BinOp.neq r1409 (AV.int 0))) ∧
(((isT (AV.bin Go.BinOp.neq r1409 (AV.int 0))) →
  ((AV.binOk Go.BinOp.eql (AV.prj r321 2) r1409) ∧
  ((AV.isBool (AV.bin Go.BinOp.eql (AV.prj r321 2) r1409)) ∧
  ((isT (AV.bin Go.BinOp.eql (AV.prj r321 2) r1409)) ∧
  ((AV.binOk Go.BinOp.add (AV.len (AV.prj r321 0)) (AV.len (AV.prj r321 1))) ∧
  ((AV.binOk Go.BinOp.add (AV.bin Go.BinOp.add (AV.len (AV.prj r321 0)) (AV.len (AV.prj r321 1))) (AV.len (AV.prj r961 0))) ∧
  ((AV.binOk Go.BinOp.eql (AV.bin Go.BinOp.add (AV.bin Go.BinOp.add (AV.len (AV.prj r321 0)) (AV.len (AV.prj r321 1))) (AV.len (AV.prj r961 0))) (AV.int 0)) ∧
  ((AV.isBool (AV.bin Go.BinOp.eql (AV.prj r321 2) r1409)) ∧
  ((isT (AV.bin Go.BinOp.eql (AV.prj r321 2) r1409)) ∧
  ((AV.flat (AV.bin Go.BinOp.eql (AV.bin Go.BinOp.add (AV.bin Go.BinOp.add (AV.len (AV.prj r321 0)) (AV.len (AV.prj r321 1))) (AV.len (AV.prj r961 0))) (AV.int 0))) ∧
  (fSame (AV.bin Go.BinOp.eql (AV.bin Go.BinOp.add (AV.bin Go.BinOp.add (AV.len (AV.prj r321 0)) (AV.len (AV.prj r321 1))) (AV.len (AV.prj r961 0))) (AV.int 0)) r))))))))))) ∧
((isF (AV.bin Go.BinOp.neq r1409 (AV.int 0))) →
  ((AV.isSl x0 5) ∧
  (fLoop 2113 [(AV.int 0), (AV.mk 4 [])] fun ys2113 again2113 =>
    ((AV.binOk Go.BinOp.lss (ys2113.getD 0 default) (AV.len x0)) ∧
    ((AV.isBool (AV.bin Go.BinOp.lss (ys2113.getD 0 default) (AV.len x0))) ∧
    (((isT (AV.bin Go.BinOp.lss (ys2113.getD 0 default) (AV.len x0))) →
      ((AV.isSl x0 5) ∧
      ((AV.inb x0 (ys2113.getD 0 default)) ∧
      ((AV.isAgg (AV.atAgg x0 (ys2113.getD 0 default) 0 5) 5) ∧
      ((AV.binOk Go.BinOp.eql (AV.cel (AV.atAgg x0 (ys2113.getD 0 default) 0 5) 0) x2) ∧
      ((AV.isBool (AV.bin Go.BinOp.eql (AV.cel (AV.atAgg x0 (ys2113.getD 0 default) 0 5) 0) x2)) ∧
      (((isT (AV.bin Go.BinOp.eql (AV.cel (AV.atAgg x0 (ys2113.getD 0 default) 0 5) 0) x2)) →
        ((AV.room (ys2113.getD 1 default) (AV.mk 4 [[(AV.cel (AV.atAgg x0 (ys2113.getD 0 default) 0 5) 0), (AV.cel (AV.atAgg x0 (ys2113.getD 0 default) 0 5) 1), (AV.cel (AV.atAgg x0 (ys2113.getD 0 default) 0 5) 2), (AV.cel (AV.atAgg x0 (ys2113.getD 0 default) 0 5) 3)]]) 48) ∧
        ((AV.binOk Go.BinOp.add (ys2113.getD 0 default) (AV.int 1)) ∧
        (again2113 [(AV.bin Go.BinOp.add (ys2113.getD 0 default) (AV.int 1)), (AV.app 4 (ys2113.getD 1 default) (AV.mk 4 [[(AV.cel (AV.atAgg x0 (ys2113.getD 0 default) 0 5) 0), (AV.cel (AV.atAgg x0 (ys2113.getD 0 default) 0 5) 1), (AV.cel (AV.atAgg x0 (ys2113.getD 0 default) 0 5) 2), (AV.cel (AV.atAgg x0 (ys2113.getD 0 default) 0 5) 3)]]))])))) ∧
      ((isF (AV.bin Go.BinOp.eql (AV.cel (AV.atAgg x0 (ys2113.getD 0 default) 0 5) 0) x2)) →
        ((AV.binOk Go.BinOp.add (ys2113.getD 0 default) (AV.int 1)) ∧
        (again2113 [(AV.bin Go.BinOp.add (ys2113.getD 0 default) (AV.int 1)), (ys2113.getD 1 default)])))))))))) ∧
    ((isF (AV.bin Go.BinOp.lss (ys2113.getD 0 default) (AV.len x0))) →
      (∃ r2305 : AV, ((Fn Tryd.prog 20 [(AV.prj r961 0), (ys2113.getD 1 default)] Sh.sc r2305) ∧
      ((AV.unOk Go.UnOp.not r2305) ∧
      ((AV.isBool (AV.un Go.UnOp.not r2305)) ∧
      ((isF (AV.un Go.UnOp.not r2305)) ∧
      (∃ r2561 : AV, ((Fn Tryd.prog 13 [x0, x1] Sh.sc r2561) ∧
      ((AV.binOk Go.BinOp.neq r2561 (AV.int 0)) ∧
      ((AV.isBool (AV.bin Go.BinOp.neq r2561 (AV.int 0))) ∧
      (((isT (AV.bin Go.BinOp.neq r2561 (AV.int 0))) →
        ((AV.binOk Go.BinOp.eql (AV.prj r321 2) r2561) ∧
        ((AV.isBool (AV.bin Go.BinOp.eql (AV.prj r321 2) r2561)) ∧
        ((isT (AV.bin Go.BinOp.eql (AV.prj r321 2) r2561)) ∧
        ((AV.binOk Go.BinOp.add (AV.len (AV.prj r321 0)) (AV.len (AV.prj r321 1))) ∧
        ((AV.binOk Go.BinOp.eql (AV.bin Go.BinOp.add (AV.len (AV.prj r321 0)) (AV.len (AV.prj r321 1))) (AV.int 0)) ∧
        ((AV.isBool (AV.bin Go.BinOp.eql (AV.prj r321 2) r2561)) ∧
        ((isT (AV.bin Go.BinOp.eql (AV.prj r321 2) r2561)) ∧
        ((AV.flat (AV.bin Go.BinOp.eql (AV.bin Go.BinOp.add (AV.len (AV.prj r321 0)) (AV.len (AV.prj r321 1))) (AV.int 0))) ∧
        (fSame (AV.bin Go.BinOp.eql (AV.bin Go.BinOp.add (AV.len (AV.prj r321 0)) (AV.len (AV.prj r321 1))) (AV.int 0)) r)))))))))) ∧
      ((isF (AV.bin Go.BinOp.neq r2561 (AV.int 0))) →
        ((AV.isSl x0 5) ∧
        (fLoop 3137 [(AV.int 0), (AV.mk 4 []), (AV.mk 5 [])] fun ys3137 again3137 =>
          ((AV.binOk Go.BinOp.lss (ys3137.getD 0 default) (AV.len x0)) ∧
          ((AV.isBool (AV.bin Go.BinOp.lss (ys3137.getD 0 default) (AV.len x0))) ∧
          (((isT (AV.bin Go.BinOp.lss (ys3137.getD 0 default) (AV.len x0))) →
            ((AV.isSl x0 5) ∧
            ((AV.inb x0 (ys3137.getD 0 default)) ∧
            ((AV.isAgg (AV.atAgg x0 (ys3137.getD 0 default) 0 5) 5) ∧
            ((AV.binOk Go.BinOp.add (AV.cel (AV.atAgg x0 (ys3137.getD 0 default) 0 5) 4) (AV.int 40)) ∧
            ((AV.binOk Go.BinOp.lss (AV.bin Go.BinOp.add (AV.cel (AV.atAgg x0 (ys3137.getD 0 default) 0 5) 4) (AV.int 40)) x1) ∧
            ((AV.isBool (AV.bin Go.BinOp.lss (AV.bin Go.BinOp.add (AV.cel (AV.atAgg x0 (ys3137.getD 0 default) 0 5) 4) (AV.int 40)) x1)) ∧
            (((isT (AV.bin Go.BinOp.lss (AV.bin Go.BinOp.add (AV.cel (AV.atAgg x0 (ys3137.getD 0 default) 0 5) 4) (AV.int 40)) x1)) →
              ((AV.room (ys3137.getD 1 default) (AV.mk 4 [[(AV.cel (AV.atAgg x0 (ys3137.getD 0 default) 0 5) 0), (AV.cel (AV.atAgg x0 (ys3137.getD 0 default) 0 5) 1), (AV.cel (AV.atAgg x0 (ys3137.getD 0 default) 0 5) 2), (AV.cel (AV.atAgg x0 (ys3137.getD 0 default) 0 5) 3)]]) 48) ∧
              ((AV.binOk Go.BinOp.add (ys3137.getD 0 default) (AV.int 1)) ∧
              (again3137 [(AV.bin Go.BinOp.add (ys3137.getD 0 default) (AV.int 1)), (AV.app 4 (ys3137.getD 1 default) (AV.mk 4 [[(AV.cel (AV.atAgg x0 (ys3137.getD 0 default) 0 5) 0), (AV.cel (AV.atAgg x0 (ys3137.getD 0 default) 0 5) 1), (AV.cel (AV.atAgg x0 (ys3137.getD 0 default) 0 5) 2), (AV.cel (AV.atAgg x0 (ys3137.getD 0 default) 0 5) 3)]])), (ys3137.getD 2 default)])))) ∧
            ((isF (AV.bin Go.BinOp.lss (AV.bin Go.BinOp.add (AV.cel (AV.atAgg x0 (ys3137.getD 0 default) 0 5) 4) (AV.int 40)) x1)) →
              ((AV.room (ys3137.getD 2 default) (AV.mk 5 [[(AV.cel (AV.atAgg x0 (ys3137.getD 0 default) 0 5) 0), (AV.cel (AV.atAgg x0 (ys3137.getD 0 default) 0 5) 1), (AV.cel (AV.atAgg x0 (ys3137.getD 0 default) 0 5) 2), (AV.cel (AV.atAgg x0 (ys3137.getD 0 default) 0 5) 3), (AV.cel (AV.atAgg x0 (ys3137.getD 0 default) 0 5) 4)]]) 56) ∧
              ((AV.binOk Go.BinOp.add (ys3137.getD 0 default) (AV.int 1)) ∧
              (again3137 [(AV.bin Go.BinOp.add (ys3137.getD 0 default) (AV.int 1)), (ys3137.getD 1 default), (AV.app 5 (ys3137.getD 2 default) (AV.mk 5 [[(AV.cel (AV.atAgg x0 (ys3137.getD 0 default) 0 5) 0), (AV.cel (AV.atAgg x0 (ys3137.getD 0 default) 0 5) 1), (AV.cel (AV.atAgg x0 (ys3137.getD 0 default) 0 5) 2), (AV.cel (AV.atAgg x0 (ys3137.getD 0 default) 0 5) 3), (AV.cel (AV.atAgg x0 (ys3137.getD 0 default) 0 5) 4)]]))])))))))))))) ∧
          ((isF (AV.bin Go.BinOp.lss (ys3137.getD 0 default) (AV.len x0))) →
            ((AV.binOk Go.BinOp.eql (AV.prj r321 2) (AV.int 0)) ∧
            ((AV.isBool (AV.bin Go.BinOp.eql (AV.prj r321 2) (AV.int 0))) ∧
            ((isT (AV.bin Go.BinOp.eql (AV.prj r321 2) (AV.int 0))) ∧
            (∃ r3521 : AV, ((Fn Tryd.prog 16 [(AV.prj r321 0), (ys3137.getD 2 default)] Sh.sc r3521) ∧
            ((AV.isBool (AV.bin Go.BinOp.eql (AV.prj r321 2) (AV.int 0))) ∧
            ((isT (AV.bin Go.BinOp.eql (AV.prj r321 2) (AV.int 0))) ∧
            ((AV.isBool r3521) ∧
            ((isT r3521) ∧
            (∃ r3841 : AV, ((Fn Tryd.prog 20 [(AV.prj r321 1), (ys3137.getD 1 default)] Sh.sc r3841) ∧
            ((AV.isBool r3521) ∧
            ((isT r3521) ∧
            ((AV.flat r3841) ∧
            (fSame r3841 r))))))))))))))))))))))))))))))))))))))))))))))))))))))))) := by kernel_rfl
end RbG
end Go.Proofs.YtdneccmpojidmaaDoor
