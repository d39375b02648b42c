/- Texts of one proof, part 7: plain values, a run over them, contracts of functions. -/
import Derived.Test.YtdlakpomcafemaaDoorM4
import Derived.Test.YtdlakpomcafemaaDoorM6
/- effects of turns: what the law's run ends in ('expected' walked into). -/
namespace Go.Proofs.YtdlakpomcafemaaDoor
open Go.RowKit
set_option linter.unusedVariables false
set_option maxRecDepth 100000
namespace EffL
--GAMMA
def Γ : FuncId → Option Ca := fun f =>
  if f = 14 ∨ f = 20 ∨ f = 16 ∨ f = 18 ∨ f = 4 ∨ f = 6 ∨ f = 25 ∨ f = 8 ∨ f = 54 then some (.fn .sc)
  else if f = 21 ∨ f = 48 ∨ f = 49 ∨ f = 26 then some (.fn (.tup [.sc, .sc]))
  else if f = 27 then some (.fn (.tup [.agg [.sc, .sc], .sc]))
  else if f = 23 then some (.fn (.row 39 6 true))
  else if f = 5 then some (.fn (.tup [.row 39 6 true, .sc]))
  else some .inl
def ann : FuncId → Nat → LoopEx := fun f r =>
  if f = 34 then ⟨[], [321], [], []⟩
  else if f = 35 then ⟨[], [1345], [(1601, 0), (1601, 1), (1601, 2), (1601, 3), (1601, 4), (1601, 5)], []⟩
  else if f = 7 ∧ r = 25 then ⟨[], [], [(8065, 0), (8065, 1), (8065, 2), (8065, 3), (8065, 4), (8065, 5)], []⟩
  else if f = 7 ∧ r = 35 then ⟨[], [3201], [(7297, 0), (7297, 1), (7297, 2), (7297, 3), (7297, 4), (7297, 5)], []⟩
  else ⟨[], [], [], []⟩
--END GAMMA
theorem lturns0_form (x0 x1 x2 x3 x4 r : AV) : fnF Tryd.prog Γ ann 3 3 Tryd.f3 (Tryd.f3.body.getD .skip) ((.f (.t .nil))) [x0, x1, x2, x3, x4] (.sc) r = (((AV.isAgg x1 4) ∧
((AV.isAgg x3 7) ∧
((AV.isAgg x4 2) ∧
(∃ r257 : AV, ((Fn Tryd.prog 4 [] Sh.sc r257) ∧
((AV.unOk Go.UnOp.not r257) ∧
((AV.isBool (AV.un Go.UnOp.not r257)) ∧
((isF (AV.un Go.UnOp.not r257)) ∧
((AV.binOk Go.BinOp.eql (AV.cel x1 1) (AV.int 0)) ∧
((AV.isBool (AV.bin Go.BinOp.eql (AV.cel x1 1) (AV.int 0))) ∧
((isT (AV.bin Go.BinOp.eql (AV.cel x1 1) (AV.int 0))) ∧
((AV.flat (AV.bool true)) ∧
(fSame (AV.bool true) r)))))))))))))) := by kernel_rfl
theorem lturns1_form (x0 x1 x2 x3 x4 r : AV) : fnF Tryd.prog Γ ann 3 3 Tryd.f3 (Tryd.f3.body.getD .skip) ((.f (.f (.both (.both .nil (.both (.both (.t .nil) (.t .nil)) (.both (.both (.t .nil) (.t .nil)) (.f (.f (.both (.t (.both (.f (.t (.t .nil))) (.both (.f (.t (.t .nil))) .nil))) (.both (.t .nil) (.t .nil)))))))) (.f (.t (.t .nil))))))) [x0, x1, x2, x3, x4] (.sc) r = (((AV.isAgg x1 4) ∧
((AV.isAgg x3 7) ∧
((AV.isAgg x4 2) ∧
(∃ r257 : AV, ((Fn Tryd.prog 4 [] Sh.sc r257) ∧
((AV.unOk Go.UnOp.not r257) ∧
((AV.isBool (AV.un Go.UnOp.not r257)) ∧
((isF (AV.un Go.UnOp.not r257)) ∧
((AV.binOk Go.BinOp.eql (AV.cel x1 1) (AV.int 0)) ∧
((AV.isBool (AV.bin Go.BinOp.eql (AV.cel x1 1) (AV.int 0))) ∧
((isF (AV.bin Go.BinOp.eql (AV.cel x1 1) (AV.int 0))) ∧
(∃ r897 : AV, ((Fn Tryd.prog 5 [x0, (AV.agg [(AV.cel x1 0), (AV.cel x1 1), (AV.cel x1 2), (AV.cel x1 3)]), x2, (AV.agg [(AV.cel x3 0), (AV.cel x3 1), (AV.cel x3 2), (AV.cel x3 3), (AV.cel x3 4), (AV.cel x3 5), (AV.cel x3 6)]), (AV.agg [(AV.cel x4 0), (AV.cel x4 1)])] (Sh.tup [(Sh.row 39 6 true), Sh.sc]) r897) ∧
(∃ r1601 : AV, ((Fn Tryd.prog 6 [x0, (AV.agg [(AV.cel x1 0), (AV.cel x1 1), (AV.cel x1 2), (AV.cel x1 3)]), x2, (AV.agg [(AV.cel x3 0), (AV.cel x3 1), (AV.cel x3 2), (AV.cel x3 3), (AV.cel x3 4), (AV.cel x3 5), (AV.cel x3 6)]), (AV.agg [(AV.cel x4 0), (AV.cel x4 1)])] Sh.sc r1601) ∧
((AV.binOk Go.BinOp.eql r1601 (AV.int 0)) ∧
((AV.isBool (AV.bin Go.BinOp.eql r1601 (AV.int 0))) ∧
(((isT (AV.bin Go.BinOp.eql r1601 (AV.int 0))) →
  ((fEnt Tryd.prog 7) ∧
  (fAllV fun _ => (∃ r2753 : AV, ((Fn Tryd.prog 21 [x0, x2] (Sh.tup [Sh.sc, Sh.sc]) r2753) ∧
  ((AV.isAgg (AV.prj r2753 0) 6) ∧
  ((AV.isSl x0 6) ∧
  (fLoop 3521 [(AV.int 0), (AV.mk 6 []), (AV.mk 6 [])] fun ys3521 again3521 =>
    ((AV.binOk Go.BinOp.lss (ys3521.getD 0 default) (AV.len x0)) ∧
    ((AV.isBool (AV.bin Go.BinOp.lss (ys3521.getD 0 default) (AV.len x0))) ∧
    (((isT (AV.bin Go.BinOp.lss (ys3521.getD 0 default) (AV.len x0))) →
      ((AV.isSl x0 6) ∧
      ((AV.inb x0 (ys3521.getD 0 default)) ∧
      ((AV.isAgg (AV.atAgg x0 (ys3521.getD 0 default) 0 6) 6) ∧
      ((AV.binOk Go.BinOp.lss (AV.cel (AV.atAgg x0 (ys3521.getD 0 default) 0 6) 0) x2) ∧
      ((AV.isBool (AV.bin Go.BinOp.lss (AV.cel (AV.atAgg x0 (ys3521.getD 0 default) 0 6) 0) x2)) ∧
      (((isT (AV.bin Go.BinOp.lss (AV.cel (AV.atAgg x0 (ys3521.getD 0 default) 0 6) 0) x2)) →
        ((AV.room (ys3521.getD 1 default) (AV.mk 6 [[(AV.cel (AV.atAgg x0 (ys3521.getD 0 default) 0 6) 0), (AV.cel (AV.atAgg x0 (ys3521.getD 0 default) 0 6) 1), (AV.cel (AV.atAgg x0 (ys3521.getD 0 default) 0 6) 2), (AV.cel (AV.atAgg x0 (ys3521.getD 0 default) 0 6) 3), (AV.cel (AV.atAgg x0 (ys3521.getD 0 default) 0 6) 4), (AV.cel (AV.atAgg x0 (ys3521.getD 0 default) 0 6) 5)]]) 48) ∧
        ((AV.binOk Go.BinOp.add (ys3521.getD 0 default) (AV.int 1)) ∧
        (again3521 [(AV.bin Go.BinOp.add (ys3521.getD 0 default) (AV.int 1)), (AV.app 6 (ys3521.getD 1 default) (AV.mk 6 [[(AV.cel (AV.atAgg x0 (ys3521.getD 0 default) 0 6) 0), (AV.cel (AV.atAgg x0 (ys3521.getD 0 default) 0 6) 1), (AV.cel (AV.atAgg x0 (ys3521.getD 0 default) 0 6) 2), (AV.cel (AV.atAgg x0 (ys3521.getD 0 default) 0 6) 3), (AV.cel (AV.atAgg x0 (ys3521.getD 0 default) 0 6) 4), (AV.cel (AV.atAgg x0 (ys3521.getD 0 default) 0 6) 5)]])), (ys3521.getD 2 default)])))) ∧
      ((isF (AV.bin Go.BinOp.lss (AV.cel (AV.atAgg x0 (ys3521.getD 0 default) 0 6) 0) x2)) →
        ((AV.binOk Go.BinOp.gtr (AV.cel (AV.atAgg x0 (ys3521.getD 0 default) 0 6) 0) x2) ∧
        ((AV.isBool (AV.bin Go.BinOp.gtr (AV.cel (AV.atAgg x0 (ys3521.getD 0 default) 0 6) 0) x2)) ∧
        (((isT (AV.bin Go.BinOp.gtr (AV.cel (AV.atAgg x0 (ys3521.getD 0 default) 0 6) 0) x2)) →
          ((AV.room (ys3521.getD 2 default) (AV.mk 6 [[(AV.cel (AV.atAgg x0 (ys3521.getD 0 default) 0 6) 0), (AV.cel (AV.atAgg x0 (ys3521.getD 0 default) 0 6) 1), (AV.cel (AV.atAgg x0 (ys3521.getD 0 default) 0 6) 2), (AV.cel (AV.atAgg x0 (ys3521.getD 0 default) 0 6) 3), (AV.cel (AV.atAgg x0 (ys3521.getD 0 default) 0 6) 4), (AV.cel (AV.atAgg x0 (ys3521.getD 0 default) 0 6) 5)]]) 48) ∧
          ((AV.binOk Go.BinOp.add (ys3521.getD 0 default) (AV.int 1)) ∧
          (again3521 [(AV.bin Go.BinOp.add (ys3521.getD 0 default) (AV.int 1)), (ys3521.getD 1 default), (AV.app 6 (ys3521.getD 2 default) (AV.mk 6 [[(AV.cel (AV.atAgg x0 (ys3521.getD 0 default) 0 6) 0), (AV.cel (AV.atAgg x0 (ys3521.getD 0 default) 0 6) 1), (AV.cel (AV.atAgg x0 (ys3521.getD 0 default) 0 6) 2), (AV.cel (AV.atAgg x0 (ys3521.getD 0 default) 0 6) 3), (AV.cel (AV.atAgg x0 (ys3521.getD 0 default) 0 6) 4), (AV.cel (AV.atAgg x0 (ys3521.getD 0 default) 0 6) 5)]]))])))) ∧
        ((isF (AV.bin Go.BinOp.gtr (AV.cel (AV.atAgg x0 (ys3521.getD 0 default) 0 6) 0) x2)) →
          ((AV.binOk Go.BinOp.add (ys3521.getD 0 default) (AV.int 1)) ∧
          (again3521 [(AV.bin Go.BinOp.add (ys3521.getD 0 default) (AV.int 1)), (ys3521.getD 1 default), (ys3521.getD 2 default)])))))))))))))) ∧
    ((isF (AV.bin Go.BinOp.lss (ys3521.getD 0 default) (AV.len x0))) →
      ((AV.binOk Go.BinOp.eql (AV.len (ys3521.getD 2 default)) (AV.int 0)) ∧
      ((AV.isBool (AV.bin Go.BinOp.eql (AV.len (ys3521.getD 2 default)) (AV.int 0))) ∧
      (((isT (AV.bin Go.BinOp.eql (AV.len (ys3521.getD 2 default)) (AV.int 0))) →
        ((AV.isBool (AV.bin Go.BinOp.eql (AV.len (ys3521.getD 2 default)) (AV.int 0))) ∧
        ((isT (AV.bin Go.BinOp.eql (AV.len (ys3521.getD 2 default)) (AV.int 0))) ∧
        ((AV.isSl x0 6) ∧
        ((AV.binOk Go.BinOp.gtr (AV.len x0) (AV.int 64)) ∧
        ((AV.isBool (AV.bin Go.BinOp.gtr (AV.len x0) (AV.int 64))) ∧
        (((isT (AV.bin Go.BinOp.gtr (AV.len x0) (AV.int 64))) →
          ((AV.binOk Go.BinOp.eql (AV.prj r897 1) (AV.int 2)) ∧
          ((AV.isBool (AV.bin Go.BinOp.eql (AV.prj r897 1) (AV.int 2))) ∧
          ((isT (AV.bin Go.BinOp.eql (AV.prj r897 1) (AV.int 2))) ∧
          (∃ r5825 : AV, ((Fn Tryd.prog 8 [(AV.prj r897 0), (AV.mk 6 [])] Sh.sc r5825) ∧
          ((AV.isBool (AV.bin Go.BinOp.eql (AV.prj r897 1) (AV.int 2))) ∧
          ((isT (AV.bin Go.BinOp.eql (AV.prj r897 1) (AV.int 2))) ∧
          ((AV.flat r5825) ∧
          (fSame r5825 r)))))))))) ∧
        ((isF (AV.bin Go.BinOp.gtr (AV.len x0) (AV.int 64))) →
          ((AV.binOk Go.BinOp.eql (AV.prj r897 1) (AV.int 0)) ∧
          ((AV.isBool (AV.bin Go.BinOp.eql (AV.prj r897 1) (AV.int 0))) ∧
          ((isT (AV.bin Go.BinOp.eql (AV.prj r897 1) (AV.int 0))) ∧
          (∃ r5633 : AV, ((Fn Tryd.prog 8 [(AV.prj r897 0), x0] Sh.sc r5633) ∧
          ((AV.isBool (AV.bin Go.BinOp.eql (AV.prj r897 1) (AV.int 0))) ∧
          ((isT (AV.bin Go.BinOp.eql (AV.prj r897 1) (AV.int 0))) ∧
          ((AV.flat r5633) ∧
          (fSame r5633 r))))))))))))))))) ∧
      ((isF (AV.bin Go.BinOp.eql (AV.len (ys3521.getD 2 default)) (AV.int 0))) →
        ((AV.binOk Go.BinOp.gtr (AV.cel x1 1) (AV.int 3)) ∧
        ((AV.isBool (AV.bin Go.BinOp.eql (AV.len (ys3521.getD 2 default)) (AV.int 0))) ∧
        ((isF (AV.bin Go.BinOp.eql (AV.len (ys3521.getD 2 default)) (AV.int 0))) ∧
        ((AV.isBool (AV.bin Go.BinOp.gtr (AV.cel x1 1) (AV.int 3))) ∧
        (((isT (AV.bin Go.BinOp.gtr (AV.cel x1 1) (AV.int 3))) →
          ((AV.isSl x0 6) ∧
          ((AV.binOk Go.BinOp.gtr (AV.len x0) (AV.int 64)) ∧
          ((AV.isBool (AV.bin Go.BinOp.gtr (AV.len x0) (AV.int 64))) ∧
          (((isT (AV.bin Go.BinOp.gtr (AV.len x0) (AV.int 64))) →
            ((AV.binOk Go.BinOp.eql (AV.prj r897 1) (AV.int 2)) ∧
            ((AV.isBool (AV.bin Go.BinOp.eql (AV.prj r897 1) (AV.int 2))) ∧
            ((isT (AV.bin Go.BinOp.eql (AV.prj r897 1) (AV.int 2))) ∧
            (∃ r5825 : AV, ((Fn Tryd.prog 8 [(AV.prj r897 0), (AV.mk 6 [])] Sh.sc r5825) ∧
            ((AV.isBool (AV.bin Go.BinOp.eql (AV.prj r897 1) (AV.int 2))) ∧
            ((isT (AV.bin Go.BinOp.eql (AV.prj r897 1) (AV.int 2))) ∧
            ((AV.flat r5825) ∧
            (fSame r5825 r)))))))))) ∧
          ((isF (AV.bin Go.BinOp.gtr (AV.len x0) (AV.int 64))) →
            ((AV.binOk Go.BinOp.eql (AV.prj r897 1) (AV.int 0)) ∧
            ((AV.isBool (AV.bin Go.BinOp.eql (AV.prj r897 1) (AV.int 0))) ∧
            ((isT (AV.bin Go.BinOp.eql (AV.prj r897 1) (AV.int 0))) ∧
            (∃ r5633 : AV, ((Fn Tryd.prog 8 [(AV.prj r897 0), x0] Sh.sc r5633) ∧
            ((AV.isBool (AV.bin Go.BinOp.eql (AV.prj r897 1) (AV.int 0))) ∧
            ((isT (AV.bin Go.BinOp.eql (AV.prj r897 1) (AV.int 0))) ∧
            ((AV.flat r5633) ∧
            (fSame r5633 r))))))))))))))) ∧
        ((isF (AV.bin Go.BinOp.gtr (AV.cel x1 1) (AV.int 3))) →
          ((AV.room (ys3521.getD 1 default) (AV.mk 6 [[(AV.cel (AV.prj r2753 0) 0), (AV.cel (AV.prj r2753 0) 1), (AV.cel (AV.prj r2753 0) 2), (AV.cel (AV.prj r2753 0) 3), (AV.cel (AV.prj r2753 0) 4), (AV.cel (AV.prj r2753 0) 5)]]) 48) ∧
          ((AV.inb (ys3521.getD 2 default) (AV.int 0)) ∧
          ((AV.inb (ys3521.getD 2 default) (AV.int 0)) ∧
          (∃ r4929 : AV, ((Fn Tryd.prog 26 [(AV.agg [(AV.cel (AV.prj r2753 0) 1), (AV.cel (AV.prj r2753 0) 2)]), (AV.atAgg (ys3521.getD 2 default) (AV.int 0) 1 2)] (Sh.tup [Sh.sc, Sh.sc]) r4929) ∧
          ((AV.inb (ys3521.getD 2 default) (AV.int 0)) ∧
          ((AV.inb (ys3521.getD 2 default) (AV.int 0)) ∧
          ((AV.binOk Go.BinOp.sub (AV.at (ys3521.getD 2 default) (AV.int 0) 0) x2) ∧
          ((AV.binOk Go.BinOp.quo (AV.prj r4929 0) (AV.bin Go.BinOp.sub (AV.at (ys3521.getD 2 default) (AV.int 0) 0) x2)) ∧
          ((AV.binOk Go.BinOp.eql (AV.cel x1 1) (AV.int 2)) ∧
          ((AV.isBool (AV.bin Go.BinOp.eql (AV.cel x1 1) (AV.int 2))) ∧
          ((isF (AV.bin Go.BinOp.eql (AV.cel x1 1) (AV.int 2))) ∧
          ((AV.isBool (AV.bin Go.BinOp.eql (AV.cel x1 1) (AV.int 2))) ∧
          ((isF (AV.bin Go.BinOp.eql (AV.cel x1 1) (AV.int 2))) ∧
          ((AV.binOk Go.BinOp.eql (AV.cel x1 1) (AV.int 3)) ∧
          ((AV.isBool (AV.bin Go.BinOp.eql (AV.cel x1 1) (AV.int 3))) ∧
          ((isF (AV.bin Go.BinOp.eql (AV.cel x1 1) (AV.int 3))) ∧
          (fLoop 7617 [(AV.int 0), (AV.app 6 (ys3521.getD 1 default) (AV.mk 6 [[(AV.cel (AV.prj r2753 0) 0), (AV.cel (AV.prj r2753 0) 1), (AV.cel (AV.prj r2753 0) 2), (AV.cel (AV.prj r2753 0) 3), (AV.cel (AV.prj r2753 0) 4), (AV.cel (AV.prj r2753 0) 5)]])), (AV.cel (AV.prj r2753 0) 0), (AV.cel (AV.prj r2753 0) 1), (AV.cel (AV.prj r2753 0) 2), (AV.cel (AV.prj r2753 0) 3), (AV.cel (AV.prj r2753 0) 4), (AV.cel (AV.prj r2753 0) 5)] fun ys7617 again7617 =>
            ((AV.binOk Go.BinOp.lss (ys7617.getD 0 default) (AV.len (ys3521.getD 2 default))) ∧
            ((AV.isBool (AV.bin Go.BinOp.lss (ys7617.getD 0 default) (AV.len (ys3521.getD 2 default)))) ∧
            (((isT (AV.bin Go.BinOp.lss (ys7617.getD 0 default) (AV.len (ys3521.getD 2 default)))) →
              ((AV.inb (ys3521.getD 2 default) (ys7617.getD 0 default)) ∧
              ((AV.inb (ys3521.getD 2 default) (ys7617.getD 0 default)) ∧
              ((AV.isAgg (AV.atAgg (ys3521.getD 2 default) (ys7617.getD 0 default) 0 6) 6) ∧
              ((AV.binOk Go.BinOp.eql (AV.cel x1 1) (AV.int 1)) ∧
              ((AV.isBool (AV.bin Go.BinOp.eql (AV.cel x1 1) (AV.int 1))) ∧
              ((isT (AV.bin Go.BinOp.eql (AV.cel x1 1) (AV.int 1))) ∧
              ((AV.binOk Go.BinOp.sub (AV.cel (AV.atAgg (ys3521.getD 2 default) (ys7617.getD 0 default) 0 6) 0) x2) ∧
              ((AV.binOk Go.BinOp.mul (AV.bin Go.BinOp.quo (AV.prj r4929 0) (AV.bin Go.BinOp.sub (AV.at (ys3521.getD 2 default) (AV.int 0) 0) x2)) (AV.bin Go.BinOp.sub (AV.cel (AV.atAgg (ys3521.getD 2 default) (ys7617.getD 0 default) 0 6) 0) x2)) ∧
              (∃ r8705 : AV, ((Fn Tryd.prog 27 [(AV.cel x1 2), (AV.bin Go.BinOp.mul (AV.bin Go.BinOp.quo (AV.prj r4929 0) (AV.bin Go.BinOp.sub (AV.at (ys3521.getD 2 default) (AV.int 0) 0) x2)) (AV.bin Go.BinOp.sub (AV.cel (AV.atAgg (ys3521.getD 2 default) (ys7617.getD 0 default) 0 6) 0) x2))] (Sh.tup [(Sh.agg [Sh.sc, Sh.sc]), Sh.sc]) r8705) ∧
              ((AV.binOk Go.BinOp.neq (AV.prj r8705 1) (AV.int 0)) ∧
              ((AV.isBool (AV.bin Go.BinOp.neq (AV.prj r8705 1) (AV.int 0))) ∧
              (((isT (AV.bin Go.BinOp.neq (AV.prj r8705 1) (AV.int 0))) →
                ((AV.binOk Go.BinOp.eql (AV.prj r8705 1) (AV.int 0)) ∧
                ((AV.isBool (AV.bin Go.BinOp.eql (AV.prj r8705 1) (AV.int 0))) ∧
                ((isF (AV.bin Go.BinOp.eql (AV.prj r8705 1) (AV.int 0))) ∧
                ((AV.isBool (AV.bin Go.BinOp.eql (AV.prj r8705 1) (AV.int 0))) ∧
                ((isF (AV.bin Go.BinOp.eql (AV.prj r8705 1) (AV.int 0))) ∧
                ((AV.binOk Go.BinOp.neq (AV.prj r8705 1) (AV.int 0)) ∧
                ((AV.isBool (AV.bin Go.BinOp.neq (AV.prj r8705 1) (AV.int 0))) ∧
                ((isT (AV.bin Go.BinOp.neq (AV.prj r8705 1) (AV.int 0))) ∧
                ((AV.binOk Go.BinOp.eql (AV.prj r897 1) (AV.prj r8705 1)) ∧
                ((AV.isBool (AV.bin Go.BinOp.eql (AV.prj r897 1) (AV.prj r8705 1))) ∧
                ((isT (AV.bin Go.BinOp.eql (AV.prj r897 1) (AV.prj r8705 1))) ∧
                (∃ r10881 : AV, ((Fn Tryd.prog 8 [(AV.prj r897 0), (AV.mk 6 [])] Sh.sc r10881) ∧
                ((AV.isBool (AV.bin Go.BinOp.eql (AV.prj r897 1) (AV.prj r8705 1))) ∧
                ((isT (AV.bin Go.BinOp.eql (AV.prj r897 1) (AV.prj r8705 1))) ∧
                ((AV.flat r10881) ∧
                (fSame r10881 r)))))))))))))))))) ∧
              ((isF (AV.bin Go.BinOp.neq (AV.prj r8705 1) (AV.int 0))) →
                ((AV.binOk Go.BinOp.add (AV.cel (AV.prj r2753 0) 1) (AV.cel (AV.prj r8705 0) 0)) ∧
                ((AV.binOk Go.BinOp.add (AV.cel (AV.prj r2753 0) 2) (AV.cel (AV.prj r8705 0) 1)) ∧
                ((AV.isOne (AV.bin Go.BinOp.add (AV.cel (AV.prj r2753 0) 1) (AV.cel (AV.prj r8705 0) 0))) ∧
                ((AV.isOne (AV.bin Go.BinOp.add (AV.cel (AV.prj r2753 0) 2) (AV.cel (AV.prj r8705 0) 1))) ∧
                (∃ r10625 : AV, ((Fn Tryd.prog 20 [(AV.agg [(AV.bin Go.BinOp.add (AV.cel (AV.prj r2753 0) 1) (AV.cel (AV.prj r8705 0) 0)), (AV.bin Go.BinOp.add (AV.cel (AV.prj r2753 0) 2) (AV.cel (AV.prj r8705 0) 1))])] Sh.sc r10625) ∧
                ((AV.binOk Go.BinOp.neq r10625 (AV.int 0)) ∧
                ((AV.isBool (AV.bin Go.BinOp.neq r10625 (AV.int 0))) ∧
                (((isT (AV.bin Go.BinOp.neq r10625 (AV.int 0))) →
                  ((AV.binOk Go.BinOp.eql r10625 (AV.int 0)) ∧
                  ((AV.isBool (AV.bin Go.BinOp.eql r10625 (AV.int 0))) ∧
                  ((isF (AV.bin Go.BinOp.eql r10625 (AV.int 0))) ∧
                  ((AV.isBool (AV.bin Go.BinOp.eql r10625 (AV.int 0))) ∧
                  ((isF (AV.bin Go.BinOp.eql r10625 (AV.int 0))) ∧
                  ((AV.binOk Go.BinOp.neq r10625 (AV.int 0)) ∧
                  ((AV.isBool (AV.bin Go.BinOp.neq r10625 (AV.int 0))) ∧
                  ((isT (AV.bin Go.BinOp.neq r10625 (AV.int 0))) ∧
                  ((AV.binOk Go.BinOp.eql (AV.prj r897 1) r10625) ∧
                  ((AV.isBool (AV.bin Go.BinOp.eql (AV.prj r897 1) r10625)) ∧
                  ((isT (AV.bin Go.BinOp.eql (AV.prj r897 1) r10625)) ∧
                  (∃ r12481 : AV, ((Fn Tryd.prog 8 [(AV.prj r897 0), (AV.mk 6 [])] Sh.sc r12481) ∧
                  ((AV.isBool (AV.bin Go.BinOp.eql (AV.prj r897 1) r10625)) ∧
                  ((isT (AV.bin Go.BinOp.eql (AV.prj r897 1) r10625)) ∧
                  ((AV.flat r12481) ∧
                  (fSame r12481 r)))))))))))))))))) ∧
                ((isF (AV.bin Go.BinOp.neq r10625 (AV.int 0))) →
                  ((AV.room (ys7617.getD 1 default) (AV.mk 6 [[(AV.cel (AV.atAgg (ys3521.getD 2 default) (ys7617.getD 0 default) 0 6) 0), (AV.bin Go.BinOp.add (AV.cel (AV.prj r2753 0) 1) (AV.cel (AV.prj r8705 0) 0)), (AV.bin Go.BinOp.add (AV.cel (AV.prj r2753 0) 2) (AV.cel (AV.prj r8705 0) 1)), (AV.cel (AV.atAgg (ys3521.getD 2 default) (ys7617.getD 0 default) 0 6) 3), (AV.cel (AV.atAgg (ys3521.getD 2 default) (ys7617.getD 0 default) 0 6) 4), (AV.cel (AV.atAgg (ys3521.getD 2 default) (ys7617.getD 0 default) 0 6) 5)]]) 48) ∧
                  ((AV.binOk Go.BinOp.add (ys7617.getD 0 default) (AV.int 1)) ∧
                  (again7617 [(AV.bin Go.BinOp.add (ys7617.getD 0 default) (AV.int 1)), (AV.app 6 (ys7617.getD 1 default) (AV.mk 6 [[(AV.cel (AV.atAgg (ys3521.getD 2 default) (ys7617.getD 0 default) 0 6) 0), (AV.bin Go.BinOp.add (AV.cel (AV.prj r2753 0) 1) (AV.cel (AV.prj r8705 0) 0)), (AV.bin Go.BinOp.add (AV.cel (AV.prj r2753 0) 2) (AV.cel (AV.prj r8705 0) 1)), (AV.cel (AV.atAgg (ys3521.getD 2 default) (ys7617.getD 0 default) 0 6) 3), (AV.cel (AV.atAgg (ys3521.getD 2 default) (ys7617.getD 0 default) 0 6) 4), (AV.cel (AV.atAgg (ys3521.getD 2 default) (ys7617.getD 0 default) 0 6) 5)]])), (AV.cel (AV.atAgg (ys3521.getD 2 default) (ys7617.getD 0 default) 0 6) 0), (AV.bin Go.BinOp.add (AV.cel (AV.prj r2753 0) 1) (AV.cel (AV.prj r8705 0) 0)), (AV.bin Go.BinOp.add (AV.cel (AV.prj r2753 0) 2) (AV.cel (AV.prj r8705 0) 1)), (AV.cel (AV.atAgg (ys3521.getD 2 default) (ys7617.getD 0 default) 0 6) 3), (AV.cel (AV.atAgg (ys3521.getD 2 default) (ys7617.getD 0 default) 0 6) 4), (AV.cel (AV.atAgg (ys3521.getD 2 default) (ys7617.getD 0 default) 0 6) 5)])))))))))))))))))))))))))))) ∧
            ((isF (AV.bin Go.BinOp.lss (ys7617.getD 0 default) (AV.len (ys3521.getD 2 default)))) →
              ((AV.binOk Go.BinOp.gtr (AV.len (ys7617.getD 1 default)) (AV.int 64)) ∧
              ((AV.isBool (AV.bin Go.BinOp.gtr (AV.len (ys7617.getD 1 default)) (AV.int 64))) ∧
              (((isT (AV.bin Go.BinOp.gtr (AV.len (ys7617.getD 1 default)) (AV.int 64))) →
                ((AV.binOk Go.BinOp.eql (AV.prj r897 1) (AV.int 2)) ∧
                ((AV.isBool (AV.bin Go.BinOp.eql (AV.prj r897 1) (AV.int 2))) ∧
                ((isT (AV.bin Go.BinOp.eql (AV.prj r897 1) (AV.int 2))) ∧
                (∃ r9409 : AV, ((Fn Tryd.prog 8 [(AV.prj r897 0), (AV.mk 6 [])] Sh.sc r9409) ∧
                ((AV.isBool (AV.bin Go.BinOp.eql (AV.prj r897 1) (AV.int 2))) ∧
                ((isT (AV.bin Go.BinOp.eql (AV.prj r897 1) (AV.int 2))) ∧
                ((AV.flat r9409) ∧
                (fSame r9409 r)))))))))) ∧
              ((isF (AV.bin Go.BinOp.gtr (AV.len (ys7617.getD 1 default)) (AV.int 64))) →
                ((AV.binOk Go.BinOp.eql (AV.prj r897 1) (AV.int 0)) ∧
                ((AV.isBool (AV.bin Go.BinOp.eql (AV.prj r897 1) (AV.int 0))) ∧
                ((isT (AV.bin Go.BinOp.eql (AV.prj r897 1) (AV.int 0))) ∧
                (∃ r9217 : AV, ((Fn Tryd.prog 8 [(AV.prj r897 0), (ys7617.getD 1 default)] Sh.sc r9217) ∧
                ((AV.isBool (AV.bin Go.BinOp.eql (AV.prj r897 1) (AV.int 0))) ∧
                ((isT (AV.bin Go.BinOp.eql (AV.prj r897 1) (AV.int 0))) ∧
                ((AV.flat r9217) ∧
                (fSame r9217 r))))))))))))))))))))))))))))))))))))))))))))))))))))))))) ∧
((isF (AV.bin Go.BinOp.eql r1601 (AV.int 0))) →
  ((AV.binOk Go.BinOp.eql r1601 (AV.int 0)) ∧
  ((AV.isBool (AV.bin Go.BinOp.eql r1601 (AV.int 0))) ∧
  ((isF (AV.bin Go.BinOp.eql r1601 (AV.int 0))) ∧
  ((AV.isBool (AV.bin Go.BinOp.eql r1601 (AV.int 0))) ∧
  ((isF (AV.bin Go.BinOp.eql r1601 (AV.int 0))) ∧
  ((AV.binOk Go.BinOp.neq r1601 (AV.int 0)) ∧
  ((AV.isBool (AV.bin Go.BinOp.neq r1601 (AV.int 0))) ∧
  ((isT (AV.bin Go.BinOp.neq r1601 (AV.int 0))) ∧
  ((AV.binOk Go.BinOp.eql (AV.prj r897 1) r1601) ∧
  ((AV.isBool (AV.bin Go.BinOp.eql (AV.prj r897 1) r1601)) ∧
  ((isT (AV.bin Go.BinOp.eql (AV.prj r897 1) r1601)) ∧
  (∃ r2945 : AV, ((Fn Tryd.prog 8 [(AV.prj r897 0), (AV.mk 6 [])] Sh.sc r2945) ∧
  ((AV.isBool (AV.bin Go.BinOp.eql (AV.prj r897 1) r1601)) ∧
  ((isT (AV.bin Go.BinOp.eql (AV.prj r897 1) r1601)) ∧
  ((AV.flat r2945) ∧
  (fSame r2945 r))))))))))))))))))))))))))))))))))))) := by kernel_rfl
theorem lturns2_form (x0 x1 x2 x3 x4 r : AV) : fnF Tryd.prog Γ ann 3 3 Tryd.f3 (Tryd.f3.body.getD .skip) ((.f (.f (.both (.both .nil (.both (.both (.t .nil) (.t .nil)) (.both (.both (.t .nil) (.t .nil)) (.t (.both (.t .nil) (.both (.t .nil) (.f (.both (.f (.both (.both (.t .nil) .nil) (.both (.both (.t .nil) .nil) (.both (.t .nil) .nil)))) (.both (.t .nil) (.t .nil)))))))))) (.f (.t (.t .nil))))))) [x0, x1, x2, x3, x4] (.sc) r = (((AV.isAgg x1 4) ∧
((AV.isAgg x3 7) ∧
((AV.isAgg x4 2) ∧
(∃ r257 : AV, ((Fn Tryd.prog 4 [] Sh.sc r257) ∧
((AV.unOk Go.UnOp.not r257) ∧
((AV.isBool (AV.un Go.UnOp.not r257)) ∧
((isF (AV.un Go.UnOp.not r257)) ∧
((AV.binOk Go.BinOp.eql (AV.cel x1 1) (AV.int 0)) ∧
((AV.isBool (AV.bin Go.BinOp.eql (AV.cel x1 1) (AV.int 0))) ∧
((isF (AV.bin Go.BinOp.eql (AV.cel x1 1) (AV.int 0))) ∧
(∃ r897 : AV, ((Fn Tryd.prog 5 [x0, (AV.agg [(AV.cel x1 0), (AV.cel x1 1), (AV.cel x1 2), (AV.cel x1 3)]), x2, (AV.agg [(AV.cel x3 0), (AV.cel x3 1), (AV.cel x3 2), (AV.cel x3 3), (AV.cel x3 4), (AV.cel x3 5), (AV.cel x3 6)]), (AV.agg [(AV.cel x4 0), (AV.cel x4 1)])] (Sh.tup [(Sh.row 39 6 true), Sh.sc]) r897) ∧
(∃ r1601 : AV, ((Fn Tryd.prog 6 [x0, (AV.agg [(AV.cel x1 0), (AV.cel x1 1), (AV.cel x1 2), (AV.cel x1 3)]), x2, (AV.agg [(AV.cel x3 0), (AV.cel x3 1), (AV.cel x3 2), (AV.cel x3 3), (AV.cel x3 4), (AV.cel x3 5), (AV.cel x3 6)]), (AV.agg [(AV.cel x4 0), (AV.cel x4 1)])] Sh.sc r1601) ∧
((AV.binOk Go.BinOp.eql r1601 (AV.int 0)) ∧
((AV.isBool (AV.bin Go.BinOp.eql r1601 (AV.int 0))) ∧
(((isT (AV.bin Go.BinOp.eql r1601 (AV.int 0))) →
  ((fEnt Tryd.prog 7) ∧
  (fAllV fun _ => (∃ r2753 : AV, ((Fn Tryd.prog 21 [x0, x2] (Sh.tup [Sh.sc, Sh.sc]) r2753) ∧
  ((AV.isAgg (AV.prj r2753 0) 6) ∧
  ((AV.isSl x0 6) ∧
  (fLoop 3521 [(AV.int 0), (AV.mk 6 []), (AV.mk 6 [])] fun ys3521 again3521 =>
    ((AV.binOk Go.BinOp.lss (ys3521.getD 0 default) (AV.len x0)) ∧
    ((AV.isBool (AV.bin Go.BinOp.lss (ys3521.getD 0 default) (AV.len x0))) ∧
    (((isT (AV.bin Go.BinOp.lss (ys3521.getD 0 default) (AV.len x0))) →
      ((AV.isSl x0 6) ∧
      ((AV.inb x0 (ys3521.getD 0 default)) ∧
      ((AV.isAgg (AV.atAgg x0 (ys3521.getD 0 default) 0 6) 6) ∧
      ((AV.binOk Go.BinOp.lss (AV.cel (AV.atAgg x0 (ys3521.getD 0 default) 0 6) 0) x2) ∧
      ((AV.isBool (AV.bin Go.BinOp.lss (AV.cel (AV.atAgg x0 (ys3521.getD 0 default) 0 6) 0) x2)) ∧
      (((isT (AV.bin Go.BinOp.lss (AV.cel (AV.atAgg x0 (ys3521.getD 0 default) 0 6) 0) x2)) →
        ((AV.room (ys3521.getD 1 default) (AV.mk 6 [[(AV.cel (AV.atAgg x0 (ys3521.getD 0 default) 0 6) 0), (AV.cel (AV.atAgg x0 (ys3521.getD 0 default) 0 6) 1), (AV.cel (AV.atAgg x0 (ys3521.getD 0 default) 0 6) 2), (AV.cel (AV.atAgg x0 (ys3521.getD 0 default) 0 6) 3), (AV.cel (AV.atAgg x0 (ys3521.getD 0 default) 0 6) 4), (AV.cel (AV.atAgg x0 (ys3521.getD 0 default) 0 6) 5)]]) 48) ∧
        ((AV.binOk Go.BinOp.add (ys3521.getD 0 default) (AV.int 1)) ∧
        (again3521 [(AV.bin Go.BinOp.add (ys3521.getD 0 default) (AV.int 1)), (AV.app 6 (ys3521.getD 1 default) (AV.mk 6 [[(AV.cel (AV.atAgg x0 (ys3521.getD 0 default) 0 6) 0), (AV.cel (AV.atAgg x0 (ys3521.getD 0 default) 0 6) 1), (AV.cel (AV.atAgg x0 (ys3521.getD 0 default) 0 6) 2), (AV.cel (AV.atAgg x0 (ys3521.getD 0 default) 0 6) 3), (AV.cel (AV.atAgg x0 (ys3521.getD 0 default) 0 6) 4), (AV.cel (AV.atAgg x0 (ys3521.getD 0 default) 0 6) 5)]])), (ys3521.getD 2 default)])))) ∧
      ((isF (AV.bin Go.BinOp.lss (AV.cel (AV.atAgg x0 (ys3521.getD 0 default) 0 6) 0) x2)) →
        ((AV.binOk Go.BinOp.gtr (AV.cel (AV.atAgg x0 (ys3521.getD 0 default) 0 6) 0) x2) ∧
        ((AV.isBool (AV.bin Go.BinOp.gtr (AV.cel (AV.atAgg x0 (ys3521.getD 0 default) 0 6) 0) x2)) ∧
        (((isT (AV.bin Go.BinOp.gtr (AV.cel (AV.atAgg x0 (ys3521.getD 0 default) 0 6) 0) x2)) →
          ((AV.room (ys3521.getD 2 default) (AV.mk 6 [[(AV.cel (AV.atAgg x0 (ys3521.getD 0 default) 0 6) 0), (AV.cel (AV.atAgg x0 (ys3521.getD 0 default) 0 6) 1), (AV.cel (AV.atAgg x0 (ys3521.getD 0 default) 0 6) 2), (AV.cel (AV.atAgg x0 (ys3521.getD 0 default) 0 6) 3), (AV.cel (AV.atAgg x0 (ys3521.getD 0 default) 0 6) 4), (AV.cel (AV.atAgg x0 (ys3521.getD 0 default) 0 6) 5)]]) 48) ∧
          ((AV.binOk Go.BinOp.add (ys3521.getD 0 default) (AV.int 1)) ∧
          (again3521 [(AV.bin Go.BinOp.add (ys3521.getD 0 default) (AV.int 1)), (ys3521.getD 1 default), (AV.app 6 (ys3521.getD 2 default) (AV.mk 6 [[(AV.cel (AV.atAgg x0 (ys3521.getD 0 default) 0 6) 0), (AV.cel (AV.atAgg x0 (ys3521.getD 0 default) 0 6) 1), (AV.cel (AV.atAgg x0 (ys3521.getD 0 default) 0 6) 2), (AV.cel (AV.atAgg x0 (ys3521.getD 0 default) 0 6) 3), (AV.cel (AV.atAgg x0 (ys3521.getD 0 default) 0 6) 4), (AV.cel (AV.atAgg x0 (ys3521.getD 0 default) 0 6) 5)]]))])))) ∧
        ((isF (AV.bin Go.BinOp.gtr (AV.cel (AV.atAgg x0 (ys3521.getD 0 default) 0 6) 0) x2)) →
          ((AV.binOk Go.BinOp.add (ys3521.getD 0 default) (AV.int 1)) ∧
          (again3521 [(AV.bin Go.BinOp.add (ys3521.getD 0 default) (AV.int 1)), (ys3521.getD 1 default), (ys3521.getD 2 default)])))))))))))))) ∧
    ((isF (AV.bin Go.BinOp.lss (ys3521.getD 0 default) (AV.len x0))) →
      ((AV.binOk Go.BinOp.eql (AV.len (ys3521.getD 2 default)) (AV.int 0)) ∧
      ((AV.isBool (AV.bin Go.BinOp.eql (AV.len (ys3521.getD 2 default)) (AV.int 0))) ∧
      (((isT (AV.bin Go.BinOp.eql (AV.len (ys3521.getD 2 default)) (AV.int 0))) →
        ((AV.isBool (AV.bin Go.BinOp.eql (AV.len (ys3521.getD 2 default)) (AV.int 0))) ∧
        ((isT (AV.bin Go.BinOp.eql (AV.len (ys3521.getD 2 default)) (AV.int 0))) ∧
        ((AV.isSl x0 6) ∧
        ((AV.binOk Go.BinOp.gtr (AV.len x0) (AV.int 64)) ∧
        ((AV.isBool (AV.bin Go.BinOp.gtr (AV.len x0) (AV.int 64))) ∧
        (((isT (AV.bin Go.BinOp.gtr (AV.len x0) (AV.int 64))) →
          ((AV.binOk Go.BinOp.eql (AV.prj r897 1) (AV.int 2)) ∧
          ((AV.isBool (AV.bin Go.BinOp.eql (AV.prj r897 1) (AV.int 2))) ∧
          ((isT (AV.bin Go.BinOp.eql (AV.prj r897 1) (AV.int 2))) ∧
          (∃ r5825 : AV, ((Fn Tryd.prog 8 [(AV.prj r897 0), (AV.mk 6 [])] Sh.sc r5825) ∧
          ((AV.isBool (AV.bin Go.BinOp.eql (AV.prj r897 1) (AV.int 2))) ∧
          ((isT (AV.bin Go.BinOp.eql (AV.prj r897 1) (AV.int 2))) ∧
          ((AV.flat r5825) ∧
          (fSame r5825 r)))))))))) ∧
        ((isF (AV.bin Go.BinOp.gtr (AV.len x0) (AV.int 64))) →
          ((AV.binOk Go.BinOp.eql (AV.prj r897 1) (AV.int 0)) ∧
          ((AV.isBool (AV.bin Go.BinOp.eql (AV.prj r897 1) (AV.int 0))) ∧
          ((isT (AV.bin Go.BinOp.eql (AV.prj r897 1) (AV.int 0))) ∧
          (∃ r5633 : AV, ((Fn Tryd.prog 8 [(AV.prj r897 0), x0] Sh.sc r5633) ∧
          ((AV.isBool (AV.bin Go.BinOp.eql (AV.prj r897 1) (AV.int 0))) ∧
          ((isT (AV.bin Go.BinOp.eql (AV.prj r897 1) (AV.int 0))) ∧
          ((AV.flat r5633) ∧
          (fSame r5633 r))))))))))))))))) ∧
      ((isF (AV.bin Go.BinOp.eql (AV.len (ys3521.getD 2 default)) (AV.int 0))) →
        ((AV.binOk Go.BinOp.gtr (AV.cel x1 1) (AV.int 3)) ∧
        ((AV.isBool (AV.bin Go.BinOp.eql (AV.len (ys3521.getD 2 default)) (AV.int 0))) ∧
        ((isF (AV.bin Go.BinOp.eql (AV.len (ys3521.getD 2 default)) (AV.int 0))) ∧
        ((AV.isBool (AV.bin Go.BinOp.gtr (AV.cel x1 1) (AV.int 3))) ∧
        (((isT (AV.bin Go.BinOp.gtr (AV.cel x1 1) (AV.int 3))) →
          ((AV.isSl x0 6) ∧
          ((AV.binOk Go.BinOp.gtr (AV.len x0) (AV.int 64)) ∧
          ((AV.isBool (AV.bin Go.BinOp.gtr (AV.len x0) (AV.int 64))) ∧
          (((isT (AV.bin Go.BinOp.gtr (AV.len x0) (AV.int 64))) →
            ((AV.binOk Go.BinOp.eql (AV.prj r897 1) (AV.int 2)) ∧
            ((AV.isBool (AV.bin Go.BinOp.eql (AV.prj r897 1) (AV.int 2))) ∧
            ((isT (AV.bin Go.BinOp.eql (AV.prj r897 1) (AV.int 2))) ∧
            (∃ r5825 : AV, ((Fn Tryd.prog 8 [(AV.prj r897 0), (AV.mk 6 [])] Sh.sc r5825) ∧
            ((AV.isBool (AV.bin Go.BinOp.eql (AV.prj r897 1) (AV.int 2))) ∧
            ((isT (AV.bin Go.BinOp.eql (AV.prj r897 1) (AV.int 2))) ∧
            ((AV.flat r5825) ∧
            (fSame r5825 r)))))))))) ∧
          ((isF (AV.bin Go.BinOp.gtr (AV.len x0) (AV.int 64))) →
            ((AV.binOk Go.BinOp.eql (AV.prj r897 1) (AV.int 0)) ∧
            ((AV.isBool (AV.bin Go.BinOp.eql (AV.prj r897 1) (AV.int 0))) ∧
            ((isT (AV.bin Go.BinOp.eql (AV.prj r897 1) (AV.int 0))) ∧
            (∃ r5633 : AV, ((Fn Tryd.prog 8 [(AV.prj r897 0), x0] Sh.sc r5633) ∧
            ((AV.isBool (AV.bin Go.BinOp.eql (AV.prj r897 1) (AV.int 0))) ∧
            ((isT (AV.bin Go.BinOp.eql (AV.prj r897 1) (AV.int 0))) ∧
            ((AV.flat r5633) ∧
            (fSame r5633 r))))))))))))))) ∧
        ((isF (AV.bin Go.BinOp.gtr (AV.cel x1 1) (AV.int 3))) →
          ((AV.room (ys3521.getD 1 default) (AV.mk 6 [[(AV.cel (AV.prj r2753 0) 0), (AV.cel (AV.prj r2753 0) 1), (AV.cel (AV.prj r2753 0) 2), (AV.cel (AV.prj r2753 0) 3), (AV.cel (AV.prj r2753 0) 4), (AV.cel (AV.prj r2753 0) 5)]]) 48) ∧
          ((AV.inb (ys3521.getD 2 default) (AV.int 0)) ∧
          ((AV.inb (ys3521.getD 2 default) (AV.int 0)) ∧
          (∃ r4929 : AV, ((Fn Tryd.prog 26 [(AV.agg [(AV.cel (AV.prj r2753 0) 1), (AV.cel (AV.prj r2753 0) 2)]), (AV.atAgg (ys3521.getD 2 default) (AV.int 0) 1 2)] (Sh.tup [Sh.sc, Sh.sc]) r4929) ∧
          ((AV.inb (ys3521.getD 2 default) (AV.int 0)) ∧
          ((AV.inb (ys3521.getD 2 default) (AV.int 0)) ∧
          ((AV.binOk Go.BinOp.sub (AV.at (ys3521.getD 2 default) (AV.int 0) 0) x2) ∧
          ((AV.binOk Go.BinOp.quo (AV.prj r4929 0) (AV.bin Go.BinOp.sub (AV.at (ys3521.getD 2 default) (AV.int 0) 0) x2)) ∧
          ((AV.binOk Go.BinOp.eql (AV.cel x1 1) (AV.int 2)) ∧
          ((AV.isBool (AV.bin Go.BinOp.eql (AV.cel x1 1) (AV.int 2))) ∧
          ((isT (AV.bin Go.BinOp.eql (AV.cel x1 1) (AV.int 2))) ∧
          ((AV.binOk Go.BinOp.lss (AV.cel x1 2) (AV.cel x3 5)) ∧
          ((AV.isBool (AV.bin Go.BinOp.lss (AV.cel x1 2) (AV.cel x3 5))) ∧
          (((isT (AV.bin Go.BinOp.lss (AV.cel x1 2) (AV.cel x3 5))) →
            ((AV.isBool (AV.bin Go.BinOp.lss (AV.cel x1 2) (AV.cel x3 5))) ∧
            ((isT (AV.bin Go.BinOp.lss (AV.cel x1 2) (AV.cel x3 5))) ∧
            ((AV.isBool (AV.bin Go.BinOp.eql (AV.cel x1 1) (AV.int 2))) ∧
            ((isT (AV.bin Go.BinOp.eql (AV.cel x1 1) (AV.int 2))) ∧
            ((AV.binOk Go.BinOp.eql (AV.prj r897 1) (AV.int 4)) ∧
            ((AV.isBool (AV.bin Go.BinOp.eql (AV.prj r897 1) (AV.int 4))) ∧
            ((isT (AV.bin Go.BinOp.eql (AV.prj r897 1) (AV.int 4))) ∧
            (∃ r8577 : AV, ((Fn Tryd.prog 8 [(AV.prj r897 0), (AV.mk 6 [])] Sh.sc r8577) ∧
            ((AV.isBool (AV.bin Go.BinOp.eql (AV.prj r897 1) (AV.int 4))) ∧
            ((isT (AV.bin Go.BinOp.eql (AV.prj r897 1) (AV.int 4))) ∧
            ((AV.flat r8577) ∧
            (fSame r8577 r)))))))))))))) ∧
          ((isF (AV.bin Go.BinOp.lss (AV.cel x1 2) (AV.cel x3 5))) →
            ((AV.binOk Go.BinOp.gtr (AV.cel x1 2) (AV.cel x3 6)) ∧
            ((AV.isBool (AV.bin Go.BinOp.lss (AV.cel x1 2) (AV.cel x3 5))) ∧
            ((isF (AV.bin Go.BinOp.lss (AV.cel x1 2) (AV.cel x3 5))) ∧
            ((AV.isBool (AV.bin Go.BinOp.eql (AV.cel x1 1) (AV.int 2))) ∧
            ((isT (AV.bin Go.BinOp.eql (AV.cel x1 1) (AV.int 2))) ∧
            ((AV.isBool (AV.bin Go.BinOp.gtr (AV.cel x1 2) (AV.cel x3 6))) ∧
            (((isT (AV.bin Go.BinOp.gtr (AV.cel x1 2) (AV.cel x3 6))) →
              ((AV.binOk Go.BinOp.eql (AV.prj r897 1) (AV.int 4)) ∧
              ((AV.isBool (AV.bin Go.BinOp.eql (AV.prj r897 1) (AV.int 4))) ∧
              ((isT (AV.bin Go.BinOp.eql (AV.prj r897 1) (AV.int 4))) ∧
              (∃ r8577 : AV, ((Fn Tryd.prog 8 [(AV.prj r897 0), (AV.mk 6 [])] Sh.sc r8577) ∧
              ((AV.isBool (AV.bin Go.BinOp.eql (AV.prj r897 1) (AV.int 4))) ∧
              ((isT (AV.bin Go.BinOp.eql (AV.prj r897 1) (AV.int 4))) ∧
              ((AV.flat r8577) ∧
              (fSame r8577 r)))))))))) ∧
            ((isF (AV.bin Go.BinOp.gtr (AV.cel x1 2) (AV.cel x3 6))) →
              ((AV.binOk Go.BinOp.eql (AV.cel x1 1) (AV.int 3)) ∧
              ((AV.isBool (AV.bin Go.BinOp.eql (AV.cel x1 1) (AV.int 3))) ∧
              ((isF (AV.bin Go.BinOp.eql (AV.cel x1 1) (AV.int 3))) ∧
              (fLoop 7617 [(AV.int 0), (AV.app 6 (ys3521.getD 1 default) (AV.mk 6 [[(AV.cel (AV.prj r2753 0) 0), (AV.cel (AV.prj r2753 0) 1), (AV.cel (AV.prj r2753 0) 2), (AV.cel (AV.prj r2753 0) 3), (AV.cel (AV.prj r2753 0) 4), (AV.cel (AV.prj r2753 0) 5)]])), (AV.cel (AV.prj r2753 0) 0), (AV.cel (AV.prj r2753 0) 1), (AV.cel (AV.prj r2753 0) 2), (AV.cel (AV.prj r2753 0) 3), (AV.cel (AV.prj r2753 0) 4), (AV.cel (AV.prj r2753 0) 5)] fun ys7617 again7617 =>
                ((AV.binOk Go.BinOp.lss (ys7617.getD 0 default) (AV.len (ys3521.getD 2 default))) ∧
                ((AV.isBool (AV.bin Go.BinOp.lss (ys7617.getD 0 default) (AV.len (ys3521.getD 2 default)))) ∧
                (((isT (AV.bin Go.BinOp.lss (ys7617.getD 0 default) (AV.len (ys3521.getD 2 default)))) →
                  ((AV.inb (ys3521.getD 2 default) (ys7617.getD 0 default)) ∧
                  ((AV.inb (ys3521.getD 2 default) (ys7617.getD 0 default)) ∧
                  ((AV.isAgg (AV.atAgg (ys3521.getD 2 default) (ys7617.getD 0 default) 0 6) 6) ∧
                  ((AV.binOk Go.BinOp.eql (AV.cel x1 1) (AV.int 1)) ∧
                  ((AV.isBool (AV.bin Go.BinOp.eql (AV.cel x1 1) (AV.int 1))) ∧
                  ((isF (AV.bin Go.BinOp.eql (AV.cel x1 1) (AV.int 1))) ∧
                  (∃ r8513 : AV, ((Fn Tryd.prog 26 [(AV.agg [(ys7617.getD 3 default), (ys7617.getD 4 default)]), (AV.agg [(AV.cel (AV.atAgg (ys3521.getD 2 default) (ys7617.getD 0 default) 0 6) 1), (AV.cel (AV.atAgg (ys3521.getD 2 default) (ys7617.getD 0 default) 0 6) 2)])] (Sh.tup [Sh.sc, Sh.sc]) r8513) ∧
                  ((AV.binOk Go.BinOp.quo (AV.prj r8513 1) (AV.cel x1 2)) ∧
                  ((AV.binOk Go.BinOp.rem (AV.prj r8513 1) (AV.cel x1 2)) ∧
                  ((AV.binOk Go.BinOp.gtr (AV.bin Go.BinOp.rem (AV.prj r8513 1) (AV.cel x1 2)) (AV.int 0)) ∧
                  ((AV.isBool (AV.bin Go.BinOp.gtr (AV.bin Go.BinOp.rem (AV.prj r8513 1) (AV.cel x1 2)) (AV.int 0))) ∧
                  (((isT (AV.bin Go.BinOp.gtr (AV.bin Go.BinOp.rem (AV.prj r8513 1) (AV.cel x1 2)) (AV.int 0))) →
                    ((AV.isBool (AV.bin Go.BinOp.gtr (AV.bin Go.BinOp.rem (AV.prj r8513 1) (AV.cel x1 2)) (AV.int 0))) ∧
                    ((isT (AV.bin Go.BinOp.gtr (AV.bin Go.BinOp.rem (AV.prj r8513 1) (AV.cel x1 2)) (AV.int 0))) ∧
                    ((AV.binOk Go.BinOp.add (AV.bin Go.BinOp.quo (AV.prj r8513 1) (AV.cel x1 2)) (AV.int 1)) ∧
                    ((AV.binOk Go.BinOp.add (ys7617.getD 2 default) (AV.bin Go.BinOp.add (AV.bin Go.BinOp.quo (AV.prj r8513 1) (AV.cel x1 2)) (AV.int 1))) ∧
                    ((AV.isOne (AV.bin Go.BinOp.add (ys7617.getD 2 default) (AV.bin Go.BinOp.add (AV.bin Go.BinOp.quo (AV.prj r8513 1) (AV.cel x1 2)) (AV.int 1)))) ∧
                    ((AV.binOk Go.BinOp.gtr (AV.bin Go.BinOp.add (ys7617.getD 2 default) (AV.bin Go.BinOp.add (AV.bin Go.BinOp.quo (AV.prj r8513 1) (AV.cel x1 2)) (AV.int 1))) (AV.int 200000)) ∧
                    ((AV.isBool (AV.bin Go.BinOp.gtr (AV.bin Go.BinOp.add (ys7617.getD 2 default) (AV.bin Go.BinOp.add (AV.bin Go.BinOp.quo (AV.prj r8513 1) (AV.cel x1 2)) (AV.int 1))) (AV.int 200000))) ∧
                    (((isT (AV.bin Go.BinOp.gtr (AV.bin Go.BinOp.add (ys7617.getD 2 default) (AV.bin Go.BinOp.add (AV.bin Go.BinOp.quo (AV.prj r8513 1) (AV.cel x1 2)) (AV.int 1))) (AV.int 200000))) →
                      ((AV.binOk Go.BinOp.eql (AV.prj r897 1) (AV.int 12)) ∧
                      ((AV.isBool (AV.bin Go.BinOp.eql (AV.prj r897 1) (AV.int 12))) ∧
                      ((isT (AV.bin Go.BinOp.eql (AV.prj r897 1) (AV.int 12))) ∧
                      (∃ r12289 : AV, ((Fn Tryd.prog 8 [(AV.prj r897 0), (AV.mk 6 [])] Sh.sc r12289) ∧
                      ((AV.isBool (AV.bin Go.BinOp.eql (AV.prj r897 1) (AV.int 12))) ∧
                      ((isT (AV.bin Go.BinOp.eql (AV.prj r897 1) (AV.int 12))) ∧
                      ((AV.flat r12289) ∧
                      (fSame r12289 r)))))))))) ∧
                    ((isF (AV.bin Go.BinOp.gtr (AV.bin Go.BinOp.add (ys7617.getD 2 default) (AV.bin Go.BinOp.add (AV.bin Go.BinOp.quo (AV.prj r8513 1) (AV.cel x1 2)) (AV.int 1))) (AV.int 200000))) →
                      ((AV.room (ys7617.getD 1 default) (AV.mk 6 [[(AV.bin Go.BinOp.add (ys7617.getD 2 default) (AV.bin Go.BinOp.add (AV.bin Go.BinOp.quo (AV.prj r8513 1) (AV.cel x1 2)) (AV.int 1))), (AV.cel (AV.atAgg (ys3521.getD 2 default) (ys7617.getD 0 default) 0 6) 1), (AV.cel (AV.atAgg (ys3521.getD 2 default) (ys7617.getD 0 default) 0 6) 2), (AV.cel (AV.atAgg (ys3521.getD 2 default) (ys7617.getD 0 default) 0 6) 3), (AV.cel (AV.atAgg (ys3521.getD 2 default) (ys7617.getD 0 default) 0 6) 4), (AV.cel (AV.atAgg (ys3521.getD 2 default) (ys7617.getD 0 default) 0 6) 5)]]) 48) ∧
                      ((AV.binOk Go.BinOp.add (ys7617.getD 0 default) (AV.int 1)) ∧
                      (again7617 [(AV.bin Go.BinOp.add (ys7617.getD 0 default) (AV.int 1)), (AV.app 6 (ys7617.getD 1 default) (AV.mk 6 [[(AV.bin Go.BinOp.add (ys7617.getD 2 default) (AV.bin Go.BinOp.add (AV.bin Go.BinOp.quo (AV.prj r8513 1) (AV.cel x1 2)) (AV.int 1))), (AV.cel (AV.atAgg (ys3521.getD 2 default) (ys7617.getD 0 default) 0 6) 1), (AV.cel (AV.atAgg (ys3521.getD 2 default) (ys7617.getD 0 default) 0 6) 2), (AV.cel (AV.atAgg (ys3521.getD 2 default) (ys7617.getD 0 default) 0 6) 3), (AV.cel (AV.atAgg (ys3521.getD 2 default) (ys7617.getD 0 default) 0 6) 4), (AV.cel (AV.atAgg (ys3521.getD 2 default) (ys7617.getD 0 default) 0 6) 5)]])), (AV.bin Go.BinOp.add (ys7617.getD 2 default) (AV.bin Go.BinOp.add (AV.bin Go.BinOp.quo (AV.prj r8513 1) (AV.cel x1 2)) (AV.int 1))), (AV.cel (AV.atAgg (ys3521.getD 2 default) (ys7617.getD 0 default) 0 6) 1), (AV.cel (AV.atAgg (ys3521.getD 2 default) (ys7617.getD 0 default) 0 6) 2), (AV.cel (AV.atAgg (ys3521.getD 2 default) (ys7617.getD 0 default) 0 6) 3), (AV.cel (AV.atAgg (ys3521.getD 2 default) (ys7617.getD 0 default) 0 6) 4), (AV.cel (AV.atAgg (ys3521.getD 2 default) (ys7617.getD 0 default) 0 6) 5)]))))))))))))) ∧
                  ((isF (AV.bin Go.BinOp.gtr (AV.bin Go.BinOp.rem (AV.prj r8513 1) (AV.cel x1 2)) (AV.int 0))) →
                    ((AV.binOk Go.BinOp.eql (AV.prj r8513 1) (AV.int 0)) ∧
                    ((AV.isBool (AV.bin Go.BinOp.gtr (AV.bin Go.BinOp.rem (AV.prj r8513 1) (AV.cel x1 2)) (AV.int 0))) ∧
                    ((isF (AV.bin Go.BinOp.gtr (AV.bin Go.BinOp.rem (AV.prj r8513 1) (AV.cel x1 2)) (AV.int 0))) ∧
                    ((AV.isBool (AV.bin Go.BinOp.eql (AV.prj r8513 1) (AV.int 0))) ∧
                    (((isT (AV.bin Go.BinOp.eql (AV.prj r8513 1) (AV.int 0))) →
                      ((AV.binOk Go.BinOp.add (AV.bin Go.BinOp.quo (AV.prj r8513 1) (AV.cel x1 2)) (AV.int 1)) ∧
                      ((AV.binOk Go.BinOp.add (ys7617.getD 2 default) (AV.bin Go.BinOp.add (AV.bin Go.BinOp.quo (AV.prj r8513 1) (AV.cel x1 2)) (AV.int 1))) ∧
                      ((AV.isOne (AV.bin Go.BinOp.add (ys7617.getD 2 default) (AV.bin Go.BinOp.add (AV.bin Go.BinOp.quo (AV.prj r8513 1) (AV.cel x1 2)) (AV.int 1)))) ∧
                      ((AV.binOk Go.BinOp.gtr (AV.bin Go.BinOp.add (ys7617.getD 2 default) (AV.bin Go.BinOp.add (AV.bin Go.BinOp.quo (AV.prj r8513 1) (AV.cel x1 2)) (AV.int 1))) (AV.int 200000)) ∧
                      ((AV.isBool (AV.bin Go.BinOp.gtr (AV.bin Go.BinOp.add (ys7617.getD 2 default) (AV.bin Go.BinOp.add (AV.bin Go.BinOp.quo (AV.prj r8513 1) (AV.cel x1 2)) (AV.int 1))) (AV.int 200000))) ∧
                      (((isT (AV.bin Go.BinOp.gtr (AV.bin Go.BinOp.add (ys7617.getD 2 default) (AV.bin Go.BinOp.add (AV.bin Go.BinOp.quo (AV.prj r8513 1) (AV.cel x1 2)) (AV.int 1))) (AV.int 200000))) →
                        ((AV.binOk Go.BinOp.eql (AV.prj r897 1) (AV.int 12)) ∧
                        ((AV.isBool (AV.bin Go.BinOp.eql (AV.prj r897 1) (AV.int 12))) ∧
                        ((isT (AV.bin Go.BinOp.eql (AV.prj r897 1) (AV.int 12))) ∧
                        (∃ r12289 : AV, ((Fn Tryd.prog 8 [(AV.prj r897 0), (AV.mk 6 [])] Sh.sc r12289) ∧
                        ((AV.isBool (AV.bin Go.BinOp.eql (AV.prj r897 1) (AV.int 12))) ∧
                        ((isT (AV.bin Go.BinOp.eql (AV.prj r897 1) (AV.int 12))) ∧
                        ((AV.flat r12289) ∧
                        (fSame r12289 r)))))))))) ∧
                      ((isF (AV.bin Go.BinOp.gtr (AV.bin Go.BinOp.add (ys7617.getD 2 default) (AV.bin Go.BinOp.add (AV.bin Go.BinOp.quo (AV.prj r8513 1) (AV.cel x1 2)) (AV.int 1))) (AV.int 200000))) →
                        ((AV.room (ys7617.getD 1 default) (AV.mk 6 [[(AV.bin Go.BinOp.add (ys7617.getD 2 default) (AV.bin Go.BinOp.add (AV.bin Go.BinOp.quo (AV.prj r8513 1) (AV.cel x1 2)) (AV.int 1))), (AV.cel (AV.atAgg (ys3521.getD 2 default) (ys7617.getD 0 default) 0 6) 1), (AV.cel (AV.atAgg (ys3521.getD 2 default) (ys7617.getD 0 default) 0 6) 2), (AV.cel (AV.atAgg (ys3521.getD 2 default) (ys7617.getD 0 default) 0 6) 3), (AV.cel (AV.atAgg (ys3521.getD 2 default) (ys7617.getD 0 default) 0 6) 4), (AV.cel (AV.atAgg (ys3521.getD 2 default) (ys7617.getD 0 default) 0 6) 5)]]) 48) ∧
                        ((AV.binOk Go.BinOp.add (ys7617.getD 0 default) (AV.int 1)) ∧
                        (again7617 [(AV.bin Go.BinOp.add (ys7617.getD 0 default) (AV.int 1)), (AV.app 6 (ys7617.getD 1 default) (AV.mk 6 [[(AV.bin Go.BinOp.add (ys7617.getD 2 default) (AV.bin Go.BinOp.add (AV.bin Go.BinOp.quo (AV.prj r8513 1) (AV.cel x1 2)) (AV.int 1))), (AV.cel (AV.atAgg (ys3521.getD 2 default) (ys7617.getD 0 default) 0 6) 1), (AV.cel (AV.atAgg (ys3521.getD 2 default) (ys7617.getD 0 default) 0 6) 2), (AV.cel (AV.atAgg (ys3521.getD 2 default) (ys7617.getD 0 default) 0 6) 3), (AV.cel (AV.atAgg (ys3521.getD 2 default) (ys7617.getD 0 default) 0 6) 4), (AV.cel (AV.atAgg (ys3521.getD 2 default) (ys7617.getD 0 default) 0 6) 5)]])), (AV.bin Go.BinOp.add (ys7617.getD 2 default) (AV.bin Go.BinOp.add (AV.bin Go.BinOp.quo (AV.prj r8513 1) (AV.cel x1 2)) (AV.int 1))), (AV.cel (AV.atAgg (ys3521.getD 2 default) (ys7617.getD 0 default) 0 6) 1), (AV.cel (AV.atAgg (ys3521.getD 2 default) (ys7617.getD 0 default) 0 6) 2), (AV.cel (AV.atAgg (ys3521.getD 2 default) (ys7617.getD 0 default) 0 6) 3), (AV.cel (AV.atAgg (ys3521.getD 2 default) (ys7617.getD 0 default) 0 6) 4), (AV.cel (AV.atAgg (ys3521.getD 2 default) (ys7617.getD 0 default) 0 6) 5)]))))))))))) ∧
                    ((isF (AV.bin Go.BinOp.eql (AV.prj r8513 1) (AV.int 0))) →
                      ((AV.binOk Go.BinOp.add (ys7617.getD 2 default) (AV.bin Go.BinOp.quo (AV.prj r8513 1) (AV.cel x1 2))) ∧
                      ((AV.isOne (AV.bin Go.BinOp.add (ys7617.getD 2 default) (AV.bin Go.BinOp.quo (AV.prj r8513 1) (AV.cel x1 2)))) ∧
                      ((AV.binOk Go.BinOp.gtr (AV.bin Go.BinOp.add (ys7617.getD 2 default) (AV.bin Go.BinOp.quo (AV.prj r8513 1) (AV.cel x1 2))) (AV.int 200000)) ∧
                      ((AV.isBool (AV.bin Go.BinOp.gtr (AV.bin Go.BinOp.add (ys7617.getD 2 default) (AV.bin Go.BinOp.quo (AV.prj r8513 1) (AV.cel x1 2))) (AV.int 200000))) ∧
                      (((isT (AV.bin Go.BinOp.gtr (AV.bin Go.BinOp.add (ys7617.getD 2 default) (AV.bin Go.BinOp.quo (AV.prj r8513 1) (AV.cel x1 2))) (AV.int 200000))) →
                        ((AV.binOk Go.BinOp.eql (AV.prj r897 1) (AV.int 12)) ∧
                        ((AV.isBool (AV.bin Go.BinOp.eql (AV.prj r897 1) (AV.int 12))) ∧
                        ((isT (AV.bin Go.BinOp.eql (AV.prj r897 1) (AV.int 12))) ∧
                        (∃ r12097 : AV, ((Fn Tryd.prog 8 [(AV.prj r897 0), (AV.mk 6 [])] Sh.sc r12097) ∧
                        ((AV.isBool (AV.bin Go.BinOp.eql (AV.prj r897 1) (AV.int 12))) ∧
                        ((isT (AV.bin Go.BinOp.eql (AV.prj r897 1) (AV.int 12))) ∧
                        ((AV.flat r12097) ∧
                        (fSame r12097 r)))))))))) ∧
                      ((isF (AV.bin Go.BinOp.gtr (AV.bin Go.BinOp.add (ys7617.getD 2 default) (AV.bin Go.BinOp.quo (AV.prj r8513 1) (AV.cel x1 2))) (AV.int 200000))) →
                        ((AV.room (ys7617.getD 1 default) (AV.mk 6 [[(AV.bin Go.BinOp.add (ys7617.getD 2 default) (AV.bin Go.BinOp.quo (AV.prj r8513 1) (AV.cel x1 2))), (AV.cel (AV.atAgg (ys3521.getD 2 default) (ys7617.getD 0 default) 0 6) 1), (AV.cel (AV.atAgg (ys3521.getD 2 default) (ys7617.getD 0 default) 0 6) 2), (AV.cel (AV.atAgg (ys3521.getD 2 default) (ys7617.getD 0 default) 0 6) 3), (AV.cel (AV.atAgg (ys3521.getD 2 default) (ys7617.getD 0 default) 0 6) 4), (AV.cel (AV.atAgg (ys3521.getD 2 default) (ys7617.getD 0 default) 0 6) 5)]]) 48) ∧
                        ((AV.binOk Go.BinOp.add (ys7617.getD 0 default) (AV.int 1)) ∧
                        (again7617 [(AV.bin Go.BinOp.add (ys7617.getD 0 default) (AV.int 1)), (AV.app 6 (ys7617.getD 1 default) (AV.mk 6 [[(AV.bin Go.BinOp.add (ys7617.getD 2 default) (AV.bin Go.BinOp.quo (AV.prj r8513 1) (AV.cel x1 2))), (AV.cel (AV.atAgg (ys3521.getD 2 default) (ys7617.getD 0 default) 0 6) 1), (AV.cel (AV.atAgg (ys3521.getD 2 default) (ys7617.getD 0 default) 0 6) 2), (AV.cel (AV.atAgg (ys3521.getD 2 default) (ys7617.getD 0 default) 0 6) 3), (AV.cel (AV.atAgg (ys3521.getD 2 default) (ys7617.getD 0 default) 0 6) 4), (AV.cel (AV.atAgg (ys3521.getD 2 default) (ys7617.getD 0 default) 0 6) 5)]])), (AV.bin Go.BinOp.add (ys7617.getD 2 default) (AV.bin Go.BinOp.quo (AV.prj r8513 1) (AV.cel x1 2))), (AV.cel (AV.atAgg (ys3521.getD 2 default) (ys7617.getD 0 default) 0 6) 1), (AV.cel (AV.atAgg (ys3521.getD 2 default) (ys7617.getD 0 default) 0 6) 2), (AV.cel (AV.atAgg (ys3521.getD 2 default) (ys7617.getD 0 default) 0 6) 3), (AV.cel (AV.atAgg (ys3521.getD 2 default) (ys7617.getD 0 default) 0 6) 4), (AV.cel (AV.atAgg (ys3521.getD 2 default) (ys7617.getD 0 default) 0 6) 5)])))))))))))))))))))))))))))))) ∧
                ((isF (AV.bin Go.BinOp.lss (ys7617.getD 0 default) (AV.len (ys3521.getD 2 default)))) →
                  ((AV.binOk Go.BinOp.gtr (AV.len (ys7617.getD 1 default)) (AV.int 64)) ∧
                  ((AV.isBool (AV.bin Go.BinOp.gtr (AV.len (ys7617.getD 1 default)) (AV.int 64))) ∧
                  (((isT (AV.bin Go.BinOp.gtr (AV.len (ys7617.getD 1 default)) (AV.int 64))) →
                    ((AV.binOk Go.BinOp.eql (AV.prj r897 1) (AV.int 2)) ∧
                    ((AV.isBool (AV.bin Go.BinOp.eql (AV.prj r897 1) (AV.int 2))) ∧
                    ((isT (AV.bin Go.BinOp.eql (AV.prj r897 1) (AV.int 2))) ∧
                    (∃ r9409 : AV, ((Fn Tryd.prog 8 [(AV.prj r897 0), (AV.mk 6 [])] Sh.sc r9409) ∧
                    ((AV.isBool (AV.bin Go.BinOp.eql (AV.prj r897 1) (AV.int 2))) ∧
                    ((isT (AV.bin Go.BinOp.eql (AV.prj r897 1) (AV.int 2))) ∧
                    ((AV.flat r9409) ∧
                    (fSame r9409 r)))))))))) ∧
                  ((isF (AV.bin Go.BinOp.gtr (AV.len (ys7617.getD 1 default)) (AV.int 64))) →
                    ((AV.binOk Go.BinOp.eql (AV.prj r897 1) (AV.int 0)) ∧
                    ((AV.isBool (AV.bin Go.BinOp.eql (AV.prj r897 1) (AV.int 0))) ∧
                    ((isT (AV.bin Go.BinOp.eql (AV.prj r897 1) (AV.int 0))) ∧
                    (∃ r9217 : AV, ((Fn Tryd.prog 8 [(AV.prj r897 0), (ys7617.getD 1 default)] Sh.sc r9217) ∧
                    ((AV.isBool (AV.bin Go.BinOp.eql (AV.prj r897 1) (AV.int 0))) ∧
                    ((isT (AV.bin Go.BinOp.eql (AV.prj r897 1) (AV.int 0))) ∧
                    ((AV.flat r9217) ∧
                    (fSame r9217 r))))))))))))))))))))))))))))))))))))))))))))))))))))))))))))))))))) ∧
((isF (AV.bin Go.BinOp.eql r1601 (AV.int 0))) →
  ((AV.binOk Go.BinOp.eql r1601 (AV.int 0)) ∧
  ((AV.isBool (AV.bin Go.BinOp.eql r1601 (AV.int 0))) ∧
  ((isF (AV.bin Go.BinOp.eql r1601 (AV.int 0))) ∧
  ((AV.isBool (AV.bin Go.BinOp.eql r1601 (AV.int 0))) ∧
  ((isF (AV.bin Go.BinOp.eql r1601 (AV.int 0))) ∧
  ((AV.binOk Go.BinOp.neq r1601 (AV.int 0)) ∧
  ((AV.isBool (AV.bin Go.BinOp.neq r1601 (AV.int 0))) ∧
  ((isT (AV.bin Go.BinOp.neq r1601 (AV.int 0))) ∧
  ((AV.binOk Go.BinOp.eql (AV.prj r897 1) r1601) ∧
  ((AV.isBool (AV.bin Go.BinOp.eql (AV.prj r897 1) r1601)) ∧
  ((isT (AV.bin Go.BinOp.eql (AV.prj r897 1) r1601)) ∧
  (∃ r2945 : AV, ((Fn Tryd.prog 8 [(AV.prj r897 0), (AV.mk 6 [])] Sh.sc r2945) ∧
  ((AV.isBool (AV.bin Go.BinOp.eql (AV.prj r897 1) r1601)) ∧
  ((isT (AV.bin Go.BinOp.eql (AV.prj r897 1) r1601)) ∧
  ((AV.flat r2945) ∧
  (fSame r2945 r))))))))))))))))))))))))))))))))))))) := by kernel_rfl
theorem lturns3_form (x0 x1 x2 x3 x4 r : AV) : fnF Tryd.prog Γ ann 3 3 Tryd.f3 (Tryd.f3.body.getD .skip) ((.f (.f (.both (.both .nil (.both (.both (.t .nil) (.t .nil)) (.both (.both (.t .nil) (.t .nil)) (.f (.t (.both (.t .nil) (.both .nil (.both (.t .nil) (.both (.both (.t .nil) (.t .nil)) (.both (.t .nil) (.t .nil))))))))))) (.f (.t (.t .nil))))))) [x0, x1, x2, x3, x4] (.sc) r = (((AV.isAgg x1 4) ∧
((AV.isAgg x3 7) ∧
((AV.isAgg x4 2) ∧
(∃ r257 : AV, ((Fn Tryd.prog 4 [] Sh.sc r257) ∧
((AV.unOk Go.UnOp.not r257) ∧
((AV.isBool (AV.un Go.UnOp.not r257)) ∧
((isF (AV.un Go.UnOp.not r257)) ∧
((AV.binOk Go.BinOp.eql (AV.cel x1 1) (AV.int 0)) ∧
((AV.isBool (AV.bin Go.BinOp.eql (AV.cel x1 1) (AV.int 0))) ∧
((isF (AV.bin Go.BinOp.eql (AV.cel x1 1) (AV.int 0))) ∧
(∃ r897 : AV, ((Fn Tryd.prog 5 [x0, (AV.agg [(AV.cel x1 0), (AV.cel x1 1), (AV.cel x1 2), (AV.cel x1 3)]), x2, (AV.agg [(AV.cel x3 0), (AV.cel x3 1), (AV.cel x3 2), (AV.cel x3 3), (AV.cel x3 4), (AV.cel x3 5), (AV.cel x3 6)]), (AV.agg [(AV.cel x4 0), (AV.cel x4 1)])] (Sh.tup [(Sh.row 39 6 true), Sh.sc]) r897) ∧
(∃ r1601 : AV, ((Fn Tryd.prog 6 [x0, (AV.agg [(AV.cel x1 0), (AV.cel x1 1), (AV.cel x1 2), (AV.cel x1 3)]), x2, (AV.agg [(AV.cel x3 0), (AV.cel x3 1), (AV.cel x3 2), (AV.cel x3 3), (AV.cel x3 4), (AV.cel x3 5), (AV.cel x3 6)]), (AV.agg [(AV.cel x4 0), (AV.cel x4 1)])] Sh.sc r1601) ∧
((AV.binOk Go.BinOp.eql r1601 (AV.int 0)) ∧
((AV.isBool (AV.bin Go.BinOp.eql r1601 (AV.int 0))) ∧
(((isT (AV.bin Go.BinOp.eql r1601 (AV.int 0))) →
  ((fEnt Tryd.prog 7) ∧
  (fAllV fun _ => (∃ r2753 : AV, ((Fn Tryd.prog 21 [x0, x2] (Sh.tup [Sh.sc, Sh.sc]) r2753) ∧
  ((AV.isAgg (AV.prj r2753 0) 6) ∧
  ((AV.isSl x0 6) ∧
  (fLoop 3521 [(AV.int 0), (AV.mk 6 []), (AV.mk 6 [])] fun ys3521 again3521 =>
    ((AV.binOk Go.BinOp.lss (ys3521.getD 0 default) (AV.len x0)) ∧
    ((AV.isBool (AV.bin Go.BinOp.lss (ys3521.getD 0 default) (AV.len x0))) ∧
    (((isT (AV.bin Go.BinOp.lss (ys3521.getD 0 default) (AV.len x0))) →
      ((AV.isSl x0 6) ∧
      ((AV.inb x0 (ys3521.getD 0 default)) ∧
      ((AV.isAgg (AV.atAgg x0 (ys3521.getD 0 default) 0 6) 6) ∧
      ((AV.binOk Go.BinOp.lss (AV.cel (AV.atAgg x0 (ys3521.getD 0 default) 0 6) 0) x2) ∧
      ((AV.isBool (AV.bin Go.BinOp.lss (AV.cel (AV.atAgg x0 (ys3521.getD 0 default) 0 6) 0) x2)) ∧
      (((isT (AV.bin Go.BinOp.lss (AV.cel (AV.atAgg x0 (ys3521.getD 0 default) 0 6) 0) x2)) →
        ((AV.room (ys3521.getD 1 default) (AV.mk 6 [[(AV.cel (AV.atAgg x0 (ys3521.getD 0 default) 0 6) 0), (AV.cel (AV.atAgg x0 (ys3521.getD 0 default) 0 6) 1), (AV.cel (AV.atAgg x0 (ys3521.getD 0 default) 0 6) 2), (AV.cel (AV.atAgg x0 (ys3521.getD 0 default) 0 6) 3), (AV.cel (AV.atAgg x0 (ys3521.getD 0 default) 0 6) 4), (AV.cel (AV.atAgg x0 (ys3521.getD 0 default) 0 6) 5)]]) 48) ∧
        ((AV.binOk Go.BinOp.add (ys3521.getD 0 default) (AV.int 1)) ∧
        (again3521 [(AV.bin Go.BinOp.add (ys3521.getD 0 default) (AV.int 1)), (AV.app 6 (ys3521.getD 1 default) (AV.mk 6 [[(AV.cel (AV.atAgg x0 (ys3521.getD 0 default) 0 6) 0), (AV.cel (AV.atAgg x0 (ys3521.getD 0 default) 0 6) 1), (AV.cel (AV.atAgg x0 (ys3521.getD 0 default) 0 6) 2), (AV.cel (AV.atAgg x0 (ys3521.getD 0 default) 0 6) 3), (AV.cel (AV.atAgg x0 (ys3521.getD 0 default) 0 6) 4), (AV.cel (AV.atAgg x0 (ys3521.getD 0 default) 0 6) 5)]])), (ys3521.getD 2 default)])))) ∧
      ((isF (AV.bin Go.BinOp.lss (AV.cel (AV.atAgg x0 (ys3521.getD 0 default) 0 6) 0) x2)) →
        ((AV.binOk Go.BinOp.gtr (AV.cel (AV.atAgg x0 (ys3521.getD 0 default) 0 6) 0) x2) ∧
        ((AV.isBool (AV.bin Go.BinOp.gtr (AV.cel (AV.atAgg x0 (ys3521.getD 0 default) 0 6) 0) x2)) ∧
        (((isT (AV.bin Go.BinOp.gtr (AV.cel (AV.atAgg x0 (ys3521.getD 0 default) 0 6) 0) x2)) →
          ((AV.room (ys3521.getD 2 default) (AV.mk 6 [[(AV.cel (AV.atAgg x0 (ys3521.getD 0 default) 0 6) 0), (AV.cel (AV.atAgg x0 (ys3521.getD 0 default) 0 6) 1), (AV.cel (AV.atAgg x0 (ys3521.getD 0 default) 0 6) 2), (AV.cel (AV.atAgg x0 (ys3521.getD 0 default) 0 6) 3), (AV.cel (AV.atAgg x0 (ys3521.getD 0 default) 0 6) 4), (AV.cel (AV.atAgg x0 (ys3521.getD 0 default) 0 6) 5)]]) 48) ∧
          ((AV.binOk Go.BinOp.add (ys3521.getD 0 default) (AV.int 1)) ∧
          (again3521 [(AV.bin Go.BinOp.add (ys3521.getD 0 default) (AV.int 1)), (ys3521.getD 1 default), (AV.app 6 (ys3521.getD 2 default) (AV.mk 6 [[(AV.cel (AV.atAgg x0 (ys3521.getD 0 default) 0 6) 0), (AV.cel (AV.atAgg x0 (ys3521.getD 0 default) 0 6) 1), (AV.cel (AV.atAgg x0 (ys3521.getD 0 default) 0 6) 2), (AV.cel (AV.atAgg x0 (ys3521.getD 0 default) 0 6) 3), (AV.cel (AV.atAgg x0 (ys3521.getD 0 default) 0 6) 4), (AV.cel (AV.atAgg x0 (ys3521.getD 0 default) 0 6) 5)]]))])))) ∧
        ((isF (AV.bin Go.BinOp.gtr (AV.cel (AV.atAgg x0 (ys3521.getD 0 default) 0 6) 0) x2)) →
          ((AV.binOk Go.BinOp.add (ys3521.getD 0 default) (AV.int 1)) ∧
          (again3521 [(AV.bin Go.BinOp.add (ys3521.getD 0 default) (AV.int 1)), (ys3521.getD 1 default), (ys3521.getD 2 default)])))))))))))))) ∧
    ((isF (AV.bin Go.BinOp.lss (ys3521.getD 0 default) (AV.len x0))) →
      ((AV.binOk Go.BinOp.eql (AV.len (ys3521.getD 2 default)) (AV.int 0)) ∧
      ((AV.isBool (AV.bin Go.BinOp.eql (AV.len (ys3521.getD 2 default)) (AV.int 0))) ∧
      (((isT (AV.bin Go.BinOp.eql (AV.len (ys3521.getD 2 default)) (AV.int 0))) →
        ((AV.isBool (AV.bin Go.BinOp.eql (AV.len (ys3521.getD 2 default)) (AV.int 0))) ∧
        ((isT (AV.bin Go.BinOp.eql (AV.len (ys3521.getD 2 default)) (AV.int 0))) ∧
        ((AV.isSl x0 6) ∧
        ((AV.binOk Go.BinOp.gtr (AV.len x0) (AV.int 64)) ∧
        ((AV.isBool (AV.bin Go.BinOp.gtr (AV.len x0) (AV.int 64))) ∧
        (((isT (AV.bin Go.BinOp.gtr (AV.len x0) (AV.int 64))) →
          ((AV.binOk Go.BinOp.eql (AV.prj r897 1) (AV.int 2)) ∧
          ((AV.isBool (AV.bin Go.BinOp.eql (AV.prj r897 1) (AV.int 2))) ∧
          ((isT (AV.bin Go.BinOp.eql (AV.prj r897 1) (AV.int 2))) ∧
          (∃ r5825 : AV, ((Fn Tryd.prog 8 [(AV.prj r897 0), (AV.mk 6 [])] Sh.sc r5825) ∧
          ((AV.isBool (AV.bin Go.BinOp.eql (AV.prj r897 1) (AV.int 2))) ∧
          ((isT (AV.bin Go.BinOp.eql (AV.prj r897 1) (AV.int 2))) ∧
          ((AV.flat r5825) ∧
          (fSame r5825 r)))))))))) ∧
        ((isF (AV.bin Go.BinOp.gtr (AV.len x0) (AV.int 64))) →
          ((AV.binOk Go.BinOp.eql (AV.prj r897 1) (AV.int 0)) ∧
          ((AV.isBool (AV.bin Go.BinOp.eql (AV.prj r897 1) (AV.int 0))) ∧
          ((isT (AV.bin Go.BinOp.eql (AV.prj r897 1) (AV.int 0))) ∧
          (∃ r5633 : AV, ((Fn Tryd.prog 8 [(AV.prj r897 0), x0] Sh.sc r5633) ∧
          ((AV.isBool (AV.bin Go.BinOp.eql (AV.prj r897 1) (AV.int 0))) ∧
          ((isT (AV.bin Go.BinOp.eql (AV.prj r897 1) (AV.int 0))) ∧
          ((AV.flat r5633) ∧
          (fSame r5633 r))))))))))))))))) ∧
      ((isF (AV.bin Go.BinOp.eql (AV.len (ys3521.getD 2 default)) (AV.int 0))) →
        ((AV.binOk Go.BinOp.gtr (AV.cel x1 1) (AV.int 3)) ∧
        ((AV.isBool (AV.bin Go.BinOp.eql (AV.len (ys3521.getD 2 default)) (AV.int 0))) ∧
        ((isF (AV.bin Go.BinOp.eql (AV.len (ys3521.getD 2 default)) (AV.int 0))) ∧
        ((AV.isBool (AV.bin Go.BinOp.gtr (AV.cel x1 1) (AV.int 3))) ∧
        (((isT (AV.bin Go.BinOp.gtr (AV.cel x1 1) (AV.int 3))) →
          ((AV.isSl x0 6) ∧
          ((AV.binOk Go.BinOp.gtr (AV.len x0) (AV.int 64)) ∧
          ((AV.isBool (AV.bin Go.BinOp.gtr (AV.len x0) (AV.int 64))) ∧
          (((isT (AV.bin Go.BinOp.gtr (AV.len x0) (AV.int 64))) →
            ((AV.binOk Go.BinOp.eql (AV.prj r897 1) (AV.int 2)) ∧
            ((AV.isBool (AV.bin Go.BinOp.eql (AV.prj r897 1) (AV.int 2))) ∧
            ((isT (AV.bin Go.BinOp.eql (AV.prj r897 1) (AV.int 2))) ∧
            (∃ r5825 : AV, ((Fn Tryd.prog 8 [(AV.prj r897 0), (AV.mk 6 [])] Sh.sc r5825) ∧
            ((AV.isBool (AV.bin Go.BinOp.eql (AV.prj r897 1) (AV.int 2))) ∧
            ((isT (AV.bin Go.BinOp.eql (AV.prj r897 1) (AV.int 2))) ∧
            ((AV.flat r5825) ∧
            (fSame r5825 r)))))))))) ∧
          ((isF (AV.bin Go.BinOp.gtr (AV.len x0) (AV.int 64))) →
            ((AV.binOk Go.BinOp.eql (AV.prj r897 1) (AV.int 0)) ∧
            ((AV.isBool (AV.bin Go.BinOp.eql (AV.prj r897 1) (AV.int 0))) ∧
            ((isT (AV.bin Go.BinOp.eql (AV.prj r897 1) (AV.int 0))) ∧
            (∃ r5633 : AV, ((Fn Tryd.prog 8 [(AV.prj r897 0), x0] Sh.sc r5633) ∧
            ((AV.isBool (AV.bin Go.BinOp.eql (AV.prj r897 1) (AV.int 0))) ∧
            ((isT (AV.bin Go.BinOp.eql (AV.prj r897 1) (AV.int 0))) ∧
            ((AV.flat r5633) ∧
            (fSame r5633 r))))))))))))))) ∧
        ((isF (AV.bin Go.BinOp.gtr (AV.cel x1 1) (AV.int 3))) →
          ((AV.room (ys3521.getD 1 default) (AV.mk 6 [[(AV.cel (AV.prj r2753 0) 0), (AV.cel (AV.prj r2753 0) 1), (AV.cel (AV.prj r2753 0) 2), (AV.cel (AV.prj r2753 0) 3), (AV.cel (AV.prj r2753 0) 4), (AV.cel (AV.prj r2753 0) 5)]]) 48) ∧
          ((AV.inb (ys3521.getD 2 default) (AV.int 0)) ∧
          ((AV.inb (ys3521.getD 2 default) (AV.int 0)) ∧
          (∃ r4929 : AV, ((Fn Tryd.prog 26 [(AV.agg [(AV.cel (AV.prj r2753 0) 1), (AV.cel (AV.prj r2753 0) 2)]), (AV.atAgg (ys3521.getD 2 default) (AV.int 0) 1 2)] (Sh.tup [Sh.sc, Sh.sc]) r4929) ∧
          ((AV.inb (ys3521.getD 2 default) (AV.int 0)) ∧
          ((AV.inb (ys3521.getD 2 default) (AV.int 0)) ∧
          ((AV.binOk Go.BinOp.sub (AV.at (ys3521.getD 2 default) (AV.int 0) 0) x2) ∧
          ((AV.binOk Go.BinOp.quo (AV.prj r4929 0) (AV.bin Go.BinOp.sub (AV.at (ys3521.getD 2 default) (AV.int 0) 0) x2)) ∧
          ((AV.binOk Go.BinOp.eql (AV.cel x1 1) (AV.int 2)) ∧
          ((AV.isBool (AV.bin Go.BinOp.eql (AV.cel x1 1) (AV.int 2))) ∧
          ((isF (AV.bin Go.BinOp.eql (AV.cel x1 1) (AV.int 2))) ∧
          ((AV.isBool (AV.bin Go.BinOp.eql (AV.cel x1 1) (AV.int 2))) ∧
          ((isF (AV.bin Go.BinOp.eql (AV.cel x1 1) (AV.int 2))) ∧
          ((AV.binOk Go.BinOp.eql (AV.cel x1 1) (AV.int 3)) ∧
          ((AV.isBool (AV.bin Go.BinOp.eql (AV.cel x1 1) (AV.int 3))) ∧
          ((isT (AV.bin Go.BinOp.eql (AV.cel x1 1) (AV.int 3))) ∧
          ((AV.binOk Go.BinOp.eql (AV.bin Go.BinOp.quo (AV.prj r4929 0) (AV.bin Go.BinOp.sub (AV.at (ys3521.getD 2 default) (AV.int 0) 0) x2)) (AV.int 0)) ∧
          ((AV.isBool (AV.bin Go.BinOp.eql (AV.bin Go.BinOp.quo (AV.prj r4929 0) (AV.bin Go.BinOp.sub (AV.at (ys3521.getD 2 default) (AV.int 0) 0) x2)) (AV.int 0))) ∧
          (((isT (AV.bin Go.BinOp.eql (AV.bin Go.BinOp.quo (AV.prj r4929 0) (AV.bin Go.BinOp.sub (AV.at (ys3521.getD 2 default) (AV.int 0) 0) x2)) (AV.int 0))) →
            ((AV.binOk Go.BinOp.eql (AV.prj r897 1) (AV.int 10)) ∧
            ((AV.isBool (AV.bin Go.BinOp.eql (AV.prj r897 1) (AV.int 10))) ∧
            ((isT (AV.bin Go.BinOp.eql (AV.prj r897 1) (AV.int 10))) ∧
            (∃ r8897 : AV, ((Fn Tryd.prog 8 [(AV.prj r897 0), (AV.mk 6 [])] Sh.sc r8897) ∧
            ((AV.isBool (AV.bin Go.BinOp.eql (AV.prj r897 1) (AV.int 10))) ∧
            ((isT (AV.bin Go.BinOp.eql (AV.prj r897 1) (AV.int 10))) ∧
            ((AV.flat r8897) ∧
            (fSame r8897 r)))))))))) ∧
          ((isF (AV.bin Go.BinOp.eql (AV.bin Go.BinOp.quo (AV.prj r4929 0) (AV.bin Go.BinOp.sub (AV.at (ys3521.getD 2 default) (AV.int 0) 0) x2)) (AV.int 0))) →
            (∃ r7617 : AV, ((Fn Tryd.prog 26 [(AV.agg [(AV.cel (AV.prj r2753 0) 1), (AV.cel (AV.prj r2753 0) 2)]), (AV.agg [(AV.cel x4 0), (AV.cel x4 1)])] (Sh.tup [Sh.sc, Sh.sc]) r7617) ∧
            (fLoop 8577 [(AV.prj r7617 1), (AV.cel (AV.prj r2753 0) 0), (AV.cel x4 0), (AV.cel x4 1), (AV.cel (AV.prj r2753 0) 3), (AV.cel (AV.prj r2753 0) 4), (AV.cel (AV.prj r2753 0) 5)] fun ys8577 again8577 =>
              ((AV.binOk Go.BinOp.gtr (ys8577.getD 0 default) (AV.int 0)) ∧
              ((AV.isBool (AV.bin Go.BinOp.gtr (ys8577.getD 0 default) (AV.int 0))) ∧
              (((isT (AV.bin Go.BinOp.gtr (ys8577.getD 0 default) (AV.int 0))) →
                ((AV.binOk Go.BinOp.add (ys8577.getD 1 default) (AV.int 1)) ∧
                ((AV.isOne (AV.bin Go.BinOp.add (ys8577.getD 1 default) (AV.int 1))) ∧
                ((AV.binOk Go.BinOp.sub (ys8577.getD 0 default) (AV.bin Go.BinOp.quo (AV.prj r4929 0) (AV.bin Go.BinOp.sub (AV.at (ys3521.getD 2 default) (AV.int 0) 0) x2))) ∧
                (again8577 [(AV.bin Go.BinOp.sub (ys8577.getD 0 default) (AV.bin Go.BinOp.quo (AV.prj r4929 0) (AV.bin Go.BinOp.sub (AV.at (ys3521.getD 2 default) (AV.int 0) 0) x2))), (AV.bin Go.BinOp.add (ys8577.getD 1 default) (AV.int 1)), (ys8577.getD 2 default), (ys8577.getD 3 default), (ys8577.getD 4 default), (ys8577.getD 5 default), (ys8577.getD 6 default)]))))) ∧
              ((isF (AV.bin Go.BinOp.gtr (ys8577.getD 0 default) (AV.int 0))) →
                ((AV.binOk Go.BinOp.gtr (ys8577.getD 1 default) (AV.int 200000)) ∧
                ((AV.isBool (AV.bin Go.BinOp.gtr (ys8577.getD 1 default) (AV.int 200000))) ∧
                (((isT (AV.bin Go.BinOp.gtr (ys8577.getD 1 default) (AV.int 200000))) →
                  ((AV.binOk Go.BinOp.eql (AV.prj r897 1) (AV.int 12)) ∧
                  ((AV.isBool (AV.bin Go.BinOp.eql (AV.prj r897 1) (AV.int 12))) ∧
                  ((isT (AV.bin Go.BinOp.eql (AV.prj r897 1) (AV.int 12))) ∧
                  (∃ r10497 : AV, ((Fn Tryd.prog 8 [(AV.prj r897 0), (AV.mk 6 [])] Sh.sc r10497) ∧
                  ((AV.isBool (AV.bin Go.BinOp.eql (AV.prj r897 1) (AV.int 12))) ∧
                  ((isT (AV.bin Go.BinOp.eql (AV.prj r897 1) (AV.int 12))) ∧
                  ((AV.flat r10497) ∧
                  (fSame r10497 r)))))))))) ∧
                ((isF (AV.bin Go.BinOp.gtr (ys8577.getD 1 default) (AV.int 200000))) →
                  ((AV.binOk Go.BinOp.gtr (AV.prj r7617 1) (AV.int 0)) ∧
                  ((AV.isBool (AV.bin Go.BinOp.gtr (AV.prj r7617 1) (AV.int 0))) ∧
                  (((isT (AV.bin Go.BinOp.gtr (AV.prj r7617 1) (AV.int 0))) →
                    ((AV.room (AV.app 6 (ys3521.getD 1 default) (AV.mk 6 [[(AV.cel (AV.prj r2753 0) 0), (AV.cel (AV.prj r2753 0) 1), (AV.cel (AV.prj r2753 0) 2), (AV.cel (AV.prj r2753 0) 3), (AV.cel (AV.prj r2753 0) 4), (AV.cel (AV.prj r2753 0) 5)]])) (AV.mk 6 [[(ys8577.getD 1 default), (ys8577.getD 2 default), (ys8577.getD 3 default), (ys8577.getD 4 default), (ys8577.getD 5 default), (ys8577.getD 6 default)]]) 48) ∧
                    ((AV.binOk Go.BinOp.gtr (AV.len (AV.app 6 (AV.app 6 (ys3521.getD 1 default) (AV.mk 6 [[(AV.cel (AV.prj r2753 0) 0), (AV.cel (AV.prj r2753 0) 1), (AV.cel (AV.prj r2753 0) 2), (AV.cel (AV.prj r2753 0) 3), (AV.cel (AV.prj r2753 0) 4), (AV.cel (AV.prj r2753 0) 5)]])) (AV.mk 6 [[(ys8577.getD 1 default), (ys8577.getD 2 default), (ys8577.getD 3 default), (ys8577.getD 4 default), (ys8577.getD 5 default), (ys8577.getD 6 default)]]))) (AV.int 64)) ∧
                    ((AV.isBool (AV.bin Go.BinOp.gtr (AV.len (AV.app 6 (AV.app 6 (ys3521.getD 1 default) (AV.mk 6 [[(AV.cel (AV.prj r2753 0) 0), (AV.cel (AV.prj r2753 0) 1), (AV.cel (AV.prj r2753 0) 2), (AV.cel (AV.prj r2753 0) 3), (AV.cel (AV.prj r2753 0) 4), (AV.cel (AV.prj r2753 0) 5)]])) (AV.mk 6 [[(ys8577.getD 1 default), (ys8577.getD 2 default), (ys8577.getD 3 default), (ys8577.getD 4 default), (ys8577.getD 5 default), (ys8577.getD 6 default)]]))) (AV.int 64))) ∧
                    (((isT (AV.bin Go.BinOp.gtr (AV.len (AV.app 6 (AV.app 6 (ys3521.getD 1 default) (AV.mk 6 [[(AV.cel (AV.prj r2753 0) 0), (AV.cel (AV.prj r2753 0) 1), (AV.cel (AV.prj r2753 0) 2), (AV.cel (AV.prj r2753 0) 3), (AV.cel (AV.prj r2753 0) 4), (AV.cel (AV.prj r2753 0) 5)]])) (AV.mk 6 [[(ys8577.getD 1 default), (ys8577.getD 2 default), (ys8577.getD 3 default), (ys8577.getD 4 default), (ys8577.getD 5 default), (ys8577.getD 6 default)]]))) (AV.int 64))) →
                      ((AV.binOk Go.BinOp.eql (AV.prj r897 1) (AV.int 2)) ∧
                      ((AV.isBool (AV.bin Go.BinOp.eql (AV.prj r897 1) (AV.int 2))) ∧
                      ((isT (AV.bin Go.BinOp.eql (AV.prj r897 1) (AV.int 2))) ∧
                      (∃ r11137 : AV, ((Fn Tryd.prog 8 [(AV.prj r897 0), (AV.mk 6 [])] Sh.sc r11137) ∧
                      ((AV.isBool (AV.bin Go.BinOp.eql (AV.prj r897 1) (AV.int 2))) ∧
                      ((isT (AV.bin Go.BinOp.eql (AV.prj r897 1) (AV.int 2))) ∧
                      ((AV.flat r11137) ∧
                      (fSame r11137 r)))))))))) ∧
                    ((isF (AV.bin Go.BinOp.gtr (AV.len (AV.app 6 (AV.app 6 (ys3521.getD 1 default) (AV.mk 6 [[(AV.cel (AV.prj r2753 0) 0), (AV.cel (AV.prj r2753 0) 1), (AV.cel (AV.prj r2753 0) 2), (AV.cel (AV.prj r2753 0) 3), (AV.cel (AV.prj r2753 0) 4), (AV.cel (AV.prj r2753 0) 5)]])) (AV.mk 6 [[(ys8577.getD 1 default), (ys8577.getD 2 default), (ys8577.getD 3 default), (ys8577.getD 4 default), (ys8577.getD 5 default), (ys8577.getD 6 default)]]))) (AV.int 64))) →
                      ((AV.binOk Go.BinOp.eql (AV.prj r897 1) (AV.int 0)) ∧
                      ((AV.isBool (AV.bin Go.BinOp.eql (AV.prj r897 1) (AV.int 0))) ∧
                      ((isT (AV.bin Go.BinOp.eql (AV.prj r897 1) (AV.int 0))) ∧
                      (∃ r10945 : AV, ((Fn Tryd.prog 8 [(AV.prj r897 0), (AV.app 6 (AV.app 6 (ys3521.getD 1 default) (AV.mk 6 [[(AV.cel (AV.prj r2753 0) 0), (AV.cel (AV.prj r2753 0) 1), (AV.cel (AV.prj r2753 0) 2), (AV.cel (AV.prj r2753 0) 3), (AV.cel (AV.prj r2753 0) 4), (AV.cel (AV.prj r2753 0) 5)]])) (AV.mk 6 [[(ys8577.getD 1 default), (ys8577.getD 2 default), (ys8577.getD 3 default), (ys8577.getD 4 default), (ys8577.getD 5 default), (ys8577.getD 6 default)]]))] Sh.sc r10945) ∧
                      ((AV.isBool (AV.bin Go.BinOp.eql (AV.prj r897 1) (AV.int 0))) ∧
                      ((isT (AV.bin Go.BinOp.eql (AV.prj r897 1) (AV.int 0))) ∧
                      ((AV.flat r10945) ∧
                      (fSame r10945 r))))))))))))))) ∧
                  ((isF (AV.bin Go.BinOp.gtr (AV.prj r7617 1) (AV.int 0))) →
                    ((AV.binOk Go.BinOp.gtr (AV.len (AV.app 6 (ys3521.getD 1 default) (AV.mk 6 [[(AV.cel (AV.prj r2753 0) 0), (AV.cel (AV.prj r2753 0) 1), (AV.cel (AV.prj r2753 0) 2), (AV.cel (AV.prj r2753 0) 3), (AV.cel (AV.prj r2753 0) 4), (AV.cel (AV.prj r2753 0) 5)]]))) (AV.int 64)) ∧
                    ((AV.isBool (AV.bin Go.BinOp.gtr (AV.len (AV.app 6 (ys3521.getD 1 default) (AV.mk 6 [[(AV.cel (AV.prj r2753 0) 0), (AV.cel (AV.prj r2753 0) 1), (AV.cel (AV.prj r2753 0) 2), (AV.cel (AV.prj r2753 0) 3), (AV.cel (AV.prj r2753 0) 4), (AV.cel (AV.prj r2753 0) 5)]]))) (AV.int 64))) ∧
                    (((isT (AV.bin Go.BinOp.gtr (AV.len (AV.app 6 (ys3521.getD 1 default) (AV.mk 6 [[(AV.cel (AV.prj r2753 0) 0), (AV.cel (AV.prj r2753 0) 1), (AV.cel (AV.prj r2753 0) 2), (AV.cel (AV.prj r2753 0) 3), (AV.cel (AV.prj r2753 0) 4), (AV.cel (AV.prj r2753 0) 5)]]))) (AV.int 64))) →
                      ((AV.binOk Go.BinOp.eql (AV.prj r897 1) (AV.int 2)) ∧
                      ((AV.isBool (AV.bin Go.BinOp.eql (AV.prj r897 1) (AV.int 2))) ∧
                      ((isT (AV.bin Go.BinOp.eql (AV.prj r897 1) (AV.int 2))) ∧
                      (∃ r10817 : AV, ((Fn Tryd.prog 8 [(AV.prj r897 0), (AV.mk 6 [])] Sh.sc r10817) ∧
                      ((AV.isBool (AV.bin Go.BinOp.eql (AV.prj r897 1) (AV.int 2))) ∧
                      ((isT (AV.bin Go.BinOp.eql (AV.prj r897 1) (AV.int 2))) ∧
                      ((AV.flat r10817) ∧
                      (fSame r10817 r)))))))))) ∧
                    ((isF (AV.bin Go.BinOp.gtr (AV.len (AV.app 6 (ys3521.getD 1 default) (AV.mk 6 [[(AV.cel (AV.prj r2753 0) 0), (AV.cel (AV.prj r2753 0) 1), (AV.cel (AV.prj r2753 0) 2), (AV.cel (AV.prj r2753 0) 3), (AV.cel (AV.prj r2753 0) 4), (AV.cel (AV.prj r2753 0) 5)]]))) (AV.int 64))) →
                      ((AV.binOk Go.BinOp.eql (AV.prj r897 1) (AV.int 0)) ∧
                      ((AV.isBool (AV.bin Go.BinOp.eql (AV.prj r897 1) (AV.int 0))) ∧
                      ((isT (AV.bin Go.BinOp.eql (AV.prj r897 1) (AV.int 0))) ∧
                      (∃ r10625 : AV, ((Fn Tryd.prog 8 [(AV.prj r897 0), (AV.app 6 (ys3521.getD 1 default) (AV.mk 6 [[(AV.cel (AV.prj r2753 0) 0), (AV.cel (AV.prj r2753 0) 1), (AV.cel (AV.prj r2753 0) 2), (AV.cel (AV.prj r2753 0) 3), (AV.cel (AV.prj r2753 0) 4), (AV.cel (AV.prj r2753 0) 5)]]))] Sh.sc r10625) ∧
                      ((AV.isBool (AV.bin Go.BinOp.eql (AV.prj r897 1) (AV.int 0))) ∧
                      ((isT (AV.bin Go.BinOp.eql (AV.prj r897 1) (AV.int 0))) ∧
                      ((AV.flat r10625) ∧
                      (fSame r10625 r))))))))))))))))))))))))))))))))))))))))))))))))))))))))))))))))))))))) ∧
((isF (AV.bin Go.BinOp.eql r1601 (AV.int 0))) →
  ((AV.binOk Go.BinOp.eql r1601 (AV.int 0)) ∧
  ((AV.isBool (AV.bin Go.BinOp.eql r1601 (AV.int 0))) ∧
  ((isF (AV.bin Go.BinOp.eql r1601 (AV.int 0))) ∧
  ((AV.isBool (AV.bin Go.BinOp.eql r1601 (AV.int 0))) ∧
  ((isF (AV.bin Go.BinOp.eql r1601 (AV.int 0))) ∧
  ((AV.binOk Go.BinOp.neq r1601 (AV.int 0)) ∧
  ((AV.isBool (AV.bin Go.BinOp.neq r1601 (AV.int 0))) ∧
  ((isT (AV.bin Go.BinOp.neq r1601 (AV.int 0))) ∧
  ((AV.binOk Go.BinOp.eql (AV.prj r897 1) r1601) ∧
  ((AV.isBool (AV.bin Go.BinOp.eql (AV.prj r897 1) r1601)) ∧
  ((isT (AV.bin Go.BinOp.eql (AV.prj r897 1) r1601)) ∧
  (∃ r2945 : AV, ((Fn Tryd.prog 8 [(AV.prj r897 0), (AV.mk 6 [])] Sh.sc r2945) ∧
  ((AV.isBool (AV.bin Go.BinOp.eql (AV.prj r897 1) r1601)) ∧
  ((isT (AV.bin Go.BinOp.eql (AV.prj r897 1) r1601)) ∧
  ((AV.flat r2945) ∧
  (fSame r2945 r))))))))))))))))))))))))))))))))))))) := by kernel_rfl
end EffL
end Go.Proofs.YtdlakpomcafemaaDoor
/- effects of turns: the law's leaves. -/
namespace Go.Proofs.YtdlakpomcafemaaDoor
open Go.RowKit
set_option linter.unusedVariables false
set_option linter.unusedSimpArgs false
set_option maxRecDepth 100000
theorem ofE_ok {l : List Nd} {c : Cl} {a : Int} {k : Kd} {fix : Pt} (h : ofE l c a k fix = 0) : tE l = 0 ∧ clE c = 0 ∧ kE k = 0 ∧ tatE l a = 0 := by
  unfold ofE at h
  by_cases h1 : tE l = 0
  · by_cases h2 : clE c = 0
    · by_cases h3 : kE k = 0
      · by_cases h4 : pE fix = 0
        · simp [h1, h2, h3, h4] at h
          exact ⟨h1, h2, h3, h⟩
        · simp [h1, h2, h3, h4] at h
      · simp [h1, h2, h3] at h
    · simp [h1, h2] at h
  · simp [h1] at h
theorem clE_k {c : Cl} (h : clE c = 0) : 0 ≤ c.k := by
  unfold clE at h
  split at h
  · cases h
  · split at h
    · cases h
    · omega
theorem leaf_err {R E : AV} {e : Int} (hE : E = .int e) (h : R = .tup [.sl 6 [], .int e]) : AV.binOk .eql (AV.prj R 1) E ∧ AV.isBool (AV.bin .eql (AV.prj R 1) E) ∧ isT (AV.bin .eql (AV.prj R 1) E) ∧ ∃ r : AV, Fn Tryd.prog 8 [AV.prj R 0, AV.mk 6 []] .sc r ∧ AV.isBool (AV.bin .eql (AV.prj R 1) E) ∧ isT (AV.bin .eql (AV.prj R 1) E) ∧ AV.flat r ∧ fSame r (.bool true) := by
  subst hE
  subst h
  exact ⟨by simp, by simp, by simp, _, equal_fn [] (by simp), by simp, by simp, .lit _, rfl⟩
theorem leaf_ok {R : AV} {o : List Nd} (ho : o.length ≤ 1000) (h : R = .tup [tube o, .int 0]) : AV.binOk .eql (AV.prj R 1) (.int 0) ∧ AV.isBool (AV.bin .eql (AV.prj R 1) (.int 0)) ∧ isT (AV.bin .eql (AV.prj R 1) (.int 0)) ∧ ∃ r : AV, Fn Tryd.prog 8 [AV.prj R 0, tube o] .sc r ∧ AV.isBool (AV.bin .eql (AV.prj R 1) (.int 0)) ∧ isT (AV.bin .eql (AV.prj R 1) (.int 0)) ∧ AV.flat r ∧ fSame r (.bool true) := by
  subst h
  exact ⟨by simp, by simp, by simp, _, equal_fn o ho, by simp, by simp, .lit _, rfl⟩
theorem leaf_len {R W : AV} {o : List Nd} (ho : o.length ≤ 1000) (hW : W = tube o) (hR : R = if 64 < o.length then .tup [.sl 6 [], .int 2] else .tup [tube o, .int 0]) : AV.binOk .gtr (AV.len W) (.int 64) ∧ AV.isBool (AV.bin .gtr (AV.len W) (.int 64)) ∧
    (isT (AV.bin .gtr (AV.len W) (.int 64)) → AV.binOk .eql (AV.prj R 1) (.int 2) ∧ AV.isBool (AV.bin .eql (AV.prj R 1) (.int 2)) ∧ isT (AV.bin .eql (AV.prj R 1) (.int 2)) ∧ ∃ r : AV, Fn Tryd.prog 8 [AV.prj R 0, AV.mk 6 []] .sc r ∧ AV.isBool (AV.bin .eql (AV.prj R 1) (.int 2)) ∧ isT (AV.bin .eql (AV.prj R 1) (.int 2)) ∧ AV.flat r ∧ fSame r (.bool true)) ∧
    (isF (AV.bin .gtr (AV.len W) (.int 64)) → AV.binOk .eql (AV.prj R 1) (.int 0) ∧ AV.isBool (AV.bin .eql (AV.prj R 1) (.int 0)) ∧ isT (AV.bin .eql (AV.prj R 1) (.int 0)) ∧ ∃ r : AV, Fn Tryd.prog 8 [AV.prj R 0, W] .sc r ∧ AV.isBool (AV.bin .eql (AV.prj R 1) (.int 0)) ∧ isT (AV.bin .eql (AV.prj R 1) (.int 0)) ∧ AV.flat r ∧ fSame r (.bool true)) := by
  subst hW
  refine ⟨by simp, by simp, fun q => ?_, fun q => ?_⟩
  · have h : 64 < o.length := by simp at q; omega
    rw [if_pos h] at hR
    exact leaf_err rfl hR
  · have h : ¬ 64 < o.length := by simp at q; omega
    rw [if_neg h] at hR
    exact leaf_ok ho hR
theorem lturns0_fn (l : List Nd) (c : Cl) (a : Int) (k : Kd) (fix : Pt) (hc : c.k = 0) : Fn Tryd.prog 3 [tube l, cl c, .int a, kd k, pt fix] .sc (.bool true) := by
  have q := EffL.lturns0_form (tube l) (cl c) (.int a) (kd k) (pt fix) (.bool true)
  have kk := fun h => fn_run mixed 3 (Γ := EffL.Γ) (ann := EffL.ann) Tryd.func3 rfl Tryd.call3 (q.mpr h)
  refine kk ?_
  clear kk q
  exact ⟨by simp [encL], by simp [encKd], by simp [encP], _, efact_fn, by simp, by simp, by simp, by simp [encL], by simp [encL], by simp [encL, hc], .lit _, rfl⟩
end Go.Proofs.YtdlakpomcafemaaDoor
/- effects of turns: the law at kind 1. -/
namespace Go.Proofs.YtdlakpomcafemaaDoor
open Go.RowKit
set_option linter.unusedVariables false
set_option linter.unusedSimpArgs false
set_option maxRecDepth 100000
theorem lturns1_fn (l : List Nd) (c : Cl) (a : Int) (k : Kd) (fix : Pt) (hc : c.k ≠ 0 ∧ c.k ≠ 2 ∧ c.k ≠ 3) (hv1 : -9223372036854775808 ≤ c.v) (hv2 : c.v ≤ 9223372036854775807) : Fn Tryd.prog 3 [tube l, cl c, .int a, kd k, pt fix] .sc (.bool true) := by
  obtain ⟨cc, ck, cv, cf⟩ := c
  simp only at hc hv1 hv2
  have hc0 : ck ≠ 0 := by omega
  have hof := oft_fn l ⟨cc, ck, cv, cf⟩ a k fix hc0 hv1 hv2
  have hee := eerr_fn l ⟨cc, ck, cv, cf⟩ a k fix
  have q := EffL.lturns1_form (tube l) (cl ⟨cc, ck, cv, cf⟩) (.int a) (kd k) (pt fix) (.bool true)
  have kk := fun h => fn_run mixed 3 (Γ := EffL.Γ) (ann := EffL.ann) Tryd.func3 rfl Tryd.call3 (q.mpr h)
  refine kk ?_
  clear kk q
  have hRV : ofE l ⟨cc, ck, cv, cf⟩ a k fix ≠ 0 → ofT l ⟨cc, ck, cv, cf⟩ a k fix = .tup [.sl 6 [], .int (ofE l ⟨cc, ck, cv, cf⟩ a k fix)] := fun h => by unfold ofT; rw [if_pos h]
  have hRW : ofE l ⟨cc, ck, cv, cf⟩ a k fix = 0 → ofT l ⟨cc, ck, cv, cf⟩ a k fix = if latT a l = [] ∨ (ck ≠ 1 ∧ ck ≠ 2 ∧ ck ≠ 3) then .tup [tube l, .int 0]
      else if (trO ⟨cc, ck, cv, cf⟩ (atN l a) ((latT a l).getD 0 default) (latT a l) k fix).2 ≠ 0 then .tup [.sl 6 [], .int (trO ⟨cc, ck, cv, cf⟩ (atN l a) ((latT a l).getD 0 default) (latT a l) k fix).2]
      else if 64 < (befT a l ++ atN l a :: (trO ⟨cc, ck, cv, cf⟩ (atN l a) ((latT a l).getD 0 default) (latT a l) k fix).1).length then .tup [.sl 6 [], .int 2]
      else .tup [tube (befT a l ++ atN l a :: (trO ⟨cc, ck, cv, cf⟩ (atN l a) ((latT a l).getD 0 default) (latT a l) k fix).1), .int 0] := fun h => by unfold ofT; rw [if_neg (by rw [h]; simp)]
  generalize ofT l ⟨cc, ck, cv, cf⟩ a k fix = R at *
  refine ⟨by simp [encL], by simp [encKd], by simp [encP], _, efact_fn, by simp, by simp, by simp, by simp [encL], by simp [encL], by simp [encL, hc0], _, hof, _, hee, by simp, by simp, fun h => ?_, fun h => ?_⟩
  · have hE0 : ofE l ⟨cc, ck, cv, cf⟩ a k fix = 0 := by simpa using h
    have hR := hRW hE0
    clear hRV hRW hee hof h
    obtain ⟨hl0, hcl0, hk0, hta0⟩ := ofE_ok hE0
    obtain ⟨hp, h64, hGt⟩ := tE_ok hl0
    have hta := tat_fn l a
    have htv : tatV l a = .tup [nd (atN l a), .int 0] := by unfold tatV; rw [if_pos hta0]
    rw [htv] at hta
    clear hE0 htv
    obtain ⟨_, hfi, hla⟩ := tatE_ok hta0
    have hok := atN_okN hl0 hfi hla
    have htt := atN_t l a
    have hAxy : (-1000000000 ≤ (atN l a).x ∧ (atN l a).x ≤ 1000000000) ∧ -1000000000 ≤ (atN l a).y ∧ (atN l a).y ≤ 1000000000 := atN_xy hl0 hfi hla
    have hks : 1 ≤ k.sl := kE_sl hk0
    generalize atN l a = A at *
    subst htt
    refine ⟨Tryd.call7, fun _ => ⟨_, hta, by simp [encN], by simp, ?_⟩⟩
    refine loop_list (σ := Unit) l (fun i _ => [.int (i : Nat), tube (befT A.t (l.take i)), tube (latT A.t (l.take i))]) (fun _ _ _ => True) () rfl trivial ?_ ?_
    · rintro i x rest _ K hx hrest hi _ hK
      have hwi : wr ((i : Int) + 1) = (i : Int) + 1 := wr_id (by omega) (by omega)
      have hil : (i : Int) < l.length := by omega
      have e1 : l.take (i + 1) = l.take i ++ [x] := by rw [List.take_add_one, hx]; rfl
      have e2 := befT_snoc A.t (l.take i) x
      have e3 := latT_snoc A.t (l.take i) x
      rw [← e1] at e2 e3
      have b1 := befT_len A.t (l.take i)
      have b2 := latT_len A.t (l.take i)
      have b3 : (l.take i).length ≤ 1000 := by rw [List.length_take]; omega
      have r1 := nd_room (befT A.t (l.take i)) x (by omega)
      have r2 := nd_room (latT A.t (l.take i)) x (by omega)
      have a1 := nd_snoc (befT A.t (l.take i)) x
      have a2 := nd_snoc (latT A.t (l.take i)) x
      have hK' := hK [.int ((i : Int) + 1), tube (befT A.t (l.take (i + 1))), tube (latT A.t (l.take (i + 1)))] () (by simp) trivial
      rw [e2, e3] at hK'
      clear hK e2 e3 e1 b1 b2 b3
      generalize befT A.t (l.take i) = B at *
      generalize latT A.t (l.take i) = D at *
      obtain ⟨xt, xx, xy, xh, xr, xb⟩ := x
      simp [encN] at r1 r2 a1 a2 hK'
      simp [hil, lst_atAgg hx, encN, hwi]
      refine ⟨fun g1 => ⟨r1, ?_⟩, fun g1 => ⟨fun g2 => ⟨r2, ?_⟩, fun g2 => ?_⟩⟩
      · rw [if_pos g1, if_neg (by omega)] at hK'
        rw [a1]; exact hK'
      · rw [if_neg (by omega), if_pos g2] at hK'
        rw [a2]; exact hK'
      · rw [if_neg (by omega), if_neg (by omega)] at hK'
        exact hK'
    · rintro _ K _
      rw [List.take_length]
      have b1 := befT_len A.t l
      have b2 := latT_len A.t l
      have hlo : ∀ x ∈ latT A.t l, okN x ∧ A.t < x.t := fun x hx => by
        obtain ⟨h1, h2⟩ := List.mem_filter.1 hx
        obtain ⟨j, hj⟩ := List.getElem?_of_mem h1
        exact ⟨(tG_get hGt hj).2.1, by simpa using h2⟩
      have hlo2 : ∀ x ∈ latT A.t l, A.t < x.t ∧ x.t ≤ 200000 := fun x hx => ⟨(hlo x hx).2, (hlo x hx).1.2.1⟩
      clear hlo
      generalize befT A.t l = B at *
      generalize latT A.t l = L at *
      refine ⟨by simp, by simp, fun h => absurd h (by simp), fun _ => ?_⟩
      by_cases hL : L = []
      · rw [if_pos (.inl hL)] at hR
        subst hL
        refine ⟨by simp, by simp, fun _ => ⟨by simp, by simp, by simp, by simp, by simp, fun h => absurd h (by simp; omega), fun _ => leaf_ok (by omega) hR⟩, fun h => absurd h (by simp)⟩
      have hL0 : ¬ L.length = 0 := by simpa using hL
      refine ⟨by simp, by simp, fun h => absurd h (by simp [hL]), fun _ => ⟨by simp [encL], by simp, by simp [hL], by simp [encL], fun h => ?_, fun h => ?_⟩⟩
      · have h : ck > 3 := by simpa [encL] using h
        rw [if_pos (.inr (by omega))] at hR
        exact ⟨by simp, by simp, by simp, fun h => absurd h (by simp; omega), fun _ => leaf_ok (by omega) hR⟩
      have hk3 : ck ≤ 3 := by simpa [encL] using h
      have hck := clE_k hcl0
      simp only at hck
      obtain rfl : ck = 1 := by omega
      clear h hc hc0 hk3 hck
      rw [if_neg (by simp [hL])] at hR
      obtain ⟨z, hz⟩ : ∃ z, L[0]? = some z := ⟨_, List.getElem?_eq_getElem (by omega)⟩
      have hzd : L.getD 0 default = z := by rw [List.getD_eq_getElem?_getD, hz]; rfl
      rw [hzd] at hR
      have hzm := hlo2 z (List.mem_of_getElem? hz)
      have hd := dist_fn A.p z.p
      have a1 : AV.at (tube L) (AV.int 0) 0 = .int z.t := by rw [lst_atI (by decide) hz]; rfl
      have a2 : AV.atAgg (tube L) (AV.int 0) 1 2 = pt z.p := by rw [lst_atAggI (by decide) hz]; rfl
      have hsb := spV_bd hzm.1
      have hwq : wr (z.t - A.t) = z.t - A.t := wr_id (by omega) (by omega)
      have hsp : AV.bin .quo (.int (disA A.p z.p)) (AV.bin .sub (.int z.t) (.int A.t)) = .int (spV A z) := by
        have hb := rootI_bd (sqrP A.p z.p)
        have e : disA A.p z.p = rootI (sqrP A.p z.p) := rfl
        rw [← e] at hb
        have e2 : (disA A.p z.p).tdiv (z.t - A.t) = spV A z := Int.tdiv_eq_ediv_of_nonneg hb.1
        have w2 : wr (spV A z) = spV A z := wr_id (by omega) (by omega)
        simp [hwq, e2, w2]
      have rA := nd_room B A (by omega)
      have sA := nd_snoc B A
      rw [← a2] at hd
      refine ⟨rA, by simp; omega, by simp; omega, .tup [.int (disA A.p z.p), .int (disB A.p z.p)], hd, by simp; omega, by simp; omega, by simp [a1], by simp [a1, hwq]; omega, by simp [encL], by simp [encL], ?_⟩
      clear hd a2
      refine ⟨by simp [encL], by simp [encL], by simp [encL], by simp [encL], by simp [encL], by simp [encL], ?_⟩
      simp only [av_prj, List.getD_cons_succ, List.getD_cons_zero, a1]
      rw [hsp]
      have hT : trO ⟨cc, 1, cv, cf⟩ A z L k fix = if fstE (hdE A (spV A z) cv) L ≠ 0 then ([], fstE (hdE A (spV A z) cv) L) else (L.map (hdN A (spV A z) cv), 0) := rfl
      rw [hT] at hR
      generalize spV A z = sp at *
      clear hT
      refine loop_list (σ := Nd) L (fun i s => [.int (i : Nat), tube (B ++ A :: (L.take i).map (hdN A sp cv)), .int s.t, .int s.x, .int s.y, .int s.h, .int s.r, .int s.b]) (fun i rest s => fstE (hdE A sp cv) L = fstE (hdE A sp cv) rest) A (by simp [encN, lst]) rfl ?_ ?_
      · rintro i x rest s K hx' hrest hi hF hK
        obtain ⟨q1, q2⟩ := hlo2 x (List.mem_of_getElem? hx')
        have hil : (i : Int) < L.length := by omega
        have w2 : wr ((i : Int) + 1) = (i : Int) + 1 := wr_id (by omega) (by omega)
        have w3 : wr (x.t - A.t) = x.t - A.t := wr_id (by omega) (by omega)
        have hm : 0 ≤ sp * (x.t - A.t) ∧ sp * (x.t - A.t) ≤ 3037000499 * 200000 := ⟨Int.mul_nonneg hsb.1 (by omega), Int.mul_le_mul hsb.2 (by omega) (by omega) (by omega)⟩
        have w4 : wr (sp * (x.t - A.t)) = sp * (x.t - A.t) := wr_id (by omega) (by omega)
        have hvf := vec_fn cv (sp * (x.t - A.t)) hv1 hv2
        have hat : AV.atAgg (tube L) (.int (i : Nat)) 0 6 = nd x := by rw [lst_atAgg hx']; rfl
        have hE : hdE A sp cv x = if vecE (sp * (x.t - A.t)) ≠ 0 then vecE (sp * (x.t - A.t)) else pE (hdP A sp cv x) := rfl
        have hP : hdP A sp cv x = ⟨A.x + (vecV cv (sp * (x.t - A.t))).1, A.y + (vecV cv (sp * (x.t - A.t))).2⟩ := rfl
        have hN : hdN A sp cv x = ⟨x.t, (hdP A sp cv x).x, (hdP A sp cv x).y, x.h, x.r, x.b⟩ := rfl
        have hFe : fstE (hdE A sp cv) (x :: rest) = if hdE A sp cv x ≠ 0 then hdE A sp cv x else fstE (hdE A sp cv) rest := rfl
        rw [hFe] at hF
        have hVb := @vecV_bd cv (sp * (x.t - A.t))
        have etk : L.take (i + 1) = L.take i ++ [x] := by rw [List.take_add_one, hx']; rfl
        have hmap : B ++ A :: (L.take (i + 1)).map (hdN A sp cv) = (B ++ A :: (L.take i).map (hdN A sp cv)) ++ [hdN A sp cv x] := by rw [etk]; simp
        have hK2 := hK [.int ((i : Int) + 1), tube ((B ++ A :: (L.take i).map (hdN A sp cv)) ++ [hdN A sp cv x]), .int x.t, .int (hdP A sp cv x).x, .int (hdP A sp cv x).y, .int x.h, .int x.r, .int x.b] (hdN A sp cv x) (by rw [hmap, hN]; simp)
        have hOl : (B ++ A :: (L.take i).map (hdN A sp cv)).length ≤ 1000 := by simp; omega
        have rO := nd_room (B ++ A :: (L.take i).map (hdN A sp cv)) (hdN A sp cv x) hOl
        have sO := nd_snoc (B ++ A :: (L.take i).map (hdN A sp cv)) (hdN A sp cv x)
        clear hK etk hmap
        generalize B ++ A :: (L.take i).map (hdN A sp cv) = O at *
        have hmul : AV.bin .mul (.int sp) (AV.bin .sub (AV.cel (nd x) 0) (.int A.t)) = .int (sp * (x.t - A.t)) := by simp [encN, w3, w4]
        generalize hM : sp * (x.t - A.t) = M at *
        generalize hVV : vecV cv M = V at *
        refine ⟨by simp, by simp, fun _ => ⟨by simp; omega, by simp; omega, by simp [hat, encN], by simp [encL], by simp [encL], by simp [encL], by simp [hat, encN], by simp [hat, encN], .tup [.agg [.int (if vecE M = 0 then V.1 else 0), .int (if vecE M = 0 then V.2 else 0)], .int (vecE M)], ?_, by simp, by simp, fun q => ?_, fun q => ?_⟩, fun q => absurd q (by simp; omega)⟩
        · simp only [List.getD_cons_zero, hat]
          rw [hmul]; exact hvf
        · have hne : vecE M ≠ 0 := by simpa using q
          rw [if_pos hne] at hE
          rw [hE, if_pos hne] at hF
          rw [hF, if_pos hne, if_pos hne] at hR
          exact ⟨by simp, by simp, by simp [hne], by simp, by simp [hne], by simp, by simp, by simp [hne], leaf_err rfl hR⟩
        · have h00 : vecE M = 0 := by simpa using q
          obtain ⟨⟨b1, b2⟩, b3, b4⟩ := hVb h00
          rw [if_neg (by simp [h00])] at hE
          have w5 : wr (A.x + V.1) = A.x + V.1 := wr_id (by omega) (by omega)
          have w6 : wr (A.y + V.2) = A.y + V.2 := wr_id (by omega) (by omega)
          have hpc := pe_fn (hdP A sp cv x)
          rw [hP] at hpc hN hK2
          simp [encN, h00, w5, w6, hat, encP] at hpc rO sO hK2 ⊢
          refine ⟨_, hpc, by simp, by simp, fun q7 => ?_, fun q7 => ?_⟩
          · have hne : pE (hdP A sp cv x) ≠ 0 := by simpa [hP] using q7
            rw [hE, if_pos hne] at hF
            rw [hF, if_pos hne, if_pos hne] at hR
            exact ⟨by simp, by simp, by simpa [hP] using hne, by simp, by simpa [hP] using hne, by simp, by simp, by simpa [hP] using hne, leaf_err rfl (by rw [← hP]; exact hR)⟩
          · have h01 : pE (hdP A sp cv x) = 0 := by simpa [hP] using q7
            rw [hE, h01] at hF
            simp only [ne_eq, not_true_eq_false, if_false] at hF
            have h2 := hK2 hF
            rw [← sO, hN] at h2
            rw [hN] at rO
            refine ⟨rO, ?_⟩
            rw [w2]
            exact h2
      · rintro s K hF
        have hf : fstE (hdE A sp cv) L = 0 := hF
        simp only [hf, ne_eq, not_true_eq_false, if_false] at hR
        refine ⟨by simp, by simp, fun q => absurd q (by simp), fun _ => ⟨by simp, by simp, fun q => ?_, fun q => ?_⟩⟩
        · have h : 64 < (B ++ A :: L.map (hdN A sp cv)).length := by simp at q ⊢; omega
          rw [if_pos h] at hR
          exact leaf_err rfl hR
        · have h : ¬ 64 < (B ++ A :: L.map (hdN A sp cv)).length := by simp at q ⊢; omega
          rw [if_neg h] at hR
          have := leaf_ok (by simp; omega) hR
          simpa using this
  · have hE0 : ofE l ⟨cc, ck, cv, cf⟩ a k fix ≠ 0 := by simpa using h
    exact ⟨by simp, by simp, by simp [hE0], by simp, by simp [hE0], by simp, by simp, by simp [hE0], leaf_err rfl (hRV hE0)⟩
end Go.Proofs.YtdlakpomcafemaaDoor
/- effects of turns: the law at kind 2. -/
namespace Go.Proofs.YtdlakpomcafemaaDoor
open Go.RowKit
set_option linter.unusedVariables false
set_option linter.unusedSimpArgs false
set_option maxRecDepth 100000
theorem lturns2_fn (l : List Nd) (c : Cl) (a : Int) (k : Kd) (fix : Pt) (hc : c.k = 2) (hv1 : -9223372036854775808 ≤ c.v) (hv2 : c.v ≤ 9223372036854775807) : Fn Tryd.prog 3 [tube l, cl c, .int a, kd k, pt fix] .sc (.bool true) := by
  obtain ⟨cc, ck, cv, cf⟩ := c
  simp only at hc hv1 hv2
  have hc0 : ck ≠ 0 := by omega
  have hof := oft_fn l ⟨cc, ck, cv, cf⟩ a k fix hc0 hv1 hv2
  have hee := eerr_fn l ⟨cc, ck, cv, cf⟩ a k fix
  have q := EffL.lturns2_form (tube l) (cl ⟨cc, ck, cv, cf⟩) (.int a) (kd k) (pt fix) (.bool true)
  have kk := fun h => fn_run mixed 3 (Γ := EffL.Γ) (ann := EffL.ann) Tryd.func3 rfl Tryd.call3 (q.mpr h)
  refine kk ?_
  clear kk q
  have hRV : ofE l ⟨cc, ck, cv, cf⟩ a k fix ≠ 0 → ofT l ⟨cc, ck, cv, cf⟩ a k fix = .tup [.sl 6 [], .int (ofE l ⟨cc, ck, cv, cf⟩ a k fix)] := fun h => by unfold ofT; rw [if_pos h]
  have hRW : ofE l ⟨cc, ck, cv, cf⟩ a k fix = 0 → ofT l ⟨cc, ck, cv, cf⟩ a k fix = if latT a l = [] ∨ (ck ≠ 1 ∧ ck ≠ 2 ∧ ck ≠ 3) then .tup [tube l, .int 0]
      else if (trO ⟨cc, ck, cv, cf⟩ (atN l a) ((latT a l).getD 0 default) (latT a l) k fix).2 ≠ 0 then .tup [.sl 6 [], .int (trO ⟨cc, ck, cv, cf⟩ (atN l a) ((latT a l).getD 0 default) (latT a l) k fix).2]
      else if 64 < (befT a l ++ atN l a :: (trO ⟨cc, ck, cv, cf⟩ (atN l a) ((latT a l).getD 0 default) (latT a l) k fix).1).length then .tup [.sl 6 [], .int 2]
      else .tup [tube (befT a l ++ atN l a :: (trO ⟨cc, ck, cv, cf⟩ (atN l a) ((latT a l).getD 0 default) (latT a l) k fix).1), .int 0] := fun h => by unfold ofT; rw [if_neg (by rw [h]; simp)]
  generalize ofT l ⟨cc, ck, cv, cf⟩ a k fix = R at *
  refine ⟨by simp [encL], by simp [encKd], by simp [encP], _, efact_fn, by simp, by simp, by simp, by simp [encL], by simp [encL], by simp [encL, hc0], _, hof, _, hee, by simp, by simp, fun h => ?_, fun h => ?_⟩
  · have hE0 : ofE l ⟨cc, ck, cv, cf⟩ a k fix = 0 := by simpa using h
    have hR := hRW hE0
    clear hRV hRW hee hof h
    obtain ⟨hl0, hcl0, hk0, hta0⟩ := ofE_ok hE0
    obtain ⟨hp, h64, hGt⟩ := tE_ok hl0
    have hta := tat_fn l a
    have htv : tatV l a = .tup [nd (atN l a), .int 0] := by unfold tatV; rw [if_pos hta0]
    rw [htv] at hta
    clear hE0 htv
    obtain ⟨_, hfi, hla⟩ := tatE_ok hta0
    have hok := atN_okN hl0 hfi hla
    have htt := atN_t l a
    have hAxy : (-1000000000 ≤ (atN l a).x ∧ (atN l a).x ≤ 1000000000) ∧ -1000000000 ≤ (atN l a).y ∧ (atN l a).y ≤ 1000000000 := atN_xy hl0 hfi hla
    have hks : 1 ≤ k.sl := kE_sl hk0
    generalize atN l a = A at *
    subst htt
    refine ⟨Tryd.call7, fun _ => ⟨_, hta, by simp [encN], by simp, ?_⟩⟩
    refine loop_list (σ := Unit) l (fun i _ => [.int (i : Nat), tube (befT A.t (l.take i)), tube (latT A.t (l.take i))]) (fun _ _ _ => True) () rfl trivial ?_ ?_
    · rintro i x rest _ K hx hrest hi _ hK
      have hwi : wr ((i : Int) + 1) = (i : Int) + 1 := wr_id (by omega) (by omega)
      have hil : (i : Int) < l.length := by omega
      have e1 : l.take (i + 1) = l.take i ++ [x] := by rw [List.take_add_one, hx]; rfl
      have e2 := befT_snoc A.t (l.take i) x
      have e3 := latT_snoc A.t (l.take i) x
      rw [← e1] at e2 e3
      have b1 := befT_len A.t (l.take i)
      have b2 := latT_len A.t (l.take i)
      have b3 : (l.take i).length ≤ 1000 := by rw [List.length_take]; omega
      have r1 := nd_room (befT A.t (l.take i)) x (by omega)
      have r2 := nd_room (latT A.t (l.take i)) x (by omega)
      have a1 := nd_snoc (befT A.t (l.take i)) x
      have a2 := nd_snoc (latT A.t (l.take i)) x
      have hK' := hK [.int ((i : Int) + 1), tube (befT A.t (l.take (i + 1))), tube (latT A.t (l.take (i + 1)))] () (by simp) trivial
      rw [e2, e3] at hK'
      clear hK e2 e3 e1 b1 b2 b3
      generalize befT A.t (l.take i) = B at *
      generalize latT A.t (l.take i) = D at *
      obtain ⟨xt, xx, xy, xh, xr, xb⟩ := x
      simp [encN] at r1 r2 a1 a2 hK'
      simp [hil, lst_atAgg hx, encN, hwi]
      refine ⟨fun g1 => ⟨r1, ?_⟩, fun g1 => ⟨fun g2 => ⟨r2, ?_⟩, fun g2 => ?_⟩⟩
      · rw [if_pos g1, if_neg (by omega)] at hK'
        rw [a1]; exact hK'
      · rw [if_neg (by omega), if_pos g2] at hK'
        rw [a2]; exact hK'
      · rw [if_neg (by omega), if_neg (by omega)] at hK'
        exact hK'
    · rintro _ K _
      rw [List.take_length]
      have b1 := befT_len A.t l
      have b2 := latT_len A.t l
      have hlo : ∀ x ∈ latT A.t l, okN x ∧ A.t < x.t := fun x hx => by
        obtain ⟨h1, h2⟩ := List.mem_filter.1 hx
        obtain ⟨j, hj⟩ := List.getElem?_of_mem h1
        exact ⟨(tG_get hGt hj).2.1, by simpa using h2⟩
      have hlo2 : ∀ x ∈ latT A.t l, A.t < x.t ∧ x.t ≤ 200000 := fun x hx => ⟨(hlo x hx).2, (hlo x hx).1.2.1⟩
      clear hlo
      generalize befT A.t l = B at *
      generalize latT A.t l = L at *
      refine ⟨by simp, by simp, fun h => absurd h (by simp), fun _ => ?_⟩
      by_cases hL : L = []
      · rw [if_pos (.inl hL)] at hR
        subst hL
        refine ⟨by simp, by simp, fun _ => ⟨by simp, by simp, by simp, by simp, by simp, fun h => absurd h (by simp; omega), fun _ => leaf_ok (by omega) hR⟩, fun h => absurd h (by simp)⟩
      have hL0 : ¬ L.length = 0 := by simpa using hL
      refine ⟨by simp, by simp, fun h => absurd h (by simp [hL]), fun _ => ⟨by simp [encL], by simp, by simp [hL], by simp [encL], fun h => ?_, fun h => ?_⟩⟩
      · have h : ck > 3 := by simpa [encL] using h
        rw [if_pos (.inr (by omega))] at hR
        exact ⟨by simp, by simp, by simp, fun h => absurd h (by simp; omega), fun _ => leaf_ok (by omega) hR⟩
      have hk3 : ck ≤ 3 := by simpa [encL] using h
      have hck := clE_k hcl0
      simp only at hck
      obtain rfl : ck = 2 := by omega
      clear h hc hc0 hk3 hck
      rw [if_neg (by simp [hL])] at hR
      obtain ⟨z, hz⟩ : ∃ z, L[0]? = some z := ⟨_, List.getElem?_eq_getElem (by omega)⟩
      have hzd : L.getD 0 default = z := by rw [List.getD_eq_getElem?_getD, hz]; rfl
      rw [hzd] at hR
      have hzm := hlo2 z (List.mem_of_getElem? hz)
      have hd := dist_fn A.p z.p
      have a1 : AV.at (tube L) (AV.int 0) 0 = .int z.t := by rw [lst_atI (by decide) hz]; rfl
      have a2 : AV.atAgg (tube L) (AV.int 0) 1 2 = pt z.p := by rw [lst_atAggI (by decide) hz]; rfl
      have hsb := spV_bd hzm.1
      have hwq : wr (z.t - A.t) = z.t - A.t := wr_id (by omega) (by omega)
      have hsp : AV.bin .quo (.int (disA A.p z.p)) (AV.bin .sub (.int z.t) (.int A.t)) = .int (spV A z) := by
        have hb := rootI_bd (sqrP A.p z.p)
        have e : disA A.p z.p = rootI (sqrP A.p z.p) := rfl
        rw [← e] at hb
        have e2 : (disA A.p z.p).tdiv (z.t - A.t) = spV A z := Int.tdiv_eq_ediv_of_nonneg hb.1
        have w2 : wr (spV A z) = spV A z := wr_id (by omega) (by omega)
        simp [hwq, e2, w2]
      have rA := nd_room B A (by omega)
      have sA := nd_snoc B A
      rw [← a2] at hd
      refine ⟨rA, by simp; omega, by simp; omega, .tup [.int (disA A.p z.p), .int (disB A.p z.p)], hd, by simp; omega, by simp; omega, by simp [a1], by simp [a1, hwq]; omega, by simp [encL], by simp [encL], ?_⟩
      clear hd a2
      have hT : trO ⟨cc, 2, cv, cf⟩ A z L k fix = if cv < k.sl ∨ cv > k.fa then ([], 4) else if swE cv A L ≠ 0 then ([], swE cv A L) else (swL cv A L, 0) := rfl
      generalize trO ⟨cc, 2, cv, cf⟩ A z L k fix = TT at *
      refine ⟨by simp [encL], by simp [encL, encKd], by simp [encL, encKd], fun q => ?_, fun q => ?_⟩
      · have h : cv < k.sl := by simpa [encL, encKd] using q
        rw [if_pos (.inl h)] at hT
        subst hT
        replace hR : R = .tup [.sl 6 [], .int 4] := by simpa using hR
        exact ⟨by simp [encL, encKd], by simp [encL, encKd]; omega, by simp [encL], by simp [encL], leaf_err rfl hR⟩
      have g1 : ¬ cv < k.sl := by simpa [encL, encKd] using q
      refine ⟨by simp [encL, encKd], by simp [encL, encKd], by simp [encL, encKd]; omega, by simp [encL], by simp [encL], by simp [encL, encKd], fun q => ?_, fun q => ?_⟩
      · have h : cv > k.fa := by simpa [encL, encKd] using q
        rw [if_pos (.inr h)] at hT
        subst hT
        replace hR : R = .tup [.sl 6 [], .int 4] := by simpa using hR
        exact leaf_err rfl hR
      have g2 : ¬ cv > k.fa := by simpa [encL, encKd] using q
      rw [if_neg (by omega)] at hT
      subst hT
      refine ⟨by simp [encL], by simp [encL], by simp [encL], ?_⟩
      simp only [av_prj, List.getD_cons_succ, List.getD_cons_zero, a1]
      refine loop_list (σ := List Nd × Nd) L (fun i s => [.int (i : Nat), tube (B ++ A :: s.1), .int s.2.t, .int s.2.x, .int s.2.y, .int s.2.h, .int s.2.r, .int s.2.b]) (fun i rest s => s.1.length = i ∧ swL cv A L = s.1 ++ swL cv s.2 rest ∧ swE cv A L = swE cv s.2 rest ∧ 0 ≤ s.2.t ∧ s.2.t ≤ 200000) ([], A) (by simp [encN, lst]) ⟨rfl, rfl, rfl, hok.1, hok.2.1⟩ ?_ ?_
      · rintro i x rest ⟨pre, last⟩ K hx' hrest hi ⟨hp', hLs, hE, b0, b1⟩ hK
        simp only at hp' hLs hE b0 b1
        have hil : (i : Int) < L.length := by omega
        have w2 : wr ((i : Int) + 1) = (i : Int) + 1 := wr_id (by omega) (by omega)
        have hat : AV.atAgg (tube L) (.int (i : Nat)) 0 6 = nd x := by rw [lst_atAgg hx']; rfl
        have hL1 : swL cv last (x :: rest) = swN cv last x :: swL cv (swN cv last x) rest := rfl
        have hE1 : swE cv last (x :: rest) = if swT cv last x > 200000 then 12 else swE cv (swN cv last x) rest := rfl
        rw [hL1] at hLs
        rw [hE1] at hE
        have hd := dist_fn last.p x.p
        have hdb := disB_bd last.p x.p
        have hT : swT cv last x = last.t + (if dvu (disB last.p x.p) cv > 1 then dvu (disB last.p x.p) cv else 1) := rfl
        have hlg := long_eq (d := disB last.p x.p) (v := cv) (by omega) (by omega)
        have hub := dvu_bd (a := disB last.p x.p) (b := cv) (by omega) (by omega) (by omega)
        have hN : swN cv last x = ⟨swT cv last x, x.x, x.y, x.h, x.r, x.b⟩ := rfl
        have hNt : (swN cv last x).t = swT cv last x := rfl
        have hK2 := hK [.int ((i : Int) + 1), tube ((B ++ A :: pre) ++ [swN cv last x]), .int (swT cv last x), .int x.x, .int x.y, .int x.h, .int x.r, .int x.b] (pre ++ [swN cv last x], swN cv last x) (by rw [hN]; simp)
        have hOl : (B ++ A :: pre).length ≤ 1000 := by simp; omega
        have rO := nd_room (B ++ A :: pre) (swN cv last x) hOl
        have sO := nd_snoc (B ++ A :: pre) (swN cv last x)
        have hR12 : swT cv last x > 200000 → R = .tup [.sl 6 [], .int 12] := fun h => by
          rw [if_pos h] at hE
          rw [hE] at hR
          simpa using hR
        have hKf : ¬ swT cv last x > 200000 → K [.int ((i : Int) + 1), tube ((B ++ A :: pre) ++ [swN cv last x]), .int (swT cv last x), .int x.x, .int x.y, .int x.h, .int x.r, .int x.b] := fun h => by
          rw [if_neg h] at hE
          exact hK2 ⟨by simp [hp'], by rw [hLs]; simp, hE, by rw [hNt, hT]; split <;> omega, by rw [hNt]; omega⟩
        clear hK hK2 hR
        generalize B ++ A :: pre = O at *
        generalize disB last.p x.p = D at *
        generalize disA last.p x.p = D2 at *
        have hqd : D.tdiv cv = D / cv := Int.tdiv_eq_ediv_of_nonneg (by omega)
        have hqb : 0 ≤ D / cv ∧ D / cv ≤ D := ⟨Int.ediv_nonneg (by omega) (by omega), Int.ediv_le_self _ (by omega)⟩
        have hrb : D.tmod cv = D % cv := Int.tmod_eq_emod_of_nonneg (by omega)
        have hr1 := Int.emod_nonneg D (show cv ≠ 0 by omega)
        have hr2 := Int.emod_lt_of_pos D (show 0 < cv by omega)
        rw [hrb] at hlg
        generalize swN cv last x = N at *
        generalize swT cv last x = T at *
        have fin : ∀ V : AV, V = .int T → (AV.binOk .gtr V (.int 200000)) ∧ (AV.isBool (AV.bin .gtr V (.int 200000))) ∧ ((isT (AV.bin .gtr V (.int 200000))) → AV.binOk .eql (AV.prj R 1) (.int 12) ∧ AV.isBool (AV.bin .eql (AV.prj R 1) (.int 12)) ∧ isT (AV.bin .eql (AV.prj R 1) (.int 12)) ∧ ∃ r : AV, Fn Tryd.prog 8 [AV.prj R 0, AV.mk 6 []] .sc r ∧ AV.isBool (AV.bin .eql (AV.prj R 1) (.int 12)) ∧ isT (AV.bin .eql (AV.prj R 1) (.int 12)) ∧ AV.flat r ∧ fSame r (.bool true)) ∧
            ((isF (AV.bin .gtr V (.int 200000))) → AV.room (tube O) (AV.mk 6 [[V, AV.cel (nd x) 1, AV.cel (nd x) 2, AV.cel (nd x) 3, AV.cel (nd x) 4, AV.cel (nd x) 5]]) 48 ∧ AV.binOk .add (.int (i : Nat)) (.int 1) ∧ K [AV.bin .add (.int (i : Nat)) (.int 1), AV.app 6 (tube O) (AV.mk 6 [[V, AV.cel (nd x) 1, AV.cel (nd x) 2, AV.cel (nd x) 3, AV.cel (nd x) 4, AV.cel (nd x) 5]]), V, AV.cel (nd x) 1, AV.cel (nd x) 2, AV.cel (nd x) 3, AV.cel (nd x) 4, AV.cel (nd x) 5]) := by
          rintro _ rfl
          refine ⟨by simp, by simp, fun q => leaf_err rfl (hR12 (by simpa using q)), fun q => ?_⟩
          have h2 := hKf (by have : T ≤ 200000 := by simpa using q
                             omega)
          rw [← sO, hN] at h2
          rw [hN] at rO
          have hb : AV.bin .add (.int (i : Nat)) (.int 1) = .int ((i : Int) + 1) := by simp [w2]
          rw [hb]
          exact ⟨rO, by simp, h2⟩
        have w3 : wr (D / cv) = D / cv := wr_id (by omega) (by omega)
        have w4 : wr (D / cv + 1) = D / cv + 1 := wr_id (by omega) (by omega)
        have w5 : wr (D % cv) = D % cv := wr_id (by omega) (by omega)
        have w6 : wr (last.t + (D / cv + 1)) = last.t + (D / cv + 1) := wr_id (by omega) (by omega)
        have w7 : wr (last.t + D / cv) = last.t + D / cv := wr_id (by omega) (by omega)
        have hcv : ¬ cv = 0 := by omega
        have hq : AV.bin .quo (.int D) (.int cv) = .int (D / cv) := by simp [hqd, w3, hcv]
        have hm : AV.bin .rem (.int D) (.int cv) = .int (D % cv) := by simp [hrb, w5, hcv]
        have p2 : AV.cel (cl ⟨cc, 2, cv, cf⟩) 2 = .int cv := rfl
        have p1 : AV.cel (cl ⟨cc, 2, cv, cf⟩) 1 = .int 2 := rfl
        refine ⟨by simp, by simp, fun _ => ⟨by simp; omega, by simp; omega, by simp [hat, encN], by simp [encL], by simp [encL], by simp [encL], .tup [.int D2, .int D], ?_, ?_⟩, fun q => absurd q (by simp; omega)⟩
        · simp only [List.getD_cons_succ, List.getD_cons_zero, hat]
          exact hd
        simp only [List.getD_cons_succ, List.getD_cons_zero, hat, av_prj, p2, hq, hm]
        refine ⟨by simp [hcv], by simp [hcv], by simp, by simp, fun q => ?_, fun q => ?_⟩
        · have h : D % cv > 0 := by simpa using q
          have hV : AV.bin .add (.int last.t) (AV.bin .add (.int (D / cv)) (.int 1)) = .int T := by
            rw [if_pos (.inl h)] at hlg
            rw [← hlg] at hT
            simp [w4, w6, hT]
          exact ⟨by simp, by simp; omega, by simp, by simp, by rw [hV]; simp, fin _ hV⟩
        · have h : ¬ D % cv > 0 := by
            have : D % cv ≤ 0 := by simpa using q
            omega
          refine ⟨by simp, by simp, by simp; omega, by simp, fun q => ?_, fun q => ?_⟩
          · have h0 : D = 0 := by simpa using q
            have hV : AV.bin .add (.int last.t) (AV.bin .add (.int (D / cv)) (.int 1)) = .int T := by
              rw [if_pos (.inr h0)] at hlg
              rw [← hlg] at hT
              simp [w4, w6, hT]
            exact ⟨by simp, by simp, by rw [hV]; simp, fin _ hV⟩
          · have h0 : ¬ D = 0 := by simpa using q
            have hV : AV.bin .add (.int last.t) (.int (D / cv)) = .int T := by
              rw [if_neg (by omega)] at hlg
              rw [← hlg] at hT
              simp [w7, hT]
            exact ⟨by simp, by rw [hV]; simp, fin _ hV⟩
      · rintro ⟨pre, last⟩ K ⟨hp', hLs, hE, b0, b1⟩
        simp only at hp' hLs hE
        have e1 : swL cv last [] = [] := rfl
        have e2 : swE cv last [] = 0 := rfl
        rw [e1, List.append_nil] at hLs
        rw [e2] at hE
        simp only [hE, hLs, ne_eq, not_true_eq_false, if_false] at hR
        refine ⟨by simp, by simp, fun q => absurd q (by simp), fun _ => ⟨by simp, by simp, fun q => ?_, fun q => ?_⟩⟩
        · have h : 64 < (B ++ A :: pre).length := by simp at q ⊢; omega
          rw [if_pos h] at hR
          exact leaf_err rfl hR
        · have h : ¬ 64 < (B ++ A :: pre).length := by simp at q ⊢; omega
          rw [if_neg h] at hR
          exact leaf_ok (by simp; omega) hR
  · have hE0 : ofE l ⟨cc, ck, cv, cf⟩ a k fix ≠ 0 := by simpa using h
    exact ⟨by simp, by simp, by simp [hE0], by simp, by simp [hE0], by simp, by simp, by simp [hE0], leaf_err rfl (hRV hE0)⟩
end Go.Proofs.YtdlakpomcafemaaDoor
/- effects of turns: the law at kind 3. -/
namespace Go.Proofs.YtdlakpomcafemaaDoor
open Go.RowKit
set_option linter.unusedVariables false
set_option linter.unusedSimpArgs false
set_option maxRecDepth 100000
theorem lturns3_fn (l : List Nd) (c : Cl) (a : Int) (k : Kd) (fix : Pt) (hc : c.k = 3) (hv1 : -9223372036854775808 ≤ c.v) (hv2 : c.v ≤ 9223372036854775807) : Fn Tryd.prog 3 [tube l, cl c, .int a, kd k, pt fix] .sc (.bool true) := by
  obtain ⟨cc, ck, cv, cf⟩ := c
  simp only at hc hv1 hv2
  have hc0 : ck ≠ 0 := by omega
  have hof := oft_fn l ⟨cc, ck, cv, cf⟩ a k fix hc0 hv1 hv2
  have hee := eerr_fn l ⟨cc, ck, cv, cf⟩ a k fix
  have q := EffL.lturns3_form (tube l) (cl ⟨cc, ck, cv, cf⟩) (.int a) (kd k) (pt fix) (.bool true)
  have kk := fun h => fn_run mixed 3 (Γ := EffL.Γ) (ann := EffL.ann) Tryd.func3 rfl Tryd.call3 (q.mpr h)
  refine kk ?_
  clear kk q
  have hRV : ofE l ⟨cc, ck, cv, cf⟩ a k fix ≠ 0 → ofT l ⟨cc, ck, cv, cf⟩ a k fix = .tup [.sl 6 [], .int (ofE l ⟨cc, ck, cv, cf⟩ a k fix)] := fun h => by unfold ofT; rw [if_pos h]
  have hRW : ofE l ⟨cc, ck, cv, cf⟩ a k fix = 0 → ofT l ⟨cc, ck, cv, cf⟩ a k fix = if latT a l = [] ∨ (ck ≠ 1 ∧ ck ≠ 2 ∧ ck ≠ 3) then .tup [tube l, .int 0]
      else if (trO ⟨cc, ck, cv, cf⟩ (atN l a) ((latT a l).getD 0 default) (latT a l) k fix).2 ≠ 0 then .tup [.sl 6 [], .int (trO ⟨cc, ck, cv, cf⟩ (atN l a) ((latT a l).getD 0 default) (latT a l) k fix).2]
      else if 64 < (befT a l ++ atN l a :: (trO ⟨cc, ck, cv, cf⟩ (atN l a) ((latT a l).getD 0 default) (latT a l) k fix).1).length then .tup [.sl 6 [], .int 2]
      else .tup [tube (befT a l ++ atN l a :: (trO ⟨cc, ck, cv, cf⟩ (atN l a) ((latT a l).getD 0 default) (latT a l) k fix).1), .int 0] := fun h => by unfold ofT; rw [if_neg (by rw [h]; simp)]
  generalize ofT l ⟨cc, ck, cv, cf⟩ a k fix = R at *
  refine ⟨by simp [encL], by simp [encKd], by simp [encP], _, efact_fn, by simp, by simp, by simp, by simp [encL], by simp [encL], by simp [encL, hc0], _, hof, _, hee, by simp, by simp, fun h => ?_, fun h => ?_⟩
  · have hE0 : ofE l ⟨cc, ck, cv, cf⟩ a k fix = 0 := by simpa using h
    have hR := hRW hE0
    clear hRV hRW hee hof h
    obtain ⟨hl0, hcl0, hk0, hta0⟩ := ofE_ok hE0
    obtain ⟨hp, h64, hGt⟩ := tE_ok hl0
    have hta := tat_fn l a
    have htv : tatV l a = .tup [nd (atN l a), .int 0] := by unfold tatV; rw [if_pos hta0]
    rw [htv] at hta
    clear hE0 htv
    obtain ⟨_, hfi, hla⟩ := tatE_ok hta0
    have hok := atN_okN hl0 hfi hla
    have htt := atN_t l a
    have hAxy : (-1000000000 ≤ (atN l a).x ∧ (atN l a).x ≤ 1000000000) ∧ -1000000000 ≤ (atN l a).y ∧ (atN l a).y ≤ 1000000000 := atN_xy hl0 hfi hla
    have hks : 1 ≤ k.sl := kE_sl hk0
    generalize atN l a = A at *
    subst htt
    refine ⟨Tryd.call7, fun _ => ⟨_, hta, by simp [encN], by simp, ?_⟩⟩
    refine loop_list (σ := Unit) l (fun i _ => [.int (i : Nat), tube (befT A.t (l.take i)), tube (latT A.t (l.take i))]) (fun _ _ _ => True) () rfl trivial ?_ ?_
    · rintro i x rest _ K hx hrest hi _ hK
      have hwi : wr ((i : Int) + 1) = (i : Int) + 1 := wr_id (by omega) (by omega)
      have hil : (i : Int) < l.length := by omega
      have e1 : l.take (i + 1) = l.take i ++ [x] := by rw [List.take_add_one, hx]; rfl
      have e2 := befT_snoc A.t (l.take i) x
      have e3 := latT_snoc A.t (l.take i) x
      rw [← e1] at e2 e3
      have b1 := befT_len A.t (l.take i)
      have b2 := latT_len A.t (l.take i)
      have b3 : (l.take i).length ≤ 1000 := by rw [List.length_take]; omega
      have r1 := nd_room (befT A.t (l.take i)) x (by omega)
      have r2 := nd_room (latT A.t (l.take i)) x (by omega)
      have a1 := nd_snoc (befT A.t (l.take i)) x
      have a2 := nd_snoc (latT A.t (l.take i)) x
      have hK' := hK [.int ((i : Int) + 1), tube (befT A.t (l.take (i + 1))), tube (latT A.t (l.take (i + 1)))] () (by simp) trivial
      rw [e2, e3] at hK'
      clear hK e2 e3 e1 b1 b2 b3
      generalize befT A.t (l.take i) = B at *
      generalize latT A.t (l.take i) = D at *
      obtain ⟨xt, xx, xy, xh, xr, xb⟩ := x
      simp [encN] at r1 r2 a1 a2 hK'
      simp [hil, lst_atAgg hx, encN, hwi]
      refine ⟨fun g1 => ⟨r1, ?_⟩, fun g1 => ⟨fun g2 => ⟨r2, ?_⟩, fun g2 => ?_⟩⟩
      · rw [if_pos g1, if_neg (by omega)] at hK'
        rw [a1]; exact hK'
      · rw [if_neg (by omega), if_pos g2] at hK'
        rw [a2]; exact hK'
      · rw [if_neg (by omega), if_neg (by omega)] at hK'
        exact hK'
    · rintro _ K _
      rw [List.take_length]
      have b1 := befT_len A.t l
      have b2 := latT_len A.t l
      have hlo : ∀ x ∈ latT A.t l, okN x ∧ A.t < x.t := fun x hx => by
        obtain ⟨h1, h2⟩ := List.mem_filter.1 hx
        obtain ⟨j, hj⟩ := List.getElem?_of_mem h1
        exact ⟨(tG_get hGt hj).2.1, by simpa using h2⟩
      have hlo2 : ∀ x ∈ latT A.t l, A.t < x.t ∧ x.t ≤ 200000 := fun x hx => ⟨(hlo x hx).2, (hlo x hx).1.2.1⟩
      clear hlo
      generalize befT A.t l = B at *
      generalize latT A.t l = L at *
      refine ⟨by simp, by simp, fun h => absurd h (by simp), fun _ => ?_⟩
      by_cases hL : L = []
      · rw [if_pos (.inl hL)] at hR
        subst hL
        refine ⟨by simp, by simp, fun _ => ⟨by simp, by simp, by simp, by simp, by simp, fun h => absurd h (by simp; omega), fun _ => leaf_ok (by omega) hR⟩, fun h => absurd h (by simp)⟩
      have hL0 : ¬ L.length = 0 := by simpa using hL
      refine ⟨by simp, by simp, fun h => absurd h (by simp [hL]), fun _ => ⟨by simp [encL], by simp, by simp [hL], by simp [encL], fun h => ?_, fun h => ?_⟩⟩
      · have h : ck > 3 := by simpa [encL] using h
        rw [if_pos (.inr (by omega))] at hR
        exact ⟨by simp, by simp, by simp, fun h => absurd h (by simp; omega), fun _ => leaf_ok (by omega) hR⟩
      have hk3 : ck ≤ 3 := by simpa [encL] using h
      have hck := clE_k hcl0
      simp only at hck
      obtain rfl : ck = 3 := by omega
      clear h hc hc0 hk3 hck
      rw [if_neg (by simp [hL])] at hR
      obtain ⟨z, hz⟩ : ∃ z, L[0]? = some z := ⟨_, List.getElem?_eq_getElem (by omega)⟩
      have hzd : L.getD 0 default = z := by rw [List.getD_eq_getElem?_getD, hz]; rfl
      rw [hzd] at hR
      have hzm := hlo2 z (List.mem_of_getElem? hz)
      have hd := dist_fn A.p z.p
      have a1 : AV.at (tube L) (AV.int 0) 0 = .int z.t := by rw [lst_atI (by decide) hz]; rfl
      have a2 : AV.atAgg (tube L) (AV.int 0) 1 2 = pt z.p := by rw [lst_atAggI (by decide) hz]; rfl
      have hsb := spV_bd hzm.1
      have hwq : wr (z.t - A.t) = z.t - A.t := wr_id (by omega) (by omega)
      have hsp : AV.bin .quo (.int (disA A.p z.p)) (AV.bin .sub (.int z.t) (.int A.t)) = .int (spV A z) := by
        have hb := rootI_bd (sqrP A.p z.p)
        have e : disA A.p z.p = rootI (sqrP A.p z.p) := rfl
        rw [← e] at hb
        have e2 : (disA A.p z.p).tdiv (z.t - A.t) = spV A z := Int.tdiv_eq_ediv_of_nonneg hb.1
        have w2 : wr (spV A z) = spV A z := wr_id (by omega) (by omega)
        simp [hwq, e2, w2]
      have rA := nd_room B A (by omega)
      have sA := nd_snoc B A
      rw [← a2] at hd
      refine ⟨rA, by simp; omega, by simp; omega, .tup [.int (disA A.p z.p), .int (disB A.p z.p)], hd, by simp; omega, by simp; omega, by simp [a1], by simp [a1, hwq]; omega, by simp [encL], by simp [encL], ?_⟩
      clear hd a2
      have hT : trO ⟨cc, 3, cv, cf⟩ A z L k fix = if spV A z = 0 then ([], 10) else if disB A.p fix = 0 then ([], 0) else if 200000 < (diN A fix (spV A z)).t then ([], 12) else ([diN A fix (spV A z)], 0) := rfl
      generalize trO ⟨cc, 3, cv, cf⟩ A z L k fix = TT at *
      refine ⟨by simp [encL], by simp [encL], by simp [encL], by simp [encL], by simp [encL], by simp [encL], ?_⟩
      simp only [av_prj, List.getD_cons_succ, List.getD_cons_zero, a1]
      rw [hsp]
      have hNN : diN A fix (spV A z) = ⟨A.t + dvu (disB A.p fix) (spV A z), fix.x, fix.y, A.h, A.r, A.b⟩ := rfl
      generalize diN A fix (spV A z) = N at *
      generalize spV A z = sp at *
      refine ⟨by simp, by simp, fun q => ?_, fun q => ?_⟩
      · have h : sp = 0 := by simpa using q
        rw [if_pos h] at hT
        subst hT
        replace hR : R = .tup [.sl 6 [], .int 10] := by simpa using hR
        exact leaf_err rfl hR
      have hs0 : ¬ sp = 0 := by simpa using q
      rw [if_neg hs0] at hT
      have hd := dist_fn A.p fix
      have hdb := disB_bd A.p fix
      refine ⟨.tup [.int (disA A.p fix), .int (disB A.p fix)], hd, ?_⟩
      clear hd
      generalize disB A.p fix = D at *
      have hub := dvu_bd (a := D) (b := sp) (by omega) (by omega) (by omega)
      have hdv := dvu_spec (d := D) (s := sp) (by omega) (by omega)
      have hfm := fun k : Int => far_more (d := D) (s := sp) (k := k) (by omega) (by omega)
      have hfd := fun k : Int => far_done (d := D) (s := sp) (k := k) (by omega) (by omega)
      generalize dvu D sp = u at *
      refine loop_of (τ := Nat) (fun j => [.int (D - (j : Int) * sp), .int (A.t + (j : Int)), .int fix.x, .int fix.y, .int A.h, .int A.r, .int A.b]) (fun j => (j : Int) ≤ u) (fun j => u.toNat - j) 0 (by simp [encN, encP]) (by simp; omega) ?_
      intro j hj
      have hjs : 0 ≤ (j : Int) * sp := Int.mul_nonneg (by omega) (by omega)
      have hj1 : ((j : Int) + 1) * sp = (j : Int) * sp + sp := by rw [Int.add_mul, Int.one_mul]
      refine ⟨by simp, by simp, fun q => ?_, fun q => ?_⟩
      · have h : D - (j : Int) * sp > 0 := by simpa using q
        have hlt := hfm j h
        have w1 : wr (A.t + (j : Int) + 1) = A.t + (j : Int) + 1 := wr_id (by omega) (by omega)
        have w2 : wr (D - (j : Int) * sp - sp) = D - (j : Int) * sp - sp := wr_id (by omega) (by omega)
        refine ⟨by simp, by simp, by simp, u.toNat - (j + 1), by omega, j + 1, ?_, by simp; omega, rfl⟩
        simp [w1, w2]
        omega
      · have h : ¬ D - (j : Int) * sp > 0 := by
          have : D ≤ (j : Int) * sp := by simpa using q
          omega
        have hju := hfd j h hj
        rw [hju]
        refine ⟨by simp, by simp, fun q => ?_, fun q => ?_⟩
        · have h3 : 200000 < A.t + u := by simpa using q
          have h0 : ¬ D = 0 := fun h => by have := hdv.2.2.2 h; omega
          rw [if_neg h0, if_pos (by rw [hNN]; exact h3)] at hT
          subst hT
          replace hR : R = .tup [.sl 6 [], .int 12] := by simpa using hR
          exact leaf_err rfl hR
        · have h3 : ¬ 200000 < A.t + u := by
            have : A.t + u ≤ 200000 := by simpa using q
            omega
          refine ⟨by simp, by simp, fun q => ?_, fun q => ?_⟩
          · have h0 : ¬ D = 0 := by
              have : 0 < D := by simpa using q
              omega
            rw [if_neg h0, if_neg (by rw [hNN]; exact h3)] at hT
            subst hT
            simp only [ne_eq, not_true_eq_false, if_false] at hR
            have rN := nd_room (B ++ [A]) N (by simp; omega)
            have sN := nd_snoc (B ++ [A]) N
            have sN2 : AV.app 6 (AV.app 6 (tube B) (.sl 6 [encN A])) (.sl 6 [encN N]) = tube (B ++ A :: [N]) := by rw [sA, sN]; simp
            rw [← sA] at rN
            rw [hNN] at rN
            refine ⟨rN, leaf_len (o := B ++ A :: [N]) (by simp; omega) ?_ hR⟩
            rw [← sN2, hNN]
            rfl
          · have h0 : D = 0 := by
              have : D ≤ 0 := by simpa using q
              omega
            rw [if_pos h0] at hT
            subst hT
            simp only [ne_eq, not_true_eq_false, if_false] at hR
            exact leaf_len (o := B ++ A :: []) (by simp; omega) sA hR
  · have hE0 : ofE l ⟨cc, ck, cv, cf⟩ a k fix ≠ 0 := by simpa using h
    exact ⟨by simp, by simp, by simp [hE0], by simp, by simp [hE0], by simp, by simp, by simp [hE0], leaf_err rfl (hRV hE0)⟩
end Go.Proofs.YtdlakpomcafemaaDoor
/- effects of turns: the arguments of EffectTurns. -/
namespace Go.Proofs.YtdlakpomcafemaaDoor
open Go.RowKit
set_option linter.unusedVariables false
set_option linter.unusedSimpArgs false
set_option maxRecDepth 100000
theorem lturns_fn (l : List Nd) (c : Cl) (a : Int) (k : Kd) (fix : Pt) (hv1 : -9223372036854775808 ≤ c.v) (hv2 : c.v ≤ 9223372036854775807) : Fn Tryd.prog 3 [tube l, cl c, .int a, kd k, pt fix] .sc (.bool true) := by
  by_cases h0 : c.k = 0
  · exact lturns0_fn l c a k fix h0
  · by_cases h2 : c.k = 2
    · exact lturns2_fn l c a k fix h2 hv1 hv2
    · by_cases h3 : c.k = 3
      · exact lturns3_fn l c a k fix h3 hv1 hv2
      · exact lturns1_fn l c a k fix ⟨h0, h2, h3⟩ hv1 hv2
theorem of2 {α : Type} {l : List α} (h : l.length = 2) : ∃ a b, l = [a, b] := by
  match l, h with
  | [a, b], _ => exact ⟨a, b, rfl⟩
theorem of4 {α : Type} {l : List α} (h : l.length = 4) : ∃ a b c d, l = [a, b, c, d] := by
  match l, h with
  | [a, b, c, d], _ => exact ⟨a, b, c, d, rfl⟩
theorem of5 {α : Type} {l : List α} (h : l.length = 5) : ∃ a b c d e, l = [a, b, c, d, e] := by
  match l, h with
  | [a, b, c, d, e], _ => exact ⟨a, b, c, d, e, rfl⟩
theorem of6 {α : Type} {l : List α} (h : l.length = 6) : ∃ a b c d e f, l = [a, b, c, d, e, f] := by
  match l, h with
  | [a, b, c, d, e, f], _ => exact ⟨a, b, c, d, e, f, rfl⟩
theorem of7 {α : Type} {l : List α} (h : l.length = 7) : ∃ a b c d e f g, l = [a, b, c, d, e, f, g] := by
  match l, h with
  | [a, b, c, d, e, f, g], _ => exact ⟨a, b, c, d, e, f, g, rfl⟩
theorem arg_tube {x : AV} (h : ArgOk Tryd.prog 23 x) : ∃ l, x = tube l ∧ l.length ≤ maxLen := by
  obtain ⟨l, e, h1, _⟩ := c_lst (P := Tryd.prog) (encA := encN) (Q := fun _ => True) (tys := [3, 3, 3, 3, 3, 3]) (s := 6) (e := 39) (by kernel_rfl) (by kernel_rfl) (by kernel_rfl) (fun y hy hc => by
    obtain ⟨a, b, c, d, e, f, rfl⟩ := of6 hy
    obtain ⟨s1, e1, _⟩ := c_int (by kernel_rfl) (hc 0 3 rfl)
    obtain ⟨s2, e2, _⟩ := c_int (by kernel_rfl) (hc 1 3 rfl)
    obtain ⟨s3, e3, _⟩ := c_int (by kernel_rfl) (hc 2 3 rfl)
    obtain ⟨s4, e4, _⟩ := c_int (by kernel_rfl) (hc 3 3 rfl)
    obtain ⟨s5, e5, _⟩ := c_int (by kernel_rfl) (hc 4 3 rfl)
    obtain ⟨s6, e6, _⟩ := c_int (by kernel_rfl) (hc 5 3 rfl)
    simp at e1 e2 e3 e4 e5 e6
    exact ⟨⟨s1, s2, s3, s4, s5, s6⟩, by rw [e1, e2, e3, e4, e5, e6]; rfl, trivial⟩) (arg_cell (by kernel_rfl) h)
  exact ⟨l, e, h1⟩
theorem arg_cl {x : AV} (h : ArgOk Tryd.prog 25 x) : ∃ c, x = cl c ∧ I64 c.v := by
  obtain ⟨cs, rfl, hl, hc⟩ := arg_agg (P := Tryd.prog) (t := 25) (tys := [9, 3, 3, 9]) (by kernel_rfl) (by kernel_rfl) h
  obtain ⟨a, b, c, d, rfl⟩ := of4 hl
  obtain ⟨s1, e1, _⟩ := c_str (by kernel_rfl) (hc 0 9 rfl)
  obtain ⟨s2, e2, _⟩ := c_int (by kernel_rfl) (hc 1 3 rfl)
  obtain ⟨s3, e3, h3⟩ := c_int (by kernel_rfl) (hc 2 3 rfl)
  obtain ⟨s4, e4, _⟩ := c_str (by kernel_rfl) (hc 3 9 rfl)
  simp at e1 e2 e3 e4
  exact ⟨⟨s1, s2, s3, s4⟩, by rw [e1, e2, e3, e4]; rfl, h3⟩
theorem arg_kd {x : AV} (h : ArgOk Tryd.prog 27 x) : ∃ k, x = kd k := by
  obtain ⟨cs, rfl, hl, hc⟩ := arg_agg (P := Tryd.prog) (t := 27) (tys := [9, 3, 3, 3, 3, 3, 3]) (by kernel_rfl) (by kernel_rfl) h
  obtain ⟨a, b, c, d, e, f, g, rfl⟩ := of7 hl
  obtain ⟨s1, e1, _⟩ := c_str (by kernel_rfl) (hc 0 9 rfl)
  obtain ⟨s2, e2, _⟩ := c_int (by kernel_rfl) (hc 1 3 rfl)
  obtain ⟨s3, e3, _⟩ := c_int (by kernel_rfl) (hc 2 3 rfl)
  obtain ⟨s4, e4, _⟩ := c_int (by kernel_rfl) (hc 3 3 rfl)
  obtain ⟨s5, e5, _⟩ := c_int (by kernel_rfl) (hc 4 3 rfl)
  obtain ⟨s6, e6, _⟩ := c_int (by kernel_rfl) (hc 5 3 rfl)
  obtain ⟨s7, e7, _⟩ := c_int (by kernel_rfl) (hc 6 3 rfl)
  simp at e1 e2 e3 e4 e5 e6 e7
  exact ⟨⟨s1, s2, s3, s4, s5, s6, s7⟩, by rw [e1, e2, e3, e4, e5, e6, e7]; rfl⟩
theorem arg_pt {x : AV} (h : ArgOk Tryd.prog 29 x) : ∃ p, x = pt p := by
  obtain ⟨cs, rfl, hl, hc⟩ := arg_agg (P := Tryd.prog) (t := 29) (tys := [3, 3]) (by kernel_rfl) (by kernel_rfl) h
  obtain ⟨a, b, rfl⟩ := of2 hl
  obtain ⟨s1, e1, _⟩ := c_int (by kernel_rfl) (hc 0 3 rfl)
  obtain ⟨s2, e2, _⟩ := c_int (by kernel_rfl) (hc 1 3 rfl)
  simp at e1 e2
  exact ⟨⟨s1, s2⟩, by rw [e1, e2]; rfl⟩
theorem arg_intT {x : AV} (h : ArgOk Tryd.prog 3 x) : ∃ n, x = .int n ∧ I64 n := c_int (by kernel_rfl) (arg_cell (by kernel_rfl) h)
theorem effectTurns_all (xs : List AV) (h1 : xs.length = 5) (h2 : ∀ i, i < 5 → ArgOk Tryd.prog ([23, 25, 3, 27, 29].getD i 0) (xs.getD i default))
    (h3 : ∀ i s L e, i < 5 → xs.getD i default = .sl s L → Tryd.prog.underlying ([23, 25, 3, 27, 29].getD i 0) = some (.slice e) → L.length * Tryd.prog.bytesOf e ≤ reachBytes) : Fn Tryd.prog 3 xs .sc (.bool true) := by
  obtain ⟨a, b, c, d, e, rfl⟩ := of5 h1
  obtain ⟨l, e1, _⟩ := arg_tube (h2 0 (by omega))
  obtain ⟨m, e2, hm⟩ := arg_cl (h2 1 (by omega))
  obtain ⟨n, e3, _⟩ := arg_intT (h2 2 (by omega))
  obtain ⟨k, e4⟩ := arg_kd (h2 3 (by omega))
  obtain ⟨p, e5⟩ := arg_pt (h2 4 (by omega))
  simp at e1 e2 e3 e4 e5
  subst e1 e2 e3 e4 e5
  exact lturns_fn l m n k p hm.1 hm.2
end Go.Proofs.YtdlakpomcafemaaDoor
