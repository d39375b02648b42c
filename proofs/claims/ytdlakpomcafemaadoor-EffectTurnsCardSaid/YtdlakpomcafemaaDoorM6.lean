/- Texts of one proof, part 6: plain values, a run over them, contracts of functions. -/
import Derived.Test.YtdlakpomcafemaaDoorM4
import Derived.Test.YtdlakpomcafemaaDoorM5
/- effects: what the run ends in. -/
namespace Go.Proofs.YtdlakpomcafemaaDoor
open Go.RowKit
set_option linter.unusedVariables false
set_option maxRecDepth 100000
namespace EffF
--GAMMA
def Γ : FuncId → Option Ca := fun f =>
  if f = 14 ∨ f = 20 ∨ f = 16 ∨ f = 18 ∨ f = 30 ∨ f = 28 ∨ f = 11 ∨ f = 10 ∨ f = 4 ∨ f = 6 ∨ f = 25 ∨ f = 13 ∨ f = 15 ∨ f = 17 ∨ f = 19 then some (.fn .sc)
  else if f = 21 ∨ f = 48 ∨ f = 49 ∨ f = 50 ∨ f = 12 then some (.fn (.tup [.sc, .sc]))
  else if f = 9 ∨ f = 23 ∨ f = 24 then some (.fn (.row 39 6 true))
  else if f = 5 ∨ f = 33 ∨ f = 34 ∨ f = 35 ∨ f = 36 then some (.fn (.tup [.row 39 6 true, .sc]))
  else if f = 22 then some (.fn (.tup [.row 39 6 true, .sc, .sc]))
  else if f = 53 then some (.upd true)
  else some .inl
def ann : FuncId → Nat → LoopEx := fun f r =>
  if f = 33 then ⟨[], [1000007], [], []⟩
  else if f = 5 ∧ r = 13 then ⟨[], [2305, 2369], [(1985, 0), (1985, 1), (1985, 2), (1985, 3), (1985, 6), (1985, 7), (1985, 8), (1985, 9), (1985, 10), (1985, 11), (1985, 12), (1985, 13), (1985, 14), (1985, 15), (1985, 16), (1985, 17), (1985, 18), (1985, 19), (1985, 20), (1985, 21)], [(1985, 4, 39, 6), (1985, 5, 39, 6)]⟩
  else ⟨[], [], [], []⟩
--END GAMMA
theorem acheck_form (x0 r : AV) : fnF Tryd.prog Γ ann 3 18 Tryd.f18 (Tryd.f18.body.getD .skip) (.nil) [x0] (.sc) r = (((AV.isAgg x0 7) ∧
(∃ r321 : AV, ((Fn Tryd.prog 30 [(AV.cel x0 0)] Sh.sc r321) ∧
((AV.unOk Go.UnOp.not r321) ∧
((AV.isBool (AV.un Go.UnOp.not r321)) ∧
(((isT (AV.un Go.UnOp.not r321)) →
  ((AV.flat (AV.int 5)) ∧
  (fSame (AV.int 5) r))) ∧
((isF (AV.un Go.UnOp.not r321)) →
  ((AV.binOk Go.BinOp.lss (AV.cel x0 1) (AV.int 0)) ∧
  ((AV.isBool (AV.bin Go.BinOp.lss (AV.cel x0 1) (AV.int 0))) ∧
  (((isT (AV.bin Go.BinOp.lss (AV.cel x0 1) (AV.int 0))) →
    ((AV.isBool (AV.bin Go.BinOp.lss (AV.cel x0 1) (AV.int 0))) ∧
    ((isT (AV.bin Go.BinOp.lss (AV.cel x0 1) (AV.int 0))) ∧
    ((AV.flat (AV.int 1)) ∧
    (fSame (AV.int 1) r))))) ∧
  ((isF (AV.bin Go.BinOp.lss (AV.cel x0 1) (AV.int 0))) →
    ((AV.binOk Go.BinOp.gtr (AV.cel x0 1) (AV.int 3)) ∧
    ((AV.isBool (AV.bin Go.BinOp.lss (AV.cel x0 1) (AV.int 0))) ∧
    ((isF (AV.bin Go.BinOp.lss (AV.cel x0 1) (AV.int 0))) ∧
    ((AV.isBool (AV.bin Go.BinOp.gtr (AV.cel x0 1) (AV.int 3))) ∧
    (((isT (AV.bin Go.BinOp.gtr (AV.cel x0 1) (AV.int 3))) →
      ((AV.flat (AV.int 1)) ∧
      (fSame (AV.int 1) r))) ∧
    ((isF (AV.bin Go.BinOp.gtr (AV.cel x0 1) (AV.int 3))) →
      ((fEnt Tryd.prog 29) ∧
      (fAllV fun _ => ((AV.binOk Go.BinOp.lss (AV.cel x0 2) (AV.int 1)) ∧
      ((AV.isBool (AV.bin Go.BinOp.lss (AV.cel x0 2) (AV.int 1))) ∧
      (((isT (AV.bin Go.BinOp.lss (AV.cel x0 2) (AV.int 1))) →
        ((AV.isBool (AV.bin Go.BinOp.lss (AV.cel x0 2) (AV.int 1))) ∧
        ((isT (AV.bin Go.BinOp.lss (AV.cel x0 2) (AV.int 1))) ∧
        ((AV.flat (AV.int 4)) ∧
        (fSame (AV.int 4) r))))) ∧
      ((isF (AV.bin Go.BinOp.lss (AV.cel x0 2) (AV.int 1))) →
        ((AV.binOk Go.BinOp.gtr (AV.cel x0 2) (AV.int 60000)) ∧
        ((AV.isBool (AV.bin Go.BinOp.lss (AV.cel x0 2) (AV.int 1))) ∧
        ((isF (AV.bin Go.BinOp.lss (AV.cel x0 2) (AV.int 1))) ∧
        ((AV.isBool (AV.bin Go.BinOp.gtr (AV.cel x0 2) (AV.int 60000))) ∧
        (((isT (AV.bin Go.BinOp.gtr (AV.cel x0 2) (AV.int 60000))) →
          ((AV.isBool (AV.bin Go.BinOp.gtr (AV.cel x0 2) (AV.int 60000))) ∧
          ((isT (AV.bin Go.BinOp.gtr (AV.cel x0 2) (AV.int 60000))) ∧
          ((AV.flat (AV.int 4)) ∧
          (fSame (AV.int 4) r))))) ∧
        ((isF (AV.bin Go.BinOp.gtr (AV.cel x0 2) (AV.int 60000))) →
          ((fEnt Tryd.prog 29) ∧
          (fAllV fun _ => ((AV.binOk Go.BinOp.lss (AV.cel x0 3) (AV.int 1)) ∧
          ((AV.isBool (AV.bin Go.BinOp.lss (AV.cel x0 3) (AV.int 1))) ∧
          (((isT (AV.bin Go.BinOp.lss (AV.cel x0 3) (AV.int 1))) →
            ((AV.isBool (AV.bin Go.BinOp.lss (AV.cel x0 3) (AV.int 1))) ∧
            ((isT (AV.bin Go.BinOp.lss (AV.cel x0 3) (AV.int 1))) ∧
            ((AV.isBool (AV.bin Go.BinOp.gtr (AV.cel x0 2) (AV.int 60000))) ∧
            ((isF (AV.bin Go.BinOp.gtr (AV.cel x0 2) (AV.int 60000))) ∧
            ((AV.flat (AV.int 4)) ∧
            (fSame (AV.int 4) r))))))) ∧
          ((isF (AV.bin Go.BinOp.lss (AV.cel x0 3) (AV.int 1))) →
            ((AV.binOk Go.BinOp.gtr (AV.cel x0 3) (AV.int 200)) ∧
            ((AV.isBool (AV.bin Go.BinOp.lss (AV.cel x0 3) (AV.int 1))) ∧
            ((isF (AV.bin Go.BinOp.lss (AV.cel x0 3) (AV.int 1))) ∧
            ((AV.isBool (AV.bin Go.BinOp.gtr (AV.cel x0 2) (AV.int 60000))) ∧
            ((isF (AV.bin Go.BinOp.gtr (AV.cel x0 2) (AV.int 60000))) ∧
            ((AV.isBool (AV.bin Go.BinOp.gtr (AV.cel x0 3) (AV.int 200))) ∧
            (((isT (AV.bin Go.BinOp.gtr (AV.cel x0 3) (AV.int 200))) →
              ((AV.isBool (AV.bin Go.BinOp.gtr (AV.cel x0 3) (AV.int 200))) ∧
              ((isT (AV.bin Go.BinOp.gtr (AV.cel x0 3) (AV.int 200))) ∧
              ((AV.flat (AV.int 4)) ∧
              (fSame (AV.int 4) r))))) ∧
            ((isF (AV.bin Go.BinOp.gtr (AV.cel x0 3) (AV.int 200))) →
              ((fEnt Tryd.prog 29) ∧
              (fAllV fun _ => ((AV.binOk Go.BinOp.lss (AV.cel x0 4) (AV.int 1)) ∧
              ((AV.isBool (AV.bin Go.BinOp.lss (AV.cel x0 4) (AV.int 1))) ∧
              (((isT (AV.bin Go.BinOp.lss (AV.cel x0 4) (AV.int 1))) →
                ((AV.isBool (AV.bin Go.BinOp.lss (AV.cel x0 4) (AV.int 1))) ∧
                ((isT (AV.bin Go.BinOp.lss (AV.cel x0 4) (AV.int 1))) ∧
                ((AV.isBool (AV.bin Go.BinOp.gtr (AV.cel x0 3) (AV.int 200))) ∧
                ((isF (AV.bin Go.BinOp.gtr (AV.cel x0 3) (AV.int 200))) ∧
                ((AV.flat (AV.int 4)) ∧
                (fSame (AV.int 4) r))))))) ∧
              ((isF (AV.bin Go.BinOp.lss (AV.cel x0 4) (AV.int 1))) →
                ((AV.binOk Go.BinOp.gtr (AV.cel x0 4) (AV.int 200)) ∧
                ((AV.isBool (AV.bin Go.BinOp.lss (AV.cel x0 4) (AV.int 1))) ∧
                ((isF (AV.bin Go.BinOp.lss (AV.cel x0 4) (AV.int 1))) ∧
                ((AV.isBool (AV.bin Go.BinOp.gtr (AV.cel x0 3) (AV.int 200))) ∧
                ((isF (AV.bin Go.BinOp.gtr (AV.cel x0 3) (AV.int 200))) ∧
                ((AV.isBool (AV.bin Go.BinOp.gtr (AV.cel x0 4) (AV.int 200))) ∧
                (((isT (AV.bin Go.BinOp.gtr (AV.cel x0 4) (AV.int 200))) →
                  ((AV.isBool (AV.bin Go.BinOp.gtr (AV.cel x0 4) (AV.int 200))) ∧
                  ((isT (AV.bin Go.BinOp.gtr (AV.cel x0 4) (AV.int 200))) ∧
                  ((AV.flat (AV.int 4)) ∧
                  (fSame (AV.int 4) r))))) ∧
                ((isF (AV.bin Go.BinOp.gtr (AV.cel x0 4) (AV.int 200))) →
                  ((fEnt Tryd.prog 29) ∧
                  (fAllV fun _ => ((AV.binOk Go.BinOp.lss (AV.cel x0 5) (AV.int 1)) ∧
                  ((AV.isBool (AV.bin Go.BinOp.lss (AV.cel x0 5) (AV.int 1))) ∧
                  (((isT (AV.bin Go.BinOp.lss (AV.cel x0 5) (AV.int 1))) →
                    ((AV.isBool (AV.bin Go.BinOp.lss (AV.cel x0 5) (AV.int 1))) ∧
                    ((isT (AV.bin Go.BinOp.lss (AV.cel x0 5) (AV.int 1))) ∧
                    ((AV.isBool (AV.bin Go.BinOp.gtr (AV.cel x0 4) (AV.int 200))) ∧
                    ((isF (AV.bin Go.BinOp.gtr (AV.cel x0 4) (AV.int 200))) ∧
                    ((AV.flat (AV.int 4)) ∧
                    (fSame (AV.int 4) r))))))) ∧
                  ((isF (AV.bin Go.BinOp.lss (AV.cel x0 5) (AV.int 1))) →
                    ((AV.binOk Go.BinOp.gtr (AV.cel x0 5) (AV.int 400)) ∧
                    ((AV.isBool (AV.bin Go.BinOp.lss (AV.cel x0 5) (AV.int 1))) ∧
                    ((isF (AV.bin Go.BinOp.lss (AV.cel x0 5) (AV.int 1))) ∧
                    ((AV.isBool (AV.bin Go.BinOp.gtr (AV.cel x0 4) (AV.int 200))) ∧
                    ((isF (AV.bin Go.BinOp.gtr (AV.cel x0 4) (AV.int 200))) ∧
                    ((AV.isBool (AV.bin Go.BinOp.gtr (AV.cel x0 5) (AV.int 400))) ∧
                    (((isT (AV.bin Go.BinOp.gtr (AV.cel x0 5) (AV.int 400))) →
                      ((AV.isBool (AV.bin Go.BinOp.gtr (AV.cel x0 5) (AV.int 400))) ∧
                      ((isT (AV.bin Go.BinOp.gtr (AV.cel x0 5) (AV.int 400))) ∧
                      ((AV.flat (AV.int 4)) ∧
                      (fSame (AV.int 4) r))))) ∧
                    ((isF (AV.bin Go.BinOp.gtr (AV.cel x0 5) (AV.int 400))) →
                      ((fEnt Tryd.prog 29) ∧
                      (fAllV fun _ => ((AV.binOk Go.BinOp.lss (AV.cel x0 6) (AV.int 1)) ∧
                      ((AV.isBool (AV.bin Go.BinOp.lss (AV.cel x0 6) (AV.int 1))) ∧
                      (((isT (AV.bin Go.BinOp.lss (AV.cel x0 6) (AV.int 1))) →
                        ((AV.isBool (AV.bin Go.BinOp.lss (AV.cel x0 6) (AV.int 1))) ∧
                        ((isT (AV.bin Go.BinOp.lss (AV.cel x0 6) (AV.int 1))) ∧
                        ((AV.isBool (AV.bin Go.BinOp.gtr (AV.cel x0 5) (AV.int 400))) ∧
                        ((isF (AV.bin Go.BinOp.gtr (AV.cel x0 5) (AV.int 400))) ∧
                        ((AV.flat (AV.int 4)) ∧
                        (fSame (AV.int 4) r))))))) ∧
                      ((isF (AV.bin Go.BinOp.lss (AV.cel x0 6) (AV.int 1))) →
                        ((AV.binOk Go.BinOp.gtr (AV.cel x0 6) (AV.int 400)) ∧
                        ((AV.isBool (AV.bin Go.BinOp.lss (AV.cel x0 6) (AV.int 1))) ∧
                        ((isF (AV.bin Go.BinOp.lss (AV.cel x0 6) (AV.int 1))) ∧
                        ((AV.isBool (AV.bin Go.BinOp.gtr (AV.cel x0 5) (AV.int 400))) ∧
                        ((isF (AV.bin Go.BinOp.gtr (AV.cel x0 5) (AV.int 400))) ∧
                        ((AV.isBool (AV.bin Go.BinOp.gtr (AV.cel x0 6) (AV.int 400))) ∧
                        (((isT (AV.bin Go.BinOp.gtr (AV.cel x0 6) (AV.int 400))) →
                          ((AV.flat (AV.int 4)) ∧
                          (fSame (AV.int 4) r))) ∧
                        ((isF (AV.bin Go.BinOp.gtr (AV.cel x0 6) (AV.int 400))) →
                          ((AV.binOk Go.BinOp.gtr (AV.cel x0 5) (AV.cel x0 6)) ∧
                          ((AV.isBool (AV.bin Go.BinOp.gtr (AV.cel x0 5) (AV.cel x0 6))) ∧
                          (((isT (AV.bin Go.BinOp.gtr (AV.cel x0 5) (AV.cel x0 6))) →
                            ((AV.flat (AV.int 3)) ∧
                            (fSame (AV.int 3) r))) ∧
                          ((isF (AV.bin Go.BinOp.gtr (AV.cel x0 5) (AV.cel x0 6))) →
                            ((AV.flat (AV.int 0)) ∧
                            (fSame (AV.int 0) r)))))))))))))))))))))))))))))))))))))))))))))))))))))))))))))))))))))))))))))))))))))))))))) := by kernel_rfl
theorem climb_form (x0 x1 x2 r : AV) : fnF Tryd.prog Γ ann 3 50 Tryd.f50 (Tryd.f50.body.getD .skip) (.nil) [x0, x1, x2] (.tup [.sc, .sc]) r = (((AV.isAgg x0 7) ∧
(∃ r257 : AV, ((Fn Tryd.prog 18 [(AV.agg [(AV.cel x0 0), (AV.cel x0 1), (AV.cel x0 2), (AV.cel x0 3), (AV.cel x0 4), (AV.cel x0 5), (AV.cel x0 6)])] Sh.sc r257) ∧
((AV.binOk Go.BinOp.neq r257 (AV.int 0)) ∧
((AV.isBool (AV.bin Go.BinOp.neq r257 (AV.int 0))) ∧
(((isT (AV.bin Go.BinOp.neq r257 (AV.int 0))) →
  ((AV.flat (AV.int 0)) ∧
  ((AV.flat r257) ∧
  (fSame (AV.tup [(AV.int 0), r257]) r)))) ∧
((isF (AV.bin Go.BinOp.neq r257 (AV.int 0))) →
  ((AV.binOk Go.BinOp.lss x1 (AV.int 0)) ∧
  ((AV.isBool (AV.bin Go.BinOp.lss x1 (AV.int 0))) ∧
  (((isT (AV.bin Go.BinOp.lss x1 (AV.int 0))) →
    ((AV.isBool (AV.bin Go.BinOp.lss x1 (AV.int 0))) ∧
    ((isT (AV.bin Go.BinOp.lss x1 (AV.int 0))) ∧
    ((AV.flat (AV.int 0)) ∧
    ((AV.flat (AV.int 4)) ∧
    (fSame (AV.tup [(AV.int 0), (AV.int 4)]) r)))))) ∧
  ((isF (AV.bin Go.BinOp.lss x1 (AV.int 0))) →
    ((AV.binOk Go.BinOp.gtr x1 (AV.int 60000)) ∧
    ((AV.isBool (AV.bin Go.BinOp.lss x1 (AV.int 0))) ∧
    ((isF (AV.bin Go.BinOp.lss x1 (AV.int 0))) ∧
    ((AV.isBool (AV.bin Go.BinOp.gtr x1 (AV.int 60000))) ∧
    (((isT (AV.bin Go.BinOp.gtr x1 (AV.int 60000))) →
      ((AV.isBool (AV.bin Go.BinOp.gtr x1 (AV.int 60000))) ∧
      ((isT (AV.bin Go.BinOp.gtr x1 (AV.int 60000))) ∧
      ((AV.flat (AV.int 0)) ∧
      ((AV.flat (AV.int 4)) ∧
      (fSame (AV.tup [(AV.int 0), (AV.int 4)]) r)))))) ∧
    ((isF (AV.bin Go.BinOp.gtr x1 (AV.int 60000))) →
      ((AV.binOk Go.BinOp.lss x2 (AV.int 0)) ∧
      ((AV.isBool (AV.bin Go.BinOp.gtr x1 (AV.int 60000))) ∧
      ((isF (AV.bin Go.BinOp.gtr x1 (AV.int 60000))) ∧
      ((AV.isBool (AV.bin Go.BinOp.lss x2 (AV.int 0))) ∧
      (((isT (AV.bin Go.BinOp.lss x2 (AV.int 0))) →
        ((AV.isBool (AV.bin Go.BinOp.lss x2 (AV.int 0))) ∧
        ((isT (AV.bin Go.BinOp.lss x2 (AV.int 0))) ∧
        ((AV.flat (AV.int 0)) ∧
        ((AV.flat (AV.int 4)) ∧
        (fSame (AV.tup [(AV.int 0), (AV.int 4)]) r)))))) ∧
      ((isF (AV.bin Go.BinOp.lss x2 (AV.int 0))) →
        ((AV.binOk Go.BinOp.gtr x2 (AV.int 60000)) ∧
        ((AV.isBool (AV.bin Go.BinOp.lss x2 (AV.int 0))) ∧
        ((isF (AV.bin Go.BinOp.lss x2 (AV.int 0))) ∧
        ((AV.isBool (AV.bin Go.BinOp.gtr x2 (AV.int 60000))) ∧
        (((isT (AV.bin Go.BinOp.gtr x2 (AV.int 60000))) →
          ((AV.flat (AV.int 0)) ∧
          ((AV.flat (AV.int 4)) ∧
          (fSame (AV.tup [(AV.int 0), (AV.int 4)]) r)))) ∧
        ((isF (AV.bin Go.BinOp.gtr x2 (AV.int 60000))) →
          ((AV.binOk Go.BinOp.gtr x1 (AV.cel x0 2)) ∧
          ((AV.isBool (AV.bin Go.BinOp.gtr x1 (AV.cel x0 2))) ∧
          (((isT (AV.bin Go.BinOp.gtr x1 (AV.cel x0 2))) →
            ((AV.isBool (AV.bin Go.BinOp.gtr x1 (AV.cel x0 2))) ∧
            ((isT (AV.bin Go.BinOp.gtr x1 (AV.cel x0 2))) ∧
            ((AV.flat (AV.int 0)) ∧
            ((AV.flat (AV.int 20)) ∧
            (fSame (AV.tup [(AV.int 0), (AV.int 20)]) r)))))) ∧
          ((isF (AV.bin Go.BinOp.gtr x1 (AV.cel x0 2))) →
            ((AV.binOk Go.BinOp.gtr x2 (AV.cel x0 2)) ∧
            ((AV.isBool (AV.bin Go.BinOp.gtr x1 (AV.cel x0 2))) ∧
            ((isF (AV.bin Go.BinOp.gtr x1 (AV.cel x0 2))) ∧
            ((AV.isBool (AV.bin Go.BinOp.gtr x2 (AV.cel x0 2))) ∧
            (((isT (AV.bin Go.BinOp.gtr x2 (AV.cel x0 2))) →
              ((AV.flat (AV.int 0)) ∧
              ((AV.flat (AV.int 20)) ∧
              (fSame (AV.tup [(AV.int 0), (AV.int 20)]) r)))) ∧
            ((isF (AV.bin Go.BinOp.gtr x2 (AV.cel x0 2))) →
              ((AV.binOk Go.BinOp.geq x2 x1) ∧
              ((AV.isBool (AV.bin Go.BinOp.geq x2 x1)) ∧
              (((isT (AV.bin Go.BinOp.geq x2 x1)) →
                ((AV.binOk Go.BinOp.sub x2 x1) ∧
                (∃ r2753 : AV, ((Fn Tryd.prog 49 [(AV.bin Go.BinOp.sub x2 x1), (AV.cel x0 3)] (Sh.tup [Sh.sc, Sh.sc]) r2753) ∧
                ((AV.flat (AV.prj r2753 0)) ∧
                ((AV.flat (AV.prj r2753 1)) ∧
                (fSame (AV.tup [(AV.prj r2753 0), (AV.prj r2753 1)]) r))))))) ∧
              ((isF (AV.bin Go.BinOp.geq x2 x1)) →
                ((AV.binOk Go.BinOp.sub x1 x2) ∧
                (∃ r2753 : AV, ((Fn Tryd.prog 49 [(AV.bin Go.BinOp.sub x1 x2), (AV.cel x0 4)] (Sh.tup [Sh.sc, Sh.sc]) r2753) ∧
                ((AV.flat (AV.prj r2753 0)) ∧
                ((AV.flat (AV.prj r2753 1)) ∧
                (fSame (AV.tup [(AV.prj r2753 0), (AV.prj r2753 1)]) r)))))))))))))))))))))))))))))))))))))))))))))))))) := by kernel_rfl
theorem level_form ( r : AV) : fnF Tryd.prog Γ ann 3 9 Tryd.f9 (Tryd.f9.body.getD .skip) (.nil) [] (.row 39 6 true) r = (((AV.flatS (AV.mk 6 [[(AV.int 0), (AV.int 0), (AV.int 0), (AV.int 9000), (AV.int 100), (AV.int 50)], [(AV.int 100), (AV.int 10000), (AV.int 0), (AV.int 9000), (AV.int 100), (AV.int 50)]])) ∧
(fSame (AV.mk 6 [[(AV.int 0), (AV.int 0), (AV.int 0), (AV.int 9000), (AV.int 100), (AV.int 50)], [(AV.int 100), (AV.int 10000), (AV.int 0), (AV.int 9000), (AV.int 100), (AV.int 50)]]) r))) := by kernel_rfl
theorem climbed_form (x0 r : AV) : fnF Tryd.prog Γ ann 3 10 Tryd.f10 (Tryd.f10.body.getD .skip) (.nil) [x0] (.sc) r = (((AV.isOne x0) ∧
((AV.flat (AV.agg [(AV.lit (Value.string ⟨#[65, 49]⟩)), (AV.int 0), x0, (AV.lit (Value.string ⟨#[]⟩))])) ∧
(fSame (AV.agg [(AV.lit (Value.string ⟨#[65, 49]⟩)), (AV.int 0), x0, (AV.lit (Value.string ⟨#[]⟩))]) r)))) := by kernel_rfl
theorem jet_form ( r : AV) : fnF Tryd.prog Γ ann 3 11 Tryd.f11 (Tryd.f11.body.getD .skip) (.nil) [] (.sc) r = (((AV.flat (AV.agg [(AV.lit (Value.string ⟨#[74, 69, 84]⟩)), (AV.int 1), (AV.int 40000), (AV.int 50), (AV.int 40), (AV.int 50), (AV.int 300)])) ∧
(fSame (AV.agg [(AV.lit (Value.string ⟨#[74, 69, 84]⟩)), (AV.int 1), (AV.int 40000), (AV.int 50), (AV.int 40), (AV.int 50), (AV.int 300)]) r))) := by kernel_rfl
theorem efact_form ( r : AV) : fnF Tryd.prog Γ ann 3 4 Tryd.f4 (Tryd.f4.body.getD .skip) ((.t (.t (.t (.t (.t (.t (.t (.t .nil))))))))) [] (.sc) r = ((∃ r65 : AV, ((Fn Tryd.prog 9 [] (Sh.row 39 6 true) r65) ∧
(∃ r129 : AV, ((Fn Tryd.prog 10 [(AV.int 9500)] Sh.sc r129) ∧
(∃ r193 : AV, ((Fn Tryd.prog 11 [] Sh.sc r193) ∧
(∃ r321 : AV, ((Fn Tryd.prog 5 [r65, r129, (AV.int 0), r193, (AV.agg [(AV.int 0), (AV.int 0)])] (Sh.tup [(Sh.row 39 6 true), Sh.sc]) r321) ∧
(∃ r705 : AV, ((Fn Tryd.prog 9 [] (Sh.row 39 6 true) r705) ∧
(∃ r833 : AV, ((Fn Tryd.prog 12 [r705, (AV.prj r321 0)] (Sh.tup [Sh.sc, Sh.sc]) r833) ∧
((AV.binOk Go.BinOp.eql (AV.prj r321 1) (AV.int 0)) ∧
((AV.isBool (AV.bin Go.BinOp.eql (AV.prj r321 1) (AV.int 0))) ∧
((isT (AV.bin Go.BinOp.eql (AV.prj r321 1) (AV.int 0))) ∧
((AV.binOk Go.BinOp.eql (AV.prj r833 1) (AV.int 0)) ∧
((AV.isBool (AV.bin Go.BinOp.eql (AV.prj r321 1) (AV.int 0))) ∧
((isT (AV.bin Go.BinOp.eql (AV.prj r321 1) (AV.int 0))) ∧
((AV.isBool (AV.bin Go.BinOp.eql (AV.prj r833 1) (AV.int 0))) ∧
((isT (AV.bin Go.BinOp.eql (AV.prj r833 1) (AV.int 0))) ∧
((AV.binOk Go.BinOp.eql (AV.len (AV.prj r321 0)) (AV.int 3)) ∧
((AV.isBool (AV.bin Go.BinOp.eql (AV.prj r833 1) (AV.int 0))) ∧
((isT (AV.bin Go.BinOp.eql (AV.prj r833 1) (AV.int 0))) ∧
((AV.isBool (AV.bin Go.BinOp.eql (AV.len (AV.prj r321 0)) (AV.int 3))) ∧
((isT (AV.bin Go.BinOp.eql (AV.len (AV.prj r321 0)) (AV.int 3))) ∧
((AV.inb (AV.prj r321 0) (AV.int 1)) ∧
((AV.inb (AV.prj r321 0) (AV.int 1)) ∧
((AV.binOk Go.BinOp.eql (AV.at (AV.prj r321 0) (AV.int 1) 0) (AV.int 10)) ∧
((AV.isBool (AV.bin Go.BinOp.eql (AV.len (AV.prj r321 0)) (AV.int 3))) ∧
((isT (AV.bin Go.BinOp.eql (AV.len (AV.prj r321 0)) (AV.int 3))) ∧
((AV.isBool (AV.bin Go.BinOp.eql (AV.at (AV.prj r321 0) (AV.int 1) 0) (AV.int 10))) ∧
((isT (AV.bin Go.BinOp.eql (AV.at (AV.prj r321 0) (AV.int 1) 0) (AV.int 10))) ∧
((AV.inb (AV.prj r321 0) (AV.int 1)) ∧
((AV.inb (AV.prj r321 0) (AV.int 1)) ∧
((AV.binOk Go.BinOp.eql (AV.at (AV.prj r321 0) (AV.int 1) 3) (AV.int 9500)) ∧
((AV.isBool (AV.bin Go.BinOp.eql (AV.at (AV.prj r321 0) (AV.int 1) 0) (AV.int 10))) ∧
((isT (AV.bin Go.BinOp.eql (AV.at (AV.prj r321 0) (AV.int 1) 0) (AV.int 10))) ∧
((AV.isBool (AV.bin Go.BinOp.eql (AV.at (AV.prj r321 0) (AV.int 1) 3) (AV.int 9500))) ∧
((isT (AV.bin Go.BinOp.eql (AV.at (AV.prj r321 0) (AV.int 1) 3) (AV.int 9500))) ∧
((AV.inb (AV.prj r321 0) (AV.int 1)) ∧
((AV.inb (AV.prj r321 0) (AV.int 1)) ∧
((AV.binOk Go.BinOp.eql (AV.at (AV.prj r321 0) (AV.int 1) 1) (AV.int 1000)) ∧
((AV.isBool (AV.bin Go.BinOp.eql (AV.at (AV.prj r321 0) (AV.int 1) 3) (AV.int 9500))) ∧
((isT (AV.bin Go.BinOp.eql (AV.at (AV.prj r321 0) (AV.int 1) 3) (AV.int 9500))) ∧
((AV.isBool (AV.bin Go.BinOp.eql (AV.at (AV.prj r321 0) (AV.int 1) 1) (AV.int 1000))) ∧
((isT (AV.bin Go.BinOp.eql (AV.at (AV.prj r321 0) (AV.int 1) 1) (AV.int 1000))) ∧
((AV.inb (AV.prj r321 0) (AV.int 2)) ∧
((AV.inb (AV.prj r321 0) (AV.int 2)) ∧
((AV.binOk Go.BinOp.eql (AV.at (AV.prj r321 0) (AV.int 2) 3) (AV.int 9500)) ∧
((AV.isBool (AV.bin Go.BinOp.eql (AV.at (AV.prj r321 0) (AV.int 1) 1) (AV.int 1000))) ∧
((isT (AV.bin Go.BinOp.eql (AV.at (AV.prj r321 0) (AV.int 1) 1) (AV.int 1000))) ∧
((AV.isBool (AV.bin Go.BinOp.eql (AV.at (AV.prj r321 0) (AV.int 2) 3) (AV.int 9500))) ∧
((isT (AV.bin Go.BinOp.eql (AV.at (AV.prj r321 0) (AV.int 2) 3) (AV.int 9500))) ∧
((AV.inb (AV.prj r321 0) (AV.int 1)) ∧
((AV.inb (AV.prj r321 0) (AV.int 1)) ∧
((AV.binOk Go.BinOp.eql (AV.at (AV.prj r321 0) (AV.int 1) 4) (AV.int 100)) ∧
((AV.isBool (AV.bin Go.BinOp.eql (AV.at (AV.prj r321 0) (AV.int 2) 3) (AV.int 9500))) ∧
((isT (AV.bin Go.BinOp.eql (AV.at (AV.prj r321 0) (AV.int 2) 3) (AV.int 9500))) ∧
((AV.isBool (AV.bin Go.BinOp.eql (AV.at (AV.prj r321 0) (AV.int 1) 4) (AV.int 100))) ∧
((isT (AV.bin Go.BinOp.eql (AV.at (AV.prj r321 0) (AV.int 1) 4) (AV.int 100))) ∧
((AV.binOk Go.BinOp.eql (AV.prj r833 0) (AV.int 1)) ∧
((AV.isBool (AV.bin Go.BinOp.eql (AV.at (AV.prj r321 0) (AV.int 1) 4) (AV.int 100))) ∧
((isT (AV.bin Go.BinOp.eql (AV.at (AV.prj r321 0) (AV.int 1) 4) (AV.int 100))) ∧
((AV.flat (AV.bin Go.BinOp.eql (AV.prj r833 0) (AV.int 1))) ∧
(fSame (AV.bin Go.BinOp.eql (AV.prj r833 0) (AV.int 1)) r)))))))))))))))))))))))))))))))))))))))))))))))))))))))))))))))))) := by kernel_rfl
theorem differs_form (x0 x1 r : AV) : fnF Tryd.prog Γ ann 3 12 Tryd.f12 (Tryd.f12.body.getD .skip) (.nil) [x0, x1] (.tup [.sc, .sc]) r = (((AV.isOne x0) ∧
((AV.isOne x1) ∧
(fLoop 449 [(AV.int 0)] fun ys449 again449 =>
  ((AV.binOk Go.BinOp.lss (ys449.getD 0 default) (AV.len (AV.mk 1 [[x0], [x1]]))) ∧
  ((AV.isBool (AV.bin Go.BinOp.lss (ys449.getD 0 default) (AV.len (AV.mk 1 [[x0], [x1]])))) ∧
  (((isT (AV.bin Go.BinOp.lss (ys449.getD 0 default) (AV.len (AV.mk 1 [[x0], [x1]])))) →
    ((AV.inb (AV.mk 1 [[x0], [x1]]) (ys449.getD 0 default)) ∧
    ((AV.inb (AV.mk 1 [[x0], [x1]]) (ys449.getD 0 default)) ∧
    (∃ r769 : AV, ((Fn Tryd.prog 14 [(AV.at (AV.mk 1 [[x0], [x1]]) (ys449.getD 0 default) 0)] Sh.sc r769) ∧
    ((AV.binOk Go.BinOp.neq r769 (AV.int 0)) ∧
    ((AV.isBool (AV.bin Go.BinOp.neq r769 (AV.int 0))) ∧
    (((isT (AV.bin Go.BinOp.neq r769 (AV.int 0))) →
      ((AV.flat (AV.int 0)) ∧
      ((AV.flat r769) ∧
      (fSame (AV.tup [(AV.int 0), r769]) r)))) ∧
    ((isF (AV.bin Go.BinOp.neq r769 (AV.int 0))) →
      ((AV.binOk Go.BinOp.add (ys449.getD 0 default) (AV.int 1)) ∧
      (again449 [(AV.bin Go.BinOp.add (ys449.getD 0 default) (AV.int 1))]))))))))))) ∧
  ((isF (AV.bin Go.BinOp.lss (ys449.getD 0 default) (AV.len (AV.mk 1 [[x0], [x1]])))) →
    ((AV.isSl x0 6) ∧
    ((AV.inb x0 (AV.int 0)) ∧
    ((AV.isSl x1 6) ∧
    ((AV.inb x1 (AV.int 0)) ∧
    ((AV.isInt (AV.at x0 (AV.int 0) 0)) ∧
    ((AV.isInt (AV.at x1 (AV.int 0) 0)) ∧
    ((AV.isSl x0 6) ∧
    ((AV.binOk Go.BinOp.sub (AV.len x0) (AV.int 1)) ∧
    ((AV.isSl x0 6) ∧
    ((AV.inb x0 (AV.bin Go.BinOp.sub (AV.len x0) (AV.int 1))) ∧
    ((AV.isSl x1 6) ∧
    ((AV.binOk Go.BinOp.sub (AV.len x1) (AV.int 1)) ∧
    ((AV.isSl x1 6) ∧
    ((AV.inb x1 (AV.bin Go.BinOp.sub (AV.len x1) (AV.int 1))) ∧
    ((AV.isInt (AV.at x0 (AV.bin Go.BinOp.sub (AV.len x0) (AV.int 1)) 0)) ∧
    ((AV.isInt (AV.at x1 (AV.bin Go.BinOp.sub (AV.len x1) (AV.int 1)) 0)) ∧
    ((AV.binOk Go.BinOp.sub (AV.mx (AV.at x0 (AV.bin Go.BinOp.sub (AV.len x0) (AV.int 1)) 0) (AV.at x1 (AV.bin Go.BinOp.sub (AV.len x1) (AV.int 1)) 0)) (AV.mn (AV.at x0 (AV.int 0) 0) (AV.at x1 (AV.int 0) 0))) ∧
    ((AV.binOk Go.BinOp.gtr (AV.bin Go.BinOp.sub (AV.mx (AV.at x0 (AV.bin Go.BinOp.sub (AV.len x0) (AV.int 1)) 0) (AV.at x1 (AV.bin Go.BinOp.sub (AV.len x1) (AV.int 1)) 0)) (AV.mn (AV.at x0 (AV.int 0) 0) (AV.at x1 (AV.int 0) 0))) (AV.int 20000)) ∧
    ((AV.isBool (AV.bin Go.BinOp.gtr (AV.bin Go.BinOp.sub (AV.mx (AV.at x0 (AV.bin Go.BinOp.sub (AV.len x0) (AV.int 1)) 0) (AV.at x1 (AV.bin Go.BinOp.sub (AV.len x1) (AV.int 1)) 0)) (AV.mn (AV.at x0 (AV.int 0) 0) (AV.at x1 (AV.int 0) 0))) (AV.int 20000))) ∧
    (((isT (AV.bin Go.BinOp.gtr (AV.bin Go.BinOp.sub (AV.mx (AV.at x0 (AV.bin Go.BinOp.sub (AV.len x0) (AV.int 1)) 0) (AV.at x1 (AV.bin Go.BinOp.sub (AV.len x1) (AV.int 1)) 0)) (AV.mn (AV.at x0 (AV.int 0) 0) (AV.at x1 (AV.int 0) 0))) (AV.int 20000))) →
      ((AV.flat (AV.int 0)) ∧
      ((AV.flat (AV.int 2)) ∧
      (fSame (AV.tup [(AV.int 0), (AV.int 2)]) r)))) ∧
    ((isF (AV.bin Go.BinOp.gtr (AV.bin Go.BinOp.sub (AV.mx (AV.at x0 (AV.bin Go.BinOp.sub (AV.len x0) (AV.int 1)) 0) (AV.at x1 (AV.bin Go.BinOp.sub (AV.len x1) (AV.int 1)) 0)) (AV.mn (AV.at x0 (AV.int 0) 0) (AV.at x1 (AV.int 0) 0))) (AV.int 20000))) →
      (fLoop 2817 [(AV.mn (AV.at x0 (AV.int 0) 0) (AV.at x1 (AV.int 0) 0))] fun ys2817 again2817 =>
        ((AV.binOk Go.BinOp.leq (ys2817.getD 0 default) (AV.mx (AV.at x0 (AV.bin Go.BinOp.sub (AV.len x0) (AV.int 1)) 0) (AV.at x1 (AV.bin Go.BinOp.sub (AV.len x1) (AV.int 1)) 0))) ∧
        ((AV.isBool (AV.bin Go.BinOp.leq (ys2817.getD 0 default) (AV.mx (AV.at x0 (AV.bin Go.BinOp.sub (AV.len x0) (AV.int 1)) 0) (AV.at x1 (AV.bin Go.BinOp.sub (AV.len x1) (AV.int 1)) 0)))) ∧
        (((isT (AV.bin Go.BinOp.leq (ys2817.getD 0 default) (AV.mx (AV.at x0 (AV.bin Go.BinOp.sub (AV.len x0) (AV.int 1)) 0) (AV.at x1 (AV.bin Go.BinOp.sub (AV.len x1) (AV.int 1)) 0)))) →
          (∃ r3137 : AV, ((Fn Tryd.prog 21 [x0, (ys2817.getD 0 default)] (Sh.tup [Sh.sc, Sh.sc]) r3137) ∧
          ((AV.isAgg (AV.prj r3137 0) 6) ∧
          (∃ r3713 : AV, ((Fn Tryd.prog 21 [x1, (ys2817.getD 0 default)] (Sh.tup [Sh.sc, Sh.sc]) r3713) ∧
          ((AV.isAgg (AV.prj r3713 0) 6) ∧
          ((AV.binOk Go.BinOp.neq (AV.prj r3137 1) (AV.prj r3713 1)) ∧
          ((AV.isBool (AV.bin Go.BinOp.neq (AV.prj r3137 1) (AV.prj r3713 1))) ∧
          (((isT (AV.bin Go.BinOp.neq (AV.prj r3137 1) (AV.prj r3713 1))) →
            ((AV.isBool (AV.bin Go.BinOp.neq (AV.prj r3137 1) (AV.prj r3713 1))) ∧
            ((isT (AV.bin Go.BinOp.neq (AV.prj r3137 1) (AV.prj r3713 1))) ∧
            ((AV.flat (ys2817.getD 0 default)) ∧
            ((AV.flat (AV.int 0)) ∧
            (fSame (AV.tup [(ys2817.getD 0 default), (AV.int 0)]) r)))))) ∧
          ((isF (AV.bin Go.BinOp.neq (AV.prj r3137 1) (AV.prj r3713 1))) →
            ((AV.eqPlOk [(0, (EK.int Go.IntKind.i64)), (1, (EK.int Go.IntKind.i64))] [(AV.cel (AV.prj r3137 0) 1), (AV.cel (AV.prj r3137 0) 2)] [(AV.cel (AV.prj r3713 0) 1), (AV.cel (AV.prj r3713 0) 2)]) ∧
            ((AV.isBool (AV.bin Go.BinOp.neq (AV.prj r3137 1) (AV.prj r3713 1))) ∧
            ((isF (AV.bin Go.BinOp.neq (AV.prj r3137 1) (AV.prj r3713 1))) ∧
            ((AV.isBool (AV.nePl [(0, (EK.int Go.IntKind.i64)), (1, (EK.int Go.IntKind.i64))] [(AV.cel (AV.prj r3137 0) 1), (AV.cel (AV.prj r3137 0) 2)] [(AV.cel (AV.prj r3713 0) 1), (AV.cel (AV.prj r3713 0) 2)])) ∧
            (((isT (AV.nePl [(0, (EK.int Go.IntKind.i64)), (1, (EK.int Go.IntKind.i64))] [(AV.cel (AV.prj r3137 0) 1), (AV.cel (AV.prj r3137 0) 2)] [(AV.cel (AV.prj r3713 0) 1), (AV.cel (AV.prj r3713 0) 2)])) →
              ((AV.isBool (AV.nePl [(0, (EK.int Go.IntKind.i64)), (1, (EK.int Go.IntKind.i64))] [(AV.cel (AV.prj r3137 0) 1), (AV.cel (AV.prj r3137 0) 2)] [(AV.cel (AV.prj r3713 0) 1), (AV.cel (AV.prj r3713 0) 2)])) ∧
              ((isT (AV.nePl [(0, (EK.int Go.IntKind.i64)), (1, (EK.int Go.IntKind.i64))] [(AV.cel (AV.prj r3137 0) 1), (AV.cel (AV.prj r3137 0) 2)] [(AV.cel (AV.prj r3713 0) 1), (AV.cel (AV.prj r3713 0) 2)])) ∧
              ((AV.flat (ys2817.getD 0 default)) ∧
              ((AV.flat (AV.int 0)) ∧
              (fSame (AV.tup [(ys2817.getD 0 default), (AV.int 0)]) r)))))) ∧
            ((isF (AV.nePl [(0, (EK.int Go.IntKind.i64)), (1, (EK.int Go.IntKind.i64))] [(AV.cel (AV.prj r3137 0) 1), (AV.cel (AV.prj r3137 0) 2)] [(AV.cel (AV.prj r3713 0) 1), (AV.cel (AV.prj r3713 0) 2)])) →
              ((AV.binOk Go.BinOp.neq (AV.cel (AV.prj r3137 0) 3) (AV.cel (AV.prj r3713 0) 3)) ∧
              ((AV.isBool (AV.nePl [(0, (EK.int Go.IntKind.i64)), (1, (EK.int Go.IntKind.i64))] [(AV.cel (AV.prj r3137 0) 1), (AV.cel (AV.prj r3137 0) 2)] [(AV.cel (AV.prj r3713 0) 1), (AV.cel (AV.prj r3713 0) 2)])) ∧
              ((isF (AV.nePl [(0, (EK.int Go.IntKind.i64)), (1, (EK.int Go.IntKind.i64))] [(AV.cel (AV.prj r3137 0) 1), (AV.cel (AV.prj r3137 0) 2)] [(AV.cel (AV.prj r3713 0) 1), (AV.cel (AV.prj r3713 0) 2)])) ∧
              ((AV.isBool (AV.bin Go.BinOp.neq (AV.cel (AV.prj r3137 0) 3) (AV.cel (AV.prj r3713 0) 3))) ∧
              (((isT (AV.bin Go.BinOp.neq (AV.cel (AV.prj r3137 0) 3) (AV.cel (AV.prj r3713 0) 3))) →
                ((AV.flat (ys2817.getD 0 default)) ∧
                ((AV.flat (AV.int 0)) ∧
                (fSame (AV.tup [(ys2817.getD 0 default), (AV.int 0)]) r)))) ∧
              ((isF (AV.bin Go.BinOp.neq (AV.cel (AV.prj r3137 0) 3) (AV.cel (AV.prj r3713 0) 3))) →
                ((AV.binOk Go.BinOp.add (ys2817.getD 0 default) (AV.int 1)) ∧
                (again2817 [(AV.bin Go.BinOp.add (ys2817.getD 0 default) (AV.int 1))]))))))))))))))))))))))))) ∧
        ((isF (AV.bin Go.BinOp.leq (ys2817.getD 0 default) (AV.mx (AV.at x0 (AV.bin Go.BinOp.sub (AV.len x0) (AV.int 1)) 0) (AV.at x1 (AV.bin Go.BinOp.sub (AV.len x1) (AV.int 1)) 0)))) →
          ((AV.flat (AV.int 0)) ∧
          ((AV.flat (AV.int 8)) ∧
          (fSame (AV.tup [(AV.int 0), (AV.int 8)]) r))))))))))))))))))))))))))))))))))))) := by kernel_rfl
theorem of1_form (x0 r : AV) : fnF Tryd.prog Γ ann 3 13 Tryd.f13 (Tryd.f13.body.getD .skip) (.nil) [x0] (.sc) r = (((AV.isRef x0 1) ∧
(∃ r129 : AV, ((Fn Tryd.prog 14 [(AV.der x0)] Sh.sc r129) ∧
((AV.flat r129) ∧
(fSame r129 r)))))) := by kernel_rfl
theorem of_form (x0 x1 x2 x3 x4 r : AV) : fnF Tryd.prog Γ ann 3 5 Tryd.f5 (Tryd.f5.body.getD .skip) (.nil) [x0, x1, x2, x3, x4] (.tup [.row 39 6 true, .sc]) r = (((AV.isOne x0) ∧
((AV.isAgg x1 4) ∧
((AV.isAgg x3 7) ∧
((AV.isAgg x4 2) ∧
(fLoop 833 [(AV.int 0)] fun ys833 again833 =>
  ((AV.binOk Go.BinOp.lss (ys833.getD 0 default) (AV.len (AV.mk 1 [[(AV.mkClo 13 [(AV.mkRef [x0])])], [(AV.mkClo 15 [(AV.mkRef [(AV.cel x1 0), (AV.cel x1 1), (AV.cel x1 2), (AV.cel x1 3)])])], [(AV.mkClo 17 [(AV.mkRef [(AV.cel x3 0), (AV.cel x3 1), (AV.cel x3 2), (AV.cel x3 3), (AV.cel x3 4), (AV.cel x3 5), (AV.cel x3 6)])])], [(AV.mkClo 19 [(AV.mkRef [(AV.cel x4 0), (AV.cel x4 1)])])]]))) ∧
  ((AV.isBool (AV.bin Go.BinOp.lss (ys833.getD 0 default) (AV.len (AV.mk 1 [[(AV.mkClo 13 [(AV.mkRef [x0])])], [(AV.mkClo 15 [(AV.mkRef [(AV.cel x1 0), (AV.cel x1 1), (AV.cel x1 2), (AV.cel x1 3)])])], [(AV.mkClo 17 [(AV.mkRef [(AV.cel x3 0), (AV.cel x3 1), (AV.cel x3 2), (AV.cel x3 3), (AV.cel x3 4), (AV.cel x3 5), (AV.cel x3 6)])])], [(AV.mkClo 19 [(AV.mkRef [(AV.cel x4 0), (AV.cel x4 1)])])]])))) ∧
  (((isT (AV.bin Go.BinOp.lss (ys833.getD 0 default) (AV.len (AV.mk 1 [[(AV.mkClo 13 [(AV.mkRef [x0])])], [(AV.mkClo 15 [(AV.mkRef [(AV.cel x1 0), (AV.cel x1 1), (AV.cel x1 2), (AV.cel x1 3)])])], [(AV.mkClo 17 [(AV.mkRef [(AV.cel x3 0), (AV.cel x3 1), (AV.cel x3 2), (AV.cel x3 3), (AV.cel x3 4), (AV.cel x3 5), (AV.cel x3 6)])])], [(AV.mkClo 19 [(AV.mkRef [(AV.cel x4 0), (AV.cel x4 1)])])]])))) →
    ((AV.inb (AV.mk 1 [[(AV.mkClo 13 [(AV.mkRef [x0])])], [(AV.mkClo 15 [(AV.mkRef [(AV.cel x1 0), (AV.cel x1 1), (AV.cel x1 2), (AV.cel x1 3)])])], [(AV.mkClo 17 [(AV.mkRef [(AV.cel x3 0), (AV.cel x3 1), (AV.cel x3 2), (AV.cel x3 3), (AV.cel x3 4), (AV.cel x3 5), (AV.cel x3 6)])])], [(AV.mkClo 19 [(AV.mkRef [(AV.cel x4 0), (AV.cel x4 1)])])]]) (ys833.getD 0 default)) ∧
    ((AV.inb (AV.mk 1 [[(AV.mkClo 13 [(AV.mkRef [x0])])], [(AV.mkClo 15 [(AV.mkRef [(AV.cel x1 0), (AV.cel x1 1), (AV.cel x1 2), (AV.cel x1 3)])])], [(AV.mkClo 17 [(AV.mkRef [(AV.cel x3 0), (AV.cel x3 1), (AV.cel x3 2), (AV.cel x3 3), (AV.cel x3 4), (AV.cel x3 5), (AV.cel x3 6)])])], [(AV.mkClo 19 [(AV.mkRef [(AV.cel x4 0), (AV.cel x4 1)])])]]) (ys833.getD 0 default)) ∧
    (∃ r1153 : AV, ((FnC Tryd.prog (AV.at (AV.mk 1 [[(AV.mkClo 13 [(AV.mkRef [x0])])], [(AV.mkClo 15 [(AV.mkRef [(AV.cel x1 0), (AV.cel x1 1), (AV.cel x1 2), (AV.cel x1 3)])])], [(AV.mkClo 17 [(AV.mkRef [(AV.cel x3 0), (AV.cel x3 1), (AV.cel x3 2), (AV.cel x3 3), (AV.cel x3 4), (AV.cel x3 5), (AV.cel x3 6)])])], [(AV.mkClo 19 [(AV.mkRef [(AV.cel x4 0), (AV.cel x4 1)])])]]) (ys833.getD 0 default) 0) [] Sh.sc r1153) ∧
    ((AV.binOk Go.BinOp.neq r1153 (AV.int 0)) ∧
    ((AV.isBool (AV.bin Go.BinOp.neq r1153 (AV.int 0))) ∧
    (((isT (AV.bin Go.BinOp.neq r1153 (AV.int 0))) →
      ((AV.flatS (AV.mk 6 [])) ∧
      ((AV.flat r1153) ∧
      (fSame (AV.tup [(AV.mk 6 []), r1153]) r)))) ∧
    ((isF (AV.bin Go.BinOp.neq r1153 (AV.int 0))) →
      ((AV.binOk Go.BinOp.add (ys833.getD 0 default) (AV.int 1)) ∧
      (again833 [(AV.bin Go.BinOp.add (ys833.getD 0 default) (AV.int 1))]))))))))))) ∧
  ((isF (AV.bin Go.BinOp.lss (ys833.getD 0 default) (AV.len (AV.mk 1 [[(AV.mkClo 13 [(AV.mkRef [x0])])], [(AV.mkClo 15 [(AV.mkRef [(AV.cel x1 0), (AV.cel x1 1), (AV.cel x1 2), (AV.cel x1 3)])])], [(AV.mkClo 17 [(AV.mkRef [(AV.cel x3 0), (AV.cel x3 1), (AV.cel x3 2), (AV.cel x3 3), (AV.cel x3 4), (AV.cel x3 5), (AV.cel x3 6)])])], [(AV.mkClo 19 [(AV.mkRef [(AV.cel x4 0), (AV.cel x4 1)])])]])))) →
    ((AV.isRef (AV.mkRef [x0]) 1) ∧
    (∃ r1025 : AV, ((Fn Tryd.prog 21 [(AV.der (AV.mkRef [x0])), x2] (Sh.tup [Sh.sc, Sh.sc]) r1025) ∧
    ((AV.isAgg (AV.prj r1025 0) 6) ∧
    ((AV.binOk Go.BinOp.neq (AV.prj r1025 1) (AV.int 0)) ∧
    ((AV.isBool (AV.bin Go.BinOp.neq (AV.prj r1025 1) (AV.int 0))) ∧
    (((isT (AV.bin Go.BinOp.neq (AV.prj r1025 1) (AV.int 0))) →
      ((AV.flatS (AV.mk 6 [])) ∧
      ((AV.flat (AV.prj r1025 1)) ∧
      (fSame (AV.tup [(AV.mk 6 []), (AV.prj r1025 1)]) r)))) ∧
    ((isF (AV.bin Go.BinOp.neq (AV.prj r1025 1) (AV.int 0))) →
      ((AV.isRef (AV.mkRef [(AV.cel x1 0), (AV.cel x1 1), (AV.cel x1 2), (AV.cel x1 3)]) 4) ∧
      ((AV.isRef (AV.mkRef [(AV.cel x3 0), (AV.cel x3 1), (AV.cel x3 2), (AV.cel x3 3), (AV.cel x3 4), (AV.cel x3 5), (AV.cel x3 6)]) 7) ∧
      ((AV.isRef (AV.mkRef [(AV.cel x4 0), (AV.cel x4 1)]) 2) ∧
      ((AV.isRef (AV.mkRef [x0]) 1) ∧
      ((AV.isAgg (AV.derA (AV.mkRef [(AV.cel x1 0), (AV.cel x1 1), (AV.cel x1 2), (AV.cel x1 3)])) 4) ∧
      ((AV.isAgg (AV.derA (AV.mkRef [(AV.cel x3 0), (AV.cel x3 1), (AV.cel x3 2), (AV.cel x3 3), (AV.cel x3 4), (AV.cel x3 5), (AV.cel x3 6)])) 7) ∧
      ((AV.isAgg (AV.derA (AV.mkRef [(AV.cel x4 0), (AV.cel x4 1)])) 2) ∧
      ((AV.isOne (AV.der (AV.mkRef [x0]))) ∧
      ((AV.isRef (AV.mkRef [x0]) 1) ∧
      ((AV.isSl (AV.der (AV.mkRef [x0])) 6) ∧
      (fLoop 2433 [(AV.int 0), (AV.mk 6 []), (AV.mk 6 []), (AV.cel (AV.derA (AV.mkRef [(AV.cel x1 0), (AV.cel x1 1), (AV.cel x1 2), (AV.cel x1 3)])) 0), (AV.cel (AV.derA (AV.mkRef [(AV.cel x1 0), (AV.cel x1 1), (AV.cel x1 2), (AV.cel x1 3)])) 1), (AV.cel (AV.derA (AV.mkRef [(AV.cel x1 0), (AV.cel x1 1), (AV.cel x1 2), (AV.cel x1 3)])) 2), (AV.cel (AV.derA (AV.mkRef [(AV.cel x1 0), (AV.cel x1 1), (AV.cel x1 2), (AV.cel x1 3)])) 3), (AV.cel (AV.prj r1025 0) 0), (AV.cel (AV.prj r1025 0) 1), (AV.cel (AV.prj r1025 0) 2), (AV.cel (AV.prj r1025 0) 3), (AV.cel (AV.prj r1025 0) 4), (AV.cel (AV.prj r1025 0) 5), (AV.cel (AV.derA (AV.mkRef [(AV.cel x3 0), (AV.cel x3 1), (AV.cel x3 2), (AV.cel x3 3), (AV.cel x3 4), (AV.cel x3 5), (AV.cel x3 6)])) 0), (AV.cel (AV.derA (AV.mkRef [(AV.cel x3 0), (AV.cel x3 1), (AV.cel x3 2), (AV.cel x3 3), (AV.cel x3 4), (AV.cel x3 5), (AV.cel x3 6)])) 1), (AV.cel (AV.derA (AV.mkRef [(AV.cel x3 0), (AV.cel x3 1), (AV.cel x3 2), (AV.cel x3 3), (AV.cel x3 4), (AV.cel x3 5), (AV.cel x3 6)])) 2), (AV.cel (AV.derA (AV.mkRef [(AV.cel x3 0), (AV.cel x3 1), (AV.cel x3 2), (AV.cel x3 3), (AV.cel x3 4), (AV.cel x3 5), (AV.cel x3 6)])) 3), (AV.cel (AV.derA (AV.mkRef [(AV.cel x3 0), (AV.cel x3 1), (AV.cel x3 2), (AV.cel x3 3), (AV.cel x3 4), (AV.cel x3 5), (AV.cel x3 6)])) 4), (AV.cel (AV.derA (AV.mkRef [(AV.cel x3 0), (AV.cel x3 1), (AV.cel x3 2), (AV.cel x3 3), (AV.cel x3 4), (AV.cel x3 5), (AV.cel x3 6)])) 5), (AV.cel (AV.derA (AV.mkRef [(AV.cel x3 0), (AV.cel x3 1), (AV.cel x3 2), (AV.cel x3 3), (AV.cel x3 4), (AV.cel x3 5), (AV.cel x3 6)])) 6), (AV.cel (AV.derA (AV.mkRef [(AV.cel x4 0), (AV.cel x4 1)])) 0), (AV.cel (AV.derA (AV.mkRef [(AV.cel x4 0), (AV.cel x4 1)])) 1), (AV.der (AV.mkRef [x0]))] fun ys2433 again2433 =>
        ((AV.binOk Go.BinOp.lss (ys2433.getD 0 default) (AV.len (AV.der (AV.mkRef [x0])))) ∧
        ((AV.isBool (AV.bin Go.BinOp.lss (ys2433.getD 0 default) (AV.len (AV.der (AV.mkRef [x0]))))) ∧
        (((isT (AV.bin Go.BinOp.lss (ys2433.getD 0 default) (AV.len (AV.der (AV.mkRef [x0]))))) →
          ((AV.isSl (AV.der (AV.mkRef [x0])) 6) ∧
          ((AV.inb (AV.der (AV.mkRef [x0])) (ys2433.getD 0 default)) ∧
          ((AV.isAgg (AV.atAgg (AV.der (AV.mkRef [x0])) (ys2433.getD 0 default) 0 6) 6) ∧
          ((AV.binOk Go.BinOp.lss (AV.cel (AV.atAgg (AV.der (AV.mkRef [x0])) (ys2433.getD 0 default) 0 6) 0) x2) ∧
          ((AV.isBool (AV.bin Go.BinOp.lss (AV.cel (AV.atAgg (AV.der (AV.mkRef [x0])) (ys2433.getD 0 default) 0 6) 0) x2)) ∧
          (((isT (AV.bin Go.BinOp.lss (AV.cel (AV.atAgg (AV.der (AV.mkRef [x0])) (ys2433.getD 0 default) 0 6) 0) x2)) →
            ((AV.room (ys2433.getD 1 default) (AV.mk 6 [[(AV.cel (AV.atAgg (AV.der (AV.mkRef [x0])) (ys2433.getD 0 default) 0 6) 0), (AV.cel (AV.atAgg (AV.der (AV.mkRef [x0])) (ys2433.getD 0 default) 0 6) 1), (AV.cel (AV.atAgg (AV.der (AV.mkRef [x0])) (ys2433.getD 0 default) 0 6) 2), (AV.cel (AV.atAgg (AV.der (AV.mkRef [x0])) (ys2433.getD 0 default) 0 6) 3), (AV.cel (AV.atAgg (AV.der (AV.mkRef [x0])) (ys2433.getD 0 default) 0 6) 4), (AV.cel (AV.atAgg (AV.der (AV.mkRef [x0])) (ys2433.getD 0 default) 0 6) 5)]]) 48) ∧
            ((AV.binOk Go.BinOp.gtr (AV.cel (AV.atAgg (AV.der (AV.mkRef [x0])) (ys2433.getD 0 default) 0 6) 0) x2) ∧
            ((AV.isBool (AV.bin Go.BinOp.gtr (AV.cel (AV.atAgg (AV.der (AV.mkRef [x0])) (ys2433.getD 0 default) 0 6) 0) x2)) ∧
            (((isT (AV.bin Go.BinOp.gtr (AV.cel (AV.atAgg (AV.der (AV.mkRef [x0])) (ys2433.getD 0 default) 0 6) 0) x2)) →
              ((AV.room (ys2433.getD 2 default) (AV.mk 6 [[(AV.cel (AV.atAgg (AV.der (AV.mkRef [x0])) (ys2433.getD 0 default) 0 6) 0), (AV.cel (AV.atAgg (AV.der (AV.mkRef [x0])) (ys2433.getD 0 default) 0 6) 1), (AV.cel (AV.atAgg (AV.der (AV.mkRef [x0])) (ys2433.getD 0 default) 0 6) 2), (AV.cel (AV.atAgg (AV.der (AV.mkRef [x0])) (ys2433.getD 0 default) 0 6) 3), (AV.cel (AV.atAgg (AV.der (AV.mkRef [x0])) (ys2433.getD 0 default) 0 6) 4), (AV.cel (AV.atAgg (AV.der (AV.mkRef [x0])) (ys2433.getD 0 default) 0 6) 5)]]) 48) ∧
              ((AV.binOk Go.BinOp.add (ys2433.getD 0 default) (AV.int 1)) ∧
              (again2433 [(AV.bin Go.BinOp.add (ys2433.getD 0 default) (AV.int 1)), (AV.app 6 (ys2433.getD 1 default) (AV.mk 6 [[(AV.cel (AV.atAgg (AV.der (AV.mkRef [x0])) (ys2433.getD 0 default) 0 6) 0), (AV.cel (AV.atAgg (AV.der (AV.mkRef [x0])) (ys2433.getD 0 default) 0 6) 1), (AV.cel (AV.atAgg (AV.der (AV.mkRef [x0])) (ys2433.getD 0 default) 0 6) 2), (AV.cel (AV.atAgg (AV.der (AV.mkRef [x0])) (ys2433.getD 0 default) 0 6) 3), (AV.cel (AV.atAgg (AV.der (AV.mkRef [x0])) (ys2433.getD 0 default) 0 6) 4), (AV.cel (AV.atAgg (AV.der (AV.mkRef [x0])) (ys2433.getD 0 default) 0 6) 5)]])), (AV.app 6 (ys2433.getD 2 default) (AV.mk 6 [[(AV.cel (AV.atAgg (AV.der (AV.mkRef [x0])) (ys2433.getD 0 default) 0 6) 0), (AV.cel (AV.atAgg (AV.der (AV.mkRef [x0])) (ys2433.getD 0 default) 0 6) 1), (AV.cel (AV.atAgg (AV.der (AV.mkRef [x0])) (ys2433.getD 0 default) 0 6) 2), (AV.cel (AV.atAgg (AV.der (AV.mkRef [x0])) (ys2433.getD 0 default) 0 6) 3), (AV.cel (AV.atAgg (AV.der (AV.mkRef [x0])) (ys2433.getD 0 default) 0 6) 4), (AV.cel (AV.atAgg (AV.der (AV.mkRef [x0])) (ys2433.getD 0 default) 0 6) 5)]])), (ys2433.getD 3 default), (ys2433.getD 4 default), (ys2433.getD 5 default), (ys2433.getD 6 default), (ys2433.getD 7 default), (ys2433.getD 8 default), (ys2433.getD 9 default), (ys2433.getD 10 default), (ys2433.getD 11 default), (ys2433.getD 12 default), (ys2433.getD 13 default), (ys2433.getD 14 default), (ys2433.getD 15 default), (ys2433.getD 16 default), (ys2433.getD 17 default), (ys2433.getD 18 default), (ys2433.getD 19 default), (ys2433.getD 20 default), (ys2433.getD 21 default), (ys2433.getD 22 default)])))) ∧
            ((isF (AV.bin Go.BinOp.gtr (AV.cel (AV.atAgg (AV.der (AV.mkRef [x0])) (ys2433.getD 0 default) 0 6) 0) x2)) →
              ((AV.binOk Go.BinOp.add (ys2433.getD 0 default) (AV.int 1)) ∧
              (again2433 [(AV.bin Go.BinOp.add (ys2433.getD 0 default) (AV.int 1)), (AV.app 6 (ys2433.getD 1 default) (AV.mk 6 [[(AV.cel (AV.atAgg (AV.der (AV.mkRef [x0])) (ys2433.getD 0 default) 0 6) 0), (AV.cel (AV.atAgg (AV.der (AV.mkRef [x0])) (ys2433.getD 0 default) 0 6) 1), (AV.cel (AV.atAgg (AV.der (AV.mkRef [x0])) (ys2433.getD 0 default) 0 6) 2), (AV.cel (AV.atAgg (AV.der (AV.mkRef [x0])) (ys2433.getD 0 default) 0 6) 3), (AV.cel (AV.atAgg (AV.der (AV.mkRef [x0])) (ys2433.getD 0 default) 0 6) 4), (AV.cel (AV.atAgg (AV.der (AV.mkRef [x0])) (ys2433.getD 0 default) 0 6) 5)]])), (ys2433.getD 2 default), (ys2433.getD 3 default), (ys2433.getD 4 default), (ys2433.getD 5 default), (ys2433.getD 6 default), (ys2433.getD 7 default), (ys2433.getD 8 default), (ys2433.getD 9 default), (ys2433.getD 10 default), (ys2433.getD 11 default), (ys2433.getD 12 default), (ys2433.getD 13 default), (ys2433.getD 14 default), (ys2433.getD 15 default), (ys2433.getD 16 default), (ys2433.getD 17 default), (ys2433.getD 18 default), (ys2433.getD 19 default), (ys2433.getD 20 default), (ys2433.getD 21 default), (ys2433.getD 22 default)])))))))) ∧
          ((isF (AV.bin Go.BinOp.lss (AV.cel (AV.atAgg (AV.der (AV.mkRef [x0])) (ys2433.getD 0 default) 0 6) 0) x2)) →
            ((AV.binOk Go.BinOp.gtr (AV.cel (AV.atAgg (AV.der (AV.mkRef [x0])) (ys2433.getD 0 default) 0 6) 0) x2) ∧
            ((AV.isBool (AV.bin Go.BinOp.gtr (AV.cel (AV.atAgg (AV.der (AV.mkRef [x0])) (ys2433.getD 0 default) 0 6) 0) x2)) ∧
            (((isT (AV.bin Go.BinOp.gtr (AV.cel (AV.atAgg (AV.der (AV.mkRef [x0])) (ys2433.getD 0 default) 0 6) 0) x2)) →
              ((AV.room (ys2433.getD 2 default) (AV.mk 6 [[(AV.cel (AV.atAgg (AV.der (AV.mkRef [x0])) (ys2433.getD 0 default) 0 6) 0), (AV.cel (AV.atAgg (AV.der (AV.mkRef [x0])) (ys2433.getD 0 default) 0 6) 1), (AV.cel (AV.atAgg (AV.der (AV.mkRef [x0])) (ys2433.getD 0 default) 0 6) 2), (AV.cel (AV.atAgg (AV.der (AV.mkRef [x0])) (ys2433.getD 0 default) 0 6) 3), (AV.cel (AV.atAgg (AV.der (AV.mkRef [x0])) (ys2433.getD 0 default) 0 6) 4), (AV.cel (AV.atAgg (AV.der (AV.mkRef [x0])) (ys2433.getD 0 default) 0 6) 5)]]) 48) ∧
              ((AV.binOk Go.BinOp.add (ys2433.getD 0 default) (AV.int 1)) ∧
              (again2433 [(AV.bin Go.BinOp.add (ys2433.getD 0 default) (AV.int 1)), (ys2433.getD 1 default), (AV.app 6 (ys2433.getD 2 default) (AV.mk 6 [[(AV.cel (AV.atAgg (AV.der (AV.mkRef [x0])) (ys2433.getD 0 default) 0 6) 0), (AV.cel (AV.atAgg (AV.der (AV.mkRef [x0])) (ys2433.getD 0 default) 0 6) 1), (AV.cel (AV.atAgg (AV.der (AV.mkRef [x0])) (ys2433.getD 0 default) 0 6) 2), (AV.cel (AV.atAgg (AV.der (AV.mkRef [x0])) (ys2433.getD 0 default) 0 6) 3), (AV.cel (AV.atAgg (AV.der (AV.mkRef [x0])) (ys2433.getD 0 default) 0 6) 4), (AV.cel (AV.atAgg (AV.der (AV.mkRef [x0])) (ys2433.getD 0 default) 0 6) 5)]])), (ys2433.getD 3 default), (ys2433.getD 4 default), (ys2433.getD 5 default), (ys2433.getD 6 default), (ys2433.getD 7 default), (ys2433.getD 8 default), (ys2433.getD 9 default), (ys2433.getD 10 default), (ys2433.getD 11 default), (ys2433.getD 12 default), (ys2433.getD 13 default), (ys2433.getD 14 default), (ys2433.getD 15 default), (ys2433.getD 16 default), (ys2433.getD 17 default), (ys2433.getD 18 default), (ys2433.getD 19 default), (ys2433.getD 20 default), (ys2433.getD 21 default), (ys2433.getD 22 default)])))) ∧
            ((isF (AV.bin Go.BinOp.gtr (AV.cel (AV.atAgg (AV.der (AV.mkRef [x0])) (ys2433.getD 0 default) 0 6) 0) x2)) →
              ((AV.binOk Go.BinOp.add (ys2433.getD 0 default) (AV.int 1)) ∧
              (again2433 [(AV.bin Go.BinOp.add (ys2433.getD 0 default) (AV.int 1)), (ys2433.getD 1 default), (ys2433.getD 2 default), (ys2433.getD 3 default), (ys2433.getD 4 default), (ys2433.getD 5 default), (ys2433.getD 6 default), (ys2433.getD 7 default), (ys2433.getD 8 default), (ys2433.getD 9 default), (ys2433.getD 10 default), (ys2433.getD 11 default), (ys2433.getD 12 default), (ys2433.getD 13 default), (ys2433.getD 14 default), (ys2433.getD 15 default), (ys2433.getD 16 default), (ys2433.getD 17 default), (ys2433.getD 18 default), (ys2433.getD 19 default), (ys2433.getD 20 default), (ys2433.getD 21 default), (ys2433.getD 22 default)])))))))))))))) ∧
        ((isF (AV.bin Go.BinOp.lss (ys2433.getD 0 default) (AV.len (AV.der (AV.mkRef [x0]))))) →
          (∃ r2561 : AV, ((Fn Tryd.prog 22 [(AV.agg [(ys2433.getD 3 default), (ys2433.getD 4 default), (ys2433.getD 5 default), (ys2433.getD 6 default), (ys2433.getD 1 default), (ys2433.getD 2 default), (ys2433.getD 7 default), (ys2433.getD 8 default), (ys2433.getD 9 default), (ys2433.getD 10 default), (ys2433.getD 11 default), (ys2433.getD 12 default), (ys2433.getD 13 default), (ys2433.getD 14 default), (ys2433.getD 15 default), (ys2433.getD 16 default), (ys2433.getD 17 default), (ys2433.getD 18 default), (ys2433.getD 19 default), (ys2433.getD 20 default), (ys2433.getD 21 default), (ys2433.getD 22 default)])] (Sh.tup [(Sh.row 39 6 true), Sh.sc, Sh.sc]) r2561) ∧
          ((AV.binOk Go.BinOp.neq (AV.prj r2561 2) (AV.int 0)) ∧
          ((AV.isBool (AV.bin Go.BinOp.neq (AV.prj r2561 2) (AV.int 0))) ∧
          (((isT (AV.bin Go.BinOp.neq (AV.prj r2561 2) (AV.int 0))) →
            ((AV.flatS (AV.mk 6 [])) ∧
            ((AV.flat (AV.prj r2561 2)) ∧
            (fSame (AV.tup [(AV.mk 6 []), (AV.prj r2561 2)]) r)))) ∧
          ((isF (AV.bin Go.BinOp.neq (AV.prj r2561 2) (AV.int 0))) →
            ((AV.isBool (AV.prj r2561 1)) ∧
            (((isT (AV.prj r2561 1)) →
              ((AV.isRef (AV.mkRef [x0]) 1) ∧
              (∃ r3457 : AV, ((Fn Tryd.prog 23 [(AV.der (AV.mkRef [x0]))] (Sh.row 39 6 true) r3457) ∧
              ((AV.flatS r3457) ∧
              ((AV.flat (AV.int 0)) ∧
              (fSame (AV.tup [r3457, (AV.int 0)]) r))))))) ∧
            ((isF (AV.prj r2561 1)) →
              (∃ r3777 : AV, ((Fn Tryd.prog 24 [(AV.mk 1 [[(ys2433.getD 1 default)], [(AV.mk 6 [[(AV.cel (AV.prj r1025 0) 0), (AV.cel (AV.prj r1025 0) 1), (AV.cel (AV.prj r1025 0) 2), (AV.cel (AV.prj r1025 0) 3), (AV.cel (AV.prj r1025 0) 4), (AV.cel (AV.prj r1025 0) 5)]])], [(AV.prj r2561 0)]])] (Sh.row 39 6 true) r3777) ∧
              ((AV.binOk Go.BinOp.gtr (AV.len r3777) (AV.int 64)) ∧
              ((AV.isBool (AV.bin Go.BinOp.gtr (AV.len r3777) (AV.int 64))) ∧
              (((isT (AV.bin Go.BinOp.gtr (AV.len r3777) (AV.int 64))) →
                ((AV.flatS (AV.mk 6 [])) ∧
                ((AV.flat (AV.int 2)) ∧
                (fSame (AV.tup [(AV.mk 6 []), (AV.int 2)]) r)))) ∧
              ((isF (AV.bin Go.BinOp.gtr (AV.len r3777) (AV.int 64))) →
                ((AV.flatS r3777) ∧
                ((AV.flat (AV.int 0)) ∧
                (fSame (AV.tup [r3777, (AV.int 0)]) r))))))))))))))))))))))))))))))))))))))))))))))))))) := by kernel_rfl
theorem carried_form (x0 r : AV) : fnF Tryd.prog Γ ann 3 22 Tryd.f22 (Tryd.f22.body.getD .skip) (.nil) [x0] (.tup [.row 39 6 true, .sc, .sc]) r = (((AV.isAgg x0 22) ∧
((AV.binOk Go.BinOp.eql (AV.cel x0 1) (AV.int 0)) ∧
((AV.isBool (AV.bin Go.BinOp.eql (AV.cel x0 1) (AV.int 0))) ∧
(((isT (AV.bin Go.BinOp.eql (AV.cel x0 1) (AV.int 0))) →
  (∃ r641 : AV, ((Fn Tryd.prog 33 [(AV.agg [(AV.cel x0 0), (AV.cel x0 1), (AV.cel x0 2), (AV.cel x0 3), (AV.cel x0 4), (AV.cel x0 5), (AV.cel x0 6), (AV.cel x0 7), (AV.cel x0 8), (AV.cel x0 9), (AV.cel x0 10), (AV.cel x0 11), (AV.cel x0 12), (AV.cel x0 13), (AV.cel x0 14), (AV.cel x0 15), (AV.cel x0 16), (AV.cel x0 17), (AV.cel x0 18), (AV.cel x0 19), (AV.cel x0 20), (AV.cel x0 21)])] (Sh.tup [(Sh.row 39 6 true), Sh.sc]) r641) ∧
  ((AV.flatS (AV.prj r641 0)) ∧
  ((AV.flat (AV.bool false)) ∧
  ((AV.flat (AV.prj r641 1)) ∧
  (fSame (AV.tup [(AV.prj r641 0), (AV.bool false), (AV.prj r641 1)]) r))))))) ∧
((isF (AV.bin Go.BinOp.eql (AV.cel x0 1) (AV.int 0))) →
  ((AV.isSl (AV.cel x0 5) 6) ∧
  ((AV.binOk Go.BinOp.eql (AV.len (AV.cel x0 5)) (AV.int 0)) ∧
  ((AV.isBool (AV.bin Go.BinOp.eql (AV.len (AV.cel x0 5)) (AV.int 0))) ∧
  (((isT (AV.bin Go.BinOp.eql (AV.len (AV.cel x0 5)) (AV.int 0))) →
    ((AV.flatS (AV.mk 6 [])) ∧
    ((AV.flat (AV.bool true)) ∧
    ((AV.flat (AV.int 0)) ∧
    (fSame (AV.tup [(AV.mk 6 []), (AV.bool true), (AV.int 0)]) r))))) ∧
  ((isF (AV.bin Go.BinOp.eql (AV.len (AV.cel x0 5)) (AV.int 0))) →
    ((AV.binOk Go.BinOp.eql (AV.cel x0 1) (AV.int 1)) ∧
    ((AV.isBool (AV.bin Go.BinOp.eql (AV.cel x0 1) (AV.int 1))) ∧
    (((isT (AV.bin Go.BinOp.eql (AV.cel x0 1) (AV.int 1))) →
      (∃ r1281 : AV, ((Fn Tryd.prog 34 [(AV.agg [(AV.cel x0 0), (AV.cel x0 1), (AV.cel x0 2), (AV.cel x0 3), (AV.cel x0 4), (AV.cel x0 5), (AV.cel x0 6), (AV.cel x0 7), (AV.cel x0 8), (AV.cel x0 9), (AV.cel x0 10), (AV.cel x0 11), (AV.cel x0 12), (AV.cel x0 13), (AV.cel x0 14), (AV.cel x0 15), (AV.cel x0 16), (AV.cel x0 17), (AV.cel x0 18), (AV.cel x0 19), (AV.cel x0 20), (AV.cel x0 21)])] (Sh.tup [(Sh.row 39 6 true), Sh.sc]) r1281) ∧
      ((AV.flatS (AV.prj r1281 0)) ∧
      ((AV.flat (AV.bool false)) ∧
      ((AV.flat (AV.prj r1281 1)) ∧
      (fSame (AV.tup [(AV.prj r1281 0), (AV.bool false), (AV.prj r1281 1)]) r))))))) ∧
    ((isF (AV.bin Go.BinOp.eql (AV.cel x0 1) (AV.int 1))) →
      ((AV.binOk Go.BinOp.eql (AV.cel x0 1) (AV.int 2)) ∧
      ((AV.isBool (AV.bin Go.BinOp.eql (AV.cel x0 1) (AV.int 2))) ∧
      (((isT (AV.bin Go.BinOp.eql (AV.cel x0 1) (AV.int 2))) →
        (∃ r1601 : AV, ((Fn Tryd.prog 35 [(AV.agg [(AV.cel x0 0), (AV.cel x0 1), (AV.cel x0 2), (AV.cel x0 3), (AV.cel x0 4), (AV.cel x0 5), (AV.cel x0 6), (AV.cel x0 7), (AV.cel x0 8), (AV.cel x0 9), (AV.cel x0 10), (AV.cel x0 11), (AV.cel x0 12), (AV.cel x0 13), (AV.cel x0 14), (AV.cel x0 15), (AV.cel x0 16), (AV.cel x0 17), (AV.cel x0 18), (AV.cel x0 19), (AV.cel x0 20), (AV.cel x0 21)])] (Sh.tup [(Sh.row 39 6 true), Sh.sc]) r1601) ∧
        ((AV.flatS (AV.prj r1601 0)) ∧
        ((AV.flat (AV.bool false)) ∧
        ((AV.flat (AV.prj r1601 1)) ∧
        (fSame (AV.tup [(AV.prj r1601 0), (AV.bool false), (AV.prj r1601 1)]) r))))))) ∧
      ((isF (AV.bin Go.BinOp.eql (AV.cel x0 1) (AV.int 2))) →
        ((AV.binOk Go.BinOp.eql (AV.cel x0 1) (AV.int 3)) ∧
        ((AV.isBool (AV.bin Go.BinOp.eql (AV.cel x0 1) (AV.int 3))) ∧
        (((isT (AV.bin Go.BinOp.eql (AV.cel x0 1) (AV.int 3))) →
          (∃ r1921 : AV, ((Fn Tryd.prog 36 [(AV.agg [(AV.cel x0 0), (AV.cel x0 1), (AV.cel x0 2), (AV.cel x0 3), (AV.cel x0 4), (AV.cel x0 5), (AV.cel x0 6), (AV.cel x0 7), (AV.cel x0 8), (AV.cel x0 9), (AV.cel x0 10), (AV.cel x0 11), (AV.cel x0 12), (AV.cel x0 13), (AV.cel x0 14), (AV.cel x0 15), (AV.cel x0 16), (AV.cel x0 17), (AV.cel x0 18), (AV.cel x0 19), (AV.cel x0 20), (AV.cel x0 21)])] (Sh.tup [(Sh.row 39 6 true), Sh.sc]) r1921) ∧
          ((AV.flatS (AV.prj r1921 0)) ∧
          ((AV.flat (AV.bool false)) ∧
          ((AV.flat (AV.prj r1921 1)) ∧
          (fSame (AV.tup [(AV.prj r1921 0), (AV.bool false), (AV.prj r1921 1)]) r))))))) ∧
        ((isF (AV.bin Go.BinOp.eql (AV.cel x0 1) (AV.int 3))) →
          ((AV.flatS (AV.mk 6 [])) ∧
          ((AV.flat (AV.bool true)) ∧
          ((AV.flat (AV.int 0)) ∧
          (fSame (AV.tup [(AV.mk 6 []), (AV.bool true), (AV.int 0)]) r))))))))))))))))))))))))))) := by kernel_rfl
theorem height_form (x0 r : AV) : fnF Tryd.prog Γ ann 3 33 Tryd.f33 (Tryd.f33.body.getD .skip) (.nil) [x0] (.tup [.row 39 6 true, .sc]) r = (((AV.isAgg x0 22) ∧
(∃ r769 : AV, ((Fn Tryd.prog 50 [(AV.agg [(AV.cel x0 12), (AV.cel x0 13), (AV.cel x0 14), (AV.cel x0 15), (AV.cel x0 16), (AV.cel x0 17), (AV.cel x0 18)]), (AV.cel x0 9), (AV.cel x0 2)] (Sh.tup [Sh.sc, Sh.sc]) r769) ∧
((AV.binOk Go.BinOp.neq (AV.prj r769 1) (AV.int 0)) ∧
((AV.isBool (AV.bin Go.BinOp.neq (AV.prj r769 1) (AV.int 0))) ∧
(((isT (AV.bin Go.BinOp.neq (AV.prj r769 1) (AV.int 0))) →
  ((AV.flatS (AV.mk 6 [])) ∧
  ((AV.flat (AV.prj r769 1)) ∧
  (fSame (AV.tup [(AV.mk 6 []), (AV.prj r769 1)]) r)))) ∧
((isF (AV.bin Go.BinOp.neq (AV.prj r769 1) (AV.int 0))) →
  ((AV.binOk Go.BinOp.add (AV.cel x0 6) (AV.prj r769 0)) ∧
  ((AV.isOne (AV.bin Go.BinOp.add (AV.cel x0 6) (AV.prj r769 0))) ∧
  (∃ r1921 : AV, ((Fn Tryd.prog 23 [(AV.cel x0 5)] (Sh.row 39 6 true) r1921) ∧
  ((AV.binOk Go.BinOp.gtr (AV.prj r769 0) (AV.int 0)) ∧
  ((AV.isBool (AV.bin Go.BinOp.gtr (AV.prj r769 0) (AV.int 0))) ∧
  (((isT (AV.bin Go.BinOp.gtr (AV.prj r769 0) (AV.int 0))) →
    ((AV.binOk Go.BinOp.gtr (AV.len r1921) (AV.int 0)) ∧
    ((AV.isBool (AV.bin Go.BinOp.gtr (AV.prj r769 0) (AV.int 0))) ∧
    ((isT (AV.bin Go.BinOp.gtr (AV.prj r769 0) (AV.int 0))) ∧
    ((AV.isBool (AV.bin Go.BinOp.gtr (AV.len r1921) (AV.int 0))) ∧
    (((isT (AV.bin Go.BinOp.gtr (AV.len r1921) (AV.int 0))) →
      ((AV.binOk Go.BinOp.sub (AV.len r1921) (AV.int 1)) ∧
      ((AV.inb r1921 (AV.bin Go.BinOp.sub (AV.len r1921) (AV.int 1))) ∧
      ((AV.inb r1921 (AV.bin Go.BinOp.sub (AV.len r1921) (AV.int 1))) ∧
      ((AV.binOk Go.BinOp.lss (AV.bin Go.BinOp.add (AV.cel x0 6) (AV.prj r769 0)) (AV.at r1921 (AV.bin Go.BinOp.sub (AV.len r1921) (AV.int 1)) 0)) ∧
      ((AV.isBool (AV.bin Go.BinOp.gtr (AV.len r1921) (AV.int 0))) ∧
      ((isT (AV.bin Go.BinOp.gtr (AV.len r1921) (AV.int 0))) ∧
      ((AV.isBool (AV.bin Go.BinOp.lss (AV.bin Go.BinOp.add (AV.cel x0 6) (AV.prj r769 0)) (AV.at r1921 (AV.bin Go.BinOp.sub (AV.len r1921) (AV.int 1)) 0))) ∧
      (((isT (AV.bin Go.BinOp.lss (AV.bin Go.BinOp.add (AV.cel x0 6) (AV.prj r769 0)) (AV.at r1921 (AV.bin Go.BinOp.sub (AV.len r1921) (AV.int 1)) 0))) →
        ((fEnt Tryd.prog 51) ∧
        (fAllV fun _ => (fLoop 3777 [(AV.int 0)] fun ys3777 again3777 =>
          ((AV.binOk Go.BinOp.lss (ys3777.getD 0 default) (AV.len r1921)) ∧
          ((AV.isBool (AV.bin Go.BinOp.lss (ys3777.getD 0 default) (AV.len r1921))) ∧
          (((isT (AV.bin Go.BinOp.lss (ys3777.getD 0 default) (AV.len r1921))) →
            ((AV.inb r1921 (ys3777.getD 0 default)) ∧
            ((AV.inb r1921 (ys3777.getD 0 default)) ∧
            ((fEnt Tryd.prog 52) ∧
            (fAllV fun _ => ((AV.isAgg (AV.atAgg r1921 (ys3777.getD 0 default) 0 6) 6) ∧
            ((AV.binOk Go.BinOp.geq (AV.cel (AV.atAgg r1921 (ys3777.getD 0 default) 0 6) 0) (AV.bin Go.BinOp.add (AV.cel x0 6) (AV.prj r769 0))) ∧
            ((AV.isBool (AV.bin Go.BinOp.geq (AV.cel (AV.atAgg r1921 (ys3777.getD 0 default) 0 6) 0) (AV.bin Go.BinOp.add (AV.cel x0 6) (AV.prj r769 0)))) ∧
            (((isT (AV.bin Go.BinOp.geq (AV.cel (AV.atAgg r1921 (ys3777.getD 0 default) 0 6) 0) (AV.bin Go.BinOp.add (AV.cel x0 6) (AV.prj r769 0)))) →
              ((AV.inb r1921 (ys3777.getD 0 default)) ∧
              ((AV.inb r1921 (ys3777.getD 0 default)) ∧
              ((AV.binOk Go.BinOp.neq (AV.at r1921 (ys3777.getD 0 default) 0) (AV.bin Go.BinOp.add (AV.cel x0 6) (AV.prj r769 0))) ∧
              ((AV.isBool (AV.bin Go.BinOp.neq (AV.at r1921 (ys3777.getD 0 default) 0) (AV.bin Go.BinOp.add (AV.cel x0 6) (AV.prj r769 0)))) ∧
              (((isT (AV.bin Go.BinOp.neq (AV.at r1921 (ys3777.getD 0 default) 0) (AV.bin Go.BinOp.add (AV.cel x0 6) (AV.prj r769 0)))) →
                (∃ r5889 : AV, ((Fn Tryd.prog 21 [(AV.cel x0 21), (AV.bin Go.BinOp.add (AV.cel x0 6) (AV.prj r769 0))] (Sh.tup [Sh.sc, Sh.sc]) r5889) ∧
                ((AV.isAgg (AV.prj r5889 0) 6) ∧
                (∃ r6593 : AV, ((FnU Tryd.prog 53 39 6 r1921 [(ys3777.getD 0 default), (AV.mk 6 [[(AV.cel (AV.prj r5889 0) 0), (AV.cel (AV.prj r5889 0) 1), (AV.cel (AV.prj r5889 0) 2), (AV.cel (AV.prj r5889 0) 3), (AV.cel (AV.prj r5889 0) 4), (AV.cel (AV.prj r5889 0) 5)]])] true r6593) ∧
                (fLoop 6913 [(AV.int 0), r6593] fun ys6913 again6913 =>
                  ((AV.binOk Go.BinOp.lss (ys6913.getD 0 default) (AV.len r6593)) ∧
                  ((AV.isBool (AV.bin Go.BinOp.lss (ys6913.getD 0 default) (AV.len r6593))) ∧
                  (((isT (AV.bin Go.BinOp.lss (ys6913.getD 0 default) (AV.len r6593))) →
                    ((AV.inb (ys6913.getD 1 default) (ys6913.getD 0 default)) ∧
                    ((AV.inb (ys6913.getD 1 default) (ys6913.getD 0 default)) ∧
                    ((AV.binOk Go.BinOp.geq (AV.at (ys6913.getD 1 default) (ys6913.getD 0 default) 0) (AV.bin Go.BinOp.add (AV.cel x0 6) (AV.prj r769 0))) ∧
                    ((AV.isBool (AV.bin Go.BinOp.geq (AV.at (ys6913.getD 1 default) (ys6913.getD 0 default) 0) (AV.bin Go.BinOp.add (AV.cel x0 6) (AV.prj r769 0)))) ∧
                    (((isT (AV.bin Go.BinOp.geq (AV.at (ys6913.getD 1 default) (ys6913.getD 0 default) 0) (AV.bin Go.BinOp.add (AV.cel x0 6) (AV.prj r769 0)))) →
                      ((AV.isOne (AV.cel x0 2)) ∧
                      ((AV.inb (ys6913.getD 1 default) (ys6913.getD 0 default)) ∧
                      ((AV.binOk Go.BinOp.add (ys6913.getD 0 default) (AV.int 1)) ∧
                      (again6913 [(AV.bin Go.BinOp.add (ys6913.getD 0 default) (AV.int 1)), (AV.setEl (ys6913.getD 1 default) (ys6913.getD 0 default) 3 [(AV.cel x0 2)])]))))) ∧
                    ((isF (AV.bin Go.BinOp.geq (AV.at (ys6913.getD 1 default) (ys6913.getD 0 default) 0) (AV.bin Go.BinOp.add (AV.cel x0 6) (AV.prj r769 0)))) →
                      ((AV.binOk Go.BinOp.sub (AV.cel x0 2) (AV.cel x0 9)) ∧
                      ((AV.inb (ys6913.getD 1 default) (ys6913.getD 0 default)) ∧
                      ((AV.binOk Go.BinOp.sub (AV.at (ys6913.getD 1 default) (ys6913.getD 0 default) 0) (AV.cel x0 6)) ∧
                      ((AV.binOk Go.BinOp.mul (AV.bin Go.BinOp.sub (AV.cel x0 2) (AV.cel x0 9)) (AV.bin Go.BinOp.sub (AV.at (ys6913.getD 1 default) (ys6913.getD 0 default) 0) (AV.cel x0 6))) ∧
                      (∃ r9089 : AV, ((Fn Tryd.prog 48 [(AV.bin Go.BinOp.mul (AV.bin Go.BinOp.sub (AV.cel x0 2) (AV.cel x0 9)) (AV.bin Go.BinOp.sub (AV.at (ys6913.getD 1 default) (ys6913.getD 0 default) 0) (AV.cel x0 6))), (AV.prj r769 0)] (Sh.tup [Sh.sc, Sh.sc]) r9089) ∧
                      ((AV.binOk Go.BinOp.add (AV.cel x0 9) (AV.prj r9089 0)) ∧
                      ((AV.isOne (AV.bin Go.BinOp.add (AV.cel x0 9) (AV.prj r9089 0))) ∧
                      ((AV.inb (ys6913.getD 1 default) (ys6913.getD 0 default)) ∧
                      ((AV.binOk Go.BinOp.add (ys6913.getD 0 default) (AV.int 1)) ∧
                      (again6913 [(AV.bin Go.BinOp.add (ys6913.getD 0 default) (AV.int 1)), (AV.setEl (ys6913.getD 1 default) (ys6913.getD 0 default) 3 [(AV.bin Go.BinOp.add (AV.cel x0 9) (AV.prj r9089 0))])])))))))))))))))))) ∧
                  ((isF (AV.bin Go.BinOp.lss (ys6913.getD 0 default) (AV.len r6593))) →
                    ((AV.flatS (ys6913.getD 1 default)) ∧
                    ((AV.flat (AV.int 0)) ∧
                    (fSame (AV.tup [(ys6913.getD 1 default), (AV.int 0)]) r)))))))))))))) ∧
              ((isF (AV.bin Go.BinOp.neq (AV.at r1921 (ys3777.getD 0 default) 0) (AV.bin Go.BinOp.add (AV.cel x0 6) (AV.prj r769 0)))) →
                (fLoop 5889 [(AV.int 0), r1921] fun ys5889 again5889 =>
                  ((AV.binOk Go.BinOp.lss (ys5889.getD 0 default) (AV.len r1921)) ∧
                  ((AV.isBool (AV.bin Go.BinOp.lss (ys5889.getD 0 default) (AV.len r1921))) ∧
                  (((isT (AV.bin Go.BinOp.lss (ys5889.getD 0 default) (AV.len r1921))) →
                    ((AV.inb (ys5889.getD 1 default) (ys5889.getD 0 default)) ∧
                    ((AV.inb (ys5889.getD 1 default) (ys5889.getD 0 default)) ∧
                    ((AV.binOk Go.BinOp.geq (AV.at (ys5889.getD 1 default) (ys5889.getD 0 default) 0) (AV.bin Go.BinOp.add (AV.cel x0 6) (AV.prj r769 0))) ∧
                    ((AV.isBool (AV.bin Go.BinOp.geq (AV.at (ys5889.getD 1 default) (ys5889.getD 0 default) 0) (AV.bin Go.BinOp.add (AV.cel x0 6) (AV.prj r769 0)))) ∧
                    (((isT (AV.bin Go.BinOp.geq (AV.at (ys5889.getD 1 default) (ys5889.getD 0 default) 0) (AV.bin Go.BinOp.add (AV.cel x0 6) (AV.prj r769 0)))) →
                      ((AV.isOne (AV.cel x0 2)) ∧
                      ((AV.inb (ys5889.getD 1 default) (ys5889.getD 0 default)) ∧
                      ((AV.binOk Go.BinOp.add (ys5889.getD 0 default) (AV.int 1)) ∧
                      (again5889 [(AV.bin Go.BinOp.add (ys5889.getD 0 default) (AV.int 1)), (AV.setEl (ys5889.getD 1 default) (ys5889.getD 0 default) 3 [(AV.cel x0 2)])]))))) ∧
                    ((isF (AV.bin Go.BinOp.geq (AV.at (ys5889.getD 1 default) (ys5889.getD 0 default) 0) (AV.bin Go.BinOp.add (AV.cel x0 6) (AV.prj r769 0)))) →
                      ((AV.binOk Go.BinOp.sub (AV.cel x0 2) (AV.cel x0 9)) ∧
                      ((AV.inb (ys5889.getD 1 default) (ys5889.getD 0 default)) ∧
                      ((AV.binOk Go.BinOp.sub (AV.at (ys5889.getD 1 default) (ys5889.getD 0 default) 0) (AV.cel x0 6)) ∧
                      ((AV.binOk Go.BinOp.mul (AV.bin Go.BinOp.sub (AV.cel x0 2) (AV.cel x0 9)) (AV.bin Go.BinOp.sub (AV.at (ys5889.getD 1 default) (ys5889.getD 0 default) 0) (AV.cel x0 6))) ∧
                      (∃ r8065 : AV, ((Fn Tryd.prog 48 [(AV.bin Go.BinOp.mul (AV.bin Go.BinOp.sub (AV.cel x0 2) (AV.cel x0 9)) (AV.bin Go.BinOp.sub (AV.at (ys5889.getD 1 default) (ys5889.getD 0 default) 0) (AV.cel x0 6))), (AV.prj r769 0)] (Sh.tup [Sh.sc, Sh.sc]) r8065) ∧
                      ((AV.binOk Go.BinOp.add (AV.cel x0 9) (AV.prj r8065 0)) ∧
                      ((AV.isOne (AV.bin Go.BinOp.add (AV.cel x0 9) (AV.prj r8065 0))) ∧
                      ((AV.inb (ys5889.getD 1 default) (ys5889.getD 0 default)) ∧
                      ((AV.binOk Go.BinOp.add (ys5889.getD 0 default) (AV.int 1)) ∧
                      (again5889 [(AV.bin Go.BinOp.add (ys5889.getD 0 default) (AV.int 1)), (AV.setEl (ys5889.getD 1 default) (ys5889.getD 0 default) 3 [(AV.bin Go.BinOp.add (AV.cel x0 9) (AV.prj r8065 0))])])))))))))))))))))) ∧
                  ((isF (AV.bin Go.BinOp.lss (ys5889.getD 0 default) (AV.len r1921))) →
                    ((AV.flatS (ys5889.getD 1 default)) ∧
                    ((AV.flat (AV.int 0)) ∧
                    (fSame (AV.tup [(ys5889.getD 1 default), (AV.int 0)]) r))))))))))))))) ∧
            ((isF (AV.bin Go.BinOp.geq (AV.cel (AV.atAgg r1921 (ys3777.getD 0 default) 0 6) 0) (AV.bin Go.BinOp.add (AV.cel x0 6) (AV.prj r769 0)))) →
              ((AV.binOk Go.BinOp.add (ys3777.getD 0 default) (AV.int 1)) ∧
              (again3777 [(AV.bin Go.BinOp.add (ys3777.getD 0 default) (AV.int 1))])))))))))))) ∧
          ((isF (AV.bin Go.BinOp.lss (ys3777.getD 0 default) (AV.len r1921))) →
            ((AV.inb r1921 (AV.int (-1))) ∧
            ((AV.inb r1921 (AV.int (-1))) ∧
            ((AV.binOk Go.BinOp.neq (AV.at r1921 (AV.int (-1)) 0) (AV.bin Go.BinOp.add (AV.cel x0 6) (AV.prj r769 0))) ∧
            ((AV.isBool (AV.bin Go.BinOp.neq (AV.at r1921 (AV.int (-1)) 0) (AV.bin Go.BinOp.add (AV.cel x0 6) (AV.prj r769 0)))) ∧
            (((isT (AV.bin Go.BinOp.neq (AV.at r1921 (AV.int (-1)) 0) (AV.bin Go.BinOp.add (AV.cel x0 6) (AV.prj r769 0)))) →
              (∃ r4737 : AV, ((Fn Tryd.prog 21 [(AV.cel x0 21), (AV.bin Go.BinOp.add (AV.cel x0 6) (AV.prj r769 0))] (Sh.tup [Sh.sc, Sh.sc]) r4737) ∧
              ((AV.isAgg (AV.prj r4737 0) 6) ∧
              (∃ r5441 : AV, ((FnU Tryd.prog 53 39 6 r1921 [(AV.int (-1)), (AV.mk 6 [[(AV.cel (AV.prj r4737 0) 0), (AV.cel (AV.prj r4737 0) 1), (AV.cel (AV.prj r4737 0) 2), (AV.cel (AV.prj r4737 0) 3), (AV.cel (AV.prj r4737 0) 4), (AV.cel (AV.prj r4737 0) 5)]])] true r5441) ∧
              (fLoop 5761 [(AV.int 0), r5441] fun ys5761 again5761 =>
                ((AV.binOk Go.BinOp.lss (ys5761.getD 0 default) (AV.len r5441)) ∧
                ((AV.isBool (AV.bin Go.BinOp.lss (ys5761.getD 0 default) (AV.len r5441))) ∧
                (((isT (AV.bin Go.BinOp.lss (ys5761.getD 0 default) (AV.len r5441))) →
                  ((AV.inb (ys5761.getD 1 default) (ys5761.getD 0 default)) ∧
                  ((AV.inb (ys5761.getD 1 default) (ys5761.getD 0 default)) ∧
                  ((AV.binOk Go.BinOp.geq (AV.at (ys5761.getD 1 default) (ys5761.getD 0 default) 0) (AV.bin Go.BinOp.add (AV.cel x0 6) (AV.prj r769 0))) ∧
                  ((AV.isBool (AV.bin Go.BinOp.geq (AV.at (ys5761.getD 1 default) (ys5761.getD 0 default) 0) (AV.bin Go.BinOp.add (AV.cel x0 6) (AV.prj r769 0)))) ∧
                  (((isT (AV.bin Go.BinOp.geq (AV.at (ys5761.getD 1 default) (ys5761.getD 0 default) 0) (AV.bin Go.BinOp.add (AV.cel x0 6) (AV.prj r769 0)))) →
                    ((AV.isOne (AV.cel x0 2)) ∧
                    ((AV.inb (ys5761.getD 1 default) (ys5761.getD 0 default)) ∧
                    ((AV.binOk Go.BinOp.add (ys5761.getD 0 default) (AV.int 1)) ∧
                    (again5761 [(AV.bin Go.BinOp.add (ys5761.getD 0 default) (AV.int 1)), (AV.setEl (ys5761.getD 1 default) (ys5761.getD 0 default) 3 [(AV.cel x0 2)])]))))) ∧
                  ((isF (AV.bin Go.BinOp.geq (AV.at (ys5761.getD 1 default) (ys5761.getD 0 default) 0) (AV.bin Go.BinOp.add (AV.cel x0 6) (AV.prj r769 0)))) →
                    ((AV.binOk Go.BinOp.sub (AV.cel x0 2) (AV.cel x0 9)) ∧
                    ((AV.inb (ys5761.getD 1 default) (ys5761.getD 0 default)) ∧
                    ((AV.binOk Go.BinOp.sub (AV.at (ys5761.getD 1 default) (ys5761.getD 0 default) 0) (AV.cel x0 6)) ∧
                    ((AV.binOk Go.BinOp.mul (AV.bin Go.BinOp.sub (AV.cel x0 2) (AV.cel x0 9)) (AV.bin Go.BinOp.sub (AV.at (ys5761.getD 1 default) (ys5761.getD 0 default) 0) (AV.cel x0 6))) ∧
                    (∃ r7937 : AV, ((Fn Tryd.prog 48 [(AV.bin Go.BinOp.mul (AV.bin Go.BinOp.sub (AV.cel x0 2) (AV.cel x0 9)) (AV.bin Go.BinOp.sub (AV.at (ys5761.getD 1 default) (ys5761.getD 0 default) 0) (AV.cel x0 6))), (AV.prj r769 0)] (Sh.tup [Sh.sc, Sh.sc]) r7937) ∧
                    ((AV.binOk Go.BinOp.add (AV.cel x0 9) (AV.prj r7937 0)) ∧
                    ((AV.isOne (AV.bin Go.BinOp.add (AV.cel x0 9) (AV.prj r7937 0))) ∧
                    ((AV.inb (ys5761.getD 1 default) (ys5761.getD 0 default)) ∧
                    ((AV.binOk Go.BinOp.add (ys5761.getD 0 default) (AV.int 1)) ∧
                    (again5761 [(AV.bin Go.BinOp.add (ys5761.getD 0 default) (AV.int 1)), (AV.setEl (ys5761.getD 1 default) (ys5761.getD 0 default) 3 [(AV.bin Go.BinOp.add (AV.cel x0 9) (AV.prj r7937 0))])])))))))))))))))))) ∧
                ((isF (AV.bin Go.BinOp.lss (ys5761.getD 0 default) (AV.len r5441))) →
                  ((AV.flatS (ys5761.getD 1 default)) ∧
                  ((AV.flat (AV.int 0)) ∧
                  (fSame (AV.tup [(ys5761.getD 1 default), (AV.int 0)]) r)))))))))))))) ∧
            ((isF (AV.bin Go.BinOp.neq (AV.at r1921 (AV.int (-1)) 0) (AV.bin Go.BinOp.add (AV.cel x0 6) (AV.prj r769 0)))) →
              (fLoop 4737 [(AV.int 0), r1921] fun ys4737 again4737 =>
                ((AV.binOk Go.BinOp.lss (ys4737.getD 0 default) (AV.len r1921)) ∧
                ((AV.isBool (AV.bin Go.BinOp.lss (ys4737.getD 0 default) (AV.len r1921))) ∧
                (((isT (AV.bin Go.BinOp.lss (ys4737.getD 0 default) (AV.len r1921))) →
                  ((AV.inb (ys4737.getD 1 default) (ys4737.getD 0 default)) ∧
                  ((AV.inb (ys4737.getD 1 default) (ys4737.getD 0 default)) ∧
                  ((AV.binOk Go.BinOp.geq (AV.at (ys4737.getD 1 default) (ys4737.getD 0 default) 0) (AV.bin Go.BinOp.add (AV.cel x0 6) (AV.prj r769 0))) ∧
                  ((AV.isBool (AV.bin Go.BinOp.geq (AV.at (ys4737.getD 1 default) (ys4737.getD 0 default) 0) (AV.bin Go.BinOp.add (AV.cel x0 6) (AV.prj r769 0)))) ∧
                  (((isT (AV.bin Go.BinOp.geq (AV.at (ys4737.getD 1 default) (ys4737.getD 0 default) 0) (AV.bin Go.BinOp.add (AV.cel x0 6) (AV.prj r769 0)))) →
                    ((AV.isOne (AV.cel x0 2)) ∧
                    ((AV.inb (ys4737.getD 1 default) (ys4737.getD 0 default)) ∧
                    ((AV.binOk Go.BinOp.add (ys4737.getD 0 default) (AV.int 1)) ∧
                    (again4737 [(AV.bin Go.BinOp.add (ys4737.getD 0 default) (AV.int 1)), (AV.setEl (ys4737.getD 1 default) (ys4737.getD 0 default) 3 [(AV.cel x0 2)])]))))) ∧
                  ((isF (AV.bin Go.BinOp.geq (AV.at (ys4737.getD 1 default) (ys4737.getD 0 default) 0) (AV.bin Go.BinOp.add (AV.cel x0 6) (AV.prj r769 0)))) →
                    ((AV.binOk Go.BinOp.sub (AV.cel x0 2) (AV.cel x0 9)) ∧
                    ((AV.inb (ys4737.getD 1 default) (ys4737.getD 0 default)) ∧
                    ((AV.binOk Go.BinOp.sub (AV.at (ys4737.getD 1 default) (ys4737.getD 0 default) 0) (AV.cel x0 6)) ∧
                    ((AV.binOk Go.BinOp.mul (AV.bin Go.BinOp.sub (AV.cel x0 2) (AV.cel x0 9)) (AV.bin Go.BinOp.sub (AV.at (ys4737.getD 1 default) (ys4737.getD 0 default) 0) (AV.cel x0 6))) ∧
                    (∃ r6913 : AV, ((Fn Tryd.prog 48 [(AV.bin Go.BinOp.mul (AV.bin Go.BinOp.sub (AV.cel x0 2) (AV.cel x0 9)) (AV.bin Go.BinOp.sub (AV.at (ys4737.getD 1 default) (ys4737.getD 0 default) 0) (AV.cel x0 6))), (AV.prj r769 0)] (Sh.tup [Sh.sc, Sh.sc]) r6913) ∧
                    ((AV.binOk Go.BinOp.add (AV.cel x0 9) (AV.prj r6913 0)) ∧
                    ((AV.isOne (AV.bin Go.BinOp.add (AV.cel x0 9) (AV.prj r6913 0))) ∧
                    ((AV.inb (ys4737.getD 1 default) (ys4737.getD 0 default)) ∧
                    ((AV.binOk Go.BinOp.add (ys4737.getD 0 default) (AV.int 1)) ∧
                    (again4737 [(AV.bin Go.BinOp.add (ys4737.getD 0 default) (AV.int 1)), (AV.setEl (ys4737.getD 1 default) (ys4737.getD 0 default) 3 [(AV.bin Go.BinOp.add (AV.cel x0 9) (AV.prj r6913 0))])])))))))))))))))))) ∧
                ((isF (AV.bin Go.BinOp.lss (ys4737.getD 0 default) (AV.len r1921))) →
                  ((AV.flatS (ys4737.getD 1 default)) ∧
                  ((AV.flat (AV.int 0)) ∧
                  (fSame (AV.tup [(ys4737.getD 1 default), (AV.int 0)]) r)))))))))))))))))))))) ∧
      ((isF (AV.bin Go.BinOp.lss (AV.bin Go.BinOp.add (AV.cel x0 6) (AV.prj r769 0)) (AV.at r1921 (AV.bin Go.BinOp.sub (AV.len r1921) (AV.int 1)) 0))) →
        (fLoop 3521 [(AV.int 0), r1921] fun ys3521 again3521 =>
          ((AV.binOk Go.BinOp.lss (ys3521.getD 0 default) (AV.len r1921)) ∧
          ((AV.isBool (AV.bin Go.BinOp.lss (ys3521.getD 0 default) (AV.len r1921))) ∧
          (((isT (AV.bin Go.BinOp.lss (ys3521.getD 0 default) (AV.len r1921))) →
            ((AV.inb (ys3521.getD 1 default) (ys3521.getD 0 default)) ∧
            ((AV.inb (ys3521.getD 1 default) (ys3521.getD 0 default)) ∧
            ((AV.binOk Go.BinOp.geq (AV.at (ys3521.getD 1 default) (ys3521.getD 0 default) 0) (AV.bin Go.BinOp.add (AV.cel x0 6) (AV.prj r769 0))) ∧
            ((AV.isBool (AV.bin Go.BinOp.geq (AV.at (ys3521.getD 1 default) (ys3521.getD 0 default) 0) (AV.bin Go.BinOp.add (AV.cel x0 6) (AV.prj r769 0)))) ∧
            (((isT (AV.bin Go.BinOp.geq (AV.at (ys3521.getD 1 default) (ys3521.getD 0 default) 0) (AV.bin Go.BinOp.add (AV.cel x0 6) (AV.prj r769 0)))) →
              ((AV.isOne (AV.cel x0 2)) ∧
              ((AV.inb (ys3521.getD 1 default) (ys3521.getD 0 default)) ∧
              ((AV.binOk Go.BinOp.add (ys3521.getD 0 default) (AV.int 1)) ∧
              (again3521 [(AV.bin Go.BinOp.add (ys3521.getD 0 default) (AV.int 1)), (AV.setEl (ys3521.getD 1 default) (ys3521.getD 0 default) 3 [(AV.cel x0 2)])]))))) ∧
            ((isF (AV.bin Go.BinOp.geq (AV.at (ys3521.getD 1 default) (ys3521.getD 0 default) 0) (AV.bin Go.BinOp.add (AV.cel x0 6) (AV.prj r769 0)))) →
              ((AV.binOk Go.BinOp.sub (AV.cel x0 2) (AV.cel x0 9)) ∧
              ((AV.inb (ys3521.getD 1 default) (ys3521.getD 0 default)) ∧
              ((AV.binOk Go.BinOp.sub (AV.at (ys3521.getD 1 default) (ys3521.getD 0 default) 0) (AV.cel x0 6)) ∧
              ((AV.binOk Go.BinOp.mul (AV.bin Go.BinOp.sub (AV.cel x0 2) (AV.cel x0 9)) (AV.bin Go.BinOp.sub (AV.at (ys3521.getD 1 default) (ys3521.getD 0 default) 0) (AV.cel x0 6))) ∧
              (∃ r5697 : AV, ((Fn Tryd.prog 48 [(AV.bin Go.BinOp.mul (AV.bin Go.BinOp.sub (AV.cel x0 2) (AV.cel x0 9)) (AV.bin Go.BinOp.sub (AV.at (ys3521.getD 1 default) (ys3521.getD 0 default) 0) (AV.cel x0 6))), (AV.prj r769 0)] (Sh.tup [Sh.sc, Sh.sc]) r5697) ∧
              ((AV.binOk Go.BinOp.add (AV.cel x0 9) (AV.prj r5697 0)) ∧
              ((AV.isOne (AV.bin Go.BinOp.add (AV.cel x0 9) (AV.prj r5697 0))) ∧
              ((AV.inb (ys3521.getD 1 default) (ys3521.getD 0 default)) ∧
              ((AV.binOk Go.BinOp.add (ys3521.getD 0 default) (AV.int 1)) ∧
              (again3521 [(AV.bin Go.BinOp.add (ys3521.getD 0 default) (AV.int 1)), (AV.setEl (ys3521.getD 1 default) (ys3521.getD 0 default) 3 [(AV.bin Go.BinOp.add (AV.cel x0 9) (AV.prj r5697 0))])])))))))))))))))))) ∧
          ((isF (AV.bin Go.BinOp.lss (ys3521.getD 0 default) (AV.len r1921))) →
            ((AV.flatS (ys3521.getD 1 default)) ∧
            ((AV.flat (AV.int 0)) ∧
            (fSame (AV.tup [(ys3521.getD 1 default), (AV.int 0)]) r)))))))))))))))))) ∧
    ((isF (AV.bin Go.BinOp.gtr (AV.len r1921) (AV.int 0))) →
      ((AV.isBool (AV.bin Go.BinOp.gtr (AV.len r1921) (AV.int 0))) ∧
      ((isF (AV.bin Go.BinOp.gtr (AV.len r1921) (AV.int 0))) ∧
      (fLoop 3521 [(AV.int 0), r1921] fun ys3521 again3521 =>
        ((AV.binOk Go.BinOp.lss (ys3521.getD 0 default) (AV.len r1921)) ∧
        ((AV.isBool (AV.bin Go.BinOp.lss (ys3521.getD 0 default) (AV.len r1921))) ∧
        (((isT (AV.bin Go.BinOp.lss (ys3521.getD 0 default) (AV.len r1921))) →
          ((AV.inb (ys3521.getD 1 default) (ys3521.getD 0 default)) ∧
          ((AV.inb (ys3521.getD 1 default) (ys3521.getD 0 default)) ∧
          ((AV.binOk Go.BinOp.geq (AV.at (ys3521.getD 1 default) (ys3521.getD 0 default) 0) (AV.bin Go.BinOp.add (AV.cel x0 6) (AV.prj r769 0))) ∧
          ((AV.isBool (AV.bin Go.BinOp.geq (AV.at (ys3521.getD 1 default) (ys3521.getD 0 default) 0) (AV.bin Go.BinOp.add (AV.cel x0 6) (AV.prj r769 0)))) ∧
          (((isT (AV.bin Go.BinOp.geq (AV.at (ys3521.getD 1 default) (ys3521.getD 0 default) 0) (AV.bin Go.BinOp.add (AV.cel x0 6) (AV.prj r769 0)))) →
            ((AV.isOne (AV.cel x0 2)) ∧
            ((AV.inb (ys3521.getD 1 default) (ys3521.getD 0 default)) ∧
            ((AV.binOk Go.BinOp.add (ys3521.getD 0 default) (AV.int 1)) ∧
            (again3521 [(AV.bin Go.BinOp.add (ys3521.getD 0 default) (AV.int 1)), (AV.setEl (ys3521.getD 1 default) (ys3521.getD 0 default) 3 [(AV.cel x0 2)])]))))) ∧
          ((isF (AV.bin Go.BinOp.geq (AV.at (ys3521.getD 1 default) (ys3521.getD 0 default) 0) (AV.bin Go.BinOp.add (AV.cel x0 6) (AV.prj r769 0)))) →
            ((AV.binOk Go.BinOp.sub (AV.cel x0 2) (AV.cel x0 9)) ∧
            ((AV.inb (ys3521.getD 1 default) (ys3521.getD 0 default)) ∧
            ((AV.binOk Go.BinOp.sub (AV.at (ys3521.getD 1 default) (ys3521.getD 0 default) 0) (AV.cel x0 6)) ∧
            ((AV.binOk Go.BinOp.mul (AV.bin Go.BinOp.sub (AV.cel x0 2) (AV.cel x0 9)) (AV.bin Go.BinOp.sub (AV.at (ys3521.getD 1 default) (ys3521.getD 0 default) 0) (AV.cel x0 6))) ∧
            (∃ r5697 : AV, ((Fn Tryd.prog 48 [(AV.bin Go.BinOp.mul (AV.bin Go.BinOp.sub (AV.cel x0 2) (AV.cel x0 9)) (AV.bin Go.BinOp.sub (AV.at (ys3521.getD 1 default) (ys3521.getD 0 default) 0) (AV.cel x0 6))), (AV.prj r769 0)] (Sh.tup [Sh.sc, Sh.sc]) r5697) ∧
            ((AV.binOk Go.BinOp.add (AV.cel x0 9) (AV.prj r5697 0)) ∧
            ((AV.isOne (AV.bin Go.BinOp.add (AV.cel x0 9) (AV.prj r5697 0))) ∧
            ((AV.inb (ys3521.getD 1 default) (ys3521.getD 0 default)) ∧
            ((AV.binOk Go.BinOp.add (ys3521.getD 0 default) (AV.int 1)) ∧
            (again3521 [(AV.bin Go.BinOp.add (ys3521.getD 0 default) (AV.int 1)), (AV.setEl (ys3521.getD 1 default) (ys3521.getD 0 default) 3 [(AV.bin Go.BinOp.add (AV.cel x0 9) (AV.prj r5697 0))])])))))))))))))))))) ∧
        ((isF (AV.bin Go.BinOp.lss (ys3521.getD 0 default) (AV.len r1921))) →
          ((AV.flatS (ys3521.getD 1 default)) ∧
          ((AV.flat (AV.int 0)) ∧
          (fSame (AV.tup [(ys3521.getD 1 default), (AV.int 0)]) r))))))))))))))))) ∧
  ((isF (AV.bin Go.BinOp.gtr (AV.prj r769 0) (AV.int 0))) →
    ((AV.isBool (AV.bin Go.BinOp.gtr (AV.prj r769 0) (AV.int 0))) ∧
    ((isF (AV.bin Go.BinOp.gtr (AV.prj r769 0) (AV.int 0))) ∧
    (fLoop 3521 [(AV.int 0), r1921] fun ys3521 again3521 =>
      ((AV.binOk Go.BinOp.lss (ys3521.getD 0 default) (AV.len r1921)) ∧
      ((AV.isBool (AV.bin Go.BinOp.lss (ys3521.getD 0 default) (AV.len r1921))) ∧
      (((isT (AV.bin Go.BinOp.lss (ys3521.getD 0 default) (AV.len r1921))) →
        ((AV.inb (ys3521.getD 1 default) (ys3521.getD 0 default)) ∧
        ((AV.inb (ys3521.getD 1 default) (ys3521.getD 0 default)) ∧
        ((AV.binOk Go.BinOp.geq (AV.at (ys3521.getD 1 default) (ys3521.getD 0 default) 0) (AV.bin Go.BinOp.add (AV.cel x0 6) (AV.prj r769 0))) ∧
        ((AV.isBool (AV.bin Go.BinOp.geq (AV.at (ys3521.getD 1 default) (ys3521.getD 0 default) 0) (AV.bin Go.BinOp.add (AV.cel x0 6) (AV.prj r769 0)))) ∧
        (((isT (AV.bin Go.BinOp.geq (AV.at (ys3521.getD 1 default) (ys3521.getD 0 default) 0) (AV.bin Go.BinOp.add (AV.cel x0 6) (AV.prj r769 0)))) →
          ((AV.isOne (AV.cel x0 2)) ∧
          ((AV.inb (ys3521.getD 1 default) (ys3521.getD 0 default)) ∧
          ((AV.binOk Go.BinOp.add (ys3521.getD 0 default) (AV.int 1)) ∧
          (again3521 [(AV.bin Go.BinOp.add (ys3521.getD 0 default) (AV.int 1)), (AV.setEl (ys3521.getD 1 default) (ys3521.getD 0 default) 3 [(AV.cel x0 2)])]))))) ∧
        ((isF (AV.bin Go.BinOp.geq (AV.at (ys3521.getD 1 default) (ys3521.getD 0 default) 0) (AV.bin Go.BinOp.add (AV.cel x0 6) (AV.prj r769 0)))) →
          ((AV.binOk Go.BinOp.sub (AV.cel x0 2) (AV.cel x0 9)) ∧
          ((AV.inb (ys3521.getD 1 default) (ys3521.getD 0 default)) ∧
          ((AV.binOk Go.BinOp.sub (AV.at (ys3521.getD 1 default) (ys3521.getD 0 default) 0) (AV.cel x0 6)) ∧
          ((AV.binOk Go.BinOp.mul (AV.bin Go.BinOp.sub (AV.cel x0 2) (AV.cel x0 9)) (AV.bin Go.BinOp.sub (AV.at (ys3521.getD 1 default) (ys3521.getD 0 default) 0) (AV.cel x0 6))) ∧
          (∃ r5697 : AV, ((Fn Tryd.prog 48 [(AV.bin Go.BinOp.mul (AV.bin Go.BinOp.sub (AV.cel x0 2) (AV.cel x0 9)) (AV.bin Go.BinOp.sub (AV.at (ys3521.getD 1 default) (ys3521.getD 0 default) 0) (AV.cel x0 6))), (AV.prj r769 0)] (Sh.tup [Sh.sc, Sh.sc]) r5697) ∧
          ((AV.binOk Go.BinOp.add (AV.cel x0 9) (AV.prj r5697 0)) ∧
          ((AV.isOne (AV.bin Go.BinOp.add (AV.cel x0 9) (AV.prj r5697 0))) ∧
          ((AV.inb (ys3521.getD 1 default) (ys3521.getD 0 default)) ∧
          ((AV.binOk Go.BinOp.add (ys3521.getD 0 default) (AV.int 1)) ∧
          (again3521 [(AV.bin Go.BinOp.add (ys3521.getD 0 default) (AV.int 1)), (AV.setEl (ys3521.getD 1 default) (ys3521.getD 0 default) 3 [(AV.bin Go.BinOp.add (AV.cel x0 9) (AV.prj r5697 0))])])))))))))))))))))) ∧
      ((isF (AV.bin Go.BinOp.lss (ys3521.getD 0 default) (AV.len r1921))) →
        ((AV.flatS (ys3521.getD 1 default)) ∧
        ((AV.flat (AV.int 0)) ∧
        (fSame (AV.tup [(ys3521.getD 1 default), (AV.int 0)]) r)))))))))))))))))))))))))) := by kernel_rfl
end EffF
end Go.Proofs.YtdlakpomcafemaaDoor
/- effects: what kinds of aircraft are; the tubes of the fact. -/
namespace Go.Proofs.YtdlakpomcafemaaDoor
open Go.RowKit
set_option linter.unusedVariables false
set_option linter.unusedSimpArgs false
set_option maxRecDepth 100000
structure Kd where
  nm : ByteArray
  wk : Int
  cl : Int
  up : Int
  dn : Int
  sl : Int
  fa : Int
def encKd (k : Kd) : List AV := [.string k.nm, .int k.wk, .int k.cl, .int k.up, .int k.dn, .int k.sl, .int k.fa]
abbrev kd (k : Kd) : AV := .agg (encKd k)
def kE (k : Kd) : Int :=
  if isName k.nm = false then 5
  else if k.wk < 0 ∨ k.wk > 3 then 1
  else if k.cl < 1 ∨ k.cl > 60000 ∨ k.up < 1 ∨ k.up > 200 ∨ k.dn < 1 ∨ k.dn > 200 ∨ k.sl < 1 ∨ k.sl > 400 ∨ k.fa < 1 ∨ k.fa > 400 then 4
  else if k.sl > k.fa then 3 else 0
theorem acheck_fn (k : Kd) : Fn Tryd.prog 18 [kd k] .sc (.int (kE k)) := by
  refine fn_run mixed 3 (Γ := EffF.Γ) (ann := EffF.ann) Tryd.func18 rfl Tryd.call18 ((EffF.acheck_form _ _).mpr ?_)
  have e1 : Ent Tryd.prog 29 := Tryd.call29
  have hn := name_fn k.nm
  obtain ⟨E, hE⟩ : ∃ E, E = kE k := ⟨_, rfl⟩
  rw [← hE]
  unfold kE at hE
  obtain ⟨nm, wk, cl, up, dn, sl, fa⟩ := k
  simp only at hn hE
  generalize isName nm = b at *
  refine ⟨by simp [encKd], _, hn, ?_⟩
  have g5 : b = false → E = 5 := fun h => by rw [hE, if_pos h]
  have g1 : b = true → (wk < 0 ∨ wk > 3) → E = 1 := fun h h1 => by rw [hE, if_neg (by simp [h]), if_pos h1]
  have g4 : b = true → 0 ≤ wk → wk ≤ 3 → (cl < 1 ∨ cl > 60000 ∨ up < 1 ∨ up > 200 ∨ dn < 1 ∨ dn > 200 ∨ sl < 1 ∨ sl > 400 ∨ fa < 1 ∨ fa > 400) → E = 4 := fun h h1 h2 h3 => by rw [hE, if_neg (by simp [h]), if_neg (by omega), if_pos h3]
  have g3 : b = true → 0 ≤ wk → wk ≤ 3 → ¬ (cl < 1 ∨ cl > 60000 ∨ up < 1 ∨ up > 200 ∨ dn < 1 ∨ dn > 200 ∨ sl < 1 ∨ sl > 400 ∨ fa < 1 ∨ fa > 400) → sl > fa → E = 3 := fun h h1 h2 h3 h4 => by rw [hE, if_neg (by simp [h]), if_neg (by omega), if_neg h3, if_pos h4]
  have g0 : b = true → 0 ≤ wk → wk ≤ 3 → ¬ (cl < 1 ∨ cl > 60000 ∨ up < 1 ∨ up > 200 ∨ dn < 1 ∨ dn > 200 ∨ sl < 1 ∨ sl > 400 ∨ fa < 1 ∨ fa > 400) → ¬ sl > fa → E = 0 := fun h h1 h2 h3 h4 => by rw [hE, if_neg (by simp [h]), if_neg (by omega), if_neg h3, if_neg h4]
  clear hE
  cases b
  · have := g5 rfl
    simp [this]
  · simp [encKd, e1]
    clear g5
    replace g1 := g1 rfl
    replace g4 := g4 rfl
    replace g3 := g3 rfl
    replace g0 := g0 rfl
    repeat' (first | refine And.intro ?_ ?_ | intro _)
    all_goals (first | assumption | omega)
def levT : List Nd := [⟨0, 0, 0, 9000, 100, 50⟩, ⟨100, 10000, 0, 9000, 100, 50⟩]
def jetK : Kd := ⟨⟨#[74, 69, 84]⟩, 1, 40000, 50, 40, 50, 300⟩
theorem level_fn : Fn Tryd.prog 9 [] (.row 39 6 true) (tube levT) := by
  have e := EffF.level_form (tube levT)
  have k := fun h => fn_run mixed 3 (Γ := EffF.Γ) (ann := EffF.ann) Tryd.func9 rfl Tryd.call9 (e.mpr h)
  refine k ?_
  clear k e
  exact ⟨flat_tube levT, rfl⟩
theorem jet_fn : Fn Tryd.prog 11 [] .sc (kd jetK) := by
  have e := EffF.jet_form (kd jetK)
  have k := fun h => fn_run mixed 3 (Γ := EffF.Γ) (ann := EffF.ann) Tryd.func11 rfl Tryd.call11 (e.mpr h)
  refine k ?_
  clear k e
  simp [jetK, encKd]
end Go.Proofs.YtdlakpomcafemaaDoor
/- effects: what the run ends in. -/
namespace Go.Proofs.YtdlakpomcafemaaDoor
open Go.RowKit
set_option linter.unusedVariables false
set_option maxRecDepth 100000
namespace EffG
--GAMMA
def Γ : FuncId → Option Ca := fun f =>
  if f = 14 ∨ f = 20 ∨ f = 16 ∨ f = 18 ∨ f = 30 ∨ f = 28 ∨ f = 11 ∨ f = 10 ∨ f = 4 ∨ f = 6 ∨ f = 25 ∨ f = 13 ∨ f = 15 ∨ f = 17 ∨ f = 19 then some (.fn .sc)
  else if f = 21 ∨ f = 48 ∨ f = 49 ∨ f = 50 ∨ f = 12 then some (.fn (.tup [.sc, .sc]))
  else if f = 9 ∨ f = 23 ∨ f = 24 then some (.fn (.row 39 6 true))
  else if f = 5 ∨ f = 33 ∨ f = 34 ∨ f = 35 ∨ f = 36 then some (.fn (.tup [.row 39 6 true, .sc]))
  else if f = 22 then some (.fn (.tup [.row 39 6 true, .sc, .sc]))
  else if f = 37 then some (.fn (.row 39 6 false))
  else if f = 53 then some (.upd true)
  else some .inl
def ann : FuncId → Nat → LoopEx := fun f r =>
  if f = 33 then ⟨[], [1000007], [], []⟩
  else if f = 5 ∧ r = 13 then ⟨[], [2305, 2369], [(1985, 0), (1985, 1), (1985, 2), (1985, 3), (1985, 6), (1985, 7), (1985, 8), (1985, 9), (1985, 10), (1985, 11), (1985, 12), (1985, 13), (1985, 14), (1985, 15), (1985, 16), (1985, 17), (1985, 18), (1985, 19), (1985, 20), (1985, 21)], [(1985, 4, 39, 6), (1985, 5, 39, 6)]⟩
  else ⟨[], [], [], []⟩
--END GAMMA
theorem of2_form (x0 r : AV) : fnF Tryd.prog Γ ann 3 15 Tryd.f15 (Tryd.f15.body.getD .skip) (.nil) [x0] (.sc) r = (((AV.isRef x0 4) ∧
(∃ r129 : AV, ((Fn Tryd.prog 16 [(AV.derA x0)] Sh.sc r129) ∧
((AV.flat r129) ∧
(fSame r129 r)))))) := by kernel_rfl
theorem of3_form (x0 r : AV) : fnF Tryd.prog Γ ann 3 17 Tryd.f17 (Tryd.f17.body.getD .skip) (.nil) [x0] (.sc) r = (((AV.isRef x0 7) ∧
(∃ r129 : AV, ((Fn Tryd.prog 18 [(AV.derA x0)] Sh.sc r129) ∧
((AV.flat r129) ∧
(fSame r129 r)))))) := by kernel_rfl
theorem of4_form (x0 r : AV) : fnF Tryd.prog Γ ann 3 19 Tryd.f19 (Tryd.f19.body.getD .skip) (.nil) [x0] (.sc) r = (((AV.isRef x0 2) ∧
(∃ r129 : AV, ((Fn Tryd.prog 20 [(AV.derA x0)] Sh.sc r129) ∧
((AV.flat r129) ∧
(fSame r129 r)))))) := by kernel_rfl
theorem clone_form (x0 r : AV) : fnF Tryd.prog Γ ann 3 23 Tryd.f23 (Tryd.f23.body.getD .skip) (.nil) [x0] (.row 39 6 true) r = ((fNil x0
  ((AV.flatS (AV.mk 6 [])) ∧
  (fSame (AV.mk 6 []) r))
  ((AV.isSl x0 6) ∧
  ((AV.room (AV.mk 6 []) x0 48) ∧
  ((AV.flatS (AV.app 6 (AV.mk 6 []) x0)) ∧
  (fSame (AV.app 6 (AV.mk 6 []) x0) r)))))) := by kernel_rfl
theorem concat_form (x0 r : AV) : fnF Tryd.prog Γ ann 3 24 Tryd.f24 (Tryd.f24.body.getD .skip) (.nil) [x0] (.row 39 6 true) r = (((AV.isSl x0 1) ∧
(fLoop 321 [(AV.int 0), (AV.int 0)] fun ys321 again321 =>
  ((AV.binOk Go.BinOp.lss (ys321.getD 1 default) (AV.len x0)) ∧
  ((AV.isBool (AV.bin Go.BinOp.lss (ys321.getD 1 default) (AV.len x0))) ∧
  (((isT (AV.bin Go.BinOp.lss (ys321.getD 1 default) (AV.len x0))) →
    ((AV.isSl x0 1) ∧
    ((AV.inb x0 (ys321.getD 1 default)) ∧
    ((AV.isSl (AV.at x0 (ys321.getD 1 default) 0) 6) ∧
    ((AV.binOk Go.BinOp.add (ys321.getD 0 default) (AV.len (AV.at x0 (ys321.getD 1 default) 0))) ∧
    ((AV.binOk Go.BinOp.lss (AV.bin Go.BinOp.add (ys321.getD 0 default) (AV.len (AV.at x0 (ys321.getD 1 default) 0))) (AV.int 0)) ∧
    ((AV.isBool (AV.bin Go.BinOp.lss (AV.bin Go.BinOp.add (ys321.getD 0 default) (AV.len (AV.at x0 (ys321.getD 1 default) 0))) (AV.int 0))) ∧
    (((isT (AV.bin Go.BinOp.lss (AV.bin Go.BinOp.add (ys321.getD 0 default) (AV.len (AV.at x0 (ys321.getD 1 default) 0))) (AV.int 0))) →
      (fStuck "operation")) ∧
    ((isF (AV.bin Go.BinOp.lss (AV.bin Go.BinOp.add (ys321.getD 0 default) (AV.len (AV.at x0 (ys321.getD 1 default) 0))) (AV.int 0))) →
      ((AV.binOk Go.BinOp.add (ys321.getD 1 default) (AV.int 1)) ∧
      (again321 [(AV.bin Go.BinOp.add (ys321.getD 0 default) (AV.len (AV.at x0 (ys321.getD 1 default) 0))), (AV.bin Go.BinOp.add (ys321.getD 1 default) (AV.int 1))]))))))))))) ∧
  ((isF (AV.bin Go.BinOp.lss (ys321.getD 1 default) (AV.len x0))) →
    (∃ r449 : AV, ((Fn Tryd.prog 37 [(AV.lit (Value.slice none 0 0)), (ys321.getD 0 default)] (Sh.row 39 6 false) r449) ∧
    ((AV.isSl x0 1) ∧
    (fLoop 769 [(AV.int 0), r449] fun ys769 again769 =>
      ((AV.binOk Go.BinOp.lss (ys769.getD 0 default) (AV.len x0)) ∧
      ((AV.isBool (AV.bin Go.BinOp.lss (ys769.getD 0 default) (AV.len x0))) ∧
      (((isT (AV.bin Go.BinOp.lss (ys769.getD 0 default) (AV.len x0))) →
        ((AV.isSl x0 1) ∧
        ((AV.inb x0 (ys769.getD 0 default)) ∧
        ((AV.isSl (AV.at x0 (ys769.getD 0 default) 0) 6) ∧
        ((AV.room (ys769.getD 1 default) (AV.at x0 (ys769.getD 0 default) 0) 48) ∧
        ((AV.binOk Go.BinOp.add (ys769.getD 0 default) (AV.int 1)) ∧
        (again769 [(AV.bin Go.BinOp.add (ys769.getD 0 default) (AV.int 1)), (AV.app 6 (ys769.getD 1 default) (AV.at x0 (ys769.getD 0 default) 0))]))))))) ∧
      ((isF (AV.bin Go.BinOp.lss (ys769.getD 0 default) (AV.len x0))) →
        ((AV.flatS (ys769.getD 1 default)) ∧
        (fSame (ys769.getD 1 default) r))))))))))))))))) := by kernel_rfl
end EffG
end Go.Proofs.YtdlakpomcafemaaDoor
/- effects: climbing; what is checked ahead. -/
namespace Go.Proofs.YtdlakpomcafemaaDoor
open Go.RowKit
set_option linter.unusedVariables false
set_option linter.unusedSimpArgs false
set_option maxRecDepth 100000
theorem kE_ok {k : Kd} (h : kE k = 0) : 1 ≤ k.cl ∧ k.cl ≤ 60000 ∧ 1 ≤ k.up ∧ k.up ≤ 200 ∧ 1 ≤ k.dn ∧ k.dn ≤ 200 := by
  unfold kE at h
  split at h
  · cases h
  · split at h
    · cases h
    · split at h
      · cases h
      · omega
def clE2 (k : Kd) (a b : Int) : Int := if kE k ≠ 0 then kE k else if a < 0 ∨ a > 60000 ∨ b < 0 ∨ b > 60000 then 4 else if a > k.cl ∨ b > k.cl then 20 else 0
def clN (k : Kd) (a b : Int) : Int := if a ≤ b then dvu (b - a) k.up else dvu (a - b) k.dn
def clV (k : Kd) (a b : Int) : AV := if clE2 k a b = 0 then .tup [.int (clN k a b), .int 0] else .tup [.int 0, .int (clE2 k a b)]
theorem climb_fn (k : Kd) (a b : Int) : Fn Tryd.prog 50 [kd k, .int a, .int b] (.tup [.sc, .sc]) (clV k a b) := by
  have e := EffF.climb_form (kd k) (.int a) (.int b) (clV k a b)
  have kk := fun h => fn_run mixed 3 (Γ := EffF.Γ) (ann := EffF.ann) Tryd.func50 rfl Tryd.call50 (e.mpr h)
  refine kk ?_
  clear kk e
  have hc := acheck_fn k
  have hk := kE_ok (k := k)
  have hV : clV k a b = if clE2 k a b = 0 then .tup [.int (clN k a b), .int 0] else .tup [.int 0, .int (clE2 k a b)] := rfl
  have hE : clE2 k a b = if kE k ≠ 0 then kE k else if a < 0 ∨ a > 60000 ∨ b < 0 ∨ b > 60000 then 4 else if a > k.cl ∨ b > k.cl then 20 else 0 := rfl
  have hN : clN k a b = if a ≤ b then dvu (b - a) k.up else dvu (a - b) k.dn := rfl
  generalize clV k a b = V at *
  generalize clE2 k a b = E at *
  generalize clN k a b = N at *
  generalize kE k = e at *
  obtain ⟨nm, wk, cl, up, dn, sl, fa⟩ := k
  simp only at hk hE hN
  have hV0 : ∀ e', e' ≠ 0 → E = e' → V = .tup [.int 0, .int e'] := fun e' h1 h2 => by rw [hV, h2, if_neg h1]
  have v0 : e ≠ 0 → V = .tup [.int 0, .int e] := fun h => hV0 _ h (by rw [hE, if_pos h])
  have v4 : e = 0 → (a < 0 ∨ a > 60000 ∨ b < 0 ∨ b > 60000) → V = .tup [.int 0, .int 4] := fun h h2 => hV0 _ (by decide) (by rw [hE, if_neg (by simp [h]), if_pos h2])
  have v20 : e = 0 → ¬ (a < 0 ∨ a > 60000 ∨ b < 0 ∨ b > 60000) → (a > cl ∨ b > cl) → V = .tup [.int 0, .int 20] := fun h h2 h3 => hV0 _ (by decide) (by rw [hE, if_neg (by simp [h]), if_neg h2, if_pos h3])
  have vN : e = 0 → ¬ (a < 0 ∨ a > 60000 ∨ b < 0 ∨ b > 60000) → ¬ (a > cl ∨ b > cl) → V = .tup [.int N, .int 0] := fun h h2 h3 => by
    have h0 : E = 0 := by rw [hE, if_neg (by simp [h]), if_neg h2, if_neg h3]
    rw [hV, if_pos h0]
  clear hV hE
  refine ⟨by simp [encKd], _, hc, ?_⟩
  simp [encKd]
  refine ⟨fun z => (v0 z).symm, fun z => ?_⟩
  obtain ⟨k1, k2, k3, k4, k5, k6⟩ := hk z
  replace v4 := v4 z
  replace v20 := v20 z
  replace vN := vN z
  refine ⟨fun a1 => ⟨a1, (v4 (by omega)).symm⟩, fun a1 => ⟨a1, fun a2 => ⟨a2, (v4 (by omega)).symm⟩, fun a2 => ⟨a2, fun b1 => ⟨b1, (v4 (by omega)).symm⟩, fun b1 => ⟨b1, fun b2 => (v4 (by omega)).symm, fun b2 => ?_⟩⟩⟩⟩
  refine ⟨fun c1 => ⟨c1, (v20 (by omega) (by omega)).symm⟩, fun c1 => ⟨c1, fun c2 => (v20 (by omega) (by omega)).symm, fun c2 => ?_⟩⟩
  have hv := vN (by omega) (by omega)
  have hw1 : wr (b - a) = b - a := wr_id (by omega) (by omega)
  have hw2 : wr (a - b) = a - b := wr_id (by omega) (by omega)
  rw [hv]
  refine ⟨fun q => ?_, fun q => ?_⟩
  · have hd := divu_fn (b - a) up (by omega) (by omega) (by omega)
    rw [hN, if_pos q, hw1]
    exact ⟨_, hd, by simp⟩
  · have hd := divu_fn (a - b) dn (by omega) (by omega) (by omega)
    rw [hN, if_neg (by omega), hw2]
    exact ⟨_, hd, by simp⟩
theorem of1_fn (l : List Nd) : Fn Tryd.prog 13 [.ref [tube l]] .sc (.int (tE l)) := by
  refine fn_run mixed 3 (Γ := EffF.Γ) (ann := EffF.ann) Tryd.func13 rfl Tryd.call13 ((EffF.of1_form _ _).mpr ?_)
  exact ⟨⟨_, rfl, rfl⟩, _, tcheck_fn l, by simp⟩
theorem tclone_fn (l : List Nd) (hl : l.length ≤ 1000000) : Fn Tryd.prog 23 [tube l] (.row 39 6 true) (tube l) := by
  refine fn_run mixed 3 (Γ := EffG.Γ) (ann := EffG.ann) Tryd.func23 rfl Tryd.call23 ((EffG.clone_form _ _).mpr ?_)
  have hf := flat_tube l
  simp [AV.room]
  simp [lst] at hf ⊢
  exact ⟨by omega, hf⟩
theorem of3_fn (k : Kd) : Fn Tryd.prog 17 [.ref (encKd k)] .sc (.int (kE k)) := by
  refine fn_run mixed 3 (Γ := EffG.Γ) (ann := EffG.ann) Tryd.func17 rfl Tryd.call17 ((EffG.of3_form _ _).mpr ?_)
  have hc := acheck_fn k
  exact ⟨⟨_, rfl, by simp [encKd]⟩, _, hc, by simp⟩
theorem of4_fn (q : Pt) : Fn Tryd.prog 19 [.ref (encP q)] .sc (.int (pE q)) := by
  refine fn_run mixed 3 (Γ := EffG.Γ) (ann := EffG.ann) Tryd.func19 rfl Tryd.call19 ((EffG.of4_form _ _).mpr ?_)
  have hc := pe_fn q
  exact ⟨⟨_, rfl, by simp [encP]⟩, _, hc, by simp⟩
end Go.Proofs.YtdlakpomcafemaaDoor
/- effects: carrying out a clearance to a height. -/
namespace Go.Proofs.YtdlakpomcafemaaDoor
open Go.RowKit
set_option linter.unusedVariables false
set_option linter.unusedSimpArgs false
set_option maxRecDepth 100000
theorem carried0 (a0 a2 a3 a4 a5 a6 a7 a8 a9 a10 a11 a12 a13 a14 a15 a16 a17 a18 a19 a20 a21 : AV) (o : List Nd) (e : Int) (hh : Fn Tryd.prog 33 [.agg [a0, .int 0, a2, a3, a4, a5, a6, a7, a8, a9, a10, a11, a12, a13, a14, a15, a16, a17, a18, a19, a20, a21]] (.tup [.row 39 6 true, .sc]) (.tup [tube o, .int e])) :
    Fn Tryd.prog 22 [.agg [a0, .int 0, a2, a3, a4, a5, a6, a7, a8, a9, a10, a11, a12, a13, a14, a15, a16, a17, a18, a19, a20, a21]] (.tup [.row 39 6 true, .sc, .sc]) (.tup [tube o, .bool false, .int e]) := by
  have q := EffF.carried_form (.agg [a0, .int 0, a2, a3, a4, a5, a6, a7, a8, a9, a10, a11, a12, a13, a14, a15, a16, a17, a18, a19, a20, a21]) (.tup [tube o, .bool false, .int e])
  have k := fun h => fn_run mixed 3 (Γ := EffF.Γ) (ann := EffF.ann) Tryd.func22 rfl Tryd.call22 (q.mpr h)
  refine k ?_
  clear k q
  have hf := flat_tube o
  simp
  refine ⟨_, hh, ?_⟩
  simp
  exact hf
end Go.Proofs.YtdlakpomcafemaaDoor
/- effects: the clearance is checked; climbed. -/
namespace Go.Proofs.YtdlakpomcafemaaDoor
open Go.RowKit
set_option linter.unusedVariables false
set_option linter.unusedSimpArgs false
set_option maxRecDepth 100000
theorem of2_fn (x : Cl) : Fn Tryd.prog 15 [.ref (encL x)] .sc (.int (clE x)) := by
  refine fn_run mixed 3 (Γ := EffG.Γ) (ann := EffG.ann) Tryd.func15 rfl Tryd.call15 ((EffG.of2_form _ _).mpr ?_)
  have hc := pcheck_fn x
  exact ⟨⟨_, rfl, by simp [encL]⟩, _, hc, by simp⟩
end Go.Proofs.YtdlakpomcafemaaDoor
/- slices.Grow of nil at nodes of tubes; slices.Concat of three tubes. -/
namespace Go.Proofs.YtdlakpomcafemaaDoor
open Go.RowKit Go.Lib
set_option linter.unusedVariables false
set_option linter.unusedSimpArgs false
set_option maxRecDepth 100000
theorem rowsApart_row {v : Value} {e s : Nat} {f : Bool} : RowsApart v (.row e s f) := fun j i j' i' hr hr' hne => by
  have hl : ∀ j i, isRow (leafSh j i (.row e s f)) = true → j = 0 ∧ i = 0 := fun j i h => by
    cases j with
    | zero => cases i with
      | zero => exact ⟨rfl, rfl⟩
      | succ i => cases h
    | succ j => cases i <;> cases h
  obtain ⟨rfl, rfl⟩ := hl j i hr
  obtain ⟨rfl, rfl⟩ := hl j' i' hr'
  exact absurd rfl (hne.elim id id)
theorem grow_fn (n : Nat) (hn : n ≤ 100000) : Fn Tryd.prog 37 [.lit (.slice none 0 0), .int (n : Nat)] (.row 39 6 false) (.sl 6 []) := by
  refine ⟨Tryd.call37, fun w ok cargs hok hgl hsz hargs => ?_⟩
  have mixed : Tryd.prog.follows .mixedOrders = true := by kernel_rfl
  obtain ⟨i0, hi0, hz0, hzs, hzb⟩ : ∃ i0, Tryd.prog.info? 39 = some i0 ∧ i0.zero = some (.agg #[.int .i64 0, .int .i64 0, .int .i64 0, .int .i64 0, .int .i64 0, .int .i64 0]) ∧ i0.size = 6 ∧ i0.bytes = 48 := by
    have := insNd_info
    cases hq : Tryd.prog.info? 39 with
    | none => rw [hq] at this; cases this
    | some i0 => rw [hq] at this; simp at this; exact ⟨i0, rfl, this.1, this.2.1, this.2.2⟩
  obtain rfl : cargs = #[.slice none 0 0, .int .i64 (n : Nat)] := by
    obtain ⟨l⟩ := cargs
    match l, hsz with
    | [a, b], _ =>
      have h0 := hargs 0 (by simp)
      have h1 := hargs 1 (by simp)
      have e0 : a = .slice none 0 0 := RV.lit_iff.1 (by simpa using h0)
      have e1 : b = .int .i64 (n : Nat) := RV.lit_iff.1 (by simpa using h1)
      rw [e0, e1]
  have hnn : ¬ ((n : Int) < 0) := by omega
  have hw0 : IntKind.i64.wrap 0 = 0 := by decide
  have hwn : IntKind.i64.wrap (n : Int) = (n : Int) := by rw [IntKind.wrap_i64]; omega
  clear hargs hsz
  have hsz : (Tryd.prog.info? 39).map (·.size) = some 6 := by kernel_rfl
  rcases Nat.eq_zero_or_pos n with rfl | hpos
  · go_enter Tryd.func37, Tryd.ntmps37
    go_wp2_with fail
    refine ⟨rfl, _, results_tmp rfl _ _ _, _, rfl, Below.refl _ _, ⟨[], [], rfl, by omega, by simp, ⟨rfl, .inl ⟨rfl, rfl⟩⟩, by simp, fun i j hi => by simp at hi⟩, rowsApart_row, Nat.le_refl _⟩
  · have hgt : (0 : Int) < n := by omega
    have hrz : ∀ ty, (Builtin.append_ #[23, 3] ty #[.slice none 0 0, .int .i64 (n : Nat)]).run Tryd.prog w =
      .ok (.slice (some ⟨w.heap.size, 0, none⟩) n (grownCap w n 0 39)) (w.drew.alloc (.cells (Builtin.zeroCells (.agg #[.int .i64 0, .int .i64 0, .int .i64 0, .int .i64 0, .int .i64 0, .int .i64 0] : Value).cells n ++ Builtin.zeroCells (.agg #[.int .i64 0, .int .i64 0, .int .i64 0, .int .i64 0, .int .i64 0, .int .i64 0] : Value).cells (grownCap w n 0 39 - n)) 39)) := fun ty =>
      Lib.run_append_nil_zeros w 23 3 ty 39 i0 _ .i64 .i64 insNd_und (by kernel_rfl) hi0 hz0 n hpos (by omega) (by omega) (by rw [hzb]; omega)
    obtain ⟨G, hG⟩ : ∃ G, G = grownCap w n 0 39 := ⟨_, rfl⟩
    have hGn : n ≤ G := by rw [hG]; exact grownCap_ge w _ _ _
    have hGm : G ≤ maxLen := by rw [hG]; exact grownCap_le_maxLen w n 0 39 (by unfold maxLen; omega)
    rw [← hG] at hrz
    obtain ⟨ROW, hROW⟩ : ∃ ROW : Array Value, ROW = Builtin.zeroCells (.agg #[.int .i64 0, .int .i64 0, .int .i64 0, .int .i64 0, .int .i64 0, .int .i64 0] : Value).cells n ++ Builtin.zeroCells (.agg #[.int .i64 0, .int .i64 0, .int .i64 0, .int .i64 0, .int .i64 0, .int .i64 0] : Value).cells (G - n) := ⟨_, rfl⟩
    rw [← hROW] at hrz
    have hRl : ROW.size = G * 6 := by
      rw [hROW]
      simp only [Array.size_append, Builtin.zeroCells, Value.cells, Array.size_map, Array.size_range]
      show n * 6 + (G - n) * 6 = G * 6
      rw [← Nat.add_mul]; congr 1; omega
    have hG0 : (0 : Int) ≤ G := by omega
    clear hROW hG
    go_enter Tryd.func37, Tryd.ntmps37
    go_wp2_with (at_builtin; refine Lib.wpList_append_run _ rfl _ _ _ _ rfl _ _ rfl rfl _ _ (hrz _) ?_)
    refine ⟨rfl, _, results_tmp rfl _ _ _, _, rfl, ?_, ⟨[], [], rfl, by omega, by simp, ⟨rfl, .inr ⟨w.heap.size, G, ROW, rfl, Nat.le_refl _, ?_, by simp, hGm, hRl, by simp⟩⟩, by simp, fun i j hi => by simp at hi⟩, rowsApart_row, Nat.le_succ _⟩
    · exact Below.alloc (Below.drew (Below.refl _ _)) (Nat.le_refl _) _
    · show (w.heap.push _)[w.heap.size]? = _
      simp
end Go.Proofs.YtdlakpomcafemaaDoor
/- slices.Concat at tubes. -/
namespace Go.Proofs.YtdlakpomcafemaaDoor
open Go.RowKit
set_option linter.unusedVariables false
set_option linter.unusedSimpArgs false
set_option maxRecDepth 100000
def encT (l : List Nd) : List AV := [tube l]
theorem flat_len_take : ∀ (LL : List (List Nd)) (n : Nat) (x : List Nd), LL[n]? = some x → (LL.take (n + 1)).flatten = (LL.take n).flatten ++ x
  | [], n, x, h => by simp at h
  | l :: LL, 0, x, h => by simp at h; simp [h]
  | l :: LL, n + 1, x, h => by
    have := flat_len_take LL n x (by simpa using h)
    simp only [List.take_succ_cons, List.flatten_cons, this, List.append_assoc]
theorem flat_le (LL : List (List Nd)) (n : Nat) : (LL.take n).flatten.length ≤ LL.flatten.length := by
  have := List.take_append_drop n LL
  conv => rhs; rw [← this]
  rw [List.flatten_append, List.length_append]
  omega
theorem concat_fn (LL : List (List Nd)) (h : LL.flatten.length ≤ 100000) (hl : LL.length ≤ 1000) : Fn Tryd.prog 24 [lst 1 encT LL] (.row 39 6 true) (tube LL.flatten) := by
  refine fn_run mixed 3 (Γ := EffG.Γ) (ann := EffG.ann) Tryd.func24 rfl Tryd.call24 ((EffG.concat_form _ _).mpr ?_)
  refine ⟨by simp, ?_⟩
  refine loop_list (σ := Nat) LL (fun n s => [.int (s : Nat), .int (n : Nat)]) (fun n _ s => s = (LL.take n).flatten.length) 0 rfl rfl ?_ ?_
  · rintro n x rest s K hx hr hn rfl hK
    have h1 := flat_len_take LL n x hx
    have h2 := flat_le LL (n + 1)
    have h3 : ((LL.take (n + 1)).flatten.length) = (LL.take n).flatten.length + x.length := by rw [h1, List.length_append]
    have w1 : wr (((LL.take n).flatten.length : Int) + (x.length : Int)) = (((LL.take (n + 1)).flatten.length : Nat) : Int) := by rw [wr_id (by omega) (by omega)]; omega
    have w2 : wr ((n : Int) + 1) = (n : Int) + 1 := wr_id (by omega) (by omega)
    generalize (LL.take n).flatten.length = a at *
    generalize (LL.take (n + 1)).flatten.length = b at *
    simp [hn, lst_at hx, encT, w1, w2]
    exact ⟨fun q => by omega, hK [.int (b : Nat), .int ((n : Int) + 1)] b (by simp) rfl⟩
  · rintro s K rfl
    rw [List.take_length]
    simp
    refine ⟨_, by simpa using grow_fn LL.flatten.length h, ?_⟩
    refine loop_list (σ := List Nd) LL (fun n s => [.int (n : Nat), tube s]) (fun n _ s => s = (LL.take n).flatten) [] rfl rfl ?_ ?_
    · rintro n x rest s K hx hr hn rfl hK
      have h1 := flat_len_take LL n x hx
      have h2 := flat_le LL (n + 1)
      have h3 : ((LL.take (n + 1)).flatten.length) = (LL.take n).flatten.length + x.length := by rw [h1, List.length_append]
      have w2 : wr ((n : Int) + 1) = (n : Int) + 1 := wr_id (by omega) (by omega)
      generalize (LL.take n).flatten = A at *
      generalize (LL.take (n + 1)).flatten = B at *
      have hr : AV.room (tube A) (tube x) 48 := by
        unfold AV.room
        simp only [lst_els, List.length_map]
        omega
      simp [hn, lst_at hx, encT, w2, hr]
      exact hK [.int ((n : Int) + 1), tube (A ++ x)] B (by simp [h1]) rfl
    · rintro s K rfl
      have hf := flat_tube LL.flatten
      rw [List.take_length]
      simp
      simp [lst] at hf ⊢
      exact hf
end Go.Proofs.YtdlakpomcafemaaDoor
/- effects: the heights of a climb. -/
namespace Go.Proofs.YtdlakpomcafemaaDoor
open Go.RowKit
set_option linter.unusedVariables false
set_option linter.unusedSimpArgs false
set_option maxRecDepth 100000
/-- A node, at the height it has on the way. -/
def hgt (nt nh v n : Int) (x : Nd) : Nd := { x with h := if nt + n ≤ x.t then v else nh + (v - nh) * (x.t - nt) / n }
theorem hloop (x0 r7 a0 a1 a3 a4 a5 a7 a8 a10 a11 a12 a13 a14 a15 a16 a17 a18 a19 a20 a21 : AV) (v nt nh n : Int) (hx0 : x0 = .agg [a0, a1, .int v, a3, a4, a5, .int nt, a7, a8, .int nh, a10, a11, a12, a13, a14, a15, a16, a17, a18, a19, a20, a21]) (hr7 : r7 = .tup [.int n, .int 0])
    (L : List Nd) (r : AV) (i : Nat) (hr : r = .tup [tube (L.map (hgt nt nh v n)), .int 0]) (hL : L.length ≤ 1000) (hv : 0 ≤ v ∧ v ≤ 60000) (hnh : 0 ≤ nh ∧ nh ≤ 60000) (hnt : 0 ≤ nt ∧ nt ≤ 200000) (hn : 0 ≤ n ∧ n ≤ 60000)
    (hb : ∀ x ∈ L, 0 ≤ x.t ∧ x.t ≤ 200000 ∧ (x.t < nt + n → nt ≤ x.t)) :
    (fLoop i [(AV.int 0), (tube L)] fun ys again =>
                  ((AV.binOk Go.BinOp.lss (ys.getD 0 default) (AV.len (tube L))) ∧
                  ((AV.isBool (AV.bin Go.BinOp.lss (ys.getD 0 default) (AV.len (tube L)))) ∧
                  (((isT (AV.bin Go.BinOp.lss (ys.getD 0 default) (AV.len (tube L)))) →
                    ((AV.inb (ys.getD 1 default) (ys.getD 0 default)) ∧
                    ((AV.inb (ys.getD 1 default) (ys.getD 0 default)) ∧
                    ((AV.binOk Go.BinOp.geq (AV.at (ys.getD 1 default) (ys.getD 0 default) 0) (AV.bin Go.BinOp.add (AV.cel x0 6) (AV.prj r7 0))) ∧
                    ((AV.isBool (AV.bin Go.BinOp.geq (AV.at (ys.getD 1 default) (ys.getD 0 default) 0) (AV.bin Go.BinOp.add (AV.cel x0 6) (AV.prj r7 0)))) ∧
                    (((isT (AV.bin Go.BinOp.geq (AV.at (ys.getD 1 default) (ys.getD 0 default) 0) (AV.bin Go.BinOp.add (AV.cel x0 6) (AV.prj r7 0)))) →
                      ((AV.isOne (AV.cel x0 2)) ∧
                      ((AV.inb (ys.getD 1 default) (ys.getD 0 default)) ∧
                      ((AV.binOk Go.BinOp.add (ys.getD 0 default) (AV.int 1)) ∧
                      (again [(AV.bin Go.BinOp.add (ys.getD 0 default) (AV.int 1)), (AV.setEl (ys.getD 1 default) (ys.getD 0 default) 3 [(AV.cel x0 2)])]))))) ∧
                    ((isF (AV.bin Go.BinOp.geq (AV.at (ys.getD 1 default) (ys.getD 0 default) 0) (AV.bin Go.BinOp.add (AV.cel x0 6) (AV.prj r7 0)))) →
                      ((AV.binOk Go.BinOp.sub (AV.cel x0 2) (AV.cel x0 9)) ∧
                      ((AV.inb (ys.getD 1 default) (ys.getD 0 default)) ∧
                      ((AV.binOk Go.BinOp.sub (AV.at (ys.getD 1 default) (ys.getD 0 default) 0) (AV.cel x0 6)) ∧
                      ((AV.binOk Go.BinOp.mul (AV.bin Go.BinOp.sub (AV.cel x0 2) (AV.cel x0 9)) (AV.bin Go.BinOp.sub (AV.at (ys.getD 1 default) (ys.getD 0 default) 0) (AV.cel x0 6))) ∧
                      (∃ r8 : AV, ((Fn Tryd.prog 48 [(AV.bin Go.BinOp.mul (AV.bin Go.BinOp.sub (AV.cel x0 2) (AV.cel x0 9)) (AV.bin Go.BinOp.sub (AV.at (ys.getD 1 default) (ys.getD 0 default) 0) (AV.cel x0 6))), (AV.prj r7 0)] (Sh.tup [Sh.sc, Sh.sc]) r8) ∧
                      ((AV.binOk Go.BinOp.add (AV.cel x0 9) (AV.prj r8 0)) ∧
                      ((AV.isOne (AV.bin Go.BinOp.add (AV.cel x0 9) (AV.prj r8 0))) ∧
                      ((AV.inb (ys.getD 1 default) (ys.getD 0 default)) ∧
                      ((AV.binOk Go.BinOp.add (ys.getD 0 default) (AV.int 1)) ∧
                      (again [(AV.bin Go.BinOp.add (ys.getD 0 default) (AV.int 1)), (AV.setEl (ys.getD 1 default) (ys.getD 0 default) 3 [(AV.bin Go.BinOp.add (AV.cel x0 9) (AV.prj r8 0))])])))))))))))))))))) ∧
                  ((isF (AV.bin Go.BinOp.lss (ys.getD 0 default) (AV.len (tube L)))) →
                    ((AV.flatS (ys.getD 1 default)) ∧
                    ((AV.flat (AV.int 0)) ∧
                    (fSame (AV.tup [(ys.getD 1 default), (AV.int 0)]) r)))))))) := by
  subst hx0 hr7 hr
  refine loop_list (σ := List Nd) L (fun k s => [.int (k : Nat), tube s]) (fun k rest s => s = (L.take k).map (hgt nt nh v n) ++ rest) L rfl (by simp) ?_ ?_
  · rintro k x rest s K hx hrest hk hG hK
    have hs : s[k]? = some x := by
      rw [hG, List.getElem?_append_right (by simp; omega)]
      simp [show min k L.length = k by omega]
    have hsl : s.length = L.length := by
      have : (x :: rest).length = L.length - k := by
        rw [← hrest]; simp; omega
      rw [hG, List.length_append, this]; simp; omega
    have hset : s.set k (hgt nt nh v n x) = (L.take (k + 1)).map (hgt nt nh v n) ++ rest := by
      rw [hG, List.set_append_right _ _ (by simp; omega)]
      simp only [List.length_map, List.length_take, show min k L.length = k by omega, Nat.sub_self, List.set_cons_zero]
      have e : L.take (k + 1) = L.take k ++ [x] := by
        rw [List.take_add_one, hx]; rfl
      rw [e]; simp
    have hx' := hb x (List.mem_of_getElem? hx)
    have hKK := fun z hz => hK [.int ((k : Int) + 1), tube (s.set k z)] _ (by simp; exact hz) hset
    clear hK hG hb
    have w2 : wr ((k : Int) + 1) = (k : Int) + 1 := wr_id (by omega) (by omega)
    have w3 : wr (nt + n) = nt + n := wr_id (by omega) (by omega)
    have w4 : wr (v - nh) = v - nh := wr_id (by omega) (by omega)
    have hks : (k : Int) < s.length := by omega
    have hkL : (k : Int) < L.length := by omega
    obtain ⟨xt, xx, xy, xh, xr, xb⟩ := x
    simp only at hx'
    have hse : ∀ z : Int, AV.setEl (tube s) (.lit (.int .i64 (k : Nat))) 3 [.int z] = tube (s.set k ⟨xt, xx, xy, z, xr, xb⟩) := fun z => lst_setEl hs (by simp [encN])
    simp [hkL, hks, lst_at hs, encN, w2, w3, w4, hse]
    refine ⟨fun q => hKK _ (by simp [hgt, q]), fun q => ?_⟩
    have w5 : wr (xt - nt) = xt - nt := wr_id (by omega) (by omega)
    have m1 := mulb (p := v - nh) (n := xt - nt) (by omega) (by omega) (by omega) (by omega)
    have w6 : wr ((v - nh) * (xt - nt)) = (v - nh) * (xt - nt) := wr_id (by omega) (by omega)
    have hpos : 0 < n := by omega
    have c2 := divd_fn ((v - nh) * (xt - nt)) n hpos (by omega) (by omega)
    obtain ⟨q1, q2⟩ := way (p := v - nh) (n := xt - nt) (d := n) hpos (by omega) (by omega)
    have w7 : wr (nh + (v - nh) * (xt - nt) / n) = nh + (v - nh) * (xt - nt) / n := by
      rcases Int.le_total 0 (v - nh) with g | g
      · have := q1 g; exact wr_id (by omega) (by omega)
      · have := q2 g; exact wr_id (by omega) (by omega)
    rw [w5, w6]
    refine ⟨_, c2, ?_⟩
    simp [w7, hse]
    exact hKK _ (by simp [hgt, show ¬ nt + n ≤ xt by omega])
  · rintro s K hG
    have hf := flat_tube s
    have e : s = L.map (hgt nt nh v n) := by rw [hG]; simp
    rw [← e]
    simp
    exact hf
end Go.Proofs.YtdlakpomcafemaaDoor
/- effects: a clearance to a height, carried out. -/
namespace Go.Proofs.YtdlakpomcafemaaDoor
open Go.RowKit
set_option linter.unusedVariables false
set_option linter.unusedSimpArgs false
set_option maxRecDepth 100000
/-- The nodes, with one of the time e. -/
def insT (w : List Nd) (e : Int) (l : List Nd) : List Nd := if (l.getD (ixF e l) default).t = e then l else l.take (ixF e l) ++ atN w e :: l.drop (ixF e l)
def midT (w l : List Nd) (nt n : Int) : List Nd := if 0 < n ∧ 0 < l.length ∧ nt + n < (l.getD (l.length - 1) default).t then insT w (nt + n) l else l
def hgtV (k : Kd) (now : Nd) (v : Int) (w l : List Nd) : AV := if clE2 k now.h v = 0 then .tup [tube ((midT w l now.t (clN k now.h v)).map (hgt now.t now.h v (clN k now.h v))), .int 0] else .tup [.sl 6 [], .int (clE2 k now.h v)]
theorem ixF_snoc {t : Int} : ∀ {l : List Nd} {k : Nat} {x : Nd}, (∀ j y, j < k → l[j]? = some y → y.t < t) → l[k]? = some x → ¬ x.t < t → ixF t l = k
  | [], k, x, _, h, _ => by simp at h
  | n :: r, 0, x, h0, h, hx => by simp at h; subst h; rw [ixF, if_neg hx]
  | n :: r, k + 1, x, h0, h, hx => by
    rw [ixF, if_pos (h0 0 n (by omega) rfl), ixF_snoc (k := k) (fun j y hj hy => h0 (j + 1) y (by omega) (by simpa using hy)) (by simpa using h) hx]
theorem clN_bd {k : Kd} {a b : Int} (h : clE2 k a b = 0) : kE k = 0 ∧ 0 ≤ a ∧ a ≤ 60000 ∧ 0 ≤ b ∧ b ≤ 60000 ∧ 0 ≤ clN k a b ∧ clN k a b ≤ 60000 := by
  unfold clE2 at h
  split at h
  · rename_i q; exact absurd h q
  · rename_i q
    have hk : kE k = 0 := by simpa using q
    obtain ⟨k1, k2, k3, k4, k5, k6⟩ := kE_ok hk
    split at h
    · cases h
    · have hd : ∀ x d : Int, 0 ≤ x → x ≤ 60000 → 1 ≤ d → 0 ≤ dvu x d ∧ dvu x d ≤ 60000 := fun x d h1 h2 h3 => by
        have e1 : 0 ≤ x / d := Int.ediv_nonneg h1 (by omega)
        have e2 : x / d * d ≤ x := Int.ediv_mul_le x (by omega)
        have e3 : x / d ≤ x / d * d := by
          have := Int.mul_le_mul_of_nonneg_left h3 e1
          simpa using this
        unfold dvu
        rw [Int.tmod_eq_emod_of_nonneg h1]
        by_cases hz : x % d = 0
        · rw [if_pos hz]; omega
        · rw [if_neg hz]
          have h4 := Int.emod_lt_of_pos x (show 0 < d by omega)
          have h5 := Int.emod_nonneg x (show d ≠ 0 by omega)
          have h6 := Int.mul_ediv_add_emod x d
          have h7 : d * (x / d) = x / d * d := Int.mul_comm _ _
          omega
      refine ⟨hk, by omega, by omega, by omega, by omega, ?_⟩
      unfold clN
      split
      · exact hd _ _ (by omega) (by omega) (by omega)
      · exact hd _ _ (by omega) (by omega) (by omega)
theorem height_fn (a0 a1 a3 a4 a19 a20 : AV) (k : Kd) (now : Nd) (v : Int) (w l : List Nd) (hnow : 0 ≤ now.t ∧ now.t ≤ 200000 ∧ 0 ≤ now.h ∧ now.h ≤ 60000) (hl : l.length ≤ 64) (hlo : ∀ x ∈ l, okN x ∧ now.t < x.t)
    (hat : ∀ e x, x ∈ l → now.t ≤ e → e < x.t → tatE w e = 0) :
    Fn Tryd.prog 33 [.agg [a0, a1, .int v, a3, a4, tube l, .int now.t, .int now.x, .int now.y, .int now.h, .int now.r, .int now.b, .string k.nm, .int k.wk, .int k.cl, .int k.up, .int k.dn, .int k.sl, .int k.fa, a19, a20, tube w]] (.tup [.row 39 6 true, .sc]) (hgtV k now v w l) := by
  have q := EffF.height_form (.agg [a0, a1, .int v, a3, a4, tube l, .int now.t, .int now.x, .int now.y, .int now.h, .int now.r, .int now.b, .string k.nm, .int k.wk, .int k.cl, .int k.up, .int k.dn, .int k.sl, .int k.fa, a19, a20, tube w]) (hgtV k now v w l)
  have kk := fun h => fn_run mixed 3 (Γ := EffF.Γ) (ann := EffF.ann) Tryd.func33 rfl Tryd.call33 (q.mpr h)
  refine kk ?_
  clear kk q
  have hc := climb_fn k now.h v
  by_cases hE : clE2 k now.h v = 0
  · obtain ⟨hk, hnh1, hnh2, hv1, hv2, hn1, hn2⟩ := clN_bd hE
    have hVc : clV k now.h v = .tup [.int (clN k now.h v), .int 0] := by unfold clV; rw [if_pos hE]
    rw [hVc] at hc
    have hV : hgtV k now v w l = .tup [tube ((midT w l now.t (clN k now.h v)).map (hgt now.t now.h v (clN k now.h v))), .int 0] := by unfold hgtV; rw [if_pos hE]
    generalize clN k now.h v = n at *
    rw [hV]
    obtain ⟨nt1, nt2, nh1, nh2⟩ := hnow
    have hbl : ∀ x ∈ l, 0 ≤ x.t ∧ x.t ≤ 200000 ∧ (x.t < now.t + n → now.t ≤ x.t) := fun x hx => by
      have := hlo x hx
      exact ⟨this.1.1, this.1.2.1, fun _ => by omega⟩
    have hm0 : ¬ (0 < n ∧ 0 < l.length ∧ now.t + n < (l.getD (l.length - 1) default).t) → midT w l now.t n = l := fun h => by unfold midT; rw [if_neg h]
    refine ⟨by simp, _, hc, ⟨by simp, by simp, fun q => absurd q (by simp), fun _ => ⟨by simp, by simp, _, tclone_fn l (by omega), by simp, by simp, fun q1 => ?_, fun q1 => ⟨by simp, q1, ?_⟩⟩⟩⟩
    · have hn0 : 0 < n := by simpa using q1
      refine ⟨by simp, by simp, q1, by simp, fun q2 => ?_, fun q2 => ⟨by simp, q2, ?_⟩⟩
      · have hl0 : 0 < l.length := by simpa using q2
        obtain ⟨z, hz⟩ : ∃ z, l[l.length - 1]? = some z := ⟨_, List.getElem?_eq_getElem (by omega)⟩
        have hzd : l.getD (l.length - 1) default = z := by rw [List.getD_eq_getElem?_getD, hz]; rfl
        have hwl : wr ((l.length : Int) - 1) = ((l.length - 1 : Nat) : Int) := by rw [wr_id (by omega) (by omega)]; omega
        have hwn : wr (now.t + n) = now.t + n := wr_id (by omega) (by omega)
        have hlt : ((l.length - 1 : Nat) : Int) < l.length := by omega
        have hzo := hlo z (List.mem_of_getElem? hz)
        refine ⟨by simp, by simp [hwl]; omega, by simp [hwl]; omega, by simp [hwl, lst_at hz, encN], by simp, q2, by simp [hwl, lst_at hz, encN], fun q3 => ?_, fun q3 => ?_⟩
        · have hend : now.t + n < z.t := by simpa [hwl, lst_at hz, encN, hwn] using q3
          refine ⟨Tryd.call51, fun _ => ?_⟩
          have hmid : midT w l now.t n = insT w (now.t + n) l := by unfold midT; rw [if_pos ⟨hn0, hl0, by rw [hzd]; exact hend⟩]
          rw [hmid]
          refine loop_list (σ := Unit) l (fun i _ => [.int (i : Nat)]) (fun i _ _ => ∀ j y, j < i → l[j]? = some y → y.t < now.t + n) () rfl (fun j y hj => by omega) ?_ ?_
          · rintro i x rest _ K hx hrest hi hG hK
            have hwi : wr ((i : Int) + 1) = (i : Int) + 1 := wr_id (by omega) (by omega)
            refine ⟨by simp, by simp, fun _ => ⟨by simp; omega, by simp; omega, Tryd.call52, fun _ => ⟨by simp [lst_atAgg hx, encN], by simp [lst_atAgg hx, encN], by simp [lst_atAgg hx, encN], fun q5 => ?_, fun q5 => ⟨by simp, ?_⟩⟩⟩, fun q4 => ?_⟩
            · have hxe : now.t + n ≤ x.t := by simpa [lst_atAgg hx, encN, hwn] using q5
              have hix : ixF (now.t + n) l = i := ixF_snoc hG hx (by omega)
              have hxd : l.getD i default = x := by rw [List.getD_eq_getElem?_getD, hx]; rfl
              refine ⟨by simp; omega, by simp; omega, by simp [lst_at hx, encN], by simp [lst_at hx, encN], fun q6 => ?_, fun q6 => ?_⟩
              · have hne : x.t ≠ now.t + n := by simpa [lst_at hx, encN, hwn] using q6
                have hins : insT w (now.t + n) l = l.take i ++ atN w (now.t + n) :: l.drop i := by unfold insT; rw [hix, hxd, if_neg hne]
                rw [hins]
                have hte := hat (now.t + n) z (List.mem_of_getElem? hz) (by omega) hend
                have htv : tatV w (now.t + n) = .tup [nd (atN w (now.t + n)), .int 0] := by unfold tatV; rw [if_pos hte]
                have hta := tat_fn w (now.t + n)
                rw [htv] at hta
                obtain ⟨hv0, hv1', hv2'⟩ := tatE_ok hte
                have hatt : (atN w (now.t + n)).t = now.t + n := by
                  unfold atN
                  split
                  · rename_i g; exact g
                  · rfl
                generalize atN w (now.t + n) = A at *
                refine ⟨_, by simpa [hwn] using hta, by simp [encN], ?_⟩
                have hi2 := insNd (l.map encN) [encN A] i (by simp; omega) (by simp) (fun y hy z hz => by simp [encN] at hy; subst hy; simp at hz; rcases hz with rfl | rfl | rfl | rfl | rfl | rfl <;> exact .lit _) (by simp; omega)
                have e2 : AV.sl 6 ((l.map encN).take i ++ ([encN A] ++ (l.map encN).drop i)) = tube (l.take i ++ A :: l.drop i) := by simp [lst, List.map_take, List.map_drop]
                rw [e2] at hi2
                refine ⟨tube (l.take i ++ A :: l.drop i), by simpa [encN, lst] using hi2, ?_⟩
                refine hloop _ _ a0 a1 a3 a4 (tube l) (.int now.x) (.int now.y) (.int now.r) (.int now.b) (.string k.nm) (.int k.wk) (.int k.cl) (.int k.up) (.int k.dn) (.int k.sl) (.int k.fa) a19 a20 (tube w) v now.t now.h n rfl rfl (l.take i ++ A :: l.drop i) _ _ rfl (by rw [List.length_append, List.length_cons, List.length_take, List.length_drop]; omega) ⟨hv1, hv2⟩ ⟨nh1, nh2⟩ ⟨nt1, nt2⟩ ⟨hn1, hn2⟩ (fun y hy => ?_)
                rcases List.mem_append.1 hy with g | g
                · exact hbl y (List.mem_of_mem_take g)
                · rcases List.mem_cons.1 g with g | g
                  · rw [g, hatt]
                    have := hzo.1.2.1
                    exact ⟨by omega, by omega, fun _ => by omega⟩
                  · exact hbl y (List.mem_of_mem_drop g)
              · have heq : x.t = now.t + n := by simpa [lst_at hx, encN, hwn] using q6
                have hins : insT w (now.t + n) l = l := by unfold insT; rw [hix, hxd, if_pos heq]
                rw [hins]
                exact hloop _ _ a0 a1 a3 a4 (tube l) (.int now.x) (.int now.y) (.int now.r) (.int now.b) (.string k.nm) (.int k.wk) (.int k.cl) (.int k.up) (.int k.dn) (.int k.sl) (.int k.fa) a19 a20 (tube w) v now.t now.h n rfl rfl _ _ _ rfl (by omega) ⟨hv1, hv2⟩ ⟨nh1, nh2⟩ ⟨nt1, nt2⟩ ⟨hn1, hn2⟩ hbl
            · refine hK _ () (by simp [hwi]) fun j y hj hy => ?_
              rcases Nat.lt_or_ge j i with g | g
              · exact hG j y g hy
              · obtain rfl : j = i := by omega
                rw [hx] at hy; injection hy with hy; subst hy
                have : ¬ now.t + n ≤ x.t := by simpa [lst_atAgg hx, encN, hwn] using q5
                omega
            · exact absurd q4 (by simp; omega)
          · rintro _ K hG
            have := hG (l.length - 1) z (by omega) hz
            omega
        · have hend : ¬ now.t + n < z.t := by simpa [hwl, lst_at hz, encN, hwn] using q3
          rw [hm0 (by rw [hzd]; omega)]
          exact hloop _ _ a0 a1 a3 a4 (tube l) (.int now.x) (.int now.y) (.int now.r) (.int now.b) (.string k.nm) (.int k.wk) (.int k.cl) (.int k.up) (.int k.dn) (.int k.sl) (.int k.fa) a19 a20 (tube w) v now.t now.h n rfl rfl _ _ _ rfl (by omega) ⟨hv1, hv2⟩ ⟨nh1, nh2⟩ ⟨nt1, nt2⟩ ⟨hn1, hn2⟩ hbl
      · have hl0 : l = [] := by simpa using q2
        rw [hm0 (by simp [hl0])]
        exact hloop _ _ a0 a1 a3 a4 (tube l) (.int now.x) (.int now.y) (.int now.r) (.int now.b) (.string k.nm) (.int k.wk) (.int k.cl) (.int k.up) (.int k.dn) (.int k.sl) (.int k.fa) a19 a20 (tube w) v now.t now.h n rfl rfl _ _ _ rfl (by omega) ⟨hv1, hv2⟩ ⟨nh1, nh2⟩ ⟨nt1, nt2⟩ ⟨hn1, hn2⟩ hbl
    · have hn0 : ¬ 0 < n := by simpa using q1
      rw [hm0 (by omega)]
      exact hloop _ _ a0 a1 a3 a4 (tube l) (.int now.x) (.int now.y) (.int now.r) (.int now.b) (.string k.nm) (.int k.wk) (.int k.cl) (.int k.up) (.int k.dn) (.int k.sl) (.int k.fa) a19 a20 (tube w) v now.t now.h n rfl rfl _ _ _ rfl (by omega) ⟨hv1, hv2⟩ ⟨nh1, nh2⟩ ⟨nt1, nt2⟩ ⟨hn1, hn2⟩ hbl
  · have hVc : clV k now.h v = .tup [.int 0, .int (clE2 k now.h v)] := by unfold clV; rw [if_neg hE]
    rw [hVc] at hc
    have hV : hgtV k now v w l = .tup [.sl 6 [], .int (clE2 k now.h v)] := by unfold hgtV; rw [if_neg hE]
    rw [hV]
    refine ⟨by simp, _, hc, ⟨by simp, by simp, fun q => ?_, fun q => absurd q (by simp [hE])⟩⟩
    simp
end Go.Proofs.YtdlakpomcafemaaDoor
/- effects: effect.Of at a clearance to a height. -/
namespace Go.Proofs.YtdlakpomcafemaaDoor
open Go.RowKit
set_option linter.unusedVariables false
set_option linter.unusedSimpArgs false
set_option maxRecDepth 100000
def befT (a : Int) (l : List Nd) : List Nd := l.filter fun n => decide (n.t < a)
def latT (a : Int) (l : List Nd) : List Nd := l.filter fun n => decide (a < n.t)
def ofE (l : List Nd) (c : Cl) (a : Int) (k : Kd) (fix : Pt) : Int := if tE l ≠ 0 then tE l else if clE c ≠ 0 then clE c else if kE k ≠ 0 then kE k else if pE fix ≠ 0 then pE fix else tatE l a
def outT (l : List Nd) (v : Int) (a : Int) (k : Kd) : List Nd := befT a l ++ atN l a :: (midT l (latT a l) a (clN k (atN l a).h v)).map (hgt a (atN l a).h v (clN k (atN l a).h v))
def ofV (l : List Nd) (c : Cl) (a : Int) (k : Kd) (fix : Pt) : AV :=
  if ofE l c a k fix ≠ 0 then .tup [.sl 6 [], .int (ofE l c a k fix)]
  else if clE2 k (atN l a).h c.v ≠ 0 then .tup [.sl 6 [], .int (clE2 k (atN l a).h c.v)]
  else if 64 < (outT l c.v a k).length then .tup [.sl 6 [], .int 2] else .tup [tube (outT l c.v a k), .int 0]
/-- The first error of several. -/
def feE : List (AV × Int) → Int
  | [] => 0
  | x :: r => if x.2 ≠ 0 then x.2 else feE r
def encC (x : AV × Int) : List AV := [x.1]
theorem midT_len (w l : List Nd) (nt n : Int) : (midT w l nt n).length ≤ l.length + 1 := by
  unfold midT insT
  split
  · split
    · omega
    · simp; omega
  · omega
theorem befT_snoc (a : Int) (l : List Nd) (x : Nd) : befT a (l ++ [x]) = if x.t < a then befT a l ++ [x] else befT a l := by
  unfold befT
  rw [List.filter_append]
  by_cases h : x.t < a
  · simp [h]
  · simp [h]
theorem latT_snoc (a : Int) (l : List Nd) (x : Nd) : latT a (l ++ [x]) = if a < x.t then latT a l ++ [x] else latT a l := by
  unfold latT
  rw [List.filter_append]
  by_cases h : a < x.t
  · simp [h]
  · simp [h]
theorem befT_len (a : Int) (l : List Nd) : (befT a l).length ≤ l.length := List.length_filter_le _ _
theorem latT_len (a : Int) (l : List Nd) : (latT a l).length ≤ l.length := List.length_filter_le _ _
theorem nd_snoc (l : List Nd) (x : Nd) : AV.app 6 (tube l) (.sl 6 [encN x]) = tube (l ++ [x]) := by simp [lst]
theorem nd_room (l : List Nd) (x : Nd) (h : l.length ≤ 1000) : AV.room (tube l) (.sl 6 [encN x]) 48 := by
  unfold AV.room
  simp only [lst_els, List.length_map, av_els, List.length_cons, List.length_nil]
  omega
theorem atN_t (l : List Nd) (t : Int) : (atN l t).t = t := by
  unfold atN
  split
  · rename_i g; exact g
  · rfl
theorem atN_okN {l : List Nd} {t : Int} (hv : tE l = 0) (h0 : ∀ x, l[0]? = some x → x.t ≤ t) (h1 : ∀ x, l[l.length - 1]? = some x → t ≤ x.t) : 0 ≤ t ∧ t ≤ 200000 ∧ 0 ≤ (atN l t).h ∧ (atN l t).h ≤ 60000 := by
  obtain ⟨hp, h64, hG⟩ := tE_ok hv
  obtain ⟨x0, hx0⟩ : ∃ x0, l[0]? = some x0 := ⟨_, List.getElem?_eq_getElem (by omega)⟩
  have t0 : 0 ≤ t := by have := h0 x0 hx0; have := (tG_get hG hx0).2.1.1; omega
  obtain ⟨x1, hx1⟩ : ∃ x1, l[l.length - 1]? = some x1 := ⟨_, List.getElem?_eq_getElem (by omega)⟩
  have t1 : t ≤ 200000 := by have := h1 x1 hx1; have := (tG_get hG hx1).2.1.2.1; omega
  exact ⟨t0, t1, (atN_ok hv h0 h1).2⟩
theorem of_fn (l : List Nd) (c : Cl) (a : Int) (k : Kd) (fix : Pt) (hc : c.k = 0) : Fn Tryd.prog 5 [tube l, cl c, .int a, kd k, pt fix] (.tup [.row 39 6 true, .sc]) (ofV l c a k fix) := by
  have q := EffF.of_form (tube l) (cl c) (.int a) (kd k) (pt fix) (ofV l c a k fix)
  have kk := fun h => fn_run mixed 3 (Γ := EffF.Γ) (ann := EffF.ann) Tryd.func5 rfl Tryd.call5 (q.mpr h)
  refine kk ?_
  clear kk q
  refine ⟨by simp, by simp [encL], by simp [encKd], by simp [encP], ?_⟩
  obtain ⟨CL, hCL⟩ : ∃ CL : List (AV × Int), CL = [(AV.clo 13 [.ref [tube l]], tE l), (AV.clo 15 [.ref (encL c)], clE c), (AV.clo 17 [.ref (encKd k)], kE k), (AV.clo 19 [.ref (encP fix)], pE fix)] := ⟨_, rfl⟩
  have hls : AV.mk 1 [[(AV.mkClo 13 [(AV.mkRef [tube l])])], [(AV.mkClo 15 [(AV.mkRef [(AV.cel (cl c) 0), (AV.cel (cl c) 1), (AV.cel (cl c) 2), (AV.cel (cl c) 3)])])], [(AV.mkClo 17 [(AV.mkRef [(AV.cel (kd k) 0), (AV.cel (kd k) 1), (AV.cel (kd k) 2), (AV.cel (kd k) 3), (AV.cel (kd k) 4), (AV.cel (kd k) 5), (AV.cel (kd k) 6)])])], [(AV.mkClo 19 [(AV.mkRef [(AV.cel (pt fix) 0), (AV.cel (pt fix) 1)])])]] = lst 1 encC CL := by rw [hCL]; rfl
  rw [hls]
  have hfe : feE CL = if tE l ≠ 0 then tE l else if clE c ≠ 0 then clE c else if kE k ≠ 0 then kE k else pE fix := by
    rw [hCL]
    simp only [feE]
    split
    · rfl
    · split
      · rfl
      · split
        · rfl
        · split
          · rfl
          · rename_i h; simpa using (Eq.symm (by simpa using h))
  have hFC : ∀ x ∈ CL, FnC Tryd.prog x.1 [] .sc (.int x.2) := by
    intro x hx
    rw [hCL] at hx
    simp only [List.mem_cons, List.mem_nil_iff, or_false] at hx
    rcases hx with rfl | rfl | rfl | rfl
    · exact ⟨_, _, rfl, of1_fn l⟩
    · exact ⟨_, _, rfl, of2_fn c⟩
    · exact ⟨_, _, rfl, of3_fn k⟩
    · exact ⟨_, _, rfl, of4_fn fix⟩
  have hl4 : CL.length = 4 := by rw [hCL]; rfl
  have hV1 : feE CL ≠ 0 → ofV l c a k fix = .tup [.sl 6 [], .int (feE CL)] := fun h => by
    have e : ofE l c a k fix = feE CL := by
      rw [hfe] at h ⊢
      unfold ofE
      split
      · rfl
      · rename_i h1
        rw [if_neg h1] at h
        split
        · rfl
        · rename_i h2
          rw [if_neg h2] at h
          split
          · rfl
          · rename_i h3
            rw [if_neg h3] at h
            rw [if_pos h]
    unfold ofV
    rw [e, if_pos h]
  have hE0 : feE CL = 0 → tE l = 0 ∧ kE k = 0 ∧ ofE l c a k fix = tatE l a := fun h => by
    rw [hfe] at h
    unfold ofE
    by_cases h1 : tE l = 0
    · by_cases h2 : clE c = 0
      · by_cases h3 : kE k = 0
        · simp [h1, h2, h3] at h ⊢
          simp [h]
        · simp [h1, h2, h3] at h
      · simp [h1, h2] at h
    · simp [h1] at h
  clear hls hCL hfe
  refine loop_list (σ := Unit) CL (fun i _ => [.int (i : Nat)]) (fun i rest _ => feE CL = feE rest) () rfl rfl ?_ ?_
  · rintro i x rest _ K hx hrest hi hG hK
    have hi4 : (i : Int) < 4 := by omega
    have hwi : wr ((i : Int) + 1) = (i : Int) + 1 := wr_id (by omega) (by omega)
    have hF := hFC x (List.mem_of_getElem? hx)
    refine ⟨by simp, by simp, fun _ => ⟨by simp; omega, by simp; omega, .int x.2, ?_, by simp, by simp, fun h => ?_, fun h => ⟨by simp, ?_⟩⟩, fun h => absurd h (by simp; omega)⟩
    · rw [show AV.at (lst 1 encC CL) ([AV.int (i : Nat)].getD 0 default) 0 = x.1 from lst_at hx]
      exact hF
    · have hx2 : x.2 ≠ 0 := by simpa using h
      rw [feE, if_pos hx2] at hG
      rw [hV1 (by rw [hG]; exact hx2), hG]
      simp
    · have hx2 : x.2 = 0 := by simpa using h
      rw [feE, if_neg (by simp [hx2])] at hG
      exact hK _ () (by simp [hwi]) hG
  · rintro _ K hG
    obtain ⟨hl0, hk0, hOE⟩ := hE0 hG
    clear hE0 hV1 hFC
    refine ⟨by simp, by simp [hl4], fun h => absurd h (by simp [hl4]), fun _ => ?_⟩
    obtain ⟨hp, h64, hGt⟩ := tE_ok hl0
    have hta := tat_fn l a
    by_cases hE : tatE l a = 0
    · have htv : tatV l a = .tup [nd (atN l a), .int 0] := by unfold tatV; rw [if_pos hE]
      rw [htv] at hta
      have hOE' : ofE l c a k fix = 0 := by rw [hOE, hE]
      obtain ⟨_, hfi, hla⟩ := tatE_ok hE
      obtain ⟨cc, ck, cv, cf⟩ := c
      simp only at hc
      subst hc
      have hV : ofV l ⟨cc, 0, cv, cf⟩ a k fix = if clE2 k (atN l a).h cv ≠ 0 then .tup [.sl 6 [], .int (clE2 k (atN l a).h cv)] else if 64 < (outT l cv a k).length then .tup [.sl 6 [], .int 2] else .tup [tube (outT l cv a k), .int 0] := by
        unfold ofV
        rw [if_neg (by rw [hOE']; simp)]
      have hO : outT l cv a k = befT a l ++ atN l a :: (midT l (latT a l) a (clN k (atN l a).h cv)).map (hgt a (atN l a).h cv (clN k (atN l a).h cv)) := rfl
      have hok := atN_okN hl0 hfi hla
      have htt := atN_t l a
      generalize atN l a = A at *
      subst htt
      rw [hV]
      clear hV hOE hOE'
      refine ⟨by simp, _, hta, by simp [encN], by simp, by simp, fun h => absurd h (by simp), fun _ => ⟨by simp, by simp, by simp, by simp, by simp, by simp, by simp, by simp, by simp, by simp, ?_⟩⟩
      refine loop_list (σ := Unit) l (fun i _ => [.int (i : Nat), tube (befT A.t (l.take i)), tube (latT A.t (l.take i)), .string cc, .int 0, .int cv, .string cf, .int A.t, .int A.x, .int A.y, .int A.h, .int A.r, .int A.b, .string k.nm, .int k.wk, .int k.cl, .int k.up, .int k.dn, .int k.sl, .int k.fa, .int fix.x, .int fix.y, tube l]) (fun _ _ _ => True) () rfl trivial ?_ ?_
      · rintro i x rest _ K hx hrest hi _ hK
        have hwi : wr ((i : Int) + 1) = (i : Int) + 1 := wr_id (by omega) (by omega)
        have hil : (i : Int) < l.length := by omega
        have e1 : l.take (i + 1) = l.take i ++ [x] := by rw [List.take_add_one, hx]; rfl
        have e2 := befT_snoc A.t (l.take i) x
        have e3 := latT_snoc A.t (l.take i) x
        rw [← e1] at e2 e3
        have b1 := befT_len A.t (l.take i)
        have b2 := latT_len A.t (l.take i)
        have b3 : (l.take i).length ≤ 1000 := by rw [List.length_take]; omega
        have r1 := nd_room (befT A.t (l.take i)) x (by omega)
        have r2 := nd_room (latT A.t (l.take i)) x (by omega)
        have a1 := nd_snoc (befT A.t (l.take i)) x
        have a2 := nd_snoc (latT A.t (l.take i)) x
        have hK' := hK [.int ((i : Int) + 1), tube (befT A.t (l.take (i + 1))), tube (latT A.t (l.take (i + 1))), .string cc, .int 0, .int cv, .string cf, .int A.t, .int A.x, .int A.y, .int A.h, .int A.r, .int A.b, .string k.nm, .int k.wk, .int k.cl, .int k.up, .int k.dn, .int k.sl, .int k.fa, .int fix.x, .int fix.y, tube l] () (by simp) trivial
        rw [e2, e3] at hK'
        clear hK e2 e3 e1 b1 b2 b3
        generalize befT A.t (l.take i) = B at *
        generalize latT A.t (l.take i) = D at *
        obtain ⟨xt, xx, xy, xh, xr, xb⟩ := x
        simp [encN] at r1 r2 a1 a2 hK'
        simp [hil, lst_atAgg hx, encN, hwi]
        refine ⟨fun g1 => ⟨r1, fun g2 => absurd g2 (by omega), fun g2 => ?_⟩, fun g1 => ⟨fun g2 => ⟨r2, ?_⟩, fun g2 => ?_⟩⟩
        · rw [if_pos g1, if_neg (by omega)] at hK'
          rw [a1]; exact hK'
        · rw [if_neg (by omega), if_pos g2] at hK'
          rw [a2]; exact hK'
        · rw [if_neg (by omega), if_neg (by omega)] at hK'
          exact hK'
      · rintro _ K _
        rw [List.take_length]
        have b1 := befT_len A.t l
        have b2 := latT_len A.t l
        have hlo : ∀ x ∈ latT A.t l, okN x ∧ A.t < x.t := fun x hx => by
          obtain ⟨h1, h2⟩ := List.mem_filter.1 hx
          obtain ⟨j, hj⟩ := List.getElem?_of_mem h1
          exact ⟨(tG_get hGt hj).2.1, by simpa using h2⟩
        have hat : ∀ e x, x ∈ latT A.t l → A.t ≤ e → e < x.t → tatE l e = 0 := fun e x hx h1 h2 => by
          obtain ⟨h3, _⟩ := List.mem_filter.1 hx
          obtain ⟨j, hj⟩ := List.getElem?_of_mem h3
          obtain ⟨z, hz⟩ : ∃ z, l[l.length - 1]? = some z := ⟨_, List.getElem?_eq_getElem (by omega)⟩
          obtain ⟨y, hy⟩ : ∃ y, l[0]? = some y := ⟨_, List.getElem?_eq_getElem (by omega)⟩
          have hjl := (List.getElem?_eq_some_iff.1 hj).1
          have hxz : x.t ≤ z.t := by
            rcases Nat.lt_or_ge j (l.length - 1) with g | g
            · exact Int.le_of_lt ((tG_get hGt hj).2.2 _ z g hz)
            · obtain rfl : j = l.length - 1 := by omega
              rw [hz] at hj; injection hj with hj; rw [hj]; exact Int.le_refl _
          have hyf := hfi y hy
          unfold tatE
          rw [if_neg (by simp [hl0]), if_neg]
          rw [List.getD_eq_getElem?_getD, hy, List.getD_eq_getElem?_getD, hz]
          simp only [Option.getD_some]
          omega
        have hh := height_fn (.string cc) (.int 0) (.string cf) (tube (befT A.t l)) (.int fix.x) (.int fix.y) k A cv l (latT A.t l) hok (by omega) hlo hat
        have hmid := midT_len l (latT A.t l) A.t (clN k A.h cv)
        by_cases hE2 : clE2 k A.h cv = 0
        · have hHV : hgtV k A cv l (latT A.t l) = .tup [tube ((midT l (latT A.t l) A.t (clN k A.h cv)).map (hgt A.t A.h cv (clN k A.h cv))), .int 0] := by unfold hgtV; rw [if_pos hE2]
          rw [hHV] at hh
          have hca := carried0 _ _ _ _ _ _ _ _ _ _ _ _ _ _ _ _ _ _ _ _ _ _ _ hh
          rw [if_neg (by simp [hE2])]
          have hfl : outT l cv A.t k = [befT A.t l, [A], (midT l (latT A.t l) A.t (clN k A.h cv)).map (hgt A.t A.h cv (clN k A.h cv))].flatten := by rw [hO]; simp
          have hlen : (outT l cv A.t k).length ≤ 1000 := by
            rw [hO, List.length_append, List.length_cons, List.length_map]
            omega
          have hcc := concat_fn [befT A.t l, [A], (midT l (latT A.t l) A.t (clN k A.h cv)).map (hgt A.t A.h cv (clN k A.h cv))] (by rw [← hfl]; omega) (by simp)
          rw [← hfl] at hcc
          have hf := flat_tube (outT l cv A.t k)
          generalize outT l cv A.t k = O at *
          generalize (midT l (latT A.t l) A.t (clN k A.h cv)).map (hgt A.t A.h cv (clN k A.h cv)) = M at *
          refine ⟨by simp, by simp, fun h => absurd h (by simp), fun _ => ⟨_, hca, by simp, by simp, fun h => absurd h (by simp), fun _ => ⟨by simp, fun h => absurd h (by simp), fun _ => ⟨tube O, hcc, by simp, by simp, fun h => ?_, fun h => ?_⟩⟩⟩⟩
          · have h : 64 < O.length := by simp at h; omega
            rw [if_pos h]
            simp
          · have h : ¬ 64 < O.length := by simp at h; omega
            rw [if_neg h]
            exact ⟨hf, .lit _, rfl⟩
        · have hHV : hgtV k A cv l (latT A.t l) = .tup [tube [], .int (clE2 k A.h cv)] := by unfold hgtV; rw [if_neg hE2]; rfl
          rw [hHV] at hh
          have hca := carried0 _ _ _ _ _ _ _ _ _ _ _ _ _ _ _ _ _ _ _ _ _ [] _ hh
          rw [if_pos hE2]
          refine ⟨by simp, by simp, fun h => absurd h (by simp), fun _ => ⟨_, hca, by simp, by simp, fun _ => by simp, fun h => absurd h (by simp [hE2])⟩⟩
    · have htv : tatV l a = .tup [nd nd0, .int (tatE l a)] := by unfold tatV; rw [if_neg hE]
      rw [htv] at hta
      have hV : ofV l c a k fix = .tup [.sl 6 [], .int (tatE l a)] := by unfold ofV; rw [hOE, if_pos hE]
      rw [hV]
      refine ⟨by simp, _, hta, by simp [encN], by simp, by simp, fun h => by simp, fun h => absurd h (by simp [hE])⟩
end Go.Proofs.YtdlakpomcafemaaDoor
/- effects: the first second at which two tubes differ. -/
namespace Go.Proofs.YtdlakpomcafemaaDoor
open Go.RowKit
set_option linter.unusedVariables false
set_option linter.unusedSimpArgs false
set_option maxRecDepth 100000
/-- The node at a time; the zero node where there is none. -/
def ndA (l : List Nd) (s : Int) : Nd := if tatE l s = 0 then atN l s else nd0
theorem tatV_nd (l : List Nd) (s : Int) : tatV l s = .tup [nd (ndA l s), .int (tatE l s)] := by
  unfold tatV ndA
  by_cases h : tatE l s = 0
  · rw [if_pos h, if_pos h, h]
  · rw [if_neg h, if_neg h]
def difP (a b : List Nd) (s : Int) : Prop := tatE a s ≠ tatE b s ∨ (ndA a s).x ≠ (ndA b s).x ∨ (ndA a s).y ≠ (ndA b s).y ∨ (ndA a s).h ≠ (ndA b s).h
instance (a b : List Nd) (s : Int) : Decidable (difP a b s) := by unfold difP; infer_instance
def fstD (a b : List Nd) : Int → Nat → Option Int
  | _, 0 => none
  | s, n + 1 => if difP a b s then some s else fstD a b (s + 1) n
def dFirst (a b : List Nd) : Int := if (b.getD 0 default).t < (a.getD 0 default).t then (b.getD 0 default).t else (a.getD 0 default).t
def dLast (a b : List Nd) : Int := if (b.getD (b.length - 1) default).t > (a.getD (a.length - 1) default).t then (b.getD (b.length - 1) default).t else (a.getD (a.length - 1) default).t
def difS (a b : List Nd) : Option Int := fstD a b (dFirst a b) (dLast a b - dFirst a b + 1).toNat
def difV (a b : List Nd) : AV :=
  if tE a ≠ 0 then .tup [.int 0, .int (tE a)] else if tE b ≠ 0 then .tup [.int 0, .int (tE b)]
  else if 20000 < dLast a b - dFirst a b then .tup [.int 0, .int 2]
  else match difS a b with
    | some s => .tup [.int s, .int 0]
    | none => .tup [.int 0, .int 8]
theorem ends_of {a : List Nd} (h : tE a = 0) : ∃ x y, a[0]? = some x ∧ a[a.length - 1]? = some y ∧ a.getD 0 default = x ∧ a.getD (a.length - 1) default = y ∧ 0 ≤ x.t ∧ x.t ≤ 200000 ∧ 0 ≤ y.t ∧ y.t ≤ 200000 ∧ 0 < a.length ∧ a.length ≤ 64 := by
  obtain ⟨hp, h64, hG⟩ := tE_ok h
  obtain ⟨x, hx⟩ : ∃ x, a[0]? = some x := ⟨_, List.getElem?_eq_getElem (by omega)⟩
  obtain ⟨y, hy⟩ : ∃ y, a[a.length - 1]? = some y := ⟨_, List.getElem?_eq_getElem (by omega)⟩
  have h1 := (tG_get hG hx).2.1
  have h2 := (tG_get hG hy).2.1
  exact ⟨x, y, hx, hy, by rw [List.getD_eq_getElem?_getD, hx]; rfl, by rw [List.getD_eq_getElem?_getD, hy]; rfl, h1.1, h1.2.1, h2.1, h2.2.1, hp, h64⟩
theorem differs_fn (a b : List Nd) : Fn Tryd.prog 12 [tube a, tube b] (.tup [.sc, .sc]) (difV a b) := by
  have q := EffF.differs_form (tube a) (tube b) (difV a b)
  have kk := fun h => fn_run mixed 3 (Γ := EffF.Γ) (ann := EffF.ann) Tryd.func12 rfl Tryd.call12 (q.mpr h)
  refine kk ?_
  clear kk q
  refine ⟨by simp, by simp, ?_⟩
  rw [show AV.mk 1 [[tube a], [tube b]] = lst 1 encT [a, b] from rfl]
  refine loop_list (σ := Unit) [a, b] (fun i _ => [.int (i : Nat)]) (fun i rest _ => (rest = [a, b] ∨ (tE a = 0 ∧ rest = [b]) ∨ (tE a = 0 ∧ tE b = 0 ∧ rest = []))) () rfl (.inl rfl) ?_ ?_
  · rintro i x rest _ K hx hrest hi hG hK
    have hi2 : (i : Int) < 2 := by have : i < 2 := hi; omega
    have hwi : wr ((i : Int) + 1) = (i : Int) + 1 := wr_id (by omega) (by omega)
    have hK' := hK [.int ((i : Int) + 1)] () (by simp)
    simp [hi2, lst_at hx, encT]
    refine ⟨_, tcheck_fn x, ?_⟩
    simp [hwi]
    refine ⟨fun h => ?_, fun h => hK' ?_⟩
    · rcases hG with g | ⟨g0, g⟩ | ⟨_, _, g⟩
      · injection g with g1 g2
        subst g1
        unfold difV
        rw [if_pos h]
      · injection g with g1 g2
        subst g1
        unfold difV
        rw [if_neg (by simp [g0]), if_pos h]
      · cases g
    · rcases hG with g | ⟨g0, g⟩ | ⟨_, _, g⟩
      · injection g with g1 g2
        subst g1
        exact .inr (.inl ⟨h, g2⟩)
      · injection g with g1 g2
        subst g1
        exact .inr (.inr ⟨g0, h, g2⟩)
      · cases g
  · rintro _ K hG
    obtain ⟨ha, hb⟩ : tE a = 0 ∧ tE b = 0 := by
      rcases hG with g | ⟨g0, g⟩ | ⟨g1, g2, g⟩
      · cases g
      · cases g
      · exact ⟨g1, g2⟩
    obtain ⟨x, y, hx, hy, hxd, hyd, x1, x2, y1, y2, la, la2⟩ := ends_of ha
    obtain ⟨z, u, hz, hu, hzd, hud, z1, z2, u1, u2, lb, lb2⟩ := ends_of hb
    have wa : wr ((a.length : Int) - 1) = ((a.length - 1 : Nat) : Int) := by rw [wr_id (by omega) (by omega)]; omega
    have wb : wr ((b.length : Int) - 1) = ((b.length - 1 : Nat) : Int) := by rw [wr_id (by omega) (by omega)]; omega
    have hza : AV.at (tube a) (.lit (.int .i64 0)) 0 = .int x.t := by have := lst_at (s := 6) (enc := encN) (k := .i64) (j := 0) hx; simpa [encN] using this
    have hzb : AV.at (tube b) (.lit (.int .i64 0)) 0 = .int z.t := by have := lst_at (s := 6) (enc := encN) (k := .i64) (j := 0) hz; simpa [encN] using this
    have hF : dFirst a b = if z.t < x.t then z.t else x.t := by unfold dFirst; rw [hxd, hzd]
    have hL : dLast a b = if u.t > y.t then u.t else y.t := by unfold dLast; rw [hyd, hud]
    have hV : difV a b = if 20000 < dLast a b - dFirst a b then .tup [.int 0, .int 2] else match fstD a b (dFirst a b) (dLast a b - dFirst a b + 1).toNat with
      | some s => .tup [.int s, .int 0]
      | none => .tup [.int 0, .int 8] := by
      unfold difV difS
      rw [if_neg (by simp [ha]), if_neg (by simp [hb])]
    have hFb : 0 ≤ dFirst a b ∧ dFirst a b ≤ 200000 := by rw [hF]; split <;> omega
    have hLb : 0 ≤ dLast a b ∧ dLast a b ≤ 200000 := by rw [hL]; split <;> omega
    have hal : ((a.length - 1 : Nat) : Int) < a.length := by omega
    have hbl : ((b.length - 1 : Nat) : Int) < b.length := by omega
    have m1 : AV.mn (.int x.t) (.int z.t) = .int (dFirst a b) := by rw [hF]; rfl
    have m2 : AV.mx (.int y.t) (.int u.t) = .int (dLast a b) := by rw [hL]; rfl
    rw [hV]
    clear hV hF hL hG
    generalize dFirst a b = F at *
    generalize dLast a b = L at *
    have wd : wr (L - F) = L - F := wr_id (by omega) (by omega)
    simp only [hza, hzb, lst_len, av_subt, wr_eq, wa, wb, m1, m2, lst_at hy, lst_at hu, encN, List.getD_cons_zero, wd, List.length_cons, List.length_nil]
    have hal0 : 0 < a.length := la
    refine ⟨by simp, by simp, fun h => absurd h (by simp), fun _ => ⟨by simp, by simp; omega, by simp, by simp; omega, by simp, by simp, by simp, by simp, by simp, by simp; omega, by simp, by simp, by simp, by simp; omega, by simp, by simp, by simp, by simp [wd], by simp [wd], fun h => ?_, fun h => ?_⟩⟩
    · have h : 20000 < L - F := by simpa [wd] using h
      rw [if_pos h]
      simp
    · have h : ¬ 20000 < L - F := by simp [wd] at h; omega
      rw [if_neg h]
      clear m1 m2 hza hzb
      generalize hR : (match fstD a b F (L - F + 1).toNat with
      | some s => AV.tup [.int s, .int 0]
      | none => AV.tup [.int 0, .int 8]) = R
      have g1 : ∀ s, fstD a b F (L - F + 1).toNat = some s → R = .tup [.int s, .int 0] := fun s h => by rw [← hR, h]
      have g0 : fstD a b F (L - F + 1).toNat = none → R = .tup [.int 0, .int 8] := fun h => by rw [← hR, h]
      clear hR
      refine loop_of (τ := Int) (fun s => [.int s]) (fun s => F ≤ s ∧ s ≤ 200001 ∧ fstD a b F (L - F + 1).toNat = fstD a b s (L - s + 1).toNat) (fun s => (L - s + 1).toNat) F rfl ⟨Int.le_refl _, by omega, rfl⟩ ?_
      rintro s ⟨hs1, hs2, hs3⟩
      have hta := tat_fn a s
      have htb := tat_fn b s
      rw [tatV_nd] at hta htb
      by_cases hle : s ≤ L
      · obtain ⟨n, hn⟩ : ∃ n, (L - s + 1).toNat = n + 1 := ⟨(L - s).toNat, by omega⟩
        have hn2 : (L - (s + 1) + 1).toNat = n := by omega
        rw [hn, fstD] at hs3
        have hy : difP a b s → R = .tup [.int s, .int 0] := fun h => g1 s (by rw [hs3, if_pos h])
        have hnn : ¬ difP a b s → fstD a b F (L - F + 1).toNat = fstD a b (s + 1) (L - (s + 1) + 1).toNat := fun h => by rw [hs3, if_neg h, hn2]
        unfold difP at hy hnn
        have ws : wr (s + 1) = s + 1 := wr_id (by omega) (by omega)
        clear g0 g1 hs3
        generalize hA : ndA a s = A at *
        generalize hB : ndA b s = B at *
        obtain ⟨at_, ax, ay, ah, ar, ab⟩ := A
        obtain ⟨bt, bx, b_, bh, br, bb⟩ := B
        simp only at hy hnn
        refine ⟨by simp, by simp, fun _ => ⟨_, hta, by simp [encN], _, htb, by simp [encN], ?_⟩, fun h => absurd h (by simp; omega)⟩
        have p1 : AV.eqPlOk [(0, EK.int .i64), (1, EK.int .i64)] [.int ax, .int ay] [.int bx, .int b_] := fun p hp => by
          simp at hp
          rcases hp with rfl | rfl <;> simp
        have p2 : AV.nePl [(0, EK.int .i64), (1, EK.int .i64)] [.int ax, .int ay] [.int bx, .int b_] = .bool (!(ax == bx && ay == b_)) := by simp [AV.nePl]
        simp [encN, ws, p1, p2]
        refine ⟨fun h => ⟨h, (hy (.inl h)).symm⟩, fun h0 => ⟨h0, fun h => ⟨h, (hy (h.elim (fun q => .inr (.inl q)) fun q => .inr (.inr (.inl q)))).symm⟩, fun h1 h2 => ⟨⟨h1, h2⟩, fun h => (hy (.inr (.inr (.inr h)))).symm, fun h => ⟨by omega, by omega, by omega, hnn (by simp [h0, h1, h2, h])⟩⟩⟩⟩
      · have e : (L - s + 1).toNat = 0 := by omega
        rw [e, fstD] at hs3
        rw [g0 hs3]
        refine ⟨by simp, by simp, fun h => absurd h (by simp; omega), fun _ => ⟨.lit _, .lit _, rfl⟩⟩
end Go.Proofs.YtdlakpomcafemaaDoor
/- effects: the fact; Differs returns the first second at which tubes differ. -/
namespace Go.Proofs.YtdlakpomcafemaaDoor
open Go.RowKit
set_option linter.unusedVariables false
set_option linter.unusedSimpArgs false
set_option maxRecDepth 100000
theorem climbed_fn (n : Int) : Fn Tryd.prog 10 [.int n] .sc (cl ⟨⟨#[65, 49]⟩, 0, n, ⟨#[]⟩⟩) := by
  have e := EffF.climbed_form (.int n) (cl ⟨⟨#[65, 49]⟩, 0, n, ⟨#[]⟩⟩)
  have k := fun h => fn_run mixed 3 (Γ := EffF.Γ) (ann := EffF.ann) Tryd.func10 rfl Tryd.call10 (e.mpr h)
  refine k ?_
  clear k e
  simp [encL]
def outC : List Nd := [⟨0, 0, 0, 9000, 100, 50⟩, ⟨10, 1000, 0, 9500, 100, 50⟩, ⟨100, 10000, 0, 9500, 100, 50⟩]
theorem fact_of : ofV levT ⟨⟨#[65, 49]⟩, 0, 9500, ⟨#[]⟩⟩ 0 jetK ⟨0, 0⟩ = .tup [tube outC, .int 0] := by kernel_rfl
theorem fact_dif : difV levT outC = .tup [.int 1, .int 0] := by kernel_rfl
theorem efact_fn : Fn Tryd.prog 4 [] .sc (.bool true) := by
  have e := EffF.efact_form (.bool true)
  have k := fun h => fn_run mixed 3 (Γ := EffF.Γ) (ann := EffF.ann) Tryd.func4 rfl Tryd.call4 (e.mpr h)
  refine k ?_
  clear k e
  have h1 := of_fn levT ⟨⟨#[65, 49]⟩, 0, 9500, ⟨#[]⟩⟩ 0 jetK ⟨0, 0⟩ rfl
  have h2 := differs_fn levT outC
  rw [fact_of] at h1
  rw [fact_dif] at h2
  refine ⟨_, level_fn, _, climbed_fn 9500, _, jet_fn, _, h1, _, level_fn, _, h2, ?_⟩
  simp [outC, encN, lst, gt2]
end Go.Proofs.YtdlakpomcafemaaDoor
/- effects of turns: the speed; a heading. -/
namespace Go.Proofs.YtdlakpomcafemaaDoor
open Go.RowKit
set_option linter.unusedVariables false
set_option linter.unusedSimpArgs false
set_option maxRecDepth 100000
/-- A tube that is divided at a time, as the program keeps it. -/
def encTk (a0 a1 : AV) (v : Int) (a3 a4 : AV) (l : List Nd) (now : Nd) (k : Kd) (fx fy : Int) (w : AV) : List AV :=
  [a0, a1, .int v, a3, a4, tube l, .int now.t, .int now.x, .int now.y, .int now.h, .int now.r, .int now.b, .string k.nm, .int k.wk, .int k.cl, .int k.up, .int k.dn, .int k.sl, .int k.fa, .int fx, .int fy, w]
/-- The speed on the way to the next node. -/
def spV (now z : Nd) : Int := disA now.p z.p / (z.t - now.t)
theorem spV_bd {now z : Nd} (h : now.t < z.t) : 0 ≤ spV now z ∧ spV now z ≤ 3037000499 := by
  have hb := rootI_bd (sqrP now.p z.p)
  have hA : disA now.p z.p = rootI (sqrP now.p z.p) := rfl
  unfold spV
  rw [hA]
  exact ⟨Int.ediv_nonneg hb.1 (by omega), Int.le_trans (Int.ediv_le_self _ hb.1) hb.2⟩
theorem speed_fn (a0 a1 : AV) (v : Int) (a3 a4 : AV) (l : List Nd) (now z : Nd) (k : Kd) (fx fy : Int) (w : AV) (hz : l[0]? = some z) (ht : now.t < z.t) (h0 : 0 ≤ now.t) (h1 : z.t ≤ 200000) :
    Fn Tryd.prog 54 [.agg (encTk a0 a1 v a3 a4 l now k fx fy w)] .sc (.int (spV now z)) := by
  have e := EffT.speed_form (.agg (encTk a0 a1 v a3 a4 l now k fx fy w)) (.int (spV now z))
  have kk := fun h => fn_run mixed 3 (Γ := EffT.Γ) (ann := EffT.ann) Tryd.func54 rfl Tryd.call54 (e.mpr h)
  refine kk ?_
  clear kk e
  have hl : 0 < l.length := by
    rcases Nat.eq_zero_or_pos l.length with q | q
    · rw [List.length_eq_zero_iff] at q; subst q; cases hz
    · exact q
  have hb := rootI_bd (sqrP now.p z.p)
  have hA : disA now.p z.p = rootI (sqrP now.p z.p) := rfl
  have hd := dist_fn now.p z.p
  have hS : spV now z = disA now.p z.p / (z.t - now.t) := rfl
  have hz0 : l[((0 : Nat) : Int).toNat]? = some z := hz
  have a1' : AV.at (tube l) (AV.int 0) 0 = .int z.t := by rw [lst_atI (by decide) hz]; rfl
  have a2' : AV.atAgg (tube l) (AV.int 0) 1 2 = pt z.p := by rw [lst_atAggI (by decide) hz]; rfl
  rw [hS]
  rw [← hA] at hb
  generalize disA now.p z.p = D at *
  generalize disB now.p z.p = D2 at *
  have w1 : wr (z.t - now.t) = z.t - now.t := wr_id (by omega) (by omega)
  have e3 : D.tdiv (z.t - now.t) = D / (z.t - now.t) := Int.tdiv_eq_ediv_of_nonneg hb.1
  have e4 : 0 ≤ D / (z.t - now.t) ∧ D / (z.t - now.t) ≤ 3037000499 := ⟨Int.ediv_nonneg hb.1 (by omega), Int.le_trans (Int.ediv_le_self _ hb.1) hb.2⟩
  have w2 : wr (D / (z.t - now.t)) = D / (z.t - now.t) := wr_id (by omega) (by omega)
  have hne : ¬ z.t - now.t = 0 := by omega
  refine ⟨by simp [encTk], by simp [encTk], by simp [encTk]; omega, _, by rw [← a2'] at hd; exact hd, ?_⟩
  simp [encTk, a1', w1, e3, w2, hne]
  omega
theorem nearV_bd {n : Int} (h1 : -1000000000000 ≤ n) (h2 : n ≤ 1000000000000) : -1000000000 ≤ nearV n ∧ nearV n ≤ 1000000000 := by
  unfold nearV
  split
  · rw [Int.tdiv_eq_ediv_of_nonneg (by omega)]; omega
  · rw [Int.tdiv_eq_ediv_of_nonneg (by omega)]; omega
theorem vecV_bd {h l : Int} (he : vecE l = 0) : (-1000000000 ≤ (vecV h l).1 ∧ (vecV h l).1 ≤ 1000000000) ∧ -1000000000 ≤ (vecV h l).2 ∧ (vecV h l).2 ≤ 1000000000 := by
  have hl : ¬ (l < 0 ∨ l > 2000000) := fun q => by unfold vecE at he; rw [if_pos q] at he; cases he
  obtain ⟨_, s1, s2⟩ := sin_ok h
  obtain ⟨_, s3, s4⟩ := sin_ok (h % 4096 + 1024)
  have b1 : ∀ s : Int, -16384 ≤ s → s ≤ 16384 → -1000000000000 ≤ l * s ∧ l * s ≤ 1000000000000 := fun s a b => by
    have p1 : l * s ≤ l * 16384 := Int.mul_le_mul_of_nonneg_left b (by omega)
    have p2 : l * (-16384) ≤ l * s := Int.mul_le_mul_of_nonneg_left a (by omega)
    omega
  exact ⟨nearV_bd (b1 _ s1 s2).1 (b1 _ s1 s2).2, nearV_bd (b1 _ s3 s4).1 (b1 _ s3 s4).2⟩
/-- Where a heading leads: the error at a node; the node. -/
def hdP (now : Nd) (sp v : Int) (x : Nd) : Pt := ⟨now.x + (vecV v (sp * (x.t - now.t))).1, now.y + (vecV v (sp * (x.t - now.t))).2⟩
def hdE (now : Nd) (sp v : Int) (x : Nd) : Int := if vecE (sp * (x.t - now.t)) ≠ 0 then vecE (sp * (x.t - now.t)) else pE (hdP now sp v x)
def hdN (now : Nd) (sp v : Int) (x : Nd) : Nd := ⟨x.t, (hdP now sp v x).x, (hdP now sp v x).y, x.h, x.r, x.b⟩
/-- The first error. -/
def fstE (f : Nd → Int) : List Nd → Int
  | [] => 0
  | x :: r => if f x ≠ 0 then f x else fstE f r
def hdV (now : Nd) (sp v : Int) (l : List Nd) : AV := if fstE (hdE now sp v) l ≠ 0 then .tup [.sl 6 [], .int (fstE (hdE now sp v) l)] else .tup [tube (l.map (hdN now sp v)), .int 0]
theorem heading_fn (a0 a1 : AV) (v : Int) (a3 a4 : AV) (l : List Nd) (now z : Nd) (k : Kd) (fx fy : Int) (w : AV) (hz : l[0]? = some z) (hl : l.length ≤ 1000) (h0 : 0 ≤ now.t) (hlo : ∀ x ∈ l, now.t < x.t ∧ x.t ≤ 200000)
    (hx : -1000000000 ≤ now.x ∧ now.x ≤ 1000000000) (hy : -1000000000 ≤ now.y ∧ now.y ≤ 1000000000) (hv1 : -9223372036854775808 ≤ v) (hv2 : v ≤ 9223372036854775807) :
    Fn Tryd.prog 34 [.agg (encTk a0 a1 v a3 a4 l now k fx fy w)] (.tup [.row 39 6 true, .sc]) (hdV now (spV now z) v l) := by
  have e := EffT.heading_form (.agg (encTk a0 a1 v a3 a4 l now k fx fy w)) (hdV now (spV now z) v l)
  have kk := fun h => fn_run mixed 3 (Γ := EffT.Γ) (ann := EffT.ann) Tryd.func34 rfl Tryd.call34 (e.mpr h)
  refine kk ?_
  clear kk e
  have hzm := hlo z (List.mem_of_getElem? hz)
  have hsp := speed_fn a0 a1 v a3 a4 l now z k fx fy w hz hzm.1 h0 hzm.2
  have hsb := spV_bd hzm.1
  generalize spV now z = sp at *
  refine ⟨by simp [encTk], _, tclone_fn l (by omega), ?_⟩
  refine loop_list (σ := List Nd) l (fun i s => [.int (i : Nat), tube s]) (fun i rest s => s = (l.take i).map (hdN now sp v) ++ rest ∧ fstE (hdE now sp v) l = fstE (hdE now sp v) rest) l rfl ⟨by simp, rfl⟩ ?_ ?_
  · rintro i x rest s K hx' hrest hi ⟨hG, hF⟩ hK
    have hs : s[i]? = some x := by
      rw [hG, List.getElem?_append_right (by simp; omega)]
      simp [show min i l.length = i by omega]
    have hsl : s.length = l.length := by
      have : (x :: rest).length = l.length - i := by
        rw [← hrest]; simp; omega
      rw [hG, List.length_append, this]; simp; omega
    have hset : s.set i (hdN now sp v x) = (l.take (i + 1)).map (hdN now sp v) ++ rest := by
      rw [hG, List.set_append_right _ _ (by simp; omega)]
      simp only [List.length_map, List.length_take, show min i l.length = i by omega, Nat.sub_self, List.set_cons_zero]
      have e : l.take (i + 1) = l.take i ++ [x] := by
        rw [List.take_add_one, hx']; rfl
      rw [e]; simp
    obtain ⟨q1, q2⟩ := hlo x (List.mem_of_getElem? hx')
    have hset' : (s.set i (hdN now sp v x))[i]? = some (hdN now sp v x) := by rw [List.getElem?_set_self (by omega)]
    have w2 : wr ((i : Int) + 1) = (i : Int) + 1 := wr_id (by omega) (by omega)
    have w3 : wr (x.t - now.t) = x.t - now.t := wr_id (by omega) (by omega)
    have hm : 0 ≤ sp * (x.t - now.t) ∧ sp * (x.t - now.t) ≤ 3037000499 * 200000 := ⟨Int.mul_nonneg hsb.1 (by omega), Int.mul_le_mul hsb.2 (by omega) (by omega) (by omega)⟩
    have w4 : wr (sp * (x.t - now.t)) = sp * (x.t - now.t) := wr_id (by omega) (by omega)
    have hvf := vec_fn v (sp * (x.t - now.t)) hv1 hv2
    have hks : (i : Int) < s.length := by omega
    have hkl : (i : Int) < l.length := by omega
    have hat : AV.at (tube s) (.int (i : Nat)) 0 = .int x.t := by rw [lst_at hs]; rfl
    have hE : hdE now sp v x = if vecE (sp * (x.t - now.t)) ≠ 0 then vecE (sp * (x.t - now.t)) else pE (hdP now sp v x) := rfl
    have hP : hdP now sp v x = ⟨now.x + (vecV v (sp * (x.t - now.t))).1, now.y + (vecV v (sp * (x.t - now.t))).2⟩ := rfl
    have hFe : fstE (hdE now sp v) (x :: rest) = if hdE now sp v x ≠ 0 then hdE now sp v x else fstE (hdE now sp v) rest := rfl
    rw [hFe] at hF
    have hVb := @vecV_bd v (sp * (x.t - now.t))
    generalize hM : sp * (x.t - now.t) = M at *
    generalize hVV : vecV v M = V at *
    refine ⟨by simp, by simp, fun _ => ⟨_, hsp, by simp; omega, by simp; omega, by simp [hat, encTk], by simp [hat, encTk], .tup [.agg [.int (if vecE M = 0 then V.1 else 0), .int (if vecE M = 0 then V.2 else 0)], .int (vecE M)], ?_, by simp, by simp, fun q => ?_, fun q => ?_⟩, fun q => absurd q (by simp; omega)⟩
    · have : AV.bin .mul (.int sp) (AV.bin .sub (AV.at (tube s) (.int (i : Nat)) 0) (.int now.t)) = .int M := by
        rw [hat]; simp [w3, hM, w4]
      have h2 := hvf
      rw [← this] at h2
      exact h2
    · have hne : vecE M ≠ 0 := by simpa using q
      rw [if_pos hne] at hE
      rw [hE, if_pos hne] at hF
      have hVd : hdV now sp v l = .tup [.sl 6 [], .int (vecE M)] := by unfold hdV; rw [hF, if_pos hne]
      rw [hVd]
      simp
    · have h00 : vecE M = 0 := by simpa using q
      obtain ⟨⟨b1, b2⟩, b3, b4⟩ := hVb h00
      rw [if_neg (by simp [h00])] at hE
      have w5 : wr (now.x + V.1) = now.x + V.1 := wr_id (by omega) (by omega)
      have w6 : wr (now.y + V.2) = now.y + V.2 := wr_id (by omega) (by omega)
      have hse : AV.setEl (tube s) (.int (i : Nat)) 1 [.int (now.x + V.1), .int (now.y + V.2)] = tube (s.set i (hdN now sp v x)) := lst_setEl hs (by simp [encN, hdN, hP])
      have hag : AV.atAgg (tube (s.set i (hdN now sp v x))) (.int (i : Nat)) 1 2 = pt (hdP now sp v x) := by rw [lst_atAgg hset']; rfl
      have q5 : AV.bin .add (.int now.x) (.int (if vecE M = 0 then V.1 else 0)) = .int (now.x + V.1) := by rw [if_pos h00]; simp [w5]
      have q6 : AV.bin .add (.int now.y) (.int (if vecE M = 0 then V.2 else 0)) = .int (now.y + V.2) := by rw [if_pos h00]; simp [w6]
      refine ⟨Tryd.call55, fun _ => ⟨by simp [encTk], by simp [encTk], by simp [encTk], by simp [encTk], by simp; omega, by simp; omega, ?_⟩⟩
      have hpc := pe_fn (hdP now sp v x)
      have hsl2 : (i : Int) < (s.set i (hdN now sp v x)).length := by simp; omega
      simp [encTk, h00, w5, w6, hse, hag]
      refine ⟨by omega, _, hpc, by simp, by simp, fun q7 => ?_, fun q7 => ?_⟩
      · have hne : pE (hdP now sp v x) ≠ 0 := by simpa using q7
        rw [hE, if_pos hne] at hF
        have hVd : hdV now sp v l = .tup [.sl 6 [], .int (pE (hdP now sp v x))] := by unfold hdV; rw [hF, if_pos hne]
        rw [hVd]
        simp
      · have h01 : pE (hdP now sp v x) = 0 := by simpa using q7
        rw [hE, h01] at hF
        simp only [ne_eq, not_true_eq_false, if_false] at hF
        exact hK _ (s.set i (hdN now sp v x)) (by simp [w2]) ⟨hset, hF⟩
  · rintro s K ⟨hG, hF⟩
    have hf : fstE (hdE now sp v) l = 0 := hF
    have hVd : hdV now sp v l = .tup [tube (l.map (hdN now sp v)), .int 0] := by unfold hdV; rw [hf]; simp
    have hs : s = l.map (hdN now sp v) := by rw [hG]; simp
    subst hs
    rw [hVd]
    refine ⟨by simp, by simp, fun q => absurd q (by simp), fun _ => ⟨flat_tube _, by simp, rfl⟩⟩
end Go.Proofs.YtdlakpomcafemaaDoor
/- effects of turns: direct; slower. -/
namespace Go.Proofs.YtdlakpomcafemaaDoor
open Go.RowKit
set_option linter.unusedVariables false
set_option linter.unusedSimpArgs false
set_option maxRecDepth 100000
theorem disB_bd (a b : Pt) : 0 ≤ disB a b ∧ disB a b ≤ 3037000500 := by
  have hb := rootI_bd (sqrP a b)
  have hA : disA a b = rootI (sqrP a b) := rfl
  unfold disB
  rw [hA]
  split <;> omega
def diN (now : Nd) (fix : Pt) (sp : Int) : Nd := ⟨now.t + dvu (disB now.p fix) sp, fix.x, fix.y, now.h, now.r, now.b⟩
def diV (now : Nd) (fix : Pt) (sp : Int) : AV :=
  if sp = 0 then .tup [.sl 6 [], .int 10]
  else if disB now.p fix = 0 then .tup [.sl 6 [], .int 0]
  else if 200000 < (diN now fix sp).t then .tup [.sl 6 [], .int 12]
  else .tup [tube [diN now fix sp], .int 0]
theorem direct_fn (a0 a1 : AV) (v : Int) (a3 a4 : AV) (l : List Nd) (now z : Nd) (k : Kd) (fix : Pt) (w : AV) (hz : l[0]? = some z) (h0 : 0 ≤ now.t) (hzm : now.t < z.t ∧ z.t ≤ 200000) :
    Fn Tryd.prog 36 [.agg (encTk a0 a1 v a3 a4 l now k fix.x fix.y w)] (.tup [.row 39 6 true, .sc]) (diV now fix (spV now z)) := by
  have e := EffT.direct_form (.agg (encTk a0 a1 v a3 a4 l now k fix.x fix.y w)) (diV now fix (spV now z))
  have kk := fun h => fn_run mixed 3 (Γ := EffT.Γ) (ann := EffT.ann) Tryd.func36 rfl Tryd.call36 (e.mpr h)
  refine kk ?_
  clear kk e
  have hsp := speed_fn a0 a1 v a3 a4 l now z k fix.x fix.y w hz hzm.1 h0 hzm.2
  have hsb := spV_bd hzm.1
  generalize spV now z = sp at *
  have hd := dist_fn now.p fix
  have hdb := disB_bd now.p fix
  have hV : diV now fix sp = if sp = 0 then .tup [.sl 6 [], .int 10] else if disB now.p fix = 0 then .tup [.sl 6 [], .int 0] else if 200000 < (diN now fix sp).t then .tup [.sl 6 [], .int 12] else .tup [tube [diN now fix sp], .int 0] := rfl
  have hN : diN now fix sp = ⟨now.t + dvu (disB now.p fix) sp, fix.x, fix.y, now.h, now.r, now.b⟩ := rfl
  rw [hV, hN]
  generalize disB now.p fix = D at *
  generalize disA now.p fix = D2 at *
  refine ⟨by simp [encTk], _, hsp, by simp, by simp, fun q => ?_, fun q => ?_⟩
  · have h1 : sp = 0 := by simpa using q
    rw [if_pos h1]
    simp
  · have h1 : ¬ sp = 0 := by simpa using q
    rw [if_neg h1]
    refine ⟨_, hd, by simp, by simp, fun q2 => ?_, fun q2 => ?_⟩
    · have h2 : D = 0 := by simpa using q2
      rw [if_pos h2]
      simp
    · have h2 : ¬ D = 0 := by simpa using q2
      rw [if_neg h2]
      have hu := divu_fn D sp (by omega) (by omega) (by omega)
      have hub := dvu_bd (a := D) (b := sp) (by omega) (by omega) (by omega)
      generalize dvu D sp = s at *
      have w1 : wr (now.t + s) = now.t + s := wr_id (by omega) (by omega)
      refine ⟨_, hu, by simp [encTk], by simp [encTk], by simp [encTk], by simp [encTk], fun q3 => ?_, fun q3 => ?_⟩
      · have h3 : 200000 < now.t + s := by simpa [encTk, w1] using q3
        rw [if_pos h3]
        simp
      · have h3 : ¬ 200000 < now.t + s := by
          have : now.t + s ≤ 200000 := by simpa [encTk, w1] using q3
          omega
        rw [if_neg h3]
        simp [encTk, w1, lst, encN]
/-- The times at a speed. -/
def swT (v : Int) (last x : Nd) : Int := last.t + (if dvu (disB last.p x.p) v > 1 then dvu (disB last.p x.p) v else 1)
def swN (v : Int) (last x : Nd) : Nd := ⟨swT v last x, x.x, x.y, x.h, x.r, x.b⟩
def swL (v : Int) : Nd → List Nd → List Nd
  | _, [] => []
  | last, x :: r => swN v last x :: swL v (swN v last x) r
def swE (v : Int) : Nd → List Nd → Int
  | _, [] => 0
  | last, x :: r => if swT v last x > 200000 then 12 else swE v (swN v last x) r
def swV (v : Int) (now : Nd) (k : Kd) (l : List Nd) : AV :=
  if v < k.sl ∨ v > k.fa then .tup [.sl 6 [], .int 4]
  else if swE v now l ≠ 0 then .tup [.sl 6 [], .int (swE v now l)] else .tup [tube (swL v now l), .int 0]
theorem slower_fn (a0 a1 : AV) (v : Int) (a3 a4 : AV) (l : List Nd) (now : Nd) (k : Kd) (fx fy : Int) (w : AV) (hl : l.length ≤ 1000) (h0 : 0 ≤ now.t) (h1 : now.t ≤ 200000) (hk : 1 ≤ k.sl) :
    Fn Tryd.prog 35 [.agg (encTk a0 a1 v a3 a4 l now k fx fy w)] (.tup [.row 39 6 true, .sc]) (swV v now k l) := by
  have e := EffT.slower_form (.agg (encTk a0 a1 v a3 a4 l now k fx fy w)) (swV v now k l)
  have kk := fun h => fn_run mixed 3 (Γ := EffT.Γ) (ann := EffT.ann) Tryd.func35 rfl Tryd.call35 (e.mpr h)
  refine kk ?_
  clear kk e
  have hV : swV v now k l = if v < k.sl ∨ v > k.fa then .tup [.sl 6 [], .int 4] else if swE v now l ≠ 0 then .tup [.sl 6 [], .int (swE v now l)] else .tup [tube (swL v now l), .int 0] := rfl
  refine ⟨by simp [encTk], by simp [encTk], by simp [encTk], fun q => ?_, fun q => ?_⟩
  · have h2 : v < k.sl := by simpa [encTk] using q
    rw [if_pos (.inl h2)] at hV
    rw [hV]
    simp [encTk, h2]
  · have h2 : ¬ v < k.sl := by simpa [encTk] using q
    refine ⟨by simp [encTk], by simp [encTk], by simpa [encTk] using h2, by simp [encTk], fun q => ?_, fun q => ?_⟩
    · have h3 : v > k.fa := by simpa [encTk] using q
      rw [if_pos (.inr h3)] at hV
      rw [hV]
      simp
    · have h3 : ¬ v > k.fa := by simpa [encTk] using q
      rw [if_neg (by omega)] at hV
      generalize swV v now k l = R at *
      refine ⟨_, tclone_fn l (by omega), ?_⟩
      refine loop_list (σ := List Nd × Nd) l (fun i s => [.int (i : Nat), tube s.1, .int s.2.t, .int s.2.x, .int s.2.y, .int s.2.h, .int s.2.r, .int s.2.b])
        (fun i rest s => ∃ pre, s.1 = pre ++ rest ∧ pre.length = i ∧ swL v now l = pre ++ swL v s.2 rest ∧ swE v now l = swE v s.2 rest ∧ 0 ≤ s.2.t ∧ s.2.t ≤ 200000) (l, now) rfl ⟨[], rfl, rfl, rfl, rfl, h0, h1⟩ ?_ ?_
      · rintro i x rest ⟨s, last⟩ K hx hrest hi ⟨pre, hs, hp, hL, hE, b0, b1⟩ hK
        simp only at hs hL hE b0 b1
        have hsx : s[i]? = some x := by rw [hs, ← hp]; simp
        have hset : s.set i (swN v last x) = (pre ++ [swN v last x]) ++ rest := by rw [hs, ← hp]; simp
        have hset' : (s.set i (swN v last x))[i]? = some (swN v last x) := by rw [List.getElem?_set_self]; rw [hs]; simp; omega
        have hsl : (i : Int) < s.length := by rw [hs]; simp; omega
        have hil : (i : Int) < l.length := by omega
        have hL1 : swL v last (x :: rest) = swN v last x :: swL v (swN v last x) rest := rfl
        have hE1 : swE v last (x :: rest) = if swT v last x > 200000 then 12 else swE v (swN v last x) rest := rfl
        rw [hL1] at hL
        rw [hE1] at hE
        have hd := dist_fn last.p x.p
        have hdb := disB_bd last.p x.p
        have hT : swT v last x = last.t + (if dvu (disB last.p x.p) v > 1 then dvu (disB last.p x.p) v else 1) := rfl
        have hu := divu_fn (disB last.p x.p) v (by omega) (by omega) (by omega)
        have hub := dvu_bd (a := disB last.p x.p) (b := v) (by omega) (by omega) (by omega)
        have hat : AV.atAgg (tube s) (.int (i : Nat)) 1 2 = pt x.p := by rw [lst_atAgg hsx]; rfl
        have hN : swN v last x = ⟨swT v last x, x.x, x.y, x.h, x.r, x.b⟩ := rfl
        have hse : AV.setEl (tube s) (.int (i : Nat)) 0 [.int (swT v last x)] = tube (s.set i (swN v last x)) := lst_setEl hsx (by simp [encN, hN])
        have ha2 : AV.at (tube (s.set i (swN v last x))) (.int (i : Nat)) 0 = .int (swT v last x) := by rw [lst_at hset']; rfl
        have ha3 : AV.atAgg (tube (s.set i (swN v last x))) (.int (i : Nat)) 0 6 = nd (swN v last x) := by rw [lst_atAgg hset']; rfl
        have hNt : (swN v last x).t = swT v last x := rfl
        have w2 : wr ((i : Int) + 1) = (i : Int) + 1 := wr_id (by omega) (by omega)
        have hK2 := hK [.int ((i : Int) + 1), tube (s.set i (swN v last x)), .int (swN v last x).t, .int (swN v last x).x, .int (swN v last x).y, .int (swN v last x).h, .int (swN v last x).r, .int (swN v last x).b] (s.set i (swN v last x), swN v last x)
        clear hK
        generalize disB last.p x.p = D at *
        generalize disA last.p x.p = D2 at *
        generalize dvu D v = u at *
        have hmx : last.t + (if u > 1 then u else 1) = swT v last x := hT.symm
        have hTb : swT v last x ≤ 2000000000000 ∧ last.t + 1 ≤ swT v last x := by rw [hT]; split <;> omega
        have hadd : AV.bin .add (.int last.t) (AV.mx (AV.int 1) (.int u)) = .int (swT v last x) := by
          rw [av_mx, av_add, hmx, wrap64 (by omega) (by omega)]
        refine ⟨by simp, by simp, fun _ => ⟨by simp; omega, by simp; omega, .tup [.int D2, .int D], by rw [← hat] at hd; exact hd, .tup [.int u, .int 0], hu, by simp, by simp, by simp, by simp; omega, by simp, by simp; omega, ?_⟩, fun q => absurd q (by simp; omega)⟩
        simp only [List.getD_cons_succ, List.getD_cons_zero, av_prj]
        rw [hadd, hse, ha2, ha3]
        refine ⟨by simp; omega, by simp; omega, by simp, by simp, fun q => ?_, fun q => ?_⟩
        · have h4 : swT v last x > 200000 := by simpa using q
          rw [if_pos h4] at hE
          rw [hE, if_pos (by decide)] at hV
          rw [hV]
          simp
        · have h4 : ¬ swT v last x > 200000 := by
            have : swT v last x ≤ 200000 := by simpa using q
            omega
          rw [if_neg h4] at hE
          refine ⟨by simp; omega, by simp; omega, by simp [encN], by simp, ?_⟩
          have := hK2 (by simp) ⟨pre ++ [swN v last x], hset, by simp [hp], by rw [hL]; simp, hE, by rw [hNt]; omega, by rw [hNt]; omega⟩
          simpa [encN, w2] using this
      · rintro ⟨s, last⟩ K ⟨pre, hs, hp, hL, hE, b0, b1⟩
        simp only at hs hL hE
        have e1 : swL v last [] = [] := rfl
        have e2 : swE v last [] = 0 := rfl
        rw [e1, List.append_nil] at hL
        rw [e2] at hE
        rw [List.append_nil] at hs
        subst hs
        rw [hE, if_neg (by decide), hL] at hV
        rw [hV]
        refine ⟨by simp, by simp, fun q => absurd q (by simp), fun _ => ⟨flat_tube _, by simp, rfl⟩⟩
end Go.Proofs.YtdlakpomcafemaaDoor
/- effects of turns: carried out. -/
namespace Go.Proofs.YtdlakpomcafemaaDoor
open Go.RowKit
set_option linter.unusedVariables false
set_option linter.unusedSimpArgs false
set_option maxRecDepth 100000
section
variable (a0 : AV) (ck v : Int) (a3 a4 : AV) (l : List Nd) (now : Nd) (k : Kd) (fx fy : Int) (w : AV)
theorem carried_same (h0 : ck ≠ 0) (h : l = [] ∨ ck ≠ 1 ∧ ck ≠ 2 ∧ ck ≠ 3) : Fn Tryd.prog 22 [.agg (encTk a0 (.int ck) v a3 a4 l now k fx fy w)] (.tup [.row 39 6 true, .sc, .sc]) (.tup [.sl 6 [], .bool true, .int 0]) := by
  have q := EffF.carried_form (.agg (encTk a0 (.int ck) v a3 a4 l now k fx fy w)) (.tup [.sl 6 [], .bool true, .int 0])
  have kk := fun h => fn_run mixed 3 (Γ := EffF.Γ) (ann := EffF.ann) Tryd.func22 rfl Tryd.call22 (q.mpr h)
  refine kk ?_
  clear kk q
  rcases h with rfl | ⟨h1, h2, h3⟩
  · simp [encTk, h0, lst]
  · simp [encTk, h0, h1, h2, h3]
theorem carried_new (o : List Nd) (e : Int) (hl : l ≠ [])
    (h : (ck = 1 ∧ Fn Tryd.prog 34 [.agg (encTk a0 (.int ck) v a3 a4 l now k fx fy w)] (.tup [.row 39 6 true, .sc]) (.tup [tube o, .int e])) ∨
      (ck = 2 ∧ Fn Tryd.prog 35 [.agg (encTk a0 (.int ck) v a3 a4 l now k fx fy w)] (.tup [.row 39 6 true, .sc]) (.tup [tube o, .int e])) ∨
      (ck = 3 ∧ Fn Tryd.prog 36 [.agg (encTk a0 (.int ck) v a3 a4 l now k fx fy w)] (.tup [.row 39 6 true, .sc]) (.tup [tube o, .int e]))) :
    Fn Tryd.prog 22 [.agg (encTk a0 (.int ck) v a3 a4 l now k fx fy w)] (.tup [.row 39 6 true, .sc, .sc]) (.tup [tube o, .bool false, .int e]) := by
  have q := EffF.carried_form (.agg (encTk a0 (.int ck) v a3 a4 l now k fx fy w)) (.tup [tube o, .bool false, .int e])
  have kk := fun h => fn_run mixed 3 (Γ := EffF.Γ) (ann := EffF.ann) Tryd.func22 rfl Tryd.call22 (q.mpr h)
  refine kk ?_
  clear kk q
  have hf := flat_tube o
  have hne : ¬ (l.length = 0) := by simpa using hl
  have p1 : AV.bin .eql (AV.len (tube l)) (AV.int 0) = .bool false := by simp [hl]
  have pL : ∀ F : Prop, F → ((AV.isSl (tube l) 6) ∧ (AV.binOk .eql (AV.len (tube l)) (AV.int 0)) ∧ (AV.isBool (AV.bin .eql (AV.len (tube l)) (AV.int 0))) ∧ ((isT (AV.bin .eql (AV.len (tube l)) (AV.int 0))) → (AV.flatS (AV.mk 6 [])) ∧ (AV.flat (AV.bool true)) ∧ (AV.flat (AV.int 0)) ∧ fSame (AV.tup [(AV.mk 6 []), (AV.bool true), (AV.int 0)]) (.tup [tube o, .bool false, .int e])) ∧ ((isF (AV.bin .eql (AV.len (tube l)) (AV.int 0))) → F)) := fun F hF =>
    ⟨by simp, by simp, by simp, fun q => absurd q (by rw [p1]; simp), fun _ => hF⟩
  rcases h with ⟨rfl, hh⟩ | ⟨rfl, hh⟩ | ⟨rfl, hh⟩
  · refine ⟨by simp [encTk], by simp [encTk], by simp [encTk], fun q => absurd q (by simp [encTk]), fun _ => pL _ ⟨by simp [encTk], by simp [encTk], fun _ => ⟨_, hh, hf, .lit _, .lit _, rfl⟩, fun q => absurd q (by simp [encTk])⟩⟩
  · refine ⟨by simp [encTk], by simp [encTk], by simp [encTk], fun q => absurd q (by simp [encTk]), fun _ => pL _ ⟨by simp [encTk], by simp [encTk], fun q => absurd q (by simp [encTk]), fun _ => ⟨by simp [encTk], by simp [encTk], fun _ => ⟨_, hh, hf, .lit _, .lit _, rfl⟩, fun q => absurd q (by simp [encTk])⟩⟩⟩
  · refine ⟨by simp [encTk], by simp [encTk], by simp [encTk], fun q => absurd q (by simp [encTk]), fun _ => pL _ ⟨by simp [encTk], by simp [encTk], fun q => absurd q (by simp [encTk]), fun _ => ⟨by simp [encTk], by simp [encTk], fun q => absurd q (by simp [encTk]), fun _ => ⟨by simp [encTk], by simp [encTk], fun _ => ⟨_, hh, hf, .lit _, .lit _, rfl⟩, fun q => absurd q (by simp [encTk])⟩⟩⟩⟩
end
/-- What a clearance (not to a height) makes of the later nodes; the error. -/
def trO (c : Cl) (now z : Nd) (l : List Nd) (k : Kd) (fix : Pt) : List Nd × Int :=
  if c.k = 1 then (if fstE (hdE now (spV now z) c.v) l ≠ 0 then ([], fstE (hdE now (spV now z) c.v) l) else (l.map (hdN now (spV now z) c.v), 0))
  else if c.k = 2 then (if c.v < k.sl ∨ c.v > k.fa then ([], 4) else if swE c.v now l ≠ 0 then ([], swE c.v now l) else (swL c.v now l, 0))
  else if spV now z = 0 then ([], 10) else if disB now.p fix = 0 then ([], 0) else if 200000 < (diN now fix (spV now z)).t then ([], 12) else ([diN now fix (spV now z)], 0)
end Go.Proofs.YtdlakpomcafemaaDoor
/- effects of turns: effect.Of. -/
namespace Go.Proofs.YtdlakpomcafemaaDoor
open Go.RowKit
set_option linter.unusedVariables false
set_option linter.unusedSimpArgs false
set_option maxRecDepth 100000
def ofT (l : List Nd) (c : Cl) (a : Int) (k : Kd) (fix : Pt) : AV :=
  if ofE l c a k fix ≠ 0 then .tup [.sl 6 [], .int (ofE l c a k fix)]
  else if latT a l = [] ∨ (c.k ≠ 1 ∧ c.k ≠ 2 ∧ c.k ≠ 3) then .tup [tube l, .int 0]
  else if (trO c (atN l a) ((latT a l).getD 0 default) (latT a l) k fix).2 ≠ 0 then .tup [.sl 6 [], .int (trO c (atN l a) ((latT a l).getD 0 default) (latT a l) k fix).2]
  else if 64 < (befT a l ++ atN l a :: (trO c (atN l a) ((latT a l).getD 0 default) (latT a l) k fix).1).length then .tup [.sl 6 [], .int 2] else .tup [tube (befT a l ++ atN l a :: (trO c (atN l a) ((latT a l).getD 0 default) (latT a l) k fix).1), .int 0]
theorem swL_len (v : Int) : ∀ (last : Nd) (l : List Nd), (swL v last l).length = l.length
  | _, [] => rfl
  | last, x :: r => by rw [swL, List.length_cons, List.length_cons, swL_len]
theorem trO_len (c : Cl) (now z : Nd) (l : List Nd) (k : Kd) (fix : Pt) : (trO c now z l k fix).1.length ≤ l.length + 1 := by
  unfold trO
  repeat' split
  all_goals simp [swL_len]
theorem trO_fn {cc cf : ByteArray} {ck cv : Int} {A z : Nd} {l : List Nd} {k : Kd} {fix : Pt} {x : AV} (hkk : ck = 1 ∨ ck = 2 ∨ ck = 3)
    (hh : Fn Tryd.prog 34 [x] (.tup [.row 39 6 true, .sc]) (hdV A (spV A z) cv l))
    (hs : Fn Tryd.prog 35 [x] (.tup [.row 39 6 true, .sc]) (swV cv A k l))
    (hd : Fn Tryd.prog 36 [x] (.tup [.row 39 6 true, .sc]) (diV A fix (spV A z))) :
    (ck = 1 ∧ Fn Tryd.prog 34 [x] (.tup [.row 39 6 true, .sc]) (.tup [tube (trO ⟨cc, ck, cv, cf⟩ A z l k fix).1, .int (trO ⟨cc, ck, cv, cf⟩ A z l k fix).2])) ∨
    (ck = 2 ∧ Fn Tryd.prog 35 [x] (.tup [.row 39 6 true, .sc]) (.tup [tube (trO ⟨cc, ck, cv, cf⟩ A z l k fix).1, .int (trO ⟨cc, ck, cv, cf⟩ A z l k fix).2])) ∨
    (ck = 3 ∧ Fn Tryd.prog 36 [x] (.tup [.row 39 6 true, .sc]) (.tup [tube (trO ⟨cc, ck, cv, cf⟩ A z l k fix).1, .int (trO ⟨cc, ck, cv, cf⟩ A z l k fix).2])) := by
  rcases hkk with rfl | rfl | rfl
  · refine .inl ⟨rfl, ?_⟩
    have e : hdV A (spV A z) cv l = .tup [tube (trO ⟨cc, 1, cv, cf⟩ A z l k fix).1, .int (trO ⟨cc, 1, cv, cf⟩ A z l k fix).2] := by
      have e2 : trO ⟨cc, 1, cv, cf⟩ A z l k fix = if fstE (hdE A (spV A z) cv) l ≠ 0 then ([], fstE (hdE A (spV A z) cv) l) else (l.map (hdN A (spV A z) cv), 0) := rfl
      rw [e2]
      unfold hdV
      by_cases h1 : fstE (hdE A (spV A z) cv) l ≠ 0
      · rw [if_pos h1, if_pos h1]; rfl
      · rw [if_neg h1, if_neg h1]
    rw [← e]; exact hh
  · refine .inr (.inl ⟨rfl, ?_⟩)
    have e : swV cv A k l = .tup [tube (trO ⟨cc, 2, cv, cf⟩ A z l k fix).1, .int (trO ⟨cc, 2, cv, cf⟩ A z l k fix).2] := by
      have e2 : trO ⟨cc, 2, cv, cf⟩ A z l k fix = if cv < k.sl ∨ cv > k.fa then ([], 4) else if swE cv A l ≠ 0 then ([], swE cv A l) else (swL cv A l, 0) := rfl
      rw [e2]
      unfold swV
      by_cases h1 : cv < k.sl ∨ cv > k.fa
      · rw [if_pos h1, if_pos h1]; rfl
      · rw [if_neg h1, if_neg h1]
        by_cases h2 : swE cv A l ≠ 0
        · rw [if_pos h2, if_pos h2]; rfl
        · rw [if_neg h2, if_neg h2]
    rw [← e]; exact hs
  · refine .inr (.inr ⟨rfl, ?_⟩)
    have e : diV A fix (spV A z) = .tup [tube (trO ⟨cc, 3, cv, cf⟩ A z l k fix).1, .int (trO ⟨cc, 3, cv, cf⟩ A z l k fix).2] := by
      have e2 : trO ⟨cc, 3, cv, cf⟩ A z l k fix = if spV A z = 0 then ([], 10) else if disB A.p fix = 0 then ([], 0) else if 200000 < (diN A fix (spV A z)).t then ([], 12) else ([diN A fix (spV A z)], 0) := rfl
      rw [e2]
      unfold diV
      by_cases h1 : spV A z = 0
      · rw [if_pos h1, if_pos h1]; rfl
      · rw [if_neg h1, if_neg h1]
        by_cases h2 : disB A.p fix = 0
        · rw [if_pos h2, if_pos h2]; rfl
        · rw [if_neg h2, if_neg h2]
          by_cases h3 : 200000 < (diN A fix (spV A z)).t
          · rw [if_pos h3, if_pos h3]; rfl
          · rw [if_neg h3, if_neg h3]
    rw [← e]; exact hd
theorem kE_sl {k : Kd} (h : kE k = 0) : 1 ≤ k.sl := by
  unfold kE at h
  split at h
  · cases h
  · split at h
    · cases h
    · split at h
      · cases h
      · omega
theorem atN_xy {l : List Nd} {t : Int} (hv : tE l = 0) (h0 : ∀ x, l[0]? = some x → x.t ≤ t) (h1 : ∀ x, l[l.length - 1]? = some x → t ≤ x.t) : (-1000000000 ≤ (atN l t).x ∧ (atN l t).x ≤ 1000000000) ∧ -1000000000 ≤ (atN l t).y ∧ (atN l t).y ≤ 1000000000 := by
  have h := (atN_ok hv h0 h1).1
  unfold pE at h
  split at h
  · cases h
  · rename_i hn
    have e1 : (atN l t).p.x = (atN l t).x := rfl
    have e2 : (atN l t).p.y = (atN l t).y := rfl
    rw [e1, e2] at hn
    omega
theorem oft_fn (l : List Nd) (c : Cl) (a : Int) (k : Kd) (fix : Pt) (hc : c.k ≠ 0) (hv1 : -9223372036854775808 ≤ c.v) (hv2 : c.v ≤ 9223372036854775807) : Fn Tryd.prog 5 [tube l, cl c, .int a, kd k, pt fix] (.tup [.row 39 6 true, .sc]) (ofT l c a k fix) := by
  have q := EffF.of_form (tube l) (cl c) (.int a) (kd k) (pt fix) (ofT l c a k fix)
  have kk := fun h => fn_run mixed 3 (Γ := EffF.Γ) (ann := EffF.ann) Tryd.func5 rfl Tryd.call5 (q.mpr h)
  refine kk ?_
  clear kk q
  refine ⟨by simp, by simp [encL], by simp [encKd], by simp [encP], ?_⟩
  obtain ⟨CL, hCL⟩ : ∃ CL : List (AV × Int), CL = [(AV.clo 13 [.ref [tube l]], tE l), (AV.clo 15 [.ref (encL c)], clE c), (AV.clo 17 [.ref (encKd k)], kE k), (AV.clo 19 [.ref (encP fix)], pE fix)] := ⟨_, rfl⟩
  have hls : AV.mk 1 [[(AV.mkClo 13 [(AV.mkRef [tube l])])], [(AV.mkClo 15 [(AV.mkRef [(AV.cel (cl c) 0), (AV.cel (cl c) 1), (AV.cel (cl c) 2), (AV.cel (cl c) 3)])])], [(AV.mkClo 17 [(AV.mkRef [(AV.cel (kd k) 0), (AV.cel (kd k) 1), (AV.cel (kd k) 2), (AV.cel (kd k) 3), (AV.cel (kd k) 4), (AV.cel (kd k) 5), (AV.cel (kd k) 6)])])], [(AV.mkClo 19 [(AV.mkRef [(AV.cel (pt fix) 0), (AV.cel (pt fix) 1)])])]] = lst 1 encC CL := by rw [hCL]; rfl
  rw [hls]
  have hfe : feE CL = if tE l ≠ 0 then tE l else if clE c ≠ 0 then clE c else if kE k ≠ 0 then kE k else pE fix := by
    rw [hCL]
    simp only [feE]
    split
    · rfl
    · split
      · rfl
      · split
        · rfl
        · split
          · rfl
          · rename_i h; simpa using (Eq.symm (by simpa using h))
  have hFC : ∀ x ∈ CL, FnC Tryd.prog x.1 [] .sc (.int x.2) := by
    intro x hx
    rw [hCL] at hx
    simp only [List.mem_cons, List.mem_nil_iff, or_false] at hx
    rcases hx with rfl | rfl | rfl | rfl
    · exact ⟨_, _, rfl, of1_fn l⟩
    · exact ⟨_, _, rfl, of2_fn c⟩
    · exact ⟨_, _, rfl, of3_fn k⟩
    · exact ⟨_, _, rfl, of4_fn fix⟩
  have hl4 : CL.length = 4 := by rw [hCL]; rfl
  have hV1 : feE CL ≠ 0 → ofT l c a k fix = .tup [.sl 6 [], .int (feE CL)] := fun h => by
    have e : ofE l c a k fix = feE CL := by
      rw [hfe] at h ⊢
      unfold ofE
      split
      · rfl
      · rename_i h1
        rw [if_neg h1] at h
        split
        · rfl
        · rename_i h2
          rw [if_neg h2] at h
          split
          · rfl
          · rename_i h3
            rw [if_neg h3] at h
            rw [if_pos h]
    unfold ofT
    rw [e, if_pos h]
  have hE0 : feE CL = 0 → tE l = 0 ∧ kE k = 0 ∧ ofE l c a k fix = tatE l a := fun h => by
    rw [hfe] at h
    unfold ofE
    by_cases h1 : tE l = 0
    · by_cases h2 : clE c = 0
      · by_cases h3 : kE k = 0
        · simp [h1, h2, h3] at h ⊢
          simp [h]
        · simp [h1, h2, h3] at h
      · simp [h1, h2] at h
    · simp [h1] at h
  clear hls hCL hfe
  refine loop_list (σ := Unit) CL (fun i _ => [.int (i : Nat)]) (fun i rest _ => feE CL = feE rest) () rfl rfl ?_ ?_
  · rintro i x rest _ K hx hrest hi hG hK
    have hi4 : (i : Int) < 4 := by omega
    have hwi : wr ((i : Int) + 1) = (i : Int) + 1 := wr_id (by omega) (by omega)
    have hF := hFC x (List.mem_of_getElem? hx)
    refine ⟨by simp, by simp, fun _ => ⟨by simp; omega, by simp; omega, .int x.2, ?_, by simp, by simp, fun h => ?_, fun h => ⟨by simp, ?_⟩⟩, fun h => absurd h (by simp; omega)⟩
    · rw [show AV.at (lst 1 encC CL) ([AV.int (i : Nat)].getD 0 default) 0 = x.1 from lst_at hx]
      exact hF
    · have hx2 : x.2 ≠ 0 := by simpa using h
      rw [feE, if_pos hx2] at hG
      rw [hV1 (by rw [hG]; exact hx2), hG]
      simp
    · have hx2 : x.2 = 0 := by simpa using h
      rw [feE, if_neg (by simp [hx2])] at hG
      exact hK _ () (by simp [hwi]) hG
  · rintro _ K hG
    obtain ⟨hl0, hk0, hOE⟩ := hE0 hG
    clear hE0 hV1 hFC
    refine ⟨by simp, by simp [hl4], fun h => absurd h (by simp [hl4]), fun _ => ?_⟩
    obtain ⟨hp, h64, hGt⟩ := tE_ok hl0
    have hta := tat_fn l a
    by_cases hE : tatE l a = 0
    · have htv : tatV l a = .tup [nd (atN l a), .int 0] := by unfold tatV; rw [if_pos hE]
      rw [htv] at hta
      have hOE' : ofE l c a k fix = 0 := by rw [hOE, hE]
      obtain ⟨_, hfi, hla⟩ := tatE_ok hE
      obtain ⟨cc, ck, cv, cf⟩ := c
      simp only at hc hv1 hv2
      have hV : ofT l ⟨cc, ck, cv, cf⟩ a k fix = if latT a l = [] ∨ (ck ≠ 1 ∧ ck ≠ 2 ∧ ck ≠ 3) then .tup [tube l, .int 0] else if (trO ⟨cc, ck, cv, cf⟩ (atN l a) ((latT a l).getD 0 default) (latT a l) k fix).2 ≠ 0 then .tup [.sl 6 [], .int (trO ⟨cc, ck, cv, cf⟩ (atN l a) ((latT a l).getD 0 default) (latT a l) k fix).2]
          else if 64 < (befT a l ++ atN l a :: (trO ⟨cc, ck, cv, cf⟩ (atN l a) ((latT a l).getD 0 default) (latT a l) k fix).1).length then .tup [.sl 6 [], .int 2] else .tup [tube (befT a l ++ atN l a :: (trO ⟨cc, ck, cv, cf⟩ (atN l a) ((latT a l).getD 0 default) (latT a l) k fix).1), .int 0] := by
        unfold ofT
        rw [if_neg (by rw [hOE']; simp)]
      have hok := atN_okN hl0 hfi hla
      have htt := atN_t l a
      have hAxy : (-1000000000 ≤ (atN l a).x ∧ (atN l a).x ≤ 1000000000) ∧ -1000000000 ≤ (atN l a).y ∧ (atN l a).y ≤ 1000000000 := atN_xy hl0 hfi hla
      have hks : 1 ≤ k.sl := kE_sl hk0
      generalize atN l a = A at *
      subst htt
      rw [hV]
      clear hV hOE hOE'
      refine ⟨by simp, _, hta, by simp [encN], by simp, by simp, fun h => absurd h (by simp), fun _ => ⟨by simp, by simp, by simp, by simp, by simp, by simp, by simp, by simp, by simp, by simp, ?_⟩⟩
      refine loop_list (σ := Unit) l (fun i _ => [.int (i : Nat), tube (befT A.t (l.take i)), tube (latT A.t (l.take i)), .string cc, .int ck, .int cv, .string cf, .int A.t, .int A.x, .int A.y, .int A.h, .int A.r, .int A.b, .string k.nm, .int k.wk, .int k.cl, .int k.up, .int k.dn, .int k.sl, .int k.fa, .int fix.x, .int fix.y, tube l]) (fun _ _ _ => True) () rfl trivial ?_ ?_
      · rintro i x rest _ K hx hrest hi _ hK
        have hwi : wr ((i : Int) + 1) = (i : Int) + 1 := wr_id (by omega) (by omega)
        have hil : (i : Int) < l.length := by omega
        have e1 : l.take (i + 1) = l.take i ++ [x] := by rw [List.take_add_one, hx]; rfl
        have e2 := befT_snoc A.t (l.take i) x
        have e3 := latT_snoc A.t (l.take i) x
        rw [← e1] at e2 e3
        have b1 := befT_len A.t (l.take i)
        have b2 := latT_len A.t (l.take i)
        have b3 : (l.take i).length ≤ 1000 := by rw [List.length_take]; omega
        have r1 := nd_room (befT A.t (l.take i)) x (by omega)
        have r2 := nd_room (latT A.t (l.take i)) x (by omega)
        have a1 := nd_snoc (befT A.t (l.take i)) x
        have a2 := nd_snoc (latT A.t (l.take i)) x
        have hK' := hK [.int ((i : Int) + 1), tube (befT A.t (l.take (i + 1))), tube (latT A.t (l.take (i + 1))), .string cc, .int ck, .int cv, .string cf, .int A.t, .int A.x, .int A.y, .int A.h, .int A.r, .int A.b, .string k.nm, .int k.wk, .int k.cl, .int k.up, .int k.dn, .int k.sl, .int k.fa, .int fix.x, .int fix.y, tube l] () (by simp) trivial
        rw [e2, e3] at hK'
        clear hK e2 e3 e1 b1 b2 b3
        generalize befT A.t (l.take i) = B at *
        generalize latT A.t (l.take i) = D at *
        obtain ⟨xt, xx, xy, xh, xr, xb⟩ := x
        simp [encN] at r1 r2 a1 a2 hK'
        simp [hil, lst_atAgg hx, encN, hwi]
        refine ⟨fun g1 => ⟨r1, fun g2 => absurd g2 (by omega), fun g2 => ?_⟩, fun g1 => ⟨fun g2 => ⟨r2, ?_⟩, fun g2 => ?_⟩⟩
        · rw [if_pos g1, if_neg (by omega)] at hK'
          rw [a1]; exact hK'
        · rw [if_neg (by omega), if_pos g2] at hK'
          rw [a2]; exact hK'
        · rw [if_neg (by omega), if_neg (by omega)] at hK'
          exact hK'
      · rintro _ K _
        rw [List.take_length]
        have b1 := befT_len A.t l
        have b2 := latT_len A.t l
        have hlo : ∀ x ∈ latT A.t l, okN x ∧ A.t < x.t := fun x hx => by
          obtain ⟨h1, h2⟩ := List.mem_filter.1 hx
          obtain ⟨j, hj⟩ := List.getElem?_of_mem h1
          exact ⟨(tG_get hGt hj).2.1, by simpa using h2⟩
        have hxy : (-1000000000 ≤ A.x ∧ A.x ≤ 1000000000) ∧ -1000000000 ≤ A.y ∧ A.y ≤ 1000000000 := hAxy
        by_cases hsame : latT A.t l = [] ∨ (ck ≠ 1 ∧ ck ≠ 2 ∧ ck ≠ 3)
        · rw [if_pos hsame]
          have hca := carried_same (.string cc) ck cv (.string cf) (tube (befT A.t l)) (latT A.t l) A k fix.x fix.y (tube l) hc hsame
          refine ⟨by simp, by simp, fun h => absurd h (by simp), fun _ => ⟨_, hca, by simp, by simp, fun h => absurd h (by simp), fun _ => ⟨by simp, fun _ => ⟨⟨_, rfl, rfl⟩, _, tclone_fn l (by omega), flat_tube l, .lit _, rfl⟩, fun h => absurd h (by simp)⟩⟩⟩
        · rw [if_neg hsame]
          have hne : latT A.t l ≠ [] := fun h => hsame (.inl h)
          have hkk : ck = 1 ∨ ck = 2 ∨ ck = 3 := by
            rcases Classical.em (ck = 1) with h | h
            · exact .inl h
            · rcases Classical.em (ck = 2) with h2 | h2
              · exact .inr (.inl h2)
              · rcases Classical.em (ck = 3) with h3 | h3
                · exact .inr (.inr h3)
                · exact absurd (.inr ⟨h, h2, h3⟩) hsame
          obtain ⟨z, hz⟩ : ∃ z, (latT A.t l)[0]? = some z := ⟨_, List.getElem?_eq_getElem (List.length_pos_iff.2 hne)⟩
          have hzd : (latT A.t l).getD 0 default = z := by rw [List.getD_eq_getElem?_getD, hz]; rfl
          rw [hzd]
          have hlo2 : ∀ x ∈ latT A.t l, A.t < x.t ∧ x.t ≤ 200000 := fun x hx => ⟨(hlo x hx).2, (hlo x hx).1.2.1⟩
          have hzm := hlo2 z (List.mem_of_getElem? hz)
          have hh := heading_fn (.string cc) (.int ck) cv (.string cf) (tube (befT A.t l)) (latT A.t l) A z k fix.x fix.y (tube l) hz (by omega) hok.1 hlo2 hxy.1 hxy.2 hv1 hv2
          have hs := slower_fn (.string cc) (.int ck) cv (.string cf) (tube (befT A.t l)) (latT A.t l) A k fix.x fix.y (tube l) (by omega) hok.1 hok.2.1 hks
          have hd := direct_fn (.string cc) (.int ck) cv (.string cf) (tube (befT A.t l)) (latT A.t l) A z k fix (tube l) hz hok.1 hzm
          have hca := carried_new (.string cc) ck cv (.string cf) (tube (befT A.t l)) (latT A.t l) A k fix.x fix.y (tube l) (trO ⟨cc, ck, cv, cf⟩ A z (latT A.t l) k fix).1 (trO ⟨cc, ck, cv, cf⟩ A z (latT A.t l) k fix).2 hne (trO_fn hkk hh hs hd)
          have hTl : (trO ⟨cc, ck, cv, cf⟩ A z (latT A.t l) k fix).1.length ≤ (latT A.t l).length + 1 := trO_len ..
          generalize trO ⟨cc, ck, cv, cf⟩ A z (latT A.t l) k fix = T at *
          obtain ⟨M, e⟩ := T
          simp only at hca hTl ⊢
          by_cases he : e = 0
          · subst he
            rw [if_neg (by simp)]
            have hcc := concat_fn [befT A.t l, [A], M] (by simp; omega) (by simp)
            have hO : [befT A.t l, [A], M].flatten = befT A.t l ++ A :: M := by simp
            rw [hO] at hcc
            have hOl : (befT A.t l ++ A :: M).length ≤ 1000 := by rw [List.length_append, List.length_cons]; omega
            have hf := flat_tube (befT A.t l ++ A :: M)
            generalize befT A.t l ++ A :: M = O at *
            refine ⟨by simp, by simp, fun h => absurd h (by simp), fun _ => ⟨_, hca, by simp, by simp, fun h => absurd h (by simp), fun _ => ⟨by simp, fun h => absurd h (by simp), fun _ => ⟨tube O, hcc, by simp, by simp, fun h => ?_, fun h => ?_⟩⟩⟩⟩
            · have h : 64 < O.length := by simp at h; omega
              rw [if_pos h]
              simp
            · have h : ¬ 64 < O.length := by simp at h; omega
              rw [if_neg h]
              exact ⟨hf, .lit _, rfl⟩
          · rw [if_pos he]
            refine ⟨by simp, by simp, fun h => absurd h (by simp), fun _ => ⟨_, hca, by simp, by simp, fun _ => by simp, fun h => absurd h (by simp [he])⟩⟩
    · have htv : tatV l a = .tup [nd nd0, .int (tatE l a)] := by unfold tatV; rw [if_neg hE]
      rw [htv] at hta
      have hV : ofT l c a k fix = .tup [.sl 6 [], .int (tatE l a)] := by unfold ofT; rw [hOE, if_pos hE]
      rw [hV]
      refine ⟨by simp, _, hta, by simp [encN], by simp, by simp, fun h => by simp, fun h => absurd h (by simp [hE])⟩
end Go.Proofs.YtdlakpomcafemaaDoor
/- effects of turns: errors ahead; equal tubes. -/
namespace Go.Proofs.YtdlakpomcafemaaDoor
open Go.RowKit
set_option linter.unusedVariables false
set_option linter.unusedSimpArgs false
set_option maxRecDepth 100000
theorem eerr_fn (l : List Nd) (c : Cl) (a : Int) (k : Kd) (fix : Pt) : Fn Tryd.prog 6 [tube l, cl c, .int a, kd k, pt fix] .sc (.int (ofE l c a k fix)) := by
  have q := EffT.eerr_form (tube l) (cl c) (.int a) (kd k) (pt fix) (.int (ofE l c a k fix))
  have kk := fun h => fn_run mixed 3 (Γ := EffT.Γ) (ann := EffT.ann) Tryd.func6 rfl Tryd.call6 (q.mpr h)
  refine kk ?_
  clear kk q
  have hO : ofE l c a k fix = if tE l ≠ 0 then tE l else if clE c ≠ 0 then clE c else if kE k ≠ 0 then kE k else if pE fix ≠ 0 then pE fix else tatE l a := rfl
  rw [hO]
  refine ⟨by simp [encL], by simp [encKd], by simp [encP], _, tcheck_fn l, by simp, by simp, fun h => ?_, fun h => ?_⟩
  · have h : tE l ≠ 0 := by simpa using h
    rw [if_pos h]
    exact ⟨.lit _, rfl⟩
  have h0 : tE l = 0 := by simpa using h
  rw [if_neg (by simp [h0])]
  refine ⟨_, cerr_fn c, by simp, by simp, fun h => ?_, fun h => ?_⟩
  · have h : clE c ≠ 0 := by simpa using h
    rw [if_pos h]
    exact ⟨.lit _, rfl⟩
  have h1 : clE c = 0 := by simpa using h
  rw [if_neg (by simp [h1])]
  refine ⟨_, acheck_fn k, by simp, by simp, fun h => ?_, fun h => ?_⟩
  · have h : kE k ≠ 0 := by simpa using h
    rw [if_pos h]
    exact ⟨.lit _, rfl⟩
  have h2 : kE k = 0 := by simpa using h
  rw [if_neg (by simp [h2])]
  refine ⟨_, pe_fn fix, by simp, by simp, fun h => ?_, fun h => ?_⟩
  · have h : pE fix ≠ 0 := by simpa using h
    rw [if_pos h]
    exact ⟨.lit _, rfl⟩
  have h3 : pE fix = 0 := by simpa using h
  rw [if_neg (by simp [h3])]
  obtain ⟨x, y, hx, hy, hxd, hyd, x1, x2, y1, y2, la, la2⟩ := ends_of h0
  have wa : wr ((l.length : Int) - 1) = ((l.length - 1 : Nat) : Int) := by rw [wr_id (by omega) (by omega)]; omega
  have hza : AV.at (tube l) (.lit (.int .i64 0)) 0 = .int x.t := by have := lst_at (s := 6) (enc := encN) (k := .i64) (j := 0) hx; simpa [encN] using this
  have hal : ((l.length - 1 : Nat) : Int) < l.length := by omega
  have hT : tatE l a = if a < x.t ∨ a > y.t then 12 else 0 := by unfold tatE; rw [if_neg (by simp [h0]), hxd, hyd]
  rw [hT]
  simp only [hza, lst_len, av_subt, wr_eq, wa, lst_at hy, encN, List.getD_cons_zero]
  refine ⟨by simp, by simp; omega, by simp, by simp, fun h => ?_, fun h => ?_⟩
  · have h : a < x.t := by simpa using h
    rw [if_pos (.inl h)]
    simp [h]
  · have h : ¬ a < x.t := by simpa using h
    refine ⟨by simp, by simp, by simp, by simp; omega, by simp, by simp, by simp; omega, by simp, fun g => ?_, fun g => ?_⟩
    · have g : a > y.t := by simpa using g
      rw [if_pos (.inr g)]
      simp
    · have g : ¬ a > y.t := by simpa using g
      rw [if_neg (by omega)]
      simp
theorem equal_fn (l : List Nd) (hl : l.length ≤ 1000) : Fn Tryd.prog 8 [tube l, tube l] .sc (.bool true) := by
  have e := EffT.equal_form (tube l) (tube l) (.bool true)
  have kk := fun h => fn_run mixed 3 (Γ := EffT.Γ) (ann := EffT.ann) Tryd.func8 rfl Tryd.call8 (e.mpr h)
  refine kk ?_
  clear kk e
  refine ⟨by simp, by simp, by simp, by simp, fun q => absurd q (by simp), fun _ => ⟨by simp, ?_⟩⟩
  refine loop_list (σ := Unit) l (fun i _ => [.int (i : Nat)]) (fun _ _ _ => True) () rfl trivial ?_ ?_
  · rintro i x rest _ K hx hrest hi _ hK
    have hil : (i : Int) < l.length := by omega
    have w2 : wr ((i : Int) + 1) = (i : Int) + 1 := wr_id (by omega) (by omega)
    have hK' := hK [.int ((i : Int) + 1)] () (by simp) trivial
    have hat := lst_atAgg (k := .i64) (s := 6) (enc := encN) (j := 0) (m := 6) hx
    simp [hat, encN, hil, AV.eqPlOk, AV.nePl, AV.eqc, okA, w2]
    exact hK'
  · rintro _ K _
    refine ⟨by simp, by simp, fun q => absurd q (by simp), fun _ => ⟨by simp, by simp⟩⟩
end Go.Proofs.YtdlakpomcafemaaDoor
/- effects of turns: plain laws for 'expected'. -/
namespace Go.Proofs.YtdlakpomcafemaaDoor
open Go.RowKit
set_option linter.unusedVariables false
set_option linter.unusedSimpArgs false
set_option maxRecDepth 100000
theorem dvu_spec {d s : Int} (h : 0 ≤ d) (hs : 0 < s) : d ≤ dvu d s * s ∧ (0 < d → (dvu d s - 1) * s < d) ∧ 0 ≤ dvu d s ∧ (d = 0 → dvu d s = 0) := by
  have e1 : d.tmod s = d % s := Int.tmod_eq_emod_of_nonneg h
  have h1 := Int.emod_add_mul_ediv d s
  have h2 := Int.emod_nonneg d (show s ≠ 0 by omega)
  have h3 := Int.emod_lt_of_pos d hs
  have h4 : 0 ≤ d / s := Int.ediv_nonneg h (by omega)
  have e2 : dvu d s = if d.tmod s = 0 then d / s else d / s + 1 := rfl
  rw [e2, e1]
  have h0 : d = 0 → d / s = 0 ∧ d % s = 0 := fun q => by subst q; simp
  generalize d / s = q at *
  generalize d % s = r at *
  rw [Int.mul_comm] at h1
  have a1 : (q + 1) * s = q * s + s := by rw [Int.add_mul, Int.one_mul]
  have a2 : (q - 1) * s = q * s - s := by rw [Int.sub_mul, Int.one_mul]
  have a3 : (q + 1 - 1) * s = q * s := by congr 1; omega
  split
  · refine ⟨by omega, fun _ => by omega, h4, fun z => (h0 z).1⟩
  · refine ⟨by omega, fun _ => by rw [a3]; omega, by omega, fun z => absurd (h0 z).2 (by assumption)⟩
/-- Where the count stands: not yet at the end; at the end. -/
theorem far_more {d s k : Int} (h : 0 ≤ d) (hs : 0 < s) (hk : d - k * s > 0) : k < dvu d s := by
  have := (dvu_spec h hs).1
  rcases Int.lt_or_le k (dvu d s) with q | q
  · exact q
  · have := Int.mul_le_mul_of_nonneg_right q (show 0 ≤ s by omega)
    omega
theorem far_done {d s k : Int} (h : 0 ≤ d) (hs : 0 < s) (hk : ¬ d - k * s > 0) (hle : k ≤ dvu d s) : k = dvu d s := by
  rcases Int.lt_or_le 0 d with z | z
  · have h2 := (dvu_spec h hs).2.1 z
    rcases Int.lt_or_le k (dvu d s) with q | q
    · have := Int.mul_le_mul_of_nonneg_right (show k ≤ dvu d s - 1 by omega) (show 0 ≤ s by omega)
      omega
    · omega
  · obtain rfl : d = 0 := by omega
    have h3 := (dvu_spec h hs).2.2.2 rfl
    rw [h3] at hle ⊢
    rcases Int.lt_or_le k 0 with q | q
    · have : k * s < 0 := Int.mul_neg_of_neg_of_pos q hs
      omega
    · omega
/-- Rounded up, and one at least: as the law reckons it. -/
theorem long_eq {d v : Int} (h : 0 ≤ d) (hv : 0 < v) : (if d.tmod v > 0 ∨ d = 0 then d / v + 1 else d / v) = if dvu d v > 1 then dvu d v else 1 := by
  have e1 : d.tmod v = d % v := Int.tmod_eq_emod_of_nonneg h
  have e2 : dvu d v = if d.tmod v = 0 then d / v else d / v + 1 := rfl
  have h2 := Int.emod_nonneg d (show v ≠ 0 by omega)
  have h4 : 0 ≤ d / v := Int.ediv_nonneg h (by omega)
  have h1 := Int.emod_add_mul_ediv d v
  have h0 : d = 0 → d / v = 0 ∧ d % v = 0 := fun q => by subst q; simp
  have h5 : d / v = 0 → d = d % v := fun q => by rw [q] at h1; omega
  rw [e2, e1]
  generalize d / v = q at *
  generalize d % v = r at *
  repeat' split
  all_goals omega
end Go.Proofs.YtdlakpomcafemaaDoor
