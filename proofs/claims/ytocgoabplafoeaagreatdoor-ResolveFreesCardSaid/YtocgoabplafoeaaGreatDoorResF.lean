/- resolve: what the run ends in. -/
import Derived.Test.YtocgoabplafoeaaGreatDoorVal
namespace Go.Proofs.YtocgoabplafoeaaGreatDoor
open Go.RowKit
set_option linter.unusedVariables false
set_option maxRecDepth 100000
namespace ResF
--GAMMA
def Γ : FuncId → Option Ca := fun f =>
  if f = 18 ∨ f = 27 ∨ f = 22 ∨ f = 20 ∨ f = 30 ∨ f = 33 ∨ f = 9 ∨ f = 14 ∨ f = 12 ∨ f = 17 ∨ f = 64 ∨ f = 7 ∨ f = 15 ∨ f = 16 ∨ f = 6 ∨ f = 4 ∨ f = 57 ∨ f = 56 ∨ f = 35 then some (.fn .sc)
  else if f = 21 ∨ f = 49 ∨ f = 50 ∨ f = 36 ∨ f = 63 ∨ f = 19 ∨ f = 5 ∨ f = 34 then some (.fn (.tup [.sc, .sc]))
  else if f = 8 ∨ f = 11 then some (.fn (.row 58 6 true))
  else if f = 45 then some (.fn (.row 75 2 true))
  else if f = 28 then some (.fn (.tup [.row 75 2 true, .sc]))
  else if f = 10 then some (.fn (.tup [.row 44 4 true, .sc]))
  else if f = 23 then some (.fn (.tup [.sc, .sc, .sc]))
  else if f = 26 then some (.fn (.tup [.row 58 6 true, .sc]))
  else if f = 13 then some (.fn (.tup [.sc, .row 58 6 true, .sc]))
  else if f = 52 ∨ f = 53 ∨ f = 54 ∨ f = 55 then none
  else some .inl
def ann : FuncId → Nat → LoopEx := fun f r => if f = 10 then ⟨[], [2881], [], [(2625, 0, 44, 4)]⟩ else ⟨[], [], [], []⟩
--END GAMMA
theorem acheck_form (x0 r : AV) : fnF Tryz.prog Γ ann 3 20 Tryz.f20 (Tryz.f20.body.getD .skip) (.nil) [x0] (.sc) r = (((AV.isAgg x0 7) ∧
(∃ r321 : AV, ((Fn Tryz.prog 30 [(AV.cel x0 0)] Sh.sc r321) ∧
((AV.unOk Go.UnOp.not r321) ∧
((AV.isBool (AV.un Go.UnOp.not r321)) ∧
(((isT (AV.un Go.UnOp.not r321)) →
  ((AV.flat (AV.int 5)) ∧
  (fSame (AV.int 5) r))) ∧
((isF (AV.un Go.UnOp.not r321)) →
  ((AV.binOk Go.BinOp.lss (AV.cel x0 1) (AV.int 0)) ∧
  ((AV.isBool (AV.bin Go.BinOp.lss (AV.cel x0 1) (AV.int 0))) ∧
  (((isT (AV.bin Go.BinOp.lss (AV.cel x0 1) (AV.int 0))) →
    ((AV.isBool (AV.bin Go.BinOp.lss (AV.cel x0 1) (AV.int 0))) ∧
    ((isT (AV.bin Go.BinOp.lss (AV.cel x0 1) (AV.int 0))) ∧
    ((AV.flat (AV.int 1)) ∧
    (fSame (AV.int 1) r))))) ∧
  ((isF (AV.bin Go.BinOp.lss (AV.cel x0 1) (AV.int 0))) →
    ((AV.binOk Go.BinOp.gtr (AV.cel x0 1) (AV.int 3)) ∧
    ((AV.isBool (AV.bin Go.BinOp.lss (AV.cel x0 1) (AV.int 0))) ∧
    ((isF (AV.bin Go.BinOp.lss (AV.cel x0 1) (AV.int 0))) ∧
    ((AV.isBool (AV.bin Go.BinOp.gtr (AV.cel x0 1) (AV.int 3))) ∧
    (((isT (AV.bin Go.BinOp.gtr (AV.cel x0 1) (AV.int 3))) →
      ((AV.flat (AV.int 1)) ∧
      (fSame (AV.int 1) r))) ∧
    ((isF (AV.bin Go.BinOp.gtr (AV.cel x0 1) (AV.int 3))) →
      ((fEnt Tryz.prog 29) ∧
      (fAllV fun _ => ((AV.binOk Go.BinOp.lss (AV.cel x0 2) (AV.int 1)) ∧
      ((AV.isBool (AV.bin Go.BinOp.lss (AV.cel x0 2) (AV.int 1))) ∧
      (((isT (AV.bin Go.BinOp.lss (AV.cel x0 2) (AV.int 1))) →
        ((AV.isBool (AV.bin Go.BinOp.lss (AV.cel x0 2) (AV.int 1))) ∧
        ((isT (AV.bin Go.BinOp.lss (AV.cel x0 2) (AV.int 1))) ∧
        ((AV.flat (AV.int 4)) ∧
        (fSame (AV.int 4) r))))) ∧
      ((isF (AV.bin Go.BinOp.lss (AV.cel x0 2) (AV.int 1))) →
        ((AV.binOk Go.BinOp.gtr (AV.cel x0 2) (AV.int 60000)) ∧
        ((AV.isBool (AV.bin Go.BinOp.lss (AV.cel x0 2) (AV.int 1))) ∧
        ((isF (AV.bin Go.BinOp.lss (AV.cel x0 2) (AV.int 1))) ∧
        ((AV.isBool (AV.bin Go.BinOp.gtr (AV.cel x0 2) (AV.int 60000))) ∧
        (((isT (AV.bin Go.BinOp.gtr (AV.cel x0 2) (AV.int 60000))) →
          ((AV.isBool (AV.bin Go.BinOp.gtr (AV.cel x0 2) (AV.int 60000))) ∧
          ((isT (AV.bin Go.BinOp.gtr (AV.cel x0 2) (AV.int 60000))) ∧
          ((AV.flat (AV.int 4)) ∧
          (fSame (AV.int 4) r))))) ∧
        ((isF (AV.bin Go.BinOp.gtr (AV.cel x0 2) (AV.int 60000))) →
          ((fEnt Tryz.prog 29) ∧
          (fAllV fun _ => ((AV.binOk Go.BinOp.lss (AV.cel x0 3) (AV.int 1)) ∧
          ((AV.isBool (AV.bin Go.BinOp.lss (AV.cel x0 3) (AV.int 1))) ∧
          (((isT (AV.bin Go.BinOp.lss (AV.cel x0 3) (AV.int 1))) →
            ((AV.isBool (AV.bin Go.BinOp.lss (AV.cel x0 3) (AV.int 1))) ∧
            ((isT (AV.bin Go.BinOp.lss (AV.cel x0 3) (AV.int 1))) ∧
            ((AV.isBool (AV.bin Go.BinOp.gtr (AV.cel x0 2) (AV.int 60000))) ∧
            ((isF (AV.bin Go.BinOp.gtr (AV.cel x0 2) (AV.int 60000))) ∧
            ((AV.flat (AV.int 4)) ∧
            (fSame (AV.int 4) r))))))) ∧
          ((isF (AV.bin Go.BinOp.lss (AV.cel x0 3) (AV.int 1))) →
            ((AV.binOk Go.BinOp.gtr (AV.cel x0 3) (AV.int 200)) ∧
            ((AV.isBool (AV.bin Go.BinOp.lss (AV.cel x0 3) (AV.int 1))) ∧
            ((isF (AV.bin Go.BinOp.lss (AV.cel x0 3) (AV.int 1))) ∧
            ((AV.isBool (AV.bin Go.BinOp.gtr (AV.cel x0 2) (AV.int 60000))) ∧
            ((isF (AV.bin Go.BinOp.gtr (AV.cel x0 2) (AV.int 60000))) ∧
            ((AV.isBool (AV.bin Go.BinOp.gtr (AV.cel x0 3) (AV.int 200))) ∧
            (((isT (AV.bin Go.BinOp.gtr (AV.cel x0 3) (AV.int 200))) →
              ((AV.isBool (AV.bin Go.BinOp.gtr (AV.cel x0 3) (AV.int 200))) ∧
              ((isT (AV.bin Go.BinOp.gtr (AV.cel x0 3) (AV.int 200))) ∧
              ((AV.flat (AV.int 4)) ∧
              (fSame (AV.int 4) r))))) ∧
            ((isF (AV.bin Go.BinOp.gtr (AV.cel x0 3) (AV.int 200))) →
              ((fEnt Tryz.prog 29) ∧
              (fAllV fun _ => ((AV.binOk Go.BinOp.lss (AV.cel x0 4) (AV.int 1)) ∧
              ((AV.isBool (AV.bin Go.BinOp.lss (AV.cel x0 4) (AV.int 1))) ∧
              (((isT (AV.bin Go.BinOp.lss (AV.cel x0 4) (AV.int 1))) →
                ((AV.isBool (AV.bin Go.BinOp.lss (AV.cel x0 4) (AV.int 1))) ∧
                ((isT (AV.bin Go.BinOp.lss (AV.cel x0 4) (AV.int 1))) ∧
                ((AV.isBool (AV.bin Go.BinOp.gtr (AV.cel x0 3) (AV.int 200))) ∧
                ((isF (AV.bin Go.BinOp.gtr (AV.cel x0 3) (AV.int 200))) ∧
                ((AV.flat (AV.int 4)) ∧
                (fSame (AV.int 4) r))))))) ∧
              ((isF (AV.bin Go.BinOp.lss (AV.cel x0 4) (AV.int 1))) →
                ((AV.binOk Go.BinOp.gtr (AV.cel x0 4) (AV.int 200)) ∧
                ((AV.isBool (AV.bin Go.BinOp.lss (AV.cel x0 4) (AV.int 1))) ∧
                ((isF (AV.bin Go.BinOp.lss (AV.cel x0 4) (AV.int 1))) ∧
                ((AV.isBool (AV.bin Go.BinOp.gtr (AV.cel x0 3) (AV.int 200))) ∧
                ((isF (AV.bin Go.BinOp.gtr (AV.cel x0 3) (AV.int 200))) ∧
                ((AV.isBool (AV.bin Go.BinOp.gtr (AV.cel x0 4) (AV.int 200))) ∧
                (((isT (AV.bin Go.BinOp.gtr (AV.cel x0 4) (AV.int 200))) →
                  ((AV.isBool (AV.bin Go.BinOp.gtr (AV.cel x0 4) (AV.int 200))) ∧
                  ((isT (AV.bin Go.BinOp.gtr (AV.cel x0 4) (AV.int 200))) ∧
                  ((AV.flat (AV.int 4)) ∧
                  (fSame (AV.int 4) r))))) ∧
                ((isF (AV.bin Go.BinOp.gtr (AV.cel x0 4) (AV.int 200))) →
                  ((fEnt Tryz.prog 29) ∧
                  (fAllV fun _ => ((AV.binOk Go.BinOp.lss (AV.cel x0 5) (AV.int 1)) ∧
                  ((AV.isBool (AV.bin Go.BinOp.lss (AV.cel x0 5) (AV.int 1))) ∧
                  (((isT (AV.bin Go.BinOp.lss (AV.cel x0 5) (AV.int 1))) →
                    ((AV.isBool (AV.bin Go.BinOp.lss (AV.cel x0 5) (AV.int 1))) ∧
                    ((isT (AV.bin Go.BinOp.lss (AV.cel x0 5) (AV.int 1))) ∧
                    ((AV.isBool (AV.bin Go.BinOp.gtr (AV.cel x0 4) (AV.int 200))) ∧
                    ((isF (AV.bin Go.BinOp.gtr (AV.cel x0 4) (AV.int 200))) ∧
                    ((AV.flat (AV.int 4)) ∧
                    (fSame (AV.int 4) r))))))) ∧
                  ((isF (AV.bin Go.BinOp.lss (AV.cel x0 5) (AV.int 1))) →
                    ((AV.binOk Go.BinOp.gtr (AV.cel x0 5) (AV.int 400)) ∧
                    ((AV.isBool (AV.bin Go.BinOp.lss (AV.cel x0 5) (AV.int 1))) ∧
                    ((isF (AV.bin Go.BinOp.lss (AV.cel x0 5) (AV.int 1))) ∧
                    ((AV.isBool (AV.bin Go.BinOp.gtr (AV.cel x0 4) (AV.int 200))) ∧
                    ((isF (AV.bin Go.BinOp.gtr (AV.cel x0 4) (AV.int 200))) ∧
                    ((AV.isBool (AV.bin Go.BinOp.gtr (AV.cel x0 5) (AV.int 400))) ∧
                    (((isT (AV.bin Go.BinOp.gtr (AV.cel x0 5) (AV.int 400))) →
                      ((AV.isBool (AV.bin Go.BinOp.gtr (AV.cel x0 5) (AV.int 400))) ∧
                      ((isT (AV.bin Go.BinOp.gtr (AV.cel x0 5) (AV.int 400))) ∧
                      ((AV.flat (AV.int 4)) ∧
                      (fSame (AV.int 4) r))))) ∧
                    ((isF (AV.bin Go.BinOp.gtr (AV.cel x0 5) (AV.int 400))) →
                      ((fEnt Tryz.prog 29) ∧
                      (fAllV fun _ => ((AV.binOk Go.BinOp.lss (AV.cel x0 6) (AV.int 1)) ∧
                      ((AV.isBool (AV.bin Go.BinOp.lss (AV.cel x0 6) (AV.int 1))) ∧
                      (((isT (AV.bin Go.BinOp.lss (AV.cel x0 6) (AV.int 1))) →
                        ((AV.isBool (AV.bin Go.BinOp.lss (AV.cel x0 6) (AV.int 1))) ∧
                        ((isT (AV.bin Go.BinOp.lss (AV.cel x0 6) (AV.int 1))) ∧
                        ((AV.isBool (AV.bin Go.BinOp.gtr (AV.cel x0 5) (AV.int 400))) ∧
                        ((isF (AV.bin Go.BinOp.gtr (AV.cel x0 5) (AV.int 400))) ∧
                        ((AV.flat (AV.int 4)) ∧
                        (fSame (AV.int 4) r))))))) ∧
                      ((isF (AV.bin Go.BinOp.lss (AV.cel x0 6) (AV.int 1))) →
                        ((AV.binOk Go.BinOp.gtr (AV.cel x0 6) (AV.int 400)) ∧
                        ((AV.isBool (AV.bin Go.BinOp.lss (AV.cel x0 6) (AV.int 1))) ∧
                        ((isF (AV.bin Go.BinOp.lss (AV.cel x0 6) (AV.int 1))) ∧
                        ((AV.isBool (AV.bin Go.BinOp.gtr (AV.cel x0 5) (AV.int 400))) ∧
                        ((isF (AV.bin Go.BinOp.gtr (AV.cel x0 5) (AV.int 400))) ∧
                        ((AV.isBool (AV.bin Go.BinOp.gtr (AV.cel x0 6) (AV.int 400))) ∧
                        (((isT (AV.bin Go.BinOp.gtr (AV.cel x0 6) (AV.int 400))) →
                          ((AV.flat (AV.int 4)) ∧
                          (fSame (AV.int 4) r))) ∧
                        ((isF (AV.bin Go.BinOp.gtr (AV.cel x0 6) (AV.int 400))) →
                          ((AV.binOk Go.BinOp.gtr (AV.cel x0 5) (AV.cel x0 6)) ∧
                          ((AV.isBool (AV.bin Go.BinOp.gtr (AV.cel x0 5) (AV.cel x0 6))) ∧
                          (((isT (AV.bin Go.BinOp.gtr (AV.cel x0 5) (AV.cel x0 6))) →
                            ((AV.flat (AV.int 3)) ∧
                            (fSame (AV.int 3) r))) ∧
                          ((isF (AV.bin Go.BinOp.gtr (AV.cel x0 5) (AV.cel x0 6))) →
                            ((AV.flat (AV.int 0)) ∧
                            (fSame (AV.int 0) r)))))))))))))))))))))))))))))))))))))))))))))))))))))))))))))))))))))))))))))))))))))))))))) := by kernel_rfl
theorem level_form ( r : AV) : fnF Tryz.prog Γ ann 3 8 Tryz.f8 (Tryz.f8.body.getD .skip) (.nil) [] (.row 58 6 true) r = (((AV.flatS (AV.mk 6 [[(AV.int 0), (AV.int 0), (AV.int 0), (AV.int 9000), (AV.int 100), (AV.int 50)], [(AV.int 100), (AV.int 10000), (AV.int 0), (AV.int 9000), (AV.int 100), (AV.int 50)]])) ∧
(fSame (AV.mk 6 [[(AV.int 0), (AV.int 0), (AV.int 0), (AV.int 9000), (AV.int 100), (AV.int 50)], [(AV.int 100), (AV.int 10000), (AV.int 0), (AV.int 9000), (AV.int 100), (AV.int 50)]]) r))) := by kernel_rfl
theorem still_form (x0 r : AV) : fnF Tryz.prog Γ ann 3 11 Tryz.f11 (Tryz.f11.body.getD .skip) (.nil) [x0] (.row 58 6 true) r = (((AV.isOne x0) ∧
((AV.flatS (AV.mk 6 [[(AV.int 0), x0, (AV.int 0), (AV.int 0), (AV.int 0), (AV.int 0)], [(AV.int 10), x0, (AV.int 0), (AV.int 0), (AV.int 0), (AV.int 0)]])) ∧
(fSame (AV.mk 6 [[(AV.int 0), x0, (AV.int 0), (AV.int 0), (AV.int 0), (AV.int 0)], [(AV.int 10), x0, (AV.int 0), (AV.int 0), (AV.int 0), (AV.int 0)]]) r)))) := by kernel_rfl
theorem climbed_form (x0 r : AV) : fnF Tryz.prog Γ ann 3 14 Tryz.f14 (Tryz.f14.body.getD .skip) (.nil) [x0] (.sc) r = (((AV.isOne x0) ∧
((AV.flat (AV.agg [(AV.lit (Value.string ⟨#[65, 49]⟩)), (AV.int 0), x0, (AV.lit (Value.string ⟨#[]⟩))])) ∧
(fSame (AV.agg [(AV.lit (Value.string ⟨#[65, 49]⟩)), (AV.int 0), x0, (AV.lit (Value.string ⟨#[]⟩))]) r)))) := by kernel_rfl
theorem jet_form ( r : AV) : fnF Tryz.prog Γ ann 3 9 Tryz.f9 (Tryz.f9.body.getD .skip) (.nil) [] (.sc) r = (((AV.flat (AV.agg [(AV.lit (Value.string ⟨#[74, 69, 84]⟩)), (AV.int 1), (AV.int 40000), (AV.int 50), (AV.int 40), (AV.int 50), (AV.int 300)])) ∧
(fSame (AV.agg [(AV.lit (Value.string ⟨#[74, 69, 84]⟩)), (AV.int 1), (AV.int 40000), (AV.int 50), (AV.int 40), (AV.int 50), (AV.int 300)]) r))) := by kernel_rfl
theorem near_form ( r : AV) : fnF Tryz.prog Γ ann 3 12 Tryz.f12 (Tryz.f12.body.getD .skip) (.nil) [] (.sc) r = (((AV.flat (AV.agg [(AV.int 100), (AV.int 1000)])) ∧
(fSame (AV.agg [(AV.int 100), (AV.int 1000)]) r))) := by kernel_rfl
theorem root_form (x0 r : AV) : fnF Tryz.prog Γ ann 3 57 Tryz.f57 (Tryz.f57.body.getD .skip) (.nil) [x0] (.sc) r = (((AV.binOk Go.BinOp.leq x0 (AV.int 0)) ∧
((AV.isBool (AV.bin Go.BinOp.leq x0 (AV.int 0))) ∧
(((isT (AV.bin Go.BinOp.leq x0 (AV.int 0))) →
  ((AV.flat (AV.int 0)) ∧
  (fSame (AV.int 0) r))) ∧
((isF (AV.bin Go.BinOp.leq x0 (AV.int 0))) →
  (fLoop 321 [(AV.int 0), (AV.int 3037000499)] fun ys321 again321 =>
    ((AV.binOk Go.BinOp.lss (ys321.getD 0 default) (ys321.getD 1 default)) ∧
    ((AV.isBool (AV.bin Go.BinOp.lss (ys321.getD 0 default) (ys321.getD 1 default))) ∧
    (((isT (AV.bin Go.BinOp.lss (ys321.getD 0 default) (ys321.getD 1 default))) →
      ((AV.binOk Go.BinOp.sub (ys321.getD 1 default) (ys321.getD 0 default)) ∧
      ((AV.binOk Go.BinOp.add (AV.bin Go.BinOp.sub (ys321.getD 1 default) (ys321.getD 0 default)) (AV.int 1)) ∧
      ((AV.binOk Go.BinOp.quo (AV.bin Go.BinOp.add (AV.bin Go.BinOp.sub (ys321.getD 1 default) (ys321.getD 0 default)) (AV.int 1)) (AV.int 2)) ∧
      ((AV.binOk Go.BinOp.add (ys321.getD 0 default) (AV.bin Go.BinOp.quo (AV.bin Go.BinOp.add (AV.bin Go.BinOp.sub (ys321.getD 1 default) (ys321.getD 0 default)) (AV.int 1)) (AV.int 2))) ∧
      ((AV.binOk Go.BinOp.mul (AV.bin Go.BinOp.add (ys321.getD 0 default) (AV.bin Go.BinOp.quo (AV.bin Go.BinOp.add (AV.bin Go.BinOp.sub (ys321.getD 1 default) (ys321.getD 0 default)) (AV.int 1)) (AV.int 2))) (AV.bin Go.BinOp.add (ys321.getD 0 default) (AV.bin Go.BinOp.quo (AV.bin Go.BinOp.add (AV.bin Go.BinOp.sub (ys321.getD 1 default) (ys321.getD 0 default)) (AV.int 1)) (AV.int 2)))) ∧
      ((AV.binOk Go.BinOp.leq (AV.bin Go.BinOp.mul (AV.bin Go.BinOp.add (ys321.getD 0 default) (AV.bin Go.BinOp.quo (AV.bin Go.BinOp.add (AV.bin Go.BinOp.sub (ys321.getD 1 default) (ys321.getD 0 default)) (AV.int 1)) (AV.int 2))) (AV.bin Go.BinOp.add (ys321.getD 0 default) (AV.bin Go.BinOp.quo (AV.bin Go.BinOp.add (AV.bin Go.BinOp.sub (ys321.getD 1 default) (ys321.getD 0 default)) (AV.int 1)) (AV.int 2)))) x0) ∧
      ((AV.isBool (AV.bin Go.BinOp.leq (AV.bin Go.BinOp.mul (AV.bin Go.BinOp.add (ys321.getD 0 default) (AV.bin Go.BinOp.quo (AV.bin Go.BinOp.add (AV.bin Go.BinOp.sub (ys321.getD 1 default) (ys321.getD 0 default)) (AV.int 1)) (AV.int 2))) (AV.bin Go.BinOp.add (ys321.getD 0 default) (AV.bin Go.BinOp.quo (AV.bin Go.BinOp.add (AV.bin Go.BinOp.sub (ys321.getD 1 default) (ys321.getD 0 default)) (AV.int 1)) (AV.int 2)))) x0)) ∧
      (((isT (AV.bin Go.BinOp.leq (AV.bin Go.BinOp.mul (AV.bin Go.BinOp.add (ys321.getD 0 default) (AV.bin Go.BinOp.quo (AV.bin Go.BinOp.add (AV.bin Go.BinOp.sub (ys321.getD 1 default) (ys321.getD 0 default)) (AV.int 1)) (AV.int 2))) (AV.bin Go.BinOp.add (ys321.getD 0 default) (AV.bin Go.BinOp.quo (AV.bin Go.BinOp.add (AV.bin Go.BinOp.sub (ys321.getD 1 default) (ys321.getD 0 default)) (AV.int 1)) (AV.int 2)))) x0)) →
        (again321 [(AV.bin Go.BinOp.add (ys321.getD 0 default) (AV.bin Go.BinOp.quo (AV.bin Go.BinOp.add (AV.bin Go.BinOp.sub (ys321.getD 1 default) (ys321.getD 0 default)) (AV.int 1)) (AV.int 2))), (ys321.getD 1 default)])) ∧
      ((isF (AV.bin Go.BinOp.leq (AV.bin Go.BinOp.mul (AV.bin Go.BinOp.add (ys321.getD 0 default) (AV.bin Go.BinOp.quo (AV.bin Go.BinOp.add (AV.bin Go.BinOp.sub (ys321.getD 1 default) (ys321.getD 0 default)) (AV.int 1)) (AV.int 2))) (AV.bin Go.BinOp.add (ys321.getD 0 default) (AV.bin Go.BinOp.quo (AV.bin Go.BinOp.add (AV.bin Go.BinOp.sub (ys321.getD 1 default) (ys321.getD 0 default)) (AV.int 1)) (AV.int 2)))) x0)) →
        ((AV.binOk Go.BinOp.sub (AV.bin Go.BinOp.add (ys321.getD 0 default) (AV.bin Go.BinOp.quo (AV.bin Go.BinOp.add (AV.bin Go.BinOp.sub (ys321.getD 1 default) (ys321.getD 0 default)) (AV.int 1)) (AV.int 2))) (AV.int 1)) ∧
        (again321 [(ys321.getD 0 default), (AV.bin Go.BinOp.sub (AV.bin Go.BinOp.add (ys321.getD 0 default) (AV.bin Go.BinOp.quo (AV.bin Go.BinOp.add (AV.bin Go.BinOp.sub (ys321.getD 1 default) (ys321.getD 0 default)) (AV.int 1)) (AV.int 2))) (AV.int 1))])))))))))))) ∧
    ((isF (AV.bin Go.BinOp.lss (ys321.getD 0 default) (ys321.getD 1 default))) →
      ((AV.flat (ys321.getD 0 default)) ∧
      (fSame (ys321.getD 0 default) r)))))))))))) := by kernel_rfl
theorem dist_form (x0 x1 r : AV) : fnF Tryz.prog Γ ann 3 36 Tryz.f36 (Tryz.f36.body.getD .skip) (.nil) [x0, x1] (.tup [.sc, .sc]) r = (((AV.isAgg x0 2) ∧
((AV.isAgg x1 2) ∧
(∃ r385 : AV, ((Fn Tryz.prog 56 [(AV.agg [(AV.cel x0 0), (AV.cel x0 1)]), (AV.agg [(AV.cel x1 0), (AV.cel x1 1)])] Sh.sc r385) ∧
(∃ r577 : AV, ((Fn Tryz.prog 57 [r385] Sh.sc r577) ∧
((AV.binOk Go.BinOp.mul r577 r577) ∧
((AV.binOk Go.BinOp.lss (AV.bin Go.BinOp.mul r577 r577) r385) ∧
((AV.isBool (AV.bin Go.BinOp.lss (AV.bin Go.BinOp.mul r577 r577) r385)) ∧
(((isT (AV.bin Go.BinOp.lss (AV.bin Go.BinOp.mul r577 r577) r385)) →
  ((AV.binOk Go.BinOp.add r577 (AV.int 1)) ∧
  ((AV.flat r577) ∧
  ((AV.flat (AV.bin Go.BinOp.add r577 (AV.int 1))) ∧
  (fSame (AV.tup [r577, (AV.bin Go.BinOp.add r577 (AV.int 1))]) r))))) ∧
((isF (AV.bin Go.BinOp.lss (AV.bin Go.BinOp.mul r577 r577) r385)) →
  ((AV.flat r577) ∧
  ((AV.flat r577) ∧
  (fSame (AV.tup [r577, r577]) r))))))))))))))) := by kernel_rfl
theorem csep_form (x0 r : AV) : fnF Tryz.prog Γ ann 3 17 Tryz.f17 (Tryz.f17.body.getD .skip) (.nil) [x0] (.sc) r = (((AV.isAgg x0 2) ∧
((AV.binOk Go.BinOp.lss (AV.cel x0 0) (AV.int 0)) ∧
((AV.isBool (AV.bin Go.BinOp.lss (AV.cel x0 0) (AV.int 0))) ∧
(((isT (AV.bin Go.BinOp.lss (AV.cel x0 0) (AV.int 0))) →
  ((AV.isBool (AV.bin Go.BinOp.lss (AV.cel x0 0) (AV.int 0))) ∧
  ((isT (AV.bin Go.BinOp.lss (AV.cel x0 0) (AV.int 0))) ∧
  ((AV.flat (AV.int 4)) ∧
  (fSame (AV.int 4) r))))) ∧
((isF (AV.bin Go.BinOp.lss (AV.cel x0 0) (AV.int 0))) →
  ((AV.binOk Go.BinOp.gtr (AV.cel x0 0) (AV.int 1000000)) ∧
  ((AV.isBool (AV.bin Go.BinOp.lss (AV.cel x0 0) (AV.int 0))) ∧
  ((isF (AV.bin Go.BinOp.lss (AV.cel x0 0) (AV.int 0))) ∧
  ((AV.isBool (AV.bin Go.BinOp.gtr (AV.cel x0 0) (AV.int 1000000))) ∧
  (((isT (AV.bin Go.BinOp.gtr (AV.cel x0 0) (AV.int 1000000))) →
    ((AV.isBool (AV.bin Go.BinOp.gtr (AV.cel x0 0) (AV.int 1000000))) ∧
    ((isT (AV.bin Go.BinOp.gtr (AV.cel x0 0) (AV.int 1000000))) ∧
    ((AV.flat (AV.int 4)) ∧
    (fSame (AV.int 4) r))))) ∧
  ((isF (AV.bin Go.BinOp.gtr (AV.cel x0 0) (AV.int 1000000))) →
    ((AV.binOk Go.BinOp.lss (AV.cel x0 1) (AV.int 0)) ∧
    ((AV.isBool (AV.bin Go.BinOp.gtr (AV.cel x0 0) (AV.int 1000000))) ∧
    ((isF (AV.bin Go.BinOp.gtr (AV.cel x0 0) (AV.int 1000000))) ∧
    ((AV.isBool (AV.bin Go.BinOp.lss (AV.cel x0 1) (AV.int 0))) ∧
    (((isT (AV.bin Go.BinOp.lss (AV.cel x0 1) (AV.int 0))) →
      ((AV.isBool (AV.bin Go.BinOp.lss (AV.cel x0 1) (AV.int 0))) ∧
      ((isT (AV.bin Go.BinOp.lss (AV.cel x0 1) (AV.int 0))) ∧
      ((AV.flat (AV.int 4)) ∧
      (fSame (AV.int 4) r))))) ∧
    ((isF (AV.bin Go.BinOp.lss (AV.cel x0 1) (AV.int 0))) →
      ((AV.binOk Go.BinOp.gtr (AV.cel x0 1) (AV.int 60000)) ∧
      ((AV.isBool (AV.bin Go.BinOp.lss (AV.cel x0 1) (AV.int 0))) ∧
      ((isF (AV.bin Go.BinOp.lss (AV.cel x0 1) (AV.int 0))) ∧
      ((AV.isBool (AV.bin Go.BinOp.gtr (AV.cel x0 1) (AV.int 60000))) ∧
      (((isT (AV.bin Go.BinOp.gtr (AV.cel x0 1) (AV.int 60000))) →
        ((AV.flat (AV.int 4)) ∧
        (fSame (AV.int 4) r))) ∧
      ((isF (AV.bin Go.BinOp.gtr (AV.cel x0 1) (AV.int 60000))) →
        ((AV.flat (AV.int 0)) ∧
        (fSame (AV.int 0) r)))))))))))))))))))))))))) := by kernel_rfl
theorem sep_form (x0 x1 x2 r : AV) : fnF Tryz.prog Γ ann 3 64 Tryz.f64 (Tryz.f64.body.getD .skip) (.nil) [x0, x1, x2] (.sc) r = (((AV.isAgg x0 6) ∧
((AV.isAgg x1 6) ∧
((AV.isAgg x2 2) ∧
(∃ r641 : AV, ((Fn Tryz.prog 36 [(AV.agg [(AV.cel x0 1), (AV.cel x0 2)]), (AV.agg [(AV.cel x1 1), (AV.cel x1 2)])] (Sh.tup [Sh.sc, Sh.sc]) r641) ∧
((AV.binOk Go.BinOp.sub (AV.prj r641 0) (AV.cel x0 4)) ∧
((AV.binOk Go.BinOp.sub (AV.bin Go.BinOp.sub (AV.prj r641 0) (AV.cel x0 4)) (AV.cel x1 4)) ∧
((AV.binOk Go.BinOp.geq (AV.bin Go.BinOp.sub (AV.bin Go.BinOp.sub (AV.prj r641 0) (AV.cel x0 4)) (AV.cel x1 4)) (AV.cel x2 0)) ∧
((AV.isBool (AV.bin Go.BinOp.geq (AV.bin Go.BinOp.sub (AV.bin Go.BinOp.sub (AV.prj r641 0) (AV.cel x0 4)) (AV.cel x1 4)) (AV.cel x2 0))) ∧
(((isT (AV.bin Go.BinOp.geq (AV.bin Go.BinOp.sub (AV.bin Go.BinOp.sub (AV.prj r641 0) (AV.cel x0 4)) (AV.cel x1 4)) (AV.cel x2 0))) →
  ((AV.isBool (AV.bin Go.BinOp.geq (AV.bin Go.BinOp.sub (AV.bin Go.BinOp.sub (AV.prj r641 0) (AV.cel x0 4)) (AV.cel x1 4)) (AV.cel x2 0))) ∧
  ((isT (AV.bin Go.BinOp.geq (AV.bin Go.BinOp.sub (AV.bin Go.BinOp.sub (AV.prj r641 0) (AV.cel x0 4)) (AV.cel x1 4)) (AV.cel x2 0))) ∧
  ((AV.flat (AV.bool true)) ∧
  (fSame (AV.bool true) r))))) ∧
((isF (AV.bin Go.BinOp.geq (AV.bin Go.BinOp.sub (AV.bin Go.BinOp.sub (AV.prj r641 0) (AV.cel x0 4)) (AV.cel x1 4)) (AV.cel x2 0))) →
  ((AV.binOk Go.BinOp.sub (AV.cel x0 3) (AV.cel x1 3)) ∧
  ((AV.binOk Go.BinOp.sub (AV.cel x1 3) (AV.cel x0 3)) ∧
  ((AV.isInt (AV.bin Go.BinOp.sub (AV.cel x0 3) (AV.cel x1 3))) ∧
  ((AV.isInt (AV.bin Go.BinOp.sub (AV.cel x1 3) (AV.cel x0 3))) ∧
  ((AV.binOk Go.BinOp.sub (AV.mx (AV.bin Go.BinOp.sub (AV.cel x0 3) (AV.cel x1 3)) (AV.bin Go.BinOp.sub (AV.cel x1 3) (AV.cel x0 3))) (AV.cel x0 5)) ∧
  ((AV.binOk Go.BinOp.sub (AV.bin Go.BinOp.sub (AV.mx (AV.bin Go.BinOp.sub (AV.cel x0 3) (AV.cel x1 3)) (AV.bin Go.BinOp.sub (AV.cel x1 3) (AV.cel x0 3))) (AV.cel x0 5)) (AV.cel x1 5)) ∧
  ((AV.binOk Go.BinOp.geq (AV.bin Go.BinOp.sub (AV.bin Go.BinOp.sub (AV.mx (AV.bin Go.BinOp.sub (AV.cel x0 3) (AV.cel x1 3)) (AV.bin Go.BinOp.sub (AV.cel x1 3) (AV.cel x0 3))) (AV.cel x0 5)) (AV.cel x1 5)) (AV.cel x2 1)) ∧
  ((AV.isBool (AV.bin Go.BinOp.geq (AV.bin Go.BinOp.sub (AV.bin Go.BinOp.sub (AV.prj r641 0) (AV.cel x0 4)) (AV.cel x1 4)) (AV.cel x2 0))) ∧
  ((isF (AV.bin Go.BinOp.geq (AV.bin Go.BinOp.sub (AV.bin Go.BinOp.sub (AV.prj r641 0) (AV.cel x0 4)) (AV.cel x1 4)) (AV.cel x2 0))) ∧
  ((AV.flat (AV.bin Go.BinOp.geq (AV.bin Go.BinOp.sub (AV.bin Go.BinOp.sub (AV.mx (AV.bin Go.BinOp.sub (AV.cel x0 3) (AV.cel x1 3)) (AV.bin Go.BinOp.sub (AV.cel x1 3) (AV.cel x0 3))) (AV.cel x0 5)) (AV.cel x1 5)) (AV.cel x2 1))) ∧
  (fSame (AV.bin Go.BinOp.geq (AV.bin Go.BinOp.sub (AV.bin Go.BinOp.sub (AV.mx (AV.bin Go.BinOp.sub (AV.cel x0 3) (AV.cel x1 3)) (AV.bin Go.BinOp.sub (AV.cel x1 3) (AV.cel x0 3))) (AV.cel x0 5)) (AV.cel x1 5)) (AV.cel x2 1)) r))))))))))))))))))))))) := by kernel_rfl
theorem common_form (x0 x1 r : AV) : fnF Tryz.prog Γ ann 3 63 Tryz.f63 (Tryz.f63.body.getD .skip) (.nil) [x0, x1] (.tup [.sc, .sc]) r = (((AV.isSl x0 6) ∧
((AV.inb x0 (AV.int 0)) ∧
((AV.isSl x1 6) ∧
((AV.inb x1 (AV.int 0)) ∧
((AV.isInt (AV.at x0 (AV.int 0) 0)) ∧
((AV.isInt (AV.at x1 (AV.int 0) 0)) ∧
((AV.isSl x0 6) ∧
((AV.binOk Go.BinOp.sub (AV.len x0) (AV.int 1)) ∧
((AV.isSl x0 6) ∧
((AV.inb x0 (AV.bin Go.BinOp.sub (AV.len x0) (AV.int 1))) ∧
((AV.isSl x1 6) ∧
((AV.binOk Go.BinOp.sub (AV.len x1) (AV.int 1)) ∧
((AV.isSl x1 6) ∧
((AV.inb x1 (AV.bin Go.BinOp.sub (AV.len x1) (AV.int 1))) ∧
((AV.isInt (AV.at x0 (AV.bin Go.BinOp.sub (AV.len x0) (AV.int 1)) 0)) ∧
((AV.isInt (AV.at x1 (AV.bin Go.BinOp.sub (AV.len x1) (AV.int 1)) 0)) ∧
((AV.flat (AV.mx (AV.at x0 (AV.int 0) 0) (AV.at x1 (AV.int 0) 0))) ∧
((AV.flat (AV.mn (AV.at x0 (AV.bin Go.BinOp.sub (AV.len x0) (AV.int 1)) 0) (AV.at x1 (AV.bin Go.BinOp.sub (AV.len x1) (AV.int 1)) 0))) ∧
(fSame (AV.tup [(AV.mx (AV.at x0 (AV.int 0) 0) (AV.at x1 (AV.int 0) 0)), (AV.mn (AV.at x0 (AV.bin Go.BinOp.sub (AV.len x0) (AV.int 1)) 0) (AV.at x1 (AV.bin Go.BinOp.sub (AV.len x1) (AV.int 1)) 0))]) r)))))))))))))))))))) := by kernel_rfl
theorem spans_form (x0 x1 x2 r : AV) : fnF Tryz.prog Γ ann 3 45 Tryz.f45 (Tryz.f45.body.getD .skip) (.nil) [x0, x1, x2] (.row 75 2 true) r = (((AV.isAgg x2 2) ∧
(∃ r321 : AV, ((Fn Tryz.prog 63 [x0, x1] (Sh.tup [Sh.sc, Sh.sc]) r321) ∧
(fLoop 833 [(AV.prj r321 0), (AV.mk 2 [])] fun ys833 again833 =>
  ((AV.binOk Go.BinOp.leq (ys833.getD 0 default) (AV.prj r321 1)) ∧
  ((AV.isBool (AV.bin Go.BinOp.leq (ys833.getD 0 default) (AV.prj r321 1))) ∧
  (((isT (AV.bin Go.BinOp.leq (ys833.getD 0 default) (AV.prj r321 1))) →
    (∃ r1153 : AV, ((Fn Tryz.prog 21 [x0, (ys833.getD 0 default)] (Sh.tup [Sh.sc, Sh.sc]) r1153) ∧
    ((AV.isAgg (AV.prj r1153 0) 6) ∧
    (∃ r1729 : AV, ((Fn Tryz.prog 21 [x1, (ys833.getD 0 default)] (Sh.tup [Sh.sc, Sh.sc]) r1729) ∧
    ((AV.isAgg (AV.prj r1729 0) 6) ∧
    (∃ r2369 : AV, ((Fn Tryz.prog 64 [(AV.agg [(AV.cel (AV.prj r1153 0) 0), (AV.cel (AV.prj r1153 0) 1), (AV.cel (AV.prj r1153 0) 2), (AV.cel (AV.prj r1153 0) 3), (AV.cel (AV.prj r1153 0) 4), (AV.cel (AV.prj r1153 0) 5)]), (AV.agg [(AV.cel (AV.prj r1729 0) 0), (AV.cel (AV.prj r1729 0) 1), (AV.cel (AV.prj r1729 0) 2), (AV.cel (AV.prj r1729 0) 3), (AV.cel (AV.prj r1729 0) 4), (AV.cel (AV.prj r1729 0) 5)]), (AV.agg [(AV.cel x2 0), (AV.cel x2 1)])] Sh.sc r2369) ∧
    ((AV.isBool r2369) ∧
    (((isT r2369) →
      ((AV.binOk Go.BinOp.add (ys833.getD 0 default) (AV.int 1)) ∧
      (again833 [(AV.bin Go.BinOp.add (ys833.getD 0 default) (AV.int 1)), (ys833.getD 1 default)]))) ∧
    ((isF r2369) →
      ((AV.binOk Go.BinOp.gtr (AV.len (ys833.getD 1 default)) (AV.int 0)) ∧
      ((AV.isBool (AV.bin Go.BinOp.gtr (AV.len (ys833.getD 1 default)) (AV.int 0))) ∧
      (((isT (AV.bin Go.BinOp.gtr (AV.len (ys833.getD 1 default)) (AV.int 0))) →
        ((AV.binOk Go.BinOp.sub (AV.len (ys833.getD 1 default)) (AV.int 1)) ∧
        ((AV.inb (ys833.getD 1 default) (AV.bin Go.BinOp.sub (AV.len (ys833.getD 1 default)) (AV.int 1))) ∧
        ((AV.inb (ys833.getD 1 default) (AV.bin Go.BinOp.sub (AV.len (ys833.getD 1 default)) (AV.int 1))) ∧
        ((AV.binOk Go.BinOp.eql (AV.at (ys833.getD 1 default) (AV.bin Go.BinOp.sub (AV.len (ys833.getD 1 default)) (AV.int 1)) 1) (ys833.getD 0 default)) ∧
        ((AV.isBool (AV.bin Go.BinOp.gtr (AV.len (ys833.getD 1 default)) (AV.int 0))) ∧
        ((isT (AV.bin Go.BinOp.gtr (AV.len (ys833.getD 1 default)) (AV.int 0))) ∧
        ((AV.isBool (AV.bin Go.BinOp.eql (AV.at (ys833.getD 1 default) (AV.bin Go.BinOp.sub (AV.len (ys833.getD 1 default)) (AV.int 1)) 1) (ys833.getD 0 default))) ∧
        (((isT (AV.bin Go.BinOp.eql (AV.at (ys833.getD 1 default) (AV.bin Go.BinOp.sub (AV.len (ys833.getD 1 default)) (AV.int 1)) 1) (ys833.getD 0 default))) →
          ((AV.binOk Go.BinOp.sub (AV.len (ys833.getD 1 default)) (AV.int 1)) ∧
          ((AV.binOk Go.BinOp.add (ys833.getD 0 default) (AV.int 1)) ∧
          ((AV.inb (ys833.getD 1 default) (AV.bin Go.BinOp.sub (AV.len (ys833.getD 1 default)) (AV.int 1))) ∧
          ((AV.isOne (AV.bin Go.BinOp.add (ys833.getD 0 default) (AV.int 1))) ∧
          ((AV.inb (ys833.getD 1 default) (AV.bin Go.BinOp.sub (AV.len (ys833.getD 1 default)) (AV.int 1))) ∧
          ((AV.binOk Go.BinOp.add (ys833.getD 0 default) (AV.int 1)) ∧
          (again833 [(AV.bin Go.BinOp.add (ys833.getD 0 default) (AV.int 1)), (AV.setEl (ys833.getD 1 default) (AV.bin Go.BinOp.sub (AV.len (ys833.getD 1 default)) (AV.int 1)) 1 [(AV.bin Go.BinOp.add (ys833.getD 0 default) (AV.int 1))])])))))))) ∧
        ((isF (AV.bin Go.BinOp.eql (AV.at (ys833.getD 1 default) (AV.bin Go.BinOp.sub (AV.len (ys833.getD 1 default)) (AV.int 1)) 1) (ys833.getD 0 default))) →
          ((AV.binOk Go.BinOp.add (ys833.getD 0 default) (AV.int 1)) ∧
          ((AV.isOne (ys833.getD 0 default)) ∧
          ((AV.isOne (AV.bin Go.BinOp.add (ys833.getD 0 default) (AV.int 1))) ∧
          ((AV.room (ys833.getD 1 default) (AV.mk 2 [[(ys833.getD 0 default), (AV.bin Go.BinOp.add (ys833.getD 0 default) (AV.int 1))]]) 16) ∧
          ((AV.binOk Go.BinOp.add (ys833.getD 0 default) (AV.int 1)) ∧
          (again833 [(AV.bin Go.BinOp.add (ys833.getD 0 default) (AV.int 1)), (AV.app 2 (ys833.getD 1 default) (AV.mk 2 [[(ys833.getD 0 default), (AV.bin Go.BinOp.add (ys833.getD 0 default) (AV.int 1))]]))])))))))))))))))) ∧
      ((isF (AV.bin Go.BinOp.gtr (AV.len (ys833.getD 1 default)) (AV.int 0))) →
        ((AV.isBool (AV.bin Go.BinOp.gtr (AV.len (ys833.getD 1 default)) (AV.int 0))) ∧
        ((isF (AV.bin Go.BinOp.gtr (AV.len (ys833.getD 1 default)) (AV.int 0))) ∧
        ((AV.binOk Go.BinOp.add (ys833.getD 0 default) (AV.int 1)) ∧
        ((AV.isOne (ys833.getD 0 default)) ∧
        ((AV.isOne (AV.bin Go.BinOp.add (ys833.getD 0 default) (AV.int 1))) ∧
        ((AV.room (ys833.getD 1 default) (AV.mk 2 [[(ys833.getD 0 default), (AV.bin Go.BinOp.add (ys833.getD 0 default) (AV.int 1))]]) 16) ∧
        ((AV.binOk Go.BinOp.add (ys833.getD 0 default) (AV.int 1)) ∧
        (again833 [(AV.bin Go.BinOp.add (ys833.getD 0 default) (AV.int 1)), (AV.app 2 (ys833.getD 1 default) (AV.mk 2 [[(ys833.getD 0 default), (AV.bin Go.BinOp.add (ys833.getD 0 default) (AV.int 1))]]))])))))))))))))))))))))))) ∧
  ((isF (AV.bin Go.BinOp.leq (ys833.getD 0 default) (AV.prj r321 1))) →
    ((AV.flatS (ys833.getD 1 default)) ∧
    (fSame (ys833.getD 1 default) r))))))))))) := by kernel_rfl
theorem pair_form (x0 x1 x2 r : AV) : fnF Tryz.prog Γ ann 3 28 Tryz.f28 (Tryz.f28.body.getD .skip) ((.both (.t .nil) (.both (.both (.t .nil) .nil) .nil))) [x0, x1, x2] (.tup [.row 75 2 true, .sc]) r = (((AV.isAgg x2 2) ∧
((AV.isOne x0) ∧
((AV.isOne x1) ∧
((fEnt Tryz.prog 44) ∧
(fAllV fun _ => (∃ r705 : AV, ((Fn Tryz.prog 17 [(AV.agg [(AV.cel x2 0), (AV.cel x2 1)])] Sh.sc r705) ∧
((AV.binOk Go.BinOp.neq r705 (AV.int 0)) ∧
((AV.isBool (AV.bin Go.BinOp.neq r705 (AV.int 0))) ∧
(((isT (AV.bin Go.BinOp.neq r705 (AV.int 0))) →
  ((AV.binOk Go.BinOp.neq r705 (AV.int 0)) ∧
  ((AV.isBool (AV.bin Go.BinOp.neq r705 (AV.int 0))) ∧
  ((isT (AV.bin Go.BinOp.neq r705 (AV.int 0))) ∧
  ((AV.flatS (AV.mk 2 [])) ∧
  ((AV.flat r705) ∧
  (fSame (AV.tup [(AV.mk 2 []), r705]) r))))))) ∧
((isF (AV.bin Go.BinOp.neq r705 (AV.int 0))) →
  (fLoop 1153 [(AV.int 0)] fun ys1153 again1153 =>
    ((AV.binOk Go.BinOp.lss (ys1153.getD 0 default) (AV.len (AV.mk 1 [[x0], [x1]]))) ∧
    ((AV.isBool (AV.bin Go.BinOp.lss (ys1153.getD 0 default) (AV.len (AV.mk 1 [[x0], [x1]])))) ∧
    (((isT (AV.bin Go.BinOp.lss (ys1153.getD 0 default) (AV.len (AV.mk 1 [[x0], [x1]])))) →
      ((AV.inb (AV.mk 1 [[x0], [x1]]) (ys1153.getD 0 default)) ∧
      ((AV.inb (AV.mk 1 [[x0], [x1]]) (ys1153.getD 0 default)) ∧
      (∃ r1473 : AV, ((Fn Tryz.prog 18 [(AV.at (AV.mk 1 [[x0], [x1]]) (ys1153.getD 0 default) 0)] Sh.sc r1473) ∧
      ((AV.binOk Go.BinOp.neq r1473 (AV.int 0)) ∧
      ((AV.isBool (AV.bin Go.BinOp.neq r1473 (AV.int 0))) ∧
      (((isT (AV.bin Go.BinOp.neq r1473 (AV.int 0))) →
        ((AV.binOk Go.BinOp.neq r1473 (AV.int 0)) ∧
        ((AV.isBool (AV.bin Go.BinOp.neq r1473 (AV.int 0))) ∧
        ((isT (AV.bin Go.BinOp.neq r1473 (AV.int 0))) ∧
        ((AV.flatS (AV.mk 2 [])) ∧
        ((AV.flat r1473) ∧
        (fSame (AV.tup [(AV.mk 2 []), r1473]) r))))))) ∧
      ((isF (AV.bin Go.BinOp.neq r1473 (AV.int 0))) →
        ((AV.binOk Go.BinOp.add (ys1153.getD 0 default) (AV.int 1)) ∧
        (again1153 [(AV.bin Go.BinOp.add (ys1153.getD 0 default) (AV.int 1))]))))))))))) ∧
    ((isF (AV.bin Go.BinOp.lss (ys1153.getD 0 default) (AV.len (AV.mk 1 [[x0], [x1]])))) →
      (∃ r1729 : AV, ((Fn Tryz.prog 45 [x0, x1, (AV.agg [(AV.cel x2 0), (AV.cel x2 1)])] (Sh.row 75 2 true) r1729) ∧
      ((AV.flatS r1729) ∧
      ((AV.flat (AV.int 0)) ∧
      (fSame (AV.tup [r1729, (AV.int 0)]) r)))))))))))))))))))))) := by kernel_rfl
theorem first_form (x0 x1 x2 r : AV) : fnF Tryz.prog Γ ann 3 19 Tryz.f19 (Tryz.f19.body.getD .skip) (.nil) [x0, x1, x2] (.tup [.sc, .sc]) r = (((AV.isAgg x2 2) ∧
(∃ r385 : AV, ((Fn Tryz.prog 28 [x0, x1, (AV.agg [(AV.cel x2 0), (AV.cel x2 1)])] (Sh.tup [(Sh.row 75 2 true), Sh.sc]) r385) ∧
((AV.binOk Go.BinOp.neq (AV.prj r385 1) (AV.int 0)) ∧
((AV.isBool (AV.bin Go.BinOp.neq (AV.prj r385 1) (AV.int 0))) ∧
(((isT (AV.bin Go.BinOp.neq (AV.prj r385 1) (AV.int 0))) →
  ((AV.flat (AV.int 0)) ∧
  ((AV.flat (AV.prj r385 1)) ∧
  (fSame (AV.tup [(AV.int 0), (AV.prj r385 1)]) r)))) ∧
((isF (AV.bin Go.BinOp.neq (AV.prj r385 1) (AV.int 0))) →
  ((AV.binOk Go.BinOp.eql (AV.len (AV.prj r385 0)) (AV.int 0)) ∧
  ((AV.isBool (AV.bin Go.BinOp.eql (AV.len (AV.prj r385 0)) (AV.int 0))) ∧
  (((isT (AV.bin Go.BinOp.eql (AV.len (AV.prj r385 0)) (AV.int 0))) →
    ((AV.flat (AV.int 0)) ∧
    ((AV.flat (AV.int 8)) ∧
    (fSame (AV.tup [(AV.int 0), (AV.int 8)]) r)))) ∧
  ((isF (AV.bin Go.BinOp.eql (AV.len (AV.prj r385 0)) (AV.int 0))) →
    ((AV.inb (AV.prj r385 0) (AV.int 0)) ∧
    ((AV.inb (AV.prj r385 0) (AV.int 0)) ∧
    ((AV.flat (AV.at (AV.prj r385 0) (AV.int 0) 0)) ∧
    ((AV.flat (AV.int 0)) ∧
    (fSame (AV.tup [(AV.at (AV.prj r385 0) (AV.int 0) 0), (AV.int 0)]) r))))))))))))))))) := by kernel_rfl
theorem rcheck_form (x0 x1 x2 r : AV) : fnF Tryz.prog Γ ann 3 15 Tryz.f15 (Tryz.f15.body.getD .skip) (.nil) [x0, x1, x2] (.sc) r = (((AV.isAgg x2 2) ∧
(∃ r193 : AV, ((Fn Tryz.prog 17 [(AV.agg [(AV.cel x2 0), (AV.cel x2 1)])] Sh.sc r193) ∧
((AV.binOk Go.BinOp.neq r193 (AV.int 0)) ∧
((AV.isBool (AV.bin Go.BinOp.neq r193 (AV.int 0))) ∧
(((isT (AV.bin Go.BinOp.neq r193 (AV.int 0))) →
  ((AV.flat r193) ∧
  (fSame r193 r))) ∧
((isF (AV.bin Go.BinOp.neq r193 (AV.int 0))) →
  ((AV.isSl x0 1) ∧
  ((AV.binOk Go.BinOp.gtr (AV.len x0) (AV.int 24)) ∧
  ((AV.isBool (AV.bin Go.BinOp.gtr (AV.len x0) (AV.int 24))) ∧
  (((isT (AV.bin Go.BinOp.gtr (AV.len x0) (AV.int 24))) →
    ((AV.flat (AV.int 2)) ∧
    (fSame (AV.int 2) r))) ∧
  ((isF (AV.bin Go.BinOp.gtr (AV.len x0) (AV.int 24))) →
    ((AV.isSl x0 1) ∧
    (fLoop 833 [(AV.int 0)] fun ys833 again833 =>
      ((AV.binOk Go.BinOp.lss (ys833.getD 0 default) (AV.len x0)) ∧
      ((AV.isBool (AV.bin Go.BinOp.lss (ys833.getD 0 default) (AV.len x0))) ∧
      (((isT (AV.bin Go.BinOp.lss (ys833.getD 0 default) (AV.len x0))) →
        ((AV.isSl x0 1) ∧
        ((AV.inb x0 (ys833.getD 0 default)) ∧
        (∃ r1153 : AV, ((Fn Tryz.prog 18 [(AV.at x0 (ys833.getD 0 default) 0)] Sh.sc r1153) ∧
        ((AV.binOk Go.BinOp.neq r1153 (AV.int 0)) ∧
        ((AV.isBool (AV.bin Go.BinOp.neq r1153 (AV.int 0))) ∧
        (((isT (AV.bin Go.BinOp.neq r1153 (AV.int 0))) →
          ((AV.flat r1153) ∧
          (fSame r1153 r))) ∧
        ((isF (AV.bin Go.BinOp.neq r1153 (AV.int 0))) →
          ((AV.binOk Go.BinOp.add (ys833.getD 0 default) (AV.int 1)) ∧
          (again833 [(AV.bin Go.BinOp.add (ys833.getD 0 default) (AV.int 1))]))))))))))) ∧
      ((isF (AV.bin Go.BinOp.lss (ys833.getD 0 default) (AV.len x0))) →
        ((AV.binOk Go.BinOp.lss x1 (AV.int 0)) ∧
        ((AV.isBool (AV.bin Go.BinOp.lss x1 (AV.int 0))) ∧
        (((isT (AV.bin Go.BinOp.lss x1 (AV.int 0))) →
          ((AV.isBool (AV.bin Go.BinOp.lss x1 (AV.int 0))) ∧
          ((isT (AV.bin Go.BinOp.lss x1 (AV.int 0))) ∧
          ((AV.flat (AV.int 4)) ∧
          (fSame (AV.int 4) r))))) ∧
        ((isF (AV.bin Go.BinOp.lss x1 (AV.int 0))) →
          ((AV.isSl x0 1) ∧
          ((AV.binOk Go.BinOp.geq x1 (AV.len x0)) ∧
          ((AV.isBool (AV.bin Go.BinOp.lss x1 (AV.int 0))) ∧
          ((isF (AV.bin Go.BinOp.lss x1 (AV.int 0))) ∧
          ((AV.isBool (AV.bin Go.BinOp.geq x1 (AV.len x0))) ∧
          (((isT (AV.bin Go.BinOp.geq x1 (AV.len x0))) →
            ((AV.flat (AV.int 4)) ∧
            (fSame (AV.int 4) r))) ∧
          ((isF (AV.bin Go.BinOp.geq x1 (AV.len x0))) →
            ((AV.flat (AV.int 0)) ∧
            (fSame (AV.int 0) r)))))))))))))))))))))))))))))))) := by kernel_rfl
theorem free_form (x0 x1 x2 x3 r : AV) : fnF Tryz.prog Γ ann 3 16 Tryz.f16 (Tryz.f16.body.getD .skip) (.nil) [x0, x1, x2, x3] (.sc) r = (((AV.isAgg x3 2) ∧
((AV.isSl x0 1) ∧
(fLoop 321 [(AV.int 0)] fun ys321 again321 =>
  ((AV.binOk Go.BinOp.lss (ys321.getD 0 default) (AV.len x0)) ∧
  ((AV.isBool (AV.bin Go.BinOp.lss (ys321.getD 0 default) (AV.len x0))) ∧
  (((isT (AV.bin Go.BinOp.lss (ys321.getD 0 default) (AV.len x0))) →
    ((AV.isSl x0 1) ∧
    ((AV.inb x0 (ys321.getD 0 default)) ∧
    ((AV.binOk Go.BinOp.neq (ys321.getD 0 default) x1) ∧
    ((AV.isBool (AV.bin Go.BinOp.neq (ys321.getD 0 default) x1)) ∧
    (((isT (AV.bin Go.BinOp.neq (ys321.getD 0 default) x1)) →
      (∃ r1089 : AV, ((Fn Tryz.prog 19 [x2, (AV.at x0 (ys321.getD 0 default) 0), (AV.agg [(AV.cel x3 0), (AV.cel x3 1)])] (Sh.tup [Sh.sc, Sh.sc]) r1089) ∧
      ((AV.binOk Go.BinOp.eql (AV.prj r1089 1) (AV.int 0)) ∧
      ((AV.isBool (AV.bin Go.BinOp.eql (AV.prj r1089 1) (AV.int 0))) ∧
      (((isT (AV.bin Go.BinOp.eql (AV.prj r1089 1) (AV.int 0))) →
        ((AV.flat (AV.bool false)) ∧
        (fSame (AV.bool false) r))) ∧
      ((isF (AV.bin Go.BinOp.eql (AV.prj r1089 1) (AV.int 0))) →
        ((AV.binOk Go.BinOp.add (ys321.getD 0 default) (AV.int 1)) ∧
        (again321 [(AV.bin Go.BinOp.add (ys321.getD 0 default) (AV.int 1))]))))))))) ∧
    ((isF (AV.bin Go.BinOp.neq (ys321.getD 0 default) x1)) →
      ((AV.binOk Go.BinOp.add (ys321.getD 0 default) (AV.int 1)) ∧
      (again321 [(AV.bin Go.BinOp.add (ys321.getD 0 default) (AV.int 1))]))))))))) ∧
  ((isF (AV.bin Go.BinOp.lss (ys321.getD 0 default) (AV.len x0))) →
    ((AV.flat (AV.bool true)) ∧
    (fSame (AV.bool true) r)))))))))) := by kernel_rfl
theorem rfree_form (x0 x1 x2 r : AV) : fnF Tryz.prog Γ ann 3 5 Tryz.f5 (Tryz.f5.body.getD .skip) (.nil) [x0, x1, x2] (.tup [.sc, .sc]) r = (((AV.isAgg x2 2) ∧
(∃ r385 : AV, ((Fn Tryz.prog 15 [x0, x1, (AV.agg [(AV.cel x2 0), (AV.cel x2 1)])] Sh.sc r385) ∧
((AV.binOk Go.BinOp.neq r385 (AV.int 0)) ∧
((AV.isBool (AV.bin Go.BinOp.neq r385 (AV.int 0))) ∧
(((isT (AV.bin Go.BinOp.neq r385 (AV.int 0))) →
  ((AV.flat (AV.bool false)) ∧
  ((AV.flat r385) ∧
  (fSame (AV.tup [(AV.bool false), r385]) r)))) ∧
((isF (AV.bin Go.BinOp.neq r385 (AV.int 0))) →
  ((AV.isSl x0 1) ∧
  ((AV.inb x0 x1) ∧
  (∃ r1089 : AV, ((Fn Tryz.prog 16 [x0, x1, (AV.at x0 x1 0), (AV.agg [(AV.cel x2 0), (AV.cel x2 1)])] Sh.sc r1089) ∧
  ((AV.flat r1089) ∧
  ((AV.flat (AV.int 0)) ∧
  (fSame (AV.tup [r1089, (AV.int 0)]) r))))))))))))))) := by kernel_rfl
theorem of_form (x0 r : AV) : fnF Tryz.prog Γ ann 3 34 Tryz.f34 (Tryz.f34.body.getD .skip) (.nil) [x0] (.tup [.sc, .sc]) r = (((AV.isAgg x0 2) ∧
((AV.binOk Go.BinOp.lss (AV.cel x0 0) (AV.int (-2000000))) ∧
((AV.isBool (AV.bin Go.BinOp.lss (AV.cel x0 0) (AV.int (-2000000)))) ∧
(((isT (AV.bin Go.BinOp.lss (AV.cel x0 0) (AV.int (-2000000)))) →
  ((AV.isBool (AV.bin Go.BinOp.lss (AV.cel x0 0) (AV.int (-2000000)))) ∧
  ((isT (AV.bin Go.BinOp.lss (AV.cel x0 0) (AV.int (-2000000)))) ∧
  ((AV.flat (AV.int 0)) ∧
  ((AV.flat (AV.int 4)) ∧
  (fSame (AV.tup [(AV.int 0), (AV.int 4)]) r)))))) ∧
((isF (AV.bin Go.BinOp.lss (AV.cel x0 0) (AV.int (-2000000)))) →
  ((AV.binOk Go.BinOp.gtr (AV.cel x0 0) (AV.int 2000000)) ∧
  ((AV.isBool (AV.bin Go.BinOp.lss (AV.cel x0 0) (AV.int (-2000000)))) ∧
  ((isF (AV.bin Go.BinOp.lss (AV.cel x0 0) (AV.int (-2000000)))) ∧
  ((AV.isBool (AV.bin Go.BinOp.gtr (AV.cel x0 0) (AV.int 2000000))) ∧
  (((isT (AV.bin Go.BinOp.gtr (AV.cel x0 0) (AV.int 2000000))) →
    ((AV.isBool (AV.bin Go.BinOp.gtr (AV.cel x0 0) (AV.int 2000000))) ∧
    ((isT (AV.bin Go.BinOp.gtr (AV.cel x0 0) (AV.int 2000000))) ∧
    ((AV.flat (AV.int 0)) ∧
    ((AV.flat (AV.int 4)) ∧
    (fSame (AV.tup [(AV.int 0), (AV.int 4)]) r)))))) ∧
  ((isF (AV.bin Go.BinOp.gtr (AV.cel x0 0) (AV.int 2000000))) →
    ((AV.binOk Go.BinOp.lss (AV.cel x0 1) (AV.int (-2000000))) ∧
    ((AV.isBool (AV.bin Go.BinOp.gtr (AV.cel x0 0) (AV.int 2000000))) ∧
    ((isF (AV.bin Go.BinOp.gtr (AV.cel x0 0) (AV.int 2000000))) ∧
    ((AV.isBool (AV.bin Go.BinOp.lss (AV.cel x0 1) (AV.int (-2000000)))) ∧
    (((isT (AV.bin Go.BinOp.lss (AV.cel x0 1) (AV.int (-2000000)))) →
      ((AV.isBool (AV.bin Go.BinOp.lss (AV.cel x0 1) (AV.int (-2000000)))) ∧
      ((isT (AV.bin Go.BinOp.lss (AV.cel x0 1) (AV.int (-2000000)))) ∧
      ((AV.flat (AV.int 0)) ∧
      ((AV.flat (AV.int 4)) ∧
      (fSame (AV.tup [(AV.int 0), (AV.int 4)]) r)))))) ∧
    ((isF (AV.bin Go.BinOp.lss (AV.cel x0 1) (AV.int (-2000000)))) →
      ((AV.binOk Go.BinOp.gtr (AV.cel x0 1) (AV.int 2000000)) ∧
      ((AV.isBool (AV.bin Go.BinOp.lss (AV.cel x0 1) (AV.int (-2000000)))) ∧
      ((isF (AV.bin Go.BinOp.lss (AV.cel x0 1) (AV.int (-2000000)))) ∧
      ((AV.isBool (AV.bin Go.BinOp.gtr (AV.cel x0 1) (AV.int 2000000))) ∧
      (((isT (AV.bin Go.BinOp.gtr (AV.cel x0 1) (AV.int 2000000))) →
        ((AV.flat (AV.int 0)) ∧
        ((AV.flat (AV.int 4)) ∧
        (fSame (AV.tup [(AV.int 0), (AV.int 4)]) r)))) ∧
      ((isF (AV.bin Go.BinOp.gtr (AV.cel x0 1) (AV.int 2000000))) →
        ((AV.binOk Go.BinOp.eql (AV.cel x0 0) (AV.int 0)) ∧
        ((AV.isBool (AV.bin Go.BinOp.eql (AV.cel x0 0) (AV.int 0))) ∧
        (((isT (AV.bin Go.BinOp.eql (AV.cel x0 0) (AV.int 0))) →
          ((AV.binOk Go.BinOp.eql (AV.cel x0 1) (AV.int 0)) ∧
          ((AV.isBool (AV.bin Go.BinOp.eql (AV.cel x0 0) (AV.int 0))) ∧
          ((isT (AV.bin Go.BinOp.eql (AV.cel x0 0) (AV.int 0))) ∧
          ((AV.isBool (AV.bin Go.BinOp.eql (AV.cel x0 1) (AV.int 0))) ∧
          (((isT (AV.bin Go.BinOp.eql (AV.cel x0 1) (AV.int 0))) →
            ((AV.flat (AV.int 0)) ∧
            ((AV.flat (AV.int 10)) ∧
            (fSame (AV.tup [(AV.int 0), (AV.int 10)]) r)))) ∧
          ((isF (AV.bin Go.BinOp.eql (AV.cel x0 1) (AV.int 0))) →
            (fStuck "convert")))))))) ∧
        ((isF (AV.bin Go.BinOp.eql (AV.cel x0 0) (AV.int 0))) →
          ((AV.isBool (AV.bin Go.BinOp.eql (AV.cel x0 0) (AV.int 0))) ∧
          ((isF (AV.bin Go.BinOp.eql (AV.cel x0 0) (AV.int 0))) ∧
          (fStuck "convert"))))))))))))))))))))))))))))))) := by kernel_rfl
theorem course_form (x0 x1 r : AV) : fnF Tryz.prog Γ ann 3 23 Tryz.f23 (Tryz.f23.body.getD .skip) (.nil) [x0, x1] (.tup [.sc, .sc, .sc]) r = (((AV.isAgg x1 6) ∧
((AV.isSl x0 6) ∧
(fLoop 449 [(AV.int 0)] fun ys449 again449 =>
  ((AV.binOk Go.BinOp.lss (ys449.getD 0 default) (AV.len x0)) ∧
  ((AV.isBool (AV.bin Go.BinOp.lss (ys449.getD 0 default) (AV.len x0))) ∧
  (((isT (AV.bin Go.BinOp.lss (ys449.getD 0 default) (AV.len x0))) →
    ((AV.isSl x0 6) ∧
    ((AV.inb x0 (ys449.getD 0 default)) ∧
    ((AV.isAgg (AV.atAgg x0 (ys449.getD 0 default) 0 6) 6) ∧
    ((AV.binOk Go.BinOp.gtr (AV.cel (AV.atAgg x0 (ys449.getD 0 default) 0 6) 0) (AV.cel x1 0)) ∧
    ((AV.isBool (AV.bin Go.BinOp.gtr (AV.cel (AV.atAgg x0 (ys449.getD 0 default) 0 6) 0) (AV.cel x1 0))) ∧
    (((isT (AV.bin Go.BinOp.gtr (AV.cel (AV.atAgg x0 (ys449.getD 0 default) 0 6) 0) (AV.cel x1 0))) →
      (∃ r1601 : AV, ((Fn Tryz.prog 35 [(AV.agg [(AV.cel (AV.atAgg x0 (ys449.getD 0 default) 0 6) 1), (AV.cel (AV.atAgg x0 (ys449.getD 0 default) 0 6) 2)]), (AV.agg [(AV.cel x1 1), (AV.cel x1 2)])] Sh.sc r1601) ∧
      (∃ r1665 : AV, ((Fn Tryz.prog 34 [r1601] (Sh.tup [Sh.sc, Sh.sc]) r1665) ∧
      (∃ r2433 : AV, ((Fn Tryz.prog 36 [(AV.agg [(AV.cel x1 1), (AV.cel x1 2)]), (AV.agg [(AV.cel (AV.atAgg x0 (ys449.getD 0 default) 0 6) 1), (AV.cel (AV.atAgg x0 (ys449.getD 0 default) 0 6) 2)])] (Sh.tup [Sh.sc, Sh.sc]) r2433) ∧
      ((AV.binOk Go.BinOp.sub (AV.cel (AV.atAgg x0 (ys449.getD 0 default) 0 6) 0) (AV.cel x1 0)) ∧
      ((AV.binOk Go.BinOp.quo (AV.prj r2433 0) (AV.bin Go.BinOp.sub (AV.cel (AV.atAgg x0 (ys449.getD 0 default) 0 6) 0) (AV.cel x1 0))) ∧
      ((AV.binOk Go.BinOp.eql (AV.prj r1665 1) (AV.int 0)) ∧
      ((AV.flat (AV.prj r1665 0)) ∧
      ((AV.flat (AV.bin Go.BinOp.quo (AV.prj r2433 0) (AV.bin Go.BinOp.sub (AV.cel (AV.atAgg x0 (ys449.getD 0 default) 0 6) 0) (AV.cel x1 0)))) ∧
      ((AV.flat (AV.bin Go.BinOp.eql (AV.prj r1665 1) (AV.int 0))) ∧
      (fSame (AV.tup [(AV.prj r1665 0), (AV.bin Go.BinOp.quo (AV.prj r2433 0) (AV.bin Go.BinOp.sub (AV.cel (AV.atAgg x0 (ys449.getD 0 default) 0 6) 0) (AV.cel x1 0))), (AV.bin Go.BinOp.eql (AV.prj r1665 1) (AV.int 0))]) r)))))))))))))) ∧
    ((isF (AV.bin Go.BinOp.gtr (AV.cel (AV.atAgg x0 (ys449.getD 0 default) 0 6) 0) (AV.cel x1 0))) →
      ((AV.binOk Go.BinOp.add (ys449.getD 0 default) (AV.int 1)) ∧
      (again449 [(AV.bin Go.BinOp.add (ys449.getD 0 default) (AV.int 1))])))))))))) ∧
  ((isF (AV.bin Go.BinOp.lss (ys449.getD 0 default) (AV.len x0))) →
    ((AV.flat (AV.int 0)) ∧
    ((AV.flat (AV.int 0)) ∧
    ((AV.flat (AV.bool false)) ∧
    (fSame (AV.tup [(AV.int 0), (AV.int 0), (AV.bool false)]) r)))))))))))) := by kernel_rfl
theorem cand_form (x0 x1 x2 x3 r : AV) : fnF Tryz.prog Γ ann 3 10 Tryz.f10 (Tryz.f10.body.getD .skip) (.nil) [x0, x1, x2, x3] (.tup [.row 44 4 true, .sc]) r = (((AV.isOne x0) ∧
((AV.isAgg x3 7) ∧
(∃ r321 : AV, ((Fn Tryz.prog 18 [x1] Sh.sc r321) ∧
((AV.binOk Go.BinOp.neq r321 (AV.int 0)) ∧
((AV.isBool (AV.bin Go.BinOp.neq r321 (AV.int 0))) ∧
(((isT (AV.bin Go.BinOp.neq r321 (AV.int 0))) →
  ((AV.flatS (AV.mk 4 [])) ∧
  ((AV.flat r321) ∧
  (fSame (AV.tup [(AV.mk 4 []), r321]) r)))) ∧
((isF (AV.bin Go.BinOp.neq r321 (AV.int 0))) →
  (∃ r641 : AV, ((Fn Tryz.prog 20 [(AV.agg [(AV.cel x3 0), (AV.cel x3 1), (AV.cel x3 2), (AV.cel x3 3), (AV.cel x3 4), (AV.cel x3 5), (AV.cel x3 6)])] Sh.sc r641) ∧
  ((AV.binOk Go.BinOp.neq r641 (AV.int 0)) ∧
  ((AV.isBool (AV.bin Go.BinOp.neq r641 (AV.int 0))) ∧
  (((isT (AV.bin Go.BinOp.neq r641 (AV.int 0))) →
    ((AV.flatS (AV.mk 4 [])) ∧
    ((AV.flat r641) ∧
    (fSame (AV.tup [(AV.mk 4 []), r641]) r)))) ∧
  ((isF (AV.bin Go.BinOp.neq r641 (AV.int 0))) →
    (∃ r1025 : AV, ((Fn Tryz.prog 21 [x1, x2] (Sh.tup [Sh.sc, Sh.sc]) r1025) ∧
    ((AV.isAgg (AV.prj r1025 0) 6) ∧
    ((AV.binOk Go.BinOp.neq (AV.prj r1025 1) (AV.int 0)) ∧
    ((AV.isBool (AV.bin Go.BinOp.neq (AV.prj r1025 1) (AV.int 0))) ∧
    (((isT (AV.bin Go.BinOp.neq (AV.prj r1025 1) (AV.int 0))) →
      ((AV.flatS (AV.mk 4 [])) ∧
      ((AV.flat (AV.prj r1025 1)) ∧
      (fSame (AV.tup [(AV.mk 4 []), (AV.prj r1025 1)]) r)))) ∧
    ((isF (AV.bin Go.BinOp.neq (AV.prj r1025 1) (AV.int 0))) →
      ((AV.isOne x0) ∧
      (∃ r1729 : AV, ((Fn Tryz.prog 22 [(AV.agg [x0, (AV.int 0), (AV.int 0), (AV.lit (Value.string ⟨#[]⟩))])] Sh.sc r1729) ∧
      ((AV.binOk Go.BinOp.neq r1729 (AV.int 0)) ∧
      ((AV.isBool (AV.bin Go.BinOp.neq r1729 (AV.int 0))) ∧
      (((isT (AV.bin Go.BinOp.neq r1729 (AV.int 0))) →
        ((AV.flatS (AV.mk 4 [])) ∧
        ((AV.flat r1729) ∧
        (fSame (AV.tup [(AV.mk 4 []), r1729]) r)))) ∧
      ((isF (AV.bin Go.BinOp.neq r1729 (AV.int 0))) →
        (∃ r2113 : AV, ((Fn Tryz.prog 23 [x1, (AV.agg [(AV.cel (AV.prj r1025 0) 0), (AV.cel (AV.prj r1025 0) 1), (AV.cel (AV.prj r1025 0) 2), (AV.cel (AV.prj r1025 0) 3), (AV.cel (AV.prj r1025 0) 4), (AV.cel (AV.prj r1025 0) 5)])] (Sh.tup [Sh.sc, Sh.sc, Sh.sc]) r2113) ∧
        (fLoop 2945 [(AV.int 1), (AV.mk 4 [])] fun ys2945 again2945 =>
          ((AV.binOk Go.BinOp.leq (ys2945.getD 0 default) (AV.int 3)) ∧
          ((AV.isBool (AV.bin Go.BinOp.leq (ys2945.getD 0 default) (AV.int 3))) ∧
          (((isT (AV.bin Go.BinOp.leq (ys2945.getD 0 default) (AV.int 3))) →
            ((AV.binOk Go.BinOp.mul (AV.int 1000) (ys2945.getD 0 default)) ∧
            ((AV.binOk Go.BinOp.add (AV.cel (AV.prj r1025 0) 3) (AV.bin Go.BinOp.mul (AV.int 1000) (ys2945.getD 0 default))) ∧
            ((AV.binOk Go.BinOp.mul (AV.int 1000) (ys2945.getD 0 default)) ∧
            ((AV.binOk Go.BinOp.sub (AV.cel (AV.prj r1025 0) 3) (AV.bin Go.BinOp.mul (AV.int 1000) (ys2945.getD 0 default))) ∧
            ((AV.isOne (AV.bin Go.BinOp.add (AV.cel (AV.prj r1025 0) 3) (AV.bin Go.BinOp.mul (AV.int 1000) (ys2945.getD 0 default)))) ∧
            ((AV.isOne (AV.bin Go.BinOp.sub (AV.cel (AV.prj r1025 0) 3) (AV.bin Go.BinOp.mul (AV.int 1000) (ys2945.getD 0 default)))) ∧
            (fLoop 3969 [(AV.int 0), (ys2945.getD 1 default)] fun ys3969 again3969 =>
              ((AV.binOk Go.BinOp.lss (ys3969.getD 0 default) (AV.int 2)) ∧
              ((AV.isBool (AV.bin Go.BinOp.lss (ys3969.getD 0 default) (AV.int 2))) ∧
              (((isT (AV.bin Go.BinOp.lss (ys3969.getD 0 default) (AV.int 2))) →
                ((AV.inl 2 (ys3969.getD 0 default)) ∧
                ((AV.binOk Go.BinOp.geq (AV.nth [(AV.bin Go.BinOp.add (AV.cel (AV.prj r1025 0) 3) (AV.bin Go.BinOp.mul (AV.int 1000) (ys2945.getD 0 default))), (AV.bin Go.BinOp.sub (AV.cel (AV.prj r1025 0) 3) (AV.bin Go.BinOp.mul (AV.int 1000) (ys2945.getD 0 default)))] 0 [((ys3969.getD 0 default), 1)]) (AV.int 0)) ∧
                ((AV.isBool (AV.bin Go.BinOp.geq (AV.nth [(AV.bin Go.BinOp.add (AV.cel (AV.prj r1025 0) 3) (AV.bin Go.BinOp.mul (AV.int 1000) (ys2945.getD 0 default))), (AV.bin Go.BinOp.sub (AV.cel (AV.prj r1025 0) 3) (AV.bin Go.BinOp.mul (AV.int 1000) (ys2945.getD 0 default)))] 0 [((ys3969.getD 0 default), 1)]) (AV.int 0))) ∧
                (((isT (AV.bin Go.BinOp.geq (AV.nth [(AV.bin Go.BinOp.add (AV.cel (AV.prj r1025 0) 3) (AV.bin Go.BinOp.mul (AV.int 1000) (ys2945.getD 0 default))), (AV.bin Go.BinOp.sub (AV.cel (AV.prj r1025 0) 3) (AV.bin Go.BinOp.mul (AV.int 1000) (ys2945.getD 0 default)))] 0 [((ys3969.getD 0 default), 1)]) (AV.int 0))) →
                  ((AV.binOk Go.BinOp.leq (AV.nth [(AV.bin Go.BinOp.add (AV.cel (AV.prj r1025 0) 3) (AV.bin Go.BinOp.mul (AV.int 1000) (ys2945.getD 0 default))), (AV.bin Go.BinOp.sub (AV.cel (AV.prj r1025 0) 3) (AV.bin Go.BinOp.mul (AV.int 1000) (ys2945.getD 0 default)))] 0 [((ys3969.getD 0 default), 1)]) (AV.cel x3 2)) ∧
                  ((AV.isBool (AV.bin Go.BinOp.geq (AV.nth [(AV.bin Go.BinOp.add (AV.cel (AV.prj r1025 0) 3) (AV.bin Go.BinOp.mul (AV.int 1000) (ys2945.getD 0 default))), (AV.bin Go.BinOp.sub (AV.cel (AV.prj r1025 0) 3) (AV.bin Go.BinOp.mul (AV.int 1000) (ys2945.getD 0 default)))] 0 [((ys3969.getD 0 default), 1)]) (AV.int 0))) ∧
                  ((isT (AV.bin Go.BinOp.geq (AV.nth [(AV.bin Go.BinOp.add (AV.cel (AV.prj r1025 0) 3) (AV.bin Go.BinOp.mul (AV.int 1000) (ys2945.getD 0 default))), (AV.bin Go.BinOp.sub (AV.cel (AV.prj r1025 0) 3) (AV.bin Go.BinOp.mul (AV.int 1000) (ys2945.getD 0 default)))] 0 [((ys3969.getD 0 default), 1)]) (AV.int 0))) ∧
                  ((AV.isBool (AV.bin Go.BinOp.leq (AV.nth [(AV.bin Go.BinOp.add (AV.cel (AV.prj r1025 0) 3) (AV.bin Go.BinOp.mul (AV.int 1000) (ys2945.getD 0 default))), (AV.bin Go.BinOp.sub (AV.cel (AV.prj r1025 0) 3) (AV.bin Go.BinOp.mul (AV.int 1000) (ys2945.getD 0 default)))] 0 [((ys3969.getD 0 default), 1)]) (AV.cel x3 2))) ∧
                  (((isT (AV.bin Go.BinOp.leq (AV.nth [(AV.bin Go.BinOp.add (AV.cel (AV.prj r1025 0) 3) (AV.bin Go.BinOp.mul (AV.int 1000) (ys2945.getD 0 default))), (AV.bin Go.BinOp.sub (AV.cel (AV.prj r1025 0) 3) (AV.bin Go.BinOp.mul (AV.int 1000) (ys2945.getD 0 default)))] 0 [((ys3969.getD 0 default), 1)]) (AV.cel x3 2))) →
                    ((fEnt Tryz.prog 24) ∧
                    (fAllV fun _ => ((AV.isOne x0) ∧
                    ((AV.isOne (AV.nth [(AV.bin Go.BinOp.add (AV.cel (AV.prj r1025 0) 3) (AV.bin Go.BinOp.mul (AV.int 1000) (ys2945.getD 0 default))), (AV.bin Go.BinOp.sub (AV.cel (AV.prj r1025 0) 3) (AV.bin Go.BinOp.mul (AV.int 1000) (ys2945.getD 0 default)))] 0 [((ys3969.getD 0 default), 1)])) ∧
                    ((AV.room (ys3969.getD 1 default) (AV.mk 4 [[x0, (AV.int 0), (AV.nth [(AV.bin Go.BinOp.add (AV.cel (AV.prj r1025 0) 3) (AV.bin Go.BinOp.mul (AV.int 1000) (ys2945.getD 0 default))), (AV.bin Go.BinOp.sub (AV.cel (AV.prj r1025 0) 3) (AV.bin Go.BinOp.mul (AV.int 1000) (ys2945.getD 0 default)))] 0 [((ys3969.getD 0 default), 1)]), (AV.lit (Value.string ⟨#[]⟩))]]) 48) ∧
                    ((AV.binOk Go.BinOp.add (ys3969.getD 0 default) (AV.int 1)) ∧
                    (again3969 [(AV.bin Go.BinOp.add (ys3969.getD 0 default) (AV.int 1)), (AV.app 4 (ys3969.getD 1 default) (AV.mk 4 [[x0, (AV.int 0), (AV.nth [(AV.bin Go.BinOp.add (AV.cel (AV.prj r1025 0) 3) (AV.bin Go.BinOp.mul (AV.int 1000) (ys2945.getD 0 default))), (AV.bin Go.BinOp.sub (AV.cel (AV.prj r1025 0) 3) (AV.bin Go.BinOp.mul (AV.int 1000) (ys2945.getD 0 default)))] 0 [((ys3969.getD 0 default), 1)]), (AV.lit (Value.string ⟨#[]⟩))]]))])))))))) ∧
                  ((isF (AV.bin Go.BinOp.leq (AV.nth [(AV.bin Go.BinOp.add (AV.cel (AV.prj r1025 0) 3) (AV.bin Go.BinOp.mul (AV.int 1000) (ys2945.getD 0 default))), (AV.bin Go.BinOp.sub (AV.cel (AV.prj r1025 0) 3) (AV.bin Go.BinOp.mul (AV.int 1000) (ys2945.getD 0 default)))] 0 [((ys3969.getD 0 default), 1)]) (AV.cel x3 2))) →
                    ((AV.binOk Go.BinOp.add (ys3969.getD 0 default) (AV.int 1)) ∧
                    (again3969 [(AV.bin Go.BinOp.add (ys3969.getD 0 default) (AV.int 1)), (ys3969.getD 1 default)]))))))))) ∧
                ((isF (AV.bin Go.BinOp.geq (AV.nth [(AV.bin Go.BinOp.add (AV.cel (AV.prj r1025 0) 3) (AV.bin Go.BinOp.mul (AV.int 1000) (ys2945.getD 0 default))), (AV.bin Go.BinOp.sub (AV.cel (AV.prj r1025 0) 3) (AV.bin Go.BinOp.mul (AV.int 1000) (ys2945.getD 0 default)))] 0 [((ys3969.getD 0 default), 1)]) (AV.int 0))) →
                  ((AV.isBool (AV.bin Go.BinOp.geq (AV.nth [(AV.bin Go.BinOp.add (AV.cel (AV.prj r1025 0) 3) (AV.bin Go.BinOp.mul (AV.int 1000) (ys2945.getD 0 default))), (AV.bin Go.BinOp.sub (AV.cel (AV.prj r1025 0) 3) (AV.bin Go.BinOp.mul (AV.int 1000) (ys2945.getD 0 default)))] 0 [((ys3969.getD 0 default), 1)]) (AV.int 0))) ∧
                  ((isF (AV.bin Go.BinOp.geq (AV.nth [(AV.bin Go.BinOp.add (AV.cel (AV.prj r1025 0) 3) (AV.bin Go.BinOp.mul (AV.int 1000) (ys2945.getD 0 default))), (AV.bin Go.BinOp.sub (AV.cel (AV.prj r1025 0) 3) (AV.bin Go.BinOp.mul (AV.int 1000) (ys2945.getD 0 default)))] 0 [((ys3969.getD 0 default), 1)]) (AV.int 0))) ∧
                  ((AV.binOk Go.BinOp.add (ys3969.getD 0 default) (AV.int 1)) ∧
                  (again3969 [(AV.bin Go.BinOp.add (ys3969.getD 0 default) (AV.int 1)), (ys3969.getD 1 default)])))))))))) ∧
              ((isF (AV.bin Go.BinOp.lss (ys3969.getD 0 default) (AV.int 2))) →
                ((AV.unOk Go.UnOp.not (AV.prj r2113 2)) ∧
                ((AV.isBool (AV.un Go.UnOp.not (AV.prj r2113 2))) ∧
                (((isT (AV.un Go.UnOp.not (AV.prj r2113 2))) →
                  ((AV.binOk Go.BinOp.add (ys2945.getD 0 default) (AV.int 1)) ∧
                  (again2945 [(AV.bin Go.BinOp.add (ys2945.getD 0 default) (AV.int 1)), (ys3969.getD 1 default)]))) ∧
                ((isF (AV.un Go.UnOp.not (AV.prj r2113 2))) →
                  ((AV.binOk Go.BinOp.mul (AV.int 15) (ys2945.getD 0 default)) ∧
                  ((AV.binOk Go.BinOp.add (AV.prj r2113 1) (AV.bin Go.BinOp.mul (AV.int 15) (ys2945.getD 0 default))) ∧
                  ((AV.binOk Go.BinOp.mul (AV.int 15) (ys2945.getD 0 default)) ∧
                  ((AV.binOk Go.BinOp.sub (AV.prj r2113 1) (AV.bin Go.BinOp.mul (AV.int 15) (ys2945.getD 0 default))) ∧
                  ((AV.isOne (AV.bin Go.BinOp.add (AV.prj r2113 1) (AV.bin Go.BinOp.mul (AV.int 15) (ys2945.getD 0 default)))) ∧
                  ((AV.isOne (AV.bin Go.BinOp.sub (AV.prj r2113 1) (AV.bin Go.BinOp.mul (AV.int 15) (ys2945.getD 0 default)))) ∧
                  (fLoop 4801 [(AV.int 0), (ys3969.getD 1 default)] fun ys4801 again4801 =>
                    ((AV.binOk Go.BinOp.lss (ys4801.getD 0 default) (AV.int 2)) ∧
                    ((AV.isBool (AV.bin Go.BinOp.lss (ys4801.getD 0 default) (AV.int 2))) ∧
                    (((isT (AV.bin Go.BinOp.lss (ys4801.getD 0 default) (AV.int 2))) →
                      ((AV.inl 2 (ys4801.getD 0 default)) ∧
                      ((AV.binOk Go.BinOp.geq (AV.nth [(AV.bin Go.BinOp.add (AV.prj r2113 1) (AV.bin Go.BinOp.mul (AV.int 15) (ys2945.getD 0 default))), (AV.bin Go.BinOp.sub (AV.prj r2113 1) (AV.bin Go.BinOp.mul (AV.int 15) (ys2945.getD 0 default)))] 0 [((ys4801.getD 0 default), 1)]) (AV.cel x3 5)) ∧
                      ((AV.isBool (AV.bin Go.BinOp.geq (AV.nth [(AV.bin Go.BinOp.add (AV.prj r2113 1) (AV.bin Go.BinOp.mul (AV.int 15) (ys2945.getD 0 default))), (AV.bin Go.BinOp.sub (AV.prj r2113 1) (AV.bin Go.BinOp.mul (AV.int 15) (ys2945.getD 0 default)))] 0 [((ys4801.getD 0 default), 1)]) (AV.cel x3 5))) ∧
                      (((isT (AV.bin Go.BinOp.geq (AV.nth [(AV.bin Go.BinOp.add (AV.prj r2113 1) (AV.bin Go.BinOp.mul (AV.int 15) (ys2945.getD 0 default))), (AV.bin Go.BinOp.sub (AV.prj r2113 1) (AV.bin Go.BinOp.mul (AV.int 15) (ys2945.getD 0 default)))] 0 [((ys4801.getD 0 default), 1)]) (AV.cel x3 5))) →
                        ((AV.binOk Go.BinOp.leq (AV.nth [(AV.bin Go.BinOp.add (AV.prj r2113 1) (AV.bin Go.BinOp.mul (AV.int 15) (ys2945.getD 0 default))), (AV.bin Go.BinOp.sub (AV.prj r2113 1) (AV.bin Go.BinOp.mul (AV.int 15) (ys2945.getD 0 default)))] 0 [((ys4801.getD 0 default), 1)]) (AV.cel x3 6)) ∧
                        ((AV.isBool (AV.bin Go.BinOp.geq (AV.nth [(AV.bin Go.BinOp.add (AV.prj r2113 1) (AV.bin Go.BinOp.mul (AV.int 15) (ys2945.getD 0 default))), (AV.bin Go.BinOp.sub (AV.prj r2113 1) (AV.bin Go.BinOp.mul (AV.int 15) (ys2945.getD 0 default)))] 0 [((ys4801.getD 0 default), 1)]) (AV.cel x3 5))) ∧
                        ((isT (AV.bin Go.BinOp.geq (AV.nth [(AV.bin Go.BinOp.add (AV.prj r2113 1) (AV.bin Go.BinOp.mul (AV.int 15) (ys2945.getD 0 default))), (AV.bin Go.BinOp.sub (AV.prj r2113 1) (AV.bin Go.BinOp.mul (AV.int 15) (ys2945.getD 0 default)))] 0 [((ys4801.getD 0 default), 1)]) (AV.cel x3 5))) ∧
                        ((AV.isBool (AV.bin Go.BinOp.leq (AV.nth [(AV.bin Go.BinOp.add (AV.prj r2113 1) (AV.bin Go.BinOp.mul (AV.int 15) (ys2945.getD 0 default))), (AV.bin Go.BinOp.sub (AV.prj r2113 1) (AV.bin Go.BinOp.mul (AV.int 15) (ys2945.getD 0 default)))] 0 [((ys4801.getD 0 default), 1)]) (AV.cel x3 6))) ∧
                        (((isT (AV.bin Go.BinOp.leq (AV.nth [(AV.bin Go.BinOp.add (AV.prj r2113 1) (AV.bin Go.BinOp.mul (AV.int 15) (ys2945.getD 0 default))), (AV.bin Go.BinOp.sub (AV.prj r2113 1) (AV.bin Go.BinOp.mul (AV.int 15) (ys2945.getD 0 default)))] 0 [((ys4801.getD 0 default), 1)]) (AV.cel x3 6))) →
                          ((fEnt Tryz.prog 24) ∧
                          (fAllV fun _ => ((AV.isOne x0) ∧
                          ((AV.isOne (AV.nth [(AV.bin Go.BinOp.add (AV.prj r2113 1) (AV.bin Go.BinOp.mul (AV.int 15) (ys2945.getD 0 default))), (AV.bin Go.BinOp.sub (AV.prj r2113 1) (AV.bin Go.BinOp.mul (AV.int 15) (ys2945.getD 0 default)))] 0 [((ys4801.getD 0 default), 1)])) ∧
                          ((AV.room (ys4801.getD 1 default) (AV.mk 4 [[x0, (AV.int 2), (AV.nth [(AV.bin Go.BinOp.add (AV.prj r2113 1) (AV.bin Go.BinOp.mul (AV.int 15) (ys2945.getD 0 default))), (AV.bin Go.BinOp.sub (AV.prj r2113 1) (AV.bin Go.BinOp.mul (AV.int 15) (ys2945.getD 0 default)))] 0 [((ys4801.getD 0 default), 1)]), (AV.lit (Value.string ⟨#[]⟩))]]) 48) ∧
                          ((AV.binOk Go.BinOp.add (ys4801.getD 0 default) (AV.int 1)) ∧
                          (again4801 [(AV.bin Go.BinOp.add (ys4801.getD 0 default) (AV.int 1)), (AV.app 4 (ys4801.getD 1 default) (AV.mk 4 [[x0, (AV.int 2), (AV.nth [(AV.bin Go.BinOp.add (AV.prj r2113 1) (AV.bin Go.BinOp.mul (AV.int 15) (ys2945.getD 0 default))), (AV.bin Go.BinOp.sub (AV.prj r2113 1) (AV.bin Go.BinOp.mul (AV.int 15) (ys2945.getD 0 default)))] 0 [((ys4801.getD 0 default), 1)]), (AV.lit (Value.string ⟨#[]⟩))]]))])))))))) ∧
                        ((isF (AV.bin Go.BinOp.leq (AV.nth [(AV.bin Go.BinOp.add (AV.prj r2113 1) (AV.bin Go.BinOp.mul (AV.int 15) (ys2945.getD 0 default))), (AV.bin Go.BinOp.sub (AV.prj r2113 1) (AV.bin Go.BinOp.mul (AV.int 15) (ys2945.getD 0 default)))] 0 [((ys4801.getD 0 default), 1)]) (AV.cel x3 6))) →
                          ((AV.binOk Go.BinOp.add (ys4801.getD 0 default) (AV.int 1)) ∧
                          (again4801 [(AV.bin Go.BinOp.add (ys4801.getD 0 default) (AV.int 1)), (ys4801.getD 1 default)]))))))))) ∧
                      ((isF (AV.bin Go.BinOp.geq (AV.nth [(AV.bin Go.BinOp.add (AV.prj r2113 1) (AV.bin Go.BinOp.mul (AV.int 15) (ys2945.getD 0 default))), (AV.bin Go.BinOp.sub (AV.prj r2113 1) (AV.bin Go.BinOp.mul (AV.int 15) (ys2945.getD 0 default)))] 0 [((ys4801.getD 0 default), 1)]) (AV.cel x3 5))) →
                        ((AV.isBool (AV.bin Go.BinOp.geq (AV.nth [(AV.bin Go.BinOp.add (AV.prj r2113 1) (AV.bin Go.BinOp.mul (AV.int 15) (ys2945.getD 0 default))), (AV.bin Go.BinOp.sub (AV.prj r2113 1) (AV.bin Go.BinOp.mul (AV.int 15) (ys2945.getD 0 default)))] 0 [((ys4801.getD 0 default), 1)]) (AV.cel x3 5))) ∧
                        ((isF (AV.bin Go.BinOp.geq (AV.nth [(AV.bin Go.BinOp.add (AV.prj r2113 1) (AV.bin Go.BinOp.mul (AV.int 15) (ys2945.getD 0 default))), (AV.bin Go.BinOp.sub (AV.prj r2113 1) (AV.bin Go.BinOp.mul (AV.int 15) (ys2945.getD 0 default)))] 0 [((ys4801.getD 0 default), 1)]) (AV.cel x3 5))) ∧
                        ((AV.binOk Go.BinOp.add (ys4801.getD 0 default) (AV.int 1)) ∧
                        (again4801 [(AV.bin Go.BinOp.add (ys4801.getD 0 default) (AV.int 1)), (ys4801.getD 1 default)])))))))))) ∧
                    ((isF (AV.bin Go.BinOp.lss (ys4801.getD 0 default) (AV.int 2))) →
                      ((AV.binOk Go.BinOp.mul (AV.int 171) (ys2945.getD 0 default)) ∧
                      ((AV.binOk Go.BinOp.add (AV.prj r2113 0) (AV.bin Go.BinOp.mul (AV.int 171) (ys2945.getD 0 default))) ∧
                      ((AV.binOk Go.BinOp.mul (AV.int 171) (ys2945.getD 0 default)) ∧
                      ((AV.binOk Go.BinOp.sub (AV.prj r2113 0) (AV.bin Go.BinOp.mul (AV.int 171) (ys2945.getD 0 default))) ∧
                      ((AV.isOne (AV.bin Go.BinOp.add (AV.prj r2113 0) (AV.bin Go.BinOp.mul (AV.int 171) (ys2945.getD 0 default)))) ∧
                      ((AV.isOne (AV.bin Go.BinOp.sub (AV.prj r2113 0) (AV.bin Go.BinOp.mul (AV.int 171) (ys2945.getD 0 default)))) ∧
                      (fLoop 5505 [(AV.int 0), (ys4801.getD 1 default)] fun ys5505 again5505 =>
                        ((AV.binOk Go.BinOp.lss (ys5505.getD 0 default) (AV.int 2)) ∧
                        ((AV.isBool (AV.bin Go.BinOp.lss (ys5505.getD 0 default) (AV.int 2))) ∧
                        (((isT (AV.bin Go.BinOp.lss (ys5505.getD 0 default) (AV.int 2))) →
                          ((AV.inl 2 (ys5505.getD 0 default)) ∧
                          ((fEnt Tryz.prog 25) ∧
                          (fAllV fun _ => ((AV.binOk Go.BinOp.rem (AV.nth [(AV.bin Go.BinOp.add (AV.prj r2113 0) (AV.bin Go.BinOp.mul (AV.int 171) (ys2945.getD 0 default))), (AV.bin Go.BinOp.sub (AV.prj r2113 0) (AV.bin Go.BinOp.mul (AV.int 171) (ys2945.getD 0 default)))] 0 [((ys5505.getD 0 default), 1)]) (AV.int 4096)) ∧
                          ((AV.binOk Go.BinOp.add (AV.bin Go.BinOp.rem (AV.nth [(AV.bin Go.BinOp.add (AV.prj r2113 0) (AV.bin Go.BinOp.mul (AV.int 171) (ys2945.getD 0 default))), (AV.bin Go.BinOp.sub (AV.prj r2113 0) (AV.bin Go.BinOp.mul (AV.int 171) (ys2945.getD 0 default)))] 0 [((ys5505.getD 0 default), 1)]) (AV.int 4096)) (AV.int 4096)) ∧
                          ((AV.binOk Go.BinOp.rem (AV.bin Go.BinOp.add (AV.bin Go.BinOp.rem (AV.nth [(AV.bin Go.BinOp.add (AV.prj r2113 0) (AV.bin Go.BinOp.mul (AV.int 171) (ys2945.getD 0 default))), (AV.bin Go.BinOp.sub (AV.prj r2113 0) (AV.bin Go.BinOp.mul (AV.int 171) (ys2945.getD 0 default)))] 0 [((ys5505.getD 0 default), 1)]) (AV.int 4096)) (AV.int 4096)) (AV.int 4096)) ∧
                          ((fEnt Tryz.prog 24) ∧
                          (fAllV fun _ => ((AV.isOne x0) ∧
                          ((AV.isOne (AV.bin Go.BinOp.rem (AV.bin Go.BinOp.add (AV.bin Go.BinOp.rem (AV.nth [(AV.bin Go.BinOp.add (AV.prj r2113 0) (AV.bin Go.BinOp.mul (AV.int 171) (ys2945.getD 0 default))), (AV.bin Go.BinOp.sub (AV.prj r2113 0) (AV.bin Go.BinOp.mul (AV.int 171) (ys2945.getD 0 default)))] 0 [((ys5505.getD 0 default), 1)]) (AV.int 4096)) (AV.int 4096)) (AV.int 4096))) ∧
                          ((AV.room (ys5505.getD 1 default) (AV.mk 4 [[x0, (AV.int 1), (AV.bin Go.BinOp.rem (AV.bin Go.BinOp.add (AV.bin Go.BinOp.rem (AV.nth [(AV.bin Go.BinOp.add (AV.prj r2113 0) (AV.bin Go.BinOp.mul (AV.int 171) (ys2945.getD 0 default))), (AV.bin Go.BinOp.sub (AV.prj r2113 0) (AV.bin Go.BinOp.mul (AV.int 171) (ys2945.getD 0 default)))] 0 [((ys5505.getD 0 default), 1)]) (AV.int 4096)) (AV.int 4096)) (AV.int 4096)), (AV.lit (Value.string ⟨#[]⟩))]]) 48) ∧
                          ((AV.binOk Go.BinOp.add (ys5505.getD 0 default) (AV.int 1)) ∧
                          (again5505 [(AV.bin Go.BinOp.add (ys5505.getD 0 default) (AV.int 1)), (AV.app 4 (ys5505.getD 1 default) (AV.mk 4 [[x0, (AV.int 1), (AV.bin Go.BinOp.rem (AV.bin Go.BinOp.add (AV.bin Go.BinOp.rem (AV.nth [(AV.bin Go.BinOp.add (AV.prj r2113 0) (AV.bin Go.BinOp.mul (AV.int 171) (ys2945.getD 0 default))), (AV.bin Go.BinOp.sub (AV.prj r2113 0) (AV.bin Go.BinOp.mul (AV.int 171) (ys2945.getD 0 default)))] 0 [((ys5505.getD 0 default), 1)]) (AV.int 4096)) (AV.int 4096)) (AV.int 4096)), (AV.lit (Value.string ⟨#[]⟩))]]))])))))))))))))) ∧
                        ((isF (AV.bin Go.BinOp.lss (ys5505.getD 0 default) (AV.int 2))) →
                          ((AV.binOk Go.BinOp.add (ys2945.getD 0 default) (AV.int 1)) ∧
                          (again2945 [(AV.bin Go.BinOp.add (ys2945.getD 0 default) (AV.int 1)), (ys5505.getD 1 default)])))))))))))))))))))))))))))))))))))))))) ∧
          ((isF (AV.bin Go.BinOp.leq (ys2945.getD 0 default) (AV.int 3))) →
            ((AV.flatS (ys2945.getD 1 default)) ∧
            ((AV.flat (AV.int 0)) ∧
            (fSame (AV.tup [(ys2945.getD 1 default), (AV.int 0)]) r))))))))))))))))))))))))))))))))))))))) := by kernel_rfl
theorem best_form (x0 x1 x2 x3 x4 x5 r : AV) : fnF Tryz.prog Γ ann 3 13 Tryz.f13 (Tryz.f13.body.getD .skip) (.nil) [x0, x1, x2, x3, x4, x5] (.tup [.sc, .row 58 6 true, .sc]) r = (((AV.isAgg x2 2) ∧
((AV.isAgg x5 7) ∧
(∃ r705 : AV, ((Fn Tryz.prog 15 [x0, x1, (AV.agg [(AV.cel x2 0), (AV.cel x2 1)])] Sh.sc r705) ∧
((AV.binOk Go.BinOp.neq r705 (AV.int 0)) ∧
((AV.isBool (AV.bin Go.BinOp.neq r705 (AV.int 0))) ∧
(((isT (AV.bin Go.BinOp.neq r705 (AV.int 0))) →
  ((AV.flat (AV.agg [(AV.lit (Value.string ⟨#[]⟩)), (AV.int 0), (AV.int 0), (AV.lit (Value.string ⟨#[]⟩))])) ∧
  ((AV.flatS (AV.mk 6 [])) ∧
  ((AV.flat r705) ∧
  (fSame (AV.tup [(AV.agg [(AV.lit (Value.string ⟨#[]⟩)), (AV.int 0), (AV.int 0), (AV.lit (Value.string ⟨#[]⟩))]), (AV.mk 6 []), r705]) r))))) ∧
((isF (AV.bin Go.BinOp.neq r705 (AV.int 0))) →
  ((AV.isSl x0 1) ∧
  ((AV.inb x0 x1) ∧
  (∃ r1409 : AV, ((Fn Tryz.prog 10 [x3, (AV.at x0 x1 0), x4, (AV.agg [(AV.cel x5 0), (AV.cel x5 1), (AV.cel x5 2), (AV.cel x5 3), (AV.cel x5 4), (AV.cel x5 5), (AV.cel x5 6)])] (Sh.tup [(Sh.row 44 4 true), Sh.sc]) r1409) ∧
  ((AV.binOk Go.BinOp.neq (AV.prj r1409 1) (AV.int 0)) ∧
  ((AV.isBool (AV.bin Go.BinOp.neq (AV.prj r1409 1) (AV.int 0))) ∧
  (((isT (AV.bin Go.BinOp.neq (AV.prj r1409 1) (AV.int 0))) →
    ((AV.flat (AV.agg [(AV.lit (Value.string ⟨#[]⟩)), (AV.int 0), (AV.int 0), (AV.lit (Value.string ⟨#[]⟩))])) ∧
    ((AV.flatS (AV.mk 6 [])) ∧
    ((AV.flat (AV.prj r1409 1)) ∧
    (fSame (AV.tup [(AV.agg [(AV.lit (Value.string ⟨#[]⟩)), (AV.int 0), (AV.int 0), (AV.lit (Value.string ⟨#[]⟩))]), (AV.mk 6 []), (AV.prj r1409 1)]) r))))) ∧
  ((isF (AV.bin Go.BinOp.neq (AV.prj r1409 1) (AV.int 0))) →
    ((AV.isSl x0 1) ∧
    ((AV.inb x0 x1) ∧
    (∃ r2369 : AV, ((Fn Tryz.prog 16 [x0, x1, (AV.at x0 x1 0), (AV.agg [(AV.cel x2 0), (AV.cel x2 1)])] Sh.sc r2369) ∧
    ((AV.isBool r2369) ∧
    (((isT r2369) →
      ((AV.flat (AV.agg [(AV.lit (Value.string ⟨#[]⟩)), (AV.int 0), (AV.int 0), (AV.lit (Value.string ⟨#[]⟩))])) ∧
      ((AV.flatS (AV.mk 6 [])) ∧
      ((AV.flat (AV.int 11)) ∧
      (fSame (AV.tup [(AV.agg [(AV.lit (Value.string ⟨#[]⟩)), (AV.int 0), (AV.int 0), (AV.lit (Value.string ⟨#[]⟩))]), (AV.mk 6 []), (AV.int 11)]) r))))) ∧
    ((isF r2369) →
      (fLoop 2625 [(AV.int 0)] fun ys2625 again2625 =>
        ((AV.binOk Go.BinOp.lss (ys2625.getD 0 default) (AV.len (AV.prj r1409 0))) ∧
        ((AV.isBool (AV.bin Go.BinOp.lss (ys2625.getD 0 default) (AV.len (AV.prj r1409 0)))) ∧
        (((isT (AV.bin Go.BinOp.lss (ys2625.getD 0 default) (AV.len (AV.prj r1409 0)))) →
          ((AV.inb (AV.prj r1409 0) (ys2625.getD 0 default)) ∧
          ((AV.inb (AV.prj r1409 0) (ys2625.getD 0 default)) ∧
          ((AV.isAgg (AV.atAgg (AV.prj r1409 0) (ys2625.getD 0 default) 0 4) 4) ∧
          ((AV.isSl x0 1) ∧
          ((AV.inb x0 x1) ∧
          (∃ r3457 : AV, ((Fn Tryz.prog 26 [(AV.at x0 x1 0), (AV.agg [(AV.cel (AV.atAgg (AV.prj r1409 0) (ys2625.getD 0 default) 0 4) 0), (AV.cel (AV.atAgg (AV.prj r1409 0) (ys2625.getD 0 default) 0 4) 1), (AV.cel (AV.atAgg (AV.prj r1409 0) (ys2625.getD 0 default) 0 4) 2), (AV.cel (AV.atAgg (AV.prj r1409 0) (ys2625.getD 0 default) 0 4) 3)]), x4, (AV.agg [(AV.cel x5 0), (AV.cel x5 1), (AV.cel x5 2), (AV.cel x5 3), (AV.cel x5 4), (AV.cel x5 5), (AV.cel x5 6)]), (AV.agg [(AV.int 0), (AV.int 0)])] (Sh.tup [(Sh.row 58 6 true), Sh.sc]) r3457) ∧
          ((AV.binOk Go.BinOp.eql (AV.prj r3457 1) (AV.int 0)) ∧
          ((AV.isBool (AV.bin Go.BinOp.eql (AV.prj r3457 1) (AV.int 0))) ∧
          (((isT (AV.bin Go.BinOp.eql (AV.prj r3457 1) (AV.int 0))) →
            (∃ r4289 : AV, ((Fn Tryz.prog 16 [x0, x1, (AV.prj r3457 0), (AV.agg [(AV.cel x2 0), (AV.cel x2 1)])] Sh.sc r4289) ∧
            ((AV.isBool (AV.bin Go.BinOp.eql (AV.prj r3457 1) (AV.int 0))) ∧
            ((isT (AV.bin Go.BinOp.eql (AV.prj r3457 1) (AV.int 0))) ∧
            ((AV.isBool r4289) ∧
            (((isT r4289) →
              ((AV.flat (AV.agg [(AV.cel (AV.atAgg (AV.prj r1409 0) (ys2625.getD 0 default) 0 4) 0), (AV.cel (AV.atAgg (AV.prj r1409 0) (ys2625.getD 0 default) 0 4) 1), (AV.cel (AV.atAgg (AV.prj r1409 0) (ys2625.getD 0 default) 0 4) 2), (AV.cel (AV.atAgg (AV.prj r1409 0) (ys2625.getD 0 default) 0 4) 3)])) ∧
              ((AV.flatS (AV.prj r3457 0)) ∧
              ((AV.flat (AV.int 0)) ∧
              (fSame (AV.tup [(AV.agg [(AV.cel (AV.atAgg (AV.prj r1409 0) (ys2625.getD 0 default) 0 4) 0), (AV.cel (AV.atAgg (AV.prj r1409 0) (ys2625.getD 0 default) 0 4) 1), (AV.cel (AV.atAgg (AV.prj r1409 0) (ys2625.getD 0 default) 0 4) 2), (AV.cel (AV.atAgg (AV.prj r1409 0) (ys2625.getD 0 default) 0 4) 3)]), (AV.prj r3457 0), (AV.int 0)]) r))))) ∧
            ((isF r4289) →
              ((AV.binOk Go.BinOp.add (ys2625.getD 0 default) (AV.int 1)) ∧
              (again2625 [(AV.bin Go.BinOp.add (ys2625.getD 0 default) (AV.int 1))])))))))))) ∧
          ((isF (AV.bin Go.BinOp.eql (AV.prj r3457 1) (AV.int 0))) →
            ((AV.isBool (AV.bin Go.BinOp.eql (AV.prj r3457 1) (AV.int 0))) ∧
            ((isF (AV.bin Go.BinOp.eql (AV.prj r3457 1) (AV.int 0))) ∧
            ((AV.binOk Go.BinOp.add (ys2625.getD 0 default) (AV.int 1)) ∧
            (again2625 [(AV.bin Go.BinOp.add (ys2625.getD 0 default) (AV.int 1))])))))))))))))))) ∧
        ((isF (AV.bin Go.BinOp.lss (ys2625.getD 0 default) (AV.len (AV.prj r1409 0)))) →
          ((AV.flat (AV.agg [(AV.lit (Value.string ⟨#[]⟩)), (AV.int 0), (AV.int 0), (AV.lit (Value.string ⟨#[]⟩))])) ∧
          ((AV.flatS (AV.mk 6 [])) ∧
          ((AV.flat (AV.int 8)) ∧
          (fSame (AV.tup [(AV.agg [(AV.lit (Value.string ⟨#[]⟩)), (AV.int 0), (AV.int 0), (AV.lit (Value.string ⟨#[]⟩))]), (AV.mk 6 []), (AV.int 8)]) r))))))))))))))))))))))))))))))))) := by kernel_rfl
theorem terr_form (x0 x1 x2 r : AV) : fnF Tryz.prog Γ ann 3 6 Tryz.f6 (Tryz.f6.body.getD .skip) (.nil) [x0, x1, x2] (.sc) r = (((AV.isAgg x2 2) ∧
(∃ r193 : AV, ((Fn Tryz.prog 17 [(AV.agg [(AV.cel x2 0), (AV.cel x2 1)])] Sh.sc r193) ∧
((AV.binOk Go.BinOp.neq r193 (AV.int 0)) ∧
((AV.isBool (AV.bin Go.BinOp.neq r193 (AV.int 0))) ∧
(((isT (AV.bin Go.BinOp.neq r193 (AV.int 0))) →
  ((AV.flat r193) ∧
  (fSame r193 r))) ∧
((isF (AV.bin Go.BinOp.neq r193 (AV.int 0))) →
  ((AV.isSl x0 1) ∧
  ((AV.binOk Go.BinOp.gtr (AV.len x0) (AV.int 24)) ∧
  ((AV.isBool (AV.bin Go.BinOp.gtr (AV.len x0) (AV.int 24))) ∧
  (((isT (AV.bin Go.BinOp.gtr (AV.len x0) (AV.int 24))) →
    ((AV.flat (AV.int 2)) ∧
    (fSame (AV.int 2) r))) ∧
  ((isF (AV.bin Go.BinOp.gtr (AV.len x0) (AV.int 24))) →
    ((AV.isSl x0 1) ∧
    (fLoop 833 [(AV.int 0)] fun ys833 again833 =>
      ((AV.binOk Go.BinOp.lss (ys833.getD 0 default) (AV.len x0)) ∧
      ((AV.isBool (AV.bin Go.BinOp.lss (ys833.getD 0 default) (AV.len x0))) ∧
      (((isT (AV.bin Go.BinOp.lss (ys833.getD 0 default) (AV.len x0))) →
        ((AV.isSl x0 1) ∧
        ((AV.inb x0 (ys833.getD 0 default)) ∧
        (∃ r1153 : AV, ((Fn Tryz.prog 18 [(AV.at x0 (ys833.getD 0 default) 0)] Sh.sc r1153) ∧
        ((AV.binOk Go.BinOp.neq r1153 (AV.int 0)) ∧
        ((AV.isBool (AV.bin Go.BinOp.neq r1153 (AV.int 0))) ∧
        (((isT (AV.bin Go.BinOp.neq r1153 (AV.int 0))) →
          ((AV.flat r1153) ∧
          (fSame r1153 r))) ∧
        ((isF (AV.bin Go.BinOp.neq r1153 (AV.int 0))) →
          ((AV.binOk Go.BinOp.add (ys833.getD 0 default) (AV.int 1)) ∧
          (again833 [(AV.bin Go.BinOp.add (ys833.getD 0 default) (AV.int 1))]))))))))))) ∧
      ((isF (AV.bin Go.BinOp.lss (ys833.getD 0 default) (AV.len x0))) →
        ((AV.binOk Go.BinOp.lss x1 (AV.int 0)) ∧
        ((AV.isBool (AV.bin Go.BinOp.lss x1 (AV.int 0))) ∧
        (((isT (AV.bin Go.BinOp.lss x1 (AV.int 0))) →
          ((AV.isBool (AV.bin Go.BinOp.lss x1 (AV.int 0))) ∧
          ((isT (AV.bin Go.BinOp.lss x1 (AV.int 0))) ∧
          ((AV.flat (AV.int 4)) ∧
          (fSame (AV.int 4) r))))) ∧
        ((isF (AV.bin Go.BinOp.lss x1 (AV.int 0))) →
          ((AV.isSl x0 1) ∧
          ((AV.binOk Go.BinOp.geq x1 (AV.len x0)) ∧
          ((AV.isBool (AV.bin Go.BinOp.lss x1 (AV.int 0))) ∧
          ((isF (AV.bin Go.BinOp.lss x1 (AV.int 0))) ∧
          ((AV.isBool (AV.bin Go.BinOp.geq x1 (AV.len x0))) ∧
          (((isT (AV.bin Go.BinOp.geq x1 (AV.len x0))) →
            ((AV.flat (AV.int 4)) ∧
            (fSame (AV.int 4) r))) ∧
          ((isF (AV.bin Go.BinOp.geq x1 (AV.len x0))) →
            ((AV.flat (AV.int 0)) ∧
            (fSame (AV.int 0) r)))))))))))))))))))))))))))))))) := by kernel_rfl
theorem clash_form (x0 x1 x2 r : AV) : fnF Tryz.prog Γ ann 3 7 Tryz.f7 (Tryz.f7.body.getD .skip) (.nil) [x0, x1, x2] (.sc) r = (((AV.isAgg x2 2) ∧
(∃ r321 : AV, ((Fn Tryz.prog 19 [x0, x1, (AV.agg [(AV.cel x2 0), (AV.cel x2 1)])] (Sh.tup [Sh.sc, Sh.sc]) r321) ∧
((AV.binOk Go.BinOp.eql (AV.prj r321 1) (AV.int 0)) ∧
((AV.flat (AV.bin Go.BinOp.eql (AV.prj r321 1) (AV.int 0))) ∧
(fSame (AV.bin Go.BinOp.eql (AV.prj r321 1) (AV.int 0)) r))))))) := by kernel_rfl
theorem rfact_form ( r : AV) : fnF Tryz.prog Γ ann 3 4 Tryz.f4 (Tryz.f4.body.getD .skip) ((.t (.t (.t (.t (.t (.t (.t (.t .nil))))))))) [] (.sc) r = ((∃ r65 : AV, ((Fn Tryz.prog 8 [] (Sh.row 58 6 true) r65) ∧
(∃ r129 : AV, ((Fn Tryz.prog 8 [] (Sh.row 58 6 true) r129) ∧
(∃ r321 : AV, ((Fn Tryz.prog 9 [] Sh.sc r321) ∧
((AV.isAgg r321 7) ∧
(∃ r641 : AV, ((Fn Tryz.prog 11 [(AV.int 0)] (Sh.row 58 6 true) r641) ∧
(∃ r769 : AV, ((Fn Tryz.prog 10 [(AV.lit (Value.string ⟨#[65, 49]⟩)), r641, (AV.int 0), (AV.agg [(AV.cel r321 0), (AV.cel r321 1), (AV.cel r321 2), (AV.int 200), (AV.cel r321 4), (AV.cel r321 5), (AV.cel r321 6)])] (Sh.tup [(Sh.row 44 4 true), Sh.sc]) r769) ∧
(∃ r1217 : AV, ((Fn Tryz.prog 12 [] Sh.sc r1217) ∧
(∃ r1281 : AV, ((Fn Tryz.prog 5 [(AV.mk 1 [[r65], [r129]]), (AV.int 0), r1217] (Sh.tup [Sh.sc, Sh.sc]) r1281) ∧
(∃ r1665 : AV, ((Fn Tryz.prog 11 [(AV.int 0)] (Sh.row 58 6 true) r1665) ∧
(∃ r1729 : AV, ((Fn Tryz.prog 11 [(AV.int 100)] (Sh.row 58 6 true) r1729) ∧
(∃ r1857 : AV, ((Fn Tryz.prog 12 [] Sh.sc r1857) ∧
(∃ r1921 : AV, ((Fn Tryz.prog 5 [(AV.mk 1 [[r1665], [r1729]]), (AV.int 0), r1857] (Sh.tup [Sh.sc, Sh.sc]) r1921) ∧
(∃ r2305 : AV, ((Fn Tryz.prog 11 [(AV.int 0)] (Sh.row 58 6 true) r2305) ∧
(∃ r2369 : AV, ((Fn Tryz.prog 11 [(AV.int 100)] (Sh.row 58 6 true) r2369) ∧
(∃ r2497 : AV, ((Fn Tryz.prog 12 [] Sh.sc r2497) ∧
(∃ r2625 : AV, ((Fn Tryz.prog 13 [(AV.mk 1 [[r2305], [r2369]]), (AV.int 0), r2497, (AV.lit (Value.string ⟨#[65, 49]⟩)), (AV.int 0), (AV.agg [(AV.cel r321 0), (AV.cel r321 1), (AV.cel r321 2), (AV.int 200), (AV.cel r321 4), (AV.cel r321 5), (AV.cel r321 6)])] (Sh.tup [Sh.sc, (Sh.row 58 6 true), Sh.sc]) r2625) ∧
((AV.isAgg (AV.prj r2625 0) 4) ∧
((AV.binOk Go.BinOp.eql (AV.prj r769 1) (AV.int 0)) ∧
((AV.isBool (AV.bin Go.BinOp.eql (AV.prj r769 1) (AV.int 0))) ∧
((isT (AV.bin Go.BinOp.eql (AV.prj r769 1) (AV.int 0))) ∧
((AV.binOk Go.BinOp.eql (AV.prj r1281 1) (AV.int 0)) ∧
((AV.isBool (AV.bin Go.BinOp.eql (AV.prj r769 1) (AV.int 0))) ∧
((isT (AV.bin Go.BinOp.eql (AV.prj r769 1) (AV.int 0))) ∧
((AV.isBool (AV.bin Go.BinOp.eql (AV.prj r1281 1) (AV.int 0))) ∧
((isT (AV.bin Go.BinOp.eql (AV.prj r1281 1) (AV.int 0))) ∧
((AV.binOk Go.BinOp.eql (AV.prj r1921 1) (AV.int 0)) ∧
((AV.isBool (AV.bin Go.BinOp.eql (AV.prj r1281 1) (AV.int 0))) ∧
((isT (AV.bin Go.BinOp.eql (AV.prj r1281 1) (AV.int 0))) ∧
((AV.isBool (AV.bin Go.BinOp.eql (AV.prj r1921 1) (AV.int 0))) ∧
((isT (AV.bin Go.BinOp.eql (AV.prj r1921 1) (AV.int 0))) ∧
((AV.binOk Go.BinOp.eql (AV.prj r2625 2) (AV.int 11)) ∧
((AV.isBool (AV.bin Go.BinOp.eql (AV.prj r1921 1) (AV.int 0))) ∧
((isT (AV.bin Go.BinOp.eql (AV.prj r1921 1) (AV.int 0))) ∧
((AV.isBool (AV.bin Go.BinOp.eql (AV.prj r2625 2) (AV.int 11))) ∧
((isT (AV.bin Go.BinOp.eql (AV.prj r2625 2) (AV.int 11))) ∧
((AV.unOk Go.UnOp.not (AV.prj r1281 0)) ∧
((AV.isBool (AV.bin Go.BinOp.eql (AV.prj r2625 2) (AV.int 11))) ∧
((isT (AV.bin Go.BinOp.eql (AV.prj r2625 2) (AV.int 11))) ∧
((AV.isBool (AV.un Go.UnOp.not (AV.prj r1281 0))) ∧
((isT (AV.un Go.UnOp.not (AV.prj r1281 0))) ∧
((AV.isBool (AV.un Go.UnOp.not (AV.prj r1281 0))) ∧
((isT (AV.un Go.UnOp.not (AV.prj r1281 0))) ∧
((AV.isBool (AV.prj r1921 0)) ∧
((isT (AV.prj r1921 0)) ∧
((AV.binOk Go.BinOp.eql (AV.len (AV.prj r769 0)) (AV.int 3)) ∧
((AV.isBool (AV.prj r1921 0)) ∧
((isT (AV.prj r1921 0)) ∧
((AV.isBool (AV.bin Go.BinOp.eql (AV.len (AV.prj r769 0)) (AV.int 3))) ∧
((isT (AV.bin Go.BinOp.eql (AV.len (AV.prj r769 0)) (AV.int 3))) ∧
((AV.inb (AV.prj r769 0) (AV.int 0)) ∧
((AV.inb (AV.prj r769 0) (AV.int 0)) ∧
(∃ r5121 : AV, ((Fn Tryz.prog 14 [(AV.int 1000)] Sh.sc r5121) ∧
((AV.eqPlOk [(0, EK.str), (1, (EK.int Go.IntKind.i64)), (2, (EK.int Go.IntKind.i64)), (3, EK.str)] [(AV.cel (AV.atAgg (AV.prj r769 0) (AV.int 0) 0 4) 0), (AV.cel (AV.atAgg (AV.prj r769 0) (AV.int 0) 0 4) 1), (AV.cel (AV.atAgg (AV.prj r769 0) (AV.int 0) 0 4) 2), (AV.cel (AV.atAgg (AV.prj r769 0) (AV.int 0) 0 4) 3)] [(AV.cel r5121 0), (AV.cel r5121 1), (AV.cel r5121 2), (AV.cel r5121 3)]) ∧
((AV.isAgg (AV.atAgg (AV.prj r769 0) (AV.int 0) 0 4) 4) ∧
((AV.isAgg r5121 4) ∧
((AV.isBool (AV.bin Go.BinOp.eql (AV.len (AV.prj r769 0)) (AV.int 3))) ∧
((isT (AV.bin Go.BinOp.eql (AV.len (AV.prj r769 0)) (AV.int 3))) ∧
((AV.isBool (AV.eqPl [(0, EK.str), (1, (EK.int Go.IntKind.i64)), (2, (EK.int Go.IntKind.i64)), (3, EK.str)] [(AV.cel (AV.atAgg (AV.prj r769 0) (AV.int 0) 0 4) 0), (AV.cel (AV.atAgg (AV.prj r769 0) (AV.int 0) 0 4) 1), (AV.cel (AV.atAgg (AV.prj r769 0) (AV.int 0) 0 4) 2), (AV.cel (AV.atAgg (AV.prj r769 0) (AV.int 0) 0 4) 3)] [(AV.cel r5121 0), (AV.cel r5121 1), (AV.cel r5121 2), (AV.cel r5121 3)])) ∧
((isT (AV.eqPl [(0, EK.str), (1, (EK.int Go.IntKind.i64)), (2, (EK.int Go.IntKind.i64)), (3, EK.str)] [(AV.cel (AV.atAgg (AV.prj r769 0) (AV.int 0) 0 4) 0), (AV.cel (AV.atAgg (AV.prj r769 0) (AV.int 0) 0 4) 1), (AV.cel (AV.atAgg (AV.prj r769 0) (AV.int 0) 0 4) 2), (AV.cel (AV.atAgg (AV.prj r769 0) (AV.int 0) 0 4) 3)] [(AV.cel r5121 0), (AV.cel r5121 1), (AV.cel r5121 2), (AV.cel r5121 3)])) ∧
((AV.inb (AV.prj r769 0) (AV.int 2)) ∧
((AV.inb (AV.prj r769 0) (AV.int 2)) ∧
(∃ r5569 : AV, ((Fn Tryz.prog 14 [(AV.int 3000)] Sh.sc r5569) ∧
((AV.eqPlOk [(0, EK.str), (1, (EK.int Go.IntKind.i64)), (2, (EK.int Go.IntKind.i64)), (3, EK.str)] [(AV.cel (AV.atAgg (AV.prj r769 0) (AV.int 2) 0 4) 0), (AV.cel (AV.atAgg (AV.prj r769 0) (AV.int 2) 0 4) 1), (AV.cel (AV.atAgg (AV.prj r769 0) (AV.int 2) 0 4) 2), (AV.cel (AV.atAgg (AV.prj r769 0) (AV.int 2) 0 4) 3)] [(AV.cel r5569 0), (AV.cel r5569 1), (AV.cel r5569 2), (AV.cel r5569 3)]) ∧
((AV.isAgg (AV.atAgg (AV.prj r769 0) (AV.int 2) 0 4) 4) ∧
((AV.isAgg r5569 4) ∧
((AV.isBool (AV.eqPl [(0, EK.str), (1, (EK.int Go.IntKind.i64)), (2, (EK.int Go.IntKind.i64)), (3, EK.str)] [(AV.cel (AV.atAgg (AV.prj r769 0) (AV.int 0) 0 4) 0), (AV.cel (AV.atAgg (AV.prj r769 0) (AV.int 0) 0 4) 1), (AV.cel (AV.atAgg (AV.prj r769 0) (AV.int 0) 0 4) 2), (AV.cel (AV.atAgg (AV.prj r769 0) (AV.int 0) 0 4) 3)] [(AV.cel r5121 0), (AV.cel r5121 1), (AV.cel r5121 2), (AV.cel r5121 3)])) ∧
((isT (AV.eqPl [(0, EK.str), (1, (EK.int Go.IntKind.i64)), (2, (EK.int Go.IntKind.i64)), (3, EK.str)] [(AV.cel (AV.atAgg (AV.prj r769 0) (AV.int 0) 0 4) 0), (AV.cel (AV.atAgg (AV.prj r769 0) (AV.int 0) 0 4) 1), (AV.cel (AV.atAgg (AV.prj r769 0) (AV.int 0) 0 4) 2), (AV.cel (AV.atAgg (AV.prj r769 0) (AV.int 0) 0 4) 3)] [(AV.cel r5121 0), (AV.cel r5121 1), (AV.cel r5121 2), (AV.cel r5121 3)])) ∧
((AV.flat (AV.eqPl [(0, EK.str), (1, (EK.int Go.IntKind.i64)), (2, (EK.int Go.IntKind.i64)), (3, EK.str)] [(AV.cel (AV.atAgg (AV.prj r769 0) (AV.int 2) 0 4) 0), (AV.cel (AV.atAgg (AV.prj r769 0) (AV.int 2) 0 4) 1), (AV.cel (AV.atAgg (AV.prj r769 0) (AV.int 2) 0 4) 2), (AV.cel (AV.atAgg (AV.prj r769 0) (AV.int 2) 0 4) 3)] [(AV.cel r5569 0), (AV.cel r5569 1), (AV.cel r5569 2), (AV.cel r5569 3)])) ∧
(fSame (AV.eqPl [(0, EK.str), (1, (EK.int Go.IntKind.i64)), (2, (EK.int Go.IntKind.i64)), (3, EK.str)] [(AV.cel (AV.atAgg (AV.prj r769 0) (AV.int 2) 0 4) 0), (AV.cel (AV.atAgg (AV.prj r769 0) (AV.int 2) 0 4) 1), (AV.cel (AV.atAgg (AV.prj r769 0) (AV.int 2) 0 4) 2), (AV.cel (AV.atAgg (AV.prj r769 0) (AV.int 2) 0 4) 3)] [(AV.cel r5569 0), (AV.cel r5569 1), (AV.cel r5569 2), (AV.cel r5569 3)]) r))))))))))))))))))))))))))))))))))))))))))))))))))))))))))))))))))))))))))))))))))))))) := by kernel_rfl
theorem lfrees_form (x0 x1 x2 r : AV) : fnF Tryz.prog Γ ann 3 3 Tryz.f3 (Tryz.f3.body.getD .skip) ((.f (.both .nil (.both (.t .nil) (.both .nil (.t .nil)))))) [x0, x1, x2] (.sc) r = (((AV.isAgg x2 2) ∧
(∃ r129 : AV, ((Fn Tryz.prog 4 [] Sh.sc r129) ∧
((AV.unOk Go.UnOp.not r129) ∧
((AV.isBool (AV.un Go.UnOp.not r129)) ∧
((isF (AV.un Go.UnOp.not r129)) ∧
((AV.isSl x0 1) ∧
((AV.binOk Go.BinOp.gtr (AV.len x0) (AV.int 6)) ∧
((AV.isBool (AV.bin Go.BinOp.gtr (AV.len x0) (AV.int 6))) ∧
(((isT (AV.bin Go.BinOp.gtr (AV.len x0) (AV.int 6))) →
  ((AV.flat (AV.bool true)) ∧
  (fSame (AV.bool true) r))) ∧
((isF (AV.bin Go.BinOp.gtr (AV.len x0) (AV.int 6))) →
  (∃ r641 : AV, ((Fn Tryz.prog 5 [x0, x1, (AV.agg [(AV.cel x2 0), (AV.cel x2 1)])] (Sh.tup [Sh.sc, Sh.sc]) r641) ∧
  (∃ r1217 : AV, ((Fn Tryz.prog 6 [x0, x1, (AV.agg [(AV.cel x2 0), (AV.cel x2 1)])] Sh.sc r1217) ∧
  ((AV.binOk Go.BinOp.neq r1217 (AV.int 0)) ∧
  ((AV.isBool (AV.bin Go.BinOp.neq r1217 (AV.int 0))) ∧
  (((isT (AV.bin Go.BinOp.neq r1217 (AV.int 0))) →
    ((AV.binOk Go.BinOp.eql (AV.prj r641 1) r1217) ∧
    ((AV.isBool (AV.bin Go.BinOp.eql (AV.prj r641 1) r1217)) ∧
    ((isT (AV.bin Go.BinOp.eql (AV.prj r641 1) r1217)) ∧
    ((AV.unOk Go.UnOp.not (AV.prj r641 0)) ∧
    ((AV.isBool (AV.bin Go.BinOp.eql (AV.prj r641 1) r1217)) ∧
    ((isT (AV.bin Go.BinOp.eql (AV.prj r641 1) r1217)) ∧
    ((AV.flat (AV.un Go.UnOp.not (AV.prj r641 0))) ∧
    (fSame (AV.un Go.UnOp.not (AV.prj r641 0)) r))))))))) ∧
  ((isF (AV.bin Go.BinOp.neq r1217 (AV.int 0))) →
    ((AV.isSl x0 1) ∧
    (fLoop 1729 [(AV.bool false), (AV.int 0)] fun ys1729 again1729 =>
      ((AV.binOk Go.BinOp.lss (ys1729.getD 1 default) (AV.len x0)) ∧
      ((AV.isBool (AV.bin Go.BinOp.lss (ys1729.getD 1 default) (AV.len x0))) ∧
      (((isT (AV.bin Go.BinOp.lss (ys1729.getD 1 default) (AV.len x0))) →
        ((AV.isBool (ys1729.getD 0 default)) ∧
        (((isT (ys1729.getD 0 default)) →
          ((AV.isBool (ys1729.getD 0 default)) ∧
          ((isT (ys1729.getD 0 default)) ∧
          ((AV.binOk Go.BinOp.add (ys1729.getD 1 default) (AV.int 1)) ∧
          (again1729 [(AV.bool true), (AV.bin Go.BinOp.add (ys1729.getD 1 default) (AV.int 1))]))))) ∧
        ((isF (ys1729.getD 0 default)) →
          ((AV.binOk Go.BinOp.neq (ys1729.getD 1 default) x1) ∧
          ((AV.isBool (AV.bin Go.BinOp.neq (ys1729.getD 1 default) x1)) ∧
          (((isT (AV.bin Go.BinOp.neq (ys1729.getD 1 default) x1)) →
            ((AV.isSl x0 1) ∧
            ((AV.inb x0 x1) ∧
            ((AV.isSl x0 1) ∧
            ((AV.inb x0 (ys1729.getD 1 default)) ∧
            (∃ r2881 : AV, ((Fn Tryz.prog 7 [(AV.at x0 x1 0), (AV.at x0 (ys1729.getD 1 default) 0), (AV.agg [(AV.cel x2 0), (AV.cel x2 1)])] Sh.sc r2881) ∧
            ((AV.isBool (AV.bin Go.BinOp.neq (ys1729.getD 1 default) x1)) ∧
            ((isT (AV.bin Go.BinOp.neq (ys1729.getD 1 default) x1)) ∧
            ((AV.isBool (ys1729.getD 0 default)) ∧
            ((isF (ys1729.getD 0 default)) ∧
            ((AV.binOk Go.BinOp.add (ys1729.getD 1 default) (AV.int 1)) ∧
            (again1729 [r2881, (AV.bin Go.BinOp.add (ys1729.getD 1 default) (AV.int 1))]))))))))))))) ∧
          ((isF (AV.bin Go.BinOp.neq (ys1729.getD 1 default) x1)) →
            ((AV.isBool (AV.bin Go.BinOp.neq (ys1729.getD 1 default) x1)) ∧
            ((isF (AV.bin Go.BinOp.neq (ys1729.getD 1 default) x1)) ∧
            ((AV.isBool (ys1729.getD 0 default)) ∧
            ((isF (ys1729.getD 0 default)) ∧
            ((AV.binOk Go.BinOp.add (ys1729.getD 1 default) (AV.int 1)) ∧
            (again1729 [(AV.bool false), (AV.bin Go.BinOp.add (ys1729.getD 1 default) (AV.int 1))])))))))))))))) ∧
      ((isF (AV.bin Go.BinOp.lss (ys1729.getD 1 default) (AV.len x0))) →
        ((AV.binOk Go.BinOp.eql (AV.prj r641 1) (AV.int 0)) ∧
        ((AV.isBool (AV.bin Go.BinOp.eql (AV.prj r641 1) (AV.int 0))) ∧
        ((isT (AV.bin Go.BinOp.eql (AV.prj r641 1) (AV.int 0))) ∧
        ((AV.unOk Go.UnOp.not (ys1729.getD 0 default)) ∧
        ((AV.isBool (AV.prj r641 0)) ∧
        ((AV.isBool (AV.un Go.UnOp.not (ys1729.getD 0 default))) ∧
        ((AV.isBool (AV.bin Go.BinOp.eql (AV.prj r641 1) (AV.int 0))) ∧
        ((isT (AV.bin Go.BinOp.eql (AV.prj r641 1) (AV.int 0))) ∧
        ((AV.flat (AV.eqB (AV.prj r641 0) (AV.un Go.UnOp.not (ys1729.getD 0 default)))) ∧
        (fSame (AV.eqB (AV.prj r641 0) (AV.un Go.UnOp.not (ys1729.getD 0 default))) r)))))))))))))))))))))))))))))))))))) := by kernel_rfl
end ResF
end Go.Proofs.YtocgoabplafoeaaGreatDoor
