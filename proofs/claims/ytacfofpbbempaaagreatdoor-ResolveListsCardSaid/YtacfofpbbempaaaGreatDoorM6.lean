/- Texts of one proof, part 6: plain values, a run over them, contracts of functions. -/
import Derived.Test.YtacfofpbbempaaaGreatDoorM4
import Derived.Test.YtacfofpbbempaaaGreatDoorM5
/- resolve: what the run ends in. -/
namespace Go.Proofs.YtacfofpbbempaaaGreatDoor
open Go.RowKit
set_option linter.unusedVariables false
set_option maxRecDepth 100000
namespace ResF
--GAMMA
def Γ : FuncId → Option Ca := fun f =>
  if f = 6 ∨ f = 25 ∨ f = 21 ∨ f = 7 ∨ f = 27 ∨ f = 40 ∨ f = 15 ∨ f = 20 ∨ f = 18 ∨ f = 56 ∨ f = 104 ∨ f = 37 ∨ f = 38 ∨ f = 4 ∨ f = 36 ∨ f = 35 ∨ f = 41 then some (.fn .sc)
  else if f = 9 ∨ f = 47 ∨ f = 48 ∨ f = 11 ∨ f = 103 ∨ f = 57 ∨ f = 17 ∨ f = 10 then some (.fn (.tup [.sc, .sc]))
  else if f = 14 ∨ f = 16 then some (.fn (.row 38 6 true))
  else if f = 91 then some (.fn (.row 115 2 true))
  else if f = 75 then some (.fn (.tup [.row 115 2 true, .sc]))
  else if f = 5 then some (.fn (.tup [.row 41 4 true, .sc]))
  else if f = 22 then some (.fn (.tup [.sc, .sc, .sc]))
  else if f = 39 then some (.fn (.tup [.row 38 6 true, .sc]))
  else if f = 19 then some (.fn (.tup [.sc, .row 38 6 true, .sc]))
  else if f = 31 ∨ f = 32 ∨ f = 33 ∨ f = 34 then none
  else some .inl
def ann : FuncId → Nat → LoopEx := fun f r => if f = 5 ∧ r < 400000 then ⟨[], [2881], [], [(2625, 0, 41, 4)]⟩ else ⟨[], [], [], []⟩
--END GAMMA
theorem acheck_form (x0 r : AV) : fnF Tryz.prog Γ ann 3 7 Tryz.f7 (Tryz.f7.body.getD .skip) (.nil) [x0] (.sc) r = (((AV.isAgg x0 7) ∧
(∃ r321 : AV, ((Fn Tryz.prog 27 [(AV.cel x0 0)] Sh.sc r321) ∧
((AV.unOk Go.UnOp.not r321) ∧
((AV.isBool (AV.un Go.UnOp.not r321)) ∧
(((isT (AV.un Go.UnOp.not r321)) →
  ((AV.flat (AV.int 5)) ∧
  (fSame (AV.int 5) r))) ∧
((isF (AV.un Go.UnOp.not r321)) →
  ((AV.binOk Go.BinOp.lss (AV.cel x0 1) (AV.int 0)) ∧
  ((AV.isBool (AV.bin Go.BinOp.lss (AV.cel x0 1) (AV.int 0))) ∧
  (((isT (AV.bin Go.BinOp.lss (AV.cel x0 1) (AV.int 0))) →
    ((AV.isBool (AV.bin Go.BinOp.lss (AV.cel x0 1) (AV.int 0))) ∧
    ((isT (AV.bin Go.BinOp.lss (AV.cel x0 1) (AV.int 0))) ∧
    ((AV.flat (AV.int 1)) ∧
    (fSame (AV.int 1) r))))) ∧
  ((isF (AV.bin Go.BinOp.lss (AV.cel x0 1) (AV.int 0))) →
    ((AV.binOk Go.BinOp.gtr (AV.cel x0 1) (AV.int 3)) ∧
    ((AV.isBool (AV.bin Go.BinOp.lss (AV.cel x0 1) (AV.int 0))) ∧
    ((isF (AV.bin Go.BinOp.lss (AV.cel x0 1) (AV.int 0))) ∧
    ((AV.isBool (AV.bin Go.BinOp.gtr (AV.cel x0 1) (AV.int 3))) ∧
    (((isT (AV.bin Go.BinOp.gtr (AV.cel x0 1) (AV.int 3))) →
      ((AV.flat (AV.int 1)) ∧
      (fSame (AV.int 1) r))) ∧
    ((isF (AV.bin Go.BinOp.gtr (AV.cel x0 1) (AV.int 3))) →
      ((fEnt Tryz.prog 26) ∧
      (fAllV fun _ => ((AV.binOk Go.BinOp.lss (AV.cel x0 2) (AV.int 1)) ∧
      ((AV.isBool (AV.bin Go.BinOp.lss (AV.cel x0 2) (AV.int 1))) ∧
      (((isT (AV.bin Go.BinOp.lss (AV.cel x0 2) (AV.int 1))) →
        ((AV.isBool (AV.bin Go.BinOp.lss (AV.cel x0 2) (AV.int 1))) ∧
        ((isT (AV.bin Go.BinOp.lss (AV.cel x0 2) (AV.int 1))) ∧
        ((AV.flat (AV.int 4)) ∧
        (fSame (AV.int 4) r))))) ∧
      ((isF (AV.bin Go.BinOp.lss (AV.cel x0 2) (AV.int 1))) →
        ((AV.binOk Go.BinOp.gtr (AV.cel x0 2) (AV.int 60000)) ∧
        ((AV.isBool (AV.bin Go.BinOp.lss (AV.cel x0 2) (AV.int 1))) ∧
        ((isF (AV.bin Go.BinOp.lss (AV.cel x0 2) (AV.int 1))) ∧
        ((AV.isBool (AV.bin Go.BinOp.gtr (AV.cel x0 2) (AV.int 60000))) ∧
        (((isT (AV.bin Go.BinOp.gtr (AV.cel x0 2) (AV.int 60000))) →
          ((AV.isBool (AV.bin Go.BinOp.gtr (AV.cel x0 2) (AV.int 60000))) ∧
          ((isT (AV.bin Go.BinOp.gtr (AV.cel x0 2) (AV.int 60000))) ∧
          ((AV.flat (AV.int 4)) ∧
          (fSame (AV.int 4) r))))) ∧
        ((isF (AV.bin Go.BinOp.gtr (AV.cel x0 2) (AV.int 60000))) →
          ((fEnt Tryz.prog 26) ∧
          (fAllV fun _ => ((AV.binOk Go.BinOp.lss (AV.cel x0 3) (AV.int 1)) ∧
          ((AV.isBool (AV.bin Go.BinOp.lss (AV.cel x0 3) (AV.int 1))) ∧
          (((isT (AV.bin Go.BinOp.lss (AV.cel x0 3) (AV.int 1))) →
            ((AV.isBool (AV.bin Go.BinOp.lss (AV.cel x0 3) (AV.int 1))) ∧
            ((isT (AV.bin Go.BinOp.lss (AV.cel x0 3) (AV.int 1))) ∧
            ((AV.isBool (AV.bin Go.BinOp.gtr (AV.cel x0 2) (AV.int 60000))) ∧
            ((isF (AV.bin Go.BinOp.gtr (AV.cel x0 2) (AV.int 60000))) ∧
            ((AV.flat (AV.int 4)) ∧
            (fSame (AV.int 4) r))))))) ∧
          ((isF (AV.bin Go.BinOp.lss (AV.cel x0 3) (AV.int 1))) →
            ((AV.binOk Go.BinOp.gtr (AV.cel x0 3) (AV.int 200)) ∧
            ((AV.isBool (AV.bin Go.BinOp.lss (AV.cel x0 3) (AV.int 1))) ∧
            ((isF (AV.bin Go.BinOp.lss (AV.cel x0 3) (AV.int 1))) ∧
            ((AV.isBool (AV.bin Go.BinOp.gtr (AV.cel x0 2) (AV.int 60000))) ∧
            ((isF (AV.bin Go.BinOp.gtr (AV.cel x0 2) (AV.int 60000))) ∧
            ((AV.isBool (AV.bin Go.BinOp.gtr (AV.cel x0 3) (AV.int 200))) ∧
            (((isT (AV.bin Go.BinOp.gtr (AV.cel x0 3) (AV.int 200))) →
              ((AV.isBool (AV.bin Go.BinOp.gtr (AV.cel x0 3) (AV.int 200))) ∧
              ((isT (AV.bin Go.BinOp.gtr (AV.cel x0 3) (AV.int 200))) ∧
              ((AV.flat (AV.int 4)) ∧
              (fSame (AV.int 4) r))))) ∧
            ((isF (AV.bin Go.BinOp.gtr (AV.cel x0 3) (AV.int 200))) →
              ((fEnt Tryz.prog 26) ∧
              (fAllV fun _ => ((AV.binOk Go.BinOp.lss (AV.cel x0 4) (AV.int 1)) ∧
              ((AV.isBool (AV.bin Go.BinOp.lss (AV.cel x0 4) (AV.int 1))) ∧
              (((isT (AV.bin Go.BinOp.lss (AV.cel x0 4) (AV.int 1))) →
                ((AV.isBool (AV.bin Go.BinOp.lss (AV.cel x0 4) (AV.int 1))) ∧
                ((isT (AV.bin Go.BinOp.lss (AV.cel x0 4) (AV.int 1))) ∧
                ((AV.isBool (AV.bin Go.BinOp.gtr (AV.cel x0 3) (AV.int 200))) ∧
                ((isF (AV.bin Go.BinOp.gtr (AV.cel x0 3) (AV.int 200))) ∧
                ((AV.flat (AV.int 4)) ∧
                (fSame (AV.int 4) r))))))) ∧
              ((isF (AV.bin Go.BinOp.lss (AV.cel x0 4) (AV.int 1))) →
                ((AV.binOk Go.BinOp.gtr (AV.cel x0 4) (AV.int 200)) ∧
                ((AV.isBool (AV.bin Go.BinOp.lss (AV.cel x0 4) (AV.int 1))) ∧
                ((isF (AV.bin Go.BinOp.lss (AV.cel x0 4) (AV.int 1))) ∧
                ((AV.isBool (AV.bin Go.BinOp.gtr (AV.cel x0 3) (AV.int 200))) ∧
                ((isF (AV.bin Go.BinOp.gtr (AV.cel x0 3) (AV.int 200))) ∧
                ((AV.isBool (AV.bin Go.BinOp.gtr (AV.cel x0 4) (AV.int 200))) ∧
                (((isT (AV.bin Go.BinOp.gtr (AV.cel x0 4) (AV.int 200))) →
                  ((AV.isBool (AV.bin Go.BinOp.gtr (AV.cel x0 4) (AV.int 200))) ∧
                  ((isT (AV.bin Go.BinOp.gtr (AV.cel x0 4) (AV.int 200))) ∧
                  ((AV.flat (AV.int 4)) ∧
                  (fSame (AV.int 4) r))))) ∧
                ((isF (AV.bin Go.BinOp.gtr (AV.cel x0 4) (AV.int 200))) →
                  ((fEnt Tryz.prog 26) ∧
                  (fAllV fun _ => ((AV.binOk Go.BinOp.lss (AV.cel x0 5) (AV.int 1)) ∧
                  ((AV.isBool (AV.bin Go.BinOp.lss (AV.cel x0 5) (AV.int 1))) ∧
                  (((isT (AV.bin Go.BinOp.lss (AV.cel x0 5) (AV.int 1))) →
                    ((AV.isBool (AV.bin Go.BinOp.lss (AV.cel x0 5) (AV.int 1))) ∧
                    ((isT (AV.bin Go.BinOp.lss (AV.cel x0 5) (AV.int 1))) ∧
                    ((AV.isBool (AV.bin Go.BinOp.gtr (AV.cel x0 4) (AV.int 200))) ∧
                    ((isF (AV.bin Go.BinOp.gtr (AV.cel x0 4) (AV.int 200))) ∧
                    ((AV.flat (AV.int 4)) ∧
                    (fSame (AV.int 4) r))))))) ∧
                  ((isF (AV.bin Go.BinOp.lss (AV.cel x0 5) (AV.int 1))) →
                    ((AV.binOk Go.BinOp.gtr (AV.cel x0 5) (AV.int 400)) ∧
                    ((AV.isBool (AV.bin Go.BinOp.lss (AV.cel x0 5) (AV.int 1))) ∧
                    ((isF (AV.bin Go.BinOp.lss (AV.cel x0 5) (AV.int 1))) ∧
                    ((AV.isBool (AV.bin Go.BinOp.gtr (AV.cel x0 4) (AV.int 200))) ∧
                    ((isF (AV.bin Go.BinOp.gtr (AV.cel x0 4) (AV.int 200))) ∧
                    ((AV.isBool (AV.bin Go.BinOp.gtr (AV.cel x0 5) (AV.int 400))) ∧
                    (((isT (AV.bin Go.BinOp.gtr (AV.cel x0 5) (AV.int 400))) →
                      ((AV.isBool (AV.bin Go.BinOp.gtr (AV.cel x0 5) (AV.int 400))) ∧
                      ((isT (AV.bin Go.BinOp.gtr (AV.cel x0 5) (AV.int 400))) ∧
                      ((AV.flat (AV.int 4)) ∧
                      (fSame (AV.int 4) r))))) ∧
                    ((isF (AV.bin Go.BinOp.gtr (AV.cel x0 5) (AV.int 400))) →
                      ((fEnt Tryz.prog 26) ∧
                      (fAllV fun _ => ((AV.binOk Go.BinOp.lss (AV.cel x0 6) (AV.int 1)) ∧
                      ((AV.isBool (AV.bin Go.BinOp.lss (AV.cel x0 6) (AV.int 1))) ∧
                      (((isT (AV.bin Go.BinOp.lss (AV.cel x0 6) (AV.int 1))) →
                        ((AV.isBool (AV.bin Go.BinOp.lss (AV.cel x0 6) (AV.int 1))) ∧
                        ((isT (AV.bin Go.BinOp.lss (AV.cel x0 6) (AV.int 1))) ∧
                        ((AV.isBool (AV.bin Go.BinOp.gtr (AV.cel x0 5) (AV.int 400))) ∧
                        ((isF (AV.bin Go.BinOp.gtr (AV.cel x0 5) (AV.int 400))) ∧
                        ((AV.flat (AV.int 4)) ∧
                        (fSame (AV.int 4) r))))))) ∧
                      ((isF (AV.bin Go.BinOp.lss (AV.cel x0 6) (AV.int 1))) →
                        ((AV.binOk Go.BinOp.gtr (AV.cel x0 6) (AV.int 400)) ∧
                        ((AV.isBool (AV.bin Go.BinOp.lss (AV.cel x0 6) (AV.int 1))) ∧
                        ((isF (AV.bin Go.BinOp.lss (AV.cel x0 6) (AV.int 1))) ∧
                        ((AV.isBool (AV.bin Go.BinOp.gtr (AV.cel x0 5) (AV.int 400))) ∧
                        ((isF (AV.bin Go.BinOp.gtr (AV.cel x0 5) (AV.int 400))) ∧
                        ((AV.isBool (AV.bin Go.BinOp.gtr (AV.cel x0 6) (AV.int 400))) ∧
                        (((isT (AV.bin Go.BinOp.gtr (AV.cel x0 6) (AV.int 400))) →
                          ((AV.flat (AV.int 4)) ∧
                          (fSame (AV.int 4) r))) ∧
                        ((isF (AV.bin Go.BinOp.gtr (AV.cel x0 6) (AV.int 400))) →
                          ((AV.binOk Go.BinOp.gtr (AV.cel x0 5) (AV.cel x0 6)) ∧
                          ((AV.isBool (AV.bin Go.BinOp.gtr (AV.cel x0 5) (AV.cel x0 6))) ∧
                          (((isT (AV.bin Go.BinOp.gtr (AV.cel x0 5) (AV.cel x0 6))) →
                            ((AV.flat (AV.int 3)) ∧
                            (fSame (AV.int 3) r))) ∧
                          ((isF (AV.bin Go.BinOp.gtr (AV.cel x0 5) (AV.cel x0 6))) →
                            ((AV.flat (AV.int 0)) ∧
                            (fSame (AV.int 0) r)))))))))))))))))))))))))))))))))))))))))))))))))))))))))))))))))))))))))))))))))))))))))))) := by kernel_rfl
theorem level_form ( r : AV) : fnF Tryz.prog Γ ann 3 14 Tryz.f14 (Tryz.f14.body.getD .skip) (.nil) [] (.row 38 6 true) r = (((AV.flatS (AV.mk 6 [[(AV.int 0), (AV.int 0), (AV.int 0), (AV.int 9000), (AV.int 100), (AV.int 50)], [(AV.int 100), (AV.int 10000), (AV.int 0), (AV.int 9000), (AV.int 100), (AV.int 50)]])) ∧
(fSame (AV.mk 6 [[(AV.int 0), (AV.int 0), (AV.int 0), (AV.int 9000), (AV.int 100), (AV.int 50)], [(AV.int 100), (AV.int 10000), (AV.int 0), (AV.int 9000), (AV.int 100), (AV.int 50)]]) r))) := by kernel_rfl
theorem still_form (x0 r : AV) : fnF Tryz.prog Γ ann 3 16 Tryz.f16 (Tryz.f16.body.getD .skip) (.nil) [x0] (.row 38 6 true) r = (((AV.isOne x0) ∧
((AV.flatS (AV.mk 6 [[(AV.int 0), x0, (AV.int 0), (AV.int 0), (AV.int 0), (AV.int 0)], [(AV.int 10), x0, (AV.int 0), (AV.int 0), (AV.int 0), (AV.int 0)]])) ∧
(fSame (AV.mk 6 [[(AV.int 0), x0, (AV.int 0), (AV.int 0), (AV.int 0), (AV.int 0)], [(AV.int 10), x0, (AV.int 0), (AV.int 0), (AV.int 0), (AV.int 0)]]) r)))) := by kernel_rfl
theorem climbed_form (x0 r : AV) : fnF Tryz.prog Γ ann 3 20 Tryz.f20 (Tryz.f20.body.getD .skip) (.nil) [x0] (.sc) r = (((AV.isOne x0) ∧
((AV.flat (AV.agg [(AV.lit (Value.string ⟨#[65, 49]⟩)), (AV.int 0), x0, (AV.lit (Value.string ⟨#[]⟩))])) ∧
(fSame (AV.agg [(AV.lit (Value.string ⟨#[65, 49]⟩)), (AV.int 0), x0, (AV.lit (Value.string ⟨#[]⟩))]) r)))) := by kernel_rfl
theorem jet_form ( r : AV) : fnF Tryz.prog Γ ann 3 15 Tryz.f15 (Tryz.f15.body.getD .skip) (.nil) [] (.sc) r = (((AV.flat (AV.agg [(AV.lit (Value.string ⟨#[74, 69, 84]⟩)), (AV.int 1), (AV.int 40000), (AV.int 50), (AV.int 40), (AV.int 50), (AV.int 300)])) ∧
(fSame (AV.agg [(AV.lit (Value.string ⟨#[74, 69, 84]⟩)), (AV.int 1), (AV.int 40000), (AV.int 50), (AV.int 40), (AV.int 50), (AV.int 300)]) r))) := by kernel_rfl
theorem near_form ( r : AV) : fnF Tryz.prog Γ ann 3 18 Tryz.f18 (Tryz.f18.body.getD .skip) (.nil) [] (.sc) r = (((AV.flat (AV.agg [(AV.int 100), (AV.int 1000)])) ∧
(fSame (AV.agg [(AV.int 100), (AV.int 1000)]) r))) := by kernel_rfl
theorem root_form (x0 r : AV) : fnF Tryz.prog Γ ann 3 36 Tryz.f36 (Tryz.f36.body.getD .skip) (.nil) [x0] (.sc) r = (((AV.binOk Go.BinOp.leq x0 (AV.int 0)) ∧
((AV.isBool (AV.bin Go.BinOp.leq x0 (AV.int 0))) ∧
(((isT (AV.bin Go.BinOp.leq x0 (AV.int 0))) →
  ((AV.flat (AV.int 0)) ∧
  (fSame (AV.int 0) r))) ∧
((isF (AV.bin Go.BinOp.leq x0 (AV.int 0))) →
  (fLoop 321 [(AV.int 0), (AV.int 3037000499)] fun ys321 again321 =>
    ((AV.binOk Go.BinOp.lss (ys321.getD 0 default) (ys321.getD 1 default)) ∧
    ((AV.isBool (AV.bin Go.BinOp.lss (ys321.getD 0 default) (ys321.getD 1 default))) ∧
    (((isT (AV.bin Go.BinOp.lss (ys321.getD 0 default) (ys321.getD 1 default))) →
      ((AV.binOk Go.BinOp.sub (ys321.getD 1 default) (ys321.getD 0 default)) ∧
      ((AV.binOk Go.BinOp.add (AV.bin Go.BinOp.sub (ys321.getD 1 default) (ys321.getD 0 default)) (AV.int 1)) ∧
      ((AV.binOk Go.BinOp.quo (AV.bin Go.BinOp.add (AV.bin Go.BinOp.sub (ys321.getD 1 default) (ys321.getD 0 default)) (AV.int 1)) (AV.int 2)) ∧
      ((AV.binOk Go.BinOp.add (ys321.getD 0 default) (AV.bin Go.BinOp.quo (AV.bin Go.BinOp.add (AV.bin Go.BinOp.sub (ys321.getD 1 default) (ys321.getD 0 default)) (AV.int 1)) (AV.int 2))) ∧
      ((AV.binOk Go.BinOp.mul (AV.bin Go.BinOp.add (ys321.getD 0 default) (AV.bin Go.BinOp.quo (AV.bin Go.BinOp.add (AV.bin Go.BinOp.sub (ys321.getD 1 default) (ys321.getD 0 default)) (AV.int 1)) (AV.int 2))) (AV.bin Go.BinOp.add (ys321.getD 0 default) (AV.bin Go.BinOp.quo (AV.bin Go.BinOp.add (AV.bin Go.BinOp.sub (ys321.getD 1 default) (ys321.getD 0 default)) (AV.int 1)) (AV.int 2)))) ∧
      ((AV.binOk Go.BinOp.leq (AV.bin Go.BinOp.mul (AV.bin Go.BinOp.add (ys321.getD 0 default) (AV.bin Go.BinOp.quo (AV.bin Go.BinOp.add (AV.bin Go.BinOp.sub (ys321.getD 1 default) (ys321.getD 0 default)) (AV.int 1)) (AV.int 2))) (AV.bin Go.BinOp.add (ys321.getD 0 default) (AV.bin Go.BinOp.quo (AV.bin Go.BinOp.add (AV.bin Go.BinOp.sub (ys321.getD 1 default) (ys321.getD 0 default)) (AV.int 1)) (AV.int 2)))) x0) ∧
      ((AV.isBool (AV.bin Go.BinOp.leq (AV.bin Go.BinOp.mul (AV.bin Go.BinOp.add (ys321.getD 0 default) (AV.bin Go.BinOp.quo (AV.bin Go.BinOp.add (AV.bin Go.BinOp.sub (ys321.getD 1 default) (ys321.getD 0 default)) (AV.int 1)) (AV.int 2))) (AV.bin Go.BinOp.add (ys321.getD 0 default) (AV.bin Go.BinOp.quo (AV.bin Go.BinOp.add (AV.bin Go.BinOp.sub (ys321.getD 1 default) (ys321.getD 0 default)) (AV.int 1)) (AV.int 2)))) x0)) ∧
      (((isT (AV.bin Go.BinOp.leq (AV.bin Go.BinOp.mul (AV.bin Go.BinOp.add (ys321.getD 0 default) (AV.bin Go.BinOp.quo (AV.bin Go.BinOp.add (AV.bin Go.BinOp.sub (ys321.getD 1 default) (ys321.getD 0 default)) (AV.int 1)) (AV.int 2))) (AV.bin Go.BinOp.add (ys321.getD 0 default) (AV.bin Go.BinOp.quo (AV.bin Go.BinOp.add (AV.bin Go.BinOp.sub (ys321.getD 1 default) (ys321.getD 0 default)) (AV.int 1)) (AV.int 2)))) x0)) →
        (again321 [(AV.bin Go.BinOp.add (ys321.getD 0 default) (AV.bin Go.BinOp.quo (AV.bin Go.BinOp.add (AV.bin Go.BinOp.sub (ys321.getD 1 default) (ys321.getD 0 default)) (AV.int 1)) (AV.int 2))), (ys321.getD 1 default)])) ∧
      ((isF (AV.bin Go.BinOp.leq (AV.bin Go.BinOp.mul (AV.bin Go.BinOp.add (ys321.getD 0 default) (AV.bin Go.BinOp.quo (AV.bin Go.BinOp.add (AV.bin Go.BinOp.sub (ys321.getD 1 default) (ys321.getD 0 default)) (AV.int 1)) (AV.int 2))) (AV.bin Go.BinOp.add (ys321.getD 0 default) (AV.bin Go.BinOp.quo (AV.bin Go.BinOp.add (AV.bin Go.BinOp.sub (ys321.getD 1 default) (ys321.getD 0 default)) (AV.int 1)) (AV.int 2)))) x0)) →
        ((AV.binOk Go.BinOp.sub (AV.bin Go.BinOp.add (ys321.getD 0 default) (AV.bin Go.BinOp.quo (AV.bin Go.BinOp.add (AV.bin Go.BinOp.sub (ys321.getD 1 default) (ys321.getD 0 default)) (AV.int 1)) (AV.int 2))) (AV.int 1)) ∧
        (again321 [(ys321.getD 0 default), (AV.bin Go.BinOp.sub (AV.bin Go.BinOp.add (ys321.getD 0 default) (AV.bin Go.BinOp.quo (AV.bin Go.BinOp.add (AV.bin Go.BinOp.sub (ys321.getD 1 default) (ys321.getD 0 default)) (AV.int 1)) (AV.int 2))) (AV.int 1))])))))))))))) ∧
    ((isF (AV.bin Go.BinOp.lss (ys321.getD 0 default) (ys321.getD 1 default))) →
      ((AV.flat (ys321.getD 0 default)) ∧
      (fSame (ys321.getD 0 default) r)))))))))))) := by kernel_rfl
theorem dist_form (x0 x1 r : AV) : fnF Tryz.prog Γ ann 3 11 Tryz.f11 (Tryz.f11.body.getD .skip) (.nil) [x0, x1] (.tup [.sc, .sc]) r = (((AV.isAgg x0 2) ∧
((AV.isAgg x1 2) ∧
(∃ r385 : AV, ((Fn Tryz.prog 35 [(AV.agg [(AV.cel x0 0), (AV.cel x0 1)]), (AV.agg [(AV.cel x1 0), (AV.cel x1 1)])] Sh.sc r385) ∧
(∃ r577 : AV, ((Fn Tryz.prog 36 [r385] Sh.sc r577) ∧
((AV.binOk Go.BinOp.mul r577 r577) ∧
((AV.binOk Go.BinOp.lss (AV.bin Go.BinOp.mul r577 r577) r385) ∧
((AV.isBool (AV.bin Go.BinOp.lss (AV.bin Go.BinOp.mul r577 r577) r385)) ∧
(((isT (AV.bin Go.BinOp.lss (AV.bin Go.BinOp.mul r577 r577) r385)) →
  ((AV.binOk Go.BinOp.add r577 (AV.int 1)) ∧
  ((AV.flat r577) ∧
  ((AV.flat (AV.bin Go.BinOp.add r577 (AV.int 1))) ∧
  (fSame (AV.tup [r577, (AV.bin Go.BinOp.add r577 (AV.int 1))]) r))))) ∧
((isF (AV.bin Go.BinOp.lss (AV.bin Go.BinOp.mul r577 r577) r385)) →
  ((AV.flat r577) ∧
  ((AV.flat r577) ∧
  (fSame (AV.tup [r577, r577]) r))))))))))))))) := by kernel_rfl
theorem csep_form (x0 r : AV) : fnF Tryz.prog Γ ann 3 56 Tryz.f56 (Tryz.f56.body.getD .skip) (.nil) [x0] (.sc) r = (((AV.isAgg x0 2) ∧
((AV.binOk Go.BinOp.lss (AV.cel x0 0) (AV.int 0)) ∧
((AV.isBool (AV.bin Go.BinOp.lss (AV.cel x0 0) (AV.int 0))) ∧
(((isT (AV.bin Go.BinOp.lss (AV.cel x0 0) (AV.int 0))) →
  ((AV.isBool (AV.bin Go.BinOp.lss (AV.cel x0 0) (AV.int 0))) ∧
  ((isT (AV.bin Go.BinOp.lss (AV.cel x0 0) (AV.int 0))) ∧
  ((AV.flat (AV.int 4)) ∧
  (fSame (AV.int 4) r))))) ∧
((isF (AV.bin Go.BinOp.lss (AV.cel x0 0) (AV.int 0))) →
  ((AV.binOk Go.BinOp.gtr (AV.cel x0 0) (AV.int 1000000)) ∧
  ((AV.isBool (AV.bin Go.BinOp.lss (AV.cel x0 0) (AV.int 0))) ∧
  ((isF (AV.bin Go.BinOp.lss (AV.cel x0 0) (AV.int 0))) ∧
  ((AV.isBool (AV.bin Go.BinOp.gtr (AV.cel x0 0) (AV.int 1000000))) ∧
  (((isT (AV.bin Go.BinOp.gtr (AV.cel x0 0) (AV.int 1000000))) →
    ((AV.isBool (AV.bin Go.BinOp.gtr (AV.cel x0 0) (AV.int 1000000))) ∧
    ((isT (AV.bin Go.BinOp.gtr (AV.cel x0 0) (AV.int 1000000))) ∧
    ((AV.flat (AV.int 4)) ∧
    (fSame (AV.int 4) r))))) ∧
  ((isF (AV.bin Go.BinOp.gtr (AV.cel x0 0) (AV.int 1000000))) →
    ((AV.binOk Go.BinOp.lss (AV.cel x0 1) (AV.int 0)) ∧
    ((AV.isBool (AV.bin Go.BinOp.gtr (AV.cel x0 0) (AV.int 1000000))) ∧
    ((isF (AV.bin Go.BinOp.gtr (AV.cel x0 0) (AV.int 1000000))) ∧
    ((AV.isBool (AV.bin Go.BinOp.lss (AV.cel x0 1) (AV.int 0))) ∧
    (((isT (AV.bin Go.BinOp.lss (AV.cel x0 1) (AV.int 0))) →
      ((AV.isBool (AV.bin Go.BinOp.lss (AV.cel x0 1) (AV.int 0))) ∧
      ((isT (AV.bin Go.BinOp.lss (AV.cel x0 1) (AV.int 0))) ∧
      ((AV.flat (AV.int 4)) ∧
      (fSame (AV.int 4) r))))) ∧
    ((isF (AV.bin Go.BinOp.lss (AV.cel x0 1) (AV.int 0))) →
      ((AV.binOk Go.BinOp.gtr (AV.cel x0 1) (AV.int 60000)) ∧
      ((AV.isBool (AV.bin Go.BinOp.lss (AV.cel x0 1) (AV.int 0))) ∧
      ((isF (AV.bin Go.BinOp.lss (AV.cel x0 1) (AV.int 0))) ∧
      ((AV.isBool (AV.bin Go.BinOp.gtr (AV.cel x0 1) (AV.int 60000))) ∧
      (((isT (AV.bin Go.BinOp.gtr (AV.cel x0 1) (AV.int 60000))) →
        ((AV.flat (AV.int 4)) ∧
        (fSame (AV.int 4) r))) ∧
      ((isF (AV.bin Go.BinOp.gtr (AV.cel x0 1) (AV.int 60000))) →
        ((AV.flat (AV.int 0)) ∧
        (fSame (AV.int 0) r)))))))))))))))))))))))))) := by kernel_rfl
theorem sep_form (x0 x1 x2 r : AV) : fnF Tryz.prog Γ ann 3 104 Tryz.f104 (Tryz.f104.body.getD .skip) (.nil) [x0, x1, x2] (.sc) r = (((AV.isAgg x0 6) ∧
((AV.isAgg x1 6) ∧
((AV.isAgg x2 2) ∧
(∃ r641 : AV, ((Fn Tryz.prog 11 [(AV.agg [(AV.cel x0 1), (AV.cel x0 2)]), (AV.agg [(AV.cel x1 1), (AV.cel x1 2)])] (Sh.tup [Sh.sc, Sh.sc]) r641) ∧
((AV.binOk Go.BinOp.sub (AV.prj r641 0) (AV.cel x0 4)) ∧
((AV.binOk Go.BinOp.sub (AV.bin Go.BinOp.sub (AV.prj r641 0) (AV.cel x0 4)) (AV.cel x1 4)) ∧
((AV.binOk Go.BinOp.geq (AV.bin Go.BinOp.sub (AV.bin Go.BinOp.sub (AV.prj r641 0) (AV.cel x0 4)) (AV.cel x1 4)) (AV.cel x2 0)) ∧
((AV.isBool (AV.bin Go.BinOp.geq (AV.bin Go.BinOp.sub (AV.bin Go.BinOp.sub (AV.prj r641 0) (AV.cel x0 4)) (AV.cel x1 4)) (AV.cel x2 0))) ∧
(((isT (AV.bin Go.BinOp.geq (AV.bin Go.BinOp.sub (AV.bin Go.BinOp.sub (AV.prj r641 0) (AV.cel x0 4)) (AV.cel x1 4)) (AV.cel x2 0))) →
  ((AV.isBool (AV.bin Go.BinOp.geq (AV.bin Go.BinOp.sub (AV.bin Go.BinOp.sub (AV.prj r641 0) (AV.cel x0 4)) (AV.cel x1 4)) (AV.cel x2 0))) ∧
  ((isT (AV.bin Go.BinOp.geq (AV.bin Go.BinOp.sub (AV.bin Go.BinOp.sub (AV.prj r641 0) (AV.cel x0 4)) (AV.cel x1 4)) (AV.cel x2 0))) ∧
  ((AV.flat (AV.bool true)) ∧
  (fSame (AV.bool true) r))))) ∧
((isF (AV.bin Go.BinOp.geq (AV.bin Go.BinOp.sub (AV.bin Go.BinOp.sub (AV.prj r641 0) (AV.cel x0 4)) (AV.cel x1 4)) (AV.cel x2 0))) →
  ((AV.binOk Go.BinOp.sub (AV.cel x0 3) (AV.cel x1 3)) ∧
  ((AV.binOk Go.BinOp.sub (AV.cel x1 3) (AV.cel x0 3)) ∧
  ((AV.isInt (AV.bin Go.BinOp.sub (AV.cel x0 3) (AV.cel x1 3))) ∧
  ((AV.isInt (AV.bin Go.BinOp.sub (AV.cel x1 3) (AV.cel x0 3))) ∧
  ((AV.binOk Go.BinOp.sub (AV.mx (AV.bin Go.BinOp.sub (AV.cel x0 3) (AV.cel x1 3)) (AV.bin Go.BinOp.sub (AV.cel x1 3) (AV.cel x0 3))) (AV.cel x0 5)) ∧
  ((AV.binOk Go.BinOp.sub (AV.bin Go.BinOp.sub (AV.mx (AV.bin Go.BinOp.sub (AV.cel x0 3) (AV.cel x1 3)) (AV.bin Go.BinOp.sub (AV.cel x1 3) (AV.cel x0 3))) (AV.cel x0 5)) (AV.cel x1 5)) ∧
  ((AV.binOk Go.BinOp.geq (AV.bin Go.BinOp.sub (AV.bin Go.BinOp.sub (AV.mx (AV.bin Go.BinOp.sub (AV.cel x0 3) (AV.cel x1 3)) (AV.bin Go.BinOp.sub (AV.cel x1 3) (AV.cel x0 3))) (AV.cel x0 5)) (AV.cel x1 5)) (AV.cel x2 1)) ∧
  ((AV.isBool (AV.bin Go.BinOp.geq (AV.bin Go.BinOp.sub (AV.bin Go.BinOp.sub (AV.prj r641 0) (AV.cel x0 4)) (AV.cel x1 4)) (AV.cel x2 0))) ∧
  ((isF (AV.bin Go.BinOp.geq (AV.bin Go.BinOp.sub (AV.bin Go.BinOp.sub (AV.prj r641 0) (AV.cel x0 4)) (AV.cel x1 4)) (AV.cel x2 0))) ∧
  ((AV.flat (AV.bin Go.BinOp.geq (AV.bin Go.BinOp.sub (AV.bin Go.BinOp.sub (AV.mx (AV.bin Go.BinOp.sub (AV.cel x0 3) (AV.cel x1 3)) (AV.bin Go.BinOp.sub (AV.cel x1 3) (AV.cel x0 3))) (AV.cel x0 5)) (AV.cel x1 5)) (AV.cel x2 1))) ∧
  (fSame (AV.bin Go.BinOp.geq (AV.bin Go.BinOp.sub (AV.bin Go.BinOp.sub (AV.mx (AV.bin Go.BinOp.sub (AV.cel x0 3) (AV.cel x1 3)) (AV.bin Go.BinOp.sub (AV.cel x1 3) (AV.cel x0 3))) (AV.cel x0 5)) (AV.cel x1 5)) (AV.cel x2 1)) r))))))))))))))))))))))) := by kernel_rfl
theorem common_form (x0 x1 r : AV) : fnF Tryz.prog Γ ann 3 103 Tryz.f103 (Tryz.f103.body.getD .skip) (.nil) [x0, x1] (.tup [.sc, .sc]) r = (((AV.isSl x0 6) ∧
((AV.inb x0 (AV.int 0)) ∧
((AV.isSl x1 6) ∧
((AV.inb x1 (AV.int 0)) ∧
((AV.isInt (AV.at x0 (AV.int 0) 0)) ∧
((AV.isInt (AV.at x1 (AV.int 0) 0)) ∧
((AV.isSl x0 6) ∧
((AV.binOk Go.BinOp.sub (AV.len x0) (AV.int 1)) ∧
((AV.isSl x0 6) ∧
((AV.inb x0 (AV.bin Go.BinOp.sub (AV.len x0) (AV.int 1))) ∧
((AV.isSl x1 6) ∧
((AV.binOk Go.BinOp.sub (AV.len x1) (AV.int 1)) ∧
((AV.isSl x1 6) ∧
((AV.inb x1 (AV.bin Go.BinOp.sub (AV.len x1) (AV.int 1))) ∧
((AV.isInt (AV.at x0 (AV.bin Go.BinOp.sub (AV.len x0) (AV.int 1)) 0)) ∧
((AV.isInt (AV.at x1 (AV.bin Go.BinOp.sub (AV.len x1) (AV.int 1)) 0)) ∧
((AV.flat (AV.mx (AV.at x0 (AV.int 0) 0) (AV.at x1 (AV.int 0) 0))) ∧
((AV.flat (AV.mn (AV.at x0 (AV.bin Go.BinOp.sub (AV.len x0) (AV.int 1)) 0) (AV.at x1 (AV.bin Go.BinOp.sub (AV.len x1) (AV.int 1)) 0))) ∧
(fSame (AV.tup [(AV.mx (AV.at x0 (AV.int 0) 0) (AV.at x1 (AV.int 0) 0)), (AV.mn (AV.at x0 (AV.bin Go.BinOp.sub (AV.len x0) (AV.int 1)) 0) (AV.at x1 (AV.bin Go.BinOp.sub (AV.len x1) (AV.int 1)) 0))]) r)))))))))))))))))))) := by kernel_rfl
theorem spans_form (x0 x1 x2 r : AV) : fnF Tryz.prog Γ ann 3 91 Tryz.f91 (Tryz.f91.body.getD .skip) (.nil) [x0, x1, x2] (.row 115 2 true) r = (((AV.isAgg x2 2) ∧
(∃ r321 : AV, ((Fn Tryz.prog 103 [x0, x1] (Sh.tup [Sh.sc, Sh.sc]) r321) ∧
(fLoop 833 [(AV.prj r321 0), (AV.mk 2 [])] fun ys833 again833 =>
  ((AV.binOk Go.BinOp.leq (ys833.getD 0 default) (AV.prj r321 1)) ∧
  ((AV.isBool (AV.bin Go.BinOp.leq (ys833.getD 0 default) (AV.prj r321 1))) ∧
  (((isT (AV.bin Go.BinOp.leq (ys833.getD 0 default) (AV.prj r321 1))) →
    (∃ r1153 : AV, ((Fn Tryz.prog 9 [x0, (ys833.getD 0 default)] (Sh.tup [Sh.sc, Sh.sc]) r1153) ∧
    ((AV.isAgg (AV.prj r1153 0) 6) ∧
    (∃ r1729 : AV, ((Fn Tryz.prog 9 [x1, (ys833.getD 0 default)] (Sh.tup [Sh.sc, Sh.sc]) r1729) ∧
    ((AV.isAgg (AV.prj r1729 0) 6) ∧
    (∃ r2369 : AV, ((Fn Tryz.prog 104 [(AV.agg [(AV.cel (AV.prj r1153 0) 0), (AV.cel (AV.prj r1153 0) 1), (AV.cel (AV.prj r1153 0) 2), (AV.cel (AV.prj r1153 0) 3), (AV.cel (AV.prj r1153 0) 4), (AV.cel (AV.prj r1153 0) 5)]), (AV.agg [(AV.cel (AV.prj r1729 0) 0), (AV.cel (AV.prj r1729 0) 1), (AV.cel (AV.prj r1729 0) 2), (AV.cel (AV.prj r1729 0) 3), (AV.cel (AV.prj r1729 0) 4), (AV.cel (AV.prj r1729 0) 5)]), (AV.agg [(AV.cel x2 0), (AV.cel x2 1)])] Sh.sc r2369) ∧
    ((AV.isBool r2369) ∧
    (((isT r2369) →
      ((AV.binOk Go.BinOp.add (ys833.getD 0 default) (AV.int 1)) ∧
      (again833 [(AV.bin Go.BinOp.add (ys833.getD 0 default) (AV.int 1)), (ys833.getD 1 default)]))) ∧
    ((isF r2369) →
      ((AV.binOk Go.BinOp.gtr (AV.len (ys833.getD 1 default)) (AV.int 0)) ∧
      ((AV.isBool (AV.bin Go.BinOp.gtr (AV.len (ys833.getD 1 default)) (AV.int 0))) ∧
      (((isT (AV.bin Go.BinOp.gtr (AV.len (ys833.getD 1 default)) (AV.int 0))) →
        ((AV.binOk Go.BinOp.sub (AV.len (ys833.getD 1 default)) (AV.int 1)) ∧
        ((AV.inb (ys833.getD 1 default) (AV.bin Go.BinOp.sub (AV.len (ys833.getD 1 default)) (AV.int 1))) ∧
        ((AV.inb (ys833.getD 1 default) (AV.bin Go.BinOp.sub (AV.len (ys833.getD 1 default)) (AV.int 1))) ∧
        ((AV.binOk Go.BinOp.eql (AV.at (ys833.getD 1 default) (AV.bin Go.BinOp.sub (AV.len (ys833.getD 1 default)) (AV.int 1)) 1) (ys833.getD 0 default)) ∧
        ((AV.isBool (AV.bin Go.BinOp.gtr (AV.len (ys833.getD 1 default)) (AV.int 0))) ∧
        ((isT (AV.bin Go.BinOp.gtr (AV.len (ys833.getD 1 default)) (AV.int 0))) ∧
        ((AV.isBool (AV.bin Go.BinOp.eql (AV.at (ys833.getD 1 default) (AV.bin Go.BinOp.sub (AV.len (ys833.getD 1 default)) (AV.int 1)) 1) (ys833.getD 0 default))) ∧
        (((isT (AV.bin Go.BinOp.eql (AV.at (ys833.getD 1 default) (AV.bin Go.BinOp.sub (AV.len (ys833.getD 1 default)) (AV.int 1)) 1) (ys833.getD 0 default))) →
          ((AV.binOk Go.BinOp.sub (AV.len (ys833.getD 1 default)) (AV.int 1)) ∧
          ((AV.binOk Go.BinOp.add (ys833.getD 0 default) (AV.int 1)) ∧
          ((AV.inb (ys833.getD 1 default) (AV.bin Go.BinOp.sub (AV.len (ys833.getD 1 default)) (AV.int 1))) ∧
          ((AV.isOne (AV.bin Go.BinOp.add (ys833.getD 0 default) (AV.int 1))) ∧
          ((AV.inb (ys833.getD 1 default) (AV.bin Go.BinOp.sub (AV.len (ys833.getD 1 default)) (AV.int 1))) ∧
          ((AV.binOk Go.BinOp.add (ys833.getD 0 default) (AV.int 1)) ∧
          (again833 [(AV.bin Go.BinOp.add (ys833.getD 0 default) (AV.int 1)), (AV.setEl (ys833.getD 1 default) (AV.bin Go.BinOp.sub (AV.len (ys833.getD 1 default)) (AV.int 1)) 1 [(AV.bin Go.BinOp.add (ys833.getD 0 default) (AV.int 1))])])))))))) ∧
        ((isF (AV.bin Go.BinOp.eql (AV.at (ys833.getD 1 default) (AV.bin Go.BinOp.sub (AV.len (ys833.getD 1 default)) (AV.int 1)) 1) (ys833.getD 0 default))) →
          ((AV.binOk Go.BinOp.add (ys833.getD 0 default) (AV.int 1)) ∧
          ((AV.isOne (ys833.getD 0 default)) ∧
          ((AV.isOne (AV.bin Go.BinOp.add (ys833.getD 0 default) (AV.int 1))) ∧
          ((AV.room (ys833.getD 1 default) (AV.mk 2 [[(ys833.getD 0 default), (AV.bin Go.BinOp.add (ys833.getD 0 default) (AV.int 1))]]) 16) ∧
          ((AV.binOk Go.BinOp.add (ys833.getD 0 default) (AV.int 1)) ∧
          (again833 [(AV.bin Go.BinOp.add (ys833.getD 0 default) (AV.int 1)), (AV.app 2 (ys833.getD 1 default) (AV.mk 2 [[(ys833.getD 0 default), (AV.bin Go.BinOp.add (ys833.getD 0 default) (AV.int 1))]]))])))))))))))))))) ∧
      ((isF (AV.bin Go.BinOp.gtr (AV.len (ys833.getD 1 default)) (AV.int 0))) →
        ((AV.isBool (AV.bin Go.BinOp.gtr (AV.len (ys833.getD 1 default)) (AV.int 0))) ∧
        ((isF (AV.bin Go.BinOp.gtr (AV.len (ys833.getD 1 default)) (AV.int 0))) ∧
        ((AV.binOk Go.BinOp.add (ys833.getD 0 default) (AV.int 1)) ∧
        ((AV.isOne (ys833.getD 0 default)) ∧
        ((AV.isOne (AV.bin Go.BinOp.add (ys833.getD 0 default) (AV.int 1))) ∧
        ((AV.room (ys833.getD 1 default) (AV.mk 2 [[(ys833.getD 0 default), (AV.bin Go.BinOp.add (ys833.getD 0 default) (AV.int 1))]]) 16) ∧
        ((AV.binOk Go.BinOp.add (ys833.getD 0 default) (AV.int 1)) ∧
        (again833 [(AV.bin Go.BinOp.add (ys833.getD 0 default) (AV.int 1)), (AV.app 2 (ys833.getD 1 default) (AV.mk 2 [[(ys833.getD 0 default), (AV.bin Go.BinOp.add (ys833.getD 0 default) (AV.int 1))]]))])))))))))))))))))))))))) ∧
  ((isF (AV.bin Go.BinOp.leq (ys833.getD 0 default) (AV.prj r321 1))) →
    ((AV.flatS (ys833.getD 1 default)) ∧
    (fSame (ys833.getD 1 default) r))))))))))) := by kernel_rfl
theorem pair_form (x0 x1 x2 r : AV) : fnF Tryz.prog Γ ann 3 75 Tryz.f75 (Tryz.f75.body.getD .skip) ((.both (.t .nil) (.both (.both (.t .nil) .nil) .nil))) [x0, x1, x2] (.tup [.row 115 2 true, .sc]) r = (((AV.isAgg x2 2) ∧
((AV.isOne x0) ∧
((AV.isOne x1) ∧
((fEnt Tryz.prog 90) ∧
(fAllV fun _ => (∃ r705 : AV, ((Fn Tryz.prog 56 [(AV.agg [(AV.cel x2 0), (AV.cel x2 1)])] Sh.sc r705) ∧
((AV.binOk Go.BinOp.neq r705 (AV.int 0)) ∧
((AV.isBool (AV.bin Go.BinOp.neq r705 (AV.int 0))) ∧
(((isT (AV.bin Go.BinOp.neq r705 (AV.int 0))) →
  ((AV.binOk Go.BinOp.neq r705 (AV.int 0)) ∧
  ((AV.isBool (AV.bin Go.BinOp.neq r705 (AV.int 0))) ∧
  ((isT (AV.bin Go.BinOp.neq r705 (AV.int 0))) ∧
  ((AV.flatS (AV.mk 2 [])) ∧
  ((AV.flat r705) ∧
  (fSame (AV.tup [(AV.mk 2 []), r705]) r))))))) ∧
((isF (AV.bin Go.BinOp.neq r705 (AV.int 0))) →
  (fLoop 1153 [(AV.int 0)] fun ys1153 again1153 =>
    ((AV.binOk Go.BinOp.lss (ys1153.getD 0 default) (AV.len (AV.mk 1 [[x0], [x1]]))) ∧
    ((AV.isBool (AV.bin Go.BinOp.lss (ys1153.getD 0 default) (AV.len (AV.mk 1 [[x0], [x1]])))) ∧
    (((isT (AV.bin Go.BinOp.lss (ys1153.getD 0 default) (AV.len (AV.mk 1 [[x0], [x1]])))) →
      ((AV.inb (AV.mk 1 [[x0], [x1]]) (ys1153.getD 0 default)) ∧
      ((AV.inb (AV.mk 1 [[x0], [x1]]) (ys1153.getD 0 default)) ∧
      (∃ r1473 : AV, ((Fn Tryz.prog 6 [(AV.at (AV.mk 1 [[x0], [x1]]) (ys1153.getD 0 default) 0)] Sh.sc r1473) ∧
      ((AV.binOk Go.BinOp.neq r1473 (AV.int 0)) ∧
      ((AV.isBool (AV.bin Go.BinOp.neq r1473 (AV.int 0))) ∧
      (((isT (AV.bin Go.BinOp.neq r1473 (AV.int 0))) →
        ((AV.binOk Go.BinOp.neq r1473 (AV.int 0)) ∧
        ((AV.isBool (AV.bin Go.BinOp.neq r1473 (AV.int 0))) ∧
        ((isT (AV.bin Go.BinOp.neq r1473 (AV.int 0))) ∧
        ((AV.flatS (AV.mk 2 [])) ∧
        ((AV.flat r1473) ∧
        (fSame (AV.tup [(AV.mk 2 []), r1473]) r))))))) ∧
      ((isF (AV.bin Go.BinOp.neq r1473 (AV.int 0))) →
        ((AV.binOk Go.BinOp.add (ys1153.getD 0 default) (AV.int 1)) ∧
        (again1153 [(AV.bin Go.BinOp.add (ys1153.getD 0 default) (AV.int 1))]))))))))))) ∧
    ((isF (AV.bin Go.BinOp.lss (ys1153.getD 0 default) (AV.len (AV.mk 1 [[x0], [x1]])))) →
      (∃ r1729 : AV, ((Fn Tryz.prog 91 [x0, x1, (AV.agg [(AV.cel x2 0), (AV.cel x2 1)])] (Sh.row 115 2 true) r1729) ∧
      ((AV.flatS r1729) ∧
      ((AV.flat (AV.int 0)) ∧
      (fSame (AV.tup [r1729, (AV.int 0)]) r)))))))))))))))))))))) := by kernel_rfl
theorem first_form (x0 x1 x2 r : AV) : fnF Tryz.prog Γ ann 3 57 Tryz.f57 (Tryz.f57.body.getD .skip) (.nil) [x0, x1, x2] (.tup [.sc, .sc]) r = (((AV.isAgg x2 2) ∧
(∃ r385 : AV, ((Fn Tryz.prog 75 [x0, x1, (AV.agg [(AV.cel x2 0), (AV.cel x2 1)])] (Sh.tup [(Sh.row 115 2 true), Sh.sc]) r385) ∧
((AV.binOk Go.BinOp.neq (AV.prj r385 1) (AV.int 0)) ∧
((AV.isBool (AV.bin Go.BinOp.neq (AV.prj r385 1) (AV.int 0))) ∧
(((isT (AV.bin Go.BinOp.neq (AV.prj r385 1) (AV.int 0))) →
  ((AV.flat (AV.int 0)) ∧
  ((AV.flat (AV.prj r385 1)) ∧
  (fSame (AV.tup [(AV.int 0), (AV.prj r385 1)]) r)))) ∧
((isF (AV.bin Go.BinOp.neq (AV.prj r385 1) (AV.int 0))) →
  ((AV.binOk Go.BinOp.eql (AV.len (AV.prj r385 0)) (AV.int 0)) ∧
  ((AV.isBool (AV.bin Go.BinOp.eql (AV.len (AV.prj r385 0)) (AV.int 0))) ∧
  (((isT (AV.bin Go.BinOp.eql (AV.len (AV.prj r385 0)) (AV.int 0))) →
    ((AV.flat (AV.int 0)) ∧
    ((AV.flat (AV.int 8)) ∧
    (fSame (AV.tup [(AV.int 0), (AV.int 8)]) r)))) ∧
  ((isF (AV.bin Go.BinOp.eql (AV.len (AV.prj r385 0)) (AV.int 0))) →
    ((AV.inb (AV.prj r385 0) (AV.int 0)) ∧
    ((AV.inb (AV.prj r385 0) (AV.int 0)) ∧
    ((AV.flat (AV.at (AV.prj r385 0) (AV.int 0) 0)) ∧
    ((AV.flat (AV.int 0)) ∧
    (fSame (AV.tup [(AV.at (AV.prj r385 0) (AV.int 0) 0), (AV.int 0)]) r))))))))))))))))) := by kernel_rfl
theorem rcheck_form (x0 x1 x2 r : AV) : fnF Tryz.prog Γ ann 3 37 Tryz.f37 (Tryz.f37.body.getD .skip) (.nil) [x0, x1, x2] (.sc) r = (((AV.isAgg x2 2) ∧
(∃ r193 : AV, ((Fn Tryz.prog 56 [(AV.agg [(AV.cel x2 0), (AV.cel x2 1)])] Sh.sc r193) ∧
((AV.binOk Go.BinOp.neq r193 (AV.int 0)) ∧
((AV.isBool (AV.bin Go.BinOp.neq r193 (AV.int 0))) ∧
(((isT (AV.bin Go.BinOp.neq r193 (AV.int 0))) →
  ((AV.flat r193) ∧
  (fSame r193 r))) ∧
((isF (AV.bin Go.BinOp.neq r193 (AV.int 0))) →
  ((AV.isSl x0 1) ∧
  ((AV.binOk Go.BinOp.gtr (AV.len x0) (AV.int 24)) ∧
  ((AV.isBool (AV.bin Go.BinOp.gtr (AV.len x0) (AV.int 24))) ∧
  (((isT (AV.bin Go.BinOp.gtr (AV.len x0) (AV.int 24))) →
    ((AV.flat (AV.int 2)) ∧
    (fSame (AV.int 2) r))) ∧
  ((isF (AV.bin Go.BinOp.gtr (AV.len x0) (AV.int 24))) →
    ((AV.isSl x0 1) ∧
    (fLoop 833 [(AV.int 0)] fun ys833 again833 =>
      ((AV.binOk Go.BinOp.lss (ys833.getD 0 default) (AV.len x0)) ∧
      ((AV.isBool (AV.bin Go.BinOp.lss (ys833.getD 0 default) (AV.len x0))) ∧
      (((isT (AV.bin Go.BinOp.lss (ys833.getD 0 default) (AV.len x0))) →
        ((AV.isSl x0 1) ∧
        ((AV.inb x0 (ys833.getD 0 default)) ∧
        (∃ r1153 : AV, ((Fn Tryz.prog 6 [(AV.at x0 (ys833.getD 0 default) 0)] Sh.sc r1153) ∧
        ((AV.binOk Go.BinOp.neq r1153 (AV.int 0)) ∧
        ((AV.isBool (AV.bin Go.BinOp.neq r1153 (AV.int 0))) ∧
        (((isT (AV.bin Go.BinOp.neq r1153 (AV.int 0))) →
          ((AV.flat r1153) ∧
          (fSame r1153 r))) ∧
        ((isF (AV.bin Go.BinOp.neq r1153 (AV.int 0))) →
          ((AV.binOk Go.BinOp.add (ys833.getD 0 default) (AV.int 1)) ∧
          (again833 [(AV.bin Go.BinOp.add (ys833.getD 0 default) (AV.int 1))]))))))))))) ∧
      ((isF (AV.bin Go.BinOp.lss (ys833.getD 0 default) (AV.len x0))) →
        ((AV.binOk Go.BinOp.lss x1 (AV.int 0)) ∧
        ((AV.isBool (AV.bin Go.BinOp.lss x1 (AV.int 0))) ∧
        (((isT (AV.bin Go.BinOp.lss x1 (AV.int 0))) →
          ((AV.isBool (AV.bin Go.BinOp.lss x1 (AV.int 0))) ∧
          ((isT (AV.bin Go.BinOp.lss x1 (AV.int 0))) ∧
          ((AV.flat (AV.int 4)) ∧
          (fSame (AV.int 4) r))))) ∧
        ((isF (AV.bin Go.BinOp.lss x1 (AV.int 0))) →
          ((AV.isSl x0 1) ∧
          ((AV.binOk Go.BinOp.geq x1 (AV.len x0)) ∧
          ((AV.isBool (AV.bin Go.BinOp.lss x1 (AV.int 0))) ∧
          ((isF (AV.bin Go.BinOp.lss x1 (AV.int 0))) ∧
          ((AV.isBool (AV.bin Go.BinOp.geq x1 (AV.len x0))) ∧
          (((isT (AV.bin Go.BinOp.geq x1 (AV.len x0))) →
            ((AV.flat (AV.int 4)) ∧
            (fSame (AV.int 4) r))) ∧
          ((isF (AV.bin Go.BinOp.geq x1 (AV.len x0))) →
            ((AV.flat (AV.int 0)) ∧
            (fSame (AV.int 0) r)))))))))))))))))))))))))))))))) := by kernel_rfl
theorem free_form (x0 x1 x2 x3 r : AV) : fnF Tryz.prog Γ ann 3 38 Tryz.f38 (Tryz.f38.body.getD .skip) (.nil) [x0, x1, x2, x3] (.sc) r = (((AV.isAgg x3 2) ∧
((AV.isSl x0 1) ∧
(fLoop 321 [(AV.int 0)] fun ys321 again321 =>
  ((AV.binOk Go.BinOp.lss (ys321.getD 0 default) (AV.len x0)) ∧
  ((AV.isBool (AV.bin Go.BinOp.lss (ys321.getD 0 default) (AV.len x0))) ∧
  (((isT (AV.bin Go.BinOp.lss (ys321.getD 0 default) (AV.len x0))) →
    ((AV.isSl x0 1) ∧
    ((AV.inb x0 (ys321.getD 0 default)) ∧
    ((AV.binOk Go.BinOp.neq (ys321.getD 0 default) x1) ∧
    ((AV.isBool (AV.bin Go.BinOp.neq (ys321.getD 0 default) x1)) ∧
    (((isT (AV.bin Go.BinOp.neq (ys321.getD 0 default) x1)) →
      (∃ r1089 : AV, ((Fn Tryz.prog 57 [x2, (AV.at x0 (ys321.getD 0 default) 0), (AV.agg [(AV.cel x3 0), (AV.cel x3 1)])] (Sh.tup [Sh.sc, Sh.sc]) r1089) ∧
      ((AV.binOk Go.BinOp.eql (AV.prj r1089 1) (AV.int 0)) ∧
      ((AV.isBool (AV.bin Go.BinOp.eql (AV.prj r1089 1) (AV.int 0))) ∧
      (((isT (AV.bin Go.BinOp.eql (AV.prj r1089 1) (AV.int 0))) →
        ((AV.flat (AV.bool false)) ∧
        (fSame (AV.bool false) r))) ∧
      ((isF (AV.bin Go.BinOp.eql (AV.prj r1089 1) (AV.int 0))) →
        ((AV.binOk Go.BinOp.add (ys321.getD 0 default) (AV.int 1)) ∧
        (again321 [(AV.bin Go.BinOp.add (ys321.getD 0 default) (AV.int 1))]))))))))) ∧
    ((isF (AV.bin Go.BinOp.neq (ys321.getD 0 default) x1)) →
      ((AV.binOk Go.BinOp.add (ys321.getD 0 default) (AV.int 1)) ∧
      (again321 [(AV.bin Go.BinOp.add (ys321.getD 0 default) (AV.int 1))]))))))))) ∧
  ((isF (AV.bin Go.BinOp.lss (ys321.getD 0 default) (AV.len x0))) →
    ((AV.flat (AV.bool true)) ∧
    (fSame (AV.bool true) r)))))))))) := by kernel_rfl
theorem rfree_form (x0 x1 x2 r : AV) : fnF Tryz.prog Γ ann 3 17 Tryz.f17 (Tryz.f17.body.getD .skip) (.nil) [x0, x1, x2] (.tup [.sc, .sc]) r = (((AV.isAgg x2 2) ∧
(∃ r385 : AV, ((Fn Tryz.prog 37 [x0, x1, (AV.agg [(AV.cel x2 0), (AV.cel x2 1)])] Sh.sc r385) ∧
((AV.binOk Go.BinOp.neq r385 (AV.int 0)) ∧
((AV.isBool (AV.bin Go.BinOp.neq r385 (AV.int 0))) ∧
(((isT (AV.bin Go.BinOp.neq r385 (AV.int 0))) →
  ((AV.flat (AV.bool false)) ∧
  ((AV.flat r385) ∧
  (fSame (AV.tup [(AV.bool false), r385]) r)))) ∧
((isF (AV.bin Go.BinOp.neq r385 (AV.int 0))) →
  ((AV.isSl x0 1) ∧
  ((AV.inb x0 x1) ∧
  (∃ r1089 : AV, ((Fn Tryz.prog 38 [x0, x1, (AV.at x0 x1 0), (AV.agg [(AV.cel x2 0), (AV.cel x2 1)])] Sh.sc r1089) ∧
  ((AV.flat r1089) ∧
  ((AV.flat (AV.int 0)) ∧
  (fSame (AV.tup [r1089, (AV.int 0)]) r))))))))))))))) := by kernel_rfl
theorem of_form (x0 r : AV) : fnF Tryz.prog Γ ann 3 10 Tryz.f10 (Tryz.f10.body.getD .skip) (.nil) [x0] (.tup [.sc, .sc]) r = (((AV.isAgg x0 2) ∧
((AV.binOk Go.BinOp.lss (AV.cel x0 0) (AV.int (-2000000))) ∧
((AV.isBool (AV.bin Go.BinOp.lss (AV.cel x0 0) (AV.int (-2000000)))) ∧
(((isT (AV.bin Go.BinOp.lss (AV.cel x0 0) (AV.int (-2000000)))) →
  ((AV.isBool (AV.bin Go.BinOp.lss (AV.cel x0 0) (AV.int (-2000000)))) ∧
  ((isT (AV.bin Go.BinOp.lss (AV.cel x0 0) (AV.int (-2000000)))) ∧
  ((AV.flat (AV.int 0)) ∧
  ((AV.flat (AV.int 4)) ∧
  (fSame (AV.tup [(AV.int 0), (AV.int 4)]) r)))))) ∧
((isF (AV.bin Go.BinOp.lss (AV.cel x0 0) (AV.int (-2000000)))) →
  ((AV.binOk Go.BinOp.gtr (AV.cel x0 0) (AV.int 2000000)) ∧
  ((AV.isBool (AV.bin Go.BinOp.lss (AV.cel x0 0) (AV.int (-2000000)))) ∧
  ((isF (AV.bin Go.BinOp.lss (AV.cel x0 0) (AV.int (-2000000)))) ∧
  ((AV.isBool (AV.bin Go.BinOp.gtr (AV.cel x0 0) (AV.int 2000000))) ∧
  (((isT (AV.bin Go.BinOp.gtr (AV.cel x0 0) (AV.int 2000000))) →
    ((AV.isBool (AV.bin Go.BinOp.gtr (AV.cel x0 0) (AV.int 2000000))) ∧
    ((isT (AV.bin Go.BinOp.gtr (AV.cel x0 0) (AV.int 2000000))) ∧
    ((AV.flat (AV.int 0)) ∧
    ((AV.flat (AV.int 4)) ∧
    (fSame (AV.tup [(AV.int 0), (AV.int 4)]) r)))))) ∧
  ((isF (AV.bin Go.BinOp.gtr (AV.cel x0 0) (AV.int 2000000))) →
    ((AV.binOk Go.BinOp.lss (AV.cel x0 1) (AV.int (-2000000))) ∧
    ((AV.isBool (AV.bin Go.BinOp.gtr (AV.cel x0 0) (AV.int 2000000))) ∧
    ((isF (AV.bin Go.BinOp.gtr (AV.cel x0 0) (AV.int 2000000))) ∧
    ((AV.isBool (AV.bin Go.BinOp.lss (AV.cel x0 1) (AV.int (-2000000)))) ∧
    (((isT (AV.bin Go.BinOp.lss (AV.cel x0 1) (AV.int (-2000000)))) →
      ((AV.isBool (AV.bin Go.BinOp.lss (AV.cel x0 1) (AV.int (-2000000)))) ∧
      ((isT (AV.bin Go.BinOp.lss (AV.cel x0 1) (AV.int (-2000000)))) ∧
      ((AV.flat (AV.int 0)) ∧
      ((AV.flat (AV.int 4)) ∧
      (fSame (AV.tup [(AV.int 0), (AV.int 4)]) r)))))) ∧
    ((isF (AV.bin Go.BinOp.lss (AV.cel x0 1) (AV.int (-2000000)))) →
      ((AV.binOk Go.BinOp.gtr (AV.cel x0 1) (AV.int 2000000)) ∧
      ((AV.isBool (AV.bin Go.BinOp.lss (AV.cel x0 1) (AV.int (-2000000)))) ∧
      ((isF (AV.bin Go.BinOp.lss (AV.cel x0 1) (AV.int (-2000000)))) ∧
      ((AV.isBool (AV.bin Go.BinOp.gtr (AV.cel x0 1) (AV.int 2000000))) ∧
      (((isT (AV.bin Go.BinOp.gtr (AV.cel x0 1) (AV.int 2000000))) →
        ((AV.flat (AV.int 0)) ∧
        ((AV.flat (AV.int 4)) ∧
        (fSame (AV.tup [(AV.int 0), (AV.int 4)]) r)))) ∧
      ((isF (AV.bin Go.BinOp.gtr (AV.cel x0 1) (AV.int 2000000))) →
        ((AV.binOk Go.BinOp.eql (AV.cel x0 0) (AV.int 0)) ∧
        ((AV.isBool (AV.bin Go.BinOp.eql (AV.cel x0 0) (AV.int 0))) ∧
        (((isT (AV.bin Go.BinOp.eql (AV.cel x0 0) (AV.int 0))) →
          ((AV.binOk Go.BinOp.eql (AV.cel x0 1) (AV.int 0)) ∧
          ((AV.isBool (AV.bin Go.BinOp.eql (AV.cel x0 0) (AV.int 0))) ∧
          ((isT (AV.bin Go.BinOp.eql (AV.cel x0 0) (AV.int 0))) ∧
          ((AV.isBool (AV.bin Go.BinOp.eql (AV.cel x0 1) (AV.int 0))) ∧
          (((isT (AV.bin Go.BinOp.eql (AV.cel x0 1) (AV.int 0))) →
            ((AV.flat (AV.int 0)) ∧
            ((AV.flat (AV.int 10)) ∧
            (fSame (AV.tup [(AV.int 0), (AV.int 10)]) r)))) ∧
          ((isF (AV.bin Go.BinOp.eql (AV.cel x0 1) (AV.int 0))) →
            ((AV.isInt (AV.cel x0 0)) ∧
            ((AV.isInt (AV.cel x0 1)) ∧
            (fStuck "call: no contract")))))))))) ∧
        ((isF (AV.bin Go.BinOp.eql (AV.cel x0 0) (AV.int 0))) →
          ((AV.isBool (AV.bin Go.BinOp.eql (AV.cel x0 0) (AV.int 0))) ∧
          ((isF (AV.bin Go.BinOp.eql (AV.cel x0 0) (AV.int 0))) ∧
          ((AV.isInt (AV.cel x0 0)) ∧
          ((AV.isInt (AV.cel x0 1)) ∧
          (fStuck "call: no contract"))))))))))))))))))))))))))))))))) := by kernel_rfl
theorem course_form (x0 x1 r : AV) : fnF Tryz.prog Γ ann 3 22 Tryz.f22 (Tryz.f22.body.getD .skip) (.nil) [x0, x1] (.tup [.sc, .sc, .sc]) r = (((AV.isAgg x1 6) ∧
((AV.isSl x0 6) ∧
(fLoop 449 [(AV.int 0)] fun ys449 again449 =>
  ((AV.binOk Go.BinOp.lss (ys449.getD 0 default) (AV.len x0)) ∧
  ((AV.isBool (AV.bin Go.BinOp.lss (ys449.getD 0 default) (AV.len x0))) ∧
  (((isT (AV.bin Go.BinOp.lss (ys449.getD 0 default) (AV.len x0))) →
    ((AV.isSl x0 6) ∧
    ((AV.inb x0 (ys449.getD 0 default)) ∧
    ((AV.isAgg (AV.atAgg x0 (ys449.getD 0 default) 0 6) 6) ∧
    ((AV.binOk Go.BinOp.gtr (AV.cel (AV.atAgg x0 (ys449.getD 0 default) 0 6) 0) (AV.cel x1 0)) ∧
    ((AV.isBool (AV.bin Go.BinOp.gtr (AV.cel (AV.atAgg x0 (ys449.getD 0 default) 0 6) 0) (AV.cel x1 0))) ∧
    (((isT (AV.bin Go.BinOp.gtr (AV.cel (AV.atAgg x0 (ys449.getD 0 default) 0 6) 0) (AV.cel x1 0))) →
      (∃ r1601 : AV, ((Fn Tryz.prog 41 [(AV.agg [(AV.cel (AV.atAgg x0 (ys449.getD 0 default) 0 6) 1), (AV.cel (AV.atAgg x0 (ys449.getD 0 default) 0 6) 2)]), (AV.agg [(AV.cel x1 1), (AV.cel x1 2)])] Sh.sc r1601) ∧
      (∃ r1665 : AV, ((Fn Tryz.prog 10 [r1601] (Sh.tup [Sh.sc, Sh.sc]) r1665) ∧
      (∃ r2433 : AV, ((Fn Tryz.prog 11 [(AV.agg [(AV.cel x1 1), (AV.cel x1 2)]), (AV.agg [(AV.cel (AV.atAgg x0 (ys449.getD 0 default) 0 6) 1), (AV.cel (AV.atAgg x0 (ys449.getD 0 default) 0 6) 2)])] (Sh.tup [Sh.sc, Sh.sc]) r2433) ∧
      ((AV.binOk Go.BinOp.sub (AV.cel (AV.atAgg x0 (ys449.getD 0 default) 0 6) 0) (AV.cel x1 0)) ∧
      ((AV.binOk Go.BinOp.quo (AV.prj r2433 0) (AV.bin Go.BinOp.sub (AV.cel (AV.atAgg x0 (ys449.getD 0 default) 0 6) 0) (AV.cel x1 0))) ∧
      ((AV.binOk Go.BinOp.eql (AV.prj r1665 1) (AV.int 0)) ∧
      ((AV.flat (AV.prj r1665 0)) ∧
      ((AV.flat (AV.bin Go.BinOp.quo (AV.prj r2433 0) (AV.bin Go.BinOp.sub (AV.cel (AV.atAgg x0 (ys449.getD 0 default) 0 6) 0) (AV.cel x1 0)))) ∧
      ((AV.flat (AV.bin Go.BinOp.eql (AV.prj r1665 1) (AV.int 0))) ∧
      (fSame (AV.tup [(AV.prj r1665 0), (AV.bin Go.BinOp.quo (AV.prj r2433 0) (AV.bin Go.BinOp.sub (AV.cel (AV.atAgg x0 (ys449.getD 0 default) 0 6) 0) (AV.cel x1 0))), (AV.bin Go.BinOp.eql (AV.prj r1665 1) (AV.int 0))]) r)))))))))))))) ∧
    ((isF (AV.bin Go.BinOp.gtr (AV.cel (AV.atAgg x0 (ys449.getD 0 default) 0 6) 0) (AV.cel x1 0))) →
      ((AV.binOk Go.BinOp.add (ys449.getD 0 default) (AV.int 1)) ∧
      (again449 [(AV.bin Go.BinOp.add (ys449.getD 0 default) (AV.int 1))])))))))))) ∧
  ((isF (AV.bin Go.BinOp.lss (ys449.getD 0 default) (AV.len x0))) →
    ((AV.flat (AV.int 0)) ∧
    ((AV.flat (AV.int 0)) ∧
    ((AV.flat (AV.bool false)) ∧
    (fSame (AV.tup [(AV.int 0), (AV.int 0), (AV.bool false)]) r)))))))))))) := by kernel_rfl
theorem cand_form (x0 x1 x2 x3 r : AV) : fnF Tryz.prog Γ ann 3 5 Tryz.f5 (Tryz.f5.body.getD .skip) (.nil) [x0, x1, x2, x3] (.tup [.row 41 4 true, .sc]) r = (((AV.isOne x0) ∧
((AV.isAgg x3 7) ∧
(∃ r321 : AV, ((Fn Tryz.prog 6 [x1] Sh.sc r321) ∧
((AV.binOk Go.BinOp.neq r321 (AV.int 0)) ∧
((AV.isBool (AV.bin Go.BinOp.neq r321 (AV.int 0))) ∧
(((isT (AV.bin Go.BinOp.neq r321 (AV.int 0))) →
  ((AV.flatS (AV.mk 4 [])) ∧
  ((AV.flat r321) ∧
  (fSame (AV.tup [(AV.mk 4 []), r321]) r)))) ∧
((isF (AV.bin Go.BinOp.neq r321 (AV.int 0))) →
  (∃ r641 : AV, ((Fn Tryz.prog 7 [(AV.agg [(AV.cel x3 0), (AV.cel x3 1), (AV.cel x3 2), (AV.cel x3 3), (AV.cel x3 4), (AV.cel x3 5), (AV.cel x3 6)])] Sh.sc r641) ∧
  ((AV.binOk Go.BinOp.neq r641 (AV.int 0)) ∧
  ((AV.isBool (AV.bin Go.BinOp.neq r641 (AV.int 0))) ∧
  (((isT (AV.bin Go.BinOp.neq r641 (AV.int 0))) →
    ((AV.flatS (AV.mk 4 [])) ∧
    ((AV.flat r641) ∧
    (fSame (AV.tup [(AV.mk 4 []), r641]) r)))) ∧
  ((isF (AV.bin Go.BinOp.neq r641 (AV.int 0))) →
    (∃ r1025 : AV, ((Fn Tryz.prog 9 [x1, x2] (Sh.tup [Sh.sc, Sh.sc]) r1025) ∧
    ((AV.isAgg (AV.prj r1025 0) 6) ∧
    ((AV.binOk Go.BinOp.neq (AV.prj r1025 1) (AV.int 0)) ∧
    ((AV.isBool (AV.bin Go.BinOp.neq (AV.prj r1025 1) (AV.int 0))) ∧
    (((isT (AV.bin Go.BinOp.neq (AV.prj r1025 1) (AV.int 0))) →
      ((AV.flatS (AV.mk 4 [])) ∧
      ((AV.flat (AV.prj r1025 1)) ∧
      (fSame (AV.tup [(AV.mk 4 []), (AV.prj r1025 1)]) r)))) ∧
    ((isF (AV.bin Go.BinOp.neq (AV.prj r1025 1) (AV.int 0))) →
      ((AV.isOne x0) ∧
      (∃ r1729 : AV, ((Fn Tryz.prog 21 [(AV.agg [x0, (AV.int 0), (AV.int 0), (AV.lit (Value.string ⟨#[]⟩))])] Sh.sc r1729) ∧
      ((AV.binOk Go.BinOp.neq r1729 (AV.int 0)) ∧
      ((AV.isBool (AV.bin Go.BinOp.neq r1729 (AV.int 0))) ∧
      (((isT (AV.bin Go.BinOp.neq r1729 (AV.int 0))) →
        ((AV.flatS (AV.mk 4 [])) ∧
        ((AV.flat r1729) ∧
        (fSame (AV.tup [(AV.mk 4 []), r1729]) r)))) ∧
      ((isF (AV.bin Go.BinOp.neq r1729 (AV.int 0))) →
        (∃ r2113 : AV, ((Fn Tryz.prog 22 [x1, (AV.agg [(AV.cel (AV.prj r1025 0) 0), (AV.cel (AV.prj r1025 0) 1), (AV.cel (AV.prj r1025 0) 2), (AV.cel (AV.prj r1025 0) 3), (AV.cel (AV.prj r1025 0) 4), (AV.cel (AV.prj r1025 0) 5)])] (Sh.tup [Sh.sc, Sh.sc, Sh.sc]) r2113) ∧
        (fLoop 2945 [(AV.int 1), (AV.mk 4 [])] fun ys2945 again2945 =>
          ((AV.binOk Go.BinOp.leq (ys2945.getD 0 default) (AV.int 3)) ∧
          ((AV.isBool (AV.bin Go.BinOp.leq (ys2945.getD 0 default) (AV.int 3))) ∧
          (((isT (AV.bin Go.BinOp.leq (ys2945.getD 0 default) (AV.int 3))) →
            ((AV.binOk Go.BinOp.mul (AV.int 1000) (ys2945.getD 0 default)) ∧
            ((AV.binOk Go.BinOp.add (AV.cel (AV.prj r1025 0) 3) (AV.bin Go.BinOp.mul (AV.int 1000) (ys2945.getD 0 default))) ∧
            ((AV.binOk Go.BinOp.mul (AV.int 1000) (ys2945.getD 0 default)) ∧
            ((AV.binOk Go.BinOp.sub (AV.cel (AV.prj r1025 0) 3) (AV.bin Go.BinOp.mul (AV.int 1000) (ys2945.getD 0 default))) ∧
            ((AV.isOne (AV.bin Go.BinOp.add (AV.cel (AV.prj r1025 0) 3) (AV.bin Go.BinOp.mul (AV.int 1000) (ys2945.getD 0 default)))) ∧
            ((AV.isOne (AV.bin Go.BinOp.sub (AV.cel (AV.prj r1025 0) 3) (AV.bin Go.BinOp.mul (AV.int 1000) (ys2945.getD 0 default)))) ∧
            (fLoop 3969 [(AV.int 0), (ys2945.getD 1 default)] fun ys3969 again3969 =>
              ((AV.binOk Go.BinOp.lss (ys3969.getD 0 default) (AV.int 2)) ∧
              ((AV.isBool (AV.bin Go.BinOp.lss (ys3969.getD 0 default) (AV.int 2))) ∧
              (((isT (AV.bin Go.BinOp.lss (ys3969.getD 0 default) (AV.int 2))) →
                ((AV.inl 2 (ys3969.getD 0 default)) ∧
                ((AV.binOk Go.BinOp.geq (AV.nth [(AV.bin Go.BinOp.add (AV.cel (AV.prj r1025 0) 3) (AV.bin Go.BinOp.mul (AV.int 1000) (ys2945.getD 0 default))), (AV.bin Go.BinOp.sub (AV.cel (AV.prj r1025 0) 3) (AV.bin Go.BinOp.mul (AV.int 1000) (ys2945.getD 0 default)))] 0 [((ys3969.getD 0 default), 1)]) (AV.int 0)) ∧
                ((AV.isBool (AV.bin Go.BinOp.geq (AV.nth [(AV.bin Go.BinOp.add (AV.cel (AV.prj r1025 0) 3) (AV.bin Go.BinOp.mul (AV.int 1000) (ys2945.getD 0 default))), (AV.bin Go.BinOp.sub (AV.cel (AV.prj r1025 0) 3) (AV.bin Go.BinOp.mul (AV.int 1000) (ys2945.getD 0 default)))] 0 [((ys3969.getD 0 default), 1)]) (AV.int 0))) ∧
                (((isT (AV.bin Go.BinOp.geq (AV.nth [(AV.bin Go.BinOp.add (AV.cel (AV.prj r1025 0) 3) (AV.bin Go.BinOp.mul (AV.int 1000) (ys2945.getD 0 default))), (AV.bin Go.BinOp.sub (AV.cel (AV.prj r1025 0) 3) (AV.bin Go.BinOp.mul (AV.int 1000) (ys2945.getD 0 default)))] 0 [((ys3969.getD 0 default), 1)]) (AV.int 0))) →
                  ((AV.binOk Go.BinOp.leq (AV.nth [(AV.bin Go.BinOp.add (AV.cel (AV.prj r1025 0) 3) (AV.bin Go.BinOp.mul (AV.int 1000) (ys2945.getD 0 default))), (AV.bin Go.BinOp.sub (AV.cel (AV.prj r1025 0) 3) (AV.bin Go.BinOp.mul (AV.int 1000) (ys2945.getD 0 default)))] 0 [((ys3969.getD 0 default), 1)]) (AV.cel x3 2)) ∧
                  ((AV.isBool (AV.bin Go.BinOp.geq (AV.nth [(AV.bin Go.BinOp.add (AV.cel (AV.prj r1025 0) 3) (AV.bin Go.BinOp.mul (AV.int 1000) (ys2945.getD 0 default))), (AV.bin Go.BinOp.sub (AV.cel (AV.prj r1025 0) 3) (AV.bin Go.BinOp.mul (AV.int 1000) (ys2945.getD 0 default)))] 0 [((ys3969.getD 0 default), 1)]) (AV.int 0))) ∧
                  ((isT (AV.bin Go.BinOp.geq (AV.nth [(AV.bin Go.BinOp.add (AV.cel (AV.prj r1025 0) 3) (AV.bin Go.BinOp.mul (AV.int 1000) (ys2945.getD 0 default))), (AV.bin Go.BinOp.sub (AV.cel (AV.prj r1025 0) 3) (AV.bin Go.BinOp.mul (AV.int 1000) (ys2945.getD 0 default)))] 0 [((ys3969.getD 0 default), 1)]) (AV.int 0))) ∧
                  ((AV.isBool (AV.bin Go.BinOp.leq (AV.nth [(AV.bin Go.BinOp.add (AV.cel (AV.prj r1025 0) 3) (AV.bin Go.BinOp.mul (AV.int 1000) (ys2945.getD 0 default))), (AV.bin Go.BinOp.sub (AV.cel (AV.prj r1025 0) 3) (AV.bin Go.BinOp.mul (AV.int 1000) (ys2945.getD 0 default)))] 0 [((ys3969.getD 0 default), 1)]) (AV.cel x3 2))) ∧
                  (((isT (AV.bin Go.BinOp.leq (AV.nth [(AV.bin Go.BinOp.add (AV.cel (AV.prj r1025 0) 3) (AV.bin Go.BinOp.mul (AV.int 1000) (ys2945.getD 0 default))), (AV.bin Go.BinOp.sub (AV.cel (AV.prj r1025 0) 3) (AV.bin Go.BinOp.mul (AV.int 1000) (ys2945.getD 0 default)))] 0 [((ys3969.getD 0 default), 1)]) (AV.cel x3 2))) →
                    ((fEnt Tryz.prog 23) ∧
                    (fAllV fun _ => ((AV.isOne x0) ∧
                    ((AV.isOne (AV.nth [(AV.bin Go.BinOp.add (AV.cel (AV.prj r1025 0) 3) (AV.bin Go.BinOp.mul (AV.int 1000) (ys2945.getD 0 default))), (AV.bin Go.BinOp.sub (AV.cel (AV.prj r1025 0) 3) (AV.bin Go.BinOp.mul (AV.int 1000) (ys2945.getD 0 default)))] 0 [((ys3969.getD 0 default), 1)])) ∧
                    ((AV.room (ys3969.getD 1 default) (AV.mk 4 [[x0, (AV.int 0), (AV.nth [(AV.bin Go.BinOp.add (AV.cel (AV.prj r1025 0) 3) (AV.bin Go.BinOp.mul (AV.int 1000) (ys2945.getD 0 default))), (AV.bin Go.BinOp.sub (AV.cel (AV.prj r1025 0) 3) (AV.bin Go.BinOp.mul (AV.int 1000) (ys2945.getD 0 default)))] 0 [((ys3969.getD 0 default), 1)]), (AV.lit (Value.string ⟨#[]⟩))]]) 48) ∧
                    ((AV.binOk Go.BinOp.add (ys3969.getD 0 default) (AV.int 1)) ∧
                    (again3969 [(AV.bin Go.BinOp.add (ys3969.getD 0 default) (AV.int 1)), (AV.app 4 (ys3969.getD 1 default) (AV.mk 4 [[x0, (AV.int 0), (AV.nth [(AV.bin Go.BinOp.add (AV.cel (AV.prj r1025 0) 3) (AV.bin Go.BinOp.mul (AV.int 1000) (ys2945.getD 0 default))), (AV.bin Go.BinOp.sub (AV.cel (AV.prj r1025 0) 3) (AV.bin Go.BinOp.mul (AV.int 1000) (ys2945.getD 0 default)))] 0 [((ys3969.getD 0 default), 1)]), (AV.lit (Value.string ⟨#[]⟩))]]))])))))))) ∧
                  ((isF (AV.bin Go.BinOp.leq (AV.nth [(AV.bin Go.BinOp.add (AV.cel (AV.prj r1025 0) 3) (AV.bin Go.BinOp.mul (AV.int 1000) (ys2945.getD 0 default))), (AV.bin Go.BinOp.sub (AV.cel (AV.prj r1025 0) 3) (AV.bin Go.BinOp.mul (AV.int 1000) (ys2945.getD 0 default)))] 0 [((ys3969.getD 0 default), 1)]) (AV.cel x3 2))) →
                    ((AV.binOk Go.BinOp.add (ys3969.getD 0 default) (AV.int 1)) ∧
                    (again3969 [(AV.bin Go.BinOp.add (ys3969.getD 0 default) (AV.int 1)), (ys3969.getD 1 default)]))))))))) ∧
                ((isF (AV.bin Go.BinOp.geq (AV.nth [(AV.bin Go.BinOp.add (AV.cel (AV.prj r1025 0) 3) (AV.bin Go.BinOp.mul (AV.int 1000) (ys2945.getD 0 default))), (AV.bin Go.BinOp.sub (AV.cel (AV.prj r1025 0) 3) (AV.bin Go.BinOp.mul (AV.int 1000) (ys2945.getD 0 default)))] 0 [((ys3969.getD 0 default), 1)]) (AV.int 0))) →
                  ((AV.isBool (AV.bin Go.BinOp.geq (AV.nth [(AV.bin Go.BinOp.add (AV.cel (AV.prj r1025 0) 3) (AV.bin Go.BinOp.mul (AV.int 1000) (ys2945.getD 0 default))), (AV.bin Go.BinOp.sub (AV.cel (AV.prj r1025 0) 3) (AV.bin Go.BinOp.mul (AV.int 1000) (ys2945.getD 0 default)))] 0 [((ys3969.getD 0 default), 1)]) (AV.int 0))) ∧
                  ((isF (AV.bin Go.BinOp.geq (AV.nth [(AV.bin Go.BinOp.add (AV.cel (AV.prj r1025 0) 3) (AV.bin Go.BinOp.mul (AV.int 1000) (ys2945.getD 0 default))), (AV.bin Go.BinOp.sub (AV.cel (AV.prj r1025 0) 3) (AV.bin Go.BinOp.mul (AV.int 1000) (ys2945.getD 0 default)))] 0 [((ys3969.getD 0 default), 1)]) (AV.int 0))) ∧
                  ((AV.binOk Go.BinOp.add (ys3969.getD 0 default) (AV.int 1)) ∧
                  (again3969 [(AV.bin Go.BinOp.add (ys3969.getD 0 default) (AV.int 1)), (ys3969.getD 1 default)])))))))))) ∧
              ((isF (AV.bin Go.BinOp.lss (ys3969.getD 0 default) (AV.int 2))) →
                ((AV.unOk Go.UnOp.not (AV.prj r2113 2)) ∧
                ((AV.isBool (AV.un Go.UnOp.not (AV.prj r2113 2))) ∧
                (((isT (AV.un Go.UnOp.not (AV.prj r2113 2))) →
                  ((AV.binOk Go.BinOp.add (ys2945.getD 0 default) (AV.int 1)) ∧
                  (again2945 [(AV.bin Go.BinOp.add (ys2945.getD 0 default) (AV.int 1)), (ys3969.getD 1 default)]))) ∧
                ((isF (AV.un Go.UnOp.not (AV.prj r2113 2))) →
                  ((AV.binOk Go.BinOp.mul (AV.int 15) (ys2945.getD 0 default)) ∧
                  ((AV.binOk Go.BinOp.add (AV.prj r2113 1) (AV.bin Go.BinOp.mul (AV.int 15) (ys2945.getD 0 default))) ∧
                  ((AV.binOk Go.BinOp.mul (AV.int 15) (ys2945.getD 0 default)) ∧
                  ((AV.binOk Go.BinOp.sub (AV.prj r2113 1) (AV.bin Go.BinOp.mul (AV.int 15) (ys2945.getD 0 default))) ∧
                  ((AV.isOne (AV.bin Go.BinOp.add (AV.prj r2113 1) (AV.bin Go.BinOp.mul (AV.int 15) (ys2945.getD 0 default)))) ∧
                  ((AV.isOne (AV.bin Go.BinOp.sub (AV.prj r2113 1) (AV.bin Go.BinOp.mul (AV.int 15) (ys2945.getD 0 default)))) ∧
                  (fLoop 4801 [(AV.int 0), (ys3969.getD 1 default)] fun ys4801 again4801 =>
                    ((AV.binOk Go.BinOp.lss (ys4801.getD 0 default) (AV.int 2)) ∧
                    ((AV.isBool (AV.bin Go.BinOp.lss (ys4801.getD 0 default) (AV.int 2))) ∧
                    (((isT (AV.bin Go.BinOp.lss (ys4801.getD 0 default) (AV.int 2))) →
                      ((AV.inl 2 (ys4801.getD 0 default)) ∧
                      ((AV.binOk Go.BinOp.geq (AV.nth [(AV.bin Go.BinOp.add (AV.prj r2113 1) (AV.bin Go.BinOp.mul (AV.int 15) (ys2945.getD 0 default))), (AV.bin Go.BinOp.sub (AV.prj r2113 1) (AV.bin Go.BinOp.mul (AV.int 15) (ys2945.getD 0 default)))] 0 [((ys4801.getD 0 default), 1)]) (AV.cel x3 5)) ∧
                      ((AV.isBool (AV.bin Go.BinOp.geq (AV.nth [(AV.bin Go.BinOp.add (AV.prj r2113 1) (AV.bin Go.BinOp.mul (AV.int 15) (ys2945.getD 0 default))), (AV.bin Go.BinOp.sub (AV.prj r2113 1) (AV.bin Go.BinOp.mul (AV.int 15) (ys2945.getD 0 default)))] 0 [((ys4801.getD 0 default), 1)]) (AV.cel x3 5))) ∧
                      (((isT (AV.bin Go.BinOp.geq (AV.nth [(AV.bin Go.BinOp.add (AV.prj r2113 1) (AV.bin Go.BinOp.mul (AV.int 15) (ys2945.getD 0 default))), (AV.bin Go.BinOp.sub (AV.prj r2113 1) (AV.bin Go.BinOp.mul (AV.int 15) (ys2945.getD 0 default)))] 0 [((ys4801.getD 0 default), 1)]) (AV.cel x3 5))) →
                        ((AV.binOk Go.BinOp.leq (AV.nth [(AV.bin Go.BinOp.add (AV.prj r2113 1) (AV.bin Go.BinOp.mul (AV.int 15) (ys2945.getD 0 default))), (AV.bin Go.BinOp.sub (AV.prj r2113 1) (AV.bin Go.BinOp.mul (AV.int 15) (ys2945.getD 0 default)))] 0 [((ys4801.getD 0 default), 1)]) (AV.cel x3 6)) ∧
                        ((AV.isBool (AV.bin Go.BinOp.geq (AV.nth [(AV.bin Go.BinOp.add (AV.prj r2113 1) (AV.bin Go.BinOp.mul (AV.int 15) (ys2945.getD 0 default))), (AV.bin Go.BinOp.sub (AV.prj r2113 1) (AV.bin Go.BinOp.mul (AV.int 15) (ys2945.getD 0 default)))] 0 [((ys4801.getD 0 default), 1)]) (AV.cel x3 5))) ∧
                        ((isT (AV.bin Go.BinOp.geq (AV.nth [(AV.bin Go.BinOp.add (AV.prj r2113 1) (AV.bin Go.BinOp.mul (AV.int 15) (ys2945.getD 0 default))), (AV.bin Go.BinOp.sub (AV.prj r2113 1) (AV.bin Go.BinOp.mul (AV.int 15) (ys2945.getD 0 default)))] 0 [((ys4801.getD 0 default), 1)]) (AV.cel x3 5))) ∧
                        ((AV.isBool (AV.bin Go.BinOp.leq (AV.nth [(AV.bin Go.BinOp.add (AV.prj r2113 1) (AV.bin Go.BinOp.mul (AV.int 15) (ys2945.getD 0 default))), (AV.bin Go.BinOp.sub (AV.prj r2113 1) (AV.bin Go.BinOp.mul (AV.int 15) (ys2945.getD 0 default)))] 0 [((ys4801.getD 0 default), 1)]) (AV.cel x3 6))) ∧
                        (((isT (AV.bin Go.BinOp.leq (AV.nth [(AV.bin Go.BinOp.add (AV.prj r2113 1) (AV.bin Go.BinOp.mul (AV.int 15) (ys2945.getD 0 default))), (AV.bin Go.BinOp.sub (AV.prj r2113 1) (AV.bin Go.BinOp.mul (AV.int 15) (ys2945.getD 0 default)))] 0 [((ys4801.getD 0 default), 1)]) (AV.cel x3 6))) →
                          ((fEnt Tryz.prog 23) ∧
                          (fAllV fun _ => ((AV.isOne x0) ∧
                          ((AV.isOne (AV.nth [(AV.bin Go.BinOp.add (AV.prj r2113 1) (AV.bin Go.BinOp.mul (AV.int 15) (ys2945.getD 0 default))), (AV.bin Go.BinOp.sub (AV.prj r2113 1) (AV.bin Go.BinOp.mul (AV.int 15) (ys2945.getD 0 default)))] 0 [((ys4801.getD 0 default), 1)])) ∧
                          ((AV.room (ys4801.getD 1 default) (AV.mk 4 [[x0, (AV.int 2), (AV.nth [(AV.bin Go.BinOp.add (AV.prj r2113 1) (AV.bin Go.BinOp.mul (AV.int 15) (ys2945.getD 0 default))), (AV.bin Go.BinOp.sub (AV.prj r2113 1) (AV.bin Go.BinOp.mul (AV.int 15) (ys2945.getD 0 default)))] 0 [((ys4801.getD 0 default), 1)]), (AV.lit (Value.string ⟨#[]⟩))]]) 48) ∧
                          ((AV.binOk Go.BinOp.add (ys4801.getD 0 default) (AV.int 1)) ∧
                          (again4801 [(AV.bin Go.BinOp.add (ys4801.getD 0 default) (AV.int 1)), (AV.app 4 (ys4801.getD 1 default) (AV.mk 4 [[x0, (AV.int 2), (AV.nth [(AV.bin Go.BinOp.add (AV.prj r2113 1) (AV.bin Go.BinOp.mul (AV.int 15) (ys2945.getD 0 default))), (AV.bin Go.BinOp.sub (AV.prj r2113 1) (AV.bin Go.BinOp.mul (AV.int 15) (ys2945.getD 0 default)))] 0 [((ys4801.getD 0 default), 1)]), (AV.lit (Value.string ⟨#[]⟩))]]))])))))))) ∧
                        ((isF (AV.bin Go.BinOp.leq (AV.nth [(AV.bin Go.BinOp.add (AV.prj r2113 1) (AV.bin Go.BinOp.mul (AV.int 15) (ys2945.getD 0 default))), (AV.bin Go.BinOp.sub (AV.prj r2113 1) (AV.bin Go.BinOp.mul (AV.int 15) (ys2945.getD 0 default)))] 0 [((ys4801.getD 0 default), 1)]) (AV.cel x3 6))) →
                          ((AV.binOk Go.BinOp.add (ys4801.getD 0 default) (AV.int 1)) ∧
                          (again4801 [(AV.bin Go.BinOp.add (ys4801.getD 0 default) (AV.int 1)), (ys4801.getD 1 default)]))))))))) ∧
                      ((isF (AV.bin Go.BinOp.geq (AV.nth [(AV.bin Go.BinOp.add (AV.prj r2113 1) (AV.bin Go.BinOp.mul (AV.int 15) (ys2945.getD 0 default))), (AV.bin Go.BinOp.sub (AV.prj r2113 1) (AV.bin Go.BinOp.mul (AV.int 15) (ys2945.getD 0 default)))] 0 [((ys4801.getD 0 default), 1)]) (AV.cel x3 5))) →
                        ((AV.isBool (AV.bin Go.BinOp.geq (AV.nth [(AV.bin Go.BinOp.add (AV.prj r2113 1) (AV.bin Go.BinOp.mul (AV.int 15) (ys2945.getD 0 default))), (AV.bin Go.BinOp.sub (AV.prj r2113 1) (AV.bin Go.BinOp.mul (AV.int 15) (ys2945.getD 0 default)))] 0 [((ys4801.getD 0 default), 1)]) (AV.cel x3 5))) ∧
                        ((isF (AV.bin Go.BinOp.geq (AV.nth [(AV.bin Go.BinOp.add (AV.prj r2113 1) (AV.bin Go.BinOp.mul (AV.int 15) (ys2945.getD 0 default))), (AV.bin Go.BinOp.sub (AV.prj r2113 1) (AV.bin Go.BinOp.mul (AV.int 15) (ys2945.getD 0 default)))] 0 [((ys4801.getD 0 default), 1)]) (AV.cel x3 5))) ∧
                        ((AV.binOk Go.BinOp.add (ys4801.getD 0 default) (AV.int 1)) ∧
                        (again4801 [(AV.bin Go.BinOp.add (ys4801.getD 0 default) (AV.int 1)), (ys4801.getD 1 default)])))))))))) ∧
                    ((isF (AV.bin Go.BinOp.lss (ys4801.getD 0 default) (AV.int 2))) →
                      ((AV.binOk Go.BinOp.mul (AV.int 171) (ys2945.getD 0 default)) ∧
                      ((AV.binOk Go.BinOp.add (AV.prj r2113 0) (AV.bin Go.BinOp.mul (AV.int 171) (ys2945.getD 0 default))) ∧
                      ((AV.binOk Go.BinOp.mul (AV.int 171) (ys2945.getD 0 default)) ∧
                      ((AV.binOk Go.BinOp.sub (AV.prj r2113 0) (AV.bin Go.BinOp.mul (AV.int 171) (ys2945.getD 0 default))) ∧
                      ((AV.isOne (AV.bin Go.BinOp.add (AV.prj r2113 0) (AV.bin Go.BinOp.mul (AV.int 171) (ys2945.getD 0 default)))) ∧
                      ((AV.isOne (AV.bin Go.BinOp.sub (AV.prj r2113 0) (AV.bin Go.BinOp.mul (AV.int 171) (ys2945.getD 0 default)))) ∧
                      (fLoop 5505 [(AV.int 0), (ys4801.getD 1 default)] fun ys5505 again5505 =>
                        ((AV.binOk Go.BinOp.lss (ys5505.getD 0 default) (AV.int 2)) ∧
                        ((AV.isBool (AV.bin Go.BinOp.lss (ys5505.getD 0 default) (AV.int 2))) ∧
                        (((isT (AV.bin Go.BinOp.lss (ys5505.getD 0 default) (AV.int 2))) →
                          ((AV.inl 2 (ys5505.getD 0 default)) ∧
                          ((fEnt Tryz.prog 24) ∧
                          (fAllV fun _ => ((AV.binOk Go.BinOp.rem (AV.nth [(AV.bin Go.BinOp.add (AV.prj r2113 0) (AV.bin Go.BinOp.mul (AV.int 171) (ys2945.getD 0 default))), (AV.bin Go.BinOp.sub (AV.prj r2113 0) (AV.bin Go.BinOp.mul (AV.int 171) (ys2945.getD 0 default)))] 0 [((ys5505.getD 0 default), 1)]) (AV.int 4096)) ∧
                          ((AV.binOk Go.BinOp.add (AV.bin Go.BinOp.rem (AV.nth [(AV.bin Go.BinOp.add (AV.prj r2113 0) (AV.bin Go.BinOp.mul (AV.int 171) (ys2945.getD 0 default))), (AV.bin Go.BinOp.sub (AV.prj r2113 0) (AV.bin Go.BinOp.mul (AV.int 171) (ys2945.getD 0 default)))] 0 [((ys5505.getD 0 default), 1)]) (AV.int 4096)) (AV.int 4096)) ∧
                          ((AV.binOk Go.BinOp.rem (AV.bin Go.BinOp.add (AV.bin Go.BinOp.rem (AV.nth [(AV.bin Go.BinOp.add (AV.prj r2113 0) (AV.bin Go.BinOp.mul (AV.int 171) (ys2945.getD 0 default))), (AV.bin Go.BinOp.sub (AV.prj r2113 0) (AV.bin Go.BinOp.mul (AV.int 171) (ys2945.getD 0 default)))] 0 [((ys5505.getD 0 default), 1)]) (AV.int 4096)) (AV.int 4096)) (AV.int 4096)) ∧
                          ((fEnt Tryz.prog 23) ∧
                          (fAllV fun _ => ((AV.isOne x0) ∧
                          ((AV.isOne (AV.bin Go.BinOp.rem (AV.bin Go.BinOp.add (AV.bin Go.BinOp.rem (AV.nth [(AV.bin Go.BinOp.add (AV.prj r2113 0) (AV.bin Go.BinOp.mul (AV.int 171) (ys2945.getD 0 default))), (AV.bin Go.BinOp.sub (AV.prj r2113 0) (AV.bin Go.BinOp.mul (AV.int 171) (ys2945.getD 0 default)))] 0 [((ys5505.getD 0 default), 1)]) (AV.int 4096)) (AV.int 4096)) (AV.int 4096))) ∧
                          ((AV.room (ys5505.getD 1 default) (AV.mk 4 [[x0, (AV.int 1), (AV.bin Go.BinOp.rem (AV.bin Go.BinOp.add (AV.bin Go.BinOp.rem (AV.nth [(AV.bin Go.BinOp.add (AV.prj r2113 0) (AV.bin Go.BinOp.mul (AV.int 171) (ys2945.getD 0 default))), (AV.bin Go.BinOp.sub (AV.prj r2113 0) (AV.bin Go.BinOp.mul (AV.int 171) (ys2945.getD 0 default)))] 0 [((ys5505.getD 0 default), 1)]) (AV.int 4096)) (AV.int 4096)) (AV.int 4096)), (AV.lit (Value.string ⟨#[]⟩))]]) 48) ∧
                          ((AV.binOk Go.BinOp.add (ys5505.getD 0 default) (AV.int 1)) ∧
                          (again5505 [(AV.bin Go.BinOp.add (ys5505.getD 0 default) (AV.int 1)), (AV.app 4 (ys5505.getD 1 default) (AV.mk 4 [[x0, (AV.int 1), (AV.bin Go.BinOp.rem (AV.bin Go.BinOp.add (AV.bin Go.BinOp.rem (AV.nth [(AV.bin Go.BinOp.add (AV.prj r2113 0) (AV.bin Go.BinOp.mul (AV.int 171) (ys2945.getD 0 default))), (AV.bin Go.BinOp.sub (AV.prj r2113 0) (AV.bin Go.BinOp.mul (AV.int 171) (ys2945.getD 0 default)))] 0 [((ys5505.getD 0 default), 1)]) (AV.int 4096)) (AV.int 4096)) (AV.int 4096)), (AV.lit (Value.string ⟨#[]⟩))]]))])))))))))))))) ∧
                        ((isF (AV.bin Go.BinOp.lss (ys5505.getD 0 default) (AV.int 2))) →
                          ((AV.binOk Go.BinOp.add (ys2945.getD 0 default) (AV.int 1)) ∧
                          (again2945 [(AV.bin Go.BinOp.add (ys2945.getD 0 default) (AV.int 1)), (ys5505.getD 1 default)])))))))))))))))))))))))))))))))))))))))) ∧
          ((isF (AV.bin Go.BinOp.leq (ys2945.getD 0 default) (AV.int 3))) →
            ((AV.flatS (ys2945.getD 1 default)) ∧
            ((AV.flat (AV.int 0)) ∧
            (fSame (AV.tup [(ys2945.getD 1 default), (AV.int 0)]) r))))))))))))))))))))))))))))))))))))))) := by kernel_rfl
theorem best_form (x0 x1 x2 x3 x4 x5 r : AV) : fnF Tryz.prog Γ ann 3 19 Tryz.f19 (Tryz.f19.body.getD .skip) (.nil) [x0, x1, x2, x3, x4, x5] (.tup [.sc, .row 38 6 true, .sc]) r = (((AV.isAgg x2 2) ∧
((AV.isAgg x5 7) ∧
(∃ r705 : AV, ((Fn Tryz.prog 37 [x0, x1, (AV.agg [(AV.cel x2 0), (AV.cel x2 1)])] Sh.sc r705) ∧
((AV.binOk Go.BinOp.neq r705 (AV.int 0)) ∧
((AV.isBool (AV.bin Go.BinOp.neq r705 (AV.int 0))) ∧
(((isT (AV.bin Go.BinOp.neq r705 (AV.int 0))) →
  ((AV.flat (AV.agg [(AV.lit (Value.string ⟨#[]⟩)), (AV.int 0), (AV.int 0), (AV.lit (Value.string ⟨#[]⟩))])) ∧
  ((AV.flatS (AV.mk 6 [])) ∧
  ((AV.flat r705) ∧
  (fSame (AV.tup [(AV.agg [(AV.lit (Value.string ⟨#[]⟩)), (AV.int 0), (AV.int 0), (AV.lit (Value.string ⟨#[]⟩))]), (AV.mk 6 []), r705]) r))))) ∧
((isF (AV.bin Go.BinOp.neq r705 (AV.int 0))) →
  ((AV.isSl x0 1) ∧
  ((AV.inb x0 x1) ∧
  (∃ r1409 : AV, ((Fn Tryz.prog 5 [x3, (AV.at x0 x1 0), x4, (AV.agg [(AV.cel x5 0), (AV.cel x5 1), (AV.cel x5 2), (AV.cel x5 3), (AV.cel x5 4), (AV.cel x5 5), (AV.cel x5 6)])] (Sh.tup [(Sh.row 41 4 true), Sh.sc]) r1409) ∧
  ((AV.binOk Go.BinOp.neq (AV.prj r1409 1) (AV.int 0)) ∧
  ((AV.isBool (AV.bin Go.BinOp.neq (AV.prj r1409 1) (AV.int 0))) ∧
  (((isT (AV.bin Go.BinOp.neq (AV.prj r1409 1) (AV.int 0))) →
    ((AV.flat (AV.agg [(AV.lit (Value.string ⟨#[]⟩)), (AV.int 0), (AV.int 0), (AV.lit (Value.string ⟨#[]⟩))])) ∧
    ((AV.flatS (AV.mk 6 [])) ∧
    ((AV.flat (AV.prj r1409 1)) ∧
    (fSame (AV.tup [(AV.agg [(AV.lit (Value.string ⟨#[]⟩)), (AV.int 0), (AV.int 0), (AV.lit (Value.string ⟨#[]⟩))]), (AV.mk 6 []), (AV.prj r1409 1)]) r))))) ∧
  ((isF (AV.bin Go.BinOp.neq (AV.prj r1409 1) (AV.int 0))) →
    ((AV.isSl x0 1) ∧
    ((AV.inb x0 x1) ∧
    (∃ r2369 : AV, ((Fn Tryz.prog 38 [x0, x1, (AV.at x0 x1 0), (AV.agg [(AV.cel x2 0), (AV.cel x2 1)])] Sh.sc r2369) ∧
    ((AV.isBool r2369) ∧
    (((isT r2369) →
      ((AV.flat (AV.agg [(AV.lit (Value.string ⟨#[]⟩)), (AV.int 0), (AV.int 0), (AV.lit (Value.string ⟨#[]⟩))])) ∧
      ((AV.flatS (AV.mk 6 [])) ∧
      ((AV.flat (AV.int 11)) ∧
      (fSame (AV.tup [(AV.agg [(AV.lit (Value.string ⟨#[]⟩)), (AV.int 0), (AV.int 0), (AV.lit (Value.string ⟨#[]⟩))]), (AV.mk 6 []), (AV.int 11)]) r))))) ∧
    ((isF r2369) →
      (fLoop 2625 [(AV.int 0)] fun ys2625 again2625 =>
        ((AV.binOk Go.BinOp.lss (ys2625.getD 0 default) (AV.len (AV.prj r1409 0))) ∧
        ((AV.isBool (AV.bin Go.BinOp.lss (ys2625.getD 0 default) (AV.len (AV.prj r1409 0)))) ∧
        (((isT (AV.bin Go.BinOp.lss (ys2625.getD 0 default) (AV.len (AV.prj r1409 0)))) →
          ((AV.inb (AV.prj r1409 0) (ys2625.getD 0 default)) ∧
          ((AV.inb (AV.prj r1409 0) (ys2625.getD 0 default)) ∧
          ((AV.isAgg (AV.atAgg (AV.prj r1409 0) (ys2625.getD 0 default) 0 4) 4) ∧
          ((AV.isSl x0 1) ∧
          ((AV.inb x0 x1) ∧
          (∃ r3457 : AV, ((Fn Tryz.prog 39 [(AV.at x0 x1 0), (AV.agg [(AV.cel (AV.atAgg (AV.prj r1409 0) (ys2625.getD 0 default) 0 4) 0), (AV.cel (AV.atAgg (AV.prj r1409 0) (ys2625.getD 0 default) 0 4) 1), (AV.cel (AV.atAgg (AV.prj r1409 0) (ys2625.getD 0 default) 0 4) 2), (AV.cel (AV.atAgg (AV.prj r1409 0) (ys2625.getD 0 default) 0 4) 3)]), x4, (AV.agg [(AV.cel x5 0), (AV.cel x5 1), (AV.cel x5 2), (AV.cel x5 3), (AV.cel x5 4), (AV.cel x5 5), (AV.cel x5 6)]), (AV.agg [(AV.int 0), (AV.int 0)])] (Sh.tup [(Sh.row 38 6 true), Sh.sc]) r3457) ∧
          ((AV.binOk Go.BinOp.eql (AV.prj r3457 1) (AV.int 0)) ∧
          ((AV.isBool (AV.bin Go.BinOp.eql (AV.prj r3457 1) (AV.int 0))) ∧
          (((isT (AV.bin Go.BinOp.eql (AV.prj r3457 1) (AV.int 0))) →
            (∃ r4289 : AV, ((Fn Tryz.prog 38 [x0, x1, (AV.prj r3457 0), (AV.agg [(AV.cel x2 0), (AV.cel x2 1)])] Sh.sc r4289) ∧
            ((AV.isBool (AV.bin Go.BinOp.eql (AV.prj r3457 1) (AV.int 0))) ∧
            ((isT (AV.bin Go.BinOp.eql (AV.prj r3457 1) (AV.int 0))) ∧
            ((AV.isBool r4289) ∧
            (((isT r4289) →
              ((AV.flat (AV.agg [(AV.cel (AV.atAgg (AV.prj r1409 0) (ys2625.getD 0 default) 0 4) 0), (AV.cel (AV.atAgg (AV.prj r1409 0) (ys2625.getD 0 default) 0 4) 1), (AV.cel (AV.atAgg (AV.prj r1409 0) (ys2625.getD 0 default) 0 4) 2), (AV.cel (AV.atAgg (AV.prj r1409 0) (ys2625.getD 0 default) 0 4) 3)])) ∧
              ((AV.flatS (AV.prj r3457 0)) ∧
              ((AV.flat (AV.int 0)) ∧
              (fSame (AV.tup [(AV.agg [(AV.cel (AV.atAgg (AV.prj r1409 0) (ys2625.getD 0 default) 0 4) 0), (AV.cel (AV.atAgg (AV.prj r1409 0) (ys2625.getD 0 default) 0 4) 1), (AV.cel (AV.atAgg (AV.prj r1409 0) (ys2625.getD 0 default) 0 4) 2), (AV.cel (AV.atAgg (AV.prj r1409 0) (ys2625.getD 0 default) 0 4) 3)]), (AV.prj r3457 0), (AV.int 0)]) r))))) ∧
            ((isF r4289) →
              ((AV.binOk Go.BinOp.add (ys2625.getD 0 default) (AV.int 1)) ∧
              (again2625 [(AV.bin Go.BinOp.add (ys2625.getD 0 default) (AV.int 1))])))))))))) ∧
          ((isF (AV.bin Go.BinOp.eql (AV.prj r3457 1) (AV.int 0))) →
            ((AV.isBool (AV.bin Go.BinOp.eql (AV.prj r3457 1) (AV.int 0))) ∧
            ((isF (AV.bin Go.BinOp.eql (AV.prj r3457 1) (AV.int 0))) ∧
            ((AV.binOk Go.BinOp.add (ys2625.getD 0 default) (AV.int 1)) ∧
            (again2625 [(AV.bin Go.BinOp.add (ys2625.getD 0 default) (AV.int 1))])))))))))))))))) ∧
        ((isF (AV.bin Go.BinOp.lss (ys2625.getD 0 default) (AV.len (AV.prj r1409 0)))) →
          ((AV.flat (AV.agg [(AV.lit (Value.string ⟨#[]⟩)), (AV.int 0), (AV.int 0), (AV.lit (Value.string ⟨#[]⟩))])) ∧
          ((AV.flatS (AV.mk 6 [])) ∧
          ((AV.flat (AV.int 8)) ∧
          (fSame (AV.tup [(AV.agg [(AV.lit (Value.string ⟨#[]⟩)), (AV.int 0), (AV.int 0), (AV.lit (Value.string ⟨#[]⟩))]), (AV.mk 6 []), (AV.int 8)]) r))))))))))))))))))))))))))))))))) := by kernel_rfl
theorem rfact_form ( r : AV) : fnF Tryz.prog Γ ann 3 4 Tryz.f4 (Tryz.f4.body.getD .skip) ((.t (.t (.t (.t (.t (.t (.t (.t .nil))))))))) [] (.sc) r = ((∃ r65 : AV, ((Fn Tryz.prog 14 [] (Sh.row 38 6 true) r65) ∧
(∃ r129 : AV, ((Fn Tryz.prog 14 [] (Sh.row 38 6 true) r129) ∧
(∃ r321 : AV, ((Fn Tryz.prog 15 [] Sh.sc r321) ∧
((AV.isAgg r321 7) ∧
(∃ r641 : AV, ((Fn Tryz.prog 16 [(AV.int 0)] (Sh.row 38 6 true) r641) ∧
(∃ r769 : AV, ((Fn Tryz.prog 5 [(AV.lit (Value.string ⟨#[65, 49]⟩)), r641, (AV.int 0), (AV.agg [(AV.cel r321 0), (AV.cel r321 1), (AV.cel r321 2), (AV.int 200), (AV.cel r321 4), (AV.cel r321 5), (AV.cel r321 6)])] (Sh.tup [(Sh.row 41 4 true), Sh.sc]) r769) ∧
(∃ r1217 : AV, ((Fn Tryz.prog 18 [] Sh.sc r1217) ∧
(∃ r1281 : AV, ((Fn Tryz.prog 17 [(AV.mk 1 [[r65], [r129]]), (AV.int 0), r1217] (Sh.tup [Sh.sc, Sh.sc]) r1281) ∧
(∃ r1665 : AV, ((Fn Tryz.prog 16 [(AV.int 0)] (Sh.row 38 6 true) r1665) ∧
(∃ r1729 : AV, ((Fn Tryz.prog 16 [(AV.int 100)] (Sh.row 38 6 true) r1729) ∧
(∃ r1857 : AV, ((Fn Tryz.prog 18 [] Sh.sc r1857) ∧
(∃ r1921 : AV, ((Fn Tryz.prog 17 [(AV.mk 1 [[r1665], [r1729]]), (AV.int 0), r1857] (Sh.tup [Sh.sc, Sh.sc]) r1921) ∧
(∃ r2305 : AV, ((Fn Tryz.prog 16 [(AV.int 0)] (Sh.row 38 6 true) r2305) ∧
(∃ r2369 : AV, ((Fn Tryz.prog 16 [(AV.int 100)] (Sh.row 38 6 true) r2369) ∧
(∃ r2497 : AV, ((Fn Tryz.prog 18 [] Sh.sc r2497) ∧
(∃ r2625 : AV, ((Fn Tryz.prog 19 [(AV.mk 1 [[r2305], [r2369]]), (AV.int 0), r2497, (AV.lit (Value.string ⟨#[65, 49]⟩)), (AV.int 0), (AV.agg [(AV.cel r321 0), (AV.cel r321 1), (AV.cel r321 2), (AV.int 200), (AV.cel r321 4), (AV.cel r321 5), (AV.cel r321 6)])] (Sh.tup [Sh.sc, (Sh.row 38 6 true), Sh.sc]) r2625) ∧
((AV.isAgg (AV.prj r2625 0) 4) ∧
((AV.binOk Go.BinOp.eql (AV.prj r769 1) (AV.int 0)) ∧
((AV.isBool (AV.bin Go.BinOp.eql (AV.prj r769 1) (AV.int 0))) ∧
((isT (AV.bin Go.BinOp.eql (AV.prj r769 1) (AV.int 0))) ∧
((AV.binOk Go.BinOp.eql (AV.prj r1281 1) (AV.int 0)) ∧
((AV.isBool (AV.bin Go.BinOp.eql (AV.prj r769 1) (AV.int 0))) ∧
((isT (AV.bin Go.BinOp.eql (AV.prj r769 1) (AV.int 0))) ∧
((AV.isBool (AV.bin Go.BinOp.eql (AV.prj r1281 1) (AV.int 0))) ∧
((isT (AV.bin Go.BinOp.eql (AV.prj r1281 1) (AV.int 0))) ∧
((AV.binOk Go.BinOp.eql (AV.prj r1921 1) (AV.int 0)) ∧
((AV.isBool (AV.bin Go.BinOp.eql (AV.prj r1281 1) (AV.int 0))) ∧
((isT (AV.bin Go.BinOp.eql (AV.prj r1281 1) (AV.int 0))) ∧
((AV.isBool (AV.bin Go.BinOp.eql (AV.prj r1921 1) (AV.int 0))) ∧
((isT (AV.bin Go.BinOp.eql (AV.prj r1921 1) (AV.int 0))) ∧
((AV.binOk Go.BinOp.eql (AV.prj r2625 2) (AV.int 11)) ∧
((AV.isBool (AV.bin Go.BinOp.eql (AV.prj r1921 1) (AV.int 0))) ∧
((isT (AV.bin Go.BinOp.eql (AV.prj r1921 1) (AV.int 0))) ∧
((AV.isBool (AV.bin Go.BinOp.eql (AV.prj r2625 2) (AV.int 11))) ∧
((isT (AV.bin Go.BinOp.eql (AV.prj r2625 2) (AV.int 11))) ∧
((AV.unOk Go.UnOp.not (AV.prj r1281 0)) ∧
((AV.isBool (AV.bin Go.BinOp.eql (AV.prj r2625 2) (AV.int 11))) ∧
((isT (AV.bin Go.BinOp.eql (AV.prj r2625 2) (AV.int 11))) ∧
((AV.isBool (AV.un Go.UnOp.not (AV.prj r1281 0))) ∧
((isT (AV.un Go.UnOp.not (AV.prj r1281 0))) ∧
((AV.isBool (AV.un Go.UnOp.not (AV.prj r1281 0))) ∧
((isT (AV.un Go.UnOp.not (AV.prj r1281 0))) ∧
((AV.isBool (AV.prj r1921 0)) ∧
((isT (AV.prj r1921 0)) ∧
((AV.binOk Go.BinOp.eql (AV.len (AV.prj r769 0)) (AV.int 3)) ∧
((AV.isBool (AV.prj r1921 0)) ∧
((isT (AV.prj r1921 0)) ∧
((AV.isBool (AV.bin Go.BinOp.eql (AV.len (AV.prj r769 0)) (AV.int 3))) ∧
((isT (AV.bin Go.BinOp.eql (AV.len (AV.prj r769 0)) (AV.int 3))) ∧
((AV.inb (AV.prj r769 0) (AV.int 0)) ∧
((AV.inb (AV.prj r769 0) (AV.int 0)) ∧
(∃ r5121 : AV, ((Fn Tryz.prog 20 [(AV.int 1000)] Sh.sc r5121) ∧
((AV.eqPlOk [(0, EK.str), (1, (EK.int Go.IntKind.i64)), (2, (EK.int Go.IntKind.i64)), (3, EK.str)] [(AV.cel (AV.atAgg (AV.prj r769 0) (AV.int 0) 0 4) 0), (AV.cel (AV.atAgg (AV.prj r769 0) (AV.int 0) 0 4) 1), (AV.cel (AV.atAgg (AV.prj r769 0) (AV.int 0) 0 4) 2), (AV.cel (AV.atAgg (AV.prj r769 0) (AV.int 0) 0 4) 3)] [(AV.cel r5121 0), (AV.cel r5121 1), (AV.cel r5121 2), (AV.cel r5121 3)]) ∧
((AV.isAgg (AV.atAgg (AV.prj r769 0) (AV.int 0) 0 4) 4) ∧
((AV.isAgg r5121 4) ∧
((AV.isBool (AV.bin Go.BinOp.eql (AV.len (AV.prj r769 0)) (AV.int 3))) ∧
((isT (AV.bin Go.BinOp.eql (AV.len (AV.prj r769 0)) (AV.int 3))) ∧
((AV.isBool (AV.eqPl [(0, EK.str), (1, (EK.int Go.IntKind.i64)), (2, (EK.int Go.IntKind.i64)), (3, EK.str)] [(AV.cel (AV.atAgg (AV.prj r769 0) (AV.int 0) 0 4) 0), (AV.cel (AV.atAgg (AV.prj r769 0) (AV.int 0) 0 4) 1), (AV.cel (AV.atAgg (AV.prj r769 0) (AV.int 0) 0 4) 2), (AV.cel (AV.atAgg (AV.prj r769 0) (AV.int 0) 0 4) 3)] [(AV.cel r5121 0), (AV.cel r5121 1), (AV.cel r5121 2), (AV.cel r5121 3)])) ∧
((isT (AV.eqPl [(0, EK.str), (1, (EK.int Go.IntKind.i64)), (2, (EK.int Go.IntKind.i64)), (3, EK.str)] [(AV.cel (AV.atAgg (AV.prj r769 0) (AV.int 0) 0 4) 0), (AV.cel (AV.atAgg (AV.prj r769 0) (AV.int 0) 0 4) 1), (AV.cel (AV.atAgg (AV.prj r769 0) (AV.int 0) 0 4) 2), (AV.cel (AV.atAgg (AV.prj r769 0) (AV.int 0) 0 4) 3)] [(AV.cel r5121 0), (AV.cel r5121 1), (AV.cel r5121 2), (AV.cel r5121 3)])) ∧
((AV.inb (AV.prj r769 0) (AV.int 2)) ∧
((AV.inb (AV.prj r769 0) (AV.int 2)) ∧
(∃ r5569 : AV, ((Fn Tryz.prog 20 [(AV.int 3000)] Sh.sc r5569) ∧
((AV.eqPlOk [(0, EK.str), (1, (EK.int Go.IntKind.i64)), (2, (EK.int Go.IntKind.i64)), (3, EK.str)] [(AV.cel (AV.atAgg (AV.prj r769 0) (AV.int 2) 0 4) 0), (AV.cel (AV.atAgg (AV.prj r769 0) (AV.int 2) 0 4) 1), (AV.cel (AV.atAgg (AV.prj r769 0) (AV.int 2) 0 4) 2), (AV.cel (AV.atAgg (AV.prj r769 0) (AV.int 2) 0 4) 3)] [(AV.cel r5569 0), (AV.cel r5569 1), (AV.cel r5569 2), (AV.cel r5569 3)]) ∧
((AV.isAgg (AV.atAgg (AV.prj r769 0) (AV.int 2) 0 4) 4) ∧
((AV.isAgg r5569 4) ∧
((AV.isBool (AV.eqPl [(0, EK.str), (1, (EK.int Go.IntKind.i64)), (2, (EK.int Go.IntKind.i64)), (3, EK.str)] [(AV.cel (AV.atAgg (AV.prj r769 0) (AV.int 0) 0 4) 0), (AV.cel (AV.atAgg (AV.prj r769 0) (AV.int 0) 0 4) 1), (AV.cel (AV.atAgg (AV.prj r769 0) (AV.int 0) 0 4) 2), (AV.cel (AV.atAgg (AV.prj r769 0) (AV.int 0) 0 4) 3)] [(AV.cel r5121 0), (AV.cel r5121 1), (AV.cel r5121 2), (AV.cel r5121 3)])) ∧
((isT (AV.eqPl [(0, EK.str), (1, (EK.int Go.IntKind.i64)), (2, (EK.int Go.IntKind.i64)), (3, EK.str)] [(AV.cel (AV.atAgg (AV.prj r769 0) (AV.int 0) 0 4) 0), (AV.cel (AV.atAgg (AV.prj r769 0) (AV.int 0) 0 4) 1), (AV.cel (AV.atAgg (AV.prj r769 0) (AV.int 0) 0 4) 2), (AV.cel (AV.atAgg (AV.prj r769 0) (AV.int 0) 0 4) 3)] [(AV.cel r5121 0), (AV.cel r5121 1), (AV.cel r5121 2), (AV.cel r5121 3)])) ∧
((AV.flat (AV.eqPl [(0, EK.str), (1, (EK.int Go.IntKind.i64)), (2, (EK.int Go.IntKind.i64)), (3, EK.str)] [(AV.cel (AV.atAgg (AV.prj r769 0) (AV.int 2) 0 4) 0), (AV.cel (AV.atAgg (AV.prj r769 0) (AV.int 2) 0 4) 1), (AV.cel (AV.atAgg (AV.prj r769 0) (AV.int 2) 0 4) 2), (AV.cel (AV.atAgg (AV.prj r769 0) (AV.int 2) 0 4) 3)] [(AV.cel r5569 0), (AV.cel r5569 1), (AV.cel r5569 2), (AV.cel r5569 3)])) ∧
(fSame (AV.eqPl [(0, EK.str), (1, (EK.int Go.IntKind.i64)), (2, (EK.int Go.IntKind.i64)), (3, EK.str)] [(AV.cel (AV.atAgg (AV.prj r769 0) (AV.int 2) 0 4) 0), (AV.cel (AV.atAgg (AV.prj r769 0) (AV.int 2) 0 4) 1), (AV.cel (AV.atAgg (AV.prj r769 0) (AV.int 2) 0 4) 2), (AV.cel (AV.atAgg (AV.prj r769 0) (AV.int 2) 0 4) 3)] [(AV.cel r5569 0), (AV.cel r5569 1), (AV.cel r5569 2), (AV.cel r5569 3)]) r))))))))))))))))))))))))))))))))))))))))))))))))))))))))))))))))))))))))))))))))))))))) := by kernel_rfl
end ResF
end Go.Proofs.YtacfofpbbempaaaGreatDoor
/- planes, polygons, volumes: what the run ends in. -/
namespace Go.Proofs.YtacfofpbbempaaaGreatDoor
open Go.RowKit
set_option linter.unusedVariables false
set_option maxRecDepth 100000
namespace SecF
--GAMMA
def Γ : FuncId → Option Ca := fun f =>
  if f = 25 ∨ f = 41 ∨ f = 55 ∨ f = 35 ∨ f = 27 ∨ f = 43 ∨ f = 6 ∨ f = 30 then some (.fn .sc)
  else if f = 47 ∨ f = 48 ∨ f = 46 ∨ f = 29 ∨ f = 9 then some (.fn (.tup [.sc, .sc]))
  else some .inl
def ann : FuncId → Nat → LoopEx := fun f r => ⟨[], [], [], []⟩
--END GAMMA
theorem pcheck_form (x0 r : AV) : fnF Tryz.prog Γ ann 3 25 Tryz.f25 (Tryz.f25.body.getD .skip) (.nil) [x0] (.sc) r = (((AV.isAgg x0 2) ∧
((AV.binOk Go.BinOp.lss (AV.cel x0 0) (AV.int (-1000000))) ∧
((AV.isBool (AV.bin Go.BinOp.lss (AV.cel x0 0) (AV.int (-1000000)))) ∧
(((isT (AV.bin Go.BinOp.lss (AV.cel x0 0) (AV.int (-1000000)))) →
  ((AV.isBool (AV.bin Go.BinOp.lss (AV.cel x0 0) (AV.int (-1000000)))) ∧
  ((isT (AV.bin Go.BinOp.lss (AV.cel x0 0) (AV.int (-1000000)))) ∧
  ((AV.flat (AV.int 4)) ∧
  (fSame (AV.int 4) r))))) ∧
((isF (AV.bin Go.BinOp.lss (AV.cel x0 0) (AV.int (-1000000)))) →
  ((AV.binOk Go.BinOp.gtr (AV.cel x0 0) (AV.int 1000000)) ∧
  ((AV.isBool (AV.bin Go.BinOp.lss (AV.cel x0 0) (AV.int (-1000000)))) ∧
  ((isF (AV.bin Go.BinOp.lss (AV.cel x0 0) (AV.int (-1000000)))) ∧
  ((AV.isBool (AV.bin Go.BinOp.gtr (AV.cel x0 0) (AV.int 1000000))) ∧
  (((isT (AV.bin Go.BinOp.gtr (AV.cel x0 0) (AV.int 1000000))) →
    ((AV.isBool (AV.bin Go.BinOp.gtr (AV.cel x0 0) (AV.int 1000000))) ∧
    ((isT (AV.bin Go.BinOp.gtr (AV.cel x0 0) (AV.int 1000000))) ∧
    ((AV.flat (AV.int 4)) ∧
    (fSame (AV.int 4) r))))) ∧
  ((isF (AV.bin Go.BinOp.gtr (AV.cel x0 0) (AV.int 1000000))) →
    ((AV.binOk Go.BinOp.lss (AV.cel x0 1) (AV.int (-1000000))) ∧
    ((AV.isBool (AV.bin Go.BinOp.gtr (AV.cel x0 0) (AV.int 1000000))) ∧
    ((isF (AV.bin Go.BinOp.gtr (AV.cel x0 0) (AV.int 1000000))) ∧
    ((AV.isBool (AV.bin Go.BinOp.lss (AV.cel x0 1) (AV.int (-1000000)))) ∧
    (((isT (AV.bin Go.BinOp.lss (AV.cel x0 1) (AV.int (-1000000)))) →
      ((AV.isBool (AV.bin Go.BinOp.lss (AV.cel x0 1) (AV.int (-1000000)))) ∧
      ((isT (AV.bin Go.BinOp.lss (AV.cel x0 1) (AV.int (-1000000)))) ∧
      ((AV.flat (AV.int 4)) ∧
      (fSame (AV.int 4) r))))) ∧
    ((isF (AV.bin Go.BinOp.lss (AV.cel x0 1) (AV.int (-1000000)))) →
      ((AV.binOk Go.BinOp.gtr (AV.cel x0 1) (AV.int 1000000)) ∧
      ((AV.isBool (AV.bin Go.BinOp.lss (AV.cel x0 1) (AV.int (-1000000)))) ∧
      ((isF (AV.bin Go.BinOp.lss (AV.cel x0 1) (AV.int (-1000000)))) ∧
      ((AV.isBool (AV.bin Go.BinOp.gtr (AV.cel x0 1) (AV.int 1000000))) ∧
      (((isT (AV.bin Go.BinOp.gtr (AV.cel x0 1) (AV.int 1000000))) →
        ((AV.flat (AV.int 4)) ∧
        (fSame (AV.int 4) r))) ∧
      ((isF (AV.bin Go.BinOp.gtr (AV.cel x0 1) (AV.int 1000000))) →
        ((AV.flat (AV.int 0)) ∧
        (fSame (AV.int 0) r)))))))))))))))))))))))))) := by kernel_rfl
theorem sub_form (x0 x1 r : AV) : fnF Tryz.prog Γ ann 3 41 Tryz.f41 (Tryz.f41.body.getD .skip) (.nil) [x0, x1] (.sc) r = (((AV.isAgg x0 2) ∧
((AV.isAgg x1 2) ∧
((AV.binOk Go.BinOp.sub (AV.cel x0 0) (AV.cel x1 0)) ∧
((AV.binOk Go.BinOp.sub (AV.cel x0 1) (AV.cel x1 1)) ∧
((AV.isOne (AV.bin Go.BinOp.sub (AV.cel x0 0) (AV.cel x1 0))) ∧
((AV.isOne (AV.bin Go.BinOp.sub (AV.cel x0 1) (AV.cel x1 1))) ∧
((AV.flat (AV.agg [(AV.bin Go.BinOp.sub (AV.cel x0 0) (AV.cel x1 0)), (AV.bin Go.BinOp.sub (AV.cel x0 1) (AV.cel x1 1))])) ∧
(fSame (AV.agg [(AV.bin Go.BinOp.sub (AV.cel x0 0) (AV.cel x1 0)), (AV.bin Go.BinOp.sub (AV.cel x0 1) (AV.cel x1 1))]) r))))))))) := by kernel_rfl
theorem dot_form (x0 x1 r : AV) : fnF Tryz.prog Γ ann 3 55 Tryz.f55 (Tryz.f55.body.getD .skip) (.nil) [x0, x1] (.sc) r = (((AV.isAgg x0 2) ∧
((AV.isAgg x1 2) ∧
((AV.binOk Go.BinOp.mul (AV.cel x0 0) (AV.cel x1 0)) ∧
((AV.binOk Go.BinOp.mul (AV.cel x0 1) (AV.cel x1 1)) ∧
((AV.binOk Go.BinOp.add (AV.bin Go.BinOp.mul (AV.cel x0 0) (AV.cel x1 0)) (AV.bin Go.BinOp.mul (AV.cel x0 1) (AV.cel x1 1))) ∧
((AV.flat (AV.bin Go.BinOp.add (AV.bin Go.BinOp.mul (AV.cel x0 0) (AV.cel x1 0)) (AV.bin Go.BinOp.mul (AV.cel x0 1) (AV.cel x1 1)))) ∧
(fSame (AV.bin Go.BinOp.add (AV.bin Go.BinOp.mul (AV.cel x0 0) (AV.cel x1 0)) (AV.bin Go.BinOp.mul (AV.cel x0 1) (AV.cel x1 1))) r)))))))) := by kernel_rfl
theorem square_form (x0 x1 r : AV) : fnF Tryz.prog Γ ann 3 35 Tryz.f35 (Tryz.f35.body.getD .skip) (.nil) [x0, x1] (.sc) r = (((AV.isAgg x0 2) ∧
((AV.isAgg x1 2) ∧
(∃ r321 : AV, ((Fn Tryz.prog 41 [(AV.agg [(AV.cel x0 0), (AV.cel x0 1)]), (AV.agg [(AV.cel x1 0), (AV.cel x1 1)])] Sh.sc r321) ∧
((AV.isAgg r321 2) ∧
(∃ r641 : AV, ((Fn Tryz.prog 55 [(AV.agg [(AV.cel r321 0), (AV.cel r321 1)]), (AV.agg [(AV.cel r321 0), (AV.cel r321 1)])] Sh.sc r641) ∧
((AV.flat r641) ∧
(fSame r641 r)))))))))) := by kernel_rfl
theorem divd_form (x0 x1 r : AV) : fnF Tryz.prog Γ ann 3 47 Tryz.f47 (Tryz.f47.body.getD .skip) (.nil) [x0, x1] (.tup [.sc, .sc]) r = (((AV.binOk Go.BinOp.eql x1 (AV.int 0)) ∧
((AV.isBool (AV.bin Go.BinOp.eql x1 (AV.int 0))) ∧
(((isT (AV.bin Go.BinOp.eql x1 (AV.int 0))) →
  ((AV.flat (AV.int 0)) ∧
  ((AV.flat (AV.int 10)) ∧
  (fSame (AV.tup [(AV.int 0), (AV.int 10)]) r)))) ∧
((isF (AV.bin Go.BinOp.eql x1 (AV.int 0))) →
  ((AV.binOk Go.BinOp.eql x0 (AV.int (-9223372036854775808))) ∧
  ((AV.isBool (AV.bin Go.BinOp.eql x0 (AV.int (-9223372036854775808)))) ∧
  (((isT (AV.bin Go.BinOp.eql x0 (AV.int (-9223372036854775808)))) →
    ((AV.binOk Go.BinOp.eql x1 (AV.int (-1))) ∧
    ((AV.isBool (AV.bin Go.BinOp.eql x0 (AV.int (-9223372036854775808)))) ∧
    ((isT (AV.bin Go.BinOp.eql x0 (AV.int (-9223372036854775808)))) ∧
    ((AV.isBool (AV.bin Go.BinOp.eql x1 (AV.int (-1)))) ∧
    (((isT (AV.bin Go.BinOp.eql x1 (AV.int (-1)))) →
      ((AV.flat (AV.int 0)) ∧
      ((AV.flat (AV.int 2)) ∧
      (fSame (AV.tup [(AV.int 0), (AV.int 2)]) r)))) ∧
    ((isF (AV.bin Go.BinOp.eql x1 (AV.int (-1)))) →
      ((AV.binOk Go.BinOp.quo x0 x1) ∧
      ((AV.binOk Go.BinOp.rem x0 x1) ∧
      ((AV.binOk Go.BinOp.neq (AV.bin Go.BinOp.rem x0 x1) (AV.int 0)) ∧
      ((AV.isBool (AV.bin Go.BinOp.neq (AV.bin Go.BinOp.rem x0 x1) (AV.int 0))) ∧
      (((isT (AV.bin Go.BinOp.neq (AV.bin Go.BinOp.rem x0 x1) (AV.int 0))) →
        ((AV.binOk Go.BinOp.lss x0 (AV.int 0)) ∧
        ((AV.binOk Go.BinOp.lss x1 (AV.int 0)) ∧
        ((AV.isBool (AV.bin Go.BinOp.lss x0 (AV.int 0))) ∧
        ((AV.isBool (AV.bin Go.BinOp.lss x1 (AV.int 0))) ∧
        ((AV.isBool (AV.bin Go.BinOp.neq (AV.bin Go.BinOp.rem x0 x1) (AV.int 0))) ∧
        ((isT (AV.bin Go.BinOp.neq (AV.bin Go.BinOp.rem x0 x1) (AV.int 0))) ∧
        ((AV.isBool (AV.neB (AV.bin Go.BinOp.lss x0 (AV.int 0)) (AV.bin Go.BinOp.lss x1 (AV.int 0)))) ∧
        (((isT (AV.neB (AV.bin Go.BinOp.lss x0 (AV.int 0)) (AV.bin Go.BinOp.lss x1 (AV.int 0)))) →
          ((AV.binOk Go.BinOp.sub (AV.bin Go.BinOp.quo x0 x1) (AV.int 1)) ∧
          ((AV.flat (AV.bin Go.BinOp.sub (AV.bin Go.BinOp.quo x0 x1) (AV.int 1))) ∧
          ((AV.flat (AV.int 0)) ∧
          (fSame (AV.tup [(AV.bin Go.BinOp.sub (AV.bin Go.BinOp.quo x0 x1) (AV.int 1)), (AV.int 0)]) r))))) ∧
        ((isF (AV.neB (AV.bin Go.BinOp.lss x0 (AV.int 0)) (AV.bin Go.BinOp.lss x1 (AV.int 0)))) →
          ((AV.flat (AV.bin Go.BinOp.quo x0 x1)) ∧
          ((AV.flat (AV.int 0)) ∧
          (fSame (AV.tup [(AV.bin Go.BinOp.quo x0 x1), (AV.int 0)]) r))))))))))))) ∧
      ((isF (AV.bin Go.BinOp.neq (AV.bin Go.BinOp.rem x0 x1) (AV.int 0))) →
        ((AV.isBool (AV.bin Go.BinOp.neq (AV.bin Go.BinOp.rem x0 x1) (AV.int 0))) ∧
        ((isF (AV.bin Go.BinOp.neq (AV.bin Go.BinOp.rem x0 x1) (AV.int 0))) ∧
        ((AV.flat (AV.bin Go.BinOp.quo x0 x1)) ∧
        ((AV.flat (AV.int 0)) ∧
        (fSame (AV.tup [(AV.bin Go.BinOp.quo x0 x1), (AV.int 0)]) r)))))))))))))))))) ∧
  ((isF (AV.bin Go.BinOp.eql x0 (AV.int (-9223372036854775808)))) →
    ((AV.isBool (AV.bin Go.BinOp.eql x0 (AV.int (-9223372036854775808)))) ∧
    ((isF (AV.bin Go.BinOp.eql x0 (AV.int (-9223372036854775808)))) ∧
    ((AV.binOk Go.BinOp.quo x0 x1) ∧
    ((AV.binOk Go.BinOp.rem x0 x1) ∧
    ((AV.binOk Go.BinOp.neq (AV.bin Go.BinOp.rem x0 x1) (AV.int 0)) ∧
    ((AV.isBool (AV.bin Go.BinOp.neq (AV.bin Go.BinOp.rem x0 x1) (AV.int 0))) ∧
    (((isT (AV.bin Go.BinOp.neq (AV.bin Go.BinOp.rem x0 x1) (AV.int 0))) →
      ((AV.binOk Go.BinOp.lss x0 (AV.int 0)) ∧
      ((AV.binOk Go.BinOp.lss x1 (AV.int 0)) ∧
      ((AV.isBool (AV.bin Go.BinOp.lss x0 (AV.int 0))) ∧
      ((AV.isBool (AV.bin Go.BinOp.lss x1 (AV.int 0))) ∧
      ((AV.isBool (AV.bin Go.BinOp.neq (AV.bin Go.BinOp.rem x0 x1) (AV.int 0))) ∧
      ((isT (AV.bin Go.BinOp.neq (AV.bin Go.BinOp.rem x0 x1) (AV.int 0))) ∧
      ((AV.isBool (AV.neB (AV.bin Go.BinOp.lss x0 (AV.int 0)) (AV.bin Go.BinOp.lss x1 (AV.int 0)))) ∧
      (((isT (AV.neB (AV.bin Go.BinOp.lss x0 (AV.int 0)) (AV.bin Go.BinOp.lss x1 (AV.int 0)))) →
        ((AV.binOk Go.BinOp.sub (AV.bin Go.BinOp.quo x0 x1) (AV.int 1)) ∧
        ((AV.flat (AV.bin Go.BinOp.sub (AV.bin Go.BinOp.quo x0 x1) (AV.int 1))) ∧
        ((AV.flat (AV.int 0)) ∧
        (fSame (AV.tup [(AV.bin Go.BinOp.sub (AV.bin Go.BinOp.quo x0 x1) (AV.int 1)), (AV.int 0)]) r))))) ∧
      ((isF (AV.neB (AV.bin Go.BinOp.lss x0 (AV.int 0)) (AV.bin Go.BinOp.lss x1 (AV.int 0)))) →
        ((AV.flat (AV.bin Go.BinOp.quo x0 x1)) ∧
        ((AV.flat (AV.int 0)) ∧
        (fSame (AV.tup [(AV.bin Go.BinOp.quo x0 x1), (AV.int 0)]) r))))))))))))) ∧
    ((isF (AV.bin Go.BinOp.neq (AV.bin Go.BinOp.rem x0 x1) (AV.int 0))) →
      ((AV.isBool (AV.bin Go.BinOp.neq (AV.bin Go.BinOp.rem x0 x1) (AV.int 0))) ∧
      ((isF (AV.bin Go.BinOp.neq (AV.bin Go.BinOp.rem x0 x1) (AV.int 0))) ∧
      ((AV.flat (AV.bin Go.BinOp.quo x0 x1)) ∧
      ((AV.flat (AV.int 0)) ∧
      (fSame (AV.tup [(AV.bin Go.BinOp.quo x0 x1), (AV.int 0)]) r)))))))))))))))))))))) := by kernel_rfl
theorem divu_form (x0 x1 r : AV) : fnF Tryz.prog Γ ann 3 48 Tryz.f48 (Tryz.f48.body.getD .skip) (.nil) [x0, x1] (.tup [.sc, .sc]) r = ((∃ r257 : AV, ((Fn Tryz.prog 47 [x0, x1] (Sh.tup [Sh.sc, Sh.sc]) r257) ∧
((AV.binOk Go.BinOp.eql (AV.prj r257 1) (AV.int 0)) ∧
((AV.isBool (AV.bin Go.BinOp.eql (AV.prj r257 1) (AV.int 0))) ∧
(((isT (AV.bin Go.BinOp.eql (AV.prj r257 1) (AV.int 0))) →
  ((AV.binOk Go.BinOp.rem x0 x1) ∧
  ((AV.binOk Go.BinOp.neq (AV.bin Go.BinOp.rem x0 x1) (AV.int 0)) ∧
  ((AV.isBool (AV.bin Go.BinOp.eql (AV.prj r257 1) (AV.int 0))) ∧
  ((isT (AV.bin Go.BinOp.eql (AV.prj r257 1) (AV.int 0))) ∧
  ((AV.isBool (AV.bin Go.BinOp.neq (AV.bin Go.BinOp.rem x0 x1) (AV.int 0))) ∧
  (((isT (AV.bin Go.BinOp.neq (AV.bin Go.BinOp.rem x0 x1) (AV.int 0))) →
    ((AV.binOk Go.BinOp.add (AV.prj r257 0) (AV.int 1)) ∧
    ((AV.flat (AV.bin Go.BinOp.add (AV.prj r257 0) (AV.int 1))) ∧
    ((AV.flat (AV.prj r257 1)) ∧
    (fSame (AV.tup [(AV.bin Go.BinOp.add (AV.prj r257 0) (AV.int 1)), (AV.prj r257 1)]) r))))) ∧
  ((isF (AV.bin Go.BinOp.neq (AV.bin Go.BinOp.rem x0 x1) (AV.int 0))) →
    ((AV.flat (AV.prj r257 0)) ∧
    ((AV.flat (AV.prj r257 1)) ∧
    (fSame (AV.tup [(AV.prj r257 0), (AV.prj r257 1)]) r))))))))))) ∧
((isF (AV.bin Go.BinOp.eql (AV.prj r257 1) (AV.int 0))) →
  ((AV.isBool (AV.bin Go.BinOp.eql (AV.prj r257 1) (AV.int 0))) ∧
  ((isF (AV.bin Go.BinOp.eql (AV.prj r257 1) (AV.int 0))) ∧
  ((AV.flat (AV.prj r257 0)) ∧
  ((AV.flat (AV.prj r257 1)) ∧
  (fSame (AV.tup [(AV.prj r257 0), (AV.prj r257 1)]) r)))))))))))) := by kernel_rfl
theorem toward_form (x0 x1 x2 x3 r : AV) : fnF Tryz.prog Γ ann 3 46 Tryz.f46 (Tryz.f46.body.getD .skip) (.nil) [x0, x1, x2, x3] (.tup [.sc, .sc]) r = (((AV.isAgg x0 2) ∧
((AV.isAgg x1 2) ∧
((AV.binOk Go.BinOp.leq x3 (AV.int 0)) ∧
((AV.isBool (AV.bin Go.BinOp.leq x3 (AV.int 0))) ∧
(((isT (AV.bin Go.BinOp.leq x3 (AV.int 0))) →
  ((AV.flat (AV.agg [(AV.int 0), (AV.int 0)])) ∧
  ((AV.flat (AV.int 10)) ∧
  (fSame (AV.tup [(AV.agg [(AV.int 0), (AV.int 0)]), (AV.int 10)]) r)))) ∧
((isF (AV.bin Go.BinOp.leq x3 (AV.int 0))) →
  ((AV.binOk Go.BinOp.gtr x3 (AV.int 200000)) ∧
  ((AV.isBool (AV.bin Go.BinOp.gtr x3 (AV.int 200000))) ∧
  (((isT (AV.bin Go.BinOp.gtr x3 (AV.int 200000))) →
    ((AV.isBool (AV.bin Go.BinOp.gtr x3 (AV.int 200000))) ∧
    ((isT (AV.bin Go.BinOp.gtr x3 (AV.int 200000))) ∧
    ((AV.flat (AV.agg [(AV.int 0), (AV.int 0)])) ∧
    ((AV.flat (AV.int 4)) ∧
    (fSame (AV.tup [(AV.agg [(AV.int 0), (AV.int 0)]), (AV.int 4)]) r)))))) ∧
  ((isF (AV.bin Go.BinOp.gtr x3 (AV.int 200000))) →
    ((AV.binOk Go.BinOp.lss x2 (AV.int 0)) ∧
    ((AV.isBool (AV.bin Go.BinOp.gtr x3 (AV.int 200000))) ∧
    ((isF (AV.bin Go.BinOp.gtr x3 (AV.int 200000))) ∧
    ((AV.isBool (AV.bin Go.BinOp.lss x2 (AV.int 0))) ∧
    (((isT (AV.bin Go.BinOp.lss x2 (AV.int 0))) →
      ((AV.isBool (AV.bin Go.BinOp.lss x2 (AV.int 0))) ∧
      ((isT (AV.bin Go.BinOp.lss x2 (AV.int 0))) ∧
      ((AV.flat (AV.agg [(AV.int 0), (AV.int 0)])) ∧
      ((AV.flat (AV.int 4)) ∧
      (fSame (AV.tup [(AV.agg [(AV.int 0), (AV.int 0)]), (AV.int 4)]) r)))))) ∧
    ((isF (AV.bin Go.BinOp.lss x2 (AV.int 0))) →
      ((AV.binOk Go.BinOp.gtr x2 x3) ∧
      ((AV.isBool (AV.bin Go.BinOp.lss x2 (AV.int 0))) ∧
      ((isF (AV.bin Go.BinOp.lss x2 (AV.int 0))) ∧
      ((AV.isBool (AV.bin Go.BinOp.gtr x2 x3)) ∧
      (((isT (AV.bin Go.BinOp.gtr x2 x3)) →
        ((AV.flat (AV.agg [(AV.int 0), (AV.int 0)])) ∧
        ((AV.flat (AV.int 4)) ∧
        (fSame (AV.tup [(AV.agg [(AV.int 0), (AV.int 0)]), (AV.int 4)]) r)))) ∧
      ((isF (AV.bin Go.BinOp.gtr x2 x3)) →
        (∃ r1281 : AV, ((Fn Tryz.prog 25 [(AV.agg [(AV.cel x0 0), (AV.cel x0 1)])] Sh.sc r1281) ∧
        ((AV.binOk Go.BinOp.neq r1281 (AV.int 0)) ∧
        ((AV.isBool (AV.bin Go.BinOp.neq r1281 (AV.int 0))) ∧
        (((isT (AV.bin Go.BinOp.neq r1281 (AV.int 0))) →
          (∃ r1601 : AV, ((Fn Tryz.prog 25 [(AV.agg [(AV.cel x0 0), (AV.cel x0 1)])] Sh.sc r1601) ∧
          ((AV.flat (AV.agg [(AV.int 0), (AV.int 0)])) ∧
          ((AV.flat r1601) ∧
          (fSame (AV.tup [(AV.agg [(AV.int 0), (AV.int 0)]), r1601]) r)))))) ∧
        ((isF (AV.bin Go.BinOp.neq r1281 (AV.int 0))) →
          (∃ r1537 : AV, ((Fn Tryz.prog 25 [(AV.agg [(AV.cel x1 0), (AV.cel x1 1)])] Sh.sc r1537) ∧
          ((AV.binOk Go.BinOp.neq r1537 (AV.int 0)) ∧
          ((AV.isBool (AV.bin Go.BinOp.neq r1537 (AV.int 0))) ∧
          (((isT (AV.bin Go.BinOp.neq r1537 (AV.int 0))) →
            (∃ r1857 : AV, ((Fn Tryz.prog 25 [(AV.agg [(AV.cel x1 0), (AV.cel x1 1)])] Sh.sc r1857) ∧
            ((AV.flat (AV.agg [(AV.int 0), (AV.int 0)])) ∧
            ((AV.flat r1857) ∧
            (fSame (AV.tup [(AV.agg [(AV.int 0), (AV.int 0)]), r1857]) r)))))) ∧
          ((isF (AV.bin Go.BinOp.neq r1537 (AV.int 0))) →
            ((AV.binOk Go.BinOp.sub (AV.cel x1 0) (AV.cel x0 0)) ∧
            ((AV.binOk Go.BinOp.mul (AV.bin Go.BinOp.sub (AV.cel x1 0) (AV.cel x0 0)) x2) ∧
            (∃ r2241 : AV, ((Fn Tryz.prog 47 [(AV.bin Go.BinOp.mul (AV.bin Go.BinOp.sub (AV.cel x1 0) (AV.cel x0 0)) x2), x3] (Sh.tup [Sh.sc, Sh.sc]) r2241) ∧
            ((AV.binOk Go.BinOp.sub (AV.cel x1 1) (AV.cel x0 1)) ∧
            ((AV.binOk Go.BinOp.mul (AV.bin Go.BinOp.sub (AV.cel x1 1) (AV.cel x0 1)) x2) ∧
            (∃ r3137 : AV, ((Fn Tryz.prog 47 [(AV.bin Go.BinOp.mul (AV.bin Go.BinOp.sub (AV.cel x1 1) (AV.cel x0 1)) x2), x3] (Sh.tup [Sh.sc, Sh.sc]) r3137) ∧
            ((AV.binOk Go.BinOp.add (AV.cel x0 0) (AV.prj r2241 0)) ∧
            ((AV.binOk Go.BinOp.add (AV.cel x0 1) (AV.prj r3137 0)) ∧
            ((AV.isOne (AV.bin Go.BinOp.add (AV.cel x0 0) (AV.prj r2241 0))) ∧
            ((AV.isOne (AV.bin Go.BinOp.add (AV.cel x0 1) (AV.prj r3137 0))) ∧
            ((AV.flat (AV.agg [(AV.bin Go.BinOp.add (AV.cel x0 0) (AV.prj r2241 0)), (AV.bin Go.BinOp.add (AV.cel x0 1) (AV.prj r3137 0))])) ∧
            ((AV.flat (AV.int 0)) ∧
            (fSame (AV.tup [(AV.agg [(AV.bin Go.BinOp.add (AV.cel x0 0) (AV.prj r2241 0)), (AV.bin Go.BinOp.add (AV.cel x0 1) (AV.prj r3137 0))]), (AV.int 0)]) r)))))))))))))))))))))))))))))))))))))))))))))))))) := by kernel_rfl
theorem tcheck_form (x0 r : AV) : fnF Tryz.prog Γ ann 3 6 Tryz.f6 (Tryz.f6.body.getD .skip) (.nil) [x0] (.sc) r = (((AV.isSl x0 6) ∧
((AV.binOk Go.BinOp.gtr (AV.len x0) (AV.int 64)) ∧
((AV.isBool (AV.bin Go.BinOp.gtr (AV.len x0) (AV.int 64))) ∧
(((isT (AV.bin Go.BinOp.gtr (AV.len x0) (AV.int 64))) →
  ((AV.flat (AV.int 2)) ∧
  (fSame (AV.int 2) r))) ∧
((isF (AV.bin Go.BinOp.gtr (AV.len x0) (AV.int 64))) →
  ((AV.isSl x0 6) ∧
  ((AV.binOk Go.BinOp.eql (AV.len x0) (AV.int 0)) ∧
  ((AV.isBool (AV.bin Go.BinOp.eql (AV.len x0) (AV.int 0))) ∧
  (((isT (AV.bin Go.BinOp.eql (AV.len x0) (AV.int 0))) →
    ((AV.flat (AV.int 3)) ∧
    (fSame (AV.int 3) r))) ∧
  ((isF (AV.bin Go.BinOp.eql (AV.len x0) (AV.int 0))) →
    ((AV.isSl x0 6) ∧
    (fLoop 769 [(AV.int 0)] fun ys769 again769 =>
      ((AV.binOk Go.BinOp.lss (ys769.getD 0 default) (AV.len x0)) ∧
      ((AV.isBool (AV.bin Go.BinOp.lss (ys769.getD 0 default) (AV.len x0))) ∧
      (((isT (AV.bin Go.BinOp.lss (ys769.getD 0 default) (AV.len x0))) →
        ((AV.isSl x0 6) ∧
        ((AV.inb x0 (ys769.getD 0 default)) ∧
        ((AV.isAgg (AV.atAgg x0 (ys769.getD 0 default) 0 6) 6) ∧
        ((AV.binOk Go.BinOp.lss (AV.cel (AV.atAgg x0 (ys769.getD 0 default) 0 6) 0) (AV.int 0)) ∧
        ((AV.isBool (AV.bin Go.BinOp.lss (AV.cel (AV.atAgg x0 (ys769.getD 0 default) 0 6) 0) (AV.int 0))) ∧
        (((isT (AV.bin Go.BinOp.lss (AV.cel (AV.atAgg x0 (ys769.getD 0 default) 0 6) 0) (AV.int 0))) →
          ((AV.isBool (AV.bin Go.BinOp.lss (AV.cel (AV.atAgg x0 (ys769.getD 0 default) 0 6) 0) (AV.int 0))) ∧
          ((isT (AV.bin Go.BinOp.lss (AV.cel (AV.atAgg x0 (ys769.getD 0 default) 0 6) 0) (AV.int 0))) ∧
          ((AV.flat (AV.int 12)) ∧
          (fSame (AV.int 12) r))))) ∧
        ((isF (AV.bin Go.BinOp.lss (AV.cel (AV.atAgg x0 (ys769.getD 0 default) 0 6) 0) (AV.int 0))) →
          ((AV.binOk Go.BinOp.gtr (AV.cel (AV.atAgg x0 (ys769.getD 0 default) 0 6) 0) (AV.int 200000)) ∧
          ((AV.isBool (AV.bin Go.BinOp.lss (AV.cel (AV.atAgg x0 (ys769.getD 0 default) 0 6) 0) (AV.int 0))) ∧
          ((isF (AV.bin Go.BinOp.lss (AV.cel (AV.atAgg x0 (ys769.getD 0 default) 0 6) 0) (AV.int 0))) ∧
          ((AV.isBool (AV.bin Go.BinOp.gtr (AV.cel (AV.atAgg x0 (ys769.getD 0 default) 0 6) 0) (AV.int 200000))) ∧
          (((isT (AV.bin Go.BinOp.gtr (AV.cel (AV.atAgg x0 (ys769.getD 0 default) 0 6) 0) (AV.int 200000))) →
            ((AV.isBool (AV.bin Go.BinOp.gtr (AV.cel (AV.atAgg x0 (ys769.getD 0 default) 0 6) 0) (AV.int 200000))) ∧
            ((isT (AV.bin Go.BinOp.gtr (AV.cel (AV.atAgg x0 (ys769.getD 0 default) 0 6) 0) (AV.int 200000))) ∧
            ((AV.flat (AV.int 12)) ∧
            (fSame (AV.int 12) r))))) ∧
          ((isF (AV.bin Go.BinOp.gtr (AV.cel (AV.atAgg x0 (ys769.getD 0 default) 0 6) 0) (AV.int 200000))) →
            ((AV.binOk Go.BinOp.gtr (ys769.getD 0 default) (AV.int 0)) ∧
            ((AV.isBool (AV.bin Go.BinOp.gtr (ys769.getD 0 default) (AV.int 0))) ∧
            (((isT (AV.bin Go.BinOp.gtr (ys769.getD 0 default) (AV.int 0))) →
              ((AV.binOk Go.BinOp.sub (ys769.getD 0 default) (AV.int 1)) ∧
              ((AV.isSl x0 6) ∧
              ((AV.inb x0 (AV.bin Go.BinOp.sub (ys769.getD 0 default) (AV.int 1))) ∧
              ((AV.binOk Go.BinOp.leq (AV.cel (AV.atAgg x0 (ys769.getD 0 default) 0 6) 0) (AV.at x0 (AV.bin Go.BinOp.sub (ys769.getD 0 default) (AV.int 1)) 0)) ∧
              ((AV.isBool (AV.bin Go.BinOp.gtr (ys769.getD 0 default) (AV.int 0))) ∧
              ((isT (AV.bin Go.BinOp.gtr (ys769.getD 0 default) (AV.int 0))) ∧
              ((AV.isBool (AV.bin Go.BinOp.gtr (AV.cel (AV.atAgg x0 (ys769.getD 0 default) 0 6) 0) (AV.int 200000))) ∧
              ((isF (AV.bin Go.BinOp.gtr (AV.cel (AV.atAgg x0 (ys769.getD 0 default) 0 6) 0) (AV.int 200000))) ∧
              ((AV.isBool (AV.bin Go.BinOp.leq (AV.cel (AV.atAgg x0 (ys769.getD 0 default) 0 6) 0) (AV.at x0 (AV.bin Go.BinOp.sub (ys769.getD 0 default) (AV.int 1)) 0))) ∧
              (((isT (AV.bin Go.BinOp.leq (AV.cel (AV.atAgg x0 (ys769.getD 0 default) 0 6) 0) (AV.at x0 (AV.bin Go.BinOp.sub (ys769.getD 0 default) (AV.int 1)) 0))) →
                ((AV.flat (AV.int 12)) ∧
                (fSame (AV.int 12) r))) ∧
              ((isF (AV.bin Go.BinOp.leq (AV.cel (AV.atAgg x0 (ys769.getD 0 default) 0 6) 0) (AV.at x0 (AV.bin Go.BinOp.sub (ys769.getD 0 default) (AV.int 1)) 0))) →
                (∃ r3137 : AV, ((Fn Tryz.prog 25 [(AV.agg [(AV.cel (AV.atAgg x0 (ys769.getD 0 default) 0 6) 1), (AV.cel (AV.atAgg x0 (ys769.getD 0 default) 0 6) 2)])] Sh.sc r3137) ∧
                ((AV.binOk Go.BinOp.neq r3137 (AV.int 0)) ∧
                ((AV.isBool (AV.bin Go.BinOp.neq r3137 (AV.int 0))) ∧
                (((isT (AV.bin Go.BinOp.neq r3137 (AV.int 0))) →
                  ((AV.flat r3137) ∧
                  (fSame r3137 r))) ∧
                ((isF (AV.bin Go.BinOp.neq r3137 (AV.int 0))) →
                  ((AV.binOk Go.BinOp.lss (AV.cel (AV.atAgg x0 (ys769.getD 0 default) 0 6) 3) (AV.int 0)) ∧
                  ((AV.isBool (AV.bin Go.BinOp.lss (AV.cel (AV.atAgg x0 (ys769.getD 0 default) 0 6) 3) (AV.int 0))) ∧
                  (((isT (AV.bin Go.BinOp.lss (AV.cel (AV.atAgg x0 (ys769.getD 0 default) 0 6) 3) (AV.int 0))) →
                    ((AV.isBool (AV.bin Go.BinOp.lss (AV.cel (AV.atAgg x0 (ys769.getD 0 default) 0 6) 3) (AV.int 0))) ∧
                    ((isT (AV.bin Go.BinOp.lss (AV.cel (AV.atAgg x0 (ys769.getD 0 default) 0 6) 3) (AV.int 0))) ∧
                    ((AV.flat (AV.int 4)) ∧
                    (fSame (AV.int 4) r))))) ∧
                  ((isF (AV.bin Go.BinOp.lss (AV.cel (AV.atAgg x0 (ys769.getD 0 default) 0 6) 3) (AV.int 0))) →
                    ((AV.binOk Go.BinOp.gtr (AV.cel (AV.atAgg x0 (ys769.getD 0 default) 0 6) 3) (AV.int 60000)) ∧
                    ((AV.isBool (AV.bin Go.BinOp.lss (AV.cel (AV.atAgg x0 (ys769.getD 0 default) 0 6) 3) (AV.int 0))) ∧
                    ((isF (AV.bin Go.BinOp.lss (AV.cel (AV.atAgg x0 (ys769.getD 0 default) 0 6) 3) (AV.int 0))) ∧
                    ((AV.isBool (AV.bin Go.BinOp.gtr (AV.cel (AV.atAgg x0 (ys769.getD 0 default) 0 6) 3) (AV.int 60000))) ∧
                    (((isT (AV.bin Go.BinOp.gtr (AV.cel (AV.atAgg x0 (ys769.getD 0 default) 0 6) 3) (AV.int 60000))) →
                      ((AV.isBool (AV.bin Go.BinOp.gtr (AV.cel (AV.atAgg x0 (ys769.getD 0 default) 0 6) 3) (AV.int 60000))) ∧
                      ((isT (AV.bin Go.BinOp.gtr (AV.cel (AV.atAgg x0 (ys769.getD 0 default) 0 6) 3) (AV.int 60000))) ∧
                      ((AV.flat (AV.int 4)) ∧
                      (fSame (AV.int 4) r))))) ∧
                    ((isF (AV.bin Go.BinOp.gtr (AV.cel (AV.atAgg x0 (ys769.getD 0 default) 0 6) 3) (AV.int 60000))) →
                      ((AV.binOk Go.BinOp.lss (AV.cel (AV.atAgg x0 (ys769.getD 0 default) 0 6) 4) (AV.int 0)) ∧
                      ((AV.isBool (AV.bin Go.BinOp.gtr (AV.cel (AV.atAgg x0 (ys769.getD 0 default) 0 6) 3) (AV.int 60000))) ∧
                      ((isF (AV.bin Go.BinOp.gtr (AV.cel (AV.atAgg x0 (ys769.getD 0 default) 0 6) 3) (AV.int 60000))) ∧
                      ((AV.isBool (AV.bin Go.BinOp.lss (AV.cel (AV.atAgg x0 (ys769.getD 0 default) 0 6) 4) (AV.int 0))) ∧
                      (((isT (AV.bin Go.BinOp.lss (AV.cel (AV.atAgg x0 (ys769.getD 0 default) 0 6) 4) (AV.int 0))) →
                        ((AV.isBool (AV.bin Go.BinOp.lss (AV.cel (AV.atAgg x0 (ys769.getD 0 default) 0 6) 4) (AV.int 0))) ∧
                        ((isT (AV.bin Go.BinOp.lss (AV.cel (AV.atAgg x0 (ys769.getD 0 default) 0 6) 4) (AV.int 0))) ∧
                        ((AV.flat (AV.int 4)) ∧
                        (fSame (AV.int 4) r))))) ∧
                      ((isF (AV.bin Go.BinOp.lss (AV.cel (AV.atAgg x0 (ys769.getD 0 default) 0 6) 4) (AV.int 0))) →
                        ((AV.binOk Go.BinOp.gtr (AV.cel (AV.atAgg x0 (ys769.getD 0 default) 0 6) 4) (AV.int 1000000)) ∧
                        ((AV.isBool (AV.bin Go.BinOp.lss (AV.cel (AV.atAgg x0 (ys769.getD 0 default) 0 6) 4) (AV.int 0))) ∧
                        ((isF (AV.bin Go.BinOp.lss (AV.cel (AV.atAgg x0 (ys769.getD 0 default) 0 6) 4) (AV.int 0))) ∧
                        ((AV.isBool (AV.bin Go.BinOp.gtr (AV.cel (AV.atAgg x0 (ys769.getD 0 default) 0 6) 4) (AV.int 1000000))) ∧
                        (((isT (AV.bin Go.BinOp.gtr (AV.cel (AV.atAgg x0 (ys769.getD 0 default) 0 6) 4) (AV.int 1000000))) →
                          ((AV.isBool (AV.bin Go.BinOp.gtr (AV.cel (AV.atAgg x0 (ys769.getD 0 default) 0 6) 4) (AV.int 1000000))) ∧
                          ((isT (AV.bin Go.BinOp.gtr (AV.cel (AV.atAgg x0 (ys769.getD 0 default) 0 6) 4) (AV.int 1000000))) ∧
                          ((AV.flat (AV.int 4)) ∧
                          (fSame (AV.int 4) r))))) ∧
                        ((isF (AV.bin Go.BinOp.gtr (AV.cel (AV.atAgg x0 (ys769.getD 0 default) 0 6) 4) (AV.int 1000000))) →
                          ((AV.binOk Go.BinOp.lss (AV.cel (AV.atAgg x0 (ys769.getD 0 default) 0 6) 5) (AV.int 0)) ∧
                          ((AV.isBool (AV.bin Go.BinOp.gtr (AV.cel (AV.atAgg x0 (ys769.getD 0 default) 0 6) 4) (AV.int 1000000))) ∧
                          ((isF (AV.bin Go.BinOp.gtr (AV.cel (AV.atAgg x0 (ys769.getD 0 default) 0 6) 4) (AV.int 1000000))) ∧
                          ((AV.isBool (AV.bin Go.BinOp.lss (AV.cel (AV.atAgg x0 (ys769.getD 0 default) 0 6) 5) (AV.int 0))) ∧
                          (((isT (AV.bin Go.BinOp.lss (AV.cel (AV.atAgg x0 (ys769.getD 0 default) 0 6) 5) (AV.int 0))) →
                            ((AV.isBool (AV.bin Go.BinOp.lss (AV.cel (AV.atAgg x0 (ys769.getD 0 default) 0 6) 5) (AV.int 0))) ∧
                            ((isT (AV.bin Go.BinOp.lss (AV.cel (AV.atAgg x0 (ys769.getD 0 default) 0 6) 5) (AV.int 0))) ∧
                            ((AV.flat (AV.int 4)) ∧
                            (fSame (AV.int 4) r))))) ∧
                          ((isF (AV.bin Go.BinOp.lss (AV.cel (AV.atAgg x0 (ys769.getD 0 default) 0 6) 5) (AV.int 0))) →
                            ((AV.binOk Go.BinOp.gtr (AV.cel (AV.atAgg x0 (ys769.getD 0 default) 0 6) 5) (AV.int 60000)) ∧
                            ((AV.isBool (AV.bin Go.BinOp.lss (AV.cel (AV.atAgg x0 (ys769.getD 0 default) 0 6) 5) (AV.int 0))) ∧
                            ((isF (AV.bin Go.BinOp.lss (AV.cel (AV.atAgg x0 (ys769.getD 0 default) 0 6) 5) (AV.int 0))) ∧
                            ((AV.isBool (AV.bin Go.BinOp.gtr (AV.cel (AV.atAgg x0 (ys769.getD 0 default) 0 6) 5) (AV.int 60000))) ∧
                            (((isT (AV.bin Go.BinOp.gtr (AV.cel (AV.atAgg x0 (ys769.getD 0 default) 0 6) 5) (AV.int 60000))) →
                              ((AV.flat (AV.int 4)) ∧
                              (fSame (AV.int 4) r))) ∧
                            ((isF (AV.bin Go.BinOp.gtr (AV.cel (AV.atAgg x0 (ys769.getD 0 default) 0 6) 5) (AV.int 60000))) →
                              ((AV.binOk Go.BinOp.add (ys769.getD 0 default) (AV.int 1)) ∧
                              (again769 [(AV.bin Go.BinOp.add (ys769.getD 0 default) (AV.int 1))])))))))))))))))))))))))))))))))))))))))))))))))))))))) ∧
            ((isF (AV.bin Go.BinOp.gtr (ys769.getD 0 default) (AV.int 0))) →
              ((AV.isBool (AV.bin Go.BinOp.gtr (ys769.getD 0 default) (AV.int 0))) ∧
              ((isF (AV.bin Go.BinOp.gtr (ys769.getD 0 default) (AV.int 0))) ∧
              ((AV.isBool (AV.bin Go.BinOp.gtr (AV.cel (AV.atAgg x0 (ys769.getD 0 default) 0 6) 0) (AV.int 200000))) ∧
              ((isF (AV.bin Go.BinOp.gtr (AV.cel (AV.atAgg x0 (ys769.getD 0 default) 0 6) 0) (AV.int 200000))) ∧
              (∃ r3137 : AV, ((Fn Tryz.prog 25 [(AV.agg [(AV.cel (AV.atAgg x0 (ys769.getD 0 default) 0 6) 1), (AV.cel (AV.atAgg x0 (ys769.getD 0 default) 0 6) 2)])] Sh.sc r3137) ∧
              ((AV.binOk Go.BinOp.neq r3137 (AV.int 0)) ∧
              ((AV.isBool (AV.bin Go.BinOp.neq r3137 (AV.int 0))) ∧
              (((isT (AV.bin Go.BinOp.neq r3137 (AV.int 0))) →
                ((AV.flat r3137) ∧
                (fSame r3137 r))) ∧
              ((isF (AV.bin Go.BinOp.neq r3137 (AV.int 0))) →
                ((AV.binOk Go.BinOp.lss (AV.cel (AV.atAgg x0 (ys769.getD 0 default) 0 6) 3) (AV.int 0)) ∧
                ((AV.isBool (AV.bin Go.BinOp.lss (AV.cel (AV.atAgg x0 (ys769.getD 0 default) 0 6) 3) (AV.int 0))) ∧
                (((isT (AV.bin Go.BinOp.lss (AV.cel (AV.atAgg x0 (ys769.getD 0 default) 0 6) 3) (AV.int 0))) →
                  ((AV.isBool (AV.bin Go.BinOp.lss (AV.cel (AV.atAgg x0 (ys769.getD 0 default) 0 6) 3) (AV.int 0))) ∧
                  ((isT (AV.bin Go.BinOp.lss (AV.cel (AV.atAgg x0 (ys769.getD 0 default) 0 6) 3) (AV.int 0))) ∧
                  ((AV.flat (AV.int 4)) ∧
                  (fSame (AV.int 4) r))))) ∧
                ((isF (AV.bin Go.BinOp.lss (AV.cel (AV.atAgg x0 (ys769.getD 0 default) 0 6) 3) (AV.int 0))) →
                  ((AV.binOk Go.BinOp.gtr (AV.cel (AV.atAgg x0 (ys769.getD 0 default) 0 6) 3) (AV.int 60000)) ∧
                  ((AV.isBool (AV.bin Go.BinOp.lss (AV.cel (AV.atAgg x0 (ys769.getD 0 default) 0 6) 3) (AV.int 0))) ∧
                  ((isF (AV.bin Go.BinOp.lss (AV.cel (AV.atAgg x0 (ys769.getD 0 default) 0 6) 3) (AV.int 0))) ∧
                  ((AV.isBool (AV.bin Go.BinOp.gtr (AV.cel (AV.atAgg x0 (ys769.getD 0 default) 0 6) 3) (AV.int 60000))) ∧
                  (((isT (AV.bin Go.BinOp.gtr (AV.cel (AV.atAgg x0 (ys769.getD 0 default) 0 6) 3) (AV.int 60000))) →
                    ((AV.isBool (AV.bin Go.BinOp.gtr (AV.cel (AV.atAgg x0 (ys769.getD 0 default) 0 6) 3) (AV.int 60000))) ∧
                    ((isT (AV.bin Go.BinOp.gtr (AV.cel (AV.atAgg x0 (ys769.getD 0 default) 0 6) 3) (AV.int 60000))) ∧
                    ((AV.flat (AV.int 4)) ∧
                    (fSame (AV.int 4) r))))) ∧
                  ((isF (AV.bin Go.BinOp.gtr (AV.cel (AV.atAgg x0 (ys769.getD 0 default) 0 6) 3) (AV.int 60000))) →
                    ((AV.binOk Go.BinOp.lss (AV.cel (AV.atAgg x0 (ys769.getD 0 default) 0 6) 4) (AV.int 0)) ∧
                    ((AV.isBool (AV.bin Go.BinOp.gtr (AV.cel (AV.atAgg x0 (ys769.getD 0 default) 0 6) 3) (AV.int 60000))) ∧
                    ((isF (AV.bin Go.BinOp.gtr (AV.cel (AV.atAgg x0 (ys769.getD 0 default) 0 6) 3) (AV.int 60000))) ∧
                    ((AV.isBool (AV.bin Go.BinOp.lss (AV.cel (AV.atAgg x0 (ys769.getD 0 default) 0 6) 4) (AV.int 0))) ∧
                    (((isT (AV.bin Go.BinOp.lss (AV.cel (AV.atAgg x0 (ys769.getD 0 default) 0 6) 4) (AV.int 0))) →
                      ((AV.isBool (AV.bin Go.BinOp.lss (AV.cel (AV.atAgg x0 (ys769.getD 0 default) 0 6) 4) (AV.int 0))) ∧
                      ((isT (AV.bin Go.BinOp.lss (AV.cel (AV.atAgg x0 (ys769.getD 0 default) 0 6) 4) (AV.int 0))) ∧
                      ((AV.flat (AV.int 4)) ∧
                      (fSame (AV.int 4) r))))) ∧
                    ((isF (AV.bin Go.BinOp.lss (AV.cel (AV.atAgg x0 (ys769.getD 0 default) 0 6) 4) (AV.int 0))) →
                      ((AV.binOk Go.BinOp.gtr (AV.cel (AV.atAgg x0 (ys769.getD 0 default) 0 6) 4) (AV.int 1000000)) ∧
                      ((AV.isBool (AV.bin Go.BinOp.lss (AV.cel (AV.atAgg x0 (ys769.getD 0 default) 0 6) 4) (AV.int 0))) ∧
                      ((isF (AV.bin Go.BinOp.lss (AV.cel (AV.atAgg x0 (ys769.getD 0 default) 0 6) 4) (AV.int 0))) ∧
                      ((AV.isBool (AV.bin Go.BinOp.gtr (AV.cel (AV.atAgg x0 (ys769.getD 0 default) 0 6) 4) (AV.int 1000000))) ∧
                      (((isT (AV.bin Go.BinOp.gtr (AV.cel (AV.atAgg x0 (ys769.getD 0 default) 0 6) 4) (AV.int 1000000))) →
                        ((AV.isBool (AV.bin Go.BinOp.gtr (AV.cel (AV.atAgg x0 (ys769.getD 0 default) 0 6) 4) (AV.int 1000000))) ∧
                        ((isT (AV.bin Go.BinOp.gtr (AV.cel (AV.atAgg x0 (ys769.getD 0 default) 0 6) 4) (AV.int 1000000))) ∧
                        ((AV.flat (AV.int 4)) ∧
                        (fSame (AV.int 4) r))))) ∧
                      ((isF (AV.bin Go.BinOp.gtr (AV.cel (AV.atAgg x0 (ys769.getD 0 default) 0 6) 4) (AV.int 1000000))) →
                        ((AV.binOk Go.BinOp.lss (AV.cel (AV.atAgg x0 (ys769.getD 0 default) 0 6) 5) (AV.int 0)) ∧
                        ((AV.isBool (AV.bin Go.BinOp.gtr (AV.cel (AV.atAgg x0 (ys769.getD 0 default) 0 6) 4) (AV.int 1000000))) ∧
                        ((isF (AV.bin Go.BinOp.gtr (AV.cel (AV.atAgg x0 (ys769.getD 0 default) 0 6) 4) (AV.int 1000000))) ∧
                        ((AV.isBool (AV.bin Go.BinOp.lss (AV.cel (AV.atAgg x0 (ys769.getD 0 default) 0 6) 5) (AV.int 0))) ∧
                        (((isT (AV.bin Go.BinOp.lss (AV.cel (AV.atAgg x0 (ys769.getD 0 default) 0 6) 5) (AV.int 0))) →
                          ((AV.isBool (AV.bin Go.BinOp.lss (AV.cel (AV.atAgg x0 (ys769.getD 0 default) 0 6) 5) (AV.int 0))) ∧
                          ((isT (AV.bin Go.BinOp.lss (AV.cel (AV.atAgg x0 (ys769.getD 0 default) 0 6) 5) (AV.int 0))) ∧
                          ((AV.flat (AV.int 4)) ∧
                          (fSame (AV.int 4) r))))) ∧
                        ((isF (AV.bin Go.BinOp.lss (AV.cel (AV.atAgg x0 (ys769.getD 0 default) 0 6) 5) (AV.int 0))) →
                          ((AV.binOk Go.BinOp.gtr (AV.cel (AV.atAgg x0 (ys769.getD 0 default) 0 6) 5) (AV.int 60000)) ∧
                          ((AV.isBool (AV.bin Go.BinOp.lss (AV.cel (AV.atAgg x0 (ys769.getD 0 default) 0 6) 5) (AV.int 0))) ∧
                          ((isF (AV.bin Go.BinOp.lss (AV.cel (AV.atAgg x0 (ys769.getD 0 default) 0 6) 5) (AV.int 0))) ∧
                          ((AV.isBool (AV.bin Go.BinOp.gtr (AV.cel (AV.atAgg x0 (ys769.getD 0 default) 0 6) 5) (AV.int 60000))) ∧
                          (((isT (AV.bin Go.BinOp.gtr (AV.cel (AV.atAgg x0 (ys769.getD 0 default) 0 6) 5) (AV.int 60000))) →
                            ((AV.flat (AV.int 4)) ∧
                            (fSame (AV.int 4) r))) ∧
                          ((isF (AV.bin Go.BinOp.gtr (AV.cel (AV.atAgg x0 (ys769.getD 0 default) 0 6) 5) (AV.int 60000))) →
                            ((AV.binOk Go.BinOp.add (ys769.getD 0 default) (AV.int 1)) ∧
                            (again769 [(AV.bin Go.BinOp.add (ys769.getD 0 default) (AV.int 1))])))))))))))))))))))))))))))))))))))))))))))))))))))))))))))))))) ∧
      ((isF (AV.bin Go.BinOp.lss (ys769.getD 0 default) (AV.len x0))) →
        ((AV.flat (AV.int 0)) ∧
        (fSame (AV.int 0) r))))))))))))))))))) := by kernel_rfl
theorem ends_form (x0 r : AV) : fnF Tryz.prog Γ ann 3 29 Tryz.f29 (Tryz.f29.body.getD .skip) (.nil) [x0] (.tup [.sc, .sc]) r = (((AV.isSl x0 6) ∧
((AV.inb x0 (AV.int 0)) ∧
((AV.isSl x0 6) ∧
((AV.binOk Go.BinOp.sub (AV.len x0) (AV.int 1)) ∧
((AV.isSl x0 6) ∧
((AV.inb x0 (AV.bin Go.BinOp.sub (AV.len x0) (AV.int 1))) ∧
((AV.flat (AV.at x0 (AV.int 0) 0)) ∧
((AV.flat (AV.at x0 (AV.bin Go.BinOp.sub (AV.len x0) (AV.int 1)) 0)) ∧
(fSame (AV.tup [(AV.at x0 (AV.int 0) 0), (AV.at x0 (AV.bin Go.BinOp.sub (AV.len x0) (AV.int 1)) 0)]) r)))))))))) := by kernel_rfl
theorem at_form (x0 x1 r : AV) : fnF Tryz.prog Γ ann 3 30 Tryz.f30 (Tryz.f30.body.getD .skip) (.nil) [x0, x1] (.sc) r = (((fEnt Tryz.prog 44) ∧
(fAllV fun _ => ((AV.isSl x0 6) ∧
(fLoop 769 [(AV.int 0), (AV.len x0)] fun ys769 again769 =>
  ((AV.binOk Go.BinOp.lss (ys769.getD 0 default) (ys769.getD 1 default)) ∧
  ((AV.isBool (AV.bin Go.BinOp.lss (ys769.getD 0 default) (ys769.getD 1 default))) ∧
  (((isT (AV.bin Go.BinOp.lss (ys769.getD 0 default) (ys769.getD 1 default))) →
    ((AV.binOk Go.BinOp.add (ys769.getD 0 default) (ys769.getD 1 default)) ∧
    ((AV.isInt (AV.bin Go.BinOp.add (ys769.getD 0 default) (ys769.getD 1 default))) ∧
    ((AV.shfOk (AV.conv Go.IntKind.u64 (AV.bin Go.BinOp.add (ys769.getD 0 default) (ys769.getD 1 default))) (AV.lit (Value.int Go.IntKind.u64 1))) ∧
    ((AV.isInt (AV.shf Go.BinOp.shr (AV.conv Go.IntKind.u64 (AV.bin Go.BinOp.add (ys769.getD 0 default) (ys769.getD 1 default))) (AV.lit (Value.int Go.IntKind.u64 1)))) ∧
    ((AV.isSl x0 6) ∧
    ((AV.inb x0 (AV.conv Go.IntKind.i64 (AV.shf Go.BinOp.shr (AV.conv Go.IntKind.u64 (AV.bin Go.BinOp.add (ys769.getD 0 default) (ys769.getD 1 default))) (AV.lit (Value.int Go.IntKind.u64 1))))) ∧
    ((fEnt Tryz.prog 45) ∧
    (fAllV fun _ => ((AV.isAgg (AV.atAgg x0 (AV.conv Go.IntKind.i64 (AV.shf Go.BinOp.shr (AV.conv Go.IntKind.u64 (AV.bin Go.BinOp.add (ys769.getD 0 default) (ys769.getD 1 default))) (AV.lit (Value.int Go.IntKind.u64 1)))) 0 6) 6) ∧
    ((AV.binOk Go.BinOp.sub (AV.cel (AV.atAgg x0 (AV.conv Go.IntKind.i64 (AV.shf Go.BinOp.shr (AV.conv Go.IntKind.u64 (AV.bin Go.BinOp.add (ys769.getD 0 default) (ys769.getD 1 default))) (AV.lit (Value.int Go.IntKind.u64 1)))) 0 6) 0) x1) ∧
    ((AV.binOk Go.BinOp.lss (AV.bin Go.BinOp.sub (AV.cel (AV.atAgg x0 (AV.conv Go.IntKind.i64 (AV.shf Go.BinOp.shr (AV.conv Go.IntKind.u64 (AV.bin Go.BinOp.add (ys769.getD 0 default) (ys769.getD 1 default))) (AV.lit (Value.int Go.IntKind.u64 1)))) 0 6) 0) x1) (AV.int 0)) ∧
    ((AV.isBool (AV.bin Go.BinOp.lss (AV.bin Go.BinOp.sub (AV.cel (AV.atAgg x0 (AV.conv Go.IntKind.i64 (AV.shf Go.BinOp.shr (AV.conv Go.IntKind.u64 (AV.bin Go.BinOp.add (ys769.getD 0 default) (ys769.getD 1 default))) (AV.lit (Value.int Go.IntKind.u64 1)))) 0 6) 0) x1) (AV.int 0))) ∧
    (((isT (AV.bin Go.BinOp.lss (AV.bin Go.BinOp.sub (AV.cel (AV.atAgg x0 (AV.conv Go.IntKind.i64 (AV.shf Go.BinOp.shr (AV.conv Go.IntKind.u64 (AV.bin Go.BinOp.add (ys769.getD 0 default) (ys769.getD 1 default))) (AV.lit (Value.int Go.IntKind.u64 1)))) 0 6) 0) x1) (AV.int 0))) →
      ((AV.binOk Go.BinOp.add (AV.conv Go.IntKind.i64 (AV.shf Go.BinOp.shr (AV.conv Go.IntKind.u64 (AV.bin Go.BinOp.add (ys769.getD 0 default) (ys769.getD 1 default))) (AV.lit (Value.int Go.IntKind.u64 1)))) (AV.int 1)) ∧
      (again769 [(AV.bin Go.BinOp.add (AV.conv Go.IntKind.i64 (AV.shf Go.BinOp.shr (AV.conv Go.IntKind.u64 (AV.bin Go.BinOp.add (ys769.getD 0 default) (ys769.getD 1 default))) (AV.lit (Value.int Go.IntKind.u64 1)))) (AV.int 1)), (ys769.getD 1 default)]))) ∧
    ((isF (AV.bin Go.BinOp.lss (AV.bin Go.BinOp.sub (AV.cel (AV.atAgg x0 (AV.conv Go.IntKind.i64 (AV.shf Go.BinOp.shr (AV.conv Go.IntKind.u64 (AV.bin Go.BinOp.add (ys769.getD 0 default) (ys769.getD 1 default))) (AV.lit (Value.int Go.IntKind.u64 1)))) 0 6) 0) x1) (AV.int 0))) →
      (again769 [(ys769.getD 0 default), (AV.conv Go.IntKind.i64 (AV.shf Go.BinOp.shr (AV.conv Go.IntKind.u64 (AV.bin Go.BinOp.add (ys769.getD 0 default) (ys769.getD 1 default))) (AV.lit (Value.int Go.IntKind.u64 1))))])))))))))))))))) ∧
  ((isF (AV.bin Go.BinOp.lss (ys769.getD 0 default) (ys769.getD 1 default))) →
    ((AV.binOk Go.BinOp.lss (ys769.getD 0 default) (AV.len x0)) ∧
    ((AV.isBool (AV.bin Go.BinOp.lss (ys769.getD 0 default) (AV.len x0))) ∧
    (((isT (AV.bin Go.BinOp.lss (ys769.getD 0 default) (AV.len x0))) →
      ((AV.isSl x0 6) ∧
      ((AV.inb x0 (ys769.getD 0 default)) ∧
      ((fEnt Tryz.prog 45) ∧
      (fAllV fun _ => ((AV.isAgg (AV.atAgg x0 (ys769.getD 0 default) 0 6) 6) ∧
      ((AV.binOk Go.BinOp.sub (AV.cel (AV.atAgg x0 (ys769.getD 0 default) 0 6) 0) x1) ∧
      ((AV.binOk Go.BinOp.eql (AV.bin Go.BinOp.sub (AV.cel (AV.atAgg x0 (ys769.getD 0 default) 0 6) 0) x1) (AV.int 0)) ∧
      ((AV.isBool (AV.bin Go.BinOp.lss (ys769.getD 0 default) (AV.len x0))) ∧
      ((isT (AV.bin Go.BinOp.lss (ys769.getD 0 default) (AV.len x0))) ∧
      ((AV.isBool (AV.bin Go.BinOp.eql (AV.bin Go.BinOp.sub (AV.cel (AV.atAgg x0 (ys769.getD 0 default) 0 6) 0) x1) (AV.int 0))) ∧
      (((isT (AV.bin Go.BinOp.eql (AV.bin Go.BinOp.sub (AV.cel (AV.atAgg x0 (ys769.getD 0 default) 0 6) 0) x1) (AV.int 0))) →
        ((AV.isSl x0 6) ∧
        ((AV.inb x0 (ys769.getD 0 default)) ∧
        ((AV.isAgg (AV.atAgg x0 (ys769.getD 0 default) 0 6) 6) ∧
        ((AV.flat (AV.agg [(AV.cel (AV.atAgg x0 (ys769.getD 0 default) 0 6) 0), (AV.cel (AV.atAgg x0 (ys769.getD 0 default) 0 6) 1), (AV.cel (AV.atAgg x0 (ys769.getD 0 default) 0 6) 2), (AV.cel (AV.atAgg x0 (ys769.getD 0 default) 0 6) 3), (AV.cel (AV.atAgg x0 (ys769.getD 0 default) 0 6) 4), (AV.cel (AV.atAgg x0 (ys769.getD 0 default) 0 6) 5)])) ∧
        (fSame (AV.agg [(AV.cel (AV.atAgg x0 (ys769.getD 0 default) 0 6) 0), (AV.cel (AV.atAgg x0 (ys769.getD 0 default) 0 6) 1), (AV.cel (AV.atAgg x0 (ys769.getD 0 default) 0 6) 2), (AV.cel (AV.atAgg x0 (ys769.getD 0 default) 0 6) 3), (AV.cel (AV.atAgg x0 (ys769.getD 0 default) 0 6) 4), (AV.cel (AV.atAgg x0 (ys769.getD 0 default) 0 6) 5)]) r)))))) ∧
      ((isF (AV.bin Go.BinOp.eql (AV.bin Go.BinOp.sub (AV.cel (AV.atAgg x0 (ys769.getD 0 default) 0 6) 0) x1) (AV.int 0))) →
        ((AV.binOk Go.BinOp.sub (ys769.getD 0 default) (AV.int 1)) ∧
        ((AV.isSl x0 6) ∧
        ((AV.inb x0 (AV.bin Go.BinOp.sub (ys769.getD 0 default) (AV.int 1))) ∧
        ((AV.isSl x0 6) ∧
        ((AV.inb x0 (ys769.getD 0 default)) ∧
        ((AV.isAgg (AV.atAgg x0 (AV.bin Go.BinOp.sub (ys769.getD 0 default) (AV.int 1)) 0 6) 6) ∧
        ((AV.isAgg (AV.atAgg x0 (ys769.getD 0 default) 0 6) 6) ∧
        ((AV.binOk Go.BinOp.sub x1 (AV.cel (AV.atAgg x0 (AV.bin Go.BinOp.sub (ys769.getD 0 default) (AV.int 1)) 0 6) 0)) ∧
        ((AV.binOk Go.BinOp.sub (AV.cel (AV.atAgg x0 (ys769.getD 0 default) 0 6) 0) (AV.cel (AV.atAgg x0 (AV.bin Go.BinOp.sub (ys769.getD 0 default) (AV.int 1)) 0 6) 0)) ∧
        (∃ r5249 : AV, ((Fn Tryz.prog 46 [(AV.agg [(AV.cel (AV.atAgg x0 (AV.bin Go.BinOp.sub (ys769.getD 0 default) (AV.int 1)) 0 6) 1), (AV.cel (AV.atAgg x0 (AV.bin Go.BinOp.sub (ys769.getD 0 default) (AV.int 1)) 0 6) 2)]), (AV.agg [(AV.cel (AV.atAgg x0 (ys769.getD 0 default) 0 6) 1), (AV.cel (AV.atAgg x0 (ys769.getD 0 default) 0 6) 2)]), (AV.bin Go.BinOp.sub x1 (AV.cel (AV.atAgg x0 (AV.bin Go.BinOp.sub (ys769.getD 0 default) (AV.int 1)) 0 6) 0)), (AV.bin Go.BinOp.sub (AV.cel (AV.atAgg x0 (ys769.getD 0 default) 0 6) 0) (AV.cel (AV.atAgg x0 (AV.bin Go.BinOp.sub (ys769.getD 0 default) (AV.int 1)) 0 6) 0))] (Sh.tup [Sh.sc, Sh.sc]) r5249) ∧
        ((AV.isAgg (AV.prj r5249 0) 2) ∧
        ((AV.binOk Go.BinOp.sub (AV.cel (AV.atAgg x0 (ys769.getD 0 default) 0 6) 3) (AV.cel (AV.atAgg x0 (AV.bin Go.BinOp.sub (ys769.getD 0 default) (AV.int 1)) 0 6) 3)) ∧
        ((AV.binOk Go.BinOp.mul (AV.bin Go.BinOp.sub (AV.cel (AV.atAgg x0 (ys769.getD 0 default) 0 6) 3) (AV.cel (AV.atAgg x0 (AV.bin Go.BinOp.sub (ys769.getD 0 default) (AV.int 1)) 0 6) 3)) (AV.bin Go.BinOp.sub x1 (AV.cel (AV.atAgg x0 (AV.bin Go.BinOp.sub (ys769.getD 0 default) (AV.int 1)) 0 6) 0))) ∧
        (∃ r6337 : AV, ((Fn Tryz.prog 47 [(AV.bin Go.BinOp.mul (AV.bin Go.BinOp.sub (AV.cel (AV.atAgg x0 (ys769.getD 0 default) 0 6) 3) (AV.cel (AV.atAgg x0 (AV.bin Go.BinOp.sub (ys769.getD 0 default) (AV.int 1)) 0 6) 3)) (AV.bin Go.BinOp.sub x1 (AV.cel (AV.atAgg x0 (AV.bin Go.BinOp.sub (ys769.getD 0 default) (AV.int 1)) 0 6) 0))), (AV.bin Go.BinOp.sub (AV.cel (AV.atAgg x0 (ys769.getD 0 default) 0 6) 0) (AV.cel (AV.atAgg x0 (AV.bin Go.BinOp.sub (ys769.getD 0 default) (AV.int 1)) 0 6) 0))] (Sh.tup [Sh.sc, Sh.sc]) r6337) ∧
        ((AV.binOk Go.BinOp.sub (AV.cel (AV.atAgg x0 (ys769.getD 0 default) 0 6) 4) (AV.cel (AV.atAgg x0 (AV.bin Go.BinOp.sub (ys769.getD 0 default) (AV.int 1)) 0 6) 4)) ∧
        ((AV.binOk Go.BinOp.mul (AV.bin Go.BinOp.sub (AV.cel (AV.atAgg x0 (ys769.getD 0 default) 0 6) 4) (AV.cel (AV.atAgg x0 (AV.bin Go.BinOp.sub (ys769.getD 0 default) (AV.int 1)) 0 6) 4)) (AV.bin Go.BinOp.sub x1 (AV.cel (AV.atAgg x0 (AV.bin Go.BinOp.sub (ys769.getD 0 default) (AV.int 1)) 0 6) 0))) ∧
        (∃ r7233 : AV, ((Fn Tryz.prog 48 [(AV.bin Go.BinOp.mul (AV.bin Go.BinOp.sub (AV.cel (AV.atAgg x0 (ys769.getD 0 default) 0 6) 4) (AV.cel (AV.atAgg x0 (AV.bin Go.BinOp.sub (ys769.getD 0 default) (AV.int 1)) 0 6) 4)) (AV.bin Go.BinOp.sub x1 (AV.cel (AV.atAgg x0 (AV.bin Go.BinOp.sub (ys769.getD 0 default) (AV.int 1)) 0 6) 0))), (AV.bin Go.BinOp.sub (AV.cel (AV.atAgg x0 (ys769.getD 0 default) 0 6) 0) (AV.cel (AV.atAgg x0 (AV.bin Go.BinOp.sub (ys769.getD 0 default) (AV.int 1)) 0 6) 0))] (Sh.tup [Sh.sc, Sh.sc]) r7233) ∧
        ((AV.binOk Go.BinOp.sub (AV.cel (AV.atAgg x0 (ys769.getD 0 default) 0 6) 5) (AV.cel (AV.atAgg x0 (AV.bin Go.BinOp.sub (ys769.getD 0 default) (AV.int 1)) 0 6) 5)) ∧
        ((AV.binOk Go.BinOp.mul (AV.bin Go.BinOp.sub (AV.cel (AV.atAgg x0 (ys769.getD 0 default) 0 6) 5) (AV.cel (AV.atAgg x0 (AV.bin Go.BinOp.sub (ys769.getD 0 default) (AV.int 1)) 0 6) 5)) (AV.bin Go.BinOp.sub x1 (AV.cel (AV.atAgg x0 (AV.bin Go.BinOp.sub (ys769.getD 0 default) (AV.int 1)) 0 6) 0))) ∧
        (∃ r8129 : AV, ((Fn Tryz.prog 48 [(AV.bin Go.BinOp.mul (AV.bin Go.BinOp.sub (AV.cel (AV.atAgg x0 (ys769.getD 0 default) 0 6) 5) (AV.cel (AV.atAgg x0 (AV.bin Go.BinOp.sub (ys769.getD 0 default) (AV.int 1)) 0 6) 5)) (AV.bin Go.BinOp.sub x1 (AV.cel (AV.atAgg x0 (AV.bin Go.BinOp.sub (ys769.getD 0 default) (AV.int 1)) 0 6) 0))), (AV.bin Go.BinOp.sub (AV.cel (AV.atAgg x0 (ys769.getD 0 default) 0 6) 0) (AV.cel (AV.atAgg x0 (AV.bin Go.BinOp.sub (ys769.getD 0 default) (AV.int 1)) 0 6) 0))] (Sh.tup [Sh.sc, Sh.sc]) r8129) ∧
        ((AV.binOk Go.BinOp.add (AV.cel (AV.atAgg x0 (AV.bin Go.BinOp.sub (ys769.getD 0 default) (AV.int 1)) 0 6) 3) (AV.prj r6337 0)) ∧
        ((AV.isOne x1) ∧
        ((AV.isOne (AV.bin Go.BinOp.add (AV.cel (AV.atAgg x0 (AV.bin Go.BinOp.sub (ys769.getD 0 default) (AV.int 1)) 0 6) 3) (AV.prj r6337 0))) ∧
        ((AV.binOk Go.BinOp.add (AV.cel (AV.atAgg x0 (AV.bin Go.BinOp.sub (ys769.getD 0 default) (AV.int 1)) 0 6) 4) (AV.prj r7233 0)) ∧
        ((AV.binOk Go.BinOp.add (AV.cel (AV.atAgg x0 (AV.bin Go.BinOp.sub (ys769.getD 0 default) (AV.int 1)) 0 6) 5) (AV.prj r8129 0)) ∧
        ((AV.isOne (AV.bin Go.BinOp.add (AV.cel (AV.atAgg x0 (AV.bin Go.BinOp.sub (ys769.getD 0 default) (AV.int 1)) 0 6) 4) (AV.prj r7233 0))) ∧
        ((AV.isOne (AV.bin Go.BinOp.add (AV.cel (AV.atAgg x0 (AV.bin Go.BinOp.sub (ys769.getD 0 default) (AV.int 1)) 0 6) 5) (AV.prj r8129 0))) ∧
        ((AV.flat (AV.agg [x1, (AV.cel (AV.prj r5249 0) 0), (AV.cel (AV.prj r5249 0) 1), (AV.bin Go.BinOp.add (AV.cel (AV.atAgg x0 (AV.bin Go.BinOp.sub (ys769.getD 0 default) (AV.int 1)) 0 6) 3) (AV.prj r6337 0)), (AV.bin Go.BinOp.add (AV.cel (AV.atAgg x0 (AV.bin Go.BinOp.sub (ys769.getD 0 default) (AV.int 1)) 0 6) 4) (AV.prj r7233 0)), (AV.bin Go.BinOp.add (AV.cel (AV.atAgg x0 (AV.bin Go.BinOp.sub (ys769.getD 0 default) (AV.int 1)) 0 6) 5) (AV.prj r8129 0))])) ∧
        (fSame (AV.agg [x1, (AV.cel (AV.prj r5249 0) 0), (AV.cel (AV.prj r5249 0) 1), (AV.bin Go.BinOp.add (AV.cel (AV.atAgg x0 (AV.bin Go.BinOp.sub (ys769.getD 0 default) (AV.int 1)) 0 6) 3) (AV.prj r6337 0)), (AV.bin Go.BinOp.add (AV.cel (AV.atAgg x0 (AV.bin Go.BinOp.sub (ys769.getD 0 default) (AV.int 1)) 0 6) 4) (AV.prj r7233 0)), (AV.bin Go.BinOp.add (AV.cel (AV.atAgg x0 (AV.bin Go.BinOp.sub (ys769.getD 0 default) (AV.int 1)) 0 6) 5) (AV.prj r8129 0))]) r)))))))))))))))))))))))))))))))))))))))))))))) ∧
    ((isF (AV.bin Go.BinOp.lss (ys769.getD 0 default) (AV.len x0))) →
      ((AV.isBool (AV.bin Go.BinOp.lss (ys769.getD 0 default) (AV.len x0))) ∧
      ((isF (AV.bin Go.BinOp.lss (ys769.getD 0 default) (AV.len x0))) ∧
      ((AV.binOk Go.BinOp.sub (ys769.getD 0 default) (AV.int 1)) ∧
      ((AV.isSl x0 6) ∧
      ((AV.inb x0 (AV.bin Go.BinOp.sub (ys769.getD 0 default) (AV.int 1))) ∧
      ((AV.isSl x0 6) ∧
      ((AV.inb x0 (ys769.getD 0 default)) ∧
      ((AV.isAgg (AV.atAgg x0 (AV.bin Go.BinOp.sub (ys769.getD 0 default) (AV.int 1)) 0 6) 6) ∧
      ((AV.isAgg (AV.atAgg x0 (ys769.getD 0 default) 0 6) 6) ∧
      ((AV.binOk Go.BinOp.sub x1 (AV.cel (AV.atAgg x0 (AV.bin Go.BinOp.sub (ys769.getD 0 default) (AV.int 1)) 0 6) 0)) ∧
      ((AV.binOk Go.BinOp.sub (AV.cel (AV.atAgg x0 (ys769.getD 0 default) 0 6) 0) (AV.cel (AV.atAgg x0 (AV.bin Go.BinOp.sub (ys769.getD 0 default) (AV.int 1)) 0 6) 0)) ∧
      (∃ r4673 : AV, ((Fn Tryz.prog 46 [(AV.agg [(AV.cel (AV.atAgg x0 (AV.bin Go.BinOp.sub (ys769.getD 0 default) (AV.int 1)) 0 6) 1), (AV.cel (AV.atAgg x0 (AV.bin Go.BinOp.sub (ys769.getD 0 default) (AV.int 1)) 0 6) 2)]), (AV.agg [(AV.cel (AV.atAgg x0 (ys769.getD 0 default) 0 6) 1), (AV.cel (AV.atAgg x0 (ys769.getD 0 default) 0 6) 2)]), (AV.bin Go.BinOp.sub x1 (AV.cel (AV.atAgg x0 (AV.bin Go.BinOp.sub (ys769.getD 0 default) (AV.int 1)) 0 6) 0)), (AV.bin Go.BinOp.sub (AV.cel (AV.atAgg x0 (ys769.getD 0 default) 0 6) 0) (AV.cel (AV.atAgg x0 (AV.bin Go.BinOp.sub (ys769.getD 0 default) (AV.int 1)) 0 6) 0))] (Sh.tup [Sh.sc, Sh.sc]) r4673) ∧
      ((AV.isAgg (AV.prj r4673 0) 2) ∧
      ((AV.binOk Go.BinOp.sub (AV.cel (AV.atAgg x0 (ys769.getD 0 default) 0 6) 3) (AV.cel (AV.atAgg x0 (AV.bin Go.BinOp.sub (ys769.getD 0 default) (AV.int 1)) 0 6) 3)) ∧
      ((AV.binOk Go.BinOp.mul (AV.bin Go.BinOp.sub (AV.cel (AV.atAgg x0 (ys769.getD 0 default) 0 6) 3) (AV.cel (AV.atAgg x0 (AV.bin Go.BinOp.sub (ys769.getD 0 default) (AV.int 1)) 0 6) 3)) (AV.bin Go.BinOp.sub x1 (AV.cel (AV.atAgg x0 (AV.bin Go.BinOp.sub (ys769.getD 0 default) (AV.int 1)) 0 6) 0))) ∧
      (∃ r5761 : AV, ((Fn Tryz.prog 47 [(AV.bin Go.BinOp.mul (AV.bin Go.BinOp.sub (AV.cel (AV.atAgg x0 (ys769.getD 0 default) 0 6) 3) (AV.cel (AV.atAgg x0 (AV.bin Go.BinOp.sub (ys769.getD 0 default) (AV.int 1)) 0 6) 3)) (AV.bin Go.BinOp.sub x1 (AV.cel (AV.atAgg x0 (AV.bin Go.BinOp.sub (ys769.getD 0 default) (AV.int 1)) 0 6) 0))), (AV.bin Go.BinOp.sub (AV.cel (AV.atAgg x0 (ys769.getD 0 default) 0 6) 0) (AV.cel (AV.atAgg x0 (AV.bin Go.BinOp.sub (ys769.getD 0 default) (AV.int 1)) 0 6) 0))] (Sh.tup [Sh.sc, Sh.sc]) r5761) ∧
      ((AV.binOk Go.BinOp.sub (AV.cel (AV.atAgg x0 (ys769.getD 0 default) 0 6) 4) (AV.cel (AV.atAgg x0 (AV.bin Go.BinOp.sub (ys769.getD 0 default) (AV.int 1)) 0 6) 4)) ∧
      ((AV.binOk Go.BinOp.mul (AV.bin Go.BinOp.sub (AV.cel (AV.atAgg x0 (ys769.getD 0 default) 0 6) 4) (AV.cel (AV.atAgg x0 (AV.bin Go.BinOp.sub (ys769.getD 0 default) (AV.int 1)) 0 6) 4)) (AV.bin Go.BinOp.sub x1 (AV.cel (AV.atAgg x0 (AV.bin Go.BinOp.sub (ys769.getD 0 default) (AV.int 1)) 0 6) 0))) ∧
      (∃ r6657 : AV, ((Fn Tryz.prog 48 [(AV.bin Go.BinOp.mul (AV.bin Go.BinOp.sub (AV.cel (AV.atAgg x0 (ys769.getD 0 default) 0 6) 4) (AV.cel (AV.atAgg x0 (AV.bin Go.BinOp.sub (ys769.getD 0 default) (AV.int 1)) 0 6) 4)) (AV.bin Go.BinOp.sub x1 (AV.cel (AV.atAgg x0 (AV.bin Go.BinOp.sub (ys769.getD 0 default) (AV.int 1)) 0 6) 0))), (AV.bin Go.BinOp.sub (AV.cel (AV.atAgg x0 (ys769.getD 0 default) 0 6) 0) (AV.cel (AV.atAgg x0 (AV.bin Go.BinOp.sub (ys769.getD 0 default) (AV.int 1)) 0 6) 0))] (Sh.tup [Sh.sc, Sh.sc]) r6657) ∧
      ((AV.binOk Go.BinOp.sub (AV.cel (AV.atAgg x0 (ys769.getD 0 default) 0 6) 5) (AV.cel (AV.atAgg x0 (AV.bin Go.BinOp.sub (ys769.getD 0 default) (AV.int 1)) 0 6) 5)) ∧
      ((AV.binOk Go.BinOp.mul (AV.bin Go.BinOp.sub (AV.cel (AV.atAgg x0 (ys769.getD 0 default) 0 6) 5) (AV.cel (AV.atAgg x0 (AV.bin Go.BinOp.sub (ys769.getD 0 default) (AV.int 1)) 0 6) 5)) (AV.bin Go.BinOp.sub x1 (AV.cel (AV.atAgg x0 (AV.bin Go.BinOp.sub (ys769.getD 0 default) (AV.int 1)) 0 6) 0))) ∧
      (∃ r7553 : AV, ((Fn Tryz.prog 48 [(AV.bin Go.BinOp.mul (AV.bin Go.BinOp.sub (AV.cel (AV.atAgg x0 (ys769.getD 0 default) 0 6) 5) (AV.cel (AV.atAgg x0 (AV.bin Go.BinOp.sub (ys769.getD 0 default) (AV.int 1)) 0 6) 5)) (AV.bin Go.BinOp.sub x1 (AV.cel (AV.atAgg x0 (AV.bin Go.BinOp.sub (ys769.getD 0 default) (AV.int 1)) 0 6) 0))), (AV.bin Go.BinOp.sub (AV.cel (AV.atAgg x0 (ys769.getD 0 default) 0 6) 0) (AV.cel (AV.atAgg x0 (AV.bin Go.BinOp.sub (ys769.getD 0 default) (AV.int 1)) 0 6) 0))] (Sh.tup [Sh.sc, Sh.sc]) r7553) ∧
      ((AV.binOk Go.BinOp.add (AV.cel (AV.atAgg x0 (AV.bin Go.BinOp.sub (ys769.getD 0 default) (AV.int 1)) 0 6) 3) (AV.prj r5761 0)) ∧
      ((AV.isOne x1) ∧
      ((AV.isOne (AV.bin Go.BinOp.add (AV.cel (AV.atAgg x0 (AV.bin Go.BinOp.sub (ys769.getD 0 default) (AV.int 1)) 0 6) 3) (AV.prj r5761 0))) ∧
      ((AV.binOk Go.BinOp.add (AV.cel (AV.atAgg x0 (AV.bin Go.BinOp.sub (ys769.getD 0 default) (AV.int 1)) 0 6) 4) (AV.prj r6657 0)) ∧
      ((AV.binOk Go.BinOp.add (AV.cel (AV.atAgg x0 (AV.bin Go.BinOp.sub (ys769.getD 0 default) (AV.int 1)) 0 6) 5) (AV.prj r7553 0)) ∧
      ((AV.isOne (AV.bin Go.BinOp.add (AV.cel (AV.atAgg x0 (AV.bin Go.BinOp.sub (ys769.getD 0 default) (AV.int 1)) 0 6) 4) (AV.prj r6657 0))) ∧
      ((AV.isOne (AV.bin Go.BinOp.add (AV.cel (AV.atAgg x0 (AV.bin Go.BinOp.sub (ys769.getD 0 default) (AV.int 1)) 0 6) 5) (AV.prj r7553 0))) ∧
      ((AV.flat (AV.agg [x1, (AV.cel (AV.prj r4673 0) 0), (AV.cel (AV.prj r4673 0) 1), (AV.bin Go.BinOp.add (AV.cel (AV.atAgg x0 (AV.bin Go.BinOp.sub (ys769.getD 0 default) (AV.int 1)) 0 6) 3) (AV.prj r5761 0)), (AV.bin Go.BinOp.add (AV.cel (AV.atAgg x0 (AV.bin Go.BinOp.sub (ys769.getD 0 default) (AV.int 1)) 0 6) 4) (AV.prj r6657 0)), (AV.bin Go.BinOp.add (AV.cel (AV.atAgg x0 (AV.bin Go.BinOp.sub (ys769.getD 0 default) (AV.int 1)) 0 6) 5) (AV.prj r7553 0))])) ∧
      (fSame (AV.agg [x1, (AV.cel (AV.prj r4673 0) 0), (AV.cel (AV.prj r4673 0) 1), (AV.bin Go.BinOp.add (AV.cel (AV.atAgg x0 (AV.bin Go.BinOp.sub (ys769.getD 0 default) (AV.int 1)) 0 6) 3) (AV.prj r5761 0)), (AV.bin Go.BinOp.add (AV.cel (AV.atAgg x0 (AV.bin Go.BinOp.sub (ys769.getD 0 default) (AV.int 1)) 0 6) 4) (AV.prj r6657 0)), (AV.bin Go.BinOp.add (AV.cel (AV.atAgg x0 (AV.bin Go.BinOp.sub (ys769.getD 0 default) (AV.int 1)) 0 6) 5) (AV.prj r7553 0))]) r)))))))))))))))))))))))))))))))))))))))))))))))) := by kernel_rfl
theorem tat_form (x0 x1 r : AV) : fnF Tryz.prog Γ ann 3 9 Tryz.f9 (Tryz.f9.body.getD .skip) (.nil) [x0, x1] (.tup [.sc, .sc]) r = ((∃ r193 : AV, ((Fn Tryz.prog 6 [x0] Sh.sc r193) ∧
((AV.binOk Go.BinOp.neq r193 (AV.int 0)) ∧
((AV.isBool (AV.bin Go.BinOp.neq r193 (AV.int 0))) ∧
(((isT (AV.bin Go.BinOp.neq r193 (AV.int 0))) →
  ((AV.flat (AV.agg [(AV.int 0), (AV.int 0), (AV.int 0), (AV.int 0), (AV.int 0), (AV.int 0)])) ∧
  ((AV.flat r193) ∧
  (fSame (AV.tup [(AV.agg [(AV.int 0), (AV.int 0), (AV.int 0), (AV.int 0), (AV.int 0), (AV.int 0)]), r193]) r)))) ∧
((isF (AV.bin Go.BinOp.neq r193 (AV.int 0))) →
  (∃ r513 : AV, ((Fn Tryz.prog 29 [x0] (Sh.tup [Sh.sc, Sh.sc]) r513) ∧
  ((AV.binOk Go.BinOp.lss x1 (AV.prj r513 0)) ∧
  ((AV.isBool (AV.bin Go.BinOp.lss x1 (AV.prj r513 0))) ∧
  (((isT (AV.bin Go.BinOp.lss x1 (AV.prj r513 0))) →
    ((AV.isBool (AV.bin Go.BinOp.lss x1 (AV.prj r513 0))) ∧
    ((isT (AV.bin Go.BinOp.lss x1 (AV.prj r513 0))) ∧
    ((AV.flat (AV.agg [(AV.int 0), (AV.int 0), (AV.int 0), (AV.int 0), (AV.int 0), (AV.int 0)])) ∧
    ((AV.flat (AV.int 12)) ∧
    (fSame (AV.tup [(AV.agg [(AV.int 0), (AV.int 0), (AV.int 0), (AV.int 0), (AV.int 0), (AV.int 0)]), (AV.int 12)]) r)))))) ∧
  ((isF (AV.bin Go.BinOp.lss x1 (AV.prj r513 0))) →
    ((AV.binOk Go.BinOp.gtr x1 (AV.prj r513 1)) ∧
    ((AV.isBool (AV.bin Go.BinOp.lss x1 (AV.prj r513 0))) ∧
    ((isF (AV.bin Go.BinOp.lss x1 (AV.prj r513 0))) ∧
    ((AV.isBool (AV.bin Go.BinOp.gtr x1 (AV.prj r513 1))) ∧
    (((isT (AV.bin Go.BinOp.gtr x1 (AV.prj r513 1))) →
      ((AV.flat (AV.agg [(AV.int 0), (AV.int 0), (AV.int 0), (AV.int 0), (AV.int 0), (AV.int 0)])) ∧
      ((AV.flat (AV.int 12)) ∧
      (fSame (AV.tup [(AV.agg [(AV.int 0), (AV.int 0), (AV.int 0), (AV.int 0), (AV.int 0), (AV.int 0)]), (AV.int 12)]) r)))) ∧
    ((isF (AV.bin Go.BinOp.gtr x1 (AV.prj r513 1))) →
      (∃ r1537 : AV, ((Fn Tryz.prog 30 [x0, x1] Sh.sc r1537) ∧
      ((AV.isAgg r1537 6) ∧
      ((AV.flat (AV.agg [(AV.cel r1537 0), (AV.cel r1537 1), (AV.cel r1537 2), (AV.cel r1537 3), (AV.cel r1537 4), (AV.cel r1537 5)])) ∧
      ((AV.flat (AV.int 0)) ∧
      (fSame (AV.tup [(AV.agg [(AV.cel r1537 0), (AV.cel r1537 1), (AV.cel r1537 2), (AV.cel r1537 3), (AV.cel r1537 4), (AV.cel r1537 5)]), (AV.int 0)]) r))))))))))))))))))))))))) := by kernel_rfl
end SecF
end Go.Proofs.YtacfofpbbempaaaGreatDoor
/- planes and segments. -/
namespace Go.Proofs.YtacfofpbbempaaaGreatDoor
open Go.RowKit
set_option linter.unusedVariables false
set_option linter.unusedSimpArgs false
set_option maxRecDepth 100000
structure Pt where
  x : Int
  y : Int
  deriving DecidableEq, Inhabited
def encP (p : Pt) : List AV := [.int p.x, .int p.y]
abbrev pt (p : Pt) : AV := .agg (encP p)
abbrev pts (l : List Pt) : AV := lst 2 encP l
def wr (n : Int) : Int := IntKind.i64.wrap n
@[simp] theorem wr_eq (n : Int) : IntKind.i64.wrap n = wr n := rfl
theorem wr_id {n : Int} (h1 : -9223372036854775808 ≤ n) (h2 : n ≤ 9223372036854775807) : wr n = n := wrap64 h1 h2
def subP (a b : Pt) : Pt := ⟨wr (a.x - b.x), wr (a.y - b.y)⟩
def dotP (a b : Pt) : Int := wr (wr (a.x * b.x) + wr (a.y * b.y))
def crossP (a b : Pt) : Int := wr (wr (a.x * b.y) - wr (a.y * b.x))
def turnP (a b c : Pt) : Int := if 0 < crossP (subP b a) (subP c a) then 1 else if crossP (subP b a) (subP c a) < 0 then -1 else 0
def sqrP (a b : Pt) : Int := dotP (subP a b) (subP a b)
def pE (p : Pt) : Int := if p.x < -1000000 ∨ p.x > 1000000 ∨ p.y < -1000000 ∨ p.y > 1000000 then 4 else 0
theorem pE_ok {p : Pt} (h : pE p = 0) : -1000000 ≤ p.x ∧ p.x ≤ 1000000 ∧ -1000000 ≤ p.y ∧ p.y ≤ 1000000 := by
  unfold pE at h
  split at h
  · cases h
  · omega
theorem pe_fn (p : Pt) : Fn Tryz.prog 25 [pt p] .sc (.int (pE p)) := by
  refine fn_run mixed 3 (Γ := SecF.Γ) (ann := SecF.ann) Tryz.func25 rfl Tryz.call25 ((SecF.pcheck_form _ _).mpr ?_)
  obtain ⟨x, y⟩ := p
  simp [encP]
  have h4 : (x < -1000000 ∨ x > 1000000 ∨ y < -1000000 ∨ y > 1000000) → 4 = pE ⟨x, y⟩ := fun h => by unfold pE; rw [if_pos h]
  have h0 : ¬ (x < -1000000 ∨ x > 1000000 ∨ y < -1000000 ∨ y > 1000000) → 0 = pE ⟨x, y⟩ := fun h => by unfold pE; rw [if_neg h]
  refine ⟨fun a => ⟨a, h4 (by omega)⟩, fun a => ⟨a, fun b => ⟨b, h4 (by omega)⟩, fun b => ⟨b, fun c => ⟨c, h4 (by omega)⟩, fun c => ⟨c, fun d => h4 (by omega), fun d => h0 (by omega)⟩⟩⟩⟩
theorem sub_fn (a b : Pt) : Fn Tryz.prog 41 [pt a, pt b] .sc (pt (subP a b)) := by
  refine fn_run mixed 3 (Γ := SecF.Γ) (ann := SecF.ann) Tryz.func41 rfl Tryz.call41 ((SecF.sub_form _ _ _).mpr ?_)
  simp [encP, subP]
theorem dot_fn (a b : Pt) : Fn Tryz.prog 55 [pt a, pt b] .sc (.int (dotP a b)) := by
  refine fn_run mixed 3 (Γ := SecF.Γ) (ann := SecF.ann) Tryz.func55 rfl Tryz.call55 ((SecF.dot_form _ _ _).mpr ?_)
  simp [encP, dotP]
theorem sqr_fn (a b : Pt) : Fn Tryz.prog 35 [pt a, pt b] .sc (.int (sqrP a b)) := by
  refine fn_run mixed 3 (Γ := SecF.Γ) (ann := SecF.ann) Tryz.func35 rfl Tryz.call35 ((SecF.square_form _ _ _).mpr ?_)
  refine ⟨by simp [encP], by simp [encP], _, sub_fn a b, by simp [encP], _, dot_fn _ _, ?_⟩
  simp [sqrP]
def nextP (l : List Pt) (i : Nat) : Pt := l.getD ((i + 1) % l.length) default
def mnI (a b : Int) : Int := if b < a then b else a
def mxI (a b : Int) : Int := if a < b then b else a
def betw (a b c : Pt) : Bool := decide (mnI a.x b.x ≤ c.x) && decide (c.x ≤ mxI a.x b.x) && decide (mnI a.y b.y ≤ c.y) && decide (c.y ≤ mxI a.y b.y)
def onS (a b c : Pt) : Bool := decide (turnP a b c = 0) && betw a b c
def crs (a b c d : Pt) : Bool := decide (wr (turnP a b c * turnP a b d) < 0) && decide (wr (turnP c d a * turnP c d b) < 0)
def comS (a b c d : Pt) : Bool := crs a b c d || onS a b c || onS a b d || onS c d a || onS c d b
end Go.Proofs.YtacfofpbbempaaaGreatDoor
/- tubes: quotients, points on the way, what is checked. -/
namespace Go.Proofs.YtacfofpbbempaaaGreatDoor
open Go.RowKit
set_option linter.unusedVariables false
set_option linter.unusedSimpArgs false
set_option maxRecDepth 100000
theorem quo_of (a b : Int) (hb : 0 < b) : (¬ a.tmod b = 0 → a < 0 → a.tdiv b - 1 = a / b) ∧ (¬ (¬ a.tmod b = 0 ∧ a < 0) → a.tdiv b = a / b) := by
  have h1 := Int.tdiv_eq_ediv (a := a) (b := b)
  have h2 := Int.tmod_eq_emod (a := a) (b := b)
  have h3 : b.sign = 1 := Int.sign_eq_one_of_pos hb
  have h4 : (b ∣ a) ↔ a % b = 0 := Int.dvd_iff_emod_eq_zero
  by_cases h : 0 ≤ a ∨ b ∣ a
  · rw [if_pos h] at h1 h2
    refine ⟨fun q1 q2 => ?_, fun _ => by omega⟩
    rcases h with h | h
    · omega
    · have := h4.1 h; omega
  · rw [if_neg h, h3] at h1
    rw [if_neg h] at h2
    have h5 : ¬ 0 ≤ a := fun q => h (.inl q)
    have h6 : ¬ b ∣ a := fun q => h (.inr q)
    have h7 : ¬ a % b = 0 := fun q => h6 (h4.2 q)
    have h8 : ¬ a.tmod b = 0 := by
      have l1 := Int.emod_nonneg a (show b ≠ 0 by omega)
      have l2 := Int.emod_lt_of_pos a hb
      omega
    exact ⟨fun _ _ => by omega, fun q => absurd ⟨h8, by omega⟩ q⟩
theorem quo_bd {a b : Int} (hb : 0 < b) (h1 : -1000000000000 ≤ a) (h2 : a ≤ 1000000000000) : -1000000000000 ≤ a / b ∧ a / b ≤ 1000000000000 ∧ -1000000000000 ≤ a.tdiv b ∧ a.tdiv b ≤ 1000000000000 := by
  have e1 : a / b ≤ 1000000000000 := by
    rcases Int.lt_or_le a 0 with h | h
    · have := Int.ediv_neg_of_neg_of_pos h hb; omega
    · have := Int.ediv_le_self b h; omega
  have e2 : -1000000000000 ≤ a / b := by
    refine (Int.le_ediv_iff_mul_le hb).2 ?_
    have := Int.mul_le_mul_of_nonneg_left (show (1 : Int) ≤ b by omega) (show (0 : Int) ≤ 1000000000000 by omega)
    omega
  obtain ⟨q1, q2⟩ := quo_of a b hb
  refine ⟨e2, e1, ?_, ?_⟩
  · by_cases h : ¬ a.tmod b = 0 ∧ a < 0
    · have := q1 h.1 h.2; omega
    · have := q2 h; omega
  · have h3 := Int.tdiv_eq_ediv (a := a) (b := b)
    have h4 : b.sign = 1 := Int.sign_eq_one_of_pos hb
    rcases Int.lt_or_le a 0 with h | h
    · have := Int.ediv_neg_of_neg_of_pos h hb
      split at h3 <;> omega
    · rw [if_pos (.inl h)] at h3; omega
theorem divd_fn (a b : Int) (hb : 0 < b) (h1 : -1000000000000 ≤ a) (h2 : a ≤ 1000000000000) : Fn Tryz.prog 47 [.int a, .int b] (.tup [.sc, .sc]) (.tup [.int (a / b), .int 0]) := by
  refine fn_run mixed 3 (Γ := SecF.Γ) (ann := SecF.ann) Tryz.func47 rfl Tryz.call47 ((SecF.divd_form _ _ _).mpr ?_)
  obtain ⟨q1, q2⟩ := quo_of a b hb
  obtain ⟨b1, b2, b3, b4⟩ := quo_bd hb h1 h2
  have hw : wr (a.tdiv b) = a.tdiv b := wr_id (by omega) (by omega)
  have hw2 : wr (a.tdiv b - 1) = a.tdiv b - 1 := wr_id (by omega) (by omega)
  have hm : (a == -9223372036854775808) = false := by simp; omega
  have hb0 : (b == 0) = false := by simp; omega
  have hlt : decide (b < 0) = false := by simp; omega
  simp [hb0, hm, hw, hw2, hlt, show ¬ b = 0 by omega]
  generalize a.tmod b = m at *
  generalize a.tdiv b = q at *
  refine ⟨fun h => ⟨h, fun h2 => q1 h h2, fun h2 => q2 (by omega)⟩, fun h => ⟨h, q2 (by omega)⟩⟩
def dvu (a b : Int) : Int := if a.tmod b = 0 then a / b else a / b + 1
theorem dvu_bd {a b : Int} (hb : 0 < b) (h1 : -1000000000000 ≤ a) (h2 : a ≤ 1000000000000) : -1000000000001 ≤ dvu a b ∧ dvu a b ≤ 1000000000001 := by
  obtain ⟨b1, b2, _, _⟩ := quo_bd hb h1 h2
  unfold dvu
  split <;> omega
theorem divu_fn (a b : Int) (hb : 0 < b) (h1 : -1000000000000 ≤ a) (h2 : a ≤ 1000000000000) : Fn Tryz.prog 48 [.int a, .int b] (.tup [.sc, .sc]) (.tup [.int (dvu a b), .int 0]) := by
  refine fn_run mixed 3 (Γ := SecF.Γ) (ann := SecF.ann) Tryz.func48 rfl Tryz.call48 ((SecF.divu_form _ _ _).mpr ?_)
  refine ⟨_, divd_fn a b hb h1 h2, ?_⟩
  obtain ⟨b1, b2, _, _⟩ := quo_bd hb h1 h2
  have hw : wr (a / b + 1) = a / b + 1 := wr_id (by omega) (by omega)
  have u1 : ¬ a.tmod b = 0 → a / b + 1 = dvu a b := fun h => by unfold dvu; rw [if_neg h]
  have u2 : a.tmod b = 0 → a / b = dvu a b := fun h => by unfold dvu; rw [if_pos h]
  simp [hw, show ¬ b = 0 by omega]
  exact ⟨u1, u2⟩
theorem mulb {p n : Int} (h1 : -2000000 ≤ p) (h2 : p ≤ 2000000) (h3 : 0 ≤ n) (h4 : n ≤ 200000) : -400000000000 ≤ p * n ∧ p * n ≤ 400000000000 := by
  have e1 := Int.mul_le_mul_of_nonneg_right h2 h3
  have e2 := Int.mul_le_mul_of_nonneg_right h1 h3
  omega
/-- A point on the way lies between the ends. -/
theorem way {p n d : Int} (hd : 0 < d) (h0 : 0 ≤ n) (h1 : n ≤ d) : (0 ≤ p → 0 ≤ p * n / d ∧ p * n / d ≤ p) ∧ (p ≤ 0 → p ≤ p * n / d ∧ p * n / d ≤ 0) := by
  have hc := Int.mul_ediv_cancel p (show d ≠ 0 by omega)
  refine ⟨fun hp => ⟨Int.ediv_nonneg (Int.mul_nonneg hp h0) (by omega), ?_⟩, fun hp => ⟨?_, ?_⟩⟩
  · have := Int.ediv_le_ediv hd (Int.mul_le_mul_of_nonneg_left h1 hp)
    omega
  · have h2 : p * d ≤ p * n := Int.mul_le_mul_of_nonpos_left hp h1
    have := Int.ediv_le_ediv hd h2
    omega
  · have h2 : p * n ≤ p * 0 := Int.mul_le_mul_of_nonpos_left hp h0
    have := Int.ediv_le_ediv hd h2
    simpa using this
def towP (a b : Pt) (n d : Int) : Pt := ⟨a.x + (b.x - a.x) * n / d, a.y + (b.y - a.y) * n / d⟩
theorem tow_ok {a b : Pt} {n d : Int} (ha : pE a = 0) (hb : pE b = 0) (hd : 0 < d) (h0 : 0 ≤ n) (h1 : n ≤ d) : pE (towP a b n d) = 0 := by
  obtain ⟨a1, a2, a3, a4⟩ := pE_ok ha
  obtain ⟨b1, b2, b3, b4⟩ := pE_ok hb
  obtain ⟨x1, x2⟩ := way (p := b.x - a.x) hd h0 h1
  obtain ⟨y1, y2⟩ := way (p := b.y - a.y) hd h0 h1
  unfold pE towP
  rw [if_neg]
  simp only
  omega
theorem toward_fn (a b : Pt) (n d : Int) (ha : pE a = 0) (hb : pE b = 0) (hd : 0 < d) (hd2 : d ≤ 200000) (h0 : 0 ≤ n) (h1 : n ≤ d) : Fn Tryz.prog 46 [pt a, pt b, .int n, .int d] (.tup [.sc, .sc]) (.tup [pt (towP a b n d), .int 0]) := by
  refine fn_run mixed 3 (Γ := SecF.Γ) (ann := SecF.ann) Tryz.func46 rfl Tryz.call46 ((SecF.toward_form _ _ _ _ _).mpr ?_)
  have pa := pe_fn a
  have pb := pe_fn b
  have ht := pE_ok (tow_ok ha hb hd h0 h1)
  rw [ha] at pa
  rw [hb] at pb
  obtain ⟨a1, a2, a3, a4⟩ := pE_ok ha
  obtain ⟨b1, b2, b3, b4⟩ := pE_ok hb
  obtain ⟨ax, ay⟩ := a; obtain ⟨bx, b_⟩ := b
  simp only at a1 a2 a3 a4 b1 b2 b3 b4
  have mx := mulb (p := bx - ax) (n := n) (by omega) (by omega) h0 (by omega)
  have my := mulb (p := b_ - ay) (n := n) (by omega) (by omega) h0 (by omega)
  have w1 : wr (bx - ax) = bx - ax := wr_id (by omega) (by omega)
  have w2 : wr (b_ - ay) = b_ - ay := wr_id (by omega) (by omega)
  have w3 : wr ((bx - ax) * n) = (bx - ax) * n := wr_id (by omega) (by omega)
  have w4 : wr ((b_ - ay) * n) = (b_ - ay) * n := wr_id (by omega) (by omega)
  have d1 := divd_fn ((bx - ax) * n) d hd (by omega) (by omega)
  have d2 := divd_fn ((b_ - ay) * n) d hd (by omega) (by omega)
  have w5 : wr (ax + (bx - ax) * n / d) = ax + (bx - ax) * n / d := wr_id (by simp only [towP] at ht; omega) (by simp only [towP] at ht; omega)
  have w6 : wr (ay + (b_ - ay) * n / d) = ay + (b_ - ay) * n / d := wr_id (by simp only [towP] at ht; omega) (by simp only [towP] at ht; omega)
  refine ⟨by simp [encP], by simp [encP], ?_⟩
  simp [show ¬ d ≤ 0 by omega, show ¬ 200000 < d by omega, show ¬ n < 0 by omega, show ¬ d < n by omega]
  refine ⟨_, pa, ?_⟩
  simp
  refine ⟨_, pb, ?_⟩
  simp [encP, w1, w2, w3, w4]
  refine ⟨_, d1, _, d2, ?_⟩
  simp [w5, w6, towP]
structure Nd where
  t : Int
  x : Int
  y : Int
  h : Int
  r : Int
  b : Int
  deriving DecidableEq, Inhabited
def Nd.p (n : Nd) : Pt := ⟨n.x, n.y⟩
def encN (n : Nd) : List AV := [.int n.t, .int n.x, .int n.y, .int n.h, .int n.r, .int n.b]
abbrev nd (n : Nd) : AV := .agg (encN n)
abbrev tube (l : List Nd) : AV := lst 6 encN l
theorem flat_tube (l : List Nd) : (tube l).flatS := lst_flatS fun x _ z hz => by
  simp [encN] at hz; rcases hz with rfl | rfl | rfl | rfl | rfl | rfl <;> exact .lit _
/-- The error of a node behind one of time p. -/
def nE (p : Int) (n : Nd) : Int := if n.t < 0 ∨ n.t > 200000 ∨ n.t ≤ p then 12 else if pE n.p ≠ 0 then pE n.p else if n.h < 0 ∨ n.h > 60000 ∨ n.r < 0 ∨ n.r > 1000000 ∨ n.b < 0 ∨ n.b > 60000 then 4 else 0
theorem nE_ok {p : Int} {n : Nd} (h : nE p n = 0) : 0 ≤ n.t ∧ n.t ≤ 200000 ∧ p < n.t ∧ pE n.p = 0 ∧ 0 ≤ n.h ∧ n.h ≤ 60000 ∧ 0 ≤ n.r ∧ n.r ≤ 1000000 ∧ 0 ≤ n.b ∧ n.b ≤ 60000 := by
  unfold nE at h
  split at h
  · cases h
  · split at h
    · rename_i q; exact absurd h q
    · rename_i q
      split at h
      · cases h
      · exact ⟨by omega, by omega, by omega, by simpa using q, by omega, by omega, by omega, by omega, by omega, by omega⟩
def tG : Int → List Nd → Int
  | _, [] => 0
  | p, n :: r => if nE p n ≠ 0 then nE p n else tG n.t r
def tE (l : List Nd) : Int := if l.length > 64 then 2 else if l.length = 0 then 3 else tG (-1) l
theorem tcheck_fn (l : List Nd) : Fn Tryz.prog 6 [tube l] .sc (.int (tE l)) := by
  have e := SecF.tcheck_form (tube l) (.int (tE l))
  have k := fun h => fn_run mixed 3 (Γ := SecF.Γ) (ann := SecF.ann) Tryz.func6 rfl Tryz.call6 (e.mpr h)
  refine k ?_
  clear k e
  simp
  refine ⟨fun h => by unfold tE; rw [if_pos (by omega)], fun h64 => ⟨fun h => by unfold tE; rw [if_neg (by omega), if_pos (by simp [h])], fun h0 => ?_⟩⟩
  have hE : tE l = tG (-1) l := by
    unfold tE
    rw [if_neg (by omega), if_neg (by simpa using h0)]
  have hl64 : l.length ≤ 64 := by omega
  generalize tE l = E at hE ⊢
  refine loop_list (σ := Int) l (fun n _ => [.int (n : Nat)]) (fun n rest p => E = tG p rest ∧ ((n = 0 ∧ p = -1) ∨ ∃ y, 0 < n ∧ l[n - 1]? = some y ∧ y.t = p ∧ 0 ≤ p)) (-1) rfl ⟨hE, .inl ⟨rfl, rfl⟩⟩ ?_ ?_
  · rintro n x rest p K hx hr hn ⟨hg, hp⟩ hK
    have hw : wr ((n : Int) + 1) = (n : Int) + 1 := wr_id (by omega) (by omega)
    have hw1 : wr ((n : Int) - 1) = (n : Int) - 1 := wr_id (by omega) (by omega)
    rw [tG] at hg
    have g1 : nE p x ≠ 0 → nE p x = E := fun h => by rw [hg, if_pos h]
    have g2 : nE p x = 0 → K [.int ((n : Nat) + 1)] := fun h => hK _ x.t (by simp) ⟨by rw [hg, if_neg (by simp [h])], .inr ⟨x, by omega, by simpa using hx, rfl, (nE_ok h).1⟩⟩
    clear hg hK
    obtain ⟨xt, xx, xy, xh, xr, xb⟩ := x
    have f1 : (xt < 0 ∨ xt > 200000 ∨ xt ≤ p) → 12 = E := fun h => by
      have : nE p ⟨xt, xx, xy, xh, xr, xb⟩ = 12 := by unfold nE; rw [if_pos h]
      rw [this] at g1; exact g1 (by decide)
    have f2 : ¬ (xt < 0 ∨ xt > 200000 ∨ xt ≤ p) → pE ⟨xx, xy⟩ ≠ 0 → pE ⟨xx, xy⟩ = E := fun h h2 => by
      have : nE p ⟨xt, xx, xy, xh, xr, xb⟩ = pE ⟨xx, xy⟩ := by unfold nE; rw [if_neg h]; exact if_pos h2
      rw [this] at g1; exact g1 h2
    have f3 : ¬ (xt < 0 ∨ xt > 200000 ∨ xt ≤ p) → pE ⟨xx, xy⟩ = 0 → (xh < 0 ∨ xh > 60000 ∨ xr < 0 ∨ xr > 1000000 ∨ xb < 0 ∨ xb > 60000) → 4 = E := fun h h2 h3 => by
      have : nE p ⟨xt, xx, xy, xh, xr, xb⟩ = 4 := by unfold nE; rw [if_neg h, if_neg (by simp [Nd.p, h2]), if_pos h3]
      rw [this] at g1; exact g1 (by decide)
    have f4 : ¬ (xt < 0 ∨ xt > 200000 ∨ xt ≤ p) → pE ⟨xx, xy⟩ = 0 → ¬ (xh < 0 ∨ xh > 60000 ∨ xr < 0 ∨ xr > 1000000 ∨ xb < 0 ∨ xb > 60000) → K [.int ((n : Nat) + 1)] := fun h h2 h3 => g2 (by unfold nE; rw [if_neg h, if_neg (by simp [Nd.p, h2]), if_neg h3])
    clear g1 g2
    have hpe := pe_fn ⟨xx, xy⟩
    generalize pE ⟨xx, xy⟩ = e at *
    have tail : ¬ (xt < 0 ∨ xt > 200000 ∨ xt ≤ p) → (e = 0 → xh < 0 → 4 = E) ∧ (e = 0 → 60000 < xh → 4 = E) ∧ (e = 0 → xr < 0 → 4 = E) ∧ (e = 0 → 1000000 < xr → 4 = E) ∧ (e = 0 → xb < 0 → 4 = E) ∧ (e = 0 → 60000 < xb → 4 = E) ∧ (e = 0 → 0 ≤ xh → xh ≤ 60000 → 0 ≤ xr → xr ≤ 1000000 → 0 ≤ xb → xb ≤ 60000 → K [.int ((n : Nat) + 1)]) := fun h =>
      ⟨fun a b => f3 h a (by omega), fun a b => f3 h a (by omega), fun a b => f3 h a (by omega), fun a b => f3 h a (by omega), fun a b => f3 h a (by omega), fun a b => f3 h a (by omega), fun a b c d f g i => f4 h a (by omega)⟩
    simp [hn, lst_atAgg hx, encN, hw, hw1]
    refine ⟨fun a => ⟨a, f1 (by omega)⟩, fun a => ⟨a, fun b => ⟨b, f1 (by omega)⟩, fun b => ⟨?_, ?_⟩⟩⟩
    · intro hn0
      rcases hp with ⟨hp1, _⟩ | ⟨y, hp1, hp2, hp3, hp4⟩
      · omega
      · have hat : AV.at (tube l) (.lit (.int .i64 ((n : Int) - 1))) 0 = .int p := by
          have h1 : ((n : Int) - 1).toNat = n - 1 := by omega
          rw [lst_atI (by omega) (by rw [h1]; exact hp2)]
          simp [encN, hp3]
        have hin : (0 : Int) ≤ (n : Int) - 1 ∧ (n : Int) - 1 < l.length := ⟨by omega, by omega⟩
        simp only [hat]
        refine ⟨by omega, by simp, hn0, b, by simp, fun q => ?_, fun q => ?_⟩
        · have : xt ≤ p := by simpa using q
          exact f1 (by omega)
        have hq : p < xt := by simpa using q
        obtain ⟨t1, t2, t3, t4, t5, t6, t7⟩ := tail (by omega)
        refine ⟨_, hpe, ?_⟩
        simp
        exact ⟨fun z => f2 (by omega) z, fun z => ⟨fun a => ⟨a, t1 z a⟩, fun a1 => ⟨a1, fun a => ⟨a, t2 z a⟩, fun a2 => ⟨a2, fun a => ⟨a, t3 z a⟩, fun a3 => ⟨a3, fun a => ⟨a, t4 z a⟩, fun a4 => ⟨a4, fun a => ⟨a, t5 z a⟩, fun a5 => ⟨a5, fun a => t6 z a, fun a6 => t7 z a1 a2 a3 a4 a5 a6⟩⟩⟩⟩⟩⟩⟩
    · intro hn0
      refine ⟨hn0, b, ?_⟩
      have hp1 : p = -1 := by
        rcases hp with ⟨_, h⟩ | ⟨y, h, _⟩
        · exact h
        · omega
      obtain ⟨t1, t2, t3, t4, t5, t6, t7⟩ := tail (by omega)
      refine ⟨_, hpe, ?_⟩
      simp
      exact ⟨fun z => f2 (by omega) z, fun z => ⟨fun a => ⟨a, t1 z a⟩, fun a1 => ⟨a1, fun a => ⟨a, t2 z a⟩, fun a2 => ⟨a2, fun a => ⟨a, t3 z a⟩, fun a3 => ⟨a3, fun a => ⟨a, t4 z a⟩, fun a4 => ⟨a4, fun a => ⟨a, t5 z a⟩, fun a5 => ⟨a5, fun a => t6 z a, fun a6 => t7 z a1 a2 a3 a4 a5 a6⟩⟩⟩⟩⟩⟩⟩
  · rintro _ K ⟨hg, _⟩
    rw [tG] at hg
    simp [hg]
theorem ends_fn (l : List Nd) (a b : Nd) (h0 : l[0]? = some a) (h1 : l[l.length - 1]? = some b) (hl : l.length ≤ 1000) : Fn Tryz.prog 29 [tube l] (.tup [.sc, .sc]) (.tup [.int a.t, .int b.t]) := by
  refine fn_run mixed 3 (Γ := SecF.Γ) (ann := SecF.ann) Tryz.func29 rfl Tryz.call29 ((SecF.ends_form _ _).mpr ?_)
  have hpos : 0 < l.length := (List.getElem?_eq_some_iff.1 h0).1
  have hw1 : wr ((l.length : Int) - 1) = (l.length : Int) - 1 := wr_id (by omega) (by omega)
  have e0 : AV.at (tube l) (.lit (.int .i64 0)) 0 = .int a.t := by
    rw [lst_atI (by omega) (by simpa using h0)]; simp [encN]
  have e1 : AV.at (tube l) (.lit (.int .i64 ((l.length : Int) - 1))) 0 = .int b.t := by
    have q : ((l.length : Int) - 1).toNat = l.length - 1 := by omega
    rw [lst_atI (by omega) (by rw [q]; exact h1)]; simp [encN]
  simp [hw1, e0, e1]
  omega
end Go.Proofs.YtacfofpbbempaaaGreatDoor
/- tubes: the node at a time. -/
namespace Go.Proofs.YtacfofpbbempaaaGreatDoor
open Go.RowKit
set_option linter.unusedVariables false
set_option linter.unusedSimpArgs false
set_option maxRecDepth 100000
/-- The nodes ahead of a time. -/
def ixF (t : Int) : List Nd → Nat
  | [] => 0
  | n :: r => if n.t < t then ixF t r + 1 else 0
theorem ixF_is {t : Int} : ∀ {l : List Nd} {k : Nat}, k ≤ l.length → (∀ j x, j < k → l[j]? = some x → x.t < t) → (∀ x, l[k]? = some x → ¬ x.t < t) → ixF t l = k
  | [], k, h, _, _ => by simp at h; simp [ixF, h]
  | n :: r, k, h, h1, h2 => by
    rw [ixF]
    cases k with
    | zero => rw [if_neg (h2 n rfl)]
    | succ k =>
      rw [if_pos (h1 0 n (by omega) rfl), ixF_is (k := k) (by simpa using h) (fun j x hj hx => h1 (j + 1) x (by omega) (by simpa using hx)) (fun x hx => h2 x (by simpa using hx))]
theorem ixF_le (t : Int) : ∀ l : List Nd, ixF t l ≤ l.length
  | [] => Nat.le_refl _
  | n :: r => by
    rw [ixF]
    have := ixF_le t r
    split <;> simp <;> omega
theorem ixF_lt {t : Int} : ∀ {l : List Nd} {j : Nat} {x : Nd}, j < ixF t l → l[j]? = some x → x.t < t
  | [], j, x, h, _ => by simp [ixF] at h
  | n :: r, j, x, h, hx => by
    rw [ixF] at h
    split at h
    · rename_i hn
      cases j with
      | zero => simp at hx; rw [← hx]; exact hn
      | succ j => exact ixF_lt (l := r) (j := j) (by omega) (by simpa using hx)
    · omega
theorem ixF_ge {t : Int} : ∀ {l : List Nd} {x : Nd}, l[ixF t l]? = some x → ¬ x.t < t
  | [], x, h => by simp [ixF] at h
  | n :: r, x, h => by
    rw [ixF] at h
    split at h
    · exact ixF_ge (by simpa using h)
    · rename_i hn
      simp at h; rw [← h]; exact hn
def okN (x : Nd) : Prop := 0 ≤ x.t ∧ x.t ≤ 200000 ∧ pE x.p = 0 ∧ 0 ≤ x.h ∧ x.h ≤ 60000 ∧ 0 ≤ x.r ∧ x.r ≤ 1000000 ∧ 0 ≤ x.b ∧ x.b ≤ 60000
/-- Valid nodes: each behind the one ahead. -/
theorem tG_get : ∀ {l : List Nd} {p : Int}, tG p l = 0 → ∀ {j : Nat} {x : Nd}, l[j]? = some x → p < x.t ∧ okN x ∧ ∀ k y, j < k → l[k]? = some y → x.t < y.t
  | [], p, _, j, x, hx => by simp at hx
  | n :: r, p, h, j, x, hx => by
    rw [tG] at h
    split at h
    · rename_i q; exact absurd h q
    · rename_i q
      have q : nE p n = 0 := by simpa using q
      have qo := nE_ok q
      cases j with
      | zero =>
        simp at hx
        subst hx
        refine ⟨qo.2.2.1, ⟨qo.1, qo.2.1, qo.2.2.2.1, qo.2.2.2.2.1, qo.2.2.2.2.2.1, qo.2.2.2.2.2.2.1, qo.2.2.2.2.2.2.2.1, qo.2.2.2.2.2.2.2.2.1, qo.2.2.2.2.2.2.2.2.2⟩, fun k y hk hy => ?_⟩
        obtain ⟨k, rfl⟩ : ∃ k', k = k' + 1 := ⟨k - 1, by omega⟩
        exact (tG_get h (j := k) (by simpa using hy)).1
      | succ j =>
        have ih := tG_get h (j := j) (by simpa using hx)
        refine ⟨by have := ih.1; omega, ih.2.1, fun k y hk hy => ?_⟩
        obtain ⟨k, rfl⟩ : ∃ k', k = k' + 1 := ⟨k - 1, by omega⟩
        exact ih.2.2 k y (by omega) (by simpa using hy)
theorem tE_ok {l : List Nd} (h : tE l = 0) : 0 < l.length ∧ l.length ≤ 64 ∧ tG (-1) l = 0 := by
  unfold tE at h
  split at h
  · cases h
  · split at h
    · cases h
    · exact ⟨by omega, by omega, h⟩
def interp (a b : Nd) (t : Int) : Nd :=
  ⟨t, (towP a.p b.p (t - a.t) (b.t - a.t)).x, (towP a.p b.p (t - a.t) (b.t - a.t)).y, a.h + (b.h - a.h) * (t - a.t) / (b.t - a.t), a.r + dvu ((b.r - a.r) * (t - a.t)) (b.t - a.t), a.b + dvu ((b.b - a.b) * (t - a.t)) (b.t - a.t)⟩
def atN (l : List Nd) (t : Int) : Nd := if (l.getD (ixF t l) default).t = t then l.getD (ixF t l) default else interp (l.getD (ixF t l - 1) default) (l.getD (ixF t l) default) t
theorem half_u (n : Nat) (h : n ≤ 1000) : AV.shfOk (.lit (.int .u64 (n : Nat))) (.lit (.int .u64 1)) ∧ AV.conv .i64 (AV.shf .shr (.lit (.int .u64 (n : Nat))) (.lit (.int .u64 1))) = .int ((n / 2 : Nat) : Int) ∧ AV.isInt (AV.shf .shr (.lit (.int .u64 (n : Nat))) (.lit (.int .u64 1))) := by
  refine ⟨⟨⟨_, _, rfl⟩, ⟨_, _, rfl⟩, by simp⟩, ?_, ⟨_, _, rfl⟩⟩
  have e : AV.shf .shr (.lit (.int .u64 (n : Nat))) (.lit (.int .u64 1)) = .lit (.int .u64 ((n : Int).fdiv 2)) := by
    show AV.lit (.int .u64 ((n : Int).fdiv (2 ^ 1))) = _
    simp
  rw [e, Int.fdiv_eq_ediv_of_nonneg _ (by omega)]
  show AV.lit (.int .i64 (IntKind.i64.wrap ((n : Int) / 2))) = _
  rw [wrap64 (by omega) (by omega)]
  congr 2
theorem u64_id (n : Nat) (h : n ≤ 1000) : IntKind.u64.wrap (n : Int) = (n : Int) := by
  simp [IntKind.wrap, IntKind.bits, IntKind.signed]; omega
/-- Between two valid nodes. -/
theorem interp_ok {a b : Nd} {t : Int} (ha : okN a) (hb : okN b) (h1 : a.t < t) (h2 : t < b.t) : pE (interp a b t).p = 0 ∧ 0 ≤ (interp a b t).h ∧ (interp a b t).h ≤ 60000 := by
  refine ⟨tow_ok ha.2.2.1 hb.2.2.1 (by omega) (by omega) (by omega), ?_⟩
  obtain ⟨q1, q2⟩ := way (p := b.h - a.h) (n := t - a.t) (d := b.t - a.t) (by omega) (by omega) (by omega)
  unfold okN at ha hb
  simp only [interp]
  omega
theorem at_fn (l : List Nd) (t : Int) (hv : tE l = 0) (h0 : ∀ x, l[0]? = some x → x.t ≤ t) (h1 : ∀ x, l[l.length - 1]? = some x → t ≤ x.t) : Fn Tryz.prog 30 [tube l, .int t] .sc (nd (atN l t)) := by
  have e := SecF.at_form (tube l) (.int t) (nd (atN l t))
  have k := fun h => fn_run mixed 3 (Γ := SecF.Γ) (ann := SecF.ann) Tryz.func30 rfl Tryz.call30 (e.mpr h)
  refine k ?_
  clear k e
  obtain ⟨hp, h64, hG⟩ := tE_ok hv
  have en1 : Ent Tryz.prog 45 := Tryz.call45
  refine ⟨Tryz.call44, fun _ => ⟨by simp, ?_⟩⟩
  refine loop_of (τ := Nat × Nat) (fun s => [.int (s.1 : Nat), .int (s.2 : Nat)]) (fun s => s.1 ≤ s.2 ∧ s.2 ≤ l.length ∧ (∀ j x, j < s.1 → l[j]? = some x → x.t < t) ∧ ∀ j x, s.2 ≤ j → l[j]? = some x → ¬ x.t < t) (fun s => s.2 - s.1) (0, l.length) (by simp)
    ⟨by omega, Nat.le_refl _, fun j x hj => by simp at hj, fun j x hj hx => by have hj : l.length ≤ j := hj; rw [List.getElem?_eq_none hj] at hx; cases hx⟩ ?_
  rintro ⟨lo, hi⟩ ⟨i1, i2, i3, i4⟩
  simp only at i1 i2 i3 i4
  obtain ⟨S, hS⟩ : ∃ S, S = lo + hi := ⟨_, rfl⟩
  have w1 : wr ((lo : Int) + (hi : Int)) = (S : Int) := by rw [wr_id (by omega) (by omega)]; omega
  have w2 : AV.conv .u64 (.lit (.int .i64 (S : Int))) = .lit (.int .u64 (S : Int)) := by
    show AV.lit (.int .u64 (IntKind.u64.wrap (S : Int))) = _
    rw [u64_id S (by omega)]
  obtain ⟨s1, s2, s3⟩ := half_u S (by omega)
  refine ⟨by simp, by simp, fun hlt => ?_, fun hge => ?_⟩
  · have hlt : lo < hi := by simpa using hlt
    generalize hm : S / 2 = m at s2
    have hmb : lo ≤ m ∧ m < hi := by omega
    obtain ⟨x, hx⟩ : ∃ x, l[m]? = some x := ⟨_, List.getElem?_eq_getElem (by omega)⟩
    have hxo := (tG_get hG hx).2.1
    have g1 : x.t < t → (fun zs : List AV => ∃ m', m' < hi - lo ∧ ∃ y : Nat × Nat, zs = [.int (y.1 : Nat), .int (y.2 : Nat)] ∧ (y.1 ≤ y.2 ∧ y.2 ≤ l.length ∧ (∀ j x, j < y.1 → l[j]? = some x → x.t < t) ∧ ∀ j x, y.2 ≤ j → l[j]? = some x → ¬ x.t < t) ∧ y.2 - y.1 = m') [.int ((m : Nat) + 1), .int (hi : Nat)] := fun q =>
      ⟨_, by omega, (m + 1, hi), by simp, ⟨by simp; omega, i2, fun j y hj hy => ?_, i4⟩, rfl⟩
    have g2 : ¬ x.t < t → (fun zs : List AV => ∃ m', m' < hi - lo ∧ ∃ y : Nat × Nat, zs = [.int (y.1 : Nat), .int (y.2 : Nat)] ∧ (y.1 ≤ y.2 ∧ y.2 ≤ l.length ∧ (∀ j x, j < y.1 → l[j]? = some x → x.t < t) ∧ ∀ j x, y.2 ≤ j → l[j]? = some x → ¬ x.t < t) ∧ y.2 - y.1 = m') [.int (lo : Nat), .int (m : Nat)] := fun q =>
      ⟨_, by omega, (lo, m), by simp, ⟨by simp; omega, by simp; omega, i3, fun j y hj hy => ?_⟩, rfl⟩
    rotate_left
    · have hj : m ≤ j := hj
      rcases Nat.eq_or_lt_of_le hj with q2 | q2
      · subst q2
        rw [hx] at hy; injection hy with hy; rw [← hy]; exact q
      · have := (tG_get hG hx).2.2 j y q2 hy; omega
    · have hj : j < m + 1 := hj
      rcases Nat.lt_or_ge j m with q2 | q2
      · have := (tG_get hG hy).2.2 m x q2 hx; omega
      · obtain rfl : j = m := by omega
        rw [hx] at hy; injection hy with hy; rw [← hy]; exact q
    obtain ⟨q1, q2, _⟩ := hxo
    obtain ⟨x0, hx0⟩ : ∃ x0, l[0]? = some x0 := ⟨_, List.getElem?_eq_getElem (by omega)⟩
    have t0 : 0 ≤ t := by have := h0 x0 hx0; have := (tG_get hG hx0).2.1.1; omega
    obtain ⟨x1, hx1⟩ : ∃ x1, l[l.length - 1]? = some x1 := ⟨_, List.getElem?_eq_getElem (by omega)⟩
    have t1 : t ≤ 200000 := by have := h1 x1 hx1; have := (tG_get hG hx1).2.1.2.1; omega
    have wd : wr (x.t - t) = x.t - t := wr_id (by omega) (by omega)
    have wm : wr ((m : Int) + 1) = (m : Int) + 1 := wr_id (by omega) (by omega)
    generalize hKK : (fun zs : List AV => ∃ m', m' < hi - lo ∧ ∃ y : Nat × Nat, zs = [.int (y.1 : Nat), .int (y.2 : Nat)] ∧ (y.1 ≤ y.2 ∧ y.2 ≤ l.length ∧ (∀ j x, j < y.1 → l[j]? = some x → x.t < t) ∧ ∀ j x, y.2 ≤ j → l[j]? = some x → ¬ x.t < t) ∧ y.2 - y.1 = m') = KK at *
    clear hKK i3 i4 h0 h1
    obtain ⟨xt, xx, xy, xh, xr, xb⟩ := x
    simp [w1, w2, s1, s2, s3, lst_atAgg hx, encN, wd, wm, en1, show m < l.length by omega]
    exact ⟨fun q => g1 (by show xt < t; omega), fun q => g2 (by show ¬ xt < t; omega)⟩
  · have hge : hi ≤ lo := by simpa using hge
    obtain rfl : hi = lo := by omega
    have hlo : hi < l.length := by
      refine Nat.lt_of_le_of_ne i2 fun q => ?_
      obtain ⟨z, hz⟩ : ∃ z, l[l.length - 1]? = some z := ⟨_, List.getElem?_eq_getElem (by omega)⟩
      have := h1 z hz
      have := i3 (l.length - 1) z (by omega) hz
      omega
    have hix : ixF t l = hi := ixF_is i2 i3 (fun x hx => i4 hi x (Nat.le_refl _) hx)
    obtain ⟨b, hb⟩ : ∃ b, l[hi]? = some b := ⟨_, List.getElem?_eq_getElem hlo⟩
    have hbd : l.getD (ixF t l) default = b := by rw [hix, List.getD_eq_getElem?_getD, hb]; rfl
    have hbo := (tG_get hG hb).2.1
    have hbt := i4 hi b (Nat.le_refl _) hb
    have hat : atN l t = if b.t = t then b else interp (l.getD (hi - 1) default) b t := by unfold atN; rw [hbd, hix]
    obtain ⟨x0, hx0⟩ : ∃ x0, l[0]? = some x0 := ⟨_, List.getElem?_eq_getElem (by omega)⟩
    have t0 : 0 ≤ t := by have := h0 x0 hx0; have := (tG_get hG hx0).2.1.1; omega
    obtain ⟨x1, hx1⟩ : ∃ x1, l[l.length - 1]? = some x1 := ⟨_, List.getElem?_eq_getElem (by omega)⟩
    have t1 : t ≤ 200000 := by have := h1 x1 hx1; have := (tG_get hG hx1).2.1.2.1; omega
    have e1 : b.t = t → nd (atN l t) = nd b := fun q => by rw [hat, if_pos q]
    have e2 : b.t ≠ t → ∃ a, l[hi - 1]? = some a ∧ 0 < hi ∧ okN a ∧ a.t < t ∧ t < b.t ∧ nd (atN l t) = nd (interp a b t) := fun q => by
      have hpos : 0 < hi := by
        refine Nat.pos_of_ne_zero fun z => ?_
        subst z
        have := h0 b hb
        omega
      obtain ⟨a, ha⟩ : ∃ a, l[hi - 1]? = some a := ⟨_, List.getElem?_eq_getElem (by omega)⟩
      have had : l.getD (hi - 1) default = a := by rw [List.getD_eq_getElem?_getD, ha]; rfl
      exact ⟨a, ha, hpos, (tG_get hG ha).2.1, i3 (hi - 1) a (by omega) ha, by omega, by rw [hat, if_neg q, had]⟩
    generalize nd (atN l t) = R at *
    have wd : wr (b.t - t) = b.t - t := by obtain ⟨q1, q2, _⟩ := hbo; exact wr_id (by omega) (by omega)
    clear hat hbd hix i3 i4 h1
    have hbo' := hbo
    obtain ⟨bt, bx, b_, bh, br, bb⟩ := b
    simp only at wd
    by_cases hbt0 : bt = t
    · have hz : bt - t = 0 := by omega
      have hw0 : wr (bt - t) = 0 := by rw [wd, hz]
      simp [hlo, lst_atAgg hb, encN, hw0, en1]
      exact (e1 hbt0).symm
    · obtain ⟨a, ha, hpos, hao, hat1, hat2, hR⟩ := e2 hbt0
      obtain ⟨k, rfl⟩ : ∃ k, hi = k + 1 := ⟨hi - 1, by omega⟩
      have wk : wr (k : Int) = (k : Int) := wr_id (by omega) (by omega)
      have ha : l[k]? = some a := ha
      have hz : ¬ bt - t = 0 := by omega
      have hao' := hao
      obtain ⟨at_, ax, ay, ah, ar, ab⟩ := a
      simp only [okN, Nd.p] at hbo hao hat1 hat2
      obtain ⟨a1, a2, a3, a4, a5, a6, a7, a8, a9⟩ := hao
      obtain ⟨b1, b2, b3, b4, b5, b6, b7, b8, b9⟩ := hbo
      have v1 : wr (t - at_) = t - at_ := wr_id (by omega) (by omega)
      have v2 : wr (bt - at_) = bt - at_ := wr_id (by omega) (by omega)
      have v3 : wr (bh - ah) = bh - ah := wr_id (by omega) (by omega)
      have v4 : wr (br - ar) = br - ar := wr_id (by omega) (by omega)
      have v5 : wr (bb - ab) = bb - ab := wr_id (by omega) (by omega)
      have m1 := mulb (p := bh - ah) (n := t - at_) (by omega) (by omega) (by omega) (by omega)
      have m2 := mulb (p := br - ar) (n := t - at_) (by omega) (by omega) (by omega) (by omega)
      have m3 := mulb (p := bb - ab) (n := t - at_) (by omega) (by omega) (by omega) (by omega)
      have v6 : wr ((bh - ah) * (t - at_)) = (bh - ah) * (t - at_) := wr_id (by omega) (by omega)
      have v7 : wr ((br - ar) * (t - at_)) = (br - ar) * (t - at_) := wr_id (by omega) (by omega)
      have v8 : wr ((bb - ab) * (t - at_)) = (bb - ab) * (t - at_) := wr_id (by omega) (by omega)
      have hd : 0 < bt - at_ := by omega
      have c1 := toward_fn ⟨ax, ay⟩ ⟨bx, b_⟩ (t - at_) (bt - at_) a3 b3 hd (by omega) (by omega) (by omega)
      have c2 := divd_fn ((bh - ah) * (t - at_)) (bt - at_) hd (by omega) (by omega)
      have c3 := divu_fn ((br - ar) * (t - at_)) (bt - at_) hd (by omega) (by omega)
      have c4 := divu_fn ((bb - ab) * (t - at_)) (bt - at_) hd (by omega) (by omega)
      have d2 := quo_bd hd (a := (bh - ah) * (t - at_)) (by omega) (by omega)
      have d3 := dvu_bd hd (a := (br - ar) * (t - at_)) (by omega) (by omega)
      have d4 := dvu_bd hd (a := (bb - ab) * (t - at_)) (by omega) (by omega)
      have v9 : wr (ah + (bh - ah) * (t - at_) / (bt - at_)) = ah + (bh - ah) * (t - at_) / (bt - at_) := wr_id (by omega) (by omega)
      have v10 : wr (ar + dvu ((br - ar) * (t - at_)) (bt - at_)) = ar + dvu ((br - ar) * (t - at_)) (bt - at_) := wr_id (by omega) (by omega)
      have v11 : wr (ab + dvu ((bb - ab) * (t - at_)) (bt - at_)) = ab + dvu ((bb - ab) * (t - at_)) (bt - at_) := wr_id (by omega) (by omega)
      have hlo' : (k : Int) + 1 < l.length := by omega
      have hlo2 : (k : Int) < l.length := by omega
      have hbz : AV.atAgg (tube l) (.lit (.int .i64 ((k : Int) + 1))) 0 6 = .agg [.int bt, .int bx, .int b_, .int bh, .int br, .int bb] := by
        have := lst_atAgg (s := 6) (enc := encN) (k := .i64) (j := 0) (m := 6) hb
        simpa [encN] using this
      rw [hR]
      simp [hlo', hlo2, hbz, lst_atAgg ha, encN, wd, en1, hz, wk, v1, v2]
      refine ⟨by omega, _, c1, ?_⟩
      simp [encP, v3, v6]
      refine ⟨_, c2, ?_⟩
      simp [v4, v7]
      refine ⟨_, c3, ?_⟩
      simp [v5, v8]
      refine ⟨_, c4, ?_⟩
      simp [v9, v10, v11, interp, Nd.p]
def tatE (l : List Nd) (t : Int) : Int := if tE l ≠ 0 then tE l else if t < (l.getD 0 default).t ∨ t > (l.getD (l.length - 1) default).t then 12 else 0
def nd0 : Nd := ⟨0, 0, 0, 0, 0, 0⟩
def tatV (l : List Nd) (t : Int) : AV := if tatE l t = 0 then .tup [nd (atN l t), .int 0] else .tup [nd nd0, .int (tatE l t)]
theorem tatE_ok {l : List Nd} {t : Int} (h : tatE l t = 0) : tE l = 0 ∧ (∀ x, l[0]? = some x → x.t ≤ t) ∧ ∀ x, l[l.length - 1]? = some x → t ≤ x.t := by
  unfold tatE at h
  split at h
  · rename_i q; exact absurd h q
  · rename_i q
    split at h
    · cases h
    · refine ⟨by simpa using q, fun x hx => ?_, fun x hx => ?_⟩
      · have : (l.getD 0 default).t = x.t := by rw [List.getD_eq_getElem?_getD, hx]; rfl
        omega
      · have : (l.getD (l.length - 1) default).t = x.t := by rw [List.getD_eq_getElem?_getD, hx]; rfl
        omega
/-- The node at a time is valid. -/
theorem atN_ok {l : List Nd} {t : Int} (hv : tE l = 0) (h0 : ∀ x, l[0]? = some x → x.t ≤ t) (h1 : ∀ x, l[l.length - 1]? = some x → t ≤ x.t) : pE (atN l t).p = 0 ∧ 0 ≤ (atN l t).h ∧ (atN l t).h ≤ 60000 := by
  obtain ⟨hp, h64, hG⟩ := tE_ok hv
  have hlt : ixF t l < l.length := by
    refine Nat.lt_of_le_of_ne (ixF_le t l) fun q => ?_
    obtain ⟨z, hz⟩ : ∃ z, l[l.length - 1]? = some z := ⟨_, List.getElem?_eq_getElem (by omega)⟩
    have := h1 z hz
    have := ixF_lt (t := t) (l := l) (j := l.length - 1) (by omega) hz
    omega
  obtain ⟨b, hb⟩ : ∃ b, l[ixF t l]? = some b := ⟨_, List.getElem?_eq_getElem hlt⟩
  have hbd : l.getD (ixF t l) default = b := by rw [List.getD_eq_getElem?_getD, hb]; rfl
  have hbo := (tG_get hG hb).2.1
  have hbt := ixF_ge hb
  unfold atN
  rw [hbd]
  split
  · exact ⟨hbo.2.2.1, hbo.2.2.2.1, hbo.2.2.2.2.1⟩
  · rename_i hne
    have hpos : 0 < ixF t l := by
      refine Nat.pos_of_ne_zero fun z => ?_
      rw [z] at hb
      have := h0 b hb
      omega
    obtain ⟨a, ha⟩ : ∃ a, l[ixF t l - 1]? = some a := ⟨_, List.getElem?_eq_getElem (by omega)⟩
    have had : l.getD (ixF t l - 1) default = a := by rw [List.getD_eq_getElem?_getD, ha]; rfl
    rw [had]
    exact interp_ok (tG_get hG ha).2.1 hbo (ixF_lt (by omega) ha) (by omega)
theorem tat_fn (l : List Nd) (t : Int) : Fn Tryz.prog 9 [tube l, .int t] (.tup [.sc, .sc]) (tatV l t) := by
  refine fn_run mixed 3 (Γ := SecF.Γ) (ann := SecF.ann) Tryz.func9 rfl Tryz.call9 ((SecF.tat_form _ _ _).mpr ?_)
  refine ⟨_, tcheck_fn l, ?_⟩
  have hV1 : tE l ≠ 0 → tatV l t = .tup [nd nd0, .int (tE l)] := fun g => by
    have : tatE l t = tE l := by unfold tatE; rw [if_pos g]
    unfold tatV; rw [this, if_neg g]
  simp
  refine ⟨fun g => (hV1 g).symm, fun g => ?_⟩
  obtain ⟨hp, h64, hG⟩ := tE_ok g
  obtain ⟨a, ha⟩ : ∃ a, l[0]? = some a := ⟨_, List.getElem?_eq_getElem hp⟩
  obtain ⟨b, hb⟩ : ∃ b, l[l.length - 1]? = some b := ⟨_, List.getElem?_eq_getElem (by omega)⟩
  have had : l.getD 0 default = a := by rw [List.getD_eq_getElem?_getD, ha]; rfl
  have hbd : l.getD (l.length - 1) default = b := by rw [List.getD_eq_getElem?_getD, hb]; rfl
  have hV2 : (t < a.t ∨ t > b.t) → tatV l t = .tup [nd nd0, .int 12] := fun q => by
    have : tatE l t = 12 := by unfold tatE; rw [if_neg (by simp [g]), had, hbd, if_pos q]
    unfold tatV; rw [this, if_neg (by decide)]
  have hV3 : ¬ (t < a.t ∨ t > b.t) → tatV l t = .tup [nd (atN l t), .int 0] := fun q => by
    have : tatE l t = 0 := by unfold tatE; rw [if_neg (by simp [g]), had, hbd, if_neg q]
    unfold tatV; rw [if_pos this]
  refine ⟨_, ends_fn l a b ha hb (by omega), ?_⟩
  simp
  refine ⟨fun q => ⟨q, (hV2 (by omega)).symm⟩, fun q => ⟨q, fun q2 => (hV2 (by omega)).symm, fun q2 => ?_⟩⟩
  rw [hV3 (by omega)]
  refine ⟨_, at_fn l t g (fun x hx => by rw [ha] at hx; injection hx with hx; rw [← hx]; exact q) (fun x hx => by rw [hb] at hx; injection hx with hx; rw [← hx]; exact q2), ?_⟩
  simp [encN]
end Go.Proofs.YtacfofpbbempaaaGreatDoor
/- resolve: roots, distances, separations; the intervals without separation. -/
namespace Go.Proofs.YtacfofpbbempaaaGreatDoor
open Go.RowKit
set_option linter.unusedVariables false
set_option linter.unusedSimpArgs false
set_option maxRecDepth 100000
structure Kd where
  nm : ByteArray
  wk : Int
  cl : Int
  up : Int
  dn : Int
  sl : Int
  fa : Int
def encKd (k : Kd) : List AV := [.string k.nm, .int k.wk, .int k.cl, .int k.up, .int k.dn, .int k.sl, .int k.fa]
abbrev kd (k : Kd) : AV := .agg (encKd k)
def kE (k : Kd) : Int :=
  if isName k.nm = false then 5
  else if k.wk < 0 ∨ k.wk > 3 then 1
  else if k.cl < 1 ∨ k.cl > 60000 ∨ k.up < 1 ∨ k.up > 200 ∨ k.dn < 1 ∨ k.dn > 200 ∨ k.sl < 1 ∨ k.sl > 400 ∨ k.fa < 1 ∨ k.fa > 400 then 4
  else if k.sl > k.fa then 3 else 0
theorem acheck_fn (k : Kd) : Fn Tryz.prog 7 [kd k] .sc (.int (kE k)) := by
  refine fn_run mixed 3 (Γ := ResF.Γ) (ann := ResF.ann) Tryz.func7 rfl Tryz.call7 ((ResF.acheck_form _ _).mpr ?_)
  have e1 : Ent Tryz.prog 26 := Tryz.call26
  have hn := name_fn k.nm
  obtain ⟨E, hE⟩ : ∃ E, E = kE k := ⟨_, rfl⟩
  rw [← hE]
  unfold kE at hE
  obtain ⟨nm, wk, cl, up, dn, sl, fa⟩ := k
  simp only at hn hE
  generalize isName nm = b at *
  refine ⟨by simp [encKd], _, hn, ?_⟩
  have g5 : b = false → E = 5 := fun h => by rw [hE, if_pos h]
  have g1 : b = true → (wk < 0 ∨ wk > 3) → E = 1 := fun h h1 => by rw [hE, if_neg (by simp [h]), if_pos h1]
  have g4 : b = true → 0 ≤ wk → wk ≤ 3 → (cl < 1 ∨ cl > 60000 ∨ up < 1 ∨ up > 200 ∨ dn < 1 ∨ dn > 200 ∨ sl < 1 ∨ sl > 400 ∨ fa < 1 ∨ fa > 400) → E = 4 := fun h h1 h2 h3 => by rw [hE, if_neg (by simp [h]), if_neg (by omega), if_pos h3]
  have g3 : b = true → 0 ≤ wk → wk ≤ 3 → ¬ (cl < 1 ∨ cl > 60000 ∨ up < 1 ∨ up > 200 ∨ dn < 1 ∨ dn > 200 ∨ sl < 1 ∨ sl > 400 ∨ fa < 1 ∨ fa > 400) → sl > fa → E = 3 := fun h h1 h2 h3 h4 => by rw [hE, if_neg (by simp [h]), if_neg (by omega), if_neg h3, if_pos h4]
  have g0 : b = true → 0 ≤ wk → wk ≤ 3 → ¬ (cl < 1 ∨ cl > 60000 ∨ up < 1 ∨ up > 200 ∨ dn < 1 ∨ dn > 200 ∨ sl < 1 ∨ sl > 400 ∨ fa < 1 ∨ fa > 400) → ¬ sl > fa → E = 0 := fun h h1 h2 h3 h4 => by rw [hE, if_neg (by simp [h]), if_neg (by omega), if_neg h3, if_neg h4]
  clear hE
  cases b
  · have := g5 rfl
    simp [this]
  · simp [encKd, e1]
    clear g5
    replace g1 := g1 rfl
    replace g4 := g4 rfl
    replace g3 := g3 rfl
    replace g0 := g0 rfl
    repeat' (first | refine And.intro ?_ ?_ | intro _)
    all_goals (first | assumption | omega)
def levT : List Nd := [⟨0, 0, 0, 9000, 100, 50⟩, ⟨100, 10000, 0, 9000, 100, 50⟩]
def jetK : Kd := ⟨⟨#[74, 69, 84]⟩, 1, 40000, 50, 40, 50, 300⟩
theorem level_fn : Fn Tryz.prog 14 [] (.row 38 6 true) (tube levT) := by
  have e := ResF.level_form (tube levT)
  have k := fun h => fn_run mixed 3 (Γ := ResF.Γ) (ann := ResF.ann) Tryz.func14 rfl Tryz.call14 (e.mpr h)
  refine k ?_
  clear k e
  exact ⟨flat_tube levT, rfl⟩
theorem jet_fn : Fn Tryz.prog 15 [] .sc (kd jetK) := by
  have e := ResF.jet_form (kd jetK)
  have k := fun h => fn_run mixed 3 (Γ := ResF.Γ) (ann := ResF.ann) Tryz.func15 rfl Tryz.call15 (e.mpr h)
  refine k ?_
  clear k e
  simp [jetK, encKd]
theorem climbed_fn (n : Int) : Fn Tryz.prog 20 [.int n] .sc (.agg [.string ⟨#[65, 49]⟩, .int 0, .int n, .string ⟨#[]⟩]) := by
  have e := ResF.climbed_form (.int n) (.agg [.string ⟨#[65, 49]⟩, .int 0, .int n, .string ⟨#[]⟩])
  have k := fun h => fn_run mixed 3 (Γ := ResF.Γ) (ann := ResF.ann) Tryz.func20 rfl Tryz.call20 (e.mpr h)
  refine k ?_
  clear k e
  simp
def stT (x : Int) : List Nd := [⟨0, x, 0, 0, 0, 0⟩, ⟨10, x, 0, 0, 0, 0⟩]
theorem still_fn (x : Int) : Fn Tryz.prog 16 [.int x] (.row 38 6 true) (tube (stT x)) := by
  have e := ResF.still_form (.int x) (tube (stT x))
  have k := fun h => fn_run mixed 3 (Γ := ResF.Γ) (ann := ResF.ann) Tryz.func16 rfl Tryz.call16 (e.mpr h)
  refine k ?_
  clear k e
  exact ⟨by simp, flat_tube (stT x), rfl⟩
structure Sp where
  la : Int
  ve : Int
def encSp (s : Sp) : List AV := [.int s.la, .int s.ve]
abbrev sp (s : Sp) : AV := .agg (encSp s)
theorem near_fn : Fn Tryz.prog 18 [] .sc (sp ⟨100, 1000⟩) := by
  have e := ResF.near_form (sp ⟨100, 1000⟩)
  have k := fun h => fn_run mixed 3 (Γ := ResF.Γ) (ann := ResF.ann) Tryz.func18 rfl Tryz.call18 (e.mpr h)
  refine k ?_
  clear k e
  simp [encSp]
def sepE (s : Sp) : Int := if s.la < 0 ∨ s.la > 1000000 ∨ s.ve < 0 ∨ s.ve > 60000 then 4 else 0
theorem csep_fn (s : Sp) : Fn Tryz.prog 56 [sp s] .sc (.int (sepE s)) := by
  refine fn_run mixed 3 (Γ := ResF.Γ) (ann := ResF.ann) Tryz.func56 rfl Tryz.call56 ((ResF.csep_form _ _).mpr ?_)
  obtain ⟨la, ve⟩ := s
  simp [encSp]
  have h4 : (la < 0 ∨ la > 1000000 ∨ ve < 0 ∨ ve > 60000) → 4 = sepE ⟨la, ve⟩ := fun h => by unfold sepE; rw [if_pos h]
  have h0 : ¬ (la < 0 ∨ la > 1000000 ∨ ve < 0 ∨ ve > 60000) → 0 = sepE ⟨la, ve⟩ := fun h => by unfold sepE; rw [if_neg h]
  refine ⟨fun a => ⟨a, h4 (by omega)⟩, fun a => ⟨a, fun b => ⟨b, h4 (by omega)⟩, fun b => ⟨b, fun c => ⟨c, h4 (by omega)⟩, fun c => ⟨c, fun d => h4 (by omega), fun d => h0 (by omega)⟩⟩⟩⟩
def rbin (n : Int) : Nat → Int → Int → Int
  | 0, lo, _ => lo
  | f + 1, lo, hi => if lo < hi then (if (lo + (hi - lo + 1) / 2) * (lo + (hi - lo + 1) / 2) ≤ n then rbin n f (lo + (hi - lo + 1) / 2) hi else rbin n f lo (lo + (hi - lo + 1) / 2 - 1)) else lo
def rootI (n : Int) : Int := if n ≤ 0 then 0 else rbin n 40 0 3037000499
theorem rbin_bd (n : Int) : ∀ (f : Nat) (lo hi : Int), lo ≤ hi → lo ≤ rbin n f lo hi ∧ rbin n f lo hi ≤ hi
  | 0, lo, hi, h => ⟨Int.le_refl _, h⟩
  | f + 1, lo, hi, h => by
    rw [rbin]
    split
    · split
      · have := rbin_bd n f (lo + (hi - lo + 1) / 2) hi (by omega); omega
      · have := rbin_bd n f lo (lo + (hi - lo + 1) / 2 - 1) (by omega); omega
    · omega
theorem rootI_bd (n : Int) : 0 ≤ rootI n ∧ rootI n ≤ 3037000499 := by
  unfold rootI
  split
  · omega
  · exact rbin_bd n 40 0 3037000499 (by omega)
theorem sq_bd {r : Int} (h0 : 0 ≤ r) (h1 : r ≤ 3037000499) : 0 ≤ r * r ∧ r * r ≤ 9223372030926249001 := by
  have a1 := Int.mul_le_mul h1 h1 h0 (by omega)
  have a2 := Int.mul_nonneg h0 h0
  exact ⟨a2, by simpa using a1⟩
theorem root_fn (n : Int) : Fn Tryz.prog 36 [.int n] .sc (.int (rootI n)) := by
  have e := ResF.root_form (.int n) (.int (rootI n))
  have k := fun h => fn_run mixed 3 (Γ := ResF.Γ) (ann := ResF.ann) Tryz.func36 rfl Tryz.call36 (e.mpr h)
  refine k ?_
  clear k e
  refine ⟨by simp, by simp, fun h => ?_, fun h => ?_⟩
  · have h : n ≤ 0 := by simpa using h
    unfold rootI
    rw [if_pos h]
    simp
  · have h : ¬ n ≤ 0 := by simpa using h
    have hR : rootI n = rbin n 40 0 3037000499 := by unfold rootI; rw [if_neg h]
    rw [hR]
    generalize hr : rbin n 40 0 3037000499 = R
    refine loop_of (τ := Int × Int × Nat) (fun s => [.int s.1, .int s.2.1]) (fun s => 0 ≤ s.1 ∧ s.1 ≤ s.2.1 ∧ s.2.1 ≤ 3037000499 ∧ s.2.1 - s.1 < (2 ^ s.2.2 : Nat) ∧ rbin n s.2.2 s.1 s.2.1 = R) (fun s => (s.2.1 - s.1).toNat) (0, 3037000499, 40) rfl ⟨by simp, by simp, by simp, by simp, hr⟩ ?_
    rintro ⟨lo, hi, f⟩ ⟨i1, i2, i3, i4, i5⟩
    simp only at i1 i2 i3 i4 i5
    by_cases hlt : lo < hi
    · obtain ⟨g, rfl⟩ : ∃ g, f = g + 1 := ⟨f - 1, by
        rcases Nat.eq_zero_or_pos f with z | z
        · subst z; simp at i4; omega
        · omega⟩
      rw [Nat.pow_succ] at i4
      generalize hP : 2 ^ g = P at i4
      have hP' : (2 : Int) ^ g = (P : Int) := by rw [← hP]; simp
      rw [rbin, if_pos hlt] at i5
      have e1 : (hi - lo + 1).tdiv 2 = (hi - lo + 1) / 2 := Int.tdiv_eq_ediv_of_nonneg (by omega)
      have w1 : wr (hi - lo) = hi - lo := wr_id (by omega) (by omega)
      have w2 : wr (hi - lo + 1) = hi - lo + 1 := wr_id (by omega) (by omega)
      have w3 : wr ((hi - lo + 1) / 2) = (hi - lo + 1) / 2 := wr_id (by omega) (by omega)
      have w4 : wr (lo + (hi - lo + 1) / 2) = lo + (hi - lo + 1) / 2 := wr_id (by omega) (by omega)
      generalize hm : lo + (hi - lo + 1) / 2 = m at *
      have hmb : lo < m ∧ m ≤ hi ∧ 2 * (hi - m) ≤ hi - lo ∧ 2 * (m - 1 - lo) ≤ hi - lo := by omega
      have hsq := sq_bd (r := m) (by omega) (by omega)
      have w5 : wr (m * m) = m * m := wr_id (by omega) (by omega)
      have w6 : wr (m - 1) = m - 1 := wr_id (by omega) (by omega)
      simp [hlt, w1, w2, w3, hm, w4, w5, w6, e1]
      refine ⟨fun q => ?_, fun q => ?_⟩
      · rw [if_pos q] at i5
        exact ⟨_, by omega, m, hi, ⟨rfl, rfl⟩, ⟨⟨by omega, by omega, i3, g, by rw [hP']; omega, i5⟩, rfl⟩⟩
      · rw [if_neg (by omega)] at i5
        exact ⟨_, by omega, lo, m - 1, ⟨rfl, rfl⟩, ⟨⟨by omega, by omega, by omega, g, by rw [hP']; omega, i5⟩, rfl⟩⟩
    · have : rbin n f lo hi = lo := by cases f <;> simp [rbin, hlt]
      rw [this] at i5
      subst i5
      simp [hlt]
def disA (a b : Pt) : Int := rootI (sqrP a b)
def disB (a b : Pt) : Int := if disA a b * disA a b < sqrP a b then disA a b + 1 else disA a b
theorem dist_fn (a b : Pt) : Fn Tryz.prog 11 [pt a, pt b] (.tup [.sc, .sc]) (.tup [.int (disA a b), .int (disB a b)]) := by
  have e := ResF.dist_form (pt a) (pt b) (.tup [.int (disA a b), .int (disB a b)])
  have k := fun h => fn_run mixed 3 (Γ := ResF.Γ) (ann := ResF.ann) Tryz.func11 rfl Tryz.call11 (e.mpr h)
  refine k ?_
  clear k e
  have hb := rootI_bd (sqrP a b)
  have hsq := sq_bd hb.1 hb.2
  have hB : disB a b = if disA a b * disA a b < sqrP a b then disA a b + 1 else disA a b := rfl
  have hA : disA a b = rootI (sqrP a b) := rfl
  rw [hB, hA]
  refine ⟨by simp [encP], by simp [encP], _, sqr_fn a b, _, root_fn _, ?_⟩
  generalize sqrP a b = n at *
  generalize rootI n = R at *
  have w1 : wr (R * R) = R * R := wr_id (by omega) (by omega)
  have w2 : wr (R + 1) = R + 1 := wr_id (by omega) (by omega)
  simp [w1, w2]
  exact ⟨fun q q2 => by omega, fun q q2 => by omega⟩
def mxJ (a b : Int) : Int := if b > a then b else a
def sepB (a b : Nd) (s : Sp) : Bool := decide (wr (wr (disA a.p b.p - a.r) - b.r) ≥ s.la) || decide (wr (wr (mxJ (wr (a.h - b.h)) (wr (b.h - a.h)) - a.b) - b.b) ≥ s.ve)
theorem sep_fn (a b : Nd) (s : Sp) : Fn Tryz.prog 104 [nd a, nd b, sp s] .sc (.bool (sepB a b s)) := by
  have e := ResF.sep_form (nd a) (nd b) (sp s) (.bool (sepB a b s))
  have k := fun h => fn_run mixed 3 (Γ := ResF.Γ) (ann := ResF.ann) Tryz.func104 rfl Tryz.call104 (e.mpr h)
  refine k ?_
  clear k e
  have hd := dist_fn a.p b.p
  have hS : sepB a b s = (decide (wr (wr (disA a.p b.p - a.r) - b.r) ≥ s.la) || decide (wr (wr (mxJ (wr (a.h - b.h)) (wr (b.h - a.h)) - a.b) - b.b) ≥ s.ve)) := rfl
  rw [hS]
  generalize disA a.p b.p = D at *
  generalize disB a.p b.p = D2 at *
  obtain ⟨at_, ax, ay, ah, ar, ab⟩ := a
  obtain ⟨bt, bx, b_, bh, br, bb⟩ := b
  obtain ⟨la, ve⟩ := s
  refine ⟨by simp [encN], by simp [encN], by simp [encSp], _, hd, ?_⟩
  simp [encN, encSp]
  refine ⟨fun h => ⟨h, .inl h⟩, fun h => ⟨h, ?_⟩⟩
  have : ¬ la ≤ wr (wr (D - ar) - br) := by omega
  simp [this, mxJ]
/-- The start and the end of what two tubes have in common. -/
def comA (a b : List Nd) : Int := mxJ (a.getD 0 default).t (b.getD 0 default).t
def comB (a b : List Nd) : Int := if (b.getD (b.length - 1) default).t < (a.getD (a.length - 1) default).t then (b.getD (b.length - 1) default).t else (a.getD (a.length - 1) default).t
theorem ends_of {a : List Nd} (h : tE a = 0) : ∃ x y, a[0]? = some x ∧ a[a.length - 1]? = some y ∧ a.getD 0 default = x ∧ a.getD (a.length - 1) default = y ∧ 0 ≤ x.t ∧ x.t ≤ 200000 ∧ 0 ≤ y.t ∧ y.t ≤ 200000 ∧ 0 < a.length ∧ a.length ≤ 64 := by
  obtain ⟨hp, h64, hG⟩ := tE_ok h
  obtain ⟨x, hx⟩ : ∃ x, a[0]? = some x := ⟨_, List.getElem?_eq_getElem (by omega)⟩
  obtain ⟨y, hy⟩ : ∃ y, a[a.length - 1]? = some y := ⟨_, List.getElem?_eq_getElem (by omega)⟩
  have h1 := (tG_get hG hx).2.1
  have h2 := (tG_get hG hy).2.1
  exact ⟨x, y, hx, hy, by rw [List.getD_eq_getElem?_getD, hx]; rfl, by rw [List.getD_eq_getElem?_getD, hy]; rfl, h1.1, h1.2.1, h2.1, h2.2.1, hp, h64⟩
theorem common_fn (a b : List Nd) (ha : tE a = 0) (hb : tE b = 0) : Fn Tryz.prog 103 [tube a, tube b] (.tup [.sc, .sc]) (.tup [.int (comA a b), .int (comB a b)]) := by
  have e := ResF.common_form (tube a) (tube b) (.tup [.int (comA a b), .int (comB a b)])
  have k := fun h => fn_run mixed 3 (Γ := ResF.Γ) (ann := ResF.ann) Tryz.func103 rfl Tryz.call103 (e.mpr h)
  refine k ?_
  clear k e
  obtain ⟨x, y, hx, hy, hxd, hyd, x1, x2, y1, y2, la, la2⟩ := ends_of ha
  obtain ⟨z, u, hz, hu, hzd, hud, z1, z2, u1, u2, lb, lb2⟩ := ends_of hb
  have wa : wr ((a.length : Int) - 1) = ((a.length - 1 : Nat) : Int) := by rw [wr_id (by omega) (by omega)]; omega
  have wb : wr ((b.length : Int) - 1) = ((b.length - 1 : Nat) : Int) := by rw [wr_id (by omega) (by omega)]; omega
  have hza : AV.at (tube a) (.lit (.int .i64 0)) 0 = .int x.t := by have := lst_at (s := 6) (enc := encN) (k := .i64) (j := 0) hx; simpa [encN] using this
  have hzb : AV.at (tube b) (.lit (.int .i64 0)) 0 = .int z.t := by have := lst_at (s := 6) (enc := encN) (k := .i64) (j := 0) hz; simpa [encN] using this
  have hF : comA a b = if z.t > x.t then z.t else x.t := by unfold comA mxJ; rw [hxd, hzd]
  have hL : comB a b = if u.t < y.t then u.t else y.t := by unfold comB; rw [hyd, hud]
  have hal : ((a.length - 1 : Nat) : Int) < a.length := by omega
  have hbl : ((b.length - 1 : Nat) : Int) < b.length := by omega
  rw [hF, hL]
  simp only [hza, hzb, lst_len, av_subt, wr_eq, wa, wb, lst_at hy, lst_at hu, encN, List.getD_cons_zero]
  refine ⟨by simp, by simp; omega, by simp, by simp; omega, by simp, by simp, by simp, by simp, by simp, by simp; omega, by simp, by simp, by simp, by simp; omega, by simp, by simp, .lit _, .lit _, rfl⟩
end Go.Proofs.YtacfofpbbempaaaGreatDoor
/- resolve: the intervals without separation; the first second of two tubes. -/
namespace Go.Proofs.YtacfofpbbempaaaGreatDoor
open Go.RowKit
set_option linter.unusedVariables false
set_option linter.unusedSimpArgs false
set_option maxRecDepth 100000
/-- The node at a time; the zero node where there is none. -/
def ndA (l : List Nd) (s : Int) : Nd := if tatE l s = 0 then atN l s else nd0
theorem tatV_nd (l : List Nd) (s : Int) : tatV l s = .tup [nd (ndA l s), .int (tatE l s)] := by
  unfold tatV ndA
  by_cases h : tatE l s = 0
  · rw [if_pos h, if_pos h, h]
  · rw [if_neg h, if_neg h]
def encQ (q : Int × Int) : List AV := [.int q.1, .int q.2]
abbrev qs (l : List (Int × Int)) : AV := lst 2 encQ l
theorem flat_qs (l : List (Int × Int)) : (qs l).flatS := lst_flatS fun x _ z hz => by
  simp [encQ] at hz; rcases hz with rfl | rfl <;> exact .lit _
def addS (t : Int) (out : List (Int × Int)) : List (Int × Int) := if 0 < out.length ∧ (out.getD (out.length - 1) default).2 = t then out.set (out.length - 1) ((out.getD (out.length - 1) default).1, t + 1) else out ++ [(t, t + 1)]
theorem addS_len (t : Int) (out : List (Int × Int)) : (addS t out).length ≤ out.length + 1 := by
  unfold addS
  split
  · simp
  · simp
def stpS (a b : List Nd) (s : Sp) (t : Int) (out : List (Int × Int)) : List (Int × Int) := if sepB (ndA a t) (ndA b t) s = true then out else addS t out
theorem stpS_len (a b : List Nd) (s : Sp) (t : Int) (out : List (Int × Int)) : (stpS a b s t out).length ≤ out.length + 1 := by
  unfold stpS
  split
  · omega
  · exact addS_len t out
def spansF (a b : List Nd) (s : Sp) : Int → Nat → List (Int × Int) → List (Int × Int)
  | _, 0, out => out
  | t, n + 1, out => spansF a b s (t + 1) n (stpS a b s t out)
def spnL (a b : List Nd) (s : Sp) : List (Int × Int) := spansF a b s (comA a b) (comB a b - comA a b + 1).toNat []
theorem com_bd {a b : List Nd} (ha : tE a = 0) (hb : tE b = 0) : 0 ≤ comA a b ∧ comA a b ≤ 200000 ∧ 0 ≤ comB a b ∧ comB a b ≤ 200000 := by
  obtain ⟨x, y, hx, hy, hxd, hyd, x1, x2, y1, y2, la, la2⟩ := ends_of ha
  obtain ⟨z, u, hz, hu, hzd, hud, z1, z2, u1, u2, lb, lb2⟩ := ends_of hb
  unfold comA comB mxJ
  rw [hxd, hzd, hyd, hud]
  split <;> split <;> omega
theorem spans_fn (a b : List Nd) (s : Sp) (ha : tE a = 0) (hb : tE b = 0) : Fn Tryz.prog 91 [tube a, tube b, sp s] (.row 115 2 true) (qs (spnL a b s)) := by
  have e := ResF.spans_form (tube a) (tube b) (sp s) (qs (spnL a b s))
  have k := fun h => fn_run mixed 3 (Γ := ResF.Γ) (ann := ResF.ann) Tryz.func91 rfl Tryz.call91 (e.mpr h)
  refine k ?_
  clear k e
  obtain ⟨c1, c2, c3, c4⟩ := com_bd ha hb
  have hcom := common_fn a b ha hb
  have hL : spnL a b s = spansF a b s (comA a b) (comB a b - comA a b + 1).toNat [] := rfl
  generalize spnL a b s = R at *
  generalize comA a b = F at *
  generalize comB a b = L at *
  refine ⟨by simp [encSp], _, hcom, ?_⟩
  refine loop_of (τ := Int × List (Int × Int)) (fun s => [.int s.1, qs s.2]) (fun p => F ≤ p.1 ∧ p.1 ≤ 200001 ∧ p.2.length ≤ (p.1 - F).toNat ∧ R = spansF a b s p.1 (L - p.1 + 1).toNat p.2) (fun p => (L - p.1 + 1).toNat) (F, []) rfl ⟨Int.le_refl _, by simp; omega, by simp, hL⟩ ?_
  rintro ⟨t, out⟩ ⟨i1, i2, i3, i4⟩
  simp only at i1 i2 i3 i4
  by_cases hle : t ≤ L
  · obtain ⟨n, hn⟩ : ∃ n, (L - t + 1).toNat = n + 1 := ⟨(L - t).toNat, by omega⟩
    have hn2 : (L - (t + 1) + 1).toNat = n := by omega
    rw [hn, spansF, ← hn2] at i4
    have hlen := stpS_len a b s t out
    have hta := tat_fn a t
    have htb := tat_fn b t
    rw [tatV_nd] at hta htb
    have hsp := sep_fn (ndA a t) (ndA b t) s
    have hst : stpS a b s t out = if sepB (ndA a t) (ndA b t) s = true then out else addS t out := rfl
    have wt : wr (t + 1) = t + 1 := wr_id (by omega) (by omega)
    have hK : ∀ o, o = stpS a b s t out → (fun zs : List AV => ∃ m', m' < (L - t + 1).toNat ∧ ∃ y : Int × List (Int × Int), zs = [AV.int y.1, qs y.2] ∧ (F ≤ y.1 ∧ y.1 ≤ 200001 ∧ y.2.length ≤ (y.1 - F).toNat ∧ R = spansF a b s y.1 (L - y.1 + 1).toNat y.2) ∧ (L - y.1 + 1).toNat = m') [.int (t + 1), qs o] := fun o ho => by
      rw [← ho] at i4 hlen
      exact ⟨_, by show (L - (t + 1) + 1).toNat < _; omega, (t + 1, o), rfl, ⟨by simp; omega, by simp; omega, by simp; omega, i4⟩, rfl⟩
    generalize (fun zs : List AV => ∃ m', m' < (L - t + 1).toNat ∧ ∃ y : Int × List (Int × Int), zs = [AV.int y.1, qs y.2] ∧ (F ≤ y.1 ∧ y.1 ≤ 200001 ∧ y.2.length ≤ (y.1 - F).toNat ∧ R = spansF a b s y.1 (L - y.1 + 1).toNat y.2) ∧ (L - y.1 + 1).toNat = m') = KK at *
    rw [hst] at hK
    generalize ndA a t = A at *
    generalize ndA b t = B at *
    generalize sepB A B s = c at *
    clear hst i4 hlen
    refine ⟨by simp, by simp, fun _ => ⟨_, hta, by simp [encN], _, htb, by simp [encN], _, hsp, by simp, fun h => ?_, fun h => ?_⟩, fun h => absurd h (by simp; omega)⟩
    · have h : c = true := by simpa using h
      have := hK out (by rw [if_pos h])
      simp [wt]
      exact this
    · have h : ¬ c = true := by simpa using h
      have hK2 := fun o ho => hK o (by rw [if_neg h]; exact ho)
      clear hK
      have hr : AV.room (qs out) (.sl 2 [[.int t, .int (t + 1)]]) 16 := by
        unfold AV.room
        simp only [lst_els, List.length_map, av_els, List.length_cons, List.length_nil]
        omega
      have happ : AV.app 2 (qs out) (.sl 2 [[.int t, .int (t + 1)]]) = qs (out ++ [(t, t + 1)]) := by simp [lst, encQ]
      by_cases ho : 0 < out.length
      · obtain ⟨z, hz⟩ : ∃ z, out[out.length - 1]? = some z := ⟨_, List.getElem?_eq_getElem (by omega)⟩
        have hzd : out.getD (out.length - 1) default = z := by rw [List.getD_eq_getElem?_getD, hz]; rfl
        have wl : wr ((out.length : Int) - 1) = ((out.length - 1 : Nat) : Int) := by rw [wr_id (by omega) (by omega)]; omega
        have hset : AV.setEl (qs out) (.lit (.int .i64 ((out.length - 1 : Nat) : Int))) 1 [.int (t + 1)] = qs (out.set (out.length - 1) (z.1, t + 1)) := lst_setEl hz (by simp [encQ])
        have hadd : addS t out = if z.2 = t then out.set (out.length - 1) (z.1, t + 1) else out ++ [(t, t + 1)] := by
          unfold addS
          rw [hzd]
          by_cases q : z.2 = t
          · rw [if_pos ⟨ho, q⟩, if_pos q]
          · rw [if_neg (fun g => q g.2), if_neg q]
        have hat := lst_at (s := 2) (enc := encQ) (k := .i64) (j := 1) hz
        simp only [encQ, List.getD_cons_succ, List.getD_cons_zero] at hat
        have hlt : ((out.length - 1 : Nat) : Int) < out.length := by omega
        simp only [List.getD_cons_zero, List.getD_cons_succ, lst_len, av_subt, av_add, wr_eq, wl, wt, hat, hset, av_mk, happ]
        refine ⟨by simp, by simp, fun _ => ⟨by simp, by simp; omega, by simp; omega, by simp, by simp, by simp; (first | omega | (intro q; simp [q] at ho)), by simp, fun g => ?_, fun g => ?_⟩, fun g => absurd g (by simp; intro q; simp [q] at ho)⟩
        · have g : z.2 = t := by simpa using g
          exact ⟨by simp, by simp, by simp; omega, by simp, by simp; omega, by simp, hK2 _ (by rw [hadd, if_pos g])⟩
        · have g : ¬ z.2 = t := by simpa using g
          exact ⟨by simp, by simp, by simp, hr, by simp, hK2 _ (by rw [hadd, if_neg g])⟩
      · have hadd : addS t out = out ++ [(t, t + 1)] := by unfold addS; rw [if_neg (fun g => ho g.1)]
        simp only [List.getD_cons_zero, List.getD_cons_succ, lst_len, av_add, wr_eq, wt, av_mk, happ]
        have ho0 : out = [] := List.eq_nil_of_length_eq_zero (by omega)
        refine ⟨by simp, by simp, fun g => absurd g (by simp [ho0]), fun _ => ⟨by simp, by simp [ho0], by simp, by simp, by simp, hr, by simp, hK2 _ hadd.symm⟩⟩
  · have e : (L - t + 1).toNat = 0 := by omega
    rw [e, spansF] at i4
    subst i4
    exact ⟨by simp, by simp, fun h => absurd h (by simp; omega), fun _ => ⟨flat_qs R, rfl⟩⟩
def pairE (a b : List Nd) (s : Sp) : Int := if sepE s ≠ 0 then sepE s else if tE a ≠ 0 then tE a else tE b
def pairV (a b : List Nd) (s : Sp) : AV := if pairE a b s ≠ 0 then .tup [.sl 2 [], .int (pairE a b s)] else .tup [qs (spnL a b s), .int 0]
def encT (l : List Nd) : List AV := [tube l]
abbrev tbs (l : List (List Nd)) : AV := lst 1 encT l
theorem pair_fn (a b : List Nd) (s : Sp) : Fn Tryz.prog 75 [tube a, tube b, sp s] (.tup [.row 115 2 true, .sc]) (pairV a b s) := by
  have e := ResF.pair_form (tube a) (tube b) (sp s) (pairV a b s)
  have k := fun h => fn_run mixed 3 (Γ := ResF.Γ) (ann := ResF.ann) Tryz.func75 rfl Tryz.call75 (e.mpr h)
  refine k ?_
  clear k e
  rw [show AV.mk 1 [[tube a], [tube b]] = tbs [a, b] from rfl]
  have hV : pairV a b s = if pairE a b s ≠ 0 then .tup [.sl 2 [], .int (pairE a b s)] else .tup [qs (spnL a b s), .int 0] := rfl
  have hE : pairE a b s = if sepE s ≠ 0 then sepE s else if tE a ≠ 0 then tE a else tE b := rfl
  have hv : ∀ e, e ≠ 0 → pairE a b s = e → pairV a b s = .tup [.sl 2 [], .int e] := fun e h1 h2 => by rw [hV, h2, if_pos h1]
  refine ⟨by simp [encSp], by simp, by simp, Tryz.call90, fun _ => ⟨_, csep_fn s, by simp, by simp, fun h => ?_, fun h => ?_⟩⟩
  · have h : sepE s ≠ 0 := by simpa using h
    rw [hv _ h (by rw [hE, if_pos h])]
    simp [h]
  have h0 : sepE s = 0 := by simpa using h
  rw [if_neg (by simp [h0])] at hE
  refine loop_list (σ := Unit) [a, b] (fun i _ => [.int (i : Nat)]) (fun i rest _ => (rest = [a, b] ∨ (tE a = 0 ∧ rest = [b]) ∨ (tE a = 0 ∧ tE b = 0 ∧ rest = []))) () rfl (.inl rfl) ?_ ?_
  · rintro i x rest _ K hx hrest hi hG hK
    have hi2 : (i : Int) < 2 := by have : i < 2 := hi; omega
    have hwi : wr ((i : Int) + 1) = (i : Int) + 1 := wr_id (by omega) (by omega)
    have hK' := hK [.int ((i : Int) + 1)] () (by simp)
    clear hK
    simp [hi2, lst_at hx, encT]
    refine ⟨_, tcheck_fn x, ?_⟩
    simp [hwi]
    refine ⟨fun h => ⟨h, ?_⟩, fun h => hK' ?_⟩
    · rcases hG with g | ⟨g0, g⟩ | ⟨_, _, g⟩
      · injection g with g1 g2
        subst g1
        rw [hv _ h (by rw [hE, if_pos h])]
      · injection g with g1 g2
        subst g1
        rw [hv _ h (by rw [hE, if_neg (by simp [g0])])]
      · cases g
    · rcases hG with g | ⟨g0, g⟩ | ⟨_, _, g⟩
      · injection g with g1 g2
        subst g1
        exact .inr (.inl ⟨h, g2⟩)
      · injection g with g1 g2
        subst g1
        exact .inr (.inr ⟨g0, h, g2⟩)
      · cases g
  · rintro _ K hG
    obtain ⟨ha, hb⟩ : tE a = 0 ∧ tE b = 0 := by
      rcases hG with g | ⟨g0, g⟩ | ⟨g1, g2, g⟩
      · cases g
      · cases g
      · exact ⟨g1, g2⟩
    rw [if_neg (by simp [ha])] at hE
    rw [hV, if_neg (by rw [hE]; simp [hb])]
    have hs := spans_fn a b s ha hb
    have hf := flat_qs (spnL a b s)
    refine ⟨by simp, by simp, fun h => absurd h (by simp), fun _ => ?_⟩
    first
      | exact ⟨_, hs, hf, .lit _, rfl⟩
      | exact ⟨by simp, by simp, by simp, _, hs, hf, .lit _, rfl⟩
def firE (a b : List Nd) (s : Sp) : Int := if pairE a b s ≠ 0 then pairE a b s else if (spnL a b s).length = 0 then 8 else 0
def firT (a b : List Nd) (s : Sp) : Int := if firE a b s ≠ 0 then 0 else ((spnL a b s).getD 0 default).1
theorem first_fn (a b : List Nd) (s : Sp) : Fn Tryz.prog 57 [tube a, tube b, sp s] (.tup [.sc, .sc]) (.tup [.int (firT a b s), .int (firE a b s)]) := by
  have e := ResF.first_form (tube a) (tube b) (sp s) (.tup [.int (firT a b s), .int (firE a b s)])
  have k := fun h => fn_run mixed 3 (Γ := ResF.Γ) (ann := ResF.ann) Tryz.func57 rfl Tryz.call57 (e.mpr h)
  refine k ?_
  clear k e
  have hp := pair_fn a b s
  have hV : pairV a b s = if pairE a b s ≠ 0 then .tup [.sl 2 [], .int (pairE a b s)] else .tup [qs (spnL a b s), .int 0] := rfl
  have hE : firE a b s = if pairE a b s ≠ 0 then pairE a b s else if (spnL a b s).length = 0 then 8 else 0 := rfl
  have hT : firT a b s = if firE a b s ≠ 0 then 0 else ((spnL a b s).getD 0 default).1 := rfl
  refine ⟨by simp [encSp], _, hp, ?_⟩
  by_cases h0 : pairE a b s = 0
  · rw [hV, if_neg (by simp [h0])]
    rw [if_neg (by simp [h0])] at hE
    by_cases hl : (spnL a b s).length = 0
    · rw [if_pos hl] at hE
      rw [hE, if_pos (by decide)] at hT
      rw [hE, hT]
      have : spnL a b s = [] := List.eq_nil_of_length_eq_zero hl
      rw [this]
      simp
    · rw [if_neg hl] at hE
      rw [hE, if_neg (by decide)] at hT
      rw [hE, hT]
      obtain ⟨z, hz⟩ : ∃ z, (spnL a b s)[0]? = some z := ⟨_, List.getElem?_eq_getElem (by omega)⟩
      have hzd : (spnL a b s).getD 0 default = z := by rw [List.getD_eq_getElem?_getD, hz]; rfl
      rw [hzd]
      generalize spnL a b s = L at *
      have hat : AV.at (qs L) (.lit (.int .i64 0)) 0 = .int z.1 := by have := lst_at (s := 2) (enc := encQ) (k := .i64) (j := 0) hz; simpa [encQ] using this
      refine ⟨by simp, by simp, fun h => absurd h (by simp), fun _ => ⟨by simp, by simp, fun h => absurd h (by simp; intro q; simp [q] at hl), fun _ => ?_⟩⟩
      simp only [av_prj, List.getD_cons_zero, hat]
      exact ⟨by simp; omega, by simp; omega, .lit _, .lit _, rfl⟩
  · rw [hV, if_pos h0]
    rw [if_pos h0] at hE
    rw [hE, if_pos h0] at hT
    rw [hE, hT]
    simp [h0]
end Go.Proofs.YtacfofpbbempaaaGreatDoor
/- resolve: what is free; the fact; the law. -/
namespace Go.Proofs.YtacfofpbbempaaaGreatDoor
open Go.RowKit
set_option linter.unusedVariables false
set_option linter.unusedSimpArgs false
set_option maxRecDepth 100000
def tsE : List (List Nd) → Int
  | [] => 0
  | t :: r => if tE t ≠ 0 then tE t else tsE r
def rcE (l : List (List Nd)) (i : Int) (s : Sp) : Int := if sepE s ≠ 0 then sepE s else if 24 < l.length then 2 else if tsE l ≠ 0 then tsE l else if i < 0 ∨ l.length ≤ i then 4 else 0
theorem rcheck_fn (l : List (List Nd)) (i : Int) (s : Sp) : Fn Tryz.prog 37 [tbs l, .int i, sp s] .sc (.int (rcE l i s)) := by
  have e := ResF.rcheck_form (tbs l) (.int i) (sp s) (.int (rcE l i s))
  have k := fun h => fn_run mixed 3 (Γ := ResF.Γ) (ann := ResF.ann) Tryz.func37 rfl Tryz.call37 (e.mpr h)
  refine k ?_
  clear k e
  have hE : rcE l i s = if sepE s ≠ 0 then sepE s else if 24 < l.length then 2 else if tsE l ≠ 0 then tsE l else if i < 0 ∨ l.length ≤ i then 4 else 0 := rfl
  rw [hE]
  refine ⟨by simp [encSp], _, csep_fn s, by simp, by simp, fun h => ?_, fun h => ?_⟩
  · have h : sepE s ≠ 0 := by simpa using h
    rw [if_pos h]
    exact ⟨.lit _, rfl⟩
  have h0 : sepE s = 0 := by simpa using h
  rw [if_neg (by simp [h0])]
  refine ⟨by simp, by simp, by simp, fun h => ?_, fun h => ?_⟩
  · have h : 24 < l.length := by simp at h; omega
    rw [if_pos h]
    exact ⟨.lit _, rfl⟩
  have h1 : ¬ 24 < l.length := by simp at h; omega
  rw [if_neg h1]
  refine ⟨by simp, ?_⟩
  refine loop_list (σ := Unit) l (fun i _ => [.int (i : Nat)]) (fun i rest _ => tsE l = tsE rest) () rfl rfl ?_ ?_
  · rintro j x rest _ K hx hrest hj hG hK
    have hjl : (j : Int) < l.length := by omega
    have hwi : wr ((j : Int) + 1) = (j : Int) + 1 := wr_id (by omega) (by omega)
    have hK' := hK [.int ((j : Int) + 1)] () (by simp)
    clear hK
    rw [tsE] at hG
    have hat := lst_at (s := 1) (enc := encT) (k := .i64) (j := 0) hx
    simp only [encT, List.getD_cons_zero] at hat
    refine ⟨by simp, by simp, fun _ => ⟨by simp, by simp; omega, .int (tE x), by rw [show AV.at (tbs l) ([AV.int (j : Nat)].getD 0 default) 0 = tube x from hat]; exact tcheck_fn x, by simp, by simp, fun h => ?_, fun h => ?_⟩, fun h => absurd h (by simp; omega)⟩
    · have h : tE x ≠ 0 := by simpa using h
      rw [if_pos h] at hG
      rw [hG, if_pos h]
      exact ⟨.lit _, rfl⟩
    · have h : tE x = 0 := by simpa using h
      rw [if_neg (by simp [h])] at hG
      have hK2 := hK' hG
      simp only [List.getD_cons_zero, av_add, wr_eq, hwi]
      exact ⟨by simp, hK2⟩
  · rintro _ K hG
    rw [hG, tsE]
    refine ⟨by simp, by simp, fun h => absurd h (by simp), fun _ => ?_⟩
    have a1 : (i < 0 ∨ (l.length : Int) ≤ i) → (if i < 0 ∨ (l.length : Int) ≤ i then (4 : Int) else 0) = 4 := fun h => if_pos h
    have a0 : ¬ (i < 0 ∨ (l.length : Int) ≤ i) → (if i < 0 ∨ (l.length : Int) ≤ i then (4 : Int) else 0) = 0 := fun h => if_neg h
    generalize (if i < 0 ∨ (l.length : Int) ≤ i then (4 : Int) else 0) = V at *
    simp
    refine ⟨fun h => ⟨h, (a1 (.inl h)).symm⟩, fun h => ⟨h, fun g => (a1 (.inr g)).symm, fun g => (a0 (by omega)).symm⟩⟩
theorem rcE_ok {l : List (List Nd)} {i : Int} {s : Sp} (h : rcE l i s = 0) : l.length ≤ 24 ∧ 0 ≤ i ∧ i < l.length := by
  unfold rcE at h
  split at h
  · rename_i g; exact absurd h g
  · split at h
    · cases h
    · split at h
      · rename_i g; exact absurd h g
      · split at h
        · cases h
        · omega
def freeB (i : Int) (own : List Nd) (s : Sp) : Nat → List (List Nd) → Bool
  | _, [] => true
  | k, t :: r => if (k : Int) ≠ i ∧ firE own t s = 0 then false else freeB i own s (k + 1) r
theorem free_fn2 (l : List (List Nd)) (i : Int) (own : List Nd) (s : Sp) (hl : l.length ≤ 1000) : Fn Tryz.prog 38 [tbs l, .int i, tube own, sp s] .sc (.bool (freeB i own s 0 l)) := by
  have e := ResF.free_form (tbs l) (.int i) (tube own) (sp s) (.bool (freeB i own s 0 l))
  have k := fun h => fn_run mixed 3 (Γ := ResF.Γ) (ann := ResF.ann) Tryz.func38 rfl Tryz.call38 (e.mpr h)
  refine k ?_
  clear k e
  refine ⟨by simp [encSp], by simp, ?_⟩
  refine loop_list (σ := Unit) l (fun i _ => [.int (i : Nat)]) (fun j rest _ => freeB i own s 0 l = freeB i own s j rest) () rfl rfl ?_ ?_
  · rintro j x rest _ K hx hrest hj hG hK
    have hwi : wr ((j : Int) + 1) = (j : Int) + 1 := wr_id (by omega) (by omega)
    have hK' := hK [.int ((j : Int) + 1)] () (by simp)
    clear hK
    rw [freeB] at hG
    have hat := lst_at (s := 1) (enc := encT) (k := .i64) (j := 0) hx
    simp only [encT, List.getD_cons_zero] at hat
    have hf := first_fn own x s
    simp only [List.getD_cons_zero, hat, av_add, wr_eq, hwi]
    refine ⟨by simp, by simp, fun _ => ⟨by simp, by simp; omega, by simp, by simp, fun h => ⟨_, hf, by simp, by simp, fun g => ?_, fun g => ⟨by simp, ?_⟩⟩, fun h => ⟨by simp, ?_⟩⟩, fun h => absurd h (by simp; omega)⟩
    · rw [hG, if_pos ⟨by simpa using h, by simpa using g⟩]
      exact ⟨.lit _, rfl⟩
    · exact hK' (by rw [hG, if_neg (fun q => (by simpa using g : ¬ firE own x s = 0) q.2)])
    · exact hK' (by rw [hG, if_neg (fun q => q.1 (by simpa using h))])
  · rintro _ K hG
    rw [hG, freeB]
    refine ⟨by simp, by simp, fun h => absurd h (by simp), fun _ => ⟨.lit _, rfl⟩⟩
def rfB (l : List (List Nd)) (i : Int) (s : Sp) : Bool := if rcE l i s = 0 then freeB i (l.getD i.toNat []) s 0 l else false
theorem rfree_fn (l : List (List Nd)) (i : Int) (s : Sp) : Fn Tryz.prog 17 [tbs l, .int i, sp s] (.tup [.sc, .sc]) (.tup [.bool (rfB l i s), .int (rcE l i s)]) := by
  have e := ResF.rfree_form (tbs l) (.int i) (sp s) (.tup [.bool (rfB l i s), .int (rcE l i s)])
  have k := fun h => fn_run mixed 3 (Γ := ResF.Γ) (ann := ResF.ann) Tryz.func17 rfl Tryz.call17 (e.mpr h)
  refine k ?_
  clear k e
  have hB : rfB l i s = if rcE l i s = 0 then freeB i (l.getD i.toNat []) s 0 l else false := rfl
  have hok := rcE_ok (l := l) (i := i) (s := s)
  have hc := rcheck_fn l i s
  rw [hB]
  generalize rcE l i s = E at *
  refine ⟨by simp [encSp], _, hc, by simp, by simp, fun h => ?_, fun h => ?_⟩
  · have h : E ≠ 0 := by simpa using h
    rw [if_neg h]
    exact ⟨.lit _, .lit _, rfl⟩
  · have h : E = 0 := by simpa using h
    obtain ⟨h1, h2, h3⟩ := hok h
    rw [if_pos h]
    subst h
    obtain ⟨z, hz⟩ : ∃ z, l[i.toNat]? = some z := ⟨_, List.getElem?_eq_getElem (by omega)⟩
    have hzd : l.getD i.toNat [] = z := by rw [List.getD_eq_getElem?_getD, hz]; rfl
    have hat : AV.at (tbs l) (.lit (.int .i64 i)) 0 = tube z := by rw [lst_atI h2 hz]; rfl
    rw [hzd]
    have hf := free_fn2 l i z s (by omega)
    refine ⟨by simp, by simp; omega, .bool (freeB i z s 0 l), by rw [hat]; exact hf, .lit _, .lit _, rfl⟩
end Go.Proofs.YtacfofpbbempaaaGreatDoor
/- resolve: the fact; Free finds each clash. -/
namespace Go.Proofs.YtacfofpbbempaaaGreatDoor
open Go.RowKit
set_option linter.unusedVariables false
set_option linter.unusedSimpArgs false
set_option maxRecDepth 100000
theorem of0_fn : Fn Tryz.prog 10 [pt ⟨0, 0⟩] (.tup [.sc, .sc]) (.tup [.int 0, .int 10]) := by
  have e := ResF.of_form (pt ⟨0, 0⟩) (.tup [.int 0, .int 10])
  have k := fun h => fn_run mixed 3 (Γ := ResF.Γ) (ann := ResF.ann) Tryz.func10 rfl Tryz.call10 (e.mpr h)
  refine k ?_
  clear k e
  simp [encP]
def n00 : Nd := ⟨0, 0, 0, 0, 0, 0⟩
theorem course_fn : Fn Tryz.prog 22 [tube (stT 0), nd n00] (.tup [.sc, .sc, .sc]) (.tup [.int 0, .int 0, .bool false]) := by
  have e := ResF.course_form (tube (stT 0)) (nd n00) (.tup [.int 0, .int 0, .bool false])
  have k := fun h => fn_run mixed 3 (Γ := ResF.Γ) (ann := ResF.ann) Tryz.func22 rfl Tryz.call22 (e.mpr h)
  refine k ?_
  clear k e
  have hd := dist_fn ⟨0, 0⟩ ⟨0, 0⟩
  have e1 : disA ⟨0, 0⟩ ⟨0, 0⟩ = 0 := by kernel_rfl
  have e2 : disB ⟨0, 0⟩ ⟨0, 0⟩ = 0 := by kernel_rfl
  have hs := sub_fn ⟨0, 0⟩ ⟨0, 0⟩
  have e3 : subP ⟨0, 0⟩ ⟨0, 0⟩ = ⟨0, 0⟩ := by kernel_rfl
  rw [e1, e2] at hd
  rw [e3] at hs
  have w1 : wr (0 + 1) = 1 := by kernel_rfl
  have w2 : wr 10 = 10 := by kernel_rfl
  have w0 : wr 0 = 0 := by kernel_rfl
  refine ⟨by simp [encN], by simp, ?_⟩
  refine loop_list (σ := Unit) (stT 0) (fun i _ => [.int (i : Nat)]) (fun i rest _ => i = 0 ∨ i = 1) () rfl (.inl rfl) ?_ ?_
  · rintro i x rest _ K hx hrest hi hG hK
    rcases hG with rfl | rfl
    · have hK' := hK [.int 1] () (by simp) (.inr rfl)
      obtain rfl : x = ⟨0, 0, 0, 0, 0, 0⟩ := by simp [stT] at hx; exact hx.symm
      have hai := lst_atAgg (s := 6) (enc := encN) (k := .i64) (j := 0) (m := 6) hx
      simp only [Int.natCast_zero, Int.cast_ofNat_Int] at hai
      have hai' : AV.atAgg (tube (stT 0)) (.lit (.int .i64 0)) 0 6 = .agg [.int 0, .int 0, .int 0, .int 0, .int 0, .int 0] := rfl
      simp [stT, n00, encN, w1]
      simp [stT, encN] at hai'
      rw [hai']
      simp
      exact hK'
    · obtain rfl : x = ⟨10, 0, 0, 0, 0, 0⟩ := by simp [stT] at hx; exact hx.symm
      have hai' : AV.atAgg (tube (stT 0)) (.lit (.int .i64 1)) 0 6 = .agg [.int 10, .int 0, .int 0, .int 0, .int 0, .int 0] := rfl
      simp [stT, n00, encN, w1]
      simp [stT, encN] at hai'
      rw [hai']
      simp
      refine ⟨_, hs, _, of0_fn, _, hd, ?_⟩
      simp [w2, w0]
  · rintro _ K hG
    rcases hG with h | h <;> simp [stT] at h
def jetU : Kd := { jetK with up := 200 }
def cA1 : ByteArray := ⟨#[65, 49]⟩
def encA (n : Int) : List AV := [.string cA1, .int 0, .int n, .string ⟨#[]⟩]
def outA (n : Nat) : List Int := (List.range n).map fun i : Nat => 1000 * ((i : Int) + 1)
theorem flat_A (l : List Int) : (lst 4 encA l).flatS := lst_flatS fun x _ z hz => by
  simp [encA] at hz; rcases hz with rfl | rfl | rfl | rfl <;> exact .lit _
theorem cand_fn : Fn Tryz.prog 5 [.string cA1, tube (stT 0), .int 0, kd jetU] (.tup [.row 41 4 true, .sc]) (.tup [lst 4 encA [1000, 2000, 3000], .int 0]) := by
  have e := ResF.cand_form (.string cA1) (tube (stT 0)) (.int 0) (kd jetU) (.tup [lst 4 encA [1000, 2000, 3000], .int 0])
  have k := fun h => fn_run mixed 3 (Γ := ResF.Γ) (ann := ResF.ann) Tryz.func5 rfl Tryz.call5 (e.mpr h)
  refine k ?_
  clear k e
  have h1 := tcheck_fn (stT 0)
  rw [show tE (stT 0) = 0 by kernel_rfl] at h1
  have h2 := acheck_fn jetU
  rw [show kE jetU = 0 by kernel_rfl] at h2
  have h3 := tat_fn (stT 0) 0
  rw [show tatV (stT 0) 0 = .tup [nd n00, .int 0] by kernel_rfl] at h3
  have h4 := pcheck_fn ⟨cA1, 0, 0, ⟨#[]⟩⟩
  rw [show clE ⟨cA1, 0, 0, ⟨#[]⟩⟩ = 0 by kernel_rfl] at h4
  refine ⟨by simp, by simp [encKd], _, h1, by simp, by simp, fun h => absurd h (by simp), fun _ => ⟨_, h2, by simp, by simp, fun h => absurd h (by simp), fun _ => ⟨_, h3, by simp [encN], by simp, by simp, fun h => absurd h (by simp), fun _ => ⟨by simp, _, h4, by simp, by simp, fun h => absurd h (by simp), fun _ => ⟨_, course_fn, ?_⟩⟩⟩⟩⟩
  refine loop_nat (σ := Unit) 3 (fun n _ => [.int ((n : Int) + 1), lst 4 encA (outA n)]) (fun _ _ => True) () rfl trivial ?_ ?_
  · rintro n _ K hn _ hK
    have hK' := hK [.int ((n : Int) + 1 + 1), lst 4 encA (outA (n + 1))] () (by simp) trivial
    clear hK
    have hO : outA (n + 1) = outA n ++ [1000 * ((n : Int) + 1)] := by unfold outA; rw [List.range_succ]; simp
    have hol : (outA n).length ≤ 3 := by simp [outA]; omega
    have w1 : wr ((n : Int) + 1 + 1) = (n : Int) + 1 + 1 := wr_id (by omega) (by omega)
    have w2 : wr (1000 * ((n : Int) + 1)) = 1000 * ((n : Int) + 1) := wr_id (by omega) (by omega)
    have w3 : wr (0 + 1000 * ((n : Int) + 1)) = 1000 * ((n : Int) + 1) := by rw [wr_id (by omega) (by omega)]; omega
    have w4 : wr (0 - 1000 * ((n : Int) + 1)) = -(1000 * ((n : Int) + 1)) := by rw [wr_id (by omega) (by omega)]; omega
    have hn3 : (n : Int) + 1 ≤ 3 := by omega
    have hroom : AV.room (lst 4 encA (outA n)) (.sl 4 [[.string cA1, .int 0, .int (1000 * ((n : Int) + 1)), .string ⟨#[]⟩]]) 48 := by
      unfold AV.room
      simp only [lst_els, List.length_map, av_els, List.length_cons, List.length_nil]
      omega
    have happ : AV.app 4 (lst 4 encA (outA n)) (.sl 4 [[.string cA1, .int 0, .int (1000 * ((n : Int) + 1)), .string ⟨#[]⟩]]) = lst 4 encA (outA (n + 1)) := by rw [hO]; simp [lst, encA]
    simp only [List.getD_cons_zero, List.getD_cons_succ, av_mul, wr_eq, w2, av_prj, av_cel, n00, encN, av_add, av_subt, w3, w4, w1]
    refine ⟨by simp, by simp, fun _ => ⟨by simp, by simp, by simp, by simp, by simp, by simp, ?_⟩, fun h => absurd h (by simp; omega)⟩
    refine loop_nat (σ := Unit) 2 (fun j _ => [.int (j : Nat), if j = 0 then lst 4 encA (outA n) else lst 4 encA (outA (n + 1))]) (fun _ _ => True) () rfl trivial ?_ ?_
    · rintro j _ K2 hj _ hK2
      have hK2' := hK2 [.int ((j : Int) + 1), lst 4 encA (outA (n + 1))] () (by simp) trivial
      have wj : wr ((j : Int) + 1) = (j : Int) + 1 := wr_id (by omega) (by omega)
      have hjj : j = 0 ∨ j = 1 := by omega
      rcases hjj with rfl | rfl
      · have hnth : ∀ a b : AV, AV.nth [a, b] 0 [(.int ((0 : Nat) : Int), 1)] = a := fun a b => rfl
        have hcl : (encKd jetU).getD 2 default = .int 40000 := rfl
        have hKz : K2 [.int ((0 : Nat) + 1 : Int), lst 4 encA (outA (n + 1))] := hK2'
        simp only [List.getD_cons_zero, List.getD_cons_succ, hnth, if_true, av_mk, happ, hcl, av_add, wr_eq, wj]
        refine ⟨by simp, by simp, fun _ => ⟨by simp [AV.inl], by simp, by simp, fun _ => ⟨by simp, by simp, by simp; omega, by simp, fun _ => ⟨Tryz.call23, fun _ => ⟨by simp, by simp, hroom, by simp, hKz⟩⟩, fun h => absurd h (by simp; omega)⟩, fun h => absurd h (by simp; omega)⟩, fun h => absurd h (by simp)⟩
      · have hnth : ∀ a b : AV, AV.nth [a, b] 0 [(.int ((1 : Nat) : Int), 1)] = b := fun a b => rfl
        have hKz : K2 [.int ((1 : Nat) + 1 : Int), lst 4 encA (outA (n + 1))] := hK2'
        simp only [List.getD_cons_zero, List.getD_cons_succ, hnth, show ¬ (1 : Nat) = 0 by omega, if_false, av_add, wr_eq, wj]
        refine ⟨by simp, by simp, fun _ => ⟨by simp [AV.inl], by simp, by simp, fun h => absurd h (by simp; omega), fun _ => ⟨by simp, by simp; omega, by simp, hKz⟩⟩, fun h => absurd h (by simp)⟩
    · rintro _ K2 _
      simp only [List.getD_cons_zero, List.getD_cons_succ, show ¬ (2 : Nat) = 0 by omega, if_false]
      refine ⟨by simp, by simp, fun h => absurd h (by simp), fun _ => ⟨by simp, by simp, fun _ => ⟨by simp, hK'⟩, fun h => absurd h (by simp)⟩⟩
  · rintro _ K _
    simp only [List.getD_cons_zero, List.getD_cons_succ]
    refine ⟨by simp, by simp, fun h => absurd h (by simp), fun _ => ?_⟩
    exact ⟨flat_A _, .lit _, rfl⟩
theorem best_fn : Fn Tryz.prog 19 [tbs [stT 0, stT 100], .int 0, sp ⟨100, 1000⟩, .string cA1, .int 0, kd jetU] (.tup [.sc, .row 38 6 true, .sc]) (.tup [.agg [.string ⟨#[]⟩, .int 0, .int 0, .string ⟨#[]⟩], .sl 6 [], .int 11]) := by
  have e := ResF.best_form (tbs [stT 0, stT 100]) (.int 0) (sp ⟨100, 1000⟩) (.string cA1) (.int 0) (kd jetU) (.tup [.agg [.string ⟨#[]⟩, .int 0, .int 0, .string ⟨#[]⟩], .sl 6 [], .int 11])
  have k := fun h => fn_run mixed 3 (Γ := ResF.Γ) (ann := ResF.ann) Tryz.func19 rfl Tryz.call19 (e.mpr h)
  refine k ?_
  clear k e
  have h1 := rcheck_fn [stT 0, stT 100] 0 ⟨100, 1000⟩
  rw [show rcE [stT 0, stT 100] 0 ⟨100, 1000⟩ = 0 by kernel_rfl] at h1
  have h2 := free_fn2 [stT 0, stT 100] 0 (stT 0) ⟨100, 1000⟩ (by simp)
  rw [show freeB 0 (stT 0) ⟨100, 1000⟩ 0 [stT 0, stT 100] = true by kernel_rfl] at h2
  have hat : AV.at (tbs [stT 0, stT 100]) (.int 0) 0 = tube (stT 0) := rfl
  refine ⟨by simp [encSp], by simp [encKd], _, h1, by simp, by simp, fun h => absurd h (by simp), fun _ => ⟨by simp, by simp, _, by rw [hat]; exact cand_fn, by simp, by simp, fun h => absurd h (by simp), fun _ => ⟨by simp, by simp, _, by rw [hat]; exact h2, by simp, fun _ => ?_, fun h => absurd h (by simp)⟩⟩⟩
  simp
theorem rfact_fn : Fn Tryz.prog 4 [] .sc (.bool true) := by
  have e := ResF.rfact_form (.bool true)
  have k := fun h => fn_run mixed 3 (Γ := ResF.Γ) (ann := ResF.ann) Tryz.func4 rfl Tryz.call4 (e.mpr h)
  refine k ?_
  clear k e
  have h1 := rfree_fn [levT, levT] 0 ⟨100, 1000⟩
  rw [show rfB [levT, levT] 0 ⟨100, 1000⟩ = false by kernel_rfl, show rcE [levT, levT] 0 ⟨100, 1000⟩ = 0 by kernel_rfl] at h1
  have h2 := rfree_fn [stT 0, stT 100] 0 ⟨100, 1000⟩
  rw [show rfB [stT 0, stT 100] 0 ⟨100, 1000⟩ = true by kernel_rfl, show rcE [stT 0, stT 100] 0 ⟨100, 1000⟩ = 0 by kernel_rfl] at h2
  refine ⟨_, level_fn, _, level_fn, _, jet_fn, by simp [encKd], _, still_fn 0, _, cand_fn, _, near_fn, _, h1, _, still_fn 0, _, still_fn 100, _, near_fn, _, h2, _, still_fn 0, _, still_fn 100, _, near_fn, _, best_fn, ?_⟩
  have p1 : ∀ n : Int, AV.eqPlOk [(0, EK.str), (1, EK.int .i64), (2, EK.int .i64), (3, EK.str)] (encA n) (encA n) := fun n p hp => by
    simp at hp
    rcases hp with rfl | rfl | rfl | rfl <;> simp [encA]
  (repeat (refine And.intro (by first | (simp [lst, encA]; done) | kernel_rfl) ?_))
  refine ⟨_, climbed_fn 1000, p1 1000, ⟨_, rfl, rfl⟩, ⟨_, rfl, rfl⟩, by simp [lst], by simp [lst], (by show _ = _; kernel_rfl), (by show _ = _; kernel_rfl), by simp [lst], by simp [lst], _, climbed_fn 3000, p1 3000, ⟨_, rfl, rfl⟩, ⟨_, rfl, rfl⟩, (by show _ = _; kernel_rfl), (by show _ = _; kernel_rfl), .lit _, (by show _ = _; kernel_rfl)⟩
end Go.Proofs.YtacfofpbbempaaaGreatDoor
/- resolve: the course; the candidates. -/
namespace Go.Proofs.YtacfofpbbempaaaGreatDoor
open Go.RowKit
set_option linter.unusedVariables false
set_option linter.unusedSimpArgs false
set_option maxRecDepth 100000
theorem atN_time (l : List Nd) (t : Int) : (atN l t).t = t := by
  unfold atN
  split
  · rename_i g; exact g
  · rfl
/-- The course from a node to another. -/
noncomputable def cs1 (now x : Nd) : Int × Int × Bool := (angH (wr (x.x - now.x)) (wr (x.y - now.y)), disA now.p x.p / (x.t - now.t), decide (ofE (wr (x.x - now.x)) (wr (x.y - now.y)) = 0))
noncomputable def csV (now : Nd) : List Nd → Int × Int × Bool
  | [] => (0, 0, false)
  | x :: r => if now.t < x.t then cs1 now x else csV now r
theorem disA_bd (a b : Pt) : 0 ≤ disA a b ∧ disA a b ≤ 3037000499 := rootI_bd (sqrP a b)
theorem crs_fn (l : List Nd) (now : Nd) (hl : l.length ≤ 64) (h0 : 0 ≤ now.t) (ht : ∀ x ∈ l, 0 ≤ x.t ∧ x.t ≤ 200000) (h1 : now.t ≤ 200000) :
    Fn Tryz.prog 22 [tube l, nd now] (.tup [.sc, .sc, .sc]) (.tup [.int (csV now l).1, .int (csV now l).2.1, .bool (csV now l).2.2]) := by
  refine fn_run mixed 3 (Γ := RlF.Γ) (ann := RlF.ann) Tryz.func22 rfl Tryz.call22 ((RlF.course_form _ _ _).mpr ?_)
  refine ⟨by simp [encN], by simp, ?_⟩
  refine loop_list (σ := Unit) l (fun i _ => [.int (i : Nat)]) (fun i rest _ => csV now l = csV now rest) () rfl rfl ?_ ?_
  · rintro i x rest _ K hx hrest hi hG hK
    have hxt := ht x (List.mem_of_getElem? hx)
    have hat : AV.atAgg (tube l) (.int (i : Nat)) 0 6 = nd x := by rw [lst_atAgg hx]; rfl
    have w1 : wr (x.t - now.t) = x.t - now.t := wr_id (by omega) (by omega)
    have w2 : wr ((i : Int) + 1) = (i : Int) + 1 := wr_id (by omega) (by omega)
    have hcs : csV now (x :: rest) = if now.t < x.t then cs1 now x else csV now rest := rfl
    rw [hcs] at hG
    simp only [List.getD_cons_zero, hat]
    by_cases hlt : now.t < x.t
    · rw [if_pos hlt] at hG
      have ha := ang_fn (wr (x.x - now.x)) (wr (x.y - now.y))
      have hd := dist_fn now.p x.p
      have hdb := disA_bd now.p x.p
      have hq : (disA now.p x.p).tdiv (x.t - now.t) = disA now.p x.p / (x.t - now.t) := Int.tdiv_eq_ediv_of_nonneg hdb.1
      have hqb : 0 ≤ disA now.p x.p / (x.t - now.t) ∧ disA now.p x.p / (x.t - now.t) ≤ 3037000499 := ⟨Int.ediv_nonneg hdb.1 (by omega), Int.le_trans (Int.ediv_le_self _ hdb.1) hdb.2⟩
      have w3 : wr (disA now.p x.p / (x.t - now.t)) = disA now.p x.p / (x.t - now.t) := wr_id (by omega) (by omega)
      rw [hG]
      unfold cs1
      refine ⟨by simp, by simp, fun _ => ⟨by simp, by simp; omega, by simp [encN], by simp [encN], by simp [encN], fun _ => ⟨Tryz.call41, fun _ => ⟨by simp [encN], by simp [encN], by simp [encN], by simp [encN], _, ha, _, hd, by simp [encN], ?_, by simp, .lit _, .lit _, .lit _, ?_⟩⟩, fun h => ?_⟩, fun h => ?_⟩
      · simp [encN, w1]; omega
      · simp [encN, w1, hq, w3]
        rfl
      · exfalso; simp [encN] at h; omega
      · exfalso; simp at h; omega
    · rw [if_neg hlt] at hG
      refine ⟨by simp, by simp, fun _ => ⟨by simp, by simp; omega, by simp [encN], by simp [encN], by simp [encN], fun h => ?_, fun _ => ⟨by simp, ?_⟩⟩, fun h => ?_⟩
      · exfalso; simp [encN] at h; omega
      · exact hK _ () (by simp [w2]) hG
      · exfalso; simp at h; omega
  · rintro _ K hG
    have hG : csV now l = (0, 0, false) := hG
    rw [hG]
    exact ⟨by simp, by simp, fun h => absurd h (by simp), fun _ => ⟨by simp, by simp, by simp, by simp⟩⟩
/-! ### the candidates -/
abbrev clr (l : List Cl) : AV := lst 4 encL l
def ad (c : ByteArray) (l : List Cl) (b : Bool) (k v : Int) : List Cl := if b = true then l ++ [⟨c, k, v, ⟨#[]⟩⟩] else l
theorem ad_len (c : ByteArray) (l : List Cl) (b : Bool) (k v : Int) : (ad c l b k v).length ≤ l.length + 1 := by unfold ad; split <;> simp
theorem cl_app (l : List Cl) (c : ByteArray) (k v : Int) : AV.app 4 (clr l) (.sl 4 [[.string c, .int k, .int v, .lit (.string ⟨#[]⟩)]]) = clr (l ++ [⟨c, k, v, ⟨#[]⟩⟩]) := by simp [lst, encL]
theorem cl_room (l : List Cl) (x : List AV) (h : l.length ≤ 1000) : AV.room (clr l) (AV.mk 4 [x]) 48 := by
  unfold AV.room
  simp only [av_mk, lst_els, List.length_map, av_els, List.length_cons, List.length_nil]
  omega
theorem flat_clr (l : List Cl) : (clr l).flatS := lst_flatS fun x _ z hz => by
  simp [encL] at hz; rcases hz with rfl | rfl | rfl | rfl <;> exact .lit _
/-- What one round adds. -/
def rdL (c : ByteArray) (H : Int) (k : Kd) (cs : Int × Int × Bool) (r : Int) (l : List Cl) : List Cl :=
  ad c (ad c (ad c (ad c (ad c (ad c l (decide (H + 1000 * r ≤ k.cl)) 0 (H + 1000 * r)) (decide (1000 * r ≤ H) && decide (H - 1000 * r ≤ k.cl)) 0 (H - 1000 * r))
    (cs.2.2 && (decide (k.sl ≤ cs.2.1 + 15 * r) && decide (cs.2.1 + 15 * r ≤ k.fa))) 2 (cs.2.1 + 15 * r)) (cs.2.2 && (decide (k.sl ≤ cs.2.1 - 15 * r) && decide (cs.2.1 - 15 * r ≤ k.fa))) 2 (cs.2.1 - 15 * r))
    cs.2.2 1 ((cs.1 + 171 * r) % 4096)) cs.2.2 1 ((cs.1 - 171 * r) % 4096)
def outL (c : ByteArray) (H : Int) (k : Kd) (cs : Int × Int × Bool) : Nat → List Cl
  | 0 => []
  | n + 1 => rdL c H k cs ((n : Int) + 1) (outL c H k cs n)
theorem rdL_len (c : ByteArray) (H : Int) (k : Kd) (cs : Int × Int × Bool) (r : Int) (l : List Cl) : (rdL c H k cs r l).length ≤ l.length + 6 := by
  unfold rdL
  generalize decide (H + 1000 * r ≤ k.cl) = b1
  generalize (decide (1000 * r ≤ H) && decide (H - 1000 * r ≤ k.cl)) = b2
  generalize (cs.2.2 && (decide (k.sl ≤ cs.2.1 + 15 * r) && decide (cs.2.1 + 15 * r ≤ k.fa))) = b3
  generalize (cs.2.2 && (decide (k.sl ≤ cs.2.1 - 15 * r) && decide (cs.2.1 - 15 * r ≤ k.fa))) = b4
  have h1 := ad_len c l b1 0 (H + 1000 * r)
  generalize ad c l b1 0 (H + 1000 * r) = l1 at *
  have h2 := ad_len c l1 b2 0 (H - 1000 * r)
  generalize ad c l1 b2 0 (H - 1000 * r) = l2 at *
  have h3 := ad_len c l2 b3 2 (cs.2.1 + 15 * r)
  generalize ad c l2 b3 2 (cs.2.1 + 15 * r) = l3 at *
  have h4 := ad_len c l3 b4 2 (cs.2.1 - 15 * r)
  generalize ad c l3 b4 2 (cs.2.1 - 15 * r) = l4 at *
  have h5 := ad_len c l4 cs.2.2 1 ((cs.1 + 171 * r) % 4096)
  generalize ad c l4 cs.2.2 1 ((cs.1 + 171 * r) % 4096) = l5 at *
  have h6 := ad_len c l5 cs.2.2 1 ((cs.1 - 171 * r) % 4096)
  omega
theorem outL_len (c : ByteArray) (H : Int) (k : Kd) (cs : Int × Int × Bool) (n : Nat) : (outL c H k cs n).length ≤ 6 * n := by
  induction n with
  | zero => exact Nat.le_refl _
  | succ n ih =>
    have := rdL_len c H k cs ((n : Int) + 1) (outL c H k cs n)
    have e : outL c H k cs (n + 1) = rdL c H k cs ((n : Int) + 1) (outL c H k cs n) := rfl
    rw [e]; omega
end Go.Proofs.YtacfofpbbempaaaGreatDoor
