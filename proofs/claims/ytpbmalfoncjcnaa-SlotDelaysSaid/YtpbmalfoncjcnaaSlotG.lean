/- slot's laws: what the run ends in. -/
import Derived.Test.YtpbmalfoncjcnaaVal
namespace Go.Proofs.Ytpbmalfoncjcnaa
open Go.RowKit
set_option linter.unusedVariables false
set_option maxRecDepth 100000
namespace SlotG
--GAMMA
def Γ : FuncId → Option Ca := fun f =>
  if f = 50 ∨ f = 13 ∨ f = 10 ∨ f = 54 ∨ f = 40 ∨ f = 11 ∨ f = 51 ∨ f = 53 ∨ f = 52 ∨ f = 8 ∨ f = 14 ∨ f = 16 ∨ f = 20 ∨ f = 45 ∨ f = 44 then some (.fn .sc)
  else if f = 9 ∨ f = 25 ∨ f = 18 ∨ f = 15 then some (.fn (.tup [.row 34 3 true, .sc]))
  else if f = 17 ∨ f = 19 then some (.fn (.tup [.row 3 1 true, .sc]))
  else if f = 42 then some (.upd false)
  else some .inl
def ann : FuncId → Nat → LoopEx := fun f r => if f = 9 ∧ r = 14 then ⟨[], [1000011], [], []⟩ else if f = 55 then ⟨[], [1000000], [], []⟩ else if f = 15 ∧ r = 3 then ⟨[], [], [], [(8, 0, 0, 0)]⟩ else ⟨[], [], [], []⟩
--END GAMMA
theorem fact_form ( r : AV) : fnF Try.prog Γ ann 3 8 Try.f8 (Try.f8.body.getD .skip) ((.t (.t (.t (.t (.t (.t (.t (.t .nil))))))))) [] (.sc) r = (((fEnt Try.prog 39) ∧
(fAllV fun _ => (∃ r961 : AV, ((Fn Try.prog 9 [(AV.lit (Value.string ⟨#[82, 87, 89]⟩)), (AV.mk 2 [[(AV.lit (Value.string ⟨#[66, 50]⟩)), (AV.int 4)], [(AV.lit (Value.string ⟨#[65, 49]⟩)), (AV.int 3)]]), (AV.mk 3 [[(AV.int 0), (AV.int 10), (AV.int 1)], [(AV.int 10), (AV.int 20), (AV.int 1)]])] (Sh.tup [(Sh.row 34 3 true), Sh.sc]) r961) ∧
(∃ r1473 : AV, ((Fn Try.prog 17 [(AV.mk 2 [[(AV.lit (Value.string ⟨#[66, 50]⟩)), (AV.int 4)], [(AV.lit (Value.string ⟨#[65, 49]⟩)), (AV.int 3)]]), (AV.prj r961 0)] (Sh.tup [(Sh.row 3 1 true), Sh.sc]) r1473) ∧
((fEnt Try.prog 39) ∧
(fAllV fun _ => (∃ r2497 : AV, ((Fn Try.prog 25 [(AV.lit (Value.string ⟨#[82, 87, 89]⟩)), (AV.lit (Value.string ⟨#[65, 49]⟩)), (AV.mk 2 [[(AV.lit (Value.string ⟨#[66, 50]⟩)), (AV.int 4)], [(AV.lit (Value.string ⟨#[65, 49]⟩)), (AV.int 3)]]), (AV.mk 3 [[(AV.int 0), (AV.int 10), (AV.int 1)], [(AV.int 10), (AV.int 20), (AV.int 1)]])] (Sh.tup [(Sh.row 34 3 true), Sh.sc]) r2497) ∧
(∃ r3009 : AV, ((Fn Try.prog 18 [(AV.mk 2 [[(AV.lit (Value.string ⟨#[66, 50]⟩)), (AV.int 4)], [(AV.lit (Value.string ⟨#[65, 49]⟩)), (AV.int 3)]]), (AV.prj r961 0), (AV.lit (Value.string ⟨#[65, 49]⟩)), (AV.lit (Value.string ⟨#[66, 50]⟩))] (Sh.tup [(Sh.row 34 3 true), Sh.sc]) r3009) ∧
((AV.binOk Go.BinOp.eql (AV.prj r961 1) (AV.int 0)) ∧
((AV.isBool (AV.bin Go.BinOp.eql (AV.prj r961 1) (AV.int 0))) ∧
((isT (AV.bin Go.BinOp.eql (AV.prj r961 1) (AV.int 0))) ∧
((AV.binOk Go.BinOp.eql (AV.prj r1473 1) (AV.int 0)) ∧
((AV.isBool (AV.bin Go.BinOp.eql (AV.prj r961 1) (AV.int 0))) ∧
((isT (AV.bin Go.BinOp.eql (AV.prj r961 1) (AV.int 0))) ∧
((AV.isBool (AV.bin Go.BinOp.eql (AV.prj r1473 1) (AV.int 0))) ∧
((isT (AV.bin Go.BinOp.eql (AV.prj r1473 1) (AV.int 0))) ∧
((AV.binOk Go.BinOp.eql (AV.prj r2497 1) (AV.int 0)) ∧
((AV.isBool (AV.bin Go.BinOp.eql (AV.prj r1473 1) (AV.int 0))) ∧
((isT (AV.bin Go.BinOp.eql (AV.prj r1473 1) (AV.int 0))) ∧
((AV.isBool (AV.bin Go.BinOp.eql (AV.prj r2497 1) (AV.int 0))) ∧
((isT (AV.bin Go.BinOp.eql (AV.prj r2497 1) (AV.int 0))) ∧
((AV.binOk Go.BinOp.eql (AV.prj r3009 1) (AV.int 12)) ∧
((AV.isBool (AV.bin Go.BinOp.eql (AV.prj r2497 1) (AV.int 0))) ∧
((isT (AV.bin Go.BinOp.eql (AV.prj r2497 1) (AV.int 0))) ∧
((AV.isBool (AV.bin Go.BinOp.eql (AV.prj r3009 1) (AV.int 12))) ∧
((isT (AV.bin Go.BinOp.eql (AV.prj r3009 1) (AV.int 12))) ∧
(∃ r4609 : AV, ((Fn Try.prog 16 [(AV.prj r961 0), (AV.mk 3 [[(AV.lit (Value.string ⟨#[65, 49]⟩)), (AV.lit (Value.string ⟨#[82, 87, 89]⟩)), (AV.int 3)], [(AV.lit (Value.string ⟨#[66, 50]⟩)), (AV.lit (Value.string ⟨#[82, 87, 89]⟩)), (AV.int 10)]])] Sh.sc r4609) ∧
((AV.isBool (AV.bin Go.BinOp.eql (AV.prj r3009 1) (AV.int 12))) ∧
((isT (AV.bin Go.BinOp.eql (AV.prj r3009 1) (AV.int 12))) ∧
((AV.isBool r4609) ∧
((isT r4609) ∧
(∃ r4929 : AV, ((Fn Try.prog 20 [(AV.prj r1473 0), (AV.mk 1 [[(AV.int 6)], [(AV.int 0)]])] Sh.sc r4929) ∧
((AV.isBool r4609) ∧
((isT r4609) ∧
((AV.isBool r4929) ∧
((isT r4929) ∧
(∃ r5313 : AV, ((Fn Try.prog 16 [(AV.prj r2497 0), (AV.mk 3 [[(AV.lit (Value.string ⟨#[66, 50]⟩)), (AV.lit (Value.string ⟨#[82, 87, 89]⟩)), (AV.int 4)]])] Sh.sc r5313) ∧
((AV.isBool r4929) ∧
((isT r4929) ∧
((AV.isBool r5313) ∧
((isT r5313) ∧
((fEnt Try.prog 12) ∧
(fAllV fun _ => (∃ r5697 : AV, ((Fn Try.prog 50 [(AV.lit (Value.string ⟨#[65, 49]⟩))] Sh.sc r5697) ∧
((AV.isBool r5313) ∧
((isT r5313) ∧
((AV.isBool r5697) ∧
((isT r5697) ∧
((AV.room (AV.mk 2 [[(AV.lit (Value.string ⟨#[66, 50]⟩)), (AV.int 4)], [(AV.lit (Value.string ⟨#[65, 49]⟩)), (AV.int 3)]]) (AV.mk 2 [[(AV.lit (Value.string ⟨#[66, 50]⟩)), (AV.int 4)], [(AV.lit (Value.string ⟨#[65, 49]⟩)), (AV.int 3)]]) 24) ∧
(∃ r6209 : AV, ((Fn Try.prog 10 [(AV.app 2 (AV.mk 2 [[(AV.lit (Value.string ⟨#[66, 50]⟩)), (AV.int 4)], [(AV.lit (Value.string ⟨#[65, 49]⟩)), (AV.int 3)]]) (AV.mk 2 [[(AV.lit (Value.string ⟨#[66, 50]⟩)), (AV.int 4)], [(AV.lit (Value.string ⟨#[65, 49]⟩)), (AV.int 3)]]))] Sh.sc r6209) ∧
((AV.binOk Go.BinOp.eql r6209 (AV.int 7)) ∧
((AV.isBool r5697) ∧
((isT r5697) ∧
((AV.flat (AV.bin Go.BinOp.eql r6209 (AV.int 7))) ∧
(fSame (AV.bin Go.BinOp.eql r6209 (AV.int 7)) r))))))))))))))))))))))))))))))))))))))))))))))))))))))))))))))))) := by kernel_rfl
theorem assigns_form (x0 x1 x2 r : AV) : fnF Try.prog Γ ann 3 3 Try.f3 (Try.f3.body.getD .skip) ((.f (.f (.f (.both (.t .nil) (.t .nil)))))) [x0, x1, x2] (.sc) r = ((∃ r65 : AV, ((Fn Try.prog 8 [] Sh.sc r65) ∧
((AV.unOk Go.UnOp.not r65) ∧
((AV.isBool (AV.un Go.UnOp.not r65)) ∧
((isF (AV.un Go.UnOp.not r65)) ∧
(∃ r385 : AV, ((Fn Try.prog 9 [x0, x1, x2] (Sh.tup [(Sh.row 34 3 true), Sh.sc]) r385) ∧
(∃ r833 : AV, ((Fn Try.prog 10 [x1] Sh.sc r833) ∧
(∃ r961 : AV, ((Fn Try.prog 11 [x1] Sh.sc r961) ∧
((AV.binOk Go.BinOp.neq r833 r961) ∧
((AV.isBool (AV.bin Go.BinOp.neq r833 r961)) ∧
((isF (AV.bin Go.BinOp.neq r833 r961)) ∧
((fEnt Try.prog 12) ∧
(fAllV fun _ => (∃ r1409 : AV, ((Fn Try.prog 50 [x0] Sh.sc r1409) ∧
(∃ r1665 : AV, ((Fn Try.prog 13 [x0] Sh.sc r1665) ∧
((AV.isBool r1409) ∧
((AV.isBool r1665) ∧
((AV.isBool (AV.bin Go.BinOp.neq r833 r961)) ∧
((isF (AV.bin Go.BinOp.neq r833 r961)) ∧
((AV.isBool (AV.neB r1409 r1665)) ∧
((isF (AV.neB r1409 r1665)) ∧
(∃ r2049 : AV, ((Fn Try.prog 14 [x0, x1, x2] Sh.sc r2049) ∧
((AV.binOk Go.BinOp.eql r2049 (AV.int 0)) ∧
((AV.isBool (AV.bin Go.BinOp.eql r2049 (AV.int 0))) ∧
(((isT (AV.bin Go.BinOp.eql r2049 (AV.int 0))) →
  (∃ r2561 : AV, ((Fn Try.prog 15 [x0, x1, x2] (Sh.tup [(Sh.row 34 3 true), Sh.sc]) r2561) ∧
  ((AV.binOk Go.BinOp.eql (AV.prj r385 1) (AV.prj r2561 1)) ∧
  ((AV.isBool (AV.bin Go.BinOp.eql (AV.prj r385 1) (AV.prj r2561 1))) ∧
  ((isT (AV.bin Go.BinOp.eql (AV.prj r385 1) (AV.prj r2561 1))) ∧
  (∃ r3329 : AV, ((Fn Try.prog 16 [(AV.prj r385 0), (AV.prj r2561 0)] Sh.sc r3329) ∧
  ((AV.isBool (AV.bin Go.BinOp.eql (AV.prj r385 1) (AV.prj r2561 1))) ∧
  ((isT (AV.bin Go.BinOp.eql (AV.prj r385 1) (AV.prj r2561 1))) ∧
  ((AV.flat r3329) ∧
  (fSame r3329 r)))))))))))) ∧
((isF (AV.bin Go.BinOp.eql r2049 (AV.int 0))) →
  ((AV.binOk Go.BinOp.eql (AV.prj r385 1) r2049) ∧
  ((AV.isBool (AV.bin Go.BinOp.eql (AV.prj r385 1) r2049)) ∧
  ((isT (AV.bin Go.BinOp.eql (AV.prj r385 1) r2049)) ∧
  (∃ r2753 : AV, ((Fn Try.prog 16 [(AV.prj r385 0), (AV.mk 3 [])] Sh.sc r2753) ∧
  ((AV.isBool (AV.bin Go.BinOp.eql (AV.prj r385 1) r2049)) ∧
  ((isT (AV.bin Go.BinOp.eql (AV.prj r385 1) r2049)) ∧
  ((AV.flat r2753) ∧
  (fSame r2753 r)))))))))))))))))))))))))))))))))))))))))) := by kernel_rfl
theorem ldelays_form (x0 x1 x2 x3 r : AV) : fnF Try.prog Γ ann 3 4 Try.f4 (Try.f4.body.getD .skip) ((.f (.f (.f (.both (.t .nil) (.both (.both (.both (.both (.both (.t .nil) (.both (.t .nil) (.both (.both (.t .nil) (.t .nil)) (.both (.t .nil) (.t .nil))))) .nil) (.both (.t .nil) (.t .nil))) .nil) (.both (.both (.t .nil) .nil) (.t .nil)))))))) [x0, x1, x2, x3] (.sc) r = (((AV.isOne x2) ∧
((AV.isOne x3) ∧
(∃ r193 : AV, ((Fn Try.prog 8 [] Sh.sc r193) ∧
((AV.unOk Go.UnOp.not r193) ∧
((AV.isBool (AV.un Go.UnOp.not r193)) ∧
((isF (AV.un Go.UnOp.not r193)) ∧
(∃ r449 : AV, ((Fn Try.prog 17 [x0, x1] (Sh.tup [(Sh.row 3 1 true), Sh.sc]) r449) ∧
(∃ r1089 : AV, ((Fn Try.prog 18 [x0, x1, x2, x3] (Sh.tup [(Sh.row 34 3 true), Sh.sc]) r1089) ∧
(∃ r1601 : AV, ((Fn Try.prog 19 [x0, x1] (Sh.tup [(Sh.row 3 1 true), Sh.sc]) r1601) ∧
((AV.binOk Go.BinOp.neq (AV.prj r449 1) (AV.prj r1601 1)) ∧
((AV.isBool (AV.bin Go.BinOp.neq (AV.prj r449 1) (AV.prj r1601 1))) ∧
((isF (AV.bin Go.BinOp.neq (AV.prj r449 1) (AV.prj r1601 1))) ∧
(∃ r2369 : AV, ((Fn Try.prog 20 [(AV.prj r449 0), (AV.prj r1601 0)] Sh.sc r2369) ∧
((AV.unOk Go.UnOp.not r2369) ∧
((AV.isBool (AV.bin Go.BinOp.neq (AV.prj r449 1) (AV.prj r1601 1))) ∧
((isF (AV.bin Go.BinOp.neq (AV.prj r449 1) (AV.prj r1601 1))) ∧
((AV.isBool (AV.un Go.UnOp.not r2369)) ∧
((isF (AV.un Go.UnOp.not r2369)) ∧
((AV.binOk Go.BinOp.neq (AV.prj r1601 1) (AV.int 0)) ∧
((AV.isBool (AV.bin Go.BinOp.neq (AV.prj r1601 1) (AV.int 0))) ∧
(((isT (AV.bin Go.BinOp.neq (AV.prj r1601 1) (AV.int 0))) →
  ((AV.binOk Go.BinOp.eql (AV.prj r1089 1) (AV.prj r1601 1)) ∧
  ((AV.isBool (AV.bin Go.BinOp.eql (AV.prj r1089 1) (AV.prj r1601 1))) ∧
  ((isT (AV.bin Go.BinOp.eql (AV.prj r1089 1) (AV.prj r1601 1))) ∧
  ((AV.binOk Go.BinOp.eql (AV.len (AV.prj r1089 0)) (AV.int 0)) ∧
  ((AV.isBool (AV.bin Go.BinOp.eql (AV.prj r1089 1) (AV.prj r1601 1))) ∧
  ((isT (AV.bin Go.BinOp.eql (AV.prj r1089 1) (AV.prj r1601 1))) ∧
  ((AV.flat (AV.bin Go.BinOp.eql (AV.len (AV.prj r1089 0)) (AV.int 0))) ∧
  (fSame (AV.bin Go.BinOp.eql (AV.len (AV.prj r1089 0)) (AV.int 0)) r))))))))) ∧
((isF (AV.bin Go.BinOp.neq (AV.prj r1601 1) (AV.int 0))) →
  ((fEnt Try.prog 21) ∧
  (fAllV fun _ => ((AV.isSl x1 3) ∧
  (fLoop 3137 [(AV.int 0)] fun ys3137 again3137 =>
    ((AV.binOk Go.BinOp.lss (ys3137.getD 0 default) (AV.len x1)) ∧
    ((AV.isBool (AV.bin Go.BinOp.lss (ys3137.getD 0 default) (AV.len x1))) ∧
    (((isT (AV.bin Go.BinOp.lss (ys3137.getD 0 default) (AV.len x1))) →
      ((AV.isSl x1 3) ∧
      ((AV.inb x1 (ys3137.getD 0 default)) ∧
      ((fEnt Try.prog 22) ∧
      (fAllV fun _ => ((AV.isAgg (AV.atAgg x1 (ys3137.getD 0 default) 0 3) 3) ∧
      ((AV.binOk Go.BinOp.eql (AV.cel (AV.atAgg x1 (ys3137.getD 0 default) 0 3) 0) x2) ∧
      ((AV.isBool (AV.bin Go.BinOp.eql (AV.cel (AV.atAgg x1 (ys3137.getD 0 default) 0 3) 0) x2)) ∧
      (((isT (AV.bin Go.BinOp.eql (AV.cel (AV.atAgg x1 (ys3137.getD 0 default) 0 3) 0) x2)) →
        ((fEnt Try.prog 21) ∧
        (fAllV fun _ => ((AV.isSl x1 3) ∧
        (fLoop 4929 [(AV.int 0)] fun ys4929 again4929 =>
          ((AV.binOk Go.BinOp.lss (ys4929.getD 0 default) (AV.len x1)) ∧
          ((AV.isBool (AV.bin Go.BinOp.lss (ys4929.getD 0 default) (AV.len x1))) ∧
          (((isT (AV.bin Go.BinOp.lss (ys4929.getD 0 default) (AV.len x1))) →
            ((AV.isSl x1 3) ∧
            ((AV.inb x1 (ys4929.getD 0 default)) ∧
            ((fEnt Try.prog 23) ∧
            (fAllV fun _ => ((AV.isAgg (AV.atAgg x1 (ys4929.getD 0 default) 0 3) 3) ∧
            ((AV.binOk Go.BinOp.eql (AV.cel (AV.atAgg x1 (ys4929.getD 0 default) 0 3) 0) x3) ∧
            ((AV.isBool (AV.bin Go.BinOp.eql (AV.cel (AV.atAgg x1 (ys4929.getD 0 default) 0 3) 0) x3)) ∧
            (((isT (AV.bin Go.BinOp.eql (AV.cel (AV.atAgg x1 (ys4929.getD 0 default) 0 3) 0) x3)) →
              ((AV.binOk Go.BinOp.lss (ys3137.getD 0 default) (AV.int 0)) ∧
              ((AV.isBool (AV.bin Go.BinOp.lss (ys3137.getD 0 default) (AV.int 0))) ∧
              (((isT (AV.bin Go.BinOp.lss (ys3137.getD 0 default) (AV.int 0))) →
                ((AV.isBool (AV.bin Go.BinOp.lss (ys3137.getD 0 default) (AV.int 0))) ∧
                ((isT (AV.bin Go.BinOp.lss (ys3137.getD 0 default) (AV.int 0))) ∧
                ((AV.binOk Go.BinOp.eql (AV.prj r1089 1) (AV.int 8)) ∧
                ((AV.isBool (AV.bin Go.BinOp.eql (AV.prj r1089 1) (AV.int 8))) ∧
                ((isT (AV.bin Go.BinOp.eql (AV.prj r1089 1) (AV.int 8))) ∧
                ((AV.binOk Go.BinOp.eql (AV.len (AV.prj r1089 0)) (AV.int 0)) ∧
                ((AV.isBool (AV.bin Go.BinOp.eql (AV.prj r1089 1) (AV.int 8))) ∧
                ((isT (AV.bin Go.BinOp.eql (AV.prj r1089 1) (AV.int 8))) ∧
                ((AV.flat (AV.bin Go.BinOp.eql (AV.len (AV.prj r1089 0)) (AV.int 0))) ∧
                (fSame (AV.bin Go.BinOp.eql (AV.len (AV.prj r1089 0)) (AV.int 0)) r))))))))))) ∧
              ((isF (AV.bin Go.BinOp.lss (ys3137.getD 0 default) (AV.int 0))) →
                ((AV.binOk Go.BinOp.lss (ys4929.getD 0 default) (AV.int 0)) ∧
                ((AV.isBool (AV.bin Go.BinOp.lss (ys3137.getD 0 default) (AV.int 0))) ∧
                ((isF (AV.bin Go.BinOp.lss (ys3137.getD 0 default) (AV.int 0))) ∧
                ((AV.isBool (AV.bin Go.BinOp.lss (ys4929.getD 0 default) (AV.int 0))) ∧
                (((isT (AV.bin Go.BinOp.lss (ys4929.getD 0 default) (AV.int 0))) →
                  ((AV.binOk Go.BinOp.eql (AV.prj r1089 1) (AV.int 8)) ∧
                  ((AV.isBool (AV.bin Go.BinOp.eql (AV.prj r1089 1) (AV.int 8))) ∧
                  ((isT (AV.bin Go.BinOp.eql (AV.prj r1089 1) (AV.int 8))) ∧
                  ((AV.binOk Go.BinOp.eql (AV.len (AV.prj r1089 0)) (AV.int 0)) ∧
                  ((AV.isBool (AV.bin Go.BinOp.eql (AV.prj r1089 1) (AV.int 8))) ∧
                  ((isT (AV.bin Go.BinOp.eql (AV.prj r1089 1) (AV.int 8))) ∧
                  ((AV.flat (AV.bin Go.BinOp.eql (AV.len (AV.prj r1089 0)) (AV.int 0))) ∧
                  (fSame (AV.bin Go.BinOp.eql (AV.len (AV.prj r1089 0)) (AV.int 0)) r))))))))) ∧
                ((isF (AV.bin Go.BinOp.lss (ys4929.getD 0 default) (AV.int 0))) →
                  ((fEnt Try.prog 24) ∧
                  (fAllV fun _ => (fNil x1
                    ((AV.isSl x1 3) ∧
                    ((AV.inb x1 (ys4929.getD 0 default)) ∧
                    ((AV.inb (AV.mk 3 []) (ys3137.getD 0 default)) ∧
                    ((AV.isOne (AV.at x1 (ys4929.getD 0 default) 2)) ∧
                    ((AV.inb (AV.mk 3 []) (ys3137.getD 0 default)) ∧
                    ((AV.isSl x1 3) ∧
                    ((AV.inb x1 (ys3137.getD 0 default)) ∧
                    ((AV.inb (AV.setEl (AV.mk 3 []) (ys3137.getD 0 default) 2 [(AV.at x1 (ys4929.getD 0 default) 2)]) (ys4929.getD 0 default)) ∧
                    ((AV.isOne (AV.at x1 (ys3137.getD 0 default) 2)) ∧
                    ((AV.inb (AV.setEl (AV.mk 3 []) (ys3137.getD 0 default) 2 [(AV.at x1 (ys4929.getD 0 default) 2)]) (ys4929.getD 0 default)) ∧
                    (∃ r8577 : AV, ((Fn Try.prog 19 [x0, (AV.setEl (AV.setEl (AV.mk 3 []) (ys3137.getD 0 default) 2 [(AV.at x1 (ys4929.getD 0 default) 2)]) (ys4929.getD 0 default) 2 [(AV.at x1 (ys3137.getD 0 default) 2)])] (Sh.tup [(Sh.row 3 1 true), Sh.sc]) r8577) ∧
                    ((AV.binOk Go.BinOp.neq (AV.prj r8577 1) (AV.int 0)) ∧
                    ((AV.isBool (AV.bin Go.BinOp.neq (AV.prj r8577 1) (AV.int 0))) ∧
                    (((isT (AV.bin Go.BinOp.neq (AV.prj r8577 1) (AV.int 0))) →
                      ((AV.binOk Go.BinOp.eql (AV.prj r1089 1) (AV.int 12)) ∧
                      ((AV.isBool (AV.bin Go.BinOp.eql (AV.prj r1089 1) (AV.int 12))) ∧
                      ((isT (AV.bin Go.BinOp.eql (AV.prj r1089 1) (AV.int 12))) ∧
                      ((AV.binOk Go.BinOp.eql (AV.len (AV.prj r1089 0)) (AV.int 0)) ∧
                      ((AV.isBool (AV.bin Go.BinOp.eql (AV.prj r1089 1) (AV.int 12))) ∧
                      ((isT (AV.bin Go.BinOp.eql (AV.prj r1089 1) (AV.int 12))) ∧
                      ((AV.flat (AV.bin Go.BinOp.eql (AV.len (AV.prj r1089 0)) (AV.int 0))) ∧
                      (fSame (AV.bin Go.BinOp.eql (AV.len (AV.prj r1089 0)) (AV.int 0)) r))))))))) ∧
                    ((isF (AV.bin Go.BinOp.neq (AV.prj r8577 1) (AV.int 0))) →
                      ((AV.binOk Go.BinOp.eql (AV.prj r1089 1) (AV.int 0)) ∧
                      ((AV.isBool (AV.bin Go.BinOp.eql (AV.prj r1089 1) (AV.int 0))) ∧
                      ((isT (AV.bin Go.BinOp.eql (AV.prj r1089 1) (AV.int 0))) ∧
                      (∃ r9409 : AV, ((Fn Try.prog 16 [(AV.prj r1089 0), (AV.setEl (AV.setEl (AV.mk 3 []) (ys3137.getD 0 default) 2 [(AV.at x1 (ys4929.getD 0 default) 2)]) (ys4929.getD 0 default) 2 [(AV.at x1 (ys3137.getD 0 default) 2)])] Sh.sc r9409) ∧
                      ((AV.isBool (AV.bin Go.BinOp.eql (AV.prj r1089 1) (AV.int 0))) ∧
                      ((isT (AV.bin Go.BinOp.eql (AV.prj r1089 1) (AV.int 0))) ∧
                      ((AV.flat r9409) ∧
                      (fSame r9409 r)))))))))))))))))))))))))
                    ((AV.isSl x1 3) ∧
                    ((AV.room (AV.mk 3 []) x1 40) ∧
                    ((AV.isSl x1 3) ∧
                    ((AV.inb x1 (ys4929.getD 0 default)) ∧
                    ((AV.inb (AV.app 3 (AV.mk 3 []) x1) (ys3137.getD 0 default)) ∧
                    ((AV.isOne (AV.at x1 (ys4929.getD 0 default) 2)) ∧
                    ((AV.inb (AV.app 3 (AV.mk 3 []) x1) (ys3137.getD 0 default)) ∧
                    ((AV.isSl x1 3) ∧
                    ((AV.inb x1 (ys3137.getD 0 default)) ∧
                    ((AV.inb (AV.setEl (AV.app 3 (AV.mk 3 []) x1) (ys3137.getD 0 default) 2 [(AV.at x1 (ys4929.getD 0 default) 2)]) (ys4929.getD 0 default)) ∧
                    ((AV.isOne (AV.at x1 (ys3137.getD 0 default) 2)) ∧
                    ((AV.inb (AV.setEl (AV.app 3 (AV.mk 3 []) x1) (ys3137.getD 0 default) 2 [(AV.at x1 (ys4929.getD 0 default) 2)]) (ys4929.getD 0 default)) ∧
                    (∃ r8769 : AV, ((Fn Try.prog 19 [x0, (AV.setEl (AV.setEl (AV.app 3 (AV.mk 3 []) x1) (ys3137.getD 0 default) 2 [(AV.at x1 (ys4929.getD 0 default) 2)]) (ys4929.getD 0 default) 2 [(AV.at x1 (ys3137.getD 0 default) 2)])] (Sh.tup [(Sh.row 3 1 true), Sh.sc]) r8769) ∧
                    ((AV.binOk Go.BinOp.neq (AV.prj r8769 1) (AV.int 0)) ∧
                    ((AV.isBool (AV.bin Go.BinOp.neq (AV.prj r8769 1) (AV.int 0))) ∧
                    (((isT (AV.bin Go.BinOp.neq (AV.prj r8769 1) (AV.int 0))) →
                      ((AV.binOk Go.BinOp.eql (AV.prj r1089 1) (AV.int 12)) ∧
                      ((AV.isBool (AV.bin Go.BinOp.eql (AV.prj r1089 1) (AV.int 12))) ∧
                      ((isT (AV.bin Go.BinOp.eql (AV.prj r1089 1) (AV.int 12))) ∧
                      ((AV.binOk Go.BinOp.eql (AV.len (AV.prj r1089 0)) (AV.int 0)) ∧
                      ((AV.isBool (AV.bin Go.BinOp.eql (AV.prj r1089 1) (AV.int 12))) ∧
                      ((isT (AV.bin Go.BinOp.eql (AV.prj r1089 1) (AV.int 12))) ∧
                      ((AV.flat (AV.bin Go.BinOp.eql (AV.len (AV.prj r1089 0)) (AV.int 0))) ∧
                      (fSame (AV.bin Go.BinOp.eql (AV.len (AV.prj r1089 0)) (AV.int 0)) r))))))))) ∧
                    ((isF (AV.bin Go.BinOp.neq (AV.prj r8769 1) (AV.int 0))) →
                      ((AV.binOk Go.BinOp.eql (AV.prj r1089 1) (AV.int 0)) ∧
                      ((AV.isBool (AV.bin Go.BinOp.eql (AV.prj r1089 1) (AV.int 0))) ∧
                      ((isT (AV.bin Go.BinOp.eql (AV.prj r1089 1) (AV.int 0))) ∧
                      (∃ r9601 : AV, ((Fn Try.prog 16 [(AV.prj r1089 0), (AV.setEl (AV.setEl (AV.app 3 (AV.mk 3 []) x1) (ys3137.getD 0 default) 2 [(AV.at x1 (ys4929.getD 0 default) 2)]) (ys4929.getD 0 default) 2 [(AV.at x1 (ys3137.getD 0 default) 2)])] Sh.sc r9601) ∧
                      ((AV.isBool (AV.bin Go.BinOp.eql (AV.prj r1089 1) (AV.int 0))) ∧
                      ((isT (AV.bin Go.BinOp.eql (AV.prj r1089 1) (AV.int 0))) ∧
                      ((AV.flat r9601) ∧
                      (fSame r9601 r))))))))))))))))))))))))))))))))))))))))) ∧
            ((isF (AV.bin Go.BinOp.eql (AV.cel (AV.atAgg x1 (ys4929.getD 0 default) 0 3) 0) x3)) →
              ((AV.binOk Go.BinOp.add (ys4929.getD 0 default) (AV.int 1)) ∧
              (again4929 [(AV.bin Go.BinOp.add (ys4929.getD 0 default) (AV.int 1))])))))))))))) ∧
          ((isF (AV.bin Go.BinOp.lss (ys4929.getD 0 default) (AV.len x1))) →
            ((AV.binOk Go.BinOp.lss (ys3137.getD 0 default) (AV.int 0)) ∧
            ((AV.isBool (AV.bin Go.BinOp.lss (ys3137.getD 0 default) (AV.int 0))) ∧
            (((isT (AV.bin Go.BinOp.lss (ys3137.getD 0 default) (AV.int 0))) →
              ((AV.isBool (AV.bin Go.BinOp.lss (ys3137.getD 0 default) (AV.int 0))) ∧
              ((isT (AV.bin Go.BinOp.lss (ys3137.getD 0 default) (AV.int 0))) ∧
              ((AV.binOk Go.BinOp.eql (AV.prj r1089 1) (AV.int 8)) ∧
              ((AV.isBool (AV.bin Go.BinOp.eql (AV.prj r1089 1) (AV.int 8))) ∧
              ((isT (AV.bin Go.BinOp.eql (AV.prj r1089 1) (AV.int 8))) ∧
              ((AV.binOk Go.BinOp.eql (AV.len (AV.prj r1089 0)) (AV.int 0)) ∧
              ((AV.isBool (AV.bin Go.BinOp.eql (AV.prj r1089 1) (AV.int 8))) ∧
              ((isT (AV.bin Go.BinOp.eql (AV.prj r1089 1) (AV.int 8))) ∧
              ((AV.flat (AV.bin Go.BinOp.eql (AV.len (AV.prj r1089 0)) (AV.int 0))) ∧
              (fSame (AV.bin Go.BinOp.eql (AV.len (AV.prj r1089 0)) (AV.int 0)) r))))))))))) ∧
            ((isF (AV.bin Go.BinOp.lss (ys3137.getD 0 default) (AV.int 0))) →
              ((AV.isBool (AV.bin Go.BinOp.lss (ys3137.getD 0 default) (AV.int 0))) ∧
              ((isF (AV.bin Go.BinOp.lss (ys3137.getD 0 default) (AV.int 0))) ∧
              ((AV.binOk Go.BinOp.eql (AV.prj r1089 1) (AV.int 8)) ∧
              ((AV.isBool (AV.bin Go.BinOp.eql (AV.prj r1089 1) (AV.int 8))) ∧
              ((isT (AV.bin Go.BinOp.eql (AV.prj r1089 1) (AV.int 8))) ∧
              ((AV.binOk Go.BinOp.eql (AV.len (AV.prj r1089 0)) (AV.int 0)) ∧
              ((AV.isBool (AV.bin Go.BinOp.eql (AV.prj r1089 1) (AV.int 8))) ∧
              ((isT (AV.bin Go.BinOp.eql (AV.prj r1089 1) (AV.int 8))) ∧
              ((AV.flat (AV.bin Go.BinOp.eql (AV.len (AV.prj r1089 0)) (AV.int 0))) ∧
              (fSame (AV.bin Go.BinOp.eql (AV.len (AV.prj r1089 0)) (AV.int 0)) r))))))))))))))))))))))) ∧
      ((isF (AV.bin Go.BinOp.eql (AV.cel (AV.atAgg x1 (ys3137.getD 0 default) 0 3) 0) x2)) →
        ((AV.binOk Go.BinOp.add (ys3137.getD 0 default) (AV.int 1)) ∧
        (again3137 [(AV.bin Go.BinOp.add (ys3137.getD 0 default) (AV.int 1))])))))))))))) ∧
    ((isF (AV.bin Go.BinOp.lss (ys3137.getD 0 default) (AV.len x1))) →
      ((fEnt Try.prog 21) ∧
      (fAllV fun _ => ((AV.isSl x1 3) ∧
      (fLoop 3841 [(AV.int 0)] fun ys3841 again3841 =>
        ((AV.binOk Go.BinOp.lss (ys3841.getD 0 default) (AV.len x1)) ∧
        ((AV.isBool (AV.bin Go.BinOp.lss (ys3841.getD 0 default) (AV.len x1))) ∧
        (((isT (AV.bin Go.BinOp.lss (ys3841.getD 0 default) (AV.len x1))) →
          ((AV.isSl x1 3) ∧
          ((AV.inb x1 (ys3841.getD 0 default)) ∧
          ((fEnt Try.prog 23) ∧
          (fAllV fun _ => ((AV.isAgg (AV.atAgg x1 (ys3841.getD 0 default) 0 3) 3) ∧
          ((AV.binOk Go.BinOp.eql (AV.cel (AV.atAgg x1 (ys3841.getD 0 default) 0 3) 0) x3) ∧
          ((AV.isBool (AV.bin Go.BinOp.eql (AV.cel (AV.atAgg x1 (ys3841.getD 0 default) 0 3) 0) x3)) ∧
          (((isT (AV.bin Go.BinOp.eql (AV.cel (AV.atAgg x1 (ys3841.getD 0 default) 0 3) 0) x3)) →
            ((AV.binOk Go.BinOp.eql (AV.prj r1089 1) (AV.int 8)) ∧
            ((AV.isBool (AV.bin Go.BinOp.eql (AV.prj r1089 1) (AV.int 8))) ∧
            ((isT (AV.bin Go.BinOp.eql (AV.prj r1089 1) (AV.int 8))) ∧
            ((AV.binOk Go.BinOp.eql (AV.len (AV.prj r1089 0)) (AV.int 0)) ∧
            ((AV.isBool (AV.bin Go.BinOp.eql (AV.prj r1089 1) (AV.int 8))) ∧
            ((isT (AV.bin Go.BinOp.eql (AV.prj r1089 1) (AV.int 8))) ∧
            ((AV.flat (AV.bin Go.BinOp.eql (AV.len (AV.prj r1089 0)) (AV.int 0))) ∧
            (fSame (AV.bin Go.BinOp.eql (AV.len (AV.prj r1089 0)) (AV.int 0)) r))))))))) ∧
          ((isF (AV.bin Go.BinOp.eql (AV.cel (AV.atAgg x1 (ys3841.getD 0 default) 0 3) 0) x3)) →
            ((AV.binOk Go.BinOp.add (ys3841.getD 0 default) (AV.int 1)) ∧
            (again3841 [(AV.bin Go.BinOp.add (ys3841.getD 0 default) (AV.int 1))])))))))))))) ∧
        ((isF (AV.bin Go.BinOp.lss (ys3841.getD 0 default) (AV.len x1))) →
          ((AV.binOk Go.BinOp.eql (AV.prj r1089 1) (AV.int 8)) ∧
          ((AV.isBool (AV.bin Go.BinOp.eql (AV.prj r1089 1) (AV.int 8))) ∧
          ((isT (AV.bin Go.BinOp.eql (AV.prj r1089 1) (AV.int 8))) ∧
          ((AV.binOk Go.BinOp.eql (AV.len (AV.prj r1089 0)) (AV.int 0)) ∧
          ((AV.isBool (AV.bin Go.BinOp.eql (AV.prj r1089 1) (AV.int 8))) ∧
          ((isT (AV.bin Go.BinOp.eql (AV.prj r1089 1) (AV.int 8))) ∧
          ((AV.flat (AV.bin Go.BinOp.eql (AV.len (AV.prj r1089 0)) (AV.int 0))) ∧
          (fSame (AV.bin Go.BinOp.eql (AV.len (AV.prj r1089 0)) (AV.int 0)) r)))))))))))))))))))))))))))))))))))))))))))))))))))) := by kernel_rfl
theorem releases_form (x0 x1 x2 x3 r : AV) : fnF Try.prog Γ ann 3 5 Try.f5 (Try.f5.body.getD .skip) ((.f (.both (.both .nil (.both (.both (.t .nil) (.f (.t .nil))) (.t (.t .nil)))) (.both .nil (.f (.t (.t .nil))))))) [x0, x1, x2, x3] (.sc) r = ((∃ r65 : AV, ((Fn Try.prog 8 [] Sh.sc r65) ∧
((AV.unOk Go.UnOp.not r65) ∧
((AV.isBool (AV.un Go.UnOp.not r65)) ∧
((isF (AV.un Go.UnOp.not r65)) ∧
(∃ r449 : AV, ((Fn Try.prog 25 [x0, x1, x2, x3] (Sh.tup [(Sh.row 34 3 true), Sh.sc]) r449) ∧
(∃ r1025 : AV, ((Fn Try.prog 14 [x0, x2, x3] Sh.sc r1025) ∧
((AV.binOk Go.BinOp.eql r1025 (AV.int 0)) ∧
((AV.isBool (AV.bin Go.BinOp.eql r1025 (AV.int 0))) ∧
(((isT (AV.bin Go.BinOp.eql r1025 (AV.int 0))) →
  (∃ r1473 : AV, ((Fn Try.prog 15 [x0, x2, x3] (Sh.tup [(Sh.row 34 3 true), Sh.sc]) r1473) ∧
  ((AV.isSl x2 2) ∧
  (fLoop 2049 [(AV.int 0), (AV.mk 2 [])] fun ys2049 again2049 =>
    ((AV.binOk Go.BinOp.lss (ys2049.getD 0 default) (AV.len x2)) ∧
    ((AV.isBool (AV.bin Go.BinOp.lss (ys2049.getD 0 default) (AV.len x2))) ∧
    (((isT (AV.bin Go.BinOp.lss (ys2049.getD 0 default) (AV.len x2))) →
      ((AV.isSl x2 2) ∧
      ((AV.inb x2 (ys2049.getD 0 default)) ∧
      ((AV.isAgg (AV.atAgg x2 (ys2049.getD 0 default) 0 2) 2) ∧
      ((AV.binOk Go.BinOp.neq (AV.cel (AV.atAgg x2 (ys2049.getD 0 default) 0 2) 0) x1) ∧
      ((AV.isBool (AV.bin Go.BinOp.neq (AV.cel (AV.atAgg x2 (ys2049.getD 0 default) 0 2) 0) x1)) ∧
      (((isT (AV.bin Go.BinOp.neq (AV.cel (AV.atAgg x2 (ys2049.getD 0 default) 0 2) 0) x1)) →
        ((AV.room (ys2049.getD 1 default) (AV.mk 2 [[(AV.cel (AV.atAgg x2 (ys2049.getD 0 default) 0 2) 0), (AV.cel (AV.atAgg x2 (ys2049.getD 0 default) 0 2) 1)]]) 24) ∧
        ((AV.binOk Go.BinOp.add (ys2049.getD 0 default) (AV.int 1)) ∧
        (again2049 [(AV.bin Go.BinOp.add (ys2049.getD 0 default) (AV.int 1)), (AV.app 2 (ys2049.getD 1 default) (AV.mk 2 [[(AV.cel (AV.atAgg x2 (ys2049.getD 0 default) 0 2) 0), (AV.cel (AV.atAgg x2 (ys2049.getD 0 default) 0 2) 1)]]))])))) ∧
      ((isF (AV.bin Go.BinOp.neq (AV.cel (AV.atAgg x2 (ys2049.getD 0 default) 0 2) 0) x1)) →
        ((AV.binOk Go.BinOp.add (ys2049.getD 0 default) (AV.int 1)) ∧
        (again2049 [(AV.bin Go.BinOp.add (ys2049.getD 0 default) (AV.int 1)), (ys2049.getD 1 default)])))))))))) ∧
    ((isF (AV.bin Go.BinOp.lss (ys2049.getD 0 default) (AV.len x2))) →
      ((AV.binOk Go.BinOp.eql (AV.prj r1473 1) (AV.int 0)) ∧
      ((AV.isBool (AV.bin Go.BinOp.eql (AV.prj r1473 1) (AV.int 0))) ∧
      (((isT (AV.bin Go.BinOp.eql (AV.prj r1473 1) (AV.int 0))) →
        ((AV.isSl x2 2) ∧
        ((AV.binOk Go.BinOp.eql (AV.len (ys2049.getD 1 default)) (AV.len x2)) ∧
        ((AV.isBool (AV.bin Go.BinOp.eql (AV.prj r1473 1) (AV.int 0))) ∧
        ((isT (AV.bin Go.BinOp.eql (AV.prj r1473 1) (AV.int 0))) ∧
        ((AV.isBool (AV.bin Go.BinOp.eql (AV.len (ys2049.getD 1 default)) (AV.len x2))) ∧
        (((isT (AV.bin Go.BinOp.eql (AV.len (ys2049.getD 1 default)) (AV.len x2))) →
          ((AV.binOk Go.BinOp.eql (AV.prj r449 1) (AV.int 8)) ∧
          ((AV.isBool (AV.bin Go.BinOp.eql (AV.prj r449 1) (AV.int 8))) ∧
          ((isT (AV.bin Go.BinOp.eql (AV.prj r449 1) (AV.int 8))) ∧
          ((AV.binOk Go.BinOp.eql (AV.len (AV.prj r449 0)) (AV.int 0)) ∧
          ((AV.isBool (AV.bin Go.BinOp.eql (AV.prj r449 1) (AV.int 8))) ∧
          ((isT (AV.bin Go.BinOp.eql (AV.prj r449 1) (AV.int 8))) ∧
          ((AV.flat (AV.bin Go.BinOp.eql (AV.len (AV.prj r449 0)) (AV.int 0))) ∧
          (fSame (AV.bin Go.BinOp.eql (AV.len (AV.prj r449 0)) (AV.int 0)) r))))))))) ∧
        ((isF (AV.bin Go.BinOp.eql (AV.len (ys2049.getD 1 default)) (AV.len x2))) →
          ((AV.binOk Go.BinOp.neq (AV.prj r1473 1) (AV.int 0)) ∧
          ((AV.isBool (AV.bin Go.BinOp.neq (AV.prj r1473 1) (AV.int 0))) ∧
          ((isF (AV.bin Go.BinOp.neq (AV.prj r1473 1) (AV.int 0))) ∧
          (∃ r3009 : AV, ((Fn Try.prog 15 [x0, (ys2049.getD 1 default), x3] (Sh.tup [(Sh.row 34 3 true), Sh.sc]) r3009) ∧
          ((AV.binOk Go.BinOp.eql (AV.prj r449 1) (AV.prj r3009 1)) ∧
          ((AV.isBool (AV.bin Go.BinOp.eql (AV.prj r449 1) (AV.prj r3009 1))) ∧
          ((isT (AV.bin Go.BinOp.eql (AV.prj r449 1) (AV.prj r3009 1))) ∧
          (∃ r3777 : AV, ((Fn Try.prog 16 [(AV.prj r449 0), (AV.prj r3009 0)] Sh.sc r3777) ∧
          ((AV.isBool (AV.bin Go.BinOp.eql (AV.prj r449 1) (AV.prj r3009 1))) ∧
          ((isT (AV.bin Go.BinOp.eql (AV.prj r449 1) (AV.prj r3009 1))) ∧
          ((AV.flat r3777) ∧
          (fSame r3777 r)))))))))))))))))))))) ∧
      ((isF (AV.bin Go.BinOp.eql (AV.prj r1473 1) (AV.int 0))) →
        ((AV.isBool (AV.bin Go.BinOp.eql (AV.prj r1473 1) (AV.int 0))) ∧
        ((isF (AV.bin Go.BinOp.eql (AV.prj r1473 1) (AV.int 0))) ∧
        ((AV.binOk Go.BinOp.neq (AV.prj r1473 1) (AV.int 0)) ∧
        ((AV.isBool (AV.bin Go.BinOp.neq (AV.prj r1473 1) (AV.int 0))) ∧
        ((isT (AV.bin Go.BinOp.neq (AV.prj r1473 1) (AV.int 0))) ∧
        ((AV.binOk Go.BinOp.eql (AV.prj r449 1) (AV.prj r1473 1)) ∧
        ((AV.isBool (AV.bin Go.BinOp.eql (AV.prj r449 1) (AV.prj r1473 1))) ∧
        ((isT (AV.bin Go.BinOp.eql (AV.prj r449 1) (AV.prj r1473 1))) ∧
        ((AV.binOk Go.BinOp.eql (AV.len (AV.prj r449 0)) (AV.int 0)) ∧
        ((AV.isBool (AV.bin Go.BinOp.eql (AV.prj r449 1) (AV.prj r1473 1))) ∧
        ((isT (AV.bin Go.BinOp.eql (AV.prj r449 1) (AV.prj r1473 1))) ∧
        ((AV.flat (AV.bin Go.BinOp.eql (AV.len (AV.prj r449 0)) (AV.int 0))) ∧
        (fSame (AV.bin Go.BinOp.eql (AV.len (AV.prj r449 0)) (AV.int 0)) r)))))))))))))))))))))))))) ∧
((isF (AV.bin Go.BinOp.eql r1025 (AV.int 0))) →
  ((AV.isSl x2 2) ∧
  (fLoop 1537 [(AV.int 0), (AV.mk 2 [])] fun ys1537 again1537 =>
    ((AV.binOk Go.BinOp.lss (ys1537.getD 0 default) (AV.len x2)) ∧
    ((AV.isBool (AV.bin Go.BinOp.lss (ys1537.getD 0 default) (AV.len x2))) ∧
    (((isT (AV.bin Go.BinOp.lss (ys1537.getD 0 default) (AV.len x2))) →
      ((AV.isSl x2 2) ∧
      ((AV.inb x2 (ys1537.getD 0 default)) ∧
      ((AV.isAgg (AV.atAgg x2 (ys1537.getD 0 default) 0 2) 2) ∧
      ((AV.binOk Go.BinOp.neq (AV.cel (AV.atAgg x2 (ys1537.getD 0 default) 0 2) 0) x1) ∧
      ((AV.isBool (AV.bin Go.BinOp.neq (AV.cel (AV.atAgg x2 (ys1537.getD 0 default) 0 2) 0) x1)) ∧
      (((isT (AV.bin Go.BinOp.neq (AV.cel (AV.atAgg x2 (ys1537.getD 0 default) 0 2) 0) x1)) →
        ((AV.room (ys1537.getD 1 default) (AV.mk 2 [[(AV.cel (AV.atAgg x2 (ys1537.getD 0 default) 0 2) 0), (AV.cel (AV.atAgg x2 (ys1537.getD 0 default) 0 2) 1)]]) 24) ∧
        ((AV.binOk Go.BinOp.add (ys1537.getD 0 default) (AV.int 1)) ∧
        (again1537 [(AV.bin Go.BinOp.add (ys1537.getD 0 default) (AV.int 1)), (AV.app 2 (ys1537.getD 1 default) (AV.mk 2 [[(AV.cel (AV.atAgg x2 (ys1537.getD 0 default) 0 2) 0), (AV.cel (AV.atAgg x2 (ys1537.getD 0 default) 0 2) 1)]]))])))) ∧
      ((isF (AV.bin Go.BinOp.neq (AV.cel (AV.atAgg x2 (ys1537.getD 0 default) 0 2) 0) x1)) →
        ((AV.binOk Go.BinOp.add (ys1537.getD 0 default) (AV.int 1)) ∧
        (again1537 [(AV.bin Go.BinOp.add (ys1537.getD 0 default) (AV.int 1)), (ys1537.getD 1 default)])))))))))) ∧
    ((isF (AV.bin Go.BinOp.lss (ys1537.getD 0 default) (AV.len x2))) →
      ((AV.binOk Go.BinOp.eql r1025 (AV.int 0)) ∧
      ((AV.isBool (AV.bin Go.BinOp.eql r1025 (AV.int 0))) ∧
      ((isF (AV.bin Go.BinOp.eql r1025 (AV.int 0))) ∧
      ((AV.isBool (AV.bin Go.BinOp.eql r1025 (AV.int 0))) ∧
      ((isF (AV.bin Go.BinOp.eql r1025 (AV.int 0))) ∧
      ((AV.binOk Go.BinOp.neq r1025 (AV.int 0)) ∧
      ((AV.isBool (AV.bin Go.BinOp.neq r1025 (AV.int 0))) ∧
      ((isT (AV.bin Go.BinOp.neq r1025 (AV.int 0))) ∧
      ((AV.binOk Go.BinOp.eql (AV.prj r449 1) r1025) ∧
      ((AV.isBool (AV.bin Go.BinOp.eql (AV.prj r449 1) r1025)) ∧
      ((isT (AV.bin Go.BinOp.eql (AV.prj r449 1) r1025)) ∧
      ((AV.binOk Go.BinOp.eql (AV.len (AV.prj r449 0)) (AV.int 0)) ∧
      ((AV.isBool (AV.bin Go.BinOp.eql (AV.prj r449 1) r1025)) ∧
      ((isT (AV.bin Go.BinOp.eql (AV.prj r449 1) r1025)) ∧
      ((AV.flat (AV.bin Go.BinOp.eql (AV.len (AV.prj r449 0)) (AV.int 0))) ∧
      (fSame (AV.bin Go.BinOp.eql (AV.len (AV.prj r449 0)) (AV.int 0)) r)))))))))))))))))))))))))))))))))))) := by kernel_rfl
end SlotG
end Go.Proofs.Ytpbmalfoncjcnaa
