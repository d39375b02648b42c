/- runway.Insert: what the run ends in. -/
import Derived.Test.YtlhhdonpoglfkaaVal
namespace Go.Proofs.Ytlhhdonpoglfkaa
open Go.RowKit
set_option linter.unusedVariables false
set_option maxRecDepth 100000
namespace RunwayH
--GAMMA
def Γ : FuncId → Option Ca := fun f =>
  if f = 17 ∨ f = 19 ∨ f = 85 ∨ f = 86 ∨ f = 84 ∨ f = 83 ∨ f = 18 ∨ f = 16 ∨ f = 20 ∨ f = 23 ∨ f = 89 ∨ f = 22 ∨ f = 14 ∨ f = 25 ∨ f = 29 ∨ f = 32 ∨ f = 36 ∨ f = 80 ∨ f = 81 then some (.fn .sc)
  else if f = 82 ∨ f = 15 ∨ f = 21 ∨ f = 30 then some (.fn (.tup [.sc, .sc]))
  else if f = 24 ∨ f = 26 then some (.fn (.tup [.sc, .sc, .sc]))
  else if f = 28 then some (.fn (.row 35 4 true))
  else if f = 37 then some (.fn (.row 60 2 true))
  else if f = 27 then some (.fn (.tup [.row 35 4 true, .sc]))
  else if f = 33 then some (.fn (.tup [.row 60 2 true, .sc]))
  else if f = 31 then some (.upd true)
  else some .inl
def ann : FuncId → Nat → LoopEx := fun f r => if f = 27 ∧ r = 16 then ⟨[], [], [(3009, 0), (3009, 1), (3009, 2), (3009, 3)], []⟩ else ⟨[], [], [], []⟩
--END GAMMA
theorem insert_form (x0 x1 x2 x3 r : AV) : fnF Try.prog Γ ann 4 27 Try.f27 (Try.f27.body.getD .skip) ((.both .nil (.both .nil (.both (.both .nil (.both .nil (.both (.both (.both (.f .nil) .nil) .nil) (.t .nil)))) .nil)))) [x0, x1, x2, x3] (.tup [.row 35 4 true, .sc]) r = (((AV.isAgg x2 16) ∧
(∃ r385 : AV, ((Fn Try.prog 24 [x0, x1, (AV.agg [(AV.cel x2 0), (AV.cel x2 1), (AV.cel x2 2), (AV.cel x2 3), (AV.cel x2 4), (AV.cel x2 5), (AV.cel x2 6), (AV.cel x2 7), (AV.cel x2 8), (AV.cel x2 9), (AV.cel x2 10), (AV.cel x2 11), (AV.cel x2 12), (AV.cel x2 13), (AV.cel x2 14), (AV.cel x2 15)])] (Sh.tup [Sh.sc, Sh.sc, Sh.sc]) r385) ∧
((AV.binOk Go.BinOp.neq (AV.prj r385 2) (AV.int 0)) ∧
((AV.isBool (AV.bin Go.BinOp.neq (AV.prj r385 2) (AV.int 0))) ∧
(((isT (AV.bin Go.BinOp.neq (AV.prj r385 2) (AV.int 0))) →
  ((AV.flatS (AV.mk 4 [])) ∧
  ((AV.flat (AV.prj r385 2)) ∧
  (fSame (AV.tup [(AV.mk 4 []), (AV.prj r385 2)]) r)))) ∧
((isF (AV.bin Go.BinOp.neq (AV.prj r385 2) (AV.int 0))) →
  ((AV.isSl x0 4) ∧
  ((AV.isSl x3 2) ∧
  ((AV.binOk Go.BinOp.add (AV.len x0) (AV.len x3)) ∧
  ((AV.binOk Go.BinOp.gtr (AV.bin Go.BinOp.add (AV.len x0) (AV.len x3)) (AV.int 24)) ∧
  ((AV.isBool (AV.bin Go.BinOp.gtr (AV.bin Go.BinOp.add (AV.len x0) (AV.len x3)) (AV.int 24))) ∧
  (((isT (AV.bin Go.BinOp.gtr (AV.bin Go.BinOp.add (AV.len x0) (AV.len x3)) (AV.int 24))) →
    ((AV.flatS (AV.mk 4 [])) ∧
    ((AV.flat (AV.int 2)) ∧
    (fSame (AV.tup [(AV.mk 4 []), (AV.int 2)]) r)))) ∧
  ((isF (AV.bin Go.BinOp.gtr (AV.bin Go.BinOp.add (AV.len x0) (AV.len x3)) (AV.int 24))) →
    (∃ r1473 : AV, ((Fn Try.prog 28 [x0] (Sh.row 35 4 true) r1473) ∧
    ((AV.isSl x3 2) ∧
    (fLoop 1793 [(AV.int 0), r1473] fun ys1793 again1793 =>
      ((AV.binOk Go.BinOp.lss (ys1793.getD 0 default) (AV.len x3)) ∧
      ((AV.isBool (AV.bin Go.BinOp.lss (ys1793.getD 0 default) (AV.len x3))) ∧
      (((isT (AV.bin Go.BinOp.lss (ys1793.getD 0 default) (AV.len x3))) →
        ((AV.isSl x3 2) ∧
        ((AV.inb x3 (ys1793.getD 0 default)) ∧
        ((AV.isAgg (AV.atAgg x3 (ys1793.getD 0 default) 0 2) 2) ∧
        (∃ r2241 : AV, ((Fn Try.prog 81 [(AV.cel (AV.atAgg x3 (ys1793.getD 0 default) 0 2) 0)] Sh.sc r2241) ∧
        ((AV.isBool r2241) ∧
        (((isT r2241) →
          ((AV.flatS (AV.mk 4 [])) ∧
          ((AV.flat (AV.int 12)) ∧
          (fSame (AV.tup [(AV.mk 4 []), (AV.int 12)]) r)))) ∧
        ((isF r2241) →
          (∃ r2433 : AV, ((Fn Try.prog 83 [(AV.cel (AV.atAgg x3 (ys1793.getD 0 default) 0 2) 1)] Sh.sc r2433) ∧
          ((AV.binOk Go.BinOp.neq r2433 (AV.int 0)) ∧
          ((AV.isBool (AV.bin Go.BinOp.neq r2433 (AV.int 0))) ∧
          (((isT (AV.bin Go.BinOp.neq r2433 (AV.int 0))) →
            ((AV.flatS (AV.mk 4 [])) ∧
            ((AV.flat r2433) ∧
            (fSame (AV.tup [(AV.mk 4 []), r2433]) r)))) ∧
          ((isF (AV.bin Go.BinOp.neq r2433 (AV.int 0))) →
            ((AV.isOne (AV.cel (AV.atAgg x3 (ys1793.getD 0 default) 0 2) 0)) ∧
            ((AV.isOne (AV.cel (AV.atAgg x3 (ys1793.getD 0 default) 0 2) 1)) ∧
            (fLoop 3137 [(AV.cel (AV.atAgg x3 (ys1793.getD 0 default) 0 2) 0), (AV.cel (AV.atAgg x3 (ys1793.getD 0 default) 0 2) 1), (AV.bool true), (AV.int 0)] fun ys3137 again3137 =>
              ((AV.binOk Go.BinOp.leq (ys3137.getD 0 default) (AV.int 200000)) ∧
              ((AV.isBool (AV.bin Go.BinOp.leq (ys3137.getD 0 default) (AV.int 200000))) ∧
              (((isT (AV.bin Go.BinOp.leq (ys3137.getD 0 default) (AV.int 200000))) →
                (∃ r3521 : AV, ((Fn Try.prog 82 [x1, (ys3137.getD 0 default)] (Sh.tup [Sh.sc, Sh.sc]) r3521) ∧
                ((AV.isBool (AV.prj r3521 1)) ∧
                (((isT (AV.prj r3521 1)) →
                  (∃ r4225 : AV, ((Fn Try.prog 86 [(ys1793.getD 1 default), (AV.agg [(ys3137.getD 0 default), (ys3137.getD 1 default), (ys3137.getD 2 default), (ys3137.getD 3 default)]), (AV.agg [(AV.cel x2 0), (AV.cel x2 1), (AV.cel x2 2), (AV.cel x2 3), (AV.cel x2 4), (AV.cel x2 5), (AV.cel x2 6), (AV.cel x2 7), (AV.cel x2 8), (AV.cel x2 9), (AV.cel x2 10), (AV.cel x2 11), (AV.cel x2 12), (AV.cel x2 13), (AV.cel x2 14), (AV.cel x2 15)])] Sh.sc r4225) ∧
                  ((AV.isBool (AV.prj r3521 1)) ∧
                  ((isT (AV.prj r3521 1)) ∧
                  ((AV.isBool r4225) ∧
                  (((isT r4225) →
                    ((AV.isOne (AV.prj r3521 0)) ∧
                    ((AV.binOk Go.BinOp.gtr (ys3137.getD 0 default) (AV.int 200000)) ∧
                    ((AV.isBool (AV.bin Go.BinOp.gtr (ys3137.getD 0 default) (AV.int 200000))) ∧
                    ((isF (AV.bin Go.BinOp.gtr (ys3137.getD 0 default) (AV.int 200000))) ∧
                    ((fEnt Try.prog 87) ∧
                    (fAllV fun _ => (fLoop 5185 [(AV.int 0)] fun ys5185 again5185 =>
                      ((AV.binOk Go.BinOp.lss (ys5185.getD 0 default) (AV.len (ys1793.getD 1 default))) ∧
                      ((AV.isBool (AV.bin Go.BinOp.lss (ys5185.getD 0 default) (AV.len (ys1793.getD 1 default)))) ∧
                      (((isT (AV.bin Go.BinOp.lss (ys5185.getD 0 default) (AV.len (ys1793.getD 1 default)))) →
                        ((AV.inb (ys1793.getD 1 default) (ys5185.getD 0 default)) ∧
                        ((AV.inb (ys1793.getD 1 default) (ys5185.getD 0 default)) ∧
                        ((fEnt Try.prog 88) ∧
                        (fAllV fun _ => ((AV.isAgg (AV.atAgg (ys1793.getD 1 default) (ys5185.getD 0 default) 0 4) 4) ∧
                        ((AV.binOk Go.BinOp.gtr (AV.cel (AV.atAgg (ys1793.getD 1 default) (ys5185.getD 0 default) 0 4) 0) (ys3137.getD 0 default)) ∧
                        ((AV.isBool (AV.bin Go.BinOp.gtr (AV.cel (AV.atAgg (ys1793.getD 1 default) (ys5185.getD 0 default) 0 4) 0) (ys3137.getD 0 default))) ∧
                        (((isT (AV.bin Go.BinOp.gtr (AV.cel (AV.atAgg (ys1793.getD 1 default) (ys5185.getD 0 default) 0 4) 0) (ys3137.getD 0 default))) →
                          ((AV.binOk Go.BinOp.lss (ys5185.getD 0 default) (AV.int 0)) ∧
                          ((AV.isBool (AV.bin Go.BinOp.lss (ys5185.getD 0 default) (AV.int 0))) ∧
                          (((isT (AV.bin Go.BinOp.lss (ys5185.getD 0 default) (AV.int 0))) →
                            (∃ r7169 : AV, ((FnU Try.prog 31 35 4 (ys1793.getD 1 default) [(AV.len (ys1793.getD 1 default)), (AV.mk 4 [[(ys3137.getD 0 default), (ys3137.getD 1 default), (ys3137.getD 2 default), (AV.prj r3521 0)]])] true r7169) ∧
                            ((AV.binOk Go.BinOp.add (ys1793.getD 0 default) (AV.int 1)) ∧
                            (again1793 [(AV.bin Go.BinOp.add (ys1793.getD 0 default) (AV.int 1)), r7169]))))) ∧
                          ((isF (AV.bin Go.BinOp.lss (ys5185.getD 0 default) (AV.int 0))) →
                            (∃ r6977 : AV, ((FnU Try.prog 31 35 4 (ys1793.getD 1 default) [(ys5185.getD 0 default), (AV.mk 4 [[(ys3137.getD 0 default), (ys3137.getD 1 default), (ys3137.getD 2 default), (AV.prj r3521 0)]])] true r6977) ∧
                            ((AV.binOk Go.BinOp.add (ys1793.getD 0 default) (AV.int 1)) ∧
                            (again1793 [(AV.bin Go.BinOp.add (ys1793.getD 0 default) (AV.int 1)), r6977]))))))))) ∧
                        ((isF (AV.bin Go.BinOp.gtr (AV.cel (AV.atAgg (ys1793.getD 1 default) (ys5185.getD 0 default) 0 4) 0) (ys3137.getD 0 default))) →
                          ((AV.binOk Go.BinOp.add (ys5185.getD 0 default) (AV.int 1)) ∧
                          (again5185 [(AV.bin Go.BinOp.add (ys5185.getD 0 default) (AV.int 1))])))))))))))) ∧
                      ((isF (AV.bin Go.BinOp.lss (ys5185.getD 0 default) (AV.len (ys1793.getD 1 default)))) →
                        (∃ r6017 : AV, ((FnU Try.prog 31 35 4 (ys1793.getD 1 default) [(AV.len (ys1793.getD 1 default)), (AV.mk 4 [[(ys3137.getD 0 default), (ys3137.getD 1 default), (ys3137.getD 2 default), (AV.prj r3521 0)]])] true r6017) ∧
                        ((AV.binOk Go.BinOp.add (ys1793.getD 0 default) (AV.int 1)) ∧
                        (again1793 [(AV.bin Go.BinOp.add (ys1793.getD 0 default) (AV.int 1)), r6017])))))))))))))))) ∧
                  ((isF r4225) →
                    ((AV.binOk Go.BinOp.add (ys3137.getD 0 default) (AV.int 1)) ∧
                    ((AV.isOne (AV.bin Go.BinOp.add (ys3137.getD 0 default) (AV.int 1))) ∧
                    (again3137 [(AV.bin Go.BinOp.add (ys3137.getD 0 default) (AV.int 1)), (ys3137.getD 1 default), (ys3137.getD 2 default), (ys3137.getD 3 default)]))))))))))) ∧
                ((isF (AV.prj r3521 1)) →
                  ((AV.isBool (AV.prj r3521 1)) ∧
                  ((isF (AV.prj r3521 1)) ∧
                  ((AV.binOk Go.BinOp.add (ys3137.getD 0 default) (AV.int 1)) ∧
                  ((AV.isOne (AV.bin Go.BinOp.add (ys3137.getD 0 default) (AV.int 1))) ∧
                  (again3137 [(AV.bin Go.BinOp.add (ys3137.getD 0 default) (AV.int 1)), (ys3137.getD 1 default), (ys3137.getD 2 default), (ys3137.getD 3 default)]))))))))))) ∧
              ((isF (AV.bin Go.BinOp.leq (ys3137.getD 0 default) (AV.int 200000))) →
                ((AV.binOk Go.BinOp.gtr (ys3137.getD 0 default) (AV.int 200000)) ∧
                ((AV.isBool (AV.bin Go.BinOp.gtr (ys3137.getD 0 default) (AV.int 200000))) ∧
                ((isT (AV.bin Go.BinOp.gtr (ys3137.getD 0 default) (AV.int 200000))) ∧
                ((AV.flatS (AV.mk 4 [])) ∧
                ((AV.flat (AV.int 8)) ∧
                (fSame (AV.tup [(AV.mk 4 []), (AV.int 8)]) r)))))))))))))))))))))))))))) ∧
      ((isF (AV.bin Go.BinOp.lss (ys1793.getD 0 default) (AV.len x3))) →
        ((AV.flatS (ys1793.getD 1 default)) ∧
        ((AV.flat (AV.int 0)) ∧
        (fSame (AV.tup [(ys1793.getD 1 default), (AV.int 0)]) r)))))))))))))))))))))))))) := by kernel_rfl
end RunwayH
end Go.Proofs.Ytlhhdonpoglfkaa
