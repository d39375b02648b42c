/- runway's laws: what the run ends in. -/
import Derived.Test.YtlhhdonpoglfkaaVal
namespace Go.Proofs.Ytlhhdonpoglfkaa
open Go.RowKit
set_option linter.unusedVariables false
set_option maxRecDepth 100000
namespace RunwayG
--GAMMA
def Γ : FuncId → Option Ca := fun f =>
  if f = 17 ∨ f = 19 ∨ f = 85 ∨ f = 86 ∨ f = 84 ∨ f = 83 ∨ f = 18 ∨ f = 16 ∨ f = 20 ∨ f = 23 ∨ f = 89 ∨ f = 22 ∨ f = 14 ∨ f = 25 ∨ f = 29 ∨ f = 32 ∨ f = 36 ∨ f = 80 ∨ f = 81 then some (.fn .sc)
  else if f = 82 ∨ f = 15 ∨ f = 21 ∨ f = 30 then some (.fn (.tup [.sc, .sc]))
  else if f = 24 ∨ f = 26 then some (.fn (.tup [.sc, .sc, .sc]))
  else if f = 28 then some (.fn (.row 35 4 true))
  else if f = 37 then some (.fn (.row 60 2 true))
  else if f = 27 then some (.fn (.tup [.row 35 4 true, .sc]))
  else if f = 33 then some (.fn (.tup [.row 60 2 true, .sc]))
  else if f = 31 then some (.upd true)
  else some .inl
def ann : FuncId → Nat → LoopEx := fun f r => if f = 27 ∧ r = 16 then ⟨[], [], [(3009, 0), (3009, 1), (3009, 2), (3009, 3)], []⟩ else ⟨[], [], [], []⟩
--END GAMMA
theorem fact_form ( r : AV) : fnF Try.prog Γ ann 3 14 Try.f14 (Try.f14.body.getD .skip) ((.f (.t (.t (.t (.t (.t (.t (.t (.t (.t (.t (.t (.t (.t .nil))))))))))))))) [] (.sc) r = ((∃ r321 : AV, ((Fn Try.prog 80 [] Sh.sc r321) ∧
((AV.isAgg r321 16) ∧
(∃ r961 : AV, ((Fn Try.prog 27 [(AV.mk 4 [[(AV.int 100), (AV.int 1), (AV.bool false), (AV.int 0)]]), (AV.mk 2 [[(AV.int 0), (AV.int 0)]]), (AV.agg [(AV.cel r321 0), (AV.cel r321 1), (AV.cel r321 2), (AV.cel r321 3), (AV.cel r321 4), (AV.cel r321 5), (AV.cel r321 6), (AV.cel r321 7), (AV.cel r321 8), (AV.cel r321 9), (AV.cel r321 10), (AV.cel r321 11), (AV.cel r321 12), (AV.cel r321 13), (AV.cel r321 14), (AV.cel r321 15)]), (AV.mk 2 [[(AV.int 100), (AV.int 1)]])] (Sh.tup [(Sh.row 35 4 true), Sh.sc]) r961) ∧
(∃ r1537 : AV, ((Fn Try.prog 24 [(AV.prj r961 0), (AV.mk 2 [[(AV.int 0), (AV.int 0)]]), (AV.agg [(AV.cel r321 0), (AV.cel r321 1), (AV.cel r321 2), (AV.cel r321 3), (AV.cel r321 4), (AV.cel r321 5), (AV.cel r321 6), (AV.cel r321 7), (AV.cel r321 8), (AV.cel r321 9), (AV.cel r321 10), (AV.cel r321 11), (AV.cel r321 12), (AV.cel r321 13), (AV.cel r321 14), (AV.cel r321 15)])] (Sh.tup [Sh.sc, Sh.sc, Sh.sc]) r1537) ∧
(∃ r2177 : AV, ((Fn Try.prog 33 [(AV.prj r961 0), (AV.mk 2 [[(AV.int 0), (AV.int 0)]]), (AV.int 1000)] (Sh.tup [(Sh.row 60 2 true), Sh.sc]) r2177) ∧
(∃ r2625 : AV, ((Fn Try.prog 15 [(AV.prj r2177 0), (AV.int 821)] (Sh.tup [Sh.sc, Sh.sc]) r2625) ∧
(∃ r3073 : AV, ((Fn Try.prog 15 [(AV.prj r2177 0), (AV.int 1180)] (Sh.tup [Sh.sc, Sh.sc]) r3073) ∧
((AV.binOk Go.BinOp.neq (AV.len (AV.prj r961 0)) (AV.int 2)) ∧
((AV.isBool (AV.bin Go.BinOp.neq (AV.len (AV.prj r961 0)) (AV.int 2))) ∧
((isF (AV.bin Go.BinOp.neq (AV.len (AV.prj r961 0)) (AV.int 2))) ∧
((AV.inb (AV.prj r961 0) (AV.int 0)) ∧
((AV.inb (AV.prj r961 0) (AV.int 0)) ∧
((AV.inb (AV.prj r961 0) (AV.int 1)) ∧
((AV.inb (AV.prj r961 0) (AV.int 1)) ∧
(∃ r4097 : AV, ((Fn Try.prog 21 [(AV.agg [(AV.cel r321 0), (AV.cel r321 1), (AV.cel r321 2), (AV.cel r321 3), (AV.cel r321 4), (AV.cel r321 5), (AV.cel r321 6), (AV.cel r321 7), (AV.cel r321 8), (AV.cel r321 9), (AV.cel r321 10), (AV.cel r321 11), (AV.cel r321 12), (AV.cel r321 13), (AV.cel r321 14), (AV.cel r321 15)]), (AV.atAgg (AV.prj r961 0) (AV.int 0) 0 4), (AV.atAgg (AV.prj r961 0) (AV.int 1) 0 4)] (Sh.tup [Sh.sc, Sh.sc]) r4097) ∧
((AV.inb (AV.mk 4 [[(AV.int 100), (AV.int 1), (AV.bool false), (AV.int 0)]]) (AV.int 0)) ∧
((AV.inb (AV.mk 4 [[(AV.int 100), (AV.int 1), (AV.bool false), (AV.int 0)]]) (AV.int 0)) ∧
((AV.inb (AV.mk 4 [[(AV.int 100), (AV.int 1), (AV.bool false), (AV.int 0)]]) (AV.int 0)) ∧
((AV.inb (AV.mk 4 [[(AV.int 100), (AV.int 1), (AV.bool false), (AV.int 0)]]) (AV.int 0)) ∧
((AV.isAgg (AV.atAgg (AV.mk 4 [[(AV.int 100), (AV.int 1), (AV.bool false), (AV.int 0)]]) (AV.int 0) 0 4) 4) ∧
((AV.isAgg (AV.atAgg (AV.mk 4 [[(AV.int 100), (AV.int 1), (AV.bool false), (AV.int 0)]]) (AV.int 0) 0 4) 4) ∧
(∃ r5057 : AV, ((Fn Try.prog 24 [(AV.mk 4 [[(AV.cel (AV.atAgg (AV.mk 4 [[(AV.int 100), (AV.int 1), (AV.bool false), (AV.int 0)]]) (AV.int 0) 0 4) 0), (AV.cel (AV.atAgg (AV.mk 4 [[(AV.int 100), (AV.int 1), (AV.bool false), (AV.int 0)]]) (AV.int 0) 0 4) 1), (AV.cel (AV.atAgg (AV.mk 4 [[(AV.int 100), (AV.int 1), (AV.bool false), (AV.int 0)]]) (AV.int 0) 0 4) 2), (AV.cel (AV.atAgg (AV.mk 4 [[(AV.int 100), (AV.int 1), (AV.bool false), (AV.int 0)]]) (AV.int 0) 0 4) 3)], [(AV.cel (AV.atAgg (AV.mk 4 [[(AV.int 100), (AV.int 1), (AV.bool false), (AV.int 0)]]) (AV.int 0) 0 4) 0), (AV.cel (AV.atAgg (AV.mk 4 [[(AV.int 100), (AV.int 1), (AV.bool false), (AV.int 0)]]) (AV.int 0) 0 4) 1), (AV.cel (AV.atAgg (AV.mk 4 [[(AV.int 100), (AV.int 1), (AV.bool false), (AV.int 0)]]) (AV.int 0) 0 4) 2), (AV.cel (AV.atAgg (AV.mk 4 [[(AV.int 100), (AV.int 1), (AV.bool false), (AV.int 0)]]) (AV.int 0) 0 4) 3)]]), (AV.mk 2 [[(AV.int 0), (AV.int 0)]]), (AV.agg [(AV.cel r321 0), (AV.cel r321 1), (AV.cel r321 2), (AV.cel r321 3), (AV.cel r321 4), (AV.cel r321 5), (AV.cel r321 6), (AV.cel r321 7), (AV.cel r321 8), (AV.cel r321 9), (AV.cel r321 10), (AV.cel r321 11), (AV.cel r321 12), (AV.cel r321 13), (AV.cel r321 14), (AV.cel r321 15)])] (Sh.tup [Sh.sc, Sh.sc, Sh.sc]) r5057) ∧
((AV.binOk Go.BinOp.eql (AV.prj r961 1) (AV.int 0)) ∧
((AV.isBool (AV.bin Go.BinOp.eql (AV.prj r961 1) (AV.int 0))) ∧
((isT (AV.bin Go.BinOp.eql (AV.prj r961 1) (AV.int 0))) ∧
((AV.binOk Go.BinOp.eql (AV.prj r1537 2) (AV.int 0)) ∧
((AV.isBool (AV.bin Go.BinOp.eql (AV.prj r961 1) (AV.int 0))) ∧
((isT (AV.bin Go.BinOp.eql (AV.prj r961 1) (AV.int 0))) ∧
((AV.isBool (AV.bin Go.BinOp.eql (AV.prj r1537 2) (AV.int 0))) ∧
((isT (AV.bin Go.BinOp.eql (AV.prj r1537 2) (AV.int 0))) ∧
((AV.binOk Go.BinOp.eql (AV.prj r2177 1) (AV.int 0)) ∧
((AV.isBool (AV.bin Go.BinOp.eql (AV.prj r1537 2) (AV.int 0))) ∧
((isT (AV.bin Go.BinOp.eql (AV.prj r1537 2) (AV.int 0))) ∧
((AV.isBool (AV.bin Go.BinOp.eql (AV.prj r2177 1) (AV.int 0))) ∧
((isT (AV.bin Go.BinOp.eql (AV.prj r2177 1) (AV.int 0))) ∧
((AV.binOk Go.BinOp.eql (AV.prj r2625 1) (AV.int 14)) ∧
((AV.isBool (AV.bin Go.BinOp.eql (AV.prj r2177 1) (AV.int 0))) ∧
((isT (AV.bin Go.BinOp.eql (AV.prj r2177 1) (AV.int 0))) ∧
((AV.isBool (AV.bin Go.BinOp.eql (AV.prj r2625 1) (AV.int 14))) ∧
((isT (AV.bin Go.BinOp.eql (AV.prj r2625 1) (AV.int 14))) ∧
((AV.binOk Go.BinOp.eql (AV.prj r3073 1) (AV.int 0)) ∧
((AV.isBool (AV.bin Go.BinOp.eql (AV.prj r2625 1) (AV.int 14))) ∧
((isT (AV.bin Go.BinOp.eql (AV.prj r2625 1) (AV.int 14))) ∧
((AV.isBool (AV.bin Go.BinOp.eql (AV.prj r3073 1) (AV.int 0))) ∧
((isT (AV.bin Go.BinOp.eql (AV.prj r3073 1) (AV.int 0))) ∧
((AV.binOk Go.BinOp.eql (AV.prj r4097 1) (AV.int 0)) ∧
((AV.isBool (AV.bin Go.BinOp.eql (AV.prj r3073 1) (AV.int 0))) ∧
((isT (AV.bin Go.BinOp.eql (AV.prj r3073 1) (AV.int 0))) ∧
((AV.isBool (AV.bin Go.BinOp.eql (AV.prj r4097 1) (AV.int 0))) ∧
((isT (AV.bin Go.BinOp.eql (AV.prj r4097 1) (AV.int 0))) ∧
((AV.binOk Go.BinOp.eql (AV.prj r5057 2) (AV.int 15)) ∧
((AV.isBool (AV.bin Go.BinOp.eql (AV.prj r4097 1) (AV.int 0))) ∧
((isT (AV.bin Go.BinOp.eql (AV.prj r4097 1) (AV.int 0))) ∧
((AV.isBool (AV.bin Go.BinOp.eql (AV.prj r5057 2) (AV.int 15))) ∧
((isT (AV.bin Go.BinOp.eql (AV.prj r5057 2) (AV.int 15))) ∧
((AV.binOk Go.BinOp.eql (AV.prj r5057 0) (AV.int 0)) ∧
((AV.isBool (AV.bin Go.BinOp.eql (AV.prj r5057 2) (AV.int 15))) ∧
((isT (AV.bin Go.BinOp.eql (AV.prj r5057 2) (AV.int 15))) ∧
((AV.isBool (AV.bin Go.BinOp.eql (AV.prj r5057 0) (AV.int 0))) ∧
((isT (AV.bin Go.BinOp.eql (AV.prj r5057 0) (AV.int 0))) ∧
((AV.binOk Go.BinOp.eql (AV.prj r5057 1) (AV.int 1)) ∧
((AV.isBool (AV.bin Go.BinOp.eql (AV.prj r5057 0) (AV.int 0))) ∧
((isT (AV.bin Go.BinOp.eql (AV.prj r5057 0) (AV.int 0))) ∧
((AV.isBool (AV.bin Go.BinOp.eql (AV.prj r5057 1) (AV.int 1))) ∧
((isT (AV.bin Go.BinOp.eql (AV.prj r5057 1) (AV.int 1))) ∧
((AV.binOk Go.BinOp.eql (AV.prj r3073 0) (AV.int 1)) ∧
((AV.isBool (AV.bin Go.BinOp.eql (AV.prj r5057 1) (AV.int 1))) ∧
((isT (AV.bin Go.BinOp.eql (AV.prj r5057 1) (AV.int 1))) ∧
((AV.isBool (AV.bin Go.BinOp.eql (AV.prj r3073 0) (AV.int 1))) ∧
((isT (AV.bin Go.BinOp.eql (AV.prj r3073 0) (AV.int 1))) ∧
((AV.binOk Go.BinOp.eql (AV.prj r4097 0) (AV.int 60)) ∧
((AV.isBool (AV.bin Go.BinOp.eql (AV.prj r3073 0) (AV.int 1))) ∧
((isT (AV.bin Go.BinOp.eql (AV.prj r3073 0) (AV.int 1))) ∧
((AV.isBool (AV.bin Go.BinOp.eql (AV.prj r4097 0) (AV.int 60))) ∧
((isT (AV.bin Go.BinOp.eql (AV.prj r4097 0) (AV.int 60))) ∧
((AV.inb (AV.prj r961 0) (AV.int 1)) ∧
((AV.inb (AV.prj r961 0) (AV.int 1)) ∧
((AV.eqPlOk [(0, (EK.int Go.IntKind.i64)), (1, (EK.int Go.IntKind.i64)), (2, EK.bool), (3, (EK.int Go.IntKind.i64))] [(AV.cel (AV.atAgg (AV.prj r961 0) (AV.int 1) 0 4) 0), (AV.cel (AV.atAgg (AV.prj r961 0) (AV.int 1) 0 4) 1), (AV.cel (AV.atAgg (AV.prj r961 0) (AV.int 1) 0 4) 2), (AV.cel (AV.atAgg (AV.prj r961 0) (AV.int 1) 0 4) 3)] [(AV.int 160), (AV.int 1), (AV.bool true), (AV.int 0)]) ∧
((AV.isAgg (AV.atAgg (AV.prj r961 0) (AV.int 1) 0 4) 4) ∧
((AV.isBool (AV.bin Go.BinOp.eql (AV.prj r4097 0) (AV.int 60))) ∧
((isT (AV.bin Go.BinOp.eql (AV.prj r4097 0) (AV.int 60))) ∧
((AV.isBool (AV.eqPl [(0, (EK.int Go.IntKind.i64)), (1, (EK.int Go.IntKind.i64)), (2, EK.bool), (3, (EK.int Go.IntKind.i64))] [(AV.cel (AV.atAgg (AV.prj r961 0) (AV.int 1) 0 4) 0), (AV.cel (AV.atAgg (AV.prj r961 0) (AV.int 1) 0 4) 1), (AV.cel (AV.atAgg (AV.prj r961 0) (AV.int 1) 0 4) 2), (AV.cel (AV.atAgg (AV.prj r961 0) (AV.int 1) 0 4) 3)] [(AV.int 160), (AV.int 1), (AV.bool true), (AV.int 0)])) ∧
((isT (AV.eqPl [(0, (EK.int Go.IntKind.i64)), (1, (EK.int Go.IntKind.i64)), (2, EK.bool), (3, (EK.int Go.IntKind.i64))] [(AV.cel (AV.atAgg (AV.prj r961 0) (AV.int 1) 0 4) 0), (AV.cel (AV.atAgg (AV.prj r961 0) (AV.int 1) 0 4) 1), (AV.cel (AV.atAgg (AV.prj r961 0) (AV.int 1) 0 4) 2), (AV.cel (AV.atAgg (AV.prj r961 0) (AV.int 1) 0 4) 3)] [(AV.int 160), (AV.int 1), (AV.bool true), (AV.int 0)])) ∧
(∃ r8897 : AV, ((Fn Try.prog 17 [(AV.mk 4 [[(AV.int 0), (AV.int 0), (AV.bool false), (AV.int 2)]])] Sh.sc r8897) ∧
((AV.binOk Go.BinOp.eql r8897 (AV.int 1)) ∧
((AV.isBool (AV.eqPl [(0, (EK.int Go.IntKind.i64)), (1, (EK.int Go.IntKind.i64)), (2, EK.bool), (3, (EK.int Go.IntKind.i64))] [(AV.cel (AV.atAgg (AV.prj r961 0) (AV.int 1) 0 4) 0), (AV.cel (AV.atAgg (AV.prj r961 0) (AV.int 1) 0 4) 1), (AV.cel (AV.atAgg (AV.prj r961 0) (AV.int 1) 0 4) 2), (AV.cel (AV.atAgg (AV.prj r961 0) (AV.int 1) 0 4) 3)] [(AV.int 160), (AV.int 1), (AV.bool true), (AV.int 0)])) ∧
((isT (AV.eqPl [(0, (EK.int Go.IntKind.i64)), (1, (EK.int Go.IntKind.i64)), (2, EK.bool), (3, (EK.int Go.IntKind.i64))] [(AV.cel (AV.atAgg (AV.prj r961 0) (AV.int 1) 0 4) 0), (AV.cel (AV.atAgg (AV.prj r961 0) (AV.int 1) 0 4) 1), (AV.cel (AV.atAgg (AV.prj r961 0) (AV.int 1) 0 4) 2), (AV.cel (AV.atAgg (AV.prj r961 0) (AV.int 1) 0 4) 3)] [(AV.int 160), (AV.int 1), (AV.bool true), (AV.int 0)])) ∧
((AV.isBool (AV.bin Go.BinOp.eql r8897 (AV.int 1))) ∧
((isT (AV.bin Go.BinOp.eql r8897 (AV.int 1))) ∧
(∃ r9153 : AV, ((Fn Try.prog 19 [(AV.lit (Value.slice none 0 0))] Sh.sc r9153) ∧
((AV.binOk Go.BinOp.eql r9153 (AV.int 8)) ∧
((AV.isBool (AV.bin Go.BinOp.eql r8897 (AV.int 1))) ∧
((isT (AV.bin Go.BinOp.eql r8897 (AV.int 1))) ∧
((AV.flat (AV.bin Go.BinOp.eql r9153 (AV.int 8))) ∧
(fSame (AV.bin Go.BinOp.eql r9153 (AV.int 8)) r)))))))))))))))))))))))))))))))))))))))))))))))))))))))))))))))))))))))))))))))))))))))))))))))))))))))))) := by kernel_rfl
theorem checks_form (x0 x1 x2 x3 r : AV) : fnF Try.prog Γ ann 3 3 Try.f3 (Try.f3.body.getD .skip) ((.f (.f (.f (.both (.both (.f (.f (.both .nil (.both (.both (.both (.t .nil) (.t .nil)) (.t (.t .nil))) (.f (.t (.t .nil))))))) (.both (.f (.f (.both .nil (.both (.both (.both (.t .nil) (.t .nil)) (.t (.t .nil))) (.f (.t (.t .nil))))))) (.t (.both (.f (.f (.both .nil (.both (.both (.both (.t .nil) (.t .nil)) (.t (.t .nil))) (.f (.t (.t .nil))))))) (.f (.f (.both .nil (.both (.both (.both (.t .nil) (.t .nil)) (.t (.t .nil))) (.f (.t (.t .nil))))))))))) (.f (.f (.f (.both .nil (.both (.both (.both (.t .nil) (.t .nil)) (.t (.t .nil))) (.f (.t (.t .nil))))))))))))) [x0, x1, x2, x3] (.sc) r = (((AV.isAgg x2 16) ∧
(∃ r129 : AV, ((Fn Try.prog 14 [] Sh.sc r129) ∧
((AV.unOk Go.UnOp.not r129) ∧
((AV.isBool (AV.un Go.UnOp.not r129)) ∧
((isF (AV.un Go.UnOp.not r129)) ∧
(∃ r385 : AV, ((Fn Try.prog 15 [x1, x3] (Sh.tup [Sh.sc, Sh.sc]) r385) ∧
(∃ r833 : AV, ((Fn Try.prog 16 [x1] Sh.sc r833) ∧
(∃ r1025 : AV, ((Fn Try.prog 17 [x0] Sh.sc r1025) ∧
(∃ r1153 : AV, ((Fn Try.prog 18 [x0] Sh.sc r1153) ∧
((AV.binOk Go.BinOp.neq r1025 r1153) ∧
((AV.isBool (AV.bin Go.BinOp.neq r1025 r1153)) ∧
((isF (AV.bin Go.BinOp.neq r1025 r1153)) ∧
(∃ r1409 : AV, ((Fn Try.prog 19 [x1] Sh.sc r1409) ∧
((AV.binOk Go.BinOp.neq r1409 r833) ∧
((AV.isBool (AV.bin Go.BinOp.neq r1025 r1153)) ∧
((isF (AV.bin Go.BinOp.neq r1025 r1153)) ∧
((AV.isBool (AV.bin Go.BinOp.neq r1409 r833)) ∧
((isF (AV.bin Go.BinOp.neq r1409 r833)) ∧
((AV.binOk Go.BinOp.eql r833 (AV.int 0)) ∧
((AV.isBool (AV.bin Go.BinOp.eql r833 (AV.int 0))) ∧
(((isT (AV.bin Go.BinOp.eql r833 (AV.int 0))) →
  ((AV.binOk Go.BinOp.lss x3 (AV.int 0)) ∧
  ((AV.isBool (AV.bin Go.BinOp.lss x3 (AV.int 0))) ∧
  (((isT (AV.bin Go.BinOp.lss x3 (AV.int 0))) →
    ((AV.isBool (AV.bin Go.BinOp.lss x3 (AV.int 0))) ∧
    ((isT (AV.bin Go.BinOp.lss x3 (AV.int 0))) ∧
    ((AV.isBool (AV.bin Go.BinOp.eql r833 (AV.int 0))) ∧
    ((isT (AV.bin Go.BinOp.eql r833 (AV.int 0))) ∧
    ((AV.binOk Go.BinOp.neq (AV.prj r385 1) (AV.int 12)) ∧
    ((AV.isBool (AV.bin Go.BinOp.neq (AV.prj r385 1) (AV.int 12))) ∧
    ((isF (AV.bin Go.BinOp.neq (AV.prj r385 1) (AV.int 12))) ∧
    ((AV.binOk Go.BinOp.neq (AV.prj r385 0) (AV.int 0)) ∧
    ((AV.isBool (AV.bin Go.BinOp.neq (AV.prj r385 1) (AV.int 12))) ∧
    ((isF (AV.bin Go.BinOp.neq (AV.prj r385 1) (AV.int 12))) ∧
    ((AV.isBool (AV.bin Go.BinOp.neq (AV.prj r385 0) (AV.int 0))) ∧
    ((isF (AV.bin Go.BinOp.neq (AV.prj r385 0) (AV.int 0))) ∧
    ((AV.isSl x0 4) ∧
    ((AV.binOk Go.BinOp.lss (AV.len x0) (AV.int 2)) ∧
    ((AV.isBool (AV.bin Go.BinOp.lss (AV.len x0) (AV.int 2))) ∧
    (((isT (AV.bin Go.BinOp.lss (AV.len x0) (AV.int 2))) →
      ((AV.flat (AV.bool true)) ∧
      (fSame (AV.bool true) r))) ∧
    ((isF (AV.bin Go.BinOp.lss (AV.len x0) (AV.int 2))) →
      ((AV.isSl x0 4) ∧
      ((AV.inb x0 (AV.int 0)) ∧
      ((AV.isSl x0 4) ∧
      ((AV.binOk Go.BinOp.sub (AV.len x0) (AV.int 1)) ∧
      ((AV.isSl x0 4) ∧
      ((AV.inb x0 (AV.bin Go.BinOp.sub (AV.len x0) (AV.int 1))) ∧
      ((AV.isAgg (AV.atAgg x0 (AV.int 0) 0 4) 4) ∧
      ((AV.isAgg (AV.atAgg x0 (AV.bin Go.BinOp.sub (AV.len x0) (AV.int 1)) 0 4) 4) ∧
      (∃ r4289 : AV, ((Fn Try.prog 21 [(AV.agg [(AV.cel x2 0), (AV.cel x2 1), (AV.cel x2 2), (AV.cel x2 3), (AV.cel x2 4), (AV.cel x2 5), (AV.cel x2 6), (AV.cel x2 7), (AV.cel x2 8), (AV.cel x2 9), (AV.cel x2 10), (AV.cel x2 11), (AV.cel x2 12), (AV.cel x2 13), (AV.cel x2 14), (AV.cel x2 15)]), (AV.agg [(AV.cel (AV.atAgg x0 (AV.int 0) 0 4) 0), (AV.cel (AV.atAgg x0 (AV.int 0) 0 4) 1), (AV.cel (AV.atAgg x0 (AV.int 0) 0 4) 2), (AV.cel (AV.atAgg x0 (AV.int 0) 0 4) 3)]), (AV.agg [(AV.cel (AV.atAgg x0 (AV.bin Go.BinOp.sub (AV.len x0) (AV.int 1)) 0 4) 0), (AV.cel (AV.atAgg x0 (AV.bin Go.BinOp.sub (AV.len x0) (AV.int 1)) 0 4) 1), (AV.cel (AV.atAgg x0 (AV.bin Go.BinOp.sub (AV.len x0) (AV.int 1)) 0 4) 2), (AV.cel (AV.atAgg x0 (AV.bin Go.BinOp.sub (AV.len x0) (AV.int 1)) 0 4) 3)])] (Sh.tup [Sh.sc, Sh.sc]) r4289) ∧
      (∃ r4737 : AV, ((Fn Try.prog 22 [(AV.agg [(AV.cel x2 0), (AV.cel x2 1), (AV.cel x2 2), (AV.cel x2 3), (AV.cel x2 4), (AV.cel x2 5), (AV.cel x2 6), (AV.cel x2 7), (AV.cel x2 8), (AV.cel x2 9), (AV.cel x2 10), (AV.cel x2 11), (AV.cel x2 12), (AV.cel x2 13), (AV.cel x2 14), (AV.cel x2 15)])] Sh.sc r4737) ∧
      ((AV.binOk Go.BinOp.eql r4737 (AV.int 0)) ∧
      ((AV.isBool (AV.bin Go.BinOp.eql r4737 (AV.int 0))) ∧
      (((isT (AV.bin Go.BinOp.eql r4737 (AV.int 0))) →
        (∃ r5121 : AV, ((Fn Try.prog 18 [(AV.mk 4 [[(AV.cel (AV.atAgg x0 (AV.int 0) 0 4) 0), (AV.cel (AV.atAgg x0 (AV.int 0) 0 4) 1), (AV.cel (AV.atAgg x0 (AV.int 0) 0 4) 2), (AV.cel (AV.atAgg x0 (AV.int 0) 0 4) 3)]])] Sh.sc r5121) ∧
        ((AV.binOk Go.BinOp.eql r5121 (AV.int 0)) ∧
        ((AV.isBool (AV.bin Go.BinOp.eql r5121 (AV.int 0))) ∧
        (((isT (AV.bin Go.BinOp.eql r5121 (AV.int 0))) →
          (∃ r5505 : AV, ((Fn Try.prog 18 [(AV.mk 4 [[(AV.cel (AV.atAgg x0 (AV.bin Go.BinOp.sub (AV.len x0) (AV.int 1)) 0 4) 0), (AV.cel (AV.atAgg x0 (AV.bin Go.BinOp.sub (AV.len x0) (AV.int 1)) 0 4) 1), (AV.cel (AV.atAgg x0 (AV.bin Go.BinOp.sub (AV.len x0) (AV.int 1)) 0 4) 2), (AV.cel (AV.atAgg x0 (AV.bin Go.BinOp.sub (AV.len x0) (AV.int 1)) 0 4) 3)]])] Sh.sc r5505) ∧
          ((AV.binOk Go.BinOp.neq r5505 (AV.int 0)) ∧
          ((AV.isBool (AV.bin Go.BinOp.neq r5505 (AV.int 0))) ∧
          (((isT (AV.bin Go.BinOp.neq r5505 (AV.int 0))) →
            ((AV.binOk Go.BinOp.eql (AV.prj r4289 1) r5505) ∧
            ((AV.isBool (AV.bin Go.BinOp.eql (AV.prj r4289 1) r5505)) ∧
            ((isT (AV.bin Go.BinOp.eql (AV.prj r4289 1) r5505)) ∧
            ((AV.binOk Go.BinOp.eql (AV.prj r4289 0) (AV.int 0)) ∧
            ((AV.isBool (AV.bin Go.BinOp.eql (AV.prj r4289 1) r5505)) ∧
            ((isT (AV.bin Go.BinOp.eql (AV.prj r4289 1) r5505)) ∧
            ((AV.flat (AV.bin Go.BinOp.eql (AV.prj r4289 0) (AV.int 0))) ∧
            (fSame (AV.bin Go.BinOp.eql (AV.prj r4289 0) (AV.int 0)) r))))))))) ∧
          ((isF (AV.bin Go.BinOp.neq r5505 (AV.int 0))) →
            ((AV.binOk Go.BinOp.eql (AV.prj r4289 1) (AV.int 0)) ∧
            ((AV.isBool (AV.bin Go.BinOp.eql (AV.prj r4289 1) (AV.int 0))) ∧
            ((isT (AV.bin Go.BinOp.eql (AV.prj r4289 1) (AV.int 0))) ∧
            (∃ r6209 : AV, ((Fn Try.prog 23 [(AV.agg [(AV.cel x2 0), (AV.cel x2 1), (AV.cel x2 2), (AV.cel x2 3), (AV.cel x2 4), (AV.cel x2 5), (AV.cel x2 6), (AV.cel x2 7), (AV.cel x2 8), (AV.cel x2 9), (AV.cel x2 10), (AV.cel x2 11), (AV.cel x2 12), (AV.cel x2 13), (AV.cel x2 14), (AV.cel x2 15)]), (AV.agg [(AV.cel (AV.atAgg x0 (AV.int 0) 0 4) 0), (AV.cel (AV.atAgg x0 (AV.int 0) 0 4) 1), (AV.cel (AV.atAgg x0 (AV.int 0) 0 4) 2), (AV.cel (AV.atAgg x0 (AV.int 0) 0 4) 3)]), (AV.agg [(AV.cel (AV.atAgg x0 (AV.bin Go.BinOp.sub (AV.len x0) (AV.int 1)) 0 4) 0), (AV.cel (AV.atAgg x0 (AV.bin Go.BinOp.sub (AV.len x0) (AV.int 1)) 0 4) 1), (AV.cel (AV.atAgg x0 (AV.bin Go.BinOp.sub (AV.len x0) (AV.int 1)) 0 4) 2), (AV.cel (AV.atAgg x0 (AV.bin Go.BinOp.sub (AV.len x0) (AV.int 1)) 0 4) 3)])] Sh.sc r6209) ∧
            ((AV.binOk Go.BinOp.eql (AV.prj r4289 0) r6209) ∧
            ((AV.isBool (AV.bin Go.BinOp.eql (AV.prj r4289 1) (AV.int 0))) ∧
            ((isT (AV.bin Go.BinOp.eql (AV.prj r4289 1) (AV.int 0))) ∧
            ((AV.flat (AV.bin Go.BinOp.eql (AV.prj r4289 0) r6209)) ∧
            (fSame (AV.bin Go.BinOp.eql (AV.prj r4289 0) r6209) r))))))))))))))))) ∧
        ((isF (AV.bin Go.BinOp.eql r5121 (AV.int 0))) →
          ((AV.binOk Go.BinOp.neq r5121 (AV.int 0)) ∧
          ((AV.isBool (AV.bin Go.BinOp.neq r5121 (AV.int 0))) ∧
          ((isT (AV.bin Go.BinOp.neq r5121 (AV.int 0))) ∧
          ((AV.binOk Go.BinOp.eql (AV.prj r4289 1) r5121) ∧
          ((AV.isBool (AV.bin Go.BinOp.eql (AV.prj r4289 1) r5121)) ∧
          ((isT (AV.bin Go.BinOp.eql (AV.prj r4289 1) r5121)) ∧
          ((AV.binOk Go.BinOp.eql (AV.prj r4289 0) (AV.int 0)) ∧
          ((AV.isBool (AV.bin Go.BinOp.eql (AV.prj r4289 1) r5121)) ∧
          ((isT (AV.bin Go.BinOp.eql (AV.prj r4289 1) r5121)) ∧
          ((AV.flat (AV.bin Go.BinOp.eql (AV.prj r4289 0) (AV.int 0))) ∧
          (fSame (AV.bin Go.BinOp.eql (AV.prj r4289 0) (AV.int 0)) r)))))))))))))))))) ∧
      ((isF (AV.bin Go.BinOp.eql r4737 (AV.int 0))) →
        ((AV.binOk Go.BinOp.eql r4737 (AV.int 0)) ∧
        ((AV.isBool (AV.bin Go.BinOp.eql r4737 (AV.int 0))) ∧
        ((isF (AV.bin Go.BinOp.eql r4737 (AV.int 0))) ∧
        ((AV.binOk Go.BinOp.neq r4737 (AV.int 0)) ∧
        ((AV.isBool (AV.bin Go.BinOp.neq r4737 (AV.int 0))) ∧
        ((isT (AV.bin Go.BinOp.neq r4737 (AV.int 0))) ∧
        ((AV.binOk Go.BinOp.eql (AV.prj r4289 1) r4737) ∧
        ((AV.isBool (AV.bin Go.BinOp.eql (AV.prj r4289 1) r4737)) ∧
        ((isT (AV.bin Go.BinOp.eql (AV.prj r4289 1) r4737)) ∧
        ((AV.binOk Go.BinOp.eql (AV.prj r4289 0) (AV.int 0)) ∧
        ((AV.isBool (AV.bin Go.BinOp.eql (AV.prj r4289 1) r4737)) ∧
        ((isT (AV.bin Go.BinOp.eql (AV.prj r4289 1) r4737)) ∧
        ((AV.flat (AV.bin Go.BinOp.eql (AV.prj r4289 0) (AV.int 0))) ∧
        (fSame (AV.bin Go.BinOp.eql (AV.prj r4289 0) (AV.int 0)) r)))))))))))))))))))))))))))))))))))))))))))))))) ∧
  ((isF (AV.bin Go.BinOp.lss x3 (AV.int 0))) →
    ((AV.binOk Go.BinOp.gtr x3 (AV.int 200000)) ∧
    ((AV.isBool (AV.bin Go.BinOp.lss x3 (AV.int 0))) ∧
    ((isF (AV.bin Go.BinOp.lss x3 (AV.int 0))) ∧
    ((AV.isBool (AV.bin Go.BinOp.eql r833 (AV.int 0))) ∧
    ((isT (AV.bin Go.BinOp.eql r833 (AV.int 0))) ∧
    ((AV.isBool (AV.bin Go.BinOp.gtr x3 (AV.int 200000))) ∧
    (((isT (AV.bin Go.BinOp.gtr x3 (AV.int 200000))) →
      ((AV.binOk Go.BinOp.neq (AV.prj r385 1) (AV.int 12)) ∧
      ((AV.isBool (AV.bin Go.BinOp.neq (AV.prj r385 1) (AV.int 12))) ∧
      ((isF (AV.bin Go.BinOp.neq (AV.prj r385 1) (AV.int 12))) ∧
      ((AV.binOk Go.BinOp.neq (AV.prj r385 0) (AV.int 0)) ∧
      ((AV.isBool (AV.bin Go.BinOp.neq (AV.prj r385 1) (AV.int 12))) ∧
      ((isF (AV.bin Go.BinOp.neq (AV.prj r385 1) (AV.int 12))) ∧
      ((AV.isBool (AV.bin Go.BinOp.neq (AV.prj r385 0) (AV.int 0))) ∧
      ((isF (AV.bin Go.BinOp.neq (AV.prj r385 0) (AV.int 0))) ∧
      ((AV.isSl x0 4) ∧
      ((AV.binOk Go.BinOp.lss (AV.len x0) (AV.int 2)) ∧
      ((AV.isBool (AV.bin Go.BinOp.lss (AV.len x0) (AV.int 2))) ∧
      (((isT (AV.bin Go.BinOp.lss (AV.len x0) (AV.int 2))) →
        ((AV.flat (AV.bool true)) ∧
        (fSame (AV.bool true) r))) ∧
      ((isF (AV.bin Go.BinOp.lss (AV.len x0) (AV.int 2))) →
        ((AV.isSl x0 4) ∧
        ((AV.inb x0 (AV.int 0)) ∧
        ((AV.isSl x0 4) ∧
        ((AV.binOk Go.BinOp.sub (AV.len x0) (AV.int 1)) ∧
        ((AV.isSl x0 4) ∧
        ((AV.inb x0 (AV.bin Go.BinOp.sub (AV.len x0) (AV.int 1))) ∧
        ((AV.isAgg (AV.atAgg x0 (AV.int 0) 0 4) 4) ∧
        ((AV.isAgg (AV.atAgg x0 (AV.bin Go.BinOp.sub (AV.len x0) (AV.int 1)) 0 4) 4) ∧
        (∃ r4289 : AV, ((Fn Try.prog 21 [(AV.agg [(AV.cel x2 0), (AV.cel x2 1), (AV.cel x2 2), (AV.cel x2 3), (AV.cel x2 4), (AV.cel x2 5), (AV.cel x2 6), (AV.cel x2 7), (AV.cel x2 8), (AV.cel x2 9), (AV.cel x2 10), (AV.cel x2 11), (AV.cel x2 12), (AV.cel x2 13), (AV.cel x2 14), (AV.cel x2 15)]), (AV.agg [(AV.cel (AV.atAgg x0 (AV.int 0) 0 4) 0), (AV.cel (AV.atAgg x0 (AV.int 0) 0 4) 1), (AV.cel (AV.atAgg x0 (AV.int 0) 0 4) 2), (AV.cel (AV.atAgg x0 (AV.int 0) 0 4) 3)]), (AV.agg [(AV.cel (AV.atAgg x0 (AV.bin Go.BinOp.sub (AV.len x0) (AV.int 1)) 0 4) 0), (AV.cel (AV.atAgg x0 (AV.bin Go.BinOp.sub (AV.len x0) (AV.int 1)) 0 4) 1), (AV.cel (AV.atAgg x0 (AV.bin Go.BinOp.sub (AV.len x0) (AV.int 1)) 0 4) 2), (AV.cel (AV.atAgg x0 (AV.bin Go.BinOp.sub (AV.len x0) (AV.int 1)) 0 4) 3)])] (Sh.tup [Sh.sc, Sh.sc]) r4289) ∧
        (∃ r4737 : AV, ((Fn Try.prog 22 [(AV.agg [(AV.cel x2 0), (AV.cel x2 1), (AV.cel x2 2), (AV.cel x2 3), (AV.cel x2 4), (AV.cel x2 5), (AV.cel x2 6), (AV.cel x2 7), (AV.cel x2 8), (AV.cel x2 9), (AV.cel x2 10), (AV.cel x2 11), (AV.cel x2 12), (AV.cel x2 13), (AV.cel x2 14), (AV.cel x2 15)])] Sh.sc r4737) ∧
        ((AV.binOk Go.BinOp.eql r4737 (AV.int 0)) ∧
        ((AV.isBool (AV.bin Go.BinOp.eql r4737 (AV.int 0))) ∧
        (((isT (AV.bin Go.BinOp.eql r4737 (AV.int 0))) →
          (∃ r5121 : AV, ((Fn Try.prog 18 [(AV.mk 4 [[(AV.cel (AV.atAgg x0 (AV.int 0) 0 4) 0), (AV.cel (AV.atAgg x0 (AV.int 0) 0 4) 1), (AV.cel (AV.atAgg x0 (AV.int 0) 0 4) 2), (AV.cel (AV.atAgg x0 (AV.int 0) 0 4) 3)]])] Sh.sc r5121) ∧
          ((AV.binOk Go.BinOp.eql r5121 (AV.int 0)) ∧
          ((AV.isBool (AV.bin Go.BinOp.eql r5121 (AV.int 0))) ∧
          (((isT (AV.bin Go.BinOp.eql r5121 (AV.int 0))) →
            (∃ r5505 : AV, ((Fn Try.prog 18 [(AV.mk 4 [[(AV.cel (AV.atAgg x0 (AV.bin Go.BinOp.sub (AV.len x0) (AV.int 1)) 0 4) 0), (AV.cel (AV.atAgg x0 (AV.bin Go.BinOp.sub (AV.len x0) (AV.int 1)) 0 4) 1), (AV.cel (AV.atAgg x0 (AV.bin Go.BinOp.sub (AV.len x0) (AV.int 1)) 0 4) 2), (AV.cel (AV.atAgg x0 (AV.bin Go.BinOp.sub (AV.len x0) (AV.int 1)) 0 4) 3)]])] Sh.sc r5505) ∧
            ((AV.binOk Go.BinOp.neq r5505 (AV.int 0)) ∧
            ((AV.isBool (AV.bin Go.BinOp.neq r5505 (AV.int 0))) ∧
            (((isT (AV.bin Go.BinOp.neq r5505 (AV.int 0))) →
              ((AV.binOk Go.BinOp.eql (AV.prj r4289 1) r5505) ∧
              ((AV.isBool (AV.bin Go.BinOp.eql (AV.prj r4289 1) r5505)) ∧
              ((isT (AV.bin Go.BinOp.eql (AV.prj r4289 1) r5505)) ∧
              ((AV.binOk Go.BinOp.eql (AV.prj r4289 0) (AV.int 0)) ∧
              ((AV.isBool (AV.bin Go.BinOp.eql (AV.prj r4289 1) r5505)) ∧
              ((isT (AV.bin Go.BinOp.eql (AV.prj r4289 1) r5505)) ∧
              ((AV.flat (AV.bin Go.BinOp.eql (AV.prj r4289 0) (AV.int 0))) ∧
              (fSame (AV.bin Go.BinOp.eql (AV.prj r4289 0) (AV.int 0)) r))))))))) ∧
            ((isF (AV.bin Go.BinOp.neq r5505 (AV.int 0))) →
              ((AV.binOk Go.BinOp.eql (AV.prj r4289 1) (AV.int 0)) ∧
              ((AV.isBool (AV.bin Go.BinOp.eql (AV.prj r4289 1) (AV.int 0))) ∧
              ((isT (AV.bin Go.BinOp.eql (AV.prj r4289 1) (AV.int 0))) ∧
              (∃ r6209 : AV, ((Fn Try.prog 23 [(AV.agg [(AV.cel x2 0), (AV.cel x2 1), (AV.cel x2 2), (AV.cel x2 3), (AV.cel x2 4), (AV.cel x2 5), (AV.cel x2 6), (AV.cel x2 7), (AV.cel x2 8), (AV.cel x2 9), (AV.cel x2 10), (AV.cel x2 11), (AV.cel x2 12), (AV.cel x2 13), (AV.cel x2 14), (AV.cel x2 15)]), (AV.agg [(AV.cel (AV.atAgg x0 (AV.int 0) 0 4) 0), (AV.cel (AV.atAgg x0 (AV.int 0) 0 4) 1), (AV.cel (AV.atAgg x0 (AV.int 0) 0 4) 2), (AV.cel (AV.atAgg x0 (AV.int 0) 0 4) 3)]), (AV.agg [(AV.cel (AV.atAgg x0 (AV.bin Go.BinOp.sub (AV.len x0) (AV.int 1)) 0 4) 0), (AV.cel (AV.atAgg x0 (AV.bin Go.BinOp.sub (AV.len x0) (AV.int 1)) 0 4) 1), (AV.cel (AV.atAgg x0 (AV.bin Go.BinOp.sub (AV.len x0) (AV.int 1)) 0 4) 2), (AV.cel (AV.atAgg x0 (AV.bin Go.BinOp.sub (AV.len x0) (AV.int 1)) 0 4) 3)])] Sh.sc r6209) ∧
              ((AV.binOk Go.BinOp.eql (AV.prj r4289 0) r6209) ∧
              ((AV.isBool (AV.bin Go.BinOp.eql (AV.prj r4289 1) (AV.int 0))) ∧
              ((isT (AV.bin Go.BinOp.eql (AV.prj r4289 1) (AV.int 0))) ∧
              ((AV.flat (AV.bin Go.BinOp.eql (AV.prj r4289 0) r6209)) ∧
              (fSame (AV.bin Go.BinOp.eql (AV.prj r4289 0) r6209) r))))))))))))))))) ∧
          ((isF (AV.bin Go.BinOp.eql r5121 (AV.int 0))) →
            ((AV.binOk Go.BinOp.neq r5121 (AV.int 0)) ∧
            ((AV.isBool (AV.bin Go.BinOp.neq r5121 (AV.int 0))) ∧
            ((isT (AV.bin Go.BinOp.neq r5121 (AV.int 0))) ∧
            ((AV.binOk Go.BinOp.eql (AV.prj r4289 1) r5121) ∧
            ((AV.isBool (AV.bin Go.BinOp.eql (AV.prj r4289 1) r5121)) ∧
            ((isT (AV.bin Go.BinOp.eql (AV.prj r4289 1) r5121)) ∧
            ((AV.binOk Go.BinOp.eql (AV.prj r4289 0) (AV.int 0)) ∧
            ((AV.isBool (AV.bin Go.BinOp.eql (AV.prj r4289 1) r5121)) ∧
            ((isT (AV.bin Go.BinOp.eql (AV.prj r4289 1) r5121)) ∧
            ((AV.flat (AV.bin Go.BinOp.eql (AV.prj r4289 0) (AV.int 0))) ∧
            (fSame (AV.bin Go.BinOp.eql (AV.prj r4289 0) (AV.int 0)) r)))))))))))))))))) ∧
        ((isF (AV.bin Go.BinOp.eql r4737 (AV.int 0))) →
          ((AV.binOk Go.BinOp.eql r4737 (AV.int 0)) ∧
          ((AV.isBool (AV.bin Go.BinOp.eql r4737 (AV.int 0))) ∧
          ((isF (AV.bin Go.BinOp.eql r4737 (AV.int 0))) ∧
          ((AV.binOk Go.BinOp.neq r4737 (AV.int 0)) ∧
          ((AV.isBool (AV.bin Go.BinOp.neq r4737 (AV.int 0))) ∧
          ((isT (AV.bin Go.BinOp.neq r4737 (AV.int 0))) ∧
          ((AV.binOk Go.BinOp.eql (AV.prj r4289 1) r4737) ∧
          ((AV.isBool (AV.bin Go.BinOp.eql (AV.prj r4289 1) r4737)) ∧
          ((isT (AV.bin Go.BinOp.eql (AV.prj r4289 1) r4737)) ∧
          ((AV.binOk Go.BinOp.eql (AV.prj r4289 0) (AV.int 0)) ∧
          ((AV.isBool (AV.bin Go.BinOp.eql (AV.prj r4289 1) r4737)) ∧
          ((isT (AV.bin Go.BinOp.eql (AV.prj r4289 1) r4737)) ∧
          ((AV.flat (AV.bin Go.BinOp.eql (AV.prj r4289 0) (AV.int 0))) ∧
          (fSame (AV.bin Go.BinOp.eql (AV.prj r4289 0) (AV.int 0)) r)))))))))))))))))))))))))))))))))))))))))))) ∧
    ((isF (AV.bin Go.BinOp.gtr x3 (AV.int 200000))) →
      ((AV.binOk Go.BinOp.eql r833 (AV.int 0)) ∧
      ((AV.isBool (AV.bin Go.BinOp.eql r833 (AV.int 0))) ∧
      ((isT (AV.bin Go.BinOp.eql r833 (AV.int 0))) ∧
      (∃ r2625 : AV, ((Fn Try.prog 20 [x1, x3] Sh.sc r2625) ∧
      ((AV.binOk Go.BinOp.lss r2625 (AV.int 0)) ∧
      ((AV.isBool (AV.bin Go.BinOp.lss r2625 (AV.int 0))) ∧
      (((isT (AV.bin Go.BinOp.lss r2625 (AV.int 0))) →
        ((AV.binOk Go.BinOp.neq (AV.prj r385 1) (AV.int 14)) ∧
        ((AV.isBool (AV.bin Go.BinOp.neq (AV.prj r385 1) (AV.int 14))) ∧
        ((isF (AV.bin Go.BinOp.neq (AV.prj r385 1) (AV.int 14))) ∧
        ((AV.binOk Go.BinOp.neq (AV.prj r385 0) (AV.int 0)) ∧
        ((AV.isBool (AV.bin Go.BinOp.neq (AV.prj r385 1) (AV.int 14))) ∧
        ((isF (AV.bin Go.BinOp.neq (AV.prj r385 1) (AV.int 14))) ∧
        ((AV.isBool (AV.bin Go.BinOp.neq (AV.prj r385 0) (AV.int 0))) ∧
        ((isF (AV.bin Go.BinOp.neq (AV.prj r385 0) (AV.int 0))) ∧
        ((AV.isSl x0 4) ∧
        ((AV.binOk Go.BinOp.lss (AV.len x0) (AV.int 2)) ∧
        ((AV.isBool (AV.bin Go.BinOp.lss (AV.len x0) (AV.int 2))) ∧
        (((isT (AV.bin Go.BinOp.lss (AV.len x0) (AV.int 2))) →
          ((AV.flat (AV.bool true)) ∧
          (fSame (AV.bool true) r))) ∧
        ((isF (AV.bin Go.BinOp.lss (AV.len x0) (AV.int 2))) →
          ((AV.isSl x0 4) ∧
          ((AV.inb x0 (AV.int 0)) ∧
          ((AV.isSl x0 4) ∧
          ((AV.binOk Go.BinOp.sub (AV.len x0) (AV.int 1)) ∧
          ((AV.isSl x0 4) ∧
          ((AV.inb x0 (AV.bin Go.BinOp.sub (AV.len x0) (AV.int 1))) ∧
          ((AV.isAgg (AV.atAgg x0 (AV.int 0) 0 4) 4) ∧
          ((AV.isAgg (AV.atAgg x0 (AV.bin Go.BinOp.sub (AV.len x0) (AV.int 1)) 0 4) 4) ∧
          (∃ r4737 : AV, ((Fn Try.prog 21 [(AV.agg [(AV.cel x2 0), (AV.cel x2 1), (AV.cel x2 2), (AV.cel x2 3), (AV.cel x2 4), (AV.cel x2 5), (AV.cel x2 6), (AV.cel x2 7), (AV.cel x2 8), (AV.cel x2 9), (AV.cel x2 10), (AV.cel x2 11), (AV.cel x2 12), (AV.cel x2 13), (AV.cel x2 14), (AV.cel x2 15)]), (AV.agg [(AV.cel (AV.atAgg x0 (AV.int 0) 0 4) 0), (AV.cel (AV.atAgg x0 (AV.int 0) 0 4) 1), (AV.cel (AV.atAgg x0 (AV.int 0) 0 4) 2), (AV.cel (AV.atAgg x0 (AV.int 0) 0 4) 3)]), (AV.agg [(AV.cel (AV.atAgg x0 (AV.bin Go.BinOp.sub (AV.len x0) (AV.int 1)) 0 4) 0), (AV.cel (AV.atAgg x0 (AV.bin Go.BinOp.sub (AV.len x0) (AV.int 1)) 0 4) 1), (AV.cel (AV.atAgg x0 (AV.bin Go.BinOp.sub (AV.len x0) (AV.int 1)) 0 4) 2), (AV.cel (AV.atAgg x0 (AV.bin Go.BinOp.sub (AV.len x0) (AV.int 1)) 0 4) 3)])] (Sh.tup [Sh.sc, Sh.sc]) r4737) ∧
          (∃ r5185 : AV, ((Fn Try.prog 22 [(AV.agg [(AV.cel x2 0), (AV.cel x2 1), (AV.cel x2 2), (AV.cel x2 3), (AV.cel x2 4), (AV.cel x2 5), (AV.cel x2 6), (AV.cel x2 7), (AV.cel x2 8), (AV.cel x2 9), (AV.cel x2 10), (AV.cel x2 11), (AV.cel x2 12), (AV.cel x2 13), (AV.cel x2 14), (AV.cel x2 15)])] Sh.sc r5185) ∧
          ((AV.binOk Go.BinOp.eql r5185 (AV.int 0)) ∧
          ((AV.isBool (AV.bin Go.BinOp.eql r5185 (AV.int 0))) ∧
          (((isT (AV.bin Go.BinOp.eql r5185 (AV.int 0))) →
            (∃ r5569 : AV, ((Fn Try.prog 18 [(AV.mk 4 [[(AV.cel (AV.atAgg x0 (AV.int 0) 0 4) 0), (AV.cel (AV.atAgg x0 (AV.int 0) 0 4) 1), (AV.cel (AV.atAgg x0 (AV.int 0) 0 4) 2), (AV.cel (AV.atAgg x0 (AV.int 0) 0 4) 3)]])] Sh.sc r5569) ∧
            ((AV.binOk Go.BinOp.eql r5569 (AV.int 0)) ∧
            ((AV.isBool (AV.bin Go.BinOp.eql r5569 (AV.int 0))) ∧
            (((isT (AV.bin Go.BinOp.eql r5569 (AV.int 0))) →
              (∃ r5953 : AV, ((Fn Try.prog 18 [(AV.mk 4 [[(AV.cel (AV.atAgg x0 (AV.bin Go.BinOp.sub (AV.len x0) (AV.int 1)) 0 4) 0), (AV.cel (AV.atAgg x0 (AV.bin Go.BinOp.sub (AV.len x0) (AV.int 1)) 0 4) 1), (AV.cel (AV.atAgg x0 (AV.bin Go.BinOp.sub (AV.len x0) (AV.int 1)) 0 4) 2), (AV.cel (AV.atAgg x0 (AV.bin Go.BinOp.sub (AV.len x0) (AV.int 1)) 0 4) 3)]])] Sh.sc r5953) ∧
              ((AV.binOk Go.BinOp.neq r5953 (AV.int 0)) ∧
              ((AV.isBool (AV.bin Go.BinOp.neq r5953 (AV.int 0))) ∧
              (((isT (AV.bin Go.BinOp.neq r5953 (AV.int 0))) →
                ((AV.binOk Go.BinOp.eql (AV.prj r4737 1) r5953) ∧
                ((AV.isBool (AV.bin Go.BinOp.eql (AV.prj r4737 1) r5953)) ∧
                ((isT (AV.bin Go.BinOp.eql (AV.prj r4737 1) r5953)) ∧
                ((AV.binOk Go.BinOp.eql (AV.prj r4737 0) (AV.int 0)) ∧
                ((AV.isBool (AV.bin Go.BinOp.eql (AV.prj r4737 1) r5953)) ∧
                ((isT (AV.bin Go.BinOp.eql (AV.prj r4737 1) r5953)) ∧
                ((AV.flat (AV.bin Go.BinOp.eql (AV.prj r4737 0) (AV.int 0))) ∧
                (fSame (AV.bin Go.BinOp.eql (AV.prj r4737 0) (AV.int 0)) r))))))))) ∧
              ((isF (AV.bin Go.BinOp.neq r5953 (AV.int 0))) →
                ((AV.binOk Go.BinOp.eql (AV.prj r4737 1) (AV.int 0)) ∧
                ((AV.isBool (AV.bin Go.BinOp.eql (AV.prj r4737 1) (AV.int 0))) ∧
                ((isT (AV.bin Go.BinOp.eql (AV.prj r4737 1) (AV.int 0))) ∧
                (∃ r6657 : AV, ((Fn Try.prog 23 [(AV.agg [(AV.cel x2 0), (AV.cel x2 1), (AV.cel x2 2), (AV.cel x2 3), (AV.cel x2 4), (AV.cel x2 5), (AV.cel x2 6), (AV.cel x2 7), (AV.cel x2 8), (AV.cel x2 9), (AV.cel x2 10), (AV.cel x2 11), (AV.cel x2 12), (AV.cel x2 13), (AV.cel x2 14), (AV.cel x2 15)]), (AV.agg [(AV.cel (AV.atAgg x0 (AV.int 0) 0 4) 0), (AV.cel (AV.atAgg x0 (AV.int 0) 0 4) 1), (AV.cel (AV.atAgg x0 (AV.int 0) 0 4) 2), (AV.cel (AV.atAgg x0 (AV.int 0) 0 4) 3)]), (AV.agg [(AV.cel (AV.atAgg x0 (AV.bin Go.BinOp.sub (AV.len x0) (AV.int 1)) 0 4) 0), (AV.cel (AV.atAgg x0 (AV.bin Go.BinOp.sub (AV.len x0) (AV.int 1)) 0 4) 1), (AV.cel (AV.atAgg x0 (AV.bin Go.BinOp.sub (AV.len x0) (AV.int 1)) 0 4) 2), (AV.cel (AV.atAgg x0 (AV.bin Go.BinOp.sub (AV.len x0) (AV.int 1)) 0 4) 3)])] Sh.sc r6657) ∧
                ((AV.binOk Go.BinOp.eql (AV.prj r4737 0) r6657) ∧
                ((AV.isBool (AV.bin Go.BinOp.eql (AV.prj r4737 1) (AV.int 0))) ∧
                ((isT (AV.bin Go.BinOp.eql (AV.prj r4737 1) (AV.int 0))) ∧
                ((AV.flat (AV.bin Go.BinOp.eql (AV.prj r4737 0) r6657)) ∧
                (fSame (AV.bin Go.BinOp.eql (AV.prj r4737 0) r6657) r))))))))))))))))) ∧
            ((isF (AV.bin Go.BinOp.eql r5569 (AV.int 0))) →
              ((AV.binOk Go.BinOp.neq r5569 (AV.int 0)) ∧
              ((AV.isBool (AV.bin Go.BinOp.neq r5569 (AV.int 0))) ∧
              ((isT (AV.bin Go.BinOp.neq r5569 (AV.int 0))) ∧
              ((AV.binOk Go.BinOp.eql (AV.prj r4737 1) r5569) ∧
              ((AV.isBool (AV.bin Go.BinOp.eql (AV.prj r4737 1) r5569)) ∧
              ((isT (AV.bin Go.BinOp.eql (AV.prj r4737 1) r5569)) ∧
              ((AV.binOk Go.BinOp.eql (AV.prj r4737 0) (AV.int 0)) ∧
              ((AV.isBool (AV.bin Go.BinOp.eql (AV.prj r4737 1) r5569)) ∧
              ((isT (AV.bin Go.BinOp.eql (AV.prj r4737 1) r5569)) ∧
              ((AV.flat (AV.bin Go.BinOp.eql (AV.prj r4737 0) (AV.int 0))) ∧
              (fSame (AV.bin Go.BinOp.eql (AV.prj r4737 0) (AV.int 0)) r)))))))))))))))))) ∧
          ((isF (AV.bin Go.BinOp.eql r5185 (AV.int 0))) →
            ((AV.binOk Go.BinOp.eql r5185 (AV.int 0)) ∧
            ((AV.isBool (AV.bin Go.BinOp.eql r5185 (AV.int 0))) ∧
            ((isF (AV.bin Go.BinOp.eql r5185 (AV.int 0))) ∧
            ((AV.binOk Go.BinOp.neq r5185 (AV.int 0)) ∧
            ((AV.isBool (AV.bin Go.BinOp.neq r5185 (AV.int 0))) ∧
            ((isT (AV.bin Go.BinOp.neq r5185 (AV.int 0))) ∧
            ((AV.binOk Go.BinOp.eql (AV.prj r4737 1) r5185) ∧
            ((AV.isBool (AV.bin Go.BinOp.eql (AV.prj r4737 1) r5185)) ∧
            ((isT (AV.bin Go.BinOp.eql (AV.prj r4737 1) r5185)) ∧
            ((AV.binOk Go.BinOp.eql (AV.prj r4737 0) (AV.int 0)) ∧
            ((AV.isBool (AV.bin Go.BinOp.eql (AV.prj r4737 1) r5185)) ∧
            ((isT (AV.bin Go.BinOp.eql (AV.prj r4737 1) r5185)) ∧
            ((AV.flat (AV.bin Go.BinOp.eql (AV.prj r4737 0) (AV.int 0))) ∧
            (fSame (AV.bin Go.BinOp.eql (AV.prj r4737 0) (AV.int 0)) r)))))))))))))))))))))))))))))))))))))))))))) ∧
      ((isF (AV.bin Go.BinOp.lss r2625 (AV.int 0))) →
        ((AV.binOk Go.BinOp.neq (AV.prj r385 1) r833) ∧
        ((AV.isBool (AV.bin Go.BinOp.neq (AV.prj r385 1) r833)) ∧
        ((isF (AV.bin Go.BinOp.neq (AV.prj r385 1) r833)) ∧
        ((AV.binOk Go.BinOp.neq (AV.prj r385 0) r2625) ∧
        ((AV.isBool (AV.bin Go.BinOp.neq (AV.prj r385 1) r833)) ∧
        ((isF (AV.bin Go.BinOp.neq (AV.prj r385 1) r833)) ∧
        ((AV.isBool (AV.bin Go.BinOp.neq (AV.prj r385 0) r2625)) ∧
        ((isF (AV.bin Go.BinOp.neq (AV.prj r385 0) r2625)) ∧
        ((AV.isSl x0 4) ∧
        ((AV.binOk Go.BinOp.lss (AV.len x0) (AV.int 2)) ∧
        ((AV.isBool (AV.bin Go.BinOp.lss (AV.len x0) (AV.int 2))) ∧
        (((isT (AV.bin Go.BinOp.lss (AV.len x0) (AV.int 2))) →
          ((AV.flat (AV.bool true)) ∧
          (fSame (AV.bool true) r))) ∧
        ((isF (AV.bin Go.BinOp.lss (AV.len x0) (AV.int 2))) →
          ((AV.isSl x0 4) ∧
          ((AV.inb x0 (AV.int 0)) ∧
          ((AV.isSl x0 4) ∧
          ((AV.binOk Go.BinOp.sub (AV.len x0) (AV.int 1)) ∧
          ((AV.isSl x0 4) ∧
          ((AV.inb x0 (AV.bin Go.BinOp.sub (AV.len x0) (AV.int 1))) ∧
          ((AV.isAgg (AV.atAgg x0 (AV.int 0) 0 4) 4) ∧
          ((AV.isAgg (AV.atAgg x0 (AV.bin Go.BinOp.sub (AV.len x0) (AV.int 1)) 0 4) 4) ∧
          (∃ r4609 : AV, ((Fn Try.prog 21 [(AV.agg [(AV.cel x2 0), (AV.cel x2 1), (AV.cel x2 2), (AV.cel x2 3), (AV.cel x2 4), (AV.cel x2 5), (AV.cel x2 6), (AV.cel x2 7), (AV.cel x2 8), (AV.cel x2 9), (AV.cel x2 10), (AV.cel x2 11), (AV.cel x2 12), (AV.cel x2 13), (AV.cel x2 14), (AV.cel x2 15)]), (AV.agg [(AV.cel (AV.atAgg x0 (AV.int 0) 0 4) 0), (AV.cel (AV.atAgg x0 (AV.int 0) 0 4) 1), (AV.cel (AV.atAgg x0 (AV.int 0) 0 4) 2), (AV.cel (AV.atAgg x0 (AV.int 0) 0 4) 3)]), (AV.agg [(AV.cel (AV.atAgg x0 (AV.bin Go.BinOp.sub (AV.len x0) (AV.int 1)) 0 4) 0), (AV.cel (AV.atAgg x0 (AV.bin Go.BinOp.sub (AV.len x0) (AV.int 1)) 0 4) 1), (AV.cel (AV.atAgg x0 (AV.bin Go.BinOp.sub (AV.len x0) (AV.int 1)) 0 4) 2), (AV.cel (AV.atAgg x0 (AV.bin Go.BinOp.sub (AV.len x0) (AV.int 1)) 0 4) 3)])] (Sh.tup [Sh.sc, Sh.sc]) r4609) ∧
          (∃ r5057 : AV, ((Fn Try.prog 22 [(AV.agg [(AV.cel x2 0), (AV.cel x2 1), (AV.cel x2 2), (AV.cel x2 3), (AV.cel x2 4), (AV.cel x2 5), (AV.cel x2 6), (AV.cel x2 7), (AV.cel x2 8), (AV.cel x2 9), (AV.cel x2 10), (AV.cel x2 11), (AV.cel x2 12), (AV.cel x2 13), (AV.cel x2 14), (AV.cel x2 15)])] Sh.sc r5057) ∧
          ((AV.binOk Go.BinOp.eql r5057 (AV.int 0)) ∧
          ((AV.isBool (AV.bin Go.BinOp.eql r5057 (AV.int 0))) ∧
          (((isT (AV.bin Go.BinOp.eql r5057 (AV.int 0))) →
            (∃ r5441 : AV, ((Fn Try.prog 18 [(AV.mk 4 [[(AV.cel (AV.atAgg x0 (AV.int 0) 0 4) 0), (AV.cel (AV.atAgg x0 (AV.int 0) 0 4) 1), (AV.cel (AV.atAgg x0 (AV.int 0) 0 4) 2), (AV.cel (AV.atAgg x0 (AV.int 0) 0 4) 3)]])] Sh.sc r5441) ∧
            ((AV.binOk Go.BinOp.eql r5441 (AV.int 0)) ∧
            ((AV.isBool (AV.bin Go.BinOp.eql r5441 (AV.int 0))) ∧
            (((isT (AV.bin Go.BinOp.eql r5441 (AV.int 0))) →
              (∃ r5825 : AV, ((Fn Try.prog 18 [(AV.mk 4 [[(AV.cel (AV.atAgg x0 (AV.bin Go.BinOp.sub (AV.len x0) (AV.int 1)) 0 4) 0), (AV.cel (AV.atAgg x0 (AV.bin Go.BinOp.sub (AV.len x0) (AV.int 1)) 0 4) 1), (AV.cel (AV.atAgg x0 (AV.bin Go.BinOp.sub (AV.len x0) (AV.int 1)) 0 4) 2), (AV.cel (AV.atAgg x0 (AV.bin Go.BinOp.sub (AV.len x0) (AV.int 1)) 0 4) 3)]])] Sh.sc r5825) ∧
              ((AV.binOk Go.BinOp.neq r5825 (AV.int 0)) ∧
              ((AV.isBool (AV.bin Go.BinOp.neq r5825 (AV.int 0))) ∧
              (((isT (AV.bin Go.BinOp.neq r5825 (AV.int 0))) →
                ((AV.binOk Go.BinOp.eql (AV.prj r4609 1) r5825) ∧
                ((AV.isBool (AV.bin Go.BinOp.eql (AV.prj r4609 1) r5825)) ∧
                ((isT (AV.bin Go.BinOp.eql (AV.prj r4609 1) r5825)) ∧
                ((AV.binOk Go.BinOp.eql (AV.prj r4609 0) (AV.int 0)) ∧
                ((AV.isBool (AV.bin Go.BinOp.eql (AV.prj r4609 1) r5825)) ∧
                ((isT (AV.bin Go.BinOp.eql (AV.prj r4609 1) r5825)) ∧
                ((AV.flat (AV.bin Go.BinOp.eql (AV.prj r4609 0) (AV.int 0))) ∧
                (fSame (AV.bin Go.BinOp.eql (AV.prj r4609 0) (AV.int 0)) r))))))))) ∧
              ((isF (AV.bin Go.BinOp.neq r5825 (AV.int 0))) →
                ((AV.binOk Go.BinOp.eql (AV.prj r4609 1) (AV.int 0)) ∧
                ((AV.isBool (AV.bin Go.BinOp.eql (AV.prj r4609 1) (AV.int 0))) ∧
                ((isT (AV.bin Go.BinOp.eql (AV.prj r4609 1) (AV.int 0))) ∧
                (∃ r6529 : AV, ((Fn Try.prog 23 [(AV.agg [(AV.cel x2 0), (AV.cel x2 1), (AV.cel x2 2), (AV.cel x2 3), (AV.cel x2 4), (AV.cel x2 5), (AV.cel x2 6), (AV.cel x2 7), (AV.cel x2 8), (AV.cel x2 9), (AV.cel x2 10), (AV.cel x2 11), (AV.cel x2 12), (AV.cel x2 13), (AV.cel x2 14), (AV.cel x2 15)]), (AV.agg [(AV.cel (AV.atAgg x0 (AV.int 0) 0 4) 0), (AV.cel (AV.atAgg x0 (AV.int 0) 0 4) 1), (AV.cel (AV.atAgg x0 (AV.int 0) 0 4) 2), (AV.cel (AV.atAgg x0 (AV.int 0) 0 4) 3)]), (AV.agg [(AV.cel (AV.atAgg x0 (AV.bin Go.BinOp.sub (AV.len x0) (AV.int 1)) 0 4) 0), (AV.cel (AV.atAgg x0 (AV.bin Go.BinOp.sub (AV.len x0) (AV.int 1)) 0 4) 1), (AV.cel (AV.atAgg x0 (AV.bin Go.BinOp.sub (AV.len x0) (AV.int 1)) 0 4) 2), (AV.cel (AV.atAgg x0 (AV.bin Go.BinOp.sub (AV.len x0) (AV.int 1)) 0 4) 3)])] Sh.sc r6529) ∧
                ((AV.binOk Go.BinOp.eql (AV.prj r4609 0) r6529) ∧
                ((AV.isBool (AV.bin Go.BinOp.eql (AV.prj r4609 1) (AV.int 0))) ∧
                ((isT (AV.bin Go.BinOp.eql (AV.prj r4609 1) (AV.int 0))) ∧
                ((AV.flat (AV.bin Go.BinOp.eql (AV.prj r4609 0) r6529)) ∧
                (fSame (AV.bin Go.BinOp.eql (AV.prj r4609 0) r6529) r))))))))))))))))) ∧
            ((isF (AV.bin Go.BinOp.eql r5441 (AV.int 0))) →
              ((AV.binOk Go.BinOp.neq r5441 (AV.int 0)) ∧
              ((AV.isBool (AV.bin Go.BinOp.neq r5441 (AV.int 0))) ∧
              ((isT (AV.bin Go.BinOp.neq r5441 (AV.int 0))) ∧
              ((AV.binOk Go.BinOp.eql (AV.prj r4609 1) r5441) ∧
              ((AV.isBool (AV.bin Go.BinOp.eql (AV.prj r4609 1) r5441)) ∧
              ((isT (AV.bin Go.BinOp.eql (AV.prj r4609 1) r5441)) ∧
              ((AV.binOk Go.BinOp.eql (AV.prj r4609 0) (AV.int 0)) ∧
              ((AV.isBool (AV.bin Go.BinOp.eql (AV.prj r4609 1) r5441)) ∧
              ((isT (AV.bin Go.BinOp.eql (AV.prj r4609 1) r5441)) ∧
              ((AV.flat (AV.bin Go.BinOp.eql (AV.prj r4609 0) (AV.int 0))) ∧
              (fSame (AV.bin Go.BinOp.eql (AV.prj r4609 0) (AV.int 0)) r)))))))))))))))))) ∧
          ((isF (AV.bin Go.BinOp.eql r5057 (AV.int 0))) →
            ((AV.binOk Go.BinOp.eql r5057 (AV.int 0)) ∧
            ((AV.isBool (AV.bin Go.BinOp.eql r5057 (AV.int 0))) ∧
            ((isF (AV.bin Go.BinOp.eql r5057 (AV.int 0))) ∧
            ((AV.binOk Go.BinOp.neq r5057 (AV.int 0)) ∧
            ((AV.isBool (AV.bin Go.BinOp.neq r5057 (AV.int 0))) ∧
            ((isT (AV.bin Go.BinOp.neq r5057 (AV.int 0))) ∧
            ((AV.binOk Go.BinOp.eql (AV.prj r4609 1) r5057) ∧
            ((AV.isBool (AV.bin Go.BinOp.eql (AV.prj r4609 1) r5057)) ∧
            ((isT (AV.bin Go.BinOp.eql (AV.prj r4609 1) r5057)) ∧
            ((AV.binOk Go.BinOp.eql (AV.prj r4609 0) (AV.int 0)) ∧
            ((AV.isBool (AV.bin Go.BinOp.eql (AV.prj r4609 1) r5057)) ∧
            ((isT (AV.bin Go.BinOp.eql (AV.prj r4609 1) r5057)) ∧
            ((AV.flat (AV.bin Go.BinOp.eql (AV.prj r4609 0) (AV.int 0))) ∧
            (fSame (AV.bin Go.BinOp.eql (AV.prj r4609 0) (AV.int 0)) r))))))))))))))))))))))))))))))))))))))))))))))))))))))))))))))))) ∧
((isF (AV.bin Go.BinOp.eql r833 (AV.int 0))) →
  ((AV.isBool (AV.bin Go.BinOp.eql r833 (AV.int 0))) ∧
  ((isF (AV.bin Go.BinOp.eql r833 (AV.int 0))) ∧
  ((AV.binOk Go.BinOp.eql r833 (AV.int 0)) ∧
  ((AV.isBool (AV.bin Go.BinOp.eql r833 (AV.int 0))) ∧
  ((isF (AV.bin Go.BinOp.eql r833 (AV.int 0))) ∧
  ((AV.binOk Go.BinOp.neq (AV.prj r385 1) r833) ∧
  ((AV.isBool (AV.bin Go.BinOp.neq (AV.prj r385 1) r833)) ∧
  ((isF (AV.bin Go.BinOp.neq (AV.prj r385 1) r833)) ∧
  ((AV.binOk Go.BinOp.neq (AV.prj r385 0) (AV.int 0)) ∧
  ((AV.isBool (AV.bin Go.BinOp.neq (AV.prj r385 1) r833)) ∧
  ((isF (AV.bin Go.BinOp.neq (AV.prj r385 1) r833)) ∧
  ((AV.isBool (AV.bin Go.BinOp.neq (AV.prj r385 0) (AV.int 0))) ∧
  ((isF (AV.bin Go.BinOp.neq (AV.prj r385 0) (AV.int 0))) ∧
  ((AV.isSl x0 4) ∧
  ((AV.binOk Go.BinOp.lss (AV.len x0) (AV.int 2)) ∧
  ((AV.isBool (AV.bin Go.BinOp.lss (AV.len x0) (AV.int 2))) ∧
  (((isT (AV.bin Go.BinOp.lss (AV.len x0) (AV.int 2))) →
    ((AV.flat (AV.bool true)) ∧
    (fSame (AV.bool true) r))) ∧
  ((isF (AV.bin Go.BinOp.lss (AV.len x0) (AV.int 2))) →
    ((AV.isSl x0 4) ∧
    ((AV.inb x0 (AV.int 0)) ∧
    ((AV.isSl x0 4) ∧
    ((AV.binOk Go.BinOp.sub (AV.len x0) (AV.int 1)) ∧
    ((AV.isSl x0 4) ∧
    ((AV.inb x0 (AV.bin Go.BinOp.sub (AV.len x0) (AV.int 1))) ∧
    ((AV.isAgg (AV.atAgg x0 (AV.int 0) 0 4) 4) ∧
    ((AV.isAgg (AV.atAgg x0 (AV.bin Go.BinOp.sub (AV.len x0) (AV.int 1)) 0 4) 4) ∧
    (∃ r4225 : AV, ((Fn Try.prog 21 [(AV.agg [(AV.cel x2 0), (AV.cel x2 1), (AV.cel x2 2), (AV.cel x2 3), (AV.cel x2 4), (AV.cel x2 5), (AV.cel x2 6), (AV.cel x2 7), (AV.cel x2 8), (AV.cel x2 9), (AV.cel x2 10), (AV.cel x2 11), (AV.cel x2 12), (AV.cel x2 13), (AV.cel x2 14), (AV.cel x2 15)]), (AV.agg [(AV.cel (AV.atAgg x0 (AV.int 0) 0 4) 0), (AV.cel (AV.atAgg x0 (AV.int 0) 0 4) 1), (AV.cel (AV.atAgg x0 (AV.int 0) 0 4) 2), (AV.cel (AV.atAgg x0 (AV.int 0) 0 4) 3)]), (AV.agg [(AV.cel (AV.atAgg x0 (AV.bin Go.BinOp.sub (AV.len x0) (AV.int 1)) 0 4) 0), (AV.cel (AV.atAgg x0 (AV.bin Go.BinOp.sub (AV.len x0) (AV.int 1)) 0 4) 1), (AV.cel (AV.atAgg x0 (AV.bin Go.BinOp.sub (AV.len x0) (AV.int 1)) 0 4) 2), (AV.cel (AV.atAgg x0 (AV.bin Go.BinOp.sub (AV.len x0) (AV.int 1)) 0 4) 3)])] (Sh.tup [Sh.sc, Sh.sc]) r4225) ∧
    (∃ r4673 : AV, ((Fn Try.prog 22 [(AV.agg [(AV.cel x2 0), (AV.cel x2 1), (AV.cel x2 2), (AV.cel x2 3), (AV.cel x2 4), (AV.cel x2 5), (AV.cel x2 6), (AV.cel x2 7), (AV.cel x2 8), (AV.cel x2 9), (AV.cel x2 10), (AV.cel x2 11), (AV.cel x2 12), (AV.cel x2 13), (AV.cel x2 14), (AV.cel x2 15)])] Sh.sc r4673) ∧
    ((AV.binOk Go.BinOp.eql r4673 (AV.int 0)) ∧
    ((AV.isBool (AV.bin Go.BinOp.eql r4673 (AV.int 0))) ∧
    (((isT (AV.bin Go.BinOp.eql r4673 (AV.int 0))) →
      (∃ r5057 : AV, ((Fn Try.prog 18 [(AV.mk 4 [[(AV.cel (AV.atAgg x0 (AV.int 0) 0 4) 0), (AV.cel (AV.atAgg x0 (AV.int 0) 0 4) 1), (AV.cel (AV.atAgg x0 (AV.int 0) 0 4) 2), (AV.cel (AV.atAgg x0 (AV.int 0) 0 4) 3)]])] Sh.sc r5057) ∧
      ((AV.binOk Go.BinOp.eql r5057 (AV.int 0)) ∧
      ((AV.isBool (AV.bin Go.BinOp.eql r5057 (AV.int 0))) ∧
      (((isT (AV.bin Go.BinOp.eql r5057 (AV.int 0))) →
        (∃ r5441 : AV, ((Fn Try.prog 18 [(AV.mk 4 [[(AV.cel (AV.atAgg x0 (AV.bin Go.BinOp.sub (AV.len x0) (AV.int 1)) 0 4) 0), (AV.cel (AV.atAgg x0 (AV.bin Go.BinOp.sub (AV.len x0) (AV.int 1)) 0 4) 1), (AV.cel (AV.atAgg x0 (AV.bin Go.BinOp.sub (AV.len x0) (AV.int 1)) 0 4) 2), (AV.cel (AV.atAgg x0 (AV.bin Go.BinOp.sub (AV.len x0) (AV.int 1)) 0 4) 3)]])] Sh.sc r5441) ∧
        ((AV.binOk Go.BinOp.neq r5441 (AV.int 0)) ∧
        ((AV.isBool (AV.bin Go.BinOp.neq r5441 (AV.int 0))) ∧
        (((isT (AV.bin Go.BinOp.neq r5441 (AV.int 0))) →
          ((AV.binOk Go.BinOp.eql (AV.prj r4225 1) r5441) ∧
          ((AV.isBool (AV.bin Go.BinOp.eql (AV.prj r4225 1) r5441)) ∧
          ((isT (AV.bin Go.BinOp.eql (AV.prj r4225 1) r5441)) ∧
          ((AV.binOk Go.BinOp.eql (AV.prj r4225 0) (AV.int 0)) ∧
          ((AV.isBool (AV.bin Go.BinOp.eql (AV.prj r4225 1) r5441)) ∧
          ((isT (AV.bin Go.BinOp.eql (AV.prj r4225 1) r5441)) ∧
          ((AV.flat (AV.bin Go.BinOp.eql (AV.prj r4225 0) (AV.int 0))) ∧
          (fSame (AV.bin Go.BinOp.eql (AV.prj r4225 0) (AV.int 0)) r))))))))) ∧
        ((isF (AV.bin Go.BinOp.neq r5441 (AV.int 0))) →
          ((AV.binOk Go.BinOp.eql (AV.prj r4225 1) (AV.int 0)) ∧
          ((AV.isBool (AV.bin Go.BinOp.eql (AV.prj r4225 1) (AV.int 0))) ∧
          ((isT (AV.bin Go.BinOp.eql (AV.prj r4225 1) (AV.int 0))) ∧
          (∃ r6145 : AV, ((Fn Try.prog 23 [(AV.agg [(AV.cel x2 0), (AV.cel x2 1), (AV.cel x2 2), (AV.cel x2 3), (AV.cel x2 4), (AV.cel x2 5), (AV.cel x2 6), (AV.cel x2 7), (AV.cel x2 8), (AV.cel x2 9), (AV.cel x2 10), (AV.cel x2 11), (AV.cel x2 12), (AV.cel x2 13), (AV.cel x2 14), (AV.cel x2 15)]), (AV.agg [(AV.cel (AV.atAgg x0 (AV.int 0) 0 4) 0), (AV.cel (AV.atAgg x0 (AV.int 0) 0 4) 1), (AV.cel (AV.atAgg x0 (AV.int 0) 0 4) 2), (AV.cel (AV.atAgg x0 (AV.int 0) 0 4) 3)]), (AV.agg [(AV.cel (AV.atAgg x0 (AV.bin Go.BinOp.sub (AV.len x0) (AV.int 1)) 0 4) 0), (AV.cel (AV.atAgg x0 (AV.bin Go.BinOp.sub (AV.len x0) (AV.int 1)) 0 4) 1), (AV.cel (AV.atAgg x0 (AV.bin Go.BinOp.sub (AV.len x0) (AV.int 1)) 0 4) 2), (AV.cel (AV.atAgg x0 (AV.bin Go.BinOp.sub (AV.len x0) (AV.int 1)) 0 4) 3)])] Sh.sc r6145) ∧
          ((AV.binOk Go.BinOp.eql (AV.prj r4225 0) r6145) ∧
          ((AV.isBool (AV.bin Go.BinOp.eql (AV.prj r4225 1) (AV.int 0))) ∧
          ((isT (AV.bin Go.BinOp.eql (AV.prj r4225 1) (AV.int 0))) ∧
          ((AV.flat (AV.bin Go.BinOp.eql (AV.prj r4225 0) r6145)) ∧
          (fSame (AV.bin Go.BinOp.eql (AV.prj r4225 0) r6145) r))))))))))))))))) ∧
      ((isF (AV.bin Go.BinOp.eql r5057 (AV.int 0))) →
        ((AV.binOk Go.BinOp.neq r5057 (AV.int 0)) ∧
        ((AV.isBool (AV.bin Go.BinOp.neq r5057 (AV.int 0))) ∧
        ((isT (AV.bin Go.BinOp.neq r5057 (AV.int 0))) ∧
        ((AV.binOk Go.BinOp.eql (AV.prj r4225 1) r5057) ∧
        ((AV.isBool (AV.bin Go.BinOp.eql (AV.prj r4225 1) r5057)) ∧
        ((isT (AV.bin Go.BinOp.eql (AV.prj r4225 1) r5057)) ∧
        ((AV.binOk Go.BinOp.eql (AV.prj r4225 0) (AV.int 0)) ∧
        ((AV.isBool (AV.bin Go.BinOp.eql (AV.prj r4225 1) r5057)) ∧
        ((isT (AV.bin Go.BinOp.eql (AV.prj r4225 1) r5057)) ∧
        ((AV.flat (AV.bin Go.BinOp.eql (AV.prj r4225 0) (AV.int 0))) ∧
        (fSame (AV.bin Go.BinOp.eql (AV.prj r4225 0) (AV.int 0)) r)))))))))))))))))) ∧
    ((isF (AV.bin Go.BinOp.eql r4673 (AV.int 0))) →
      ((AV.binOk Go.BinOp.eql r4673 (AV.int 0)) ∧
      ((AV.isBool (AV.bin Go.BinOp.eql r4673 (AV.int 0))) ∧
      ((isF (AV.bin Go.BinOp.eql r4673 (AV.int 0))) ∧
      ((AV.binOk Go.BinOp.neq r4673 (AV.int 0)) ∧
      ((AV.isBool (AV.bin Go.BinOp.neq r4673 (AV.int 0))) ∧
      ((isT (AV.bin Go.BinOp.neq r4673 (AV.int 0))) ∧
      ((AV.binOk Go.BinOp.eql (AV.prj r4225 1) r4673) ∧
      ((AV.isBool (AV.bin Go.BinOp.eql (AV.prj r4225 1) r4673)) ∧
      ((isT (AV.bin Go.BinOp.eql (AV.prj r4225 1) r4673)) ∧
      ((AV.binOk Go.BinOp.eql (AV.prj r4225 0) (AV.int 0)) ∧
      ((AV.isBool (AV.bin Go.BinOp.eql (AV.prj r4225 1) r4673)) ∧
      ((isT (AV.bin Go.BinOp.eql (AV.prj r4225 1) r4673)) ∧
      ((AV.flat (AV.bin Go.BinOp.eql (AV.prj r4225 0) (AV.int 0))) ∧
      (fSame (AV.bin Go.BinOp.eql (AV.prj r4225 0) (AV.int 0)) r))))))))))))))))))))))))))))))))))))))))))))))))))))))))))))))))))))))))))))) := by kernel_rfl
theorem safes_form (x0 x1 x2 r : AV) : fnF Try.prog Γ ann 3 4 Try.f4 (Try.f4.body.getD .skip) ((.f (.both (.t (.t .nil)) (.t (.t .nil))))) [x0, x1, x2] (.sc) r = (((AV.isAgg x2 16) ∧
(∃ r129 : AV, ((Fn Try.prog 14 [] Sh.sc r129) ∧
((AV.unOk Go.UnOp.not r129) ∧
((AV.isBool (AV.un Go.UnOp.not r129)) ∧
((isF (AV.un Go.UnOp.not r129)) ∧
(∃ r449 : AV, ((Fn Try.prog 24 [x0, x1, (AV.agg [(AV.cel x2 0), (AV.cel x2 1), (AV.cel x2 2), (AV.cel x2 3), (AV.cel x2 4), (AV.cel x2 5), (AV.cel x2 6), (AV.cel x2 7), (AV.cel x2 8), (AV.cel x2 9), (AV.cel x2 10), (AV.cel x2 11), (AV.cel x2 12), (AV.cel x2 13), (AV.cel x2 14), (AV.cel x2 15)])] (Sh.tup [Sh.sc, Sh.sc, Sh.sc]) r449) ∧
(∃ r1153 : AV, ((Fn Try.prog 25 [x0, x1, (AV.agg [(AV.cel x2 0), (AV.cel x2 1), (AV.cel x2 2), (AV.cel x2 3), (AV.cel x2 4), (AV.cel x2 5), (AV.cel x2 6), (AV.cel x2 7), (AV.cel x2 8), (AV.cel x2 9), (AV.cel x2 10), (AV.cel x2 11), (AV.cel x2 12), (AV.cel x2 13), (AV.cel x2 14), (AV.cel x2 15)])] Sh.sc r1153) ∧
((AV.binOk Go.BinOp.neq r1153 (AV.int 0)) ∧
((AV.isBool (AV.bin Go.BinOp.neq r1153 (AV.int 0))) ∧
(((isT (AV.bin Go.BinOp.neq r1153 (AV.int 0))) →
  ((AV.binOk Go.BinOp.eql (AV.prj r449 2) r1153) ∧
  ((AV.isBool (AV.bin Go.BinOp.eql (AV.prj r449 2) r1153)) ∧
  ((isT (AV.bin Go.BinOp.eql (AV.prj r449 2) r1153)) ∧
  ((AV.binOk Go.BinOp.eql (AV.prj r449 0) (AV.int 0)) ∧
  ((AV.isBool (AV.bin Go.BinOp.eql (AV.prj r449 2) r1153)) ∧
  ((isT (AV.bin Go.BinOp.eql (AV.prj r449 2) r1153)) ∧
  ((AV.isBool (AV.bin Go.BinOp.eql (AV.prj r449 0) (AV.int 0))) ∧
  ((isT (AV.bin Go.BinOp.eql (AV.prj r449 0) (AV.int 0))) ∧
  ((AV.binOk Go.BinOp.eql (AV.prj r449 1) (AV.int 0)) ∧
  ((AV.isBool (AV.bin Go.BinOp.eql (AV.prj r449 0) (AV.int 0))) ∧
  ((isT (AV.bin Go.BinOp.eql (AV.prj r449 0) (AV.int 0))) ∧
  ((AV.flat (AV.bin Go.BinOp.eql (AV.prj r449 1) (AV.int 0))) ∧
  (fSame (AV.bin Go.BinOp.eql (AV.prj r449 1) (AV.int 0)) r)))))))))))))) ∧
((isF (AV.bin Go.BinOp.neq r1153 (AV.int 0))) →
  (∃ r1601 : AV, ((Fn Try.prog 26 [x0, x1, (AV.agg [(AV.cel x2 0), (AV.cel x2 1), (AV.cel x2 2), (AV.cel x2 3), (AV.cel x2 4), (AV.cel x2 5), (AV.cel x2 6), (AV.cel x2 7), (AV.cel x2 8), (AV.cel x2 9), (AV.cel x2 10), (AV.cel x2 11), (AV.cel x2 12), (AV.cel x2 13), (AV.cel x2 14), (AV.cel x2 15)])] (Sh.tup [Sh.sc, Sh.sc, Sh.sc]) r1601) ∧
  ((AV.binOk Go.BinOp.eql (AV.prj r449 2) (AV.prj r1601 2)) ∧
  ((AV.isBool (AV.bin Go.BinOp.eql (AV.prj r449 2) (AV.prj r1601 2))) ∧
  ((isT (AV.bin Go.BinOp.eql (AV.prj r449 2) (AV.prj r1601 2))) ∧
  ((AV.binOk Go.BinOp.eql (AV.prj r449 0) (AV.prj r1601 0)) ∧
  ((AV.isBool (AV.bin Go.BinOp.eql (AV.prj r449 2) (AV.prj r1601 2))) ∧
  ((isT (AV.bin Go.BinOp.eql (AV.prj r449 2) (AV.prj r1601 2))) ∧
  ((AV.isBool (AV.bin Go.BinOp.eql (AV.prj r449 0) (AV.prj r1601 0))) ∧
  ((isT (AV.bin Go.BinOp.eql (AV.prj r449 0) (AV.prj r1601 0))) ∧
  ((AV.binOk Go.BinOp.eql (AV.prj r449 1) (AV.prj r1601 1)) ∧
  ((AV.isBool (AV.bin Go.BinOp.eql (AV.prj r449 0) (AV.prj r1601 0))) ∧
  ((isT (AV.bin Go.BinOp.eql (AV.prj r449 0) (AV.prj r1601 0))) ∧
  ((AV.flat (AV.bin Go.BinOp.eql (AV.prj r449 1) (AV.prj r1601 1))) ∧
  (fSame (AV.bin Go.BinOp.eql (AV.prj r449 1) (AV.prj r1601 1)) r)))))))))))))))))))))))))))))) := by kernel_rfl
theorem inserts_form (x0 x1 x2 x3 r : AV) : fnF Try.prog Γ ann 3 5 Try.f5 (Try.f5.body.getD .skip) ((.f (.both (.both (.both (.both (.both (.both .nil (.both .nil (.both .nil (.both (.both .nil (.t .nil)) (.f .nil))))) (.t (.t .nil))) (.both (.t .nil) (.t .nil))) (.both (.both (.both .nil (.both .nil (.both .nil (.both (.both .nil (.t .nil)) (.f .nil))))) (.t (.t .nil))) (.both (.t .nil) (.t .nil)))) (.both (.both (.both .nil (.both .nil (.both .nil (.both (.both .nil (.t .nil)) (.f .nil))))) (.t (.t .nil))) (.both (.t .nil) (.t .nil)))) (.f (.both (.both (.both .nil (.both .nil (.both .nil (.both (.both .nil (.t .nil)) (.f .nil))))) (.t (.t .nil))) (.both (.t .nil) (.t .nil))))))) [x0, x1, x2, x3] (.sc) r = (((AV.isAgg x2 16) ∧
(∃ r129 : AV, ((Fn Try.prog 14 [] Sh.sc r129) ∧
((AV.unOk Go.UnOp.not r129) ∧
((AV.isBool (AV.un Go.UnOp.not r129)) ∧
((isF (AV.un Go.UnOp.not r129)) ∧
(∃ r513 : AV, ((Fn Try.prog 27 [x0, x1, (AV.agg [(AV.cel x2 0), (AV.cel x2 1), (AV.cel x2 2), (AV.cel x2 3), (AV.cel x2 4), (AV.cel x2 5), (AV.cel x2 6), (AV.cel x2 7), (AV.cel x2 8), (AV.cel x2 9), (AV.cel x2 10), (AV.cel x2 11), (AV.cel x2 12), (AV.cel x2 13), (AV.cel x2 14), (AV.cel x2 15)]), x3] (Sh.tup [(Sh.row 35 4 true), Sh.sc]) r513) ∧
(∃ r1089 : AV, ((Fn Try.prog 25 [x0, x1, (AV.agg [(AV.cel x2 0), (AV.cel x2 1), (AV.cel x2 2), (AV.cel x2 3), (AV.cel x2 4), (AV.cel x2 5), (AV.cel x2 6), (AV.cel x2 7), (AV.cel x2 8), (AV.cel x2 9), (AV.cel x2 10), (AV.cel x2 11), (AV.cel x2 12), (AV.cel x2 13), (AV.cel x2 14), (AV.cel x2 15)])] Sh.sc r1089) ∧
((AV.binOk Go.BinOp.eql r1089 (AV.int 0)) ∧
((AV.isBool (AV.bin Go.BinOp.eql r1089 (AV.int 0))) ∧
(((isT (AV.bin Go.BinOp.eql r1089 (AV.int 0))) →
  (∃ r1537 : AV, ((Fn Try.prog 26 [x0, x1, (AV.agg [(AV.cel x2 0), (AV.cel x2 1), (AV.cel x2 2), (AV.cel x2 3), (AV.cel x2 4), (AV.cel x2 5), (AV.cel x2 6), (AV.cel x2 7), (AV.cel x2 8), (AV.cel x2 9), (AV.cel x2 10), (AV.cel x2 11), (AV.cel x2 12), (AV.cel x2 13), (AV.cel x2 14), (AV.cel x2 15)])] (Sh.tup [Sh.sc, Sh.sc, Sh.sc]) r1537) ∧
  ((AV.binOk Go.BinOp.eql (AV.prj r1537 2) (AV.int 0)) ∧
  ((AV.isBool (AV.bin Go.BinOp.eql (AV.prj r1537 2) (AV.int 0))) ∧
  (((isT (AV.bin Go.BinOp.eql (AV.prj r1537 2) (AV.int 0))) →
    ((AV.isSl x0 4) ∧
    ((AV.isSl x3 2) ∧
    ((AV.binOk Go.BinOp.add (AV.len x0) (AV.len x3)) ∧
    ((AV.binOk Go.BinOp.gtr (AV.bin Go.BinOp.add (AV.len x0) (AV.len x3)) (AV.int 24)) ∧
    ((AV.isBool (AV.bin Go.BinOp.eql (AV.prj r1537 2) (AV.int 0))) ∧
    ((isT (AV.bin Go.BinOp.eql (AV.prj r1537 2) (AV.int 0))) ∧
    ((AV.isBool (AV.bin Go.BinOp.gtr (AV.bin Go.BinOp.add (AV.len x0) (AV.len x3)) (AV.int 24))) ∧
    (((isT (AV.bin Go.BinOp.gtr (AV.bin Go.BinOp.add (AV.len x0) (AV.len x3)) (AV.int 24))) →
      (∃ r2689 : AV, ((Fn Try.prog 28 [x0] (Sh.row 35 4 true) r2689) ∧
      (fLoop 2881 [(AV.int 2), (AV.int 0), r2689] fun ys2881 again2881 =>
        ((AV.isSl x3 2) ∧
        ((AV.binOk Go.BinOp.lss (ys2881.getD 1 default) (AV.len x3)) ∧
        ((AV.isBool (AV.bin Go.BinOp.lss (ys2881.getD 1 default) (AV.len x3))) ∧
        (((isT (AV.bin Go.BinOp.lss (ys2881.getD 1 default) (AV.len x3))) →
          ((AV.binOk Go.BinOp.eql (ys2881.getD 0 default) (AV.int 0)) ∧
          ((AV.isBool (AV.bin Go.BinOp.lss (ys2881.getD 1 default) (AV.len x3))) ∧
          ((isT (AV.bin Go.BinOp.lss (ys2881.getD 1 default) (AV.len x3))) ∧
          ((AV.isBool (AV.bin Go.BinOp.eql (ys2881.getD 0 default) (AV.int 0))) ∧
          (((isT (AV.bin Go.BinOp.eql (ys2881.getD 0 default) (AV.int 0))) →
            ((AV.isSl x3 2) ∧
            ((AV.inb x3 (ys2881.getD 1 default)) ∧
            ((AV.binOk Go.BinOp.lss (AV.at x3 (ys2881.getD 1 default) 0) (AV.int 0)) ∧
            ((AV.isBool (AV.bin Go.BinOp.lss (AV.at x3 (ys2881.getD 1 default) 0) (AV.int 0))) ∧
            (((isT (AV.bin Go.BinOp.lss (AV.at x3 (ys2881.getD 1 default) 0) (AV.int 0))) →
              ((AV.isBool (AV.bin Go.BinOp.lss (AV.at x3 (ys2881.getD 1 default) 0) (AV.int 0))) ∧
              ((isT (AV.bin Go.BinOp.lss (AV.at x3 (ys2881.getD 1 default) 0) (AV.int 0))) ∧
              ((AV.binOk Go.BinOp.add (ys2881.getD 1 default) (AV.int 1)) ∧
              (again2881 [(AV.int 12), (AV.bin Go.BinOp.add (ys2881.getD 1 default) (AV.int 1)), (ys2881.getD 2 default)]))))) ∧
            ((isF (AV.bin Go.BinOp.lss (AV.at x3 (ys2881.getD 1 default) 0) (AV.int 0))) →
              ((AV.isSl x3 2) ∧
              ((AV.inb x3 (ys2881.getD 1 default)) ∧
              ((AV.binOk Go.BinOp.gtr (AV.at x3 (ys2881.getD 1 default) 0) (AV.int 200000)) ∧
              ((AV.isBool (AV.bin Go.BinOp.lss (AV.at x3 (ys2881.getD 1 default) 0) (AV.int 0))) ∧
              ((isF (AV.bin Go.BinOp.lss (AV.at x3 (ys2881.getD 1 default) 0) (AV.int 0))) ∧
              ((AV.isBool (AV.bin Go.BinOp.gtr (AV.at x3 (ys2881.getD 1 default) 0) (AV.int 200000))) ∧
              (((isT (AV.bin Go.BinOp.gtr (AV.at x3 (ys2881.getD 1 default) 0) (AV.int 200000))) →
                ((AV.binOk Go.BinOp.add (ys2881.getD 1 default) (AV.int 1)) ∧
                (again2881 [(AV.int 12), (AV.bin Go.BinOp.add (ys2881.getD 1 default) (AV.int 1)), (ys2881.getD 2 default)]))) ∧
              ((isF (AV.bin Go.BinOp.gtr (AV.at x3 (ys2881.getD 1 default) 0) (AV.int 200000))) →
                ((AV.isSl x3 2) ∧
                ((AV.inb x3 (ys2881.getD 1 default)) ∧
                ((AV.isOne (AV.at x3 (ys2881.getD 1 default) 1)) ∧
                (∃ r4673 : AV, ((Fn Try.prog 29 [(AV.mk 1 [[(AV.at x3 (ys2881.getD 1 default) 1)]])] Sh.sc r4673) ∧
                ((AV.binOk Go.BinOp.neq r4673 (AV.int 0)) ∧
                ((AV.isBool (AV.bin Go.BinOp.neq r4673 (AV.int 0))) ∧
                (((isT (AV.bin Go.BinOp.neq r4673 (AV.int 0))) →
                  ((AV.binOk Go.BinOp.add (ys2881.getD 1 default) (AV.int 1)) ∧
                  (again2881 [r4673, (AV.bin Go.BinOp.add (ys2881.getD 1 default) (AV.int 1)), (ys2881.getD 2 default)]))) ∧
                ((isF (AV.bin Go.BinOp.neq r4673 (AV.int 0))) →
                  ((AV.isSl x3 2) ∧
                  ((AV.inb x3 (ys2881.getD 1 default)) ∧
                  ((AV.isSl x3 2) ∧
                  ((AV.inb x3 (ys2881.getD 1 default)) ∧
                  ((AV.binOk Go.BinOp.add (AV.at x3 (ys2881.getD 1 default) 0) (AV.int 3000)) ∧
                  ((AV.isInt (AV.int 200000)) ∧
                  ((AV.isInt (AV.bin Go.BinOp.add (AV.at x3 (ys2881.getD 1 default) 0) (AV.int 3000))) ∧
                  (∃ r5825 : AV, ((Fn Try.prog 30 [(ys2881.getD 2 default), x1, (AV.agg [(AV.cel x2 0), (AV.cel x2 1), (AV.cel x2 2), (AV.cel x2 3), (AV.cel x2 4), (AV.cel x2 5), (AV.cel x2 6), (AV.cel x2 7), (AV.cel x2 8), (AV.cel x2 9), (AV.cel x2 10), (AV.cel x2 11), (AV.cel x2 12), (AV.cel x2 13), (AV.cel x2 14), (AV.cel x2 15)]), (AV.atAgg x3 (ys2881.getD 1 default) 0 2), (AV.mn (AV.int 200000) (AV.bin Go.BinOp.add (AV.at x3 (ys2881.getD 1 default) 0) (AV.int 3000)))] (Sh.tup [Sh.sc, Sh.sc]) r5825) ∧
                  ((AV.isAgg (AV.prj r5825 0) 4) ∧
                  ((AV.unOk Go.UnOp.not (AV.prj r5825 1)) ∧
                  ((AV.isBool (AV.un Go.UnOp.not (AV.prj r5825 1))) ∧
                  (((isT (AV.un Go.UnOp.not (AV.prj r5825 1))) →
                    ((AV.isSl x3 2) ∧
                    ((AV.inb x3 (ys2881.getD 1 default)) ∧
                    ((AV.binOk Go.BinOp.lss (AV.at x3 (ys2881.getD 1 default) 0) (AV.int 197000)) ∧
                    ((AV.isBool (AV.un Go.UnOp.not (AV.prj r5825 1))) ∧
                    ((isT (AV.un Go.UnOp.not (AV.prj r5825 1))) ∧
                    ((AV.isBool (AV.bin Go.BinOp.lss (AV.at x3 (ys2881.getD 1 default) 0) (AV.int 197000))) ∧
                    (((isT (AV.bin Go.BinOp.lss (AV.at x3 (ys2881.getD 1 default) 0) (AV.int 197000))) →
                      ((AV.flat (AV.bool true)) ∧
                      (fSame (AV.bool true) r))) ∧
                    ((isF (AV.bin Go.BinOp.lss (AV.at x3 (ys2881.getD 1 default) 0) (AV.int 197000))) →
                      ((AV.unOk Go.UnOp.not (AV.prj r5825 1)) ∧
                      ((AV.isBool (AV.un Go.UnOp.not (AV.prj r5825 1))) ∧
                      ((isT (AV.un Go.UnOp.not (AV.prj r5825 1))) ∧
                      ((AV.binOk Go.BinOp.add (ys2881.getD 1 default) (AV.int 1)) ∧
                      (again2881 [(AV.int 8), (AV.bin Go.BinOp.add (ys2881.getD 1 default) (AV.int 1)), (ys2881.getD 2 default)])))))))))))))) ∧
                  ((isF (AV.un Go.UnOp.not (AV.prj r5825 1))) →
                    ((AV.isBool (AV.un Go.UnOp.not (AV.prj r5825 1))) ∧
                    ((isF (AV.un Go.UnOp.not (AV.prj r5825 1))) ∧
                    ((AV.unOk Go.UnOp.not (AV.prj r5825 1)) ∧
                    ((AV.isBool (AV.un Go.UnOp.not (AV.prj r5825 1))) ∧
                    ((isF (AV.un Go.UnOp.not (AV.prj r5825 1))) ∧
                    (fLoop 7105 [(AV.int 0)] fun ys7105 again7105 =>
                      ((AV.binOk Go.BinOp.lss (ys7105.getD 0 default) (AV.len (ys2881.getD 2 default))) ∧
                      ((AV.isBool (AV.bin Go.BinOp.lss (ys7105.getD 0 default) (AV.len (ys2881.getD 2 default)))) ∧
                      (((isT (AV.bin Go.BinOp.lss (ys7105.getD 0 default) (AV.len (ys2881.getD 2 default)))) →
                        ((AV.inb (ys2881.getD 2 default) (ys7105.getD 0 default)) ∧
                        ((AV.inb (ys2881.getD 2 default) (ys7105.getD 0 default)) ∧
                        ((AV.binOk Go.BinOp.lss (AV.at (ys2881.getD 2 default) (ys7105.getD 0 default) 0) (AV.cel (AV.prj r5825 0) 0)) ∧
                        ((AV.isBool (AV.bin Go.BinOp.lss (ys7105.getD 0 default) (AV.len (ys2881.getD 2 default)))) ∧
                        ((isT (AV.bin Go.BinOp.lss (ys7105.getD 0 default) (AV.len (ys2881.getD 2 default)))) ∧
                        ((AV.isBool (AV.bin Go.BinOp.lss (AV.at (ys2881.getD 2 default) (ys7105.getD 0 default) 0) (AV.cel (AV.prj r5825 0) 0))) ∧
                        (((isT (AV.bin Go.BinOp.lss (AV.at (ys2881.getD 2 default) (ys7105.getD 0 default) 0) (AV.cel (AV.prj r5825 0) 0))) →
                          ((AV.binOk Go.BinOp.add (ys7105.getD 0 default) (AV.int 1)) ∧
                          (again7105 [(AV.bin Go.BinOp.add (ys7105.getD 0 default) (AV.int 1))]))) ∧
                        ((isF (AV.bin Go.BinOp.lss (AV.at (ys2881.getD 2 default) (ys7105.getD 0 default) 0) (AV.cel (AV.prj r5825 0) 0))) →
                          (∃ r8257 : AV, ((FnU Try.prog 31 35 4 (ys2881.getD 2 default) [(ys7105.getD 0 default), (AV.mk 4 [[(AV.cel (AV.prj r5825 0) 0), (AV.cel (AV.prj r5825 0) 1), (AV.cel (AV.prj r5825 0) 2), (AV.cel (AV.prj r5825 0) 3)]])] true r8257) ∧
                          ((AV.binOk Go.BinOp.add (ys2881.getD 1 default) (AV.int 1)) ∧
                          (again2881 [r4673, (AV.bin Go.BinOp.add (ys2881.getD 1 default) (AV.int 1)), r8257]))))))))))))) ∧
                      ((isF (AV.bin Go.BinOp.lss (ys7105.getD 0 default) (AV.len (ys2881.getD 2 default)))) →
                        ((AV.isBool (AV.bin Go.BinOp.lss (ys7105.getD 0 default) (AV.len (ys2881.getD 2 default)))) ∧
                        ((isF (AV.bin Go.BinOp.lss (ys7105.getD 0 default) (AV.len (ys2881.getD 2 default)))) ∧
                        (∃ r8257 : AV, ((FnU Try.prog 31 35 4 (ys2881.getD 2 default) [(ys7105.getD 0 default), (AV.mk 4 [[(AV.cel (AV.prj r5825 0) 0), (AV.cel (AV.prj r5825 0) 1), (AV.cel (AV.prj r5825 0) 2), (AV.cel (AV.prj r5825 0) 3)]])] true r8257) ∧
                        ((AV.binOk Go.BinOp.add (ys2881.getD 1 default) (AV.int 1)) ∧
                        (again2881 [r4673, (AV.bin Go.BinOp.add (ys2881.getD 1 default) (AV.int 1)), r8257])))))))))))))))))))))))))))))))))))))))))))))))))))))) ∧
          ((isF (AV.bin Go.BinOp.eql (ys2881.getD 0 default) (AV.int 0))) →
            ((AV.binOk Go.BinOp.neq (ys2881.getD 0 default) (AV.int 0)) ∧
            ((AV.isBool (AV.bin Go.BinOp.neq (ys2881.getD 0 default) (AV.int 0))) ∧
            ((isT (AV.bin Go.BinOp.neq (ys2881.getD 0 default) (AV.int 0))) ∧
            ((AV.binOk Go.BinOp.eql (AV.prj r513 1) (ys2881.getD 0 default)) ∧
            ((AV.isBool (AV.bin Go.BinOp.eql (AV.prj r513 1) (ys2881.getD 0 default))) ∧
            ((isT (AV.bin Go.BinOp.eql (AV.prj r513 1) (ys2881.getD 0 default))) ∧
            ((AV.binOk Go.BinOp.eql (AV.len (AV.prj r513 0)) (AV.int 0)) ∧
            ((AV.isBool (AV.bin Go.BinOp.eql (AV.prj r513 1) (ys2881.getD 0 default))) ∧
            ((isT (AV.bin Go.BinOp.eql (AV.prj r513 1) (ys2881.getD 0 default))) ∧
            ((AV.flat (AV.bin Go.BinOp.eql (AV.len (AV.prj r513 0)) (AV.int 0))) ∧
            (fSame (AV.bin Go.BinOp.eql (AV.len (AV.prj r513 0)) (AV.int 0)) r)))))))))))))))))) ∧
        ((isF (AV.bin Go.BinOp.lss (ys2881.getD 1 default) (AV.len x3))) →
          ((AV.isBool (AV.bin Go.BinOp.lss (ys2881.getD 1 default) (AV.len x3))) ∧
          ((isF (AV.bin Go.BinOp.lss (ys2881.getD 1 default) (AV.len x3))) ∧
          ((AV.binOk Go.BinOp.neq (ys2881.getD 0 default) (AV.int 0)) ∧
          ((AV.isBool (AV.bin Go.BinOp.neq (ys2881.getD 0 default) (AV.int 0))) ∧
          (((isT (AV.bin Go.BinOp.neq (ys2881.getD 0 default) (AV.int 0))) →
            ((AV.binOk Go.BinOp.eql (AV.prj r513 1) (ys2881.getD 0 default)) ∧
            ((AV.isBool (AV.bin Go.BinOp.eql (AV.prj r513 1) (ys2881.getD 0 default))) ∧
            ((isT (AV.bin Go.BinOp.eql (AV.prj r513 1) (ys2881.getD 0 default))) ∧
            ((AV.binOk Go.BinOp.eql (AV.len (AV.prj r513 0)) (AV.int 0)) ∧
            ((AV.isBool (AV.bin Go.BinOp.eql (AV.prj r513 1) (ys2881.getD 0 default))) ∧
            ((isT (AV.bin Go.BinOp.eql (AV.prj r513 1) (ys2881.getD 0 default))) ∧
            ((AV.flat (AV.bin Go.BinOp.eql (AV.len (AV.prj r513 0)) (AV.int 0))) ∧
            (fSame (AV.bin Go.BinOp.eql (AV.len (AV.prj r513 0)) (AV.int 0)) r))))))))) ∧
          ((isF (AV.bin Go.BinOp.neq (ys2881.getD 0 default) (AV.int 0))) →
            ((AV.binOk Go.BinOp.eql (AV.prj r513 1) (AV.int 0)) ∧
            ((AV.isBool (AV.bin Go.BinOp.eql (AV.prj r513 1) (AV.int 0))) ∧
            ((isT (AV.bin Go.BinOp.eql (AV.prj r513 1) (AV.int 0))) ∧
            (∃ r3841 : AV, ((Fn Try.prog 32 [(AV.prj r513 0), (ys2881.getD 2 default)] Sh.sc r3841) ∧
            ((AV.isBool (AV.bin Go.BinOp.eql (AV.prj r513 1) (AV.int 0))) ∧
            ((isT (AV.bin Go.BinOp.eql (AV.prj r513 1) (AV.int 0))) ∧
            ((AV.flat r3841) ∧
            (fSame r3841 r)))))))))))))))))))))))) ∧
    ((isF (AV.bin Go.BinOp.gtr (AV.bin Go.BinOp.add (AV.len x0) (AV.len x3)) (AV.int 24))) →
      (∃ r2625 : AV, ((Fn Try.prog 28 [x0] (Sh.row 35 4 true) r2625) ∧
      (fLoop 2817 [(AV.prj r1537 2), (AV.int 0), r2625] fun ys2817 again2817 =>
        ((AV.isSl x3 2) ∧
        ((AV.binOk Go.BinOp.lss (ys2817.getD 1 default) (AV.len x3)) ∧
        ((AV.isBool (AV.bin Go.BinOp.lss (ys2817.getD 1 default) (AV.len x3))) ∧
        (((isT (AV.bin Go.BinOp.lss (ys2817.getD 1 default) (AV.len x3))) →
          ((AV.binOk Go.BinOp.eql (ys2817.getD 0 default) (AV.int 0)) ∧
          ((AV.isBool (AV.bin Go.BinOp.lss (ys2817.getD 1 default) (AV.len x3))) ∧
          ((isT (AV.bin Go.BinOp.lss (ys2817.getD 1 default) (AV.len x3))) ∧
          ((AV.isBool (AV.bin Go.BinOp.eql (ys2817.getD 0 default) (AV.int 0))) ∧
          (((isT (AV.bin Go.BinOp.eql (ys2817.getD 0 default) (AV.int 0))) →
            ((AV.isSl x3 2) ∧
            ((AV.inb x3 (ys2817.getD 1 default)) ∧
            ((AV.binOk Go.BinOp.lss (AV.at x3 (ys2817.getD 1 default) 0) (AV.int 0)) ∧
            ((AV.isBool (AV.bin Go.BinOp.lss (AV.at x3 (ys2817.getD 1 default) 0) (AV.int 0))) ∧
            (((isT (AV.bin Go.BinOp.lss (AV.at x3 (ys2817.getD 1 default) 0) (AV.int 0))) →
              ((AV.isBool (AV.bin Go.BinOp.lss (AV.at x3 (ys2817.getD 1 default) 0) (AV.int 0))) ∧
              ((isT (AV.bin Go.BinOp.lss (AV.at x3 (ys2817.getD 1 default) 0) (AV.int 0))) ∧
              ((AV.binOk Go.BinOp.add (ys2817.getD 1 default) (AV.int 1)) ∧
              (again2817 [(AV.int 12), (AV.bin Go.BinOp.add (ys2817.getD 1 default) (AV.int 1)), (ys2817.getD 2 default)]))))) ∧
            ((isF (AV.bin Go.BinOp.lss (AV.at x3 (ys2817.getD 1 default) 0) (AV.int 0))) →
              ((AV.isSl x3 2) ∧
              ((AV.inb x3 (ys2817.getD 1 default)) ∧
              ((AV.binOk Go.BinOp.gtr (AV.at x3 (ys2817.getD 1 default) 0) (AV.int 200000)) ∧
              ((AV.isBool (AV.bin Go.BinOp.lss (AV.at x3 (ys2817.getD 1 default) 0) (AV.int 0))) ∧
              ((isF (AV.bin Go.BinOp.lss (AV.at x3 (ys2817.getD 1 default) 0) (AV.int 0))) ∧
              ((AV.isBool (AV.bin Go.BinOp.gtr (AV.at x3 (ys2817.getD 1 default) 0) (AV.int 200000))) ∧
              (((isT (AV.bin Go.BinOp.gtr (AV.at x3 (ys2817.getD 1 default) 0) (AV.int 200000))) →
                ((AV.binOk Go.BinOp.add (ys2817.getD 1 default) (AV.int 1)) ∧
                (again2817 [(AV.int 12), (AV.bin Go.BinOp.add (ys2817.getD 1 default) (AV.int 1)), (ys2817.getD 2 default)]))) ∧
              ((isF (AV.bin Go.BinOp.gtr (AV.at x3 (ys2817.getD 1 default) 0) (AV.int 200000))) →
                ((AV.isSl x3 2) ∧
                ((AV.inb x3 (ys2817.getD 1 default)) ∧
                ((AV.isOne (AV.at x3 (ys2817.getD 1 default) 1)) ∧
                (∃ r4609 : AV, ((Fn Try.prog 29 [(AV.mk 1 [[(AV.at x3 (ys2817.getD 1 default) 1)]])] Sh.sc r4609) ∧
                ((AV.binOk Go.BinOp.neq r4609 (AV.int 0)) ∧
                ((AV.isBool (AV.bin Go.BinOp.neq r4609 (AV.int 0))) ∧
                (((isT (AV.bin Go.BinOp.neq r4609 (AV.int 0))) →
                  ((AV.binOk Go.BinOp.add (ys2817.getD 1 default) (AV.int 1)) ∧
                  (again2817 [r4609, (AV.bin Go.BinOp.add (ys2817.getD 1 default) (AV.int 1)), (ys2817.getD 2 default)]))) ∧
                ((isF (AV.bin Go.BinOp.neq r4609 (AV.int 0))) →
                  ((AV.isSl x3 2) ∧
                  ((AV.inb x3 (ys2817.getD 1 default)) ∧
                  ((AV.isSl x3 2) ∧
                  ((AV.inb x3 (ys2817.getD 1 default)) ∧
                  ((AV.binOk Go.BinOp.add (AV.at x3 (ys2817.getD 1 default) 0) (AV.int 3000)) ∧
                  ((AV.isInt (AV.int 200000)) ∧
                  ((AV.isInt (AV.bin Go.BinOp.add (AV.at x3 (ys2817.getD 1 default) 0) (AV.int 3000))) ∧
                  (∃ r5761 : AV, ((Fn Try.prog 30 [(ys2817.getD 2 default), x1, (AV.agg [(AV.cel x2 0), (AV.cel x2 1), (AV.cel x2 2), (AV.cel x2 3), (AV.cel x2 4), (AV.cel x2 5), (AV.cel x2 6), (AV.cel x2 7), (AV.cel x2 8), (AV.cel x2 9), (AV.cel x2 10), (AV.cel x2 11), (AV.cel x2 12), (AV.cel x2 13), (AV.cel x2 14), (AV.cel x2 15)]), (AV.atAgg x3 (ys2817.getD 1 default) 0 2), (AV.mn (AV.int 200000) (AV.bin Go.BinOp.add (AV.at x3 (ys2817.getD 1 default) 0) (AV.int 3000)))] (Sh.tup [Sh.sc, Sh.sc]) r5761) ∧
                  ((AV.isAgg (AV.prj r5761 0) 4) ∧
                  ((AV.unOk Go.UnOp.not (AV.prj r5761 1)) ∧
                  ((AV.isBool (AV.un Go.UnOp.not (AV.prj r5761 1))) ∧
                  (((isT (AV.un Go.UnOp.not (AV.prj r5761 1))) →
                    ((AV.isSl x3 2) ∧
                    ((AV.inb x3 (ys2817.getD 1 default)) ∧
                    ((AV.binOk Go.BinOp.lss (AV.at x3 (ys2817.getD 1 default) 0) (AV.int 197000)) ∧
                    ((AV.isBool (AV.un Go.UnOp.not (AV.prj r5761 1))) ∧
                    ((isT (AV.un Go.UnOp.not (AV.prj r5761 1))) ∧
                    ((AV.isBool (AV.bin Go.BinOp.lss (AV.at x3 (ys2817.getD 1 default) 0) (AV.int 197000))) ∧
                    (((isT (AV.bin Go.BinOp.lss (AV.at x3 (ys2817.getD 1 default) 0) (AV.int 197000))) →
                      ((AV.flat (AV.bool true)) ∧
                      (fSame (AV.bool true) r))) ∧
                    ((isF (AV.bin Go.BinOp.lss (AV.at x3 (ys2817.getD 1 default) 0) (AV.int 197000))) →
                      ((AV.unOk Go.UnOp.not (AV.prj r5761 1)) ∧
                      ((AV.isBool (AV.un Go.UnOp.not (AV.prj r5761 1))) ∧
                      ((isT (AV.un Go.UnOp.not (AV.prj r5761 1))) ∧
                      ((AV.binOk Go.BinOp.add (ys2817.getD 1 default) (AV.int 1)) ∧
                      (again2817 [(AV.int 8), (AV.bin Go.BinOp.add (ys2817.getD 1 default) (AV.int 1)), (ys2817.getD 2 default)])))))))))))))) ∧
                  ((isF (AV.un Go.UnOp.not (AV.prj r5761 1))) →
                    ((AV.isBool (AV.un Go.UnOp.not (AV.prj r5761 1))) ∧
                    ((isF (AV.un Go.UnOp.not (AV.prj r5761 1))) ∧
                    ((AV.unOk Go.UnOp.not (AV.prj r5761 1)) ∧
                    ((AV.isBool (AV.un Go.UnOp.not (AV.prj r5761 1))) ∧
                    ((isF (AV.un Go.UnOp.not (AV.prj r5761 1))) ∧
                    (fLoop 7041 [(AV.int 0)] fun ys7041 again7041 =>
                      ((AV.binOk Go.BinOp.lss (ys7041.getD 0 default) (AV.len (ys2817.getD 2 default))) ∧
                      ((AV.isBool (AV.bin Go.BinOp.lss (ys7041.getD 0 default) (AV.len (ys2817.getD 2 default)))) ∧
                      (((isT (AV.bin Go.BinOp.lss (ys7041.getD 0 default) (AV.len (ys2817.getD 2 default)))) →
                        ((AV.inb (ys2817.getD 2 default) (ys7041.getD 0 default)) ∧
                        ((AV.inb (ys2817.getD 2 default) (ys7041.getD 0 default)) ∧
                        ((AV.binOk Go.BinOp.lss (AV.at (ys2817.getD 2 default) (ys7041.getD 0 default) 0) (AV.cel (AV.prj r5761 0) 0)) ∧
                        ((AV.isBool (AV.bin Go.BinOp.lss (ys7041.getD 0 default) (AV.len (ys2817.getD 2 default)))) ∧
                        ((isT (AV.bin Go.BinOp.lss (ys7041.getD 0 default) (AV.len (ys2817.getD 2 default)))) ∧
                        ((AV.isBool (AV.bin Go.BinOp.lss (AV.at (ys2817.getD 2 default) (ys7041.getD 0 default) 0) (AV.cel (AV.prj r5761 0) 0))) ∧
                        (((isT (AV.bin Go.BinOp.lss (AV.at (ys2817.getD 2 default) (ys7041.getD 0 default) 0) (AV.cel (AV.prj r5761 0) 0))) →
                          ((AV.binOk Go.BinOp.add (ys7041.getD 0 default) (AV.int 1)) ∧
                          (again7041 [(AV.bin Go.BinOp.add (ys7041.getD 0 default) (AV.int 1))]))) ∧
                        ((isF (AV.bin Go.BinOp.lss (AV.at (ys2817.getD 2 default) (ys7041.getD 0 default) 0) (AV.cel (AV.prj r5761 0) 0))) →
                          (∃ r8193 : AV, ((FnU Try.prog 31 35 4 (ys2817.getD 2 default) [(ys7041.getD 0 default), (AV.mk 4 [[(AV.cel (AV.prj r5761 0) 0), (AV.cel (AV.prj r5761 0) 1), (AV.cel (AV.prj r5761 0) 2), (AV.cel (AV.prj r5761 0) 3)]])] true r8193) ∧
                          ((AV.binOk Go.BinOp.add (ys2817.getD 1 default) (AV.int 1)) ∧
                          (again2817 [r4609, (AV.bin Go.BinOp.add (ys2817.getD 1 default) (AV.int 1)), r8193]))))))))))))) ∧
                      ((isF (AV.bin Go.BinOp.lss (ys7041.getD 0 default) (AV.len (ys2817.getD 2 default)))) →
                        ((AV.isBool (AV.bin Go.BinOp.lss (ys7041.getD 0 default) (AV.len (ys2817.getD 2 default)))) ∧
                        ((isF (AV.bin Go.BinOp.lss (ys7041.getD 0 default) (AV.len (ys2817.getD 2 default)))) ∧
                        (∃ r8193 : AV, ((FnU Try.prog 31 35 4 (ys2817.getD 2 default) [(ys7041.getD 0 default), (AV.mk 4 [[(AV.cel (AV.prj r5761 0) 0), (AV.cel (AV.prj r5761 0) 1), (AV.cel (AV.prj r5761 0) 2), (AV.cel (AV.prj r5761 0) 3)]])] true r8193) ∧
                        ((AV.binOk Go.BinOp.add (ys2817.getD 1 default) (AV.int 1)) ∧
                        (again2817 [r4609, (AV.bin Go.BinOp.add (ys2817.getD 1 default) (AV.int 1)), r8193])))))))))))))))))))))))))))))))))))))))))))))))))))))) ∧
          ((isF (AV.bin Go.BinOp.eql (ys2817.getD 0 default) (AV.int 0))) →
            ((AV.binOk Go.BinOp.neq (ys2817.getD 0 default) (AV.int 0)) ∧
            ((AV.isBool (AV.bin Go.BinOp.neq (ys2817.getD 0 default) (AV.int 0))) ∧
            ((isT (AV.bin Go.BinOp.neq (ys2817.getD 0 default) (AV.int 0))) ∧
            ((AV.binOk Go.BinOp.eql (AV.prj r513 1) (ys2817.getD 0 default)) ∧
            ((AV.isBool (AV.bin Go.BinOp.eql (AV.prj r513 1) (ys2817.getD 0 default))) ∧
            ((isT (AV.bin Go.BinOp.eql (AV.prj r513 1) (ys2817.getD 0 default))) ∧
            ((AV.binOk Go.BinOp.eql (AV.len (AV.prj r513 0)) (AV.int 0)) ∧
            ((AV.isBool (AV.bin Go.BinOp.eql (AV.prj r513 1) (ys2817.getD 0 default))) ∧
            ((isT (AV.bin Go.BinOp.eql (AV.prj r513 1) (ys2817.getD 0 default))) ∧
            ((AV.flat (AV.bin Go.BinOp.eql (AV.len (AV.prj r513 0)) (AV.int 0))) ∧
            (fSame (AV.bin Go.BinOp.eql (AV.len (AV.prj r513 0)) (AV.int 0)) r)))))))))))))))))) ∧
        ((isF (AV.bin Go.BinOp.lss (ys2817.getD 1 default) (AV.len x3))) →
          ((AV.isBool (AV.bin Go.BinOp.lss (ys2817.getD 1 default) (AV.len x3))) ∧
          ((isF (AV.bin Go.BinOp.lss (ys2817.getD 1 default) (AV.len x3))) ∧
          ((AV.binOk Go.BinOp.neq (ys2817.getD 0 default) (AV.int 0)) ∧
          ((AV.isBool (AV.bin Go.BinOp.neq (ys2817.getD 0 default) (AV.int 0))) ∧
          (((isT (AV.bin Go.BinOp.neq (ys2817.getD 0 default) (AV.int 0))) →
            ((AV.binOk Go.BinOp.eql (AV.prj r513 1) (ys2817.getD 0 default)) ∧
            ((AV.isBool (AV.bin Go.BinOp.eql (AV.prj r513 1) (ys2817.getD 0 default))) ∧
            ((isT (AV.bin Go.BinOp.eql (AV.prj r513 1) (ys2817.getD 0 default))) ∧
            ((AV.binOk Go.BinOp.eql (AV.len (AV.prj r513 0)) (AV.int 0)) ∧
            ((AV.isBool (AV.bin Go.BinOp.eql (AV.prj r513 1) (ys2817.getD 0 default))) ∧
            ((isT (AV.bin Go.BinOp.eql (AV.prj r513 1) (ys2817.getD 0 default))) ∧
            ((AV.flat (AV.bin Go.BinOp.eql (AV.len (AV.prj r513 0)) (AV.int 0))) ∧
            (fSame (AV.bin Go.BinOp.eql (AV.len (AV.prj r513 0)) (AV.int 0)) r))))))))) ∧
          ((isF (AV.bin Go.BinOp.neq (ys2817.getD 0 default) (AV.int 0))) →
            ((AV.binOk Go.BinOp.eql (AV.prj r513 1) (AV.int 0)) ∧
            ((AV.isBool (AV.bin Go.BinOp.eql (AV.prj r513 1) (AV.int 0))) ∧
            ((isT (AV.bin Go.BinOp.eql (AV.prj r513 1) (AV.int 0))) ∧
            (∃ r3777 : AV, ((Fn Try.prog 32 [(AV.prj r513 0), (ys2817.getD 2 default)] Sh.sc r3777) ∧
            ((AV.isBool (AV.bin Go.BinOp.eql (AV.prj r513 1) (AV.int 0))) ∧
            ((isT (AV.bin Go.BinOp.eql (AV.prj r513 1) (AV.int 0))) ∧
            ((AV.flat r3777) ∧
            (fSame r3777 r))))))))))))))))))))))))))))))))) ∧
  ((isF (AV.bin Go.BinOp.eql (AV.prj r1537 2) (AV.int 0))) →
    ((AV.isBool (AV.bin Go.BinOp.eql (AV.prj r1537 2) (AV.int 0))) ∧
    ((isF (AV.bin Go.BinOp.eql (AV.prj r1537 2) (AV.int 0))) ∧
    (∃ r2625 : AV, ((Fn Try.prog 28 [x0] (Sh.row 35 4 true) r2625) ∧
    (fLoop 2817 [(AV.prj r1537 2), (AV.int 0), r2625] fun ys2817 again2817 =>
      ((AV.isSl x3 2) ∧
      ((AV.binOk Go.BinOp.lss (ys2817.getD 1 default) (AV.len x3)) ∧
      ((AV.isBool (AV.bin Go.BinOp.lss (ys2817.getD 1 default) (AV.len x3))) ∧
      (((isT (AV.bin Go.BinOp.lss (ys2817.getD 1 default) (AV.len x3))) →
        ((AV.binOk Go.BinOp.eql (ys2817.getD 0 default) (AV.int 0)) ∧
        ((AV.isBool (AV.bin Go.BinOp.lss (ys2817.getD 1 default) (AV.len x3))) ∧
        ((isT (AV.bin Go.BinOp.lss (ys2817.getD 1 default) (AV.len x3))) ∧
        ((AV.isBool (AV.bin Go.BinOp.eql (ys2817.getD 0 default) (AV.int 0))) ∧
        (((isT (AV.bin Go.BinOp.eql (ys2817.getD 0 default) (AV.int 0))) →
          ((AV.isSl x3 2) ∧
          ((AV.inb x3 (ys2817.getD 1 default)) ∧
          ((AV.binOk Go.BinOp.lss (AV.at x3 (ys2817.getD 1 default) 0) (AV.int 0)) ∧
          ((AV.isBool (AV.bin Go.BinOp.lss (AV.at x3 (ys2817.getD 1 default) 0) (AV.int 0))) ∧
          (((isT (AV.bin Go.BinOp.lss (AV.at x3 (ys2817.getD 1 default) 0) (AV.int 0))) →
            ((AV.isBool (AV.bin Go.BinOp.lss (AV.at x3 (ys2817.getD 1 default) 0) (AV.int 0))) ∧
            ((isT (AV.bin Go.BinOp.lss (AV.at x3 (ys2817.getD 1 default) 0) (AV.int 0))) ∧
            ((AV.binOk Go.BinOp.add (ys2817.getD 1 default) (AV.int 1)) ∧
            (again2817 [(AV.int 12), (AV.bin Go.BinOp.add (ys2817.getD 1 default) (AV.int 1)), (ys2817.getD 2 default)]))))) ∧
          ((isF (AV.bin Go.BinOp.lss (AV.at x3 (ys2817.getD 1 default) 0) (AV.int 0))) →
            ((AV.isSl x3 2) ∧
            ((AV.inb x3 (ys2817.getD 1 default)) ∧
            ((AV.binOk Go.BinOp.gtr (AV.at x3 (ys2817.getD 1 default) 0) (AV.int 200000)) ∧
            ((AV.isBool (AV.bin Go.BinOp.lss (AV.at x3 (ys2817.getD 1 default) 0) (AV.int 0))) ∧
            ((isF (AV.bin Go.BinOp.lss (AV.at x3 (ys2817.getD 1 default) 0) (AV.int 0))) ∧
            ((AV.isBool (AV.bin Go.BinOp.gtr (AV.at x3 (ys2817.getD 1 default) 0) (AV.int 200000))) ∧
            (((isT (AV.bin Go.BinOp.gtr (AV.at x3 (ys2817.getD 1 default) 0) (AV.int 200000))) →
              ((AV.binOk Go.BinOp.add (ys2817.getD 1 default) (AV.int 1)) ∧
              (again2817 [(AV.int 12), (AV.bin Go.BinOp.add (ys2817.getD 1 default) (AV.int 1)), (ys2817.getD 2 default)]))) ∧
            ((isF (AV.bin Go.BinOp.gtr (AV.at x3 (ys2817.getD 1 default) 0) (AV.int 200000))) →
              ((AV.isSl x3 2) ∧
              ((AV.inb x3 (ys2817.getD 1 default)) ∧
              ((AV.isOne (AV.at x3 (ys2817.getD 1 default) 1)) ∧
              (∃ r4609 : AV, ((Fn Try.prog 29 [(AV.mk 1 [[(AV.at x3 (ys2817.getD 1 default) 1)]])] Sh.sc r4609) ∧
              ((AV.binOk Go.BinOp.neq r4609 (AV.int 0)) ∧
              ((AV.isBool (AV.bin Go.BinOp.neq r4609 (AV.int 0))) ∧
              (((isT (AV.bin Go.BinOp.neq r4609 (AV.int 0))) →
                ((AV.binOk Go.BinOp.add (ys2817.getD 1 default) (AV.int 1)) ∧
                (again2817 [r4609, (AV.bin Go.BinOp.add (ys2817.getD 1 default) (AV.int 1)), (ys2817.getD 2 default)]))) ∧
              ((isF (AV.bin Go.BinOp.neq r4609 (AV.int 0))) →
                ((AV.isSl x3 2) ∧
                ((AV.inb x3 (ys2817.getD 1 default)) ∧
                ((AV.isSl x3 2) ∧
                ((AV.inb x3 (ys2817.getD 1 default)) ∧
                ((AV.binOk Go.BinOp.add (AV.at x3 (ys2817.getD 1 default) 0) (AV.int 3000)) ∧
                ((AV.isInt (AV.int 200000)) ∧
                ((AV.isInt (AV.bin Go.BinOp.add (AV.at x3 (ys2817.getD 1 default) 0) (AV.int 3000))) ∧
                (∃ r5761 : AV, ((Fn Try.prog 30 [(ys2817.getD 2 default), x1, (AV.agg [(AV.cel x2 0), (AV.cel x2 1), (AV.cel x2 2), (AV.cel x2 3), (AV.cel x2 4), (AV.cel x2 5), (AV.cel x2 6), (AV.cel x2 7), (AV.cel x2 8), (AV.cel x2 9), (AV.cel x2 10), (AV.cel x2 11), (AV.cel x2 12), (AV.cel x2 13), (AV.cel x2 14), (AV.cel x2 15)]), (AV.atAgg x3 (ys2817.getD 1 default) 0 2), (AV.mn (AV.int 200000) (AV.bin Go.BinOp.add (AV.at x3 (ys2817.getD 1 default) 0) (AV.int 3000)))] (Sh.tup [Sh.sc, Sh.sc]) r5761) ∧
                ((AV.isAgg (AV.prj r5761 0) 4) ∧
                ((AV.unOk Go.UnOp.not (AV.prj r5761 1)) ∧
                ((AV.isBool (AV.un Go.UnOp.not (AV.prj r5761 1))) ∧
                (((isT (AV.un Go.UnOp.not (AV.prj r5761 1))) →
                  ((AV.isSl x3 2) ∧
                  ((AV.inb x3 (ys2817.getD 1 default)) ∧
                  ((AV.binOk Go.BinOp.lss (AV.at x3 (ys2817.getD 1 default) 0) (AV.int 197000)) ∧
                  ((AV.isBool (AV.un Go.UnOp.not (AV.prj r5761 1))) ∧
                  ((isT (AV.un Go.UnOp.not (AV.prj r5761 1))) ∧
                  ((AV.isBool (AV.bin Go.BinOp.lss (AV.at x3 (ys2817.getD 1 default) 0) (AV.int 197000))) ∧
                  (((isT (AV.bin Go.BinOp.lss (AV.at x3 (ys2817.getD 1 default) 0) (AV.int 197000))) →
                    ((AV.flat (AV.bool true)) ∧
                    (fSame (AV.bool true) r))) ∧
                  ((isF (AV.bin Go.BinOp.lss (AV.at x3 (ys2817.getD 1 default) 0) (AV.int 197000))) →
                    ((AV.unOk Go.UnOp.not (AV.prj r5761 1)) ∧
                    ((AV.isBool (AV.un Go.UnOp.not (AV.prj r5761 1))) ∧
                    ((isT (AV.un Go.UnOp.not (AV.prj r5761 1))) ∧
                    ((AV.binOk Go.BinOp.add (ys2817.getD 1 default) (AV.int 1)) ∧
                    (again2817 [(AV.int 8), (AV.bin Go.BinOp.add (ys2817.getD 1 default) (AV.int 1)), (ys2817.getD 2 default)])))))))))))))) ∧
                ((isF (AV.un Go.UnOp.not (AV.prj r5761 1))) →
                  ((AV.isBool (AV.un Go.UnOp.not (AV.prj r5761 1))) ∧
                  ((isF (AV.un Go.UnOp.not (AV.prj r5761 1))) ∧
                  ((AV.unOk Go.UnOp.not (AV.prj r5761 1)) ∧
                  ((AV.isBool (AV.un Go.UnOp.not (AV.prj r5761 1))) ∧
                  ((isF (AV.un Go.UnOp.not (AV.prj r5761 1))) ∧
                  (fLoop 7041 [(AV.int 0)] fun ys7041 again7041 =>
                    ((AV.binOk Go.BinOp.lss (ys7041.getD 0 default) (AV.len (ys2817.getD 2 default))) ∧
                    ((AV.isBool (AV.bin Go.BinOp.lss (ys7041.getD 0 default) (AV.len (ys2817.getD 2 default)))) ∧
                    (((isT (AV.bin Go.BinOp.lss (ys7041.getD 0 default) (AV.len (ys2817.getD 2 default)))) →
                      ((AV.inb (ys2817.getD 2 default) (ys7041.getD 0 default)) ∧
                      ((AV.inb (ys2817.getD 2 default) (ys7041.getD 0 default)) ∧
                      ((AV.binOk Go.BinOp.lss (AV.at (ys2817.getD 2 default) (ys7041.getD 0 default) 0) (AV.cel (AV.prj r5761 0) 0)) ∧
                      ((AV.isBool (AV.bin Go.BinOp.lss (ys7041.getD 0 default) (AV.len (ys2817.getD 2 default)))) ∧
                      ((isT (AV.bin Go.BinOp.lss (ys7041.getD 0 default) (AV.len (ys2817.getD 2 default)))) ∧
                      ((AV.isBool (AV.bin Go.BinOp.lss (AV.at (ys2817.getD 2 default) (ys7041.getD 0 default) 0) (AV.cel (AV.prj r5761 0) 0))) ∧
                      (((isT (AV.bin Go.BinOp.lss (AV.at (ys2817.getD 2 default) (ys7041.getD 0 default) 0) (AV.cel (AV.prj r5761 0) 0))) →
                        ((AV.binOk Go.BinOp.add (ys7041.getD 0 default) (AV.int 1)) ∧
                        (again7041 [(AV.bin Go.BinOp.add (ys7041.getD 0 default) (AV.int 1))]))) ∧
                      ((isF (AV.bin Go.BinOp.lss (AV.at (ys2817.getD 2 default) (ys7041.getD 0 default) 0) (AV.cel (AV.prj r5761 0) 0))) →
                        (∃ r8193 : AV, ((FnU Try.prog 31 35 4 (ys2817.getD 2 default) [(ys7041.getD 0 default), (AV.mk 4 [[(AV.cel (AV.prj r5761 0) 0), (AV.cel (AV.prj r5761 0) 1), (AV.cel (AV.prj r5761 0) 2), (AV.cel (AV.prj r5761 0) 3)]])] true r8193) ∧
                        ((AV.binOk Go.BinOp.add (ys2817.getD 1 default) (AV.int 1)) ∧
                        (again2817 [r4609, (AV.bin Go.BinOp.add (ys2817.getD 1 default) (AV.int 1)), r8193]))))))))))))) ∧
                    ((isF (AV.bin Go.BinOp.lss (ys7041.getD 0 default) (AV.len (ys2817.getD 2 default)))) →
                      ((AV.isBool (AV.bin Go.BinOp.lss (ys7041.getD 0 default) (AV.len (ys2817.getD 2 default)))) ∧
                      ((isF (AV.bin Go.BinOp.lss (ys7041.getD 0 default) (AV.len (ys2817.getD 2 default)))) ∧
                      (∃ r8193 : AV, ((FnU Try.prog 31 35 4 (ys2817.getD 2 default) [(ys7041.getD 0 default), (AV.mk 4 [[(AV.cel (AV.prj r5761 0) 0), (AV.cel (AV.prj r5761 0) 1), (AV.cel (AV.prj r5761 0) 2), (AV.cel (AV.prj r5761 0) 3)]])] true r8193) ∧
                      ((AV.binOk Go.BinOp.add (ys2817.getD 1 default) (AV.int 1)) ∧
                      (again2817 [r4609, (AV.bin Go.BinOp.add (ys2817.getD 1 default) (AV.int 1)), r8193])))))))))))))))))))))))))))))))))))))))))))))))))))))) ∧
        ((isF (AV.bin Go.BinOp.eql (ys2817.getD 0 default) (AV.int 0))) →
          ((AV.binOk Go.BinOp.neq (ys2817.getD 0 default) (AV.int 0)) ∧
          ((AV.isBool (AV.bin Go.BinOp.neq (ys2817.getD 0 default) (AV.int 0))) ∧
          ((isT (AV.bin Go.BinOp.neq (ys2817.getD 0 default) (AV.int 0))) ∧
          ((AV.binOk Go.BinOp.eql (AV.prj r513 1) (ys2817.getD 0 default)) ∧
          ((AV.isBool (AV.bin Go.BinOp.eql (AV.prj r513 1) (ys2817.getD 0 default))) ∧
          ((isT (AV.bin Go.BinOp.eql (AV.prj r513 1) (ys2817.getD 0 default))) ∧
          ((AV.binOk Go.BinOp.eql (AV.len (AV.prj r513 0)) (AV.int 0)) ∧
          ((AV.isBool (AV.bin Go.BinOp.eql (AV.prj r513 1) (ys2817.getD 0 default))) ∧
          ((isT (AV.bin Go.BinOp.eql (AV.prj r513 1) (ys2817.getD 0 default))) ∧
          ((AV.flat (AV.bin Go.BinOp.eql (AV.len (AV.prj r513 0)) (AV.int 0))) ∧
          (fSame (AV.bin Go.BinOp.eql (AV.len (AV.prj r513 0)) (AV.int 0)) r)))))))))))))))))) ∧
      ((isF (AV.bin Go.BinOp.lss (ys2817.getD 1 default) (AV.len x3))) →
        ((AV.isBool (AV.bin Go.BinOp.lss (ys2817.getD 1 default) (AV.len x3))) ∧
        ((isF (AV.bin Go.BinOp.lss (ys2817.getD 1 default) (AV.len x3))) ∧
        ((AV.binOk Go.BinOp.neq (ys2817.getD 0 default) (AV.int 0)) ∧
        ((AV.isBool (AV.bin Go.BinOp.neq (ys2817.getD 0 default) (AV.int 0))) ∧
        (((isT (AV.bin Go.BinOp.neq (ys2817.getD 0 default) (AV.int 0))) →
          ((AV.binOk Go.BinOp.eql (AV.prj r513 1) (ys2817.getD 0 default)) ∧
          ((AV.isBool (AV.bin Go.BinOp.eql (AV.prj r513 1) (ys2817.getD 0 default))) ∧
          ((isT (AV.bin Go.BinOp.eql (AV.prj r513 1) (ys2817.getD 0 default))) ∧
          ((AV.binOk Go.BinOp.eql (AV.len (AV.prj r513 0)) (AV.int 0)) ∧
          ((AV.isBool (AV.bin Go.BinOp.eql (AV.prj r513 1) (ys2817.getD 0 default))) ∧
          ((isT (AV.bin Go.BinOp.eql (AV.prj r513 1) (ys2817.getD 0 default))) ∧
          ((AV.flat (AV.bin Go.BinOp.eql (AV.len (AV.prj r513 0)) (AV.int 0))) ∧
          (fSame (AV.bin Go.BinOp.eql (AV.len (AV.prj r513 0)) (AV.int 0)) r))))))))) ∧
        ((isF (AV.bin Go.BinOp.neq (ys2817.getD 0 default) (AV.int 0))) →
          ((AV.binOk Go.BinOp.eql (AV.prj r513 1) (AV.int 0)) ∧
          ((AV.isBool (AV.bin Go.BinOp.eql (AV.prj r513 1) (AV.int 0))) ∧
          ((isT (AV.bin Go.BinOp.eql (AV.prj r513 1) (AV.int 0))) ∧
          (∃ r3777 : AV, ((Fn Try.prog 32 [(AV.prj r513 0), (ys2817.getD 2 default)] Sh.sc r3777) ∧
          ((AV.isBool (AV.bin Go.BinOp.eql (AV.prj r513 1) (AV.int 0))) ∧
          ((isT (AV.bin Go.BinOp.eql (AV.prj r513 1) (AV.int 0))) ∧
          ((AV.flat r3777) ∧
          (fSame r3777 r)))))))))))))))))))))))))))))))) ∧
((isF (AV.bin Go.BinOp.eql r1089 (AV.int 0))) →
  ((AV.binOk Go.BinOp.eql r1089 (AV.int 0)) ∧
  ((AV.isBool (AV.bin Go.BinOp.eql r1089 (AV.int 0))) ∧
  ((isF (AV.bin Go.BinOp.eql r1089 (AV.int 0))) ∧
  ((AV.isBool (AV.bin Go.BinOp.eql r1089 (AV.int 0))) ∧
  ((isF (AV.bin Go.BinOp.eql r1089 (AV.int 0))) ∧
  (∃ r2049 : AV, ((Fn Try.prog 28 [x0] (Sh.row 35 4 true) r2049) ∧
  (fLoop 2241 [r1089, (AV.int 0), r2049] fun ys2241 again2241 =>
    ((AV.isSl x3 2) ∧
    ((AV.binOk Go.BinOp.lss (ys2241.getD 1 default) (AV.len x3)) ∧
    ((AV.isBool (AV.bin Go.BinOp.lss (ys2241.getD 1 default) (AV.len x3))) ∧
    (((isT (AV.bin Go.BinOp.lss (ys2241.getD 1 default) (AV.len x3))) →
      ((AV.binOk Go.BinOp.eql (ys2241.getD 0 default) (AV.int 0)) ∧
      ((AV.isBool (AV.bin Go.BinOp.lss (ys2241.getD 1 default) (AV.len x3))) ∧
      ((isT (AV.bin Go.BinOp.lss (ys2241.getD 1 default) (AV.len x3))) ∧
      ((AV.isBool (AV.bin Go.BinOp.eql (ys2241.getD 0 default) (AV.int 0))) ∧
      (((isT (AV.bin Go.BinOp.eql (ys2241.getD 0 default) (AV.int 0))) →
        ((AV.isSl x3 2) ∧
        ((AV.inb x3 (ys2241.getD 1 default)) ∧
        ((AV.binOk Go.BinOp.lss (AV.at x3 (ys2241.getD 1 default) 0) (AV.int 0)) ∧
        ((AV.isBool (AV.bin Go.BinOp.lss (AV.at x3 (ys2241.getD 1 default) 0) (AV.int 0))) ∧
        (((isT (AV.bin Go.BinOp.lss (AV.at x3 (ys2241.getD 1 default) 0) (AV.int 0))) →
          ((AV.isBool (AV.bin Go.BinOp.lss (AV.at x3 (ys2241.getD 1 default) 0) (AV.int 0))) ∧
          ((isT (AV.bin Go.BinOp.lss (AV.at x3 (ys2241.getD 1 default) 0) (AV.int 0))) ∧
          ((AV.binOk Go.BinOp.add (ys2241.getD 1 default) (AV.int 1)) ∧
          (again2241 [(AV.int 12), (AV.bin Go.BinOp.add (ys2241.getD 1 default) (AV.int 1)), (ys2241.getD 2 default)]))))) ∧
        ((isF (AV.bin Go.BinOp.lss (AV.at x3 (ys2241.getD 1 default) 0) (AV.int 0))) →
          ((AV.isSl x3 2) ∧
          ((AV.inb x3 (ys2241.getD 1 default)) ∧
          ((AV.binOk Go.BinOp.gtr (AV.at x3 (ys2241.getD 1 default) 0) (AV.int 200000)) ∧
          ((AV.isBool (AV.bin Go.BinOp.lss (AV.at x3 (ys2241.getD 1 default) 0) (AV.int 0))) ∧
          ((isF (AV.bin Go.BinOp.lss (AV.at x3 (ys2241.getD 1 default) 0) (AV.int 0))) ∧
          ((AV.isBool (AV.bin Go.BinOp.gtr (AV.at x3 (ys2241.getD 1 default) 0) (AV.int 200000))) ∧
          (((isT (AV.bin Go.BinOp.gtr (AV.at x3 (ys2241.getD 1 default) 0) (AV.int 200000))) →
            ((AV.binOk Go.BinOp.add (ys2241.getD 1 default) (AV.int 1)) ∧
            (again2241 [(AV.int 12), (AV.bin Go.BinOp.add (ys2241.getD 1 default) (AV.int 1)), (ys2241.getD 2 default)]))) ∧
          ((isF (AV.bin Go.BinOp.gtr (AV.at x3 (ys2241.getD 1 default) 0) (AV.int 200000))) →
            ((AV.isSl x3 2) ∧
            ((AV.inb x3 (ys2241.getD 1 default)) ∧
            ((AV.isOne (AV.at x3 (ys2241.getD 1 default) 1)) ∧
            (∃ r4033 : AV, ((Fn Try.prog 29 [(AV.mk 1 [[(AV.at x3 (ys2241.getD 1 default) 1)]])] Sh.sc r4033) ∧
            ((AV.binOk Go.BinOp.neq r4033 (AV.int 0)) ∧
            ((AV.isBool (AV.bin Go.BinOp.neq r4033 (AV.int 0))) ∧
            (((isT (AV.bin Go.BinOp.neq r4033 (AV.int 0))) →
              ((AV.binOk Go.BinOp.add (ys2241.getD 1 default) (AV.int 1)) ∧
              (again2241 [r4033, (AV.bin Go.BinOp.add (ys2241.getD 1 default) (AV.int 1)), (ys2241.getD 2 default)]))) ∧
            ((isF (AV.bin Go.BinOp.neq r4033 (AV.int 0))) →
              ((AV.isSl x3 2) ∧
              ((AV.inb x3 (ys2241.getD 1 default)) ∧
              ((AV.isSl x3 2) ∧
              ((AV.inb x3 (ys2241.getD 1 default)) ∧
              ((AV.binOk Go.BinOp.add (AV.at x3 (ys2241.getD 1 default) 0) (AV.int 3000)) ∧
              ((AV.isInt (AV.int 200000)) ∧
              ((AV.isInt (AV.bin Go.BinOp.add (AV.at x3 (ys2241.getD 1 default) 0) (AV.int 3000))) ∧
              (∃ r5185 : AV, ((Fn Try.prog 30 [(ys2241.getD 2 default), x1, (AV.agg [(AV.cel x2 0), (AV.cel x2 1), (AV.cel x2 2), (AV.cel x2 3), (AV.cel x2 4), (AV.cel x2 5), (AV.cel x2 6), (AV.cel x2 7), (AV.cel x2 8), (AV.cel x2 9), (AV.cel x2 10), (AV.cel x2 11), (AV.cel x2 12), (AV.cel x2 13), (AV.cel x2 14), (AV.cel x2 15)]), (AV.atAgg x3 (ys2241.getD 1 default) 0 2), (AV.mn (AV.int 200000) (AV.bin Go.BinOp.add (AV.at x3 (ys2241.getD 1 default) 0) (AV.int 3000)))] (Sh.tup [Sh.sc, Sh.sc]) r5185) ∧
              ((AV.isAgg (AV.prj r5185 0) 4) ∧
              ((AV.unOk Go.UnOp.not (AV.prj r5185 1)) ∧
              ((AV.isBool (AV.un Go.UnOp.not (AV.prj r5185 1))) ∧
              (((isT (AV.un Go.UnOp.not (AV.prj r5185 1))) →
                ((AV.isSl x3 2) ∧
                ((AV.inb x3 (ys2241.getD 1 default)) ∧
                ((AV.binOk Go.BinOp.lss (AV.at x3 (ys2241.getD 1 default) 0) (AV.int 197000)) ∧
                ((AV.isBool (AV.un Go.UnOp.not (AV.prj r5185 1))) ∧
                ((isT (AV.un Go.UnOp.not (AV.prj r5185 1))) ∧
                ((AV.isBool (AV.bin Go.BinOp.lss (AV.at x3 (ys2241.getD 1 default) 0) (AV.int 197000))) ∧
                (((isT (AV.bin Go.BinOp.lss (AV.at x3 (ys2241.getD 1 default) 0) (AV.int 197000))) →
                  ((AV.flat (AV.bool true)) ∧
                  (fSame (AV.bool true) r))) ∧
                ((isF (AV.bin Go.BinOp.lss (AV.at x3 (ys2241.getD 1 default) 0) (AV.int 197000))) →
                  ((AV.unOk Go.UnOp.not (AV.prj r5185 1)) ∧
                  ((AV.isBool (AV.un Go.UnOp.not (AV.prj r5185 1))) ∧
                  ((isT (AV.un Go.UnOp.not (AV.prj r5185 1))) ∧
                  ((AV.binOk Go.BinOp.add (ys2241.getD 1 default) (AV.int 1)) ∧
                  (again2241 [(AV.int 8), (AV.bin Go.BinOp.add (ys2241.getD 1 default) (AV.int 1)), (ys2241.getD 2 default)])))))))))))))) ∧
              ((isF (AV.un Go.UnOp.not (AV.prj r5185 1))) →
                ((AV.isBool (AV.un Go.UnOp.not (AV.prj r5185 1))) ∧
                ((isF (AV.un Go.UnOp.not (AV.prj r5185 1))) ∧
                ((AV.unOk Go.UnOp.not (AV.prj r5185 1)) ∧
                ((AV.isBool (AV.un Go.UnOp.not (AV.prj r5185 1))) ∧
                ((isF (AV.un Go.UnOp.not (AV.prj r5185 1))) ∧
                (fLoop 6465 [(AV.int 0)] fun ys6465 again6465 =>
                  ((AV.binOk Go.BinOp.lss (ys6465.getD 0 default) (AV.len (ys2241.getD 2 default))) ∧
                  ((AV.isBool (AV.bin Go.BinOp.lss (ys6465.getD 0 default) (AV.len (ys2241.getD 2 default)))) ∧
                  (((isT (AV.bin Go.BinOp.lss (ys6465.getD 0 default) (AV.len (ys2241.getD 2 default)))) →
                    ((AV.inb (ys2241.getD 2 default) (ys6465.getD 0 default)) ∧
                    ((AV.inb (ys2241.getD 2 default) (ys6465.getD 0 default)) ∧
                    ((AV.binOk Go.BinOp.lss (AV.at (ys2241.getD 2 default) (ys6465.getD 0 default) 0) (AV.cel (AV.prj r5185 0) 0)) ∧
                    ((AV.isBool (AV.bin Go.BinOp.lss (ys6465.getD 0 default) (AV.len (ys2241.getD 2 default)))) ∧
                    ((isT (AV.bin Go.BinOp.lss (ys6465.getD 0 default) (AV.len (ys2241.getD 2 default)))) ∧
                    ((AV.isBool (AV.bin Go.BinOp.lss (AV.at (ys2241.getD 2 default) (ys6465.getD 0 default) 0) (AV.cel (AV.prj r5185 0) 0))) ∧
                    (((isT (AV.bin Go.BinOp.lss (AV.at (ys2241.getD 2 default) (ys6465.getD 0 default) 0) (AV.cel (AV.prj r5185 0) 0))) →
                      ((AV.binOk Go.BinOp.add (ys6465.getD 0 default) (AV.int 1)) ∧
                      (again6465 [(AV.bin Go.BinOp.add (ys6465.getD 0 default) (AV.int 1))]))) ∧
                    ((isF (AV.bin Go.BinOp.lss (AV.at (ys2241.getD 2 default) (ys6465.getD 0 default) 0) (AV.cel (AV.prj r5185 0) 0))) →
                      (∃ r7617 : AV, ((FnU Try.prog 31 35 4 (ys2241.getD 2 default) [(ys6465.getD 0 default), (AV.mk 4 [[(AV.cel (AV.prj r5185 0) 0), (AV.cel (AV.prj r5185 0) 1), (AV.cel (AV.prj r5185 0) 2), (AV.cel (AV.prj r5185 0) 3)]])] true r7617) ∧
                      ((AV.binOk Go.BinOp.add (ys2241.getD 1 default) (AV.int 1)) ∧
                      (again2241 [r4033, (AV.bin Go.BinOp.add (ys2241.getD 1 default) (AV.int 1)), r7617]))))))))))))) ∧
                  ((isF (AV.bin Go.BinOp.lss (ys6465.getD 0 default) (AV.len (ys2241.getD 2 default)))) →
                    ((AV.isBool (AV.bin Go.BinOp.lss (ys6465.getD 0 default) (AV.len (ys2241.getD 2 default)))) ∧
                    ((isF (AV.bin Go.BinOp.lss (ys6465.getD 0 default) (AV.len (ys2241.getD 2 default)))) ∧
                    (∃ r7617 : AV, ((FnU Try.prog 31 35 4 (ys2241.getD 2 default) [(ys6465.getD 0 default), (AV.mk 4 [[(AV.cel (AV.prj r5185 0) 0), (AV.cel (AV.prj r5185 0) 1), (AV.cel (AV.prj r5185 0) 2), (AV.cel (AV.prj r5185 0) 3)]])] true r7617) ∧
                    ((AV.binOk Go.BinOp.add (ys2241.getD 1 default) (AV.int 1)) ∧
                    (again2241 [r4033, (AV.bin Go.BinOp.add (ys2241.getD 1 default) (AV.int 1)), r7617])))))))))))))))))))))))))))))))))))))))))))))))))))))) ∧
      ((isF (AV.bin Go.BinOp.eql (ys2241.getD 0 default) (AV.int 0))) →
        ((AV.binOk Go.BinOp.neq (ys2241.getD 0 default) (AV.int 0)) ∧
        ((AV.isBool (AV.bin Go.BinOp.neq (ys2241.getD 0 default) (AV.int 0))) ∧
        ((isT (AV.bin Go.BinOp.neq (ys2241.getD 0 default) (AV.int 0))) ∧
        ((AV.binOk Go.BinOp.eql (AV.prj r513 1) (ys2241.getD 0 default)) ∧
        ((AV.isBool (AV.bin Go.BinOp.eql (AV.prj r513 1) (ys2241.getD 0 default))) ∧
        ((isT (AV.bin Go.BinOp.eql (AV.prj r513 1) (ys2241.getD 0 default))) ∧
        ((AV.binOk Go.BinOp.eql (AV.len (AV.prj r513 0)) (AV.int 0)) ∧
        ((AV.isBool (AV.bin Go.BinOp.eql (AV.prj r513 1) (ys2241.getD 0 default))) ∧
        ((isT (AV.bin Go.BinOp.eql (AV.prj r513 1) (ys2241.getD 0 default))) ∧
        ((AV.flat (AV.bin Go.BinOp.eql (AV.len (AV.prj r513 0)) (AV.int 0))) ∧
        (fSame (AV.bin Go.BinOp.eql (AV.len (AV.prj r513 0)) (AV.int 0)) r)))))))))))))))))) ∧
    ((isF (AV.bin Go.BinOp.lss (ys2241.getD 1 default) (AV.len x3))) →
      ((AV.isBool (AV.bin Go.BinOp.lss (ys2241.getD 1 default) (AV.len x3))) ∧
      ((isF (AV.bin Go.BinOp.lss (ys2241.getD 1 default) (AV.len x3))) ∧
      ((AV.binOk Go.BinOp.neq (ys2241.getD 0 default) (AV.int 0)) ∧
      ((AV.isBool (AV.bin Go.BinOp.neq (ys2241.getD 0 default) (AV.int 0))) ∧
      (((isT (AV.bin Go.BinOp.neq (ys2241.getD 0 default) (AV.int 0))) →
        ((AV.binOk Go.BinOp.eql (AV.prj r513 1) (ys2241.getD 0 default)) ∧
        ((AV.isBool (AV.bin Go.BinOp.eql (AV.prj r513 1) (ys2241.getD 0 default))) ∧
        ((isT (AV.bin Go.BinOp.eql (AV.prj r513 1) (ys2241.getD 0 default))) ∧
        ((AV.binOk Go.BinOp.eql (AV.len (AV.prj r513 0)) (AV.int 0)) ∧
        ((AV.isBool (AV.bin Go.BinOp.eql (AV.prj r513 1) (ys2241.getD 0 default))) ∧
        ((isT (AV.bin Go.BinOp.eql (AV.prj r513 1) (ys2241.getD 0 default))) ∧
        ((AV.flat (AV.bin Go.BinOp.eql (AV.len (AV.prj r513 0)) (AV.int 0))) ∧
        (fSame (AV.bin Go.BinOp.eql (AV.len (AV.prj r513 0)) (AV.int 0)) r))))))))) ∧
      ((isF (AV.bin Go.BinOp.neq (ys2241.getD 0 default) (AV.int 0))) →
        ((AV.binOk Go.BinOp.eql (AV.prj r513 1) (AV.int 0)) ∧
        ((AV.isBool (AV.bin Go.BinOp.eql (AV.prj r513 1) (AV.int 0))) ∧
        ((isT (AV.bin Go.BinOp.eql (AV.prj r513 1) (AV.int 0))) ∧
        (∃ r3201 : AV, ((Fn Try.prog 32 [(AV.prj r513 0), (ys2241.getD 2 default)] Sh.sc r3201) ∧
        ((AV.isBool (AV.bin Go.BinOp.eql (AV.prj r513 1) (AV.int 0))) ∧
        ((isT (AV.bin Go.BinOp.eql (AV.prj r513 1) (AV.int 0))) ∧
        ((AV.flat r3201) ∧
        (fSame r3201 r))))))))))))))))))))))))))))))))))))))))))) := by kernel_rfl
theorem changes_form (x0 x1 x2 r : AV) : fnF Try.prog Γ ann 3 6 Try.f6 (Try.f6.body.getD .skip) ((.f (.both (.both (.both (.t .nil) (.t (.both (.t .nil) (.both (.t .nil) (.both (.t .nil) (.t (.both (.both (.both (.t .nil) (.f (.t .nil))) .nil) (.f (.t .nil))))))))) (.f (.f (.t (.t .nil))))) (.f (.f (.f (.t (.t .nil)))))))) [x0, x1, x2] (.sc) r = (((AV.isOne x2) ∧
(∃ r129 : AV, ((Fn Try.prog 14 [] Sh.sc r129) ∧
((AV.unOk Go.UnOp.not r129) ∧
((AV.isBool (AV.un Go.UnOp.not r129)) ∧
((isF (AV.un Go.UnOp.not r129)) ∧
(∃ r449 : AV, ((Fn Try.prog 33 [x0, x1, x2] (Sh.tup [(Sh.row 60 2 true), Sh.sc]) r449) ∧
(∃ r897 : AV, ((Fn Try.prog 18 [x0] Sh.sc r897) ∧
((AV.binOk Go.BinOp.eql r897 (AV.int 0)) ∧
((AV.isBool (AV.bin Go.BinOp.eql r897 (AV.int 0))) ∧
(((isT (AV.bin Go.BinOp.eql r897 (AV.int 0))) →
  (∃ r1217 : AV, ((Fn Try.prog 16 [x1] Sh.sc r1217) ∧
  ((AV.binOk Go.BinOp.eql r1217 (AV.int 0)) ∧
  ((AV.isBool (AV.bin Go.BinOp.eql r1217 (AV.int 0))) ∧
  (((isT (AV.bin Go.BinOp.eql r1217 (AV.int 0))) →
    ((AV.isSl x1 2) ∧
    ((AV.binOk Go.BinOp.eql (AV.len x1) (AV.int 24)) ∧
    ((AV.isBool (AV.bin Go.BinOp.eql r1217 (AV.int 0))) ∧
    ((isT (AV.bin Go.BinOp.eql r1217 (AV.int 0))) ∧
    ((AV.isBool (AV.bin Go.BinOp.eql (AV.len x1) (AV.int 24))) ∧
    (((isT (AV.bin Go.BinOp.eql (AV.len x1) (AV.int 24))) →
      ((AV.binOk Go.BinOp.eql (AV.prj r449 1) (AV.int 9)) ∧
      ((AV.isBool (AV.bin Go.BinOp.eql (AV.prj r449 1) (AV.int 9))) ∧
      ((isT (AV.bin Go.BinOp.eql (AV.prj r449 1) (AV.int 9))) ∧
      ((AV.binOk Go.BinOp.eql (AV.len (AV.prj r449 0)) (AV.int 0)) ∧
      ((AV.isBool (AV.bin Go.BinOp.eql (AV.prj r449 1) (AV.int 9))) ∧
      ((isT (AV.bin Go.BinOp.eql (AV.prj r449 1) (AV.int 9))) ∧
      ((AV.flat (AV.bin Go.BinOp.eql (AV.len (AV.prj r449 0)) (AV.int 0))) ∧
      (fSame (AV.bin Go.BinOp.eql (AV.len (AV.prj r449 0)) (AV.int 0)) r))))))))) ∧
    ((isF (AV.bin Go.BinOp.eql (AV.len x1) (AV.int 24))) →
      ((AV.binOk Go.BinOp.eql r1217 (AV.int 0)) ∧
      ((AV.isBool (AV.bin Go.BinOp.eql r1217 (AV.int 0))) ∧
      ((isT (AV.bin Go.BinOp.eql r1217 (AV.int 0))) ∧
      ((AV.binOk Go.BinOp.lss x2 (AV.int 0)) ∧
      ((AV.isBool (AV.bin Go.BinOp.lss x2 (AV.int 0))) ∧
      (((isT (AV.bin Go.BinOp.lss x2 (AV.int 0))) →
        ((AV.isBool (AV.bin Go.BinOp.lss x2 (AV.int 0))) ∧
        ((isT (AV.bin Go.BinOp.lss x2 (AV.int 0))) ∧
        ((AV.isBool (AV.bin Go.BinOp.eql r1217 (AV.int 0))) ∧
        ((isT (AV.bin Go.BinOp.eql r1217 (AV.int 0))) ∧
        ((AV.binOk Go.BinOp.eql (AV.prj r449 1) (AV.int 12)) ∧
        ((AV.isBool (AV.bin Go.BinOp.eql (AV.prj r449 1) (AV.int 12))) ∧
        ((isT (AV.bin Go.BinOp.eql (AV.prj r449 1) (AV.int 12))) ∧
        ((AV.binOk Go.BinOp.eql (AV.len (AV.prj r449 0)) (AV.int 0)) ∧
        ((AV.isBool (AV.bin Go.BinOp.eql (AV.prj r449 1) (AV.int 12))) ∧
        ((isT (AV.bin Go.BinOp.eql (AV.prj r449 1) (AV.int 12))) ∧
        ((AV.flat (AV.bin Go.BinOp.eql (AV.len (AV.prj r449 0)) (AV.int 0))) ∧
        (fSame (AV.bin Go.BinOp.eql (AV.len (AV.prj r449 0)) (AV.int 0)) r))))))))))))) ∧
      ((isF (AV.bin Go.BinOp.lss x2 (AV.int 0))) →
        ((AV.binOk Go.BinOp.gtr x2 (AV.int 200000)) ∧
        ((AV.isBool (AV.bin Go.BinOp.lss x2 (AV.int 0))) ∧
        ((isF (AV.bin Go.BinOp.lss x2 (AV.int 0))) ∧
        ((AV.isBool (AV.bin Go.BinOp.gtr x2 (AV.int 200000))) ∧
        (((isT (AV.bin Go.BinOp.gtr x2 (AV.int 200000))) →
          ((AV.isBool (AV.bin Go.BinOp.gtr x2 (AV.int 200000))) ∧
          ((isT (AV.bin Go.BinOp.gtr x2 (AV.int 200000))) ∧
          ((AV.isBool (AV.bin Go.BinOp.eql r1217 (AV.int 0))) ∧
          ((isT (AV.bin Go.BinOp.eql r1217 (AV.int 0))) ∧
          ((AV.binOk Go.BinOp.eql (AV.prj r449 1) (AV.int 12)) ∧
          ((AV.isBool (AV.bin Go.BinOp.eql (AV.prj r449 1) (AV.int 12))) ∧
          ((isT (AV.bin Go.BinOp.eql (AV.prj r449 1) (AV.int 12))) ∧
          ((AV.binOk Go.BinOp.eql (AV.len (AV.prj r449 0)) (AV.int 0)) ∧
          ((AV.isBool (AV.bin Go.BinOp.eql (AV.prj r449 1) (AV.int 12))) ∧
          ((isT (AV.bin Go.BinOp.eql (AV.prj r449 1) (AV.int 12))) ∧
          ((AV.flat (AV.bin Go.BinOp.eql (AV.len (AV.prj r449 0)) (AV.int 0))) ∧
          (fSame (AV.bin Go.BinOp.eql (AV.len (AV.prj r449 0)) (AV.int 0)) r))))))))))))) ∧
        ((isF (AV.bin Go.BinOp.gtr x2 (AV.int 200000))) →
          ((AV.isSl x1 2) ∧
          ((AV.binOk Go.BinOp.sub (AV.len x1) (AV.int 1)) ∧
          ((AV.isSl x1 2) ∧
          ((AV.inb x1 (AV.bin Go.BinOp.sub (AV.len x1) (AV.int 1))) ∧
          ((AV.binOk Go.BinOp.add (AV.at x1 (AV.bin Go.BinOp.sub (AV.len x1) (AV.int 1)) 0) (AV.int 360)) ∧
          ((AV.binOk Go.BinOp.lss x2 (AV.bin Go.BinOp.add (AV.at x1 (AV.bin Go.BinOp.sub (AV.len x1) (AV.int 1)) 0) (AV.int 360))) ∧
          ((AV.isBool (AV.bin Go.BinOp.gtr x2 (AV.int 200000))) ∧
          ((isF (AV.bin Go.BinOp.gtr x2 (AV.int 200000))) ∧
          ((AV.isBool (AV.bin Go.BinOp.eql r1217 (AV.int 0))) ∧
          ((isT (AV.bin Go.BinOp.eql r1217 (AV.int 0))) ∧
          ((AV.isBool (AV.bin Go.BinOp.lss x2 (AV.bin Go.BinOp.add (AV.at x1 (AV.bin Go.BinOp.sub (AV.len x1) (AV.int 1)) 0) (AV.int 360)))) ∧
          (((isT (AV.bin Go.BinOp.lss x2 (AV.bin Go.BinOp.add (AV.at x1 (AV.bin Go.BinOp.sub (AV.len x1) (AV.int 1)) 0) (AV.int 360)))) →
            ((AV.binOk Go.BinOp.eql (AV.prj r449 1) (AV.int 12)) ∧
            ((AV.isBool (AV.bin Go.BinOp.eql (AV.prj r449 1) (AV.int 12))) ∧
            ((isT (AV.bin Go.BinOp.eql (AV.prj r449 1) (AV.int 12))) ∧
            ((AV.binOk Go.BinOp.eql (AV.len (AV.prj r449 0)) (AV.int 0)) ∧
            ((AV.isBool (AV.bin Go.BinOp.eql (AV.prj r449 1) (AV.int 12))) ∧
            ((isT (AV.bin Go.BinOp.eql (AV.prj r449 1) (AV.int 12))) ∧
            ((AV.flat (AV.bin Go.BinOp.eql (AV.len (AV.prj r449 0)) (AV.int 0))) ∧
            (fSame (AV.bin Go.BinOp.eql (AV.len (AV.prj r449 0)) (AV.int 0)) r))))))))) ∧
          ((isF (AV.bin Go.BinOp.lss x2 (AV.bin Go.BinOp.add (AV.at x1 (AV.bin Go.BinOp.sub (AV.len x1) (AV.int 1)) 0) (AV.int 360)))) →
            ((AV.binOk Go.BinOp.eql r1217 (AV.int 0)) ∧
            ((AV.isBool (AV.bin Go.BinOp.eql r1217 (AV.int 0))) ∧
            ((isT (AV.bin Go.BinOp.eql r1217 (AV.int 0))) ∧
            ((fEnt Try.prog 34) ∧
            (fAllV fun _ => ((fEnt Try.prog 87) ∧
            (fAllV fun _ => ((AV.isSl x0 4) ∧
            (fLoop 4097 [(AV.int 0)] fun ys4097 again4097 =>
              ((AV.binOk Go.BinOp.lss (ys4097.getD 0 default) (AV.len x0)) ∧
              ((AV.isBool (AV.bin Go.BinOp.lss (ys4097.getD 0 default) (AV.len x0))) ∧
              (((isT (AV.bin Go.BinOp.lss (ys4097.getD 0 default) (AV.len x0))) →
                ((AV.isSl x0 4) ∧
                ((AV.inb x0 (ys4097.getD 0 default)) ∧
                ((fEnt Try.prog 35) ∧
                (fAllV fun _ => ((AV.isAgg (AV.atAgg x0 (ys4097.getD 0 default) 0 4) 4) ∧
                ((AV.binOk Go.BinOp.add (AV.cel (AV.atAgg x0 (ys4097.getD 0 default) 0 4) 0) (AV.int 180)) ∧
                ((AV.binOk Go.BinOp.gtr (AV.bin Go.BinOp.add (AV.cel (AV.atAgg x0 (ys4097.getD 0 default) 0 4) 0) (AV.int 180)) x2) ∧
                ((AV.isBool (AV.bin Go.BinOp.gtr (AV.bin Go.BinOp.add (AV.cel (AV.atAgg x0 (ys4097.getD 0 default) 0 4) 0) (AV.int 180)) x2)) ∧
                (((isT (AV.bin Go.BinOp.gtr (AV.bin Go.BinOp.add (AV.cel (AV.atAgg x0 (ys4097.getD 0 default) 0 4) 0) (AV.int 180)) x2)) →
                  ((AV.binOk Go.BinOp.geq (ys4097.getD 0 default) (AV.int 0)) ∧
                  ((AV.isBool (AV.bin Go.BinOp.eql r1217 (AV.int 0))) ∧
                  ((isT (AV.bin Go.BinOp.eql r1217 (AV.int 0))) ∧
                  ((AV.isBool (AV.bin Go.BinOp.geq (ys4097.getD 0 default) (AV.int 0))) ∧
                  (((isT (AV.bin Go.BinOp.geq (ys4097.getD 0 default) (AV.int 0))) →
                    ((AV.binOk Go.BinOp.eql (AV.prj r449 1) (AV.int 15)) ∧
                    ((AV.isBool (AV.bin Go.BinOp.eql (AV.prj r449 1) (AV.int 15))) ∧
                    ((isT (AV.bin Go.BinOp.eql (AV.prj r449 1) (AV.int 15))) ∧
                    ((AV.binOk Go.BinOp.eql (AV.len (AV.prj r449 0)) (AV.int 0)) ∧
                    ((AV.isBool (AV.bin Go.BinOp.eql (AV.prj r449 1) (AV.int 15))) ∧
                    ((isT (AV.bin Go.BinOp.eql (AV.prj r449 1) (AV.int 15))) ∧
                    ((AV.flat (AV.bin Go.BinOp.eql (AV.len (AV.prj r449 0)) (AV.int 0))) ∧
                    (fSame (AV.bin Go.BinOp.eql (AV.len (AV.prj r449 0)) (AV.int 0)) r))))))))) ∧
                  ((isF (AV.bin Go.BinOp.geq (ys4097.getD 0 default) (AV.int 0))) →
                    ((AV.binOk Go.BinOp.neq r1217 (AV.int 0)) ∧
                    ((AV.isBool (AV.bin Go.BinOp.neq r1217 (AV.int 0))) ∧
                    ((isF (AV.bin Go.BinOp.neq r1217 (AV.int 0))) ∧
                    ((AV.binOk Go.BinOp.eql (AV.prj r449 1) (AV.int 0)) ∧
                    ((AV.isBool (AV.bin Go.BinOp.eql (AV.prj r449 1) (AV.int 0))) ∧
                    ((isT (AV.bin Go.BinOp.eql (AV.prj r449 1) (AV.int 0))) ∧
                    (∃ r6145 : AV, ((Fn Try.prog 37 [x1] (Sh.row 60 2 true) r6145) ∧
                    ((AV.isSl x1 2) ∧
                    ((AV.binOk Go.BinOp.sub (AV.len x1) (AV.int 1)) ∧
                    ((AV.isSl x1 2) ∧
                    ((AV.inb x1 (AV.bin Go.BinOp.sub (AV.len x1) (AV.int 1))) ∧
                    ((AV.binOk Go.BinOp.sub (AV.int 1) (AV.at x1 (AV.bin Go.BinOp.sub (AV.len x1) (AV.int 1)) 1)) ∧
                    ((AV.isOne x2) ∧
                    ((AV.isOne (AV.bin Go.BinOp.sub (AV.int 1) (AV.at x1 (AV.bin Go.BinOp.sub (AV.len x1) (AV.int 1)) 1))) ∧
                    ((AV.room r6145 (AV.mk 2 [[x2, (AV.bin Go.BinOp.sub (AV.int 1) (AV.at x1 (AV.bin Go.BinOp.sub (AV.len x1) (AV.int 1)) 1))]]) 16) ∧
                    (∃ r6977 : AV, ((Fn Try.prog 36 [(AV.prj r449 0), (AV.app 2 r6145 (AV.mk 2 [[x2, (AV.bin Go.BinOp.sub (AV.int 1) (AV.at x1 (AV.bin Go.BinOp.sub (AV.len x1) (AV.int 1)) 1))]]))] Sh.sc r6977) ∧
                    ((AV.isBool (AV.bin Go.BinOp.eql (AV.prj r449 1) (AV.int 0))) ∧
                    ((isT (AV.bin Go.BinOp.eql (AV.prj r449 1) (AV.int 0))) ∧
                    ((AV.flat r6977) ∧
                    (fSame r6977 r))))))))))))))))))))))))))))) ∧
                ((isF (AV.bin Go.BinOp.gtr (AV.bin Go.BinOp.add (AV.cel (AV.atAgg x0 (ys4097.getD 0 default) 0 4) 0) (AV.int 180)) x2)) →
                  ((AV.binOk Go.BinOp.add (ys4097.getD 0 default) (AV.int 1)) ∧
                  (again4097 [(AV.bin Go.BinOp.add (ys4097.getD 0 default) (AV.int 1))]))))))))))))) ∧
              ((isF (AV.bin Go.BinOp.lss (ys4097.getD 0 default) (AV.len x0))) →
                ((AV.isBool (AV.bin Go.BinOp.eql r1217 (AV.int 0))) ∧
                ((isT (AV.bin Go.BinOp.eql r1217 (AV.int 0))) ∧
                ((AV.binOk Go.BinOp.neq r1217 (AV.int 0)) ∧
                ((AV.isBool (AV.bin Go.BinOp.neq r1217 (AV.int 0))) ∧
                ((isF (AV.bin Go.BinOp.neq r1217 (AV.int 0))) ∧
                ((AV.binOk Go.BinOp.eql (AV.prj r449 1) (AV.int 0)) ∧
                ((AV.isBool (AV.bin Go.BinOp.eql (AV.prj r449 1) (AV.int 0))) ∧
                ((isT (AV.bin Go.BinOp.eql (AV.prj r449 1) (AV.int 0))) ∧
                (∃ r4993 : AV, ((Fn Try.prog 37 [x1] (Sh.row 60 2 true) r4993) ∧
                ((AV.isSl x1 2) ∧
                ((AV.binOk Go.BinOp.sub (AV.len x1) (AV.int 1)) ∧
                ((AV.isSl x1 2) ∧
                ((AV.inb x1 (AV.bin Go.BinOp.sub (AV.len x1) (AV.int 1))) ∧
                ((AV.binOk Go.BinOp.sub (AV.int 1) (AV.at x1 (AV.bin Go.BinOp.sub (AV.len x1) (AV.int 1)) 1)) ∧
                ((AV.isOne x2) ∧
                ((AV.isOne (AV.bin Go.BinOp.sub (AV.int 1) (AV.at x1 (AV.bin Go.BinOp.sub (AV.len x1) (AV.int 1)) 1))) ∧
                ((AV.room r4993 (AV.mk 2 [[x2, (AV.bin Go.BinOp.sub (AV.int 1) (AV.at x1 (AV.bin Go.BinOp.sub (AV.len x1) (AV.int 1)) 1))]]) 16) ∧
                (∃ r5825 : AV, ((Fn Try.prog 36 [(AV.prj r449 0), (AV.app 2 r4993 (AV.mk 2 [[x2, (AV.bin Go.BinOp.sub (AV.int 1) (AV.at x1 (AV.bin Go.BinOp.sub (AV.len x1) (AV.int 1)) 1))]]))] Sh.sc r5825) ∧
                ((AV.isBool (AV.bin Go.BinOp.eql (AV.prj r449 1) (AV.int 0))) ∧
                ((isT (AV.bin Go.BinOp.eql (AV.prj r449 1) (AV.int 0))) ∧
                ((AV.flat r5825) ∧
                (fSame r5825 r))))))))))))))))))))))))))))))))))))))))))))))))))))))))))))))))))))))) ∧
  ((isF (AV.bin Go.BinOp.eql r1217 (AV.int 0))) →
    ((AV.isBool (AV.bin Go.BinOp.eql r1217 (AV.int 0))) ∧
    ((isF (AV.bin Go.BinOp.eql r1217 (AV.int 0))) ∧
    ((AV.binOk Go.BinOp.eql r1217 (AV.int 0)) ∧
    ((AV.isBool (AV.bin Go.BinOp.eql r1217 (AV.int 0))) ∧
    ((isF (AV.bin Go.BinOp.eql r1217 (AV.int 0))) ∧
    ((AV.isBool (AV.bin Go.BinOp.eql r1217 (AV.int 0))) ∧
    ((isF (AV.bin Go.BinOp.eql r1217 (AV.int 0))) ∧
    ((AV.binOk Go.BinOp.eql r1217 (AV.int 0)) ∧
    ((AV.isBool (AV.bin Go.BinOp.eql r1217 (AV.int 0))) ∧
    ((isF (AV.bin Go.BinOp.eql r1217 (AV.int 0))) ∧
    ((AV.isBool (AV.bin Go.BinOp.eql r1217 (AV.int 0))) ∧
    ((isF (AV.bin Go.BinOp.eql r1217 (AV.int 0))) ∧
    ((AV.binOk Go.BinOp.neq r1217 (AV.int 0)) ∧
    ((AV.isBool (AV.bin Go.BinOp.neq r1217 (AV.int 0))) ∧
    ((isT (AV.bin Go.BinOp.neq r1217 (AV.int 0))) ∧
    ((AV.binOk Go.BinOp.eql (AV.prj r449 1) r1217) ∧
    ((AV.isBool (AV.bin Go.BinOp.eql (AV.prj r449 1) r1217)) ∧
    ((isT (AV.bin Go.BinOp.eql (AV.prj r449 1) r1217)) ∧
    ((AV.binOk Go.BinOp.eql (AV.len (AV.prj r449 0)) (AV.int 0)) ∧
    ((AV.isBool (AV.bin Go.BinOp.eql (AV.prj r449 1) r1217)) ∧
    ((isT (AV.bin Go.BinOp.eql (AV.prj r449 1) r1217)) ∧
    ((AV.flat (AV.bin Go.BinOp.eql (AV.len (AV.prj r449 0)) (AV.int 0))) ∧
    (fSame (AV.bin Go.BinOp.eql (AV.len (AV.prj r449 0)) (AV.int 0)) r)))))))))))))))))))))))))))))) ∧
((isF (AV.bin Go.BinOp.eql r897 (AV.int 0))) →
  ((AV.binOk Go.BinOp.eql r897 (AV.int 0)) ∧
  ((AV.isBool (AV.bin Go.BinOp.eql r897 (AV.int 0))) ∧
  ((isF (AV.bin Go.BinOp.eql r897 (AV.int 0))) ∧
  ((AV.isBool (AV.bin Go.BinOp.eql r897 (AV.int 0))) ∧
  ((isF (AV.bin Go.BinOp.eql r897 (AV.int 0))) ∧
  ((AV.binOk Go.BinOp.eql r897 (AV.int 0)) ∧
  ((AV.isBool (AV.bin Go.BinOp.eql r897 (AV.int 0))) ∧
  ((isF (AV.bin Go.BinOp.eql r897 (AV.int 0))) ∧
  ((AV.isBool (AV.bin Go.BinOp.eql r897 (AV.int 0))) ∧
  ((isF (AV.bin Go.BinOp.eql r897 (AV.int 0))) ∧
  ((AV.binOk Go.BinOp.eql r897 (AV.int 0)) ∧
  ((AV.isBool (AV.bin Go.BinOp.eql r897 (AV.int 0))) ∧
  ((isF (AV.bin Go.BinOp.eql r897 (AV.int 0))) ∧
  ((AV.isBool (AV.bin Go.BinOp.eql r897 (AV.int 0))) ∧
  ((isF (AV.bin Go.BinOp.eql r897 (AV.int 0))) ∧
  ((AV.binOk Go.BinOp.neq r897 (AV.int 0)) ∧
  ((AV.isBool (AV.bin Go.BinOp.neq r897 (AV.int 0))) ∧
  ((isT (AV.bin Go.BinOp.neq r897 (AV.int 0))) ∧
  ((AV.binOk Go.BinOp.eql (AV.prj r449 1) r897) ∧
  ((AV.isBool (AV.bin Go.BinOp.eql (AV.prj r449 1) r897)) ∧
  ((isT (AV.bin Go.BinOp.eql (AV.prj r449 1) r897)) ∧
  ((AV.binOk Go.BinOp.eql (AV.len (AV.prj r449 0)) (AV.int 0)) ∧
  ((AV.isBool (AV.bin Go.BinOp.eql (AV.prj r449 1) r897)) ∧
  ((isT (AV.bin Go.BinOp.eql (AV.prj r449 1) r897)) ∧
  ((AV.flat (AV.bin Go.BinOp.eql (AV.len (AV.prj r449 0)) (AV.int 0))) ∧
  (fSame (AV.bin Go.BinOp.eql (AV.len (AV.prj r449 0)) (AV.int 0)) r))))))))))))))))))))))))))))))))))))))))) := by kernel_rfl
end RunwayG
end Go.Proofs.Ytlhhdonpoglfkaa
