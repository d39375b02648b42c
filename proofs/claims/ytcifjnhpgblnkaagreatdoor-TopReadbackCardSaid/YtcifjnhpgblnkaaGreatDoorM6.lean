/- Texts of one proof, part 6: plain values, a run over them, contracts of functions. -/
import Derived.Test.YtcifjnhpgblnkaaGreatDoorM3
import Derived.Test.YtcifjnhpgblnkaaGreatDoorM5
import Derived.Test.YtcifjnhpgblnkaaGreatDoorM4
namespace Go.Proofs.YtcifjnhpgblnkaaGreatDoor
open Go.RowKit
set_option linter.unusedVariables false
set_option maxRecDepth 100000
namespace SecF
def Γ : FuncId → Option Ca := fun f =>
 if f = 67 ∨ f = 230 ∨ f = 299 ∨ f = 251 ∨ f = 78 ∨ f = 20 ∨ f = 130 then some (.fn .sc)
 else if f = 193 ∨ f = 194 ∨ f = 192 ∨ f = 129 ∨ f = 68 then some (.fn (.tup [.sc, .sc]))
 else some .inl
def ann : FuncId → Nat → LoopEx := fun f r => ⟨[], [], [], []⟩
theorem pcheck_form (x0 r : AV) : fnF Tryz.prog Γ ann 3 67 Tryz.f67 (Tryz.f67.body.getD .skip) (.nil) [x0] (.sc) r = (((AV.isAgg x0 2) ∧
(let +zeta σ0 := (AV.cel x0 0)
 let +zeta σ3 := (AV.int (-1000000))
((AV.binOk Go.BinOp.lss σ0 σ3) ∧
(let +zeta σ7 := (AV.bin Go.BinOp.lss σ0 σ3)
 let +zeta σ16 := (AV.isBool σ7)
(σ16 ∧
(let +zeta σ4 := ((AV.flat (AV.int 4)) ∧
(fSame (AV.int 4) r))
((let +zeta σ11 := (isT σ7)
(σ11 →
(σ16 ∧
(σ11 ∧
 σ4)))) ∧
(let +zeta σ12 := (isF σ7)
(σ12 →
(let +zeta σ2 := (AV.int 1000000)
((AV.binOk Go.BinOp.gtr σ0 σ2) ∧
(σ16 ∧
(σ12 ∧
(let +zeta σ5 := (AV.bin Go.BinOp.gtr σ0 σ2)
 let +zeta σ15 := (AV.isBool σ5)
(σ15 ∧
((let +zeta σ9 := (isT σ5)
(σ9 →
(σ15 ∧
(σ9 ∧
 σ4)))) ∧
(let +zeta σ10 := (isF σ5)
(σ10 →
(let +zeta σ1 := (AV.cel x0 1)
((AV.binOk Go.BinOp.lss σ1 σ3) ∧
(σ15 ∧
(σ10 ∧
(let +zeta σ8 := (AV.bin Go.BinOp.lss σ1 σ3)
 let +zeta σ17 := (AV.isBool σ8)
(σ17 ∧
((let +zeta σ13 := (isT σ8)
(σ13 →
(σ17 ∧
(σ13 ∧
 σ4)))) ∧
(let +zeta σ14 := (isF σ8)
(σ14 →
((AV.binOk Go.BinOp.gtr σ1 σ2) ∧
(σ17 ∧
(σ14 ∧
(let +zeta σ6 := (AV.bin Go.BinOp.gtr σ1 σ2)
((AV.isBool σ6) ∧
(((isT σ6) →
 σ4) ∧
((isF σ6) →
((AV.flat (AV.int 0)) ∧
(fSame (AV.int 0) r))))))))))))))))))))))))))))))))))))) := by kernel_rfl
theorem sub_form (x0 x1 r : AV) : fnF Tryz.prog Γ ann 3 230 Tryz.f230 (Tryz.f230.body.getD .skip) (.nil) [x0, x1] (.sc) r = (((AV.isAgg x0 2) ∧
((AV.isAgg x1 2) ∧
((AV.binOk Go.BinOp.sub (AV.cel x0 0) (AV.cel x1 0)) ∧
((AV.binOk Go.BinOp.sub (AV.cel x0 1) (AV.cel x1 1)) ∧
(let +zeta σ0 := (AV.bin Go.BinOp.sub (AV.cel x0 0) (AV.cel x1 0))
((AV.isOne σ0) ∧
(let +zeta σ1 := (AV.bin Go.BinOp.sub (AV.cel x0 1) (AV.cel x1 1))
((AV.isOne σ1) ∧
(let +zeta σ2 := (AV.agg [σ0, σ1])
((AV.flat σ2) ∧
(fSame σ2 r)))))))))))) := by kernel_rfl
theorem dot_form (x0 x1 r : AV) : fnF Tryz.prog Γ ann 3 299 Tryz.f299 (Tryz.f299.body.getD .skip) (.nil) [x0, x1] (.sc) r = (((AV.isAgg x0 2) ∧
((AV.isAgg x1 2) ∧
((AV.binOk Go.BinOp.mul (AV.cel x0 0) (AV.cel x1 0)) ∧
((AV.binOk Go.BinOp.mul (AV.cel x0 1) (AV.cel x1 1)) ∧
(let +zeta σ0 := (AV.bin Go.BinOp.mul (AV.cel x0 0) (AV.cel x1 0))
 let +zeta σ1 := (AV.bin Go.BinOp.mul (AV.cel x0 1) (AV.cel x1 1))
((AV.binOk Go.BinOp.add σ0 σ1) ∧
(let +zeta σ2 := (AV.bin Go.BinOp.add σ0 σ1)
((AV.flat σ2) ∧
(fSame σ2 r)))))))))) := by kernel_rfl
theorem square_form (x0 x1 r : AV) : fnF Tryz.prog Γ ann 3 251 Tryz.f251 (Tryz.f251.body.getD .skip) (.nil) [x0, x1] (.sc) r = (((AV.isAgg x0 2) ∧
((AV.isAgg x1 2) ∧
(∃ r321 : AV, ((Fn Tryz.prog 230 [(AV.agg [(AV.cel x0 0), (AV.cel x0 1)]), (AV.agg [(AV.cel x1 0), (AV.cel x1 1)])] Sh.sc r321) ∧
((AV.isAgg r321 2) ∧
(∃ r641 : AV, ((let +zeta σ0 := (AV.agg [(AV.cel r321 0), (AV.cel r321 1)])
(Fn Tryz.prog 299 [σ0, σ0] Sh.sc r641)) ∧
((AV.flat r641) ∧
(fSame r641 r)))))))))) := by kernel_rfl
theorem divd_form (x0 x1 r : AV) : fnF Tryz.prog Γ ann 3 193 Tryz.f193 (Tryz.f193.body.getD .skip) (.nil) [x0, x1] (.tup [.sc, .sc]) r = (((AV.binOk Go.BinOp.eql x1 (AV.int 0)) ∧
(let +zeta σ3 := (AV.bin Go.BinOp.eql x1 (AV.int 0))
((AV.isBool σ3) ∧
(let +zeta σ0 := (AV.flat (AV.int 0))
(((isT σ3) →
(σ0 ∧
((AV.flat (AV.int 10)) ∧
(fSame (AV.tup [(AV.int 0), (AV.int 10)]) r)))) ∧
((isF σ3) →
(let +zeta σ2 := (AV.int (-9223372036854775808))
((AV.binOk Go.BinOp.eql x0 σ2) ∧
(let +zeta σ7 := (AV.bin Go.BinOp.eql x0 σ2)
 let +zeta σ14 := (AV.isBool σ7)
(σ14 ∧
(let +zeta σ1 := (AV.bin Go.BinOp.quo x0 x1)
 let +zeta σ4 := (AV.bin Go.BinOp.lss x0 (AV.int 0))
 let +zeta σ5 := (AV.bin Go.BinOp.lss x1 (AV.int 0))
 let +zeta σ8 := (AV.bin Go.BinOp.neq (AV.bin Go.BinOp.rem x0 x1) (AV.int 0))
 let +zeta σ9 := (AV.bin Go.BinOp.sub σ1 (AV.int 1))
 let +zeta σ12 := (isT σ8)
 let +zeta σ13 := (isF σ8)
 let +zeta σ15 := (AV.isBool σ8)
 let +zeta σ16 := (AV.neB σ4 σ5)
 let +zeta σ17 := ((AV.flat σ1) ∧
(σ0 ∧
(fSame (AV.tup [σ1, (AV.int 0)]) r)))
 let +zeta σ18 := ((AV.binOk Go.BinOp.quo x0 x1) ∧
((AV.binOk Go.BinOp.rem x0 x1) ∧
((AV.binOk Go.BinOp.neq (AV.bin Go.BinOp.rem x0 x1) (AV.int 0)) ∧
(σ15 ∧
((σ12 →
((AV.binOk Go.BinOp.lss x0 (AV.int 0)) ∧
((AV.binOk Go.BinOp.lss x1 (AV.int 0)) ∧
((AV.isBool σ4) ∧
((AV.isBool σ5) ∧
(σ15 ∧
(σ12 ∧
((AV.isBool σ16) ∧
(((isT σ16) →
((AV.binOk Go.BinOp.sub σ1 (AV.int 1)) ∧
((AV.flat σ9) ∧
(σ0 ∧
(fSame (AV.tup [σ9, (AV.int 0)]) r))))) ∧
((isF σ16) →
 σ17)))))))))) ∧
(σ13 →
(σ15 ∧
(σ13 ∧
 σ17))))))))
((let +zeta σ10 := (isT σ7)
(σ10 →
((AV.binOk Go.BinOp.eql x1 (AV.int (-1))) ∧
(σ14 ∧
(σ10 ∧
(let +zeta σ6 := (AV.bin Go.BinOp.eql x1 (AV.int (-1)))
((AV.isBool σ6) ∧
(((isT σ6) →
(σ0 ∧
((AV.flat (AV.int 2)) ∧
(fSame (AV.tup [(AV.int 0), (AV.int 2)]) r)))) ∧
((isF σ6) →
 σ18))))))))) ∧
(let +zeta σ11 := (isF σ7)
(σ11 →
(σ14 ∧
(σ11 ∧
 σ18))))))))))))))))) := by kernel_rfl
theorem divu_form (x0 x1 r : AV) : fnF Tryz.prog Γ ann 3 194 Tryz.f194 (Tryz.f194.body.getD .skip) (.nil) [x0, x1] (.tup [.sc, .sc]) r = ((∃ r257 : AV, ((Fn Tryz.prog 193 [x0, x1] (Sh.tup [Sh.sc, Sh.sc]) r257) ∧
(let +zeta σ0 := (AV.prj r257 1)
((AV.binOk Go.BinOp.eql σ0 (AV.int 0)) ∧
(let +zeta σ2 := (AV.bin Go.BinOp.eql σ0 (AV.int 0))
 let +zeta σ6 := (AV.isBool σ2)
(σ6 ∧
(let +zeta σ1 := (AV.prj r257 0)
 let +zeta σ8 := ((AV.flat σ1) ∧
((AV.flat σ0) ∧
(fSame (AV.tup [σ1, σ0]) r)))
((let +zeta σ4 := (isT σ2)
(σ4 →
((AV.binOk Go.BinOp.rem x0 x1) ∧
((AV.binOk Go.BinOp.neq (AV.bin Go.BinOp.rem x0 x1) (AV.int 0)) ∧
(σ6 ∧
(σ4 ∧
(let +zeta σ7 := (AV.bin Go.BinOp.neq (AV.bin Go.BinOp.rem x0 x1) (AV.int 0))
((AV.isBool σ7) ∧
(((isT σ7) →
((AV.binOk Go.BinOp.add σ1 (AV.int 1)) ∧
(let +zeta σ3 := (AV.bin Go.BinOp.add σ1 (AV.int 1))
((AV.flat σ3) ∧
((AV.flat σ0) ∧
(fSame (AV.tup [σ3, σ0]) r)))))) ∧
((isF σ7) →
 σ8)))))))))) ∧
(let +zeta σ5 := (isF σ2)
(σ5 →
(σ6 ∧
(σ5 ∧
 σ8))))))))))))) := by kernel_rfl
theorem toward_form (x0 x1 x2 x3 r : AV) : fnF Tryz.prog Γ ann 3 192 Tryz.f192 (Tryz.f192.body.getD .skip) (.nil) [x0, x1, x2, x3] (.tup [.sc, .sc]) r = (((AV.isAgg x0 2) ∧
((AV.isAgg x1 2) ∧
((AV.binOk Go.BinOp.leq x3 (AV.int 0)) ∧
(let +zeta σ4 := (AV.bin Go.BinOp.leq x3 (AV.int 0))
((AV.isBool σ4) ∧
(let +zeta σ3 := (AV.agg [(AV.int 0), (AV.int 0)])
 let +zeta σ13 := (AV.flat σ3)
(((isT σ4) →
(σ13 ∧
((AV.flat (AV.int 10)) ∧
(fSame (AV.tup [σ3, (AV.int 10)]) r)))) ∧
((isF σ4) →
((AV.binOk Go.BinOp.gtr x3 (AV.int 200000)) ∧
(let +zeta σ10 := (AV.bin Go.BinOp.gtr x3 (AV.int 200000))
 let +zeta σ19 := (AV.isBool σ10)
(σ19 ∧
(let +zeta σ23 := (σ13 ∧
((AV.flat (AV.int 4)) ∧
(fSame (AV.tup [σ3, (AV.int 4)]) r)))
((let +zeta σ14 := (isT σ10)
(σ14 →
(σ19 ∧
(σ14 ∧
 σ23)))) ∧
(let +zeta σ15 := (isF σ10)
(σ15 →
((AV.binOk Go.BinOp.lss x2 (AV.int 0)) ∧
(σ19 ∧
(σ15 ∧
(let +zeta σ5 := (AV.bin Go.BinOp.lss x2 (AV.int 0))
 let +zeta σ16 := (AV.isBool σ5)
(σ16 ∧
((let +zeta σ11 := (isT σ5)
(σ11 →
(σ16 ∧
(σ11 ∧
 σ23)))) ∧
(let +zeta σ12 := (isF σ5)
(σ12 →
((AV.binOk Go.BinOp.gtr x2 x3) ∧
(σ16 ∧
(σ12 ∧
(let +zeta σ2 := (AV.bin Go.BinOp.gtr x2 x3)
((AV.isBool σ2) ∧
(((isT σ2) →
 σ23) ∧
((isF σ2) →
(∃ r1281 : AV, (let +zeta σ0 := (AV.cel x0 0)
 let +zeta σ1 := (AV.cel x0 1)
 let +zeta σ8 := (AV.agg [σ0, σ1])
((Fn Tryz.prog 67 [σ8] Sh.sc r1281) ∧
((AV.binOk Go.BinOp.neq r1281 (AV.int 0)) ∧
(let +zeta σ6 := (AV.bin Go.BinOp.neq r1281 (AV.int 0))
((AV.isBool σ6) ∧
(((isT σ6) →
(∃ r1601 : AV, ((Fn Tryz.prog 67 [σ8] Sh.sc r1601) ∧
(σ13 ∧
((AV.flat r1601) ∧
(fSame (AV.tup [σ3, r1601]) r)))))) ∧
((isF σ6) →
(∃ r1537 : AV, (let +zeta σ9 := (AV.agg [(AV.cel x1 0), (AV.cel x1 1)])
((Fn Tryz.prog 67 [σ9] Sh.sc r1537) ∧
((AV.binOk Go.BinOp.neq r1537 (AV.int 0)) ∧
(let +zeta σ7 := (AV.bin Go.BinOp.neq r1537 (AV.int 0))
((AV.isBool σ7) ∧
(((isT σ7) →
(∃ r1857 : AV, ((Fn Tryz.prog 67 [σ9] Sh.sc r1857) ∧
(σ13 ∧
((AV.flat r1857) ∧
(fSame (AV.tup [σ3, r1857]) r)))))) ∧
((isF σ7) →
((AV.binOk Go.BinOp.sub (AV.cel x1 0) σ0) ∧
(let +zeta σ17 := (AV.bin Go.BinOp.sub (AV.cel x1 0) σ0)
((AV.binOk Go.BinOp.mul σ17 x2) ∧
(∃ r2241 : AV, ((Fn Tryz.prog 193 [(AV.bin Go.BinOp.mul σ17 x2), x3] (Sh.tup [Sh.sc, Sh.sc]) r2241) ∧
((AV.binOk Go.BinOp.sub (AV.cel x1 1) σ1) ∧
(let +zeta σ18 := (AV.bin Go.BinOp.sub (AV.cel x1 1) σ1)
((AV.binOk Go.BinOp.mul σ18 x2) ∧
(∃ r3137 : AV, ((Fn Tryz.prog 193 [(AV.bin Go.BinOp.mul σ18 x2), x3] (Sh.tup [Sh.sc, Sh.sc]) r3137) ∧
((AV.binOk Go.BinOp.add σ0 (AV.prj r2241 0)) ∧
((AV.binOk Go.BinOp.add σ1 (AV.prj r3137 0)) ∧
(let +zeta σ20 := (AV.bin Go.BinOp.add σ0 (AV.prj r2241 0))
((AV.isOne σ20) ∧
(let +zeta σ21 := (AV.bin Go.BinOp.add σ1 (AV.prj r3137 0))
((AV.isOne σ21) ∧
(let +zeta σ22 := (AV.agg [σ20, σ21])
((AV.flat σ22) ∧
((AV.flat (AV.int 0)) ∧
(fSame (AV.tup [σ22, (AV.int 0)]) r))))))))))))))))))))))))))))))))))))))))))))))))))))))))))))))))))) := by kernel_rfl
theorem tcheck_form (x0 r : AV) : fnF Tryz.prog Γ ann 3 20 Tryz.f20 (Tryz.f20.body.getD .skip) (.nil) [x0] (.sc) r = ((let +zeta σ0 := (AV.isSl x0 6)
(σ0 ∧
((AV.binOk Go.BinOp.gtr (AV.len x0) (AV.int 64)) ∧
(let +zeta σ7 := (AV.bin Go.BinOp.gtr (AV.len x0) (AV.int 64))
((AV.isBool σ7) ∧
(((isT σ7) →
((AV.flat (AV.int 2)) ∧
(fSame (AV.int 2) r))) ∧
((isF σ7) →
(σ0 ∧
((AV.binOk Go.BinOp.eql (AV.len x0) (AV.int 0)) ∧
(let +zeta σ6 := (AV.bin Go.BinOp.eql (AV.len x0) (AV.int 0))
((AV.isBool σ6) ∧
(((isT σ6) →
((AV.flat (AV.int 3)) ∧
(fSame (AV.int 3) r))) ∧
((isF σ6) →
(σ0 ∧
(fLoop 769 [(AV.int 0)] fun ys769 again769 =>
(let +zeta σ2 := (ys769.getD 0 default)
((AV.binOk Go.BinOp.lss σ2 (AV.len x0)) ∧
(let +zeta σ16 := (AV.bin Go.BinOp.lss σ2 (AV.len x0))
((AV.isBool σ16) ∧
(((isT σ16) →
(σ0 ∧
((AV.inb x0 σ2) ∧
(let +zeta σ5 := (AV.atAgg x0 σ2 0 6)
((AV.isAgg σ5 6) ∧
(let +zeta σ10 := (AV.cel σ5 0)
((AV.binOk Go.BinOp.lss σ10 (AV.int 0)) ∧
(let +zeta σ21 := (AV.bin Go.BinOp.lss σ10 (AV.int 0))
 let +zeta σ41 := (AV.isBool σ21)
(σ41 ∧
(let +zeta σ9 := ((AV.flat (AV.int 12)) ∧
(fSame (AV.int 12) r))
((let +zeta σ28 := (isT σ21)
(σ28 →
(σ41 ∧
(σ28 ∧
 σ9)))) ∧
(let +zeta σ29 := (isF σ21)
(σ29 →
((AV.binOk Go.BinOp.gtr σ10 (AV.int 200000)) ∧
(σ41 ∧
(σ29 ∧
(let +zeta σ27 := (AV.bin Go.BinOp.gtr σ10 (AV.int 200000))
 let +zeta σ48 := (AV.isBool σ27)
(σ48 ∧
((let +zeta σ39 := (isT σ27)
(σ39 →
(σ48 ∧
(σ39 ∧
 σ9)))) ∧
(let +zeta σ40 := (isF σ27)
(σ40 →
((AV.binOk Go.BinOp.gtr σ2 (AV.int 0)) ∧
(let +zeta σ14 := (AV.bin Go.BinOp.gtr σ2 (AV.int 0))
 let +zeta σ19 := (AV.isBool σ14)
(σ19 ∧
(let +zeta σ1 := (AV.int 60000)
 let +zeta σ8 := ((AV.flat (AV.int 4)) ∧
(fSame (AV.int 4) r))
 let +zeta σ11 := (AV.cel σ5 3)
 let +zeta σ12 := (AV.cel σ5 4)
 let +zeta σ13 := (AV.cel σ5 5)
 let +zeta σ22 := (AV.bin Go.BinOp.lss σ11 (AV.int 0))
 let +zeta σ23 := (AV.bin Go.BinOp.lss σ12 (AV.int 0))
 let +zeta σ24 := (AV.bin Go.BinOp.lss σ13 (AV.int 0))
 let +zeta σ25 := (AV.bin Go.BinOp.gtr σ11 σ1)
 let +zeta σ26 := (AV.bin Go.BinOp.gtr σ13 σ1)
 let +zeta σ30 := (isT σ22)
 let +zeta σ31 := (isF σ22)
 let +zeta σ32 := (isT σ23)
 let +zeta σ33 := (isF σ23)
 let +zeta σ34 := (AV.bin Go.BinOp.gtr σ12 (AV.int 1000000))
 let +zeta σ35 := (isT σ24)
 let +zeta σ36 := (isF σ24)
 let +zeta σ37 := (isT σ25)
 let +zeta σ38 := (isF σ25)
 let +zeta σ42 := (AV.isBool σ22)
 let +zeta σ43 := (AV.isBool σ23)
 let +zeta σ44 := (isT σ34)
 let +zeta σ45 := (isF σ34)
 let +zeta σ46 := (AV.isBool σ24)
 let +zeta σ47 := (AV.isBool σ25)
 let +zeta σ49 := (AV.isBool σ34)
 let +zeta σ50 := (AV.agg [(AV.cel σ5 1), (AV.cel σ5 2)])
 let +zeta σ52 := ((AV.binOk Go.BinOp.lss σ11 (AV.int 0)) ∧
(σ42 ∧
((σ30 →
(σ42 ∧
(σ30 ∧
 σ8))) ∧
(σ31 →
((AV.binOk Go.BinOp.gtr σ11 σ1) ∧
(σ42 ∧
(σ31 ∧
(σ47 ∧
((σ37 →
(σ47 ∧
(σ37 ∧
 σ8))) ∧
(σ38 →
((AV.binOk Go.BinOp.lss σ12 (AV.int 0)) ∧
(σ47 ∧
(σ38 ∧
(σ43 ∧
((σ32 →
(σ43 ∧
(σ32 ∧
 σ8))) ∧
(σ33 →
((AV.binOk Go.BinOp.gtr σ12 (AV.int 1000000)) ∧
(σ43 ∧
(σ33 ∧
(σ49 ∧
((σ44 →
(σ49 ∧
(σ44 ∧
 σ8))) ∧
(σ45 →
((AV.binOk Go.BinOp.lss σ13 (AV.int 0)) ∧
(σ49 ∧
(σ45 ∧
(σ46 ∧
((σ35 →
(σ46 ∧
(σ35 ∧
 σ8))) ∧
(σ36 →
((AV.binOk Go.BinOp.gtr σ13 σ1) ∧
(σ46 ∧
(σ36 ∧
((AV.isBool σ26) ∧
(((isT σ26) →
 σ8) ∧
((isF σ26) →
((AV.binOk Go.BinOp.add σ2 (AV.int 1)) ∧
(again769 [(AV.bin Go.BinOp.add σ2 (AV.int 1))]))))))))))))))))))))))))))))))))))))
 let +zeta σ53 := (∃ r3137 : AV, ((Fn Tryz.prog 67 [σ50] Sh.sc r3137) ∧
((AV.binOk Go.BinOp.neq r3137 (AV.int 0)) ∧
(let +zeta σ3 := (AV.bin Go.BinOp.neq r3137 (AV.int 0))
((AV.isBool σ3) ∧
(((isT σ3) →
((AV.flat r3137) ∧
(fSame r3137 r))) ∧
((isF σ3) →
 σ52)))))))
((let +zeta σ17 := (isT σ14)
(σ17 →
((AV.binOk Go.BinOp.sub σ2 (AV.int 1)) ∧
(σ0 ∧
(let +zeta σ15 := (AV.bin Go.BinOp.sub σ2 (AV.int 1))
((AV.inb x0 σ15) ∧
(let +zeta σ20 := (AV.at x0 σ15 0)
((AV.binOk Go.BinOp.leq σ10 σ20) ∧
(σ19 ∧
(σ17 ∧
(σ48 ∧
(σ40 ∧
(let +zeta σ51 := (AV.bin Go.BinOp.leq σ10 σ20)
((AV.isBool σ51) ∧
(((isT σ51) →
 σ9) ∧
((isF σ51) →
 σ53)))))))))))))))) ∧
(let +zeta σ18 := (isF σ14)
(σ18 →
(σ19 ∧
(σ18 ∧
(σ48 ∧
(σ40 ∧
 σ53)))))))))))))))))))))))))))))))) ∧
((isF σ16) →
((AV.flat (AV.int 0)) ∧
(fSame (AV.int 0) r)))))))))))))))))))))))) := by kernel_rfl
theorem ends_form (x0 r : AV) : fnF Tryz.prog Γ ann 3 129 Tryz.f129 (Tryz.f129.body.getD .skip) (.nil) [x0] (.tup [.sc, .sc]) r = (((AV.isSl x0 6) ∧
((AV.inb x0 (AV.int 0)) ∧
((AV.isSl x0 6) ∧
((AV.binOk Go.BinOp.sub (AV.len x0) (AV.int 1)) ∧
((AV.isSl x0 6) ∧
(let +zeta σ0 := (AV.bin Go.BinOp.sub (AV.len x0) (AV.int 1))
((AV.inb x0 σ0) ∧
((AV.flat (AV.at x0 (AV.int 0) 0)) ∧
(let +zeta σ1 := (AV.at x0 σ0 0)
((AV.flat σ1) ∧
(fSame (AV.tup [(AV.at x0 (AV.int 0) 0), σ1]) r)))))))))))) := by kernel_rfl
theorem at_form (x0 x1 r : AV) : fnF Tryz.prog Γ ann 3 130 Tryz.f130 (Tryz.f130.body.getD .skip) (.nil) [x0, x1] (.sc) r = (((fEnt Tryz.prog 190) ∧
(fAllV fun _ => (let +zeta σ0 := (AV.isSl x0 6)
(σ0 ∧
(fLoop 769 [(AV.int 0), (AV.len x0)] fun ys769 again769 =>
(let +zeta σ1 := (ys769.getD 0 default)
 let +zeta σ2 := (ys769.getD 1 default)
((AV.binOk Go.BinOp.lss σ1 σ2) ∧
(let +zeta σ19 := (AV.bin Go.BinOp.lss σ1 σ2)
((AV.isBool σ19) ∧
(((isT σ19) →
((AV.binOk Go.BinOp.add σ1 σ2) ∧
(let +zeta σ20 := (AV.bin Go.BinOp.add σ1 σ2)
((AV.isInt σ20) ∧
(let +zeta σ5 := (AV.lit (Value.int Go.IntKind.u64 1))
 let +zeta σ30 := (AV.conv Go.IntKind.u64 σ20)
((AV.shfOk σ30 σ5) ∧
(let +zeta σ41 := (AV.shf Go.BinOp.shr σ30 σ5)
((AV.isInt σ41) ∧
(σ0 ∧
(let +zeta σ50 := (AV.conv Go.IntKind.i64 σ41)
((AV.inb x0 σ50) ∧
((fEnt Tryz.prog 191) ∧
(fAllV fun _ => (let +zeta σ52 := (AV.atAgg x0 σ50 0 6)
((AV.isAgg σ52 6) ∧
(let +zeta σ53 := (AV.cel σ52 0)
((AV.binOk Go.BinOp.sub σ53 x1) ∧
(let +zeta σ54 := (AV.bin Go.BinOp.sub σ53 x1)
((AV.binOk Go.BinOp.lss σ54 (AV.int 0)) ∧
(let +zeta σ55 := (AV.bin Go.BinOp.lss σ54 (AV.int 0))
((AV.isBool σ55) ∧
(((isT σ55) →
((AV.binOk Go.BinOp.add σ50 (AV.int 1)) ∧
(again769 [(AV.bin Go.BinOp.add σ50 (AV.int 1)), σ2]))) ∧
((isF σ55) →
(again769 [σ1, σ50])))))))))))))))))))))))) ∧
((isF σ19) →
((AV.binOk Go.BinOp.lss σ1 (AV.len x0)) ∧
(let +zeta σ15 := (AV.bin Go.BinOp.lss σ1 (AV.len x0))
 let +zeta σ22 := (AV.isBool σ15)
(σ22 ∧
(let +zeta σ3 := (Sh.tup [Sh.sc, Sh.sc])
 let +zeta σ4 := (AV.inb x0 σ1)
 let +zeta σ6 := (AV.atAgg x0 σ1 0 6)
 let +zeta σ7 := (AV.cel σ6 0)
 let +zeta σ8 := (AV.cel σ6 1)
 let +zeta σ9 := (AV.cel σ6 2)
 let +zeta σ10 := (AV.cel σ6 3)
 let +zeta σ11 := (AV.cel σ6 4)
 let +zeta σ12 := (AV.cel σ6 5)
 let +zeta σ13 := (AV.isAgg σ6 6)
 let +zeta σ14 := (AV.bin Go.BinOp.sub σ1 (AV.int 1))
 let +zeta σ16 := (AV.binOk Go.BinOp.sub σ1 (AV.int 1))
 let +zeta σ21 := (AV.inb x0 σ14)
 let +zeta σ23 := (AV.atAgg x0 σ14 0 6)
 let +zeta σ25 := (AV.cel σ23 0)
 let +zeta σ26 := (AV.cel σ23 3)
 let +zeta σ27 := (AV.cel σ23 4)
 let +zeta σ28 := (AV.cel σ23 5)
 let +zeta σ29 := (AV.isAgg σ23 6)
 let +zeta σ32 := (AV.bin Go.BinOp.sub x1 σ25)
 let +zeta σ33 := (AV.binOk Go.BinOp.sub x1 σ25)
 let +zeta σ34 := (AV.agg [σ8, σ9])
 let +zeta σ42 := (AV.bin Go.BinOp.sub σ7 σ25)
 let +zeta σ43 := (AV.bin Go.BinOp.sub σ10 σ26)
 let +zeta σ44 := (AV.bin Go.BinOp.sub σ11 σ27)
 let +zeta σ45 := (AV.bin Go.BinOp.sub σ12 σ28)
 let +zeta σ46 := (AV.binOk Go.BinOp.sub σ7 σ25)
 let +zeta σ47 := (AV.binOk Go.BinOp.sub σ10 σ26)
 let +zeta σ48 := (AV.binOk Go.BinOp.sub σ11 σ27)
 let +zeta σ49 := (AV.binOk Go.BinOp.sub σ12 σ28)
 let +zeta σ51 := (AV.agg [(AV.cel σ23 1), (AV.cel σ23 2)])
 let +zeta σ56 := (AV.bin Go.BinOp.mul σ43 σ32)
 let +zeta σ57 := (AV.bin Go.BinOp.mul σ44 σ32)
 let +zeta σ58 := (AV.bin Go.BinOp.mul σ45 σ32)
 let +zeta σ59 := (AV.binOk Go.BinOp.mul σ43 σ32)
 let +zeta σ60 := (AV.binOk Go.BinOp.mul σ44 σ32)
 let +zeta σ61 := (AV.binOk Go.BinOp.mul σ45 σ32)
((let +zeta σ17 := (isT σ15)
(σ17 →
(σ0 ∧
(σ4 ∧
((fEnt Tryz.prog 191) ∧
(fAllV fun _ => (σ13 ∧
((AV.binOk Go.BinOp.sub σ7 x1) ∧
(let +zeta σ24 := (AV.bin Go.BinOp.sub σ7 x1)
((AV.binOk Go.BinOp.eql σ24 (AV.int 0)) ∧
(σ22 ∧
(σ17 ∧
(let +zeta σ31 := (AV.bin Go.BinOp.eql σ24 (AV.int 0))
((AV.isBool σ31) ∧
(((isT σ31) →
(σ0 ∧
(σ4 ∧
(σ13 ∧
(let +zeta σ62 := (AV.agg [σ7, σ8, σ9, σ10, σ11, σ12])
((AV.flat σ62) ∧
(fSame σ62 r))))))) ∧
((isF σ31) →
(σ16 ∧
(σ0 ∧
(σ21 ∧
(σ0 ∧
(σ4 ∧
(σ29 ∧
(σ13 ∧
(σ33 ∧
(σ46 ∧
(∃ r5249 : AV, ((Fn Tryz.prog 192 [σ51, σ34, σ32, σ42] σ3 r5249) ∧
((AV.isAgg (AV.prj r5249 0) 2) ∧
(σ47 ∧
(σ59 ∧
(∃ r6337 : AV, ((Fn Tryz.prog 193 [σ56, σ42] σ3 r6337) ∧
(σ48 ∧
(σ60 ∧
(∃ r7233 : AV, ((Fn Tryz.prog 194 [σ57, σ42] σ3 r7233) ∧
(σ49 ∧
(σ61 ∧
(∃ r8129 : AV, ((Fn Tryz.prog 194 [σ58, σ42] σ3 r8129) ∧
((AV.binOk Go.BinOp.add σ26 (AV.prj r6337 0)) ∧
((AV.isOne x1) ∧
(let +zeta σ35 := (AV.bin Go.BinOp.add σ26 (AV.prj r6337 0))
((AV.isOne σ35) ∧
((AV.binOk Go.BinOp.add σ27 (AV.prj r7233 0)) ∧
((AV.binOk Go.BinOp.add σ28 (AV.prj r8129 0)) ∧
(let +zeta σ36 := (AV.bin Go.BinOp.add σ27 (AV.prj r7233 0))
((AV.isOne σ36) ∧
(let +zeta σ37 := (AV.bin Go.BinOp.add σ28 (AV.prj r8129 0))
((AV.isOne σ37) ∧
(let +zeta σ63 := (AV.agg [x1, (AV.cel (AV.prj r5249 0) 0), (AV.cel (AV.prj r5249 0) 1), σ35, σ36, σ37])
((AV.flat σ63) ∧
(fSame σ63 r))))))))))))))))))))))))))))))))))))))))))))))))))))) ∧
(let +zeta σ18 := (isF σ15)
(σ18 →
(σ22 ∧
(σ18 ∧
(σ16 ∧
(σ0 ∧
(σ21 ∧
(σ0 ∧
(σ4 ∧
(σ29 ∧
(σ13 ∧
(σ33 ∧
(σ46 ∧
(∃ r4673 : AV, ((Fn Tryz.prog 192 [σ51, σ34, σ32, σ42] σ3 r4673) ∧
((AV.isAgg (AV.prj r4673 0) 2) ∧
(σ47 ∧
(σ59 ∧
(∃ r5761 : AV, ((Fn Tryz.prog 193 [σ56, σ42] σ3 r5761) ∧
(σ48 ∧
(σ60 ∧
(∃ r6657 : AV, ((Fn Tryz.prog 194 [σ57, σ42] σ3 r6657) ∧
(σ49 ∧
(σ61 ∧
(∃ r7553 : AV, ((Fn Tryz.prog 194 [σ58, σ42] σ3 r7553) ∧
((AV.binOk Go.BinOp.add σ26 (AV.prj r5761 0)) ∧
((AV.isOne x1) ∧
(let +zeta σ38 := (AV.bin Go.BinOp.add σ26 (AV.prj r5761 0))
((AV.isOne σ38) ∧
((AV.binOk Go.BinOp.add σ27 (AV.prj r6657 0)) ∧
((AV.binOk Go.BinOp.add σ28 (AV.prj r7553 0)) ∧
(let +zeta σ39 := (AV.bin Go.BinOp.add σ27 (AV.prj r6657 0))
((AV.isOne σ39) ∧
(let +zeta σ40 := (AV.bin Go.BinOp.add σ28 (AV.prj r7553 0))
((AV.isOne σ40) ∧
(let +zeta σ64 := (AV.agg [x1, (AV.cel (AV.prj r4673 0) 0), (AV.cel (AV.prj r4673 0) 1), σ38, σ39, σ40])
((AV.flat σ64) ∧
(fSame σ64 r)))))))))))))))))))))))))))))))))))))))))))))))))))))))))) := by kernel_rfl
theorem tat_form (x0 x1 r : AV) : fnF Tryz.prog Γ ann 3 68 Tryz.f68 (Tryz.f68.body.getD .skip) (.nil) [x0, x1] (.tup [.sc, .sc]) r = ((∃ r193 : AV, ((Fn Tryz.prog 20 [x0] Sh.sc r193) ∧
((AV.binOk Go.BinOp.neq r193 (AV.int 0)) ∧
(let +zeta σ0 := (AV.bin Go.BinOp.neq r193 (AV.int 0))
((AV.isBool σ0) ∧
(let +zeta σ6 := (AV.agg [(AV.int 0), (AV.int 0), (AV.int 0), (AV.int 0), (AV.int 0), (AV.int 0)])
 let +zeta σ7 := (AV.flat σ6)
(((isT σ0) →
(σ7 ∧
((AV.flat r193) ∧
(fSame (AV.tup [σ6, r193]) r)))) ∧
((isF σ0) →
(∃ r513 : AV, ((Fn Tryz.prog 129 [x0] (Sh.tup [Sh.sc, Sh.sc]) r513) ∧
((AV.binOk Go.BinOp.lss x1 (AV.prj r513 0)) ∧
(let +zeta σ1 := (AV.bin Go.BinOp.lss x1 (AV.prj r513 0))
 let +zeta σ5 := (AV.isBool σ1)
(σ5 ∧
(let +zeta σ9 := (σ7 ∧
((AV.flat (AV.int 12)) ∧
(fSame (AV.tup [σ6, (AV.int 12)]) r)))
((let +zeta σ3 := (isT σ1)
(σ3 →
(σ5 ∧
(σ3 ∧
 σ9)))) ∧
(let +zeta σ4 := (isF σ1)
(σ4 →
((AV.binOk Go.BinOp.gtr x1 (AV.prj r513 1)) ∧
(σ5 ∧
(σ4 ∧
(let +zeta σ2 := (AV.bin Go.BinOp.gtr x1 (AV.prj r513 1))
((AV.isBool σ2) ∧
(((isT σ2) →
 σ9) ∧
((isF σ2) →
(∃ r1537 : AV, ((Fn Tryz.prog 130 [x0, x1] Sh.sc r1537) ∧
((AV.isAgg r1537 6) ∧
(let +zeta σ8 := (AV.agg [(AV.cel r1537 0), (AV.cel r1537 1), (AV.cel r1537 2), (AV.cel r1537 3), (AV.cel r1537 4), (AV.cel r1537 5)])
((AV.flat σ8) ∧
((AV.flat (AV.int 0)) ∧
(fSame (AV.tup [σ8, (AV.int 0)]) r)))))))))))))))))))))))))))))))) := by kernel_rfl
end SecF
end Go.Proofs.YtcifjnhpgblnkaaGreatDoor
namespace Go.Proofs.YtcifjnhpgblnkaaGreatDoor
open Go.RowKit
set_option linter.unusedVariables false
set_option linter.unusedSimpArgs false
set_option maxRecDepth 100000
structure Pt where
 x : Int
 y : Int
 deriving DecidableEq, Inhabited
def encP (p : Pt) : List AV := [.int p.x, .int p.y]
abbrev pt (p : Pt) : AV := .agg (encP p)
abbrev pts (l : List Pt) : AV := lst 2 encP l
def wr (n : Int) : Int := IntKind.i64.wrap n
@[simp] theorem wr_eq (n : Int) : IntKind.i64.wrap n = wr n := rfl
theorem wr_id {n : Int} (h1 : -9223372036854775808 ≤ n) (h2 : n ≤ 9223372036854775807) : wr n = n := wrap64 h1 h2
def subP (a b : Pt) : Pt := ⟨wr (a.x - b.x), wr (a.y - b.y)⟩
def dotP (a b : Pt) : Int := wr (wr (a.x * b.x) + wr (a.y * b.y))
def crossP (a b : Pt) : Int := wr (wr (a.x * b.y) - wr (a.y * b.x))
def turnP (a b c : Pt) : Int := if 0 < crossP (subP b a) (subP c a) then 1 else if crossP (subP b a) (subP c a) < 0 then -1 else 0
def sqrP (a b : Pt) : Int := dotP (subP a b) (subP a b)
def pE (p : Pt) : Int := if p.x < -1000000 ∨ p.x > 1000000 ∨ p.y < -1000000 ∨ p.y > 1000000 then 4 else 0
theorem pE_ok {p : Pt} (h : pE p = 0) : -1000000 ≤ p.x ∧ p.x ≤ 1000000 ∧ -1000000 ≤ p.y ∧ p.y ≤ 1000000 := by
 unfold pE at h
 split at h
 ·cases h
 ·omega
theorem pe_fn (p : Pt) : Fn Tryz.prog 67 [pt p] .sc (.int (pE p)) := by
 refine fn_run mixed 3 (Γ := SecF.Γ) (ann := SecF.ann) Tryz.func67 rfl Tryz.call67 ((SecF.pcheck_form _ _).mpr ?_)
 obtain ⟨x, y⟩ := p
 simp [encP]
 have h4 : (x < -1000000 ∨ x > 1000000 ∨ y < -1000000 ∨ y > 1000000) → 4 = pE ⟨x, y⟩ := fun h => by unfold pE; rw [if_pos h]
 have h0 : ¬ (x < -1000000 ∨ x > 1000000 ∨ y < -1000000 ∨ y > 1000000) → 0 = pE ⟨x, y⟩ := fun h => by unfold pE; rw [if_neg h]
 refine ⟨fun a => ⟨a, h4 (by omega)⟩, fun a => ⟨a, fun b => ⟨b, h4 (by omega)⟩, fun b => ⟨b, fun c => ⟨c, h4 (by omega)⟩, fun c => ⟨c, fun d => h4 (by omega), fun d => h0 (by omega)⟩⟩⟩⟩
theorem sub_fn (a b : Pt) : Fn Tryz.prog 230 [pt a, pt b] .sc (pt (subP a b)) := by
 refine fn_run mixed 3 (Γ := SecF.Γ) (ann := SecF.ann) Tryz.func230 rfl Tryz.call230 ((SecF.sub_form _ _ _).mpr ?_)
 simp [encP, subP]
theorem dot_fn (a b : Pt) : Fn Tryz.prog 299 [pt a, pt b] .sc (.int (dotP a b)) := by
 refine fn_run mixed 3 (Γ := SecF.Γ) (ann := SecF.ann) Tryz.func299 rfl Tryz.call299 ((SecF.dot_form _ _ _).mpr ?_)
 simp [encP, dotP]
theorem sqr_fn (a b : Pt) : Fn Tryz.prog 251 [pt a, pt b] .sc (.int (sqrP a b)) := by
 refine fn_run mixed 3 (Γ := SecF.Γ) (ann := SecF.ann) Tryz.func251 rfl Tryz.call251 ((SecF.square_form _ _ _).mpr ?_)
 refine ⟨by simp [encP], by simp [encP], _, sub_fn a b, by simp [encP], _, dot_fn _ _, ?_⟩
 simp [sqrP]
def nextP (l : List Pt) (i : Nat) : Pt := l.getD ((i + 1) % l.length) default
def mnI (a b : Int) : Int := if b < a then b else a
def mxI (a b : Int) : Int := if a < b then b else a
def betw (a b c : Pt) : Bool := decide (mnI a.x b.x ≤ c.x) && decide (c.x ≤ mxI a.x b.x) && decide (mnI a.y b.y ≤ c.y) && decide (c.y ≤ mxI a.y b.y)
def onS (a b c : Pt) : Bool := decide (turnP a b c = 0) && betw a b c
def crs (a b c d : Pt) : Bool := decide (wr (turnP a b c * turnP a b d) < 0) && decide (wr (turnP c d a * turnP c d b) < 0)
def comS (a b c d : Pt) : Bool := crs a b c d || onS a b c || onS a b d || onS c d a || onS c d b
end Go.Proofs.YtcifjnhpgblnkaaGreatDoor
namespace Go.Proofs.YtcifjnhpgblnkaaGreatDoor
open Go.RowKit
set_option linter.unusedVariables false
set_option linter.unusedSimpArgs false
set_option maxRecDepth 100000
theorem quo_of (a b : Int) (hb : 0 < b) : (¬ a.tmod b = 0 → a < 0 → a.tdiv b - 1 = a / b) ∧ (¬ (¬ a.tmod b = 0 ∧ a < 0) → a.tdiv b = a / b) := by
 have h1 := Int.tdiv_eq_ediv (a := a) (b := b)
 have h2 := Int.tmod_eq_emod (a := a) (b := b)
 have h3 : b.sign = 1 := Int.sign_eq_one_of_pos hb
 have h4 : (b ∣ a) ↔ a % b = 0 := Int.dvd_iff_emod_eq_zero
 by_cases h : 0 ≤ a ∨ b ∣ a
 ·rw [if_pos h] at h1 h2
  refine ⟨fun q1 q2 => ?_, fun _ => by omega⟩
  rcases h with h | h
  ·omega
  ·have := h4.1 h; omega
 ·rw [if_neg h, h3] at h1
  rw [if_neg h] at h2
  have h5 : ¬ 0 ≤ a := fun q => h (.inl q)
  have h6 : ¬ b ∣ a := fun q => h (.inr q)
  have h7 : ¬ a % b = 0 := fun q => h6 (h4.2 q)
  have h8 : ¬ a.tmod b = 0 := by
   have l1 := Int.emod_nonneg a (show b ≠ 0 by omega)
   have l2 := Int.emod_lt_of_pos a hb
   omega
  exact ⟨fun _ _ => by omega, fun q => absurd ⟨h8, by omega⟩ q⟩
theorem quo_bd {a b : Int} (hb : 0 < b) (h1 : -1000000000000 ≤ a) (h2 : a ≤ 1000000000000) : -1000000000000 ≤ a / b ∧ a / b ≤ 1000000000000 ∧ -1000000000000 ≤ a.tdiv b ∧ a.tdiv b ≤ 1000000000000 := by
 have e1 : a / b ≤ 1000000000000 := by
  rcases Int.lt_or_le a 0 with h | h
  ·have := Int.ediv_neg_of_neg_of_pos h hb; omega
  ·have := Int.ediv_le_self b h; omega
 have e2 : -1000000000000 ≤ a / b := by
  refine (Int.le_ediv_iff_mul_le hb).2 ?_
  have := Int.mul_le_mul_of_nonneg_left (show (1 : Int) ≤ b by omega) (show (0 : Int) ≤ 1000000000000 by omega)
  omega
 obtain ⟨q1, q2⟩ := quo_of a b hb
 refine ⟨e2, e1, ?_, ?_⟩
 ·by_cases h : ¬ a.tmod b = 0 ∧ a < 0
  ·have := q1 h.1 h.2; omega
  ·have := q2 h; omega
 ·have h3 := Int.tdiv_eq_ediv (a := a) (b := b)
  have h4 : b.sign = 1 := Int.sign_eq_one_of_pos hb
  rcases Int.lt_or_le a 0 with h | h
  ·have := Int.ediv_neg_of_neg_of_pos h hb
   split at h3 <;> omega
  ·rw [if_pos (.inl h)] at h3; omega
theorem divd_fn (a b : Int) (hb : 0 < b) (h1 : -1000000000000 ≤ a) (h2 : a ≤ 1000000000000) : Fn Tryz.prog 193 [.int a, .int b] (.tup [.sc, .sc]) (.tup [.int (a / b), .int 0]) := by
 refine fn_run mixed 3 (Γ := SecF.Γ) (ann := SecF.ann) Tryz.func193 rfl Tryz.call193 ((SecF.divd_form _ _ _).mpr ?_)
 obtain ⟨q1, q2⟩ := quo_of a b hb
 obtain ⟨b1, b2, b3, b4⟩ := quo_bd hb h1 h2
 have hw : wr (a.tdiv b) = a.tdiv b := wr_id (by omega) (by omega)
 have hw2 : wr (a.tdiv b - 1) = a.tdiv b - 1 := wr_id (by omega) (by omega)
 have hm : (a == -9223372036854775808) = false := by simp; omega
 have hb0 : (b == 0) = false := by simp; omega
 have hlt : decide (b < 0) = false := by simp; omega
 simp [hb0, hm, hw, hw2, hlt, show ¬ b = 0 by omega]
 generalize a.tmod b = m at *
 generalize a.tdiv b = q at *
 refine ⟨fun h => ⟨h, fun h2 => q1 h h2, fun h2 => q2 (by omega)⟩, fun h => ⟨h, q2 (by omega)⟩⟩
def dvu (a b : Int) : Int := if a.tmod b = 0 then a / b else a / b + 1
theorem dvu_bd {a b : Int} (hb : 0 < b) (h1 : -1000000000000 ≤ a) (h2 : a ≤ 1000000000000) : -1000000000001 ≤ dvu a b ∧ dvu a b ≤ 1000000000001 := by
 obtain ⟨b1, b2, _, _⟩ := quo_bd hb h1 h2
 unfold dvu
 split <;> omega
theorem divu_fn (a b : Int) (hb : 0 < b) (h1 : -1000000000000 ≤ a) (h2 : a ≤ 1000000000000) : Fn Tryz.prog 194 [.int a, .int b] (.tup [.sc, .sc]) (.tup [.int (dvu a b), .int 0]) := by
 refine fn_run mixed 3 (Γ := SecF.Γ) (ann := SecF.ann) Tryz.func194 rfl Tryz.call194 ((SecF.divu_form _ _ _).mpr ?_)
 refine ⟨_, divd_fn a b hb h1 h2, ?_⟩
 obtain ⟨b1, b2, _, _⟩ := quo_bd hb h1 h2
 have hw : wr (a / b + 1) = a / b + 1 := wr_id (by omega) (by omega)
 have u1 : ¬ a.tmod b = 0 → a / b + 1 = dvu a b := fun h => by unfold dvu; rw [if_neg h]
 have u2 : a.tmod b = 0 → a / b = dvu a b := fun h => by unfold dvu; rw [if_pos h]
 simp [hw, show ¬ b = 0 by omega]
 exact ⟨u1, u2⟩
theorem mulb {p n : Int} (h1 : -2000000 ≤ p) (h2 : p ≤ 2000000) (h3 : 0 ≤ n) (h4 : n ≤ 200000) : -400000000000 ≤ p * n ∧ p * n ≤ 400000000000 := by
 have e1 := Int.mul_le_mul_of_nonneg_right h2 h3
 have e2 := Int.mul_le_mul_of_nonneg_right h1 h3
 omega
theorem way {p n d : Int} (hd : 0 < d) (h0 : 0 ≤ n) (h1 : n ≤ d) : (0 ≤ p → 0 ≤ p * n / d ∧ p * n / d ≤ p) ∧ (p ≤ 0 → p ≤ p * n / d ∧ p * n / d ≤ 0) := by
 have hc := Int.mul_ediv_cancel p (show d ≠ 0 by omega)
 refine ⟨fun hp => ⟨Int.ediv_nonneg (Int.mul_nonneg hp h0) (by omega), ?_⟩, fun hp => ⟨?_, ?_⟩⟩
 ·have := Int.ediv_le_ediv hd (Int.mul_le_mul_of_nonneg_left h1 hp)
  omega
 ·have h2 : p * d ≤ p * n := Int.mul_le_mul_of_nonpos_left hp h1
  have := Int.ediv_le_ediv hd h2
  omega
 ·have h2 : p * n ≤ p * 0 := Int.mul_le_mul_of_nonpos_left hp h0
  have := Int.ediv_le_ediv hd h2
  simpa using this
def towP (a b : Pt) (n d : Int) : Pt := ⟨a.x + (b.x - a.x) * n / d, a.y + (b.y - a.y) * n / d⟩
theorem tow_ok {a b : Pt} {n d : Int} (ha : pE a = 0) (hb : pE b = 0) (hd : 0 < d) (h0 : 0 ≤ n) (h1 : n ≤ d) : pE (towP a b n d) = 0 := by
 obtain ⟨a1, a2, a3, a4⟩ := pE_ok ha
 obtain ⟨b1, b2, b3, b4⟩ := pE_ok hb
 obtain ⟨x1, x2⟩ := way (p := b.x - a.x) hd h0 h1
 obtain ⟨y1, y2⟩ := way (p := b.y - a.y) hd h0 h1
 unfold pE towP
 rw [if_neg]
 simp only
 omega
theorem toward_fn (a b : Pt) (n d : Int) (ha : pE a = 0) (hb : pE b = 0) (hd : 0 < d) (hd2 : d ≤ 200000) (h0 : 0 ≤ n) (h1 : n ≤ d) : Fn Tryz.prog 192 [pt a, pt b, .int n, .int d] (.tup [.sc, .sc]) (.tup [pt (towP a b n d), .int 0]) := by
 refine fn_run mixed 3 (Γ := SecF.Γ) (ann := SecF.ann) Tryz.func192 rfl Tryz.call192 ((SecF.toward_form _ _ _ _ _).mpr ?_)
 have pa := pe_fn a
 have pb := pe_fn b
 have ht := pE_ok (tow_ok ha hb hd h0 h1)
 rw [ha] at pa
 rw [hb] at pb
 obtain ⟨a1, a2, a3, a4⟩ := pE_ok ha
 obtain ⟨b1, b2, b3, b4⟩ := pE_ok hb
 obtain ⟨ax, ay⟩ := a; obtain ⟨bx, b_⟩ := b
 simp only at a1 a2 a3 a4 b1 b2 b3 b4
 have mx := mulb (p := bx - ax) (n := n) (by omega) (by omega) h0 (by omega)
 have my := mulb (p := b_ - ay) (n := n) (by omega) (by omega) h0 (by omega)
 have w1 : wr (bx - ax) = bx - ax := wr_id (by omega) (by omega)
 have w2 : wr (b_ - ay) = b_ - ay := wr_id (by omega) (by omega)
 have w3 : wr ((bx - ax) * n) = (bx - ax) * n := wr_id (by omega) (by omega)
 have w4 : wr ((b_ - ay) * n) = (b_ - ay) * n := wr_id (by omega) (by omega)
 have d1 := divd_fn ((bx - ax) * n) d hd (by omega) (by omega)
 have d2 := divd_fn ((b_ - ay) * n) d hd (by omega) (by omega)
 have w5 : wr (ax + (bx - ax) * n / d) = ax + (bx - ax) * n / d := wr_id (by simp only [towP] at ht; omega) (by simp only [towP] at ht; omega)
 have w6 : wr (ay + (b_ - ay) * n / d) = ay + (b_ - ay) * n / d := wr_id (by simp only [towP] at ht; omega) (by simp only [towP] at ht; omega)
 refine ⟨by simp [encP], by simp [encP], ?_⟩
 simp [show ¬ d ≤ 0 by omega, show ¬ 200000 < d by omega, show ¬ n < 0 by omega, show ¬ d < n by omega]
 refine ⟨_, pa, ?_⟩
 simp
 refine ⟨_, pb, ?_⟩
 simp [encP, w1, w2, w3, w4]
 refine ⟨_, d1, _, d2, ?_⟩
 simp [w5, w6, towP]
structure Nd where
 t : Int
 x : Int
 y : Int
 h : Int
 r : Int
 b : Int
 deriving DecidableEq, Inhabited
def Nd.p (n : Nd) : Pt := ⟨n.x, n.y⟩
def encN (n : Nd) : List AV := [.int n.t, .int n.x, .int n.y, .int n.h, .int n.r, .int n.b]
abbrev nd (n : Nd) : AV := .agg (encN n)
abbrev tube (l : List Nd) : AV := lst 6 encN l
theorem flat_tube (l : List Nd) : (tube l).flatS := lst_flatS fun x _ z hz => by
 simp [encN] at hz; rcases hz with rfl | rfl | rfl | rfl | rfl | rfl <;> exact .lit _
def nE (p : Int) (n : Nd) : Int := if n.t < 0 ∨ n.t > 200000 ∨ n.t ≤ p then 12 else if pE n.p ≠ 0 then pE n.p else if n.h < 0 ∨ n.h > 60000 ∨ n.r < 0 ∨ n.r > 1000000 ∨ n.b < 0 ∨ n.b > 60000 then 4 else 0
theorem nE_ok {p : Int} {n : Nd} (h : nE p n = 0) : 0 ≤ n.t ∧ n.t ≤ 200000 ∧ p < n.t ∧ pE n.p = 0 ∧ 0 ≤ n.h ∧ n.h ≤ 60000 ∧ 0 ≤ n.r ∧ n.r ≤ 1000000 ∧ 0 ≤ n.b ∧ n.b ≤ 60000 := by
 unfold nE at h
 split at h
 ·cases h
 ·split at h
  ·rename_i q; exact absurd h q
  ·rename_i q
   split at h
   ·cases h
   ·exact ⟨by omega, by omega, by omega, by simpa using q, by omega, by omega, by omega, by omega, by omega, by omega⟩
def tG : Int → List Nd → Int
 | _, [] => 0
 | p, n :: r => if nE p n ≠ 0 then nE p n else tG n.t r
def tE (l : List Nd) : Int := if l.length > 64 then 2 else if l.length = 0 then 3 else tG (-1) l
theorem tcheck_fn (l : List Nd) : Fn Tryz.prog 20 [tube l] .sc (.int (tE l)) := by
 have e := SecF.tcheck_form (tube l) (.int (tE l))
 have k := fun h => fn_run mixed 3 (Γ := SecF.Γ) (ann := SecF.ann) Tryz.func20 rfl Tryz.call20 (e.mpr h)
 refine k ?_
 clear k e
 simp
 refine ⟨fun h => by unfold tE; rw [if_pos (by omega)], fun h64 => ⟨fun h => by unfold tE; rw [if_neg (by omega), if_pos (by simp [h])], fun h0 => ?_⟩⟩
 have hE : tE l = tG (-1) l := by
  unfold tE
  rw [if_neg (by omega), if_neg (by simpa using h0)]
 have hl64 : l.length ≤ 64 := by omega
 generalize tE l = E at hE ⊢
 refine loop_list (σ := Int) l (fun n _ => [.int (n : Nat)]) (fun n rest p => E = tG p rest ∧ ((n = 0 ∧ p = -1) ∨ ∃ y, 0 < n ∧ l[n - 1]? = some y ∧ y.t = p ∧ 0 ≤ p)) (-1) rfl ⟨hE, .inl ⟨rfl, rfl⟩⟩ ?_ ?_
 ·rintro n x rest p K hx hr hn ⟨hg, hp⟩ hK
  have hw : wr ((n : Int) + 1) = (n : Int) + 1 := wr_id (by omega) (by omega)
  have hw1 : wr ((n : Int) - 1) = (n : Int) - 1 := wr_id (by omega) (by omega)
  rw [tG] at hg
  have g1 : nE p x ≠ 0 → nE p x = E := fun h => by rw [hg, if_pos h]
  have g2 : nE p x = 0 → K [.int ((n : Nat) + 1)] := fun h => hK _ x.t (by simp) ⟨by rw [hg, if_neg (by simp [h])], .inr ⟨x, by omega, by simpa using hx, rfl, (nE_ok h).1⟩⟩
  clear hg hK
  obtain ⟨xt, xx, xy, xh, xr, xb⟩ := x
  have f1 : (xt < 0 ∨ xt > 200000 ∨ xt ≤ p) → 12 = E := fun h => by
   have : nE p ⟨xt, xx, xy, xh, xr, xb⟩ = 12 := by unfold nE; rw [if_pos h]
   rw [this] at g1; exact g1 (by decide)
  have f2 : ¬ (xt < 0 ∨ xt > 200000 ∨ xt ≤ p) → pE ⟨xx, xy⟩ ≠ 0 → pE ⟨xx, xy⟩ = E := fun h h2 => by
   have : nE p ⟨xt, xx, xy, xh, xr, xb⟩ = pE ⟨xx, xy⟩ := by unfold nE; rw [if_neg h]; exact if_pos h2
   rw [this] at g1; exact g1 h2
  have f3 : ¬ (xt < 0 ∨ xt > 200000 ∨ xt ≤ p) → pE ⟨xx, xy⟩ = 0 → (xh < 0 ∨ xh > 60000 ∨ xr < 0 ∨ xr > 1000000 ∨ xb < 0 ∨ xb > 60000) → 4 = E := fun h h2 h3 => by
   have : nE p ⟨xt, xx, xy, xh, xr, xb⟩ = 4 := by unfold nE; rw [if_neg h, if_neg (by simp [Nd.p, h2]), if_pos h3]
   rw [this] at g1; exact g1 (by decide)
  have f4 : ¬ (xt < 0 ∨ xt > 200000 ∨ xt ≤ p) → pE ⟨xx, xy⟩ = 0 → ¬ (xh < 0 ∨ xh > 60000 ∨ xr < 0 ∨ xr > 1000000 ∨ xb < 0 ∨ xb > 60000) → K [.int ((n : Nat) + 1)] := fun h h2 h3 => g2 (by unfold nE; rw [if_neg h, if_neg (by simp [Nd.p, h2]), if_neg h3])
  clear g1 g2
  have hpe := pe_fn ⟨xx, xy⟩
  generalize pE ⟨xx, xy⟩ = e at *
  have tail : ¬ (xt < 0 ∨ xt > 200000 ∨ xt ≤ p) → (e = 0 → xh < 0 → 4 = E) ∧ (e = 0 → 60000 < xh → 4 = E) ∧ (e = 0 → xr < 0 → 4 = E) ∧ (e = 0 → 1000000 < xr → 4 = E) ∧ (e = 0 → xb < 0 → 4 = E) ∧ (e = 0 → 60000 < xb → 4 = E) ∧ (e = 0 → 0 ≤ xh → xh ≤ 60000 → 0 ≤ xr → xr ≤ 1000000 → 0 ≤ xb → xb ≤ 60000 → K [.int ((n : Nat) + 1)]) := fun h =>
   ⟨fun a b => f3 h a (by omega), fun a b => f3 h a (by omega), fun a b => f3 h a (by omega), fun a b => f3 h a (by omega), fun a b => f3 h a (by omega), fun a b => f3 h a (by omega), fun a b c d f g i => f4 h a (by omega)⟩
  simp [hn, lst_atAgg hx, encN, hw, hw1]
  refine ⟨fun a => ⟨a, f1 (by omega)⟩, fun a => ⟨a, fun b => ⟨b, f1 (by omega)⟩, fun b => ⟨?_, ?_⟩⟩⟩
  ·intro hn0
   rcases hp with ⟨hp1, _⟩ | ⟨y, hp1, hp2, hp3, hp4⟩
   ·omega
   ·have hat : AV.at (tube l) (.lit (.int .i64 ((n : Int) - 1))) 0 = .int p := by
     have h1 : ((n : Int) - 1).toNat = n - 1 := by omega
     rw [lst_atI (by omega) (by rw [h1]; exact hp2)]
     simp [encN, hp3]
    have hin : (0 : Int) ≤ (n : Int) - 1 ∧ (n : Int) - 1 < l.length := ⟨by omega, by omega⟩
    simp only [hat]
    refine ⟨by omega, by simp, hn0, b, by simp, fun q => ?_, fun q => ?_⟩
    ·have : xt ≤ p := by simpa using q
     exact f1 (by omega)
    have hq : p < xt := by simpa using q
    obtain ⟨t1, t2, t3, t4, t5, t6, t7⟩ := tail (by omega)
    refine ⟨_, hpe, ?_⟩
    simp
    exact ⟨fun z => f2 (by omega) z, fun z => ⟨fun a => ⟨a, t1 z a⟩, fun a1 => ⟨a1, fun a => ⟨a, t2 z a⟩, fun a2 => ⟨a2, fun a => ⟨a, t3 z a⟩, fun a3 => ⟨a3, fun a => ⟨a, t4 z a⟩, fun a4 => ⟨a4, fun a => ⟨a, t5 z a⟩, fun a5 => ⟨a5, fun a => t6 z a, fun a6 => t7 z a1 a2 a3 a4 a5 a6⟩⟩⟩⟩⟩⟩⟩
  ·intro hn0
   refine ⟨hn0, b, ?_⟩
   have hp1 : p = -1 := by
    rcases hp with ⟨_, h⟩ | ⟨y, h, _⟩
    ·exact h
    ·omega
   obtain ⟨t1, t2, t3, t4, t5, t6, t7⟩ := tail (by omega)
   refine ⟨_, hpe, ?_⟩
   simp
   exact ⟨fun z => f2 (by omega) z, fun z => ⟨fun a => ⟨a, t1 z a⟩, fun a1 => ⟨a1, fun a => ⟨a, t2 z a⟩, fun a2 => ⟨a2, fun a => ⟨a, t3 z a⟩, fun a3 => ⟨a3, fun a => ⟨a, t4 z a⟩, fun a4 => ⟨a4, fun a => ⟨a, t5 z a⟩, fun a5 => ⟨a5, fun a => t6 z a, fun a6 => t7 z a1 a2 a3 a4 a5 a6⟩⟩⟩⟩⟩⟩⟩
 ·rintro _ K ⟨hg, _⟩
  rw [tG] at hg
  simp [hg]
theorem ends_fn (l : List Nd) (a b : Nd) (h0 : l[0]? = some a) (h1 : l[l.length - 1]? = some b) (hl : l.length ≤ 1000) : Fn Tryz.prog 129 [tube l] (.tup [.sc, .sc]) (.tup [.int a.t, .int b.t]) := by
 refine fn_run mixed 3 (Γ := SecF.Γ) (ann := SecF.ann) Tryz.func129 rfl Tryz.call129 ((SecF.ends_form _ _).mpr ?_)
 have hpos : 0 < l.length := (List.getElem?_eq_some_iff.1 h0).1
 have hw1 : wr ((l.length : Int) - 1) = (l.length : Int) - 1 := wr_id (by omega) (by omega)
 have e0 : AV.at (tube l) (.lit (.int .i64 0)) 0 = .int a.t := by
  rw [lst_atI (by omega) (by simpa using h0)]; simp [encN]
 have e1 : AV.at (tube l) (.lit (.int .i64 ((l.length : Int) - 1))) 0 = .int b.t := by
  have q : ((l.length : Int) - 1).toNat = l.length - 1 := by omega
  rw [lst_atI (by omega) (by rw [q]; exact h1)]; simp [encN]
 simp [hw1, e0, e1]
 omega
end Go.Proofs.YtcifjnhpgblnkaaGreatDoor
namespace Go.Proofs.YtcifjnhpgblnkaaGreatDoor
open Go.RowKit
set_option linter.unusedVariables false
set_option linter.unusedSimpArgs false
set_option maxRecDepth 100000
def ixF (t : Int) : List Nd → Nat
 | [] => 0
 | n :: r => if n.t < t then ixF t r + 1 else 0
theorem ixF_is {t : Int} : ∀ {l : List Nd} {k : Nat}, k ≤ l.length → (∀ j x, j < k → l[j]? = some x → x.t < t) → (∀ x, l[k]? = some x → ¬ x.t < t) → ixF t l = k
 | [], k, h, _, _ => by simp at h; simp [ixF, h]
 | n :: r, k, h, h1, h2 => by
  rw [ixF]
  cases k with
  | zero => rw [if_neg (h2 n rfl)]
  | succ k =>
   rw [if_pos (h1 0 n (by omega) rfl), ixF_is (k := k) (by simpa using h) (fun j x hj hx => h1 (j + 1) x (by omega) (by simpa using hx)) (fun x hx => h2 x (by simpa using hx))]
theorem ixF_le (t : Int) : ∀ l : List Nd, ixF t l ≤ l.length
 | [] => Nat.le_refl _
 | n :: r => by
  rw [ixF]
  have := ixF_le t r
  split <;> simp <;> omega
theorem ixF_lt {t : Int} : ∀ {l : List Nd} {j : Nat} {x : Nd}, j < ixF t l → l[j]? = some x → x.t < t
 | [], j, x, h, _ => by simp [ixF] at h
 | n :: r, j, x, h, hx => by
  rw [ixF] at h
  split at h
  ·rename_i hn
   cases j with
   | zero => simp at hx; rw [← hx]; exact hn
   | succ j => exact ixF_lt (l := r) (j := j) (by omega) (by simpa using hx)
  ·omega
theorem ixF_ge {t : Int} : ∀ {l : List Nd} {x : Nd}, l[ixF t l]? = some x → ¬ x.t < t
 | [], x, h => by simp [ixF] at h
 | n :: r, x, h => by
  rw [ixF] at h
  split at h
  ·exact ixF_ge (by simpa using h)
  ·rename_i hn
   simp at h; rw [← h]; exact hn
def okN (x : Nd) : Prop := 0 ≤ x.t ∧ x.t ≤ 200000 ∧ pE x.p = 0 ∧ 0 ≤ x.h ∧ x.h ≤ 60000 ∧ 0 ≤ x.r ∧ x.r ≤ 1000000 ∧ 0 ≤ x.b ∧ x.b ≤ 60000
theorem tG_get : ∀ {l : List Nd} {p : Int}, tG p l = 0 → ∀ {j : Nat} {x : Nd}, l[j]? = some x → p < x.t ∧ okN x ∧ ∀ k y, j < k → l[k]? = some y → x.t < y.t
 | [], p, _, j, x, hx => by simp at hx
 | n :: r, p, h, j, x, hx => by
  rw [tG] at h
  split at h
  ·rename_i q; exact absurd h q
  ·rename_i q
   have q : nE p n = 0 := by simpa using q
   have qo := nE_ok q
   cases j with
   | zero =>
    simp at hx
    subst hx
    refine ⟨qo.2.2.1, ⟨qo.1, qo.2.1, qo.2.2.2.1, qo.2.2.2.2.1, qo.2.2.2.2.2.1, qo.2.2.2.2.2.2.1, qo.2.2.2.2.2.2.2.1, qo.2.2.2.2.2.2.2.2.1, qo.2.2.2.2.2.2.2.2.2⟩, fun k y hk hy => ?_⟩
    obtain ⟨k, rfl⟩ : ∃ k', k = k' + 1 := ⟨k - 1, by omega⟩
    exact (tG_get h (j := k) (by simpa using hy)).1
   | succ j =>
    have ih := tG_get h (j := j) (by simpa using hx)
    refine ⟨by have := ih.1; omega, ih.2.1, fun k y hk hy => ?_⟩
    obtain ⟨k, rfl⟩ : ∃ k', k = k' + 1 := ⟨k - 1, by omega⟩
    exact ih.2.2 k y (by omega) (by simpa using hy)
theorem tE_ok {l : List Nd} (h : tE l = 0) : 0 < l.length ∧ l.length ≤ 64 ∧ tG (-1) l = 0 := by
 unfold tE at h
 split at h
 ·cases h
 ·split at h
  ·cases h
  ·exact ⟨by omega, by omega, h⟩
def interp (a b : Nd) (t : Int) : Nd :=
 ⟨t, (towP a.p b.p (t - a.t) (b.t - a.t)).x, (towP a.p b.p (t - a.t) (b.t - a.t)).y, a.h + (b.h - a.h) * (t - a.t) / (b.t - a.t), a.r + dvu ((b.r - a.r) * (t - a.t)) (b.t - a.t), a.b + dvu ((b.b - a.b) * (t - a.t)) (b.t - a.t)⟩
def atN (l : List Nd) (t : Int) : Nd := if (l.getD (ixF t l) default).t = t then l.getD (ixF t l) default else interp (l.getD (ixF t l - 1) default) (l.getD (ixF t l) default) t
theorem half_u (n : Nat) (h : n ≤ 1000) : AV.shfOk (.lit (.int .u64 (n : Nat))) (.lit (.int .u64 1)) ∧ AV.conv .i64 (AV.shf .shr (.lit (.int .u64 (n : Nat))) (.lit (.int .u64 1))) = .int ((n / 2 : Nat) : Int) ∧ AV.isInt (AV.shf .shr (.lit (.int .u64 (n : Nat))) (.lit (.int .u64 1))) := by
 refine ⟨⟨⟨_, _, rfl⟩, ⟨_, _, rfl⟩, by simp⟩, ?_, ⟨_, _, rfl⟩⟩
 have e : AV.shf .shr (.lit (.int .u64 (n : Nat))) (.lit (.int .u64 1)) = .lit (.int .u64 ((n : Int).fdiv 2)) := by
  show AV.lit (.int .u64 ((n : Int).fdiv (2 ^ 1))) = _
  simp
 rw [e, Int.fdiv_eq_ediv_of_nonneg _ (by omega)]
 show AV.lit (.int .i64 (IntKind.i64.wrap ((n : Int) / 2))) = _
 rw [wrap64 (by omega) (by omega)]
 congr 2
theorem u64_id (n : Nat) (h : n ≤ 1000) : IntKind.u64.wrap (n : Int) = (n : Int) := by
 simp [IntKind.wrap, IntKind.bits, IntKind.signed]; omega
theorem interp_ok {a b : Nd} {t : Int} (ha : okN a) (hb : okN b) (h1 : a.t < t) (h2 : t < b.t) : pE (interp a b t).p = 0 ∧ 0 ≤ (interp a b t).h ∧ (interp a b t).h ≤ 60000 := by
 refine ⟨tow_ok ha.2.2.1 hb.2.2.1 (by omega) (by omega) (by omega), ?_⟩
 obtain ⟨q1, q2⟩ := way (p := b.h - a.h) (n := t - a.t) (d := b.t - a.t) (by omega) (by omega) (by omega)
 unfold okN at ha hb
 simp only [interp]
 omega
theorem at_fn (l : List Nd) (t : Int) (hv : tE l = 0) (h0 : ∀ x, l[0]? = some x → x.t ≤ t) (h1 : ∀ x, l[l.length - 1]? = some x → t ≤ x.t) : Fn Tryz.prog 130 [tube l, .int t] .sc (nd (atN l t)) := by
 have e := SecF.at_form (tube l) (.int t) (nd (atN l t))
 have k := fun h => fn_run mixed 3 (Γ := SecF.Γ) (ann := SecF.ann) Tryz.func130 rfl Tryz.call130 (e.mpr h)
 refine k ?_
 clear k e
 obtain ⟨hp, h64, hG⟩ := tE_ok hv
 have en1 : Ent Tryz.prog 191 := Tryz.call191
 refine ⟨Tryz.call190, fun _ => ⟨by simp, ?_⟩⟩
 refine loop_of (τ := Nat × Nat) (fun s => [.int (s.1 : Nat), .int (s.2 : Nat)]) (fun s => s.1 ≤ s.2 ∧ s.2 ≤ l.length ∧ (∀ j x, j < s.1 → l[j]? = some x → x.t < t) ∧ ∀ j x, s.2 ≤ j → l[j]? = some x → ¬ x.t < t) (fun s => s.2 - s.1) (0, l.length) (by simp)
  ⟨by omega, Nat.le_refl _, fun j x hj => by simp at hj, fun j x hj hx => by have hj : l.length ≤ j := hj; rw [List.getElem?_eq_none hj] at hx; cases hx⟩ ?_
 rintro ⟨lo, hi⟩ ⟨i1, i2, i3, i4⟩
 simp only at i1 i2 i3 i4
 obtain ⟨S, hS⟩ : ∃ S, S = lo + hi := ⟨_, rfl⟩
 have w1 : wr ((lo : Int) + (hi : Int)) = (S : Int) := by rw [wr_id (by omega) (by omega)]; omega
 have w2 : AV.conv .u64 (.lit (.int .i64 (S : Int))) = .lit (.int .u64 (S : Int)) := by
  show AV.lit (.int .u64 (IntKind.u64.wrap (S : Int))) = _
  rw [u64_id S (by omega)]
 obtain ⟨s1, s2, s3⟩ := half_u S (by omega)
 refine ⟨by simp, by simp, fun hlt => ?_, fun hge => ?_⟩
 ·have hlt : lo < hi := by simpa using hlt
  generalize hm : S / 2 = m at s2
  have hmb : lo ≤ m ∧ m < hi := by omega
  obtain ⟨x, hx⟩ : ∃ x, l[m]? = some x := ⟨_, List.getElem?_eq_getElem (by omega)⟩
  have hxo := (tG_get hG hx).2.1
  have g1 : x.t < t → (fun zs : List AV => ∃ m', m' < hi - lo ∧ ∃ y : Nat × Nat, zs = [.int (y.1 : Nat), .int (y.2 : Nat)] ∧ (y.1 ≤ y.2 ∧ y.2 ≤ l.length ∧ (∀ j x, j < y.1 → l[j]? = some x → x.t < t) ∧ ∀ j x, y.2 ≤ j → l[j]? = some x → ¬ x.t < t) ∧ y.2 - y.1 = m') [.int ((m : Nat) + 1), .int (hi : Nat)] := fun q =>
   ⟨_, by omega, (m + 1, hi), by simp, ⟨by simp; omega, i2, fun j y hj hy => ?_, i4⟩, rfl⟩
  have g2 : ¬ x.t < t → (fun zs : List AV => ∃ m', m' < hi - lo ∧ ∃ y : Nat × Nat, zs = [.int (y.1 : Nat), .int (y.2 : Nat)] ∧ (y.1 ≤ y.2 ∧ y.2 ≤ l.length ∧ (∀ j x, j < y.1 → l[j]? = some x → x.t < t) ∧ ∀ j x, y.2 ≤ j → l[j]? = some x → ¬ x.t < t) ∧ y.2 - y.1 = m') [.int (lo : Nat), .int (m : Nat)] := fun q =>
   ⟨_, by omega, (lo, m), by simp, ⟨by simp; omega, by simp; omega, i3, fun j y hj hy => ?_⟩, rfl⟩
  rotate_left
  ·have hj : m ≤ j := hj
   rcases Nat.eq_or_lt_of_le hj with q2 | q2
   ·subst q2
    rw [hx] at hy; injection hy with hy; rw [← hy]; exact q
   ·have := (tG_get hG hx).2.2 j y q2 hy; omega
  ·have hj : j < m + 1 := hj
   rcases Nat.lt_or_ge j m with q2 | q2
   ·have := (tG_get hG hy).2.2 m x q2 hx; omega
   ·obtain rfl : j = m := by omega
    rw [hx] at hy; injection hy with hy; rw [← hy]; exact q
  obtain ⟨q1, q2, _⟩ := hxo
  obtain ⟨x0, hx0⟩ : ∃ x0, l[0]? = some x0 := ⟨_, List.getElem?_eq_getElem (by omega)⟩
  have t0 : 0 ≤ t := by have := h0 x0 hx0; have := (tG_get hG hx0).2.1.1; omega
  obtain ⟨x1, hx1⟩ : ∃ x1, l[l.length - 1]? = some x1 := ⟨_, List.getElem?_eq_getElem (by omega)⟩
  have t1 : t ≤ 200000 := by have := h1 x1 hx1; have := (tG_get hG hx1).2.1.2.1; omega
  have wd : wr (x.t - t) = x.t - t := wr_id (by omega) (by omega)
  have wm : wr ((m : Int) + 1) = (m : Int) + 1 := wr_id (by omega) (by omega)
  generalize hKK : (fun zs : List AV => ∃ m', m' < hi - lo ∧ ∃ y : Nat × Nat, zs = [.int (y.1 : Nat), .int (y.2 : Nat)] ∧ (y.1 ≤ y.2 ∧ y.2 ≤ l.length ∧ (∀ j x, j < y.1 → l[j]? = some x → x.t < t) ∧ ∀ j x, y.2 ≤ j → l[j]? = some x → ¬ x.t < t) ∧ y.2 - y.1 = m') = KK at *
  clear hKK i3 i4 h0 h1
  obtain ⟨xt, xx, xy, xh, xr, xb⟩ := x
  simp [w1, w2, s1, s2, s3, lst_atAgg hx, encN, wd, wm, en1, show m < l.length by omega]
  exact ⟨fun q => g1 (by show xt < t; omega), fun q => g2 (by show ¬ xt < t; omega)⟩
 ·have hge : hi ≤ lo := by simpa using hge
  obtain rfl : hi = lo := by omega
  have hlo : hi < l.length := by
   refine Nat.lt_of_le_of_ne i2 fun q => ?_
   obtain ⟨z, hz⟩ : ∃ z, l[l.length - 1]? = some z := ⟨_, List.getElem?_eq_getElem (by omega)⟩
   have := h1 z hz
   have := i3 (l.length - 1) z (by omega) hz
   omega
  have hix : ixF t l = hi := ixF_is i2 i3 (fun x hx => i4 hi x (Nat.le_refl _) hx)
  obtain ⟨b, hb⟩ : ∃ b, l[hi]? = some b := ⟨_, List.getElem?_eq_getElem hlo⟩
  have hbd : l.getD (ixF t l) default = b := by rw [hix, List.getD_eq_getElem?_getD, hb]; rfl
  have hbo := (tG_get hG hb).2.1
  have hbt := i4 hi b (Nat.le_refl _) hb
  have hat : atN l t = if b.t = t then b else interp (l.getD (hi - 1) default) b t := by unfold atN; rw [hbd, hix]
  obtain ⟨x0, hx0⟩ : ∃ x0, l[0]? = some x0 := ⟨_, List.getElem?_eq_getElem (by omega)⟩
  have t0 : 0 ≤ t := by have := h0 x0 hx0; have := (tG_get hG hx0).2.1.1; omega
  obtain ⟨x1, hx1⟩ : ∃ x1, l[l.length - 1]? = some x1 := ⟨_, List.getElem?_eq_getElem (by omega)⟩
  have t1 : t ≤ 200000 := by have := h1 x1 hx1; have := (tG_get hG hx1).2.1.2.1; omega
  have e1 : b.t = t → nd (atN l t) = nd b := fun q => by rw [hat, if_pos q]
  have e2 : b.t ≠ t → ∃ a, l[hi - 1]? = some a ∧ 0 < hi ∧ okN a ∧ a.t < t ∧ t < b.t ∧ nd (atN l t) = nd (interp a b t) := fun q => by
   have hpos : 0 < hi := by
    refine Nat.pos_of_ne_zero fun z => ?_
    subst z
    have := h0 b hb
    omega
   obtain ⟨a, ha⟩ : ∃ a, l[hi - 1]? = some a := ⟨_, List.getElem?_eq_getElem (by omega)⟩
   have had : l.getD (hi - 1) default = a := by rw [List.getD_eq_getElem?_getD, ha]; rfl
   exact ⟨a, ha, hpos, (tG_get hG ha).2.1, i3 (hi - 1) a (by omega) ha, by omega, by rw [hat, if_neg q, had]⟩
  generalize nd (atN l t) = R at *
  have wd : wr (b.t - t) = b.t - t := by obtain ⟨q1, q2, _⟩ := hbo; exact wr_id (by omega) (by omega)
  clear hat hbd hix i3 i4 h1
  have hbo' := hbo
  obtain ⟨bt, bx, b_, bh, br, bb⟩ := b
  simp only at wd
  by_cases hbt0 : bt = t
  ·have hz : bt - t = 0 := by omega
   have hw0 : wr (bt - t) = 0 := by rw [wd, hz]
   simp [hlo, lst_atAgg hb, encN, hw0, en1]
   exact (e1 hbt0).symm
  ·obtain ⟨a, ha, hpos, hao, hat1, hat2, hR⟩ := e2 hbt0
   obtain ⟨k, rfl⟩ : ∃ k, hi = k + 1 := ⟨hi - 1, by omega⟩
   have wk : wr (k : Int) = (k : Int) := wr_id (by omega) (by omega)
   have ha : l[k]? = some a := ha
   have hz : ¬ bt - t = 0 := by omega
   have hao' := hao
   obtain ⟨at_, ax, ay, ah, ar, ab⟩ := a
   simp only [okN, Nd.p] at hbo hao hat1 hat2
   obtain ⟨a1, a2, a3, a4, a5, a6, a7, a8, a9⟩ := hao
   obtain ⟨b1, b2, b3, b4, b5, b6, b7, b8, b9⟩ := hbo
   have v1 : wr (t - at_) = t - at_ := wr_id (by omega) (by omega)
   have v2 : wr (bt - at_) = bt - at_ := wr_id (by omega) (by omega)
   have v3 : wr (bh - ah) = bh - ah := wr_id (by omega) (by omega)
   have v4 : wr (br - ar) = br - ar := wr_id (by omega) (by omega)
   have v5 : wr (bb - ab) = bb - ab := wr_id (by omega) (by omega)
   have m1 := mulb (p := bh - ah) (n := t - at_) (by omega) (by omega) (by omega) (by omega)
   have m2 := mulb (p := br - ar) (n := t - at_) (by omega) (by omega) (by omega) (by omega)
   have m3 := mulb (p := bb - ab) (n := t - at_) (by omega) (by omega) (by omega) (by omega)
   have v6 : wr ((bh - ah) * (t - at_)) = (bh - ah) * (t - at_) := wr_id (by omega) (by omega)
   have v7 : wr ((br - ar) * (t - at_)) = (br - ar) * (t - at_) := wr_id (by omega) (by omega)
   have v8 : wr ((bb - ab) * (t - at_)) = (bb - ab) * (t - at_) := wr_id (by omega) (by omega)
   have hd : 0 < bt - at_ := by omega
   have c1 := toward_fn ⟨ax, ay⟩ ⟨bx, b_⟩ (t - at_) (bt - at_) a3 b3 hd (by omega) (by omega) (by omega)
   have c2 := divd_fn ((bh - ah) * (t - at_)) (bt - at_) hd (by omega) (by omega)
   have c3 := divu_fn ((br - ar) * (t - at_)) (bt - at_) hd (by omega) (by omega)
   have c4 := divu_fn ((bb - ab) * (t - at_)) (bt - at_) hd (by omega) (by omega)
   have d2 := quo_bd hd (a := (bh - ah) * (t - at_)) (by omega) (by omega)
   have d3 := dvu_bd hd (a := (br - ar) * (t - at_)) (by omega) (by omega)
   have d4 := dvu_bd hd (a := (bb - ab) * (t - at_)) (by omega) (by omega)
   have v9 : wr (ah + (bh - ah) * (t - at_) / (bt - at_)) = ah + (bh - ah) * (t - at_) / (bt - at_) := wr_id (by omega) (by omega)
   have v10 : wr (ar + dvu ((br - ar) * (t - at_)) (bt - at_)) = ar + dvu ((br - ar) * (t - at_)) (bt - at_) := wr_id (by omega) (by omega)
   have v11 : wr (ab + dvu ((bb - ab) * (t - at_)) (bt - at_)) = ab + dvu ((bb - ab) * (t - at_)) (bt - at_) := wr_id (by omega) (by omega)
   have hlo' : (k : Int) + 1 < l.length := by omega
   have hlo2 : (k : Int) < l.length := by omega
   have hbz : AV.atAgg (tube l) (.lit (.int .i64 ((k : Int) + 1))) 0 6 = .agg [.int bt, .int bx, .int b_, .int bh, .int br, .int bb] := by
    have := lst_atAgg (s := 6) (enc := encN) (k := .i64) (j := 0) (m := 6) hb
    simpa [encN] using this
   rw [hR]
   simp [hlo', hlo2, hbz, lst_atAgg ha, encN, wd, en1, hz, wk, v1, v2]
   refine ⟨by omega, _, c1, ?_⟩
   simp [encP, v3, v6]
   refine ⟨_, c2, ?_⟩
   simp [v4, v7]
   refine ⟨_, c3, ?_⟩
   simp [v5, v8]
   refine ⟨_, c4, ?_⟩
   simp [v9, v10, v11, interp, Nd.p]
def tatE (l : List Nd) (t : Int) : Int := if tE l ≠ 0 then tE l else if t < (l.getD 0 default).t ∨ t > (l.getD (l.length - 1) default).t then 12 else 0
def nd0 : Nd := ⟨0, 0, 0, 0, 0, 0⟩
def tatV (l : List Nd) (t : Int) : AV := if tatE l t = 0 then .tup [nd (atN l t), .int 0] else .tup [nd nd0, .int (tatE l t)]
theorem tatE_ok {l : List Nd} {t : Int} (h : tatE l t = 0) : tE l = 0 ∧ (∀ x, l[0]? = some x → x.t ≤ t) ∧ ∀ x, l[l.length - 1]? = some x → t ≤ x.t := by
 unfold tatE at h
 split at h
 ·rename_i q; exact absurd h q
 ·rename_i q
  split at h
  ·cases h
  ·refine ⟨by simpa using q, fun x hx => ?_, fun x hx => ?_⟩
   ·have : (l.getD 0 default).t = x.t := by rw [List.getD_eq_getElem?_getD, hx]; rfl
    omega
   ·have : (l.getD (l.length - 1) default).t = x.t := by rw [List.getD_eq_getElem?_getD, hx]; rfl
    omega
theorem atN_ok {l : List Nd} {t : Int} (hv : tE l = 0) (h0 : ∀ x, l[0]? = some x → x.t ≤ t) (h1 : ∀ x, l[l.length - 1]? = some x → t ≤ x.t) : pE (atN l t).p = 0 ∧ 0 ≤ (atN l t).h ∧ (atN l t).h ≤ 60000 := by
 obtain ⟨hp, h64, hG⟩ := tE_ok hv
 have hlt : ixF t l < l.length := by
  refine Nat.lt_of_le_of_ne (ixF_le t l) fun q => ?_
  obtain ⟨z, hz⟩ : ∃ z, l[l.length - 1]? = some z := ⟨_, List.getElem?_eq_getElem (by omega)⟩
  have := h1 z hz
  have := ixF_lt (t := t) (l := l) (j := l.length - 1) (by omega) hz
  omega
 obtain ⟨b, hb⟩ : ∃ b, l[ixF t l]? = some b := ⟨_, List.getElem?_eq_getElem hlt⟩
 have hbd : l.getD (ixF t l) default = b := by rw [List.getD_eq_getElem?_getD, hb]; rfl
 have hbo := (tG_get hG hb).2.1
 have hbt := ixF_ge hb
 unfold atN
 rw [hbd]
 split
 ·exact ⟨hbo.2.2.1, hbo.2.2.2.1, hbo.2.2.2.2.1⟩
 ·rename_i hne
  have hpos : 0 < ixF t l := by
   refine Nat.pos_of_ne_zero fun z => ?_
   rw [z] at hb
   have := h0 b hb
   omega
  obtain ⟨a, ha⟩ : ∃ a, l[ixF t l - 1]? = some a := ⟨_, List.getElem?_eq_getElem (by omega)⟩
  have had : l.getD (ixF t l - 1) default = a := by rw [List.getD_eq_getElem?_getD, ha]; rfl
  rw [had]
  exact interp_ok (tG_get hG ha).2.1 hbo (ixF_lt (by omega) ha) (by omega)
theorem tat_fn (l : List Nd) (t : Int) : Fn Tryz.prog 68 [tube l, .int t] (.tup [.sc, .sc]) (tatV l t) := by
 refine fn_run mixed 3 (Γ := SecF.Γ) (ann := SecF.ann) Tryz.func68 rfl Tryz.call68 ((SecF.tat_form _ _ _).mpr ?_)
 refine ⟨_, tcheck_fn l, ?_⟩
 have hV1 : tE l ≠ 0 → tatV l t = .tup [nd nd0, .int (tE l)] := fun g => by
  have : tatE l t = tE l := by unfold tatE; rw [if_pos g]
  unfold tatV; rw [this, if_neg g]
 simp
 refine ⟨fun g => (hV1 g).symm, fun g => ?_⟩
 obtain ⟨hp, h64, hG⟩ := tE_ok g
 obtain ⟨a, ha⟩ : ∃ a, l[0]? = some a := ⟨_, List.getElem?_eq_getElem hp⟩
 obtain ⟨b, hb⟩ : ∃ b, l[l.length - 1]? = some b := ⟨_, List.getElem?_eq_getElem (by omega)⟩
 have had : l.getD 0 default = a := by rw [List.getD_eq_getElem?_getD, ha]; rfl
 have hbd : l.getD (l.length - 1) default = b := by rw [List.getD_eq_getElem?_getD, hb]; rfl
 have hV2 : (t < a.t ∨ t > b.t) → tatV l t = .tup [nd nd0, .int 12] := fun q => by
  have : tatE l t = 12 := by unfold tatE; rw [if_neg (by simp [g]), had, hbd, if_pos q]
  unfold tatV; rw [this, if_neg (by decide)]
 have hV3 : ¬ (t < a.t ∨ t > b.t) → tatV l t = .tup [nd (atN l t), .int 0] := fun q => by
  have : tatE l t = 0 := by unfold tatE; rw [if_neg (by simp [g]), had, hbd, if_neg q]
  unfold tatV; rw [if_pos this]
 refine ⟨_, ends_fn l a b ha hb (by omega), ?_⟩
 simp
 refine ⟨fun q => ⟨q, (hV2 (by omega)).symm⟩, fun q => ⟨q, fun q2 => (hV2 (by omega)).symm, fun q2 => ?_⟩⟩
 rw [hV3 (by omega)]
 refine ⟨_, at_fn l t g (fun x hx => by rw [ha] at hx; injection hx with hx; rw [← hx]; exact q) (fun x hx => by rw [hb] at hx; injection hx with hx; rw [← hx]; exact q2), ?_⟩
 simp [encN]
end Go.Proofs.YtcifjnhpgblnkaaGreatDoor
namespace Go.Proofs.YtcifjnhpgblnkaaGreatDoor
open Go.RowKit
set_option linter.unusedVariables false
set_option linter.unusedSimpArgs false
set_option maxRecDepth 100000
def rbin (n : Int) : Nat → Int → Int → Int
 | 0, lo, _ => lo
 | f + 1, lo, hi => if lo < hi then (if (lo + (hi - lo + 1) / 2) * (lo + (hi - lo + 1) / 2) ≤ n then rbin n f (lo + (hi - lo + 1) / 2) hi else rbin n f lo (lo + (hi - lo + 1) / 2 - 1)) else lo
def rootI (n : Int) : Int := if n ≤ 0 then 0 else rbin n 40 0 3037000499
theorem rbin_bd (n : Int) : ∀ (f : Nat) (lo hi : Int), lo ≤ hi → lo ≤ rbin n f lo hi ∧ rbin n f lo hi ≤ hi
 | 0, lo, hi, h => ⟨Int.le_refl _, h⟩
 | f + 1, lo, hi, h => by
  rw [rbin]
  split
  ·split
   ·have := rbin_bd n f (lo + (hi - lo + 1) / 2) hi (by omega); omega
   ·have := rbin_bd n f lo (lo + (hi - lo + 1) / 2 - 1) (by omega); omega
  ·omega
theorem rootI_bd (n : Int) : 0 ≤ rootI n ∧ rootI n ≤ 3037000499 := by
 unfold rootI
 split
 ·omega
 ·exact rbin_bd n 40 0 3037000499 (by omega)
theorem sq_bd {r : Int} (h0 : 0 ≤ r) (h1 : r ≤ 3037000499) : 0 ≤ r * r ∧ r * r ≤ 9223372030926249001 := by
 have a1 := Int.mul_le_mul h1 h1 h0 (by omega)
 have a2 := Int.mul_nonneg h0 h0
 exact ⟨a2, by simpa using a1⟩
theorem root_fn (n : Int) : Fn Tryz.prog 252 [.int n] .sc (.int (rootI n)) := by
 have e := DisF.root_form (.int n) (.int (rootI n))
 have k := fun h => fn_run mixed 3 (Γ := DisF.Γ) (ann := DisF.ann) Tryz.func252 rfl Tryz.call252 (e.mpr h)
 refine k ?_
 clear k e
 refine ⟨by simp, by simp, fun h => ?_, fun h => ?_⟩
 ·have h : n ≤ 0 := by simpa using h
  unfold rootI
  rw [if_pos h]
  simp
 ·have h : ¬ n ≤ 0 := by simpa using h
  have hR : rootI n = rbin n 40 0 3037000499 := by unfold rootI; rw [if_neg h]
  rw [hR]
  generalize hr : rbin n 40 0 3037000499 = R
  refine loop_of (τ := Int × Int × Nat) (fun s => [.int s.1, .int s.2.1]) (fun s => 0 ≤ s.1 ∧ s.1 ≤ s.2.1 ∧ s.2.1 ≤ 3037000499 ∧ s.2.1 - s.1 < (2 ^ s.2.2 : Nat) ∧ rbin n s.2.2 s.1 s.2.1 = R) (fun s => (s.2.1 - s.1).toNat) (0, 3037000499, 40) rfl ⟨by simp, by simp, by simp, by simp, hr⟩ ?_
  rintro ⟨lo, hi, f⟩ ⟨i1, i2, i3, i4, i5⟩
  simp only at i1 i2 i3 i4 i5
  by_cases hlt : lo < hi
  ·obtain ⟨g, rfl⟩ : ∃ g, f = g + 1 := ⟨f - 1, by
    rcases Nat.eq_zero_or_pos f with z | z
    ·subst z; simp at i4; omega
    ·omega⟩
   rw [Nat.pow_succ] at i4
   generalize hP : 2 ^ g = P at i4
   have hP' : (2 : Int) ^ g = (P : Int) := by rw [← hP]; simp
   rw [rbin, if_pos hlt] at i5
   have e1 : (hi - lo + 1).tdiv 2 = (hi - lo + 1) / 2 := Int.tdiv_eq_ediv_of_nonneg (by omega)
   have w1 : wr (hi - lo) = hi - lo := wr_id (by omega) (by omega)
   have w2 : wr (hi - lo + 1) = hi - lo + 1 := wr_id (by omega) (by omega)
   have w3 : wr ((hi - lo + 1) / 2) = (hi - lo + 1) / 2 := wr_id (by omega) (by omega)
   have w4 : wr (lo + (hi - lo + 1) / 2) = lo + (hi - lo + 1) / 2 := wr_id (by omega) (by omega)
   generalize hm : lo + (hi - lo + 1) / 2 = m at *
   have hmb : lo < m ∧ m ≤ hi ∧ 2 * (hi - m) ≤ hi - lo ∧ 2 * (m - 1 - lo) ≤ hi - lo := by omega
   have hsq := sq_bd (r := m) (by omega) (by omega)
   have w5 : wr (m * m) = m * m := wr_id (by omega) (by omega)
   have w6 : wr (m - 1) = m - 1 := wr_id (by omega) (by omega)
   simp [hlt, w1, w2, w3, hm, w4, w5, w6, e1]
   refine ⟨fun q => ?_, fun q => ?_⟩
   ·rw [if_pos q] at i5
    exact ⟨_, by omega, m, hi, ⟨rfl, rfl⟩, ⟨⟨by omega, by omega, i3, g, by rw [hP']; omega, i5⟩, rfl⟩⟩
   ·rw [if_neg (by omega)] at i5
    exact ⟨_, by omega, lo, m - 1, ⟨rfl, rfl⟩, ⟨⟨by omega, by omega, by omega, g, by rw [hP']; omega, i5⟩, rfl⟩⟩
  ·have : rbin n f lo hi = lo := by cases f <;> simp [rbin, hlt]
   rw [this] at i5
   subst i5
   simp [hlt]
def disA (a b : Pt) : Int := rootI (sqrP a b)
def disB (a b : Pt) : Int := if disA a b * disA a b < sqrP a b then disA a b + 1 else disA a b
theorem dist_fn (a b : Pt) : Fn Tryz.prog 201 [pt a, pt b] (.tup [.sc, .sc]) (.tup [.int (disA a b), .int (disB a b)]) := by
 have e := DisF.dist_form (pt a) (pt b) (.tup [.int (disA a b), .int (disB a b)])
 have k := fun h => fn_run mixed 3 (Γ := DisF.Γ) (ann := DisF.ann) Tryz.func201 rfl Tryz.call201 (e.mpr h)
 refine k ?_
 clear k e
 have hb := rootI_bd (sqrP a b)
 have hsq := sq_bd hb.1 hb.2
 have hB : disB a b = if disA a b * disA a b < sqrP a b then disA a b + 1 else disA a b := rfl
 have hA : disA a b = rootI (sqrP a b) := rfl
 rw [hB, hA]
 refine ⟨by simp [encP], by simp [encP], _, sqr_fn a b, _, root_fn _, ?_⟩
 generalize sqrP a b = n at *
 generalize rootI n = R at *
 have w1 : wr (R * R) = R * R := wr_id (by omega) (by omega)
 have w2 : wr (R + 1) = R + 1 := wr_id (by omega) (by omega)
 simp [w1, w2]
 exact ⟨fun q q2 => by omega, fun q q2 => by omega⟩
end Go.Proofs.YtcifjnhpgblnkaaGreatDoor
namespace Go.Proofs.YtcifjnhpgblnkaaGreatDoor
open Go.RowKit
set_option linter.unusedVariables false
set_option maxRecDepth 100000
namespace EffF
def Γ : FuncId → Option Ca := fun f =>
 if f = 20 ∨ f = 67 ∨ f = 58 ∨ f = 65 ∨ f = 78 ∨ f = 123 ∨ f = 62 ∨ f = 63 ∨ f = 64 ∨ f = 66 then some (.fn .sc)
 else if f = 68 ∨ f = 193 ∨ f = 194 ∨ f = 195 then some (.fn (.tup [.sc, .sc]))
 else if f = 70 ∨ f = 71 then some (.fn (.row 54 6 true))
 else if f = 18 ∨ f = 131 ∨ f = 132 ∨ f = 133 ∨ f = 134 then some (.fn (.tup [.row 54 6 true, .sc]))
 else if f = 69 then some (.fn (.tup [.row 54 6 true, .sc, .sc]))
 else if f = 198 then some (.upd true)
 else some .inl
def ann : FuncId → Nat → LoopEx := fun f r => if 300000 ≤ r then ⟨[], [], [], []⟩ else
 if f = 131 then ⟨[], [1000007], [], []⟩
 else if f = 18 ∧ r = 13 then ⟨[], [2305, 2369], [(1985, 0), (1985, 1), (1985, 2), (1985, 3), (1985, 6), (1985, 7), (1985, 8), (1985, 9), (1985, 10), (1985, 11), (1985, 12), (1985, 13), (1985, 14), (1985, 15), (1985, 16), (1985, 17), (1985, 18), (1985, 19), (1985, 20), (1985, 21)], [(1985, 4, 54, 6), (1985, 5, 54, 6)]⟩
 else ⟨[], [], [], []⟩
theorem acheck_form (x0 r : AV) : fnF Tryz.prog Γ ann 3 65 Tryz.f65 (Tryz.f65.body.getD .skip) (.nil) [x0] (.sc) r = (((AV.isAgg x0 7) ∧
(∃ r321 : AV, ((Fn Tryz.prog 78 [(AV.cel x0 0)] Sh.sc r321) ∧
((AV.unOk Go.UnOp.not r321) ∧
(let +zeta σ7 := (AV.un Go.UnOp.not r321)
((AV.isBool σ7) ∧
(((isT σ7) →
((AV.flat (AV.int 5)) ∧
(fSame (AV.int 5) r))) ∧
((isF σ7) →
(let +zeta σ0 := (AV.cel x0 1)
((AV.binOk Go.BinOp.lss σ0 (AV.int 0)) ∧
(let +zeta σ10 := (AV.bin Go.BinOp.lss σ0 (AV.int 0))
 let +zeta σ43 := (AV.isBool σ10)
(σ43 ∧
(let +zeta σ8 := ((AV.flat (AV.int 1)) ∧
(fSame (AV.int 1) r))
((let +zeta σ23 := (isT σ10)
(σ23 →
(σ43 ∧
(σ23 ∧
 σ8)))) ∧
(let +zeta σ24 := (isF σ10)
(σ24 →
((AV.binOk Go.BinOp.gtr σ0 (AV.int 3)) ∧
(σ43 ∧
(σ24 ∧
(let +zeta σ11 := (AV.bin Go.BinOp.gtr σ0 (AV.int 3))
((AV.isBool σ11) ∧
(((isT σ11) →
 σ8) ∧
((isF σ11) →
(let +zeta σ6 := (fEnt Tryz.prog 128)
(σ6 ∧
(fAllV fun _ => (let +zeta σ1 := (AV.cel x0 2)
((AV.binOk Go.BinOp.lss σ1 (AV.int 1)) ∧
(let +zeta σ12 := (AV.bin Go.BinOp.lss σ1 (AV.int 1))
 let +zeta σ44 := (AV.isBool σ12)
(σ44 ∧
(let +zeta σ9 := ((AV.flat (AV.int 4)) ∧
(fSame (AV.int 4) r))
((let +zeta σ25 := (isT σ12)
(σ25 →
(σ44 ∧
(σ25 ∧
 σ9)))) ∧
(let +zeta σ26 := (isF σ12)
(σ26 →
((AV.binOk Go.BinOp.gtr σ1 (AV.int 60000)) ∧
(σ44 ∧
(σ26 ∧
(let +zeta σ22 := (AV.bin Go.BinOp.gtr σ1 (AV.int 60000))
 let +zeta σ52 := (AV.isBool σ22)
(σ52 ∧
((let +zeta σ41 := (isT σ22)
(σ41 →
(σ52 ∧
(σ41 ∧
 σ9)))) ∧
(let +zeta σ42 := (isF σ22)
(σ42 →
(σ6 ∧
(fAllV fun _ => (let +zeta σ2 := (AV.cel x0 3)
((AV.binOk Go.BinOp.lss σ2 (AV.int 1)) ∧
(let +zeta σ13 := (AV.bin Go.BinOp.lss σ2 (AV.int 1))
 let +zeta σ45 := (AV.isBool σ13)
(σ45 ∧
((let +zeta σ27 := (isT σ13)
(σ27 →
(σ45 ∧
(σ27 ∧
(σ52 ∧
(σ42 ∧
 σ9)))))) ∧
(let +zeta σ28 := (isF σ13)
(σ28 →
((AV.binOk Go.BinOp.gtr σ2 (AV.int 200)) ∧
(σ45 ∧
(σ28 ∧
(σ52 ∧
(σ42 ∧
(let +zeta σ17 := (AV.bin Go.BinOp.gtr σ2 (AV.int 200))
 let +zeta σ49 := (AV.isBool σ17)
(σ49 ∧
((let +zeta σ35 := (isT σ17)
(σ35 →
(σ49 ∧
(σ35 ∧
 σ9)))) ∧
(let +zeta σ36 := (isF σ17)
(σ36 →
(σ6 ∧
(fAllV fun _ => (let +zeta σ3 := (AV.cel x0 4)
((AV.binOk Go.BinOp.lss σ3 (AV.int 1)) ∧
(let +zeta σ14 := (AV.bin Go.BinOp.lss σ3 (AV.int 1))
 let +zeta σ46 := (AV.isBool σ14)
(σ46 ∧
((let +zeta σ29 := (isT σ14)
(σ29 →
(σ46 ∧
(σ29 ∧
(σ49 ∧
(σ36 ∧
 σ9)))))) ∧
(let +zeta σ30 := (isF σ14)
(σ30 →
((AV.binOk Go.BinOp.gtr σ3 (AV.int 200)) ∧
(σ46 ∧
(σ30 ∧
(σ49 ∧
(σ36 ∧
(let +zeta σ18 := (AV.bin Go.BinOp.gtr σ3 (AV.int 200))
 let +zeta σ50 := (AV.isBool σ18)
(σ50 ∧
((let +zeta σ37 := (isT σ18)
(σ37 →
(σ50 ∧
(σ37 ∧
 σ9)))) ∧
(let +zeta σ38 := (isF σ18)
(σ38 →
(σ6 ∧
(fAllV fun _ => (let +zeta σ4 := (AV.cel x0 5)
((AV.binOk Go.BinOp.lss σ4 (AV.int 1)) ∧
(let +zeta σ15 := (AV.bin Go.BinOp.lss σ4 (AV.int 1))
 let +zeta σ47 := (AV.isBool σ15)
(σ47 ∧
((let +zeta σ31 := (isT σ15)
(σ31 →
(σ47 ∧
(σ31 ∧
(σ50 ∧
(σ38 ∧
 σ9)))))) ∧
(let +zeta σ32 := (isF σ15)
(σ32 →
((AV.binOk Go.BinOp.gtr σ4 (AV.int 400)) ∧
(σ47 ∧
(σ32 ∧
(σ50 ∧
(σ38 ∧
(let +zeta σ19 := (AV.bin Go.BinOp.gtr σ4 (AV.int 400))
 let +zeta σ51 := (AV.isBool σ19)
(σ51 ∧
((let +zeta σ39 := (isT σ19)
(σ39 →
(σ51 ∧
(σ39 ∧
 σ9)))) ∧
(let +zeta σ40 := (isF σ19)
(σ40 →
(σ6 ∧
(fAllV fun _ => (let +zeta σ5 := (AV.cel x0 6)
((AV.binOk Go.BinOp.lss σ5 (AV.int 1)) ∧
(let +zeta σ16 := (AV.bin Go.BinOp.lss σ5 (AV.int 1))
 let +zeta σ48 := (AV.isBool σ16)
(σ48 ∧
((let +zeta σ33 := (isT σ16)
(σ33 →
(σ48 ∧
(σ33 ∧
(σ51 ∧
(σ40 ∧
 σ9)))))) ∧
(let +zeta σ34 := (isF σ16)
(σ34 →
((AV.binOk Go.BinOp.gtr σ5 (AV.int 400)) ∧
(σ48 ∧
(σ34 ∧
(σ51 ∧
(σ40 ∧
(let +zeta σ20 := (AV.bin Go.BinOp.gtr σ5 (AV.int 400))
((AV.isBool σ20) ∧
(((isT σ20) →
 σ9) ∧
((isF σ20) →
((AV.binOk Go.BinOp.gtr σ4 σ5) ∧
(let +zeta σ21 := (AV.bin Go.BinOp.gtr σ4 σ5)
((AV.isBool σ21) ∧
(((isT σ21) →
((AV.flat (AV.int 3)) ∧
(fSame (AV.int 3) r))) ∧
((isF σ21) →
((AV.flat (AV.int 0)) ∧
(fSame (AV.int 0) r))))))))))))))))))))))))))))))))))))))))))))))))))))))))))))))))))))))))))))))))))))))))))))))))))))))))))))))))))))))))))))) := by kernel_rfl
theorem climb_form (x0 x1 x2 r : AV) : fnF Tryz.prog Γ ann 3 195 Tryz.f195 (Tryz.f195.body.getD .skip) (.nil) [x0, x1, x2] (.tup [.sc, .sc]) r = (((AV.isAgg x0 7) ∧
(∃ r257 : AV, (let +zeta σ0 := (AV.cel x0 2)
((Fn Tryz.prog 65 [(AV.agg [(AV.cel x0 0), (AV.cel x0 1), σ0, (AV.cel x0 3), (AV.cel x0 4), (AV.cel x0 5), (AV.cel x0 6)])] Sh.sc r257) ∧
((AV.binOk Go.BinOp.neq r257 (AV.int 0)) ∧
(let +zeta σ6 := (AV.bin Go.BinOp.neq r257 (AV.int 0))
((AV.isBool σ6) ∧
(let +zeta σ2 := (AV.flat (AV.int 0))
(((isT σ6) →
(σ2 ∧
((AV.flat r257) ∧
(fSame (AV.tup [(AV.int 0), r257]) r)))) ∧
((isF σ6) →
((AV.binOk Go.BinOp.lss x1 (AV.int 0)) ∧
(let +zeta σ4 := (AV.bin Go.BinOp.lss x1 (AV.int 0))
 let +zeta σ19 := (AV.isBool σ4)
(σ19 ∧
(let +zeta σ23 := (σ2 ∧
((AV.flat (AV.int 4)) ∧
(fSame (AV.tup [(AV.int 0), (AV.int 4)]) r)))
((let +zeta σ11 := (isT σ4)
(σ11 →
(σ19 ∧
(σ11 ∧
 σ23)))) ∧
(let +zeta σ12 := (isF σ4)
(σ12 →
(let +zeta σ1 := (AV.int 60000)
((AV.binOk Go.BinOp.gtr x1 σ1) ∧
(σ19 ∧
(σ12 ∧
(let +zeta σ9 := (AV.bin Go.BinOp.gtr x1 σ1)
 let +zeta σ22 := (AV.isBool σ9)
(σ22 ∧
((let +zeta σ17 := (isT σ9)
(σ17 →
(σ22 ∧
(σ17 ∧
 σ23)))) ∧
(let +zeta σ18 := (isF σ9)
(σ18 →
((AV.binOk Go.BinOp.lss x2 (AV.int 0)) ∧
(σ22 ∧
(σ18 ∧
(let +zeta σ5 := (AV.bin Go.BinOp.lss x2 (AV.int 0))
 let +zeta σ20 := (AV.isBool σ5)
(σ20 ∧
((let +zeta σ13 := (isT σ5)
(σ13 →
(σ20 ∧
(σ13 ∧
 σ23)))) ∧
(let +zeta σ14 := (isF σ5)
(σ14 →
((AV.binOk Go.BinOp.gtr x2 σ1) ∧
(σ20 ∧
(σ14 ∧
(let +zeta σ10 := (AV.bin Go.BinOp.gtr x2 σ1)
((AV.isBool σ10) ∧
(((isT σ10) →
 σ23) ∧
((isF σ10) →
((AV.binOk Go.BinOp.gtr x1 σ0) ∧
(let +zeta σ7 := (AV.bin Go.BinOp.gtr x1 σ0)
 let +zeta σ21 := (AV.isBool σ7)
(σ21 ∧
(let +zeta σ24 := (σ2 ∧
((AV.flat (AV.int 20)) ∧
(fSame (AV.tup [(AV.int 0), (AV.int 20)]) r)))
((let +zeta σ15 := (isT σ7)
(σ15 →
(σ21 ∧
(σ15 ∧
 σ24)))) ∧
(let +zeta σ16 := (isF σ7)
(σ16 →
((AV.binOk Go.BinOp.gtr x2 σ0) ∧
(σ21 ∧
(σ16 ∧
(let +zeta σ8 := (AV.bin Go.BinOp.gtr x2 σ0)
((AV.isBool σ8) ∧
(((isT σ8) →
 σ24) ∧
((isF σ8) →
((AV.binOk Go.BinOp.geq x2 x1) ∧
(let +zeta σ3 := (AV.bin Go.BinOp.geq x2 x1)
((AV.isBool σ3) ∧
(((isT σ3) →
((AV.binOk Go.BinOp.sub x2 x1) ∧
(∃ r2753 : AV, ((Fn Tryz.prog 194 [(AV.bin Go.BinOp.sub x2 x1), (AV.cel x0 3)] (Sh.tup [Sh.sc, Sh.sc]) r2753) ∧
((AV.flat (AV.prj r2753 0)) ∧
((AV.flat (AV.prj r2753 1)) ∧
(fSame (AV.tup [(AV.prj r2753 0), (AV.prj r2753 1)]) r))))))) ∧
((isF σ3) →
((AV.binOk Go.BinOp.sub x1 x2) ∧
(∃ r2753 : AV, ((Fn Tryz.prog 194 [(AV.bin Go.BinOp.sub x1 x2), (AV.cel x0 4)] (Sh.tup [Sh.sc, Sh.sc]) r2753) ∧
((AV.flat (AV.prj r2753 0)) ∧
((AV.flat (AV.prj r2753 1)) ∧
(fSame (AV.tup [(AV.prj r2753 0), (AV.prj r2753 1)]) r))))))))))))))))))))))))))))))))))))))))))))))))))))))))))))))))))) := by kernel_rfl
theorem of1_form (x0 r : AV) : fnF Tryz.prog Γ ann 3 62 Tryz.f62 (Tryz.f62.body.getD .skip) (.nil) [x0] (.sc) r = (((AV.isRef x0 1) ∧
(∃ r129 : AV, ((Fn Tryz.prog 20 [(AV.der x0)] Sh.sc r129) ∧
((AV.flat r129) ∧
(fSame r129 r)))))) := by kernel_rfl
theorem of_form (x0 x1 x2 x3 x4 r : AV) : fnF Tryz.prog Γ ann 3 18 Tryz.f18 (Tryz.f18.body.getD .skip) (.nil) [x0, x1, x2, x3, x4] (.tup [.row 54 6 true, .sc]) r = (((AV.isOne x0) ∧
((AV.isAgg x1 4) ∧
((AV.isAgg x3 7) ∧
((AV.isAgg x4 2) ∧
(fLoop 833 [(AV.int 0)] fun ys833 again833 =>
(let +zeta σ5 := (ys833.getD 0 default)
 let +zeta σ35 := (AV.mkRef [(AV.cel x4 0), (AV.cel x4 1)])
 let +zeta σ43 := (AV.mkRef [(AV.cel x1 0), (AV.cel x1 1), (AV.cel x1 2), (AV.cel x1 3)])
 let +zeta σ53 := (AV.mkRef [(AV.cel x3 0), (AV.cel x3 1), (AV.cel x3 2), (AV.cel x3 3), (AV.cel x3 4), (AV.cel x3 5), (AV.cel x3 6)])
 let +zeta σ55 := (AV.mk 1 [[(AV.mkClo 62 [(AV.mkRef [x0])])], [(AV.mkClo 63 [σ43])], [(AV.mkClo 64 [σ53])], [(AV.mkClo 66 [σ35])]])
 let +zeta σ56 := (AV.len σ55)
((AV.binOk Go.BinOp.lss σ5 σ56) ∧
(let +zeta σ58 := (AV.bin Go.BinOp.lss σ5 σ56)
((AV.isBool σ58) ∧
(let +zeta σ0 := (AV.mk 6 [])
 let +zeta σ6 := (AV.flatS σ0)
(((isT σ58) →
(let +zeta σ57 := (AV.inb σ55 σ5)
(σ57 ∧
(σ57 ∧
(∃ r1153 : AV, ((FnC Tryz.prog (AV.at σ55 σ5 0) [] Sh.sc r1153) ∧
((AV.binOk Go.BinOp.neq r1153 (AV.int 0)) ∧
(let +zeta σ34 := (AV.bin Go.BinOp.neq r1153 (AV.int 0))
((AV.isBool σ34) ∧
(((isT σ34) →
(σ6 ∧
((AV.flat r1153) ∧
(fSame (AV.tup [σ0, r1153]) r)))) ∧
((isF σ34) →
((AV.binOk Go.BinOp.add σ5 (AV.int 1)) ∧
(again833 [(AV.bin Go.BinOp.add σ5 (AV.int 1))]))))))))))))) ∧
((isF σ58) →
(let +zeta σ31 := (AV.isRef (AV.mkRef [x0]) 1)
(σ31 ∧
(∃ r1025 : AV, (let +zeta σ17 := (AV.der (AV.mkRef [x0]))
((Fn Tryz.prog 68 [σ17, x2] (Sh.tup [Sh.sc, Sh.sc]) r1025) ∧
(let +zeta σ1 := (AV.prj r1025 0)
((AV.isAgg σ1 6) ∧
(let +zeta σ2 := (AV.prj r1025 1)
((AV.binOk Go.BinOp.neq σ2 (AV.int 0)) ∧
(let +zeta σ37 := (AV.bin Go.BinOp.neq σ2 (AV.int 0))
((AV.isBool σ37) ∧
(((isT σ37) →
(σ6 ∧
((AV.flat σ2) ∧
(fSame (AV.tup [σ0, σ2]) r)))) ∧
((isF σ37) →
((AV.isRef σ43 4) ∧
((AV.isRef σ53 7) ∧
((AV.isRef σ35 2) ∧
(σ31 ∧
(let +zeta σ46 := (AV.derA σ43)
((AV.isAgg σ46 4) ∧
(let +zeta σ54 := (AV.derA σ53)
((AV.isAgg σ54 7) ∧
(let +zeta σ39 := (AV.derA σ35)
((AV.isAgg σ39 2) ∧
((AV.isOne σ17) ∧
(σ31 ∧
(let +zeta σ33 := (AV.isSl σ17 6)
(σ33 ∧
(fLoop 2433 [(AV.int 0), σ0, σ0, (AV.cel σ46 0), (AV.cel σ46 1), (AV.cel σ46 2), (AV.cel σ46 3), (AV.cel σ1 0), (AV.cel σ1 1), (AV.cel σ1 2), (AV.cel σ1 3), (AV.cel σ1 4), (AV.cel σ1 5), (AV.cel σ54 0), (AV.cel σ54 1), (AV.cel σ54 2), (AV.cel σ54 3), (AV.cel σ54 4), (AV.cel σ54 5), (AV.cel σ54 6), (AV.cel σ39 0), (AV.cel σ39 1), σ17] fun ys2433 again2433 =>
(let +zeta σ7 := (ys2433.getD 0 default)
 let +zeta σ32 := (AV.len σ17)
((AV.binOk Go.BinOp.lss σ7 σ32) ∧
(let +zeta σ45 := (AV.bin Go.BinOp.lss σ7 σ32)
((AV.isBool σ45) ∧
(let +zeta σ8 := (ys2433.getD 1 default)
 let +zeta σ9 := (ys2433.getD 2 default)
 let +zeta σ10 := (ys2433.getD 3 default)
 let +zeta σ11 := (ys2433.getD 4 default)
 let +zeta σ12 := (ys2433.getD 5 default)
 let +zeta σ13 := (ys2433.getD 6 default)
 let +zeta σ14 := (ys2433.getD 7 default)
 let +zeta σ15 := (ys2433.getD 8 default)
 let +zeta σ16 := (ys2433.getD 9 default)
 let +zeta σ18 := (ys2433.getD 10 default)
 let +zeta σ19 := (ys2433.getD 11 default)
 let +zeta σ20 := (ys2433.getD 12 default)
 let +zeta σ21 := (ys2433.getD 13 default)
 let +zeta σ22 := (ys2433.getD 14 default)
 let +zeta σ23 := (ys2433.getD 15 default)
 let +zeta σ24 := (ys2433.getD 16 default)
 let +zeta σ25 := (ys2433.getD 17 default)
 let +zeta σ26 := (ys2433.getD 18 default)
 let +zeta σ27 := (ys2433.getD 19 default)
 let +zeta σ28 := (ys2433.getD 20 default)
 let +zeta σ29 := (ys2433.getD 21 default)
 let +zeta σ30 := (ys2433.getD 22 default)
(((isT σ45) →
(σ33 ∧
((AV.inb σ17 σ7) ∧
(let +zeta σ42 := (AV.atAgg σ17 σ7 0 6)
((AV.isAgg σ42 6) ∧
(let +zeta σ44 := (AV.cel σ42 0)
((AV.binOk Go.BinOp.lss σ44 x2) ∧
(let +zeta σ47 := (AV.bin Go.BinOp.lss σ44 x2)
((AV.isBool σ47) ∧
(let +zeta σ40 := (AV.bin Go.BinOp.add σ7 (AV.int 1))
 let +zeta σ41 := (AV.binOk Go.BinOp.add σ7 (AV.int 1))
 let +zeta σ48 := (AV.bin Go.BinOp.gtr σ44 x2)
 let +zeta σ49 := (AV.binOk Go.BinOp.gtr σ44 x2)
 let +zeta σ50 := (isT σ48)
 let +zeta σ51 := (isF σ48)
 let +zeta σ52 := (AV.isBool σ48)
 let +zeta σ59 := (AV.mk 6 [[σ44, (AV.cel σ42 1), (AV.cel σ42 2), (AV.cel σ42 3), (AV.cel σ42 4), (AV.cel σ42 5)]])
 let +zeta σ61 := (AV.app 6 σ9 σ59)
 let +zeta σ62 := (AV.room σ9 σ59 48)
(((isT σ47) →
((AV.room σ8 σ59 48) ∧
(σ49 ∧
(σ52 ∧
(let +zeta σ60 := (AV.app 6 σ8 σ59)
((σ50 →
(σ62 ∧
(σ41 ∧
(again2433 [σ40, σ60, σ61, σ10, σ11, σ12, σ13, σ14, σ15, σ16, σ18, σ19, σ20, σ21, σ22, σ23, σ24, σ25, σ26, σ27, σ28, σ29, σ30])))) ∧
(σ51 →
(σ41 ∧
(again2433 [σ40, σ60, σ9, σ10, σ11, σ12, σ13, σ14, σ15, σ16, σ18, σ19, σ20, σ21, σ22, σ23, σ24, σ25, σ26, σ27, σ28, σ29, σ30]))))))))) ∧
((isF σ47) →
(σ49 ∧
(σ52 ∧
((σ50 →
(σ62 ∧
(σ41 ∧
(again2433 [σ40, σ8, σ61, σ10, σ11, σ12, σ13, σ14, σ15, σ16, σ18, σ19, σ20, σ21, σ22, σ23, σ24, σ25, σ26, σ27, σ28, σ29, σ30])))) ∧
(σ51 →
(σ41 ∧
(again2433 [σ40, σ8, σ9, σ10, σ11, σ12, σ13, σ14, σ15, σ16, σ18, σ19, σ20, σ21, σ22, σ23, σ24, σ25, σ26, σ27, σ28, σ29, σ30])))))))))))))))))) ∧
((isF σ45) →
(∃ r2561 : AV, (let +zeta σ4 := (Sh.row 54 6 true)
((Fn Tryz.prog 69 [(AV.agg [σ10, σ11, σ12, σ13, σ8, σ9, σ14, σ15, σ16, σ18, σ19, σ20, σ21, σ22, σ23, σ24, σ25, σ26, σ27, σ28, σ29, σ30])] (Sh.tup [σ4, Sh.sc, Sh.sc]) r2561) ∧
(let +zeta σ3 := (AV.prj r2561 2)
((AV.binOk Go.BinOp.neq σ3 (AV.int 0)) ∧
(let +zeta σ38 := (AV.bin Go.BinOp.neq σ3 (AV.int 0))
((AV.isBool σ38) ∧
(((isT σ38) →
(σ6 ∧
((AV.flat σ3) ∧
(fSame (AV.tup [σ0, σ3]) r)))) ∧
((isF σ38) →
((AV.isBool (AV.prj r2561 1)) ∧
(((isT (AV.prj r2561 1)) →
(σ31 ∧
(∃ r3457 : AV, ((Fn Tryz.prog 70 [σ17] σ4 r3457) ∧
((AV.flatS r3457) ∧
((AV.flat (AV.int 0)) ∧
(fSame (AV.tup [r3457, (AV.int 0)]) r))))))) ∧
((isF (AV.prj r2561 1)) →
(∃ r3777 : AV, ((Fn Tryz.prog 71 [(AV.mk 1 [[σ8], [(AV.mk 6 [[(AV.cel σ1 0), (AV.cel σ1 1), (AV.cel σ1 2), (AV.cel σ1 3), (AV.cel σ1 4), (AV.cel σ1 5)]])], [(AV.prj r2561 0)]])] σ4 r3777) ∧
((AV.binOk Go.BinOp.gtr (AV.len r3777) (AV.int 64)) ∧
(let +zeta σ36 := (AV.bin Go.BinOp.gtr (AV.len r3777) (AV.int 64))
((AV.isBool σ36) ∧
(((isT σ36) →
(σ6 ∧
((AV.flat (AV.int 2)) ∧
(fSame (AV.tup [σ0, (AV.int 2)]) r)))) ∧
((isF σ36) →
((AV.flatS r3777) ∧
((AV.flat (AV.int 0)) ∧
(fSame (AV.tup [r3777, (AV.int 0)]) r)))))))))))))))))))))))))))))))))))))))))))))))))))))))))))))))))))))) := by kernel_rfl
theorem carried_form (x0 r : AV) : fnF Tryz.prog Γ ann 3 69 Tryz.f69 (Tryz.f69.body.getD .skip) (.nil) [x0] (.tup [.row 54 6 true, .sc, .sc]) r = (((AV.isAgg x0 22) ∧
(let +zeta σ0 := (AV.cel x0 1)
((AV.binOk Go.BinOp.eql σ0 (AV.int 0)) ∧
(let +zeta σ4 := (AV.bin Go.BinOp.eql σ0 (AV.int 0))
((AV.isBool σ4) ∧
(let +zeta σ1 := (AV.bool false)
 let +zeta σ2 := (AV.flat σ1)
 let +zeta σ3 := (Sh.tup [(Sh.row 54 6 true), Sh.sc])
 let +zeta σ10 := (AV.agg [(AV.cel x0 0), σ0, (AV.cel x0 2), (AV.cel x0 3), (AV.cel x0 4), (AV.cel x0 5), (AV.cel x0 6), (AV.cel x0 7), (AV.cel x0 8), (AV.cel x0 9), (AV.cel x0 10), (AV.cel x0 11), (AV.cel x0 12), (AV.cel x0 13), (AV.cel x0 14), (AV.cel x0 15), (AV.cel x0 16), (AV.cel x0 17), (AV.cel x0 18), (AV.cel x0 19), (AV.cel x0 20), (AV.cel x0 21)])
(((isT σ4) →
(∃ r641 : AV, ((Fn Tryz.prog 131 [σ10] σ3 r641) ∧
((AV.flatS (AV.prj r641 0)) ∧
(σ2 ∧
((AV.flat (AV.prj r641 1)) ∧
(fSame (AV.tup [(AV.prj r641 0), σ1, (AV.prj r641 1)]) r))))))) ∧
((isF σ4) →
((AV.isSl (AV.cel x0 5) 6) ∧
((AV.binOk Go.BinOp.eql (AV.len (AV.cel x0 5)) (AV.int 0)) ∧
(let +zeta σ8 := (AV.bin Go.BinOp.eql (AV.len (AV.cel x0 5)) (AV.int 0))
((AV.isBool σ8) ∧
(let +zeta σ9 := ((AV.flatS (AV.mk 6 [])) ∧
((AV.flat (AV.bool true)) ∧
((AV.flat (AV.int 0)) ∧
(fSame (AV.tup [(AV.mk 6 []), (AV.bool true), (AV.int 0)]) r))))
(((isT σ8) →
 σ9) ∧
((isF σ8) →
((AV.binOk Go.BinOp.eql σ0 (AV.int 1)) ∧
(let +zeta σ5 := (AV.bin Go.BinOp.eql σ0 (AV.int 1))
((AV.isBool σ5) ∧
(((isT σ5) →
(∃ r1281 : AV, ((Fn Tryz.prog 132 [σ10] σ3 r1281) ∧
((AV.flatS (AV.prj r1281 0)) ∧
(σ2 ∧
((AV.flat (AV.prj r1281 1)) ∧
(fSame (AV.tup [(AV.prj r1281 0), σ1, (AV.prj r1281 1)]) r))))))) ∧
((isF σ5) →
((AV.binOk Go.BinOp.eql σ0 (AV.int 2)) ∧
(let +zeta σ6 := (AV.bin Go.BinOp.eql σ0 (AV.int 2))
((AV.isBool σ6) ∧
(((isT σ6) →
(∃ r1601 : AV, ((Fn Tryz.prog 133 [σ10] σ3 r1601) ∧
((AV.flatS (AV.prj r1601 0)) ∧
(σ2 ∧
((AV.flat (AV.prj r1601 1)) ∧
(fSame (AV.tup [(AV.prj r1601 0), σ1, (AV.prj r1601 1)]) r))))))) ∧
((isF σ6) →
((AV.binOk Go.BinOp.eql σ0 (AV.int 3)) ∧
(let +zeta σ7 := (AV.bin Go.BinOp.eql σ0 (AV.int 3))
((AV.isBool σ7) ∧
(((isT σ7) →
(∃ r1921 : AV, ((Fn Tryz.prog 134 [σ10] σ3 r1921) ∧
((AV.flatS (AV.prj r1921 0)) ∧
(σ2 ∧
((AV.flat (AV.prj r1921 1)) ∧
(fSame (AV.tup [(AV.prj r1921 0), σ1, (AV.prj r1921 1)]) r))))))) ∧
((isF σ7) →
 σ9))))))))))))))))))))))))))))))) := by kernel_rfl
theorem height_form (x0 r : AV) : fnF Tryz.prog Γ ann 3 131 Tryz.f131 (Tryz.f131.body.getD .skip) (.nil) [x0] (.tup [.row 54 6 true, .sc]) r = (((AV.isAgg x0 22) ∧
(∃ r769 : AV, (let +zeta σ0 := (AV.cel x0 9)
 let +zeta σ1 := (AV.cel x0 2)
 let +zeta σ9 := (Sh.tup [Sh.sc, Sh.sc])
((Fn Tryz.prog 195 [(AV.agg [(AV.cel x0 12), (AV.cel x0 13), (AV.cel x0 14), (AV.cel x0 15), (AV.cel x0 16), (AV.cel x0 17), (AV.cel x0 18)]), σ0, σ1] σ9 r769) ∧
(let +zeta σ4 := (AV.prj r769 1)
((AV.binOk Go.BinOp.neq σ4 (AV.int 0)) ∧
(let +zeta σ31 := (AV.bin Go.BinOp.neq σ4 (AV.int 0))
((AV.isBool σ31) ∧
(((isT σ31) →
((AV.flatS (AV.mk 6 [])) ∧
((AV.flat σ4) ∧
(fSame (AV.tup [(AV.mk 6 []), σ4]) r)))) ∧
((isF σ31) →
(let +zeta σ2 := (AV.cel x0 6)
 let +zeta σ5 := (AV.prj r769 0)
((AV.binOk Go.BinOp.add σ2 σ5) ∧
(let +zeta σ34 := (AV.bin Go.BinOp.add σ2 σ5)
((AV.isOne σ34) ∧
(∃ r1921 : AV, ((Fn Tryz.prog 70 [(AV.cel x0 5)] (Sh.row 54 6 true) r1921) ∧
((AV.binOk Go.BinOp.gtr σ5 (AV.int 0)) ∧
(let +zeta σ32 := (AV.bin Go.BinOp.gtr σ5 (AV.int 0))
 let +zeta σ77 := (AV.isBool σ32)
(σ77 ∧
(let +zeta σ3 := (AV.len r1921)
 let +zeta σ8 := (AV.flat (AV.int 0))
 let +zeta σ25 := (AV.isOne σ1)
 let +zeta σ33 := (AV.bin Go.BinOp.sub σ1 σ0)
 let +zeta σ35 := (AV.binOk Go.BinOp.sub σ1 σ0)
 let +zeta σ106 := (fLoop 3521 [(AV.int 0), r1921] fun ys3521 again3521 =>
(let +zeta σ19 := (ys3521.getD 0 default)
((AV.binOk Go.BinOp.lss σ19 σ3) ∧
(let +zeta σ83 := (AV.bin Go.BinOp.lss σ19 σ3)
((AV.isBool σ83) ∧
(let +zeta σ20 := (ys3521.getD 1 default)
(((isT σ83) →
(let +zeta σ56 := (AV.inb σ20 σ19)
(σ56 ∧
(σ56 ∧
(let +zeta σ66 := (AV.at σ20 σ19 0)
((AV.binOk Go.BinOp.geq σ66 σ34) ∧
(let +zeta σ102 := (AV.bin Go.BinOp.geq σ66 σ34)
((AV.isBool σ102) ∧
(let +zeta σ57 := (AV.bin Go.BinOp.add σ19 (AV.int 1))
 let +zeta σ73 := (AV.binOk Go.BinOp.add σ19 (AV.int 1))
(((isT σ102) →
(σ25 ∧
(σ56 ∧
(σ73 ∧
(again3521 [σ57, (AV.setEl σ20 σ19 3 [σ1])]))))) ∧
((isF σ102) →
(σ35 ∧
(σ56 ∧
((AV.binOk Go.BinOp.sub σ66 σ2) ∧
(let +zeta σ92 := (AV.bin Go.BinOp.sub σ66 σ2)
((AV.binOk Go.BinOp.mul σ33 σ92) ∧
(∃ r5697 : AV, ((Fn Tryz.prog 193 [(AV.bin Go.BinOp.mul σ33 σ92), σ5] σ9 r5697) ∧
((AV.binOk Go.BinOp.add σ0 (AV.prj r5697 0)) ∧
(let +zeta σ40 := (AV.bin Go.BinOp.add σ0 (AV.prj r5697 0))
((AV.isOne σ40) ∧
(σ56 ∧
(σ73 ∧
(again3521 [σ57, (AV.setEl σ20 σ19 3 [σ40])])))))))))))))))))))))))) ∧
((isF σ83) →
((AV.flatS σ20) ∧
(σ8 ∧
(fSame (AV.tup [σ20, (AV.int 0)]) r)))))))))))
((let +zeta σ45 := (isT σ32)
(σ45 →
((AV.binOk Go.BinOp.gtr σ3 (AV.int 0)) ∧
(σ77 ∧
(σ45 ∧
(let +zeta σ29 := (AV.bin Go.BinOp.gtr σ3 (AV.int 0))
 let +zeta σ76 := (AV.isBool σ29)
(σ76 ∧
((let +zeta σ43 := (isT σ29)
(σ43 →
((AV.binOk Go.BinOp.sub σ3 (AV.int 1)) ∧
(let +zeta σ30 := (AV.bin Go.BinOp.sub σ3 (AV.int 1))
 let +zeta σ86 := (AV.inb r1921 σ30)
(σ86 ∧
(σ86 ∧
(let +zeta σ87 := (AV.at r1921 σ30 0)
((AV.binOk Go.BinOp.lss σ34 σ87) ∧
(σ76 ∧
(σ43 ∧
(let +zeta σ105 := (AV.bin Go.BinOp.lss σ34 σ87)
((AV.isBool σ105) ∧
(((isT σ105) →
((fEnt Tryz.prog 196) ∧
(fAllV fun _ => (fLoop 3777 [(AV.int 0)] fun ys3777 again3777 =>
(let +zeta σ10 := (ys3777.getD 0 default)
((AV.binOk Go.BinOp.lss σ10 σ3) ∧
(let +zeta σ78 := (AV.bin Go.BinOp.lss σ10 σ3)
((AV.isBool σ78) ∧
(((isT σ78) →
(let +zeta σ26 := (AV.inb r1921 σ10)
(σ26 ∧
(σ26 ∧
((fEnt Tryz.prog 197) ∧
(fAllV fun _ => (let +zeta σ28 := (AV.atAgg r1921 σ10 0 6)
((AV.isAgg σ28 6) ∧
(let +zeta σ47 := (AV.cel σ28 0)
((AV.binOk Go.BinOp.geq σ47 σ34) ∧
(let +zeta σ97 := (AV.bin Go.BinOp.geq σ47 σ34)
((AV.isBool σ97) ∧
(((isT σ97) →
(σ26 ∧
(σ26 ∧
(let +zeta σ27 := (AV.at r1921 σ10 0)
((AV.binOk Go.BinOp.neq σ27 σ34) ∧
(let +zeta σ96 := (AV.bin Go.BinOp.neq σ27 σ34)
((AV.isBool σ96) ∧
(((isT σ96) →
(∃ r5889 : AV, ((Fn Tryz.prog 68 [(AV.cel x0 21), σ34] σ9 r5889) ∧
(let +zeta σ6 := (AV.prj r5889 0)
((AV.isAgg σ6 6) ∧
(∃ r6593 : AV, ((FnU Tryz.prog 198 54 6 r1921 [σ10, (AV.mk 6 [[(AV.cel σ6 0), (AV.cel σ6 1), (AV.cel σ6 2), (AV.cel σ6 3), (AV.cel σ6 4), (AV.cel σ6 5)]])] true r6593) ∧
(fLoop 6913 [(AV.int 0), r6593] fun ys6913 again6913 =>
(let +zeta σ11 := (ys6913.getD 0 default)
((AV.binOk Go.BinOp.lss σ11 (AV.len r6593)) ∧
(let +zeta σ79 := (AV.bin Go.BinOp.lss σ11 (AV.len r6593))
((AV.isBool σ79) ∧
(let +zeta σ12 := (ys6913.getD 1 default)
(((isT σ79) →
(let +zeta σ48 := (AV.inb σ12 σ11)
(σ48 ∧
(σ48 ∧
(let +zeta σ62 := (AV.at σ12 σ11 0)
((AV.binOk Go.BinOp.geq σ62 σ34) ∧
(let +zeta σ98 := (AV.bin Go.BinOp.geq σ62 σ34)
((AV.isBool σ98) ∧
(let +zeta σ49 := (AV.bin Go.BinOp.add σ11 (AV.int 1))
 let +zeta σ69 := (AV.binOk Go.BinOp.add σ11 (AV.int 1))
(((isT σ98) →
(σ25 ∧
(σ48 ∧
(σ69 ∧
(again6913 [σ49, (AV.setEl σ12 σ11 3 [σ1])]))))) ∧
((isF σ98) →
(σ35 ∧
(σ48 ∧
((AV.binOk Go.BinOp.sub σ62 σ2) ∧
(let +zeta σ88 := (AV.bin Go.BinOp.sub σ62 σ2)
((AV.binOk Go.BinOp.mul σ33 σ88) ∧
(∃ r9089 : AV, ((Fn Tryz.prog 193 [(AV.bin Go.BinOp.mul σ33 σ88), σ5] σ9 r9089) ∧
((AV.binOk Go.BinOp.add σ0 (AV.prj r9089 0)) ∧
(let +zeta σ36 := (AV.bin Go.BinOp.add σ0 (AV.prj r9089 0))
((AV.isOne σ36) ∧
(σ48 ∧
(σ69 ∧
(again6913 [σ49, (AV.setEl σ12 σ11 3 [σ36])])))))))))))))))))))))))) ∧
((isF σ79) →
((AV.flatS σ12) ∧
(σ8 ∧
(fSame (AV.tup [σ12, (AV.int 0)]) r)))))))))))))))))) ∧
((isF σ96) →
(fLoop 5889 [(AV.int 0), r1921] fun ys5889 again5889 =>
(let +zeta σ13 := (ys5889.getD 0 default)
((AV.binOk Go.BinOp.lss σ13 σ3) ∧
(let +zeta σ80 := (AV.bin Go.BinOp.lss σ13 σ3)
((AV.isBool σ80) ∧
(let +zeta σ14 := (ys5889.getD 1 default)
(((isT σ80) →
(let +zeta σ50 := (AV.inb σ14 σ13)
(σ50 ∧
(σ50 ∧
(let +zeta σ63 := (AV.at σ14 σ13 0)
((AV.binOk Go.BinOp.geq σ63 σ34) ∧
(let +zeta σ99 := (AV.bin Go.BinOp.geq σ63 σ34)
((AV.isBool σ99) ∧
(let +zeta σ51 := (AV.bin Go.BinOp.add σ13 (AV.int 1))
 let +zeta σ70 := (AV.binOk Go.BinOp.add σ13 (AV.int 1))
(((isT σ99) →
(σ25 ∧
(σ50 ∧
(σ70 ∧
(again5889 [σ51, (AV.setEl σ14 σ13 3 [σ1])]))))) ∧
((isF σ99) →
(σ35 ∧
(σ50 ∧
((AV.binOk Go.BinOp.sub σ63 σ2) ∧
(let +zeta σ89 := (AV.bin Go.BinOp.sub σ63 σ2)
((AV.binOk Go.BinOp.mul σ33 σ89) ∧
(∃ r8065 : AV, ((Fn Tryz.prog 193 [(AV.bin Go.BinOp.mul σ33 σ89), σ5] σ9 r8065) ∧
((AV.binOk Go.BinOp.add σ0 (AV.prj r8065 0)) ∧
(let +zeta σ37 := (AV.bin Go.BinOp.add σ0 (AV.prj r8065 0))
((AV.isOne σ37) ∧
(σ50 ∧
(σ70 ∧
(again5889 [σ51, (AV.setEl σ14 σ13 3 [σ37])])))))))))))))))))))))))) ∧
((isF σ80) →
((AV.flatS σ14) ∧
(σ8 ∧
(fSame (AV.tup [σ14, (AV.int 0)]) r)))))))))))))))))))) ∧
((isF σ97) →
((AV.binOk Go.BinOp.add σ10 (AV.int 1)) ∧
(again3777 [(AV.bin Go.BinOp.add σ10 (AV.int 1))])))))))))))))))) ∧
((isF σ78) →
((AV.inb r1921 (AV.int (-1))) ∧
((AV.inb r1921 (AV.int (-1))) ∧
((AV.binOk Go.BinOp.neq (AV.at r1921 (AV.int (-1)) 0) σ34) ∧
(let +zeta σ95 := (AV.bin Go.BinOp.neq (AV.at r1921 (AV.int (-1)) 0) σ34)
((AV.isBool σ95) ∧
(((isT σ95) →
(∃ r4737 : AV, ((Fn Tryz.prog 68 [(AV.cel x0 21), σ34] σ9 r4737) ∧
(let +zeta σ7 := (AV.prj r4737 0)
((AV.isAgg σ7 6) ∧
(∃ r5441 : AV, ((FnU Tryz.prog 198 54 6 r1921 [(AV.int (-1)), (AV.mk 6 [[(AV.cel σ7 0), (AV.cel σ7 1), (AV.cel σ7 2), (AV.cel σ7 3), (AV.cel σ7 4), (AV.cel σ7 5)]])] true r5441) ∧
(fLoop 5761 [(AV.int 0), r5441] fun ys5761 again5761 =>
(let +zeta σ15 := (ys5761.getD 0 default)
((AV.binOk Go.BinOp.lss σ15 (AV.len r5441)) ∧
(let +zeta σ81 := (AV.bin Go.BinOp.lss σ15 (AV.len r5441))
((AV.isBool σ81) ∧
(let +zeta σ16 := (ys5761.getD 1 default)
(((isT σ81) →
(let +zeta σ52 := (AV.inb σ16 σ15)
(σ52 ∧
(σ52 ∧
(let +zeta σ64 := (AV.at σ16 σ15 0)
((AV.binOk Go.BinOp.geq σ64 σ34) ∧
(let +zeta σ100 := (AV.bin Go.BinOp.geq σ64 σ34)
((AV.isBool σ100) ∧
(let +zeta σ53 := (AV.bin Go.BinOp.add σ15 (AV.int 1))
 let +zeta σ71 := (AV.binOk Go.BinOp.add σ15 (AV.int 1))
(((isT σ100) →
(σ25 ∧
(σ52 ∧
(σ71 ∧
(again5761 [σ53, (AV.setEl σ16 σ15 3 [σ1])]))))) ∧
((isF σ100) →
(σ35 ∧
(σ52 ∧
((AV.binOk Go.BinOp.sub σ64 σ2) ∧
(let +zeta σ90 := (AV.bin Go.BinOp.sub σ64 σ2)
((AV.binOk Go.BinOp.mul σ33 σ90) ∧
(∃ r7937 : AV, ((Fn Tryz.prog 193 [(AV.bin Go.BinOp.mul σ33 σ90), σ5] σ9 r7937) ∧
((AV.binOk Go.BinOp.add σ0 (AV.prj r7937 0)) ∧
(let +zeta σ38 := (AV.bin Go.BinOp.add σ0 (AV.prj r7937 0))
((AV.isOne σ38) ∧
(σ52 ∧
(σ71 ∧
(again5761 [σ53, (AV.setEl σ16 σ15 3 [σ38])])))))))))))))))))))))))) ∧
((isF σ81) →
((AV.flatS σ16) ∧
(σ8 ∧
(fSame (AV.tup [σ16, (AV.int 0)]) r)))))))))))))))))) ∧
((isF σ95) →
(fLoop 4737 [(AV.int 0), r1921] fun ys4737 again4737 =>
(let +zeta σ17 := (ys4737.getD 0 default)
((AV.binOk Go.BinOp.lss σ17 σ3) ∧
(let +zeta σ82 := (AV.bin Go.BinOp.lss σ17 σ3)
((AV.isBool σ82) ∧
(let +zeta σ18 := (ys4737.getD 1 default)
(((isT σ82) →
(let +zeta σ54 := (AV.inb σ18 σ17)
(σ54 ∧
(σ54 ∧
(let +zeta σ65 := (AV.at σ18 σ17 0)
((AV.binOk Go.BinOp.geq σ65 σ34) ∧
(let +zeta σ101 := (AV.bin Go.BinOp.geq σ65 σ34)
((AV.isBool σ101) ∧
(let +zeta σ55 := (AV.bin Go.BinOp.add σ17 (AV.int 1))
 let +zeta σ72 := (AV.binOk Go.BinOp.add σ17 (AV.int 1))
(((isT σ101) →
(σ25 ∧
(σ54 ∧
(σ72 ∧
(again4737 [σ55, (AV.setEl σ18 σ17 3 [σ1])]))))) ∧
((isF σ101) →
(σ35 ∧
(σ54 ∧
((AV.binOk Go.BinOp.sub σ65 σ2) ∧
(let +zeta σ91 := (AV.bin Go.BinOp.sub σ65 σ2)
((AV.binOk Go.BinOp.mul σ33 σ91) ∧
(∃ r6913 : AV, ((Fn Tryz.prog 193 [(AV.bin Go.BinOp.mul σ33 σ91), σ5] σ9 r6913) ∧
((AV.binOk Go.BinOp.add σ0 (AV.prj r6913 0)) ∧
(let +zeta σ39 := (AV.bin Go.BinOp.add σ0 (AV.prj r6913 0))
((AV.isOne σ39) ∧
(σ54 ∧
(σ72 ∧
(again4737 [σ55, (AV.setEl σ18 σ17 3 [σ39])])))))))))))))))))))))))) ∧
((isF σ82) →
((AV.flatS σ18) ∧
(σ8 ∧
(fSame (AV.tup [σ18, (AV.int 0)]) r)))))))))))))))))))))))))))) ∧
((isF σ105) →
 σ106)))))))))))))) ∧
(let +zeta σ44 := (isF σ29)
(σ44 →
(σ76 ∧
(σ44 ∧
 σ106)))))))))))) ∧
(let +zeta σ46 := (isF σ32)
(σ46 →
(σ77 ∧
(σ46 ∧
 σ106)))))))))))))))))))))))))) := by kernel_rfl
end EffF
end Go.Proofs.YtcifjnhpgblnkaaGreatDoor
namespace Go.Proofs.YtcifjnhpgblnkaaGreatDoor
open Go.RowKit
set_option linter.unusedVariables false
set_option linter.unusedSimpArgs false
set_option maxRecDepth 100000
structure Kd where
 nm : ByteArray
 wk : Int
 cl : Int
 up : Int
 dn : Int
 sl : Int
 fa : Int
def encKd (k : Kd) : List AV := [.string k.nm, .int k.wk, .int k.cl, .int k.up, .int k.dn, .int k.sl, .int k.fa]
abbrev kd (k : Kd) : AV := .agg (encKd k)
def kE (k : Kd) : Int :=
 if isName k.nm = false then 5
 else if k.wk < 0 ∨ k.wk > 3 then 1
 else if k.cl < 1 ∨ k.cl > 60000 ∨ k.up < 1 ∨ k.up > 200 ∨ k.dn < 1 ∨ k.dn > 200 ∨ k.sl < 1 ∨ k.sl > 400 ∨ k.fa < 1 ∨ k.fa > 400 then 4
 else if k.sl > k.fa then 3 else 0
theorem acheck_fn (k : Kd) : Fn Tryz.prog 65 [kd k] .sc (.int (kE k)) := by
 refine fn_run mixed 3 (Γ := EffF.Γ) (ann := EffF.ann) Tryz.func65 rfl Tryz.call65 ((EffF.acheck_form _ _).mpr ?_)
 have e1 : Ent Tryz.prog 128 := Tryz.call128
 have hn := name_fn k.nm
 obtain ⟨E, hE⟩ : ∃ E, E = kE k := ⟨_, rfl⟩
 rw [← hE]
 unfold kE at hE
 obtain ⟨nm, wk, cl, up, dn, sl, fa⟩ := k
 simp only at hn hE
 generalize isName nm = b at *
 refine ⟨by simp [encKd], _, hn, ?_⟩
 have g5 : b = false → E = 5 := fun h => by rw [hE, if_pos h]
 have g1 : b = true → (wk < 0 ∨ wk > 3) → E = 1 := fun h h1 => by rw [hE, if_neg (by simp [h]), if_pos h1]
 have g4 : b = true → 0 ≤ wk → wk ≤ 3 → (cl < 1 ∨ cl > 60000 ∨ up < 1 ∨ up > 200 ∨ dn < 1 ∨ dn > 200 ∨ sl < 1 ∨ sl > 400 ∨ fa < 1 ∨ fa > 400) → E = 4 := fun h h1 h2 h3 => by rw [hE, if_neg (by simp [h]), if_neg (by omega), if_pos h3]
 have g3 : b = true → 0 ≤ wk → wk ≤ 3 → ¬ (cl < 1 ∨ cl > 60000 ∨ up < 1 ∨ up > 200 ∨ dn < 1 ∨ dn > 200 ∨ sl < 1 ∨ sl > 400 ∨ fa < 1 ∨ fa > 400) → sl > fa → E = 3 := fun h h1 h2 h3 h4 => by rw [hE, if_neg (by simp [h]), if_neg (by omega), if_neg h3, if_pos h4]
 have g0 : b = true → 0 ≤ wk → wk ≤ 3 → ¬ (cl < 1 ∨ cl > 60000 ∨ up < 1 ∨ up > 200 ∨ dn < 1 ∨ dn > 200 ∨ sl < 1 ∨ sl > 400 ∨ fa < 1 ∨ fa > 400) → ¬ sl > fa → E = 0 := fun h h1 h2 h3 h4 => by rw [hE, if_neg (by simp [h]), if_neg (by omega), if_neg h3, if_neg h4]
 clear hE
 cases b
 ·have := g5 rfl
  simp [this]
 ·simp [encKd, e1]
  clear g5
  replace g1 := g1 rfl
  replace g4 := g4 rfl
  replace g3 := g3 rfl
  replace g0 := g0 rfl
  repeat' (first | refine And.intro ?_ ?_ | intro _)
  all_goals (first | assumption | omega)
def levT : List Nd := [⟨0, 0, 0, 9000, 100, 50⟩, ⟨100, 10000, 0, 9000, 100, 50⟩]
def jetK : Kd := ⟨⟨#[74, 69, 84]⟩, 1, 40000, 50, 40, 50, 300⟩
end Go.Proofs.YtcifjnhpgblnkaaGreatDoor
namespace Go.Proofs.YtcifjnhpgblnkaaGreatDoor
open Go.RowKit
set_option linter.unusedVariables false
set_option maxRecDepth 100000
namespace EffG
def Γ : FuncId → Option Ca := fun f =>
 if f = 20 ∨ f = 67 ∨ f = 58 ∨ f = 65 ∨ f = 78 ∨ f = 123 ∨ f = 62 ∨ f = 63 ∨ f = 64 ∨ f = 66 then some (.fn .sc)
 else if f = 68 ∨ f = 193 ∨ f = 194 ∨ f = 195 then some (.fn (.tup [.sc, .sc]))
 else if f = 70 ∨ f = 71 then some (.fn (.row 54 6 true))
 else if f = 18 ∨ f = 131 ∨ f = 132 ∨ f = 133 ∨ f = 134 then some (.fn (.tup [.row 54 6 true, .sc]))
 else if f = 69 then some (.fn (.tup [.row 54 6 true, .sc, .sc]))
 else if f = 135 then some (.fn (.row 54 6 false))
 else if f = 198 then some (.upd true)
 else some .inl
def ann : FuncId → Nat → LoopEx := fun f r => if 300000 ≤ r then ⟨[], [], [], []⟩ else
 if f = 131 then ⟨[], [1000007], [], []⟩
 else if f = 18 ∧ r = 13 then ⟨[], [2305, 2369], [(1985, 0), (1985, 1), (1985, 2), (1985, 3), (1985, 6), (1985, 7), (1985, 8), (1985, 9), (1985, 10), (1985, 11), (1985, 12), (1985, 13), (1985, 14), (1985, 15), (1985, 16), (1985, 17), (1985, 18), (1985, 19), (1985, 20), (1985, 21)], [(1985, 4, 54, 6), (1985, 5, 54, 6)]⟩
 else ⟨[], [], [], []⟩
theorem of2_form (x0 r : AV) : fnF Tryz.prog Γ ann 3 63 Tryz.f63 (Tryz.f63.body.getD .skip) (.nil) [x0] (.sc) r = (((AV.isRef x0 4) ∧
(∃ r129 : AV, ((Fn Tryz.prog 58 [(AV.derA x0)] Sh.sc r129) ∧
((AV.flat r129) ∧
(fSame r129 r)))))) := by kernel_rfl
theorem of3_form (x0 r : AV) : fnF Tryz.prog Γ ann 3 64 Tryz.f64 (Tryz.f64.body.getD .skip) (.nil) [x0] (.sc) r = (((AV.isRef x0 7) ∧
(∃ r129 : AV, ((Fn Tryz.prog 65 [(AV.derA x0)] Sh.sc r129) ∧
((AV.flat r129) ∧
(fSame r129 r)))))) := by kernel_rfl
theorem of4_form (x0 r : AV) : fnF Tryz.prog Γ ann 3 66 Tryz.f66 (Tryz.f66.body.getD .skip) (.nil) [x0] (.sc) r = (((AV.isRef x0 2) ∧
(∃ r129 : AV, ((Fn Tryz.prog 67 [(AV.derA x0)] Sh.sc r129) ∧
((AV.flat r129) ∧
(fSame r129 r)))))) := by kernel_rfl
theorem clone_form (x0 r : AV) : fnF Tryz.prog Γ ann 3 70 Tryz.f70 (Tryz.f70.body.getD .skip) (.nil) [x0] (.row 54 6 true) r = ((fNil x0
((AV.flatS (AV.mk 6 [])) ∧
(fSame (AV.mk 6 []) r))
((AV.isSl x0 6) ∧
((AV.room (AV.mk 6 []) x0 48) ∧
((AV.flatS (AV.app 6 (AV.mk 6 []) x0)) ∧
(fSame (AV.app 6 (AV.mk 6 []) x0) r)))))) := by kernel_rfl
theorem concat_form (x0 r : AV) : fnF Tryz.prog Γ ann 3 71 Tryz.f71 (Tryz.f71.body.getD .skip) (.nil) [x0] (.row 54 6 true) r = ((let +zeta σ0 := (AV.isSl x0 1)
(σ0 ∧
(fLoop 321 [(AV.int 0), (AV.int 0)] fun ys321 again321 =>
(let +zeta σ1 := (ys321.getD 1 default)
((AV.binOk Go.BinOp.lss σ1 (AV.len x0)) ∧
(let +zeta σ8 := (AV.bin Go.BinOp.lss σ1 (AV.len x0))
((AV.isBool σ8) ∧
(let +zeta σ2 := (ys321.getD 0 default)
(((isT σ8) →
(σ0 ∧
((AV.inb x0 σ1) ∧
(let +zeta σ5 := (AV.at x0 σ1 0)
((AV.isSl σ5 6) ∧
(let +zeta σ7 := (AV.len σ5)
((AV.binOk Go.BinOp.add σ2 σ7) ∧
(let +zeta σ10 := (AV.bin Go.BinOp.add σ2 σ7)
((AV.binOk Go.BinOp.lss σ10 (AV.int 0)) ∧
(let +zeta σ11 := (AV.bin Go.BinOp.lss σ10 (AV.int 0))
((AV.isBool σ11) ∧
(((isT σ11) →
(fStuck "operation")) ∧
((isF σ11) →
((AV.binOk Go.BinOp.add σ1 (AV.int 1)) ∧
(again321 [σ10, (AV.bin Go.BinOp.add σ1 (AV.int 1))]))))))))))))))) ∧
((isF σ8) →
(∃ r449 : AV, ((Fn Tryz.prog 135 [(AV.lit (Value.slice none 0 0)), σ2] (Sh.row 54 6 false) r449) ∧
(σ0 ∧
(fLoop 769 [(AV.int 0), r449] fun ys769 again769 =>
(let +zeta σ3 := (ys769.getD 0 default)
((AV.binOk Go.BinOp.lss σ3 (AV.len x0)) ∧
(let +zeta σ9 := (AV.bin Go.BinOp.lss σ3 (AV.len x0))
((AV.isBool σ9) ∧
(let +zeta σ4 := (ys769.getD 1 default)
(((isT σ9) →
(σ0 ∧
((AV.inb x0 σ3) ∧
(let +zeta σ6 := (AV.at x0 σ3 0)
((AV.isSl σ6 6) ∧
((AV.room σ4 σ6 48) ∧
((AV.binOk Go.BinOp.add σ3 (AV.int 1)) ∧
(again769 [(AV.bin Go.BinOp.add σ3 (AV.int 1)), (AV.app 6 σ4 σ6)])))))))) ∧
((isF σ9) →
((AV.flatS σ4) ∧
(fSame σ4 r)))))))))))))))))))))))) := by kernel_rfl
end EffG
end Go.Proofs.YtcifjnhpgblnkaaGreatDoor
namespace Go.Proofs.YtcifjnhpgblnkaaGreatDoor
open Go.RowKit
set_option linter.unusedVariables false
set_option linter.unusedSimpArgs false
set_option maxRecDepth 100000
theorem kE_ok {k : Kd} (h : kE k = 0) : 1 ≤ k.cl ∧ k.cl ≤ 60000 ∧ 1 ≤ k.up ∧ k.up ≤ 200 ∧ 1 ≤ k.dn ∧ k.dn ≤ 200 := by
 unfold kE at h
 split at h
 ·cases h
 ·split at h
  ·cases h
  ·split at h
   ·cases h
   ·omega
def clE2 (k : Kd) (a b : Int) : Int := if kE k ≠ 0 then kE k else if a < 0 ∨ a > 60000 ∨ b < 0 ∨ b > 60000 then 4 else if a > k.cl ∨ b > k.cl then 20 else 0
def clN (k : Kd) (a b : Int) : Int := if a ≤ b then dvu (b - a) k.up else dvu (a - b) k.dn
def clV (k : Kd) (a b : Int) : AV := if clE2 k a b = 0 then .tup [.int (clN k a b), .int 0] else .tup [.int 0, .int (clE2 k a b)]
theorem climb_fn (k : Kd) (a b : Int) : Fn Tryz.prog 195 [kd k, .int a, .int b] (.tup [.sc, .sc]) (clV k a b) := by
 have e := EffF.climb_form (kd k) (.int a) (.int b) (clV k a b)
 have kk := fun h => fn_run mixed 3 (Γ := EffF.Γ) (ann := EffF.ann) Tryz.func195 rfl Tryz.call195 (e.mpr h)
 refine kk ?_
 clear kk e
 have hc := acheck_fn k
 have hk := kE_ok (k := k)
 have hV : clV k a b = if clE2 k a b = 0 then .tup [.int (clN k a b), .int 0] else .tup [.int 0, .int (clE2 k a b)] := rfl
 have hE : clE2 k a b = if kE k ≠ 0 then kE k else if a < 0 ∨ a > 60000 ∨ b < 0 ∨ b > 60000 then 4 else if a > k.cl ∨ b > k.cl then 20 else 0 := rfl
 have hN : clN k a b = if a ≤ b then dvu (b - a) k.up else dvu (a - b) k.dn := rfl
 generalize clV k a b = V at *
 generalize clE2 k a b = E at *
 generalize clN k a b = N at *
 generalize kE k = e at *
 obtain ⟨nm, wk, cl, up, dn, sl, fa⟩ := k
 simp only at hk hE hN
 have hV0 : ∀ e', e' ≠ 0 → E = e' → V = .tup [.int 0, .int e'] := fun e' h1 h2 => by rw [hV, h2, if_neg h1]
 have v0 : e ≠ 0 → V = .tup [.int 0, .int e] := fun h => hV0 _ h (by rw [hE, if_pos h])
 have v4 : e = 0 → (a < 0 ∨ a > 60000 ∨ b < 0 ∨ b > 60000) → V = .tup [.int 0, .int 4] := fun h h2 => hV0 _ (by decide) (by rw [hE, if_neg (by simp [h]), if_pos h2])
 have v20 : e = 0 → ¬ (a < 0 ∨ a > 60000 ∨ b < 0 ∨ b > 60000) → (a > cl ∨ b > cl) → V = .tup [.int 0, .int 20] := fun h h2 h3 => hV0 _ (by decide) (by rw [hE, if_neg (by simp [h]), if_neg h2, if_pos h3])
 have vN : e = 0 → ¬ (a < 0 ∨ a > 60000 ∨ b < 0 ∨ b > 60000) → ¬ (a > cl ∨ b > cl) → V = .tup [.int N, .int 0] := fun h h2 h3 => by
  have h0 : E = 0 := by rw [hE, if_neg (by simp [h]), if_neg h2, if_neg h3]
  rw [hV, if_pos h0]
 clear hV hE
 refine ⟨by simp [encKd], _, hc, ?_⟩
 simp [encKd]
 refine ⟨fun z => (v0 z).symm, fun z => ?_⟩
 obtain ⟨k1, k2, k3, k4, k5, k6⟩ := hk z
 replace v4 := v4 z
 replace v20 := v20 z
 replace vN := vN z
 refine ⟨fun a1 => ⟨a1, (v4 (by omega)).symm⟩, fun a1 => ⟨a1, fun a2 => ⟨a2, (v4 (by omega)).symm⟩, fun a2 => ⟨a2, fun b1 => ⟨b1, (v4 (by omega)).symm⟩, fun b1 => ⟨b1, fun b2 => (v4 (by omega)).symm, fun b2 => ?_⟩⟩⟩⟩
 refine ⟨fun c1 => ⟨c1, (v20 (by omega) (by omega)).symm⟩, fun c1 => ⟨c1, fun c2 => (v20 (by omega) (by omega)).symm, fun c2 => ?_⟩⟩
 have hv := vN (by omega) (by omega)
 have hw1 : wr (b - a) = b - a := wr_id (by omega) (by omega)
 have hw2 : wr (a - b) = a - b := wr_id (by omega) (by omega)
 rw [hv]
 refine ⟨fun q => ?_, fun q => ?_⟩
 ·have hd := divu_fn (b - a) up (by omega) (by omega) (by omega)
  rw [hN, if_pos q, hw1]
  exact ⟨_, hd, by simp⟩
 ·have hd := divu_fn (a - b) dn (by omega) (by omega) (by omega)
  rw [hN, if_neg (by omega), hw2]
  exact ⟨_, hd, by simp⟩
theorem of1_fn (l : List Nd) : Fn Tryz.prog 62 [.ref [tube l]] .sc (.int (tE l)) := by
 refine fn_run mixed 3 (Γ := EffF.Γ) (ann := EffF.ann) Tryz.func62 rfl Tryz.call62 ((EffF.of1_form _ _).mpr ?_)
 exact ⟨⟨_, rfl, rfl⟩, _, tcheck_fn l, by simp⟩
theorem tclone_fn (l : List Nd) (hl : l.length ≤ 1000000) : Fn Tryz.prog 70 [tube l] (.row 54 6 true) (tube l) := by
 refine fn_run mixed 3 (Γ := EffG.Γ) (ann := EffG.ann) Tryz.func70 rfl Tryz.call70 ((EffG.clone_form _ _).mpr ?_)
 have hf := flat_tube l
 simp [AV.room]
 simp [lst] at hf ⊢
 exact ⟨by omega, hf⟩
theorem of3_fn (k : Kd) : Fn Tryz.prog 64 [.ref (encKd k)] .sc (.int (kE k)) := by
 refine fn_run mixed 3 (Γ := EffG.Γ) (ann := EffG.ann) Tryz.func64 rfl Tryz.call64 ((EffG.of3_form _ _).mpr ?_)
 have hc := acheck_fn k
 exact ⟨⟨_, rfl, by simp [encKd]⟩, _, hc, by simp⟩
theorem of4_fn (q : Pt) : Fn Tryz.prog 66 [.ref (encP q)] .sc (.int (pE q)) := by
 refine fn_run mixed 3 (Γ := EffG.Γ) (ann := EffG.ann) Tryz.func66 rfl Tryz.call66 ((EffG.of4_form _ _).mpr ?_)
 have hc := pe_fn q
 exact ⟨⟨_, rfl, by simp [encP]⟩, _, hc, by simp⟩
end Go.Proofs.YtcifjnhpgblnkaaGreatDoor
namespace Go.Proofs.YtcifjnhpgblnkaaGreatDoor
open Go.RowKit
set_option linter.unusedVariables false
set_option linter.unusedSimpArgs false
set_option maxRecDepth 100000
theorem carried0 (a0 a2 a3 a4 a5 a6 a7 a8 a9 a10 a11 a12 a13 a14 a15 a16 a17 a18 a19 a20 a21 : AV) (o : List Nd) (e : Int) (hh : Fn Tryz.prog 131 [.agg [a0, .int 0, a2, a3, a4, a5, a6, a7, a8, a9, a10, a11, a12, a13, a14, a15, a16, a17, a18, a19, a20, a21]] (.tup [.row 54 6 true, .sc]) (.tup [tube o, .int e])) :
  Fn Tryz.prog 69 [.agg [a0, .int 0, a2, a3, a4, a5, a6, a7, a8, a9, a10, a11, a12, a13, a14, a15, a16, a17, a18, a19, a20, a21]] (.tup [.row 54 6 true, .sc, .sc]) (.tup [tube o, .bool false, .int e]) := by
 have q := EffF.carried_form (.agg [a0, .int 0, a2, a3, a4, a5, a6, a7, a8, a9, a10, a11, a12, a13, a14, a15, a16, a17, a18, a19, a20, a21]) (.tup [tube o, .bool false, .int e])
 have k := fun h => fn_run mixed 3 (Γ := EffF.Γ) (ann := EffF.ann) Tryz.func69 rfl Tryz.call69 (q.mpr h)
 refine k ?_
 clear k q
 have hf := flat_tube o
 simp
 refine ⟨_, hh, ?_⟩
 simp
 exact hf
end Go.Proofs.YtcifjnhpgblnkaaGreatDoor
namespace Go.Proofs.YtcifjnhpgblnkaaGreatDoor
open Go.RowKit
set_option linter.unusedVariables false
set_option linter.unusedSimpArgs false
set_option maxRecDepth 100000
theorem of2_fn (x : Cl) : Fn Tryz.prog 63 [.ref (encL x)] .sc (.int (clE x)) := by
 refine fn_run mixed 3 (Γ := EffG.Γ) (ann := EffG.ann) Tryz.func63 rfl Tryz.call63 ((EffG.of2_form _ _).mpr ?_)
 have hc := pcheck_fn x
 exact ⟨⟨_, rfl, by simp [encL]⟩, _, hc, by simp⟩
end Go.Proofs.YtcifjnhpgblnkaaGreatDoor
namespace Go.Proofs.YtcifjnhpgblnkaaGreatDoor
open Go.RowKit
set_option linter.unusedVariables false
set_option linter.unusedSimpArgs false
set_option maxRecDepth 100000
def encT (l : List Nd) : List AV := [tube l]
theorem flat_len_take : ∀ (LL : List (List Nd)) (n : Nat) (x : List Nd), LL[n]? = some x → (LL.take (n + 1)).flatten = (LL.take n).flatten ++ x
 | [], n, x, h => by simp at h
 | l :: LL, 0, x, h => by simp at h; simp [h]
 | l :: LL, n + 1, x, h => by
  have := flat_len_take LL n x (by simpa using h)
  simp only [List.take_succ_cons, List.flatten_cons, this, List.append_assoc]
theorem flat_le (LL : List (List Nd)) (n : Nat) : (LL.take n).flatten.length ≤ LL.flatten.length := by
 have := List.take_append_drop n LL
 conv => rhs; rw [← this]
 rw [List.flatten_append, List.length_append]
 omega
theorem concat_fn (LL : List (List Nd)) (h : LL.flatten.length ≤ 100000) (hl : LL.length ≤ 1000) : Fn Tryz.prog 71 [lst 1 encT LL] (.row 54 6 true) (tube LL.flatten) := by
 refine fn_run mixed 3 (Γ := EffG.Γ) (ann := EffG.ann) Tryz.func71 rfl Tryz.call71 ((EffG.concat_form _ _).mpr ?_)
 refine ⟨by simp, ?_⟩
 refine loop_list (σ := Nat) LL (fun n s => [.int (s : Nat), .int (n : Nat)]) (fun n _ s => s = (LL.take n).flatten.length) 0 rfl rfl ?_ ?_
 ·rintro n x rest s K hx hr hn rfl hK
  have h1 := flat_len_take LL n x hx
  have h2 := flat_le LL (n + 1)
  have h3 : ((LL.take (n + 1)).flatten.length) = (LL.take n).flatten.length + x.length := by rw [h1, List.length_append]
  have w1 : wr (((LL.take n).flatten.length : Int) + (x.length : Int)) = (((LL.take (n + 1)).flatten.length : Nat) : Int) := by rw [wr_id (by omega) (by omega)]; omega
  have w2 : wr ((n : Int) + 1) = (n : Int) + 1 := wr_id (by omega) (by omega)
  generalize (LL.take n).flatten.length = a at *
  generalize (LL.take (n + 1)).flatten.length = b at *
  simp [hn, lst_at hx, encT, w1, w2]
  exact ⟨fun q => by omega, hK [.int (b : Nat), .int ((n : Int) + 1)] b (by simp) rfl⟩
 ·rintro s K rfl
  rw [List.take_length]
  simp
  refine ⟨_, by simpa using growF_fn LL.flatten.length h, ?_⟩
  refine loop_list (σ := List Nd) LL (fun n s => [.int (n : Nat), tube s]) (fun n _ s => s = (LL.take n).flatten) [] rfl rfl ?_ ?_
  ·rintro n x rest s K hx hr hn rfl hK
   have h1 := flat_len_take LL n x hx
   have h2 := flat_le LL (n + 1)
   have h3 : ((LL.take (n + 1)).flatten.length) = (LL.take n).flatten.length + x.length := by rw [h1, List.length_append]
   have w2 : wr ((n : Int) + 1) = (n : Int) + 1 := wr_id (by omega) (by omega)
   generalize (LL.take n).flatten = A at *
   generalize (LL.take (n + 1)).flatten = B at *
   have hr : AV.room (tube A) (tube x) 48 := by
    unfold AV.room
    simp only [lst_els, List.length_map]
    omega
   simp [hn, lst_at hx, encT, w2, hr]
   exact hK [.int ((n : Int) + 1), tube (A ++ x)] B (by simp [h1]) rfl
  ·rintro s K rfl
   have hf := flat_tube LL.flatten
   rw [List.take_length]
   simp
   simp [lst] at hf ⊢
   exact hf
end Go.Proofs.YtcifjnhpgblnkaaGreatDoor
namespace Go.Proofs.YtcifjnhpgblnkaaGreatDoor
open Go.RowKit
set_option linter.unusedVariables false
set_option linter.unusedSimpArgs false
set_option maxRecDepth 100000
def hgt (nt nh v n : Int) (x : Nd) : Nd := { x with h := if nt + n ≤ x.t then v else nh + (v - nh) * (x.t - nt) / n }
theorem hloop (x0 r7 a0 a1 a3 a4 a5 a7 a8 a10 a11 a12 a13 a14 a15 a16 a17 a18 a19 a20 a21 : AV) (v nt nh n : Int) (hx0 : x0 = .agg [a0, a1, .int v, a3, a4, a5, .int nt, a7, a8, .int nh, a10, a11, a12, a13, a14, a15, a16, a17, a18, a19, a20, a21]) (hr7 : r7 = .tup [.int n, .int 0])
    (L : List Nd) (r : AV) (i : Nat) (hr : r = .tup [tube (L.map (hgt nt nh v n)), .int 0]) (hL : L.length ≤ 1000) (hv : 0 ≤ v ∧ v ≤ 60000) (hnh : 0 ≤ nh ∧ nh ≤ 60000) (hnt : 0 ≤ nt ∧ nt ≤ 200000) (hn : 0 ≤ n ∧ n ≤ 60000)
    (hb : ∀ x ∈ L, 0 ≤ x.t ∧ x.t ≤ 200000 ∧ (x.t < nt + n → nt ≤ x.t)) :
    (fLoop i [(AV.int 0), (tube L)] fun ys again =>
                  ((AV.binOk Go.BinOp.lss (ys.getD 0 default) (AV.len (tube L))) ∧
                  ((AV.isBool (AV.bin Go.BinOp.lss (ys.getD 0 default) (AV.len (tube L)))) ∧
                  (((isT (AV.bin Go.BinOp.lss (ys.getD 0 default) (AV.len (tube L)))) →
                    ((AV.inb (ys.getD 1 default) (ys.getD 0 default)) ∧
                    ((AV.inb (ys.getD 1 default) (ys.getD 0 default)) ∧
                    ((AV.binOk Go.BinOp.geq (AV.at (ys.getD 1 default) (ys.getD 0 default) 0) (AV.bin Go.BinOp.add (AV.cel x0 6) (AV.prj r7 0))) ∧
                    ((AV.isBool (AV.bin Go.BinOp.geq (AV.at (ys.getD 1 default) (ys.getD 0 default) 0) (AV.bin Go.BinOp.add (AV.cel x0 6) (AV.prj r7 0)))) ∧
                    (((isT (AV.bin Go.BinOp.geq (AV.at (ys.getD 1 default) (ys.getD 0 default) 0) (AV.bin Go.BinOp.add (AV.cel x0 6) (AV.prj r7 0)))) →
                      ((AV.isOne (AV.cel x0 2)) ∧
                      ((AV.inb (ys.getD 1 default) (ys.getD 0 default)) ∧
                      ((AV.binOk Go.BinOp.add (ys.getD 0 default) (AV.int 1)) ∧
                      (again [(AV.bin Go.BinOp.add (ys.getD 0 default) (AV.int 1)), (AV.setEl (ys.getD 1 default) (ys.getD 0 default) 3 [(AV.cel x0 2)])]))))) ∧
                    ((isF (AV.bin Go.BinOp.geq (AV.at (ys.getD 1 default) (ys.getD 0 default) 0) (AV.bin Go.BinOp.add (AV.cel x0 6) (AV.prj r7 0)))) →
                      ((AV.binOk Go.BinOp.sub (AV.cel x0 2) (AV.cel x0 9)) ∧
                      ((AV.inb (ys.getD 1 default) (ys.getD 0 default)) ∧
                      ((AV.binOk Go.BinOp.sub (AV.at (ys.getD 1 default) (ys.getD 0 default) 0) (AV.cel x0 6)) ∧
                      ((AV.binOk Go.BinOp.mul (AV.bin Go.BinOp.sub (AV.cel x0 2) (AV.cel x0 9)) (AV.bin Go.BinOp.sub (AV.at (ys.getD 1 default) (ys.getD 0 default) 0) (AV.cel x0 6))) ∧
                      (∃ r8 : AV, ((Fn Tryz.prog 193 [(AV.bin Go.BinOp.mul (AV.bin Go.BinOp.sub (AV.cel x0 2) (AV.cel x0 9)) (AV.bin Go.BinOp.sub (AV.at (ys.getD 1 default) (ys.getD 0 default) 0) (AV.cel x0 6))), (AV.prj r7 0)] (Sh.tup [Sh.sc, Sh.sc]) r8) ∧
                      ((AV.binOk Go.BinOp.add (AV.cel x0 9) (AV.prj r8 0)) ∧
                      ((AV.isOne (AV.bin Go.BinOp.add (AV.cel x0 9) (AV.prj r8 0))) ∧
                      ((AV.inb (ys.getD 1 default) (ys.getD 0 default)) ∧
                      ((AV.binOk Go.BinOp.add (ys.getD 0 default) (AV.int 1)) ∧
                      (again [(AV.bin Go.BinOp.add (ys.getD 0 default) (AV.int 1)), (AV.setEl (ys.getD 1 default) (ys.getD 0 default) 3 [(AV.bin Go.BinOp.add (AV.cel x0 9) (AV.prj r8 0))])])))))))))))))))))) ∧
                  ((isF (AV.bin Go.BinOp.lss (ys.getD 0 default) (AV.len (tube L)))) →
                    ((AV.flatS (ys.getD 1 default)) ∧
                    ((AV.flat (AV.int 0)) ∧
                    (fSame (AV.tup [(ys.getD 1 default), (AV.int 0)]) r)))))))) := by
  subst hx0 hr7 hr
  refine loop_list (σ := List Nd) L (fun k s => [.int (k : Nat), tube s]) (fun k rest s => s = (L.take k).map (hgt nt nh v n) ++ rest) L rfl (by simp) ?_ ?_
  · rintro k x rest s K hx hrest hk hG hK
    have hs : s[k]? = some x := by
      rw [hG, List.getElem?_append_right (by simp; omega)]
      simp [show min k L.length = k by omega]
    have hsl : s.length = L.length := by
      have : (x :: rest).length = L.length - k := by
        rw [← hrest]; simp; omega
      rw [hG, List.length_append, this]; simp; omega
    have hset : s.set k (hgt nt nh v n x) = (L.take (k + 1)).map (hgt nt nh v n) ++ rest := by
      rw [hG, List.set_append_right _ _ (by simp; omega)]
      simp only [List.length_map, List.length_take, show min k L.length = k by omega, Nat.sub_self, List.set_cons_zero]
      have e : L.take (k + 1) = L.take k ++ [x] := by
        rw [List.take_add_one, hx]; rfl
      rw [e]; simp
    have hx' := hb x (List.mem_of_getElem? hx)
    have hKK := fun z hz => hK [.int ((k : Int) + 1), tube (s.set k z)] _ (by simp; exact hz) hset
    clear hK hG hb
    have w2 : wr ((k : Int) + 1) = (k : Int) + 1 := wr_id (by omega) (by omega)
    have w3 : wr (nt + n) = nt + n := wr_id (by omega) (by omega)
    have w4 : wr (v - nh) = v - nh := wr_id (by omega) (by omega)
    have hks : (k : Int) < s.length := by omega
    have hkL : (k : Int) < L.length := by omega
    obtain ⟨xt, xx, xy, xh, xr, xb⟩ := x
    simp only at hx'
    have hse : ∀ z : Int, AV.setEl (tube s) (.lit (.int .i64 (k : Nat))) 3 [.int z] = tube (s.set k ⟨xt, xx, xy, z, xr, xb⟩) := fun z => lst_setEl hs (by simp [encN])
    simp [hkL, hks, lst_at hs, encN, w2, w3, w4, hse]
    refine ⟨fun q => hKK _ (by simp [hgt, q]), fun q => ?_⟩
    have w5 : wr (xt - nt) = xt - nt := wr_id (by omega) (by omega)
    have m1 := mulb (p := v - nh) (n := xt - nt) (by omega) (by omega) (by omega) (by omega)
    have w6 : wr ((v - nh) * (xt - nt)) = (v - nh) * (xt - nt) := wr_id (by omega) (by omega)
    have hpos : 0 < n := by omega
    have c2 := divd_fn ((v - nh) * (xt - nt)) n hpos (by omega) (by omega)
    obtain ⟨q1, q2⟩ := way (p := v - nh) (n := xt - nt) (d := n) hpos (by omega) (by omega)
    have w7 : wr (nh + (v - nh) * (xt - nt) / n) = nh + (v - nh) * (xt - nt) / n := by
      rcases Int.le_total 0 (v - nh) with g | g
      · have := q1 g; exact wr_id (by omega) (by omega)
      · have := q2 g; exact wr_id (by omega) (by omega)
    rw [w5, w6]
    refine ⟨_, c2, ?_⟩
    simp [w7, hse]
    exact hKK _ (by simp [hgt, show ¬ nt + n ≤ xt by omega])
  · rintro s K hG
    have hf := flat_tube s
    have e : s = L.map (hgt nt nh v n) := by rw [hG]; simp
    rw [← e]
    simp
    exact hf
end Go.Proofs.YtcifjnhpgblnkaaGreatDoor
namespace Go.Proofs.YtcifjnhpgblnkaaGreatDoor
open Go.RowKit
set_option linter.unusedVariables false
set_option linter.unusedSimpArgs false
set_option maxRecDepth 100000
def insT (w : List Nd) (e : Int) (l : List Nd) : List Nd := if (l.getD (ixF e l) default).t = e then l else l.take (ixF e l) ++ atN w e :: l.drop (ixF e l)
def midT (w l : List Nd) (nt n : Int) : List Nd := if 0 < n ∧ 0 < l.length ∧ nt + n < (l.getD (l.length - 1) default).t then insT w (nt + n) l else l
def hgtV (k : Kd) (now : Nd) (v : Int) (w l : List Nd) : AV := if clE2 k now.h v = 0 then .tup [tube ((midT w l now.t (clN k now.h v)).map (hgt now.t now.h v (clN k now.h v))), .int 0] else .tup [.sl 6 [], .int (clE2 k now.h v)]
theorem ixF_snoc {t : Int} : ∀ {l : List Nd} {k : Nat} {x : Nd}, (∀ j y, j < k → l[j]? = some y → y.t < t) → l[k]? = some x → ¬ x.t < t → ixF t l = k
 | [], k, x, _, h, _ => by simp at h
 | n :: r, 0, x, h0, h, hx => by simp at h; subst h; rw [ixF, if_neg hx]
 | n :: r, k + 1, x, h0, h, hx => by
  rw [ixF, if_pos (h0 0 n (by omega) rfl), ixF_snoc (k := k) (fun j y hj hy => h0 (j + 1) y (by omega) (by simpa using hy)) (by simpa using h) hx]
theorem clN_bd {k : Kd} {a b : Int} (h : clE2 k a b = 0) : kE k = 0 ∧ 0 ≤ a ∧ a ≤ 60000 ∧ 0 ≤ b ∧ b ≤ 60000 ∧ 0 ≤ clN k a b ∧ clN k a b ≤ 60000 := by
 unfold clE2 at h
 split at h
 ·rename_i q; exact absurd h q
 ·rename_i q
  have hk : kE k = 0 := by simpa using q
  obtain ⟨k1, k2, k3, k4, k5, k6⟩ := kE_ok hk
  split at h
  ·cases h
  ·have hd : ∀ x d : Int, 0 ≤ x → x ≤ 60000 → 1 ≤ d → 0 ≤ dvu x d ∧ dvu x d ≤ 60000 := fun x d h1 h2 h3 => by
    have e1 : 0 ≤ x / d := Int.ediv_nonneg h1 (by omega)
    have e2 : x / d * d ≤ x := Int.ediv_mul_le x (by omega)
    have e3 : x / d ≤ x / d * d := by
     have := Int.mul_le_mul_of_nonneg_left h3 e1
     simpa using this
    unfold dvu
    rw [Int.tmod_eq_emod_of_nonneg h1]
    by_cases hz : x % d = 0
    ·rw [if_pos hz]; omega
    ·rw [if_neg hz]
     have h4 := Int.emod_lt_of_pos x (show 0 < d by omega)
     have h5 := Int.emod_nonneg x (show d ≠ 0 by omega)
     have h6 := Int.mul_ediv_add_emod x d
     have h7 : d * (x / d) = x / d * d := Int.mul_comm _ _
     omega
   refine ⟨hk, by omega, by omega, by omega, by omega, ?_⟩
   unfold clN
   split
   ·exact hd _ _ (by omega) (by omega) (by omega)
   ·exact hd _ _ (by omega) (by omega) (by omega)
theorem height_fn (a0 a1 a3 a4 a19 a20 : AV) (k : Kd) (now : Nd) (v : Int) (w l : List Nd) (hnow : 0 ≤ now.t ∧ now.t ≤ 200000 ∧ 0 ≤ now.h ∧ now.h ≤ 60000) (hl : l.length ≤ 64) (hlo : ∀ x ∈ l, okN x ∧ now.t < x.t)
  (hat : ∀ e x, x ∈ l → now.t ≤ e → e < x.t → tatE w e = 0) :
  Fn Tryz.prog 131 [.agg [a0, a1, .int v, a3, a4, tube l, .int now.t, .int now.x, .int now.y, .int now.h, .int now.r, .int now.b, .string k.nm, .int k.wk, .int k.cl, .int k.up, .int k.dn, .int k.sl, .int k.fa, a19, a20, tube w]] (.tup [.row 54 6 true, .sc]) (hgtV k now v w l) := by
 have q := EffF.height_form (.agg [a0, a1, .int v, a3, a4, tube l, .int now.t, .int now.x, .int now.y, .int now.h, .int now.r, .int now.b, .string k.nm, .int k.wk, .int k.cl, .int k.up, .int k.dn, .int k.sl, .int k.fa, a19, a20, tube w]) (hgtV k now v w l)
 have kk := fun h => fn_run mixed 3 (Γ := EffF.Γ) (ann := EffF.ann) Tryz.func131 rfl Tryz.call131 (q.mpr h)
 refine kk ?_
 clear kk q
 have hc := climb_fn k now.h v
 by_cases hE : clE2 k now.h v = 0
 ·obtain ⟨hk, hnh1, hnh2, hv1, hv2, hn1, hn2⟩ := clN_bd hE
  have hVc : clV k now.h v = .tup [.int (clN k now.h v), .int 0] := by unfold clV; rw [if_pos hE]
  rw [hVc] at hc
  have hV : hgtV k now v w l = .tup [tube ((midT w l now.t (clN k now.h v)).map (hgt now.t now.h v (clN k now.h v))), .int 0] := by unfold hgtV; rw [if_pos hE]
  generalize clN k now.h v = n at *
  rw [hV]
  obtain ⟨nt1, nt2, nh1, nh2⟩ := hnow
  have hbl : ∀ x ∈ l, 0 ≤ x.t ∧ x.t ≤ 200000 ∧ (x.t < now.t + n → now.t ≤ x.t) := fun x hx => by
   have := hlo x hx
   exact ⟨this.1.1, this.1.2.1, fun _ => by omega⟩
  have hm0 : ¬ (0 < n ∧ 0 < l.length ∧ now.t + n < (l.getD (l.length - 1) default).t) → midT w l now.t n = l := fun h => by unfold midT; rw [if_neg h]
  refine ⟨by simp, _, hc, ⟨by simp, by simp, fun q => absurd q (by simp), fun _ => ⟨by simp, by simp, _, tclone_fn l (by omega), by simp, by simp, fun q1 => ?_, fun q1 => ⟨by simp, q1, ?_⟩⟩⟩⟩
  ·have hn0 : 0 < n := by simpa using q1
   refine ⟨by simp, by simp, q1, by simp, fun q2 => ?_, fun q2 => ⟨by simp, q2, ?_⟩⟩
   ·have hl0 : 0 < l.length := by simpa using q2
    obtain ⟨z, hz⟩ : ∃ z, l[l.length - 1]? = some z := ⟨_, List.getElem?_eq_getElem (by omega)⟩
    have hzd : l.getD (l.length - 1) default = z := by rw [List.getD_eq_getElem?_getD, hz]; rfl
    have hwl : wr ((l.length : Int) - 1) = ((l.length - 1 : Nat) : Int) := by rw [wr_id (by omega) (by omega)]; omega
    have hwn : wr (now.t + n) = now.t + n := wr_id (by omega) (by omega)
    have hlt : ((l.length - 1 : Nat) : Int) < l.length := by omega
    have hzo := hlo z (List.mem_of_getElem? hz)
    refine ⟨by simp, by simp [hwl]; omega, by simp [hwl]; omega, by simp [hwl, lst_at hz, encN], by simp, q2, by simp [hwl, lst_at hz, encN], fun q3 => ?_, fun q3 => ?_⟩
    ·have hend : now.t + n < z.t := by simpa [hwl, lst_at hz, encN, hwn] using q3
     refine ⟨Tryz.call196, fun _ => ?_⟩
     have hmid : midT w l now.t n = insT w (now.t + n) l := by unfold midT; rw [if_pos ⟨hn0, hl0, by rw [hzd]; exact hend⟩]
     rw [hmid]
     refine loop_list (σ := Unit) l (fun i _ => [.int (i : Nat)]) (fun i _ _ => ∀ j y, j < i → l[j]? = some y → y.t < now.t + n) () rfl (fun j y hj => by omega) ?_ ?_
     ·rintro i x rest _ K hx hrest hi hG hK
      have hwi : wr ((i : Int) + 1) = (i : Int) + 1 := wr_id (by omega) (by omega)
      refine ⟨by simp, by simp, fun _ => ⟨by simp; omega, by simp; omega, Tryz.call197, fun _ => ⟨by simp [lst_atAgg hx, encN], by simp [lst_atAgg hx, encN], by simp [lst_atAgg hx, encN], fun q5 => ?_, fun q5 => ⟨by simp, ?_⟩⟩⟩, fun q4 => ?_⟩
      ·have hxe : now.t + n ≤ x.t := by simpa [lst_atAgg hx, encN, hwn] using q5
       have hix : ixF (now.t + n) l = i := ixF_snoc hG hx (by omega)
       have hxd : l.getD i default = x := by rw [List.getD_eq_getElem?_getD, hx]; rfl
       refine ⟨by simp; omega, by simp; omega, by simp [lst_at hx, encN], by simp [lst_at hx, encN], fun q6 => ?_, fun q6 => ?_⟩
       ·have hne : x.t ≠ now.t + n := by simpa [lst_at hx, encN, hwn] using q6
        have hins : insT w (now.t + n) l = l.take i ++ atN w (now.t + n) :: l.drop i := by unfold insT; rw [hix, hxd, if_neg hne]
        rw [hins]
        have hte := hat (now.t + n) z (List.mem_of_getElem? hz) (by omega) hend
        have htv : tatV w (now.t + n) = .tup [nd (atN w (now.t + n)), .int 0] := by unfold tatV; rw [if_pos hte]
        have hta := tat_fn w (now.t + n)
        rw [htv] at hta
        obtain ⟨hv0, hv1', hv2'⟩ := tatE_ok hte
        have hatt : (atN w (now.t + n)).t = now.t + n := by
         unfold atN
         split
         ·rename_i g; exact g
         ·rfl
        generalize atN w (now.t + n) = A at *
        refine ⟨_, by simpa [hwn] using hta, by simp [encN], ?_⟩
        have hi2 := insNd (l.map encN) [encN A] i (by simp; omega) (by simp) (fun y hy z hz => by simp [encN] at hy; subst hy; simp at hz; rcases hz with rfl | rfl | rfl | rfl | rfl | rfl <;> exact .lit _) (by simp; omega)
        have e2 : AV.sl 6 ((l.map encN).take i ++ ([encN A] ++ (l.map encN).drop i)) = tube (l.take i ++ A :: l.drop i) := by simp [lst, List.map_take, List.map_drop]
        rw [e2] at hi2
        refine ⟨tube (l.take i ++ A :: l.drop i), by simpa [encN, lst] using hi2, ?_⟩
        refine hloop _ _ a0 a1 a3 a4 (tube l) (.int now.x) (.int now.y) (.int now.r) (.int now.b) (.string k.nm) (.int k.wk) (.int k.cl) (.int k.up) (.int k.dn) (.int k.sl) (.int k.fa) a19 a20 (tube w) v now.t now.h n rfl rfl (l.take i ++ A :: l.drop i) _ _ rfl (by rw [List.length_append, List.length_cons, List.length_take, List.length_drop]; omega) ⟨hv1, hv2⟩ ⟨nh1, nh2⟩ ⟨nt1, nt2⟩ ⟨hn1, hn2⟩ (fun y hy => ?_)
        rcases List.mem_append.1 hy with g | g
        ·exact hbl y (List.mem_of_mem_take g)
        ·rcases List.mem_cons.1 g with g | g
         ·rw [g, hatt]
          have := hzo.1.2.1
          exact ⟨by omega, by omega, fun _ => by omega⟩
         ·exact hbl y (List.mem_of_mem_drop g)
       ·have heq : x.t = now.t + n := by simpa [lst_at hx, encN, hwn] using q6
        have hins : insT w (now.t + n) l = l := by unfold insT; rw [hix, hxd, if_pos heq]
        rw [hins]
        exact hloop _ _ a0 a1 a3 a4 (tube l) (.int now.x) (.int now.y) (.int now.r) (.int now.b) (.string k.nm) (.int k.wk) (.int k.cl) (.int k.up) (.int k.dn) (.int k.sl) (.int k.fa) a19 a20 (tube w) v now.t now.h n rfl rfl _ _ _ rfl (by omega) ⟨hv1, hv2⟩ ⟨nh1, nh2⟩ ⟨nt1, nt2⟩ ⟨hn1, hn2⟩ hbl
      ·refine hK _ () (by simp [hwi]) fun j y hj hy => ?_
       rcases Nat.lt_or_ge j i with g | g
       ·exact hG j y g hy
       ·obtain rfl : j = i := by omega
        rw [hx] at hy; injection hy with hy; subst hy
        have : ¬ now.t + n ≤ x.t := by simpa [lst_atAgg hx, encN, hwn] using q5
        omega
      ·exact absurd q4 (by simp; omega)
     ·rintro _ K hG
      have := hG (l.length - 1) z (by omega) hz
      omega
    ·have hend : ¬ now.t + n < z.t := by simpa [hwl, lst_at hz, encN, hwn] using q3
     rw [hm0 (by rw [hzd]; omega)]
     exact hloop _ _ a0 a1 a3 a4 (tube l) (.int now.x) (.int now.y) (.int now.r) (.int now.b) (.string k.nm) (.int k.wk) (.int k.cl) (.int k.up) (.int k.dn) (.int k.sl) (.int k.fa) a19 a20 (tube w) v now.t now.h n rfl rfl _ _ _ rfl (by omega) ⟨hv1, hv2⟩ ⟨nh1, nh2⟩ ⟨nt1, nt2⟩ ⟨hn1, hn2⟩ hbl
   ·have hl0 : l = [] := by simpa using q2
    rw [hm0 (by simp [hl0])]
    exact hloop _ _ a0 a1 a3 a4 (tube l) (.int now.x) (.int now.y) (.int now.r) (.int now.b) (.string k.nm) (.int k.wk) (.int k.cl) (.int k.up) (.int k.dn) (.int k.sl) (.int k.fa) a19 a20 (tube w) v now.t now.h n rfl rfl _ _ _ rfl (by omega) ⟨hv1, hv2⟩ ⟨nh1, nh2⟩ ⟨nt1, nt2⟩ ⟨hn1, hn2⟩ hbl
  ·have hn0 : ¬ 0 < n := by simpa using q1
   rw [hm0 (by omega)]
   exact hloop _ _ a0 a1 a3 a4 (tube l) (.int now.x) (.int now.y) (.int now.r) (.int now.b) (.string k.nm) (.int k.wk) (.int k.cl) (.int k.up) (.int k.dn) (.int k.sl) (.int k.fa) a19 a20 (tube w) v now.t now.h n rfl rfl _ _ _ rfl (by omega) ⟨hv1, hv2⟩ ⟨nh1, nh2⟩ ⟨nt1, nt2⟩ ⟨hn1, hn2⟩ hbl
 ·have hVc : clV k now.h v = .tup [.int 0, .int (clE2 k now.h v)] := by unfold clV; rw [if_neg hE]
  rw [hVc] at hc
  have hV : hgtV k now v w l = .tup [.sl 6 [], .int (clE2 k now.h v)] := by unfold hgtV; rw [if_neg hE]
  rw [hV]
  refine ⟨by simp, _, hc, ⟨by simp, by simp, fun q => ?_, fun q => absurd q (by simp [hE])⟩⟩
  simp
end Go.Proofs.YtcifjnhpgblnkaaGreatDoor
namespace Go.Proofs.YtcifjnhpgblnkaaGreatDoor
open Go.RowKit
set_option linter.unusedVariables false
set_option linter.unusedSimpArgs false
set_option maxRecDepth 100000
def befT (a : Int) (l : List Nd) : List Nd := l.filter fun n => decide (n.t < a)
def latT (a : Int) (l : List Nd) : List Nd := l.filter fun n => decide (a < n.t)
def ofE (l : List Nd) (c : Cl) (a : Int) (k : Kd) (fix : Pt) : Int := if tE l ≠ 0 then tE l else if clE c ≠ 0 then clE c else if kE k ≠ 0 then kE k else if pE fix ≠ 0 then pE fix else tatE l a
def outT (l : List Nd) (v : Int) (a : Int) (k : Kd) : List Nd := befT a l ++ atN l a :: (midT l (latT a l) a (clN k (atN l a).h v)).map (hgt a (atN l a).h v (clN k (atN l a).h v))
def ofV (l : List Nd) (c : Cl) (a : Int) (k : Kd) (fix : Pt) : AV :=
 if ofE l c a k fix ≠ 0 then .tup [.sl 6 [], .int (ofE l c a k fix)]
 else if clE2 k (atN l a).h c.v ≠ 0 then .tup [.sl 6 [], .int (clE2 k (atN l a).h c.v)]
 else if 64 < (outT l c.v a k).length then .tup [.sl 6 [], .int 2] else .tup [tube (outT l c.v a k), .int 0]
def feE : List (AV × Int) → Int
 | [] => 0
 | x :: r => if x.2 ≠ 0 then x.2 else feE r
def encC (x : AV × Int) : List AV := [x.1]
theorem midT_len (w l : List Nd) (nt n : Int) : (midT w l nt n).length ≤ l.length + 1 := by
 unfold midT insT
 split
 ·split
  ·omega
  ·simp; omega
 ·omega
theorem befT_snoc (a : Int) (l : List Nd) (x : Nd) : befT a (l ++ [x]) = if x.t < a then befT a l ++ [x] else befT a l := by
 unfold befT
 rw [List.filter_append]
 by_cases h : x.t < a
 ·simp [h]
 ·simp [h]
theorem latT_snoc (a : Int) (l : List Nd) (x : Nd) : latT a (l ++ [x]) = if a < x.t then latT a l ++ [x] else latT a l := by
 unfold latT
 rw [List.filter_append]
 by_cases h : a < x.t
 ·simp [h]
 ·simp [h]
theorem befT_len (a : Int) (l : List Nd) : (befT a l).length ≤ l.length := List.length_filter_le _ _
theorem latT_len (a : Int) (l : List Nd) : (latT a l).length ≤ l.length := List.length_filter_le _ _
theorem nd_snoc (l : List Nd) (x : Nd) : AV.app 6 (tube l) (.sl 6 [encN x]) = tube (l ++ [x]) := by simp [lst]
theorem nd_room (l : List Nd) (x : Nd) (h : l.length ≤ 1000) : AV.room (tube l) (.sl 6 [encN x]) 48 := by
 unfold AV.room
 simp only [lst_els, List.length_map, av_els, List.length_cons, List.length_nil]
 omega
theorem atN_t (l : List Nd) (t : Int) : (atN l t).t = t := by
 unfold atN
 split
 ·rename_i g; exact g
 ·rfl
theorem atN_okN {l : List Nd} {t : Int} (hv : tE l = 0) (h0 : ∀ x, l[0]? = some x → x.t ≤ t) (h1 : ∀ x, l[l.length - 1]? = some x → t ≤ x.t) : 0 ≤ t ∧ t ≤ 200000 ∧ 0 ≤ (atN l t).h ∧ (atN l t).h ≤ 60000 := by
 obtain ⟨hp, h64, hG⟩ := tE_ok hv
 obtain ⟨x0, hx0⟩ : ∃ x0, l[0]? = some x0 := ⟨_, List.getElem?_eq_getElem (by omega)⟩
 have t0 : 0 ≤ t := by have := h0 x0 hx0; have := (tG_get hG hx0).2.1.1; omega
 obtain ⟨x1, hx1⟩ : ∃ x1, l[l.length - 1]? = some x1 := ⟨_, List.getElem?_eq_getElem (by omega)⟩
 have t1 : t ≤ 200000 := by have := h1 x1 hx1; have := (tG_get hG hx1).2.1.2.1; omega
 exact ⟨t0, t1, (atN_ok hv h0 h1).2⟩
theorem of_fn (l : List Nd) (c : Cl) (a : Int) (k : Kd) (fix : Pt) (hc : c.k = 0) : Fn Tryz.prog 18 [tube l, cl c, .int a, kd k, pt fix] (.tup [.row 54 6 true, .sc]) (ofV l c a k fix) := by
 have q := EffF.of_form (tube l) (cl c) (.int a) (kd k) (pt fix) (ofV l c a k fix)
 have kk := fun h => fn_run mixed 3 (Γ := EffF.Γ) (ann := EffF.ann) Tryz.func18 rfl Tryz.call18 (q.mpr h)
 refine kk ?_
 clear kk q
 refine ⟨by simp, by simp [encL], by simp [encKd], by simp [encP], ?_⟩
 obtain ⟨CL, hCL⟩ : ∃ CL : List (AV × Int), CL = [(AV.clo 62 [.ref [tube l]], tE l), (AV.clo 63 [.ref (encL c)], clE c), (AV.clo 64 [.ref (encKd k)], kE k), (AV.clo 66 [.ref (encP fix)], pE fix)] := ⟨_, rfl⟩
 have hls : AV.mk 1 [[(AV.mkClo 62 [(AV.mkRef [tube l])])], [(AV.mkClo 63 [(AV.mkRef [(AV.cel (cl c) 0), (AV.cel (cl c) 1), (AV.cel (cl c) 2), (AV.cel (cl c) 3)])])], [(AV.mkClo 64 [(AV.mkRef [(AV.cel (kd k) 0), (AV.cel (kd k) 1), (AV.cel (kd k) 2), (AV.cel (kd k) 3), (AV.cel (kd k) 4), (AV.cel (kd k) 5), (AV.cel (kd k) 6)])])], [(AV.mkClo 66 [(AV.mkRef [(AV.cel (pt fix) 0), (AV.cel (pt fix) 1)])])]] = lst 1 encC CL := by rw [hCL]; rfl
 rw [hls]
 have hfe : feE CL = if tE l ≠ 0 then tE l else if clE c ≠ 0 then clE c else if kE k ≠ 0 then kE k else pE fix := by
  rw [hCL]
  simp only [feE]
  split
  ·rfl
  ·split
   ·rfl
   ·split
    ·rfl
    ·split
     ·rfl
     ·rename_i h; simpa using (Eq.symm (by simpa using h))
 have hFC : ∀ x ∈ CL, FnC Tryz.prog x.1 [] .sc (.int x.2) := by
  intro x hx
  rw [hCL] at hx
  simp only [List.mem_cons, List.mem_nil_iff, or_false] at hx
  rcases hx with rfl | rfl | rfl | rfl
  ·exact ⟨_, _, rfl, of1_fn l⟩
  ·exact ⟨_, _, rfl, of2_fn c⟩
  ·exact ⟨_, _, rfl, of3_fn k⟩
  ·exact ⟨_, _, rfl, of4_fn fix⟩
 have hl4 : CL.length = 4 := by rw [hCL]; rfl
 have hV1 : feE CL ≠ 0 → ofV l c a k fix = .tup [.sl 6 [], .int (feE CL)] := fun h => by
  have e : ofE l c a k fix = feE CL := by
   rw [hfe] at h ⊢
   unfold ofE
   split
   ·rfl
   ·rename_i h1
    rw [if_neg h1] at h
    split
    ·rfl
    ·rename_i h2
     rw [if_neg h2] at h
     split
     ·rfl
     ·rename_i h3
      rw [if_neg h3] at h
      rw [if_pos h]
  unfold ofV
  rw [e, if_pos h]
 have hE0 : feE CL = 0 → tE l = 0 ∧ kE k = 0 ∧ ofE l c a k fix = tatE l a := fun h => by
  rw [hfe] at h
  unfold ofE
  by_cases h1 : tE l = 0
  ·by_cases h2 : clE c = 0
   ·by_cases h3 : kE k = 0
    ·simp [h1, h2, h3] at h ⊢
     simp [h]
    ·simp [h1, h2, h3] at h
   ·simp [h1, h2] at h
  ·simp [h1] at h
 clear hls hCL hfe
 refine loop_list (σ := Unit) CL (fun i _ => [.int (i : Nat)]) (fun i rest _ => feE CL = feE rest) () rfl rfl ?_ ?_
 ·rintro i x rest _ K hx hrest hi hG hK
  have hi4 : (i : Int) < 4 := by omega
  have hwi : wr ((i : Int) + 1) = (i : Int) + 1 := wr_id (by omega) (by omega)
  have hF := hFC x (List.mem_of_getElem? hx)
  refine ⟨by simp, by simp, fun _ => ⟨by simp; omega, by simp; omega, .int x.2, ?_, by simp, by simp, fun h => ?_, fun h => ⟨by simp, ?_⟩⟩, fun h => absurd h (by simp; omega)⟩
  ·rw [show AV.at (lst 1 encC CL) ([AV.int (i : Nat)].getD 0 default) 0 = x.1 from lst_at hx]
   exact hF
  ·have hx2 : x.2 ≠ 0 := by simpa using h
   rw [feE, if_pos hx2] at hG
   rw [hV1 (by rw [hG]; exact hx2), hG]
   simp
  ·have hx2 : x.2 = 0 := by simpa using h
   rw [feE, if_neg (by simp [hx2])] at hG
   exact hK _ () (by simp [hwi]) hG
 ·rintro _ K hG
  obtain ⟨hl0, hk0, hOE⟩ := hE0 hG
  clear hE0 hV1 hFC
  refine ⟨by simp, by simp [hl4], fun h => absurd h (by simp [hl4]), fun _ => ?_⟩
  obtain ⟨hp, h64, hGt⟩ := tE_ok hl0
  have hta := tat_fn l a
  by_cases hE : tatE l a = 0
  ·have htv : tatV l a = .tup [nd (atN l a), .int 0] := by unfold tatV; rw [if_pos hE]
   rw [htv] at hta
   have hOE' : ofE l c a k fix = 0 := by rw [hOE, hE]
   obtain ⟨_, hfi, hla⟩ := tatE_ok hE
   obtain ⟨cc, ck, cv, cf⟩ := c
   simp only at hc
   subst hc
   have hV : ofV l ⟨cc, 0, cv, cf⟩ a k fix = if clE2 k (atN l a).h cv ≠ 0 then .tup [.sl 6 [], .int (clE2 k (atN l a).h cv)] else if 64 < (outT l cv a k).length then .tup [.sl 6 [], .int 2] else .tup [tube (outT l cv a k), .int 0] := by
    unfold ofV
    rw [if_neg (by rw [hOE']; simp)]
   have hO : outT l cv a k = befT a l ++ atN l a :: (midT l (latT a l) a (clN k (atN l a).h cv)).map (hgt a (atN l a).h cv (clN k (atN l a).h cv)) := rfl
   have hok := atN_okN hl0 hfi hla
   have htt := atN_t l a
   generalize atN l a = A at *
   subst htt
   rw [hV]
   clear hV hOE hOE'
   refine ⟨by simp, _, hta, by simp [encN], by simp, by simp, fun h => absurd h (by simp), fun _ => ⟨by simp, by simp, by simp, by simp, by simp, by simp, by simp, by simp, by simp, by simp, ?_⟩⟩
   refine loop_list (σ := Unit) l (fun i _ => [.int (i : Nat), tube (befT A.t (l.take i)), tube (latT A.t (l.take i)), .string cc, .int 0, .int cv, .string cf, .int A.t, .int A.x, .int A.y, .int A.h, .int A.r, .int A.b, .string k.nm, .int k.wk, .int k.cl, .int k.up, .int k.dn, .int k.sl, .int k.fa, .int fix.x, .int fix.y, tube l]) (fun _ _ _ => True) () rfl trivial ?_ ?_
   ·rintro i x rest _ K hx hrest hi _ hK
    have hwi : wr ((i : Int) + 1) = (i : Int) + 1 := wr_id (by omega) (by omega)
    have hil : (i : Int) < l.length := by omega
    have e1 : l.take (i + 1) = l.take i ++ [x] := by rw [List.take_add_one, hx]; rfl
    have e2 := befT_snoc A.t (l.take i) x
    have e3 := latT_snoc A.t (l.take i) x
    rw [← e1] at e2 e3
    have b1 := befT_len A.t (l.take i)
    have b2 := latT_len A.t (l.take i)
    have b3 : (l.take i).length ≤ 1000 := by rw [List.length_take]; omega
    have r1 := nd_room (befT A.t (l.take i)) x (by omega)
    have r2 := nd_room (latT A.t (l.take i)) x (by omega)
    have a1 := nd_snoc (befT A.t (l.take i)) x
    have a2 := nd_snoc (latT A.t (l.take i)) x
    have hK' := hK [.int ((i : Int) + 1), tube (befT A.t (l.take (i + 1))), tube (latT A.t (l.take (i + 1))), .string cc, .int 0, .int cv, .string cf, .int A.t, .int A.x, .int A.y, .int A.h, .int A.r, .int A.b, .string k.nm, .int k.wk, .int k.cl, .int k.up, .int k.dn, .int k.sl, .int k.fa, .int fix.x, .int fix.y, tube l] () (by simp) trivial
    rw [e2, e3] at hK'
    clear hK e2 e3 e1 b1 b2 b3
    generalize befT A.t (l.take i) = B at *
    generalize latT A.t (l.take i) = D at *
    obtain ⟨xt, xx, xy, xh, xr, xb⟩ := x
    simp [encN] at r1 r2 a1 a2 hK'
    simp [hil, lst_atAgg hx, encN, hwi]
    refine ⟨fun g1 => ⟨r1, fun g2 => absurd g2 (by omega), fun g2 => ?_⟩, fun g1 => ⟨fun g2 => ⟨r2, ?_⟩, fun g2 => ?_⟩⟩
    ·rw [if_pos g1, if_neg (by omega)] at hK'
     rw [a1]; exact hK'
    ·rw [if_neg (by omega), if_pos g2] at hK'
     rw [a2]; exact hK'
    ·rw [if_neg (by omega), if_neg (by omega)] at hK'
     exact hK'
   ·rintro _ K _
    rw [List.take_length]
    have b1 := befT_len A.t l
    have b2 := latT_len A.t l
    have hlo : ∀ x ∈ latT A.t l, okN x ∧ A.t < x.t := fun x hx => by
     obtain ⟨h1, h2⟩ := List.mem_filter.1 hx
     obtain ⟨j, hj⟩ := List.getElem?_of_mem h1
     exact ⟨(tG_get hGt hj).2.1, by simpa using h2⟩
    have hat : ∀ e x, x ∈ latT A.t l → A.t ≤ e → e < x.t → tatE l e = 0 := fun e x hx h1 h2 => by
     obtain ⟨h3, _⟩ := List.mem_filter.1 hx
     obtain ⟨j, hj⟩ := List.getElem?_of_mem h3
     obtain ⟨z, hz⟩ : ∃ z, l[l.length - 1]? = some z := ⟨_, List.getElem?_eq_getElem (by omega)⟩
     obtain ⟨y, hy⟩ : ∃ y, l[0]? = some y := ⟨_, List.getElem?_eq_getElem (by omega)⟩
     have hjl := (List.getElem?_eq_some_iff.1 hj).1
     have hxz : x.t ≤ z.t := by
      rcases Nat.lt_or_ge j (l.length - 1) with g | g
      ·exact Int.le_of_lt ((tG_get hGt hj).2.2 _ z g hz)
      ·obtain rfl : j = l.length - 1 := by omega
       rw [hz] at hj; injection hj with hj; rw [hj]; exact Int.le_refl _
     have hyf := hfi y hy
     unfold tatE
     rw [if_neg (by simp [hl0]), if_neg]
     rw [List.getD_eq_getElem?_getD, hy, List.getD_eq_getElem?_getD, hz]
     simp only [Option.getD_some]
     omega
    have hh := height_fn (.string cc) (.int 0) (.string cf) (tube (befT A.t l)) (.int fix.x) (.int fix.y) k A cv l (latT A.t l) hok (by omega) hlo hat
    have hmid := midT_len l (latT A.t l) A.t (clN k A.h cv)
    by_cases hE2 : clE2 k A.h cv = 0
    ·have hHV : hgtV k A cv l (latT A.t l) = .tup [tube ((midT l (latT A.t l) A.t (clN k A.h cv)).map (hgt A.t A.h cv (clN k A.h cv))), .int 0] := by unfold hgtV; rw [if_pos hE2]
     rw [hHV] at hh
     have hca := carried0 _ _ _ _ _ _ _ _ _ _ _ _ _ _ _ _ _ _ _ _ _ _ _ hh
     rw [if_neg (by simp [hE2])]
     have hfl : outT l cv A.t k = [befT A.t l, [A], (midT l (latT A.t l) A.t (clN k A.h cv)).map (hgt A.t A.h cv (clN k A.h cv))].flatten := by rw [hO]; simp
     have hlen : (outT l cv A.t k).length ≤ 1000 := by
      rw [hO, List.length_append, List.length_cons, List.length_map]
      omega
     have hcc := concat_fn [befT A.t l, [A], (midT l (latT A.t l) A.t (clN k A.h cv)).map (hgt A.t A.h cv (clN k A.h cv))] (by rw [← hfl]; omega) (by simp)
     rw [← hfl] at hcc
     have hf := flat_tube (outT l cv A.t k)
     generalize outT l cv A.t k = O at *
     generalize (midT l (latT A.t l) A.t (clN k A.h cv)).map (hgt A.t A.h cv (clN k A.h cv)) = M at *
     refine ⟨by simp, by simp, fun h => absurd h (by simp), fun _ => ⟨_, hca, by simp, by simp, fun h => absurd h (by simp), fun _ => ⟨by simp, fun h => absurd h (by simp), fun _ => ⟨tube O, hcc, by simp, by simp, fun h => ?_, fun h => ?_⟩⟩⟩⟩
     ·have h : 64 < O.length := by simp at h; omega
      rw [if_pos h]
      simp
     ·have h : ¬ 64 < O.length := by simp at h; omega
      rw [if_neg h]
      exact ⟨hf, .lit _, rfl⟩
    ·have hHV : hgtV k A cv l (latT A.t l) = .tup [tube [], .int (clE2 k A.h cv)] := by unfold hgtV; rw [if_neg hE2]; rfl
     rw [hHV] at hh
     have hca := carried0 _ _ _ _ _ _ _ _ _ _ _ _ _ _ _ _ _ _ _ _ _ [] _ hh
     rw [if_pos hE2]
     refine ⟨by simp, by simp, fun h => absurd h (by simp), fun _ => ⟨_, hca, by simp, by simp, fun _ => by simp, fun h => absurd h (by simp [hE2])⟩⟩
  ·have htv : tatV l a = .tup [nd nd0, .int (tatE l a)] := by unfold tatV; rw [if_neg hE]
   rw [htv] at hta
   have hV : ofV l c a k fix = .tup [.sl 6 [], .int (tatE l a)] := by unfold ofV; rw [hOE, if_pos hE]
   rw [hV]
   refine ⟨by simp, _, hta, by simp [encN], by simp, by simp, fun h => by simp, fun h => absurd h (by simp [hE])⟩
end Go.Proofs.YtcifjnhpgblnkaaGreatDoor
namespace Go.Proofs.YtcifjnhpgblnkaaGreatDoor
open Go.RowKit
set_option linter.unusedVariables false
set_option linter.unusedSimpArgs false
set_option maxRecDepth 100000
def ndA (l : List Nd) (s : Int) : Nd := if tatE l s = 0 then atN l s else nd0
def difP (a b : List Nd) (s : Int) : Prop := tatE a s ≠ tatE b s ∨ (ndA a s).x ≠ (ndA b s).x ∨ (ndA a s).y ≠ (ndA b s).y ∨ (ndA a s).h ≠ (ndA b s).h
instance (a b : List Nd) (s : Int) : Decidable (difP a b s) := by unfold difP; infer_instance
def fstD (a b : List Nd) : Int → Nat → Option Int
 | _, 0 => none
 | s, n + 1 => if difP a b s then some s else fstD a b (s + 1) n
def dFirst (a b : List Nd) : Int := if (b.getD 0 default).t < (a.getD 0 default).t then (b.getD 0 default).t else (a.getD 0 default).t
def dLast (a b : List Nd) : Int := if (b.getD (b.length - 1) default).t > (a.getD (a.length - 1) default).t then (b.getD (b.length - 1) default).t else (a.getD (a.length - 1) default).t
def difS (a b : List Nd) : Option Int := fstD a b (dFirst a b) (dLast a b - dFirst a b + 1).toNat
def difV (a b : List Nd) : AV :=
 if tE a ≠ 0 then .tup [.int 0, .int (tE a)] else if tE b ≠ 0 then .tup [.int 0, .int (tE b)]
 else if 20000 < dLast a b - dFirst a b then .tup [.int 0, .int 2]
 else match difS a b with
  | some s => .tup [.int s, .int 0]
  | none => .tup [.int 0, .int 8]
end Go.Proofs.YtcifjnhpgblnkaaGreatDoor
namespace Go.Proofs.YtcifjnhpgblnkaaGreatDoor
open Go.RowKit
set_option linter.unusedVariables false
set_option linter.unusedSimpArgs false
set_option maxRecDepth 100000
def outC : List Nd := [⟨0, 0, 0, 9000, 100, 50⟩, ⟨10, 1000, 0, 9500, 100, 50⟩, ⟨100, 10000, 0, 9500, 100, 50⟩]
end Go.Proofs.YtcifjnhpgblnkaaGreatDoor
namespace Go.Proofs.YtcifjnhpgblnkaaGreatDoor
open Go.RowKit
set_option linter.unusedVariables false
set_option linter.unusedSimpArgs false
set_option maxRecDepth 100000
def encTk (a0 a1 : AV) (v : Int) (a3 a4 : AV) (l : List Nd) (now : Nd) (k : Kd) (fx fy : Int) (w : AV) : List AV :=
 [a0, a1, .int v, a3, a4, tube l, .int now.t, .int now.x, .int now.y, .int now.h, .int now.r, .int now.b, .string k.nm, .int k.wk, .int k.cl, .int k.up, .int k.dn, .int k.sl, .int k.fa, .int fx, .int fy, w]
def spV (now z : Nd) : Int := disA now.p z.p / (z.t - now.t)
theorem spV_bd {now z : Nd} (h : now.t < z.t) : 0 ≤ spV now z ∧ spV now z ≤ 3037000499 := by
 have hb := rootI_bd (sqrP now.p z.p)
 have hA : disA now.p z.p = rootI (sqrP now.p z.p) := rfl
 unfold spV
 rw [hA]
 exact ⟨Int.ediv_nonneg hb.1 (by omega), Int.le_trans (Int.ediv_le_self _ hb.1) hb.2⟩
theorem speed_fn (a0 a1 : AV) (v : Int) (a3 a4 : AV) (l : List Nd) (now z : Nd) (k : Kd) (fx fy : Int) (w : AV) (hz : l[0]? = some z) (ht : now.t < z.t) (h0 : 0 ≤ now.t) (h1 : z.t ≤ 200000) :
  Fn Tryz.prog 200 [.agg (encTk a0 a1 v a3 a4 l now k fx fy w)] .sc (.int (spV now z)) := by
 have e := EffT.speed_form (.agg (encTk a0 a1 v a3 a4 l now k fx fy w)) (.int (spV now z))
 have kk := fun h => fn_run mixed 3 (Γ := EffT.Γ) (ann := EffT.ann) Tryz.func200 rfl Tryz.call200 (e.mpr h)
 refine kk ?_
 clear kk e
 have hl : 0 < l.length := by
  rcases Nat.eq_zero_or_pos l.length with q | q
  ·rw [List.length_eq_zero_iff] at q; subst q; cases hz
  ·exact q
 have hb := rootI_bd (sqrP now.p z.p)
 have hA : disA now.p z.p = rootI (sqrP now.p z.p) := rfl
 have hd := dist_fn now.p z.p
 have hS : spV now z = disA now.p z.p / (z.t - now.t) := rfl
 have hz0 : l[((0 : Nat) : Int).toNat]? = some z := hz
 have a1' : AV.at (tube l) (AV.int 0) 0 = .int z.t := by rw [lst_atI (by decide) hz]; rfl
 have a2' : AV.atAgg (tube l) (AV.int 0) 1 2 = pt z.p := by rw [lst_atAggI (by decide) hz]; rfl
 rw [hS]
 rw [← hA] at hb
 generalize disA now.p z.p = D at *
 generalize disB now.p z.p = D2 at *
 have w1 : wr (z.t - now.t) = z.t - now.t := wr_id (by omega) (by omega)
 have e3 : D.tdiv (z.t - now.t) = D / (z.t - now.t) := Int.tdiv_eq_ediv_of_nonneg hb.1
 have e4 : 0 ≤ D / (z.t - now.t) ∧ D / (z.t - now.t) ≤ 3037000499 := ⟨Int.ediv_nonneg hb.1 (by omega), Int.le_trans (Int.ediv_le_self _ hb.1) hb.2⟩
 have w2 : wr (D / (z.t - now.t)) = D / (z.t - now.t) := wr_id (by omega) (by omega)
 have hne : ¬ z.t - now.t = 0 := by omega
 refine ⟨by simp [encTk], by simp [encTk], by simp [encTk]; omega, _, by rw [← a2'] at hd; exact hd, ?_⟩
 simp [encTk, a1', w1, e3, w2, hne]
 omega
theorem nearV_bd {n : Int} (h1 : -1000000000000 ≤ n) (h2 : n ≤ 1000000000000) : -1000000000 ≤ nearV n ∧ nearV n ≤ 1000000000 := by
 unfold nearV
 split
 ·rw [Int.tdiv_eq_ediv_of_nonneg (by omega)]; omega
 ·rw [Int.tdiv_eq_ediv_of_nonneg (by omega)]; omega
theorem vecV_bd {h l : Int} (he : vecE l = 0) : (-1000000000 ≤ (vecV h l).1 ∧ (vecV h l).1 ≤ 1000000000) ∧ -1000000000 ≤ (vecV h l).2 ∧ (vecV h l).2 ≤ 1000000000 := by
 have hl : ¬ (l < 0 ∨ l > 2000000) := fun q => by unfold vecE at he; rw [if_pos q] at he; cases he
 obtain ⟨_, s1, s2⟩ := sin_ok h
 obtain ⟨_, s3, s4⟩ := sin_ok (h % 4096 + 1024)
 have b1 : ∀ s : Int, -16384 ≤ s → s ≤ 16384 → -1000000000000 ≤ l * s ∧ l * s ≤ 1000000000000 := fun s a b => by
  have p1 : l * s ≤ l * 16384 := Int.mul_le_mul_of_nonneg_left b (by omega)
  have p2 : l * (-16384) ≤ l * s := Int.mul_le_mul_of_nonneg_left a (by omega)
  omega
 exact ⟨nearV_bd (b1 _ s1 s2).1 (b1 _ s1 s2).2, nearV_bd (b1 _ s3 s4).1 (b1 _ s3 s4).2⟩
def hdP (now : Nd) (sp v : Int) (x : Nd) : Pt := ⟨now.x + (vecV v (sp * (x.t - now.t))).1, now.y + (vecV v (sp * (x.t - now.t))).2⟩
def hdE (now : Nd) (sp v : Int) (x : Nd) : Int := if vecE (sp * (x.t - now.t)) ≠ 0 then vecE (sp * (x.t - now.t)) else pE (hdP now sp v x)
def hdN (now : Nd) (sp v : Int) (x : Nd) : Nd := ⟨x.t, (hdP now sp v x).x, (hdP now sp v x).y, x.h, x.r, x.b⟩
def fstE (f : Nd → Int) : List Nd → Int
 | [] => 0
 | x :: r => if f x ≠ 0 then f x else fstE f r
def hdV (now : Nd) (sp v : Int) (l : List Nd) : AV := if fstE (hdE now sp v) l ≠ 0 then .tup [.sl 6 [], .int (fstE (hdE now sp v) l)] else .tup [tube (l.map (hdN now sp v)), .int 0]
theorem heading_fn (a0 a1 : AV) (v : Int) (a3 a4 : AV) (l : List Nd) (now z : Nd) (k : Kd) (fx fy : Int) (w : AV) (hz : l[0]? = some z) (hl : l.length ≤ 1000) (h0 : 0 ≤ now.t) (hlo : ∀ x ∈ l, now.t < x.t ∧ x.t ≤ 200000)
  (hx : -1000000000 ≤ now.x ∧ now.x ≤ 1000000000) (hy : -1000000000 ≤ now.y ∧ now.y ≤ 1000000000) (hv1 : -9223372036854775808 ≤ v) (hv2 : v ≤ 9223372036854775807) :
  Fn Tryz.prog 132 [.agg (encTk a0 a1 v a3 a4 l now k fx fy w)] (.tup [.row 54 6 true, .sc]) (hdV now (spV now z) v l) := by
 have e := EffT.heading_form (.agg (encTk a0 a1 v a3 a4 l now k fx fy w)) (hdV now (spV now z) v l)
 have kk := fun h => fn_run mixed 3 (Γ := EffT.Γ) (ann := EffT.ann) Tryz.func132 rfl Tryz.call132 (e.mpr h)
 refine kk ?_
 clear kk e
 have hzm := hlo z (List.mem_of_getElem? hz)
 have hsp := speed_fn a0 a1 v a3 a4 l now z k fx fy w hz hzm.1 h0 hzm.2
 have hsb := spV_bd hzm.1
 generalize spV now z = sp at *
 refine ⟨by simp [encTk], _, tclone_fn l (by omega), ?_⟩
 refine loop_list (σ := List Nd) l (fun i s => [.int (i : Nat), tube s]) (fun i rest s => s = (l.take i).map (hdN now sp v) ++ rest ∧ fstE (hdE now sp v) l = fstE (hdE now sp v) rest) l rfl ⟨by simp, rfl⟩ ?_ ?_
 ·rintro i x rest s K hx' hrest hi ⟨hG, hF⟩ hK
  have hs : s[i]? = some x := by
   rw [hG, List.getElem?_append_right (by simp; omega)]
   simp [show min i l.length = i by omega]
  have hsl : s.length = l.length := by
   have : (x :: rest).length = l.length - i := by
    rw [← hrest]; simp; omega
   rw [hG, List.length_append, this]; simp; omega
  have hset : s.set i (hdN now sp v x) = (l.take (i + 1)).map (hdN now sp v) ++ rest := by
   rw [hG, List.set_append_right _ _ (by simp; omega)]
   simp only [List.length_map, List.length_take, show min i l.length = i by omega, Nat.sub_self, List.set_cons_zero]
   have e : l.take (i + 1) = l.take i ++ [x] := by
    rw [List.take_add_one, hx']; rfl
   rw [e]; simp
  obtain ⟨q1, q2⟩ := hlo x (List.mem_of_getElem? hx')
  have hset' : (s.set i (hdN now sp v x))[i]? = some (hdN now sp v x) := by rw [List.getElem?_set_self (by omega)]
  have w2 : wr ((i : Int) + 1) = (i : Int) + 1 := wr_id (by omega) (by omega)
  have w3 : wr (x.t - now.t) = x.t - now.t := wr_id (by omega) (by omega)
  have hm : 0 ≤ sp * (x.t - now.t) ∧ sp * (x.t - now.t) ≤ 3037000499 * 200000 := ⟨Int.mul_nonneg hsb.1 (by omega), Int.mul_le_mul hsb.2 (by omega) (by omega) (by omega)⟩
  have w4 : wr (sp * (x.t - now.t)) = sp * (x.t - now.t) := wr_id (by omega) (by omega)
  have hvf := vec_fn v (sp * (x.t - now.t)) hv1 hv2
  have hks : (i : Int) < s.length := by omega
  have hkl : (i : Int) < l.length := by omega
  have hat : AV.at (tube s) (.int (i : Nat)) 0 = .int x.t := by rw [lst_at hs]; rfl
  have hE : hdE now sp v x = if vecE (sp * (x.t - now.t)) ≠ 0 then vecE (sp * (x.t - now.t)) else pE (hdP now sp v x) := rfl
  have hP : hdP now sp v x = ⟨now.x + (vecV v (sp * (x.t - now.t))).1, now.y + (vecV v (sp * (x.t - now.t))).2⟩ := rfl
  have hFe : fstE (hdE now sp v) (x :: rest) = if hdE now sp v x ≠ 0 then hdE now sp v x else fstE (hdE now sp v) rest := rfl
  rw [hFe] at hF
  have hVb := @vecV_bd v (sp * (x.t - now.t))
  generalize hM : sp * (x.t - now.t) = M at *
  generalize hVV : vecV v M = V at *
  refine ⟨by simp, by simp, fun _ => ⟨_, hsp, by simp; omega, by simp; omega, by simp [hat, encTk], by simp [hat, encTk], .tup [.agg [.int (if vecE M = 0 then V.1 else 0), .int (if vecE M = 0 then V.2 else 0)], .int (vecE M)], ?_, by simp, by simp, fun q => ?_, fun q => ?_⟩, fun q => absurd q (by simp; omega)⟩
  ·have : AV.bin .mul (.int sp) (AV.bin .sub (AV.at (tube s) (.int (i : Nat)) 0) (.int now.t)) = .int M := by
    rw [hat]; simp [w3, hM, w4]
   have h2 := hvf
   rw [← this] at h2
   exact h2
  ·have hne : vecE M ≠ 0 := by simpa using q
   rw [if_pos hne] at hE
   rw [hE, if_pos hne] at hF
   have hVd : hdV now sp v l = .tup [.sl 6 [], .int (vecE M)] := by unfold hdV; rw [hF, if_pos hne]
   rw [hVd]
   simp
  ·have h00 : vecE M = 0 := by simpa using q
   obtain ⟨⟨b1, b2⟩, b3, b4⟩ := hVb h00
   rw [if_neg (by simp [h00])] at hE
   have w5 : wr (now.x + V.1) = now.x + V.1 := wr_id (by omega) (by omega)
   have w6 : wr (now.y + V.2) = now.y + V.2 := wr_id (by omega) (by omega)
   have hse : AV.setEl (tube s) (.int (i : Nat)) 1 [.int (now.x + V.1), .int (now.y + V.2)] = tube (s.set i (hdN now sp v x)) := lst_setEl hs (by simp [encN, hdN, hP])
   have hag : AV.atAgg (tube (s.set i (hdN now sp v x))) (.int (i : Nat)) 1 2 = pt (hdP now sp v x) := by rw [lst_atAgg hset']; rfl
   have q5 : AV.bin .add (.int now.x) (.int (if vecE M = 0 then V.1 else 0)) = .int (now.x + V.1) := by rw [if_pos h00]; simp [w5]
   have q6 : AV.bin .add (.int now.y) (.int (if vecE M = 0 then V.2 else 0)) = .int (now.y + V.2) := by rw [if_pos h00]; simp [w6]
   refine ⟨Tryz.call109, fun _ => ⟨by simp [encTk], by simp [encTk], by simp [encTk], by simp [encTk], by simp; omega, by simp; omega, ?_⟩⟩
   have hpc := pe_fn (hdP now sp v x)
   have hsl2 : (i : Int) < (s.set i (hdN now sp v x)).length := by simp; omega
   simp [encTk, h00, w5, w6, hse, hag]
   refine ⟨by omega, _, hpc, by simp, by simp, fun q7 => ?_, fun q7 => ?_⟩
   ·have hne : pE (hdP now sp v x) ≠ 0 := by simpa using q7
    rw [hE, if_pos hne] at hF
    have hVd : hdV now sp v l = .tup [.sl 6 [], .int (pE (hdP now sp v x))] := by unfold hdV; rw [hF, if_pos hne]
    rw [hVd]
    simp
   ·have h01 : pE (hdP now sp v x) = 0 := by simpa using q7
    rw [hE, h01] at hF
    simp only [ne_eq, not_true_eq_false, if_false] at hF
    exact hK _ (s.set i (hdN now sp v x)) (by simp [w2]) ⟨hset, hF⟩
 ·rintro s K ⟨hG, hF⟩
  have hf : fstE (hdE now sp v) l = 0 := hF
  have hVd : hdV now sp v l = .tup [tube (l.map (hdN now sp v)), .int 0] := by unfold hdV; rw [hf]; simp
  have hs : s = l.map (hdN now sp v) := by rw [hG]; simp
  subst hs
  rw [hVd]
  refine ⟨by simp, by simp, fun q => absurd q (by simp), fun _ => ⟨flat_tube _, by simp, rfl⟩⟩
end Go.Proofs.YtcifjnhpgblnkaaGreatDoor
namespace Go.Proofs.YtcifjnhpgblnkaaGreatDoor
open Go.RowKit
set_option linter.unusedVariables false
set_option linter.unusedSimpArgs false
set_option maxRecDepth 100000
theorem disB_bd (a b : Pt) : 0 ≤ disB a b ∧ disB a b ≤ 3037000500 := by
 have hb := rootI_bd (sqrP a b)
 have hA : disA a b = rootI (sqrP a b) := rfl
 unfold disB
 rw [hA]
 split <;> omega
def diN (now : Nd) (fix : Pt) (sp : Int) : Nd := ⟨now.t + dvu (disB now.p fix) sp, fix.x, fix.y, now.h, now.r, now.b⟩
def diV (now : Nd) (fix : Pt) (sp : Int) : AV :=
 if sp = 0 then .tup [.sl 6 [], .int 10]
 else if disB now.p fix = 0 then .tup [.sl 6 [], .int 0]
 else if 200000 < (diN now fix sp).t then .tup [.sl 6 [], .int 12]
 else .tup [tube [diN now fix sp], .int 0]
theorem direct_fn (a0 a1 : AV) (v : Int) (a3 a4 : AV) (l : List Nd) (now z : Nd) (k : Kd) (fix : Pt) (w : AV) (hz : l[0]? = some z) (h0 : 0 ≤ now.t) (hzm : now.t < z.t ∧ z.t ≤ 200000) :
  Fn Tryz.prog 134 [.agg (encTk a0 a1 v a3 a4 l now k fix.x fix.y w)] (.tup [.row 54 6 true, .sc]) (diV now fix (spV now z)) := by
 have e := EffT.direct_form (.agg (encTk a0 a1 v a3 a4 l now k fix.x fix.y w)) (diV now fix (spV now z))
 have kk := fun h => fn_run mixed 3 (Γ := EffT.Γ) (ann := EffT.ann) Tryz.func134 rfl Tryz.call134 (e.mpr h)
 refine kk ?_
 clear kk e
 have hsp := speed_fn a0 a1 v a3 a4 l now z k fix.x fix.y w hz hzm.1 h0 hzm.2
 have hsb := spV_bd hzm.1
 generalize spV now z = sp at *
 have hd := dist_fn now.p fix
 have hdb := disB_bd now.p fix
 have hV : diV now fix sp = if sp = 0 then .tup [.sl 6 [], .int 10] else if disB now.p fix = 0 then .tup [.sl 6 [], .int 0] else if 200000 < (diN now fix sp).t then .tup [.sl 6 [], .int 12] else .tup [tube [diN now fix sp], .int 0] := rfl
 have hN : diN now fix sp = ⟨now.t + dvu (disB now.p fix) sp, fix.x, fix.y, now.h, now.r, now.b⟩ := rfl
 rw [hV, hN]
 generalize disB now.p fix = D at *
 generalize disA now.p fix = D2 at *
 refine ⟨by simp [encTk], _, hsp, by simp, by simp, fun q => ?_, fun q => ?_⟩
 ·have h1 : sp = 0 := by simpa using q
  rw [if_pos h1]
  simp
 ·have h1 : ¬ sp = 0 := by simpa using q
  rw [if_neg h1]
  refine ⟨_, hd, by simp, by simp, fun q2 => ?_, fun q2 => ?_⟩
  ·have h2 : D = 0 := by simpa using q2
   rw [if_pos h2]
   simp
  ·have h2 : ¬ D = 0 := by simpa using q2
   rw [if_neg h2]
   have hu := divu_fn D sp (by omega) (by omega) (by omega)
   have hub := dvu_bd (a := D) (b := sp) (by omega) (by omega) (by omega)
   generalize dvu D sp = s at *
   have w1 : wr (now.t + s) = now.t + s := wr_id (by omega) (by omega)
   refine ⟨_, hu, by simp [encTk], by simp [encTk], by simp [encTk], by simp [encTk], fun q3 => ?_, fun q3 => ?_⟩
   ·have h3 : 200000 < now.t + s := by simpa [encTk, w1] using q3
    rw [if_pos h3]
    simp
   ·have h3 : ¬ 200000 < now.t + s := by
     have : now.t + s ≤ 200000 := by simpa [encTk, w1] using q3
     omega
    rw [if_neg h3]
    simp [encTk, w1, lst, encN]
def swT (v : Int) (last x : Nd) : Int := last.t + (if dvu (disB last.p x.p) v > 1 then dvu (disB last.p x.p) v else 1)
def swN (v : Int) (last x : Nd) : Nd := ⟨swT v last x, x.x, x.y, x.h, x.r, x.b⟩
def swL (v : Int) : Nd → List Nd → List Nd
 | _, [] => []
 | last, x :: r => swN v last x :: swL v (swN v last x) r
def swE (v : Int) : Nd → List Nd → Int
 | _, [] => 0
 | last, x :: r => if swT v last x > 200000 then 12 else swE v (swN v last x) r
def swV (v : Int) (now : Nd) (k : Kd) (l : List Nd) : AV :=
 if v < k.sl ∨ v > k.fa then .tup [.sl 6 [], .int 4]
 else if swE v now l ≠ 0 then .tup [.sl 6 [], .int (swE v now l)] else .tup [tube (swL v now l), .int 0]
theorem slower_fn (a0 a1 : AV) (v : Int) (a3 a4 : AV) (l : List Nd) (now : Nd) (k : Kd) (fx fy : Int) (w : AV) (hl : l.length ≤ 1000) (h0 : 0 ≤ now.t) (h1 : now.t ≤ 200000) (hk : 1 ≤ k.sl) :
  Fn Tryz.prog 133 [.agg (encTk a0 a1 v a3 a4 l now k fx fy w)] (.tup [.row 54 6 true, .sc]) (swV v now k l) := by
 have e := EffT.slower_form (.agg (encTk a0 a1 v a3 a4 l now k fx fy w)) (swV v now k l)
 have kk := fun h => fn_run mixed 3 (Γ := EffT.Γ) (ann := EffT.ann) Tryz.func133 rfl Tryz.call133 (e.mpr h)
 refine kk ?_
 clear kk e
 have hV : swV v now k l = if v < k.sl ∨ v > k.fa then .tup [.sl 6 [], .int 4] else if swE v now l ≠ 0 then .tup [.sl 6 [], .int (swE v now l)] else .tup [tube (swL v now l), .int 0] := rfl
 refine ⟨by simp [encTk], by simp [encTk], by simp [encTk], fun q => ?_, fun q => ?_⟩
 ·have h2 : v < k.sl := by simpa [encTk] using q
  rw [if_pos (.inl h2)] at hV
  rw [hV]
  simp [encTk, h2]
 ·have h2 : ¬ v < k.sl := by simpa [encTk] using q
  refine ⟨by simp [encTk], by simp [encTk], by simpa [encTk] using h2, by simp [encTk], fun q => ?_, fun q => ?_⟩
  ·have h3 : v > k.fa := by simpa [encTk] using q
   rw [if_pos (.inr h3)] at hV
   rw [hV]
   simp
  ·have h3 : ¬ v > k.fa := by simpa [encTk] using q
   rw [if_neg (by omega)] at hV
   generalize swV v now k l = R at *
   refine ⟨_, tclone_fn l (by omega), ?_⟩
   refine loop_list (σ := List Nd × Nd) l (fun i s => [.int (i : Nat), tube s.1, .int s.2.t, .int s.2.x, .int s.2.y, .int s.2.h, .int s.2.r, .int s.2.b])
    (fun i rest s => ∃ pre, s.1 = pre ++ rest ∧ pre.length = i ∧ swL v now l = pre ++ swL v s.2 rest ∧ swE v now l = swE v s.2 rest ∧ 0 ≤ s.2.t ∧ s.2.t ≤ 200000) (l, now) rfl ⟨[], rfl, rfl, rfl, rfl, h0, h1⟩ ?_ ?_
   ·rintro i x rest ⟨s, last⟩ K hx hrest hi ⟨pre, hs, hp, hL, hE, b0, b1⟩ hK
    simp only at hs hL hE b0 b1
    have hsx : s[i]? = some x := by rw [hs, ← hp]; simp
    have hset : s.set i (swN v last x) = (pre ++ [swN v last x]) ++ rest := by rw [hs, ← hp]; simp
    have hset' : (s.set i (swN v last x))[i]? = some (swN v last x) := by rw [List.getElem?_set_self]; rw [hs]; simp; omega
    have hsl : (i : Int) < s.length := by rw [hs]; simp; omega
    have hil : (i : Int) < l.length := by omega
    have hL1 : swL v last (x :: rest) = swN v last x :: swL v (swN v last x) rest := rfl
    have hE1 : swE v last (x :: rest) = if swT v last x > 200000 then 12 else swE v (swN v last x) rest := rfl
    rw [hL1] at hL
    rw [hE1] at hE
    have hd := dist_fn last.p x.p
    have hdb := disB_bd last.p x.p
    have hT : swT v last x = last.t + (if dvu (disB last.p x.p) v > 1 then dvu (disB last.p x.p) v else 1) := rfl
    have hu := divu_fn (disB last.p x.p) v (by omega) (by omega) (by omega)
    have hub := dvu_bd (a := disB last.p x.p) (b := v) (by omega) (by omega) (by omega)
    have hat : AV.atAgg (tube s) (.int (i : Nat)) 1 2 = pt x.p := by rw [lst_atAgg hsx]; rfl
    have hN : swN v last x = ⟨swT v last x, x.x, x.y, x.h, x.r, x.b⟩ := rfl
    have hse : AV.setEl (tube s) (.int (i : Nat)) 0 [.int (swT v last x)] = tube (s.set i (swN v last x)) := lst_setEl hsx (by simp [encN, hN])
    have ha2 : AV.at (tube (s.set i (swN v last x))) (.int (i : Nat)) 0 = .int (swT v last x) := by rw [lst_at hset']; rfl
    have ha3 : AV.atAgg (tube (s.set i (swN v last x))) (.int (i : Nat)) 0 6 = nd (swN v last x) := by rw [lst_atAgg hset']; rfl
    have hNt : (swN v last x).t = swT v last x := rfl
    have w2 : wr ((i : Int) + 1) = (i : Int) + 1 := wr_id (by omega) (by omega)
    have hK2 := hK [.int ((i : Int) + 1), tube (s.set i (swN v last x)), .int (swN v last x).t, .int (swN v last x).x, .int (swN v last x).y, .int (swN v last x).h, .int (swN v last x).r, .int (swN v last x).b] (s.set i (swN v last x), swN v last x)
    clear hK
    generalize disB last.p x.p = D at *
    generalize disA last.p x.p = D2 at *
    generalize dvu D v = u at *
    have hmx : last.t + (if u > 1 then u else 1) = swT v last x := hT.symm
    have hTb : swT v last x ≤ 2000000000000 ∧ last.t + 1 ≤ swT v last x := by rw [hT]; split <;> omega
    have hadd : AV.bin .add (.int last.t) (AV.mx (AV.int 1) (.int u)) = .int (swT v last x) := by
     rw [av_mx, av_add, hmx, wrap64 (by omega) (by omega)]
    refine ⟨by simp, by simp, fun _ => ⟨by simp; omega, by simp; omega, .tup [.int D2, .int D], by rw [← hat] at hd; exact hd, .tup [.int u, .int 0], hu, by simp, by simp, by simp, by simp; omega, by simp, by simp; omega, ?_⟩, fun q => absurd q (by simp; omega)⟩
    simp only [List.getD_cons_succ, List.getD_cons_zero, av_prj]
    rw [hadd, hse, ha2, ha3]
    refine ⟨by simp; omega, by simp; omega, by simp, by simp, fun q => ?_, fun q => ?_⟩
    ·have h4 : swT v last x > 200000 := by simpa using q
     rw [if_pos h4] at hE
     rw [hE, if_pos (by decide)] at hV
     rw [hV]
     simp
    ·have h4 : ¬ swT v last x > 200000 := by
      have : swT v last x ≤ 200000 := by simpa using q
      omega
     rw [if_neg h4] at hE
     refine ⟨by simp; omega, by simp; omega, by simp [encN], by simp, ?_⟩
     have := hK2 (by simp) ⟨pre ++ [swN v last x], hset, by simp [hp], by rw [hL]; simp, hE, by rw [hNt]; omega, by rw [hNt]; omega⟩
     simpa [encN, w2] using this
   ·rintro ⟨s, last⟩ K ⟨pre, hs, hp, hL, hE, b0, b1⟩
    simp only at hs hL hE
    have e1 : swL v last [] = [] := rfl
    have e2 : swE v last [] = 0 := rfl
    rw [e1, List.append_nil] at hL
    rw [e2] at hE
    rw [List.append_nil] at hs
    subst hs
    rw [hE, if_neg (by decide), hL] at hV
    rw [hV]
    refine ⟨by simp, by simp, fun q => absurd q (by simp), fun _ => ⟨flat_tube _, by simp, rfl⟩⟩
end Go.Proofs.YtcifjnhpgblnkaaGreatDoor
namespace Go.Proofs.YtcifjnhpgblnkaaGreatDoor
open Go.RowKit
set_option linter.unusedVariables false
set_option linter.unusedSimpArgs false
set_option maxRecDepth 100000
section
variable (a0 : AV) (ck v : Int) (a3 a4 : AV) (l : List Nd) (now : Nd) (k : Kd) (fx fy : Int) (w : AV)
theorem carried_same (h0 : ck ≠ 0) (h : l = [] ∨ ck ≠ 1 ∧ ck ≠ 2 ∧ ck ≠ 3) : Fn Tryz.prog 69 [.agg (encTk a0 (.int ck) v a3 a4 l now k fx fy w)] (.tup [.row 54 6 true, .sc, .sc]) (.tup [.sl 6 [], .bool true, .int 0]) := by
 have q := EffF.carried_form (.agg (encTk a0 (.int ck) v a3 a4 l now k fx fy w)) (.tup [.sl 6 [], .bool true, .int 0])
 have kk := fun h => fn_run mixed 3 (Γ := EffF.Γ) (ann := EffF.ann) Tryz.func69 rfl Tryz.call69 (q.mpr h)
 refine kk ?_
 clear kk q
 rcases h with rfl | ⟨h1, h2, h3⟩
 ·simp [encTk, h0, lst]
 ·simp [encTk, h0, h1, h2, h3]
theorem carried_new (o : List Nd) (e : Int) (hl : l ≠ [])
    (h : (ck = 1 ∧ Fn Tryz.prog 132 [.agg (encTk a0 (.int ck) v a3 a4 l now k fx fy w)] (.tup [.row 54 6 true, .sc]) (.tup [tube o, .int e])) ∨
      (ck = 2 ∧ Fn Tryz.prog 133 [.agg (encTk a0 (.int ck) v a3 a4 l now k fx fy w)] (.tup [.row 54 6 true, .sc]) (.tup [tube o, .int e])) ∨
      (ck = 3 ∧ Fn Tryz.prog 134 [.agg (encTk a0 (.int ck) v a3 a4 l now k fx fy w)] (.tup [.row 54 6 true, .sc]) (.tup [tube o, .int e]))) :
    Fn Tryz.prog 69 [.agg (encTk a0 (.int ck) v a3 a4 l now k fx fy w)] (.tup [.row 54 6 true, .sc, .sc]) (.tup [tube o, .bool false, .int e]) := by
  have q := EffF.carried_form (.agg (encTk a0 (.int ck) v a3 a4 l now k fx fy w)) (.tup [tube o, .bool false, .int e])
  have kk := fun h => fn_run mixed 3 (Γ := EffF.Γ) (ann := EffF.ann) Tryz.func69 rfl Tryz.call69 (q.mpr h)
  refine kk ?_
  clear kk q
  have hf := flat_tube o
  have hne : ¬ (l.length = 0) := by simpa using hl
  have p1 : AV.bin .eql (AV.len (tube l)) (AV.int 0) = .bool false := by simp [hl]
  have pL : ∀ F : Prop, F → ((AV.isSl (tube l) 6) ∧ (AV.binOk .eql (AV.len (tube l)) (AV.int 0)) ∧ (AV.isBool (AV.bin .eql (AV.len (tube l)) (AV.int 0))) ∧ ((isT (AV.bin .eql (AV.len (tube l)) (AV.int 0))) → (AV.flatS (AV.mk 6 [])) ∧ (AV.flat (AV.bool true)) ∧ (AV.flat (AV.int 0)) ∧ fSame (AV.tup [(AV.mk 6 []), (AV.bool true), (AV.int 0)]) (.tup [tube o, .bool false, .int e])) ∧ ((isF (AV.bin .eql (AV.len (tube l)) (AV.int 0))) → F)) := fun F hF =>
    ⟨by simp, by simp, by simp, fun q => absurd q (by rw [p1]; simp), fun _ => hF⟩
  rcases h with ⟨rfl, hh⟩ | ⟨rfl, hh⟩ | ⟨rfl, hh⟩
  · refine ⟨by simp [encTk], by simp [encTk], by simp [encTk], fun q => absurd q (by simp [encTk]), fun _ => pL _ ⟨by simp [encTk], by simp [encTk], fun _ => ⟨_, hh, hf, .lit _, .lit _, rfl⟩, fun q => absurd q (by simp [encTk])⟩⟩
  · refine ⟨by simp [encTk], by simp [encTk], by simp [encTk], fun q => absurd q (by simp [encTk]), fun _ => pL _ ⟨by simp [encTk], by simp [encTk], fun q => absurd q (by simp [encTk]), fun _ => ⟨by simp [encTk], by simp [encTk], fun _ => ⟨_, hh, hf, .lit _, .lit _, rfl⟩, fun q => absurd q (by simp [encTk])⟩⟩⟩
  · refine ⟨by simp [encTk], by simp [encTk], by simp [encTk], fun q => absurd q (by simp [encTk]), fun _ => pL _ ⟨by simp [encTk], by simp [encTk], fun q => absurd q (by simp [encTk]), fun _ => ⟨by simp [encTk], by simp [encTk], fun q => absurd q (by simp [encTk]), fun _ => ⟨by simp [encTk], by simp [encTk], fun _ => ⟨_, hh, hf, .lit _, .lit _, rfl⟩, fun q => absurd q (by simp [encTk])⟩⟩⟩⟩
end
def trO (c : Cl) (now z : Nd) (l : List Nd) (k : Kd) (fix : Pt) : List Nd × Int :=
 if c.k = 1 then (if fstE (hdE now (spV now z) c.v) l ≠ 0 then ([], fstE (hdE now (spV now z) c.v) l) else (l.map (hdN now (spV now z) c.v), 0))
 else if c.k = 2 then (if c.v < k.sl ∨ c.v > k.fa then ([], 4) else if swE c.v now l ≠ 0 then ([], swE c.v now l) else (swL c.v now l, 0))
 else if spV now z = 0 then ([], 10) else if disB now.p fix = 0 then ([], 0) else if 200000 < (diN now fix (spV now z)).t then ([], 12) else ([diN now fix (spV now z)], 0)
end Go.Proofs.YtcifjnhpgblnkaaGreatDoor
namespace Go.Proofs.YtcifjnhpgblnkaaGreatDoor
open Go.RowKit
set_option linter.unusedVariables false
set_option linter.unusedSimpArgs false
set_option maxRecDepth 100000
def ofT (l : List Nd) (c : Cl) (a : Int) (k : Kd) (fix : Pt) : AV :=
 if ofE l c a k fix ≠ 0 then .tup [.sl 6 [], .int (ofE l c a k fix)]
 else if latT a l = [] ∨ (c.k ≠ 1 ∧ c.k ≠ 2 ∧ c.k ≠ 3) then .tup [tube l, .int 0]
 else if (trO c (atN l a) ((latT a l).getD 0 default) (latT a l) k fix).2 ≠ 0 then .tup [.sl 6 [], .int (trO c (atN l a) ((latT a l).getD 0 default) (latT a l) k fix).2]
 else if 64 < (befT a l ++ atN l a :: (trO c (atN l a) ((latT a l).getD 0 default) (latT a l) k fix).1).length then .tup [.sl 6 [], .int 2] else .tup [tube (befT a l ++ atN l a :: (trO c (atN l a) ((latT a l).getD 0 default) (latT a l) k fix).1), .int 0]
theorem swL_len (v : Int) : ∀ (last : Nd) (l : List Nd), (swL v last l).length = l.length
 | _, [] => rfl
 | last, x :: r => by rw [swL, List.length_cons, List.length_cons, swL_len]
theorem trO_len (c : Cl) (now z : Nd) (l : List Nd) (k : Kd) (fix : Pt) : (trO c now z l k fix).1.length ≤ l.length + 1 := by
 unfold trO
 repeat' split
 all_goals simp [swL_len]
theorem trO_fn {cc cf : ByteArray} {ck cv : Int} {A z : Nd} {l : List Nd} {k : Kd} {fix : Pt} {x : AV} (hkk : ck = 1 ∨ ck = 2 ∨ ck = 3)
  (hh : Fn Tryz.prog 132 [x] (.tup [.row 54 6 true, .sc]) (hdV A (spV A z) cv l))
  (hs : Fn Tryz.prog 133 [x] (.tup [.row 54 6 true, .sc]) (swV cv A k l))
  (hd : Fn Tryz.prog 134 [x] (.tup [.row 54 6 true, .sc]) (diV A fix (spV A z))) :
  (ck = 1 ∧ Fn Tryz.prog 132 [x] (.tup [.row 54 6 true, .sc]) (.tup [tube (trO ⟨cc, ck, cv, cf⟩ A z l k fix).1, .int (trO ⟨cc, ck, cv, cf⟩ A z l k fix).2])) ∨
  (ck = 2 ∧ Fn Tryz.prog 133 [x] (.tup [.row 54 6 true, .sc]) (.tup [tube (trO ⟨cc, ck, cv, cf⟩ A z l k fix).1, .int (trO ⟨cc, ck, cv, cf⟩ A z l k fix).2])) ∨
  (ck = 3 ∧ Fn Tryz.prog 134 [x] (.tup [.row 54 6 true, .sc]) (.tup [tube (trO ⟨cc, ck, cv, cf⟩ A z l k fix).1, .int (trO ⟨cc, ck, cv, cf⟩ A z l k fix).2])) := by
 rcases hkk with rfl | rfl | rfl
 ·refine .inl ⟨rfl, ?_⟩
  have e : hdV A (spV A z) cv l = .tup [tube (trO ⟨cc, 1, cv, cf⟩ A z l k fix).1, .int (trO ⟨cc, 1, cv, cf⟩ A z l k fix).2] := by
   have e2 : trO ⟨cc, 1, cv, cf⟩ A z l k fix = if fstE (hdE A (spV A z) cv) l ≠ 0 then ([], fstE (hdE A (spV A z) cv) l) else (l.map (hdN A (spV A z) cv), 0) := rfl
   rw [e2]
   unfold hdV
   by_cases h1 : fstE (hdE A (spV A z) cv) l ≠ 0
   ·rw [if_pos h1, if_pos h1]; rfl
   ·rw [if_neg h1, if_neg h1]
  rw [← e]; exact hh
 ·refine .inr (.inl ⟨rfl, ?_⟩)
  have e : swV cv A k l = .tup [tube (trO ⟨cc, 2, cv, cf⟩ A z l k fix).1, .int (trO ⟨cc, 2, cv, cf⟩ A z l k fix).2] := by
   have e2 : trO ⟨cc, 2, cv, cf⟩ A z l k fix = if cv < k.sl ∨ cv > k.fa then ([], 4) else if swE cv A l ≠ 0 then ([], swE cv A l) else (swL cv A l, 0) := rfl
   rw [e2]
   unfold swV
   by_cases h1 : cv < k.sl ∨ cv > k.fa
   ·rw [if_pos h1, if_pos h1]; rfl
   ·rw [if_neg h1, if_neg h1]
    by_cases h2 : swE cv A l ≠ 0
    ·rw [if_pos h2, if_pos h2]; rfl
    ·rw [if_neg h2, if_neg h2]
  rw [← e]; exact hs
 ·refine .inr (.inr ⟨rfl, ?_⟩)
  have e : diV A fix (spV A z) = .tup [tube (trO ⟨cc, 3, cv, cf⟩ A z l k fix).1, .int (trO ⟨cc, 3, cv, cf⟩ A z l k fix).2] := by
   have e2 : trO ⟨cc, 3, cv, cf⟩ A z l k fix = if spV A z = 0 then ([], 10) else if disB A.p fix = 0 then ([], 0) else if 200000 < (diN A fix (spV A z)).t then ([], 12) else ([diN A fix (spV A z)], 0) := rfl
   rw [e2]
   unfold diV
   by_cases h1 : spV A z = 0
   ·rw [if_pos h1, if_pos h1]; rfl
   ·rw [if_neg h1, if_neg h1]
    by_cases h2 : disB A.p fix = 0
    ·rw [if_pos h2, if_pos h2]; rfl
    ·rw [if_neg h2, if_neg h2]
     by_cases h3 : 200000 < (diN A fix (spV A z)).t
     ·rw [if_pos h3, if_pos h3]; rfl
     ·rw [if_neg h3, if_neg h3]
  rw [← e]; exact hd
theorem kE_sl {k : Kd} (h : kE k = 0) : 1 ≤ k.sl := by
 unfold kE at h
 split at h
 ·cases h
 ·split at h
  ·cases h
  ·split at h
   ·cases h
   ·omega
theorem atN_xy {l : List Nd} {t : Int} (hv : tE l = 0) (h0 : ∀ x, l[0]? = some x → x.t ≤ t) (h1 : ∀ x, l[l.length - 1]? = some x → t ≤ x.t) : (-1000000000 ≤ (atN l t).x ∧ (atN l t).x ≤ 1000000000) ∧ -1000000000 ≤ (atN l t).y ∧ (atN l t).y ≤ 1000000000 := by
 have h := (atN_ok hv h0 h1).1
 unfold pE at h
 split at h
 ·cases h
 ·rename_i hn
  have e1 : (atN l t).p.x = (atN l t).x := rfl
  have e2 : (atN l t).p.y = (atN l t).y := rfl
  rw [e1, e2] at hn
  omega
theorem oft_fn (l : List Nd) (c : Cl) (a : Int) (k : Kd) (fix : Pt) (hc : c.k ≠ 0) (hv1 : -9223372036854775808 ≤ c.v) (hv2 : c.v ≤ 9223372036854775807) : Fn Tryz.prog 18 [tube l, cl c, .int a, kd k, pt fix] (.tup [.row 54 6 true, .sc]) (ofT l c a k fix) := by
 have q := EffF.of_form (tube l) (cl c) (.int a) (kd k) (pt fix) (ofT l c a k fix)
 have kk := fun h => fn_run mixed 3 (Γ := EffF.Γ) (ann := EffF.ann) Tryz.func18 rfl Tryz.call18 (q.mpr h)
 refine kk ?_
 clear kk q
 refine ⟨by simp, by simp [encL], by simp [encKd], by simp [encP], ?_⟩
 obtain ⟨CL, hCL⟩ : ∃ CL : List (AV × Int), CL = [(AV.clo 62 [.ref [tube l]], tE l), (AV.clo 63 [.ref (encL c)], clE c), (AV.clo 64 [.ref (encKd k)], kE k), (AV.clo 66 [.ref (encP fix)], pE fix)] := ⟨_, rfl⟩
 have hls : AV.mk 1 [[(AV.mkClo 62 [(AV.mkRef [tube l])])], [(AV.mkClo 63 [(AV.mkRef [(AV.cel (cl c) 0), (AV.cel (cl c) 1), (AV.cel (cl c) 2), (AV.cel (cl c) 3)])])], [(AV.mkClo 64 [(AV.mkRef [(AV.cel (kd k) 0), (AV.cel (kd k) 1), (AV.cel (kd k) 2), (AV.cel (kd k) 3), (AV.cel (kd k) 4), (AV.cel (kd k) 5), (AV.cel (kd k) 6)])])], [(AV.mkClo 66 [(AV.mkRef [(AV.cel (pt fix) 0), (AV.cel (pt fix) 1)])])]] = lst 1 encC CL := by rw [hCL]; rfl
 rw [hls]
 have hfe : feE CL = if tE l ≠ 0 then tE l else if clE c ≠ 0 then clE c else if kE k ≠ 0 then kE k else pE fix := by
  rw [hCL]
  simp only [feE]
  split
  ·rfl
  ·split
   ·rfl
   ·split
    ·rfl
    ·split
     ·rfl
     ·rename_i h; simpa using (Eq.symm (by simpa using h))
 have hFC : ∀ x ∈ CL, FnC Tryz.prog x.1 [] .sc (.int x.2) := by
  intro x hx
  rw [hCL] at hx
  simp only [List.mem_cons, List.mem_nil_iff, or_false] at hx
  rcases hx with rfl | rfl | rfl | rfl
  ·exact ⟨_, _, rfl, of1_fn l⟩
  ·exact ⟨_, _, rfl, of2_fn c⟩
  ·exact ⟨_, _, rfl, of3_fn k⟩
  ·exact ⟨_, _, rfl, of4_fn fix⟩
 have hl4 : CL.length = 4 := by rw [hCL]; rfl
 have hV1 : feE CL ≠ 0 → ofT l c a k fix = .tup [.sl 6 [], .int (feE CL)] := fun h => by
  have e : ofE l c a k fix = feE CL := by
   rw [hfe] at h ⊢
   unfold ofE
   split
   ·rfl
   ·rename_i h1
    rw [if_neg h1] at h
    split
    ·rfl
    ·rename_i h2
     rw [if_neg h2] at h
     split
     ·rfl
     ·rename_i h3
      rw [if_neg h3] at h
      rw [if_pos h]
  unfold ofT
  rw [e, if_pos h]
 have hE0 : feE CL = 0 → tE l = 0 ∧ kE k = 0 ∧ ofE l c a k fix = tatE l a := fun h => by
  rw [hfe] at h
  unfold ofE
  by_cases h1 : tE l = 0
  ·by_cases h2 : clE c = 0
   ·by_cases h3 : kE k = 0
    ·simp [h1, h2, h3] at h ⊢
     simp [h]
    ·simp [h1, h2, h3] at h
   ·simp [h1, h2] at h
  ·simp [h1] at h
 clear hls hCL hfe
 refine loop_list (σ := Unit) CL (fun i _ => [.int (i : Nat)]) (fun i rest _ => feE CL = feE rest) () rfl rfl ?_ ?_
 ·rintro i x rest _ K hx hrest hi hG hK
  have hi4 : (i : Int) < 4 := by omega
  have hwi : wr ((i : Int) + 1) = (i : Int) + 1 := wr_id (by omega) (by omega)
  have hF := hFC x (List.mem_of_getElem? hx)
  refine ⟨by simp, by simp, fun _ => ⟨by simp; omega, by simp; omega, .int x.2, ?_, by simp, by simp, fun h => ?_, fun h => ⟨by simp, ?_⟩⟩, fun h => absurd h (by simp; omega)⟩
  ·rw [show AV.at (lst 1 encC CL) ([AV.int (i : Nat)].getD 0 default) 0 = x.1 from lst_at hx]
   exact hF
  ·have hx2 : x.2 ≠ 0 := by simpa using h
   rw [feE, if_pos hx2] at hG
   rw [hV1 (by rw [hG]; exact hx2), hG]
   simp
  ·have hx2 : x.2 = 0 := by simpa using h
   rw [feE, if_neg (by simp [hx2])] at hG
   exact hK _ () (by simp [hwi]) hG
 ·rintro _ K hG
  obtain ⟨hl0, hk0, hOE⟩ := hE0 hG
  clear hE0 hV1 hFC
  refine ⟨by simp, by simp [hl4], fun h => absurd h (by simp [hl4]), fun _ => ?_⟩
  obtain ⟨hp, h64, hGt⟩ := tE_ok hl0
  have hta := tat_fn l a
  by_cases hE : tatE l a = 0
  ·have htv : tatV l a = .tup [nd (atN l a), .int 0] := by unfold tatV; rw [if_pos hE]
   rw [htv] at hta
   have hOE' : ofE l c a k fix = 0 := by rw [hOE, hE]
   obtain ⟨_, hfi, hla⟩ := tatE_ok hE
   obtain ⟨cc, ck, cv, cf⟩ := c
   simp only at hc hv1 hv2
   have hV : ofT l ⟨cc, ck, cv, cf⟩ a k fix = if latT a l = [] ∨ (ck ≠ 1 ∧ ck ≠ 2 ∧ ck ≠ 3) then .tup [tube l, .int 0] else if (trO ⟨cc, ck, cv, cf⟩ (atN l a) ((latT a l).getD 0 default) (latT a l) k fix).2 ≠ 0 then .tup [.sl 6 [], .int (trO ⟨cc, ck, cv, cf⟩ (atN l a) ((latT a l).getD 0 default) (latT a l) k fix).2]
     else if 64 < (befT a l ++ atN l a :: (trO ⟨cc, ck, cv, cf⟩ (atN l a) ((latT a l).getD 0 default) (latT a l) k fix).1).length then .tup [.sl 6 [], .int 2] else .tup [tube (befT a l ++ atN l a :: (trO ⟨cc, ck, cv, cf⟩ (atN l a) ((latT a l).getD 0 default) (latT a l) k fix).1), .int 0] := by
    unfold ofT
    rw [if_neg (by rw [hOE']; simp)]
   have hok := atN_okN hl0 hfi hla
   have htt := atN_t l a
   have hAxy : (-1000000000 ≤ (atN l a).x ∧ (atN l a).x ≤ 1000000000) ∧ -1000000000 ≤ (atN l a).y ∧ (atN l a).y ≤ 1000000000 := atN_xy hl0 hfi hla
   have hks : 1 ≤ k.sl := kE_sl hk0
   generalize atN l a = A at *
   subst htt
   rw [hV]
   clear hV hOE hOE'
   refine ⟨by simp, _, hta, by simp [encN], by simp, by simp, fun h => absurd h (by simp), fun _ => ⟨by simp, by simp, by simp, by simp, by simp, by simp, by simp, by simp, by simp, by simp, ?_⟩⟩
   refine loop_list (σ := Unit) l (fun i _ => [.int (i : Nat), tube (befT A.t (l.take i)), tube (latT A.t (l.take i)), .string cc, .int ck, .int cv, .string cf, .int A.t, .int A.x, .int A.y, .int A.h, .int A.r, .int A.b, .string k.nm, .int k.wk, .int k.cl, .int k.up, .int k.dn, .int k.sl, .int k.fa, .int fix.x, .int fix.y, tube l]) (fun _ _ _ => True) () rfl trivial ?_ ?_
   ·rintro i x rest _ K hx hrest hi _ hK
    have hwi : wr ((i : Int) + 1) = (i : Int) + 1 := wr_id (by omega) (by omega)
    have hil : (i : Int) < l.length := by omega
    have e1 : l.take (i + 1) = l.take i ++ [x] := by rw [List.take_add_one, hx]; rfl
    have e2 := befT_snoc A.t (l.take i) x
    have e3 := latT_snoc A.t (l.take i) x
    rw [← e1] at e2 e3
    have b1 := befT_len A.t (l.take i)
    have b2 := latT_len A.t (l.take i)
    have b3 : (l.take i).length ≤ 1000 := by rw [List.length_take]; omega
    have r1 := nd_room (befT A.t (l.take i)) x (by omega)
    have r2 := nd_room (latT A.t (l.take i)) x (by omega)
    have a1 := nd_snoc (befT A.t (l.take i)) x
    have a2 := nd_snoc (latT A.t (l.take i)) x
    have hK' := hK [.int ((i : Int) + 1), tube (befT A.t (l.take (i + 1))), tube (latT A.t (l.take (i + 1))), .string cc, .int ck, .int cv, .string cf, .int A.t, .int A.x, .int A.y, .int A.h, .int A.r, .int A.b, .string k.nm, .int k.wk, .int k.cl, .int k.up, .int k.dn, .int k.sl, .int k.fa, .int fix.x, .int fix.y, tube l] () (by simp) trivial
    rw [e2, e3] at hK'
    clear hK e2 e3 e1 b1 b2 b3
    generalize befT A.t (l.take i) = B at *
    generalize latT A.t (l.take i) = D at *
    obtain ⟨xt, xx, xy, xh, xr, xb⟩ := x
    simp [encN] at r1 r2 a1 a2 hK'
    simp [hil, lst_atAgg hx, encN, hwi]
    refine ⟨fun g1 => ⟨r1, fun g2 => absurd g2 (by omega), fun g2 => ?_⟩, fun g1 => ⟨fun g2 => ⟨r2, ?_⟩, fun g2 => ?_⟩⟩
    ·rw [if_pos g1, if_neg (by omega)] at hK'
     rw [a1]; exact hK'
    ·rw [if_neg (by omega), if_pos g2] at hK'
     rw [a2]; exact hK'
    ·rw [if_neg (by omega), if_neg (by omega)] at hK'
     exact hK'
   ·rintro _ K _
    rw [List.take_length]
    have b1 := befT_len A.t l
    have b2 := latT_len A.t l
    have hlo : ∀ x ∈ latT A.t l, okN x ∧ A.t < x.t := fun x hx => by
     obtain ⟨h1, h2⟩ := List.mem_filter.1 hx
     obtain ⟨j, hj⟩ := List.getElem?_of_mem h1
     exact ⟨(tG_get hGt hj).2.1, by simpa using h2⟩
    have hxy : (-1000000000 ≤ A.x ∧ A.x ≤ 1000000000) ∧ -1000000000 ≤ A.y ∧ A.y ≤ 1000000000 := hAxy
    by_cases hsame : latT A.t l = [] ∨ (ck ≠ 1 ∧ ck ≠ 2 ∧ ck ≠ 3)
    ·rw [if_pos hsame]
     have hca := carried_same (.string cc) ck cv (.string cf) (tube (befT A.t l)) (latT A.t l) A k fix.x fix.y (tube l) hc hsame
     refine ⟨by simp, by simp, fun h => absurd h (by simp), fun _ => ⟨_, hca, by simp, by simp, fun h => absurd h (by simp), fun _ => ⟨by simp, fun _ => ⟨⟨_, rfl, rfl⟩, _, tclone_fn l (by omega), flat_tube l, .lit _, rfl⟩, fun h => absurd h (by simp)⟩⟩⟩
    ·rw [if_neg hsame]
     have hne : latT A.t l ≠ [] := fun h => hsame (.inl h)
     have hkk : ck = 1 ∨ ck = 2 ∨ ck = 3 := by
      rcases Classical.em (ck = 1) with h | h
      ·exact .inl h
      ·rcases Classical.em (ck = 2) with h2 | h2
       ·exact .inr (.inl h2)
       ·rcases Classical.em (ck = 3) with h3 | h3
        ·exact .inr (.inr h3)
        ·exact absurd (.inr ⟨h, h2, h3⟩) hsame
     obtain ⟨z, hz⟩ : ∃ z, (latT A.t l)[0]? = some z := ⟨_, List.getElem?_eq_getElem (List.length_pos_iff.2 hne)⟩
     have hzd : (latT A.t l).getD 0 default = z := by rw [List.getD_eq_getElem?_getD, hz]; rfl
     rw [hzd]
     have hlo2 : ∀ x ∈ latT A.t l, A.t < x.t ∧ x.t ≤ 200000 := fun x hx => ⟨(hlo x hx).2, (hlo x hx).1.2.1⟩
     have hzm := hlo2 z (List.mem_of_getElem? hz)
     have hh := heading_fn (.string cc) (.int ck) cv (.string cf) (tube (befT A.t l)) (latT A.t l) A z k fix.x fix.y (tube l) hz (by omega) hok.1 hlo2 hxy.1 hxy.2 hv1 hv2
     have hs := slower_fn (.string cc) (.int ck) cv (.string cf) (tube (befT A.t l)) (latT A.t l) A k fix.x fix.y (tube l) (by omega) hok.1 hok.2.1 hks
     have hd := direct_fn (.string cc) (.int ck) cv (.string cf) (tube (befT A.t l)) (latT A.t l) A z k fix (tube l) hz hok.1 hzm
     have hca := carried_new (.string cc) ck cv (.string cf) (tube (befT A.t l)) (latT A.t l) A k fix.x fix.y (tube l) (trO ⟨cc, ck, cv, cf⟩ A z (latT A.t l) k fix).1 (trO ⟨cc, ck, cv, cf⟩ A z (latT A.t l) k fix).2 hne (trO_fn hkk hh hs hd)
     have hTl : (trO ⟨cc, ck, cv, cf⟩ A z (latT A.t l) k fix).1.length ≤ (latT A.t l).length + 1 := trO_len ..
     generalize trO ⟨cc, ck, cv, cf⟩ A z (latT A.t l) k fix = T at *
     obtain ⟨M, e⟩ := T
     simp only at hca hTl ⊢
     by_cases he : e = 0
     ·subst he
      rw [if_neg (by simp)]
      have hcc := concat_fn [befT A.t l, [A], M] (by simp; omega) (by simp)
      have hO : [befT A.t l, [A], M].flatten = befT A.t l ++ A :: M := by simp
      rw [hO] at hcc
      have hOl : (befT A.t l ++ A :: M).length ≤ 1000 := by rw [List.length_append, List.length_cons]; omega
      have hf := flat_tube (befT A.t l ++ A :: M)
      generalize befT A.t l ++ A :: M = O at *
      refine ⟨by simp, by simp, fun h => absurd h (by simp), fun _ => ⟨_, hca, by simp, by simp, fun h => absurd h (by simp), fun _ => ⟨by simp, fun h => absurd h (by simp), fun _ => ⟨tube O, hcc, by simp, by simp, fun h => ?_, fun h => ?_⟩⟩⟩⟩
      ·have h : 64 < O.length := by simp at h; omega
       rw [if_pos h]
       simp
      ·have h : ¬ 64 < O.length := by simp at h; omega
       rw [if_neg h]
       exact ⟨hf, .lit _, rfl⟩
     ·rw [if_pos he]
      refine ⟨by simp, by simp, fun h => absurd h (by simp), fun _ => ⟨_, hca, by simp, by simp, fun _ => by simp, fun h => absurd h (by simp [he])⟩⟩
  ·have htv : tatV l a = .tup [nd nd0, .int (tatE l a)] := by unfold tatV; rw [if_neg hE]
   rw [htv] at hta
   have hV : ofT l c a k fix = .tup [.sl 6 [], .int (tatE l a)] := by unfold ofT; rw [hOE, if_pos hE]
   rw [hV]
   refine ⟨by simp, _, hta, by simp [encN], by simp, by simp, fun h => by simp, fun h => absurd h (by simp [hE])⟩
end Go.Proofs.YtcifjnhpgblnkaaGreatDoor
namespace Go.Proofs.YtcifjnhpgblnkaaGreatDoor
open Go.RowKit
set_option linter.unusedVariables false
set_option linter.unusedSimpArgs false
set_option maxRecDepth 100000
abbrev Up (l : List Nd) : Prop := l.Pairwise fun x y => x.t < y.t
theorem up_of {l : List Nd} (h : tE l = 0) : Up l := by
 obtain ⟨_, _, hG⟩ := tE_ok h
 rw [Up, List.pairwise_iff_getElem]
 intro i j hi hj hij
 exact (tG_get hG (List.getElem?_eq_getElem hi)).2.2 j _ hij (List.getElem?_eq_getElem hj)
theorem up_get {l : List Nd} (h : Up l) {i j : Nat} {x y : Nd} (hi : l[i]? = some x) (hj : l[j]? = some y) (hij : i < j) : x.t < y.t := by
 rw [Up, List.pairwise_iff_getElem] at h
 obtain ⟨h1, rfl⟩ := List.getElem?_eq_some_iff.1 hi
 obtain ⟨h2, rfl⟩ := List.getElem?_eq_some_iff.1 hj
 exact h i j h1 h2 hij
theorem ix_mem {l : List Nd} (h : Up l) {j : Nat} {x : Nd} (hj : l[j]? = some x) : ixF x.t l = j :=
 ixF_snoc (fun i y hi hy => up_get h hy hj hi) hj (by omega)
theorem atN_mem {l : List Nd} (h : Up l) {x : Nd} (hx : x ∈ l) : atN l x.t = x := by
 obtain ⟨j, hj⟩ := List.getElem?_of_mem hx
 have e : l.getD (ixF x.t l) default = x := by rw [ix_mem h hj, List.getD_eq_getElem?_getD, hj]; rfl
 unfold atN
 rw [e, if_pos rfl]
theorem last_mem {l : List Nd} (h : 0 < l.length) : l.getD (l.length - 1) default ∈ l := by
 rw [List.getD_eq_getElem?_getD, List.getElem?_eq_getElem (by omega)]
 exact List.getElem_mem _
theorem last_max {l : List Nd} (h : Up l) {x : Nd} (hx : x ∈ l) : x.t ≤ (l.getD (l.length - 1) default).t := by
 obtain ⟨j, hj⟩ := List.getElem?_of_mem hx
 have hl := (List.getElem?_eq_some_iff.1 hj).1
 have hz : l[l.length - 1]? = some (l.getD (l.length - 1) default) := by
  rw [List.getD_eq_getElem?_getD, List.getElem?_eq_getElem (by omega)]; rfl
 rcases Nat.lt_or_ge j (l.length - 1) with g | g
 ·exact Int.le_of_lt (up_get h hj hz g)
 ·obtain rfl : j = l.length - 1 := by omega
  rw [hz] at hj; injection hj with hj; rw [hj]; exact Int.le_refl _
theorem first_min {l : List Nd} (h : Up l) {x : Nd} (hx : x ∈ l) : (l.getD 0 default).t ≤ x.t := by
 obtain ⟨j, hj⟩ := List.getElem?_of_mem hx
 have hl := (List.getElem?_eq_some_iff.1 hj).1
 have hz : l[0]? = some (l.getD 0 default) := by
  rw [List.getD_eq_getElem?_getD, List.getElem?_eq_getElem (by omega)]; rfl
 rcases Nat.eq_zero_or_pos j with g | g
 ·subst g; rw [hz] at hj; injection hj with hj; rw [hj]; exact Int.le_refl _
 ·exact Int.le_of_lt (up_get h hz hj g)
theorem tatE_in {l : List Nd} (h : tE l = 0) {t : Int} (h1 : (l.getD 0 default).t ≤ t) (h2 : t ≤ (l.getD (l.length - 1) default).t) : tatE l t = 0 := by
 unfold tatE
 rw [if_neg (by simp [h]), if_neg (by omega)]
theorem tatE_rng {l : List Nd} {t : Int} (h : tatE l t = 0) : (l.getD 0 default).t ≤ t ∧ t ≤ (l.getD (l.length - 1) default).t := by
 have h0 := (tatE_ok h).1
 unfold tatE at h
 rw [if_neg (by simp [h0])] at h
 split at h
 ·cases h
 ·omega
theorem filt_perm (a : Int) : ∀ l : List Nd, (befT a l ++ latT a l).Perm (l.filter fun n => decide (n.t ≠ a))
 | [] => .nil
 | x :: l => by
  have ih := filt_perm a l
  unfold befT latT at *
  rcases Int.lt_trichotomy x.t a with h | h | h
  ·simp only [List.filter_cons, h, decide_true, if_true, show ¬ a < x.t by omega, decide_false, Bool.false_eq_true, if_false, show x.t ≠ a by omega, ne_eq, not_false_eq_true, List.cons_append]
   exact ih.cons x
  ·simp only [List.filter_cons, show ¬ x.t < a by omega, show ¬ a < x.t by omega, h, decide_false, Bool.false_eq_true, if_false, ne_eq, not_true_eq_false, Int.lt_irrefl]
   exact ih
  ·simp only [List.filter_cons, h, decide_true, if_true, show ¬ x.t < a by omega, decide_false, Bool.false_eq_true, if_false, show x.t ≠ a by omega, ne_eq, not_false_eq_true]
   exact List.perm_middle.trans (ih.cons x)
def TL (l : List Nd) (a : Int) : List Int := (l.filter fun n => decide (n.t ≠ a)).map (·.t) ++ [a]
def timesT (l : List Nd) (a e : Int) : List Int := if e < (l.getD (l.length - 1) default).t ∧ e ∉ TL l a then TL l a ++ [e] else TL l a
theorem ix_split {e : Int} {L : List Nd} (h : Up L) : (∀ x ∈ L.take (ixF e L), x.t < e) ∧ ∀ x ∈ L.drop (ixF e L), e ≤ x.t := by
 refine ⟨fun x hx => ?_, fun x hx => ?_⟩
 ·obtain ⟨j, hj⟩ := List.getElem?_of_mem hx
  rw [List.getElem?_take] at hj
  split at hj
  ·rename_i g; exact ixF_lt g hj
  ·cases hj
 ·obtain ⟨j, hj⟩ := List.getElem?_of_mem hx
  rw [List.getElem?_drop] at hj
  obtain ⟨y, hy⟩ : ∃ y, L[ixF e L]? = some y := ⟨_, List.getElem?_eq_getElem (by have := (List.getElem?_eq_some_iff.1 hj).1; omega)⟩
  have h1 := ixF_ge hy
  rcases Nat.eq_zero_or_pos j with g | g
  ·subst g
   rw [Nat.add_zero, hy] at hj
   injection hj with hj; rw [← hj]; omega
  ·have := up_get h hy hj (by omega)
   omega
theorem insT_spec {w L : List Nd} {e : Int} (h : Up L) (hlt : ∃ x ∈ L, e < x.t) : Up (insT w e L) ∧ ((e ∈ L.map (·.t) ∧ insT w e L = L) ∨ (e ∉ L.map (·.t) ∧ ((insT w e L).map (·.t)).Perm (L.map (·.t) ++ [e]) ∧ ∀ x ∈ insT w e L, x ∈ L ∨ x = atN w e)) := by
 obtain ⟨s1, s2⟩ := ix_split (e := e) h
 have hil : ixF e L < L.length := by
  rcases Nat.lt_or_ge (ixF e L) L.length with g | g
  ·exact g
  ·obtain ⟨x, hx, hxe⟩ := hlt
   rw [List.take_of_length_le g] at s1
   have := s1 x hx; omega
 have hg : L[ixF e L]? = some (L.getD (ixF e L) default) := by rw [List.getD_eq_getElem?_getD, List.getElem?_eq_getElem hil]; rfl
 have hat := atN_t w e
 unfold insT
 split
 ·rename_i q
  exact ⟨h, .inl ⟨List.mem_map.2 ⟨_, List.mem_of_getElem? hg, q⟩, rfl⟩⟩
 ·rename_i q
  have hge := ixF_ge hg
  have s3 : ∀ x ∈ L.drop (ixF e L), e < x.t := fun x hx => by
   obtain ⟨j, hj⟩ := List.getElem?_of_mem hx
   rw [List.getElem?_drop] at hj
   rcases Nat.eq_zero_or_pos j with g | g
   ·subst g
    rw [Nat.add_zero, hg] at hj
    injection hj with hj; rw [← hj]; omega
   ·have := up_get h hg hj (by omega); omega
  refine ⟨?_, .inr ⟨fun hm => ?_, ?_, fun x hx => ?_⟩⟩
  ·have h' := h
   rw [Up, ← List.take_append_drop (ixF e L) L, List.pairwise_append] at h'
   obtain ⟨p1, p2, p3⟩ := h'
   rw [Up, List.pairwise_append]
   refine ⟨p1, List.pairwise_cons.2 ⟨fun y hy => by rw [hat]; exact s3 y hy, p2⟩, fun x hx y hy => ?_⟩
   rcases List.mem_cons.1 hy with g | g
   ·rw [g, hat]; exact s1 x hx
   ·exact p3 x hx y g
  ·obtain ⟨x, hx, hxe⟩ := List.mem_map.1 hm
   rw [← List.take_append_drop (ixF e L) L] at hx
   rcases List.mem_append.1 hx with g | g
   ·have := s1 x g; omega
   ·have := s3 x g; omega
  ·rw [List.map_append, List.map_cons, hat]
   refine List.perm_middle.trans ?_
   rw [← List.map_append, List.take_append_drop]
   exact (List.perm_append_singleton _ _).symm
  ·rcases List.mem_append.1 hx with g | g
   ·exact .inl (List.mem_of_mem_take g)
   ·rcases List.mem_cons.1 g with g | g
    ·exact .inr g
    ·exact .inl (List.mem_of_mem_drop g)
theorem hgt_t (nt nh v n : Int) (x : Nd) : (hgt nt nh v n x).t = x.t := rfl
theorem hgt_map (nt nh v n : Int) (L : List Nd) : (L.map (hgt nt nh v n)).map (·.t) = L.map (·.t) := by
 rw [List.map_map]; rfl
theorem midT_spec {l : List Nd} {a n : Int} (hv : tE l = 0) (hE : tatE l a = 0) (hn : 0 ≤ n) :
  Up (midT l (latT a l) a n) ∧ (∀ x ∈ midT l (latT a l) a n, a < x.t ∧ tatE l x.t = 0 ∧ x = atN l x.t) ∧
  (befT a l ++ [atN l a] ++ midT l (latT a l) a n |>.map (·.t)).Perm (timesT l a (a + n)) := by
 have hu := up_of hv
 obtain ⟨r1, r2⟩ := tatE_rng hE
 have hul : Up (latT a l) := hu.filter _
 have hml : ∀ x ∈ latT a l, x ∈ l ∧ a < x.t := fun x hx => by
  obtain ⟨h1, h2⟩ := List.mem_filter.1 hx
  exact ⟨h1, by simpa using h2⟩
 have hinl : ∀ x ∈ l, tatE l x.t = 0 ∧ x = atN l x.t := fun x hx => ⟨tatE_in hv (first_min hu hx) (last_max hu hx), (atN_mem hu hx).symm⟩
 have hlp : 0 < l.length := (tE_ok hv).1
 have hlm := last_mem hlp
 have hTL : ((befT a l ++ [atN l a] ++ latT a l).map (·.t)).Perm (TL l a) := by
  unfold TL
  have p := (filt_perm a l).map (·.t)
  rw [List.map_append, List.map_append, List.map_cons, List.map_nil, atN_t]
  refine List.Perm.trans ?_ (p.append_right [a])
  rw [List.map_append, List.append_assoc, List.append_assoc]
  exact List.perm_append_comm.append_left _
 have hTLm : ∀ e, e ∈ TL l a ↔ (∃ x ∈ l, x.t = e) ∨ e = a := fun e => by
  unfold TL
  rw [List.mem_append, List.mem_singleton, List.mem_map]
  constructor
  ·rintro (⟨x, hx, rfl⟩ | h)
   ·exact .inl ⟨x, (List.mem_filter.1 hx).1, rfl⟩
   ·exact .inr h
  ·rintro (⟨x, hx, rfl⟩ | h)
   ·by_cases q : x.t = a
    ·exact .inr q
    ·exact .inl ⟨x, List.mem_filter.2 ⟨hx, by simpa using q⟩, rfl⟩
   ·exact .inr h
 by_cases hc : 0 < n ∧ 0 < (latT a l).length ∧ a + n < ((latT a l).getD ((latT a l).length - 1) default).t
 ·have hm : midT l (latT a l) a n = insT l (a + n) (latT a l) := by unfold midT; rw [if_pos hc]
  rw [hm]
  obtain ⟨hn0, hl0, hlast⟩ := hc
  have hlm2 := last_mem hl0
  obtain ⟨hz1, hz2⟩ := hml _ hlm2
  have hmax := last_max hu hz1
  obtain ⟨g1, g2⟩ := insT_spec (w := l) (e := a + n) hul ⟨_, hlm2, hlast⟩
  rcases g2 with ⟨g2, g3⟩ | ⟨g2, g3, g4⟩
  ·refine ⟨g1, fun x hx => ?_, ?_⟩
   ·rw [g3] at hx
    exact ⟨(hml x hx).2, hinl x (hml x hx).1⟩
   ·obtain ⟨x, hx, hxe⟩ := List.mem_map.1 g2
    have : timesT l a (a + n) = TL l a := by
     unfold timesT
     rw [if_neg]
     rintro ⟨_, q⟩
     exact q ((hTLm _).2 (.inl ⟨x, (hml x hx).1, hxe⟩))
    rw [this, g3]
    exact hTL
  ·refine ⟨g1, fun x hx => ?_, ?_⟩
   ·rcases g4 x hx with g | g
    ·exact ⟨(hml x g).2, hinl x (hml x g).1⟩
    ·have hxt : x.t = a + n := by rw [g]; exact atN_t _ _
     exact ⟨by omega, by rw [hxt]; exact tatE_in hv (by omega) (by omega), by rw [hxt]; exact g⟩
   ·have hne : a + n ∉ TL l a := fun q => by
     rcases (hTLm _).1 q with ⟨x, hx, hxe⟩ | q
     ·exact g2 (List.mem_map.2 ⟨x, List.mem_filter.2 ⟨hx, by simp; omega⟩, hxe⟩)
     ·omega
    have : timesT l a (a + n) = TL l a ++ [a + n] := by
     unfold timesT
     rw [if_pos ⟨by omega, hne⟩]
    rw [this]
    have p := hTL.append_right [a + n]
    refine List.Perm.trans ?_ p
    rw [List.map_append (l₁ := befT a l ++ [atN l a]), List.map_append (l₁ := befT a l ++ [atN l a]), List.append_assoc]
    exact g3.append_left _
 ·have hm : midT l (latT a l) a n = latT a l := by unfold midT; rw [if_neg hc]
  rw [hm]
  refine ⟨hul, fun x hx => ⟨(hml x hx).2, hinl x (hml x hx).1⟩, ?_⟩
  have : timesT l a (a + n) = TL l a := by
   unfold timesT
   rw [if_neg]
   rintro ⟨q1, q2⟩
   have hn0 : 0 < n := by
    rcases Int.lt_or_eq_of_le hn with g | g
    ·exact g
    ·exact absurd ((hTLm (a + n)).2 (.inr (by omega))) q2
   have hin : l.getD (l.length - 1) default ∈ latT a l := List.mem_filter.2 ⟨hlm, by simp only [decide_eq_true_eq]; omega⟩
   have hl0 : 0 < (latT a l).length := List.length_pos_of_mem hin
   have := last_max hul hin
   exact hc ⟨hn0, hl0, by omega⟩
  rw [this]
  exact hTL
def expN (l : List Nd) (a v n t : Int) : Nd := if a < t then hgt a (atN l a).h v n (atN l t) else atN l t
theorem outT_spec {l : List Nd} {a v : Int} {k : Kd} (hv : tE l = 0) (hE : tatE l a = 0) (hn : 0 ≤ clN k (atN l a).h v) :
  Up (outT l v a k) ∧ (∀ x ∈ outT l v a k, tatE l x.t = 0 ∧ x = expN l a v (clN k (atN l a).h v) x.t) ∧ ((outT l v a k).map (·.t)).Perm (timesT l a (a + clN k (atN l a).h v)) := by
 have hu := up_of hv
 have hO : outT l v a k = befT a l ++ atN l a :: (midT l (latT a l) a (clN k (atN l a).h v)).map (hgt a (atN l a).h v (clN k (atN l a).h v)) := rfl
 generalize clN k (atN l a).h v = n at *
 obtain ⟨m1, m2, m3⟩ := midT_spec hv hE hn
 have hb : ∀ x ∈ befT a l, x ∈ l ∧ x.t < a := fun x hx => by
  obtain ⟨h1, h2⟩ := List.mem_filter.1 hx
  exact ⟨h1, by simpa using h2⟩
 rw [hO]
 refine ⟨?_, fun x hx => ?_, ?_⟩
 ·rw [Up, List.pairwise_append]
  refine ⟨hu.filter _, List.pairwise_cons.2 ⟨fun y hy => ?_, ?_⟩, fun x hx y hy => ?_⟩
  ·obtain ⟨z, hz, rfl⟩ := List.mem_map.1 hy
   rw [atN_t, hgt_t]
   exact (m2 z hz).1
  ·rw [List.pairwise_map]
   exact m1
  ·have := (hb x hx).2
   rcases List.mem_cons.1 hy with g | g
   ·rw [g, atN_t]; exact this
   ·obtain ⟨z, hz, rfl⟩ := List.mem_map.1 g
    have := (m2 z hz).1
    rw [hgt_t]; omega
 ·rcases List.mem_append.1 hx with g | g
  ·obtain ⟨h1, h2⟩ := hb x g
   refine ⟨tatE_in hv (first_min hu h1) (last_max hu h1), ?_⟩
   unfold expN
   rw [if_neg (by omega), atN_mem hu h1]
  ·rcases List.mem_cons.1 g with g | g
   ·rw [g, atN_t]
    refine ⟨hE, ?_⟩
    unfold expN
    rw [if_neg (by omega)]
   ·obtain ⟨z, hz, rfl⟩ := List.mem_map.1 g
    obtain ⟨q1, q2, q3⟩ := m2 z hz
    rw [hgt_t]
    refine ⟨q2, ?_⟩
    unfold expN
    rw [if_pos q1, ← q3]
 ·rw [List.map_append, List.map_cons, hgt_map]
  rw [List.append_assoc, List.map_append, List.map_append, List.map_cons, List.map_nil] at m3
  exact m3
end Go.Proofs.YtcifjnhpgblnkaaGreatDoor
namespace Go.Proofs.YtcifjnhpgblnkaaGreatDoor
open Go.RowKit
set_option linter.unusedVariables false
set_option linter.unusedSimpArgs false
theorem dvu_way {p n d : Int} (hd : 0 < d) (h0 : 0 ≤ n) (h1 : n ≤ d) : (0 ≤ p → 0 ≤ dvu (p * n) d ∧ dvu (p * n) d ≤ p) ∧ (p ≤ 0 → p ≤ dvu (p * n) d ∧ dvu (p * n) d ≤ 0) := by
 obtain ⟨w1, w2⟩ := way (p := p) hd h0 h1
 unfold dvu
 split
 ·exact ⟨w1, w2⟩
 ·rename_i hq
  have hr : (p * n) % d ≠ 0 := fun e => hq (Int.tmod_eq_zero_of_dvd (Int.dvd_of_emod_eq_zero e))
  have hr0 := Int.emod_nonneg (p * n) (show d ≠ 0 by omega)
  have hdm := Int.mul_ediv_add_emod (p * n) d
  refine ⟨fun hp => ⟨by have := w1 hp; omega, ?_⟩, fun hp => ⟨by have := w2 hp; omega, ?_⟩⟩
  ·have h2 := Int.mul_le_mul_of_nonneg_left h1 hp
   have h3 : d * (p * n / d) < d * p := by rw [Int.mul_comm d p]; omega
   have := Int.lt_of_mul_lt_mul_left h3 (by omega)
   omega
  ·have h2 := Int.mul_le_mul_of_nonneg_right hp h0
   have h3 : d * (p * n / d) < d * 0 := by omega
   have := Int.lt_of_mul_lt_mul_left h3 (by omega)
   omega
theorem interp_okF {a b : Nd} {t : Int} (ha : okN a) (hb : okN b) (h1 : a.t < t) (h2 : t < b.t) : okN (interp a b t) := by
 obtain ⟨i1, i2, i3⟩ := interp_ok ha hb h1 h2
 obtain ⟨q1, q2⟩ := dvu_way (p := b.r - a.r) (n := t - a.t) (d := b.t - a.t) (by omega) (by omega) (by omega)
 obtain ⟨q3, q4⟩ := dvu_way (p := b.b - a.b) (n := t - a.t) (d := b.t - a.t) (by omega) (by omega) (by omega)
 unfold okN at ha hb
 refine ⟨?_, ?_, i1, i2, i3, ?_⟩
 ·show 0 ≤ t; omega
 ·show t ≤ 200000; omega
 ·simp only [interp]
  omega
theorem atN_okF {l : List Nd} {t : Int} (hE : tatE l t = 0) : okN (atN l t) := by
 obtain ⟨hv, h0, h1⟩ := tatE_ok hE
 obtain ⟨hp, h64, hG⟩ := tE_ok hv
 have hlt : ixF t l < l.length := by
  refine Nat.lt_of_le_of_ne (ixF_le t l) fun q => ?_
  obtain ⟨z, hz⟩ : ∃ z, l[l.length - 1]? = some z := ⟨_, List.getElem?_eq_getElem (by omega)⟩
  have := h1 z hz
  have := ixF_lt (t := t) (l := l) (j := l.length - 1) (by omega) hz
  omega
 obtain ⟨b, hb⟩ : ∃ b, l[ixF t l]? = some b := ⟨_, List.getElem?_eq_getElem hlt⟩
 have hbd : l.getD (ixF t l) default = b := by rw [List.getD_eq_getElem?_getD, hb]; rfl
 have hbo := (tG_get hG hb).2.1
 have hbt := ixF_ge hb
 unfold atN
 rw [hbd]
 split
 ·exact hbo
 ·rename_i hne
  have hpos : 0 < ixF t l := by
   refine Nat.pos_of_ne_zero fun z => ?_
   rw [z] at hb
   have := h0 b hb
   omega
  obtain ⟨a, ha⟩ : ∃ a, l[ixF t l - 1]? = some a := ⟨_, List.getElem?_eq_getElem (by omega)⟩
  have had : l.getD (ixF t l - 1) default = a := by rw [List.getD_eq_getElem?_getD, ha]; rfl
  rw [had]
  exact interp_okF (tG_get hG ha).2.1 hbo (ixF_lt (by omega) ha) (by omega)
theorem tG_of : ∀ (l : List Nd) (p : Int), (∀ x ∈ l, p < x.t) → Up l → (∀ x ∈ l, okN x) → tG p l = 0
 | [], _, _, _, _ => rfl
 | n :: r, p, h1, h2, h3 => by
  have a1 := h1 n (by simp)
  have a3 := h3 n (by simp)
  have e : nE p n = 0 := by
   unfold okN at a3
   unfold nE
   rw [if_neg (by omega), if_neg (by simp [a3.2.2.1]), if_neg (by omega)]
  rw [tG, if_neg (by simp [e])]
  have h2 := List.pairwise_cons.1 h2
  exact tG_of r n.t (fun x hx => h2.1 x hx) h2.2 fun x hx => h3 x (List.mem_cons_of_mem _ hx)
theorem tE_of {l : List Nd} (h0 : l ≠ []) (h1 : l.length ≤ 64) (hu : Up l) (ho : ∀ x ∈ l, okN x) : tE l = 0 := by
 have : 0 < l.length := List.length_pos_iff.2 h0
 unfold tE
 rw [if_neg (by omega), if_neg (by omega)]
 exact tG_of l _ (fun x hx => by have := (ho x hx).1; omega) hu ho
theorem okN_mem {l : List Nd} (h : tE l = 0) : ∀ x ∈ l, okN x := fun x hx => by
 obtain ⟨j, hj⟩ := List.getElem?_of_mem hx
 exact (tG_get (tE_ok h).2.2 hj).2.1
theorem hgt_ok {nt nh v n : Int} {x : Nd} (h1 : okN x) (h2 : nt < x.t) (h3 : 0 ≤ nh ∧ nh ≤ 60000) (h4 : 0 ≤ v ∧ v ≤ 60000) (h5 : 0 ≤ n) : okN (hgt nt nh v n x) := by
 unfold okN at h1 ⊢
 refine ⟨h1.1, h1.2.1, h1.2.2.1, ?_, ?_, h1.2.2.2.2.2⟩
 all_goals
  simp only [hgt]
  split
  ·omega
  ·obtain ⟨q1, q2⟩ := way (p := v - nh) (n := x.t - nt) (d := n) (by omega) (by omega) (by omega)
   omega
theorem outT_ok {l : List Nd} {a v : Int} {k : Kd} (hE : tatE l a = 0) (hc : clE2 k (atN l a).h v = 0) (h64 : (outT l v a k).length ≤ 64) (hne : outT l v a k ≠ []) : tE (outT l v a k) = 0 := by
 obtain ⟨_, h1, h2, h3, h4, h5, _⟩ := clN_bd hc
 obtain ⟨u1, u2, _⟩ := outT_spec (v := v) (k := k) (tatE_ok hE).1 hE h5
 refine tE_of hne h64 u1 fun x hx => ?_
 obtain ⟨e1, e2⟩ := u2 x hx
 rw [e2]
 unfold expN
 split
 ·rename_i q
  exact hgt_ok (atN_okF e1) (by rw [atN_t]; exact q) ⟨h1, h2⟩ ⟨h3, h4⟩ h5
 ·exact atN_okF e1
def goodO (now : Nd) (o : List Nd) : Prop := Up o ∧ ∀ x ∈ o, now.t < x.t ∧ okN x
theorem fstE_ok {f : Nd → Int} : ∀ {l : List Nd}, fstE f l = 0 → ∀ x ∈ l, f x = 0
 | [], _, x, hx => by simp at hx
 | y :: r, h, x, hx => by
  rw [fstE] at h
  split at h
  ·rename_i q; exact absurd h q
  ·rename_i q
   rcases List.mem_cons.1 hx with e | e
   ·rw [e]; simpa using q
   ·exact fstE_ok h x e
theorem swL_ok {v : Int} : ∀ {l : List Nd} {last : Nd}, okN last → swE v last l = 0 → (∀ x ∈ l, okN x) → goodO last (swL v last l)
 | [], _, _, _, _ => ⟨List.Pairwise.nil, fun x hx => by simp [swL] at hx⟩
 | y :: r, last, h0, h, ho => by
  rw [swE] at h
  split at h
  ·cases h
  ·rename_i q
   have hy := ho y (by simp)
   have ht : last.t < swT v last y := by unfold swT; split <;> omega
   have hn : okN (swN v last y) := by
    unfold okN at hy h0 ⊢
    exact ⟨by show 0 ≤ swT v last y; omega, by show swT v last y ≤ 200000; omega, hy.2.2.1, hy.2.2.2⟩
   obtain ⟨i1, i2⟩ := swL_ok hn h fun x hx => ho x (List.mem_cons_of_mem _ hx)
   rw [swL]
   refine ⟨List.pairwise_cons.2 ⟨fun x hx => (i2 x hx).1, i1⟩, fun x hx => ?_⟩
   rcases List.mem_cons.1 hx with e | e
   ·rw [e]; exact ⟨ht, hn⟩
   ·obtain ⟨j1, j2⟩ := i2 x e
    exact ⟨by have : (swN v last y).t = swT v last y := rfl; omega, j2⟩
theorem dvu_pos {a b : Int} (ha : 0 < a) (hb : 0 < b) : 0 < dvu a b := by
 have h0 := Int.ediv_nonneg (show 0 ≤ a by omega) (show 0 ≤ b by omega)
 unfold dvu
 split
 ·rename_i q
  have := Int.dvd_of_tmod_eq_zero q
  have h1 := Int.mul_ediv_add_emod a b
  rw [Int.emod_eq_zero_of_dvd this] at h1
  rcases Int.lt_or_eq_of_le h0 with g | g
  ·exact g
  ·rw [← g] at h1; omega
 ·omega
theorem trO_ok {c : Cl} {now z : Nd} {l : List Nd} {k : Kd} {fix : Pt} (hn : okN now) (hl : ∀ x ∈ l, now.t < x.t ∧ okN x) (hu : Up l) (hs : 0 ≤ spV now z) (hf : pE fix = 0) (h : (trO c now z l k fix).2 = 0) : goodO now (trO c now z l k fix).1 := by
 have none : goodO now [] := ⟨List.Pairwise.nil, fun x hx => by simp at hx⟩
 unfold trO at h ⊢
 split
 ·rename_i h1
  rw [if_pos h1] at h
  split
  ·exact none
  ·rename_i h2
   have h2 : fstE (hdE now (spV now z) c.v) l = 0 := by simpa using h2
   refine ⟨List.pairwise_map.2 hu, fun x hx => ?_⟩
   obtain ⟨y, hy, rfl⟩ := List.mem_map.1 hx
   obtain ⟨y1, y2⟩ := hl y hy
   refine ⟨y1, y2.1, y2.2.1, ?_, y2.2.2.2⟩
   have := fstE_ok h2 y hy
   unfold hdE at this
   split at this
   ·rename_i q; exact absurd this q
   ·exact this
 ·rename_i h1
  rw [if_neg h1] at h
  split
  ·rename_i h2
   rw [if_pos h2] at h
   split
   ·exact none
   ·rename_i h3
    rw [if_neg h3] at h
    split
    ·exact none
    ·rename_i h4
     exact swL_ok hn (by simpa using h4) fun x hx => (hl x hx).2
  ·rename_i h2
   rw [if_neg h2] at h
   split
   ·exact none
   ·rename_i h3
    rw [if_neg h3] at h
    split
    ·exact none
    ·rename_i h4
     rw [if_neg h4] at h
     split
     ·exact none
     ·rename_i h5
      have hb := disB_bd now.p fix
      have hp := dvu_pos (show 0 < disB now.p fix by omega) (show 0 < spV now z by omega)
      have hdt : (diN now fix (spV now z)).t = now.t + dvu (disB now.p fix) (spV now z) := rfl
      refine ⟨List.pairwise_singleton _ _, fun x hx => ?_⟩
      rw [List.mem_singleton] at hx
      rw [hx]
      unfold okN at hn
      exact ⟨by omega, by omega, by omega, hf, hn.2.2.2⟩
theorem turn_ok {l o : List Nd} {a : Int} (hE : tatE l a = 0) (ho : goodO (atN l a) o) (h64 : (befT a l ++ atN l a :: o).length ≤ 64) : tE (befT a l ++ atN l a :: o) = 0 := by
 have hv := (tatE_ok hE).1
 have hu := up_of hv
 have hk := okN_mem hv
 obtain ⟨o1, o2⟩ := ho
 have hb : ∀ x ∈ befT a l, x ∈ l ∧ x.t < a := fun x hx => by
  obtain ⟨h1, h2⟩ := List.mem_filter.1 hx
  exact ⟨h1, by simpa using h2⟩
 have ht := atN_t l a
 refine tE_of (by simp) h64 ?_ fun x hx => ?_
 ·rw [Up, List.pairwise_append]
  refine ⟨hu.filter _, List.pairwise_cons.2 ⟨fun y hy => (o2 y hy).1, o1⟩, fun x hx y hy => ?_⟩
  have := (hb x hx).2
  rcases List.mem_cons.1 hy with g | g
  ·rw [g]; omega
  ·have := (o2 y g).1
   omega
 ·rcases List.mem_append.1 hx with g | g
  ·exact hk x (hb x g).1
  ·rcases List.mem_cons.1 g with g | g
   ·rw [g]; exact atN_okF hE
   ·exact (o2 x g).2
theorem later_ok {l : List Nd} {a : Int} (hE : tatE l a = 0) : Up (latT a l) ∧ ∀ x ∈ latT a l, (atN l a).t < x.t ∧ okN x := by
 have hv := (tatE_ok hE).1
 refine ⟨(up_of hv).filter _, fun x hx => ?_⟩
 obtain ⟨h1, h2⟩ := List.mem_filter.1 hx
 rw [atN_t]
 exact ⟨by simpa using h2, okN_mem hv x h1⟩
theorem eff_fn (l : List Nd) (c : Cl) (a : Int) (k : Kd) (fix : Pt) (hv1 : -9223372036854775808 ≤ c.v) (hv2 : c.v ≤ 9223372036854775807) :
  ∃ (o : List Nd) (e : Int), Fn Tryz.prog 18 [tube l, cl c, .int a, kd k, pt fix] (.tup [.row 54 6 true, .sc]) (.tup [tube o, .int e]) ∧ (e = 0 → tE o = 0) ∧ (e ≠ 0 → o = []) := by
 by_cases hc : c.k = 0
 ·have h := of_fn l c a k fix hc
  unfold ofV at h
  split at h
  ·rename_i q; exact ⟨[], _, h, fun e => absurd e q, fun _ => rfl⟩
  ·rename_i q
   have q : ofE l c a k fix = 0 := by simpa using q
   split at h
   ·rename_i q2; exact ⟨[], _, h, fun e => absurd e q2, fun _ => rfl⟩
   ·rename_i q2
    split at h
    ·exact ⟨[], _, h, fun e => (by cases e), fun _ => rfl⟩
    ·rename_i q3
     have hE : tatE l a = 0 := by
      unfold ofE at q
      repeat' split at q
      all_goals first | exact q | (rename_i g; exact absurd q g)
     exact ⟨_, _, h, fun _ => outT_ok hE (by simpa using q2) (by omega) (by simp [outT]), fun g => absurd rfl g⟩
 ·have h := oft_fn l c a k fix hc hv1 hv2
  unfold ofT at h
  split at h
  ·rename_i q; exact ⟨[], _, h, fun e => absurd e q, fun _ => rfl⟩
  ·rename_i q
   have q : ofE l c a k fix = 0 := by simpa using q
   have hE : tatE l a = 0 ∧ pE fix = 0 := by
    unfold ofE at q
    repeat' split at q
    all_goals first | (rename_i g _ ; exact absurd q g) | skip
    all_goals (rename_i g; first | exact absurd q g | exact ⟨q, by simpa using g⟩)
   split at h
   ·exact ⟨_, _, h, fun _ => (tatE_ok hE.1).1, fun g => absurd rfl g⟩
   ·rename_i q1
    split at h
    ·rename_i q2; exact ⟨[], _, h, fun e => absurd e q2, fun _ => rfl⟩
    ·rename_i q2
     split at h
     ·exact ⟨[], _, h, fun e => (by cases e), fun _ => rfl⟩
     ·rename_i q3
      obtain ⟨l1, l2⟩ := later_ok hE.1
      have hz : (latT a l).getD 0 default ∈ latT a l := by
       have : 0 < (latT a l).length := List.length_pos_iff.2 fun e => q1 (.inl e)
       rw [List.getD_eq_getElem?_getD, List.getElem?_eq_getElem this]
       exact List.getElem_mem _
      exact ⟨_, _, h, fun _ => turn_ok hE.1 (trO_ok (atN_okF hE.1) l2 l1 (spV_bd (l2 _ hz).1).1 hE.2 (by simpa using q2)) (by omega), fun g => absurd rfl g⟩
end Go.Proofs.YtcifjnhpgblnkaaGreatDoor
namespace Go.Proofs.YtcifjnhpgblnkaaGreatDoor
open Go.RowKit
set_option linter.unusedVariables false
set_option linter.unusedSimpArgs false
set_option maxRecDepth 100000
theorem equal_fn (l : List Nd) (hl : l.length ≤ 1000) : Fn Tryz.prog 19 [tube l, tube l] .sc (.bool true) := by
 have e := EffT.equal_form (tube l) (tube l) (.bool true)
 have kk := fun h => fn_run mixed 3 (Γ := EffT.Γ) (ann := EffT.ann) Tryz.func19 rfl Tryz.call19 (e.mpr h)
 refine kk ?_
 clear kk e
 refine ⟨by simp, by simp, by simp, by simp, fun q => absurd q (by simp), fun _ => ⟨by simp, ?_⟩⟩
 refine loop_list (σ := Unit) l (fun i _ => [.int (i : Nat)]) (fun _ _ _ => True) () rfl trivial ?_ ?_
 ·rintro i x rest _ K hx hrest hi _ hK
  have hil : (i : Int) < l.length := by omega
  have w2 : wr ((i : Int) + 1) = (i : Int) + 1 := wr_id (by omega) (by omega)
  have hK' := hK [.int ((i : Int) + 1)] () (by simp) trivial
  have hat := lst_atAgg (k := .i64) (s := 6) (enc := encN) (j := 0) (m := 6) hx
  simp [hat, encN, hil, AV.eqPlOk, AV.nePl, AV.eqc, okA, w2]
  exact hK'
 ·rintro _ K _
  refine ⟨by simp, by simp, fun q => absurd q (by simp), fun _ => ⟨by simp, by simp⟩⟩
end Go.Proofs.YtcifjnhpgblnkaaGreatDoor
