/- taxi's laws: what the run ends in. -/
import Derived.Test.YtlhhdonpoglfkaaVal
namespace Go.Proofs.Ytlhhdonpoglfkaa
open Go.RowKit
set_option linter.unusedVariables false
set_option maxRecDepth 100000
namespace TaxiG
--GAMMA
def Γ : FuncId → Option Ca := fun f =>
  if f = 98 ∨ f = 55 ∨ f = 92 ∨ f = 42 ∨ f = 44 ∨ f = 49 ∨ f = 43 ∨ f = 97 ∨ f = 41 ∨ f = 38 ∨ f = 46 ∨ f = 47 ∨ f = 101 ∨ f = 96 ∨ f = 95 then some (.fn .sc)
  else if f = 48 then some (.fn (.tup [.sc, .sc]))
  else if f = 39 ∨ f = 40 then some (.fn (.tup [.row 76 4 true, .sc]))
  else if f = 45 then some (.fn (.row 76 4 true))
  else if f = 93 then some (.upd false)
  else some .inl
def ann : FuncId → Nat → LoopEx := fun f r => if f = 39 ∧ r = 14 then ⟨[], [897], [], []⟩ else if f = 40 then ⟨[], [321], [], []⟩ else if f = 7 then ⟨[], [3457], [], []⟩ else if f = 45 ∧ r = 4 then ⟨[], [], [], [(7, 0, 0, 0)]⟩ else ⟨[], [], [], []⟩
--END GAMMA
theorem fact_form ( r : AV) : fnF Try.prog Γ ann 3 38 Try.f38 (Try.f38.body.getD .skip) ((.t (.t (.t (.t (.t (.t (.t (.t (.t .nil)))))))))) [] (.sc) r = ((∃ r641 : AV, ((Fn Try.prog 39 [(AV.mk 2 [[(AV.lit (Value.string ⟨#[83]⟩)), (AV.int 50)]]), (AV.mk 3 [[(AV.lit (Value.string ⟨#[66]⟩)), (AV.lit (Value.string ⟨#[83]⟩)), (AV.int 50)], [(AV.lit (Value.string ⟨#[65]⟩)), (AV.lit (Value.string ⟨#[83]⟩)), (AV.int 50)]]), (AV.int 60)] (Sh.tup [(Sh.row 76 4 true), Sh.sc]) r641) ∧
(∃ r1153 : AV, ((Fn Try.prog 40 [(AV.mk 2 [[(AV.lit (Value.string ⟨#[83]⟩)), (AV.int 50)]]), (AV.mk 3 [[(AV.lit (Value.string ⟨#[66]⟩)), (AV.lit (Value.string ⟨#[83]⟩)), (AV.int 50)], [(AV.lit (Value.string ⟨#[65]⟩)), (AV.lit (Value.string ⟨#[83]⟩)), (AV.int 50)]]), (AV.int 60), (AV.int 20)] (Sh.tup [(Sh.row 76 4 true), Sh.sc]) r1153) ∧
(∃ r1601 : AV, ((Fn Try.prog 48 [(AV.prj r641 0)] (Sh.tup [Sh.sc, Sh.sc]) r1601) ∧
((AV.binOk Go.BinOp.eql (AV.prj r641 1) (AV.int 0)) ∧
((AV.isBool (AV.bin Go.BinOp.eql (AV.prj r641 1) (AV.int 0))) ∧
((isT (AV.bin Go.BinOp.eql (AV.prj r641 1) (AV.int 0))) ∧
((AV.binOk Go.BinOp.eql (AV.prj r1153 1) (AV.int 0)) ∧
((AV.isBool (AV.bin Go.BinOp.eql (AV.prj r641 1) (AV.int 0))) ∧
((isT (AV.bin Go.BinOp.eql (AV.prj r641 1) (AV.int 0))) ∧
((AV.isBool (AV.bin Go.BinOp.eql (AV.prj r1153 1) (AV.int 0))) ∧
((isT (AV.bin Go.BinOp.eql (AV.prj r1153 1) (AV.int 0))) ∧
(∃ r2689 : AV, ((Fn Try.prog 46 [(AV.prj r641 0), (AV.mk 4 [[(AV.lit (Value.string ⟨#[65]⟩)), (AV.int 50), (AV.int 100), (AV.int 100)], [(AV.lit (Value.string ⟨#[66]⟩)), (AV.int 50), (AV.int 100), (AV.int 160)]])] Sh.sc r2689) ∧
((AV.isBool (AV.bin Go.BinOp.eql (AV.prj r1153 1) (AV.int 0))) ∧
((isT (AV.bin Go.BinOp.eql (AV.prj r1153 1) (AV.int 0))) ∧
((AV.isBool r2689) ∧
((isT r2689) ∧
((AV.binOk Go.BinOp.eql (AV.len (AV.prj r1153 0)) (AV.int 2)) ∧
((AV.isBool r2689) ∧
((isT r2689) ∧
((AV.isBool (AV.bin Go.BinOp.eql (AV.len (AV.prj r1153 0)) (AV.int 2))) ∧
((isT (AV.bin Go.BinOp.eql (AV.len (AV.prj r1153 0)) (AV.int 2))) ∧
((AV.inb (AV.prj r1153 0) (AV.int 1)) ∧
((AV.inb (AV.prj r1153 0) (AV.int 1)) ∧
((AV.eqPlOk [(0, EK.str), (1, (EK.int Go.IntKind.i64)), (2, (EK.int Go.IntKind.i64)), (3, (EK.int Go.IntKind.i64))] [(AV.cel (AV.atAgg (AV.prj r1153 0) (AV.int 1) 0 4) 0), (AV.cel (AV.atAgg (AV.prj r1153 0) (AV.int 1) 0 4) 1), (AV.cel (AV.atAgg (AV.prj r1153 0) (AV.int 1) 0 4) 2), (AV.cel (AV.atAgg (AV.prj r1153 0) (AV.int 1) 0 4) 3)] [(AV.lit (Value.string ⟨#[66]⟩)), (AV.int 90), (AV.int 140), (AV.int 160)]) ∧
((AV.isAgg (AV.atAgg (AV.prj r1153 0) (AV.int 1) 0 4) 4) ∧
((AV.isBool (AV.bin Go.BinOp.eql (AV.len (AV.prj r1153 0)) (AV.int 2))) ∧
((isT (AV.bin Go.BinOp.eql (AV.len (AV.prj r1153 0)) (AV.int 2))) ∧
((AV.isBool (AV.eqPl [(0, EK.str), (1, (EK.int Go.IntKind.i64)), (2, (EK.int Go.IntKind.i64)), (3, (EK.int Go.IntKind.i64))] [(AV.cel (AV.atAgg (AV.prj r1153 0) (AV.int 1) 0 4) 0), (AV.cel (AV.atAgg (AV.prj r1153 0) (AV.int 1) 0 4) 1), (AV.cel (AV.atAgg (AV.prj r1153 0) (AV.int 1) 0 4) 2), (AV.cel (AV.atAgg (AV.prj r1153 0) (AV.int 1) 0 4) 3)] [(AV.lit (Value.string ⟨#[66]⟩)), (AV.int 90), (AV.int 140), (AV.int 160)])) ∧
((isT (AV.eqPl [(0, EK.str), (1, (EK.int Go.IntKind.i64)), (2, (EK.int Go.IntKind.i64)), (3, (EK.int Go.IntKind.i64))] [(AV.cel (AV.atAgg (AV.prj r1153 0) (AV.int 1) 0 4) 0), (AV.cel (AV.atAgg (AV.prj r1153 0) (AV.int 1) 0 4) 1), (AV.cel (AV.atAgg (AV.prj r1153 0) (AV.int 1) 0 4) 2), (AV.cel (AV.atAgg (AV.prj r1153 0) (AV.int 1) 0 4) 3)] [(AV.lit (Value.string ⟨#[66]⟩)), (AV.int 90), (AV.int 140), (AV.int 160)])) ∧
((AV.binOk Go.BinOp.eql (AV.prj r1601 0) (AV.int 1)) ∧
((AV.isBool (AV.eqPl [(0, EK.str), (1, (EK.int Go.IntKind.i64)), (2, (EK.int Go.IntKind.i64)), (3, (EK.int Go.IntKind.i64))] [(AV.cel (AV.atAgg (AV.prj r1153 0) (AV.int 1) 0 4) 0), (AV.cel (AV.atAgg (AV.prj r1153 0) (AV.int 1) 0 4) 1), (AV.cel (AV.atAgg (AV.prj r1153 0) (AV.int 1) 0 4) 2), (AV.cel (AV.atAgg (AV.prj r1153 0) (AV.int 1) 0 4) 3)] [(AV.lit (Value.string ⟨#[66]⟩)), (AV.int 90), (AV.int 140), (AV.int 160)])) ∧
((isT (AV.eqPl [(0, EK.str), (1, (EK.int Go.IntKind.i64)), (2, (EK.int Go.IntKind.i64)), (3, (EK.int Go.IntKind.i64))] [(AV.cel (AV.atAgg (AV.prj r1153 0) (AV.int 1) 0 4) 0), (AV.cel (AV.atAgg (AV.prj r1153 0) (AV.int 1) 0 4) 1), (AV.cel (AV.atAgg (AV.prj r1153 0) (AV.int 1) 0 4) 2), (AV.cel (AV.atAgg (AV.prj r1153 0) (AV.int 1) 0 4) 3)] [(AV.lit (Value.string ⟨#[66]⟩)), (AV.int 90), (AV.int 140), (AV.int 160)])) ∧
((AV.isBool (AV.bin Go.BinOp.eql (AV.prj r1601 0) (AV.int 1))) ∧
((isT (AV.bin Go.BinOp.eql (AV.prj r1601 0) (AV.int 1))) ∧
((AV.binOk Go.BinOp.eql (AV.prj r1601 1) (AV.int 100)) ∧
((AV.isBool (AV.bin Go.BinOp.eql (AV.prj r1601 0) (AV.int 1))) ∧
((isT (AV.bin Go.BinOp.eql (AV.prj r1601 0) (AV.int 1))) ∧
((AV.isBool (AV.bin Go.BinOp.eql (AV.prj r1601 1) (AV.int 100))) ∧
((isT (AV.bin Go.BinOp.eql (AV.prj r1601 1) (AV.int 100))) ∧
(∃ r4225 : AV, ((Fn Try.prog 49 [(AV.prj r641 0), (AV.int 120)] Sh.sc r4225) ∧
((AV.binOk Go.BinOp.eql r4225 (AV.int 1)) ∧
((AV.isBool (AV.bin Go.BinOp.eql (AV.prj r1601 1) (AV.int 100))) ∧
((isT (AV.bin Go.BinOp.eql (AV.prj r1601 1) (AV.int 100))) ∧
((AV.isBool (AV.bin Go.BinOp.eql r4225 (AV.int 1))) ∧
((isT (AV.bin Go.BinOp.eql r4225 (AV.int 1))) ∧
((AV.room (AV.mk 2 [[(AV.lit (Value.string ⟨#[83]⟩)), (AV.int 50)]]) (AV.mk 2 [[(AV.lit (Value.string ⟨#[83]⟩)), (AV.int 50)]]) 24) ∧
(∃ r4673 : AV, ((Fn Try.prog 42 [(AV.app 2 (AV.mk 2 [[(AV.lit (Value.string ⟨#[83]⟩)), (AV.int 50)]]) (AV.mk 2 [[(AV.lit (Value.string ⟨#[83]⟩)), (AV.int 50)]]))] Sh.sc r4673) ∧
((AV.binOk Go.BinOp.eql r4673 (AV.int 7)) ∧
((AV.isBool (AV.bin Go.BinOp.eql r4225 (AV.int 1))) ∧
((isT (AV.bin Go.BinOp.eql r4225 (AV.int 1))) ∧
((AV.isBool (AV.bin Go.BinOp.eql r4673 (AV.int 7))) ∧
((isT (AV.bin Go.BinOp.eql r4673 (AV.int 7))) ∧
((AV.room (AV.mk 3 [[(AV.lit (Value.string ⟨#[66]⟩)), (AV.lit (Value.string ⟨#[83]⟩)), (AV.int 50)], [(AV.lit (Value.string ⟨#[65]⟩)), (AV.lit (Value.string ⟨#[83]⟩)), (AV.int 50)]]) (AV.mk 3 [[(AV.lit (Value.string ⟨#[66]⟩)), (AV.lit (Value.string ⟨#[83]⟩)), (AV.int 50)], [(AV.lit (Value.string ⟨#[65]⟩)), (AV.lit (Value.string ⟨#[83]⟩)), (AV.int 50)]]) 40) ∧
(∃ r5185 : AV, ((Fn Try.prog 44 [(AV.mk 2 [[(AV.lit (Value.string ⟨#[83]⟩)), (AV.int 50)]]), (AV.app 3 (AV.mk 3 [[(AV.lit (Value.string ⟨#[66]⟩)), (AV.lit (Value.string ⟨#[83]⟩)), (AV.int 50)], [(AV.lit (Value.string ⟨#[65]⟩)), (AV.lit (Value.string ⟨#[83]⟩)), (AV.int 50)]]) (AV.mk 3 [[(AV.lit (Value.string ⟨#[66]⟩)), (AV.lit (Value.string ⟨#[83]⟩)), (AV.int 50)], [(AV.lit (Value.string ⟨#[65]⟩)), (AV.lit (Value.string ⟨#[83]⟩)), (AV.int 50)]]))] Sh.sc r5185) ∧
((AV.binOk Go.BinOp.eql r5185 (AV.int 7)) ∧
((AV.isBool (AV.bin Go.BinOp.eql r4673 (AV.int 7))) ∧
((isT (AV.bin Go.BinOp.eql r4673 (AV.int 7))) ∧
((AV.flat (AV.bin Go.BinOp.eql r5185 (AV.int 7))) ∧
(fSame (AV.bin Go.BinOp.eql r5185 (AV.int 7)) r))))))))))))))))))))))))))))))))))))))))))))))))))))))))))))))))))) := by kernel_rfl
theorem queues_form (x0 x1 x2 x3 r : AV) : fnF Try.prog Γ ann 3 7 Try.f7 (Try.f7.body.getD .skip) ((.f (.f (.f (.both (.both (.f (.f (.t .nil))) (.both (.f (.f (.t .nil))) (.t (.both (.both (.f (.f (.t .nil))) (.f (.f (.t (.both (.t .nil) (.both (.t .nil) (.f (.both .nil (.t .nil))))))))) (.f (.f (.t (.both (.t .nil) (.both (.t .nil) (.f (.both .nil (.t .nil)))))))))))) (.f (.f (.f (.f (.t (.t .nil))))))))))) [x0, x1, x2, x3] (.sc) r = ((∃ r65 : AV, ((Fn Try.prog 38 [] Sh.sc r65) ∧
((AV.unOk Go.UnOp.not r65) ∧
((AV.isBool (AV.un Go.UnOp.not r65)) ∧
((isF (AV.un Go.UnOp.not r65)) ∧
(∃ r385 : AV, ((Fn Try.prog 39 [x0, x1, x2] (Sh.tup [(Sh.row 76 4 true), Sh.sc]) r385) ∧
(∃ r1025 : AV, ((Fn Try.prog 40 [x0, x1, x2, x3] (Sh.tup [(Sh.row 76 4 true), Sh.sc]) r1025) ∧
(∃ r1537 : AV, ((Fn Try.prog 41 [x0, x1] Sh.sc r1537) ∧
(∃ r1729 : AV, ((Fn Try.prog 42 [x0] Sh.sc r1729) ∧
(∃ r1857 : AV, ((Fn Try.prog 43 [x0] Sh.sc r1857) ∧
((AV.binOk Go.BinOp.neq r1729 r1857) ∧
((AV.isBool (AV.bin Go.BinOp.neq r1729 r1857)) ∧
((isF (AV.bin Go.BinOp.neq r1729 r1857)) ∧
(∃ r2177 : AV, ((Fn Try.prog 44 [x0, x1] Sh.sc r2177) ∧
((AV.binOk Go.BinOp.neq r2177 r1537) ∧
((AV.isBool (AV.bin Go.BinOp.neq r1729 r1857)) ∧
((isF (AV.bin Go.BinOp.neq r1729 r1857)) ∧
((AV.isBool (AV.bin Go.BinOp.neq r2177 r1537)) ∧
((isF (AV.bin Go.BinOp.neq r2177 r1537)) ∧
((AV.binOk Go.BinOp.eql r1537 (AV.int 0)) ∧
((AV.isBool (AV.bin Go.BinOp.eql r1537 (AV.int 0))) ∧
(((isT (AV.bin Go.BinOp.eql r1537 (AV.int 0))) →
  ((AV.binOk Go.BinOp.lss x2 (AV.int 0)) ∧
  ((AV.isBool (AV.bin Go.BinOp.lss x2 (AV.int 0))) ∧
  (((isT (AV.bin Go.BinOp.lss x2 (AV.int 0))) →
    ((AV.isBool (AV.bin Go.BinOp.lss x2 (AV.int 0))) ∧
    ((isT (AV.bin Go.BinOp.lss x2 (AV.int 0))) ∧
    ((AV.isBool (AV.bin Go.BinOp.eql r1537 (AV.int 0))) ∧
    ((isT (AV.bin Go.BinOp.eql r1537 (AV.int 0))) ∧
    ((AV.binOk Go.BinOp.neq (AV.prj r385 1) (AV.int 4)) ∧
    ((AV.isBool (AV.bin Go.BinOp.neq (AV.prj r385 1) (AV.int 4))) ∧
    ((isF (AV.bin Go.BinOp.neq (AV.prj r385 1) (AV.int 4))) ∧
    (∃ r3713 : AV, ((Fn Try.prog 46 [(AV.prj r385 0), (AV.mk 4 [])] Sh.sc r3713) ∧
    ((AV.unOk Go.UnOp.not r3713) ∧
    ((AV.isBool (AV.bin Go.BinOp.neq (AV.prj r385 1) (AV.int 4))) ∧
    ((isF (AV.bin Go.BinOp.neq (AV.prj r385 1) (AV.int 4))) ∧
    ((AV.isBool (AV.un Go.UnOp.not r3713)) ∧
    ((isF (AV.un Go.UnOp.not r3713)) ∧
    ((AV.binOk Go.BinOp.eql (AV.prj r1025 1) (AV.int 4)) ∧
    ((AV.isBool (AV.bin Go.BinOp.eql (AV.prj r1025 1) (AV.int 4))) ∧
    ((isT (AV.bin Go.BinOp.eql (AV.prj r1025 1) (AV.int 4))) ∧
    ((AV.binOk Go.BinOp.eql (AV.len (AV.prj r1025 0)) (AV.int 0)) ∧
    ((AV.isBool (AV.bin Go.BinOp.eql (AV.prj r1025 1) (AV.int 4))) ∧
    ((isT (AV.bin Go.BinOp.eql (AV.prj r1025 1) (AV.int 4))) ∧
    ((AV.flat (AV.bin Go.BinOp.eql (AV.len (AV.prj r1025 0)) (AV.int 0))) ∧
    (fSame (AV.bin Go.BinOp.eql (AV.len (AV.prj r1025 0)) (AV.int 0)) r))))))))))))))))))))))) ∧
  ((isF (AV.bin Go.BinOp.lss x2 (AV.int 0))) →
    ((AV.binOk Go.BinOp.gtr x2 (AV.int 1800)) ∧
    ((AV.isBool (AV.bin Go.BinOp.lss x2 (AV.int 0))) ∧
    ((isF (AV.bin Go.BinOp.lss x2 (AV.int 0))) ∧
    ((AV.isBool (AV.bin Go.BinOp.eql r1537 (AV.int 0))) ∧
    ((isT (AV.bin Go.BinOp.eql r1537 (AV.int 0))) ∧
    ((AV.isBool (AV.bin Go.BinOp.gtr x2 (AV.int 1800))) ∧
    (((isT (AV.bin Go.BinOp.gtr x2 (AV.int 1800))) →
      ((AV.binOk Go.BinOp.neq (AV.prj r385 1) (AV.int 4)) ∧
      ((AV.isBool (AV.bin Go.BinOp.neq (AV.prj r385 1) (AV.int 4))) ∧
      ((isF (AV.bin Go.BinOp.neq (AV.prj r385 1) (AV.int 4))) ∧
      (∃ r3713 : AV, ((Fn Try.prog 46 [(AV.prj r385 0), (AV.mk 4 [])] Sh.sc r3713) ∧
      ((AV.unOk Go.UnOp.not r3713) ∧
      ((AV.isBool (AV.bin Go.BinOp.neq (AV.prj r385 1) (AV.int 4))) ∧
      ((isF (AV.bin Go.BinOp.neq (AV.prj r385 1) (AV.int 4))) ∧
      ((AV.isBool (AV.un Go.UnOp.not r3713)) ∧
      ((isF (AV.un Go.UnOp.not r3713)) ∧
      ((AV.binOk Go.BinOp.eql (AV.prj r1025 1) (AV.int 4)) ∧
      ((AV.isBool (AV.bin Go.BinOp.eql (AV.prj r1025 1) (AV.int 4))) ∧
      ((isT (AV.bin Go.BinOp.eql (AV.prj r1025 1) (AV.int 4))) ∧
      ((AV.binOk Go.BinOp.eql (AV.len (AV.prj r1025 0)) (AV.int 0)) ∧
      ((AV.isBool (AV.bin Go.BinOp.eql (AV.prj r1025 1) (AV.int 4))) ∧
      ((isT (AV.bin Go.BinOp.eql (AV.prj r1025 1) (AV.int 4))) ∧
      ((AV.flat (AV.bin Go.BinOp.eql (AV.len (AV.prj r1025 0)) (AV.int 0))) ∧
      (fSame (AV.bin Go.BinOp.eql (AV.len (AV.prj r1025 0)) (AV.int 0)) r))))))))))))))))))) ∧
    ((isF (AV.bin Go.BinOp.gtr x2 (AV.int 1800))) →
      ((AV.binOk Go.BinOp.eql r1537 (AV.int 0)) ∧
      ((AV.isBool (AV.bin Go.BinOp.eql r1537 (AV.int 0))) ∧
      ((isT (AV.bin Go.BinOp.eql r1537 (AV.int 0))) ∧
      (∃ r3457 : AV, ((Fn Try.prog 45 [x0, x1, x2] (Sh.row 76 4 true) r3457) ∧
      ((AV.binOk Go.BinOp.gtr (AV.len r3457) (AV.int 0)) ∧
      ((AV.isBool (AV.bin Go.BinOp.gtr (AV.len r3457) (AV.int 0))) ∧
      (((isT (AV.bin Go.BinOp.gtr (AV.len r3457) (AV.int 0))) →
        ((AV.binOk Go.BinOp.sub (AV.len r3457) (AV.int 1)) ∧
        ((AV.inb r3457 (AV.bin Go.BinOp.sub (AV.len r3457) (AV.int 1))) ∧
        ((AV.inb r3457 (AV.bin Go.BinOp.sub (AV.len r3457) (AV.int 1))) ∧
        ((AV.binOk Go.BinOp.gtr (AV.at r3457 (AV.bin Go.BinOp.sub (AV.len r3457) (AV.int 1)) 3) (AV.int 200000)) ∧
        ((AV.isBool (AV.bin Go.BinOp.gtr (AV.len r3457) (AV.int 0))) ∧
        ((isT (AV.bin Go.BinOp.gtr (AV.len r3457) (AV.int 0))) ∧
        ((AV.isBool (AV.bin Go.BinOp.gtr (AV.at r3457 (AV.bin Go.BinOp.sub (AV.len r3457) (AV.int 1)) 3) (AV.int 200000))) ∧
        (((isT (AV.bin Go.BinOp.gtr (AV.at r3457 (AV.bin Go.BinOp.sub (AV.len r3457) (AV.int 1)) 3) (AV.int 200000))) →
          ((AV.binOk Go.BinOp.neq (AV.prj r385 1) (AV.int 12)) ∧
          ((AV.isBool (AV.bin Go.BinOp.neq (AV.prj r385 1) (AV.int 12))) ∧
          ((isF (AV.bin Go.BinOp.neq (AV.prj r385 1) (AV.int 12))) ∧
          (∃ r4929 : AV, ((Fn Try.prog 46 [(AV.prj r385 0), (AV.mk 4 [])] Sh.sc r4929) ∧
          ((AV.unOk Go.UnOp.not r4929) ∧
          ((AV.isBool (AV.bin Go.BinOp.neq (AV.prj r385 1) (AV.int 12))) ∧
          ((isF (AV.bin Go.BinOp.neq (AV.prj r385 1) (AV.int 12))) ∧
          ((AV.isBool (AV.un Go.UnOp.not r4929)) ∧
          ((isF (AV.un Go.UnOp.not r4929)) ∧
          ((AV.binOk Go.BinOp.eql (AV.prj r1025 1) (AV.int 12)) ∧
          ((AV.isBool (AV.bin Go.BinOp.eql (AV.prj r1025 1) (AV.int 12))) ∧
          ((isT (AV.bin Go.BinOp.eql (AV.prj r1025 1) (AV.int 12))) ∧
          ((AV.binOk Go.BinOp.eql (AV.len (AV.prj r1025 0)) (AV.int 0)) ∧
          ((AV.isBool (AV.bin Go.BinOp.eql (AV.prj r1025 1) (AV.int 12))) ∧
          ((isT (AV.bin Go.BinOp.eql (AV.prj r1025 1) (AV.int 12))) ∧
          ((AV.flat (AV.bin Go.BinOp.eql (AV.len (AV.prj r1025 0)) (AV.int 0))) ∧
          (fSame (AV.bin Go.BinOp.eql (AV.len (AV.prj r1025 0)) (AV.int 0)) r))))))))))))))))))) ∧
        ((isF (AV.bin Go.BinOp.gtr (AV.at r3457 (AV.bin Go.BinOp.sub (AV.len r3457) (AV.int 1)) 3) (AV.int 200000))) →
          ((AV.binOk Go.BinOp.neq (AV.prj r385 1) r1537) ∧
          ((AV.isBool (AV.bin Go.BinOp.neq (AV.prj r385 1) r1537)) ∧
          ((isF (AV.bin Go.BinOp.neq (AV.prj r385 1) r1537)) ∧
          (∃ r4801 : AV, ((Fn Try.prog 46 [(AV.prj r385 0), r3457] Sh.sc r4801) ∧
          ((AV.unOk Go.UnOp.not r4801) ∧
          ((AV.isBool (AV.bin Go.BinOp.neq (AV.prj r385 1) r1537)) ∧
          ((isF (AV.bin Go.BinOp.neq (AV.prj r385 1) r1537)) ∧
          ((AV.isBool (AV.un Go.UnOp.not r4801)) ∧
          ((isF (AV.un Go.UnOp.not r4801)) ∧
          ((AV.binOk Go.BinOp.eql r1537 (AV.int 0)) ∧
          ((AV.isBool (AV.bin Go.BinOp.eql r1537 (AV.int 0))) ∧
          ((isT (AV.bin Go.BinOp.eql r1537 (AV.int 0))) ∧
          ((AV.binOk Go.BinOp.lss x3 (AV.int 0)) ∧
          ((AV.isBool (AV.bin Go.BinOp.lss x3 (AV.int 0))) ∧
          (((isT (AV.bin Go.BinOp.lss x3 (AV.int 0))) →
            ((AV.isBool (AV.bin Go.BinOp.lss x3 (AV.int 0))) ∧
            ((isT (AV.bin Go.BinOp.lss x3 (AV.int 0))) ∧
            ((AV.isBool (AV.bin Go.BinOp.eql r1537 (AV.int 0))) ∧
            ((isT (AV.bin Go.BinOp.eql r1537 (AV.int 0))) ∧
            ((AV.binOk Go.BinOp.eql (AV.prj r1025 1) (AV.int 4)) ∧
            ((AV.isBool (AV.bin Go.BinOp.eql (AV.prj r1025 1) (AV.int 4))) ∧
            ((isT (AV.bin Go.BinOp.eql (AV.prj r1025 1) (AV.int 4))) ∧
            ((AV.binOk Go.BinOp.eql (AV.len (AV.prj r1025 0)) (AV.int 0)) ∧
            ((AV.isBool (AV.bin Go.BinOp.eql (AV.prj r1025 1) (AV.int 4))) ∧
            ((isT (AV.bin Go.BinOp.eql (AV.prj r1025 1) (AV.int 4))) ∧
            ((AV.flat (AV.bin Go.BinOp.eql (AV.len (AV.prj r1025 0)) (AV.int 0))) ∧
            (fSame (AV.bin Go.BinOp.eql (AV.len (AV.prj r1025 0)) (AV.int 0)) r))))))))))))) ∧
          ((isF (AV.bin Go.BinOp.lss x3 (AV.int 0))) →
            ((AV.binOk Go.BinOp.gtr x3 (AV.int 1800)) ∧
            ((AV.isBool (AV.bin Go.BinOp.lss x3 (AV.int 0))) ∧
            ((isF (AV.bin Go.BinOp.lss x3 (AV.int 0))) ∧
            ((AV.isBool (AV.bin Go.BinOp.eql r1537 (AV.int 0))) ∧
            ((isT (AV.bin Go.BinOp.eql r1537 (AV.int 0))) ∧
            ((AV.isBool (AV.bin Go.BinOp.gtr x3 (AV.int 1800))) ∧
            (((isT (AV.bin Go.BinOp.gtr x3 (AV.int 1800))) →
              ((AV.binOk Go.BinOp.eql (AV.prj r1025 1) (AV.int 4)) ∧
              ((AV.isBool (AV.bin Go.BinOp.eql (AV.prj r1025 1) (AV.int 4))) ∧
              ((isT (AV.bin Go.BinOp.eql (AV.prj r1025 1) (AV.int 4))) ∧
              ((AV.binOk Go.BinOp.eql (AV.len (AV.prj r1025 0)) (AV.int 0)) ∧
              ((AV.isBool (AV.bin Go.BinOp.eql (AV.prj r1025 1) (AV.int 4))) ∧
              ((isT (AV.bin Go.BinOp.eql (AV.prj r1025 1) (AV.int 4))) ∧
              ((AV.flat (AV.bin Go.BinOp.eql (AV.len (AV.prj r1025 0)) (AV.int 0))) ∧
              (fSame (AV.bin Go.BinOp.eql (AV.len (AV.prj r1025 0)) (AV.int 0)) r))))))))) ∧
            ((isF (AV.bin Go.BinOp.gtr x3 (AV.int 1800))) →
              ((AV.binOk Go.BinOp.neq r1537 (AV.int 0)) ∧
              ((AV.isBool (AV.bin Go.BinOp.neq r1537 (AV.int 0))) ∧
              ((isF (AV.bin Go.BinOp.neq r1537 (AV.int 0))) ∧
              (fLoop 5953 [(AV.int 0), r3457] fun ys5953 again5953 =>
                ((AV.binOk Go.BinOp.lss (ys5953.getD 0 default) (AV.len r3457)) ∧
                ((AV.isBool (AV.bin Go.BinOp.lss (ys5953.getD 0 default) (AV.len r3457))) ∧
                (((isT (AV.bin Go.BinOp.lss (ys5953.getD 0 default) (AV.len r3457))) →
                  (fLoop 6145 [(ys5953.getD 1 default)] fun ys6145 again6145 =>
                    ((AV.inb (ys6145.getD 0 default) (ys5953.getD 0 default)) ∧
                    ((AV.inb (ys6145.getD 0 default) (ys5953.getD 0 default)) ∧
                    ((AV.inb (ys6145.getD 0 default) (ys5953.getD 0 default)) ∧
                    ((AV.inb (ys6145.getD 0 default) (ys5953.getD 0 default)) ∧
                    ((AV.binOk Go.BinOp.sub (AV.at (ys6145.getD 0 default) (ys5953.getD 0 default) 3) (AV.at (ys6145.getD 0 default) (ys5953.getD 0 default) 2)) ∧
                    ((AV.binOk Go.BinOp.gtr (AV.bin Go.BinOp.sub (AV.at (ys6145.getD 0 default) (ys5953.getD 0 default) 3) (AV.at (ys6145.getD 0 default) (ys5953.getD 0 default) 2)) x3) ∧
                    ((AV.isBool (AV.bin Go.BinOp.gtr (AV.bin Go.BinOp.sub (AV.at (ys6145.getD 0 default) (ys5953.getD 0 default) 3) (AV.at (ys6145.getD 0 default) (ys5953.getD 0 default) 2)) x3)) ∧
                    (((isT (AV.bin Go.BinOp.gtr (AV.bin Go.BinOp.sub (AV.at (ys6145.getD 0 default) (ys5953.getD 0 default) 3) (AV.at (ys6145.getD 0 default) (ys5953.getD 0 default) 2)) x3)) →
                      ((AV.inb (ys6145.getD 0 default) (ys5953.getD 0 default)) ∧
                      ((AV.inb (ys6145.getD 0 default) (ys5953.getD 0 default)) ∧
                      ((AV.binOk Go.BinOp.add (AV.at (ys6145.getD 0 default) (ys5953.getD 0 default) 1) (AV.int 1)) ∧
                      ((AV.inb (ys6145.getD 0 default) (ys5953.getD 0 default)) ∧
                      ((AV.isOne (AV.bin Go.BinOp.add (AV.at (ys6145.getD 0 default) (ys5953.getD 0 default) 1) (AV.int 1))) ∧
                      ((AV.inb (ys6145.getD 0 default) (ys5953.getD 0 default)) ∧
                      ((AV.inb (AV.setEl (ys6145.getD 0 default) (ys5953.getD 0 default) 1 [(AV.bin Go.BinOp.add (AV.at (ys6145.getD 0 default) (ys5953.getD 0 default) 1) (AV.int 1))]) (ys5953.getD 0 default)) ∧
                      ((AV.inb (AV.setEl (ys6145.getD 0 default) (ys5953.getD 0 default) 1 [(AV.bin Go.BinOp.add (AV.at (ys6145.getD 0 default) (ys5953.getD 0 default) 1) (AV.int 1))]) (ys5953.getD 0 default)) ∧
                      ((AV.binOk Go.BinOp.add (AV.at (AV.setEl (ys6145.getD 0 default) (ys5953.getD 0 default) 1 [(AV.bin Go.BinOp.add (AV.at (ys6145.getD 0 default) (ys5953.getD 0 default) 1) (AV.int 1))]) (ys5953.getD 0 default) 2) (AV.int 1)) ∧
                      ((AV.inb (AV.setEl (ys6145.getD 0 default) (ys5953.getD 0 default) 1 [(AV.bin Go.BinOp.add (AV.at (ys6145.getD 0 default) (ys5953.getD 0 default) 1) (AV.int 1))]) (ys5953.getD 0 default)) ∧
                      ((AV.isOne (AV.bin Go.BinOp.add (AV.at (AV.setEl (ys6145.getD 0 default) (ys5953.getD 0 default) 1 [(AV.bin Go.BinOp.add (AV.at (ys6145.getD 0 default) (ys5953.getD 0 default) 1) (AV.int 1))]) (ys5953.getD 0 default) 2) (AV.int 1))) ∧
                      ((AV.inb (AV.setEl (ys6145.getD 0 default) (ys5953.getD 0 default) 1 [(AV.bin Go.BinOp.add (AV.at (ys6145.getD 0 default) (ys5953.getD 0 default) 1) (AV.int 1))]) (ys5953.getD 0 default)) ∧
                      (again6145 [(AV.setEl (AV.setEl (ys6145.getD 0 default) (ys5953.getD 0 default) 1 [(AV.bin Go.BinOp.add (AV.at (ys6145.getD 0 default) (ys5953.getD 0 default) 1) (AV.int 1))]) (ys5953.getD 0 default) 2 [(AV.bin Go.BinOp.add (AV.at (AV.setEl (ys6145.getD 0 default) (ys5953.getD 0 default) 1 [(AV.bin Go.BinOp.add (AV.at (ys6145.getD 0 default) (ys5953.getD 0 default) 1) (AV.int 1))]) (ys5953.getD 0 default) 2) (AV.int 1))])])))))))))))))) ∧
                    ((isF (AV.bin Go.BinOp.gtr (AV.bin Go.BinOp.sub (AV.at (ys6145.getD 0 default) (ys5953.getD 0 default) 3) (AV.at (ys6145.getD 0 default) (ys5953.getD 0 default) 2)) x3)) →
                      ((AV.binOk Go.BinOp.add (ys5953.getD 0 default) (AV.int 1)) ∧
                      (again5953 [(AV.bin Go.BinOp.add (ys5953.getD 0 default) (AV.int 1)), (ys6145.getD 0 default)]))))))))))))) ∧
                ((isF (AV.bin Go.BinOp.lss (ys5953.getD 0 default) (AV.len r3457))) →
                  ((AV.binOk Go.BinOp.eql (AV.prj r1025 1) (AV.int 0)) ∧
                  ((AV.isBool (AV.bin Go.BinOp.eql (AV.prj r1025 1) (AV.int 0))) ∧
                  ((isT (AV.bin Go.BinOp.eql (AV.prj r1025 1) (AV.int 0))) ∧
                  (∃ r6337 : AV, ((Fn Try.prog 46 [(AV.prj r1025 0), (ys5953.getD 1 default)] Sh.sc r6337) ∧
                  ((AV.isBool (AV.bin Go.BinOp.eql (AV.prj r1025 1) (AV.int 0))) ∧
                  ((isT (AV.bin Go.BinOp.eql (AV.prj r1025 1) (AV.int 0))) ∧
                  ((AV.flat r6337) ∧
                  (fSame r6337 r)))))))))))))))))))))))))))))))))))))))))))))))))))) ∧
      ((isF (AV.bin Go.BinOp.gtr (AV.len r3457) (AV.int 0))) →
        ((AV.isBool (AV.bin Go.BinOp.gtr (AV.len r3457) (AV.int 0))) ∧
        ((isF (AV.bin Go.BinOp.gtr (AV.len r3457) (AV.int 0))) ∧
        ((AV.binOk Go.BinOp.neq (AV.prj r385 1) r1537) ∧
        ((AV.isBool (AV.bin Go.BinOp.neq (AV.prj r385 1) r1537)) ∧
        ((isF (AV.bin Go.BinOp.neq (AV.prj r385 1) r1537)) ∧
        (∃ r4801 : AV, ((Fn Try.prog 46 [(AV.prj r385 0), r3457] Sh.sc r4801) ∧
        ((AV.unOk Go.UnOp.not r4801) ∧
        ((AV.isBool (AV.bin Go.BinOp.neq (AV.prj r385 1) r1537)) ∧
        ((isF (AV.bin Go.BinOp.neq (AV.prj r385 1) r1537)) ∧
        ((AV.isBool (AV.un Go.UnOp.not r4801)) ∧
        ((isF (AV.un Go.UnOp.not r4801)) ∧
        ((AV.binOk Go.BinOp.eql r1537 (AV.int 0)) ∧
        ((AV.isBool (AV.bin Go.BinOp.eql r1537 (AV.int 0))) ∧
        ((isT (AV.bin Go.BinOp.eql r1537 (AV.int 0))) ∧
        ((AV.binOk Go.BinOp.lss x3 (AV.int 0)) ∧
        ((AV.isBool (AV.bin Go.BinOp.lss x3 (AV.int 0))) ∧
        (((isT (AV.bin Go.BinOp.lss x3 (AV.int 0))) →
          ((AV.isBool (AV.bin Go.BinOp.lss x3 (AV.int 0))) ∧
          ((isT (AV.bin Go.BinOp.lss x3 (AV.int 0))) ∧
          ((AV.isBool (AV.bin Go.BinOp.eql r1537 (AV.int 0))) ∧
          ((isT (AV.bin Go.BinOp.eql r1537 (AV.int 0))) ∧
          ((AV.binOk Go.BinOp.eql (AV.prj r1025 1) (AV.int 4)) ∧
          ((AV.isBool (AV.bin Go.BinOp.eql (AV.prj r1025 1) (AV.int 4))) ∧
          ((isT (AV.bin Go.BinOp.eql (AV.prj r1025 1) (AV.int 4))) ∧
          ((AV.binOk Go.BinOp.eql (AV.len (AV.prj r1025 0)) (AV.int 0)) ∧
          ((AV.isBool (AV.bin Go.BinOp.eql (AV.prj r1025 1) (AV.int 4))) ∧
          ((isT (AV.bin Go.BinOp.eql (AV.prj r1025 1) (AV.int 4))) ∧
          ((AV.flat (AV.bin Go.BinOp.eql (AV.len (AV.prj r1025 0)) (AV.int 0))) ∧
          (fSame (AV.bin Go.BinOp.eql (AV.len (AV.prj r1025 0)) (AV.int 0)) r))))))))))))) ∧
        ((isF (AV.bin Go.BinOp.lss x3 (AV.int 0))) →
          ((AV.binOk Go.BinOp.gtr x3 (AV.int 1800)) ∧
          ((AV.isBool (AV.bin Go.BinOp.lss x3 (AV.int 0))) ∧
          ((isF (AV.bin Go.BinOp.lss x3 (AV.int 0))) ∧
          ((AV.isBool (AV.bin Go.BinOp.eql r1537 (AV.int 0))) ∧
          ((isT (AV.bin Go.BinOp.eql r1537 (AV.int 0))) ∧
          ((AV.isBool (AV.bin Go.BinOp.gtr x3 (AV.int 1800))) ∧
          (((isT (AV.bin Go.BinOp.gtr x3 (AV.int 1800))) →
            ((AV.binOk Go.BinOp.eql (AV.prj r1025 1) (AV.int 4)) ∧
            ((AV.isBool (AV.bin Go.BinOp.eql (AV.prj r1025 1) (AV.int 4))) ∧
            ((isT (AV.bin Go.BinOp.eql (AV.prj r1025 1) (AV.int 4))) ∧
            ((AV.binOk Go.BinOp.eql (AV.len (AV.prj r1025 0)) (AV.int 0)) ∧
            ((AV.isBool (AV.bin Go.BinOp.eql (AV.prj r1025 1) (AV.int 4))) ∧
            ((isT (AV.bin Go.BinOp.eql (AV.prj r1025 1) (AV.int 4))) ∧
            ((AV.flat (AV.bin Go.BinOp.eql (AV.len (AV.prj r1025 0)) (AV.int 0))) ∧
            (fSame (AV.bin Go.BinOp.eql (AV.len (AV.prj r1025 0)) (AV.int 0)) r))))))))) ∧
          ((isF (AV.bin Go.BinOp.gtr x3 (AV.int 1800))) →
            ((AV.binOk Go.BinOp.neq r1537 (AV.int 0)) ∧
            ((AV.isBool (AV.bin Go.BinOp.neq r1537 (AV.int 0))) ∧
            ((isF (AV.bin Go.BinOp.neq r1537 (AV.int 0))) ∧
            (fLoop 5953 [(AV.int 0), r3457] fun ys5953 again5953 =>
              ((AV.binOk Go.BinOp.lss (ys5953.getD 0 default) (AV.len r3457)) ∧
              ((AV.isBool (AV.bin Go.BinOp.lss (ys5953.getD 0 default) (AV.len r3457))) ∧
              (((isT (AV.bin Go.BinOp.lss (ys5953.getD 0 default) (AV.len r3457))) →
                (fLoop 6145 [(ys5953.getD 1 default)] fun ys6145 again6145 =>
                  ((AV.inb (ys6145.getD 0 default) (ys5953.getD 0 default)) ∧
                  ((AV.inb (ys6145.getD 0 default) (ys5953.getD 0 default)) ∧
                  ((AV.inb (ys6145.getD 0 default) (ys5953.getD 0 default)) ∧
                  ((AV.inb (ys6145.getD 0 default) (ys5953.getD 0 default)) ∧
                  ((AV.binOk Go.BinOp.sub (AV.at (ys6145.getD 0 default) (ys5953.getD 0 default) 3) (AV.at (ys6145.getD 0 default) (ys5953.getD 0 default) 2)) ∧
                  ((AV.binOk Go.BinOp.gtr (AV.bin Go.BinOp.sub (AV.at (ys6145.getD 0 default) (ys5953.getD 0 default) 3) (AV.at (ys6145.getD 0 default) (ys5953.getD 0 default) 2)) x3) ∧
                  ((AV.isBool (AV.bin Go.BinOp.gtr (AV.bin Go.BinOp.sub (AV.at (ys6145.getD 0 default) (ys5953.getD 0 default) 3) (AV.at (ys6145.getD 0 default) (ys5953.getD 0 default) 2)) x3)) ∧
                  (((isT (AV.bin Go.BinOp.gtr (AV.bin Go.BinOp.sub (AV.at (ys6145.getD 0 default) (ys5953.getD 0 default) 3) (AV.at (ys6145.getD 0 default) (ys5953.getD 0 default) 2)) x3)) →
                    ((AV.inb (ys6145.getD 0 default) (ys5953.getD 0 default)) ∧
                    ((AV.inb (ys6145.getD 0 default) (ys5953.getD 0 default)) ∧
                    ((AV.binOk Go.BinOp.add (AV.at (ys6145.getD 0 default) (ys5953.getD 0 default) 1) (AV.int 1)) ∧
                    ((AV.inb (ys6145.getD 0 default) (ys5953.getD 0 default)) ∧
                    ((AV.isOne (AV.bin Go.BinOp.add (AV.at (ys6145.getD 0 default) (ys5953.getD 0 default) 1) (AV.int 1))) ∧
                    ((AV.inb (ys6145.getD 0 default) (ys5953.getD 0 default)) ∧
                    ((AV.inb (AV.setEl (ys6145.getD 0 default) (ys5953.getD 0 default) 1 [(AV.bin Go.BinOp.add (AV.at (ys6145.getD 0 default) (ys5953.getD 0 default) 1) (AV.int 1))]) (ys5953.getD 0 default)) ∧
                    ((AV.inb (AV.setEl (ys6145.getD 0 default) (ys5953.getD 0 default) 1 [(AV.bin Go.BinOp.add (AV.at (ys6145.getD 0 default) (ys5953.getD 0 default) 1) (AV.int 1))]) (ys5953.getD 0 default)) ∧
                    ((AV.binOk Go.BinOp.add (AV.at (AV.setEl (ys6145.getD 0 default) (ys5953.getD 0 default) 1 [(AV.bin Go.BinOp.add (AV.at (ys6145.getD 0 default) (ys5953.getD 0 default) 1) (AV.int 1))]) (ys5953.getD 0 default) 2) (AV.int 1)) ∧
                    ((AV.inb (AV.setEl (ys6145.getD 0 default) (ys5953.getD 0 default) 1 [(AV.bin Go.BinOp.add (AV.at (ys6145.getD 0 default) (ys5953.getD 0 default) 1) (AV.int 1))]) (ys5953.getD 0 default)) ∧
                    ((AV.isOne (AV.bin Go.BinOp.add (AV.at (AV.setEl (ys6145.getD 0 default) (ys5953.getD 0 default) 1 [(AV.bin Go.BinOp.add (AV.at (ys6145.getD 0 default) (ys5953.getD 0 default) 1) (AV.int 1))]) (ys5953.getD 0 default) 2) (AV.int 1))) ∧
                    ((AV.inb (AV.setEl (ys6145.getD 0 default) (ys5953.getD 0 default) 1 [(AV.bin Go.BinOp.add (AV.at (ys6145.getD 0 default) (ys5953.getD 0 default) 1) (AV.int 1))]) (ys5953.getD 0 default)) ∧
                    (again6145 [(AV.setEl (AV.setEl (ys6145.getD 0 default) (ys5953.getD 0 default) 1 [(AV.bin Go.BinOp.add (AV.at (ys6145.getD 0 default) (ys5953.getD 0 default) 1) (AV.int 1))]) (ys5953.getD 0 default) 2 [(AV.bin Go.BinOp.add (AV.at (AV.setEl (ys6145.getD 0 default) (ys5953.getD 0 default) 1 [(AV.bin Go.BinOp.add (AV.at (ys6145.getD 0 default) (ys5953.getD 0 default) 1) (AV.int 1))]) (ys5953.getD 0 default) 2) (AV.int 1))])])))))))))))))) ∧
                  ((isF (AV.bin Go.BinOp.gtr (AV.bin Go.BinOp.sub (AV.at (ys6145.getD 0 default) (ys5953.getD 0 default) 3) (AV.at (ys6145.getD 0 default) (ys5953.getD 0 default) 2)) x3)) →
                    ((AV.binOk Go.BinOp.add (ys5953.getD 0 default) (AV.int 1)) ∧
                    (again5953 [(AV.bin Go.BinOp.add (ys5953.getD 0 default) (AV.int 1)), (ys6145.getD 0 default)]))))))))))))) ∧
              ((isF (AV.bin Go.BinOp.lss (ys5953.getD 0 default) (AV.len r3457))) →
                ((AV.binOk Go.BinOp.eql (AV.prj r1025 1) (AV.int 0)) ∧
                ((AV.isBool (AV.bin Go.BinOp.eql (AV.prj r1025 1) (AV.int 0))) ∧
                ((isT (AV.bin Go.BinOp.eql (AV.prj r1025 1) (AV.int 0))) ∧
                (∃ r6337 : AV, ((Fn Try.prog 46 [(AV.prj r1025 0), (ys5953.getD 1 default)] Sh.sc r6337) ∧
                ((AV.isBool (AV.bin Go.BinOp.eql (AV.prj r1025 1) (AV.int 0))) ∧
                ((isT (AV.bin Go.BinOp.eql (AV.prj r1025 1) (AV.int 0))) ∧
                ((AV.flat r6337) ∧
                (fSame r6337 r)))))))))))))))))))))))))))))))))))))))))))))))))))))))))))))))))) ∧
((isF (AV.bin Go.BinOp.eql r1537 (AV.int 0))) →
  ((AV.isBool (AV.bin Go.BinOp.eql r1537 (AV.int 0))) ∧
  ((isF (AV.bin Go.BinOp.eql r1537 (AV.int 0))) ∧
  ((AV.binOk Go.BinOp.eql r1537 (AV.int 0)) ∧
  ((AV.isBool (AV.bin Go.BinOp.eql r1537 (AV.int 0))) ∧
  ((isF (AV.bin Go.BinOp.eql r1537 (AV.int 0))) ∧
  ((AV.binOk Go.BinOp.neq (AV.prj r385 1) r1537) ∧
  ((AV.isBool (AV.bin Go.BinOp.neq (AV.prj r385 1) r1537)) ∧
  ((isF (AV.bin Go.BinOp.neq (AV.prj r385 1) r1537)) ∧
  (∃ r3649 : AV, ((Fn Try.prog 46 [(AV.prj r385 0), (AV.mk 4 [])] Sh.sc r3649) ∧
  ((AV.unOk Go.UnOp.not r3649) ∧
  ((AV.isBool (AV.bin Go.BinOp.neq (AV.prj r385 1) r1537)) ∧
  ((isF (AV.bin Go.BinOp.neq (AV.prj r385 1) r1537)) ∧
  ((AV.isBool (AV.un Go.UnOp.not r3649)) ∧
  ((isF (AV.un Go.UnOp.not r3649)) ∧
  ((AV.binOk Go.BinOp.eql r1537 (AV.int 0)) ∧
  ((AV.isBool (AV.bin Go.BinOp.eql r1537 (AV.int 0))) ∧
  ((isF (AV.bin Go.BinOp.eql r1537 (AV.int 0))) ∧
  ((AV.isBool (AV.bin Go.BinOp.eql r1537 (AV.int 0))) ∧
  ((isF (AV.bin Go.BinOp.eql r1537 (AV.int 0))) ∧
  ((AV.binOk Go.BinOp.neq r1537 (AV.int 0)) ∧
  ((AV.isBool (AV.bin Go.BinOp.neq r1537 (AV.int 0))) ∧
  ((isT (AV.bin Go.BinOp.neq r1537 (AV.int 0))) ∧
  ((AV.binOk Go.BinOp.eql (AV.prj r1025 1) r1537) ∧
  ((AV.isBool (AV.bin Go.BinOp.eql (AV.prj r1025 1) r1537)) ∧
  ((isT (AV.bin Go.BinOp.eql (AV.prj r1025 1) r1537)) ∧
  ((AV.binOk Go.BinOp.eql (AV.len (AV.prj r1025 0)) (AV.int 0)) ∧
  ((AV.isBool (AV.bin Go.BinOp.eql (AV.prj r1025 1) r1537)) ∧
  ((isT (AV.bin Go.BinOp.eql (AV.prj r1025 1) r1537)) ∧
  ((AV.flat (AV.bin Go.BinOp.eql (AV.len (AV.prj r1025 0)) (AV.int 0))) ∧
  (fSame (AV.bin Go.BinOp.eql (AV.len (AV.prj r1025 0)) (AV.int 0)) r))))))))))))))))))))))))))))))))))))))))))))))))))))))))))))) := by kernel_rfl
theorem waits_form (x0 x1 r : AV) : fnF Try.prog Γ ann 3 8 Try.f8 (Try.f8.body.getD .skip) ((.f (.both .nil (.both .nil (.t (.t .nil)))))) [x0, x1] (.sc) r = (((AV.isOne x0) ∧
(∃ r129 : AV, ((Fn Try.prog 38 [] Sh.sc r129) ∧
((AV.unOk Go.UnOp.not r129) ∧
((AV.isBool (AV.un Go.UnOp.not r129)) ∧
((isF (AV.un Go.UnOp.not r129)) ∧
((AV.isSl x0 4) ∧
((AV.binOk Go.BinOp.gtr (AV.len x0) (AV.int 60)) ∧
((AV.isBool (AV.bin Go.BinOp.gtr (AV.len x0) (AV.int 60))) ∧
(((isT (AV.bin Go.BinOp.gtr (AV.len x0) (AV.int 60))) →
  ((AV.flat (AV.bool true)) ∧
  (fSame (AV.bool true) r))) ∧
((isF (AV.bin Go.BinOp.gtr (AV.len x0) (AV.int 60))) →
  ((AV.isSl x0 4) ∧
  (fLoop 897 [(AV.int 0), (AV.int 0), (AV.int 0)] fun ys897 again897 =>
    ((AV.binOk Go.BinOp.lss (ys897.getD 2 default) (AV.len x0)) ∧
    ((AV.isBool (AV.bin Go.BinOp.lss (ys897.getD 2 default) (AV.len x0))) ∧
    (((isT (AV.bin Go.BinOp.lss (ys897.getD 2 default) (AV.len x0))) →
      ((AV.isSl x0 4) ∧
      ((AV.inb x0 (ys897.getD 2 default)) ∧
      ((AV.isAgg (AV.atAgg x0 (ys897.getD 2 default) 0 4) 4) ∧
      (∃ r1409 : AV, ((Fn Try.prog 47 [(AV.cel (AV.atAgg x0 (ys897.getD 2 default) 0 4) 2), (AV.mkRef [x0])] Sh.sc r1409) ∧
      ((AV.binOk Go.BinOp.gtr r1409 (ys897.getD 0 default)) ∧
      ((AV.isBool (AV.bin Go.BinOp.gtr r1409 (ys897.getD 0 default))) ∧
      (((isT (AV.bin Go.BinOp.gtr r1409 (ys897.getD 0 default))) →
        ((AV.isBool (AV.bin Go.BinOp.gtr r1409 (ys897.getD 0 default))) ∧
        ((isT (AV.bin Go.BinOp.gtr r1409 (ys897.getD 0 default))) ∧
        ((AV.binOk Go.BinOp.add (ys897.getD 2 default) (AV.int 1)) ∧
        (again897 [r1409, (AV.cel (AV.atAgg x0 (ys897.getD 2 default) 0 4) 2), (AV.bin Go.BinOp.add (ys897.getD 2 default) (AV.int 1))]))))) ∧
      ((isF (AV.bin Go.BinOp.gtr r1409 (ys897.getD 0 default))) →
        ((AV.binOk Go.BinOp.eql r1409 (ys897.getD 0 default)) ∧
        ((AV.isBool (AV.bin Go.BinOp.eql r1409 (ys897.getD 0 default))) ∧
        (((isT (AV.bin Go.BinOp.eql r1409 (ys897.getD 0 default))) →
          ((AV.binOk Go.BinOp.gtr r1409 (AV.int 0)) ∧
          ((AV.isBool (AV.bin Go.BinOp.eql r1409 (ys897.getD 0 default))) ∧
          ((isT (AV.bin Go.BinOp.eql r1409 (ys897.getD 0 default))) ∧
          ((AV.isBool (AV.bin Go.BinOp.gtr r1409 (AV.int 0))) ∧
          (((isT (AV.bin Go.BinOp.gtr r1409 (AV.int 0))) →
            ((AV.binOk Go.BinOp.lss (AV.cel (AV.atAgg x0 (ys897.getD 2 default) 0 4) 2) (ys897.getD 1 default)) ∧
            ((AV.isBool (AV.bin Go.BinOp.gtr r1409 (AV.int 0))) ∧
            ((isT (AV.bin Go.BinOp.gtr r1409 (AV.int 0))) ∧
            ((AV.isBool (AV.bin Go.BinOp.gtr r1409 (ys897.getD 0 default))) ∧
            ((isF (AV.bin Go.BinOp.gtr r1409 (ys897.getD 0 default))) ∧
            ((AV.isBool (AV.bin Go.BinOp.lss (AV.cel (AV.atAgg x0 (ys897.getD 2 default) 0 4) 2) (ys897.getD 1 default))) ∧
            (((isT (AV.bin Go.BinOp.lss (AV.cel (AV.atAgg x0 (ys897.getD 2 default) 0 4) 2) (ys897.getD 1 default))) →
              ((AV.binOk Go.BinOp.add (ys897.getD 2 default) (AV.int 1)) ∧
              (again897 [r1409, (AV.cel (AV.atAgg x0 (ys897.getD 2 default) 0 4) 2), (AV.bin Go.BinOp.add (ys897.getD 2 default) (AV.int 1))]))) ∧
            ((isF (AV.bin Go.BinOp.lss (AV.cel (AV.atAgg x0 (ys897.getD 2 default) 0 4) 2) (ys897.getD 1 default))) →
              ((AV.binOk Go.BinOp.add (ys897.getD 2 default) (AV.int 1)) ∧
              (again897 [(ys897.getD 0 default), (ys897.getD 1 default), (AV.bin Go.BinOp.add (ys897.getD 2 default) (AV.int 1))]))))))))))) ∧
          ((isF (AV.bin Go.BinOp.gtr r1409 (AV.int 0))) →
            ((AV.isBool (AV.bin Go.BinOp.gtr r1409 (AV.int 0))) ∧
            ((isF (AV.bin Go.BinOp.gtr r1409 (AV.int 0))) ∧
            ((AV.isBool (AV.bin Go.BinOp.gtr r1409 (ys897.getD 0 default))) ∧
            ((isF (AV.bin Go.BinOp.gtr r1409 (ys897.getD 0 default))) ∧
            ((AV.binOk Go.BinOp.add (ys897.getD 2 default) (AV.int 1)) ∧
            (again897 [(ys897.getD 0 default), (ys897.getD 1 default), (AV.bin Go.BinOp.add (ys897.getD 2 default) (AV.int 1))]))))))))))))) ∧
        ((isF (AV.bin Go.BinOp.eql r1409 (ys897.getD 0 default))) →
          ((AV.isBool (AV.bin Go.BinOp.eql r1409 (ys897.getD 0 default))) ∧
          ((isF (AV.bin Go.BinOp.eql r1409 (ys897.getD 0 default))) ∧
          ((AV.isBool (AV.bin Go.BinOp.gtr r1409 (ys897.getD 0 default))) ∧
          ((isF (AV.bin Go.BinOp.gtr r1409 (ys897.getD 0 default))) ∧
          ((AV.binOk Go.BinOp.add (ys897.getD 2 default) (AV.int 1)) ∧
          (again897 [(ys897.getD 0 default), (ys897.getD 1 default), (AV.bin Go.BinOp.add (ys897.getD 2 default) (AV.int 1))])))))))))))))))))))) ∧
    ((isF (AV.bin Go.BinOp.lss (ys897.getD 2 default) (AV.len x0))) →
      (∃ r1025 : AV, ((Fn Try.prog 48 [x0] (Sh.tup [Sh.sc, Sh.sc]) r1025) ∧
      ((AV.binOk Go.BinOp.eql (AV.prj r1025 0) (ys897.getD 0 default)) ∧
      ((AV.isBool (AV.bin Go.BinOp.eql (AV.prj r1025 0) (ys897.getD 0 default))) ∧
      ((isT (AV.bin Go.BinOp.eql (AV.prj r1025 0) (ys897.getD 0 default))) ∧
      ((AV.binOk Go.BinOp.eql (AV.prj r1025 1) (ys897.getD 1 default)) ∧
      ((AV.isBool (AV.bin Go.BinOp.eql (AV.prj r1025 0) (ys897.getD 0 default))) ∧
      ((isT (AV.bin Go.BinOp.eql (AV.prj r1025 0) (ys897.getD 0 default))) ∧
      ((AV.isBool (AV.bin Go.BinOp.eql (AV.prj r1025 1) (ys897.getD 1 default))) ∧
      ((isT (AV.bin Go.BinOp.eql (AV.prj r1025 1) (ys897.getD 1 default))) ∧
      (∃ r2113 : AV, ((Fn Try.prog 49 [x0, x1] Sh.sc r2113) ∧
      (∃ r2305 : AV, ((Fn Try.prog 47 [x1, (AV.mkRef [x0])] Sh.sc r2305) ∧
      ((AV.binOk Go.BinOp.eql r2113 r2305) ∧
      ((AV.isBool (AV.bin Go.BinOp.eql (AV.prj r1025 1) (ys897.getD 1 default))) ∧
      ((isT (AV.bin Go.BinOp.eql (AV.prj r1025 1) (ys897.getD 1 default))) ∧
      ((AV.flat (AV.bin Go.BinOp.eql r2113 r2305)) ∧
      (fSame (AV.bin Go.BinOp.eql r2113 r2305) r))))))))))))))))))))))))))))))))))))) := by kernel_rfl
end TaxiG
end Go.Proofs.Ytlhhdonpoglfkaa
