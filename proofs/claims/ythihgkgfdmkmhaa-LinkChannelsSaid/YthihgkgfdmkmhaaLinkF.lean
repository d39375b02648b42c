/- link's laws: what the run ends in. -/
import Derived.Test.YthihgkgfdmkmhaaLinkV
namespace Go.Proofs.Ythihgkgfdmkmhaa
open Go.RowKit
set_option linter.unusedVariables false
set_option maxRecDepth 100000
namespace LinkW
--GAMMA
def Γ : FuncId → Option Ca := fun f =>
  if f = 18 ∨ f = 4 ∨ f = 19 ∨ f = 20 then some (.fn .sc)
  else if f = 13 ∨ f = 17 then some (.fn (.tup [.agg [.sc, .row 9 1 true], .sc]))
  else if f = 15 then some (.fn (.tup [.row 48 2 true, .sc]))
  else if f = 16 then some (.fn (.tup [.sc, .sc, .sc]))
  else if f = 10 then some (.fn (.row 9 1 true))
  else if f = 21 then some (.upd true)
  else some .inl
def ann : FuncId → Nat → LoopEx := fun _ _ => ⟨[], [], [], []⟩
--END GAMMA
theorem eqs_form (x0 x1 r : AV) : fnF Try.prog Γ ann 0 20 Try.f20 (Try.f20.body.getD .skip) (.nil) [x0, x1] (.sc) r = (((AV.isSl x0 1) ∧
((AV.isSl x1 1) ∧
((AV.binOk Go.BinOp.neq (AV.len x0) (AV.len x1)) ∧
((AV.isBool (AV.bin Go.BinOp.neq (AV.len x0) (AV.len x1))) ∧
(((isT (AV.bin Go.BinOp.neq (AV.len x0) (AV.len x1))) →
  ((AV.flat (AV.bool false)) ∧
  (fSame (AV.bool false) r))) ∧
((isF (AV.bin Go.BinOp.neq (AV.len x0) (AV.len x1))) →
  ((AV.isSl x0 1) ∧
  (fLoop 577 [(AV.int 0)] fun ys577 again577 =>
    ((AV.binOk Go.BinOp.lss (ys577.getD 0 default) (AV.len x0)) ∧
    ((AV.isBool (AV.bin Go.BinOp.lss (ys577.getD 0 default) (AV.len x0))) ∧
    (((isT (AV.bin Go.BinOp.lss (ys577.getD 0 default) (AV.len x0))) →
      ((AV.isSl x0 1) ∧
      ((AV.inb x0 (ys577.getD 0 default)) ∧
      ((AV.isSl x1 1) ∧
      ((AV.inb x1 (ys577.getD 0 default)) ∧
      ((AV.binOk Go.BinOp.neq (AV.at x0 (ys577.getD 0 default) 0) (AV.at x1 (ys577.getD 0 default) 0)) ∧
      ((AV.isBool (AV.bin Go.BinOp.neq (AV.at x0 (ys577.getD 0 default) 0) (AV.at x1 (ys577.getD 0 default) 0))) ∧
      (((isT (AV.bin Go.BinOp.neq (AV.at x0 (ys577.getD 0 default) 0) (AV.at x1 (ys577.getD 0 default) 0))) →
        ((AV.flat (AV.bool false)) ∧
        (fSame (AV.bool false) r))) ∧
      ((isF (AV.bin Go.BinOp.neq (AV.at x0 (ys577.getD 0 default) 0) (AV.at x1 (ys577.getD 0 default) 0))) →
        ((AV.binOk Go.BinOp.add (ys577.getD 0 default) (AV.int 1)) ∧
        (again577 [(AV.bin Go.BinOp.add (ys577.getD 0 default) (AV.int 1))]))))))))))) ∧
    ((isF (AV.bin Go.BinOp.lss (ys577.getD 0 default) (AV.len x0))) →
      ((AV.flat (AV.bool true)) ∧
      (fSame (AV.bool true) r))))))))))))))) := by kernel_rfl
theorem eqf_form (x0 x1 r : AV) : fnF Try.prog Γ ann 0 19 Try.f19 (Try.f19.body.getD .skip) (.nil) [x0, x1] (.sc) r = (((AV.isSl x0 2) ∧
((AV.isSl x1 2) ∧
((AV.binOk Go.BinOp.neq (AV.len x0) (AV.len x1)) ∧
((AV.isBool (AV.bin Go.BinOp.neq (AV.len x0) (AV.len x1))) ∧
(((isT (AV.bin Go.BinOp.neq (AV.len x0) (AV.len x1))) →
  ((AV.flat (AV.bool false)) ∧
  (fSame (AV.bool false) r))) ∧
((isF (AV.bin Go.BinOp.neq (AV.len x0) (AV.len x1))) →
  ((AV.isSl x0 2) ∧
  (fLoop 577 [(AV.int 0)] fun ys577 again577 =>
    ((AV.binOk Go.BinOp.lss (ys577.getD 0 default) (AV.len x0)) ∧
    ((AV.isBool (AV.bin Go.BinOp.lss (ys577.getD 0 default) (AV.len x0))) ∧
    (((isT (AV.bin Go.BinOp.lss (ys577.getD 0 default) (AV.len x0))) →
      ((AV.isSl x0 2) ∧
      ((AV.inb x0 (ys577.getD 0 default)) ∧
      ((AV.isSl x1 2) ∧
      ((AV.inb x1 (ys577.getD 0 default)) ∧
      ((AV.eqPlOk [(0, (EK.int Go.IntKind.i64)), (1, EK.str)] [(AV.cel (AV.atAgg x0 (ys577.getD 0 default) 0 2) 0), (AV.cel (AV.atAgg x0 (ys577.getD 0 default) 0 2) 1)] [(AV.cel (AV.atAgg x1 (ys577.getD 0 default) 0 2) 0), (AV.cel (AV.atAgg x1 (ys577.getD 0 default) 0 2) 1)]) ∧
      ((AV.isAgg (AV.atAgg x0 (ys577.getD 0 default) 0 2) 2) ∧
      ((AV.isAgg (AV.atAgg x1 (ys577.getD 0 default) 0 2) 2) ∧
      ((AV.isBool (AV.nePl [(0, (EK.int Go.IntKind.i64)), (1, EK.str)] [(AV.cel (AV.atAgg x0 (ys577.getD 0 default) 0 2) 0), (AV.cel (AV.atAgg x0 (ys577.getD 0 default) 0 2) 1)] [(AV.cel (AV.atAgg x1 (ys577.getD 0 default) 0 2) 0), (AV.cel (AV.atAgg x1 (ys577.getD 0 default) 0 2) 1)])) ∧
      (((isT (AV.nePl [(0, (EK.int Go.IntKind.i64)), (1, EK.str)] [(AV.cel (AV.atAgg x0 (ys577.getD 0 default) 0 2) 0), (AV.cel (AV.atAgg x0 (ys577.getD 0 default) 0 2) 1)] [(AV.cel (AV.atAgg x1 (ys577.getD 0 default) 0 2) 0), (AV.cel (AV.atAgg x1 (ys577.getD 0 default) 0 2) 1)])) →
        ((AV.flat (AV.bool false)) ∧
        (fSame (AV.bool false) r))) ∧
      ((isF (AV.nePl [(0, (EK.int Go.IntKind.i64)), (1, EK.str)] [(AV.cel (AV.atAgg x0 (ys577.getD 0 default) 0 2) 0), (AV.cel (AV.atAgg x0 (ys577.getD 0 default) 0 2) 1)] [(AV.cel (AV.atAgg x1 (ys577.getD 0 default) 0 2) 0), (AV.cel (AV.atAgg x1 (ys577.getD 0 default) 0 2) 1)])) →
        ((AV.binOk Go.BinOp.add (ys577.getD 0 default) (AV.int 1)) ∧
        (again577 [(AV.bin Go.BinOp.add (ys577.getD 0 default) (AV.int 1))]))))))))))))) ∧
    ((isF (AV.bin Go.BinOp.lss (ys577.getD 0 default) (AV.len x0))) →
      ((AV.flat (AV.bool true)) ∧
      (fSame (AV.bool true) r))))))))))))))) := by kernel_rfl
theorem fact_form ( r : AV) : fnF Try.prog Γ ann 4 4 Try.f4 (Try.f4.body.getD .skip) ((.f (.f (.f (.f (.f (.f (.f (.f (.t (.t (.t (.t (.t (.t (.t (.t (.t (.t (.t (.t (.t .nil)))))))))))))))))))))) [] (.sc) r = (((fEnt Try.prog 14) ∧
(fAllV fun _ => (∃ r385 : AV, ((Fn Try.prog 13 [(AV.agg [(AV.int 1), (AV.lit (Value.slice none 0 0))]), (AV.lit (Value.string ⟨#[97]⟩))] (Sh.tup [(Sh.agg [Sh.sc, (Sh.row 9 1 true)]), Sh.sc]) r385) ∧
(∃ r897 : AV, ((Fn Try.prog 13 [(AV.agg [(AV.cel (AV.prj r385 0) 0), (AV.cel (AV.prj r385 0) 1)]), (AV.lit (Value.string ⟨#[98]⟩))] (Sh.tup [(Sh.agg [Sh.sc, (Sh.row 9 1 true)]), Sh.sc]) r897) ∧
(∃ r1345 : AV, ((Fn Try.prog 15 [(AV.agg [(AV.cel (AV.prj r897 0) 0), (AV.cel (AV.prj r897 0) 1)])] (Sh.tup [(Sh.row 48 2 true), Sh.sc]) r1345) ∧
(∃ r1793 : AV, ((Fn Try.prog 16 [(AV.int 1), (AV.agg [(AV.int 1), (AV.lit (Value.string ⟨#[97]⟩))])] (Sh.tup [Sh.sc, Sh.sc, Sh.sc]) r1793) ∧
(∃ r2369 : AV, ((Fn Try.prog 17 [(AV.agg [(AV.cel (AV.prj r897 0) 0), (AV.cel (AV.prj r897 0) 1)]), (AV.int 2)] (Sh.tup [(Sh.agg [Sh.sc, (Sh.row 9 1 true)]), Sh.sc]) r2369) ∧
((fEnt Try.prog 5) ∧
(fAllV fun _ => (∃ r3521 : AV, ((Fn Try.prog 18 [(AV.agg [(AV.int 0), (AV.lit (Value.slice none 0 0))])] Sh.sc r3521) ∧
((AV.binOk Go.BinOp.neq r3521 (AV.int 4)) ∧
((AV.isBool (AV.bin Go.BinOp.neq r3521 (AV.int 4))) ∧
((isF (AV.bin Go.BinOp.neq r3521 (AV.int 4))) ∧
((fEnt Try.prog 7) ∧
(fAllV fun _ => ((AV.isStr (AV.lit (Value.string ⟨#[97]⟩))) ∧
((AV.binOk Go.BinOp.gtr (AV.slen (AV.lit (Value.string ⟨#[97]⟩))) (AV.int 120)) ∧
((AV.isBool (AV.bin Go.BinOp.gtr (AV.slen (AV.lit (Value.string ⟨#[97]⟩))) (AV.int 120))) ∧
((isF (AV.bin Go.BinOp.gtr (AV.slen (AV.lit (Value.string ⟨#[97]⟩))) (AV.int 120))) ∧
((AV.room (AV.mk 1 []) (AV.mk 1 [[(AV.lit (Value.string ⟨#[97]⟩))]]) 16) ∧
((fEnt Try.prog 7) ∧
(fAllV fun _ => ((AV.isStr (AV.lit (Value.string ⟨#[98]⟩))) ∧
((AV.binOk Go.BinOp.gtr (AV.slen (AV.lit (Value.string ⟨#[98]⟩))) (AV.int 120)) ∧
((AV.isBool (AV.bin Go.BinOp.gtr (AV.slen (AV.lit (Value.string ⟨#[98]⟩))) (AV.int 120))) ∧
((isF (AV.bin Go.BinOp.gtr (AV.slen (AV.lit (Value.string ⟨#[98]⟩))) (AV.int 120))) ∧
((AV.binOk Go.BinOp.eql (AV.len (AV.app 1 (AV.mk 1 []) (AV.mk 1 [[(AV.lit (Value.string ⟨#[97]⟩))]]))) (AV.int 64)) ∧
((AV.isBool (AV.bin Go.BinOp.eql (AV.len (AV.app 1 (AV.mk 1 []) (AV.mk 1 [[(AV.lit (Value.string ⟨#[97]⟩))]]))) (AV.int 64))) ∧
((isF (AV.bin Go.BinOp.eql (AV.len (AV.app 1 (AV.mk 1 []) (AV.mk 1 [[(AV.lit (Value.string ⟨#[97]⟩))]]))) (AV.int 64))) ∧
((AV.room (AV.app 1 (AV.mk 1 []) (AV.mk 1 [[(AV.lit (Value.string ⟨#[97]⟩))]])) (AV.mk 1 [[(AV.lit (Value.string ⟨#[98]⟩))]]) 16) ∧
((fEnt Try.prog 8) ∧
(fAllV fun _ => ((AV.binOk Go.BinOp.geq (AV.int 1) (AV.len (AV.app 1 (AV.app 1 (AV.mk 1 []) (AV.mk 1 [[(AV.lit (Value.string ⟨#[97]⟩))]])) (AV.mk 1 [[(AV.lit (Value.string ⟨#[98]⟩))]])))) ∧
((AV.isBool (AV.bin Go.BinOp.geq (AV.int 1) (AV.len (AV.app 1 (AV.app 1 (AV.mk 1 []) (AV.mk 1 [[(AV.lit (Value.string ⟨#[97]⟩))]])) (AV.mk 1 [[(AV.lit (Value.string ⟨#[98]⟩))]]))))) ∧
((isF (AV.bin Go.BinOp.geq (AV.int 1) (AV.len (AV.app 1 (AV.app 1 (AV.mk 1 []) (AV.mk 1 [[(AV.lit (Value.string ⟨#[97]⟩))]])) (AV.mk 1 [[(AV.lit (Value.string ⟨#[98]⟩))]]))))) ∧
((AV.inb (AV.app 1 (AV.app 1 (AV.mk 1 []) (AV.mk 1 [[(AV.lit (Value.string ⟨#[97]⟩))]])) (AV.mk 1 [[(AV.lit (Value.string ⟨#[98]⟩))]])) (AV.int 1)) ∧
((AV.inb (AV.app 1 (AV.app 1 (AV.mk 1 []) (AV.mk 1 [[(AV.lit (Value.string ⟨#[97]⟩))]])) (AV.mk 1 [[(AV.lit (Value.string ⟨#[98]⟩))]])) (AV.int 1)) ∧
((AV.binOk Go.BinOp.add (AV.int 1) (AV.int 1)) ∧
(∃ r9281 : AV, ((FnU Try.prog 21 9 1 (AV.app 1 (AV.app 1 (AV.mk 1 []) (AV.mk 1 [[(AV.lit (Value.string ⟨#[97]⟩))]])) (AV.mk 1 [[(AV.lit (Value.string ⟨#[98]⟩))]])) [(AV.int 1), (AV.bin Go.BinOp.add (AV.int 1) (AV.int 1))] true r9281) ∧
((fEnt Try.prog 11) ∧
(fAllV fun _ => ((AV.binOk Go.BinOp.geq (AV.int 0) (AV.len r9281)) ∧
((AV.isBool (AV.bin Go.BinOp.geq (AV.int 0) (AV.len r9281))) ∧
((isF (AV.bin Go.BinOp.geq (AV.int 0) (AV.len r9281))) ∧
((AV.inb r9281 (AV.int 0)) ∧
((AV.inb r9281 (AV.int 0)) ∧
((fEnt Try.prog 7) ∧
(fAllV fun _ => ((AV.isStr (AV.at r9281 (AV.int 0) 0)) ∧
((AV.binOk Go.BinOp.gtr (AV.slen (AV.at r9281 (AV.int 0) 0)) (AV.int 120)) ∧
((AV.isBool (AV.bin Go.BinOp.gtr (AV.slen (AV.at r9281 (AV.int 0) 0)) (AV.int 120))) ∧
((isF (AV.bin Go.BinOp.gtr (AV.slen (AV.at r9281 (AV.int 0) 0)) (AV.int 120))) ∧
((AV.binOk Go.BinOp.eql (AV.len r9281) (AV.int 64)) ∧
((AV.isBool (AV.bin Go.BinOp.eql (AV.len r9281) (AV.int 64))) ∧
((isF (AV.bin Go.BinOp.eql (AV.len r9281) (AV.int 64))) ∧
((AV.isOne (AV.at r9281 (AV.int 0) 0)) ∧
((AV.room r9281 (AV.mk 1 [[(AV.at r9281 (AV.int 0) 0)]]) 16) ∧
((AV.binOk Go.BinOp.eql (AV.prj r385 1) (AV.int 0)) ∧
((AV.isBool (AV.bin Go.BinOp.eql (AV.prj r385 1) (AV.int 0))) ∧
((isT (AV.bin Go.BinOp.eql (AV.prj r385 1) (AV.int 0))) ∧
((AV.binOk Go.BinOp.eql (AV.prj r897 1) (AV.int 0)) ∧
((AV.isBool (AV.bin Go.BinOp.eql (AV.prj r385 1) (AV.int 0))) ∧
((isT (AV.bin Go.BinOp.eql (AV.prj r385 1) (AV.int 0))) ∧
((AV.isBool (AV.bin Go.BinOp.eql (AV.prj r897 1) (AV.int 0))) ∧
((isT (AV.bin Go.BinOp.eql (AV.prj r897 1) (AV.int 0))) ∧
((AV.binOk Go.BinOp.eql (AV.prj r1345 1) (AV.int 0)) ∧
((AV.isBool (AV.bin Go.BinOp.eql (AV.prj r897 1) (AV.int 0))) ∧
((isT (AV.bin Go.BinOp.eql (AV.prj r897 1) (AV.int 0))) ∧
((AV.isBool (AV.bin Go.BinOp.eql (AV.prj r1345 1) (AV.int 0))) ∧
((isT (AV.bin Go.BinOp.eql (AV.prj r1345 1) (AV.int 0))) ∧
((AV.binOk Go.BinOp.eql (AV.prj r1793 2) (AV.int 0)) ∧
((AV.isBool (AV.bin Go.BinOp.eql (AV.prj r1345 1) (AV.int 0))) ∧
((isT (AV.bin Go.BinOp.eql (AV.prj r1345 1) (AV.int 0))) ∧
((AV.isBool (AV.bin Go.BinOp.eql (AV.prj r1793 2) (AV.int 0))) ∧
((isT (AV.bin Go.BinOp.eql (AV.prj r1793 2) (AV.int 0))) ∧
((AV.binOk Go.BinOp.eql (AV.prj r2369 1) (AV.int 0)) ∧
((AV.isBool (AV.bin Go.BinOp.eql (AV.prj r1793 2) (AV.int 0))) ∧
((isT (AV.bin Go.BinOp.eql (AV.prj r1793 2) (AV.int 0))) ∧
((AV.isBool (AV.bin Go.BinOp.eql (AV.prj r2369 1) (AV.int 0))) ∧
((isT (AV.bin Go.BinOp.eql (AV.prj r2369 1) (AV.int 0))) ∧
((AV.isBool (AV.bin Go.BinOp.eql (AV.prj r2369 1) (AV.int 0))) ∧
((isT (AV.bin Go.BinOp.eql (AV.prj r2369 1) (AV.int 0))) ∧
(∃ r15873 : AV, ((Fn Try.prog 19 [(AV.prj r1345 0), (AV.mk 2 [[(AV.int 1), (AV.lit (Value.string ⟨#[97]⟩))], [(AV.int 2), (AV.lit (Value.string ⟨#[98]⟩))]])] Sh.sc r15873) ∧
((AV.isBool r15873) ∧
((isT r15873) ∧
((AV.binOk Go.BinOp.eql (AV.prj r1793 0) (AV.int 2)) ∧
((AV.isBool r15873) ∧
((isT r15873) ∧
((AV.isBool (AV.bin Go.BinOp.eql (AV.prj r1793 0) (AV.int 2))) ∧
((isT (AV.bin Go.BinOp.eql (AV.prj r1793 0) (AV.int 2))) ∧
((AV.isBool (AV.bin Go.BinOp.eql (AV.prj r1793 0) (AV.int 2))) ∧
((isT (AV.bin Go.BinOp.eql (AV.prj r1793 0) (AV.int 2))) ∧
((AV.isBool (AV.prj r1793 1)) ∧
((isT (AV.prj r1793 1)) ∧
((AV.binOk Go.BinOp.eql (AV.cel (AV.prj r2369 0) 0) (AV.int 2)) ∧
((AV.isBool (AV.prj r1793 1)) ∧
((isT (AV.prj r1793 1)) ∧
((AV.isBool (AV.bin Go.BinOp.eql (AV.cel (AV.prj r2369 0) 0) (AV.int 2))) ∧
((isT (AV.bin Go.BinOp.eql (AV.cel (AV.prj r2369 0) 0) (AV.int 2))) ∧
(∃ r17025 : AV, ((Fn Try.prog 20 [(AV.cel (AV.prj r2369 0) 1), (AV.mk 1 [[(AV.lit (Value.string ⟨#[98]⟩))]])] Sh.sc r17025) ∧
((AV.isBool (AV.bin Go.BinOp.eql (AV.cel (AV.prj r2369 0) 0) (AV.int 2))) ∧
((isT (AV.bin Go.BinOp.eql (AV.cel (AV.prj r2369 0) 0) (AV.int 2))) ∧
((AV.isBool r17025) ∧
((isT r17025) ∧
((AV.binOk Go.BinOp.eql (AV.at (AV.app 1 (AV.app 1 (AV.mk 1 []) (AV.mk 1 [[(AV.lit (Value.string ⟨#[97]⟩))]])) (AV.mk 1 [[(AV.lit (Value.string ⟨#[98]⟩))]])) (AV.int 1) 0) (AV.lit (Value.string ⟨#[98]⟩))) ∧
((AV.isBool r17025) ∧
((isT r17025) ∧
((AV.isBool (AV.bin Go.BinOp.eql (AV.at (AV.app 1 (AV.app 1 (AV.mk 1 []) (AV.mk 1 [[(AV.lit (Value.string ⟨#[97]⟩))]])) (AV.mk 1 [[(AV.lit (Value.string ⟨#[98]⟩))]])) (AV.int 1) 0) (AV.lit (Value.string ⟨#[98]⟩)))) ∧
((isT (AV.bin Go.BinOp.eql (AV.at (AV.app 1 (AV.app 1 (AV.mk 1 []) (AV.mk 1 [[(AV.lit (Value.string ⟨#[97]⟩))]])) (AV.mk 1 [[(AV.lit (Value.string ⟨#[98]⟩))]])) (AV.int 1) 0) (AV.lit (Value.string ⟨#[98]⟩)))) ∧
((fEnt Try.prog 12) ∧
(fAllV fun _ => ((AV.binOk Go.BinOp.eql (AV.len (AV.app 1 r9281 (AV.mk 1 [[(AV.at r9281 (AV.int 0) 0)]]))) (AV.int 2)) ∧
((AV.isBool (AV.bin Go.BinOp.eql (AV.at (AV.app 1 (AV.app 1 (AV.mk 1 []) (AV.mk 1 [[(AV.lit (Value.string ⟨#[97]⟩))]])) (AV.mk 1 [[(AV.lit (Value.string ⟨#[98]⟩))]])) (AV.int 1) 0) (AV.lit (Value.string ⟨#[98]⟩)))) ∧
((isT (AV.bin Go.BinOp.eql (AV.at (AV.app 1 (AV.app 1 (AV.mk 1 []) (AV.mk 1 [[(AV.lit (Value.string ⟨#[97]⟩))]])) (AV.mk 1 [[(AV.lit (Value.string ⟨#[98]⟩))]])) (AV.int 1) 0) (AV.lit (Value.string ⟨#[98]⟩)))) ∧
((AV.isBool (AV.bin Go.BinOp.eql (AV.len (AV.app 1 r9281 (AV.mk 1 [[(AV.at r9281 (AV.int 0) 0)]]))) (AV.int 2))) ∧
((isT (AV.bin Go.BinOp.eql (AV.len (AV.app 1 r9281 (AV.mk 1 [[(AV.at r9281 (AV.int 0) 0)]]))) (AV.int 2))) ∧
((fEnt Try.prog 9) ∧
(fAllV fun _ => ((fEnt Try.prog 8) ∧
(fAllV fun _ => ((AV.binOk Go.BinOp.geq (AV.int 2) (AV.len (AV.app 1 r9281 (AV.mk 1 [[(AV.at r9281 (AV.int 0) 0)]])))) ∧
((AV.isBool (AV.bin Go.BinOp.geq (AV.int 2) (AV.len (AV.app 1 r9281 (AV.mk 1 [[(AV.at r9281 (AV.int 0) 0)]]))))) ∧
((isT (AV.bin Go.BinOp.geq (AV.int 2) (AV.len (AV.app 1 r9281 (AV.mk 1 [[(AV.at r9281 (AV.int 0) 0)]]))))) ∧
((AV.isBool (AV.bin Go.BinOp.eql (AV.len (AV.app 1 r9281 (AV.mk 1 [[(AV.at r9281 (AV.int 0) 0)]]))) (AV.int 2))) ∧
((isT (AV.bin Go.BinOp.eql (AV.len (AV.app 1 r9281 (AV.mk 1 [[(AV.at r9281 (AV.int 0) 0)]]))) (AV.int 2))) ∧
((AV.flat (AV.bool true)) ∧
(fSame (AV.bool true) r))))))))))))))))))))))))))))))))))))))))))))))))))))))))))))))))))))))))))))))))))))))))))))))))))))))))))))))))))))))))))))))))))))))))) := by kernel_rfl
end LinkW
end Go.Proofs.Ythihgkgfdmkmhaa
