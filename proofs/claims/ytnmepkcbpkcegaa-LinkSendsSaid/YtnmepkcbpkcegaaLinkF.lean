/- link's laws: what the run ends in. -/
import Derived.Test.YtnmepkcbpkcegaaLinkV
namespace Go.Proofs.Ytnmepkcbpkcegaa
open Go.RowKit
set_option linter.unusedVariables false
set_option maxRecDepth 100000
namespace LinkW
--GAMMA
def Γ : FuncId → Option Ca := fun f =>
  if f = 51 ∨ f = 50 ∨ f = 47 ∨ f = 71 ∨ f = 52 then some (.fn .sc)
  else if f = 48 ∨ f = 54 then some (.fn (.tup [.agg [.sc, .row 9 1 true], .sc]))
  else if f = 49 then some (.fn (.tup [.row 89 2 true, .sc]))
  else if f = 55 then some (.fn (.tup [.sc, .sc, .sc]))
  else if f = 53 then some (.fn (.row 9 1 true))
  else if f = 75 then some (.upd true)
  else some .inl
def ann : FuncId → Nat → LoopEx := fun _ _ => ⟨[], [], []⟩
--END GAMMA
theorem serr_form (x0 r : AV) : fnF Try.prog Γ ann 0 50 Try.f50 (Try.f50.body.getD .skip) (.nil) [x0] (.sc) r = (((AV.isAgg x0 2) ∧
((AV.isSl (AV.cel x0 1) 1) ∧
((AV.binOk Go.BinOp.gtr (AV.len (AV.cel x0 1)) (AV.int 32)) ∧
((AV.isBool (AV.bin Go.BinOp.gtr (AV.len (AV.cel x0 1)) (AV.int 32))) ∧
(((isT (AV.bin Go.BinOp.gtr (AV.len (AV.cel x0 1)) (AV.int 32))) →
  ((AV.flat (AV.int 2)) ∧
  (fSame (AV.int 2) r))) ∧
((isF (AV.bin Go.BinOp.gtr (AV.len (AV.cel x0 1)) (AV.int 32))) →
  ((AV.binOk Go.BinOp.lss (AV.cel x0 0) (AV.int 1)) ∧
  ((AV.isBool (AV.bin Go.BinOp.lss (AV.cel x0 0) (AV.int 1))) ∧
  (((isT (AV.bin Go.BinOp.lss (AV.cel x0 0) (AV.int 1))) →
    ((AV.isBool (AV.bin Go.BinOp.lss (AV.cel x0 0) (AV.int 1))) ∧
    ((isT (AV.bin Go.BinOp.lss (AV.cel x0 0) (AV.int 1))) ∧
    ((AV.flat (AV.int 4)) ∧
    (fSame (AV.int 4) r))))) ∧
  ((isF (AV.bin Go.BinOp.lss (AV.cel x0 0) (AV.int 1))) →
    ((AV.binOk Go.BinOp.gtr (AV.cel x0 0) (AV.int 100000)) ∧
    ((AV.isBool (AV.bin Go.BinOp.lss (AV.cel x0 0) (AV.int 1))) ∧
    ((isF (AV.bin Go.BinOp.lss (AV.cel x0 0) (AV.int 1))) ∧
    ((AV.isBool (AV.bin Go.BinOp.gtr (AV.cel x0 0) (AV.int 100000))) ∧
    (((isT (AV.bin Go.BinOp.gtr (AV.cel x0 0) (AV.int 100000))) →
      ((AV.isBool (AV.bin Go.BinOp.gtr (AV.cel x0 0) (AV.int 100000))) ∧
      ((isT (AV.bin Go.BinOp.gtr (AV.cel x0 0) (AV.int 100000))) ∧
      ((AV.flat (AV.int 4)) ∧
      (fSame (AV.int 4) r))))) ∧
    ((isF (AV.bin Go.BinOp.gtr (AV.cel x0 0) (AV.int 100000))) →
      ((AV.isSl (AV.cel x0 1) 1) ∧
      ((AV.binOk Go.BinOp.add (AV.cel x0 0) (AV.len (AV.cel x0 1))) ∧
      ((AV.binOk Go.BinOp.gtr (AV.bin Go.BinOp.add (AV.cel x0 0) (AV.len (AV.cel x0 1))) (AV.int 100000)) ∧
      ((AV.isBool (AV.bin Go.BinOp.gtr (AV.cel x0 0) (AV.int 100000))) ∧
      ((isF (AV.bin Go.BinOp.gtr (AV.cel x0 0) (AV.int 100000))) ∧
      ((AV.isBool (AV.bin Go.BinOp.gtr (AV.bin Go.BinOp.add (AV.cel x0 0) (AV.len (AV.cel x0 1))) (AV.int 100000))) ∧
      (((isT (AV.bin Go.BinOp.gtr (AV.bin Go.BinOp.add (AV.cel x0 0) (AV.len (AV.cel x0 1))) (AV.int 100000))) →
        ((AV.flat (AV.int 4)) ∧
        (fSame (AV.int 4) r))) ∧
      ((isF (AV.bin Go.BinOp.gtr (AV.bin Go.BinOp.add (AV.cel x0 0) (AV.len (AV.cel x0 1))) (AV.int 100000))) →
        ((AV.isSl (AV.cel x0 1) 1) ∧
        (fLoop 1729 [(AV.int 0)] fun ys1729 again1729 =>
          ((AV.binOk Go.BinOp.lss (ys1729.getD 0 default) (AV.len (AV.cel x0 1))) ∧
          ((AV.isBool (AV.bin Go.BinOp.lss (ys1729.getD 0 default) (AV.len (AV.cel x0 1)))) ∧
          (((isT (AV.bin Go.BinOp.lss (ys1729.getD 0 default) (AV.len (AV.cel x0 1)))) →
            ((AV.isSl (AV.cel x0 1) 1) ∧
            ((AV.inb (AV.cel x0 1) (ys1729.getD 0 default)) ∧
            ((AV.isStr (AV.at (AV.cel x0 1) (ys1729.getD 0 default) 0)) ∧
            ((AV.binOk Go.BinOp.gtr (AV.slen (AV.at (AV.cel x0 1) (ys1729.getD 0 default) 0)) (AV.int 120)) ∧
            ((AV.isBool (AV.bin Go.BinOp.gtr (AV.slen (AV.at (AV.cel x0 1) (ys1729.getD 0 default) 0)) (AV.int 120))) ∧
            (((isT (AV.bin Go.BinOp.gtr (AV.slen (AV.at (AV.cel x0 1) (ys1729.getD 0 default) 0)) (AV.int 120))) →
              ((AV.flat (AV.int 2)) ∧
              (fSame (AV.int 2) r))) ∧
            ((isF (AV.bin Go.BinOp.gtr (AV.slen (AV.at (AV.cel x0 1) (ys1729.getD 0 default) 0)) (AV.int 120))) →
              ((AV.binOk Go.BinOp.add (ys1729.getD 0 default) (AV.int 1)) ∧
              (again1729 [(AV.bin Go.BinOp.add (ys1729.getD 0 default) (AV.int 1))])))))))))) ∧
          ((isF (AV.bin Go.BinOp.lss (ys1729.getD 0 default) (AV.len (AV.cel x0 1)))) →
            ((AV.flat (AV.int 0)) ∧
            (fSame (AV.int 0) r))))))))))))))))))))))))))))))))) := by kernel_rfl
theorem eqs_form (x0 x1 r : AV) : fnF Try.prog Γ ann 0 52 Try.f52 (Try.f52.body.getD .skip) (.nil) [x0, x1] (.sc) r = (((AV.isSl x0 1) ∧
((AV.isSl x1 1) ∧
((AV.binOk Go.BinOp.neq (AV.len x0) (AV.len x1)) ∧
((AV.isBool (AV.bin Go.BinOp.neq (AV.len x0) (AV.len x1))) ∧
(((isT (AV.bin Go.BinOp.neq (AV.len x0) (AV.len x1))) →
  ((AV.flat (AV.bool false)) ∧
  (fSame (AV.bool false) r))) ∧
((isF (AV.bin Go.BinOp.neq (AV.len x0) (AV.len x1))) →
  ((AV.isSl x0 1) ∧
  (fLoop 577 [(AV.int 0)] fun ys577 again577 =>
    ((AV.binOk Go.BinOp.lss (ys577.getD 0 default) (AV.len x0)) ∧
    ((AV.isBool (AV.bin Go.BinOp.lss (ys577.getD 0 default) (AV.len x0))) ∧
    (((isT (AV.bin Go.BinOp.lss (ys577.getD 0 default) (AV.len x0))) →
      ((AV.isSl x0 1) ∧
      ((AV.inb x0 (ys577.getD 0 default)) ∧
      ((AV.isSl x1 1) ∧
      ((AV.inb x1 (ys577.getD 0 default)) ∧
      ((AV.binOk Go.BinOp.neq (AV.at x0 (ys577.getD 0 default) 0) (AV.at x1 (ys577.getD 0 default) 0)) ∧
      ((AV.isBool (AV.bin Go.BinOp.neq (AV.at x0 (ys577.getD 0 default) 0) (AV.at x1 (ys577.getD 0 default) 0))) ∧
      (((isT (AV.bin Go.BinOp.neq (AV.at x0 (ys577.getD 0 default) 0) (AV.at x1 (ys577.getD 0 default) 0))) →
        ((AV.flat (AV.bool false)) ∧
        (fSame (AV.bool false) r))) ∧
      ((isF (AV.bin Go.BinOp.neq (AV.at x0 (ys577.getD 0 default) 0) (AV.at x1 (ys577.getD 0 default) 0))) →
        ((AV.binOk Go.BinOp.add (ys577.getD 0 default) (AV.int 1)) ∧
        (again577 [(AV.bin Go.BinOp.add (ys577.getD 0 default) (AV.int 1))]))))))))))) ∧
    ((isF (AV.bin Go.BinOp.lss (ys577.getD 0 default) (AV.len x0))) →
      ((AV.flat (AV.bool true)) ∧
      (fSame (AV.bool true) r))))))))))))))) := by kernel_rfl
theorem eqf_form (x0 x1 r : AV) : fnF Try.prog Γ ann 0 71 Try.f71 (Try.f71.body.getD .skip) (.nil) [x0, x1] (.sc) r = (((AV.isSl x0 2) ∧
((AV.isSl x1 2) ∧
((AV.binOk Go.BinOp.neq (AV.len x0) (AV.len x1)) ∧
((AV.isBool (AV.bin Go.BinOp.neq (AV.len x0) (AV.len x1))) ∧
(((isT (AV.bin Go.BinOp.neq (AV.len x0) (AV.len x1))) →
  ((AV.flat (AV.bool false)) ∧
  (fSame (AV.bool false) r))) ∧
((isF (AV.bin Go.BinOp.neq (AV.len x0) (AV.len x1))) →
  ((AV.isSl x0 2) ∧
  (fLoop 577 [(AV.int 0)] fun ys577 again577 =>
    ((AV.binOk Go.BinOp.lss (ys577.getD 0 default) (AV.len x0)) ∧
    ((AV.isBool (AV.bin Go.BinOp.lss (ys577.getD 0 default) (AV.len x0))) ∧
    (((isT (AV.bin Go.BinOp.lss (ys577.getD 0 default) (AV.len x0))) →
      ((AV.isSl x0 2) ∧
      ((AV.inb x0 (ys577.getD 0 default)) ∧
      ((AV.isSl x1 2) ∧
      ((AV.inb x1 (ys577.getD 0 default)) ∧
      ((AV.eqPlOk [(0, (EK.int Go.IntKind.i64)), (1, EK.str)] [(AV.cel (AV.atAgg x0 (ys577.getD 0 default) 0 2) 0), (AV.cel (AV.atAgg x0 (ys577.getD 0 default) 0 2) 1)] [(AV.cel (AV.atAgg x1 (ys577.getD 0 default) 0 2) 0), (AV.cel (AV.atAgg x1 (ys577.getD 0 default) 0 2) 1)]) ∧
      ((AV.isAgg (AV.atAgg x0 (ys577.getD 0 default) 0 2) 2) ∧
      ((AV.isAgg (AV.atAgg x1 (ys577.getD 0 default) 0 2) 2) ∧
      ((AV.isBool (AV.nePl [(0, (EK.int Go.IntKind.i64)), (1, EK.str)] [(AV.cel (AV.atAgg x0 (ys577.getD 0 default) 0 2) 0), (AV.cel (AV.atAgg x0 (ys577.getD 0 default) 0 2) 1)] [(AV.cel (AV.atAgg x1 (ys577.getD 0 default) 0 2) 0), (AV.cel (AV.atAgg x1 (ys577.getD 0 default) 0 2) 1)])) ∧
      (((isT (AV.nePl [(0, (EK.int Go.IntKind.i64)), (1, EK.str)] [(AV.cel (AV.atAgg x0 (ys577.getD 0 default) 0 2) 0), (AV.cel (AV.atAgg x0 (ys577.getD 0 default) 0 2) 1)] [(AV.cel (AV.atAgg x1 (ys577.getD 0 default) 0 2) 0), (AV.cel (AV.atAgg x1 (ys577.getD 0 default) 0 2) 1)])) →
        ((AV.flat (AV.bool false)) ∧
        (fSame (AV.bool false) r))) ∧
      ((isF (AV.nePl [(0, (EK.int Go.IntKind.i64)), (1, EK.str)] [(AV.cel (AV.atAgg x0 (ys577.getD 0 default) 0 2) 0), (AV.cel (AV.atAgg x0 (ys577.getD 0 default) 0 2) 1)] [(AV.cel (AV.atAgg x1 (ys577.getD 0 default) 0 2) 0), (AV.cel (AV.atAgg x1 (ys577.getD 0 default) 0 2) 1)])) →
        ((AV.binOk Go.BinOp.add (ys577.getD 0 default) (AV.int 1)) ∧
        (again577 [(AV.bin Go.BinOp.add (ys577.getD 0 default) (AV.int 1))]))))))))))))) ∧
    ((isF (AV.bin Go.BinOp.lss (ys577.getD 0 default) (AV.len x0))) →
      ((AV.flat (AV.bool true)) ∧
      (fSame (AV.bool true) r))))))))))))))) := by kernel_rfl
theorem fact_form ( r : AV) : fnF Try.prog Γ ann 4 47 Try.f47 (Try.f47.body.getD .skip) ((.f (.f (.f (.f (.f (.f (.f (.f (.t (.t (.t (.t (.t (.t (.t (.t (.t (.t (.t (.t (.t .nil)))))))))))))))))))))) [] (.sc) r = (((fEnt Try.prog 70) ∧
(fAllV fun _ => (∃ r385 : AV, ((Fn Try.prog 48 [(AV.agg [(AV.int 1), (AV.lit (Value.slice none 0 0))]), (AV.lit (Value.string ⟨#[97]⟩))] (Sh.tup [(Sh.agg [Sh.sc, (Sh.row 9 1 true)]), Sh.sc]) r385) ∧
(∃ r897 : AV, ((Fn Try.prog 48 [(AV.agg [(AV.cel (AV.prj r385 0) 0), (AV.cel (AV.prj r385 0) 1)]), (AV.lit (Value.string ⟨#[98]⟩))] (Sh.tup [(Sh.agg [Sh.sc, (Sh.row 9 1 true)]), Sh.sc]) r897) ∧
(∃ r1345 : AV, ((Fn Try.prog 49 [(AV.agg [(AV.cel (AV.prj r897 0) 0), (AV.cel (AV.prj r897 0) 1)])] (Sh.tup [(Sh.row 89 2 true), Sh.sc]) r1345) ∧
(∃ r1793 : AV, ((Fn Try.prog 55 [(AV.int 1), (AV.agg [(AV.int 1), (AV.lit (Value.string ⟨#[97]⟩))])] (Sh.tup [Sh.sc, Sh.sc, Sh.sc]) r1793) ∧
(∃ r2369 : AV, ((Fn Try.prog 54 [(AV.agg [(AV.cel (AV.prj r897 0) 0), (AV.cel (AV.prj r897 0) 1)]), (AV.int 2)] (Sh.tup [(Sh.agg [Sh.sc, (Sh.row 9 1 true)]), Sh.sc]) r2369) ∧
((fEnt Try.prog 56) ∧
(fAllV fun _ => (∃ r3521 : AV, ((Fn Try.prog 51 [(AV.agg [(AV.int 0), (AV.lit (Value.slice none 0 0))])] Sh.sc r3521) ∧
((AV.binOk Go.BinOp.neq r3521 (AV.int 4)) ∧
((AV.isBool (AV.bin Go.BinOp.neq r3521 (AV.int 4))) ∧
((isF (AV.bin Go.BinOp.neq r3521 (AV.int 4))) ∧
((fEnt Try.prog 58) ∧
(fAllV fun _ => ((AV.isStr (AV.lit (Value.string ⟨#[97]⟩))) ∧
((AV.binOk Go.BinOp.gtr (AV.slen (AV.lit (Value.string ⟨#[97]⟩))) (AV.int 120)) ∧
((AV.isBool (AV.bin Go.BinOp.gtr (AV.slen (AV.lit (Value.string ⟨#[97]⟩))) (AV.int 120))) ∧
((isF (AV.bin Go.BinOp.gtr (AV.slen (AV.lit (Value.string ⟨#[97]⟩))) (AV.int 120))) ∧
((AV.room (AV.mk 1 []) (AV.mk 1 [[(AV.lit (Value.string ⟨#[97]⟩))]]) 16) ∧
((fEnt Try.prog 58) ∧
(fAllV fun _ => ((AV.isStr (AV.lit (Value.string ⟨#[98]⟩))) ∧
((AV.binOk Go.BinOp.gtr (AV.slen (AV.lit (Value.string ⟨#[98]⟩))) (AV.int 120)) ∧
((AV.isBool (AV.bin Go.BinOp.gtr (AV.slen (AV.lit (Value.string ⟨#[98]⟩))) (AV.int 120))) ∧
((isF (AV.bin Go.BinOp.gtr (AV.slen (AV.lit (Value.string ⟨#[98]⟩))) (AV.int 120))) ∧
((AV.binOk Go.BinOp.eql (AV.len (AV.app 1 (AV.mk 1 []) (AV.mk 1 [[(AV.lit (Value.string ⟨#[97]⟩))]]))) (AV.int 64)) ∧
((AV.isBool (AV.bin Go.BinOp.eql (AV.len (AV.app 1 (AV.mk 1 []) (AV.mk 1 [[(AV.lit (Value.string ⟨#[97]⟩))]]))) (AV.int 64))) ∧
((isF (AV.bin Go.BinOp.eql (AV.len (AV.app 1 (AV.mk 1 []) (AV.mk 1 [[(AV.lit (Value.string ⟨#[97]⟩))]]))) (AV.int 64))) ∧
((AV.room (AV.app 1 (AV.mk 1 []) (AV.mk 1 [[(AV.lit (Value.string ⟨#[97]⟩))]])) (AV.mk 1 [[(AV.lit (Value.string ⟨#[98]⟩))]]) 16) ∧
((fEnt Try.prog 59) ∧
(fAllV fun _ => ((AV.binOk Go.BinOp.geq (AV.int 1) (AV.len (AV.app 1 (AV.app 1 (AV.mk 1 []) (AV.mk 1 [[(AV.lit (Value.string ⟨#[97]⟩))]])) (AV.mk 1 [[(AV.lit (Value.string ⟨#[98]⟩))]])))) ∧
((AV.isBool (AV.bin Go.BinOp.geq (AV.int 1) (AV.len (AV.app 1 (AV.app 1 (AV.mk 1 []) (AV.mk 1 [[(AV.lit (Value.string ⟨#[97]⟩))]])) (AV.mk 1 [[(AV.lit (Value.string ⟨#[98]⟩))]]))))) ∧
((isF (AV.bin Go.BinOp.geq (AV.int 1) (AV.len (AV.app 1 (AV.app 1 (AV.mk 1 []) (AV.mk 1 [[(AV.lit (Value.string ⟨#[97]⟩))]])) (AV.mk 1 [[(AV.lit (Value.string ⟨#[98]⟩))]]))))) ∧
((AV.inb (AV.app 1 (AV.app 1 (AV.mk 1 []) (AV.mk 1 [[(AV.lit (Value.string ⟨#[97]⟩))]])) (AV.mk 1 [[(AV.lit (Value.string ⟨#[98]⟩))]])) (AV.int 1)) ∧
((AV.inb (AV.app 1 (AV.app 1 (AV.mk 1 []) (AV.mk 1 [[(AV.lit (Value.string ⟨#[97]⟩))]])) (AV.mk 1 [[(AV.lit (Value.string ⟨#[98]⟩))]])) (AV.int 1)) ∧
((AV.binOk Go.BinOp.add (AV.int 1) (AV.int 1)) ∧
(∃ r9281 : AV, ((FnU Try.prog 75 9 1 (AV.app 1 (AV.app 1 (AV.mk 1 []) (AV.mk 1 [[(AV.lit (Value.string ⟨#[97]⟩))]])) (AV.mk 1 [[(AV.lit (Value.string ⟨#[98]⟩))]])) [(AV.int 1), (AV.bin Go.BinOp.add (AV.int 1) (AV.int 1))] true r9281) ∧
((fEnt Try.prog 61) ∧
(fAllV fun _ => ((AV.binOk Go.BinOp.geq (AV.int 0) (AV.len r9281)) ∧
((AV.isBool (AV.bin Go.BinOp.geq (AV.int 0) (AV.len r9281))) ∧
((isF (AV.bin Go.BinOp.geq (AV.int 0) (AV.len r9281))) ∧
((AV.inb r9281 (AV.int 0)) ∧
((AV.inb r9281 (AV.int 0)) ∧
((fEnt Try.prog 58) ∧
(fAllV fun _ => ((AV.isStr (AV.at r9281 (AV.int 0) 0)) ∧
((AV.binOk Go.BinOp.gtr (AV.slen (AV.at r9281 (AV.int 0) 0)) (AV.int 120)) ∧
((AV.isBool (AV.bin Go.BinOp.gtr (AV.slen (AV.at r9281 (AV.int 0) 0)) (AV.int 120))) ∧
((isF (AV.bin Go.BinOp.gtr (AV.slen (AV.at r9281 (AV.int 0) 0)) (AV.int 120))) ∧
((AV.binOk Go.BinOp.eql (AV.len r9281) (AV.int 64)) ∧
((AV.isBool (AV.bin Go.BinOp.eql (AV.len r9281) (AV.int 64))) ∧
((isF (AV.bin Go.BinOp.eql (AV.len r9281) (AV.int 64))) ∧
((AV.isOne (AV.at r9281 (AV.int 0) 0)) ∧
((AV.room r9281 (AV.mk 1 [[(AV.at r9281 (AV.int 0) 0)]]) 16) ∧
((AV.binOk Go.BinOp.eql (AV.prj r385 1) (AV.int 0)) ∧
((AV.isBool (AV.bin Go.BinOp.eql (AV.prj r385 1) (AV.int 0))) ∧
((isT (AV.bin Go.BinOp.eql (AV.prj r385 1) (AV.int 0))) ∧
((AV.binOk Go.BinOp.eql (AV.prj r897 1) (AV.int 0)) ∧
((AV.isBool (AV.bin Go.BinOp.eql (AV.prj r385 1) (AV.int 0))) ∧
((isT (AV.bin Go.BinOp.eql (AV.prj r385 1) (AV.int 0))) ∧
((AV.isBool (AV.bin Go.BinOp.eql (AV.prj r897 1) (AV.int 0))) ∧
((isT (AV.bin Go.BinOp.eql (AV.prj r897 1) (AV.int 0))) ∧
((AV.binOk Go.BinOp.eql (AV.prj r1345 1) (AV.int 0)) ∧
((AV.isBool (AV.bin Go.BinOp.eql (AV.prj r897 1) (AV.int 0))) ∧
((isT (AV.bin Go.BinOp.eql (AV.prj r897 1) (AV.int 0))) ∧
((AV.isBool (AV.bin Go.BinOp.eql (AV.prj r1345 1) (AV.int 0))) ∧
((isT (AV.bin Go.BinOp.eql (AV.prj r1345 1) (AV.int 0))) ∧
((AV.binOk Go.BinOp.eql (AV.prj r1793 2) (AV.int 0)) ∧
((AV.isBool (AV.bin Go.BinOp.eql (AV.prj r1345 1) (AV.int 0))) ∧
((isT (AV.bin Go.BinOp.eql (AV.prj r1345 1) (AV.int 0))) ∧
((AV.isBool (AV.bin Go.BinOp.eql (AV.prj r1793 2) (AV.int 0))) ∧
((isT (AV.bin Go.BinOp.eql (AV.prj r1793 2) (AV.int 0))) ∧
((AV.binOk Go.BinOp.eql (AV.prj r2369 1) (AV.int 0)) ∧
((AV.isBool (AV.bin Go.BinOp.eql (AV.prj r1793 2) (AV.int 0))) ∧
((isT (AV.bin Go.BinOp.eql (AV.prj r1793 2) (AV.int 0))) ∧
((AV.isBool (AV.bin Go.BinOp.eql (AV.prj r2369 1) (AV.int 0))) ∧
((isT (AV.bin Go.BinOp.eql (AV.prj r2369 1) (AV.int 0))) ∧
((AV.isBool (AV.bin Go.BinOp.eql (AV.prj r2369 1) (AV.int 0))) ∧
((isT (AV.bin Go.BinOp.eql (AV.prj r2369 1) (AV.int 0))) ∧
(∃ r15873 : AV, ((Fn Try.prog 71 [(AV.prj r1345 0), (AV.mk 2 [[(AV.int 1), (AV.lit (Value.string ⟨#[97]⟩))], [(AV.int 2), (AV.lit (Value.string ⟨#[98]⟩))]])] Sh.sc r15873) ∧
((AV.isBool r15873) ∧
((isT r15873) ∧
((AV.binOk Go.BinOp.eql (AV.prj r1793 0) (AV.int 2)) ∧
((AV.isBool r15873) ∧
((isT r15873) ∧
((AV.isBool (AV.bin Go.BinOp.eql (AV.prj r1793 0) (AV.int 2))) ∧
((isT (AV.bin Go.BinOp.eql (AV.prj r1793 0) (AV.int 2))) ∧
((AV.isBool (AV.bin Go.BinOp.eql (AV.prj r1793 0) (AV.int 2))) ∧
((isT (AV.bin Go.BinOp.eql (AV.prj r1793 0) (AV.int 2))) ∧
((AV.isBool (AV.prj r1793 1)) ∧
((isT (AV.prj r1793 1)) ∧
((AV.binOk Go.BinOp.eql (AV.cel (AV.prj r2369 0) 0) (AV.int 2)) ∧
((AV.isBool (AV.prj r1793 1)) ∧
((isT (AV.prj r1793 1)) ∧
((AV.isBool (AV.bin Go.BinOp.eql (AV.cel (AV.prj r2369 0) 0) (AV.int 2))) ∧
((isT (AV.bin Go.BinOp.eql (AV.cel (AV.prj r2369 0) 0) (AV.int 2))) ∧
(∃ r17025 : AV, ((Fn Try.prog 52 [(AV.cel (AV.prj r2369 0) 1), (AV.mk 1 [[(AV.lit (Value.string ⟨#[98]⟩))]])] Sh.sc r17025) ∧
((AV.isBool (AV.bin Go.BinOp.eql (AV.cel (AV.prj r2369 0) 0) (AV.int 2))) ∧
((isT (AV.bin Go.BinOp.eql (AV.cel (AV.prj r2369 0) 0) (AV.int 2))) ∧
((AV.isBool r17025) ∧
((isT r17025) ∧
((AV.binOk Go.BinOp.eql (AV.at (AV.app 1 (AV.app 1 (AV.mk 1 []) (AV.mk 1 [[(AV.lit (Value.string ⟨#[97]⟩))]])) (AV.mk 1 [[(AV.lit (Value.string ⟨#[98]⟩))]])) (AV.int 1) 0) (AV.lit (Value.string ⟨#[98]⟩))) ∧
((AV.isBool r17025) ∧
((isT r17025) ∧
((AV.isBool (AV.bin Go.BinOp.eql (AV.at (AV.app 1 (AV.app 1 (AV.mk 1 []) (AV.mk 1 [[(AV.lit (Value.string ⟨#[97]⟩))]])) (AV.mk 1 [[(AV.lit (Value.string ⟨#[98]⟩))]])) (AV.int 1) 0) (AV.lit (Value.string ⟨#[98]⟩)))) ∧
((isT (AV.bin Go.BinOp.eql (AV.at (AV.app 1 (AV.app 1 (AV.mk 1 []) (AV.mk 1 [[(AV.lit (Value.string ⟨#[97]⟩))]])) (AV.mk 1 [[(AV.lit (Value.string ⟨#[98]⟩))]])) (AV.int 1) 0) (AV.lit (Value.string ⟨#[98]⟩)))) ∧
((fEnt Try.prog 62) ∧
(fAllV fun _ => ((AV.binOk Go.BinOp.eql (AV.len (AV.app 1 r9281 (AV.mk 1 [[(AV.at r9281 (AV.int 0) 0)]]))) (AV.int 2)) ∧
((AV.isBool (AV.bin Go.BinOp.eql (AV.at (AV.app 1 (AV.app 1 (AV.mk 1 []) (AV.mk 1 [[(AV.lit (Value.string ⟨#[97]⟩))]])) (AV.mk 1 [[(AV.lit (Value.string ⟨#[98]⟩))]])) (AV.int 1) 0) (AV.lit (Value.string ⟨#[98]⟩)))) ∧
((isT (AV.bin Go.BinOp.eql (AV.at (AV.app 1 (AV.app 1 (AV.mk 1 []) (AV.mk 1 [[(AV.lit (Value.string ⟨#[97]⟩))]])) (AV.mk 1 [[(AV.lit (Value.string ⟨#[98]⟩))]])) (AV.int 1) 0) (AV.lit (Value.string ⟨#[98]⟩)))) ∧
((AV.isBool (AV.bin Go.BinOp.eql (AV.len (AV.app 1 r9281 (AV.mk 1 [[(AV.at r9281 (AV.int 0) 0)]]))) (AV.int 2))) ∧
((isT (AV.bin Go.BinOp.eql (AV.len (AV.app 1 r9281 (AV.mk 1 [[(AV.at r9281 (AV.int 0) 0)]]))) (AV.int 2))) ∧
((fEnt Try.prog 60) ∧
(fAllV fun _ => ((fEnt Try.prog 59) ∧
(fAllV fun _ => ((AV.binOk Go.BinOp.geq (AV.int 2) (AV.len (AV.app 1 r9281 (AV.mk 1 [[(AV.at r9281 (AV.int 0) 0)]])))) ∧
((AV.isBool (AV.bin Go.BinOp.geq (AV.int 2) (AV.len (AV.app 1 r9281 (AV.mk 1 [[(AV.at r9281 (AV.int 0) 0)]]))))) ∧
((isT (AV.bin Go.BinOp.geq (AV.int 2) (AV.len (AV.app 1 r9281 (AV.mk 1 [[(AV.at r9281 (AV.int 0) 0)]]))))) ∧
((AV.isBool (AV.bin Go.BinOp.eql (AV.len (AV.app 1 r9281 (AV.mk 1 [[(AV.at r9281 (AV.int 0) 0)]]))) (AV.int 2))) ∧
((isT (AV.bin Go.BinOp.eql (AV.len (AV.app 1 r9281 (AV.mk 1 [[(AV.at r9281 (AV.int 0) 0)]]))) (AV.int 2))) ∧
((AV.flat (AV.bool true)) ∧
(fSame (AV.bool true) r))))))))))))))))))))))))))))))))))))))))))))))))))))))))))))))))))))))))))))))))))))))))))))))))))))))))))))))))))))))))))))))))))))))))) := by kernel_rfl
theorem sends_form (x0 x1 r : AV) : fnF Try.prog Γ ann 0 11 Try.f11 (Try.f11.body.getD .skip) ((.f (.f (.f (.both (.f (.f (.f (.f (.f .nil))))) (.both (.f (.t (.both (.t (.t .nil)) (.t (.both (.t (.t .nil)) (.both (.t (.t .nil)) (.f (.t (.t .nil))))))))) (.f (.f (.t (.t (.t .nil))))))))))) [x0, x1] (.sc) r = (((AV.isAgg x0 2) ∧
(∃ r129 : AV, ((Fn Try.prog 47 [] Sh.sc r129) ∧
((AV.unOk Go.UnOp.not r129) ∧
((AV.isBool (AV.un Go.UnOp.not r129)) ∧
((isF (AV.un Go.UnOp.not r129)) ∧
(∃ r385 : AV, ((Fn Try.prog 48 [(AV.agg [(AV.cel x0 0), (AV.cel x0 1)]), x1] (Sh.tup [(Sh.agg [Sh.sc, (Sh.row 9 1 true)]), Sh.sc]) r385) ∧
(∃ r897 : AV, ((Fn Try.prog 49 [(AV.agg [(AV.cel x0 0), (AV.cel x0 1)])] (Sh.tup [(Sh.row 89 2 true), Sh.sc]) r897) ∧
(∃ r1345 : AV, ((Fn Try.prog 50 [(AV.agg [(AV.cel x0 0), (AV.cel x0 1)])] Sh.sc r1345) ∧
(∃ r1537 : AV, ((Fn Try.prog 51 [(AV.agg [(AV.cel x0 0), (AV.cel x0 1)])] Sh.sc r1537) ∧
((AV.binOk Go.BinOp.neq r1537 r1345) ∧
((AV.isBool (AV.bin Go.BinOp.neq r1537 r1345)) ∧
((isF (AV.bin Go.BinOp.neq r1537 r1345)) ∧
((AV.binOk Go.BinOp.neq (AV.prj r897 1) r1345) ∧
((AV.isBool (AV.bin Go.BinOp.neq r1537 r1345)) ∧
((isF (AV.bin Go.BinOp.neq r1537 r1345)) ∧
((AV.isBool (AV.bin Go.BinOp.neq (AV.prj r897 1) r1345)) ∧
((isF (AV.bin Go.BinOp.neq (AV.prj r897 1) r1345)) ∧
(fLoop 2241 [(AV.int 0)] fun ys2241 again2241 =>
  ((AV.binOk Go.BinOp.lss (ys2241.getD 0 default) (AV.len (AV.prj r897 0))) ∧
  ((AV.isBool (AV.bin Go.BinOp.lss (ys2241.getD 0 default) (AV.len (AV.prj r897 0)))) ∧
  (((isT (AV.bin Go.BinOp.lss (ys2241.getD 0 default) (AV.len (AV.prj r897 0)))) →
    ((AV.inb (AV.prj r897 0) (ys2241.getD 0 default)) ∧
    ((AV.inb (AV.prj r897 0) (ys2241.getD 0 default)) ∧
    ((AV.isAgg (AV.atAgg (AV.prj r897 0) (ys2241.getD 0 default) 0 2) 2) ∧
    ((AV.binOk Go.BinOp.neq r1345 (AV.int 0)) ∧
    ((AV.isBool (AV.bin Go.BinOp.neq r1345 (AV.int 0))) ∧
    ((isF (AV.bin Go.BinOp.neq r1345 (AV.int 0))) ∧
    ((AV.binOk Go.BinOp.gtr (ys2241.getD 0 default) (AV.int 3)) ∧
    ((AV.isBool (AV.bin Go.BinOp.neq r1345 (AV.int 0))) ∧
    ((isF (AV.bin Go.BinOp.neq r1345 (AV.int 0))) ∧
    ((AV.isBool (AV.bin Go.BinOp.gtr (ys2241.getD 0 default) (AV.int 3))) ∧
    ((isF (AV.bin Go.BinOp.gtr (ys2241.getD 0 default) (AV.int 3))) ∧
    ((AV.isSl (AV.cel x0 1) 1) ∧
    ((AV.binOk Go.BinOp.geq (ys2241.getD 0 default) (AV.len (AV.cel x0 1))) ∧
    ((AV.isBool (AV.bin Go.BinOp.gtr (ys2241.getD 0 default) (AV.int 3))) ∧
    ((isF (AV.bin Go.BinOp.gtr (ys2241.getD 0 default) (AV.int 3))) ∧
    ((AV.isBool (AV.bin Go.BinOp.geq (ys2241.getD 0 default) (AV.len (AV.cel x0 1)))) ∧
    ((isF (AV.bin Go.BinOp.geq (ys2241.getD 0 default) (AV.len (AV.cel x0 1)))) ∧
    ((AV.binOk Go.BinOp.add (AV.cel x0 0) (ys2241.getD 0 default)) ∧
    ((AV.binOk Go.BinOp.neq (AV.cel (AV.atAgg (AV.prj r897 0) (ys2241.getD 0 default) 0 2) 0) (AV.bin Go.BinOp.add (AV.cel x0 0) (ys2241.getD 0 default))) ∧
    ((AV.isBool (AV.bin Go.BinOp.geq (ys2241.getD 0 default) (AV.len (AV.cel x0 1)))) ∧
    ((isF (AV.bin Go.BinOp.geq (ys2241.getD 0 default) (AV.len (AV.cel x0 1)))) ∧
    ((AV.isBool (AV.bin Go.BinOp.neq (AV.cel (AV.atAgg (AV.prj r897 0) (ys2241.getD 0 default) 0 2) 0) (AV.bin Go.BinOp.add (AV.cel x0 0) (ys2241.getD 0 default)))) ∧
    ((isF (AV.bin Go.BinOp.neq (AV.cel (AV.atAgg (AV.prj r897 0) (ys2241.getD 0 default) 0 2) 0) (AV.bin Go.BinOp.add (AV.cel x0 0) (ys2241.getD 0 default)))) ∧
    ((AV.isSl (AV.cel x0 1) 1) ∧
    ((AV.inb (AV.cel x0 1) (ys2241.getD 0 default)) ∧
    ((AV.binOk Go.BinOp.neq (AV.cel (AV.atAgg (AV.prj r897 0) (ys2241.getD 0 default) 0 2) 1) (AV.at (AV.cel x0 1) (ys2241.getD 0 default) 0)) ∧
    ((AV.isBool (AV.bin Go.BinOp.neq (AV.cel (AV.atAgg (AV.prj r897 0) (ys2241.getD 0 default) 0 2) 0) (AV.bin Go.BinOp.add (AV.cel x0 0) (ys2241.getD 0 default)))) ∧
    ((isF (AV.bin Go.BinOp.neq (AV.cel (AV.atAgg (AV.prj r897 0) (ys2241.getD 0 default) 0 2) 0) (AV.bin Go.BinOp.add (AV.cel x0 0) (ys2241.getD 0 default)))) ∧
    ((AV.isBool (AV.bin Go.BinOp.neq (AV.cel (AV.atAgg (AV.prj r897 0) (ys2241.getD 0 default) 0 2) 1) (AV.at (AV.cel x0 1) (ys2241.getD 0 default) 0))) ∧
    ((isF (AV.bin Go.BinOp.neq (AV.cel (AV.atAgg (AV.prj r897 0) (ys2241.getD 0 default) 0 2) 1) (AV.at (AV.cel x0 1) (ys2241.getD 0 default) 0))) ∧
    ((AV.binOk Go.BinOp.add (ys2241.getD 0 default) (AV.int 1)) ∧
    (again2241 [(AV.bin Go.BinOp.add (ys2241.getD 0 default) (AV.int 1))]))))))))))))))))))))))))))))))))) ∧
  ((isF (AV.bin Go.BinOp.lss (ys2241.getD 0 default) (AV.len (AV.prj r897 0)))) →
    ((AV.binOk Go.BinOp.eql r1345 (AV.int 0)) ∧
    ((AV.isBool (AV.bin Go.BinOp.eql r1345 (AV.int 0))) ∧
    (((isT (AV.bin Go.BinOp.eql r1345 (AV.int 0))) →
      ((AV.isSl (AV.cel x0 1) 1) ∧
      ((AV.isInt (AV.int 4)) ∧
      ((AV.isInt (AV.len (AV.cel x0 1))) ∧
      ((AV.binOk Go.BinOp.neq (AV.len (AV.prj r897 0)) (AV.mn (AV.int 4) (AV.len (AV.cel x0 1)))) ∧
      ((AV.isBool (AV.bin Go.BinOp.eql r1345 (AV.int 0))) ∧
      ((isT (AV.bin Go.BinOp.eql r1345 (AV.int 0))) ∧
      ((AV.isBool (AV.bin Go.BinOp.neq (AV.len (AV.prj r897 0)) (AV.mn (AV.int 4) (AV.len (AV.cel x0 1))))) ∧
      ((isF (AV.bin Go.BinOp.neq (AV.len (AV.prj r897 0)) (AV.mn (AV.int 4) (AV.len (AV.cel x0 1))))) ∧
      ((AV.binOk Go.BinOp.eql r1345 (AV.int 0)) ∧
      ((AV.isBool (AV.bin Go.BinOp.eql r1345 (AV.int 0))) ∧
      ((isT (AV.bin Go.BinOp.eql r1345 (AV.int 0))) ∧
      ((AV.isStr x1) ∧
      ((AV.binOk Go.BinOp.gtr (AV.slen x1) (AV.int 120)) ∧
      ((AV.isBool (AV.bin Go.BinOp.eql r1345 (AV.int 0))) ∧
      ((isT (AV.bin Go.BinOp.eql r1345 (AV.int 0))) ∧
      ((AV.isBool (AV.bin Go.BinOp.gtr (AV.slen x1) (AV.int 120))) ∧
      (((isT (AV.bin Go.BinOp.gtr (AV.slen x1) (AV.int 120))) →
        ((AV.binOk Go.BinOp.eql (AV.prj r385 1) (AV.int 2)) ∧
        ((AV.isBool (AV.bin Go.BinOp.eql (AV.prj r385 1) (AV.int 2))) ∧
        ((isT (AV.bin Go.BinOp.eql (AV.prj r385 1) (AV.int 2))) ∧
        ((AV.binOk Go.BinOp.eql (AV.cel (AV.prj r385 0) 0) (AV.int 0)) ∧
        ((AV.isBool (AV.bin Go.BinOp.eql (AV.prj r385 1) (AV.int 2))) ∧
        ((isT (AV.bin Go.BinOp.eql (AV.prj r385 1) (AV.int 2))) ∧
        ((AV.isBool (AV.bin Go.BinOp.eql (AV.cel (AV.prj r385 0) 0) (AV.int 0))) ∧
        ((isT (AV.bin Go.BinOp.eql (AV.cel (AV.prj r385 0) 0) (AV.int 0))) ∧
        ((AV.binOk Go.BinOp.eql (AV.len (AV.cel (AV.prj r385 0) 1)) (AV.int 0)) ∧
        ((AV.isBool (AV.bin Go.BinOp.eql (AV.cel (AV.prj r385 0) 0) (AV.int 0))) ∧
        ((isT (AV.bin Go.BinOp.eql (AV.cel (AV.prj r385 0) 0) (AV.int 0))) ∧
        ((AV.flat (AV.bin Go.BinOp.eql (AV.len (AV.cel (AV.prj r385 0) 1)) (AV.int 0))) ∧
        (fSame (AV.bin Go.BinOp.eql (AV.len (AV.cel (AV.prj r385 0) 1)) (AV.int 0)) r)))))))))))))) ∧
      ((isF (AV.bin Go.BinOp.gtr (AV.slen x1) (AV.int 120))) →
        ((AV.binOk Go.BinOp.eql r1345 (AV.int 0)) ∧
        ((AV.isBool (AV.bin Go.BinOp.eql r1345 (AV.int 0))) ∧
        ((isT (AV.bin Go.BinOp.eql r1345 (AV.int 0))) ∧
        ((AV.isSl (AV.cel x0 1) 1) ∧
        ((AV.binOk Go.BinOp.eql (AV.len (AV.cel x0 1)) (AV.int 32)) ∧
        ((AV.isBool (AV.bin Go.BinOp.eql (AV.len (AV.cel x0 1)) (AV.int 32))) ∧
        (((isT (AV.bin Go.BinOp.eql (AV.len (AV.cel x0 1)) (AV.int 32))) →
          ((AV.isBool (AV.bin Go.BinOp.eql (AV.len (AV.cel x0 1)) (AV.int 32))) ∧
          ((isT (AV.bin Go.BinOp.eql (AV.len (AV.cel x0 1)) (AV.int 32))) ∧
          ((AV.isBool (AV.bin Go.BinOp.eql r1345 (AV.int 0))) ∧
          ((isT (AV.bin Go.BinOp.eql r1345 (AV.int 0))) ∧
          ((AV.binOk Go.BinOp.eql (AV.prj r385 1) (AV.int 9)) ∧
          ((AV.isBool (AV.bin Go.BinOp.eql (AV.prj r385 1) (AV.int 9))) ∧
          ((isT (AV.bin Go.BinOp.eql (AV.prj r385 1) (AV.int 9))) ∧
          ((AV.binOk Go.BinOp.eql (AV.cel (AV.prj r385 0) 0) (AV.int 0)) ∧
          ((AV.isBool (AV.bin Go.BinOp.eql (AV.prj r385 1) (AV.int 9))) ∧
          ((isT (AV.bin Go.BinOp.eql (AV.prj r385 1) (AV.int 9))) ∧
          ((AV.isBool (AV.bin Go.BinOp.eql (AV.cel (AV.prj r385 0) 0) (AV.int 0))) ∧
          ((isT (AV.bin Go.BinOp.eql (AV.cel (AV.prj r385 0) 0) (AV.int 0))) ∧
          ((AV.binOk Go.BinOp.eql (AV.len (AV.cel (AV.prj r385 0) 1)) (AV.int 0)) ∧
          ((AV.isBool (AV.bin Go.BinOp.eql (AV.cel (AV.prj r385 0) 0) (AV.int 0))) ∧
          ((isT (AV.bin Go.BinOp.eql (AV.cel (AV.prj r385 0) 0) (AV.int 0))) ∧
          ((AV.flat (AV.bin Go.BinOp.eql (AV.len (AV.cel (AV.prj r385 0) 1)) (AV.int 0))) ∧
          (fSame (AV.bin Go.BinOp.eql (AV.len (AV.cel (AV.prj r385 0) 1)) (AV.int 0)) r)))))))))))))))))) ∧
        ((isF (AV.bin Go.BinOp.eql (AV.len (AV.cel x0 1)) (AV.int 32))) →
          ((AV.isSl (AV.cel x0 1) 1) ∧
          ((AV.binOk Go.BinOp.add (AV.cel x0 0) (AV.len (AV.cel x0 1))) ∧
          ((AV.binOk Go.BinOp.eql (AV.bin Go.BinOp.add (AV.cel x0 0) (AV.len (AV.cel x0 1))) (AV.int 100000)) ∧
          ((AV.isBool (AV.bin Go.BinOp.eql (AV.len (AV.cel x0 1)) (AV.int 32))) ∧
          ((isF (AV.bin Go.BinOp.eql (AV.len (AV.cel x0 1)) (AV.int 32))) ∧
          ((AV.isBool (AV.bin Go.BinOp.eql r1345 (AV.int 0))) ∧
          ((isT (AV.bin Go.BinOp.eql r1345 (AV.int 0))) ∧
          ((AV.isBool (AV.bin Go.BinOp.eql (AV.bin Go.BinOp.add (AV.cel x0 0) (AV.len (AV.cel x0 1))) (AV.int 100000))) ∧
          (((isT (AV.bin Go.BinOp.eql (AV.bin Go.BinOp.add (AV.cel x0 0) (AV.len (AV.cel x0 1))) (AV.int 100000))) →
            ((AV.binOk Go.BinOp.eql (AV.prj r385 1) (AV.int 9)) ∧
            ((AV.isBool (AV.bin Go.BinOp.eql (AV.prj r385 1) (AV.int 9))) ∧
            ((isT (AV.bin Go.BinOp.eql (AV.prj r385 1) (AV.int 9))) ∧
            ((AV.binOk Go.BinOp.eql (AV.cel (AV.prj r385 0) 0) (AV.int 0)) ∧
            ((AV.isBool (AV.bin Go.BinOp.eql (AV.prj r385 1) (AV.int 9))) ∧
            ((isT (AV.bin Go.BinOp.eql (AV.prj r385 1) (AV.int 9))) ∧
            ((AV.isBool (AV.bin Go.BinOp.eql (AV.cel (AV.prj r385 0) 0) (AV.int 0))) ∧
            ((isT (AV.bin Go.BinOp.eql (AV.cel (AV.prj r385 0) 0) (AV.int 0))) ∧
            ((AV.binOk Go.BinOp.eql (AV.len (AV.cel (AV.prj r385 0) 1)) (AV.int 0)) ∧
            ((AV.isBool (AV.bin Go.BinOp.eql (AV.cel (AV.prj r385 0) 0) (AV.int 0))) ∧
            ((isT (AV.bin Go.BinOp.eql (AV.cel (AV.prj r385 0) 0) (AV.int 0))) ∧
            ((AV.flat (AV.bin Go.BinOp.eql (AV.len (AV.cel (AV.prj r385 0) 1)) (AV.int 0))) ∧
            (fSame (AV.bin Go.BinOp.eql (AV.len (AV.cel (AV.prj r385 0) 1)) (AV.int 0)) r)))))))))))))) ∧
          ((isF (AV.bin Go.BinOp.eql (AV.bin Go.BinOp.add (AV.cel x0 0) (AV.len (AV.cel x0 1))) (AV.int 100000))) →
            ((AV.binOk Go.BinOp.neq r1345 (AV.int 0)) ∧
            ((AV.isBool (AV.bin Go.BinOp.neq r1345 (AV.int 0))) ∧
            ((isF (AV.bin Go.BinOp.neq r1345 (AV.int 0))) ∧
            ((AV.binOk Go.BinOp.eql (AV.prj r385 1) (AV.int 0)) ∧
            ((AV.isBool (AV.bin Go.BinOp.eql (AV.prj r385 1) (AV.int 0))) ∧
            ((isT (AV.bin Go.BinOp.eql (AV.prj r385 1) (AV.int 0))) ∧
            ((AV.binOk Go.BinOp.eql (AV.cel (AV.prj r385 0) 0) (AV.cel x0 0)) ∧
            ((AV.isBool (AV.bin Go.BinOp.eql (AV.prj r385 1) (AV.int 0))) ∧
            ((isT (AV.bin Go.BinOp.eql (AV.prj r385 1) (AV.int 0))) ∧
            ((AV.isBool (AV.bin Go.BinOp.eql (AV.cel (AV.prj r385 0) 0) (AV.cel x0 0))) ∧
            ((isT (AV.bin Go.BinOp.eql (AV.cel (AV.prj r385 0) 0) (AV.cel x0 0))) ∧
            (∃ r5569 : AV, ((Fn Try.prog 53 [(AV.cel x0 1)] (Sh.row 9 1 true) r5569) ∧
            ((AV.isOne x1) ∧
            ((AV.room r5569 (AV.mk 1 [[x1]]) 16) ∧
            (∃ r5825 : AV, ((Fn Try.prog 52 [(AV.cel (AV.prj r385 0) 1), (AV.app 1 r5569 (AV.mk 1 [[x1]]))] Sh.sc r5825) ∧
            ((AV.isBool (AV.bin Go.BinOp.eql (AV.cel (AV.prj r385 0) 0) (AV.cel x0 0))) ∧
            ((isT (AV.bin Go.BinOp.eql (AV.cel (AV.prj r385 0) 0) (AV.cel x0 0))) ∧
            ((AV.flat r5825) ∧
            (fSame r5825 r)))))))))))))))))))))))))))))))))))))))))))))))))))))))))) ∧
    ((isF (AV.bin Go.BinOp.eql r1345 (AV.int 0))) →
      ((AV.isBool (AV.bin Go.BinOp.eql r1345 (AV.int 0))) ∧
      ((isF (AV.bin Go.BinOp.eql r1345 (AV.int 0))) ∧
      ((AV.binOk Go.BinOp.eql r1345 (AV.int 0)) ∧
      ((AV.isBool (AV.bin Go.BinOp.eql r1345 (AV.int 0))) ∧
      ((isF (AV.bin Go.BinOp.eql r1345 (AV.int 0))) ∧
      ((AV.isBool (AV.bin Go.BinOp.eql r1345 (AV.int 0))) ∧
      ((isF (AV.bin Go.BinOp.eql r1345 (AV.int 0))) ∧
      ((AV.binOk Go.BinOp.eql r1345 (AV.int 0)) ∧
      ((AV.isBool (AV.bin Go.BinOp.eql r1345 (AV.int 0))) ∧
      ((isF (AV.bin Go.BinOp.eql r1345 (AV.int 0))) ∧
      ((AV.isBool (AV.bin Go.BinOp.eql r1345 (AV.int 0))) ∧
      ((isF (AV.bin Go.BinOp.eql r1345 (AV.int 0))) ∧
      ((AV.binOk Go.BinOp.neq r1345 (AV.int 0)) ∧
      ((AV.isBool (AV.bin Go.BinOp.neq r1345 (AV.int 0))) ∧
      ((isT (AV.bin Go.BinOp.neq r1345 (AV.int 0))) ∧
      ((AV.binOk Go.BinOp.eql (AV.prj r385 1) r1345) ∧
      ((AV.isBool (AV.bin Go.BinOp.eql (AV.prj r385 1) r1345)) ∧
      ((isT (AV.bin Go.BinOp.eql (AV.prj r385 1) r1345)) ∧
      ((AV.binOk Go.BinOp.eql (AV.cel (AV.prj r385 0) 0) (AV.int 0)) ∧
      ((AV.isBool (AV.bin Go.BinOp.eql (AV.prj r385 1) r1345)) ∧
      ((isT (AV.bin Go.BinOp.eql (AV.prj r385 1) r1345)) ∧
      ((AV.isBool (AV.bin Go.BinOp.eql (AV.cel (AV.prj r385 0) 0) (AV.int 0))) ∧
      ((isT (AV.bin Go.BinOp.eql (AV.cel (AV.prj r385 0) 0) (AV.int 0))) ∧
      ((AV.binOk Go.BinOp.eql (AV.len (AV.cel (AV.prj r385 0) 1)) (AV.int 0)) ∧
      ((AV.isBool (AV.bin Go.BinOp.eql (AV.cel (AV.prj r385 0) 0) (AV.int 0))) ∧
      ((isT (AV.bin Go.BinOp.eql (AV.cel (AV.prj r385 0) 0) (AV.int 0))) ∧
      ((AV.flat (AV.bin Go.BinOp.eql (AV.len (AV.cel (AV.prj r385 0) 1)) (AV.int 0))) ∧
      (fSame (AV.bin Go.BinOp.eql (AV.len (AV.cel (AV.prj r385 0) 1)) (AV.int 0)) r)))))))))))))))))))))))))))))))))))))))))))))))))))))))))))) := by kernel_rfl
theorem hears_form (x0 x1 x2 r : AV) : fnF Try.prog Γ ann 0 12 Try.f12 (Try.f12.body.getD .skip) ((.f (.both (.f (.f (.f (.both (.t (.t (.t .nil))) (.t (.t (.t .nil))))))) (.both (.f (.f (.f (.both (.f (.both (.t (.t .nil)) (.f (.t (.t .nil))))) (.t (.t (.t .nil))))))) (.both (.f (.f (.f (.both (.f (.both (.t (.t .nil)) (.f (.t (.t .nil))))) (.t (.t (.t .nil))))))) (.both (.f (.f (.f (.both (.f (.both (.t (.t .nil)) (.f (.t (.t .nil))))) (.t (.t (.t .nil))))))) (.both (.f (.f (.f (.both (.f (.both (.t (.t .nil)) (.f (.t (.t .nil))))) (.t (.t (.t .nil))))))) (.f (.f (.both (.f (.f (.both (.f (.both (.t (.t .nil)) (.f (.t (.t .nil))))) (.t (.t (.t .nil)))))) (.t (.f (.both (.f (.both (.t (.t .nil)) (.f (.t (.t .nil))))) (.t (.t (.t .nil)))))))))))))))) [x0, x1, x2] (.sc) r = (((AV.isAgg x0 2) ∧
((AV.isAgg x2 2) ∧
(∃ r193 : AV, ((Fn Try.prog 47 [] Sh.sc r193) ∧
((AV.unOk Go.UnOp.not r193) ∧
((AV.isBool (AV.un Go.UnOp.not r193)) ∧
((isF (AV.un Go.UnOp.not r193)) ∧
(∃ r449 : AV, ((Fn Try.prog 54 [(AV.agg [(AV.cel x0 0), (AV.cel x0 1)]), x1] (Sh.tup [(Sh.agg [Sh.sc, (Sh.row 9 1 true)]), Sh.sc]) r449) ∧
(∃ r1025 : AV, ((Fn Try.prog 55 [x1, (AV.agg [(AV.cel x2 0), (AV.cel x2 1)])] (Sh.tup [Sh.sc, Sh.sc, Sh.sc]) r1025) ∧
((AV.binOk Go.BinOp.lss x1 (AV.int 1)) ∧
((AV.isBool (AV.bin Go.BinOp.lss x1 (AV.int 1))) ∧
(((isT (AV.bin Go.BinOp.lss x1 (AV.int 1))) →
  ((AV.isBool (AV.bin Go.BinOp.lss x1 (AV.int 1))) ∧
  ((isT (AV.bin Go.BinOp.lss x1 (AV.int 1))) ∧
  ((AV.binOk Go.BinOp.neq (AV.prj r1025 2) (AV.int 4)) ∧
  ((AV.isBool (AV.bin Go.BinOp.neq (AV.prj r1025 2) (AV.int 4))) ∧
  ((isF (AV.bin Go.BinOp.neq (AV.prj r1025 2) (AV.int 4))) ∧
  ((AV.binOk Go.BinOp.neq (AV.prj r1025 0) (AV.int 0)) ∧
  ((AV.isBool (AV.bin Go.BinOp.neq (AV.prj r1025 0) (AV.int 0))) ∧
  ((isF (AV.bin Go.BinOp.neq (AV.prj r1025 0) (AV.int 0))) ∧
  ((AV.isBool (AV.bin Go.BinOp.neq (AV.prj r1025 0) (AV.int 0))) ∧
  ((isF (AV.bin Go.BinOp.neq (AV.prj r1025 0) (AV.int 0))) ∧
  ((AV.isBool (AV.bin Go.BinOp.neq (AV.prj r1025 2) (AV.int 4))) ∧
  ((isF (AV.bin Go.BinOp.neq (AV.prj r1025 2) (AV.int 4))) ∧
  ((AV.isBool (AV.prj r1025 1)) ∧
  ((isF (AV.prj r1025 1)) ∧
  ((AV.isBool (AV.prj r1025 1)) ∧
  ((isF (AV.prj r1025 1)) ∧
  (∃ r5569 : AV, ((Fn Try.prog 50 [(AV.agg [(AV.cel x0 0), (AV.cel x0 1)])] Sh.sc r5569) ∧
  ((AV.binOk Go.BinOp.eql r5569 (AV.int 0)) ∧
  ((AV.isBool (AV.bin Go.BinOp.eql r5569 (AV.int 0))) ∧
  (((isT (AV.bin Go.BinOp.eql r5569 (AV.int 0))) →
    ((AV.binOk Go.BinOp.lss x1 (AV.int 1)) ∧
    ((AV.isBool (AV.bin Go.BinOp.lss x1 (AV.int 1))) ∧
    ((isT (AV.bin Go.BinOp.lss x1 (AV.int 1))) ∧
    ((AV.isBool (AV.bin Go.BinOp.lss x1 (AV.int 1))) ∧
    ((isT (AV.bin Go.BinOp.lss x1 (AV.int 1))) ∧
    ((AV.isBool (AV.bin Go.BinOp.eql r5569 (AV.int 0))) ∧
    ((isT (AV.bin Go.BinOp.eql r5569 (AV.int 0))) ∧
    ((AV.binOk Go.BinOp.eql (AV.prj r449 1) (AV.int 4)) ∧
    ((AV.isBool (AV.bin Go.BinOp.eql (AV.prj r449 1) (AV.int 4))) ∧
    ((isT (AV.bin Go.BinOp.eql (AV.prj r449 1) (AV.int 4))) ∧
    ((AV.binOk Go.BinOp.eql (AV.cel (AV.prj r449 0) 0) (AV.int 0)) ∧
    ((AV.isBool (AV.bin Go.BinOp.eql (AV.prj r449 1) (AV.int 4))) ∧
    ((isT (AV.bin Go.BinOp.eql (AV.prj r449 1) (AV.int 4))) ∧
    ((AV.isBool (AV.bin Go.BinOp.eql (AV.cel (AV.prj r449 0) 0) (AV.int 0))) ∧
    ((isT (AV.bin Go.BinOp.eql (AV.cel (AV.prj r449 0) 0) (AV.int 0))) ∧
    ((AV.binOk Go.BinOp.eql (AV.len (AV.cel (AV.prj r449 0) 1)) (AV.int 0)) ∧
    ((AV.isBool (AV.bin Go.BinOp.eql (AV.cel (AV.prj r449 0) 0) (AV.int 0))) ∧
    ((isT (AV.bin Go.BinOp.eql (AV.cel (AV.prj r449 0) 0) (AV.int 0))) ∧
    ((AV.flat (AV.bin Go.BinOp.eql (AV.len (AV.cel (AV.prj r449 0) 1)) (AV.int 0))) ∧
    (fSame (AV.bin Go.BinOp.eql (AV.len (AV.cel (AV.prj r449 0) 1)) (AV.int 0)) r))))))))))))))))))))) ∧
  ((isF (AV.bin Go.BinOp.eql r5569 (AV.int 0))) →
    ((AV.isBool (AV.bin Go.BinOp.eql r5569 (AV.int 0))) ∧
    ((isF (AV.bin Go.BinOp.eql r5569 (AV.int 0))) ∧
    ((AV.binOk Go.BinOp.neq r5569 (AV.int 0)) ∧
    ((AV.isBool (AV.bin Go.BinOp.neq r5569 (AV.int 0))) ∧
    ((isT (AV.bin Go.BinOp.neq r5569 (AV.int 0))) ∧
    ((AV.binOk Go.BinOp.eql (AV.prj r449 1) r5569) ∧
    ((AV.isBool (AV.bin Go.BinOp.eql (AV.prj r449 1) r5569)) ∧
    ((isT (AV.bin Go.BinOp.eql (AV.prj r449 1) r5569)) ∧
    ((AV.binOk Go.BinOp.eql (AV.cel (AV.prj r449 0) 0) (AV.int 0)) ∧
    ((AV.isBool (AV.bin Go.BinOp.eql (AV.prj r449 1) r5569)) ∧
    ((isT (AV.bin Go.BinOp.eql (AV.prj r449 1) r5569)) ∧
    ((AV.isBool (AV.bin Go.BinOp.eql (AV.cel (AV.prj r449 0) 0) (AV.int 0))) ∧
    ((isT (AV.bin Go.BinOp.eql (AV.cel (AV.prj r449 0) 0) (AV.int 0))) ∧
    ((AV.binOk Go.BinOp.eql (AV.len (AV.cel (AV.prj r449 0) 1)) (AV.int 0)) ∧
    ((AV.isBool (AV.bin Go.BinOp.eql (AV.cel (AV.prj r449 0) 0) (AV.int 0))) ∧
    ((isT (AV.bin Go.BinOp.eql (AV.cel (AV.prj r449 0) 0) (AV.int 0))) ∧
    ((AV.flat (AV.bin Go.BinOp.eql (AV.len (AV.cel (AV.prj r449 0) 1)) (AV.int 0))) ∧
    (fSame (AV.bin Go.BinOp.eql (AV.len (AV.cel (AV.prj r449 0) 1)) (AV.int 0)) r))))))))))))))))))))))))))))))))))))))))) ∧
((isF (AV.bin Go.BinOp.lss x1 (AV.int 1))) →
  ((AV.binOk Go.BinOp.gtr x1 (AV.int 99999)) ∧
  ((AV.isBool (AV.bin Go.BinOp.lss x1 (AV.int 1))) ∧
  ((isF (AV.bin Go.BinOp.lss x1 (AV.int 1))) ∧
  ((AV.isBool (AV.bin Go.BinOp.gtr x1 (AV.int 99999))) ∧
  (((isT (AV.bin Go.BinOp.gtr x1 (AV.int 99999))) →
    ((AV.isBool (AV.bin Go.BinOp.gtr x1 (AV.int 99999))) ∧
    ((isT (AV.bin Go.BinOp.gtr x1 (AV.int 99999))) ∧
    ((AV.binOk Go.BinOp.neq (AV.prj r1025 2) (AV.int 4)) ∧
    ((AV.isBool (AV.bin Go.BinOp.neq (AV.prj r1025 2) (AV.int 4))) ∧
    ((isF (AV.bin Go.BinOp.neq (AV.prj r1025 2) (AV.int 4))) ∧
    ((AV.binOk Go.BinOp.neq (AV.prj r1025 0) (AV.int 0)) ∧
    ((AV.isBool (AV.bin Go.BinOp.neq (AV.prj r1025 0) (AV.int 0))) ∧
    ((isF (AV.bin Go.BinOp.neq (AV.prj r1025 0) (AV.int 0))) ∧
    ((AV.isBool (AV.bin Go.BinOp.neq (AV.prj r1025 0) (AV.int 0))) ∧
    ((isF (AV.bin Go.BinOp.neq (AV.prj r1025 0) (AV.int 0))) ∧
    ((AV.isBool (AV.bin Go.BinOp.neq (AV.prj r1025 2) (AV.int 4))) ∧
    ((isF (AV.bin Go.BinOp.neq (AV.prj r1025 2) (AV.int 4))) ∧
    ((AV.isBool (AV.prj r1025 1)) ∧
    ((isF (AV.prj r1025 1)) ∧
    ((AV.isBool (AV.prj r1025 1)) ∧
    ((isF (AV.prj r1025 1)) ∧
    (∃ r5569 : AV, ((Fn Try.prog 50 [(AV.agg [(AV.cel x0 0), (AV.cel x0 1)])] Sh.sc r5569) ∧
    ((AV.binOk Go.BinOp.eql r5569 (AV.int 0)) ∧
    ((AV.isBool (AV.bin Go.BinOp.eql r5569 (AV.int 0))) ∧
    (((isT (AV.bin Go.BinOp.eql r5569 (AV.int 0))) →
      ((AV.binOk Go.BinOp.lss x1 (AV.int 1)) ∧
      ((AV.isBool (AV.bin Go.BinOp.lss x1 (AV.int 1))) ∧
      ((isF (AV.bin Go.BinOp.lss x1 (AV.int 1))) ∧
      ((AV.isSl (AV.cel x0 1) 1) ∧
      ((AV.binOk Go.BinOp.add (AV.cel x0 0) (AV.len (AV.cel x0 1))) ∧
      ((AV.binOk Go.BinOp.gtr x1 (AV.bin Go.BinOp.add (AV.cel x0 0) (AV.len (AV.cel x0 1)))) ∧
      ((AV.isBool (AV.bin Go.BinOp.lss x1 (AV.int 1))) ∧
      ((isF (AV.bin Go.BinOp.lss x1 (AV.int 1))) ∧
      ((AV.isBool (AV.bin Go.BinOp.eql r5569 (AV.int 0))) ∧
      ((isT (AV.bin Go.BinOp.eql r5569 (AV.int 0))) ∧
      ((AV.isBool (AV.bin Go.BinOp.gtr x1 (AV.bin Go.BinOp.add (AV.cel x0 0) (AV.len (AV.cel x0 1))))) ∧
      (((isT (AV.bin Go.BinOp.gtr x1 (AV.bin Go.BinOp.add (AV.cel x0 0) (AV.len (AV.cel x0 1))))) →
        ((AV.binOk Go.BinOp.eql (AV.prj r449 1) (AV.int 4)) ∧
        ((AV.isBool (AV.bin Go.BinOp.eql (AV.prj r449 1) (AV.int 4))) ∧
        ((isT (AV.bin Go.BinOp.eql (AV.prj r449 1) (AV.int 4))) ∧
        ((AV.binOk Go.BinOp.eql (AV.cel (AV.prj r449 0) 0) (AV.int 0)) ∧
        ((AV.isBool (AV.bin Go.BinOp.eql (AV.prj r449 1) (AV.int 4))) ∧
        ((isT (AV.bin Go.BinOp.eql (AV.prj r449 1) (AV.int 4))) ∧
        ((AV.isBool (AV.bin Go.BinOp.eql (AV.cel (AV.prj r449 0) 0) (AV.int 0))) ∧
        ((isT (AV.bin Go.BinOp.eql (AV.cel (AV.prj r449 0) 0) (AV.int 0))) ∧
        ((AV.binOk Go.BinOp.eql (AV.len (AV.cel (AV.prj r449 0) 1)) (AV.int 0)) ∧
        ((AV.isBool (AV.bin Go.BinOp.eql (AV.cel (AV.prj r449 0) 0) (AV.int 0))) ∧
        ((isT (AV.bin Go.BinOp.eql (AV.cel (AV.prj r449 0) 0) (AV.int 0))) ∧
        ((AV.flat (AV.bin Go.BinOp.eql (AV.len (AV.cel (AV.prj r449 0) 1)) (AV.int 0))) ∧
        (fSame (AV.bin Go.BinOp.eql (AV.len (AV.cel (AV.prj r449 0) 1)) (AV.int 0)) r)))))))))))))) ∧
      ((isF (AV.bin Go.BinOp.gtr x1 (AV.bin Go.BinOp.add (AV.cel x0 0) (AV.len (AV.cel x0 1))))) →
        ((AV.binOk Go.BinOp.neq r5569 (AV.int 0)) ∧
        ((AV.isBool (AV.bin Go.BinOp.neq r5569 (AV.int 0))) ∧
        ((isF (AV.bin Go.BinOp.neq r5569 (AV.int 0))) ∧
        ((AV.isInt (AV.cel x0 0)) ∧
        ((AV.isInt x1) ∧
        ((AV.binOk Go.BinOp.eql (AV.prj r449 1) (AV.int 0)) ∧
        ((AV.isBool (AV.bin Go.BinOp.eql (AV.prj r449 1) (AV.int 0))) ∧
        ((isT (AV.bin Go.BinOp.eql (AV.prj r449 1) (AV.int 0))) ∧
        ((AV.binOk Go.BinOp.eql (AV.cel (AV.prj r449 0) 0) (AV.mx (AV.cel x0 0) x1)) ∧
        ((AV.isBool (AV.bin Go.BinOp.eql (AV.prj r449 1) (AV.int 0))) ∧
        ((isT (AV.bin Go.BinOp.eql (AV.prj r449 1) (AV.int 0))) ∧
        ((AV.isBool (AV.bin Go.BinOp.eql (AV.cel (AV.prj r449 0) 0) (AV.mx (AV.cel x0 0) x1))) ∧
        ((isT (AV.bin Go.BinOp.eql (AV.cel (AV.prj r449 0) 0) (AV.mx (AV.cel x0 0) x1))) ∧
        ((AV.binOk Go.BinOp.sub (AV.mx (AV.cel x0 0) x1) (AV.cel x0 0)) ∧
        ((AV.isSl (AV.cel x0 1) 1) ∧
        ((AV.subOk (AV.cel x0 1) (AV.bin Go.BinOp.sub (AV.mx (AV.cel x0 0) x1) (AV.cel x0 0)) (AV.len (AV.cel x0 1))) ∧
        (∃ r8321 : AV, ((Fn Try.prog 52 [(AV.cel (AV.prj r449 0) 1), (AV.sub 1 (AV.cel x0 1) (AV.bin Go.BinOp.sub (AV.mx (AV.cel x0 0) x1) (AV.cel x0 0)) (AV.len (AV.cel x0 1)))] Sh.sc r8321) ∧
        ((AV.isBool (AV.bin Go.BinOp.eql (AV.cel (AV.prj r449 0) 0) (AV.mx (AV.cel x0 0) x1))) ∧
        ((isT (AV.bin Go.BinOp.eql (AV.cel (AV.prj r449 0) 0) (AV.mx (AV.cel x0 0) x1))) ∧
        ((AV.flat r8321) ∧
        (fSame r8321 r)))))))))))))))))))))))))))))))))))) ∧
    ((isF (AV.bin Go.BinOp.eql r5569 (AV.int 0))) →
      ((AV.isBool (AV.bin Go.BinOp.eql r5569 (AV.int 0))) ∧
      ((isF (AV.bin Go.BinOp.eql r5569 (AV.int 0))) ∧
      ((AV.binOk Go.BinOp.neq r5569 (AV.int 0)) ∧
      ((AV.isBool (AV.bin Go.BinOp.neq r5569 (AV.int 0))) ∧
      ((isT (AV.bin Go.BinOp.neq r5569 (AV.int 0))) ∧
      ((AV.binOk Go.BinOp.eql (AV.prj r449 1) r5569) ∧
      ((AV.isBool (AV.bin Go.BinOp.eql (AV.prj r449 1) r5569)) ∧
      ((isT (AV.bin Go.BinOp.eql (AV.prj r449 1) r5569)) ∧
      ((AV.binOk Go.BinOp.eql (AV.cel (AV.prj r449 0) 0) (AV.int 0)) ∧
      ((AV.isBool (AV.bin Go.BinOp.eql (AV.prj r449 1) r5569)) ∧
      ((isT (AV.bin Go.BinOp.eql (AV.prj r449 1) r5569)) ∧
      ((AV.isBool (AV.bin Go.BinOp.eql (AV.cel (AV.prj r449 0) 0) (AV.int 0))) ∧
      ((isT (AV.bin Go.BinOp.eql (AV.cel (AV.prj r449 0) 0) (AV.int 0))) ∧
      ((AV.binOk Go.BinOp.eql (AV.len (AV.cel (AV.prj r449 0) 1)) (AV.int 0)) ∧
      ((AV.isBool (AV.bin Go.BinOp.eql (AV.cel (AV.prj r449 0) 0) (AV.int 0))) ∧
      ((isT (AV.bin Go.BinOp.eql (AV.cel (AV.prj r449 0) 0) (AV.int 0))) ∧
      ((AV.flat (AV.bin Go.BinOp.eql (AV.len (AV.cel (AV.prj r449 0) 1)) (AV.int 0))) ∧
      (fSame (AV.bin Go.BinOp.eql (AV.len (AV.cel (AV.prj r449 0) 1)) (AV.int 0)) r))))))))))))))))))))))))))))))))))))))))) ∧
  ((isF (AV.bin Go.BinOp.gtr x1 (AV.int 99999))) →
    ((AV.binOk Go.BinOp.lss (AV.cel x2 0) (AV.int 1)) ∧
    ((AV.isBool (AV.bin Go.BinOp.gtr x1 (AV.int 99999))) ∧
    ((isF (AV.bin Go.BinOp.gtr x1 (AV.int 99999))) ∧
    ((AV.isBool (AV.bin Go.BinOp.lss (AV.cel x2 0) (AV.int 1))) ∧
    (((isT (AV.bin Go.BinOp.lss (AV.cel x2 0) (AV.int 1))) →
      ((AV.isBool (AV.bin Go.BinOp.lss (AV.cel x2 0) (AV.int 1))) ∧
      ((isT (AV.bin Go.BinOp.lss (AV.cel x2 0) (AV.int 1))) ∧
      ((AV.binOk Go.BinOp.neq (AV.prj r1025 2) (AV.int 4)) ∧
      ((AV.isBool (AV.bin Go.BinOp.neq (AV.prj r1025 2) (AV.int 4))) ∧
      ((isF (AV.bin Go.BinOp.neq (AV.prj r1025 2) (AV.int 4))) ∧
      ((AV.binOk Go.BinOp.neq (AV.prj r1025 0) (AV.int 0)) ∧
      ((AV.isBool (AV.bin Go.BinOp.neq (AV.prj r1025 0) (AV.int 0))) ∧
      ((isF (AV.bin Go.BinOp.neq (AV.prj r1025 0) (AV.int 0))) ∧
      ((AV.isBool (AV.bin Go.BinOp.neq (AV.prj r1025 0) (AV.int 0))) ∧
      ((isF (AV.bin Go.BinOp.neq (AV.prj r1025 0) (AV.int 0))) ∧
      ((AV.isBool (AV.bin Go.BinOp.neq (AV.prj r1025 2) (AV.int 4))) ∧
      ((isF (AV.bin Go.BinOp.neq (AV.prj r1025 2) (AV.int 4))) ∧
      ((AV.isBool (AV.prj r1025 1)) ∧
      ((isF (AV.prj r1025 1)) ∧
      ((AV.isBool (AV.prj r1025 1)) ∧
      ((isF (AV.prj r1025 1)) ∧
      (∃ r5569 : AV, ((Fn Try.prog 50 [(AV.agg [(AV.cel x0 0), (AV.cel x0 1)])] Sh.sc r5569) ∧
      ((AV.binOk Go.BinOp.eql r5569 (AV.int 0)) ∧
      ((AV.isBool (AV.bin Go.BinOp.eql r5569 (AV.int 0))) ∧
      (((isT (AV.bin Go.BinOp.eql r5569 (AV.int 0))) →
        ((AV.binOk Go.BinOp.lss x1 (AV.int 1)) ∧
        ((AV.isBool (AV.bin Go.BinOp.lss x1 (AV.int 1))) ∧
        ((isF (AV.bin Go.BinOp.lss x1 (AV.int 1))) ∧
        ((AV.isSl (AV.cel x0 1) 1) ∧
        ((AV.binOk Go.BinOp.add (AV.cel x0 0) (AV.len (AV.cel x0 1))) ∧
        ((AV.binOk Go.BinOp.gtr x1 (AV.bin Go.BinOp.add (AV.cel x0 0) (AV.len (AV.cel x0 1)))) ∧
        ((AV.isBool (AV.bin Go.BinOp.lss x1 (AV.int 1))) ∧
        ((isF (AV.bin Go.BinOp.lss x1 (AV.int 1))) ∧
        ((AV.isBool (AV.bin Go.BinOp.eql r5569 (AV.int 0))) ∧
        ((isT (AV.bin Go.BinOp.eql r5569 (AV.int 0))) ∧
        ((AV.isBool (AV.bin Go.BinOp.gtr x1 (AV.bin Go.BinOp.add (AV.cel x0 0) (AV.len (AV.cel x0 1))))) ∧
        (((isT (AV.bin Go.BinOp.gtr x1 (AV.bin Go.BinOp.add (AV.cel x0 0) (AV.len (AV.cel x0 1))))) →
          ((AV.binOk Go.BinOp.eql (AV.prj r449 1) (AV.int 4)) ∧
          ((AV.isBool (AV.bin Go.BinOp.eql (AV.prj r449 1) (AV.int 4))) ∧
          ((isT (AV.bin Go.BinOp.eql (AV.prj r449 1) (AV.int 4))) ∧
          ((AV.binOk Go.BinOp.eql (AV.cel (AV.prj r449 0) 0) (AV.int 0)) ∧
          ((AV.isBool (AV.bin Go.BinOp.eql (AV.prj r449 1) (AV.int 4))) ∧
          ((isT (AV.bin Go.BinOp.eql (AV.prj r449 1) (AV.int 4))) ∧
          ((AV.isBool (AV.bin Go.BinOp.eql (AV.cel (AV.prj r449 0) 0) (AV.int 0))) ∧
          ((isT (AV.bin Go.BinOp.eql (AV.cel (AV.prj r449 0) 0) (AV.int 0))) ∧
          ((AV.binOk Go.BinOp.eql (AV.len (AV.cel (AV.prj r449 0) 1)) (AV.int 0)) ∧
          ((AV.isBool (AV.bin Go.BinOp.eql (AV.cel (AV.prj r449 0) 0) (AV.int 0))) ∧
          ((isT (AV.bin Go.BinOp.eql (AV.cel (AV.prj r449 0) 0) (AV.int 0))) ∧
          ((AV.flat (AV.bin Go.BinOp.eql (AV.len (AV.cel (AV.prj r449 0) 1)) (AV.int 0))) ∧
          (fSame (AV.bin Go.BinOp.eql (AV.len (AV.cel (AV.prj r449 0) 1)) (AV.int 0)) r)))))))))))))) ∧
        ((isF (AV.bin Go.BinOp.gtr x1 (AV.bin Go.BinOp.add (AV.cel x0 0) (AV.len (AV.cel x0 1))))) →
          ((AV.binOk Go.BinOp.neq r5569 (AV.int 0)) ∧
          ((AV.isBool (AV.bin Go.BinOp.neq r5569 (AV.int 0))) ∧
          ((isF (AV.bin Go.BinOp.neq r5569 (AV.int 0))) ∧
          ((AV.isInt (AV.cel x0 0)) ∧
          ((AV.isInt x1) ∧
          ((AV.binOk Go.BinOp.eql (AV.prj r449 1) (AV.int 0)) ∧
          ((AV.isBool (AV.bin Go.BinOp.eql (AV.prj r449 1) (AV.int 0))) ∧
          ((isT (AV.bin Go.BinOp.eql (AV.prj r449 1) (AV.int 0))) ∧
          ((AV.binOk Go.BinOp.eql (AV.cel (AV.prj r449 0) 0) (AV.mx (AV.cel x0 0) x1)) ∧
          ((AV.isBool (AV.bin Go.BinOp.eql (AV.prj r449 1) (AV.int 0))) ∧
          ((isT (AV.bin Go.BinOp.eql (AV.prj r449 1) (AV.int 0))) ∧
          ((AV.isBool (AV.bin Go.BinOp.eql (AV.cel (AV.prj r449 0) 0) (AV.mx (AV.cel x0 0) x1))) ∧
          ((isT (AV.bin Go.BinOp.eql (AV.cel (AV.prj r449 0) 0) (AV.mx (AV.cel x0 0) x1))) ∧
          ((AV.binOk Go.BinOp.sub (AV.mx (AV.cel x0 0) x1) (AV.cel x0 0)) ∧
          ((AV.isSl (AV.cel x0 1) 1) ∧
          ((AV.subOk (AV.cel x0 1) (AV.bin Go.BinOp.sub (AV.mx (AV.cel x0 0) x1) (AV.cel x0 0)) (AV.len (AV.cel x0 1))) ∧
          (∃ r8321 : AV, ((Fn Try.prog 52 [(AV.cel (AV.prj r449 0) 1), (AV.sub 1 (AV.cel x0 1) (AV.bin Go.BinOp.sub (AV.mx (AV.cel x0 0) x1) (AV.cel x0 0)) (AV.len (AV.cel x0 1)))] Sh.sc r8321) ∧
          ((AV.isBool (AV.bin Go.BinOp.eql (AV.cel (AV.prj r449 0) 0) (AV.mx (AV.cel x0 0) x1))) ∧
          ((isT (AV.bin Go.BinOp.eql (AV.cel (AV.prj r449 0) 0) (AV.mx (AV.cel x0 0) x1))) ∧
          ((AV.flat r8321) ∧
          (fSame r8321 r)))))))))))))))))))))))))))))))))))) ∧
      ((isF (AV.bin Go.BinOp.eql r5569 (AV.int 0))) →
        ((AV.isBool (AV.bin Go.BinOp.eql r5569 (AV.int 0))) ∧
        ((isF (AV.bin Go.BinOp.eql r5569 (AV.int 0))) ∧
        ((AV.binOk Go.BinOp.neq r5569 (AV.int 0)) ∧
        ((AV.isBool (AV.bin Go.BinOp.neq r5569 (AV.int 0))) ∧
        ((isT (AV.bin Go.BinOp.neq r5569 (AV.int 0))) ∧
        ((AV.binOk Go.BinOp.eql (AV.prj r449 1) r5569) ∧
        ((AV.isBool (AV.bin Go.BinOp.eql (AV.prj r449 1) r5569)) ∧
        ((isT (AV.bin Go.BinOp.eql (AV.prj r449 1) r5569)) ∧
        ((AV.binOk Go.BinOp.eql (AV.cel (AV.prj r449 0) 0) (AV.int 0)) ∧
        ((AV.isBool (AV.bin Go.BinOp.eql (AV.prj r449 1) r5569)) ∧
        ((isT (AV.bin Go.BinOp.eql (AV.prj r449 1) r5569)) ∧
        ((AV.isBool (AV.bin Go.BinOp.eql (AV.cel (AV.prj r449 0) 0) (AV.int 0))) ∧
        ((isT (AV.bin Go.BinOp.eql (AV.cel (AV.prj r449 0) 0) (AV.int 0))) ∧
        ((AV.binOk Go.BinOp.eql (AV.len (AV.cel (AV.prj r449 0) 1)) (AV.int 0)) ∧
        ((AV.isBool (AV.bin Go.BinOp.eql (AV.cel (AV.prj r449 0) 0) (AV.int 0))) ∧
        ((isT (AV.bin Go.BinOp.eql (AV.cel (AV.prj r449 0) 0) (AV.int 0))) ∧
        ((AV.flat (AV.bin Go.BinOp.eql (AV.len (AV.cel (AV.prj r449 0) 1)) (AV.int 0))) ∧
        (fSame (AV.bin Go.BinOp.eql (AV.len (AV.cel (AV.prj r449 0) 1)) (AV.int 0)) r))))))))))))))))))))))))))))))))))))))))) ∧
    ((isF (AV.bin Go.BinOp.lss (AV.cel x2 0) (AV.int 1))) →
      ((AV.binOk Go.BinOp.gtr (AV.cel x2 0) (AV.int 99999)) ∧
      ((AV.isBool (AV.bin Go.BinOp.lss (AV.cel x2 0) (AV.int 1))) ∧
      ((isF (AV.bin Go.BinOp.lss (AV.cel x2 0) (AV.int 1))) ∧
      ((AV.isBool (AV.bin Go.BinOp.gtr (AV.cel x2 0) (AV.int 99999))) ∧
      (((isT (AV.bin Go.BinOp.gtr (AV.cel x2 0) (AV.int 99999))) →
        ((AV.binOk Go.BinOp.neq (AV.prj r1025 2) (AV.int 4)) ∧
        ((AV.isBool (AV.bin Go.BinOp.neq (AV.prj r1025 2) (AV.int 4))) ∧
        ((isF (AV.bin Go.BinOp.neq (AV.prj r1025 2) (AV.int 4))) ∧
        ((AV.binOk Go.BinOp.neq (AV.prj r1025 0) (AV.int 0)) ∧
        ((AV.isBool (AV.bin Go.BinOp.neq (AV.prj r1025 0) (AV.int 0))) ∧
        ((isF (AV.bin Go.BinOp.neq (AV.prj r1025 0) (AV.int 0))) ∧
        ((AV.isBool (AV.bin Go.BinOp.neq (AV.prj r1025 0) (AV.int 0))) ∧
        ((isF (AV.bin Go.BinOp.neq (AV.prj r1025 0) (AV.int 0))) ∧
        ((AV.isBool (AV.bin Go.BinOp.neq (AV.prj r1025 2) (AV.int 4))) ∧
        ((isF (AV.bin Go.BinOp.neq (AV.prj r1025 2) (AV.int 4))) ∧
        ((AV.isBool (AV.prj r1025 1)) ∧
        ((isF (AV.prj r1025 1)) ∧
        ((AV.isBool (AV.prj r1025 1)) ∧
        ((isF (AV.prj r1025 1)) ∧
        (∃ r5569 : AV, ((Fn Try.prog 50 [(AV.agg [(AV.cel x0 0), (AV.cel x0 1)])] Sh.sc r5569) ∧
        ((AV.binOk Go.BinOp.eql r5569 (AV.int 0)) ∧
        ((AV.isBool (AV.bin Go.BinOp.eql r5569 (AV.int 0))) ∧
        (((isT (AV.bin Go.BinOp.eql r5569 (AV.int 0))) →
          ((AV.binOk Go.BinOp.lss x1 (AV.int 1)) ∧
          ((AV.isBool (AV.bin Go.BinOp.lss x1 (AV.int 1))) ∧
          ((isF (AV.bin Go.BinOp.lss x1 (AV.int 1))) ∧
          ((AV.isSl (AV.cel x0 1) 1) ∧
          ((AV.binOk Go.BinOp.add (AV.cel x0 0) (AV.len (AV.cel x0 1))) ∧
          ((AV.binOk Go.BinOp.gtr x1 (AV.bin Go.BinOp.add (AV.cel x0 0) (AV.len (AV.cel x0 1)))) ∧
          ((AV.isBool (AV.bin Go.BinOp.lss x1 (AV.int 1))) ∧
          ((isF (AV.bin Go.BinOp.lss x1 (AV.int 1))) ∧
          ((AV.isBool (AV.bin Go.BinOp.eql r5569 (AV.int 0))) ∧
          ((isT (AV.bin Go.BinOp.eql r5569 (AV.int 0))) ∧
          ((AV.isBool (AV.bin Go.BinOp.gtr x1 (AV.bin Go.BinOp.add (AV.cel x0 0) (AV.len (AV.cel x0 1))))) ∧
          (((isT (AV.bin Go.BinOp.gtr x1 (AV.bin Go.BinOp.add (AV.cel x0 0) (AV.len (AV.cel x0 1))))) →
            ((AV.binOk Go.BinOp.eql (AV.prj r449 1) (AV.int 4)) ∧
            ((AV.isBool (AV.bin Go.BinOp.eql (AV.prj r449 1) (AV.int 4))) ∧
            ((isT (AV.bin Go.BinOp.eql (AV.prj r449 1) (AV.int 4))) ∧
            ((AV.binOk Go.BinOp.eql (AV.cel (AV.prj r449 0) 0) (AV.int 0)) ∧
            ((AV.isBool (AV.bin Go.BinOp.eql (AV.prj r449 1) (AV.int 4))) ∧
            ((isT (AV.bin Go.BinOp.eql (AV.prj r449 1) (AV.int 4))) ∧
            ((AV.isBool (AV.bin Go.BinOp.eql (AV.cel (AV.prj r449 0) 0) (AV.int 0))) ∧
            ((isT (AV.bin Go.BinOp.eql (AV.cel (AV.prj r449 0) 0) (AV.int 0))) ∧
            ((AV.binOk Go.BinOp.eql (AV.len (AV.cel (AV.prj r449 0) 1)) (AV.int 0)) ∧
            ((AV.isBool (AV.bin Go.BinOp.eql (AV.cel (AV.prj r449 0) 0) (AV.int 0))) ∧
            ((isT (AV.bin Go.BinOp.eql (AV.cel (AV.prj r449 0) 0) (AV.int 0))) ∧
            ((AV.flat (AV.bin Go.BinOp.eql (AV.len (AV.cel (AV.prj r449 0) 1)) (AV.int 0))) ∧
            (fSame (AV.bin Go.BinOp.eql (AV.len (AV.cel (AV.prj r449 0) 1)) (AV.int 0)) r)))))))))))))) ∧
          ((isF (AV.bin Go.BinOp.gtr x1 (AV.bin Go.BinOp.add (AV.cel x0 0) (AV.len (AV.cel x0 1))))) →
            ((AV.binOk Go.BinOp.neq r5569 (AV.int 0)) ∧
            ((AV.isBool (AV.bin Go.BinOp.neq r5569 (AV.int 0))) ∧
            ((isF (AV.bin Go.BinOp.neq r5569 (AV.int 0))) ∧
            ((AV.isInt (AV.cel x0 0)) ∧
            ((AV.isInt x1) ∧
            ((AV.binOk Go.BinOp.eql (AV.prj r449 1) (AV.int 0)) ∧
            ((AV.isBool (AV.bin Go.BinOp.eql (AV.prj r449 1) (AV.int 0))) ∧
            ((isT (AV.bin Go.BinOp.eql (AV.prj r449 1) (AV.int 0))) ∧
            ((AV.binOk Go.BinOp.eql (AV.cel (AV.prj r449 0) 0) (AV.mx (AV.cel x0 0) x1)) ∧
            ((AV.isBool (AV.bin Go.BinOp.eql (AV.prj r449 1) (AV.int 0))) ∧
            ((isT (AV.bin Go.BinOp.eql (AV.prj r449 1) (AV.int 0))) ∧
            ((AV.isBool (AV.bin Go.BinOp.eql (AV.cel (AV.prj r449 0) 0) (AV.mx (AV.cel x0 0) x1))) ∧
            ((isT (AV.bin Go.BinOp.eql (AV.cel (AV.prj r449 0) 0) (AV.mx (AV.cel x0 0) x1))) ∧
            ((AV.binOk Go.BinOp.sub (AV.mx (AV.cel x0 0) x1) (AV.cel x0 0)) ∧
            ((AV.isSl (AV.cel x0 1) 1) ∧
            ((AV.subOk (AV.cel x0 1) (AV.bin Go.BinOp.sub (AV.mx (AV.cel x0 0) x1) (AV.cel x0 0)) (AV.len (AV.cel x0 1))) ∧
            (∃ r8321 : AV, ((Fn Try.prog 52 [(AV.cel (AV.prj r449 0) 1), (AV.sub 1 (AV.cel x0 1) (AV.bin Go.BinOp.sub (AV.mx (AV.cel x0 0) x1) (AV.cel x0 0)) (AV.len (AV.cel x0 1)))] Sh.sc r8321) ∧
            ((AV.isBool (AV.bin Go.BinOp.eql (AV.cel (AV.prj r449 0) 0) (AV.mx (AV.cel x0 0) x1))) ∧
            ((isT (AV.bin Go.BinOp.eql (AV.cel (AV.prj r449 0) 0) (AV.mx (AV.cel x0 0) x1))) ∧
            ((AV.flat r8321) ∧
            (fSame r8321 r)))))))))))))))))))))))))))))))))))) ∧
        ((isF (AV.bin Go.BinOp.eql r5569 (AV.int 0))) →
          ((AV.isBool (AV.bin Go.BinOp.eql r5569 (AV.int 0))) ∧
          ((isF (AV.bin Go.BinOp.eql r5569 (AV.int 0))) ∧
          ((AV.binOk Go.BinOp.neq r5569 (AV.int 0)) ∧
          ((AV.isBool (AV.bin Go.BinOp.neq r5569 (AV.int 0))) ∧
          ((isT (AV.bin Go.BinOp.neq r5569 (AV.int 0))) ∧
          ((AV.binOk Go.BinOp.eql (AV.prj r449 1) r5569) ∧
          ((AV.isBool (AV.bin Go.BinOp.eql (AV.prj r449 1) r5569)) ∧
          ((isT (AV.bin Go.BinOp.eql (AV.prj r449 1) r5569)) ∧
          ((AV.binOk Go.BinOp.eql (AV.cel (AV.prj r449 0) 0) (AV.int 0)) ∧
          ((AV.isBool (AV.bin Go.BinOp.eql (AV.prj r449 1) r5569)) ∧
          ((isT (AV.bin Go.BinOp.eql (AV.prj r449 1) r5569)) ∧
          ((AV.isBool (AV.bin Go.BinOp.eql (AV.cel (AV.prj r449 0) 0) (AV.int 0))) ∧
          ((isT (AV.bin Go.BinOp.eql (AV.cel (AV.prj r449 0) 0) (AV.int 0))) ∧
          ((AV.binOk Go.BinOp.eql (AV.len (AV.cel (AV.prj r449 0) 1)) (AV.int 0)) ∧
          ((AV.isBool (AV.bin Go.BinOp.eql (AV.cel (AV.prj r449 0) 0) (AV.int 0))) ∧
          ((isT (AV.bin Go.BinOp.eql (AV.cel (AV.prj r449 0) 0) (AV.int 0))) ∧
          ((AV.flat (AV.bin Go.BinOp.eql (AV.len (AV.cel (AV.prj r449 0) 1)) (AV.int 0))) ∧
          (fSame (AV.bin Go.BinOp.eql (AV.len (AV.cel (AV.prj r449 0) 1)) (AV.int 0)) r))))))))))))))))))))))))))))))))))))))) ∧
      ((isF (AV.bin Go.BinOp.gtr (AV.cel x2 0) (AV.int 99999))) →
        ((AV.isStr (AV.cel x2 1)) ∧
        ((AV.binOk Go.BinOp.gtr (AV.slen (AV.cel x2 1)) (AV.int 120)) ∧
        ((AV.isBool (AV.bin Go.BinOp.gtr (AV.slen (AV.cel x2 1)) (AV.int 120))) ∧
        (((isT (AV.bin Go.BinOp.gtr (AV.slen (AV.cel x2 1)) (AV.int 120))) →
          ((AV.binOk Go.BinOp.neq (AV.prj r1025 2) (AV.int 2)) ∧
          ((AV.isBool (AV.bin Go.BinOp.neq (AV.prj r1025 2) (AV.int 2))) ∧
          ((isF (AV.bin Go.BinOp.neq (AV.prj r1025 2) (AV.int 2))) ∧
          ((AV.binOk Go.BinOp.neq (AV.prj r1025 0) (AV.int 0)) ∧
          ((AV.isBool (AV.bin Go.BinOp.neq (AV.prj r1025 0) (AV.int 0))) ∧
          ((isF (AV.bin Go.BinOp.neq (AV.prj r1025 0) (AV.int 0))) ∧
          ((AV.isBool (AV.bin Go.BinOp.neq (AV.prj r1025 0) (AV.int 0))) ∧
          ((isF (AV.bin Go.BinOp.neq (AV.prj r1025 0) (AV.int 0))) ∧
          ((AV.isBool (AV.bin Go.BinOp.neq (AV.prj r1025 2) (AV.int 2))) ∧
          ((isF (AV.bin Go.BinOp.neq (AV.prj r1025 2) (AV.int 2))) ∧
          ((AV.isBool (AV.prj r1025 1)) ∧
          ((isF (AV.prj r1025 1)) ∧
          ((AV.isBool (AV.prj r1025 1)) ∧
          ((isF (AV.prj r1025 1)) ∧
          (∃ r5825 : AV, ((Fn Try.prog 50 [(AV.agg [(AV.cel x0 0), (AV.cel x0 1)])] Sh.sc r5825) ∧
          ((AV.binOk Go.BinOp.eql r5825 (AV.int 0)) ∧
          ((AV.isBool (AV.bin Go.BinOp.eql r5825 (AV.int 0))) ∧
          (((isT (AV.bin Go.BinOp.eql r5825 (AV.int 0))) →
            ((AV.binOk Go.BinOp.lss x1 (AV.int 1)) ∧
            ((AV.isBool (AV.bin Go.BinOp.lss x1 (AV.int 1))) ∧
            ((isF (AV.bin Go.BinOp.lss x1 (AV.int 1))) ∧
            ((AV.isSl (AV.cel x0 1) 1) ∧
            ((AV.binOk Go.BinOp.add (AV.cel x0 0) (AV.len (AV.cel x0 1))) ∧
            ((AV.binOk Go.BinOp.gtr x1 (AV.bin Go.BinOp.add (AV.cel x0 0) (AV.len (AV.cel x0 1)))) ∧
            ((AV.isBool (AV.bin Go.BinOp.lss x1 (AV.int 1))) ∧
            ((isF (AV.bin Go.BinOp.lss x1 (AV.int 1))) ∧
            ((AV.isBool (AV.bin Go.BinOp.eql r5825 (AV.int 0))) ∧
            ((isT (AV.bin Go.BinOp.eql r5825 (AV.int 0))) ∧
            ((AV.isBool (AV.bin Go.BinOp.gtr x1 (AV.bin Go.BinOp.add (AV.cel x0 0) (AV.len (AV.cel x0 1))))) ∧
            (((isT (AV.bin Go.BinOp.gtr x1 (AV.bin Go.BinOp.add (AV.cel x0 0) (AV.len (AV.cel x0 1))))) →
              ((AV.binOk Go.BinOp.eql (AV.prj r449 1) (AV.int 4)) ∧
              ((AV.isBool (AV.bin Go.BinOp.eql (AV.prj r449 1) (AV.int 4))) ∧
              ((isT (AV.bin Go.BinOp.eql (AV.prj r449 1) (AV.int 4))) ∧
              ((AV.binOk Go.BinOp.eql (AV.cel (AV.prj r449 0) 0) (AV.int 0)) ∧
              ((AV.isBool (AV.bin Go.BinOp.eql (AV.prj r449 1) (AV.int 4))) ∧
              ((isT (AV.bin Go.BinOp.eql (AV.prj r449 1) (AV.int 4))) ∧
              ((AV.isBool (AV.bin Go.BinOp.eql (AV.cel (AV.prj r449 0) 0) (AV.int 0))) ∧
              ((isT (AV.bin Go.BinOp.eql (AV.cel (AV.prj r449 0) 0) (AV.int 0))) ∧
              ((AV.binOk Go.BinOp.eql (AV.len (AV.cel (AV.prj r449 0) 1)) (AV.int 0)) ∧
              ((AV.isBool (AV.bin Go.BinOp.eql (AV.cel (AV.prj r449 0) 0) (AV.int 0))) ∧
              ((isT (AV.bin Go.BinOp.eql (AV.cel (AV.prj r449 0) 0) (AV.int 0))) ∧
              ((AV.flat (AV.bin Go.BinOp.eql (AV.len (AV.cel (AV.prj r449 0) 1)) (AV.int 0))) ∧
              (fSame (AV.bin Go.BinOp.eql (AV.len (AV.cel (AV.prj r449 0) 1)) (AV.int 0)) r)))))))))))))) ∧
            ((isF (AV.bin Go.BinOp.gtr x1 (AV.bin Go.BinOp.add (AV.cel x0 0) (AV.len (AV.cel x0 1))))) →
              ((AV.binOk Go.BinOp.neq r5825 (AV.int 0)) ∧
              ((AV.isBool (AV.bin Go.BinOp.neq r5825 (AV.int 0))) ∧
              ((isF (AV.bin Go.BinOp.neq r5825 (AV.int 0))) ∧
              ((AV.isInt (AV.cel x0 0)) ∧
              ((AV.isInt x1) ∧
              ((AV.binOk Go.BinOp.eql (AV.prj r449 1) (AV.int 0)) ∧
              ((AV.isBool (AV.bin Go.BinOp.eql (AV.prj r449 1) (AV.int 0))) ∧
              ((isT (AV.bin Go.BinOp.eql (AV.prj r449 1) (AV.int 0))) ∧
              ((AV.binOk Go.BinOp.eql (AV.cel (AV.prj r449 0) 0) (AV.mx (AV.cel x0 0) x1)) ∧
              ((AV.isBool (AV.bin Go.BinOp.eql (AV.prj r449 1) (AV.int 0))) ∧
              ((isT (AV.bin Go.BinOp.eql (AV.prj r449 1) (AV.int 0))) ∧
              ((AV.isBool (AV.bin Go.BinOp.eql (AV.cel (AV.prj r449 0) 0) (AV.mx (AV.cel x0 0) x1))) ∧
              ((isT (AV.bin Go.BinOp.eql (AV.cel (AV.prj r449 0) 0) (AV.mx (AV.cel x0 0) x1))) ∧
              ((AV.binOk Go.BinOp.sub (AV.mx (AV.cel x0 0) x1) (AV.cel x0 0)) ∧
              ((AV.isSl (AV.cel x0 1) 1) ∧
              ((AV.subOk (AV.cel x0 1) (AV.bin Go.BinOp.sub (AV.mx (AV.cel x0 0) x1) (AV.cel x0 0)) (AV.len (AV.cel x0 1))) ∧
              (∃ r8577 : AV, ((Fn Try.prog 52 [(AV.cel (AV.prj r449 0) 1), (AV.sub 1 (AV.cel x0 1) (AV.bin Go.BinOp.sub (AV.mx (AV.cel x0 0) x1) (AV.cel x0 0)) (AV.len (AV.cel x0 1)))] Sh.sc r8577) ∧
              ((AV.isBool (AV.bin Go.BinOp.eql (AV.cel (AV.prj r449 0) 0) (AV.mx (AV.cel x0 0) x1))) ∧
              ((isT (AV.bin Go.BinOp.eql (AV.cel (AV.prj r449 0) 0) (AV.mx (AV.cel x0 0) x1))) ∧
              ((AV.flat r8577) ∧
              (fSame r8577 r)))))))))))))))))))))))))))))))))))) ∧
          ((isF (AV.bin Go.BinOp.eql r5825 (AV.int 0))) →
            ((AV.isBool (AV.bin Go.BinOp.eql r5825 (AV.int 0))) ∧
            ((isF (AV.bin Go.BinOp.eql r5825 (AV.int 0))) ∧
            ((AV.binOk Go.BinOp.neq r5825 (AV.int 0)) ∧
            ((AV.isBool (AV.bin Go.BinOp.neq r5825 (AV.int 0))) ∧
            ((isT (AV.bin Go.BinOp.neq r5825 (AV.int 0))) ∧
            ((AV.binOk Go.BinOp.eql (AV.prj r449 1) r5825) ∧
            ((AV.isBool (AV.bin Go.BinOp.eql (AV.prj r449 1) r5825)) ∧
            ((isT (AV.bin Go.BinOp.eql (AV.prj r449 1) r5825)) ∧
            ((AV.binOk Go.BinOp.eql (AV.cel (AV.prj r449 0) 0) (AV.int 0)) ∧
            ((AV.isBool (AV.bin Go.BinOp.eql (AV.prj r449 1) r5825)) ∧
            ((isT (AV.bin Go.BinOp.eql (AV.prj r449 1) r5825)) ∧
            ((AV.isBool (AV.bin Go.BinOp.eql (AV.cel (AV.prj r449 0) 0) (AV.int 0))) ∧
            ((isT (AV.bin Go.BinOp.eql (AV.cel (AV.prj r449 0) 0) (AV.int 0))) ∧
            ((AV.binOk Go.BinOp.eql (AV.len (AV.cel (AV.prj r449 0) 1)) (AV.int 0)) ∧
            ((AV.isBool (AV.bin Go.BinOp.eql (AV.cel (AV.prj r449 0) 0) (AV.int 0))) ∧
            ((isT (AV.bin Go.BinOp.eql (AV.cel (AV.prj r449 0) 0) (AV.int 0))) ∧
            ((AV.flat (AV.bin Go.BinOp.eql (AV.len (AV.cel (AV.prj r449 0) 1)) (AV.int 0))) ∧
            (fSame (AV.bin Go.BinOp.eql (AV.len (AV.cel (AV.prj r449 0) 1)) (AV.int 0)) r))))))))))))))))))))))))))))))))))))))) ∧
        ((isF (AV.bin Go.BinOp.gtr (AV.slen (AV.cel x2 1)) (AV.int 120))) →
          ((AV.binOk Go.BinOp.neq (AV.prj r1025 2) (AV.int 0)) ∧
          ((AV.isBool (AV.bin Go.BinOp.neq (AV.prj r1025 2) (AV.int 0))) ∧
          ((isF (AV.bin Go.BinOp.neq (AV.prj r1025 2) (AV.int 0))) ∧
          ((AV.isBool (AV.bin Go.BinOp.neq (AV.prj r1025 2) (AV.int 0))) ∧
          ((isF (AV.bin Go.BinOp.neq (AV.prj r1025 2) (AV.int 0))) ∧
          ((AV.binOk Go.BinOp.eql (AV.cel x2 0) x1) ∧
          ((AV.isBool (AV.prj r1025 1)) ∧
          ((AV.isBool (AV.bin Go.BinOp.eql (AV.cel x2 0) x1)) ∧
          ((AV.isBool (AV.neB (AV.prj r1025 1) (AV.bin Go.BinOp.eql (AV.cel x2 0) x1))) ∧
          ((isF (AV.neB (AV.prj r1025 1) (AV.bin Go.BinOp.eql (AV.cel x2 0) x1))) ∧
          ((AV.isBool (AV.prj r1025 1)) ∧
          (((isT (AV.prj r1025 1)) →
            ((AV.binOk Go.BinOp.add x1 (AV.int 1)) ∧
            ((AV.binOk Go.BinOp.neq (AV.prj r1025 0) (AV.bin Go.BinOp.add x1 (AV.int 1))) ∧
            ((AV.isBool (AV.prj r1025 1)) ∧
            ((isT (AV.prj r1025 1)) ∧
            ((AV.isBool (AV.neB (AV.prj r1025 1) (AV.bin Go.BinOp.eql (AV.cel x2 0) x1))) ∧
            ((isF (AV.neB (AV.prj r1025 1) (AV.bin Go.BinOp.eql (AV.cel x2 0) x1))) ∧
            ((AV.isBool (AV.bin Go.BinOp.neq (AV.prj r1025 0) (AV.bin Go.BinOp.add x1 (AV.int 1)))) ∧
            ((isF (AV.bin Go.BinOp.neq (AV.prj r1025 0) (AV.bin Go.BinOp.add x1 (AV.int 1)))) ∧
            ((AV.unOk Go.UnOp.not (AV.prj r1025 1)) ∧
            ((AV.isBool (AV.un Go.UnOp.not (AV.prj r1025 1))) ∧
            ((isF (AV.un Go.UnOp.not (AV.prj r1025 1))) ∧
            ((AV.isBool (AV.un Go.UnOp.not (AV.prj r1025 1))) ∧
            ((isF (AV.un Go.UnOp.not (AV.prj r1025 1))) ∧
            ((AV.isBool (AV.bin Go.BinOp.neq (AV.prj r1025 0) (AV.bin Go.BinOp.add x1 (AV.int 1)))) ∧
            ((isF (AV.bin Go.BinOp.neq (AV.prj r1025 0) (AV.bin Go.BinOp.add x1 (AV.int 1)))) ∧
            (∃ r5761 : AV, ((Fn Try.prog 50 [(AV.agg [(AV.cel x0 0), (AV.cel x0 1)])] Sh.sc r5761) ∧
            ((AV.binOk Go.BinOp.eql r5761 (AV.int 0)) ∧
            ((AV.isBool (AV.bin Go.BinOp.eql r5761 (AV.int 0))) ∧
            (((isT (AV.bin Go.BinOp.eql r5761 (AV.int 0))) →
              ((AV.binOk Go.BinOp.lss x1 (AV.int 1)) ∧
              ((AV.isBool (AV.bin Go.BinOp.lss x1 (AV.int 1))) ∧
              ((isF (AV.bin Go.BinOp.lss x1 (AV.int 1))) ∧
              ((AV.isSl (AV.cel x0 1) 1) ∧
              ((AV.binOk Go.BinOp.add (AV.cel x0 0) (AV.len (AV.cel x0 1))) ∧
              ((AV.binOk Go.BinOp.gtr x1 (AV.bin Go.BinOp.add (AV.cel x0 0) (AV.len (AV.cel x0 1)))) ∧
              ((AV.isBool (AV.bin Go.BinOp.lss x1 (AV.int 1))) ∧
              ((isF (AV.bin Go.BinOp.lss x1 (AV.int 1))) ∧
              ((AV.isBool (AV.bin Go.BinOp.eql r5761 (AV.int 0))) ∧
              ((isT (AV.bin Go.BinOp.eql r5761 (AV.int 0))) ∧
              ((AV.isBool (AV.bin Go.BinOp.gtr x1 (AV.bin Go.BinOp.add (AV.cel x0 0) (AV.len (AV.cel x0 1))))) ∧
              (((isT (AV.bin Go.BinOp.gtr x1 (AV.bin Go.BinOp.add (AV.cel x0 0) (AV.len (AV.cel x0 1))))) →
                ((AV.binOk Go.BinOp.eql (AV.prj r449 1) (AV.int 4)) ∧
                ((AV.isBool (AV.bin Go.BinOp.eql (AV.prj r449 1) (AV.int 4))) ∧
                ((isT (AV.bin Go.BinOp.eql (AV.prj r449 1) (AV.int 4))) ∧
                ((AV.binOk Go.BinOp.eql (AV.cel (AV.prj r449 0) 0) (AV.int 0)) ∧
                ((AV.isBool (AV.bin Go.BinOp.eql (AV.prj r449 1) (AV.int 4))) ∧
                ((isT (AV.bin Go.BinOp.eql (AV.prj r449 1) (AV.int 4))) ∧
                ((AV.isBool (AV.bin Go.BinOp.eql (AV.cel (AV.prj r449 0) 0) (AV.int 0))) ∧
                ((isT (AV.bin Go.BinOp.eql (AV.cel (AV.prj r449 0) 0) (AV.int 0))) ∧
                ((AV.binOk Go.BinOp.eql (AV.len (AV.cel (AV.prj r449 0) 1)) (AV.int 0)) ∧
                ((AV.isBool (AV.bin Go.BinOp.eql (AV.cel (AV.prj r449 0) 0) (AV.int 0))) ∧
                ((isT (AV.bin Go.BinOp.eql (AV.cel (AV.prj r449 0) 0) (AV.int 0))) ∧
                ((AV.flat (AV.bin Go.BinOp.eql (AV.len (AV.cel (AV.prj r449 0) 1)) (AV.int 0))) ∧
                (fSame (AV.bin Go.BinOp.eql (AV.len (AV.cel (AV.prj r449 0) 1)) (AV.int 0)) r)))))))))))))) ∧
              ((isF (AV.bin Go.BinOp.gtr x1 (AV.bin Go.BinOp.add (AV.cel x0 0) (AV.len (AV.cel x0 1))))) →
                ((AV.binOk Go.BinOp.neq r5761 (AV.int 0)) ∧
                ((AV.isBool (AV.bin Go.BinOp.neq r5761 (AV.int 0))) ∧
                ((isF (AV.bin Go.BinOp.neq r5761 (AV.int 0))) ∧
                ((AV.isInt (AV.cel x0 0)) ∧
                ((AV.isInt x1) ∧
                ((AV.binOk Go.BinOp.eql (AV.prj r449 1) (AV.int 0)) ∧
                ((AV.isBool (AV.bin Go.BinOp.eql (AV.prj r449 1) (AV.int 0))) ∧
                ((isT (AV.bin Go.BinOp.eql (AV.prj r449 1) (AV.int 0))) ∧
                ((AV.binOk Go.BinOp.eql (AV.cel (AV.prj r449 0) 0) (AV.mx (AV.cel x0 0) x1)) ∧
                ((AV.isBool (AV.bin Go.BinOp.eql (AV.prj r449 1) (AV.int 0))) ∧
                ((isT (AV.bin Go.BinOp.eql (AV.prj r449 1) (AV.int 0))) ∧
                ((AV.isBool (AV.bin Go.BinOp.eql (AV.cel (AV.prj r449 0) 0) (AV.mx (AV.cel x0 0) x1))) ∧
                ((isT (AV.bin Go.BinOp.eql (AV.cel (AV.prj r449 0) 0) (AV.mx (AV.cel x0 0) x1))) ∧
                ((AV.binOk Go.BinOp.sub (AV.mx (AV.cel x0 0) x1) (AV.cel x0 0)) ∧
                ((AV.isSl (AV.cel x0 1) 1) ∧
                ((AV.subOk (AV.cel x0 1) (AV.bin Go.BinOp.sub (AV.mx (AV.cel x0 0) x1) (AV.cel x0 0)) (AV.len (AV.cel x0 1))) ∧
                (∃ r8513 : AV, ((Fn Try.prog 52 [(AV.cel (AV.prj r449 0) 1), (AV.sub 1 (AV.cel x0 1) (AV.bin Go.BinOp.sub (AV.mx (AV.cel x0 0) x1) (AV.cel x0 0)) (AV.len (AV.cel x0 1)))] Sh.sc r8513) ∧
                ((AV.isBool (AV.bin Go.BinOp.eql (AV.cel (AV.prj r449 0) 0) (AV.mx (AV.cel x0 0) x1))) ∧
                ((isT (AV.bin Go.BinOp.eql (AV.cel (AV.prj r449 0) 0) (AV.mx (AV.cel x0 0) x1))) ∧
                ((AV.flat r8513) ∧
                (fSame r8513 r)))))))))))))))))))))))))))))))))))) ∧
            ((isF (AV.bin Go.BinOp.eql r5761 (AV.int 0))) →
              ((AV.isBool (AV.bin Go.BinOp.eql r5761 (AV.int 0))) ∧
              ((isF (AV.bin Go.BinOp.eql r5761 (AV.int 0))) ∧
              ((AV.binOk Go.BinOp.neq r5761 (AV.int 0)) ∧
              ((AV.isBool (AV.bin Go.BinOp.neq r5761 (AV.int 0))) ∧
              ((isT (AV.bin Go.BinOp.neq r5761 (AV.int 0))) ∧
              ((AV.binOk Go.BinOp.eql (AV.prj r449 1) r5761) ∧
              ((AV.isBool (AV.bin Go.BinOp.eql (AV.prj r449 1) r5761)) ∧
              ((isT (AV.bin Go.BinOp.eql (AV.prj r449 1) r5761)) ∧
              ((AV.binOk Go.BinOp.eql (AV.cel (AV.prj r449 0) 0) (AV.int 0)) ∧
              ((AV.isBool (AV.bin Go.BinOp.eql (AV.prj r449 1) r5761)) ∧
              ((isT (AV.bin Go.BinOp.eql (AV.prj r449 1) r5761)) ∧
              ((AV.isBool (AV.bin Go.BinOp.eql (AV.cel (AV.prj r449 0) 0) (AV.int 0))) ∧
              ((isT (AV.bin Go.BinOp.eql (AV.cel (AV.prj r449 0) 0) (AV.int 0))) ∧
              ((AV.binOk Go.BinOp.eql (AV.len (AV.cel (AV.prj r449 0) 1)) (AV.int 0)) ∧
              ((AV.isBool (AV.bin Go.BinOp.eql (AV.cel (AV.prj r449 0) 0) (AV.int 0))) ∧
              ((isT (AV.bin Go.BinOp.eql (AV.cel (AV.prj r449 0) 0) (AV.int 0))) ∧
              ((AV.flat (AV.bin Go.BinOp.eql (AV.len (AV.cel (AV.prj r449 0) 1)) (AV.int 0))) ∧
              (fSame (AV.bin Go.BinOp.eql (AV.len (AV.cel (AV.prj r449 0) 1)) (AV.int 0)) r)))))))))))))))))))))))))))))))))))))))) ∧
          ((isF (AV.prj r1025 1)) →
            ((AV.isBool (AV.prj r1025 1)) ∧
            ((isF (AV.prj r1025 1)) ∧
            ((AV.isBool (AV.neB (AV.prj r1025 1) (AV.bin Go.BinOp.eql (AV.cel x2 0) x1))) ∧
            ((isF (AV.neB (AV.prj r1025 1) (AV.bin Go.BinOp.eql (AV.cel x2 0) x1))) ∧
            ((AV.unOk Go.UnOp.not (AV.prj r1025 1)) ∧
            ((AV.isBool (AV.un Go.UnOp.not (AV.prj r1025 1))) ∧
            ((isT (AV.un Go.UnOp.not (AV.prj r1025 1))) ∧
            ((AV.binOk Go.BinOp.neq (AV.prj r1025 0) x1) ∧
            ((AV.isBool (AV.un Go.UnOp.not (AV.prj r1025 1))) ∧
            ((isT (AV.un Go.UnOp.not (AV.prj r1025 1))) ∧
            ((AV.isBool (AV.bin Go.BinOp.neq (AV.prj r1025 0) x1)) ∧
            ((isF (AV.bin Go.BinOp.neq (AV.prj r1025 0) x1)) ∧
            (∃ r5761 : AV, ((Fn Try.prog 50 [(AV.agg [(AV.cel x0 0), (AV.cel x0 1)])] Sh.sc r5761) ∧
            ((AV.binOk Go.BinOp.eql r5761 (AV.int 0)) ∧
            ((AV.isBool (AV.bin Go.BinOp.eql r5761 (AV.int 0))) ∧
            (((isT (AV.bin Go.BinOp.eql r5761 (AV.int 0))) →
              ((AV.binOk Go.BinOp.lss x1 (AV.int 1)) ∧
              ((AV.isBool (AV.bin Go.BinOp.lss x1 (AV.int 1))) ∧
              ((isF (AV.bin Go.BinOp.lss x1 (AV.int 1))) ∧
              ((AV.isSl (AV.cel x0 1) 1) ∧
              ((AV.binOk Go.BinOp.add (AV.cel x0 0) (AV.len (AV.cel x0 1))) ∧
              ((AV.binOk Go.BinOp.gtr x1 (AV.bin Go.BinOp.add (AV.cel x0 0) (AV.len (AV.cel x0 1)))) ∧
              ((AV.isBool (AV.bin Go.BinOp.lss x1 (AV.int 1))) ∧
              ((isF (AV.bin Go.BinOp.lss x1 (AV.int 1))) ∧
              ((AV.isBool (AV.bin Go.BinOp.eql r5761 (AV.int 0))) ∧
              ((isT (AV.bin Go.BinOp.eql r5761 (AV.int 0))) ∧
              ((AV.isBool (AV.bin Go.BinOp.gtr x1 (AV.bin Go.BinOp.add (AV.cel x0 0) (AV.len (AV.cel x0 1))))) ∧
              (((isT (AV.bin Go.BinOp.gtr x1 (AV.bin Go.BinOp.add (AV.cel x0 0) (AV.len (AV.cel x0 1))))) →
                ((AV.binOk Go.BinOp.eql (AV.prj r449 1) (AV.int 4)) ∧
                ((AV.isBool (AV.bin Go.BinOp.eql (AV.prj r449 1) (AV.int 4))) ∧
                ((isT (AV.bin Go.BinOp.eql (AV.prj r449 1) (AV.int 4))) ∧
                ((AV.binOk Go.BinOp.eql (AV.cel (AV.prj r449 0) 0) (AV.int 0)) ∧
                ((AV.isBool (AV.bin Go.BinOp.eql (AV.prj r449 1) (AV.int 4))) ∧
                ((isT (AV.bin Go.BinOp.eql (AV.prj r449 1) (AV.int 4))) ∧
                ((AV.isBool (AV.bin Go.BinOp.eql (AV.cel (AV.prj r449 0) 0) (AV.int 0))) ∧
                ((isT (AV.bin Go.BinOp.eql (AV.cel (AV.prj r449 0) 0) (AV.int 0))) ∧
                ((AV.binOk Go.BinOp.eql (AV.len (AV.cel (AV.prj r449 0) 1)) (AV.int 0)) ∧
                ((AV.isBool (AV.bin Go.BinOp.eql (AV.cel (AV.prj r449 0) 0) (AV.int 0))) ∧
                ((isT (AV.bin Go.BinOp.eql (AV.cel (AV.prj r449 0) 0) (AV.int 0))) ∧
                ((AV.flat (AV.bin Go.BinOp.eql (AV.len (AV.cel (AV.prj r449 0) 1)) (AV.int 0))) ∧
                (fSame (AV.bin Go.BinOp.eql (AV.len (AV.cel (AV.prj r449 0) 1)) (AV.int 0)) r)))))))))))))) ∧
              ((isF (AV.bin Go.BinOp.gtr x1 (AV.bin Go.BinOp.add (AV.cel x0 0) (AV.len (AV.cel x0 1))))) →
                ((AV.binOk Go.BinOp.neq r5761 (AV.int 0)) ∧
                ((AV.isBool (AV.bin Go.BinOp.neq r5761 (AV.int 0))) ∧
                ((isF (AV.bin Go.BinOp.neq r5761 (AV.int 0))) ∧
                ((AV.isInt (AV.cel x0 0)) ∧
                ((AV.isInt x1) ∧
                ((AV.binOk Go.BinOp.eql (AV.prj r449 1) (AV.int 0)) ∧
                ((AV.isBool (AV.bin Go.BinOp.eql (AV.prj r449 1) (AV.int 0))) ∧
                ((isT (AV.bin Go.BinOp.eql (AV.prj r449 1) (AV.int 0))) ∧
                ((AV.binOk Go.BinOp.eql (AV.cel (AV.prj r449 0) 0) (AV.mx (AV.cel x0 0) x1)) ∧
                ((AV.isBool (AV.bin Go.BinOp.eql (AV.prj r449 1) (AV.int 0))) ∧
                ((isT (AV.bin Go.BinOp.eql (AV.prj r449 1) (AV.int 0))) ∧
                ((AV.isBool (AV.bin Go.BinOp.eql (AV.cel (AV.prj r449 0) 0) (AV.mx (AV.cel x0 0) x1))) ∧
                ((isT (AV.bin Go.BinOp.eql (AV.cel (AV.prj r449 0) 0) (AV.mx (AV.cel x0 0) x1))) ∧
                ((AV.binOk Go.BinOp.sub (AV.mx (AV.cel x0 0) x1) (AV.cel x0 0)) ∧
                ((AV.isSl (AV.cel x0 1) 1) ∧
                ((AV.subOk (AV.cel x0 1) (AV.bin Go.BinOp.sub (AV.mx (AV.cel x0 0) x1) (AV.cel x0 0)) (AV.len (AV.cel x0 1))) ∧
                (∃ r8513 : AV, ((Fn Try.prog 52 [(AV.cel (AV.prj r449 0) 1), (AV.sub 1 (AV.cel x0 1) (AV.bin Go.BinOp.sub (AV.mx (AV.cel x0 0) x1) (AV.cel x0 0)) (AV.len (AV.cel x0 1)))] Sh.sc r8513) ∧
                ((AV.isBool (AV.bin Go.BinOp.eql (AV.cel (AV.prj r449 0) 0) (AV.mx (AV.cel x0 0) x1))) ∧
                ((isT (AV.bin Go.BinOp.eql (AV.cel (AV.prj r449 0) 0) (AV.mx (AV.cel x0 0) x1))) ∧
                ((AV.flat r8513) ∧
                (fSame r8513 r)))))))))))))))))))))))))))))))))))) ∧
            ((isF (AV.bin Go.BinOp.eql r5761 (AV.int 0))) →
              ((AV.isBool (AV.bin Go.BinOp.eql r5761 (AV.int 0))) ∧
              ((isF (AV.bin Go.BinOp.eql r5761 (AV.int 0))) ∧
              ((AV.binOk Go.BinOp.neq r5761 (AV.int 0)) ∧
              ((AV.isBool (AV.bin Go.BinOp.neq r5761 (AV.int 0))) ∧
              ((isT (AV.bin Go.BinOp.neq r5761 (AV.int 0))) ∧
              ((AV.binOk Go.BinOp.eql (AV.prj r449 1) r5761) ∧
              ((AV.isBool (AV.bin Go.BinOp.eql (AV.prj r449 1) r5761)) ∧
              ((isT (AV.bin Go.BinOp.eql (AV.prj r449 1) r5761)) ∧
              ((AV.binOk Go.BinOp.eql (AV.cel (AV.prj r449 0) 0) (AV.int 0)) ∧
              ((AV.isBool (AV.bin Go.BinOp.eql (AV.prj r449 1) r5761)) ∧
              ((isT (AV.bin Go.BinOp.eql (AV.prj r449 1) r5761)) ∧
              ((AV.isBool (AV.bin Go.BinOp.eql (AV.cel (AV.prj r449 0) 0) (AV.int 0))) ∧
              ((isT (AV.bin Go.BinOp.eql (AV.cel (AV.prj r449 0) 0) (AV.int 0))) ∧
              ((AV.binOk Go.BinOp.eql (AV.len (AV.cel (AV.prj r449 0) 1)) (AV.int 0)) ∧
              ((AV.isBool (AV.bin Go.BinOp.eql (AV.cel (AV.prj r449 0) 0) (AV.int 0))) ∧
              ((isT (AV.bin Go.BinOp.eql (AV.cel (AV.prj r449 0) 0) (AV.int 0))) ∧
              ((AV.flat (AV.bin Go.BinOp.eql (AV.len (AV.cel (AV.prj r449 0) 1)) (AV.int 0))) ∧
              (fSame (AV.bin Go.BinOp.eql (AV.len (AV.cel (AV.prj r449 0) 1)) (AV.int 0)) r)))))))))))))))))))))))))))))))))))))))))))))))))))))))))))))))))))))))))))))))))))))))) := by kernel_rfl
end LinkW
end Go.Proofs.Ytnmepkcbpkcegaa
