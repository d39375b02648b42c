/- taxi: what the run ends in. -/
import Derived.Test.YtlhhdonpoglfkaaVal
namespace Go.Proofs.Ytlhhdonpoglfkaa
open Go.RowKit
set_option linter.unusedVariables false
set_option maxRecDepth 100000
namespace TaxiF
--GAMMA
def Γ : FuncId → Option Ca := fun f =>
  if f = 98 ∨ f = 55 ∨ f = 92 ∨ f = 42 ∨ f = 44 ∨ f = 49 ∨ f = 43 ∨ f = 97 ∨ f = 41 ∨ f = 38 ∨ f = 46 ∨ f = 47 ∨ f = 101 ∨ f = 96 ∨ f = 95 then some (.fn .sc)
  else if f = 48 then some (.fn (.tup [.sc, .sc]))
  else if f = 39 ∨ f = 40 then some (.fn (.tup [.row 76 4 true, .sc]))
  else if f = 45 then some (.fn (.row 76 4 true))
  else if f = 93 then some (.upd false)
  else some .inl
def ann : FuncId → Nat → LoopEx := fun f r => if f = 39 ∧ r = 14 then ⟨[], [897], [], []⟩ else if f = 40 then ⟨[], [321], [], []⟩ else if f = 7 then ⟨[], [3457], [], []⟩ else if f = 45 ∧ r = 4 then ⟨[], [], [], [(7, 0, 0, 0)]⟩ else ⟨[], [], [], []⟩
--END GAMMA
theorem cmp_form (x0 x1 r : AV) : fnF Try.prog Γ ann 2 96 Try.f96 (Try.f96.body.getD .skip) (.nil) [x0, x1] (.sc) r = (((fEnt Try.prog 133) ∧
(fAllV fun _ => ((AV.binOk Go.BinOp.neq x0 x0) ∧
((fEnt Try.prog 133) ∧
(fAllV fun _ => ((AV.binOk Go.BinOp.neq x1 x1) ∧
((AV.isBool (AV.bin Go.BinOp.neq x0 x0)) ∧
(((isT (AV.bin Go.BinOp.neq x0 x0)) →
  ((AV.isBool (AV.bin Go.BinOp.neq x1 x1)) ∧
  (((isT (AV.bin Go.BinOp.neq x1 x1)) →
    ((AV.flat (AV.int 0)) ∧
    (fSame (AV.int 0) r))) ∧
  ((isF (AV.bin Go.BinOp.neq x1 x1)) →
    ((AV.flat (AV.int (-1))) ∧
    (fSame (AV.int (-1)) r)))))) ∧
((isF (AV.bin Go.BinOp.neq x0 x0)) →
  ((AV.isBool (AV.bin Go.BinOp.neq x1 x1)) ∧
  (((isT (AV.bin Go.BinOp.neq x1 x1)) →
    ((AV.flat (AV.int 1)) ∧
    (fSame (AV.int 1) r))) ∧
  ((isF (AV.bin Go.BinOp.neq x1 x1)) →
    ((AV.binOk Go.BinOp.lss x0 x1) ∧
    ((AV.isBool (AV.bin Go.BinOp.lss x0 x1)) ∧
    (((isT (AV.bin Go.BinOp.lss x0 x1)) →
      ((AV.flat (AV.int (-1))) ∧
      (fSame (AV.int (-1)) r))) ∧
    ((isF (AV.bin Go.BinOp.lss x0 x1)) →
      ((AV.binOk Go.BinOp.gtr x0 x1) ∧
      ((AV.isBool (AV.bin Go.BinOp.gtr x0 x1)) ∧
      (((isT (AV.bin Go.BinOp.gtr x0 x1)) →
        ((AV.flat (AV.int 1)) ∧
        (fSame (AV.int 1) r))) ∧
      ((isF (AV.bin Go.BinOp.gtr x0 x1)) →
        ((AV.flat (AV.int 0)) ∧
        (fSame (AV.int 0) r))))))))))))))))))))))) := by kernel_rfl
theorem or_form (x0 r : AV) : fnF Try.prog Γ ann 2 95 Try.f95 (Try.f95.body.getD .skip) (.nil) [x0] (.sc) r = (((AV.isSl x0 1) ∧
(fLoop 321 [(AV.int 0)] fun ys321 again321 =>
  ((AV.binOk Go.BinOp.lss (ys321.getD 0 default) (AV.len x0)) ∧
  ((AV.isBool (AV.bin Go.BinOp.lss (ys321.getD 0 default) (AV.len x0))) ∧
  (((isT (AV.bin Go.BinOp.lss (ys321.getD 0 default) (AV.len x0))) →
    ((AV.isSl x0 1) ∧
    ((AV.inb x0 (ys321.getD 0 default)) ∧
    ((AV.binOk Go.BinOp.neq (AV.at x0 (ys321.getD 0 default) 0) (AV.int 0)) ∧
    ((AV.isBool (AV.bin Go.BinOp.neq (AV.at x0 (ys321.getD 0 default) 0) (AV.int 0))) ∧
    (((isT (AV.bin Go.BinOp.neq (AV.at x0 (ys321.getD 0 default) 0) (AV.int 0))) →
      ((AV.flat (AV.at x0 (ys321.getD 0 default) 0)) ∧
      (fSame (AV.at x0 (ys321.getD 0 default) 0) r))) ∧
    ((isF (AV.bin Go.BinOp.neq (AV.at x0 (ys321.getD 0 default) 0) (AV.int 0))) →
      ((AV.binOk Go.BinOp.add (ys321.getD 0 default) (AV.int 1)) ∧
      (again321 [(AV.bin Go.BinOp.add (ys321.getD 0 default) (AV.int 1))]))))))))) ∧
  ((isF (AV.bin Go.BinOp.lss (ys321.getD 0 default) (AV.len x0))) →
    ((AV.flat (AV.int 0)) ∧
    (fSame (AV.int 0) r))))))))) := by kernel_rfl
theorem less_form (x0 x1 r : AV) : fnF Try.prog Γ ann 2 94 Try.f94 (Try.f94.body.getD .skip) (.nil) [x0, x1] (.sc) r = (((AV.isAgg x0 4) ∧
((AV.isAgg x1 4) ∧
((AV.binOk Go.BinOp.sub (AV.cel x0 2) (AV.cel x1 2)) ∧
(∃ r769 : AV, ((Fn Try.prog 96 [(AV.cel x0 0), (AV.cel x1 0)] Sh.sc r769) ∧
((AV.isOne (AV.bin Go.BinOp.sub (AV.cel x0 2) (AV.cel x1 2))) ∧
((AV.isOne r769) ∧
(∃ r897 : AV, ((Fn Try.prog 95 [(AV.mk 1 [[(AV.bin Go.BinOp.sub (AV.cel x0 2) (AV.cel x1 2))], [r769]])] Sh.sc r897) ∧
((AV.flat r897) ∧
(fSame r897 r)))))))))))) := by kernel_rfl
theorem stand_form (x0 x1 r : AV) : fnF Try.prog Γ ann 3 92 Try.f92 (Try.f92.body.getD .skip) (.nil) [x0, x1] (.sc) r = (((AV.isOne x1) ∧
((fEnt Try.prog 129) ∧
(fAllV fun _ => ((AV.isSl x0 2) ∧
(fLoop 577 [(AV.int 0)] fun ys577 again577 =>
  ((AV.binOk Go.BinOp.lss (ys577.getD 0 default) (AV.len x0)) ∧
  ((AV.isBool (AV.bin Go.BinOp.lss (ys577.getD 0 default) (AV.len x0))) ∧
  (((isT (AV.bin Go.BinOp.lss (ys577.getD 0 default) (AV.len x0))) →
    ((AV.isSl x0 2) ∧
    ((AV.inb x0 (ys577.getD 0 default)) ∧
    ((fEnt Try.prog 130) ∧
    (fAllV fun _ => ((AV.isAgg (AV.atAgg x0 (ys577.getD 0 default) 0 2) 2) ∧
    ((AV.binOk Go.BinOp.eql (AV.cel (AV.atAgg x0 (ys577.getD 0 default) 0 2) 0) x1) ∧
    ((AV.isBool (AV.bin Go.BinOp.eql (AV.cel (AV.atAgg x0 (ys577.getD 0 default) 0 2) 0) x1)) ∧
    (((isT (AV.bin Go.BinOp.eql (AV.cel (AV.atAgg x0 (ys577.getD 0 default) 0 2) 0) x1)) →
      ((AV.flat (ys577.getD 0 default)) ∧
      (fSame (ys577.getD 0 default) r))) ∧
    ((isF (AV.bin Go.BinOp.eql (AV.cel (AV.atAgg x0 (ys577.getD 0 default) 0 2) 0) x1)) →
      ((AV.binOk Go.BinOp.add (ys577.getD 0 default) (AV.int 1)) ∧
      (again577 [(AV.bin Go.BinOp.add (ys577.getD 0 default) (AV.int 1))])))))))))))) ∧
  ((isF (AV.bin Go.BinOp.lss (ys577.getD 0 default) (AV.len x0))) →
    ((AV.flat (AV.int (-1))) ∧
    (fSame (AV.int (-1)) r)))))))))))) := by kernel_rfl
theorem stands_form (x0 r : AV) : fnF Try.prog Γ ann 3 42 Try.f42 (Try.f42.body.getD .skip) (.nil) [x0] (.sc) r = (((AV.isSl x0 2) ∧
((AV.binOk Go.BinOp.gtr (AV.len x0) (AV.int 16)) ∧
((AV.isBool (AV.bin Go.BinOp.gtr (AV.len x0) (AV.int 16))) ∧
(((isT (AV.bin Go.BinOp.gtr (AV.len x0) (AV.int 16))) →
  ((AV.flat (AV.int 2)) ∧
  (fSame (AV.int 2) r))) ∧
((isF (AV.bin Go.BinOp.gtr (AV.len x0) (AV.int 16))) →
  ((AV.isSl x0 2) ∧
  (fLoop 449 [(AV.int 0)] fun ys449 again449 =>
    ((AV.binOk Go.BinOp.lss (ys449.getD 0 default) (AV.len x0)) ∧
    ((AV.isBool (AV.bin Go.BinOp.lss (ys449.getD 0 default) (AV.len x0))) ∧
    (((isT (AV.bin Go.BinOp.lss (ys449.getD 0 default) (AV.len x0))) →
      ((AV.isSl x0 2) ∧
      ((AV.inb x0 (ys449.getD 0 default)) ∧
      ((AV.isAgg (AV.atAgg x0 (ys449.getD 0 default) 0 2) 2) ∧
      (∃ r1025 : AV, ((Fn Try.prog 98 [(AV.cel (AV.atAgg x0 (ys449.getD 0 default) 0 2) 0)] Sh.sc r1025) ∧
      ((AV.unOk Go.UnOp.not r1025) ∧
      ((AV.isBool (AV.un Go.UnOp.not r1025)) ∧
      (((isT (AV.un Go.UnOp.not r1025)) →
        ((AV.flat (AV.int 3)) ∧
        (fSame (AV.int 3) r))) ∧
      ((isF (AV.un Go.UnOp.not r1025)) →
        ((AV.binOk Go.BinOp.lss (AV.cel (AV.atAgg x0 (ys449.getD 0 default) 0 2) 1) (AV.int 0)) ∧
        ((AV.isBool (AV.bin Go.BinOp.lss (AV.cel (AV.atAgg x0 (ys449.getD 0 default) 0 2) 1) (AV.int 0))) ∧
        (((isT (AV.bin Go.BinOp.lss (AV.cel (AV.atAgg x0 (ys449.getD 0 default) 0 2) 1) (AV.int 0))) →
          ((AV.isBool (AV.bin Go.BinOp.lss (AV.cel (AV.atAgg x0 (ys449.getD 0 default) 0 2) 1) (AV.int 0))) ∧
          ((isT (AV.bin Go.BinOp.lss (AV.cel (AV.atAgg x0 (ys449.getD 0 default) 0 2) 1) (AV.int 0))) ∧
          ((AV.flat (AV.int 4)) ∧
          (fSame (AV.int 4) r))))) ∧
        ((isF (AV.bin Go.BinOp.lss (AV.cel (AV.atAgg x0 (ys449.getD 0 default) 0 2) 1) (AV.int 0))) →
          ((AV.binOk Go.BinOp.gtr (AV.cel (AV.atAgg x0 (ys449.getD 0 default) 0 2) 1) (AV.int 1800)) ∧
          ((AV.isBool (AV.bin Go.BinOp.lss (AV.cel (AV.atAgg x0 (ys449.getD 0 default) 0 2) 1) (AV.int 0))) ∧
          ((isF (AV.bin Go.BinOp.lss (AV.cel (AV.atAgg x0 (ys449.getD 0 default) 0 2) 1) (AV.int 0))) ∧
          ((AV.isBool (AV.bin Go.BinOp.gtr (AV.cel (AV.atAgg x0 (ys449.getD 0 default) 0 2) 1) (AV.int 1800))) ∧
          (((isT (AV.bin Go.BinOp.gtr (AV.cel (AV.atAgg x0 (ys449.getD 0 default) 0 2) 1) (AV.int 1800))) →
            ((AV.flat (AV.int 4)) ∧
            (fSame (AV.int 4) r))) ∧
          ((isF (AV.bin Go.BinOp.gtr (AV.cel (AV.atAgg x0 (ys449.getD 0 default) 0 2) 1) (AV.int 1800))) →
            ((AV.isSl x0 2) ∧
            ((AV.subOk x0 (AV.int 0) (ys449.getD 0 default)) ∧
            (∃ r2113 : AV, ((Fn Try.prog 92 [(AV.sub 2 x0 (AV.int 0) (ys449.getD 0 default)), (AV.cel (AV.atAgg x0 (ys449.getD 0 default) 0 2) 0)] Sh.sc r2113) ∧
            ((AV.binOk Go.BinOp.geq r2113 (AV.int 0)) ∧
            ((AV.isBool (AV.bin Go.BinOp.geq r2113 (AV.int 0))) ∧
            (((isT (AV.bin Go.BinOp.geq r2113 (AV.int 0))) →
              ((AV.flat (AV.int 7)) ∧
              (fSame (AV.int 7) r))) ∧
            ((isF (AV.bin Go.BinOp.geq r2113 (AV.int 0))) →
              ((AV.binOk Go.BinOp.add (ys449.getD 0 default) (AV.int 1)) ∧
              (again449 [(AV.bin Go.BinOp.add (ys449.getD 0 default) (AV.int 1))])))))))))))))))))))))))))))))) ∧
    ((isF (AV.bin Go.BinOp.lss (ys449.getD 0 default) (AV.len x0))) →
      ((AV.flat (AV.int 0)) ∧
      (fSame (AV.int 0) r)))))))))))))) := by kernel_rfl
theorem check_form (x0 x1 r : AV) : fnF Try.prog Γ ann 3 44 Try.f44 (Try.f44.body.getD .skip) (.nil) [x0, x1] (.sc) r = ((∃ r129 : AV, ((Fn Try.prog 42 [x0] Sh.sc r129) ∧
((AV.binOk Go.BinOp.neq r129 (AV.int 0)) ∧
((AV.isBool (AV.bin Go.BinOp.neq r129 (AV.int 0))) ∧
(((isT (AV.bin Go.BinOp.neq r129 (AV.int 0))) →
  ((AV.flat r129) ∧
  (fSame r129 r))) ∧
((isF (AV.bin Go.BinOp.neq r129 (AV.int 0))) →
  ((AV.isSl x1 3) ∧
  ((AV.binOk Go.BinOp.gtr (AV.len x1) (AV.int 16)) ∧
  ((AV.isBool (AV.bin Go.BinOp.gtr (AV.len x1) (AV.int 16))) ∧
  (((isT (AV.bin Go.BinOp.gtr (AV.len x1) (AV.int 16))) →
    ((AV.flat (AV.int 2)) ∧
    (fSame (AV.int 2) r))) ∧
  ((isF (AV.bin Go.BinOp.gtr (AV.len x1) (AV.int 16))) →
    ((AV.isSl x1 3) ∧
    (fLoop 769 [(AV.int 0)] fun ys769 again769 =>
      ((AV.binOk Go.BinOp.lss (ys769.getD 0 default) (AV.len x1)) ∧
      ((AV.isBool (AV.bin Go.BinOp.lss (ys769.getD 0 default) (AV.len x1))) ∧
      (((isT (AV.bin Go.BinOp.lss (ys769.getD 0 default) (AV.len x1))) →
        ((AV.isSl x1 3) ∧
        ((AV.inb x1 (ys769.getD 0 default)) ∧
        ((AV.isAgg (AV.atAgg x1 (ys769.getD 0 default) 0 3) 3) ∧
        (∃ r1345 : AV, ((Fn Try.prog 98 [(AV.cel (AV.atAgg x1 (ys769.getD 0 default) 0 3) 0)] Sh.sc r1345) ∧
        ((AV.unOk Go.UnOp.not r1345) ∧
        ((AV.isBool (AV.un Go.UnOp.not r1345)) ∧
        (((isT (AV.un Go.UnOp.not r1345)) →
          ((AV.flat (AV.int 3)) ∧
          (fSame (AV.int 3) r))) ∧
        ((isF (AV.un Go.UnOp.not r1345)) →
          (∃ r1729 : AV, ((Fn Try.prog 92 [x0, (AV.cel (AV.atAgg x1 (ys769.getD 0 default) 0 3) 1)] Sh.sc r1729) ∧
          ((AV.binOk Go.BinOp.lss r1729 (AV.int 0)) ∧
          ((AV.isBool (AV.bin Go.BinOp.lss r1729 (AV.int 0))) ∧
          (((isT (AV.bin Go.BinOp.lss r1729 (AV.int 0))) →
            ((AV.flat (AV.int 6)) ∧
            (fSame (AV.int 6) r))) ∧
          ((isF (AV.bin Go.BinOp.lss r1729 (AV.int 0))) →
            ((AV.binOk Go.BinOp.lss (AV.cel (AV.atAgg x1 (ys769.getD 0 default) 0 3) 2) (AV.int 0)) ∧
            ((AV.isBool (AV.bin Go.BinOp.lss (AV.cel (AV.atAgg x1 (ys769.getD 0 default) 0 3) 2) (AV.int 0))) ∧
            (((isT (AV.bin Go.BinOp.lss (AV.cel (AV.atAgg x1 (ys769.getD 0 default) 0 3) 2) (AV.int 0))) →
              ((AV.isBool (AV.bin Go.BinOp.lss (AV.cel (AV.atAgg x1 (ys769.getD 0 default) 0 3) 2) (AV.int 0))) ∧
              ((isT (AV.bin Go.BinOp.lss (AV.cel (AV.atAgg x1 (ys769.getD 0 default) 0 3) 2) (AV.int 0))) ∧
              ((AV.flat (AV.int 12)) ∧
              (fSame (AV.int 12) r))))) ∧
            ((isF (AV.bin Go.BinOp.lss (AV.cel (AV.atAgg x1 (ys769.getD 0 default) 0 3) 2) (AV.int 0))) →
              ((AV.binOk Go.BinOp.gtr (AV.cel (AV.atAgg x1 (ys769.getD 0 default) 0 3) 2) (AV.int 200000)) ∧
              ((AV.isBool (AV.bin Go.BinOp.lss (AV.cel (AV.atAgg x1 (ys769.getD 0 default) 0 3) 2) (AV.int 0))) ∧
              ((isF (AV.bin Go.BinOp.lss (AV.cel (AV.atAgg x1 (ys769.getD 0 default) 0 3) 2) (AV.int 0))) ∧
              ((AV.isBool (AV.bin Go.BinOp.gtr (AV.cel (AV.atAgg x1 (ys769.getD 0 default) 0 3) 2) (AV.int 200000))) ∧
              (((isT (AV.bin Go.BinOp.gtr (AV.cel (AV.atAgg x1 (ys769.getD 0 default) 0 3) 2) (AV.int 200000))) →
                ((AV.flat (AV.int 12)) ∧
                (fSame (AV.int 12) r))) ∧
              ((isF (AV.bin Go.BinOp.gtr (AV.cel (AV.atAgg x1 (ys769.getD 0 default) 0 3) 2) (AV.int 200000))) →
                ((AV.isSl x1 3) ∧
                ((AV.subOk x1 (AV.int 0) (ys769.getD 0 default)) ∧
                ((fEnt Try.prog 99) ∧
                (fAllV fun _ => ((fEnt Try.prog 134) ∧
                (fAllV fun _ => ((AV.isSl (AV.sub 3 x1 (AV.int 0) (ys769.getD 0 default)) 3) ∧
                (fLoop 3329 [(AV.int 0)] fun ys3329 again3329 =>
                  ((AV.binOk Go.BinOp.lss (ys3329.getD 0 default) (AV.len (AV.sub 3 x1 (AV.int 0) (ys769.getD 0 default)))) ∧
                  ((AV.isBool (AV.bin Go.BinOp.lss (ys3329.getD 0 default) (AV.len (AV.sub 3 x1 (AV.int 0) (ys769.getD 0 default))))) ∧
                  (((isT (AV.bin Go.BinOp.lss (ys3329.getD 0 default) (AV.len (AV.sub 3 x1 (AV.int 0) (ys769.getD 0 default))))) →
                    ((AV.isSl (AV.sub 3 x1 (AV.int 0) (ys769.getD 0 default)) 3) ∧
                    ((AV.inb (AV.sub 3 x1 (AV.int 0) (ys769.getD 0 default)) (ys3329.getD 0 default)) ∧
                    ((fEnt Try.prog 100) ∧
                    (fAllV fun _ => ((AV.isAgg (AV.atAgg (AV.sub 3 x1 (AV.int 0) (ys769.getD 0 default)) (ys3329.getD 0 default) 0 3) 3) ∧
                    ((AV.binOk Go.BinOp.eql (AV.cel (AV.atAgg (AV.sub 3 x1 (AV.int 0) (ys769.getD 0 default)) (ys3329.getD 0 default) 0 3) 0) (AV.cel (AV.atAgg x1 (ys769.getD 0 default) 0 3) 0)) ∧
                    ((AV.isBool (AV.bin Go.BinOp.eql (AV.cel (AV.atAgg (AV.sub 3 x1 (AV.int 0) (ys769.getD 0 default)) (ys3329.getD 0 default) 0 3) 0) (AV.cel (AV.atAgg x1 (ys769.getD 0 default) 0 3) 0))) ∧
                    (((isT (AV.bin Go.BinOp.eql (AV.cel (AV.atAgg (AV.sub 3 x1 (AV.int 0) (ys769.getD 0 default)) (ys3329.getD 0 default) 0 3) 0) (AV.cel (AV.atAgg x1 (ys769.getD 0 default) 0 3) 0))) →
                      ((AV.binOk Go.BinOp.geq (ys3329.getD 0 default) (AV.int 0)) ∧
                      ((AV.isBool (AV.bin Go.BinOp.geq (ys3329.getD 0 default) (AV.int 0))) ∧
                      (((isT (AV.bin Go.BinOp.geq (ys3329.getD 0 default) (AV.int 0))) →
                        ((AV.flat (AV.int 7)) ∧
                        (fSame (AV.int 7) r))) ∧
                      ((isF (AV.bin Go.BinOp.geq (ys3329.getD 0 default) (AV.int 0))) →
                        ((AV.binOk Go.BinOp.add (ys769.getD 0 default) (AV.int 1)) ∧
                        (again769 [(AV.bin Go.BinOp.add (ys769.getD 0 default) (AV.int 1))]))))))) ∧
                    ((isF (AV.bin Go.BinOp.eql (AV.cel (AV.atAgg (AV.sub 3 x1 (AV.int 0) (ys769.getD 0 default)) (ys3329.getD 0 default) 0 3) 0) (AV.cel (AV.atAgg x1 (ys769.getD 0 default) 0 3) 0))) →
                      ((AV.binOk Go.BinOp.add (ys3329.getD 0 default) (AV.int 1)) ∧
                      (again3329 [(AV.bin Go.BinOp.add (ys3329.getD 0 default) (AV.int 1))])))))))))))) ∧
                  ((isF (AV.bin Go.BinOp.lss (ys3329.getD 0 default) (AV.len (AV.sub 3 x1 (AV.int 0) (ys769.getD 0 default))))) →
                    ((AV.binOk Go.BinOp.add (ys769.getD 0 default) (AV.int 1)) ∧
                    (again769 [(AV.bin Go.BinOp.add (ys769.getD 0 default) (AV.int 1))])))))))))))))))))))))))))))))))))))))))) ∧
      ((isF (AV.bin Go.BinOp.lss (ys769.getD 0 default) (AV.len x1))) →
        ((AV.flat (AV.int 0)) ∧
        (fSame (AV.int 0) r)))))))))))))))))))) := by kernel_rfl
theorem queue_form (x0 x1 x2 r : AV) : fnF Try.prog Γ ann 3 39 Try.f39 (Try.f39.body.getD .skip) (.nil) [x0, x1, x2] (.tup [.row 76 4 true, .sc]) r = ((∃ r257 : AV, ((Fn Try.prog 44 [x0, x1] Sh.sc r257) ∧
((AV.binOk Go.BinOp.neq r257 (AV.int 0)) ∧
((AV.isBool (AV.bin Go.BinOp.neq r257 (AV.int 0))) ∧
(((isT (AV.bin Go.BinOp.neq r257 (AV.int 0))) →
  ((AV.flatS (AV.mk 4 [])) ∧
  ((AV.flat r257) ∧
  (fSame (AV.tup [(AV.mk 4 []), r257]) r)))) ∧
((isF (AV.bin Go.BinOp.neq r257 (AV.int 0))) →
  ((AV.binOk Go.BinOp.lss x2 (AV.int 0)) ∧
  ((AV.isBool (AV.bin Go.BinOp.lss x2 (AV.int 0))) ∧
  (((isT (AV.bin Go.BinOp.lss x2 (AV.int 0))) →
    ((AV.isBool (AV.bin Go.BinOp.lss x2 (AV.int 0))) ∧
    ((isT (AV.bin Go.BinOp.lss x2 (AV.int 0))) ∧
    ((AV.flatS (AV.mk 4 [])) ∧
    ((AV.flat (AV.int 4)) ∧
    (fSame (AV.tup [(AV.mk 4 []), (AV.int 4)]) r)))))) ∧
  ((isF (AV.bin Go.BinOp.lss x2 (AV.int 0))) →
    ((AV.binOk Go.BinOp.gtr x2 (AV.int 1800)) ∧
    ((AV.isBool (AV.bin Go.BinOp.lss x2 (AV.int 0))) ∧
    ((isF (AV.bin Go.BinOp.lss x2 (AV.int 0))) ∧
    ((AV.isBool (AV.bin Go.BinOp.gtr x2 (AV.int 1800))) ∧
    (((isT (AV.bin Go.BinOp.gtr x2 (AV.int 1800))) →
      ((AV.flatS (AV.mk 4 [])) ∧
      ((AV.flat (AV.int 4)) ∧
      (fSame (AV.tup [(AV.mk 4 []), (AV.int 4)]) r)))) ∧
    ((isF (AV.bin Go.BinOp.gtr x2 (AV.int 1800))) →
      ((AV.isSl x1 3) ∧
      (fLoop 1153 [(AV.int 0), (AV.mk 4 [])] fun ys1153 again1153 =>
        ((AV.binOk Go.BinOp.lss (ys1153.getD 0 default) (AV.len x1)) ∧
        ((AV.isBool (AV.bin Go.BinOp.lss (ys1153.getD 0 default) (AV.len x1))) ∧
        (((isT (AV.bin Go.BinOp.lss (ys1153.getD 0 default) (AV.len x1))) →
          ((AV.isSl x1 3) ∧
          ((AV.inb x1 (ys1153.getD 0 default)) ∧
          ((AV.isAgg (AV.atAgg x1 (ys1153.getD 0 default) 0 3) 3) ∧
          (∃ r2177 : AV, ((Fn Try.prog 92 [x0, (AV.cel (AV.atAgg x1 (ys1153.getD 0 default) 0 3) 1)] Sh.sc r2177) ∧
          ((AV.isSl x0 2) ∧
          ((AV.inb x0 r2177) ∧
          ((AV.binOk Go.BinOp.add (AV.cel (AV.atAgg x1 (ys1153.getD 0 default) 0 3) 2) (AV.at x0 r2177 1)) ∧
          ((AV.isOne (AV.cel (AV.atAgg x1 (ys1153.getD 0 default) 0 3) 0)) ∧
          ((AV.isOne (AV.cel (AV.atAgg x1 (ys1153.getD 0 default) 0 3) 2)) ∧
          ((AV.isOne (AV.bin Go.BinOp.add (AV.cel (AV.atAgg x1 (ys1153.getD 0 default) 0 3) 2) (AV.at x0 r2177 1))) ∧
          ((AV.room (ys1153.getD 1 default) (AV.mk 4 [[(AV.cel (AV.atAgg x1 (ys1153.getD 0 default) 0 3) 0), (AV.cel (AV.atAgg x1 (ys1153.getD 0 default) 0 3) 2), (AV.bin Go.BinOp.add (AV.cel (AV.atAgg x1 (ys1153.getD 0 default) 0 3) 2) (AV.at x0 r2177 1)), (AV.int 0)]]) 40) ∧
          ((AV.binOk Go.BinOp.add (ys1153.getD 0 default) (AV.int 1)) ∧
          (again1153 [(AV.bin Go.BinOp.add (ys1153.getD 0 default) (AV.int 1)), (AV.app 4 (ys1153.getD 1 default) (AV.mk 4 [[(AV.cel (AV.atAgg x1 (ys1153.getD 0 default) 0 3) 0), (AV.cel (AV.atAgg x1 (ys1153.getD 0 default) 0 3) 2), (AV.bin Go.BinOp.add (AV.cel (AV.atAgg x1 (ys1153.getD 0 default) 0 3) 2) (AV.at x0 r2177 1)), (AV.int 0)]]))]))))))))))))))) ∧
        ((isF (AV.bin Go.BinOp.lss (ys1153.getD 0 default) (AV.len x1))) →
          (∃ r1281 : AV, ((FnU Try.prog 93 76 4 (ys1153.getD 1 default) [(AV.mkClo 94 [])] false r1281) ∧
          (fLoop 1537 [(AV.int 0), r1281] fun ys1537 again1537 =>
            ((AV.binOk Go.BinOp.lss (ys1537.getD 0 default) (AV.len r1281)) ∧
            ((AV.isBool (AV.bin Go.BinOp.lss (ys1537.getD 0 default) (AV.len r1281))) ∧
            (((isT (AV.bin Go.BinOp.lss (ys1537.getD 0 default) (AV.len r1281))) →
              ((AV.inb (ys1537.getD 1 default) (ys1537.getD 0 default)) ∧
              ((AV.inb (ys1537.getD 1 default) (ys1537.getD 0 default)) ∧
              ((AV.inb (ys1537.getD 1 default) (ys1537.getD 0 default)) ∧
              ((AV.isOne (AV.at (ys1537.getD 1 default) (ys1537.getD 0 default) 2)) ∧
              ((AV.inb (ys1537.getD 1 default) (ys1537.getD 0 default)) ∧
              ((AV.binOk Go.BinOp.gtr (ys1537.getD 0 default) (AV.int 0)) ∧
              ((AV.isBool (AV.bin Go.BinOp.gtr (ys1537.getD 0 default) (AV.int 0))) ∧
              (((isT (AV.bin Go.BinOp.gtr (ys1537.getD 0 default) (AV.int 0))) →
                ((AV.inb (AV.setEl (ys1537.getD 1 default) (ys1537.getD 0 default) 3 [(AV.at (ys1537.getD 1 default) (ys1537.getD 0 default) 2)]) (ys1537.getD 0 default)) ∧
                ((AV.inb (AV.setEl (ys1537.getD 1 default) (ys1537.getD 0 default) 3 [(AV.at (ys1537.getD 1 default) (ys1537.getD 0 default) 2)]) (ys1537.getD 0 default)) ∧
                ((AV.binOk Go.BinOp.sub (ys1537.getD 0 default) (AV.int 1)) ∧
                ((AV.inb (AV.setEl (ys1537.getD 1 default) (ys1537.getD 0 default) 3 [(AV.at (ys1537.getD 1 default) (ys1537.getD 0 default) 2)]) (AV.bin Go.BinOp.sub (ys1537.getD 0 default) (AV.int 1))) ∧
                ((AV.inb (AV.setEl (ys1537.getD 1 default) (ys1537.getD 0 default) 3 [(AV.at (ys1537.getD 1 default) (ys1537.getD 0 default) 2)]) (AV.bin Go.BinOp.sub (ys1537.getD 0 default) (AV.int 1))) ∧
                ((AV.binOk Go.BinOp.add (AV.at (AV.setEl (ys1537.getD 1 default) (ys1537.getD 0 default) 3 [(AV.at (ys1537.getD 1 default) (ys1537.getD 0 default) 2)]) (AV.bin Go.BinOp.sub (ys1537.getD 0 default) (AV.int 1)) 3) x2) ∧
                ((AV.isInt (AV.at (AV.setEl (ys1537.getD 1 default) (ys1537.getD 0 default) 3 [(AV.at (ys1537.getD 1 default) (ys1537.getD 0 default) 2)]) (ys1537.getD 0 default) 3)) ∧
                ((AV.isInt (AV.bin Go.BinOp.add (AV.at (AV.setEl (ys1537.getD 1 default) (ys1537.getD 0 default) 3 [(AV.at (ys1537.getD 1 default) (ys1537.getD 0 default) 2)]) (AV.bin Go.BinOp.sub (ys1537.getD 0 default) (AV.int 1)) 3) x2)) ∧
                ((AV.inb (AV.setEl (ys1537.getD 1 default) (ys1537.getD 0 default) 3 [(AV.at (ys1537.getD 1 default) (ys1537.getD 0 default) 2)]) (ys1537.getD 0 default)) ∧
                ((AV.isOne (AV.mx (AV.at (AV.setEl (ys1537.getD 1 default) (ys1537.getD 0 default) 3 [(AV.at (ys1537.getD 1 default) (ys1537.getD 0 default) 2)]) (ys1537.getD 0 default) 3) (AV.bin Go.BinOp.add (AV.at (AV.setEl (ys1537.getD 1 default) (ys1537.getD 0 default) 3 [(AV.at (ys1537.getD 1 default) (ys1537.getD 0 default) 2)]) (AV.bin Go.BinOp.sub (ys1537.getD 0 default) (AV.int 1)) 3) x2))) ∧
                ((AV.inb (AV.setEl (ys1537.getD 1 default) (ys1537.getD 0 default) 3 [(AV.at (ys1537.getD 1 default) (ys1537.getD 0 default) 2)]) (ys1537.getD 0 default)) ∧
                ((AV.inb (AV.setEl (AV.setEl (ys1537.getD 1 default) (ys1537.getD 0 default) 3 [(AV.at (ys1537.getD 1 default) (ys1537.getD 0 default) 2)]) (ys1537.getD 0 default) 3 [(AV.mx (AV.at (AV.setEl (ys1537.getD 1 default) (ys1537.getD 0 default) 3 [(AV.at (ys1537.getD 1 default) (ys1537.getD 0 default) 2)]) (ys1537.getD 0 default) 3) (AV.bin Go.BinOp.add (AV.at (AV.setEl (ys1537.getD 1 default) (ys1537.getD 0 default) 3 [(AV.at (ys1537.getD 1 default) (ys1537.getD 0 default) 2)]) (AV.bin Go.BinOp.sub (ys1537.getD 0 default) (AV.int 1)) 3) x2))]) (ys1537.getD 0 default)) ∧
                ((AV.inb (AV.setEl (AV.setEl (ys1537.getD 1 default) (ys1537.getD 0 default) 3 [(AV.at (ys1537.getD 1 default) (ys1537.getD 0 default) 2)]) (ys1537.getD 0 default) 3 [(AV.mx (AV.at (AV.setEl (ys1537.getD 1 default) (ys1537.getD 0 default) 3 [(AV.at (ys1537.getD 1 default) (ys1537.getD 0 default) 2)]) (ys1537.getD 0 default) 3) (AV.bin Go.BinOp.add (AV.at (AV.setEl (ys1537.getD 1 default) (ys1537.getD 0 default) 3 [(AV.at (ys1537.getD 1 default) (ys1537.getD 0 default) 2)]) (AV.bin Go.BinOp.sub (ys1537.getD 0 default) (AV.int 1)) 3) x2))]) (ys1537.getD 0 default)) ∧
                ((AV.binOk Go.BinOp.gtr (AV.at (AV.setEl (AV.setEl (ys1537.getD 1 default) (ys1537.getD 0 default) 3 [(AV.at (ys1537.getD 1 default) (ys1537.getD 0 default) 2)]) (ys1537.getD 0 default) 3 [(AV.mx (AV.at (AV.setEl (ys1537.getD 1 default) (ys1537.getD 0 default) 3 [(AV.at (ys1537.getD 1 default) (ys1537.getD 0 default) 2)]) (ys1537.getD 0 default) 3) (AV.bin Go.BinOp.add (AV.at (AV.setEl (ys1537.getD 1 default) (ys1537.getD 0 default) 3 [(AV.at (ys1537.getD 1 default) (ys1537.getD 0 default) 2)]) (AV.bin Go.BinOp.sub (ys1537.getD 0 default) (AV.int 1)) 3) x2))]) (ys1537.getD 0 default) 3) (AV.int 200000)) ∧
                ((AV.isBool (AV.bin Go.BinOp.gtr (AV.at (AV.setEl (AV.setEl (ys1537.getD 1 default) (ys1537.getD 0 default) 3 [(AV.at (ys1537.getD 1 default) (ys1537.getD 0 default) 2)]) (ys1537.getD 0 default) 3 [(AV.mx (AV.at (AV.setEl (ys1537.getD 1 default) (ys1537.getD 0 default) 3 [(AV.at (ys1537.getD 1 default) (ys1537.getD 0 default) 2)]) (ys1537.getD 0 default) 3) (AV.bin Go.BinOp.add (AV.at (AV.setEl (ys1537.getD 1 default) (ys1537.getD 0 default) 3 [(AV.at (ys1537.getD 1 default) (ys1537.getD 0 default) 2)]) (AV.bin Go.BinOp.sub (ys1537.getD 0 default) (AV.int 1)) 3) x2))]) (ys1537.getD 0 default) 3) (AV.int 200000))) ∧
                (((isT (AV.bin Go.BinOp.gtr (AV.at (AV.setEl (AV.setEl (ys1537.getD 1 default) (ys1537.getD 0 default) 3 [(AV.at (ys1537.getD 1 default) (ys1537.getD 0 default) 2)]) (ys1537.getD 0 default) 3 [(AV.mx (AV.at (AV.setEl (ys1537.getD 1 default) (ys1537.getD 0 default) 3 [(AV.at (ys1537.getD 1 default) (ys1537.getD 0 default) 2)]) (ys1537.getD 0 default) 3) (AV.bin Go.BinOp.add (AV.at (AV.setEl (ys1537.getD 1 default) (ys1537.getD 0 default) 3 [(AV.at (ys1537.getD 1 default) (ys1537.getD 0 default) 2)]) (AV.bin Go.BinOp.sub (ys1537.getD 0 default) (AV.int 1)) 3) x2))]) (ys1537.getD 0 default) 3) (AV.int 200000))) →
                  ((AV.flatS (AV.mk 4 [])) ∧
                  ((AV.flat (AV.int 12)) ∧
                  (fSame (AV.tup [(AV.mk 4 []), (AV.int 12)]) r)))) ∧
                ((isF (AV.bin Go.BinOp.gtr (AV.at (AV.setEl (AV.setEl (ys1537.getD 1 default) (ys1537.getD 0 default) 3 [(AV.at (ys1537.getD 1 default) (ys1537.getD 0 default) 2)]) (ys1537.getD 0 default) 3 [(AV.mx (AV.at (AV.setEl (ys1537.getD 1 default) (ys1537.getD 0 default) 3 [(AV.at (ys1537.getD 1 default) (ys1537.getD 0 default) 2)]) (ys1537.getD 0 default) 3) (AV.bin Go.BinOp.add (AV.at (AV.setEl (ys1537.getD 1 default) (ys1537.getD 0 default) 3 [(AV.at (ys1537.getD 1 default) (ys1537.getD 0 default) 2)]) (AV.bin Go.BinOp.sub (ys1537.getD 0 default) (AV.int 1)) 3) x2))]) (ys1537.getD 0 default) 3) (AV.int 200000))) →
                  ((AV.binOk Go.BinOp.add (ys1537.getD 0 default) (AV.int 1)) ∧
                  (again1537 [(AV.bin Go.BinOp.add (ys1537.getD 0 default) (AV.int 1)), (AV.setEl (AV.setEl (ys1537.getD 1 default) (ys1537.getD 0 default) 3 [(AV.at (ys1537.getD 1 default) (ys1537.getD 0 default) 2)]) (ys1537.getD 0 default) 3 [(AV.mx (AV.at (AV.setEl (ys1537.getD 1 default) (ys1537.getD 0 default) 3 [(AV.at (ys1537.getD 1 default) (ys1537.getD 0 default) 2)]) (ys1537.getD 0 default) 3) (AV.bin Go.BinOp.add (AV.at (AV.setEl (ys1537.getD 1 default) (ys1537.getD 0 default) 3 [(AV.at (ys1537.getD 1 default) (ys1537.getD 0 default) 2)]) (AV.bin Go.BinOp.sub (ys1537.getD 0 default) (AV.int 1)) 3) x2))])])))))))))))))))))))) ∧
              ((isF (AV.bin Go.BinOp.gtr (ys1537.getD 0 default) (AV.int 0))) →
                ((AV.inb (AV.setEl (ys1537.getD 1 default) (ys1537.getD 0 default) 3 [(AV.at (ys1537.getD 1 default) (ys1537.getD 0 default) 2)]) (ys1537.getD 0 default)) ∧
                ((AV.inb (AV.setEl (ys1537.getD 1 default) (ys1537.getD 0 default) 3 [(AV.at (ys1537.getD 1 default) (ys1537.getD 0 default) 2)]) (ys1537.getD 0 default)) ∧
                ((AV.binOk Go.BinOp.gtr (AV.at (AV.setEl (ys1537.getD 1 default) (ys1537.getD 0 default) 3 [(AV.at (ys1537.getD 1 default) (ys1537.getD 0 default) 2)]) (ys1537.getD 0 default) 3) (AV.int 200000)) ∧
                ((AV.isBool (AV.bin Go.BinOp.gtr (AV.at (AV.setEl (ys1537.getD 1 default) (ys1537.getD 0 default) 3 [(AV.at (ys1537.getD 1 default) (ys1537.getD 0 default) 2)]) (ys1537.getD 0 default) 3) (AV.int 200000))) ∧
                (((isT (AV.bin Go.BinOp.gtr (AV.at (AV.setEl (ys1537.getD 1 default) (ys1537.getD 0 default) 3 [(AV.at (ys1537.getD 1 default) (ys1537.getD 0 default) 2)]) (ys1537.getD 0 default) 3) (AV.int 200000))) →
                  ((AV.flatS (AV.mk 4 [])) ∧
                  ((AV.flat (AV.int 12)) ∧
                  (fSame (AV.tup [(AV.mk 4 []), (AV.int 12)]) r)))) ∧
                ((isF (AV.bin Go.BinOp.gtr (AV.at (AV.setEl (ys1537.getD 1 default) (ys1537.getD 0 default) 3 [(AV.at (ys1537.getD 1 default) (ys1537.getD 0 default) 2)]) (ys1537.getD 0 default) 3) (AV.int 200000))) →
                  ((AV.binOk Go.BinOp.add (ys1537.getD 0 default) (AV.int 1)) ∧
                  (again1537 [(AV.bin Go.BinOp.add (ys1537.getD 0 default) (AV.int 1)), (AV.setEl (ys1537.getD 1 default) (ys1537.getD 0 default) 3 [(AV.at (ys1537.getD 1 default) (ys1537.getD 0 default) 2)])])))))))))))))))))) ∧
            ((isF (AV.bin Go.BinOp.lss (ys1537.getD 0 default) (AV.len r1281))) →
              ((AV.flatS (ys1537.getD 1 default)) ∧
              ((AV.flat (AV.int 0)) ∧
              (fSame (AV.tup [(ys1537.getD 1 default), (AV.int 0)]) r))))))))))))))))))))))))))))))))) := by kernel_rfl
theorem late_form (x0 x1 x2 x3 r : AV) : fnF Try.prog Γ ann 3 40 Try.f40 (Try.f40.body.getD .skip) (.nil) [x0, x1, x2, x3] (.tup [.row 76 4 true, .sc]) r = ((∃ r321 : AV, ((Fn Try.prog 39 [x0, x1, x2] (Sh.tup [(Sh.row 76 4 true), Sh.sc]) r321) ∧
((AV.binOk Go.BinOp.neq (AV.prj r321 1) (AV.int 0)) ∧
((AV.isBool (AV.bin Go.BinOp.neq (AV.prj r321 1) (AV.int 0))) ∧
(((isT (AV.bin Go.BinOp.neq (AV.prj r321 1) (AV.int 0))) →
  ((AV.flatS (AV.mk 4 [])) ∧
  ((AV.flat (AV.prj r321 1)) ∧
  (fSame (AV.tup [(AV.mk 4 []), (AV.prj r321 1)]) r)))) ∧
((isF (AV.bin Go.BinOp.neq (AV.prj r321 1) (AV.int 0))) →
  ((AV.binOk Go.BinOp.lss x3 (AV.int 0)) ∧
  ((AV.isBool (AV.bin Go.BinOp.lss x3 (AV.int 0))) ∧
  (((isT (AV.bin Go.BinOp.lss x3 (AV.int 0))) →
    ((AV.isBool (AV.bin Go.BinOp.lss x3 (AV.int 0))) ∧
    ((isT (AV.bin Go.BinOp.lss x3 (AV.int 0))) ∧
    ((AV.flatS (AV.mk 4 [])) ∧
    ((AV.flat (AV.int 4)) ∧
    (fSame (AV.tup [(AV.mk 4 []), (AV.int 4)]) r)))))) ∧
  ((isF (AV.bin Go.BinOp.lss x3 (AV.int 0))) →
    ((AV.binOk Go.BinOp.gtr x3 (AV.int 1800)) ∧
    ((AV.isBool (AV.bin Go.BinOp.lss x3 (AV.int 0))) ∧
    ((isF (AV.bin Go.BinOp.lss x3 (AV.int 0))) ∧
    ((AV.isBool (AV.bin Go.BinOp.gtr x3 (AV.int 1800))) ∧
    (((isT (AV.bin Go.BinOp.gtr x3 (AV.int 1800))) →
      ((AV.flatS (AV.mk 4 [])) ∧
      ((AV.flat (AV.int 4)) ∧
      (fSame (AV.tup [(AV.mk 4 []), (AV.int 4)]) r)))) ∧
    ((isF (AV.bin Go.BinOp.gtr x3 (AV.int 1800))) →
      (fLoop 1409 [(AV.int 0), (AV.prj r321 0)] fun ys1409 again1409 =>
        ((AV.binOk Go.BinOp.lss (ys1409.getD 0 default) (AV.len (AV.prj r321 0))) ∧
        ((AV.isBool (AV.bin Go.BinOp.lss (ys1409.getD 0 default) (AV.len (AV.prj r321 0)))) ∧
        (((isT (AV.bin Go.BinOp.lss (ys1409.getD 0 default) (AV.len (AV.prj r321 0)))) →
          ((AV.inb (ys1409.getD 1 default) (ys1409.getD 0 default)) ∧
          ((AV.inb (ys1409.getD 1 default) (ys1409.getD 0 default)) ∧
          ((AV.inb (ys1409.getD 1 default) (ys1409.getD 0 default)) ∧
          ((AV.inb (ys1409.getD 1 default) (ys1409.getD 0 default)) ∧
          ((AV.binOk Go.BinOp.sub (AV.at (ys1409.getD 1 default) (ys1409.getD 0 default) 3) (AV.at (ys1409.getD 1 default) (ys1409.getD 0 default) 2)) ∧
          ((AV.binOk Go.BinOp.sub (AV.bin Go.BinOp.sub (AV.at (ys1409.getD 1 default) (ys1409.getD 0 default) 3) (AV.at (ys1409.getD 1 default) (ys1409.getD 0 default) 2)) x3) ∧
          ((AV.binOk Go.BinOp.gtr (AV.bin Go.BinOp.sub (AV.bin Go.BinOp.sub (AV.at (ys1409.getD 1 default) (ys1409.getD 0 default) 3) (AV.at (ys1409.getD 1 default) (ys1409.getD 0 default) 2)) x3) (AV.int 0)) ∧
          ((AV.isBool (AV.bin Go.BinOp.gtr (AV.bin Go.BinOp.sub (AV.bin Go.BinOp.sub (AV.at (ys1409.getD 1 default) (ys1409.getD 0 default) 3) (AV.at (ys1409.getD 1 default) (ys1409.getD 0 default) 2)) x3) (AV.int 0))) ∧
          (((isT (AV.bin Go.BinOp.gtr (AV.bin Go.BinOp.sub (AV.bin Go.BinOp.sub (AV.at (ys1409.getD 1 default) (ys1409.getD 0 default) 3) (AV.at (ys1409.getD 1 default) (ys1409.getD 0 default) 2)) x3) (AV.int 0))) →
            ((AV.inb (ys1409.getD 1 default) (ys1409.getD 0 default)) ∧
            ((AV.inb (ys1409.getD 1 default) (ys1409.getD 0 default)) ∧
            ((AV.binOk Go.BinOp.add (AV.at (ys1409.getD 1 default) (ys1409.getD 0 default) 1) (AV.bin Go.BinOp.sub (AV.bin Go.BinOp.sub (AV.at (ys1409.getD 1 default) (ys1409.getD 0 default) 3) (AV.at (ys1409.getD 1 default) (ys1409.getD 0 default) 2)) x3)) ∧
            ((AV.inb (ys1409.getD 1 default) (ys1409.getD 0 default)) ∧
            ((AV.isOne (AV.bin Go.BinOp.add (AV.at (ys1409.getD 1 default) (ys1409.getD 0 default) 1) (AV.bin Go.BinOp.sub (AV.bin Go.BinOp.sub (AV.at (ys1409.getD 1 default) (ys1409.getD 0 default) 3) (AV.at (ys1409.getD 1 default) (ys1409.getD 0 default) 2)) x3))) ∧
            ((AV.inb (ys1409.getD 1 default) (ys1409.getD 0 default)) ∧
            ((AV.inb (AV.setEl (ys1409.getD 1 default) (ys1409.getD 0 default) 1 [(AV.bin Go.BinOp.add (AV.at (ys1409.getD 1 default) (ys1409.getD 0 default) 1) (AV.bin Go.BinOp.sub (AV.bin Go.BinOp.sub (AV.at (ys1409.getD 1 default) (ys1409.getD 0 default) 3) (AV.at (ys1409.getD 1 default) (ys1409.getD 0 default) 2)) x3))]) (ys1409.getD 0 default)) ∧
            ((AV.inb (AV.setEl (ys1409.getD 1 default) (ys1409.getD 0 default) 1 [(AV.bin Go.BinOp.add (AV.at (ys1409.getD 1 default) (ys1409.getD 0 default) 1) (AV.bin Go.BinOp.sub (AV.bin Go.BinOp.sub (AV.at (ys1409.getD 1 default) (ys1409.getD 0 default) 3) (AV.at (ys1409.getD 1 default) (ys1409.getD 0 default) 2)) x3))]) (ys1409.getD 0 default)) ∧
            ((AV.binOk Go.BinOp.add (AV.at (AV.setEl (ys1409.getD 1 default) (ys1409.getD 0 default) 1 [(AV.bin Go.BinOp.add (AV.at (ys1409.getD 1 default) (ys1409.getD 0 default) 1) (AV.bin Go.BinOp.sub (AV.bin Go.BinOp.sub (AV.at (ys1409.getD 1 default) (ys1409.getD 0 default) 3) (AV.at (ys1409.getD 1 default) (ys1409.getD 0 default) 2)) x3))]) (ys1409.getD 0 default) 2) (AV.bin Go.BinOp.sub (AV.bin Go.BinOp.sub (AV.at (ys1409.getD 1 default) (ys1409.getD 0 default) 3) (AV.at (ys1409.getD 1 default) (ys1409.getD 0 default) 2)) x3)) ∧
            ((AV.inb (AV.setEl (ys1409.getD 1 default) (ys1409.getD 0 default) 1 [(AV.bin Go.BinOp.add (AV.at (ys1409.getD 1 default) (ys1409.getD 0 default) 1) (AV.bin Go.BinOp.sub (AV.bin Go.BinOp.sub (AV.at (ys1409.getD 1 default) (ys1409.getD 0 default) 3) (AV.at (ys1409.getD 1 default) (ys1409.getD 0 default) 2)) x3))]) (ys1409.getD 0 default)) ∧
            ((AV.isOne (AV.bin Go.BinOp.add (AV.at (AV.setEl (ys1409.getD 1 default) (ys1409.getD 0 default) 1 [(AV.bin Go.BinOp.add (AV.at (ys1409.getD 1 default) (ys1409.getD 0 default) 1) (AV.bin Go.BinOp.sub (AV.bin Go.BinOp.sub (AV.at (ys1409.getD 1 default) (ys1409.getD 0 default) 3) (AV.at (ys1409.getD 1 default) (ys1409.getD 0 default) 2)) x3))]) (ys1409.getD 0 default) 2) (AV.bin Go.BinOp.sub (AV.bin Go.BinOp.sub (AV.at (ys1409.getD 1 default) (ys1409.getD 0 default) 3) (AV.at (ys1409.getD 1 default) (ys1409.getD 0 default) 2)) x3))) ∧
            ((AV.inb (AV.setEl (ys1409.getD 1 default) (ys1409.getD 0 default) 1 [(AV.bin Go.BinOp.add (AV.at (ys1409.getD 1 default) (ys1409.getD 0 default) 1) (AV.bin Go.BinOp.sub (AV.bin Go.BinOp.sub (AV.at (ys1409.getD 1 default) (ys1409.getD 0 default) 3) (AV.at (ys1409.getD 1 default) (ys1409.getD 0 default) 2)) x3))]) (ys1409.getD 0 default)) ∧
            ((AV.binOk Go.BinOp.add (ys1409.getD 0 default) (AV.int 1)) ∧
            (again1409 [(AV.bin Go.BinOp.add (ys1409.getD 0 default) (AV.int 1)), (AV.setEl (AV.setEl (ys1409.getD 1 default) (ys1409.getD 0 default) 1 [(AV.bin Go.BinOp.add (AV.at (ys1409.getD 1 default) (ys1409.getD 0 default) 1) (AV.bin Go.BinOp.sub (AV.bin Go.BinOp.sub (AV.at (ys1409.getD 1 default) (ys1409.getD 0 default) 3) (AV.at (ys1409.getD 1 default) (ys1409.getD 0 default) 2)) x3))]) (ys1409.getD 0 default) 2 [(AV.bin Go.BinOp.add (AV.at (AV.setEl (ys1409.getD 1 default) (ys1409.getD 0 default) 1 [(AV.bin Go.BinOp.add (AV.at (ys1409.getD 1 default) (ys1409.getD 0 default) 1) (AV.bin Go.BinOp.sub (AV.bin Go.BinOp.sub (AV.at (ys1409.getD 1 default) (ys1409.getD 0 default) 3) (AV.at (ys1409.getD 1 default) (ys1409.getD 0 default) 2)) x3))]) (ys1409.getD 0 default) 2) (AV.bin Go.BinOp.sub (AV.bin Go.BinOp.sub (AV.at (ys1409.getD 1 default) (ys1409.getD 0 default) 3) (AV.at (ys1409.getD 1 default) (ys1409.getD 0 default) 2)) x3))])]))))))))))))))) ∧
          ((isF (AV.bin Go.BinOp.gtr (AV.bin Go.BinOp.sub (AV.bin Go.BinOp.sub (AV.at (ys1409.getD 1 default) (ys1409.getD 0 default) 3) (AV.at (ys1409.getD 1 default) (ys1409.getD 0 default) 2)) x3) (AV.int 0))) →
            ((AV.binOk Go.BinOp.add (ys1409.getD 0 default) (AV.int 1)) ∧
            (again1409 [(AV.bin Go.BinOp.add (ys1409.getD 0 default) (AV.int 1)), (ys1409.getD 1 default)]))))))))))))) ∧
        ((isF (AV.bin Go.BinOp.lss (ys1409.getD 0 default) (AV.len (AV.prj r321 0)))) →
          ((AV.flatS (ys1409.getD 1 default)) ∧
          ((AV.flat (AV.int 0)) ∧
          (fSame (AV.tup [(ys1409.getD 1 default), (AV.int 0)]) r))))))))))))))))))))))))) := by kernel_rfl
theorem waiting_form (x0 x1 r : AV) : fnF Try.prog Γ ann 3 49 Try.f49 (Try.f49.body.getD .skip) (.nil) [x0, x1] (.sc) r = (((AV.isSl x0 4) ∧
(fLoop 321 [(AV.int 0), (AV.int 0)] fun ys321 again321 =>
  ((AV.binOk Go.BinOp.lss (ys321.getD 1 default) (AV.len x0)) ∧
  ((AV.isBool (AV.bin Go.BinOp.lss (ys321.getD 1 default) (AV.len x0))) ∧
  (((isT (AV.bin Go.BinOp.lss (ys321.getD 1 default) (AV.len x0))) →
    ((AV.isSl x0 4) ∧
    ((AV.inb x0 (ys321.getD 1 default)) ∧
    ((AV.isAgg (AV.atAgg x0 (ys321.getD 1 default) 0 4) 4) ∧
    ((AV.binOk Go.BinOp.geq x1 (AV.cel (AV.atAgg x0 (ys321.getD 1 default) 0 4) 2)) ∧
    ((AV.isBool (AV.bin Go.BinOp.geq x1 (AV.cel (AV.atAgg x0 (ys321.getD 1 default) 0 4) 2))) ∧
    (((isT (AV.bin Go.BinOp.geq x1 (AV.cel (AV.atAgg x0 (ys321.getD 1 default) 0 4) 2))) →
      ((AV.binOk Go.BinOp.lss x1 (AV.cel (AV.atAgg x0 (ys321.getD 1 default) 0 4) 3)) ∧
      ((AV.isBool (AV.bin Go.BinOp.geq x1 (AV.cel (AV.atAgg x0 (ys321.getD 1 default) 0 4) 2))) ∧
      ((isT (AV.bin Go.BinOp.geq x1 (AV.cel (AV.atAgg x0 (ys321.getD 1 default) 0 4) 2))) ∧
      ((AV.isBool (AV.bin Go.BinOp.lss x1 (AV.cel (AV.atAgg x0 (ys321.getD 1 default) 0 4) 3))) ∧
      (((isT (AV.bin Go.BinOp.lss x1 (AV.cel (AV.atAgg x0 (ys321.getD 1 default) 0 4) 3))) →
        ((AV.binOk Go.BinOp.add (ys321.getD 0 default) (AV.int 1)) ∧
        ((AV.binOk Go.BinOp.add (ys321.getD 1 default) (AV.int 1)) ∧
        (again321 [(AV.bin Go.BinOp.add (ys321.getD 0 default) (AV.int 1)), (AV.bin Go.BinOp.add (ys321.getD 1 default) (AV.int 1))])))) ∧
      ((isF (AV.bin Go.BinOp.lss x1 (AV.cel (AV.atAgg x0 (ys321.getD 1 default) 0 4) 3))) →
        ((AV.binOk Go.BinOp.add (ys321.getD 1 default) (AV.int 1)) ∧
        (again321 [(ys321.getD 0 default), (AV.bin Go.BinOp.add (ys321.getD 1 default) (AV.int 1))]))))))))) ∧
    ((isF (AV.bin Go.BinOp.geq x1 (AV.cel (AV.atAgg x0 (ys321.getD 1 default) 0 4) 2))) →
      ((AV.isBool (AV.bin Go.BinOp.geq x1 (AV.cel (AV.atAgg x0 (ys321.getD 1 default) 0 4) 2))) ∧
      ((isF (AV.bin Go.BinOp.geq x1 (AV.cel (AV.atAgg x0 (ys321.getD 1 default) 0 4) 2))) ∧
      ((AV.binOk Go.BinOp.add (ys321.getD 1 default) (AV.int 1)) ∧
      (again321 [(ys321.getD 0 default), (AV.bin Go.BinOp.add (ys321.getD 1 default) (AV.int 1))])))))))))))) ∧
  ((isF (AV.bin Go.BinOp.lss (ys321.getD 1 default) (AV.len x0))) →
    ((AV.flat (ys321.getD 0 default)) ∧
    (fSame (ys321.getD 0 default) r))))))))) := by kernel_rfl
theorem most_form (x0 r : AV) : fnF Try.prog Γ ann 3 48 Try.f48 (Try.f48.body.getD .skip) (.nil) [x0] (.tup [.sc, .sc]) r = (((AV.isSl x0 4) ∧
(fLoop 449 [(AV.int 0), (AV.int 0), (AV.int 0)] fun ys449 again449 =>
  ((AV.binOk Go.BinOp.lss (ys449.getD 2 default) (AV.len x0)) ∧
  ((AV.isBool (AV.bin Go.BinOp.lss (ys449.getD 2 default) (AV.len x0))) ∧
  (((isT (AV.bin Go.BinOp.lss (ys449.getD 2 default) (AV.len x0))) →
    ((AV.isSl x0 4) ∧
    ((AV.inb x0 (ys449.getD 2 default)) ∧
    ((AV.isAgg (AV.atAgg x0 (ys449.getD 2 default) 0 4) 4) ∧
    (∃ r961 : AV, ((Fn Try.prog 49 [x0, (AV.cel (AV.atAgg x0 (ys449.getD 2 default) 0 4) 2)] Sh.sc r961) ∧
    ((AV.binOk Go.BinOp.gtr r961 (ys449.getD 0 default)) ∧
    ((AV.isBool (AV.bin Go.BinOp.gtr r961 (ys449.getD 0 default))) ∧
    (((isT (AV.bin Go.BinOp.gtr r961 (ys449.getD 0 default))) →
      ((AV.isBool (AV.bin Go.BinOp.gtr r961 (ys449.getD 0 default))) ∧
      ((isT (AV.bin Go.BinOp.gtr r961 (ys449.getD 0 default))) ∧
      ((AV.binOk Go.BinOp.add (ys449.getD 2 default) (AV.int 1)) ∧
      (again449 [r961, (AV.cel (AV.atAgg x0 (ys449.getD 2 default) 0 4) 2), (AV.bin Go.BinOp.add (ys449.getD 2 default) (AV.int 1))]))))) ∧
    ((isF (AV.bin Go.BinOp.gtr r961 (ys449.getD 0 default))) →
      ((AV.binOk Go.BinOp.eql r961 (ys449.getD 0 default)) ∧
      ((AV.isBool (AV.bin Go.BinOp.eql r961 (ys449.getD 0 default))) ∧
      (((isT (AV.bin Go.BinOp.eql r961 (ys449.getD 0 default))) →
        ((AV.binOk Go.BinOp.gtr r961 (AV.int 0)) ∧
        ((AV.isBool (AV.bin Go.BinOp.eql r961 (ys449.getD 0 default))) ∧
        ((isT (AV.bin Go.BinOp.eql r961 (ys449.getD 0 default))) ∧
        ((AV.isBool (AV.bin Go.BinOp.gtr r961 (AV.int 0))) ∧
        (((isT (AV.bin Go.BinOp.gtr r961 (AV.int 0))) →
          ((AV.binOk Go.BinOp.lss (AV.cel (AV.atAgg x0 (ys449.getD 2 default) 0 4) 2) (ys449.getD 1 default)) ∧
          ((AV.isBool (AV.bin Go.BinOp.gtr r961 (AV.int 0))) ∧
          ((isT (AV.bin Go.BinOp.gtr r961 (AV.int 0))) ∧
          ((AV.isBool (AV.bin Go.BinOp.gtr r961 (ys449.getD 0 default))) ∧
          ((isF (AV.bin Go.BinOp.gtr r961 (ys449.getD 0 default))) ∧
          ((AV.isBool (AV.bin Go.BinOp.lss (AV.cel (AV.atAgg x0 (ys449.getD 2 default) 0 4) 2) (ys449.getD 1 default))) ∧
          (((isT (AV.bin Go.BinOp.lss (AV.cel (AV.atAgg x0 (ys449.getD 2 default) 0 4) 2) (ys449.getD 1 default))) →
            ((AV.binOk Go.BinOp.add (ys449.getD 2 default) (AV.int 1)) ∧
            (again449 [r961, (AV.cel (AV.atAgg x0 (ys449.getD 2 default) 0 4) 2), (AV.bin Go.BinOp.add (ys449.getD 2 default) (AV.int 1))]))) ∧
          ((isF (AV.bin Go.BinOp.lss (AV.cel (AV.atAgg x0 (ys449.getD 2 default) 0 4) 2) (ys449.getD 1 default))) →
            ((AV.binOk Go.BinOp.add (ys449.getD 2 default) (AV.int 1)) ∧
            (again449 [(ys449.getD 0 default), (ys449.getD 1 default), (AV.bin Go.BinOp.add (ys449.getD 2 default) (AV.int 1))]))))))))))) ∧
        ((isF (AV.bin Go.BinOp.gtr r961 (AV.int 0))) →
          ((AV.isBool (AV.bin Go.BinOp.gtr r961 (AV.int 0))) ∧
          ((isF (AV.bin Go.BinOp.gtr r961 (AV.int 0))) ∧
          ((AV.isBool (AV.bin Go.BinOp.gtr r961 (ys449.getD 0 default))) ∧
          ((isF (AV.bin Go.BinOp.gtr r961 (ys449.getD 0 default))) ∧
          ((AV.binOk Go.BinOp.add (ys449.getD 2 default) (AV.int 1)) ∧
          (again449 [(ys449.getD 0 default), (ys449.getD 1 default), (AV.bin Go.BinOp.add (ys449.getD 2 default) (AV.int 1))]))))))))))))) ∧
      ((isF (AV.bin Go.BinOp.eql r961 (ys449.getD 0 default))) →
        ((AV.isBool (AV.bin Go.BinOp.eql r961 (ys449.getD 0 default))) ∧
        ((isF (AV.bin Go.BinOp.eql r961 (ys449.getD 0 default))) ∧
        ((AV.isBool (AV.bin Go.BinOp.gtr r961 (ys449.getD 0 default))) ∧
        ((isF (AV.bin Go.BinOp.gtr r961 (ys449.getD 0 default))) ∧
        ((AV.binOk Go.BinOp.add (ys449.getD 2 default) (AV.int 1)) ∧
        (again449 [(ys449.getD 0 default), (ys449.getD 1 default), (AV.bin Go.BinOp.add (ys449.getD 2 default) (AV.int 1))])))))))))))))))))))) ∧
  ((isF (AV.bin Go.BinOp.lss (ys449.getD 2 default) (AV.len x0))) →
    ((AV.flat (ys449.getD 0 default)) ∧
    ((AV.flat (ys449.getD 1 default)) ∧
    (fSame (AV.tup [(ys449.getD 0 default), (ys449.getD 1 default)]) r)))))))))) := by kernel_rfl
theorem serr_form (x0 r : AV) : fnF Try.prog Γ ann 3 43 Try.f43 (Try.f43.body.getD .skip) (.nil) [x0] (.sc) r = (((AV.isSl x0 2) ∧
((AV.binOk Go.BinOp.gtr (AV.len x0) (AV.int 16)) ∧
((AV.isBool (AV.bin Go.BinOp.gtr (AV.len x0) (AV.int 16))) ∧
(((isT (AV.bin Go.BinOp.gtr (AV.len x0) (AV.int 16))) →
  ((AV.flat (AV.int 2)) ∧
  (fSame (AV.int 2) r))) ∧
((isF (AV.bin Go.BinOp.gtr (AV.len x0) (AV.int 16))) →
  ((AV.isSl x0 2) ∧
  (fLoop 449 [(AV.int 0)] fun ys449 again449 =>
    ((AV.binOk Go.BinOp.lss (ys449.getD 0 default) (AV.len x0)) ∧
    ((AV.isBool (AV.bin Go.BinOp.lss (ys449.getD 0 default) (AV.len x0))) ∧
    (((isT (AV.bin Go.BinOp.lss (ys449.getD 0 default) (AV.len x0))) →
      ((AV.isSl x0 2) ∧
      ((AV.inb x0 (ys449.getD 0 default)) ∧
      ((AV.isAgg (AV.atAgg x0 (ys449.getD 0 default) 0 2) 2) ∧
      (∃ r1025 : AV, ((Fn Try.prog 55 [(AV.cel (AV.atAgg x0 (ys449.getD 0 default) 0 2) 0)] Sh.sc r1025) ∧
      ((AV.unOk Go.UnOp.not r1025) ∧
      ((AV.isBool (AV.un Go.UnOp.not r1025)) ∧
      (((isT (AV.un Go.UnOp.not r1025)) →
        ((AV.flat (AV.int 3)) ∧
        (fSame (AV.int 3) r))) ∧
      ((isF (AV.un Go.UnOp.not r1025)) →
        ((AV.binOk Go.BinOp.lss (AV.cel (AV.atAgg x0 (ys449.getD 0 default) 0 2) 1) (AV.int 0)) ∧
        ((AV.isBool (AV.bin Go.BinOp.lss (AV.cel (AV.atAgg x0 (ys449.getD 0 default) 0 2) 1) (AV.int 0))) ∧
        (((isT (AV.bin Go.BinOp.lss (AV.cel (AV.atAgg x0 (ys449.getD 0 default) 0 2) 1) (AV.int 0))) →
          ((AV.isBool (AV.bin Go.BinOp.lss (AV.cel (AV.atAgg x0 (ys449.getD 0 default) 0 2) 1) (AV.int 0))) ∧
          ((isT (AV.bin Go.BinOp.lss (AV.cel (AV.atAgg x0 (ys449.getD 0 default) 0 2) 1) (AV.int 0))) ∧
          ((AV.flat (AV.int 4)) ∧
          (fSame (AV.int 4) r))))) ∧
        ((isF (AV.bin Go.BinOp.lss (AV.cel (AV.atAgg x0 (ys449.getD 0 default) 0 2) 1) (AV.int 0))) →
          ((AV.binOk Go.BinOp.gtr (AV.cel (AV.atAgg x0 (ys449.getD 0 default) 0 2) 1) (AV.int 1800)) ∧
          ((AV.isBool (AV.bin Go.BinOp.lss (AV.cel (AV.atAgg x0 (ys449.getD 0 default) 0 2) 1) (AV.int 0))) ∧
          ((isF (AV.bin Go.BinOp.lss (AV.cel (AV.atAgg x0 (ys449.getD 0 default) 0 2) 1) (AV.int 0))) ∧
          ((AV.isBool (AV.bin Go.BinOp.gtr (AV.cel (AV.atAgg x0 (ys449.getD 0 default) 0 2) 1) (AV.int 1800))) ∧
          (((isT (AV.bin Go.BinOp.gtr (AV.cel (AV.atAgg x0 (ys449.getD 0 default) 0 2) 1) (AV.int 1800))) →
            ((AV.flat (AV.int 4)) ∧
            (fSame (AV.int 4) r))) ∧
          ((isF (AV.bin Go.BinOp.gtr (AV.cel (AV.atAgg x0 (ys449.getD 0 default) 0 2) 1) (AV.int 1800))) →
            ((AV.isSl x0 2) ∧
            ((AV.subOk x0 (AV.int 0) (ys449.getD 0 default)) ∧
            (∃ r1985 : AV, ((Fn Try.prog 97 [(AV.sub 2 x0 (AV.int 0) (ys449.getD 0 default)), (AV.cel (AV.atAgg x0 (ys449.getD 0 default) 0 2) 0)] Sh.sc r1985) ∧
            ((AV.binOk Go.BinOp.geq r1985 (AV.int 0)) ∧
            ((AV.isBool (AV.bin Go.BinOp.geq r1985 (AV.int 0))) ∧
            (((isT (AV.bin Go.BinOp.geq r1985 (AV.int 0))) →
              ((AV.flat (AV.int 7)) ∧
              (fSame (AV.int 7) r))) ∧
            ((isF (AV.bin Go.BinOp.geq r1985 (AV.int 0))) →
              ((AV.binOk Go.BinOp.add (ys449.getD 0 default) (AV.int 1)) ∧
              (again449 [(AV.bin Go.BinOp.add (ys449.getD 0 default) (AV.int 1))])))))))))))))))))))))))))))))) ∧
    ((isF (AV.bin Go.BinOp.lss (ys449.getD 0 default) (AV.len x0))) →
      ((AV.flat (AV.int 0)) ∧
      (fSame (AV.int 0) r)))))))))))))) := by kernel_rfl
theorem standat_form (x0 x1 r : AV) : fnF Try.prog Γ ann 3 97 Try.f97 (Try.f97.body.getD .skip) (.nil) [x0, x1] (.sc) r = (((AV.isSl x0 2) ∧
(fLoop 257 [(AV.int 0)] fun ys257 again257 =>
  ((AV.binOk Go.BinOp.lss (ys257.getD 0 default) (AV.len x0)) ∧
  ((AV.isBool (AV.bin Go.BinOp.lss (ys257.getD 0 default) (AV.len x0))) ∧
  (((isT (AV.bin Go.BinOp.lss (ys257.getD 0 default) (AV.len x0))) →
    ((AV.isSl x0 2) ∧
    ((AV.inb x0 (ys257.getD 0 default)) ∧
    ((AV.isAgg (AV.atAgg x0 (ys257.getD 0 default) 0 2) 2) ∧
    ((AV.binOk Go.BinOp.eql (AV.cel (AV.atAgg x0 (ys257.getD 0 default) 0 2) 0) x1) ∧
    ((AV.isBool (AV.bin Go.BinOp.eql (AV.cel (AV.atAgg x0 (ys257.getD 0 default) 0 2) 0) x1)) ∧
    (((isT (AV.bin Go.BinOp.eql (AV.cel (AV.atAgg x0 (ys257.getD 0 default) 0 2) 0) x1)) →
      ((AV.flat (ys257.getD 0 default)) ∧
      (fSame (ys257.getD 0 default) r))) ∧
    ((isF (AV.bin Go.BinOp.eql (AV.cel (AV.atAgg x0 (ys257.getD 0 default) 0 2) 0) x1)) →
      ((AV.binOk Go.BinOp.add (ys257.getD 0 default) (AV.int 1)) ∧
      (again257 [(AV.bin Go.BinOp.add (ys257.getD 0 default) (AV.int 1))])))))))))) ∧
  ((isF (AV.bin Go.BinOp.lss (ys257.getD 0 default) (AV.len x0))) →
    ((AV.flat (AV.int (-1))) ∧
    (fSame (AV.int (-1)) r))))))))) := by kernel_rfl
theorem aerr_form (x0 x1 r : AV) : fnF Try.prog Γ ann 3 41 Try.f41 (Try.f41.body.getD .skip) (.nil) [x0, x1] (.sc) r = ((∃ r129 : AV, ((Fn Try.prog 43 [x0] Sh.sc r129) ∧
((AV.binOk Go.BinOp.neq r129 (AV.int 0)) ∧
((AV.isBool (AV.bin Go.BinOp.neq r129 (AV.int 0))) ∧
(((isT (AV.bin Go.BinOp.neq r129 (AV.int 0))) →
  ((AV.flat r129) ∧
  (fSame r129 r))) ∧
((isF (AV.bin Go.BinOp.neq r129 (AV.int 0))) →
  ((AV.isSl x1 3) ∧
  ((AV.binOk Go.BinOp.gtr (AV.len x1) (AV.int 16)) ∧
  ((AV.isBool (AV.bin Go.BinOp.gtr (AV.len x1) (AV.int 16))) ∧
  (((isT (AV.bin Go.BinOp.gtr (AV.len x1) (AV.int 16))) →
    ((AV.flat (AV.int 2)) ∧
    (fSame (AV.int 2) r))) ∧
  ((isF (AV.bin Go.BinOp.gtr (AV.len x1) (AV.int 16))) →
    ((AV.isSl x1 3) ∧
    (fLoop 769 [(AV.int 0)] fun ys769 again769 =>
      ((AV.binOk Go.BinOp.lss (ys769.getD 0 default) (AV.len x1)) ∧
      ((AV.isBool (AV.bin Go.BinOp.lss (ys769.getD 0 default) (AV.len x1))) ∧
      (((isT (AV.bin Go.BinOp.lss (ys769.getD 0 default) (AV.len x1))) →
        ((AV.isSl x1 3) ∧
        ((AV.inb x1 (ys769.getD 0 default)) ∧
        ((AV.isAgg (AV.atAgg x1 (ys769.getD 0 default) 0 3) 3) ∧
        (∃ r1345 : AV, ((Fn Try.prog 55 [(AV.cel (AV.atAgg x1 (ys769.getD 0 default) 0 3) 0)] Sh.sc r1345) ∧
        ((AV.unOk Go.UnOp.not r1345) ∧
        ((AV.isBool (AV.un Go.UnOp.not r1345)) ∧
        (((isT (AV.un Go.UnOp.not r1345)) →
          ((AV.flat (AV.int 3)) ∧
          (fSame (AV.int 3) r))) ∧
        ((isF (AV.un Go.UnOp.not r1345)) →
          (∃ r1665 : AV, ((Fn Try.prog 97 [x0, (AV.cel (AV.atAgg x1 (ys769.getD 0 default) 0 3) 1)] Sh.sc r1665) ∧
          ((AV.binOk Go.BinOp.lss r1665 (AV.int 0)) ∧
          ((AV.isBool (AV.bin Go.BinOp.lss r1665 (AV.int 0))) ∧
          (((isT (AV.bin Go.BinOp.lss r1665 (AV.int 0))) →
            ((AV.flat (AV.int 6)) ∧
            (fSame (AV.int 6) r))) ∧
          ((isF (AV.bin Go.BinOp.lss r1665 (AV.int 0))) →
            ((AV.binOk Go.BinOp.lss (AV.cel (AV.atAgg x1 (ys769.getD 0 default) 0 3) 2) (AV.int 0)) ∧
            ((AV.isBool (AV.bin Go.BinOp.lss (AV.cel (AV.atAgg x1 (ys769.getD 0 default) 0 3) 2) (AV.int 0))) ∧
            (((isT (AV.bin Go.BinOp.lss (AV.cel (AV.atAgg x1 (ys769.getD 0 default) 0 3) 2) (AV.int 0))) →
              ((AV.isBool (AV.bin Go.BinOp.lss (AV.cel (AV.atAgg x1 (ys769.getD 0 default) 0 3) 2) (AV.int 0))) ∧
              ((isT (AV.bin Go.BinOp.lss (AV.cel (AV.atAgg x1 (ys769.getD 0 default) 0 3) 2) (AV.int 0))) ∧
              ((AV.flat (AV.int 12)) ∧
              (fSame (AV.int 12) r))))) ∧
            ((isF (AV.bin Go.BinOp.lss (AV.cel (AV.atAgg x1 (ys769.getD 0 default) 0 3) 2) (AV.int 0))) →
              ((AV.binOk Go.BinOp.gtr (AV.cel (AV.atAgg x1 (ys769.getD 0 default) 0 3) 2) (AV.int 200000)) ∧
              ((AV.isBool (AV.bin Go.BinOp.lss (AV.cel (AV.atAgg x1 (ys769.getD 0 default) 0 3) 2) (AV.int 0))) ∧
              ((isF (AV.bin Go.BinOp.lss (AV.cel (AV.atAgg x1 (ys769.getD 0 default) 0 3) 2) (AV.int 0))) ∧
              ((AV.isBool (AV.bin Go.BinOp.gtr (AV.cel (AV.atAgg x1 (ys769.getD 0 default) 0 3) 2) (AV.int 200000))) ∧
              (((isT (AV.bin Go.BinOp.gtr (AV.cel (AV.atAgg x1 (ys769.getD 0 default) 0 3) 2) (AV.int 200000))) →
                ((AV.flat (AV.int 12)) ∧
                (fSame (AV.int 12) r))) ∧
              ((isF (AV.bin Go.BinOp.gtr (AV.cel (AV.atAgg x1 (ys769.getD 0 default) 0 3) 2) (AV.int 200000))) →
                (fLoop 2369 [(AV.int 0)] fun ys2369 again2369 =>
                  ((AV.binOk Go.BinOp.lss (ys2369.getD 0 default) (ys769.getD 0 default)) ∧
                  ((AV.isBool (AV.bin Go.BinOp.lss (ys2369.getD 0 default) (ys769.getD 0 default))) ∧
                  (((isT (AV.bin Go.BinOp.lss (ys2369.getD 0 default) (ys769.getD 0 default))) →
                    ((AV.isSl x1 3) ∧
                    ((AV.inb x1 (ys2369.getD 0 default)) ∧
                    ((AV.binOk Go.BinOp.eql (AV.at x1 (ys2369.getD 0 default) 0) (AV.cel (AV.atAgg x1 (ys769.getD 0 default) 0 3) 0)) ∧
                    ((AV.isBool (AV.bin Go.BinOp.eql (AV.at x1 (ys2369.getD 0 default) 0) (AV.cel (AV.atAgg x1 (ys769.getD 0 default) 0 3) 0))) ∧
                    (((isT (AV.bin Go.BinOp.eql (AV.at x1 (ys2369.getD 0 default) 0) (AV.cel (AV.atAgg x1 (ys769.getD 0 default) 0 3) 0))) →
                      ((AV.flat (AV.int 7)) ∧
                      (fSame (AV.int 7) r))) ∧
                    ((isF (AV.bin Go.BinOp.eql (AV.at x1 (ys2369.getD 0 default) 0) (AV.cel (AV.atAgg x1 (ys769.getD 0 default) 0 3) 0))) →
                      ((AV.binOk Go.BinOp.add (ys2369.getD 0 default) (AV.int 1)) ∧
                      (again2369 [(AV.bin Go.BinOp.add (ys2369.getD 0 default) (AV.int 1))]))))))))) ∧
                  ((isF (AV.bin Go.BinOp.lss (ys2369.getD 0 default) (ys769.getD 0 default))) →
                    ((AV.binOk Go.BinOp.add (ys769.getD 0 default) (AV.int 1)) ∧
                    (again769 [(AV.bin Go.BinOp.add (ys769.getD 0 default) (AV.int 1))]))))))))))))))))))))))))))))))))) ∧
      ((isF (AV.bin Go.BinOp.lss (ys769.getD 0 default) (AV.len x1))) →
        ((AV.flat (AV.int 0)) ∧
        (fSame (AV.int 0) r)))))))))))))))))))) := by kernel_rfl
theorem hold_form (x0 x1 r : AV) : fnF Try.prog Γ ann 3 101 Try.f101 (Try.f101.body.getD .skip) (.nil) [x0, x1] (.sc) r = (((AV.isAgg x0 3) ∧
((AV.isRef x1 1) ∧
((AV.isRef x1 1) ∧
(∃ r513 : AV, ((Fn Try.prog 97 [(AV.der x1), (AV.cel x0 1)] Sh.sc r513) ∧
((AV.isSl (AV.der x1) 2) ∧
((AV.inb (AV.der x1) r513) ∧
((AV.binOk Go.BinOp.add (AV.cel x0 2) (AV.at (AV.der x1) r513 1)) ∧
((AV.flat (AV.bin Go.BinOp.add (AV.cel x0 2) (AV.at (AV.der x1) r513 1))) ∧
(fSame (AV.bin Go.BinOp.add (AV.cel x0 2) (AV.at (AV.der x1) r513 1)) r))))))))))) := by kernel_rfl
theorem queued_form (x0 x1 x2 r : AV) : fnF Try.prog Γ ann 3 45 Try.f45 (Try.f45.body.getD .skip) (.nil) [x0, x1, x2] (.row 76 4 true) r = (((AV.isOne x0) ∧
((AV.isSl x1 3) ∧
((AV.room (AV.mk 3 []) x1 40) ∧
(fLoop 449 [(AV.app 3 (AV.mk 3 []) x1), (AV.int 0), (AV.mk 4 [])] fun ys449 again449 =>
  ((AV.isSl (ys449.getD 0 default) 3) ∧
  ((AV.binOk Go.BinOp.gtr (AV.len (ys449.getD 0 default)) (AV.int 0)) ∧
  ((AV.isBool (AV.bin Go.BinOp.gtr (AV.len (ys449.getD 0 default)) (AV.int 0))) ∧
  (((isT (AV.bin Go.BinOp.gtr (AV.len (ys449.getD 0 default)) (AV.int 0))) →
    ((AV.isSl (ys449.getD 0 default) 3) ∧
    (fLoop 1025 [(AV.int 0), (AV.int 0)] fun ys1025 again1025 =>
      ((AV.binOk Go.BinOp.lss (ys1025.getD 1 default) (AV.len (ys449.getD 0 default))) ∧
      ((AV.isBool (AV.bin Go.BinOp.lss (ys1025.getD 1 default) (AV.len (ys449.getD 0 default)))) ∧
      (((isT (AV.bin Go.BinOp.lss (ys1025.getD 1 default) (AV.len (ys449.getD 0 default)))) →
        ((AV.isSl (ys449.getD 0 default) 3) ∧
        ((AV.inb (ys449.getD 0 default) (ys1025.getD 1 default)) ∧
        ((AV.isAgg (AV.atAgg (ys449.getD 0 default) (ys1025.getD 1 default) 0 3) 3) ∧
        (∃ r1601 : AV, ((Fn Try.prog 101 [(AV.agg [(AV.cel (AV.atAgg (ys449.getD 0 default) (ys1025.getD 1 default) 0 3) 0), (AV.cel (AV.atAgg (ys449.getD 0 default) (ys1025.getD 1 default) 0 3) 1), (AV.cel (AV.atAgg (ys449.getD 0 default) (ys1025.getD 1 default) 0 3) 2)]), (AV.mkRef [x0])] Sh.sc r1601) ∧
        ((AV.isSl (ys449.getD 0 default) 3) ∧
        ((AV.inb (ys449.getD 0 default) (ys1025.getD 0 default)) ∧
        (∃ r1985 : AV, ((Fn Try.prog 101 [(AV.atAgg (ys449.getD 0 default) (ys1025.getD 0 default) 0 3), (AV.mkRef [x0])] Sh.sc r1985) ∧
        ((AV.binOk Go.BinOp.lss r1601 r1985) ∧
        ((AV.isBool (AV.bin Go.BinOp.lss r1601 r1985)) ∧
        (((isT (AV.bin Go.BinOp.lss r1601 r1985)) →
          ((AV.isBool (AV.bin Go.BinOp.lss r1601 r1985)) ∧
          ((isT (AV.bin Go.BinOp.lss r1601 r1985)) ∧
          ((AV.binOk Go.BinOp.add (ys1025.getD 1 default) (AV.int 1)) ∧
          (again1025 [(ys1025.getD 1 default), (AV.bin Go.BinOp.add (ys1025.getD 1 default) (AV.int 1))]))))) ∧
        ((isF (AV.bin Go.BinOp.lss r1601 r1985)) →
          (∃ r2305 : AV, ((Fn Try.prog 101 [(AV.agg [(AV.cel (AV.atAgg (ys449.getD 0 default) (ys1025.getD 1 default) 0 3) 0), (AV.cel (AV.atAgg (ys449.getD 0 default) (ys1025.getD 1 default) 0 3) 1), (AV.cel (AV.atAgg (ys449.getD 0 default) (ys1025.getD 1 default) 0 3) 2)]), (AV.mkRef [x0])] Sh.sc r2305) ∧
          ((AV.isSl (ys449.getD 0 default) 3) ∧
          ((AV.inb (ys449.getD 0 default) (ys1025.getD 0 default)) ∧
          (∃ r2689 : AV, ((Fn Try.prog 101 [(AV.atAgg (ys449.getD 0 default) (ys1025.getD 0 default) 0 3), (AV.mkRef [x0])] Sh.sc r2689) ∧
          ((AV.binOk Go.BinOp.eql r2305 r2689) ∧
          ((AV.isBool (AV.bin Go.BinOp.eql r2305 r2689)) ∧
          (((isT (AV.bin Go.BinOp.eql r2305 r2689)) →
            ((AV.isSl (ys449.getD 0 default) 3) ∧
            ((AV.inb (ys449.getD 0 default) (ys1025.getD 0 default)) ∧
            ((AV.binOk Go.BinOp.lss (AV.cel (AV.atAgg (ys449.getD 0 default) (ys1025.getD 1 default) 0 3) 0) (AV.at (ys449.getD 0 default) (ys1025.getD 0 default) 0)) ∧
            ((AV.isBool (AV.bin Go.BinOp.eql r2305 r2689)) ∧
            ((isT (AV.bin Go.BinOp.eql r2305 r2689)) ∧
            ((AV.isBool (AV.bin Go.BinOp.lss r1601 r1985)) ∧
            ((isF (AV.bin Go.BinOp.lss r1601 r1985)) ∧
            ((AV.isBool (AV.bin Go.BinOp.lss (AV.cel (AV.atAgg (ys449.getD 0 default) (ys1025.getD 1 default) 0 3) 0) (AV.at (ys449.getD 0 default) (ys1025.getD 0 default) 0))) ∧
            (((isT (AV.bin Go.BinOp.lss (AV.cel (AV.atAgg (ys449.getD 0 default) (ys1025.getD 1 default) 0 3) 0) (AV.at (ys449.getD 0 default) (ys1025.getD 0 default) 0))) →
              ((AV.binOk Go.BinOp.add (ys1025.getD 1 default) (AV.int 1)) ∧
              (again1025 [(ys1025.getD 1 default), (AV.bin Go.BinOp.add (ys1025.getD 1 default) (AV.int 1))]))) ∧
            ((isF (AV.bin Go.BinOp.lss (AV.cel (AV.atAgg (ys449.getD 0 default) (ys1025.getD 1 default) 0 3) 0) (AV.at (ys449.getD 0 default) (ys1025.getD 0 default) 0))) →
              ((AV.binOk Go.BinOp.add (ys1025.getD 1 default) (AV.int 1)) ∧
              (again1025 [(ys1025.getD 0 default), (AV.bin Go.BinOp.add (ys1025.getD 1 default) (AV.int 1))]))))))))))))) ∧
          ((isF (AV.bin Go.BinOp.eql r2305 r2689)) →
            ((AV.isBool (AV.bin Go.BinOp.eql r2305 r2689)) ∧
            ((isF (AV.bin Go.BinOp.eql r2305 r2689)) ∧
            ((AV.isBool (AV.bin Go.BinOp.lss r1601 r1985)) ∧
            ((isF (AV.bin Go.BinOp.lss r1601 r1985)) ∧
            ((AV.binOk Go.BinOp.add (ys1025.getD 1 default) (AV.int 1)) ∧
            (again1025 [(ys1025.getD 0 default), (AV.bin Go.BinOp.add (ys1025.getD 1 default) (AV.int 1))])))))))))))))))))))))))))))))) ∧
      ((isF (AV.bin Go.BinOp.lss (ys1025.getD 1 default) (AV.len (ys449.getD 0 default)))) →
        ((AV.isSl (ys449.getD 0 default) 3) ∧
        ((AV.inb (ys449.getD 0 default) (ys1025.getD 0 default)) ∧
        ((AV.isAgg (AV.atAgg (ys449.getD 0 default) (ys1025.getD 0 default) 0 3) 3) ∧
        ((AV.isSl (ys449.getD 0 default) 3) ∧
        ((AV.subOk (ys449.getD 0 default) (AV.int 0) (ys1025.getD 0 default)) ∧
        ((AV.isSl (AV.sub 3 (ys449.getD 0 default) (AV.int 0) (ys1025.getD 0 default)) 3) ∧
        ((AV.room (AV.mk 3 []) (AV.sub 3 (ys449.getD 0 default) (AV.int 0) (ys1025.getD 0 default)) 40) ∧
        ((AV.binOk Go.BinOp.add (ys1025.getD 0 default) (AV.int 1)) ∧
        ((AV.isSl (ys449.getD 0 default) 3) ∧
        ((AV.subOk (ys449.getD 0 default) (AV.bin Go.BinOp.add (ys1025.getD 0 default) (AV.int 1)) (AV.len (ys449.getD 0 default))) ∧
        ((AV.isSl (AV.sub 3 (ys449.getD 0 default) (AV.bin Go.BinOp.add (ys1025.getD 0 default) (AV.int 1)) (AV.len (ys449.getD 0 default))) 3) ∧
        ((AV.room (AV.app 3 (AV.mk 3 []) (AV.sub 3 (ys449.getD 0 default) (AV.int 0) (ys1025.getD 0 default))) (AV.sub 3 (ys449.getD 0 default) (AV.bin Go.BinOp.add (ys1025.getD 0 default) (AV.int 1)) (AV.len (ys449.getD 0 default))) 40) ∧
        (∃ r2497 : AV, ((Fn Try.prog 101 [(AV.agg [(AV.cel (AV.atAgg (ys449.getD 0 default) (ys1025.getD 0 default) 0 3) 0), (AV.cel (AV.atAgg (ys449.getD 0 default) (ys1025.getD 0 default) 0 3) 1), (AV.cel (AV.atAgg (ys449.getD 0 default) (ys1025.getD 0 default) 0 3) 2)]), (AV.mkRef [x0])] Sh.sc r2497) ∧
        (∃ r2689 : AV, ((Fn Try.prog 101 [(AV.agg [(AV.cel (AV.atAgg (ys449.getD 0 default) (ys1025.getD 0 default) 0 3) 0), (AV.cel (AV.atAgg (ys449.getD 0 default) (ys1025.getD 0 default) 0 3) 1), (AV.cel (AV.atAgg (ys449.getD 0 default) (ys1025.getD 0 default) 0 3) 2)]), (AV.mkRef [x0])] Sh.sc r2689) ∧
        ((AV.isOne (AV.cel (AV.atAgg (ys449.getD 0 default) (ys1025.getD 0 default) 0 3) 0)) ∧
        ((AV.isOne (AV.cel (AV.atAgg (ys449.getD 0 default) (ys1025.getD 0 default) 0 3) 2)) ∧
        ((AV.isOne r2497) ∧
        ((AV.isOne r2689) ∧
        ((AV.binOk Go.BinOp.lss r2689 (ys449.getD 1 default)) ∧
        ((AV.isBool (AV.bin Go.BinOp.lss r2689 (ys449.getD 1 default))) ∧
        (((isT (AV.bin Go.BinOp.lss r2689 (ys449.getD 1 default))) →
          ((AV.isOne (ys449.getD 1 default)) ∧
          ((AV.binOk Go.BinOp.add (ys449.getD 1 default) x2) ∧
          ((AV.room (ys449.getD 2 default) (AV.mk 4 [[(AV.cel (AV.atAgg (ys449.getD 0 default) (ys1025.getD 0 default) 0 3) 0), (AV.cel (AV.atAgg (ys449.getD 0 default) (ys1025.getD 0 default) 0 3) 2), r2497, (ys449.getD 1 default)]]) 40) ∧
          (again449 [(AV.app 3 (AV.app 3 (AV.mk 3 []) (AV.sub 3 (ys449.getD 0 default) (AV.int 0) (ys1025.getD 0 default))) (AV.sub 3 (ys449.getD 0 default) (AV.bin Go.BinOp.add (ys1025.getD 0 default) (AV.int 1)) (AV.len (ys449.getD 0 default)))), (AV.bin Go.BinOp.add (ys449.getD 1 default) x2), (AV.app 4 (ys449.getD 2 default) (AV.mk 4 [[(AV.cel (AV.atAgg (ys449.getD 0 default) (ys1025.getD 0 default) 0 3) 0), (AV.cel (AV.atAgg (ys449.getD 0 default) (ys1025.getD 0 default) 0 3) 2), r2497, (ys449.getD 1 default)]]))]))))) ∧
        ((isF (AV.bin Go.BinOp.lss r2689 (ys449.getD 1 default))) →
          ((AV.binOk Go.BinOp.add r2689 x2) ∧
          ((AV.room (ys449.getD 2 default) (AV.mk 4 [[(AV.cel (AV.atAgg (ys449.getD 0 default) (ys1025.getD 0 default) 0 3) 0), (AV.cel (AV.atAgg (ys449.getD 0 default) (ys1025.getD 0 default) 0 3) 2), r2497, r2689]]) 40) ∧
          (again449 [(AV.app 3 (AV.app 3 (AV.mk 3 []) (AV.sub 3 (ys449.getD 0 default) (AV.int 0) (ys1025.getD 0 default))) (AV.sub 3 (ys449.getD 0 default) (AV.bin Go.BinOp.add (ys1025.getD 0 default) (AV.int 1)) (AV.len (ys449.getD 0 default)))), (AV.bin Go.BinOp.add r2689 x2), (AV.app 4 (ys449.getD 2 default) (AV.mk 4 [[(AV.cel (AV.atAgg (ys449.getD 0 default) (ys1025.getD 0 default) 0 3) 0), (AV.cel (AV.atAgg (ys449.getD 0 default) (ys1025.getD 0 default) 0 3) 2), r2497, r2689]]))])))))))))))))))))))))))))))))))))) ∧
  ((isF (AV.bin Go.BinOp.gtr (AV.len (ys449.getD 0 default)) (AV.int 0))) →
    ((AV.flatS (ys449.getD 2 default)) ∧
    (fSame (ys449.getD 2 default) r)))))))))))) := by kernel_rfl
theorem eqm_form (x0 x1 r : AV) : fnF Try.prog Γ ann 0 46 Try.f46 (Try.f46.body.getD .skip) (.nil) [x0, x1] (.sc) r = (((AV.isSl x0 4) ∧
((AV.isSl x1 4) ∧
((AV.binOk Go.BinOp.neq (AV.len x0) (AV.len x1)) ∧
((AV.isBool (AV.bin Go.BinOp.neq (AV.len x0) (AV.len x1))) ∧
(((isT (AV.bin Go.BinOp.neq (AV.len x0) (AV.len x1))) →
  ((AV.flat (AV.bool false)) ∧
  (fSame (AV.bool false) r))) ∧
((isF (AV.bin Go.BinOp.neq (AV.len x0) (AV.len x1))) →
  ((AV.isSl x0 4) ∧
  (fLoop 577 [(AV.int 0)] fun ys577 again577 =>
    ((AV.binOk Go.BinOp.lss (ys577.getD 0 default) (AV.len x0)) ∧
    ((AV.isBool (AV.bin Go.BinOp.lss (ys577.getD 0 default) (AV.len x0))) ∧
    (((isT (AV.bin Go.BinOp.lss (ys577.getD 0 default) (AV.len x0))) →
      ((AV.isSl x0 4) ∧
      ((AV.inb x0 (ys577.getD 0 default)) ∧
      ((AV.isSl x1 4) ∧
      ((AV.inb x1 (ys577.getD 0 default)) ∧
      ((AV.eqPlOk [(0, EK.str), (1, (EK.int Go.IntKind.i64)), (2, (EK.int Go.IntKind.i64)), (3, (EK.int Go.IntKind.i64))] [(AV.cel (AV.atAgg x0 (ys577.getD 0 default) 0 4) 0), (AV.cel (AV.atAgg x0 (ys577.getD 0 default) 0 4) 1), (AV.cel (AV.atAgg x0 (ys577.getD 0 default) 0 4) 2), (AV.cel (AV.atAgg x0 (ys577.getD 0 default) 0 4) 3)] [(AV.cel (AV.atAgg x1 (ys577.getD 0 default) 0 4) 0), (AV.cel (AV.atAgg x1 (ys577.getD 0 default) 0 4) 1), (AV.cel (AV.atAgg x1 (ys577.getD 0 default) 0 4) 2), (AV.cel (AV.atAgg x1 (ys577.getD 0 default) 0 4) 3)]) ∧
      ((AV.isAgg (AV.atAgg x0 (ys577.getD 0 default) 0 4) 4) ∧
      ((AV.isAgg (AV.atAgg x1 (ys577.getD 0 default) 0 4) 4) ∧
      ((AV.isBool (AV.nePl [(0, EK.str), (1, (EK.int Go.IntKind.i64)), (2, (EK.int Go.IntKind.i64)), (3, (EK.int Go.IntKind.i64))] [(AV.cel (AV.atAgg x0 (ys577.getD 0 default) 0 4) 0), (AV.cel (AV.atAgg x0 (ys577.getD 0 default) 0 4) 1), (AV.cel (AV.atAgg x0 (ys577.getD 0 default) 0 4) 2), (AV.cel (AV.atAgg x0 (ys577.getD 0 default) 0 4) 3)] [(AV.cel (AV.atAgg x1 (ys577.getD 0 default) 0 4) 0), (AV.cel (AV.atAgg x1 (ys577.getD 0 default) 0 4) 1), (AV.cel (AV.atAgg x1 (ys577.getD 0 default) 0 4) 2), (AV.cel (AV.atAgg x1 (ys577.getD 0 default) 0 4) 3)])) ∧
      (((isT (AV.nePl [(0, EK.str), (1, (EK.int Go.IntKind.i64)), (2, (EK.int Go.IntKind.i64)), (3, (EK.int Go.IntKind.i64))] [(AV.cel (AV.atAgg x0 (ys577.getD 0 default) 0 4) 0), (AV.cel (AV.atAgg x0 (ys577.getD 0 default) 0 4) 1), (AV.cel (AV.atAgg x0 (ys577.getD 0 default) 0 4) 2), (AV.cel (AV.atAgg x0 (ys577.getD 0 default) 0 4) 3)] [(AV.cel (AV.atAgg x1 (ys577.getD 0 default) 0 4) 0), (AV.cel (AV.atAgg x1 (ys577.getD 0 default) 0 4) 1), (AV.cel (AV.atAgg x1 (ys577.getD 0 default) 0 4) 2), (AV.cel (AV.atAgg x1 (ys577.getD 0 default) 0 4) 3)])) →
        ((AV.flat (AV.bool false)) ∧
        (fSame (AV.bool false) r))) ∧
      ((isF (AV.nePl [(0, EK.str), (1, (EK.int Go.IntKind.i64)), (2, (EK.int Go.IntKind.i64)), (3, (EK.int Go.IntKind.i64))] [(AV.cel (AV.atAgg x0 (ys577.getD 0 default) 0 4) 0), (AV.cel (AV.atAgg x0 (ys577.getD 0 default) 0 4) 1), (AV.cel (AV.atAgg x0 (ys577.getD 0 default) 0 4) 2), (AV.cel (AV.atAgg x0 (ys577.getD 0 default) 0 4) 3)] [(AV.cel (AV.atAgg x1 (ys577.getD 0 default) 0 4) 0), (AV.cel (AV.atAgg x1 (ys577.getD 0 default) 0 4) 1), (AV.cel (AV.atAgg x1 (ys577.getD 0 default) 0 4) 2), (AV.cel (AV.atAgg x1 (ys577.getD 0 default) 0 4) 3)])) →
        ((AV.binOk Go.BinOp.add (ys577.getD 0 default) (AV.int 1)) ∧
        (again577 [(AV.bin Go.BinOp.add (ys577.getD 0 default) (AV.int 1))]))))))))))))) ∧
    ((isF (AV.bin Go.BinOp.lss (ys577.getD 0 default) (AV.len x0))) →
      ((AV.flat (AV.bool true)) ∧
      (fSame (AV.bool true) r))))))))))))))) := by kernel_rfl
theorem count_form (x0 x1 r : AV) : fnF Try.prog Γ ann 0 47 Try.f47 (Try.f47.body.getD .skip) (.nil) [x0, x1] (.sc) r = (((AV.isRef x1 1) ∧
((AV.isSl (AV.der x1) 4) ∧
(fLoop 321 [(AV.int 0), (AV.int 0)] fun ys321 again321 =>
  ((AV.binOk Go.BinOp.lss (ys321.getD 1 default) (AV.len (AV.der x1))) ∧
  ((AV.isBool (AV.bin Go.BinOp.lss (ys321.getD 1 default) (AV.len (AV.der x1)))) ∧
  (((isT (AV.bin Go.BinOp.lss (ys321.getD 1 default) (AV.len (AV.der x1)))) →
    ((AV.isSl (AV.der x1) 4) ∧
    ((AV.inb (AV.der x1) (ys321.getD 1 default)) ∧
    ((AV.isAgg (AV.atAgg (AV.der x1) (ys321.getD 1 default) 0 4) 4) ∧
    ((AV.binOk Go.BinOp.geq x0 (AV.cel (AV.atAgg (AV.der x1) (ys321.getD 1 default) 0 4) 2)) ∧
    ((AV.isBool (AV.bin Go.BinOp.geq x0 (AV.cel (AV.atAgg (AV.der x1) (ys321.getD 1 default) 0 4) 2))) ∧
    (((isT (AV.bin Go.BinOp.geq x0 (AV.cel (AV.atAgg (AV.der x1) (ys321.getD 1 default) 0 4) 2))) →
      ((AV.binOk Go.BinOp.lss x0 (AV.cel (AV.atAgg (AV.der x1) (ys321.getD 1 default) 0 4) 3)) ∧
      ((AV.isBool (AV.bin Go.BinOp.geq x0 (AV.cel (AV.atAgg (AV.der x1) (ys321.getD 1 default) 0 4) 2))) ∧
      ((isT (AV.bin Go.BinOp.geq x0 (AV.cel (AV.atAgg (AV.der x1) (ys321.getD 1 default) 0 4) 2))) ∧
      ((AV.isBool (AV.bin Go.BinOp.lss x0 (AV.cel (AV.atAgg (AV.der x1) (ys321.getD 1 default) 0 4) 3))) ∧
      (((isT (AV.bin Go.BinOp.lss x0 (AV.cel (AV.atAgg (AV.der x1) (ys321.getD 1 default) 0 4) 3))) →
        ((AV.binOk Go.BinOp.add (ys321.getD 0 default) (AV.int 1)) ∧
        ((AV.binOk Go.BinOp.add (ys321.getD 1 default) (AV.int 1)) ∧
        (again321 [(AV.bin Go.BinOp.add (ys321.getD 0 default) (AV.int 1)), (AV.bin Go.BinOp.add (ys321.getD 1 default) (AV.int 1))])))) ∧
      ((isF (AV.bin Go.BinOp.lss x0 (AV.cel (AV.atAgg (AV.der x1) (ys321.getD 1 default) 0 4) 3))) →
        ((AV.binOk Go.BinOp.add (ys321.getD 1 default) (AV.int 1)) ∧
        (again321 [(ys321.getD 0 default), (AV.bin Go.BinOp.add (ys321.getD 1 default) (AV.int 1))]))))))))) ∧
    ((isF (AV.bin Go.BinOp.geq x0 (AV.cel (AV.atAgg (AV.der x1) (ys321.getD 1 default) 0 4) 2))) →
      ((AV.isBool (AV.bin Go.BinOp.geq x0 (AV.cel (AV.atAgg (AV.der x1) (ys321.getD 1 default) 0 4) 2))) ∧
      ((isF (AV.bin Go.BinOp.geq x0 (AV.cel (AV.atAgg (AV.der x1) (ys321.getD 1 default) 0 4) 2))) ∧
      ((AV.binOk Go.BinOp.add (ys321.getD 1 default) (AV.int 1)) ∧
      (again321 [(ys321.getD 0 default), (AV.bin Go.BinOp.add (ys321.getD 1 default) (AV.int 1))])))))))))))) ∧
  ((isF (AV.bin Go.BinOp.lss (ys321.getD 1 default) (AV.len (AV.der x1)))) →
    ((AV.flat (ys321.getD 0 default)) ∧
    (fSame (ys321.getD 0 default) r)))))))))) := by kernel_rfl
end TaxiF
end Go.Proofs.Ytlhhdonpoglfkaa
