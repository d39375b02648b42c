/- owner: what the run ends in. -/
import Derived.Test.YtalfopommofdfaaVal
namespace Go.Proofs.Ytalfopommofdfaa
open Go.RowKit
set_option linter.unusedVariables false
set_option maxRecDepth 100000
namespace OwnerF
--GAMMA
def Γ : FuncId → Option Ca := fun f =>
  if f = 49 ∨ f = 17 ∨ f = 37 ∨ f = 16 ∨ f = 35 ∨ f = 26 ∨ f = 14 ∨ f = 18 then some (.fn .sc)
  else if f = 42 ∨ f = 32 then some (.fn (.tup [.sc, .sc]))
  else if f = 38 then some (.fn (.row 44 3 true))
  else if f = 33 then some (.fn (.tup [.row 9 1 true, .sc]))
  else if f = 28 ∨ f = 34 ∨ f = 29 ∨ f = 30 ∨ f = 31 ∨ f = 15 then some (.fn (.tup [.row 44 3 true, .sc]))
  else if f = 43 ∨ f = 55 then some (.upd true)
  else some .inl
def ann : FuncId → Nat → LoopEx := fun f _ => if f = 15 then ⟨[], [1665], [], []⟩ else ⟨[], [], [], []⟩
--END GAMMA
theorem other_form (x0 x1 x2 r : AV) : fnF Try.prog Γ ann 0 18 Try.f18 (Try.f18.body.getD .skip) (.nil) [x0, x1, x2] (.sc) r = (((AV.isRef x1 1) ∧
((AV.binOk Go.BinOp.eql x0 (AV.der x1)) ∧
((AV.isBool (AV.bin Go.BinOp.eql x0 (AV.der x1))) ∧
(((isT (AV.bin Go.BinOp.eql x0 (AV.der x1))) →
  ((AV.isRef x2 1) ∧
  ((AV.flat (AV.der x2)) ∧
  (fSame (AV.der x2) r)))) ∧
((isF (AV.bin Go.BinOp.eql x0 (AV.der x1))) →
  ((AV.flat x0) ∧
  (fSame x0 r)))))))) := by kernel_rfl
theorem oname_form (x0 r : AV) : fnF Try.prog Γ ann 1 36 Try.f36 (Try.f36.body.getD .skip) (.nil) [x0] (.sc) r = ((∃ r129 : AV, ((Fn Try.prog 49 [x0] Sh.sc r129) ∧
((AV.flat r129) ∧
(fSame r129 r))))) := by kernel_rfl
theorem check_form (x0 r : AV) : fnF Try.prog Γ ann 2 37 Try.f37 (Try.f37.body.getD .skip) (.nil) [x0] (.sc) r = (((AV.isSl x0 3) ∧
((AV.binOk Go.BinOp.gtr (AV.len x0) (AV.int 24)) ∧
((AV.isBool (AV.bin Go.BinOp.gtr (AV.len x0) (AV.int 24))) ∧
(((isT (AV.bin Go.BinOp.gtr (AV.len x0) (AV.int 24))) →
  ((AV.flat (AV.int 2)) ∧
  (fSame (AV.int 2) r))) ∧
((isF (AV.bin Go.BinOp.gtr (AV.len x0) (AV.int 24))) →
  ((AV.isSl x0 3) ∧
  (fLoop 449 [(AV.int 0)] fun ys449 again449 =>
    ((AV.binOk Go.BinOp.lss (ys449.getD 0 default) (AV.len x0)) ∧
    ((AV.isBool (AV.bin Go.BinOp.lss (ys449.getD 0 default) (AV.len x0))) ∧
    (((isT (AV.bin Go.BinOp.lss (ys449.getD 0 default) (AV.len x0))) →
      ((AV.isSl x0 3) ∧
      ((AV.inb x0 (ys449.getD 0 default)) ∧
      ((AV.isAgg (AV.atAgg x0 (ys449.getD 0 default) 0 3) 3) ∧
      ((fEnt Try.prog 36) ∧
      (fAllV fun _ => (∃ r1217 : AV, ((Fn Try.prog 49 [(AV.cel (AV.atAgg x0 (ys449.getD 0 default) 0 3) 0)] Sh.sc r1217) ∧
      ((AV.unOk Go.UnOp.not r1217) ∧
      ((AV.isBool (AV.un Go.UnOp.not r1217)) ∧
      (((isT (AV.un Go.UnOp.not r1217)) →
        ((AV.isBool (AV.un Go.UnOp.not r1217)) ∧
        ((isT (AV.un Go.UnOp.not r1217)) ∧
        ((AV.flat (AV.int 3)) ∧
        (fSame (AV.int 3) r))))) ∧
      ((isF (AV.un Go.UnOp.not r1217)) →
        ((fEnt Try.prog 36) ∧
        (fAllV fun _ => (∃ r1857 : AV, ((Fn Try.prog 49 [(AV.cel (AV.atAgg x0 (ys449.getD 0 default) 0 3) 1)] Sh.sc r1857) ∧
        ((AV.unOk Go.UnOp.not r1857) ∧
        ((AV.isBool (AV.un Go.UnOp.not r1217)) ∧
        ((isF (AV.un Go.UnOp.not r1217)) ∧
        ((AV.isBool (AV.un Go.UnOp.not r1857)) ∧
        (((isT (AV.un Go.UnOp.not r1857)) →
          ((AV.isBool (AV.un Go.UnOp.not r1857)) ∧
          ((isT (AV.un Go.UnOp.not r1857)) ∧
          ((AV.flat (AV.int 3)) ∧
          (fSame (AV.int 3) r))))) ∧
        ((isF (AV.un Go.UnOp.not r1857)) →
          ((AV.binOk Go.BinOp.neq (AV.cel (AV.atAgg x0 (ys449.getD 0 default) 0 3) 2) (AV.lit (Value.string ⟨#[]⟩))) ∧
          ((AV.isBool (AV.bin Go.BinOp.neq (AV.cel (AV.atAgg x0 (ys449.getD 0 default) 0 3) 2) (AV.lit (Value.string ⟨#[]⟩)))) ∧
          (((isT (AV.bin Go.BinOp.neq (AV.cel (AV.atAgg x0 (ys449.getD 0 default) 0 3) 2) (AV.lit (Value.string ⟨#[]⟩)))) →
            ((fEnt Try.prog 36) ∧
            (fAllV fun _ => (∃ r2817 : AV, ((Fn Try.prog 49 [(AV.cel (AV.atAgg x0 (ys449.getD 0 default) 0 3) 2)] Sh.sc r2817) ∧
            ((AV.unOk Go.UnOp.not r2817) ∧
            ((AV.isBool (AV.bin Go.BinOp.neq (AV.cel (AV.atAgg x0 (ys449.getD 0 default) 0 3) 2) (AV.lit (Value.string ⟨#[]⟩)))) ∧
            ((isT (AV.bin Go.BinOp.neq (AV.cel (AV.atAgg x0 (ys449.getD 0 default) 0 3) 2) (AV.lit (Value.string ⟨#[]⟩)))) ∧
            ((AV.isBool (AV.un Go.UnOp.not r1857)) ∧
            ((isF (AV.un Go.UnOp.not r1857)) ∧
            ((AV.isBool (AV.un Go.UnOp.not r2817)) ∧
            (((isT (AV.un Go.UnOp.not r2817)) →
              ((AV.flat (AV.int 3)) ∧
              (fSame (AV.int 3) r))) ∧
            ((isF (AV.un Go.UnOp.not r2817)) →
              ((AV.binOk Go.BinOp.eql (AV.cel (AV.atAgg x0 (ys449.getD 0 default) 0 3) 2) (AV.cel (AV.atAgg x0 (ys449.getD 0 default) 0 3) 1)) ∧
              ((AV.isBool (AV.bin Go.BinOp.eql (AV.cel (AV.atAgg x0 (ys449.getD 0 default) 0 3) 2) (AV.cel (AV.atAgg x0 (ys449.getD 0 default) 0 3) 1))) ∧
              (((isT (AV.bin Go.BinOp.eql (AV.cel (AV.atAgg x0 (ys449.getD 0 default) 0 3) 2) (AV.cel (AV.atAgg x0 (ys449.getD 0 default) 0 3) 1))) →
                ((AV.flat (AV.int 11)) ∧
                (fSame (AV.int 11) r))) ∧
              ((isF (AV.bin Go.BinOp.eql (AV.cel (AV.atAgg x0 (ys449.getD 0 default) 0 3) 2) (AV.cel (AV.atAgg x0 (ys449.getD 0 default) 0 3) 1))) →
                ((AV.binOk Go.BinOp.gtr (ys449.getD 0 default) (AV.int 0)) ∧
                ((AV.isBool (AV.bin Go.BinOp.gtr (ys449.getD 0 default) (AV.int 0))) ∧
                (((isT (AV.bin Go.BinOp.gtr (ys449.getD 0 default) (AV.int 0))) →
                  ((AV.binOk Go.BinOp.sub (ys449.getD 0 default) (AV.int 1)) ∧
                  ((AV.isSl x0 3) ∧
                  ((AV.inb x0 (AV.bin Go.BinOp.sub (ys449.getD 0 default) (AV.int 1))) ∧
                  ((AV.binOk Go.BinOp.leq (AV.cel (AV.atAgg x0 (ys449.getD 0 default) 0 3) 0) (AV.at x0 (AV.bin Go.BinOp.sub (ys449.getD 0 default) (AV.int 1)) 0)) ∧
                  ((AV.isBool (AV.bin Go.BinOp.gtr (ys449.getD 0 default) (AV.int 0))) ∧
                  ((isT (AV.bin Go.BinOp.gtr (ys449.getD 0 default) (AV.int 0))) ∧
                  ((AV.isBool (AV.bin Go.BinOp.leq (AV.cel (AV.atAgg x0 (ys449.getD 0 default) 0 3) 0) (AV.at x0 (AV.bin Go.BinOp.sub (ys449.getD 0 default) (AV.int 1)) 0))) ∧
                  (((isT (AV.bin Go.BinOp.leq (AV.cel (AV.atAgg x0 (ys449.getD 0 default) 0 3) 0) (AV.at x0 (AV.bin Go.BinOp.sub (ys449.getD 0 default) (AV.int 1)) 0))) →
                    ((AV.flat (AV.int 7)) ∧
                    (fSame (AV.int 7) r))) ∧
                  ((isF (AV.bin Go.BinOp.leq (AV.cel (AV.atAgg x0 (ys449.getD 0 default) 0 3) 0) (AV.at x0 (AV.bin Go.BinOp.sub (ys449.getD 0 default) (AV.int 1)) 0))) →
                    ((AV.binOk Go.BinOp.add (ys449.getD 0 default) (AV.int 1)) ∧
                    (again449 [(AV.bin Go.BinOp.add (ys449.getD 0 default) (AV.int 1))])))))))))))) ∧
                ((isF (AV.bin Go.BinOp.gtr (ys449.getD 0 default) (AV.int 0))) →
                  ((AV.isBool (AV.bin Go.BinOp.gtr (ys449.getD 0 default) (AV.int 0))) ∧
                  ((isF (AV.bin Go.BinOp.gtr (ys449.getD 0 default) (AV.int 0))) ∧
                  ((AV.binOk Go.BinOp.add (ys449.getD 0 default) (AV.int 1)) ∧
                  (again449 [(AV.bin Go.BinOp.add (ys449.getD 0 default) (AV.int 1))]))))))))))))))))))))))))) ∧
          ((isF (AV.bin Go.BinOp.neq (AV.cel (AV.atAgg x0 (ys449.getD 0 default) 0 3) 2) (AV.lit (Value.string ⟨#[]⟩)))) →
            ((AV.isBool (AV.bin Go.BinOp.neq (AV.cel (AV.atAgg x0 (ys449.getD 0 default) 0 3) 2) (AV.lit (Value.string ⟨#[]⟩)))) ∧
            ((isF (AV.bin Go.BinOp.neq (AV.cel (AV.atAgg x0 (ys449.getD 0 default) 0 3) 2) (AV.lit (Value.string ⟨#[]⟩)))) ∧
            ((AV.isBool (AV.un Go.UnOp.not r1857)) ∧
            ((isF (AV.un Go.UnOp.not r1857)) ∧
            ((AV.binOk Go.BinOp.eql (AV.cel (AV.atAgg x0 (ys449.getD 0 default) 0 3) 2) (AV.cel (AV.atAgg x0 (ys449.getD 0 default) 0 3) 1)) ∧
            ((AV.isBool (AV.bin Go.BinOp.eql (AV.cel (AV.atAgg x0 (ys449.getD 0 default) 0 3) 2) (AV.cel (AV.atAgg x0 (ys449.getD 0 default) 0 3) 1))) ∧
            (((isT (AV.bin Go.BinOp.eql (AV.cel (AV.atAgg x0 (ys449.getD 0 default) 0 3) 2) (AV.cel (AV.atAgg x0 (ys449.getD 0 default) 0 3) 1))) →
              ((AV.flat (AV.int 11)) ∧
              (fSame (AV.int 11) r))) ∧
            ((isF (AV.bin Go.BinOp.eql (AV.cel (AV.atAgg x0 (ys449.getD 0 default) 0 3) 2) (AV.cel (AV.atAgg x0 (ys449.getD 0 default) 0 3) 1))) →
              ((AV.binOk Go.BinOp.gtr (ys449.getD 0 default) (AV.int 0)) ∧
              ((AV.isBool (AV.bin Go.BinOp.gtr (ys449.getD 0 default) (AV.int 0))) ∧
              (((isT (AV.bin Go.BinOp.gtr (ys449.getD 0 default) (AV.int 0))) →
                ((AV.binOk Go.BinOp.sub (ys449.getD 0 default) (AV.int 1)) ∧
                ((AV.isSl x0 3) ∧
                ((AV.inb x0 (AV.bin Go.BinOp.sub (ys449.getD 0 default) (AV.int 1))) ∧
                ((AV.binOk Go.BinOp.leq (AV.cel (AV.atAgg x0 (ys449.getD 0 default) 0 3) 0) (AV.at x0 (AV.bin Go.BinOp.sub (ys449.getD 0 default) (AV.int 1)) 0)) ∧
                ((AV.isBool (AV.bin Go.BinOp.gtr (ys449.getD 0 default) (AV.int 0))) ∧
                ((isT (AV.bin Go.BinOp.gtr (ys449.getD 0 default) (AV.int 0))) ∧
                ((AV.isBool (AV.bin Go.BinOp.leq (AV.cel (AV.atAgg x0 (ys449.getD 0 default) 0 3) 0) (AV.at x0 (AV.bin Go.BinOp.sub (ys449.getD 0 default) (AV.int 1)) 0))) ∧
                (((isT (AV.bin Go.BinOp.leq (AV.cel (AV.atAgg x0 (ys449.getD 0 default) 0 3) 0) (AV.at x0 (AV.bin Go.BinOp.sub (ys449.getD 0 default) (AV.int 1)) 0))) →
                  ((AV.flat (AV.int 7)) ∧
                  (fSame (AV.int 7) r))) ∧
                ((isF (AV.bin Go.BinOp.leq (AV.cel (AV.atAgg x0 (ys449.getD 0 default) 0 3) 0) (AV.at x0 (AV.bin Go.BinOp.sub (ys449.getD 0 default) (AV.int 1)) 0))) →
                  ((AV.binOk Go.BinOp.add (ys449.getD 0 default) (AV.int 1)) ∧
                  (again449 [(AV.bin Go.BinOp.add (ys449.getD 0 default) (AV.int 1))])))))))))))) ∧
              ((isF (AV.bin Go.BinOp.gtr (ys449.getD 0 default) (AV.int 0))) →
                ((AV.isBool (AV.bin Go.BinOp.gtr (ys449.getD 0 default) (AV.int 0))) ∧
                ((isF (AV.bin Go.BinOp.gtr (ys449.getD 0 default) (AV.int 0))) ∧
                ((AV.binOk Go.BinOp.add (ys449.getD 0 default) (AV.int 1)) ∧
                (again449 [(AV.bin Go.BinOp.add (ys449.getD 0 default) (AV.int 1))])))))))))))))))))))))))))))))))))))))))))) ∧
    ((isF (AV.bin Go.BinOp.lss (ys449.getD 0 default) (AV.len x0))) →
      ((AV.flat (AV.int 0)) ∧
      (fSame (AV.int 0) r)))))))))))))) := by kernel_rfl
theorem err_form (x0 r : AV) : fnF Try.prog Γ ann 1 16 Try.f16 (Try.f16.body.getD .skip) (.nil) [x0] (.sc) r = (((AV.isSl x0 3) ∧
((AV.binOk Go.BinOp.gtr (AV.len x0) (AV.int 24)) ∧
((AV.isBool (AV.bin Go.BinOp.gtr (AV.len x0) (AV.int 24))) ∧
(((isT (AV.bin Go.BinOp.gtr (AV.len x0) (AV.int 24))) →
  ((AV.flat (AV.int 2)) ∧
  (fSame (AV.int 2) r))) ∧
((isF (AV.bin Go.BinOp.gtr (AV.len x0) (AV.int 24))) →
  ((AV.isSl x0 3) ∧
  (fLoop 513 [(AV.lit (Value.string ⟨#[]⟩)), (AV.int 0)] fun ys513 again513 =>
    ((AV.binOk Go.BinOp.lss (ys513.getD 1 default) (AV.len x0)) ∧
    ((AV.isBool (AV.bin Go.BinOp.lss (ys513.getD 1 default) (AV.len x0))) ∧
    (((isT (AV.bin Go.BinOp.lss (ys513.getD 1 default) (AV.len x0))) →
      ((AV.isSl x0 3) ∧
      ((AV.inb x0 (ys513.getD 1 default)) ∧
      ((AV.isAgg (AV.atAgg x0 (ys513.getD 1 default) 0 3) 3) ∧
      (∃ r961 : AV, ((Fn Try.prog 17 [(AV.cel (AV.atAgg x0 (ys513.getD 1 default) 0 3) 0)] Sh.sc r961) ∧
      ((AV.unOk Go.UnOp.not r961) ∧
      ((AV.isBool (AV.un Go.UnOp.not r961)) ∧
      (((isT (AV.un Go.UnOp.not r961)) →
        ((AV.isBool (AV.un Go.UnOp.not r961)) ∧
        ((isT (AV.un Go.UnOp.not r961)) ∧
        ((AV.flat (AV.int 3)) ∧
        (fSame (AV.int 3) r))))) ∧
      ((isF (AV.un Go.UnOp.not r961)) →
        (∃ r1281 : AV, ((Fn Try.prog 17 [(AV.cel (AV.atAgg x0 (ys513.getD 1 default) 0 3) 1)] Sh.sc r1281) ∧
        ((AV.unOk Go.UnOp.not r1281) ∧
        ((AV.isBool (AV.un Go.UnOp.not r961)) ∧
        ((isF (AV.un Go.UnOp.not r961)) ∧
        ((AV.isBool (AV.un Go.UnOp.not r1281)) ∧
        (((isT (AV.un Go.UnOp.not r1281)) →
          ((AV.isBool (AV.un Go.UnOp.not r1281)) ∧
          ((isT (AV.un Go.UnOp.not r1281)) ∧
          ((AV.flat (AV.int 3)) ∧
          (fSame (AV.int 3) r))))) ∧
        ((isF (AV.un Go.UnOp.not r1281)) →
          ((AV.binOk Go.BinOp.neq (AV.cel (AV.atAgg x0 (ys513.getD 1 default) 0 3) 2) (AV.lit (Value.string ⟨#[]⟩))) ∧
          ((AV.isBool (AV.bin Go.BinOp.neq (AV.cel (AV.atAgg x0 (ys513.getD 1 default) 0 3) 2) (AV.lit (Value.string ⟨#[]⟩)))) ∧
          (((isT (AV.bin Go.BinOp.neq (AV.cel (AV.atAgg x0 (ys513.getD 1 default) 0 3) 2) (AV.lit (Value.string ⟨#[]⟩)))) →
            (∃ r1921 : AV, ((Fn Try.prog 17 [(AV.cel (AV.atAgg x0 (ys513.getD 1 default) 0 3) 2)] Sh.sc r1921) ∧
            ((AV.unOk Go.UnOp.not r1921) ∧
            ((AV.isBool (AV.bin Go.BinOp.neq (AV.cel (AV.atAgg x0 (ys513.getD 1 default) 0 3) 2) (AV.lit (Value.string ⟨#[]⟩)))) ∧
            ((isT (AV.bin Go.BinOp.neq (AV.cel (AV.atAgg x0 (ys513.getD 1 default) 0 3) 2) (AV.lit (Value.string ⟨#[]⟩)))) ∧
            ((AV.isBool (AV.un Go.UnOp.not r1281)) ∧
            ((isF (AV.un Go.UnOp.not r1281)) ∧
            ((AV.isBool (AV.un Go.UnOp.not r1921)) ∧
            (((isT (AV.un Go.UnOp.not r1921)) →
              ((AV.flat (AV.int 3)) ∧
              (fSame (AV.int 3) r))) ∧
            ((isF (AV.un Go.UnOp.not r1921)) →
              ((AV.binOk Go.BinOp.eql (AV.cel (AV.atAgg x0 (ys513.getD 1 default) 0 3) 2) (AV.cel (AV.atAgg x0 (ys513.getD 1 default) 0 3) 1)) ∧
              ((AV.isBool (AV.bin Go.BinOp.eql (AV.cel (AV.atAgg x0 (ys513.getD 1 default) 0 3) 2) (AV.cel (AV.atAgg x0 (ys513.getD 1 default) 0 3) 1))) ∧
              (((isT (AV.bin Go.BinOp.eql (AV.cel (AV.atAgg x0 (ys513.getD 1 default) 0 3) 2) (AV.cel (AV.atAgg x0 (ys513.getD 1 default) 0 3) 1))) →
                ((AV.flat (AV.int 11)) ∧
                (fSame (AV.int 11) r))) ∧
              ((isF (AV.bin Go.BinOp.eql (AV.cel (AV.atAgg x0 (ys513.getD 1 default) 0 3) 2) (AV.cel (AV.atAgg x0 (ys513.getD 1 default) 0 3) 1))) →
                ((AV.binOk Go.BinOp.leq (AV.cel (AV.atAgg x0 (ys513.getD 1 default) 0 3) 0) (ys513.getD 0 default)) ∧
                ((AV.isBool (AV.bin Go.BinOp.leq (AV.cel (AV.atAgg x0 (ys513.getD 1 default) 0 3) 0) (ys513.getD 0 default))) ∧
                (((isT (AV.bin Go.BinOp.leq (AV.cel (AV.atAgg x0 (ys513.getD 1 default) 0 3) 0) (ys513.getD 0 default))) →
                  ((AV.flat (AV.int 7)) ∧
                  (fSame (AV.int 7) r))) ∧
                ((isF (AV.bin Go.BinOp.leq (AV.cel (AV.atAgg x0 (ys513.getD 1 default) 0 3) 0) (ys513.getD 0 default))) →
                  ((AV.binOk Go.BinOp.add (ys513.getD 1 default) (AV.int 1)) ∧
                  (again513 [(AV.cel (AV.atAgg x0 (ys513.getD 1 default) 0 3) 0), (AV.bin Go.BinOp.add (ys513.getD 1 default) (AV.int 1))]))))))))))))))))))))) ∧
          ((isF (AV.bin Go.BinOp.neq (AV.cel (AV.atAgg x0 (ys513.getD 1 default) 0 3) 2) (AV.lit (Value.string ⟨#[]⟩)))) →
            ((AV.isBool (AV.bin Go.BinOp.neq (AV.cel (AV.atAgg x0 (ys513.getD 1 default) 0 3) 2) (AV.lit (Value.string ⟨#[]⟩)))) ∧
            ((isF (AV.bin Go.BinOp.neq (AV.cel (AV.atAgg x0 (ys513.getD 1 default) 0 3) 2) (AV.lit (Value.string ⟨#[]⟩)))) ∧
            ((AV.isBool (AV.un Go.UnOp.not r1281)) ∧
            ((isF (AV.un Go.UnOp.not r1281)) ∧
            ((AV.binOk Go.BinOp.eql (AV.cel (AV.atAgg x0 (ys513.getD 1 default) 0 3) 2) (AV.cel (AV.atAgg x0 (ys513.getD 1 default) 0 3) 1)) ∧
            ((AV.isBool (AV.bin Go.BinOp.eql (AV.cel (AV.atAgg x0 (ys513.getD 1 default) 0 3) 2) (AV.cel (AV.atAgg x0 (ys513.getD 1 default) 0 3) 1))) ∧
            (((isT (AV.bin Go.BinOp.eql (AV.cel (AV.atAgg x0 (ys513.getD 1 default) 0 3) 2) (AV.cel (AV.atAgg x0 (ys513.getD 1 default) 0 3) 1))) →
              ((AV.flat (AV.int 11)) ∧
              (fSame (AV.int 11) r))) ∧
            ((isF (AV.bin Go.BinOp.eql (AV.cel (AV.atAgg x0 (ys513.getD 1 default) 0 3) 2) (AV.cel (AV.atAgg x0 (ys513.getD 1 default) 0 3) 1))) →
              ((AV.binOk Go.BinOp.leq (AV.cel (AV.atAgg x0 (ys513.getD 1 default) 0 3) 0) (ys513.getD 0 default)) ∧
              ((AV.isBool (AV.bin Go.BinOp.leq (AV.cel (AV.atAgg x0 (ys513.getD 1 default) 0 3) 0) (ys513.getD 0 default))) ∧
              (((isT (AV.bin Go.BinOp.leq (AV.cel (AV.atAgg x0 (ys513.getD 1 default) 0 3) 0) (ys513.getD 0 default))) →
                ((AV.flat (AV.int 7)) ∧
                (fSame (AV.int 7) r))) ∧
              ((isF (AV.bin Go.BinOp.leq (AV.cel (AV.atAgg x0 (ys513.getD 1 default) 0 3) 0) (ys513.getD 0 default))) →
                ((AV.binOk Go.BinOp.add (ys513.getD 1 default) (AV.int 1)) ∧
                (again513 [(AV.cel (AV.atAgg x0 (ys513.getD 1 default) 0 3) 0), (AV.bin Go.BinOp.add (ys513.getD 1 default) (AV.int 1))])))))))))))))))))))))))))))))))))))) ∧
    ((isF (AV.bin Go.BinOp.lss (ys513.getD 1 default) (AV.len x0))) →
      ((AV.flat (AV.int 0)) ∧
      (fSame (AV.int 0) r)))))))))))))) := by kernel_rfl
theorem eqo_form (x0 x1 r : AV) : fnF Try.prog Γ ann 0 35 Try.f35 (Try.f35.body.getD .skip) (.nil) [x0, x1] (.sc) r = (((AV.isSl x0 3) ∧
((AV.isSl x1 3) ∧
((AV.binOk Go.BinOp.neq (AV.len x0) (AV.len x1)) ∧
((AV.isBool (AV.bin Go.BinOp.neq (AV.len x0) (AV.len x1))) ∧
(((isT (AV.bin Go.BinOp.neq (AV.len x0) (AV.len x1))) →
  ((AV.flat (AV.bool false)) ∧
  (fSame (AV.bool false) r))) ∧
((isF (AV.bin Go.BinOp.neq (AV.len x0) (AV.len x1))) →
  ((AV.isSl x0 3) ∧
  (fLoop 577 [(AV.int 0)] fun ys577 again577 =>
    ((AV.binOk Go.BinOp.lss (ys577.getD 0 default) (AV.len x0)) ∧
    ((AV.isBool (AV.bin Go.BinOp.lss (ys577.getD 0 default) (AV.len x0))) ∧
    (((isT (AV.bin Go.BinOp.lss (ys577.getD 0 default) (AV.len x0))) →
      ((AV.isSl x0 3) ∧
      ((AV.inb x0 (ys577.getD 0 default)) ∧
      ((AV.isSl x1 3) ∧
      ((AV.inb x1 (ys577.getD 0 default)) ∧
      ((AV.eqPlOk [(0, EK.str), (1, EK.str), (2, EK.str)] [(AV.cel (AV.atAgg x0 (ys577.getD 0 default) 0 3) 0), (AV.cel (AV.atAgg x0 (ys577.getD 0 default) 0 3) 1), (AV.cel (AV.atAgg x0 (ys577.getD 0 default) 0 3) 2)] [(AV.cel (AV.atAgg x1 (ys577.getD 0 default) 0 3) 0), (AV.cel (AV.atAgg x1 (ys577.getD 0 default) 0 3) 1), (AV.cel (AV.atAgg x1 (ys577.getD 0 default) 0 3) 2)]) ∧
      ((AV.isAgg (AV.atAgg x0 (ys577.getD 0 default) 0 3) 3) ∧
      ((AV.isAgg (AV.atAgg x1 (ys577.getD 0 default) 0 3) 3) ∧
      ((AV.isBool (AV.nePl [(0, EK.str), (1, EK.str), (2, EK.str)] [(AV.cel (AV.atAgg x0 (ys577.getD 0 default) 0 3) 0), (AV.cel (AV.atAgg x0 (ys577.getD 0 default) 0 3) 1), (AV.cel (AV.atAgg x0 (ys577.getD 0 default) 0 3) 2)] [(AV.cel (AV.atAgg x1 (ys577.getD 0 default) 0 3) 0), (AV.cel (AV.atAgg x1 (ys577.getD 0 default) 0 3) 1), (AV.cel (AV.atAgg x1 (ys577.getD 0 default) 0 3) 2)])) ∧
      (((isT (AV.nePl [(0, EK.str), (1, EK.str), (2, EK.str)] [(AV.cel (AV.atAgg x0 (ys577.getD 0 default) 0 3) 0), (AV.cel (AV.atAgg x0 (ys577.getD 0 default) 0 3) 1), (AV.cel (AV.atAgg x0 (ys577.getD 0 default) 0 3) 2)] [(AV.cel (AV.atAgg x1 (ys577.getD 0 default) 0 3) 0), (AV.cel (AV.atAgg x1 (ys577.getD 0 default) 0 3) 1), (AV.cel (AV.atAgg x1 (ys577.getD 0 default) 0 3) 2)])) →
        ((AV.flat (AV.bool false)) ∧
        (fSame (AV.bool false) r))) ∧
      ((isF (AV.nePl [(0, EK.str), (1, EK.str), (2, EK.str)] [(AV.cel (AV.atAgg x0 (ys577.getD 0 default) 0 3) 0), (AV.cel (AV.atAgg x0 (ys577.getD 0 default) 0 3) 1), (AV.cel (AV.atAgg x0 (ys577.getD 0 default) 0 3) 2)] [(AV.cel (AV.atAgg x1 (ys577.getD 0 default) 0 3) 0), (AV.cel (AV.atAgg x1 (ys577.getD 0 default) 0 3) 1), (AV.cel (AV.atAgg x1 (ys577.getD 0 default) 0 3) 2)])) →
        ((AV.binOk Go.BinOp.add (ys577.getD 0 default) (AV.int 1)) ∧
        (again577 [(AV.bin Go.BinOp.add (ys577.getD 0 default) (AV.int 1))]))))))))))))) ∧
    ((isF (AV.bin Go.BinOp.lss (ys577.getD 0 default) (AV.len x0))) →
      ((AV.flat (AV.bool true)) ∧
      (fSame (AV.bool true) r))))))))))))))) := by kernel_rfl
theorem eqs_form (x0 x1 r : AV) : fnF Try.prog Γ ann 0 26 Try.f26 (Try.f26.body.getD .skip) (.nil) [x0, x1] (.sc) r = (((AV.isSl x0 1) ∧
((AV.isSl x1 1) ∧
((AV.binOk Go.BinOp.neq (AV.len x0) (AV.len x1)) ∧
((AV.isBool (AV.bin Go.BinOp.neq (AV.len x0) (AV.len x1))) ∧
(((isT (AV.bin Go.BinOp.neq (AV.len x0) (AV.len x1))) →
  ((AV.flat (AV.bool false)) ∧
  (fSame (AV.bool false) r))) ∧
((isF (AV.bin Go.BinOp.neq (AV.len x0) (AV.len x1))) →
  ((AV.isSl x0 1) ∧
  (fLoop 577 [(AV.int 0)] fun ys577 again577 =>
    ((AV.binOk Go.BinOp.lss (ys577.getD 0 default) (AV.len x0)) ∧
    ((AV.isBool (AV.bin Go.BinOp.lss (ys577.getD 0 default) (AV.len x0))) ∧
    (((isT (AV.bin Go.BinOp.lss (ys577.getD 0 default) (AV.len x0))) →
      ((AV.isSl x0 1) ∧
      ((AV.inb x0 (ys577.getD 0 default)) ∧
      ((AV.isSl x1 1) ∧
      ((AV.inb x1 (ys577.getD 0 default)) ∧
      ((AV.binOk Go.BinOp.neq (AV.at x0 (ys577.getD 0 default) 0) (AV.at x1 (ys577.getD 0 default) 0)) ∧
      ((AV.isBool (AV.bin Go.BinOp.neq (AV.at x0 (ys577.getD 0 default) 0) (AV.at x1 (ys577.getD 0 default) 0))) ∧
      (((isT (AV.bin Go.BinOp.neq (AV.at x0 (ys577.getD 0 default) 0) (AV.at x1 (ys577.getD 0 default) 0))) →
        ((AV.flat (AV.bool false)) ∧
        (fSame (AV.bool false) r))) ∧
      ((isF (AV.bin Go.BinOp.neq (AV.at x0 (ys577.getD 0 default) 0) (AV.at x1 (ys577.getD 0 default) 0))) →
        ((AV.binOk Go.BinOp.add (ys577.getD 0 default) (AV.int 1)) ∧
        (again577 [(AV.bin Go.BinOp.add (ys577.getD 0 default) (AV.int 1))]))))))))))) ∧
    ((isF (AV.bin Go.BinOp.lss (ys577.getD 0 default) (AV.len x0))) →
      ((AV.flat (AV.bool true)) ∧
      (fSame (AV.bool true) r))))))))))))))) := by kernel_rfl
theorem place_form (x0 x1 r : AV) : fnF Try.prog Γ ann 3 42 Try.f42 (Try.f42.body.getD .skip) ((.both (.both (.both .nil (.t .nil)) .nil) .nil)) [x0, x1] (.tup [.sc, .sc]) r = (((AV.isOne x1) ∧
((fEnt Try.prog 51) ∧
(fAllV fun _ => ((AV.isSl x0 3) ∧
(fLoop 641 [(AV.int 0)] fun ys641 again641 =>
  ((AV.binOk Go.BinOp.lss (ys641.getD 0 default) (AV.len x0)) ∧
  ((AV.isBool (AV.bin Go.BinOp.lss (ys641.getD 0 default) (AV.len x0))) ∧
  (((isT (AV.bin Go.BinOp.lss (ys641.getD 0 default) (AV.len x0))) →
    ((AV.isSl x0 3) ∧
    ((AV.inb x0 (ys641.getD 0 default)) ∧
    ((fEnt Try.prog 52) ∧
    (fAllV fun _ => ((AV.isAgg (AV.atAgg x0 (ys641.getD 0 default) 0 3) 3) ∧
    ((AV.binOk Go.BinOp.geq (AV.cel (AV.atAgg x0 (ys641.getD 0 default) 0 3) 0) x1) ∧
    ((AV.isBool (AV.bin Go.BinOp.geq (AV.cel (AV.atAgg x0 (ys641.getD 0 default) 0 3) 0) x1)) ∧
    (((isT (AV.bin Go.BinOp.geq (AV.cel (AV.atAgg x0 (ys641.getD 0 default) 0 3) 0) x1)) →
      ((AV.binOk Go.BinOp.lss (ys641.getD 0 default) (AV.int 0)) ∧
      ((AV.isBool (AV.bin Go.BinOp.lss (ys641.getD 0 default) (AV.int 0))) ∧
      (((isT (AV.bin Go.BinOp.lss (ys641.getD 0 default) (AV.int 0))) →
        ((AV.isSl x0 3) ∧
        ((AV.isSl x0 3) ∧
        ((AV.binOk Go.BinOp.lss (AV.len x0) (AV.len x0)) ∧
        ((AV.isBool (AV.bin Go.BinOp.lss (AV.len x0) (AV.len x0))) ∧
        (((isT (AV.bin Go.BinOp.lss (AV.len x0) (AV.len x0))) →
          ((AV.isSl x0 3) ∧
          ((AV.inb x0 (AV.len x0)) ∧
          ((AV.binOk Go.BinOp.eql (AV.at x0 (AV.len x0) 0) x1) ∧
          ((AV.isBool (AV.bin Go.BinOp.lss (AV.len x0) (AV.len x0))) ∧
          ((isT (AV.bin Go.BinOp.lss (AV.len x0) (AV.len x0))) ∧
          ((AV.flat (AV.len x0)) ∧
          ((AV.flat (AV.bin Go.BinOp.eql (AV.at x0 (AV.len x0) 0) x1)) ∧
          (fSame (AV.tup [(AV.len x0), (AV.bin Go.BinOp.eql (AV.at x0 (AV.len x0) 0) x1)]) r))))))))) ∧
        ((isF (AV.bin Go.BinOp.lss (AV.len x0) (AV.len x0))) →
          ((AV.isBool (AV.bin Go.BinOp.lss (AV.len x0) (AV.len x0))) ∧
          ((isF (AV.bin Go.BinOp.lss (AV.len x0) (AV.len x0))) ∧
          ((AV.flat (AV.len x0)) ∧
          ((AV.flat (AV.bool false)) ∧
          (fSame (AV.tup [(AV.len x0), (AV.bool false)]) r)))))))))))) ∧
      ((isF (AV.bin Go.BinOp.lss (ys641.getD 0 default) (AV.int 0))) →
        ((AV.isSl x0 3) ∧
        ((AV.binOk Go.BinOp.lss (ys641.getD 0 default) (AV.len x0)) ∧
        ((AV.isBool (AV.bin Go.BinOp.lss (ys641.getD 0 default) (AV.len x0))) ∧
        ((isT (AV.bin Go.BinOp.lss (ys641.getD 0 default) (AV.len x0))) ∧
        ((AV.isSl x0 3) ∧
        ((AV.inb x0 (ys641.getD 0 default)) ∧
        ((AV.binOk Go.BinOp.eql (AV.at x0 (ys641.getD 0 default) 0) x1) ∧
        ((AV.isBool (AV.bin Go.BinOp.lss (ys641.getD 0 default) (AV.len x0))) ∧
        ((isT (AV.bin Go.BinOp.lss (ys641.getD 0 default) (AV.len x0))) ∧
        ((AV.flat (ys641.getD 0 default)) ∧
        ((AV.flat (AV.bin Go.BinOp.eql (AV.at x0 (ys641.getD 0 default) 0) x1)) ∧
        (fSame (AV.tup [(ys641.getD 0 default), (AV.bin Go.BinOp.eql (AV.at x0 (ys641.getD 0 default) 0) x1)]) r))))))))))))))))) ∧
    ((isF (AV.bin Go.BinOp.geq (AV.cel (AV.atAgg x0 (ys641.getD 0 default) 0 3) 0) x1)) →
      ((AV.binOk Go.BinOp.add (ys641.getD 0 default) (AV.int 1)) ∧
      (again641 [(AV.bin Go.BinOp.add (ys641.getD 0 default) (AV.int 1))])))))))))))) ∧
  ((isF (AV.bin Go.BinOp.lss (ys641.getD 0 default) (AV.len x0))) →
    ((AV.isSl x0 3) ∧
    ((AV.isSl x0 3) ∧
    ((AV.binOk Go.BinOp.lss (AV.len x0) (AV.len x0)) ∧
    ((AV.isBool (AV.bin Go.BinOp.lss (AV.len x0) (AV.len x0))) ∧
    (((isT (AV.bin Go.BinOp.lss (AV.len x0) (AV.len x0))) →
      ((AV.isSl x0 3) ∧
      ((AV.inb x0 (AV.len x0)) ∧
      ((AV.binOk Go.BinOp.eql (AV.at x0 (AV.len x0) 0) x1) ∧
      ((AV.isBool (AV.bin Go.BinOp.lss (AV.len x0) (AV.len x0))) ∧
      ((isT (AV.bin Go.BinOp.lss (AV.len x0) (AV.len x0))) ∧
      ((AV.flat (AV.len x0)) ∧
      ((AV.flat (AV.bin Go.BinOp.eql (AV.at x0 (AV.len x0) 0) x1)) ∧
      (fSame (AV.tup [(AV.len x0), (AV.bin Go.BinOp.eql (AV.at x0 (AV.len x0) 0) x1)]) r))))))))) ∧
    ((isF (AV.bin Go.BinOp.lss (AV.len x0) (AV.len x0))) →
      ((AV.isBool (AV.bin Go.BinOp.lss (AV.len x0) (AV.len x0))) ∧
      ((isF (AV.bin Go.BinOp.lss (AV.len x0) (AV.len x0))) ∧
      ((AV.flat (AV.len x0)) ∧
      ((AV.flat (AV.bool false)) ∧
      (fSame (AV.tup [(AV.len x0), (AV.bool false)]) r))))))))))))))))))))) := by kernel_rfl
theorem of_form (x0 x1 r : AV) : fnF Try.prog Γ ann 1 32 Try.f32 (Try.f32.body.getD .skip) (.nil) [x0, x1] (.tup [.sc, .sc]) r = ((∃ r193 : AV, ((Fn Try.prog 37 [x0] Sh.sc r193) ∧
((AV.binOk Go.BinOp.neq r193 (AV.int 0)) ∧
((AV.isBool (AV.bin Go.BinOp.neq r193 (AV.int 0))) ∧
(((isT (AV.bin Go.BinOp.neq r193 (AV.int 0))) →
  ((AV.flat (AV.lit (Value.string ⟨#[]⟩))) ∧
  ((AV.flat r193) ∧
  (fSame (AV.tup [(AV.lit (Value.string ⟨#[]⟩)), r193]) r)))) ∧
((isF (AV.bin Go.BinOp.neq r193 (AV.int 0))) →
  (∃ r577 : AV, ((Fn Try.prog 42 [x0, x1] (Sh.tup [Sh.sc, Sh.sc]) r577) ∧
  ((AV.unOk Go.UnOp.not (AV.prj r577 1)) ∧
  ((AV.isBool (AV.un Go.UnOp.not (AV.prj r577 1))) ∧
  (((isT (AV.un Go.UnOp.not (AV.prj r577 1))) →
    ((AV.flat (AV.lit (Value.string ⟨#[]⟩))) ∧
    ((AV.flat (AV.int 8)) ∧
    (fSame (AV.tup [(AV.lit (Value.string ⟨#[]⟩)), (AV.int 8)]) r)))) ∧
  ((isF (AV.un Go.UnOp.not (AV.prj r577 1))) →
    ((AV.isSl x0 3) ∧
    ((AV.inb x0 (AV.prj r577 0)) ∧
    ((AV.flat (AV.at x0 (AV.prj r577 0) 1)) ∧
    ((AV.flat (AV.int 0)) ∧
    (fSame (AV.tup [(AV.at x0 (AV.prj r577 0) 1), (AV.int 0)]) r)))))))))))))))))) := by kernel_rfl
theorem flights_form (x0 x1 r : AV) : fnF Try.prog Γ ann 1 33 Try.f33 (Try.f33.body.getD .skip) (.nil) [x0, x1] (.tup [.row 9 1 true, .sc]) r = ((∃ r193 : AV, ((Fn Try.prog 37 [x0] Sh.sc r193) ∧
((AV.binOk Go.BinOp.neq r193 (AV.int 0)) ∧
((AV.isBool (AV.bin Go.BinOp.neq r193 (AV.int 0))) ∧
(((isT (AV.bin Go.BinOp.neq r193 (AV.int 0))) →
  ((AV.flatS (AV.mk 1 [])) ∧
  ((AV.flat r193) ∧
  (fSame (AV.tup [(AV.mk 1 []), r193]) r)))) ∧
((isF (AV.bin Go.BinOp.neq r193 (AV.int 0))) →
  ((AV.isSl x0 3) ∧
  (fLoop 705 [(AV.int 0), (AV.mk 1 [])] fun ys705 again705 =>
    ((AV.binOk Go.BinOp.lss (ys705.getD 0 default) (AV.len x0)) ∧
    ((AV.isBool (AV.bin Go.BinOp.lss (ys705.getD 0 default) (AV.len x0))) ∧
    (((isT (AV.bin Go.BinOp.lss (ys705.getD 0 default) (AV.len x0))) →
      ((AV.isSl x0 3) ∧
      ((AV.inb x0 (ys705.getD 0 default)) ∧
      ((AV.isAgg (AV.atAgg x0 (ys705.getD 0 default) 0 3) 3) ∧
      ((AV.binOk Go.BinOp.eql (AV.cel (AV.atAgg x0 (ys705.getD 0 default) 0 3) 1) x1) ∧
      ((AV.isBool (AV.bin Go.BinOp.eql (AV.cel (AV.atAgg x0 (ys705.getD 0 default) 0 3) 1) x1)) ∧
      (((isT (AV.bin Go.BinOp.eql (AV.cel (AV.atAgg x0 (ys705.getD 0 default) 0 3) 1) x1)) →
        ((AV.isOne (AV.cel (AV.atAgg x0 (ys705.getD 0 default) 0 3) 0)) ∧
        ((AV.room (ys705.getD 1 default) (AV.mk 1 [[(AV.cel (AV.atAgg x0 (ys705.getD 0 default) 0 3) 0)]]) 16) ∧
        ((AV.binOk Go.BinOp.add (ys705.getD 0 default) (AV.int 1)) ∧
        (again705 [(AV.bin Go.BinOp.add (ys705.getD 0 default) (AV.int 1)), (AV.app 1 (ys705.getD 1 default) (AV.mk 1 [[(AV.cel (AV.atAgg x0 (ys705.getD 0 default) 0 3) 0)]]))]))))) ∧
      ((isF (AV.bin Go.BinOp.eql (AV.cel (AV.atAgg x0 (ys705.getD 0 default) 0 3) 1) x1)) →
        ((AV.binOk Go.BinOp.add (ys705.getD 0 default) (AV.int 1)) ∧
        (again705 [(AV.bin Go.BinOp.add (ys705.getD 0 default) (AV.int 1)), (ys705.getD 1 default)])))))))))) ∧
    ((isF (AV.bin Go.BinOp.lss (ys705.getD 0 default) (AV.len x0))) →
      ((AV.flatS (ys705.getD 1 default)) ∧
      ((AV.flat (AV.int 0)) ∧
      (fSame (AV.tup [(ys705.getD 1 default), (AV.int 0)]) r)))))))))))))))) := by kernel_rfl
theorem clone_form (x0 r : AV) : fnF Try.prog Γ ann 0 38 Try.f38 (Try.f38.body.getD .skip) (.nil) [x0] (.row 44 3 true) r = ((fNil x0
  ((AV.flatS (AV.mk 3 [])) ∧
  (fSame (AV.mk 3 []) r))
  ((AV.isSl x0 3) ∧
  ((AV.room (AV.mk 3 []) x0 48) ∧
  ((AV.flatS (AV.app 3 (AV.mk 3 []) x0)) ∧
  (fSame (AV.app 3 (AV.mk 3 []) x0) r)))))) := by kernel_rfl
theorem begin_form (x0 x1 x2 r : AV) : fnF Try.prog Γ ann 2 28 Try.f28 (Try.f28.body.getD .skip) (.nil) [x0, x1, x2] (.tup [.row 44 3 true, .sc]) r = ((∃ r193 : AV, ((Fn Try.prog 37 [x0] Sh.sc r193) ∧
((AV.binOk Go.BinOp.neq r193 (AV.int 0)) ∧
((AV.isBool (AV.bin Go.BinOp.neq r193 (AV.int 0))) ∧
(((isT (AV.bin Go.BinOp.neq r193 (AV.int 0))) →
  ((AV.flatS (AV.mk 3 [])) ∧
  ((AV.flat r193) ∧
  (fSame (AV.tup [(AV.mk 3 []), r193]) r)))) ∧
((isF (AV.bin Go.BinOp.neq r193 (AV.int 0))) →
  (∃ r577 : AV, ((Fn Try.prog 42 [x0, x1] (Sh.tup [Sh.sc, Sh.sc]) r577) ∧
  ((fEnt Try.prog 36) ∧
  (fAllV fun _ => (∃ r1217 : AV, ((Fn Try.prog 49 [x1] Sh.sc r1217) ∧
  ((AV.unOk Go.UnOp.not r1217) ∧
  ((AV.isBool (AV.un Go.UnOp.not r1217)) ∧
  (((isT (AV.un Go.UnOp.not r1217)) →
    ((AV.isBool (AV.un Go.UnOp.not r1217)) ∧
    ((isT (AV.un Go.UnOp.not r1217)) ∧
    ((AV.flatS (AV.mk 3 [])) ∧
    ((AV.flat (AV.int 3)) ∧
    (fSame (AV.tup [(AV.mk 3 []), (AV.int 3)]) r)))))) ∧
  ((isF (AV.un Go.UnOp.not r1217)) →
    ((fEnt Try.prog 36) ∧
    (fAllV fun _ => (∃ r1793 : AV, ((Fn Try.prog 49 [x2] Sh.sc r1793) ∧
    ((AV.unOk Go.UnOp.not r1793) ∧
    ((AV.isBool (AV.un Go.UnOp.not r1217)) ∧
    ((isF (AV.un Go.UnOp.not r1217)) ∧
    ((AV.isBool (AV.un Go.UnOp.not r1793)) ∧
    (((isT (AV.un Go.UnOp.not r1793)) →
      ((AV.flatS (AV.mk 3 [])) ∧
      ((AV.flat (AV.int 3)) ∧
      (fSame (AV.tup [(AV.mk 3 []), (AV.int 3)]) r)))) ∧
    ((isF (AV.un Go.UnOp.not r1793)) →
      ((AV.isBool (AV.prj r577 1)) ∧
      (((isT (AV.prj r577 1)) →
        ((AV.flatS (AV.mk 3 [])) ∧
        ((AV.flat (AV.int 7)) ∧
        (fSame (AV.tup [(AV.mk 3 []), (AV.int 7)]) r)))) ∧
      ((isF (AV.prj r577 1)) →
        ((AV.isSl x0 3) ∧
        ((AV.binOk Go.BinOp.eql (AV.len x0) (AV.int 24)) ∧
        ((AV.isBool (AV.bin Go.BinOp.eql (AV.len x0) (AV.int 24))) ∧
        (((isT (AV.bin Go.BinOp.eql (AV.len x0) (AV.int 24))) →
          ((AV.flatS (AV.mk 3 [])) ∧
          ((AV.flat (AV.int 9)) ∧
          (fSame (AV.tup [(AV.mk 3 []), (AV.int 9)]) r)))) ∧
        ((isF (AV.bin Go.BinOp.eql (AV.len x0) (AV.int 24))) →
          (∃ r2625 : AV, ((Fn Try.prog 38 [x0] (Sh.row 44 3 true) r2625) ∧
          ((AV.isOne x1) ∧
          ((AV.isOne x2) ∧
          (∃ r3009 : AV, ((FnU Try.prog 43 44 3 r2625 [(AV.prj r577 0), (AV.mk 3 [[x1, x2, (AV.lit (Value.string ⟨#[]⟩))]])] true r3009) ∧
          ((AV.flatS r3009) ∧
          ((AV.flat (AV.int 0)) ∧
          (fSame (AV.tup [r3009, (AV.int 0)]) r)))))))))))))))))))))))))))))))))))))))))))) := by kernel_rfl
theorem end_form (x0 x1 x2 r : AV) : fnF Try.prog Γ ann 3 34 Try.f34 (Try.f34.body.getD .skip) (.nil) [x0, x1, x2] (.tup [.row 44 3 true, .sc]) r = (((AV.isOne x2) ∧
((fEnt Try.prog 44) ∧
(fAllV fun _ => (∃ r641 : AV, ((Fn Try.prog 37 [x0] Sh.sc r641) ∧
((AV.binOk Go.BinOp.neq r641 (AV.int 0)) ∧
((AV.isBool (AV.bin Go.BinOp.neq r641 (AV.int 0))) ∧
(((isT (AV.bin Go.BinOp.neq r641 (AV.int 0))) →
  ((AV.flatS (AV.mk 3 [])) ∧
  ((AV.flat r641) ∧
  (fSame (AV.tup [(AV.mk 3 []), r641]) r)))) ∧
((isF (AV.bin Go.BinOp.neq r641 (AV.int 0))) →
  (∃ r1025 : AV, ((Fn Try.prog 42 [x0, x1] (Sh.tup [Sh.sc, Sh.sc]) r1025) ∧
  ((AV.unOk Go.UnOp.not (AV.prj r1025 1)) ∧
  ((AV.isBool (AV.un Go.UnOp.not (AV.prj r1025 1))) ∧
  (((isT (AV.un Go.UnOp.not (AV.prj r1025 1))) →
    ((AV.flatS (AV.mk 3 [])) ∧
    ((AV.flat (AV.int 8)) ∧
    (fSame (AV.tup [(AV.mk 3 []), (AV.int 8)]) r)))) ∧
  ((isF (AV.un Go.UnOp.not (AV.prj r1025 1))) →
    (∃ r1601 : AV, ((Fn Try.prog 38 [x0] (Sh.row 44 3 true) r1601) ∧
    ((AV.inb r1601 (AV.prj r1025 0)) ∧
    ((fEnt Try.prog 48) ∧
    (fAllV fun _ => ((AV.inb r1601 (AV.prj r1025 0)) ∧
    ((AV.binOk Go.BinOp.neq (AV.at r1601 (AV.prj r1025 0) 1) x2) ∧
    ((AV.isBool (AV.bin Go.BinOp.neq (AV.at r1601 (AV.prj r1025 0) 1) x2)) ∧
    (((isT (AV.bin Go.BinOp.neq (AV.at r1601 (AV.prj r1025 0) 1) x2)) →
      ((AV.flatS (AV.mk 3 [])) ∧
      ((AV.flat (AV.int 16)) ∧
      (fSame (AV.tup [(AV.mk 3 []), (AV.int 16)]) r)))) ∧
    ((isF (AV.bin Go.BinOp.neq (AV.at r1601 (AV.prj r1025 0) 1) x2)) →
      ((AV.inb r1601 (AV.prj r1025 0)) ∧
      ((AV.inb (AV.setEl r1601 (AV.prj r1025 0) 0 [(AV.lit (Value.string ⟨#[]⟩))]) (AV.prj r1025 0)) ∧
      ((AV.inb (AV.setEl r1601 (AV.prj r1025 0) 0 [(AV.lit (Value.string ⟨#[]⟩))]) (AV.prj r1025 0)) ∧
      ((AV.binOk Go.BinOp.eql (AV.at (AV.setEl r1601 (AV.prj r1025 0) 0 [(AV.lit (Value.string ⟨#[]⟩))]) (AV.prj r1025 0) 0) (AV.lit (Value.string ⟨#[]⟩))) ∧
      ((AV.isBool (AV.bin Go.BinOp.eql (AV.at (AV.setEl r1601 (AV.prj r1025 0) 0 [(AV.lit (Value.string ⟨#[]⟩))]) (AV.prj r1025 0) 0) (AV.lit (Value.string ⟨#[]⟩)))) ∧
      (((isT (AV.bin Go.BinOp.eql (AV.at (AV.setEl r1601 (AV.prj r1025 0) 0 [(AV.lit (Value.string ⟨#[]⟩))]) (AV.prj r1025 0) 0) (AV.lit (Value.string ⟨#[]⟩)))) →
        ((AV.binOk Go.BinOp.add (AV.prj r1025 0) (AV.int 1)) ∧
        (∃ r3713 : AV, ((FnU Try.prog 55 44 3 (AV.setEl r1601 (AV.prj r1025 0) 0 [(AV.lit (Value.string ⟨#[]⟩))]) [(AV.prj r1025 0), (AV.bin Go.BinOp.add (AV.prj r1025 0) (AV.int 1))] true r3713) ∧
        ((AV.flatS r3713) ∧
        ((AV.flat (AV.int 0)) ∧
        (fSame (AV.tup [r3713, (AV.int 0)]) r))))))) ∧
      ((isF (AV.bin Go.BinOp.eql (AV.at (AV.setEl r1601 (AV.prj r1025 0) 0 [(AV.lit (Value.string ⟨#[]⟩))]) (AV.prj r1025 0) 0) (AV.lit (Value.string ⟨#[]⟩)))) →
        ((AV.flatS (AV.setEl r1601 (AV.prj r1025 0) 0 [(AV.lit (Value.string ⟨#[]⟩))])) ∧
        ((AV.flat (AV.int 0)) ∧
        (fSame (AV.tup [(AV.setEl r1601 (AV.prj r1025 0) 0 [(AV.lit (Value.string ⟨#[]⟩))]), (AV.int 0)]) r)))))))))))))))))))))))))))))))))))) := by kernel_rfl
theorem offer_form (x0 x1 x2 x3 r : AV) : fnF Try.prog Γ ann 4 29 Try.f29 (Try.f29.body.getD .skip) (.nil) [x0, x1, x2, x3] (.tup [.row 44 3 true, .sc]) r = (((AV.isOne x2) ∧
((AV.isOne x3) ∧
((fEnt Try.prog 44) ∧
(fAllV fun _ => (∃ r705 : AV, ((Fn Try.prog 37 [x0] Sh.sc r705) ∧
((AV.binOk Go.BinOp.neq r705 (AV.int 0)) ∧
((AV.isBool (AV.bin Go.BinOp.neq r705 (AV.int 0))) ∧
(((isT (AV.bin Go.BinOp.neq r705 (AV.int 0))) →
  ((AV.flatS (AV.mk 3 [])) ∧
  ((AV.flat r705) ∧
  (fSame (AV.tup [(AV.mk 3 []), r705]) r)))) ∧
((isF (AV.bin Go.BinOp.neq r705 (AV.int 0))) →
  (∃ r1089 : AV, ((Fn Try.prog 42 [x0, x1] (Sh.tup [Sh.sc, Sh.sc]) r1089) ∧
  ((AV.unOk Go.UnOp.not (AV.prj r1089 1)) ∧
  ((AV.isBool (AV.un Go.UnOp.not (AV.prj r1089 1))) ∧
  (((isT (AV.un Go.UnOp.not (AV.prj r1089 1))) →
    ((AV.flatS (AV.mk 3 [])) ∧
    ((AV.flat (AV.int 8)) ∧
    (fSame (AV.tup [(AV.mk 3 []), (AV.int 8)]) r)))) ∧
  ((isF (AV.un Go.UnOp.not (AV.prj r1089 1))) →
    (∃ r1665 : AV, ((Fn Try.prog 38 [x0] (Sh.row 44 3 true) r1665) ∧
    ((AV.inb r1665 (AV.prj r1089 0)) ∧
    ((fEnt Try.prog 45) ∧
    (fAllV fun _ => ((AV.inb r1665 (AV.prj r1089 0)) ∧
    ((AV.binOk Go.BinOp.neq (AV.at r1665 (AV.prj r1089 0) 1) x2) ∧
    ((AV.isBool (AV.bin Go.BinOp.neq (AV.at r1665 (AV.prj r1089 0) 1) x2)) ∧
    (((isT (AV.bin Go.BinOp.neq (AV.at r1665 (AV.prj r1089 0) 1) x2)) →
      ((AV.flatS (AV.mk 3 [])) ∧
      ((AV.flat (AV.int 16)) ∧
      (fSame (AV.tup [(AV.mk 3 []), (AV.int 16)]) r)))) ∧
    ((isF (AV.bin Go.BinOp.neq (AV.at r1665 (AV.prj r1089 0) 1) x2)) →
      ((AV.inb r1665 (AV.prj r1089 0)) ∧
      ((AV.binOk Go.BinOp.neq (AV.at r1665 (AV.prj r1089 0) 2) (AV.lit (Value.string ⟨#[]⟩))) ∧
      ((AV.isBool (AV.bin Go.BinOp.neq (AV.at r1665 (AV.prj r1089 0) 2) (AV.lit (Value.string ⟨#[]⟩)))) ∧
      (((isT (AV.bin Go.BinOp.neq (AV.at r1665 (AV.prj r1089 0) 2) (AV.lit (Value.string ⟨#[]⟩)))) →
        ((AV.flatS (AV.mk 3 [])) ∧
        ((AV.flat (AV.int 11)) ∧
        (fSame (AV.tup [(AV.mk 3 []), (AV.int 11)]) r)))) ∧
      ((isF (AV.bin Go.BinOp.neq (AV.at r1665 (AV.prj r1089 0) 2) (AV.lit (Value.string ⟨#[]⟩)))) →
        ((fEnt Try.prog 36) ∧
        (fAllV fun _ => (∃ r3265 : AV, ((Fn Try.prog 49 [x3] Sh.sc r3265) ∧
        ((AV.unOk Go.UnOp.not r3265) ∧
        ((AV.isBool (AV.un Go.UnOp.not r3265)) ∧
        (((isT (AV.un Go.UnOp.not r3265)) →
          ((AV.flatS (AV.mk 3 [])) ∧
          ((AV.flat (AV.int 3)) ∧
          (fSame (AV.tup [(AV.mk 3 []), (AV.int 3)]) r)))) ∧
        ((isF (AV.un Go.UnOp.not r3265)) →
          ((AV.binOk Go.BinOp.eql x3 x2) ∧
          ((AV.isBool (AV.bin Go.BinOp.eql x3 x2)) ∧
          (((isT (AV.bin Go.BinOp.eql x3 x2)) →
            ((AV.flatS (AV.mk 3 [])) ∧
            ((AV.flat (AV.int 1)) ∧
            (fSame (AV.tup [(AV.mk 3 []), (AV.int 1)]) r)))) ∧
          ((isF (AV.bin Go.BinOp.eql x3 x2)) →
            ((AV.isOne x3) ∧
            ((AV.inb r1665 (AV.prj r1089 0)) ∧
            ((AV.inb (AV.setEl r1665 (AV.prj r1089 0) 2 [x3]) (AV.prj r1089 0)) ∧
            ((AV.inb (AV.setEl r1665 (AV.prj r1089 0) 2 [x3]) (AV.prj r1089 0)) ∧
            ((AV.binOk Go.BinOp.eql (AV.at (AV.setEl r1665 (AV.prj r1089 0) 2 [x3]) (AV.prj r1089 0) 0) (AV.lit (Value.string ⟨#[]⟩))) ∧
            ((AV.isBool (AV.bin Go.BinOp.eql (AV.at (AV.setEl r1665 (AV.prj r1089 0) 2 [x3]) (AV.prj r1089 0) 0) (AV.lit (Value.string ⟨#[]⟩)))) ∧
            (((isT (AV.bin Go.BinOp.eql (AV.at (AV.setEl r1665 (AV.prj r1089 0) 2 [x3]) (AV.prj r1089 0) 0) (AV.lit (Value.string ⟨#[]⟩)))) →
              ((AV.binOk Go.BinOp.add (AV.prj r1089 0) (AV.int 1)) ∧
              (∃ r5121 : AV, ((FnU Try.prog 55 44 3 (AV.setEl r1665 (AV.prj r1089 0) 2 [x3]) [(AV.prj r1089 0), (AV.bin Go.BinOp.add (AV.prj r1089 0) (AV.int 1))] true r5121) ∧
              ((AV.flatS r5121) ∧
              ((AV.flat (AV.int 0)) ∧
              (fSame (AV.tup [r5121, (AV.int 0)]) r))))))) ∧
            ((isF (AV.bin Go.BinOp.eql (AV.at (AV.setEl r1665 (AV.prj r1089 0) 2 [x3]) (AV.prj r1089 0) 0) (AV.lit (Value.string ⟨#[]⟩)))) →
              ((AV.flatS (AV.setEl r1665 (AV.prj r1089 0) 2 [x3])) ∧
              ((AV.flat (AV.int 0)) ∧
              (fSame (AV.tup [(AV.setEl r1665 (AV.prj r1089 0) 2 [x3]), (AV.int 0)]) r))))))))))))))))))))))))))))))))))))))))))))))))))))))) := by kernel_rfl
theorem accept_form (x0 x1 x2 r : AV) : fnF Try.prog Γ ann 3 30 Try.f30 (Try.f30.body.getD .skip) (.nil) [x0, x1, x2] (.tup [.row 44 3 true, .sc]) r = (((AV.isOne x2) ∧
((fEnt Try.prog 44) ∧
(fAllV fun _ => (∃ r641 : AV, ((Fn Try.prog 37 [x0] Sh.sc r641) ∧
((AV.binOk Go.BinOp.neq r641 (AV.int 0)) ∧
((AV.isBool (AV.bin Go.BinOp.neq r641 (AV.int 0))) ∧
(((isT (AV.bin Go.BinOp.neq r641 (AV.int 0))) →
  ((AV.flatS (AV.mk 3 [])) ∧
  ((AV.flat r641) ∧
  (fSame (AV.tup [(AV.mk 3 []), r641]) r)))) ∧
((isF (AV.bin Go.BinOp.neq r641 (AV.int 0))) →
  (∃ r1025 : AV, ((Fn Try.prog 42 [x0, x1] (Sh.tup [Sh.sc, Sh.sc]) r1025) ∧
  ((AV.unOk Go.UnOp.not (AV.prj r1025 1)) ∧
  ((AV.isBool (AV.un Go.UnOp.not (AV.prj r1025 1))) ∧
  (((isT (AV.un Go.UnOp.not (AV.prj r1025 1))) →
    ((AV.flatS (AV.mk 3 [])) ∧
    ((AV.flat (AV.int 8)) ∧
    (fSame (AV.tup [(AV.mk 3 []), (AV.int 8)]) r)))) ∧
  ((isF (AV.un Go.UnOp.not (AV.prj r1025 1))) →
    (∃ r1601 : AV, ((Fn Try.prog 38 [x0] (Sh.row 44 3 true) r1601) ∧
    ((AV.inb r1601 (AV.prj r1025 0)) ∧
    ((fEnt Try.prog 46) ∧
    (fAllV fun _ => ((AV.inb r1601 (AV.prj r1025 0)) ∧
    ((AV.binOk Go.BinOp.eql (AV.at r1601 (AV.prj r1025 0) 2) (AV.lit (Value.string ⟨#[]⟩))) ∧
    ((AV.isBool (AV.bin Go.BinOp.eql (AV.at r1601 (AV.prj r1025 0) 2) (AV.lit (Value.string ⟨#[]⟩)))) ∧
    (((isT (AV.bin Go.BinOp.eql (AV.at r1601 (AV.prj r1025 0) 2) (AV.lit (Value.string ⟨#[]⟩)))) →
      ((AV.flatS (AV.mk 3 [])) ∧
      ((AV.flat (AV.int 11)) ∧
      (fSame (AV.tup [(AV.mk 3 []), (AV.int 11)]) r)))) ∧
    ((isF (AV.bin Go.BinOp.eql (AV.at r1601 (AV.prj r1025 0) 2) (AV.lit (Value.string ⟨#[]⟩)))) →
      ((AV.inb r1601 (AV.prj r1025 0)) ∧
      ((AV.binOk Go.BinOp.neq (AV.at r1601 (AV.prj r1025 0) 2) x2) ∧
      ((AV.isBool (AV.bin Go.BinOp.neq (AV.at r1601 (AV.prj r1025 0) 2) x2)) ∧
      (((isT (AV.bin Go.BinOp.neq (AV.at r1601 (AV.prj r1025 0) 2) x2)) →
        ((AV.flatS (AV.mk 3 [])) ∧
        ((AV.flat (AV.int 16)) ∧
        (fSame (AV.tup [(AV.mk 3 []), (AV.int 16)]) r)))) ∧
      ((isF (AV.bin Go.BinOp.neq (AV.at r1601 (AV.prj r1025 0) 2) x2)) →
        ((AV.isOne x2) ∧
        ((AV.inb r1601 (AV.prj r1025 0)) ∧
        ((AV.inb (AV.setEl r1601 (AV.prj r1025 0) 1 [x2]) (AV.prj r1025 0)) ∧
        ((AV.inb (AV.setEl (AV.setEl r1601 (AV.prj r1025 0) 1 [x2]) (AV.prj r1025 0) 2 [(AV.lit (Value.string ⟨#[]⟩))]) (AV.prj r1025 0)) ∧
        ((AV.inb (AV.setEl (AV.setEl r1601 (AV.prj r1025 0) 1 [x2]) (AV.prj r1025 0) 2 [(AV.lit (Value.string ⟨#[]⟩))]) (AV.prj r1025 0)) ∧
        ((AV.binOk Go.BinOp.eql (AV.at (AV.setEl (AV.setEl r1601 (AV.prj r1025 0) 1 [x2]) (AV.prj r1025 0) 2 [(AV.lit (Value.string ⟨#[]⟩))]) (AV.prj r1025 0) 0) (AV.lit (Value.string ⟨#[]⟩))) ∧
        ((AV.isBool (AV.bin Go.BinOp.eql (AV.at (AV.setEl (AV.setEl r1601 (AV.prj r1025 0) 1 [x2]) (AV.prj r1025 0) 2 [(AV.lit (Value.string ⟨#[]⟩))]) (AV.prj r1025 0) 0) (AV.lit (Value.string ⟨#[]⟩)))) ∧
        (((isT (AV.bin Go.BinOp.eql (AV.at (AV.setEl (AV.setEl r1601 (AV.prj r1025 0) 1 [x2]) (AV.prj r1025 0) 2 [(AV.lit (Value.string ⟨#[]⟩))]) (AV.prj r1025 0) 0) (AV.lit (Value.string ⟨#[]⟩)))) →
          ((AV.binOk Go.BinOp.add (AV.prj r1025 0) (AV.int 1)) ∧
          (∃ r4481 : AV, ((FnU Try.prog 55 44 3 (AV.setEl (AV.setEl r1601 (AV.prj r1025 0) 1 [x2]) (AV.prj r1025 0) 2 [(AV.lit (Value.string ⟨#[]⟩))]) [(AV.prj r1025 0), (AV.bin Go.BinOp.add (AV.prj r1025 0) (AV.int 1))] true r4481) ∧
          ((AV.flatS r4481) ∧
          ((AV.flat (AV.int 0)) ∧
          (fSame (AV.tup [r4481, (AV.int 0)]) r))))))) ∧
        ((isF (AV.bin Go.BinOp.eql (AV.at (AV.setEl (AV.setEl r1601 (AV.prj r1025 0) 1 [x2]) (AV.prj r1025 0) 2 [(AV.lit (Value.string ⟨#[]⟩))]) (AV.prj r1025 0) 0) (AV.lit (Value.string ⟨#[]⟩)))) →
          ((AV.flatS (AV.setEl (AV.setEl r1601 (AV.prj r1025 0) 1 [x2]) (AV.prj r1025 0) 2 [(AV.lit (Value.string ⟨#[]⟩))])) ∧
          ((AV.flat (AV.int 0)) ∧
          (fSame (AV.tup [(AV.setEl (AV.setEl r1601 (AV.prj r1025 0) 1 [x2]) (AV.prj r1025 0) 2 [(AV.lit (Value.string ⟨#[]⟩))]), (AV.int 0)]) r))))))))))))))))))))))))))))))))))))))))))) := by kernel_rfl
theorem cancel_form (x0 x1 x2 r : AV) : fnF Try.prog Γ ann 3 31 Try.f31 (Try.f31.body.getD .skip) (.nil) [x0, x1, x2] (.tup [.row 44 3 true, .sc]) r = (((AV.isOne x2) ∧
((fEnt Try.prog 44) ∧
(fAllV fun _ => (∃ r641 : AV, ((Fn Try.prog 37 [x0] Sh.sc r641) ∧
((AV.binOk Go.BinOp.neq r641 (AV.int 0)) ∧
((AV.isBool (AV.bin Go.BinOp.neq r641 (AV.int 0))) ∧
(((isT (AV.bin Go.BinOp.neq r641 (AV.int 0))) →
  ((AV.flatS (AV.mk 3 [])) ∧
  ((AV.flat r641) ∧
  (fSame (AV.tup [(AV.mk 3 []), r641]) r)))) ∧
((isF (AV.bin Go.BinOp.neq r641 (AV.int 0))) →
  (∃ r1025 : AV, ((Fn Try.prog 42 [x0, x1] (Sh.tup [Sh.sc, Sh.sc]) r1025) ∧
  ((AV.unOk Go.UnOp.not (AV.prj r1025 1)) ∧
  ((AV.isBool (AV.un Go.UnOp.not (AV.prj r1025 1))) ∧
  (((isT (AV.un Go.UnOp.not (AV.prj r1025 1))) →
    ((AV.flatS (AV.mk 3 [])) ∧
    ((AV.flat (AV.int 8)) ∧
    (fSame (AV.tup [(AV.mk 3 []), (AV.int 8)]) r)))) ∧
  ((isF (AV.un Go.UnOp.not (AV.prj r1025 1))) →
    (∃ r1601 : AV, ((Fn Try.prog 38 [x0] (Sh.row 44 3 true) r1601) ∧
    ((AV.inb r1601 (AV.prj r1025 0)) ∧
    ((fEnt Try.prog 47) ∧
    (fAllV fun _ => ((AV.inb r1601 (AV.prj r1025 0)) ∧
    ((AV.binOk Go.BinOp.eql (AV.at r1601 (AV.prj r1025 0) 2) (AV.lit (Value.string ⟨#[]⟩))) ∧
    ((AV.isBool (AV.bin Go.BinOp.eql (AV.at r1601 (AV.prj r1025 0) 2) (AV.lit (Value.string ⟨#[]⟩)))) ∧
    (((isT (AV.bin Go.BinOp.eql (AV.at r1601 (AV.prj r1025 0) 2) (AV.lit (Value.string ⟨#[]⟩)))) →
      ((AV.flatS (AV.mk 3 [])) ∧
      ((AV.flat (AV.int 11)) ∧
      (fSame (AV.tup [(AV.mk 3 []), (AV.int 11)]) r)))) ∧
    ((isF (AV.bin Go.BinOp.eql (AV.at r1601 (AV.prj r1025 0) 2) (AV.lit (Value.string ⟨#[]⟩)))) →
      ((AV.inb r1601 (AV.prj r1025 0)) ∧
      ((AV.binOk Go.BinOp.neq (AV.at r1601 (AV.prj r1025 0) 2) x2) ∧
      ((AV.isBool (AV.bin Go.BinOp.neq (AV.at r1601 (AV.prj r1025 0) 2) x2)) ∧
      (((isT (AV.bin Go.BinOp.neq (AV.at r1601 (AV.prj r1025 0) 2) x2)) →
        ((AV.inb r1601 (AV.prj r1025 0)) ∧
        ((AV.binOk Go.BinOp.neq (AV.at r1601 (AV.prj r1025 0) 1) x2) ∧
        ((AV.isBool (AV.bin Go.BinOp.neq (AV.at r1601 (AV.prj r1025 0) 2) x2)) ∧
        ((isT (AV.bin Go.BinOp.neq (AV.at r1601 (AV.prj r1025 0) 2) x2)) ∧
        ((AV.isBool (AV.bin Go.BinOp.neq (AV.at r1601 (AV.prj r1025 0) 1) x2)) ∧
        (((isT (AV.bin Go.BinOp.neq (AV.at r1601 (AV.prj r1025 0) 1) x2)) →
          ((AV.flatS (AV.mk 3 [])) ∧
          ((AV.flat (AV.int 16)) ∧
          (fSame (AV.tup [(AV.mk 3 []), (AV.int 16)]) r)))) ∧
        ((isF (AV.bin Go.BinOp.neq (AV.at r1601 (AV.prj r1025 0) 1) x2)) →
          ((AV.inb r1601 (AV.prj r1025 0)) ∧
          ((AV.inb (AV.setEl r1601 (AV.prj r1025 0) 2 [(AV.lit (Value.string ⟨#[]⟩))]) (AV.prj r1025 0)) ∧
          ((AV.inb (AV.setEl r1601 (AV.prj r1025 0) 2 [(AV.lit (Value.string ⟨#[]⟩))]) (AV.prj r1025 0)) ∧
          ((AV.binOk Go.BinOp.eql (AV.at (AV.setEl r1601 (AV.prj r1025 0) 2 [(AV.lit (Value.string ⟨#[]⟩))]) (AV.prj r1025 0) 0) (AV.lit (Value.string ⟨#[]⟩))) ∧
          ((AV.isBool (AV.bin Go.BinOp.eql (AV.at (AV.setEl r1601 (AV.prj r1025 0) 2 [(AV.lit (Value.string ⟨#[]⟩))]) (AV.prj r1025 0) 0) (AV.lit (Value.string ⟨#[]⟩)))) ∧
          (((isT (AV.bin Go.BinOp.eql (AV.at (AV.setEl r1601 (AV.prj r1025 0) 2 [(AV.lit (Value.string ⟨#[]⟩))]) (AV.prj r1025 0) 0) (AV.lit (Value.string ⟨#[]⟩)))) →
            ((AV.binOk Go.BinOp.add (AV.prj r1025 0) (AV.int 1)) ∧
            (∃ r4673 : AV, ((FnU Try.prog 55 44 3 (AV.setEl r1601 (AV.prj r1025 0) 2 [(AV.lit (Value.string ⟨#[]⟩))]) [(AV.prj r1025 0), (AV.bin Go.BinOp.add (AV.prj r1025 0) (AV.int 1))] true r4673) ∧
            ((AV.flatS r4673) ∧
            ((AV.flat (AV.int 0)) ∧
            (fSame (AV.tup [r4673, (AV.int 0)]) r))))))) ∧
          ((isF (AV.bin Go.BinOp.eql (AV.at (AV.setEl r1601 (AV.prj r1025 0) 2 [(AV.lit (Value.string ⟨#[]⟩))]) (AV.prj r1025 0) 0) (AV.lit (Value.string ⟨#[]⟩)))) →
            ((AV.flatS (AV.setEl r1601 (AV.prj r1025 0) 2 [(AV.lit (Value.string ⟨#[]⟩))])) ∧
            ((AV.flat (AV.int 0)) ∧
            (fSame (AV.tup [(AV.setEl r1601 (AV.prj r1025 0) 2 [(AV.lit (Value.string ⟨#[]⟩))]), (AV.int 0)]) r)))))))))))))))))) ∧
      ((isF (AV.bin Go.BinOp.neq (AV.at r1601 (AV.prj r1025 0) 2) x2)) →
        ((AV.isBool (AV.bin Go.BinOp.neq (AV.at r1601 (AV.prj r1025 0) 2) x2)) ∧
        ((isF (AV.bin Go.BinOp.neq (AV.at r1601 (AV.prj r1025 0) 2) x2)) ∧
        ((AV.inb r1601 (AV.prj r1025 0)) ∧
        ((AV.inb (AV.setEl r1601 (AV.prj r1025 0) 2 [(AV.lit (Value.string ⟨#[]⟩))]) (AV.prj r1025 0)) ∧
        ((AV.inb (AV.setEl r1601 (AV.prj r1025 0) 2 [(AV.lit (Value.string ⟨#[]⟩))]) (AV.prj r1025 0)) ∧
        ((AV.binOk Go.BinOp.eql (AV.at (AV.setEl r1601 (AV.prj r1025 0) 2 [(AV.lit (Value.string ⟨#[]⟩))]) (AV.prj r1025 0) 0) (AV.lit (Value.string ⟨#[]⟩))) ∧
        ((AV.isBool (AV.bin Go.BinOp.eql (AV.at (AV.setEl r1601 (AV.prj r1025 0) 2 [(AV.lit (Value.string ⟨#[]⟩))]) (AV.prj r1025 0) 0) (AV.lit (Value.string ⟨#[]⟩)))) ∧
        (((isT (AV.bin Go.BinOp.eql (AV.at (AV.setEl r1601 (AV.prj r1025 0) 2 [(AV.lit (Value.string ⟨#[]⟩))]) (AV.prj r1025 0) 0) (AV.lit (Value.string ⟨#[]⟩)))) →
          ((AV.binOk Go.BinOp.add (AV.prj r1025 0) (AV.int 1)) ∧
          (∃ r4673 : AV, ((FnU Try.prog 55 44 3 (AV.setEl r1601 (AV.prj r1025 0) 2 [(AV.lit (Value.string ⟨#[]⟩))]) [(AV.prj r1025 0), (AV.bin Go.BinOp.add (AV.prj r1025 0) (AV.int 1))] true r4673) ∧
          ((AV.flatS r4673) ∧
          ((AV.flat (AV.int 0)) ∧
          (fSame (AV.tup [r4673, (AV.int 0)]) r))))))) ∧
        ((isF (AV.bin Go.BinOp.eql (AV.at (AV.setEl r1601 (AV.prj r1025 0) 2 [(AV.lit (Value.string ⟨#[]⟩))]) (AV.prj r1025 0) 0) (AV.lit (Value.string ⟨#[]⟩)))) →
          ((AV.flatS (AV.setEl r1601 (AV.prj r1025 0) 2 [(AV.lit (Value.string ⟨#[]⟩))])) ∧
          ((AV.flat (AV.int 0)) ∧
          (fSame (AV.tup [(AV.setEl r1601 (AV.prj r1025 0) 2 [(AV.lit (Value.string ⟨#[]⟩))]), (AV.int 0)]) r))))))))))))))))))))))))))))))))))))))))))) := by kernel_rfl
theorem move_form (x0 x1 x2 r : AV) : fnF Try.prog Γ ann 2 15 Try.f15 (Try.f15.body.getD .skip) (.nil) [x0, x1, x2] (.tup [.row 44 3 true, .sc]) r = ((∃ r193 : AV, ((Fn Try.prog 37 [x0] Sh.sc r193) ∧
((AV.binOk Go.BinOp.neq r193 (AV.int 0)) ∧
((AV.isBool (AV.bin Go.BinOp.neq r193 (AV.int 0))) ∧
(((isT (AV.bin Go.BinOp.neq r193 (AV.int 0))) →
  ((AV.flatS (AV.mk 3 [])) ∧
  ((AV.flat r193) ∧
  (fSame (AV.tup [(AV.mk 3 []), r193]) r)))) ∧
((isF (AV.bin Go.BinOp.neq r193 (AV.int 0))) →
  ((fEnt Try.prog 36) ∧
  (fAllV fun _ => (∃ r705 : AV, ((Fn Try.prog 49 [x1] Sh.sc r705) ∧
  ((AV.unOk Go.UnOp.not r705) ∧
  ((AV.isBool (AV.un Go.UnOp.not r705)) ∧
  (((isT (AV.un Go.UnOp.not r705)) →
    ((AV.isBool (AV.un Go.UnOp.not r705)) ∧
    ((isT (AV.un Go.UnOp.not r705)) ∧
    ((AV.flatS (AV.mk 3 [])) ∧
    ((AV.flat (AV.int 3)) ∧
    (fSame (AV.tup [(AV.mk 3 []), (AV.int 3)]) r)))))) ∧
  ((isF (AV.un Go.UnOp.not r705)) →
    ((fEnt Try.prog 36) ∧
    (fAllV fun _ => (∃ r1281 : AV, ((Fn Try.prog 49 [x2] Sh.sc r1281) ∧
    ((AV.unOk Go.UnOp.not r1281) ∧
    ((AV.isBool (AV.un Go.UnOp.not r705)) ∧
    ((isF (AV.un Go.UnOp.not r705)) ∧
    ((AV.isBool (AV.un Go.UnOp.not r1281)) ∧
    (((isT (AV.un Go.UnOp.not r1281)) →
      ((AV.flatS (AV.mk 3 [])) ∧
      ((AV.flat (AV.int 3)) ∧
      (fSame (AV.tup [(AV.mk 3 []), (AV.int 3)]) r)))) ∧
    ((isF (AV.un Go.UnOp.not r1281)) →
      (∃ r1665 : AV, ((Fn Try.prog 38 [x0] (Sh.row 44 3 true) r1665) ∧
      (fLoop 1985 [(AV.int 0), r1665] fun ys1985 again1985 =>
        ((AV.binOk Go.BinOp.lss (ys1985.getD 0 default) (AV.len r1665)) ∧
        ((AV.isBool (AV.bin Go.BinOp.lss (ys1985.getD 0 default) (AV.len r1665))) ∧
        (((isT (AV.bin Go.BinOp.lss (ys1985.getD 0 default) (AV.len r1665))) →
          ((AV.inb (ys1985.getD 1 default) (ys1985.getD 0 default)) ∧
          ((AV.inb (ys1985.getD 1 default) (ys1985.getD 0 default)) ∧
          ((AV.binOk Go.BinOp.eql (AV.at (ys1985.getD 1 default) (ys1985.getD 0 default) 1) x1) ∧
          ((AV.isBool (AV.bin Go.BinOp.eql (AV.at (ys1985.getD 1 default) (ys1985.getD 0 default) 1) x1)) ∧
          (((isT (AV.bin Go.BinOp.eql (AV.at (ys1985.getD 1 default) (ys1985.getD 0 default) 1) x1)) →
            ((AV.isOne x2) ∧
            ((AV.inb (ys1985.getD 1 default) (ys1985.getD 0 default)) ∧
            ((AV.inb (AV.setEl (ys1985.getD 1 default) (ys1985.getD 0 default) 1 [x2]) (ys1985.getD 0 default)) ∧
            ((AV.binOk Go.BinOp.eql (AV.at (AV.setEl (ys1985.getD 1 default) (ys1985.getD 0 default) 1 [x2]) (ys1985.getD 0 default) 2) x1) ∧
            ((AV.isBool (AV.bin Go.BinOp.eql (AV.at (AV.setEl (ys1985.getD 1 default) (ys1985.getD 0 default) 1 [x2]) (ys1985.getD 0 default) 2) x1)) ∧
            (((isT (AV.bin Go.BinOp.eql (AV.at (AV.setEl (ys1985.getD 1 default) (ys1985.getD 0 default) 1 [x2]) (ys1985.getD 0 default) 2) x1)) →
              ((AV.isOne x2) ∧
              ((AV.inb (AV.setEl (ys1985.getD 1 default) (ys1985.getD 0 default) 1 [x2]) (ys1985.getD 0 default)) ∧
              ((AV.inb (AV.setEl (AV.setEl (ys1985.getD 1 default) (ys1985.getD 0 default) 1 [x2]) (ys1985.getD 0 default) 2 [x2]) (ys1985.getD 0 default)) ∧
              ((AV.inb (AV.setEl (AV.setEl (ys1985.getD 1 default) (ys1985.getD 0 default) 1 [x2]) (ys1985.getD 0 default) 2 [x2]) (ys1985.getD 0 default)) ∧
              ((AV.binOk Go.BinOp.eql (AV.at (AV.setEl (AV.setEl (ys1985.getD 1 default) (ys1985.getD 0 default) 1 [x2]) (ys1985.getD 0 default) 2 [x2]) (ys1985.getD 0 default) 2) (AV.at (AV.setEl (AV.setEl (ys1985.getD 1 default) (ys1985.getD 0 default) 1 [x2]) (ys1985.getD 0 default) 2 [x2]) (ys1985.getD 0 default) 1)) ∧
              ((AV.isBool (AV.bin Go.BinOp.eql (AV.at (AV.setEl (AV.setEl (ys1985.getD 1 default) (ys1985.getD 0 default) 1 [x2]) (ys1985.getD 0 default) 2 [x2]) (ys1985.getD 0 default) 2) (AV.at (AV.setEl (AV.setEl (ys1985.getD 1 default) (ys1985.getD 0 default) 1 [x2]) (ys1985.getD 0 default) 2 [x2]) (ys1985.getD 0 default) 1))) ∧
              (((isT (AV.bin Go.BinOp.eql (AV.at (AV.setEl (AV.setEl (ys1985.getD 1 default) (ys1985.getD 0 default) 1 [x2]) (ys1985.getD 0 default) 2 [x2]) (ys1985.getD 0 default) 2) (AV.at (AV.setEl (AV.setEl (ys1985.getD 1 default) (ys1985.getD 0 default) 1 [x2]) (ys1985.getD 0 default) 2 [x2]) (ys1985.getD 0 default) 1))) →
                ((AV.inb (AV.setEl (AV.setEl (ys1985.getD 1 default) (ys1985.getD 0 default) 1 [x2]) (ys1985.getD 0 default) 2 [x2]) (ys1985.getD 0 default)) ∧
                ((AV.binOk Go.BinOp.add (ys1985.getD 0 default) (AV.int 1)) ∧
                (again1985 [(AV.bin Go.BinOp.add (ys1985.getD 0 default) (AV.int 1)), (AV.setEl (AV.setEl (AV.setEl (ys1985.getD 1 default) (ys1985.getD 0 default) 1 [x2]) (ys1985.getD 0 default) 2 [x2]) (ys1985.getD 0 default) 2 [(AV.lit (Value.string ⟨#[]⟩))])])))) ∧
              ((isF (AV.bin Go.BinOp.eql (AV.at (AV.setEl (AV.setEl (ys1985.getD 1 default) (ys1985.getD 0 default) 1 [x2]) (ys1985.getD 0 default) 2 [x2]) (ys1985.getD 0 default) 2) (AV.at (AV.setEl (AV.setEl (ys1985.getD 1 default) (ys1985.getD 0 default) 1 [x2]) (ys1985.getD 0 default) 2 [x2]) (ys1985.getD 0 default) 1))) →
                ((AV.binOk Go.BinOp.add (ys1985.getD 0 default) (AV.int 1)) ∧
                (again1985 [(AV.bin Go.BinOp.add (ys1985.getD 0 default) (AV.int 1)), (AV.setEl (AV.setEl (ys1985.getD 1 default) (ys1985.getD 0 default) 1 [x2]) (ys1985.getD 0 default) 2 [x2])]))))))))))) ∧
            ((isF (AV.bin Go.BinOp.eql (AV.at (AV.setEl (ys1985.getD 1 default) (ys1985.getD 0 default) 1 [x2]) (ys1985.getD 0 default) 2) x1)) →
              ((AV.inb (AV.setEl (ys1985.getD 1 default) (ys1985.getD 0 default) 1 [x2]) (ys1985.getD 0 default)) ∧
              ((AV.inb (AV.setEl (ys1985.getD 1 default) (ys1985.getD 0 default) 1 [x2]) (ys1985.getD 0 default)) ∧
              ((AV.binOk Go.BinOp.eql (AV.at (AV.setEl (ys1985.getD 1 default) (ys1985.getD 0 default) 1 [x2]) (ys1985.getD 0 default) 2) (AV.at (AV.setEl (ys1985.getD 1 default) (ys1985.getD 0 default) 1 [x2]) (ys1985.getD 0 default) 1)) ∧
              ((AV.isBool (AV.bin Go.BinOp.eql (AV.at (AV.setEl (ys1985.getD 1 default) (ys1985.getD 0 default) 1 [x2]) (ys1985.getD 0 default) 2) (AV.at (AV.setEl (ys1985.getD 1 default) (ys1985.getD 0 default) 1 [x2]) (ys1985.getD 0 default) 1))) ∧
              (((isT (AV.bin Go.BinOp.eql (AV.at (AV.setEl (ys1985.getD 1 default) (ys1985.getD 0 default) 1 [x2]) (ys1985.getD 0 default) 2) (AV.at (AV.setEl (ys1985.getD 1 default) (ys1985.getD 0 default) 1 [x2]) (ys1985.getD 0 default) 1))) →
                ((AV.inb (AV.setEl (ys1985.getD 1 default) (ys1985.getD 0 default) 1 [x2]) (ys1985.getD 0 default)) ∧
                ((AV.binOk Go.BinOp.add (ys1985.getD 0 default) (AV.int 1)) ∧
                (again1985 [(AV.bin Go.BinOp.add (ys1985.getD 0 default) (AV.int 1)), (AV.setEl (AV.setEl (ys1985.getD 1 default) (ys1985.getD 0 default) 1 [x2]) (ys1985.getD 0 default) 2 [(AV.lit (Value.string ⟨#[]⟩))])])))) ∧
              ((isF (AV.bin Go.BinOp.eql (AV.at (AV.setEl (ys1985.getD 1 default) (ys1985.getD 0 default) 1 [x2]) (ys1985.getD 0 default) 2) (AV.at (AV.setEl (ys1985.getD 1 default) (ys1985.getD 0 default) 1 [x2]) (ys1985.getD 0 default) 1))) →
                ((AV.binOk Go.BinOp.add (ys1985.getD 0 default) (AV.int 1)) ∧
                (again1985 [(AV.bin Go.BinOp.add (ys1985.getD 0 default) (AV.int 1)), (AV.setEl (ys1985.getD 1 default) (ys1985.getD 0 default) 1 [x2])])))))))))))))))) ∧
          ((isF (AV.bin Go.BinOp.eql (AV.at (ys1985.getD 1 default) (ys1985.getD 0 default) 1) x1)) →
            ((AV.inb (ys1985.getD 1 default) (ys1985.getD 0 default)) ∧
            ((AV.binOk Go.BinOp.eql (AV.at (ys1985.getD 1 default) (ys1985.getD 0 default) 2) x1) ∧
            ((AV.isBool (AV.bin Go.BinOp.eql (AV.at (ys1985.getD 1 default) (ys1985.getD 0 default) 2) x1)) ∧
            (((isT (AV.bin Go.BinOp.eql (AV.at (ys1985.getD 1 default) (ys1985.getD 0 default) 2) x1)) →
              ((AV.isOne x2) ∧
              ((AV.inb (ys1985.getD 1 default) (ys1985.getD 0 default)) ∧
              ((AV.inb (AV.setEl (ys1985.getD 1 default) (ys1985.getD 0 default) 2 [x2]) (ys1985.getD 0 default)) ∧
              ((AV.inb (AV.setEl (ys1985.getD 1 default) (ys1985.getD 0 default) 2 [x2]) (ys1985.getD 0 default)) ∧
              ((AV.binOk Go.BinOp.eql (AV.at (AV.setEl (ys1985.getD 1 default) (ys1985.getD 0 default) 2 [x2]) (ys1985.getD 0 default) 2) (AV.at (AV.setEl (ys1985.getD 1 default) (ys1985.getD 0 default) 2 [x2]) (ys1985.getD 0 default) 1)) ∧
              ((AV.isBool (AV.bin Go.BinOp.eql (AV.at (AV.setEl (ys1985.getD 1 default) (ys1985.getD 0 default) 2 [x2]) (ys1985.getD 0 default) 2) (AV.at (AV.setEl (ys1985.getD 1 default) (ys1985.getD 0 default) 2 [x2]) (ys1985.getD 0 default) 1))) ∧
              (((isT (AV.bin Go.BinOp.eql (AV.at (AV.setEl (ys1985.getD 1 default) (ys1985.getD 0 default) 2 [x2]) (ys1985.getD 0 default) 2) (AV.at (AV.setEl (ys1985.getD 1 default) (ys1985.getD 0 default) 2 [x2]) (ys1985.getD 0 default) 1))) →
                ((AV.inb (AV.setEl (ys1985.getD 1 default) (ys1985.getD 0 default) 2 [x2]) (ys1985.getD 0 default)) ∧
                ((AV.binOk Go.BinOp.add (ys1985.getD 0 default) (AV.int 1)) ∧
                (again1985 [(AV.bin Go.BinOp.add (ys1985.getD 0 default) (AV.int 1)), (AV.setEl (AV.setEl (ys1985.getD 1 default) (ys1985.getD 0 default) 2 [x2]) (ys1985.getD 0 default) 2 [(AV.lit (Value.string ⟨#[]⟩))])])))) ∧
              ((isF (AV.bin Go.BinOp.eql (AV.at (AV.setEl (ys1985.getD 1 default) (ys1985.getD 0 default) 2 [x2]) (ys1985.getD 0 default) 2) (AV.at (AV.setEl (ys1985.getD 1 default) (ys1985.getD 0 default) 2 [x2]) (ys1985.getD 0 default) 1))) →
                ((AV.binOk Go.BinOp.add (ys1985.getD 0 default) (AV.int 1)) ∧
                (again1985 [(AV.bin Go.BinOp.add (ys1985.getD 0 default) (AV.int 1)), (AV.setEl (ys1985.getD 1 default) (ys1985.getD 0 default) 2 [x2])]))))))))))) ∧
            ((isF (AV.bin Go.BinOp.eql (AV.at (ys1985.getD 1 default) (ys1985.getD 0 default) 2) x1)) →
              ((AV.inb (ys1985.getD 1 default) (ys1985.getD 0 default)) ∧
              ((AV.inb (ys1985.getD 1 default) (ys1985.getD 0 default)) ∧
              ((AV.binOk Go.BinOp.eql (AV.at (ys1985.getD 1 default) (ys1985.getD 0 default) 2) (AV.at (ys1985.getD 1 default) (ys1985.getD 0 default) 1)) ∧
              ((AV.isBool (AV.bin Go.BinOp.eql (AV.at (ys1985.getD 1 default) (ys1985.getD 0 default) 2) (AV.at (ys1985.getD 1 default) (ys1985.getD 0 default) 1))) ∧
              (((isT (AV.bin Go.BinOp.eql (AV.at (ys1985.getD 1 default) (ys1985.getD 0 default) 2) (AV.at (ys1985.getD 1 default) (ys1985.getD 0 default) 1))) →
                ((AV.inb (ys1985.getD 1 default) (ys1985.getD 0 default)) ∧
                ((AV.binOk Go.BinOp.add (ys1985.getD 0 default) (AV.int 1)) ∧
                (again1985 [(AV.bin Go.BinOp.add (ys1985.getD 0 default) (AV.int 1)), (AV.setEl (ys1985.getD 1 default) (ys1985.getD 0 default) 2 [(AV.lit (Value.string ⟨#[]⟩))])])))) ∧
              ((isF (AV.bin Go.BinOp.eql (AV.at (ys1985.getD 1 default) (ys1985.getD 0 default) 2) (AV.at (ys1985.getD 1 default) (ys1985.getD 0 default) 1))) →
                ((AV.binOk Go.BinOp.add (ys1985.getD 0 default) (AV.int 1)) ∧
                (again1985 [(AV.bin Go.BinOp.add (ys1985.getD 0 default) (AV.int 1)), (ys1985.getD 1 default)])))))))))))))))))))) ∧
        ((isF (AV.bin Go.BinOp.lss (ys1985.getD 0 default) (AV.len r1665))) →
          ((AV.flatS (ys1985.getD 1 default)) ∧
          ((AV.flat (AV.int 0)) ∧
          (fSame (AV.tup [(ys1985.getD 1 default), (AV.int 0)]) r))))))))))))))))))))))))))))))))))) := by kernel_rfl
end OwnerF
end Go.Proofs.Ytalfopommofdfaa
