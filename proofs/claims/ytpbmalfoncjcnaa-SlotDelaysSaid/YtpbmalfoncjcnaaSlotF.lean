/- slot: what the run ends in. -/
import Derived.Test.YtpbmalfoncjcnaaVal
namespace Go.Proofs.Ytpbmalfoncjcnaa
open Go.RowKit
set_option linter.unusedVariables false
set_option maxRecDepth 100000
namespace SlotF
--GAMMA
def Γ : FuncId → Option Ca := fun f =>
  if f = 50 ∨ f = 13 ∨ f = 10 ∨ f = 54 ∨ f = 40 ∨ f = 11 ∨ f = 51 ∨ f = 53 ∨ f = 52 ∨ f = 8 ∨ f = 14 ∨ f = 16 ∨ f = 20 ∨ f = 45 ∨ f = 44 then some (.fn .sc)
  else if f = 9 ∨ f = 25 ∨ f = 18 ∨ f = 15 then some (.fn (.tup [.row 34 3 true, .sc]))
  else if f = 17 ∨ f = 19 then some (.fn (.tup [.row 3 1 true, .sc]))
  else if f = 42 then some (.upd false)
  else some .inl
def ann : FuncId → Nat → LoopEx := fun f r => if f = 9 ∧ r = 14 then ⟨[], [1000011], [], []⟩ else if f = 55 then ⟨[], [1000000], [], []⟩ else if f = 15 ∧ r = 3 then ⟨[], [], [], [(8, 0, 0, 0)]⟩ else ⟨[], [], [], []⟩
--END GAMMA
theorem cmp_form (x0 x1 r : AV) : fnF Try.prog Γ ann 2 45 Try.f45 (Try.f45.body.getD .skip) (.nil) [x0, x1] (.sc) r = (((fEnt Try.prog 73) ∧
(fAllV fun _ => ((AV.binOk Go.BinOp.neq x0 x0) ∧
((fEnt Try.prog 73) ∧
(fAllV fun _ => ((AV.binOk Go.BinOp.neq x1 x1) ∧
((AV.isBool (AV.bin Go.BinOp.neq x0 x0)) ∧
(((isT (AV.bin Go.BinOp.neq x0 x0)) →
  ((AV.isBool (AV.bin Go.BinOp.neq x1 x1)) ∧
  (((isT (AV.bin Go.BinOp.neq x1 x1)) →
    ((AV.flat (AV.int 0)) ∧
    (fSame (AV.int 0) r))) ∧
  ((isF (AV.bin Go.BinOp.neq x1 x1)) →
    ((AV.flat (AV.int (-1))) ∧
    (fSame (AV.int (-1)) r)))))) ∧
((isF (AV.bin Go.BinOp.neq x0 x0)) →
  ((AV.isBool (AV.bin Go.BinOp.neq x1 x1)) ∧
  (((isT (AV.bin Go.BinOp.neq x1 x1)) →
    ((AV.flat (AV.int 1)) ∧
    (fSame (AV.int 1) r))) ∧
  ((isF (AV.bin Go.BinOp.neq x1 x1)) →
    ((AV.binOk Go.BinOp.lss x0 x1) ∧
    ((AV.isBool (AV.bin Go.BinOp.lss x0 x1)) ∧
    (((isT (AV.bin Go.BinOp.lss x0 x1)) →
      ((AV.flat (AV.int (-1))) ∧
      (fSame (AV.int (-1)) r))) ∧
    ((isF (AV.bin Go.BinOp.lss x0 x1)) →
      ((AV.binOk Go.BinOp.gtr x0 x1) ∧
      ((AV.isBool (AV.bin Go.BinOp.gtr x0 x1)) ∧
      (((isT (AV.bin Go.BinOp.gtr x0 x1)) →
        ((AV.flat (AV.int 1)) ∧
        (fSame (AV.int 1) r))) ∧
      ((isF (AV.bin Go.BinOp.gtr x0 x1)) →
        ((AV.flat (AV.int 0)) ∧
        (fSame (AV.int 0) r))))))))))))))))))))))) := by kernel_rfl
theorem or_form (x0 r : AV) : fnF Try.prog Γ ann 2 44 Try.f44 (Try.f44.body.getD .skip) (.nil) [x0] (.sc) r = (((AV.isSl x0 1) ∧
(fLoop 321 [(AV.int 0)] fun ys321 again321 =>
  ((AV.binOk Go.BinOp.lss (ys321.getD 0 default) (AV.len x0)) ∧
  ((AV.isBool (AV.bin Go.BinOp.lss (ys321.getD 0 default) (AV.len x0))) ∧
  (((isT (AV.bin Go.BinOp.lss (ys321.getD 0 default) (AV.len x0))) →
    ((AV.isSl x0 1) ∧
    ((AV.inb x0 (ys321.getD 0 default)) ∧
    ((AV.binOk Go.BinOp.neq (AV.at x0 (ys321.getD 0 default) 0) (AV.int 0)) ∧
    ((AV.isBool (AV.bin Go.BinOp.neq (AV.at x0 (ys321.getD 0 default) 0) (AV.int 0))) ∧
    (((isT (AV.bin Go.BinOp.neq (AV.at x0 (ys321.getD 0 default) 0) (AV.int 0))) →
      ((AV.flat (AV.at x0 (ys321.getD 0 default) 0)) ∧
      (fSame (AV.at x0 (ys321.getD 0 default) 0) r))) ∧
    ((isF (AV.bin Go.BinOp.neq (AV.at x0 (ys321.getD 0 default) 0) (AV.int 0))) →
      ((AV.binOk Go.BinOp.add (ys321.getD 0 default) (AV.int 1)) ∧
      (again321 [(AV.bin Go.BinOp.add (ys321.getD 0 default) (AV.int 1))]))))))))) ∧
  ((isF (AV.bin Go.BinOp.lss (ys321.getD 0 default) (AV.len x0))) →
    ((AV.flat (AV.int 0)) ∧
    (fSame (AV.int 0) r))))))))) := by kernel_rfl
theorem less_form (x0 x1 r : AV) : fnF Try.prog Γ ann 2 43 Try.f43 (Try.f43.body.getD .skip) (.nil) [x0, x1] (.sc) r = (((AV.isAgg x0 2) ∧
((AV.isAgg x1 2) ∧
((AV.binOk Go.BinOp.sub (AV.cel x0 1) (AV.cel x1 1)) ∧
(∃ r769 : AV, ((Fn Try.prog 45 [(AV.cel x0 0), (AV.cel x1 0)] Sh.sc r769) ∧
((AV.isOne (AV.bin Go.BinOp.sub (AV.cel x0 1) (AV.cel x1 1))) ∧
((AV.isOne r769) ∧
(∃ r897 : AV, ((Fn Try.prog 44 [(AV.mk 1 [[(AV.bin Go.BinOp.sub (AV.cel x0 1) (AV.cel x1 1))], [r769]])] Sh.sc r897) ∧
((AV.flat r897) ∧
(fSame r897 r)))))))))))) := by kernel_rfl
theorem check_form (x0 r : AV) : fnF Try.prog Γ ann 3 10 Try.f10 (Try.f10.body.getD .skip) (.nil) [x0] (.sc) r = (((AV.isSl x0 2) ∧
((AV.binOk Go.BinOp.gtr (AV.len x0) (AV.int 24)) ∧
((AV.isBool (AV.bin Go.BinOp.gtr (AV.len x0) (AV.int 24))) ∧
(((isT (AV.bin Go.BinOp.gtr (AV.len x0) (AV.int 24))) →
  ((AV.flat (AV.int 2)) ∧
  (fSame (AV.int 2) r))) ∧
((isF (AV.bin Go.BinOp.gtr (AV.len x0) (AV.int 24))) →
  ((AV.isSl x0 2) ∧
  (fLoop 449 [(AV.int 0)] fun ys449 again449 =>
    ((AV.binOk Go.BinOp.lss (ys449.getD 0 default) (AV.len x0)) ∧
    ((AV.isBool (AV.bin Go.BinOp.lss (ys449.getD 0 default) (AV.len x0))) ∧
    (((isT (AV.bin Go.BinOp.lss (ys449.getD 0 default) (AV.len x0))) →
      ((AV.isSl x0 2) ∧
      ((AV.inb x0 (ys449.getD 0 default)) ∧
      ((AV.isAgg (AV.atAgg x0 (ys449.getD 0 default) 0 2) 2) ∧
      ((fEnt Try.prog 12) ∧
      (fAllV fun _ => (∃ r1217 : AV, ((Fn Try.prog 50 [(AV.cel (AV.atAgg x0 (ys449.getD 0 default) 0 2) 0)] Sh.sc r1217) ∧
      ((AV.unOk Go.UnOp.not r1217) ∧
      ((AV.isBool (AV.un Go.UnOp.not r1217)) ∧
      (((isT (AV.un Go.UnOp.not r1217)) →
        ((AV.flat (AV.int 3)) ∧
        (fSame (AV.int 3) r))) ∧
      ((isF (AV.un Go.UnOp.not r1217)) →
        ((AV.binOk Go.BinOp.lss (AV.cel (AV.atAgg x0 (ys449.getD 0 default) 0 2) 1) (AV.int 0)) ∧
        ((AV.isBool (AV.bin Go.BinOp.lss (AV.cel (AV.atAgg x0 (ys449.getD 0 default) 0 2) 1) (AV.int 0))) ∧
        (((isT (AV.bin Go.BinOp.lss (AV.cel (AV.atAgg x0 (ys449.getD 0 default) 0 2) 1) (AV.int 0))) →
          ((AV.isBool (AV.bin Go.BinOp.lss (AV.cel (AV.atAgg x0 (ys449.getD 0 default) 0 2) 1) (AV.int 0))) ∧
          ((isT (AV.bin Go.BinOp.lss (AV.cel (AV.atAgg x0 (ys449.getD 0 default) 0 2) 1) (AV.int 0))) ∧
          ((AV.flat (AV.int 12)) ∧
          (fSame (AV.int 12) r))))) ∧
        ((isF (AV.bin Go.BinOp.lss (AV.cel (AV.atAgg x0 (ys449.getD 0 default) 0 2) 1) (AV.int 0))) →
          ((AV.binOk Go.BinOp.gtr (AV.cel (AV.atAgg x0 (ys449.getD 0 default) 0 2) 1) (AV.int 200000)) ∧
          ((AV.isBool (AV.bin Go.BinOp.lss (AV.cel (AV.atAgg x0 (ys449.getD 0 default) 0 2) 1) (AV.int 0))) ∧
          ((isF (AV.bin Go.BinOp.lss (AV.cel (AV.atAgg x0 (ys449.getD 0 default) 0 2) 1) (AV.int 0))) ∧
          ((AV.isBool (AV.bin Go.BinOp.gtr (AV.cel (AV.atAgg x0 (ys449.getD 0 default) 0 2) 1) (AV.int 200000))) ∧
          (((isT (AV.bin Go.BinOp.gtr (AV.cel (AV.atAgg x0 (ys449.getD 0 default) 0 2) 1) (AV.int 200000))) →
            ((AV.flat (AV.int 12)) ∧
            (fSame (AV.int 12) r))) ∧
          ((isF (AV.bin Go.BinOp.gtr (AV.cel (AV.atAgg x0 (ys449.getD 0 default) 0 2) 1) (AV.int 200000))) →
            ((AV.isSl x0 2) ∧
            ((AV.subOk x0 (AV.int 0) (ys449.getD 0 default)) ∧
            ((fEnt Try.prog 48) ∧
            (fAllV fun _ => ((fEnt Try.prog 74) ∧
            (fAllV fun _ => ((AV.isSl (AV.sub 2 x0 (AV.int 0) (ys449.getD 0 default)) 2) ∧
            (fLoop 2945 [(AV.int 0)] fun ys2945 again2945 =>
              ((AV.binOk Go.BinOp.lss (ys2945.getD 0 default) (AV.len (AV.sub 2 x0 (AV.int 0) (ys449.getD 0 default)))) ∧
              ((AV.isBool (AV.bin Go.BinOp.lss (ys2945.getD 0 default) (AV.len (AV.sub 2 x0 (AV.int 0) (ys449.getD 0 default))))) ∧
              (((isT (AV.bin Go.BinOp.lss (ys2945.getD 0 default) (AV.len (AV.sub 2 x0 (AV.int 0) (ys449.getD 0 default))))) →
                ((AV.isSl (AV.sub 2 x0 (AV.int 0) (ys449.getD 0 default)) 2) ∧
                ((AV.inb (AV.sub 2 x0 (AV.int 0) (ys449.getD 0 default)) (ys2945.getD 0 default)) ∧
                ((fEnt Try.prog 49) ∧
                (fAllV fun _ => ((AV.isAgg (AV.atAgg (AV.sub 2 x0 (AV.int 0) (ys449.getD 0 default)) (ys2945.getD 0 default) 0 2) 2) ∧
                ((AV.binOk Go.BinOp.eql (AV.cel (AV.atAgg (AV.sub 2 x0 (AV.int 0) (ys449.getD 0 default)) (ys2945.getD 0 default) 0 2) 0) (AV.cel (AV.atAgg x0 (ys449.getD 0 default) 0 2) 0)) ∧
                ((AV.isBool (AV.bin Go.BinOp.eql (AV.cel (AV.atAgg (AV.sub 2 x0 (AV.int 0) (ys449.getD 0 default)) (ys2945.getD 0 default) 0 2) 0) (AV.cel (AV.atAgg x0 (ys449.getD 0 default) 0 2) 0))) ∧
                (((isT (AV.bin Go.BinOp.eql (AV.cel (AV.atAgg (AV.sub 2 x0 (AV.int 0) (ys449.getD 0 default)) (ys2945.getD 0 default) 0 2) 0) (AV.cel (AV.atAgg x0 (ys449.getD 0 default) 0 2) 0))) →
                  ((AV.binOk Go.BinOp.geq (ys2945.getD 0 default) (AV.int 0)) ∧
                  ((AV.isBool (AV.bin Go.BinOp.geq (ys2945.getD 0 default) (AV.int 0))) ∧
                  (((isT (AV.bin Go.BinOp.geq (ys2945.getD 0 default) (AV.int 0))) →
                    ((AV.flat (AV.int 7)) ∧
                    (fSame (AV.int 7) r))) ∧
                  ((isF (AV.bin Go.BinOp.geq (ys2945.getD 0 default) (AV.int 0))) →
                    ((AV.binOk Go.BinOp.add (ys449.getD 0 default) (AV.int 1)) ∧
                    (again449 [(AV.bin Go.BinOp.add (ys449.getD 0 default) (AV.int 1))]))))))) ∧
                ((isF (AV.bin Go.BinOp.eql (AV.cel (AV.atAgg (AV.sub 2 x0 (AV.int 0) (ys449.getD 0 default)) (ys2945.getD 0 default) 0 2) 0) (AV.cel (AV.atAgg x0 (ys449.getD 0 default) 0 2) 0))) →
                  ((AV.binOk Go.BinOp.add (ys2945.getD 0 default) (AV.int 1)) ∧
                  (again2945 [(AV.bin Go.BinOp.add (ys2945.getD 0 default) (AV.int 1))])))))))))))) ∧
              ((isF (AV.bin Go.BinOp.lss (ys2945.getD 0 default) (AV.len (AV.sub 2 x0 (AV.int 0) (ys449.getD 0 default))))) →
                ((AV.binOk Go.BinOp.add (ys449.getD 0 default) (AV.int 1)) ∧
                (again449 [(AV.bin Go.BinOp.add (ys449.getD 0 default) (AV.int 1))])))))))))))))))))))))))))))))))))))) ∧
    ((isF (AV.bin Go.BinOp.lss (ys449.getD 0 default) (AV.len x0))) →
      ((AV.flat (AV.int 0)) ∧
      (fSame (AV.int 0) r)))))))))))))) := by kernel_rfl
theorem index_form (x0 x1 r : AV) : fnF Try.prog Γ ann 3 54 Try.f54 (Try.f54.body.getD .skip) (.nil) [x0, x1] (.sc) r = (((AV.isOne x1) ∧
((fEnt Try.prog 21) ∧
(fAllV fun _ => ((AV.isSl x0 3) ∧
(fLoop 577 [(AV.int 0)] fun ys577 again577 =>
  ((AV.binOk Go.BinOp.lss (ys577.getD 0 default) (AV.len x0)) ∧
  ((AV.isBool (AV.bin Go.BinOp.lss (ys577.getD 0 default) (AV.len x0))) ∧
  (((isT (AV.bin Go.BinOp.lss (ys577.getD 0 default) (AV.len x0))) →
    ((AV.isSl x0 3) ∧
    ((AV.inb x0 (ys577.getD 0 default)) ∧
    ((fEnt Try.prog 75) ∧
    (fAllV fun _ => ((AV.isAgg (AV.atAgg x0 (ys577.getD 0 default) 0 3) 3) ∧
    ((AV.binOk Go.BinOp.eql (AV.cel (AV.atAgg x0 (ys577.getD 0 default) 0 3) 0) x1) ∧
    ((AV.isBool (AV.bin Go.BinOp.eql (AV.cel (AV.atAgg x0 (ys577.getD 0 default) 0 3) 0) x1)) ∧
    (((isT (AV.bin Go.BinOp.eql (AV.cel (AV.atAgg x0 (ys577.getD 0 default) 0 3) 0) x1)) →
      ((AV.flat (ys577.getD 0 default)) ∧
      (fSame (ys577.getD 0 default) r))) ∧
    ((isF (AV.bin Go.BinOp.eql (AV.cel (AV.atAgg x0 (ys577.getD 0 default) 0 3) 0) x1)) →
      ((AV.binOk Go.BinOp.add (ys577.getD 0 default) (AV.int 1)) ∧
      (again577 [(AV.bin Go.BinOp.add (ys577.getD 0 default) (AV.int 1))])))))))))))) ∧
  ((isF (AV.bin Go.BinOp.lss (ys577.getD 0 default) (AV.len x0))) →
    ((AV.flat (AV.int (-1))) ∧
    (fSame (AV.int (-1)) r)))))))))))) := by kernel_rfl
theorem fcheck_form (x0 r : AV) : fnF Try.prog Γ ann 3 40 Try.f40 (Try.f40.body.getD .skip) (.nil) [x0] (.sc) r = (((AV.isSl x0 3) ∧
((AV.binOk Go.BinOp.gtr (AV.len x0) (AV.int 256)) ∧
((AV.isBool (AV.bin Go.BinOp.gtr (AV.len x0) (AV.int 256))) ∧
(((isT (AV.bin Go.BinOp.gtr (AV.len x0) (AV.int 256))) →
  ((AV.flat (AV.int 2)) ∧
  (fSame (AV.int 2) r))) ∧
((isF (AV.bin Go.BinOp.gtr (AV.len x0) (AV.int 256))) →
  ((AV.isSl x0 3) ∧
  (fLoop 449 [(AV.int 0)] fun ys449 again449 =>
    ((AV.binOk Go.BinOp.lss (ys449.getD 0 default) (AV.len x0)) ∧
    ((AV.isBool (AV.bin Go.BinOp.lss (ys449.getD 0 default) (AV.len x0))) ∧
    (((isT (AV.bin Go.BinOp.lss (ys449.getD 0 default) (AV.len x0))) →
      ((AV.isSl x0 3) ∧
      ((AV.inb x0 (ys449.getD 0 default)) ∧
      ((AV.isAgg (AV.atAgg x0 (ys449.getD 0 default) 0 3) 3) ∧
      ((AV.binOk Go.BinOp.lss (AV.cel (AV.atAgg x0 (ys449.getD 0 default) 0 3) 0) (AV.int 0)) ∧
      ((AV.isBool (AV.bin Go.BinOp.lss (AV.cel (AV.atAgg x0 (ys449.getD 0 default) 0 3) 0) (AV.int 0))) ∧
      (((isT (AV.bin Go.BinOp.lss (AV.cel (AV.atAgg x0 (ys449.getD 0 default) 0 3) 0) (AV.int 0))) →
        ((AV.isBool (AV.bin Go.BinOp.lss (AV.cel (AV.atAgg x0 (ys449.getD 0 default) 0 3) 0) (AV.int 0))) ∧
        ((isT (AV.bin Go.BinOp.lss (AV.cel (AV.atAgg x0 (ys449.getD 0 default) 0 3) 0) (AV.int 0))) ∧
        ((AV.flat (AV.int 4)) ∧
        (fSame (AV.int 4) r))))) ∧
      ((isF (AV.bin Go.BinOp.lss (AV.cel (AV.atAgg x0 (ys449.getD 0 default) 0 3) 0) (AV.int 0))) →
        ((AV.binOk Go.BinOp.gtr (AV.cel (AV.atAgg x0 (ys449.getD 0 default) 0 3) 1) (AV.int 200000)) ∧
        ((AV.isBool (AV.bin Go.BinOp.lss (AV.cel (AV.atAgg x0 (ys449.getD 0 default) 0 3) 0) (AV.int 0))) ∧
        ((isF (AV.bin Go.BinOp.lss (AV.cel (AV.atAgg x0 (ys449.getD 0 default) 0 3) 0) (AV.int 0))) ∧
        ((AV.isBool (AV.bin Go.BinOp.gtr (AV.cel (AV.atAgg x0 (ys449.getD 0 default) 0 3) 1) (AV.int 200000))) ∧
        (((isT (AV.bin Go.BinOp.gtr (AV.cel (AV.atAgg x0 (ys449.getD 0 default) 0 3) 1) (AV.int 200000))) →
          ((AV.isBool (AV.bin Go.BinOp.gtr (AV.cel (AV.atAgg x0 (ys449.getD 0 default) 0 3) 1) (AV.int 200000))) ∧
          ((isT (AV.bin Go.BinOp.gtr (AV.cel (AV.atAgg x0 (ys449.getD 0 default) 0 3) 1) (AV.int 200000))) ∧
          ((AV.flat (AV.int 4)) ∧
          (fSame (AV.int 4) r))))) ∧
        ((isF (AV.bin Go.BinOp.gtr (AV.cel (AV.atAgg x0 (ys449.getD 0 default) 0 3) 1) (AV.int 200000))) →
          ((AV.binOk Go.BinOp.geq (AV.cel (AV.atAgg x0 (ys449.getD 0 default) 0 3) 0) (AV.cel (AV.atAgg x0 (ys449.getD 0 default) 0 3) 1)) ∧
          ((AV.isBool (AV.bin Go.BinOp.gtr (AV.cel (AV.atAgg x0 (ys449.getD 0 default) 0 3) 1) (AV.int 200000))) ∧
          ((isF (AV.bin Go.BinOp.gtr (AV.cel (AV.atAgg x0 (ys449.getD 0 default) 0 3) 1) (AV.int 200000))) ∧
          ((AV.isBool (AV.bin Go.BinOp.geq (AV.cel (AV.atAgg x0 (ys449.getD 0 default) 0 3) 0) (AV.cel (AV.atAgg x0 (ys449.getD 0 default) 0 3) 1))) ∧
          (((isT (AV.bin Go.BinOp.geq (AV.cel (AV.atAgg x0 (ys449.getD 0 default) 0 3) 0) (AV.cel (AV.atAgg x0 (ys449.getD 0 default) 0 3) 1))) →
            ((AV.isBool (AV.bin Go.BinOp.geq (AV.cel (AV.atAgg x0 (ys449.getD 0 default) 0 3) 0) (AV.cel (AV.atAgg x0 (ys449.getD 0 default) 0 3) 1))) ∧
            ((isT (AV.bin Go.BinOp.geq (AV.cel (AV.atAgg x0 (ys449.getD 0 default) 0 3) 0) (AV.cel (AV.atAgg x0 (ys449.getD 0 default) 0 3) 1))) ∧
            ((AV.flat (AV.int 4)) ∧
            (fSame (AV.int 4) r))))) ∧
          ((isF (AV.bin Go.BinOp.geq (AV.cel (AV.atAgg x0 (ys449.getD 0 default) 0 3) 0) (AV.cel (AV.atAgg x0 (ys449.getD 0 default) 0 3) 1))) →
            ((AV.binOk Go.BinOp.lss (AV.cel (AV.atAgg x0 (ys449.getD 0 default) 0 3) 2) (AV.int 0)) ∧
            ((AV.isBool (AV.bin Go.BinOp.geq (AV.cel (AV.atAgg x0 (ys449.getD 0 default) 0 3) 0) (AV.cel (AV.atAgg x0 (ys449.getD 0 default) 0 3) 1))) ∧
            ((isF (AV.bin Go.BinOp.geq (AV.cel (AV.atAgg x0 (ys449.getD 0 default) 0 3) 0) (AV.cel (AV.atAgg x0 (ys449.getD 0 default) 0 3) 1))) ∧
            ((AV.isBool (AV.bin Go.BinOp.lss (AV.cel (AV.atAgg x0 (ys449.getD 0 default) 0 3) 2) (AV.int 0))) ∧
            (((isT (AV.bin Go.BinOp.lss (AV.cel (AV.atAgg x0 (ys449.getD 0 default) 0 3) 2) (AV.int 0))) →
              ((AV.isBool (AV.bin Go.BinOp.lss (AV.cel (AV.atAgg x0 (ys449.getD 0 default) 0 3) 2) (AV.int 0))) ∧
              ((isT (AV.bin Go.BinOp.lss (AV.cel (AV.atAgg x0 (ys449.getD 0 default) 0 3) 2) (AV.int 0))) ∧
              ((AV.flat (AV.int 4)) ∧
              (fSame (AV.int 4) r))))) ∧
            ((isF (AV.bin Go.BinOp.lss (AV.cel (AV.atAgg x0 (ys449.getD 0 default) 0 3) 2) (AV.int 0))) →
              ((AV.binOk Go.BinOp.gtr (AV.cel (AV.atAgg x0 (ys449.getD 0 default) 0 3) 2) (AV.int 24)) ∧
              ((AV.isBool (AV.bin Go.BinOp.lss (AV.cel (AV.atAgg x0 (ys449.getD 0 default) 0 3) 2) (AV.int 0))) ∧
              ((isF (AV.bin Go.BinOp.lss (AV.cel (AV.atAgg x0 (ys449.getD 0 default) 0 3) 2) (AV.int 0))) ∧
              ((AV.isBool (AV.bin Go.BinOp.gtr (AV.cel (AV.atAgg x0 (ys449.getD 0 default) 0 3) 2) (AV.int 24))) ∧
              (((isT (AV.bin Go.BinOp.gtr (AV.cel (AV.atAgg x0 (ys449.getD 0 default) 0 3) 2) (AV.int 24))) →
                ((AV.flat (AV.int 4)) ∧
                (fSame (AV.int 4) r))) ∧
              ((isF (AV.bin Go.BinOp.gtr (AV.cel (AV.atAgg x0 (ys449.getD 0 default) 0 3) 2) (AV.int 24))) →
                ((AV.binOk Go.BinOp.gtr (ys449.getD 0 default) (AV.int 0)) ∧
                ((AV.isBool (AV.bin Go.BinOp.gtr (ys449.getD 0 default) (AV.int 0))) ∧
                (((isT (AV.bin Go.BinOp.gtr (ys449.getD 0 default) (AV.int 0))) →
                  ((AV.binOk Go.BinOp.sub (ys449.getD 0 default) (AV.int 1)) ∧
                  ((AV.isSl x0 3) ∧
                  ((AV.inb x0 (AV.bin Go.BinOp.sub (ys449.getD 0 default) (AV.int 1))) ∧
                  ((AV.binOk Go.BinOp.lss (AV.cel (AV.atAgg x0 (ys449.getD 0 default) 0 3) 0) (AV.at x0 (AV.bin Go.BinOp.sub (ys449.getD 0 default) (AV.int 1)) 1)) ∧
                  ((AV.isBool (AV.bin Go.BinOp.gtr (ys449.getD 0 default) (AV.int 0))) ∧
                  ((isT (AV.bin Go.BinOp.gtr (ys449.getD 0 default) (AV.int 0))) ∧
                  ((AV.isBool (AV.bin Go.BinOp.lss (AV.cel (AV.atAgg x0 (ys449.getD 0 default) 0 3) 0) (AV.at x0 (AV.bin Go.BinOp.sub (ys449.getD 0 default) (AV.int 1)) 1))) ∧
                  (((isT (AV.bin Go.BinOp.lss (AV.cel (AV.atAgg x0 (ys449.getD 0 default) 0 3) 0) (AV.at x0 (AV.bin Go.BinOp.sub (ys449.getD 0 default) (AV.int 1)) 1))) →
                    ((AV.flat (AV.int 12)) ∧
                    (fSame (AV.int 12) r))) ∧
                  ((isF (AV.bin Go.BinOp.lss (AV.cel (AV.atAgg x0 (ys449.getD 0 default) 0 3) 0) (AV.at x0 (AV.bin Go.BinOp.sub (ys449.getD 0 default) (AV.int 1)) 1))) →
                    ((AV.binOk Go.BinOp.add (ys449.getD 0 default) (AV.int 1)) ∧
                    (again449 [(AV.bin Go.BinOp.add (ys449.getD 0 default) (AV.int 1))])))))))))))) ∧
                ((isF (AV.bin Go.BinOp.gtr (ys449.getD 0 default) (AV.int 0))) →
                  ((AV.isBool (AV.bin Go.BinOp.gtr (ys449.getD 0 default) (AV.int 0))) ∧
                  ((isF (AV.bin Go.BinOp.gtr (ys449.getD 0 default) (AV.int 0))) ∧
                  ((AV.binOk Go.BinOp.add (ys449.getD 0 default) (AV.int 1)) ∧
                  (again449 [(AV.bin Go.BinOp.add (ys449.getD 0 default) (AV.int 1))])))))))))))))))))))))))))))))))))))))))) ∧
    ((isF (AV.bin Go.BinOp.lss (ys449.getD 0 default) (AV.len x0))) →
      ((AV.flat (AV.int 0)) ∧
      (fSame (AV.int 0) r)))))))))))))) := by kernel_rfl
theorem derr_form (x0 r : AV) : fnF Try.prog Γ ann 3 11 Try.f11 (Try.f11.body.getD .skip) (.nil) [x0] (.sc) r = (((AV.isSl x0 2) ∧
((AV.binOk Go.BinOp.gtr (AV.len x0) (AV.int 24)) ∧
((AV.isBool (AV.bin Go.BinOp.gtr (AV.len x0) (AV.int 24))) ∧
(((isT (AV.bin Go.BinOp.gtr (AV.len x0) (AV.int 24))) →
  ((AV.flat (AV.int 2)) ∧
  (fSame (AV.int 2) r))) ∧
((isF (AV.bin Go.BinOp.gtr (AV.len x0) (AV.int 24))) →
  ((AV.isSl x0 2) ∧
  (fLoop 449 [(AV.int 0)] fun ys449 again449 =>
    ((AV.binOk Go.BinOp.lss (ys449.getD 0 default) (AV.len x0)) ∧
    ((AV.isBool (AV.bin Go.BinOp.lss (ys449.getD 0 default) (AV.len x0))) ∧
    (((isT (AV.bin Go.BinOp.lss (ys449.getD 0 default) (AV.len x0))) →
      ((AV.isSl x0 2) ∧
      ((AV.inb x0 (ys449.getD 0 default)) ∧
      ((AV.isAgg (AV.atAgg x0 (ys449.getD 0 default) 0 2) 2) ∧
      (∃ r1025 : AV, ((Fn Try.prog 13 [(AV.cel (AV.atAgg x0 (ys449.getD 0 default) 0 2) 0)] Sh.sc r1025) ∧
      ((AV.unOk Go.UnOp.not r1025) ∧
      ((AV.isBool (AV.un Go.UnOp.not r1025)) ∧
      (((isT (AV.un Go.UnOp.not r1025)) →
        ((AV.flat (AV.int 3)) ∧
        (fSame (AV.int 3) r))) ∧
      ((isF (AV.un Go.UnOp.not r1025)) →
        ((AV.binOk Go.BinOp.lss (AV.cel (AV.atAgg x0 (ys449.getD 0 default) 0 2) 1) (AV.int 0)) ∧
        ((AV.isBool (AV.bin Go.BinOp.lss (AV.cel (AV.atAgg x0 (ys449.getD 0 default) 0 2) 1) (AV.int 0))) ∧
        (((isT (AV.bin Go.BinOp.lss (AV.cel (AV.atAgg x0 (ys449.getD 0 default) 0 2) 1) (AV.int 0))) →
          ((AV.isBool (AV.bin Go.BinOp.lss (AV.cel (AV.atAgg x0 (ys449.getD 0 default) 0 2) 1) (AV.int 0))) ∧
          ((isT (AV.bin Go.BinOp.lss (AV.cel (AV.atAgg x0 (ys449.getD 0 default) 0 2) 1) (AV.int 0))) ∧
          ((AV.flat (AV.int 12)) ∧
          (fSame (AV.int 12) r))))) ∧
        ((isF (AV.bin Go.BinOp.lss (AV.cel (AV.atAgg x0 (ys449.getD 0 default) 0 2) 1) (AV.int 0))) →
          ((AV.binOk Go.BinOp.gtr (AV.cel (AV.atAgg x0 (ys449.getD 0 default) 0 2) 1) (AV.int 200000)) ∧
          ((AV.isBool (AV.bin Go.BinOp.lss (AV.cel (AV.atAgg x0 (ys449.getD 0 default) 0 2) 1) (AV.int 0))) ∧
          ((isF (AV.bin Go.BinOp.lss (AV.cel (AV.atAgg x0 (ys449.getD 0 default) 0 2) 1) (AV.int 0))) ∧
          ((AV.isBool (AV.bin Go.BinOp.gtr (AV.cel (AV.atAgg x0 (ys449.getD 0 default) 0 2) 1) (AV.int 200000))) ∧
          (((isT (AV.bin Go.BinOp.gtr (AV.cel (AV.atAgg x0 (ys449.getD 0 default) 0 2) 1) (AV.int 200000))) →
            ((AV.flat (AV.int 12)) ∧
            (fSame (AV.int 12) r))) ∧
          ((isF (AV.bin Go.BinOp.gtr (AV.cel (AV.atAgg x0 (ys449.getD 0 default) 0 2) 1) (AV.int 200000))) →
            (fLoop 1729 [(AV.int 0)] fun ys1729 again1729 =>
              ((AV.binOk Go.BinOp.lss (ys1729.getD 0 default) (ys449.getD 0 default)) ∧
              ((AV.isBool (AV.bin Go.BinOp.lss (ys1729.getD 0 default) (ys449.getD 0 default))) ∧
              (((isT (AV.bin Go.BinOp.lss (ys1729.getD 0 default) (ys449.getD 0 default))) →
                ((AV.isSl x0 2) ∧
                ((AV.inb x0 (ys1729.getD 0 default)) ∧
                ((AV.binOk Go.BinOp.eql (AV.at x0 (ys1729.getD 0 default) 0) (AV.cel (AV.atAgg x0 (ys449.getD 0 default) 0 2) 0)) ∧
                ((AV.isBool (AV.bin Go.BinOp.eql (AV.at x0 (ys1729.getD 0 default) 0) (AV.cel (AV.atAgg x0 (ys449.getD 0 default) 0 2) 0))) ∧
                (((isT (AV.bin Go.BinOp.eql (AV.at x0 (ys1729.getD 0 default) 0) (AV.cel (AV.atAgg x0 (ys449.getD 0 default) 0 2) 0))) →
                  ((AV.flat (AV.int 7)) ∧
                  (fSame (AV.int 7) r))) ∧
                ((isF (AV.bin Go.BinOp.eql (AV.at x0 (ys1729.getD 0 default) 0) (AV.cel (AV.atAgg x0 (ys449.getD 0 default) 0 2) 0))) →
                  ((AV.binOk Go.BinOp.add (ys1729.getD 0 default) (AV.int 1)) ∧
                  (again1729 [(AV.bin Go.BinOp.add (ys1729.getD 0 default) (AV.int 1))]))))))))) ∧
              ((isF (AV.bin Go.BinOp.lss (ys1729.getD 0 default) (ys449.getD 0 default))) →
                ((AV.binOk Go.BinOp.add (ys449.getD 0 default) (AV.int 1)) ∧
                (again449 [(AV.bin Go.BinOp.add (ys449.getD 0 default) (AV.int 1))]))))))))))))))))))))))))))) ∧
    ((isF (AV.bin Go.BinOp.lss (ys449.getD 0 default) (AV.len x0))) →
      ((AV.flat (AV.int 0)) ∧
      (fSame (AV.int 0) r)))))))))))))) := by kernel_rfl
theorem cerr_form (x0 r : AV) : fnF Try.prog Γ ann 3 51 Try.f51 (Try.f51.body.getD .skip) (.nil) [x0] (.sc) r = (((AV.isSl x0 3) ∧
((AV.binOk Go.BinOp.gtr (AV.len x0) (AV.int 256)) ∧
((AV.isBool (AV.bin Go.BinOp.gtr (AV.len x0) (AV.int 256))) ∧
(((isT (AV.bin Go.BinOp.gtr (AV.len x0) (AV.int 256))) →
  ((AV.flat (AV.int 2)) ∧
  (fSame (AV.int 2) r))) ∧
((isF (AV.bin Go.BinOp.gtr (AV.len x0) (AV.int 256))) →
  ((AV.isSl x0 3) ∧
  (fLoop 513 [(AV.int 0), (AV.int 0)] fun ys513 again513 =>
    ((AV.binOk Go.BinOp.lss (ys513.getD 1 default) (AV.len x0)) ∧
    ((AV.isBool (AV.bin Go.BinOp.lss (ys513.getD 1 default) (AV.len x0))) ∧
    (((isT (AV.bin Go.BinOp.lss (ys513.getD 1 default) (AV.len x0))) →
      ((AV.isSl x0 3) ∧
      ((AV.inb x0 (ys513.getD 1 default)) ∧
      ((AV.isAgg (AV.atAgg x0 (ys513.getD 1 default) 0 3) 3) ∧
      ((AV.binOk Go.BinOp.lss (AV.cel (AV.atAgg x0 (ys513.getD 1 default) 0 3) 0) (AV.int 0)) ∧
      ((AV.isBool (AV.bin Go.BinOp.lss (AV.cel (AV.atAgg x0 (ys513.getD 1 default) 0 3) 0) (AV.int 0))) ∧
      (((isT (AV.bin Go.BinOp.lss (AV.cel (AV.atAgg x0 (ys513.getD 1 default) 0 3) 0) (AV.int 0))) →
        ((AV.isBool (AV.bin Go.BinOp.lss (AV.cel (AV.atAgg x0 (ys513.getD 1 default) 0 3) 0) (AV.int 0))) ∧
        ((isT (AV.bin Go.BinOp.lss (AV.cel (AV.atAgg x0 (ys513.getD 1 default) 0 3) 0) (AV.int 0))) ∧
        ((AV.flat (AV.int 4)) ∧
        (fSame (AV.int 4) r))))) ∧
      ((isF (AV.bin Go.BinOp.lss (AV.cel (AV.atAgg x0 (ys513.getD 1 default) 0 3) 0) (AV.int 0))) →
        ((AV.binOk Go.BinOp.gtr (AV.cel (AV.atAgg x0 (ys513.getD 1 default) 0 3) 1) (AV.int 200000)) ∧
        ((AV.isBool (AV.bin Go.BinOp.lss (AV.cel (AV.atAgg x0 (ys513.getD 1 default) 0 3) 0) (AV.int 0))) ∧
        ((isF (AV.bin Go.BinOp.lss (AV.cel (AV.atAgg x0 (ys513.getD 1 default) 0 3) 0) (AV.int 0))) ∧
        ((AV.isBool (AV.bin Go.BinOp.gtr (AV.cel (AV.atAgg x0 (ys513.getD 1 default) 0 3) 1) (AV.int 200000))) ∧
        (((isT (AV.bin Go.BinOp.gtr (AV.cel (AV.atAgg x0 (ys513.getD 1 default) 0 3) 1) (AV.int 200000))) →
          ((AV.isBool (AV.bin Go.BinOp.gtr (AV.cel (AV.atAgg x0 (ys513.getD 1 default) 0 3) 1) (AV.int 200000))) ∧
          ((isT (AV.bin Go.BinOp.gtr (AV.cel (AV.atAgg x0 (ys513.getD 1 default) 0 3) 1) (AV.int 200000))) ∧
          ((AV.flat (AV.int 4)) ∧
          (fSame (AV.int 4) r))))) ∧
        ((isF (AV.bin Go.BinOp.gtr (AV.cel (AV.atAgg x0 (ys513.getD 1 default) 0 3) 1) (AV.int 200000))) →
          ((AV.binOk Go.BinOp.leq (AV.cel (AV.atAgg x0 (ys513.getD 1 default) 0 3) 1) (AV.cel (AV.atAgg x0 (ys513.getD 1 default) 0 3) 0)) ∧
          ((AV.isBool (AV.bin Go.BinOp.gtr (AV.cel (AV.atAgg x0 (ys513.getD 1 default) 0 3) 1) (AV.int 200000))) ∧
          ((isF (AV.bin Go.BinOp.gtr (AV.cel (AV.atAgg x0 (ys513.getD 1 default) 0 3) 1) (AV.int 200000))) ∧
          ((AV.isBool (AV.bin Go.BinOp.leq (AV.cel (AV.atAgg x0 (ys513.getD 1 default) 0 3) 1) (AV.cel (AV.atAgg x0 (ys513.getD 1 default) 0 3) 0))) ∧
          (((isT (AV.bin Go.BinOp.leq (AV.cel (AV.atAgg x0 (ys513.getD 1 default) 0 3) 1) (AV.cel (AV.atAgg x0 (ys513.getD 1 default) 0 3) 0))) →
            ((AV.isBool (AV.bin Go.BinOp.leq (AV.cel (AV.atAgg x0 (ys513.getD 1 default) 0 3) 1) (AV.cel (AV.atAgg x0 (ys513.getD 1 default) 0 3) 0))) ∧
            ((isT (AV.bin Go.BinOp.leq (AV.cel (AV.atAgg x0 (ys513.getD 1 default) 0 3) 1) (AV.cel (AV.atAgg x0 (ys513.getD 1 default) 0 3) 0))) ∧
            ((AV.flat (AV.int 4)) ∧
            (fSame (AV.int 4) r))))) ∧
          ((isF (AV.bin Go.BinOp.leq (AV.cel (AV.atAgg x0 (ys513.getD 1 default) 0 3) 1) (AV.cel (AV.atAgg x0 (ys513.getD 1 default) 0 3) 0))) →
            ((AV.binOk Go.BinOp.lss (AV.cel (AV.atAgg x0 (ys513.getD 1 default) 0 3) 2) (AV.int 0)) ∧
            ((AV.isBool (AV.bin Go.BinOp.leq (AV.cel (AV.atAgg x0 (ys513.getD 1 default) 0 3) 1) (AV.cel (AV.atAgg x0 (ys513.getD 1 default) 0 3) 0))) ∧
            ((isF (AV.bin Go.BinOp.leq (AV.cel (AV.atAgg x0 (ys513.getD 1 default) 0 3) 1) (AV.cel (AV.atAgg x0 (ys513.getD 1 default) 0 3) 0))) ∧
            ((AV.isBool (AV.bin Go.BinOp.lss (AV.cel (AV.atAgg x0 (ys513.getD 1 default) 0 3) 2) (AV.int 0))) ∧
            (((isT (AV.bin Go.BinOp.lss (AV.cel (AV.atAgg x0 (ys513.getD 1 default) 0 3) 2) (AV.int 0))) →
              ((AV.isBool (AV.bin Go.BinOp.lss (AV.cel (AV.atAgg x0 (ys513.getD 1 default) 0 3) 2) (AV.int 0))) ∧
              ((isT (AV.bin Go.BinOp.lss (AV.cel (AV.atAgg x0 (ys513.getD 1 default) 0 3) 2) (AV.int 0))) ∧
              ((AV.flat (AV.int 4)) ∧
              (fSame (AV.int 4) r))))) ∧
            ((isF (AV.bin Go.BinOp.lss (AV.cel (AV.atAgg x0 (ys513.getD 1 default) 0 3) 2) (AV.int 0))) →
              ((AV.binOk Go.BinOp.gtr (AV.cel (AV.atAgg x0 (ys513.getD 1 default) 0 3) 2) (AV.int 24)) ∧
              ((AV.isBool (AV.bin Go.BinOp.lss (AV.cel (AV.atAgg x0 (ys513.getD 1 default) 0 3) 2) (AV.int 0))) ∧
              ((isF (AV.bin Go.BinOp.lss (AV.cel (AV.atAgg x0 (ys513.getD 1 default) 0 3) 2) (AV.int 0))) ∧
              ((AV.isBool (AV.bin Go.BinOp.gtr (AV.cel (AV.atAgg x0 (ys513.getD 1 default) 0 3) 2) (AV.int 24))) ∧
              (((isT (AV.bin Go.BinOp.gtr (AV.cel (AV.atAgg x0 (ys513.getD 1 default) 0 3) 2) (AV.int 24))) →
                ((AV.flat (AV.int 4)) ∧
                (fSame (AV.int 4) r))) ∧
              ((isF (AV.bin Go.BinOp.gtr (AV.cel (AV.atAgg x0 (ys513.getD 1 default) 0 3) 2) (AV.int 24))) →
                ((AV.binOk Go.BinOp.lss (AV.cel (AV.atAgg x0 (ys513.getD 1 default) 0 3) 0) (ys513.getD 0 default)) ∧
                ((AV.isBool (AV.bin Go.BinOp.lss (AV.cel (AV.atAgg x0 (ys513.getD 1 default) 0 3) 0) (ys513.getD 0 default))) ∧
                (((isT (AV.bin Go.BinOp.lss (AV.cel (AV.atAgg x0 (ys513.getD 1 default) 0 3) 0) (ys513.getD 0 default))) →
                  ((AV.flat (AV.int 12)) ∧
                  (fSame (AV.int 12) r))) ∧
                ((isF (AV.bin Go.BinOp.lss (AV.cel (AV.atAgg x0 (ys513.getD 1 default) 0 3) 0) (ys513.getD 0 default))) →
                  ((AV.binOk Go.BinOp.add (ys513.getD 1 default) (AV.int 1)) ∧
                  (again513 [(AV.cel (AV.atAgg x0 (ys513.getD 1 default) 0 3) 1), (AV.bin Go.BinOp.add (ys513.getD 1 default) (AV.int 1))])))))))))))))))))))))))))))))))))))))) ∧
    ((isF (AV.bin Go.BinOp.lss (ys513.getD 1 default) (AV.len x0))) →
      ((AV.flat (AV.int 0)) ∧
      (fSame (AV.int 0) r)))))))))))))) := by kernel_rfl
theorem capat_form (x0 x1 r : AV) : fnF Try.prog Γ ann 3 53 Try.f53 (Try.f53.body.getD .skip) (.nil) [x0, x1] (.sc) r = (((AV.isSl x0 3) ∧
(fLoop 321 [(AV.int (-1)), (AV.int 0)] fun ys321 again321 =>
  ((AV.binOk Go.BinOp.lss (ys321.getD 1 default) (AV.len x0)) ∧
  ((AV.isBool (AV.bin Go.BinOp.lss (ys321.getD 1 default) (AV.len x0))) ∧
  (((isT (AV.bin Go.BinOp.lss (ys321.getD 1 default) (AV.len x0))) →
    ((AV.isSl x0 3) ∧
    ((AV.inb x0 (ys321.getD 1 default)) ∧
    ((AV.isAgg (AV.atAgg x0 (ys321.getD 1 default) 0 3) 3) ∧
    ((AV.binOk Go.BinOp.lss x1 (AV.cel (AV.atAgg x0 (ys321.getD 1 default) 0 3) 0)) ∧
    ((AV.isBool (AV.bin Go.BinOp.lss x1 (AV.cel (AV.atAgg x0 (ys321.getD 1 default) 0 3) 0))) ∧
    (((isT (AV.bin Go.BinOp.lss x1 (AV.cel (AV.atAgg x0 (ys321.getD 1 default) 0 3) 0))) →
      ((AV.isBool (AV.bin Go.BinOp.lss x1 (AV.cel (AV.atAgg x0 (ys321.getD 1 default) 0 3) 0))) ∧
      ((isT (AV.bin Go.BinOp.lss x1 (AV.cel (AV.atAgg x0 (ys321.getD 1 default) 0 3) 0))) ∧
      ((AV.binOk Go.BinOp.add (ys321.getD 1 default) (AV.int 1)) ∧
      (again321 [(ys321.getD 0 default), (AV.bin Go.BinOp.add (ys321.getD 1 default) (AV.int 1))]))))) ∧
    ((isF (AV.bin Go.BinOp.lss x1 (AV.cel (AV.atAgg x0 (ys321.getD 1 default) 0 3) 0))) →
      ((AV.binOk Go.BinOp.geq x1 (AV.cel (AV.atAgg x0 (ys321.getD 1 default) 0 3) 1)) ∧
      ((AV.isBool (AV.bin Go.BinOp.lss x1 (AV.cel (AV.atAgg x0 (ys321.getD 1 default) 0 3) 0))) ∧
      ((isF (AV.bin Go.BinOp.lss x1 (AV.cel (AV.atAgg x0 (ys321.getD 1 default) 0 3) 0))) ∧
      ((AV.unOk Go.UnOp.not (AV.bin Go.BinOp.geq x1 (AV.cel (AV.atAgg x0 (ys321.getD 1 default) 0 3) 1))) ∧
      ((AV.isBool (AV.un Go.UnOp.not (AV.bin Go.BinOp.geq x1 (AV.cel (AV.atAgg x0 (ys321.getD 1 default) 0 3) 1)))) ∧
      (((isT (AV.un Go.UnOp.not (AV.bin Go.BinOp.geq x1 (AV.cel (AV.atAgg x0 (ys321.getD 1 default) 0 3) 1)))) →
        ((AV.binOk Go.BinOp.add (ys321.getD 1 default) (AV.int 1)) ∧
        (again321 [(ys321.getD 1 default), (AV.bin Go.BinOp.add (ys321.getD 1 default) (AV.int 1))]))) ∧
      ((isF (AV.un Go.UnOp.not (AV.bin Go.BinOp.geq x1 (AV.cel (AV.atAgg x0 (ys321.getD 1 default) 0 3) 1)))) →
        ((AV.binOk Go.BinOp.add (ys321.getD 1 default) (AV.int 1)) ∧
        (again321 [(ys321.getD 0 default), (AV.bin Go.BinOp.add (ys321.getD 1 default) (AV.int 1))]))))))))))))))))) ∧
  ((isF (AV.bin Go.BinOp.lss (ys321.getD 1 default) (AV.len x0))) →
    ((AV.flat (ys321.getD 0 default)) ∧
    (fSame (ys321.getD 0 default) r))))))))) := by kernel_rfl
theorem served_form (x0 r : AV) : fnF Try.prog Γ ann 3 52 Try.f52 (Try.f52.body.getD .skip) (.nil) [x0] (.sc) r = (((AV.isSl x0 2) ∧
(fLoop 321 [(AV.int 0), (AV.int 0)] fun ys321 again321 =>
  ((AV.binOk Go.BinOp.lss (ys321.getD 1 default) (AV.len x0)) ∧
  ((AV.isBool (AV.bin Go.BinOp.lss (ys321.getD 1 default) (AV.len x0))) ∧
  (((isT (AV.bin Go.BinOp.lss (ys321.getD 1 default) (AV.len x0))) →
    ((AV.isSl x0 2) ∧
    ((AV.inb x0 (ys321.getD 1 default)) ∧
    ((AV.isAgg (AV.atAgg x0 (ys321.getD 1 default) 0 2) 2) ∧
    ((AV.isSl x0 2) ∧
    ((AV.inb x0 (ys321.getD 0 default)) ∧
    ((AV.isAgg (AV.atAgg x0 (ys321.getD 0 default) 0 2) 2) ∧
    ((AV.binOk Go.BinOp.lss (AV.cel (AV.atAgg x0 (ys321.getD 1 default) 0 2) 1) (AV.cel (AV.atAgg x0 (ys321.getD 0 default) 0 2) 1)) ∧
    ((AV.isBool (AV.bin Go.BinOp.lss (AV.cel (AV.atAgg x0 (ys321.getD 1 default) 0 2) 1) (AV.cel (AV.atAgg x0 (ys321.getD 0 default) 0 2) 1))) ∧
    (((isT (AV.bin Go.BinOp.lss (AV.cel (AV.atAgg x0 (ys321.getD 1 default) 0 2) 1) (AV.cel (AV.atAgg x0 (ys321.getD 0 default) 0 2) 1))) →
      ((AV.isBool (AV.bin Go.BinOp.lss (AV.cel (AV.atAgg x0 (ys321.getD 1 default) 0 2) 1) (AV.cel (AV.atAgg x0 (ys321.getD 0 default) 0 2) 1))) ∧
      ((isT (AV.bin Go.BinOp.lss (AV.cel (AV.atAgg x0 (ys321.getD 1 default) 0 2) 1) (AV.cel (AV.atAgg x0 (ys321.getD 0 default) 0 2) 1))) ∧
      ((AV.binOk Go.BinOp.add (ys321.getD 1 default) (AV.int 1)) ∧
      (again321 [(ys321.getD 1 default), (AV.bin Go.BinOp.add (ys321.getD 1 default) (AV.int 1))]))))) ∧
    ((isF (AV.bin Go.BinOp.lss (AV.cel (AV.atAgg x0 (ys321.getD 1 default) 0 2) 1) (AV.cel (AV.atAgg x0 (ys321.getD 0 default) 0 2) 1))) →
      ((AV.binOk Go.BinOp.eql (AV.cel (AV.atAgg x0 (ys321.getD 1 default) 0 2) 1) (AV.cel (AV.atAgg x0 (ys321.getD 0 default) 0 2) 1)) ∧
      ((AV.isBool (AV.bin Go.BinOp.eql (AV.cel (AV.atAgg x0 (ys321.getD 1 default) 0 2) 1) (AV.cel (AV.atAgg x0 (ys321.getD 0 default) 0 2) 1))) ∧
      (((isT (AV.bin Go.BinOp.eql (AV.cel (AV.atAgg x0 (ys321.getD 1 default) 0 2) 1) (AV.cel (AV.atAgg x0 (ys321.getD 0 default) 0 2) 1))) →
        ((AV.binOk Go.BinOp.lss (AV.cel (AV.atAgg x0 (ys321.getD 1 default) 0 2) 0) (AV.cel (AV.atAgg x0 (ys321.getD 0 default) 0 2) 0)) ∧
        ((AV.isBool (AV.bin Go.BinOp.eql (AV.cel (AV.atAgg x0 (ys321.getD 1 default) 0 2) 1) (AV.cel (AV.atAgg x0 (ys321.getD 0 default) 0 2) 1))) ∧
        ((isT (AV.bin Go.BinOp.eql (AV.cel (AV.atAgg x0 (ys321.getD 1 default) 0 2) 1) (AV.cel (AV.atAgg x0 (ys321.getD 0 default) 0 2) 1))) ∧
        ((AV.isBool (AV.bin Go.BinOp.lss (AV.cel (AV.atAgg x0 (ys321.getD 1 default) 0 2) 1) (AV.cel (AV.atAgg x0 (ys321.getD 0 default) 0 2) 1))) ∧
        ((isF (AV.bin Go.BinOp.lss (AV.cel (AV.atAgg x0 (ys321.getD 1 default) 0 2) 1) (AV.cel (AV.atAgg x0 (ys321.getD 0 default) 0 2) 1))) ∧
        ((AV.isBool (AV.bin Go.BinOp.lss (AV.cel (AV.atAgg x0 (ys321.getD 1 default) 0 2) 0) (AV.cel (AV.atAgg x0 (ys321.getD 0 default) 0 2) 0))) ∧
        (((isT (AV.bin Go.BinOp.lss (AV.cel (AV.atAgg x0 (ys321.getD 1 default) 0 2) 0) (AV.cel (AV.atAgg x0 (ys321.getD 0 default) 0 2) 0))) →
          ((AV.binOk Go.BinOp.add (ys321.getD 1 default) (AV.int 1)) ∧
          (again321 [(ys321.getD 1 default), (AV.bin Go.BinOp.add (ys321.getD 1 default) (AV.int 1))]))) ∧
        ((isF (AV.bin Go.BinOp.lss (AV.cel (AV.atAgg x0 (ys321.getD 1 default) 0 2) 0) (AV.cel (AV.atAgg x0 (ys321.getD 0 default) 0 2) 0))) →
          ((AV.binOk Go.BinOp.add (ys321.getD 1 default) (AV.int 1)) ∧
          (again321 [(ys321.getD 0 default), (AV.bin Go.BinOp.add (ys321.getD 1 default) (AV.int 1))]))))))))))) ∧
      ((isF (AV.bin Go.BinOp.eql (AV.cel (AV.atAgg x0 (ys321.getD 1 default) 0 2) 1) (AV.cel (AV.atAgg x0 (ys321.getD 0 default) 0 2) 1))) →
        ((AV.isBool (AV.bin Go.BinOp.eql (AV.cel (AV.atAgg x0 (ys321.getD 1 default) 0 2) 1) (AV.cel (AV.atAgg x0 (ys321.getD 0 default) 0 2) 1))) ∧
        ((isF (AV.bin Go.BinOp.eql (AV.cel (AV.atAgg x0 (ys321.getD 1 default) 0 2) 1) (AV.cel (AV.atAgg x0 (ys321.getD 0 default) 0 2) 1))) ∧
        ((AV.isBool (AV.bin Go.BinOp.lss (AV.cel (AV.atAgg x0 (ys321.getD 1 default) 0 2) 1) (AV.cel (AV.atAgg x0 (ys321.getD 0 default) 0 2) 1))) ∧
        ((isF (AV.bin Go.BinOp.lss (AV.cel (AV.atAgg x0 (ys321.getD 1 default) 0 2) 1) (AV.cel (AV.atAgg x0 (ys321.getD 0 default) 0 2) 1))) ∧
        ((AV.binOk Go.BinOp.add (ys321.getD 1 default) (AV.int 1)) ∧
        (again321 [(ys321.getD 0 default), (AV.bin Go.BinOp.add (ys321.getD 1 default) (AV.int 1))]))))))))))))))))))))) ∧
  ((isF (AV.bin Go.BinOp.lss (ys321.getD 1 default) (AV.len x0))) →
    ((AV.flat (ys321.getD 0 default)) ∧
    (fSame (ys321.getD 0 default) r))))))))) := by kernel_rfl
theorem serr_form (x0 x1 x2 r : AV) : fnF Try.prog Γ ann 3 14 Try.f14 (Try.f14.body.getD .skip) (.nil) [x0, x1, x2] (.sc) r = ((∃ r129 : AV, ((Fn Try.prog 13 [x0] Sh.sc r129) ∧
((AV.unOk Go.UnOp.not r129) ∧
((AV.isBool (AV.un Go.UnOp.not r129)) ∧
(((isT (AV.un Go.UnOp.not r129)) →
  ((AV.flat (AV.int 3)) ∧
  (fSame (AV.int 3) r))) ∧
((isF (AV.un Go.UnOp.not r129)) →
  (∃ r321 : AV, ((Fn Try.prog 11 [x1] Sh.sc r321) ∧
  ((AV.binOk Go.BinOp.neq r321 (AV.int 0)) ∧
  ((AV.isBool (AV.bin Go.BinOp.neq r321 (AV.int 0))) ∧
  (((isT (AV.bin Go.BinOp.neq r321 (AV.int 0))) →
    ((AV.flat r321) ∧
    (fSame r321 r))) ∧
  ((isF (AV.bin Go.BinOp.neq r321 (AV.int 0))) →
    (∃ r641 : AV, ((Fn Try.prog 51 [x2] Sh.sc r641) ∧
    ((AV.flat r641) ∧
    (fSame r641 r))))))))))))))))) := by kernel_rfl
theorem eqs_form (x0 x1 r : AV) : fnF Try.prog Γ ann 0 16 Try.f16 (Try.f16.body.getD .skip) (.nil) [x0, x1] (.sc) r = (((AV.isSl x0 3) ∧
((AV.isSl x1 3) ∧
((AV.binOk Go.BinOp.neq (AV.len x0) (AV.len x1)) ∧
((AV.isBool (AV.bin Go.BinOp.neq (AV.len x0) (AV.len x1))) ∧
(((isT (AV.bin Go.BinOp.neq (AV.len x0) (AV.len x1))) →
  ((AV.flat (AV.bool false)) ∧
  (fSame (AV.bool false) r))) ∧
((isF (AV.bin Go.BinOp.neq (AV.len x0) (AV.len x1))) →
  ((AV.isSl x0 3) ∧
  (fLoop 577 [(AV.int 0)] fun ys577 again577 =>
    ((AV.binOk Go.BinOp.lss (ys577.getD 0 default) (AV.len x0)) ∧
    ((AV.isBool (AV.bin Go.BinOp.lss (ys577.getD 0 default) (AV.len x0))) ∧
    (((isT (AV.bin Go.BinOp.lss (ys577.getD 0 default) (AV.len x0))) →
      ((AV.isSl x0 3) ∧
      ((AV.inb x0 (ys577.getD 0 default)) ∧
      ((AV.isSl x1 3) ∧
      ((AV.inb x1 (ys577.getD 0 default)) ∧
      ((AV.eqPlOk [(0, EK.str), (1, EK.str), (2, (EK.int Go.IntKind.i64))] [(AV.cel (AV.atAgg x0 (ys577.getD 0 default) 0 3) 0), (AV.cel (AV.atAgg x0 (ys577.getD 0 default) 0 3) 1), (AV.cel (AV.atAgg x0 (ys577.getD 0 default) 0 3) 2)] [(AV.cel (AV.atAgg x1 (ys577.getD 0 default) 0 3) 0), (AV.cel (AV.atAgg x1 (ys577.getD 0 default) 0 3) 1), (AV.cel (AV.atAgg x1 (ys577.getD 0 default) 0 3) 2)]) ∧
      ((AV.isAgg (AV.atAgg x0 (ys577.getD 0 default) 0 3) 3) ∧
      ((AV.isAgg (AV.atAgg x1 (ys577.getD 0 default) 0 3) 3) ∧
      ((AV.isBool (AV.nePl [(0, EK.str), (1, EK.str), (2, (EK.int Go.IntKind.i64))] [(AV.cel (AV.atAgg x0 (ys577.getD 0 default) 0 3) 0), (AV.cel (AV.atAgg x0 (ys577.getD 0 default) 0 3) 1), (AV.cel (AV.atAgg x0 (ys577.getD 0 default) 0 3) 2)] [(AV.cel (AV.atAgg x1 (ys577.getD 0 default) 0 3) 0), (AV.cel (AV.atAgg x1 (ys577.getD 0 default) 0 3) 1), (AV.cel (AV.atAgg x1 (ys577.getD 0 default) 0 3) 2)])) ∧
      (((isT (AV.nePl [(0, EK.str), (1, EK.str), (2, (EK.int Go.IntKind.i64))] [(AV.cel (AV.atAgg x0 (ys577.getD 0 default) 0 3) 0), (AV.cel (AV.atAgg x0 (ys577.getD 0 default) 0 3) 1), (AV.cel (AV.atAgg x0 (ys577.getD 0 default) 0 3) 2)] [(AV.cel (AV.atAgg x1 (ys577.getD 0 default) 0 3) 0), (AV.cel (AV.atAgg x1 (ys577.getD 0 default) 0 3) 1), (AV.cel (AV.atAgg x1 (ys577.getD 0 default) 0 3) 2)])) →
        ((AV.flat (AV.bool false)) ∧
        (fSame (AV.bool false) r))) ∧
      ((isF (AV.nePl [(0, EK.str), (1, EK.str), (2, (EK.int Go.IntKind.i64))] [(AV.cel (AV.atAgg x0 (ys577.getD 0 default) 0 3) 0), (AV.cel (AV.atAgg x0 (ys577.getD 0 default) 0 3) 1), (AV.cel (AV.atAgg x0 (ys577.getD 0 default) 0 3) 2)] [(AV.cel (AV.atAgg x1 (ys577.getD 0 default) 0 3) 0), (AV.cel (AV.atAgg x1 (ys577.getD 0 default) 0 3) 1), (AV.cel (AV.atAgg x1 (ys577.getD 0 default) 0 3) 2)])) →
        ((AV.binOk Go.BinOp.add (ys577.getD 0 default) (AV.int 1)) ∧
        (again577 [(AV.bin Go.BinOp.add (ys577.getD 0 default) (AV.int 1))]))))))))))))) ∧
    ((isF (AV.bin Go.BinOp.lss (ys577.getD 0 default) (AV.len x0))) →
      ((AV.flat (AV.bool true)) ∧
      (fSame (AV.bool true) r))))))))))))))) := by kernel_rfl
theorem eqi_form (x0 x1 r : AV) : fnF Try.prog Γ ann 0 20 Try.f20 (Try.f20.body.getD .skip) (.nil) [x0, x1] (.sc) r = (((AV.isSl x0 1) ∧
((AV.isSl x1 1) ∧
((AV.binOk Go.BinOp.neq (AV.len x0) (AV.len x1)) ∧
((AV.isBool (AV.bin Go.BinOp.neq (AV.len x0) (AV.len x1))) ∧
(((isT (AV.bin Go.BinOp.neq (AV.len x0) (AV.len x1))) →
  ((AV.flat (AV.bool false)) ∧
  (fSame (AV.bool false) r))) ∧
((isF (AV.bin Go.BinOp.neq (AV.len x0) (AV.len x1))) →
  ((AV.isSl x0 1) ∧
  (fLoop 577 [(AV.int 0)] fun ys577 again577 =>
    ((AV.binOk Go.BinOp.lss (ys577.getD 0 default) (AV.len x0)) ∧
    ((AV.isBool (AV.bin Go.BinOp.lss (ys577.getD 0 default) (AV.len x0))) ∧
    (((isT (AV.bin Go.BinOp.lss (ys577.getD 0 default) (AV.len x0))) →
      ((AV.isSl x0 1) ∧
      ((AV.inb x0 (ys577.getD 0 default)) ∧
      ((AV.isSl x1 1) ∧
      ((AV.inb x1 (ys577.getD 0 default)) ∧
      ((AV.binOk Go.BinOp.neq (AV.at x0 (ys577.getD 0 default) 0) (AV.at x1 (ys577.getD 0 default) 0)) ∧
      ((AV.isBool (AV.bin Go.BinOp.neq (AV.at x0 (ys577.getD 0 default) 0) (AV.at x1 (ys577.getD 0 default) 0))) ∧
      (((isT (AV.bin Go.BinOp.neq (AV.at x0 (ys577.getD 0 default) 0) (AV.at x1 (ys577.getD 0 default) 0))) →
        ((AV.flat (AV.bool false)) ∧
        (fSame (AV.bool false) r))) ∧
      ((isF (AV.bin Go.BinOp.neq (AV.at x0 (ys577.getD 0 default) 0) (AV.at x1 (ys577.getD 0 default) 0))) →
        ((AV.binOk Go.BinOp.add (ys577.getD 0 default) (AV.int 1)) ∧
        (again577 [(AV.bin Go.BinOp.add (ys577.getD 0 default) (AV.int 1))]))))))))))) ∧
    ((isF (AV.bin Go.BinOp.lss (ys577.getD 0 default) (AV.len x0))) →
      ((AV.flat (AV.bool true)) ∧
      (fSame (AV.bool true) r))))))))))))))) := by kernel_rfl
theorem assign_form (x0 x1 x2 r : AV) : fnF Try.prog Γ ann 3 9 Try.f9 (Try.f9.body.getD .skip) ((.both .nil (.both .nil (.both .nil (.both (.both (.both (.both (.both (.both (.both .nil (.f .nil)) (.f .nil)) (.t .nil)) .nil) (.both (.both (.both .nil (.f .nil)) (.f .nil)) (.t .nil))) .nil) (.both (.both (.both (.both (.both (.both .nil (.f .nil)) (.f .nil)) (.t .nil)) .nil) (.both (.both (.both .nil (.f .nil)) (.f .nil)) (.t .nil))) .nil)))))) [x0, x1, x2] (.tup [.row 34 3 true, .sc]) r = (((fEnt Try.prog 12) ∧
(fAllV fun _ => (∃ r385 : AV, ((Fn Try.prog 50 [x0] Sh.sc r385) ∧
((AV.unOk Go.UnOp.not r385) ∧
((AV.isBool (AV.un Go.UnOp.not r385)) ∧
(((isT (AV.un Go.UnOp.not r385)) →
  ((AV.flatS (AV.mk 3 [])) ∧
  ((AV.flat (AV.int 3)) ∧
  (fSame (AV.tup [(AV.mk 3 []), (AV.int 3)]) r)))) ∧
((isF (AV.un Go.UnOp.not r385)) →
  (∃ r705 : AV, ((Fn Try.prog 10 [x1] Sh.sc r705) ∧
  ((AV.binOk Go.BinOp.neq r705 (AV.int 0)) ∧
  ((AV.isBool (AV.bin Go.BinOp.neq r705 (AV.int 0))) ∧
  (((isT (AV.bin Go.BinOp.neq r705 (AV.int 0))) →
    ((AV.flatS (AV.mk 3 [])) ∧
    ((AV.flat r705) ∧
    (fSame (AV.tup [(AV.mk 3 []), r705]) r)))) ∧
  ((isF (AV.bin Go.BinOp.neq r705 (AV.int 0))) →
    (∃ r1025 : AV, ((Fn Try.prog 40 [x2] Sh.sc r1025) ∧
    ((AV.binOk Go.BinOp.neq r1025 (AV.int 0)) ∧
    ((AV.isBool (AV.bin Go.BinOp.neq r1025 (AV.int 0))) ∧
    (((isT (AV.bin Go.BinOp.neq r1025 (AV.int 0))) →
      ((AV.flatS (AV.mk 3 [])) ∧
      ((AV.flat r1025) ∧
      (fSame (AV.tup [(AV.mk 3 []), r1025]) r)))) ∧
    ((isF (AV.bin Go.BinOp.neq r1025 (AV.int 0))) →
      ((fEnt Try.prog 41) ∧
      (fAllV fun _ => (fNil x1
        (∃ r1857 : AV, ((FnU Try.prog 42 47 2 (AV.mk 2 []) [(AV.mkClo 43 [])] false r1857) ∧
        ((AV.isSl x2 3) ∧
        ((AV.mkOk (AV.len x2) 8) ∧
        ((AV.isI64 (AV.len x2)) ∧
        ((sameNum (AV.len x2) (AV.len x2)) ∧
        (fLoop 2433 [(AV.int 0), (AV.mk 3 []), (AV.rep 1 (AV.len x2) [(AV.int 0)])] fun ys2433 again2433 =>
          ((AV.binOk Go.BinOp.lss (ys2433.getD 0 default) (AV.len r1857)) ∧
          ((AV.isBool (AV.bin Go.BinOp.lss (ys2433.getD 0 default) (AV.len r1857))) ∧
          (((isT (AV.bin Go.BinOp.lss (ys2433.getD 0 default) (AV.len r1857))) →
            ((AV.inb r1857 (ys2433.getD 0 default)) ∧
            ((AV.inb r1857 (ys2433.getD 0 default)) ∧
            ((AV.isAgg (AV.atAgg r1857 (ys2433.getD 0 default) 0 2) 2) ∧
            ((fEnt Try.prog 46) ∧
            (fAllV fun _ => ((AV.isSl x2 3) ∧
            (fLoop 3201 [(AV.int 0)] fun ys3201 again3201 =>
              ((AV.binOk Go.BinOp.lss (ys3201.getD 0 default) (AV.len x2)) ∧
              ((AV.isBool (AV.bin Go.BinOp.lss (ys3201.getD 0 default) (AV.len x2))) ∧
              (((isT (AV.bin Go.BinOp.lss (ys3201.getD 0 default) (AV.len x2))) →
                ((AV.isSl x2 3) ∧
                ((AV.inb x2 (ys3201.getD 0 default)) ∧
                ((fEnt Try.prog 47) ∧
                (fAllV fun _ => ((AV.isAgg (AV.atAgg x2 (ys3201.getD 0 default) 0 3) 3) ∧
                ((AV.binOk Go.BinOp.gtr (AV.cel (AV.atAgg x2 (ys3201.getD 0 default) 0 3) 1) (AV.cel (AV.atAgg r1857 (ys2433.getD 0 default) 0 2) 1)) ∧
                ((AV.isBool (AV.bin Go.BinOp.gtr (AV.cel (AV.atAgg x2 (ys3201.getD 0 default) 0 3) 1) (AV.cel (AV.atAgg r1857 (ys2433.getD 0 default) 0 2) 1))) ∧
                (((isT (AV.bin Go.BinOp.gtr (AV.cel (AV.atAgg x2 (ys3201.getD 0 default) 0 3) 1) (AV.cel (AV.atAgg r1857 (ys2433.getD 0 default) 0 2) 1))) →
                  (fLoop 4673 [(ys3201.getD 0 default)] fun ys4673 again4673 =>
                    ((AV.binOk Go.BinOp.geq (ys4673.getD 0 default) (AV.int 0)) ∧
                    ((AV.isBool (AV.bin Go.BinOp.geq (ys4673.getD 0 default) (AV.int 0))) ∧
                    (((isT (AV.bin Go.BinOp.geq (ys4673.getD 0 default) (AV.int 0))) →
                      ((AV.isSl x2 3) ∧
                      ((AV.binOk Go.BinOp.lss (ys4673.getD 0 default) (AV.len x2)) ∧
                      ((AV.isBool (AV.bin Go.BinOp.geq (ys4673.getD 0 default) (AV.int 0))) ∧
                      ((isT (AV.bin Go.BinOp.geq (ys4673.getD 0 default) (AV.int 0))) ∧
                      ((AV.isBool (AV.bin Go.BinOp.lss (ys4673.getD 0 default) (AV.len x2))) ∧
                      (((isT (AV.bin Go.BinOp.lss (ys4673.getD 0 default) (AV.len x2))) →
                        ((AV.inb (ys2433.getD 2 default) (ys4673.getD 0 default)) ∧
                        ((AV.inb (ys2433.getD 2 default) (ys4673.getD 0 default)) ∧
                        ((AV.isSl x2 3) ∧
                        ((AV.inb x2 (ys4673.getD 0 default)) ∧
                        ((AV.binOk Go.BinOp.geq (AV.at (ys2433.getD 2 default) (ys4673.getD 0 default) 0) (AV.at x2 (ys4673.getD 0 default) 2)) ∧
                        ((AV.isBool (AV.bin Go.BinOp.lss (ys4673.getD 0 default) (AV.len x2))) ∧
                        ((isT (AV.bin Go.BinOp.lss (ys4673.getD 0 default) (AV.len x2))) ∧
                        ((AV.isBool (AV.bin Go.BinOp.geq (AV.at (ys2433.getD 2 default) (ys4673.getD 0 default) 0) (AV.at x2 (ys4673.getD 0 default) 2))) ∧
                        (((isT (AV.bin Go.BinOp.geq (AV.at (ys2433.getD 2 default) (ys4673.getD 0 default) 0) (AV.at x2 (ys4673.getD 0 default) 2))) →
                          ((AV.binOk Go.BinOp.add (ys4673.getD 0 default) (AV.int 1)) ∧
                          (again4673 [(AV.bin Go.BinOp.add (ys4673.getD 0 default) (AV.int 1))]))) ∧
                        ((isF (AV.bin Go.BinOp.geq (AV.at (ys2433.getD 2 default) (ys4673.getD 0 default) 0) (AV.at x2 (ys4673.getD 0 default) 2))) →
                          ((AV.binOk Go.BinOp.lss (ys4673.getD 0 default) (AV.int 0)) ∧
                          ((AV.isBool (AV.bin Go.BinOp.lss (ys4673.getD 0 default) (AV.int 0))) ∧
                          ((isF (AV.bin Go.BinOp.lss (ys4673.getD 0 default) (AV.int 0))) ∧
                          ((AV.isSl x2 3) ∧
                          ((AV.binOk Go.BinOp.eql (ys4673.getD 0 default) (AV.len x2)) ∧
                          ((AV.isBool (AV.bin Go.BinOp.lss (ys4673.getD 0 default) (AV.int 0))) ∧
                          ((isF (AV.bin Go.BinOp.lss (ys4673.getD 0 default) (AV.int 0))) ∧
                          ((AV.isBool (AV.bin Go.BinOp.eql (ys4673.getD 0 default) (AV.len x2))) ∧
                          (((isT (AV.bin Go.BinOp.eql (ys4673.getD 0 default) (AV.len x2))) →
                            ((AV.flatS (AV.mk 3 [])) ∧
                            ((AV.flat (AV.int 18)) ∧
                            (fSame (AV.tup [(AV.mk 3 []), (AV.int 18)]) r)))) ∧
                          ((isF (AV.bin Go.BinOp.eql (ys4673.getD 0 default) (AV.len x2))) →
                            ((AV.inb (ys2433.getD 2 default) (ys4673.getD 0 default)) ∧
                            ((AV.inb (ys2433.getD 2 default) (ys4673.getD 0 default)) ∧
                            ((AV.binOk Go.BinOp.add (AV.at (ys2433.getD 2 default) (ys4673.getD 0 default) 0) (AV.int 1)) ∧
                            ((AV.inb (ys2433.getD 2 default) (ys4673.getD 0 default)) ∧
                            ((AV.isOne (AV.bin Go.BinOp.add (AV.at (ys2433.getD 2 default) (ys4673.getD 0 default) 0) (AV.int 1))) ∧
                            ((AV.inb (ys2433.getD 2 default) (ys4673.getD 0 default)) ∧
                            ((AV.isSl x2 3) ∧
                            ((AV.inb x2 (ys4673.getD 0 default)) ∧
                            ((AV.isInt (AV.cel (AV.atAgg r1857 (ys2433.getD 0 default) 0 2) 1)) ∧
                            ((AV.isInt (AV.at x2 (ys4673.getD 0 default) 0)) ∧
                            ((AV.isOne (AV.cel (AV.atAgg r1857 (ys2433.getD 0 default) 0 2) 0)) ∧
                            ((AV.isOne x0) ∧
                            ((AV.isOne (AV.mx (AV.cel (AV.atAgg r1857 (ys2433.getD 0 default) 0 2) 1) (AV.at x2 (ys4673.getD 0 default) 0))) ∧
                            ((AV.room (ys2433.getD 1 default) (AV.mk 3 [[(AV.cel (AV.atAgg r1857 (ys2433.getD 0 default) 0 2) 0), x0, (AV.mx (AV.cel (AV.atAgg r1857 (ys2433.getD 0 default) 0 2) 1) (AV.at x2 (ys4673.getD 0 default) 0))]]) 40) ∧
                            ((AV.binOk Go.BinOp.add (ys2433.getD 0 default) (AV.int 1)) ∧
                            (again2433 [(AV.bin Go.BinOp.add (ys2433.getD 0 default) (AV.int 1)), (AV.app 3 (ys2433.getD 1 default) (AV.mk 3 [[(AV.cel (AV.atAgg r1857 (ys2433.getD 0 default) 0 2) 0), x0, (AV.mx (AV.cel (AV.atAgg r1857 (ys2433.getD 0 default) 0 2) 1) (AV.at x2 (ys4673.getD 0 default) 0))]])), (AV.setEl (ys2433.getD 2 default) (ys4673.getD 0 default) 0 [(AV.bin Go.BinOp.add (AV.at (ys2433.getD 2 default) (ys4673.getD 0 default) 0) (AV.int 1))])]))))))))))))))))))))))))))))))))))))) ∧
                      ((isF (AV.bin Go.BinOp.lss (ys4673.getD 0 default) (AV.len x2))) →
                        ((AV.isBool (AV.bin Go.BinOp.lss (ys4673.getD 0 default) (AV.len x2))) ∧
                        ((isF (AV.bin Go.BinOp.lss (ys4673.getD 0 default) (AV.len x2))) ∧
                        ((AV.binOk Go.BinOp.lss (ys4673.getD 0 default) (AV.int 0)) ∧
                        ((AV.isBool (AV.bin Go.BinOp.lss (ys4673.getD 0 default) (AV.int 0))) ∧
                        ((isF (AV.bin Go.BinOp.lss (ys4673.getD 0 default) (AV.int 0))) ∧
                        ((AV.isSl x2 3) ∧
                        ((AV.binOk Go.BinOp.eql (ys4673.getD 0 default) (AV.len x2)) ∧
                        ((AV.isBool (AV.bin Go.BinOp.lss (ys4673.getD 0 default) (AV.int 0))) ∧
                        ((isF (AV.bin Go.BinOp.lss (ys4673.getD 0 default) (AV.int 0))) ∧
                        ((AV.isBool (AV.bin Go.BinOp.eql (ys4673.getD 0 default) (AV.len x2))) ∧
                        (((isT (AV.bin Go.BinOp.eql (ys4673.getD 0 default) (AV.len x2))) →
                          ((AV.flatS (AV.mk 3 [])) ∧
                          ((AV.flat (AV.int 18)) ∧
                          (fSame (AV.tup [(AV.mk 3 []), (AV.int 18)]) r)))) ∧
                        ((isF (AV.bin Go.BinOp.eql (ys4673.getD 0 default) (AV.len x2))) →
                          ((AV.inb (ys2433.getD 2 default) (ys4673.getD 0 default)) ∧
                          ((AV.inb (ys2433.getD 2 default) (ys4673.getD 0 default)) ∧
                          ((AV.binOk Go.BinOp.add (AV.at (ys2433.getD 2 default) (ys4673.getD 0 default) 0) (AV.int 1)) ∧
                          ((AV.inb (ys2433.getD 2 default) (ys4673.getD 0 default)) ∧
                          ((AV.isOne (AV.bin Go.BinOp.add (AV.at (ys2433.getD 2 default) (ys4673.getD 0 default) 0) (AV.int 1))) ∧
                          ((AV.inb (ys2433.getD 2 default) (ys4673.getD 0 default)) ∧
                          ((AV.isSl x2 3) ∧
                          ((AV.inb x2 (ys4673.getD 0 default)) ∧
                          ((AV.isInt (AV.cel (AV.atAgg r1857 (ys2433.getD 0 default) 0 2) 1)) ∧
                          ((AV.isInt (AV.at x2 (ys4673.getD 0 default) 0)) ∧
                          ((AV.isOne (AV.cel (AV.atAgg r1857 (ys2433.getD 0 default) 0 2) 0)) ∧
                          ((AV.isOne x0) ∧
                          ((AV.isOne (AV.mx (AV.cel (AV.atAgg r1857 (ys2433.getD 0 default) 0 2) 1) (AV.at x2 (ys4673.getD 0 default) 0))) ∧
                          ((AV.room (ys2433.getD 1 default) (AV.mk 3 [[(AV.cel (AV.atAgg r1857 (ys2433.getD 0 default) 0 2) 0), x0, (AV.mx (AV.cel (AV.atAgg r1857 (ys2433.getD 0 default) 0 2) 1) (AV.at x2 (ys4673.getD 0 default) 0))]]) 40) ∧
                          ((AV.binOk Go.BinOp.add (ys2433.getD 0 default) (AV.int 1)) ∧
                          (again2433 [(AV.bin Go.BinOp.add (ys2433.getD 0 default) (AV.int 1)), (AV.app 3 (ys2433.getD 1 default) (AV.mk 3 [[(AV.cel (AV.atAgg r1857 (ys2433.getD 0 default) 0 2) 0), x0, (AV.mx (AV.cel (AV.atAgg r1857 (ys2433.getD 0 default) 0 2) 1) (AV.at x2 (ys4673.getD 0 default) 0))]])), (AV.setEl (ys2433.getD 2 default) (ys4673.getD 0 default) 0 [(AV.bin Go.BinOp.add (AV.at (ys2433.getD 2 default) (ys4673.getD 0 default) 0) (AV.int 1))])])))))))))))))))))))))))))))))))))))) ∧
                    ((isF (AV.bin Go.BinOp.geq (ys4673.getD 0 default) (AV.int 0))) →
                      ((AV.isBool (AV.bin Go.BinOp.geq (ys4673.getD 0 default) (AV.int 0))) ∧
                      ((isF (AV.bin Go.BinOp.geq (ys4673.getD 0 default) (AV.int 0))) ∧
                      ((AV.binOk Go.BinOp.lss (ys4673.getD 0 default) (AV.int 0)) ∧
                      ((AV.isBool (AV.bin Go.BinOp.lss (ys4673.getD 0 default) (AV.int 0))) ∧
                      ((isT (AV.bin Go.BinOp.lss (ys4673.getD 0 default) (AV.int 0))) ∧
                      ((AV.isBool (AV.bin Go.BinOp.lss (ys4673.getD 0 default) (AV.int 0))) ∧
                      ((isT (AV.bin Go.BinOp.lss (ys4673.getD 0 default) (AV.int 0))) ∧
                      ((AV.flatS (AV.mk 3 [])) ∧
                      ((AV.flat (AV.int 18)) ∧
                      (fSame (AV.tup [(AV.mk 3 []), (AV.int 18)]) r)))))))))))))))) ∧
                ((isF (AV.bin Go.BinOp.gtr (AV.cel (AV.atAgg x2 (ys3201.getD 0 default) 0 3) 1) (AV.cel (AV.atAgg r1857 (ys2433.getD 0 default) 0 2) 1))) →
                  ((AV.binOk Go.BinOp.add (ys3201.getD 0 default) (AV.int 1)) ∧
                  (again3201 [(AV.bin Go.BinOp.add (ys3201.getD 0 default) (AV.int 1))])))))))))))) ∧
              ((isF (AV.bin Go.BinOp.lss (ys3201.getD 0 default) (AV.len x2))) →
                (fLoop 3457 [(AV.int (-1))] fun ys3457 again3457 =>
                  ((AV.binOk Go.BinOp.geq (ys3457.getD 0 default) (AV.int 0)) ∧
                  ((AV.isBool (AV.bin Go.BinOp.geq (ys3457.getD 0 default) (AV.int 0))) ∧
                  (((isT (AV.bin Go.BinOp.geq (ys3457.getD 0 default) (AV.int 0))) →
                    ((AV.isSl x2 3) ∧
                    ((AV.binOk Go.BinOp.lss (ys3457.getD 0 default) (AV.len x2)) ∧
                    ((AV.isBool (AV.bin Go.BinOp.geq (ys3457.getD 0 default) (AV.int 0))) ∧
                    ((isT (AV.bin Go.BinOp.geq (ys3457.getD 0 default) (AV.int 0))) ∧
                    ((AV.isBool (AV.bin Go.BinOp.lss (ys3457.getD 0 default) (AV.len x2))) ∧
                    (((isT (AV.bin Go.BinOp.lss (ys3457.getD 0 default) (AV.len x2))) →
                      ((AV.inb (ys2433.getD 2 default) (ys3457.getD 0 default)) ∧
                      ((AV.inb (ys2433.getD 2 default) (ys3457.getD 0 default)) ∧
                      ((AV.isSl x2 3) ∧
                      ((AV.inb x2 (ys3457.getD 0 default)) ∧
                      ((AV.binOk Go.BinOp.geq (AV.at (ys2433.getD 2 default) (ys3457.getD 0 default) 0) (AV.at x2 (ys3457.getD 0 default) 2)) ∧
                      ((AV.isBool (AV.bin Go.BinOp.lss (ys3457.getD 0 default) (AV.len x2))) ∧
                      ((isT (AV.bin Go.BinOp.lss (ys3457.getD 0 default) (AV.len x2))) ∧
                      ((AV.isBool (AV.bin Go.BinOp.geq (AV.at (ys2433.getD 2 default) (ys3457.getD 0 default) 0) (AV.at x2 (ys3457.getD 0 default) 2))) ∧
                      (((isT (AV.bin Go.BinOp.geq (AV.at (ys2433.getD 2 default) (ys3457.getD 0 default) 0) (AV.at x2 (ys3457.getD 0 default) 2))) →
                        ((AV.binOk Go.BinOp.add (ys3457.getD 0 default) (AV.int 1)) ∧
                        (again3457 [(AV.bin Go.BinOp.add (ys3457.getD 0 default) (AV.int 1))]))) ∧
                      ((isF (AV.bin Go.BinOp.geq (AV.at (ys2433.getD 2 default) (ys3457.getD 0 default) 0) (AV.at x2 (ys3457.getD 0 default) 2))) →
                        ((AV.binOk Go.BinOp.lss (ys3457.getD 0 default) (AV.int 0)) ∧
                        ((AV.isBool (AV.bin Go.BinOp.lss (ys3457.getD 0 default) (AV.int 0))) ∧
                        ((isF (AV.bin Go.BinOp.lss (ys3457.getD 0 default) (AV.int 0))) ∧
                        ((AV.isSl x2 3) ∧
                        ((AV.binOk Go.BinOp.eql (ys3457.getD 0 default) (AV.len x2)) ∧
                        ((AV.isBool (AV.bin Go.BinOp.lss (ys3457.getD 0 default) (AV.int 0))) ∧
                        ((isF (AV.bin Go.BinOp.lss (ys3457.getD 0 default) (AV.int 0))) ∧
                        ((AV.isBool (AV.bin Go.BinOp.eql (ys3457.getD 0 default) (AV.len x2))) ∧
                        (((isT (AV.bin Go.BinOp.eql (ys3457.getD 0 default) (AV.len x2))) →
                          ((AV.flatS (AV.mk 3 [])) ∧
                          ((AV.flat (AV.int 18)) ∧
                          (fSame (AV.tup [(AV.mk 3 []), (AV.int 18)]) r)))) ∧
                        ((isF (AV.bin Go.BinOp.eql (ys3457.getD 0 default) (AV.len x2))) →
                          ((AV.inb (ys2433.getD 2 default) (ys3457.getD 0 default)) ∧
                          ((AV.inb (ys2433.getD 2 default) (ys3457.getD 0 default)) ∧
                          ((AV.binOk Go.BinOp.add (AV.at (ys2433.getD 2 default) (ys3457.getD 0 default) 0) (AV.int 1)) ∧
                          ((AV.inb (ys2433.getD 2 default) (ys3457.getD 0 default)) ∧
                          ((AV.isOne (AV.bin Go.BinOp.add (AV.at (ys2433.getD 2 default) (ys3457.getD 0 default) 0) (AV.int 1))) ∧
                          ((AV.inb (ys2433.getD 2 default) (ys3457.getD 0 default)) ∧
                          ((AV.isSl x2 3) ∧
                          ((AV.inb x2 (ys3457.getD 0 default)) ∧
                          ((AV.isInt (AV.cel (AV.atAgg r1857 (ys2433.getD 0 default) 0 2) 1)) ∧
                          ((AV.isInt (AV.at x2 (ys3457.getD 0 default) 0)) ∧
                          ((AV.isOne (AV.cel (AV.atAgg r1857 (ys2433.getD 0 default) 0 2) 0)) ∧
                          ((AV.isOne x0) ∧
                          ((AV.isOne (AV.mx (AV.cel (AV.atAgg r1857 (ys2433.getD 0 default) 0 2) 1) (AV.at x2 (ys3457.getD 0 default) 0))) ∧
                          ((AV.room (ys2433.getD 1 default) (AV.mk 3 [[(AV.cel (AV.atAgg r1857 (ys2433.getD 0 default) 0 2) 0), x0, (AV.mx (AV.cel (AV.atAgg r1857 (ys2433.getD 0 default) 0 2) 1) (AV.at x2 (ys3457.getD 0 default) 0))]]) 40) ∧
                          ((AV.binOk Go.BinOp.add (ys2433.getD 0 default) (AV.int 1)) ∧
                          (again2433 [(AV.bin Go.BinOp.add (ys2433.getD 0 default) (AV.int 1)), (AV.app 3 (ys2433.getD 1 default) (AV.mk 3 [[(AV.cel (AV.atAgg r1857 (ys2433.getD 0 default) 0 2) 0), x0, (AV.mx (AV.cel (AV.atAgg r1857 (ys2433.getD 0 default) 0 2) 1) (AV.at x2 (ys3457.getD 0 default) 0))]])), (AV.setEl (ys2433.getD 2 default) (ys3457.getD 0 default) 0 [(AV.bin Go.BinOp.add (AV.at (ys2433.getD 2 default) (ys3457.getD 0 default) 0) (AV.int 1))])]))))))))))))))))))))))))))))))))))))) ∧
                    ((isF (AV.bin Go.BinOp.lss (ys3457.getD 0 default) (AV.len x2))) →
                      ((AV.isBool (AV.bin Go.BinOp.lss (ys3457.getD 0 default) (AV.len x2))) ∧
                      ((isF (AV.bin Go.BinOp.lss (ys3457.getD 0 default) (AV.len x2))) ∧
                      ((AV.binOk Go.BinOp.lss (ys3457.getD 0 default) (AV.int 0)) ∧
                      ((AV.isBool (AV.bin Go.BinOp.lss (ys3457.getD 0 default) (AV.int 0))) ∧
                      ((isF (AV.bin Go.BinOp.lss (ys3457.getD 0 default) (AV.int 0))) ∧
                      ((AV.isSl x2 3) ∧
                      ((AV.binOk Go.BinOp.eql (ys3457.getD 0 default) (AV.len x2)) ∧
                      ((AV.isBool (AV.bin Go.BinOp.lss (ys3457.getD 0 default) (AV.int 0))) ∧
                      ((isF (AV.bin Go.BinOp.lss (ys3457.getD 0 default) (AV.int 0))) ∧
                      ((AV.isBool (AV.bin Go.BinOp.eql (ys3457.getD 0 default) (AV.len x2))) ∧
                      (((isT (AV.bin Go.BinOp.eql (ys3457.getD 0 default) (AV.len x2))) →
                        ((AV.flatS (AV.mk 3 [])) ∧
                        ((AV.flat (AV.int 18)) ∧
                        (fSame (AV.tup [(AV.mk 3 []), (AV.int 18)]) r)))) ∧
                      ((isF (AV.bin Go.BinOp.eql (ys3457.getD 0 default) (AV.len x2))) →
                        ((AV.inb (ys2433.getD 2 default) (ys3457.getD 0 default)) ∧
                        ((AV.inb (ys2433.getD 2 default) (ys3457.getD 0 default)) ∧
                        ((AV.binOk Go.BinOp.add (AV.at (ys2433.getD 2 default) (ys3457.getD 0 default) 0) (AV.int 1)) ∧
                        ((AV.inb (ys2433.getD 2 default) (ys3457.getD 0 default)) ∧
                        ((AV.isOne (AV.bin Go.BinOp.add (AV.at (ys2433.getD 2 default) (ys3457.getD 0 default) 0) (AV.int 1))) ∧
                        ((AV.inb (ys2433.getD 2 default) (ys3457.getD 0 default)) ∧
                        ((AV.isSl x2 3) ∧
                        ((AV.inb x2 (ys3457.getD 0 default)) ∧
                        ((AV.isInt (AV.cel (AV.atAgg r1857 (ys2433.getD 0 default) 0 2) 1)) ∧
                        ((AV.isInt (AV.at x2 (ys3457.getD 0 default) 0)) ∧
                        ((AV.isOne (AV.cel (AV.atAgg r1857 (ys2433.getD 0 default) 0 2) 0)) ∧
                        ((AV.isOne x0) ∧
                        ((AV.isOne (AV.mx (AV.cel (AV.atAgg r1857 (ys2433.getD 0 default) 0 2) 1) (AV.at x2 (ys3457.getD 0 default) 0))) ∧
                        ((AV.room (ys2433.getD 1 default) (AV.mk 3 [[(AV.cel (AV.atAgg r1857 (ys2433.getD 0 default) 0 2) 0), x0, (AV.mx (AV.cel (AV.atAgg r1857 (ys2433.getD 0 default) 0 2) 1) (AV.at x2 (ys3457.getD 0 default) 0))]]) 40) ∧
                        ((AV.binOk Go.BinOp.add (ys2433.getD 0 default) (AV.int 1)) ∧
                        (again2433 [(AV.bin Go.BinOp.add (ys2433.getD 0 default) (AV.int 1)), (AV.app 3 (ys2433.getD 1 default) (AV.mk 3 [[(AV.cel (AV.atAgg r1857 (ys2433.getD 0 default) 0 2) 0), x0, (AV.mx (AV.cel (AV.atAgg r1857 (ys2433.getD 0 default) 0 2) 1) (AV.at x2 (ys3457.getD 0 default) 0))]])), (AV.setEl (ys2433.getD 2 default) (ys3457.getD 0 default) 0 [(AV.bin Go.BinOp.add (AV.at (ys2433.getD 2 default) (ys3457.getD 0 default) 0) (AV.int 1))])])))))))))))))))))))))))))))))))))))) ∧
                  ((isF (AV.bin Go.BinOp.geq (ys3457.getD 0 default) (AV.int 0))) →
                    ((AV.isBool (AV.bin Go.BinOp.geq (ys3457.getD 0 default) (AV.int 0))) ∧
                    ((isF (AV.bin Go.BinOp.geq (ys3457.getD 0 default) (AV.int 0))) ∧
                    ((AV.binOk Go.BinOp.lss (ys3457.getD 0 default) (AV.int 0)) ∧
                    ((AV.isBool (AV.bin Go.BinOp.lss (ys3457.getD 0 default) (AV.int 0))) ∧
                    ((isT (AV.bin Go.BinOp.lss (ys3457.getD 0 default) (AV.int 0))) ∧
                    ((AV.isBool (AV.bin Go.BinOp.lss (ys3457.getD 0 default) (AV.int 0))) ∧
                    ((isT (AV.bin Go.BinOp.lss (ys3457.getD 0 default) (AV.int 0))) ∧
                    ((AV.flatS (AV.mk 3 [])) ∧
                    ((AV.flat (AV.int 18)) ∧
                    (fSame (AV.tup [(AV.mk 3 []), (AV.int 18)]) r))))))))))))))))))))))))))) ∧
          ((isF (AV.bin Go.BinOp.lss (ys2433.getD 0 default) (AV.len r1857))) →
            ((AV.flatS (ys2433.getD 1 default)) ∧
            ((AV.flat (AV.int 0)) ∧
            (fSame (AV.tup [(ys2433.getD 1 default), (AV.int 0)]) r))))))))))))))
        ((AV.isSl x1 2) ∧
        ((AV.room (AV.mk 2 []) x1 24) ∧
        (∃ r2049 : AV, ((FnU Try.prog 42 47 2 (AV.app 2 (AV.mk 2 []) x1) [(AV.mkClo 43 [])] false r2049) ∧
        ((AV.isSl x2 3) ∧
        ((AV.mkOk (AV.len x2) 8) ∧
        ((AV.isI64 (AV.len x2)) ∧
        ((sameNum (AV.len x2) (AV.len x2)) ∧
        (fLoop 2625 [(AV.int 0), (AV.mk 3 []), (AV.rep 1 (AV.len x2) [(AV.int 0)])] fun ys2625 again2625 =>
          ((AV.binOk Go.BinOp.lss (ys2625.getD 0 default) (AV.len r2049)) ∧
          ((AV.isBool (AV.bin Go.BinOp.lss (ys2625.getD 0 default) (AV.len r2049))) ∧
          (((isT (AV.bin Go.BinOp.lss (ys2625.getD 0 default) (AV.len r2049))) →
            ((AV.inb r2049 (ys2625.getD 0 default)) ∧
            ((AV.inb r2049 (ys2625.getD 0 default)) ∧
            ((AV.isAgg (AV.atAgg r2049 (ys2625.getD 0 default) 0 2) 2) ∧
            ((fEnt Try.prog 46) ∧
            (fAllV fun _ => ((AV.isSl x2 3) ∧
            (fLoop 3393 [(AV.int 0)] fun ys3393 again3393 =>
              ((AV.binOk Go.BinOp.lss (ys3393.getD 0 default) (AV.len x2)) ∧
              ((AV.isBool (AV.bin Go.BinOp.lss (ys3393.getD 0 default) (AV.len x2))) ∧
              (((isT (AV.bin Go.BinOp.lss (ys3393.getD 0 default) (AV.len x2))) →
                ((AV.isSl x2 3) ∧
                ((AV.inb x2 (ys3393.getD 0 default)) ∧
                ((fEnt Try.prog 47) ∧
                (fAllV fun _ => ((AV.isAgg (AV.atAgg x2 (ys3393.getD 0 default) 0 3) 3) ∧
                ((AV.binOk Go.BinOp.gtr (AV.cel (AV.atAgg x2 (ys3393.getD 0 default) 0 3) 1) (AV.cel (AV.atAgg r2049 (ys2625.getD 0 default) 0 2) 1)) ∧
                ((AV.isBool (AV.bin Go.BinOp.gtr (AV.cel (AV.atAgg x2 (ys3393.getD 0 default) 0 3) 1) (AV.cel (AV.atAgg r2049 (ys2625.getD 0 default) 0 2) 1))) ∧
                (((isT (AV.bin Go.BinOp.gtr (AV.cel (AV.atAgg x2 (ys3393.getD 0 default) 0 3) 1) (AV.cel (AV.atAgg r2049 (ys2625.getD 0 default) 0 2) 1))) →
                  (fLoop 4865 [(ys3393.getD 0 default)] fun ys4865 again4865 =>
                    ((AV.binOk Go.BinOp.geq (ys4865.getD 0 default) (AV.int 0)) ∧
                    ((AV.isBool (AV.bin Go.BinOp.geq (ys4865.getD 0 default) (AV.int 0))) ∧
                    (((isT (AV.bin Go.BinOp.geq (ys4865.getD 0 default) (AV.int 0))) →
                      ((AV.isSl x2 3) ∧
                      ((AV.binOk Go.BinOp.lss (ys4865.getD 0 default) (AV.len x2)) ∧
                      ((AV.isBool (AV.bin Go.BinOp.geq (ys4865.getD 0 default) (AV.int 0))) ∧
                      ((isT (AV.bin Go.BinOp.geq (ys4865.getD 0 default) (AV.int 0))) ∧
                      ((AV.isBool (AV.bin Go.BinOp.lss (ys4865.getD 0 default) (AV.len x2))) ∧
                      (((isT (AV.bin Go.BinOp.lss (ys4865.getD 0 default) (AV.len x2))) →
                        ((AV.inb (ys2625.getD 2 default) (ys4865.getD 0 default)) ∧
                        ((AV.inb (ys2625.getD 2 default) (ys4865.getD 0 default)) ∧
                        ((AV.isSl x2 3) ∧
                        ((AV.inb x2 (ys4865.getD 0 default)) ∧
                        ((AV.binOk Go.BinOp.geq (AV.at (ys2625.getD 2 default) (ys4865.getD 0 default) 0) (AV.at x2 (ys4865.getD 0 default) 2)) ∧
                        ((AV.isBool (AV.bin Go.BinOp.lss (ys4865.getD 0 default) (AV.len x2))) ∧
                        ((isT (AV.bin Go.BinOp.lss (ys4865.getD 0 default) (AV.len x2))) ∧
                        ((AV.isBool (AV.bin Go.BinOp.geq (AV.at (ys2625.getD 2 default) (ys4865.getD 0 default) 0) (AV.at x2 (ys4865.getD 0 default) 2))) ∧
                        (((isT (AV.bin Go.BinOp.geq (AV.at (ys2625.getD 2 default) (ys4865.getD 0 default) 0) (AV.at x2 (ys4865.getD 0 default) 2))) →
                          ((AV.binOk Go.BinOp.add (ys4865.getD 0 default) (AV.int 1)) ∧
                          (again4865 [(AV.bin Go.BinOp.add (ys4865.getD 0 default) (AV.int 1))]))) ∧
                        ((isF (AV.bin Go.BinOp.geq (AV.at (ys2625.getD 2 default) (ys4865.getD 0 default) 0) (AV.at x2 (ys4865.getD 0 default) 2))) →
                          ((AV.binOk Go.BinOp.lss (ys4865.getD 0 default) (AV.int 0)) ∧
                          ((AV.isBool (AV.bin Go.BinOp.lss (ys4865.getD 0 default) (AV.int 0))) ∧
                          ((isF (AV.bin Go.BinOp.lss (ys4865.getD 0 default) (AV.int 0))) ∧
                          ((AV.isSl x2 3) ∧
                          ((AV.binOk Go.BinOp.eql (ys4865.getD 0 default) (AV.len x2)) ∧
                          ((AV.isBool (AV.bin Go.BinOp.lss (ys4865.getD 0 default) (AV.int 0))) ∧
                          ((isF (AV.bin Go.BinOp.lss (ys4865.getD 0 default) (AV.int 0))) ∧
                          ((AV.isBool (AV.bin Go.BinOp.eql (ys4865.getD 0 default) (AV.len x2))) ∧
                          (((isT (AV.bin Go.BinOp.eql (ys4865.getD 0 default) (AV.len x2))) →
                            ((AV.flatS (AV.mk 3 [])) ∧
                            ((AV.flat (AV.int 18)) ∧
                            (fSame (AV.tup [(AV.mk 3 []), (AV.int 18)]) r)))) ∧
                          ((isF (AV.bin Go.BinOp.eql (ys4865.getD 0 default) (AV.len x2))) →
                            ((AV.inb (ys2625.getD 2 default) (ys4865.getD 0 default)) ∧
                            ((AV.inb (ys2625.getD 2 default) (ys4865.getD 0 default)) ∧
                            ((AV.binOk Go.BinOp.add (AV.at (ys2625.getD 2 default) (ys4865.getD 0 default) 0) (AV.int 1)) ∧
                            ((AV.inb (ys2625.getD 2 default) (ys4865.getD 0 default)) ∧
                            ((AV.isOne (AV.bin Go.BinOp.add (AV.at (ys2625.getD 2 default) (ys4865.getD 0 default) 0) (AV.int 1))) ∧
                            ((AV.inb (ys2625.getD 2 default) (ys4865.getD 0 default)) ∧
                            ((AV.isSl x2 3) ∧
                            ((AV.inb x2 (ys4865.getD 0 default)) ∧
                            ((AV.isInt (AV.cel (AV.atAgg r2049 (ys2625.getD 0 default) 0 2) 1)) ∧
                            ((AV.isInt (AV.at x2 (ys4865.getD 0 default) 0)) ∧
                            ((AV.isOne (AV.cel (AV.atAgg r2049 (ys2625.getD 0 default) 0 2) 0)) ∧
                            ((AV.isOne x0) ∧
                            ((AV.isOne (AV.mx (AV.cel (AV.atAgg r2049 (ys2625.getD 0 default) 0 2) 1) (AV.at x2 (ys4865.getD 0 default) 0))) ∧
                            ((AV.room (ys2625.getD 1 default) (AV.mk 3 [[(AV.cel (AV.atAgg r2049 (ys2625.getD 0 default) 0 2) 0), x0, (AV.mx (AV.cel (AV.atAgg r2049 (ys2625.getD 0 default) 0 2) 1) (AV.at x2 (ys4865.getD 0 default) 0))]]) 40) ∧
                            ((AV.binOk Go.BinOp.add (ys2625.getD 0 default) (AV.int 1)) ∧
                            (again2625 [(AV.bin Go.BinOp.add (ys2625.getD 0 default) (AV.int 1)), (AV.app 3 (ys2625.getD 1 default) (AV.mk 3 [[(AV.cel (AV.atAgg r2049 (ys2625.getD 0 default) 0 2) 0), x0, (AV.mx (AV.cel (AV.atAgg r2049 (ys2625.getD 0 default) 0 2) 1) (AV.at x2 (ys4865.getD 0 default) 0))]])), (AV.setEl (ys2625.getD 2 default) (ys4865.getD 0 default) 0 [(AV.bin Go.BinOp.add (AV.at (ys2625.getD 2 default) (ys4865.getD 0 default) 0) (AV.int 1))])]))))))))))))))))))))))))))))))))))))) ∧
                      ((isF (AV.bin Go.BinOp.lss (ys4865.getD 0 default) (AV.len x2))) →
                        ((AV.isBool (AV.bin Go.BinOp.lss (ys4865.getD 0 default) (AV.len x2))) ∧
                        ((isF (AV.bin Go.BinOp.lss (ys4865.getD 0 default) (AV.len x2))) ∧
                        ((AV.binOk Go.BinOp.lss (ys4865.getD 0 default) (AV.int 0)) ∧
                        ((AV.isBool (AV.bin Go.BinOp.lss (ys4865.getD 0 default) (AV.int 0))) ∧
                        ((isF (AV.bin Go.BinOp.lss (ys4865.getD 0 default) (AV.int 0))) ∧
                        ((AV.isSl x2 3) ∧
                        ((AV.binOk Go.BinOp.eql (ys4865.getD 0 default) (AV.len x2)) ∧
                        ((AV.isBool (AV.bin Go.BinOp.lss (ys4865.getD 0 default) (AV.int 0))) ∧
                        ((isF (AV.bin Go.BinOp.lss (ys4865.getD 0 default) (AV.int 0))) ∧
                        ((AV.isBool (AV.bin Go.BinOp.eql (ys4865.getD 0 default) (AV.len x2))) ∧
                        (((isT (AV.bin Go.BinOp.eql (ys4865.getD 0 default) (AV.len x2))) →
                          ((AV.flatS (AV.mk 3 [])) ∧
                          ((AV.flat (AV.int 18)) ∧
                          (fSame (AV.tup [(AV.mk 3 []), (AV.int 18)]) r)))) ∧
                        ((isF (AV.bin Go.BinOp.eql (ys4865.getD 0 default) (AV.len x2))) →
                          ((AV.inb (ys2625.getD 2 default) (ys4865.getD 0 default)) ∧
                          ((AV.inb (ys2625.getD 2 default) (ys4865.getD 0 default)) ∧
                          ((AV.binOk Go.BinOp.add (AV.at (ys2625.getD 2 default) (ys4865.getD 0 default) 0) (AV.int 1)) ∧
                          ((AV.inb (ys2625.getD 2 default) (ys4865.getD 0 default)) ∧
                          ((AV.isOne (AV.bin Go.BinOp.add (AV.at (ys2625.getD 2 default) (ys4865.getD 0 default) 0) (AV.int 1))) ∧
                          ((AV.inb (ys2625.getD 2 default) (ys4865.getD 0 default)) ∧
                          ((AV.isSl x2 3) ∧
                          ((AV.inb x2 (ys4865.getD 0 default)) ∧
                          ((AV.isInt (AV.cel (AV.atAgg r2049 (ys2625.getD 0 default) 0 2) 1)) ∧
                          ((AV.isInt (AV.at x2 (ys4865.getD 0 default) 0)) ∧
                          ((AV.isOne (AV.cel (AV.atAgg r2049 (ys2625.getD 0 default) 0 2) 0)) ∧
                          ((AV.isOne x0) ∧
                          ((AV.isOne (AV.mx (AV.cel (AV.atAgg r2049 (ys2625.getD 0 default) 0 2) 1) (AV.at x2 (ys4865.getD 0 default) 0))) ∧
                          ((AV.room (ys2625.getD 1 default) (AV.mk 3 [[(AV.cel (AV.atAgg r2049 (ys2625.getD 0 default) 0 2) 0), x0, (AV.mx (AV.cel (AV.atAgg r2049 (ys2625.getD 0 default) 0 2) 1) (AV.at x2 (ys4865.getD 0 default) 0))]]) 40) ∧
                          ((AV.binOk Go.BinOp.add (ys2625.getD 0 default) (AV.int 1)) ∧
                          (again2625 [(AV.bin Go.BinOp.add (ys2625.getD 0 default) (AV.int 1)), (AV.app 3 (ys2625.getD 1 default) (AV.mk 3 [[(AV.cel (AV.atAgg r2049 (ys2625.getD 0 default) 0 2) 0), x0, (AV.mx (AV.cel (AV.atAgg r2049 (ys2625.getD 0 default) 0 2) 1) (AV.at x2 (ys4865.getD 0 default) 0))]])), (AV.setEl (ys2625.getD 2 default) (ys4865.getD 0 default) 0 [(AV.bin Go.BinOp.add (AV.at (ys2625.getD 2 default) (ys4865.getD 0 default) 0) (AV.int 1))])])))))))))))))))))))))))))))))))))))) ∧
                    ((isF (AV.bin Go.BinOp.geq (ys4865.getD 0 default) (AV.int 0))) →
                      ((AV.isBool (AV.bin Go.BinOp.geq (ys4865.getD 0 default) (AV.int 0))) ∧
                      ((isF (AV.bin Go.BinOp.geq (ys4865.getD 0 default) (AV.int 0))) ∧
                      ((AV.binOk Go.BinOp.lss (ys4865.getD 0 default) (AV.int 0)) ∧
                      ((AV.isBool (AV.bin Go.BinOp.lss (ys4865.getD 0 default) (AV.int 0))) ∧
                      ((isT (AV.bin Go.BinOp.lss (ys4865.getD 0 default) (AV.int 0))) ∧
                      ((AV.isBool (AV.bin Go.BinOp.lss (ys4865.getD 0 default) (AV.int 0))) ∧
                      ((isT (AV.bin Go.BinOp.lss (ys4865.getD 0 default) (AV.int 0))) ∧
                      ((AV.flatS (AV.mk 3 [])) ∧
                      ((AV.flat (AV.int 18)) ∧
                      (fSame (AV.tup [(AV.mk 3 []), (AV.int 18)]) r)))))))))))))))) ∧
                ((isF (AV.bin Go.BinOp.gtr (AV.cel (AV.atAgg x2 (ys3393.getD 0 default) 0 3) 1) (AV.cel (AV.atAgg r2049 (ys2625.getD 0 default) 0 2) 1))) →
                  ((AV.binOk Go.BinOp.add (ys3393.getD 0 default) (AV.int 1)) ∧
                  (again3393 [(AV.bin Go.BinOp.add (ys3393.getD 0 default) (AV.int 1))])))))))))))) ∧
              ((isF (AV.bin Go.BinOp.lss (ys3393.getD 0 default) (AV.len x2))) →
                (fLoop 3649 [(AV.int (-1))] fun ys3649 again3649 =>
                  ((AV.binOk Go.BinOp.geq (ys3649.getD 0 default) (AV.int 0)) ∧
                  ((AV.isBool (AV.bin Go.BinOp.geq (ys3649.getD 0 default) (AV.int 0))) ∧
                  (((isT (AV.bin Go.BinOp.geq (ys3649.getD 0 default) (AV.int 0))) →
                    ((AV.isSl x2 3) ∧
                    ((AV.binOk Go.BinOp.lss (ys3649.getD 0 default) (AV.len x2)) ∧
                    ((AV.isBool (AV.bin Go.BinOp.geq (ys3649.getD 0 default) (AV.int 0))) ∧
                    ((isT (AV.bin Go.BinOp.geq (ys3649.getD 0 default) (AV.int 0))) ∧
                    ((AV.isBool (AV.bin Go.BinOp.lss (ys3649.getD 0 default) (AV.len x2))) ∧
                    (((isT (AV.bin Go.BinOp.lss (ys3649.getD 0 default) (AV.len x2))) →
                      ((AV.inb (ys2625.getD 2 default) (ys3649.getD 0 default)) ∧
                      ((AV.inb (ys2625.getD 2 default) (ys3649.getD 0 default)) ∧
                      ((AV.isSl x2 3) ∧
                      ((AV.inb x2 (ys3649.getD 0 default)) ∧
                      ((AV.binOk Go.BinOp.geq (AV.at (ys2625.getD 2 default) (ys3649.getD 0 default) 0) (AV.at x2 (ys3649.getD 0 default) 2)) ∧
                      ((AV.isBool (AV.bin Go.BinOp.lss (ys3649.getD 0 default) (AV.len x2))) ∧
                      ((isT (AV.bin Go.BinOp.lss (ys3649.getD 0 default) (AV.len x2))) ∧
                      ((AV.isBool (AV.bin Go.BinOp.geq (AV.at (ys2625.getD 2 default) (ys3649.getD 0 default) 0) (AV.at x2 (ys3649.getD 0 default) 2))) ∧
                      (((isT (AV.bin Go.BinOp.geq (AV.at (ys2625.getD 2 default) (ys3649.getD 0 default) 0) (AV.at x2 (ys3649.getD 0 default) 2))) →
                        ((AV.binOk Go.BinOp.add (ys3649.getD 0 default) (AV.int 1)) ∧
                        (again3649 [(AV.bin Go.BinOp.add (ys3649.getD 0 default) (AV.int 1))]))) ∧
                      ((isF (AV.bin Go.BinOp.geq (AV.at (ys2625.getD 2 default) (ys3649.getD 0 default) 0) (AV.at x2 (ys3649.getD 0 default) 2))) →
                        ((AV.binOk Go.BinOp.lss (ys3649.getD 0 default) (AV.int 0)) ∧
                        ((AV.isBool (AV.bin Go.BinOp.lss (ys3649.getD 0 default) (AV.int 0))) ∧
                        ((isF (AV.bin Go.BinOp.lss (ys3649.getD 0 default) (AV.int 0))) ∧
                        ((AV.isSl x2 3) ∧
                        ((AV.binOk Go.BinOp.eql (ys3649.getD 0 default) (AV.len x2)) ∧
                        ((AV.isBool (AV.bin Go.BinOp.lss (ys3649.getD 0 default) (AV.int 0))) ∧
                        ((isF (AV.bin Go.BinOp.lss (ys3649.getD 0 default) (AV.int 0))) ∧
                        ((AV.isBool (AV.bin Go.BinOp.eql (ys3649.getD 0 default) (AV.len x2))) ∧
                        (((isT (AV.bin Go.BinOp.eql (ys3649.getD 0 default) (AV.len x2))) →
                          ((AV.flatS (AV.mk 3 [])) ∧
                          ((AV.flat (AV.int 18)) ∧
                          (fSame (AV.tup [(AV.mk 3 []), (AV.int 18)]) r)))) ∧
                        ((isF (AV.bin Go.BinOp.eql (ys3649.getD 0 default) (AV.len x2))) →
                          ((AV.inb (ys2625.getD 2 default) (ys3649.getD 0 default)) ∧
                          ((AV.inb (ys2625.getD 2 default) (ys3649.getD 0 default)) ∧
                          ((AV.binOk Go.BinOp.add (AV.at (ys2625.getD 2 default) (ys3649.getD 0 default) 0) (AV.int 1)) ∧
                          ((AV.inb (ys2625.getD 2 default) (ys3649.getD 0 default)) ∧
                          ((AV.isOne (AV.bin Go.BinOp.add (AV.at (ys2625.getD 2 default) (ys3649.getD 0 default) 0) (AV.int 1))) ∧
                          ((AV.inb (ys2625.getD 2 default) (ys3649.getD 0 default)) ∧
                          ((AV.isSl x2 3) ∧
                          ((AV.inb x2 (ys3649.getD 0 default)) ∧
                          ((AV.isInt (AV.cel (AV.atAgg r2049 (ys2625.getD 0 default) 0 2) 1)) ∧
                          ((AV.isInt (AV.at x2 (ys3649.getD 0 default) 0)) ∧
                          ((AV.isOne (AV.cel (AV.atAgg r2049 (ys2625.getD 0 default) 0 2) 0)) ∧
                          ((AV.isOne x0) ∧
                          ((AV.isOne (AV.mx (AV.cel (AV.atAgg r2049 (ys2625.getD 0 default) 0 2) 1) (AV.at x2 (ys3649.getD 0 default) 0))) ∧
                          ((AV.room (ys2625.getD 1 default) (AV.mk 3 [[(AV.cel (AV.atAgg r2049 (ys2625.getD 0 default) 0 2) 0), x0, (AV.mx (AV.cel (AV.atAgg r2049 (ys2625.getD 0 default) 0 2) 1) (AV.at x2 (ys3649.getD 0 default) 0))]]) 40) ∧
                          ((AV.binOk Go.BinOp.add (ys2625.getD 0 default) (AV.int 1)) ∧
                          (again2625 [(AV.bin Go.BinOp.add (ys2625.getD 0 default) (AV.int 1)), (AV.app 3 (ys2625.getD 1 default) (AV.mk 3 [[(AV.cel (AV.atAgg r2049 (ys2625.getD 0 default) 0 2) 0), x0, (AV.mx (AV.cel (AV.atAgg r2049 (ys2625.getD 0 default) 0 2) 1) (AV.at x2 (ys3649.getD 0 default) 0))]])), (AV.setEl (ys2625.getD 2 default) (ys3649.getD 0 default) 0 [(AV.bin Go.BinOp.add (AV.at (ys2625.getD 2 default) (ys3649.getD 0 default) 0) (AV.int 1))])]))))))))))))))))))))))))))))))))))))) ∧
                    ((isF (AV.bin Go.BinOp.lss (ys3649.getD 0 default) (AV.len x2))) →
                      ((AV.isBool (AV.bin Go.BinOp.lss (ys3649.getD 0 default) (AV.len x2))) ∧
                      ((isF (AV.bin Go.BinOp.lss (ys3649.getD 0 default) (AV.len x2))) ∧
                      ((AV.binOk Go.BinOp.lss (ys3649.getD 0 default) (AV.int 0)) ∧
                      ((AV.isBool (AV.bin Go.BinOp.lss (ys3649.getD 0 default) (AV.int 0))) ∧
                      ((isF (AV.bin Go.BinOp.lss (ys3649.getD 0 default) (AV.int 0))) ∧
                      ((AV.isSl x2 3) ∧
                      ((AV.binOk Go.BinOp.eql (ys3649.getD 0 default) (AV.len x2)) ∧
                      ((AV.isBool (AV.bin Go.BinOp.lss (ys3649.getD 0 default) (AV.int 0))) ∧
                      ((isF (AV.bin Go.BinOp.lss (ys3649.getD 0 default) (AV.int 0))) ∧
                      ((AV.isBool (AV.bin Go.BinOp.eql (ys3649.getD 0 default) (AV.len x2))) ∧
                      (((isT (AV.bin Go.BinOp.eql (ys3649.getD 0 default) (AV.len x2))) →
                        ((AV.flatS (AV.mk 3 [])) ∧
                        ((AV.flat (AV.int 18)) ∧
                        (fSame (AV.tup [(AV.mk 3 []), (AV.int 18)]) r)))) ∧
                      ((isF (AV.bin Go.BinOp.eql (ys3649.getD 0 default) (AV.len x2))) →
                        ((AV.inb (ys2625.getD 2 default) (ys3649.getD 0 default)) ∧
                        ((AV.inb (ys2625.getD 2 default) (ys3649.getD 0 default)) ∧
                        ((AV.binOk Go.BinOp.add (AV.at (ys2625.getD 2 default) (ys3649.getD 0 default) 0) (AV.int 1)) ∧
                        ((AV.inb (ys2625.getD 2 default) (ys3649.getD 0 default)) ∧
                        ((AV.isOne (AV.bin Go.BinOp.add (AV.at (ys2625.getD 2 default) (ys3649.getD 0 default) 0) (AV.int 1))) ∧
                        ((AV.inb (ys2625.getD 2 default) (ys3649.getD 0 default)) ∧
                        ((AV.isSl x2 3) ∧
                        ((AV.inb x2 (ys3649.getD 0 default)) ∧
                        ((AV.isInt (AV.cel (AV.atAgg r2049 (ys2625.getD 0 default) 0 2) 1)) ∧
                        ((AV.isInt (AV.at x2 (ys3649.getD 0 default) 0)) ∧
                        ((AV.isOne (AV.cel (AV.atAgg r2049 (ys2625.getD 0 default) 0 2) 0)) ∧
                        ((AV.isOne x0) ∧
                        ((AV.isOne (AV.mx (AV.cel (AV.atAgg r2049 (ys2625.getD 0 default) 0 2) 1) (AV.at x2 (ys3649.getD 0 default) 0))) ∧
                        ((AV.room (ys2625.getD 1 default) (AV.mk 3 [[(AV.cel (AV.atAgg r2049 (ys2625.getD 0 default) 0 2) 0), x0, (AV.mx (AV.cel (AV.atAgg r2049 (ys2625.getD 0 default) 0 2) 1) (AV.at x2 (ys3649.getD 0 default) 0))]]) 40) ∧
                        ((AV.binOk Go.BinOp.add (ys2625.getD 0 default) (AV.int 1)) ∧
                        (again2625 [(AV.bin Go.BinOp.add (ys2625.getD 0 default) (AV.int 1)), (AV.app 3 (ys2625.getD 1 default) (AV.mk 3 [[(AV.cel (AV.atAgg r2049 (ys2625.getD 0 default) 0 2) 0), x0, (AV.mx (AV.cel (AV.atAgg r2049 (ys2625.getD 0 default) 0 2) 1) (AV.at x2 (ys3649.getD 0 default) 0))]])), (AV.setEl (ys2625.getD 2 default) (ys3649.getD 0 default) 0 [(AV.bin Go.BinOp.add (AV.at (ys2625.getD 2 default) (ys3649.getD 0 default) 0) (AV.int 1))])])))))))))))))))))))))))))))))))))))) ∧
                  ((isF (AV.bin Go.BinOp.geq (ys3649.getD 0 default) (AV.int 0))) →
                    ((AV.isBool (AV.bin Go.BinOp.geq (ys3649.getD 0 default) (AV.int 0))) ∧
                    ((isF (AV.bin Go.BinOp.geq (ys3649.getD 0 default) (AV.int 0))) ∧
                    ((AV.binOk Go.BinOp.lss (ys3649.getD 0 default) (AV.int 0)) ∧
                    ((AV.isBool (AV.bin Go.BinOp.lss (ys3649.getD 0 default) (AV.int 0))) ∧
                    ((isT (AV.bin Go.BinOp.lss (ys3649.getD 0 default) (AV.int 0))) ∧
                    ((AV.isBool (AV.bin Go.BinOp.lss (ys3649.getD 0 default) (AV.int 0))) ∧
                    ((isT (AV.bin Go.BinOp.lss (ys3649.getD 0 default) (AV.int 0))) ∧
                    ((AV.flatS (AV.mk 3 [])) ∧
                    ((AV.flat (AV.int 18)) ∧
                    (fSame (AV.tup [(AV.mk 3 []), (AV.int 18)]) r))))))))))))))))))))))))))) ∧
          ((isF (AV.bin Go.BinOp.lss (ys2625.getD 0 default) (AV.len r2049))) →
            ((AV.flatS (ys2625.getD 1 default)) ∧
            ((AV.flat (AV.int 0)) ∧
            (fSame (AV.tup [(ys2625.getD 1 default), (AV.int 0)]) r)))))))))))))))))))))))))))))))))))))))) := by kernel_rfl
theorem delays_form (x0 x1 r : AV) : fnF Try.prog Γ ann 3 17 Try.f17 (Try.f17.body.getD .skip) (.nil) [x0, x1] (.tup [.row 3 1 true, .sc]) r = ((∃ r193 : AV, ((Fn Try.prog 10 [x0] Sh.sc r193) ∧
((AV.binOk Go.BinOp.neq r193 (AV.int 0)) ∧
((AV.isBool (AV.bin Go.BinOp.neq r193 (AV.int 0))) ∧
(((isT (AV.bin Go.BinOp.neq r193 (AV.int 0))) →
  ((AV.flatS (AV.mk 1 [])) ∧
  ((AV.flat r193) ∧
  (fSame (AV.tup [(AV.mk 1 []), r193]) r)))) ∧
((isF (AV.bin Go.BinOp.neq r193 (AV.int 0))) →
  ((AV.isSl x1 3) ∧
  ((AV.binOk Go.BinOp.gtr (AV.len x1) (AV.int 24)) ∧
  ((AV.isBool (AV.bin Go.BinOp.gtr (AV.len x1) (AV.int 24))) ∧
  (((isT (AV.bin Go.BinOp.gtr (AV.len x1) (AV.int 24))) →
    ((AV.flatS (AV.mk 1 [])) ∧
    ((AV.flat (AV.int 2)) ∧
    (fSame (AV.tup [(AV.mk 1 []), (AV.int 2)]) r)))) ∧
  ((isF (AV.bin Go.BinOp.gtr (AV.len x1) (AV.int 24))) →
    ((AV.isSl x0 2) ∧
    (fLoop 897 [(AV.int 0), (AV.mk 1 [])] fun ys897 again897 =>
      ((AV.binOk Go.BinOp.lss (ys897.getD 0 default) (AV.len x0)) ∧
      ((AV.isBool (AV.bin Go.BinOp.lss (ys897.getD 0 default) (AV.len x0))) ∧
      (((isT (AV.bin Go.BinOp.lss (ys897.getD 0 default) (AV.len x0))) →
        ((AV.isSl x0 2) ∧
        ((AV.inb x0 (ys897.getD 0 default)) ∧
        ((AV.isAgg (AV.atAgg x0 (ys897.getD 0 default) 0 2) 2) ∧
        (∃ r1409 : AV, ((Fn Try.prog 54 [x1, (AV.cel (AV.atAgg x0 (ys897.getD 0 default) 0 2) 0)] Sh.sc r1409) ∧
        ((AV.binOk Go.BinOp.lss r1409 (AV.int 0)) ∧
        ((AV.isBool (AV.bin Go.BinOp.lss r1409 (AV.int 0))) ∧
        (((isT (AV.bin Go.BinOp.lss r1409 (AV.int 0))) →
          ((AV.flatS (AV.mk 1 [])) ∧
          ((AV.flat (AV.int 8)) ∧
          (fSame (AV.tup [(AV.mk 1 []), (AV.int 8)]) r)))) ∧
        ((isF (AV.bin Go.BinOp.lss r1409 (AV.int 0))) →
          ((AV.isSl x1 3) ∧
          ((AV.inb x1 r1409) ∧
          ((AV.binOk Go.BinOp.lss (AV.at x1 r1409 2) (AV.cel (AV.atAgg x0 (ys897.getD 0 default) 0 2) 1)) ∧
          ((AV.isBool (AV.bin Go.BinOp.lss (AV.at x1 r1409 2) (AV.cel (AV.atAgg x0 (ys897.getD 0 default) 0 2) 1))) ∧
          (((isT (AV.bin Go.BinOp.lss (AV.at x1 r1409 2) (AV.cel (AV.atAgg x0 (ys897.getD 0 default) 0 2) 1))) →
            ((AV.isBool (AV.bin Go.BinOp.lss (AV.at x1 r1409 2) (AV.cel (AV.atAgg x0 (ys897.getD 0 default) 0 2) 1))) ∧
            ((isT (AV.bin Go.BinOp.lss (AV.at x1 r1409 2) (AV.cel (AV.atAgg x0 (ys897.getD 0 default) 0 2) 1))) ∧
            ((AV.flatS (AV.mk 1 [])) ∧
            ((AV.flat (AV.int 12)) ∧
            (fSame (AV.tup [(AV.mk 1 []), (AV.int 12)]) r)))))) ∧
          ((isF (AV.bin Go.BinOp.lss (AV.at x1 r1409 2) (AV.cel (AV.atAgg x0 (ys897.getD 0 default) 0 2) 1))) →
            ((AV.isSl x1 3) ∧
            ((AV.inb x1 r1409) ∧
            ((AV.binOk Go.BinOp.gtr (AV.at x1 r1409 2) (AV.int 200000)) ∧
            ((AV.isBool (AV.bin Go.BinOp.lss (AV.at x1 r1409 2) (AV.cel (AV.atAgg x0 (ys897.getD 0 default) 0 2) 1))) ∧
            ((isF (AV.bin Go.BinOp.lss (AV.at x1 r1409 2) (AV.cel (AV.atAgg x0 (ys897.getD 0 default) 0 2) 1))) ∧
            ((AV.isBool (AV.bin Go.BinOp.gtr (AV.at x1 r1409 2) (AV.int 200000))) ∧
            (((isT (AV.bin Go.BinOp.gtr (AV.at x1 r1409 2) (AV.int 200000))) →
              ((AV.flatS (AV.mk 1 [])) ∧
              ((AV.flat (AV.int 12)) ∧
              (fSame (AV.tup [(AV.mk 1 []), (AV.int 12)]) r)))) ∧
            ((isF (AV.bin Go.BinOp.gtr (AV.at x1 r1409 2) (AV.int 200000))) →
              ((AV.isSl x1 3) ∧
              ((AV.inb x1 r1409) ∧
              ((AV.binOk Go.BinOp.sub (AV.at x1 r1409 2) (AV.cel (AV.atAgg x0 (ys897.getD 0 default) 0 2) 1)) ∧
              ((AV.isOne (AV.bin Go.BinOp.sub (AV.at x1 r1409 2) (AV.cel (AV.atAgg x0 (ys897.getD 0 default) 0 2) 1))) ∧
              ((AV.room (ys897.getD 1 default) (AV.mk 1 [[(AV.bin Go.BinOp.sub (AV.at x1 r1409 2) (AV.cel (AV.atAgg x0 (ys897.getD 0 default) 0 2) 1))]]) 8) ∧
              ((AV.binOk Go.BinOp.add (ys897.getD 0 default) (AV.int 1)) ∧
              (again897 [(AV.bin Go.BinOp.add (ys897.getD 0 default) (AV.int 1)), (AV.app 1 (ys897.getD 1 default) (AV.mk 1 [[(AV.bin Go.BinOp.sub (AV.at x1 r1409 2) (AV.cel (AV.atAgg x0 (ys897.getD 0 default) 0 2) 1))]]))]))))))))))))))))))))))))))))))) ∧
      ((isF (AV.bin Go.BinOp.lss (ys897.getD 0 default) (AV.len x0))) →
        ((AV.flatS (ys897.getD 1 default)) ∧
        ((AV.flat (AV.int 0)) ∧
        (fSame (AV.tup [(ys897.getD 1 default), (AV.int 0)]) r))))))))))))))))))))) := by kernel_rfl
theorem swap_form (x0 x1 x2 x3 r : AV) : fnF Try.prog Γ ann 3 18 Try.f18 (Try.f18.body.getD .skip) (.nil) [x0, x1, x2, x3] (.tup [.row 34 3 true, .sc]) r = ((∃ r257 : AV, ((Fn Try.prog 17 [x0, x1] (Sh.tup [(Sh.row 3 1 true), Sh.sc]) r257) ∧
((AV.binOk Go.BinOp.neq (AV.prj r257 1) (AV.int 0)) ∧
((AV.isBool (AV.bin Go.BinOp.neq (AV.prj r257 1) (AV.int 0))) ∧
(((isT (AV.bin Go.BinOp.neq (AV.prj r257 1) (AV.int 0))) →
  ((AV.flatS (AV.mk 3 [])) ∧
  ((AV.flat (AV.prj r257 1)) ∧
  (fSame (AV.tup [(AV.mk 3 []), (AV.prj r257 1)]) r)))) ∧
((isF (AV.bin Go.BinOp.neq (AV.prj r257 1) (AV.int 0))) →
  (∃ r897 : AV, ((Fn Try.prog 54 [x1, x2] Sh.sc r897) ∧
  (∃ r1089 : AV, ((Fn Try.prog 54 [x1, x3] Sh.sc r1089) ∧
  ((AV.binOk Go.BinOp.lss r897 (AV.int 0)) ∧
  ((AV.isBool (AV.bin Go.BinOp.lss r897 (AV.int 0))) ∧
  (((isT (AV.bin Go.BinOp.lss r897 (AV.int 0))) →
    ((AV.isBool (AV.bin Go.BinOp.lss r897 (AV.int 0))) ∧
    ((isT (AV.bin Go.BinOp.lss r897 (AV.int 0))) ∧
    ((AV.flatS (AV.mk 3 [])) ∧
    ((AV.flat (AV.int 8)) ∧
    (fSame (AV.tup [(AV.mk 3 []), (AV.int 8)]) r)))))) ∧
  ((isF (AV.bin Go.BinOp.lss r897 (AV.int 0))) →
    ((AV.binOk Go.BinOp.lss r1089 (AV.int 0)) ∧
    ((AV.isBool (AV.bin Go.BinOp.lss r897 (AV.int 0))) ∧
    ((isF (AV.bin Go.BinOp.lss r897 (AV.int 0))) ∧
    ((AV.isBool (AV.bin Go.BinOp.lss r1089 (AV.int 0))) ∧
    (((isT (AV.bin Go.BinOp.lss r1089 (AV.int 0))) →
      ((AV.flatS (AV.mk 3 [])) ∧
      ((AV.flat (AV.int 8)) ∧
      (fSame (AV.tup [(AV.mk 3 []), (AV.int 8)]) r)))) ∧
    ((isF (AV.bin Go.BinOp.lss r1089 (AV.int 0))) →
      ((fEnt Try.prog 24) ∧
      (fAllV fun _ => (fNil x1
        ((AV.inb (AV.mk 3 []) r1089) ∧
        ((AV.inb (AV.mk 3 []) r1089) ∧
        ((AV.inb (AV.mk 3 []) r897) ∧
        ((AV.inb (AV.mk 3 []) r897) ∧
        ((AV.inb (AV.mk 3 []) r897) ∧
        ((AV.isOne (AV.at (AV.mk 3 []) r1089 2)) ∧
        ((AV.inb (AV.mk 3 []) r897) ∧
        ((AV.inb (AV.setEl (AV.mk 3 []) r897 2 [(AV.at (AV.mk 3 []) r1089 2)]) r1089) ∧
        ((AV.isOne (AV.at (AV.mk 3 []) r897 2)) ∧
        ((AV.inb (AV.setEl (AV.mk 3 []) r897 2 [(AV.at (AV.mk 3 []) r1089 2)]) r1089) ∧
        (∃ r3585 : AV, ((Fn Try.prog 17 [x0, (AV.setEl (AV.setEl (AV.mk 3 []) r897 2 [(AV.at (AV.mk 3 []) r1089 2)]) r1089 2 [(AV.at (AV.mk 3 []) r897 2)])] (Sh.tup [(Sh.row 3 1 true), Sh.sc]) r3585) ∧
        ((AV.binOk Go.BinOp.neq (AV.prj r3585 1) (AV.int 0)) ∧
        ((AV.isBool (AV.bin Go.BinOp.neq (AV.prj r3585 1) (AV.int 0))) ∧
        (((isT (AV.bin Go.BinOp.neq (AV.prj r3585 1) (AV.int 0))) →
          ((AV.flatS (AV.mk 3 [])) ∧
          ((AV.flat (AV.int 12)) ∧
          (fSame (AV.tup [(AV.mk 3 []), (AV.int 12)]) r)))) ∧
        ((isF (AV.bin Go.BinOp.neq (AV.prj r3585 1) (AV.int 0))) →
          ((AV.flatS (AV.setEl (AV.setEl (AV.mk 3 []) r897 2 [(AV.at (AV.mk 3 []) r1089 2)]) r1089 2 [(AV.at (AV.mk 3 []) r897 2)])) ∧
          ((AV.flat (AV.int 0)) ∧
          (fSame (AV.tup [(AV.setEl (AV.setEl (AV.mk 3 []) r897 2 [(AV.at (AV.mk 3 []) r1089 2)]) r1089 2 [(AV.at (AV.mk 3 []) r897 2)]), (AV.int 0)]) r)))))))))))))))))))
        ((AV.isSl x1 3) ∧
        ((AV.room (AV.mk 3 []) x1 40) ∧
        ((AV.inb (AV.app 3 (AV.mk 3 []) x1) r1089) ∧
        ((AV.inb (AV.app 3 (AV.mk 3 []) x1) r1089) ∧
        ((AV.inb (AV.app 3 (AV.mk 3 []) x1) r897) ∧
        ((AV.inb (AV.app 3 (AV.mk 3 []) x1) r897) ∧
        ((AV.inb (AV.app 3 (AV.mk 3 []) x1) r897) ∧
        ((AV.isOne (AV.at (AV.app 3 (AV.mk 3 []) x1) r1089 2)) ∧
        ((AV.inb (AV.app 3 (AV.mk 3 []) x1) r897) ∧
        ((AV.inb (AV.setEl (AV.app 3 (AV.mk 3 []) x1) r897 2 [(AV.at (AV.app 3 (AV.mk 3 []) x1) r1089 2)]) r1089) ∧
        ((AV.isOne (AV.at (AV.app 3 (AV.mk 3 []) x1) r897 2)) ∧
        ((AV.inb (AV.setEl (AV.app 3 (AV.mk 3 []) x1) r897 2 [(AV.at (AV.app 3 (AV.mk 3 []) x1) r1089 2)]) r1089) ∧
        (∃ r3777 : AV, ((Fn Try.prog 17 [x0, (AV.setEl (AV.setEl (AV.app 3 (AV.mk 3 []) x1) r897 2 [(AV.at (AV.app 3 (AV.mk 3 []) x1) r1089 2)]) r1089 2 [(AV.at (AV.app 3 (AV.mk 3 []) x1) r897 2)])] (Sh.tup [(Sh.row 3 1 true), Sh.sc]) r3777) ∧
        ((AV.binOk Go.BinOp.neq (AV.prj r3777 1) (AV.int 0)) ∧
        ((AV.isBool (AV.bin Go.BinOp.neq (AV.prj r3777 1) (AV.int 0))) ∧
        (((isT (AV.bin Go.BinOp.neq (AV.prj r3777 1) (AV.int 0))) →
          ((AV.flatS (AV.mk 3 [])) ∧
          ((AV.flat (AV.int 12)) ∧
          (fSame (AV.tup [(AV.mk 3 []), (AV.int 12)]) r)))) ∧
        ((isF (AV.bin Go.BinOp.neq (AV.prj r3777 1) (AV.int 0))) →
          ((AV.flatS (AV.setEl (AV.setEl (AV.app 3 (AV.mk 3 []) x1) r897 2 [(AV.at (AV.app 3 (AV.mk 3 []) x1) r1089 2)]) r1089 2 [(AV.at (AV.app 3 (AV.mk 3 []) x1) r897 2)])) ∧
          ((AV.flat (AV.int 0)) ∧
          (fSame (AV.tup [(AV.setEl (AV.setEl (AV.app 3 (AV.mk 3 []) x1) r897 2 [(AV.at (AV.app 3 (AV.mk 3 []) x1) r1089 2)]) r1089 2 [(AV.at (AV.app 3 (AV.mk 3 []) x1) r897 2)]), (AV.int 0)]) r))))))))))))))))))))))))))))))))))))))))))))) := by kernel_rfl
theorem release_form (x0 x1 x2 x3 r : AV) : fnF Try.prog Γ ann 3 25 Try.f25 (Try.f25.body.getD .skip) (.nil) [x0, x1, x2, x3] (.tup [.row 34 3 true, .sc]) r = (((AV.isOne x1) ∧
(∃ r385 : AV, ((Fn Try.prog 9 [x0, x2, x3] (Sh.tup [(Sh.row 34 3 true), Sh.sc]) r385) ∧
((AV.binOk Go.BinOp.neq (AV.prj r385 1) (AV.int 0)) ∧
((AV.isBool (AV.bin Go.BinOp.neq (AV.prj r385 1) (AV.int 0))) ∧
(((isT (AV.bin Go.BinOp.neq (AV.prj r385 1) (AV.int 0))) →
  ((AV.flatS (AV.mk 3 [])) ∧
  ((AV.flat (AV.prj r385 1)) ∧
  (fSame (AV.tup [(AV.mk 3 []), (AV.prj r385 1)]) r)))) ∧
((isF (AV.bin Go.BinOp.neq (AV.prj r385 1) (AV.int 0))) →
  ((fEnt Try.prog 41) ∧
  (fAllV fun _ => (fNil x2
    ((fEnt Try.prog 55) ∧
    (fAllV fun _ => ((fEnt Try.prog 74) ∧
    (fAllV fun _ => (fLoop 1985 [(AV.int 0)] fun ys1985 again1985 =>
      ((AV.binOk Go.BinOp.lss (ys1985.getD 0 default) (AV.len (AV.mk 2 []))) ∧
      ((AV.isBool (AV.bin Go.BinOp.lss (ys1985.getD 0 default) (AV.len (AV.mk 2 [])))) ∧
      (((isT (AV.bin Go.BinOp.lss (ys1985.getD 0 default) (AV.len (AV.mk 2 [])))) →
        ((AV.inb (AV.mk 2 []) (ys1985.getD 0 default)) ∧
        ((AV.inb (AV.mk 2 []) (ys1985.getD 0 default)) ∧
        ((fEnt Try.prog 56) ∧
        (fAllV fun _ => ((AV.isAgg (AV.atAgg (AV.mk 2 []) (ys1985.getD 0 default) 0 2) 2) ∧
        ((AV.binOk Go.BinOp.eql (AV.cel (AV.atAgg (AV.mk 2 []) (ys1985.getD 0 default) 0 2) 0) x1) ∧
        ((AV.isBool (AV.bin Go.BinOp.eql (AV.cel (AV.atAgg (AV.mk 2 []) (ys1985.getD 0 default) 0 2) 0) x1)) ∧
        (((isT (AV.bin Go.BinOp.eql (AV.cel (AV.atAgg (AV.mk 2 []) (ys1985.getD 0 default) 0 2) 0) x1)) →
          ((AV.binOk Go.BinOp.eql (ys1985.getD 0 default) (AV.int (-1))) ∧
          ((AV.isBool (AV.bin Go.BinOp.eql (ys1985.getD 0 default) (AV.int (-1)))) ∧
          (((isT (AV.bin Go.BinOp.eql (ys1985.getD 0 default) (AV.int (-1)))) →
            ((AV.isSl x2 2) ∧
            ((AV.binOk Go.BinOp.eql (AV.len (AV.mk 2 [])) (AV.len x2)) ∧
            ((AV.isBool (AV.bin Go.BinOp.eql (AV.len (AV.mk 2 [])) (AV.len x2))) ∧
            (((isT (AV.bin Go.BinOp.eql (AV.len (AV.mk 2 [])) (AV.len x2))) →
              ((AV.flatS (AV.mk 3 [])) ∧
              ((AV.flat (AV.int 8)) ∧
              (fSame (AV.tup [(AV.mk 3 []), (AV.int 8)]) r)))) ∧
            ((isF (AV.bin Go.BinOp.eql (AV.len (AV.mk 2 [])) (AV.len x2))) →
              (∃ r4225 : AV, ((Fn Try.prog 9 [x0, (AV.mk 2 []), x3] (Sh.tup [(Sh.row 34 3 true), Sh.sc]) r4225) ∧
              ((AV.flatS (AV.prj r4225 0)) ∧
              ((AV.flat (AV.prj r4225 1)) ∧
              (fSame (AV.tup [(AV.prj r4225 0), (AV.prj r4225 1)]) r))))))))))) ∧
          ((isF (AV.bin Go.BinOp.eql (ys1985.getD 0 default) (AV.int (-1)))) →
            ((AV.binOk Go.BinOp.add (ys1985.getD 0 default) (AV.int 1)) ∧
            (fLoop 3649 [(ys1985.getD 0 default), (AV.bin Go.BinOp.add (ys1985.getD 0 default) (AV.int 1)), (AV.mk 2 [])] fun ys3649 again3649 =>
              ((AV.binOk Go.BinOp.lss (ys3649.getD 1 default) (AV.len (ys3649.getD 2 default))) ∧
              ((AV.isBool (AV.bin Go.BinOp.lss (ys3649.getD 1 default) (AV.len (ys3649.getD 2 default)))) ∧
              (((isT (AV.bin Go.BinOp.lss (ys3649.getD 1 default) (AV.len (ys3649.getD 2 default)))) →
                ((AV.inb (ys3649.getD 2 default) (ys3649.getD 1 default)) ∧
                ((AV.inb (ys3649.getD 2 default) (ys3649.getD 1 default)) ∧
                ((AV.isAgg (AV.atAgg (ys3649.getD 2 default) (ys3649.getD 1 default) 0 2) 2) ∧
                ((fEnt Try.prog 56) ∧
                (fAllV fun _ => ((AV.binOk Go.BinOp.eql (AV.cel (AV.atAgg (ys3649.getD 2 default) (ys3649.getD 1 default) 0 2) 0) x1) ∧
                ((AV.unOk Go.UnOp.not (AV.bin Go.BinOp.eql (AV.cel (AV.atAgg (ys3649.getD 2 default) (ys3649.getD 1 default) 0 2) 0) x1)) ∧
                ((AV.isBool (AV.un Go.UnOp.not (AV.bin Go.BinOp.eql (AV.cel (AV.atAgg (ys3649.getD 2 default) (ys3649.getD 1 default) 0 2) 0) x1))) ∧
                (((isT (AV.un Go.UnOp.not (AV.bin Go.BinOp.eql (AV.cel (AV.atAgg (ys3649.getD 2 default) (ys3649.getD 1 default) 0 2) 0) x1))) →
                  ((AV.inb (ys3649.getD 2 default) (ys3649.getD 0 default)) ∧
                  ((AV.inb (ys3649.getD 2 default) (ys3649.getD 0 default)) ∧
                  ((AV.binOk Go.BinOp.add (ys3649.getD 0 default) (AV.int 1)) ∧
                  ((AV.binOk Go.BinOp.add (ys3649.getD 1 default) (AV.int 1)) ∧
                  (again3649 [(AV.bin Go.BinOp.add (ys3649.getD 0 default) (AV.int 1)), (AV.bin Go.BinOp.add (ys3649.getD 1 default) (AV.int 1)), (AV.setEl (ys3649.getD 2 default) (ys3649.getD 0 default) 0 [(AV.cel (AV.atAgg (ys3649.getD 2 default) (ys3649.getD 1 default) 0 2) 0), (AV.cel (AV.atAgg (ys3649.getD 2 default) (ys3649.getD 1 default) 0 2) 1)])])))))) ∧
                ((isF (AV.un Go.UnOp.not (AV.bin Go.BinOp.eql (AV.cel (AV.atAgg (ys3649.getD 2 default) (ys3649.getD 1 default) 0 2) 0) x1))) →
                  ((AV.binOk Go.BinOp.add (ys3649.getD 1 default) (AV.int 1)) ∧
                  (again3649 [(ys3649.getD 0 default), (AV.bin Go.BinOp.add (ys3649.getD 1 default) (AV.int 1)), (ys3649.getD 2 default)]))))))))))))) ∧
              ((isF (AV.bin Go.BinOp.lss (ys3649.getD 1 default) (AV.len (ys3649.getD 2 default)))) →
                ((AV.subOk (ys3649.getD 2 default) (ys3649.getD 0 default) (AV.len (ys3649.getD 2 default))) ∧
                ((AV.subOk (AV.clr 2 (ys3649.getD 2 default) (ys3649.getD 0 default) [(AV.lit (Value.string ⟨#[]⟩)), (AV.int 0)]) (AV.int 0) (ys3649.getD 0 default)) ∧
                ((AV.isSl (AV.sub 2 (AV.clr 2 (ys3649.getD 2 default) (ys3649.getD 0 default) [(AV.lit (Value.string ⟨#[]⟩)), (AV.int 0)]) (AV.int 0) (ys3649.getD 0 default)) 2) ∧
                ((AV.isSl x2 2) ∧
                ((AV.binOk Go.BinOp.eql (AV.len (AV.sub 2 (AV.clr 2 (ys3649.getD 2 default) (ys3649.getD 0 default) [(AV.lit (Value.string ⟨#[]⟩)), (AV.int 0)]) (AV.int 0) (ys3649.getD 0 default))) (AV.len x2)) ∧
                ((AV.isBool (AV.bin Go.BinOp.eql (AV.len (AV.sub 2 (AV.clr 2 (ys3649.getD 2 default) (ys3649.getD 0 default) [(AV.lit (Value.string ⟨#[]⟩)), (AV.int 0)]) (AV.int 0) (ys3649.getD 0 default))) (AV.len x2))) ∧
                (((isT (AV.bin Go.BinOp.eql (AV.len (AV.sub 2 (AV.clr 2 (ys3649.getD 2 default) (ys3649.getD 0 default) [(AV.lit (Value.string ⟨#[]⟩)), (AV.int 0)]) (AV.int 0) (ys3649.getD 0 default))) (AV.len x2))) →
                  ((AV.flatS (AV.mk 3 [])) ∧
                  ((AV.flat (AV.int 8)) ∧
                  (fSame (AV.tup [(AV.mk 3 []), (AV.int 8)]) r)))) ∧
                ((isF (AV.bin Go.BinOp.eql (AV.len (AV.sub 2 (AV.clr 2 (ys3649.getD 2 default) (ys3649.getD 0 default) [(AV.lit (Value.string ⟨#[]⟩)), (AV.int 0)]) (AV.int 0) (ys3649.getD 0 default))) (AV.len x2))) →
                  (∃ r5057 : AV, ((Fn Try.prog 9 [x0, (AV.sub 2 (AV.clr 2 (ys3649.getD 2 default) (ys3649.getD 0 default) [(AV.lit (Value.string ⟨#[]⟩)), (AV.int 0)]) (AV.int 0) (ys3649.getD 0 default)), x3] (Sh.tup [(Sh.row 34 3 true), Sh.sc]) r5057) ∧
                  ((AV.flatS (AV.prj r5057 0)) ∧
                  ((AV.flat (AV.prj r5057 1)) ∧
                  (fSame (AV.tup [(AV.prj r5057 0), (AV.prj r5057 1)]) r)))))))))))))))))))))))) ∧
        ((isF (AV.bin Go.BinOp.eql (AV.cel (AV.atAgg (AV.mk 2 []) (ys1985.getD 0 default) 0 2) 0) x1)) →
          ((AV.binOk Go.BinOp.add (ys1985.getD 0 default) (AV.int 1)) ∧
          (again1985 [(AV.bin Go.BinOp.add (ys1985.getD 0 default) (AV.int 1))])))))))))))) ∧
      ((isF (AV.bin Go.BinOp.lss (ys1985.getD 0 default) (AV.len (AV.mk 2 [])))) →
        ((AV.isSl x2 2) ∧
        ((AV.binOk Go.BinOp.eql (AV.len (AV.mk 2 [])) (AV.len x2)) ∧
        ((AV.isBool (AV.bin Go.BinOp.eql (AV.len (AV.mk 2 [])) (AV.len x2))) ∧
        (((isT (AV.bin Go.BinOp.eql (AV.len (AV.mk 2 [])) (AV.len x2))) →
          ((AV.flatS (AV.mk 3 [])) ∧
          ((AV.flat (AV.int 8)) ∧
          (fSame (AV.tup [(AV.mk 3 []), (AV.int 8)]) r)))) ∧
        ((isF (AV.bin Go.BinOp.eql (AV.len (AV.mk 2 [])) (AV.len x2))) →
          (∃ r3137 : AV, ((Fn Try.prog 9 [x0, (AV.mk 2 []), x3] (Sh.tup [(Sh.row 34 3 true), Sh.sc]) r3137) ∧
          ((AV.flatS (AV.prj r3137 0)) ∧
          ((AV.flat (AV.prj r3137 1)) ∧
          (fSame (AV.tup [(AV.prj r3137 0), (AV.prj r3137 1)]) r)))))))))))))))))))
    ((AV.isSl x2 2) ∧
    ((AV.room (AV.mk 2 []) x2 24) ∧
    ((fEnt Try.prog 55) ∧
    (fAllV fun _ => ((fEnt Try.prog 74) ∧
    (fAllV fun _ => (fLoop 2177 [(AV.int 0)] fun ys2177 again2177 =>
      ((AV.binOk Go.BinOp.lss (ys2177.getD 0 default) (AV.len (AV.app 2 (AV.mk 2 []) x2))) ∧
      ((AV.isBool (AV.bin Go.BinOp.lss (ys2177.getD 0 default) (AV.len (AV.app 2 (AV.mk 2 []) x2)))) ∧
      (((isT (AV.bin Go.BinOp.lss (ys2177.getD 0 default) (AV.len (AV.app 2 (AV.mk 2 []) x2)))) →
        ((AV.inb (AV.app 2 (AV.mk 2 []) x2) (ys2177.getD 0 default)) ∧
        ((AV.inb (AV.app 2 (AV.mk 2 []) x2) (ys2177.getD 0 default)) ∧
        ((fEnt Try.prog 56) ∧
        (fAllV fun _ => ((AV.isAgg (AV.atAgg (AV.app 2 (AV.mk 2 []) x2) (ys2177.getD 0 default) 0 2) 2) ∧
        ((AV.binOk Go.BinOp.eql (AV.cel (AV.atAgg (AV.app 2 (AV.mk 2 []) x2) (ys2177.getD 0 default) 0 2) 0) x1) ∧
        ((AV.isBool (AV.bin Go.BinOp.eql (AV.cel (AV.atAgg (AV.app 2 (AV.mk 2 []) x2) (ys2177.getD 0 default) 0 2) 0) x1)) ∧
        (((isT (AV.bin Go.BinOp.eql (AV.cel (AV.atAgg (AV.app 2 (AV.mk 2 []) x2) (ys2177.getD 0 default) 0 2) 0) x1)) →
          ((AV.binOk Go.BinOp.eql (ys2177.getD 0 default) (AV.int (-1))) ∧
          ((AV.isBool (AV.bin Go.BinOp.eql (ys2177.getD 0 default) (AV.int (-1)))) ∧
          (((isT (AV.bin Go.BinOp.eql (ys2177.getD 0 default) (AV.int (-1)))) →
            ((AV.isSl x2 2) ∧
            ((AV.binOk Go.BinOp.eql (AV.len (AV.app 2 (AV.mk 2 []) x2)) (AV.len x2)) ∧
            ((AV.isBool (AV.bin Go.BinOp.eql (AV.len (AV.app 2 (AV.mk 2 []) x2)) (AV.len x2))) ∧
            (((isT (AV.bin Go.BinOp.eql (AV.len (AV.app 2 (AV.mk 2 []) x2)) (AV.len x2))) →
              ((AV.flatS (AV.mk 3 [])) ∧
              ((AV.flat (AV.int 8)) ∧
              (fSame (AV.tup [(AV.mk 3 []), (AV.int 8)]) r)))) ∧
            ((isF (AV.bin Go.BinOp.eql (AV.len (AV.app 2 (AV.mk 2 []) x2)) (AV.len x2))) →
              (∃ r4417 : AV, ((Fn Try.prog 9 [x0, (AV.app 2 (AV.mk 2 []) x2), x3] (Sh.tup [(Sh.row 34 3 true), Sh.sc]) r4417) ∧
              ((AV.flatS (AV.prj r4417 0)) ∧
              ((AV.flat (AV.prj r4417 1)) ∧
              (fSame (AV.tup [(AV.prj r4417 0), (AV.prj r4417 1)]) r))))))))))) ∧
          ((isF (AV.bin Go.BinOp.eql (ys2177.getD 0 default) (AV.int (-1)))) →
            ((AV.binOk Go.BinOp.add (ys2177.getD 0 default) (AV.int 1)) ∧
            (fLoop 3841 [(ys2177.getD 0 default), (AV.bin Go.BinOp.add (ys2177.getD 0 default) (AV.int 1)), (AV.app 2 (AV.mk 2 []) x2)] fun ys3841 again3841 =>
              ((AV.binOk Go.BinOp.lss (ys3841.getD 1 default) (AV.len (ys3841.getD 2 default))) ∧
              ((AV.isBool (AV.bin Go.BinOp.lss (ys3841.getD 1 default) (AV.len (ys3841.getD 2 default)))) ∧
              (((isT (AV.bin Go.BinOp.lss (ys3841.getD 1 default) (AV.len (ys3841.getD 2 default)))) →
                ((AV.inb (ys3841.getD 2 default) (ys3841.getD 1 default)) ∧
                ((AV.inb (ys3841.getD 2 default) (ys3841.getD 1 default)) ∧
                ((AV.isAgg (AV.atAgg (ys3841.getD 2 default) (ys3841.getD 1 default) 0 2) 2) ∧
                ((fEnt Try.prog 56) ∧
                (fAllV fun _ => ((AV.binOk Go.BinOp.eql (AV.cel (AV.atAgg (ys3841.getD 2 default) (ys3841.getD 1 default) 0 2) 0) x1) ∧
                ((AV.unOk Go.UnOp.not (AV.bin Go.BinOp.eql (AV.cel (AV.atAgg (ys3841.getD 2 default) (ys3841.getD 1 default) 0 2) 0) x1)) ∧
                ((AV.isBool (AV.un Go.UnOp.not (AV.bin Go.BinOp.eql (AV.cel (AV.atAgg (ys3841.getD 2 default) (ys3841.getD 1 default) 0 2) 0) x1))) ∧
                (((isT (AV.un Go.UnOp.not (AV.bin Go.BinOp.eql (AV.cel (AV.atAgg (ys3841.getD 2 default) (ys3841.getD 1 default) 0 2) 0) x1))) →
                  ((AV.inb (ys3841.getD 2 default) (ys3841.getD 0 default)) ∧
                  ((AV.inb (ys3841.getD 2 default) (ys3841.getD 0 default)) ∧
                  ((AV.binOk Go.BinOp.add (ys3841.getD 0 default) (AV.int 1)) ∧
                  ((AV.binOk Go.BinOp.add (ys3841.getD 1 default) (AV.int 1)) ∧
                  (again3841 [(AV.bin Go.BinOp.add (ys3841.getD 0 default) (AV.int 1)), (AV.bin Go.BinOp.add (ys3841.getD 1 default) (AV.int 1)), (AV.setEl (ys3841.getD 2 default) (ys3841.getD 0 default) 0 [(AV.cel (AV.atAgg (ys3841.getD 2 default) (ys3841.getD 1 default) 0 2) 0), (AV.cel (AV.atAgg (ys3841.getD 2 default) (ys3841.getD 1 default) 0 2) 1)])])))))) ∧
                ((isF (AV.un Go.UnOp.not (AV.bin Go.BinOp.eql (AV.cel (AV.atAgg (ys3841.getD 2 default) (ys3841.getD 1 default) 0 2) 0) x1))) →
                  ((AV.binOk Go.BinOp.add (ys3841.getD 1 default) (AV.int 1)) ∧
                  (again3841 [(ys3841.getD 0 default), (AV.bin Go.BinOp.add (ys3841.getD 1 default) (AV.int 1)), (ys3841.getD 2 default)]))))))))))))) ∧
              ((isF (AV.bin Go.BinOp.lss (ys3841.getD 1 default) (AV.len (ys3841.getD 2 default)))) →
                ((AV.subOk (ys3841.getD 2 default) (ys3841.getD 0 default) (AV.len (ys3841.getD 2 default))) ∧
                ((AV.subOk (AV.clr 2 (ys3841.getD 2 default) (ys3841.getD 0 default) [(AV.lit (Value.string ⟨#[]⟩)), (AV.int 0)]) (AV.int 0) (ys3841.getD 0 default)) ∧
                ((AV.isSl (AV.sub 2 (AV.clr 2 (ys3841.getD 2 default) (ys3841.getD 0 default) [(AV.lit (Value.string ⟨#[]⟩)), (AV.int 0)]) (AV.int 0) (ys3841.getD 0 default)) 2) ∧
                ((AV.isSl x2 2) ∧
                ((AV.binOk Go.BinOp.eql (AV.len (AV.sub 2 (AV.clr 2 (ys3841.getD 2 default) (ys3841.getD 0 default) [(AV.lit (Value.string ⟨#[]⟩)), (AV.int 0)]) (AV.int 0) (ys3841.getD 0 default))) (AV.len x2)) ∧
                ((AV.isBool (AV.bin Go.BinOp.eql (AV.len (AV.sub 2 (AV.clr 2 (ys3841.getD 2 default) (ys3841.getD 0 default) [(AV.lit (Value.string ⟨#[]⟩)), (AV.int 0)]) (AV.int 0) (ys3841.getD 0 default))) (AV.len x2))) ∧
                (((isT (AV.bin Go.BinOp.eql (AV.len (AV.sub 2 (AV.clr 2 (ys3841.getD 2 default) (ys3841.getD 0 default) [(AV.lit (Value.string ⟨#[]⟩)), (AV.int 0)]) (AV.int 0) (ys3841.getD 0 default))) (AV.len x2))) →
                  ((AV.flatS (AV.mk 3 [])) ∧
                  ((AV.flat (AV.int 8)) ∧
                  (fSame (AV.tup [(AV.mk 3 []), (AV.int 8)]) r)))) ∧
                ((isF (AV.bin Go.BinOp.eql (AV.len (AV.sub 2 (AV.clr 2 (ys3841.getD 2 default) (ys3841.getD 0 default) [(AV.lit (Value.string ⟨#[]⟩)), (AV.int 0)]) (AV.int 0) (ys3841.getD 0 default))) (AV.len x2))) →
                  (∃ r5249 : AV, ((Fn Try.prog 9 [x0, (AV.sub 2 (AV.clr 2 (ys3841.getD 2 default) (ys3841.getD 0 default) [(AV.lit (Value.string ⟨#[]⟩)), (AV.int 0)]) (AV.int 0) (ys3841.getD 0 default)), x3] (Sh.tup [(Sh.row 34 3 true), Sh.sc]) r5249) ∧
                  ((AV.flatS (AV.prj r5249 0)) ∧
                  ((AV.flat (AV.prj r5249 1)) ∧
                  (fSame (AV.tup [(AV.prj r5249 0), (AV.prj r5249 1)]) r)))))))))))))))))))))))) ∧
        ((isF (AV.bin Go.BinOp.eql (AV.cel (AV.atAgg (AV.app 2 (AV.mk 2 []) x2) (ys2177.getD 0 default) 0 2) 0) x1)) →
          ((AV.binOk Go.BinOp.add (ys2177.getD 0 default) (AV.int 1)) ∧
          (again2177 [(AV.bin Go.BinOp.add (ys2177.getD 0 default) (AV.int 1))])))))))))))) ∧
      ((isF (AV.bin Go.BinOp.lss (ys2177.getD 0 default) (AV.len (AV.app 2 (AV.mk 2 []) x2)))) →
        ((AV.isSl x2 2) ∧
        ((AV.binOk Go.BinOp.eql (AV.len (AV.app 2 (AV.mk 2 []) x2)) (AV.len x2)) ∧
        ((AV.isBool (AV.bin Go.BinOp.eql (AV.len (AV.app 2 (AV.mk 2 []) x2)) (AV.len x2))) ∧
        (((isT (AV.bin Go.BinOp.eql (AV.len (AV.app 2 (AV.mk 2 []) x2)) (AV.len x2))) →
          ((AV.flatS (AV.mk 3 [])) ∧
          ((AV.flat (AV.int 8)) ∧
          (fSame (AV.tup [(AV.mk 3 []), (AV.int 8)]) r)))) ∧
        ((isF (AV.bin Go.BinOp.eql (AV.len (AV.app 2 (AV.mk 2 []) x2)) (AV.len x2))) →
          (∃ r3329 : AV, ((Fn Try.prog 9 [x0, (AV.app 2 (AV.mk 2 []) x2), x3] (Sh.tup [(Sh.row 34 3 true), Sh.sc]) r3329) ∧
          ((AV.flatS (AV.prj r3329 0)) ∧
          ((AV.flat (AV.prj r3329 1)) ∧
          (fSame (AV.tup [(AV.prj r3329 0), (AV.prj r3329 1)]) r)))))))))))))))))))))))))))))))) := by kernel_rfl
theorem slots_form (x0 x1 x2 r : AV) : fnF Try.prog Γ ann 3 15 Try.f15 (Try.f15.body.getD .skip) (.nil) [x0, x1, x2] (.tup [.row 34 3 true, .sc]) r = (((AV.isSl x1 2) ∧
((AV.room (AV.mk 2 []) x1 24) ∧
(fLoop 385 [(AV.app 2 (AV.mk 2 []) x1), (AV.mk 3 [])] fun ys385 again385 =>
  ((AV.isSl (ys385.getD 0 default) 2) ∧
  ((AV.binOk Go.BinOp.gtr (AV.len (ys385.getD 0 default)) (AV.int 0)) ∧
  ((AV.isBool (AV.bin Go.BinOp.gtr (AV.len (ys385.getD 0 default)) (AV.int 0))) ∧
  (((isT (AV.bin Go.BinOp.gtr (AV.len (ys385.getD 0 default)) (AV.int 0))) →
    (∃ r641 : AV, ((Fn Try.prog 52 [(ys385.getD 0 default)] Sh.sc r641) ∧
    ((AV.isSl (ys385.getD 0 default) 2) ∧
    ((AV.inb (ys385.getD 0 default) r641) ∧
    ((AV.isAgg (AV.atAgg (ys385.getD 0 default) r641 0 2) 2) ∧
    ((AV.isSl (ys385.getD 0 default) 2) ∧
    ((AV.subOk (ys385.getD 0 default) (AV.int 0) r641) ∧
    ((AV.isSl (AV.sub 2 (ys385.getD 0 default) (AV.int 0) r641) 2) ∧
    ((AV.room (AV.mk 2 []) (AV.sub 2 (ys385.getD 0 default) (AV.int 0) r641) 24) ∧
    ((AV.binOk Go.BinOp.add r641 (AV.int 1)) ∧
    ((AV.isSl (ys385.getD 0 default) 2) ∧
    ((AV.subOk (ys385.getD 0 default) (AV.bin Go.BinOp.add r641 (AV.int 1)) (AV.len (ys385.getD 0 default))) ∧
    ((AV.isSl (AV.sub 2 (ys385.getD 0 default) (AV.bin Go.BinOp.add r641 (AV.int 1)) (AV.len (ys385.getD 0 default))) 2) ∧
    ((AV.room (AV.app 2 (AV.mk 2 []) (AV.sub 2 (ys385.getD 0 default) (AV.int 0) r641)) (AV.sub 2 (ys385.getD 0 default) (AV.bin Go.BinOp.add r641 (AV.int 1)) (AV.len (ys385.getD 0 default))) 24) ∧
    ((AV.isSl x2 3) ∧
    (fLoop 2049 [(AV.int (-1)), (AV.int 0)] fun ys2049 again2049 =>
      ((AV.binOk Go.BinOp.lss (ys2049.getD 1 default) (AV.len x2)) ∧
      ((AV.isBool (AV.bin Go.BinOp.lss (ys2049.getD 1 default) (AV.len x2))) ∧
      (((isT (AV.bin Go.BinOp.lss (ys2049.getD 1 default) (AV.len x2))) →
        ((AV.isSl x2 3) ∧
        ((AV.inb x2 (ys2049.getD 1 default)) ∧
        ((AV.isAgg (AV.atAgg x2 (ys2049.getD 1 default) 0 3) 3) ∧
        (fLoop 2753 [(AV.int 0), (AV.int 0)] fun ys2753 again2753 =>
          ((AV.binOk Go.BinOp.lss (ys2753.getD 1 default) (AV.len (ys385.getD 1 default))) ∧
          ((AV.isBool (AV.bin Go.BinOp.lss (ys2753.getD 1 default) (AV.len (ys385.getD 1 default)))) ∧
          (((isT (AV.bin Go.BinOp.lss (ys2753.getD 1 default) (AV.len (ys385.getD 1 default)))) →
            ((AV.inb (ys385.getD 1 default) (ys2753.getD 1 default)) ∧
            ((AV.inb (ys385.getD 1 default) (ys2753.getD 1 default)) ∧
            ((AV.isAgg (AV.atAgg (ys385.getD 1 default) (ys2753.getD 1 default) 0 3) 3) ∧
            (∃ r3265 : AV, ((Fn Try.prog 53 [x2, (AV.cel (AV.atAgg (ys385.getD 1 default) (ys2753.getD 1 default) 0 3) 2)] Sh.sc r3265) ∧
            ((AV.binOk Go.BinOp.eql r3265 (ys2049.getD 1 default)) ∧
            ((AV.isBool (AV.bin Go.BinOp.eql r3265 (ys2049.getD 1 default))) ∧
            (((isT (AV.bin Go.BinOp.eql r3265 (ys2049.getD 1 default))) →
              ((AV.binOk Go.BinOp.add (ys2753.getD 0 default) (AV.int 1)) ∧
              ((AV.binOk Go.BinOp.add (ys2753.getD 1 default) (AV.int 1)) ∧
              (again2753 [(AV.bin Go.BinOp.add (ys2753.getD 0 default) (AV.int 1)), (AV.bin Go.BinOp.add (ys2753.getD 1 default) (AV.int 1))])))) ∧
            ((isF (AV.bin Go.BinOp.eql r3265 (ys2049.getD 1 default))) →
              ((AV.binOk Go.BinOp.add (ys2753.getD 1 default) (AV.int 1)) ∧
              (again2753 [(ys2753.getD 0 default), (AV.bin Go.BinOp.add (ys2753.getD 1 default) (AV.int 1))])))))))))))) ∧
          ((isF (AV.bin Go.BinOp.lss (ys2753.getD 1 default) (AV.len (ys385.getD 1 default)))) →
            ((AV.binOk Go.BinOp.lss (ys2049.getD 0 default) (AV.int 0)) ∧
            ((AV.isBool (AV.bin Go.BinOp.lss (ys2049.getD 0 default) (AV.int 0))) ∧
            (((isT (AV.bin Go.BinOp.lss (ys2049.getD 0 default) (AV.int 0))) →
              ((AV.binOk Go.BinOp.lss (ys2753.getD 0 default) (AV.cel (AV.atAgg x2 (ys2049.getD 1 default) 0 3) 2)) ∧
              ((AV.isBool (AV.bin Go.BinOp.lss (ys2049.getD 0 default) (AV.int 0))) ∧
              ((isT (AV.bin Go.BinOp.lss (ys2049.getD 0 default) (AV.int 0))) ∧
              ((AV.isBool (AV.bin Go.BinOp.lss (ys2753.getD 0 default) (AV.cel (AV.atAgg x2 (ys2049.getD 1 default) 0 3) 2))) ∧
              (((isT (AV.bin Go.BinOp.lss (ys2753.getD 0 default) (AV.cel (AV.atAgg x2 (ys2049.getD 1 default) 0 3) 2))) →
                ((AV.binOk Go.BinOp.lss (AV.cel (AV.atAgg (ys385.getD 0 default) r641 0 2) 1) (AV.cel (AV.atAgg x2 (ys2049.getD 1 default) 0 3) 1)) ∧
                ((AV.isBool (AV.bin Go.BinOp.lss (ys2753.getD 0 default) (AV.cel (AV.atAgg x2 (ys2049.getD 1 default) 0 3) 2))) ∧
                ((isT (AV.bin Go.BinOp.lss (ys2753.getD 0 default) (AV.cel (AV.atAgg x2 (ys2049.getD 1 default) 0 3) 2))) ∧
                ((AV.isBool (AV.bin Go.BinOp.lss (AV.cel (AV.atAgg (ys385.getD 0 default) r641 0 2) 1) (AV.cel (AV.atAgg x2 (ys2049.getD 1 default) 0 3) 1))) ∧
                (((isT (AV.bin Go.BinOp.lss (AV.cel (AV.atAgg (ys385.getD 0 default) r641 0 2) 1) (AV.cel (AV.atAgg x2 (ys2049.getD 1 default) 0 3) 1))) →
                  ((AV.binOk Go.BinOp.lss (AV.cel (AV.atAgg (ys385.getD 0 default) r641 0 2) 1) (AV.cel (AV.atAgg x2 (ys2049.getD 1 default) 0 3) 0)) ∧
                  ((AV.isBool (AV.bin Go.BinOp.lss (AV.cel (AV.atAgg (ys385.getD 0 default) r641 0 2) 1) (AV.cel (AV.atAgg x2 (ys2049.getD 1 default) 0 3) 0))) ∧
                  (((isT (AV.bin Go.BinOp.lss (AV.cel (AV.atAgg (ys385.getD 0 default) r641 0 2) 1) (AV.cel (AV.atAgg x2 (ys2049.getD 1 default) 0 3) 0))) →
                    ((AV.binOk Go.BinOp.add (ys2049.getD 1 default) (AV.int 1)) ∧
                    (again2049 [(AV.cel (AV.atAgg x2 (ys2049.getD 1 default) 0 3) 0), (AV.bin Go.BinOp.add (ys2049.getD 1 default) (AV.int 1))]))) ∧
                  ((isF (AV.bin Go.BinOp.lss (AV.cel (AV.atAgg (ys385.getD 0 default) r641 0 2) 1) (AV.cel (AV.atAgg x2 (ys2049.getD 1 default) 0 3) 0))) →
                    ((AV.binOk Go.BinOp.add (ys2049.getD 1 default) (AV.int 1)) ∧
                    (again2049 [(AV.cel (AV.atAgg (ys385.getD 0 default) r641 0 2) 1), (AV.bin Go.BinOp.add (ys2049.getD 1 default) (AV.int 1))]))))))) ∧
                ((isF (AV.bin Go.BinOp.lss (AV.cel (AV.atAgg (ys385.getD 0 default) r641 0 2) 1) (AV.cel (AV.atAgg x2 (ys2049.getD 1 default) 0 3) 1))) →
                  ((AV.binOk Go.BinOp.add (ys2049.getD 1 default) (AV.int 1)) ∧
                  (again2049 [(ys2049.getD 0 default), (AV.bin Go.BinOp.add (ys2049.getD 1 default) (AV.int 1))]))))))))) ∧
              ((isF (AV.bin Go.BinOp.lss (ys2753.getD 0 default) (AV.cel (AV.atAgg x2 (ys2049.getD 1 default) 0 3) 2))) →
                ((AV.isBool (AV.bin Go.BinOp.lss (ys2753.getD 0 default) (AV.cel (AV.atAgg x2 (ys2049.getD 1 default) 0 3) 2))) ∧
                ((isF (AV.bin Go.BinOp.lss (ys2753.getD 0 default) (AV.cel (AV.atAgg x2 (ys2049.getD 1 default) 0 3) 2))) ∧
                ((AV.binOk Go.BinOp.add (ys2049.getD 1 default) (AV.int 1)) ∧
                (again2049 [(ys2049.getD 0 default), (AV.bin Go.BinOp.add (ys2049.getD 1 default) (AV.int 1))]))))))))))) ∧
            ((isF (AV.bin Go.BinOp.lss (ys2049.getD 0 default) (AV.int 0))) →
              ((AV.isBool (AV.bin Go.BinOp.lss (ys2049.getD 0 default) (AV.int 0))) ∧
              ((isF (AV.bin Go.BinOp.lss (ys2049.getD 0 default) (AV.int 0))) ∧
              ((AV.binOk Go.BinOp.add (ys2049.getD 1 default) (AV.int 1)) ∧
              (again2049 [(ys2049.getD 0 default), (AV.bin Go.BinOp.add (ys2049.getD 1 default) (AV.int 1))]))))))))))))))))) ∧
      ((isF (AV.bin Go.BinOp.lss (ys2049.getD 1 default) (AV.len x2))) →
        ((AV.binOk Go.BinOp.lss (ys2049.getD 0 default) (AV.int 0)) ∧
        ((AV.isBool (AV.bin Go.BinOp.lss (ys2049.getD 0 default) (AV.int 0))) ∧
        (((isT (AV.bin Go.BinOp.lss (ys2049.getD 0 default) (AV.int 0))) →
          ((AV.flatS (AV.mk 3 [])) ∧
          ((AV.flat (AV.int 18)) ∧
          (fSame (AV.tup [(AV.mk 3 []), (AV.int 18)]) r)))) ∧
        ((isF (AV.bin Go.BinOp.lss (ys2049.getD 0 default) (AV.int 0))) →
          ((AV.isOne (AV.cel (AV.atAgg (ys385.getD 0 default) r641 0 2) 0)) ∧
          ((AV.isOne x0) ∧
          ((AV.isOne (ys2049.getD 0 default)) ∧
          ((AV.room (ys385.getD 1 default) (AV.mk 3 [[(AV.cel (AV.atAgg (ys385.getD 0 default) r641 0 2) 0), x0, (ys2049.getD 0 default)]]) 40) ∧
          (again385 [(AV.app 2 (AV.app 2 (AV.mk 2 []) (AV.sub 2 (ys385.getD 0 default) (AV.int 0) r641)) (AV.sub 2 (ys385.getD 0 default) (AV.bin Go.BinOp.add r641 (AV.int 1)) (AV.len (ys385.getD 0 default)))), (AV.app 3 (ys385.getD 1 default) (AV.mk 3 [[(AV.cel (AV.atAgg (ys385.getD 0 default) r641 0 2) 0), x0, (ys2049.getD 0 default)]]))])))))))))))))))))))))))))))))) ∧
  ((isF (AV.bin Go.BinOp.gtr (AV.len (ys385.getD 0 default)) (AV.int 0))) →
    ((AV.flatS (ys385.getD 1 default)) ∧
    ((AV.flat (AV.int 0)) ∧
    (fSame (AV.tup [(ys385.getD 1 default), (AV.int 0)]) r)))))))))))) := by kernel_rfl
theorem ldelays_form (x0 x1 r : AV) : fnF Try.prog Γ ann 3 19 Try.f19 (Try.f19.body.getD .skip) (.nil) [x0, x1] (.tup [.row 3 1 true, .sc]) r = ((∃ r193 : AV, ((Fn Try.prog 11 [x0] Sh.sc r193) ∧
((AV.binOk Go.BinOp.neq r193 (AV.int 0)) ∧
((AV.isBool (AV.bin Go.BinOp.neq r193 (AV.int 0))) ∧
(((isT (AV.bin Go.BinOp.neq r193 (AV.int 0))) →
  ((AV.flatS (AV.mk 1 [])) ∧
  ((AV.flat r193) ∧
  (fSame (AV.tup [(AV.mk 1 []), r193]) r)))) ∧
((isF (AV.bin Go.BinOp.neq r193 (AV.int 0))) →
  ((AV.isSl x1 3) ∧
  ((AV.binOk Go.BinOp.gtr (AV.len x1) (AV.int 24)) ∧
  ((AV.isBool (AV.bin Go.BinOp.gtr (AV.len x1) (AV.int 24))) ∧
  (((isT (AV.bin Go.BinOp.gtr (AV.len x1) (AV.int 24))) →
    ((AV.flatS (AV.mk 1 [])) ∧
    ((AV.flat (AV.int 2)) ∧
    (fSame (AV.tup [(AV.mk 1 []), (AV.int 2)]) r)))) ∧
  ((isF (AV.bin Go.BinOp.gtr (AV.len x1) (AV.int 24))) →
    ((AV.isSl x0 2) ∧
    (fLoop 897 [(AV.int 0), (AV.mk 1 [])] fun ys897 again897 =>
      ((AV.binOk Go.BinOp.lss (ys897.getD 0 default) (AV.len x0)) ∧
      ((AV.isBool (AV.bin Go.BinOp.lss (ys897.getD 0 default) (AV.len x0))) ∧
      (((isT (AV.bin Go.BinOp.lss (ys897.getD 0 default) (AV.len x0))) →
        ((AV.isSl x0 2) ∧
        ((AV.inb x0 (ys897.getD 0 default)) ∧
        ((AV.isAgg (AV.atAgg x0 (ys897.getD 0 default) 0 2) 2) ∧
        ((AV.isSl x1 3) ∧
        ((AV.binOk Go.BinOp.sub (AV.len x1) (AV.int 1)) ∧
        (fLoop 1537 [(AV.int (-1)), (AV.bin Go.BinOp.sub (AV.len x1) (AV.int 1))] fun ys1537 again1537 =>
          ((AV.binOk Go.BinOp.geq (ys1537.getD 1 default) (AV.int 0)) ∧
          ((AV.isBool (AV.bin Go.BinOp.geq (ys1537.getD 1 default) (AV.int 0))) ∧
          (((isT (AV.bin Go.BinOp.geq (ys1537.getD 1 default) (AV.int 0))) →
            ((AV.isSl x1 3) ∧
            ((AV.inb x1 (ys1537.getD 1 default)) ∧
            ((AV.binOk Go.BinOp.eql (AV.at x1 (ys1537.getD 1 default) 0) (AV.cel (AV.atAgg x0 (ys897.getD 0 default) 0 2) 0)) ∧
            ((AV.isBool (AV.bin Go.BinOp.eql (AV.at x1 (ys1537.getD 1 default) 0) (AV.cel (AV.atAgg x0 (ys897.getD 0 default) 0 2) 0))) ∧
            (((isT (AV.bin Go.BinOp.eql (AV.at x1 (ys1537.getD 1 default) 0) (AV.cel (AV.atAgg x0 (ys897.getD 0 default) 0 2) 0))) →
              ((AV.binOk Go.BinOp.sub (ys1537.getD 1 default) (AV.int 1)) ∧
              (again1537 [(ys1537.getD 1 default), (AV.bin Go.BinOp.sub (ys1537.getD 1 default) (AV.int 1))]))) ∧
            ((isF (AV.bin Go.BinOp.eql (AV.at x1 (ys1537.getD 1 default) 0) (AV.cel (AV.atAgg x0 (ys897.getD 0 default) 0 2) 0))) →
              ((AV.binOk Go.BinOp.sub (ys1537.getD 1 default) (AV.int 1)) ∧
              (again1537 [(ys1537.getD 0 default), (AV.bin Go.BinOp.sub (ys1537.getD 1 default) (AV.int 1))]))))))))) ∧
          ((isF (AV.bin Go.BinOp.geq (ys1537.getD 1 default) (AV.int 0))) →
            ((AV.binOk Go.BinOp.lss (ys1537.getD 0 default) (AV.int 0)) ∧
            ((AV.isBool (AV.bin Go.BinOp.lss (ys1537.getD 0 default) (AV.int 0))) ∧
            (((isT (AV.bin Go.BinOp.lss (ys1537.getD 0 default) (AV.int 0))) →
              ((AV.flatS (AV.mk 1 [])) ∧
              ((AV.flat (AV.int 8)) ∧
              (fSame (AV.tup [(AV.mk 1 []), (AV.int 8)]) r)))) ∧
            ((isF (AV.bin Go.BinOp.lss (ys1537.getD 0 default) (AV.int 0))) →
              ((AV.isSl x1 3) ∧
              ((AV.inb x1 (ys1537.getD 0 default)) ∧
              ((AV.binOk Go.BinOp.lss (AV.at x1 (ys1537.getD 0 default) 2) (AV.cel (AV.atAgg x0 (ys897.getD 0 default) 0 2) 1)) ∧
              ((AV.isBool (AV.bin Go.BinOp.lss (AV.at x1 (ys1537.getD 0 default) 2) (AV.cel (AV.atAgg x0 (ys897.getD 0 default) 0 2) 1))) ∧
              (((isT (AV.bin Go.BinOp.lss (AV.at x1 (ys1537.getD 0 default) 2) (AV.cel (AV.atAgg x0 (ys897.getD 0 default) 0 2) 1))) →
                ((AV.isBool (AV.bin Go.BinOp.lss (AV.at x1 (ys1537.getD 0 default) 2) (AV.cel (AV.atAgg x0 (ys897.getD 0 default) 0 2) 1))) ∧
                ((isT (AV.bin Go.BinOp.lss (AV.at x1 (ys1537.getD 0 default) 2) (AV.cel (AV.atAgg x0 (ys897.getD 0 default) 0 2) 1))) ∧
                ((AV.flatS (AV.mk 1 [])) ∧
                ((AV.flat (AV.int 12)) ∧
                (fSame (AV.tup [(AV.mk 1 []), (AV.int 12)]) r)))))) ∧
              ((isF (AV.bin Go.BinOp.lss (AV.at x1 (ys1537.getD 0 default) 2) (AV.cel (AV.atAgg x0 (ys897.getD 0 default) 0 2) 1))) →
                ((AV.isSl x1 3) ∧
                ((AV.inb x1 (ys1537.getD 0 default)) ∧
                ((AV.binOk Go.BinOp.gtr (AV.at x1 (ys1537.getD 0 default) 2) (AV.int 200000)) ∧
                ((AV.isBool (AV.bin Go.BinOp.lss (AV.at x1 (ys1537.getD 0 default) 2) (AV.cel (AV.atAgg x0 (ys897.getD 0 default) 0 2) 1))) ∧
                ((isF (AV.bin Go.BinOp.lss (AV.at x1 (ys1537.getD 0 default) 2) (AV.cel (AV.atAgg x0 (ys897.getD 0 default) 0 2) 1))) ∧
                ((AV.isBool (AV.bin Go.BinOp.gtr (AV.at x1 (ys1537.getD 0 default) 2) (AV.int 200000))) ∧
                (((isT (AV.bin Go.BinOp.gtr (AV.at x1 (ys1537.getD 0 default) 2) (AV.int 200000))) →
                  ((AV.flatS (AV.mk 1 [])) ∧
                  ((AV.flat (AV.int 12)) ∧
                  (fSame (AV.tup [(AV.mk 1 []), (AV.int 12)]) r)))) ∧
                ((isF (AV.bin Go.BinOp.gtr (AV.at x1 (ys1537.getD 0 default) 2) (AV.int 200000))) →
                  ((AV.isSl x1 3) ∧
                  ((AV.inb x1 (ys1537.getD 0 default)) ∧
                  ((AV.binOk Go.BinOp.sub (AV.at x1 (ys1537.getD 0 default) 2) (AV.cel (AV.atAgg x0 (ys897.getD 0 default) 0 2) 1)) ∧
                  ((AV.isOne (AV.bin Go.BinOp.sub (AV.at x1 (ys1537.getD 0 default) 2) (AV.cel (AV.atAgg x0 (ys897.getD 0 default) 0 2) 1))) ∧
                  ((AV.room (ys897.getD 1 default) (AV.mk 1 [[(AV.bin Go.BinOp.sub (AV.at x1 (ys1537.getD 0 default) 2) (AV.cel (AV.atAgg x0 (ys897.getD 0 default) 0 2) 1))]]) 8) ∧
                  ((AV.binOk Go.BinOp.add (ys897.getD 0 default) (AV.int 1)) ∧
                  (again897 [(AV.bin Go.BinOp.add (ys897.getD 0 default) (AV.int 1)), (AV.app 1 (ys897.getD 1 default) (AV.mk 1 [[(AV.bin Go.BinOp.sub (AV.at x1 (ys1537.getD 0 default) 2) (AV.cel (AV.atAgg x0 (ys897.getD 0 default) 0 2) 1))]]))])))))))))))))))))))))))))))))))))))) ∧
      ((isF (AV.bin Go.BinOp.lss (ys897.getD 0 default) (AV.len x0))) →
        ((AV.flatS (ys897.getD 1 default)) ∧
        ((AV.flat (AV.int 0)) ∧
        (fSame (AV.tup [(ys897.getD 1 default), (AV.int 0)]) r))))))))))))))))))))) := by kernel_rfl
end SlotF
end Go.Proofs.Ytpbmalfoncjcnaa
