/- link's channels: what the run ends in. -/
import Derived.Test.YthihgkgfdmkmhaaLinkF
namespace Go.Proofs.Ythihgkgfdmkmhaa
open Go.RowKit
set_option linter.unusedVariables false
set_option maxRecDepth 100000
namespace LinkG
--GAMMA
def Γ : FuncId → Option Ca := fun f =>
  if f = 4 ∨ f = 6 then some (.fn .sc)
  else if f = 10 then some (.fn (.row 9 1 true))
  else if f = 21 then some (.upd true)
  else some .inl
def ann : FuncId → Nat → LoopEx := fun f r => if f = 3 then ⟨[], [1217], [], [(577, 0, 9, 1), (4, 3, 961, 0)]⟩ else ⟨[], [], [], []⟩
--END GAMMA
theorem dec_form (x0 r : AV) : fnF Try.prog Γ ann 0 6 Try.f6 (Try.f6.body.getD .skip) (.nil) [x0] (.sc) r = (((AV.binOk Go.BinOp.lss x0 (AV.int 0)) ∧
((AV.isBool (AV.bin Go.BinOp.lss x0 (AV.int 0))) ∧
(((isT (AV.bin Go.BinOp.lss x0 (AV.int 0))) →
  ((AV.unOk Go.UnOp.neg x0) ∧
  (∃ r321 : AV, ((Fn Try.prog 6 [(AV.un Go.UnOp.neg x0)] Sh.sc r321) ∧
  ((AV.binOk Go.BinOp.add (AV.lit (Value.string ⟨#[45]⟩)) r321) ∧
  ((AV.flat (AV.bin Go.BinOp.add (AV.lit (Value.string ⟨#[45]⟩)) r321)) ∧
  (fSame (AV.bin Go.BinOp.add (AV.lit (Value.string ⟨#[45]⟩)) r321) r))))))) ∧
((isF (AV.bin Go.BinOp.lss x0 (AV.int 0))) →
  ((AV.binOk Go.BinOp.lss x0 (AV.int 10)) ∧
  ((AV.isBool (AV.bin Go.BinOp.lss x0 (AV.int 10))) ∧
  (((isT (AV.bin Go.BinOp.lss x0 (AV.int 10))) →
    ((AV.binOk Go.BinOp.add x0 (AV.int 1)) ∧
    ((AV.isStr (AV.lit (Value.string ⟨#[48, 49, 50, 51, 52, 53, 54, 55, 56, 57]⟩))) ∧
    ((AV.ssubOk (AV.lit (Value.string ⟨#[48, 49, 50, 51, 52, 53, 54, 55, 56, 57]⟩)) x0 (AV.bin Go.BinOp.add x0 (AV.int 1))) ∧
    ((AV.flat (AV.ssub (AV.lit (Value.string ⟨#[48, 49, 50, 51, 52, 53, 54, 55, 56, 57]⟩)) x0 (AV.bin Go.BinOp.add x0 (AV.int 1)))) ∧
    (fSame (AV.ssub (AV.lit (Value.string ⟨#[48, 49, 50, 51, 52, 53, 54, 55, 56, 57]⟩)) x0 (AV.bin Go.BinOp.add x0 (AV.int 1))) r)))))) ∧
  ((isF (AV.bin Go.BinOp.lss x0 (AV.int 10))) →
    ((AV.binOk Go.BinOp.quo x0 (AV.int 10)) ∧
    (∃ r449 : AV, ((Fn Try.prog 6 [(AV.bin Go.BinOp.quo x0 (AV.int 10))] Sh.sc r449) ∧
    ((AV.binOk Go.BinOp.rem x0 (AV.int 10)) ∧
    (∃ r641 : AV, ((Fn Try.prog 6 [(AV.bin Go.BinOp.rem x0 (AV.int 10))] Sh.sc r641) ∧
    ((AV.binOk Go.BinOp.add r449 r641) ∧
    ((AV.flat (AV.bin Go.BinOp.add r449 r641)) ∧
    (fSame (AV.bin Go.BinOp.add r449 r641) r)))))))))))))))))) := by kernel_rfl
theorem chan_form (x0 r : AV) : fnF Try.prog Γ ann 4 3 Try.f3 (Try.f3.body.getD .skip) ((.f (.both .nil (.both (.both (.f (.both (.f (.f .nil)) (.f (.f .nil)))) (.both (.t (.t (.both (.t (.f .nil)) (.both (.t (.f .nil)) (.f (.t (.f (.f .nil)))))))) (.both (.f (.both (.t (.f .nil)) (.both (.t (.f .nil)) (.f (.f (.f .nil)))))) (.both (.both (.f .nil) (.t (.f .nil))) (.both (.f (.f (.f (.t (.f .nil))))) (.f (.f (.f (.f (.f .nil)))))))))) .nil)))) [x0] (.sc) r = ((∃ r65 : AV, ((Fn Try.prog 4 [] Sh.sc r65) ∧
((AV.unOk Go.UnOp.not r65) ∧
((AV.isBool (AV.un Go.UnOp.not r65)) ∧
((isF (AV.un Go.UnOp.not r65)) ∧
((AV.isSl x0 1) ∧
((AV.binOk Go.BinOp.gtr (AV.len x0) (AV.int 200)) ∧
((AV.isBool (AV.bin Go.BinOp.gtr (AV.len x0) (AV.int 200))) ∧
(((isT (AV.bin Go.BinOp.gtr (AV.len x0) (AV.int 200))) →
  ((AV.flat (AV.bool true)) ∧
  (fSame (AV.bool true) r))) ∧
((isF (AV.bin Go.BinOp.gtr (AV.len x0) (AV.int 200))) →
  ((fEnt Try.prog 5) ∧
  (fAllV fun _ => ((AV.isSl x0 1) ∧
  (fLoop 1281 [(AV.int 0), (AV.mk 1 []), (AV.mk 1 [])] fun ys1281 again1281 =>
    ((AV.binOk Go.BinOp.lss (ys1281.getD 0 default) (AV.len x0)) ∧
    ((AV.isBool (AV.bin Go.BinOp.lss (ys1281.getD 0 default) (AV.len x0))) ∧
    (((isT (AV.bin Go.BinOp.lss (ys1281.getD 0 default) (AV.len x0))) →
      ((AV.isSl x0 1) ∧
      ((AV.inb x0 (ys1281.getD 0 default)) ∧
      ((AV.binOk Go.BinOp.and (AV.at x0 (ys1281.getD 0 default) 0) (AV.int 3)) ∧
      ((AV.shfOk (AV.at x0 (ys1281.getD 0 default) 0) (AV.lit (Value.int Go.IntKind.u64 2))) ∧
      ((AV.binOk Go.BinOp.and (AV.shf Go.BinOp.shr (AV.at x0 (ys1281.getD 0 default) 0) (AV.lit (Value.int Go.IntKind.u64 2))) (AV.int 127)) ∧
      ((AV.binOk Go.BinOp.lss (AV.bin Go.BinOp.and (AV.shf Go.BinOp.shr (AV.at x0 (ys1281.getD 0 default) 0) (AV.lit (Value.int Go.IntKind.u64 2))) (AV.int 127)) (AV.len (ys1281.getD 1 default))) ∧
      ((AV.binOk Go.BinOp.eql (AV.bin Go.BinOp.and (AV.at x0 (ys1281.getD 0 default) 0) (AV.int 3)) (AV.int 0)) ∧
      ((AV.isBool (AV.bin Go.BinOp.eql (AV.bin Go.BinOp.and (AV.at x0 (ys1281.getD 0 default) 0) (AV.int 3)) (AV.int 0))) ∧
      (((isT (AV.bin Go.BinOp.eql (AV.bin Go.BinOp.and (AV.at x0 (ys1281.getD 0 default) 0) (AV.int 3)) (AV.int 0))) →
        (∃ r2689 : AV, ((Fn Try.prog 6 [(ys1281.getD 0 default)] Sh.sc r2689) ∧
        ((fEnt Try.prog 7) ∧
        (fAllV fun _ => ((AV.isStr r2689) ∧
        ((AV.binOk Go.BinOp.gtr (AV.slen r2689) (AV.int 120)) ∧
        ((AV.isBool (AV.bin Go.BinOp.gtr (AV.slen r2689) (AV.int 120))) ∧
        ((isF (AV.bin Go.BinOp.gtr (AV.slen r2689) (AV.int 120))) ∧
        ((AV.binOk Go.BinOp.eql (AV.len (ys1281.getD 2 default)) (AV.int 64)) ∧
        ((AV.isBool (AV.bin Go.BinOp.eql (AV.len (ys1281.getD 2 default)) (AV.int 64))) ∧
        (((isT (AV.bin Go.BinOp.eql (AV.len (ys1281.getD 2 default)) (AV.int 64))) →
          ((AV.binOk Go.BinOp.lss (AV.len (ys1281.getD 1 default)) (AV.int 64)) ∧
          ((AV.isBool (AV.bool false)) ∧
          ((AV.isBool (AV.bin Go.BinOp.lss (AV.len (ys1281.getD 1 default)) (AV.int 64))) ∧
          ((AV.isBool (AV.neB (AV.bool false) (AV.bin Go.BinOp.lss (AV.len (ys1281.getD 1 default)) (AV.int 64)))) ∧
          ((isF (AV.neB (AV.bool false) (AV.bin Go.BinOp.lss (AV.len (ys1281.getD 1 default)) (AV.int 64)))) ∧
          ((AV.isBool (AV.neB (AV.bool false) (AV.bin Go.BinOp.lss (AV.len (ys1281.getD 1 default)) (AV.int 64)))) ∧
          ((isF (AV.neB (AV.bool false) (AV.bin Go.BinOp.lss (AV.len (ys1281.getD 1 default)) (AV.int 64)))) ∧
          ((fEnt Try.prog 12) ∧
          (fAllV fun _ => ((AV.binOk Go.BinOp.neq (AV.len (ys1281.getD 2 default)) (AV.len (ys1281.getD 1 default))) ∧
          ((AV.isBool (AV.bin Go.BinOp.neq (AV.len (ys1281.getD 2 default)) (AV.len (ys1281.getD 1 default)))) ∧
          ((isF (AV.bin Go.BinOp.neq (AV.len (ys1281.getD 2 default)) (AV.len (ys1281.getD 1 default)))) ∧
          ((AV.binOk Go.BinOp.add (ys1281.getD 0 default) (AV.int 1)) ∧
          (again1281 [(AV.bin Go.BinOp.add (ys1281.getD 0 default) (AV.int 1)), (ys1281.getD 1 default), (ys1281.getD 2 default)]))))))))))))))) ∧
        ((isF (AV.bin Go.BinOp.eql (AV.len (ys1281.getD 2 default)) (AV.int 64))) →
          ((AV.isOne r2689) ∧
          ((AV.room (ys1281.getD 2 default) (AV.mk 1 [[r2689]]) 16) ∧
          ((AV.binOk Go.BinOp.lss (AV.len (ys1281.getD 1 default)) (AV.int 64)) ∧
          ((AV.isBool (AV.bool true)) ∧
          ((AV.isBool (AV.bin Go.BinOp.lss (AV.len (ys1281.getD 1 default)) (AV.int 64))) ∧
          ((AV.isBool (AV.neB (AV.bool true) (AV.bin Go.BinOp.lss (AV.len (ys1281.getD 1 default)) (AV.int 64)))) ∧
          ((isF (AV.neB (AV.bool true) (AV.bin Go.BinOp.lss (AV.len (ys1281.getD 1 default)) (AV.int 64)))) ∧
          ((AV.isBool (AV.neB (AV.bool true) (AV.bin Go.BinOp.lss (AV.len (ys1281.getD 1 default)) (AV.int 64)))) ∧
          ((isF (AV.neB (AV.bool true) (AV.bin Go.BinOp.lss (AV.len (ys1281.getD 1 default)) (AV.int 64)))) ∧
          ((AV.isOne r2689) ∧
          ((AV.room (ys1281.getD 1 default) (AV.mk 1 [[r2689]]) 16) ∧
          ((fEnt Try.prog 12) ∧
          (fAllV fun _ => ((AV.binOk Go.BinOp.neq (AV.len (AV.app 1 (ys1281.getD 2 default) (AV.mk 1 [[r2689]]))) (AV.len (AV.app 1 (ys1281.getD 1 default) (AV.mk 1 [[r2689]])))) ∧
          ((AV.isBool (AV.bin Go.BinOp.neq (AV.len (AV.app 1 (ys1281.getD 2 default) (AV.mk 1 [[r2689]]))) (AV.len (AV.app 1 (ys1281.getD 1 default) (AV.mk 1 [[r2689]]))))) ∧
          ((isF (AV.bin Go.BinOp.neq (AV.len (AV.app 1 (ys1281.getD 2 default) (AV.mk 1 [[r2689]]))) (AV.len (AV.app 1 (ys1281.getD 1 default) (AV.mk 1 [[r2689]]))))) ∧
          ((AV.binOk Go.BinOp.add (ys1281.getD 0 default) (AV.int 1)) ∧
          (again1281 [(AV.bin Go.BinOp.add (ys1281.getD 0 default) (AV.int 1)), (AV.app 1 (ys1281.getD 1 default) (AV.mk 1 [[r2689]])), (AV.app 1 (ys1281.getD 2 default) (AV.mk 1 [[r2689]]))]))))))))))))))))))))))))))))))) ∧
      ((isF (AV.bin Go.BinOp.eql (AV.bin Go.BinOp.and (AV.at x0 (ys1281.getD 0 default) 0) (AV.int 3)) (AV.int 0))) →
        ((AV.binOk Go.BinOp.eql (AV.bin Go.BinOp.and (AV.at x0 (ys1281.getD 0 default) 0) (AV.int 3)) (AV.int 1)) ∧
        ((AV.isBool (AV.bin Go.BinOp.eql (AV.bin Go.BinOp.and (AV.at x0 (ys1281.getD 0 default) 0) (AV.int 3)) (AV.int 1))) ∧
        (((isT (AV.bin Go.BinOp.eql (AV.bin Go.BinOp.and (AV.at x0 (ys1281.getD 0 default) 0) (AV.int 3)) (AV.int 1))) →
          ((AV.isBool (AV.bin Go.BinOp.eql (AV.bin Go.BinOp.and (AV.at x0 (ys1281.getD 0 default) 0) (AV.int 3)) (AV.int 1))) ∧
          ((isT (AV.bin Go.BinOp.eql (AV.bin Go.BinOp.and (AV.at x0 (ys1281.getD 0 default) 0) (AV.int 3)) (AV.int 1))) ∧
          ((AV.binOk Go.BinOp.eql (AV.bin Go.BinOp.and (AV.at x0 (ys1281.getD 0 default) 0) (AV.int 3)) (AV.int 1)) ∧
          ((AV.isBool (AV.bin Go.BinOp.eql (AV.bin Go.BinOp.and (AV.at x0 (ys1281.getD 0 default) 0) (AV.int 3)) (AV.int 1))) ∧
          ((isT (AV.bin Go.BinOp.eql (AV.bin Go.BinOp.and (AV.at x0 (ys1281.getD 0 default) 0) (AV.int 3)) (AV.int 1))) ∧
          ((fEnt Try.prog 8) ∧
          (fAllV fun _ => ((AV.binOk Go.BinOp.lss (AV.bin Go.BinOp.and (AV.shf Go.BinOp.shr (AV.at x0 (ys1281.getD 0 default) 0) (AV.lit (Value.int Go.IntKind.u64 2))) (AV.int 127)) (AV.int 0)) ∧
          ((AV.isBool (AV.bin Go.BinOp.lss (AV.bin Go.BinOp.and (AV.shf Go.BinOp.shr (AV.at x0 (ys1281.getD 0 default) 0) (AV.lit (Value.int Go.IntKind.u64 2))) (AV.int 127)) (AV.int 0))) ∧
          (((isT (AV.bin Go.BinOp.lss (AV.bin Go.BinOp.and (AV.shf Go.BinOp.shr (AV.at x0 (ys1281.getD 0 default) 0) (AV.lit (Value.int Go.IntKind.u64 2))) (AV.int 127)) (AV.int 0))) →
            ((AV.isBool (AV.bin Go.BinOp.lss (AV.bin Go.BinOp.and (AV.shf Go.BinOp.shr (AV.at x0 (ys1281.getD 0 default) 0) (AV.lit (Value.int Go.IntKind.u64 2))) (AV.int 127)) (AV.int 0))) ∧
            ((isT (AV.bin Go.BinOp.lss (AV.bin Go.BinOp.and (AV.shf Go.BinOp.shr (AV.at x0 (ys1281.getD 0 default) 0) (AV.lit (Value.int Go.IntKind.u64 2))) (AV.int 127)) (AV.int 0))) ∧
            ((AV.unOk Go.UnOp.not (AV.bin Go.BinOp.lss (AV.bin Go.BinOp.and (AV.shf Go.BinOp.shr (AV.at x0 (ys1281.getD 0 default) 0) (AV.lit (Value.int Go.IntKind.u64 2))) (AV.int 127)) (AV.len (ys1281.getD 1 default)))) ∧
            ((AV.isBool (AV.un Go.UnOp.not (AV.bin Go.BinOp.lss (AV.bin Go.BinOp.and (AV.shf Go.BinOp.shr (AV.at x0 (ys1281.getD 0 default) 0) (AV.lit (Value.int Go.IntKind.u64 2))) (AV.int 127)) (AV.len (ys1281.getD 1 default))))) ∧
            ((isT (AV.un Go.UnOp.not (AV.bin Go.BinOp.lss (AV.bin Go.BinOp.and (AV.shf Go.BinOp.shr (AV.at x0 (ys1281.getD 0 default) 0) (AV.lit (Value.int Go.IntKind.u64 2))) (AV.int 127)) (AV.len (ys1281.getD 1 default))))) ∧
            ((AV.binOk Go.BinOp.neq (AV.lit (Value.string ⟨#[]⟩)) (AV.lit (Value.string ⟨#[]⟩))) ∧
            ((AV.isBool (AV.bin Go.BinOp.neq (AV.lit (Value.string ⟨#[]⟩)) (AV.lit (Value.string ⟨#[]⟩)))) ∧
            ((isF (AV.bin Go.BinOp.neq (AV.lit (Value.string ⟨#[]⟩)) (AV.lit (Value.string ⟨#[]⟩)))) ∧
            ((AV.binOk Go.BinOp.add (ys1281.getD 0 default) (AV.int 1)) ∧
            (again1281 [(AV.bin Go.BinOp.add (ys1281.getD 0 default) (AV.int 1)), (ys1281.getD 1 default), (ys1281.getD 2 default)]))))))))))) ∧
          ((isF (AV.bin Go.BinOp.lss (AV.bin Go.BinOp.and (AV.shf Go.BinOp.shr (AV.at x0 (ys1281.getD 0 default) 0) (AV.lit (Value.int Go.IntKind.u64 2))) (AV.int 127)) (AV.int 0))) →
            ((AV.binOk Go.BinOp.geq (AV.bin Go.BinOp.and (AV.shf Go.BinOp.shr (AV.at x0 (ys1281.getD 0 default) 0) (AV.lit (Value.int Go.IntKind.u64 2))) (AV.int 127)) (AV.len (ys1281.getD 2 default))) ∧
            ((AV.isBool (AV.bin Go.BinOp.lss (AV.bin Go.BinOp.and (AV.shf Go.BinOp.shr (AV.at x0 (ys1281.getD 0 default) 0) (AV.lit (Value.int Go.IntKind.u64 2))) (AV.int 127)) (AV.int 0))) ∧
            ((isF (AV.bin Go.BinOp.lss (AV.bin Go.BinOp.and (AV.shf Go.BinOp.shr (AV.at x0 (ys1281.getD 0 default) 0) (AV.lit (Value.int Go.IntKind.u64 2))) (AV.int 127)) (AV.int 0))) ∧
            ((AV.isBool (AV.bin Go.BinOp.geq (AV.bin Go.BinOp.and (AV.shf Go.BinOp.shr (AV.at x0 (ys1281.getD 0 default) 0) (AV.lit (Value.int Go.IntKind.u64 2))) (AV.int 127)) (AV.len (ys1281.getD 2 default)))) ∧
            (((isT (AV.bin Go.BinOp.geq (AV.bin Go.BinOp.and (AV.shf Go.BinOp.shr (AV.at x0 (ys1281.getD 0 default) 0) (AV.lit (Value.int Go.IntKind.u64 2))) (AV.int 127)) (AV.len (ys1281.getD 2 default)))) →
              ((AV.unOk Go.UnOp.not (AV.bin Go.BinOp.lss (AV.bin Go.BinOp.and (AV.shf Go.BinOp.shr (AV.at x0 (ys1281.getD 0 default) 0) (AV.lit (Value.int Go.IntKind.u64 2))) (AV.int 127)) (AV.len (ys1281.getD 1 default)))) ∧
              ((AV.isBool (AV.un Go.UnOp.not (AV.bin Go.BinOp.lss (AV.bin Go.BinOp.and (AV.shf Go.BinOp.shr (AV.at x0 (ys1281.getD 0 default) 0) (AV.lit (Value.int Go.IntKind.u64 2))) (AV.int 127)) (AV.len (ys1281.getD 1 default))))) ∧
              ((isT (AV.un Go.UnOp.not (AV.bin Go.BinOp.lss (AV.bin Go.BinOp.and (AV.shf Go.BinOp.shr (AV.at x0 (ys1281.getD 0 default) 0) (AV.lit (Value.int Go.IntKind.u64 2))) (AV.int 127)) (AV.len (ys1281.getD 1 default))))) ∧
              ((AV.binOk Go.BinOp.neq (AV.lit (Value.string ⟨#[]⟩)) (AV.lit (Value.string ⟨#[]⟩))) ∧
              ((AV.isBool (AV.bin Go.BinOp.neq (AV.lit (Value.string ⟨#[]⟩)) (AV.lit (Value.string ⟨#[]⟩)))) ∧
              ((isF (AV.bin Go.BinOp.neq (AV.lit (Value.string ⟨#[]⟩)) (AV.lit (Value.string ⟨#[]⟩)))) ∧
              ((AV.binOk Go.BinOp.add (ys1281.getD 0 default) (AV.int 1)) ∧
              (again1281 [(AV.bin Go.BinOp.add (ys1281.getD 0 default) (AV.int 1)), (ys1281.getD 1 default), (ys1281.getD 2 default)]))))))))) ∧
            ((isF (AV.bin Go.BinOp.geq (AV.bin Go.BinOp.and (AV.shf Go.BinOp.shr (AV.at x0 (ys1281.getD 0 default) 0) (AV.lit (Value.int Go.IntKind.u64 2))) (AV.int 127)) (AV.len (ys1281.getD 2 default)))) →
              ((AV.inb (ys1281.getD 2 default) (AV.bin Go.BinOp.and (AV.shf Go.BinOp.shr (AV.at x0 (ys1281.getD 0 default) 0) (AV.lit (Value.int Go.IntKind.u64 2))) (AV.int 127))) ∧
              ((AV.inb (ys1281.getD 2 default) (AV.bin Go.BinOp.and (AV.shf Go.BinOp.shr (AV.at x0 (ys1281.getD 0 default) 0) (AV.lit (Value.int Go.IntKind.u64 2))) (AV.int 127))) ∧
              ((AV.binOk Go.BinOp.add (AV.bin Go.BinOp.and (AV.shf Go.BinOp.shr (AV.at x0 (ys1281.getD 0 default) 0) (AV.lit (Value.int Go.IntKind.u64 2))) (AV.int 127)) (AV.int 1)) ∧
              (∃ r5057 : AV, ((FnU Try.prog 21 9 1 (ys1281.getD 2 default) [(AV.bin Go.BinOp.and (AV.shf Go.BinOp.shr (AV.at x0 (ys1281.getD 0 default) 0) (AV.lit (Value.int Go.IntKind.u64 2))) (AV.int 127)), (AV.bin Go.BinOp.add (AV.bin Go.BinOp.and (AV.shf Go.BinOp.shr (AV.at x0 (ys1281.getD 0 default) 0) (AV.lit (Value.int Go.IntKind.u64 2))) (AV.int 127)) (AV.int 1))] true r5057) ∧
              ((AV.unOk Go.UnOp.not (AV.bin Go.BinOp.lss (AV.bin Go.BinOp.and (AV.shf Go.BinOp.shr (AV.at x0 (ys1281.getD 0 default) 0) (AV.lit (Value.int Go.IntKind.u64 2))) (AV.int 127)) (AV.len (ys1281.getD 1 default)))) ∧
              ((AV.isBool (AV.un Go.UnOp.not (AV.bin Go.BinOp.lss (AV.bin Go.BinOp.and (AV.shf Go.BinOp.shr (AV.at x0 (ys1281.getD 0 default) 0) (AV.lit (Value.int Go.IntKind.u64 2))) (AV.int 127)) (AV.len (ys1281.getD 1 default))))) ∧
              ((isF (AV.un Go.UnOp.not (AV.bin Go.BinOp.lss (AV.bin Go.BinOp.and (AV.shf Go.BinOp.shr (AV.at x0 (ys1281.getD 0 default) 0) (AV.lit (Value.int Go.IntKind.u64 2))) (AV.int 127)) (AV.len (ys1281.getD 1 default))))) ∧
              ((AV.binOk Go.BinOp.eql (AV.bin Go.BinOp.and (AV.at x0 (ys1281.getD 0 default) 0) (AV.int 3)) (AV.int 1)) ∧
              ((AV.isBool (AV.bin Go.BinOp.eql (AV.bin Go.BinOp.and (AV.at x0 (ys1281.getD 0 default) 0) (AV.int 3)) (AV.int 1))) ∧
              ((isT (AV.bin Go.BinOp.eql (AV.bin Go.BinOp.and (AV.at x0 (ys1281.getD 0 default) 0) (AV.int 3)) (AV.int 1))) ∧
              ((AV.inb (ys1281.getD 1 default) (AV.bin Go.BinOp.and (AV.shf Go.BinOp.shr (AV.at x0 (ys1281.getD 0 default) 0) (AV.lit (Value.int Go.IntKind.u64 2))) (AV.int 127))) ∧
              ((AV.inb (ys1281.getD 1 default) (AV.bin Go.BinOp.and (AV.shf Go.BinOp.shr (AV.at x0 (ys1281.getD 0 default) 0) (AV.lit (Value.int Go.IntKind.u64 2))) (AV.int 127))) ∧
              ((AV.binOk Go.BinOp.neq (AV.at (ys1281.getD 2 default) (AV.bin Go.BinOp.and (AV.shf Go.BinOp.shr (AV.at x0 (ys1281.getD 0 default) 0) (AV.lit (Value.int Go.IntKind.u64 2))) (AV.int 127)) 0) (AV.at (ys1281.getD 1 default) (AV.bin Go.BinOp.and (AV.shf Go.BinOp.shr (AV.at x0 (ys1281.getD 0 default) 0) (AV.lit (Value.int Go.IntKind.u64 2))) (AV.int 127)) 0)) ∧
              ((AV.isBool (AV.bin Go.BinOp.eql (AV.bin Go.BinOp.and (AV.at x0 (ys1281.getD 0 default) 0) (AV.int 3)) (AV.int 1))) ∧
              ((isT (AV.bin Go.BinOp.eql (AV.bin Go.BinOp.and (AV.at x0 (ys1281.getD 0 default) 0) (AV.int 3)) (AV.int 1))) ∧
              ((AV.isBool (AV.bin Go.BinOp.neq (AV.at (ys1281.getD 2 default) (AV.bin Go.BinOp.and (AV.shf Go.BinOp.shr (AV.at x0 (ys1281.getD 0 default) 0) (AV.lit (Value.int Go.IntKind.u64 2))) (AV.int 127)) 0) (AV.at (ys1281.getD 1 default) (AV.bin Go.BinOp.and (AV.shf Go.BinOp.shr (AV.at x0 (ys1281.getD 0 default) 0) (AV.lit (Value.int Go.IntKind.u64 2))) (AV.int 127)) 0))) ∧
              ((isF (AV.bin Go.BinOp.neq (AV.at (ys1281.getD 2 default) (AV.bin Go.BinOp.and (AV.shf Go.BinOp.shr (AV.at x0 (ys1281.getD 0 default) 0) (AV.lit (Value.int Go.IntKind.u64 2))) (AV.int 127)) 0) (AV.at (ys1281.getD 1 default) (AV.bin Go.BinOp.and (AV.shf Go.BinOp.shr (AV.at x0 (ys1281.getD 0 default) 0) (AV.lit (Value.int Go.IntKind.u64 2))) (AV.int 127)) 0))) ∧
              ((AV.isSl (ys1281.getD 1 default) 1) ∧
              ((AV.subOk (ys1281.getD 1 default) (AV.int 0) (AV.bin Go.BinOp.and (AV.shf Go.BinOp.shr (AV.at x0 (ys1281.getD 0 default) 0) (AV.lit (Value.int Go.IntKind.u64 2))) (AV.int 127))) ∧
              (∃ r7105 : AV, ((Fn Try.prog 10 [(AV.sub 1 (ys1281.getD 1 default) (AV.int 0) (AV.bin Go.BinOp.and (AV.shf Go.BinOp.shr (AV.at x0 (ys1281.getD 0 default) 0) (AV.lit (Value.int Go.IntKind.u64 2))) (AV.int 127)))] (Sh.row 9 1 true) r7105) ∧
              ((AV.binOk Go.BinOp.add (AV.bin Go.BinOp.and (AV.shf Go.BinOp.shr (AV.at x0 (ys1281.getD 0 default) 0) (AV.lit (Value.int Go.IntKind.u64 2))) (AV.int 127)) (AV.int 1)) ∧
              ((AV.isSl (ys1281.getD 1 default) 1) ∧
              ((AV.subOk (ys1281.getD 1 default) (AV.bin Go.BinOp.add (AV.bin Go.BinOp.and (AV.shf Go.BinOp.shr (AV.at x0 (ys1281.getD 0 default) 0) (AV.lit (Value.int Go.IntKind.u64 2))) (AV.int 127)) (AV.int 1)) (AV.len (ys1281.getD 1 default))) ∧
              ((AV.isSl (AV.sub 1 (ys1281.getD 1 default) (AV.bin Go.BinOp.add (AV.bin Go.BinOp.and (AV.shf Go.BinOp.shr (AV.at x0 (ys1281.getD 0 default) 0) (AV.lit (Value.int Go.IntKind.u64 2))) (AV.int 127)) (AV.int 1)) (AV.len (ys1281.getD 1 default))) 1) ∧
              ((AV.room r7105 (AV.sub 1 (ys1281.getD 1 default) (AV.bin Go.BinOp.add (AV.bin Go.BinOp.and (AV.shf Go.BinOp.shr (AV.at x0 (ys1281.getD 0 default) 0) (AV.lit (Value.int Go.IntKind.u64 2))) (AV.int 127)) (AV.int 1)) (AV.len (ys1281.getD 1 default))) 16) ∧
              ((fEnt Try.prog 12) ∧
              (fAllV fun _ => ((AV.binOk Go.BinOp.neq (AV.len r5057) (AV.len (AV.app 1 r7105 (AV.sub 1 (ys1281.getD 1 default) (AV.bin Go.BinOp.add (AV.bin Go.BinOp.and (AV.shf Go.BinOp.shr (AV.at x0 (ys1281.getD 0 default) 0) (AV.lit (Value.int Go.IntKind.u64 2))) (AV.int 127)) (AV.int 1)) (AV.len (ys1281.getD 1 default)))))) ∧
              ((AV.isBool (AV.bin Go.BinOp.neq (AV.len r5057) (AV.len (AV.app 1 r7105 (AV.sub 1 (ys1281.getD 1 default) (AV.bin Go.BinOp.add (AV.bin Go.BinOp.and (AV.shf Go.BinOp.shr (AV.at x0 (ys1281.getD 0 default) 0) (AV.lit (Value.int Go.IntKind.u64 2))) (AV.int 127)) (AV.int 1)) (AV.len (ys1281.getD 1 default))))))) ∧
              ((isF (AV.bin Go.BinOp.neq (AV.len r5057) (AV.len (AV.app 1 r7105 (AV.sub 1 (ys1281.getD 1 default) (AV.bin Go.BinOp.add (AV.bin Go.BinOp.and (AV.shf Go.BinOp.shr (AV.at x0 (ys1281.getD 0 default) 0) (AV.lit (Value.int Go.IntKind.u64 2))) (AV.int 127)) (AV.int 1)) (AV.len (ys1281.getD 1 default))))))) ∧
              ((AV.binOk Go.BinOp.add (ys1281.getD 0 default) (AV.int 1)) ∧
              (again1281 [(AV.bin Go.BinOp.add (ys1281.getD 0 default) (AV.int 1)), (AV.app 1 r7105 (AV.sub 1 (ys1281.getD 1 default) (AV.bin Go.BinOp.add (AV.bin Go.BinOp.and (AV.shf Go.BinOp.shr (AV.at x0 (ys1281.getD 0 default) 0) (AV.lit (Value.int Go.IntKind.u64 2))) (AV.int 127)) (AV.int 1)) (AV.len (ys1281.getD 1 default)))), r5057])))))))))))))))))))))))))))))))))))))))))))))))))))) ∧
        ((isF (AV.bin Go.BinOp.eql (AV.bin Go.BinOp.and (AV.at x0 (ys1281.getD 0 default) 0) (AV.int 3)) (AV.int 1))) →
          ((AV.binOk Go.BinOp.eql (AV.bin Go.BinOp.and (AV.at x0 (ys1281.getD 0 default) 0) (AV.int 3)) (AV.int 2)) ∧
          ((AV.isBool (AV.bin Go.BinOp.eql (AV.bin Go.BinOp.and (AV.at x0 (ys1281.getD 0 default) 0) (AV.int 3)) (AV.int 2))) ∧
          (((isT (AV.bin Go.BinOp.eql (AV.bin Go.BinOp.and (AV.at x0 (ys1281.getD 0 default) 0) (AV.int 3)) (AV.int 2))) →
            ((AV.binOk Go.BinOp.eql (AV.bin Go.BinOp.and (AV.at x0 (ys1281.getD 0 default) 0) (AV.int 3)) (AV.int 1)) ∧
            ((AV.isBool (AV.bin Go.BinOp.eql (AV.bin Go.BinOp.and (AV.at x0 (ys1281.getD 0 default) 0) (AV.int 3)) (AV.int 1))) ∧
            ((isF (AV.bin Go.BinOp.eql (AV.bin Go.BinOp.and (AV.at x0 (ys1281.getD 0 default) 0) (AV.int 3)) (AV.int 1))) ∧
            ((fEnt Try.prog 9) ∧
            (fAllV fun _ => ((fEnt Try.prog 8) ∧
            (fAllV fun _ => ((AV.binOk Go.BinOp.lss (AV.bin Go.BinOp.and (AV.shf Go.BinOp.shr (AV.at x0 (ys1281.getD 0 default) 0) (AV.lit (Value.int Go.IntKind.u64 2))) (AV.int 127)) (AV.int 0)) ∧
            ((AV.isBool (AV.bin Go.BinOp.lss (AV.bin Go.BinOp.and (AV.shf Go.BinOp.shr (AV.at x0 (ys1281.getD 0 default) 0) (AV.lit (Value.int Go.IntKind.u64 2))) (AV.int 127)) (AV.int 0))) ∧
            (((isT (AV.bin Go.BinOp.lss (AV.bin Go.BinOp.and (AV.shf Go.BinOp.shr (AV.at x0 (ys1281.getD 0 default) 0) (AV.lit (Value.int Go.IntKind.u64 2))) (AV.int 127)) (AV.int 0))) →
              ((AV.isBool (AV.bin Go.BinOp.lss (AV.bin Go.BinOp.and (AV.shf Go.BinOp.shr (AV.at x0 (ys1281.getD 0 default) 0) (AV.lit (Value.int Go.IntKind.u64 2))) (AV.int 127)) (AV.int 0))) ∧
              ((isT (AV.bin Go.BinOp.lss (AV.bin Go.BinOp.and (AV.shf Go.BinOp.shr (AV.at x0 (ys1281.getD 0 default) 0) (AV.lit (Value.int Go.IntKind.u64 2))) (AV.int 127)) (AV.int 0))) ∧
              ((AV.unOk Go.UnOp.not (AV.bin Go.BinOp.lss (AV.bin Go.BinOp.and (AV.shf Go.BinOp.shr (AV.at x0 (ys1281.getD 0 default) 0) (AV.lit (Value.int Go.IntKind.u64 2))) (AV.int 127)) (AV.len (ys1281.getD 1 default)))) ∧
              ((AV.isBool (AV.un Go.UnOp.not (AV.bin Go.BinOp.lss (AV.bin Go.BinOp.and (AV.shf Go.BinOp.shr (AV.at x0 (ys1281.getD 0 default) 0) (AV.lit (Value.int Go.IntKind.u64 2))) (AV.int 127)) (AV.len (ys1281.getD 1 default))))) ∧
              ((isT (AV.un Go.UnOp.not (AV.bin Go.BinOp.lss (AV.bin Go.BinOp.and (AV.shf Go.BinOp.shr (AV.at x0 (ys1281.getD 0 default) 0) (AV.lit (Value.int Go.IntKind.u64 2))) (AV.int 127)) (AV.len (ys1281.getD 1 default))))) ∧
              ((AV.binOk Go.BinOp.neq (AV.lit (Value.string ⟨#[]⟩)) (AV.lit (Value.string ⟨#[]⟩))) ∧
              ((AV.isBool (AV.bin Go.BinOp.neq (AV.lit (Value.string ⟨#[]⟩)) (AV.lit (Value.string ⟨#[]⟩)))) ∧
              ((isF (AV.bin Go.BinOp.neq (AV.lit (Value.string ⟨#[]⟩)) (AV.lit (Value.string ⟨#[]⟩)))) ∧
              ((AV.binOk Go.BinOp.add (ys1281.getD 0 default) (AV.int 1)) ∧
              (again1281 [(AV.bin Go.BinOp.add (ys1281.getD 0 default) (AV.int 1)), (ys1281.getD 1 default), (ys1281.getD 2 default)]))))))))))) ∧
            ((isF (AV.bin Go.BinOp.lss (AV.bin Go.BinOp.and (AV.shf Go.BinOp.shr (AV.at x0 (ys1281.getD 0 default) 0) (AV.lit (Value.int Go.IntKind.u64 2))) (AV.int 127)) (AV.int 0))) →
              ((AV.binOk Go.BinOp.geq (AV.bin Go.BinOp.and (AV.shf Go.BinOp.shr (AV.at x0 (ys1281.getD 0 default) 0) (AV.lit (Value.int Go.IntKind.u64 2))) (AV.int 127)) (AV.len (ys1281.getD 2 default))) ∧
              ((AV.isBool (AV.bin Go.BinOp.lss (AV.bin Go.BinOp.and (AV.shf Go.BinOp.shr (AV.at x0 (ys1281.getD 0 default) 0) (AV.lit (Value.int Go.IntKind.u64 2))) (AV.int 127)) (AV.int 0))) ∧
              ((isF (AV.bin Go.BinOp.lss (AV.bin Go.BinOp.and (AV.shf Go.BinOp.shr (AV.at x0 (ys1281.getD 0 default) 0) (AV.lit (Value.int Go.IntKind.u64 2))) (AV.int 127)) (AV.int 0))) ∧
              ((AV.isBool (AV.bin Go.BinOp.geq (AV.bin Go.BinOp.and (AV.shf Go.BinOp.shr (AV.at x0 (ys1281.getD 0 default) 0) (AV.lit (Value.int Go.IntKind.u64 2))) (AV.int 127)) (AV.len (ys1281.getD 2 default)))) ∧
              (((isT (AV.bin Go.BinOp.geq (AV.bin Go.BinOp.and (AV.shf Go.BinOp.shr (AV.at x0 (ys1281.getD 0 default) 0) (AV.lit (Value.int Go.IntKind.u64 2))) (AV.int 127)) (AV.len (ys1281.getD 2 default)))) →
                ((AV.unOk Go.UnOp.not (AV.bin Go.BinOp.lss (AV.bin Go.BinOp.and (AV.shf Go.BinOp.shr (AV.at x0 (ys1281.getD 0 default) 0) (AV.lit (Value.int Go.IntKind.u64 2))) (AV.int 127)) (AV.len (ys1281.getD 1 default)))) ∧
                ((AV.isBool (AV.un Go.UnOp.not (AV.bin Go.BinOp.lss (AV.bin Go.BinOp.and (AV.shf Go.BinOp.shr (AV.at x0 (ys1281.getD 0 default) 0) (AV.lit (Value.int Go.IntKind.u64 2))) (AV.int 127)) (AV.len (ys1281.getD 1 default))))) ∧
                ((isT (AV.un Go.UnOp.not (AV.bin Go.BinOp.lss (AV.bin Go.BinOp.and (AV.shf Go.BinOp.shr (AV.at x0 (ys1281.getD 0 default) 0) (AV.lit (Value.int Go.IntKind.u64 2))) (AV.int 127)) (AV.len (ys1281.getD 1 default))))) ∧
                ((AV.binOk Go.BinOp.neq (AV.lit (Value.string ⟨#[]⟩)) (AV.lit (Value.string ⟨#[]⟩))) ∧
                ((AV.isBool (AV.bin Go.BinOp.neq (AV.lit (Value.string ⟨#[]⟩)) (AV.lit (Value.string ⟨#[]⟩)))) ∧
                ((isF (AV.bin Go.BinOp.neq (AV.lit (Value.string ⟨#[]⟩)) (AV.lit (Value.string ⟨#[]⟩)))) ∧
                ((AV.binOk Go.BinOp.add (ys1281.getD 0 default) (AV.int 1)) ∧
                (again1281 [(AV.bin Go.BinOp.add (ys1281.getD 0 default) (AV.int 1)), (ys1281.getD 1 default), (ys1281.getD 2 default)]))))))))) ∧
              ((isF (AV.bin Go.BinOp.geq (AV.bin Go.BinOp.and (AV.shf Go.BinOp.shr (AV.at x0 (ys1281.getD 0 default) 0) (AV.lit (Value.int Go.IntKind.u64 2))) (AV.int 127)) (AV.len (ys1281.getD 2 default)))) →
                ((AV.inb (ys1281.getD 2 default) (AV.bin Go.BinOp.and (AV.shf Go.BinOp.shr (AV.at x0 (ys1281.getD 0 default) 0) (AV.lit (Value.int Go.IntKind.u64 2))) (AV.int 127))) ∧
                ((AV.inb (ys1281.getD 2 default) (AV.bin Go.BinOp.and (AV.shf Go.BinOp.shr (AV.at x0 (ys1281.getD 0 default) 0) (AV.lit (Value.int Go.IntKind.u64 2))) (AV.int 127))) ∧
                ((AV.binOk Go.BinOp.add (AV.bin Go.BinOp.and (AV.shf Go.BinOp.shr (AV.at x0 (ys1281.getD 0 default) 0) (AV.lit (Value.int Go.IntKind.u64 2))) (AV.int 127)) (AV.int 1)) ∧
                (∃ r5441 : AV, ((FnU Try.prog 21 9 1 (ys1281.getD 2 default) [(AV.bin Go.BinOp.and (AV.shf Go.BinOp.shr (AV.at x0 (ys1281.getD 0 default) 0) (AV.lit (Value.int Go.IntKind.u64 2))) (AV.int 127)), (AV.bin Go.BinOp.add (AV.bin Go.BinOp.and (AV.shf Go.BinOp.shr (AV.at x0 (ys1281.getD 0 default) 0) (AV.lit (Value.int Go.IntKind.u64 2))) (AV.int 127)) (AV.int 1))] true r5441) ∧
                ((AV.unOk Go.UnOp.not (AV.bin Go.BinOp.lss (AV.bin Go.BinOp.and (AV.shf Go.BinOp.shr (AV.at x0 (ys1281.getD 0 default) 0) (AV.lit (Value.int Go.IntKind.u64 2))) (AV.int 127)) (AV.len (ys1281.getD 1 default)))) ∧
                ((AV.isBool (AV.un Go.UnOp.not (AV.bin Go.BinOp.lss (AV.bin Go.BinOp.and (AV.shf Go.BinOp.shr (AV.at x0 (ys1281.getD 0 default) 0) (AV.lit (Value.int Go.IntKind.u64 2))) (AV.int 127)) (AV.len (ys1281.getD 1 default))))) ∧
                ((isF (AV.un Go.UnOp.not (AV.bin Go.BinOp.lss (AV.bin Go.BinOp.and (AV.shf Go.BinOp.shr (AV.at x0 (ys1281.getD 0 default) 0) (AV.lit (Value.int Go.IntKind.u64 2))) (AV.int 127)) (AV.len (ys1281.getD 1 default))))) ∧
                ((AV.binOk Go.BinOp.eql (AV.bin Go.BinOp.and (AV.at x0 (ys1281.getD 0 default) 0) (AV.int 3)) (AV.int 1)) ∧
                ((AV.isBool (AV.bin Go.BinOp.eql (AV.bin Go.BinOp.and (AV.at x0 (ys1281.getD 0 default) 0) (AV.int 3)) (AV.int 1))) ∧
                ((isF (AV.bin Go.BinOp.eql (AV.bin Go.BinOp.and (AV.at x0 (ys1281.getD 0 default) 0) (AV.int 3)) (AV.int 1))) ∧
                ((AV.isBool (AV.bin Go.BinOp.eql (AV.bin Go.BinOp.and (AV.at x0 (ys1281.getD 0 default) 0) (AV.int 3)) (AV.int 1))) ∧
                ((isF (AV.bin Go.BinOp.eql (AV.bin Go.BinOp.and (AV.at x0 (ys1281.getD 0 default) 0) (AV.int 3)) (AV.int 1))) ∧
                ((AV.isSl (ys1281.getD 1 default) 1) ∧
                ((AV.subOk (ys1281.getD 1 default) (AV.int 0) (AV.bin Go.BinOp.and (AV.shf Go.BinOp.shr (AV.at x0 (ys1281.getD 0 default) 0) (AV.lit (Value.int Go.IntKind.u64 2))) (AV.int 127))) ∧
                (∃ r7745 : AV, ((Fn Try.prog 10 [(AV.sub 1 (ys1281.getD 1 default) (AV.int 0) (AV.bin Go.BinOp.and (AV.shf Go.BinOp.shr (AV.at x0 (ys1281.getD 0 default) 0) (AV.lit (Value.int Go.IntKind.u64 2))) (AV.int 127)))] (Sh.row 9 1 true) r7745) ∧
                ((AV.binOk Go.BinOp.add (AV.bin Go.BinOp.and (AV.shf Go.BinOp.shr (AV.at x0 (ys1281.getD 0 default) 0) (AV.lit (Value.int Go.IntKind.u64 2))) (AV.int 127)) (AV.int 1)) ∧
                ((AV.isSl (ys1281.getD 1 default) 1) ∧
                ((AV.subOk (ys1281.getD 1 default) (AV.bin Go.BinOp.add (AV.bin Go.BinOp.and (AV.shf Go.BinOp.shr (AV.at x0 (ys1281.getD 0 default) 0) (AV.lit (Value.int Go.IntKind.u64 2))) (AV.int 127)) (AV.int 1)) (AV.len (ys1281.getD 1 default))) ∧
                ((AV.isSl (AV.sub 1 (ys1281.getD 1 default) (AV.bin Go.BinOp.add (AV.bin Go.BinOp.and (AV.shf Go.BinOp.shr (AV.at x0 (ys1281.getD 0 default) 0) (AV.lit (Value.int Go.IntKind.u64 2))) (AV.int 127)) (AV.int 1)) (AV.len (ys1281.getD 1 default))) 1) ∧
                ((AV.room r7745 (AV.sub 1 (ys1281.getD 1 default) (AV.bin Go.BinOp.add (AV.bin Go.BinOp.and (AV.shf Go.BinOp.shr (AV.at x0 (ys1281.getD 0 default) 0) (AV.lit (Value.int Go.IntKind.u64 2))) (AV.int 127)) (AV.int 1)) (AV.len (ys1281.getD 1 default))) 16) ∧
                ((fEnt Try.prog 12) ∧
                (fAllV fun _ => ((AV.binOk Go.BinOp.neq (AV.len r5441) (AV.len (AV.app 1 r7745 (AV.sub 1 (ys1281.getD 1 default) (AV.bin Go.BinOp.add (AV.bin Go.BinOp.and (AV.shf Go.BinOp.shr (AV.at x0 (ys1281.getD 0 default) 0) (AV.lit (Value.int Go.IntKind.u64 2))) (AV.int 127)) (AV.int 1)) (AV.len (ys1281.getD 1 default)))))) ∧
                ((AV.isBool (AV.bin Go.BinOp.neq (AV.len r5441) (AV.len (AV.app 1 r7745 (AV.sub 1 (ys1281.getD 1 default) (AV.bin Go.BinOp.add (AV.bin Go.BinOp.and (AV.shf Go.BinOp.shr (AV.at x0 (ys1281.getD 0 default) 0) (AV.lit (Value.int Go.IntKind.u64 2))) (AV.int 127)) (AV.int 1)) (AV.len (ys1281.getD 1 default))))))) ∧
                ((isF (AV.bin Go.BinOp.neq (AV.len r5441) (AV.len (AV.app 1 r7745 (AV.sub 1 (ys1281.getD 1 default) (AV.bin Go.BinOp.add (AV.bin Go.BinOp.and (AV.shf Go.BinOp.shr (AV.at x0 (ys1281.getD 0 default) 0) (AV.lit (Value.int Go.IntKind.u64 2))) (AV.int 127)) (AV.int 1)) (AV.len (ys1281.getD 1 default))))))) ∧
                ((AV.binOk Go.BinOp.add (ys1281.getD 0 default) (AV.int 1)) ∧
                (again1281 [(AV.bin Go.BinOp.add (ys1281.getD 0 default) (AV.int 1)), (AV.app 1 r7745 (AV.sub 1 (ys1281.getD 1 default) (AV.bin Go.BinOp.add (AV.bin Go.BinOp.and (AV.shf Go.BinOp.shr (AV.at x0 (ys1281.getD 0 default) 0) (AV.lit (Value.int Go.IntKind.u64 2))) (AV.int 127)) (AV.int 1)) (AV.len (ys1281.getD 1 default)))), r5441]))))))))))))))))))))))))))))))))))))))))))))))) ∧
          ((isF (AV.bin Go.BinOp.eql (AV.bin Go.BinOp.and (AV.at x0 (ys1281.getD 0 default) 0) (AV.int 3)) (AV.int 2))) →
            ((AV.unOk Go.UnOp.not (AV.bin Go.BinOp.lss (AV.bin Go.BinOp.and (AV.shf Go.BinOp.shr (AV.at x0 (ys1281.getD 0 default) 0) (AV.lit (Value.int Go.IntKind.u64 2))) (AV.int 127)) (AV.len (ys1281.getD 1 default)))) ∧
            ((AV.isBool (AV.un Go.UnOp.not (AV.bin Go.BinOp.lss (AV.bin Go.BinOp.and (AV.shf Go.BinOp.shr (AV.at x0 (ys1281.getD 0 default) 0) (AV.lit (Value.int Go.IntKind.u64 2))) (AV.int 127)) (AV.len (ys1281.getD 1 default))))) ∧
            (((isT (AV.un Go.UnOp.not (AV.bin Go.BinOp.lss (AV.bin Go.BinOp.and (AV.shf Go.BinOp.shr (AV.at x0 (ys1281.getD 0 default) 0) (AV.lit (Value.int Go.IntKind.u64 2))) (AV.int 127)) (AV.len (ys1281.getD 1 default))))) →
              ((fEnt Try.prog 11) ∧
              (fAllV fun _ => ((AV.binOk Go.BinOp.lss (AV.bin Go.BinOp.and (AV.shf Go.BinOp.shr (AV.at x0 (ys1281.getD 0 default) 0) (AV.lit (Value.int Go.IntKind.u64 2))) (AV.int 127)) (AV.int 0)) ∧
              ((AV.isBool (AV.bin Go.BinOp.lss (AV.bin Go.BinOp.and (AV.shf Go.BinOp.shr (AV.at x0 (ys1281.getD 0 default) 0) (AV.lit (Value.int Go.IntKind.u64 2))) (AV.int 127)) (AV.int 0))) ∧
              (((isT (AV.bin Go.BinOp.lss (AV.bin Go.BinOp.and (AV.shf Go.BinOp.shr (AV.at x0 (ys1281.getD 0 default) 0) (AV.lit (Value.int Go.IntKind.u64 2))) (AV.int 127)) (AV.int 0))) →
                ((AV.isBool (AV.bin Go.BinOp.lss (AV.bin Go.BinOp.and (AV.shf Go.BinOp.shr (AV.at x0 (ys1281.getD 0 default) 0) (AV.lit (Value.int Go.IntKind.u64 2))) (AV.int 127)) (AV.int 0))) ∧
                ((isT (AV.bin Go.BinOp.lss (AV.bin Go.BinOp.and (AV.shf Go.BinOp.shr (AV.at x0 (ys1281.getD 0 default) 0) (AV.lit (Value.int Go.IntKind.u64 2))) (AV.int 127)) (AV.int 0))) ∧
                ((fEnt Try.prog 12) ∧
                (fAllV fun _ => ((AV.binOk Go.BinOp.neq (AV.len (ys1281.getD 2 default)) (AV.len (ys1281.getD 1 default))) ∧
                ((AV.isBool (AV.bin Go.BinOp.neq (AV.len (ys1281.getD 2 default)) (AV.len (ys1281.getD 1 default)))) ∧
                ((isF (AV.bin Go.BinOp.neq (AV.len (ys1281.getD 2 default)) (AV.len (ys1281.getD 1 default)))) ∧
                ((AV.binOk Go.BinOp.add (ys1281.getD 0 default) (AV.int 1)) ∧
                (again1281 [(AV.bin Go.BinOp.add (ys1281.getD 0 default) (AV.int 1)), (ys1281.getD 1 default), (ys1281.getD 2 default)])))))))))) ∧
              ((isF (AV.bin Go.BinOp.lss (AV.bin Go.BinOp.and (AV.shf Go.BinOp.shr (AV.at x0 (ys1281.getD 0 default) 0) (AV.lit (Value.int Go.IntKind.u64 2))) (AV.int 127)) (AV.int 0))) →
                ((AV.binOk Go.BinOp.geq (AV.bin Go.BinOp.and (AV.shf Go.BinOp.shr (AV.at x0 (ys1281.getD 0 default) 0) (AV.lit (Value.int Go.IntKind.u64 2))) (AV.int 127)) (AV.len (ys1281.getD 2 default))) ∧
                ((AV.isBool (AV.bin Go.BinOp.lss (AV.bin Go.BinOp.and (AV.shf Go.BinOp.shr (AV.at x0 (ys1281.getD 0 default) 0) (AV.lit (Value.int Go.IntKind.u64 2))) (AV.int 127)) (AV.int 0))) ∧
                ((isF (AV.bin Go.BinOp.lss (AV.bin Go.BinOp.and (AV.shf Go.BinOp.shr (AV.at x0 (ys1281.getD 0 default) 0) (AV.lit (Value.int Go.IntKind.u64 2))) (AV.int 127)) (AV.int 0))) ∧
                ((AV.isBool (AV.bin Go.BinOp.geq (AV.bin Go.BinOp.and (AV.shf Go.BinOp.shr (AV.at x0 (ys1281.getD 0 default) 0) (AV.lit (Value.int Go.IntKind.u64 2))) (AV.int 127)) (AV.len (ys1281.getD 2 default)))) ∧
                ((isT (AV.bin Go.BinOp.geq (AV.bin Go.BinOp.and (AV.shf Go.BinOp.shr (AV.at x0 (ys1281.getD 0 default) 0) (AV.lit (Value.int Go.IntKind.u64 2))) (AV.int 127)) (AV.len (ys1281.getD 2 default)))) ∧
                ((fEnt Try.prog 12) ∧
                (fAllV fun _ => ((AV.binOk Go.BinOp.neq (AV.len (ys1281.getD 2 default)) (AV.len (ys1281.getD 1 default))) ∧
                ((AV.isBool (AV.bin Go.BinOp.neq (AV.len (ys1281.getD 2 default)) (AV.len (ys1281.getD 1 default)))) ∧
                ((isF (AV.bin Go.BinOp.neq (AV.len (ys1281.getD 2 default)) (AV.len (ys1281.getD 1 default)))) ∧
                ((AV.binOk Go.BinOp.add (ys1281.getD 0 default) (AV.int 1)) ∧
                (again1281 [(AV.bin Go.BinOp.add (ys1281.getD 0 default) (AV.int 1)), (ys1281.getD 1 default), (ys1281.getD 2 default)]))))))))))))))))))) ∧
            ((isF (AV.un Go.UnOp.not (AV.bin Go.BinOp.lss (AV.bin Go.BinOp.and (AV.shf Go.BinOp.shr (AV.at x0 (ys1281.getD 0 default) 0) (AV.lit (Value.int Go.IntKind.u64 2))) (AV.int 127)) (AV.len (ys1281.getD 1 default))))) →
              ((AV.binOk Go.BinOp.eql (AV.len (ys1281.getD 1 default)) (AV.int 64)) ∧
              ((AV.isBool (AV.bin Go.BinOp.eql (AV.len (ys1281.getD 1 default)) (AV.int 64))) ∧
              (((isT (AV.bin Go.BinOp.eql (AV.len (ys1281.getD 1 default)) (AV.int 64))) →
                ((fEnt Try.prog 11) ∧
                (fAllV fun _ => ((AV.binOk Go.BinOp.lss (AV.bin Go.BinOp.and (AV.shf Go.BinOp.shr (AV.at x0 (ys1281.getD 0 default) 0) (AV.lit (Value.int Go.IntKind.u64 2))) (AV.int 127)) (AV.int 0)) ∧
                ((AV.isBool (AV.bin Go.BinOp.lss (AV.bin Go.BinOp.and (AV.shf Go.BinOp.shr (AV.at x0 (ys1281.getD 0 default) 0) (AV.lit (Value.int Go.IntKind.u64 2))) (AV.int 127)) (AV.int 0))) ∧
                ((isF (AV.bin Go.BinOp.lss (AV.bin Go.BinOp.and (AV.shf Go.BinOp.shr (AV.at x0 (ys1281.getD 0 default) 0) (AV.lit (Value.int Go.IntKind.u64 2))) (AV.int 127)) (AV.int 0))) ∧
                ((AV.binOk Go.BinOp.geq (AV.bin Go.BinOp.and (AV.shf Go.BinOp.shr (AV.at x0 (ys1281.getD 0 default) 0) (AV.lit (Value.int Go.IntKind.u64 2))) (AV.int 127)) (AV.len (ys1281.getD 2 default))) ∧
                ((AV.isBool (AV.bin Go.BinOp.lss (AV.bin Go.BinOp.and (AV.shf Go.BinOp.shr (AV.at x0 (ys1281.getD 0 default) 0) (AV.lit (Value.int Go.IntKind.u64 2))) (AV.int 127)) (AV.int 0))) ∧
                ((isF (AV.bin Go.BinOp.lss (AV.bin Go.BinOp.and (AV.shf Go.BinOp.shr (AV.at x0 (ys1281.getD 0 default) 0) (AV.lit (Value.int Go.IntKind.u64 2))) (AV.int 127)) (AV.int 0))) ∧
                ((AV.isBool (AV.bin Go.BinOp.geq (AV.bin Go.BinOp.and (AV.shf Go.BinOp.shr (AV.at x0 (ys1281.getD 0 default) 0) (AV.lit (Value.int Go.IntKind.u64 2))) (AV.int 127)) (AV.len (ys1281.getD 2 default)))) ∧
                ((isF (AV.bin Go.BinOp.geq (AV.bin Go.BinOp.and (AV.shf Go.BinOp.shr (AV.at x0 (ys1281.getD 0 default) 0) (AV.lit (Value.int Go.IntKind.u64 2))) (AV.int 127)) (AV.len (ys1281.getD 2 default)))) ∧
                ((AV.inb (ys1281.getD 2 default) (AV.bin Go.BinOp.and (AV.shf Go.BinOp.shr (AV.at x0 (ys1281.getD 0 default) 0) (AV.lit (Value.int Go.IntKind.u64 2))) (AV.int 127))) ∧
                ((AV.inb (ys1281.getD 2 default) (AV.bin Go.BinOp.and (AV.shf Go.BinOp.shr (AV.at x0 (ys1281.getD 0 default) 0) (AV.lit (Value.int Go.IntKind.u64 2))) (AV.int 127))) ∧
                ((fEnt Try.prog 7) ∧
                (fAllV fun _ => ((AV.isStr (AV.at (ys1281.getD 2 default) (AV.bin Go.BinOp.and (AV.shf Go.BinOp.shr (AV.at x0 (ys1281.getD 0 default) 0) (AV.lit (Value.int Go.IntKind.u64 2))) (AV.int 127)) 0)) ∧
                ((AV.binOk Go.BinOp.gtr (AV.slen (AV.at (ys1281.getD 2 default) (AV.bin Go.BinOp.and (AV.shf Go.BinOp.shr (AV.at x0 (ys1281.getD 0 default) 0) (AV.lit (Value.int Go.IntKind.u64 2))) (AV.int 127)) 0)) (AV.int 120)) ∧
                ((AV.isBool (AV.bin Go.BinOp.gtr (AV.slen (AV.at (ys1281.getD 2 default) (AV.bin Go.BinOp.and (AV.shf Go.BinOp.shr (AV.at x0 (ys1281.getD 0 default) 0) (AV.lit (Value.int Go.IntKind.u64 2))) (AV.int 127)) 0)) (AV.int 120))) ∧
                ((isF (AV.bin Go.BinOp.gtr (AV.slen (AV.at (ys1281.getD 2 default) (AV.bin Go.BinOp.and (AV.shf Go.BinOp.shr (AV.at x0 (ys1281.getD 0 default) 0) (AV.lit (Value.int Go.IntKind.u64 2))) (AV.int 127)) 0)) (AV.int 120))) ∧
                ((AV.binOk Go.BinOp.eql (AV.len (ys1281.getD 2 default)) (AV.int 64)) ∧
                ((AV.isBool (AV.bin Go.BinOp.eql (AV.len (ys1281.getD 2 default)) (AV.int 64))) ∧
                ((isT (AV.bin Go.BinOp.eql (AV.len (ys1281.getD 2 default)) (AV.int 64))) ∧
                ((fEnt Try.prog 12) ∧
                (fAllV fun _ => ((AV.binOk Go.BinOp.neq (AV.len (ys1281.getD 2 default)) (AV.len (ys1281.getD 1 default))) ∧
                ((AV.isBool (AV.bin Go.BinOp.neq (AV.len (ys1281.getD 2 default)) (AV.len (ys1281.getD 1 default)))) ∧
                ((isF (AV.bin Go.BinOp.neq (AV.len (ys1281.getD 2 default)) (AV.len (ys1281.getD 1 default)))) ∧
                ((AV.binOk Go.BinOp.add (ys1281.getD 0 default) (AV.int 1)) ∧
                (again1281 [(AV.bin Go.BinOp.add (ys1281.getD 0 default) (AV.int 1)), (ys1281.getD 1 default), (ys1281.getD 2 default)]))))))))))))))))))))))))))))) ∧
              ((isF (AV.bin Go.BinOp.eql (AV.len (ys1281.getD 1 default)) (AV.int 64))) →
                ((fEnt Try.prog 11) ∧
                (fAllV fun _ => ((AV.binOk Go.BinOp.lss (AV.bin Go.BinOp.and (AV.shf Go.BinOp.shr (AV.at x0 (ys1281.getD 0 default) 0) (AV.lit (Value.int Go.IntKind.u64 2))) (AV.int 127)) (AV.int 0)) ∧
                ((AV.isBool (AV.bin Go.BinOp.lss (AV.bin Go.BinOp.and (AV.shf Go.BinOp.shr (AV.at x0 (ys1281.getD 0 default) 0) (AV.lit (Value.int Go.IntKind.u64 2))) (AV.int 127)) (AV.int 0))) ∧
                ((isF (AV.bin Go.BinOp.lss (AV.bin Go.BinOp.and (AV.shf Go.BinOp.shr (AV.at x0 (ys1281.getD 0 default) 0) (AV.lit (Value.int Go.IntKind.u64 2))) (AV.int 127)) (AV.int 0))) ∧
                ((AV.binOk Go.BinOp.geq (AV.bin Go.BinOp.and (AV.shf Go.BinOp.shr (AV.at x0 (ys1281.getD 0 default) 0) (AV.lit (Value.int Go.IntKind.u64 2))) (AV.int 127)) (AV.len (ys1281.getD 2 default))) ∧
                ((AV.isBool (AV.bin Go.BinOp.lss (AV.bin Go.BinOp.and (AV.shf Go.BinOp.shr (AV.at x0 (ys1281.getD 0 default) 0) (AV.lit (Value.int Go.IntKind.u64 2))) (AV.int 127)) (AV.int 0))) ∧
                ((isF (AV.bin Go.BinOp.lss (AV.bin Go.BinOp.and (AV.shf Go.BinOp.shr (AV.at x0 (ys1281.getD 0 default) 0) (AV.lit (Value.int Go.IntKind.u64 2))) (AV.int 127)) (AV.int 0))) ∧
                ((AV.isBool (AV.bin Go.BinOp.geq (AV.bin Go.BinOp.and (AV.shf Go.BinOp.shr (AV.at x0 (ys1281.getD 0 default) 0) (AV.lit (Value.int Go.IntKind.u64 2))) (AV.int 127)) (AV.len (ys1281.getD 2 default)))) ∧
                ((isF (AV.bin Go.BinOp.geq (AV.bin Go.BinOp.and (AV.shf Go.BinOp.shr (AV.at x0 (ys1281.getD 0 default) 0) (AV.lit (Value.int Go.IntKind.u64 2))) (AV.int 127)) (AV.len (ys1281.getD 2 default)))) ∧
                ((AV.inb (ys1281.getD 2 default) (AV.bin Go.BinOp.and (AV.shf Go.BinOp.shr (AV.at x0 (ys1281.getD 0 default) 0) (AV.lit (Value.int Go.IntKind.u64 2))) (AV.int 127))) ∧
                ((AV.inb (ys1281.getD 2 default) (AV.bin Go.BinOp.and (AV.shf Go.BinOp.shr (AV.at x0 (ys1281.getD 0 default) 0) (AV.lit (Value.int Go.IntKind.u64 2))) (AV.int 127))) ∧
                ((fEnt Try.prog 7) ∧
                (fAllV fun _ => ((AV.isStr (AV.at (ys1281.getD 2 default) (AV.bin Go.BinOp.and (AV.shf Go.BinOp.shr (AV.at x0 (ys1281.getD 0 default) 0) (AV.lit (Value.int Go.IntKind.u64 2))) (AV.int 127)) 0)) ∧
                ((AV.binOk Go.BinOp.gtr (AV.slen (AV.at (ys1281.getD 2 default) (AV.bin Go.BinOp.and (AV.shf Go.BinOp.shr (AV.at x0 (ys1281.getD 0 default) 0) (AV.lit (Value.int Go.IntKind.u64 2))) (AV.int 127)) 0)) (AV.int 120)) ∧
                ((AV.isBool (AV.bin Go.BinOp.gtr (AV.slen (AV.at (ys1281.getD 2 default) (AV.bin Go.BinOp.and (AV.shf Go.BinOp.shr (AV.at x0 (ys1281.getD 0 default) 0) (AV.lit (Value.int Go.IntKind.u64 2))) (AV.int 127)) 0)) (AV.int 120))) ∧
                ((isF (AV.bin Go.BinOp.gtr (AV.slen (AV.at (ys1281.getD 2 default) (AV.bin Go.BinOp.and (AV.shf Go.BinOp.shr (AV.at x0 (ys1281.getD 0 default) 0) (AV.lit (Value.int Go.IntKind.u64 2))) (AV.int 127)) 0)) (AV.int 120))) ∧
                ((AV.binOk Go.BinOp.eql (AV.len (ys1281.getD 2 default)) (AV.int 64)) ∧
                ((AV.isBool (AV.bin Go.BinOp.eql (AV.len (ys1281.getD 2 default)) (AV.int 64))) ∧
                ((isF (AV.bin Go.BinOp.eql (AV.len (ys1281.getD 2 default)) (AV.int 64))) ∧
                ((AV.isOne (AV.at (ys1281.getD 2 default) (AV.bin Go.BinOp.and (AV.shf Go.BinOp.shr (AV.at x0 (ys1281.getD 0 default) 0) (AV.lit (Value.int Go.IntKind.u64 2))) (AV.int 127)) 0)) ∧
                ((AV.room (ys1281.getD 2 default) (AV.mk 1 [[(AV.at (ys1281.getD 2 default) (AV.bin Go.BinOp.and (AV.shf Go.BinOp.shr (AV.at x0 (ys1281.getD 0 default) 0) (AV.lit (Value.int Go.IntKind.u64 2))) (AV.int 127)) 0)]]) 16) ∧
                ((AV.inb (ys1281.getD 1 default) (AV.bin Go.BinOp.and (AV.shf Go.BinOp.shr (AV.at x0 (ys1281.getD 0 default) 0) (AV.lit (Value.int Go.IntKind.u64 2))) (AV.int 127))) ∧
                ((AV.inb (ys1281.getD 1 default) (AV.bin Go.BinOp.and (AV.shf Go.BinOp.shr (AV.at x0 (ys1281.getD 0 default) 0) (AV.lit (Value.int Go.IntKind.u64 2))) (AV.int 127))) ∧
                ((AV.isOne (AV.at (ys1281.getD 1 default) (AV.bin Go.BinOp.and (AV.shf Go.BinOp.shr (AV.at x0 (ys1281.getD 0 default) 0) (AV.lit (Value.int Go.IntKind.u64 2))) (AV.int 127)) 0)) ∧
                ((AV.room (ys1281.getD 1 default) (AV.mk 1 [[(AV.at (ys1281.getD 1 default) (AV.bin Go.BinOp.and (AV.shf Go.BinOp.shr (AV.at x0 (ys1281.getD 0 default) 0) (AV.lit (Value.int Go.IntKind.u64 2))) (AV.int 127)) 0)]]) 16) ∧
                ((fEnt Try.prog 12) ∧
                (fAllV fun _ => ((AV.binOk Go.BinOp.neq (AV.len (AV.app 1 (ys1281.getD 2 default) (AV.mk 1 [[(AV.at (ys1281.getD 2 default) (AV.bin Go.BinOp.and (AV.shf Go.BinOp.shr (AV.at x0 (ys1281.getD 0 default) 0) (AV.lit (Value.int Go.IntKind.u64 2))) (AV.int 127)) 0)]]))) (AV.len (AV.app 1 (ys1281.getD 1 default) (AV.mk 1 [[(AV.at (ys1281.getD 1 default) (AV.bin Go.BinOp.and (AV.shf Go.BinOp.shr (AV.at x0 (ys1281.getD 0 default) 0) (AV.lit (Value.int Go.IntKind.u64 2))) (AV.int 127)) 0)]])))) ∧
                ((AV.isBool (AV.bin Go.BinOp.neq (AV.len (AV.app 1 (ys1281.getD 2 default) (AV.mk 1 [[(AV.at (ys1281.getD 2 default) (AV.bin Go.BinOp.and (AV.shf Go.BinOp.shr (AV.at x0 (ys1281.getD 0 default) 0) (AV.lit (Value.int Go.IntKind.u64 2))) (AV.int 127)) 0)]]))) (AV.len (AV.app 1 (ys1281.getD 1 default) (AV.mk 1 [[(AV.at (ys1281.getD 1 default) (AV.bin Go.BinOp.and (AV.shf Go.BinOp.shr (AV.at x0 (ys1281.getD 0 default) 0) (AV.lit (Value.int Go.IntKind.u64 2))) (AV.int 127)) 0)]]))))) ∧
                ((isF (AV.bin Go.BinOp.neq (AV.len (AV.app 1 (ys1281.getD 2 default) (AV.mk 1 [[(AV.at (ys1281.getD 2 default) (AV.bin Go.BinOp.and (AV.shf Go.BinOp.shr (AV.at x0 (ys1281.getD 0 default) 0) (AV.lit (Value.int Go.IntKind.u64 2))) (AV.int 127)) 0)]]))) (AV.len (AV.app 1 (ys1281.getD 1 default) (AV.mk 1 [[(AV.at (ys1281.getD 1 default) (AV.bin Go.BinOp.and (AV.shf Go.BinOp.shr (AV.at x0 (ys1281.getD 0 default) 0) (AV.lit (Value.int Go.IntKind.u64 2))) (AV.int 127)) 0)]]))))) ∧
                ((AV.binOk Go.BinOp.add (ys1281.getD 0 default) (AV.int 1)) ∧
                (again1281 [(AV.bin Go.BinOp.add (ys1281.getD 0 default) (AV.int 1)), (AV.app 1 (ys1281.getD 1 default) (AV.mk 1 [[(AV.at (ys1281.getD 1 default) (AV.bin Go.BinOp.and (AV.shf Go.BinOp.shr (AV.at x0 (ys1281.getD 0 default) 0) (AV.lit (Value.int Go.IntKind.u64 2))) (AV.int 127)) 0)]])), (AV.app 1 (ys1281.getD 2 default) (AV.mk 1 [[(AV.at (ys1281.getD 2 default) (AV.bin Go.BinOp.and (AV.shf Go.BinOp.shr (AV.at x0 (ys1281.getD 0 default) 0) (AV.lit (Value.int Go.IntKind.u64 2))) (AV.int 127)) 0)]]))]))))))))))))))))))))))))))))))))))))))))))))))))))))))))))))) ∧
    ((isF (AV.bin Go.BinOp.lss (ys1281.getD 0 default) (AV.len x0))) →
      ((AV.flat (AV.bool true)) ∧
      (fSame (AV.bool true) r))))))))))))))))))))) := by kernel_rfl
end LinkG
end Go.Proofs.Ythihgkgfdmkmhaa
