/- owner's laws: what the run ends in. -/
import Derived.Test.YtkkcmapfedlkpaaOwnerF
namespace Go.Proofs.Ytkkcmapfedlkpaa
open Go.RowKit
set_option linter.unusedVariables false
set_option maxRecDepth 100000
namespace OwnerG
--GAMMA
def Γ : FuncId → Option Ca := fun f =>
  if f = 25 ∨ f = 11 ∨ f = 8 ∨ f = 9 ∨ f = 18 ∨ f = 22 ∨ f = 21 ∨ f = 7 ∨ f = 24 then some (.fn .sc)
  else if f = 26 ∨ f = 19 then some (.fn (.tup [.sc, .sc]))
  else if f = 28 ∨ f = 34 then some (.fn (.row 34 3 true))
  else if f = 20 then some (.fn (.tup [.row 9 1 true, .sc]))
  else if f = 12 ∨ f = 13 ∨ f = 14 ∨ f = 15 ∨ f = 16 ∨ f = 23 ∨ f = 17 then some (.fn (.tup [.row 34 3 true, .sc]))
  else if f = 27 ∨ f = 39 then some (.upd true)
  else some .inl
def ann : FuncId → Nat → LoopEx := fun f _ => if f = 23 then ⟨[], [1665], []⟩ else ⟨[], [], []⟩
--END GAMMA
theorem fact_form ( r : AV) : fnF Try.prog Γ ann 2 7 Try.f7 (Try.f7.body.getD .skip) ((.t (.t (.t (.t (.t (.t (.t (.t (.t (.t (.t (.t (.t (.t (.t (.t .nil))))))))))))))))) [] (.sc) r = ((∃ r65 : AV, ((Fn Try.prog 12 [(AV.lit (Value.slice none 0 0)), (AV.lit (Value.string ⟨#[65, 49]⟩)), (AV.lit (Value.string ⟨#[69, 65, 83, 84]⟩))] (Sh.tup [(Sh.row 34 3 true), Sh.sc]) r65) ∧
(∃ r513 : AV, ((Fn Try.prog 14 [(AV.prj r65 0), (AV.lit (Value.string ⟨#[65, 49]⟩)), (AV.lit (Value.string ⟨#[69, 65, 83, 84]⟩)), (AV.lit (Value.string ⟨#[87, 69, 83, 84]⟩))] (Sh.tup [(Sh.row 34 3 true), Sh.sc]) r513) ∧
(∃ r961 : AV, ((Fn Try.prog 15 [(AV.prj r513 0), (AV.lit (Value.string ⟨#[65, 49]⟩)), (AV.lit (Value.string ⟨#[87, 69, 83, 84]⟩))] (Sh.tup [(Sh.row 34 3 true), Sh.sc]) r961) ∧
(∃ r1409 : AV, ((Fn Try.prog 16 [(AV.prj r513 0), (AV.lit (Value.string ⟨#[65, 49]⟩)), (AV.lit (Value.string ⟨#[87, 69, 83, 84]⟩))] (Sh.tup [(Sh.row 34 3 true), Sh.sc]) r1409) ∧
(∃ r1857 : AV, ((Fn Try.prog 19 [(AV.prj r961 0), (AV.lit (Value.string ⟨#[65, 49]⟩))] (Sh.tup [Sh.sc, Sh.sc]) r1857) ∧
(∃ r2305 : AV, ((Fn Try.prog 20 [(AV.prj r961 0), (AV.lit (Value.string ⟨#[87, 69, 83, 84]⟩))] (Sh.tup [(Sh.row 9 1 true), Sh.sc]) r2305) ∧
(∃ r2753 : AV, ((Fn Try.prog 23 [(AV.prj r513 0), (AV.lit (Value.string ⟨#[87, 69, 83, 84]⟩)), (AV.lit (Value.string ⟨#[69, 65, 83, 84]⟩))] (Sh.tup [(Sh.row 34 3 true), Sh.sc]) r2753) ∧
(∃ r3201 : AV, ((Fn Try.prog 13 [(AV.prj r961 0), (AV.lit (Value.string ⟨#[65, 49]⟩)), (AV.lit (Value.string ⟨#[87, 69, 83, 84]⟩))] (Sh.tup [(Sh.row 34 3 true), Sh.sc]) r3201) ∧
(∃ r3649 : AV, ((Fn Try.prog 13 [(AV.prj r961 0), (AV.lit (Value.string ⟨#[65, 49]⟩)), (AV.lit (Value.string ⟨#[69, 65, 83, 84]⟩))] (Sh.tup [(Sh.row 34 3 true), Sh.sc]) r3649) ∧
((AV.binOk Go.BinOp.eql (AV.prj r65 1) (AV.int 0)) ∧
((AV.isBool (AV.bin Go.BinOp.eql (AV.prj r65 1) (AV.int 0))) ∧
((isT (AV.bin Go.BinOp.eql (AV.prj r65 1) (AV.int 0))) ∧
((AV.binOk Go.BinOp.eql (AV.prj r513 1) (AV.int 0)) ∧
((AV.isBool (AV.bin Go.BinOp.eql (AV.prj r65 1) (AV.int 0))) ∧
((isT (AV.bin Go.BinOp.eql (AV.prj r65 1) (AV.int 0))) ∧
((AV.isBool (AV.bin Go.BinOp.eql (AV.prj r513 1) (AV.int 0))) ∧
((isT (AV.bin Go.BinOp.eql (AV.prj r513 1) (AV.int 0))) ∧
((AV.binOk Go.BinOp.eql (AV.prj r961 1) (AV.int 0)) ∧
((AV.isBool (AV.bin Go.BinOp.eql (AV.prj r513 1) (AV.int 0))) ∧
((isT (AV.bin Go.BinOp.eql (AV.prj r513 1) (AV.int 0))) ∧
((AV.isBool (AV.bin Go.BinOp.eql (AV.prj r961 1) (AV.int 0))) ∧
((isT (AV.bin Go.BinOp.eql (AV.prj r961 1) (AV.int 0))) ∧
((AV.binOk Go.BinOp.eql (AV.prj r1409 1) (AV.int 0)) ∧
((AV.isBool (AV.bin Go.BinOp.eql (AV.prj r961 1) (AV.int 0))) ∧
((isT (AV.bin Go.BinOp.eql (AV.prj r961 1) (AV.int 0))) ∧
((AV.isBool (AV.bin Go.BinOp.eql (AV.prj r1409 1) (AV.int 0))) ∧
((isT (AV.bin Go.BinOp.eql (AV.prj r1409 1) (AV.int 0))) ∧
((AV.binOk Go.BinOp.eql (AV.prj r1857 1) (AV.int 0)) ∧
((AV.isBool (AV.bin Go.BinOp.eql (AV.prj r1409 1) (AV.int 0))) ∧
((isT (AV.bin Go.BinOp.eql (AV.prj r1409 1) (AV.int 0))) ∧
((AV.isBool (AV.bin Go.BinOp.eql (AV.prj r1857 1) (AV.int 0))) ∧
((isT (AV.bin Go.BinOp.eql (AV.prj r1857 1) (AV.int 0))) ∧
((AV.binOk Go.BinOp.eql (AV.prj r2305 1) (AV.int 0)) ∧
((AV.isBool (AV.bin Go.BinOp.eql (AV.prj r1857 1) (AV.int 0))) ∧
((isT (AV.bin Go.BinOp.eql (AV.prj r1857 1) (AV.int 0))) ∧
((AV.isBool (AV.bin Go.BinOp.eql (AV.prj r2305 1) (AV.int 0))) ∧
((isT (AV.bin Go.BinOp.eql (AV.prj r2305 1) (AV.int 0))) ∧
((AV.binOk Go.BinOp.eql (AV.prj r2753 1) (AV.int 0)) ∧
((AV.isBool (AV.bin Go.BinOp.eql (AV.prj r2305 1) (AV.int 0))) ∧
((isT (AV.bin Go.BinOp.eql (AV.prj r2305 1) (AV.int 0))) ∧
((AV.isBool (AV.bin Go.BinOp.eql (AV.prj r2753 1) (AV.int 0))) ∧
((isT (AV.bin Go.BinOp.eql (AV.prj r2753 1) (AV.int 0))) ∧
((AV.binOk Go.BinOp.eql (AV.prj r3201 1) (AV.int 0)) ∧
((AV.isBool (AV.bin Go.BinOp.eql (AV.prj r2753 1) (AV.int 0))) ∧
((isT (AV.bin Go.BinOp.eql (AV.prj r2753 1) (AV.int 0))) ∧
((AV.isBool (AV.bin Go.BinOp.eql (AV.prj r3201 1) (AV.int 0))) ∧
((isT (AV.bin Go.BinOp.eql (AV.prj r3201 1) (AV.int 0))) ∧
((AV.binOk Go.BinOp.eql (AV.prj r3649 1) (AV.int 16)) ∧
((AV.isBool (AV.bin Go.BinOp.eql (AV.prj r3201 1) (AV.int 0))) ∧
((isT (AV.bin Go.BinOp.eql (AV.prj r3201 1) (AV.int 0))) ∧
((AV.isBool (AV.bin Go.BinOp.eql (AV.prj r3649 1) (AV.int 16))) ∧
((isT (AV.bin Go.BinOp.eql (AV.prj r3649 1) (AV.int 16))) ∧
((AV.binOk Go.BinOp.eql (AV.prj r1857 0) (AV.lit (Value.string ⟨#[87, 69, 83, 84]⟩))) ∧
((AV.isBool (AV.bin Go.BinOp.eql (AV.prj r3649 1) (AV.int 16))) ∧
((isT (AV.bin Go.BinOp.eql (AV.prj r3649 1) (AV.int 16))) ∧
((AV.isBool (AV.bin Go.BinOp.eql (AV.prj r1857 0) (AV.lit (Value.string ⟨#[87, 69, 83, 84]⟩)))) ∧
((isT (AV.bin Go.BinOp.eql (AV.prj r1857 0) (AV.lit (Value.string ⟨#[87, 69, 83, 84]⟩)))) ∧
(∃ r6657 : AV, ((Fn Try.prog 22 [(AV.prj r2305 0), (AV.mk 1 [[(AV.lit (Value.string ⟨#[65, 49]⟩))]])] Sh.sc r6657) ∧
((AV.isBool (AV.bin Go.BinOp.eql (AV.prj r1857 0) (AV.lit (Value.string ⟨#[87, 69, 83, 84]⟩)))) ∧
((isT (AV.bin Go.BinOp.eql (AV.prj r1857 0) (AV.lit (Value.string ⟨#[87, 69, 83, 84]⟩)))) ∧
((AV.isBool r6657) ∧
((isT r6657) ∧
(∃ r6977 : AV, ((Fn Try.prog 18 [(AV.prj r65 0), (AV.prj r1409 0)] Sh.sc r6977) ∧
((AV.isBool r6657) ∧
((isT r6657) ∧
((AV.isBool r6977) ∧
((isT r6977) ∧
(∃ r7297 : AV, ((Fn Try.prog 18 [(AV.prj r65 0), (AV.prj r2753 0)] Sh.sc r7297) ∧
((AV.isBool r6977) ∧
((isT r6977) ∧
((AV.isBool r7297) ∧
((isT r7297) ∧
((AV.binOk Go.BinOp.eql (AV.len (AV.prj r65 0)) (AV.int 1)) ∧
((AV.isBool r7297) ∧
((isT r7297) ∧
((AV.isBool (AV.bin Go.BinOp.eql (AV.len (AV.prj r65 0)) (AV.int 1))) ∧
((isT (AV.bin Go.BinOp.eql (AV.len (AV.prj r65 0)) (AV.int 1))) ∧
((AV.binOk Go.BinOp.eql (AV.len (AV.prj r3201 0)) (AV.int 0)) ∧
((AV.isBool (AV.bin Go.BinOp.eql (AV.len (AV.prj r65 0)) (AV.int 1))) ∧
((isT (AV.bin Go.BinOp.eql (AV.len (AV.prj r65 0)) (AV.int 1))) ∧
((AV.isBool (AV.bin Go.BinOp.eql (AV.len (AV.prj r3201 0)) (AV.int 0))) ∧
((isT (AV.bin Go.BinOp.eql (AV.len (AV.prj r3201 0)) (AV.int 0))) ∧
((fEnt Try.prog 10) ∧
(fAllV fun _ => (∃ r8321 : AV, ((Fn Try.prog 25 [(AV.lit (Value.string ⟨#[65, 49]⟩))] Sh.sc r8321) ∧
((AV.isBool (AV.bin Go.BinOp.eql (AV.len (AV.prj r3201 0)) (AV.int 0))) ∧
((isT (AV.bin Go.BinOp.eql (AV.len (AV.prj r3201 0)) (AV.int 0))) ∧
((AV.isBool r8321) ∧
((isT r8321) ∧
((AV.room (AV.prj r65 0) (AV.prj r65 0) 48) ∧
(∃ r8833 : AV, ((Fn Try.prog 8 [(AV.app 3 (AV.prj r65 0) (AV.prj r65 0))] Sh.sc r8833) ∧
((AV.binOk Go.BinOp.eql r8833 (AV.int 7)) ∧
((AV.isBool r8321) ∧
((isT r8321) ∧
((AV.flat (AV.bin Go.BinOp.eql r8833 (AV.int 7))) ∧
(fSame (AV.bin Go.BinOp.eql r8833 (AV.int 7)) r))))))))))))))))))))))))))))))))))))))))))))))))))))))))))))))))))))))))))))))))))))))))))))))))))))))))))))))) := by kernel_rfl
theorem checks_form (x0 x1 r : AV) : fnF Try.prog Γ ann 2 3 Try.f3 (Try.f3.body.getD .skip) ((.t (.t .nil))) [x0, x1] (.sc) r = ((∃ r65 : AV, ((Fn Try.prog 7 [] Sh.sc r65) ∧
((AV.isBool r65) ∧
((isT r65) ∧
(∃ r257 : AV, ((Fn Try.prog 8 [x0] Sh.sc r257) ∧
(∃ r385 : AV, ((Fn Try.prog 9 [x0] Sh.sc r385) ∧
((AV.binOk Go.BinOp.eql r257 r385) ∧
((AV.isBool r65) ∧
((isT r65) ∧
((AV.isBool (AV.bin Go.BinOp.eql r257 r385)) ∧
((isT (AV.bin Go.BinOp.eql r257 r385)) ∧
((fEnt Try.prog 10) ∧
(fAllV fun _ => (∃ r897 : AV, ((Fn Try.prog 25 [x1] Sh.sc r897) ∧
(∃ r1153 : AV, ((Fn Try.prog 11 [x1] Sh.sc r1153) ∧
((AV.isBool r897) ∧
((AV.isBool r1153) ∧
((AV.isBool (AV.bin Go.BinOp.eql r257 r385)) ∧
((isT (AV.bin Go.BinOp.eql r257 r385)) ∧
((AV.flat (AV.eqB r897 r1153)) ∧
(fSame (AV.eqB r897 r1153) r)))))))))))))))))))))))))) := by kernel_rfl
theorem steps_form (x0 x1 x2 x3 r : AV) : fnF Try.prog Γ ann 2 4 Try.f4 (Try.f4.body.getD .skip) ((.f (.both (.both (.both (.f (.f .nil)) (.f (.f .nil))) (.both (.both (.f (.f .nil)) (.f (.f .nil))) (.both (.both (.f (.f .nil)) (.f (.f .nil))) (.both (.both (.f (.f .nil)) (.f (.f .nil))) (.both (.f (.f .nil)) (.f (.f .nil))))))) .nil))) [x0, x1, x2, x3] (.sc) r = ((∃ r65 : AV, ((Fn Try.prog 7 [] Sh.sc r65) ∧
((AV.unOk Go.UnOp.not r65) ∧
((AV.isBool (AV.un Go.UnOp.not r65)) ∧
((isF (AV.un Go.UnOp.not r65)) ∧
(fLoop 257 [(AV.int 0)] fun ys257 again257 =>
  ((AV.binOk Go.BinOp.lss (ys257.getD 0 default) (AV.int 5)) ∧
  ((AV.isBool (AV.bin Go.BinOp.lss (ys257.getD 0 default) (AV.int 5))) ∧
  (((isT (AV.bin Go.BinOp.lss (ys257.getD 0 default) (AV.int 5))) →
    ((AV.binOk Go.BinOp.eql (ys257.getD 0 default) (AV.int 0)) ∧
    ((AV.isBool (AV.bin Go.BinOp.eql (ys257.getD 0 default) (AV.int 0))) ∧
    (((isT (AV.bin Go.BinOp.eql (ys257.getD 0 default) (AV.int 0))) →
      (∃ r961 : AV, ((Fn Try.prog 12 [x0, x1, x2] (Sh.tup [(Sh.row 34 3 true), Sh.sc]) r961) ∧
      (∃ r1409 : AV, ((Fn Try.prog 9 [x0] Sh.sc r1409) ∧
      ((AV.binOk Go.BinOp.eql r1409 (AV.int 0)) ∧
      ((AV.isBool (AV.bin Go.BinOp.eql r1409 (AV.int 0))) ∧
      (((isT (AV.bin Go.BinOp.eql r1409 (AV.int 0))) →
        (∃ r2049 : AV, ((Fn Try.prog 17 [x0, (ys257.getD 0 default), x1, x2, x3] (Sh.tup [(Sh.row 34 3 true), Sh.sc]) r2049) ∧
        ((AV.binOk Go.BinOp.neq (AV.prj r961 1) (AV.prj r2049 1)) ∧
        ((AV.isBool (AV.bin Go.BinOp.neq (AV.prj r961 1) (AV.prj r2049 1))) ∧
        ((isF (AV.bin Go.BinOp.neq (AV.prj r961 1) (AV.prj r2049 1))) ∧
        (∃ r2817 : AV, ((Fn Try.prog 18 [(AV.prj r961 0), (AV.prj r2049 0)] Sh.sc r2817) ∧
        ((AV.unOk Go.UnOp.not r2817) ∧
        ((AV.isBool (AV.bin Go.BinOp.neq (AV.prj r961 1) (AV.prj r2049 1))) ∧
        ((isF (AV.bin Go.BinOp.neq (AV.prj r961 1) (AV.prj r2049 1))) ∧
        ((AV.isBool (AV.un Go.UnOp.not r2817)) ∧
        ((isF (AV.un Go.UnOp.not r2817)) ∧
        ((AV.binOk Go.BinOp.add (ys257.getD 0 default) (AV.int 1)) ∧
        (again257 [(AV.bin Go.BinOp.add (ys257.getD 0 default) (AV.int 1))]))))))))))))))) ∧
      ((isF (AV.bin Go.BinOp.eql r1409 (AV.int 0))) →
        ((AV.binOk Go.BinOp.neq (AV.prj r961 1) r1409) ∧
        ((AV.isBool (AV.bin Go.BinOp.neq (AV.prj r961 1) r1409)) ∧
        ((isF (AV.bin Go.BinOp.neq (AV.prj r961 1) r1409)) ∧
        (∃ r2113 : AV, ((Fn Try.prog 18 [(AV.prj r961 0), (AV.mk 3 [])] Sh.sc r2113) ∧
        ((AV.unOk Go.UnOp.not r2113) ∧
        ((AV.isBool (AV.bin Go.BinOp.neq (AV.prj r961 1) r1409)) ∧
        ((isF (AV.bin Go.BinOp.neq (AV.prj r961 1) r1409)) ∧
        ((AV.isBool (AV.un Go.UnOp.not r2113)) ∧
        ((isF (AV.un Go.UnOp.not r2113)) ∧
        ((AV.binOk Go.BinOp.add (ys257.getD 0 default) (AV.int 1)) ∧
        (again257 [(AV.bin Go.BinOp.add (ys257.getD 0 default) (AV.int 1))]))))))))))))))))))))) ∧
    ((isF (AV.bin Go.BinOp.eql (ys257.getD 0 default) (AV.int 0))) →
      ((AV.binOk Go.BinOp.eql (ys257.getD 0 default) (AV.int 1)) ∧
      ((AV.isBool (AV.bin Go.BinOp.eql (ys257.getD 0 default) (AV.int 1))) ∧
      (((isT (AV.bin Go.BinOp.eql (ys257.getD 0 default) (AV.int 1))) →
        (∃ r1089 : AV, ((Fn Try.prog 13 [x0, x1, x2] (Sh.tup [(Sh.row 34 3 true), Sh.sc]) r1089) ∧
        (∃ r1537 : AV, ((Fn Try.prog 9 [x0] Sh.sc r1537) ∧
        ((AV.binOk Go.BinOp.eql r1537 (AV.int 0)) ∧
        ((AV.isBool (AV.bin Go.BinOp.eql r1537 (AV.int 0))) ∧
        (((isT (AV.bin Go.BinOp.eql r1537 (AV.int 0))) →
          (∃ r2177 : AV, ((Fn Try.prog 17 [x0, (ys257.getD 0 default), x1, x2, x3] (Sh.tup [(Sh.row 34 3 true), Sh.sc]) r2177) ∧
          ((AV.binOk Go.BinOp.neq (AV.prj r1089 1) (AV.prj r2177 1)) ∧
          ((AV.isBool (AV.bin Go.BinOp.neq (AV.prj r1089 1) (AV.prj r2177 1))) ∧
          ((isF (AV.bin Go.BinOp.neq (AV.prj r1089 1) (AV.prj r2177 1))) ∧
          (∃ r2945 : AV, ((Fn Try.prog 18 [(AV.prj r1089 0), (AV.prj r2177 0)] Sh.sc r2945) ∧
          ((AV.unOk Go.UnOp.not r2945) ∧
          ((AV.isBool (AV.bin Go.BinOp.neq (AV.prj r1089 1) (AV.prj r2177 1))) ∧
          ((isF (AV.bin Go.BinOp.neq (AV.prj r1089 1) (AV.prj r2177 1))) ∧
          ((AV.isBool (AV.un Go.UnOp.not r2945)) ∧
          ((isF (AV.un Go.UnOp.not r2945)) ∧
          ((AV.binOk Go.BinOp.add (ys257.getD 0 default) (AV.int 1)) ∧
          (again257 [(AV.bin Go.BinOp.add (ys257.getD 0 default) (AV.int 1))]))))))))))))))) ∧
        ((isF (AV.bin Go.BinOp.eql r1537 (AV.int 0))) →
          ((AV.binOk Go.BinOp.neq (AV.prj r1089 1) r1537) ∧
          ((AV.isBool (AV.bin Go.BinOp.neq (AV.prj r1089 1) r1537)) ∧
          ((isF (AV.bin Go.BinOp.neq (AV.prj r1089 1) r1537)) ∧
          (∃ r2241 : AV, ((Fn Try.prog 18 [(AV.prj r1089 0), (AV.mk 3 [])] Sh.sc r2241) ∧
          ((AV.unOk Go.UnOp.not r2241) ∧
          ((AV.isBool (AV.bin Go.BinOp.neq (AV.prj r1089 1) r1537)) ∧
          ((isF (AV.bin Go.BinOp.neq (AV.prj r1089 1) r1537)) ∧
          ((AV.isBool (AV.un Go.UnOp.not r2241)) ∧
          ((isF (AV.un Go.UnOp.not r2241)) ∧
          ((AV.binOk Go.BinOp.add (ys257.getD 0 default) (AV.int 1)) ∧
          (again257 [(AV.bin Go.BinOp.add (ys257.getD 0 default) (AV.int 1))]))))))))))))))))))))) ∧
      ((isF (AV.bin Go.BinOp.eql (ys257.getD 0 default) (AV.int 1))) →
        ((AV.binOk Go.BinOp.eql (ys257.getD 0 default) (AV.int 2)) ∧
        ((AV.isBool (AV.bin Go.BinOp.eql (ys257.getD 0 default) (AV.int 2))) ∧
        (((isT (AV.bin Go.BinOp.eql (ys257.getD 0 default) (AV.int 2))) →
          (∃ r1281 : AV, ((Fn Try.prog 14 [x0, x1, x2, x3] (Sh.tup [(Sh.row 34 3 true), Sh.sc]) r1281) ∧
          (∃ r1729 : AV, ((Fn Try.prog 9 [x0] Sh.sc r1729) ∧
          ((AV.binOk Go.BinOp.eql r1729 (AV.int 0)) ∧
          ((AV.isBool (AV.bin Go.BinOp.eql r1729 (AV.int 0))) ∧
          (((isT (AV.bin Go.BinOp.eql r1729 (AV.int 0))) →
            (∃ r2369 : AV, ((Fn Try.prog 17 [x0, (ys257.getD 0 default), x1, x2, x3] (Sh.tup [(Sh.row 34 3 true), Sh.sc]) r2369) ∧
            ((AV.binOk Go.BinOp.neq (AV.prj r1281 1) (AV.prj r2369 1)) ∧
            ((AV.isBool (AV.bin Go.BinOp.neq (AV.prj r1281 1) (AV.prj r2369 1))) ∧
            ((isF (AV.bin Go.BinOp.neq (AV.prj r1281 1) (AV.prj r2369 1))) ∧
            (∃ r3137 : AV, ((Fn Try.prog 18 [(AV.prj r1281 0), (AV.prj r2369 0)] Sh.sc r3137) ∧
            ((AV.unOk Go.UnOp.not r3137) ∧
            ((AV.isBool (AV.bin Go.BinOp.neq (AV.prj r1281 1) (AV.prj r2369 1))) ∧
            ((isF (AV.bin Go.BinOp.neq (AV.prj r1281 1) (AV.prj r2369 1))) ∧
            ((AV.isBool (AV.un Go.UnOp.not r3137)) ∧
            ((isF (AV.un Go.UnOp.not r3137)) ∧
            ((AV.binOk Go.BinOp.add (ys257.getD 0 default) (AV.int 1)) ∧
            (again257 [(AV.bin Go.BinOp.add (ys257.getD 0 default) (AV.int 1))]))))))))))))))) ∧
          ((isF (AV.bin Go.BinOp.eql r1729 (AV.int 0))) →
            ((AV.binOk Go.BinOp.neq (AV.prj r1281 1) r1729) ∧
            ((AV.isBool (AV.bin Go.BinOp.neq (AV.prj r1281 1) r1729)) ∧
            ((isF (AV.bin Go.BinOp.neq (AV.prj r1281 1) r1729)) ∧
            (∃ r2433 : AV, ((Fn Try.prog 18 [(AV.prj r1281 0), (AV.mk 3 [])] Sh.sc r2433) ∧
            ((AV.unOk Go.UnOp.not r2433) ∧
            ((AV.isBool (AV.bin Go.BinOp.neq (AV.prj r1281 1) r1729)) ∧
            ((isF (AV.bin Go.BinOp.neq (AV.prj r1281 1) r1729)) ∧
            ((AV.isBool (AV.un Go.UnOp.not r2433)) ∧
            ((isF (AV.un Go.UnOp.not r2433)) ∧
            ((AV.binOk Go.BinOp.add (ys257.getD 0 default) (AV.int 1)) ∧
            (again257 [(AV.bin Go.BinOp.add (ys257.getD 0 default) (AV.int 1))]))))))))))))))))))))) ∧
        ((isF (AV.bin Go.BinOp.eql (ys257.getD 0 default) (AV.int 2))) →
          ((AV.binOk Go.BinOp.eql (ys257.getD 0 default) (AV.int 3)) ∧
          ((AV.isBool (AV.bin Go.BinOp.eql (ys257.getD 0 default) (AV.int 3))) ∧
          (((isT (AV.bin Go.BinOp.eql (ys257.getD 0 default) (AV.int 3))) →
            (∃ r1345 : AV, ((Fn Try.prog 15 [x0, x1, x2] (Sh.tup [(Sh.row 34 3 true), Sh.sc]) r1345) ∧
            (∃ r1793 : AV, ((Fn Try.prog 9 [x0] Sh.sc r1793) ∧
            ((AV.binOk Go.BinOp.eql r1793 (AV.int 0)) ∧
            ((AV.isBool (AV.bin Go.BinOp.eql r1793 (AV.int 0))) ∧
            (((isT (AV.bin Go.BinOp.eql r1793 (AV.int 0))) →
              (∃ r2433 : AV, ((Fn Try.prog 17 [x0, (ys257.getD 0 default), x1, x2, x3] (Sh.tup [(Sh.row 34 3 true), Sh.sc]) r2433) ∧
              ((AV.binOk Go.BinOp.neq (AV.prj r1345 1) (AV.prj r2433 1)) ∧
              ((AV.isBool (AV.bin Go.BinOp.neq (AV.prj r1345 1) (AV.prj r2433 1))) ∧
              ((isF (AV.bin Go.BinOp.neq (AV.prj r1345 1) (AV.prj r2433 1))) ∧
              (∃ r3201 : AV, ((Fn Try.prog 18 [(AV.prj r1345 0), (AV.prj r2433 0)] Sh.sc r3201) ∧
              ((AV.unOk Go.UnOp.not r3201) ∧
              ((AV.isBool (AV.bin Go.BinOp.neq (AV.prj r1345 1) (AV.prj r2433 1))) ∧
              ((isF (AV.bin Go.BinOp.neq (AV.prj r1345 1) (AV.prj r2433 1))) ∧
              ((AV.isBool (AV.un Go.UnOp.not r3201)) ∧
              ((isF (AV.un Go.UnOp.not r3201)) ∧
              ((AV.binOk Go.BinOp.add (ys257.getD 0 default) (AV.int 1)) ∧
              (again257 [(AV.bin Go.BinOp.add (ys257.getD 0 default) (AV.int 1))]))))))))))))))) ∧
            ((isF (AV.bin Go.BinOp.eql r1793 (AV.int 0))) →
              ((AV.binOk Go.BinOp.neq (AV.prj r1345 1) r1793) ∧
              ((AV.isBool (AV.bin Go.BinOp.neq (AV.prj r1345 1) r1793)) ∧
              ((isF (AV.bin Go.BinOp.neq (AV.prj r1345 1) r1793)) ∧
              (∃ r2497 : AV, ((Fn Try.prog 18 [(AV.prj r1345 0), (AV.mk 3 [])] Sh.sc r2497) ∧
              ((AV.unOk Go.UnOp.not r2497) ∧
              ((AV.isBool (AV.bin Go.BinOp.neq (AV.prj r1345 1) r1793)) ∧
              ((isF (AV.bin Go.BinOp.neq (AV.prj r1345 1) r1793)) ∧
              ((AV.isBool (AV.un Go.UnOp.not r2497)) ∧
              ((isF (AV.un Go.UnOp.not r2497)) ∧
              ((AV.binOk Go.BinOp.add (ys257.getD 0 default) (AV.int 1)) ∧
              (again257 [(AV.bin Go.BinOp.add (ys257.getD 0 default) (AV.int 1))]))))))))))))))))))))) ∧
          ((isF (AV.bin Go.BinOp.eql (ys257.getD 0 default) (AV.int 3))) →
            (∃ r1345 : AV, ((Fn Try.prog 16 [x0, x1, x2] (Sh.tup [(Sh.row 34 3 true), Sh.sc]) r1345) ∧
            (∃ r1793 : AV, ((Fn Try.prog 9 [x0] Sh.sc r1793) ∧
            ((AV.binOk Go.BinOp.eql r1793 (AV.int 0)) ∧
            ((AV.isBool (AV.bin Go.BinOp.eql r1793 (AV.int 0))) ∧
            (((isT (AV.bin Go.BinOp.eql r1793 (AV.int 0))) →
              (∃ r2433 : AV, ((Fn Try.prog 17 [x0, (ys257.getD 0 default), x1, x2, x3] (Sh.tup [(Sh.row 34 3 true), Sh.sc]) r2433) ∧
              ((AV.binOk Go.BinOp.neq (AV.prj r1345 1) (AV.prj r2433 1)) ∧
              ((AV.isBool (AV.bin Go.BinOp.neq (AV.prj r1345 1) (AV.prj r2433 1))) ∧
              ((isF (AV.bin Go.BinOp.neq (AV.prj r1345 1) (AV.prj r2433 1))) ∧
              (∃ r3201 : AV, ((Fn Try.prog 18 [(AV.prj r1345 0), (AV.prj r2433 0)] Sh.sc r3201) ∧
              ((AV.unOk Go.UnOp.not r3201) ∧
              ((AV.isBool (AV.bin Go.BinOp.neq (AV.prj r1345 1) (AV.prj r2433 1))) ∧
              ((isF (AV.bin Go.BinOp.neq (AV.prj r1345 1) (AV.prj r2433 1))) ∧
              ((AV.isBool (AV.un Go.UnOp.not r3201)) ∧
              ((isF (AV.un Go.UnOp.not r3201)) ∧
              ((AV.binOk Go.BinOp.add (ys257.getD 0 default) (AV.int 1)) ∧
              (again257 [(AV.bin Go.BinOp.add (ys257.getD 0 default) (AV.int 1))]))))))))))))))) ∧
            ((isF (AV.bin Go.BinOp.eql r1793 (AV.int 0))) →
              ((AV.binOk Go.BinOp.neq (AV.prj r1345 1) r1793) ∧
              ((AV.isBool (AV.bin Go.BinOp.neq (AV.prj r1345 1) r1793)) ∧
              ((isF (AV.bin Go.BinOp.neq (AV.prj r1345 1) r1793)) ∧
              (∃ r2497 : AV, ((Fn Try.prog 18 [(AV.prj r1345 0), (AV.mk 3 [])] Sh.sc r2497) ∧
              ((AV.unOk Go.UnOp.not r2497) ∧
              ((AV.isBool (AV.bin Go.BinOp.neq (AV.prj r1345 1) r1793)) ∧
              ((isF (AV.bin Go.BinOp.neq (AV.prj r1345 1) r1793)) ∧
              ((AV.isBool (AV.un Go.UnOp.not r2497)) ∧
              ((isF (AV.un Go.UnOp.not r2497)) ∧
              ((AV.binOk Go.BinOp.add (ys257.getD 0 default) (AV.int 1)) ∧
              (again257 [(AV.bin Go.BinOp.add (ys257.getD 0 default) (AV.int 1))]))))))))))))))))))))))))))))))))))))) ∧
  ((isF (AV.bin Go.BinOp.lss (ys257.getD 0 default) (AV.int 5))) →
    ((AV.flat (AV.bool true)) ∧
    (fSame (AV.bool true) r))))))))))))) := by kernel_rfl
theorem asks_form (x0 x1 x2 r : AV) : fnF Try.prog Γ ann 2 5 Try.f5 (Try.f5.body.getD .skip) ((.f (.both (.t (.t (.t .nil))) (.both .nil (.both (.t (.t (.t .nil))) (.t (.t (.t .nil)))))))) [x0, x1, x2] (.sc) r = ((∃ r65 : AV, ((Fn Try.prog 7 [] Sh.sc r65) ∧
((AV.unOk Go.UnOp.not r65) ∧
((AV.isBool (AV.un Go.UnOp.not r65)) ∧
((isF (AV.un Go.UnOp.not r65)) ∧
(∃ r321 : AV, ((Fn Try.prog 19 [x0, x1] (Sh.tup [Sh.sc, Sh.sc]) r321) ∧
(∃ r833 : AV, ((Fn Try.prog 20 [x0, x2] (Sh.tup [(Sh.row 9 1 true), Sh.sc]) r833) ∧
(∃ r1281 : AV, ((Fn Try.prog 9 [x0] Sh.sc r1281) ∧
((AV.binOk Go.BinOp.neq r1281 (AV.int 0)) ∧
((AV.isBool (AV.bin Go.BinOp.neq r1281 (AV.int 0))) ∧
(((isT (AV.bin Go.BinOp.neq r1281 (AV.int 0))) →
  ((AV.binOk Go.BinOp.eql (AV.prj r321 1) r1281) ∧
  ((AV.isBool (AV.bin Go.BinOp.eql (AV.prj r321 1) r1281)) ∧
  ((isT (AV.bin Go.BinOp.eql (AV.prj r321 1) r1281)) ∧
  ((AV.binOk Go.BinOp.eql (AV.prj r833 1) r1281) ∧
  ((AV.isBool (AV.bin Go.BinOp.eql (AV.prj r321 1) r1281)) ∧
  ((isT (AV.bin Go.BinOp.eql (AV.prj r321 1) r1281)) ∧
  ((AV.isBool (AV.bin Go.BinOp.eql (AV.prj r833 1) r1281)) ∧
  ((isT (AV.bin Go.BinOp.eql (AV.prj r833 1) r1281)) ∧
  ((AV.binOk Go.BinOp.eql (AV.prj r321 0) (AV.lit (Value.string ⟨#[]⟩))) ∧
  ((AV.isBool (AV.bin Go.BinOp.eql (AV.prj r833 1) r1281)) ∧
  ((isT (AV.bin Go.BinOp.eql (AV.prj r833 1) r1281)) ∧
  ((AV.isBool (AV.bin Go.BinOp.eql (AV.prj r321 0) (AV.lit (Value.string ⟨#[]⟩)))) ∧
  ((isT (AV.bin Go.BinOp.eql (AV.prj r321 0) (AV.lit (Value.string ⟨#[]⟩)))) ∧
  ((AV.binOk Go.BinOp.eql (AV.len (AV.prj r833 0)) (AV.int 0)) ∧
  ((AV.isBool (AV.bin Go.BinOp.eql (AV.prj r321 0) (AV.lit (Value.string ⟨#[]⟩)))) ∧
  ((isT (AV.bin Go.BinOp.eql (AV.prj r321 0) (AV.lit (Value.string ⟨#[]⟩)))) ∧
  ((AV.flat (AV.bin Go.BinOp.eql (AV.len (AV.prj r833 0)) (AV.int 0))) ∧
  (fSame (AV.bin Go.BinOp.eql (AV.len (AV.prj r833 0)) (AV.int 0)) r))))))))))))))))))) ∧
((isF (AV.bin Go.BinOp.neq r1281 (AV.int 0))) →
  ((AV.isSl x0 3) ∧
  (fLoop 1793 [(AV.int 0), (AV.mk 1 [])] fun ys1793 again1793 =>
    ((AV.binOk Go.BinOp.lss (ys1793.getD 0 default) (AV.len x0)) ∧
    ((AV.isBool (AV.bin Go.BinOp.lss (ys1793.getD 0 default) (AV.len x0))) ∧
    (((isT (AV.bin Go.BinOp.lss (ys1793.getD 0 default) (AV.len x0))) →
      ((AV.isSl x0 3) ∧
      ((AV.inb x0 (ys1793.getD 0 default)) ∧
      ((AV.isAgg (AV.atAgg x0 (ys1793.getD 0 default) 0 3) 3) ∧
      ((AV.binOk Go.BinOp.eql (AV.cel (AV.atAgg x0 (ys1793.getD 0 default) 0 3) 1) x2) ∧
      ((AV.isBool (AV.bin Go.BinOp.eql (AV.cel (AV.atAgg x0 (ys1793.getD 0 default) 0 3) 1) x2)) ∧
      (((isT (AV.bin Go.BinOp.eql (AV.cel (AV.atAgg x0 (ys1793.getD 0 default) 0 3) 1) x2)) →
        ((AV.isOne (AV.cel (AV.atAgg x0 (ys1793.getD 0 default) 0 3) 0)) ∧
        ((AV.room (ys1793.getD 1 default) (AV.mk 1 [[(AV.cel (AV.atAgg x0 (ys1793.getD 0 default) 0 3) 0)]]) 16) ∧
        ((AV.binOk Go.BinOp.add (ys1793.getD 0 default) (AV.int 1)) ∧
        (again1793 [(AV.bin Go.BinOp.add (ys1793.getD 0 default) (AV.int 1)), (AV.app 1 (ys1793.getD 1 default) (AV.mk 1 [[(AV.cel (AV.atAgg x0 (ys1793.getD 0 default) 0 3) 0)]]))]))))) ∧
      ((isF (AV.bin Go.BinOp.eql (AV.cel (AV.atAgg x0 (ys1793.getD 0 default) 0 3) 1) x2)) →
        ((AV.binOk Go.BinOp.add (ys1793.getD 0 default) (AV.int 1)) ∧
        (again1793 [(AV.bin Go.BinOp.add (ys1793.getD 0 default) (AV.int 1)), (ys1793.getD 1 default)])))))))))) ∧
    ((isF (AV.bin Go.BinOp.lss (ys1793.getD 0 default) (AV.len x0))) →
      (∃ r1985 : AV, ((Fn Try.prog 21 [x0, x1] Sh.sc r1985) ∧
      ((AV.binOk Go.BinOp.lss r1985 (AV.int 0)) ∧
      ((AV.isBool (AV.bin Go.BinOp.lss r1985 (AV.int 0))) ∧
      (((isT (AV.bin Go.BinOp.lss r1985 (AV.int 0))) →
        ((AV.binOk Go.BinOp.eql (AV.prj r321 1) (AV.int 8)) ∧
        ((AV.isBool (AV.bin Go.BinOp.eql (AV.prj r321 1) (AV.int 8))) ∧
        ((isT (AV.bin Go.BinOp.eql (AV.prj r321 1) (AV.int 8))) ∧
        ((AV.binOk Go.BinOp.eql (AV.prj r321 0) (AV.lit (Value.string ⟨#[]⟩))) ∧
        ((AV.isBool (AV.bin Go.BinOp.eql (AV.prj r321 1) (AV.int 8))) ∧
        ((isT (AV.bin Go.BinOp.eql (AV.prj r321 1) (AV.int 8))) ∧
        ((AV.isBool (AV.bin Go.BinOp.eql (AV.prj r321 0) (AV.lit (Value.string ⟨#[]⟩)))) ∧
        ((isT (AV.bin Go.BinOp.eql (AV.prj r321 0) (AV.lit (Value.string ⟨#[]⟩)))) ∧
        ((AV.binOk Go.BinOp.eql (AV.prj r833 1) (AV.int 0)) ∧
        ((AV.isBool (AV.bin Go.BinOp.eql (AV.prj r321 0) (AV.lit (Value.string ⟨#[]⟩)))) ∧
        ((isT (AV.bin Go.BinOp.eql (AV.prj r321 0) (AV.lit (Value.string ⟨#[]⟩)))) ∧
        ((AV.isBool (AV.bin Go.BinOp.eql (AV.prj r833 1) (AV.int 0))) ∧
        ((isT (AV.bin Go.BinOp.eql (AV.prj r833 1) (AV.int 0))) ∧
        (∃ r3073 : AV, ((Fn Try.prog 22 [(AV.prj r833 0), (ys1793.getD 1 default)] Sh.sc r3073) ∧
        ((AV.isBool (AV.bin Go.BinOp.eql (AV.prj r833 1) (AV.int 0))) ∧
        ((isT (AV.bin Go.BinOp.eql (AV.prj r833 1) (AV.int 0))) ∧
        ((AV.flat r3073) ∧
        (fSame r3073 r)))))))))))))))))))) ∧
      ((isF (AV.bin Go.BinOp.lss r1985 (AV.int 0))) →
        ((AV.binOk Go.BinOp.eql (AV.prj r321 1) (AV.int 0)) ∧
        ((AV.isBool (AV.bin Go.BinOp.eql (AV.prj r321 1) (AV.int 0))) ∧
        ((isT (AV.bin Go.BinOp.eql (AV.prj r321 1) (AV.int 0))) ∧
        ((AV.isSl x0 3) ∧
        ((AV.inb x0 r1985) ∧
        ((AV.binOk Go.BinOp.eql (AV.prj r321 0) (AV.at x0 r1985 1)) ∧
        ((AV.isBool (AV.bin Go.BinOp.eql (AV.prj r321 1) (AV.int 0))) ∧
        ((isT (AV.bin Go.BinOp.eql (AV.prj r321 1) (AV.int 0))) ∧
        ((AV.isBool (AV.bin Go.BinOp.eql (AV.prj r321 0) (AV.at x0 r1985 1))) ∧
        ((isT (AV.bin Go.BinOp.eql (AV.prj r321 0) (AV.at x0 r1985 1))) ∧
        ((AV.binOk Go.BinOp.eql (AV.prj r833 1) (AV.int 0)) ∧
        ((AV.isBool (AV.bin Go.BinOp.eql (AV.prj r321 0) (AV.at x0 r1985 1))) ∧
        ((isT (AV.bin Go.BinOp.eql (AV.prj r321 0) (AV.at x0 r1985 1))) ∧
        ((AV.isBool (AV.bin Go.BinOp.eql (AV.prj r833 1) (AV.int 0))) ∧
        ((isT (AV.bin Go.BinOp.eql (AV.prj r833 1) (AV.int 0))) ∧
        (∃ r3393 : AV, ((Fn Try.prog 22 [(AV.prj r833 0), (ys1793.getD 1 default)] Sh.sc r3393) ∧
        ((AV.isBool (AV.bin Go.BinOp.eql (AV.prj r833 1) (AV.int 0))) ∧
        ((isT (AV.bin Go.BinOp.eql (AV.prj r833 1) (AV.int 0))) ∧
        ((AV.flat r3393) ∧
        (fSame r3393 r))))))))))))))))))))))))))))))))))))))))))))))))) := by kernel_rfl
end OwnerG
end Go.Proofs.Ytkkcmapfedlkpaa
