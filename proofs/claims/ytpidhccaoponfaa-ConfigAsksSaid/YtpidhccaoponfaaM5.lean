/- Texts of one proof, part 5: plain values, a run over them, contracts of functions. -/
import Derived.Test.YtpidhccaoponfaaM4
import Derived.Shelf.Slices.In.SortNone
import Derived.Lib.Bytealg
import Derived.Lib.Walk
import Derived.Deep.RegionLaw
import Derived.Deep.OwnRows
/- config's laws: what the run ends in. -/
namespace Go.Proofs.Ytpidhccaoponfaa
open Go.RowKit
set_option linter.unusedVariables false
set_option maxRecDepth 100000
namespace ConH
--GAMMA
def Γ : FuncId → Option Ca := fun f =>
  if f = 30 ∨ f = 12 ∨ f = 13 ∨ f = 9 ∨ f = 10 ∨ f = 33 ∨ f = 39 ∨ f = 21 ∨ f = 14 ∨ f = 18 ∨ f = 8 ∨ f = 26 ∨ f = 29 ∨ f = 31 ∨ f = 16 ∨ f = 20 ∨ f = 23 then some (.fn .sc)
  else if f = 11 ∨ f = 17 ∨ f = 22 then some (.fn (.tup [.row 53 2 false, .sc]))
  else if f = 24 then some (.fn (.tup [.sc, .sc]))
  else if f = 25 then some (.fn (.tup [.row 9 1 true, .sc]))
  else if f = 28 then some (.fn (.tup [.row 56 3 true, .sc]))
  else if f = 19 ∨ f = 27 then some (.fn (.row 9 1 true))
  else if f = 34 then some (.nest 53 2 1 9 9)
  else if f = 41 ∨ f = 35 then some (.upd false)
  else if f = 36 then some (.upd true)
  else if f = 52 then some (.fn .sc)
  else some .inl
def ann : FuncId → Nat → LoopEx := fun f r => if f = 37 then ⟨[], [1000000], [], []⟩ else if f = 17 ∧ r = 300012 then ⟨[], [1729], [], []⟩ else if f = 22 ∧ r = 300028 then ⟨[], [1857], [], []⟩ else if f = 22 ∧ r = 20 then ⟨[], [2689], [(2113, 0)], [(2113, 1, 9, 1)]⟩ else ⟨[], [], [], []⟩
--END GAMMA
theorem fact_form ( r : AV) : fnF Try.prog Γ ann 3 8 Try.f8 (Try.f8.body.getD .skip) ((.t (.t (.t (.t (.t (.t (.t (.t (.t (.t (.t (.t (.t (.t (.t .nil)))))))))))))))) [] (.sc) r = ((∃ r129 : AV, ((Fn Try.prog 11 [(AV.mk 1 [[(AV.lit (Value.string ⟨#[66]⟩))], [(AV.lit (Value.string ⟨#[65]⟩))]])] (Sh.tup [(Sh.row 53 2 false), Sh.sc]) r129) ∧
(∃ r577 : AV, ((Fn Try.prog 17 [(AV.prj r129 0), (AV.lit (Value.string ⟨#[65]⟩)), (AV.lit (Value.string ⟨#[66]⟩))] (Sh.tup [(Sh.row 53 2 false), Sh.sc]) r577) ∧
(∃ r1089 : AV, ((Fn Try.prog 22 [(AV.prj r577 0), (AV.lit (Value.string ⟨#[65]⟩)), (AV.lit (Value.string ⟨#[66]⟩)), (AV.mk 1 [[(AV.lit (Value.string ⟨#[66]⟩))]])] (Sh.tup [(Sh.row 53 2 false), Sh.sc]) r1089) ∧
(∃ r1537 : AV, ((Fn Try.prog 24 [(AV.prj r577 0), (AV.lit (Value.string ⟨#[66]⟩))] (Sh.tup [Sh.sc, Sh.sc]) r1537) ∧
(∃ r1985 : AV, ((Fn Try.prog 25 [(AV.prj r577 0)] (Sh.tup [(Sh.row 9 1 true), Sh.sc]) r1985) ∧
(∃ r2497 : AV, ((Fn Try.prog 28 [(AV.prj r129 0), (AV.prj r577 0)] (Sh.tup [(Sh.row 56 3 true), Sh.sc]) r2497) ∧
((AV.binOk Go.BinOp.eql (AV.prj r129 1) (AV.int 0)) ∧
((AV.isBool (AV.bin Go.BinOp.eql (AV.prj r129 1) (AV.int 0))) ∧
((isT (AV.bin Go.BinOp.eql (AV.prj r129 1) (AV.int 0))) ∧
((AV.binOk Go.BinOp.eql (AV.prj r577 1) (AV.int 0)) ∧
((AV.isBool (AV.bin Go.BinOp.eql (AV.prj r129 1) (AV.int 0))) ∧
((isT (AV.bin Go.BinOp.eql (AV.prj r129 1) (AV.int 0))) ∧
((AV.isBool (AV.bin Go.BinOp.eql (AV.prj r577 1) (AV.int 0))) ∧
((isT (AV.bin Go.BinOp.eql (AV.prj r577 1) (AV.int 0))) ∧
((AV.binOk Go.BinOp.eql (AV.prj r1089 1) (AV.int 0)) ∧
((AV.isBool (AV.bin Go.BinOp.eql (AV.prj r577 1) (AV.int 0))) ∧
((isT (AV.bin Go.BinOp.eql (AV.prj r577 1) (AV.int 0))) ∧
((AV.isBool (AV.bin Go.BinOp.eql (AV.prj r1089 1) (AV.int 0))) ∧
((isT (AV.bin Go.BinOp.eql (AV.prj r1089 1) (AV.int 0))) ∧
((AV.binOk Go.BinOp.eql (AV.prj r1537 1) (AV.int 0)) ∧
((AV.isBool (AV.bin Go.BinOp.eql (AV.prj r1089 1) (AV.int 0))) ∧
((isT (AV.bin Go.BinOp.eql (AV.prj r1089 1) (AV.int 0))) ∧
((AV.isBool (AV.bin Go.BinOp.eql (AV.prj r1537 1) (AV.int 0))) ∧
((isT (AV.bin Go.BinOp.eql (AV.prj r1537 1) (AV.int 0))) ∧
((AV.binOk Go.BinOp.eql (AV.prj r1985 1) (AV.int 0)) ∧
((AV.isBool (AV.bin Go.BinOp.eql (AV.prj r1537 1) (AV.int 0))) ∧
((isT (AV.bin Go.BinOp.eql (AV.prj r1537 1) (AV.int 0))) ∧
((AV.isBool (AV.bin Go.BinOp.eql (AV.prj r1985 1) (AV.int 0))) ∧
((isT (AV.bin Go.BinOp.eql (AV.prj r1985 1) (AV.int 0))) ∧
((AV.binOk Go.BinOp.eql (AV.prj r2497 1) (AV.int 0)) ∧
((AV.isBool (AV.bin Go.BinOp.eql (AV.prj r1985 1) (AV.int 0))) ∧
((isT (AV.bin Go.BinOp.eql (AV.prj r1985 1) (AV.int 0))) ∧
((AV.isBool (AV.bin Go.BinOp.eql (AV.prj r2497 1) (AV.int 0))) ∧
((isT (AV.bin Go.BinOp.eql (AV.prj r2497 1) (AV.int 0))) ∧
((AV.isSl (AV.prj r129 0) 2) ∧
((AV.binOk Go.BinOp.eql (AV.len (AV.prj r129 0)) (AV.int 2)) ∧
((AV.isBool (AV.bin Go.BinOp.eql (AV.prj r2497 1) (AV.int 0))) ∧
((isT (AV.bin Go.BinOp.eql (AV.prj r2497 1) (AV.int 0))) ∧
((AV.isBool (AV.bin Go.BinOp.eql (AV.len (AV.prj r129 0)) (AV.int 2))) ∧
((isT (AV.bin Go.BinOp.eql (AV.len (AV.prj r129 0)) (AV.int 2))) ∧
((AV.isSl (AV.prj r577 0) 2) ∧
((AV.binOk Go.BinOp.eql (AV.len (AV.prj r577 0)) (AV.int 1)) ∧
((AV.isBool (AV.bin Go.BinOp.eql (AV.len (AV.prj r129 0)) (AV.int 2))) ∧
((isT (AV.bin Go.BinOp.eql (AV.len (AV.prj r129 0)) (AV.int 2))) ∧
((AV.isBool (AV.bin Go.BinOp.eql (AV.len (AV.prj r577 0)) (AV.int 1))) ∧
((isT (AV.bin Go.BinOp.eql (AV.len (AV.prj r577 0)) (AV.int 1))) ∧
((AV.binOk Go.BinOp.eql (AV.len (AV.prj r1089 0)) (AV.int 2)) ∧
((AV.isBool (AV.bin Go.BinOp.eql (AV.len (AV.prj r577 0)) (AV.int 1))) ∧
((isT (AV.bin Go.BinOp.eql (AV.len (AV.prj r577 0)) (AV.int 1))) ∧
((AV.isBool (AV.bin Go.BinOp.eql (AV.len (AV.prj r1089 0)) (AV.int 2))) ∧
((isT (AV.bin Go.BinOp.eql (AV.len (AV.prj r1089 0)) (AV.int 2))) ∧
((AV.isSl (AV.prj r129 0) 2) ∧
((AV.inb (AV.prj r129 0) (AV.int 0)) ∧
((AV.binOk Go.BinOp.eql (AV.at (AV.prj r129 0) (AV.int 0) 0) (AV.lit (Value.string ⟨#[65]⟩))) ∧
((AV.isBool (AV.bin Go.BinOp.eql (AV.len (AV.prj r1089 0)) (AV.int 2))) ∧
((isT (AV.bin Go.BinOp.eql (AV.len (AV.prj r1089 0)) (AV.int 2))) ∧
((AV.isBool (AV.bin Go.BinOp.eql (AV.at (AV.prj r129 0) (AV.int 0) 0) (AV.lit (Value.string ⟨#[65]⟩)))) ∧
((isT (AV.bin Go.BinOp.eql (AV.at (AV.prj r129 0) (AV.int 0) 0) (AV.lit (Value.string ⟨#[65]⟩)))) ∧
((AV.inb (AV.prj r1089 0) (AV.int 1)) ∧
((AV.inb (AV.prj r1089 0) (AV.int 1)) ∧
((AV.binOk Go.BinOp.eql (AV.at (AV.prj r1089 0) (AV.int 1) 0) (AV.lit (Value.string ⟨#[66]⟩))) ∧
((AV.isBool (AV.bin Go.BinOp.eql (AV.at (AV.prj r129 0) (AV.int 0) 0) (AV.lit (Value.string ⟨#[65]⟩)))) ∧
((isT (AV.bin Go.BinOp.eql (AV.at (AV.prj r129 0) (AV.int 0) 0) (AV.lit (Value.string ⟨#[65]⟩)))) ∧
((AV.isBool (AV.bin Go.BinOp.eql (AV.at (AV.prj r1089 0) (AV.int 1) 0) (AV.lit (Value.string ⟨#[66]⟩)))) ∧
((isT (AV.bin Go.BinOp.eql (AV.at (AV.prj r1089 0) (AV.int 1) 0) (AV.lit (Value.string ⟨#[66]⟩)))) ∧
((AV.isSl (AV.prj r577 0) 2) ∧
((AV.inb (AV.prj r577 0) (AV.int 0)) ∧
(∃ r6529 : AV, ((Fn Try.prog 26 [(AV.at (AV.prj r577 0) (AV.int 0) 1), (AV.mk 1 [[(AV.lit (Value.string ⟨#[65]⟩))], [(AV.lit (Value.string ⟨#[66]⟩))]])] Sh.sc r6529) ∧
((AV.isBool (AV.bin Go.BinOp.eql (AV.at (AV.prj r1089 0) (AV.int 1) 0) (AV.lit (Value.string ⟨#[66]⟩)))) ∧
((isT (AV.bin Go.BinOp.eql (AV.at (AV.prj r1089 0) (AV.int 1) 0) (AV.lit (Value.string ⟨#[66]⟩)))) ∧
((AV.isBool r6529) ∧
((isT r6529) ∧
((AV.binOk Go.BinOp.eql (AV.prj r1537 0) (AV.lit (Value.string ⟨#[65]⟩))) ∧
((AV.isBool r6529) ∧
((isT r6529) ∧
((AV.isBool (AV.bin Go.BinOp.eql (AV.prj r1537 0) (AV.lit (Value.string ⟨#[65]⟩)))) ∧
((isT (AV.bin Go.BinOp.eql (AV.prj r1537 0) (AV.lit (Value.string ⟨#[65]⟩)))) ∧
(∃ r7105 : AV, ((Fn Try.prog 26 [(AV.prj r1985 0), (AV.mk 1 [[(AV.lit (Value.string ⟨#[65]⟩))], [(AV.lit (Value.string ⟨#[66]⟩))]])] Sh.sc r7105) ∧
((AV.isBool (AV.bin Go.BinOp.eql (AV.prj r1537 0) (AV.lit (Value.string ⟨#[65]⟩)))) ∧
((isT (AV.bin Go.BinOp.eql (AV.prj r1537 0) (AV.lit (Value.string ⟨#[65]⟩)))) ∧
((AV.isBool r7105) ∧
((isT r7105) ∧
(∃ r7489 : AV, ((Fn Try.prog 29 [(AV.prj r2497 0), (AV.mk 3 [[(AV.lit (Value.string ⟨#[66]⟩)), (AV.lit (Value.string ⟨#[66]⟩)), (AV.lit (Value.string ⟨#[65]⟩))]])] Sh.sc r7489) ∧
((AV.isBool r7105) ∧
((isT r7105) ∧
((AV.isBool r7489) ∧
((isT r7489) ∧
(∃ r7809 : AV, ((Fn Try.prog 9 [(AV.mk 2 [[(AV.lit (Value.string ⟨#[65]⟩)), (AV.lit (Value.slice none 0 0))]])] Sh.sc r7809) ∧
((AV.binOk Go.BinOp.eql r7809 (AV.int 8)) ∧
((AV.isBool r7489) ∧
((isT r7489) ∧
((AV.flat (AV.bin Go.BinOp.eql r7809 (AV.int 8))) ∧
(fSame (AV.bin Go.BinOp.eql r7809 (AV.int 8)) r)))))))))))))))))))))))))))))))))))))))))))))))))))))))))))))))))))))))))))))))))))))))))))))))))))))))) := by kernel_rfl
theorem checks_form (x0 r : AV) : fnF Try.prog Γ ann 3 3 Try.f3 (Try.f3.body.getD .skip) ((.t .nil)) [x0] (.sc) r = ((∃ r65 : AV, ((Fn Try.prog 8 [] Sh.sc r65) ∧
((AV.isBool r65) ∧
((isT r65) ∧
(∃ r257 : AV, ((Fn Try.prog 9 [x0] Sh.sc r257) ∧
(∃ r385 : AV, ((Fn Try.prog 10 [x0] Sh.sc r385) ∧
((AV.binOk Go.BinOp.eql r257 r385) ∧
((AV.isBool r65) ∧
((isT r65) ∧
((AV.flat (AV.bin Go.BinOp.eql r257 r385)) ∧
(fSame (AV.bin Go.BinOp.eql r257 r385) r)))))))))))))) := by kernel_rfl
theorem asks_form (x0 x1 r : AV) : fnF Try.prog Γ ann 3 7 Try.f7 (Try.f7.body.getD .skip) ((.f (.both (.t (.t (.t .nil))) (.t (.t (.t (.t .nil))))))) [x0, x1] (.sc) r = ((∃ r65 : AV, ((Fn Try.prog 8 [] Sh.sc r65) ∧
((AV.unOk Go.UnOp.not r65) ∧
((AV.isBool (AV.un Go.UnOp.not r65)) ∧
((isF (AV.un Go.UnOp.not r65)) ∧
(∃ r321 : AV, ((Fn Try.prog 24 [x0, x1] (Sh.tup [Sh.sc, Sh.sc]) r321) ∧
(∃ r769 : AV, ((Fn Try.prog 25 [x0] (Sh.tup [(Sh.row 9 1 true), Sh.sc]) r769) ∧
(∃ r1217 : AV, ((Fn Try.prog 10 [x0] Sh.sc r1217) ∧
((AV.binOk Go.BinOp.neq r1217 (AV.int 0)) ∧
((AV.isBool (AV.bin Go.BinOp.neq r1217 (AV.int 0))) ∧
(((isT (AV.bin Go.BinOp.neq r1217 (AV.int 0))) →
  ((AV.binOk Go.BinOp.eql (AV.prj r321 1) r1217) ∧
  ((AV.isBool (AV.bin Go.BinOp.eql (AV.prj r321 1) r1217)) ∧
  ((isT (AV.bin Go.BinOp.eql (AV.prj r321 1) r1217)) ∧
  ((AV.binOk Go.BinOp.eql (AV.prj r769 1) r1217) ∧
  ((AV.isBool (AV.bin Go.BinOp.eql (AV.prj r321 1) r1217)) ∧
  ((isT (AV.bin Go.BinOp.eql (AV.prj r321 1) r1217)) ∧
  ((AV.isBool (AV.bin Go.BinOp.eql (AV.prj r769 1) r1217)) ∧
  ((isT (AV.bin Go.BinOp.eql (AV.prj r769 1) r1217)) ∧
  ((AV.binOk Go.BinOp.eql (AV.prj r321 0) (AV.lit (Value.string ⟨#[]⟩))) ∧
  ((AV.isBool (AV.bin Go.BinOp.eql (AV.prj r769 1) r1217)) ∧
  ((isT (AV.bin Go.BinOp.eql (AV.prj r769 1) r1217)) ∧
  ((AV.isBool (AV.bin Go.BinOp.eql (AV.prj r321 0) (AV.lit (Value.string ⟨#[]⟩)))) ∧
  ((isT (AV.bin Go.BinOp.eql (AV.prj r321 0) (AV.lit (Value.string ⟨#[]⟩)))) ∧
  ((AV.binOk Go.BinOp.eql (AV.len (AV.prj r769 0)) (AV.int 0)) ∧
  ((AV.isBool (AV.bin Go.BinOp.eql (AV.prj r321 0) (AV.lit (Value.string ⟨#[]⟩)))) ∧
  ((isT (AV.bin Go.BinOp.eql (AV.prj r321 0) (AV.lit (Value.string ⟨#[]⟩)))) ∧
  ((AV.flat (AV.bin Go.BinOp.eql (AV.len (AV.prj r769 0)) (AV.int 0))) ∧
  (fSame (AV.bin Go.BinOp.eql (AV.len (AV.prj r769 0)) (AV.int 0)) r))))))))))))))))))) ∧
((isF (AV.bin Go.BinOp.neq r1217 (AV.int 0))) →
  (∃ r1601 : AV, ((Fn Try.prog 21 [x0, x1] Sh.sc r1601) ∧
  ((AV.binOk Go.BinOp.eql (AV.prj r769 1) (AV.int 0)) ∧
  ((AV.isBool (AV.bin Go.BinOp.eql (AV.prj r769 1) (AV.int 0))) ∧
  ((isT (AV.bin Go.BinOp.eql (AV.prj r769 1) (AV.int 0))) ∧
  (∃ r2049 : AV, ((Fn Try.prog 19 [x0] (Sh.row 9 1 true) r2049) ∧
  (∃ r2113 : AV, ((Fn Try.prog 27 [r2049] (Sh.row 9 1 true) r2113) ∧
  (∃ r2177 : AV, ((Fn Try.prog 26 [(AV.prj r769 0), r2113] Sh.sc r2177) ∧
  ((AV.isBool (AV.bin Go.BinOp.eql (AV.prj r769 1) (AV.int 0))) ∧
  ((isT (AV.bin Go.BinOp.eql (AV.prj r769 1) (AV.int 0))) ∧
  ((AV.isBool r2177) ∧
  ((isT r2177) ∧
  ((AV.binOk Go.BinOp.eql (AV.prj r321 0) r1601) ∧
  ((AV.isBool r2177) ∧
  ((isT r2177) ∧
  ((AV.isBool (AV.bin Go.BinOp.eql (AV.prj r321 0) r1601)) ∧
  ((isT (AV.bin Go.BinOp.eql (AV.prj r321 0) r1601)) ∧
  ((AV.binOk Go.BinOp.eql (AV.prj r321 1) (AV.int 0)) ∧
  ((AV.binOk Go.BinOp.neq r1601 (AV.lit (Value.string ⟨#[]⟩))) ∧
  ((AV.isBool (AV.bin Go.BinOp.eql (AV.prj r321 1) (AV.int 0))) ∧
  ((AV.isBool (AV.bin Go.BinOp.neq r1601 (AV.lit (Value.string ⟨#[]⟩)))) ∧
  ((AV.isBool (AV.bin Go.BinOp.eql (AV.prj r321 0) r1601)) ∧
  ((isT (AV.bin Go.BinOp.eql (AV.prj r321 0) r1601)) ∧
  ((AV.isBool (AV.eqB (AV.bin Go.BinOp.eql (AV.prj r321 1) (AV.int 0)) (AV.bin Go.BinOp.neq r1601 (AV.lit (Value.string ⟨#[]⟩))))) ∧
  ((isT (AV.eqB (AV.bin Go.BinOp.eql (AV.prj r321 1) (AV.int 0)) (AV.bin Go.BinOp.neq r1601 (AV.lit (Value.string ⟨#[]⟩))))) ∧
  ((AV.binOk Go.BinOp.neq r1601 (AV.lit (Value.string ⟨#[]⟩))) ∧
  ((AV.isBool (AV.bin Go.BinOp.neq r1601 (AV.lit (Value.string ⟨#[]⟩)))) ∧
  (((isT (AV.bin Go.BinOp.neq r1601 (AV.lit (Value.string ⟨#[]⟩)))) →
    ((AV.isBool (AV.bin Go.BinOp.neq r1601 (AV.lit (Value.string ⟨#[]⟩)))) ∧
    ((isT (AV.bin Go.BinOp.neq r1601 (AV.lit (Value.string ⟨#[]⟩)))) ∧
    ((AV.isBool (AV.eqB (AV.bin Go.BinOp.eql (AV.prj r321 1) (AV.int 0)) (AV.bin Go.BinOp.neq r1601 (AV.lit (Value.string ⟨#[]⟩))))) ∧
    ((isT (AV.eqB (AV.bin Go.BinOp.eql (AV.prj r321 1) (AV.int 0)) (AV.bin Go.BinOp.neq r1601 (AV.lit (Value.string ⟨#[]⟩))))) ∧
    ((AV.flat (AV.bool true)) ∧
    (fSame (AV.bool true) r))))))) ∧
  ((isF (AV.bin Go.BinOp.neq r1601 (AV.lit (Value.string ⟨#[]⟩)))) →
    ((AV.binOk Go.BinOp.eql (AV.prj r321 1) (AV.int 8)) ∧
    ((AV.isBool (AV.bin Go.BinOp.neq r1601 (AV.lit (Value.string ⟨#[]⟩)))) ∧
    ((isF (AV.bin Go.BinOp.neq r1601 (AV.lit (Value.string ⟨#[]⟩)))) ∧
    ((AV.isBool (AV.eqB (AV.bin Go.BinOp.eql (AV.prj r321 1) (AV.int 0)) (AV.bin Go.BinOp.neq r1601 (AV.lit (Value.string ⟨#[]⟩))))) ∧
    ((isT (AV.eqB (AV.bin Go.BinOp.eql (AV.prj r321 1) (AV.int 0)) (AV.bin Go.BinOp.neq r1601 (AV.lit (Value.string ⟨#[]⟩))))) ∧
    ((AV.flat (AV.bin Go.BinOp.eql (AV.prj r321 1) (AV.int 8))) ∧
    (fSame (AV.bin Go.BinOp.eql (AV.prj r321 1) (AV.int 8)) r))))))))))))))))))))))))))))))))))))))))))))))))))))))) := by kernel_rfl
theorem b1_form (x0 r : AV) : fnF Try.prog Γ ann 3 16 Try.f16 (Try.f16.body.getD .skip) (.nil) [x0] (.sc) r = (((AV.flat x0) ∧
(fSame x0 r))) := by kernel_rfl
theorem c1_form (x0 x1 x2 x3 r : AV) : fnF Try.prog Γ ann 3 20 Try.f20 (Try.f20.body.getD .skip) (.nil) [x0, x1, x2, x3] (.sc) r = (((AV.isRef x1 1) ∧
(∃ r193 : AV, ((Fn Try.prog 21 [(AV.der x1), x0] Sh.sc r193) ∧
((AV.isRef x2 1) ∧
((AV.binOk Go.BinOp.neq r193 (AV.der x2)) ∧
((AV.isBool (AV.bin Go.BinOp.neq r193 (AV.der x2))) ∧
(((isT (AV.bin Go.BinOp.neq r193 (AV.der x2))) →
  ((AV.flat r193) ∧
  (fSame r193 r))) ∧
((isF (AV.bin Go.BinOp.neq r193 (AV.der x2))) →
  ((AV.isRef x3 1) ∧
  ((AV.flat (AV.der x3)) ∧
  (fSame (AV.der x3) r)))))))))))) := by kernel_rfl
theorem s1_form (x0 x1 x2 x3 r : AV) : fnF Try.prog Γ ann 3 23 Try.f23 (Try.f23.body.getD .skip) (.nil) [x0, x1, x2, x3] (.sc) r = (((AV.isRef x1 1) ∧
(∃ r193 : AV, ((Fn Try.prog 13 [(AV.der x1), x0] Sh.sc r193) ∧
((AV.isBool r193) ∧
(((isT r193) →
  ((AV.isRef x2 1) ∧
  ((AV.flat (AV.der x2)) ∧
  (fSame (AV.der x2) r)))) ∧
((isF r193) →
  ((AV.isRef x3 1) ∧
  (∃ r385 : AV, ((Fn Try.prog 21 [(AV.der x3), x0] Sh.sc r385) ∧
  ((AV.flat r385) ∧
  (fSame r385 r)))))))))))) := by kernel_rfl
end ConH
end Go.Proofs.Ytpidhccaoponfaa
/- config's laws: what the run ends in. -/
namespace Go.Proofs.Ytpidhccaoponfaa
open Go.RowKit
set_option linter.unusedVariables false
set_option maxRecDepth 100000
namespace ConI
--GAMMA
def Γ : FuncId → Option Ca := fun f =>
  if f = 30 ∨ f = 12 ∨ f = 13 ∨ f = 9 ∨ f = 10 ∨ f = 33 ∨ f = 39 ∨ f = 21 ∨ f = 14 ∨ f = 18 ∨ f = 8 ∨ f = 26 ∨ f = 29 ∨ f = 31 ∨ f = 16 ∨ f = 20 ∨ f = 23 then some (.fn .sc)
  else if f = 11 ∨ f = 17 ∨ f = 22 then some (.fn (.tup [.row 53 2 false, .sc]))
  else if f = 24 then some (.fn (.tup [.sc, .sc]))
  else if f = 25 then some (.fn (.tup [.row 9 1 true, .sc]))
  else if f = 28 then some (.fn (.tup [.row 56 3 true, .sc]))
  else if f = 19 ∨ f = 27 then some (.fn (.row 9 1 true))
  else if f = 34 then some (.nest 53 2 1 9 9)
  else if f = 41 ∨ f = 35 then some (.upd false)
  else if f = 36 then some (.upd true)
  else if f = 52 then some (.fn .sc)
  else some .inl
def ann : FuncId → Nat → LoopEx := fun f r => if f = 37 then ⟨[], [1000000], [], []⟩ else if f = 17 ∧ r = 300012 then ⟨[], [1729], [], []⟩ else if f = 22 ∧ r = 300028 then ⟨[], [1857], [], []⟩ else if f = 22 ∧ r = 20 then ⟨[], [2689], [(2113, 0)], [(2113, 1, 9, 1)]⟩ else if f = 15 ∧ r = 15 then ⟨[], [3457], [(3073, 0)], [(3073, 1, 9, 1)]⟩ else ⟨[], [], [], []⟩
--END GAMMA
theorem begins_form (x0 r : AV) : fnF Try.prog Γ ann 3 4 Try.f4 (Try.f4.body.getD .skip) ((.f (.both (.both (.both .nil (.t (.t .nil))) (.both (.t .nil) (.t .nil))) (.both (.both .nil (.t (.t .nil))) (.both (.t .nil) (.t .nil)))))) [x0] (.sc) r = ((∃ r65 : AV, ((Fn Try.prog 8 [] Sh.sc r65) ∧
((AV.unOk Go.UnOp.not r65) ∧
((AV.isBool (AV.un Go.UnOp.not r65)) ∧
((isF (AV.un Go.UnOp.not r65)) ∧
(∃ r257 : AV, ((Fn Try.prog 11 [x0] (Sh.tup [(Sh.row 53 2 false), Sh.sc]) r257) ∧
((AV.isSl x0 1) ∧
((AV.binOk Go.BinOp.gtr (AV.len x0) (AV.int 12)) ∧
((AV.isBool (AV.bin Go.BinOp.gtr (AV.len x0) (AV.int 12))) ∧
(((isT (AV.bin Go.BinOp.gtr (AV.len x0) (AV.int 12))) →
  (fLoop 1025 [(AV.int 2), (AV.int 0)] fun ys1025 again1025 =>
    ((AV.isSl x0 1) ∧
    ((AV.binOk Go.BinOp.lss (ys1025.getD 1 default) (AV.len x0)) ∧
    ((AV.isBool (AV.bin Go.BinOp.lss (ys1025.getD 1 default) (AV.len x0))) ∧
    (((isT (AV.bin Go.BinOp.lss (ys1025.getD 1 default) (AV.len x0))) →
      ((AV.binOk Go.BinOp.eql (ys1025.getD 0 default) (AV.int 0)) ∧
      ((AV.isBool (AV.bin Go.BinOp.lss (ys1025.getD 1 default) (AV.len x0))) ∧
      ((isT (AV.bin Go.BinOp.lss (ys1025.getD 1 default) (AV.len x0))) ∧
      ((AV.isBool (AV.bin Go.BinOp.eql (ys1025.getD 0 default) (AV.int 0))) ∧
      (((isT (AV.bin Go.BinOp.eql (ys1025.getD 0 default) (AV.int 0))) →
        ((AV.isSl x0 1) ∧
        ((AV.inb x0 (ys1025.getD 1 default)) ∧
        (∃ r1793 : AV, ((Fn Try.prog 12 [(AV.at x0 (ys1025.getD 1 default) 0)] Sh.sc r1793) ∧
        ((AV.unOk Go.UnOp.not r1793) ∧
        ((AV.isBool (AV.un Go.UnOp.not r1793)) ∧
        (((isT (AV.un Go.UnOp.not r1793)) →
          ((AV.binOk Go.BinOp.add (ys1025.getD 1 default) (AV.int 1)) ∧
          (again1025 [(AV.int 3), (AV.bin Go.BinOp.add (ys1025.getD 1 default) (AV.int 1))]))) ∧
        ((isF (AV.un Go.UnOp.not r1793)) →
          ((AV.isSl x0 1) ∧
          ((AV.subOk x0 (AV.int 0) (ys1025.getD 1 default)) ∧
          ((AV.isSl x0 1) ∧
          ((AV.inb x0 (ys1025.getD 1 default)) ∧
          (∃ r2369 : AV, ((Fn Try.prog 13 [(AV.sub 1 x0 (AV.int 0) (ys1025.getD 1 default)), (AV.at x0 (ys1025.getD 1 default) 0)] Sh.sc r2369) ∧
          ((AV.isBool r2369) ∧
          (((isT r2369) →
            ((AV.binOk Go.BinOp.add (ys1025.getD 1 default) (AV.int 1)) ∧
            (again1025 [(AV.int 7), (AV.bin Go.BinOp.add (ys1025.getD 1 default) (AV.int 1))]))) ∧
          ((isF r2369) →
            ((AV.binOk Go.BinOp.add (ys1025.getD 1 default) (AV.int 1)) ∧
            (again1025 [(ys1025.getD 0 default), (AV.bin Go.BinOp.add (ys1025.getD 1 default) (AV.int 1))])))))))))))))))))))) ∧
      ((isF (AV.bin Go.BinOp.eql (ys1025.getD 0 default) (AV.int 0))) →
        ((AV.binOk Go.BinOp.neq (ys1025.getD 0 default) (AV.int 0)) ∧
        ((AV.isBool (AV.bin Go.BinOp.neq (ys1025.getD 0 default) (AV.int 0))) ∧
        ((isT (AV.bin Go.BinOp.neq (ys1025.getD 0 default) (AV.int 0))) ∧
        ((AV.binOk Go.BinOp.eql (AV.prj r257 1) (ys1025.getD 0 default)) ∧
        ((AV.isBool (AV.bin Go.BinOp.eql (AV.prj r257 1) (ys1025.getD 0 default))) ∧
        ((isT (AV.bin Go.BinOp.eql (AV.prj r257 1) (ys1025.getD 0 default))) ∧
        ((AV.binOk Go.BinOp.eql (AV.len (AV.prj r257 0)) (AV.int 0)) ∧
        ((AV.isBool (AV.bin Go.BinOp.eql (AV.prj r257 1) (ys1025.getD 0 default))) ∧
        ((isT (AV.bin Go.BinOp.eql (AV.prj r257 1) (ys1025.getD 0 default))) ∧
        ((AV.flat (AV.bin Go.BinOp.eql (AV.len (AV.prj r257 0)) (AV.int 0))) ∧
        (fSame (AV.bin Go.BinOp.eql (AV.len (AV.prj r257 0)) (AV.int 0)) r)))))))))))))))))) ∧
    ((isF (AV.bin Go.BinOp.lss (ys1025.getD 1 default) (AV.len x0))) →
      ((AV.isBool (AV.bin Go.BinOp.lss (ys1025.getD 1 default) (AV.len x0))) ∧
      ((isF (AV.bin Go.BinOp.lss (ys1025.getD 1 default) (AV.len x0))) ∧
      ((AV.binOk Go.BinOp.neq (ys1025.getD 0 default) (AV.int 0)) ∧
      ((AV.isBool (AV.bin Go.BinOp.neq (ys1025.getD 0 default) (AV.int 0))) ∧
      (((isT (AV.bin Go.BinOp.neq (ys1025.getD 0 default) (AV.int 0))) →
        ((AV.binOk Go.BinOp.eql (AV.prj r257 1) (ys1025.getD 0 default)) ∧
        ((AV.isBool (AV.bin Go.BinOp.eql (AV.prj r257 1) (ys1025.getD 0 default))) ∧
        ((isT (AV.bin Go.BinOp.eql (AV.prj r257 1) (ys1025.getD 0 default))) ∧
        ((AV.binOk Go.BinOp.eql (AV.len (AV.prj r257 0)) (AV.int 0)) ∧
        ((AV.isBool (AV.bin Go.BinOp.eql (AV.prj r257 1) (ys1025.getD 0 default))) ∧
        ((isT (AV.bin Go.BinOp.eql (AV.prj r257 1) (ys1025.getD 0 default))) ∧
        ((AV.flat (AV.bin Go.BinOp.eql (AV.len (AV.prj r257 0)) (AV.int 0))) ∧
        (fSame (AV.bin Go.BinOp.eql (AV.len (AV.prj r257 0)) (AV.int 0)) r))))))))) ∧
      ((isF (AV.bin Go.BinOp.neq (ys1025.getD 0 default) (AV.int 0))) →
        ((AV.binOk Go.BinOp.eql (AV.prj r257 1) (AV.int 0)) ∧
        ((AV.isBool (AV.bin Go.BinOp.eql (AV.prj r257 1) (AV.int 0))) ∧
        ((isT (AV.bin Go.BinOp.eql (AV.prj r257 1) (AV.int 0))) ∧
        ((fEnt Try.prog 15) ∧
        (fAllV fun _ => ((AV.isSl x0 1) ∧
        (fLoop 2369 [(AV.int 0), (AV.mk 1 [])] fun ys2369 again2369 =>
          ((AV.binOk Go.BinOp.lss (ys2369.getD 0 default) (AV.len x0)) ∧
          ((AV.isBool (AV.bin Go.BinOp.lss (ys2369.getD 0 default) (AV.len x0))) ∧
          (((isT (AV.bin Go.BinOp.lss (ys2369.getD 0 default) (AV.len x0))) →
            ((AV.isSl x0 1) ∧
            ((AV.inb x0 (ys2369.getD 0 default)) ∧
            (∃ r2753 : AV, ((Fn Try.prog 16 [(AV.at x0 (ys2369.getD 0 default) 0)] Sh.sc r2753) ∧
            (∃ r3009 : AV, ((Fn Try.prog 13 [(ys2369.getD 1 default), r2753] Sh.sc r3009) ∧
            ((AV.unOk Go.UnOp.not r3009) ∧
            ((AV.isBool (AV.un Go.UnOp.not r3009)) ∧
            (((isT (AV.un Go.UnOp.not r3009)) →
              ((AV.isOne r2753) ∧
              ((AV.room (ys2369.getD 1 default) (AV.mk 1 [[r2753]]) 16) ∧
              ((AV.binOk Go.BinOp.add (ys2369.getD 0 default) (AV.int 1)) ∧
              (again2369 [(AV.bin Go.BinOp.add (ys2369.getD 0 default) (AV.int 1)), (AV.app 1 (ys2369.getD 1 default) (AV.mk 1 [[r2753]]))]))))) ∧
            ((isF (AV.un Go.UnOp.not r3009)) →
              ((AV.binOk Go.BinOp.add (ys2369.getD 0 default) (AV.int 1)) ∧
              (again2369 [(AV.bin Go.BinOp.add (ys2369.getD 0 default) (AV.int 1)), (ys2369.getD 1 default)]))))))))))))) ∧
          ((isF (AV.bin Go.BinOp.lss (ys2369.getD 0 default) (AV.len x0))) →
            (∃ r2561 : AV, ((Fn Try.prog 27 [(ys2369.getD 1 default)] (Sh.row 9 1 true) r2561) ∧
            (fLoop 2753 [(AV.int 0), (AV.mk 2 [])] fun ys2753 again2753 =>
              ((AV.binOk Go.BinOp.lss (ys2753.getD 0 default) (AV.len r2561)) ∧
              ((AV.isBool (AV.bin Go.BinOp.lss (ys2753.getD 0 default) (AV.len r2561))) ∧
              (((isT (AV.bin Go.BinOp.lss (ys2753.getD 0 default) (AV.len r2561))) →
                ((AV.inb r2561 (ys2753.getD 0 default)) ∧
                ((AV.inb r2561 (ys2753.getD 0 default)) ∧
                ((AV.isOne (AV.at r2561 (ys2753.getD 0 default) 0)) ∧
                (∃ r3329 : AV, ((Fn Try.prog 27 [x0] (Sh.row 9 1 true) r3329) ∧
                (fStuck "a loop: what it carries"))))))) ∧
              ((isF (AV.bin Go.BinOp.lss (ys2753.getD 0 default) (AV.len r2561))) →
                (∃ r3009 : AV, ((Fn Try.prog 14 [(AV.prj r257 0), (ys2753.getD 1 default)] Sh.sc r3009) ∧
                ((AV.isBool (AV.bin Go.BinOp.eql (AV.prj r257 1) (AV.int 0))) ∧
                ((isT (AV.bin Go.BinOp.eql (AV.prj r257 1) (AV.int 0))) ∧
                ((AV.flat r3009) ∧
                (fSame r3009 r))))))))))))))))))))))))))))))))))))) ∧
((isF (AV.bin Go.BinOp.gtr (AV.len x0) (AV.int 12))) →
  (fLoop 961 [(AV.int 0), (AV.int 0)] fun ys961 again961 =>
    ((AV.isSl x0 1) ∧
    ((AV.binOk Go.BinOp.lss (ys961.getD 1 default) (AV.len x0)) ∧
    ((AV.isBool (AV.bin Go.BinOp.lss (ys961.getD 1 default) (AV.len x0))) ∧
    (((isT (AV.bin Go.BinOp.lss (ys961.getD 1 default) (AV.len x0))) →
      ((AV.binOk Go.BinOp.eql (ys961.getD 0 default) (AV.int 0)) ∧
      ((AV.isBool (AV.bin Go.BinOp.lss (ys961.getD 1 default) (AV.len x0))) ∧
      ((isT (AV.bin Go.BinOp.lss (ys961.getD 1 default) (AV.len x0))) ∧
      ((AV.isBool (AV.bin Go.BinOp.eql (ys961.getD 0 default) (AV.int 0))) ∧
      (((isT (AV.bin Go.BinOp.eql (ys961.getD 0 default) (AV.int 0))) →
        ((AV.isSl x0 1) ∧
        ((AV.inb x0 (ys961.getD 1 default)) ∧
        (∃ r1729 : AV, ((Fn Try.prog 12 [(AV.at x0 (ys961.getD 1 default) 0)] Sh.sc r1729) ∧
        ((AV.unOk Go.UnOp.not r1729) ∧
        ((AV.isBool (AV.un Go.UnOp.not r1729)) ∧
        (((isT (AV.un Go.UnOp.not r1729)) →
          ((AV.binOk Go.BinOp.add (ys961.getD 1 default) (AV.int 1)) ∧
          (again961 [(AV.int 3), (AV.bin Go.BinOp.add (ys961.getD 1 default) (AV.int 1))]))) ∧
        ((isF (AV.un Go.UnOp.not r1729)) →
          ((AV.isSl x0 1) ∧
          ((AV.subOk x0 (AV.int 0) (ys961.getD 1 default)) ∧
          ((AV.isSl x0 1) ∧
          ((AV.inb x0 (ys961.getD 1 default)) ∧
          (∃ r2305 : AV, ((Fn Try.prog 13 [(AV.sub 1 x0 (AV.int 0) (ys961.getD 1 default)), (AV.at x0 (ys961.getD 1 default) 0)] Sh.sc r2305) ∧
          ((AV.isBool r2305) ∧
          (((isT r2305) →
            ((AV.binOk Go.BinOp.add (ys961.getD 1 default) (AV.int 1)) ∧
            (again961 [(AV.int 7), (AV.bin Go.BinOp.add (ys961.getD 1 default) (AV.int 1))]))) ∧
          ((isF r2305) →
            ((AV.binOk Go.BinOp.add (ys961.getD 1 default) (AV.int 1)) ∧
            (again961 [(ys961.getD 0 default), (AV.bin Go.BinOp.add (ys961.getD 1 default) (AV.int 1))])))))))))))))))))))) ∧
      ((isF (AV.bin Go.BinOp.eql (ys961.getD 0 default) (AV.int 0))) →
        ((AV.binOk Go.BinOp.neq (ys961.getD 0 default) (AV.int 0)) ∧
        ((AV.isBool (AV.bin Go.BinOp.neq (ys961.getD 0 default) (AV.int 0))) ∧
        ((isT (AV.bin Go.BinOp.neq (ys961.getD 0 default) (AV.int 0))) ∧
        ((AV.binOk Go.BinOp.eql (AV.prj r257 1) (ys961.getD 0 default)) ∧
        ((AV.isBool (AV.bin Go.BinOp.eql (AV.prj r257 1) (ys961.getD 0 default))) ∧
        ((isT (AV.bin Go.BinOp.eql (AV.prj r257 1) (ys961.getD 0 default))) ∧
        ((AV.binOk Go.BinOp.eql (AV.len (AV.prj r257 0)) (AV.int 0)) ∧
        ((AV.isBool (AV.bin Go.BinOp.eql (AV.prj r257 1) (ys961.getD 0 default))) ∧
        ((isT (AV.bin Go.BinOp.eql (AV.prj r257 1) (ys961.getD 0 default))) ∧
        ((AV.flat (AV.bin Go.BinOp.eql (AV.len (AV.prj r257 0)) (AV.int 0))) ∧
        (fSame (AV.bin Go.BinOp.eql (AV.len (AV.prj r257 0)) (AV.int 0)) r)))))))))))))))))) ∧
    ((isF (AV.bin Go.BinOp.lss (ys961.getD 1 default) (AV.len x0))) →
      ((AV.isBool (AV.bin Go.BinOp.lss (ys961.getD 1 default) (AV.len x0))) ∧
      ((isF (AV.bin Go.BinOp.lss (ys961.getD 1 default) (AV.len x0))) ∧
      ((AV.binOk Go.BinOp.neq (ys961.getD 0 default) (AV.int 0)) ∧
      ((AV.isBool (AV.bin Go.BinOp.neq (ys961.getD 0 default) (AV.int 0))) ∧
      (((isT (AV.bin Go.BinOp.neq (ys961.getD 0 default) (AV.int 0))) →
        ((AV.binOk Go.BinOp.eql (AV.prj r257 1) (ys961.getD 0 default)) ∧
        ((AV.isBool (AV.bin Go.BinOp.eql (AV.prj r257 1) (ys961.getD 0 default))) ∧
        ((isT (AV.bin Go.BinOp.eql (AV.prj r257 1) (ys961.getD 0 default))) ∧
        ((AV.binOk Go.BinOp.eql (AV.len (AV.prj r257 0)) (AV.int 0)) ∧
        ((AV.isBool (AV.bin Go.BinOp.eql (AV.prj r257 1) (ys961.getD 0 default))) ∧
        ((isT (AV.bin Go.BinOp.eql (AV.prj r257 1) (ys961.getD 0 default))) ∧
        ((AV.flat (AV.bin Go.BinOp.eql (AV.len (AV.prj r257 0)) (AV.int 0))) ∧
        (fSame (AV.bin Go.BinOp.eql (AV.len (AV.prj r257 0)) (AV.int 0)) r))))))))) ∧
      ((isF (AV.bin Go.BinOp.neq (ys961.getD 0 default) (AV.int 0))) →
        ((AV.binOk Go.BinOp.eql (AV.prj r257 1) (AV.int 0)) ∧
        ((AV.isBool (AV.bin Go.BinOp.eql (AV.prj r257 1) (AV.int 0))) ∧
        ((isT (AV.bin Go.BinOp.eql (AV.prj r257 1) (AV.int 0))) ∧
        ((fEnt Try.prog 15) ∧
        (fAllV fun _ => ((AV.isSl x0 1) ∧
        (fLoop 2305 [(AV.int 0), (AV.mk 1 [])] fun ys2305 again2305 =>
          ((AV.binOk Go.BinOp.lss (ys2305.getD 0 default) (AV.len x0)) ∧
          ((AV.isBool (AV.bin Go.BinOp.lss (ys2305.getD 0 default) (AV.len x0))) ∧
          (((isT (AV.bin Go.BinOp.lss (ys2305.getD 0 default) (AV.len x0))) →
            ((AV.isSl x0 1) ∧
            ((AV.inb x0 (ys2305.getD 0 default)) ∧
            (∃ r2689 : AV, ((Fn Try.prog 16 [(AV.at x0 (ys2305.getD 0 default) 0)] Sh.sc r2689) ∧
            (∃ r2945 : AV, ((Fn Try.prog 13 [(ys2305.getD 1 default), r2689] Sh.sc r2945) ∧
            ((AV.unOk Go.UnOp.not r2945) ∧
            ((AV.isBool (AV.un Go.UnOp.not r2945)) ∧
            (((isT (AV.un Go.UnOp.not r2945)) →
              ((AV.isOne r2689) ∧
              ((AV.room (ys2305.getD 1 default) (AV.mk 1 [[r2689]]) 16) ∧
              ((AV.binOk Go.BinOp.add (ys2305.getD 0 default) (AV.int 1)) ∧
              (again2305 [(AV.bin Go.BinOp.add (ys2305.getD 0 default) (AV.int 1)), (AV.app 1 (ys2305.getD 1 default) (AV.mk 1 [[r2689]]))]))))) ∧
            ((isF (AV.un Go.UnOp.not r2945)) →
              ((AV.binOk Go.BinOp.add (ys2305.getD 0 default) (AV.int 1)) ∧
              (again2305 [(AV.bin Go.BinOp.add (ys2305.getD 0 default) (AV.int 1)), (ys2305.getD 1 default)]))))))))))))) ∧
          ((isF (AV.bin Go.BinOp.lss (ys2305.getD 0 default) (AV.len x0))) →
            (∃ r2497 : AV, ((Fn Try.prog 27 [(ys2305.getD 1 default)] (Sh.row 9 1 true) r2497) ∧
            (fLoop 2689 [(AV.int 0), (AV.mk 2 [])] fun ys2689 again2689 =>
              ((AV.binOk Go.BinOp.lss (ys2689.getD 0 default) (AV.len r2497)) ∧
              ((AV.isBool (AV.bin Go.BinOp.lss (ys2689.getD 0 default) (AV.len r2497))) ∧
              (((isT (AV.bin Go.BinOp.lss (ys2689.getD 0 default) (AV.len r2497))) →
                ((AV.inb r2497 (ys2689.getD 0 default)) ∧
                ((AV.inb r2497 (ys2689.getD 0 default)) ∧
                ((AV.isOne (AV.at r2497 (ys2689.getD 0 default) 0)) ∧
                (∃ r3265 : AV, ((Fn Try.prog 27 [x0] (Sh.row 9 1 true) r3265) ∧
                (fLoop 3521 [(AV.int 0), (AV.mk 1 []), (AV.at r2497 (ys2689.getD 0 default) 0)] fun ys3521 again3521 =>
                  ((AV.binOk Go.BinOp.lss (ys3521.getD 0 default) (AV.len r3265)) ∧
                  ((AV.isBool (AV.bin Go.BinOp.lss (ys3521.getD 0 default) (AV.len r3265))) ∧
                  (((isT (AV.bin Go.BinOp.lss (ys3521.getD 0 default) (AV.len r3265))) →
                    ((AV.inb r3265 (ys3521.getD 0 default)) ∧
                    ((AV.inb r3265 (ys3521.getD 0 default)) ∧
                    (∃ r3905 : AV, ((Fn Try.prog 16 [(AV.at r3265 (ys3521.getD 0 default) 0)] Sh.sc r3905) ∧
                    ((AV.binOk Go.BinOp.eql r3905 (AV.at r2497 (ys2689.getD 0 default) 0)) ∧
                    ((AV.isBool (AV.bin Go.BinOp.eql r3905 (AV.at r2497 (ys2689.getD 0 default) 0))) ∧
                    (((isT (AV.bin Go.BinOp.eql r3905 (AV.at r2497 (ys2689.getD 0 default) 0))) →
                      ((AV.isOne (AV.at r3265 (ys3521.getD 0 default) 0)) ∧
                      ((AV.room (ys3521.getD 1 default) (AV.mk 1 [[(AV.at r3265 (ys3521.getD 0 default) 0)]]) 16) ∧
                      ((AV.binOk Go.BinOp.add (ys3521.getD 0 default) (AV.int 1)) ∧
                      (again3521 [(AV.bin Go.BinOp.add (ys3521.getD 0 default) (AV.int 1)), (AV.app 1 (ys3521.getD 1 default) (AV.mk 1 [[(AV.at r3265 (ys3521.getD 0 default) 0)]])), (ys3521.getD 2 default)]))))) ∧
                    ((isF (AV.bin Go.BinOp.eql r3905 (AV.at r2497 (ys2689.getD 0 default) 0))) →
                      ((AV.binOk Go.BinOp.add (ys3521.getD 0 default) (AV.int 1)) ∧
                      (again3521 [(AV.bin Go.BinOp.add (ys3521.getD 0 default) (AV.int 1)), (ys3521.getD 1 default), (ys3521.getD 2 default)]))))))))))) ∧
                  ((isF (AV.bin Go.BinOp.lss (ys3521.getD 0 default) (AV.len r3265))) →
                    ((AV.room (ys2689.getD 1 default) (AV.mk 2 [[(ys3521.getD 2 default), (ys3521.getD 1 default)]]) 40) ∧
                    ((AV.binOk Go.BinOp.add (ys2689.getD 0 default) (AV.int 1)) ∧
                    (again2689 [(AV.bin Go.BinOp.add (ys2689.getD 0 default) (AV.int 1)), (AV.app 2 (ys2689.getD 1 default) (AV.mk 2 [[(ys3521.getD 2 default), (ys3521.getD 1 default)]]))])))))))))))))) ∧
              ((isF (AV.bin Go.BinOp.lss (ys2689.getD 0 default) (AV.len r2497))) →
                (∃ r2945 : AV, ((Fn Try.prog 14 [(AV.prj r257 0), (ys2689.getD 1 default)] Sh.sc r2945) ∧
                ((AV.isBool (AV.bin Go.BinOp.eql (AV.prj r257 1) (AV.int 0))) ∧
                ((isT (AV.bin Go.BinOp.eql (AV.prj r257 1) (AV.int 0))) ∧
                ((AV.flat r2945) ∧
                (fSame r2945 r))))))))))))))))))))))))))))))))))))))))))))))))) := by kernel_rfl
end ConI
end Go.Proofs.Ytpidhccaoponfaa
/- config's laws: what the run ends in. -/
namespace Go.Proofs.Ytpidhccaoponfaa
open Go.RowKit
set_option linter.unusedVariables false
set_option maxRecDepth 100000
namespace ConJ
--GAMMA
def Γ : FuncId → Option Ca := fun f =>
  if f = 30 ∨ f = 12 ∨ f = 13 ∨ f = 9 ∨ f = 10 ∨ f = 33 ∨ f = 39 ∨ f = 21 ∨ f = 14 ∨ f = 18 ∨ f = 8 ∨ f = 26 ∨ f = 29 ∨ f = 31 ∨ f = 16 ∨ f = 20 ∨ f = 23 then some (.fn .sc)
  else if f = 11 ∨ f = 17 ∨ f = 22 then some (.fn (.tup [.row 53 2 false, .sc]))
  else if f = 24 then some (.fn (.tup [.sc, .sc]))
  else if f = 25 then some (.fn (.tup [.row 9 1 true, .sc]))
  else if f = 28 then some (.fn (.tup [.row 56 3 true, .sc]))
  else if f = 19 ∨ f = 27 then some (.fn (.row 9 1 true))
  else if f = 34 then some (.nest 53 2 1 9 9)
  else if f = 41 ∨ f = 35 then some (.upd false)
  else if f = 36 then some (.upd true)
  else if f = 52 then some (.fn .sc)
  else some .inl
def ann : FuncId → Nat → LoopEx := fun f r => if f = 37 then ⟨[], [1000000], [], []⟩ else if f = 17 ∧ r = 300012 then ⟨[], [1729], [], []⟩ else if f = 22 ∧ r = 300028 then ⟨[], [1857], [], []⟩ else if f = 22 ∧ r = 20 then ⟨[], [2689], [(2113, 0)], [(2113, 1, 9, 1)]⟩ else if f = 15 ∧ r = 15 then ⟨[], [4609], [(4225, 0)], [(4225, 1, 9, 1)]⟩ else ⟨[], [], [], []⟩
--END GAMMA
theorem combines_form (x0 x1 x2 r : AV) : fnF Try.prog Γ ann 3 5 Try.f5 (Try.f5.body.getD .skip) ((.f (.both (.both (.t .nil) (.both (.t .nil) (.t (.both (.t .nil) (.f (.t .nil)))))) (.f (.t (.t .nil)))))) [x0, x1, x2] (.sc) r = (((AV.isOne x0) ∧
((AV.isOne x1) ∧
((AV.isOne x2) ∧
(∃ r257 : AV, ((Fn Try.prog 8 [] Sh.sc r257) ∧
((AV.unOk Go.UnOp.not r257) ∧
((AV.isBool (AV.un Go.UnOp.not r257)) ∧
((isF (AV.un Go.UnOp.not r257)) ∧
(∃ r577 : AV, ((Fn Try.prog 17 [x0, x1, x2] (Sh.tup [(Sh.row 53 2 false), Sh.sc]) r577) ∧
(∃ r1025 : AV, ((Fn Try.prog 10 [x0] Sh.sc r1025) ∧
((AV.binOk Go.BinOp.eql r1025 (AV.int 0)) ∧
((AV.isBool (AV.bin Go.BinOp.eql r1025 (AV.int 0))) ∧
(((isT (AV.bin Go.BinOp.eql r1025 (AV.int 0))) →
  (∃ r1473 : AV, ((Fn Try.prog 18 [x0, x1] Sh.sc r1473) ∧
  ((AV.unOk Go.UnOp.not r1473) ∧
  ((AV.isBool (AV.un Go.UnOp.not r1473)) ∧
  (((isT (AV.un Go.UnOp.not r1473)) →
    ((AV.isBool (AV.un Go.UnOp.not r1473)) ∧
    ((isT (AV.un Go.UnOp.not r1473)) ∧
    ((AV.isBool (AV.bin Go.BinOp.eql r1025 (AV.int 0))) ∧
    ((isT (AV.bin Go.BinOp.eql r1025 (AV.int 0))) ∧
    ((AV.binOk Go.BinOp.eql (AV.prj r577 1) (AV.int 8)) ∧
    ((AV.isBool (AV.bin Go.BinOp.eql (AV.prj r577 1) (AV.int 8))) ∧
    ((isT (AV.bin Go.BinOp.eql (AV.prj r577 1) (AV.int 8))) ∧
    ((AV.binOk Go.BinOp.eql (AV.len (AV.prj r577 0)) (AV.int 0)) ∧
    ((AV.isBool (AV.bin Go.BinOp.eql (AV.prj r577 1) (AV.int 8))) ∧
    ((isT (AV.bin Go.BinOp.eql (AV.prj r577 1) (AV.int 8))) ∧
    ((AV.flat (AV.bin Go.BinOp.eql (AV.len (AV.prj r577 0)) (AV.int 0))) ∧
    (fSame (AV.bin Go.BinOp.eql (AV.len (AV.prj r577 0)) (AV.int 0)) r))))))))))))) ∧
  ((isF (AV.un Go.UnOp.not r1473)) →
    (∃ r1793 : AV, ((Fn Try.prog 18 [x0, x2] Sh.sc r1793) ∧
    ((AV.unOk Go.UnOp.not r1793) ∧
    ((AV.isBool (AV.un Go.UnOp.not r1473)) ∧
    ((isF (AV.un Go.UnOp.not r1473)) ∧
    ((AV.isBool (AV.bin Go.BinOp.eql r1025 (AV.int 0))) ∧
    ((isT (AV.bin Go.BinOp.eql r1025 (AV.int 0))) ∧
    ((AV.isBool (AV.un Go.UnOp.not r1793)) ∧
    (((isT (AV.un Go.UnOp.not r1793)) →
      ((AV.binOk Go.BinOp.eql (AV.prj r577 1) (AV.int 8)) ∧
      ((AV.isBool (AV.bin Go.BinOp.eql (AV.prj r577 1) (AV.int 8))) ∧
      ((isT (AV.bin Go.BinOp.eql (AV.prj r577 1) (AV.int 8))) ∧
      ((AV.binOk Go.BinOp.eql (AV.len (AV.prj r577 0)) (AV.int 0)) ∧
      ((AV.isBool (AV.bin Go.BinOp.eql (AV.prj r577 1) (AV.int 8))) ∧
      ((isT (AV.bin Go.BinOp.eql (AV.prj r577 1) (AV.int 8))) ∧
      ((AV.flat (AV.bin Go.BinOp.eql (AV.len (AV.prj r577 0)) (AV.int 0))) ∧
      (fSame (AV.bin Go.BinOp.eql (AV.len (AV.prj r577 0)) (AV.int 0)) r))))))))) ∧
    ((isF (AV.un Go.UnOp.not r1793)) →
      ((AV.binOk Go.BinOp.eql r1025 (AV.int 0)) ∧
      ((AV.isBool (AV.bin Go.BinOp.eql r1025 (AV.int 0))) ∧
      ((isT (AV.bin Go.BinOp.eql r1025 (AV.int 0))) ∧
      ((AV.binOk Go.BinOp.eql x1 x2) ∧
      ((AV.isBool (AV.bin Go.BinOp.eql r1025 (AV.int 0))) ∧
      ((isT (AV.bin Go.BinOp.eql r1025 (AV.int 0))) ∧
      ((AV.isBool (AV.bin Go.BinOp.eql x1 x2)) ∧
      (((isT (AV.bin Go.BinOp.eql x1 x2)) →
        ((AV.binOk Go.BinOp.eql (AV.prj r577 1) (AV.int 1)) ∧
        ((AV.isBool (AV.bin Go.BinOp.eql (AV.prj r577 1) (AV.int 1))) ∧
        ((isT (AV.bin Go.BinOp.eql (AV.prj r577 1) (AV.int 1))) ∧
        ((AV.binOk Go.BinOp.eql (AV.len (AV.prj r577 0)) (AV.int 0)) ∧
        ((AV.isBool (AV.bin Go.BinOp.eql (AV.prj r577 1) (AV.int 1))) ∧
        ((isT (AV.bin Go.BinOp.eql (AV.prj r577 1) (AV.int 1))) ∧
        ((AV.flat (AV.bin Go.BinOp.eql (AV.len (AV.prj r577 0)) (AV.int 0))) ∧
        (fSame (AV.bin Go.BinOp.eql (AV.len (AV.prj r577 0)) (AV.int 0)) r))))))))) ∧
      ((isF (AV.bin Go.BinOp.eql x1 x2)) →
        ((AV.binOk Go.BinOp.neq r1025 (AV.int 0)) ∧
        ((AV.isBool (AV.bin Go.BinOp.neq r1025 (AV.int 0))) ∧
        ((isF (AV.bin Go.BinOp.neq r1025 (AV.int 0))) ∧
        ((AV.binOk Go.BinOp.eql (AV.prj r577 1) (AV.int 0)) ∧
        ((AV.isBool (AV.bin Go.BinOp.eql (AV.prj r577 1) (AV.int 0))) ∧
        ((isT (AV.bin Go.BinOp.eql (AV.prj r577 1) (AV.int 0))) ∧
        (∃ r2945 : AV, ((Fn Try.prog 19 [x0] (Sh.row 9 1 true) r2945) ∧
        ((fEnt Try.prog 15) ∧
        (fAllV fun _ => (fLoop 3457 [(AV.int 0), (AV.mk 1 [])] fun ys3457 again3457 =>
          ((AV.binOk Go.BinOp.lss (ys3457.getD 0 default) (AV.len r2945)) ∧
          ((AV.isBool (AV.bin Go.BinOp.lss (ys3457.getD 0 default) (AV.len r2945))) ∧
          (((isT (AV.bin Go.BinOp.lss (ys3457.getD 0 default) (AV.len r2945))) →
            ((AV.inb r2945 (ys3457.getD 0 default)) ∧
            ((AV.inb r2945 (ys3457.getD 0 default)) ∧
            (∃ r3841 : AV, ((Fn Try.prog 20 [(AV.at r2945 (ys3457.getD 0 default) 0), (AV.mkRef [x0]), (AV.mkRef [x2]), (AV.mkRef [x1])] Sh.sc r3841) ∧
            (∃ r4097 : AV, ((Fn Try.prog 13 [(ys3457.getD 1 default), r3841] Sh.sc r4097) ∧
            ((AV.unOk Go.UnOp.not r4097) ∧
            ((AV.isBool (AV.un Go.UnOp.not r4097)) ∧
            (((isT (AV.un Go.UnOp.not r4097)) →
              ((AV.isOne r3841) ∧
              ((AV.room (ys3457.getD 1 default) (AV.mk 1 [[r3841]]) 16) ∧
              ((AV.binOk Go.BinOp.add (ys3457.getD 0 default) (AV.int 1)) ∧
              (again3457 [(AV.bin Go.BinOp.add (ys3457.getD 0 default) (AV.int 1)), (AV.app 1 (ys3457.getD 1 default) (AV.mk 1 [[r3841]]))]))))) ∧
            ((isF (AV.un Go.UnOp.not r4097)) →
              ((AV.binOk Go.BinOp.add (ys3457.getD 0 default) (AV.int 1)) ∧
              (again3457 [(AV.bin Go.BinOp.add (ys3457.getD 0 default) (AV.int 1)), (ys3457.getD 1 default)]))))))))))))) ∧
          ((isF (AV.bin Go.BinOp.lss (ys3457.getD 0 default) (AV.len r2945))) →
            (∃ r3649 : AV, ((Fn Try.prog 27 [(ys3457.getD 1 default)] (Sh.row 9 1 true) r3649) ∧
            (fLoop 3841 [(AV.int 0), (AV.mk 2 [])] fun ys3841 again3841 =>
              ((AV.binOk Go.BinOp.lss (ys3841.getD 0 default) (AV.len r3649)) ∧
              ((AV.isBool (AV.bin Go.BinOp.lss (ys3841.getD 0 default) (AV.len r3649))) ∧
              (((isT (AV.bin Go.BinOp.lss (ys3841.getD 0 default) (AV.len r3649))) →
                ((AV.inb r3649 (ys3841.getD 0 default)) ∧
                ((AV.inb r3649 (ys3841.getD 0 default)) ∧
                ((AV.isOne (AV.at r3649 (ys3841.getD 0 default) 0)) ∧
                (∃ r4417 : AV, ((Fn Try.prog 27 [r2945] (Sh.row 9 1 true) r4417) ∧
                (fLoop 4673 [(AV.int 0), (AV.mk 1 []), (AV.at r3649 (ys3841.getD 0 default) 0)] fun ys4673 again4673 =>
                  ((AV.binOk Go.BinOp.lss (ys4673.getD 0 default) (AV.len r4417)) ∧
                  ((AV.isBool (AV.bin Go.BinOp.lss (ys4673.getD 0 default) (AV.len r4417))) ∧
                  (((isT (AV.bin Go.BinOp.lss (ys4673.getD 0 default) (AV.len r4417))) →
                    ((AV.inb r4417 (ys4673.getD 0 default)) ∧
                    ((AV.inb r4417 (ys4673.getD 0 default)) ∧
                    (∃ r5057 : AV, ((Fn Try.prog 20 [(AV.at r4417 (ys4673.getD 0 default) 0), (AV.mkRef [x0]), (AV.mkRef [x2]), (AV.mkRef [x1])] Sh.sc r5057) ∧
                    ((AV.binOk Go.BinOp.eql r5057 (AV.at r3649 (ys3841.getD 0 default) 0)) ∧
                    ((AV.isBool (AV.bin Go.BinOp.eql r5057 (AV.at r3649 (ys3841.getD 0 default) 0))) ∧
                    (((isT (AV.bin Go.BinOp.eql r5057 (AV.at r3649 (ys3841.getD 0 default) 0))) →
                      ((AV.isOne (AV.at r4417 (ys4673.getD 0 default) 0)) ∧
                      ((AV.room (ys4673.getD 1 default) (AV.mk 1 [[(AV.at r4417 (ys4673.getD 0 default) 0)]]) 16) ∧
                      ((AV.binOk Go.BinOp.add (ys4673.getD 0 default) (AV.int 1)) ∧
                      (again4673 [(AV.bin Go.BinOp.add (ys4673.getD 0 default) (AV.int 1)), (AV.app 1 (ys4673.getD 1 default) (AV.mk 1 [[(AV.at r4417 (ys4673.getD 0 default) 0)]])), (ys4673.getD 2 default)]))))) ∧
                    ((isF (AV.bin Go.BinOp.eql r5057 (AV.at r3649 (ys3841.getD 0 default) 0))) →
                      ((AV.binOk Go.BinOp.add (ys4673.getD 0 default) (AV.int 1)) ∧
                      (again4673 [(AV.bin Go.BinOp.add (ys4673.getD 0 default) (AV.int 1)), (ys4673.getD 1 default), (ys4673.getD 2 default)]))))))))))) ∧
                  ((isF (AV.bin Go.BinOp.lss (ys4673.getD 0 default) (AV.len r4417))) →
                    ((AV.room (ys3841.getD 1 default) (AV.mk 2 [[(ys4673.getD 2 default), (ys4673.getD 1 default)]]) 40) ∧
                    ((AV.binOk Go.BinOp.add (ys3841.getD 0 default) (AV.int 1)) ∧
                    (again3841 [(AV.bin Go.BinOp.add (ys3841.getD 0 default) (AV.int 1)), (AV.app 2 (ys3841.getD 1 default) (AV.mk 2 [[(ys4673.getD 2 default), (ys4673.getD 1 default)]]))])))))))))))))) ∧
              ((isF (AV.bin Go.BinOp.lss (ys3841.getD 0 default) (AV.len r3649))) →
                (∃ r4097 : AV, ((Fn Try.prog 14 [(AV.prj r577 0), (ys3841.getD 1 default)] Sh.sc r4097) ∧
                ((AV.isBool (AV.bin Go.BinOp.eql (AV.prj r577 1) (AV.int 0))) ∧
                ((isT (AV.bin Go.BinOp.eql (AV.prj r577 1) (AV.int 0))) ∧
                ((AV.flat r4097) ∧
                (fSame r4097 r)))))))))))))))))))))))))))))))))))))))))))))))))))))) ∧
((isF (AV.bin Go.BinOp.eql r1025 (AV.int 0))) →
  ((AV.isBool (AV.bin Go.BinOp.eql r1025 (AV.int 0))) ∧
  ((isF (AV.bin Go.BinOp.eql r1025 (AV.int 0))) ∧
  ((AV.binOk Go.BinOp.eql r1025 (AV.int 0)) ∧
  ((AV.isBool (AV.bin Go.BinOp.eql r1025 (AV.int 0))) ∧
  ((isF (AV.bin Go.BinOp.eql r1025 (AV.int 0))) ∧
  ((AV.isBool (AV.bin Go.BinOp.eql r1025 (AV.int 0))) ∧
  ((isF (AV.bin Go.BinOp.eql r1025 (AV.int 0))) ∧
  ((AV.binOk Go.BinOp.neq r1025 (AV.int 0)) ∧
  ((AV.isBool (AV.bin Go.BinOp.neq r1025 (AV.int 0))) ∧
  ((isT (AV.bin Go.BinOp.neq r1025 (AV.int 0))) ∧
  ((AV.binOk Go.BinOp.eql (AV.prj r577 1) r1025) ∧
  ((AV.isBool (AV.bin Go.BinOp.eql (AV.prj r577 1) r1025)) ∧
  ((isT (AV.bin Go.BinOp.eql (AV.prj r577 1) r1025)) ∧
  ((AV.binOk Go.BinOp.eql (AV.len (AV.prj r577 0)) (AV.int 0)) ∧
  ((AV.isBool (AV.bin Go.BinOp.eql (AV.prj r577 1) r1025)) ∧
  ((isT (AV.bin Go.BinOp.eql (AV.prj r577 1) r1025)) ∧
  ((AV.flat (AV.bin Go.BinOp.eql (AV.len (AV.prj r577 0)) (AV.int 0))) ∧
  (fSame (AV.bin Go.BinOp.eql (AV.len (AV.prj r577 0)) (AV.int 0)) r))))))))))))))))))))))))))))))))))) := by kernel_rfl
end ConJ
end Go.Proofs.Ytpidhccaoponfaa
/- config's laws: what the run ends in. -/
namespace Go.Proofs.Ytpidhccaoponfaa
open Go.RowKit
set_option linter.unusedVariables false
set_option maxRecDepth 100000
namespace ConK
--GAMMA
def Γ : FuncId → Option Ca := fun f =>
  if f = 30 ∨ f = 12 ∨ f = 13 ∨ f = 9 ∨ f = 10 ∨ f = 33 ∨ f = 39 ∨ f = 21 ∨ f = 14 ∨ f = 18 ∨ f = 8 ∨ f = 26 ∨ f = 29 ∨ f = 31 ∨ f = 16 ∨ f = 20 ∨ f = 23 then some (.fn .sc)
  else if f = 11 ∨ f = 17 ∨ f = 22 then some (.fn (.tup [.row 53 2 false, .sc]))
  else if f = 24 then some (.fn (.tup [.sc, .sc]))
  else if f = 25 then some (.fn (.tup [.row 9 1 true, .sc]))
  else if f = 28 then some (.fn (.tup [.row 56 3 true, .sc]))
  else if f = 19 ∨ f = 27 then some (.fn (.row 9 1 true))
  else if f = 34 then some (.nest 53 2 1 9 9)
  else if f = 41 ∨ f = 35 then some (.upd false)
  else if f = 36 then some (.upd true)
  else if f = 52 then some (.fn .sc)
  else some .inl
def ann : FuncId → Nat → LoopEx := fun f r => if f = 37 then ⟨[], [1000000], [], []⟩ else if f = 17 ∧ r = 300012 then ⟨[], [1729], [], []⟩ else if f = 22 ∧ r = 300028 then ⟨[], [1857], [], []⟩ else if f = 22 ∧ r = 20 then ⟨[], [2689], [(2113, 0)], [(2113, 1, 9, 1)]⟩ else if f = 15 ∧ r = 15 then ⟨[], [5633], [(5249, 0)], [(5249, 1, 9, 1)]⟩ else ⟨[], [], [], []⟩
--END GAMMA
theorem splits_form (x0 x1 x2 x3 r : AV) : fnF Try.prog Γ ann 3 6 Try.f6 (Try.f6.body.getD .skip) ((.f (.both (.both .nil (.both .nil (.both (.t .nil) (.both (.t .nil) (.both (.t .nil) (.both (.t .nil) (.both (.t .nil) (.both (.t .nil) (.f (.t .nil)))))))))) (.t (.t .nil))))) [x0, x1, x2, x3] (.sc) r = (((AV.isOne x0) ∧
((AV.isOne x2) ∧
((AV.isOne x3) ∧
(∃ r257 : AV, ((Fn Try.prog 8 [] Sh.sc r257) ∧
((AV.unOk Go.UnOp.not r257) ∧
((AV.isBool (AV.un Go.UnOp.not r257)) ∧
((isF (AV.un Go.UnOp.not r257)) ∧
(∃ r641 : AV, ((Fn Try.prog 22 [x0, x1, x2, x3] (Sh.tup [(Sh.row 53 2 false), Sh.sc]) r641) ∧
(∃ r1089 : AV, ((Fn Try.prog 10 [x0] Sh.sc r1089) ∧
((AV.binOk Go.BinOp.eql r1089 (AV.int 0)) ∧
((AV.isBool (AV.bin Go.BinOp.eql r1089 (AV.int 0))) ∧
(((isT (AV.bin Go.BinOp.eql r1089 (AV.int 0))) →
  (∃ r1473 : AV, ((Fn Try.prog 19 [x0] (Sh.row 9 1 true) r1473) ∧
  (fLoop 1665 [(AV.int 0), (AV.int 0)] fun ys1665 again1665 =>
    ((AV.binOk Go.BinOp.lss (ys1665.getD 1 default) (AV.len r1473)) ∧
    ((AV.isBool (AV.bin Go.BinOp.lss (ys1665.getD 1 default) (AV.len r1473))) ∧
    (((isT (AV.bin Go.BinOp.lss (ys1665.getD 1 default) (AV.len r1473))) →
      ((AV.inb r1473 (ys1665.getD 1 default)) ∧
      ((AV.inb r1473 (ys1665.getD 1 default)) ∧
      (∃ r2049 : AV, ((Fn Try.prog 21 [x0, (AV.at r1473 (ys1665.getD 1 default) 0)] Sh.sc r2049) ∧
      ((AV.binOk Go.BinOp.eql r2049 x1) ∧
      ((AV.isBool (AV.bin Go.BinOp.eql r2049 x1)) ∧
      (((isT (AV.bin Go.BinOp.eql r2049 x1)) →
        (∃ r2433 : AV, ((Fn Try.prog 13 [x3, (AV.at r1473 (ys1665.getD 1 default) 0)] Sh.sc r2433) ∧
        ((AV.unOk Go.UnOp.not r2433) ∧
        ((AV.isBool (AV.bin Go.BinOp.eql r2049 x1)) ∧
        ((isT (AV.bin Go.BinOp.eql r2049 x1)) ∧
        ((AV.isBool (AV.un Go.UnOp.not r2433)) ∧
        (((isT (AV.un Go.UnOp.not r2433)) →
          ((AV.binOk Go.BinOp.add (ys1665.getD 0 default) (AV.int 1)) ∧
          ((AV.binOk Go.BinOp.add (ys1665.getD 1 default) (AV.int 1)) ∧
          (again1665 [(AV.bin Go.BinOp.add (ys1665.getD 0 default) (AV.int 1)), (AV.bin Go.BinOp.add (ys1665.getD 1 default) (AV.int 1))])))) ∧
        ((isF (AV.un Go.UnOp.not r2433)) →
          ((AV.binOk Go.BinOp.add (ys1665.getD 1 default) (AV.int 1)) ∧
          (again1665 [(ys1665.getD 0 default), (AV.bin Go.BinOp.add (ys1665.getD 1 default) (AV.int 1))]))))))))))) ∧
      ((isF (AV.bin Go.BinOp.eql r2049 x1)) →
        ((AV.isBool (AV.bin Go.BinOp.eql r2049 x1)) ∧
        ((isF (AV.bin Go.BinOp.eql r2049 x1)) ∧
        ((AV.binOk Go.BinOp.add (ys1665.getD 1 default) (AV.int 1)) ∧
        (again1665 [(ys1665.getD 0 default), (AV.bin Go.BinOp.add (ys1665.getD 1 default) (AV.int 1))]))))))))))))) ∧
    ((isF (AV.bin Go.BinOp.lss (ys1665.getD 1 default) (AV.len r1473))) →
      ((AV.isSl x3 1) ∧
      (fLoop 1985 [(AV.bool false), (AV.int 0)] fun ys1985 again1985 =>
        ((AV.binOk Go.BinOp.lss (ys1985.getD 1 default) (AV.len x3)) ∧
        ((AV.isBool (AV.bin Go.BinOp.lss (ys1985.getD 1 default) (AV.len x3))) ∧
        (((isT (AV.bin Go.BinOp.lss (ys1985.getD 1 default) (AV.len x3))) →
          ((AV.isSl x3 1) ∧
          ((AV.inb x3 (ys1985.getD 1 default)) ∧
          ((AV.isBool (ys1985.getD 0 default)) ∧
          (((isT (ys1985.getD 0 default)) →
            ((AV.isBool (ys1985.getD 0 default)) ∧
            ((isT (ys1985.getD 0 default)) ∧
            ((AV.binOk Go.BinOp.add (ys1985.getD 1 default) (AV.int 1)) ∧
            (again1985 [(AV.bool true), (AV.bin Go.BinOp.add (ys1985.getD 1 default) (AV.int 1))]))))) ∧
          ((isF (ys1985.getD 0 default)) →
            (∃ r2497 : AV, ((Fn Try.prog 21 [x0, (AV.at x3 (ys1985.getD 1 default) 0)] Sh.sc r2497) ∧
            ((AV.binOk Go.BinOp.neq r2497 x1) ∧
            ((AV.isBool (ys1985.getD 0 default)) ∧
            ((isF (ys1985.getD 0 default)) ∧
            ((AV.binOk Go.BinOp.add (ys1985.getD 1 default) (AV.int 1)) ∧
            (again1985 [(AV.bin Go.BinOp.neq r2497 x1), (AV.bin Go.BinOp.add (ys1985.getD 1 default) (AV.int 1))]))))))))))))) ∧
        ((isF (AV.bin Go.BinOp.lss (ys1985.getD 1 default) (AV.len x3))) →
          (∃ r2177 : AV, ((Fn Try.prog 18 [x0, x1] Sh.sc r2177) ∧
          ((AV.unOk Go.UnOp.not r2177) ∧
          ((AV.isBool (AV.un Go.UnOp.not r2177)) ∧
          (((isT (AV.un Go.UnOp.not r2177)) →
            ((AV.binOk Go.BinOp.eql (AV.prj r641 1) (AV.int 8)) ∧
            ((AV.isBool (AV.bin Go.BinOp.eql (AV.prj r641 1) (AV.int 8))) ∧
            ((isT (AV.bin Go.BinOp.eql (AV.prj r641 1) (AV.int 8))) ∧
            ((AV.binOk Go.BinOp.eql (AV.len (AV.prj r641 0)) (AV.int 0)) ∧
            ((AV.isBool (AV.bin Go.BinOp.eql (AV.prj r641 1) (AV.int 8))) ∧
            ((isT (AV.bin Go.BinOp.eql (AV.prj r641 1) (AV.int 8))) ∧
            ((AV.flat (AV.bin Go.BinOp.eql (AV.len (AV.prj r641 0)) (AV.int 0))) ∧
            (fSame (AV.bin Go.BinOp.eql (AV.len (AV.prj r641 0)) (AV.int 0)) r))))))))) ∧
          ((isF (AV.un Go.UnOp.not r2177)) →
            (∃ r2433 : AV, ((Fn Try.prog 12 [x2] Sh.sc r2433) ∧
            ((AV.unOk Go.UnOp.not r2433) ∧
            ((AV.isBool (AV.un Go.UnOp.not r2433)) ∧
            (((isT (AV.un Go.UnOp.not r2433)) →
              ((AV.binOk Go.BinOp.eql (AV.prj r641 1) (AV.int 3)) ∧
              ((AV.isBool (AV.bin Go.BinOp.eql (AV.prj r641 1) (AV.int 3))) ∧
              ((isT (AV.bin Go.BinOp.eql (AV.prj r641 1) (AV.int 3))) ∧
              ((AV.binOk Go.BinOp.eql (AV.len (AV.prj r641 0)) (AV.int 0)) ∧
              ((AV.isBool (AV.bin Go.BinOp.eql (AV.prj r641 1) (AV.int 3))) ∧
              ((isT (AV.bin Go.BinOp.eql (AV.prj r641 1) (AV.int 3))) ∧
              ((AV.flat (AV.bin Go.BinOp.eql (AV.len (AV.prj r641 0)) (AV.int 0))) ∧
              (fSame (AV.bin Go.BinOp.eql (AV.len (AV.prj r641 0)) (AV.int 0)) r))))))))) ∧
            ((isF (AV.un Go.UnOp.not r2433)) →
              (∃ r2753 : AV, ((Fn Try.prog 18 [x0, x2] Sh.sc r2753) ∧
              ((AV.isBool r2753) ∧
              (((isT r2753) →
                ((AV.binOk Go.BinOp.eql (AV.prj r641 1) (AV.int 7)) ∧
                ((AV.isBool (AV.bin Go.BinOp.eql (AV.prj r641 1) (AV.int 7))) ∧
                ((isT (AV.bin Go.BinOp.eql (AV.prj r641 1) (AV.int 7))) ∧
                ((AV.binOk Go.BinOp.eql (AV.len (AV.prj r641 0)) (AV.int 0)) ∧
                ((AV.isBool (AV.bin Go.BinOp.eql (AV.prj r641 1) (AV.int 7))) ∧
                ((isT (AV.bin Go.BinOp.eql (AV.prj r641 1) (AV.int 7))) ∧
                ((AV.flat (AV.bin Go.BinOp.eql (AV.len (AV.prj r641 0)) (AV.int 0))) ∧
                (fSame (AV.bin Go.BinOp.eql (AV.len (AV.prj r641 0)) (AV.int 0)) r))))))))) ∧
              ((isF r2753) →
                ((AV.isBool (ys1985.getD 0 default)) ∧
                (((isT (ys1985.getD 0 default)) →
                  ((AV.binOk Go.BinOp.eql (AV.prj r641 1) (AV.int 6)) ∧
                  ((AV.isBool (AV.bin Go.BinOp.eql (AV.prj r641 1) (AV.int 6))) ∧
                  ((isT (AV.bin Go.BinOp.eql (AV.prj r641 1) (AV.int 6))) ∧
                  ((AV.binOk Go.BinOp.eql (AV.len (AV.prj r641 0)) (AV.int 0)) ∧
                  ((AV.isBool (AV.bin Go.BinOp.eql (AV.prj r641 1) (AV.int 6))) ∧
                  ((isT (AV.bin Go.BinOp.eql (AV.prj r641 1) (AV.int 6))) ∧
                  ((AV.flat (AV.bin Go.BinOp.eql (AV.len (AV.prj r641 0)) (AV.int 0))) ∧
                  (fSame (AV.bin Go.BinOp.eql (AV.len (AV.prj r641 0)) (AV.int 0)) r))))))))) ∧
                ((isF (ys1985.getD 0 default)) →
                  ((AV.binOk Go.BinOp.eql (ys1665.getD 0 default) (AV.int 0)) ∧
                  ((AV.isBool (AV.bin Go.BinOp.eql (ys1665.getD 0 default) (AV.int 0))) ∧
                  (((isT (AV.bin Go.BinOp.eql (ys1665.getD 0 default) (AV.int 0))) →
                    ((AV.isBool (AV.bin Go.BinOp.eql (ys1665.getD 0 default) (AV.int 0))) ∧
                    ((isT (AV.bin Go.BinOp.eql (ys1665.getD 0 default) (AV.int 0))) ∧
                    ((AV.binOk Go.BinOp.eql (AV.prj r641 1) (AV.int 11)) ∧
                    ((AV.isBool (AV.bin Go.BinOp.eql (AV.prj r641 1) (AV.int 11))) ∧
                    ((isT (AV.bin Go.BinOp.eql (AV.prj r641 1) (AV.int 11))) ∧
                    ((AV.binOk Go.BinOp.eql (AV.len (AV.prj r641 0)) (AV.int 0)) ∧
                    ((AV.isBool (AV.bin Go.BinOp.eql (AV.prj r641 1) (AV.int 11))) ∧
                    ((isT (AV.bin Go.BinOp.eql (AV.prj r641 1) (AV.int 11))) ∧
                    ((AV.flat (AV.bin Go.BinOp.eql (AV.len (AV.prj r641 0)) (AV.int 0))) ∧
                    (fSame (AV.bin Go.BinOp.eql (AV.len (AV.prj r641 0)) (AV.int 0)) r))))))))))) ∧
                  ((isF (AV.bin Go.BinOp.eql (ys1665.getD 0 default) (AV.int 0))) →
                    ((AV.isSl x3 1) ∧
                    ((AV.binOk Go.BinOp.eql (AV.len x3) (AV.int 0)) ∧
                    ((AV.isBool (AV.bin Go.BinOp.eql (ys1665.getD 0 default) (AV.int 0))) ∧
                    ((isF (AV.bin Go.BinOp.eql (ys1665.getD 0 default) (AV.int 0))) ∧
                    ((AV.isBool (AV.bin Go.BinOp.eql (AV.len x3) (AV.int 0))) ∧
                    (((isT (AV.bin Go.BinOp.eql (AV.len x3) (AV.int 0))) →
                      ((AV.binOk Go.BinOp.eql (AV.prj r641 1) (AV.int 11)) ∧
                      ((AV.isBool (AV.bin Go.BinOp.eql (AV.prj r641 1) (AV.int 11))) ∧
                      ((isT (AV.bin Go.BinOp.eql (AV.prj r641 1) (AV.int 11))) ∧
                      ((AV.binOk Go.BinOp.eql (AV.len (AV.prj r641 0)) (AV.int 0)) ∧
                      ((AV.isBool (AV.bin Go.BinOp.eql (AV.prj r641 1) (AV.int 11))) ∧
                      ((isT (AV.bin Go.BinOp.eql (AV.prj r641 1) (AV.int 11))) ∧
                      ((AV.flat (AV.bin Go.BinOp.eql (AV.len (AV.prj r641 0)) (AV.int 0))) ∧
                      (fSame (AV.bin Go.BinOp.eql (AV.len (AV.prj r641 0)) (AV.int 0)) r))))))))) ∧
                    ((isF (AV.bin Go.BinOp.eql (AV.len x3) (AV.int 0))) →
                      ((AV.binOk Go.BinOp.neq r1089 (AV.int 0)) ∧
                      ((AV.isBool (AV.bin Go.BinOp.neq r1089 (AV.int 0))) ∧
                      ((isF (AV.bin Go.BinOp.neq r1089 (AV.int 0))) ∧
                      ((AV.binOk Go.BinOp.eql (AV.prj r641 1) (AV.int 0)) ∧
                      ((AV.isBool (AV.bin Go.BinOp.eql (AV.prj r641 1) (AV.int 0))) ∧
                      ((isT (AV.bin Go.BinOp.eql (AV.prj r641 1) (AV.int 0))) ∧
                      (∃ r3969 : AV, ((Fn Try.prog 19 [x0] (Sh.row 9 1 true) r3969) ∧
                      ((fEnt Try.prog 15) ∧
                      (fAllV fun _ => (fLoop 4481 [(AV.int 0), (AV.mk 1 [])] fun ys4481 again4481 =>
                        ((AV.binOk Go.BinOp.lss (ys4481.getD 0 default) (AV.len r3969)) ∧
                        ((AV.isBool (AV.bin Go.BinOp.lss (ys4481.getD 0 default) (AV.len r3969))) ∧
                        (((isT (AV.bin Go.BinOp.lss (ys4481.getD 0 default) (AV.len r3969))) →
                          ((AV.inb r3969 (ys4481.getD 0 default)) ∧
                          ((AV.inb r3969 (ys4481.getD 0 default)) ∧
                          (∃ r4865 : AV, ((Fn Try.prog 23 [(AV.at r3969 (ys4481.getD 0 default) 0), (AV.mkRef [x3]), (AV.mkRef [x2]), (AV.mkRef [x0])] Sh.sc r4865) ∧
                          (∃ r5121 : AV, ((Fn Try.prog 13 [(ys4481.getD 1 default), r4865] Sh.sc r5121) ∧
                          ((AV.unOk Go.UnOp.not r5121) ∧
                          ((AV.isBool (AV.un Go.UnOp.not r5121)) ∧
                          (((isT (AV.un Go.UnOp.not r5121)) →
                            ((AV.isOne r4865) ∧
                            ((AV.room (ys4481.getD 1 default) (AV.mk 1 [[r4865]]) 16) ∧
                            ((AV.binOk Go.BinOp.add (ys4481.getD 0 default) (AV.int 1)) ∧
                            (again4481 [(AV.bin Go.BinOp.add (ys4481.getD 0 default) (AV.int 1)), (AV.app 1 (ys4481.getD 1 default) (AV.mk 1 [[r4865]]))]))))) ∧
                          ((isF (AV.un Go.UnOp.not r5121)) →
                            ((AV.binOk Go.BinOp.add (ys4481.getD 0 default) (AV.int 1)) ∧
                            (again4481 [(AV.bin Go.BinOp.add (ys4481.getD 0 default) (AV.int 1)), (ys4481.getD 1 default)]))))))))))))) ∧
                        ((isF (AV.bin Go.BinOp.lss (ys4481.getD 0 default) (AV.len r3969))) →
                          (∃ r4673 : AV, ((Fn Try.prog 27 [(ys4481.getD 1 default)] (Sh.row 9 1 true) r4673) ∧
                          (fLoop 4865 [(AV.int 0), (AV.mk 2 [])] fun ys4865 again4865 =>
                            ((AV.binOk Go.BinOp.lss (ys4865.getD 0 default) (AV.len r4673)) ∧
                            ((AV.isBool (AV.bin Go.BinOp.lss (ys4865.getD 0 default) (AV.len r4673))) ∧
                            (((isT (AV.bin Go.BinOp.lss (ys4865.getD 0 default) (AV.len r4673))) →
                              ((AV.inb r4673 (ys4865.getD 0 default)) ∧
                              ((AV.inb r4673 (ys4865.getD 0 default)) ∧
                              ((AV.isOne (AV.at r4673 (ys4865.getD 0 default) 0)) ∧
                              (∃ r5441 : AV, ((Fn Try.prog 27 [r3969] (Sh.row 9 1 true) r5441) ∧
                              (fLoop 5697 [(AV.int 0), (AV.mk 1 []), (AV.at r4673 (ys4865.getD 0 default) 0)] fun ys5697 again5697 =>
                                ((AV.binOk Go.BinOp.lss (ys5697.getD 0 default) (AV.len r5441)) ∧
                                ((AV.isBool (AV.bin Go.BinOp.lss (ys5697.getD 0 default) (AV.len r5441))) ∧
                                (((isT (AV.bin Go.BinOp.lss (ys5697.getD 0 default) (AV.len r5441))) →
                                  ((AV.inb r5441 (ys5697.getD 0 default)) ∧
                                  ((AV.inb r5441 (ys5697.getD 0 default)) ∧
                                  (∃ r6081 : AV, ((Fn Try.prog 23 [(AV.at r5441 (ys5697.getD 0 default) 0), (AV.mkRef [x3]), (AV.mkRef [x2]), (AV.mkRef [x0])] Sh.sc r6081) ∧
                                  ((AV.binOk Go.BinOp.eql r6081 (AV.at r4673 (ys4865.getD 0 default) 0)) ∧
                                  ((AV.isBool (AV.bin Go.BinOp.eql r6081 (AV.at r4673 (ys4865.getD 0 default) 0))) ∧
                                  (((isT (AV.bin Go.BinOp.eql r6081 (AV.at r4673 (ys4865.getD 0 default) 0))) →
                                    ((AV.isOne (AV.at r5441 (ys5697.getD 0 default) 0)) ∧
                                    ((AV.room (ys5697.getD 1 default) (AV.mk 1 [[(AV.at r5441 (ys5697.getD 0 default) 0)]]) 16) ∧
                                    ((AV.binOk Go.BinOp.add (ys5697.getD 0 default) (AV.int 1)) ∧
                                    (again5697 [(AV.bin Go.BinOp.add (ys5697.getD 0 default) (AV.int 1)), (AV.app 1 (ys5697.getD 1 default) (AV.mk 1 [[(AV.at r5441 (ys5697.getD 0 default) 0)]])), (ys5697.getD 2 default)]))))) ∧
                                  ((isF (AV.bin Go.BinOp.eql r6081 (AV.at r4673 (ys4865.getD 0 default) 0))) →
                                    ((AV.binOk Go.BinOp.add (ys5697.getD 0 default) (AV.int 1)) ∧
                                    (again5697 [(AV.bin Go.BinOp.add (ys5697.getD 0 default) (AV.int 1)), (ys5697.getD 1 default), (ys5697.getD 2 default)]))))))))))) ∧
                                ((isF (AV.bin Go.BinOp.lss (ys5697.getD 0 default) (AV.len r5441))) →
                                  ((AV.room (ys4865.getD 1 default) (AV.mk 2 [[(ys5697.getD 2 default), (ys5697.getD 1 default)]]) 40) ∧
                                  ((AV.binOk Go.BinOp.add (ys4865.getD 0 default) (AV.int 1)) ∧
                                  (again4865 [(AV.bin Go.BinOp.add (ys4865.getD 0 default) (AV.int 1)), (AV.app 2 (ys4865.getD 1 default) (AV.mk 2 [[(ys5697.getD 2 default), (ys5697.getD 1 default)]]))])))))))))))))) ∧
                            ((isF (AV.bin Go.BinOp.lss (ys4865.getD 0 default) (AV.len r4673))) →
                              (∃ r5121 : AV, ((Fn Try.prog 14 [(AV.prj r641 0), (ys4865.getD 1 default)] Sh.sc r5121) ∧
                              ((AV.isBool (AV.bin Go.BinOp.eql (AV.prj r641 1) (AV.int 0))) ∧
                              ((isT (AV.bin Go.BinOp.eql (AV.prj r641 1) (AV.int 0))) ∧
                              ((AV.flat r5121) ∧
                              (fSame r5121 r))))))))))))))))))))))))))))))))))))))))))))))))))))))))))))))))))))))))) ∧
((isF (AV.bin Go.BinOp.eql r1089 (AV.int 0))) →
  ((AV.binOk Go.BinOp.neq r1089 (AV.int 0)) ∧
  ((AV.isBool (AV.bin Go.BinOp.neq r1089 (AV.int 0))) ∧
  ((isT (AV.bin Go.BinOp.neq r1089 (AV.int 0))) ∧
  ((AV.binOk Go.BinOp.eql (AV.prj r641 1) r1089) ∧
  ((AV.isBool (AV.bin Go.BinOp.eql (AV.prj r641 1) r1089)) ∧
  ((isT (AV.bin Go.BinOp.eql (AV.prj r641 1) r1089)) ∧
  ((AV.binOk Go.BinOp.eql (AV.len (AV.prj r641 0)) (AV.int 0)) ∧
  ((AV.isBool (AV.bin Go.BinOp.eql (AV.prj r641 1) r1089)) ∧
  ((isT (AV.bin Go.BinOp.eql (AV.prj r641 1) r1089)) ∧
  ((AV.flat (AV.bin Go.BinOp.eql (AV.len (AV.prj r641 0)) (AV.int 0))) ∧
  (fSame (AV.bin Go.BinOp.eql (AV.len (AV.prj r641 0)) (AV.int 0)) r)))))))))))))))))))))))))))) := by kernel_rfl
end ConK
end Go.Proofs.Ytpidhccaoponfaa
/- Positions of controllers: lists of strings, and what the reference makes of them. -/
namespace Go.Proofs.Ytpidhccaoponfaa
open Go.RowKit
set_option linter.unusedVariables false
set_option linter.unusedSimpArgs false
set_option maxRecDepth 100000
instance memB (s : ByteArray) (l : List ByteArray) : Decidable (s ∈ l) := @List.instDecidableMemOfLawfulBEq ByteArray instBEqOfDecidableEq inferInstance s l
structure Cg where
  p : ByteArray
  s : List ByteArray
deriving DecidableEq
def encB1 (s : ByteArray) : List AV := [.lit (.string s)]
def bs (l : List ByteArray) : AV := lst 1 encB1 l
def encG (g : Cg) : List AV := [.lit (.string g.p), bs g.s]
def cgs (l : List Cg) : AV := lst 2 encG l
theorem bs_snoc (l : List ByteArray) (x : ByteArray) : AV.sl 1 (l.map encB1 ++ [[.lit (.string x)]]) = bs (l ++ [x]) := by simp [bs, lst, encB1]
theorem bs_app1 (l : List ByteArray) (x : ByteArray) : AV.app 1 (bs l) (.sl 1 [[.lit (.string x)]]) = bs (l ++ [x]) := by simp [bs, lst, encB1]
theorem bs_app (l m : List ByteArray) : AV.app 1 (bs l) (bs m) = bs (l ++ m) := by simp [bs]
theorem cgs_snoc (l : List Cg) (x : Cg) : AV.sl 2 (l.map encG ++ [encG x]) = cgs (l ++ [x]) := by simp [cgs, lst]
@[simp] theorem bs_isOne (l : List ByteArray) : AV.isOne (bs l) ↔ True := by simp [bs]
@[simp] theorem bs_isSl (l : List ByteArray) (s : Nat) : AV.isSl (bs l) s ↔ 1 = s := by simp [bs]
@[simp] theorem bs_len (l : List ByteArray) : AV.len (bs l) = .lit (.int .i64 (l.length : Nat)) := by simp [bs]
@[simp] theorem bs_inb (l : List ByteArray) (k : IntKind) (n : Int) : AV.inb (bs l) (.lit (.int k n)) ↔ 0 ≤ n ∧ n < l.length := by simp [bs]
theorem bs_at {l : List ByteArray} {n : Nat} {x : ByteArray} (k : IntKind) (h : l[n]? = some x) : AV.at (bs l) (.lit (.int k (n : Nat))) 0 = .lit (.string x) := by rw [bs, lst_at h]; rfl
theorem bs_flat (l : List ByteArray) : (bs l).flatS := lst_flatS fun x _ z hz => by simp [encB1] at hz; rw [hz]; exact .lit _
@[simp] theorem bs_flatS (l : List ByteArray) : AV.flatS (bs l) ↔ True := ⟨fun _ => trivial, fun _ => bs_flat l⟩
theorem hw64 {n : Nat} (h : n ≤ 9223372036854775806) : IntKind.i64.wrap ((n : Int) + 1) = (n : Int) + 1 := wrap64 (by omega) (by omega)
theorem has_fn (l : List ByteArray) (s : ByteArray) (hl : l.length ≤ 9223372036854775807) : Fn Try.prog 13 [bs l, .string s] .sc (.bool (decide (s ∈ l))) := by
  refine fn_run mixed 3 (Γ := ConF.Γ) (ann := ConF.ann) Try.func13 rfl Try.call13 ((ConF.has_form _ _ _).mpr ?_)
  refine ⟨by simp, ?_⟩
  refine loop_list (σ := Unit) l (fun i _ => [.int (i : Nat)]) (fun i rest _ => (s ∈ l ↔ s ∈ rest)) () rfl Iff.rfl ?_ ?_
  · rintro i x rest _ K hx hrest hi hG hK
    have hwi := hw64 (n := i) (by omega)
    simp [hi, bs_at _ hx, hwi]
    refine ⟨fun h => ?_, fun h => hK _ () (by simp) ?_⟩
    · exact hG.2 (by simp [h])
    · rw [hG]; simp [h]; exact fun e => absurd e.symm h
  · rintro _ K hG
    simp at hG
    simp [hG]
theorem cont_fn (l : List ByteArray) (s : ByteArray) (hl : l.length ≤ 9223372036854775807) : Fn Try.prog 31 [bs l, .string s] .sc (.bool (decide (s ∈ l))) := by
  refine fn_run mixed 3 (Γ := ConF.Γ) (ann := ConF.ann) Try.func31 rfl Try.call31 ((ConF.cont_form _ _ _).mpr ?_)
  refine ⟨Try.call40, fun _ => ⟨by simp, ?_⟩⟩
  refine loop_list (σ := Unit) l (fun i _ => [.int (i : Nat)]) (fun i rest _ => (s ∈ l ↔ s ∈ rest)) () rfl Iff.rfl ?_ ?_
  · rintro i x rest _ K hx hrest hi hG hK
    have hwi := hw64 (n := i) (by omega)
    simp [hi, bs_at _ hx, hwi]
    refine ⟨fun h => ?_, fun h => hK _ () (by simp) ?_⟩
    · exact hG.2 (by simp [h])
    · rw [hG]; simp [h]
  · rintro _ K hG
    simp at hG
    simp [hG]
theorem index_fn (l : List Cg) (s : ByteArray) (hl : l.length ≤ 1000000) : Fn Try.prog 33 [cgs l, .string s] .sc (.int (idxN (fun g : Cg => decide (g.p = s)) 0 l)) := by
  refine fn_run mixed 3 (Γ := ConF.Γ) (ann := ConF.ann) Try.func33 rfl Try.call33 ((ConF.index_form _ _ _).mpr ?_)
  have e1 : Ent Try.prog 45 := Try.call45
  have e2 : Ent Try.prog 44 := Try.call44
  simp [e1, e2, cgs]
  refine loop_list (σ := Unit) l (fun n _ => [.int (n : Nat)]) (fun n rest _ => idxN (fun g : Cg => decide (g.p = s)) 0 l = idxN (fun g : Cg => decide (g.p = s)) n rest) () rfl rfl ?_ ?_
  · rintro n x rest _ K hx hr hn hg hK
    rw [idxN] at hg
    have hwi := hw64 (n := n) (by omega)
    simp [hn, lst_atAgg hx, lst_at hx, encG, hwi]
    refine ⟨fun q => ?_, fun q => hK _ () (by simp) ?_⟩
    · rw [hg]; simp [q]
    · rw [hg]; simp [q]
  · rintro _ K hg
    simp [hg, idxN]
/-- The position of the first group that has the sector. -/
def gofG (s : ByteArray) : List Cg → ByteArray
  | [] => ⟨#[]⟩
  | g :: r => if s ∈ g.s then g.p else gofG s r
def Small (l : List Cg) : Prop := l.length ≤ 1000000 ∧ ∀ g ∈ l, g.s.length ≤ 1000000
theorem Small.at {l : List Cg} (h : Small l) {n : Nat} {g : Cg} (hg : l[n]? = some g) : g.s.length ≤ 1000000 := h.2 g (List.mem_of_getElem? hg)
theorem find_fn (l : List Cg) (s : ByteArray) (hl : Small l) : Fn Try.prog 39 [cgs l, .string s] .sc (.string (gofG s l)) := by
  refine fn_run mixed 3 (Γ := ConF.Γ) (ann := ConF.ann) Try.func39 rfl Try.call39 ((ConF.find_form _ _ _).mpr ?_)
  simp [cgs]
  refine loop_list (σ := Unit) l (fun n _ => [.int (n : Nat)]) (fun n rest _ => gofG s l = gofG s rest) () rfl rfl ?_ ?_
  · rintro n x rest _ K hx hr hn hg hK
    rw [gofG] at hg
    have h1 := hl.1
    have hwi := hw64 (n := n) (by omega)
    simp [hn, lst_atAgg hx, lst_at hx, encG, hwi]
    refine ⟨_, cont_fn x.s s (by have := hl.at hx; omega), ?_⟩
    simp
    refine ⟨fun q => ?_, fun q => hK _ () (by simp) ?_⟩
    · rw [hg]; simp [q]
    · rw [hg]; simp [q]
  · rintro _ K hg
    simp [hg, gofG]
theorem gof_fn (l : List Cg) (s : ByteArray) (hl : Small l) : Fn Try.prog 21 [cgs l, .string s] .sc (.string (gofG s l)) := by
  refine fn_run mixed 3 (Γ := ConF.Γ) (ann := ConF.ann) Try.func21 rfl Try.call21 ((ConF.gof_form _ _ _).mpr ?_)
  simp [cgs]
  refine loop_list (σ := Unit) l (fun n _ => [.int (n : Nat)]) (fun n rest _ => gofG s l = gofG s rest) () rfl rfl ?_ ?_
  · rintro n x rest _ K hx hr hn hg hK
    rw [gofG] at hg
    have h1 := hl.1
    have hwi := hw64 (n := n) (by omega)
    simp [hn, lst_atAgg hx, lst_at hx, encG, hwi]
    refine ⟨_, has_fn x.s s (by have := hl.at hx; omega), ?_⟩
    simp
    refine ⟨fun q => ?_, fun q => hK _ () (by simp) ?_⟩
    · rw [hg]; simp [q]
    · rw [hg]; simp [q]
  · rintro _ K hg
    simp [hg, gofG]
theorem pos_fn (l : List Cg) (s : ByteArray) (hl : l.length ≤ 1000000) : Fn Try.prog 18 [cgs l, .string s] .sc (.bool (decide (∃ g ∈ l, g.p = s))) := by
  refine fn_run mixed 3 (Γ := ConF.Γ) (ann := ConF.ann) Try.func18 rfl Try.call18 ((ConF.pos_form _ _ _).mpr ?_)
  simp [cgs]
  refine loop_list (σ := Unit) l (fun n _ => [.int (n : Nat)]) (fun n rest _ => ((∃ g ∈ l, g.p = s) ↔ ∃ g ∈ rest, g.p = s)) () rfl Iff.rfl ?_ ?_
  · rintro n x rest _ K hx hr hn hg hK
    have hwi := hw64 (n := n) (by omega)
    simp [hn, lst_atAgg hx, lst_at hx, encG, hwi]
    refine ⟨fun q => ?_, fun q => hK _ () (by simp) ?_⟩
    · exact hg.2 ⟨x, by simp, q⟩
    · rw [hg]; simp [q]
  · rintro _ K hg
    simp at hg
    simpa using hg
def allS (l : List Cg) : List ByteArray := l.flatMap Cg.s
theorem all_fn (l : List Cg) (hl : l.length ≤ 1000000) (ha : (allS l).length ≤ 1000000) : Fn Try.prog 19 [cgs l] (.row 9 1 true) (bs (allS l)) := by
  refine fn_run mixed 3 (Γ := ConF.Γ) (ann := ConF.ann) Try.func19 rfl Try.call19 ((ConF.all_form _ _).mpr ?_)
  refine ⟨by simp [cgs], ?_⟩
  refine loop_list (σ := List ByteArray) l (fun n o => [.int (n : Nat), bs o]) (fun n rest o => allS l = o ++ allS rest) [] rfl rfl ?_ ?_
  · rintro n x rest o K hx hr hn hg hK
    have hwi := hw64 (n := n) (by omega)
    have hlen := congrArg List.length hg
    simp [allS] at hlen
    have ha' : (allS l).length = (l.map fun a => a.s.length).sum := by simp [allS, List.length_flatMap]
    simp [cgs, hn, lst_atAgg hx, lst_at hx, encG, hwi, AV.room, bs_app]
    refine ⟨?_, hK _ (o ++ x.s) (by simp) (by rw [hg]; simp [allS])⟩
    simp [bs]
    omega
  · rintro o K hg
    simp [allS] at hg
    simp [cgs, allS, hg]
end Go.Proofs.Ytpidhccaoponfaa
/- Positions of controllers: what is checked; sorted lists. -/
namespace Go.Proofs.Ytpidhccaoponfaa
open Go.RowKit
set_option linter.unusedVariables false
set_option linter.unusedSimpArgs false
set_option maxRecDepth 100000
def inE : Option ByteArray → List ByteArray → List ByteArray → Int
  | _, _, [] => 0
  | prev, seen, s :: r => if isName s = false then 3 else if s ∈ seen then 7 else if (∃ p, prev = some p ∧ key s < key p) then 7 else if seen.length = 12 then 2 else inE (some s) (seen ++ [s]) r
def grE : ByteArray → List ByteArray → List Cg → Int
  | _, _, [] => 0
  | last, seen, g :: r => if isName g.p = false then 3 else if key g.p ≤ key last then 7 else if g.s = [] then 8 else if inE none seen g.s ≠ 0 then inE none seen g.s else grE g.p (seen ++ g.s) r
def conE (l : List Cg) : Int := if 12 < l.length then 2 else grE ⟨#[]⟩ [] l
theorem name_pos {s : ByteArray} (h : isName s = true) : ¬ key s ≤ key (⟨#[]⟩ : ByteArray) := by
  intro q
  have h1 : 1 ≤ s.size := by
    unfold isName at h
    simp at h
    omega
  have h2 : key s = [] := by
    have : key (⟨#[]⟩ : ByteArray) = [] := rfl
    rw [this] at q
    cases hk : key s with
    | nil => rfl
    | cons a b => rw [hk] at q; exact absurd q (by simp [List.not_le])
  have := key_len s
  rw [h2] at this
  simp at this
  omega
theorem inE_len : ∀ (l : List ByteArray) (p : Option ByteArray) (seen : List ByteArray), seen.length ≤ 12 → inE p seen l = 0 → (seen ++ l).length ≤ 12
  | [], _, _, h, _ => by simpa using h
  | s :: r, p, seen, h, e => by
    rw [inE] at e
    split at e
    · cases e
    · split at e
      · cases e
      · split at e
        · cases e
        · split at e
          · cases e
          · rename_i h4
            have := inE_len r (some s) (seen ++ [s]) (by simp; omega) e
            simpa using this
def prevS (l : List ByteArray) (i : Nat) : Option ByteArray := if i = 0 then none else l[i - 1]?
def lastP (l : List Cg) (n : Nat) : ByteArray := if n = 0 then ⟨#[]⟩ else ((l[n - 1]?).map Cg.p).getD ⟨#[]⟩
theorem lastP_succ {l : List Cg} {n : Nat} {x : Cg} (h : l[n]? = some x) : lastP l (n + 1) = x.p := by simp [lastP, h]
theorem check_fn (l : List Cg) : Fn Try.prog 9 [cgs l] .sc (.int (conE l)) := by
  refine fn_run mixed 3 (Γ := ConF.Γ) (ann := ConF.ann) Try.func9 rfl Try.call9 ((ConF.check_form _ _).mpr ?_)
  simp [cgs]
  refine ⟨fun h => by simp [conE]; omega, fun h => ?_⟩
  have hE : conE l = grE ⟨#[]⟩ [] l := by unfold conE; rw [if_neg (by omega)]
  refine loop_list (σ := List ByteArray) l (fun n o => [.int (n : Nat), bs o]) (fun n rest o => conE l = grE (lastP l n) o rest ∧ o.length ≤ 12) [] rfl ⟨hE, by simp⟩ ?_ ?_
  · rintro n x rest o K hx hr hn ⟨hg, ho⟩ hK
    rw [grE] at hg
    have hwi := hw64 (n := n) (by omega)
    have hK' : inE none o x.s = 0 → isName x.p = true → ¬ key x.p ≤ key (lastP l n) → x.s ≠ [] → K [.int ((n : Nat) + 1), bs (o ++ x.s)] := fun h1 h2 h3 h4 => by
      refine hK _ (o ++ x.s) (by simp) ⟨?_, inE_len _ _ _ ho h1⟩
      rw [hg, if_neg (by rw [h2]; simp), if_neg h3, if_neg h4, if_neg (by rw [h1]; simp), lastP_succ hx]
    have hil : (n : Int) < l.length := by omega
    by_cases h1 : isName x.p = true
    · rcases Nat.eq_zero_or_pos n with h0 | h0
      · have hlp : lastP l n = ⟨#[]⟩ := by simp [lastP, h0]
        have hlt : ¬ key x.p ≤ key (lastP l n) := by rw [hlp]; exact name_pos h1
        have hnl : ¬ (0 : Int) < (n : Nat) := by omega
        simp [hil, lst_atAgg hx, lst_at hx, encG]
        refine ⟨_, name_fn x.p, ?_⟩
        simp [h1, h0]
        refine ⟨fun q => ?_, fun hne => ?_⟩
        · rw [hg, if_neg (by rw [h1]; simp), if_neg hlt, if_pos q]
        · have hnl2 := hnl
          have hcon : inE none o x.s ≠ 0 → conE l = inE none o x.s := fun q => by rw [hg, if_neg (by rw [h1]; simp), if_neg hlt, if_neg hne, if_pos q]
          refine loop_list (σ := Unit) x.s (fun i _ => [.int (i : Nat), bs (o ++ x.s.take i)]) (fun i rs _ => inE none o x.s = inE (prevS x.s i) (o ++ x.s.take i) rs ∧ (o ++ x.s.take i).length ≤ 12) () (by simp) ⟨by simp [prevS], by simpa using ho⟩ ?_ ?_
          · rintro i s rs _ K2 hs hrs hi ⟨hgi, hoi⟩ hK2
            rw [inE] at hgi
            have hi9 : i ≤ 12 := by simp at hoi; omega
            have hwi2 := hw64 (n := i) (by omega)
            have hil2 : (i : Int) < x.s.length := by omega
            have hK3 : isName s = true → s ∉ o ++ x.s.take i → ¬ (∃ p, prevS x.s i = some p ∧ key s < key p) → (o ++ x.s.take i).length ≠ 12 → K2 [.int ((i : Nat) + 1), bs (o ++ x.s.take i ++ [s])] := fun q1 q2 q3 q4 => by
              have e : o ++ x.s.take i ++ [s] = o ++ x.s.take (i + 1) := by rw [List.append_assoc, List.take_add_one, hs]; rfl
              refine hK2 _ () (by rw [e]; simp) ⟨?_, by rw [← e, List.length_append]; simp only [List.length_cons, List.length_nil]; omega⟩
              rw [hgi, if_neg (by rw [q1]; simp), if_neg q2, if_neg q3, if_neg q4, e]
              have : prevS x.s (i + 1) = some s := by simp [prevS, hs]
              rw [this]
            generalize o ++ x.s.take i = O at hgi hoi hK3 ⊢
            simp [hil2, bs_at _ hs, hwi2]
            refine ⟨_, name_fn s, ?_⟩
            by_cases q1 : isName s = true
            · have hHas := cont_fn O s (by omega)
              simp [q1]
              refine ⟨_, hHas, ?_⟩
              by_cases q2 : s ∈ O
              · have h7 : inE none o x.s = 7 := by rw [hgi, if_neg (by rw [q1]; simp), if_pos q2]
                have := hcon (by rw [h7]; simp)
                simp [q2, this, h7]
              · rcases Nat.eq_zero_or_pos i with i0 | i0
                · have hp : prevS x.s i = none := by simp [prevS, i0]
                  have hnp : ¬ ∃ p, prevS x.s i = some p ∧ key s < key p := by rw [hp]; simp
                  simp [q2, i0]
                  refine ⟨fun q4 => ?_, fun q4 => ?_⟩
                  · have h2 : inE none o x.s = 2 := by rw [hgi, if_neg (by rw [q1]; simp), if_neg q2, if_neg hnp, if_pos (by omega)]
                    rw [hcon (by rw [h2]; simp), h2]
                  · have := hK3 q1 q2 hnp (by omega)
                    refine ⟨?_, ?_⟩
                    · simp [bs, AV.room]; omega
                    · rw [← bs_snoc] at this; simpa [bs, lst, i0] using this
                · obtain ⟨y2, hy2⟩ : ∃ y2, x.s[i - 1]? = some y2 := ⟨_, List.getElem?_eq_getElem (by omega)⟩
                  have hp : prevS x.s i = some y2 := by simp [prevS, hy2, Nat.ne_of_gt i0]
                  have hw2 : IntKind.i64.wrap ((i : Int) - 1) = ((i - 1 : Nat) : Int) := by rw [wrap64 (by omega) (by omega)]; omega
                  have hi1 : i - 1 < x.s.length := by omega
                  have hi0 : ¬ i = 0 := by omega
                  simp [q2, i0, hi0, hw2, bs_at _ hy2, hi1]
                  refine ⟨fun q3 => ?_, fun q3 => ?_⟩
                  · have h7 : inE none o x.s = 7 := by rw [hgi, if_neg (by rw [q1]; simp), if_neg q2, if_pos ⟨y2, hp, q3⟩]
                    rw [hcon (by rw [h7]; simp), h7]
                  · have hnp : ¬ ∃ p, prevS x.s i = some p ∧ key s < key p := by rw [hp]; simp; exact q3
                    refine ⟨fun q4 => ?_, fun q4 => ?_⟩
                    · have h2 : inE none o x.s = 2 := by rw [hgi, if_neg (by rw [q1]; simp), if_neg q2, if_neg hnp, if_pos (by omega)]
                      rw [hcon (by rw [h2]; simp), h2]
                    · have := hK3 q1 q2 hnp (by omega)
                      refine ⟨?_, ?_⟩
                      · simp [bs, AV.room]; omega
                      · rw [← bs_snoc] at this; simpa [bs, lst, hwi2] using this
            · have h3 : inE none o x.s = 3 := by rw [hgi, if_pos (by simpa using q1)]
              have := hcon (by rw [h3]; simp)
              simp [q1, this, h3]
          · rintro _ K2 ⟨hgi, hoi⟩
            have h0' : inE none o x.s = 0 := by rw [hgi]; simp [inE]
            have hw10 : IntKind.i64.wrap 1 = 1 := by decide
            have := hK' h0' h1 hlt hne
            simp [hwi, hw10]
            simpa [h0, hw10] using this
      · obtain ⟨y, hy⟩ : ∃ y, l[n - 1]? = some y := ⟨_, List.getElem?_eq_getElem (by omega)⟩
        have hlp : lastP l n = y.p := by simp [lastP, hy, Nat.ne_of_gt h0]
        have hw1 : IntKind.i64.wrap ((n : Int) - 1) = ((n - 1 : Nat) : Int) := by rw [wrap64 (by omega) (by omega)]; omega
        have hn1 : n - 1 < l.length := by omega
        simp [hil, lst_atAgg hx, lst_at hx, encG]
        refine ⟨_, name_fn x.p, ?_⟩
        have hn0 : ¬ n = 0 := by omega
        simp [h1, h0, hn0, hw1, lst_at hy, encG, hn1]
        refine ⟨fun q => ?_, fun q => ⟨fun q2 => ?_, fun hne => ?_⟩⟩
        · rw [hg, if_neg (by rw [h1]; simp), if_pos (by rw [hlp]; exact q)]
        · rw [hg, if_neg (by rw [h1]; simp), if_neg (by rw [hlp]; exact List.not_le.2 q), if_pos q2]
        · have hlt : ¬ key x.p ≤ key (lastP l n) := by rw [hlp]; exact List.not_le.2 q
          have hcon : inE none o x.s ≠ 0 → conE l = inE none o x.s := fun q => by rw [hg, if_neg (by rw [h1]; simp), if_neg hlt, if_neg hne, if_pos q]
          refine loop_list (σ := Unit) x.s (fun i _ => [.int (i : Nat), bs (o ++ x.s.take i)]) (fun i rs _ => inE none o x.s = inE (prevS x.s i) (o ++ x.s.take i) rs ∧ (o ++ x.s.take i).length ≤ 12) () (by simp) ⟨by simp [prevS], by simpa using ho⟩ ?_ ?_
          · rintro i s rs _ K2 hs hrs hi ⟨hgi, hoi⟩ hK2
            rw [inE] at hgi
            have hi9 : i ≤ 12 := by simp at hoi; omega
            have hwi2 := hw64 (n := i) (by omega)
            have hil2 : (i : Int) < x.s.length := by omega
            have hK3 : isName s = true → s ∉ o ++ x.s.take i → ¬ (∃ p, prevS x.s i = some p ∧ key s < key p) → (o ++ x.s.take i).length ≠ 12 → K2 [.int ((i : Nat) + 1), bs (o ++ x.s.take i ++ [s])] := fun q1 q2 q3 q4 => by
              have e : o ++ x.s.take i ++ [s] = o ++ x.s.take (i + 1) := by rw [List.append_assoc, List.take_add_one, hs]; rfl
              refine hK2 _ () (by rw [e]; simp) ⟨?_, by rw [← e, List.length_append]; simp only [List.length_cons, List.length_nil]; omega⟩
              rw [hgi, if_neg (by rw [q1]; simp), if_neg q2, if_neg q3, if_neg q4, e]
              have : prevS x.s (i + 1) = some s := by simp [prevS, hs]
              rw [this]
            generalize o ++ x.s.take i = O at hgi hoi hK3 ⊢
            simp [hil2, bs_at _ hs, hwi2]
            refine ⟨_, name_fn s, ?_⟩
            by_cases q1 : isName s = true
            · have hHas := cont_fn O s (by omega)
              simp [q1]
              refine ⟨_, hHas, ?_⟩
              by_cases q2 : s ∈ O
              · have h7 : inE none o x.s = 7 := by rw [hgi, if_neg (by rw [q1]; simp), if_pos q2]
                have := hcon (by rw [h7]; simp)
                simp [q2, this, h7]
              · rcases Nat.eq_zero_or_pos i with i0 | i0
                · have hp : prevS x.s i = none := by simp [prevS, i0]
                  have hnp : ¬ ∃ p, prevS x.s i = some p ∧ key s < key p := by rw [hp]; simp
                  simp [q2, i0]
                  refine ⟨fun q4 => ?_, fun q4 => ?_⟩
                  · have h2 : inE none o x.s = 2 := by rw [hgi, if_neg (by rw [q1]; simp), if_neg q2, if_neg hnp, if_pos (by omega)]
                    rw [hcon (by rw [h2]; simp), h2]
                  · have := hK3 q1 q2 hnp (by omega)
                    refine ⟨?_, ?_⟩
                    · simp [bs, AV.room]; omega
                    · rw [← bs_snoc] at this; simpa [bs, lst, i0] using this
                · obtain ⟨y2, hy2⟩ : ∃ y2, x.s[i - 1]? = some y2 := ⟨_, List.getElem?_eq_getElem (by omega)⟩
                  have hp : prevS x.s i = some y2 := by simp [prevS, hy2, Nat.ne_of_gt i0]
                  have hw2 : IntKind.i64.wrap ((i : Int) - 1) = ((i - 1 : Nat) : Int) := by rw [wrap64 (by omega) (by omega)]; omega
                  have hi1 : i - 1 < x.s.length := by omega
                  have hi0 : ¬ i = 0 := by omega
                  simp [q2, i0, hi0, hw2, bs_at _ hy2, hi1]
                  refine ⟨fun q3 => ?_, fun q3 => ?_⟩
                  · have h7 : inE none o x.s = 7 := by rw [hgi, if_neg (by rw [q1]; simp), if_neg q2, if_pos ⟨y2, hp, q3⟩]
                    rw [hcon (by rw [h7]; simp), h7]
                  · have hnp : ¬ ∃ p, prevS x.s i = some p ∧ key s < key p := by rw [hp]; simp; exact q3
                    refine ⟨fun q4 => ?_, fun q4 => ?_⟩
                    · have h2 : inE none o x.s = 2 := by rw [hgi, if_neg (by rw [q1]; simp), if_neg q2, if_neg hnp, if_pos (by omega)]
                      rw [hcon (by rw [h2]; simp), h2]
                    · have := hK3 q1 q2 hnp (by omega)
                      refine ⟨?_, ?_⟩
                      · simp [bs, AV.room]; omega
                      · rw [← bs_snoc] at this; simpa [bs, lst, hwi2] using this
            · have h3 : inE none o x.s = 3 := by rw [hgi, if_pos (by simpa using q1)]
              have := hcon (by rw [h3]; simp)
              simp [q1, this, h3]
          · rintro _ K2 ⟨hgi, hoi⟩
            have h0' : inE none o x.s = 0 := by rw [hgi]; simp [inE]
            have hw10 : IntKind.i64.wrap 1 = 1 := by decide
            have := hK' h0' h1 hlt hne
            simp [hwi, hw10]
            simpa  using this
    · have h3 : conE l = 3 := by rw [hg, if_pos (by simpa using h1)]
      simp [hil, lst_atAgg hx, lst_at hx, encG]
      refine ⟨_, name_fn x.p, ?_⟩
      simp [h1, h3]
  · rintro o K ⟨hg, ho⟩
    simp [grE] at hg
    simp [hg]
theorem gerr_fn (l : List Cg) : Fn Try.prog 10 [cgs l] .sc (.int (conE l)) := by
  refine fn_run mixed 3 (Γ := ConF.Γ) (ann := ConF.ann) Try.func10 rfl Try.call10 ((ConF.gerr_form _ _).mpr ?_)
  simp [cgs]
  refine ⟨fun h => by simp [conE]; omega, fun h => ?_⟩
  have hE : conE l = grE ⟨#[]⟩ [] l := by unfold conE; rw [if_neg (by omega)]
  refine loop_list (σ := List ByteArray) l (fun n o => [.lit (.string (lastP l n)), .int (n : Nat), bs o]) (fun n rest o => conE l = grE (lastP l n) o rest ∧ o.length ≤ 12) [] rfl ⟨hE, by simp⟩ ?_ ?_
  · rintro n x rest o K hx hr hn ⟨hg, ho⟩ hK
    rw [grE] at hg
    have hwi := hw64 (n := n) (by omega)
    have hK' : inE none o x.s = 0 → isName x.p = true → ¬ key x.p ≤ key (lastP l n) → x.s ≠ [] → K [.lit (.string x.p), .int ((n : Nat) + 1), bs (o ++ x.s)] := fun h1 h2 h3 h4 => by
      refine hK _ (o ++ x.s) (by rw [lastP_succ hx]; simp) ⟨?_, inE_len _ _ _ ho h1⟩
      rw [hg, if_neg (by rw [h2]; simp), if_neg h3, if_neg h4, if_neg (by rw [h1]; simp), lastP_succ hx]
    have hil : (n : Int) < l.length := by omega
    by_cases h1 : isName x.p = true
    · simp [hil, lst_atAgg hx, lst_at hx, encG]
      refine ⟨_, isname_fn x.p, ?_⟩
      simp [h1]
      refine ⟨fun q => ?_, fun q => ⟨fun q2 => ?_, fun hne => ?_⟩⟩
      · rw [hg, if_neg (by rw [h1]; simp), if_pos q]
      · rw [hg, if_neg (by rw [h1]; simp), if_neg (List.not_le.2 q), if_pos q2]
      · have hlt : ¬ key x.p ≤ key (lastP l n) := List.not_le.2 q
        have hcon : inE none o x.s ≠ 0 → conE l = inE none o x.s := fun q => by rw [hg, if_neg (by rw [h1]; simp), if_neg hlt, if_neg hne, if_pos q]
        refine loop_list (σ := Unit) x.s (fun i _ => [.int (i : Nat), bs (o ++ x.s.take i)]) (fun i rs _ => inE none o x.s = inE (prevS x.s i) (o ++ x.s.take i) rs ∧ (o ++ x.s.take i).length ≤ 12) () (by simp) ⟨by simp [prevS], by simpa using ho⟩ ?_ ?_
        · rintro i s rs _ K2 hs hrs hi ⟨hgi, hoi⟩ hK2
          rw [inE] at hgi
          have hi9 : i ≤ 12 := by simp at hoi; omega
          have hwi2 := hw64 (n := i) (by omega)
          have hil2 : (i : Int) < x.s.length := by omega
          have hK3 : isName s = true → s ∉ o ++ x.s.take i → ¬ (∃ p, prevS x.s i = some p ∧ key s < key p) → (o ++ x.s.take i).length ≠ 12 → K2 [.int ((i : Nat) + 1), bs (o ++ x.s.take i ++ [s])] := fun q1 q2 q3 q4 => by
            have e : o ++ x.s.take i ++ [s] = o ++ x.s.take (i + 1) := by rw [List.append_assoc, List.take_add_one, hs]; rfl
            refine hK2 _ () (by rw [e]; simp) ⟨?_, by rw [← e, List.length_append]; simp only [List.length_cons, List.length_nil]; omega⟩
            rw [hgi, if_neg (by rw [q1]; simp), if_neg q2, if_neg q3, if_neg q4, e]
            have : prevS x.s (i + 1) = some s := by simp [prevS, hs]
            rw [this]
          generalize o ++ x.s.take i = O at hgi hoi hK3 ⊢
          simp [hil2, bs_at _ hs, hwi2]
          refine ⟨_, isname_fn s, ?_⟩
          by_cases q1 : isName s = true
          · have hHas := has_fn O s (by omega)
            simp [q1]
            refine ⟨_, hHas, ?_⟩
            by_cases q2 : s ∈ O
            · have h7 : inE none o x.s = 7 := by rw [hgi, if_neg (by rw [q1]; simp), if_pos q2]
              have := hcon (by rw [h7]; simp)
              simp [q2, this, h7]
            · rcases Nat.eq_zero_or_pos i with i0 | i0
              · have hp : prevS x.s i = none := by simp [prevS, i0]
                have hnp : ¬ ∃ p, prevS x.s i = some p ∧ key s < key p := by rw [hp]; simp
                simp [q2, i0]
                refine ⟨by simp [bs, AV.room]; omega, ?_⟩
                simp [bs_app1]
                refine ⟨fun q4 => ?_, fun q4 => ?_⟩
                · have h2 : inE none o x.s = 2 := by rw [hgi, if_neg (by rw [q1]; simp), if_neg q2, if_neg hnp, if_pos (by omega)]
                  rw [hcon (by rw [h2]; simp), h2]
                · have := hK3 q1 q2 hnp (by omega)
                  simpa [i0] using this
              · obtain ⟨y2, hy2⟩ : ∃ y2, x.s[i - 1]? = some y2 := ⟨_, List.getElem?_eq_getElem (by omega)⟩
                have hp : prevS x.s i = some y2 := by simp [prevS, hy2, Nat.ne_of_gt i0]
                have hw2 : IntKind.i64.wrap ((i : Int) - 1) = ((i - 1 : Nat) : Int) := by rw [wrap64 (by omega) (by omega)]; omega
                have hi1 : i - 1 < x.s.length := by omega
                have hi0 : ¬ i = 0 := by omega
                simp [q2, i0, hi0, hw2, bs_at _ hy2, hi1]
                refine ⟨fun q3 => ?_, fun q3 => ?_⟩
                · have h7 : inE none o x.s = 7 := by rw [hgi, if_neg (by rw [q1]; simp), if_neg q2, if_pos ⟨y2, hp, q3⟩]
                  rw [hcon (by rw [h7]; simp), h7]
                · have hnp : ¬ ∃ p, prevS x.s i = some p ∧ key s < key p := by rw [hp]; simp; exact q3
                  refine ⟨by simp [bs, AV.room]; omega, ?_⟩
                  simp [bs_app1]
                  refine ⟨fun q4 => ?_, fun q4 => ?_⟩
                  · have h2 : inE none o x.s = 2 := by rw [hgi, if_neg (by rw [q1]; simp), if_neg q2, if_neg hnp, if_pos (by omega)]
                    rw [hcon (by rw [h2]; simp), h2]
                  · have := hK3 q1 q2 hnp (by omega)
                    simpa [hwi2] using this
          · have h3 : inE none o x.s = 3 := by rw [hgi, if_pos (by simpa using q1)]
            have := hcon (by rw [h3]; simp)
            simp [q1, this, h3]
        · rintro _ K2 ⟨hgi, hoi⟩
          have h0' : inE none o x.s = 0 := by rw [hgi]; simp [inE]
          have hw10 : IntKind.i64.wrap 1 = 1 := by decide
          have := hK' h0' h1 hlt hne
          simp [hwi, hw10]
          simpa  using this
    · have h3 : conE l = 3 := by rw [hg, if_pos (by simpa using h1)]
      simp [hil, lst_atAgg hx, lst_at hx, encG]
      refine ⟨_, isname_fn x.p, ?_⟩
      simp [h1, h3]
  · rintro o K ⟨hg, ho⟩
    simp [grE] at hg
    simp [hg]
end Go.Proofs.Ytpidhccaoponfaa
/- Positions of controllers: sorted lists of strings. -/
namespace Go.Proofs.Ytpidhccaoponfaa
open Go.RowKit Go.Shelf
set_option linter.unusedVariables false
set_option linter.unusedSimpArgs false
set_option maxRecDepth 100000
/-! ### the reference's sort -/
def insS (x : ByteArray) : List ByteArray → List ByteArray
  | [] => [x]
  | y :: r => if key y ≤ key x then y :: insS x r else x :: y :: r
def srtS (l : List ByteArray) : List ByteArray := l.foldl (fun o x => insS x o) []
def leK (a b : ByteArray) : Prop := key a ≤ key b
theorem leK_total (a b : ByteArray) : leK a b ∨ leK b a := by
  unfold leK
  by_cases h : key a ≤ key b
  · exact .inl h
  · exact .inr (List.le_of_lt (List.not_le.1 h))
theorem leK_trans {a b c : ByteArray} (h : leK a b) (k : leK b c) : leK a c := List.le_trans h k
theorem leK_anti {a b : ByteArray} (h : leK a b) (k : leK b a) : a = b := key_inj (List.le_antisymm h k)
theorem insS_perm (x : ByteArray) : ∀ l, (insS x l).Perm (x :: l)
  | [] => .refl _
  | y :: r => by
    rw [insS]
    split
    · exact ((insS_perm x r).cons y).trans (.swap x y r)
    · exact .refl _
theorem insS_sorted (x : ByteArray) : ∀ l, l.Pairwise leK → (insS x l).Pairwise leK
  | [], _ => by simp [insS]
  | y :: r, h => by
    obtain ⟨h1, h2⟩ := List.pairwise_cons.1 h
    rw [insS]
    split
    · rename_i hk
      refine List.pairwise_cons.2 ⟨fun z hz => ?_, insS_sorted x r h2⟩
      rcases List.mem_cons.1 ((insS_perm x r).mem_iff.1 hz) with e | hz
      · rw [e]; exact hk
      · exact h1 z hz
    · rename_i hk
      have hxy : leK x y := List.le_of_lt (List.not_le.1 hk)
      refine List.pairwise_cons.2 ⟨fun z hz => ?_, h⟩
      rcases List.mem_cons.1 hz with e | hz
      · rw [e]; exact hxy
      · exact leK_trans hxy (h1 z hz)
theorem srtS_fold : ∀ (l o : List ByteArray), o.Pairwise leK → (l.foldl (fun o x => insS x o) o).Perm (o ++ l) ∧ (l.foldl (fun o x => insS x o) o).Pairwise leK
  | [], o, h => by simpa using h
  | x :: l, o, h => by
    obtain ⟨h1, h2⟩ := srtS_fold l (insS x o) (insS_sorted x o h)
    refine ⟨h1.trans (((insS_perm x o).append_right l).trans ?_), h2⟩
    exact (List.perm_middle (l₁ := o) (a := x) (l₂ := l)).symm
theorem srtS_perm (l : List ByteArray) : (srtS l).Perm l := (srtS_fold l [] List.Pairwise.nil).1
theorem srtS_sorted (l : List ByteArray) : (srtS l).Pairwise leK := (srtS_fold l [] List.Pairwise.nil).2
theorem sorted_one {l m : List ByteArray} (hl : l.Pairwise leK) (hm : m.Pairwise leK) (hp : l.Perm m) : l = m :=
  List.Perm.eq_of_pairwise (fun a b _ _ h k => leK_anti h k) hl hm hp
theorem srtS_of {l m : List ByteArray} (hp : l.Perm m) (hl : l.Pairwise leK) : l = srtS m := sorted_one hl (srtS_sorted m) (hp.trans (srtS_perm m).symm)
theorem srtS_id {l : List ByteArray} (hl : l.Pairwise leK) : srtS l = l := (srtS_of (.refl l) hl).symm
theorem srtS_len (l : List ByteArray) : (srtS l).length = l.length := (srtS_perm l).length_eq
theorem mem_srtS {l : List ByteArray} {x : ByteArray} : x ∈ srtS l ↔ x ∈ l := (srtS_perm l).mem_iff
/-- Where a string is put. -/
def insK (x : ByteArray) : List ByteArray → Nat
  | [] => 0
  | y :: r => if key y ≤ key x then insK x r + 1 else 0
theorem insK_le (x : ByteArray) : ∀ l, insK x l ≤ l.length
  | [] => Nat.le_refl _
  | y :: r => by rw [insK]; split <;> simp [insK_le x r]
theorem insS_at (x : ByteArray) : ∀ l, insS x l = l.take (insK x l) ++ x :: l.drop (insK x l)
  | [] => rfl
  | y :: r => by
    rw [insS, insK]
    split
    · simp [insS_at x r]
    · simp
theorem sorted_fn (l : List ByteArray) (hl : l.length ≤ 1000000) : Fn Try.prog 27 [bs l] (.row 9 1 true) (bs (srtS l)) := by
  refine fn_run mixed 3 (Γ := ConF.Γ) (ann := ConF.ann) Try.func27 rfl Try.call27 ((ConF.sorted_form _ _).mpr ?_)
  refine ⟨by simp, ?_⟩
  refine loop_list (σ := List ByteArray) l (fun n o => [.int (n : Nat), bs o]) (fun n rest o => srtS l = rest.foldl (fun o x => insS x o) o ∧ o.length = n) [] rfl ⟨rfl, rfl⟩ ?_ ?_
  · rintro n x rest o K hx hr hn ⟨hg, ho⟩ hK
    have hwi := hw64 (n := n) (by omega)
    have hil : (n : Int) < l.length := by omega
    have hkl := insK_le x o
    have hKK : K [.int ((n : Nat) + 1), bs (o.take (insK x o) ++ x :: o.drop (insK x o))] := hK _ (insS x o) (by rw [insS_at]; simp) ⟨by rw [hg]; rfl, by rw [(insS_perm x o).length_eq]; simp [ho]⟩
    have htl : (o.map encB1).take o.length = o.map encB1 := List.take_of_length_le (by simp)
    have key2 : ∀ k : Nat, k ≤ o.length → AV.app 1 (AV.sub 1 (bs o) (.int 0) (.int (k : Nat))) (AV.app 1 (.sl 1 [[.lit (.string x)]]) (AV.sub 1 (bs o) (.int (k : Nat)) (.int o.length))) = bs (o.take k ++ x :: o.drop k) := fun k hk => by
      simp [bs, lst, encB1, htl]
    simp [hil, bs_at _ hx, hwi]
    refine loop_list (σ := Unit) o (fun k _ => [.int (k : Nat)]) (fun k r _ => insK x o = k + insK x r) () rfl (by simp) ?_ ?_
    · rintro k y r _ K2 hy hry hk hgk hK2
      have hwk := hw64 (n := k) (by omega)
      have hkl2 : (k : Int) < o.length := by omega
      rw [insK] at hgk
      simp [hkl2, bs_at _ hy, hwk, hk]
      refine ⟨fun q => hK2 _ () (by simp) (by rw [hgk, if_pos q]; omega), fun q => ?_⟩
      have hq : ¬ key y ≤ key x := List.not_le.2 q
      rw [if_neg hq] at hgk
      have e : insK x o = k := by omega
      rw [e, ← key2 k (by omega)] at hKK
      simp [bs, lst, encB1, AV.room, htl] at hKK ⊢
      exact ⟨by omega, by omega, by omega, by omega, hKK⟩
    · rintro _ K2 hgk
      have e : insK x o = o.length := by simpa [insK] using hgk
      rw [e, ← key2 o.length (by omega)] at hKK
      simp [bs, lst, encB1, AV.room, htl] at hKK ⊢
      exact ⟨by omega, hKK⟩
  · rintro o K ⟨hg, ho⟩
    simp at hg
    simp [hg]
/-! ### the library's sort of strings -/
def ofK (l : List UInt8) : ByteArray := ⟨l.toArray⟩
theorem ofK_key (s : ByteArray) : ofK (key s) = s := by cases s; rfl
theorem key_ofK (l : List UInt8) : key (ofK l) = l := rfl
theorem encStr_key (s : ByteArray) : encStr (key s) = .string s := by
  have := ofK_key s
  unfold ofK at this
  show Value.string _ = _
  rw [← this]; rfl
/-- A function that does nothing to a row of no element. -/
theorem fnU_none {P : Program} {f : FuncId} {e s : Nat} (hs : 0 < s) (hent : Ent P f) (h : ∀ (p : Option Addr) (cap : Nat) (w : World), Calls P f #[.slice p 0 cap] w fun k w' => k = .returned (.tuple #[]) ∧ w' = w) : FnU P f e s (.sl s []) [] false (.sl s []) := by
  refine ⟨hent, ?_⟩
  intro w ok B okc v0 cargs hrow hokc hok hB hgl hsz hargs
  obtain rfl : cargs = #[] := Array.eq_empty_of_size_eq_zero hsz
  obtain ⟨A, n, c, rfl, hn, _⟩ := hrow.form
  have hn0 : n = 0 := hn
  subst hn0
  refine (h A c w).mono ?_
  rintro k w' ⟨rfl, rfl⟩
  exact ⟨_, rfl, ⟨rfl, rfl, rfl, Nat.le_refl _, fun _ _ _ => rfl⟩, hrow, fun _ => rfl, fun g hg => .inl hg, Nat.le_refl _⟩
theorem sortS_fn (l : List ByteArray) (hl : l.length ≤ 1000000) : FnU Try.prog 35 9 1 (bs l) [] false (bs (srtS l)) := by
  by_cases h0 : l = []
  · subst h0
    exact fnU_none (by omega) Try.call35 fun p cap w => Any.slices_Sort_string_none sortS p cap w
  · have e : ∀ m : List ByteArray, bs m = .sl 1 ((m.map key).map fun x => [.lit (encStr x)]) := fun m => by
      simp only [bs, lst, encB1, List.map_map]
      congr 1
    have hmap : ∀ m : List (List UInt8), m.map (fun x => key (ofK x)) = m := fun m => by simp [key_ofK]
    have hkk : (srtS l).map key = (l.map key).mergeSort fun x y => decide (x ≤ y) := by
      have hsl : ((l.map key).mergeSort fun x y => decide (x ≤ y)).Pairwise fun x y => decide (x ≤ y) = true :=
        List.pairwise_mergeSort (le := fun x y : List UInt8 => decide (x ≤ y)) (fun a b c h k => decide_eq_true (List.le_trans (of_decide_eq_true h) (of_decide_eq_true k))) (fun a b => by
          by_cases h : a ≤ b
          · simp [h]
          · have := List.le_of_lt (List.not_le.1 h)
            simp [this]) _
      refine List.Perm.eq_of_pairwise (le := fun x y : List UInt8 => x ≤ y) (fun a b _ _ h k => List.le_antisymm h k) ?_ (hsl.imp fun h => of_decide_eq_true h) (((srtS_perm l).map key).trans (List.mergeSort_perm _ _).symm)
      rw [List.pairwise_map]
      exact srtS_sorted l
    rw [e l, e (srtS l), hkk]
    exact srtU Try.call35 encStr (fun _ => rfl) (l.map key) _ (by simpa using h0) (List.length_mergeSort _) fun w G cap hH hG => Any.slices_Sort_string sortS G 0 cap (l.map key) w hH hG (by simp; omega)
end Go.Proofs.Ytpidhccaoponfaa
/- Positions of controllers: the order of positions; beginning; what is asked. -/
namespace Go.Proofs.Ytpidhccaoponfaa
open Go.RowKit Go.Shelf
set_option linter.unusedVariables false
set_option linter.unusedSimpArgs false
set_option maxRecDepth 100000
set_option maxHeartbeats 1000000 in
theorem cmp_calls (a b : ByteArray) (w : World) :
    Calls Try.prog 52 #[.string a, .string b] w fun e w' => e = .returned (.int .i64 (Lib.compareBytes a.data.toList b.data.toList)) ∧ w' = w := by
  go_enter Try.func52, Try.ntmps52
  go_wp2
  rw [run_callFunc_extern Try.func72 (by kernel_rfl) (by kernel_rfl) (by kernel_rfl) (e := Extern.BytealgCompare.compare) (by kernel_rfl), Lib.run_compareString]
  simp only [Result.andThen]
  rw [Oper.upon_value]
  go_wp2
  go_ret
  exact ⟨rfl, rfl⟩
def cmpK (a b : ByteArray) : Int := Lib.compareBytes (key a) (key b)
theorem cmp_fn (a b : ByteArray) : Fn Try.prog 52 [.string a, .string b] .sc (.int (cmpK a b)) := by
  refine ⟨Try.call52, ?_⟩
  intro w ok cargs hok hgl hsz hargs
  have h0 := RV.lit_iff.1 (hargs 0 (by simp))
  have h1 := RV.lit_iff.1 (hargs 1 (by simp))
  have hc : cargs = #[.string a, .string b] := by
    apply Array.ext_getElem?
    intro i
    have hsz' : cargs.size = 2 := hsz
    match i with
    | 0 => simpa [Array.getD, hsz'] using h0
    | 1 => simpa [Array.getD, hsz'] using h1
    | n + 2 => rw [Array.getElem?_eq_none (by omega), Array.getElem?_eq_none (by simp)]
  subst hc
  refine (cmp_calls a b w).mono ?_
  rintro e w' ⟨rfl, rfl⟩
  exact ⟨_, rfl, Below.refl _ _, .lit _, fun j i j' i' h => (by cases j <;> cases i <;> cases h), Nat.le_refl _⟩
theorem cmpK_neg (a b : ByteArray) : cmpK a b < 0 ↔ key a < key b := by
  unfold cmpK
  generalize key a = x, key b = y
  induction x generalizing y with
  | nil => cases y with
    | nil => simp [Lib.compareBytes]
    | cons b bs => simp [Lib.compareBytes]
  | cons a m ih => cases y with
    | nil => simp [Lib.compareBytes]
    | cons b bs =>
      rw [Lib.compareBytes, List.cons_lt_cons_iff]
      by_cases h1 : a < b
      · simp [h1]
      · rw [if_neg h1]
        by_cases h2 : b < a
        · rw [if_pos h2]
          have : a ≠ b := fun e => by subst e; exact h1 h2
          simp [h1, this]
        · rw [if_neg h2, ih]
          have : a = b := UInt8.le_antisymm (UInt8.not_lt.1 h2) (UInt8.not_lt.1 h1)
          simp [h1, this]
theorem cless_fn (x y : Cg) : Fn Try.prog 42 [.agg (encG x), .agg (encG y)] .sc (.int (cmpK x.p y.p)) := by
  refine fn_run mixed 3 (Γ := ConF.Γ) (ann := ConF.ann) Try.func42 rfl Try.call42 ((ConF.cless_form _ _ _).mpr ?_)
  refine ⟨by simp [encG], by simp [encG], Try.call43, fun _ => ⟨_, by simpa [encG] using cmp_fn x.p y.p, by simp⟩⟩
/-! ### positions in their order -/
def insG (x : Cg) : List Cg → List Cg
  | [] => [x]
  | y :: r => if key y.p < key x.p then y :: insG x r else x :: y :: r
def srtG : List Cg → List Cg
  | [] => []
  | x :: r => insG x (srtG r)
theorem insG_perm (x : Cg) : ∀ l, (insG x l).Perm (x :: l)
  | [] => .refl _
  | y :: r => by
    rw [insG]
    split
    · exact ((insG_perm x r).cons y).trans (.swap x y r)
    · exact .refl _
theorem srtG_perm : ∀ l, (srtG l).Perm l
  | [] => .refl _
  | x :: r => (insG_perm x _).trans ((srtG_perm r).cons x)
theorem srtG_len (l : List Cg) : (srtG l).length = l.length := (srtG_perm l).length_eq
theorem insG_sorted (x : Cg) : ∀ l : List Cg, l.Pairwise (fun a b => leK a.p b.p) → (insG x l).Pairwise (fun a b => leK a.p b.p)
  | [], _ => by simp [insG]
  | y :: r, h => by
    obtain ⟨h1, h2⟩ := List.pairwise_cons.1 h
    rw [insG]
    split
    · rename_i hk
      refine List.pairwise_cons.2 ⟨fun z hz => ?_, insG_sorted x r h2⟩
      rcases List.mem_cons.1 ((insG_perm x r).mem_iff.1 hz) with e | hz
      · rw [e]; exact List.le_of_lt hk
      · exact h1 z hz
    · rename_i hk
      have hxy : leK x.p y.p := List.not_lt.1 hk
      refine List.pairwise_cons.2 ⟨fun z hz => ?_, h⟩
      rcases List.mem_cons.1 hz with e | hz
      · rw [e]; exact hxy
      · exact leK_trans hxy (h1 z hz)
theorem srtG_sorted : ∀ l, (srtG l).Pairwise (fun a b => leK a.p b.p)
  | [] => List.Pairwise.nil
  | x :: r => insG_sorted x _ (srtG_sorted r)
def cfG (x y : List AV) : Int := cmpK (x.getD 0 default).str (y.getD 0 default).str
theorem cfG_lt (a b : Cg) : cfG (encG a) (encG b) < 0 ↔ key a.p < key b.p := cmpK_neg _ _
theorem sortG_fn (l : List Cg) (hl : l.length ≤ 1000000) (hinj : ∀ a ∈ l, ∀ b ∈ l, a.p = b.p → a = b) : FnU Try.prog 41 53 2 (cgs l) [.clo 42 []] false (cgs (srtG l)) := by
  have hmem : ∀ x ∈ l.map encG, ∃ a ∈ l, x = encG a := fun x hx => by obtain ⟨a, ha, e⟩ := List.mem_map.1 hx; exact ⟨a, ha, e.symm⟩
  refine sortU (P := Try.prog) (ρ := sortCg_ren) sortCg Try.isAgg53 Try.sizeOf53 (cs := []) (cf := cfG) (d := l.map encG) (s := (srtG l).map encG) (by omega) Try.call42 ?_ ?_ ?_ ?_ ?_ ?_ ?_ ?_
  · intro x hx y hy
    obtain ⟨a, ha, rfl⟩ := hmem x hx
    obtain ⟨b, hb, rfl⟩ := hmem y hy
    exact cless_fn a b
  · intro x hx
    obtain ⟨a, ha, rfl⟩ := hmem x hx
    rw [cfG_lt]; exact List.lt_irrefl _
  · intro x hx y hy z hz
    obtain ⟨a, ha, rfl⟩ := hmem x hx
    obtain ⟨b, hb, rfl⟩ := hmem y hy
    obtain ⟨c, hc, rfl⟩ := hmem z hz
    rw [cfG_lt, cfG_lt, cfG_lt]; exact fun h k => List.lt_trans h k
  · intro x hx y hy z hz
    obtain ⟨a, ha, rfl⟩ := hmem x hx
    obtain ⟨b, hb, rfl⟩ := hmem y hy
    obtain ⟨c, hc, rfl⟩ := hmem z hz
    rw [cfG_lt, cfG_lt, cfG_lt]; exact fun h k => List.not_lt.2 (List.le_trans (List.not_lt.1 k) (List.not_lt.1 h))
  · intro x hx y hy
    obtain ⟨a, ha, rfl⟩ := hmem x hx
    obtain ⟨b, hb, rfl⟩ := hmem y hy
    rw [cfG_lt, cfG_lt]
    intro h1 h2
    rw [hinj a ha b hb (key_inj (List.le_antisymm (List.not_lt.1 h2) (List.not_lt.1 h1)))]
  · simp; omega
  · exact (srtG_perm l).map _
  · rw [List.pairwise_map]
    exact (srtG_sorted l).imp fun h => by rw [cfG_lt]; exact List.not_lt.2 h
/-! ### a position for each sector -/
def bgE : List ByteArray → List ByteArray → Int
  | _, [] => 0
  | seen, s :: r => if isName s = false then 3 else if s ∈ seen then 7 else bgE (seen ++ [s]) r
def oneG (s : ByteArray) : Cg := ⟨s, [s]⟩
def begE (l : List ByteArray) : Int := if 12 < l.length then 2 else bgE [] l
def begV (l : List ByteArray) : AV := if begE l ≠ 0 then .tup [.sl 2 [], .int (begE l)] else .tup [cgs (srtG (l.map oneG)), .int 0]
theorem bgE_ok : ∀ (l seen : List ByteArray), seen.Nodup → bgE seen l = 0 → (seen ++ l).Nodup ∧ ∀ s ∈ l, isName s = true
  | [], seen, h, _ => ⟨by simpa using h, by simp⟩
  | s :: r, seen, h, e => by
    rw [bgE] at e
    split at e
    · cases e
    · rename_i h1
      split at e
      · cases e
      · rename_i h2
        have hn : (seen ++ [s]).Nodup := by
          rw [List.nodup_append]
          exact ⟨h, by simp, fun a ha b hb => by simp at hb; subst hb; exact fun e => h2 (e ▸ ha)⟩
        obtain ⟨q1, q2⟩ := bgE_ok r (seen ++ [s]) hn e
        refine ⟨by simpa using q1, fun x hx => ?_⟩
        rcases List.mem_cons.1 hx with e | hx
        · rw [e]; simpa using h1
        · exact q2 x hx
theorem begE_ok {l : List ByteArray} (h : begE l = 0) : l.length ≤ 12 ∧ l.Nodup ∧ ∀ s ∈ l, isName s = true := by
  unfold begE at h
  split at h
  · cases h
  · obtain ⟨q1, q2⟩ := bgE_ok l [] List.nodup_nil h
    exact ⟨by omega, by simpa using q1, q2⟩
theorem begin_fn (l : List ByteArray) : Fn Try.prog 11 [bs l] (.tup [.row 53 2 false, .sc]) (begV l) := by
  refine fn_run mixed 3 (Γ := ConF.Γ) (ann := ConF.ann) Try.func11 rfl Try.call11 ((ConF.begin_form _ _).mpr ?_)
  simp
  refine ⟨fun h => ?_, fun h => ?_⟩
  · have : begE l = 2 := by unfold begE; rw [if_pos (by omega)]
    simp [begV, this]
  · have hE : begE l = bgE [] l := by unfold begE; rw [if_neg (by omega)]
    have bad : begE l ≠ 0 → begV l = .tup [.sl 2 [], .int (begE l)] := fun q => by unfold begV; rw [if_pos q]
    refine loop_list (σ := List Cg) l (fun n o => [.int (n : Nat), cgs o]) (fun n rest o => begE l = bgE (l.take n) rest ∧ o = (l.take n).map oneG) [] rfl ⟨by rw [hE]; simp, by simp⟩ ?_ ?_
    · rintro n x rest o K hx hr hn ⟨hg, ho⟩ hK
      have hwi := hw64 (n := n) (by omega)
      have hil : (n : Int) < l.length := by omega
      rw [bgE] at hg
      have e1 : l.take (n + 1) = l.take n ++ [x] := by rw [List.take_add_one, hx]; rfl
      have hsub : AV.sub 1 (bs l) (.int 0) (.int (n : Nat)) = bs (l.take n) := by simp [bs, lst]
      have hso : (bs l).subOk (.int 0) (.int (n : Nat)) := by simp [bs]; omega
      simp [hil, bs_at _ hx, hwi, hsub, hso]
      refine ⟨_, name_fn x, ?_⟩
      by_cases h1 : isName x = true
      · simp [h1]
        refine ⟨_, cont_fn (l.take n) x (by simp; omega), ?_⟩
        by_cases h2 : x ∈ l.take n
        · have h7 : begE l = 7 := by rw [hg, if_neg (by rw [h1]; simp), if_pos h2]
          have := bad (by rw [h7]; simp)
          rw [h7] at this
          simp [h2, this]
        · simp [h2]
          have hol : o.length = n := by rw [ho]; simp; omega
          refine ⟨by simp [AV.room, cgs]; omega, ?_⟩
          have := hK [.int ((n : Nat) + 1), cgs (o ++ [oneG x])] (o ++ [oneG x]) (by simp) ⟨by rw [hg, if_neg (by rw [h1]; simp), if_neg h2, e1], by rw [ho, e1]; simp⟩
          rw [← cgs_snoc] at this
          simpa [cgs, lst, encG, oneG, bs, encB1] using this
      · have h3 : begE l = 3 := by rw [hg, if_pos (by simpa using h1)]
        have := bad (by rw [h3]; simp)
        rw [h3] at this
        simp [h1, this]
    · rintro o K ⟨hg, ho⟩
      have h0 : begE l = 0 := by rw [hg]; simp [bgE]
      obtain ⟨q1, q2, q3⟩ := begE_ok h0
      have ho' : o = l.map oneG := by rw [ho]; simp
      have hs := sortG_fn o (by rw [ho']; simp; omega) (fun a ha b hb e => by
        rw [ho'] at ha hb
        obtain ⟨x, _, rfl⟩ := List.mem_map.1 ha
        obtain ⟨y, _, rfl⟩ := List.mem_map.1 hb
        have : x = y := e
        rw [this])
      simp
      refine ⟨Try.call32, _, hs, ?_⟩
      unfold begV
      rw [if_neg (by rw [h0]; simp), ho']
end Go.Proofs.Ytpidhccaoponfaa
/- Positions of controllers: what they contain. -/
namespace Go.Proofs.Ytpidhccaoponfaa
open Go.RowKit Go.Shelf
set_option linter.unusedVariables false
set_option linter.unusedSimpArgs false
set_option maxRecDepth 100000
theorem eqs_fn (l m : List ByteArray) (hl : l.length ≤ 1000000) : Fn Try.prog 26 [bs l, bs m] .sc (.bool (decide (l = m))) := by
  refine fn_run mixed 3 (Γ := ConF.Γ) (ann := ConF.ann) Try.func26 rfl Try.call26 ((ConF.eqs_form _ _ _).mpr ?_)
  simp
  refine ⟨fun h => fun e => by subst e; exact h rfl, fun h => ?_⟩
  refine equal_loop l m (by omega) rfl ?_ ?_
  · intro n x y K hx hy hn hne heq
    have hwi := hw64 (n := n) (by omega)
    have hm : (n : Int) < m.length := by omega
    have hl' : (n : Int) < l.length := by omega
    simp [hl', hm, bs_at _ hx, bs_at _ hy, hwi]
    refine ⟨fun q => by have := hne q; simpa using this, fun q => heq q⟩
  · intro K hr
    have : l = m := by simpa using hr
    simp [this]
structure Mv where
  s : ByteArray
  f : ByteArray
  t : ByteArray
deriving DecidableEq
def encV (x : Mv) : List AV := [.lit (.string x.s), .lit (.string x.f), .lit (.string x.t)]
def mvs (l : List Mv) : AV := lst 3 encV l
theorem eqm_fn (l m : List Mv) (hl : l.length ≤ 1000000) : Fn Try.prog 29 [mvs l, mvs m] .sc (.bool (decide (l = m))) := by
  refine fn_run mixed 3 (Γ := ConF.Γ) (ann := ConF.ann) Try.func29 rfl Try.call29 ((ConF.eqm_form _ _ _).mpr ?_)
  simp [mvs]
  refine ⟨fun h => fun e => by subst e; exact h rfl, fun h => ?_⟩
  refine equal_loop l m (by omega) rfl ?_ ?_
  · intro n x y K hx hy hn hne heq
    have hwi := hw64 (n := n) (by omega)
    have hm : (n : Int) < m.length := by omega
    have hl' : (n : Int) < l.length := by omega
    have hxy : x = y ↔ (x.s = y.s ∧ x.f = y.f ∧ x.t = y.t) := ⟨fun e => by rw [e]; exact ⟨rfl, rfl, rfl⟩, fun ⟨h1, h2, h3⟩ => by cases x; cases y; simp_all⟩
    simp [hl', hm, lst_atAgg hx, lst_atAgg hy, encV, hwi, AV.eqPlOk, AV.nePl]
    refine ⟨fun q => ?_, fun q1 q2 q3 => heq (hxy.2 ⟨q1, q2, q3⟩)⟩
    have := hne fun e => by
      obtain ⟨h1, h2, h3⟩ := hxy.1 e
      rcases q with q | q | q
      · exact q h1
      · exact q h2
      · exact q h3
    simpa using this
  · intro K hr
    have : l = m := by simpa using hr
    simp [this]
theorem same_fn (l m : List Cg) (hl : Small l) : Fn Try.prog 14 [cgs l, cgs m] .sc (.bool (decide (l = m))) := by
  refine fn_run mixed 3 (Γ := ConF.Γ) (ann := ConF.ann) Try.func14 rfl Try.call14 ((ConF.same_form _ _ _).mpr ?_)
  simp [cgs]
  have hl1 := hl.1
  refine ⟨fun h => fun e => by subst e; exact h rfl, fun h => ?_⟩
  refine equal_loop l m (by omega) rfl ?_ ?_
  · intro n x y K hx hy hn hne heq
    have hwi := hw64 (n := n) (by omega)
    have hm : (n : Int) < m.length := by omega
    have hl' : (n : Int) < l.length := by omega
    have hxs := hl.at hx
    have hxy : x = y ↔ (x.p = y.p ∧ x.s = y.s) := ⟨fun e => by rw [e]; exact ⟨rfl, rfl⟩, fun ⟨h1, h2⟩ => by cases x; cases y; simp_all⟩
    have bad : x ≠ y → ¬ l = m := fun q => by simpa using hne q
    by_cases q : x.p = y.p
    rotate_left
    · have := bad fun e => q (hxy.1 e).1
      simp [hl', hm, lst_at hx, lst_at hy, encG, hwi, q, this]
    by_cases q2 : x.s.length = y.s.length
    rotate_left
    · have := bad fun e => q2 (by rw [e])
      have q3 : ¬ (x.s.length : Int) = y.s.length := by omega
      simp [hl', hm, lst_at hx, lst_at hy, encG, hwi, q, q2, q3, this]
    simp [hl', hm, lst_at hx, lst_at hy, encG, hwi, q, q2]
    refine equal_loop x.s y.s (by omega) (r := .bool (decide (x.s = y.s))) rfl ?_ ?_
    · intro i s t K2 hs ht hi hne2 heq2
      have hwi2 := hw64 (n := i) (by omega)
      have hi1 : (i : Int) < x.s.length := by omega
      have hi2 : (i : Int) < y.s.length := by omega
      simp [hi1, hi2, bs_at _ hs, bs_at _ ht, hwi2]
      refine ⟨fun q3 => bad fun e => ?_, fun q3 => heq2 q3⟩
      have := hne2 q3
      simp at this
      exact this (hxy.1 e).2
    · intro K2 hr
      have hss : x.s = y.s := by simpa using hr
      have := heq (hxy.2 ⟨q, hss⟩)
      simp
      exact ⟨by omega, fun _ => by simpa [hwi] using this⟩
  · intro K hr
    have : l = m := by simpa using hr
    simp [this]
/-! ### positions that are checked -/
theorem inE_ok : ∀ (l : List ByteArray) (p : Option ByteArray) (seen : List ByteArray), seen.Nodup → inE p seen l = 0 → (seen ++ l).Nodup ∧ (∀ s ∈ l, isName s = true) ∧ l.Pairwise leK ∧ (∀ x y, p = some x → y ∈ l → leK x y)
  | [], _, seen, h, _ => ⟨by simpa using h, by simp, List.Pairwise.nil, fun _ _ _ h => by simp at h⟩
  | s :: r, p, seen, h, e => by
    rw [inE] at e
    split at e
    · cases e
    · rename_i h1
      split at e
      · cases e
      · rename_i h2
        split at e
        · cases e
        · rename_i h3
          split at e
          · cases e
          · have hn : (seen ++ [s]).Nodup := by
              rw [List.nodup_append]
              exact ⟨h, by simp, fun a ha b hb => by simp at hb; subst hb; exact fun e => h2 (e ▸ ha)⟩
            obtain ⟨q1, q2, q3, q4⟩ := inE_ok r (some s) (seen ++ [s]) hn e
            have hsy : ∀ y ∈ r, leK s y := fun y hy => q4 s y rfl hy
            refine ⟨by simpa using q1, fun x hx => ?_, List.pairwise_cons.2 ⟨hsy, q3⟩, fun x y hp hy => ?_⟩
            · rcases List.mem_cons.1 hx with e | hx
              · rw [e]; simpa using h1
              · exact q2 x hx
            · have hxs : leK x s := List.not_lt.1 fun hlt => h3 ⟨x, hp, hlt⟩
              rcases List.mem_cons.1 hy with e | hy
              · rw [e]; exact hxs
              · exact leK_trans hxs (hsy y hy)
/-- What positions that are checked are like. -/
structure Good (l : List Cg) : Prop where
  len : l.length ≤ 12
  tot : (allS l).length ≤ 12
  nd : (allS l).Nodup
  nm : ∀ s ∈ allS l, isName s = true
  pn : ∀ g ∈ l, isName g.p = true ∧ g.s ≠ [] ∧ g.s.Pairwise leK
  so : l.Pairwise fun a b => key a.p < key b.p
theorem grE_ok : ∀ (l : List Cg) (last : ByteArray) (seen : List ByteArray), seen.Nodup → seen.length ≤ 12 → grE last seen l = 0 →
    (seen ++ allS l).Nodup ∧ (seen ++ allS l).length ≤ 12 ∧ (∀ s ∈ allS l, isName s = true) ∧ (∀ g ∈ l, isName g.p = true ∧ g.s ≠ [] ∧ g.s.Pairwise leK) ∧ (l.Pairwise fun a b => key a.p < key b.p) ∧ ∀ g ∈ l, key last < key g.p
  | [], _, seen, h, h2, _ => ⟨by simpa [allS] using h, by simpa [allS] using h2, by simp [allS], by simp, List.Pairwise.nil, by simp⟩
  | g :: r, last, seen, h, hsl, e => by
    rw [grE] at e
    split at e
    · cases e
    · rename_i h1
      split at e
      · cases e
      · rename_i h2
        split at e
        · cases e
        · rename_i h3
          split at e
          · rename_i h4; exact absurd e h4
          · rename_i h4
            have h0 : inE none seen g.s = 0 := Classical.byContradiction h4
            obtain ⟨q1, q2, q3, _⟩ := inE_ok g.s none seen h h0
            have q5 := inE_len g.s none seen hsl h0
            obtain ⟨r1, r2, r3, r4, r5, r6⟩ := grE_ok r g.p (seen ++ g.s) q1 q5 e
            have hlt : key last < key g.p := List.not_le.1 h2
            refine ⟨by simpa [allS] using r1, by simpa [allS, Nat.add_assoc] using r2, fun s hs => ?_, fun x hx => ?_, List.pairwise_cons.2 ⟨r6, r5⟩, fun x hx => ?_⟩
            · have : s ∈ g.s ∨ s ∈ allS r := by simpa [allS] using hs
              exact this.elim (q2 s) (r3 s)
            · rcases List.mem_cons.1 hx with e | hx
              · rw [e]; exact ⟨by simpa using h1, h3, q3⟩
              · exact r4 x hx
            · rcases List.mem_cons.1 hx with e | hx
              · rw [e]; exact hlt
              · exact List.lt_trans hlt (r6 x hx)
theorem conE_ok {l : List Cg} (h : conE l = 0) : Good l := by
  unfold conE at h
  split at h
  · cases h
  · obtain ⟨q1, q2, q3, q4, q5, _⟩ := grE_ok l _ [] List.nodup_nil (by simp) h
    exact ⟨by omega, by simpa using q2, by simpa using q1, q3, q4, q5⟩
theorem mem_allS {l : List Cg} {s : ByteArray} : s ∈ allS l ↔ ∃ g ∈ l, s ∈ g.s := by simp [allS]
theorem len_allS {x : Cg} : ∀ {l : List Cg}, x ∈ l → x.s.length ≤ (allS l).length
  | y :: l, h => by
    have e : (allS (y :: l)).length = y.s.length + (allS l).length := by simp [allS]
    rcases List.mem_cons.1 h with rfl | h
    · omega
    · have := len_allS h
      omega
theorem Good.small {l : List Cg} (g : Good l) : Small l := by
  refine ⟨by have := g.len; omega, fun x hx => ?_⟩
  have h := g.tot
  have : x.s.length ≤ (allS l).length := len_allS hx
  omega
def posV (l : List Cg) (s : ByteArray) : AV := if conE l ≠ 0 then .tup [.string ⟨#[]⟩, .int (conE l)] else if gofG s l = ⟨#[]⟩ then .tup [.string ⟨#[]⟩, .int 8] else .tup [.string (gofG s l), .int 0]
theorem position_fn (l : List Cg) (s : ByteArray) : Fn Try.prog 24 [cgs l, .string s] (.tup [.sc, .sc]) (posV l s) := by
  refine fn_run mixed 3 (Γ := ConF.Γ) (ann := ConF.ann) Try.func24 rfl Try.call24 ((ConF.position_form _ _ _).mpr ?_)
  refine ⟨_, check_fn l, ?_⟩
  by_cases h : conE l = 0
  · have g := conE_ok h
    simp [h]
    refine ⟨_, find_fn l s g.small, ?_⟩
    by_cases h2 : gofG s l = ⟨#[]⟩
    · simp [h2, posV, h]
    · simp [h2, posV, h]
  · simp [h, posV]
def namesV (l : List Cg) : AV := if conE l ≠ 0 then .tup [.sl 1 [], .int (conE l)] else .tup [bs (srtS (allS l)), .int 0]
theorem names_fn (l : List Cg) : Fn Try.prog 25 [cgs l] (.tup [.row 9 1 true, .sc]) (namesV l) := by
  refine fn_run mixed 3 (Γ := ConF.Γ) (ann := ConF.ann) Try.func25 rfl Try.call25 ((ConF.names_form _ _).mpr ?_)
  refine ⟨_, check_fn l, ?_⟩
  by_cases h : conE l = 0
  · have g := conE_ok h
    have hl1 := g.len
    have ht := g.tot
    simp [h]
    refine ⟨by simp [cgs], ?_⟩
    refine loop_list (σ := List ByteArray) l (fun n o => [.int (n : Nat), bs o]) (fun n rest o => allS l = o ++ allS rest) [] rfl rfl ?_ ?_
    · rintro n x rest o K hx hr hn hg hK
      have hwi := hw64 (n := n) (by omega)
      have hlen := congrArg List.length hg
      simp [allS] at hlen
      have ha' : (allS l).length = (l.map fun a => a.s.length).sum := by simp [allS, List.length_flatMap]
      simp [cgs, hn, lst_atAgg hx, lst_at hx, encG, hwi, AV.room, bs_app]
      refine ⟨?_, hK _ (o ++ x.s) (by simp) (by rw [hg]; simp [allS])⟩
      simp [bs]
      omega
    · rintro o K hg
      have ho : allS l = o := by simpa [allS] using hg
      simp [cgs]
      refine ⟨_, sortS_fn o (by rw [← ho]; omega), ?_⟩
      simp [namesV, h, ho]
  · simp [h, namesV]
def mvL (a b : List Cg) (l : List ByteArray) : List Mv := l.filterMap fun s => if gofG s a ≠ gofG s b then some ⟨s, gofG s a, gofG s b⟩ else none
def movesV (a b : List Cg) : AV := if conE a ≠ 0 then .tup [.sl 3 [], .int (conE a)] else if conE b ≠ 0 then .tup [.sl 3 [], .int (conE b)] else if srtS (allS a) ≠ srtS (allS b) then .tup [.sl 3 [], .int 19] else .tup [mvs (mvL a b (srtS (allS a))), .int 0]
theorem moves_fn (a b : List Cg) : Fn Try.prog 28 [cgs a, cgs b] (.tup [.row 56 3 true, .sc]) (movesV a b) := by
  refine fn_run mixed 3 (Γ := ConF.Γ) (ann := ConF.ann) Try.func28 rfl Try.call28 ((ConF.moves_form _ _ _).mpr ?_)
  refine ⟨_, names_fn a, ?_⟩
  by_cases ha : conE a = 0
  · have ga := conE_ok ha
    have e1 : namesV a = .tup [bs (srtS (allS a)), .int 0] := by simp [namesV, ha]
    simp [e1]
    refine ⟨_, names_fn b, ?_⟩
    by_cases hb : conE b = 0
    · have gb := conE_ok hb
      have e2 : namesV b = .tup [bs (srtS (allS b)), .int 0] := by simp [namesV, hb]
      have hla : (srtS (allS a)).length ≤ 12 := by rw [srtS_len]; exact ga.tot
      simp [e2]
      refine ⟨_, eqs_fn _ (srtS (allS b)) (by omega), ?_⟩
      by_cases hq : srtS (allS a) = srtS (allS b)
      · have hM : movesV a b = .tup [mvs (mvL a b (srtS (allS a))), .int 0] := by simp [movesV, ha, hb, hq]
        rw [hM]
        clear hM
        simp [hq]
        rw [← hq]
        refine loop_list (σ := List Mv) (srtS (allS a)) (fun n o => [.int (n : Nat), mvs o]) (fun n rest o => mvL a b (srtS (allS a)) = o ++ mvL a b rest ∧ o.length ≤ n) [] rfl ⟨rfl, by simp⟩ ?_ ?_
        · rintro n x rest o K hx hr hn ⟨hg, ho⟩ hK
          have hwi := hw64 (n := n) (by omega)
          have hil : (n : Int) < (srtS (allS a)).length := by omega
          simp [hn, bs_at _ hx, hwi]
          refine ⟨_, find_fn a x ga.small, _, find_fn b x gb.small, ?_⟩
          simp
          refine ⟨fun q => ?_, fun q => hK _ o (by simp) ⟨by rw [hg]; simp [mvL, q], by omega⟩⟩
          refine ⟨by simp [AV.room, mvs]; omega, ?_⟩
          have := hK [.int ((n : Nat) + 1), mvs (o ++ [⟨x, gofG x a, gofG x b⟩])] (o ++ [⟨x, gofG x a, gofG x b⟩]) (by simp) ⟨by rw [hg]; simp [mvL, q], by simp; omega⟩
          simpa [mvs, lst, encV] using this
        · rintro o K ⟨hg, ho⟩
          have : mvL a b (srtS (allS a)) = o := by simpa [mvL] using hg
          have hf : (mvs o).flatS := lst_flatS fun x _ z hz => by
            simp [encV] at hz
            rcases hz with rfl | rfl | rfl <;> exact .lit _
          simp [hf, this]
      · simp [hq, movesV, ha, hb]
    · have e2 : namesV b = .tup [.sl 1 [], .int (conE b)] := by simp [namesV, hb]
      simp [e2, hb, movesV, ha]
  · have e1 : namesV a = .tup [.sl 1 [], .int (conE a)] := by simp [namesV, ha]
    simp [e1, ha, movesV]
end Go.Proofs.Ytpidhccaoponfaa
/- Positions of controllers: a copy of them, all its own. -/
namespace Go.Proofs.Ytpidhccaoponfaa
open Go.RowKit Go.Shelf
set_option linter.unusedVariables false
set_option linter.unusedSimpArgs false
set_option maxRecDepth 100000
theorem clg_fn (l : List Cg) (hl : l.length ≤ 1000000) : Fn Try.prog 46 [cgs l] (.row 53 2 false) (cgs l) := by
  refine fn_run mixed 3 (Γ := ConF.Γ) (ann := ConF.ann) Try.func46 rfl Try.call46 ((ConF.clg_form _ _).mpr ?_)
  simp [cgs, AV.room]
  simp [lst]
  omega
theorem cls_fn (l : List ByteArray) (hl : l.length ≤ 1000000) : Fn Try.prog 47 [bs l] (.row 9 1 true) (bs l) := by
  refine fn_run mixed 3 (Γ := ConF.Γ) (ann := ConF.ann) Try.func47 rfl Try.call47 ((ConF.cls_form _ _).mpr ?_)
  have hf := bs_flat l
  simp [bs, AV.room] at hf ⊢
  simp [lst] at hf ⊢
  exact ⟨by omega, hf⟩
/-- What lies there in the loop: the row's cells, those that are new. -/
structure CpJ (l : List Cg) (w w1 : World) (v : Value) (okp : Nat → Prop) (k : Nat) (wr : World) (xs : List Value) : Prop where
  own : wr.ownsRow w.heap.size 53 2 v l.length xs
  one : ∀ u ∈ xs, u.oneCell' = true
  pos : ∀ i g, l[i]? = some g → xs.getD (i * 2) undef = .string g.p
  old : ∀ i g, l[i]? = some g → k ≤ i → RV wr okp (bs g.s) (xs.getD (i * 2 + 1) undef)
  new : ∀ i g, l[i]? = some g → i < k → RRow wr w1.heap.size 9 1 noBlock (bs g.s) (xs.getD (i * 2 + 1) undef)
  apart : ∀ i i' g, i < k → i' < k → i ≠ i' → (xs.getD (i * 2 + 1) undef).ownBlock = some g → (xs.getD (i' * 2 + 1) undef).ownBlock ≠ some g
  bel : Below w.heap.size w wr
  low : w1.heap.size ≤ wr.heap.size
  drw : w.drawn ≤ wr.drawn
theorem getD_set_ne {ys : List Value} {j m : Nat} (u : Value) (h : m ≠ j) : (ys.set j u).getD m undef = ys.getD m undef := by
  simp only [List.getD_eq_getElem?_getD]
  rw [List.getElem?_set_ne (fun e => h e.symm)]
theorem getD_set_eq {ys : List Value} {j : Nat} (u : Value) (h : j < ys.length) : (ys.set j u).getD j undef = u := by
  simp only [List.getD_eq_getElem?_getD]
  rw [List.getElem?_set_self h]; rfl
theorem CpJ.step {l : List Cg} {w w1 wr w2 : World} {g c k : Nat} {okp : Nat → Prop} {ys : List Value} {x : Cg} {v2 : Value} (J : CpJ l w w1 (.slice (some ⟨g, 0, none⟩) l.length c) okp k wr ys) (hokp : ∀ b, okp b → g ≠ b ∧ b < w1.heap.size) (hgw : g < w1.heap.size) (hx : l[k]? = some x)
    (hb2 : Below wr.heap.size wr w2) (hR2 : RRow w2 wr.heap.size 9 1 noBlock (bs x.s) v2) (hd2 : wr.drawn ≤ w2.drawn) : CpJ l w w1 (.slice (some ⟨g, 0, none⟩) l.length c) okp (k + 1) (w2.setCell ⟨g, k * 2 + 1, none⟩ v2) (ys.set (k * 2 + 1) v2) := by
  have hk : k < l.length := (List.getElem?_eq_some_iff.1 hx).1
  have hyl : ys.length = l.length * 2 := J.own.1
  have hgr : g < wr.heap.size := Nat.lt_of_lt_of_le hgw J.low
  have hBg : w.heap.size ≤ g := (World.ownsRow.lt J.own g rfl).1
  have hown2 : w2.ownsRow w.heap.size 53 2 (.slice (some ⟨g, 0, none⟩) l.length c) l.length ys := ownsRow_keep J.own fun b hb => by
    injection hb with hb
    subst hb
    exact hb2.block _ hgr
  obtain ⟨s1, s2⟩ := hown2.stored (k * 2 + 1) v2
  have hother : ∀ b, b ≠ g → (w2.setCell ⟨g, k * 2 + 1, none⟩ v2).heap[b]? = w2.heap[b]? := fun b hb => heap_setCell_other w2 ⟨g, k * 2 + 1, none⟩ b v2 hb
  have hsz : (w2.setCell ⟨g, k * 2 + 1, none⟩ v2).heap.size = w2.heap.size := by simp [World.setCell]
  have hlow := J.low
  have hnewge : ∀ i y b, l[i]? = some y → i < k → (ys.getD (i * 2 + 1) undef).ownBlock = some b → w1.heap.size ≤ b ∧ b < wr.heap.size := fun i y b hy hi hb => (J.new i y hy hi).lt hb
  refine ⟨s1, fun u hu => ?_, fun i y hy => ?_, fun i y hy hi => ?_, fun i y hy hi => ?_, fun i i' b hi hi' hne hb => ?_, ?_, ?_, ?_⟩
  · rcases List.mem_or_eq_of_mem_set hu with q | q
    · exact J.one u q
    · rw [q]; obtain ⟨A, n, c', rfl, _⟩ := hR2.form; rfl
  · rw [getD_set_ne _ (by omega)]; exact J.pos i y hy
  · rw [getD_set_ne _ (by omega)]
    refine (J.old i y hy (by omega)).mono fun b hb _ => ⟨hb, ?_⟩
    obtain ⟨q1, q2⟩ := hokp b hb
    rw [hother b (fun e => q1 e.symm)]
    exact hb2.block b (by omega)
  · by_cases q : i = k
    · subst q
      have : x = y := by rw [hx] at hy; injection hy
      subst this
      rw [getD_set_eq _ (by omega)]
      refine (hR2.keep (fun b hb => ?_) (fun b hb => hb.elim)).base hlow
      have := (hR2.lt hb).1
      exact hother b (by omega)
    · rw [getD_set_ne _ (by omega)]
      refine (J.new i y hy (by omega)).keep (fun b hb => ?_) (fun b hb => hb.elim)
      have := hnewge i y b hy (by omega) hb
      rw [hother b (by omega)]
      exact hb2.block b (by omega)
  · have hge : ∀ m, m < k → ∀ b, (ys.getD (m * 2 + 1) undef).ownBlock = some b → b < wr.heap.size := fun m hm b hb => by
      obtain ⟨y, hy⟩ : ∃ y, l[m]? = some y := ⟨_, List.getElem?_eq_getElem (by omega)⟩
      exact (hnewge m y b hy hm hb).2
    by_cases q : i = k
    · subst q
      rw [getD_set_eq _ (by omega)] at hb
      rw [getD_set_ne _ (by omega)]
      intro hb'
      have h1 := (hR2.lt hb).1
      have h2 := hge i' (by omega) b hb'
      omega
    · rw [getD_set_ne _ (by omega)] at hb
      by_cases q' : i' = k
      · subst q'
        rw [getD_set_eq _ (by omega)]
        intro hb'
        have h1 := (hR2.lt hb').1
        have h2 := hge i (by omega) b hb
        omega
      · rw [getD_set_ne _ (by omega)]
        exact J.apart i i' b (by omega) (by omega) hne hb
  · have : Below w.heap.size wr w2 := ⟨hb2.os, hb2.tape, hb2.output, hb2.size, fun b hb => hb2.block b (by have := J.bel.size; omega)⟩
    exact (J.bel.trans this).setCell hBg v2
  · rw [hsz]; exact Nat.le_trans hlow hb2.size
  · exact Nat.le_trans J.drw hd2
theorem CpJ.done {l : List Cg} {w w1 wr : World} {v : Value} {okp : Nat → Prop} {ys : List Value} (J : CpJ l w w1 v okp l.length wr ys) (hle : w.heap.size ≤ w1.heap.size) (hv : ∀ g, v.ownBlock = some g → g < w1.heap.size) :
    Below w.heap.size w wr ∧ cgs l = AV.sl 2 (l.map encG) ∧ 0 < 2 ∧ 1 < 2 ∧ (∀ y ∈ l.map encG, y.length = 2) ∧ wr.ownsRow w.heap.size 53 2 v (l.map encG).length ys ∧ (∀ u ∈ ys, u.oneCell' = true) ∧
      (∀ i j', i < (l.map encG).length → j' < 2 → j' ≠ 1 → RV wr noBlock (gt2 (l.map encG) i j') (ys.getD (i * 2 + j') undef)) ∧ InnerOwn wr w.heap.size 9 2 1 v (l.map encG) ys ∧ w.drawn ≤ wr.drawn := by
  have hget : ∀ i, i < (l.map encG).length → ∃ y, l[i]? = some y := fun i hi => ⟨_, List.getElem?_eq_getElem (by simpa using hi)⟩
  have hgt : ∀ i y j, l[i]? = some y → gt2 (l.map encG) i j = (encG y).getD j default := fun i y j hy => by
    unfold gt2; simp [List.getD_eq_getElem?_getD, hy]
  refine ⟨J.bel, rfl, by omega, by omega, fun y hy => ?_, by rw [List.length_map]; exact J.own, J.one, fun i j' hi hj hne => ?_, ⟨fun i hi => ?_, fun i g hi hg e => ?_, fun i i' g hi hi' hne hg => ?_⟩, J.drw⟩
  · obtain ⟨x, _, rfl⟩ := List.mem_map.1 hy; rfl
  · obtain rfl : j' = 0 := by omega
    obtain ⟨y, hy⟩ := hget i hi
    rw [hgt i y 0 hy, Nat.add_zero, J.pos i y hy]
    exact .lit _
  · obtain ⟨y, hy⟩ := hget i hi
    rw [hgt i y 1 hy]
    exact (J.new i y hy (by simpa using hi)).base hle
  · obtain ⟨y, hy⟩ := hget i hi
    have h1 := ((J.new i y hy (by simpa using hi)).lt hg).1
    have h2 := hv g e
    omega
  · exact J.apart i i' g (by simpa using hi) (by simpa using hi') hne hg
theorem copied_fn (l : List Cg) (hl : Small l) : FnN Try.prog 34 [cgs l] 53 2 1 9 (cgs l) := by
  refine ⟨Try.call34, fun w ok cargs hok hgl hsz hargs => calls_of_wp Try.func34 rfl ?_⟩
  obtain ⟨c0, rfl⟩ : ∃ c0, cargs = #[c0] := by
    obtain ⟨c⟩ := cargs
    match c, hsz with
    | [a], _ => exact ⟨a, rfl⟩
  have h0 : RV w ok (cgs l) c0 := hargs 0 (by simp)
  simp only [Try.ntmps34, List.size_toArray, List.length_cons, List.length_nil, Nat.reduceAdd, Nat.reduceSub, Array.replicate_succ, Array.replicate_zero, List.push_toArray, List.append_toArray, List.nil_append, List.cons_append]
  go_wp2_with fail
  refine ((clg_fn l hl.1).2 w ok #[c0] hok hgl rfl (fun i hi => by
    have : i = 0 := by simpa using hi
    subst this
    exact h0)).mono ?_
  rintro e w1 ⟨v, rfl, hb1, hR, _, hd1⟩
  obtain ⟨L, xs, eL, hs, hL, ho, hone, hv⟩ := hR
  obtain rfl : L = l.map encG := by injection eL with _ e; exact e.symm
  have hlen : (l.map encG).length = l.length := by simp
  rw [hlen] at ho
  have hcell0 : ∀ i g j, l[i]? = some g → j < 2 → RV w1 (okNew ok w.heap.size v (.row 53 2 false)) ((encG g).getD j default) (xs.getD (i * 2 + j) undef) := fun i g j hg hj => by
    have hi : i < l.length := (List.getElem?_eq_some_iff.1 hg).1
    have := hv i j (by simpa using hi) hj
    have e1 : gt2 (l.map encG) i j = (encG g).getD j default := by unfold gt2; simp [List.getD_eq_getElem?_getD, hg]
    rw [e1] at this
    exact this
  obtain ⟨okp, hokp⟩ : ∃ okp : Nat → Prop, okp = fun g => okNew ok w.heap.size v (.row 53 2 false) g ∧ g < w1.heap.size := ⟨_, rfl⟩
  have hokv : ∀ g, okp g → v.ownBlock ≠ some g ∧ g < w1.heap.size := fun g hg => by
    subst hokp
    refine ⟨fun e => ?_, hg.2⟩
    rcases hg.1 with q | ⟨q1, q2⟩
    · have := hok g q
      have := (World.ownsRow.lt ho g e).1
      omega
    · exact q2 ⟨0, 0, rfl, e⟩
  have J0 : CpJ l w w1 v okp 0 w1 xs := {
    own := ho
    one := hone
    pos := fun i g hg => RV.lit_iff.1 (hcell0 i g 0 hg (by omega))
    old := fun i g hg _ => (hcell0 i g 1 hg (by omega)).mono fun b hb hlt => ⟨by rw [hokp]; exact ⟨hb, hlt⟩, rfl⟩
    new := fun i g hg h => absurd h (by omega)
    apart := fun i i' g h => absurd h (by omega)
    bel := hb1
    low := Nat.le_refl _
    drw := hd1 }
  obtain ⟨A, c, hvf⟩ : ∃ A c, v = .slice A l.length c := by
    rcases ho.2 with ⟨e, h⟩ | ⟨g, cap, cur, e, _⟩
    · exact ⟨none, 0, by rw [e, h]⟩
    · exact ⟨_, _, e⟩
  have hl1 := hl.1
  have HL := Lib.hid hl
  have HO := Lib.hid hokv
  clear hargs h0 hcell0 hv hone ho hL hs eL hokv hl
  subst hvf
  go_wp2
  go_loopg [9] l.length (fun g i wr => ∃ k : Nat, g = l.length - k ∧ k ≤ l.length ∧ i = .int .i64 k ∧ ∃ xs', CpJ l w w1 (.slice A l.length c) okp k wr xs')
  case atStart => exact ⟨0, rfl, by omega, rfl, xs, J0⟩
  case round =>
    obtain ⟨k, rfl, hk, rfl, ys, J⟩ := hrel
    by_cases hlt : k < l.length
    · have hlt' : (k : Int) < l.length := by omega
      obtain ⟨x, hx⟩ : ∃ x, l[k]? = some x := ⟨_, List.getElem?_eq_getElem hlt⟩
      obtain ⟨g, cap, cur, e, hBg, hg, hnc, hcm, hsz2, htk⟩ : ∃ g cap cur, Value.slice A l.length c = .slice (some ⟨g, 0, none⟩) l.length cap ∧ w.heap.size ≤ g ∧ wr.heap[g]? = some (.cells cur 53 (0, 0)) ∧ l.length ≤ cap ∧ cap ≤ maxLen ∧ cur.size = cap * 2 ∧ cur.toList.take (l.length * 2) = ys := by
        rcases J.own.2 with ⟨_, h⟩ | h
        · omega
        · exact h
      injection e with e1 _ e2
      subst e1 e2
      have hcc : ∀ j, j < 2 → wr.cell? ⟨g, k * 2 + j, none⟩ = some (ys.getD (k * 2 + j) undef) := fun j hj => by
        rw [cell_of_row wr g _ cur 53 (0, 0) hg]
        have h1 : k * 2 + j < l.length * 2 := by omega
        have h2 : k * 2 + j < cur.size := by omega
        rw [← htk, List.getD_eq_getElem?_getD, List.getElem?_take, if_pos h1, Array.getElem?_toList, Array.getElem?_eq_getElem h2]
        rfl
      have hc1 := hcc 1 (by omega)
      have hokw : ∀ b, okp b → b < wr.heap.size := fun b hb => Nat.lt_of_lt_of_le (HO.out b hb).2 J.low
      have hu := J.old k x hx (Nat.le_refl _)
      have hgw : g < w1.heap.size := (World.ownsRow.lt J0.own g rfl).2
      have hokg : ∀ b, okp b → g ≠ b ∧ b < w1.heap.size := fun b hb => ⟨fun e => (HO.out b hb).1 (by rw [e]; rfl), (HO.out b hb).2⟩
      have HK := Lib.hid hokg
      have HU := Lib.hid hu
      have HW := Lib.hid hokw
      clear hokg hu hokw
      go_wp2_with fail
      refine ((cls_fn x.s (HL.out.at hx)).2 wr okp #[ys[k * 2 + 1]?.getD undef] HW.out ⟨fun p hp => (by cases hp), fun g hg => (by cases hg)⟩ rfl (fun i hi => by
        have : i = 0 := by simpa using hi
        subst this
        exact HU.out)).mono ?_
      rintro e w2 ⟨v2, rfl, hb2, hR2, _, hd2⟩
      have hR2' : RRow w2 wr.heap.size 9 1 noBlock (bs x.s) v2 := hR2
      obtain ⟨A2, n2, c2, e2⟩ : ∃ A2 n2 c2, v2 = .slice A2 n2 c2 := by obtain ⟨A2, n2, c2, e2, _⟩ := hR2'.form; exact ⟨A2, n2, c2, e2⟩
      have J2 := J.step HK.out hgw hx hb2 hR2' hd2
      subst e2
      have hg2 : w2.heap[g]? = some (.cells cur 53 (0, 0)) := (hb2.block g (Nat.lt_of_lt_of_le hgw J.low)).trans hg
      have hks : k * 2 + 1 < cur.size := by omega
      have hc2 : w2.cell? ⟨g, k * 2 + 1, none⟩ = some cur[k * 2 + 1] := by
        rw [cell_of_row w2 g _ cur 53 (0, 0) hg2, Array.getElem?_eq_getElem hks]
      have hf2 : w2.frozen? ⟨g, k * 2 + 1, none⟩ = false := frozen_of_row w2 g _ cur 53 hg2
      have HJ := Lib.hid J2
      clear J2 hR2 hR2' hb2
      go_wp2
      go_roundg (l.length - (k + 1))
      case measure => omega
      case rel => exact ⟨k + 1, rfl, by omega, by go_num, _, HJ.out⟩
    · have hkk : k = l.length := by omega
      subst hkk
      have hfin := Lib.hid (J.done hb1.size fun g hg => (World.ownsRow.lt J0.own g hg).2)
      go_wp2
      go_ret
      exact ⟨_, _, _, rfl, hfin.out⟩
end Go.Proofs.Ytpidhccaoponfaa
/- Positions of controllers: one position for two. -/
namespace Go.Proofs.Ytpidhccaoponfaa
open Go.RowKit Go.Shelf
set_option linter.unusedVariables false
set_option linter.unusedSimpArgs false
set_option maxRecDepth 100000
def idxP (l : List Cg) (s : ByteArray) : Int := idxN (fun g : Cg => decide (g.p = s)) 0 l
theorem idxP_spec (l : List Cg) (s : ByteArray) : (idxP l s = -1 ∧ ∀ g ∈ l, g.p ≠ s) ∨ ∃ (i : Nat) (g : Cg), idxP l s = (i : Nat) ∧ l[i]? = some g ∧ g.p = s := by
  rcases idxN_spec (fun g : Cg => decide (g.p = s)) l 0 with ⟨h1, h2⟩ | ⟨i, g, h1, h2, h3⟩
  · exact .inl ⟨h1, fun g hg => by simpa using h2 g hg⟩
  · exact .inr ⟨i, g, by rw [idxP, h1]; simp, h2, by simpa using h3⟩
/-- The positions that come of it. -/
def comG (l : List Cg) (i k : Nat) : Cg := ⟨(l[i]?.map Cg.p).getD ⟨#[]⟩, srtS ((l[i]?.map Cg.s).getD [] ++ (l[k]?.map Cg.s).getD [])⟩
def comL (l : List Cg) (i k : Nat) : List Cg := (l.set i (comG l i k)).eraseIdx k
def comV (l : List Cg) (to frm : ByteArray) : AV :=
  if conE l ≠ 0 then .tup [.sl 2 [], .int (conE l)] else if idxP l to < 0 ∨ idxP l frm < 0 then .tup [.sl 2 [], .int 8] else if idxP l to = idxP l frm then .tup [.sl 2 [], .int 1] else .tup [cgs (comL l (idxP l to).toNat (idxP l frm).toNat), .int 0]
theorem combine_fn (l : List Cg) (to frm : ByteArray) : Fn Try.prog 17 [cgs l, .string to, .string frm] (.tup [.row 53 2 false, .sc]) (comV l to frm) := by
  have e := ConF.combine_form (cgs l) (.string to) (.string frm) (comV l to frm)
  have k := fun h => fn_run mixed 3 (Γ := ConF.Γ) (ann := ConF.ann) Try.func17 rfl Try.call17 (e.mpr h)
  refine k ?_
  clear k e
  refine ⟨_, check_fn l, ?_⟩
  by_cases hE : conE l = 0
  · have g := conE_ok hE
    have hl := g.len
    simp [hE]
    refine ⟨_, index_fn l to (by omega), _, index_fn l frm (by omega), ?_⟩
    show _
    rw [show idxN (fun g : Cg => decide (g.p = to)) 0 l = idxP l to from rfl, show idxN (fun g : Cg => decide (g.p = frm)) 0 l = idxP l frm from rfl]
    by_cases h1 : idxP l to < 0
    · simp [h1, comV, hE]
    · by_cases h2 : idxP l frm < 0
      · simp [h1, h2, comV, hE]
      · by_cases h3 : idxP l to = idxP l frm
        · simp [h1, h2, h3, comV, hE]
        · have hV : comV l to frm = .tup [cgs (comL l (idxP l to).toNat (idxP l frm).toNat), .int 0] := by simp [comV, hE, h1, h2, h3]
          obtain ⟨i, gi, hi, hgi, hpi⟩ := (idxP_spec l to).resolve_left (by omega)
          obtain ⟨j, gj, hj, hgj, hpj⟩ := (idxP_spec l frm).resolve_left (by omega)
          rw [hV, hi, hj]
          have hij : i ≠ j := fun e => h3 (by rw [hi, hj, e])
          have hil : i < l.length := (List.getElem?_eq_some_iff.1 hgi).1
          have hjl : j < l.length := (List.getElem?_eq_some_iff.1 hgj).1
          have hi' : (i : Int) < l.length := by omega
          have hj' : (j : Int) < l.length := by omega
          have n1 : ¬ (i : Int) < 0 := by omega
          have n2 : ¬ (j : Int) < 0 := by omega
          have n3 : ¬ (i : Int) = j := by omega
          simp [n1, n2, n3]
          refine ⟨_, copied_fn l g.small, ?_⟩
          simp [cgs, hi', hj', sameNum, otherNum, lst_at hgi, lst_at hgj, encG]
          have hsi := len_allS (List.mem_of_getElem? hgi)
          have hsj := len_allS (List.mem_of_getElem? hgj)
          have hto := g.tot
          have hwj := hw64 (n := j) (by omega)
          have hset : (lst 2 encG l).setEl (AV.int ↑i) 1 [bs (srtS (gi.s ++ gj.s))] = lst 2 encG (l.set i ⟨gi.p, srtS (gi.s ++ gj.s)⟩) := lst_setEl hgi (by simp [encG])
          refine ⟨by omega, ?_, bs (srtS (gi.s ++ gj.s)), ?_, ?_⟩
          · simp [bs, AV.room]; omega
          · rw [bs_app]; exact sortS_fn _ (by simp; omega)
          · rw [hset, hwj]
            have := delCg ((l.set i ⟨gi.p, srtS (gi.s ++ gj.s)⟩).map encG) j (j + 1) (by omega) (by simp; omega)
            have e2 : lst 2 encG (comL l i j) = .sl 2 (((l.set i ⟨gi.p, srtS (gi.s ++ gj.s)⟩).map encG).take j ++ ((l.set i ⟨gi.p, srtS (gi.s ++ gj.s)⟩).map encG).drop (j + 1)) := by
              have e3 : comG l i j = ⟨gi.p, srtS (gi.s ++ gj.s)⟩ := by simp [comG, hgi, hgj]
              unfold comL lst
              rw [e3, List.eraseIdx_eq_take_drop_succ, List.map_append, List.map_take, List.map_drop]
            rw [e2]
            exact this
  · simp [hE, comV]
end Go.Proofs.Ytpidhccaoponfaa
/- Positions of controllers: a new position for some sectors. -/
namespace Go.Proofs.Ytpidhccaoponfaa
open Go.RowKit Go.Shelf
set_option linter.unusedVariables false
set_option linter.unusedSimpArgs false
set_option maxRecDepth 100000
theorem take_snoc {α : Type} {l : List α} {n : Nat} {x : α} (h : l[n]? = some x) : l.take (n + 1) = l.take n ++ [x] := by
  rw [List.take_add_one, h]; rfl
theorem take_set_snoc {α : Type} {l : List α} {i : Nat} (x : α) (h : i < l.length) : (l.set i x).take (i + 1) = l.take i ++ [x] := by
  rw [take_snoc (x := x) (by simp [h])]
  congr 1
  rw [List.take_set, List.set_eq_of_length_le (by simp; omega)]
def mvS (names s : List ByteArray) : List ByteArray := s.filter fun x => decide (x ∈ names)
def kpS (names s : List ByteArray) : List ByteArray := s.filter fun x => decide (x ∉ names)
def splL (l : List Cg) (i : Nat) (g : Cg) (to : ByteArray) (names : List ByteArray) : List Cg := srtG (l.set i ⟨g.p, kpS names g.s⟩ ++ [⟨to, mvS names g.s⟩])
def splE (l : List Cg) (frm to : ByteArray) (names : List ByteArray) : Int :=
  if conE l ≠ 0 then conE l else if idxP l frm < 0 then 8 else if isName to = false then 3 else if 0 ≤ idxP l to then 7 else
  match l[(idxP l frm).toNat]? with
  | none => 0
  | some g => if ∃ s ∈ names, s ∉ g.s then 6 else if mvS names g.s = [] ∨ (mvS names g.s).length = g.s.length then 11 else 0
def splV (l : List Cg) (frm to : ByteArray) (names : List ByteArray) : AV :=
  if splE l frm to names ≠ 0 then .tup [.sl 2 [], .int (splE l frm to names)] else
  match l[(idxP l frm).toNat]? with
  | none => .tup [.sl 2 [], .int 0]
  | some g => .tup [cgs (splL l (idxP l frm).toNat g to names), .int 0]
theorem splV_bad {l : List Cg} {frm to : ByteArray} {names : List ByteArray} {e : Int} (h : splE l frm to names = e) (he : e ≠ 0) : splV l frm to names = .tup [.sl 2 [], .int e] := by
  unfold splV
  rw [if_pos (by rw [h]; exact he), h]
theorem bs_setEl {l : List ByteArray} {i : Nat} (x : ByteArray) (h : i < l.length) : AV.setEl (bs l) (.lit (.int .i64 (i : Nat))) 0 [.lit (.string x)] = bs (l.set i x) := by
  obtain ⟨w, hw⟩ : ∃ w, l[i]? = some w := ⟨_, List.getElem?_eq_getElem h⟩
  exact lst_setEl (x := w) (x' := x) hw (by simp [encB1])
theorem bs_clr (l : List ByteArray) (i : Nat) (h : i ≤ l.length) : AV.sub 1 (AV.clr 1 (bs l) (.lit (.int .i64 (i : Nat))) [.lit (.string ⟨#[]⟩)]) (.int 0) (.lit (.int .i64 (i : Nat))) = bs (l.take i) := by
  simp [bs, lst, AV.clr, List.map_take]
  rw [List.take_append_of_le_length (by simp; omega), List.take_take, Nat.min_self]
theorem bs_clr_ok (l : List ByteArray) (i : Nat) (h : i ≤ l.length) : AV.subOk (AV.clr 1 (bs l) (.lit (.int .i64 (i : Nat))) [.lit (.string ⟨#[]⟩)]) (.int 0) (.lit (.int .i64 (i : Nat))) ↔ True := by
  simp [bs, lst, AV.clr]
  omega
theorem inj_p : ∀ {L : List Cg}, (L.map Cg.p).Nodup → ∀ a ∈ L, ∀ b ∈ L, a.p = b.p → a = b
  | [], _, a, ha, _, _, _ => by simp at ha
  | z :: L, h, a, ha, b, hb, e => by
    rw [List.map_cons, List.nodup_cons] at h
    rcases List.mem_cons.1 ha with ea | ha <;> rcases List.mem_cons.1 hb with eb | hb
    · rw [ea, eb]
    · exact absurd (List.mem_map.2 ⟨b, hb, by rw [← e, ea]⟩) h.1
    · exact absurd (List.mem_map.2 ⟨a, ha, by rw [e, eb]⟩) h.1
    · exact inj_p h.2 a ha b hb e
theorem map_set_p {l : List Cg} {i : Nat} {x y : Cg} (hx : l[i]? = some x) (h : y.p = x.p) : (l.set i y).map Cg.p = l.map Cg.p := by
  rw [List.map_set, h]
  apply List.ext_getElem?
  intro j
  by_cases hj : j = i
  · subst hj
    have hl : j < l.length := (List.getElem?_eq_some_iff.1 hx).1
    rw [List.getElem?_set_self (by simpa using hl), List.getElem?_map, hx]; rfl
  · rw [List.getElem?_set_ne (fun e => hj e.symm)]
theorem pairwise_pos {l : List Cg} (h : l.Pairwise fun a b => key a.p < key b.p) : (l.map Cg.p).Nodup := by
  unfold List.Nodup
  rw [List.pairwise_map]
  exact h.imp fun h e => by rw [e] at h; exact List.lt_irrefl _ h
theorem split_fn (l : List Cg) (frm to : ByteArray) (names : List ByteArray) (hnm : names.length ≤ 9223372036854775807) : Fn Try.prog 22 [cgs l, .string frm, .string to, bs names] (.tup [.row 53 2 false, .sc]) (splV l frm to names) := by
  have e := ConG.split_form (cgs l) (.string frm) (.string to) (bs names) (splV l frm to names)
  have k := fun h => fn_run mixed 3 (Γ := ConG.Γ) (ann := ConG.ann) Try.func22 rfl Try.call22 (e.mpr h)
  refine k ?_
  clear k e
  refine ⟨by simp, _, check_fn l, ?_⟩
  by_cases hE : conE l = 0
  rotate_left
  · have h1 : splE l frm to names = conE l := by unfold splE; rw [if_pos hE]
    simp [hE, splV_bad h1 hE]
  have g := conE_ok hE
  have hl := g.len
  simp [hE]
  refine ⟨_, index_fn l frm (by omega), ?_⟩
  rw [show idxN (fun g : Cg => decide (g.p = frm)) 0 l = idxP l frm from rfl]
  by_cases h1 : idxP l frm < 0
  · have h8 : splE l frm to names = 8 := by unfold splE; rw [if_neg (by rw [hE]; simp), if_pos h1]
    simp [h1, splV_bad h8 (by omega)]
  simp [h1]
  refine ⟨_, name_fn to, ?_⟩
  by_cases h2 : isName to = true
  rotate_left
  · have h3 : splE l frm to names = 3 := by unfold splE; rw [if_neg (by rw [hE]; simp), if_neg h1, if_pos (by simpa using h2)]
    simp [h2, splV_bad h3 (by omega)]
  simp [h2]
  refine ⟨_, index_fn l to (by omega), ?_⟩
  rw [show idxN (fun g : Cg => decide (g.p = to)) 0 l = idxP l to from rfl]
  by_cases h3 : 0 ≤ idxP l to
  · have h7 : splE l frm to names = 7 := by unfold splE; rw [if_neg (by rw [hE]; simp), if_neg h1, if_neg (by rw [h2]; simp), if_pos h3]
    have h3' : ¬ idxP l to < 0 := by omega
    simp [h3, h3', splV_bad h7 (by omega)]
  have h3' : idxP l to < 0 := by omega
  obtain ⟨i, x, hi, hx, hp⟩ := (idxP_spec l frm).resolve_left (by omega)
  have hnt : ∀ y ∈ l, y.p ≠ to := ((idxP_spec l to).resolve_right (fun ⟨j, _, q, _⟩ => by omega)).2
  have hil : i < l.length := (List.getElem?_eq_some_iff.1 hx).1
  have hil' : (i : Int) < l.length := by omega
  have hxs := len_allS (List.mem_of_getElem? hx)
  have hto := g.tot
  have hE1 : splE l frm to names = if ∃ s ∈ names, s ∉ x.s then 6 else if mvS names x.s = [] ∨ (mvS names x.s).length = x.s.length then 11 else 0 := by
    unfold splE
    rw [if_neg (by rw [hE]; simp), if_neg h1, if_neg (by rw [h2]; simp), if_neg h3, hi]
    simp [hx]
  have hV : splE l frm to names = 0 → splV l frm to names = .tup [cgs (splL l i x to names), .int 0] := fun q => by
    unfold splV
    rw [if_neg (by rw [q]; simp), hi]
    simp [hx]
  rw [hi]
  simp [h3', h3]
  refine loop_list (σ := Unit) names (fun n _ => [.int (n : Nat)]) (fun n rest _ => ((∃ s ∈ names, s ∉ x.s) ↔ ∃ s ∈ rest, s ∉ x.s)) () rfl Iff.rfl ?_ ?_
  · rintro n s rest _ K hs hr hn hG hK
    have hwi := hw64 (n := n) (by omega)
    have hn' : (n : Int) < names.length := by omega
    simp [hn', bs_at _ hs, cgs, hil', lst_at hx, encG, hwi]
    refine ⟨_, cont_fn x.s s (by omega), ?_⟩
    by_cases q : s ∈ x.s
    · simp [q]
      exact hK _ () (by simp) (by rw [hG]; simp [q])
    · have h6 : splE l frm to names = 6 := by rw [hE1, if_pos (hG.2 ⟨s, by simp, q⟩)]
      simp [q, splV_bad h6 (by omega)]
  · rintro _ K hG
    have hsub : ¬ ∃ s ∈ names, s ∉ x.s := fun q => by simpa using hG.1 q
    rw [if_neg hsub] at hE1
    simp
    refine ⟨_, copied_fn l g.small, ?_⟩
    simp [cgs, hil', lst_at hx, encG]
    refine loop_list (σ := List ByteArray) x.s (fun n o => [.int (n : Nat), bs o, .string to]) (fun n rest o => mvS names x.s = o ++ mvS names rest ∧ o.length ≤ n) [] rfl ⟨rfl, by simp⟩ ?_ ?_
    · rintro n s rest o K2 hs hr hn ⟨hg2, ho⟩ hK2
      have hwi := hw64 (n := n) (by omega)
      have hn' : (n : Int) < x.s.length := by omega
      simp [hn', bs_at _ hs, hwi]
      refine ⟨_, cont_fn names s hnm, ?_⟩
      simp
      refine ⟨fun q => ?_, fun q => hK2 _ o (by simp) ⟨by rw [hg2]; simp [mvS, q], by omega⟩⟩
      have := hK2 [.int ((n : Nat) + 1), bs (o ++ [s]), .string to] (o ++ [s]) (by simp) ⟨by rw [hg2]; simp [mvS, q], by simp; omega⟩
      rw [← bs_app1] at this
      exact ⟨by simp [bs, AV.room]; omega, by simpa using this⟩
    · rintro M K2 ⟨hM, hMl⟩
      have hM' : mvS names x.s = M := by simpa [mvS] using hM
      rw [hM'] at hE1
      simp
      have hroom : M.length ≤ x.s.length := by rw [← hM']; exact List.length_filter_le _ _
      by_cases q : M = []
      · have h11 : splE l frm to names = 11 := by rw [hE1, if_pos (.inl q)]
        simp [q, splV_bad h11 (by omega)]
      by_cases q2 : M.length = x.s.length
      · have h11 : splE l frm to names = 11 := by rw [hE1, if_pos (.inr q2)]
        simp [q, q2, splV_bad h11 (by omega)]
      have h0 : splE l frm to names = 0 := by rw [hE1, if_neg (fun h => h.elim q q2)]
      have hV0 := hV h0
      have q2' : ¬ (M.length : Int) = x.s.length := by omega
      have e1 : Ent Try.prog 37 := Try.call37
      have e2 : Ent Try.prog 50 := Try.call50
      have e3 : Ent Try.prog 38 := Try.call38
      have e4 : Ent Try.prog 32 := Try.call32
      simp [q, q2', e1, e2, e3, e4, sameNum]
      obtain ⟨m, hm⟩ : ∃ m, m ∈ M := List.exists_mem_of_ne_nil _ q
      have hmn : m ∈ x.s ∧ m ∈ names := by rw [← hM'] at hm; simpa [mvS] using hm
      refine loop_list (σ := Unit) x.s (fun n _ => [.int (n : Nat)]) (fun n rest _ => ∀ s ∈ x.s.take n, s ∉ names) () (by simp) (by simp) ?_ ?_
      · rintro n s rest _ K3 hs hr hn hGn hK3
        have hwi := hw64 (n := n) (by omega)
        have hn' : (n : Int) < x.s.length := by omega
        have hn1 : ¬ (n : Int) = -1 := by omega
        simp [hn', bs_at _ hs, hwi, hn1]
        refine ⟨_, cont_fn names s hnm, ?_⟩
        simp
        refine ⟨fun hsn => ?_, fun hsn => hK3 _ () (by simp) fun t ht => ?_⟩
        · have htk : kpS names (x.s.take n) = x.s.take n := List.filter_eq_self.2 fun t ht => by simpa using hGn t ht
          refine loop_from (σ := Nat × List ByteArray) x.s (n + 1) (by omega) (fun j s => [.int (s.1 : Nat), .int (j : Nat), bs s.2]) (fun j rest s => s.2.length = x.s.length ∧ s.2.take s.1 = kpS names (x.s.take j) ∧ s.1 < j ∧ s.2.drop j = x.s.drop j) (n, x.s) (by simp) ⟨rfl, by rw [take_snoc hs]; simp only [kpS, List.filter_append]; rw [show (x.s.take n).filter (fun x => decide (x ∉ names)) = x.s.take n from htk]; simp [hsn], by simp, rfl⟩ ?_ ?_
          · rintro j y rest2 ⟨i2, L⟩ K4 hnj hy hr2 hj ⟨h1', h2', h3', h4'⟩ hK4
            simp only at h1' h2' h3' h4'
            have hw3 := hw64 (n := j) (by omega)
            have hw4 := hw64 (n := i2) (by omega)
            have hLy : L[j]? = some y := by
              have := congrArg (fun q => q[0]?) h4'
              simpa [hy] using this
            have hL4 : ∀ q : ByteArray, (L.set i2 q).drop (j + 1) = x.s.drop (j + 1) := fun q => by
              rw [List.drop_set_of_lt (by omega), ← List.drop_drop, h4', List.drop_drop]
            have hset := bs_setEl (l := L) (i := i2) y (by omega)
            have gY : y ∉ names → K4 [.int ((i2 : Nat) + 1), .int ((j : Nat) + 1), bs (L.set i2 y)] := fun q => hK4 _ (i2 + 1, L.set i2 y) (by simp) ⟨by simp [h1'], by
              rw [take_set_snoc y (by omega), h2', take_snoc hy]; simp [kpS, q], by show i2 + 1 < j + 1; omega, hL4 y⟩
            have gN : y ∈ names → K4 [.int (i2 : Nat), .int ((j : Nat) + 1), bs L] := fun q => hK4 _ (i2, L) (by simp) ⟨h1', by
              rw [h2', take_snoc hy]; simp [kpS, q], by show i2 < j + 1; omega, by
              show L.drop (j + 1) = _
              rw [← List.drop_drop, h4', List.drop_drop]⟩
            clear hK4
            have hj' : (j : Int) < x.s.length := by omega
            have hi2 : (i2 : Int) < x.s.length := by omega
            simp [h1', hj, bs_at _ hLy, hw3, hw4, hset, hj', hi2]
            refine ⟨_, cont_fn names y hnm, ?_⟩
            simp
            exact ⟨fun q => by first | exact gY q | exact ⟨by omega, gY q⟩, gN⟩
          · rintro ⟨i2, L⟩ K4 ⟨h1', h2', h3', _⟩
            simp only at h1' h2' h3'
            rw [List.take_length] at h2'
            have hln : i2 ≤ L.length := by omega
            have hset : (lst 2 encG l).setEl (AV.int ↑i) 1 [bs (L.take i2)] = lst 2 encG (l.set i ⟨x.p, kpS names x.s⟩) := by rw [h2']; exact lst_setEl hx (by simp [encG])
            have hp2 : ∀ a ∈ l.set i ⟨x.p, kpS names x.s⟩ ++ [⟨to, M⟩], ∀ b ∈ l.set i ⟨x.p, kpS names x.s⟩ ++ [⟨to, M⟩], a.p = b.p → a = b := inj_p (by
              rw [List.map_append, map_set_p (y := ⟨x.p, kpS names x.s⟩) hx rfl, List.nodup_append]
              refine ⟨pairwise_pos g.so, by simp, fun a ha b hb => ?_⟩
              obtain ⟨y, hy, rfl⟩ := List.mem_map.1 ha
              simp at hb
              rw [hb]; exact hnt y hy)
            have hso := sortG_fn (l.set i ⟨x.p, kpS names x.s⟩ ++ [⟨to, M⟩]) (by simp; omega) hp2
            simp [h1', bs_clr L i2 hln, bs_clr_ok L i2 hln, hset]
            refine ⟨by simp [bs]; omega, by simp [AV.room]; omega, cgs (srtG (l.set i ⟨x.p, kpS names x.s⟩ ++ [⟨to, M⟩])), ?_, ?_⟩
            · have e5 : AV.app 2 (lst 2 encG (l.set i ⟨x.p, kpS names x.s⟩)) (AV.sl 2 [[AV.string to, bs M]]) = cgs (l.set i ⟨x.p, kpS names x.s⟩ ++ [⟨to, M⟩]) := by simp [cgs, lst, encG]
              rw [e5]; exact hso
            · rw [hV0]
              unfold splL
              rw [hM']
        · rw [take_snoc hs] at ht
          rcases List.mem_append.1 ht with ht | ht
          · exact hGn t ht
          · simp at ht; rw [ht]; exact hsn
      · rintro _ K3 hGn
        rw [List.take_length] at hGn
        exact absurd hmn.2 (hGn m hmn.1)
end Go.Proofs.Ytpidhccaoponfaa
/- Positions of controllers: what the reference makes of all sectors (plain). -/
namespace Go.Proofs.Ytpidhccaoponfaa
set_option linter.unusedVariables false
set_option linter.unusedSimpArgs false
def addN (of : ByteArray → ByteArray) (o : List ByteArray) (s : ByteArray) : List ByteArray := if of s ∈ o then o else o ++ [of s]
def namesOf (of : ByteArray → ByteArray) (A : List ByteArray) : List ByteArray := A.foldl (addN of) []
def selS (of : ByteArray → ByteArray) (p : ByteArray) (l : List ByteArray) : List ByteArray := l.filter fun s => decide (of s = p)
def grpL (of : ByteArray → ByteArray) (A : List ByteArray) : List Cg := (srtS (namesOf of A)).map fun p => ⟨p, selS of p (srtS A)⟩
theorem addN_fold (of : ByteArray → ByteArray) : ∀ (A o : List ByteArray), o.Nodup → (A.foldl (addN of) o).Nodup ∧ (∀ p, p ∈ A.foldl (addN of) o ↔ p ∈ o ∨ ∃ s ∈ A, of s = p) ∧ (A.foldl (addN of) o).length ≤ o.length + A.length
  | [], o, h => ⟨h, by simp, by simp⟩
  | s :: A, o, h => by
    have hn : (addN of o s).Nodup := by
      unfold addN
      split
      · exact h
      · rename_i hs
        rw [List.nodup_append]
        exact ⟨h, by simp, fun a ha b hb => by simp at hb; subst hb; exact fun e => hs (e ▸ ha)⟩
    have hl : (addN of o s).length ≤ o.length + 1 := by unfold addN; split <;> simp
    obtain ⟨h1, h2, h3⟩ := addN_fold of A (addN of o s) hn
    refine ⟨h1, fun p => ?_, by simp only [List.foldl_cons, List.length_cons]; omega⟩
    rw [List.foldl_cons, h2]
    have : p ∈ addN of o s ↔ p ∈ o ∨ of s = p := by
      unfold addN
      split
      · rename_i hs
        exact ⟨.inl, fun q => q.elim id fun q => q ▸ hs⟩
      · simp [eq_comm]
    rw [this]
    simp only [List.mem_cons, exists_eq_or_imp]
    exact or_assoc
theorem namesOf_mem {of : ByteArray → ByteArray} {A : List ByteArray} {p : ByteArray} : p ∈ namesOf of A ↔ ∃ s ∈ A, of s = p := by
  have := (addN_fold of A [] List.nodup_nil).2.1 p
  simpa [namesOf] using this
theorem namesOf_nodup (of : ByteArray → ByteArray) (A : List ByteArray) : (namesOf of A).Nodup := (addN_fold of A [] List.nodup_nil).1
theorem namesOf_len (of : ByteArray → ByteArray) (A : List ByteArray) : (namesOf of A).length ≤ A.length := by
  simpa [namesOf] using (addN_fold of A [] List.nodup_nil).2.2
/-- Two lists of the same strings, none twice, both in their order, are one. -/
theorem sorted_same {l m : List ByteArray} (hl : l.Nodup) (hm : m.Nodup) (sl : l.Pairwise leK) (sm : m.Pairwise leK) (h : ∀ x, x ∈ l ↔ x ∈ m) : l = m :=
  sorted_one sl sm ((List.perm_ext_iff_of_nodup hl hm).2 h)
theorem srtS_nodup {l : List ByteArray} (h : l.Nodup) : (srtS l).Nodup := (srtS_perm l).nodup_iff.2 h
/-- **What the reference groups**: these positions. -/
theorem grp_eq {of : ByteArray → ByteArray} {A : List ByteArray} {L : List Cg} (hA : A.Nodup) (hp : L.Pairwise fun a b => key a.p < key b.p) (hs : ∀ g ∈ L, g.s ≠ [] ∧ g.s.Nodup ∧ g.s.Pairwise leK) (hm : ∀ g ∈ L, ∀ s, s ∈ g.s ↔ s ∈ A ∧ of s = g.p)
    (hc : ∀ s ∈ A, ∃ g ∈ L, of s = g.p) : grpL of A = L := by
  have e1 : srtS (namesOf of A) = L.map Cg.p := by
    refine sorted_same (srtS_nodup (namesOf_nodup of A)) (pairwise_pos hp) (srtS_sorted _) ?_ fun p => ?_
    · rw [List.pairwise_map]
      exact hp.imp fun h => List.le_of_lt h
    · rw [mem_srtS, namesOf_mem, List.mem_map]
      constructor
      · rintro ⟨s, hsA, e⟩
        obtain ⟨g, hg, e2⟩ := hc s hsA
        exact ⟨g, hg, e2.symm.trans e⟩
      · rintro ⟨g, hg, e⟩
        obtain ⟨s, hsg⟩ := List.exists_mem_of_ne_nil _ (hs g hg).1
        obtain ⟨q1, q2⟩ := (hm g hg s).1 hsg
        exact ⟨s, q1, q2.trans e⟩
  unfold grpL
  rw [e1, List.map_map]
  have : ∀ g ∈ L, ((fun p => (⟨p, selS of p (srtS A)⟩ : Cg)) ∘ Cg.p) g = id g := fun g hg => by
    obtain ⟨q1, q2, q3⟩ := hs g hg
    have e2 : selS of g.p (srtS A) = g.s := by
      refine sorted_same ((srtS_nodup hA).filter _) q2 ((srtS_sorted A).filter _) q3 fun s => ?_
      unfold selS
      rw [List.mem_filter, mem_srtS, hm g hg s]
      simp
    show (⟨g.p, selS of g.p (srtS A)⟩ : Cg) = g
    rw [e2]
  rw [List.map_congr_left this, List.map_id]
/-! ### whose sector it is -/
theorem allS_cons (g : Cg) (l : List Cg) : allS (g :: l) = g.s ++ allS l := by simp [allS]
theorem gofG_mem : ∀ {l : List Cg} {g : Cg} {s : ByteArray}, (allS l).Nodup → g ∈ l → s ∈ g.s → gofG s l = g.p
  | y :: l, g, s, h, hg, hs => by
    rw [allS_cons, List.nodup_append] at h
    rw [gofG]
    rcases List.mem_cons.1 hg with rfl | hg
    · rw [if_pos hs]
    · have : s ∉ y.s := fun q => h.2.2 s q s (mem_allS.2 ⟨g, hg, hs⟩) rfl
      rw [if_neg this]
      exact gofG_mem h.2.1 hg hs
theorem gofG_none : ∀ {l : List Cg} {s : ByteArray}, s ∉ allS l → gofG s l = ⟨#[]⟩
  | [], s, _ => rfl
  | y :: l, s, h => by
    rw [allS_cons, List.mem_append] at h
    rw [gofG, if_neg (fun q => h (.inl q)), gofG_none fun q => h (.inr q)]
theorem Good.gof {l : List Cg} (g : Good l) {x : Cg} {s : ByteArray} (hx : x ∈ l) (hs : s ∈ x.s) : gofG s l = x.p := gofG_mem g.nd hx hs
theorem Good.pos {l : List Cg} (g : Good l) : (l.map Cg.p).Nodup := pairwise_pos g.so
theorem Good.snd {l : List Cg} (g : Good l) {x : Cg} (hx : x ∈ l) : x.s.Nodup := by
  have : ∀ {l : List Cg}, (allS l).Nodup → x ∈ l → x.s.Nodup := by
    intro l
    induction l with
    | nil => intro _ h; simp at h
    | cons y l ih =>
      intro h hx
      rw [allS_cons, List.nodup_append] at h
      rcases List.mem_cons.1 hx with rfl | hx
      · exact h.1
      · exact ih h.2.1 hx
  exact this g.nd hx
theorem strict_of {L : List Cg} (h : L.Pairwise fun a b => leK a.p b.p) (hn : (L.map Cg.p).Nodup) : L.Pairwise fun a b => key a.p < key b.p := by
  unfold List.Nodup at hn
  rw [List.pairwise_map] at hn
  refine (h.and hn).imp fun ⟨h1, h2⟩ => ?_
  exact List.not_le.1 fun q => h2 (key_inj (List.le_antisymm h1 q))
/-! ### the three laws -/
def idB (s : ByteArray) : ByteArray := s
theorem begin_law {l : List ByteArray} (h : begE l = 0) : srtG (l.map oneG) = grpL idB l := by
  obtain ⟨h1, h2, h3⟩ := begE_ok h
  have hmem : ∀ g, g ∈ srtG (l.map oneG) ↔ ∃ s ∈ l, g = oneG s := fun g => by
    rw [(srtG_perm _).mem_iff, List.mem_map]
    exact ⟨fun ⟨s, q, e⟩ => ⟨s, q, e.symm⟩, fun ⟨s, q, e⟩ => ⟨s, q, e.symm⟩⟩
  refine (grp_eq h2 (strict_of (srtG_sorted _) ?_) (fun g hg => ?_) (fun g hg s => ?_) (fun s hs => ?_)).symm
  · rw [((srtG_perm (l.map oneG)).map Cg.p).nodup_iff, List.map_map]
    have : (Cg.p ∘ oneG) = id := rfl
    rw [this, List.map_id]; exact h2
  · obtain ⟨s, _, rfl⟩ := (hmem g).1 hg
    simp [oneG]
  · obtain ⟨t, ht, rfl⟩ := (hmem g).1 hg
    simp only [oneG, List.mem_singleton, idB]
    exact ⟨fun e => ⟨e ▸ ht, e⟩, fun e => e.2⟩
  · exact ⟨oneG s, (hmem _).2 ⟨s, hs, rfl⟩, rfl⟩
def ofC (l : List Cg) (to frm : ByteArray) (s : ByteArray) : ByteArray := if gofG s l ≠ frm then gofG s l else to
theorem idx_uniq {l : List Cg} (hn : (l.map Cg.p).Nodup) {i j : Nat} {x y : Cg} (hx : l[i]? = some x) (hy : l[j]? = some y) (h : x.p = y.p) : i = j := by
  have h1 : (l.map Cg.p)[i]? = some x.p := by rw [List.getElem?_map, hx]; rfl
  have h2 : (l.map Cg.p)[j]? = some x.p := by rw [List.getElem?_map, hy, h]; rfl
  exact (List.getElem?_inj (List.getElem?_eq_some_iff.1 h1).1 hn).1 (h1.trans h2.symm)
theorem combine_law {l : List Cg} {to frm : ByteArray} (h : conE l = 0) {i j : Nat} {gi gj : Cg} (hgi : l[i]? = some gi) (hgj : l[j]? = some gj) (hpi : gi.p = to) (hpj : gj.p = frm) (hij : i ≠ j) : comL l i j = grpL (ofC l to frm) (allS l) := by
  have g := conE_ok h
  have hil : i < l.length := (List.getElem?_eq_some_iff.1 hgi).1
  have hjl : j < l.length := (List.getElem?_eq_some_iff.1 hgj).1
  have hmi := List.mem_of_getElem? hgi
  have hmj := List.mem_of_getElem? hgj
  have hG : comG l i j = ⟨to, srtS (gi.s ++ gj.s)⟩ := by simp [comG, hgi, hgj, hpi]
  have htf : to ≠ frm := fun e => hij (idx_uniq g.pos hgi hgj (by rw [hpi, hpj, e]))
  -- the groups
  have hmem : ∀ x, x ∈ comL l i j ↔ x = ⟨to, srtS (gi.s ++ gj.s)⟩ ∨ (x ∈ l ∧ x.p ≠ to ∧ x.p ≠ frm) := fun x => by
    unfold comL
    rw [hG, List.mem_eraseIdx_iff_getElem?]
    constructor
    · rintro ⟨k, hk, hx⟩
      by_cases hki : k = i
      · subst hki
        rw [List.getElem?_set_self hil] at hx
        injection hx with hx
        exact .inl hx.symm
      · rw [List.getElem?_set_ne (fun e => hki e.symm)] at hx
        refine .inr ⟨List.mem_of_getElem? hx, fun e => hki (idx_uniq g.pos hx hgi (by rw [e, hpi])), fun e => hk (idx_uniq g.pos hx hgj (by rw [e, hpj]))⟩
    · rintro (rfl | ⟨hx, h1, h2⟩)
      · exact ⟨i, hij, by rw [List.getElem?_set_self hil]⟩
      · obtain ⟨k, hk⟩ := List.mem_iff_getElem?.1 hx
        have hki : k ≠ i := fun e => by subst e; rw [hgi] at hk; injection hk with hk; exact h1 (by rw [← hk, hpi])
        have hkj : k ≠ j := fun e => by subst e; rw [hgj] at hk; injection hk with hk; exact h2 (by rw [← hk, hpj])
        exact ⟨k, hkj, by rw [List.getElem?_set_ne (fun e => hki e.symm)]; exact hk⟩
  have hof : ∀ x ∈ l, ∀ s ∈ x.s, ofC l to frm s = if x.p = frm then to else x.p := fun x hx s hs => by
    unfold ofC
    rw [g.gof hx hs]
    by_cases q : x.p = frm <;> simp [q]
  refine (grp_eq g.nd ?_ (fun x hx => ?_) (fun x hx s => ?_) (fun s hs => ?_)).symm
  · have e : (comL l i j).map Cg.p = (l.map Cg.p).eraseIdx j := by
      unfold comL
      rw [List.eraseIdx_eq_take_drop_succ, List.eraseIdx_eq_take_drop_succ, List.map_append, List.map_take, List.map_drop, hG, map_set_p (y := ⟨to, srtS (gi.s ++ gj.s)⟩) hgi hpi.symm]
    have hs : ((comL l i j).map Cg.p).Pairwise fun a b => key a < key b := by
      rw [e]
      refine List.Pairwise.sublist (List.eraseIdx_sublist _ _) ?_
      rw [List.pairwise_map]
      exact g.so
    rw [List.pairwise_map] at hs
    exact hs
  · rcases (hmem x).1 hx with rfl | ⟨q, _, _⟩
    · have hne := (g.pn gi hmi).2.1
      refine ⟨fun e => hne ?_, srtS_nodup ?_, srtS_sorted _⟩
      · have e' : srtS (gi.s ++ gj.s) = [] := e
        have : (gi.s ++ gj.s).length = 0 := by rw [← srtS_len, e']; rfl
        rw [List.length_append] at this
        exact List.length_eq_zero_iff.1 (by omega)
      · rw [List.nodup_append]
        refine ⟨g.snd hmi, g.snd hmj, fun a ha b hb e => ?_⟩
        subst e
        exact htf (by rw [← hpi, ← hpj, ← g.gof hmi ha, ← g.gof hmj hb])
    · exact ⟨(g.pn x q).2.1, g.snd q, (g.pn x q).2.2⟩
  · rcases (hmem x).1 hx with rfl | ⟨q, q1, q2⟩
    · simp only [mem_srtS, List.mem_append]
      constructor
      · rintro (hs | hs)
        · exact ⟨mem_allS.2 ⟨gi, hmi, hs⟩, by rw [hof gi hmi s hs, hpi, if_neg htf]⟩
        · exact ⟨mem_allS.2 ⟨gj, hmj, hs⟩, by rw [hof gj hmj s hs, hpj, if_pos rfl]⟩
      · rintro ⟨hs, e⟩
        obtain ⟨y, hy, hys⟩ := mem_allS.1 hs
        rw [hof y hy s hys] at e
        by_cases q : y.p = frm
        · obtain ⟨k, hk⟩ := List.mem_iff_getElem?.1 hy
          have : k = j := idx_uniq g.pos hk hgj (by rw [q, hpj])
          subst this
          rw [hgj] at hk
          injection hk with hk
          exact .inr (hk ▸ hys)
        · rw [if_neg q] at e
          obtain ⟨k, hk⟩ := List.mem_iff_getElem?.1 hy
          have : k = i := idx_uniq g.pos hk hgi (by rw [e, hpi])
          subst this
          rw [hgi] at hk
          injection hk with hk
          exact .inl (hk ▸ hys)
    · constructor
      · intro hs
        exact ⟨mem_allS.2 ⟨x, q, hs⟩, by rw [hof x q s hs, if_neg q2]⟩
      · rintro ⟨hs, e⟩
        obtain ⟨y, hy, hys⟩ := mem_allS.1 hs
        rw [hof y hy s hys] at e
        by_cases z : y.p = frm
        · rw [if_pos z] at e; exact absurd e.symm q1
        · rw [if_neg z] at e
          have : y = x := inj_p g.pos y hy x q e
          exact this ▸ hys
  · obtain ⟨y, hy, hys⟩ := mem_allS.1 hs
    rw [hof y hy s hys]
    by_cases z : y.p = frm
    · rw [if_pos z]; exact ⟨_, (hmem _).2 (.inl rfl), rfl⟩
    · rw [if_neg z]
      by_cases z2 : y.p = to
      · exact ⟨_, (hmem _).2 (.inl rfl), z2⟩
      · exact ⟨y, (hmem _).2 (.inr ⟨hy, z2, z⟩), rfl⟩
def ofP (l : List Cg) (to : ByteArray) (names : List ByteArray) (s : ByteArray) : ByteArray := if s ∈ names then to else gofG s l
theorem split_law {l : List Cg} {to : ByteArray} {names : List ByteArray} (h : conE l = 0) {i : Nat} {x : Cg} (hx : l[i]? = some x) (hto : ∀ y ∈ l, y.p ≠ to) (hsub : ∀ s ∈ names, s ∈ x.s) (h1 : mvS names x.s ≠ []) (h2 : (mvS names x.s).length ≠ x.s.length) : splL l i x to names = grpL (ofP l to names) (allS l) := by
  have g := conE_ok h
  have hil : i < l.length := (List.getElem?_eq_some_iff.1 hx).1
  have hmx := List.mem_of_getElem? hx
  have hmem : ∀ y, y ∈ splL l i x to names ↔ y = ⟨to, mvS names x.s⟩ ∨ y = ⟨x.p, kpS names x.s⟩ ∨ (y ∈ l ∧ y.p ≠ x.p) := fun y => by
    unfold splL
    rw [(srtG_perm _).mem_iff, List.mem_append, List.mem_singleton]
    constructor
    · rintro (hy | rfl)
      · obtain ⟨k, hk⟩ := List.mem_iff_getElem?.1 hy
        by_cases hki : k = i
        · subst hki
          rw [List.getElem?_set_self hil] at hk
          injection hk with hk
          exact .inr (.inl hk.symm)
        · rw [List.getElem?_set_ne (fun e => hki e.symm)] at hk
          exact .inr (.inr ⟨List.mem_of_getElem? hk, fun e => hki (idx_uniq g.pos hk hx e)⟩)
      · exact .inl rfl
    · rintro (rfl | rfl | ⟨hy, hp⟩)
      · exact .inr rfl
      · exact .inl (List.mem_of_getElem? (List.getElem?_set_self hil))
      · obtain ⟨k, hk⟩ := List.mem_iff_getElem?.1 hy
        have hki : k ≠ i := fun e => by subst e; rw [hx] at hk; injection hk with hk; exact hp (by rw [hk])
        exact .inl (List.mem_of_getElem? (by rw [List.getElem?_set_ne (fun e => hki e.symm)]; exact hk))
  have hkp : ∀ s, s ∈ kpS names x.s ↔ s ∈ x.s ∧ s ∉ names := fun s => by simp [kpS]
  have hmv : ∀ s, s ∈ mvS names x.s ↔ s ∈ x.s ∧ s ∈ names := fun s => by simp [mvS]
  have hone : ∀ y ∈ l, ∀ s ∈ y.s, s ∈ names → y = x := fun y hy s hs hn => inj_p g.pos y hy x hmx (by rw [← g.gof hy hs, g.gof hmx (hsub s hn)])
  have hxy : ∀ y ∈ l, y.p = x.p → y = x := fun y hy e => inj_p g.pos y hy x hmx e
  refine (grp_eq g.nd (strict_of (srtG_sorted _) ?_) (fun y hy => ?_) (fun y hy s => ?_) (fun s hs => ?_)).symm
  · rw [((srtG_perm _).map Cg.p).nodup_iff, List.map_append, map_set_p (y := ⟨x.p, kpS names x.s⟩) hx rfl, List.nodup_append]
    refine ⟨g.pos, by simp, fun a ha b hb => ?_⟩
    obtain ⟨y, hy, rfl⟩ := List.mem_map.1 ha
    simp at hb
    rw [hb]; exact hto y hy
  · rcases (hmem y).1 hy with rfl | rfl | ⟨q, _⟩
    · exact ⟨h1, (g.snd hmx).filter _, ((g.pn x hmx).2.2).filter _⟩
    · refine ⟨fun e => h2 ?_, (g.snd hmx).filter _, ((g.pn x hmx).2.2).filter _⟩
      have : mvS names x.s = x.s := List.filter_eq_self.2 fun s hs => by
        have : s ∉ kpS names x.s := by
          have e' : kpS names x.s = [] := e
          rw [e']; simp
        rw [hkp] at this
        simp only [decide_eq_true_eq]
        exact Classical.byContradiction fun q => this ⟨hs, q⟩
      rw [this]
    · exact ⟨(g.pn y q).2.1, g.snd q, (g.pn y q).2.2⟩
  · rcases (hmem y).1 hy with rfl | rfl | ⟨q, q1⟩
    · simp only [hmv]
      constructor
      · rintro ⟨a, b⟩
        exact ⟨mem_allS.2 ⟨x, hmx, a⟩, by unfold ofP; rw [if_pos b]⟩
      · rintro ⟨a, b⟩
        unfold ofP at b
        by_cases z : s ∈ names
        · exact ⟨hsub s z, z⟩
        · rw [if_neg z] at b
          obtain ⟨y, hy, hys⟩ := mem_allS.1 a
          rw [g.gof hy hys] at b
          exact absurd b (hto y hy)
    · simp only [hkp]
      constructor
      · rintro ⟨a, b⟩
        exact ⟨mem_allS.2 ⟨x, hmx, a⟩, by unfold ofP; rw [if_neg b]; exact g.gof hmx a⟩
      · rintro ⟨a, b⟩
        unfold ofP at b
        by_cases z : s ∈ names
        · rw [if_pos z] at b; exact absurd b.symm (hto x hmx)
        · rw [if_neg z] at b
          obtain ⟨y, hy, hys⟩ := mem_allS.1 a
          rw [g.gof hy hys] at b
          exact ⟨hxy y hy b ▸ hys, z⟩
    · constructor
      · intro hs
        have z : s ∉ names := fun z => q1 (by rw [hone y q s hs z])
        exact ⟨mem_allS.2 ⟨y, q, hs⟩, by unfold ofP; rw [if_neg z]; exact g.gof q hs⟩
      · rintro ⟨a, b⟩
        unfold ofP at b
        by_cases z : s ∈ names
        · rw [if_pos z] at b; exact absurd b.symm (hto y q)
        · rw [if_neg z] at b
          obtain ⟨u, hu, hus⟩ := mem_allS.1 a
          rw [g.gof hu hus] at b
          exact inj_p g.pos u hu y q b ▸ hus
  · unfold ofP
    by_cases z : s ∈ names
    · rw [if_pos z]; exact ⟨_, (hmem _).2 (.inl rfl), rfl⟩
    · rw [if_neg z]
      obtain ⟨y, hy, hys⟩ := mem_allS.1 hs
      rw [g.gof hy hys]
      by_cases z2 : y.p = x.p
      · exact ⟨_, (hmem _).2 (.inr (.inl rfl)), z2⟩
      · exact ⟨y, (hmem _).2 (.inr (.inr ⟨hy, z2⟩)), rfl⟩
end Go.Proofs.Ytpidhccaoponfaa
/- Positions of controllers: two sectors, as an example. -/
namespace Go.Proofs.Ytpidhccaoponfaa
open Go.RowKit Go.Shelf
set_option linter.unusedVariables false
set_option linter.unusedSimpArgs false
set_option maxRecDepth 100000
/-- A slice, one of whose cells is a nil slice that is not named by its type. -/
theorem RV.cells {w : World} {ok : Nat → Prop} {s : Nat} {L L' : List (List AV)} {v : Value} (h : RV w ok (.sl s L) v) (hl : L.length = L'.length) (hs : ∀ x ∈ L', x.length = s) (hc : ∀ i j, i < L.length → j < s → NL (gt2 L i j) (gt2 L' i j)) : RV w ok (.sl s L') v := by
  cases h with
  | sl _ _ A n c us hn hnc hcm hs0 hA hone hu => exact .sl s L' A n c us (hl ▸ hn) hnc hcm hs hA hone fun i j hi hj => (hc i j (by omega) hj).rv (hu i j hi hj)
theorem Fn.cells {P : Program} {f : FuncId} {s : Nat} {L L' : List (List AV)} {sh : Sh} {r : AV} (h : Fn P f [.sl s L'] sh r) (hl : L.length = L'.length) (hs : ∀ x ∈ L', x.length = s) (hc : ∀ i j, i < L.length → j < s → NL (gt2 L i j) (gt2 L' i j)) : Fn P f [.sl s L] sh r :=
  ⟨h.1, fun w ok cargs h1 hgl h2 h3 => h.2 w ok cargs h1 hgl h2 fun i hi => by
    obtain rfl : i = 0 := by simpa using hi
    exact (h3 0 (by simp)).cells hl hs hc⟩
abbrev sA : ByteArray := ⟨#[65]⟩
abbrev sB : ByteArray := ⟨#[66]⟩
abbrev lAB : List Cg := [⟨sA, [sA]⟩, ⟨sB, [sB]⟩]
abbrev lM : List Cg := [⟨sA, [sA, sB]⟩]
theorem fact_begin : begV [sB, sA] = .tup [cgs lAB, .int 0] := by kernel_rfl
theorem fact_combine : comV lAB sA sB = .tup [cgs lM, .int 0] := by kernel_rfl
theorem fact_split : splV lM sA sB [sB] = .tup [cgs lAB, .int 0] := by kernel_rfl
theorem fact_pos : posV lM sB = .tup [.string sA, .int 0] := by kernel_rfl
theorem fact_names : namesV lM = .tup [bs [sA, sB], .int 0] := by kernel_rfl
theorem fact_moves : movesV lAB lM = .tup [mvs [⟨sB, sB, sA⟩], .int 0] := by kernel_rfl
theorem fact_check : conE [⟨sA, []⟩] = 8 := by kernel_rfl
theorem cfact_fn : Fn Try.prog 8 [] .sc (.bool true) := by
  have e := ConH.fact_form (.bool true)
  have k := fun h => fn_run mixed 3 (Γ := ConH.Γ) (ann := ConH.ann) Try.func8 rfl Try.call8 (e.mpr h)
  refine k ?_
  clear k e
  have h1 := begin_fn [sB, sA]
  have h2 := combine_fn lAB sA sB
  have h3 := split_fn lM sA sB [sB] (by simp)
  have h4 := position_fn lM sB
  have h5 := names_fn lM
  have h6 := moves_fn lAB lM
  rw [fact_begin] at h1
  rw [fact_combine] at h2
  rw [fact_split] at h3
  rw [fact_pos] at h4
  rw [fact_names] at h5
  rw [fact_moves] at h6
  have h7 := check_fn [⟨sA, []⟩]
  rw [fact_check] at h7
  have h7' : Fn Try.prog 9 [.sl 2 [[.lit (.string sA), .lit (.slice none 0 0)]]] .sc (.int 8) := by
    refine Fn.cells (L' := [[.lit (.string sA), .sl 1 []]]) h7 rfl (by simp) fun i j hi hj => ?_
    obtain rfl : i = 0 := by simpa using hi
    have : j = 0 ∨ j = 1 := by omega
    rcases this with rfl | rfl
    · exact .refl _
    · exact .nil 1
  refine ⟨_, h1, _, h2, _, h3, _, h4, _, h5, _, h6, ?_⟩
  have q1 := eqs_fn [sA, sB] [sA, sB] (by simp)
  have q2 := eqm_fn [⟨sB, sB, sA⟩] [⟨sB, sB, sA⟩] (by simp)
  simp [cgs, lst, encG, bs, encB1, mvs, encV, gt2] at q1 q2 ⊢
  refine ⟨_, q1, ?_⟩
  simp
  refine ⟨_, q1, ?_⟩
  simp
  refine ⟨_, q2, ?_⟩
  simp
  exact ⟨_, h7', by simp⟩
theorem cchecks_fn (l : List Cg) : Fn Try.prog 3 [cgs l] .sc (.bool true) := by
  have e := ConH.checks_form (cgs l) (.bool true)
  have k := fun h => fn_run mixed 3 (Γ := ConH.Γ) (ann := ConH.ann) Try.func3 rfl Try.call3 (e.mpr h)
  refine k ?_
  clear k e
  refine ⟨_, cfact_fn, by simp, by simp, _, check_fn l, _, gerr_fn l, ?_⟩
  simp
theorem casks_fn (l : List Cg) (s : ByteArray) : Fn Try.prog 7 [cgs l, .string s] .sc (.bool true) := by
  have e := ConH.asks_form (cgs l) (.string s) (.bool true)
  have k := fun h => fn_run mixed 3 (Γ := ConH.Γ) (ann := ConH.ann) Try.func7 rfl Try.call7 (e.mpr h)
  refine k ?_
  clear k e
  refine ⟨_, cfact_fn, by simp, by simp, by simp, _, position_fn l s, _, names_fn l, _, gerr_fn l, ?_⟩
  by_cases h : conE l = 0
  · have g := conE_ok h
    have hl := g.len
    have ht := g.tot
    have e1 : namesV l = .tup [bs (srtS (allS l)), .int 0] := by simp [namesV, h]
    simp [h, e1]
    refine ⟨_, gof_fn l s g.small, _, all_fn l (by omega) (by omega), _, sorted_fn _ (by omega), _, eqs_fn _ (srtS (allS l)) (by rw [srtS_len]; omega), ?_⟩
    by_cases q : gofG s l = ⟨#[]⟩
    · have e2 : posV l s = .tup [.string ⟨#[]⟩, .int 8] := by simp [posV, h, q]
      simp [e2, q]
    · have e2 : posV l s = .tup [.string (gofG s l), .int 0] := by simp [posV, h, q]
      simp [e2, q]
  · have e1 : namesV l = .tup [.sl 1 [], .int (conE l)] := by simp [namesV, h]
    have e2 : posV l s = .tup [.string ⟨#[]⟩, .int (conE l)] := by simp [posV, h]
    simp [h, e1, e2]
end Go.Proofs.Ytpidhccaoponfaa
/- Positions of controllers: the law of beginning. -/
namespace Go.Proofs.Ytpidhccaoponfaa
open Go.RowKit Go.Shelf
set_option linter.unusedVariables false
set_option linter.unusedSimpArgs false
set_option maxRecDepth 100000
theorem b1_fn (s : ByteArray) : Fn Try.prog 16 [.string s] .sc (.string (idB s)) := by
  refine fn_run mixed 3 (Γ := ConH.Γ) (ann := ConH.ann) Try.func16 rfl Try.call16 ((ConH.b1_form _ _).mpr ?_)
  simp [idB]
theorem cbegins_fn (l : List ByteArray) : Fn Try.prog 4 [bs l] .sc (.bool true) := by
  have e := ConI.begins_form (bs l) (.bool true)
  have k := fun h => fn_run mixed 3 (Γ := ConI.Γ) (ann := ConI.ann) Try.func4 rfl Try.call4 (e.mpr h)
  refine k ?_
  clear k e
  have hent : Ent Try.prog 15 := Try.call15
  refine ⟨_, cfact_fn, by simp, by simp, by simp, _, begin_fn l, by simp, by simp, by simp, fun hlen => ?_, fun hlen => ?_⟩
  · have h12 : 12 < l.length := by simp at hlen; omega
    have hE : begE l = 2 := by unfold begE; rw [if_pos h12]
    have hV : begV l = .tup [.sl 2 [], .int 2] := by simp [begV, hE]
    refine loop_nat (σ := Unit) 0 (fun n _ => [.int 2, .int (n : Nat)]) (fun n _ => True) () (by simp) trivial (fun n _ K hn => absurd hn (by omega)) ?_
    intro _ K _
    have h0 : (0 : Int) < l.length := by omega
    simp [hV, h0]
  · have h12 : l.length ≤ 12 := by simp at hlen; omega
    have hE : begE l = bgE [] l := by unfold begE; rw [if_neg (by omega)]
    have bad : ∀ e : Int, begE l = e → e ≠ 0 → begV l = .tup [.sl 2 [], .int e] := fun e h1 h2 => by unfold begV; rw [if_pos (by rw [h1]; exact h2), h1]
    refine loop_list (σ := Int) l (fun n e => [.int e, .int (n : Nat)]) (fun n rest e => if e = 0 then begE l = bgE (l.take n) rest else begE l = e) 0 (by simp) (by simpa using hE) ?_ ?_
    · rintro n x rest e K hx hr hn hg hK
      have hwi := hw64 (n := n) (by omega)
      have hn' : (n : Int) < l.length := by omega
      by_cases h0 : e = 0
      · subst h0
        simp only [if_true] at hg
        rw [bgE] at hg
        have e1 : l.take (n + 1) = l.take n ++ [x] := take_snoc hx
        have hsub : AV.sub 1 (bs l) (.int 0) (.int (n : Nat)) = bs (l.take n) := by simp [bs, lst]
        have hso : (bs l).subOk (.int 0) (.int (n : Nat)) := by simp [bs]; omega
        simp [hn', bs_at _ hx, hwi, hsub, hso]
        refine ⟨_, isname_fn x, ?_⟩
        by_cases h1 : isName x = true
        · simp [h1]
          refine ⟨_, has_fn (l.take n) x (by simp; omega), ?_⟩
          by_cases h2 : x ∈ l.take n
          · simp [h2]
            exact hK _ 7 (by simp) (by simp; rw [hg, if_neg (by rw [h1]; simp), if_pos h2])
          · simp [h2]
            exact hK _ 0 (by simp) (by simp only [if_true]; rw [hg, if_neg (by rw [h1]; simp), if_neg h2, e1])
        · simp [h1]
          exact hK _ 3 (by simp) (by simp; rw [hg, if_pos (by simpa using h1)])
      · rw [if_neg h0] at hg
        have := bad e hg h0
        simp [hn', h0, this]
    · rintro e K hg
      by_cases h0 : e = 0
      · subst h0
        simp only [if_true] at hg
        have hB : begE l = 0 := by rw [hg]; simp [bgE]
        have hV : begV l = .tup [cgs (srtG (l.map oneG)), .int 0] := by unfold begV; rw [if_neg (by rw [hB]; simp)]
        have hAl : l.length ≤ 1000000 := by omega
        have hof : ∀ s, s ∈ l → Fn Try.prog 16 [.string s] .sc (.string (idB s)) := fun s _ => b1_fn s
        simp [hV, hent]
        refine loop_list (σ := List ByteArray) l (fun n o => [.int (n : Nat), bs o]) (fun n rest o => namesOf idB l = rest.foldl (addN idB) o ∧ o.length ≤ n) [] rfl ⟨rfl, by simp⟩ ?_ ?_
        · rintro n x rest o K hx hr hn ⟨hg, ho⟩ hK
          have hwi := hw64 (n := n) (by omega)
          have hn' : (n : Int) < (l).length := by omega
          have hxA := List.mem_of_getElem? hx
          simp [hn', bs_at _ hx, hwi]
          refine ⟨_, hof x hxA, _, has_fn o (idB x) (by omega), ?_⟩
          by_cases q : idB x ∈ o
          · have := hK [.int ((n : Nat) + 1), bs o] o (by simp) ⟨by rw [hg]; show List.foldl _ (addN idB o x) rest = _; unfold addN; rw [if_pos q], by omega⟩
            simp [q]
            simpa using this
          · have := hK [.int ((n : Nat) + 1), bs (o ++ [idB x])] (o ++ [idB x]) (by simp) ⟨by rw [hg]; show List.foldl _ (addN idB o x) rest = _; rw [show addN idB o x = o ++ [idB x] from if_neg q], by simp; omega⟩
            rw [← bs_app1] at this
            simp [q]
            exact ⟨by simp [bs, AV.room]; omega, by simpa using this⟩
        · rintro o K ⟨hg, ho⟩
          have ho' : namesOf idB l = o := by simpa using hg
          have hol : o.length ≤ 1000000 := by omega
          simp
          refine ⟨_, sorted_fn o hol, ?_⟩
          refine loop_list (σ := List Cg) (srtS o) (fun n gs => [.int (n : Nat), cgs gs]) (fun n rest gs => grpL idB l = gs ++ rest.map (fun p => ⟨p, selS idB p (srtS l)⟩) ∧ gs.length ≤ n) [] rfl ⟨by unfold grpL; rw [ho']; rfl, by simp⟩ ?_ ?_
          · rintro n p rest gs K2 hp hr hn ⟨hg2, hgl⟩ hK2
            rw [srtS_len] at hn
            have hwi := hw64 (n := n) (by omega)
            have hn' : (n : Int) < (srtS o).length := by rw [srtS_len]; omega
            simp [hn', bs_at _ hp, hwi]
            refine ⟨_, sorted_fn l hAl, ?_⟩
            refine loop_list (σ := List ByteArray) (srtS l) (fun m q => [.int (m : Nat), bs q, .string p]) (fun m rest q => selS idB p (srtS l) = q ++ selS idB p rest ∧ q.length ≤ m) [] rfl ⟨rfl, by simp⟩ ?_ ?_
            · rintro m y rest2 q K3 hy hr2 hm ⟨hg3, hql⟩ hK3
              have hm2 := hm
              rw [srtS_len] at hm2
              have hwm := hw64 (n := m) (by omega)
              have hm' : (m : Int) < (srtS l).length := by omega
              simp [hm', bs_at _ hy, hwm]
              refine ⟨_, hof y (mem_srtS.1 (List.mem_of_getElem? hy)), ?_⟩
              by_cases z : idB y = p
              · have := hK3 [.int ((m : Nat) + 1), bs (q ++ [y]), .string p] (q ++ [y]) (by simp) ⟨by rw [hg3]; simp [selS, z], by simp; omega⟩
                rw [← bs_app1] at this
                simp [z]
                exact ⟨by simp [bs, AV.room]; omega, by simpa using this⟩
              · have := hK3 [.int ((m : Nat) + 1), bs q, .string p] q (by simp) ⟨by rw [hg3]; simp [selS, z], by omega⟩
                simp [z]
                simpa using this
            · rintro q K3 ⟨hg3, hql⟩
              have hq' : selS idB p (srtS l) = q := by simpa [selS] using hg3
              have := hK2 [.int ((n : Nat) + 1), cgs (gs ++ [⟨p, q⟩])] (gs ++ [⟨p, q⟩]) (by simp) ⟨by rw [hg2, ← hq']; simp, by simp; omega⟩
              rw [← cgs_snoc] at this
              simp
              refine ⟨by simp [cgs, AV.room]; omega, ?_⟩
              simpa [cgs, lst, encG] using this
          · rintro gs K2 ⟨hg2, hgl⟩
            have hgs : grpL idB l = gs := by simpa using hg2
            have hsm : Small (srtG (l.map oneG)) := ⟨by rw [srtG_len]; simp; omega, fun g hg => by
              rw [(srtG_perm _).mem_iff, List.mem_map] at hg
              obtain ⟨s, _, rfl⟩ := hg
              simp [oneG]⟩
            have hs := same_fn (srtG (l.map oneG)) gs hsm
            rw [begin_law hB, hgs] at hs
            simp
            rw [begin_law hB, hgs]
            simpa using hs
      · rw [if_neg h0] at hg
        have := bad e hg h0
        simp [h0, this]
end Go.Proofs.Ytpidhccaoponfaa
/- Positions of controllers: the law of combining. -/
namespace Go.Proofs.Ytpidhccaoponfaa
open Go.RowKit Go.Shelf
set_option linter.unusedVariables false
set_option linter.unusedSimpArgs false
set_option maxRecDepth 100000
theorem c1_fn (l : List Cg) (to frm s : ByteArray) (hl : Small l) : Fn Try.prog 20 [.string s, .ref [cgs l], .ref [.string frm], .ref [.string to]] .sc (.string (ofC l to frm s)) := by
  refine fn_run mixed 3 (Γ := ConH.Γ) (ann := ConH.ann) Try.func20 rfl Try.call20 ((ConH.c1_form _ _ _ _ _).mpr ?_)
  simp
  refine ⟨_, gof_fn l s hl, ?_⟩
  by_cases q : gofG s l = frm
  · simp [q, ofC]
  · simp [q, ofC]
theorem ccombines_fn (l : List Cg) (to frm : ByteArray) : Fn Try.prog 5 [cgs l, .string to, .string frm] .sc (.bool true) := by
  have e := ConJ.combines_form (cgs l) (.string to) (.string frm) (.bool true)
  have k := fun h => fn_run mixed 3 (Γ := ConJ.Γ) (ann := ConJ.ann) Try.func5 rfl Try.call5 (e.mpr h)
  refine k ?_
  clear k e
  have hent : Ent Try.prog 15 := Try.call15
  have hcom := combine_fn l to frm
  by_cases hE : conE l = 0
  · have g := conE_ok hE
    have hl := g.len
    have ht := g.tot
    have p1 : (∃ g ∈ l, g.p = to) ↔ ¬ idxP l to < 0 := by
      rcases idxP_spec l to with ⟨h1, h2⟩ | ⟨i, x, h1, h2, h3⟩
      · exact ⟨fun ⟨y, hy, e⟩ => absurd e (h2 y hy), fun h => absurd h (by omega)⟩
      · exact ⟨fun _ => by omega, fun _ => ⟨x, List.mem_of_getElem? h2, h3⟩⟩
    have p2 : (∃ g ∈ l, g.p = frm) ↔ ¬ idxP l frm < 0 := by
      rcases idxP_spec l frm with ⟨h1, h2⟩ | ⟨i, x, h1, h2, h3⟩
      · exact ⟨fun ⟨y, hy, e⟩ => absurd e (h2 y hy), fun h => absurd h (by omega)⟩
      · exact ⟨fun _ => by omega, fun _ => ⟨x, List.mem_of_getElem? h2, h3⟩⟩
    by_cases h1 : idxP l to < 0
    · have hV : comV l to frm = .tup [.sl 2 [], .int 8] := by simp [comV, hE, h1]
      rw [hV] at hcom
      have hpos := pos_fn l to (by omega)
      rw [decide_eq_false (fun q => (p1.1 q) h1)] at hpos
      refine ⟨by simp [cgs], by simp, by simp, _, cfact_fn, by simp, by simp, by simp, _, hcom, _, gerr_fn l, ?_⟩
      simp [hE]
      refine ⟨_, hpos, ?_⟩
      simp
    · by_cases h2 : idxP l frm < 0
      · have hV : comV l to frm = .tup [.sl 2 [], .int 8] := by simp [comV, hE, h2]
        rw [hV] at hcom
        have hpos := pos_fn l to (by omega)
        rw [decide_eq_true (p1.2 h1)] at hpos
        have hpos2 := pos_fn l frm (by omega)
        rw [decide_eq_false (fun q => (p2.1 q) h2)] at hpos2
        refine ⟨by simp [cgs], by simp, by simp, _, cfact_fn, by simp, by simp, by simp, _, hcom, _, gerr_fn l, ?_⟩
        simp [hE]
        refine ⟨_, hpos, ?_⟩
        simp
        refine ⟨_, hpos2, ?_⟩
        simp
      · have hpos := pos_fn l to (by omega)
        rw [decide_eq_true (p1.2 h1)] at hpos
        have hpos2 := pos_fn l frm (by omega)
        rw [decide_eq_true (p2.2 h2)] at hpos2
        obtain ⟨i, gi, hi, hgi, hpi⟩ := (idxP_spec l to).resolve_left (by omega)
        obtain ⟨j, gj, hj, hgj, hpj⟩ := (idxP_spec l frm).resolve_left (by omega)
        by_cases h3 : to = frm
        · have hV : comV l to frm = .tup [.sl 2 [], .int 1] := by subst h3; simp [comV, hE, h1]
          rw [hV] at hcom
          refine ⟨by simp [cgs], by simp, by simp, _, cfact_fn, by simp, by simp, by simp, _, hcom, _, gerr_fn l, ?_⟩
          simp [hE]
          refine ⟨_, hpos, ?_⟩
          simp
          refine ⟨_, hpos2, ?_⟩
          simp [h3]
        · have hij : i ≠ j := fun e => h3 (by subst e; rw [hgi] at hgj; injection hgj with hgj; rw [← hpi, ← hpj, hgj])
          have hij2 : ¬ (i : Int) = j := by omega
          have hV : comV l to frm = .tup [cgs (grpL (ofC l to frm) (allS l)), .int 0] := by
            rw [← combine_law hE hgi hgj hpi hpj hij]
            unfold comV
            rw [if_neg (by rw [hE]; simp), if_neg (by omega), if_neg (by rw [hi, hj]; exact hij2), hi, hj]
            rfl
          rw [hV] at hcom
          refine ⟨by simp [cgs], by simp, by simp, _, cfact_fn, by simp, by simp, by simp, _, hcom, _, gerr_fn l, ?_⟩
          simp [hE]
          refine ⟨_, hpos, ?_⟩
          simp
          refine ⟨_, hpos2, ?_⟩
          simp [h3]
          have hAl : (allS l).length ≤ 1000000 := by omega
          have hof : ∀ s, s ∈ allS l → Fn Try.prog 20 [.string s, .ref [cgs l], .ref [.string frm], .ref [.string to]] .sc (.string (ofC l to frm s)) := fun s _ => c1_fn l to frm s g.small
          refine ⟨_, all_fn l (by omega) hAl, hent, ?_⟩
          refine loop_list (σ := List ByteArray) (allS l) (fun n o => [.int (n : Nat), bs o]) (fun n rest o => namesOf (ofC l to frm) (allS l) = rest.foldl (addN (ofC l to frm)) o ∧ o.length ≤ n) [] rfl ⟨rfl, by simp⟩ ?_ ?_
          · rintro n x rest o K hx hr hn ⟨hg, ho⟩ hK
            have hwi := hw64 (n := n) (by omega)
            have hn' : (n : Int) < ((allS l)).length := by omega
            have hxA := List.mem_of_getElem? hx
            simp [hn', bs_at _ hx, hwi]
            refine ⟨_, hof x hxA, _, has_fn o ((ofC l to frm) x) (by omega), ?_⟩
            by_cases q : (ofC l to frm) x ∈ o
            · have := hK [.int ((n : Nat) + 1), bs o] o (by simp) ⟨by rw [hg]; show List.foldl _ (addN (ofC l to frm) o x) rest = _; unfold addN; rw [if_pos q], by omega⟩
              simp [q]
              simpa using this
            · have := hK [.int ((n : Nat) + 1), bs (o ++ [(ofC l to frm) x])] (o ++ [(ofC l to frm) x]) (by simp) ⟨by rw [hg]; show List.foldl _ (addN (ofC l to frm) o x) rest = _; rw [show addN (ofC l to frm) o x = o ++ [(ofC l to frm) x] from if_neg q], by simp; omega⟩
              rw [← bs_app1] at this
              simp [q]
              exact ⟨by simp [bs, AV.room]; omega, by simpa using this⟩
          · rintro o K ⟨hg, ho⟩
            have ho' : namesOf (ofC l to frm) (allS l) = o := by simpa using hg
            have hol : o.length ≤ 1000000 := by omega
            simp
            refine ⟨_, sorted_fn o hol, ?_⟩
            refine loop_list (σ := List Cg) (srtS o) (fun n gs => [.int (n : Nat), cgs gs]) (fun n rest gs => grpL (ofC l to frm) (allS l) = gs ++ rest.map (fun p => ⟨p, selS (ofC l to frm) p (srtS (allS l))⟩) ∧ gs.length ≤ n) [] rfl ⟨by unfold grpL; rw [ho']; rfl, by simp⟩ ?_ ?_
            · rintro n p rest gs K2 hp hr hn ⟨hg2, hgl⟩ hK2
              rw [srtS_len] at hn
              have hwi := hw64 (n := n) (by omega)
              have hn' : (n : Int) < (srtS o).length := by rw [srtS_len]; omega
              simp [hn', bs_at _ hp, hwi]
              refine ⟨_, sorted_fn (allS l) hAl, ?_⟩
              refine loop_list (σ := List ByteArray) (srtS (allS l)) (fun m q => [.int (m : Nat), bs q, .string p]) (fun m rest q => selS (ofC l to frm) p (srtS (allS l)) = q ++ selS (ofC l to frm) p rest ∧ q.length ≤ m) [] rfl ⟨rfl, by simp⟩ ?_ ?_
              · rintro m y rest2 q K3 hy hr2 hm ⟨hg3, hql⟩ hK3
                have hm2 := hm
                rw [srtS_len] at hm2
                have hwm := hw64 (n := m) (by omega)
                have hm' : (m : Int) < (srtS (allS l)).length := by omega
                simp [hm', bs_at _ hy, hwm]
                refine ⟨_, hof y (mem_srtS.1 (List.mem_of_getElem? hy)), ?_⟩
                by_cases z : (ofC l to frm) y = p
                · have := hK3 [.int ((m : Nat) + 1), bs (q ++ [y]), .string p] (q ++ [y]) (by simp) ⟨by rw [hg3]; simp [selS, z], by simp; omega⟩
                  rw [← bs_app1] at this
                  simp [z]
                  exact ⟨by simp [bs, AV.room]; omega, by simpa using this⟩
                · have := hK3 [.int ((m : Nat) + 1), bs q, .string p] q (by simp) ⟨by rw [hg3]; simp [selS, z], by omega⟩
                  simp [z]
                  simpa using this
              · rintro q K3 ⟨hg3, hql⟩
                have hq' : selS (ofC l to frm) p (srtS (allS l)) = q := by simpa [selS] using hg3
                have := hK2 [.int ((n : Nat) + 1), cgs (gs ++ [⟨p, q⟩])] (gs ++ [⟨p, q⟩]) (by simp) ⟨by rw [hg2, ← hq']; simp, by simp; omega⟩
                rw [← cgs_snoc] at this
                simp
                refine ⟨by simp [cgs, AV.room]; omega, ?_⟩
                simpa [cgs, lst, encG] using this
            · rintro gs K2 ⟨hg2, hgl⟩
              have hgs : grpL (ofC l to frm) (allS l) = gs := by simpa using hg2
              have hsm : Small gs := ⟨by rw [srtS_len] at hgl; omega, fun x hx => by
                rw [← hgs] at hx
                unfold grpL at hx
                obtain ⟨p, _, rfl⟩ := List.mem_map.1 hx
                have : (selS (ofC l to frm) p (srtS (allS l))).length ≤ (srtS (allS l)).length := List.length_filter_le _ _
                rw [srtS_len] at this
                show (selS (ofC l to frm) p (srtS (allS l))).length ≤ 1000000
                omega⟩
              have hs := same_fn gs gs hsm
              simp
              rw [hgs]
              simpa using hs
  · have hV : comV l to frm = .tup [.sl 2 [], .int (conE l)] := by simp [comV, hE]
    rw [hV] at hcom
    refine ⟨by simp [cgs], by simp, by simp, _, cfact_fn, by simp, by simp, by simp, _, hcom, _, gerr_fn l, ?_⟩
    simp [hE]
end Go.Proofs.Ytpidhccaoponfaa
/- Positions of controllers: the law of splitting. -/
namespace Go.Proofs.Ytpidhccaoponfaa
open Go.RowKit Go.Shelf
set_option linter.unusedVariables false
set_option linter.unusedSimpArgs false
set_option maxRecDepth 100000
theorem s1_fn (l : List Cg) (to : ByteArray) (names : List ByteArray) (s : ByteArray) (hl : Small l) (hn : names.length ≤ 9223372036854775807) : Fn Try.prog 23 [.string s, .ref [bs names], .ref [.string to], .ref [cgs l]] .sc (.string (ofP l to names s)) := by
  refine fn_run mixed 3 (Γ := ConH.Γ) (ann := ConH.ann) Try.func23 rfl Try.call23 ((ConH.s1_form _ _ _ _ _).mpr ?_)
  simp
  refine ⟨_, has_fn names s hn, ?_⟩
  by_cases q : s ∈ names
  · simp [q, ofP]
  · simp [q, ofP]
    exact gof_fn l s hl
theorem csplits_fn (l : List Cg) (frm to : ByteArray) (names : List ByteArray) (hn : names.length ≤ 9223372036854775807) : Fn Try.prog 6 [cgs l, .string frm, .string to, bs names] .sc (.bool true) := by
  have e := ConK.splits_form (cgs l) (.string frm) (.string to) (bs names) (.bool true)
  have k := fun h => fn_run mixed 3 (Γ := ConK.Γ) (ann := ConK.ann) Try.func6 rfl Try.call6 (e.mpr h)
  refine k ?_
  clear k e
  have hent : Ent Try.prog 15 := Try.call15
  have hspl := split_fn l frm to names hn
  by_cases hE : conE l = 0
  rotate_left
  · have h1 : splE l frm to names = conE l := by unfold splE; rw [if_pos hE]
    rw [splV_bad h1 hE] at hspl
    refine ⟨by simp [cgs], by simp, by simp, _, cfact_fn, by simp, by simp, by simp, _, hspl, _, gerr_fn l, ?_⟩
    simp [hE]
  have g := conE_ok hE
  have hl := g.len
  have ht := g.tot
  have posI : ∀ s, (∃ g ∈ l, g.p = s) ↔ ¬ idxP l s < 0 := fun s => by
    rcases idxP_spec l s with ⟨h1, h2⟩ | ⟨i, x, h1, h2, h3⟩
    · exact ⟨fun ⟨y, hy, e⟩ => absurd e (h2 y hy), fun h => absurd h (by omega)⟩
    · exact ⟨fun _ => by omega, fun _ => ⟨x, List.mem_of_getElem? h2, h3⟩⟩
  refine ⟨by simp [cgs], by simp, by simp, _, cfact_fn, by simp, by simp, by simp, _, hspl, _, gerr_fn l, ?_⟩
  simp [hE]
  have hAl : (allS l).length ≤ 1000000 := by omega
  refine ⟨_, all_fn l (by omega) hAl, ?_⟩
  refine loop_list (σ := Nat) (allS l) (fun n c => [.int (c : Nat), .int (n : Nat)]) (fun n rest c => (c = 0 ↔ ∀ s ∈ (allS l).take n, ¬ (gofG s l = frm ∧ s ∉ names)) ∧ c ≤ n) 0 (by simp) ⟨by simp, by omega⟩ ?_ ?_
  · rintro n s rest c K hs hr hn' ⟨hc, hcn⟩ hK
    have hwi := hw64 (n := n) (by omega)
    have hwc := hw64 (n := c) (by omega)
    have hil : (n : Int) < (allS l).length := by omega
    simp [hil, bs_at _ hs, hwi]
    refine ⟨_, gof_fn l s g.small, ?_⟩
    have hno : ¬ (gofG s l = frm ∧ s ∉ names) → K [.int (c : Nat), .int ((n : Nat) + 1)] := fun q => hK _ c (by simp) ⟨by
      rw [hc, take_snoc hs]
      constructor
      · intro h t ht
        rcases List.mem_append.1 ht with ht | ht
        · exact h t ht
        · simp at ht; rw [ht]; exact q
      · exact fun h t ht => h t (List.mem_append_left _ ht), by omega⟩
    by_cases q1 : gofG s l = frm
    · simp [q1]
      refine ⟨_, has_fn names s hn, ?_⟩
      by_cases q2 : s ∈ names
      · have := hno (fun q => q.2 q2)
        simp [q2]
        simpa using this
      · have := hK [.int ((c : Nat) + 1), .int ((n : Nat) + 1)] (c + 1) (by simp) ⟨⟨fun h => absurd h (by omega), fun h => absurd ⟨q1, q2⟩ (h s (by rw [take_snoc hs]; simp))⟩, by omega⟩
        simp [q2, hwc]
        simpa using this
    · have := hno (fun q => q1 q.1)
      simp [q1]
      simpa using this
  · rintro c K ⟨hc, hcn⟩
    rw [List.take_length] at hc
    simp
    refine loop_list (σ := Bool) names (fun n b => [.bool b, .int (n : Nat)]) (fun n rest b => (b = true ↔ ∃ s ∈ names.take n, gofG s l ≠ frm)) false (by simp) (by simp) ?_ ?_
    · rintro n s rest b K2 hs hr hn' hb hK2
      have hwi := hw64 (n := n) (by omega)
      have hil : (n : Int) < names.length := by omega
      simp [hil, bs_at _ hs, hwi]
      by_cases q : b = true
      · have := hK2 [.bool true, .int ((n : Nat) + 1)] true (by simp) ⟨fun _ => by
          obtain ⟨t, ht, e⟩ := hb.1 q
          exact ⟨t, by rw [take_snoc hs]; exact List.mem_append_left _ ht, e⟩, fun _ => rfl⟩
        simp [q]
        simpa using this
      · have hbf : b = false := by simpa using q
        have := hK2 [.bool (!decide (gofG s l = frm)), .int ((n : Nat) + 1)] (!decide (gofG s l = frm)) (by simp) ⟨fun h => ⟨s, by rw [take_snoc hs]; simp, by simpa using h⟩, fun ⟨t, ht, e⟩ => by
          rw [take_snoc hs] at ht
          rcases List.mem_append.1 ht with ht | ht
          · exact absurd (hb.2 ⟨t, ht, e⟩) q
          · simp at ht; subst ht; simpa using e⟩
        simp [hbf]
        exact ⟨_, gof_fn l s g.small, by simpa using this⟩
    · rintro b K2 hb
      rw [List.take_length] at hb
      simp
      refine ⟨_, pos_fn l frm (by omega), ?_⟩
      by_cases h1 : idxP l frm < 0
      · have h8 : splE l frm to names = 8 := by unfold splE; rw [if_neg (by rw [hE]; simp), if_pos h1]
        rw [decide_eq_false (fun q => ((posI frm).1 q) h1)]
        simp [splV_bad h8 (by omega)]
      rw [decide_eq_true ((posI frm).2 h1)]
      simp
      refine ⟨_, isname_fn to, ?_⟩
      by_cases h2 : isName to = true
      rotate_left
      · have h3 : splE l frm to names = 3 := by unfold splE; rw [if_neg (by rw [hE]; simp), if_neg h1, if_pos (by simpa using h2)]
        simp [h2, splV_bad h3 (by omega)]
      simp [h2]
      refine ⟨_, pos_fn l to (by omega), ?_⟩
      by_cases h3 : 0 ≤ idxP l to
      · have h7 : splE l frm to names = 7 := by unfold splE; rw [if_neg (by rw [hE]; simp), if_neg h1, if_neg (by rw [h2]; simp), if_pos h3]
        rw [decide_eq_true ((posI to).2 (by omega))]
        simp [splV_bad h7 (by omega)]
      rw [decide_eq_false (fun q => ((posI to).1 q) (by omega))]
      obtain ⟨i, x, hi, hx, hp⟩ := (idxP_spec l frm).resolve_left (by omega)
      have hmx := List.mem_of_getElem? hx
      have hnt : ∀ y ∈ l, y.p ≠ to := ((idxP_spec l to).resolve_right (fun ⟨j, _, q, _⟩ => by omega)).2
      have hE1 : splE l frm to names = if ∃ s ∈ names, s ∉ x.s then 6 else if mvS names x.s = [] ∨ (mvS names x.s).length = x.s.length then 11 else 0 := by
        unfold splE
        rw [if_neg (by rw [hE]; simp), if_neg h1, if_neg (by rw [h2]; simp), if_neg h3, hi]
        simp [hx]
      have hfne : frm ≠ ⟨#[]⟩ := fun e => by
        have := (g.pn x hmx).1
        rw [hp, e] at this
        exact absurd this (by decide)
      have hgx : ∀ s, gofG s l = frm ↔ s ∈ x.s := fun s => by
        constructor
        · intro e
          by_cases q : s ∈ allS l
          · obtain ⟨y, hy, hys⟩ := mem_allS.1 q
            rw [g.gof hy hys] at e
            exact inj_p g.pos y hy x hmx (e.trans hp.symm) ▸ hys
          · rw [gofG_none q] at e; exact absurd e.symm hfne
        · intro q; rw [g.gof hmx q, hp]
      have hfor : b = true ↔ ∃ s ∈ names, s ∉ x.s := by
        rw [hb]
        exact ⟨fun ⟨s, h, e⟩ => ⟨s, h, fun q => e ((hgx s).2 q)⟩, fun ⟨s, h, e⟩ => ⟨s, h, fun q => e ((hgx s).1 q)⟩⟩
      by_cases q6 : b = true
      · have h6 : splE l frm to names = 6 := by rw [hE1, if_pos (hfor.1 q6)]
        simp [q6, splV_bad h6 (by omega)]
      have q6' : b = false := by simpa using q6
      have hsub : ∀ s ∈ names, s ∈ x.s := fun s hs => Classical.byContradiction fun q => q6 (hfor.2 ⟨s, hs, q⟩)
      rw [if_neg (fun q => q6 (hfor.2 q))] at hE1
      have hmv0 : mvS names x.s = [] ↔ names = [] := by
        constructor
        · intro e
          cases hnm : names with
          | nil => rfl
          | cons s r =>
            have hs : s ∈ names := by rw [hnm]; simp
            have : s ∈ mvS names x.s := by simp [mvS, hs, hsub s hs]
            rw [e] at this; simp at this
        · intro e; rw [e]; simp [mvS]
      have hst0 : (mvS names x.s).length = x.s.length ↔ c = 0 := by
        rw [hc]
        constructor
        · intro e s hs q
          have hall : ∀ t ∈ x.s, t ∈ names := by
            have := List.length_filter_eq_length_iff.1 e
            exact fun t ht => by simpa using this t ht
          exact q.2 (hall s ((hgx s).1 q.1))
        · intro h
          unfold mvS
          rw [List.length_filter_eq_length_iff]
          intro t ht
          have := h t (mem_allS.2 ⟨x, hmx, ht⟩)
          simp only [decide_eq_true_eq]
          exact Classical.byContradiction fun q => this ⟨(hgx t).2 ht, q⟩
      by_cases q7 : c = 0
      · have h11 : splE l frm to names = 11 := by rw [hE1, if_pos (.inr (hst0.2 q7))]
        simp [q6', q7, splV_bad h11 (by omega)]
      by_cases q8 : names = []
      · have h11 : splE l frm to names = 11 := by rw [hE1, if_pos (.inl (hmv0.2 q8))]
        have hq8 : names.length = 0 := by rw [q8]; rfl
        simp [q6', q7, hq8, q8, splV_bad (q8 ▸ h11) (by omega)]
      have h0 : splE l frm to names = 0 := by rw [hE1, if_neg (fun h => h.elim (fun h => q8 (hmv0.1 h)) fun h => q7 (hst0.1 h))]
      have hV : splV l frm to names = .tup [cgs (grpL (ofP l to names) (allS l)), .int 0] := by
        unfold splV
        rw [if_neg (by rw [h0]; simp), hi]
        simp [hx]
        rw [split_law hE hx hnt hsub (fun h => q8 (hmv0.1 h)) (fun h => q7 (hst0.1 h))]
      have hof : ∀ s, s ∈ allS l → Fn Try.prog 23 [.string s, .ref [bs names], .ref [.string to], .ref [cgs l]] .sc (.string (ofP l to names s)) := fun s _ => s1_fn l to names s g.small hn
      rw [hV]
      have hnl : ¬ names.length = 0 := fun h => q8 (List.length_eq_zero_iff.1 h)
      simp [q6', q7, q8, hnl]
      refine ⟨_, all_fn l (by omega) hAl, hent, ?_⟩
      refine loop_list (σ := List ByteArray) (allS l) (fun n o => [.int (n : Nat), bs o]) (fun n rest o => namesOf (ofP l to names) (allS l) = rest.foldl (addN (ofP l to names)) o ∧ o.length ≤ n) [] rfl ⟨rfl, by simp⟩ ?_ ?_
      · rintro n x rest o K hx hr hn ⟨hg, ho⟩ hK
        have hwi := hw64 (n := n) (by omega)
        have hn' : (n : Int) < ((allS l)).length := by omega
        have hxA := List.mem_of_getElem? hx
        simp [hn', bs_at _ hx, hwi]
        refine ⟨_, hof x hxA, _, has_fn o ((ofP l to names) x) (by omega), ?_⟩
        by_cases q : (ofP l to names) x ∈ o
        · have := hK [.int ((n : Nat) + 1), bs o] o (by simp) ⟨by rw [hg]; show List.foldl _ (addN (ofP l to names) o x) rest = _; unfold addN; rw [if_pos q], by omega⟩
          simp [q]
          simpa using this
        · have := hK [.int ((n : Nat) + 1), bs (o ++ [(ofP l to names) x])] (o ++ [(ofP l to names) x]) (by simp) ⟨by rw [hg]; show List.foldl _ (addN (ofP l to names) o x) rest = _; rw [show addN (ofP l to names) o x = o ++ [(ofP l to names) x] from if_neg q], by simp; omega⟩
          rw [← bs_app1] at this
          simp [q]
          exact ⟨by simp [bs, AV.room]; omega, by simpa using this⟩
      · rintro o K ⟨hg, ho⟩
        have ho' : namesOf (ofP l to names) (allS l) = o := by simpa using hg
        have hol : o.length ≤ 1000000 := by omega
        simp
        refine ⟨_, sorted_fn o hol, ?_⟩
        refine loop_list (σ := List Cg) (srtS o) (fun n gs => [.int (n : Nat), cgs gs]) (fun n rest gs => grpL (ofP l to names) (allS l) = gs ++ rest.map (fun p => ⟨p, selS (ofP l to names) p (srtS (allS l))⟩) ∧ gs.length ≤ n) [] rfl ⟨by unfold grpL; rw [ho']; rfl, by simp⟩ ?_ ?_
        · rintro n p rest gs K2 hp hr hn ⟨hg2, hgl⟩ hK2
          rw [srtS_len] at hn
          have hwi := hw64 (n := n) (by omega)
          have hn' : (n : Int) < (srtS o).length := by rw [srtS_len]; omega
          simp [hn', bs_at _ hp, hwi]
          refine ⟨_, sorted_fn (allS l) hAl, ?_⟩
          refine loop_list (σ := List ByteArray) (srtS (allS l)) (fun m q => [.int (m : Nat), bs q, .string p]) (fun m rest q => selS (ofP l to names) p (srtS (allS l)) = q ++ selS (ofP l to names) p rest ∧ q.length ≤ m) [] rfl ⟨rfl, by simp⟩ ?_ ?_
          · rintro m y rest2 q K3 hy hr2 hm ⟨hg3, hql⟩ hK3
            have hm2 := hm
            rw [srtS_len] at hm2
            have hwm := hw64 (n := m) (by omega)
            have hm' : (m : Int) < (srtS (allS l)).length := by omega
            simp [hm', bs_at _ hy, hwm]
            refine ⟨_, hof y (mem_srtS.1 (List.mem_of_getElem? hy)), ?_⟩
            by_cases z : (ofP l to names) y = p
            · have := hK3 [.int ((m : Nat) + 1), bs (q ++ [y]), .string p] (q ++ [y]) (by simp) ⟨by rw [hg3]; simp [selS, z], by simp; omega⟩
              rw [← bs_app1] at this
              simp [z]
              exact ⟨by simp [bs, AV.room]; omega, by simpa using this⟩
            · have := hK3 [.int ((m : Nat) + 1), bs q, .string p] q (by simp) ⟨by rw [hg3]; simp [selS, z], by omega⟩
              simp [z]
              simpa using this
          · rintro q K3 ⟨hg3, hql⟩
            have hq' : selS (ofP l to names) p (srtS (allS l)) = q := by simpa [selS] using hg3
            have := hK2 [.int ((n : Nat) + 1), cgs (gs ++ [⟨p, q⟩])] (gs ++ [⟨p, q⟩]) (by simp) ⟨by rw [hg2, ← hq']; simp, by simp; omega⟩
            rw [← cgs_snoc] at this
            simp
            refine ⟨by simp [cgs, AV.room]; omega, ?_⟩
            simpa [cgs, lst, encG] using this
        · rintro gs K2 ⟨hg2, hgl⟩
          have hgs : grpL (ofP l to names) (allS l) = gs := by simpa using hg2
          have hsm : Small gs := ⟨by rw [srtS_len] at hgl; omega, fun x hx => by
            rw [← hgs] at hx
            unfold grpL at hx
            obtain ⟨p, _, rfl⟩ := List.mem_map.1 hx
            have : (selS (ofP l to names) p (srtS (allS l))).length ≤ (srtS (allS l)).length := List.length_filter_le _ _
            rw [srtS_len] at this
            show (selS (ofP l to names) p (srtS (allS l))).length ≤ 1000000
            omega⟩
          have hs := same_fn gs gs hsm
          simp
          rw [hgs]
          simpa using hs
end Go.Proofs.Ytpidhccaoponfaa
/- Positions of controllers: the laws at all arguments. -/
namespace Go.Proofs.Ytpidhccaoponfaa
open Go.RowKit Go.Shelf
set_option linter.unusedVariables false
set_option linter.unusedSimpArgs false
set_option maxRecDepth 100000
theorem arg_strT {x : AV} (h : ArgOk Try.prog 9 x) : ∃ s : ByteArray, x = .string s ∧ s.size ≤ maxLen := c_str (by kernel_rfl) (arg_cell (by kernel_rfl) h)
theorem bs_dec {d : Nat} {x : AV} (h : CellOk Try.prog (d + 2) 27 x) : ∃ l, x = bs l ∧ l.length ≤ maxLen := by
  obtain ⟨L, e, hl, hL⟩ := cell_sl (e := 9) (tys := [9]) (s := 1) (by kernel_rfl) (by kernel_rfl) (by kernel_rfl) h
  obtain ⟨l, e2, _⟩ := list_dec (encA := encB1) (Q := fun _ => True) (L := L) fun y hy => by
    obtain ⟨h1, h2⟩ := hL y hy
    obtain ⟨a, rfl⟩ := lst1 h1
    obtain ⟨s, e3, _⟩ := cell_str (by kernel_rfl) (h2 0 9 rfl)
    simp at e3
    exact ⟨s, by rw [e3]; rfl, trivial⟩
  subst e2
  exact ⟨l, e, by simpa using hl⟩
theorem arg_bs {x : AV} (h : ArgOk Try.prog 27 x) : ∃ l, x = bs l ∧ l.length ≤ maxLen := bs_dec (d := 6) (arg_cell (by kernel_rfl) h)
theorem arg_cgs {x : AV} (h : ArgOk Try.prog 22 x) : ∃ l, x = cgs l := by
  obtain ⟨L, e, hl, hL⟩ := cell_sl (e := 53) (tys := [9, 27]) (s := 2) (by kernel_rfl) (by kernel_rfl) (by kernel_rfl) (arg_cell (by kernel_rfl) h)
  obtain ⟨l, e2, _⟩ := list_dec (encA := encG) (Q := fun _ => True) (L := L) fun y hy => by
    obtain ⟨h1, h2⟩ := hL y hy
    obtain ⟨a, b, rfl⟩ := lst2 h1
    obtain ⟨s, e3, _⟩ := cell_str (by kernel_rfl) (h2 0 9 rfl)
    obtain ⟨m, e4, _⟩ := bs_dec (h2 1 27 rfl)
    simp at e3 e4
    exact ⟨⟨s, m⟩, by rw [e3, e4]; rfl, trivial⟩
  subst e2
  exact ⟨l, e⟩
theorem configChecks_all (xs : List AV) (h1 : xs.length = 1) (h2 : ∀ i, i < 1 → ArgOk Try.prog ([22].getD i 0) (xs.getD i default)) : Fn Try.prog 3 xs .sc (.bool true) := by
  obtain ⟨a, rfl⟩ := lst1 h1
  obtain ⟨l, e1⟩ := arg_cgs (h2 0 (by omega))
  simp at e1
  subst e1
  exact cchecks_fn l
theorem configBegins_all (xs : List AV) (h1 : xs.length = 1) (h2 : ∀ i, i < 1 → ArgOk Try.prog ([27].getD i 0) (xs.getD i default)) : Fn Try.prog 4 xs .sc (.bool true) := by
  obtain ⟨a, rfl⟩ := lst1 h1
  obtain ⟨l, e1, _⟩ := arg_bs (h2 0 (by omega))
  simp at e1
  subst e1
  exact cbegins_fn l
theorem configCombines_all (xs : List AV) (h1 : xs.length = 3) (h2 : ∀ i, i < 3 → ArgOk Try.prog ([22, 9, 9].getD i 0) (xs.getD i default)) : Fn Try.prog 5 xs .sc (.bool true) := by
  obtain ⟨a, b, c, rfl⟩ := lst3 h1
  obtain ⟨l, e1⟩ := arg_cgs (h2 0 (by omega))
  obtain ⟨s, e2, _⟩ := arg_strT (h2 1 (by omega))
  obtain ⟨t, e3, _⟩ := arg_strT (h2 2 (by omega))
  simp at e1 e2 e3
  subst e1 e2 e3
  exact ccombines_fn l s t
theorem configSplits_all (xs : List AV) (h1 : xs.length = 4) (h2 : ∀ i, i < 4 → ArgOk Try.prog ([22, 9, 9, 27].getD i 0) (xs.getD i default)) : Fn Try.prog 6 xs .sc (.bool true) := by
  obtain ⟨a, b, c, d, rfl⟩ := lst4 h1
  obtain ⟨l, e1⟩ := arg_cgs (h2 0 (by omega))
  obtain ⟨s, e2, _⟩ := arg_strT (h2 1 (by omega))
  obtain ⟨t, e3, _⟩ := arg_strT (h2 2 (by omega))
  obtain ⟨n, e4, hn⟩ := arg_bs (h2 3 (by omega))
  simp at e1 e2 e3 e4
  subst e1 e2 e3 e4
  exact csplits_fn l s t n (by unfold maxLen at hn; omega)
theorem configAsks_all (xs : List AV) (h1 : xs.length = 2) (h2 : ∀ i, i < 2 → ArgOk Try.prog ([22, 9].getD i 0) (xs.getD i default)) : Fn Try.prog 7 xs .sc (.bool true) := by
  obtain ⟨a, b, rfl⟩ := lst2 h1
  obtain ⟨l, e1⟩ := arg_cgs (h2 0 (by omega))
  obtain ⟨s, e2, _⟩ := arg_strT (h2 1 (by omega))
  simp at e1 e2
  subst e1 e2
  exact casks_fn l s
end Go.Proofs.Ytpidhccaoponfaa
