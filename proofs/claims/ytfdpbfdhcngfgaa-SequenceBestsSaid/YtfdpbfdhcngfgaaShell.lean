/- What every law's proof closes with. -/
import Derived.Test.YtfdpbfdhcngfgaaKit
import Derived.Lib.SmallJoins
namespace Go.Proofs.Ytfdpbfdhcngfgaa
open Go.ChangeShapes Go.WideShapes Go.ChangeAt Go.RowKit

theorem own : ownKnob Try.prog.godebug = none := by kernel_rfl
theorem laidOut : laidOutB Try.prog = true := by kernel_rfl


theorem law_end {H : Type} {enc : TypeId × Value → H} {f : Func} {s : ChangeSpec} {W W' : World} {args : Array Value} {ds gs : List (DataW H)} {before : List MemPlace} {e : Ending}
    (hts : (f.params.toList.all fun t => Try.prog.readableRec t && decide (t < Try.prog.types.size)) = true) (hres : f.resultTypes = #[4]) (hv : s.vars = [])
    (hW : DataW.Whole enc Try.prog f.params.toList s.vars false W args.toList ds gs before) (h1 : (s.fn H (ds ++ gs)).results = [.lit (.bool true)]) (h2 : (s.fn H (ds ++ gs)).args = ds) (h3 : (s.fn H (ds ++ gs)).vars = [])
    (hr : Ret (.bool true) W e W') : ∃ v, e = .returned v ∧ s.post enc Try.prog f false true false false W args v W' := by
  refine ⟨_, hr.1, law_post laidOut (fun t ht => ?_) hres Try.underlying4 hv hW h1 h2 h3 hr.below⟩
  have := List.all_eq_true.1 hts t ht
  simp only [Bool.and_eq_true, decide_eq_true_eq] at this
  exact this
end Go.Proofs.Ytfdpbfdhcngfgaa
