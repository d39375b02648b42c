/- runway's law of safe plans. -/
import Derived.Test.YtlhhdonpoglfkaaRunway7
import Derived.Test.YtlhhdonpoglfkaaRunwayA
namespace Go.Proofs.Ytlhhdonpoglfkaa
open Go.RowKit
set_option linter.unusedVariables false
set_option linter.unusedSimpArgs false
set_option maxRecDepth 100000
theorem rsafes_fn (l : List Mv) (s : List Sp) (T : Nat → Int) : Fn Try.prog 4 [mvs l, sps s, tabA T] .sc (.bool true) := by
  refine fn_run mixed 3 (Γ := RunwayG.Γ) (ann := RunwayG.ann) Try.func4 rfl Try.call4 ((RunwayG.safes_form _ _ _ _).mpr ?_)
  refine ⟨by simp [tabA, tabL], _, rfact_fn, ?_⟩
  simp
  refine ⟨_, safe_fn l s T, ?_⟩
  refine ⟨_, plan_fn l s T, ?_⟩
  by_cases hp : plE l s T = 0
  · have e : safI l s T = wrI l s T := by simp [safI, hp]
    simp [hp, trA, e]
    refine ⟨_, wrong_fn l s T hp, ?_⟩
    simp [trA]
  · have e : safI l s T = (0, 0, plE l s T) := by simp [safI, hp]
    simp [hp, trA, e]
theorem runwaySafes_all (xs : List AV) (h1 : xs.length = 3) (h2 : ∀ i, i < 3 → ArgOk Try.prog ([22, 23, 26].getD i 0) (xs.getD i default)) : Fn Try.prog 4 xs .sc (.bool true) := by
  obtain ⟨a, b, c, rfl⟩ := lst3 h1
  obtain ⟨l, e1, _⟩ := arg_mvs (h2 0 (by omega))
  obtain ⟨s, e2, _⟩ := arg_sps (h2 1 (by omega))
  obtain ⟨T, e3⟩ := arg_tab (h2 2 (by omega))
  simp at e1 e2 e3
  subst e1 e2 e3
  exact rsafes_fn l s T
end Go.Proofs.Ytlhhdonpoglfkaa
