/- runway's law of insertions: its arguments. -/
import Derived.Test.YtlhhdonpoglfkaaRunwayJ
import Derived.Test.YtlhhdonpoglfkaaSized
namespace Go.Proofs.Ytlhhdonpoglfkaa
open Go.RowKit
set_option linter.unusedVariables false
set_option linter.unusedSimpArgs false
set_option maxRecDepth 100000
theorem runwayInserts_all (xs : List AV) (h1 : xs.length = 4) (h2 : ∀ i, i < 4 → ArgOk Try.prog ([22, 23, 26, 44].getD i 0) (xs.getD i default))
    (h3 : ∀ i s L e, i < 4 → xs.getD i default = .sl s L → Try.prog.underlying ([22, 23, 26, 44].getD i 0) = some (.slice e) → L.length * Try.prog.bytesOf e ≤ reachBytes) : Fn Try.prog 5 xs .sc (.bool true) := by
  obtain ⟨a, b, c, d, rfl⟩ := lst4 h1
  obtain ⟨l, e1, _⟩ := arg_mvs (h2 0 (by omega))
  obtain ⟨s, e2, _⟩ := arg_sps (h2 1 (by omega))
  obtain ⟨T, e3⟩ := arg_tab (h2 2 (by omega))
  obtain ⟨r, e4, _⟩ := arg_rds (h2 3 (by omega))
  have b1 : Try.prog.bytesOf 35 = 32 := by kernel_rfl
  have b2 : Try.prog.bytesOf 49 = 16 := by kernel_rfl
  have q1 := h3 0 4 (l.map encM) 35 (by omega) e1 (by kernel_rfl)
  have q2 := h3 3 2 (r.map encR) 49 (by omega) e4 (by kernel_rfl)
  rw [b1, List.length_map] at q1
  rw [b2, List.length_map] at q2
  unfold reachBytes at q1 q2
  simp at e1 e2 e3 e4
  subst e1 e2 e3 e4
  exact rinserts_fn l s T r (by omega) (by omega)
end Go.Proofs.Ytlhhdonpoglfkaa
