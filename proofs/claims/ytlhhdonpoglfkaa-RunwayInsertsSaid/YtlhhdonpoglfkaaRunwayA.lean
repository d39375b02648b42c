/- runway's arguments. -/
import Derived.Test.YtlhhdonpoglfkaaRunway6
import Derived.Test.YtlhhdonpoglfkaaArgs
namespace Go.Proofs.Ytlhhdonpoglfkaa
open Go.RowKit
set_option linter.unusedVariables false
set_option linter.unusedSimpArgs false
set_option maxRecDepth 100000
theorem arg_int {x : AV} (h : ArgOk Try.prog 3 x) : ∃ n, x = .int n ∧ I64 n := c_int (by kernel_rfl) (arg_cell (by kernel_rfl) h)
theorem arg_mvs {x : AV} (h : ArgOk Try.prog 22 x) : ∃ l, x = mvs l ∧ l.length ≤ maxLen := by
  obtain ⟨l, e, h1, _⟩ := c_lst (P := Try.prog) (encA := encM) (Q := fun _ => True) (tys := [3, 3, 4, 3]) (s := 4) (e := 35) (by kernel_rfl) (by kernel_rfl) (by kernel_rfl) (fun y hy hc => by
    obtain ⟨a, b, c, d, rfl⟩ := lst4 hy
    obtain ⟨s1, e1, _⟩ := c_int (by kernel_rfl) (hc 0 3 rfl)
    obtain ⟨s2, e2, _⟩ := c_int (by kernel_rfl) (hc 1 3 rfl)
    obtain ⟨s3, e3⟩ := c_bool (by kernel_rfl) (hc 2 4 rfl)
    obtain ⟨s4, e4, _⟩ := c_int (by kernel_rfl) (hc 3 3 rfl)
    simp at e1 e2 e3 e4
    exact ⟨⟨s1, s2, s3, s4⟩, by rw [e1, e2, e3, e4]; rfl, trivial⟩) (arg_cell (by kernel_rfl) h)
  exact ⟨l, e, h1⟩
theorem arg_sps {x : AV} (h : ArgOk Try.prog 23 x) : ∃ l, x = sps l ∧ l.length ≤ maxLen := by
  obtain ⟨l, e, h1, _⟩ := c_lst (P := Try.prog) (encA := encP) (Q := fun _ => True) (tys := [3, 3]) (s := 2) (e := 60) (by kernel_rfl) (by kernel_rfl) (by kernel_rfl) (fun y hy hc => by
    obtain ⟨a, b, rfl⟩ := lst2 hy
    obtain ⟨s1, e1, _⟩ := c_int (by kernel_rfl) (hc 0 3 rfl)
    obtain ⟨s2, e2, _⟩ := c_int (by kernel_rfl) (hc 1 3 rfl)
    simp at e1 e2
    exact ⟨⟨s1, s2⟩, by rw [e1, e2]; rfl, trivial⟩) (arg_cell (by kernel_rfl) h)
  exact ⟨l, e, h1⟩
theorem arg_rds {x : AV} (h : ArgOk Try.prog 44 x) : ∃ l, x = rds l ∧ l.length ≤ maxLen := by
  obtain ⟨l, e, h1, _⟩ := c_lst (P := Try.prog) (encA := encR) (Q := fun _ => True) (tys := [3, 3]) (s := 2) (e := 49) (by kernel_rfl) (by kernel_rfl) (by kernel_rfl) (fun y hy hc => by
    obtain ⟨a, b, rfl⟩ := lst2 hy
    obtain ⟨s1, e1, _⟩ := c_int (by kernel_rfl) (hc 0 3 rfl)
    obtain ⟨s2, e2, _⟩ := c_int (by kernel_rfl) (hc 1 3 rfl)
    simp at e1 e2
    exact ⟨⟨s1, s2⟩, by rw [e1, e2]; rfl, trivial⟩) (arg_cell (by kernel_rfl) h)
  exact ⟨l, e, h1⟩
theorem arg_tab {x : AV} (h : ArgOk Try.prog 26 x) : ∃ T, x = tabA T := by
  obtain ⟨cs, rfl, hl, hc⟩ := arg_agg (P := Try.prog) (t := 26) (tys := List.replicate 16 3) (by kernel_rfl) (by kernel_rfl) h
  have hn : ∀ i, i < 16 → ∃ n, cs.getD i default = .int n := fun i hi => by
    obtain ⟨n, e, _⟩ := c_int (by kernel_rfl) (hc i 3 (by rw [List.getElem?_replicate, if_pos hi]))
    exact ⟨n, e⟩
  have hl' : cs.length = 16 := by simpa using hl
  refine ⟨fun i => if h : i < 16 then (hn i h).choose else 0, ?_⟩
  congr 1
  have hT : ∀ i (h : i < 16), cs.getD i default = .int ((hn i h).choose) := fun i h => (hn i h).choose_spec
  refine List.ext_getElem? fun i => ?_
  rcases Nat.lt_or_ge i 16 with hi | hi
  · have e1 : cs[i]? = some (cs.getD i default) := by
      rw [List.getD_eq_getElem?_getD, List.getElem?_eq_getElem (by omega)]; rfl
    rw [e1, hT i hi]
    rcases (show i = 0 ∨ i = 1 ∨ i = 2 ∨ i = 3 ∨ i = 4 ∨ i = 5 ∨ i = 6 ∨ i = 7 ∨ i = 8 ∨ i = 9 ∨ i = 10 ∨ i = 11 ∨ i = 12 ∨ i = 13 ∨ i = 14 ∨ i = 15 by omega) with rfl | rfl | rfl | rfl | rfl | rfl | rfl | rfl | rfl | rfl | rfl | rfl | rfl | rfl | rfl | rfl <;> rfl
  · rw [List.getElem?_eq_none (by omega), List.getElem?_eq_none (by simp [tabL]; omega)]
end Go.Proofs.Ytlhhdonpoglfkaa
