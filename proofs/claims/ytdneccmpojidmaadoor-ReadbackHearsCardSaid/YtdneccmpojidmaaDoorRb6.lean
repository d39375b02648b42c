/- readback's laws: their arguments. -/
import Derived.Test.YtdneccmpojidmaaDoorRb5
import Derived.Test.YtdneccmpojidmaaDoorSized
namespace Go.Proofs.YtdneccmpojidmaaDoor
open Go.RowKit
set_option linter.unusedVariables false
set_option linter.unusedSimpArgs false
set_option maxRecDepth 100000
theorem arg_cl {x : AV} (h : ArgOk Tryd.prog 23 x) : ∃ c, x = cl c := by
  obtain ⟨cs, e, hl, hc⟩ := arg_agg (P := Tryd.prog) (t := 23) (tys := [9, 3, 3, 9]) (by kernel_rfl) (by kernel_rfl) h
  obtain ⟨a, b, c, d, rfl⟩ := lst4 hl
  obtain ⟨s1, e1, _⟩ := c_str (by kernel_rfl) (hc 0 9 rfl)
  obtain ⟨s2, e2, _⟩ := c_int (by kernel_rfl) (hc 1 3 rfl)
  obtain ⟨s3, e3, _⟩ := c_int (by kernel_rfl) (hc 2 3 rfl)
  obtain ⟨s4, e4, _⟩ := c_str (by kernel_rfl) (hc 3 9 rfl)
  simp at e1 e2 e3 e4
  exact ⟨⟨s1, s2, s3, s4⟩, by rw [e, e1, e2, e3, e4]; rfl⟩
theorem readbackDiffers_all (xs : List AV) (h1 : xs.length = 2) (h2 : ∀ i, i < 2 → ArgOk Tryd.prog ([23, 23].getD i 0) (xs.getD i default))
    (h3 : ∀ i s L e, i < 2 → xs.getD i default = .sl s L → Tryd.prog.underlying ([23, 23].getD i 0) = some (.slice e) → L.length * Tryd.prog.bytesOf e ≤ reachBytes) : Fn Tryd.prog 3 xs .sc (.bool true) := by
  obtain ⟨a, b, rfl⟩ := lst2 h1
  obtain ⟨c, e1⟩ := arg_cl (h2 0 (by omega))
  obtain ⟨r, e2⟩ := arg_cl (h2 1 (by omega))
  simp at e1 e2
  subst e1 e2
  exact tdiffers_fn c r
theorem readbackSays_all (xs : List AV) (h1 : xs.length = 3) (h2 : ∀ i, i < 3 → ArgOk Tryd.prog ([31, 23, 3].getD i 0) (xs.getD i default))
    (h3 : ∀ i s L e, i < 3 → xs.getD i default = .sl s L → Tryd.prog.underlying ([31, 23, 3].getD i 0) = some (.slice e) → L.length * Tryd.prog.bytesOf e ≤ reachBytes) : Fn Tryd.prog 4 xs .sc (.bool true) := by
  obtain ⟨a, b, c, rfl⟩ := lst3 h1
  obtain ⟨l, e1, _⟩ := arg_ros (h2 0 (by omega))
  obtain ⟨r, e2⟩ := arg_cl (h2 1 (by omega))
  obtain ⟨t, e3, _⟩ := arg_intT (h2 2 (by omega))
  have b1 : Tryd.prog.bytesOf 40 = 56 := by kernel_rfl
  have q1 := h3 0 5 (l.map encR) 40 (by omega) e1 (by kernel_rfl)
  rw [b1, List.length_map] at q1
  unfold reachBytes at q1
  simp at e1 e2 e3
  subst e1 e2 e3
  exact tsays_fn l r t (by omega)
theorem readbackHears_all (xs : List AV) (h1 : xs.length = 3) (h2 : ∀ i, i < 3 → ArgOk Tryd.prog ([31, 23, 3].getD i 0) (xs.getD i default))
    (h3 : ∀ i s L e, i < 3 → xs.getD i default = .sl s L → Tryd.prog.underlying ([31, 23, 3].getD i 0) = some (.slice e) → L.length * Tryd.prog.bytesOf e ≤ reachBytes) : Fn Tryd.prog 5 xs .sc (.bool true) := by
  obtain ⟨a, b, c, rfl⟩ := lst3 h1
  obtain ⟨l, e1, _⟩ := arg_ros (h2 0 (by omega))
  obtain ⟨r, e2⟩ := arg_cl (h2 1 (by omega))
  obtain ⟨t, e3, _⟩ := arg_intT (h2 2 (by omega))
  have b1 : Tryd.prog.bytesOf 40 = 56 := by kernel_rfl
  have q1 := h3 0 5 (l.map encR) 40 (by omega) e1 (by kernel_rfl)
  rw [b1, List.length_map] at q1
  unfold reachBytes at q1
  simp at e1 e2 e3
  subst e1 e2 e3
  exact thears_fn l r t (by omega)
theorem readbackLapses_all (xs : List AV) (h1 : xs.length = 3) (h2 : ∀ i, i < 3 → ArgOk Tryd.prog ([31, 3, 9].getD i 0) (xs.getD i default))
    (h3 : ∀ i s L e, i < 3 → xs.getD i default = .sl s L → Tryd.prog.underlying ([31, 3, 9].getD i 0) = some (.slice e) → L.length * Tryd.prog.bytesOf e ≤ reachBytes) : Fn Tryd.prog 6 xs .sc (.bool true) := by
  obtain ⟨a, b, c, rfl⟩ := lst3 h1
  obtain ⟨l, e1, _⟩ := arg_ros (h2 0 (by omega))
  obtain ⟨t, e2, _⟩ := arg_intT (h2 1 (by omega))
  obtain ⟨s, e3, _⟩ := arg_strT (h2 2 (by omega))
  simp at e1 e2 e3
  subst e1 e2 e3
  exact tlapses_fn l t s
end Go.Proofs.YtdneccmpojidmaaDoor
