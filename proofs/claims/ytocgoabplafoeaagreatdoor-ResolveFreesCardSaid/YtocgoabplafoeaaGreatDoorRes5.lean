/- resolve: the arguments of ResolveFrees. -/
import Derived.Test.YtocgoabplafoeaaGreatDoorRes4
import Derived.Test.YtocgoabplafoeaaGreatDoorArgs
import Derived.Test.YtocgoabplafoeaaGreatDoorSized
namespace Go.Proofs.YtocgoabplafoeaaGreatDoor
open Go.RowKit
set_option linter.unusedVariables false
set_option linter.unusedSimpArgs false
set_option maxRecDepth 100000
theorem of1 {α : Type} {l : List α} (h : l.length = 1) : ∃ a, l = [a] := by
  match l, h with
  | [a], _ => exact ⟨a, rfl⟩
theorem of2 {α : Type} {l : List α} (h : l.length = 2) : ∃ a b, l = [a, b] := by
  match l, h with
  | [a, b], _ => exact ⟨a, b, rfl⟩
theorem of6 {α : Type} {l : List α} (h : l.length = 6) : ∃ a b c d e f, l = [a, b, c, d, e, f] := by
  match l, h with
  | [a, b, c, d, e, f], _ => exact ⟨a, b, c, d, e, f, rfl⟩
theorem arg_tbs {x : AV} (h : ArgOk Tryz.prog 22 x) : ∃ l, x = tbs l ∧ l.length ≤ maxLen := by
  obtain ⟨l, e, h1, _⟩ := c_lst (P := Tryz.prog) (encA := encT) (Q := fun _ => True) (tys := [32]) (s := 1) (e := 32) (by kernel_rfl) (by kernel_rfl) (by kernel_rfl) (fun y hy hc => by
    obtain ⟨a, rfl⟩ := of1 hy
    obtain ⟨s1, e1, _, _⟩ := c_lst (P := Tryz.prog) (encA := encN) (Q := fun _ => True) (tys := [3, 3, 3, 3, 3, 3]) (s := 6) (e := 58) (by kernel_rfl) (by kernel_rfl) (by kernel_rfl) (fun y hy hc => by
      obtain ⟨a, b, c, d, e, f, rfl⟩ := of6 hy
      obtain ⟨s1, e1, _⟩ := c_int (by kernel_rfl) (hc 0 3 rfl)
      obtain ⟨s2, e2, _⟩ := c_int (by kernel_rfl) (hc 1 3 rfl)
      obtain ⟨s3, e3, _⟩ := c_int (by kernel_rfl) (hc 2 3 rfl)
      obtain ⟨s4, e4, _⟩ := c_int (by kernel_rfl) (hc 3 3 rfl)
      obtain ⟨s5, e5, _⟩ := c_int (by kernel_rfl) (hc 4 3 rfl)
      obtain ⟨s6, e6, _⟩ := c_int (by kernel_rfl) (hc 5 3 rfl)
      simp at e1 e2 e3 e4 e5 e6
      exact ⟨⟨s1, s2, s3, s4, s5, s6⟩, by rw [e1, e2, e3, e4, e5, e6]; rfl, trivial⟩) (hc 0 32 rfl)
    simp at e1
    exact ⟨s1, by rw [e1]; rfl, trivial⟩) (arg_cell (by kernel_rfl) h)
  exact ⟨l, e, h1⟩
theorem arg_intT {x : AV} (h : ArgOk Tryz.prog 3 x) : ∃ n, x = .int n ∧ I64 n := c_int (by kernel_rfl) (arg_cell (by kernel_rfl) h)
theorem arg_sp {x : AV} (h : ArgOk Tryz.prog 24 x) : ∃ q, x = sp q := by
  obtain ⟨cs, rfl, hl, hc⟩ := arg_agg (P := Tryz.prog) (t := 24) (tys := [3, 3]) (by kernel_rfl) (by kernel_rfl) h
  obtain ⟨a, b, rfl⟩ := of2 hl
  obtain ⟨s1, e1, _⟩ := c_int (by kernel_rfl) (hc 0 3 rfl)
  obtain ⟨s2, e2, _⟩ := c_int (by kernel_rfl) (hc 1 3 rfl)
  simp at e1 e2
  exact ⟨⟨s1, s2⟩, by rw [e1, e2]; rfl⟩
theorem resolveFrees_all (xs : List AV) (h1 : xs.length = 3) (h2 : ∀ i, i < 3 → ArgOk Tryz.prog ([22, 3, 24].getD i 0) (xs.getD i default))
    (h3 : ∀ i s L e, i < 3 → xs.getD i default = .sl s L → Tryz.prog.underlying ([22, 3, 24].getD i 0) = some (.slice e) → L.length * Tryz.prog.bytesOf e ≤ reachBytes) : Fn Tryz.prog 3 xs .sc (.bool true) := by
  obtain ⟨a, b, c, rfl⟩ := lst3 h1
  obtain ⟨l, e1, _⟩ := arg_tbs (h2 0 (by omega))
  obtain ⟨n, e2, _⟩ := arg_intT (h2 1 (by omega))
  obtain ⟨s, e3⟩ := arg_sp (h2 2 (by omega))
  simp at e1 e2 e3
  subst e1 e2 e3
  exact lfrees_fn l n s
end Go.Proofs.YtocgoabplafoeaaGreatDoor
