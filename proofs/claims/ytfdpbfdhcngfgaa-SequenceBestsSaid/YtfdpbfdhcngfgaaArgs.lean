/- Arguments of plain types, opened. -/
import Derived.Test.YtfdpbfdhcngfgaaOpen
import Derived.Test.YtfdpbfdhcngfgaaLst
namespace Go.Proofs.Ytfdpbfdhcngfgaa
open Go.RowKit
set_option linter.unusedVariables false
def I64 (n : Int) : Prop := -9223372036854775808 ≤ n ∧ n ≤ 9223372036854775807
theorem i64_of {n : Int} (h : (Lit.int .i64 n).wf = true) : I64 n := by
  have h' : (IntKind.i64.min ≤ n && n ≤ IntKind.i64.max) = true := h
  simp only [Bool.and_eq_true, decide_eq_true_eq] at h'
  have e1 : IntKind.i64.min = -9223372036854775808 := by decide
  have e2 : IntKind.i64.max = 9223372036854775807 := by decide
  rw [e1, e2] at h'
  exact h'
section
variable {P : Program} {u e : TypeId} {x : AV} {d : Nat}
theorem c_int (hu : P.underlying u = some (.int .i64)) (h : CellOk P (d + 1) u x) : ∃ n, x = .int n ∧ I64 n := by
  obtain ⟨n, e, hw⟩ := cell_int hu h
  exact ⟨n, e, i64_of hw⟩
theorem c_str (hu : P.underlying u = some .string) (h : CellOk P (d + 1) u x) : ∃ s : ByteArray, x = .string s ∧ s.size ≤ maxLen := cell_str hu h
theorem c_bool (hu : P.underlying u = some .bool) (h : CellOk P (d + 1) u x) : ∃ b, x = .bool b := cell_bool hu h
/-- A slice whose elements are read by 'encA'. -/
theorem c_lst {α : Type} {encA : α → List AV} {Q : α → Prop} {tys : List TypeId} {s : Nat} (hu : P.underlying u = some (.slice e)) (ht : flatTy P 8 e = some tys) (hs : P.cellsOf e = s)
    (hd : ∀ y : List AV, y.length = tys.length → (∀ i u', tys[i]? = some u' → CellOk P d u' (y.getD i default)) → ∃ a, y = encA a ∧ Q a) (h : CellOk P (d + 1) u x) : ∃ l : List α, x = lst s encA l ∧ l.length ≤ maxLen ∧ ∀ a ∈ l, Q a := by
  obtain ⟨L, e1, h1, h2⟩ := cell_sl hu ht hs h
  obtain ⟨l, e2, h3⟩ := list_dec (L := L) (encA := encA) (Q := Q) fun y hy => hd y (h2 y hy).1 (h2 y hy).2
  subst e2
  exact ⟨l, e1, by simpa using h1, h3⟩
end
end Go.Proofs.Ytfdpbfdhcngfgaa
