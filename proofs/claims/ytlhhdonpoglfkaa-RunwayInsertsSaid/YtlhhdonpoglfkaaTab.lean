/- Tables, as plain values. -/
import Derived.Test.YtlhhdonpoglfkaaWakeT
import Derived.Test.YtlhhdonpoglfkaaLst
namespace Go.Proofs.Ytlhhdonpoglfkaa
open Go.RowKit
set_option linter.unusedVariables false
set_option linter.unusedSimpArgs false
def tabL (T : Nat → Int) : List AV := [.int (T 0), .int (T 1), .int (T 2), .int (T 3), .int (T 4), .int (T 5), .int (T 6), .int (T 7), .int (T 8), .int (T 9), .int (T 10), .int (T 11), .int (T 12), .int (T 13), .int (T 14), .int (T 15)]
def tabA (T : Nat → Int) : AV := .agg (tabL T)
theorem tab_rv {w : World} {ok : Nat → Prop} {T : Nat → Int} {v : Value} (h : RV w ok (tabA T) v) : v = .agg (tab T) := by
  cases h with
  | agg _ vs h1 h2 h3 =>
    congr 1
    have h1' : vs.size = 16 := h1
    apply Array.ext_getElem?
    intro i
    rw [tab_get]
    split
    · rename_i hi
      have := h3 i hi
      have e : (tabL T).getD i default = .int (T i) := by
        rcases (show i = 0 ∨ i = 1 ∨ i = 2 ∨ i = 3 ∨ i = 4 ∨ i = 5 ∨ i = 6 ∨ i = 7 ∨ i = 8 ∨ i = 9 ∨ i = 10 ∨ i = 11 ∨ i = 12 ∨ i = 13 ∨ i = 14 ∨ i = 15 by omega) with rfl | rfl | rfl | rfl | rfl | rfl | rfl | rfl | rfl | rfl | rfl | rfl | rfl | rfl | rfl | rfl <;> rfl
      rw [e] at this
      have hv := RV.lit_iff.1 this
      rw [Array.getD_eq_getD_getElem?] at hv
      rw [Array.getElem?_eq_getElem (by omega)] at hv ⊢
      simpa using hv
    · exact Array.getElem?_eq_none (by omega)
theorem fn_tab {P : Program} {f : FuncId} (hent : Ent P f) {T : Nat → Int} {r : Int} (h : ∀ w, Calls P f #[.agg (tab T)] w (Ret (.int .i64 r) w)) : Fn P f [tabA T] .sc (.int r) := by
  refine ⟨hent, fun w ok cargs hok hsz hargs => ?_⟩
  have h0 := hargs 0 (by simp)
  have hc : cargs = #[.agg (tab T)] := by
    have hsz1 : cargs.size = 1 := by simpa using hsz
    obtain ⟨l⟩ := cargs
    match l, hsz1 with
    | [a], _ =>
      have : a = .agg (tab T) := tab_rv (by simpa using h0)
      rw [this]
  subst hc
  refine (h w).mono ?_
  rintro e w' hr
  have hsc : ∀ j i, isRow (leafSh j i .sc) = false := by
    intro j i
    simp only [leafSh, leafSh1]
    split
    · split <;> rfl
    · rfl
  exact ⟨_, hr.1, hr.below, .lit _, fun j i j' i' h1 => by rw [hsc] at h1; cases h1⟩
theorem wcheck_fn (T : Nat → Int) : Fn Try.prog 84 [tabA T] .sc (.int (tabErr T)) := fn_tab Try.call84 fun w => wcheck T w
theorem table_fn (T : Nat → Int) : Fn Try.prog 22 [tabA T] .sc (.int (tabErr T)) := fn_tab Try.call22 fun w => tableError_any T w
/-- A table's entry. -/
theorem tab_nth (T : Nat → Int) (k k' : IntKind) (a b : Int) (ha : 0 ≤ a ∧ a ≤ 3) (hb : 0 ≤ b ∧ b ≤ 3) (x : Nat → AV) (hx : ∀ j, j < 4 → x j = AV.nth (tabL T) j [(.lit (.int k a), 4)]) : AV.nth [x 0, x 1, x 2, x 3] 0 [(.lit (.int k' b), 1)] = .int (T (4 * a + b).toNat) := by
  rw [hx 0 (by omega), hx 1 (by omega), hx 2 (by omega), hx 3 (by omega)]
  have h1 : a = 0 ∨ a = 1 ∨ a = 2 ∨ a = 3 := by omega
  have h2 : b = 0 ∨ b = 1 ∨ b = 2 ∨ b = 3 := by omega
  rcases h1 with rfl | rfl | rfl | rfl <;> rcases h2 with rfl | rfl | rfl | rfl <;> rfl
end Go.Proofs.Ytlhhdonpoglfkaa
