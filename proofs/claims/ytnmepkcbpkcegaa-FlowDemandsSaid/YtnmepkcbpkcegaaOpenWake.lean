/- Arguments that are tables of wake turbulence, and slices of ints. -/
import Derived.Test.YtnmepkcbpkcegaaWake
import Derived.Test.YtnmepkcbpkcegaaSl
namespace Go.Proofs.Ytnmepkcbpkcegaa
open Go.ChangeShapes Go.WideShapes Go.ChangeAt Go.RowKit

theorem cellsI : Try.prog.cellsOf 3 = 1 := by kernel_rfl
theorem cells4 : Try.prog.cellsOf 42 = 4 := by kernel_rfl
theorem cells16 : Try.prog.cellsOf 44 = 16 := by kernel_rfl

theorem okWide_array {P : Program} {w : World} {r : Reach} {base t n e : Nat} {v : Value} (ht : P.underlying t = some (.array n e)) (h : Value.okWide P w r base t v) : ∃ cs, v = .agg cs ∧ cs.size = P.cellsOf t := by
  simp only [Value.okWide, ht] at h
  obtain ⟨cs, h1, h2, _⟩ := h
  exact ⟨cs, h1, h2⟩

set_option maxRecDepth 100000 in
theorem open_wake {H : Type} {enc : TypeId × Value → H} {W : World} {base : Nat} {v : Value} {d : DataW H} {p : List MemPlace}
    (hv : Value.okWide Try.prog W .any base 44 v) (h : DataW.Trod enc Try.prog W 0 (fun _ => true) true 44 v d p) : ∃ T : Nat → Int, v = .agg (tab T) := by
  obtain ⟨cs, rfl, hsz⟩ := okWide_array Try.underlying44 hv
  rw [cells16] at hsz
  obtain ⟨fuel, hf⟩ := h
  obtain ⟨xs, m, _, _, _, _, hi⟩ := DataW.trod_array Try.underlying44 hf
  have key : ∀ i j, i < 4 → j < 4 → ∃ x : Int, cs[i * 4 + j]? = some (.int .i64 x) := by
    intro i j hi4 hj4
    have h1 := hi i hi4
    rw [cells4] at h1
    have hx : xs[i]? ≠ none := by
      intro hn
      rw [hn] at h1
      have hl : xs.length = 4 := by assumption
      rw [List.getElem?_eq_getElem (by omega)] at hn
      cases hn
    obtain ⟨y, hy⟩ := Option.ne_none_iff_exists'.1 hx
    rw [hy] at h1
    obtain ⟨ys, m2, _, _, _, hl2, hj⟩ := DataW.trod_array Try.underlying42 h1
    have h2 := hj j hj4
    rw [cellsI] at h2
    have hlen : i * 4 + j < cs.size := by omega
    have hcs : (List.take 1 (List.drop (j * 1) (List.take 4 (List.drop (i * 4) (Value.agg cs).cells.toList)))) = [cs[i * 4 + j]] := by
      apply List.ext_getElem?
      intro k
      simp only [Value.cells, List.getElem?_take, List.getElem?_drop, Nat.mul_one]
      by_cases hk : k = 0
      · subst hk; simp [hj4, Array.getElem?_eq_getElem hlen]
      · rw [if_neg (by omega)]
        rw [List.getElem?_eq_none (by simp; omega)]
    rw [hcs, List.getElem?_eq_getElem (by omega)] at h2
    obtain ⟨x, e0, _⟩ := DataW.trod_int Try.underlying3 h2
    simp only [List.cons.injEq, and_true] at e0
    exact ⟨x, by rw [Array.getElem?_eq_getElem hlen, e0]⟩
  refine ⟨fun n => match cs[n]? with | some (.int _ x) => x | _ => 0, ?_⟩
  congr 1
  apply Array.ext_getElem?
  intro n
  rw [tab_get]
  by_cases hn : n < 16
  · rw [if_pos hn]
    obtain ⟨x, hx⟩ := key (n / 4) (n % 4) (by omega) (by omega)
    rw [show n / 4 * 4 + n % 4 = n by omega] at hx
    simp only [hx]
  · rw [if_neg hn]; exact Array.getElem?_eq_none (by omega)

set_option maxRecDepth 100000 in
theorem open_intl {H : Type} {enc : TypeId × Value → H} {W : World} {base : Nat} {v : Value} {d : DataW H} {p : List MemPlace}
    (hv : Value.okWide Try.prog W .any base 45 v) (h : DataW.Trod enc Try.prog W 0 (fun _ => true) true 45 v d p) :
    ∃ (A : Option Addr) (n c : Nat) (l : List Int), v = .slice A n c ∧ l.length = n ∧ n ≤ c ∧ c ≤ maxLen ∧ (∀ x ∈ l, (Lit.int .i64 x).wf = true) ∧ SlI W A n l :=
  open_ints_arg Try.underlying45 Try.underlying3 cellsI hv h
end Go.Proofs.Ytnmepkcbpkcegaa
