/- slices.Delete at a row of the caller's own. -/
import Derived.Test.YtbeegkheobomaaaDoorVal
import Derived.Shelf.RegionOpenPlain
import Derived.WalkKit
import Derived.Deep.RegionLaw
import Derived.Deep.Upon
import Derived.Lib.Walk
import Derived.Lib.SliceRun
namespace Go.Proofs.YtbeegkheobomaaaDoor
open Go.RowKit Go.Lib
set_option linter.unusedVariables false
theorem del_list (cur news zs : List Value) (a b : Nat) (ha : a ≤ cur.length) (hb : news.length = b) :
    (((cur.take a ++ news ++ cur.drop (a + news.length)).take (a + b)) ++ zs ++ (cur.take a ++ news ++ cur.drop (a + news.length)).drop (a + b + zs.length)).take (a + b) = cur.take a ++ news := by
  have h1 : (cur.take a ++ news).length = a + b := by simp; omega
  have h2 : (cur.take a ++ news ++ cur.drop (a + news.length)).take (a + b) = cur.take a ++ news := List.take_left' h1
  rw [h2, List.append_assoc]
  exact List.take_left' h1
/-- What is left of a row. -/
theorem del_row {w w' : World} {B e s : Nat} {okc : Nat → Prop} {L : List (List AV)} {xs : List Value} {g cap : Nat} {cur' : Array Value} (i j : Nat) (hs : 0 < s) (hL : ∀ y ∈ L, y.length = s) (hxl : xs.length = L.length * s) (hone : ∀ u ∈ xs, u.oneCell' = true)
    (hv : ∀ p q, p < L.length → q < s → RV w okc (gt2 L p q) (xs.getD (p * s + q) undef)) (hij : i ≤ j) (hj : j ≤ L.length) (hB : B ≤ g) (hg : w'.heap[g]? = some (.cells cur' e (0, 0))) (hm : cap ≤ maxLen) (hcs : cur'.size = cap * s) (hnc : L.length ≤ cap)
    (htk : cur'.toList.take ((i + (L.length - j)) * s) = xs.take (i * s) ++ xs.drop (j * s)) (hk : ∀ b, okc b → b < w.heap.size → w'.heap[b]? = w.heap[b]?) :
    RRow w' B e s okc (.sl s (L.take i ++ L.drop j)) (.slice (some ⟨g, 0, none⟩) (i + (L.length - j)) cap) := by
  have hn : (L.take i ++ L.drop j).length = i + (L.length - j) := by simp; omega
  have hmul : ∀ a b : Nat, a ≤ b → a * s ≤ b * s := fun a b h => Nat.mul_le_mul_right s h
  have hjs := hmul j L.length hj
  have his := hmul i L.length (Nat.le_trans hij hj)
  refine ⟨_, xs.take (i * s) ++ xs.drop (j * s), rfl, hs, fun y hy => ?_, ⟨?_, .inr ⟨g, cap, cur', by rw [hn], hB, hg, by omega, hm, hcs, by rw [hn]; exact htk⟩⟩, fun u hu => ?_, fun p q hp hq => ?_⟩
  · rcases List.mem_append.1 hy with h | h
    · exact hL y (List.mem_of_mem_take h)
    · exact hL y (List.mem_of_mem_drop h)
  · simp only [List.length_append, List.length_take, List.length_drop, hxl, Nat.add_mul, Nat.sub_mul]
    rw [Nat.min_eq_left his, Nat.min_eq_left (by omega)]
  · rcases List.mem_append.1 hu with h | h
    · exact hone u (List.mem_of_mem_take h)
    · exact hone u (List.mem_of_mem_drop h)
  · rw [hn] at hp
    by_cases hpi : p < i
    · have := hv p q (by omega) hq
      have e1 : gt2 (L.take i ++ L.drop j) p q = gt2 L p q := by
        unfold gt2
        congr 1
        rw [List.getD_eq_getElem?_getD, List.getD_eq_getElem?_getD, List.getElem?_append_left (by simp; omega), List.getElem?_take_of_lt hpi]
      have hlt : p * s + q < i * s := by have := hmul (p + 1) i hpi; rw [Nat.add_mul] at this; omega
      have e2 : (xs.take (i * s) ++ xs.drop (j * s)).getD (p * s + q) undef = xs.getD (p * s + q) undef := by
        rw [List.getD_eq_getElem?_getD, List.getD_eq_getElem?_getD, List.getElem?_append_left (by simp; omega), List.getElem?_take_of_lt hlt]
      rw [e1, e2]
      exact this.mono fun b hb hlt => ⟨hb, hk b hb hlt⟩
    · have := hv (j + (p - i)) q (by omega) hq
      have e1 : gt2 (L.take i ++ L.drop j) p q = gt2 L (j + (p - i)) q := by
        unfold gt2
        congr 1
        rw [List.getD_eq_getElem?_getD, List.getD_eq_getElem?_getD, List.getElem?_append_right (by simp; omega), List.getElem?_drop]
        congr 3
        simp; omega
      have hge : i * s ≤ p * s := hmul i p (by omega)
      have e2 : (xs.take (i * s) ++ xs.drop (j * s)).getD (p * s + q) undef = xs.getD ((j + (p - i)) * s + q) undef := by
        rw [List.getD_eq_getElem?_getD, List.getD_eq_getElem?_getD, List.getElem?_append_right (by simp; omega), List.getElem?_drop]
        have : j * s + (p * s + q - (xs.take (i * s)).length) = (j + (p - i)) * s + q := by
          simp only [List.length_take, hxl, Nat.add_mul, Nat.sub_mul]
          rw [Nat.min_eq_left his]
          omega
        rw [this]
      rw [e1, e2]
      exact this.mono fun b hb hlt => ⟨hb, hk b hb hlt⟩
end Go.Proofs.YtbeegkheobomaaaDoor
