/- slices.Delete at a row of the caller's own. -/
import Derived.Test.YtalfopommofdfaaVal
import Derived.Shelf.RegionOpenPlain
import Derived.WalkKit
import Derived.Deep.RegionLaw
import Derived.Deep.Upon
import Derived.Lib.Walk
import Derived.Lib.SliceRun
namespace Go.Proofs.Ytalfopommofdfaa
open Go.RowKit Go.Lib
set_option linter.unusedVariables false
/-! ### a block, written in part -/
def setR (cur : Array Value) : Nat → List Value → Array Value
  | _, [] => cur
  | o, v :: r => setR (cur.setIfInBounds o v) (o + 1) r
theorem setR_size : ∀ (vs : List Value) (cur : Array Value) (o : Nat), (setR cur o vs).size = cur.size
  | [], _, _ => rfl
  | v :: r, cur, o => by rw [setR, setR_size r]; simp
theorem setR_list : ∀ (vs : List Value) (cur : Array Value) (o : Nat), o + vs.length ≤ cur.size → (setR cur o vs).toList = cur.toList.take o ++ vs ++ cur.toList.drop (o + vs.length)
  | [], cur, o, _ => by simp [setR]
  | v :: r, cur, o, h => by
    simp only [List.length_cons] at h
    rw [setR, setR_list r _ _ (by simp; omega)]
    have hl : (cur.toList.take o).length = o := by simp; omega
    have e : (cur.setIfInBounds o v).toList = cur.toList.take o ++ v :: cur.toList.drop (o + 1) := by
      rw [Array.toList_setIfInBounds, List.set_eq_take_append_cons_drop, if_pos (by simp; omega)]
    have e1 : (cur.setIfInBounds o v).toList.take (o + 1) = cur.toList.take o ++ [v] := by
      rw [e, List.take_append, hl, List.take_of_length_le (by omega), show o + 1 - o = 1 by omega]; rfl
    have e2 : (cur.setIfInBounds o v).toList.drop (o + 1 + r.length) = cur.toList.drop (o + (v :: r).length) := by
      rw [e, List.drop_append, hl, List.drop_of_length_le (by omega), show o + 1 + r.length - o = r.length + 1 by omega, List.drop_succ_cons, List.drop_drop, List.nil_append, List.length_cons]
      congr 1; omega
    rw [e1, e2]; simp
theorem setCells_blk {g : Nat} {e : TypeId} : ∀ (vs : List Value) (o : Nat) (w : World) (cur : Array Value), w.heap[g]? = some (.cells cur e (0, 0)) → (w.setCells g o vs).heap[g]? = some (.cells (setR cur o vs) e (0, 0))
  | [], _, _, _, h => h
  | v :: r, o, w, cur, h => by
    rw [World.setCells, setR]
    exact setCells_blk r (o + 1) _ _ (heap_setCell_same w g o cur e v h)
theorem setCells_size (g : Nat) : ∀ (vs : List Value) (o : Nat) (w : World), (w.setCells g o vs).heap.size = w.heap.size
  | [], _, _ => rfl
  | v :: r, o, w => by rw [World.setCells, setCells_size g r]; simp [World.setCell]
theorem setCells_drawn (g : Nat) : ∀ (vs : List Value) (o : Nat) (w : World), (w.setCells g o vs).drawn = w.drawn
  | [], _, _ => rfl
  | v :: r, o, w => by rw [World.setCells, setCells_drawn g r]; rfl
theorem grown_setCells (w : World) (g o : Nat) (vs : List Value) : w.grownBy (w.setCells g o vs) (some g) := by
  refine ⟨World.os_setCells w g o vs, ?_, World.output_setCells w g o vs, Nat.le_of_eq (setCells_size g vs o w).symm, fun k hk hne => World.heap_setCells_other w g o vs hk (fun e => hne (by rw [e]))⟩
  induction vs generalizing o w with
  | nil => rfl
  | cons v r ih => rw [World.setCells, ih]; rfl
theorem grownBy_trans {a b c : World} {r : Option Nat} (h : a.grownBy b r) (h' : b.grownBy c r) : a.grownBy c r :=
  ⟨h'.os.trans h.os, h'.tape.trans h.tape, h'.output.trans h.output, Nat.le_trans h.size h'.size, fun k hk hne => (h'.block k (Nat.lt_of_lt_of_le hk h.size) hne).trans (h.block k hk hne)⟩
theorem grownBy_drew (a : World) (r : Option Nat) : a.grownBy a.drew r := ⟨rfl, rfl, rfl, Nat.le_refl _, fun _ _ _ => rfl⟩
theorem grownBy_refl (a : World) (r : Option Nat) : a.grownBy a r := ⟨rfl, rfl, rfl, Nat.le_refl _, fun _ _ _ => rfl⟩
/-- 'clear' of part of a block. -/
theorem run_clear {P : Program} (w : World) (t e ty : TypeId) (z : Value) (ht : P.underlying t = some (.slice e)) (hv : ∀ w, (zeroValue e).run P w = .ok z w) (hz : 0 < z.cells.size) (h1 : ∀ v ∈ z.cells, v.oneCell' = true) (b o n c : Nat) (hn : 0 < n)
    (hc : ∀ j, j < n * z.cells.size → (w.cell? ⟨b, o + j, none⟩).isSome = true) (hf : ∀ j, j < n * z.cells.size → w.frozen? ⟨b, o + j, none⟩ = false) :
    (Builtin.clear_ #[t] ty #[.slice (some ⟨b, o, none⟩) n c]).run P w = .ok (.tuple #[]) (w.setCells b o (Builtin.zeroCells z.cells n).toList) := by
  have hl : (Builtin.zeroCells z.cells n).toList.length = n * z.cells.size := by simp [Builtin.zeroCells]
  have hst := run_storeCells_cells (P := P) b o (Builtin.zeroCells z.cells n).toList 0 w (by rw [hl]; simpa using hc) (by rw [hl]; simpa using hf) (by
    intro v hv'
    simp only [Builtin.zeroCells, Array.toList_map, List.mem_map] at hv'
    obtain ⟨i, _, rfl⟩ := hv'
    have hi : i % z.cells.size < z.cells.size := Nat.mod_lt _ hz
    rw [getElem!_pos z.cells _ hi]
    exact h1 _ (Array.getElem_mem hi))
  simp only [Nat.add_zero] at hst
  obtain ⟨m, rfl⟩ : ∃ m, n = m + 1 := ⟨n - 1, by omega⟩
  simp [Builtin.clear_, run_underlying ht, hv, hst]
theorem del_list (cur news zs : List Value) (a b : Nat) (ha : a ≤ cur.length) (hb : news.length = b) :
    (((cur.take a ++ news ++ cur.drop (a + news.length)).take (a + b)) ++ zs ++ (cur.take a ++ news ++ cur.drop (a + news.length)).drop (a + b + zs.length)).take (a + b) = cur.take a ++ news := by
  have h1 : (cur.take a ++ news).length = a + b := by simp; omega
  have h2 : (cur.take a ++ news ++ cur.drop (a + news.length)).take (a + b) = cur.take a ++ news := List.take_left' h1
  rw [h2, List.append_assoc]
  exact List.take_left' h1
/-- What is left of a row. -/
theorem del_row {w w' : World} {B e s : Nat} {okc : Nat → Prop} {L : List (List AV)} {xs : List Value} {g cap : Nat} {cur' : Array Value} (i j : Nat) (hs : 0 < s) (hL : ∀ y ∈ L, y.length = s) (hxl : xs.length = L.length * s) (hone : ∀ u ∈ xs, u.oneCell' = true)
    (hv : ∀ p q, p < L.length → q < s → RV w okc (gt2 L p q) (xs.getD (p * s + q) undef)) (hij : i ≤ j) (hj : j ≤ L.length) (hB : B ≤ g) (hg : w'.heap[g]? = some (.cells cur' e (0, 0))) (hm : cap ≤ maxLen) (hcs : cur'.size = cap * s) (hnc : L.length ≤ cap)
    (htk : cur'.toList.take ((i + (L.length - j)) * s) = xs.take (i * s) ++ xs.drop (j * s)) (hk : ∀ b, okc b → b < w.heap.size → w'.heap[b]? = w.heap[b]?) :
    RRow w' B e s okc (.sl s (L.take i ++ L.drop j)) (.slice (some ⟨g, 0, none⟩) (i + (L.length - j)) cap) := by
  have hn : (L.take i ++ L.drop j).length = i + (L.length - j) := by simp; omega
  have hmul : ∀ a b : Nat, a ≤ b → a * s ≤ b * s := fun a b h => Nat.mul_le_mul_right s h
  have hjs := hmul j L.length hj
  have his := hmul i L.length (Nat.le_trans hij hj)
  refine ⟨_, xs.take (i * s) ++ xs.drop (j * s), rfl, hs, fun y hy => ?_, ⟨?_, .inr ⟨g, cap, cur', by rw [hn], hB, hg, by omega, hm, hcs, by rw [hn]; exact htk⟩⟩, fun u hu => ?_, fun p q hp hq => ?_⟩
  · rcases List.mem_append.1 hy with h | h
    · exact hL y (List.mem_of_mem_take h)
    · exact hL y (List.mem_of_mem_drop h)
  · simp only [List.length_append, List.length_take, List.length_drop, hxl, Nat.add_mul, Nat.sub_mul]
    rw [Nat.min_eq_left his, Nat.min_eq_left (by omega)]
  · rcases List.mem_append.1 hu with h | h
    · exact hone u (List.mem_of_mem_take h)
    · exact hone u (List.mem_of_mem_drop h)
  · rw [hn] at hp
    by_cases hpi : p < i
    · have := hv p q (by omega) hq
      have e1 : gt2 (L.take i ++ L.drop j) p q = gt2 L p q := by
        unfold gt2
        congr 1
        rw [List.getD_eq_getElem?_getD, List.getD_eq_getElem?_getD, List.getElem?_append_left (by simp; omega), List.getElem?_take_of_lt hpi]
      have hlt : p * s + q < i * s := by have := hmul (p + 1) i hpi; rw [Nat.add_mul] at this; omega
      have e2 : (xs.take (i * s) ++ xs.drop (j * s)).getD (p * s + q) undef = xs.getD (p * s + q) undef := by
        rw [List.getD_eq_getElem?_getD, List.getD_eq_getElem?_getD, List.getElem?_append_left (by simp; omega), List.getElem?_take_of_lt hlt]
      rw [e1, e2]
      exact this.mono fun b hb hlt => ⟨hb, hk b hb hlt⟩
    · have := hv (j + (p - i)) q (by omega) hq
      have e1 : gt2 (L.take i ++ L.drop j) p q = gt2 L (j + (p - i)) q := by
        unfold gt2
        congr 1
        rw [List.getD_eq_getElem?_getD, List.getD_eq_getElem?_getD, List.getElem?_append_right (by simp; omega), List.getElem?_drop]
        congr 3
        simp; omega
      have hge : i * s ≤ p * s := hmul i p (by omega)
      have e2 : (xs.take (i * s) ++ xs.drop (j * s)).getD (p * s + q) undef = xs.getD ((j + (p - i)) * s + q) undef := by
        rw [List.getD_eq_getElem?_getD, List.getD_eq_getElem?_getD, List.getElem?_append_right (by simp; omega), List.getElem?_drop]
        have : j * s + (p * s + q - (xs.take (i * s)).length) = (j + (p - i)) * s + q := by
          simp only [List.length_take, hxl, Nat.add_mul, Nat.sub_mul]
          rw [Nat.min_eq_left his]
          omega
        rw [this]
      rw [e1, e2]
      exact this.mono fun b hb hlt => ⟨hb, hk b hb hlt⟩
end Go.Proofs.Ytalfopommofdfaa
