/- Slices that are read: element i's cell j holds 'f i j'. -/
import Derived.Test.YtlhhdonpoglfkaaKit
import Derived.Deep.LoopGhost
import Derived.Laws.Rows
namespace Go.Proofs.Ytlhhdonpoglfkaa
open Go.ChangeShapes Go.WideShapes Go.ChangeAt Go.RowKit

/-- The slice at A, of n elements of s cells each, holds 'f i j' in cell j of element i. -/
def Sl (w : World) (A : Option Addr) (n s : Nat) (f : Nat → Nat → Value) : Prop :=
  0 < n → ∃ b off, A = some ⟨b, off, none⟩ ∧ b < w.heap.size ∧ ∀ i j, i < n → j < s → w.cell? ⟨b, off + i * s + j, none⟩ = some (f i j)

section
variable {w w' : World} {A : Option Addr} {n s : Nat} {f : Nat → Nat → Value}
theorem Sl.below (h : Sl w A n s f) (hb : Below w.heap.size w w') : Sl w' A n s f := fun hn => by
  obtain ⟨b, off, e, hlt, hc⟩ := h hn
  have := hb.size
  exact ⟨b, off, e, by omega, fun i j hi hj => (hb.cell (p := ⟨b, off + i * s + j, none⟩) hlt).trans (hc i j hi hj)⟩
theorem Sl.xt (h : Sl w A n s f) (z : More) : Sl (xt w z) A n s f := h.below (xt_below w z)
theorem Sl.alloc (h : Sl w A n s f) (o : Obj) : Sl (w.alloc o) A n s f := h.below ((Below.refl _ _).alloc (Nat.le_refl _) _)
theorem Sl.drew (h : Sl w A n s f) : Sl w.drew A n s f := h
theorem Sl.none_ : Sl w A 0 s f := fun h => absurd h (by omega)
theorem Sl.congr {g : Nat → Nat → Value} (h : Sl w A n s f) (hg : ∀ i j, i < n → j < s → f i j = g i j) : Sl w A n s g := fun hn => by
  obtain ⟨b, off, e, hlt, hc⟩ := h hn
  exact ⟨b, off, e, hlt, fun i j hi hj => (hc i j hi hj).trans (by rw [hg i j hi hj])⟩
/-- A slice over a block that has just been laid. -/
theorem Sl.lit (w : World) (cs : Array Value) (t : TypeId) (h : ∀ i j, i < n → j < s → cs[i * s + j]? = some (f i j)) : Sl (w.alloc (.cells cs t)) (some ⟨w.heap.size, 0, none⟩) n s f := fun _ =>
  ⟨w.heap.size, 0, rfl, by simp, fun i j hi hj => (World.cell?_alloc_at cs t w.heap.size _ rfl).trans (by rw [← h i j hi hj]; congr 1; omega)⟩
/-- A slice of a slice: s[k:m]. -/
theorem Sl.sub {k m cap : Nat} (h : Sl w A n s f) (hkm : k ≤ m) (hmn : m ≤ n) (hcap : n ≤ cap) : Sl w (if cap = k then A else A.map (·.add (k * s))) (m - k) s (fun i j => f (k + i) j) := fun hn => by
  obtain ⟨b, off, rfl, hlt, hc⟩ := h (by omega)
  rw [if_neg (by omega)]
  refine ⟨b, off + k * s, ?_, hlt, fun i j hi hj => ?_⟩
  · simp only [Option.map_some, Addr.add]
    by_cases h0 : k * s = 0
    · simp [h0]
    · simp; exact h0
  · have := hc (k + i) j (by omega) hj
    rw [← this]
    congr 2
    rw [Nat.add_mul]; omega
end

/-- A slice of ints. -/
abbrev SlI (w : World) (A : Option Addr) (n : Nat) (l : List Int) : Prop := Sl w A n 1 (fun i _ => .int .i64 (l.getD i 0))
theorem SlI.at {w : World} {A : Option Addr} {n : Nat} {l : List Int} (h : SlI w A n l) {k : Nat} (hk : k < n) :
    ∃ b off, A = some ⟨b, off, none⟩ ∧ b < w.heap.size ∧ ∀ i, i < n → w.cell? ⟨b, off + i, none⟩ = some (.int .i64 (l[i]?.getD 0)) := by
  obtain ⟨b, off, e, hlt, hc⟩ := h (by omega)
  exact ⟨b, off, e, hlt, fun i hi => by have := hc i 0 hi (by omega); simpa using this⟩

/-- An argument that is a slice of ints. -/
theorem open_ints_arg {H : Type} {enc : TypeId × Value → H} {P : Program} {W : World} {base t e : Nat} {v : Value} {d : DataW H} {p : List MemPlace}
    (ht : P.underlying t = some (.slice e)) (he : P.underlying e = some (.int .i64)) (hce : P.cellsOf e = 1)
    (hv : Value.okWide P W .any base t v) (h : DataW.Trod enc P W 0 (fun _ => true) true t v d p) :
    ∃ (A : Option Addr) (n c : Nat) (l : List Int), v = .slice A n c ∧ l.length = n ∧ n ≤ c ∧ c ≤ maxLen ∧ (∀ x ∈ l, (Lit.int .i64 x).wf = true) ∧ SlI W A n l := by
  obtain ⟨A, n, c, rfl⟩ := okWide_slice ht hv
  obtain ⟨fuel, hf⟩ := h
  have hlt := DataW.trod_lt fuel _ _ _ hf
  rcases open_ints ht he hce hf with ⟨hcs, _⟩ | ⟨x, len', cap', zs, hcs, _, hl, hm, hz, hx, hcell, hwz⟩
  · simp [Value.cells] at hcs
    obtain ⟨rfl, rfl, rfl⟩ := hcs
    exact ⟨none, 0, 0, [], rfl, rfl, Nat.le_refl _, by unfold maxLen; omega, by simp, Sl.none_⟩
  · simp [Value.cells] at hcs
    obtain ⟨rfl, rfl, rfl⟩ := hcs
    refine ⟨some x, n, c, zs.take n, rfl, by simp at hz; simp; omega, hl, hm, fun y hy => hwz y (List.mem_of_mem_take hy), fun hn => ?_⟩
    have hzl : zs.length = c := by simpa using hz
    obtain ⟨b, off, spot⟩ := x
    have h0 := hcell 0 (by omega)
    have hspot : spot = none := by simpa [Addr.add] using World.cell?_spot h0
    subst hspot
    have hcell' : ∀ i, i < c → W.cell? ⟨b, off + i, none⟩ = some (.int .i64 (zs.getD i 0)) := fun i hi => by
      have := hcell i (by omega)
      by_cases hi0 : i = 0
      · subst hi0; simpa [Addr.add] using this
      · simpa [Addr.add, hi0] using this
    have hblt : b < W.heap.size := by
      rcases Nat.lt_or_ge b W.heap.size with hb | hb
      · exact hb
      · have := hcell' 0 (by omega)
        simp [World.cell?, Array.getElem?_eq_none hb] at this
    refine ⟨b, off, rfl, hblt, fun i j hi hj => ?_⟩
    obtain rfl : j = 0 := by omega
    have := hcell' i (by omega)
    simp only [Nat.mul_one, Nat.add_zero, this]
    congr 2
    simp only [List.getD_eq_getElem?_getD, List.getElem?_take]
    rw [if_pos hi]
end Go.Proofs.Ytlhhdonpoglfkaa
