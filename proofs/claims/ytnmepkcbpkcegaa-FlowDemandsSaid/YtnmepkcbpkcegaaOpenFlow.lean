/- Arguments that are slices of capacities. -/
import Derived.Test.YtnmepkcbpkcegaaFlowLib
import Derived.Deep.Slices
import Derived.Deep.Fields
import Derived.ChangeSame
namespace Go.Proofs.Ytnmepkcbpkcegaa
open Go.ChangeShapes Go.WideShapes Go.ChangeAt Go.RowKit Go.Deep

/-- An argument that is a slice of structs of s cells: what its cells hold. -/
theorem open_cells {H : Type} {enc : TypeId × Value → H} {P : Program} {W : World} {base : Nat} {t e : TypeId} {v : Value} {d : DataW H} {p : List MemPlace}
    (ht : P.underlying t = some (.slice e)) (hv : Value.okWide P W .any base t v) (h : DataW.Trod enc P W 0 (fun _ => true) true t v d p) (hs : 0 < P.cellsOf e) :
    ∃ (A : Option Addr) (n c : Nat), v = .slice A n c ∧ n ≤ c ∧ c ≤ maxLen ∧ (0 < n → ∃ b off, A = some ⟨b, off, none⟩ ∧ b < W.heap.size ∧ ∀ i, i < n → ∃ (cs : List Value) (m : Nat) (y : DataW H × List MemPlace), cs.length = P.cellsOf e ∧
      DataW.trod enc P W 0 (fun _ => true) true m e cs = some y ∧ ∀ j, j < P.cellsOf e → W.cell? ⟨b, off + i * P.cellsOf e + j, none⟩ = cs[j]?) := by
  obtain ⟨A, n, c, rfl⟩ := okWide_slice ht hv
  obtain ⟨fuel, hf⟩ := h
  rcases open_slice ht hf with ⟨hcs, _⟩ | ⟨a, len, cap, m, fu, D, Pl, hcs, hb, hl, hm, hmm, hx, hi⟩
  · simp [Value.cells] at hcs
    obtain ⟨rfl, rfl, rfl⟩ := hcs
    exact ⟨none, 0, 0, rfl, by omega, by unfold maxLen; omega, fun h => absurd h (by omega)⟩
  · simp [Value.cells] at hcs
    obtain ⟨rfl, rfl, rfl⟩ := hcs
    refine ⟨some a, n, c, rfl, hl, hm, fun hn => ?_⟩
    simp only [if_true] at hmm
    obtain ⟨b, off, spot⟩ := a
    have key : ∀ i, i < n → ∃ (cs : List Value) (y : DataW H × List MemPlace), cs.length = P.cellsOf e ∧ DataW.trod enc P W 0 (fun _ => true) true fu e cs = some y ∧ ∀ j, j < P.cellsOf e → W.cell? ((⟨b, off, spot⟩ : Addr).add (i * P.cellsOf e + j)) = cs[j]? := by
      intro i hin
      obtain ⟨cs', hc, ht'⟩ := hi i (by omega)
      obtain ⟨_, hcl, hat⟩ := World.cells?_some hc
      refine ⟨cs', _, hcl, ht', fun j hj => ?_⟩
      rw [← Go.Deep.add_add]
      exact hat j hj
    have hspot : spot = none := by
      obtain ⟨cs', _, hcl, _, hat⟩ := key 0 hn
      have h0 := hat 0 hs
      rw [List.getElem?_eq_getElem (by omega)] at h0
      simpa [Addr.add] using World.cell?_spot h0
    subst hspot
    have hlt : b < W.heap.size := by
      obtain ⟨cs', _, hcl, _, hat⟩ := key 0 hn
      have h0 := hat 0 hs
      rw [List.getElem?_eq_getElem (by omega), add_none] at h0
      exact block_lt_of_cell h0
    refine ⟨b, off, rfl, hlt, fun i hin => ?_⟩
    obtain ⟨cs', y, hcl, ht', hat⟩ := key i hin
    refine ⟨cs', fu, y, hcl, ht', fun j hj => ?_⟩
    have := hat j hj
    rw [add_none] at this
    rw [← this]
    congr 2
    omega
/-- .. from which a list of elements is read. -/
theorem open_list {α : Type} (L : Lay α) {W : World} {A : Option Addr} {n : Nat} (h : 0 < n → ∃ b off, A = some ⟨b, off, none⟩ ∧ b < W.heap.size ∧ ∀ i, i < n → ∃ x : α, ∀ j, j < L.s → W.cell? ⟨b, off + i * L.s + j, none⟩ = some (L.cell x j)) :
    ∃ l : List α, l.length = n ∧ SlT L W A n l := by
  by_cases hn : 0 < n
  · obtain ⟨b, off, rfl, hlt, hc⟩ := h hn
    have hch : ∃ f : Nat → α, ∀ i, i < n → ∀ j, j < L.s → W.cell? ⟨b, off + i * L.s + j, none⟩ = some (L.cell (f i) j) :=
      ⟨fun i => if hi : i < n then Classical.choose (hc i hi) else L.z, fun i hi => by simp only [dif_pos hi]; exact Classical.choose_spec (hc i hi)⟩
    obtain ⟨f, hf⟩ := hch
    refine ⟨(List.range n).map f, by simp, fun _ => ⟨b, off, rfl, hlt, fun i j hi hj => ?_⟩⟩
    rw [hf i hi j hj]
    simp [hi]
  · obtain rfl : n = 0 := by omega
    exact ⟨[], rfl, Sl.none_⟩

/-- The fields of a struct that is read, each by its own reading. -/
theorem trod_fields {H : Type} {enc : TypeId × Value → H} {P : Program} {W : World} {base : Nat} {sp : Nat → Bool} {hd : Bool} {t : TypeId} {fs : Array Field} {fuel : Nat} {cs : List Value} {x : DataW H × List MemPlace}
    (ht : P.underlying t = some (.struct fs)) (h : DataW.trod enc P W base sp hd fuel t cs = some x) :
    cs.length = P.cellsOf t ∧ ∃ m, ∀ (j : Nat) (f : Field), fs[j]? = some f → ∃ y, DataW.trod enc P W base sp hd m f.type ((cs.drop f.offset).take (P.cellsOf f.type)) = some y := by
  obtain ⟨ys, m, _, _, hl, hyl, hf⟩ := DataW.trod_struct ht h
  refine ⟨hl, m, fun j f hj => ?_⟩
  have hjl : j < ys.length := by rw [hyl]; exact (Array.getElem?_eq_some_iff.1 hj).1
  exact ⟨_, (hf j f hj).trans (List.getElem?_eq_getElem hjl)⟩
theorem int_cell {H : Type} {enc : TypeId × Value → H} {P : Program} {W : World} {base : Nat} {sp : Nat → Bool} {hd : Bool} {t : TypeId} {k : IntKind} {fuel : Nat} {c : Value} {x : DataW H × List MemPlace}
    (ht : P.underlying t = some (.int k)) (h : DataW.trod enc P W base sp hd fuel t [c] = some x) : ∃ n : Int, c = .int k n ∧ (Lit.int k n).wf = true := by
  obtain ⟨n, e, _, w⟩ := DataW.trod_int ht h
  simp only [List.cons.injEq, and_true] at e
  exact ⟨n, e, w⟩
theorem list2 {l : List Value} (h : l.length = 2) : ∃ a b, l = [a, b] := by
  match l, h with
  | [a, b], _ => exact ⟨a, b, rfl⟩
theorem list3 {l : List Value} (h : l.length = 3) : ∃ a b c, l = [a, b, c] := by
  match l, h with
  | [a, b, c], _ => exact ⟨a, b, c, rfl⟩

theorem cellsInt1 : Try.prog.cellsOf 3 = 1 := by kernel_rfl
theorem cellsSpan : Try.prog.cellsOf 62 = 2 := by kernel_rfl
theorem cellsCap : Try.prog.cellsOf 64 = 3 := by kernel_rfl
set_option maxRecDepth 100000 in
theorem open_capl {H : Type} {enc : TypeId × Value → H} {W : World} {base : Nat} {v : Value} {d : DataW H} {p : List MemPlace}
    (hv : Value.okWide Try.prog W .any base 56 v) (h : DataW.Trod enc Try.prog W 0 (fun _ => true) true 56 v d p) :
    ∃ (A : Option Addr) (n c : Nat) (l : List Cap), v = .slice A n c ∧ l.length = n ∧ n ≤ c ∧ c ≤ maxLen ∧ SlC W A n l := by
  obtain ⟨A, n, c, rfl, hn, hc, hcells⟩ := open_cells Try.underlying56 hv h (by rw [cellsCap]; omega)
  obtain ⟨l, hl, hS⟩ := open_list LCap (W := W) (A := A) (n := n) (fun h0 => by
    obtain ⟨b, off, rfl, hlt, hi⟩ := hcells h0
    refine ⟨b, off, rfl, hlt, fun i hin => ?_⟩
    obtain ⟨cs, m, y, hcl, ht, hat⟩ := hi i hin
    rw [cellsCap] at hcl hat
    obtain ⟨a0, a1, a2, rfl⟩ := list3 hcl
    obtain ⟨_, m1, hf⟩ := trod_fields Try.underlying64 ht
    obtain ⟨y0, h0⟩ := hf 0 _ rfl
    obtain ⟨y1, h1⟩ := hf 1 _ rfl
    simp [cellsSpan, cellsInt1] at h0 h1
    obtain ⟨_, m2, hg⟩ := trod_fields Try.underlying62 h0
    obtain ⟨y2, h2⟩ := hg 0 _ rfl
    obtain ⟨y3, h3⟩ := hg 1 _ rfl
    simp [cellsInt1] at h2 h3
    obtain ⟨n0, rfl, _⟩ := int_cell Try.underlying3 h2
    obtain ⟨n1, rfl, _⟩ := int_cell Try.underlying3 h3
    obtain ⟨n2, rfl, _⟩ := int_cell Try.underlying3 h1
    refine ⟨⟨n0, n1, n2⟩, fun j hj => ?_⟩
    have hj3 : j < 3 := hj
    have := hat j hj3
    have e : LCap.s = 3 := rfl
    rw [e, this]
    match j, hj3 with
    | 0, _ => rfl
    | 1, _ => rfl
    | 2, _ => rfl)
  exact ⟨A, n, c, l, rfl, hl, hn, hc, hS⟩
end Go.Proofs.Ytnmepkcbpkcegaa
