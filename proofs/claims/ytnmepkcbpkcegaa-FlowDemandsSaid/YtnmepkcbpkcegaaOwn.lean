/- Slices of typed elements: how an element lies in memory ('Lay'), slices that are read ('SlT'), slices that a call has made ('Own'), and the append of whatever slice. -/
import Derived.Test.YtnmepkcbpkcegaaSl
import Derived.Maps.AppendAt
import Derived.Deep.AppendLies
import Derived.RegionTactic
import Derived.OwnWalk
import Derived.Lib.SliceRun
namespace Go.Proofs.Ytnmepkcbpkcegaa
open Go.RowKit

/-- How an element lies in memory: its number of cells, its cells, and an element to stand for none. -/
structure Lay (α : Type) where
  s : Nat
  cell : α → Nat → Value
  z : α

section
variable {α : Type} (L : Lay α)
def Lay.cells (x : α) : List Value := (List.range L.s).map (L.cell x)
def Lay.flat (l : List α) : List Value := l.flatMap L.cells
abbrev SlT (w : World) (A : Option Addr) (n : Nat) (l : List α) : Prop := Sl w A n L.s (fun i j => L.cell (l[i]?.getD L.z) j)

theorem Lay.cells_length (x : α) : (L.cells x).length = L.s := by simp [Lay.cells]
theorem Lay.flat_length : ∀ l : List α, (L.flat l).length = l.length * L.s
  | [] => by simp [Lay.flat]
  | x :: l => by
    have := Lay.flat_length l
    simp only [Lay.flat] at this ⊢
    rw [List.flatMap_cons, List.length_append, L.cells_length, this, List.length_cons, Nat.add_mul, Nat.one_mul, Nat.add_comm]
theorem Lay.flat_append (l m : List α) : L.flat (l ++ m) = L.flat l ++ L.flat m := by simp [Lay.flat]
theorem Lay.flat_one (x : α) : L.flat [x] = L.cells x := by simp [Lay.flat]
theorem Lay.flat_get : ∀ (l : List α) (i j : Nat), i < l.length → j < L.s → (L.flat l)[i * L.s + j]? = some (L.cell (l[i]?.getD L.z) j)
  | x :: l, 0, j, _, hj => by
    show ((x :: l).flatMap L.cells)[0 * L.s + j]? = _
    rw [Nat.zero_mul, Nat.zero_add, List.flatMap_cons, List.getElem?_append_left (by rw [L.cells_length]; exact hj)]
    simp [Lay.cells, hj]
  | x :: l, i + 1, j, hi, hj => by
    have ih := Lay.flat_get l i j (by simpa using hi) hj
    show ((x :: l).flatMap L.cells)[(i + 1) * L.s + j]? = _
    rw [List.flatMap_cons, List.getElem?_append_right (by rw [L.cells_length, Nat.add_mul]; omega), L.cells_length, show (i + 1) * L.s + j - L.s = i * L.s + j by rw [Nat.add_mul]; omega]
    exact ih

/-- The slice value v, of the elements l, lies in blocks of the call's own, from B on. -/
def Own (w : World) (B : Nat) (t : TypeId) (v : Value) (l : List α) : Prop := w.ownsRow B t L.s v l.length (L.flat l)

variable {L}
theorem Own.nil (w : World) (B : Nat) (t : TypeId) : Own L w B t (.slice none 0 0) ([] : List α) := World.ownsRow_nil w B t L.s
theorem Own.form {w : World} {B : Nat} {t : TypeId} {v : Value} {l : List α} (h : Own L w B t v l) : ∃ A c, v = .slice A l.length c ∧ l.length ≤ c ∧ c ≤ maxLen := by
  rcases h.2 with ⟨rfl, h0⟩ | ⟨g, cap, cur, rfl, _, _, hn, hm, _, _⟩
  · exact ⟨none, 0, by rw [h0], by omega, by unfold maxLen; omega⟩
  · exact ⟨_, _, rfl, hn, hm⟩
theorem Own.sl {w : World} {B : Nat} {t : TypeId} {A : Option Addr} {n c : Nat} {l : List α} (h : Own L w B t (.slice A n c) l) : SlT L w A n l := fun hn => by
  rcases h.2 with ⟨e, h0⟩ | ⟨g, cap, cur, e, hg, hh, hnc, hm, hs, ht⟩
  · injection e with _ e2; omega
  · injection e with e1 e2 e3
    subst e1 e2 e3
    have hlt : g < w.heap.size := by
      rcases Nat.lt_or_ge g w.heap.size with hlt | hge
      · exact hlt
      · rw [Array.getElem?_eq_none hge] at hh; cases hh
    refine ⟨g, 0, rfl, hlt, fun i j hi hj => ?_⟩
    have h1 := L.flat_get l i j hi hj
    have hb : i * L.s + j < l.length * L.s := by
      have : (i + 1) * L.s ≤ l.length * L.s := Nat.mul_le_mul_right _ hi
      rw [Nat.add_mul] at this; omega
    rw [← ht, List.getElem?_take, if_pos hb] at h1
    simp only [World.cell?, hh, Nat.zero_add, Option.isSome_none, Bool.false_eq_true, if_false]
    rw [← h1]; simp
theorem Own.below {w w' : World} {B : Nat} {t : TypeId} {v : Value} {l : List α} (h : Own L w B t v l) (hb : Below w.heap.size w w') : Own L w' B t v l :=
  ⟨h.1, by
    rcases h.2 with h2 | ⟨g, cap, cur, e, hg, hh, r⟩
    · exact .inl h2
    · have hlt : g < w.heap.size := by
        rcases Nat.lt_or_ge g w.heap.size with hlt | hge
        · exact hlt
        · rw [Array.getElem?_eq_none hge] at hh; cases hh
      exact .inr ⟨g, cap, cur, e, hg, (hb.block g hlt).trans hh, r⟩⟩
theorem Own.xt {w : World} {B : Nat} {t : TypeId} {v : Value} {l : List α} (h : Own L w B t v l) (z : More) : Own L (xt w z) B t v l := h.below (xt_below w z)
theorem Own.alloc {w : World} {B : Nat} {t : TypeId} {v : Value} {l : List α} (h : Own L w B t v l) (o : Obj) : Own L (w.alloc o) B t v l := h.below ((Below.refl _ _).alloc (Nat.le_refl _) _)
theorem Own.mono {w : World} {B B' : Nat} {t : TypeId} {v : Value} {l : List α} (h : Own L w B t v l) (hB : B' ≤ B) : Own L w B' t v l :=
  ⟨h.1, by
    rcases h.2 with h2 | ⟨g, cap, cur, e, hg, r⟩
    · exact .inl h2
    · exact .inr ⟨g, cap, cur, e, by omega, r⟩⟩
/-- A slice over a block that has just been laid. -/
theorem Own.lit (w : World) (B : Nat) (hB : B ≤ w.heap.size) (t : TypeId) (l : List α) (hl : l.length ≤ maxLen) (cs : Array Value) (hcs : cs.toList = L.flat l) (N : Nat) (hN : N = w.heap.size) :
    Own L (w.alloc (.cells cs t)) B t (.slice (some ⟨N, 0, none⟩) l.length l.length) l := by
  subst hN
  refine ⟨L.flat_length l, .inr ⟨w.heap.size, l.length, cs, rfl, hB, heap_alloc_new w _, Nat.le_refl _, hl, ?_, ?_⟩⟩
  · rw [← Array.length_toList, hcs, L.flat_length]
  · rw [hcs, List.take_of_length_le (by rw [L.flat_length]; omega)]
end

/-! ### append of whatever slice onto a row of the call's own -/
theorem add_none (b o j : Nat) : (⟨b, o, none⟩ : Addr).add j = ⟨b, o + j, none⟩ := by
  unfold Addr.add
  split
  · rename_i h; simp only [h, Nat.add_zero]
  · rfl

section
variable {α : Type} {L : Lay α} {P : Program} {w : World}
theorem run_append_sl (B : Nat) (t ty e : TypeId) (i : TypeInfo) (z : Value) (bytes : Nat) (ht : P.underlying t = some (.slice e)) (hi : P.info? e = some i) (hz : i.zero = some z)
    (hsize : i.size = L.s) (hby : i.bytes = bytes) (hzs : z.cells.size = L.s) (hsz : 0 < L.s) (hone : ∀ x j, (L.cell x j).oneCell' = true)
    (v : Value) (l : List α) (hown : Own L w B e v l) (A : Option Addr) (m c : Nat) (r : List α) (hm : r.length = m) (hr : SlT L w A m r)
    (h63 : l.length + m ≤ maxLen) (hbytes : (l.length + m) * bytes ≤ 140737488355328) (hbase : B ≤ w.heap.size) :
    ∃ v' w', (Builtin.append_ #[t, t] ty #[v, .slice A m c]).run P w = .ok v' w' ∧ Own L w' B e v' (l ++ r) ∧ w.grownBy w' v.ownBlock ∧ (v'.ownBlock = v.ownBlock ∨ v'.ownBlock = some w.heap.size) := by
  rcases A with _ | ad
  · have hm0 : m = 0 := by
      rcases Nat.eq_zero_or_pos m with h0 | h0
      · exact h0
      · obtain ⟨b, off, h, _⟩ := hr h0
        cases h
    subst hm0
    obtain rfl : r = [] := List.eq_nil_of_length_eq_zero hm
    refine ⟨v, w, ?_, by simpa using hown, World.grownBy.refl w _, .inl rfl⟩
    rcases hown.2 with ⟨rfl, h0⟩ | ⟨g, cap, cur, rfl, _, _, hnc, _⟩
    · simp [Builtin.append_, run_underlying ht, sizeOf, typeInfo, hi, Builtin.lenOf, Builtin.firstCells]
    · simp [Builtin.append_, run_underlying ht, sizeOf, typeInfo, hi, Builtin.lenOf, Builtin.firstCells, hnc, storeCells]
  · have hcells : ∀ j u, (L.flat r)[j]? = some u → w.cell? (ad.add j) = some u := by
      intro j u hu
      have hj : j < (L.flat r).length := by
        rcases Nat.lt_or_ge j (L.flat r).length with h | h
        · exact h
        · rw [List.getElem?_eq_none h] at hu; cases hu
      rw [L.flat_length, hm] at hj
      have hm0 : 0 < m := by
        rcases Nat.eq_zero_or_pos m with h0 | h0
        · subst h0; simp at hj
        · exact h0
      obtain ⟨b, off, h, _, hc⟩ := hr hm0
      injection h with h
      subst h
      have hq : j / L.s < m := Nat.div_lt_of_lt_mul (by rw [Nat.mul_comm]; exact hj)
      have hr' : j % L.s < L.s := Nat.mod_lt _ hsz
      have hjj : j / L.s * L.s + j % L.s = j := by rw [Nat.mul_comm]; exact Nat.div_add_mod j L.s
      have h1 := hc (j / L.s) (j % L.s) hq hr'
      have h2 := L.flat_get r (j / L.s) (j % L.s) (by rw [hm]; exact hq) hr'
      rw [hjj] at h2
      rw [add_none, ← hu, h2, ← h1]
      congr 2
      omega
    have h1 : ∀ u ∈ L.flat r, u.oneCell' = true := by
      intro u hu
      simp only [Lay.flat, Lay.cells, List.mem_flatMap, List.mem_map] at hu
      obtain ⟨x, _, j, _, rfl⟩ := hu
      exact hone x j
    obtain ⟨v', w', hrun, h2, h3, _, h5⟩ := run_append_own_at (P := P) w B t ty e i z L.s bytes ht hi hz hsize hby hzs hsz v l.length (L.flat l) hown ad m c (L.flat r) (by rw [L.flat_length, hm]) hcells h1 h63 hbytes hbase
    refine ⟨v', w', hrun, ?_, h3, h5⟩
    unfold Own
    rw [List.length_append, hm, L.flat_append]
    exact h2

theorem wpList_append_sl {ops : Array Oper} {rest : List Oper} {o : Oper} {a : Act} {Q : Exit → Act → World → Prop} (hgd : o.guard = none) (s x : Operand) (t : TypeId)
    (ho : o.op = .call { callee := .builtin .append, args := #[s, x], argTypes := #[t, t] })
    (B : Nat) (e : TypeId) (i : TypeInfo) (z : Value) (bytes : Nat) (ht : P.underlying t = some (.slice e)) (hi : P.info? e = some i) (hz : i.zero = some z)
    (hsize : i.size = L.s) (hby : i.bytes = bytes) (hzs : z.cells.size = L.s) (hsz : 0 < L.s) (hone : ∀ x j, (L.cell x j).oneCell' = true)
    (v : Value) (l : List α) (hs : a.eval s = v) (hown : Own L w B e v l) (A : Option Addr) (m c : Nat) (r : List α) (hx : a.eval x = .slice A m c) (hm : r.length = m) (hr : SlT L w A m r)
    (h63 : l.length + m ≤ maxLen) (hbytes : (l.length + m) * bytes ≤ 140737488355328) (hbase : B ≤ w.heap.size)
    (h : ∀ v' w', Own L w' B e v' (l ++ r) → w.grownBy w' v.ownBlock → (v'.ownBlock = v.ownBlock ∨ v'.ownBlock = some w.heap.size) → wpList P ops Q rest (a.put o.dst v') w') : wpList P ops Q (o :: rest) a w :=
  wpList_plain hgd fun _ hK => by
    obtain ⟨v', w', hrun, h2, h3, h4⟩ := run_append_sl (P := P) (L := L) B t o.type e i z bytes ht hi hz hsize hby hzs hsz hone v l hown A m c r hm hr h63 hbytes hbase
    unfold Oper.wp execOp
    simp only [ho, resolve, invoke, builtin, Sem.run_bind, Sem.run_pure, Result.andThen_ok, List.map_toArray, List.map_cons, List.map_nil, hs, hx, hrun]
    exact hK _ _ (h v' w' h2 h3 h4)
end

/-- A call that returns a slice of its own. -/
def RetO {α : Type} (L : Lay α) (t : TypeId) (mk : Value → Value) (l : List α) (w : World) (e : Ending) (w' : World) : Prop :=
  ∃ A c z, e = .returned (mk (.slice A l.length c)) ∧ w' = xt w z ∧ Own L w' w.heap.size t (.slice A l.length c) l

theorem retO_mk {α : Type} {L : Lay α} {t : TypeId} {mk : Value → Value} {l : List α} {w w' : World} {v : Value} (hb : Below w.heap.size w w') (ho : Own L w' w.heap.size t v l) : RetO L t mk l w (.returned (mk v)) w' := by
  obtain ⟨z, rfl⟩ := ext_of_below hb
  obtain ⟨A, c, rfl, _, _⟩ := ho.form
  exact ⟨A, c, z, rfl, rfl, ho⟩

/-! ### the first index of which something holds -/
def firstIdx (p : Nat → Bool) : Nat → Int
  | 0 => -1
  | n + 1 => if 0 ≤ firstIdx p n then firstIdx p n else if p n = true then n else -1
theorem firstIdx_none {p : Nat → Bool} : ∀ {n : Nat}, (∀ i, i < n → p i = false) → firstIdx p n = -1
  | 0, _ => rfl
  | n + 1, h => by
    have h1 := firstIdx_none (n := n) (fun i hi => h i (by omega))
    simp only [firstIdx, h1]
    rw [if_neg (by omega), if_neg (by rw [h n (by omega)]; exact Bool.false_ne_true)]
theorem firstIdx_at {p : Nat → Bool} {k : Nat} (hk : p k = true) (hb : ∀ i, i < k → p i = false) : ∀ {n : Nat}, k < n → firstIdx p n = k
  | n + 1, hn => by
    by_cases e : k = n
    · subst e
      simp only [firstIdx, firstIdx_none hb]
      rw [if_neg (by omega), if_pos hk]
    · have h1 := firstIdx_at hk hb (n := n) (by omega)
      simp only [firstIdx, h1]
      rw [if_pos (by omega)]
theorem firstIdx_cases (p : Nat → Bool) : ∀ n : Nat, (firstIdx p n = -1 ∧ ∀ i, i < n → p i = false) ∨ ∃ k, k < n ∧ firstIdx p n = k ∧ p k = true ∧ ∀ i, i < k → p i = false
  | 0 => .inl ⟨rfl, by omega⟩
  | n + 1 => by
    rcases firstIdx_cases p n with ⟨h1, h2⟩ | ⟨k, hk, h1, h2, h3⟩
    · by_cases hp : p n = true
      · exact .inr ⟨n, by omega, firstIdx_at hp h2 (by omega), hp, h2⟩
      · have hpf : p n = false := by simpa using hp
        have hall : ∀ i, i < n + 1 → p i = false := fun i hi => by
          by_cases e : i = n
          · subst e; exact hpf
          · exact h2 i (by omega)
        exact .inl ⟨firstIdx_none hall, hall⟩
    · exact .inr ⟨k, by omega, firstIdx_at h2 h3 (by omega), h2, h3⟩
end Go.Proofs.Ytnmepkcbpkcegaa
