/- Texts of one proof, part 4: plain values, a run over them, contracts of functions. -/
import Derived.Test.YtcdbodnhimbddaaGreatM3
import Derived.Shelf.SlSortCmp.NoneTotal
import Derived.Test.YtcdbodnhimbddaaGreatChecked
/- slices.SortFunc over plain values: the shelf's contract, met by a comparison's contract. -/
namespace Go.Proofs.YtcdbodnhimbddaaGreat
open Go.RowKit Go.Shelf Go.Sort
set_option linter.unusedVariables false
set_option linter.unusedSimpArgs false
theorem grow_of_below {w w' : World} (h : Go.RowKit.Below w.heap.size w w') (hd : w.drawn ≤ w'.drawn) : ∃ q os, w' = grow (w.drewN q) os := by
  refine ⟨w'.drawn - w.drawn, w'.heap.extract w.heap.size w'.heap.size, ?_⟩
  have e1 : w'.heap = w.heap ++ w'.heap.extract w.heap.size w'.heap.size := by
    apply Array.ext_getElem?
    intro k
    rw [Array.getElem?_append]
    split
    · rename_i hk; exact h.block k hk
    · rename_i hk
      rw [Array.getElem?_extract]
      have := h.size
      by_cases hk2 : k < w'.heap.size
      · rw [if_pos (by omega)]; congr 1; omega
      · rw [if_neg (by omega)]; exact Array.getElem?_eq_none (by omega)
  have e2 : w.drawn + (w'.drawn - w.drawn) = w'.drawn := by omega
  have h1 := h.os; have h2 := h.tape; have h3 := h.output
  cases w'; cases w
  simp only at *
  subst h1 h2 h3
  unfold grow
  simp only [World.drewN] at *
  rw [e2]
  congr 1
theorem putRow_block (w : World) (G : Nat) (F : Array Value) {b : Nat} (hb : b ≠ G) : (putRow id w G 0 F).heap[b]? = w.heap[b]? := by
  unfold putRow mapBlock
  simp only [Array.getElem?_modify]
  rw [if_neg (fun e => hb e.symm)]
theorem putRow_at (w : World) (G : Nat) (F : Array Value) {c : Array Value} {e : TypeId} {fr : Nat × Nat} (h : w.heap[G]? = some (.cells c e fr)) : (putRow id w G 0 F).heap[G]? = some (.cells (putCells id 0 F c) e fr) := by
  unfold putRow mapBlock
  simp only [Array.getElem?_modify, if_true, h, Option.map_some, onCells]
theorem sortW_block {α : Type} [Inhabited α] (enc : α → List Value) (k : Nat) (w : World) (G m : Nat) (D : Array α) (os : Array Obj) {b : Nat} (hb : b ≠ G) (hlt : b < w.heap.size) : (sortWorldK enc k w G 0 m D os).heap[b]? = w.heap[b]? := by
  unfold sortWorldK grow
  have hsz : (putRowK enc k (Go.Sort.ahead w m) G 0 D).heap.size = w.heap.size := size_putRow id _ G 0 _
  simp only [Array.getElem?_append]
  rw [if_pos (by rw [hsz]; exact hlt)]
  exact putRow_block _ _ _ hb
theorem sortW_at {α : Type} [Inhabited α] (enc : α → List Value) (k : Nat) (w : World) (G m : Nat) (D : Array α) (os : Array Obj) {c : Array Value} {e : TypeId} {fr : Nat × Nat} (h : w.heap[G]? = some (.cells c e fr)) : (sortWorldK enc k w G 0 m D os).heap[G]? = some (.cells (putCells id 0 (flatK enc k D) c) e fr) := by
  unfold sortWorldK grow
  have hsz : (putRowK enc k (Go.Sort.ahead w m) G 0 D).heap.size = w.heap.size := size_putRow id _ G 0 _
  simp only [Array.getElem?_append]
  rw [if_pos (by rw [hsz]; exact (Array.getElem?_eq_some_iff.1 h).1)]
  exact putRow_at _ _ _ h
theorem sortW_size {α : Type} [Inhabited α] (enc : α → List Value) (k : Nat) (w : World) (G m : Nat) (D : Array α) (os : Array Obj) : w.heap.size ≤ (sortWorldK enc k w G 0 m D os).heap.size := by
  have hsz : (putRowK enc k (Go.Sort.ahead w m) G 0 D).heap.size = w.heap.size := size_putRow id _ G 0 _
  unfold sortWorldK
  rw [size_grow, hsz]; omega
/-- An element of the row: as a plain value, and as its cells. -/
def Elt (w : World) (okc : Nat → Prop) (k : Nat) (d : List (List AV)) : Type := { p : List AV × List Value // p.1 ∈ d ∧ p.2.length = k ∧ (∀ v ∈ p.2, v.oneCell' = true) ∧ p.1.length = k ∧ ∀ j, j < k → RV w okc (p.1.getD j default) (p.2.getD j undef) }
/-- **slices.SortFunc**: with a comparison that orders the elements, and parts whatever two that are not one, the row is the sorted list. -/
theorem sortU {P : Program} {ρ : Ren} (L : SlLaysF0.n6 P ρ) {k : Nat} (aE : ∀ w, (isAgg (ρ.t 24)).run P w = .ok true w) (zE : ∀ w, (Go.sizeOf (ρ.t 24)).run P w = .ok k w) {g : FuncId} {cs : List AV} {cf : List AV → List AV → Int} {d s : List (List AV)} (hk0 : 0 < k) (eg : Ent P g)
    (hcmp : ∀ x ∈ d, ∀ y ∈ d, Fn P g ([.agg x, .agg y] ++ cs) .sc (.int (cf x y)))
    (hirr : ∀ x ∈ d, ¬ cf x x < 0) (htr : ∀ x ∈ d, ∀ y ∈ d, ∀ z ∈ d, cf x y < 0 → cf y z < 0 → cf x z < 0) (hntr : ∀ x ∈ d, ∀ y ∈ d, ∀ z ∈ d, ¬ cf x y < 0 → ¬ cf y z < 0 → ¬ cf x z < 0) (hT : ∀ x ∈ d, ∀ y ∈ d, ¬ cf x y < 0 → ¬ cf y x < 0 → x = y)
    (hbig : d.length < 4611686018427387904) (hp : s.Perm d) (hs : s.Pairwise fun x y => ¬ cf y x < 0) :
    FnU P (ρ.f 6) (ρ.t 24) k (.sl k d) [.clo g cs] false (.sl k s) := by
  refine ⟨fun args W => L.f6.enters rfl args W, ?_⟩
  intro w ok B okc v0 cargs hrow hokc hok hB hgl hsz hargs
  have hrow0 := hrow
  obtain ⟨L', xs, hL', _, hlen, ho, hone, hv⟩ := hrow
  injection hL' with _ hL'
  subst hL'
  obtain ⟨u, rfl⟩ : ∃ u, cargs = #[u] := ⟨cargs.getD 0 undef, by
    have : cargs.size = 1 := hsz
    apply Array.ext_getElem?
    intro i
    by_cases hi : i < 1
    · obtain rfl : i = 0 := by omega
      simp [this]
    · rw [Array.getElem?_eq_none (by omega), Array.getElem?_eq_none (by simp; omega)]⟩
  have hu : RV w ok (.clo g cs) u := hargs 0 (by simp)
  cases hu with
  | clo _ _ vs hvl hvs =>
  have hnone : d = [] → ∀ p cap, v0 = .slice p 0 cap → Calls P (ρ.f 6) (#[v0] ++ #[.func (.func g) #[] vs]) w fun e' w' => ∃ v, e' = .returned (if false then v else .tuple #[]) ∧ w.grownBy w' v0.ownBlock ∧ RRow w' B (ρ.t 24) k okc (.sl k s) v ∧ (false = false → v = v0) ∧ (∀ g, v.ownBlock = some g → v0.ownBlock = some g ∨ w.heap.size ≤ g) ∧ w.drawn ≤ w'.drawn := by
    intro h0 p cap e
    have hs0 : s = d := by rw [h0] at hp ⊢; exact hp.eq_nil
    rw [e]
    refine (AnyF.slices_SortFunc_none (P := P) (ρ := ρ) L p cap (.func (.func g) #[] vs) w).mono ?_
    rintro e' w' ⟨rfl, rfl⟩
    exact ⟨.slice p 0 cap, rfl, ⟨rfl, rfl, rfl, Nat.le_refl _, fun _ _ _ => rfl⟩, by rw [hs0, ← e]; exact hrow0, fun _ => rfl, fun g hg => .inl hg, Nat.le_refl _⟩
  rcases ho.2 with ⟨e0, h0⟩ | ⟨G, cap, cur, e0, hBG, hG, hnc, hcm, hcs, htk⟩
  · exact hnone (List.eq_nil_of_length_eq_zero h0) none 0 e0
  by_cases hd0 : d = []
  · exact hnone hd0 _ cap (by rw [e0, hd0]; rfl)
  have hn0 : 0 < d.length := List.length_pos_iff.2 hd0
  have hxl : xs.length = d.length * k := ho.1
  have hget : ∀ i j, i < d.length → j < k → i * k + j < xs.length := fun i j hi hj => by
    rw [hxl]
    have : (i + 1) * k ≤ d.length * k := Nat.mul_le_mul_right _ hi
    rw [Nat.add_mul] at this; omega
  have hslice : ∀ i, i < d.length → ((xs.drop (i * k)).take k).length = k := fun i hi => by
    rw [List.length_take, List.length_drop, hxl]
    have : (i + 1) * k ≤ d.length * k := Nat.mul_le_mul_right _ hi
    rw [Nat.add_mul] at this; omega
  have hsl2 : ∀ i j, j < k → ((xs.drop (i * k)).take k).getD j undef = xs.getD (i * k + j) undef := fun i j hj => by
    simp only [List.getD_eq_getElem?_getD, List.getElem?_take, hj, if_true, List.getElem?_drop]
  let mk : (i : Fin d.length) → Elt w okc k d := fun i => ⟨(d[i], (xs.drop (i * k)).take k), List.getElem_mem _, hslice i i.2, fun v hv => hone v (List.mem_of_mem_drop (List.mem_of_mem_take hv)), hlen _ (List.getElem_mem _), fun j hj => by
    show RV w okc (d[i].getD j default) (((xs.drop (i * k)).take k).getD j undef)
    rw [hsl2 _ _ hj]
    have := hv i j i.2 hj
    have e : d.getD i [] = d[i] := by rw [List.getD_eq_getElem?_getD, List.getElem?_eq_getElem i.2]; rfl
    unfold gt2 at this
    rw [e] at this
    exact this⟩
  haveI : Inhabited (Elt w okc k d) := ⟨mk ⟨0, hn0⟩⟩
  let D : Array (Elt w okc k d) := (List.ofFn mk).toArray
  have hDs : D.size = d.length := by simp [D]
  have hDg : ∀ i (hi : i < d.length), D[i]! = mk ⟨i, hi⟩ := fun i hi => by
    rw [getElem!_pos D i (by rw [hDs]; exact hi)]
    simp [D]
  let enc : Elt w okc k d → List Value := fun p => p.1.2
  have hflat : ∀ t, t < d.length * k → (flatK enc k D)[t]! = xs.getD t undef := fun t ht => by
    have hq : t / k < d.length := Nat.div_lt_of_lt_mul (by rw [Nat.mul_comm]; exact ht)
    have hr : t % k < k := Nat.mod_lt _ hk0
    rw [get_flatK _ _ _ _ (by rw [hDs]; exact ht), hDg _ hq]
    show ((xs.drop (t / k * k)).take k)[t % k]! = _
    have e1 := hsl2 (t / k) (t % k) hr
    have e2 : t / k * k + t % k = t := by rw [Nat.mul_comm]; exact Nat.div_add_mod t k
    rw [e2] at e1
    rw [← e1, List.getD_eq_getElem?_getD, getElem!_pos _ _ (by rw [hslice _ hq]; exact hr), List.getElem?_eq_getElem (by rw [hslice _ hq]; exact hr)]
    rfl
  have hcurget : ∀ t, t < d.length * k → cur[t]? = some (xs.getD t undef) := fun t ht => by
    have h1 : (cur.toList.take (d.length * k))[t]? = xs[t]? := by rw [htk]
    rw [List.getElem?_take, if_pos ht] at h1
    rw [← Array.getElem?_toList, h1, List.getD_eq_getElem?_getD, List.getElem?_eq_getElem (by rw [hxl]; exact ht)]
    rfl
  have hGlt : G < w.heap.size := (Array.getElem?_eq_some_iff.1 hG).1
  have hH : HoldsK enc k w G 0 D := fun t ht => by
    rw [size_flatK, hDs] at ht
    rw [hflat t ht, Nat.zero_add]
    refine ⟨?_, ?_⟩
    · rw [cell_of_row w G t cur (ρ.t 24) (0, 0) hG, hcurget t ht]; rfl
    · simp [World.frozen?, hG]
  let cf' : Elt w okc k d → Elt w okc k d → Int := fun p q => cf p.1.1 q.1.1
  have hO : SWO (ltOf cf') := ⟨fun x => decide_eq_false (hirr _ x.2.1), fun x y z h1 h2 => decide_eq_true (htr _ x.2.1 _ y.2.1 _ z.2.1 (of_decide_eq_true h1) (of_decide_eq_true h2)), fun x y z h1 h2 => decide_eq_false (hntr _ x.2.1 _ y.2.1 _ z.2.1 (of_decide_eq_false h1) (of_decide_eq_false h2))⟩
  have hGok : ∀ b, okc b ∨ ok b → b ≠ G ∧ b < w.heap.size := fun b hb => by
    rcases hb with hb | hb
    · exact ⟨fun e => (hokc b hb).1 (by rw [e0, e]; rfl), (hokc b hb).2⟩
    · exact ⟨fun e => (hok b hb).1 (by rw [e0, e]; rfl), (hok b hb).2⟩
  have hCmp : CmpLays P g vs enc k cf' G 0 D.size w := by
    intro m os dk hdk x y
    have hfn := (hcmp _ x.2.1 _ y.2.1).2 (sortWorldK enc k w G 0 m dk os) (fun b => okc b ∨ ok b) (#[.agg (enc x).toArray, .agg (enc y).toArray] ++ vs) (fun b hb => Nat.lt_of_lt_of_le (hGok b hb).2 (sortW_size _ _ _ _ _ _ _)) ⟨fun p hp => ?_, fun p hp => by simp [globI] at hp⟩ (by simp [hvl]; omega) (fun i hi => ?_)
    · refine hfn.mono ?_
      rintro e w' ⟨v, rfl, hb, hR, _, hdr⟩
      have hv' : RV w' noBlock (.int (cf' x y)) v := hR
      obtain rfl := RV.lit_iff.1 hv'
      exact ⟨rfl, grow_of_below hb hdr⟩
    · obtain ⟨q1, q2, q3, x', y', q4⟩ := hgl.1 p hp
      refine ⟨Nat.lt_of_lt_of_le q1 (sortW_size _ _ _ _ _ _ _), .inr q2, fun i hi => ⟨?_, (q3 i hi).2⟩, x', y', ?_⟩
      · rw [← (q3 i hi).1]
        exact World.cell?_of_block (sortW_block _ _ _ _ _ _ _ (hGok _ (.inr q2)).1 q1)
      · rw [← q4]
        exact sortW_block _ _ _ _ _ _ _ (hGok _ (.inr q2)).1 q1
    · have hag : ∀ z : Elt w okc k d, RV (sortWorldK enc k w G 0 m dk os) (fun b => okc b ∨ ok b) (.agg z.1.1) (.agg (enc z).toArray) := fun z => by
        obtain ⟨p, q1, q2, q3, q4, q5⟩ := z
        refine .agg _ _ (by show p.2.toArray.size = _; simp [q2, q4]) (fun j hj => ?_) (fun j hj => ?_)
        · have hj2 : j < p.2.length := by rw [q2, ← q4]; exact hj
          show (p.2.toArray.getD j undef).oneCell' = true
          rw [Array.getD_eq_getD_getElem?]
          simp only [List.getElem?_toArray, List.getElem?_eq_getElem hj2, Option.getD_some]
          exact q3 _ (List.getElem_mem hj2)
        · have e2 : p.2.toArray.getD j undef = p.2.getD j undef := by rw [Array.getD_eq_getD_getElem?, List.getD_eq_getElem?_getD]; simp
          show RV _ _ _ (p.2.toArray.getD j undef)
          rw [e2]
          exact (q5 j (q4 ▸ hj)).mono fun b hb hlt => ⟨.inl hb, sortW_block _ _ _ _ _ _ _ (hGok b (.inl hb)).1 hlt⟩
      rcases i with _ | _ | i
      · have e2 : (#[Value.agg (enc x).toArray, Value.agg (enc y).toArray] ++ vs).getD 0 undef = .agg (enc x).toArray := by simp [Array.getElem?_append]
        rw [e2]; exact hag x
      · have e2 : (#[Value.agg (enc x).toArray, Value.agg (enc y).toArray] ++ vs).getD (0 + 1) undef = .agg (enc y).toArray := by simp [Array.getElem?_append]
        rw [e2]; exact hag y
      · have hi' : i < cs.length := by simpa using hi
        have e1 : ([AV.agg x.1.1, AV.agg y.1.1] ++ cs).getD (i + 2) default = cs.getD i default := by simp
        have e2 : (#[Value.agg (enc x).toArray, Value.agg (enc y).toArray] ++ vs).getD (i + 2) undef = vs.getD i undef := by
          simp only [Array.getD_eq_getD_getElem?, Array.getElem?_append]
          rw [if_neg (by simp)]
          simp
        rw [e1, e2]
        exact (hvs i hi').mono fun b hb hlt => ⟨.inr hb, sortW_block _ _ _ _ _ _ _ (hGok b (.inr hb)).1 hlt⟩
  have hcon := AnyQ.slices_SortFunc (P := P) (ρ := ρ) L k aE zE enc (fun p => p.2.2.1) (fun p v hv => p.2.2.2.1 v hv) cf' hO g vs G 0 cap D w eg hCmp hH hGlt (by rw [hDs]; exact hbig)
  rw [hDs] at hcon
  rw [e0]
  refine hcon.mono ?_
  rintro e' w' ⟨rfl, D', n, os, ⟨hz, _, hpm⟩, hsd, rfl⟩
  rw [hDs] at hz
  have e1 : D'.extract 0 d.length = D' := by rw [← hz]; exact Array.extract_size
  have e2 : D.extract 0 d.length = D := by rw [← hDs]; exact Array.extract_size
  rw [e1, e2] at hpm
  have hDmap : D.toList.map (fun p => p.1.1) = d := by
    simp only [D, List.map_ofFn]
    apply List.ext_getElem
    · simp
    · intro i h1 h2
      simp [mk]
      rfl
  have hsm : D'.toList.map (fun p => p.1.1) = s := by
    have hp1 : (D'.toList.map fun p => p.1.1).Perm d := (hpm.map fun p => p.1.1).trans (List.Perm.of_eq hDmap)
    refine List.Perm.eq_of_pairwise (le := fun x y => ¬ cf y x < 0) ?_ ?_ hs (hp1.trans hp.symm)
    · intro a b ha hb h1 h2
      exact hT a (hp1.mem_iff.1 ha) b (hp.mem_iff.1 hb) h2 h1
    · rw [List.pairwise_map, List.pairwise_iff_getElem]
      intro i j hi hj hij
      have hi' : i < D'.size := by simpa using hi
      have hj' : j < D'.size := by simpa using hj
      have := hsd i j (Nat.zero_le _) hij (by omega)
      rw [getElem!_pos D' j hj', getElem!_pos D' i hi'] at this
      exact of_decide_eq_false this
  have hsl : s.length = d.length := hp.length_eq
  refine ⟨.slice (some ⟨G, 0, none⟩) d.length cap, rfl, ⟨rfl, rfl, rfl, sortW_size _ _ _ _ _ _ _, fun b hb hne => sortW_block _ _ _ _ _ _ _ (fun e => hne (by rw [e]; rfl)) hb⟩, ?_, fun _ => rfl, fun b hb => .inl hb, by show w.drawn ≤ w.drawn + n; omega⟩
  have hD'g : ∀ i (hi : i < d.length), (s.getD i []) = (D'[i]!).1.1 ∧ s[i]? = some (D'[i]!).1.1 := fun i hi => by
    have : s[i]? = some (D'[i]!).1.1 := by
      rw [← hsm, List.getElem?_map, Array.getElem?_toList, Array.getElem?_eq_getElem (by omega), getElem!_pos D' i (by omega)]; rfl
    exact ⟨by rw [List.getD_eq_getElem?_getD, this]; rfl, this⟩
  refine ⟨s, (flatK enc k D').toList, rfl, hk0, fun y hy => hlen y (hp.mem_iff.1 hy), ⟨by simp [hz, hsl], .inr ⟨G, cap, _, by rw [hsl], hBG, sortW_at _ _ _ _ _ _ _ hG, by rw [hsl]; exact hnc, hcm, by simp [putCells, hcs], ?_⟩⟩, fun v hv' => ?_, fun i j hi hj => ?_⟩
  · apply List.ext_getElem?
    intro t
    rw [List.getElem?_take, hsl]
    split
    · rename_i ht
      have hlt : t < cur.size := by have := hcurget t ht; exact (Array.getElem?_eq_some_iff.1 this).1
      rw [Array.getElem?_toList, Array.getElem?_toList]
      simp only [putCells, Array.getElem?_mapIdx, Array.getElem?_eq_getElem hlt, Option.map_some]
      rw [if_pos ⟨Nat.zero_le _, by rw [Nat.zero_add, size_flatK, hz]; exact ht⟩, Nat.sub_zero, getElem!_pos _ _ (by rw [size_flatK, hz]; exact ht), Array.getElem?_eq_getElem (by rw [size_flatK, hz]; exact ht)]
      rfl
    · rename_i ht
      rw [List.getElem?_eq_none]
      rw [Array.length_toList, size_flatK, hz]; omega
  · rw [Array.mem_toList_iff] at hv'
    obtain ⟨t, ht, rfl⟩ := Array.mem_iff_getElem.1 hv'
    rw [size_flatK, hz] at ht
    have hr : t % k < k := Nat.mod_lt _ hk0
    have := get_flatK enc k D' t (by rw [hz]; exact ht)
    rw [getElem!_pos _ _ (by rw [size_flatK, hz]; exact ht)] at this
    rw [this]
    have hlt : t % k < (enc D'[t / k]!).length := by show _ < (D'[t / k]!).1.2.length; rw [(D'[t / k]!).2.2.1]; exact hr
    rw [getElem!_pos (enc D'[t / k]!) (t % k) hlt]
    exact (D'[t / k]!).2.2.2.1 _ (List.getElem_mem _)
  · rw [hsl] at hi
    have hlt : i * k + j < d.length * k := by have := hget i j hi hj; rwa [hxl] at this
    have e3 : (flatK enc k D').toList.getD (i * k + j) undef = (D'[i]!).1.2.getD j undef := by
      have hq : (i * k + j) / k = i := by rw [Nat.add_comm, Nat.add_mul_div_right _ _ hk0, Nat.div_eq_of_lt hj]; omega
      have hr : (i * k + j) % k = j := by rw [Nat.add_comm, Nat.add_mul_mod_self_right, Nat.mod_eq_of_lt hj]
      have h1 := get_flatK enc k D' (i * k + j) (by rw [hz]; exact hlt)
      rw [hq, hr] at h1
      rw [List.getD_eq_getElem?_getD, Array.getElem?_toList, Array.getElem?_eq_getElem (by rw [size_flatK, hz]; exact hlt)]
      rw [getElem!_pos _ _ (by rw [size_flatK, hz]; exact hlt)] at h1
      simp only [Option.getD_some]
      rw [h1]
      have hlt2 : j < (D'[i]!).1.2.length := by rw [(D'[i]!).2.2.1]; exact hj
      show ((D'[i]!).1.2)[j]! = _
      rw [getElem!_pos (D'[i]!).1.2 j hlt2, List.getD_eq_getElem?_getD, List.getElem?_eq_getElem hlt2]; rfl
    rw [e3]
    unfold gt2
    rw [(hD'g i hi).1]
    exact ((D'[i]!).2.2.2.2.2 j hj).mono fun b hb hlt => ⟨hb, sortW_block _ _ _ _ _ _ _ (hGok b (.inl hb)).1 hlt⟩
end Go.Proofs.YtcdbodnhimbddaaGreat
/-
  DERIVED: THE SHELF's CONTRACTS AT THIS DUMP, IN PLAIN WORDS (tools/lay-plain.mjs out of 'YtcdbodnhimbddaaGreatSortTry.lean', which tools/lay-shelf.mjs wrote): THE SAME DECLARATIONS UNDER THE SAME NAMES: 'import', 'namespace', 'open', 'def', 'theorem' AND NOTHING ELSE: no command of the shelf's: FOR A HAND-IN. Each laying: the table of numbers ('.._ren') and one theorem, a field a fact of the dump's own or the kernel's comparison; each contract: ONE APPLICATION.
-/
namespace Go.Proofs.YtcdbodnhimbddaaGreat
open Go.Shelf
def sortPt_ren : Go.Shelf.Ren := ⟨fun | 6 => 99 | 15 => 42 | 14 => 104 | 28 => 73 | 29 => 74 | 20 => 105 | 21 => 106 | 22 => 107 | 23 => 108 | 24 => 109 | 25 => 110 | 26 => 111 | 27 => 112 | 46 => 113 | 47 => 82 | 48 => 83 | 49 => 114 | 50 => 115 | 57 => 116 | n => n, fun | 22 => 80 | 24 => 49 | 25 => 158 | 3 => 3 | 39 => 91 | 0 => 0 | 53 => 113 | 55 => 116 | 4 => 4 | 46 => 125 | 45 => 124 | 50 => 102 | 5 => 5 | 9 => 9 | 66 => 139 | 70 => 143 | 76 => 156 | 77 => 74 | n => n, fun | n => n⟩
theorem sortPt : Go.Proofs.SlLaysF0.n6 Tryz.prog sortPt_ren := {
  mixed := by kernel_rfl
  f6 := ⟨Tryz.f99.name, by decide, Tryz.func99.trans (congrArg some (by kernel_rfl))⟩
  f14 := ⟨Tryz.f104.name, by decide, Tryz.func104.trans (congrArg some (by kernel_rfl))⟩
  f15 := Tryz.func42.trans (congrArg some (by kernel_rfl))
  f20 := ⟨Tryz.f105.name, by decide, Tryz.func105.trans (congrArg some (by kernel_rfl))⟩
  f21 := ⟨Tryz.f106.name, by decide, Tryz.func106.trans (congrArg some (by kernel_rfl))⟩
  f22 := ⟨Tryz.f107.name, by decide, Tryz.func107.trans (congrArg some (by kernel_rfl))⟩
  f23 := ⟨Tryz.f108.name, by decide, Tryz.func108.trans (congrArg some (by kernel_rfl))⟩
  f24 := ⟨Tryz.f109.name, by decide, Tryz.func109.trans (congrArg some (by kernel_rfl))⟩
  f25 := ⟨Tryz.f110.name, by decide, Tryz.func110.trans (congrArg some (by kernel_rfl))⟩
  f26 := ⟨Tryz.f111.name, by decide, Tryz.func111.trans (congrArg some (by kernel_rfl))⟩
  f27 := ⟨Tryz.f112.name, by decide, Tryz.func112.trans (congrArg some (by kernel_rfl))⟩
  f28 := Tryz.func73.trans (congrArg some (by kernel_rfl))
  f29 := Tryz.func74.trans (congrArg some (by kernel_rfl))
  f46 := ⟨Tryz.f113.name, by decide, Tryz.func113.trans (congrArg some (by kernel_rfl))⟩
  f47 := Tryz.func82.trans (congrArg some (by kernel_rfl))
  f48 := Tryz.func83.trans (congrArg some (by kernel_rfl))
  f49 := ⟨Tryz.f114.name, by decide, Tryz.func114.trans (congrArg some (by kernel_rfl))⟩
  f50 := ⟨Tryz.f115.name, by decide, Tryz.func115.trans (congrArg some (by kernel_rfl))⟩
  f57 := ⟨Tryz.f116.name, by decide, Tryz.func116.trans (congrArg some (by kernel_rfl))⟩
  t0 := Tryz.underlying0
  a0 := Tryz.isAgg0
  z0 := Tryz.sizeOf0
  v0 := Tryz.zeroValue0
  t3 := Tryz.underlying3
  a3 := Tryz.isAgg3
  z3 := Tryz.sizeOf3
  v3 := Tryz.zeroValue3
  t4 := Tryz.underlying4
  a4 := Tryz.isAgg4
  z4 := Tryz.sizeOf4
  v4 := Tryz.zeroValue4
  t5 := Tryz.underlying5
  a5 := Tryz.isAgg5
  z5 := Tryz.sizeOf5
  v5 := Tryz.zeroValue5
  t9 := Tryz.underlying9
  a9 := Tryz.isAgg9
  z9 := Tryz.sizeOf9
  v9 := Tryz.zeroValue9
  t22 := Tryz.underlying80
  a22 := Tryz.isAgg80
  z22 := Tryz.sizeOf80
  v22 := Tryz.zeroValue80
  t25 := Tryz.underlying158
  a25 := Tryz.isAgg158
  z25 := Tryz.sizeOf158
  v25 := Tryz.zeroValue158
  t39 := Tryz.underlying91
  a39 := Tryz.isAgg91
  z39 := Tryz.sizeOf91
  v39 := Tryz.zeroValue91
  t45 := Tryz.underlying124
  a45 := Tryz.isAgg124
  z45 := Tryz.sizeOf124
  v45 := Tryz.zeroValue124
  t46 := Tryz.underlying125
  a46 := Tryz.isAgg125
  z46 := Tryz.sizeOf125
  v46 := Tryz.zeroValue125
  t50 := Tryz.underlying102
  a50 := Tryz.isAgg102
  z50 := Tryz.sizeOf102
  v50 := Tryz.zeroValue102
  t53 := Tryz.underlying113
  a53 := Tryz.isAgg113
  z53 := Tryz.sizeOf113
  v53 := Tryz.zeroValue113
  t55 := Tryz.underlying116
  a55 := Tryz.isAgg116
  z55 := Tryz.sizeOf116
  v55 := Tryz.zeroValue116
  t66 := Tryz.underlying139
  a66 := Tryz.isAgg139
  z66 := Tryz.sizeOf139
  v66 := Tryz.zeroValue139
  t70 := Tryz.underlying143
  a70 := Tryz.isAgg143
  z70 := Tryz.sizeOf143
  v70 := Tryz.zeroValue143
  t76 := Tryz.underlying156
  a76 := Tryz.isAgg156
  z76 := Tryz.sizeOf156
  v76 := Tryz.zeroValue156
  t77 := Tryz.underlying74
  a77 := Tryz.isAgg74
  z77 := Tryz.sizeOf74
  v77 := Tryz.zeroValue74 }
def sortLo_ren : Go.Shelf.Ren := ⟨fun | 6 => 26 | 15 => 42 | 14 => 41 | 28 => 73 | 29 => 74 | 20 => 65 | 21 => 66 | 22 => 67 | 23 => 68 | 24 => 69 | 25 => 70 | 26 => 71 | 27 => 72 | 46 => 81 | 47 => 82 | 48 => 83 | 49 => 84 | 50 => 85 | 57 => 96 | n => n, fun | 22 => 28 | 24 => 35 | 25 => 69 | 3 => 3 | 39 => 91 | 0 => 0 | 53 => 113 | 55 => 116 | 4 => 4 | 46 => 125 | 45 => 124 | 50 => 102 | 5 => 5 | 9 => 9 | 66 => 139 | 70 => 143 | 76 => 156 | 77 => 74 | n => n, fun | n => n⟩
theorem sortLo : Go.Proofs.SlLaysF0.n6 Tryz.prog sortLo_ren := {
  mixed := by kernel_rfl
  f6 := ⟨Tryz.f26.name, by decide, Tryz.func26.trans (congrArg some (by kernel_rfl))⟩
  f14 := ⟨Tryz.f41.name, by decide, Tryz.func41.trans (congrArg some (by kernel_rfl))⟩
  f15 := Tryz.func42.trans (congrArg some (by kernel_rfl))
  f20 := ⟨Tryz.f65.name, by decide, Tryz.func65.trans (congrArg some (by kernel_rfl))⟩
  f21 := ⟨Tryz.f66.name, by decide, Tryz.func66.trans (congrArg some (by kernel_rfl))⟩
  f22 := ⟨Tryz.f67.name, by decide, Tryz.func67.trans (congrArg some (by kernel_rfl))⟩
  f23 := ⟨Tryz.f68.name, by decide, Tryz.func68.trans (congrArg some (by kernel_rfl))⟩
  f24 := ⟨Tryz.f69.name, by decide, Tryz.func69.trans (congrArg some (by kernel_rfl))⟩
  f25 := ⟨Tryz.f70.name, by decide, Tryz.func70.trans (congrArg some (by kernel_rfl))⟩
  f26 := ⟨Tryz.f71.name, by decide, Tryz.func71.trans (congrArg some (by kernel_rfl))⟩
  f27 := ⟨Tryz.f72.name, by decide, Tryz.func72.trans (congrArg some (by kernel_rfl))⟩
  f28 := Tryz.func73.trans (congrArg some (by kernel_rfl))
  f29 := Tryz.func74.trans (congrArg some (by kernel_rfl))
  f46 := ⟨Tryz.f81.name, by decide, Tryz.func81.trans (congrArg some (by kernel_rfl))⟩
  f47 := Tryz.func82.trans (congrArg some (by kernel_rfl))
  f48 := Tryz.func83.trans (congrArg some (by kernel_rfl))
  f49 := ⟨Tryz.f84.name, by decide, Tryz.func84.trans (congrArg some (by kernel_rfl))⟩
  f50 := ⟨Tryz.f85.name, by decide, Tryz.func85.trans (congrArg some (by kernel_rfl))⟩
  f57 := ⟨Tryz.f96.name, by decide, Tryz.func96.trans (congrArg some (by kernel_rfl))⟩
  t0 := Tryz.underlying0
  a0 := Tryz.isAgg0
  z0 := Tryz.sizeOf0
  v0 := Tryz.zeroValue0
  t3 := Tryz.underlying3
  a3 := Tryz.isAgg3
  z3 := Tryz.sizeOf3
  v3 := Tryz.zeroValue3
  t4 := Tryz.underlying4
  a4 := Tryz.isAgg4
  z4 := Tryz.sizeOf4
  v4 := Tryz.zeroValue4
  t5 := Tryz.underlying5
  a5 := Tryz.isAgg5
  z5 := Tryz.sizeOf5
  v5 := Tryz.zeroValue5
  t9 := Tryz.underlying9
  a9 := Tryz.isAgg9
  z9 := Tryz.sizeOf9
  v9 := Tryz.zeroValue9
  t22 := Tryz.underlying28
  a22 := Tryz.isAgg28
  z22 := Tryz.sizeOf28
  v22 := Tryz.zeroValue28
  t25 := Tryz.underlying69
  a25 := Tryz.isAgg69
  z25 := Tryz.sizeOf69
  v25 := Tryz.zeroValue69
  t39 := Tryz.underlying91
  a39 := Tryz.isAgg91
  z39 := Tryz.sizeOf91
  v39 := Tryz.zeroValue91
  t45 := Tryz.underlying124
  a45 := Tryz.isAgg124
  z45 := Tryz.sizeOf124
  v45 := Tryz.zeroValue124
  t46 := Tryz.underlying125
  a46 := Tryz.isAgg125
  z46 := Tryz.sizeOf125
  v46 := Tryz.zeroValue125
  t50 := Tryz.underlying102
  a50 := Tryz.isAgg102
  z50 := Tryz.sizeOf102
  v50 := Tryz.zeroValue102
  t53 := Tryz.underlying113
  a53 := Tryz.isAgg113
  z53 := Tryz.sizeOf113
  v53 := Tryz.zeroValue113
  t55 := Tryz.underlying116
  a55 := Tryz.isAgg116
  z55 := Tryz.sizeOf116
  v55 := Tryz.zeroValue116
  t66 := Tryz.underlying139
  a66 := Tryz.isAgg139
  z66 := Tryz.sizeOf139
  v66 := Tryz.zeroValue139
  t70 := Tryz.underlying143
  a70 := Tryz.isAgg143
  z70 := Tryz.sizeOf143
  v70 := Tryz.zeroValue143
  t76 := Tryz.underlying156
  a76 := Tryz.isAgg156
  z76 := Tryz.sizeOf156
  v76 := Tryz.zeroValue156
  t77 := Tryz.underlying74
  a77 := Tryz.isAgg74
  z77 := Tryz.sizeOf74
  v77 := Tryz.zeroValue74 }
end Go.Proofs.YtcdbodnhimbddaaGreat
/- planes, polygons, volumes: what the run ends in. -/
namespace Go.Proofs.YtcdbodnhimbddaaGreat
open Go.RowKit
set_option linter.unusedVariables false
set_option maxRecDepth 100000
namespace SecF
--GAMMA
def Γ : FuncId → Option Ca := fun f =>
  if f = 47 ∨ f = 98 ∨ f = 102 ∨ f = 97 ∨ f = 86 ∨ f = 101 ∨ f = 87 ∨ f = 89 ∨ f = 103 ∨ f = 93 ∨ f = 88 ∨ f = 90 ∨ f = 75 ∨ f = 77 ∨ f = 92 ∨ f = 44 ∨ f = 64 ∨ f = 55 ∨ f = 79 ∨ f = 43 ∨ f = 38 ∨ f = 40 ∨ f = 30 ∨ f = 34 ∨ f = 29 ∨ f = 16 ∨ f = 45 then some (.fn .sc)
  else if f = 51 ∨ f = 52 ∨ f = 50 ∨ f = 53 ∨ f = 76 ∨ f = 35 ∨ f = 46 ∨ f = 33 ∨ f = 15 then some (.fn (.tup [.sc, .sc]))
  else if f = 91 then some (.fn (.row 49 2 true))
  else if f = 19 then some (.fn (.row 53 6 true))
  else if f = 18 then some (.fn (.row 79 2 false))
  else if f = 36 then some (.fn (.agg [.row 49 2 true, .sc, .sc]))
  else if f = 54 then some (.fn (.row 90 3 true))
  else if f = 37 then some (.fn (.tup [.row 90 3 true, .sc]))
  else if f = 99 then some (.upd false)
  else some .inl
def ann : FuncId → Nat → LoopEx := fun f r => if f = 38 ∧ r = 25 then ⟨[], [], [], [(3, 2, 0, 0)]⟩ else ⟨[], [], [], []⟩
--END GAMMA
theorem pcheck_form (x0 r : AV) : fnF Tryz.prog Γ ann 3 47 Tryz.f47 (Tryz.f47.body.getD .skip) (.nil) [x0] (.sc) r = (((AV.isAgg x0 2) ∧
((AV.binOk Go.BinOp.lss (AV.cel x0 0) (AV.int (-1000000))) ∧
((AV.isBool (AV.bin Go.BinOp.lss (AV.cel x0 0) (AV.int (-1000000)))) ∧
(((isT (AV.bin Go.BinOp.lss (AV.cel x0 0) (AV.int (-1000000)))) →
  ((AV.isBool (AV.bin Go.BinOp.lss (AV.cel x0 0) (AV.int (-1000000)))) ∧
  ((isT (AV.bin Go.BinOp.lss (AV.cel x0 0) (AV.int (-1000000)))) ∧
  ((AV.flat (AV.int 4)) ∧
  (fSame (AV.int 4) r))))) ∧
((isF (AV.bin Go.BinOp.lss (AV.cel x0 0) (AV.int (-1000000)))) →
  ((AV.binOk Go.BinOp.gtr (AV.cel x0 0) (AV.int 1000000)) ∧
  ((AV.isBool (AV.bin Go.BinOp.lss (AV.cel x0 0) (AV.int (-1000000)))) ∧
  ((isF (AV.bin Go.BinOp.lss (AV.cel x0 0) (AV.int (-1000000)))) ∧
  ((AV.isBool (AV.bin Go.BinOp.gtr (AV.cel x0 0) (AV.int 1000000))) ∧
  (((isT (AV.bin Go.BinOp.gtr (AV.cel x0 0) (AV.int 1000000))) →
    ((AV.isBool (AV.bin Go.BinOp.gtr (AV.cel x0 0) (AV.int 1000000))) ∧
    ((isT (AV.bin Go.BinOp.gtr (AV.cel x0 0) (AV.int 1000000))) ∧
    ((AV.flat (AV.int 4)) ∧
    (fSame (AV.int 4) r))))) ∧
  ((isF (AV.bin Go.BinOp.gtr (AV.cel x0 0) (AV.int 1000000))) →
    ((AV.binOk Go.BinOp.lss (AV.cel x0 1) (AV.int (-1000000))) ∧
    ((AV.isBool (AV.bin Go.BinOp.gtr (AV.cel x0 0) (AV.int 1000000))) ∧
    ((isF (AV.bin Go.BinOp.gtr (AV.cel x0 0) (AV.int 1000000))) ∧
    ((AV.isBool (AV.bin Go.BinOp.lss (AV.cel x0 1) (AV.int (-1000000)))) ∧
    (((isT (AV.bin Go.BinOp.lss (AV.cel x0 1) (AV.int (-1000000)))) →
      ((AV.isBool (AV.bin Go.BinOp.lss (AV.cel x0 1) (AV.int (-1000000)))) ∧
      ((isT (AV.bin Go.BinOp.lss (AV.cel x0 1) (AV.int (-1000000)))) ∧
      ((AV.flat (AV.int 4)) ∧
      (fSame (AV.int 4) r))))) ∧
    ((isF (AV.bin Go.BinOp.lss (AV.cel x0 1) (AV.int (-1000000)))) →
      ((AV.binOk Go.BinOp.gtr (AV.cel x0 1) (AV.int 1000000)) ∧
      ((AV.isBool (AV.bin Go.BinOp.lss (AV.cel x0 1) (AV.int (-1000000)))) ∧
      ((isF (AV.bin Go.BinOp.lss (AV.cel x0 1) (AV.int (-1000000)))) ∧
      ((AV.isBool (AV.bin Go.BinOp.gtr (AV.cel x0 1) (AV.int 1000000))) ∧
      (((isT (AV.bin Go.BinOp.gtr (AV.cel x0 1) (AV.int 1000000))) →
        ((AV.flat (AV.int 4)) ∧
        (fSame (AV.int 4) r))) ∧
      ((isF (AV.bin Go.BinOp.gtr (AV.cel x0 1) (AV.int 1000000))) →
        ((AV.flat (AV.int 0)) ∧
        (fSame (AV.int 0) r)))))))))))))))))))))))))) := by kernel_rfl
theorem sub_form (x0 x1 r : AV) : fnF Tryz.prog Γ ann 3 98 Tryz.f98 (Tryz.f98.body.getD .skip) (.nil) [x0, x1] (.sc) r = (((AV.isAgg x0 2) ∧
((AV.isAgg x1 2) ∧
((AV.binOk Go.BinOp.sub (AV.cel x0 0) (AV.cel x1 0)) ∧
((AV.binOk Go.BinOp.sub (AV.cel x0 1) (AV.cel x1 1)) ∧
((AV.isOne (AV.bin Go.BinOp.sub (AV.cel x0 0) (AV.cel x1 0))) ∧
((AV.isOne (AV.bin Go.BinOp.sub (AV.cel x0 1) (AV.cel x1 1))) ∧
((AV.flat (AV.agg [(AV.bin Go.BinOp.sub (AV.cel x0 0) (AV.cel x1 0)), (AV.bin Go.BinOp.sub (AV.cel x0 1) (AV.cel x1 1))])) ∧
(fSame (AV.agg [(AV.bin Go.BinOp.sub (AV.cel x0 0) (AV.cel x1 0)), (AV.bin Go.BinOp.sub (AV.cel x0 1) (AV.cel x1 1))]) r))))))))) := by kernel_rfl
theorem dot_form (x0 x1 r : AV) : fnF Tryz.prog Γ ann 3 102 Tryz.f102 (Tryz.f102.body.getD .skip) (.nil) [x0, x1] (.sc) r = (((AV.isAgg x0 2) ∧
((AV.isAgg x1 2) ∧
((AV.binOk Go.BinOp.mul (AV.cel x0 0) (AV.cel x1 0)) ∧
((AV.binOk Go.BinOp.mul (AV.cel x0 1) (AV.cel x1 1)) ∧
((AV.binOk Go.BinOp.add (AV.bin Go.BinOp.mul (AV.cel x0 0) (AV.cel x1 0)) (AV.bin Go.BinOp.mul (AV.cel x0 1) (AV.cel x1 1))) ∧
((AV.flat (AV.bin Go.BinOp.add (AV.bin Go.BinOp.mul (AV.cel x0 0) (AV.cel x1 0)) (AV.bin Go.BinOp.mul (AV.cel x0 1) (AV.cel x1 1)))) ∧
(fSame (AV.bin Go.BinOp.add (AV.bin Go.BinOp.mul (AV.cel x0 0) (AV.cel x1 0)) (AV.bin Go.BinOp.mul (AV.cel x0 1) (AV.cel x1 1))) r)))))))) := by kernel_rfl
theorem cross_form (x0 x1 r : AV) : fnF Tryz.prog Γ ann 3 97 Tryz.f97 (Tryz.f97.body.getD .skip) (.nil) [x0, x1] (.sc) r = (((AV.isAgg x0 2) ∧
((AV.isAgg x1 2) ∧
((AV.binOk Go.BinOp.mul (AV.cel x0 0) (AV.cel x1 1)) ∧
((AV.binOk Go.BinOp.mul (AV.cel x0 1) (AV.cel x1 0)) ∧
((AV.binOk Go.BinOp.sub (AV.bin Go.BinOp.mul (AV.cel x0 0) (AV.cel x1 1)) (AV.bin Go.BinOp.mul (AV.cel x0 1) (AV.cel x1 0))) ∧
((AV.flat (AV.bin Go.BinOp.sub (AV.bin Go.BinOp.mul (AV.cel x0 0) (AV.cel x1 1)) (AV.bin Go.BinOp.mul (AV.cel x0 1) (AV.cel x1 0)))) ∧
(fSame (AV.bin Go.BinOp.sub (AV.bin Go.BinOp.mul (AV.cel x0 0) (AV.cel x1 1)) (AV.bin Go.BinOp.mul (AV.cel x0 1) (AV.cel x1 0))) r)))))))) := by kernel_rfl
theorem turn_form (x0 x1 x2 r : AV) : fnF Tryz.prog Γ ann 3 86 Tryz.f86 (Tryz.f86.body.getD .skip) (.nil) [x0, x1, x2] (.sc) r = (((AV.isAgg x0 2) ∧
((AV.isAgg x1 2) ∧
((AV.isAgg x2 2) ∧
(∃ r385 : AV, ((Fn Tryz.prog 98 [(AV.agg [(AV.cel x1 0), (AV.cel x1 1)]), (AV.agg [(AV.cel x0 0), (AV.cel x0 1)])] Sh.sc r385) ∧
(∃ r577 : AV, ((Fn Tryz.prog 98 [(AV.agg [(AV.cel x2 0), (AV.cel x2 1)]), (AV.agg [(AV.cel x0 0), (AV.cel x0 1)])] Sh.sc r577) ∧
(∃ r641 : AV, ((Fn Tryz.prog 97 [r385, r577] Sh.sc r641) ∧
((AV.binOk Go.BinOp.gtr r641 (AV.int 0)) ∧
((AV.isBool (AV.bin Go.BinOp.gtr r641 (AV.int 0))) ∧
(((isT (AV.bin Go.BinOp.gtr r641 (AV.int 0))) →
  ((AV.flat (AV.int 1)) ∧
  (fSame (AV.int 1) r))) ∧
((isF (AV.bin Go.BinOp.gtr r641 (AV.int 0))) →
  ((AV.binOk Go.BinOp.lss r641 (AV.int 0)) ∧
  ((AV.isBool (AV.bin Go.BinOp.lss r641 (AV.int 0))) ∧
  (((isT (AV.bin Go.BinOp.lss r641 (AV.int 0))) →
    ((AV.flat (AV.int (-1))) ∧
    (fSame (AV.int (-1)) r))) ∧
  ((isF (AV.bin Go.BinOp.lss r641 (AV.int 0))) →
    ((AV.flat (AV.int 0)) ∧
    (fSame (AV.int 0) r)))))))))))))))))))) := by kernel_rfl
theorem square_form (x0 x1 r : AV) : fnF Tryz.prog Γ ann 3 101 Tryz.f101 (Tryz.f101.body.getD .skip) (.nil) [x0, x1] (.sc) r = (((AV.isAgg x0 2) ∧
((AV.isAgg x1 2) ∧
(∃ r321 : AV, ((Fn Tryz.prog 98 [(AV.agg [(AV.cel x0 0), (AV.cel x0 1)]), (AV.agg [(AV.cel x1 0), (AV.cel x1 1)])] Sh.sc r321) ∧
((AV.isAgg r321 2) ∧
(∃ r641 : AV, ((Fn Tryz.prog 102 [(AV.agg [(AV.cel r321 0), (AV.cel r321 1)]), (AV.agg [(AV.cel r321 0), (AV.cel r321 1)])] Sh.sc r641) ∧
((AV.flat r641) ∧
(fSame r641 r)))))))))) := by kernel_rfl
theorem divd_form (x0 x1 r : AV) : fnF Tryz.prog Γ ann 3 51 Tryz.f51 (Tryz.f51.body.getD .skip) (.nil) [x0, x1] (.tup [.sc, .sc]) r = (((AV.binOk Go.BinOp.eql x1 (AV.int 0)) ∧
((AV.isBool (AV.bin Go.BinOp.eql x1 (AV.int 0))) ∧
(((isT (AV.bin Go.BinOp.eql x1 (AV.int 0))) →
  ((AV.flat (AV.int 0)) ∧
  ((AV.flat (AV.int 10)) ∧
  (fSame (AV.tup [(AV.int 0), (AV.int 10)]) r)))) ∧
((isF (AV.bin Go.BinOp.eql x1 (AV.int 0))) →
  ((AV.binOk Go.BinOp.eql x0 (AV.int (-9223372036854775808))) ∧
  ((AV.isBool (AV.bin Go.BinOp.eql x0 (AV.int (-9223372036854775808)))) ∧
  (((isT (AV.bin Go.BinOp.eql x0 (AV.int (-9223372036854775808)))) →
    ((AV.binOk Go.BinOp.eql x1 (AV.int (-1))) ∧
    ((AV.isBool (AV.bin Go.BinOp.eql x0 (AV.int (-9223372036854775808)))) ∧
    ((isT (AV.bin Go.BinOp.eql x0 (AV.int (-9223372036854775808)))) ∧
    ((AV.isBool (AV.bin Go.BinOp.eql x1 (AV.int (-1)))) ∧
    (((isT (AV.bin Go.BinOp.eql x1 (AV.int (-1)))) →
      ((AV.flat (AV.int 0)) ∧
      ((AV.flat (AV.int 2)) ∧
      (fSame (AV.tup [(AV.int 0), (AV.int 2)]) r)))) ∧
    ((isF (AV.bin Go.BinOp.eql x1 (AV.int (-1)))) →
      ((AV.binOk Go.BinOp.quo x0 x1) ∧
      ((AV.binOk Go.BinOp.rem x0 x1) ∧
      ((AV.binOk Go.BinOp.neq (AV.bin Go.BinOp.rem x0 x1) (AV.int 0)) ∧
      ((AV.isBool (AV.bin Go.BinOp.neq (AV.bin Go.BinOp.rem x0 x1) (AV.int 0))) ∧
      (((isT (AV.bin Go.BinOp.neq (AV.bin Go.BinOp.rem x0 x1) (AV.int 0))) →
        ((AV.binOk Go.BinOp.lss x0 (AV.int 0)) ∧
        ((AV.binOk Go.BinOp.lss x1 (AV.int 0)) ∧
        ((AV.isBool (AV.bin Go.BinOp.lss x0 (AV.int 0))) ∧
        ((AV.isBool (AV.bin Go.BinOp.lss x1 (AV.int 0))) ∧
        ((AV.isBool (AV.bin Go.BinOp.neq (AV.bin Go.BinOp.rem x0 x1) (AV.int 0))) ∧
        ((isT (AV.bin Go.BinOp.neq (AV.bin Go.BinOp.rem x0 x1) (AV.int 0))) ∧
        ((AV.isBool (AV.neB (AV.bin Go.BinOp.lss x0 (AV.int 0)) (AV.bin Go.BinOp.lss x1 (AV.int 0)))) ∧
        (((isT (AV.neB (AV.bin Go.BinOp.lss x0 (AV.int 0)) (AV.bin Go.BinOp.lss x1 (AV.int 0)))) →
          ((AV.binOk Go.BinOp.sub (AV.bin Go.BinOp.quo x0 x1) (AV.int 1)) ∧
          ((AV.flat (AV.bin Go.BinOp.sub (AV.bin Go.BinOp.quo x0 x1) (AV.int 1))) ∧
          ((AV.flat (AV.int 0)) ∧
          (fSame (AV.tup [(AV.bin Go.BinOp.sub (AV.bin Go.BinOp.quo x0 x1) (AV.int 1)), (AV.int 0)]) r))))) ∧
        ((isF (AV.neB (AV.bin Go.BinOp.lss x0 (AV.int 0)) (AV.bin Go.BinOp.lss x1 (AV.int 0)))) →
          ((AV.flat (AV.bin Go.BinOp.quo x0 x1)) ∧
          ((AV.flat (AV.int 0)) ∧
          (fSame (AV.tup [(AV.bin Go.BinOp.quo x0 x1), (AV.int 0)]) r))))))))))))) ∧
      ((isF (AV.bin Go.BinOp.neq (AV.bin Go.BinOp.rem x0 x1) (AV.int 0))) →
        ((AV.isBool (AV.bin Go.BinOp.neq (AV.bin Go.BinOp.rem x0 x1) (AV.int 0))) ∧
        ((isF (AV.bin Go.BinOp.neq (AV.bin Go.BinOp.rem x0 x1) (AV.int 0))) ∧
        ((AV.flat (AV.bin Go.BinOp.quo x0 x1)) ∧
        ((AV.flat (AV.int 0)) ∧
        (fSame (AV.tup [(AV.bin Go.BinOp.quo x0 x1), (AV.int 0)]) r)))))))))))))))))) ∧
  ((isF (AV.bin Go.BinOp.eql x0 (AV.int (-9223372036854775808)))) →
    ((AV.isBool (AV.bin Go.BinOp.eql x0 (AV.int (-9223372036854775808)))) ∧
    ((isF (AV.bin Go.BinOp.eql x0 (AV.int (-9223372036854775808)))) ∧
    ((AV.binOk Go.BinOp.quo x0 x1) ∧
    ((AV.binOk Go.BinOp.rem x0 x1) ∧
    ((AV.binOk Go.BinOp.neq (AV.bin Go.BinOp.rem x0 x1) (AV.int 0)) ∧
    ((AV.isBool (AV.bin Go.BinOp.neq (AV.bin Go.BinOp.rem x0 x1) (AV.int 0))) ∧
    (((isT (AV.bin Go.BinOp.neq (AV.bin Go.BinOp.rem x0 x1) (AV.int 0))) →
      ((AV.binOk Go.BinOp.lss x0 (AV.int 0)) ∧
      ((AV.binOk Go.BinOp.lss x1 (AV.int 0)) ∧
      ((AV.isBool (AV.bin Go.BinOp.lss x0 (AV.int 0))) ∧
      ((AV.isBool (AV.bin Go.BinOp.lss x1 (AV.int 0))) ∧
      ((AV.isBool (AV.bin Go.BinOp.neq (AV.bin Go.BinOp.rem x0 x1) (AV.int 0))) ∧
      ((isT (AV.bin Go.BinOp.neq (AV.bin Go.BinOp.rem x0 x1) (AV.int 0))) ∧
      ((AV.isBool (AV.neB (AV.bin Go.BinOp.lss x0 (AV.int 0)) (AV.bin Go.BinOp.lss x1 (AV.int 0)))) ∧
      (((isT (AV.neB (AV.bin Go.BinOp.lss x0 (AV.int 0)) (AV.bin Go.BinOp.lss x1 (AV.int 0)))) →
        ((AV.binOk Go.BinOp.sub (AV.bin Go.BinOp.quo x0 x1) (AV.int 1)) ∧
        ((AV.flat (AV.bin Go.BinOp.sub (AV.bin Go.BinOp.quo x0 x1) (AV.int 1))) ∧
        ((AV.flat (AV.int 0)) ∧
        (fSame (AV.tup [(AV.bin Go.BinOp.sub (AV.bin Go.BinOp.quo x0 x1) (AV.int 1)), (AV.int 0)]) r))))) ∧
      ((isF (AV.neB (AV.bin Go.BinOp.lss x0 (AV.int 0)) (AV.bin Go.BinOp.lss x1 (AV.int 0)))) →
        ((AV.flat (AV.bin Go.BinOp.quo x0 x1)) ∧
        ((AV.flat (AV.int 0)) ∧
        (fSame (AV.tup [(AV.bin Go.BinOp.quo x0 x1), (AV.int 0)]) r))))))))))))) ∧
    ((isF (AV.bin Go.BinOp.neq (AV.bin Go.BinOp.rem x0 x1) (AV.int 0))) →
      ((AV.isBool (AV.bin Go.BinOp.neq (AV.bin Go.BinOp.rem x0 x1) (AV.int 0))) ∧
      ((isF (AV.bin Go.BinOp.neq (AV.bin Go.BinOp.rem x0 x1) (AV.int 0))) ∧
      ((AV.flat (AV.bin Go.BinOp.quo x0 x1)) ∧
      ((AV.flat (AV.int 0)) ∧
      (fSame (AV.tup [(AV.bin Go.BinOp.quo x0 x1), (AV.int 0)]) r)))))))))))))))))))))) := by kernel_rfl
theorem divu_form (x0 x1 r : AV) : fnF Tryz.prog Γ ann 3 52 Tryz.f52 (Tryz.f52.body.getD .skip) (.nil) [x0, x1] (.tup [.sc, .sc]) r = ((∃ r257 : AV, ((Fn Tryz.prog 51 [x0, x1] (Sh.tup [Sh.sc, Sh.sc]) r257) ∧
((AV.binOk Go.BinOp.eql (AV.prj r257 1) (AV.int 0)) ∧
((AV.isBool (AV.bin Go.BinOp.eql (AV.prj r257 1) (AV.int 0))) ∧
(((isT (AV.bin Go.BinOp.eql (AV.prj r257 1) (AV.int 0))) →
  ((AV.binOk Go.BinOp.rem x0 x1) ∧
  ((AV.binOk Go.BinOp.neq (AV.bin Go.BinOp.rem x0 x1) (AV.int 0)) ∧
  ((AV.isBool (AV.bin Go.BinOp.eql (AV.prj r257 1) (AV.int 0))) ∧
  ((isT (AV.bin Go.BinOp.eql (AV.prj r257 1) (AV.int 0))) ∧
  ((AV.isBool (AV.bin Go.BinOp.neq (AV.bin Go.BinOp.rem x0 x1) (AV.int 0))) ∧
  (((isT (AV.bin Go.BinOp.neq (AV.bin Go.BinOp.rem x0 x1) (AV.int 0))) →
    ((AV.binOk Go.BinOp.add (AV.prj r257 0) (AV.int 1)) ∧
    ((AV.flat (AV.bin Go.BinOp.add (AV.prj r257 0) (AV.int 1))) ∧
    ((AV.flat (AV.prj r257 1)) ∧
    (fSame (AV.tup [(AV.bin Go.BinOp.add (AV.prj r257 0) (AV.int 1)), (AV.prj r257 1)]) r))))) ∧
  ((isF (AV.bin Go.BinOp.neq (AV.bin Go.BinOp.rem x0 x1) (AV.int 0))) →
    ((AV.flat (AV.prj r257 0)) ∧
    ((AV.flat (AV.prj r257 1)) ∧
    (fSame (AV.tup [(AV.prj r257 0), (AV.prj r257 1)]) r))))))))))) ∧
((isF (AV.bin Go.BinOp.eql (AV.prj r257 1) (AV.int 0))) →
  ((AV.isBool (AV.bin Go.BinOp.eql (AV.prj r257 1) (AV.int 0))) ∧
  ((isF (AV.bin Go.BinOp.eql (AV.prj r257 1) (AV.int 0))) ∧
  ((AV.flat (AV.prj r257 0)) ∧
  ((AV.flat (AV.prj r257 1)) ∧
  (fSame (AV.tup [(AV.prj r257 0), (AV.prj r257 1)]) r)))))))))))) := by kernel_rfl
theorem toward_form (x0 x1 x2 x3 r : AV) : fnF Tryz.prog Γ ann 3 50 Tryz.f50 (Tryz.f50.body.getD .skip) (.nil) [x0, x1, x2, x3] (.tup [.sc, .sc]) r = (((AV.isAgg x0 2) ∧
((AV.isAgg x1 2) ∧
((AV.binOk Go.BinOp.leq x3 (AV.int 0)) ∧
((AV.isBool (AV.bin Go.BinOp.leq x3 (AV.int 0))) ∧
(((isT (AV.bin Go.BinOp.leq x3 (AV.int 0))) →
  ((AV.flat (AV.agg [(AV.int 0), (AV.int 0)])) ∧
  ((AV.flat (AV.int 10)) ∧
  (fSame (AV.tup [(AV.agg [(AV.int 0), (AV.int 0)]), (AV.int 10)]) r)))) ∧
((isF (AV.bin Go.BinOp.leq x3 (AV.int 0))) →
  ((AV.binOk Go.BinOp.gtr x3 (AV.int 200000)) ∧
  ((AV.isBool (AV.bin Go.BinOp.gtr x3 (AV.int 200000))) ∧
  (((isT (AV.bin Go.BinOp.gtr x3 (AV.int 200000))) →
    ((AV.isBool (AV.bin Go.BinOp.gtr x3 (AV.int 200000))) ∧
    ((isT (AV.bin Go.BinOp.gtr x3 (AV.int 200000))) ∧
    ((AV.flat (AV.agg [(AV.int 0), (AV.int 0)])) ∧
    ((AV.flat (AV.int 4)) ∧
    (fSame (AV.tup [(AV.agg [(AV.int 0), (AV.int 0)]), (AV.int 4)]) r)))))) ∧
  ((isF (AV.bin Go.BinOp.gtr x3 (AV.int 200000))) →
    ((AV.binOk Go.BinOp.lss x2 (AV.int 0)) ∧
    ((AV.isBool (AV.bin Go.BinOp.gtr x3 (AV.int 200000))) ∧
    ((isF (AV.bin Go.BinOp.gtr x3 (AV.int 200000))) ∧
    ((AV.isBool (AV.bin Go.BinOp.lss x2 (AV.int 0))) ∧
    (((isT (AV.bin Go.BinOp.lss x2 (AV.int 0))) →
      ((AV.isBool (AV.bin Go.BinOp.lss x2 (AV.int 0))) ∧
      ((isT (AV.bin Go.BinOp.lss x2 (AV.int 0))) ∧
      ((AV.flat (AV.agg [(AV.int 0), (AV.int 0)])) ∧
      ((AV.flat (AV.int 4)) ∧
      (fSame (AV.tup [(AV.agg [(AV.int 0), (AV.int 0)]), (AV.int 4)]) r)))))) ∧
    ((isF (AV.bin Go.BinOp.lss x2 (AV.int 0))) →
      ((AV.binOk Go.BinOp.gtr x2 x3) ∧
      ((AV.isBool (AV.bin Go.BinOp.lss x2 (AV.int 0))) ∧
      ((isF (AV.bin Go.BinOp.lss x2 (AV.int 0))) ∧
      ((AV.isBool (AV.bin Go.BinOp.gtr x2 x3)) ∧
      (((isT (AV.bin Go.BinOp.gtr x2 x3)) →
        ((AV.flat (AV.agg [(AV.int 0), (AV.int 0)])) ∧
        ((AV.flat (AV.int 4)) ∧
        (fSame (AV.tup [(AV.agg [(AV.int 0), (AV.int 0)]), (AV.int 4)]) r)))) ∧
      ((isF (AV.bin Go.BinOp.gtr x2 x3)) →
        (∃ r1281 : AV, ((Fn Tryz.prog 47 [(AV.agg [(AV.cel x0 0), (AV.cel x0 1)])] Sh.sc r1281) ∧
        ((AV.binOk Go.BinOp.neq r1281 (AV.int 0)) ∧
        ((AV.isBool (AV.bin Go.BinOp.neq r1281 (AV.int 0))) ∧
        (((isT (AV.bin Go.BinOp.neq r1281 (AV.int 0))) →
          (∃ r1601 : AV, ((Fn Tryz.prog 47 [(AV.agg [(AV.cel x0 0), (AV.cel x0 1)])] Sh.sc r1601) ∧
          ((AV.flat (AV.agg [(AV.int 0), (AV.int 0)])) ∧
          ((AV.flat r1601) ∧
          (fSame (AV.tup [(AV.agg [(AV.int 0), (AV.int 0)]), r1601]) r)))))) ∧
        ((isF (AV.bin Go.BinOp.neq r1281 (AV.int 0))) →
          (∃ r1537 : AV, ((Fn Tryz.prog 47 [(AV.agg [(AV.cel x1 0), (AV.cel x1 1)])] Sh.sc r1537) ∧
          ((AV.binOk Go.BinOp.neq r1537 (AV.int 0)) ∧
          ((AV.isBool (AV.bin Go.BinOp.neq r1537 (AV.int 0))) ∧
          (((isT (AV.bin Go.BinOp.neq r1537 (AV.int 0))) →
            (∃ r1857 : AV, ((Fn Tryz.prog 47 [(AV.agg [(AV.cel x1 0), (AV.cel x1 1)])] Sh.sc r1857) ∧
            ((AV.flat (AV.agg [(AV.int 0), (AV.int 0)])) ∧
            ((AV.flat r1857) ∧
            (fSame (AV.tup [(AV.agg [(AV.int 0), (AV.int 0)]), r1857]) r)))))) ∧
          ((isF (AV.bin Go.BinOp.neq r1537 (AV.int 0))) →
            ((AV.binOk Go.BinOp.sub (AV.cel x1 0) (AV.cel x0 0)) ∧
            ((AV.binOk Go.BinOp.mul (AV.bin Go.BinOp.sub (AV.cel x1 0) (AV.cel x0 0)) x2) ∧
            (∃ r2241 : AV, ((Fn Tryz.prog 51 [(AV.bin Go.BinOp.mul (AV.bin Go.BinOp.sub (AV.cel x1 0) (AV.cel x0 0)) x2), x3] (Sh.tup [Sh.sc, Sh.sc]) r2241) ∧
            ((AV.binOk Go.BinOp.sub (AV.cel x1 1) (AV.cel x0 1)) ∧
            ((AV.binOk Go.BinOp.mul (AV.bin Go.BinOp.sub (AV.cel x1 1) (AV.cel x0 1)) x2) ∧
            (∃ r3137 : AV, ((Fn Tryz.prog 51 [(AV.bin Go.BinOp.mul (AV.bin Go.BinOp.sub (AV.cel x1 1) (AV.cel x0 1)) x2), x3] (Sh.tup [Sh.sc, Sh.sc]) r3137) ∧
            ((AV.binOk Go.BinOp.add (AV.cel x0 0) (AV.prj r2241 0)) ∧
            ((AV.binOk Go.BinOp.add (AV.cel x0 1) (AV.prj r3137 0)) ∧
            ((AV.isOne (AV.bin Go.BinOp.add (AV.cel x0 0) (AV.prj r2241 0))) ∧
            ((AV.isOne (AV.bin Go.BinOp.add (AV.cel x0 1) (AV.prj r3137 0))) ∧
            ((AV.flat (AV.agg [(AV.bin Go.BinOp.add (AV.cel x0 0) (AV.prj r2241 0)), (AV.bin Go.BinOp.add (AV.cel x0 1) (AV.prj r3137 0))])) ∧
            ((AV.flat (AV.int 0)) ∧
            (fSame (AV.tup [(AV.agg [(AV.bin Go.BinOp.add (AV.cel x0 0) (AV.prj r2241 0)), (AV.bin Go.BinOp.add (AV.cel x0 1) (AV.prj r3137 0))]), (AV.int 0)]) r)))))))))))))))))))))))))))))))))))))))))))))))))) := by kernel_rfl
theorem next_form (x0 x1 r : AV) : fnF Tryz.prog Γ ann 3 87 Tryz.f87 (Tryz.f87.body.getD .skip) (.nil) [x0, x1] (.sc) r = (((AV.binOk Go.BinOp.add x1 (AV.int 1)) ∧
((AV.isSl x0 2) ∧
((AV.binOk Go.BinOp.rem (AV.bin Go.BinOp.add x1 (AV.int 1)) (AV.len x0)) ∧
((AV.isSl x0 2) ∧
((AV.inb x0 (AV.bin Go.BinOp.rem (AV.bin Go.BinOp.add x1 (AV.int 1)) (AV.len x0))) ∧
((AV.isAgg (AV.atAgg x0 (AV.bin Go.BinOp.rem (AV.bin Go.BinOp.add x1 (AV.int 1)) (AV.len x0)) 0 2) 2) ∧
((AV.flat (AV.agg [(AV.cel (AV.atAgg x0 (AV.bin Go.BinOp.rem (AV.bin Go.BinOp.add x1 (AV.int 1)) (AV.len x0)) 0 2) 0), (AV.cel (AV.atAgg x0 (AV.bin Go.BinOp.rem (AV.bin Go.BinOp.add x1 (AV.int 1)) (AV.len x0)) 0 2) 1)])) ∧
(fSame (AV.agg [(AV.cel (AV.atAgg x0 (AV.bin Go.BinOp.rem (AV.bin Go.BinOp.add x1 (AV.int 1)) (AV.len x0)) 0 2) 0), (AV.cel (AV.atAgg x0 (AV.bin Go.BinOp.rem (AV.bin Go.BinOp.add x1 (AV.int 1)) (AV.len x0)) 0 2) 1)]) r))))))))) := by kernel_rfl
theorem twice_form (x0 r : AV) : fnF Tryz.prog Γ ann 3 89 Tryz.f89 (Tryz.f89.body.getD .skip) (.nil) [x0] (.sc) r = (((AV.isSl x0 2) ∧
(fLoop 321 [(AV.int 0), (AV.int 0)] fun ys321 again321 =>
  ((AV.binOk Go.BinOp.lss (ys321.getD 1 default) (AV.len x0)) ∧
  ((AV.isBool (AV.bin Go.BinOp.lss (ys321.getD 1 default) (AV.len x0))) ∧
  (((isT (AV.bin Go.BinOp.lss (ys321.getD 1 default) (AV.len x0))) →
    ((AV.isSl x0 2) ∧
    ((AV.inb x0 (ys321.getD 1 default)) ∧
    (∃ r961 : AV, ((Fn Tryz.prog 87 [x0, (ys321.getD 1 default)] Sh.sc r961) ∧
    (∃ r1025 : AV, ((Fn Tryz.prog 97 [(AV.atAgg x0 (ys321.getD 1 default) 0 2), r961] Sh.sc r1025) ∧
    ((AV.binOk Go.BinOp.add (ys321.getD 0 default) r1025) ∧
    ((AV.binOk Go.BinOp.add (ys321.getD 1 default) (AV.int 1)) ∧
    (again321 [(AV.bin Go.BinOp.add (ys321.getD 0 default) r1025), (AV.bin Go.BinOp.add (ys321.getD 1 default) (AV.int 1))])))))))))) ∧
  ((isF (AV.bin Go.BinOp.lss (ys321.getD 1 default) (AV.len x0))) →
    ((AV.flat (ys321.getD 0 default)) ∧
    (fSame (ys321.getD 0 default) r))))))))) := by kernel_rfl
theorem between_form (x0 x1 x2 r : AV) : fnF Tryz.prog Γ ann 3 103 Tryz.f103 (Tryz.f103.body.getD .skip) (.nil) [x0, x1, x2] (.sc) r = (((AV.isAgg x0 2) ∧
((AV.isAgg x1 2) ∧
((AV.isAgg x2 2) ∧
((AV.isInt (AV.cel x0 0)) ∧
((AV.isInt (AV.cel x1 0)) ∧
((AV.binOk Go.BinOp.leq (AV.mn (AV.cel x0 0) (AV.cel x1 0)) (AV.cel x2 0)) ∧
((AV.isBool (AV.bin Go.BinOp.leq (AV.mn (AV.cel x0 0) (AV.cel x1 0)) (AV.cel x2 0))) ∧
(((isT (AV.bin Go.BinOp.leq (AV.mn (AV.cel x0 0) (AV.cel x1 0)) (AV.cel x2 0))) →
  ((AV.isInt (AV.cel x0 0)) ∧
  ((AV.isInt (AV.cel x1 0)) ∧
  ((AV.binOk Go.BinOp.leq (AV.cel x2 0) (AV.mx (AV.cel x0 0) (AV.cel x1 0))) ∧
  ((AV.isBool (AV.bin Go.BinOp.leq (AV.mn (AV.cel x0 0) (AV.cel x1 0)) (AV.cel x2 0))) ∧
  ((isT (AV.bin Go.BinOp.leq (AV.mn (AV.cel x0 0) (AV.cel x1 0)) (AV.cel x2 0))) ∧
  ((AV.isBool (AV.bin Go.BinOp.leq (AV.cel x2 0) (AV.mx (AV.cel x0 0) (AV.cel x1 0)))) ∧
  (((isT (AV.bin Go.BinOp.leq (AV.cel x2 0) (AV.mx (AV.cel x0 0) (AV.cel x1 0)))) →
    ((AV.isInt (AV.cel x0 1)) ∧
    ((AV.isInt (AV.cel x1 1)) ∧
    ((AV.binOk Go.BinOp.leq (AV.mn (AV.cel x0 1) (AV.cel x1 1)) (AV.cel x2 1)) ∧
    ((AV.isBool (AV.bin Go.BinOp.leq (AV.cel x2 0) (AV.mx (AV.cel x0 0) (AV.cel x1 0)))) ∧
    ((isT (AV.bin Go.BinOp.leq (AV.cel x2 0) (AV.mx (AV.cel x0 0) (AV.cel x1 0)))) ∧
    ((AV.isBool (AV.bin Go.BinOp.leq (AV.mn (AV.cel x0 1) (AV.cel x1 1)) (AV.cel x2 1))) ∧
    (((isT (AV.bin Go.BinOp.leq (AV.mn (AV.cel x0 1) (AV.cel x1 1)) (AV.cel x2 1))) →
      ((AV.isInt (AV.cel x0 1)) ∧
      ((AV.isInt (AV.cel x1 1)) ∧
      ((AV.binOk Go.BinOp.leq (AV.cel x2 1) (AV.mx (AV.cel x0 1) (AV.cel x1 1))) ∧
      ((AV.isBool (AV.bin Go.BinOp.leq (AV.mn (AV.cel x0 1) (AV.cel x1 1)) (AV.cel x2 1))) ∧
      ((isT (AV.bin Go.BinOp.leq (AV.mn (AV.cel x0 1) (AV.cel x1 1)) (AV.cel x2 1))) ∧
      ((AV.flat (AV.bin Go.BinOp.leq (AV.cel x2 1) (AV.mx (AV.cel x0 1) (AV.cel x1 1)))) ∧
      (fSame (AV.bin Go.BinOp.leq (AV.cel x2 1) (AV.mx (AV.cel x0 1) (AV.cel x1 1))) r)))))))) ∧
    ((isF (AV.bin Go.BinOp.leq (AV.mn (AV.cel x0 1) (AV.cel x1 1)) (AV.cel x2 1))) →
      ((AV.isBool (AV.bin Go.BinOp.leq (AV.mn (AV.cel x0 1) (AV.cel x1 1)) (AV.cel x2 1))) ∧
      ((isF (AV.bin Go.BinOp.leq (AV.mn (AV.cel x0 1) (AV.cel x1 1)) (AV.cel x2 1))) ∧
      ((AV.flat (AV.bool false)) ∧
      (fSame (AV.bool false) r))))))))))))) ∧
  ((isF (AV.bin Go.BinOp.leq (AV.cel x2 0) (AV.mx (AV.cel x0 0) (AV.cel x1 0)))) →
    ((AV.isBool (AV.bin Go.BinOp.leq (AV.cel x2 0) (AV.mx (AV.cel x0 0) (AV.cel x1 0)))) ∧
    ((isF (AV.bin Go.BinOp.leq (AV.cel x2 0) (AV.mx (AV.cel x0 0) (AV.cel x1 0)))) ∧
    ((AV.flat (AV.bool false)) ∧
    (fSame (AV.bool false) r))))))))))))) ∧
((isF (AV.bin Go.BinOp.leq (AV.mn (AV.cel x0 0) (AV.cel x1 0)) (AV.cel x2 0))) →
  ((AV.isBool (AV.bin Go.BinOp.leq (AV.mn (AV.cel x0 0) (AV.cel x1 0)) (AV.cel x2 0))) ∧
  ((isF (AV.bin Go.BinOp.leq (AV.mn (AV.cel x0 0) (AV.cel x1 0)) (AV.cel x2 0))) ∧
  ((AV.flat (AV.bool false)) ∧
  (fSame (AV.bool false) r)))))))))))))) := by kernel_rfl
theorem on_form (x0 x1 x2 r : AV) : fnF Tryz.prog Γ ann 3 93 Tryz.f93 (Tryz.f93.body.getD .skip) (.nil) [x0, x1, x2] (.sc) r = (((AV.isAgg x0 2) ∧
((AV.isAgg x1 2) ∧
((AV.isAgg x2 2) ∧
(∃ r449 : AV, ((Fn Tryz.prog 86 [(AV.agg [(AV.cel x0 0), (AV.cel x0 1)]), (AV.agg [(AV.cel x1 0), (AV.cel x1 1)]), (AV.agg [(AV.cel x2 0), (AV.cel x2 1)])] Sh.sc r449) ∧
((AV.binOk Go.BinOp.eql r449 (AV.int 0)) ∧
((AV.isBool (AV.bin Go.BinOp.eql r449 (AV.int 0))) ∧
(((isT (AV.bin Go.BinOp.eql r449 (AV.int 0))) →
  (∃ r833 : AV, ((Fn Tryz.prog 103 [(AV.agg [(AV.cel x0 0), (AV.cel x0 1)]), (AV.agg [(AV.cel x1 0), (AV.cel x1 1)]), (AV.agg [(AV.cel x2 0), (AV.cel x2 1)])] Sh.sc r833) ∧
  ((AV.isBool (AV.bin Go.BinOp.eql r449 (AV.int 0))) ∧
  ((isT (AV.bin Go.BinOp.eql r449 (AV.int 0))) ∧
  ((AV.flat r833) ∧
  (fSame r833 r))))))) ∧
((isF (AV.bin Go.BinOp.eql r449 (AV.int 0))) →
  ((AV.isBool (AV.bin Go.BinOp.eql r449 (AV.int 0))) ∧
  ((isF (AV.bin Go.BinOp.eql r449 (AV.int 0))) ∧
  ((AV.flat (AV.bool false)) ∧
  (fSame (AV.bool false) r)))))))))))))) := by kernel_rfl
theorem crosses_form (x0 x1 x2 x3 r : AV) : fnF Tryz.prog Γ ann 3 90 Tryz.f90 (Tryz.f90.body.getD .skip) (.nil) [x0, x1, x2, x3] (.sc) r = (((AV.isAgg x0 2) ∧
((AV.isAgg x1 2) ∧
((AV.isAgg x2 2) ∧
((AV.isAgg x3 2) ∧
(∃ r513 : AV, ((Fn Tryz.prog 86 [(AV.agg [(AV.cel x0 0), (AV.cel x0 1)]), (AV.agg [(AV.cel x1 0), (AV.cel x1 1)]), (AV.agg [(AV.cel x2 0), (AV.cel x2 1)])] Sh.sc r513) ∧
(∃ r769 : AV, ((Fn Tryz.prog 86 [(AV.agg [(AV.cel x0 0), (AV.cel x0 1)]), (AV.agg [(AV.cel x1 0), (AV.cel x1 1)]), (AV.agg [(AV.cel x3 0), (AV.cel x3 1)])] Sh.sc r769) ∧
((AV.binOk Go.BinOp.mul r513 r769) ∧
((AV.binOk Go.BinOp.lss (AV.bin Go.BinOp.mul r513 r769) (AV.int 0)) ∧
((AV.isBool (AV.bin Go.BinOp.lss (AV.bin Go.BinOp.mul r513 r769) (AV.int 0))) ∧
(((isT (AV.bin Go.BinOp.lss (AV.bin Go.BinOp.mul r513 r769) (AV.int 0))) →
  (∃ r1217 : AV, ((Fn Tryz.prog 86 [(AV.agg [(AV.cel x2 0), (AV.cel x2 1)]), (AV.agg [(AV.cel x3 0), (AV.cel x3 1)]), (AV.agg [(AV.cel x0 0), (AV.cel x0 1)])] Sh.sc r1217) ∧
  (∃ r1473 : AV, ((Fn Tryz.prog 86 [(AV.agg [(AV.cel x2 0), (AV.cel x2 1)]), (AV.agg [(AV.cel x3 0), (AV.cel x3 1)]), (AV.agg [(AV.cel x1 0), (AV.cel x1 1)])] Sh.sc r1473) ∧
  ((AV.binOk Go.BinOp.mul r1217 r1473) ∧
  ((AV.binOk Go.BinOp.lss (AV.bin Go.BinOp.mul r1217 r1473) (AV.int 0)) ∧
  ((AV.isBool (AV.bin Go.BinOp.lss (AV.bin Go.BinOp.mul r513 r769) (AV.int 0))) ∧
  ((isT (AV.bin Go.BinOp.lss (AV.bin Go.BinOp.mul r513 r769) (AV.int 0))) ∧
  ((AV.flat (AV.bin Go.BinOp.lss (AV.bin Go.BinOp.mul r1217 r1473) (AV.int 0))) ∧
  (fSame (AV.bin Go.BinOp.lss (AV.bin Go.BinOp.mul r1217 r1473) (AV.int 0)) r))))))))))) ∧
((isF (AV.bin Go.BinOp.lss (AV.bin Go.BinOp.mul r513 r769) (AV.int 0))) →
  ((AV.isBool (AV.bin Go.BinOp.lss (AV.bin Go.BinOp.mul r513 r769) (AV.int 0))) ∧
  ((isF (AV.bin Go.BinOp.lss (AV.bin Go.BinOp.mul r513 r769) (AV.int 0))) ∧
  ((AV.flat (AV.bool false)) ∧
  (fSame (AV.bool false) r)))))))))))))))))) := by kernel_rfl
theorem common_form (x0 x1 x2 x3 r : AV) : fnF Tryz.prog Γ ann 3 88 Tryz.f88 (Tryz.f88.body.getD .skip) (.nil) [x0, x1, x2, x3] (.sc) r = (((AV.isAgg x0 2) ∧
((AV.isAgg x1 2) ∧
((AV.isAgg x2 2) ∧
((AV.isAgg x3 2) ∧
(∃ r577 : AV, ((Fn Tryz.prog 90 [(AV.agg [(AV.cel x0 0), (AV.cel x0 1)]), (AV.agg [(AV.cel x1 0), (AV.cel x1 1)]), (AV.agg [(AV.cel x2 0), (AV.cel x2 1)]), (AV.agg [(AV.cel x3 0), (AV.cel x3 1)])] Sh.sc r577) ∧
((AV.isBool r577) ∧
(((isT r577) →
  ((AV.isBool r577) ∧
  ((isT r577) ∧
  ((AV.flat (AV.bool true)) ∧
  (fSame (AV.bool true) r))))) ∧
((isF r577) →
  (∃ r897 : AV, ((Fn Tryz.prog 93 [(AV.agg [(AV.cel x0 0), (AV.cel x0 1)]), (AV.agg [(AV.cel x1 0), (AV.cel x1 1)]), (AV.agg [(AV.cel x2 0), (AV.cel x2 1)])] Sh.sc r897) ∧
  ((AV.isBool r577) ∧
  ((isF r577) ∧
  ((AV.isBool r897) ∧
  (((isT r897) →
    ((AV.isBool r897) ∧
    ((isT r897) ∧
    ((AV.flat (AV.bool true)) ∧
    (fSame (AV.bool true) r))))) ∧
  ((isF r897) →
    (∃ r1281 : AV, ((Fn Tryz.prog 93 [(AV.agg [(AV.cel x0 0), (AV.cel x0 1)]), (AV.agg [(AV.cel x1 0), (AV.cel x1 1)]), (AV.agg [(AV.cel x3 0), (AV.cel x3 1)])] Sh.sc r1281) ∧
    ((AV.isBool r897) ∧
    ((isF r897) ∧
    ((AV.isBool r1281) ∧
    (((isT r1281) →
      ((AV.isBool r1281) ∧
      ((isT r1281) ∧
      ((AV.flat (AV.bool true)) ∧
      (fSame (AV.bool true) r))))) ∧
    ((isF r1281) →
      (∃ r1665 : AV, ((Fn Tryz.prog 93 [(AV.agg [(AV.cel x2 0), (AV.cel x2 1)]), (AV.agg [(AV.cel x3 0), (AV.cel x3 1)]), (AV.agg [(AV.cel x0 0), (AV.cel x0 1)])] Sh.sc r1665) ∧
      ((AV.isBool r1281) ∧
      ((isF r1281) ∧
      ((AV.isBool r1665) ∧
      (((isT r1665) →
        ((AV.isBool r1665) ∧
        ((isT r1665) ∧
        ((AV.flat (AV.bool true)) ∧
        (fSame (AV.bool true) r))))) ∧
      ((isF r1665) →
        (∃ r2049 : AV, ((Fn Tryz.prog 93 [(AV.agg [(AV.cel x2 0), (AV.cel x2 1)]), (AV.agg [(AV.cel x3 0), (AV.cel x3 1)]), (AV.agg [(AV.cel x1 0), (AV.cel x1 1)])] Sh.sc r2049) ∧
        ((AV.isBool r1665) ∧
        ((isF r1665) ∧
        ((AV.flat r2049) ∧
        (fSame r2049 r))))))))))))))))))))))))))))))))))))) := by kernel_rfl
theorem gcheck_form (x0 r : AV) : fnF Tryz.prog Γ ann 3 75 Tryz.f75 (Tryz.f75.body.getD .skip) (.nil) [x0] (.sc) r = (((AV.isSl x0 2) ∧
((AV.binOk Go.BinOp.gtr (AV.len x0) (AV.int 16)) ∧
((AV.isBool (AV.bin Go.BinOp.gtr (AV.len x0) (AV.int 16))) ∧
(((isT (AV.bin Go.BinOp.gtr (AV.len x0) (AV.int 16))) →
  ((AV.flat (AV.int 2)) ∧
  (fSame (AV.int 2) r))) ∧
((isF (AV.bin Go.BinOp.gtr (AV.len x0) (AV.int 16))) →
  ((AV.binOk Go.BinOp.lss (AV.len x0) (AV.int 3)) ∧
  ((AV.isBool (AV.bin Go.BinOp.lss (AV.len x0) (AV.int 3))) ∧
  (((isT (AV.bin Go.BinOp.lss (AV.len x0) (AV.int 3))) →
    ((AV.flat (AV.int 3)) ∧
    (fSame (AV.int 3) r))) ∧
  ((isF (AV.bin Go.BinOp.lss (AV.len x0) (AV.int 3))) →
    ((AV.isSl x0 2) ∧
    (fLoop 833 [(AV.int 0)] fun ys833 again833 =>
      ((AV.binOk Go.BinOp.lss (ys833.getD 0 default) (AV.len x0)) ∧
      ((AV.isBool (AV.bin Go.BinOp.lss (ys833.getD 0 default) (AV.len x0))) ∧
      (((isT (AV.bin Go.BinOp.lss (ys833.getD 0 default) (AV.len x0))) →
        ((AV.isSl x0 2) ∧
        ((AV.inb x0 (ys833.getD 0 default)) ∧
        ((AV.isAgg (AV.atAgg x0 (ys833.getD 0 default) 0 2) 2) ∧
        (∃ r1217 : AV, ((Fn Tryz.prog 47 [(AV.agg [(AV.cel (AV.atAgg x0 (ys833.getD 0 default) 0 2) 0), (AV.cel (AV.atAgg x0 (ys833.getD 0 default) 0 2) 1)])] Sh.sc r1217) ∧
        ((AV.binOk Go.BinOp.neq r1217 (AV.int 0)) ∧
        ((AV.isBool (AV.bin Go.BinOp.neq r1217 (AV.int 0))) ∧
        (((isT (AV.bin Go.BinOp.neq r1217 (AV.int 0))) →
          ((AV.flat r1217) ∧
          (fSame r1217 r))) ∧
        ((isF (AV.bin Go.BinOp.neq r1217 (AV.int 0))) →
          ((AV.binOk Go.BinOp.add (ys833.getD 0 default) (AV.int 1)) ∧
          (again833 [(AV.bin Go.BinOp.add (ys833.getD 0 default) (AV.int 1))])))))))))))) ∧
      ((isF (AV.bin Go.BinOp.lss (ys833.getD 0 default) (AV.len x0))) →
        ((AV.isSl x0 2) ∧
        (fLoop 1089 [(AV.int 0)] fun ys1089 again1089 =>
          ((AV.binOk Go.BinOp.lss (ys1089.getD 0 default) (AV.len x0)) ∧
          ((AV.isBool (AV.bin Go.BinOp.lss (ys1089.getD 0 default) (AV.len x0))) ∧
          (((isT (AV.bin Go.BinOp.lss (ys1089.getD 0 default) (AV.len x0))) →
            ((AV.isSl x0 2) ∧
            ((AV.inb x0 (ys1089.getD 0 default)) ∧
            (∃ r1665 : AV, ((Fn Tryz.prog 87 [x0, (ys1089.getD 0 default)] Sh.sc r1665) ∧
            ((AV.binOk Go.BinOp.add (ys1089.getD 0 default) (AV.int 2)) ∧
            ((AV.binOk Go.BinOp.rem (AV.bin Go.BinOp.add (ys1089.getD 0 default) (AV.int 2)) (AV.len x0)) ∧
            ((AV.isSl x0 2) ∧
            ((AV.inb x0 (AV.bin Go.BinOp.rem (AV.bin Go.BinOp.add (ys1089.getD 0 default) (AV.int 2)) (AV.len x0))) ∧
            (∃ r2177 : AV, ((Fn Tryz.prog 86 [(AV.atAgg x0 (ys1089.getD 0 default) 0 2), r1665, (AV.atAgg x0 (AV.bin Go.BinOp.rem (AV.bin Go.BinOp.add (ys1089.getD 0 default) (AV.int 2)) (AV.len x0)) 0 2)] Sh.sc r2177) ∧
            ((AV.binOk Go.BinOp.eql r2177 (AV.int 0)) ∧
            ((AV.isBool (AV.bin Go.BinOp.eql r2177 (AV.int 0))) ∧
            (((isT (AV.bin Go.BinOp.eql r2177 (AV.int 0))) →
              ((AV.flat (AV.int 3)) ∧
              (fSame (AV.int 3) r))) ∧
            ((isF (AV.bin Go.BinOp.eql r2177 (AV.int 0))) →
              ((AV.binOk Go.BinOp.add (ys1089.getD 0 default) (AV.int 2)) ∧
              (fLoop 2497 [(AV.bin Go.BinOp.add (ys1089.getD 0 default) (AV.int 2))] fun ys2497 again2497 =>
                ((AV.binOk Go.BinOp.lss (ys2497.getD 0 default) (AV.len x0)) ∧
                ((AV.isBool (AV.bin Go.BinOp.lss (ys2497.getD 0 default) (AV.len x0))) ∧
                (((isT (AV.bin Go.BinOp.lss (ys2497.getD 0 default) (AV.len x0))) →
                  ((AV.binOk Go.BinOp.add (ys2497.getD 0 default) (AV.int 1)) ∧
                  ((AV.binOk Go.BinOp.rem (AV.bin Go.BinOp.add (ys2497.getD 0 default) (AV.int 1)) (AV.len x0)) ∧
                  ((AV.binOk Go.BinOp.neq (AV.bin Go.BinOp.rem (AV.bin Go.BinOp.add (ys2497.getD 0 default) (AV.int 1)) (AV.len x0)) (ys1089.getD 0 default)) ∧
                  ((AV.isBool (AV.bin Go.BinOp.neq (AV.bin Go.BinOp.rem (AV.bin Go.BinOp.add (ys2497.getD 0 default) (AV.int 1)) (AV.len x0)) (ys1089.getD 0 default))) ∧
                  (((isT (AV.bin Go.BinOp.neq (AV.bin Go.BinOp.rem (AV.bin Go.BinOp.add (ys2497.getD 0 default) (AV.int 1)) (AV.len x0)) (ys1089.getD 0 default))) →
                    ((AV.isSl x0 2) ∧
                    ((AV.inb x0 (ys1089.getD 0 default)) ∧
                    (∃ r3521 : AV, ((Fn Tryz.prog 87 [x0, (ys1089.getD 0 default)] Sh.sc r3521) ∧
                    ((AV.isSl x0 2) ∧
                    ((AV.inb x0 (ys2497.getD 0 default)) ∧
                    (∃ r3969 : AV, ((Fn Tryz.prog 87 [x0, (ys2497.getD 0 default)] Sh.sc r3969) ∧
                    (∃ r4033 : AV, ((Fn Tryz.prog 88 [(AV.atAgg x0 (ys1089.getD 0 default) 0 2), r3521, (AV.atAgg x0 (ys2497.getD 0 default) 0 2), r3969] Sh.sc r4033) ∧
                    ((AV.isBool (AV.bin Go.BinOp.neq (AV.bin Go.BinOp.rem (AV.bin Go.BinOp.add (ys2497.getD 0 default) (AV.int 1)) (AV.len x0)) (ys1089.getD 0 default))) ∧
                    ((isT (AV.bin Go.BinOp.neq (AV.bin Go.BinOp.rem (AV.bin Go.BinOp.add (ys2497.getD 0 default) (AV.int 1)) (AV.len x0)) (ys1089.getD 0 default))) ∧
                    ((AV.isBool r4033) ∧
                    (((isT r4033) →
                      ((AV.flat (AV.int 3)) ∧
                      (fSame (AV.int 3) r))) ∧
                    ((isF r4033) →
                      ((AV.binOk Go.BinOp.add (ys2497.getD 0 default) (AV.int 1)) ∧
                      (again2497 [(AV.bin Go.BinOp.add (ys2497.getD 0 default) (AV.int 1))])))))))))))))))))) ∧
                  ((isF (AV.bin Go.BinOp.neq (AV.bin Go.BinOp.rem (AV.bin Go.BinOp.add (ys2497.getD 0 default) (AV.int 1)) (AV.len x0)) (ys1089.getD 0 default))) →
                    ((AV.isBool (AV.bin Go.BinOp.neq (AV.bin Go.BinOp.rem (AV.bin Go.BinOp.add (ys2497.getD 0 default) (AV.int 1)) (AV.len x0)) (ys1089.getD 0 default))) ∧
                    ((isF (AV.bin Go.BinOp.neq (AV.bin Go.BinOp.rem (AV.bin Go.BinOp.add (ys2497.getD 0 default) (AV.int 1)) (AV.len x0)) (ys1089.getD 0 default))) ∧
                    ((AV.binOk Go.BinOp.add (ys2497.getD 0 default) (AV.int 1)) ∧
                    (again2497 [(AV.bin Go.BinOp.add (ys2497.getD 0 default) (AV.int 1))]))))))))))) ∧
                ((isF (AV.bin Go.BinOp.lss (ys2497.getD 0 default) (AV.len x0))) →
                  ((AV.binOk Go.BinOp.add (ys1089.getD 0 default) (AV.int 1)) ∧
                  (again1089 [(AV.bin Go.BinOp.add (ys1089.getD 0 default) (AV.int 1))]))))))))))))))))))))))) ∧
          ((isF (AV.bin Go.BinOp.lss (ys1089.getD 0 default) (AV.len x0))) →
            (∃ r1217 : AV, ((Fn Tryz.prog 89 [x0] Sh.sc r1217) ∧
            ((AV.binOk Go.BinOp.leq r1217 (AV.int 0)) ∧
            ((AV.isBool (AV.bin Go.BinOp.leq r1217 (AV.int 0))) ∧
            (((isT (AV.bin Go.BinOp.leq r1217 (AV.int 0))) →
              ((AV.flat (AV.int 3)) ∧
              (fSame (AV.int 3) r))) ∧
            ((isF (AV.bin Go.BinOp.leq r1217 (AV.int 0))) →
              ((AV.flat (AV.int 0)) ∧
              (fSame (AV.int 0) r)))))))))))))))))))))))))))))) := by kernel_rfl
theorem gplace_form (x0 x1 r : AV) : fnF Tryz.prog Γ ann 3 77 Tryz.f77 (Tryz.f77.body.getD .skip) (.nil) [x0, x1] (.sc) r = (((AV.isAgg x1 2) ∧
((AV.isSl x0 2) ∧
(fLoop 385 [(AV.int (-1)), (AV.int 0)] fun ys385 again385 =>
  ((AV.binOk Go.BinOp.lss (ys385.getD 1 default) (AV.len x0)) ∧
  ((AV.isBool (AV.bin Go.BinOp.lss (ys385.getD 1 default) (AV.len x0))) ∧
  (((isT (AV.bin Go.BinOp.lss (ys385.getD 1 default) (AV.len x0))) →
    ((AV.isSl x0 2) ∧
    ((AV.inb x0 (ys385.getD 1 default)) ∧
    (∃ r961 : AV, ((Fn Tryz.prog 87 [x0, (ys385.getD 1 default)] Sh.sc r961) ∧
    ((AV.isAgg (AV.atAgg x0 (ys385.getD 1 default) 0 2) 2) ∧
    ((AV.isAgg r961 2) ∧
    (∃ r1473 : AV, ((Fn Tryz.prog 93 [(AV.agg [(AV.cel (AV.atAgg x0 (ys385.getD 1 default) 0 2) 0), (AV.cel (AV.atAgg x0 (ys385.getD 1 default) 0 2) 1)]), (AV.agg [(AV.cel r961 0), (AV.cel r961 1)]), (AV.agg [(AV.cel x1 0), (AV.cel x1 1)])] Sh.sc r1473) ∧
    ((AV.isBool r1473) ∧
    (((isT r1473) →
      ((AV.flat (AV.int 0)) ∧
      (fSame (AV.int 0) r))) ∧
    ((isF r1473) →
      ((AV.binOk Go.BinOp.gtr (AV.cel (AV.atAgg x0 (ys385.getD 1 default) 0 2) 1) (AV.cel x1 1)) ∧
      ((AV.binOk Go.BinOp.gtr (AV.cel r961 1) (AV.cel x1 1)) ∧
      ((AV.isBool (AV.bin Go.BinOp.gtr (AV.cel (AV.atAgg x0 (ys385.getD 1 default) 0 2) 1) (AV.cel x1 1))) ∧
      ((AV.isBool (AV.bin Go.BinOp.gtr (AV.cel r961 1) (AV.cel x1 1))) ∧
      ((AV.isBool (AV.neB (AV.bin Go.BinOp.gtr (AV.cel (AV.atAgg x0 (ys385.getD 1 default) 0 2) 1) (AV.cel x1 1)) (AV.bin Go.BinOp.gtr (AV.cel r961 1) (AV.cel x1 1)))) ∧
      (((isT (AV.neB (AV.bin Go.BinOp.gtr (AV.cel (AV.atAgg x0 (ys385.getD 1 default) 0 2) 1) (AV.cel x1 1)) (AV.bin Go.BinOp.gtr (AV.cel r961 1) (AV.cel x1 1)))) →
        (∃ r2433 : AV, ((Fn Tryz.prog 86 [(AV.agg [(AV.cel (AV.atAgg x0 (ys385.getD 1 default) 0 2) 0), (AV.cel (AV.atAgg x0 (ys385.getD 1 default) 0 2) 1)]), (AV.agg [(AV.cel r961 0), (AV.cel r961 1)]), (AV.agg [(AV.cel x1 0), (AV.cel x1 1)])] Sh.sc r2433) ∧
        ((AV.binOk Go.BinOp.gtr (AV.cel r961 1) (AV.cel (AV.atAgg x0 (ys385.getD 1 default) 0 2) 1)) ∧
        ((AV.isBool (AV.bin Go.BinOp.gtr (AV.cel r961 1) (AV.cel (AV.atAgg x0 (ys385.getD 1 default) 0 2) 1))) ∧
        (((isT (AV.bin Go.BinOp.gtr (AV.cel r961 1) (AV.cel (AV.atAgg x0 (ys385.getD 1 default) 0 2) 1))) →
          ((AV.binOk Go.BinOp.gtr r2433 (AV.int 0)) ∧
          ((AV.isBool (AV.bin Go.BinOp.gtr (AV.cel r961 1) (AV.cel (AV.atAgg x0 (ys385.getD 1 default) 0 2) 1))) ∧
          ((isT (AV.bin Go.BinOp.gtr (AV.cel r961 1) (AV.cel (AV.atAgg x0 (ys385.getD 1 default) 0 2) 1))) ∧
          ((AV.isBool (AV.bin Go.BinOp.gtr r2433 (AV.int 0))) ∧
          (((isT (AV.bin Go.BinOp.gtr r2433 (AV.int 0))) →
            ((AV.isBool (AV.bin Go.BinOp.gtr r2433 (AV.int 0))) ∧
            ((isT (AV.bin Go.BinOp.gtr r2433 (AV.int 0))) ∧
            ((AV.unOk Go.UnOp.neg (ys385.getD 0 default)) ∧
            ((AV.binOk Go.BinOp.add (ys385.getD 1 default) (AV.int 1)) ∧
            (again385 [(AV.un Go.UnOp.neg (ys385.getD 0 default)), (AV.bin Go.BinOp.add (ys385.getD 1 default) (AV.int 1))])))))) ∧
          ((isF (AV.bin Go.BinOp.gtr r2433 (AV.int 0))) →
            ((AV.binOk Go.BinOp.lss (AV.cel r961 1) (AV.cel (AV.atAgg x0 (ys385.getD 1 default) 0 2) 1)) ∧
            ((AV.isBool (AV.bin Go.BinOp.lss (AV.cel r961 1) (AV.cel (AV.atAgg x0 (ys385.getD 1 default) 0 2) 1))) ∧
            (((isT (AV.bin Go.BinOp.lss (AV.cel r961 1) (AV.cel (AV.atAgg x0 (ys385.getD 1 default) 0 2) 1))) →
              ((AV.binOk Go.BinOp.lss r2433 (AV.int 0)) ∧
              ((AV.isBool (AV.bin Go.BinOp.lss (AV.cel r961 1) (AV.cel (AV.atAgg x0 (ys385.getD 1 default) 0 2) 1))) ∧
              ((isT (AV.bin Go.BinOp.lss (AV.cel r961 1) (AV.cel (AV.atAgg x0 (ys385.getD 1 default) 0 2) 1))) ∧
              ((AV.isBool (AV.bin Go.BinOp.gtr r2433 (AV.int 0))) ∧
              ((isF (AV.bin Go.BinOp.gtr r2433 (AV.int 0))) ∧
              ((AV.isBool (AV.bin Go.BinOp.lss r2433 (AV.int 0))) ∧
              (((isT (AV.bin Go.BinOp.lss r2433 (AV.int 0))) →
                ((AV.unOk Go.UnOp.neg (ys385.getD 0 default)) ∧
                ((AV.binOk Go.BinOp.add (ys385.getD 1 default) (AV.int 1)) ∧
                (again385 [(AV.un Go.UnOp.neg (ys385.getD 0 default)), (AV.bin Go.BinOp.add (ys385.getD 1 default) (AV.int 1))])))) ∧
              ((isF (AV.bin Go.BinOp.lss r2433 (AV.int 0))) →
                ((AV.binOk Go.BinOp.add (ys385.getD 1 default) (AV.int 1)) ∧
                (again385 [(ys385.getD 0 default), (AV.bin Go.BinOp.add (ys385.getD 1 default) (AV.int 1))]))))))))))) ∧
            ((isF (AV.bin Go.BinOp.lss (AV.cel r961 1) (AV.cel (AV.atAgg x0 (ys385.getD 1 default) 0 2) 1))) →
              ((AV.isBool (AV.bin Go.BinOp.lss (AV.cel r961 1) (AV.cel (AV.atAgg x0 (ys385.getD 1 default) 0 2) 1))) ∧
              ((isF (AV.bin Go.BinOp.lss (AV.cel r961 1) (AV.cel (AV.atAgg x0 (ys385.getD 1 default) 0 2) 1))) ∧
              ((AV.isBool (AV.bin Go.BinOp.gtr r2433 (AV.int 0))) ∧
              ((isF (AV.bin Go.BinOp.gtr r2433 (AV.int 0))) ∧
              ((AV.binOk Go.BinOp.add (ys385.getD 1 default) (AV.int 1)) ∧
              (again385 [(ys385.getD 0 default), (AV.bin Go.BinOp.add (ys385.getD 1 default) (AV.int 1))]))))))))))))))))) ∧
        ((isF (AV.bin Go.BinOp.gtr (AV.cel r961 1) (AV.cel (AV.atAgg x0 (ys385.getD 1 default) 0 2) 1))) →
          ((AV.isBool (AV.bin Go.BinOp.gtr (AV.cel r961 1) (AV.cel (AV.atAgg x0 (ys385.getD 1 default) 0 2) 1))) ∧
          ((isF (AV.bin Go.BinOp.gtr (AV.cel r961 1) (AV.cel (AV.atAgg x0 (ys385.getD 1 default) 0 2) 1))) ∧
          ((AV.binOk Go.BinOp.lss (AV.cel r961 1) (AV.cel (AV.atAgg x0 (ys385.getD 1 default) 0 2) 1)) ∧
          ((AV.isBool (AV.bin Go.BinOp.lss (AV.cel r961 1) (AV.cel (AV.atAgg x0 (ys385.getD 1 default) 0 2) 1))) ∧
          (((isT (AV.bin Go.BinOp.lss (AV.cel r961 1) (AV.cel (AV.atAgg x0 (ys385.getD 1 default) 0 2) 1))) →
            ((AV.binOk Go.BinOp.lss r2433 (AV.int 0)) ∧
            ((AV.isBool (AV.bin Go.BinOp.lss (AV.cel r961 1) (AV.cel (AV.atAgg x0 (ys385.getD 1 default) 0 2) 1))) ∧
            ((isT (AV.bin Go.BinOp.lss (AV.cel r961 1) (AV.cel (AV.atAgg x0 (ys385.getD 1 default) 0 2) 1))) ∧
            ((AV.isBool (AV.bin Go.BinOp.lss r2433 (AV.int 0))) ∧
            (((isT (AV.bin Go.BinOp.lss r2433 (AV.int 0))) →
              ((AV.unOk Go.UnOp.neg (ys385.getD 0 default)) ∧
              ((AV.binOk Go.BinOp.add (ys385.getD 1 default) (AV.int 1)) ∧
              (again385 [(AV.un Go.UnOp.neg (ys385.getD 0 default)), (AV.bin Go.BinOp.add (ys385.getD 1 default) (AV.int 1))])))) ∧
            ((isF (AV.bin Go.BinOp.lss r2433 (AV.int 0))) →
              ((AV.binOk Go.BinOp.add (ys385.getD 1 default) (AV.int 1)) ∧
              (again385 [(ys385.getD 0 default), (AV.bin Go.BinOp.add (ys385.getD 1 default) (AV.int 1))]))))))))) ∧
          ((isF (AV.bin Go.BinOp.lss (AV.cel r961 1) (AV.cel (AV.atAgg x0 (ys385.getD 1 default) 0 2) 1))) →
            ((AV.isBool (AV.bin Go.BinOp.lss (AV.cel r961 1) (AV.cel (AV.atAgg x0 (ys385.getD 1 default) 0 2) 1))) ∧
            ((isF (AV.bin Go.BinOp.lss (AV.cel r961 1) (AV.cel (AV.atAgg x0 (ys385.getD 1 default) 0 2) 1))) ∧
            ((AV.binOk Go.BinOp.add (ys385.getD 1 default) (AV.int 1)) ∧
            (again385 [(ys385.getD 0 default), (AV.bin Go.BinOp.add (ys385.getD 1 default) (AV.int 1))]))))))))))))))))) ∧
      ((isF (AV.neB (AV.bin Go.BinOp.gtr (AV.cel (AV.atAgg x0 (ys385.getD 1 default) 0 2) 1) (AV.cel x1 1)) (AV.bin Go.BinOp.gtr (AV.cel r961 1) (AV.cel x1 1)))) →
        ((AV.binOk Go.BinOp.add (ys385.getD 1 default) (AV.int 1)) ∧
        (again385 [(ys385.getD 0 default), (AV.bin Go.BinOp.add (ys385.getD 1 default) (AV.int 1))]))))))))))))))))))))) ∧
  ((isF (AV.bin Go.BinOp.lss (ys385.getD 1 default) (AV.len x0))) →
    ((AV.flat (ys385.getD 0 default)) ∧
    (fSame (ys385.getD 0 default) r)))))))))) := by kernel_rfl
theorem locate_form (x0 x1 r : AV) : fnF Tryz.prog Γ ann 3 53 Tryz.f53 (Tryz.f53.body.getD .skip) (.nil) [x0, x1] (.tup [.sc, .sc]) r = (((AV.isAgg x1 2) ∧
(∃ r257 : AV, ((Fn Tryz.prog 75 [x0] Sh.sc r257) ∧
((AV.binOk Go.BinOp.neq r257 (AV.int 0)) ∧
((AV.isBool (AV.bin Go.BinOp.neq r257 (AV.int 0))) ∧
(((isT (AV.bin Go.BinOp.neq r257 (AV.int 0))) →
  ((AV.flat (AV.int 0)) ∧
  ((AV.flat r257) ∧
  (fSame (AV.tup [(AV.int 0), r257]) r)))) ∧
((isF (AV.bin Go.BinOp.neq r257 (AV.int 0))) →
  (∃ r577 : AV, ((Fn Tryz.prog 47 [(AV.agg [(AV.cel x1 0), (AV.cel x1 1)])] Sh.sc r577) ∧
  ((AV.binOk Go.BinOp.neq r577 (AV.int 0)) ∧
  ((AV.isBool (AV.bin Go.BinOp.neq r577 (AV.int 0))) ∧
  (((isT (AV.bin Go.BinOp.neq r577 (AV.int 0))) →
    ((AV.flat (AV.int 0)) ∧
    ((AV.flat r577) ∧
    (fSame (AV.tup [(AV.int 0), r577]) r)))) ∧
  ((isF (AV.bin Go.BinOp.neq r577 (AV.int 0))) →
    (∃ r961 : AV, ((Fn Tryz.prog 77 [x0, (AV.agg [(AV.cel x1 0), (AV.cel x1 1)])] Sh.sc r961) ∧
    ((AV.flat r961) ∧
    ((AV.flat (AV.int 0)) ∧
    (fSame (AV.tup [r961, (AV.int 0)]) r))))))))))))))))))) := by kernel_rfl
theorem doubled_form (x0 r : AV) : fnF Tryz.prog Γ ann 3 91 Tryz.f91 (Tryz.f91.body.getD .skip) (.nil) [x0] (.row 49 2 true) r = (((AV.isSl x0 2) ∧
(fLoop 321 [(AV.int 0), (AV.mk 2 [])] fun ys321 again321 =>
  ((AV.binOk Go.BinOp.lss (ys321.getD 0 default) (AV.len x0)) ∧
  ((AV.isBool (AV.bin Go.BinOp.lss (ys321.getD 0 default) (AV.len x0))) ∧
  (((isT (AV.bin Go.BinOp.lss (ys321.getD 0 default) (AV.len x0))) →
    ((AV.isSl x0 2) ∧
    ((AV.inb x0 (ys321.getD 0 default)) ∧
    ((AV.isAgg (AV.atAgg x0 (ys321.getD 0 default) 0 2) 2) ∧
    ((AV.binOk Go.BinOp.mul (AV.int 2) (AV.cel (AV.atAgg x0 (ys321.getD 0 default) 0 2) 0)) ∧
    ((AV.binOk Go.BinOp.mul (AV.int 2) (AV.cel (AV.atAgg x0 (ys321.getD 0 default) 0 2) 1)) ∧
    ((AV.isOne (AV.bin Go.BinOp.mul (AV.int 2) (AV.cel (AV.atAgg x0 (ys321.getD 0 default) 0 2) 0))) ∧
    ((AV.isOne (AV.bin Go.BinOp.mul (AV.int 2) (AV.cel (AV.atAgg x0 (ys321.getD 0 default) 0 2) 1))) ∧
    ((AV.room (ys321.getD 1 default) (AV.mk 2 [[(AV.bin Go.BinOp.mul (AV.int 2) (AV.cel (AV.atAgg x0 (ys321.getD 0 default) 0 2) 0)), (AV.bin Go.BinOp.mul (AV.int 2) (AV.cel (AV.atAgg x0 (ys321.getD 0 default) 0 2) 1))]]) 16) ∧
    ((AV.binOk Go.BinOp.add (ys321.getD 0 default) (AV.int 1)) ∧
    (again321 [(AV.bin Go.BinOp.add (ys321.getD 0 default) (AV.int 1)), (AV.app 2 (ys321.getD 1 default) (AV.mk 2 [[(AV.bin Go.BinOp.mul (AV.int 2) (AV.cel (AV.atAgg x0 (ys321.getD 0 default) 0 2) 0)), (AV.bin Go.BinOp.mul (AV.int 2) (AV.cel (AV.atAgg x0 (ys321.getD 0 default) 0 2) 1))]]))]))))))))))) ∧
  ((isF (AV.bin Go.BinOp.lss (ys321.getD 0 default) (AV.len x0))) →
    ((AV.flatS (ys321.getD 1 default)) ∧
    (fSame (ys321.getD 1 default) r))))))))) := by kernel_rfl
theorem enters_form (x0 x1 r : AV) : fnF Tryz.prog Γ ann 3 92 Tryz.f92 (Tryz.f92.body.getD .skip) (.nil) [x0, x1] (.sc) r = (((AV.isSl x0 2) ∧
(fLoop 257 [(AV.int 0)] fun ys257 again257 =>
  ((AV.binOk Go.BinOp.lss (ys257.getD 0 default) (AV.len x0)) ∧
  ((AV.isBool (AV.bin Go.BinOp.lss (ys257.getD 0 default) (AV.len x0))) ∧
  (((isT (AV.bin Go.BinOp.lss (ys257.getD 0 default) (AV.len x0))) →
    ((AV.isSl x0 2) ∧
    ((AV.inb x0 (ys257.getD 0 default)) ∧
    (∃ r833 : AV, ((Fn Tryz.prog 87 [x0, (ys257.getD 0 default)] Sh.sc r833) ∧
    ((AV.isAgg (AV.atAgg x0 (ys257.getD 0 default) 0 2) 2) ∧
    ((AV.isAgg r833 2) ∧
    ((AV.isSl x1 2) ∧
    (fLoop 1601 [(AV.int 0), (AV.mk 2 [[(AV.cel (AV.atAgg x0 (ys257.getD 0 default) 0 2) 0), (AV.cel (AV.atAgg x0 (ys257.getD 0 default) 0 2) 1)], [(AV.cel r833 0), (AV.cel r833 1)]])] fun ys1601 again1601 =>
      ((AV.binOk Go.BinOp.lss (ys1601.getD 0 default) (AV.len x1)) ∧
      ((AV.isBool (AV.bin Go.BinOp.lss (ys1601.getD 0 default) (AV.len x1))) ∧
      (((isT (AV.bin Go.BinOp.lss (ys1601.getD 0 default) (AV.len x1))) →
        ((AV.isSl x1 2) ∧
        ((AV.inb x1 (ys1601.getD 0 default)) ∧
        ((AV.isAgg (AV.atAgg x1 (ys1601.getD 0 default) 0 2) 2) ∧
        (∃ r2113 : AV, ((Fn Tryz.prog 93 [(AV.agg [(AV.cel (AV.atAgg x0 (ys257.getD 0 default) 0 2) 0), (AV.cel (AV.atAgg x0 (ys257.getD 0 default) 0 2) 1)]), (AV.agg [(AV.cel r833 0), (AV.cel r833 1)]), (AV.agg [(AV.cel (AV.atAgg x1 (ys1601.getD 0 default) 0 2) 0), (AV.cel (AV.atAgg x1 (ys1601.getD 0 default) 0 2) 1)])] Sh.sc r2113) ∧
        ((AV.isBool r2113) ∧
        (((isT r2113) →
          ((AV.room (ys1601.getD 1 default) (AV.mk 2 [[(AV.cel (AV.atAgg x1 (ys1601.getD 0 default) 0 2) 0), (AV.cel (AV.atAgg x1 (ys1601.getD 0 default) 0 2) 1)]]) 16) ∧
          ((AV.binOk Go.BinOp.add (ys1601.getD 0 default) (AV.int 1)) ∧
          (again1601 [(AV.bin Go.BinOp.add (ys1601.getD 0 default) (AV.int 1)), (AV.app 2 (ys1601.getD 1 default) (AV.mk 2 [[(AV.cel (AV.atAgg x1 (ys1601.getD 0 default) 0 2) 0), (AV.cel (AV.atAgg x1 (ys1601.getD 0 default) 0 2) 1)]]))])))) ∧
        ((isF r2113) →
          ((AV.binOk Go.BinOp.add (ys1601.getD 0 default) (AV.int 1)) ∧
          (again1601 [(AV.bin Go.BinOp.add (ys1601.getD 0 default) (AV.int 1)), (ys1601.getD 1 default)]))))))))))) ∧
      ((isF (AV.bin Go.BinOp.lss (ys1601.getD 0 default) (AV.len x1))) →
        (∃ r1793 : AV, ((FnU Tryz.prog 99 49 2 (ys1601.getD 1 default) [(AV.mkClo 100 [(AV.mkRef [(AV.cel (AV.atAgg x0 (ys257.getD 0 default) 0 2) 0), (AV.cel (AV.atAgg x0 (ys257.getD 0 default) 0 2) 1)])])] false r1793) ∧
        (fLoop 1921 [(AV.int 1)] fun ys1921 again1921 =>
          ((AV.binOk Go.BinOp.lss (ys1921.getD 0 default) (AV.len r1793)) ∧
          ((AV.isBool (AV.bin Go.BinOp.lss (ys1921.getD 0 default) (AV.len r1793))) ∧
          (((isT (AV.bin Go.BinOp.lss (ys1921.getD 0 default) (AV.len r1793))) →
            ((AV.inb r1793 (ys1921.getD 0 default)) ∧
            ((AV.inb r1793 (ys1921.getD 0 default)) ∧
            ((AV.binOk Go.BinOp.sub (ys1921.getD 0 default) (AV.int 1)) ∧
            ((AV.inb r1793 (AV.bin Go.BinOp.sub (ys1921.getD 0 default) (AV.int 1))) ∧
            ((AV.inb r1793 (AV.bin Go.BinOp.sub (ys1921.getD 0 default) (AV.int 1))) ∧
            ((AV.eqPlOk [(0, (EK.int Go.IntKind.i64)), (1, (EK.int Go.IntKind.i64))] [(AV.cel (AV.atAgg r1793 (ys1921.getD 0 default) 0 2) 0), (AV.cel (AV.atAgg r1793 (ys1921.getD 0 default) 0 2) 1)] [(AV.cel (AV.atAgg r1793 (AV.bin Go.BinOp.sub (ys1921.getD 0 default) (AV.int 1)) 0 2) 0), (AV.cel (AV.atAgg r1793 (AV.bin Go.BinOp.sub (ys1921.getD 0 default) (AV.int 1)) 0 2) 1)]) ∧
            ((AV.isAgg (AV.atAgg r1793 (ys1921.getD 0 default) 0 2) 2) ∧
            ((AV.isAgg (AV.atAgg r1793 (AV.bin Go.BinOp.sub (ys1921.getD 0 default) (AV.int 1)) 0 2) 2) ∧
            ((AV.isBool (AV.eqPl [(0, (EK.int Go.IntKind.i64)), (1, (EK.int Go.IntKind.i64))] [(AV.cel (AV.atAgg r1793 (ys1921.getD 0 default) 0 2) 0), (AV.cel (AV.atAgg r1793 (ys1921.getD 0 default) 0 2) 1)] [(AV.cel (AV.atAgg r1793 (AV.bin Go.BinOp.sub (ys1921.getD 0 default) (AV.int 1)) 0 2) 0), (AV.cel (AV.atAgg r1793 (AV.bin Go.BinOp.sub (ys1921.getD 0 default) (AV.int 1)) 0 2) 1)])) ∧
            (((isT (AV.eqPl [(0, (EK.int Go.IntKind.i64)), (1, (EK.int Go.IntKind.i64))] [(AV.cel (AV.atAgg r1793 (ys1921.getD 0 default) 0 2) 0), (AV.cel (AV.atAgg r1793 (ys1921.getD 0 default) 0 2) 1)] [(AV.cel (AV.atAgg r1793 (AV.bin Go.BinOp.sub (ys1921.getD 0 default) (AV.int 1)) 0 2) 0), (AV.cel (AV.atAgg r1793 (AV.bin Go.BinOp.sub (ys1921.getD 0 default) (AV.int 1)) 0 2) 1)])) →
              ((AV.binOk Go.BinOp.add (ys1921.getD 0 default) (AV.int 1)) ∧
              (again1921 [(AV.bin Go.BinOp.add (ys1921.getD 0 default) (AV.int 1))]))) ∧
            ((isF (AV.eqPl [(0, (EK.int Go.IntKind.i64)), (1, (EK.int Go.IntKind.i64))] [(AV.cel (AV.atAgg r1793 (ys1921.getD 0 default) 0 2) 0), (AV.cel (AV.atAgg r1793 (ys1921.getD 0 default) 0 2) 1)] [(AV.cel (AV.atAgg r1793 (AV.bin Go.BinOp.sub (ys1921.getD 0 default) (AV.int 1)) 0 2) 0), (AV.cel (AV.atAgg r1793 (AV.bin Go.BinOp.sub (ys1921.getD 0 default) (AV.int 1)) 0 2) 1)])) →
              ((AV.inb r1793 (ys1921.getD 0 default)) ∧
              ((AV.inb r1793 (ys1921.getD 0 default)) ∧
              ((AV.binOk Go.BinOp.sub (ys1921.getD 0 default) (AV.int 1)) ∧
              ((AV.inb r1793 (AV.bin Go.BinOp.sub (ys1921.getD 0 default) (AV.int 1))) ∧
              ((AV.inb r1793 (AV.bin Go.BinOp.sub (ys1921.getD 0 default) (AV.int 1))) ∧
              ((AV.binOk Go.BinOp.add (AV.at r1793 (ys1921.getD 0 default) 0) (AV.at r1793 (AV.bin Go.BinOp.sub (ys1921.getD 0 default) (AV.int 1)) 0)) ∧
              ((AV.binOk Go.BinOp.quo (AV.bin Go.BinOp.add (AV.at r1793 (ys1921.getD 0 default) 0) (AV.at r1793 (AV.bin Go.BinOp.sub (ys1921.getD 0 default) (AV.int 1)) 0)) (AV.int 2)) ∧
              ((AV.inb r1793 (ys1921.getD 0 default)) ∧
              ((AV.inb r1793 (ys1921.getD 0 default)) ∧
              ((AV.binOk Go.BinOp.sub (ys1921.getD 0 default) (AV.int 1)) ∧
              ((AV.inb r1793 (AV.bin Go.BinOp.sub (ys1921.getD 0 default) (AV.int 1))) ∧
              ((AV.inb r1793 (AV.bin Go.BinOp.sub (ys1921.getD 0 default) (AV.int 1))) ∧
              ((AV.binOk Go.BinOp.add (AV.at r1793 (ys1921.getD 0 default) 1) (AV.at r1793 (AV.bin Go.BinOp.sub (ys1921.getD 0 default) (AV.int 1)) 1)) ∧
              ((AV.binOk Go.BinOp.quo (AV.bin Go.BinOp.add (AV.at r1793 (ys1921.getD 0 default) 1) (AV.at r1793 (AV.bin Go.BinOp.sub (ys1921.getD 0 default) (AV.int 1)) 1)) (AV.int 2)) ∧
              ((AV.isOne (AV.bin Go.BinOp.quo (AV.bin Go.BinOp.add (AV.at r1793 (ys1921.getD 0 default) 0) (AV.at r1793 (AV.bin Go.BinOp.sub (ys1921.getD 0 default) (AV.int 1)) 0)) (AV.int 2))) ∧
              ((AV.isOne (AV.bin Go.BinOp.quo (AV.bin Go.BinOp.add (AV.at r1793 (ys1921.getD 0 default) 1) (AV.at r1793 (AV.bin Go.BinOp.sub (ys1921.getD 0 default) (AV.int 1)) 1)) (AV.int 2))) ∧
              (∃ r4801 : AV, ((Fn Tryz.prog 77 [x1, (AV.agg [(AV.bin Go.BinOp.quo (AV.bin Go.BinOp.add (AV.at r1793 (ys1921.getD 0 default) 0) (AV.at r1793 (AV.bin Go.BinOp.sub (ys1921.getD 0 default) (AV.int 1)) 0)) (AV.int 2)), (AV.bin Go.BinOp.quo (AV.bin Go.BinOp.add (AV.at r1793 (ys1921.getD 0 default) 1) (AV.at r1793 (AV.bin Go.BinOp.sub (ys1921.getD 0 default) (AV.int 1)) 1)) (AV.int 2))])] Sh.sc r4801) ∧
              ((AV.binOk Go.BinOp.eql r4801 (AV.int 1)) ∧
              ((AV.isBool (AV.bin Go.BinOp.eql r4801 (AV.int 1))) ∧
              (((isT (AV.bin Go.BinOp.eql r4801 (AV.int 1))) →
                ((AV.flat (AV.bool true)) ∧
                (fSame (AV.bool true) r))) ∧
              ((isF (AV.bin Go.BinOp.eql r4801 (AV.int 1))) →
                ((AV.binOk Go.BinOp.eql r4801 (AV.int 0)) ∧
                ((AV.isBool (AV.bin Go.BinOp.eql r4801 (AV.int 0))) ∧
                (((isT (AV.bin Go.BinOp.eql r4801 (AV.int 0))) →
                  ((AV.isSl x1 2) ∧
                  (fLoop 5313 [(AV.int 0)] fun ys5313 again5313 =>
                    ((AV.binOk Go.BinOp.lss (ys5313.getD 0 default) (AV.len x1)) ∧
                    ((AV.isBool (AV.bin Go.BinOp.lss (ys5313.getD 0 default) (AV.len x1))) ∧
                    (((isT (AV.bin Go.BinOp.lss (ys5313.getD 0 default) (AV.len x1))) →
                      ((AV.isSl x1 2) ∧
                      ((AV.inb x1 (ys5313.getD 0 default)) ∧
                      (∃ r5889 : AV, ((Fn Tryz.prog 87 [x1, (ys5313.getD 0 default)] Sh.sc r5889) ∧
                      ((AV.isAgg (AV.atAgg x1 (ys5313.getD 0 default) 0 2) 2) ∧
                      ((AV.isAgg r5889 2) ∧
                      (∃ r6401 : AV, ((Fn Tryz.prog 93 [(AV.agg [(AV.cel (AV.atAgg x1 (ys5313.getD 0 default) 0 2) 0), (AV.cel (AV.atAgg x1 (ys5313.getD 0 default) 0 2) 1)]), (AV.agg [(AV.cel r5889 0), (AV.cel r5889 1)]), (AV.agg [(AV.bin Go.BinOp.quo (AV.bin Go.BinOp.add (AV.at r1793 (ys1921.getD 0 default) 0) (AV.at r1793 (AV.bin Go.BinOp.sub (ys1921.getD 0 default) (AV.int 1)) 0)) (AV.int 2)), (AV.bin Go.BinOp.quo (AV.bin Go.BinOp.add (AV.at r1793 (ys1921.getD 0 default) 1) (AV.at r1793 (AV.bin Go.BinOp.sub (ys1921.getD 0 default) (AV.int 1)) 1)) (AV.int 2))])] Sh.sc r6401) ∧
                      ((AV.isBool r6401) ∧
                      (((isT r6401) →
                        (∃ r6657 : AV, ((Fn Tryz.prog 98 [(AV.agg [(AV.cel r833 0), (AV.cel r833 1)]), (AV.agg [(AV.cel (AV.atAgg x0 (ys257.getD 0 default) 0 2) 0), (AV.cel (AV.atAgg x0 (ys257.getD 0 default) 0 2) 1)])] Sh.sc r6657) ∧
                        (∃ r6849 : AV, ((Fn Tryz.prog 98 [(AV.agg [(AV.cel r5889 0), (AV.cel r5889 1)]), (AV.agg [(AV.cel (AV.atAgg x1 (ys5313.getD 0 default) 0 2) 0), (AV.cel (AV.atAgg x1 (ys5313.getD 0 default) 0 2) 1)])] Sh.sc r6849) ∧
                        (∃ r6913 : AV, ((Fn Tryz.prog 102 [r6657, r6849] Sh.sc r6913) ∧
                        ((AV.binOk Go.BinOp.gtr r6913 (AV.int 0)) ∧
                        ((AV.isBool r6401) ∧
                        ((isT r6401) ∧
                        ((AV.isBool (AV.bin Go.BinOp.gtr r6913 (AV.int 0))) ∧
                        (((isT (AV.bin Go.BinOp.gtr r6913 (AV.int 0))) →
                          ((AV.flat (AV.bool true)) ∧
                          (fSame (AV.bool true) r))) ∧
                        ((isF (AV.bin Go.BinOp.gtr r6913 (AV.int 0))) →
                          ((AV.binOk Go.BinOp.add (ys5313.getD 0 default) (AV.int 1)) ∧
                          (again5313 [(AV.bin Go.BinOp.add (ys5313.getD 0 default) (AV.int 1))]))))))))))))))) ∧
                      ((isF r6401) →
                        ((AV.isBool r6401) ∧
                        ((isF r6401) ∧
                        ((AV.binOk Go.BinOp.add (ys5313.getD 0 default) (AV.int 1)) ∧
                        (again5313 [(AV.bin Go.BinOp.add (ys5313.getD 0 default) (AV.int 1))])))))))))))))))) ∧
                    ((isF (AV.bin Go.BinOp.lss (ys5313.getD 0 default) (AV.len x1))) →
                      ((AV.binOk Go.BinOp.add (ys1921.getD 0 default) (AV.int 1)) ∧
                      (again1921 [(AV.bin Go.BinOp.add (ys1921.getD 0 default) (AV.int 1))]))))))))) ∧
                ((isF (AV.bin Go.BinOp.eql r4801 (AV.int 0))) →
                  ((AV.binOk Go.BinOp.add (ys1921.getD 0 default) (AV.int 1)) ∧
                  (again1921 [(AV.bin Go.BinOp.add (ys1921.getD 0 default) (AV.int 1))])))))))))))))))))))))))))))))))))))))))) ∧
          ((isF (AV.bin Go.BinOp.lss (ys1921.getD 0 default) (AV.len r1793))) →
            ((AV.binOk Go.BinOp.add (ys257.getD 0 default) (AV.int 1)) ∧
            (again257 [(AV.bin Go.BinOp.add (ys257.getD 0 default) (AV.int 1))])))))))))))))))))))))) ∧
  ((isF (AV.bin Go.BinOp.lss (ys257.getD 0 default) (AV.len x0))) →
    ((AV.flat (AV.bool false)) ∧
    (fSame (AV.bool false) r))))))))) := by kernel_rfl
theorem gover_form (x0 x1 r : AV) : fnF Tryz.prog Γ ann 3 76 Tryz.f76 (Tryz.f76.body.getD .skip) (.nil) [x0, x1] (.tup [.sc, .sc]) r = (((AV.isOne x0) ∧
((AV.isOne x1) ∧
(fLoop 449 [(AV.int 0)] fun ys449 again449 =>
  ((AV.binOk Go.BinOp.lss (ys449.getD 0 default) (AV.len (AV.mk 1 [[x0], [x1]]))) ∧
  ((AV.isBool (AV.bin Go.BinOp.lss (ys449.getD 0 default) (AV.len (AV.mk 1 [[x0], [x1]])))) ∧
  (((isT (AV.bin Go.BinOp.lss (ys449.getD 0 default) (AV.len (AV.mk 1 [[x0], [x1]])))) →
    ((AV.inb (AV.mk 1 [[x0], [x1]]) (ys449.getD 0 default)) ∧
    ((AV.inb (AV.mk 1 [[x0], [x1]]) (ys449.getD 0 default)) ∧
    (∃ r769 : AV, ((Fn Tryz.prog 75 [(AV.at (AV.mk 1 [[x0], [x1]]) (ys449.getD 0 default) 0)] Sh.sc r769) ∧
    ((AV.binOk Go.BinOp.neq r769 (AV.int 0)) ∧
    ((AV.isBool (AV.bin Go.BinOp.neq r769 (AV.int 0))) ∧
    (((isT (AV.bin Go.BinOp.neq r769 (AV.int 0))) →
      ((AV.flat (AV.bool false)) ∧
      ((AV.flat r769) ∧
      (fSame (AV.tup [(AV.bool false), r769]) r)))) ∧
    ((isF (AV.bin Go.BinOp.neq r769 (AV.int 0))) →
      ((AV.binOk Go.BinOp.add (ys449.getD 0 default) (AV.int 1)) ∧
      (again449 [(AV.bin Go.BinOp.add (ys449.getD 0 default) (AV.int 1))]))))))))))) ∧
  ((isF (AV.bin Go.BinOp.lss (ys449.getD 0 default) (AV.len (AV.mk 1 [[x0], [x1]])))) →
    ((AV.isSl x0 2) ∧
    (fLoop 705 [(AV.int 0)] fun ys705 again705 =>
      ((AV.binOk Go.BinOp.lss (ys705.getD 0 default) (AV.len x0)) ∧
      ((AV.isBool (AV.bin Go.BinOp.lss (ys705.getD 0 default) (AV.len x0))) ∧
      (((isT (AV.bin Go.BinOp.lss (ys705.getD 0 default) (AV.len x0))) →
        ((AV.isSl x1 2) ∧
        (fLoop 1089 [(AV.int 0)] fun ys1089 again1089 =>
          ((AV.binOk Go.BinOp.lss (ys1089.getD 0 default) (AV.len x1)) ∧
          ((AV.isBool (AV.bin Go.BinOp.lss (ys1089.getD 0 default) (AV.len x1))) ∧
          (((isT (AV.bin Go.BinOp.lss (ys1089.getD 0 default) (AV.len x1))) →
            ((AV.isSl x0 2) ∧
            ((AV.inb x0 (ys705.getD 0 default)) ∧
            (∃ r1665 : AV, ((Fn Tryz.prog 87 [x0, (ys705.getD 0 default)] Sh.sc r1665) ∧
            ((AV.isSl x1 2) ∧
            ((AV.inb x1 (ys1089.getD 0 default)) ∧
            (∃ r2113 : AV, ((Fn Tryz.prog 87 [x1, (ys1089.getD 0 default)] Sh.sc r2113) ∧
            (∃ r2177 : AV, ((Fn Tryz.prog 90 [(AV.atAgg x0 (ys705.getD 0 default) 0 2), r1665, (AV.atAgg x1 (ys1089.getD 0 default) 0 2), r2113] Sh.sc r2177) ∧
            ((AV.isBool r2177) ∧
            (((isT r2177) →
              ((AV.flat (AV.bool true)) ∧
              ((AV.flat (AV.int 0)) ∧
              (fSame (AV.tup [(AV.bool true), (AV.int 0)]) r)))) ∧
            ((isF r2177) →
              ((AV.binOk Go.BinOp.add (ys1089.getD 0 default) (AV.int 1)) ∧
              (again1089 [(AV.bin Go.BinOp.add (ys1089.getD 0 default) (AV.int 1))])))))))))))))))) ∧
          ((isF (AV.bin Go.BinOp.lss (ys1089.getD 0 default) (AV.len x1))) →
            ((AV.binOk Go.BinOp.add (ys705.getD 0 default) (AV.int 1)) ∧
            (again705 [(AV.bin Go.BinOp.add (ys705.getD 0 default) (AV.int 1))]))))))))) ∧
      ((isF (AV.bin Go.BinOp.lss (ys705.getD 0 default) (AV.len x0))) →
        (∃ r833 : AV, ((Fn Tryz.prog 91 [x0] (Sh.row 49 2 true) r833) ∧
        (∃ r961 : AV, ((Fn Tryz.prog 91 [x1] (Sh.row 49 2 true) r961) ∧
        (∃ r1281 : AV, ((Fn Tryz.prog 92 [r833, r961] Sh.sc r1281) ∧
        ((AV.isBool r1281) ∧
        (((isT r1281) →
          ((AV.isBool r1281) ∧
          ((isT r1281) ∧
          ((AV.flat (AV.bool true)) ∧
          ((AV.flat (AV.int 0)) ∧
          (fSame (AV.tup [(AV.bool true), (AV.int 0)]) r)))))) ∧
        ((isF r1281) →
          (∃ r1537 : AV, ((Fn Tryz.prog 92 [r961, r833] Sh.sc r1537) ∧
          ((AV.isBool r1281) ∧
          ((isF r1281) ∧
          ((AV.flat r1537) ∧
          ((AV.flat (AV.int 0)) ∧
          (fSame (AV.tup [r1537, (AV.int 0)]) r)))))))))))))))))))))))))))))) := by kernel_rfl
theorem vcheck_form (x0 r : AV) : fnF Tryz.prog Γ ann 3 44 Tryz.f44 (Tryz.f44.body.getD .skip) (.nil) [x0] (.sc) r = (((AV.isAgg x0 3) ∧
(∃ r257 : AV, ((Fn Tryz.prog 75 [(AV.cel x0 0)] Sh.sc r257) ∧
((AV.binOk Go.BinOp.neq r257 (AV.int 0)) ∧
((AV.isBool (AV.bin Go.BinOp.neq r257 (AV.int 0))) ∧
(((isT (AV.bin Go.BinOp.neq r257 (AV.int 0))) →
  ((AV.flat r257) ∧
  (fSame r257 r))) ∧
((isF (AV.bin Go.BinOp.neq r257 (AV.int 0))) →
  ((AV.binOk Go.BinOp.lss (AV.cel x0 1) (AV.int 0)) ∧
  ((AV.isBool (AV.bin Go.BinOp.lss (AV.cel x0 1) (AV.int 0))) ∧
  (((isT (AV.bin Go.BinOp.lss (AV.cel x0 1) (AV.int 0))) →
    ((AV.isBool (AV.bin Go.BinOp.lss (AV.cel x0 1) (AV.int 0))) ∧
    ((isT (AV.bin Go.BinOp.lss (AV.cel x0 1) (AV.int 0))) ∧
    ((AV.flat (AV.int 4)) ∧
    (fSame (AV.int 4) r))))) ∧
  ((isF (AV.bin Go.BinOp.lss (AV.cel x0 1) (AV.int 0))) →
    ((AV.binOk Go.BinOp.gtr (AV.cel x0 2) (AV.int 60001)) ∧
    ((AV.isBool (AV.bin Go.BinOp.lss (AV.cel x0 1) (AV.int 0))) ∧
    ((isF (AV.bin Go.BinOp.lss (AV.cel x0 1) (AV.int 0))) ∧
    ((AV.isBool (AV.bin Go.BinOp.gtr (AV.cel x0 2) (AV.int 60001))) ∧
    (((isT (AV.bin Go.BinOp.gtr (AV.cel x0 2) (AV.int 60001))) →
      ((AV.isBool (AV.bin Go.BinOp.gtr (AV.cel x0 2) (AV.int 60001))) ∧
      ((isT (AV.bin Go.BinOp.gtr (AV.cel x0 2) (AV.int 60001))) ∧
      ((AV.flat (AV.int 4)) ∧
      (fSame (AV.int 4) r))))) ∧
    ((isF (AV.bin Go.BinOp.gtr (AV.cel x0 2) (AV.int 60001))) →
      ((AV.binOk Go.BinOp.geq (AV.cel x0 1) (AV.cel x0 2)) ∧
      ((AV.isBool (AV.bin Go.BinOp.gtr (AV.cel x0 2) (AV.int 60001))) ∧
      ((isF (AV.bin Go.BinOp.gtr (AV.cel x0 2) (AV.int 60001))) ∧
      ((AV.isBool (AV.bin Go.BinOp.geq (AV.cel x0 1) (AV.cel x0 2))) ∧
      (((isT (AV.bin Go.BinOp.geq (AV.cel x0 1) (AV.cel x0 2))) →
        ((AV.flat (AV.int 4)) ∧
        (fSame (AV.int 4) r))) ∧
      ((isF (AV.bin Go.BinOp.geq (AV.cel x0 1) (AV.cel x0 2))) →
        ((AV.flat (AV.int 0)) ∧
        (fSame (AV.int 0) r)))))))))))))))))))))))))) := by kernel_rfl
theorem vhas_form (x0 x1 x2 r : AV) : fnF Tryz.prog Γ ann 3 35 Tryz.f35 (Tryz.f35.body.getD .skip) (.nil) [x0, x1, x2] (.tup [.sc, .sc]) r = (((AV.isAgg x0 3) ∧
((AV.isAgg x1 2) ∧
(∃ r321 : AV, ((Fn Tryz.prog 44 [(AV.agg [(AV.cel x0 0), (AV.cel x0 1), (AV.cel x0 2)])] Sh.sc r321) ∧
((AV.binOk Go.BinOp.neq r321 (AV.int 0)) ∧
((AV.isBool (AV.bin Go.BinOp.neq r321 (AV.int 0))) ∧
(((isT (AV.bin Go.BinOp.neq r321 (AV.int 0))) →
  ((AV.flat (AV.bool false)) ∧
  ((AV.flat r321) ∧
  (fSame (AV.tup [(AV.bool false), r321]) r)))) ∧
((isF (AV.bin Go.BinOp.neq r321 (AV.int 0))) →
  (∃ r641 : AV, ((Fn Tryz.prog 47 [(AV.agg [(AV.cel x1 0), (AV.cel x1 1)])] Sh.sc r641) ∧
  ((AV.binOk Go.BinOp.neq r641 (AV.int 0)) ∧
  ((AV.isBool (AV.bin Go.BinOp.neq r641 (AV.int 0))) ∧
  (((isT (AV.bin Go.BinOp.neq r641 (AV.int 0))) →
    ((AV.flat (AV.bool false)) ∧
    ((AV.flat r641) ∧
    (fSame (AV.tup [(AV.bool false), r641]) r)))) ∧
  ((isF (AV.bin Go.BinOp.neq r641 (AV.int 0))) →
    ((AV.binOk Go.BinOp.lss x2 (AV.int 0)) ∧
    ((AV.isBool (AV.bin Go.BinOp.lss x2 (AV.int 0))) ∧
    (((isT (AV.bin Go.BinOp.lss x2 (AV.int 0))) →
      ((AV.isBool (AV.bin Go.BinOp.lss x2 (AV.int 0))) ∧
      ((isT (AV.bin Go.BinOp.lss x2 (AV.int 0))) ∧
      ((AV.flat (AV.bool false)) ∧
      ((AV.flat (AV.int 4)) ∧
      (fSame (AV.tup [(AV.bool false), (AV.int 4)]) r)))))) ∧
    ((isF (AV.bin Go.BinOp.lss x2 (AV.int 0))) →
      ((AV.binOk Go.BinOp.gtr x2 (AV.int 60000)) ∧
      ((AV.isBool (AV.bin Go.BinOp.lss x2 (AV.int 0))) ∧
      ((isF (AV.bin Go.BinOp.lss x2 (AV.int 0))) ∧
      ((AV.isBool (AV.bin Go.BinOp.gtr x2 (AV.int 60000))) ∧
      (((isT (AV.bin Go.BinOp.gtr x2 (AV.int 60000))) →
        ((AV.flat (AV.bool false)) ∧
        ((AV.flat (AV.int 4)) ∧
        (fSame (AV.tup [(AV.bool false), (AV.int 4)]) r)))) ∧
      ((isF (AV.bin Go.BinOp.gtr x2 (AV.int 60000))) →
        (∃ r1473 : AV, ((Fn Tryz.prog 53 [(AV.cel x0 0), (AV.agg [(AV.cel x1 0), (AV.cel x1 1)])] (Sh.tup [Sh.sc, Sh.sc]) r1473) ∧
        ((AV.binOk Go.BinOp.eql (AV.prj r1473 1) (AV.int 0)) ∧
        ((AV.isBool (AV.bin Go.BinOp.eql (AV.prj r1473 1) (AV.int 0))) ∧
        (((isT (AV.bin Go.BinOp.eql (AV.prj r1473 1) (AV.int 0))) →
          ((AV.binOk Go.BinOp.geq (AV.prj r1473 0) (AV.int 0)) ∧
          ((AV.isBool (AV.bin Go.BinOp.eql (AV.prj r1473 1) (AV.int 0))) ∧
          ((isT (AV.bin Go.BinOp.eql (AV.prj r1473 1) (AV.int 0))) ∧
          ((AV.isBool (AV.bin Go.BinOp.geq (AV.prj r1473 0) (AV.int 0))) ∧
          (((isT (AV.bin Go.BinOp.geq (AV.prj r1473 0) (AV.int 0))) →
            ((AV.binOk Go.BinOp.geq x2 (AV.cel x0 1)) ∧
            ((AV.isBool (AV.bin Go.BinOp.geq (AV.prj r1473 0) (AV.int 0))) ∧
            ((isT (AV.bin Go.BinOp.geq (AV.prj r1473 0) (AV.int 0))) ∧
            ((AV.isBool (AV.bin Go.BinOp.geq x2 (AV.cel x0 1))) ∧
            (((isT (AV.bin Go.BinOp.geq x2 (AV.cel x0 1))) →
              ((AV.binOk Go.BinOp.lss x2 (AV.cel x0 2)) ∧
              ((AV.isBool (AV.bin Go.BinOp.geq x2 (AV.cel x0 1))) ∧
              ((isT (AV.bin Go.BinOp.geq x2 (AV.cel x0 1))) ∧
              ((AV.flat (AV.bin Go.BinOp.lss x2 (AV.cel x0 2))) ∧
              ((AV.flat (AV.prj r1473 1)) ∧
              (fSame (AV.tup [(AV.bin Go.BinOp.lss x2 (AV.cel x0 2)), (AV.prj r1473 1)]) r))))))) ∧
            ((isF (AV.bin Go.BinOp.geq x2 (AV.cel x0 1))) →
              ((AV.isBool (AV.bin Go.BinOp.geq x2 (AV.cel x0 1))) ∧
              ((isF (AV.bin Go.BinOp.geq x2 (AV.cel x0 1))) ∧
              ((AV.flat (AV.bool false)) ∧
              ((AV.flat (AV.prj r1473 1)) ∧
              (fSame (AV.tup [(AV.bool false), (AV.prj r1473 1)]) r)))))))))))) ∧
          ((isF (AV.bin Go.BinOp.geq (AV.prj r1473 0) (AV.int 0))) →
            ((AV.isBool (AV.bin Go.BinOp.geq (AV.prj r1473 0) (AV.int 0))) ∧
            ((isF (AV.bin Go.BinOp.geq (AV.prj r1473 0) (AV.int 0))) ∧
            ((AV.flat (AV.bool false)) ∧
            ((AV.flat (AV.prj r1473 1)) ∧
            (fSame (AV.tup [(AV.bool false), (AV.prj r1473 1)]) r)))))))))))) ∧
        ((isF (AV.bin Go.BinOp.eql (AV.prj r1473 1) (AV.int 0))) →
          ((AV.isBool (AV.bin Go.BinOp.eql (AV.prj r1473 1) (AV.int 0))) ∧
          ((isF (AV.bin Go.BinOp.eql (AV.prj r1473 1) (AV.int 0))) ∧
          ((AV.flat (AV.bool false)) ∧
          ((AV.flat (AV.prj r1473 1)) ∧
          (fSame (AV.tup [(AV.bool false), (AV.prj r1473 1)]) r)))))))))))))))))))))))))))))))))))) := by kernel_rfl
theorem vcont_form (x0 x1 x2 r : AV) : fnF Tryz.prog Γ ann 3 64 Tryz.f64 (Tryz.f64.body.getD .skip) (.nil) [x0, x1, x2] (.sc) r = (((AV.isAgg x0 3) ∧
((AV.isAgg x1 2) ∧
((AV.binOk Go.BinOp.geq x2 (AV.cel x0 1)) ∧
((AV.isBool (AV.bin Go.BinOp.geq x2 (AV.cel x0 1))) ∧
(((isT (AV.bin Go.BinOp.geq x2 (AV.cel x0 1))) →
  ((AV.binOk Go.BinOp.lss x2 (AV.cel x0 2)) ∧
  ((AV.isBool (AV.bin Go.BinOp.geq x2 (AV.cel x0 1))) ∧
  ((isT (AV.bin Go.BinOp.geq x2 (AV.cel x0 1))) ∧
  ((AV.isBool (AV.bin Go.BinOp.lss x2 (AV.cel x0 2))) ∧
  (((isT (AV.bin Go.BinOp.lss x2 (AV.cel x0 2))) →
    (∃ r1089 : AV, ((Fn Tryz.prog 77 [(AV.cel x0 0), (AV.agg [(AV.cel x1 0), (AV.cel x1 1)])] Sh.sc r1089) ∧
    ((AV.binOk Go.BinOp.geq r1089 (AV.int 0)) ∧
    ((AV.isBool (AV.bin Go.BinOp.lss x2 (AV.cel x0 2))) ∧
    ((isT (AV.bin Go.BinOp.lss x2 (AV.cel x0 2))) ∧
    ((AV.flat (AV.bin Go.BinOp.geq r1089 (AV.int 0))) ∧
    (fSame (AV.bin Go.BinOp.geq r1089 (AV.int 0)) r)))))))) ∧
  ((isF (AV.bin Go.BinOp.lss x2 (AV.cel x0 2))) →
    ((AV.isBool (AV.bin Go.BinOp.lss x2 (AV.cel x0 2))) ∧
    ((isF (AV.bin Go.BinOp.lss x2 (AV.cel x0 2))) ∧
    ((AV.flat (AV.bool false)) ∧
    (fSame (AV.bool false) r))))))))))) ∧
((isF (AV.bin Go.BinOp.geq x2 (AV.cel x0 1))) →
  ((AV.isBool (AV.bin Go.BinOp.geq x2 (AV.cel x0 1))) ∧
  ((isF (AV.bin Go.BinOp.geq x2 (AV.cel x0 1))) ∧
  ((AV.flat (AV.bool false)) ∧
  (fSame (AV.bool false) r))))))))))) := by kernel_rfl
theorem vover_form (x0 x1 r : AV) : fnF Tryz.prog Γ ann 3 46 Tryz.f46 (Tryz.f46.body.getD .skip) (.nil) [x0, x1] (.tup [.sc, .sc]) r = (((AV.isAgg x0 3) ∧
((AV.isAgg x1 3) ∧
(fLoop 577 [(AV.int 0)] fun ys577 again577 =>
  ((AV.binOk Go.BinOp.lss (ys577.getD 0 default) (AV.len (AV.mk 3 [[(AV.cel x0 0), (AV.cel x0 1), (AV.cel x0 2)], [(AV.cel x1 0), (AV.cel x1 1), (AV.cel x1 2)]]))) ∧
  ((AV.isBool (AV.bin Go.BinOp.lss (ys577.getD 0 default) (AV.len (AV.mk 3 [[(AV.cel x0 0), (AV.cel x0 1), (AV.cel x0 2)], [(AV.cel x1 0), (AV.cel x1 1), (AV.cel x1 2)]])))) ∧
  (((isT (AV.bin Go.BinOp.lss (ys577.getD 0 default) (AV.len (AV.mk 3 [[(AV.cel x0 0), (AV.cel x0 1), (AV.cel x0 2)], [(AV.cel x1 0), (AV.cel x1 1), (AV.cel x1 2)]])))) →
    ((AV.inb (AV.mk 3 [[(AV.cel x0 0), (AV.cel x0 1), (AV.cel x0 2)], [(AV.cel x1 0), (AV.cel x1 1), (AV.cel x1 2)]]) (ys577.getD 0 default)) ∧
    ((AV.inb (AV.mk 3 [[(AV.cel x0 0), (AV.cel x0 1), (AV.cel x0 2)], [(AV.cel x1 0), (AV.cel x1 1), (AV.cel x1 2)]]) (ys577.getD 0 default)) ∧
    ((AV.isAgg (AV.atAgg (AV.mk 3 [[(AV.cel x0 0), (AV.cel x0 1), (AV.cel x0 2)], [(AV.cel x1 0), (AV.cel x1 1), (AV.cel x1 2)]]) (ys577.getD 0 default) 0 3) 3) ∧
    (∃ r961 : AV, ((Fn Tryz.prog 44 [(AV.agg [(AV.cel (AV.atAgg (AV.mk 3 [[(AV.cel x0 0), (AV.cel x0 1), (AV.cel x0 2)], [(AV.cel x1 0), (AV.cel x1 1), (AV.cel x1 2)]]) (ys577.getD 0 default) 0 3) 0), (AV.cel (AV.atAgg (AV.mk 3 [[(AV.cel x0 0), (AV.cel x0 1), (AV.cel x0 2)], [(AV.cel x1 0), (AV.cel x1 1), (AV.cel x1 2)]]) (ys577.getD 0 default) 0 3) 1), (AV.cel (AV.atAgg (AV.mk 3 [[(AV.cel x0 0), (AV.cel x0 1), (AV.cel x0 2)], [(AV.cel x1 0), (AV.cel x1 1), (AV.cel x1 2)]]) (ys577.getD 0 default) 0 3) 2)])] Sh.sc r961) ∧
    ((AV.binOk Go.BinOp.neq r961 (AV.int 0)) ∧
    ((AV.isBool (AV.bin Go.BinOp.neq r961 (AV.int 0))) ∧
    (((isT (AV.bin Go.BinOp.neq r961 (AV.int 0))) →
      ((AV.flat (AV.bool false)) ∧
      ((AV.flat r961) ∧
      (fSame (AV.tup [(AV.bool false), r961]) r)))) ∧
    ((isF (AV.bin Go.BinOp.neq r961 (AV.int 0))) →
      ((AV.binOk Go.BinOp.add (ys577.getD 0 default) (AV.int 1)) ∧
      (again577 [(AV.bin Go.BinOp.add (ys577.getD 0 default) (AV.int 1))])))))))))))) ∧
  ((isF (AV.bin Go.BinOp.lss (ys577.getD 0 default) (AV.len (AV.mk 3 [[(AV.cel x0 0), (AV.cel x0 1), (AV.cel x0 2)], [(AV.cel x1 0), (AV.cel x1 1), (AV.cel x1 2)]])))) →
    (∃ r897 : AV, ((Fn Tryz.prog 76 [(AV.cel x0 0), (AV.cel x1 0)] (Sh.tup [Sh.sc, Sh.sc]) r897) ∧
    ((AV.binOk Go.BinOp.eql (AV.prj r897 1) (AV.int 0)) ∧
    ((AV.isBool (AV.bin Go.BinOp.eql (AV.prj r897 1) (AV.int 0))) ∧
    (((isT (AV.bin Go.BinOp.eql (AV.prj r897 1) (AV.int 0))) →
      ((AV.isBool (AV.bin Go.BinOp.eql (AV.prj r897 1) (AV.int 0))) ∧
      ((isT (AV.bin Go.BinOp.eql (AV.prj r897 1) (AV.int 0))) ∧
      ((AV.isBool (AV.prj r897 0)) ∧
      (((isT (AV.prj r897 0)) →
        ((AV.isInt (AV.cel x0 1)) ∧
        ((AV.isInt (AV.cel x1 1)) ∧
        ((AV.isInt (AV.cel x0 2)) ∧
        ((AV.isInt (AV.cel x1 2)) ∧
        ((AV.binOk Go.BinOp.lss (AV.mx (AV.cel x0 1) (AV.cel x1 1)) (AV.mn (AV.cel x0 2) (AV.cel x1 2))) ∧
        ((AV.isBool (AV.prj r897 0)) ∧
        ((isT (AV.prj r897 0)) ∧
        ((AV.flat (AV.bin Go.BinOp.lss (AV.mx (AV.cel x0 1) (AV.cel x1 1)) (AV.mn (AV.cel x0 2) (AV.cel x1 2)))) ∧
        ((AV.flat (AV.prj r897 1)) ∧
        (fSame (AV.tup [(AV.bin Go.BinOp.lss (AV.mx (AV.cel x0 1) (AV.cel x1 1)) (AV.mn (AV.cel x0 2) (AV.cel x1 2))), (AV.prj r897 1)]) r))))))))))) ∧
      ((isF (AV.prj r897 0)) →
        ((AV.isBool (AV.prj r897 0)) ∧
        ((isF (AV.prj r897 0)) ∧
        ((AV.flat (AV.bool false)) ∧
        ((AV.flat (AV.prj r897 1)) ∧
        (fSame (AV.tup [(AV.bool false), (AV.prj r897 1)]) r))))))))))) ∧
    ((isF (AV.bin Go.BinOp.eql (AV.prj r897 1) (AV.int 0))) →
      ((AV.isBool (AV.bin Go.BinOp.eql (AV.prj r897 1) (AV.int 0))) ∧
      ((isF (AV.bin Go.BinOp.eql (AV.prj r897 1) (AV.int 0))) ∧
      ((AV.flat (AV.bool false)) ∧
      ((AV.flat (AV.prj r897 1)) ∧
      (fSame (AV.tup [(AV.bool false), (AV.prj r897 1)]) r))))))))))))))))))) := by kernel_rfl
theorem scheck_form (x0 r : AV) : fnF Tryz.prog Γ ann 3 38 Tryz.f38 (Tryz.f38.body.getD .skip) (.nil) [x0] (.sc) r = (((AV.isSl x0 2) ∧
((AV.binOk Go.BinOp.gtr (AV.len x0) (AV.int 12)) ∧
((AV.isBool (AV.bin Go.BinOp.gtr (AV.len x0) (AV.int 12))) ∧
(((isT (AV.bin Go.BinOp.gtr (AV.len x0) (AV.int 12))) →
  ((AV.flat (AV.int 2)) ∧
  (fSame (AV.int 2) r))) ∧
((isF (AV.bin Go.BinOp.gtr (AV.len x0) (AV.int 12))) →
  ((AV.isSl x0 2) ∧
  (fLoop 513 [(AV.int 0), (AV.mk 3 [])] fun ys513 again513 =>
    ((AV.binOk Go.BinOp.lss (ys513.getD 0 default) (AV.len x0)) ∧
    ((AV.isBool (AV.bin Go.BinOp.lss (ys513.getD 0 default) (AV.len x0))) ∧
    (((isT (AV.bin Go.BinOp.lss (ys513.getD 0 default) (AV.len x0))) →
      ((AV.isSl x0 2) ∧
      ((AV.inb x0 (ys513.getD 0 default)) ∧
      ((AV.isAgg (AV.atAgg x0 (ys513.getD 0 default) 0 2) 2) ∧
      (∃ r1089 : AV, ((Fn Tryz.prog 55 [(AV.cel (AV.atAgg x0 (ys513.getD 0 default) 0 2) 0)] Sh.sc r1089) ∧
      ((AV.unOk Go.UnOp.not r1089) ∧
      ((AV.isBool (AV.un Go.UnOp.not r1089)) ∧
      (((isT (AV.un Go.UnOp.not r1089)) →
        ((AV.flat (AV.int 3)) ∧
        (fSame (AV.int 3) r))) ∧
      ((isF (AV.un Go.UnOp.not r1089)) →
        ((AV.isSl (AV.cel (AV.atAgg x0 (ys513.getD 0 default) 0 2) 1) 3) ∧
        ((AV.binOk Go.BinOp.eql (AV.len (AV.cel (AV.atAgg x0 (ys513.getD 0 default) 0 2) 1)) (AV.int 0)) ∧
        ((AV.isBool (AV.bin Go.BinOp.eql (AV.len (AV.cel (AV.atAgg x0 (ys513.getD 0 default) 0 2) 1)) (AV.int 0))) ∧
        (((isT (AV.bin Go.BinOp.eql (AV.len (AV.cel (AV.atAgg x0 (ys513.getD 0 default) 0 2) 1)) (AV.int 0))) →
          ((AV.flat (AV.int 8)) ∧
          (fSame (AV.int 8) r))) ∧
        ((isF (AV.bin Go.BinOp.eql (AV.len (AV.cel (AV.atAgg x0 (ys513.getD 0 default) 0 2) 1)) (AV.int 0))) →
          ((AV.isSl (AV.cel (AV.atAgg x0 (ys513.getD 0 default) 0 2) 1) 3) ∧
          ((AV.binOk Go.BinOp.gtr (AV.len (AV.cel (AV.atAgg x0 (ys513.getD 0 default) 0 2) 1)) (AV.int 4)) ∧
          ((AV.isBool (AV.bin Go.BinOp.gtr (AV.len (AV.cel (AV.atAgg x0 (ys513.getD 0 default) 0 2) 1)) (AV.int 4))) ∧
          (((isT (AV.bin Go.BinOp.gtr (AV.len (AV.cel (AV.atAgg x0 (ys513.getD 0 default) 0 2) 1)) (AV.int 4))) →
            ((AV.flat (AV.int 2)) ∧
            (fSame (AV.int 2) r))) ∧
          ((isF (AV.bin Go.BinOp.gtr (AV.len (AV.cel (AV.atAgg x0 (ys513.getD 0 default) 0 2) 1)) (AV.int 4))) →
            ((AV.isSl (AV.cel (AV.atAgg x0 (ys513.getD 0 default) 0 2) 1) 3) ∧
            (fLoop 2177 [(AV.int 0)] fun ys2177 again2177 =>
              ((AV.binOk Go.BinOp.lss (ys2177.getD 0 default) (AV.len (AV.cel (AV.atAgg x0 (ys513.getD 0 default) 0 2) 1))) ∧
              ((AV.isBool (AV.bin Go.BinOp.lss (ys2177.getD 0 default) (AV.len (AV.cel (AV.atAgg x0 (ys513.getD 0 default) 0 2) 1)))) ∧
              (((isT (AV.bin Go.BinOp.lss (ys2177.getD 0 default) (AV.len (AV.cel (AV.atAgg x0 (ys513.getD 0 default) 0 2) 1)))) →
                ((AV.isSl (AV.cel (AV.atAgg x0 (ys513.getD 0 default) 0 2) 1) 3) ∧
                ((AV.inb (AV.cel (AV.atAgg x0 (ys513.getD 0 default) 0 2) 1) (ys2177.getD 0 default)) ∧
                ((AV.isAgg (AV.atAgg (AV.cel (AV.atAgg x0 (ys513.getD 0 default) 0 2) 1) (ys2177.getD 0 default) 0 3) 3) ∧
                (∃ r2561 : AV, ((Fn Tryz.prog 44 [(AV.agg [(AV.cel (AV.atAgg (AV.cel (AV.atAgg x0 (ys513.getD 0 default) 0 2) 1) (ys2177.getD 0 default) 0 3) 0), (AV.cel (AV.atAgg (AV.cel (AV.atAgg x0 (ys513.getD 0 default) 0 2) 1) (ys2177.getD 0 default) 0 3) 1), (AV.cel (AV.atAgg (AV.cel (AV.atAgg x0 (ys513.getD 0 default) 0 2) 1) (ys2177.getD 0 default) 0 3) 2)])] Sh.sc r2561) ∧
                ((AV.binOk Go.BinOp.neq r2561 (AV.int 0)) ∧
                ((AV.isBool (AV.bin Go.BinOp.neq r2561 (AV.int 0))) ∧
                (((isT (AV.bin Go.BinOp.neq r2561 (AV.int 0))) →
                  ((AV.flat r2561) ∧
                  (fSame r2561 r))) ∧
                ((isF (AV.bin Go.BinOp.neq r2561 (AV.int 0))) →
                  ((AV.binOk Go.BinOp.add (ys2177.getD 0 default) (AV.int 1)) ∧
                  (again2177 [(AV.bin Go.BinOp.add (ys2177.getD 0 default) (AV.int 1))])))))))))))) ∧
              ((isF (AV.bin Go.BinOp.lss (ys2177.getD 0 default) (AV.len (AV.cel (AV.atAgg x0 (ys513.getD 0 default) 0 2) 1)))) →
                ((AV.isSl x0 2) ∧
                ((AV.subOk x0 (AV.int 0) (ys513.getD 0 default)) ∧
                ((fEnt Tryz.prog 56) ∧
                (fAllV fun _ => ((fEnt Tryz.prog 60) ∧
                (fAllV fun _ => ((AV.isSl (AV.sub 2 x0 (AV.int 0) (ys513.getD 0 default)) 2) ∧
                (fLoop 3073 [(AV.int 0)] fun ys3073 again3073 =>
                  ((AV.binOk Go.BinOp.lss (ys3073.getD 0 default) (AV.len (AV.sub 2 x0 (AV.int 0) (ys513.getD 0 default)))) ∧
                  ((AV.isBool (AV.bin Go.BinOp.lss (ys3073.getD 0 default) (AV.len (AV.sub 2 x0 (AV.int 0) (ys513.getD 0 default))))) ∧
                  (((isT (AV.bin Go.BinOp.lss (ys3073.getD 0 default) (AV.len (AV.sub 2 x0 (AV.int 0) (ys513.getD 0 default))))) →
                    ((AV.isSl (AV.sub 2 x0 (AV.int 0) (ys513.getD 0 default)) 2) ∧
                    ((AV.inb (AV.sub 2 x0 (AV.int 0) (ys513.getD 0 default)) (ys3073.getD 0 default)) ∧
                    ((fEnt Tryz.prog 57) ∧
                    (fAllV fun _ => ((AV.isAgg (AV.atAgg (AV.sub 2 x0 (AV.int 0) (ys513.getD 0 default)) (ys3073.getD 0 default) 0 2) 2) ∧
                    ((AV.binOk Go.BinOp.eql (AV.cel (AV.atAgg (AV.sub 2 x0 (AV.int 0) (ys513.getD 0 default)) (ys3073.getD 0 default) 0 2) 0) (AV.cel (AV.atAgg x0 (ys513.getD 0 default) 0 2) 0)) ∧
                    ((AV.isBool (AV.bin Go.BinOp.eql (AV.cel (AV.atAgg (AV.sub 2 x0 (AV.int 0) (ys513.getD 0 default)) (ys3073.getD 0 default) 0 2) 0) (AV.cel (AV.atAgg x0 (ys513.getD 0 default) 0 2) 0))) ∧
                    (((isT (AV.bin Go.BinOp.eql (AV.cel (AV.atAgg (AV.sub 2 x0 (AV.int 0) (ys513.getD 0 default)) (ys3073.getD 0 default) 0 2) 0) (AV.cel (AV.atAgg x0 (ys513.getD 0 default) 0 2) 0))) →
                      ((AV.binOk Go.BinOp.geq (ys3073.getD 0 default) (AV.int 0)) ∧
                      ((AV.isBool (AV.bin Go.BinOp.geq (ys3073.getD 0 default) (AV.int 0))) ∧
                      (((isT (AV.bin Go.BinOp.geq (ys3073.getD 0 default) (AV.int 0))) →
                        ((AV.flat (AV.int 7)) ∧
                        (fSame (AV.int 7) r))) ∧
                      ((isF (AV.bin Go.BinOp.geq (ys3073.getD 0 default) (AV.int 0))) →
                        ((AV.isSl (AV.cel (AV.atAgg x0 (ys513.getD 0 default) 0 2) 1) 3) ∧
                        ((AV.room (ys513.getD 1 default) (AV.cel (AV.atAgg x0 (ys513.getD 0 default) 0 2) 1) 40) ∧
                        ((AV.binOk Go.BinOp.add (ys513.getD 0 default) (AV.int 1)) ∧
                        (again513 [(AV.bin Go.BinOp.add (ys513.getD 0 default) (AV.int 1)), (AV.app 3 (ys513.getD 1 default) (AV.cel (AV.atAgg x0 (ys513.getD 0 default) 0 2) 1))]))))))))) ∧
                    ((isF (AV.bin Go.BinOp.eql (AV.cel (AV.atAgg (AV.sub 2 x0 (AV.int 0) (ys513.getD 0 default)) (ys3073.getD 0 default) 0 2) 0) (AV.cel (AV.atAgg x0 (ys513.getD 0 default) 0 2) 0))) →
                      ((AV.binOk Go.BinOp.add (ys3073.getD 0 default) (AV.int 1)) ∧
                      (again3073 [(AV.bin Go.BinOp.add (ys3073.getD 0 default) (AV.int 1))])))))))))))) ∧
                  ((isF (AV.bin Go.BinOp.lss (ys3073.getD 0 default) (AV.len (AV.sub 2 x0 (AV.int 0) (ys513.getD 0 default))))) →
                    ((AV.isSl (AV.cel (AV.atAgg x0 (ys513.getD 0 default) 0 2) 1) 3) ∧
                    ((AV.room (ys513.getD 1 default) (AV.cel (AV.atAgg x0 (ys513.getD 0 default) 0 2) 1) 40) ∧
                    ((AV.binOk Go.BinOp.add (ys513.getD 0 default) (AV.int 1)) ∧
                    (again513 [(AV.bin Go.BinOp.add (ys513.getD 0 default) (AV.int 1)), (AV.app 3 (ys513.getD 1 default) (AV.cel (AV.atAgg x0 (ys513.getD 0 default) 0 2) 1))])))))))))))))))))))))))))))))))))))))))))) ∧
    ((isF (AV.bin Go.BinOp.lss (ys513.getD 0 default) (AV.len x0))) →
      (fLoop 769 [(AV.int 0)] fun ys769 again769 =>
        ((AV.binOk Go.BinOp.lss (ys769.getD 0 default) (AV.len (ys513.getD 1 default))) ∧
        ((AV.isBool (AV.bin Go.BinOp.lss (ys769.getD 0 default) (AV.len (ys513.getD 1 default)))) ∧
        (((isT (AV.bin Go.BinOp.lss (ys769.getD 0 default) (AV.len (ys513.getD 1 default)))) →
          ((AV.isSl (ys513.getD 1 default) 3) ∧
          ((AV.inb (ys513.getD 1 default) (ys769.getD 0 default)) ∧
          ((AV.isAgg (AV.atAgg (ys513.getD 1 default) (ys769.getD 0 default) 0 3) 3) ∧
          ((AV.isSl (ys513.getD 1 default) 3) ∧
          ((AV.subOk (ys513.getD 1 default) (AV.int 0) (ys769.getD 0 default)) ∧
          ((AV.isSl (AV.sub 3 (ys513.getD 1 default) (AV.int 0) (ys769.getD 0 default)) 3) ∧
          (fLoop 1537 [(AV.int 0)] fun ys1537 again1537 =>
            ((AV.binOk Go.BinOp.lss (ys1537.getD 0 default) (AV.len (AV.sub 3 (ys513.getD 1 default) (AV.int 0) (ys769.getD 0 default)))) ∧
            ((AV.isBool (AV.bin Go.BinOp.lss (ys1537.getD 0 default) (AV.len (AV.sub 3 (ys513.getD 1 default) (AV.int 0) (ys769.getD 0 default))))) ∧
            (((isT (AV.bin Go.BinOp.lss (ys1537.getD 0 default) (AV.len (AV.sub 3 (ys513.getD 1 default) (AV.int 0) (ys769.getD 0 default))))) →
              ((AV.isSl (AV.sub 3 (ys513.getD 1 default) (AV.int 0) (ys769.getD 0 default)) 3) ∧
              ((AV.inb (AV.sub 3 (ys513.getD 1 default) (AV.int 0) (ys769.getD 0 default)) (ys1537.getD 0 default)) ∧
              ((AV.isAgg (AV.atAgg (AV.sub 3 (ys513.getD 1 default) (AV.int 0) (ys769.getD 0 default)) (ys1537.getD 0 default) 0 3) 3) ∧
              (∃ r1985 : AV, ((Fn Tryz.prog 46 [(AV.agg [(AV.cel (AV.atAgg (ys513.getD 1 default) (ys769.getD 0 default) 0 3) 0), (AV.cel (AV.atAgg (ys513.getD 1 default) (ys769.getD 0 default) 0 3) 1), (AV.cel (AV.atAgg (ys513.getD 1 default) (ys769.getD 0 default) 0 3) 2)]), (AV.agg [(AV.cel (AV.atAgg (AV.sub 3 (ys513.getD 1 default) (AV.int 0) (ys769.getD 0 default)) (ys1537.getD 0 default) 0 3) 0), (AV.cel (AV.atAgg (AV.sub 3 (ys513.getD 1 default) (AV.int 0) (ys769.getD 0 default)) (ys1537.getD 0 default) 0 3) 1), (AV.cel (AV.atAgg (AV.sub 3 (ys513.getD 1 default) (AV.int 0) (ys769.getD 0 default)) (ys1537.getD 0 default) 0 3) 2)])] (Sh.tup [Sh.sc, Sh.sc]) r1985) ∧
              ((AV.isBool (AV.prj r1985 0)) ∧
              (((isT (AV.prj r1985 0)) →
                ((AV.flat (AV.int 19)) ∧
                (fSame (AV.int 19) r))) ∧
              ((isF (AV.prj r1985 0)) →
                ((AV.binOk Go.BinOp.add (ys1537.getD 0 default) (AV.int 1)) ∧
                (again1537 [(AV.bin Go.BinOp.add (ys1537.getD 0 default) (AV.int 1))]))))))))))) ∧
            ((isF (AV.bin Go.BinOp.lss (ys1537.getD 0 default) (AV.len (AV.sub 3 (ys513.getD 1 default) (AV.int 0) (ys769.getD 0 default))))) →
              ((AV.binOk Go.BinOp.add (ys769.getD 0 default) (AV.int 1)) ∧
              (again769 [(AV.bin Go.BinOp.add (ys769.getD 0 default) (AV.int 1))])))))))))))))) ∧
        ((isF (AV.bin Go.BinOp.lss (ys769.getD 0 default) (AV.len (ys513.getD 1 default)))) →
          ((AV.flat (AV.int 0)) ∧
          (fSame (AV.int 0) r))))))))))))))))))) := by kernel_rfl
theorem splace_form (x0 x1 x2 r : AV) : fnF Tryz.prog Γ ann 5 40 Tryz.f40 (Tryz.f40.body.getD .skip) (.nil) [x0, x1, x2] (.sc) r = (((AV.isAgg x1 2) ∧
((AV.isOne x2) ∧
((fEnt Tryz.prog 60) ∧
(fAllV fun _ => ((AV.isSl x0 2) ∧
(fLoop 641 [(AV.int 0)] fun ys641 again641 =>
  ((AV.binOk Go.BinOp.lss (ys641.getD 0 default) (AV.len x0)) ∧
  ((AV.isBool (AV.bin Go.BinOp.lss (ys641.getD 0 default) (AV.len x0))) ∧
  (((isT (AV.bin Go.BinOp.lss (ys641.getD 0 default) (AV.len x0))) →
    ((AV.isSl x0 2) ∧
    ((AV.inb x0 (ys641.getD 0 default)) ∧
    ((fEnt Tryz.prog 61) ∧
    (fAllV fun _ => ((AV.isAgg (AV.atAgg x0 (ys641.getD 0 default) 0 2) 2) ∧
    ((fEnt Tryz.prog 62) ∧
    (fAllV fun _ => ((fEnt Tryz.prog 80) ∧
    (fAllV fun _ => ((AV.isSl (AV.cel (AV.atAgg x0 (ys641.getD 0 default) 0 2) 1) 3) ∧
    (fLoop 2113 [(AV.int 0)] fun ys2113 again2113 =>
      ((AV.binOk Go.BinOp.lss (ys2113.getD 0 default) (AV.len (AV.cel (AV.atAgg x0 (ys641.getD 0 default) 0 2) 1))) ∧
      ((AV.isBool (AV.bin Go.BinOp.lss (ys2113.getD 0 default) (AV.len (AV.cel (AV.atAgg x0 (ys641.getD 0 default) 0 2) 1)))) ∧
      (((isT (AV.bin Go.BinOp.lss (ys2113.getD 0 default) (AV.len (AV.cel (AV.atAgg x0 (ys641.getD 0 default) 0 2) 1)))) →
        ((AV.isSl (AV.cel (AV.atAgg x0 (ys641.getD 0 default) 0 2) 1) 3) ∧
        ((AV.inb (AV.cel (AV.atAgg x0 (ys641.getD 0 default) 0 2) 1) (ys2113.getD 0 default)) ∧
        ((fEnt Tryz.prog 63) ∧
        (fAllV fun _ => ((AV.isAgg (AV.atAgg (AV.cel (AV.atAgg x0 (ys641.getD 0 default) 0 2) 1) (ys2113.getD 0 default) 0 3) 3) ∧
        (∃ r3009 : AV, ((Fn Tryz.prog 64 [(AV.agg [(AV.cel (AV.atAgg (AV.cel (AV.atAgg x0 (ys641.getD 0 default) 0 2) 1) (ys2113.getD 0 default) 0 3) 0), (AV.cel (AV.atAgg (AV.cel (AV.atAgg x0 (ys641.getD 0 default) 0 2) 1) (ys2113.getD 0 default) 0 3) 1), (AV.cel (AV.atAgg (AV.cel (AV.atAgg x0 (ys641.getD 0 default) 0 2) 1) (ys2113.getD 0 default) 0 3) 2)]), (AV.agg [(AV.cel x1 0), (AV.cel x1 1)]), x2] Sh.sc r3009) ∧
        ((AV.isBool r3009) ∧
        (((isT r3009) →
          ((AV.binOk Go.BinOp.geq (ys2113.getD 0 default) (AV.int 0)) ∧
          ((AV.isBool (AV.bin Go.BinOp.geq (ys2113.getD 0 default) (AV.int 0))) ∧
          (((isT (AV.bin Go.BinOp.geq (ys2113.getD 0 default) (AV.int 0))) →
            ((AV.flat (ys641.getD 0 default)) ∧
            (fSame (ys641.getD 0 default) r))) ∧
          ((isF (AV.bin Go.BinOp.geq (ys2113.getD 0 default) (AV.int 0))) →
            ((AV.binOk Go.BinOp.add (ys641.getD 0 default) (AV.int 1)) ∧
            (again641 [(AV.bin Go.BinOp.add (ys641.getD 0 default) (AV.int 1))]))))))) ∧
        ((isF r3009) →
          ((AV.binOk Go.BinOp.add (ys2113.getD 0 default) (AV.int 1)) ∧
          (again2113 [(AV.bin Go.BinOp.add (ys2113.getD 0 default) (AV.int 1))]))))))))))))) ∧
      ((isF (AV.bin Go.BinOp.lss (ys2113.getD 0 default) (AV.len (AV.cel (AV.atAgg x0 (ys641.getD 0 default) 0 2) 1)))) →
        ((AV.binOk Go.BinOp.add (ys641.getD 0 default) (AV.int 1)) ∧
        (again641 [(AV.bin Go.BinOp.add (ys641.getD 0 default) (AV.int 1))])))))))))))))))))) ∧
  ((isF (AV.bin Go.BinOp.lss (ys641.getD 0 default) (AV.len x0))) →
    ((AV.flat (AV.int (-1))) ∧
    (fSame (AV.int (-1)) r))))))))))))) := by kernel_rfl
theorem path_form (x0 x1 r : AV) : fnF Tryz.prog Γ ann 3 37 Tryz.f37 (Tryz.f37.body.getD .skip) (.nil) [x0, x1] (.tup [.row 90 3 true, .sc]) r = ((∃ r193 : AV, ((Fn Tryz.prog 38 [x0] Sh.sc r193) ∧
((AV.binOk Go.BinOp.neq r193 (AV.int 0)) ∧
((AV.isBool (AV.bin Go.BinOp.neq r193 (AV.int 0))) ∧
(((isT (AV.bin Go.BinOp.neq r193 (AV.int 0))) →
  ((AV.flatS (AV.mk 3 [])) ∧
  ((AV.flat r193) ∧
  (fSame (AV.tup [(AV.mk 3 []), r193]) r)))) ∧
((isF (AV.bin Go.BinOp.neq r193 (AV.int 0))) →
  (∃ r513 : AV, ((Fn Tryz.prog 30 [x1] Sh.sc r513) ∧
  ((AV.binOk Go.BinOp.neq r513 (AV.int 0)) ∧
  ((AV.isBool (AV.bin Go.BinOp.neq r513 (AV.int 0))) ∧
  (((isT (AV.bin Go.BinOp.neq r513 (AV.int 0))) →
    ((AV.flatS (AV.mk 3 [])) ∧
    ((AV.flat r513) ∧
    (fSame (AV.tup [(AV.mk 3 []), r513]) r)))) ∧
  ((isF (AV.bin Go.BinOp.neq r513 (AV.int 0))) →
    ((AV.isSl x1 6) ∧
    ((AV.binOk Go.BinOp.sub (AV.len x1) (AV.int 1)) ∧
    ((AV.isSl x1 6) ∧
    ((AV.inb x1 (AV.bin Go.BinOp.sub (AV.len x1) (AV.int 1))) ∧
    ((AV.isSl x1 6) ∧
    ((AV.inb x1 (AV.int 0)) ∧
    ((AV.binOk Go.BinOp.sub (AV.at x1 (AV.bin Go.BinOp.sub (AV.len x1) (AV.int 1)) 0) (AV.at x1 (AV.int 0) 0)) ∧
    ((AV.binOk Go.BinOp.gtr (AV.bin Go.BinOp.sub (AV.at x1 (AV.bin Go.BinOp.sub (AV.len x1) (AV.int 1)) 0) (AV.at x1 (AV.int 0) 0)) (AV.int 20000)) ∧
    ((AV.isBool (AV.bin Go.BinOp.gtr (AV.bin Go.BinOp.sub (AV.at x1 (AV.bin Go.BinOp.sub (AV.len x1) (AV.int 1)) 0) (AV.at x1 (AV.int 0) 0)) (AV.int 20000))) ∧
    (((isT (AV.bin Go.BinOp.gtr (AV.bin Go.BinOp.sub (AV.at x1 (AV.bin Go.BinOp.sub (AV.len x1) (AV.int 1)) 0) (AV.at x1 (AV.int 0) 0)) (AV.int 20000))) →
      ((AV.flatS (AV.mk 3 [])) ∧
      ((AV.flat (AV.int 2)) ∧
      (fSame (AV.tup [(AV.mk 3 []), (AV.int 2)]) r)))) ∧
    ((isF (AV.bin Go.BinOp.gtr (AV.bin Go.BinOp.sub (AV.at x1 (AV.bin Go.BinOp.sub (AV.len x1) (AV.int 1)) 0) (AV.at x1 (AV.int 0) 0)) (AV.int 20000))) →
      (∃ r1857 : AV, ((Fn Tryz.prog 54 [x0, x1] (Sh.row 90 3 true) r1857) ∧
      ((AV.flatS r1857) ∧
      ((AV.flat (AV.int 0)) ∧
      (fSame (AV.tup [r1857, (AV.int 0)]) r))))))))))))))))))))))))))))) := by kernel_rfl
theorem tcheck_form (x0 r : AV) : fnF Tryz.prog Γ ann 3 30 Tryz.f30 (Tryz.f30.body.getD .skip) (.nil) [x0] (.sc) r = (((AV.isSl x0 6) ∧
((AV.binOk Go.BinOp.gtr (AV.len x0) (AV.int 64)) ∧
((AV.isBool (AV.bin Go.BinOp.gtr (AV.len x0) (AV.int 64))) ∧
(((isT (AV.bin Go.BinOp.gtr (AV.len x0) (AV.int 64))) →
  ((AV.flat (AV.int 2)) ∧
  (fSame (AV.int 2) r))) ∧
((isF (AV.bin Go.BinOp.gtr (AV.len x0) (AV.int 64))) →
  ((AV.isSl x0 6) ∧
  ((AV.binOk Go.BinOp.eql (AV.len x0) (AV.int 0)) ∧
  ((AV.isBool (AV.bin Go.BinOp.eql (AV.len x0) (AV.int 0))) ∧
  (((isT (AV.bin Go.BinOp.eql (AV.len x0) (AV.int 0))) →
    ((AV.flat (AV.int 3)) ∧
    (fSame (AV.int 3) r))) ∧
  ((isF (AV.bin Go.BinOp.eql (AV.len x0) (AV.int 0))) →
    ((AV.isSl x0 6) ∧
    (fLoop 769 [(AV.int 0)] fun ys769 again769 =>
      ((AV.binOk Go.BinOp.lss (ys769.getD 0 default) (AV.len x0)) ∧
      ((AV.isBool (AV.bin Go.BinOp.lss (ys769.getD 0 default) (AV.len x0))) ∧
      (((isT (AV.bin Go.BinOp.lss (ys769.getD 0 default) (AV.len x0))) →
        ((AV.isSl x0 6) ∧
        ((AV.inb x0 (ys769.getD 0 default)) ∧
        ((AV.isAgg (AV.atAgg x0 (ys769.getD 0 default) 0 6) 6) ∧
        ((AV.binOk Go.BinOp.lss (AV.cel (AV.atAgg x0 (ys769.getD 0 default) 0 6) 0) (AV.int 0)) ∧
        ((AV.isBool (AV.bin Go.BinOp.lss (AV.cel (AV.atAgg x0 (ys769.getD 0 default) 0 6) 0) (AV.int 0))) ∧
        (((isT (AV.bin Go.BinOp.lss (AV.cel (AV.atAgg x0 (ys769.getD 0 default) 0 6) 0) (AV.int 0))) →
          ((AV.isBool (AV.bin Go.BinOp.lss (AV.cel (AV.atAgg x0 (ys769.getD 0 default) 0 6) 0) (AV.int 0))) ∧
          ((isT (AV.bin Go.BinOp.lss (AV.cel (AV.atAgg x0 (ys769.getD 0 default) 0 6) 0) (AV.int 0))) ∧
          ((AV.flat (AV.int 12)) ∧
          (fSame (AV.int 12) r))))) ∧
        ((isF (AV.bin Go.BinOp.lss (AV.cel (AV.atAgg x0 (ys769.getD 0 default) 0 6) 0) (AV.int 0))) →
          ((AV.binOk Go.BinOp.gtr (AV.cel (AV.atAgg x0 (ys769.getD 0 default) 0 6) 0) (AV.int 200000)) ∧
          ((AV.isBool (AV.bin Go.BinOp.lss (AV.cel (AV.atAgg x0 (ys769.getD 0 default) 0 6) 0) (AV.int 0))) ∧
          ((isF (AV.bin Go.BinOp.lss (AV.cel (AV.atAgg x0 (ys769.getD 0 default) 0 6) 0) (AV.int 0))) ∧
          ((AV.isBool (AV.bin Go.BinOp.gtr (AV.cel (AV.atAgg x0 (ys769.getD 0 default) 0 6) 0) (AV.int 200000))) ∧
          (((isT (AV.bin Go.BinOp.gtr (AV.cel (AV.atAgg x0 (ys769.getD 0 default) 0 6) 0) (AV.int 200000))) →
            ((AV.isBool (AV.bin Go.BinOp.gtr (AV.cel (AV.atAgg x0 (ys769.getD 0 default) 0 6) 0) (AV.int 200000))) ∧
            ((isT (AV.bin Go.BinOp.gtr (AV.cel (AV.atAgg x0 (ys769.getD 0 default) 0 6) 0) (AV.int 200000))) ∧
            ((AV.flat (AV.int 12)) ∧
            (fSame (AV.int 12) r))))) ∧
          ((isF (AV.bin Go.BinOp.gtr (AV.cel (AV.atAgg x0 (ys769.getD 0 default) 0 6) 0) (AV.int 200000))) →
            ((AV.binOk Go.BinOp.gtr (ys769.getD 0 default) (AV.int 0)) ∧
            ((AV.isBool (AV.bin Go.BinOp.gtr (ys769.getD 0 default) (AV.int 0))) ∧
            (((isT (AV.bin Go.BinOp.gtr (ys769.getD 0 default) (AV.int 0))) →
              ((AV.binOk Go.BinOp.sub (ys769.getD 0 default) (AV.int 1)) ∧
              ((AV.isSl x0 6) ∧
              ((AV.inb x0 (AV.bin Go.BinOp.sub (ys769.getD 0 default) (AV.int 1))) ∧
              ((AV.binOk Go.BinOp.leq (AV.cel (AV.atAgg x0 (ys769.getD 0 default) 0 6) 0) (AV.at x0 (AV.bin Go.BinOp.sub (ys769.getD 0 default) (AV.int 1)) 0)) ∧
              ((AV.isBool (AV.bin Go.BinOp.gtr (ys769.getD 0 default) (AV.int 0))) ∧
              ((isT (AV.bin Go.BinOp.gtr (ys769.getD 0 default) (AV.int 0))) ∧
              ((AV.isBool (AV.bin Go.BinOp.gtr (AV.cel (AV.atAgg x0 (ys769.getD 0 default) 0 6) 0) (AV.int 200000))) ∧
              ((isF (AV.bin Go.BinOp.gtr (AV.cel (AV.atAgg x0 (ys769.getD 0 default) 0 6) 0) (AV.int 200000))) ∧
              ((AV.isBool (AV.bin Go.BinOp.leq (AV.cel (AV.atAgg x0 (ys769.getD 0 default) 0 6) 0) (AV.at x0 (AV.bin Go.BinOp.sub (ys769.getD 0 default) (AV.int 1)) 0))) ∧
              (((isT (AV.bin Go.BinOp.leq (AV.cel (AV.atAgg x0 (ys769.getD 0 default) 0 6) 0) (AV.at x0 (AV.bin Go.BinOp.sub (ys769.getD 0 default) (AV.int 1)) 0))) →
                ((AV.flat (AV.int 12)) ∧
                (fSame (AV.int 12) r))) ∧
              ((isF (AV.bin Go.BinOp.leq (AV.cel (AV.atAgg x0 (ys769.getD 0 default) 0 6) 0) (AV.at x0 (AV.bin Go.BinOp.sub (ys769.getD 0 default) (AV.int 1)) 0))) →
                (∃ r3137 : AV, ((Fn Tryz.prog 47 [(AV.agg [(AV.cel (AV.atAgg x0 (ys769.getD 0 default) 0 6) 1), (AV.cel (AV.atAgg x0 (ys769.getD 0 default) 0 6) 2)])] Sh.sc r3137) ∧
                ((AV.binOk Go.BinOp.neq r3137 (AV.int 0)) ∧
                ((AV.isBool (AV.bin Go.BinOp.neq r3137 (AV.int 0))) ∧
                (((isT (AV.bin Go.BinOp.neq r3137 (AV.int 0))) →
                  ((AV.flat r3137) ∧
                  (fSame r3137 r))) ∧
                ((isF (AV.bin Go.BinOp.neq r3137 (AV.int 0))) →
                  ((AV.binOk Go.BinOp.lss (AV.cel (AV.atAgg x0 (ys769.getD 0 default) 0 6) 3) (AV.int 0)) ∧
                  ((AV.isBool (AV.bin Go.BinOp.lss (AV.cel (AV.atAgg x0 (ys769.getD 0 default) 0 6) 3) (AV.int 0))) ∧
                  (((isT (AV.bin Go.BinOp.lss (AV.cel (AV.atAgg x0 (ys769.getD 0 default) 0 6) 3) (AV.int 0))) →
                    ((AV.isBool (AV.bin Go.BinOp.lss (AV.cel (AV.atAgg x0 (ys769.getD 0 default) 0 6) 3) (AV.int 0))) ∧
                    ((isT (AV.bin Go.BinOp.lss (AV.cel (AV.atAgg x0 (ys769.getD 0 default) 0 6) 3) (AV.int 0))) ∧
                    ((AV.flat (AV.int 4)) ∧
                    (fSame (AV.int 4) r))))) ∧
                  ((isF (AV.bin Go.BinOp.lss (AV.cel (AV.atAgg x0 (ys769.getD 0 default) 0 6) 3) (AV.int 0))) →
                    ((AV.binOk Go.BinOp.gtr (AV.cel (AV.atAgg x0 (ys769.getD 0 default) 0 6) 3) (AV.int 60000)) ∧
                    ((AV.isBool (AV.bin Go.BinOp.lss (AV.cel (AV.atAgg x0 (ys769.getD 0 default) 0 6) 3) (AV.int 0))) ∧
                    ((isF (AV.bin Go.BinOp.lss (AV.cel (AV.atAgg x0 (ys769.getD 0 default) 0 6) 3) (AV.int 0))) ∧
                    ((AV.isBool (AV.bin Go.BinOp.gtr (AV.cel (AV.atAgg x0 (ys769.getD 0 default) 0 6) 3) (AV.int 60000))) ∧
                    (((isT (AV.bin Go.BinOp.gtr (AV.cel (AV.atAgg x0 (ys769.getD 0 default) 0 6) 3) (AV.int 60000))) →
                      ((AV.isBool (AV.bin Go.BinOp.gtr (AV.cel (AV.atAgg x0 (ys769.getD 0 default) 0 6) 3) (AV.int 60000))) ∧
                      ((isT (AV.bin Go.BinOp.gtr (AV.cel (AV.atAgg x0 (ys769.getD 0 default) 0 6) 3) (AV.int 60000))) ∧
                      ((AV.flat (AV.int 4)) ∧
                      (fSame (AV.int 4) r))))) ∧
                    ((isF (AV.bin Go.BinOp.gtr (AV.cel (AV.atAgg x0 (ys769.getD 0 default) 0 6) 3) (AV.int 60000))) →
                      ((AV.binOk Go.BinOp.lss (AV.cel (AV.atAgg x0 (ys769.getD 0 default) 0 6) 4) (AV.int 0)) ∧
                      ((AV.isBool (AV.bin Go.BinOp.gtr (AV.cel (AV.atAgg x0 (ys769.getD 0 default) 0 6) 3) (AV.int 60000))) ∧
                      ((isF (AV.bin Go.BinOp.gtr (AV.cel (AV.atAgg x0 (ys769.getD 0 default) 0 6) 3) (AV.int 60000))) ∧
                      ((AV.isBool (AV.bin Go.BinOp.lss (AV.cel (AV.atAgg x0 (ys769.getD 0 default) 0 6) 4) (AV.int 0))) ∧
                      (((isT (AV.bin Go.BinOp.lss (AV.cel (AV.atAgg x0 (ys769.getD 0 default) 0 6) 4) (AV.int 0))) →
                        ((AV.isBool (AV.bin Go.BinOp.lss (AV.cel (AV.atAgg x0 (ys769.getD 0 default) 0 6) 4) (AV.int 0))) ∧
                        ((isT (AV.bin Go.BinOp.lss (AV.cel (AV.atAgg x0 (ys769.getD 0 default) 0 6) 4) (AV.int 0))) ∧
                        ((AV.flat (AV.int 4)) ∧
                        (fSame (AV.int 4) r))))) ∧
                      ((isF (AV.bin Go.BinOp.lss (AV.cel (AV.atAgg x0 (ys769.getD 0 default) 0 6) 4) (AV.int 0))) →
                        ((AV.binOk Go.BinOp.gtr (AV.cel (AV.atAgg x0 (ys769.getD 0 default) 0 6) 4) (AV.int 1000000)) ∧
                        ((AV.isBool (AV.bin Go.BinOp.lss (AV.cel (AV.atAgg x0 (ys769.getD 0 default) 0 6) 4) (AV.int 0))) ∧
                        ((isF (AV.bin Go.BinOp.lss (AV.cel (AV.atAgg x0 (ys769.getD 0 default) 0 6) 4) (AV.int 0))) ∧
                        ((AV.isBool (AV.bin Go.BinOp.gtr (AV.cel (AV.atAgg x0 (ys769.getD 0 default) 0 6) 4) (AV.int 1000000))) ∧
                        (((isT (AV.bin Go.BinOp.gtr (AV.cel (AV.atAgg x0 (ys769.getD 0 default) 0 6) 4) (AV.int 1000000))) →
                          ((AV.isBool (AV.bin Go.BinOp.gtr (AV.cel (AV.atAgg x0 (ys769.getD 0 default) 0 6) 4) (AV.int 1000000))) ∧
                          ((isT (AV.bin Go.BinOp.gtr (AV.cel (AV.atAgg x0 (ys769.getD 0 default) 0 6) 4) (AV.int 1000000))) ∧
                          ((AV.flat (AV.int 4)) ∧
                          (fSame (AV.int 4) r))))) ∧
                        ((isF (AV.bin Go.BinOp.gtr (AV.cel (AV.atAgg x0 (ys769.getD 0 default) 0 6) 4) (AV.int 1000000))) →
                          ((AV.binOk Go.BinOp.lss (AV.cel (AV.atAgg x0 (ys769.getD 0 default) 0 6) 5) (AV.int 0)) ∧
                          ((AV.isBool (AV.bin Go.BinOp.gtr (AV.cel (AV.atAgg x0 (ys769.getD 0 default) 0 6) 4) (AV.int 1000000))) ∧
                          ((isF (AV.bin Go.BinOp.gtr (AV.cel (AV.atAgg x0 (ys769.getD 0 default) 0 6) 4) (AV.int 1000000))) ∧
                          ((AV.isBool (AV.bin Go.BinOp.lss (AV.cel (AV.atAgg x0 (ys769.getD 0 default) 0 6) 5) (AV.int 0))) ∧
                          (((isT (AV.bin Go.BinOp.lss (AV.cel (AV.atAgg x0 (ys769.getD 0 default) 0 6) 5) (AV.int 0))) →
                            ((AV.isBool (AV.bin Go.BinOp.lss (AV.cel (AV.atAgg x0 (ys769.getD 0 default) 0 6) 5) (AV.int 0))) ∧
                            ((isT (AV.bin Go.BinOp.lss (AV.cel (AV.atAgg x0 (ys769.getD 0 default) 0 6) 5) (AV.int 0))) ∧
                            ((AV.flat (AV.int 4)) ∧
                            (fSame (AV.int 4) r))))) ∧
                          ((isF (AV.bin Go.BinOp.lss (AV.cel (AV.atAgg x0 (ys769.getD 0 default) 0 6) 5) (AV.int 0))) →
                            ((AV.binOk Go.BinOp.gtr (AV.cel (AV.atAgg x0 (ys769.getD 0 default) 0 6) 5) (AV.int 60000)) ∧
                            ((AV.isBool (AV.bin Go.BinOp.lss (AV.cel (AV.atAgg x0 (ys769.getD 0 default) 0 6) 5) (AV.int 0))) ∧
                            ((isF (AV.bin Go.BinOp.lss (AV.cel (AV.atAgg x0 (ys769.getD 0 default) 0 6) 5) (AV.int 0))) ∧
                            ((AV.isBool (AV.bin Go.BinOp.gtr (AV.cel (AV.atAgg x0 (ys769.getD 0 default) 0 6) 5) (AV.int 60000))) ∧
                            (((isT (AV.bin Go.BinOp.gtr (AV.cel (AV.atAgg x0 (ys769.getD 0 default) 0 6) 5) (AV.int 60000))) →
                              ((AV.flat (AV.int 4)) ∧
                              (fSame (AV.int 4) r))) ∧
                            ((isF (AV.bin Go.BinOp.gtr (AV.cel (AV.atAgg x0 (ys769.getD 0 default) 0 6) 5) (AV.int 60000))) →
                              ((AV.binOk Go.BinOp.add (ys769.getD 0 default) (AV.int 1)) ∧
                              (again769 [(AV.bin Go.BinOp.add (ys769.getD 0 default) (AV.int 1))])))))))))))))))))))))))))))))))))))))))))))))))))))))) ∧
            ((isF (AV.bin Go.BinOp.gtr (ys769.getD 0 default) (AV.int 0))) →
              ((AV.isBool (AV.bin Go.BinOp.gtr (ys769.getD 0 default) (AV.int 0))) ∧
              ((isF (AV.bin Go.BinOp.gtr (ys769.getD 0 default) (AV.int 0))) ∧
              ((AV.isBool (AV.bin Go.BinOp.gtr (AV.cel (AV.atAgg x0 (ys769.getD 0 default) 0 6) 0) (AV.int 200000))) ∧
              ((isF (AV.bin Go.BinOp.gtr (AV.cel (AV.atAgg x0 (ys769.getD 0 default) 0 6) 0) (AV.int 200000))) ∧
              (∃ r3137 : AV, ((Fn Tryz.prog 47 [(AV.agg [(AV.cel (AV.atAgg x0 (ys769.getD 0 default) 0 6) 1), (AV.cel (AV.atAgg x0 (ys769.getD 0 default) 0 6) 2)])] Sh.sc r3137) ∧
              ((AV.binOk Go.BinOp.neq r3137 (AV.int 0)) ∧
              ((AV.isBool (AV.bin Go.BinOp.neq r3137 (AV.int 0))) ∧
              (((isT (AV.bin Go.BinOp.neq r3137 (AV.int 0))) →
                ((AV.flat r3137) ∧
                (fSame r3137 r))) ∧
              ((isF (AV.bin Go.BinOp.neq r3137 (AV.int 0))) →
                ((AV.binOk Go.BinOp.lss (AV.cel (AV.atAgg x0 (ys769.getD 0 default) 0 6) 3) (AV.int 0)) ∧
                ((AV.isBool (AV.bin Go.BinOp.lss (AV.cel (AV.atAgg x0 (ys769.getD 0 default) 0 6) 3) (AV.int 0))) ∧
                (((isT (AV.bin Go.BinOp.lss (AV.cel (AV.atAgg x0 (ys769.getD 0 default) 0 6) 3) (AV.int 0))) →
                  ((AV.isBool (AV.bin Go.BinOp.lss (AV.cel (AV.atAgg x0 (ys769.getD 0 default) 0 6) 3) (AV.int 0))) ∧
                  ((isT (AV.bin Go.BinOp.lss (AV.cel (AV.atAgg x0 (ys769.getD 0 default) 0 6) 3) (AV.int 0))) ∧
                  ((AV.flat (AV.int 4)) ∧
                  (fSame (AV.int 4) r))))) ∧
                ((isF (AV.bin Go.BinOp.lss (AV.cel (AV.atAgg x0 (ys769.getD 0 default) 0 6) 3) (AV.int 0))) →
                  ((AV.binOk Go.BinOp.gtr (AV.cel (AV.atAgg x0 (ys769.getD 0 default) 0 6) 3) (AV.int 60000)) ∧
                  ((AV.isBool (AV.bin Go.BinOp.lss (AV.cel (AV.atAgg x0 (ys769.getD 0 default) 0 6) 3) (AV.int 0))) ∧
                  ((isF (AV.bin Go.BinOp.lss (AV.cel (AV.atAgg x0 (ys769.getD 0 default) 0 6) 3) (AV.int 0))) ∧
                  ((AV.isBool (AV.bin Go.BinOp.gtr (AV.cel (AV.atAgg x0 (ys769.getD 0 default) 0 6) 3) (AV.int 60000))) ∧
                  (((isT (AV.bin Go.BinOp.gtr (AV.cel (AV.atAgg x0 (ys769.getD 0 default) 0 6) 3) (AV.int 60000))) →
                    ((AV.isBool (AV.bin Go.BinOp.gtr (AV.cel (AV.atAgg x0 (ys769.getD 0 default) 0 6) 3) (AV.int 60000))) ∧
                    ((isT (AV.bin Go.BinOp.gtr (AV.cel (AV.atAgg x0 (ys769.getD 0 default) 0 6) 3) (AV.int 60000))) ∧
                    ((AV.flat (AV.int 4)) ∧
                    (fSame (AV.int 4) r))))) ∧
                  ((isF (AV.bin Go.BinOp.gtr (AV.cel (AV.atAgg x0 (ys769.getD 0 default) 0 6) 3) (AV.int 60000))) →
                    ((AV.binOk Go.BinOp.lss (AV.cel (AV.atAgg x0 (ys769.getD 0 default) 0 6) 4) (AV.int 0)) ∧
                    ((AV.isBool (AV.bin Go.BinOp.gtr (AV.cel (AV.atAgg x0 (ys769.getD 0 default) 0 6) 3) (AV.int 60000))) ∧
                    ((isF (AV.bin Go.BinOp.gtr (AV.cel (AV.atAgg x0 (ys769.getD 0 default) 0 6) 3) (AV.int 60000))) ∧
                    ((AV.isBool (AV.bin Go.BinOp.lss (AV.cel (AV.atAgg x0 (ys769.getD 0 default) 0 6) 4) (AV.int 0))) ∧
                    (((isT (AV.bin Go.BinOp.lss (AV.cel (AV.atAgg x0 (ys769.getD 0 default) 0 6) 4) (AV.int 0))) →
                      ((AV.isBool (AV.bin Go.BinOp.lss (AV.cel (AV.atAgg x0 (ys769.getD 0 default) 0 6) 4) (AV.int 0))) ∧
                      ((isT (AV.bin Go.BinOp.lss (AV.cel (AV.atAgg x0 (ys769.getD 0 default) 0 6) 4) (AV.int 0))) ∧
                      ((AV.flat (AV.int 4)) ∧
                      (fSame (AV.int 4) r))))) ∧
                    ((isF (AV.bin Go.BinOp.lss (AV.cel (AV.atAgg x0 (ys769.getD 0 default) 0 6) 4) (AV.int 0))) →
                      ((AV.binOk Go.BinOp.gtr (AV.cel (AV.atAgg x0 (ys769.getD 0 default) 0 6) 4) (AV.int 1000000)) ∧
                      ((AV.isBool (AV.bin Go.BinOp.lss (AV.cel (AV.atAgg x0 (ys769.getD 0 default) 0 6) 4) (AV.int 0))) ∧
                      ((isF (AV.bin Go.BinOp.lss (AV.cel (AV.atAgg x0 (ys769.getD 0 default) 0 6) 4) (AV.int 0))) ∧
                      ((AV.isBool (AV.bin Go.BinOp.gtr (AV.cel (AV.atAgg x0 (ys769.getD 0 default) 0 6) 4) (AV.int 1000000))) ∧
                      (((isT (AV.bin Go.BinOp.gtr (AV.cel (AV.atAgg x0 (ys769.getD 0 default) 0 6) 4) (AV.int 1000000))) →
                        ((AV.isBool (AV.bin Go.BinOp.gtr (AV.cel (AV.atAgg x0 (ys769.getD 0 default) 0 6) 4) (AV.int 1000000))) ∧
                        ((isT (AV.bin Go.BinOp.gtr (AV.cel (AV.atAgg x0 (ys769.getD 0 default) 0 6) 4) (AV.int 1000000))) ∧
                        ((AV.flat (AV.int 4)) ∧
                        (fSame (AV.int 4) r))))) ∧
                      ((isF (AV.bin Go.BinOp.gtr (AV.cel (AV.atAgg x0 (ys769.getD 0 default) 0 6) 4) (AV.int 1000000))) →
                        ((AV.binOk Go.BinOp.lss (AV.cel (AV.atAgg x0 (ys769.getD 0 default) 0 6) 5) (AV.int 0)) ∧
                        ((AV.isBool (AV.bin Go.BinOp.gtr (AV.cel (AV.atAgg x0 (ys769.getD 0 default) 0 6) 4) (AV.int 1000000))) ∧
                        ((isF (AV.bin Go.BinOp.gtr (AV.cel (AV.atAgg x0 (ys769.getD 0 default) 0 6) 4) (AV.int 1000000))) ∧
                        ((AV.isBool (AV.bin Go.BinOp.lss (AV.cel (AV.atAgg x0 (ys769.getD 0 default) 0 6) 5) (AV.int 0))) ∧
                        (((isT (AV.bin Go.BinOp.lss (AV.cel (AV.atAgg x0 (ys769.getD 0 default) 0 6) 5) (AV.int 0))) →
                          ((AV.isBool (AV.bin Go.BinOp.lss (AV.cel (AV.atAgg x0 (ys769.getD 0 default) 0 6) 5) (AV.int 0))) ∧
                          ((isT (AV.bin Go.BinOp.lss (AV.cel (AV.atAgg x0 (ys769.getD 0 default) 0 6) 5) (AV.int 0))) ∧
                          ((AV.flat (AV.int 4)) ∧
                          (fSame (AV.int 4) r))))) ∧
                        ((isF (AV.bin Go.BinOp.lss (AV.cel (AV.atAgg x0 (ys769.getD 0 default) 0 6) 5) (AV.int 0))) →
                          ((AV.binOk Go.BinOp.gtr (AV.cel (AV.atAgg x0 (ys769.getD 0 default) 0 6) 5) (AV.int 60000)) ∧
                          ((AV.isBool (AV.bin Go.BinOp.lss (AV.cel (AV.atAgg x0 (ys769.getD 0 default) 0 6) 5) (AV.int 0))) ∧
                          ((isF (AV.bin Go.BinOp.lss (AV.cel (AV.atAgg x0 (ys769.getD 0 default) 0 6) 5) (AV.int 0))) ∧
                          ((AV.isBool (AV.bin Go.BinOp.gtr (AV.cel (AV.atAgg x0 (ys769.getD 0 default) 0 6) 5) (AV.int 60000))) ∧
                          (((isT (AV.bin Go.BinOp.gtr (AV.cel (AV.atAgg x0 (ys769.getD 0 default) 0 6) 5) (AV.int 60000))) →
                            ((AV.flat (AV.int 4)) ∧
                            (fSame (AV.int 4) r))) ∧
                          ((isF (AV.bin Go.BinOp.gtr (AV.cel (AV.atAgg x0 (ys769.getD 0 default) 0 6) 5) (AV.int 60000))) →
                            ((AV.binOk Go.BinOp.add (ys769.getD 0 default) (AV.int 1)) ∧
                            (again769 [(AV.bin Go.BinOp.add (ys769.getD 0 default) (AV.int 1))])))))))))))))))))))))))))))))))))))))))))))))))))))))))))))))))) ∧
      ((isF (AV.bin Go.BinOp.lss (ys769.getD 0 default) (AV.len x0))) →
        ((AV.flat (AV.int 0)) ∧
        (fSame (AV.int 0) r))))))))))))))))))) := by kernel_rfl
theorem ends_form (x0 r : AV) : fnF Tryz.prog Γ ann 3 33 Tryz.f33 (Tryz.f33.body.getD .skip) (.nil) [x0] (.tup [.sc, .sc]) r = (((AV.isSl x0 6) ∧
((AV.inb x0 (AV.int 0)) ∧
((AV.isSl x0 6) ∧
((AV.binOk Go.BinOp.sub (AV.len x0) (AV.int 1)) ∧
((AV.isSl x0 6) ∧
((AV.inb x0 (AV.bin Go.BinOp.sub (AV.len x0) (AV.int 1))) ∧
((AV.flat (AV.at x0 (AV.int 0) 0)) ∧
((AV.flat (AV.at x0 (AV.bin Go.BinOp.sub (AV.len x0) (AV.int 1)) 0)) ∧
(fSame (AV.tup [(AV.at x0 (AV.int 0) 0), (AV.at x0 (AV.bin Go.BinOp.sub (AV.len x0) (AV.int 1)) 0)]) r)))))))))) := by kernel_rfl
theorem at_form (x0 x1 r : AV) : fnF Tryz.prog Γ ann 3 34 Tryz.f34 (Tryz.f34.body.getD .skip) (.nil) [x0, x1] (.sc) r = (((fEnt Tryz.prog 48) ∧
(fAllV fun _ => ((AV.isSl x0 6) ∧
(fLoop 769 [(AV.int 0), (AV.len x0)] fun ys769 again769 =>
  ((AV.binOk Go.BinOp.lss (ys769.getD 0 default) (ys769.getD 1 default)) ∧
  ((AV.isBool (AV.bin Go.BinOp.lss (ys769.getD 0 default) (ys769.getD 1 default))) ∧
  (((isT (AV.bin Go.BinOp.lss (ys769.getD 0 default) (ys769.getD 1 default))) →
    ((AV.binOk Go.BinOp.add (ys769.getD 0 default) (ys769.getD 1 default)) ∧
    ((AV.isInt (AV.bin Go.BinOp.add (ys769.getD 0 default) (ys769.getD 1 default))) ∧
    ((AV.shfOk (AV.conv Go.IntKind.u64 (AV.bin Go.BinOp.add (ys769.getD 0 default) (ys769.getD 1 default))) (AV.lit (Value.int Go.IntKind.u64 1))) ∧
    ((AV.isInt (AV.shf Go.BinOp.shr (AV.conv Go.IntKind.u64 (AV.bin Go.BinOp.add (ys769.getD 0 default) (ys769.getD 1 default))) (AV.lit (Value.int Go.IntKind.u64 1)))) ∧
    ((AV.isSl x0 6) ∧
    ((AV.inb x0 (AV.conv Go.IntKind.i64 (AV.shf Go.BinOp.shr (AV.conv Go.IntKind.u64 (AV.bin Go.BinOp.add (ys769.getD 0 default) (ys769.getD 1 default))) (AV.lit (Value.int Go.IntKind.u64 1))))) ∧
    ((fEnt Tryz.prog 49) ∧
    (fAllV fun _ => ((AV.isAgg (AV.atAgg x0 (AV.conv Go.IntKind.i64 (AV.shf Go.BinOp.shr (AV.conv Go.IntKind.u64 (AV.bin Go.BinOp.add (ys769.getD 0 default) (ys769.getD 1 default))) (AV.lit (Value.int Go.IntKind.u64 1)))) 0 6) 6) ∧
    ((AV.binOk Go.BinOp.sub (AV.cel (AV.atAgg x0 (AV.conv Go.IntKind.i64 (AV.shf Go.BinOp.shr (AV.conv Go.IntKind.u64 (AV.bin Go.BinOp.add (ys769.getD 0 default) (ys769.getD 1 default))) (AV.lit (Value.int Go.IntKind.u64 1)))) 0 6) 0) x1) ∧
    ((AV.binOk Go.BinOp.lss (AV.bin Go.BinOp.sub (AV.cel (AV.atAgg x0 (AV.conv Go.IntKind.i64 (AV.shf Go.BinOp.shr (AV.conv Go.IntKind.u64 (AV.bin Go.BinOp.add (ys769.getD 0 default) (ys769.getD 1 default))) (AV.lit (Value.int Go.IntKind.u64 1)))) 0 6) 0) x1) (AV.int 0)) ∧
    ((AV.isBool (AV.bin Go.BinOp.lss (AV.bin Go.BinOp.sub (AV.cel (AV.atAgg x0 (AV.conv Go.IntKind.i64 (AV.shf Go.BinOp.shr (AV.conv Go.IntKind.u64 (AV.bin Go.BinOp.add (ys769.getD 0 default) (ys769.getD 1 default))) (AV.lit (Value.int Go.IntKind.u64 1)))) 0 6) 0) x1) (AV.int 0))) ∧
    (((isT (AV.bin Go.BinOp.lss (AV.bin Go.BinOp.sub (AV.cel (AV.atAgg x0 (AV.conv Go.IntKind.i64 (AV.shf Go.BinOp.shr (AV.conv Go.IntKind.u64 (AV.bin Go.BinOp.add (ys769.getD 0 default) (ys769.getD 1 default))) (AV.lit (Value.int Go.IntKind.u64 1)))) 0 6) 0) x1) (AV.int 0))) →
      ((AV.binOk Go.BinOp.add (AV.conv Go.IntKind.i64 (AV.shf Go.BinOp.shr (AV.conv Go.IntKind.u64 (AV.bin Go.BinOp.add (ys769.getD 0 default) (ys769.getD 1 default))) (AV.lit (Value.int Go.IntKind.u64 1)))) (AV.int 1)) ∧
      (again769 [(AV.bin Go.BinOp.add (AV.conv Go.IntKind.i64 (AV.shf Go.BinOp.shr (AV.conv Go.IntKind.u64 (AV.bin Go.BinOp.add (ys769.getD 0 default) (ys769.getD 1 default))) (AV.lit (Value.int Go.IntKind.u64 1)))) (AV.int 1)), (ys769.getD 1 default)]))) ∧
    ((isF (AV.bin Go.BinOp.lss (AV.bin Go.BinOp.sub (AV.cel (AV.atAgg x0 (AV.conv Go.IntKind.i64 (AV.shf Go.BinOp.shr (AV.conv Go.IntKind.u64 (AV.bin Go.BinOp.add (ys769.getD 0 default) (ys769.getD 1 default))) (AV.lit (Value.int Go.IntKind.u64 1)))) 0 6) 0) x1) (AV.int 0))) →
      (again769 [(ys769.getD 0 default), (AV.conv Go.IntKind.i64 (AV.shf Go.BinOp.shr (AV.conv Go.IntKind.u64 (AV.bin Go.BinOp.add (ys769.getD 0 default) (ys769.getD 1 default))) (AV.lit (Value.int Go.IntKind.u64 1))))])))))))))))))))) ∧
  ((isF (AV.bin Go.BinOp.lss (ys769.getD 0 default) (ys769.getD 1 default))) →
    ((AV.binOk Go.BinOp.lss (ys769.getD 0 default) (AV.len x0)) ∧
    ((AV.isBool (AV.bin Go.BinOp.lss (ys769.getD 0 default) (AV.len x0))) ∧
    (((isT (AV.bin Go.BinOp.lss (ys769.getD 0 default) (AV.len x0))) →
      ((AV.isSl x0 6) ∧
      ((AV.inb x0 (ys769.getD 0 default)) ∧
      ((fEnt Tryz.prog 49) ∧
      (fAllV fun _ => ((AV.isAgg (AV.atAgg x0 (ys769.getD 0 default) 0 6) 6) ∧
      ((AV.binOk Go.BinOp.sub (AV.cel (AV.atAgg x0 (ys769.getD 0 default) 0 6) 0) x1) ∧
      ((AV.binOk Go.BinOp.eql (AV.bin Go.BinOp.sub (AV.cel (AV.atAgg x0 (ys769.getD 0 default) 0 6) 0) x1) (AV.int 0)) ∧
      ((AV.isBool (AV.bin Go.BinOp.lss (ys769.getD 0 default) (AV.len x0))) ∧
      ((isT (AV.bin Go.BinOp.lss (ys769.getD 0 default) (AV.len x0))) ∧
      ((AV.isBool (AV.bin Go.BinOp.eql (AV.bin Go.BinOp.sub (AV.cel (AV.atAgg x0 (ys769.getD 0 default) 0 6) 0) x1) (AV.int 0))) ∧
      (((isT (AV.bin Go.BinOp.eql (AV.bin Go.BinOp.sub (AV.cel (AV.atAgg x0 (ys769.getD 0 default) 0 6) 0) x1) (AV.int 0))) →
        ((AV.isSl x0 6) ∧
        ((AV.inb x0 (ys769.getD 0 default)) ∧
        ((AV.isAgg (AV.atAgg x0 (ys769.getD 0 default) 0 6) 6) ∧
        ((AV.flat (AV.agg [(AV.cel (AV.atAgg x0 (ys769.getD 0 default) 0 6) 0), (AV.cel (AV.atAgg x0 (ys769.getD 0 default) 0 6) 1), (AV.cel (AV.atAgg x0 (ys769.getD 0 default) 0 6) 2), (AV.cel (AV.atAgg x0 (ys769.getD 0 default) 0 6) 3), (AV.cel (AV.atAgg x0 (ys769.getD 0 default) 0 6) 4), (AV.cel (AV.atAgg x0 (ys769.getD 0 default) 0 6) 5)])) ∧
        (fSame (AV.agg [(AV.cel (AV.atAgg x0 (ys769.getD 0 default) 0 6) 0), (AV.cel (AV.atAgg x0 (ys769.getD 0 default) 0 6) 1), (AV.cel (AV.atAgg x0 (ys769.getD 0 default) 0 6) 2), (AV.cel (AV.atAgg x0 (ys769.getD 0 default) 0 6) 3), (AV.cel (AV.atAgg x0 (ys769.getD 0 default) 0 6) 4), (AV.cel (AV.atAgg x0 (ys769.getD 0 default) 0 6) 5)]) r)))))) ∧
      ((isF (AV.bin Go.BinOp.eql (AV.bin Go.BinOp.sub (AV.cel (AV.atAgg x0 (ys769.getD 0 default) 0 6) 0) x1) (AV.int 0))) →
        ((AV.binOk Go.BinOp.sub (ys769.getD 0 default) (AV.int 1)) ∧
        ((AV.isSl x0 6) ∧
        ((AV.inb x0 (AV.bin Go.BinOp.sub (ys769.getD 0 default) (AV.int 1))) ∧
        ((AV.isSl x0 6) ∧
        ((AV.inb x0 (ys769.getD 0 default)) ∧
        ((AV.isAgg (AV.atAgg x0 (AV.bin Go.BinOp.sub (ys769.getD 0 default) (AV.int 1)) 0 6) 6) ∧
        ((AV.isAgg (AV.atAgg x0 (ys769.getD 0 default) 0 6) 6) ∧
        ((AV.binOk Go.BinOp.sub x1 (AV.cel (AV.atAgg x0 (AV.bin Go.BinOp.sub (ys769.getD 0 default) (AV.int 1)) 0 6) 0)) ∧
        ((AV.binOk Go.BinOp.sub (AV.cel (AV.atAgg x0 (ys769.getD 0 default) 0 6) 0) (AV.cel (AV.atAgg x0 (AV.bin Go.BinOp.sub (ys769.getD 0 default) (AV.int 1)) 0 6) 0)) ∧
        (∃ r5249 : AV, ((Fn Tryz.prog 50 [(AV.agg [(AV.cel (AV.atAgg x0 (AV.bin Go.BinOp.sub (ys769.getD 0 default) (AV.int 1)) 0 6) 1), (AV.cel (AV.atAgg x0 (AV.bin Go.BinOp.sub (ys769.getD 0 default) (AV.int 1)) 0 6) 2)]), (AV.agg [(AV.cel (AV.atAgg x0 (ys769.getD 0 default) 0 6) 1), (AV.cel (AV.atAgg x0 (ys769.getD 0 default) 0 6) 2)]), (AV.bin Go.BinOp.sub x1 (AV.cel (AV.atAgg x0 (AV.bin Go.BinOp.sub (ys769.getD 0 default) (AV.int 1)) 0 6) 0)), (AV.bin Go.BinOp.sub (AV.cel (AV.atAgg x0 (ys769.getD 0 default) 0 6) 0) (AV.cel (AV.atAgg x0 (AV.bin Go.BinOp.sub (ys769.getD 0 default) (AV.int 1)) 0 6) 0))] (Sh.tup [Sh.sc, Sh.sc]) r5249) ∧
        ((AV.isAgg (AV.prj r5249 0) 2) ∧
        ((AV.binOk Go.BinOp.sub (AV.cel (AV.atAgg x0 (ys769.getD 0 default) 0 6) 3) (AV.cel (AV.atAgg x0 (AV.bin Go.BinOp.sub (ys769.getD 0 default) (AV.int 1)) 0 6) 3)) ∧
        ((AV.binOk Go.BinOp.mul (AV.bin Go.BinOp.sub (AV.cel (AV.atAgg x0 (ys769.getD 0 default) 0 6) 3) (AV.cel (AV.atAgg x0 (AV.bin Go.BinOp.sub (ys769.getD 0 default) (AV.int 1)) 0 6) 3)) (AV.bin Go.BinOp.sub x1 (AV.cel (AV.atAgg x0 (AV.bin Go.BinOp.sub (ys769.getD 0 default) (AV.int 1)) 0 6) 0))) ∧
        (∃ r6337 : AV, ((Fn Tryz.prog 51 [(AV.bin Go.BinOp.mul (AV.bin Go.BinOp.sub (AV.cel (AV.atAgg x0 (ys769.getD 0 default) 0 6) 3) (AV.cel (AV.atAgg x0 (AV.bin Go.BinOp.sub (ys769.getD 0 default) (AV.int 1)) 0 6) 3)) (AV.bin Go.BinOp.sub x1 (AV.cel (AV.atAgg x0 (AV.bin Go.BinOp.sub (ys769.getD 0 default) (AV.int 1)) 0 6) 0))), (AV.bin Go.BinOp.sub (AV.cel (AV.atAgg x0 (ys769.getD 0 default) 0 6) 0) (AV.cel (AV.atAgg x0 (AV.bin Go.BinOp.sub (ys769.getD 0 default) (AV.int 1)) 0 6) 0))] (Sh.tup [Sh.sc, Sh.sc]) r6337) ∧
        ((AV.binOk Go.BinOp.sub (AV.cel (AV.atAgg x0 (ys769.getD 0 default) 0 6) 4) (AV.cel (AV.atAgg x0 (AV.bin Go.BinOp.sub (ys769.getD 0 default) (AV.int 1)) 0 6) 4)) ∧
        ((AV.binOk Go.BinOp.mul (AV.bin Go.BinOp.sub (AV.cel (AV.atAgg x0 (ys769.getD 0 default) 0 6) 4) (AV.cel (AV.atAgg x0 (AV.bin Go.BinOp.sub (ys769.getD 0 default) (AV.int 1)) 0 6) 4)) (AV.bin Go.BinOp.sub x1 (AV.cel (AV.atAgg x0 (AV.bin Go.BinOp.sub (ys769.getD 0 default) (AV.int 1)) 0 6) 0))) ∧
        (∃ r7233 : AV, ((Fn Tryz.prog 52 [(AV.bin Go.BinOp.mul (AV.bin Go.BinOp.sub (AV.cel (AV.atAgg x0 (ys769.getD 0 default) 0 6) 4) (AV.cel (AV.atAgg x0 (AV.bin Go.BinOp.sub (ys769.getD 0 default) (AV.int 1)) 0 6) 4)) (AV.bin Go.BinOp.sub x1 (AV.cel (AV.atAgg x0 (AV.bin Go.BinOp.sub (ys769.getD 0 default) (AV.int 1)) 0 6) 0))), (AV.bin Go.BinOp.sub (AV.cel (AV.atAgg x0 (ys769.getD 0 default) 0 6) 0) (AV.cel (AV.atAgg x0 (AV.bin Go.BinOp.sub (ys769.getD 0 default) (AV.int 1)) 0 6) 0))] (Sh.tup [Sh.sc, Sh.sc]) r7233) ∧
        ((AV.binOk Go.BinOp.sub (AV.cel (AV.atAgg x0 (ys769.getD 0 default) 0 6) 5) (AV.cel (AV.atAgg x0 (AV.bin Go.BinOp.sub (ys769.getD 0 default) (AV.int 1)) 0 6) 5)) ∧
        ((AV.binOk Go.BinOp.mul (AV.bin Go.BinOp.sub (AV.cel (AV.atAgg x0 (ys769.getD 0 default) 0 6) 5) (AV.cel (AV.atAgg x0 (AV.bin Go.BinOp.sub (ys769.getD 0 default) (AV.int 1)) 0 6) 5)) (AV.bin Go.BinOp.sub x1 (AV.cel (AV.atAgg x0 (AV.bin Go.BinOp.sub (ys769.getD 0 default) (AV.int 1)) 0 6) 0))) ∧
        (∃ r8129 : AV, ((Fn Tryz.prog 52 [(AV.bin Go.BinOp.mul (AV.bin Go.BinOp.sub (AV.cel (AV.atAgg x0 (ys769.getD 0 default) 0 6) 5) (AV.cel (AV.atAgg x0 (AV.bin Go.BinOp.sub (ys769.getD 0 default) (AV.int 1)) 0 6) 5)) (AV.bin Go.BinOp.sub x1 (AV.cel (AV.atAgg x0 (AV.bin Go.BinOp.sub (ys769.getD 0 default) (AV.int 1)) 0 6) 0))), (AV.bin Go.BinOp.sub (AV.cel (AV.atAgg x0 (ys769.getD 0 default) 0 6) 0) (AV.cel (AV.atAgg x0 (AV.bin Go.BinOp.sub (ys769.getD 0 default) (AV.int 1)) 0 6) 0))] (Sh.tup [Sh.sc, Sh.sc]) r8129) ∧
        ((AV.binOk Go.BinOp.add (AV.cel (AV.atAgg x0 (AV.bin Go.BinOp.sub (ys769.getD 0 default) (AV.int 1)) 0 6) 3) (AV.prj r6337 0)) ∧
        ((AV.isOne x1) ∧
        ((AV.isOne (AV.bin Go.BinOp.add (AV.cel (AV.atAgg x0 (AV.bin Go.BinOp.sub (ys769.getD 0 default) (AV.int 1)) 0 6) 3) (AV.prj r6337 0))) ∧
        ((AV.binOk Go.BinOp.add (AV.cel (AV.atAgg x0 (AV.bin Go.BinOp.sub (ys769.getD 0 default) (AV.int 1)) 0 6) 4) (AV.prj r7233 0)) ∧
        ((AV.binOk Go.BinOp.add (AV.cel (AV.atAgg x0 (AV.bin Go.BinOp.sub (ys769.getD 0 default) (AV.int 1)) 0 6) 5) (AV.prj r8129 0)) ∧
        ((AV.isOne (AV.bin Go.BinOp.add (AV.cel (AV.atAgg x0 (AV.bin Go.BinOp.sub (ys769.getD 0 default) (AV.int 1)) 0 6) 4) (AV.prj r7233 0))) ∧
        ((AV.isOne (AV.bin Go.BinOp.add (AV.cel (AV.atAgg x0 (AV.bin Go.BinOp.sub (ys769.getD 0 default) (AV.int 1)) 0 6) 5) (AV.prj r8129 0))) ∧
        ((AV.flat (AV.agg [x1, (AV.cel (AV.prj r5249 0) 0), (AV.cel (AV.prj r5249 0) 1), (AV.bin Go.BinOp.add (AV.cel (AV.atAgg x0 (AV.bin Go.BinOp.sub (ys769.getD 0 default) (AV.int 1)) 0 6) 3) (AV.prj r6337 0)), (AV.bin Go.BinOp.add (AV.cel (AV.atAgg x0 (AV.bin Go.BinOp.sub (ys769.getD 0 default) (AV.int 1)) 0 6) 4) (AV.prj r7233 0)), (AV.bin Go.BinOp.add (AV.cel (AV.atAgg x0 (AV.bin Go.BinOp.sub (ys769.getD 0 default) (AV.int 1)) 0 6) 5) (AV.prj r8129 0))])) ∧
        (fSame (AV.agg [x1, (AV.cel (AV.prj r5249 0) 0), (AV.cel (AV.prj r5249 0) 1), (AV.bin Go.BinOp.add (AV.cel (AV.atAgg x0 (AV.bin Go.BinOp.sub (ys769.getD 0 default) (AV.int 1)) 0 6) 3) (AV.prj r6337 0)), (AV.bin Go.BinOp.add (AV.cel (AV.atAgg x0 (AV.bin Go.BinOp.sub (ys769.getD 0 default) (AV.int 1)) 0 6) 4) (AV.prj r7233 0)), (AV.bin Go.BinOp.add (AV.cel (AV.atAgg x0 (AV.bin Go.BinOp.sub (ys769.getD 0 default) (AV.int 1)) 0 6) 5) (AV.prj r8129 0))]) r)))))))))))))))))))))))))))))))))))))))))))))) ∧
    ((isF (AV.bin Go.BinOp.lss (ys769.getD 0 default) (AV.len x0))) →
      ((AV.isBool (AV.bin Go.BinOp.lss (ys769.getD 0 default) (AV.len x0))) ∧
      ((isF (AV.bin Go.BinOp.lss (ys769.getD 0 default) (AV.len x0))) ∧
      ((AV.binOk Go.BinOp.sub (ys769.getD 0 default) (AV.int 1)) ∧
      ((AV.isSl x0 6) ∧
      ((AV.inb x0 (AV.bin Go.BinOp.sub (ys769.getD 0 default) (AV.int 1))) ∧
      ((AV.isSl x0 6) ∧
      ((AV.inb x0 (ys769.getD 0 default)) ∧
      ((AV.isAgg (AV.atAgg x0 (AV.bin Go.BinOp.sub (ys769.getD 0 default) (AV.int 1)) 0 6) 6) ∧
      ((AV.isAgg (AV.atAgg x0 (ys769.getD 0 default) 0 6) 6) ∧
      ((AV.binOk Go.BinOp.sub x1 (AV.cel (AV.atAgg x0 (AV.bin Go.BinOp.sub (ys769.getD 0 default) (AV.int 1)) 0 6) 0)) ∧
      ((AV.binOk Go.BinOp.sub (AV.cel (AV.atAgg x0 (ys769.getD 0 default) 0 6) 0) (AV.cel (AV.atAgg x0 (AV.bin Go.BinOp.sub (ys769.getD 0 default) (AV.int 1)) 0 6) 0)) ∧
      (∃ r4673 : AV, ((Fn Tryz.prog 50 [(AV.agg [(AV.cel (AV.atAgg x0 (AV.bin Go.BinOp.sub (ys769.getD 0 default) (AV.int 1)) 0 6) 1), (AV.cel (AV.atAgg x0 (AV.bin Go.BinOp.sub (ys769.getD 0 default) (AV.int 1)) 0 6) 2)]), (AV.agg [(AV.cel (AV.atAgg x0 (ys769.getD 0 default) 0 6) 1), (AV.cel (AV.atAgg x0 (ys769.getD 0 default) 0 6) 2)]), (AV.bin Go.BinOp.sub x1 (AV.cel (AV.atAgg x0 (AV.bin Go.BinOp.sub (ys769.getD 0 default) (AV.int 1)) 0 6) 0)), (AV.bin Go.BinOp.sub (AV.cel (AV.atAgg x0 (ys769.getD 0 default) 0 6) 0) (AV.cel (AV.atAgg x0 (AV.bin Go.BinOp.sub (ys769.getD 0 default) (AV.int 1)) 0 6) 0))] (Sh.tup [Sh.sc, Sh.sc]) r4673) ∧
      ((AV.isAgg (AV.prj r4673 0) 2) ∧
      ((AV.binOk Go.BinOp.sub (AV.cel (AV.atAgg x0 (ys769.getD 0 default) 0 6) 3) (AV.cel (AV.atAgg x0 (AV.bin Go.BinOp.sub (ys769.getD 0 default) (AV.int 1)) 0 6) 3)) ∧
      ((AV.binOk Go.BinOp.mul (AV.bin Go.BinOp.sub (AV.cel (AV.atAgg x0 (ys769.getD 0 default) 0 6) 3) (AV.cel (AV.atAgg x0 (AV.bin Go.BinOp.sub (ys769.getD 0 default) (AV.int 1)) 0 6) 3)) (AV.bin Go.BinOp.sub x1 (AV.cel (AV.atAgg x0 (AV.bin Go.BinOp.sub (ys769.getD 0 default) (AV.int 1)) 0 6) 0))) ∧
      (∃ r5761 : AV, ((Fn Tryz.prog 51 [(AV.bin Go.BinOp.mul (AV.bin Go.BinOp.sub (AV.cel (AV.atAgg x0 (ys769.getD 0 default) 0 6) 3) (AV.cel (AV.atAgg x0 (AV.bin Go.BinOp.sub (ys769.getD 0 default) (AV.int 1)) 0 6) 3)) (AV.bin Go.BinOp.sub x1 (AV.cel (AV.atAgg x0 (AV.bin Go.BinOp.sub (ys769.getD 0 default) (AV.int 1)) 0 6) 0))), (AV.bin Go.BinOp.sub (AV.cel (AV.atAgg x0 (ys769.getD 0 default) 0 6) 0) (AV.cel (AV.atAgg x0 (AV.bin Go.BinOp.sub (ys769.getD 0 default) (AV.int 1)) 0 6) 0))] (Sh.tup [Sh.sc, Sh.sc]) r5761) ∧
      ((AV.binOk Go.BinOp.sub (AV.cel (AV.atAgg x0 (ys769.getD 0 default) 0 6) 4) (AV.cel (AV.atAgg x0 (AV.bin Go.BinOp.sub (ys769.getD 0 default) (AV.int 1)) 0 6) 4)) ∧
      ((AV.binOk Go.BinOp.mul (AV.bin Go.BinOp.sub (AV.cel (AV.atAgg x0 (ys769.getD 0 default) 0 6) 4) (AV.cel (AV.atAgg x0 (AV.bin Go.BinOp.sub (ys769.getD 0 default) (AV.int 1)) 0 6) 4)) (AV.bin Go.BinOp.sub x1 (AV.cel (AV.atAgg x0 (AV.bin Go.BinOp.sub (ys769.getD 0 default) (AV.int 1)) 0 6) 0))) ∧
      (∃ r6657 : AV, ((Fn Tryz.prog 52 [(AV.bin Go.BinOp.mul (AV.bin Go.BinOp.sub (AV.cel (AV.atAgg x0 (ys769.getD 0 default) 0 6) 4) (AV.cel (AV.atAgg x0 (AV.bin Go.BinOp.sub (ys769.getD 0 default) (AV.int 1)) 0 6) 4)) (AV.bin Go.BinOp.sub x1 (AV.cel (AV.atAgg x0 (AV.bin Go.BinOp.sub (ys769.getD 0 default) (AV.int 1)) 0 6) 0))), (AV.bin Go.BinOp.sub (AV.cel (AV.atAgg x0 (ys769.getD 0 default) 0 6) 0) (AV.cel (AV.atAgg x0 (AV.bin Go.BinOp.sub (ys769.getD 0 default) (AV.int 1)) 0 6) 0))] (Sh.tup [Sh.sc, Sh.sc]) r6657) ∧
      ((AV.binOk Go.BinOp.sub (AV.cel (AV.atAgg x0 (ys769.getD 0 default) 0 6) 5) (AV.cel (AV.atAgg x0 (AV.bin Go.BinOp.sub (ys769.getD 0 default) (AV.int 1)) 0 6) 5)) ∧
      ((AV.binOk Go.BinOp.mul (AV.bin Go.BinOp.sub (AV.cel (AV.atAgg x0 (ys769.getD 0 default) 0 6) 5) (AV.cel (AV.atAgg x0 (AV.bin Go.BinOp.sub (ys769.getD 0 default) (AV.int 1)) 0 6) 5)) (AV.bin Go.BinOp.sub x1 (AV.cel (AV.atAgg x0 (AV.bin Go.BinOp.sub (ys769.getD 0 default) (AV.int 1)) 0 6) 0))) ∧
      (∃ r7553 : AV, ((Fn Tryz.prog 52 [(AV.bin Go.BinOp.mul (AV.bin Go.BinOp.sub (AV.cel (AV.atAgg x0 (ys769.getD 0 default) 0 6) 5) (AV.cel (AV.atAgg x0 (AV.bin Go.BinOp.sub (ys769.getD 0 default) (AV.int 1)) 0 6) 5)) (AV.bin Go.BinOp.sub x1 (AV.cel (AV.atAgg x0 (AV.bin Go.BinOp.sub (ys769.getD 0 default) (AV.int 1)) 0 6) 0))), (AV.bin Go.BinOp.sub (AV.cel (AV.atAgg x0 (ys769.getD 0 default) 0 6) 0) (AV.cel (AV.atAgg x0 (AV.bin Go.BinOp.sub (ys769.getD 0 default) (AV.int 1)) 0 6) 0))] (Sh.tup [Sh.sc, Sh.sc]) r7553) ∧
      ((AV.binOk Go.BinOp.add (AV.cel (AV.atAgg x0 (AV.bin Go.BinOp.sub (ys769.getD 0 default) (AV.int 1)) 0 6) 3) (AV.prj r5761 0)) ∧
      ((AV.isOne x1) ∧
      ((AV.isOne (AV.bin Go.BinOp.add (AV.cel (AV.atAgg x0 (AV.bin Go.BinOp.sub (ys769.getD 0 default) (AV.int 1)) 0 6) 3) (AV.prj r5761 0))) ∧
      ((AV.binOk Go.BinOp.add (AV.cel (AV.atAgg x0 (AV.bin Go.BinOp.sub (ys769.getD 0 default) (AV.int 1)) 0 6) 4) (AV.prj r6657 0)) ∧
      ((AV.binOk Go.BinOp.add (AV.cel (AV.atAgg x0 (AV.bin Go.BinOp.sub (ys769.getD 0 default) (AV.int 1)) 0 6) 5) (AV.prj r7553 0)) ∧
      ((AV.isOne (AV.bin Go.BinOp.add (AV.cel (AV.atAgg x0 (AV.bin Go.BinOp.sub (ys769.getD 0 default) (AV.int 1)) 0 6) 4) (AV.prj r6657 0))) ∧
      ((AV.isOne (AV.bin Go.BinOp.add (AV.cel (AV.atAgg x0 (AV.bin Go.BinOp.sub (ys769.getD 0 default) (AV.int 1)) 0 6) 5) (AV.prj r7553 0))) ∧
      ((AV.flat (AV.agg [x1, (AV.cel (AV.prj r4673 0) 0), (AV.cel (AV.prj r4673 0) 1), (AV.bin Go.BinOp.add (AV.cel (AV.atAgg x0 (AV.bin Go.BinOp.sub (ys769.getD 0 default) (AV.int 1)) 0 6) 3) (AV.prj r5761 0)), (AV.bin Go.BinOp.add (AV.cel (AV.atAgg x0 (AV.bin Go.BinOp.sub (ys769.getD 0 default) (AV.int 1)) 0 6) 4) (AV.prj r6657 0)), (AV.bin Go.BinOp.add (AV.cel (AV.atAgg x0 (AV.bin Go.BinOp.sub (ys769.getD 0 default) (AV.int 1)) 0 6) 5) (AV.prj r7553 0))])) ∧
      (fSame (AV.agg [x1, (AV.cel (AV.prj r4673 0) 0), (AV.cel (AV.prj r4673 0) 1), (AV.bin Go.BinOp.add (AV.cel (AV.atAgg x0 (AV.bin Go.BinOp.sub (ys769.getD 0 default) (AV.int 1)) 0 6) 3) (AV.prj r5761 0)), (AV.bin Go.BinOp.add (AV.cel (AV.atAgg x0 (AV.bin Go.BinOp.sub (ys769.getD 0 default) (AV.int 1)) 0 6) 4) (AV.prj r6657 0)), (AV.bin Go.BinOp.add (AV.cel (AV.atAgg x0 (AV.bin Go.BinOp.sub (ys769.getD 0 default) (AV.int 1)) 0 6) 5) (AV.prj r7553 0))]) r)))))))))))))))))))))))))))))))))))))))))))))))) := by kernel_rfl
theorem tat_form (x0 x1 r : AV) : fnF Tryz.prog Γ ann 3 15 Tryz.f15 (Tryz.f15.body.getD .skip) (.nil) [x0, x1] (.tup [.sc, .sc]) r = ((∃ r193 : AV, ((Fn Tryz.prog 30 [x0] Sh.sc r193) ∧
((AV.binOk Go.BinOp.neq r193 (AV.int 0)) ∧
((AV.isBool (AV.bin Go.BinOp.neq r193 (AV.int 0))) ∧
(((isT (AV.bin Go.BinOp.neq r193 (AV.int 0))) →
  ((AV.flat (AV.agg [(AV.int 0), (AV.int 0), (AV.int 0), (AV.int 0), (AV.int 0), (AV.int 0)])) ∧
  ((AV.flat r193) ∧
  (fSame (AV.tup [(AV.agg [(AV.int 0), (AV.int 0), (AV.int 0), (AV.int 0), (AV.int 0), (AV.int 0)]), r193]) r)))) ∧
((isF (AV.bin Go.BinOp.neq r193 (AV.int 0))) →
  (∃ r513 : AV, ((Fn Tryz.prog 33 [x0] (Sh.tup [Sh.sc, Sh.sc]) r513) ∧
  ((AV.binOk Go.BinOp.lss x1 (AV.prj r513 0)) ∧
  ((AV.isBool (AV.bin Go.BinOp.lss x1 (AV.prj r513 0))) ∧
  (((isT (AV.bin Go.BinOp.lss x1 (AV.prj r513 0))) →
    ((AV.isBool (AV.bin Go.BinOp.lss x1 (AV.prj r513 0))) ∧
    ((isT (AV.bin Go.BinOp.lss x1 (AV.prj r513 0))) ∧
    ((AV.flat (AV.agg [(AV.int 0), (AV.int 0), (AV.int 0), (AV.int 0), (AV.int 0), (AV.int 0)])) ∧
    ((AV.flat (AV.int 12)) ∧
    (fSame (AV.tup [(AV.agg [(AV.int 0), (AV.int 0), (AV.int 0), (AV.int 0), (AV.int 0), (AV.int 0)]), (AV.int 12)]) r)))))) ∧
  ((isF (AV.bin Go.BinOp.lss x1 (AV.prj r513 0))) →
    ((AV.binOk Go.BinOp.gtr x1 (AV.prj r513 1)) ∧
    ((AV.isBool (AV.bin Go.BinOp.lss x1 (AV.prj r513 0))) ∧
    ((isF (AV.bin Go.BinOp.lss x1 (AV.prj r513 0))) ∧
    ((AV.isBool (AV.bin Go.BinOp.gtr x1 (AV.prj r513 1))) ∧
    (((isT (AV.bin Go.BinOp.gtr x1 (AV.prj r513 1))) →
      ((AV.flat (AV.agg [(AV.int 0), (AV.int 0), (AV.int 0), (AV.int 0), (AV.int 0), (AV.int 0)])) ∧
      ((AV.flat (AV.int 12)) ∧
      (fSame (AV.tup [(AV.agg [(AV.int 0), (AV.int 0), (AV.int 0), (AV.int 0), (AV.int 0), (AV.int 0)]), (AV.int 12)]) r)))) ∧
    ((isF (AV.bin Go.BinOp.gtr x1 (AV.prj r513 1))) →
      (∃ r1537 : AV, ((Fn Tryz.prog 34 [x0, x1] Sh.sc r1537) ∧
      ((AV.isAgg r1537 6) ∧
      ((AV.flat (AV.agg [(AV.cel r1537 0), (AV.cel r1537 1), (AV.cel r1537 2), (AV.cel r1537 3), (AV.cel r1537 4), (AV.cel r1537 5)])) ∧
      ((AV.flat (AV.int 0)) ∧
      (fSame (AV.tup [(AV.agg [(AV.cel r1537 0), (AV.cel r1537 1), (AV.cel r1537 2), (AV.cel r1537 3), (AV.cel r1537 4), (AV.cel r1537 5)]), (AV.int 0)]) r))))))))))))))))))))))))) := by kernel_rfl
theorem serr_form (x0 r : AV) : fnF Tryz.prog Γ ann 3 29 Tryz.f29 (Tryz.f29.body.getD .skip) (.nil) [x0] (.sc) r = (((AV.isSl x0 2) ∧
((AV.binOk Go.BinOp.gtr (AV.len x0) (AV.int 12)) ∧
((AV.isBool (AV.bin Go.BinOp.gtr (AV.len x0) (AV.int 12))) ∧
(((isT (AV.bin Go.BinOp.gtr (AV.len x0) (AV.int 12))) →
  ((AV.flat (AV.int 2)) ∧
  (fSame (AV.int 2) r))) ∧
((isF (AV.bin Go.BinOp.gtr (AV.len x0) (AV.int 12))) →
  ((AV.isSl x0 2) ∧
  (fLoop 577 [(AV.int 0), (AV.mk 1 []), (AV.mk 3 [])] fun ys577 again577 =>
    ((AV.binOk Go.BinOp.lss (ys577.getD 0 default) (AV.len x0)) ∧
    ((AV.isBool (AV.bin Go.BinOp.lss (ys577.getD 0 default) (AV.len x0))) ∧
    (((isT (AV.bin Go.BinOp.lss (ys577.getD 0 default) (AV.len x0))) →
      ((AV.isSl x0 2) ∧
      ((AV.inb x0 (ys577.getD 0 default)) ∧
      ((AV.isAgg (AV.atAgg x0 (ys577.getD 0 default) 0 2) 2) ∧
      (∃ r1025 : AV, ((Fn Tryz.prog 43 [(AV.cel (AV.atAgg x0 (ys577.getD 0 default) 0 2) 0)] Sh.sc r1025) ∧
      ((AV.unOk Go.UnOp.not r1025) ∧
      ((AV.isBool (AV.un Go.UnOp.not r1025)) ∧
      (((isT (AV.un Go.UnOp.not r1025)) →
        ((AV.flat (AV.int 3)) ∧
        (fSame (AV.int 3) r))) ∧
      ((isF (AV.un Go.UnOp.not r1025)) →
        ((AV.isSl (AV.cel (AV.atAgg x0 (ys577.getD 0 default) 0 2) 1) 3) ∧
        ((AV.binOk Go.BinOp.eql (AV.len (AV.cel (AV.atAgg x0 (ys577.getD 0 default) 0 2) 1)) (AV.int 0)) ∧
        ((AV.isBool (AV.bin Go.BinOp.eql (AV.len (AV.cel (AV.atAgg x0 (ys577.getD 0 default) 0 2) 1)) (AV.int 0))) ∧
        (((isT (AV.bin Go.BinOp.eql (AV.len (AV.cel (AV.atAgg x0 (ys577.getD 0 default) 0 2) 1)) (AV.int 0))) →
          ((AV.flat (AV.int 8)) ∧
          (fSame (AV.int 8) r))) ∧
        ((isF (AV.bin Go.BinOp.eql (AV.len (AV.cel (AV.atAgg x0 (ys577.getD 0 default) 0 2) 1)) (AV.int 0))) →
          ((AV.isSl (AV.cel (AV.atAgg x0 (ys577.getD 0 default) 0 2) 1) 3) ∧
          ((AV.binOk Go.BinOp.gtr (AV.len (AV.cel (AV.atAgg x0 (ys577.getD 0 default) 0 2) 1)) (AV.int 4)) ∧
          ((AV.isBool (AV.bin Go.BinOp.gtr (AV.len (AV.cel (AV.atAgg x0 (ys577.getD 0 default) 0 2) 1)) (AV.int 4))) ∧
          (((isT (AV.bin Go.BinOp.gtr (AV.len (AV.cel (AV.atAgg x0 (ys577.getD 0 default) 0 2) 1)) (AV.int 4))) →
            ((AV.flat (AV.int 2)) ∧
            (fSame (AV.int 2) r))) ∧
          ((isF (AV.bin Go.BinOp.gtr (AV.len (AV.cel (AV.atAgg x0 (ys577.getD 0 default) 0 2) 1)) (AV.int 4))) →
            ((AV.isSl (AV.cel (AV.atAgg x0 (ys577.getD 0 default) 0 2) 1) 3) ∧
            (fLoop 1921 [(AV.int 0)] fun ys1921 again1921 =>
              ((AV.binOk Go.BinOp.lss (ys1921.getD 0 default) (AV.len (AV.cel (AV.atAgg x0 (ys577.getD 0 default) 0 2) 1))) ∧
              ((AV.isBool (AV.bin Go.BinOp.lss (ys1921.getD 0 default) (AV.len (AV.cel (AV.atAgg x0 (ys577.getD 0 default) 0 2) 1)))) ∧
              (((isT (AV.bin Go.BinOp.lss (ys1921.getD 0 default) (AV.len (AV.cel (AV.atAgg x0 (ys577.getD 0 default) 0 2) 1)))) →
                ((AV.isSl (AV.cel (AV.atAgg x0 (ys577.getD 0 default) 0 2) 1) 3) ∧
                ((AV.inb (AV.cel (AV.atAgg x0 (ys577.getD 0 default) 0 2) 1) (ys1921.getD 0 default)) ∧
                ((AV.isAgg (AV.atAgg (AV.cel (AV.atAgg x0 (ys577.getD 0 default) 0 2) 1) (ys1921.getD 0 default) 0 3) 3) ∧
                (∃ r2305 : AV, ((Fn Tryz.prog 44 [(AV.agg [(AV.cel (AV.atAgg (AV.cel (AV.atAgg x0 (ys577.getD 0 default) 0 2) 1) (ys1921.getD 0 default) 0 3) 0), (AV.cel (AV.atAgg (AV.cel (AV.atAgg x0 (ys577.getD 0 default) 0 2) 1) (ys1921.getD 0 default) 0 3) 1), (AV.cel (AV.atAgg (AV.cel (AV.atAgg x0 (ys577.getD 0 default) 0 2) 1) (ys1921.getD 0 default) 0 3) 2)])] Sh.sc r2305) ∧
                ((AV.binOk Go.BinOp.neq r2305 (AV.int 0)) ∧
                ((AV.isBool (AV.bin Go.BinOp.neq r2305 (AV.int 0))) ∧
                (((isT (AV.bin Go.BinOp.neq r2305 (AV.int 0))) →
                  ((AV.flat r2305) ∧
                  (fSame r2305 r))) ∧
                ((isF (AV.bin Go.BinOp.neq r2305 (AV.int 0))) →
                  ((AV.binOk Go.BinOp.add (ys1921.getD 0 default) (AV.int 1)) ∧
                  (again1921 [(AV.bin Go.BinOp.add (ys1921.getD 0 default) (AV.int 1))])))))))))))) ∧
              ((isF (AV.bin Go.BinOp.lss (ys1921.getD 0 default) (AV.len (AV.cel (AV.atAgg x0 (ys577.getD 0 default) 0 2) 1)))) →
                (∃ r2177 : AV, ((Fn Tryz.prog 45 [(ys577.getD 1 default), (AV.cel (AV.atAgg x0 (ys577.getD 0 default) 0 2) 0)] Sh.sc r2177) ∧
                ((AV.isBool r2177) ∧
                (((isT r2177) →
                  ((AV.flat (AV.int 7)) ∧
                  (fSame (AV.int 7) r))) ∧
                ((isF r2177) →
                  ((AV.isOne (AV.cel (AV.atAgg x0 (ys577.getD 0 default) 0 2) 0)) ∧
                  ((AV.room (ys577.getD 1 default) (AV.mk 1 [[(AV.cel (AV.atAgg x0 (ys577.getD 0 default) 0 2) 0)]]) 16) ∧
                  ((AV.isSl (AV.cel (AV.atAgg x0 (ys577.getD 0 default) 0 2) 1) 3) ∧
                  ((AV.room (ys577.getD 2 default) (AV.cel (AV.atAgg x0 (ys577.getD 0 default) 0 2) 1) 40) ∧
                  ((AV.binOk Go.BinOp.add (ys577.getD 0 default) (AV.int 1)) ∧
                  (again577 [(AV.bin Go.BinOp.add (ys577.getD 0 default) (AV.int 1)), (AV.app 1 (ys577.getD 1 default) (AV.mk 1 [[(AV.cel (AV.atAgg x0 (ys577.getD 0 default) 0 2) 0)]])), (AV.app 3 (ys577.getD 2 default) (AV.cel (AV.atAgg x0 (ys577.getD 0 default) 0 2) 1))]))))))))))))))))))))))))))))))))))))) ∧
    ((isF (AV.bin Go.BinOp.lss (ys577.getD 0 default) (AV.len x0))) →
      (fLoop 833 [(AV.int 0)] fun ys833 again833 =>
        ((AV.binOk Go.BinOp.lss (ys833.getD 0 default) (AV.len (ys577.getD 2 default))) ∧
        ((AV.isBool (AV.bin Go.BinOp.lss (ys833.getD 0 default) (AV.len (ys577.getD 2 default)))) ∧
        (((isT (AV.bin Go.BinOp.lss (ys833.getD 0 default) (AV.len (ys577.getD 2 default)))) →
          (fLoop 1153 [(AV.int 0)] fun ys1153 again1153 =>
            ((AV.binOk Go.BinOp.lss (ys1153.getD 0 default) (ys833.getD 0 default)) ∧
            ((AV.isBool (AV.bin Go.BinOp.lss (ys1153.getD 0 default) (ys833.getD 0 default))) ∧
            (((isT (AV.bin Go.BinOp.lss (ys1153.getD 0 default) (ys833.getD 0 default))) →
              ((AV.inb (ys577.getD 2 default) (ys1153.getD 0 default)) ∧
              ((AV.inb (ys577.getD 2 default) (ys1153.getD 0 default)) ∧
              ((AV.inb (ys577.getD 2 default) (ys833.getD 0 default)) ∧
              ((AV.inb (ys577.getD 2 default) (ys833.getD 0 default)) ∧
              (∃ r1857 : AV, ((Fn Tryz.prog 46 [(AV.atAgg (ys577.getD 2 default) (ys1153.getD 0 default) 0 3), (AV.atAgg (ys577.getD 2 default) (ys833.getD 0 default) 0 3)] (Sh.tup [Sh.sc, Sh.sc]) r1857) ∧
              ((AV.binOk Go.BinOp.neq (AV.prj r1857 1) (AV.int 0)) ∧
              ((AV.isBool (AV.bin Go.BinOp.neq (AV.prj r1857 1) (AV.int 0))) ∧
              (((isT (AV.bin Go.BinOp.neq (AV.prj r1857 1) (AV.int 0))) →
                ((AV.isBool (AV.bin Go.BinOp.neq (AV.prj r1857 1) (AV.int 0))) ∧
                ((isT (AV.bin Go.BinOp.neq (AV.prj r1857 1) (AV.int 0))) ∧
                ((AV.flat (AV.int 19)) ∧
                (fSame (AV.int 19) r))))) ∧
              ((isF (AV.bin Go.BinOp.neq (AV.prj r1857 1) (AV.int 0))) →
                ((AV.isBool (AV.bin Go.BinOp.neq (AV.prj r1857 1) (AV.int 0))) ∧
                ((isF (AV.bin Go.BinOp.neq (AV.prj r1857 1) (AV.int 0))) ∧
                ((AV.isBool (AV.prj r1857 0)) ∧
                (((isT (AV.prj r1857 0)) →
                  ((AV.flat (AV.int 19)) ∧
                  (fSame (AV.int 19) r))) ∧
                ((isF (AV.prj r1857 0)) →
                  ((AV.binOk Go.BinOp.add (ys1153.getD 0 default) (AV.int 1)) ∧
                  (again1153 [(AV.bin Go.BinOp.add (ys1153.getD 0 default) (AV.int 1))])))))))))))))))))) ∧
            ((isF (AV.bin Go.BinOp.lss (ys1153.getD 0 default) (ys833.getD 0 default))) →
              ((AV.binOk Go.BinOp.add (ys833.getD 0 default) (AV.int 1)) ∧
              (again833 [(AV.bin Go.BinOp.add (ys833.getD 0 default) (AV.int 1))])))))))) ∧
        ((isF (AV.bin Go.BinOp.lss (ys833.getD 0 default) (AV.len (ys577.getD 2 default)))) →
          ((AV.flat (AV.int 0)) ∧
          (fSame (AV.int 0) r))))))))))))))))))) := by kernel_rfl
theorem lplace_form (x0 x1 x2 r : AV) : fnF Tryz.prog Γ ann 3 16 Tryz.f16 (Tryz.f16.body.getD .skip) (.nil) [x0, x1, x2] (.sc) r = (((AV.isAgg x1 2) ∧
((AV.isSl x0 2) ∧
((AV.binOk Go.BinOp.sub (AV.len x0) (AV.int 1)) ∧
(fLoop 449 [(AV.int (-1)), (AV.bin Go.BinOp.sub (AV.len x0) (AV.int 1))] fun ys449 again449 =>
  ((AV.binOk Go.BinOp.geq (ys449.getD 1 default) (AV.int 0)) ∧
  ((AV.isBool (AV.bin Go.BinOp.geq (ys449.getD 1 default) (AV.int 0))) ∧
  (((isT (AV.bin Go.BinOp.geq (ys449.getD 1 default) (AV.int 0))) →
    ((AV.isSl x0 2) ∧
    ((AV.inb x0 (ys449.getD 1 default)) ∧
    ((AV.isSl (AV.at x0 (ys449.getD 1 default) 1) 3) ∧
    (fLoop 1025 [(ys449.getD 0 default), (AV.int 0)] fun ys1025 again1025 =>
      ((AV.binOk Go.BinOp.lss (ys1025.getD 1 default) (AV.len (AV.at x0 (ys449.getD 1 default) 1))) ∧
      ((AV.isBool (AV.bin Go.BinOp.lss (ys1025.getD 1 default) (AV.len (AV.at x0 (ys449.getD 1 default) 1)))) ∧
      (((isT (AV.bin Go.BinOp.lss (ys1025.getD 1 default) (AV.len (AV.at x0 (ys449.getD 1 default) 1)))) →
        ((AV.isSl (AV.at x0 (ys449.getD 1 default) 1) 3) ∧
        ((AV.inb (AV.at x0 (ys449.getD 1 default) 1) (ys1025.getD 1 default)) ∧
        ((AV.isAgg (AV.atAgg (AV.at x0 (ys449.getD 1 default) 1) (ys1025.getD 1 default) 0 3) 3) ∧
        (∃ r1537 : AV, ((Fn Tryz.prog 35 [(AV.agg [(AV.cel (AV.atAgg (AV.at x0 (ys449.getD 1 default) 1) (ys1025.getD 1 default) 0 3) 0), (AV.cel (AV.atAgg (AV.at x0 (ys449.getD 1 default) 1) (ys1025.getD 1 default) 0 3) 1), (AV.cel (AV.atAgg (AV.at x0 (ys449.getD 1 default) 1) (ys1025.getD 1 default) 0 3) 2)]), (AV.agg [(AV.cel x1 0), (AV.cel x1 1)]), x2] (Sh.tup [Sh.sc, Sh.sc]) r1537) ∧
        ((AV.binOk Go.BinOp.eql (AV.prj r1537 1) (AV.int 0)) ∧
        ((AV.isBool (AV.bin Go.BinOp.eql (AV.prj r1537 1) (AV.int 0))) ∧
        (((isT (AV.bin Go.BinOp.eql (AV.prj r1537 1) (AV.int 0))) →
          ((AV.isBool (AV.bin Go.BinOp.eql (AV.prj r1537 1) (AV.int 0))) ∧
          ((isT (AV.bin Go.BinOp.eql (AV.prj r1537 1) (AV.int 0))) ∧
          ((AV.isBool (AV.prj r1537 0)) ∧
          (((isT (AV.prj r1537 0)) →
            ((AV.binOk Go.BinOp.add (ys1025.getD 1 default) (AV.int 1)) ∧
            (again1025 [(ys449.getD 1 default), (AV.bin Go.BinOp.add (ys1025.getD 1 default) (AV.int 1))]))) ∧
          ((isF (AV.prj r1537 0)) →
            ((AV.binOk Go.BinOp.add (ys1025.getD 1 default) (AV.int 1)) ∧
            (again1025 [(ys1025.getD 0 default), (AV.bin Go.BinOp.add (ys1025.getD 1 default) (AV.int 1))])))))))) ∧
        ((isF (AV.bin Go.BinOp.eql (AV.prj r1537 1) (AV.int 0))) →
          ((AV.isBool (AV.bin Go.BinOp.eql (AV.prj r1537 1) (AV.int 0))) ∧
          ((isF (AV.bin Go.BinOp.eql (AV.prj r1537 1) (AV.int 0))) ∧
          ((AV.binOk Go.BinOp.add (ys1025.getD 1 default) (AV.int 1)) ∧
          (again1025 [(ys1025.getD 0 default), (AV.bin Go.BinOp.add (ys1025.getD 1 default) (AV.int 1))])))))))))))))) ∧
      ((isF (AV.bin Go.BinOp.lss (ys1025.getD 1 default) (AV.len (AV.at x0 (ys449.getD 1 default) 1)))) →
        ((AV.binOk Go.BinOp.sub (ys449.getD 1 default) (AV.int 1)) ∧
        (again449 [(ys1025.getD 0 default), (AV.bin Go.BinOp.sub (ys449.getD 1 default) (AV.int 1))]))))))))))) ∧
  ((isF (AV.bin Go.BinOp.geq (ys449.getD 1 default) (AV.int 0))) →
    ((AV.flat (ys449.getD 0 default)) ∧
    (fSame (ys449.getD 0 default) r))))))))))) := by kernel_rfl
theorem has_form (x0 x1 r : AV) : fnF Tryz.prog Γ ann 3 45 Tryz.f45 (Tryz.f45.body.getD .skip) (.nil) [x0, x1] (.sc) r = (((AV.isSl x0 1) ∧
(fLoop 257 [(AV.int 0)] fun ys257 again257 =>
  ((AV.binOk Go.BinOp.lss (ys257.getD 0 default) (AV.len x0)) ∧
  ((AV.isBool (AV.bin Go.BinOp.lss (ys257.getD 0 default) (AV.len x0))) ∧
  (((isT (AV.bin Go.BinOp.lss (ys257.getD 0 default) (AV.len x0))) →
    ((AV.isSl x0 1) ∧
    ((AV.inb x0 (ys257.getD 0 default)) ∧
    ((AV.binOk Go.BinOp.eql (AV.at x0 (ys257.getD 0 default) 0) x1) ∧
    ((AV.isBool (AV.bin Go.BinOp.eql (AV.at x0 (ys257.getD 0 default) 0) x1)) ∧
    (((isT (AV.bin Go.BinOp.eql (AV.at x0 (ys257.getD 0 default) 0) x1)) →
      ((AV.flat (AV.bool true)) ∧
      (fSame (AV.bool true) r))) ∧
    ((isF (AV.bin Go.BinOp.eql (AV.at x0 (ys257.getD 0 default) 0) x1)) →
      ((AV.binOk Go.BinOp.add (ys257.getD 0 default) (AV.int 1)) ∧
      (again257 [(AV.bin Go.BinOp.add (ys257.getD 0 default) (AV.int 1))]))))))))) ∧
  ((isF (AV.bin Go.BinOp.lss (ys257.getD 0 default) (AV.len x0))) →
    ((AV.flat (AV.bool false)) ∧
    (fSame (AV.bool false) r))))))))) := by kernel_rfl
theorem two_form ( r : AV) : fnF Tryz.prog Γ ann 3 18 Tryz.f18 (Tryz.f18.body.getD .skip) (.nil) [] (.row 79 2 false) r = ((∃ r65 : AV, ((Fn Tryz.prog 36 [(AV.int 0)] (Sh.agg [(Sh.row 49 2 true), Sh.sc, Sh.sc]) r65) ∧
(∃ r257 : AV, ((Fn Tryz.prog 36 [(AV.int 10)] (Sh.agg [(Sh.row 49 2 true), Sh.sc, Sh.sc]) r257) ∧
(fSame (AV.mk 2 [[(AV.lit (Value.string ⟨#[65]⟩)), (AV.mk 3 [[(AV.cel r65 0), (AV.cel r65 1), (AV.cel r65 2)]])], [(AV.lit (Value.string ⟨#[66]⟩)), (AV.mk 3 [[(AV.cel r257 0), (AV.cel r257 1), (AV.cel r257 2)]])]]) r)))))) := by kernel_rfl
theorem straight_form (x0 x1 r : AV) : fnF Tryz.prog Γ ann 3 19 Tryz.f19 (Tryz.f19.body.getD .skip) (.nil) [x0, x1] (.row 53 6 true) r = (((AV.isOne x0) ∧
((AV.isOne x1) ∧
((AV.flatS (AV.mk 6 [[(AV.int 0), x0, (AV.int 5), (AV.int 50), (AV.int 0), (AV.int 0)], [(AV.int 10), x1, (AV.int 5), (AV.int 50), (AV.int 0), (AV.int 0)]])) ∧
(fSame (AV.mk 6 [[(AV.int 0), x0, (AV.int 5), (AV.int 50), (AV.int 0), (AV.int 0)], [(AV.int 10), x1, (AV.int 5), (AV.int 50), (AV.int 0), (AV.int 0)]]) r))))) := by kernel_rfl
theorem sq_form (x0 r : AV) : fnF Tryz.prog Γ ann 3 36 Tryz.f36 (Tryz.f36.body.getD .skip) (.nil) [x0] (.agg [.row 49 2 true, .sc, .sc]) r = (((AV.isOne x0) ∧
((AV.binOk Go.BinOp.add x0 (AV.int 10)) ∧
((AV.isOne (AV.bin Go.BinOp.add x0 (AV.int 10))) ∧
((AV.binOk Go.BinOp.add x0 (AV.int 10)) ∧
((AV.isOne (AV.bin Go.BinOp.add x0 (AV.int 10))) ∧
((AV.isOne x0) ∧
((AV.flatS (AV.mk 2 [[x0, (AV.int 0)], [(AV.bin Go.BinOp.add x0 (AV.int 10)), (AV.int 0)], [(AV.bin Go.BinOp.add x0 (AV.int 10)), (AV.int 10)], [x0, (AV.int 10)]])) ∧
((AV.flat (AV.int 0)) ∧
((AV.flat (AV.int 100)) ∧
(fSame (AV.agg [(AV.mk 2 [[x0, (AV.int 0)], [(AV.bin Go.BinOp.add x0 (AV.int 10)), (AV.int 0)], [(AV.bin Go.BinOp.add x0 (AV.int 10)), (AV.int 10)], [x0, (AV.int 10)]]), (AV.int 0), (AV.int 100)]) r))))))))))) := by kernel_rfl
end SecF
end Go.Proofs.YtcdbodnhimbddaaGreat
/- the comparison of polygon.enters. -/
namespace Go.Proofs.YtcdbodnhimbddaaGreat
open Go.RowKit
set_option linter.unusedVariables false
set_option maxRecDepth 100000
namespace SecF2
--GAMMA
def Γ : FuncId → Option Ca := fun f => if f = 101 then some (.fn .sc) else some .inl
def ann : FuncId → Nat → LoopEx := fun f r => ⟨[], [], [], []⟩
--END GAMMA
theorem entc_form (x0 x1 x2 r : AV) : fnF Tryz.prog Γ ann 3 100 Tryz.f100 (Tryz.f100.body.getD .skip) (.nil) [x0, x1, x2] (.sc) r = (((AV.isAgg x0 2) ∧
((AV.isAgg x1 2) ∧
((AV.isRef x2 2) ∧
(∃ r321 : AV, ((Fn Tryz.prog 101 [(AV.derA x2), (AV.agg [(AV.cel x0 0), (AV.cel x0 1)])] Sh.sc r321) ∧
((AV.isRef x2 2) ∧
(∃ r513 : AV, ((Fn Tryz.prog 101 [(AV.derA x2), (AV.agg [(AV.cel x1 0), (AV.cel x1 1)])] Sh.sc r513) ∧
((AV.binOk Go.BinOp.sub r321 r513) ∧
((AV.flat (AV.bin Go.BinOp.sub r321 r513)) ∧
(fSame (AV.bin Go.BinOp.sub r321 r513) r)))))))))))) := by kernel_rfl
end SecF2
end Go.Proofs.YtcdbodnhimbddaaGreat
/- sector.Name. -/
namespace Go.Proofs.YtcdbodnhimbddaaGreat
open Go.RowKit
set_option linter.unusedVariables false
set_option maxRecDepth 100000
namespace SecF3
--GAMMA
def Γ : FuncId → Option Ca := fun f => if f = 79 then some (.fn .sc) else some .inl
def ann : FuncId → Nat → LoopEx := fun f r => ⟨[], [], [], []⟩
--END GAMMA
theorem sname_form (x0 r : AV) : fnF Tryz.prog Γ ann 3 55 Tryz.f55 (Tryz.f55.body.getD .skip) (.nil) [x0] (.sc) r = ((∃ r129 : AV, ((Fn Tryz.prog 79 [x0] Sh.sc r129) ∧
((AV.flat r129) ∧
(fSame r129 r))))) := by kernel_rfl
end SecF3
end Go.Proofs.YtcdbodnhimbddaaGreat
/- slices.Equal at visits. -/
namespace Go.Proofs.YtcdbodnhimbddaaGreat
open Go.RowKit
set_option linter.unusedVariables false
set_option maxRecDepth 100000
namespace SecG
--GAMMA
def Γ : FuncId → Option Ca := fun f => some .inl
def ann : FuncId → Nat → LoopEx := fun f r => ⟨[], [], [], []⟩
--END GAMMA
end SecG
end Go.Proofs.YtcdbodnhimbddaaGreat
/- visits -/
namespace Go.Proofs.YtcdbodnhimbddaaGreat
open Go.RowKit
set_option linter.unusedVariables false
set_option maxRecDepth 100000
namespace VisF
--GAMMA
def Γ : FuncId → Option Ca := fun f =>
  if f = 40 then some (.fn .sc)
  else if f = 78 then some (.fn .p)
  else some .inl
def ann : FuncId → Nat → LoopEx := fun f r => if f = 54 ∧ r = 4 then ⟨[], [321], [], [(129, 0, 90, 3)]⟩ else ⟨[], [], [], []⟩
--END GAMMA
theorem visits_form (x0 x1 r : AV) : fnF Tryz.prog Γ ann 3 54 Tryz.f54 (Tryz.f54.body.getD .skip) (.nil) [x0, x1] (.row 90 3 true) r = (((AV.isOne x0) ∧
(∃ r257 : AV, ((Fn Tryz.prog 78 [x1] Sh.p r257) ∧
(fIter Tryz.prog 385 r257 [(AV.mk 3 [])] (fun x385 ys385 again385 =>
  (fAllV fun _ => ((AV.isAgg x385 6) ∧
  (∃ r1025 : AV, ((Fn Tryz.prog 40 [x0, (AV.agg [(AV.cel x385 1), (AV.cel x385 2)]), (AV.cel x385 3)] Sh.sc r1025) ∧
  ((AV.binOk Go.BinOp.gtr (AV.len (ys385.getD 0 default)) (AV.int 0)) ∧
  ((AV.isBool (AV.bin Go.BinOp.gtr (AV.len (ys385.getD 0 default)) (AV.int 0))) ∧
  (((isT (AV.bin Go.BinOp.gtr (AV.len (ys385.getD 0 default)) (AV.int 0))) →
    ((AV.binOk Go.BinOp.sub (AV.len (ys385.getD 0 default)) (AV.int 1)) ∧
    ((AV.inb (ys385.getD 0 default) (AV.bin Go.BinOp.sub (AV.len (ys385.getD 0 default)) (AV.int 1))) ∧
    ((AV.inb (ys385.getD 0 default) (AV.bin Go.BinOp.sub (AV.len (ys385.getD 0 default)) (AV.int 1))) ∧
    ((AV.binOk Go.BinOp.eql (AV.at (ys385.getD 0 default) (AV.bin Go.BinOp.sub (AV.len (ys385.getD 0 default)) (AV.int 1)) 0) r1025) ∧
    ((AV.isBool (AV.bin Go.BinOp.gtr (AV.len (ys385.getD 0 default)) (AV.int 0))) ∧
    ((isT (AV.bin Go.BinOp.gtr (AV.len (ys385.getD 0 default)) (AV.int 0))) ∧
    ((AV.isBool (AV.bin Go.BinOp.eql (AV.at (ys385.getD 0 default) (AV.bin Go.BinOp.sub (AV.len (ys385.getD 0 default)) (AV.int 1)) 0) r1025)) ∧
    (((isT (AV.bin Go.BinOp.eql (AV.at (ys385.getD 0 default) (AV.bin Go.BinOp.sub (AV.len (ys385.getD 0 default)) (AV.int 1)) 0) r1025)) →
      ((AV.binOk Go.BinOp.sub (AV.len (ys385.getD 0 default)) (AV.int 1)) ∧
      ((AV.inb (ys385.getD 0 default) (AV.bin Go.BinOp.sub (AV.len (ys385.getD 0 default)) (AV.int 1))) ∧
      ((AV.isOne (AV.cel x385 0)) ∧
      ((AV.inb (ys385.getD 0 default) (AV.bin Go.BinOp.sub (AV.len (ys385.getD 0 default)) (AV.int 1))) ∧
      (again385 [(AV.setEl (ys385.getD 0 default) (AV.bin Go.BinOp.sub (AV.len (ys385.getD 0 default)) (AV.int 1)) 2 [(AV.cel x385 0)])])))))) ∧
    ((isF (AV.bin Go.BinOp.eql (AV.at (ys385.getD 0 default) (AV.bin Go.BinOp.sub (AV.len (ys385.getD 0 default)) (AV.int 1)) 0) r1025)) →
      ((AV.isOne r1025) ∧
      ((AV.isOne (AV.cel x385 0)) ∧
      ((AV.isOne (AV.cel x385 0)) ∧
      ((AV.room (ys385.getD 0 default) (AV.mk 3 [[r1025, (AV.cel x385 0), (AV.cel x385 0)]]) 24) ∧
      (again385 [(AV.app 3 (ys385.getD 0 default) (AV.mk 3 [[r1025, (AV.cel x385 0), (AV.cel x385 0)]]))]))))))))))))))) ∧
  ((isF (AV.bin Go.BinOp.gtr (AV.len (ys385.getD 0 default)) (AV.int 0))) →
    ((AV.isBool (AV.bin Go.BinOp.gtr (AV.len (ys385.getD 0 default)) (AV.int 0))) ∧
    ((isF (AV.bin Go.BinOp.gtr (AV.len (ys385.getD 0 default)) (AV.int 0))) ∧
    ((AV.isOne r1025) ∧
    ((AV.isOne (AV.cel x385 0)) ∧
    ((AV.isOne (AV.cel x385 0)) ∧
    ((AV.room (ys385.getD 0 default) (AV.mk 3 [[r1025, (AV.cel x385 0), (AV.cel x385 0)]]) 24) ∧
    (again385 [(AV.app 3 (ys385.getD 0 default) (AV.mk 3 [[r1025, (AV.cel x385 0), (AV.cel x385 0)]]))])))))))))))))))) (fun zs385 =>
  ((AV.flatS (zs385.getD 0 default)) ∧
  (fSame (zs385.getD 0 default) r)))))))) := by kernel_rfl
end VisF
end Go.Proofs.YtcdbodnhimbddaaGreat
/- slices.Clone at the nodes of a tube. -/
namespace Go.Proofs.YtcdbodnhimbddaaGreat
open Go.RowKit
set_option linter.unusedVariables false
set_option maxRecDepth 100000
namespace AllF
--GAMMA
def Γ : FuncId → Option Ca := fun f => some .inl
def ann : FuncId → Nat → LoopEx := fun f r => ⟨[], [], [], []⟩
--END GAMMA
theorem clone_form (x0 r : AV) : fnF Tryz.prog Γ ann 3 94 Tryz.f94 (Tryz.f94.body.getD .skip) (.nil) [x0] (.row 53 6 true) r = ((fNil x0
  ((AV.flatS (AV.mk 6 [])) ∧
  (fSame (AV.mk 6 []) r))
  ((AV.isSl x0 6) ∧
  ((AV.room (AV.mk 6 []) x0 48) ∧
  ((AV.flatS (AV.app 6 (AV.mk 6 []) x0)) ∧
  (fSame (AV.app 6 (AV.mk 6 []) x0) r)))))) := by kernel_rfl
end AllF
end Go.Proofs.YtcdbodnhimbddaaGreat
