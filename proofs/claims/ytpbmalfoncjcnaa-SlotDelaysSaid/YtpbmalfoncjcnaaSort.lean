/- slices.SortFunc over plain values: the shelf's contract, met by a comparison's contract. -/
import Derived.Test.YtpbmalfoncjcnaaLst
import Derived.Shelf.SlSortCmp.NoneTotal
namespace Go.Proofs.Ytpbmalfoncjcnaa
open Go.RowKit Go.Shelf Go.Sort
set_option linter.unusedVariables false
set_option linter.unusedSimpArgs false
theorem grow_of_below {w w' : World} (h : Go.RowKit.Below w.heap.size w w') (hd : w.drawn ≤ w'.drawn) : ∃ q os, w' = grow (w.drewN q) os := by
  refine ⟨w'.drawn - w.drawn, w'.heap.extract w.heap.size w'.heap.size, ?_⟩
  have e1 : w'.heap = w.heap ++ w'.heap.extract w.heap.size w'.heap.size := by
    apply Array.ext_getElem?
    intro k
    rw [Array.getElem?_append]
    split
    · rename_i hk; exact h.block k hk
    · rename_i hk
      rw [Array.getElem?_extract]
      have := h.size
      by_cases hk2 : k < w'.heap.size
      · rw [if_pos (by omega)]; congr 1; omega
      · rw [if_neg (by omega)]; exact Array.getElem?_eq_none (by omega)
  have e2 : w.drawn + (w'.drawn - w.drawn) = w'.drawn := by omega
  have h1 := h.os; have h2 := h.tape; have h3 := h.output
  cases w'; cases w
  simp only at *
  subst h1 h2 h3
  unfold grow
  simp only [World.drewN] at *
  rw [e2]
  congr 1
theorem putRow_block (w : World) (G : Nat) (F : Array Value) {b : Nat} (hb : b ≠ G) : (putRow id w G 0 F).heap[b]? = w.heap[b]? := by
  unfold putRow mapBlock
  simp only [Array.getElem?_modify]
  rw [if_neg (fun e => hb e.symm)]
theorem putRow_at (w : World) (G : Nat) (F : Array Value) {c : Array Value} {e : TypeId} {fr : Nat × Nat} (h : w.heap[G]? = some (.cells c e fr)) : (putRow id w G 0 F).heap[G]? = some (.cells (putCells id 0 F c) e fr) := by
  unfold putRow mapBlock
  simp only [Array.getElem?_modify, if_true, h, Option.map_some, onCells]
theorem sortW_block {α : Type} [Inhabited α] (enc : α → List Value) (k : Nat) (w : World) (G m : Nat) (D : Array α) (os : Array Obj) {b : Nat} (hb : b ≠ G) (hlt : b < w.heap.size) : (sortWorldK enc k w G 0 m D os).heap[b]? = w.heap[b]? := by
  unfold sortWorldK grow
  have hsz : (putRowK enc k (Go.Sort.ahead w m) G 0 D).heap.size = w.heap.size := size_putRow id _ G 0 _
  simp only [Array.getElem?_append]
  rw [if_pos (by rw [hsz]; exact hlt)]
  exact putRow_block _ _ _ hb
theorem sortW_at {α : Type} [Inhabited α] (enc : α → List Value) (k : Nat) (w : World) (G m : Nat) (D : Array α) (os : Array Obj) {c : Array Value} {e : TypeId} {fr : Nat × Nat} (h : w.heap[G]? = some (.cells c e fr)) : (sortWorldK enc k w G 0 m D os).heap[G]? = some (.cells (putCells id 0 (flatK enc k D) c) e fr) := by
  unfold sortWorldK grow
  have hsz : (putRowK enc k (Go.Sort.ahead w m) G 0 D).heap.size = w.heap.size := size_putRow id _ G 0 _
  simp only [Array.getElem?_append]
  rw [if_pos (by rw [hsz]; exact (Array.getElem?_eq_some_iff.1 h).1)]
  exact putRow_at _ _ _ h
theorem sortW_size {α : Type} [Inhabited α] (enc : α → List Value) (k : Nat) (w : World) (G m : Nat) (D : Array α) (os : Array Obj) : w.heap.size ≤ (sortWorldK enc k w G 0 m D os).heap.size := by
  have hsz : (putRowK enc k (Go.Sort.ahead w m) G 0 D).heap.size = w.heap.size := size_putRow id _ G 0 _
  unfold sortWorldK
  rw [size_grow, hsz]; omega
/-- An element of the row: as a plain value, and as its cells. -/
def Elt (w : World) (okc : Nat → Prop) (k : Nat) (d : List (List AV)) : Type := { p : List AV × List Value // p.1 ∈ d ∧ p.2.length = k ∧ (∀ v ∈ p.2, v.oneCell' = true) ∧ p.1.length = k ∧ ∀ j, j < k → RV w okc (p.1.getD j default) (p.2.getD j undef) }
/-- **slices.SortFunc**: with a comparison that orders the elements, and parts whatever two that are not one, the row is the sorted list. -/
theorem sortU {P : Program} {ρ : Ren} (L : SlLaysF0.n6 P ρ) {k : Nat} (aE : ∀ w, (isAgg (ρ.t 24)).run P w = .ok true w) (zE : ∀ w, (Go.sizeOf (ρ.t 24)).run P w = .ok k w) {g : FuncId} {cs : List AV} {cf : List AV → List AV → Int} {d s : List (List AV)} (hk0 : 0 < k) (eg : Ent P g)
    (hcmp : ∀ x ∈ d, ∀ y ∈ d, Fn P g ([.agg x, .agg y] ++ cs) .sc (.int (cf x y)))
    (hirr : ∀ x ∈ d, ¬ cf x x < 0) (htr : ∀ x ∈ d, ∀ y ∈ d, ∀ z ∈ d, cf x y < 0 → cf y z < 0 → cf x z < 0) (hntr : ∀ x ∈ d, ∀ y ∈ d, ∀ z ∈ d, ¬ cf x y < 0 → ¬ cf y z < 0 → ¬ cf x z < 0) (hT : ∀ x ∈ d, ∀ y ∈ d, ¬ cf x y < 0 → ¬ cf y x < 0 → x = y)
    (hbig : d.length < 4611686018427387904) (hp : s.Perm d) (hs : s.Pairwise fun x y => ¬ cf y x < 0) :
    FnU P (ρ.f 6) (ρ.t 24) k (.sl k d) [.clo g cs] false (.sl k s) := by
  refine ⟨fun args W => L.f6.enters rfl args W, ?_⟩
  intro w ok B okc v0 cargs hrow hokc hok hB hgl hsz hargs
  have hrow0 := hrow
  obtain ⟨L', xs, hL', _, hlen, ho, hone, hv⟩ := hrow
  injection hL' with _ hL'
  subst hL'
  obtain ⟨u, rfl⟩ : ∃ u, cargs = #[u] := ⟨cargs.getD 0 undef, by
    have : cargs.size = 1 := hsz
    apply Array.ext_getElem?
    intro i
    by_cases hi : i < 1
    · obtain rfl : i = 0 := by omega
      simp [this]
    · rw [Array.getElem?_eq_none (by omega), Array.getElem?_eq_none (by simp; omega)]⟩
  have hu : RV w ok (.clo g cs) u := hargs 0 (by simp)
  cases hu with
  | clo _ _ vs hvl hvs =>
  have hnone : d = [] → ∀ p cap, v0 = .slice p 0 cap → Calls P (ρ.f 6) (#[v0] ++ #[.func (.func g) #[] vs]) w fun e' w' => ∃ v, e' = .returned (if false then v else .tuple #[]) ∧ w.grownBy w' v0.ownBlock ∧ RRow w' B (ρ.t 24) k okc (.sl k s) v ∧ (false = false → v = v0) ∧ (∀ g, v.ownBlock = some g → v0.ownBlock = some g ∨ w.heap.size ≤ g) ∧ w.drawn ≤ w'.drawn := by
    intro h0 p cap e
    have hs0 : s = d := by rw [h0] at hp ⊢; exact hp.eq_nil
    rw [e]
    refine (AnyF.slices_SortFunc_none (P := P) (ρ := ρ) L p cap (.func (.func g) #[] vs) w).mono ?_
    rintro e' w' ⟨rfl, rfl⟩
    exact ⟨.slice p 0 cap, rfl, ⟨rfl, rfl, rfl, Nat.le_refl _, fun _ _ _ => rfl⟩, by rw [hs0, ← e]; exact hrow0, fun _ => rfl, fun g hg => .inl hg, Nat.le_refl _⟩
  rcases ho.2 with ⟨e0, h0⟩ | ⟨G, cap, cur, e0, hBG, hG, hnc, hcm, hcs, htk⟩
  · exact hnone (List.eq_nil_of_length_eq_zero h0) none 0 e0
  by_cases hd0 : d = []
  · exact hnone hd0 _ cap (by rw [e0, hd0]; rfl)
  have hn0 : 0 < d.length := List.length_pos_iff.2 hd0
  have hxl : xs.length = d.length * k := ho.1
  have hget : ∀ i j, i < d.length → j < k → i * k + j < xs.length := fun i j hi hj => by
    rw [hxl]
    have : (i + 1) * k ≤ d.length * k := Nat.mul_le_mul_right _ hi
    rw [Nat.add_mul] at this; omega
  have hslice : ∀ i, i < d.length → ((xs.drop (i * k)).take k).length = k := fun i hi => by
    rw [List.length_take, List.length_drop, hxl]
    have : (i + 1) * k ≤ d.length * k := Nat.mul_le_mul_right _ hi
    rw [Nat.add_mul] at this; omega
  have hsl2 : ∀ i j, j < k → ((xs.drop (i * k)).take k).getD j undef = xs.getD (i * k + j) undef := fun i j hj => by
    simp only [List.getD_eq_getElem?_getD, List.getElem?_take, hj, if_true, List.getElem?_drop]
  let mk : (i : Fin d.length) → Elt w okc k d := fun i => ⟨(d[i], (xs.drop (i * k)).take k), List.getElem_mem _, hslice i i.2, fun v hv => hone v (List.mem_of_mem_drop (List.mem_of_mem_take hv)), hlen _ (List.getElem_mem _), fun j hj => by
    show RV w okc (d[i].getD j default) (((xs.drop (i * k)).take k).getD j undef)
    rw [hsl2 _ _ hj]
    have := hv i j i.2 hj
    have e : d.getD i [] = d[i] := by rw [List.getD_eq_getElem?_getD, List.getElem?_eq_getElem i.2]; rfl
    unfold gt2 at this
    rw [e] at this
    exact this⟩
  haveI : Inhabited (Elt w okc k d) := ⟨mk ⟨0, hn0⟩⟩
  let D : Array (Elt w okc k d) := (List.ofFn mk).toArray
  have hDs : D.size = d.length := by simp [D]
  have hDg : ∀ i (hi : i < d.length), D[i]! = mk ⟨i, hi⟩ := fun i hi => by
    rw [getElem!_pos D i (by rw [hDs]; exact hi)]
    simp [D]
  let enc : Elt w okc k d → List Value := fun p => p.1.2
  have hflat : ∀ t, t < d.length * k → (flatK enc k D)[t]! = xs.getD t undef := fun t ht => by
    have hq : t / k < d.length := Nat.div_lt_of_lt_mul (by rw [Nat.mul_comm]; exact ht)
    have hr : t % k < k := Nat.mod_lt _ hk0
    rw [get_flatK _ _ _ _ (by rw [hDs]; exact ht), hDg _ hq]
    show ((xs.drop (t / k * k)).take k)[t % k]! = _
    have e1 := hsl2 (t / k) (t % k) hr
    have e2 : t / k * k + t % k = t := by rw [Nat.mul_comm]; exact Nat.div_add_mod t k
    rw [e2] at e1
    rw [← e1, List.getD_eq_getElem?_getD, getElem!_pos _ _ (by rw [hslice _ hq]; exact hr), List.getElem?_eq_getElem (by rw [hslice _ hq]; exact hr)]
    rfl
  have hcurget : ∀ t, t < d.length * k → cur[t]? = some (xs.getD t undef) := fun t ht => by
    have h1 : (cur.toList.take (d.length * k))[t]? = xs[t]? := by rw [htk]
    rw [List.getElem?_take, if_pos ht] at h1
    rw [← Array.getElem?_toList, h1, List.getD_eq_getElem?_getD, List.getElem?_eq_getElem (by rw [hxl]; exact ht)]
    rfl
  have hGlt : G < w.heap.size := (Array.getElem?_eq_some_iff.1 hG).1
  have hH : HoldsK enc k w G 0 D := fun t ht => by
    rw [size_flatK, hDs] at ht
    rw [hflat t ht, Nat.zero_add]
    refine ⟨?_, ?_⟩
    · rw [cell_of_row w G t cur (ρ.t 24) (0, 0) hG, hcurget t ht]; rfl
    · simp [World.frozen?, hG]
  let cf' : Elt w okc k d → Elt w okc k d → Int := fun p q => cf p.1.1 q.1.1
  have hO : SWO (ltOf cf') := ⟨fun x => decide_eq_false (hirr _ x.2.1), fun x y z h1 h2 => decide_eq_true (htr _ x.2.1 _ y.2.1 _ z.2.1 (of_decide_eq_true h1) (of_decide_eq_true h2)), fun x y z h1 h2 => decide_eq_false (hntr _ x.2.1 _ y.2.1 _ z.2.1 (of_decide_eq_false h1) (of_decide_eq_false h2))⟩
  have hGok : ∀ b, okc b ∨ ok b → b ≠ G ∧ b < w.heap.size := fun b hb => by
    rcases hb with hb | hb
    · exact ⟨fun e => (hokc b hb).1 (by rw [e0, e]; rfl), (hokc b hb).2⟩
    · exact ⟨fun e => (hok b hb).1 (by rw [e0, e]; rfl), (hok b hb).2⟩
  have hCmp : CmpLays P g vs enc k cf' G 0 D.size w := by
    intro m os dk hdk x y
    have hfn := (hcmp _ x.2.1 _ y.2.1).2 (sortWorldK enc k w G 0 m dk os) (fun b => okc b ∨ ok b) (#[.agg (enc x).toArray, .agg (enc y).toArray] ++ vs) (fun b hb => Nat.lt_of_lt_of_le (hGok b hb).2 (sortW_size _ _ _ _ _ _ _)) (fun p hp => ?_) (by simp [hvl]; omega) (fun i hi => ?_)
    · refine hfn.mono ?_
      rintro e w' ⟨v, rfl, hb, hR, _, hdr⟩
      have hv' : RV w' noBlock (.int (cf' x y)) v := hR
      obtain rfl := RV.lit_iff.1 hv'
      exact ⟨rfl, grow_of_below hb hdr⟩
    · obtain ⟨q1, q2, q3⟩ := hgl p hp
      refine ⟨Nat.lt_of_lt_of_le q1 (sortW_size _ _ _ _ _ _ _), .inr q2, fun i hi => ⟨?_, (q3 i hi).2⟩⟩
      rw [← (q3 i hi).1]
      exact World.cell?_of_block (sortW_block _ _ _ _ _ _ _ (hGok _ (.inr q2)).1 q1)
    · have hag : ∀ z : Elt w okc k d, RV (sortWorldK enc k w G 0 m dk os) (fun b => okc b ∨ ok b) (.agg z.1.1) (.agg (enc z).toArray) := fun z => by
        obtain ⟨p, q1, q2, q3, q4, q5⟩ := z
        refine .agg _ _ (by show p.2.toArray.size = _; simp [q2, q4]) (fun j hj => ?_) (fun j hj => ?_)
        · have hj2 : j < p.2.length := by rw [q2, ← q4]; exact hj
          show (p.2.toArray.getD j undef).oneCell' = true
          rw [Array.getD_eq_getD_getElem?]
          simp only [List.getElem?_toArray, List.getElem?_eq_getElem hj2, Option.getD_some]
          exact q3 _ (List.getElem_mem hj2)
        · have e2 : p.2.toArray.getD j undef = p.2.getD j undef := by rw [Array.getD_eq_getD_getElem?, List.getD_eq_getElem?_getD]; simp
          show RV _ _ _ (p.2.toArray.getD j undef)
          rw [e2]
          exact (q5 j (q4 ▸ hj)).mono fun b hb hlt => ⟨.inl hb, sortW_block _ _ _ _ _ _ _ (hGok b (.inl hb)).1 hlt⟩
      rcases i with _ | _ | i
      · have e2 : (#[Value.agg (enc x).toArray, Value.agg (enc y).toArray] ++ vs).getD 0 undef = .agg (enc x).toArray := by simp [Array.getElem?_append]
        rw [e2]; exact hag x
      · have e2 : (#[Value.agg (enc x).toArray, Value.agg (enc y).toArray] ++ vs).getD (0 + 1) undef = .agg (enc y).toArray := by simp [Array.getElem?_append]
        rw [e2]; exact hag y
      · have hi' : i < cs.length := by simpa using hi
        have e1 : ([AV.agg x.1.1, AV.agg y.1.1] ++ cs).getD (i + 2) default = cs.getD i default := by simp
        have e2 : (#[Value.agg (enc x).toArray, Value.agg (enc y).toArray] ++ vs).getD (i + 2) undef = vs.getD i undef := by
          simp only [Array.getD_eq_getD_getElem?, Array.getElem?_append]
          rw [if_neg (by simp)]
          simp
        rw [e1, e2]
        exact (hvs i hi').mono fun b hb hlt => ⟨.inr hb, sortW_block _ _ _ _ _ _ _ (hGok b (.inr hb)).1 hlt⟩
  have hcon := AnyQ.slices_SortFunc (P := P) (ρ := ρ) L k aE zE enc (fun p => p.2.2.1) (fun p v hv => p.2.2.2.1 v hv) cf' hO g vs G 0 cap D w eg hCmp hH hGlt (by rw [hDs]; exact hbig)
  rw [hDs] at hcon
  rw [e0]
  refine hcon.mono ?_
  rintro e' w' ⟨rfl, D', n, os, ⟨hz, _, hpm⟩, hsd, rfl⟩
  rw [hDs] at hz
  have e1 : D'.extract 0 d.length = D' := by rw [← hz]; exact Array.extract_size
  have e2 : D.extract 0 d.length = D := by rw [← hDs]; exact Array.extract_size
  rw [e1, e2] at hpm
  have hDmap : D.toList.map (fun p => p.1.1) = d := by
    simp only [D, List.map_ofFn]
    apply List.ext_getElem
    · simp
    · intro i h1 h2
      simp [mk]
      rfl
  have hsm : D'.toList.map (fun p => p.1.1) = s := by
    have hp1 : (D'.toList.map fun p => p.1.1).Perm d := (hpm.map fun p => p.1.1).trans (List.Perm.of_eq hDmap)
    refine List.Perm.eq_of_pairwise (le := fun x y => ¬ cf y x < 0) ?_ ?_ hs (hp1.trans hp.symm)
    · intro a b ha hb h1 h2
      exact hT a (hp1.mem_iff.1 ha) b (hp.mem_iff.1 hb) h2 h1
    · rw [List.pairwise_map, List.pairwise_iff_getElem]
      intro i j hi hj hij
      have hi' : i < D'.size := by simpa using hi
      have hj' : j < D'.size := by simpa using hj
      have := hsd i j (Nat.zero_le _) hij (by omega)
      rw [getElem!_pos D' j hj', getElem!_pos D' i hi'] at this
      exact of_decide_eq_false this
  have hsl : s.length = d.length := hp.length_eq
  refine ⟨.slice (some ⟨G, 0, none⟩) d.length cap, rfl, ⟨rfl, rfl, rfl, sortW_size _ _ _ _ _ _ _, fun b hb hne => sortW_block _ _ _ _ _ _ _ (fun e => hne (by rw [e]; rfl)) hb⟩, ?_, fun _ => rfl, fun b hb => .inl hb, by show w.drawn ≤ w.drawn + n; omega⟩
  have hD'g : ∀ i (hi : i < d.length), (s.getD i []) = (D'[i]!).1.1 ∧ s[i]? = some (D'[i]!).1.1 := fun i hi => by
    have : s[i]? = some (D'[i]!).1.1 := by
      rw [← hsm, List.getElem?_map, Array.getElem?_toList, Array.getElem?_eq_getElem (by omega), getElem!_pos D' i (by omega)]; rfl
    exact ⟨by rw [List.getD_eq_getElem?_getD, this]; rfl, this⟩
  refine ⟨s, (flatK enc k D').toList, rfl, hk0, fun y hy => hlen y (hp.mem_iff.1 hy), ⟨by simp [hz, hsl], .inr ⟨G, cap, _, by rw [hsl], hBG, sortW_at _ _ _ _ _ _ _ hG, by rw [hsl]; exact hnc, hcm, by simp [putCells, hcs], ?_⟩⟩, fun v hv' => ?_, fun i j hi hj => ?_⟩
  · apply List.ext_getElem?
    intro t
    rw [List.getElem?_take, hsl]
    split
    · rename_i ht
      have hlt : t < cur.size := by have := hcurget t ht; exact (Array.getElem?_eq_some_iff.1 this).1
      rw [Array.getElem?_toList, Array.getElem?_toList]
      simp only [putCells, Array.getElem?_mapIdx, Array.getElem?_eq_getElem hlt, Option.map_some]
      rw [if_pos ⟨Nat.zero_le _, by rw [Nat.zero_add, size_flatK, hz]; exact ht⟩, Nat.sub_zero, getElem!_pos _ _ (by rw [size_flatK, hz]; exact ht), Array.getElem?_eq_getElem (by rw [size_flatK, hz]; exact ht)]
      rfl
    · rename_i ht
      rw [List.getElem?_eq_none]
      rw [Array.length_toList, size_flatK, hz]; omega
  · rw [Array.mem_toList_iff] at hv'
    obtain ⟨t, ht, rfl⟩ := Array.mem_iff_getElem.1 hv'
    rw [size_flatK, hz] at ht
    have hr : t % k < k := Nat.mod_lt _ hk0
    have := get_flatK enc k D' t (by rw [hz]; exact ht)
    rw [getElem!_pos _ _ (by rw [size_flatK, hz]; exact ht)] at this
    rw [this]
    have hlt : t % k < (enc D'[t / k]!).length := by show _ < (D'[t / k]!).1.2.length; rw [(D'[t / k]!).2.2.1]; exact hr
    rw [getElem!_pos (enc D'[t / k]!) (t % k) hlt]
    exact (D'[t / k]!).2.2.2.1 _ (List.getElem_mem _)
  · rw [hsl] at hi
    have hlt : i * k + j < d.length * k := by have := hget i j hi hj; rwa [hxl] at this
    have e3 : (flatK enc k D').toList.getD (i * k + j) undef = (D'[i]!).1.2.getD j undef := by
      have hq : (i * k + j) / k = i := by rw [Nat.add_comm, Nat.add_mul_div_right _ _ hk0, Nat.div_eq_of_lt hj]; omega
      have hr : (i * k + j) % k = j := by rw [Nat.add_comm, Nat.add_mul_mod_self_right, Nat.mod_eq_of_lt hj]
      have h1 := get_flatK enc k D' (i * k + j) (by rw [hz]; exact hlt)
      rw [hq, hr] at h1
      rw [List.getD_eq_getElem?_getD, Array.getElem?_toList, Array.getElem?_eq_getElem (by rw [size_flatK, hz]; exact hlt)]
      rw [getElem!_pos _ _ (by rw [size_flatK, hz]; exact hlt)] at h1
      simp only [Option.getD_some]
      rw [h1]
      have hlt2 : j < (D'[i]!).1.2.length := by rw [(D'[i]!).2.2.1]; exact hj
      show ((D'[i]!).1.2)[j]! = _
      rw [getElem!_pos (D'[i]!).1.2 j hlt2, List.getD_eq_getElem?_getD, List.getElem?_eq_getElem hlt2]; rfl
    rw [e3]
    unfold gt2
    rw [(hD'g i hi).1]
    exact ((D'[i]!).2.2.2.2.2 j hj).mono fun b hb hlt => ⟨hb, sortW_block _ _ _ _ _ _ _ (hGok b (.inl hb)).1 hlt⟩
end Go.Proofs.Ytpbmalfoncjcnaa
