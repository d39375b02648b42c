/- slices.SortFunc of a row of one's own, of one cell an element: the shelf's contract, met by a comparison's contract. -/
import Derived.Test.YtfdpbfdhcngfgaaLst
import Derived.Shelf.SlSortCmp.NoneTotal
namespace Go.Proofs.Ytfdpbfdhcngfgaa
open Go.RowKit Go.Shelf Go.Sort
set_option linter.unusedVariables false
set_option linter.unusedSimpArgs false
theorem sgrow_of_below {w w' : World} (h : Go.RowKit.Below w.heap.size w w') (hd : w.drawn ≤ w'.drawn) : ∃ q os, w' = grow (w.drewN q) os := by
  refine ⟨w'.drawn - w.drawn, w'.heap.extract w.heap.size w'.heap.size, ?_⟩
  have e1 : w'.heap = w.heap ++ w'.heap.extract w.heap.size w'.heap.size := by
    apply Array.ext_getElem?
    intro k
    rw [Array.getElem?_append]
    split
    · rename_i hk; exact h.block k hk
    · rename_i hk
      rw [Array.getElem?_extract]
      have := h.size
      by_cases hk2 : k < w'.heap.size
      · rw [if_pos (by omega)]; congr 1; omega
      · rw [if_neg (by omega)]; exact Array.getElem?_eq_none (by omega)
  have e2 : w.drawn + (w'.drawn - w.drawn) = w'.drawn := by omega
  have h1 := h.os; have h2 := h.tape; have h3 := h.output
  cases w'; cases w
  simp only at *
  subst h1 h2 h3
  unfold grow
  simp only [World.drewN] at *
  rw [e2]
  congr 1
section
variable {P : Program} {α : Type}
theorem so_block (enc : α → Value) (w : World) (G m : Nat) (D : Array α) (os : Array Obj) [Inhabited α] {b : Nat} (hb : b ≠ G) (hlt : b < w.heap.size) : (sortWorld enc w G 0 m D os).heap[b]? = w.heap[b]? := by
  unfold sortWorld grow
  have hsz : (putRow enc (Go.Sort.ahead w m) G 0 D).heap.size = w.heap.size := size_putRow enc _ G 0 _
  simp only [Array.getElem?_append]
  rw [if_pos (by rw [hsz]; exact hlt)]
  unfold putRow mapBlock
  simp only [Array.getElem?_modify]
  rw [if_neg (fun e => hb e.symm)]
  rfl
theorem so_at (enc : α → Value) (w : World) (G m : Nat) (D : Array α) (os : Array Obj) [Inhabited α] {c : Array Value} {e : TypeId} {fr : Nat × Nat} (h : w.heap[G]? = some (.cells c e fr)) : (sortWorld enc w G 0 m D os).heap[G]? = some (.cells (putCells enc 0 D c) e fr) := by
  unfold sortWorld grow
  have hsz : (putRow enc (Go.Sort.ahead w m) G 0 D).heap.size = w.heap.size := size_putRow enc _ G 0 _
  simp only [Array.getElem?_append]
  rw [if_pos (by rw [hsz]; exact (Array.getElem?_eq_some_iff.1 h).1)]
  unfold putRow mapBlock
  have h' : (Go.Sort.ahead w m).heap[G]? = some (.cells c e fr) := h
  simp only [Array.getElem?_modify, if_true, h', Option.map_some, onCells]
theorem so_size (enc : α → Value) (w : World) (G m : Nat) (D : Array α) (os : Array Obj) [Inhabited α] : w.heap.size ≤ (sortWorld enc w G 0 m D os).heap.size := by
  have hsz : (putRow enc (Go.Sort.ahead w m) G 0 D).heap.size = w.heap.size := size_putRow enc _ G 0 _
  unfold sortWorld grow
  simp only [Array.size_append]
  omega
/-- **slices.SortFunc at ints** -/
theorem sortU1 {ρ : Ren} (L : SlLaysF.n6 P ρ) {g : FuncId} {cs : List AV} {cf : Int → Int → Int} {d s : List Int} (eg : Ent P g)
    (hcmp : ∀ x ∈ d, ∀ y ∈ d, Fn P g ([.int x, .int y] ++ cs) .sc (.int (cf x y)))
    (hirr : ∀ x ∈ d, ¬ cf x x < 0) (htr : ∀ x ∈ d, ∀ y ∈ d, ∀ z ∈ d, cf x y < 0 → cf y z < 0 → cf x z < 0) (hntr : ∀ x ∈ d, ∀ y ∈ d, ∀ z ∈ d, ¬ cf x y < 0 → ¬ cf y z < 0 → ¬ cf x z < 0) (hT : ∀ x ∈ d, ∀ y ∈ d, ¬ cf x y < 0 → ¬ cf y x < 0 → x = y)
    (hbig : d.length < 4611686018427387904) (hp : s.Perm d) (hs : s.Pairwise fun x y => ¬ cf y x < 0) :
    FnU P (ρ.f 6) (ρ.t 24) 1 (.sl 1 (d.map fun x => [.int x])) [.clo g cs] false (.sl 1 (s.map fun x => [.int x])) := by
  refine ⟨fun args W => L.f6.enters rfl args W, ?_⟩
  intro w ok B okc v0 cargs hrow hokc hok hB hgl hsz hargs
  have hrow0 := hrow
  obtain ⟨L', xs, hL', _, hlen, ho, hone, hv⟩ := hrow
  injection hL' with _ hL'
  subst hL'
  obtain ⟨u, rfl⟩ : ∃ u, cargs = #[u] := ⟨cargs.getD 0 undef, by
    have : cargs.size = 1 := hsz
    apply Array.ext_getElem?
    intro i
    by_cases hi : i < 1
    · obtain rfl : i = 0 := by omega
      simp [this]
    · rw [Array.getElem?_eq_none (by omega), Array.getElem?_eq_none (by simp; omega)]⟩
  have hu : RV w ok (.clo g cs) u := hargs 0 (by simp)
  cases hu with
  | clo _ _ vs hvl hvs =>
  have hnone : d = [] → ∀ p cap, v0 = .slice p 0 cap → Calls P (ρ.f 6) (#[v0] ++ #[.func (.func g) #[] vs]) w fun e' w' => ∃ v, e' = .returned (if false then v else .tuple #[]) ∧ w.grownBy w' v0.ownBlock ∧ RRow w' B (ρ.t 24) 1 okc (.sl 1 (s.map fun x => [.int x])) v ∧ (false = false → v = v0) ∧ (∀ g, v.ownBlock = some g → v0.ownBlock = some g ∨ w.heap.size ≤ g) ∧ w.drawn ≤ w'.drawn := by
    intro h0 p cap e
    have hs0 : s = d := by rw [h0] at hp ⊢; exact hp.eq_nil
    rw [e]
    refine (AnyF.slices_SortFunc_none (P := P) (ρ := ρ) { L with } p cap (.func (.func g) #[] vs) w).mono ?_
    rintro e' w' ⟨rfl, rfl⟩
    exact ⟨.slice p 0 cap, rfl, ⟨rfl, rfl, rfl, Nat.le_refl _, fun _ _ _ => rfl⟩, by rw [hs0, ← e]; exact hrow0, fun _ => rfl, fun g hg => .inl hg, Nat.le_refl _⟩
  have hxl : xs.length = d.length := by have := ho.1; simpa using this
  have hx : ∀ i (hi : i < d.length), xs[i]? = some (.int .i64 d[i]) := fun i hi => by
    have := hv i 0 (by simpa using hi) (by omega)
    have e1 : gt2 (d.map fun x => [AV.int x]) i 0 = .int d[i] := by unfold gt2; simp [List.getD_eq_getElem?_getD, hi]
    rw [e1] at this
    have e2 := RV.lit_iff.1 this
    rw [Nat.mul_one, Nat.add_zero, List.getD_eq_getElem?_getD, List.getElem?_eq_getElem (by omega)] at e2
    rw [List.getElem?_eq_getElem (by omega)]
    exact congrArg some e2
  rcases ho.2 with ⟨e0, h0⟩ | ⟨G, cap, cur, e0, hBG, hG, hnc, hcm, hcs, htk⟩
  · exact hnone (List.eq_nil_of_length_eq_zero (by simpa using h0)) none 0 e0
  rw [List.length_map] at e0 hnc htk
  rw [Nat.mul_one] at htk hcs
  by_cases hd0 : d = []
  · exact hnone hd0 _ cap (by rw [e0, hd0]; rfl)
  have hn0 : 0 < d.length := List.length_pos_iff.2 hd0
  subst e0
  have hcur : ∀ i (hi : i < d.length), cur[i]? = some (.int .i64 d[i]) := fun i hi => by
    rw [← Array.getElem?_toList]
    have := hx i hi
    rw [← htk, List.getElem?_take, if_pos hi] at this
    exact this
  have hGs : G < w.heap.size := (Array.getElem?_eq_some_iff.1 hG).1
  haveI : Inhabited { x : Int // x ∈ d } := ⟨⟨d[0], List.getElem_mem _⟩⟩
  let D : Array { x : Int // x ∈ d } := d.attach.toArray
  have hDs : D.size = d.length := by simp [D]
  have hDg : ∀ i (hi : i < d.length), (D[i]!).1 = d[i] := fun i hi => by
    rw [getElem!_pos D i (by rw [hDs]; exact hi)]
    simp [D]
  let enc : { x : Int // x ∈ d } → Value := fun x => .int .i64 x.1
  have h1 : OneCell enc := fun x => rfl
  have hH : Holds enc w G 0 D := fun j hj => by
    rw [hDs] at hj
    rw [Nat.zero_add]
    refine ⟨?_, by simp [World.frozen?, hG]⟩
    rw [cell_of_row w G j cur _ _ hG, hcur j hj]
    show some (Value.int .i64 d[j]) = some (.int .i64 (D[j]!).1)
    rw [hDg j hj]
  let cf' : { x : Int // x ∈ d } → { x : Int // x ∈ d } → Int := fun p q => cf p.1 q.1
  have hO : SWO (ltOf cf') := ⟨fun x => decide_eq_false (hirr _ x.2), fun x y z h1 h2 => decide_eq_true (htr _ x.2 _ y.2 _ z.2 (of_decide_eq_true h1) (of_decide_eq_true h2)), fun x y z h1 h2 => decide_eq_false (hntr _ x.2 _ y.2 _ z.2 (of_decide_eq_false h1) (of_decide_eq_false h2))⟩
  have hGok : ∀ b, ok b → b ≠ G ∧ b < w.heap.size := fun b hb => ⟨fun e => (hok b hb).1 (by rw [e]; rfl), (hok b hb).2⟩
  have hCmp : CmpLays1 P g vs enc cf' G 0 D.size w := by
    intro m os dk hdk x y
    have hfn := (hcmp _ x.2 _ y.2).2 (sortWorld enc w G 0 m dk os) ok (#[.int .i64 x.1, .int .i64 y.1] ++ vs) (fun b hb => Nat.lt_of_lt_of_le (hGok b hb).2 (so_size _ _ _ _ _ _)) ⟨fun p hp => ?_, fun p hp => by simp [globI] at hp⟩ (by simp [hvl]; omega) (fun i hi => ?_)
    · refine hfn.mono ?_
      rintro e w' ⟨v, rfl, hb, hR, _, hdr⟩
      have hv' : RV w' noBlock (.int (cf' x y)) v := hR
      obtain rfl := RV.lit_iff.1 hv'
      exact ⟨rfl, sgrow_of_below hb hdr⟩
    · obtain ⟨q1, q2, q3, x', y', q4⟩ := hgl.1 p hp
      refine ⟨Nat.lt_of_lt_of_le q1 (so_size _ _ _ _ _ _), q2, fun i hi => ⟨?_, (q3 i hi).2⟩, x', y', ?_⟩
      · rw [← (q3 i hi).1]
        exact World.cell?_of_block (so_block _ _ _ _ _ _ (hGok _ q2).1 q1)
      · rw [← q4]
        exact so_block _ _ _ _ _ _ (hGok _ q2).1 q1
    · rcases i with _ | _ | i
      · have e2 : (#[Value.int .i64 x.1, Value.int .i64 y.1] ++ vs).getD 0 undef = .int .i64 x.1 := by simp [Array.getElem?_append]
        rw [e2]; exact .lit _
      · have e2 : (#[Value.int .i64 x.1, Value.int .i64 y.1] ++ vs).getD (0 + 1) undef = .int .i64 y.1 := by simp [Array.getElem?_append]
        rw [e2]; exact .lit _
      · have hi' : i < cs.length := by simpa using hi
        have e1 : ([AV.int x.1, AV.int y.1] ++ cs).getD (i + 2) default = cs.getD i default := by simp
        have e2 : (#[Value.int .i64 x.1, Value.int .i64 y.1] ++ vs).getD (i + 2) undef = vs.getD i undef := by
          simp only [Array.getD_eq_getD_getElem?, Array.getElem?_append]
          rw [if_neg (by simp)]
          simp
        rw [e1, e2]
        exact (hvs i hi').mono fun b hb hlt => ⟨hb, so_block _ _ _ _ _ _ (hGok b hb).1 hlt⟩
  have hcon := Any.slices_SortFunc (P := P) (ρ := ρ) L enc h1 cf' hO g vs G 0 cap D w eg hCmp hH hGs (by rw [hDs]; exact hbig)
  rw [hDs] at hcon
  refine hcon.mono ?_
  rintro e' w' ⟨rfl, D', n, os, ⟨hz, _, hpm⟩, hsd, rfl⟩
  rw [hDs] at hz
  have e1 : D'.extract 0 d.length = D' := by rw [← hz]; exact Array.extract_size
  have e2 : D.extract 0 d.length = D := by rw [← hDs]; exact Array.extract_size
  rw [e1, e2] at hpm
  have hDmap : D.toList.map (fun p => p.1) = d := by simp [D]
  have hsm : D'.toList.map (fun p => p.1) = s := by
    have hp1 : (D'.toList.map fun p => p.1).Perm d := (hpm.map fun p => p.1).trans (List.Perm.of_eq hDmap)
    refine List.Perm.eq_of_pairwise (le := fun x y => ¬ cf y x < 0) ?_ ?_ hs (hp1.trans hp.symm)
    · intro a b ha hb h1 h2
      exact hT a (hp1.mem_iff.1 ha) b (hp.mem_iff.1 hb) h2 h1
    · rw [List.pairwise_map, List.pairwise_iff_getElem]
      intro i j hi hj hij
      have hi' : i < D'.size := by simpa using hi
      have hj' : j < D'.size := by simpa using hj
      have := hsd i j (Nat.zero_le _) hij (by omega)
      rw [getElem!_pos D' j hj', getElem!_pos D' i hi'] at this
      exact of_decide_eq_false this
  have hsl : s.length = d.length := hp.length_eq
  have hat := so_at enc w G n D' os hG
  refine ⟨.slice (some ⟨G, 0, none⟩) d.length cap, rfl, ⟨rfl, rfl, rfl, so_size _ _ _ _ _ _, fun b hb hne => so_block _ _ _ _ _ _ (fun e => hne (by rw [e]; rfl)) hb⟩, ?_, fun _ => rfl, fun b hb => .inl hb, by show w.drawn ≤ w.drawn + n; omega⟩
  have hD'g : ∀ i (hi : i < d.length), s[i]? = some (D'[i]!).1 := fun i hi => by
    rw [← hsm, List.getElem?_map, Array.getElem?_toList, Array.getElem?_eq_getElem (by omega), getElem!_pos D' i (by omega)]; rfl
  refine ⟨_, s.map (.int .i64 ·), rfl, by omega, fun y hy => by obtain ⟨x, _, rfl⟩ := List.mem_map.1 hy; rfl, ⟨by simp, .inr ⟨G, cap, _, by simp [hsl], hBG, hat, by simpa [hsl] using hnc, hcm, by simp [putCells, hcs], ?_⟩⟩, fun u hu => by obtain ⟨x, _, rfl⟩ := List.mem_map.1 hu; rfl, fun i j hi hj => ?_⟩
  · rw [List.length_map, Nat.mul_one]
    apply List.ext_getElem?
    intro t
    rw [List.getElem?_take, hsl]
    split
    · rename_i ht
      have hlt : t < cur.size := by have := hcur t ht; exact (Array.getElem?_eq_some_iff.1 this).1
      rw [Array.getElem?_toList]
      simp only [putCells, Array.getElem?_mapIdx, Array.getElem?_eq_getElem hlt, Option.map_some]
      rw [if_pos ⟨Nat.zero_le _, by rw [hz]; omega⟩, Nat.sub_zero, List.getElem?_map, hD'g t ht]
      rfl
    · rename_i ht
      rw [List.getElem?_eq_none]
      simp; omega
  · have hi : i < s.length := by simpa using hi
    obtain rfl : j = 0 := by omega
    have e1 : gt2 (s.map fun x => [AV.int x]) i 0 = .int s[i] := by unfold gt2; simp [List.getD_eq_getElem?_getD, hi]
    have e2 : (s.map (Value.int .i64 ·)).getD (i * 1 + 0) undef = .int .i64 s[i] := by simp [List.getD_eq_getElem?_getD, hi]
    rw [e1, e2]
    exact .lit _
end
end Go.Proofs.Ytfdpbfdhcngfgaa
