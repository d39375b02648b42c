/- slices.Delete at api.ReadbackOpen. -/
import Derived.Test.YtbeegkheobomaaaDoorDel
namespace Go.Proofs.YtbeegkheobomaaaDoor
open Go.RowKit Go.Lib
set_option linter.unusedVariables false
set_option maxRecDepth 1000000
set_option maxHeartbeats 4000000
theorem delRo_zero (w : World) : (zeroValue 59).run Tryd.prog w = .ok (.agg #[.string ByteArray.empty, .int .i64 0, .int .i64 0, .string ByteArray.empty, .int .i64 0]) w := by kernel_rfl
theorem delRo_info : (Tryd.prog.info? 59).map (fun i => (i.size, i.bytes)) = some (Tryd.prog.cellsOf 59, Tryd.prog.bytesOf 59) := by kernel_rfl
theorem delRo_cells : Tryd.prog.cellsOf 59 = 5 := by kernel_rfl
theorem delRo_same (a : Value) (ha : ∃ A n c, a = .slice A n c ∧ n ≤ c ∧ c ≤ maxLen) (i n c : Nat) (A : Option Addr) (e1 : a = .slice A n c) (hi : i ≤ n) (hnc : n ≤ c) (hc : c ≤ maxLen) (w : World) :
    Calls Tryd.prog 30 #[.slice A n c, .int .i64 i, .int .i64 i] w fun e w' => e = .returned (.slice A n c) ∧ w' = w := by
  unfold maxLen at hc
  go_enter Tryd.func30, Tryd.ntmps30
  go_wp2
  all_goals (go_ret; exact ⟨rfl, rfl⟩)
theorem delRo (L : List (List AV)) (i j : Nat) (hij : i ≤ j) (hj : j ≤ L.length) : FnU Tryd.prog 30 59 5 (.sl 5 L) [.int i, .int j] true (.sl 5 (L.take i ++ L.drop j)) := by
  refine ⟨Tryd.call30, ?_⟩
  intro w ok B okc v0 cargs hrow hokc hok hB hgl hsz hargs
  have h0 := hargs 0 (by simp)
  have h1 := hargs 1 (by simp)
  have hc0 : cargs = #[.int .i64 i, .int .i64 j] := by
    have hsz2 : cargs.size = 2 := by simpa using hsz
    obtain ⟨l⟩ := cargs
    match l, hsz2 with
    | [a, b], _ =>
      have e0 : a = .int .i64 i := RV.lit_iff.1 (by simpa using h0)
      have e1 : b = .int .i64 j := RV.lit_iff.1 (by simpa using h1)
      rw [e0, e1]
  subst hc0
  clear hargs h0 h1 hsz
  obtain ⟨L', xs, e1, hs, hL, ho, hone, hv⟩ := hrow
  injection e1 with _ e1
  subst e1
  have hxl := ho.1
  rcases ho.2 with ⟨rfl, hn0⟩ | ⟨g, cap, cur, rfl, hBg, hg, hnc, hm, hcs, htk⟩
  · have hL0 : L = [] := List.length_eq_zero_iff.1 hn0
    subst hL0
    obtain rfl : j = 0 := by simpa using hj
    obtain rfl : i = 0 := by omega
    refine (delRo_same _ ⟨none, 0, 0, rfl, by omega, by unfold maxLen; omega⟩ 0 0 0 none rfl (by omega) (by omega) (by unfold maxLen; omega) w).mono ?_
    rintro e w' ⟨rfl, rfl⟩
    exact ⟨_, rfl, grownBy_refl _ _, ⟨_, xs, rfl, hs, by simp, ⟨by simpa using hxl, .inl ⟨rfl, rfl⟩⟩, hone, by simp⟩, by simp, fun g hg => (by cases hg), Nat.le_refl _⟩
  by_cases heq : i = j
  · subst heq
    refine (delRo_same _ ⟨_, _, _, rfl, hnc, hm⟩ i _ _ _ rfl hj hnc hm w).mono ?_
    rintro e w' ⟨rfl, rfl⟩
    refine ⟨_, rfl, grownBy_refl _ _, ?_, by simp, fun g hg => .inl hg, Nat.le_refl _⟩
    rw [List.take_append_drop]
    exact ⟨L, xs, rfl, hs, hL, ho, hone, hv⟩
  have hlt : i < j := by omega
  obtain ⟨news, hnews⟩ : ∃ news, news = xs.drop (j * 5) := ⟨_, rfl⟩
  have hlen : news.length = (L.length - j) * 5 := by rw [hnews, List.length_drop, hxl, Nat.sub_mul]
  have hget : ∀ t, t < (L.length - j) * 5 → news[t]? = cur[j * 5 + t]? := by
    intro t ht
    rw [hnews, List.getElem?_drop, ← htk, List.getElem?_take, if_pos (by rw [Nat.sub_mul] at ht; omega), Array.getElem?_toList]
  have hone' : ∀ u ∈ news, u.oneCell' = true := fun u hu => hone u (List.mem_of_mem_drop (hnews ▸ hu))
  have hcell : ∀ (W : World), W.heap = w.heap → ∀ k, W.cell? ⟨g, k, none⟩ = cur[k]? := fun W hW k => cell_of_row W g k cur 59 (0, 0) (by rw [hW]; exact hg)
  have hfroz : ∀ (W : World) (cs : Array Value), W.heap[g]? = some (.cells cs 59 (0, 0)) → ∀ k, W.frozen? ⟨g, k, none⟩ = false := fun W cs hW k => by simp [World.frozen?, hW]
  have hisS : ∀ (W : World) (cs : Array Value), W.heap[g]? = some (.cells cs 59 (0, 0)) → ∀ k, k < cs.size → (W.cell? ⟨g, k, none⟩).isSome = true := fun W cs hW k hk => by
    rw [cell_of_row W g k cs 59 (0, 0) hW]; simp [hk]
  obtain ⟨A, hA, hsrc⟩ : ∃ A : Addr, (if cap = j then some (⟨g, 0, none⟩ : Addr) else some ⟨g, j * 5, none⟩) = some A ∧ Hid (∀ t u, news[t]? = some u → w.drew.cell? (A.add t) = some u) := by
    by_cases h : cap = j
    · refine ⟨⟨g, 0, none⟩, by simp [h], fun t u hu => ?_⟩
      have h0 : news.length = 0 := by rw [hlen, show L.length - j = 0 by omega, Nat.zero_mul]
      rw [List.length_eq_zero_iff.1 h0] at hu
      simp at hu
    · refine ⟨⟨g, j * 5, none⟩, by simp [h], fun t u hu => ?_⟩
      have ht : t < (L.length - j) * 5 := by
        have := (List.getElem?_eq_some_iff.1 hu).1
        rwa [hlen] at this
      rw [hget t ht] at hu
      rw [Addr.add_lit]
      exact (hcell w.drew rfl _).trans hu
  have hroom : i * 5 + (L.length - j) * 5 ≤ cap * 5 := by rw [← Nat.add_mul]; exact Nat.mul_le_mul_right _ (by omega)
  have s1 : Hid (news.length = (L.length - j) * 5) := hlen
  have s2 : Hid (∀ u ∈ news, u.oneCell' = true) := hone'
  have s3 : Hid (∀ t, t < news.length → (w.drew.cell? ⟨g, 0 + i * 5 + t, none⟩).isSome = true ∧ w.drew.frozen? ⟨g, 0 + i * 5 + t, none⟩ = false) := by
    intro t ht
    rw [hlen] at ht
    exact ⟨hisS w.drew cur hg _ (by rw [hcs]; omega), hfroz w.drew cur hg _⟩
  obtain ⟨W1, hW1⟩ : ∃ W1, W1 = w.drew.setCells g (0 + i * 5) news := ⟨_, rfl⟩
  have hg1 : W1.heap[g]? = some (.cells (setR cur (0 + i * 5) news) 59 (0, 0)) := by rw [hW1]; exact setCells_blk _ _ _ _ hg
  obtain ⟨zs, hzs⟩ : ∃ zs, zs = (Builtin.zeroCells (.agg #[.string ByteArray.empty, .int .i64 0, .int .i64 0, .string ByteArray.empty, .int .i64 0] : Value).cells (L.length - (i + (L.length - j)))).toList := ⟨_, rfl⟩
  have hzl : zs.length = (L.length - (i + (L.length - j))) * 5 := by rw [hzs]; simp [Builtin.zeroCells, Value.cells]
  have hroom2 : (i + (L.length - j)) * 5 + (L.length - (i + (L.length - j))) * 5 ≤ cap * 5 := by rw [← Nat.add_mul]; exact Nat.mul_le_mul_right _ (by omega)
  have hcl : ∀ ty, (Builtin.clear_ #[38] ty #[.slice (some ⟨g, (i + (L.length - j)) * 5, none⟩) (L.length - (i + (L.length - j))) (cap - (i + (L.length - j)))]).run Tryd.prog W1 = .ok (.tuple #[]) (W1.setCells g ((i + (L.length - j)) * 5) zs) := by
    intro ty
    rw [hzs]
    refine run_clear W1 _ _ ty _ (by kernel_rfl) delRo_zero (by simp [Value.cells]) (by simp [Value.cells, Value.oneCell']) g _ _ _ (by omega) (fun t ht => hisS W1 _ hg1 _ ?_) (fun t ht => hfroz W1 _ hg1 _)
    rw [setR_size, hcs]
    have : t < (L.length - (i + (L.length - j))) * 5 := by simpa [Value.cells] using ht
    omega
  have hW : Hid (W1 = w.drew.setCells g (0 + i * 5) news) := hW1
  have hic : i ≤ cap := by omega
  have hjc : j ≤ cap := by omega
  have hm' : cap ≤ 9223372036854775807 := hm
  have key : Calls Tryd.prog 30 #[.slice (some ⟨g, 0, none⟩) L.length cap, .int .i64 i, .int .i64 j] w fun e w' => e = .returned (.slice (some ⟨g, 0, none⟩) (i + (L.length - j)) cap) ∧ w' = W1.setCells g ((i + (L.length - j)) * 5) zs := by
    obtain ⟨i0, hi0, hz1⟩ : ∃ i0, Tryd.prog.info? 59 = some i0 ∧ i0.size = 5 := by
      have := delRo_info
      cases hq : Tryd.prog.info? 59 with
      | none => rw [hq] at this; cases this
      | some i0 => rw [hq, delRo_cells] at this; simp at this; exact ⟨i0, rfl, this.1⟩
    have mixed : Tryd.prog.follows .mixedOrders = true := by kernel_rfl
    have hA' : (if cap = j then some (⟨g, 0, none⟩ : Addr) else some ⟨g, j * 5, none⟩) = some A := by simpa using hA
    have hcl' : ∀ ty, (Builtin.clear_ #[38] ty #[.slice (some ⟨g, (i + (L.length - j)) * 5, none⟩) (L.length - (i + (L.length - j))) (cap - (i + (L.length - j)))]).run Tryd.prog W1 = .ok (.tuple #[]) (W1.setCells g ((i + (L.length - j)) * 5) zs) := by simpa using hcl
    clear hA hcl
    have ht2 : Tryd.prog.underlying 38 = some (.slice 59) := by kernel_rfl
    clear hv hone hxl ho htk hcell hget hnews hone' hroom hroom2 hzl hzs hlen hg1 hW1 hfroz hisS hg hL hokc hok
    go_enter Tryd.func30, Tryd.ntmps30
    go_wp2_with fail
    go_region_law_o (refine step_append_room rfl (.tmp 22) (.tmp 25) 38 rfl 59 i0 5 ht2 hi0 hz1 g 0 i cap (by simp [Act.eval, Act.put]) A (L.length - j) (cap - j) news (by simp [Act.eval, Act.put]) s1.out hsrc.out s2.out (by omega) s3.out ?_; rw [← hW.out])
    go_wp2
    go_ret
    exact ⟨rfl, by simp⟩
  refine key.mono ?_
  rintro e w' ⟨rfl, rfl⟩
  have hg2 : (W1.setCells g ((i + (L.length - j)) * 5) zs).heap[g]? = some (.cells (setR (setR cur (0 + i * 5) news) ((i + (L.length - j)) * 5) zs) 59 (0, 0)) := setCells_blk _ _ _ _ hg1
  have hgr : w.grownBy (W1.setCells g ((i + (L.length - j)) * 5) zs) (some g) := by
    refine grownBy_trans (grownBy_drew w (some g)) (grownBy_trans ?_ (grown_setCells _ _ _ _))
    rw [hW1]; exact grown_setCells _ _ _ _
  refine ⟨_, rfl, hgr, ?_, by simp, fun g' hg' => .inl hg', by rw [setCells_drawn, hW1, setCells_drawn]; exact Nat.le_succ _⟩
  refine del_row i j hs hL hxl hone hv hij hj hBg hg2 hm (by rw [setR_size, setR_size]; exact hcs) hnc ?_ (fun b hb hlt => hgr.block b hlt fun e => (hokc b hb).1 e.symm)
  rw [setR_list _ _ _ (by rw [setR_size, hcs, hzl]; exact hroom2), setR_list _ _ _ (by rw [hcs, hlen]; omega), Nat.zero_add, Nat.add_mul, del_list _ _ _ _ _ (by rw [Array.length_toList, hcs]; omega) hlen, hnews]
  congr 1
  rw [← htk, List.take_take, Nat.min_eq_left (Nat.mul_le_mul_right _ (by omega))]
end Go.Proofs.YtbeegkheobomaaaDoor
