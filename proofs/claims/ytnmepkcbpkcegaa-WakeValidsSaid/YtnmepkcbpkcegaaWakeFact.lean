/- The law's own fact on the standard table. -/
import Derived.Test.YtnmepkcbpkcegaaWake5
namespace Go.Proofs.Ytnmepkcbpkcegaa
open Go.RowKit
attribute [local go_sem] xt_size xt_cell xt_frozen xt_setCell xt_drew xt_drewN tab_get
attribute [local go_sem] cell_alloc_ite frozen_alloc_ite setCell_alloc_ite

theorem ball_lt {p : Nat → Prop} (n : Nat) (h : ∀ i ∈ List.range n, p i) : ∀ i, i < n → p i := fun i hi => h i (List.mem_range.2 hi)
theorem std_ok : tabErr stdT = 0 := by
  refine tab_good (ball_lt 16 ?_) (ball_lt 64 ?_)
  · unfold okAt; decide
  · unfold triAt; decide
theorem zero_tab : tabErr (fun _ => 0) = 4 := tab_range (n := 0) (by omega) (by unfold okAt; simp)

theorem std_cls {l : List Int} (h1 : l.length ≤ 256) (h2 : clsL l = 0) : clsErr stdT l = 0 := by
  unfold clsErr; rw [if_neg (by simp [std_ok]), if_neg (by omega), h2]

theorem sl_lits (w : World) (l : List Int) (t : TypeId) (B : Nat) (hB : B = w.heap.size) : SlI (w.alloc (.cells (l.map (Value.int .i64)).toArray t)) (some ⟨B, 0, none⟩) l.length l := by
  subst hB
  refine Sl.lit w _ t fun i j hi hj => ?_
  obtain rfl : j = 0 := by omega
  simp [hi]

theorem heap_alloc_at (w : World) (o : Obj) (n : Nat) (h : n = w.heap.size) : (w.alloc o).heap[n]? = some o := by subst h; exact heap_alloc_new w o
theorem tab_one (T : Nat → Int) : (tab T).all (·.oneCell') = true := by
  rw [Array.all_eq_true]
  intro i hi
  have := tab_get T i
  rw [if_pos (by rw [tab_size] at hi; exact hi), Array.getElem?_eq_getElem hi] at this
  injection this with this
  rw [this]; rfl
theorem setRow_new (w : World) (old cells : Array Value) (t : TypeId) (n : Nat) (h : n = w.heap.size) : (w.alloc (.cells old t)).setRow n cells = w.alloc (.cells cells t) := by
  subst h
  unfold World.setRow World.alloc
  congr 1
  apply Array.ext_getElem?
  intro k
  simp only [Array.getElem?_modify, Array.getElem?_push]
  by_cases hk : k = w.heap.size
  · subst hk; simp
  · simp [hk, Ne.symm hk]

set_option maxRecDepth 100000 in
set_option maxHeartbeats 4000000 in
theorem wakeFact_any (w : World) : Calls Try.prog 24 #[] w (Ret (.bool true) w) := by
  have e1 : gapV stdT 2 0 = .tuple #[.int .i64 180, .int .i64 0] := by
    unfold gapV; rw [if_pos (std_cls (by simp) rfl)]; rfl
  have e2 : leastV stdT [2, 0, 0] = .tuple #[.int .i64 240, .int .i64 0] := by
    unfold leastV; rw [if_pos (std_cls (by simp) rfl)]; rfl
  have e3 : validV stdT [2, 0] [5, 185] = .tuple #[.bool true, .int .i64 0] := by
    unfold validV
    rw [if_pos (by unfold validErr; rw [if_neg (by simp [std_ok]), if_neg (by simp), if_neg (by simp)]; rfl), adjB_true]
    intro i hi
    obtain rfl : i = 0 := by simp at hi; omega
    unfold adjAt stepT; decide
  have e4 : validV stdT [2, 0] [5, 184] = .tuple #[.bool false, .int .i64 0] := by
    unfold validV
    rw [if_pos (by unfold validErr; rw [if_neg (by simp [std_ok]), if_neg (by simp), if_neg (by simp)]; rfl), adjB_false]
    intro h
    have := h 0 (by simp)
    revert this
    unfold adjAt stepT; decide
  have e5 : tabErr (fun _ => 0) = 4 := zero_tab
  have e6 : classE 4 = 1 := rfl
  have e7 : stdT 12 = 240 := rfl
  have c4 : ∀ W, Calls Try.prog 27 #[.agg #[.int .i64 0, .int .i64 0, .int .i64 0, .int .i64 0, .int .i64 0, .int .i64 0, .int .i64 0, .int .i64 0, .int .i64 0, .int .i64 0, .int .i64 0, .int .i64 0, .int .i64 0, .int .i64 0, .int .i64 0, .int .i64 0]] W (Ret (.int .i64 (tabErr (fun _ => 0))) W) := fun W => wcheck (fun _ => 0) W
  have C4 := Lib.hid c4
  clear c4
  go_enter Try.func24, Try.ntmps24
  go_wp2_with (first | (go_at_call 65; refine (standard_any _).mono ?_; rintro e w1 ⟨rfl, zw1, rfl⟩) | (refine wpList_store_row rfl 44 _ _ rfl (w.heap.size + zw1.blocks.size) (tab stdT) rfl rfl 44 _ (heap_alloc_at _ _ _ (by simp)) (by rw [tab_size]; exact wtInfo) (by rw [tab_size]; rfl) (tab_one _) ?_; rw [setRow_new _ _ _ _ _ (by simp)]) | (refine wpList_load_row rfl 44 _ rfl (w.heap.size + zw1.blocks.size) rfl 44 (tab stdT) (0, 0) _ (by (repeat (first | rw [xt_heap _ _ _ (by simp <;> omega)] | rw [heap_alloc_old _ _ _ (by simp <;> omega)])); exact heap_alloc_at _ _ _ (by simp)) Try.underlying44 rfl (by rw [tab_size]; exact wtInfo) ?_) | (go_at_call 29; refine (gap_any _ _ _ _).mono ?_; rintro e w2 ⟨rfl, zw2, rfl⟩) | (go_at_call 25; refine (least_any _ _ 3 3 [2, 0, 0] _ rfl (by unfold maxLen; omega) (by exact sl_lits _ [2, 0, 0] _ _ (by simp))).mono ?_; rintro e w3 ⟨rfl, zw3, rfl⟩))
  refine (valid_any _ _ _ 2 2 2 2 [2, 0] [5, 185] _ rfl rfl (by unfold maxLen; omega) (by unfold maxLen; omega) (by exact (sl_lits _ [2, 0] _ _ (by simp)).alloc _) (by exact sl_lits _ [5, 185] _ _ (by simp))).mono ?_
  rintro e w4 ⟨rfl, z4, rfl⟩
  go_wp2_with (refine wpList_load_row rfl 44 _ rfl (w.heap.size + zw1.blocks.size) rfl 44 (tab stdT) (0, 0) _ (by (repeat (first | rw [xt_heap _ _ _ (by simp <;> omega)] | rw [heap_alloc_old _ _ _ (by simp <;> omega)])); exact heap_alloc_at _ _ _ (by simp)) Try.underlying44 rfl (by rw [tab_size]; exact wtInfo) ?_)
  refine (valid_any _ _ _ 2 2 2 2 [2, 0] [5, 184] _ rfl rfl (by unfold maxLen; omega) (by unfold maxLen; omega) (by exact (sl_lits _ [2, 0] _ _ (by simp)).alloc _) (by exact sl_lits _ [5, 184] _ _ (by simp))).mono ?_
  rintro e w5 ⟨rfl, z5, rfl⟩
  go_wp2_with (first | (go_at_call 27; refine (C4.out _).mono ?_; rintro e w6 ⟨rfl, zw6, rfl⟩) | (go_at_call 30; refine (class_any _ _).mono ?_; rintro e w7 ⟨rfl, zw7, rfl⟩))
  refine fin2 (by simp [results, Try.results24, go_sem]; rfl) ?_ rfl (by repeat (first | exact Below.refl _ _ | with_reducible refine Below.drew ?_ | with_reducible refine Below.alloc ?_ (by simp <;> omega) _ | with_reducible refine Below.setCell ?_ (by simp <;> omega) _ | with_reducible refine below_xt ?_ (by simp <;> omega) _ | with_reducible refine below_drewN ?_ _))
  rfl
end Go.Proofs.Ytnmepkcbpkcegaa
