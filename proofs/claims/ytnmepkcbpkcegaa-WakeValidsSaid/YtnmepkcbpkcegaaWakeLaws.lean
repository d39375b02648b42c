/- The walks of the laws WakeGaps and WakeClasses. -/
import Derived.Test.YtnmepkcbpkcegaaWakeFact
namespace Go.Proofs.Ytnmepkcbpkcegaa
open Go.RowKit
attribute [local go_sem] xt_size xt_cell xt_frozen xt_setCell xt_drew xt_drewN tab_get
attribute [local go_sem] cell_alloc_ite frozen_alloc_ite setCell_alloc_ite

theorem cls_one (n : Int) : clsL [n] = classE n := by
  unfold clsL classE
  by_cases h : n < 0 ∨ 3 < n
  · rw [if_pos h, if_neg (by simp; omega)]
  · rw [if_neg h, if_pos (by simp; omega)]

set_option maxRecDepth 100000 in
set_option maxHeartbeats 4000000 in
theorem wclasses_walk (T : Nat → Int) (a b : Int) (w : World) : Calls Try.prog 7 #[.agg (tab T), .int .i64 a, .int .i64 b] w (Ret (.bool true) w) := by
  have h1 : clsL [a] = classE a := cls_one a
  by_cases h0 : tabErr T = 0
  · have ht : (tabErr T == 0) = true := by simp [h0]
    by_cases hc : clsL [a, b] = 0
    · have hcc : clsErr T [a, b] = 0 := by unfold clsErr; rw [if_neg (by simp [h0]), if_neg (by simp), hc]
      obtain ⟨_, ⟨ha0, ha1⟩, hb0, hb1⟩ := cls_two hcc
      have e1 : gapV T a b = .tuple #[.int .i64 (T (a.toNat * 4 + b.toNat)), .int .i64 0] := by unfold gapV; rw [if_pos hcc]
      clear h0 hcc
      obtain ⟨a, rfl⟩ := Int.eq_ofNat_of_zero_le ha0
      obtain ⟨b, rfl⟩ := Int.eq_ofNat_of_zero_le hb0
      rw [Int.toNat_natCast, Int.toNat_natCast] at e1
      go_enter Try.func7, Try.ntmps7
      go_wp2_with (first | (go_at_call 24; refine (wakeFact_any _).mono ?_; rintro e w1 ⟨rfl, zw1, rfl⟩) | (refine wpList_load_row rfl 44 _ rfl w.heap.size rfl 44 (tab T) (0, 0) _ (by (repeat (first | rw [xt_heap _ _ _ (by simp <;> omega)] | rw [heap_alloc_old _ _ _ (by simp <;> omega)])); exact heap_alloc_at _ _ _ (by simp)) Try.underlying44 rfl (by rw [tab_size]; exact wtInfo) ?_) | (go_at_call 29; refine (gap_any _ _ _ _).mono ?_; rintro e w2 ⟨rfl, zw2, rfl⟩) | (go_at_call 26; refine (tableError_any _ _).mono ?_; rintro e w3 ⟨rfl, zw3, rfl⟩))
      refine (classesError_any _ 2 2 [(a : Int), (b : Int)] _ rfl (by omega) (by exact sl_lits _ [(a : Int), (b : Int)] _ _ (by simp))).mono ?_
      rintro e w4 ⟨rfl, z4, rfl⟩
      go_wp2_with (go_at_call 30; refine (class_any _ _).mono ?_; rintro e w5 ⟨rfl, zw5, rfl⟩)
      refine (classesError_any _ 1 1 [(a : Int)] _ rfl (by omega) (by exact sl_lits _ [(a : Int)] _ _ (by simp))).mono ?_
      rintro e w6 ⟨rfl, z6, rfl⟩
      go_wp2
      refine fin2 (by simp [results, Try.results7, go_sem]; rfl) ?_ rfl (by repeat (first | exact Below.refl _ _ | with_reducible refine Below.drew ?_ | with_reducible refine Below.alloc ?_ (by simp <;> omega) _ | with_reducible refine Below.setCell ?_ (by simp <;> omega) _ | with_reducible refine below_xt ?_ (by simp <;> omega) _ | with_reducible refine below_drewN ?_ _))
      rfl
    · have hc1 : clsL [a, b] = 1 := by
        unfold clsL at hc ⊢
        by_cases hh : [a, b].all (fun x => decide (0 ≤ x ∧ x ≤ 3)) = true
        · rw [if_pos hh] at hc; omega
        · rw [if_neg hh]
      have hcc : clsErr T [a, b] = 1 := by unfold clsErr; rw [if_neg (by simp [h0]), if_neg (by simp), hc1]
      have e1 : gapV T a b = .tuple #[.int .i64 0, .int .i64 1] := by unfold gapV; rw [if_neg (by omega), hcc]
      clear h0 hcc hc
      go_enter Try.func7, Try.ntmps7
      go_wp2_with (first | (go_at_call 24; refine (wakeFact_any _).mono ?_; rintro e w1 ⟨rfl, zw1, rfl⟩) | (refine wpList_load_row rfl 44 _ rfl w.heap.size rfl 44 (tab T) (0, 0) _ (by (repeat (first | rw [xt_heap _ _ _ (by simp <;> omega)] | rw [heap_alloc_old _ _ _ (by simp <;> omega)])); exact heap_alloc_at _ _ _ (by simp)) Try.underlying44 rfl (by rw [tab_size]; exact wtInfo) ?_) | (go_at_call 29; refine (gap_any _ _ _ _).mono ?_; rintro e w2 ⟨rfl, zw2, rfl⟩) | (go_at_call 26; refine (tableError_any _ _).mono ?_; rintro e w3 ⟨rfl, zw3, rfl⟩))
      refine (classesError_any _ 2 2 [a, b] _ rfl (by omega) (by exact sl_lits _ [a, b] _ _ (by simp))).mono ?_
      rintro e w4 ⟨rfl, z4, rfl⟩
      go_wp2_with (go_at_call 30; refine (class_any _ _).mono ?_; rintro e w5 ⟨rfl, zw5, rfl⟩)
      refine (classesError_any _ 1 1 [a] _ rfl (by omega) (by exact sl_lits _ [a] _ _ (by simp))).mono ?_
      rintro e w6 ⟨rfl, z6, rfl⟩
      go_wp2
      refine fin2 (by simp [results, Try.results7, go_sem]; rfl) ?_ rfl (by repeat (first | exact Below.refl _ _ | with_reducible refine Below.drew ?_ | with_reducible refine Below.alloc ?_ (by simp <;> omega) _ | with_reducible refine Below.setCell ?_ (by simp <;> omega) _ | with_reducible refine below_xt ?_ (by simp <;> omega) _ | with_reducible refine below_drewN ?_ _))
      rfl
  · have ht : (tabErr T == 0) = false := by simp [h0]
    have ht2 : (tabErr T != 0) = true := by simp [h0]
    have hcc : clsErr T [a, b] = tabErr T := by unfold clsErr; rw [if_pos h0]
    have e1 : gapV T a b = .tuple #[.int .i64 0, .int .i64 (tabErr T)] := by unfold gapV; rw [hcc, if_neg h0]
    clear h0 hcc
    go_enter Try.func7, Try.ntmps7
    go_wp2_with (first | (go_at_call 24; refine (wakeFact_any _).mono ?_; rintro e w1 ⟨rfl, zw1, rfl⟩) | (refine wpList_load_row rfl 44 _ rfl w.heap.size rfl 44 (tab T) (0, 0) _ (by (repeat (first | rw [xt_heap _ _ _ (by simp <;> omega)] | rw [heap_alloc_old _ _ _ (by simp <;> omega)])); exact heap_alloc_at _ _ _ (by simp)) Try.underlying44 rfl (by rw [tab_size]; exact wtInfo) ?_) | (go_at_call 29; refine (gap_any _ _ _ _).mono ?_; rintro e w2 ⟨rfl, zw2, rfl⟩) | (go_at_call 30; refine (class_any _ _).mono ?_; rintro e w5 ⟨rfl, zw5, rfl⟩) | (go_at_call 26; refine (tableError_any _ _).mono ?_; rintro e w3 ⟨rfl, zw3, rfl⟩))
    refine (classesError_any _ 1 1 [a] _ rfl (by omega) (by exact sl_lits _ [a] _ _ (by simp))).mono ?_
    rintro e w6 ⟨rfl, z6, rfl⟩
    go_wp2
    refine fin2 (by simp [results, Try.results7, go_sem]; rfl) ?_ rfl (by repeat (first | exact Below.refl _ _ | with_reducible refine Below.drew ?_ | with_reducible refine Below.alloc ?_ (by simp <;> omega) _ | with_reducible refine Below.setCell ?_ (by simp <;> omega) _ | with_reducible refine below_xt ?_ (by simp <;> omega) _ | with_reducible refine below_drewN ?_ _))
    rfl

set_option maxRecDepth 100000 in
set_option maxHeartbeats 4000000 in
theorem wgaps_bad (T : Nat → Int) (A : Option Addr) (n c : Nat) (l : List Int) (w : World) (hl : l.length = n) (hn : n ≤ maxLen) (h : SlI w A n l) (hne : clsErr T l ≠ 0) :
    Calls Try.prog 6 #[.agg (tab T), .slice A n c] w (Ret (.bool true) w) := by
  have e1 : leastV T l = .tuple #[.int .i64 0, .int .i64 (clsErr T l)] := by unfold leastV; rw [if_neg hne]
  have H := Lib.hid h
  have HL := Lib.hid hl
  have HN := Lib.hid hn
  unfold maxLen at hn
  have L1 : ∀ z, Hid (Calls Try.prog 25 #[.agg (tab T), .slice A n c] (xt (w.alloc (.cells (tab T) 44)) z) (Ret (leastV T l) (xt (w.alloc (.cells (tab T) 44)) z))) :=
    fun z => least_any T A n c l _ hl HN.out ((h.alloc _).xt z)
  clear h
  by_cases h0 : tabErr T = 0
  · have ht : (tabErr T == 0) = true := by simp [h0]
    have ht2 : (tabErr T != tabErr T) = false := by simp
    by_cases h1 : 256 < n
    · have hc : clsErr T l = 2 := by unfold clsErr; rw [if_neg (by simp [h0]), if_pos (by omega)]
      rw [hc] at e1
      clear hne h0 hl hc
      go_enter Try.func6, Try.ntmps6
      go_wp2_with (first | (go_at_call 24; refine (wakeFact_any _).mono ?_; rintro e w1 ⟨rfl, zw1, rfl⟩) | (refine wpList_load_row rfl 44 _ rfl w.heap.size rfl 44 (tab T) (0, 0) _ (by (repeat (first | rw [xt_heap _ _ _ (by simp <;> omega)] | rw [heap_alloc_old _ _ _ (by simp <;> omega)])); exact heap_alloc_at _ _ _ (by simp)) Try.underlying44 rfl (by rw [tab_size]; exact wtInfo) ?_) | (go_at_call 25; refine ((L1 _).out).mono ?_; rintro e w2 ⟨rfl, zw2, rfl⟩) | (go_at_call 26; refine (tableError_any _ _).mono ?_; rintro e w3 ⟨rfl, zw3, rfl⟩) | (go_at_call 27; refine (wcheck _ _).mono ?_; rintro e w4 ⟨rfl, zw4, rfl⟩))
      refine fin2 (by simp [results, Try.results6, go_sem]; rfl) ?_ rfl (by repeat (first | exact Below.refl _ _ | with_reducible refine Below.drew ?_ | with_reducible refine Below.alloc ?_ (by simp <;> omega) _ | with_reducible refine Below.setCell ?_ (by simp <;> omega) _ | with_reducible refine below_xt ?_ (by simp <;> omega) _ | with_reducible refine below_drewN ?_ _))
      rfl
    · have hc : clsErr T l = clsL l := by unfold clsErr; rw [if_neg (by simp [h0]), if_neg (by omega)]
      rw [hc] at e1 hne
      have hc1 : clsL l = 1 := by
        unfold clsL at hne ⊢
        by_cases hh : l.all (fun x => decide (0 ≤ x ∧ x ≤ 3)) = true
        · rw [if_pos hh] at hne; exact absurd rfl hne
        · rw [if_neg hh]
      rw [hc1] at e1
      clear hne h0 hl hc
      go_enter Try.func6, Try.ntmps6
      go_wp2_with (first | (go_at_call 24; refine (wakeFact_any _).mono ?_; rintro e w1 ⟨rfl, zw1, rfl⟩) | (refine wpList_load_row rfl 44 _ rfl w.heap.size rfl 44 (tab T) (0, 0) _ (by (repeat (first | rw [xt_heap _ _ _ (by simp <;> omega)] | rw [heap_alloc_old _ _ _ (by simp <;> omega)])); exact heap_alloc_at _ _ _ (by simp)) Try.underlying44 rfl (by rw [tab_size]; exact wtInfo) ?_) | (go_at_call 25; refine ((L1 _).out).mono ?_; rintro e w2 ⟨rfl, zw2, rfl⟩) | (go_at_call 26; refine (tableError_any _ _).mono ?_; rintro e w3 ⟨rfl, zw3, rfl⟩) | (go_at_call 27; refine (wcheck _ _).mono ?_; rintro e w4 ⟨rfl, zw4, rfl⟩) | (go_at_call 28; refine (classesError_any _ _ _ l _ HL.out (by omega) (((((H.out.alloc _).xt _).xt _).xt _).xt _)).mono ?_; rintro e w5 ⟨rfl, zw5, rfl⟩))
      refine fin2 (by simp [results, Try.results6, go_sem]; rfl) ?_ rfl (by repeat (first | exact Below.refl _ _ | with_reducible refine Below.drew ?_ | with_reducible refine Below.alloc ?_ (by simp <;> omega) _ | with_reducible refine Below.setCell ?_ (by simp <;> omega) _ | with_reducible refine below_xt ?_ (by simp <;> omega) _ | with_reducible refine below_drewN ?_ _))
      rfl
  · have ht : (tabErr T == 0) = false := by simp [h0]
    have ht1 : (tabErr T != 0) = true := by simp [h0]
    have ht2 : (tabErr T != tabErr T) = false := by simp
    have hc : clsErr T l = tabErr T := by unfold clsErr; rw [if_pos h0]
    rw [hc] at e1
    clear hne h0 hl hc
    go_enter Try.func6, Try.ntmps6
    go_wp2_with (first | (go_at_call 24; refine (wakeFact_any _).mono ?_; rintro e w1 ⟨rfl, zw1, rfl⟩) | (refine wpList_load_row rfl 44 _ rfl w.heap.size rfl 44 (tab T) (0, 0) _ (by (repeat (first | rw [xt_heap _ _ _ (by simp <;> omega)] | rw [heap_alloc_old _ _ _ (by simp <;> omega)])); exact heap_alloc_at _ _ _ (by simp)) Try.underlying44 rfl (by rw [tab_size]; exact wtInfo) ?_) | (go_at_call 25; refine ((L1 _).out).mono ?_; rintro e w2 ⟨rfl, zw2, rfl⟩) | (go_at_call 26; refine (tableError_any _ _).mono ?_; rintro e w3 ⟨rfl, zw3, rfl⟩) | (go_at_call 27; refine (wcheck _ _).mono ?_; rintro e w4 ⟨rfl, zw4, rfl⟩))
    refine fin2 (by simp [results, Try.results6, go_sem]; rfl) ?_ rfl (by repeat (first | exact Below.refl _ _ | with_reducible refine Below.drew ?_ | with_reducible refine Below.alloc ?_ (by simp <;> omega) _ | with_reducible refine Below.setCell ?_ (by simp <;> omega) _ | with_reducible refine below_xt ?_ (by simp <;> omega) _ | with_reducible refine below_drewN ?_ _))
    rfl

set_option maxRecDepth 100000 in
set_option maxHeartbeats 4000000 in
theorem wgaps_good (T : Nat → Int) (A : Option Addr) (n c : Nat) (l : List Int) (w : World) (hl : l.length = n) (hn : n ≤ maxLen) (h : SlI w A n l) (hz : clsErr T l = 0) :
    Calls Try.prog 6 #[.agg (tab T), .slice A n c] w (Ret (.bool true) w) := by
  obtain ⟨t0, hlen, c0⟩ := cls_parts hz
  have e1 : leastV T l = .tuple #[.int .i64 (leastTo T l (n - 1)), .int .i64 0] := by unfold leastV; rw [if_pos hz, hl]
  have H := Lib.hid h
  have HL := Lib.hid hl
  have T0 := Lib.hid t0
  have C0 := Lib.hid c0
  have hn' : n ≤ 256 := by omega
  have L1 : ∀ z, Hid (Calls Try.prog 25 #[.agg (tab T), .slice A n c] (xt (w.alloc (.cells (tab T) 44)) z) (Ret (leastV T l) (xt (w.alloc (.cells (tab T) 44)) z))) :=
    fun z => least_any T A n c l _ hl hn ((h.alloc _).xt z)
  have ht : (tabErr T == 0) = true := by simp [t0]
  have ht2 : (tabErr T != tabErr T) = false := by simp
  clear h hz t0 hn hl hlen
  go_enter Try.func6, Try.ntmps6
  go_wp2_with (first | (go_at_call 24; refine (wakeFact_any _).mono ?_; rintro e w1 ⟨rfl, zw1, rfl⟩) | (refine wpList_load_row rfl 44 _ rfl w.heap.size rfl 44 (tab T) (0, 0) _ (by (repeat (first | rw [xt_heap _ _ _ (by simp <;> omega)] | rw [heap_alloc_old _ _ _ (by simp <;> omega)])); exact heap_alloc_at _ _ _ (by simp)) Try.underlying44 rfl (by rw [tab_size]; exact wtInfo) ?_) | (go_at_call 25; refine ((L1 _).out).mono ?_; rintro e w2 ⟨rfl, zw2, rfl⟩) | (go_at_call 26; refine (tableError_any _ _).mono ?_; rintro e w3 ⟨rfl, zw3, rfl⟩) | (go_at_call 27; refine (wcheck _ _).mono ?_; rintro e w4 ⟨rfl, zw4, rfl⟩) | (go_at_call 28; refine (classesError_any _ _ _ l _ HL.out (by omega) (((((H.out.alloc _).xt _).xt _).xt _).xt _)).mono ?_; rintro e w5 ⟨rfl, zw5, rfl⟩))
  have GX : ∀ (W : World) (x y : Nat), x ≤ 3 → y ≤ 3 → Hid (Calls Try.prog 29 #[.agg #[.int .i64 (T 0), .int .i64 (T 1), .int .i64 (T 2), .int .i64 (T 3), .int .i64 (T 4), .int .i64 (T 5), .int .i64 (T 6), .int .i64 (T 7), .int .i64 (T 8), .int .i64 (T 9), .int .i64 (T 10), .int .i64 (T 11), .int .i64 (T 12), .int .i64 (T 13), .int .i64 (T 14), .int .i64 (T 15)], .int .i64 x, .int .i64 y] W (Ret (.tuple #[.int .i64 (T (x * 4 + y)), .int .i64 0]) W)) := fun W x y hx hy => (by
    have hg := gap_any T x y W
    have e : gapV T x y = .tuple #[.int .i64 (T (x * 4 + y)), .int .i64 0] := by
      unfold gapV
      rw [if_pos (by unfold clsErr; rw [if_neg (by simp [T0.out]), if_neg (by simp)]; exact clsL_good (fun i hi => by
        have : i = 0 ∨ i = 1 := by simp at hi; omega
        rcases this with rfl | rfl <;> simp <;> omega)), Int.toNat_natCast, Int.toNat_natCast]
    rw [e, show tab T = #[.int .i64 (T 0), .int .i64 (T 1), .int .i64 (T 2), .int .i64 (T 3), .int .i64 (T 4), .int .i64 (T 5), .int .i64 (T 6), .int .i64 (T 7), .int .i64 (T 8), .int .i64 (T 9), .int .i64 (T 10), .int .i64 (T 11), .int .i64 (T 12), .int .i64 (T 13), .int .i64 (T 14), .int .i64 (T 15)] from rfl] at hg
    exact hg)
  go_loopg [8, 9] n (fun g s i wr => ∃ k : Nat, g = n - k ∧ k ≤ n - 1 ∧ i = .int .i64 (k + 1 : Nat) ∧ s = .int .i64 (leastTo T l k) ∧ ∃ z, wr = xt (w.alloc (.cells (tab T) 44)) z)
  case atStart => exact ⟨0, rfl, by omega, rfl, rfl, ext_of_below (by repeat (first | exact Below.refl _ _ | with_reducible refine Below.drew ?_ | with_reducible refine Below.alloc ?_ (by simp <;> omega) _ | with_reducible refine Below.setCell ?_ (by simp <;> omega) _ | with_reducible refine below_xt ?_ (by simp <;> omega) _ | with_reducible refine below_drewN ?_ _))⟩
  case round =>
    obtain ⟨k, rfl, hk, rfl, rfl, z, rfl⟩ := hrel
    by_cases hlt : k + 1 < n
    · obtain ⟨b, off, rfl, hb, hcell⟩ := SlI.at H.out hlt
      have hc := hcell k (by omega)
      have hc' := hcell (k + 1) (by omega)
      clear hcell
      have g1 := clsL_zero C0.out k (by rw [HL.out]; omega)
      have g2 := clsL_zero C0.out (k + 1) (by rw [HL.out]; omega)
      have g3 := step_bd T0.out C0.out (i := k) (by rw [HL.out]; omega)
      have g4 := least_bd T0.out C0.out k (by rw [HL.out]; omega)
      have hs : stepT T l k = T ((l[k]?.getD 0).toNat * 4 + (l[k + 1]?.getD 0).toNat) := rfl
      obtain ⟨x, hx⟩ := Int.eq_ofNat_of_zero_le g1.1
      obtain ⟨y, hy⟩ := Int.eq_ofNat_of_zero_le g2.1
      rw [hx] at hc g1
      rw [hy] at hc' g2
      rw [hs, hx, hy, Int.toNat_natCast, Int.toNat_natCast] at g3
      have hs' : leastTo T l (k + 1) = leastTo T l k + T (x * 4 + y) := by simp only [leastTo]; rw [hs, hx, hy, Int.toNat_natCast, Int.toNat_natCast]
      have HS := Lib.hid hs'
      clear hs hs' hx hy
      generalize hS : leastTo T l k = S at *
      have hxx : (T (x * 4 + y) != T (x * 4 + y)) = false := by simp
      go_wp2
      (refine wp_region_ext (by kernel_rfl) (by kernel_rfl) ?_; (repeat (go_big_quiet_step ((go_at_call 29; exact quiet_ext (GX _ _ _ (by omega) (by omega)).out)))); refine wpQuiet_nil ?_; intro _ hw'; obtain ⟨z5, hw''⟩ := hw'; subst hw'')
      go_wp2
      (refine wp_region_ext (by kernel_rfl) (by kernel_rfl) ?_; (repeat (go_big_quiet_step ((fail)))); refine wpQuiet_nil ?_; intro _ hw'; obtain ⟨z6, hw''⟩ := hw'; subst hw'')
      go_wp2
      go_roundg (n - (k + 1))
      case measure => omega
      case rel => exact ⟨k + 1, rfl, by omega, by go_num, by rw [HS.out], ext_of_below (by repeat (first | exact Below.refl _ _ | with_reducible refine Below.drew ?_ | with_reducible refine Below.alloc ?_ (by simp <;> omega) _ | with_reducible refine Below.setCell ?_ (by simp <;> omega) _ | with_reducible refine below_xt ?_ (by simp <;> omega) _ | with_reducible refine below_drewN ?_ _))⟩
    · have ek : (leastTo T l (n - 1) == leastTo T l k) = true := by rw [show n - 1 = k by omega]; simp
      go_wp2
      refine fin2 (by simp [results, Try.results6, go_sem]; rfl) ?_ rfl (by repeat (first | exact Below.refl _ _ | with_reducible refine Below.drew ?_ | with_reducible refine Below.alloc ?_ (by simp <;> omega) _ | with_reducible refine Below.setCell ?_ (by simp <;> omega) _ | with_reducible refine below_xt ?_ (by simp <;> omega) _ | with_reducible refine below_drewN ?_ _))
      rfl

theorem wgaps_walk (T : Nat → Int) (A : Option Addr) (n c : Nat) (l : List Int) (w : World) (hl : l.length = n) (hn : n ≤ maxLen) (h : SlI w A n l) :
    Calls Try.prog 6 #[.agg (tab T), .slice A n c] w (Ret (.bool true) w) := by
  by_cases hz : clsErr T l = 0
  · exact wgaps_good T A n c l w hl hn h hz
  · exact wgaps_bad T A n c l w hl hn h hz
end Go.Proofs.Ytnmepkcbpkcegaa
