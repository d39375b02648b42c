/- Package wake: classes, Gap, Least, Standard. -/
import Derived.Test.YtnmepkcbpkcegaaWake2
namespace Go.Proofs.Ytnmepkcbpkcegaa
open Go.RowKit
attribute [local go_sem] xt_size xt_cell xt_frozen xt_setCell xt_drew xt_drewN tab_get tab_size
attribute [local go_sem] cell_alloc_ite frozen_alloc_ite setCell_alloc_ite

noncomputable def clsErr (T : Nat → Int) (l : List Int) : Int := if tabErr T ≠ 0 then tabErr T else if 256 < l.length then 2 else clsL l

set_option maxHeartbeats 1000000 in
theorem classes_any (T : Nat → Int) (A : Option Addr) (n c : Nat) (l : List Int) (w : World) (hl : l.length = n) (hn : n ≤ maxLen) (h : SlI w A n l) :
    Calls Try.prog 66 #[.agg (tab T), .slice A n c] w (Ret (.int .i64 (clsErr T l)) w) := by
  unfold maxLen at hn
  by_cases h0 : tabErr T = 0
  · have h0' : (tabErr T != 0) = false := by simp [h0]
    by_cases h1 : 256 < n
    · have e : clsErr T l = 2 := by unfold clsErr; rw [if_neg (by simp [h0]), if_pos (by omega)]
      rw [e]
      clear h0 hl h
      go_enter Try.func66, Try.ntmps66
      go_wp2_with (first | (refine wpList_load_row rfl 44 _ rfl w.heap.size rfl 44 (tab T) (0, 0) _ (heap_alloc_new w _) Try.underlying44 rfl (by rw [tab_size]; kernel_rfl) ?_) | (go_at_call 27; refine (wcheck _ _).mono ?_; rintro e w1 ⟨rfl, zw1, rfl⟩))
      refine fin2 (by simp [results, Try.results66, go_sem]; rfl) ?_ rfl (by repeat (first | exact Below.refl _ _ | with_reducible refine Below.drew ?_ | with_reducible refine Below.alloc ?_ (by simp <;> omega) _ | with_reducible refine Below.setCell ?_ (by simp <;> omega) _ | with_reducible refine below_xt ?_ (by simp <;> omega) _ | with_reducible refine below_drewN ?_ _))
      rfl
    · have e : clsErr T l = clsL l := by unfold clsErr; rw [if_neg (by simp [h0]), if_neg (by omega)]
      rw [e]
      have HL := Lib.hid hl
      have H := Lib.hid h
      clear h0 hl h e
      go_enter Try.func66, Try.ntmps66
      go_wp2_with (first | (refine wpList_load_row rfl 44 _ rfl w.heap.size rfl 44 (tab T) (0, 0) _ (heap_alloc_new w _) Try.underlying44 rfl (by rw [tab_size]; kernel_rfl) ?_) | (go_at_call 27; refine (wcheck _ _).mono ?_; rintro e w1 ⟨rfl, zw1, rfl⟩))
      go_loopg [19] n (fun g i wr => ∃ k : Nat, g = n - k ∧ k ≤ n ∧ i = .int .i64 k ∧ (∀ i, i < k → 0 ≤ l[i]?.getD 0 ∧ l[i]?.getD 0 ≤ 3) ∧ ∃ z, wr = xt w z)
      case atStart => exact ⟨0, rfl, by omega, rfl, by omega, ext_of_below (by repeat (first | exact Below.refl _ _ | with_reducible refine Below.drew ?_ | with_reducible refine Below.alloc ?_ (by simp <;> omega) _ | with_reducible refine Below.setCell ?_ (by simp <;> omega) _ | with_reducible refine below_xt ?_ (by simp <;> omega) _ | with_reducible refine below_drewN ?_ _))⟩
      case round =>
        obtain ⟨k, rfl, hk, rfl, hok, z, rfl⟩ := hrel
        have Hok := Lib.hid hok
        clear hok
        by_cases hlt : k < n
        · obtain ⟨b, off, rfl, hb, hcell⟩ := SlI.at H.out hlt
          have hc := hcell k hlt
          clear hcell
          by_cases hg : 0 ≤ l[k]?.getD 0 ∧ l[k]?.getD 0 ≤ 3
          · have he : (classE (l[k]?.getD 0) != 0) = false := by unfold classE; rw [if_neg (by omega)]; rfl
            go_wp2_with (go_at_call 30; refine (class_any _ _).mono ?_; rintro e w1 ⟨rfl, zw1, rfl⟩)
            go_roundg (n - (k + 1))
            case measure => omega
            case rel => exact ⟨k + 1, rfl, by omega, by go_num, fun i hi => (by
              by_cases e : i = k
              · subst e; exact hg
              · exact Hok.out i (by omega)), ext_of_below (by repeat (first | exact Below.refl _ _ | with_reducible refine Below.drew ?_ | with_reducible refine Below.alloc ?_ (by simp <;> omega) _ | with_reducible refine Below.setCell ?_ (by simp <;> omega) _ | with_reducible refine below_xt ?_ (by simp <;> omega) _ | with_reducible refine below_drewN ?_ _))⟩
          · have he0 : classE (l[k]?.getD 0) = 1 := by unfold classE; rw [if_pos (by omega)]
            have hV : clsL l = 1 := clsL_bad (k := k) (by rw [HL.out]; exact hlt) hg
            rw [hV]
            clear hV
            go_wp2_with (go_at_call 30; refine (class_any _ _).mono ?_; rintro e w1 ⟨rfl, zw1, rfl⟩)
            refine fin2 (by simp [results, Try.results66, go_sem]; rfl) ?_ rfl (by repeat (first | exact Below.refl _ _ | with_reducible refine Below.drew ?_ | with_reducible refine Below.alloc ?_ (by simp <;> omega) _ | with_reducible refine Below.setCell ?_ (by simp <;> omega) _ | with_reducible refine below_xt ?_ (by simp <;> omega) _ | with_reducible refine below_drewN ?_ _))
            rfl
        · go_wp2
          refine fin2 (by simp [results, Try.results66, go_sem]; rfl) ?_ rfl (by repeat (first | exact Below.refl _ _ | with_reducible refine Below.drew ?_ | with_reducible refine Below.alloc ?_ (by simp <;> omega) _ | with_reducible refine Below.setCell ?_ (by simp <;> omega) _ | with_reducible refine below_xt ?_ (by simp <;> omega) _ | with_reducible refine below_drewN ?_ _))
          rw [clsL_good (fun i hi => Hok.out i (by rw [HL.out] at hi; omega))]
  · have h0' : (tabErr T != 0) = true := by simp [h0]
    have e : clsErr T l = tabErr T := by unfold clsErr; rw [if_pos h0]
    rw [e]
    clear h0 hl h e
    go_enter Try.func66, Try.ntmps66
    go_wp2_with (first | (refine wpList_load_row rfl 44 _ rfl w.heap.size rfl 44 (tab T) (0, 0) _ (heap_alloc_new w _) Try.underlying44 rfl (by rw [tab_size]; kernel_rfl) ?_) | (go_at_call 27; refine (wcheck _ _).mono ?_; rintro e w1 ⟨rfl, zw1, rfl⟩))
    refine fin2 (by simp [results, Try.results66, go_sem]; rfl) ?_ rfl (by repeat (first | exact Below.refl _ _ | with_reducible refine Below.drew ?_ | with_reducible refine Below.alloc ?_ (by simp <;> omega) _ | with_reducible refine Below.setCell ?_ (by simp <;> omega) _ | with_reducible refine below_xt ?_ (by simp <;> omega) _ | with_reducible refine below_drewN ?_ _))
    rfl

noncomputable def gapV (T : Nat → Int) (a b : Int) : Value := if clsErr T [a, b] = 0 then .tuple #[.int .i64 (T (a.toNat * 4 + b.toNat)), .int .i64 0] else .tuple #[.int .i64 0, .int .i64 (clsErr T [a, b])]

theorem cls_two {T : Nat → Int} {a b : Int} (h : clsErr T [a, b] = 0) : tabErr T = 0 ∧ (0 ≤ a ∧ a ≤ 3) ∧ 0 ≤ b ∧ b ≤ 3 := by
  unfold clsErr at h
  by_cases h0 : tabErr T = 0
  · rw [if_neg (by simp [h0]), if_neg (by simp)] at h
    have := clsL_zero h
    exact ⟨h0, by simpa using this 0 (by simp), by simpa using this 1 (by simp)⟩
  · rw [if_pos h0] at h; exact absurd h h0

theorem sl_two (w : World) (a b : Int) (t : TypeId) (B : Nat) (hB : B = w.heap.size) : SlI (w.alloc (.cells #[.int .i64 a, .int .i64 b] t)) (some ⟨B, 0, none⟩) 2 [a, b] := by
  subst hB
  exact Sl.lit w _ t fun i j hi hj => by
    obtain rfl : j = 0 := by omega
    have : i = 0 ∨ i = 1 := by omega
    rcases this with rfl | rfl <;> rfl

set_option maxHeartbeats 1000000 in
theorem gap_any (T : Nat → Int) (a b : Int) (w : World) : Calls Try.prog 29 #[.agg (tab T), .int .i64 a, .int .i64 b] w (Ret (gapV T a b) w) := by
  by_cases h : clsErr T [a, b] = 0
  · obtain ⟨h0, ⟨ha0, ha1⟩, hb0, hb1⟩ := cls_two h
    have hV : gapV T a b = .tuple #[.int .i64 (T (a.toNat * 4 + b.toNat)), .int .i64 0] := by unfold gapV; rw [if_pos h]
    rw [hV]
    have h' : (clsErr T [a, b] != 0) = false := by simp [h]
    clear hV h h0
    obtain ⟨a, rfl⟩ := Int.eq_ofNat_of_zero_le ha0
    obtain ⟨b, rfl⟩ := Int.eq_ofNat_of_zero_le hb0
    go_enter Try.func29, Try.ntmps29
    go_wp2_with (first | (refine wpList_load_row rfl 44 _ rfl w.heap.size rfl 44 (tab T) (0, 0) _ (heap_alloc_new w _) Try.underlying44 rfl (by rw [tab_size]; kernel_rfl) ?_) | (go_at_call 66; refine (classes_any _ _ 2 2 [(a : Int), (b : Int)] _ rfl (by unfold maxLen; omega) (by exact sl_two _ _ _ _ _ (by simp))).mono ?_; rintro e w1 ⟨rfl, zw1, rfl⟩))
    refine fin2 (by simp [results, Try.results29, go_sem]; rfl) ?_ rfl (by repeat (first | exact Below.refl _ _ | with_reducible refine Below.drew ?_ | with_reducible refine Below.alloc ?_ (by simp <;> omega) _ | with_reducible refine Below.setCell ?_ (by simp <;> omega) _ | with_reducible refine below_xt ?_ (by simp <;> omega) _ | with_reducible refine below_drewN ?_ _))
    rfl
  · have hV : gapV T a b = .tuple #[.int .i64 0, .int .i64 (clsErr T [a, b])] := by unfold gapV; rw [if_neg h]
    rw [hV]
    have h' : (clsErr T [a, b] != 0) = true := by simp [h]
    clear hV h
    go_enter Try.func29, Try.ntmps29
    go_wp2_with (first | (refine wpList_load_row rfl 44 _ rfl w.heap.size rfl 44 (tab T) (0, 0) _ (heap_alloc_new w _) Try.underlying44 rfl (by rw [tab_size]; kernel_rfl) ?_) | (go_at_call 66; refine (classes_any _ _ 2 2 [a, b] _ rfl (by unfold maxLen; omega) (by exact sl_two _ _ _ _ _ (by simp))).mono ?_; rintro e w1 ⟨rfl, zw1, rfl⟩))
    refine fin2 (by simp [results, Try.results29, go_sem]; rfl) ?_ rfl (by repeat (first | exact Below.refl _ _ | with_reducible refine Below.drew ?_ | with_reducible refine Below.alloc ?_ (by simp <;> omega) _ | with_reducible refine Below.setCell ?_ (by simp <;> omega) _ | with_reducible refine below_xt ?_ (by simp <;> omega) _ | with_reducible refine below_drewN ?_ _))
    rfl

def stdT (i : Nat) : Int := ([60, 60, 60, 60, 120, 60, 60, 60, 180, 120, 90, 60, 240, 180, 120, 120] : List Int).getD i 0
set_option maxRecDepth 100000 in
theorem standard_any (w : World) : Calls Try.prog 65 #[] w (Ret (.agg (tab stdT)) w) := by
  go_enter Try.func65, Try.ntmps65
  go_wp2
  refine fin2 (by simp [results, Try.results65, go_sem]; rfl) ?_ rfl (by repeat (first | exact Below.refl _ _ | with_reducible refine Below.drew ?_ | with_reducible refine Below.alloc ?_ (by simp <;> omega) _ | with_reducible refine Below.setCell ?_ (by simp <;> omega) _ | with_reducible refine below_xt ?_ (by simp <;> omega) _ | with_reducible refine below_drewN ?_ _))
  rfl
end Go.Proofs.Ytnmepkcbpkcegaa
