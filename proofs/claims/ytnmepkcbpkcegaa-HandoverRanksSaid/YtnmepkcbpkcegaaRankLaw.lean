/- The walk of the law HandoverRanks. -/
import Derived.Test.YtnmepkcbpkcegaaHandLaws
namespace Go.Proofs.Ytnmepkcbpkcegaa
open Go.RowKit
attribute [local go_sem] xt_size xt_cell xt_frozen xt_setCell xt_drew xt_drewN
attribute [local go_sem] cell_alloc_ite frozen_alloc_ite setCell_alloc_ite

set_option maxRecDepth 100000 in
set_option maxHeartbeats 4000000 in
theorem ranks_bad (s c t d : Int) (w : World) (h : respErr s c t d ≠ 0) : Calls Try.prog 5 #[.agg #[.int .i64 s, .int .i64 c], .agg #[.int .i64 t, .int .i64 d]] w (Ret (.bool true) w) := by
  have e1 : respV s c t d = .tuple #[.int .i64 0, .int .i64 (respErr s c t d)] := by unfold respV; rw [if_pos h]
  by_cases h1 : sideErr s c = 0
  · have he : respErr s c t d = sideErr t d := by unfold respErr; rw [if_neg (by simp [h1])]
    rw [he] at e1 h
    have h1' : (sideErr s c == 0) = true := by simp [h1]
    have h2' : (sideErr t d != 0) = true := by simp [h]
    clear h h1 he
    go_enter Try.func5, Try.ntmps5
    go_wp2_with (first | (go_at_call 14; refine (handFact _).mono ?_; rintro e w1 ⟨rfl, zw1, rfl⟩) | (go_at_call 21; refine (resp_any _ _ _ _ _).mono ?_; rintro e w2 ⟨rfl, zw2, rfl⟩) | (go_at_call 17; refine (sideError_any _ _ _).mono ?_; rintro e w4 ⟨rfl, zw4, rfl⟩))
    refine fin2 (by simp [results, Try.results5, go_sem]; rfl) ?_ rfl (by repeat (first | exact Below.refl _ _ | with_reducible refine Below.drew ?_ | with_reducible refine Below.alloc ?_ (by simp <;> omega) _ | with_reducible refine Below.setCell ?_ (by simp <;> omega) _ | with_reducible refine below_xt ?_ (by simp <;> omega) _ | with_reducible refine below_drewN ?_ _))
    rfl
  · have he : respErr s c t d = sideErr s c := by unfold respErr; rw [if_pos h1]
    rw [he] at e1 h
    have h1' : (sideErr s c == 0) = false := by simp [h1]
    have h2' : (sideErr s c != 0) = true := by simp [h]
    clear h h1 he
    go_enter Try.func5, Try.ntmps5
    go_wp2_with (first | (go_at_call 14; refine (handFact _).mono ?_; rintro e w1 ⟨rfl, zw1, rfl⟩) | (go_at_call 21; refine (resp_any _ _ _ _ _).mono ?_; rintro e w2 ⟨rfl, zw2, rfl⟩) | (go_at_call 17; refine (sideError_any _ _ _).mono ?_; rintro e w4 ⟨rfl, zw4, rfl⟩))
    refine fin2 (by simp [results, Try.results5, go_sem]; rfl) ?_ rfl (by repeat (first | exact Below.refl _ _ | with_reducible refine Below.drew ?_ | with_reducible refine Below.alloc ?_ (by simp <;> omega) _ | with_reducible refine Below.setCell ?_ (by simp <;> omega) _ | with_reducible refine below_xt ?_ (by simp <;> omega) _ | with_reducible refine below_drewN ?_ _))
    rfl

set_option maxRecDepth 100000 in
set_option maxHeartbeats 4000000 in
theorem ranks_less (s c t d : Int) (w : World) (h1 : sideErr s c = 0) (h2 : sideErr t d = 0) (hlt : c < d) : Calls Try.prog 5 #[.agg #[.int .i64 s, .int .i64 c], .agg #[.int .i64 t, .int .i64 d]] w (Ret (.bool true) w) := by
  have e1 : respV s c t d = .tuple #[.int .i64 1, .int .i64 0] := by
    unfold respV
    have r1 : rank s c < rank t d := by unfold rank; split <;> split <;> omega
    rw [if_neg (by simp [respErr, h1, h2]), if_neg (by omega), if_pos r1]
  have h1' : (sideErr s c == 0) = true := by simp [h1]
  have h2' : (sideErr t d != 0) = false := by simp [h2]
  have hcd : (c == d) = false := by simp; omega
  clear h1 h2
  go_enter Try.func5, Try.ntmps5
  go_wp2_with (first | (go_at_call 14; refine (handFact _).mono ?_; rintro e w1 ⟨rfl, zw1, rfl⟩) | (go_at_call 21; refine (resp_any _ _ _ _ _).mono ?_; rintro e w2 ⟨rfl, zw2, rfl⟩) | (go_at_call 17; refine (sideError_any _ _ _).mono ?_; rintro e w4 ⟨rfl, zw4, rfl⟩))
  (refine wp_region_ext (by kernel_rfl) (by kernel_rfl) ?_; (repeat (go_big_quiet_step ((fail)))); refine wpQuiet_nil ?_; intro _ hw'; obtain ⟨z3, hw''⟩ := hw'; subst hw'')
  go_wp2_with fail
  (refine wp_region_ext (by kernel_rfl) (by kernel_rfl) ?_; (repeat (go_big_quiet_step ((go_at_call 23; exact quiet_ext (acts_any _ _ _))))); refine wpQuiet_nil ?_; intro _ hw'; obtain ⟨z4, hw''⟩ := hw'; subst hw'')
  go_wp2
  refine fin2 (by simp [results, Try.results5, go_sem]; rfl) ?_ rfl (by repeat (first | exact Below.refl _ _ | with_reducible refine Below.drew ?_ | with_reducible refine Below.alloc ?_ (by simp <;> omega) _ | with_reducible refine Below.setCell ?_ (by simp <;> omega) _ | with_reducible refine below_xt ?_ (by simp <;> omega) _ | with_reducible refine below_drewN ?_ _))
  simp

set_option maxRecDepth 100000 in
set_option maxHeartbeats 4000000 in
theorem ranks_more (s c t d : Int) (w : World) (h1 : sideErr s c = 0) (h2 : sideErr t d = 0) (hlt : d < c) : Calls Try.prog 5 #[.agg #[.int .i64 s, .int .i64 c], .agg #[.int .i64 t, .int .i64 d]] w (Ret (.bool true) w) := by
  have e1 : respV s c t d = .tuple #[.int .i64 0, .int .i64 0] := by
    unfold respV
    have r1 : rank t d < rank s c := by unfold rank; split <;> split <;> omega
    rw [if_neg (by simp [respErr, h1, h2]), if_pos r1]
  have h1' : (sideErr s c == 0) = true := by simp [h1]
  have h2' : (sideErr t d != 0) = false := by simp [h2]
  have hcd : (c == d) = false := by simp; omega
  have hdc : (d == c) = false := by simp; omega
  have hdd : decide (c < d) = false := by simp; omega
  clear h1 h2
  go_enter Try.func5, Try.ntmps5
  go_wp2_with (first | (go_at_call 14; refine (handFact _).mono ?_; rintro e w1 ⟨rfl, zw1, rfl⟩) | (go_at_call 21; refine (resp_any _ _ _ _ _).mono ?_; rintro e w2 ⟨rfl, zw2, rfl⟩) | (go_at_call 17; refine (sideError_any _ _ _).mono ?_; rintro e w4 ⟨rfl, zw4, rfl⟩))
  (refine wp_region_ext (by kernel_rfl) (by kernel_rfl) ?_; (repeat (go_big_quiet_step ((fail)))); refine wpQuiet_nil ?_; intro _ hw'; obtain ⟨z3, hw''⟩ := hw'; subst hw'')
  go_wp2_with fail
  (refine wp_region_ext (by kernel_rfl) (by kernel_rfl) ?_; (repeat (go_big_quiet_step ((go_at_call 23; exact quiet_ext (acts_any _ _ _))))); refine wpQuiet_nil ?_; intro _ hw'; obtain ⟨z4, hw''⟩ := hw'; subst hw'')
  go_wp2
  refine fin2 (by simp [results, Try.results5, go_sem]; rfl) ?_ rfl (by repeat (first | exact Below.refl _ _ | with_reducible refine Below.drew ?_ | with_reducible refine Below.alloc ?_ (by simp <;> omega) _ | with_reducible refine Below.setCell ?_ (by simp <;> omega) _ | with_reducible refine below_xt ?_ (by simp <;> omega) _ | with_reducible refine below_drewN ?_ _))
  simp

set_option maxRecDepth 100000 in
set_option maxHeartbeats 4000000 in
theorem ranks_same (s c t : Int) (w : World) (h1 : sideErr s c = 0) (h2 : sideErr t c = 0) (hs : (s == 1 || s == 2) = (t == 1 || t == 2)) : Calls Try.prog 5 #[.agg #[.int .i64 s, .int .i64 c], .agg #[.int .i64 t, .int .i64 c]] w (Ret (.bool true) w) := by
  have e1 : respV s c t c = .tuple #[.int .i64 0, .int .i64 11] := by
    unfold respV
    have b1 := side_bd h1
    have b2 := side_bd h2
    have r1 : rank t c = rank s c := by
      have : s = 0 ↔ t = 0 := by
        have a1 : s = 0 ∨ s = 1 ∨ s = 2 := by omega
        have a2 : t = 0 ∨ t = 1 ∨ t = 2 := by omega
        rcases a1 with rfl | rfl | rfl <;> rcases a2 with rfl | rfl | rfl <;> simp_all
      unfold rank; split <;> split <;> omega
    rw [if_neg (by simp [respErr, h1, h2]), if_neg (by omega), if_neg (by omega)]
  have h1' : (sideErr s c == 0) = true := by simp [h1]
  have h2' : (sideErr t c != 0) = false := by simp [h2]
  have hq : ((s == 1 || s == 2) == (t == 1 || t == 2)) = true := by simp [hs]
  clear h1 h2 hs
  go_enter Try.func5, Try.ntmps5
  go_wp2_with (first | (go_at_call 14; refine (handFact _).mono ?_; rintro e w1 ⟨rfl, zw1, rfl⟩) | (go_at_call 21; refine (resp_any _ _ _ _ _).mono ?_; rintro e w2 ⟨rfl, zw2, rfl⟩) | (go_at_call 17; refine (sideError_any _ _ _).mono ?_; rintro e w4 ⟨rfl, zw4, rfl⟩))
  (refine wp_region_ext (by kernel_rfl) (by kernel_rfl) ?_; (repeat (go_big_quiet_step ((go_at_call 22; exact quiet_ext (awake_any _ _ _))))); refine wpQuiet_nil ?_; intro _ hw'; obtain ⟨z3, hw''⟩ := hw'; subst hw'')
  go_wp2_with fail
  refine fin2 (by simp [results, Try.results5, go_sem]; rfl) ?_ rfl (by repeat (first | exact Below.refl _ _ | with_reducible refine Below.drew ?_ | with_reducible refine Below.alloc ?_ (by simp <;> omega) _ | with_reducible refine Below.setCell ?_ (by simp <;> omega) _ | with_reducible refine below_xt ?_ (by simp <;> omega) _ | with_reducible refine below_drewN ?_ _))
  rfl

set_option maxRecDepth 100000 in
set_option maxHeartbeats 4000000 in
theorem ranks_apart (s c t : Int) (b : Bool) (w : World) (h1 : sideErr s c = 0) (h2 : sideErr t c = 0) (hs : (s == 1 || s == 2) = b) (ht : (t == 1 || t == 2) = !b) : Calls Try.prog 5 #[.agg #[.int .i64 s, .int .i64 c], .agg #[.int .i64 t, .int .i64 c]] w (Ret (.bool true) w) := by
  have e1 : respV s c t c = .tuple #[.int .i64 (if b then 0 else 1), .int .i64 0] := by
    unfold respV
    have b1 := side_bd h1
    have b2 := side_bd h2
    rw [if_neg (by simp [respErr, h1, h2])]
    cases b
    · have e0 : s = 0 := by simp at hs; omega
      have e1 : t ≠ 0 := by intro e; subst e; simp at ht
      rw [if_neg (by unfold rank; rw [if_neg e1, if_pos e0]; omega), if_pos (by unfold rank; rw [if_neg e1, if_pos e0]; omega)]
      rfl
    · have e0 : t = 0 := by simp at ht; omega
      have e1 : s ≠ 0 := by intro e; subst e; simp at hs
      rw [if_pos (by unfold rank; rw [if_neg e1, if_pos e0]; omega)]
      rfl
  have h1' : (sideErr s c == 0) = true := by simp [h1]
  have h2' : (sideErr t c != 0) = false := by simp [h2]
  have hq : ((s == 1 || s == 2) == (t == 1 || t == 2)) = false := by rw [hs, ht]; cases b <;> rfl
  clear h1 h2
  have hcc : ¬ c < c := by omega
  cases b
  all_goals
    simp only [Bool.not_true, Bool.not_false, if_true, Bool.false_eq_true, if_false] at e1 ht
    go_enter Try.func5, Try.ntmps5
    go_wp2_with (first | (go_at_call 14; refine (handFact _).mono ?_; rintro e w1 ⟨rfl, zw1, rfl⟩) | (go_at_call 21; refine (resp_any _ _ _ _ _).mono ?_; rintro e w2 ⟨rfl, zw2, rfl⟩) | (go_at_call 17; refine (sideError_any _ _ _).mono ?_; rintro e w4 ⟨rfl, zw4, rfl⟩))
    (refine wp_region_ext (by kernel_rfl) (by kernel_rfl) ?_; (repeat (go_big_quiet_step ((go_at_call 22; exact quiet_ext (awake_any _ _ _))))); refine wpQuiet_nil ?_; intro _ hw'; obtain ⟨z3, hw''⟩ := hw'; subst hw'')
    go_wp2_with (go_at_call 22; refine (awake_any _ _ _).mono ?_; rintro e w8 ⟨rfl, zw8, rfl⟩)
    (refine wp_region_ext (by kernel_rfl) (by kernel_rfl) ?_; (repeat (go_big_quiet_step ((go_at_call 23; exact quiet_ext (acts_any _ _ _))))); refine wpQuiet_nil ?_; intro _ hw'; obtain ⟨z4, hw''⟩ := hw'; subst hw'')
    go_wp2
    refine fin2 (by simp [results, Try.results5, go_sem]; rfl) ?_ rfl (by repeat (first | exact Below.refl _ _ | with_reducible refine Below.drew ?_ | with_reducible refine Below.alloc ?_ (by simp <;> omega) _ | with_reducible refine Below.setCell ?_ (by simp <;> omega) _ | with_reducible refine below_xt ?_ (by simp <;> omega) _ | with_reducible refine below_drewN ?_ _))
    simp

theorem ranks_walk (s c t d : Int) (w : World) : Calls Try.prog 5 #[.agg #[.int .i64 s, .int .i64 c], .agg #[.int .i64 t, .int .i64 d]] w (Ret (.bool true) w) := by
  by_cases h : respErr s c t d = 0
  · have h1 : sideErr s c = 0 := by
      unfold respErr at h
      by_cases h1 : sideErr s c = 0
      · exact h1
      · rw [if_pos h1] at h; exact h
    have h2 : sideErr t d = 0 := by
      unfold respErr at h
      rw [if_neg (by simp [h1])] at h; exact h
    rcases Int.lt_trichotomy c d with hlt | rfl | hlt
    · exact ranks_less s c t d w h1 h2 hlt
    · rcases hb : (t == 1 || t == 2) with _ | _ <;> rcases ha : (s == 1 || s == 2) with _ | _
      · exact ranks_same s c t w h1 h2 (by rw [ha, hb])
      · exact ranks_apart s c t true w h1 h2 ha (by rw [hb]; rfl)
      · exact ranks_apart s c t false w h1 h2 ha (by rw [hb]; rfl)
      · exact ranks_same s c t w h1 h2 (by rw [ha, hb])
    · exact ranks_more s c t d w h1 h2 hlt
  · exact ranks_bad s c t d w h

theorem hears_walk (s c : Int) (a : Bool) (n : Int) (w : World) : Calls Try.prog 4 #[.agg #[.int .i64 s, .int .i64 c], .agg #[.bool a, .int .i64 n]] w (Ret (.bool true) w) := by
  by_cases h : hearErr s c n = 0
  · exact hears_good s c a n w h
  · exact hears_bad s c a n w h
end Go.Proofs.Ytnmepkcbpkcegaa
