/- The walks of the laws HandoverGives, HandoverHears and HandoverRanks: each returns true and touches nothing that lay there. -/
import Derived.Test.YtnmepkcbpkcegaaHandFact
namespace Go.Proofs.Ytnmepkcbpkcegaa
open Go.RowKit
attribute [local go_sem] xt_size xt_cell xt_frozen xt_setCell xt_drew xt_drewN
attribute [local go_sem] cell_alloc_ite frozen_alloc_ite setCell_alloc_ite

set_option maxRecDepth 100000 in
set_option maxHeartbeats 4000000 in
theorem gives_walk (s c : Int) (w : World) : Calls Try.prog 3 #[.agg #[.int .i64 s, .int .i64 c]] w (Ret (.bool true) w) := by
  by_cases h : sideErr s c = 0
  · have hb := side_bd h
    have h1 : s = 0 ∨ s = 1 ∧ c = 2000 ∨ s = 1 ∧ c < 2000 ∨ s = 2 := by omega
    rcases h1 with rfl | ⟨rfl, rfl⟩ | ⟨rfl, hc⟩ | rfl
    · have e1 : giveV 0 c = .tuple #[.agg #[.int .i64 0, .int .i64 0], .agg #[.bool false, .int .i64 0], .int .i64 11] := by simp [giveV, giveErr, h] <;> omega
      have e2 : againV 0 c = .tuple #[.agg #[.bool false, .int .i64 0], .int .i64 11] := by simp [againV, againErr, h] <;> omega
      go_enter Try.func3, Try.ntmps3
      go_wp2_with (first | (go_at_call 14; refine (handFact _).mono ?_; rintro e w1 ⟨rfl, zw1, rfl⟩) | (go_at_call 15; refine (give_any _ _ _).mono ?_; rintro e w2 ⟨rfl, zw2, rfl⟩) | (go_at_call 16; refine (again_any _ _ _).mono ?_; rintro e w3 ⟨rfl, zw3, rfl⟩) | (go_at_call 17; refine (sideError_any _ _ _).mono ?_; rintro e w4 ⟨rfl, zw4, rfl⟩) | (go_at_call 18; refine (hcheck _ _ _).mono ?_; rintro e w7 ⟨rfl, zw7, rfl⟩))
      refine fin2 (by simp [results, Try.results3, go_sem]; rfl) ?_ rfl (by repeat (first | exact Below.refl _ _ | with_reducible refine Below.drew ?_ | with_reducible refine Below.alloc ?_ (by simp <;> omega) _ | with_reducible refine Below.setCell ?_ (by simp <;> omega) _ | with_reducible refine below_xt ?_ (by simp <;> omega) _ | with_reducible refine below_drewN ?_ _))
      rfl
    · have e1 : giveV 1 2000 = .tuple #[.agg #[.int .i64 0, .int .i64 0], .agg #[.bool false, .int .i64 0], .int .i64 2] := by simp [giveV, giveErr, h] <;> omega
      have e2 : againV 1 2000 = .tuple #[.agg #[.bool false, .int .i64 0], .int .i64 11] := by simp [againV, againErr, h] <;> omega
      go_enter Try.func3, Try.ntmps3
      go_wp2_with (first | (go_at_call 14; refine (handFact _).mono ?_; rintro e w1 ⟨rfl, zw1, rfl⟩) | (go_at_call 15; refine (give_any _ _ _).mono ?_; rintro e w2 ⟨rfl, zw2, rfl⟩) | (go_at_call 16; refine (again_any _ _ _).mono ?_; rintro e w3 ⟨rfl, zw3, rfl⟩) | (go_at_call 17; refine (sideError_any _ _ _).mono ?_; rintro e w4 ⟨rfl, zw4, rfl⟩) | (go_at_call 18; refine (hcheck _ _ _).mono ?_; rintro e w7 ⟨rfl, zw7, rfl⟩))
      refine fin2 (by simp [results, Try.results3, go_sem]; rfl) ?_ rfl (by repeat (first | exact Below.refl _ _ | with_reducible refine Below.drew ?_ | with_reducible refine Below.alloc ?_ (by simp <;> omega) _ | with_reducible refine Below.setCell ?_ (by simp <;> omega) _ | with_reducible refine below_xt ?_ (by simp <;> omega) _ | with_reducible refine below_drewN ?_ _))
      rfl
    · have e1 : giveV 1 c = .tuple #[.agg #[.int .i64 2, .int .i64 c], .agg #[.bool false, .int .i64 (c + 1)], .int .i64 0] := by simp [giveV, giveErr, h] <;> omega
      have e2 : againV 1 c = .tuple #[.agg #[.bool false, .int .i64 0], .int .i64 11] := by simp [againV, againErr, h] <;> omega
      go_enter Try.func3, Try.ntmps3
      go_wp2_with (first | (go_at_call 14; refine (handFact _).mono ?_; rintro e w1 ⟨rfl, zw1, rfl⟩) | (go_at_call 15; refine (give_any _ _ _).mono ?_; rintro e w2 ⟨rfl, zw2, rfl⟩) | (go_at_call 16; refine (again_any _ _ _).mono ?_; rintro e w3 ⟨rfl, zw3, rfl⟩) | (go_at_call 17; refine (sideError_any _ _ _).mono ?_; rintro e w4 ⟨rfl, zw4, rfl⟩) | (go_at_call 18; refine (hcheck _ _ _).mono ?_; rintro e w7 ⟨rfl, zw7, rfl⟩))
      refine fin2 (by simp [results, Try.results3, go_sem]; rfl) ?_ rfl (by repeat (first | exact Below.refl _ _ | with_reducible refine Below.drew ?_ | with_reducible refine Below.alloc ?_ (by simp <;> omega) _ | with_reducible refine Below.setCell ?_ (by simp <;> omega) _ | with_reducible refine below_xt ?_ (by simp <;> omega) _ | with_reducible refine below_drewN ?_ _))
      rfl
    · have e1 : giveV 2 c = .tuple #[.agg #[.int .i64 0, .int .i64 0], .agg #[.bool false, .int .i64 0], .int .i64 11] := by simp [giveV, giveErr, h] <;> omega
      have e2 : againV 2 c = .tuple #[.agg #[.bool false, .int .i64 (c + 1)], .int .i64 0] := by simp [againV, againErr, h] <;> omega
      go_enter Try.func3, Try.ntmps3
      go_wp2_with (first | (go_at_call 14; refine (handFact _).mono ?_; rintro e w1 ⟨rfl, zw1, rfl⟩) | (go_at_call 15; refine (give_any _ _ _).mono ?_; rintro e w2 ⟨rfl, zw2, rfl⟩) | (go_at_call 16; refine (again_any _ _ _).mono ?_; rintro e w3 ⟨rfl, zw3, rfl⟩) | (go_at_call 17; refine (sideError_any _ _ _).mono ?_; rintro e w4 ⟨rfl, zw4, rfl⟩) | (go_at_call 18; refine (hcheck _ _ _).mono ?_; rintro e w7 ⟨rfl, zw7, rfl⟩))
      refine fin2 (by simp [results, Try.results3, go_sem]; rfl) ?_ rfl (by repeat (first | exact Below.refl _ _ | with_reducible refine Below.drew ?_ | with_reducible refine Below.alloc ?_ (by simp <;> omega) _ | with_reducible refine Below.setCell ?_ (by simp <;> omega) _ | with_reducible refine below_xt ?_ (by simp <;> omega) _ | with_reducible refine below_drewN ?_ _))
      rfl
  · have e1 : giveV s c = .tuple #[.agg #[.int .i64 0, .int .i64 0], .agg #[.bool false, .int .i64 0], .int .i64 (sideErr s c)] := by simp [giveV, giveErr, h]
    have e2 : againV s c = .tuple #[.agg #[.bool false, .int .i64 0], .int .i64 (sideErr s c)] := by simp [againV, againErr, h]
    have h1 : (sideErr s c == 0) = false := by simp [h]
    have h2 : (sideErr s c != 0) = true := by simp [h]
    clear h
    go_enter Try.func3, Try.ntmps3
    go_wp2_with (first | (go_at_call 14; refine (handFact _).mono ?_; rintro e w1 ⟨rfl, zw1, rfl⟩) | (go_at_call 15; refine (give_any _ _ _).mono ?_; rintro e w2 ⟨rfl, zw2, rfl⟩) | (go_at_call 16; refine (again_any _ _ _).mono ?_; rintro e w3 ⟨rfl, zw3, rfl⟩) | (go_at_call 17; refine (sideError_any _ _ _).mono ?_; rintro e w4 ⟨rfl, zw4, rfl⟩) | (go_at_call 18; refine (hcheck _ _ _).mono ?_; rintro e w7 ⟨rfl, zw7, rfl⟩))
    refine fin2 (by simp [results, Try.results3, go_sem]; rfl) ?_ rfl (by repeat (first | exact Below.refl _ _ | with_reducible refine Below.drew ?_ | with_reducible refine Below.alloc ?_ (by simp <;> omega) _ | with_reducible refine Below.setCell ?_ (by simp <;> omega) _ | with_reducible refine below_xt ?_ (by simp <;> omega) _ | with_reducible refine below_drewN ?_ _))
    rfl

set_option maxRecDepth 100000 in
set_option maxHeartbeats 4000000 in
theorem hears_bad (s c : Int) (a : Bool) (n : Int) (w : World) (h : hearErr s c n ≠ 0) : Calls Try.prog 4 #[.agg #[.int .i64 s, .int .i64 c], .agg #[.bool a, .int .i64 n]] w (Ret (.bool true) w) := by
  by_cases h1 : sideErr s c = 0
  · have hn : n < 1 ∨ 2000 < n := by
      unfold hearErr at h
      rw [if_neg (by simp [h1])] at h
      by_cases hn : n < 1 ∨ 2000 < n
      · exact hn
      · rw [if_neg hn] at h; exact absurd rfl h
    have he : hearErr s c n = 4 := by unfold hearErr; rw [if_neg (by simp [h1]), if_pos hn]
    have e1 : hearV s c a n = .tuple #[.agg #[.int .i64 0, .int .i64 0], .agg #[.bool false, .int .i64 0], .bool false, .int .i64 4] := by unfold hearV; rw [he, if_pos (by omega)]; rfl
    have h' : (sideErr s c == 0) = true := by simp [h1]
    clear h h1 he
    rcases hn with hn | hn
    · go_enter Try.func4, Try.ntmps4
      go_wp2_with (first | (go_at_call 14; refine (handFact _).mono ?_; rintro e w1 ⟨rfl, zw1, rfl⟩) | (go_at_call 19; refine (hear_any _ _ _ _ _).mono ?_; rintro e w2 ⟨rfl, zw2, rfl⟩) | (go_at_call 17; refine (sideError_any _ _ _).mono ?_; rintro e w4 ⟨rfl, zw4, rfl⟩))
      refine fin2 (by simp [results, Try.results4, go_sem]; rfl) ?_ rfl (by repeat (first | exact Below.refl _ _ | with_reducible refine Below.drew ?_ | with_reducible refine Below.alloc ?_ (by simp <;> omega) _ | with_reducible refine Below.setCell ?_ (by simp <;> omega) _ | with_reducible refine below_xt ?_ (by simp <;> omega) _ | with_reducible refine below_drewN ?_ _))
      rfl
    · have hn' : ¬ n < 1 := by omega
      go_enter Try.func4, Try.ntmps4
      go_wp2_with (first | (go_at_call 14; refine (handFact _).mono ?_; rintro e w1 ⟨rfl, zw1, rfl⟩) | (go_at_call 19; refine (hear_any _ _ _ _ _).mono ?_; rintro e w2 ⟨rfl, zw2, rfl⟩) | (go_at_call 17; refine (sideError_any _ _ _).mono ?_; rintro e w4 ⟨rfl, zw4, rfl⟩))
      refine fin2 (by simp [results, Try.results4, go_sem]; rfl) ?_ rfl (by repeat (first | exact Below.refl _ _ | with_reducible refine Below.drew ?_ | with_reducible refine Below.alloc ?_ (by simp <;> omega) _ | with_reducible refine Below.setCell ?_ (by simp <;> omega) _ | with_reducible refine below_xt ?_ (by simp <;> omega) _ | with_reducible refine below_drewN ?_ _))
      rfl
  · have he : hearErr s c n = sideErr s c := by unfold hearErr; rw [if_pos h1]
    have e1 : hearV s c a n = .tuple #[.agg #[.int .i64 0, .int .i64 0], .agg #[.bool false, .int .i64 0], .bool false, .int .i64 (sideErr s c)] := by unfold hearV; rw [he, if_pos h1]; rfl
    have h' : (sideErr s c == 0) = false := by simp [h1]
    have h'' : (sideErr s c != 0) = true := by simp [h1]
    clear h h1 he
    go_enter Try.func4, Try.ntmps4
    go_wp2_with (first | (go_at_call 14; refine (handFact _).mono ?_; rintro e w1 ⟨rfl, zw1, rfl⟩) | (go_at_call 19; refine (hear_any _ _ _ _ _).mono ?_; rintro e w2 ⟨rfl, zw2, rfl⟩) | (go_at_call 17; refine (sideError_any _ _ _).mono ?_; rintro e w4 ⟨rfl, zw4, rfl⟩))
    refine fin2 (by simp [results, Try.results4, go_sem]; rfl) ?_ rfl (by repeat (first | exact Below.refl _ _ | with_reducible refine Below.drew ?_ | with_reducible refine Below.alloc ?_ (by simp <;> omega) _ | with_reducible refine Below.setCell ?_ (by simp <;> omega) _ | with_reducible refine below_xt ?_ (by simp <;> omega) _ | with_reducible refine below_drewN ?_ _))
    rfl

set_option maxRecDepth 100000 in
set_option maxHeartbeats 8000000 in
theorem hears_good (s c : Int) (a : Bool) (n : Int) (w : World) (h : hearErr s c n = 0) : Calls Try.prog 4 #[.agg #[.int .i64 s, .int .i64 c], .agg #[.bool a, .int .i64 n]] w (Ret (.bool true) w) := by
  obtain ⟨h1, hb, hn⟩ := hear_bds h
  have h' : (sideErr s c == 0) = true := by simp [h1]
  obtain ⟨x, y, m, hm, e1, e2⟩ : ∃ x y m : Int, (m = 0 ∨ 1 ≤ m) ∧ hearV s c a n = .tuple #[.agg #[.int .i64 x, .int .i64 y], .agg #[.bool (m != 0), .int .i64 m], .bool (m != 0), .int .i64 0] ∧ heardV s c a n = .tuple #[.agg #[.int .i64 x, .int .i64 y], .int .i64 m] := by
    cases a
    · rw [hearV_msg h]
      unfold heardV
      rw [if_neg Bool.false_ne_true]
      by_cases k1 : n ≤ c
      · refine ⟨s, c, n, by omega, ?_, ?_⟩
        · rw [if_neg (by omega), if_neg (by omega), if_pos k1]; simp [hearT]; omega
        · rw [if_pos k1]
      · by_cases k2 : s = 0 ∧ n = c + 1 ∨ s = 2 ∧ n = c + 2
        · refine ⟨1, n, n, by omega, ?_, ?_⟩
          · have hv : hearT 1 n true n true 0 = .tuple #[.agg #[.int .i64 1, .int .i64 n], .agg #[.bool (n != 0), .int .i64 n], .bool (n != 0), .int .i64 0] := by simp [hearT]; omega
            rcases k2 with k2 | k2
            · rw [if_neg (by omega), if_pos k2]; exact hv
            · rw [if_pos k2]; exact hv
          · rw [if_neg k1, if_pos k2]
        · refine ⟨s, c, 0, by omega, ?_, ?_⟩
          · rw [if_neg (by omega), if_neg (by omega), if_neg k1]; simp [hearT]
          · rw [if_neg k1, if_neg k2]
    · have hv : hearV s c true n = (if s = 2 ∧ n = c + 1 then hearT 0 n false 0 false 0 else hearT s c false 0 false 0) := by
        unfold hearV; rw [if_neg (by simp [h]), if_pos rfl]
      rw [hv]
      unfold heardV
      rw [if_pos rfl]
      by_cases k1 : s = 2 ∧ n = c + 1
      · rw [if_pos k1, if_pos k1]
        exact ⟨0, n, 0, by omega, by simp [hearT], rfl⟩
      · rw [if_neg k1, if_neg k1]
        exact ⟨s, c, 0, by omega, by simp [hearT], rfl⟩
  clear h h1
  rcases hm with rfl | hm
  · go_enter Try.func4, Try.ntmps4
    go_wp2_with (first | (go_at_call 14; refine (handFact _).mono ?_; rintro e w1 ⟨rfl, zw1, rfl⟩) | (go_at_call 19; refine (hear_any _ _ _ _ _).mono ?_; rintro e w2 ⟨rfl, zw2, rfl⟩) | (go_at_call 17; refine (sideError_any _ _ _).mono ?_; rintro e w4 ⟨rfl, zw4, rfl⟩) | (go_at_call 20; refine (heard_any _ _ _ _ _ (by omega) (by omega)).mono ?_; rintro e w5 ⟨rfl, zw5, rfl⟩))
    refine fin2 (by simp [results, Try.results4, go_sem]; rfl) ?_ rfl (by repeat (first | exact Below.refl _ _ | with_reducible refine Below.drew ?_ | with_reducible refine Below.alloc ?_ (by simp <;> omega) _ | with_reducible refine Below.setCell ?_ (by simp <;> omega) _ | with_reducible refine below_xt ?_ (by simp <;> omega) _ | with_reducible refine below_drewN ?_ _))
    rfl
  · have hm0 : (m == 0) = false := by simp; omega
    have hm1 : (m != 0) = true := by simp; omega
    go_enter Try.func4, Try.ntmps4
    go_wp2_with (first | (go_at_call 14; refine (handFact _).mono ?_; rintro e w1 ⟨rfl, zw1, rfl⟩) | (go_at_call 19; refine (hear_any _ _ _ _ _).mono ?_; rintro e w2 ⟨rfl, zw2, rfl⟩) | (go_at_call 17; refine (sideError_any _ _ _).mono ?_; rintro e w4 ⟨rfl, zw4, rfl⟩) | (go_at_call 20; refine (heard_any _ _ _ _ _ (by omega) (by omega)).mono ?_; rintro e w5 ⟨rfl, zw5, rfl⟩))
    refine fin2 (by simp [results, Try.results4, go_sem]; rfl) ?_ rfl (by repeat (first | exact Below.refl _ _ | with_reducible refine Below.drew ?_ | with_reducible refine Below.alloc ?_ (by simp <;> omega) _ | with_reducible refine Below.setCell ?_ (by simp <;> omega) _ | with_reducible refine below_xt ?_ (by simp <;> omega) _ | with_reducible refine below_drewN ?_ _))
    rfl

theorem awake_any (s c : Int) (w : World) : Calls Try.prog 22 #[.agg #[.int .i64 s, .int .i64 c]] w (Ret (.bool (s == 1 || s == 2)) w) := by
  by_cases h : s = 1
  · subst h
    go_enter Try.func22, Try.ntmps22
    go_wp2
    refine fin2 (by simp [results, Try.results22, go_sem]; rfl) ?_ rfl (by repeat (first | exact Below.refl _ _ | with_reducible refine Below.drew ?_ | with_reducible refine Below.alloc ?_ (by simp <;> omega) _ | with_reducible refine Below.setCell ?_ (by simp <;> omega) _ | with_reducible refine below_xt ?_ (by simp <;> omega) _ | with_reducible refine below_drewN ?_ _))
    rfl
  · have h1 : (s == 1) = false := by simp [h]
    clear h
    go_enter Try.func22, Try.ntmps22
    go_wp2
    refine fin2 (by simp [results, Try.results22, go_sem]; rfl) ?_ rfl (by repeat (first | exact Below.refl _ _ | with_reducible refine Below.drew ?_ | with_reducible refine Below.alloc ?_ (by simp <;> omega) _ | with_reducible refine Below.setCell ?_ (by simp <;> omega) _ | with_reducible refine below_xt ?_ (by simp <;> omega) _ | with_reducible refine below_drewN ?_ _))
    simp [h1]
end Go.Proofs.Ytnmepkcbpkcegaa
