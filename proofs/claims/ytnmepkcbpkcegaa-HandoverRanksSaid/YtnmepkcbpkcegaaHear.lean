/- handover.Hear at a valid side and message, and the reference's Heard. -/
import Derived.Test.YtnmepkcbpkcegaaHand
namespace Go.Proofs.Ytnmepkcbpkcegaa
open Go.RowKit
attribute [local go_sem] xt_size xt_cell xt_frozen xt_setCell xt_drew xt_drewN
attribute [local go_sem] cell_alloc_ite frozen_alloc_ite setCell_alloc_ite

theorem hear_bds {s c n : Int} (h : hearErr s c n = 0) : sideErr s c = 0 ∧ (0 ≤ s ∧ s ≤ 2 ∧ 0 ≤ c ∧ c ≤ 2000) ∧ 1 ≤ n ∧ n ≤ 2000 := by
  have h1 : sideErr s c = 0 := by
    unfold hearErr at h
    by_cases h1 : sideErr s c = 0
    · exact h1
    · rw [if_pos h1] at h; exact h
  refine ⟨h1, side_bd h1, ?_⟩
  unfold hearErr at h
  rw [if_neg (by simp [h1])] at h
  by_cases hn : n < 1 ∨ 2000 < n
  · rw [if_pos hn] at h; omega
  · omega

set_option maxHeartbeats 4000000 in
theorem hear_ack (s c : Int) (n : Int) (w : World) (h : hearErr s c n = 0) : Calls Try.prog 19 #[.agg #[.int .i64 s, .int .i64 c], .agg #[.bool true, .int .i64 n]] w (Ret (hearV s c true n) w) := by
  obtain ⟨h1, hb, hn⟩ := hear_bds h
  have h' : (sideErr s c == 0) = true := by simp [h1]
  have h'' : (sideErr s c != 0) = false := by simp [h1]
  have hV : hearV s c true n = (if s = 2 ∧ n = c + 1 then hearT 0 n false 0 false 0 else hearT s c false 0 false 0) := by
    unfold hearV; rw [if_neg (by simp [h]), if_pos rfl]
  clear h h1
  by_cases hq : s = 2 ∧ n = c + 1
  · rw [if_pos hq] at hV
    have HV := Lib.hid hV
    clear hV
    obtain ⟨rfl, rfl⟩ := hq
    go_enter Try.func19, Try.ntmps19
    go_wp2_with (go_at_call 18; refine (hcheck _ _ _).mono ?_; rintro e w1 ⟨rfl, zw1, rfl⟩)
    refine fin2 (by simp [results, Try.results19, go_sem]; rfl) ?_ rfl (by repeat (first | exact Below.refl _ _ | with_reducible refine Below.drew ?_ | with_reducible refine Below.alloc ?_ (by simp <;> omega) _ | with_reducible refine Below.setCell ?_ (by simp <;> omega) _ | with_reducible refine below_xt ?_ (by simp <;> omega) _ | with_reducible refine below_drewN ?_ _))
    rw [HV.out]; rfl
  · rw [if_neg hq] at hV
    have HV := Lib.hid hV
    clear hV
    by_cases hs : s = 2
    · have hn' : ¬ n = c + 1 := fun e => hq ⟨hs, e⟩
      subst hs
      clear hq
      go_enter Try.func19, Try.ntmps19
      go_wp2_with (go_at_call 18; refine (hcheck _ _ _).mono ?_; rintro e w1 ⟨rfl, zw1, rfl⟩)
      refine fin2 (by simp [results, Try.results19, go_sem]; rfl) ?_ rfl (by repeat (first | exact Below.refl _ _ | with_reducible refine Below.drew ?_ | with_reducible refine Below.alloc ?_ (by simp <;> omega) _ | with_reducible refine Below.setCell ?_ (by simp <;> omega) _ | with_reducible refine below_xt ?_ (by simp <;> omega) _ | with_reducible refine below_drewN ?_ _))
      rw [HV.out]; rfl
    · have hs' : (s == 2) = false := by simp [hs]
      clear hq hs
      go_enter Try.func19, Try.ntmps19
      go_wp2_with (go_at_call 18; refine (hcheck _ _ _).mono ?_; rintro e w1 ⟨rfl, zw1, rfl⟩)
      refine fin2 (by simp [results, Try.results19, go_sem]; rfl) ?_ rfl (by repeat (first | exact Below.refl _ _ | with_reducible refine Below.drew ?_ | with_reducible refine Below.alloc ?_ (by simp <;> omega) _ | with_reducible refine Below.setCell ?_ (by simp <;> omega) _ | with_reducible refine below_xt ?_ (by simp <;> omega) _ | with_reducible refine below_drewN ?_ _))
      rw [HV.out]; rfl

theorem hearV_msg {s c n : Int} (h : hearErr s c n = 0) : hearV s c false n = (if s = 2 ∧ n = c + 2 then hearT 1 n true n true 0 else if s = 0 ∧ n = c + 1 then hearT 1 n true n true 0 else if n ≤ c then hearT s c true n true 0 else hearT s c false 0 false 0) := by
  unfold hearV; rw [if_neg (by simp [h]), if_neg (by simp)]

set_option maxHeartbeats 4000000 in
theorem hear_msg (s c : Int) (n : Int) (w : World) (h : hearErr s c n = 0) : Calls Try.prog 19 #[.agg #[.int .i64 s, .int .i64 c], .agg #[.bool false, .int .i64 n]] w (Ret (hearV s c false n) w) := by
  obtain ⟨h1, hb, hn⟩ := hear_bds h
  have h' : (sideErr s c == 0) = true := by simp [h1]
  have h'' : (sideErr s c != 0) = false := by simp [h1]
  have HV := Lib.hid (hearV_msg h)
  clear h h1
  have hs : s = 0 ∨ s = 1 ∨ s = 2 := by omega
  have hm : n ≤ c ∨ n = c + 1 ∨ n = c + 2 ∨ c + 2 < n := by omega
  rcases hs with rfl | rfl | rfl <;> rcases hm with hm | rfl | rfl | hm
  all_goals
    go_enter Try.func19, Try.ntmps19
    go_wp2_with (go_at_call 18; refine (hcheck _ _ _).mono ?_; rintro e w1 ⟨rfl, zw1, rfl⟩)
  all_goals (first | (go_region; go_wp2) | skip)
  all_goals refine fin2 (by simp [results, Try.results19, go_sem]; rfl) ?_ rfl (by repeat (first | exact Below.refl _ _ | with_reducible refine Below.drew ?_ | with_reducible refine Below.alloc ?_ (by simp <;> omega) _ | with_reducible refine Below.setCell ?_ (by simp <;> omega) _ | with_reducible refine below_xt ?_ (by simp <;> omega) _ | with_reducible refine below_drewN ?_ _))
  all_goals (rw [HV.out]; (repeat (first | rw [if_pos (by omega)] | rw [if_neg (by omega)])); rfl)

theorem hear_any (s c : Int) (a : Bool) (n : Int) (w : World) : Calls Try.prog 19 #[.agg #[.int .i64 s, .int .i64 c], .agg #[.bool a, .int .i64 n]] w (Ret (hearV s c a n) w) := by
  by_cases h : hearErr s c n = 0
  · cases a
    · exact hear_msg s c n w h
    · exact hear_ack s c n w h
  · exact hear_bad s c a n w h

def heardV (s c : Int) (a : Bool) (n : Int) : Value :=
  if a = true then (if s = 2 ∧ n = c + 1 then .tuple #[.agg #[.int .i64 0, .int .i64 n], .int .i64 0] else .tuple #[.agg #[.int .i64 s, .int .i64 c], .int .i64 0])
  else if n ≤ c then .tuple #[.agg #[.int .i64 s, .int .i64 c], .int .i64 n]
  else if s = 0 ∧ n = c + 1 ∨ s = 2 ∧ n = c + 2 then .tuple #[.agg #[.int .i64 1, .int .i64 n], .int .i64 n]
  else .tuple #[.agg #[.int .i64 s, .int .i64 c], .int .i64 0]

set_option maxHeartbeats 4000000 in
theorem heard_any (s c : Int) (a : Bool) (n : Int) (w : World) (hb : 0 ≤ s ∧ s ≤ 2 ∧ 0 ≤ c ∧ c ≤ 2000) (hn : 1 ≤ n ∧ n ≤ 2000) : Calls Try.prog 20 #[.agg #[.int .i64 s, .int .i64 c], .agg #[.bool a, .int .i64 n]] w (Ret (heardV s c a n) w) := by
  have hs : s = 0 ∨ s = 1 ∨ s = 2 := by omega
  have hm : n ≤ c ∨ n = c + 1 ∨ n = c + 2 ∨ c + 2 < n := by omega
  have e1 : c + 1 - c = 1 := by omega
  have e2 : c + 2 - c = 2 := by omega
  cases a <;> rcases hs with rfl | rfl | rfl <;> rcases hm with hm | rfl | rfl | hm
  all_goals
    go_enter Try.func20, Try.ntmps20
    go_wp2
    go_quiet (fail)
    go_wp2
  all_goals refine fin2 (by simp [results, Try.results20, go_sem]; rfl) ?_ rfl (by repeat (first | exact Below.refl _ _ | with_reducible refine Below.drew ?_ | with_reducible refine Below.alloc ?_ (by simp <;> omega) _ | with_reducible refine Below.setCell ?_ (by simp <;> omega) _ | with_reducible refine below_xt ?_ (by simp <;> omega) _ | with_reducible refine below_drewN ?_ _))
  all_goals (unfold heardV; (first | rw [if_pos (rfl : true = true)] | rw [if_neg Bool.false_ne_true]); (repeat (first | rw [if_pos (by omega)] | rw [if_neg (by omega)])))
end Go.Proofs.Ytnmepkcbpkcegaa
