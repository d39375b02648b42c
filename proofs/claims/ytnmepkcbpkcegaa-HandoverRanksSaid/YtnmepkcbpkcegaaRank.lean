/- handover.Responsible. -/
import Derived.Test.YtnmepkcbpkcegaaHand
namespace Go.Proofs.Ytnmepkcbpkcegaa
open Go.RowKit
attribute [local go_sem] xt_size xt_cell xt_frozen xt_setCell xt_drew xt_drewN
attribute [local go_sem] cell_alloc_ite frozen_alloc_ite setCell_alloc_ite

def rank (s c : Int) : Int := if s = 0 then 2 * c else 2 * c + 1
def respErr (s c t d : Int) : Int := if sideErr s c ≠ 0 then sideErr s c else sideErr t d
def respV (s c t d : Int) : Value :=
  if respErr s c t d ≠ 0 then .tuple #[.int .i64 0, .int .i64 (respErr s c t d)]
  else if rank t d < rank s c then .tuple #[.int .i64 0, .int .i64 0]
  else if rank s c < rank t d then .tuple #[.int .i64 1, .int .i64 0]
  else .tuple #[.int .i64 0, .int .i64 11]

theorem rank_any (s c : Int) (w : World) (hb : 0 ≤ c ∧ c ≤ 2000) : Calls Try.prog 64 #[.agg #[.int .i64 s, .int .i64 c]] w (Ret (.int .i64 (rank s c)) w) := by
  go_enter Try.func64, Try.ntmps64
  go_wp2
  all_goals go_ret
  all_goals refine ret_mk ?_ (by repeat (first | exact Below.refl _ _ | with_reducible refine Below.drew ?_ | with_reducible refine Below.alloc ?_ (by simp <;> omega) _ | with_reducible refine Below.setCell ?_ (by simp <;> omega) _ | with_reducible refine below_xt ?_ (by simp <;> omega) _ | with_reducible refine below_drewN ?_ _))
  all_goals (try simp only [beq_iff_eq, beq_eq_false_iff_ne] at *)
  all_goals (show Value.int _ _ = _; congr 1; unfold rank; (repeat (first | rw [if_pos (by omega)] | rw [if_neg (by omega)])))

set_option maxHeartbeats 2000000 in
theorem resp_any (s c t d : Int) (w : World) : Calls Try.prog 21 #[.agg #[.int .i64 s, .int .i64 c], .agg #[.int .i64 t, .int .i64 d]] w (Ret (respV s c t d) w) := by
  by_cases h1 : sideErr s c = 0
  · have hb1 := side_bd h1
    have h1' : (sideErr s c != 0) = false := by simp [h1]
    by_cases h2 : sideErr t d = 0
    · have hb2 := side_bd h2
      have h2' : (sideErr t d != 0) = false := by simp [h2]
      have he : respErr s c t d = 0 := by unfold respErr; rw [if_neg (by simp [h1]), h2]
      have He := Lib.hid he
      clear h1 h2 he
      go_enter Try.func21, Try.ntmps21
      go_wp2
      refine wp_loop_rounds 3 ?_
      rw [rounds_succ]
      go_wp2_with (go_at_call 18; refine (hcheck _ _ _).mono ?_; rintro e w1 ⟨rfl, zw1, rfl⟩)
      rw [rounds_succ]
      go_wp2_with (go_at_call 18; refine (hcheck _ _ _).mono ?_; rintro e w2 ⟨rfl, zw2, rfl⟩)
      rw [rounds_succ]
      go_wp2
      (refine wp_region_ext (by kernel_rfl) (by kernel_rfl) ?_; (repeat (go_big_quiet_step ((go_at_call 64; exact quiet_ext (rank_any _ _ _ (by omega)))))); refine wpQuiet_nil ?_; intro _ hw'; obtain ⟨z3, hw''⟩ := hw'; subst hw'')
      go_wp2
      all_goals (refine fin2 (by simp [results, Try.results21, go_sem]; rfl) ?_ rfl (by repeat (first | exact Below.refl _ _ | with_reducible refine Below.drew ?_ | with_reducible refine Below.alloc ?_ (by simp <;> omega) _ | with_reducible refine Below.setCell ?_ (by simp <;> omega) _ | with_reducible refine below_xt ?_ (by simp <;> omega) _ | with_reducible refine below_drewN ?_ _)))
      all_goals (unfold respV; rw [if_neg (by simp [He.out])]; (repeat (first | rw [if_pos (by omega)] | rw [if_neg (by omega)])))
    · have h2' : (sideErr t d != 0) = true := by simp [h2]
      have he : respErr s c t d = sideErr t d := by unfold respErr; rw [if_neg (by simp [h1])]
      have He := Lib.hid he
      have H2 := Lib.hid h2
      clear h1 h2 he
      go_enter Try.func21, Try.ntmps21
      go_wp2
      refine wp_loop_rounds 3 ?_
      rw [rounds_succ]
      go_wp2_with (go_at_call 18; refine (hcheck _ _ _).mono ?_; rintro e w1 ⟨rfl, zw1, rfl⟩)
      rw [rounds_succ]
      go_wp2_with (go_at_call 18; refine (hcheck _ _ _).mono ?_; rintro e w2 ⟨rfl, zw2, rfl⟩)
      refine fin2 (by simp [results, Try.results21, go_sem]; rfl) ?_ rfl (by repeat (first | exact Below.refl _ _ | with_reducible refine Below.drew ?_ | with_reducible refine Below.alloc ?_ (by simp <;> omega) _ | with_reducible refine Below.setCell ?_ (by simp <;> omega) _ | with_reducible refine below_xt ?_ (by simp <;> omega) _ | with_reducible refine below_drewN ?_ _))
      unfold respV; rw [He.out, if_pos H2.out]
  · have h1' : (sideErr s c != 0) = true := by simp [h1]
    have he : respErr s c t d = sideErr s c := by unfold respErr; rw [if_pos h1]
    have He := Lib.hid he
    have H2 := Lib.hid h1
    clear h1 he
    go_enter Try.func21, Try.ntmps21
    go_wp2
    refine wp_loop_rounds 3 ?_
    rw [rounds_succ]
    go_wp2_with (go_at_call 18; refine (hcheck _ _ _).mono ?_; rintro e w1 ⟨rfl, zw1, rfl⟩)
    refine fin2 (by simp [results, Try.results21, go_sem]; rfl) ?_ rfl (by repeat (first | exact Below.refl _ _ | with_reducible refine Below.drew ?_ | with_reducible refine Below.alloc ?_ (by simp <;> omega) _ | with_reducible refine Below.setCell ?_ (by simp <;> omega) _ | with_reducible refine below_xt ?_ (by simp <;> omega) _ | with_reducible refine below_drewN ?_ _))
    unfold respV; rw [He.out, if_pos H2.out]
end Go.Proofs.Ytnmepkcbpkcegaa
