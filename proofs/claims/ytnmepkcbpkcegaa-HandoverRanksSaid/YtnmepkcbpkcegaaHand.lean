/- Contracts of the functions of package handover, of the reference and of the law's own helpers. -/
import Derived.Test.YtnmepkcbpkcegaaKit
namespace Go.Proofs.Ytnmepkcbpkcegaa
open Go.RowKit
attribute [local go_sem] xt_size xt_cell xt_frozen xt_setCell xt_drew xt_drewN
attribute [local go_sem] cell_alloc_ite frozen_alloc_ite setCell_alloc_ite

def sideErr (s c : Int) : Int := if s < 0 ∨ 2 < s then 1 else if c < 0 ∨ 2000 < c then 4 else 0

theorem hcheck (s c : Int) (w : World) : Calls Try.prog 18 #[.agg #[.int .i64 s, .int .i64 c]] w (Ret (.int .i64 (sideErr s c)) w) := by
  go_enter Try.func18, Try.ntmps18
  go_wp2
  all_goals go_ret
  all_goals refine ret_mk ?_ ((Below.refl _ _).alloc (Nat.le_refl _) _)
  all_goals (show Value.int _ _ = _; congr 1; unfold sideErr; repeat (first | rw [if_pos (by omega)] | rw [if_neg (by omega)]))

theorem sideError_any (s c : Int) (w : World) : Calls Try.prog 17 #[.agg #[.int .i64 s, .int .i64 c]] w (Ret (.int .i64 (sideErr s c)) w) := by
  go_enter Try.func17, Try.ntmps17
  go_wp2
  all_goals go_ret
  all_goals refine ret_mk ?_ ((Below.refl _ _).alloc (Nat.le_refl _) _)
  all_goals (show Value.int _ _ = _; congr 1; unfold sideErr; repeat (first | rw [if_pos (by omega)] | rw [if_neg (by omega)]))

def giveErr (s c : Int) : Int := if sideErr s c ≠ 0 then sideErr s c else if s ≠ 1 then 11 else if c = 2000 then 2 else 0
def zSide : Value := .agg #[.int .i64 0, .int .i64 0]
def zMsg : Value := .agg #[.bool false, .int .i64 0]
def giveV (s c : Int) : Value := if giveErr s c = 0 then .tuple #[.agg #[.int .i64 2, .int .i64 c], .agg #[.bool false, .int .i64 (c + 1)], .int .i64 0]
      else .tuple #[.agg #[.int .i64 0, .int .i64 0], .agg #[.bool false, .int .i64 0], .int .i64 (giveErr s c)]

theorem side_bd {s c : Int} (h : sideErr s c = 0) : 0 ≤ s ∧ s ≤ 2 ∧ 0 ≤ c ∧ c ≤ 2000 := by
  unfold sideErr at h
  by_cases h1 : s < 0 ∨ 2 < s
  · rw [if_pos h1] at h; omega
  · rw [if_neg h1] at h
    by_cases h2 : c < 0 ∨ 2000 < c
    · rw [if_pos h2] at h; omega
    · omega

set_option maxHeartbeats 1000000 in
theorem give_any (s c : Int) (w : World) : Calls Try.prog 15 #[.agg #[.int .i64 s, .int .i64 c]] w (Ret (giveV s c) w) := by
  by_cases h : sideErr s c = 0
  · have hb := side_bd h
    have h' : (sideErr s c != 0) = false := by simp [h]
    have H := Lib.hid h
    clear h
    go_enter Try.func15, Try.ntmps15
    go_wp2_with (go_at_call 18; refine (hcheck _ _ _).mono ?_; rintro e w1 ⟨rfl, zw1, rfl⟩)
    · have h1 : (s != 1) = true := by assumption
      have hg : giveErr s c = 11 := by unfold giveErr; rw [if_neg (by simp [H.out]), if_pos (by simpa using h1)]
      exact fin (by simp [results, Try.results15, go_sem, giveV, hg]) rfl (by repeat (first | exact Below.refl _ _ | with_reducible refine Below.drew ?_ | with_reducible refine Below.alloc ?_ (by simp <;> omega) _ | with_reducible refine Below.setCell ?_ (by simp <;> omega) _ | with_reducible refine below_xt ?_ (by simp <;> omega) _ | with_reducible refine below_drewN ?_ _))
    · have h1 : (s != 1) = false := by assumption
      have h2 : (c == 2000) = true := by assumption
      have hg : giveErr s c = 2 := by unfold giveErr; rw [if_neg (by simp [H.out]), if_neg (by simpa using h1), if_pos (by simpa using h2)]
      exact fin (by simp [results, Try.results15, go_sem, giveV, hg]) rfl (by repeat (first | exact Below.refl _ _ | with_reducible refine Below.drew ?_ | with_reducible refine Below.alloc ?_ (by simp <;> omega) _ | with_reducible refine Below.setCell ?_ (by simp <;> omega) _ | with_reducible refine below_xt ?_ (by simp <;> omega) _ | with_reducible refine below_drewN ?_ _))
    · have h1 : (s != 1) = false := by assumption
      have h2 : (c == 2000) = false := by assumption
      have hg : giveErr s c = 0 := by unfold giveErr; rw [if_neg (by simp [H.out]), if_neg (by simpa using h1), if_neg (by simpa using h2)]
      have Hg := Lib.hid hg
      clear hg
      go_region
      go_wp2
      exact fin (by simp [results, Try.results15, go_sem, giveV, Hg.out]) rfl (by repeat (first | exact Below.refl _ _ | with_reducible refine Below.drew ?_ | with_reducible refine Below.alloc ?_ (by simp <;> omega) _ | with_reducible refine Below.setCell ?_ (by simp <;> omega) _ | with_reducible refine below_xt ?_ (by simp <;> omega) _ | with_reducible refine below_drewN ?_ _))
  · have h' : (sideErr s c != 0) = true := by simp [h]
    have hg : giveErr s c = sideErr s c := by unfold giveErr; rw [if_pos h]
    have Hg := Lib.hid hg
    have H := Lib.hid h
    clear h hg
    go_enter Try.func15, Try.ntmps15
    go_wp2_with (go_at_call 18; refine (hcheck _ _ _).mono ?_; rintro e w1 ⟨rfl, zw1, rfl⟩)
    exact fin (by simp [results, Try.results15, go_sem, giveV, Hg.out, H.out]) rfl (by repeat (first | exact Below.refl _ _ | with_reducible refine Below.drew ?_ | with_reducible refine Below.alloc ?_ (by simp <;> omega) _ | with_reducible refine Below.setCell ?_ (by simp <;> omega) _ | with_reducible refine below_xt ?_ (by simp <;> omega) _ | with_reducible refine below_drewN ?_ _))

def againErr (s c : Int) : Int := if sideErr s c ≠ 0 then sideErr s c else if s ≠ 2 then 11 else 0
def againV (s c : Int) : Value := if againErr s c = 0 then .tuple #[.agg #[.bool false, .int .i64 (c + 1)], .int .i64 0] else .tuple #[.agg #[.bool false, .int .i64 0], .int .i64 (againErr s c)]

theorem again_any (s c : Int) (w : World) : Calls Try.prog 16 #[.agg #[.int .i64 s, .int .i64 c]] w (Ret (againV s c) w) := by
  by_cases h : sideErr s c = 0
  · have hb := side_bd h
    have h' : (sideErr s c != 0) = false := by simp [h]
    have H := Lib.hid h
    clear h
    go_enter Try.func16, Try.ntmps16
    go_wp2_with (go_at_call 18; refine (hcheck _ _ _).mono ?_; rintro e w1 ⟨rfl, zw1, rfl⟩)
    · have h1 : (s != 2) = true := by assumption
      have hg : againErr s c = 11 := by unfold againErr; rw [if_neg (by simp [H.out]), if_pos (by simpa using h1)]
      exact fin (by simp [results, Try.results16, go_sem, againV, hg]) rfl (by repeat (first | exact Below.refl _ _ | with_reducible refine Below.drew ?_ | with_reducible refine Below.alloc ?_ (by simp <;> omega) _ | with_reducible refine Below.setCell ?_ (by simp <;> omega) _ | with_reducible refine below_xt ?_ (by simp <;> omega) _ | with_reducible refine below_drewN ?_ _))
    · have h1 : (s != 2) = false := by assumption
      have hg : againErr s c = 0 := by unfold againErr; rw [if_neg (by simp [H.out]), if_neg (by simpa using h1)]
      exact fin (by simp [results, Try.results16, go_sem, againV, hg]) rfl (by repeat (first | exact Below.refl _ _ | with_reducible refine Below.drew ?_ | with_reducible refine Below.alloc ?_ (by simp <;> omega) _ | with_reducible refine Below.setCell ?_ (by simp <;> omega) _ | with_reducible refine below_xt ?_ (by simp <;> omega) _ | with_reducible refine below_drewN ?_ _))
  · have h' : (sideErr s c != 0) = true := by simp [h]
    have hg : againErr s c = sideErr s c := by unfold againErr; rw [if_pos h]
    have Hg := Lib.hid hg
    have H := Lib.hid h
    clear h hg
    go_enter Try.func16, Try.ntmps16
    go_wp2_with (go_at_call 18; refine (hcheck _ _ _).mono ?_; rintro e w1 ⟨rfl, zw1, rfl⟩)
    exact fin (by simp [results, Try.results16, go_sem, againV, Hg.out, H.out]) rfl (by repeat (first | exact Below.refl _ _ | with_reducible refine Below.drew ?_ | with_reducible refine Below.alloc ?_ (by simp <;> omega) _ | with_reducible refine Below.setCell ?_ (by simp <;> omega) _ | with_reducible refine below_xt ?_ (by simp <;> omega) _ | with_reducible refine below_drewN ?_ _))

theorem begin_any (w : World) : Calls Try.prog 63 #[] w (Ret (.tuple #[.agg #[.int .i64 1, .int .i64 0], .agg #[.int .i64 0, .int .i64 0]]) w) := by
  go_enter Try.func63, Try.ntmps63
  go_wp2
  exact fin (by simp [results, Try.results63, go_sem]) rfl (by repeat (first | exact Below.refl _ _ | with_reducible refine Below.drew ?_ | with_reducible refine Below.alloc ?_ (by simp <;> omega) _ | with_reducible refine Below.setCell ?_ (by simp <;> omega) _ | with_reducible refine below_xt ?_ (by simp <;> omega) _ | with_reducible refine below_drewN ?_ _))

theorem acts_any (s c : Int) (w : World) : Calls Try.prog 23 #[.agg #[.int .i64 s, .int .i64 c]] w (Ret (.bool (sideErr s c == 0 && s == 1)) w) := by
  by_cases h : sideErr s c = 0
  · have h' : (sideErr s c == 0) = true := by simp [h]
    clear h
    go_enter Try.func23, Try.ntmps23
    go_wp2_with (go_at_call 18; refine (hcheck _ _ _).mono ?_; rintro e w1 ⟨rfl, zw1, rfl⟩)
    exact fin (by simp [results, Try.results23, go_sem, h']) rfl (by repeat (first | exact Below.refl _ _ | with_reducible refine Below.drew ?_ | with_reducible refine Below.alloc ?_ (by simp <;> omega) _ | with_reducible refine Below.setCell ?_ (by simp <;> omega) _ | with_reducible refine below_xt ?_ (by simp <;> omega) _ | with_reducible refine below_drewN ?_ _))
  · have h' : (sideErr s c == 0) = false := by simp [h]
    clear h
    go_enter Try.func23, Try.ntmps23
    go_wp2_with (go_at_call 18; refine (hcheck _ _ _).mono ?_; rintro e w1 ⟨rfl, zw1, rfl⟩)
    exact fin (by simp [results, Try.results23, go_sem, h']) rfl (by repeat (first | exact Below.refl _ _ | with_reducible refine Below.drew ?_ | with_reducible refine Below.alloc ?_ (by simp <;> omega) _ | with_reducible refine Below.setCell ?_ (by simp <;> omega) _ | with_reducible refine below_xt ?_ (by simp <;> omega) _ | with_reducible refine below_drewN ?_ _))

def hearErr (s c n : Int) : Int := if sideErr s c ≠ 0 then sideErr s c else if n < 1 ∨ 2000 < n then 4 else 0
def hearT (s c : Int) (b : Bool) (m : Int) (t : Bool) (e : Int) : Value := .tuple #[.agg #[.int .i64 s, .int .i64 c], .agg #[.bool b, .int .i64 m], .bool t, .int .i64 e]
def hearV (s c : Int) (a : Bool) (n : Int) : Value :=
  if hearErr s c n ≠ 0 then hearT 0 0 false 0 false (hearErr s c n)
  else if a = true then (if s = 2 ∧ n = c + 1 then hearT 0 n false 0 false 0 else hearT s c false 0 false 0)
  else if s = 2 ∧ n = c + 2 then hearT 1 n true n true 0
  else if s = 0 ∧ n = c + 1 then hearT 1 n true n true 0
  else if n ≤ c then hearT s c true n true 0 else hearT s c false 0 false 0

set_option maxHeartbeats 1000000 in
theorem hear_bad (s c : Int) (a : Bool) (n : Int) (w : World) (h : hearErr s c n ≠ 0) : Calls Try.prog 19 #[.agg #[.int .i64 s, .int .i64 c], .agg #[.bool a, .int .i64 n]] w (Ret (hearV s c a n) w) := by
  have hV : hearV s c a n = hearT 0 0 false 0 false (hearErr s c n) := by unfold hearV; rw [if_pos h]
  rw [hV]
  by_cases h1 : sideErr s c = 0
  · have hn : n < 1 ∨ 2000 < n := by
      unfold hearErr at h
      rw [if_neg (by simp [h1])] at h
      by_cases hn : n < 1 ∨ 2000 < n
      · exact hn
      · rw [if_neg hn] at h; exact absurd rfl h
    have he : hearErr s c n = 4 := by unfold hearErr; rw [if_neg (by simp [h1]), if_pos hn]
    rw [he]
    have h' : (sideErr s c == 0) = true := by simp [h1]
    have h'' : (sideErr s c != 0) = false := by simp [h1]
    clear h h1 he hV
    by_cases hlt : n < 1
    · go_enter Try.func19, Try.ntmps19
      go_wp2_with (go_at_call 18; refine (hcheck _ _ _).mono ?_; rintro e w1 ⟨rfl, zw1, rfl⟩)
      refine fin2 (by simp [results, Try.results19, go_sem]; rfl) ?_ rfl (by repeat (first | exact Below.refl _ _ | with_reducible refine Below.drew ?_ | with_reducible refine Below.alloc ?_ (by simp <;> omega) _ | with_reducible refine Below.setCell ?_ (by simp <;> omega) _ | with_reducible refine below_xt ?_ (by simp <;> omega) _ | with_reducible refine below_drewN ?_ _))
      rfl
    · have hgt : 2000 < n := by omega
      go_enter Try.func19, Try.ntmps19
      go_wp2_with (go_at_call 18; refine (hcheck _ _ _).mono ?_; rintro e w1 ⟨rfl, zw1, rfl⟩)
      refine fin2 (by simp [results, Try.results19, go_sem]; rfl) ?_ rfl (by repeat (first | exact Below.refl _ _ | with_reducible refine Below.drew ?_ | with_reducible refine Below.alloc ?_ (by simp <;> omega) _ | with_reducible refine Below.setCell ?_ (by simp <;> omega) _ | with_reducible refine below_xt ?_ (by simp <;> omega) _ | with_reducible refine below_drewN ?_ _))
      rfl
  · have he : hearErr s c n = sideErr s c := by unfold hearErr; rw [if_pos h1]
    rw [he]
    have h' : (sideErr s c == 0) = false := by simp [h1]
    have h'' : (sideErr s c != 0) = true := by simp [h1]
    clear h h1 he hV
    go_enter Try.func19, Try.ntmps19
    go_wp2_with (go_at_call 18; refine (hcheck _ _ _).mono ?_; rintro e w1 ⟨rfl, zw1, rfl⟩)
    refine fin2 (by simp [results, Try.results19, go_sem]; rfl) ?_ rfl (by repeat (first | exact Below.refl _ _ | with_reducible refine Below.drew ?_ | with_reducible refine Below.alloc ?_ (by simp <;> omega) _ | with_reducible refine Below.setCell ?_ (by simp <;> omega) _ | with_reducible refine below_xt ?_ (by simp <;> omega) _ | with_reducible refine below_drewN ?_ _))
    rfl

end Go.Proofs.Ytnmepkcbpkcegaa
