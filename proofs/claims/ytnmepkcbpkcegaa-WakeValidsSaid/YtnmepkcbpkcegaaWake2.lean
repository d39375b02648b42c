/- Package wake: classes, gaps, least times, validity; and the reference's table check. -/
import Derived.Test.YtnmepkcbpkcegaaWake
import Derived.Test.YtnmepkcbpkcegaaSl
namespace Go.Proofs.Ytnmepkcbpkcegaa
open Go.RowKit
attribute [local go_sem] xt_size xt_cell xt_frozen xt_setCell xt_drew xt_drewN tab_get tab_size
attribute [local go_sem] cell_alloc_ite frozen_alloc_ite setCell_alloc_ite

set_option maxRecDepth 100000 in
set_option maxHeartbeats 4000000 in
theorem tableError_any (T : Nat → Int) (w : World) : Calls Try.prog 26 #[.agg (tab T)] w (Ret (.int .i64 (tabErr T)) w) := by
  go_enter Try.func26, Try.ntmps26
  go_wp2
  go_loopg [8] 16 (fun g i wr => ∃ k : Nat, g = 16 - k ∧ k ≤ 16 ∧ i = .int .i64 k ∧ (∀ n, n < k → okAt T n) ∧ ∃ z, wr = xt (w.alloc (.cells (tab T) 44)) z)
  case atStart => exact ⟨0, rfl, by omega, rfl, by omega, ext_of_below (Below.refl _ _)⟩
  case round =>
    obtain ⟨k, rfl, hk, rfl, hok, z, rfl⟩ := hrel
    have Hok := Lib.hid hok
    clear hok
    by_cases hlt : k < 16
    · have hd : decide ((k : Int) < 16) = true := by simp; omega
      have q1 : k / 4 < 4 := by omega
      have q2 : k % 4 < 4 := by omega
      have ek : okAt T k ↔ 30 ≤ T (k / 4 * 4 + k % 4) ∧ T (k / 4 * 4 + k % 4) ≤ 600 := by
        rw [show k / 4 * 4 + k % 4 = k by omega]; rfl
      have EK := Lib.hid ek
      clear ek
      go_wp2
      · have hb : T (k / 4 * 4 + k % 4) < 30 ∨ 600 < T (k / 4 * 4 + k % 4) := by assumption
        refine fin2 (by simp [results, Try.results26, go_sem]; rfl) ?_ rfl (by repeat (first | exact Below.refl _ _ | with_reducible refine Below.drew ?_ | with_reducible refine Below.alloc ?_ (by simp <;> omega) _ | with_reducible refine Below.setCell ?_ (by simp <;> omega) _ | with_reducible refine below_xt ?_ (by simp <;> omega) _ | with_reducible refine below_drewN ?_ _))
        rw [tab_range (n := k) hlt (by rw [EK.out]; omega)]
      · have hb : 30 ≤ T (k / 4 * 4 + k % 4) ∧ T (k / 4 * 4 + k % 4) ≤ 600 := by assumption
        go_roundg (16 - (k + 1))
        case measure => omega
        case rel => exact ⟨k + 1, rfl, by omega, by go_num, fun n hn => (by
          by_cases e : n = k
          · subst e; exact EK.out.2 hb
          · exact Hok.out n (by omega)), z, rfl⟩
      · have hb : T (k / 4 * 4 + k % 4) < 30 := by assumption
        refine fin2 (by simp [results, Try.results26, go_sem]; rfl) ?_ rfl (by repeat (first | exact Below.refl _ _ | with_reducible refine Below.drew ?_ | with_reducible refine Below.alloc ?_ (by simp <;> omega) _ | with_reducible refine Below.setCell ?_ (by simp <;> omega) _ | with_reducible refine below_xt ?_ (by simp <;> omega) _ | with_reducible refine below_drewN ?_ _))
        rw [tab_range (n := k) hlt (by rw [EK.out]; omega)]
    · obtain rfl : k = 16 := by omega
      go_wp2
      go_loopg [30] 64 (fun g i wr => ∃ k : Nat, g = 64 - k ∧ k ≤ 64 ∧ i = .int .i64 k ∧ (∀ n, n < k → triAt T n) ∧ ∃ z, wr = xt (w.alloc (.cells (tab T) 44)) z)
      case atStart => exact ⟨0, rfl, by omega, rfl, by omega, z, rfl⟩
      case round =>
        obtain ⟨i, rfl, hi, rfl, ht, z2, rfl⟩ := hrel
        have Ht := Lib.hid ht
        clear ht
        by_cases hlti : i < 64
        · have hd : decide ((i : Int) < 64) = true := by simp; omega
          have b1 : 30 ≤ T (i / 16 * 4 + i / 4 % 4) ∧ T (i / 16 * 4 + i / 4 % 4) ≤ 600 := Hok.out _ (by omega)
          have b2 : 30 ≤ T (i / 4 % 4 * 4 + i % 4) ∧ T (i / 4 % 4 * 4 + i % 4) ≤ 600 := Hok.out _ (by omega)
          have q1 : i / 16 < 4 := by omega
          have q2 : i / 4 % 4 < 4 := by omega
          have q3 : i % 4 < 4 := by omega
          have ht : triAt T i ↔ T (i / 16 * 4 + i % 4) ≤ T (i / 16 * 4 + i / 4 % 4) + T (i / 4 % 4 * 4 + i % 4) := by
            unfold triAt; rw [Nat.mul_comm 4 (i / 16), Nat.mul_comm 4 (i / 4 % 4)]
          have HT := Lib.hid ht
          clear ht
          go_wp2
          (refine wp_region_ext (by kernel_rfl) (by kernel_rfl) ?_; (repeat (go_big_quiet_step ((fail)))); refine wpQuiet_nil ?_; intro _ hw'; obtain ⟨z5, hw''⟩ := hw'; subst hw'')
          go_wp2
          · have hb : T (i / 16 * 4 + i / 4 % 4) + T (i / 4 % 4 * 4 + i % 4) < T (i / 16 * 4 + i % 4) := by assumption
            refine fin2 (by simp [results, Try.results26, go_sem]; rfl) ?_ rfl (by repeat (first | exact Below.refl _ _ | with_reducible refine Below.drew ?_ | with_reducible refine Below.alloc ?_ (by simp <;> omega) _ | with_reducible refine Below.setCell ?_ (by simp <;> omega) _ | with_reducible refine below_xt ?_ (by simp <;> omega) _ | with_reducible refine below_drewN ?_ _))
            rw [tab_form (i := i) (fun n hn => Hok.out n (by omega)) hlti (by rw [HT.out]; omega)]
          · have hb : T (i / 16 * 4 + i % 4) ≤ T (i / 16 * 4 + i / 4 % 4) + T (i / 4 % 4 * 4 + i % 4) := by assumption
            go_roundg (64 - (i + 1))
            case measure => omega
            case rel => exact ⟨i + 1, rfl, by omega, by go_num, fun n hn => (by
              by_cases e : n = i
              · subst e; exact HT.out.2 hb
              · exact Ht.out n (by omega)), ext_of_below (by repeat (first | exact Below.refl _ _ | with_reducible refine Below.drew ?_ | with_reducible refine Below.alloc ?_ (by simp <;> omega) _ | with_reducible refine Below.setCell ?_ (by simp <;> omega) _ | with_reducible refine below_xt ?_ (by simp <;> omega) _ | with_reducible refine below_drewN ?_ _))⟩
        · obtain rfl : i = 64 := by omega
          go_wp2
          refine fin2 (by simp [results, Try.results26, go_sem]; rfl) ?_ rfl (by repeat (first | exact Below.refl _ _ | with_reducible refine Below.drew ?_ | with_reducible refine Below.alloc ?_ (by simp <;> omega) _ | with_reducible refine Below.setCell ?_ (by simp <;> omega) _ | with_reducible refine below_xt ?_ (by simp <;> omega) _ | with_reducible refine below_drewN ?_ _))
          rw [tab_good (fun n hn => Hok.out n (by omega)) (fun n hn => Ht.out n (by omega))]

def classE (n : Int) : Int := if n < 0 ∨ 3 < n then 1 else 0
theorem class_any (n : Int) (w : World) : Calls Try.prog 30 #[.int .i64 n] w (Ret (.int .i64 (classE n)) w) := by
  go_enter Try.func30, Try.ntmps30
  go_wp2
  all_goals go_ret
  all_goals refine ret_mk ?_ (by repeat (first | exact Below.refl _ _ | with_reducible refine Below.drew ?_ | with_reducible refine Below.alloc ?_ (by simp <;> omega) _ | with_reducible refine Below.setCell ?_ (by simp <;> omega) _ | with_reducible refine below_xt ?_ (by simp <;> omega) _ | with_reducible refine below_drewN ?_ _))
  all_goals (show Value.int _ _ = _; congr 1; unfold classE; (repeat (first | rw [if_pos (by omega)] | rw [if_neg (by omega)])))

/-- The classes of a list. -/
def clsL (l : List Int) : Int := if l.all (fun x => decide (0 ≤ x ∧ x ≤ 3)) = true then 0 else 1
theorem clsL_bad {l : List Int} {k : Nat} (hk : k < l.length) (h : ¬ (0 ≤ l[k]?.getD 0 ∧ l[k]?.getD 0 ≤ 3)) : clsL l = 1 := by
  unfold clsL
  rw [if_neg]
  intro hh
  have := List.all_eq_true.1 hh (l[k]) (List.getElem_mem hk)
  rw [List.getElem?_eq_getElem hk] at h
  exact h (by simpa using this)
theorem clsL_good {l : List Int} (h : ∀ i, i < l.length → 0 ≤ l[i]?.getD 0 ∧ l[i]?.getD 0 ≤ 3) : clsL l = 0 := by
  unfold clsL
  rw [if_pos]
  rw [List.all_eq_true]
  intro x hx
  obtain ⟨i, hi, rfl⟩ := List.getElem_of_mem hx
  have := h i hi
  rw [List.getElem?_eq_getElem hi] at this
  simpa using this
theorem clsL_zero {l : List Int} (h : clsL l = 0) : ∀ i, i < l.length → 0 ≤ l[i]?.getD 0 ∧ l[i]?.getD 0 ≤ 3 := by
  intro i hi
  rcases Classical.em (0 ≤ l[i]?.getD 0 ∧ l[i]?.getD 0 ≤ 3) with hh | hh
  · exact hh
  · rw [clsL_bad hi hh] at h; omega

theorem classesError_any (A : Option Addr) (n c : Nat) (l : List Int) (w : World) (hl : l.length = n) (hn : n ≤ 1000000000) (h : SlI w A n l) :
    Calls Try.prog 28 #[.slice A n c] w (Ret (.int .i64 (clsL l)) w) := by
  have HL := Lib.hid hl
  clear hl
  have H := Lib.hid h
  clear h
  go_enter Try.func28, Try.ntmps28
  go_wp2
  go_loopg [7] n (fun g i wr => ∃ k : Nat, g = n - k ∧ k ≤ n ∧ i = .int .i64 k ∧ (∀ i, i < k → 0 ≤ l[i]?.getD 0 ∧ l[i]?.getD 0 ≤ 3) ∧ ∃ z, wr = xt w z)
  case atStart => exact ⟨0, rfl, by omega, rfl, by omega, ext_of_below (Below.refl _ _)⟩
  case round =>
    obtain ⟨k, rfl, hk, rfl, hok, z, rfl⟩ := hrel
    have Hok := Lib.hid hok
    clear hok
    by_cases hlt : k < n
    · obtain ⟨b, off, rfl, hb, hcell⟩ := SlI.at H.out hlt
      have hc := hcell k hlt
      clear hcell
      go_wp2
      · have hb : l[k]?.getD 0 < 0 ∨ 3 < l[k]?.getD 0 := by assumption
        refine fin2 (by simp [results, Try.results28, go_sem]; rfl) ?_ rfl (by repeat (first | exact Below.refl _ _ | with_reducible refine Below.drew ?_ | with_reducible refine Below.alloc ?_ (by simp <;> omega) _ | with_reducible refine Below.setCell ?_ (by simp <;> omega) _ | with_reducible refine below_xt ?_ (by simp <;> omega) _ | with_reducible refine below_drewN ?_ _))
        rw [clsL_bad (k := k) (by rw [HL.out]; exact hlt) (by omega)]
      · have hb : 0 ≤ l[k]?.getD 0 ∧ l[k]?.getD 0 ≤ 3 := by assumption
        go_roundg (n - (k + 1))
        case measure => omega
        case rel => exact ⟨k + 1, rfl, by omega, by go_num, fun i hi => (by
          by_cases e : i = k
          · subst e; exact hb
          · exact Hok.out i (by omega)), z, rfl⟩
      · have hb : l[k]?.getD 0 < 0 := by assumption
        refine fin2 (by simp [results, Try.results28, go_sem]; rfl) ?_ rfl (by repeat (first | exact Below.refl _ _ | with_reducible refine Below.drew ?_ | with_reducible refine Below.alloc ?_ (by simp <;> omega) _ | with_reducible refine Below.setCell ?_ (by simp <;> omega) _ | with_reducible refine below_xt ?_ (by simp <;> omega) _ | with_reducible refine below_drewN ?_ _))
        rw [clsL_bad (k := k) (by rw [HL.out]; exact hlt) (by omega)]
    · go_wp2
      refine fin2 (by simp [results, Try.results28, go_sem]; rfl) ?_ rfl (by repeat (first | exact Below.refl _ _ | with_reducible refine Below.drew ?_ | with_reducible refine Below.alloc ?_ (by simp <;> omega) _ | with_reducible refine Below.setCell ?_ (by simp <;> omega) _ | with_reducible refine below_xt ?_ (by simp <;> omega) _ | with_reducible refine below_drewN ?_ _))
      rw [clsL_good (fun i hi => Hok.out i (by rw [HL.out] at hi; omega))]
end Go.Proofs.Ytnmepkcbpkcegaa
