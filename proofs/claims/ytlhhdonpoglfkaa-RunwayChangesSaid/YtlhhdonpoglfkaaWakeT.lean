/- The reference's check of a table. -/
import Derived.Test.YtlhhdonpoglfkaaWake
import Derived.Test.YtlhhdonpoglfkaaSl
namespace Go.Proofs.Ytlhhdonpoglfkaa
open Go.RowKit
attribute [local go_sem] xt_size xt_cell xt_frozen xt_setCell xt_drew xt_drewN tab_get tab_size
attribute [local go_sem] cell_alloc_ite frozen_alloc_ite setCell_alloc_ite

set_option maxRecDepth 100000 in
set_option maxHeartbeats 4000000 in
theorem tableError_any (T : Nat → Int) (w : World) : Calls Try.prog 22 #[.agg (tab T)] w (Ret (.int .i64 (tabErr T)) w) := by
  go_enter Try.func22, Try.ntmps22
  go_wp2
  go_loopg [8] 16 (fun g i wr => ∃ k : Nat, g = 16 - k ∧ k ≤ 16 ∧ i = .int .i64 k ∧ (∀ n, n < k → okAt T n) ∧ ∃ z, wr = xt (w.alloc (.cells (tab T) 26)) z)
  case atStart => exact ⟨0, rfl, by omega, rfl, by omega, ext_of_below (Below.refl _ _)⟩
  case round =>
    obtain ⟨k, rfl, hk, rfl, hok, z, rfl⟩ := hrel
    have Hok := Lib.hid hok
    clear hok
    by_cases hlt : k < 16
    · have hd : decide ((k : Int) < 16) = true := by simp; omega
      have q1 : k / 4 < 4 := by omega
      have q2 : k % 4 < 4 := by omega
      have ek : okAt T k ↔ 30 ≤ T (k / 4 * 4 + k % 4) ∧ T (k / 4 * 4 + k % 4) ≤ 600 := by
        rw [show k / 4 * 4 + k % 4 = k by omega]; rfl
      have EK := Lib.hid ek
      clear ek
      go_wp2
      · have hb : T (k / 4 * 4 + k % 4) < 30 ∨ 600 < T (k / 4 * 4 + k % 4) := by assumption
        refine fin2 (by simp [results, Try.results22, go_sem]; rfl) ?_ rfl (by repeat (first | exact Below.refl _ _ | with_reducible assumption | with_reducible refine Below.drew ?_ | with_reducible refine Below.alloc ?_ (by first | omega | (simp <;> omega)) _ | with_reducible refine Below.setCell ?_ (by first | omega | (simp <;> omega)) _ | with_reducible refine below_xt ?_ (by first | omega | (simp <;> omega)) _ | with_reducible refine below_drewN ?_ _))
        rw [tab_range (n := k) hlt (by rw [EK.out]; omega)]
      · have hb : 30 ≤ T (k / 4 * 4 + k % 4) ∧ T (k / 4 * 4 + k % 4) ≤ 600 := by assumption
        go_roundg (16 - (k + 1))
        case measure => omega
        case rel => exact ⟨k + 1, rfl, by omega, by go_num, fun n hn => (by
          by_cases e : n = k
          · subst e; exact EK.out.2 hb
          · exact Hok.out n (by omega)), z, rfl⟩
      · have hb : T (k / 4 * 4 + k % 4) < 30 := by assumption
        refine fin2 (by simp [results, Try.results22, go_sem]; rfl) ?_ rfl (by repeat (first | exact Below.refl _ _ | with_reducible assumption | with_reducible refine Below.drew ?_ | with_reducible refine Below.alloc ?_ (by first | omega | (simp <;> omega)) _ | with_reducible refine Below.setCell ?_ (by first | omega | (simp <;> omega)) _ | with_reducible refine below_xt ?_ (by first | omega | (simp <;> omega)) _ | with_reducible refine below_drewN ?_ _))
        rw [tab_range (n := k) hlt (by rw [EK.out]; omega)]
    · obtain rfl : k = 16 := by omega
      go_wp2
      go_loopg [30] 64 (fun g i wr => ∃ k : Nat, g = 64 - k ∧ k ≤ 64 ∧ i = .int .i64 k ∧ (∀ n, n < k → triAt T n) ∧ ∃ z, wr = xt (w.alloc (.cells (tab T) 26)) z)
      case atStart => exact ⟨0, rfl, by omega, rfl, by omega, z, rfl⟩
      case round =>
        obtain ⟨i, rfl, hi, rfl, ht, z2, rfl⟩ := hrel
        have Ht := Lib.hid ht
        clear ht
        by_cases hlti : i < 64
        · have hd : decide ((i : Int) < 64) = true := by simp; omega
          have b1 : 30 ≤ T (i / 16 * 4 + i / 4 % 4) ∧ T (i / 16 * 4 + i / 4 % 4) ≤ 600 := Hok.out _ (by omega)
          have b2 : 30 ≤ T (i / 4 % 4 * 4 + i % 4) ∧ T (i / 4 % 4 * 4 + i % 4) ≤ 600 := Hok.out _ (by omega)
          have q1 : i / 16 < 4 := by omega
          have q2 : i / 4 % 4 < 4 := by omega
          have q3 : i % 4 < 4 := by omega
          have ht : triAt T i ↔ T (i / 16 * 4 + i % 4) ≤ T (i / 16 * 4 + i / 4 % 4) + T (i / 4 % 4 * 4 + i % 4) := by
            unfold triAt; rw [Nat.mul_comm 4 (i / 16), Nat.mul_comm 4 (i / 4 % 4)]
          have HT := Lib.hid ht
          clear ht
          go_wp2
          (refine wp_region_ext (by kernel_rfl) (by kernel_rfl) ?_; (repeat (go_big_quiet_step ((fail)))); refine wpQuiet_nil ?_; intro _ hw'; obtain ⟨z5, hw''⟩ := hw'; subst hw'')
          go_wp2
          · have hb : T (i / 16 * 4 + i / 4 % 4) + T (i / 4 % 4 * 4 + i % 4) < T (i / 16 * 4 + i % 4) := by assumption
            refine fin2 (by simp [results, Try.results22, go_sem]; rfl) ?_ rfl (by repeat (first | exact Below.refl _ _ | with_reducible assumption | with_reducible refine Below.drew ?_ | with_reducible refine Below.alloc ?_ (by first | omega | (simp <;> omega)) _ | with_reducible refine Below.setCell ?_ (by first | omega | (simp <;> omega)) _ | with_reducible refine below_xt ?_ (by first | omega | (simp <;> omega)) _ | with_reducible refine below_drewN ?_ _))
            rw [tab_form (i := i) (fun n hn => Hok.out n (by omega)) hlti (by rw [HT.out]; omega)]
          · have hb : T (i / 16 * 4 + i % 4) ≤ T (i / 16 * 4 + i / 4 % 4) + T (i / 4 % 4 * 4 + i % 4) := by assumption
            go_roundg (64 - (i + 1))
            case measure => omega
            case rel => exact ⟨i + 1, rfl, by omega, by go_num, fun n hn => (by
              by_cases e : n = i
              · subst e; exact HT.out.2 hb
              · exact Ht.out n (by omega)), ext_of_below (by repeat (first | exact Below.refl _ _ | with_reducible assumption | with_reducible refine Below.drew ?_ | with_reducible refine Below.alloc ?_ (by first | omega | (simp <;> omega)) _ | with_reducible refine Below.setCell ?_ (by first | omega | (simp <;> omega)) _ | with_reducible refine below_xt ?_ (by first | omega | (simp <;> omega)) _ | with_reducible refine below_drewN ?_ _))⟩
        · obtain rfl : i = 64 := by omega
          go_wp2
          refine fin2 (by simp [results, Try.results22, go_sem]; rfl) ?_ rfl (by repeat (first | exact Below.refl _ _ | with_reducible assumption | with_reducible refine Below.drew ?_ | with_reducible refine Below.alloc ?_ (by first | omega | (simp <;> omega)) _ | with_reducible refine Below.setCell ?_ (by first | omega | (simp <;> omega)) _ | with_reducible refine below_xt ?_ (by first | omega | (simp <;> omega)) _ | with_reducible refine below_drewN ?_ _))
          rw [tab_good (fun n hn => Hok.out n (by omega)) (fun n hn => Ht.out n (by omega))]

end Go.Proofs.Ytlhhdonpoglfkaa
