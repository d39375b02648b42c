/- Package wake: Least and Valid. -/
import Derived.Test.YtnmepkcbpkcegaaWake3
namespace Go.Proofs.Ytnmepkcbpkcegaa
open Go.RowKit
attribute [local go_sem] xt_size xt_cell xt_frozen xt_setCell xt_drew xt_drewN tab_get tab_size
attribute [local go_sem] cell_alloc_ite frozen_alloc_ite setCell_alloc_ite

theorem wtInfo : (Try.prog.info? 44).map (·.size) = some 16 := by kernel_rfl

/-- The required time between elements i and i + 1. -/
def stepT (T : Nat → Int) (l : List Int) (i : Nat) : Int := T ((l[i]?.getD 0).toNat * 4 + (l[i + 1]?.getD 0).toNat)
def leastTo (T : Nat → Int) (l : List Int) : Nat → Int
  | 0 => 0
  | k + 1 => leastTo T l k + stepT T l k
noncomputable def leastV (T : Nat → Int) (l : List Int) : Value := if clsErr T l = 0 then .tuple #[.int .i64 (leastTo T l (l.length - 1)), .int .i64 0] else .tuple #[.int .i64 0, .int .i64 (clsErr T l)]

theorem tab_bd {T : Nat → Int} (h : tabErr T = 0) {n : Nat} (hn : n < 16) : 30 ≤ T n ∧ T n ≤ 600 := by
  unfold tabErr at h
  by_cases h1 : ∀ n, n < 16 → okAt T n
  · exact h1 n hn
  · rw [if_neg h1] at h; omega
theorem tab_tri {T : Nat → Int} (h : tabErr T = 0) {i : Nat} (hi : i < 64) : triAt T i := by
  unfold tabErr at h
  by_cases h1 : ∀ n, n < 16 → okAt T n
  · rw [if_pos h1] at h
    by_cases h2 : ∀ i, i < 64 → triAt T i
    · exact h2 i hi
    · rw [if_neg h2] at h; omega
  · rw [if_neg h1] at h; omega
theorem cls_parts {T : Nat → Int} {l : List Int} (h : clsErr T l = 0) : tabErr T = 0 ∧ l.length ≤ 256 ∧ clsL l = 0 := by
  unfold clsErr at h
  by_cases h0 : tabErr T = 0
  · rw [if_neg (by simp [h0])] at h
    by_cases h1 : 256 < l.length
    · rw [if_pos h1] at h; omega
    · rw [if_neg h1] at h; exact ⟨h0, by omega, h⟩
  · rw [if_pos h0] at h; exact absurd h h0
theorem step_bd {T : Nat → Int} {l : List Int} (h : tabErr T = 0) (hl : clsL l = 0) {i : Nat} (hi : i + 1 < l.length) : 30 ≤ stepT T l i ∧ stepT T l i ≤ 600 := by
  have h1 := clsL_zero hl i (by omega)
  have h2 := clsL_zero hl (i + 1) (by omega)
  exact tab_bd h (by omega)
theorem least_bd {T : Nat → Int} {l : List Int} (h : tabErr T = 0) (hl : clsL l = 0) : ∀ k, k < l.length → 0 ≤ leastTo T l k ∧ leastTo T l k ≤ 600 * k
  | 0, _ => by simp [leastTo]
  | k + 1, hk => by
    have h1 := least_bd h hl k (by omega)
    have h2 := step_bd h hl (i := k) (by omega)
    simp only [leastTo]
    omega

set_option maxHeartbeats 1000000 in
theorem least_any (T : Nat → Int) (A : Option Addr) (n c : Nat) (l : List Int) (w : World) (hl : l.length = n) (hn : n ≤ maxLen) (h : SlI w A n l) :
    Calls Try.prog 25 #[.agg (tab T), .slice A n c] w (Ret (leastV T l) w) := by
  by_cases h0 : clsErr T l = 0
  · obtain ⟨t0, hlen, c0⟩ := cls_parts h0
    have hV : leastV T l = .tuple #[.int .i64 (leastTo T l (l.length - 1)), .int .i64 0] := by unfold leastV; rw [if_pos h0]
    rw [hV]
    have h' : (clsErr T l != 0) = false := by simp [h0]
    have HL := Lib.hid hl
    have H := Lib.hid h
    have T0 := Lib.hid t0
    have C0 := Lib.hid c0
    have hn' : n ≤ 256 := by omega
    have hcl0 := classes_any T A n c l (w.alloc (.cells (tab T) 44)) hl hn (h.alloc _)
    have HC := Lib.hid hcl0
    clear hV h0 hl h t0 c0 hn hcl0
    go_enter Try.func25, Try.ntmps25
    go_wp2_with (first | (refine wpList_load_row rfl 44 _ rfl w.heap.size rfl 44 (tab T) (0, 0) _ (heap_alloc_new w _) Try.underlying44 rfl (by rw [tab_size]; exact wtInfo) ?_) | (go_at_call 66; refine (HC.out).mono ?_; rintro e w1 ⟨rfl, zw1, rfl⟩))
    go_loopg [7, 8] n (fun g s i wr => ∃ k : Nat, g = n - k ∧ k ≤ n - 1 ∧ i = .int .i64 (k + 1 : Nat) ∧ s = .int .i64 (leastTo T l k) ∧ ∃ z, wr = xt (w.alloc (.cells (tab T) 44)) z)
    case atStart => exact ⟨0, rfl, by omega, rfl, rfl, _, rfl⟩
    case round =>
      obtain ⟨k, rfl, hk, rfl, rfl, z, rfl⟩ := hrel
      by_cases hlt : k + 1 < n
      · obtain ⟨b, off, rfl, hb, hcell⟩ := SlI.at H.out hlt
        have hc := hcell k (by omega)
        have hc' := hcell (k + 1) (by omega)
        clear hcell
        have g1 := clsL_zero C0.out k (by rw [HL.out]; omega)
        have g2 := clsL_zero C0.out (k + 1) (by rw [HL.out]; omega)
        have g3 := step_bd T0.out C0.out (i := k) (by rw [HL.out]; omega)
        have g4 := least_bd T0.out C0.out k (by rw [HL.out]; omega)
        have hs : stepT T l k = T ((l[k]?.getD 0).toNat * 4 + (l[k + 1]?.getD 0).toNat) := rfl
        obtain ⟨x, hx⟩ := Int.eq_ofNat_of_zero_le g1.1
        obtain ⟨y, hy⟩ := Int.eq_ofNat_of_zero_le g2.1
        rw [hx] at hc g1
        rw [hy] at hc' g2
        rw [hs, hx, hy, Int.toNat_natCast, Int.toNat_natCast] at g3
        have hs' : leastTo T l (k + 1) = leastTo T l k + T (x * 4 + y) := by simp only [leastTo]; rw [hs, hx, hy, Int.toNat_natCast, Int.toNat_natCast]
        have HS := Lib.hid hs'
        clear hs hs' hx hy
        generalize hS : leastTo T l k = S at *
        go_wp2
        (refine wp_region_ext (by kernel_rfl) (by kernel_rfl) ?_; (repeat (go_big_quiet_step ((fail)))); refine wpQuiet_nil ?_; intro _ hw'; obtain ⟨z5, hw''⟩ := hw'; subst hw'')
        go_wp2
        go_roundg (n - (k + 1))
        case measure => omega
        case rel => exact ⟨k + 1, rfl, by omega, by go_num, by rw [HS.out], ext_of_below (by repeat (first | exact Below.refl _ _ | with_reducible refine Below.drew ?_ | with_reducible refine Below.alloc ?_ (by simp <;> omega) _ | with_reducible refine Below.setCell ?_ (by simp <;> omega) _ | with_reducible refine below_xt ?_ (by simp <;> omega) _ | with_reducible refine below_drewN ?_ _))⟩
      · go_wp2
        refine fin2 (by simp [results, Try.results25, go_sem]; rfl) ?_ rfl (by repeat (first | exact Below.refl _ _ | with_reducible refine Below.drew ?_ | with_reducible refine Below.alloc ?_ (by simp <;> omega) _ | with_reducible refine Below.setCell ?_ (by simp <;> omega) _ | with_reducible refine below_xt ?_ (by simp <;> omega) _ | with_reducible refine below_drewN ?_ _))
        rw [HL.out, show n - 1 = k by omega]
  · have hV : leastV T l = .tuple #[.int .i64 0, .int .i64 (clsErr T l)] := by unfold leastV; rw [if_neg h0]
    rw [hV]
    have h' : (clsErr T l != 0) = true := by simp [h0]
    have hcl0 := classes_any T A n c l (w.alloc (.cells (tab T) 44)) hl hn (h.alloc _)
    have HC := Lib.hid hcl0
    clear hV h0 h hcl0 hl
    go_enter Try.func25, Try.ntmps25
    go_wp2_with (first | (refine wpList_load_row rfl 44 _ rfl w.heap.size rfl 44 (tab T) (0, 0) _ (heap_alloc_new w _) Try.underlying44 rfl (by rw [tab_size]; exact wtInfo) ?_) | (go_at_call 66; refine (HC.out).mono ?_; rintro e w1 ⟨rfl, zw1, rfl⟩))
    refine fin2 (by simp [results, Try.results25, go_sem]; rfl) ?_ rfl (by repeat (first | exact Below.refl _ _ | with_reducible refine Below.drew ?_ | with_reducible refine Below.alloc ?_ (by simp <;> omega) _ | with_reducible refine Below.setCell ?_ (by simp <;> omega) _ | with_reducible refine below_xt ?_ (by simp <;> omega) _ | with_reducible refine below_drewN ?_ _))
    rfl
end Go.Proofs.Ytnmepkcbpkcegaa
