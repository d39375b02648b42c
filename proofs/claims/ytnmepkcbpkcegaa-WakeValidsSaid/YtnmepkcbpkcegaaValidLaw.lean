/- The walk of the law WakeValids: times that are far enough apart for all neighbours are so for all pairs. -/
import Derived.Test.YtnmepkcbpkcegaaWakeLaws
namespace Go.Proofs.Ytnmepkcbpkcegaa
open Go.RowKit
attribute [local go_sem] xt_size xt_cell xt_frozen xt_setCell xt_drew xt_drewN tab_get
attribute [local go_sem] cell_alloc_ite frozen_alloc_ite setCell_alloc_ite

/-- The required time between elements i and k. -/
def apartT (T : Nat → Int) (l : List Int) (i k : Nat) : Int := T ((l[i]?.getD 0).toNat * 4 + (l[k]?.getD 0).toNat)
def farAt (T : Nat → Int) (l ts : List Int) (i k : Nat) : Prop := apartT T l i k ≤ ts[k]?.getD 0 - ts[i]?.getD 0

theorem tri3 {T : Nat → Int} (h : tabErr T = 0) {a b c : Nat} (ha : a < 4) (hb : b < 4) (hc : c < 4) : T (a * 4 + c) ≤ T (a * 4 + b) + T (b * 4 + c) := by
  have := tab_tri h (i := 16 * a + 4 * b + c) (by omega)
  unfold triAt at this
  rw [show (16 * a + 4 * b + c) / 16 = a by omega, show (16 * a + 4 * b + c) / 4 % 4 = b by omega, show (16 * a + 4 * b + c) % 4 = c by omega, Nat.mul_comm 4 a, Nat.mul_comm 4 b] at this
  exact this

/-- Neighbours suffice. -/
theorem far_of_adj {T : Nat → Int} {l ts : List Int} (h : tabErr T = 0) (hl : clsL l = 0) (had : ∀ i, i + 1 < l.length → adjAt T l ts i) :
    ∀ d i, i + d + 1 < l.length → farAt T l ts i (i + d + 1)
  | 0, i, hi => had i (by omega)
  | d + 1, i, hi => by
    have h1 := far_of_adj h hl had d i (by omega)
    have h2 := had (i + d + 1) (by omega)
    have c1 := clsL_zero hl i (by omega)
    have c2 := clsL_zero hl (i + d + 1) (by omega)
    have c3 := clsL_zero hl (i + d + 1 + 1) (by omega)
    have t := tri3 h (a := (l[i]?.getD 0).toNat) (b := (l[i + d + 1]?.getD 0).toNat) (c := (l[i + d + 1 + 1]?.getD 0).toNat) (by omega) (by omega) (by omega)
    unfold farAt apartT at h1 ⊢
    unfold adjAt stepT at h2
    have e : i + (d + 1) + 1 = i + d + 1 + 1 := by omega
    rw [e]
    omega

theorem adj_all {T : Nat → Int} {l ts : List Int} (h : tabErr T = 0) (hl : clsL l = 0) : adjB T l ts = true ↔ ∀ i k, i < k → k < l.length → farAt T l ts i k := by
  constructor
  · intro hb i k hik hk
    have had : ∀ i, i + 1 < l.length → adjAt T l ts i := Classical.byContradiction fun hh => by rw [adjB_false hh] at hb; cases hb
    have := far_of_adj h hl had (k - i - 1) i (by omega)
    rwa [show i + (k - i - 1) + 1 = k by omega] at this
  · intro hf
    exact adjB_true fun i hi => hf i (i + 1) (by omega) hi

theorem pair_cls {l ts : List Int} (hl : l.length = ts.length) (h : pairErr l ts = 0) : clsL l = 0 ∧ ∀ i, i < ts.length → 0 ≤ ts[i]?.getD 0 ∧ ts[i]?.getD 0 ≤ 200000 := by
  induction l generalizing ts with
  | nil =>
    refine ⟨rfl, fun i hi => ?_⟩
    simp at hl; omega
  | cons x xs ih =>
    cases ts with
    | nil => simp at hl
    | cons t ts =>
      simp only [pairErr] at h
      by_cases h1 : classE x ≠ 0
      · rw [if_pos h1] at h; omega
      · rw [if_neg h1] at h
        by_cases h2 : t < 0 ∨ 200000 < t
        · rw [if_pos h2] at h; omega
        · rw [if_neg h2] at h
          obtain ⟨g1, g2⟩ := ih (by simpa using hl) h
          have hx : 0 ≤ x ∧ x ≤ 3 := by
            unfold classE at h1
            by_cases hh : x < 0 ∨ 3 < x
            · rw [if_pos hh] at h1; omega
            · omega
          refine ⟨clsL_good fun i hi => ?_, fun i hi => ?_⟩
          · cases i with
            | zero => simpa using hx
            | succ i => simpa using clsL_zero g1 i (by simpa using hi)
          · cases i with
            | zero => simp; omega
            | succ i => simpa using g2 i (by simpa using hi)

set_option maxRecDepth 100000 in
set_option maxHeartbeats 4000000 in
theorem wvalids_early (T : Nat → Int) (A B : Option Addr) (n c m d : Nat) (l ts : List Int) (w : World) (hl : l.length = n) (hm : ts.length = m) (hn : n ≤ maxLen) (hmm : m ≤ maxLen) (hA : SlI w A n l) (hB : SlI w B m ts)
    (h : tabErr T ≠ 0 ∨ 256 < n ∨ 256 < m ∨ n ≠ m) :
    Calls Try.prog 8 #[.agg (tab T), .slice A n c, .slice B m d] w (Ret (.bool true) w) := by
  have L1 : ∀ z, Hid (Calls Try.prog 31 #[.agg (tab T), .slice A n c, .slice B m d] (xt (w.alloc (.cells (tab T) 44)) z) (Ret (validV T l ts) (xt (w.alloc (.cells (tab T) 44)) z))) :=
    fun z => valid_any T A B n c m d l ts _ hl hm hn hmm ((hA.alloc _).xt z) ((hB.alloc _).xt z)
  unfold maxLen at hn hmm
  clear hA hB
  by_cases h0 : tabErr T = 0
  · have h0' : (tabErr T == 0) = true := by simp [h0]
    by_cases h1 : 256 < n ∨ 256 < m
    · have hV := valid_bad (T := T) (l := l) (ts := ts) (e := 2) (by unfold validErr; rw [if_neg (by simp [h0]), if_pos (by rw [hl, hm]; exact h1)]) (by omega)
      clear h h0 hl hm
      by_cases h2 : 256 < n
      · have h2' : decide (256 < n) = true := by simp; omega
        go_enter Try.func8, Try.ntmps8
        go_wp2_with (first | (go_at_call 24; refine (wakeFact_any _).mono ?_; rintro e w1 ⟨rfl, zw1, rfl⟩) | (refine wpList_load_row rfl 44 _ rfl w.heap.size rfl 44 (tab T) (0, 0) _ (by (repeat (first | rw [xt_heap _ _ _ (by simp <;> omega)] | rw [heap_alloc_old _ _ _ (by simp <;> omega)])); exact heap_alloc_at _ _ _ (by simp)) Try.underlying44 rfl (by rw [tab_size]; exact wtInfo) ?_) | (go_at_call 31; refine ((L1 _).out).mono ?_; rintro e w2 ⟨rfl, zw2, rfl⟩) | (go_at_call 26; refine (tableError_any _ _).mono ?_; rintro e w3 ⟨rfl, zw3, rfl⟩))
        refine wp_loop_rounds 1 ?_
        rw [rounds_succ]
        go_wp2
        refine fin2 (by simp [results, Try.results8, go_sem]; rfl) ?_ rfl (by repeat (first | exact Below.refl _ _ | with_reducible refine Below.drew ?_ | with_reducible refine Below.alloc ?_ (by simp <;> omega) _ | with_reducible refine Below.setCell ?_ (by simp <;> omega) _ | with_reducible refine below_xt ?_ (by simp <;> omega) _ | with_reducible refine below_drewN ?_ _))
        rfl
      · have h3 : 256 < m := by omega
        have h2' : decide (256 < n) = false := by simp; omega
        have h3' : decide (256 < m) = true := by simp; omega
        go_enter Try.func8, Try.ntmps8
        go_wp2_with (first | (go_at_call 24; refine (wakeFact_any _).mono ?_; rintro e w1 ⟨rfl, zw1, rfl⟩) | (refine wpList_load_row rfl 44 _ rfl w.heap.size rfl 44 (tab T) (0, 0) _ (by (repeat (first | rw [xt_heap _ _ _ (by simp <;> omega)] | rw [heap_alloc_old _ _ _ (by simp <;> omega)])); exact heap_alloc_at _ _ _ (by simp)) Try.underlying44 rfl (by rw [tab_size]; exact wtInfo) ?_) | (go_at_call 31; refine ((L1 _).out).mono ?_; rintro e w2 ⟨rfl, zw2, rfl⟩) | (go_at_call 26; refine (tableError_any _ _).mono ?_; rintro e w3 ⟨rfl, zw3, rfl⟩))
        refine wp_loop_rounds 1 ?_
        rw [rounds_succ]
        go_wp2
        refine fin2 (by simp [results, Try.results8, go_sem]; rfl) ?_ rfl (by repeat (first | exact Below.refl _ _ | with_reducible refine Below.drew ?_ | with_reducible refine Below.alloc ?_ (by simp <;> omega) _ | with_reducible refine Below.setCell ?_ (by simp <;> omega) _ | with_reducible refine below_xt ?_ (by simp <;> omega) _ | with_reducible refine below_drewN ?_ _))
        rfl
    · have h2 : n ≠ m := by omega
      have hV := valid_bad (T := T) (l := l) (ts := ts) (e := 3) (by unfold validErr; rw [if_neg (by simp [h0]), if_neg (by rw [hl, hm]; exact h1), if_pos (by rw [hl, hm]; exact h2)]) (by omega)
      have h3 : ((n : Int) != (m : Int)) = true := by simp; omega
      have h1a : n ≤ 256 := by omega
      have h1b : m ≤ 256 := by omega
      have h2a : decide (256 < n) = false := by simp; omega
      have h2b : decide (256 < m) = false := by simp; omega
      clear h h0 hl hm h1
      go_enter Try.func8, Try.ntmps8
      go_wp2_with (first | (go_at_call 24; refine (wakeFact_any _).mono ?_; rintro e w1 ⟨rfl, zw1, rfl⟩) | (refine wpList_load_row rfl 44 _ rfl w.heap.size rfl 44 (tab T) (0, 0) _ (by (repeat (first | rw [xt_heap _ _ _ (by simp <;> omega)] | rw [heap_alloc_old _ _ _ (by simp <;> omega)])); exact heap_alloc_at _ _ _ (by simp)) Try.underlying44 rfl (by rw [tab_size]; exact wtInfo) ?_) | (go_at_call 31; refine ((L1 _).out).mono ?_; rintro e w2 ⟨rfl, zw2, rfl⟩) | (go_at_call 26; refine (tableError_any _ _).mono ?_; rintro e w3 ⟨rfl, zw3, rfl⟩))
      refine wp_loop_rounds 1 ?_
      rw [rounds_succ]
      go_wp2
      refine fin2 (by simp [results, Try.results8, go_sem]; rfl) ?_ rfl (by repeat (first | exact Below.refl _ _ | with_reducible refine Below.drew ?_ | with_reducible refine Below.alloc ?_ (by simp <;> omega) _ | with_reducible refine Below.setCell ?_ (by simp <;> omega) _ | with_reducible refine below_xt ?_ (by simp <;> omega) _ | with_reducible refine below_drewN ?_ _))
      rfl
  · have hV := valid_bad (T := T) (l := l) (ts := ts) (e := tabErr T) (by unfold validErr; rw [if_pos h0]) h0
    have h0' : (tabErr T == 0) = false := by simp [h0]
    have h0'' : (tabErr T != 0) = true := by simp [h0]
    clear h h0 hl hm
    go_enter Try.func8, Try.ntmps8
    go_wp2_with (first | (go_at_call 24; refine (wakeFact_any _).mono ?_; rintro e w1 ⟨rfl, zw1, rfl⟩) | (refine wpList_load_row rfl 44 _ rfl w.heap.size rfl 44 (tab T) (0, 0) _ (by (repeat (first | rw [xt_heap _ _ _ (by simp <;> omega)] | rw [heap_alloc_old _ _ _ (by simp <;> omega)])); exact heap_alloc_at _ _ _ (by simp)) Try.underlying44 rfl (by rw [tab_size]; exact wtInfo) ?_) | (go_at_call 31; refine ((L1 _).out).mono ?_; rintro e w2 ⟨rfl, zw2, rfl⟩) | (go_at_call 26; refine (tableError_any _ _).mono ?_; rintro e w3 ⟨rfl, zw3, rfl⟩))
    refine wp_loop_rounds 1 ?_
    rw [rounds_succ]
    go_wp2
    refine fin2 (by simp [results, Try.results8, go_sem]; rfl) ?_ rfl (by repeat (first | exact Below.refl _ _ | with_reducible refine Below.drew ?_ | with_reducible refine Below.alloc ?_ (by simp <;> omega) _ | with_reducible refine Below.setCell ?_ (by simp <;> omega) _ | with_reducible refine below_xt ?_ (by simp <;> omega) _ | with_reducible refine below_drewN ?_ _))
    rfl
end Go.Proofs.Ytnmepkcbpkcegaa
