/- Tables of wake turbulence: wake.Check and the reference's TableError. -/
import Derived.Test.YtlhhdonpoglfkaaKit
import Derived.Laws.Rows
import Derived.Deep.LoopGhost
namespace Go.Proofs.Ytlhhdonpoglfkaa
open Go.RowKit
attribute [local go_sem] xt_size xt_cell xt_frozen xt_setCell xt_drew xt_drewN
attribute [local go_sem] cell_alloc_ite frozen_alloc_ite setCell_alloc_ite

/-- The cells of a table. -/
def tab (T : Nat → Int) : Array Value := Array.ofFn (n := 16) fun i => .int .i64 (T i)
def tabRow (T : Nat → Int) (i : Nat) : Array Value := #[.int .i64 (T (4 * i)), .int .i64 (T (4 * i + 1)), .int .i64 (T (4 * i + 2)), .int .i64 (T (4 * i + 3))]
theorem tab_get (T : Nat → Int) (n : Nat) : (tab T)[n]? = if n < 16 then some (.int .i64 (T n)) else none := by
  unfold tab
  rw [Array.getElem?_ofFn]
  split <;> rfl
theorem tab_size (T : Nat → Int) : (tab T).size = 16 := by simp [tab]
attribute [local go_sem] tab_get tab_size

def okAt (T : Nat → Int) (n : Nat) : Prop := 30 ≤ T n ∧ T n ≤ 600
def triAt (T : Nat → Int) (i : Nat) : Prop := T (4 * (i / 16) + i % 4) ≤ T (4 * (i / 16) + i / 4 % 4) + T (4 * (i / 4 % 4) + i % 4)
open Classical in
noncomputable def tabErr (T : Nat → Int) : Int := if ∀ n, n < 16 → okAt T n then (if ∀ i, i < 64 → triAt T i then 0 else 3) else 4

theorem tab_range {T : Nat → Int} {n : Nat} (hn : n < 16) (h : ¬ okAt T n) : tabErr T = 4 := by
  unfold tabErr; rw [if_neg (fun hh => h (hh n hn))]
theorem tab_form {T : Nat → Int} {i : Nat} (hok : ∀ n, n < 16 → okAt T n) (hi : i < 64) (h : ¬ triAt T i) : tabErr T = 3 := by
  unfold tabErr; rw [if_pos hok, if_neg (fun hh => h (hh i hi))]
theorem tab_good {T : Nat → Int} (hok : ∀ n, n < 16 → okAt T n) (h : ∀ i, i < 64 → triAt T i) : tabErr T = 0 := by
  unfold tabErr; rw [if_pos hok, if_pos h]

theorem heap_alloc_xt (w : World) (o : Obj) (z : More) : (xt (w.alloc o) z).heap[w.heap.size]? = some o := by
  rw [xt_heap _ _ _ (by simp)]; exact heap_alloc_new w o

theorem index_tab (T : Nat → Int) (W : World) (k : Nat) (hk : k < 4) : (Instr.index 26 (.agg (tab T)) (.int .i64 k)).run Try.prog W = .ok (.agg #[.int .i64 (T (4 * k)), .int .i64 (T (4 * k + 1)), .int .i64 (T (4 * k + 2)), .int .i64 (T (4 * k + 3))]) W := by
  have h : k = 0 ∨ k = 1 ∨ k = 2 ∨ k = 3 := by omega
  rcases h with rfl | rfl | rfl | rfl <;> (show _ = _; kernel_rfl)
theorem index_row (T : Nat → Int) (W : World) (k j : Nat) (hj : j < 4) : (Instr.index 24 (.agg #[.int .i64 (T (4 * k)), .int .i64 (T (4 * k + 1)), .int .i64 (T (4 * k + 2)), .int .i64 (T (4 * k + 3))]) (.int .i64 j)).run Try.prog W = .ok (.int .i64 (T (4 * k + j))) W := by
  have h : j = 0 ∨ j = 1 ∨ j = 2 ∨ j = 3 := by omega
  rcases h with rfl | rfl | rfl | rfl <;> (show _ = _; kernel_rfl)

set_option maxRecDepth 100000 in
set_option maxHeartbeats 4000000 in
theorem wcheck (T : Nat → Int) (w : World) : Calls Try.prog 84 #[.agg (tab T)] w (Ret (.int .i64 (tabErr T)) w) := by
  have hidx := index_tab T
  have hidx2 := index_row T
  go_enter Try.func84, Try.ntmps84
  go_wp2_with (refine wpList_load_row rfl 26 _ rfl w.heap.size rfl 26 (tab T) (0, 0) _ (heap_alloc_new w _) Try.underlying26 rfl (by rw [tab_size]; kernel_rfl) ?_)
  go_loopg [11] 4 (fun g i wr => ∃ k : Nat, g = 4 - k ∧ k ≤ 4 ∧ i = .int .i64 k ∧ (∀ n, n < 4 * k → okAt T n) ∧ ∃ z, wr = xt (w.alloc (.cells (tab T) 26)) z)
  case atStart => exact ⟨0, rfl, by omega, rfl, by omega, ext_of_below (Below.refl _ _)⟩
  case round =>
    obtain ⟨k, rfl, hk, rfl, hok, z, rfl⟩ := hrel
    have Hok := Lib.hid hok
    clear hok
    by_cases hlt : k < 4
    · have hd : decide ((k : Int) < 4) = true := by simp; omega
      go_wp2
      go_loopg [15] 4 (fun g i wr => ∃ m : Nat, g = 4 - m ∧ m ≤ 4 ∧ i = .int .i64 m ∧ (∀ n, n < 4 * k + m → okAt T n) ∧ ∃ z, wr = xt (w.alloc (.cells (tab T) 26)) z)
      case atStart => exact ⟨0, rfl, by omega, rfl, Hok.out, ext_of_below (by repeat (first | exact Below.refl _ _ | with_reducible assumption | with_reducible refine Below.drew ?_ | with_reducible refine Below.alloc ?_ (by first | omega | (simp <;> omega)) _ | with_reducible refine Below.setCell ?_ (by first | omega | (simp <;> omega)) _ | with_reducible refine below_xt ?_ (by first | omega | (simp <;> omega)) _ | with_reducible refine below_drewN ?_ _))⟩
      case round =>
        obtain ⟨m, rfl, hm, rfl, hok2, z2, rfl⟩ := hrel
        have Hok2 := Lib.hid hok2
        clear hok2
        by_cases hlt2 : m < 4
        · go_wp2
          · have hb : T (4 * k + m) < 30 ∨ 600 < T (4 * k + m) := by assumption
            refine fin2 (by simp [results, Try.results84, go_sem]; rfl) ?_ rfl (by repeat (first | exact Below.refl _ _ | with_reducible assumption | with_reducible refine Below.drew ?_ | with_reducible refine Below.alloc ?_ (by first | omega | (simp <;> omega)) _ | with_reducible refine Below.setCell ?_ (by first | omega | (simp <;> omega)) _ | with_reducible refine below_xt ?_ (by first | omega | (simp <;> omega)) _ | with_reducible refine below_drewN ?_ _))
            rw [tab_range (n := 4 * k + m) (by omega) (by unfold okAt; omega)]
          · have hb : 30 ≤ T (4 * k + m) ∧ T (4 * k + m) ≤ 600 := by assumption
            go_roundg (4 - (m + 1))
            case measure => omega
            case rel => exact ⟨m + 1, rfl, by omega, by go_num, fun n hn => (by
              by_cases e : n = 4 * k + m
              · subst e; exact hb
              · exact Hok2.out n (by omega)), z2, rfl⟩
          · have hb : T (4 * k + m) < 30 := by assumption
            refine fin2 (by simp [results, Try.results84, go_sem]; rfl) ?_ rfl (by repeat (first | exact Below.refl _ _ | with_reducible assumption | with_reducible refine Below.drew ?_ | with_reducible refine Below.alloc ?_ (by first | omega | (simp <;> omega)) _ | with_reducible refine Below.setCell ?_ (by first | omega | (simp <;> omega)) _ | with_reducible refine below_xt ?_ (by first | omega | (simp <;> omega)) _ | with_reducible refine below_drewN ?_ _))
            rw [tab_range (n := 4 * k + m) (by omega) (by unfold okAt; omega)]
        · obtain rfl : m = 4 := by omega
          go_wp2
          go_roundg (4 - (k + 1))
          case measure => omega
          case rel => exact ⟨k + 1, rfl, by omega, by go_num, fun n hn => Hok2.out n (by omega), z2, rfl⟩
    · obtain rfl : k = 4 := by omega
      go_wp2
      go_loopg [26] 4 (fun g i wr => ∃ k : Nat, g = 4 - k ∧ k ≤ 4 ∧ i = .int .i64 k ∧ (∀ n, n < 16 * k → triAt T n) ∧ ∃ z, wr = xt (w.alloc (.cells (tab T) 26)) z)
      case atStart => exact ⟨0, rfl, by omega, rfl, by omega, z, rfl⟩
      case round =>
        obtain ⟨a, rfl, ha, rfl, ht, z2, rfl⟩ := hrel
        have Ht := Lib.hid ht
        clear ht
        by_cases hlta : a < 4
        · have hda : decide ((a : Int) < 4) = true := by simp; omega
          go_wp2
          go_loopg [29] 4 (fun g i wr => ∃ k : Nat, g = 4 - k ∧ k ≤ 4 ∧ i = .int .i64 k ∧ (∀ n, n < 16 * a + 4 * k → triAt T n) ∧ ∃ z, wr = xt (w.alloc (.cells (tab T) 26)) z)
          case atStart => exact ⟨0, rfl, by omega, rfl, Ht.out, z2, rfl⟩
          case round =>
            obtain ⟨b, rfl, hb, rfl, ht2, z3, rfl⟩ := hrel
            have Ht2 := Lib.hid ht2
            clear ht2
            by_cases hltb : b < 4
            · have hdb : decide ((b : Int) < 4) = true := by simp; omega
              go_wp2
              go_loopg [32] 4 (fun g i wr => ∃ k : Nat, g = 4 - k ∧ k ≤ 4 ∧ i = .int .i64 k ∧ (∀ n, n < 16 * a + 4 * b + k → triAt T n) ∧ ∃ z, wr = xt (w.alloc (.cells (tab T) 26)) z)
              case atStart => exact ⟨0, rfl, by omega, rfl, Ht2.out, z3, rfl⟩
              case round =>
                obtain ⟨c, rfl, hc, rfl, ht3, z4, rfl⟩ := hrel
                have Ht3 := Lib.hid ht3
                clear ht3
                by_cases hltc : c < 4
                · have b1 : 30 ≤ T (a * 4 + b) ∧ T (a * 4 + b) ≤ 600 := Hok.out (a * 4 + b) (by omega)
                  have b2 : 30 ≤ T (b * 4 + c) ∧ T (b * 4 + c) ≤ 600 := Hok.out (b * 4 + c) (by omega)
                  have hdc : decide ((c : Int) < 4) = true := by simp; omega
                  have ea : (16 * a + 4 * b + c) / 16 = a := by omega
                  have eb : (16 * a + 4 * b + c) / 4 % 4 = b := by omega
                  have ec : (16 * a + 4 * b + c) % 4 = c := by omega
                  have ht : triAt T (16 * a + 4 * b + c) ↔ T (a * 4 + c) ≤ T (a * 4 + b) + T (b * 4 + c) := by
                    unfold triAt; rw [ea, eb, ec, Nat.mul_comm 4 a, Nat.mul_comm 4 b]
                  have HT := Lib.hid ht
                  clear ht ea eb ec
                  go_wp2
                  (refine wp_region_ext (by kernel_rfl) (by kernel_rfl) ?_; (repeat (go_big_quiet_step ((fail)))); refine wpQuiet_nil ?_; intro _ hw'; obtain ⟨z5, hw''⟩ := hw'; subst hw'')
                  go_wp2
                  · have hb : T (a * 4 + b) + T (b * 4 + c) < T (a * 4 + c) := by assumption
                    refine fin2 (by simp [results, Try.results84, go_sem]; rfl) ?_ rfl (by repeat (first | exact Below.refl _ _ | with_reducible assumption | with_reducible refine Below.drew ?_ | with_reducible refine Below.alloc ?_ (by first | omega | (simp <;> omega)) _ | with_reducible refine Below.setCell ?_ (by first | omega | (simp <;> omega)) _ | with_reducible refine below_xt ?_ (by first | omega | (simp <;> omega)) _ | with_reducible refine below_drewN ?_ _))
                    rw [tab_form (i := 16 * a + 4 * b + c) (fun n hn => Hok.out n (by omega)) (by omega) (by rw [HT.out]; omega)]
                  · have hb : T (a * 4 + c) ≤ T (a * 4 + b) + T (b * 4 + c) := by assumption
                    go_roundg (4 - (c + 1))
                    case measure => omega
                    case rel => exact ⟨c + 1, rfl, by omega, by go_num, fun n hn => (by
                      by_cases e : n = 16 * a + 4 * b + c
                      · subst e; exact HT.out.2 hb
                      · exact Ht3.out n (by omega)), ext_of_below (by repeat (first | exact Below.refl _ _ | with_reducible assumption | with_reducible refine Below.drew ?_ | with_reducible refine Below.alloc ?_ (by first | omega | (simp <;> omega)) _ | with_reducible refine Below.setCell ?_ (by first | omega | (simp <;> omega)) _ | with_reducible refine below_xt ?_ (by first | omega | (simp <;> omega)) _ | with_reducible refine below_drewN ?_ _))⟩
                · obtain rfl : c = 4 := by omega
                  go_wp2
                  go_roundg (4 - (b + 1))
                  case measure => omega
                  case rel => exact ⟨b + 1, rfl, by omega, by go_num, fun n hn => Ht3.out n (by omega), z4, rfl⟩
            · obtain rfl : b = 4 := by omega
              go_wp2
              go_roundg (4 - (a + 1))
              case measure => omega
              case rel => exact ⟨a + 1, rfl, by omega, by go_num, fun n hn => Ht2.out n (by omega), z3, rfl⟩
        · obtain rfl : a = 4 := by omega
          go_wp2
          refine fin2 (by simp [results, Try.results84, go_sem]; rfl) ?_ rfl (by repeat (first | exact Below.refl _ _ | with_reducible assumption | with_reducible refine Below.drew ?_ | with_reducible refine Below.alloc ?_ (by first | omega | (simp <;> omega)) _ | with_reducible refine Below.setCell ?_ (by first | omega | (simp <;> omega)) _ | with_reducible refine below_xt ?_ (by first | omega | (simp <;> omega)) _ | with_reducible refine below_drewN ?_ _))
          rw [tab_good (fun n hn => Hok.out n (by omega)) (fun n hn => Ht.out n (by omega))]
end Go.Proofs.Ytlhhdonpoglfkaa
