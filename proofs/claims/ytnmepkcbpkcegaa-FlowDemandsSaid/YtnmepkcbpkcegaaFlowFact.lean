/- The law's own fact on two capacities. -/
import Derived.Test.YtnmepkcbpkcegaaFlow5
namespace Go.Proofs.Ytnmepkcbpkcegaa
open Go.RowKit
attribute [local go_sem] xt_size xt_cell xt_frozen xt_setCell xt_drew xt_drewN
attribute [local go_sem] cell_alloc_ite frozen_alloc_ite setCell_alloc_ite

def capsL : List Cap := [⟨0, 10, 1⟩, ⟨10, 20, 1⟩]
theorem caps_any (w : World) : Calls Try.prog 67 #[] w (RetO LCap 64 id capsL w) := by
  go_enter Try.func67, Try.ntmps67
  go_wp2
  go_ret
  exact retO_mk (v := .slice (some ⟨w.heap.size, 0, none⟩) 2 2) (by repeat (first | exact Below.refl _ _ | with_reducible assumption | with_reducible refine Below.drew ?_ | with_reducible refine Below.alloc ?_ (by first | omega | (simp <;> omega)) _ | with_reducible refine Below.setCell ?_ (by first | omega | (simp <;> omega)) _ | with_reducible refine below_xt ?_ (by first | omega | (simp <;> omega)) _ | with_reducible refine below_drewN ?_ _)) (Own.lit (L := LCap) w w.heap.size (Nat.le_refl _) 64 capsL (by unfold maxLen; simp [capsL]) _ rfl _ rfl)

theorem capsL_ok : capsErr capsL = 0 := by decide
theorem sl_lits' (w : World) (l : List Int) (t : TypeId) (B : Nat) (hB : B = w.heap.size) : SlI (w.alloc (.cells (l.map (Value.int .i64)).toArray t)) (some ⟨B, 0, none⟩) l.length l := by
  subst hB
  refine Sl.lit w _ t fun i j hi hj => ?_
  obtain rfl : j = 0 := by omega
  simp [hi]
theorem dem_ok : demErr capsL [3, 4, 20] = 0 := by
  unfold demErr
  rw [if_neg (by simp [capsL_ok]), if_neg (by simp), if_neg]
  rintro ⟨i, hi, hb⟩
  have : i = 0 ∨ i = 1 ∨ i = 2 := by simp at hi; omega
  rcases this with rfl | rfl | rfl <;> simp at hb

theorem sl_litT {α : Type} (L : Lay α) (w : World) (l : List α) (t : TypeId) (B : Nat) (hB : B = w.heap.size) (cs : Array Value) (hcs : cs.toList = L.flat l) : SlT L (w.alloc (.cells cs t)) (some ⟨B, 0, none⟩) l.length l := by
  subst hB
  refine Sl.lit w _ t fun i j hi hj => ?_
  rw [← L.flat_get l i j hi hj, ← hcs]; simp

set_option maxRecDepth 100000 in
set_option maxHeartbeats 4000000 in
theorem flowFact_any (w : World) : Calls Try.prog 32 #[] w (Ret (.bool true) w) := by
  have e1 : atV capsL 10 = .tuple #[.int .i64 1, .int .i64 0] := rfl
  have e2 : roomV capsL 10 = .tuple #[.int .i64 1, .int .i64 0] := rfl
  have e3 : demTo capsL [3, 4, 20] 3 = [2, 0] := by decide
  have e4 : overTo capsL [3, 4, 20] 2 = [0] := by decide
  have e5 : cnt capsL [3, 4, 20] (-1) 3 = 1 := by decide
  have e6 : lessL capsL 3 = [⟨0, 10, 0⟩, ⟨10, 20, 1⟩] := rfl
  have e7 : capsErr [zCap] = 4 := by decide
  have m2 : 2 ≤ maxLen := by unfold maxLen; omega
  have m3 : 3 ≤ maxLen := by unfold maxLen; omega
  have M2 := Lib.hid m2
  have M3 := Lib.hid m3
  have E3 := Lib.hid e3
  have E4 := Lib.hid e4
  have E5 := Lib.hid e5
  have E6 := Lib.hid e6
  clear m2 m3 e3 e4 e5 e6
  go_enter Try.func32, Try.ntmps32
  go_wp2_with fail
  refine (caps_any _).mono ?_
  rintro e w1 ⟨A1, c1, z1, rfl, rfl, o1⟩
  rw [show capsL.length = 2 from rfl] at o1 ⊢
  have s1 := Lib.hid o1.sl
  clear o1
  go_wp2_with (go_at_call 33; refine (fat_any _ 2 _ capsL _ _ rfl M2.out (by repeat (first | exact s1.out | with_reducible refine Sl.xt ?_ _ | with_reducible refine Sl.alloc ?_ _ | with_reducible refine Sl.drew ?_))).mono ?_; rintro e w2 ⟨rfl, zw2, rfl⟩)
  refine (caps_any _).mono ?_
  rintro e w3 ⟨A3, c3, z3, rfl, rfl, o3⟩
  rw [show capsL.length = 2 from rfl] at o3 ⊢
  have s3 := Lib.hid o3.sl
  clear o3
  go_wp2_with fail
  refine (demand_good _ _ 2 _ 3 _ capsL [3, 4, 20] _ rfl rfl (by repeat (first | exact s3.out | with_reducible refine Sl.xt ?_ _ | with_reducible refine Sl.alloc ?_ _ | with_reducible refine Sl.drew ?_)) (by exact sl_lits' _ [3, 4, 20] _ _ (by simp)) dem_ok).mono ?_
  rintro e w4 ⟨A4, c4, z4, rfl, rfl, o4⟩
  rw [E3.out] at o4 ⊢
  rw [E5.out]
  rw [show ([2, 0] : List Int).length = 2 from rfl] at o4 ⊢
  have s4 := Lib.hid o4.sl
  clear o4
  unfold triOK
  go_wp2_with fail
  refine (caps_any _).mono ?_
  rintro e w5 ⟨A5, c5, z5, rfl, rfl, o5⟩
  rw [show capsL.length = 2 from rfl] at o5 ⊢
  have s5 := Lib.hid o5.sl
  clear o5
  go_wp2_with fail
  refine (over_good _ _ 2 _ 3 _ capsL [3, 4, 20] _ rfl rfl (by repeat (first | exact s5.out | with_reducible refine Sl.xt ?_ _ | with_reducible refine Sl.alloc ?_ _ | with_reducible refine Sl.drew ?_)) (by exact sl_lits' _ [3, 4, 20] _ _ (by simp)) dem_ok).mono ?_
  rintro e w6 ⟨A6, c6, z6, rfl, rfl, o6⟩
  rw [E4.out] at o6 ⊢
  rw [show ([0] : List Int).length = 1 from rfl] at o6 ⊢
  have s6 := Lib.hid o6.sl
  clear o6
  unfold pairOK
  go_wp2_with fail
  refine (caps_any _).mono ?_
  rintro e w7 ⟨A7, c7, z7, rfl, rfl, o7⟩
  rw [show capsL.length = 2 from rfl] at o7 ⊢
  have s7 := Lib.hid o7.sl
  clear o7
  go_wp2_with (go_at_call 34; refine (room_any _ 2 _ capsL _ _ rfl M2.out (by repeat (first | exact s7.out | with_reducible refine Sl.xt ?_ _ | with_reducible refine Sl.alloc ?_ _ | with_reducible refine Sl.drew ?_))).mono ?_; rintro e w8 ⟨rfl, zw8, rfl⟩)
  refine (caps_any _).mono ?_
  rintro e w9 ⟨A9, c9, z9, rfl, rfl, o9⟩
  rw [show capsL.length = 2 from rfl] at o9 ⊢
  have s9 := Lib.hid o9.sl
  clear o9
  go_wp2_with fail
  refine (less_good _ 2 _ capsL 3 _ rfl M2.out (by repeat (first | exact s9.out | with_reducible refine Sl.xt ?_ _ | with_reducible refine Sl.alloc ?_ _ | with_reducible refine Sl.drew ?_)) rfl).mono ?_
  rintro e w10 ⟨A10, c10, z10, rfl, hw, o10⟩
  rw [E6.out] at o10 ⊢
  rw [show ([⟨0, 10, 0⟩, ⟨10, 20, 1⟩] : List Cap).length = 2 from rfl] at o10 ⊢
  obtain ⟨g, rfl, hg1, hg2, _, hgc, _⟩ := Own.at_ o10 (by omega)
  have d0 : w10.cell? ⟨g, 2, none⟩ = some (.int .i64 0) := hgc 0 2 (by omega) (by decide)
  have d1 : w10.cell? ⟨g, 5, none⟩ = some (.int .i64 1) := hgc 1 2 (by omega) (by decide)
  have s4' := Lib.hid (show SlT LInt w10 A4 2 [2, 0] by rw [hw]; exact (by repeat (first | exact s4.out | with_reducible refine Sl.xt ?_ _ | with_reducible refine Sl.alloc ?_ _ | with_reducible refine Sl.drew ?_)))
  have s6' := Lib.hid (show SlT LInt w10 A6 1 [0] by rw [hw]; exact (by repeat (first | exact s6.out | with_reducible refine Sl.xt ?_ _ | with_reducible refine Sl.alloc ?_ _ | with_reducible refine Sl.drew ?_)))
  have hB : Below w.heap.size w w10 := by rw [hw]; exact (by repeat (first | exact Below.refl _ _ | with_reducible assumption | with_reducible refine Below.drew ?_ | with_reducible refine Below.alloc ?_ (by first | omega | (simp <;> omega)) _ | with_reducible refine Below.setCell ?_ (by first | omega | (simp <;> omega)) _ | with_reducible refine below_xt ?_ (by first | omega | (simp <;> omega)) _ | with_reducible refine below_drewN ?_ _))
  have hBs := hB.size
  clear hgc o10 hw hg1 s4 s6 s1 s3 s5 s7 s9
  unfold pairOK
  go_wp2_with fail
  refine (equal_LInt _ _ 2 _ _ [2, 0] _ M2.out (by repeat (first | exact s4'.out | with_reducible refine Sl.xt ?_ _ | with_reducible refine Sl.alloc ?_ _ | with_reducible refine Sl.drew ?_)) (by exact sl_lits' _ [2, 0] _ _ (by simp))).mono ?_
  rintro e w11 ⟨rfl, z11, rfl⟩
  go_wp2_with fail
  refine (equal_LInt _ _ 1 _ _ [0] _ (by unfold maxLen; omega) (by repeat (first | exact s6'.out | with_reducible refine Sl.xt ?_ _ | with_reducible refine Sl.alloc ?_ _ | with_reducible refine Sl.drew ?_)) (by exact sl_lits' _ [0] _ _ (by simp))).mono ?_
  rintro e w12 ⟨rfl, z12, rfl⟩
  go_wp2_with fail
  refine (fcheck _ 1 _ [zCap] _ rfl (by unfold maxLen; omega) (by exact sl_litT LCap _ [zCap] _ _ (by simp) _ rfl)).mono ?_
  rintro e w13 ⟨rfl, z13, rfl⟩
  go_wp2_with fail
  refine fin2 (by simp [results, Try.results32, go_sem]; rfl) ?_ rfl (by repeat (first | exact Below.refl _ _ | with_reducible assumption | with_reducible refine Below.drew ?_ | with_reducible refine Below.alloc ?_ (by first | omega | (simp <;> omega)) _ | with_reducible refine Below.setCell ?_ (by first | omega | (simp <;> omega)) _ | with_reducible refine below_xt ?_ (by first | omega | (simp <;> omega)) _ | with_reducible refine below_drewN ?_ _))
  rfl
end Go.Proofs.Ytnmepkcbpkcegaa
