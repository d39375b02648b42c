/- The walk of the law FlowAsks where a slot can be taken. -/
import Derived.Test.YtnmepkcbpkcegaaFlowAsks
namespace Go.Proofs.Ytnmepkcbpkcegaa
open Go.RowKit
attribute [local go_sem] xt_size xt_cell xt_frozen xt_setCell xt_drew xt_drewN
attribute [local go_sem] cell_alloc_ite frozen_alloc_ite setCell_alloc_ite

set_option maxRecDepth 100000 in
set_option maxHeartbeats 2000000 in
theorem asks_good (A : Option Addr) (n c : Nat) (l : List Cap) (t : Int) (w : World) (hl : l.length = n) (hn : n ≤ maxLen) (h : SlC w A n l) (he : lessErr l t = 0) :
    Calls Try.prog 9 #[.slice A n c, .int .i64 t] w (Ret (.bool true) w) := by
  have h0 : capsErr l = 0 := by
    unfold lessErr at he
    by_cases h0 : capsErr l = 0
    · exact h0
    · rw [if_pos h0] at he; exact absurd he h0
  have h1 : ¬ capIdx l t < 0 := by
    intro h1
    unfold lessErr at he
    rw [if_neg (by simp [h0]), if_pos h1] at he
    omega
  obtain ⟨j, hj, hji⟩ := capIdx_lt (l := l) (t := t) (by omega)
  have hm : (l[j]?.getD zCap).m ≠ 0 := by
    intro hm
    unfold lessErr at he
    rw [if_neg (by simp [h0]), if_neg h1, hji, Int.toNat_natCast, if_pos hm] at he
    omega
  have e1 : atV l t = .tuple #[.int .i64 j, .int .i64 0] := by unfold atV; rw [if_neg (by simp [h0]), if_neg h1, hji]
  have hLL : lessL l t = l.set j { (l[j]?.getD zCap) with m := (l[j]?.getD zCap).m - 1 } := by unfold lessL; rw [hji, Int.toNat_natCast]
  obtain ⟨p0, p1, p2⟩ := caps_parts h0
  have hn' : n ≤ 256 := by omega
  rw [hl] at hj
  have hbd := fun k hk => room_bd p1 t k hk
  have e2 : roomV l t = .tuple #[.int .i64 (roomTo l t n), .int .i64 0] := by unfold roomV; rw [if_pos h0, hl]
  have hlast := hbd n (by omega)
  have hbj := p1 j (by omega)
  have H := Lib.hid h
  have HL := Lib.hid hl
  have HN := Lib.hid hn
  have H0 := Lib.hid h0
  have HE := Lib.hid he
  have HB := Lib.hid hbd
  have HP := Lib.hid p1
  have HLL := Lib.hid hLL
  have HJ := Lib.hid hji
  have hee : (roomTo l t n != roomTo l t n) = false := by simp
  have e4 : (capsErr l != 0) = false := by simp [h0]
  have e5 : (capsErr l != capsErr l) = false := by simp
  have e6 : (0 != capsErr l) = false := by rw [h0]; rfl
  have hmb : ((l[j]?.getD LCap.z).m == 0) = false := by rw [beq_eq_false_iff_ne]; exact hm
  unfold capBad at hbj
  have hbd' : 0 ≤ (l[j]?.getD LCap.z).m ∧ (l[j]?.getD LCap.z).m ≤ 24 := by
    show 0 ≤ (l[j]?.getD zCap).m ∧ (l[j]?.getD zCap).m ≤ 24
    omega
  have hjj : ((j : Int) != (j : Int)) = false := by simp
  clear h hl hn h0 he p0 p1 p2 hbd hLL hji h1 hm hbj
  go_enter Try.func9, Try.ntmps9
  go_wp2_with (first | (go_at_call 32; refine (flowFact_any _).mono ?_; rintro e w1 ⟨rfl, zw1, rfl⟩) | (go_at_call 33; refine (fat_any _ _ _ l _ _ HL.out HN.out (by repeat (first | exact H.out | with_reducible refine Sl.xt ?_ _ | with_reducible refine Sl.alloc ?_ _ | with_reducible refine Sl.drew ?_))).mono ?_; rintro e w2 ⟨rfl, zw2, rfl⟩) | (go_at_call 34; refine (room_any _ _ _ l _ _ HL.out HN.out (by repeat (first | exact H.out | with_reducible refine Sl.xt ?_ _ | with_reducible refine Sl.alloc ?_ _ | with_reducible refine Sl.drew ?_))).mono ?_; rintro e w3 ⟨rfl, zw3, rfl⟩))
  refine (less_good _ _ _ l _ _ HL.out HN.out (by repeat (first | exact H.out | with_reducible refine Sl.xt ?_ _ | with_reducible refine Sl.alloc ?_ _ | with_reducible refine Sl.drew ?_)) HE.out).mono ?_
  rintro e W ⟨Am, cm, zm, rfl, hW, om⟩
  have hlen : (lessL l t).length = n := by rw [HLL.out, List.length_set, HL.out]
  rw [hlen] at om ⊢
  have sm := Lib.hid om.sl
  have HW := Lib.hid (show SlC W A n l by rw [hW]; exact (by repeat (first | exact H.out | with_reducible refine Sl.xt ?_ _ | with_reducible refine Sl.alloc ?_ _ | with_reducible refine Sl.drew ?_)))
  have hBW : Below w.heap.size w W := by rw [hW]; exact (by repeat (first | exact Below.refl _ _ | with_reducible assumption | with_reducible refine Below.drew ?_ | with_reducible refine Below.alloc ?_ (by first | omega | (simp <;> omega)) _ | with_reducible refine Below.setCell ?_ (by first | omega | (simp <;> omega)) _ | with_reducible refine below_xt ?_ (by first | omega | (simp <;> omega)) _ | with_reducible refine below_drewN ?_ _))
  have hBs := hBW.size
  clear hW om hlen H
  unfold pairOK
  go_wp2_with (first | (go_at_call 36; refine (capsError_any _ _ _ l _ HL.out HN.out (by repeat (first | exact HW.out | with_reducible refine Sl.xt ?_ _ | with_reducible refine Sl.alloc ?_ _ | with_reducible refine Sl.drew ?_))).mono ?_; rintro e w5 ⟨rfl, zw5, rfl⟩) | (go_at_call 37; refine (fcheck _ _ _ l _ HL.out HN.out (by repeat (first | exact HW.out | with_reducible refine Sl.xt ?_ _ | with_reducible refine Sl.alloc ?_ _ | with_reducible refine Sl.drew ?_))).mono ?_; rintro e w6 ⟨rfl, zw6, rfl⟩))
  go_loopg [73, 12] n (fun g i s wr => ∃ k : Nat, g = n - k ∧ k ≤ n ∧ i = .int .i64 k ∧ s = .int .i64 (roomTo l t k) ∧ ∃ z, wr = xt W z)
  case atStart => exact ⟨0, rfl, by omega, rfl, rfl, ext_of_below (by repeat (first | exact Below.refl _ _ | with_reducible assumption | with_reducible refine Below.drew ?_ | with_reducible refine Below.alloc ?_ (by first | omega | (simp <;> omega)) _ | with_reducible refine Below.setCell ?_ (by first | omega | (simp <;> omega)) _ | with_reducible refine below_xt ?_ (by first | omega | (simp <;> omega)) _ | with_reducible refine below_drewN ?_ _))⟩
  case round =>
    obtain ⟨k, rfl, hk, rfl, rfl, z, rfl⟩ := hrel
    by_cases hlt : k < n
    · obtain ⟨b, off, rfl, hb, hcell⟩ := LCap.at HW.out hlt
      obtain ⟨c0, c1, c2⟩ := hcell k hlt
      have b1 := HB.out k (by rw [HL.out]; omega)
      have b2 := HP.out k (by rw [HL.out]; omega)
      have hr : roomTo l t (k + 1) = roomTo l t k + (if t < (l[k]?.getD zCap).b then (l[k]?.getD zCap).m else 0) := rfl
      obtain ⟨y, hy⟩ : ∃ y, y = l[k]?.getD zCap := ⟨_, rfl⟩
      have hy' : y = l[k]?.getD LCap.z := hy
      rw [← hy'] at c0 c1 c2
      rw [← hy] at hr b2
      unfold capBad at b2
      have HR := Lib.hid hr
      clear hr hy hy' hcell hmb hbd'
      generalize roomTo l t k = S at *
      go_wp2
      · have hq : t < y.b := by assumption
        go_roundg (n - (k + 1))
        case measure => omega
        case rel => exact ⟨k + 1, rfl, by omega, by go_num, by rw [HR.out, if_pos hq], ext_of_below (by repeat (first | exact Below.refl _ _ | with_reducible assumption | with_reducible refine Below.drew ?_ | with_reducible refine Below.alloc ?_ (by first | omega | (simp <;> omega)) _ | with_reducible refine Below.setCell ?_ (by first | omega | (simp <;> omega)) _ | with_reducible refine below_xt ?_ (by first | omega | (simp <;> omega)) _ | with_reducible refine below_drewN ?_ _))⟩
      · have hq : y.b ≤ t := by assumption
        go_roundg (n - (k + 1))
        case measure => omega
        case rel => exact ⟨k + 1, rfl, by omega, by go_num, by rw [HR.out, if_neg (by omega), Int.add_zero], ext_of_below (by repeat (first | exact Below.refl _ _ | with_reducible assumption | with_reducible refine Below.drew ?_ | with_reducible refine Below.alloc ?_ (by first | omega | (simp <;> omega)) _ | with_reducible refine Below.setCell ?_ (by first | omega | (simp <;> omega)) _ | with_reducible refine below_xt ?_ (by first | omega | (simp <;> omega)) _ | with_reducible refine below_drewN ?_ _))⟩
    · obtain rfl : k = n := by omega
      obtain ⟨b, off, rfl, hb, hcell⟩ := LCap.at HW.out hj
      obtain ⟨c0, c1, c2⟩ := hcell j hj
      clear hcell c0 c1
      generalize hx : l[j]?.getD LCap.z = x at *
      have HX := Lib.hid hx
      clear hx
      go_wp2_with fail
      refine (capAt_any _ _ _ l _ _ HL.out H0.out (by repeat (first | exact HW.out | with_reducible refine Sl.xt ?_ _ | with_reducible refine Sl.alloc ?_ _ | with_reducible refine Sl.drew ?_))).mono ?_
      rintro e w7 ⟨rfl, z7, rfl⟩
      rw [HJ.out] at *
      go_wp2_with fail
      refine (clone_LCap _ _ _ l _ HL.out (by omega) (by repeat (first | exact HW.out | with_reducible refine Sl.xt ?_ _ | with_reducible refine Sl.alloc ?_ _ | with_reducible refine Sl.drew ?_))).mono ?_
      rintro e W2 ⟨A2, c2', z2, rfl, hW2, o2⟩
      rw [HL.out] at o2 ⊢
      have hB2 : Below W.heap.size W W2 := by rw [hW2]; exact (by repeat (first | exact Below.refl _ _ | with_reducible assumption | with_reducible refine Below.drew ?_ | with_reducible refine Below.alloc ?_ (by first | omega | (simp <;> omega)) _ | with_reducible refine Below.setCell ?_ (by first | omega | (simp <;> omega)) _ | with_reducible refine below_xt ?_ (by first | omega | (simp <;> omega)) _ | with_reducible refine below_drewN ?_ _))
      have hBs2 := hB2.size
      obtain ⟨g, rfl, hg1, hg2, _, hgc, hgf⟩ := Own.at_ o2 (by omega)
      have hd := hgc j 2 hj (by decide)
      have hf := hgf (j * 3 + 2)
      have hx2 : LCap.cell (l[j]?.getD LCap.z) 2 = .int .i64 x.m := by rw [HX.out]; rfl
      rw [hx2] at hd
      have hd' : W2.cell? ⟨g, j * 3 + 2, none⟩ = some (.int .i64 x.m) := hd
      have hgw : W.heap.size ≤ g := by simp at hg1; omega
      have hs := Own.set_ o2 HL.out j 2 { x with m := x.m - 1 } (by rw [HL.out]; exact hj) (by decide) (fun j' hj' hne => by
        rw [HX.out]
        have : j' = 0 ∨ j' = 1 := by have : j' < 3 := hj'; omega
        rcases this with rfl | rfl <;> rfl)
      have hset : l.set j { x with m := x.m - 1 } = lessL l t := by rw [HLL.out]; have : l[j]?.getD zCap = x := HX.out; rw [this]
      rw [hset] at hs
      have HS := Lib.hid hs
      have sm3 : SlT LCap (W2.setCell ⟨g, j * 3 + 2, none⟩ (.int .i64 (x.m - 1))) Am k (lessL l t) := sm.out.below (hB2.setCell (p := ⟨g, j * 3 + 2, none⟩) hgw _)
      have SM3 := Lib.hid sm3
      have hBW2 := hBW.trans (hB2.mono hBs)
      clear hgc hgf hd hx2 hs hset hW2 o2 hg1 sm3
      go_wp2_with fail
      refine (equal_LCap _ _ _ _ _ (lessL l t) _ HN.out SM3.out HS.out.sl).mono ?_
      rintro e w8 ⟨rfl, z8, rfl⟩
      go_wp2
      refine fin2 (by simp [results, Try.results9, go_sem]; rfl) ?_ rfl (by repeat (first | exact Below.refl _ _ | with_reducible assumption | with_reducible refine Below.drew ?_ | with_reducible refine Below.alloc ?_ (by first | omega | (simp <;> omega)) _ | with_reducible refine Below.setCell ?_ (by first | omega | (simp <;> omega)) _ | with_reducible refine below_xt ?_ (by first | omega | (simp <;> omega)) _ | with_reducible refine below_drewN ?_ _))
      rfl

theorem asks_walk (A : Option Addr) (n c : Nat) (l : List Cap) (t : Int) (w : World) (hl : l.length = n) (hn : n ≤ maxLen) (h : SlC w A n l) :
    Calls Try.prog 9 #[.slice A n c, .int .i64 t] w (Ret (.bool true) w) := by
  by_cases h0 : capsErr l = 0
  · by_cases he : lessErr l t = 0
    · exact asks_good A n c l t w hl hn h he
    · exact asks_none A n c l t w hl hn h h0 he
  · exact asks_bad A n c l t w hl hn h h0
end Go.Proofs.Ytnmepkcbpkcegaa
