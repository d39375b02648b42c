/- The walk of the law FlowAsks. -/
import Derived.Test.YtnmepkcbpkcegaaFlowFact
namespace Go.Proofs.Ytnmepkcbpkcegaa
open Go.RowKit
attribute [local go_sem] xt_size xt_cell xt_frozen xt_setCell xt_drew xt_drewN
attribute [local go_sem] cell_alloc_ite frozen_alloc_ite setCell_alloc_ite

set_option maxRecDepth 100000 in
set_option maxHeartbeats 2000000 in
theorem asks_bad (A : Option Addr) (n c : Nat) (l : List Cap) (t : Int) (w : World) (hl : l.length = n) (hn : n ≤ maxLen) (h : SlC w A n l) (h0 : capsErr l ≠ 0) :
    Calls Try.prog 9 #[.slice A n c, .int .i64 t] w (Ret (.bool true) w) := by
  have e1 : atV l t = .tuple #[.int .i64 0, .int .i64 (capsErr l)] := by unfold atV; rw [if_pos h0]
  have e2 : roomV l t = .tuple #[.int .i64 0, .int .i64 (capsErr l)] := by unfold roomV; rw [if_neg h0]
  have e3 : lessErr l t = capsErr l := by unfold lessErr; rw [if_pos h0]
  have e4 : (capsErr l != 0) = true := by simp [h0]
  have e5 : (capsErr l != capsErr l) = false := by simp
  have E3 := Lib.hid e3
  have H := Lib.hid h
  have HL := Lib.hid hl
  have HN := Lib.hid hn
  have H0 := Lib.hid h0
  clear h hl hn e3 h0
  go_enter Try.func9, Try.ntmps9
  go_wp2_with (first | (go_at_call 32; refine (flowFact_any _).mono ?_; rintro e w1 ⟨rfl, zw1, rfl⟩) | (go_at_call 33; refine (fat_any _ _ _ l _ _ HL.out HN.out (by repeat (first | exact H.out | with_reducible refine Sl.xt ?_ _ | with_reducible refine Sl.alloc ?_ _ | with_reducible refine Sl.drew ?_))).mono ?_; rintro e w2 ⟨rfl, zw2, rfl⟩) | (go_at_call 34; refine (room_any _ _ _ l _ _ HL.out HN.out (by repeat (first | exact H.out | with_reducible refine Sl.xt ?_ _ | with_reducible refine Sl.alloc ?_ _ | with_reducible refine Sl.drew ?_))).mono ?_; rintro e w3 ⟨rfl, zw3, rfl⟩))
  refine (less_bad _ _ _ l _ _ HL.out HN.out (by repeat (first | exact H.out | with_reducible refine Sl.xt ?_ _ | with_reducible refine Sl.alloc ?_ _ | with_reducible refine Sl.drew ?_)) (by rw [E3.out]; exact H0.out)).mono ?_
  rw [E3.out]
  rintro e w4 ⟨rfl, z4, rfl⟩
  go_wp2_with (first | (go_at_call 36; refine (capsError_any _ _ _ l _ HL.out HN.out (by repeat (first | exact H.out | with_reducible refine Sl.xt ?_ _ | with_reducible refine Sl.alloc ?_ _ | with_reducible refine Sl.drew ?_))).mono ?_; rintro e w5 ⟨rfl, zw5, rfl⟩) | (go_at_call 37; refine (fcheck _ _ _ l _ HL.out HN.out (by repeat (first | exact H.out | with_reducible refine Sl.xt ?_ _ | with_reducible refine Sl.alloc ?_ _ | with_reducible refine Sl.drew ?_))).mono ?_; rintro e w6 ⟨rfl, zw6, rfl⟩))
  refine fin2 (by simp [results, Try.results9, go_sem]; rfl) ?_ rfl (by repeat (first | exact Below.refl _ _ | with_reducible assumption | with_reducible refine Below.drew ?_ | with_reducible refine Below.alloc ?_ (by first | omega | (simp <;> omega)) _ | with_reducible refine Below.setCell ?_ (by first | omega | (simp <;> omega)) _ | with_reducible refine below_xt ?_ (by first | omega | (simp <;> omega)) _ | with_reducible refine below_drewN ?_ _))
  rfl

set_option maxRecDepth 100000 in
set_option maxHeartbeats 2000000 in
theorem asks_none (A : Option Addr) (n c : Nat) (l : List Cap) (t : Int) (w : World) (hl : l.length = n) (hn : n ≤ maxLen) (h : SlC w A n l) (h0 : capsErr l = 0) (he : lessErr l t ≠ 0) :
    Calls Try.prog 9 #[.slice A n c, .int .i64 t] w (Ret (.bool true) w) := by
  obtain ⟨p0, p1, p2⟩ := caps_parts h0
  have hn' : n ≤ 256 := by omega
  have hbd := fun k hk => room_bd p1 t k hk
  have e2 : roomV l t = .tuple #[.int .i64 (roomTo l t n), .int .i64 0] := by unfold roomV; rw [if_pos h0, hl]
  have hlast := hbd n (by omega)
  have H := Lib.hid h
  have HL := Lib.hid hl
  have HN := Lib.hid hn
  have H0 := Lib.hid h0
  have HE := Lib.hid he
  have HB := Lib.hid hbd
  have HP := Lib.hid p1
  have hee : (roomTo l t n != roomTo l t n) = false := by simp
  have hge := capIdx_ge l t
  rw [hl] at hge
  have hcase : (capIdx l t = -1 ∧ lessErr l t = 8) ∨ ∃ k : Nat, k < n ∧ capIdx l t = (k : Int) ∧ (l[k]?.getD zCap).m = 0 ∧ lessErr l t = 18 := by
    by_cases h1 : capIdx l t < 0
    · exact .inl ⟨by omega, by unfold lessErr; rw [if_neg (by simp [h0]), if_pos h1]⟩
    · obtain ⟨k, hk, hki⟩ := capIdx_lt (l := l) (t := t) (by omega)
      unfold lessErr at he ⊢
      rw [if_neg (by simp [h0]), if_neg h1, hki, Int.toNat_natCast] at he
      by_cases hm : (l[k]?.getD zCap).m = 0
      · exact .inr ⟨k, by omega, hki, hm, by rw [if_neg (by simp [h0]), if_neg h1, hki, Int.toNat_natCast, if_pos hm]⟩
      · rw [if_neg hm] at he; exact absurd rfl he
  have hat : ∃ x f : Int, atV l t = .tuple #[.int .i64 x, .int .i64 f] ∧ ((x = 0 ∧ f = 8 ∧ capIdx l t < 0) ∨ (x = capIdx l t ∧ f = 0 ∧ 0 ≤ capIdx l t)) := by
    unfold atV
    rw [if_neg (by simp [h0])]
    by_cases h1 : capIdx l t < 0
    · rw [if_pos h1]; exact ⟨_, _, rfl, .inl ⟨rfl, rfl, h1⟩⟩
    · rw [if_neg h1]; exact ⟨_, _, rfl, .inr ⟨rfl, rfl, by omega⟩⟩
  obtain ⟨x, f, e1, hxf⟩ := hat
  have e4 : (capsErr l != 0) = false := by simp [h0]
  have e5 : (capsErr l != capsErr l) = false := by simp
  have e6 : (0 != capsErr l) = false := by rw [h0]; rfl
  have C1 := Lib.hid hcase
  have C2 := Lib.hid hxf
  clear h hl hn h0 he p0 p1 p2 hbd hcase hxf
  go_enter Try.func9, Try.ntmps9
  go_wp2_with (first | (go_at_call 32; refine (flowFact_any _).mono ?_; rintro e w1 ⟨rfl, zw1, rfl⟩) | (go_at_call 33; refine (fat_any _ _ _ l _ _ HL.out HN.out (by repeat (first | exact H.out | with_reducible refine Sl.xt ?_ _ | with_reducible refine Sl.alloc ?_ _ | with_reducible refine Sl.drew ?_))).mono ?_; rintro e w2 ⟨rfl, zw2, rfl⟩) | (go_at_call 34; refine (room_any _ _ _ l _ _ HL.out HN.out (by repeat (first | exact H.out | with_reducible refine Sl.xt ?_ _ | with_reducible refine Sl.alloc ?_ _ | with_reducible refine Sl.drew ?_))).mono ?_; rintro e w3 ⟨rfl, zw3, rfl⟩))
  refine (less_bad _ _ _ l _ _ HL.out HN.out (by repeat (first | exact H.out | with_reducible refine Sl.xt ?_ _ | with_reducible refine Sl.alloc ?_ _ | with_reducible refine Sl.drew ?_)) HE.out).mono ?_
  rintro e w4 ⟨rfl, z4, rfl⟩
  go_wp2_with (first | (go_at_call 36; refine (capsError_any _ _ _ l _ HL.out HN.out (by repeat (first | exact H.out | with_reducible refine Sl.xt ?_ _ | with_reducible refine Sl.alloc ?_ _ | with_reducible refine Sl.drew ?_))).mono ?_; rintro e w5 ⟨rfl, zw5, rfl⟩) | (go_at_call 37; refine (fcheck _ _ _ l _ HL.out HN.out (by repeat (first | exact H.out | with_reducible refine Sl.xt ?_ _ | with_reducible refine Sl.alloc ?_ _ | with_reducible refine Sl.drew ?_))).mono ?_; rintro e w6 ⟨rfl, zw6, rfl⟩))
  go_loopg [73, 12] n (fun g i s wr => ∃ k : Nat, g = n - k ∧ k ≤ n ∧ i = .int .i64 k ∧ s = .int .i64 (roomTo l t k) ∧ ∃ z, wr = xt w z)
  case atStart => exact ⟨0, rfl, by omega, rfl, rfl, ext_of_below (by repeat (first | exact Below.refl _ _ | with_reducible assumption | with_reducible refine Below.drew ?_ | with_reducible refine Below.alloc ?_ (by first | omega | (simp <;> omega)) _ | with_reducible refine Below.setCell ?_ (by first | omega | (simp <;> omega)) _ | with_reducible refine below_xt ?_ (by first | omega | (simp <;> omega)) _ | with_reducible refine below_drewN ?_ _))⟩
  case round =>
    obtain ⟨k, rfl, hk, rfl, rfl, z, rfl⟩ := hrel
    by_cases hlt : k < n
    · obtain ⟨b, off, rfl, hb, hcell⟩ := LCap.at H.out hlt
      obtain ⟨c0, c1, c2⟩ := hcell k hlt
      have b1 := HB.out k (by rw [HL.out]; omega)
      have b2 := HP.out k (by rw [HL.out]; omega)
      have hr : roomTo l t (k + 1) = roomTo l t k + (if t < (l[k]?.getD zCap).b then (l[k]?.getD zCap).m else 0) := rfl
      obtain ⟨y, hy⟩ : ∃ y, y = l[k]?.getD zCap := ⟨_, rfl⟩
      have hy' : y = l[k]?.getD LCap.z := hy
      rw [← hy'] at c0 c1 c2
      rw [← hy] at hr b2
      unfold capBad at b2
      have HR := Lib.hid hr
      clear hr hy hy' hcell
      generalize roomTo l t k = S at *
      go_wp2
      · have hq : t < y.b := by assumption
        go_roundg (n - (k + 1))
        case measure => omega
        case rel => exact ⟨k + 1, rfl, by omega, by go_num, by rw [HR.out, if_pos hq], ext_of_below (by repeat (first | exact Below.refl _ _ | with_reducible assumption | with_reducible refine Below.drew ?_ | with_reducible refine Below.alloc ?_ (by first | omega | (simp <;> omega)) _ | with_reducible refine Below.setCell ?_ (by first | omega | (simp <;> omega)) _ | with_reducible refine below_xt ?_ (by first | omega | (simp <;> omega)) _ | with_reducible refine below_drewN ?_ _))⟩
      · have hq : y.b ≤ t := by assumption
        go_roundg (n - (k + 1))
        case measure => omega
        case rel => exact ⟨k + 1, rfl, by omega, by go_num, by rw [HR.out, if_neg (by omega), Int.add_zero], ext_of_below (by repeat (first | exact Below.refl _ _ | with_reducible assumption | with_reducible refine Below.drew ?_ | with_reducible refine Below.alloc ?_ (by first | omega | (simp <;> omega)) _ | with_reducible refine Below.setCell ?_ (by first | omega | (simp <;> omega)) _ | with_reducible refine below_xt ?_ (by first | omega | (simp <;> omega)) _ | with_reducible refine below_drewN ?_ _))⟩
    · obtain rfl : k = n := by omega
      rcases C1.out with ⟨hc, hle⟩ | ⟨j, hj, hc, hm, hle⟩
      · rcases C2.out with ⟨rfl, rfl, _⟩ | ⟨_, _, h3⟩
        · rw [hle] at *
          have hc0 : capIdx l t < 0 := by omega
          clear hc hle
          go_wp2_with (go_at_call 38; refine (capAt_any _ _ _ l _ _ HL.out H0.out (by repeat (first | exact H.out | with_reducible refine Sl.xt ?_ _ | with_reducible refine Sl.alloc ?_ _ | with_reducible refine Sl.drew ?_))).mono ?_; rintro e w7 ⟨rfl, zw7, rfl⟩)
          refine fin2 (by simp [results, Try.results9, go_sem]; rfl) ?_ rfl (by repeat (first | exact Below.refl _ _ | with_reducible assumption | with_reducible refine Below.drew ?_ | with_reducible refine Below.alloc ?_ (by first | omega | (simp <;> omega)) _ | with_reducible refine Below.setCell ?_ (by first | omega | (simp <;> omega)) _ | with_reducible refine below_xt ?_ (by first | omega | (simp <;> omega)) _ | with_reducible refine below_drewN ?_ _))
          rfl
        · omega
      · rcases C2.out with ⟨rfl, rfl, h3⟩ | ⟨rfl, rfl, h3⟩
        · omega
        · obtain ⟨b, off, rfl, hb, hcell⟩ := LCap.at H.out hj
          obtain ⟨c0, c1, c2⟩ := hcell j hj
          have hm' : (l[j]?.getD LCap.z).m = 0 := hm
          rw [hm'] at c2
          rw [hle] at *
          have HCJ := Lib.hid hc
          clear hc hle hm hm' hcell c0 c1
          have hjj : ((j : Int) != (j : Int)) = false := by simp
          go_wp2_with fail
          refine (capAt_any _ _ _ l _ _ HL.out H0.out (by repeat (first | exact H.out | with_reducible refine Sl.xt ?_ _ | with_reducible refine Sl.alloc ?_ _ | with_reducible refine Sl.drew ?_))).mono ?_
          rintro e w7 ⟨rfl, z7, rfl⟩
          rw [HCJ.out] at *
          go_wp2
          refine fin2 (by simp [results, Try.results9, go_sem]; rfl) ?_ rfl (by repeat (first | exact Below.refl _ _ | with_reducible assumption | with_reducible refine Below.drew ?_ | with_reducible refine Below.alloc ?_ (by first | omega | (simp <;> omega)) _ | with_reducible refine Below.setCell ?_ (by first | omega | (simp <;> omega)) _ | with_reducible refine below_xt ?_ (by first | omega | (simp <;> omega)) _ | with_reducible refine below_drewN ?_ _))
          rfl
end Go.Proofs.Ytnmepkcbpkcegaa
