/- Capacities: flow.Check and the reference's CapsError. -/
import Derived.Test.YtnmepkcbpkcegaaSl
namespace Go.Proofs.Ytnmepkcbpkcegaa
open Go.RowKit
attribute [local go_sem] xt_size xt_cell xt_frozen xt_setCell xt_drew xt_drewN
attribute [local go_sem] cell_alloc_ite frozen_alloc_ite setCell_alloc_ite

structure Cap where
  a : Int
  b : Int
  m : Int
instance : Inhabited Cap := ⟨⟨0, 0, 0⟩⟩
def Cap.cell (c : Cap) : Nat → Value
  | 0 => .int .i64 c.a
  | 1 => .int .i64 c.b
  | _ => .int .i64 c.m
def zCap : Cap := ⟨0, 0, 0⟩
abbrev SlC (w : World) (A : Option Addr) (n : Nat) (l : List Cap) : Prop := Sl w A n 3 (fun i j => (l[i]?.getD zCap).cell j)
theorem SlC.at {w : World} {A : Option Addr} {n : Nat} {l : List Cap} (h : SlC w A n l) {k : Nat} (hk : k < n) :
    ∃ b off, A = some ⟨b, off, none⟩ ∧ b < w.heap.size ∧ ∀ i, i < n → w.cell? ⟨b, off + i * 3, none⟩ = some (.int .i64 (l[i]?.getD zCap).a) ∧ w.cell? ⟨b, off + i * 3 + 1, none⟩ = some (.int .i64 (l[i]?.getD zCap).b) ∧ w.cell? ⟨b, off + i * 3 + 2, none⟩ = some (.int .i64 (l[i]?.getD zCap).m) := by
  obtain ⟨b, off, e, hlt, hc⟩ := h (by omega)
  exact ⟨b, off, e, hlt, fun i hi => ⟨hc i 0 hi (by omega), hc i 1 hi (by omega), hc i 2 hi (by omega)⟩⟩

def capBad (c : Cap) : Prop := c.a < 0 ∨ 200000 < c.b ∨ c.b ≤ c.a ∨ c.m < 0 ∨ 24 < c.m
instance (c : Cap) : Decidable (capBad c) := by unfold capBad; infer_instance
def capsGo : Int → List Cap → Int
  | _, [] => 0
  | e, c :: l => if capBad c then 4 else if c.a < e then 12 else capsGo c.b l
def capsErr (l : List Cap) : Int := if 256 < l.length then 2 else capsGo 0 l
/-- The end of the capacity before element k. -/
def capEnd (l : List Cap) : Nat → Int
  | 0 => 0
  | k + 1 => (l[k]?.getD zCap).b

theorem capDrop {l : List Cap} {k : Nat} (h : k < l.length) : l.drop k = l[k]?.getD zCap :: l.drop (k + 1) := by
  rw [List.drop_eq_getElem_cons h, List.getElem?_eq_getElem h]; rfl
theorem capsGo_drop {l : List Cap} {k : Nat} {e : Int} (h : k < l.length) : capsGo e (l.drop k) = if capBad (l[k]?.getD zCap) then 4 else if (l[k]?.getD zCap).a < e then 12 else capsGo (l[k]?.getD zCap).b (l.drop (k + 1)) := by
  rw [capDrop h]; rfl

set_option maxHeartbeats 2000000 in
theorem fcheck (A : Option Addr) (n c : Nat) (l : List Cap) (w : World) (hl : l.length = n) (hn : n ≤ maxLen) (h : SlC w A n l) :
    Calls Try.prog 37 #[.slice A n c] w (Ret (.int .i64 (capsErr l)) w) := by
  unfold maxLen at hn
  by_cases h1 : 256 < n
  · have e : capsErr l = 2 := by unfold capsErr; rw [if_pos (by omega)]
    rw [e]
    clear h hl e
    go_enter Try.func37, Try.ntmps37
    go_wp2
    refine fin2 (by simp [results, Try.results37, go_sem]; rfl) ?_ rfl (by repeat (first | exact Below.refl _ _ | with_reducible refine Below.drew ?_ | with_reducible refine Below.alloc ?_ (by simp <;> omega) _ | with_reducible refine Below.setCell ?_ (by simp <;> omega) _ | with_reducible refine below_xt ?_ (by simp <;> omega) _ | with_reducible refine below_drewN ?_ _))
    rfl
  · have e : capsErr l = capsGo 0 l := by unfold capsErr; rw [if_neg (by omega)]
    rw [e]
    have H := Lib.hid h
    have HL := Lib.hid hl
    clear h hl e
    go_enter Try.func37, Try.ntmps37
    go_wp2
    go_loopg [10] n (fun g i wr => ∃ k : Nat, g = n - k ∧ k ≤ n ∧ i = .int .i64 k ∧ capsGo 0 l = capsGo (capEnd l k) (l.drop k) ∧ ∃ z, wr = xt w z)
    case atStart => exact ⟨0, rfl, by omega, rfl, rfl, ext_of_below (Below.refl _ _)⟩
    case round =>
      obtain ⟨k, rfl, hk, rfl, hgo, z, rfl⟩ := hrel
      have HG := Lib.hid hgo
      clear hgo
      by_cases hlt : k < n
      · have hdr := capsGo_drop (l := l) (k := k) (e := capEnd l k) (by rw [HL.out]; exact hlt)
        obtain ⟨b, off, rfl, hb, hcell⟩ := SlC.at H.out hlt
        obtain ⟨c0, c1, c2⟩ := hcell k hlt
        obtain ⟨x, hx⟩ : ∃ x, x = l[k]?.getD zCap := ⟨_, rfl⟩
        rw [← hx] at c0 c1 c2 hdr
        have HD := Lib.hid hdr
        have HX := Lib.hid hx
        clear hdr hx
        by_cases hbad : capBad x
        · have hV : capsGo 0 l = 4 := by rw [HG.out, HD.out, if_pos hbad]
          have HV := Lib.hid hV
          clear hV hcell
          unfold capBad at hbad
          go_wp2
          all_goals (first | (refine fin2 (by simp [results, Try.results37, go_sem]; rfl) ?_ rfl (by repeat (first | exact Below.refl _ _ | with_reducible refine Below.drew ?_ | with_reducible refine Below.alloc ?_ (by simp <;> omega) _ | with_reducible refine Below.setCell ?_ (by simp <;> omega) _ | with_reducible refine below_xt ?_ (by simp <;> omega) _ | with_reducible refine below_drewN ?_ _)); rw [HV.out]) | (exfalso; omega))
        · have q0 : decide (x.a < 0) = false := by unfold capBad at hbad; simp; omega
          have q1 : decide (200000 < x.b) = false := by unfold capBad at hbad; simp; omega
          have q2 : decide (x.b ≤ x.a) = false := by unfold capBad at hbad; simp; omega
          have q3 : decide (x.m < 0) = false := by unfold capBad at hbad; simp; omega
          have q4 : decide (24 < x.m) = false := by unfold capBad at hbad; simp; omega
          by_cases hk0 : k = 0
          · have hV : capsGo 0 l = capsGo (capEnd l (k + 1)) (l.drop (k + 1)) := by
              rw [HG.out, HD.out, if_neg hbad, if_neg (by unfold capBad at hbad; rw [hk0]; simp only [capEnd]; omega)]
              simp only [capEnd]
              rw [← HX.out]
            have HV := Lib.hid hV
            have hd0 : decide ((0 : Int) < (k : Int)) = false := by simp; omega
            have hd1 : decide (0 < k) = false := by simp; omega
            clear hV hcell hbad hk0
            go_wp2
            (refine wp_region_ext (by kernel_rfl) (by kernel_rfl) ?_; (repeat (go_big_quiet_step ((fail)))); refine wpQuiet_nil ?_; intro _ hw'; obtain ⟨z2, hw''⟩ := hw'; subst hw'')
            go_wp2
            go_roundg (n - (k + 1))
            case measure => omega
            case rel => exact ⟨k + 1, rfl, by omega, by go_num, HV.out, ext_of_below (by repeat (first | exact Below.refl _ _ | with_reducible refine Below.drew ?_ | with_reducible refine Below.alloc ?_ (by simp <;> omega) _ | with_reducible refine Below.setCell ?_ (by simp <;> omega) _ | with_reducible refine below_xt ?_ (by simp <;> omega) _ | with_reducible refine below_drewN ?_ _))⟩
          · obtain ⟨k, rfl⟩ : ∃ j, k = j + 1 := ⟨k - 1, by omega⟩
            obtain ⟨d0, d1, d2⟩ := hcell k (by omega)
            obtain ⟨y, hy⟩ : ∃ y, y = l[k]?.getD zCap := ⟨_, rfl⟩
            rw [← hy] at d0 d1 d2
            have HY := Lib.hid hy
            have hbd : ∀ r : Int, capsGo 0 l = (if x.a < y.b then 12 else capsGo x.b (l.drop (k + 1 + 1))) := fun _ => by
              rw [HG.out, HD.out, if_neg hbad, HY.out]
              rfl
            have HV := Lib.hid (hbd 0)
            clear hbd hcell hbad hy d0 d2 hk0
            go_wp2
            (refine wp_region_ext (by kernel_rfl) (by kernel_rfl) ?_; (repeat (go_big_quiet_step ((fail)))); refine wpQuiet_nil ?_; intro _ hw'; obtain ⟨z2, hw''⟩ := hw'; subst hw'')
            go_wp2
            · have hq : x.a < y.b := by assumption
              refine fin2 (by simp [results, Try.results37, go_sem]; rfl) ?_ rfl (by repeat (first | exact Below.refl _ _ | with_reducible refine Below.drew ?_ | with_reducible refine Below.alloc ?_ (by simp <;> omega) _ | with_reducible refine Below.setCell ?_ (by simp <;> omega) _ | with_reducible refine below_xt ?_ (by simp <;> omega) _ | with_reducible refine below_drewN ?_ _))
              rw [HV.out, if_pos hq]
            · have hq : y.b ≤ x.a := by assumption
              go_roundg (n - (k + 1 + 1))
              case measure => omega
              case rel => exact ⟨k + 1 + 1, rfl, by omega, by go_num, by rw [HV.out, if_neg (by omega)]; simp only [capEnd]; rw [← HX.out], ext_of_below (by repeat (first | exact Below.refl _ _ | with_reducible refine Below.drew ?_ | with_reducible refine Below.alloc ?_ (by simp <;> omega) _ | with_reducible refine Below.setCell ?_ (by simp <;> omega) _ | with_reducible refine below_xt ?_ (by simp <;> omega) _ | with_reducible refine below_drewN ?_ _))⟩
      · obtain rfl : k = n := by omega
        have hV : capsGo 0 l = 0 := by rw [HG.out, List.drop_of_length_le (by rw [HL.out]; omega)]; rfl
        have HV := Lib.hid hV
        clear hV
        go_wp2
        refine fin2 (by simp [results, Try.results37, go_sem]; rfl) ?_ rfl (by repeat (first | exact Below.refl _ _ | with_reducible refine Below.drew ?_ | with_reducible refine Below.alloc ?_ (by simp <;> omega) _ | with_reducible refine Below.setCell ?_ (by simp <;> omega) _ | with_reducible refine below_xt ?_ (by simp <;> omega) _ | with_reducible refine below_drewN ?_ _))
        rw [HV.out]

set_option maxHeartbeats 2000000 in
theorem capsError_any (A : Option Addr) (n c : Nat) (l : List Cap) (w : World) (hl : l.length = n) (hn : n ≤ maxLen) (h : SlC w A n l) :
    Calls Try.prog 36 #[.slice A n c] w (Ret (.int .i64 (capsErr l)) w) := by
  unfold maxLen at hn
  by_cases h1 : 256 < n
  · have e : capsErr l = 2 := by unfold capsErr; rw [if_pos (by omega)]
    rw [e]
    clear h hl e
    go_enter Try.func36, Try.ntmps36
    go_wp2
    refine fin2 (by simp [results, Try.results36, go_sem]; rfl) ?_ rfl (by repeat (first | exact Below.refl _ _ | with_reducible refine Below.drew ?_ | with_reducible refine Below.alloc ?_ (by simp <;> omega) _ | with_reducible refine Below.setCell ?_ (by simp <;> omega) _ | with_reducible refine below_xt ?_ (by simp <;> omega) _ | with_reducible refine below_drewN ?_ _))
    rfl
  · have e : capsErr l = capsGo 0 l := by unfold capsErr; rw [if_neg (by omega)]
    rw [e]
    have H := Lib.hid h
    have HL := Lib.hid hl
    clear h hl e
    go_enter Try.func36, Try.ntmps36
    go_wp2
    go_loopg [11, 3] n (fun g i e wr => ∃ (k : Nat) (y : Int), g = n - k ∧ k ≤ n ∧ i = .int .i64 k ∧ e = .int .i64 y ∧ capsGo 0 l = capsGo y (l.drop k) ∧ ∃ z, wr = xt w z)
    case atStart => exact ⟨0, 0, rfl, by omega, rfl, rfl, rfl, ext_of_below (Below.refl _ _)⟩
    case round =>
      obtain ⟨k, y, rfl, hk, rfl, rfl, hgo, z, rfl⟩ := hrel
      have HG := Lib.hid hgo
      clear hgo
      by_cases hlt : k < n
      · have hdr := capsGo_drop (l := l) (k := k) (e := y) (by rw [HL.out]; exact hlt)
        obtain ⟨b, off, rfl, hb, hcell⟩ := SlC.at H.out hlt
        obtain ⟨c0, c1, c2⟩ := hcell k hlt
        obtain ⟨x, hx⟩ : ∃ x, x = l[k]?.getD zCap := ⟨_, rfl⟩
        rw [← hx] at c0 c1 c2 hdr
        have HD := Lib.hid hdr
        clear hdr hx hcell
        by_cases hbad : capBad x
        · have hV : capsGo 0 l = 4 := by rw [HG.out, HD.out, if_pos hbad]
          have HV := Lib.hid hV
          clear hV
          unfold capBad at hbad
          go_wp2
          all_goals (first | (refine fin2 (by simp [results, Try.results36, go_sem]; rfl) ?_ rfl (by repeat (first | exact Below.refl _ _ | with_reducible refine Below.drew ?_ | with_reducible refine Below.alloc ?_ (by simp <;> omega) _ | with_reducible refine Below.setCell ?_ (by simp <;> omega) _ | with_reducible refine below_xt ?_ (by simp <;> omega) _ | with_reducible refine below_drewN ?_ _)); rw [HV.out]) | (exfalso; omega))
        · have q0 : decide (x.a < 0) = false := by unfold capBad at hbad; simp; omega
          have q1 : decide (200000 < x.b) = false := by unfold capBad at hbad; simp; omega
          have q2 : decide (x.b ≤ x.a) = false := by unfold capBad at hbad; simp; omega
          have q3 : decide (x.m < 0) = false := by unfold capBad at hbad; simp; omega
          have q4 : decide (24 < x.m) = false := by unfold capBad at hbad; simp; omega
          have hV : capsGo 0 l = (if x.a < y then 12 else capsGo x.b (l.drop (k + 1))) := by rw [HG.out, HD.out, if_neg hbad]
          have HV := Lib.hid hV
          clear hV hbad
          go_wp2
          · have hq : x.a < y := by assumption
            refine fin2 (by simp [results, Try.results36, go_sem]; rfl) ?_ rfl (by repeat (first | exact Below.refl _ _ | with_reducible refine Below.drew ?_ | with_reducible refine Below.alloc ?_ (by simp <;> omega) _ | with_reducible refine Below.setCell ?_ (by simp <;> omega) _ | with_reducible refine below_xt ?_ (by simp <;> omega) _ | with_reducible refine below_drewN ?_ _))
            rw [HV.out, if_pos hq]
          · have hq : y ≤ x.a := by assumption
            go_roundg (n - (k + 1))
            case measure => omega
            case rel => exact ⟨k + 1, x.b, rfl, by omega, by go_num, rfl, by rw [HV.out, if_neg (by omega)], ext_of_below (by repeat (first | exact Below.refl _ _ | with_reducible refine Below.drew ?_ | with_reducible refine Below.alloc ?_ (by simp <;> omega) _ | with_reducible refine Below.setCell ?_ (by simp <;> omega) _ | with_reducible refine below_xt ?_ (by simp <;> omega) _ | with_reducible refine below_drewN ?_ _))⟩
      · obtain rfl : k = n := by omega
        have hV : capsGo 0 l = 0 := by rw [HG.out, List.drop_of_length_le (by rw [HL.out]; omega)]; rfl
        have HV := Lib.hid hV
        clear hV
        go_wp2
        refine fin2 (by simp [results, Try.results36, go_sem]; rfl) ?_ rfl (by repeat (first | exact Below.refl _ _ | with_reducible refine Below.drew ?_ | with_reducible refine Below.alloc ?_ (by simp <;> omega) _ | with_reducible refine Below.setCell ?_ (by simp <;> omega) _ | with_reducible refine below_xt ?_ (by simp <;> omega) _ | with_reducible refine below_drewN ?_ _))
        rw [HV.out]
end Go.Proofs.Ytnmepkcbpkcegaa
