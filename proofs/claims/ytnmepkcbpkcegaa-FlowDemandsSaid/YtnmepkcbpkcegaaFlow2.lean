/- Package flow: index, At, Room; the reference's CapAt. -/
import Derived.Test.YtnmepkcbpkcegaaFlowLib
namespace Go.Proofs.Ytnmepkcbpkcegaa
open Go.RowKit
attribute [local go_sem] xt_size xt_cell xt_frozen xt_setCell xt_drew xt_drewN
attribute [local go_sem] cell_alloc_ite frozen_alloc_ite setCell_alloc_ite

def inCap (c : Cap) (t : Int) : Bool := decide (c.a ≤ t) && decide (t < c.b)
def capP (l : List Cap) (t : Int) (i : Nat) : Bool := inCap (l[i]?.getD zCap) t
def capIdx (l : List Cap) (t : Int) : Int := firstIdx (capP l t) l.length

theorem inCap_any (x : Cap) (t : Int) (B : Nat) (w : World) (hB : B < w.heap.size) (hc : w.cell? ⟨B, 0, none⟩ = some (.int .i64 t)) :
    Calls Try.prog 77 #[.agg #[.int .i64 x.a, .int .i64 x.b, .int .i64 x.m], .pointer (some ⟨B, 0, none⟩)] w (Ret (.bool (inCap x t)) w) := by
  by_cases h : x.a ≤ t
  · have hd : decide (x.a ≤ t) = true := by simp [h]
    go_enter Try.func77, Try.ntmps77
    go_wp2
    refine fin2 (by simp [results, Try.results77, go_sem]; rfl) ?_ rfl (by repeat (first | exact Below.refl _ _ | with_reducible refine Below.drew ?_ | with_reducible refine Below.alloc ?_ (by simp <;> omega) _ | with_reducible refine Below.setCell ?_ (by simp <;> omega) _ | with_reducible refine below_xt ?_ (by simp <;> omega) _ | with_reducible refine below_drewN ?_ _))
    unfold inCap; rw [hd]; rfl
  · have hd : decide (x.a ≤ t) = false := by simp; omega
    clear h
    go_enter Try.func77, Try.ntmps77
    go_wp2
    refine fin2 (by simp [results, Try.results77, go_sem]; rfl) ?_ rfl (by repeat (first | exact Below.refl _ _ | with_reducible refine Below.drew ?_ | with_reducible refine Below.alloc ?_ (by simp <;> omega) _ | with_reducible refine Below.setCell ?_ (by simp <;> omega) _ | with_reducible refine below_xt ?_ (by simp <;> omega) _ | with_reducible refine below_drewN ?_ _))
    unfold inCap; rw [hd]; rfl

theorem callFunc_cap (args : Array Value) (W : World) : (callFunc 77 args).run Try.prog W = .ok (.enter 77 args) W := by kernel_rfl

theorem findex (A : Option Addr) (n c : Nat) (l : List Cap) (t : Int) (w : World) (hl : l.length = n) (hn : n ≤ maxLen) (h : SlC w A n l) :
    Calls Try.prog 68 #[.slice A n c, .int .i64 t] w (Ret (.int .i64 (capIdx l t)) w) := by
  have hI := index_LCap1 77 A n c l (.pointer (some ⟨w.heap.size, 0, none⟩)) (capP l t) (w.alloc (.cells #[.int .i64 t] 3)) hn (h.alloc _) callFunc_cap (fun i z hi =>
    inCap_any _ t _ _ (by simp; omega) (by rw [xt_cell, if_pos (by simp)]; simp [go_sem]))
  have HI := Lib.hid hI
  have HL := Lib.hid hl
  clear hI h hl
  go_enter Try.func68, Try.ntmps68
  go_wp2_with fail
  refine HI.out.mono ?_
  rintro e w1 ⟨rfl, z1, rfl⟩
  go_wp2
  refine fin2 (by simp [results, Try.results68, go_sem]; rfl) ?_ rfl (by repeat (first | exact Below.refl _ _ | with_reducible refine Below.drew ?_ | with_reducible refine Below.alloc ?_ (by simp <;> omega) _ | with_reducible refine Below.setCell ?_ (by simp <;> omega) _ | with_reducible refine below_xt ?_ (by simp <;> omega) _ | with_reducible refine below_drewN ?_ _))
  unfold capIdx; rw [HL.out]

/-- flow.At -/
def atV (l : List Cap) (t : Int) : Value := if capsErr l ≠ 0 then .tuple #[.int .i64 0, .int .i64 (capsErr l)] else if capIdx l t < 0 then .tuple #[.int .i64 0, .int .i64 8] else .tuple #[.int .i64 (capIdx l t), .int .i64 0]
theorem fat_any (A : Option Addr) (n c : Nat) (l : List Cap) (t : Int) (w : World) (hl : l.length = n) (hn : n ≤ maxLen) (h : SlC w A n l) :
    Calls Try.prog 33 #[.slice A n c, .int .i64 t] w (Ret (atV l t) w) := by
  have H := Lib.hid h
  have HL := Lib.hid hl
  have HN := Lib.hid hn
  clear h hl hn
  by_cases h0 : capsErr l = 0
  · have h0' : (capsErr l != 0) = false := by simp [h0]
    by_cases h1 : capIdx l t < 0
    · have hV : atV l t = .tuple #[.int .i64 0, .int .i64 8] := by unfold atV; rw [if_neg (by simp [h0]), if_pos h1]
      rw [hV]
      clear hV h0
      go_enter Try.func33, Try.ntmps33
      go_wp2_with (first | (go_at_call 37; refine (fcheck _ _ _ l _ HL.out HN.out H.out).mono ?_; rintro e w1 ⟨rfl, zw1, rfl⟩) | (go_at_call 68; refine (findex _ _ _ l _ _ HL.out HN.out (H.out.xt _)).mono ?_; rintro e w2 ⟨rfl, zw2, rfl⟩))
      refine fin2 (by simp [results, Try.results33, go_sem]; rfl) ?_ rfl (by repeat (first | exact Below.refl _ _ | with_reducible refine Below.drew ?_ | with_reducible refine Below.alloc ?_ (by simp <;> omega) _ | with_reducible refine Below.setCell ?_ (by simp <;> omega) _ | with_reducible refine below_xt ?_ (by simp <;> omega) _ | with_reducible refine below_drewN ?_ _))
      rfl
    · have hV : atV l t = .tuple #[.int .i64 (capIdx l t), .int .i64 0] := by unfold atV; rw [if_neg (by simp [h0]), if_neg h1]
      rw [hV]
      clear hV h0
      go_enter Try.func33, Try.ntmps33
      go_wp2_with (first | (go_at_call 37; refine (fcheck _ _ _ l _ HL.out HN.out H.out).mono ?_; rintro e w1 ⟨rfl, zw1, rfl⟩) | (go_at_call 68; refine (findex _ _ _ l _ _ HL.out HN.out (H.out.xt _)).mono ?_; rintro e w2 ⟨rfl, zw2, rfl⟩))
      refine fin2 (by simp [results, Try.results33, go_sem]; rfl) ?_ rfl (by repeat (first | exact Below.refl _ _ | with_reducible refine Below.drew ?_ | with_reducible refine Below.alloc ?_ (by simp <;> omega) _ | with_reducible refine Below.setCell ?_ (by simp <;> omega) _ | with_reducible refine below_xt ?_ (by simp <;> omega) _ | with_reducible refine below_drewN ?_ _))
      rfl
  · have h0' : (capsErr l != 0) = true := by simp [h0]
    have hV : atV l t = .tuple #[.int .i64 0, .int .i64 (capsErr l)] := by unfold atV; rw [if_pos h0]
    rw [hV]
    clear hV h0
    go_enter Try.func33, Try.ntmps33
    go_wp2_with (go_at_call 37; refine (fcheck _ _ _ l _ HL.out HN.out H.out).mono ?_; rintro e w1 ⟨rfl, zw1, rfl⟩)
    refine fin2 (by simp [results, Try.results33, go_sem]; rfl) ?_ rfl (by repeat (first | exact Below.refl _ _ | with_reducible refine Below.drew ?_ | with_reducible refine Below.alloc ?_ (by simp <;> omega) _ | with_reducible refine Below.setCell ?_ (by simp <;> omega) _ | with_reducible refine below_xt ?_ (by simp <;> omega) _ | with_reducible refine below_drewN ?_ _))
    rfl

/-! ### capacities that are in order -/
theorem caps_parts {l : List Cap} (h : capsErr l = 0) : l.length ≤ 256 ∧ (∀ k, k < l.length → ¬ capBad (l[k]?.getD zCap)) ∧ ∀ i k, i < k → k < l.length → (l[i]?.getD zCap).b ≤ (l[k]?.getD zCap).a := by
  unfold capsErr at h
  by_cases h1 : 256 < l.length
  · rw [if_pos h1] at h; omega
  · rw [if_neg h1] at h
    have key : ∀ (m : List Cap) (e : Int), capsGo e m = 0 → (∀ k, k < m.length → ¬ capBad (m[k]?.getD zCap) ∧ e ≤ (m[k]?.getD zCap).a) ∧ ∀ i k, i < k → k < m.length → (m[i]?.getD zCap).b ≤ (m[k]?.getD zCap).a := by
      intro m
      induction m with
      | nil => intro e _; exact ⟨fun k hk => by simp at hk, fun i k _ hk => by simp at hk⟩
      | cons c m ih =>
        intro e he
        simp only [capsGo] at he
        by_cases hb : capBad c
        · rw [if_pos hb] at he; omega
        · rw [if_neg hb] at he
          by_cases ha : c.a < e
          · rw [if_pos ha] at he; omega
          · rw [if_neg ha] at he
            obtain ⟨i1, i2⟩ := ih c.b he
            refine ⟨fun k hk => ?_, fun i k hik hk => ?_⟩
            · cases k with
              | zero => exact ⟨by simpa using hb, by simp; omega⟩
              | succ k =>
                have := i1 k (by simpa using hk)
                refine ⟨by simpa using this.1, ?_⟩
                have h2 := this.2
                simp only [List.getElem?_cons_succ]
                unfold capBad at hb
                omega
            · cases k with
              | zero => omega
              | succ k =>
                cases i with
                | zero => simpa using (i1 k (by simpa using hk)).2
                | succ i => simpa using i2 i k (by omega) (by simpa using hk)
    obtain ⟨k1, k2⟩ := key l 0 h
    exact ⟨by omega, fun k hk => (k1 k hk).1, k2⟩
theorem cap_uniq {l : List Cap} (h : capsErr l = 0) (t : Int) {i k : Nat} (hi : i < l.length) (hk : k < l.length) (h1 : capP l t i = true) (h2 : capP l t k = true) : i = k := by
  obtain ⟨_, p1, p2⟩ := caps_parts h
  unfold capP inCap at h1 h2
  simp only [Bool.and_eq_true, decide_eq_true_eq] at h1 h2
  rcases Nat.lt_trichotomy i k with h3 | h3 | h3
  · have := p2 i k h3 hk; omega
  · exact h3
  · have := p2 k i h3 hi; omega

/-- The sum of the capacities that end behind t, of the first k. -/
def roomTo (l : List Cap) (t : Int) : Nat → Int
  | 0 => 0
  | k + 1 => roomTo l t k + (if t < (l[k]?.getD zCap).b then (l[k]?.getD zCap).m else 0)
theorem room_bd {l : List Cap} (h : ∀ k, k < l.length → ¬ capBad (l[k]?.getD zCap)) (t : Int) : ∀ k, k ≤ l.length → 0 ≤ roomTo l t k ∧ roomTo l t k ≤ 24 * k
  | 0, _ => by simp [roomTo]
  | k + 1, hk => by
    have h1 := room_bd h t k (by omega)
    have h2 := h k (by omega)
    unfold capBad at h2
    simp only [roomTo]
    split <;> omega
def roomV (l : List Cap) (t : Int) : Value := if capsErr l = 0 then .tuple #[.int .i64 (roomTo l t l.length), .int .i64 0] else .tuple #[.int .i64 0, .int .i64 (capsErr l)]

set_option maxHeartbeats 1000000 in
theorem room_any (A : Option Addr) (n c : Nat) (l : List Cap) (t : Int) (w : World) (hl : l.length = n) (hn : n ≤ maxLen) (h : SlC w A n l) :
    Calls Try.prog 34 #[.slice A n c, .int .i64 t] w (Ret (roomV l t) w) := by
  have H := Lib.hid h
  have HL := Lib.hid hl
  have HN := Lib.hid hn
  clear h hl hn
  by_cases h0 : capsErr l = 0
  · have h0' : (capsErr l != 0) = false := by simp [h0]
    obtain ⟨p0, p1, p2⟩ := caps_parts h0
    have hn : n ≤ 256 := by rw [← HL.out]; exact p0
    have hbd := fun k hk => room_bd p1 t k hk
    have HB := Lib.hid hbd
    have HP := Lib.hid p1
    have hV : roomV l t = .tuple #[.int .i64 (roomTo l t n), .int .i64 0] := by unfold roomV; rw [if_pos h0, HL.out]
    rw [hV]
    clear hV h0 p0 p1 p2 hbd
    go_enter Try.func34, Try.ntmps34
    go_wp2_with (go_at_call 37; refine (fcheck _ _ _ l _ HL.out HN.out H.out).mono ?_; rintro e w1 ⟨rfl, zw1, rfl⟩)
    go_loopg [17, 7] n (fun g i s wr => ∃ k : Nat, g = n - k ∧ k ≤ n ∧ i = .int .i64 k ∧ s = .int .i64 (roomTo l t k) ∧ ∃ z, wr = xt w z)
    case atStart => exact ⟨0, rfl, by omega, rfl, rfl, _, rfl⟩
    case round =>
      obtain ⟨k, rfl, hk, rfl, rfl, z, rfl⟩ := hrel
      by_cases hlt : k < n
      · obtain ⟨b, off, rfl, hb, hcell⟩ := LCap.at H.out hlt
        obtain ⟨c0, c1, c2⟩ := hcell k hlt
        have b1 := HB.out k (by rw [HL.out]; omega)
        have b2 := HP.out k (by rw [HL.out]; omega)
        have hr : roomTo l t (k + 1) = roomTo l t k + (if t < (l[k]?.getD zCap).b then (l[k]?.getD zCap).m else 0) := rfl
        obtain ⟨x, hx⟩ : ∃ x, x = l[k]?.getD zCap := ⟨_, rfl⟩
        have hx' : x = l[k]?.getD LCap.z := hx
        rw [← hx'] at c0 c1 c2
        rw [← hx] at hr b2
        unfold capBad at b2
        have HR := Lib.hid hr
        clear hr hx hx' hcell
        generalize roomTo l t k = S at *
        go_wp2
        · have hq : t < x.b := by assumption
          go_roundg (n - (k + 1))
          case measure => omega
          case rel => exact ⟨k + 1, rfl, by omega, by go_num, by rw [HR.out, if_pos hq], ext_of_below (by repeat (first | exact Below.refl _ _ | with_reducible refine Below.drew ?_ | with_reducible refine Below.alloc ?_ (by simp <;> omega) _ | with_reducible refine Below.setCell ?_ (by simp <;> omega) _ | with_reducible refine below_xt ?_ (by simp <;> omega) _ | with_reducible refine below_drewN ?_ _))⟩
        · have hq : x.b ≤ t := by assumption
          go_roundg (n - (k + 1))
          case measure => omega
          case rel => exact ⟨k + 1, rfl, by omega, by go_num, by rw [HR.out, if_neg (by omega), Int.add_zero], ext_of_below (by repeat (first | exact Below.refl _ _ | with_reducible refine Below.drew ?_ | with_reducible refine Below.alloc ?_ (by simp <;> omega) _ | with_reducible refine Below.setCell ?_ (by simp <;> omega) _ | with_reducible refine below_xt ?_ (by simp <;> omega) _ | with_reducible refine below_drewN ?_ _))⟩
      · obtain rfl : k = n := by omega
        go_wp2
        refine fin2 (by simp [results, Try.results34, go_sem]; rfl) ?_ rfl (by repeat (first | exact Below.refl _ _ | with_reducible refine Below.drew ?_ | with_reducible refine Below.alloc ?_ (by simp <;> omega) _ | with_reducible refine Below.setCell ?_ (by simp <;> omega) _ | with_reducible refine below_xt ?_ (by simp <;> omega) _ | with_reducible refine below_drewN ?_ _))
        rfl
  · have h0' : (capsErr l != 0) = true := by simp [h0]
    have hV : roomV l t = .tuple #[.int .i64 0, .int .i64 (capsErr l)] := by unfold roomV; rw [if_neg h0]
    rw [hV]
    clear hV h0
    go_enter Try.func34, Try.ntmps34
    go_wp2_with (go_at_call 37; refine (fcheck _ _ _ l _ HL.out HN.out H.out).mono ?_; rintro e w1 ⟨rfl, zw1, rfl⟩)
    refine fin2 (by simp [results, Try.results34, go_sem]; rfl) ?_ rfl (by repeat (first | exact Below.refl _ _ | with_reducible refine Below.drew ?_ | with_reducible refine Below.alloc ?_ (by simp <;> omega) _ | with_reducible refine Below.setCell ?_ (by simp <;> omega) _ | with_reducible refine below_xt ?_ (by simp <;> omega) _ | with_reducible refine below_drewN ?_ _))
    rfl

theorem firstIdx_succ_of_uniq {p : Nat → Bool} {k n : Nat} (hk : k < n) (hu : ∀ i, i < n → p i = true → p k = true → i = k) (hp : p k = true) : firstIdx p (k + 1) = k := by
  refine firstIdx_at hp (fun i hi => ?_) (by omega)
  rcases h : p i with _ | _
  · rfl
  · have := hu i (by omega) h hp; omega

set_option maxHeartbeats 1000000 in
theorem capAt_any (A : Option Addr) (n c : Nat) (l : List Cap) (t : Int) (w : World) (hl : l.length = n) (h0 : capsErr l = 0) (h : SlC w A n l) :
    Calls Try.prog 38 #[.slice A n c, .int .i64 t] w (Ret (.int .i64 (capIdx l t)) w) := by
  have hn : n ≤ 256 := by rw [← hl]; exact (caps_parts h0).1
  have H := Lib.hid h
  have HL := Lib.hid hl
  have H0 := Lib.hid h0
  clear h hl h0
  go_enter Try.func38, Try.ntmps38
  go_wp2
  go_loopg [10, 5] n (fun g i s wr => ∃ k : Nat, g = n - k ∧ k ≤ n ∧ i = .int .i64 k ∧ s = .int .i64 (firstIdx (capP l t) k) ∧ ∃ z, wr = xt w z)
  case atStart => exact ⟨0, rfl, by omega, rfl, rfl, ext_of_below (Below.refl _ _)⟩
  case round =>
    obtain ⟨k, rfl, hk, rfl, rfl, z, rfl⟩ := hrel
    by_cases hlt : k < n
    · obtain ⟨b, off, rfl, hb, hcell⟩ := LCap.at H.out hlt
      obtain ⟨c0, c1, c2⟩ := hcell k hlt
      have hp : capP l t k = inCap (l[k]?.getD LCap.z) t := rfl
      generalize l[k]?.getD LCap.z = x at *
      unfold inCap at hp
      have HP := Lib.hid hp
      clear hp hcell
      have hfi : firstIdx (capP l t) (k + 1) = (if 0 ≤ firstIdx (capP l t) k then firstIdx (capP l t) k else if capP l t k = true then (k : Int) else -1) := rfl
      have HF := Lib.hid hfi
      clear hfi
      by_cases hin : x.a ≤ t ∧ t < x.b
      · have d1 : decide (t < x.a) = false := by simp; omega
        have d2 : decide (x.b ≤ t) = false := by simp; omega
        have hpk : capP l t k = true := by rw [HP.out]; simp; exact hin
        have hu := firstIdx_succ_of_uniq (n := n) hlt (fun i hi h1 h2 => cap_uniq H0.out t (by rw [HL.out]; exact hi) (by rw [HL.out]; exact hlt) h1 h2) hpk
        have HU := Lib.hid hu
        clear hu hpk hin
        go_wp2
        go_roundg (n - (k + 1))
        case measure => omega
        case rel => exact ⟨k + 1, rfl, by omega, by go_num, by rw [HU.out], ext_of_below (by repeat (first | exact Below.refl _ _ | with_reducible refine Below.drew ?_ | with_reducible refine Below.alloc ?_ (by simp <;> omega) _ | with_reducible refine Below.setCell ?_ (by simp <;> omega) _ | with_reducible refine below_xt ?_ (by simp <;> omega) _ | with_reducible refine below_drewN ?_ _))⟩
      · have hpk : capP l t k = false := by rw [HP.out]; simp; omega
        have hu : firstIdx (capP l t) (k + 1) = firstIdx (capP l t) k := by
          rw [HF.out, hpk]
          rcases firstIdx_cases (capP l t) k with ⟨e, _⟩ | ⟨j, _, e, _⟩
          · rw [e]; rfl
          · rw [e, if_pos (by omega)]
        have HU := Lib.hid hu
        clear hu hpk
        by_cases h1 : t < x.a
        · have d1 : decide (t < x.a) = true := by simp; omega
          clear hin
          go_wp2
          go_roundg (n - (k + 1))
          case measure => omega
          case rel => exact ⟨k + 1, rfl, by omega, by go_num, by rw [HU.out], ext_of_below (by repeat (first | exact Below.refl _ _ | with_reducible refine Below.drew ?_ | with_reducible refine Below.alloc ?_ (by simp <;> omega) _ | with_reducible refine Below.setCell ?_ (by simp <;> omega) _ | with_reducible refine below_xt ?_ (by simp <;> omega) _ | with_reducible refine below_drewN ?_ _))⟩
        · have d1 : decide (t < x.a) = false := by simp; omega
          have d2 : decide (x.b ≤ t) = true := by simp; omega
          clear hin
          go_wp2
          go_roundg (n - (k + 1))
          case measure => omega
          case rel => exact ⟨k + 1, rfl, by omega, by go_num, by rw [HU.out], ext_of_below (by repeat (first | exact Below.refl _ _ | with_reducible refine Below.drew ?_ | with_reducible refine Below.alloc ?_ (by simp <;> omega) _ | with_reducible refine Below.setCell ?_ (by simp <;> omega) _ | with_reducible refine below_xt ?_ (by simp <;> omega) _ | with_reducible refine below_drewN ?_ _))⟩
    · obtain rfl : k = n := by omega
      go_wp2
      refine fin2 (by simp [results, Try.results38, go_sem]; rfl) ?_ rfl (by repeat (first | exact Below.refl _ _ | with_reducible refine Below.drew ?_ | with_reducible refine Below.alloc ?_ (by simp <;> omega) _ | with_reducible refine Below.setCell ?_ (by simp <;> omega) _ | with_reducible refine below_xt ?_ (by simp <;> omega) _ | with_reducible refine below_drewN ?_ _))
      unfold capIdx; rw [HL.out]
end Go.Proofs.Ytnmepkcbpkcegaa
