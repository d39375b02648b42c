/- The reference's CapDemand, and what the law FlowDemands asks of times. -/
import Derived.Test.YtnmepkcbpkcegaaFlowFact
namespace Go.Proofs.Ytnmepkcbpkcegaa
open Go.RowKit
attribute [local go_sem] xt_size xt_cell xt_frozen xt_setCell xt_drew xt_drewN
attribute [local go_sem] cell_alloc_ite frozen_alloc_ite setCell_alloc_ite

def sumC (l : List Cap) (ts : List Int) (m : Nat) : Nat → Int
  | 0 => 0
  | i + 1 => sumC l ts m i + cnt l ts i m
theorem sumC_step (l : List Cap) (ts : List Int) (m : Nat) : ∀ n, sumC l ts (m + 1) n = sumC l ts m n + (if 0 ≤ capIdx l (ts[m]?.getD 0) ∧ capIdx l (ts[m]?.getD 0) < n then 1 else 0)
  | 0 => by simp only [sumC]; rw [if_neg (by omega)]; rfl
  | n + 1 => by
    have ih := sumC_step l ts m n
    simp only [sumC, cnt, ih]
    by_cases h1 : capIdx l (ts[m]?.getD 0) = (n : Int)
    · rw [if_pos h1, if_neg (by omega), if_pos (by omega)]; omega
    · by_cases h2 : 0 ≤ capIdx l (ts[m]?.getD 0) ∧ capIdx l (ts[m]?.getD 0) < n
      · rw [if_neg h1, if_pos h2, if_pos (by omega)]; omega
      · rw [if_neg h1, if_neg h2, if_neg (by omega)]; omega
theorem sumC_all (l : List Cap) (ts : List Int) : ∀ m, sumC l ts m l.length + cnt l ts (-1) m = m
  | 0 => by
    have : ∀ n, sumC l ts 0 n = 0 := fun n => by induction n with | zero => rfl | succ n ih => simp only [sumC, ih, cnt]; rfl
    rw [this]; rfl
  | m + 1 => by
    have ih := sumC_all l ts m
    have hge := capIdx_ge l (ts[m]?.getD 0)
    rw [sumC_step]
    simp only [cnt]
    by_cases h : capIdx l (ts[m]?.getD 0) = -1
    · rw [if_neg (by omega), if_pos h]; omega
    · rw [if_pos (by omega), if_neg h]; omega
theorem sumC_bd (l : List Cap) (ts : List Int) (m : Nat) : ∀ n, 0 ≤ sumC l ts m n ∧ sumC l ts m n ≤ m * n
  | 0 => by simp [sumC]
  | n + 1 => by
    have ih := sumC_bd l ts m n
    have := cnt_bd l ts n m
    simp only [sumC]
    have e : (m : Int) * ((n + 1 : Nat) : Int) = m * n + m := by rw [Int.natCast_add, Int.mul_add]; omega
    rw [e]; omega
def demPre (l : List Cap) (ts : List Int) (m i : Nat) : List Int := (List.range i).map fun (j : Nat) => cnt l ts (j : Int) m
theorem demPre_succ (l : List Cap) (ts : List Int) (m i : Nat) : demPre l ts m (i + 1) = demPre l ts m i ++ [cnt l ts i m] := by simp [demPre, List.range_succ]
theorem demPre_length (l : List Cap) (ts : List Int) (m i : Nat) : (demPre l ts m i).length = i := by simp [demPre]
def pairI (x : Int) (v : Value) : Value := .tuple #[v, .int .i64 x]

set_option maxHeartbeats 2000000 in
theorem capDemand_any (A C : Option Addr) (n c m d : Nat) (l : List Cap) (ts : List Int) (w : World) (hl : l.length = n) (hm : ts.length = m) (h : SlC w A n l) (hC : SlI w C m ts) (h0 : capsErr l = 0) (hm' : m ≤ 256) :
    Calls Try.prog 45 #[.slice A n c, .slice C m d] w (RetO LInt 3 (pairI (cnt l ts (-1) m)) (demTo l ts m) w) := by
  obtain ⟨i0, hi0, hz0, hz1, hz2⟩ := info_parts info_int
  have hn : n ≤ 256 := by rw [← hl]; exact (caps_parts h0).1
  have H := Lib.hid h
  have HC := Lib.hid hC
  have HL := Lib.hid hl
  have HM := Lib.hid hm
  have H0 := Lib.hid h0
  clear h hC h0 hl hm
  go_enter Try.func45, Try.ntmps45
  go_wp2
  go_loopg [16, 6, 7] n (fun g i v s wr => ∃ (k : Nat), g = n - k ∧ k ≤ n ∧ i = .int .i64 k ∧ s = .int .i64 (m - sumC l ts m k) ∧ Below w.heap.size w wr ∧ Own LInt wr w.heap.size 3 v (demPre l ts m k))
  case atStart => exact ⟨0, rfl, by omega, rfl, by simp [sumC], Below.refl _ _, Own.nil _ _ _⟩
  case round =>
    obtain ⟨k, rfl, hk, rfl, rfl, hBw, hown⟩ := hrel
    obtain ⟨Av, cv, rfl, _, _⟩ := hown.form
    rw [demPre_length] at hown ⊢
    have HO := Lib.hid hown
    have hBs := hBw.size
    have hsb := sumC_bd l ts m k
    have hsb1 : sumC l ts m (k + 1) = sumC l ts m k + cnt l ts k m := rfl
    have HSB := Lib.hid hsb1
    have hsb2 : (m : Int) * k ≤ 65536 := by
      have h1 : (m : Int) * k ≤ 256 * 256 := Int.mul_le_mul (by omega) (by omega) (by omega) (by omega)
      omega
    clear hown hsb1
    by_cases hlt : k < n
    · have hdk : decide ((k : Int) < (n : Int)) = true := by simp; omega
      go_wp2
      go_loopg [21, 9] m (fun g i s w2 => ∃ (q : Nat), g = m - q ∧ q ≤ m ∧ i = .int .i64 q ∧ s = .int .i64 (cnt l ts k q) ∧ ∃ z, w2 = xt wr z)
      case atStart => exact ⟨0, rfl, by omega, rfl, rfl, ext_of_below (Below.refl _ _)⟩
      case round =>
        obtain ⟨q, rfl, hq, rfl, rfl, z, rfl⟩ := hrel
        have hcb := cnt_bd l ts k q
        by_cases hlt2 : q < m
        · obtain ⟨b, off, rfl, hb, hcell⟩ := SlI.at (HC.out.below hBw) hlt2
          have hc := hcell q hlt2
          have F0 := fun z => Lib.hid (capAt_any A n c l (ts[q]?.getD 0) (xt wr z) HL.out H0.out ((H.out.below hBw).xt z))
          have hcs : cnt l ts k (q + 1) = cnt l ts k q + (if capIdx l (ts[q]?.getD 0) = k then 1 else 0) := rfl
          have HCS := Lib.hid hcs
          clear hcell hcs
          by_cases hh : capIdx l (ts[q]?.getD 0) = (k : Int)
          · have hhb : (capIdx l (ts[q]?.getD 0) == (k : Int)) = true := by simp [hh]
            have HH := Lib.hid hh
            clear hh
            go_wp2_with (go_at_call 38; refine ((F0 _).out).mono ?_; rintro e w3 ⟨rfl, zw3, rfl⟩)
            go_roundg (m - (q + 1))
            case measure => omega
            case rel => exact ⟨q + 1, rfl, by omega, by go_num, by rw [HCS.out, if_pos HH.out], ext_of_below (by repeat (first | exact Below.refl _ _ | with_reducible assumption | with_reducible refine Below.drew ?_ | with_reducible refine Below.alloc ?_ (by first | omega | (simp <;> omega)) _ | with_reducible refine Below.setCell ?_ (by first | omega | (simp <;> omega)) _ | with_reducible refine below_xt ?_ (by first | omega | (simp <;> omega)) _ | with_reducible refine below_drewN ?_ _))⟩
          · have hhb : (capIdx l (ts[q]?.getD 0) == (k : Int)) = false := by simp [hh]
            have HH := Lib.hid hh
            clear hh
            go_wp2_with (go_at_call 38; refine ((F0 _).out).mono ?_; rintro e w3 ⟨rfl, zw3, rfl⟩)
            go_roundg (m - (q + 1))
            case measure => omega
            case rel => exact ⟨q + 1, rfl, by omega, by go_num, by rw [HCS.out, if_neg HH.out, Int.add_zero], ext_of_below (by repeat (first | exact Below.refl _ _ | with_reducible assumption | with_reducible refine Below.drew ?_ | with_reducible refine Below.alloc ?_ (by first | omega | (simp <;> omega)) _ | with_reducible refine Below.setCell ?_ (by first | omega | (simp <;> omega)) _ | with_reducible refine below_xt ?_ (by first | omega | (simp <;> omega)) _ | with_reducible refine below_drewN ?_ _))⟩
        · obtain rfl : q = m := by omega
          go_wp2_with (at_builtin; refine wpList_append_sl (L := LInt) rfl _ _ 45 rfl w.heap.size 3 i0 (.int .i64 0) 8 Try.underlying45 hi0 hz0 hz1 hz2 rfl (by decide) (by intro x j; rfl) (.slice Av k cv) (demPre l ts q k) rfl ((HO.out.xt _).alloc _) _ 1 1 [cnt l ts k q] rfl rfl (by exact sl_one_int _ _ _ _ (by simp)) (by unfold maxLen; rw [demPre_length]; omega) (by rw [demPre_length]; omega) (by simp; omega) ?_; intro v1 w1 hown1 hg1 hat1)
          go_roundg (n - (k + 1))
          case measure => omega
          case rel => exact ⟨k + 1, rfl, by omega, by go_num, by rw [HSB.out, ← Int.sub_sub], below_append HO.out (show Below w.heap.size w _ from (by repeat (first | exact Below.refl _ _ | with_reducible assumption | with_reducible refine Below.drew ?_ | with_reducible refine Below.alloc ?_ (by first | omega | (simp <;> omega)) _ | with_reducible refine Below.setCell ?_ (by first | omega | (simp <;> omega)) _ | with_reducible refine below_xt ?_ (by first | omega | (simp <;> omega)) _ | with_reducible refine below_drewN ?_ _))) hg1 (by simp; omega), by rw [demPre_succ]; exact hown1⟩
    · obtain rfl : k = n := by omega
      have hall := sumC_all l ts m
      rw [HL.out] at hall
      have hD : demPre l ts m k = demTo l ts m := by unfold demPre demTo; rw [HL.out]
      have HD := Lib.hid hD
      have HALL := Lib.hid hall
      clear hD hall
      go_wp2
      refine bodyPost_ret (v := pairI (cnt l ts (-1) m) (.slice Av k cv)) (by simp [results, Try.results45, pairI]; have := HALL.out; omega) rfl ?_
      exact retO_mk hBw (by rw [← HD.out]; exact HO.out)

theorem badTime_any (x : Int) (w : World) : Calls Try.prog 44 #[.int .i64 x] w (Ret (.bool (decide (x < 0) || decide (200000 < x))) w) := by
  by_cases h : x < 0
  · have hd : decide (x < 0) = true := by simp [h]
    go_enter Try.func44, Try.ntmps44
    go_wp2
    refine fin2 (by simp [results, Try.results44, go_sem]; rfl) ?_ rfl (by repeat (first | exact Below.refl _ _ | with_reducible assumption | with_reducible refine Below.drew ?_ | with_reducible refine Below.alloc ?_ (by first | omega | (simp <;> omega)) _ | with_reducible refine Below.setCell ?_ (by first | omega | (simp <;> omega)) _ | with_reducible refine below_xt ?_ (by first | omega | (simp <;> omega)) _ | with_reducible refine below_drewN ?_ _))
    rw [hd]; rfl
  · have hd : decide (x < 0) = false := by simp; omega
    rw [hd]
    go_enter Try.func44, Try.ntmps44
    go_wp2
    refine fin2 (by simp [results, Try.results44, go_sem]; rfl) ?_ rfl (by repeat (first | exact Below.refl _ _ | with_reducible assumption | with_reducible refine Below.drew ?_ | with_reducible refine Below.alloc ?_ (by first | omega | (simp <;> omega)) _ | with_reducible refine Below.setCell ?_ (by first | omega | (simp <;> omega)) _ | with_reducible refine below_xt ?_ (by first | omega | (simp <;> omega)) _ | with_reducible refine below_drewN ?_ _))
    rfl
theorem callFunc_time (args : Array Value) (W : World) : (callFunc 44 args).run Try.prog W = .ok (.enter 44 args) W := by kernel_rfl
def timeP (ts : List Int) (i : Nat) : Bool := decide (ts[i]?.getD 0 < 0) || decide (200000 < ts[i]?.getD 0)
theorem containsTime (C : Option Addr) (m d : Nat) (ts : List Int) (w : World) (hm : m ≤ maxLen) (hC : SlI w C m ts) :
    Calls Try.prog 43 #[.slice C m d, .func (.func 44) #[] #[]] w (Ret (.bool (decide (0 ≤ firstIdx (timeP ts) m))) w) := by
  have HI := Lib.hid (index_LInt0 44 C m d ts (timeP ts) w hm hC callFunc_time (fun i z hi => badTime_any _ _))
  clear hC
  go_enter Try.func43, Try.ntmps43
  go_wp2_with (go_at_call 69; refine (HI.out).mono ?_; rintro e w1 ⟨rfl, zw1, rfl⟩)
  refine fin2 (by simp [results, Try.results43, go_sem]; rfl) ?_ rfl (by repeat (first | exact Below.refl _ _ | with_reducible assumption | with_reducible refine Below.drew ?_ | with_reducible refine Below.alloc ?_ (by first | omega | (simp <;> omega)) _ | with_reducible refine Below.setCell ?_ (by first | omega | (simp <;> omega)) _ | with_reducible refine below_xt ?_ (by first | omega | (simp <;> omega)) _ | with_reducible refine below_drewN ?_ _))
  rfl
theorem bad_iff (ts : List Int) : 0 ≤ firstIdx (timeP ts) ts.length ↔ badTimes ts := by
  unfold badTimes
  rcases firstIdx_cases (timeP ts) ts.length with ⟨e, hno⟩ | ⟨k, hk, e, hp, _⟩
  · rw [e]
    refine ⟨fun h => absurd h (by omega), ?_⟩
    rintro ⟨i, hi, hb⟩
    have := hno i hi
    unfold timeP at this
    simp only [Bool.or_eq_false_iff, decide_eq_false_iff_not] at this
    omega
  · rw [e]
    refine ⟨fun _ => ⟨k, hk, ?_⟩, fun _ => by omega⟩
    unfold timeP at hp
    simpa using hp
end Go.Proofs.Ytnmepkcbpkcegaa
