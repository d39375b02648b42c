/- The walk of the law FlowDemands. -/
import Derived.Test.YtnmepkcbpkcegaaFlow6
namespace Go.Proofs.Ytnmepkcbpkcegaa
open Go.RowKit
attribute [local go_sem] xt_size xt_cell xt_frozen xt_setCell xt_drew xt_drewN
attribute [local go_sem] cell_alloc_ite frozen_alloc_ite setCell_alloc_ite

set_option maxRecDepth 100000 in
set_option maxHeartbeats 2000000 in
theorem demands_bad (A C : Option Addr) (n c m d : Nat) (l : List Cap) (ts : List Int) (w : World) (hl : l.length = n) (hm : ts.length = m) (hn : n ≤ maxLen) (hmm : m ≤ maxLen) (h : SlC w A n l) (hC : SlI w C m ts) (he : demErr l ts ≠ 0) :
    Calls Try.prog 10 #[.slice A n c, .slice C m d] w (Ret (.bool true) w) := by
  have H := Lib.hid h
  have HC := Lib.hid hC
  have HL := Lib.hid hl
  have HM := Lib.hid hm
  have HN := Lib.hid hn
  have HMM := Lib.hid hmm
  have HE := Lib.hid he
  unfold maxLen at hmm
  clear h hC hn
  by_cases h0 : capsErr l = 0
  · have h0' : (capsErr l == 0) = true := by simp [h0]
    by_cases h1 : 256 < m
    · have hE : demErr l ts = 2 := by unfold demErr; rw [if_neg (by simp [h0]), if_pos (by omega)]
      clear h0 he hl hm
      have h1' : decide (256 < m) = true := by simp; omega
      go_enter Try.func10, Try.ntmps10
      go_wp2_with (first | (go_at_call 32; refine (flowFact_any _).mono ?_; rintro e w1 ⟨rfl, zw1, rfl⟩) | (go_at_call 41; refine (demand_bad _ _ _ _ _ _ l ts _ HL.out HM.out HN.out HMM.out (by repeat (first | exact H.out | with_reducible refine Sl.xt ?_ _ | with_reducible refine Sl.alloc ?_ _ | with_reducible refine Sl.drew ?_)) (by repeat (first | exact HC.out | with_reducible refine Sl.xt ?_ _ | with_reducible refine Sl.alloc ?_ _ | with_reducible refine Sl.drew ?_)) HE.out).mono ?_; rintro e w2 ⟨rfl, zw2, rfl⟩) | (go_at_call 42; refine (over_bad _ _ _ _ _ _ l ts _ HL.out HM.out HN.out HMM.out (by repeat (first | exact H.out | with_reducible refine Sl.xt ?_ _ | with_reducible refine Sl.alloc ?_ _ | with_reducible refine Sl.drew ?_)) (by repeat (first | exact HC.out | with_reducible refine Sl.xt ?_ _ | with_reducible refine Sl.alloc ?_ _ | with_reducible refine Sl.drew ?_)) HE.out).mono ?_; rintro e w3 ⟨rfl, zw3, rfl⟩) | (go_at_call 36; refine (capsError_any _ _ _ l _ HL.out HN.out (by repeat (first | exact H.out | with_reducible refine Sl.xt ?_ _ | with_reducible refine Sl.alloc ?_ _ | with_reducible refine Sl.drew ?_))).mono ?_; rintro e w5 ⟨rfl, zw5, rfl⟩))
      refine fin2 (by simp [results, Try.results10, go_sem]; rfl) ?_ rfl (by repeat (first | exact Below.refl _ _ | with_reducible assumption | with_reducible refine Below.drew ?_ | with_reducible refine Below.alloc ?_ (by first | omega | (simp <;> omega)) _ | with_reducible refine Below.setCell ?_ (by first | omega | (simp <;> omega)) _ | with_reducible refine below_xt ?_ (by first | omega | (simp <;> omega)) _ | with_reducible refine below_drewN ?_ _))
      rfl
    · have hb : badTimes ts := by
        refine Classical.byContradiction fun hb => he ?_
        unfold demErr; rw [if_neg (by simp [h0]), if_neg (by omega), if_neg hb]
      have hE : demErr l ts = 12 := by unfold demErr; rw [if_neg (by simp [h0]), if_neg (by omega), if_pos hb]
      have hbt : decide (0 ≤ firstIdx (timeP ts) m) = true := by rw [decide_eq_true_eq, ← hm]; exact (bad_iff ts).2 hb
      have h1' : decide (256 < m) = false := by simp; omega
      clear h0 he hl hm hb
      go_enter Try.func10, Try.ntmps10
      go_wp2_with (first | (go_at_call 32; refine (flowFact_any _).mono ?_; rintro e w1 ⟨rfl, zw1, rfl⟩) | (go_at_call 41; refine (demand_bad _ _ _ _ _ _ l ts _ HL.out HM.out HN.out HMM.out (by repeat (first | exact H.out | with_reducible refine Sl.xt ?_ _ | with_reducible refine Sl.alloc ?_ _ | with_reducible refine Sl.drew ?_)) (by repeat (first | exact HC.out | with_reducible refine Sl.xt ?_ _ | with_reducible refine Sl.alloc ?_ _ | with_reducible refine Sl.drew ?_)) HE.out).mono ?_; rintro e w2 ⟨rfl, zw2, rfl⟩) | (go_at_call 42; refine (over_bad _ _ _ _ _ _ l ts _ HL.out HM.out HN.out HMM.out (by repeat (first | exact H.out | with_reducible refine Sl.xt ?_ _ | with_reducible refine Sl.alloc ?_ _ | with_reducible refine Sl.drew ?_)) (by repeat (first | exact HC.out | with_reducible refine Sl.xt ?_ _ | with_reducible refine Sl.alloc ?_ _ | with_reducible refine Sl.drew ?_)) HE.out).mono ?_; rintro e w3 ⟨rfl, zw3, rfl⟩) | (go_at_call 36; refine (capsError_any _ _ _ l _ HL.out HN.out (by repeat (first | exact H.out | with_reducible refine Sl.xt ?_ _ | with_reducible refine Sl.alloc ?_ _ | with_reducible refine Sl.drew ?_))).mono ?_; rintro e w5 ⟨rfl, zw5, rfl⟩) | (go_at_call 43; refine (containsTime _ _ _ ts _ HMM.out (by repeat (first | exact HC.out | with_reducible refine Sl.xt ?_ _ | with_reducible refine Sl.alloc ?_ _ | with_reducible refine Sl.drew ?_))).mono ?_; rintro e w6 ⟨rfl, zw6, rfl⟩))
      refine fin2 (by simp [results, Try.results10, go_sem]; rfl) ?_ rfl (by repeat (first | exact Below.refl _ _ | with_reducible assumption | with_reducible refine Below.drew ?_ | with_reducible refine Below.alloc ?_ (by first | omega | (simp <;> omega)) _ | with_reducible refine Below.setCell ?_ (by first | omega | (simp <;> omega)) _ | with_reducible refine below_xt ?_ (by first | omega | (simp <;> omega)) _ | with_reducible refine below_drewN ?_ _))
      rfl
  · have hE : demErr l ts = capsErr l := by unfold demErr; rw [if_pos h0]
    have h0' : (capsErr l == 0) = false := by simp [h0]
    have h0'' : (capsErr l != 0) = true := by simp [h0]
    clear h0 he hl hm
    go_enter Try.func10, Try.ntmps10
    go_wp2_with (first | (go_at_call 32; refine (flowFact_any _).mono ?_; rintro e w1 ⟨rfl, zw1, rfl⟩) | (go_at_call 41; refine (demand_bad _ _ _ _ _ _ l ts _ HL.out HM.out HN.out HMM.out (by repeat (first | exact H.out | with_reducible refine Sl.xt ?_ _ | with_reducible refine Sl.alloc ?_ _ | with_reducible refine Sl.drew ?_)) (by repeat (first | exact HC.out | with_reducible refine Sl.xt ?_ _ | with_reducible refine Sl.alloc ?_ _ | with_reducible refine Sl.drew ?_)) HE.out).mono ?_; rintro e w2 ⟨rfl, zw2, rfl⟩) | (go_at_call 42; refine (over_bad _ _ _ _ _ _ l ts _ HL.out HM.out HN.out HMM.out (by repeat (first | exact H.out | with_reducible refine Sl.xt ?_ _ | with_reducible refine Sl.alloc ?_ _ | with_reducible refine Sl.drew ?_)) (by repeat (first | exact HC.out | with_reducible refine Sl.xt ?_ _ | with_reducible refine Sl.alloc ?_ _ | with_reducible refine Sl.drew ?_)) HE.out).mono ?_; rintro e w3 ⟨rfl, zw3, rfl⟩) | (go_at_call 36; refine (capsError_any _ _ _ l _ HL.out HN.out (by repeat (first | exact H.out | with_reducible refine Sl.xt ?_ _ | with_reducible refine Sl.alloc ?_ _ | with_reducible refine Sl.drew ?_))).mono ?_; rintro e w5 ⟨rfl, zw5, rfl⟩))
    refine fin2 (by simp [results, Try.results10, go_sem]; rfl) ?_ rfl (by repeat (first | exact Below.refl _ _ | with_reducible assumption | with_reducible refine Below.drew ?_ | with_reducible refine Below.alloc ?_ (by first | omega | (simp <;> omega)) _ | with_reducible refine Below.setCell ?_ (by first | omega | (simp <;> omega)) _ | with_reducible refine below_xt ?_ (by first | omega | (simp <;> omega)) _ | with_reducible refine below_drewN ?_ _))
    rfl

set_option maxRecDepth 100000 in
set_option maxHeartbeats 2000000 in
theorem demands_good (A C : Option Addr) (n c m d : Nat) (l : List Cap) (ts : List Int) (w : World) (hl : l.length = n) (hm : ts.length = m) (h : SlC w A n l) (hC : SlI w C m ts) (he : demErr l ts = 0) :
    Calls Try.prog 10 #[.slice A n c, .slice C m d] w (Ret (.bool true) w) := by
  obtain ⟨i0, hi0, hz0, hz1, hz2⟩ := info_parts info_int
  obtain ⟨h0, hn, hm', hts⟩ := dem_parts he
  rw [hl] at hn
  rw [hm] at hm' hts
  have hnb : ¬ badTimes ts := by
    rintro ⟨i, hi, hb⟩
    have := hts i (by omega)
    omega
  have hbt : decide (0 ≤ firstIdx (timeP ts) m) = false := by rw [decide_eq_false_iff_not, ← hm, bad_iff]; exact hnb
  have h0' : (capsErr l == 0) = true := by simp [h0]
  have h0'' : (capsErr l != 0) = false := by simp [h0]
  have h1' : decide (256 < m) = false := by simp; omega
  have H := Lib.hid h
  have HC := Lib.hid hC
  have HL := Lib.hid hl
  have HM := Lib.hid hm
  have HN : Hid (n ≤ maxLen) := by unfold maxLen; show n ≤ _; omega
  have HMM : Hid (m ≤ maxLen) := by unfold maxLen; show m ≤ _; omega
  have HE := Lib.hid he
  have H0 := Lib.hid h0
  clear h hC he h0 hl hm hts hnb
  go_enter Try.func10, Try.ntmps10
  go_wp2_with (go_at_call 32; refine (flowFact_any _).mono ?_; rintro e w1 ⟨rfl, zw1, rfl⟩)
  refine (demand_good _ _ _ _ _ _ l ts _ HL.out HM.out (by repeat (first | exact H.out | with_reducible refine Sl.xt ?_ _ | with_reducible refine Sl.alloc ?_ _ | with_reducible refine Sl.drew ?_)) (by repeat (first | exact HC.out | with_reducible refine Sl.xt ?_ _ | with_reducible refine Sl.alloc ?_ _ | with_reducible refine Sl.drew ?_)) HE.out).mono ?_
  rintro e W1 ⟨A1, c1, z1, rfl, hW, o1⟩
  rw [demTo_length, HL.out] at o1 ⊢
  have s1 := Lib.hid o1.sl
  have H1 := Lib.hid (show SlC W1 A n l by rw [hW]; exact (by repeat (first | exact H.out | with_reducible refine Sl.xt ?_ _ | with_reducible refine Sl.alloc ?_ _ | with_reducible refine Sl.drew ?_)))
  have HC1 := Lib.hid (show SlI W1 C m ts by rw [hW]; exact (by repeat (first | exact HC.out | with_reducible refine Sl.xt ?_ _ | with_reducible refine Sl.alloc ?_ _ | with_reducible refine Sl.drew ?_)))
  have hB1 : Below w.heap.size w W1 := by rw [hW]; exact (by repeat (first | exact Below.refl _ _ | with_reducible assumption | with_reducible refine Below.drew ?_ | with_reducible refine Below.alloc ?_ (by first | omega | (simp <;> omega)) _ | with_reducible refine Below.setCell ?_ (by first | omega | (simp <;> omega)) _ | with_reducible refine below_xt ?_ (by first | omega | (simp <;> omega)) _ | with_reducible refine below_drewN ?_ _))
  have hBs1 := hB1.size
  clear hW o1 H HC
  unfold triOK
  go_wp2_with fail
  refine (over_good _ _ _ _ _ _ l ts _ HL.out HM.out (by repeat (first | exact H1.out | with_reducible refine Sl.xt ?_ _ | with_reducible refine Sl.alloc ?_ _ | with_reducible refine Sl.drew ?_)) (by repeat (first | exact HC1.out | with_reducible refine Sl.xt ?_ _ | with_reducible refine Sl.alloc ?_ _ | with_reducible refine Sl.drew ?_)) HE.out).mono ?_
  rintro e W2 ⟨A2, c2, z2, rfl, hW, o2⟩
  have s2 := Lib.hid o2.sl
  have s1' := Lib.hid (show SlT LInt W2 A1 n (demTo l ts m) by rw [hW]; exact (by repeat (first | exact s1.out | with_reducible refine Sl.xt ?_ _ | with_reducible refine Sl.alloc ?_ _ | with_reducible refine Sl.drew ?_)))
  have H2 := Lib.hid (show SlC W2 A n l by rw [hW]; exact (by repeat (first | exact H1.out | with_reducible refine Sl.xt ?_ _ | with_reducible refine Sl.alloc ?_ _ | with_reducible refine Sl.drew ?_)))
  have HC2 := Lib.hid (show SlI W2 C m ts by rw [hW]; exact (by repeat (first | exact HC1.out | with_reducible refine Sl.xt ?_ _ | with_reducible refine Sl.alloc ?_ _ | with_reducible refine Sl.drew ?_)))
  have hB2 : Below w.heap.size w W2 := by rw [hW]; exact (by repeat (first | exact Below.refl _ _ | with_reducible assumption | with_reducible refine Below.drew ?_ | with_reducible refine Below.alloc ?_ (by first | omega | (simp <;> omega)) _ | with_reducible refine Below.setCell ?_ (by first | omega | (simp <;> omega)) _ | with_reducible refine below_xt ?_ (by first | omega | (simp <;> omega)) _ | with_reducible refine below_drewN ?_ _))
  have hBs2 := hB2.size
  clear hW o2 H1 HC1 s1
  unfold pairOK
  go_wp2_with (first | (go_at_call 36; refine (capsError_any _ _ _ l _ HL.out HN.out (by repeat (first | exact H2.out | with_reducible refine Sl.xt ?_ _ | with_reducible refine Sl.alloc ?_ _ | with_reducible refine Sl.drew ?_))).mono ?_; rintro e w5 ⟨rfl, zw5, rfl⟩) | (go_at_call 43; refine (containsTime _ _ _ ts _ HMM.out (by repeat (first | exact HC2.out | with_reducible refine Sl.xt ?_ _ | with_reducible refine Sl.alloc ?_ _ | with_reducible refine Sl.drew ?_))).mono ?_; rintro e w6 ⟨rfl, zw6, rfl⟩))
  refine (capDemand_any _ _ _ _ _ _ l ts _ HL.out HM.out (by repeat (first | exact H2.out | with_reducible refine Sl.xt ?_ _ | with_reducible refine Sl.alloc ?_ _ | with_reducible refine Sl.drew ?_)) (by repeat (first | exact HC2.out | with_reducible refine Sl.xt ?_ _ | with_reducible refine Sl.alloc ?_ _ | with_reducible refine Sl.drew ?_)) H0.out hm').mono ?_
  rintro e W3 ⟨A3, c3, z3, rfl, hW, o3⟩
  rw [demTo_length, HL.out] at o3 ⊢
  have s3 := Lib.hid o3.sl
  have s1'' := Lib.hid (show SlT LInt W3 A1 n (demTo l ts m) by rw [hW]; exact (by repeat (first | exact s1'.out | with_reducible refine Sl.xt ?_ _ | with_reducible refine Sl.alloc ?_ _ | with_reducible refine Sl.drew ?_)))
  have s2' := Lib.hid (show SlT LInt W3 A2 (overTo l ts n).length (overTo l ts n) by rw [hW]; exact (by repeat (first | exact s2.out | with_reducible refine Sl.xt ?_ _ | with_reducible refine Sl.alloc ?_ _ | with_reducible refine Sl.drew ?_)))
  have H3 := Lib.hid (show SlC W3 A n l by rw [hW]; exact (by repeat (first | exact H2.out | with_reducible refine Sl.xt ?_ _ | with_reducible refine Sl.alloc ?_ _ | with_reducible refine Sl.drew ?_)))
  have hB3 : Below w.heap.size w W3 := by rw [hW]; exact (by repeat (first | exact Below.refl _ _ | with_reducible assumption | with_reducible refine Below.drew ?_ | with_reducible refine Below.alloc ?_ (by first | omega | (simp <;> omega)) _ | with_reducible refine Below.setCell ?_ (by first | omega | (simp <;> omega)) _ | with_reducible refine below_xt ?_ (by first | omega | (simp <;> omega)) _ | with_reducible refine below_drewN ?_ _))
  have hBs3 := hB3.size
  clear hW o3 H2 HC2 s1' s2
  unfold pairI
  go_wp2
  go_loopg [75, 13] n (fun g i v wr => ∃ (k : Nat), g = n - k ∧ k ≤ n ∧ i = .int .i64 k ∧ Below W3.heap.size W3 wr ∧ Own LInt wr W3.heap.size 3 v (overTo l ts k))
  case atStart => exact ⟨0, rfl, by omega, rfl, Below.refl _ _, Own.nil _ _ _⟩
  case round =>
    obtain ⟨k, rfl, hk, rfl, hBw, hown⟩ := hrel
    obtain ⟨Av, cv, rfl, _, _⟩ := hown.form
    have HO := Lib.hid hown
    clear hown
    have hBsw := hBw.size
    by_cases hlt : k < n
    · obtain ⟨b, off, rfl, hb, hcell⟩ := LCap.at H3.out hlt
      obtain ⟨d0, d1, d2⟩ := hcell k hlt
      have hbw : b < wr.heap.size := by omega
      rw [← hBw.cell (p := ⟨b, off + k * 3 + 2, none⟩) hb] at d2
      obtain ⟨b2, off2, rfl, hb2, hcell2⟩ := LInt.at s3.out hlt
      have e0 := hcell2 k hlt
      have e1 : (demTo l ts m)[k]?.getD LInt.z = cnt l ts k m := demTo_get l ts m k (by rw [HL.out]; exact hlt)
      rw [e1, ← hBw.cell (p := ⟨b2, off2 + k, none⟩) hb2] at e0
      have hb2w : b2 < wr.heap.size := by omega
      have hov : overTo l ts (k + 1) = if (l[k]?.getD LCap.z).m < cnt l ts k m then overTo l ts k ++ [(k : Int)] else overTo l ts k := by
        rw [← HM.out]; rfl
      generalize l[k]?.getD LCap.z = x at *
      generalize cnt l ts k m = y at *
      have HOV := Lib.hid hov
      have hol := overTo_length l ts k
      clear hcell hcell2 hov e1 d0 d1
      by_cases hq : x.m < y
      · have hq' : decide (x.m < y) = true := by simp; omega
        have hW : Hid (overTo l ts (k + 1) = overTo l ts k ++ [(k : Int)]) := by show _ = _; rw [HOV.out, if_pos hq]
        go_wp2
        (refine wp_region_ext (by kernel_rfl) (by kernel_rfl) ?_; (repeat (go_big_quiet_step ((fail)))); refine wpQuiet_nil ?_; intro _ hw'; obtain ⟨z9, hw''⟩ := hw'; subst hw'')
        go_wp2_with (at_builtin; refine wpList_append_sl (L := LInt) rfl _ _ 45 rfl W3.heap.size 3 i0 (.int .i64 0) 8 Try.underlying45 hi0 hz0 hz1 hz2 rfl (by decide) (by intro x j; rfl) _ (overTo l ts k) rfl ((HO.out.xt _).alloc _) _ 1 1 [(k : Int)] rfl rfl (by exact sl_one_int _ _ _ _ (by simp)) (by unfold maxLen; omega) (by omega) (by simp; omega) ?_; intro v1 w1 hown1 hg1 hat1)
        go_roundg (n - (k + 1))
        case measure => omega
        case rel => exact ⟨k + 1, rfl, by omega, by go_num, below_append HO.out (show Below W3.heap.size W3 _ from (by repeat (first | exact Below.refl _ _ | with_reducible assumption | with_reducible refine Below.drew ?_ | with_reducible refine Below.alloc ?_ (by first | omega | (simp <;> omega)) _ | with_reducible refine Below.setCell ?_ (by first | omega | (simp <;> omega)) _ | with_reducible refine below_xt ?_ (by first | omega | (simp <;> omega)) _ | with_reducible refine below_drewN ?_ _))) hg1 (by simp; omega), by rw [hW.out]; exact hown1⟩
      · have hq' : decide (x.m < y) = false := by simp; omega
        have hW : Hid (overTo l ts (k + 1) = overTo l ts k) := by show _ = _; rw [HOV.out, if_neg hq]
        clear hq
        go_wp2
        (refine wp_region_ext (by kernel_rfl) (by kernel_rfl) ?_; (repeat (go_big_quiet_step ((fail)))); refine wpQuiet_nil ?_; intro _ hw'; obtain ⟨z9, hw''⟩ := hw'; subst hw'')
        go_wp2
        go_roundg (n - (k + 1))
        case measure => omega
        case rel => exact ⟨k + 1, rfl, by omega, by go_num, (by repeat (first | exact Below.refl _ _ | with_reducible assumption | with_reducible refine Below.drew ?_ | with_reducible refine Below.alloc ?_ (by first | omega | (simp <;> omega)) _ | with_reducible refine Below.setCell ?_ (by first | omega | (simp <;> omega)) _ | with_reducible refine below_xt ?_ (by first | omega | (simp <;> omega)) _ | with_reducible refine below_drewN ?_ _)), by rw [hW.out]; exact HO.out.xt _⟩
    · obtain rfl : k = n := by omega
      have hol := overTo_length l ts k
      have hce : (cnt l ts (-1) m == cnt l ts (-1) m) = true := by simp
      have hBf : Below w.heap.size w wr := hB3.trans (hBw.mono hBs3)
      go_wp2_with fail
      refine (equal_LInt _ _ _ _ _ (demTo l ts m) _ HN.out (s1''.out.below hBw) (s3.out.below hBw)).mono ?_
      rintro e w11 ⟨rfl, z11, rfl⟩
      go_wp2_with fail
      refine (equal_LInt _ _ _ _ _ (overTo l ts k) _ (by unfold maxLen; omega) ((s2'.out.below hBw).xt _) (HO.out.sl.xt _)).mono ?_
      rintro e w12 ⟨rfl, z12, rfl⟩
      go_wp2
      refine fin2 (by simp [results, Try.results10, go_sem]; rfl) ?_ rfl (by repeat (first | exact Below.refl _ _ | with_reducible assumption | with_reducible refine Below.drew ?_ | with_reducible refine Below.alloc ?_ (by first | omega | (simp <;> omega)) _ | with_reducible refine Below.setCell ?_ (by first | omega | (simp <;> omega)) _ | with_reducible refine below_xt ?_ (by first | omega | (simp <;> omega)) _ | with_reducible refine below_drewN ?_ _))
      rfl

theorem demands_walk (A C : Option Addr) (n c m d : Nat) (l : List Cap) (ts : List Int) (w : World) (hl : l.length = n) (hm : ts.length = m) (hn : n ≤ maxLen) (hmm : m ≤ maxLen) (h : SlC w A n l) (hC : SlI w C m ts) :
    Calls Try.prog 10 #[.slice A n c, .slice C m d] w (Ret (.bool true) w) := by
  by_cases he : demErr l ts = 0
  · exact demands_good A C n c m d l ts w hl hm h hC he
  · exact demands_bad A C n c m d l ts w hl hm hn hmm h hC he
end Go.Proofs.Ytnmepkcbpkcegaa
