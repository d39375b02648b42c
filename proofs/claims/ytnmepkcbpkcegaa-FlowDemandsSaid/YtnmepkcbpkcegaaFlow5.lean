/- Package flow: Demand at valid arguments, Over; the reference's CapDemand. -/
import Derived.Test.YtnmepkcbpkcegaaFlow4
namespace Go.Proofs.Ytnmepkcbpkcegaa
open Go.RowKit
attribute [local go_sem] xt_size xt_cell xt_frozen xt_setCell xt_drew xt_drewN
attribute [local go_sem] cell_alloc_ite frozen_alloc_ite setCell_alloc_ite

theorem below_append {α : Type} {L : Lay α} {a w w' w'' : World} {B : Nat} {t : TypeId} {v : Value} {l : List α} (h : Own L w B t v l) (hb : Below B a w') (hg : w'.grownBy w'' v.ownBlock) (hs : B ≤ w'.heap.size) : Below B a w'' :=
  hb.grown hg hs (fun k hk => (World.ownsRow.lt h k hk).1)
theorem dem_parts {l : List Cap} {ts : List Int} (h : demErr l ts = 0) : capsErr l = 0 ∧ l.length ≤ 256 ∧ ts.length ≤ 256 ∧ ∀ i, i < ts.length → 0 ≤ ts[i]?.getD 0 ∧ ts[i]?.getD 0 ≤ 200000 := by
  unfold demErr at h
  by_cases h0 : capsErr l = 0
  · rw [if_neg (by simp [h0])] at h
    by_cases h1 : 256 < ts.length
    · rw [if_pos h1] at h; omega
    · rw [if_neg h1] at h
      by_cases hb : badTimes ts
      · rw [if_pos hb] at h; omega
      · refine ⟨h0, (caps_parts h0).1, by omega, fun i hi => ?_⟩
        refine Classical.byContradiction fun hh => hb ⟨i, hi, by omega⟩
  · rw [if_pos h0] at h; exact absurd h h0
theorem demTo_zero (l : List Cap) (ts : List Int) : demTo l ts 0 = List.replicate l.length 0 := by
  unfold demTo
  simp only [cnt]
  exact List.eq_replicate_iff.2 ⟨by simp, fun x hx => by simpa using (List.mem_map.1 hx).elim fun _ h => h.2.symm⟩

set_option maxHeartbeats 1000000 in
theorem demand_good (A C : Option Addr) (n c m d : Nat) (l : List Cap) (ts : List Int) (w : World) (hl : l.length = n) (hm : ts.length = m) (h : SlC w A n l) (hC : SlI w C m ts) (he : demErr l ts = 0) :
    Calls Try.prog 41 #[.slice A n c, .slice C m d] w (RetO LInt 3 (triOK (cnt l ts (-1) m)) (demTo l ts m) w) := by
  obtain ⟨h0, hn, hm', hts⟩ := dem_parts he
  rw [hl] at hn
  rw [hm] at hm' hts
  have h0' : (capsErr l != 0) = false := by simp [h0]
  have H := Lib.hid h
  have HC := Lib.hid hC
  have HL := Lib.hid hl
  have HM := Lib.hid hm
  have HN : Hid (n ≤ maxLen) := by unfold maxLen; show n ≤ _; omega
  have HTS := Lib.hid hts
  have hmk := makeInts n (by omega)
  clear h hC h0 he hl hm hts
  go_enter Try.func41, Try.ntmps41
  go_wp2_with (go_at_call 37; refine (fcheck _ _ _ l _ HL.out HN.out H.out).mono ?_; rintro e w1 ⟨rfl, zw1, rfl⟩)
  clear hmk
  go_loopg [26, 9] m (fun g i s wr => ∃ (k : Nat), g = m - k ∧ k ≤ m ∧ i = .int .i64 k ∧ s = .int .i64 (cnt l ts (-1) k) ∧ Below w.heap.size w wr ∧ Own LInt wr w.heap.size 3 (.slice (some ⟨w.heap.size + zw1.blocks.size, 0, none⟩) n n) (demTo l ts k))
  case atStart => exact ⟨0, rfl, by omega, rfl, rfl, (by repeat (first | exact Below.refl _ _ | with_reducible assumption | with_reducible refine Below.drew ?_ | with_reducible refine Below.alloc ?_ (by first | omega | (simp <;> omega)) _ | with_reducible refine Below.setCell ?_ (by first | omega | (simp <;> omega)) _ | with_reducible refine below_xt ?_ (by first | omega | (simp <;> omega)) _ | with_reducible refine below_drewN ?_ _)), by rw [demTo_zero, HL.out]; exact own_made _ _ _ (by simp) (by unfold maxLen; omega) _ (by simp)⟩
  case round =>
    obtain ⟨k, rfl, hk, rfl, rfl, hBw, hown⟩ := hrel
    have HO := Lib.hid hown
    clear hown
    have hBs := hBw.size
    by_cases hlt : k < m
    · obtain ⟨b, off, rfl, hb, hcell⟩ := SlI.at (HC.out.below hBw) hlt
      have hc := hcell k hlt
      have hg := HTS.out k hlt
      have d1 : decide (ts[k]?.getD 0 < 0) = false := by simp; omega
      have d2 : decide (200000 < ts[k]?.getD 0) = false := by simp; omega
      have hge := capIdx_ge l (ts[k]?.getD 0)
      have F0 := Lib.hid (findex A n c l (ts[k]?.getD 0) wr HL.out HN.out (H.out.below hBw))
      have hcb := cnt_bd l ts (-1) k
      have hcs : cnt l ts (-1) (k + 1) = cnt l ts (-1) k + (if capIdx l (ts[k]?.getD 0) = -1 then 1 else 0) := rfl
      have HCS := Lib.hid hcs
      rw [HL.out] at hge
      clear hcell hcs
      by_cases hi : capIdx l (ts[k]?.getD 0) < 0
      · have hi1 : capIdx l (ts[k]?.getD 0) = -1 := by omega
        have hds := demTo_miss l ts k hi1
        have hc1 : cnt l ts (-1) (k + 1) = cnt l ts (-1) k + 1 := by rw [HCS.out, if_pos hi1]
        have HDS := Lib.hid hds
        have HC1 := Lib.hid hc1
        clear hds hc1 hi1
        go_wp2_with (go_at_call 68; refine (F0.out).mono ?_; rintro e w2 ⟨rfl, zw2, rfl⟩)
        go_roundg (m - (k + 1))
        case measure => omega
        case rel => exact ⟨k + 1, rfl, by omega, by go_num, by rw [HC1.out], (by repeat (first | exact Below.refl _ _ | with_reducible assumption | with_reducible refine Below.drew ?_ | with_reducible refine Below.alloc ?_ (by first | omega | (simp <;> omega)) _ | with_reducible refine Below.setCell ?_ (by first | omega | (simp <;> omega)) _ | with_reducible refine below_xt ?_ (by first | omega | (simp <;> omega)) _ | with_reducible refine below_drewN ?_ _)), by rw [HDS.out]; exact HO.out.xt _⟩
      · obtain ⟨j, hj⟩ := Int.eq_ofNat_of_zero_le (show 0 ≤ capIdx l (ts[k]?.getD 0) by omega)
        have hjn : j < n := by omega
        have hds := demTo_hit l ts k j (by rw [HL.out]; exact hjn) hj
        have hc1 : cnt l ts (-1) (k + 1) = cnt l ts (-1) k := by rw [HCS.out, if_neg (by omega), Int.add_zero]
        have HDS := Lib.hid hds
        have HC1 := Lib.hid hc1
        have hcj := cnt_bd l ts j k
        clear hds hc1
        rw [hj] at hge F0
        obtain ⟨g, eg, hg1, hg2, _, hgc, hgf⟩ := Own.at_ HO.out (by omega)
        injection eg with eg
        injection eg with eg
        rw [← eg] at hg1 hg2 hgc hgf
        have hd := hgc j 0 hjn (by decide)
        have hf := hgf j
        have e1 : j * LInt.s + 0 = j := by show j * 1 + 0 = j; omega
        rw [e1] at hd
        have hd' : wr.cell? ⟨w.heap.size + zw1.blocks.size, j, none⟩ = some (.int .i64 ((demTo l ts k)[j]?.getD 0)) := hd
        rw [demTo_get l ts k j (by rw [HL.out]; exact hjn)] at hd'
        clear hgc hgf hd eg hj
        go_wp2_with (go_at_call 68; refine (F0.out).mono ?_; rintro e w2 ⟨rfl, zw2, rfl⟩)
        go_roundg (m - (k + 1))
        case measure => omega
        case rel => exact ⟨k + 1, rfl, by omega, by go_num, by rw [HC1.out], (by repeat (first | exact Below.refl _ _ | with_reducible assumption | with_reducible refine Below.drew ?_ | with_reducible refine Below.alloc ?_ (by first | omega | (simp <;> omega)) _ | with_reducible refine Below.setCell ?_ (by first | omega | (simp <;> omega)) _ | with_reducible refine below_xt ?_ (by first | omega | (simp <;> omega)) _ | with_reducible refine below_drewN ?_ _)), (by
            have := Own.set_ HO.out (by rw [demTo_length, HL.out]) j 0 (cnt l ts j k + 1) (by rw [demTo_length, HL.out]; exact hjn) (by decide) (fun j' hj' hne => absurd (show j' < 1 from hj') (by omega))
            rw [e1] at this
            rw [HDS.out]
            exact this.xt _)⟩
    · obtain rfl : k = m := by omega
      go_wp2
      refine bodyPost_ret (v := triOK (cnt l ts (-1) k) (.slice (some ⟨w.heap.size + zw1.blocks.size, 0, none⟩) n n)) (by simp [results, Try.results41, triOK]) rfl ?_
      exact retO_mk hBw HO.out

/-- The capacities that are exceeded, of the first k. -/
def overTo (l : List Cap) (ts : List Int) : Nat → List Int
  | 0 => []
  | k + 1 => if (l[k]?.getD zCap).m < cnt l ts k ts.length then overTo l ts k ++ [(k : Int)] else overTo l ts k
theorem overTo_length (l : List Cap) (ts : List Int) : ∀ k, (overTo l ts k).length ≤ k
  | 0 => by simp [overTo]
  | k + 1 => by
    have := overTo_length l ts k
    simp only [overTo]
    split <;> simp <;> omega
theorem sl_one_int (w : World) (x : Int) (t : TypeId) (B : Nat) (hB : B = w.heap.size) : SlT LInt (w.alloc (.cells #[.int .i64 x] t)) (some ⟨B, 0, none⟩) 1 [x] := by
  subst hB
  refine Sl.lit w _ t fun i j hi hj => ?_
  obtain rfl : i = 0 := by omega
  obtain rfl : j = 0 := by have : j < 1 := hj; omega
  rfl
theorem over_bad (A C : Option Addr) (n c m d : Nat) (l : List Cap) (ts : List Int) (w : World) (hl : l.length = n) (hm : ts.length = m) (hn : n ≤ maxLen) (hmm : m ≤ maxLen) (h : SlC w A n l) (hC : SlI w C m ts) (he : demErr l ts ≠ 0) :
    Calls Try.prog 42 #[.slice A n c, .slice C m d] w (Ret (.tuple #[.slice none 0 0, .int .i64 (demErr l ts)]) w) := by
  have D := Lib.hid (demand_bad A C n c m d l ts w hl hm hn hmm h hC he)
  have he' : (demErr l ts != 0) = true := by simp [he]
  clear h hC he hl hm hn hmm
  go_enter Try.func42, Try.ntmps42
  go_wp2_with (go_at_call 41; refine (D.out).mono ?_; rintro e w1 ⟨rfl, zw1, rfl⟩)
  refine fin2 (by simp [results, Try.results42, go_sem]; rfl) ?_ rfl (by repeat (first | exact Below.refl _ _ | with_reducible assumption | with_reducible refine Below.drew ?_ | with_reducible refine Below.alloc ?_ (by first | omega | (simp <;> omega)) _ | with_reducible refine Below.setCell ?_ (by first | omega | (simp <;> omega)) _ | with_reducible refine below_xt ?_ (by first | omega | (simp <;> omega)) _ | with_reducible refine below_drewN ?_ _))
  rfl

set_option maxHeartbeats 1000000 in
theorem over_good (A C : Option Addr) (n c m d : Nat) (l : List Cap) (ts : List Int) (w : World) (hl : l.length = n) (hm : ts.length = m) (h : SlC w A n l) (hC : SlI w C m ts) (he : demErr l ts = 0) :
    Calls Try.prog 42 #[.slice A n c, .slice C m d] w (RetO LInt 3 pairOK (overTo l ts n) w) := by
  obtain ⟨i0, hi0, hz0, hz1, hz2⟩ := info_parts info_int
  obtain ⟨h0, hn, hm', hts⟩ := dem_parts he
  have D := Lib.hid (demand_good A C n c m d l ts w hl hm h hC he)
  have H := Lib.hid h
  have HL := Lib.hid hl
  have HM := Lib.hid hm
  rw [hl] at hn
  clear h hC he hl hm h0 hm' hts
  go_enter Try.func42, Try.ntmps42
  go_wp2_with fail
  refine D.out.mono ?_
  rintro e w1 ⟨A1, c1, z1, rfl, rfl, hown1⟩
  have hlen : (demTo l ts m).length = n := by rw [demTo_length, HL.out]
  rw [hlen] at hown1 ⊢
  have HO1 := Lib.hid hown1
  have H1 := Lib.hid (H.out.xt z1)
  have hBW : Below w.heap.size w (xt w z1) := xt_below w z1
  generalize hW : xt w z1 = W1 at *
  clear hW hown1
  have hBs := hBW.size
  unfold triOK
  go_wp2
  go_loopg [24, 9] n (fun g i v wr => ∃ (k : Nat), g = n - k ∧ k ≤ n ∧ i = .int .i64 k ∧ Below W1.heap.size W1 wr ∧ Own LInt wr W1.heap.size 3 v (overTo l ts k))
  case atStart => exact ⟨0, rfl, by omega, rfl, Below.refl _ _, Own.nil _ _ _⟩
  case round =>
    obtain ⟨k, rfl, hk, rfl, hBw, hown⟩ := hrel
    obtain ⟨Av, cv, rfl, _, _⟩ := hown.form
    have HO := Lib.hid hown
    clear hown
    have hBs2 := hBw.size
    by_cases hlt : k < n
    · obtain ⟨b, off, rfl, hb, hcell⟩ := LCap.at H1.out hlt
      obtain ⟨d0, d1, d2⟩ := hcell k hlt
      have hbw : b < wr.heap.size := by omega
      rw [← hBw.cell (p := ⟨b, off + k * 3, none⟩) hb] at d0
      rw [← hBw.cell (p := ⟨b, off + k * 3 + 1, none⟩) hb] at d1
      rw [← hBw.cell (p := ⟨b, off + k * 3 + 2, none⟩) hb] at d2
      obtain ⟨b2, off2, rfl, hb2, hcell2⟩ := LInt.at HO1.out.sl hlt
      have e0 := hcell2 k hlt
      have e1 : (demTo l ts m)[k]?.getD LInt.z = cnt l ts k m := demTo_get l ts m k (by rw [HL.out]; exact hlt)
      rw [e1, ← hBw.cell (p := ⟨b2, off2 + k, none⟩) hb2] at e0
      have hb2w : b2 < wr.heap.size := by omega
      have hov : overTo l ts (k + 1) = if (l[k]?.getD LCap.z).m < cnt l ts k m then overTo l ts k ++ [(k : Int)] else overTo l ts k := by
        rw [← HM.out]; rfl
      generalize l[k]?.getD LCap.z = x at *
      generalize cnt l ts k m = y at *
      have HOV := Lib.hid hov
      have hol := overTo_length l ts k
      clear hcell hcell2 hov e1
      by_cases hq : x.m < y
      · have hq' : decide (x.m < y) = true := by simp; omega
        have hW : Hid (overTo l ts (k + 1) = overTo l ts k ++ [(k : Int)]) := by show _ = _; rw [HOV.out, if_pos hq]
        go_wp2
        (refine wp_region_ext (by kernel_rfl) (by kernel_rfl) ?_; (repeat (go_big_quiet_step ((fail)))); refine wpQuiet_nil ?_; intro _ hw'; obtain ⟨z3, hw''⟩ := hw'; subst hw'')
        go_wp2_with (at_builtin; refine wpList_append_sl (L := LInt) rfl _ _ 45 rfl W1.heap.size 3 i0 (.int .i64 0) 8 Try.underlying45 hi0 hz0 hz1 hz2 rfl (by decide) (by intro x j; rfl) _ (overTo l ts k) rfl (((HO.out.alloc _).xt _).alloc _) _ 1 1 [(k : Int)] rfl rfl (by exact sl_one_int _ _ _ _ (by simp)) (by unfold maxLen; omega) (by omega) (by simp; omega) ?_; intro v1 w1 hown1 hg1 hat1)
        go_roundg (n - (k + 1))
        case measure => omega
        case rel => exact ⟨k + 1, rfl, by omega, by go_num, below_append HO.out (show Below W1.heap.size W1 _ from (by repeat (first | exact Below.refl _ _ | with_reducible assumption | with_reducible refine Below.drew ?_ | with_reducible refine Below.alloc ?_ (by first | omega | (simp <;> omega)) _ | with_reducible refine Below.setCell ?_ (by first | omega | (simp <;> omega)) _ | with_reducible refine below_xt ?_ (by first | omega | (simp <;> omega)) _ | with_reducible refine below_drewN ?_ _))) hg1 (by simp; omega), by rw [hW.out]; exact hown1⟩
      · have hq' : decide (x.m < y) = false := by simp; omega
        have hW : Hid (overTo l ts (k + 1) = overTo l ts k) := by show _ = _; rw [HOV.out, if_neg hq]
        clear hq
        go_wp2
        (refine wp_region_ext (by kernel_rfl) (by kernel_rfl) ?_; (repeat (go_big_quiet_step ((fail)))); refine wpQuiet_nil ?_; intro _ hw'; obtain ⟨z3, hw''⟩ := hw'; subst hw'')
        go_wp2
        go_roundg (n - (k + 1))
        case measure => omega
        case rel => exact ⟨k + 1, rfl, by omega, by go_num, (by repeat (first | exact Below.refl _ _ | with_reducible assumption | with_reducible refine Below.drew ?_ | with_reducible refine Below.alloc ?_ (by first | omega | (simp <;> omega)) _ | with_reducible refine Below.setCell ?_ (by first | omega | (simp <;> omega)) _ | with_reducible refine below_xt ?_ (by first | omega | (simp <;> omega)) _ | with_reducible refine below_drewN ?_ _)), by rw [hW.out]; exact (HO.out.alloc _).xt _⟩
    · obtain rfl : k = n := by omega
      go_wp2
      refine bodyPost_ret (v := pairOK (.slice Av (overTo l ts k).length cv)) (by simp [results, Try.results42, pairOK]) rfl ?_
      exact retO_mk (hBW.trans (hBw.mono hBs)) (HO.out.mono hBs)
end Go.Proofs.Ytnmepkcbpkcegaa
