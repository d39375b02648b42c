/- Package flow: Demand. -/
import Derived.Test.YtnmepkcbpkcegaaFlow3
import Derived.Deep.OwnRows
namespace Go.Proofs.Ytnmepkcbpkcegaa
open Go.RowKit
attribute [local go_sem] xt_size xt_cell xt_frozen xt_setCell xt_drew xt_drewN
attribute [local go_sem] cell_alloc_ite frozen_alloc_ite setCell_alloc_ite

/-- How many of the first k times lie in capacity i (-1: in none). -/
def cnt (l : List Cap) (ts : List Int) (i : Int) : Nat → Int
  | 0 => 0
  | k + 1 => cnt l ts i k + (if capIdx l (ts[k]?.getD 0) = i then 1 else 0)
theorem cnt_bd (l : List Cap) (ts : List Int) (i : Int) : ∀ k, 0 ≤ cnt l ts i k ∧ cnt l ts i k ≤ k
  | 0 => by simp [cnt]
  | k + 1 => by
    have := cnt_bd l ts i k
    simp only [cnt]
    split <;> omega
def demTo (l : List Cap) (ts : List Int) (k : Nat) : List Int := (List.range l.length).map fun (i : Nat) => cnt l ts (i : Int) k
theorem demTo_length (l : List Cap) (ts : List Int) (k : Nat) : (demTo l ts k).length = l.length := by simp [demTo]
theorem demTo_get (l : List Cap) (ts : List Int) (k i : Nat) (hi : i < l.length) : (demTo l ts k)[i]?.getD 0 = cnt l ts i k := by simp [demTo, hi]
theorem demTo_hit (l : List Cap) (ts : List Int) (k i : Nat) (hi : i < l.length) (h : capIdx l (ts[k]?.getD 0) = i) : demTo l ts (k + 1) = (demTo l ts k).set i (cnt l ts i k + 1) := by
  apply List.ext_getElem?
  intro j
  rw [List.getElem?_set, demTo_length]
  by_cases hj : j < l.length
  · by_cases e : i = j
    · subst e; simp [demTo, hi, cnt, h]
    · have hne : ¬ (i : Int) = (j : Int) := by omega
      simp [demTo, hj, cnt, h, e, hne]
  · rw [if_neg (by omega)]
    rw [List.getElem?_eq_none (by rw [demTo_length]; omega), List.getElem?_eq_none (by rw [demTo_length]; omega)]
theorem demTo_miss (l : List Cap) (ts : List Int) (k : Nat) (h : capIdx l (ts[k]?.getD 0) = -1) : demTo l ts (k + 1) = demTo l ts k := by
  unfold demTo
  apply List.map_congr_left
  intro i _
  have : ¬ (-1 : Int) = (i : Int) := by omega
  simp [cnt, h, this]
theorem capIdx_ge (l : List Cap) (t : Int) : -1 ≤ capIdx l t ∧ capIdx l t < l.length := by
  unfold capIdx
  rcases firstIdx_cases (capP l t) l.length with ⟨e, _⟩ | ⟨k, hk, e, _⟩
  · rw [e]; omega
  · rw [e]; omega

def badTimes (ts : List Int) : Prop := ∃ i, i < ts.length ∧ (ts[i]?.getD 0 < 0 ∨ 200000 < ts[i]?.getD 0)
open Classical in
noncomputable def demErr (l : List Cap) (ts : List Int) : Int := if capsErr l ≠ 0 then capsErr l else if 256 < ts.length then 2 else if badTimes ts then 12 else 0
def triOK (x : Int) (v : Value) : Value := .tuple #[v, .int .i64 x, .int .i64 0]

theorem info_int : (Try.prog.info? 3).map (fun i => (i.zero, i.size, i.bytes)) = some (some (.int .i64 0), 1, 8) := by kernel_rfl
theorem makeInts (n : Nat) (hn : n ≤ 1000000000) (w : World) : (Instr.makeSlice 45 (.int .i64 (n : Int)) (.int .i64 (n : Int))).run Try.prog w = .ok (.slice (some ⟨w.heap.size, 0, none⟩) n n) (w.alloc (.cells (madeCells #[.int .i64 0] n) 3)) :=
  run_make_row' 45 3 (.int .i64 0) 8 Try.underlying45 info_int rfl .i64 .i64 n (by omega) (by omega) w
theorem own_made (w : World) (B n : Nat) (hB : B ≤ w.heap.size) (hn : n ≤ maxLen) (N : Nat) (hN : N = w.heap.size) : Own LInt (w.alloc (.cells (madeCells #[.int .i64 0] n) 3)) B 3 (.slice (some ⟨N, 0, none⟩) n n) (List.replicate n 0) := by
  have h := Own.lit (L := LInt) w B hB 3 (List.replicate n 0) (by simpa using hn) (madeCells #[.int .i64 0] n) (by
    rw [toList_madeCells_one]
    unfold Lay.flat Lay.cells LInt
    apply List.ext_getElem?
    intro i
    have hf := Lay.flat_get LInt (List.replicate n (0 : Int)) i 0
    by_cases hi : i < n
    · have h1 := hf (by simpa using hi) (by decide)
      have h2 : (LInt.flat (List.replicate n (0 : Int)))[i]? = some (.int .i64 0) := by
        have e : i * LInt.s + 0 = i := by show i * 1 + 0 = i; omega
        rw [e] at h1
        rw [h1]
        simp [LInt, hi]
      rw [List.getElem?_replicate, if_pos hi]
      exact h2.symm
    · rw [List.getElem?_eq_none (by simpa using hi)]
      symm
      apply List.getElem?_eq_none
      have := Lay.flat_length LInt (List.replicate n (0 : Int))
      have e : (List.replicate n (0 : Int)).length * LInt.s = n := by show (List.replicate n (0 : Int)).length * 1 = n; simp
      rw [e] at this
      show (LInt.flat (List.replicate n (0 : Int))).length ≤ i
      omega) N hN
  simpa using h

set_option maxHeartbeats 1000000 in
theorem demand_bad (A C : Option Addr) (n c m d : Nat) (l : List Cap) (ts : List Int) (w : World) (hl : l.length = n) (hm : ts.length = m) (hn : n ≤ maxLen) (hmm : m ≤ maxLen) (h : SlC w A n l) (hC : SlI w C m ts) (he : demErr l ts ≠ 0) :
    Calls Try.prog 41 #[.slice A n c, .slice C m d] w (Ret (.tuple #[.slice none 0 0, .int .i64 0, .int .i64 (demErr l ts)]) w) := by
  have H := Lib.hid h
  have HC := Lib.hid hC
  have HL := Lib.hid hl
  have HM := Lib.hid hm
  have HN := Lib.hid hn
  unfold maxLen at hmm
  clear h hC
  by_cases h0 : capsErr l = 0
  · have h0' : (capsErr l != 0) = false := by simp [h0]
    by_cases h1 : 256 < m
    · have hE : demErr l ts = 2 := by unfold demErr; rw [if_neg (by simp [h0]), if_pos (by omega)]
      rw [hE]
      clear h0 he hE hl hm hn
      go_enter Try.func41, Try.ntmps41
      go_wp2_with (go_at_call 37; refine (fcheck _ _ _ l _ HL.out HN.out H.out).mono ?_; rintro e w1 ⟨rfl, zw1, rfl⟩)
      refine fin2 (by simp [results, Try.results41, go_sem]; rfl) ?_ rfl (by repeat (first | exact Below.refl _ _ | with_reducible assumption | with_reducible refine Below.drew ?_ | with_reducible refine Below.alloc ?_ (by first | omega | (simp <;> omega)) _ | with_reducible refine Below.setCell ?_ (by first | omega | (simp <;> omega)) _ | with_reducible refine below_xt ?_ (by first | omega | (simp <;> omega)) _ | with_reducible refine below_drewN ?_ _))
      rfl
    · have hn' : n ≤ 256 := by have := (caps_parts h0).1; omega
      have hb : badTimes ts := by
        refine Classical.byContradiction fun hb => he ?_
        unfold demErr; rw [if_neg (by simp [h0]), if_neg (by omega), if_neg hb]
      have hE : demErr l ts = 12 := by unfold demErr; rw [if_neg (by simp [h0]), if_neg (by omega), if_pos hb]
      rw [hE]
      have hmk := makeInts n (by omega)
      have HBT := Lib.hid hb
      clear h0 he hE hl hm hn hb
      go_enter Try.func41, Try.ntmps41
      go_wp2_with (go_at_call 37; refine (fcheck _ _ _ l _ HL.out HN.out H.out).mono ?_; rintro e w1 ⟨rfl, zw1, rfl⟩)
      clear hmk
      go_loopg [26, 9] m (fun g i s wr => ∃ (k : Nat) (v : Int), g = m - k ∧ k ≤ m ∧ i = .int .i64 k ∧ s = .int .i64 v ∧ 0 ≤ v ∧ v ≤ k ∧ (∀ i, i < k → 0 ≤ ts[i]?.getD 0 ∧ ts[i]?.getD 0 ≤ 200000) ∧ Below w.heap.size w wr ∧ ∃ q, q.length = n ∧ (∀ x ∈ q, 0 ≤ x ∧ x ≤ (k : Int)) ∧ Own LInt wr w.heap.size 3 (.slice (some ⟨w.heap.size + zw1.blocks.size, 0, none⟩) n n) q)
      case atStart => exact ⟨0, 0, rfl, by omega, rfl, rfl, by omega, by omega, by omega, (by repeat (first | exact Below.refl _ _ | with_reducible assumption | with_reducible refine Below.drew ?_ | with_reducible refine Below.alloc ?_ (by first | omega | (simp <;> omega)) _ | with_reducible refine Below.setCell ?_ (by first | omega | (simp <;> omega)) _ | with_reducible refine below_xt ?_ (by first | omega | (simp <;> omega)) _ | with_reducible refine below_drewN ?_ _)), List.replicate n 0, by simp, by simp, own_made _ _ _ (by simp) (by unfold maxLen; omega) _ (by simp)⟩
      case round =>
        obtain ⟨k, v, rfl, hk, rfl, rfl, hv0, hv1, hok, hBw, q, hq, hqb, hown⟩ := hrel
        have Hok := Lib.hid hok
        have HO := Lib.hid hown
        have HQ := Lib.hid hq
        have HQB := Lib.hid hqb
        clear hok hown hq hqb
        have hBs := hBw.size
        by_cases hlt : k < m
        · obtain ⟨b, off, rfl, hb, hcell⟩ := SlI.at (HC.out.below hBw) hlt
          have hc := hcell k hlt
          clear hcell
          by_cases hg : 0 ≤ ts[k]?.getD 0 ∧ ts[k]?.getD 0 ≤ 200000
          · have d1 : decide (ts[k]?.getD 0 < 0) = false := by simp; omega
            have d2 : decide (200000 < ts[k]?.getD 0) = false := by simp; omega
            have hge := capIdx_ge l (ts[k]?.getD 0)
            have FI := fun z => Lib.hid (findex A n c l (ts[k]?.getD 0) (xt wr z) HL.out HN.out ((H.out.below hBw).xt z))
            have F0 := Lib.hid (findex A n c l (ts[k]?.getD 0) wr HL.out HN.out (H.out.below hBw))
            clear FI
            rw [HL.out] at hge
            by_cases hi : capIdx l (ts[k]?.getD 0) < 0
            · go_wp2_with (go_at_call 68; refine (F0.out).mono ?_; rintro e w2 ⟨rfl, zw2, rfl⟩)
              go_roundg (m - (k + 1))
              case measure => omega
              case rel => exact ⟨k + 1, v + 1, rfl, by omega, by go_num, rfl, by omega, by omega, fun i hi => (by
                by_cases e : i = k
                · subst e; exact hg
                · exact Hok.out i (by omega)), (by repeat (first | exact Below.refl _ _ | with_reducible assumption | with_reducible refine Below.drew ?_ | with_reducible refine Below.alloc ?_ (by first | omega | (simp <;> omega)) _ | with_reducible refine Below.setCell ?_ (by first | omega | (simp <;> omega)) _ | with_reducible refine below_xt ?_ (by first | omega | (simp <;> omega)) _ | with_reducible refine below_drewN ?_ _)), q, HQ.out, fun x hx => by have := HQB.out x hx; omega, HO.out.xt _⟩
            · obtain ⟨j, hj⟩ := Int.eq_ofNat_of_zero_le (show 0 ≤ capIdx l (ts[k]?.getD 0) by omega)
              rw [hj] at hge F0
              have hjn : j < n := by omega
              obtain ⟨g, eg, hg1, hg2, _, hgc, hgf⟩ := Own.at_ HO.out (by omega)
              injection eg with eg
              injection eg with eg
              rw [← eg] at hg1 hg2 hgc hgf
              have hd := hgc j 0 hjn (by decide)
              have hf := hgf j
              have e1 : j * LInt.s + 0 = j := by show j * 1 + 0 = j; omega
              rw [e1] at hd
              have hd' : wr.cell? ⟨w.heap.size + zw1.blocks.size, j, none⟩ = some (.int .i64 (q[j]?.getD 0)) := hd
              have hqj := HQB.out (q[j]?.getD 0) (by rw [List.getElem?_eq_getElem (by rw [HQ.out]; exact hjn)]; exact List.getElem_mem _)
              generalize hqv : q[j]?.getD 0 = y at *
              clear hgc hgf hd eg hj hqv
              go_wp2_with (go_at_call 68; refine (F0.out).mono ?_; rintro e w2 ⟨rfl, zw2, rfl⟩)
              go_roundg (m - (k + 1))
              case measure => omega
              case rel => exact ⟨k + 1, v, rfl, by omega, by go_num, rfl, by omega, by omega, fun i hi => (by
                by_cases e : i = k
                · subst e; exact hg
                · exact Hok.out i (by omega)), (by repeat (first | exact Below.refl _ _ | with_reducible assumption | with_reducible refine Below.drew ?_ | with_reducible refine Below.alloc ?_ (by first | omega | (simp <;> omega)) _ | with_reducible refine Below.setCell ?_ (by first | omega | (simp <;> omega)) _ | with_reducible refine below_xt ?_ (by first | omega | (simp <;> omega)) _ | with_reducible refine below_drewN ?_ _)), q.set j (y + 1), by rw [List.length_set]; exact HQ.out, fun x hx => (by
                  rcases List.mem_or_eq_of_mem_set hx with h | h
                  · have := HQB.out x h; omega
                  · omega), (by
                  have := Own.set_ HO.out HQ.out j 0 (y + 1) (by rw [HQ.out]; exact hjn) (by decide) (fun j' hj' hne => absurd (show j' < 1 from hj') (by omega))
                  rw [e1] at this
                  exact this.xt _)⟩
          · by_cases d0 : ts[k]?.getD 0 < 0
            · go_wp2
              refine fin2 (by simp [results, Try.results41, go_sem]; rfl) ?_ rfl (by repeat (first | exact Below.refl _ _ | with_reducible assumption | with_reducible refine Below.drew ?_ | with_reducible refine Below.alloc ?_ (by first | omega | (simp <;> omega)) _ | with_reducible refine Below.setCell ?_ (by first | omega | (simp <;> omega)) _ | with_reducible refine below_xt ?_ (by first | omega | (simp <;> omega)) _ | with_reducible refine below_drewN ?_ _))
              rfl
            · have d1 : decide (ts[k]?.getD 0 < 0) = false := by simp; omega
              have d2 : 200000 < ts[k]?.getD 0 := by omega
              clear hg d0
              go_wp2
              refine fin2 (by simp [results, Try.results41, go_sem]; rfl) ?_ rfl (by repeat (first | exact Below.refl _ _ | with_reducible assumption | with_reducible refine Below.drew ?_ | with_reducible refine Below.alloc ?_ (by first | omega | (simp <;> omega)) _ | with_reducible refine Below.setCell ?_ (by first | omega | (simp <;> omega)) _ | with_reducible refine below_xt ?_ (by first | omega | (simp <;> omega)) _ | with_reducible refine below_drewN ?_ _))
              rfl
        · exfalso
          obtain ⟨i, hi, hbad⟩ := HBT.out
          have := Hok.out i (by rw [HM.out] at hi; omega)
          omega
  · have h0' : (capsErr l != 0) = true := by simp [h0]
    have hE : demErr l ts = capsErr l := by unfold demErr; rw [if_pos h0]
    rw [hE]
    clear h0 he hE hl hm hn
    go_enter Try.func41, Try.ntmps41
    go_wp2_with (go_at_call 37; refine (fcheck _ _ _ l _ HL.out HN.out H.out).mono ?_; rintro e w1 ⟨rfl, zw1, rfl⟩)
    refine fin2 (by simp [results, Try.results41, go_sem]; rfl) ?_ rfl (by repeat (first | exact Below.refl _ _ | with_reducible assumption | with_reducible refine Below.drew ?_ | with_reducible refine Below.alloc ?_ (by first | omega | (simp <;> omega)) _ | with_reducible refine Below.setCell ?_ (by first | omega | (simp <;> omega)) _ | with_reducible refine below_xt ?_ (by first | omega | (simp <;> omega)) _ | with_reducible refine below_drewN ?_ _))
    rfl
end Go.Proofs.Ytnmepkcbpkcegaa
