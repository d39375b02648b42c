/- Package flow: Less. -/
import Derived.Test.YtnmepkcbpkcegaaFlow2
namespace Go.Proofs.Ytnmepkcbpkcegaa
open Go.RowKit
attribute [local go_sem] xt_size xt_cell xt_frozen xt_setCell xt_drew xt_drewN
attribute [local go_sem] cell_alloc_ite frozen_alloc_ite setCell_alloc_ite

section
variable {α : Type} {L : Lay α}
/-- One cell of one element, written. -/
theorem Lay.flat_set (l : List α) (i j : Nat) (x' : α) (hi : i < l.length) (hj : j < L.s) (ho : ∀ j', j' < L.s → j' ≠ j → L.cell x' j' = L.cell (l[i]?.getD L.z) j') :
    (L.flat l).set (i * L.s + j) (L.cell x' j) = L.flat (l.set i x') := by
  have hs : 0 < L.s := by omega
  apply List.ext_getElem?
  intro k
  by_cases hk : k < l.length * L.s
  · have hq : k / L.s < l.length := Nat.div_lt_of_lt_mul (by rw [Nat.mul_comm]; exact hk)
    have hr : k % L.s < L.s := Nat.mod_lt _ hs
    have hkk : k / L.s * L.s + k % L.s = k := by rw [Nat.mul_comm]; exact Nat.div_add_mod k L.s
    have h1 := L.flat_get (l.set i x') (k / L.s) (k % L.s) (by simpa using hq) hr
    have h2 := L.flat_get l (k / L.s) (k % L.s) hq hr
    rw [hkk] at h1 h2
    rw [h1, List.getElem?_set, List.getElem?_set]
    by_cases e1 : i = k / L.s
    · by_cases e2 : j = k % L.s
      · have e3 : i * L.s + j = k := by rw [e1, e2]; exact hkk
        rw [if_pos e3, if_pos (by rw [L.flat_length, e3]; exact hk), if_pos e1, if_pos hi, ← e2]; rfl
      · have e3 : i * L.s + j ≠ k := by
          intro e3
          apply e2
          rw [← e3, Nat.add_comm, Nat.add_mul_mod_self_right, Nat.mod_eq_of_lt hj]
        rw [if_neg e3, if_pos e1, if_pos hi, h2]
        rw [← e1]
        show _ = some (L.cell x' (k % L.s))
        rw [ho _ hr (Ne.symm e2)]
    · have e3 : i * L.s + j ≠ k := by
        intro e3
        apply e1
        rw [← e3, Nat.add_comm, Nat.add_mul_div_right _ _ hs, Nat.div_eq_of_lt hj, Nat.zero_add]
      rw [if_neg e3, if_neg e1, h2]
  · rw [List.getElem?_eq_none (by rw [List.length_set, L.flat_length]; omega), List.getElem?_eq_none (by rw [L.flat_length, List.length_set]; omega)]

/-- What an owned slice that is not empty is. -/
theorem Own.at_ {w : World} {B : Nat} {t : TypeId} {A : Option Addr} {n c : Nat} {l : List α} (h : Own L w B t (.slice A n c) l) (hn : 0 < n) :
    ∃ g, A = some ⟨g, 0, none⟩ ∧ B ≤ g ∧ g < w.heap.size ∧ l.length = n ∧ (∀ i j, i < n → j < L.s → w.cell? ⟨g, i * L.s + j, none⟩ = some (L.cell (l[i]?.getD L.z) j)) ∧ ∀ j, w.frozen? ⟨g, j, none⟩ = false := by
  have hsl := h.sl
  rcases h.2 with ⟨e, h0⟩ | ⟨g, cap, cur, e, hg, hh, hnc, hm, hs, ht⟩
  · injection e with _ e2; omega
  · injection e with e1 e2 e3
    subst e1 e3
    obtain ⟨b, off, e4, hlt, hc⟩ := hsl hn
    injection e4 with e4
    injection e4 with e5 e6
    subst e5 e6
    exact ⟨g, rfl, hg, hlt, e2.symm, fun i j hi hj => by have := hc i j hi hj; rwa [Nat.zero_add] at this, fun j => frozen_of_row w g j cur t hh⟩
theorem Own.set_ {w : World} {B : Nat} {t : TypeId} {g n c : Nat} {l : List α} (h : Own L w B t (.slice (some ⟨g, 0, none⟩) n c) l) (hn : l.length = n) (i j : Nat) (x' : α) (hi : i < l.length) (hj : j < L.s)
    (ho : ∀ j', j' < L.s → j' ≠ j → L.cell x' j' = L.cell (l[i]?.getD L.z) j') :
    Own L (w.setCell ⟨g, i * L.s + j, none⟩ (L.cell x' j)) B t (.slice (some ⟨g, 0, none⟩) n c) (l.set i x') := by
  subst hn
  have := (World.ownsRow.stored h (i * L.s + j) (L.cell x' j)).1
  unfold Own
  rw [List.length_set, ← Lay.flat_set l i j x' hi hj ho]
  exact this
end

def lessErr (l : List Cap) (t : Int) : Int := if capsErr l ≠ 0 then capsErr l else if capIdx l t < 0 then 8 else if (l[(capIdx l t).toNat]?.getD zCap).m = 0 then 18 else 0
def lessL (l : List Cap) (t : Int) : List Cap := l.set (capIdx l t).toNat { (l[(capIdx l t).toNat]?.getD zCap) with m := (l[(capIdx l t).toNat]?.getD zCap).m - 1 }
def pairOK (v : Value) : Value := .tuple #[v, .int .i64 0]

theorem capIdx_lt {l : List Cap} {t : Int} (h : 0 ≤ capIdx l t) : ∃ k, k < l.length ∧ capIdx l t = (k : Int) := by
  unfold capIdx at h ⊢
  rcases firstIdx_cases (capP l t) l.length with ⟨e, _⟩ | ⟨k, hk, e, _⟩
  · rw [e] at h; omega
  · exact ⟨k, hk, e⟩

set_option maxHeartbeats 1000000 in
theorem less_bad (A : Option Addr) (n c : Nat) (l : List Cap) (t : Int) (w : World) (hl : l.length = n) (hn : n ≤ maxLen) (h : SlC w A n l) (he : lessErr l t ≠ 0) :
    Calls Try.prog 35 #[.slice A n c, .int .i64 t] w (Ret (.tuple #[.slice none 0 0, .int .i64 (lessErr l t)]) w) := by
  have H := Lib.hid h
  have HL := Lib.hid hl
  have HN := Lib.hid hn
  clear h hl hn
  by_cases h0 : capsErr l = 0
  · by_cases h1 : capIdx l t < 0
    · have hV : atV l t = .tuple #[.int .i64 0, .int .i64 8] := by unfold atV; rw [if_neg (by simp [h0]), if_pos h1]
      have hE : lessErr l t = 8 := by unfold lessErr; rw [if_neg (by simp [h0]), if_pos h1]
      rw [hE]
      clear h0 he hE
      go_enter Try.func35, Try.ntmps35
      go_wp2_with (go_at_call 33; refine (fat_any _ _ _ l _ _ HL.out HN.out H.out).mono ?_; rintro e w1 ⟨rfl, zw1, rfl⟩)
      refine fin2 (by simp [results, Try.results35, go_sem]; rfl) ?_ rfl (by repeat (first | exact Below.refl _ _ | with_reducible refine Below.drew ?_ | with_reducible refine Below.alloc ?_ (by simp <;> omega) _ | with_reducible refine Below.setCell ?_ (by simp <;> omega) _ | with_reducible refine below_xt ?_ (by simp <;> omega) _ | with_reducible refine below_drewN ?_ _))
      rfl
    · obtain ⟨k, hk, hki⟩ := capIdx_lt (l := l) (t := t) (by omega)
      have hV : atV l t = .tuple #[.int .i64 k, .int .i64 0] := by unfold atV; rw [if_neg (by simp [h0]), if_neg h1, hki]
      have hE : lessErr l t = if (l[k]?.getD zCap).m = 0 then 18 else 0 := by unfold lessErr; rw [if_neg (by simp [h0]), if_neg h1, hki, Int.toNat_natCast]
      rw [hE] at he ⊢
      have hm : (l[k]?.getD zCap).m = 0 := Classical.byContradiction fun hh => he (if_neg hh)
      rw [if_pos hm]
      have hlt : k < n := by rw [← HL.out]; exact hk
      obtain ⟨b, off, rfl, hb, hcell⟩ := LCap.at H.out hlt
      obtain ⟨c0, c1, c2⟩ := hcell k hlt
      have hm' : (l[k]?.getD LCap.z).m = 0 := hm
      rw [hm'] at c2
      clear h0 he hE hcell h1 hki hm hm' c0 c1 hk
      go_enter Try.func35, Try.ntmps35
      go_wp2_with (go_at_call 33; refine (fat_any _ _ _ l _ _ HL.out HN.out H.out).mono ?_; rintro e w1 ⟨rfl, zw1, rfl⟩)
      refine fin2 (by simp [results, Try.results35, go_sem]; rfl) ?_ rfl (by repeat (first | exact Below.refl _ _ | with_reducible refine Below.drew ?_ | with_reducible refine Below.alloc ?_ (by simp <;> omega) _ | with_reducible refine Below.setCell ?_ (by simp <;> omega) _ | with_reducible refine below_xt ?_ (by simp <;> omega) _ | with_reducible refine below_drewN ?_ _))
      rfl
  · have hV : atV l t = .tuple #[.int .i64 0, .int .i64 (capsErr l)] := by unfold atV; rw [if_pos h0]
    have hE : lessErr l t = capsErr l := by unfold lessErr; rw [if_pos h0]
    have h0' : (capsErr l != 0) = true := by simp [h0]
    rw [hE]
    clear h0 he hE
    go_enter Try.func35, Try.ntmps35
    go_wp2_with (go_at_call 33; refine (fat_any _ _ _ l _ _ HL.out HN.out H.out).mono ?_; rintro e w1 ⟨rfl, zw1, rfl⟩)
    refine fin2 (by simp [results, Try.results35, go_sem]; rfl) ?_ rfl (by repeat (first | exact Below.refl _ _ | with_reducible refine Below.drew ?_ | with_reducible refine Below.alloc ?_ (by simp <;> omega) _ | with_reducible refine Below.setCell ?_ (by simp <;> omega) _ | with_reducible refine below_xt ?_ (by simp <;> omega) _ | with_reducible refine below_drewN ?_ _))
    rfl

set_option maxHeartbeats 1000000 in
theorem less_good (A : Option Addr) (n c : Nat) (l : List Cap) (t : Int) (w : World) (hl : l.length = n) (hn : n ≤ maxLen) (h : SlC w A n l) (he : lessErr l t = 0) :
    Calls Try.prog 35 #[.slice A n c, .int .i64 t] w (RetO LCap 64 pairOK (lessL l t) w) := by
  have h0 : capsErr l = 0 := by
    unfold lessErr at he
    by_cases h0 : capsErr l = 0
    · exact h0
    · rw [if_pos h0] at he; exact absurd he h0
  have h1 : ¬ capIdx l t < 0 := by
    intro h1
    unfold lessErr at he
    rw [if_neg (by simp [h0]), if_pos h1] at he
    omega
  obtain ⟨k, hk, hki⟩ := capIdx_lt (l := l) (t := t) (by omega)
  have hV : atV l t = .tuple #[.int .i64 k, .int .i64 0] := by unfold atV; rw [if_neg (by simp [h0]), if_neg h1, hki]
  have hm : (l[k]?.getD zCap).m ≠ 0 := by
    intro hm
    unfold lessErr at he
    rw [if_neg (by simp [h0]), if_neg h1, hki, Int.toNat_natCast, if_pos hm] at he
    omega
  have hL : lessL l t = l.set k { (l[k]?.getD zCap) with m := (l[k]?.getD zCap).m - 1 } := by unfold lessL; rw [hki, Int.toNat_natCast]
  rw [hL]
  obtain ⟨p0, p1, _⟩ := caps_parts h0
  have hbd := p1 k hk
  have hlt : k < n := by rw [← hl]; exact hk
  have hn' : n ≤ 256 := by omega
  obtain ⟨b, off, rfl, hb, hcell⟩ := LCap.at h hlt
  obtain ⟨c0, c1, c2⟩ := hcell k hlt
  have H := Lib.hid h
  have HL := Lib.hid hl
  have HN := Lib.hid hn
  have hmb : ((l[k]?.getD LCap.z).m == 0) = false := by
    rw [beq_eq_false_iff_ne]; exact hm
  unfold capBad at hbd
  have hbd' : 0 ≤ (l[k]?.getD LCap.z).m ∧ (l[k]?.getD LCap.z).m ≤ 24 := by
    show 0 ≤ (l[k]?.getD zCap).m ∧ (l[k]?.getD zCap).m ≤ 24
    omega
  clear h hl hn h0 he hm hL p0 p1 hbd hcell h1 hki c0 c1
  generalize hx : l[k]?.getD LCap.z = x at *
  have HX := Lib.hid hx
  clear hx
  go_enter Try.func35, Try.ntmps35
  go_wp2_with (go_at_call 33; refine (fat_any _ _ _ l _ _ HL.out HN.out H.out).mono ?_; rintro e w1 ⟨rfl, zw1, rfl⟩)
  refine (clone_LCap _ n _ l _ HL.out (by omega) (H.out.xt _)).mono ?_
  rintro e w2 ⟨A2, c2', z2, rfl, rfl, hown⟩
  have hown' := hown
  rw [HL.out] at hown'
  obtain ⟨g, rfl, hg1, hg2, _, hgc, hgf⟩ := Own.at_ hown' (by omega)
  have hd := hgc k 2 hlt (by decide)
  have hf := hgf (k * 3 + 2)
  have hx2 : LCap.cell (l[k]?.getD LCap.z) 2 = .int .i64 x.m := by rw [HX.out]; rfl
  rw [hx2] at hd
  have hd' : (xt (xt w zw1) z2).cell? ⟨g, k * 3 + 2, none⟩ = some (.int .i64 x.m) := hd
  have hBW : Below w.heap.size w (xt (xt w zw1) z2) := below_xt (below_xt (Below.refl _ _) (Nat.le_refl _) _) (by simp) _
  have hln : ((l.length : Nat) : Int) = (n : Int) := by rw [HL.out]
  generalize hW : xt (xt w zw1) z2 = W at *
  have HO := Lib.hid hown'
  have HG := Lib.hid hg1
  have HW := Lib.hid hW
  clear hown hown' hgc hgf hd hx2 hW hg1
  rw [HL.out]
  clear hln
  go_wp2
  have hxz : l[k]?.getD zCap = x := HX.out
  have hgw : w.heap.size ≤ g := by have := HG.out; simp at this; omega
  have hs := Own.set_ HO.out HL.out k 2 { x with m := x.m - 1 } hk (by decide) (fun j' hj' hne => by
    rw [HX.out]
    have : j' = 0 ∨ j' = 1 := by have : j' < 3 := hj'; omega
    rcases this with rfl | rfl <;> rfl)
  rw [hxz]
  refine bodyPost_ret (v := pairOK (.slice (some ⟨g, 0, none⟩) n c2')) (by simp [results, Try.results35, pairOK]) rfl ?_
  exact retO_mk (hBW.setCell hgw _) (hs.mono (by simp))
end Go.Proofs.Ytnmepkcbpkcegaa
