/- Package wake: Valid. -/
import Derived.Test.YtnmepkcbpkcegaaWake4
namespace Go.Proofs.Ytnmepkcbpkcegaa
open Go.RowKit
attribute [local go_sem] xt_size xt_cell xt_frozen xt_setCell xt_drew xt_drewN tab_get tab_size
attribute [local go_sem] cell_alloc_ite frozen_alloc_ite setCell_alloc_ite

/-- The first error of classes and times. -/
def pairErr : List Int → List Int → Int
  | x :: xs, t :: ts => if classE x ≠ 0 then 1 else if t < 0 ∨ 200000 < t then 12 else pairErr xs ts
  | _, _ => 0
noncomputable def validErr (T : Nat → Int) (l ts : List Int) : Int := if tabErr T ≠ 0 then tabErr T else if 256 < l.length ∨ 256 < ts.length then 2 else if l.length ≠ ts.length then 3 else pairErr l ts
def adjAt (T : Nat → Int) (l ts : List Int) (i : Nat) : Prop := stepT T l i ≤ ts[i + 1]?.getD 0 - ts[i]?.getD 0
open Classical in
noncomputable def adjB (T : Nat → Int) (l ts : List Int) : Bool := if ∀ i, i + 1 < l.length → adjAt T l ts i then true else false
theorem adjB_true {T : Nat → Int} {l ts : List Int} (h : ∀ i, i + 1 < l.length → adjAt T l ts i) : adjB T l ts = true := by unfold adjB; exact if_pos h
theorem adjB_false {T : Nat → Int} {l ts : List Int} (h : ¬ ∀ i, i + 1 < l.length → adjAt T l ts i) : adjB T l ts = false := by unfold adjB; exact if_neg h
noncomputable def validV (T : Nat → Int) (l ts : List Int) : Value :=
  if validErr T l ts = 0 then .tuple #[.bool (adjB T l ts), .int .i64 0] else .tuple #[.bool false, .int .i64 (validErr T l ts)]

theorem drop_at {l : List Int} {k : Nat} (h : k < l.length) : l.drop k = l[k]?.getD 0 :: l.drop (k + 1) := by
  rw [List.drop_eq_getElem_cons h, List.getElem?_eq_getElem h]; rfl
theorem pair_drop {l ts : List Int} {k : Nat} (h : k < l.length) (h' : k < ts.length) :
    pairErr (l.drop k) (ts.drop k) = if classE (l[k]?.getD 0) ≠ 0 then 1 else if ts[k]?.getD 0 < 0 ∨ 200000 < ts[k]?.getD 0 then 12 else pairErr (l.drop (k + 1)) (ts.drop (k + 1)) := by
  rw [drop_at h, drop_at h']; rfl
theorem valid_bad {T : Nat → Int} {l ts : List Int} {e : Int} (h : validErr T l ts = e) (he : e ≠ 0) : validV T l ts = .tuple #[.bool false, .int .i64 e] := by
  unfold validV; rw [h, if_neg he]

set_option maxHeartbeats 1000000 in
theorem valid_early (T : Nat → Int) (A B : Option Addr) (n c m d : Nat) (l ts : List Int) (w : World) (hl : l.length = n) (hm : ts.length = m) (hn : n ≤ maxLen) (hmm : m ≤ maxLen)
    (h : tabErr T ≠ 0 ∨ 256 < n ∨ 256 < m ∨ n ≠ m) :
    Calls Try.prog 31 #[.agg (tab T), .slice A n c, .slice B m d] w (Ret (validV T l ts) w) := by
  unfold maxLen at hn hmm
  by_cases h0 : tabErr T = 0
  · have h0' : (tabErr T != 0) = false := by simp [h0]
    by_cases h1 : 256 < n ∨ 256 < m
    · have hV := valid_bad (T := T) (l := l) (ts := ts) (e := 2) (by unfold validErr; rw [if_neg (by simp [h0]), if_pos (by rw [hl, hm]; exact h1)]) (by omega)
      rw [hV]
      clear hV h h0 hl hm
      by_cases h2 : 256 < n
      · go_enter Try.func31, Try.ntmps31
        go_wp2_with (first | (refine wpList_load_row rfl 44 _ rfl w.heap.size rfl 44 (tab T) (0, 0) _ (heap_alloc_new w _) Try.underlying44 rfl (by rw [tab_size]; exact wtInfo) ?_) | (go_at_call 27; refine (wcheck _ _).mono ?_; rintro e w1 ⟨rfl, zw1, rfl⟩))
        refine fin2 (by simp [results, Try.results31, go_sem]; rfl) ?_ rfl (by repeat (first | exact Below.refl _ _ | with_reducible refine Below.drew ?_ | with_reducible refine Below.alloc ?_ (by simp <;> omega) _ | with_reducible refine Below.setCell ?_ (by simp <;> omega) _ | with_reducible refine below_xt ?_ (by simp <;> omega) _ | with_reducible refine below_drewN ?_ _))
        rfl
      · have h3 : 256 < m := by omega
        have h2' : decide (256 < n) = false := by simp; omega
        go_enter Try.func31, Try.ntmps31
        go_wp2_with (first | (refine wpList_load_row rfl 44 _ rfl w.heap.size rfl 44 (tab T) (0, 0) _ (heap_alloc_new w _) Try.underlying44 rfl (by rw [tab_size]; exact wtInfo) ?_) | (go_at_call 27; refine (wcheck _ _).mono ?_; rintro e w1 ⟨rfl, zw1, rfl⟩))
        refine fin2 (by simp [results, Try.results31, go_sem]; rfl) ?_ rfl (by repeat (first | exact Below.refl _ _ | with_reducible refine Below.drew ?_ | with_reducible refine Below.alloc ?_ (by simp <;> omega) _ | with_reducible refine Below.setCell ?_ (by simp <;> omega) _ | with_reducible refine below_xt ?_ (by simp <;> omega) _ | with_reducible refine below_drewN ?_ _))
        rfl
    · have h2 : n ≠ m := by omega
      have hV := valid_bad (T := T) (l := l) (ts := ts) (e := 3) (by unfold validErr; rw [if_neg (by simp [h0]), if_neg (by rw [hl, hm]; exact h1), if_pos (by rw [hl, hm]; exact h2)]) (by omega)
      rw [hV]
      have h3 : ((n : Int) != (m : Int)) = true := by simp; omega
      have h1a : n ≤ 256 := by omega
      have h1b : m ≤ 256 := by omega
      clear hV h h0 hl hm h1
      go_enter Try.func31, Try.ntmps31
      go_wp2_with (first | (refine wpList_load_row rfl 44 _ rfl w.heap.size rfl 44 (tab T) (0, 0) _ (heap_alloc_new w _) Try.underlying44 rfl (by rw [tab_size]; exact wtInfo) ?_) | (go_at_call 27; refine (wcheck _ _).mono ?_; rintro e w1 ⟨rfl, zw1, rfl⟩))
      refine fin2 (by simp [results, Try.results31, go_sem]; rfl) ?_ rfl (by repeat (first | exact Below.refl _ _ | with_reducible refine Below.drew ?_ | with_reducible refine Below.alloc ?_ (by simp <;> omega) _ | with_reducible refine Below.setCell ?_ (by simp <;> omega) _ | with_reducible refine below_xt ?_ (by simp <;> omega) _ | with_reducible refine below_drewN ?_ _))
      rfl
  · have hV := valid_bad (T := T) (l := l) (ts := ts) (e := tabErr T) (by unfold validErr; rw [if_pos h0]) h0
    rw [hV]
    have h0' : (tabErr T != 0) = true := by simp [h0]
    clear hV h h0 hl hm
    go_enter Try.func31, Try.ntmps31
    go_wp2_with (first | (refine wpList_load_row rfl 44 _ rfl w.heap.size rfl 44 (tab T) (0, 0) _ (heap_alloc_new w _) Try.underlying44 rfl (by rw [tab_size]; exact wtInfo) ?_) | (go_at_call 27; refine (wcheck _ _).mono ?_; rintro e w1 ⟨rfl, zw1, rfl⟩))
    refine fin2 (by simp [results, Try.results31, go_sem]; rfl) ?_ rfl (by repeat (first | exact Below.refl _ _ | with_reducible refine Below.drew ?_ | with_reducible refine Below.alloc ?_ (by simp <;> omega) _ | with_reducible refine Below.setCell ?_ (by simp <;> omega) _ | with_reducible refine below_xt ?_ (by simp <;> omega) _ | with_reducible refine below_drewN ?_ _))
    rfl

set_option maxRecDepth 100000 in
set_option maxHeartbeats 4000000 in
theorem valid_rest (T : Nat → Int) (A B : Option Addr) (n c d : Nat) (l ts : List Int) (w : World) (hl : l.length = n) (hm : ts.length = n) (hn : n ≤ 256) (h0 : tabErr T = 0) (hA : SlI w A n l) (hB : SlI w B n ts) :
    Calls Try.prog 31 #[.agg (tab T), .slice A n c, .slice B n d] w (Ret (validV T l ts) w) := by
  have hE : validErr T l ts = pairErr l ts := by unfold validErr; rw [if_neg (by simp [h0]), if_neg (by omega), if_neg (by omega)]
  have h0' : (tabErr T != 0) = false := by simp [h0]
  have hne : ((n : Int) != (n : Int)) = false := by simp
  have T0 := Lib.hid h0
  have HL := Lib.hid hl
  have HM := Lib.hid hm
  have HA := Lib.hid hA
  have HB := Lib.hid hB
  have HE := Lib.hid hE
  clear h0 hl hm hA hB hE
  go_enter Try.func31, Try.ntmps31
  go_wp2_with (first | (refine wpList_load_row rfl 44 _ rfl w.heap.size rfl 44 (tab T) (0, 0) _ (heap_alloc_new w _) Try.underlying44 rfl (by rw [tab_size]; exact wtInfo) ?_) | (go_at_call 27; refine (wcheck _ _).mono ?_; rintro e w1 ⟨rfl, zw1, rfl⟩))
  go_loopg [35] n (fun g i wr => ∃ k : Nat, g = n - k ∧ k ≤ n ∧ i = .int .i64 k ∧ pairErr l ts = pairErr (l.drop k) (ts.drop k) ∧ (∀ i, i < k → (0 ≤ l[i]?.getD 0 ∧ l[i]?.getD 0 ≤ 3) ∧ 0 ≤ ts[i]?.getD 0 ∧ ts[i]?.getD 0 ≤ 200000) ∧ ∃ z, wr = xt (w.alloc (.cells (tab T) 44)) z)
  case atStart => exact ⟨0, rfl, by omega, rfl, rfl, by omega, _, rfl⟩
  case round =>
    obtain ⟨k, rfl, hk, rfl, hp, hok, z, rfl⟩ := hrel
    have Hp := Lib.hid hp
    have Hok := Lib.hid hok
    clear hok hp
    by_cases hlt : k < n
    · have hd : decide (k < n) = true := by simp; omega
      have hpd := pair_drop (l := l) (ts := ts) (k := k) (by rw [HL.out]; exact hlt) (by rw [HM.out]; exact hlt)
      have Hpd := Lib.hid hpd
      clear hpd
      obtain ⟨b, off, rfl, hb, hcell⟩ := SlI.at HA.out hlt
      have hc := hcell k hlt
      clear hcell
      obtain ⟨b2, off2, rfl, hb2, hcell⟩ := SlI.at HB.out hlt
      have hc2 := hcell k hlt
      clear hcell
      by_cases hg : 0 ≤ l[k]?.getD 0 ∧ l[k]?.getD 0 ≤ 3
      · have he0 : classE (l[k]?.getD 0) = 0 := by unfold classE; rw [if_neg (by omega)]
        have he : (classE (l[k]?.getD 0) != 0) = false := by rw [he0]; rfl
        have He := Lib.hid he0
        clear he0
        by_cases ht : 0 ≤ ts[k]?.getD 0 ∧ ts[k]?.getD 0 ≤ 200000
        · obtain ⟨t1, t2⟩ := ht
          have t3 : decide (ts[k]?.getD 0 < 0) = false := by simp; omega
          have t4 : decide (200000 < ts[k]?.getD 0) = false := by simp; omega
          go_wp2_with (go_at_call 30; refine (class_any _ _).mono ?_; rintro e w1 ⟨rfl, zw1, rfl⟩)
          go_roundg (n - (k + 1))
          case measure => omega
          case rel => exact ⟨k + 1, rfl, by omega, by go_num, by rw [Hp.out, Hpd.out, if_neg (by simp [He.out]), if_neg (by omega)], fun i hi => (by
              by_cases e : i = k
              · subst e; exact ⟨hg, t1, t2⟩
              · exact Hok.out i (by omega)), ext_of_below (by repeat (first | exact Below.refl _ _ | with_reducible refine Below.drew ?_ | with_reducible refine Below.alloc ?_ (by simp <;> omega) _ | with_reducible refine Below.setCell ?_ (by simp <;> omega) _ | with_reducible refine below_xt ?_ (by simp <;> omega) _ | with_reducible refine below_drewN ?_ _))⟩
        · have hV := valid_bad (T := T) (l := l) (ts := ts) (e := 12) (by rw [HE.out, Hp.out, Hpd.out, if_neg (by simp [He.out]), if_pos (by omega)]) (by omega)
          rw [hV]
          clear hV
          by_cases t3 : ts[k]?.getD 0 < 0
          · go_wp2_with (go_at_call 30; refine (class_any _ _).mono ?_; rintro e w1 ⟨rfl, zw1, rfl⟩)
            refine fin2 (by simp [results, Try.results31, go_sem]; rfl) ?_ rfl (by repeat (first | exact Below.refl _ _ | with_reducible refine Below.drew ?_ | with_reducible refine Below.alloc ?_ (by simp <;> omega) _ | with_reducible refine Below.setCell ?_ (by simp <;> omega) _ | with_reducible refine below_xt ?_ (by simp <;> omega) _ | with_reducible refine below_drewN ?_ _))
            rfl
          · have t4 : 200000 < ts[k]?.getD 0 := by omega
            have t5 : decide (ts[k]?.getD 0 < 0) = false := by simp; omega
            go_wp2_with (go_at_call 30; refine (class_any _ _).mono ?_; rintro e w1 ⟨rfl, zw1, rfl⟩)
            refine fin2 (by simp [results, Try.results31, go_sem]; rfl) ?_ rfl (by repeat (first | exact Below.refl _ _ | with_reducible refine Below.drew ?_ | with_reducible refine Below.alloc ?_ (by simp <;> omega) _ | with_reducible refine Below.setCell ?_ (by simp <;> omega) _ | with_reducible refine below_xt ?_ (by simp <;> omega) _ | with_reducible refine below_drewN ?_ _))
            rfl
      · have he0 : classE (l[k]?.getD 0) = 1 := by unfold classE; rw [if_pos (by omega)]
        have hV := valid_bad (T := T) (l := l) (ts := ts) (e := 1) (by rw [HE.out, Hp.out, Hpd.out, if_pos (by rw [he0]; omega)]) (by omega)
        rw [hV]
        clear hV
        go_wp2_with (go_at_call 30; refine (class_any _ _).mono ?_; rintro e w1 ⟨rfl, zw1, rfl⟩)
        refine fin2 (by simp [results, Try.results31, go_sem]; rfl) ?_ rfl (by repeat (first | exact Below.refl _ _ | with_reducible refine Below.drew ?_ | with_reducible refine Below.alloc ?_ (by simp <;> omega) _ | with_reducible refine Below.setCell ?_ (by simp <;> omega) _ | with_reducible refine below_xt ?_ (by simp <;> omega) _ | with_reducible refine below_drewN ?_ _))
        rfl
    · obtain rfl : k = n := by omega
      have hz : validErr T l ts = 0 := by
        rw [HE.out, Hp.out, List.drop_of_length_le (by rw [HL.out]; omega)]
        rfl
      have HZ := Lib.hid hz
      clear hz
      go_wp2
      go_loopg [12] k (fun g i wr => ∃ m : Nat, g = k - m ∧ m ≤ k - 1 ∧ i = .int .i64 (m + 1 : Nat) ∧ (∀ i, i < m → adjAt T l ts i) ∧ ∃ z, wr = xt (w.alloc (.cells (tab T) 44)) z)
      case atStart => exact ⟨0, rfl, by omega, rfl, by omega, _, rfl⟩
      case round =>
        obtain ⟨m, rfl, hm, rfl, had, z3, rfl⟩ := hrel
        have Had := Lib.hid had
        clear had
        by_cases hlt2 : m + 1 < k
        · obtain ⟨b, off, rfl, hb, hcell⟩ := SlI.at HA.out hlt2
          have hc := hcell m (by omega)
          have hc' := hcell (m + 1) (by omega)
          clear hcell
          obtain ⟨b2, off2, rfl, hb2, hcell⟩ := SlI.at HB.out hlt2
          have hd := hcell m (by omega)
          have hd' := hcell (m + 1) (by omega)
          clear hcell
          obtain ⟨g1, q1, q1'⟩ := Hok.out m (by omega)
          obtain ⟨g2, q2, q2'⟩ := Hok.out (m + 1) (by omega)
          have hs : adjAt T l ts m = (T ((l[m]?.getD 0).toNat * 4 + (l[m + 1]?.getD 0).toNat) ≤ ts[m + 1]?.getD 0 - ts[m]?.getD 0) := rfl
          obtain ⟨x, hx⟩ := Int.eq_ofNat_of_zero_le g1.1
          obtain ⟨y, hy⟩ := Int.eq_ofNat_of_zero_le g2.1
          rw [hx] at hc g1
          rw [hy] at hc' g2
          rw [hx, hy, Int.toNat_natCast, Int.toNat_natCast] at hs
          have HS := Lib.hid hs
          clear hs hx hy
          go_wp2
          (refine wp_region_ext (by kernel_rfl) (by kernel_rfl) ?_; (repeat (go_big_quiet_step ((fail)))); refine wpQuiet_nil ?_; intro _ hw'; obtain ⟨z5, hw''⟩ := hw'; subst hw'')
          go_wp2
          · have hb : ts[m + 1]?.getD 0 - ts[m]?.getD 0 < T (x * 4 + y) := by assumption
            have hV : validV T l ts = .tuple #[.bool false, .int .i64 0] := by
              unfold validV; rw [if_pos HZ.out]
              have : ¬ ∀ i, i + 1 < l.length → adjAt T l ts i := fun hh => by
                have := hh m (by rw [HL.out]; exact hlt2)
                rw [HS.out] at this
                omega
              rw [adjB_false this]
            refine fin2 (by simp [results, Try.results31, go_sem]; rfl) ?_ rfl (by repeat (first | exact Below.refl _ _ | with_reducible refine Below.drew ?_ | with_reducible refine Below.alloc ?_ (by simp <;> omega) _ | with_reducible refine Below.setCell ?_ (by simp <;> omega) _ | with_reducible refine below_xt ?_ (by simp <;> omega) _ | with_reducible refine below_drewN ?_ _))
            rw [hV]
          · have hb : T (x * 4 + y) ≤ ts[m + 1]?.getD 0 - ts[m]?.getD 0 := by assumption
            go_roundg (k - (m + 1))
            case measure => omega
            case rel => exact ⟨m + 1, rfl, by omega, by go_num, fun i hi => (by
              by_cases e : i = m
              · subst e; rw [HS.out]; exact hb
              · exact Had.out i (by omega)), ext_of_below (by repeat (first | exact Below.refl _ _ | with_reducible refine Below.drew ?_ | with_reducible refine Below.alloc ?_ (by simp <;> omega) _ | with_reducible refine Below.setCell ?_ (by simp <;> omega) _ | with_reducible refine below_xt ?_ (by simp <;> omega) _ | with_reducible refine below_drewN ?_ _))⟩
        · have hV : validV T l ts = .tuple #[.bool true, .int .i64 0] := by
            unfold validV; rw [if_pos HZ.out]
            have : ∀ i, i + 1 < l.length → adjAt T l ts i := fun i hi => Had.out i (by rw [HL.out] at hi; omega)
            rw [adjB_true this]
          have HV := Lib.hid hV
          clear hV
          go_wp2
          refine fin2 (by simp [results, Try.results31, go_sem]; rfl) ?_ rfl (by repeat (first | exact Below.refl _ _ | with_reducible refine Below.drew ?_ | with_reducible refine Below.alloc ?_ (by simp <;> omega) _ | with_reducible refine Below.setCell ?_ (by simp <;> omega) _ | with_reducible refine below_xt ?_ (by simp <;> omega) _ | with_reducible refine below_drewN ?_ _))
          rw [HV.out]

theorem valid_any (T : Nat → Int) (A B : Option Addr) (n c m d : Nat) (l ts : List Int) (w : World) (hl : l.length = n) (hm : ts.length = m) (hn : n ≤ maxLen) (hmm : m ≤ maxLen) (hA : SlI w A n l) (hB : SlI w B m ts) :
    Calls Try.prog 31 #[.agg (tab T), .slice A n c, .slice B m d] w (Ret (validV T l ts) w) := by
  by_cases h : tabErr T ≠ 0 ∨ 256 < n ∨ 256 < m ∨ n ≠ m
  · exact valid_early T A B n c m d l ts w hl hm hn hmm h
  · have h0 : tabErr T = 0 := Classical.byContradiction fun hh => h (.inl hh)
    obtain rfl : n = m := by omega
    exact valid_rest T A B n c d l ts w hl hm (by omega) h0 hA hB
end Go.Proofs.Ytnmepkcbpkcegaa
