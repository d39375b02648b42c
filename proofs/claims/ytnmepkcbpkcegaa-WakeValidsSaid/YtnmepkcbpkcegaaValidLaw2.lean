/- The walk of the law WakeValids, its tables and lengths in order. -/
import Derived.Test.YtnmepkcbpkcegaaValidLaw
namespace Go.Proofs.Ytnmepkcbpkcegaa
open Go.RowKit
attribute [local go_sem] xt_size xt_cell xt_frozen xt_setCell xt_drew xt_drewN tab_get
attribute [local go_sem] cell_alloc_ite frozen_alloc_ite setCell_alloc_ite

theorem sl_one {w : World} {b off n : Nat} {l : List Int} (h : SlI w (some ⟨b, off, none⟩) n l) {k : Nat} (hk : k < n) : SlI w (some ⟨b, off + k, none⟩) 1 [l[k]?.getD 0] := fun _ => by
  obtain ⟨b', off', e, hlt, hc⟩ := SlI.at h hk
  injection e with e
  injection e with e1 e2
  subst e1 e2
  refine ⟨b, off + k, rfl, hlt, fun i j hi hj => ?_⟩
  obtain rfl : i = 0 := by omega
  obtain rfl : j = 0 := by omega
  simpa using hc k hk

/-- All pairs whose first is below i, and those of i itself up to m, are far enough apart. -/
def farTo (T : Nat → Int) (l ts : List Int) (n i m : Nat) : Prop := ∀ a b, a < b → b < n → (a < i ∨ a = i ∧ b < m) → farAt T l ts a b

theorem farTo_row {T : Nat → Int} {l ts : List Int} {n i m : Nat} (h : n ≤ m) : farTo T l ts n i m ↔ farTo T l ts n (i + 1) (i + 2) := by
  unfold farTo
  constructor
  · intro hh a b hab hb hc
    exact hh a b hab hb (by omega)
  · intro hh a b hab hb hc
    exact hh a b hab hb (by omega)
theorem farTo_step {T : Nat → Int} {l ts : List Int} {n i m : Nat} (him : i < m) (hm : m < n) : farTo T l ts n i (m + 1) ↔ (farTo T l ts n i m ∧ farAt T l ts i m) := by
  unfold farTo
  constructor
  · intro hh
    exact ⟨fun a b hab hb hc => hh a b hab hb (by omega), hh i m him hm (by omega)⟩
  · rintro ⟨hh, h2⟩ a b hab hb hc
    by_cases e : a = i ∧ b = m
    · obtain ⟨rfl, rfl⟩ := e; exact h2
    · exact hh a b hab hb (by omega)

set_option maxRecDepth 100000 in
set_option maxHeartbeats 8000000 in
theorem wvalids_rest (T : Nat → Int) (A B : Option Addr) (n c d : Nat) (l ts : List Int) (w : World) (hl : l.length = n) (hm : ts.length = n) (hn : n ≤ 256) (hnc : n ≤ c) (hcm : c ≤ maxLen) (h0 : tabErr T = 0) (hA : SlI w A n l) (hB : SlI w B n ts) :
    Calls Try.prog 8 #[.agg (tab T), .slice A n c, .slice B n d] w (Ret (.bool true) w) := by
  have L1 : ∀ z, Hid (Calls Try.prog 31 #[.agg (tab T), .slice A n c, .slice B n d] (xt (w.alloc (.cells (tab T) 44)) z) (Ret (validV T l ts) (xt (w.alloc (.cells (tab T) 44)) z))) :=
    fun z => valid_any T A B n c n d l ts _ hl hm (by unfold maxLen; omega) (by unfold maxLen; omega) ((hA.alloc _).xt z) ((hB.alloc _).xt z)
  have hE : validErr T l ts = pairErr l ts := by unfold validErr; rw [if_neg (by simp [h0]), if_neg (by omega), if_neg (by omega)]
  have h0' : (tabErr T == 0) = true := by simp [h0]
  have hne : ((n : Int) != (n : Int)) = false := by simp
  have hd : decide (256 < n) = false := by simp; omega
  obtain ⟨is, ev, hV, hV0, hV1⟩ : ∃ (is : Bool) (ev : Int), validV T l ts = .tuple #[.bool is, .int .i64 ev] ∧ (pairErr l ts = 0 → ev = 0 ∧ is = adjB T l ts) ∧ (pairErr l ts ≠ 0 → ev = pairErr l ts ∧ is = false) := by
    unfold validV
    rw [hE]
    by_cases hp : pairErr l ts = 0
    · rw [if_pos hp]
      exact ⟨_, _, rfl, fun _ => ⟨rfl, rfl⟩, fun hh => absurd hp hh⟩
    · rw [if_neg hp]
      exact ⟨_, _, rfl, fun hh => absurd hh hp, fun _ => ⟨rfl, rfl⟩⟩
  have HV0 := Lib.hid hV0
  have HV1 := Lib.hid hV1
  have HL := Lib.hid hl
  have HM := Lib.hid hm
  have HA := Lib.hid hA
  have HB := Lib.hid hB
  have HT := Lib.hid h0
  have HC := Lib.hid hcm
  unfold maxLen at hcm
  clear h0 hl hm hA hB hE hV0 hV1
  go_enter Try.func8, Try.ntmps8
  go_wp2_with (first | (go_at_call 24; refine (wakeFact_any _).mono ?_; rintro e w1 ⟨rfl, zw1, rfl⟩) | (refine wpList_load_row rfl 44 _ rfl w.heap.size rfl 44 (tab T) (0, 0) _ (by (repeat (first | rw [xt_heap _ _ _ (by simp <;> omega)] | rw [heap_alloc_old _ _ _ (by simp <;> omega)])); exact heap_alloc_at _ _ _ (by simp)) Try.underlying44 rfl (by rw [tab_size]; exact wtInfo) ?_) | (go_at_call 31; refine ((L1 _).out).mono ?_; rintro e w2 ⟨rfl, zw2, rfl⟩) | (go_at_call 26; refine (tableError_any _ _).mono ?_; rintro e w3 ⟨rfl, zw3, rfl⟩))
  go_loopg [9, 10] (n + 1) (fun g wv iv wr => ∃ (k : Nat) (e : Int), wv = .int .i64 e ∧ iv = .int .i64 k ∧ k ≤ n + 1 ∧ (e = 0 ∧ g = n - k + 1 ∧ k ≤ n ∧ pairErr l ts = pairErr (l.drop k) (ts.drop k) ∨ e ≠ 0 ∧ g = 0 ∧ pairErr l ts = e) ∧ ∃ z, wr = xt (w.alloc (.cells (tab T) 44)) z)
  case atStart => exact ⟨0, tabErr T, rfl, rfl, by omega, .inl ⟨HT.out, by omega, by omega, rfl⟩, ext_of_below (by repeat (first | exact Below.refl _ _ | with_reducible refine Below.drew ?_ | with_reducible refine Below.alloc ?_ (by simp <;> omega) _ | with_reducible refine Below.setCell ?_ (by simp <;> omega) _ | with_reducible refine below_xt ?_ (by simp <;> omega) _ | with_reducible refine below_drewN ?_ _))⟩
  case round =>
    obtain ⟨k, e, rfl, rfl, hk1, hcase, z, rfl⟩ := hrel
    rcases hcase with ⟨rfl, rfl, hk, hp⟩ | ⟨hne0, rfl, hp⟩
    · have Hp := Lib.hid hp
      clear hp
      by_cases hlt : k < n
      · have hpd := pair_drop (l := l) (ts := ts) (k := k) (by rw [HL.out]; exact hlt) (by rw [HM.out]; exact hlt)
        have Hpd := Lib.hid hpd
        clear hpd
        have hdk : decide (k < n) = true := by simp; omega
        obtain ⟨b, off, rfl, hb, hcell⟩ := SlI.at HA.out hlt
        have hc1 := hcell k hlt
        clear hcell
        obtain ⟨b2, off2, rfl, hb2, hcell⟩ := SlI.at HB.out hlt
        have hc2 := hcell k hlt
        clear hcell
        have CE : ∀ z1, Hid (Calls Try.prog 28 #[.slice (some ⟨b, off + k, none⟩) 1 (c - k)] (xt (w.alloc (.cells (tab T) 44)) z1) (Ret (.int .i64 (clsL [l[k]?.getD 0])) (xt (w.alloc (.cells (tab T) 44)) z1))) :=
          fun z1 => classesError_any _ 1 (c - k) [l[k]?.getD 0] _ rfl (by omega) (((sl_one HA.out hlt).alloc _).xt z1)
        have hck : ¬ c = k := by omega
        by_cases hg : 0 ≤ l[k]?.getD 0 ∧ l[k]?.getD 0 ≤ 3
        · have he0 : classE (l[k]?.getD 0) = 0 := by unfold classE; rw [if_neg (by omega)]
          have hcl : clsL [l[k]?.getD 0] = 0 := by rw [cls_one, he0]
          have He := Lib.hid he0
          clear he0
          by_cases ht : 0 ≤ ts[k]?.getD 0 ∧ ts[k]?.getD 0 ≤ 200000
          · obtain ⟨t1, t2⟩ := ht
            have t3 : decide (ts[k]?.getD 0 < 0) = false := by simp; omega
            have t4 : decide (200000 < ts[k]?.getD 0) = false := by simp; omega
            go_wp2_with (go_at_call 28; refine ((CE _).out).mono ?_; rintro e w1 ⟨rfl, zw1, rfl⟩)
            go_roundg (n - (k + 1) + 1)
            case measure => omega
            case rel => exact ⟨k + 1, 0, rfl, by go_num, by omega, .inl ⟨rfl, rfl, by omega, by rw [Hp.out, Hpd.out, if_neg (by simp [He.out]), if_neg (by omega)]⟩, ext_of_below (by repeat (first | exact Below.refl _ _ | with_reducible refine Below.drew ?_ | with_reducible refine Below.alloc ?_ (by simp <;> omega) _ | with_reducible refine Below.setCell ?_ (by simp <;> omega) _ | with_reducible refine below_xt ?_ (by simp <;> omega) _ | with_reducible refine below_drewN ?_ _))⟩
          · by_cases t3 : ts[k]?.getD 0 < 0
            · go_wp2_with (go_at_call 28; refine ((CE _).out).mono ?_; rintro e w1 ⟨rfl, zw1, rfl⟩)
              go_roundg 0
              case measure => omega
              case rel => exact ⟨k + 1, 12, rfl, by go_num, by omega, .inr ⟨by omega, rfl, by rw [Hp.out, Hpd.out, if_neg (by simp [He.out]), if_pos (by omega)]⟩, ext_of_below (by repeat (first | exact Below.refl _ _ | with_reducible refine Below.drew ?_ | with_reducible refine Below.alloc ?_ (by simp <;> omega) _ | with_reducible refine Below.setCell ?_ (by simp <;> omega) _ | with_reducible refine below_xt ?_ (by simp <;> omega) _ | with_reducible refine below_drewN ?_ _))⟩
            · have t4 : 200000 < ts[k]?.getD 0 := by omega
              have t5 : decide (ts[k]?.getD 0 < 0) = false := by simp; omega
              go_wp2_with (go_at_call 28; refine ((CE _).out).mono ?_; rintro e w1 ⟨rfl, zw1, rfl⟩)
              go_roundg 0
              case measure => omega
              case rel => exact ⟨k + 1, 12, rfl, by go_num, by omega, .inr ⟨by omega, rfl, by rw [Hp.out, Hpd.out, if_neg (by simp [He.out]), if_pos (by omega)]⟩, ext_of_below (by repeat (first | exact Below.refl _ _ | with_reducible refine Below.drew ?_ | with_reducible refine Below.alloc ?_ (by simp <;> omega) _ | with_reducible refine Below.setCell ?_ (by simp <;> omega) _ | with_reducible refine below_xt ?_ (by simp <;> omega) _ | with_reducible refine below_drewN ?_ _))⟩
        · have he0 : classE (l[k]?.getD 0) = 1 := by unfold classE; rw [if_pos (by omega)]
          have hcl : clsL [l[k]?.getD 0] = 1 := by rw [cls_one, he0]
          have He := Lib.hid he0
          clear he0
          go_wp2_with (go_at_call 28; refine ((CE _).out).mono ?_; rintro e w1 ⟨rfl, zw1, rfl⟩)
          go_roundg 0
          case measure => omega
          case rel => exact ⟨k + 1, 1, rfl, by go_num, by omega, .inr ⟨by omega, rfl, by rw [Hp.out, Hpd.out, if_pos (by rw [He.out]; omega)]⟩, ext_of_below (by repeat (first | exact Below.refl _ _ | with_reducible refine Below.drew ?_ | with_reducible refine Below.alloc ?_ (by simp <;> omega) _ | with_reducible refine Below.setCell ?_ (by simp <;> omega) _ | with_reducible refine below_xt ?_ (by simp <;> omega) _ | with_reducible refine below_drewN ?_ _))⟩
      · obtain rfl : k = n := by omega
        have hz : pairErr l ts = 0 := by
          rw [Hp.out, List.drop_of_length_le (by rw [HL.out]; omega)]
          rfl
        obtain ⟨rfl, rfl⟩ := HV0.out hz
        obtain ⟨hcl, htm⟩ := pair_cls (by rw [HL.out, HM.out]) hz
        have HCL := Lib.hid hcl
        have HTM := Lib.hid htm
        have hdk : decide (k < k) = false := by simp
        clear hz hcl htm
        go_wp2
        go_loopg [89, 11] k (fun g iv fv wr => ∃ (i : Nat) (b : Bool), iv = .int .i64 i ∧ fv = .bool b ∧ g = k - i ∧ i ≤ k ∧ (b = true ↔ farTo T l ts k i (i + 1)) ∧ ∃ z, wr = xt (w.alloc (.cells (tab T) 44)) z)
        case atStart => exact ⟨0, true, rfl, rfl, rfl, by omega, ⟨fun _ a b hab hb hc => by omega, fun _ => rfl⟩, z, rfl⟩
        case round =>
          obtain ⟨i, b, rfl, rfl, rfl, hi, hfar, z2, rfl⟩ := hrel
          have Hfar := Lib.hid hfar
          clear hfar
          by_cases hlt2 : i < k
          · have hdi : decide (i < k) = true := by simp; omega
            go_wp2
            go_loopg [13, 11] (k - (i + 1)) (fun g iv fv wr => ∃ (m : Nat) (b : Bool), iv = .int .i64 m ∧ fv = .bool b ∧ g = k - m ∧ i < m ∧ m ≤ k ∧ (b = true ↔ farTo T l ts k i m) ∧ ∃ z, wr = xt (w.alloc (.cells (tab T) 44)) z)
            case atStart => exact ⟨i + 1, b, by go_num, rfl, by omega, by omega, by omega, Hfar.out, z2, rfl⟩
            case round =>
              obtain ⟨m, b, rfl, rfl, rfl, him, hmk, hfar2, z3, rfl⟩ := hrel
              have Hfar2 := Lib.hid hfar2
              clear hfar2 Hfar
              by_cases hlt3 : m < k
              · have hdm : decide (m < k) = true := by simp; omega
                obtain ⟨b1, off1, rfl, hb1, hcell⟩ := SlI.at HA.out hlt3
                have hc1 := hcell i hlt2
                have hc2 := hcell m hlt3
                clear hcell
                obtain ⟨b2, off2, rfl, hb2, hcell⟩ := SlI.at HB.out hlt3
                have hc3 := hcell i hlt2
                have hc4 := hcell m hlt3
                clear hcell
                have g1 := clsL_zero HCL.out i (by rw [HL.out]; omega)
                have g2 := clsL_zero HCL.out m (by rw [HL.out]; omega)
                have q1 := HTM.out i (by rw [HM.out]; omega)
                have q2 := HTM.out m (by rw [HM.out]; omega)
                have hs : farAt T l ts i m = (T ((l[i]?.getD 0).toNat * 4 + (l[m]?.getD 0).toNat) ≤ ts[m]?.getD 0 - ts[i]?.getD 0) := rfl
                obtain ⟨x, hx⟩ := Int.eq_ofNat_of_zero_le g1.1
                obtain ⟨y, hy⟩ := Int.eq_ofNat_of_zero_le g2.1
                rw [hx] at hc1 g1
                rw [hy] at hc2 g2
                rw [hx, hy, Int.toNat_natCast, Int.toNat_natCast] at hs
                have HS := Lib.hid hs
                clear hs hx hy
                cases b
                · go_wp2
                  (refine wp_region_ext (by kernel_rfl) (by kernel_rfl) ?_; (repeat (go_big_quiet_step ((fail)))); refine wpQuiet_nil ?_; intro _ hw'; obtain ⟨z5, hw''⟩ := hw'; subst hw'')
                  go_wp2
                  go_roundg (k - (m + 1))
                  case measure => omega
                  case rel => exact ⟨m + 1, false, by go_num, rfl, rfl, by omega, by omega, ⟨fun hh => Bool.noConfusion hh, fun hh => Hfar2.out.2 ((farTo_step him hlt3).1 hh).1⟩, ext_of_below (by repeat (first | exact Below.refl _ _ | with_reducible refine Below.drew ?_ | with_reducible refine Below.alloc ?_ (by simp <;> omega) _ | with_reducible refine Below.setCell ?_ (by simp <;> omega) _ | with_reducible refine below_xt ?_ (by simp <;> omega) _ | with_reducible refine below_drewN ?_ _))⟩
                · go_wp2
                  (refine wp_region_ext (by kernel_rfl) (by kernel_rfl) ?_; (repeat (go_big_quiet_step ((fail)))); refine wpQuiet_nil ?_; intro _ hw'; obtain ⟨z5, hw''⟩ := hw'; subst hw'')
                  go_wp2
                  go_roundg (k - (m + 1))
                  case measure => omega
                  case rel => exact ⟨m + 1, decide (T (x * 4 + y) ≤ ts[m]?.getD 0 - ts[i]?.getD 0), by go_num, rfl, rfl, by omega, by omega, (by rw [farTo_step him hlt3, HS.out, decide_eq_true_eq]; exact ⟨fun hh => ⟨Hfar2.out.1 (by trivial), hh⟩, fun hh => hh.2⟩), ext_of_below (by repeat (first | exact Below.refl _ _ | with_reducible refine Below.drew ?_ | with_reducible refine Below.alloc ?_ (by simp <;> omega) _ | with_reducible refine Below.setCell ?_ (by simp <;> omega) _ | with_reducible refine below_xt ?_ (by simp <;> omega) _ | with_reducible refine below_drewN ?_ _))⟩
              · obtain rfl : m = k := by omega
                go_wp2
                go_roundg (m - (i + 1))
                case measure => omega
                case rel => exact ⟨i + 1, b, by go_num, rfl, rfl, by omega, by rw [Hfar2.out, farTo_row (Nat.le_refl m)], z3, rfl⟩
          · obtain rfl : i = k := by omega
            have hb : (adjB T l ts == b) = true := by
              have h1 : adjB T l ts = b := by
                rw [Bool.eq_iff_iff, adj_all HT.out HCL.out, Hfar.out]
                unfold farTo
                rw [HL.out]
                exact ⟨fun hh a b hab hb _ => hh a b hab hb, fun hh a b hab hb => hh a b hab hb (by omega)⟩
              rw [h1]; simp
            go_wp2
            refine fin2 (by simp [results, Try.results8, go_sem]; rfl) ?_ rfl (by repeat (first | exact Below.refl _ _ | with_reducible refine Below.drew ?_ | with_reducible refine Below.alloc ?_ (by simp <;> omega) _ | with_reducible refine Below.setCell ?_ (by simp <;> omega) _ | with_reducible refine below_xt ?_ (by simp <;> omega) _ | with_reducible refine below_drewN ?_ _))
            rfl
    · have hne1 : (e == 0) = false := by simp [hne0]
      have hne2 : (e != 0) = true := by simp [hne0]
      obtain ⟨rfl, rfl⟩ := HV1.out (by rw [hp]; exact hne0)
      rw [hp] at hV
      have hee : (e == e) = true := by simp
      clear hne0
      have Hp := Lib.hid hp
      clear hp
      go_wp2
      refine fin2 (by simp [results, Try.results8, go_sem]; rfl) ?_ rfl (by repeat (first | exact Below.refl _ _ | with_reducible refine Below.drew ?_ | with_reducible refine Below.alloc ?_ (by simp <;> omega) _ | with_reducible refine Below.setCell ?_ (by simp <;> omega) _ | with_reducible refine below_xt ?_ (by simp <;> omega) _ | with_reducible refine below_drewN ?_ _))
      simp

theorem wvalids_walk (T : Nat → Int) (A B : Option Addr) (n c m d : Nat) (l ts : List Int) (w : World) (hl : l.length = n) (hm : ts.length = m) (hnc : n ≤ c) (hc : c ≤ maxLen) (hmm : m ≤ maxLen) (hA : SlI w A n l) (hB : SlI w B m ts) :
    Calls Try.prog 8 #[.agg (tab T), .slice A n c, .slice B m d] w (Ret (.bool true) w) := by
  by_cases h : tabErr T ≠ 0 ∨ 256 < n ∨ 256 < m ∨ n ≠ m
  · exact wvalids_early T A B n c m d l ts w hl hm (by omega) hmm hA hB h
  · have h0 : tabErr T = 0 := Classical.byContradiction fun hh => h (.inl hh)
    obtain rfl : n = m := by omega
    exact wvalids_rest T A B n c d l ts w hl hm (by omega) hnc hc h0 hA hB
end Go.Proofs.Ytnmepkcbpkcegaa
