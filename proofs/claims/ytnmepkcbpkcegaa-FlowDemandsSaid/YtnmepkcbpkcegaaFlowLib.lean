/- Contracts of package slices at capacities and ints. (Printed by wip/gen_flow.py.) -/
import Derived.Test.YtnmepkcbpkcegaaOwn
import Derived.Test.YtnmepkcbpkcegaaFlow
namespace Go.Proofs.Ytnmepkcbpkcegaa
open Go.RowKit
attribute [local go_sem] xt_size xt_cell xt_frozen xt_setCell xt_drew xt_drewN
attribute [local go_sem] cell_alloc_ite frozen_alloc_ite setCell_alloc_ite

def LCap : Lay Cap := ⟨3, Cap.cell, zCap⟩
def LInt : Lay Int := ⟨1, fun x _ => .int .i64 x, 0⟩
theorem LCap.at {w : World} {A : Option Addr} {n : Nat} {l : List _} (h : SlT LCap w A n l) {k : Nat} (hk : k < n) :
    ∃ b off, A = some ⟨b, off, none⟩ ∧ b < w.heap.size ∧ ∀ i, i < n → w.cell? ⟨b, off + i * 3, none⟩ = some (.int .i64 (l[i]?.getD LCap.z).a) ∧ w.cell? ⟨b, off + i * 3 + 1, none⟩ = some (.int .i64 (l[i]?.getD LCap.z).b) ∧ w.cell? ⟨b, off + i * 3 + 2, none⟩ = some (.int .i64 (l[i]?.getD LCap.z).m) := by
  obtain ⟨b, off, e, hlt, hc⟩ := h (by omega)
  exact ⟨b, off, e, hlt, fun i hi => ⟨hc i 0 hi (by decide), hc i 1 hi (by decide), hc i 2 hi (by decide)⟩⟩
theorem LInt.at {w : World} {A : Option Addr} {n : Nat} {l : List _} (h : SlT LInt w A n l) {k : Nat} (hk : k < n) :
    ∃ b off, A = some ⟨b, off, none⟩ ∧ b < w.heap.size ∧ ∀ i, i < n → w.cell? ⟨b, off + i, none⟩ = some (.int .i64 (l[i]?.getD LInt.z)) := by
  obtain ⟨b, off, e, hlt, hc⟩ := h (by omega)
  exact ⟨b, off, e, hlt, fun i hi => by have := hc i 0 hi (by decide); simpa [LInt] using this⟩

theorem info_LCap : (Try.prog.info? 64).map (fun i => (i.zero, i.size, i.bytes)) = some (some (.agg #[.int .i64 0, .int .i64 0, .int .i64 0]), LCap.s, 24) := by kernel_rfl
set_option maxHeartbeats 1000000 in
theorem clone_LCap (A : Option Addr) (n c : Nat) (l : List _) (w : World) (hl : l.length = n) (hn : n ≤ 1000000000) (h : SlT LCap w A n l) :
    Calls Try.prog 39 #[.slice A n c] w (RetO LCap 64 id l w) := by
  have q : ∀ (w : World) (a : Option Addr) (n c n' c' : Nat), (binOp .eql 56 (.slice a n c) (.slice none n' c')).run Try.prog w = .ok (.bool a.isNone) w := fun w a n c n' c' => Lib.run_eql_slice_nil w _ _ a n c n' c' Try.underlying56
  obtain ⟨i0, hi0, hz0, hz1, hz2⟩ := info_parts info_LCap
  rcases A with _ | ad
  · have hn0 : n = 0 := by
      rcases Nat.eq_zero_or_pos n with h0 | h0
      · exact h0
      · obtain ⟨b, off, e, _⟩ := h h0
        cases e
    subst hn0
    obtain rfl : l = [] := List.eq_nil_of_length_eq_zero hl
    clear h hl
    go_enter Try.func39, Try.ntmps39
    go_wp2
    go_ret
    exact retO_mk (v := .slice none 0 0) (Below.refl _ _) (Own.nil _ _ _)
  · have H := Lib.hid h
    have HL := Lib.hid hl
    have hq := q
    clear h hl
    go_enter Try.func39, Try.ntmps39
    go_wp2_with (at_builtin; refine wpList_append_sl (L := LCap) rfl _ _ 56 rfl w.heap.size 64 i0 (.agg #[.int .i64 0, .int .i64 0, .int .i64 0]) 24 Try.underlying56 hi0 hz0 hz1 hz2 rfl (by decide) (by intro x j; match j with | 0 => rfl | 1 => rfl | _ + 2 => rfl) (.slice (some ⟨w.heap.size, 0, none⟩) 0 0) [] rfl (Own.lit w w.heap.size (Nat.le_refl _) _ [] (by unfold maxLen; simp) #[] rfl _ rfl) (some ad) n c l rfl HL.out (H.out.alloc _) (by unfold maxLen; simp; omega) (by simp; omega) (by simp) ?_; intro v1 w1 hown1 hg1 hat1)
    go_ret
    refine retO_mk (v := v1) (((Below.refl _ _).alloc (Nat.le_refl _) _).grown hg1 (by simp) (by intro k hk; simp [Value.ownBlock] at hk; omega)) ?_
    simpa using hown1

set_option maxHeartbeats 1000000 in
theorem equal_LCap (A B : Option Addr) (n c d : Nat) (l : List _) (w : World) (hn : n ≤ maxLen) (hA : SlT LCap w A n l) (hB : SlT LCap w B n l) :
    Calls Try.prog 40 #[.slice A n c, .slice B n d] w (Ret (.bool true) w) := by
  unfold maxLen at hn
  have HA := Lib.hid hA
  have HB := Lib.hid hB
  have hnn : ((n : Int) != (n : Int)) = false := by simp
  clear hA hB
  go_enter Try.func40, Try.ntmps40
  go_wp2
  go_loopg [13] n (fun g i wr => ∃ k : Nat, g = n - k ∧ k ≤ n ∧ i = .int .i64 k ∧ ∃ z, wr = xt w z)
  case atStart => exact ⟨0, rfl, by omega, rfl, ext_of_below (Below.refl _ _)⟩
  case round =>
    obtain ⟨k, rfl, hk, rfl, z, rfl⟩ := hrel
    by_cases hlt : k < n
    · obtain ⟨b1, off1, rfl, hb1, hcell⟩ := LCap.at HA.out hlt
      obtain ⟨c0, c1, c2⟩ := hcell k hlt
      clear hcell
      obtain ⟨b2, off2, rfl, hb2, hcell⟩ := LCap.at HB.out hlt
      obtain ⟨d0, d1, d2⟩ := hcell k hlt
      clear hcell
      generalize l[k]?.getD LCap.z = x at c0 c1 c2 d0 d1 d2
      go_wp2
      (refine wp_region_ext (by kernel_rfl) (by kernel_rfl) ?_; (repeat (go_big_quiet_step ((fail)))); refine wpQuiet_nil ?_; intro _ hw'; obtain ⟨z2, hw''⟩ := hw'; subst hw'')
      go_wp2
      all_goals (first | (exfalso; simp_all; done) | skip)
      go_roundg (n - (k + 1))
      case measure => omega
      case rel => exact ⟨k + 1, rfl, by omega, by go_num, ext_of_below (by repeat (first | exact Below.refl _ _ | with_reducible refine Below.drew ?_ | with_reducible refine Below.alloc ?_ (by simp <;> omega) _ | with_reducible refine Below.setCell ?_ (by simp <;> omega) _ | with_reducible refine below_xt ?_ (by simp <;> omega) _ | with_reducible refine below_drewN ?_ _))⟩
    · go_wp2
      refine fin2 (by simp [results, Try.results40, go_sem]; rfl) ?_ rfl (by repeat (first | exact Below.refl _ _ | with_reducible refine Below.drew ?_ | with_reducible refine Below.alloc ?_ (by simp <;> omega) _ | with_reducible refine Below.setCell ?_ (by simp <;> omega) _ | with_reducible refine below_xt ?_ (by simp <;> omega) _ | with_reducible refine below_drewN ?_ _))
      rfl

set_option maxHeartbeats 1000000 in
theorem equal_LInt (A B : Option Addr) (n c d : Nat) (l : List _) (w : World) (hn : n ≤ maxLen) (hA : SlT LInt w A n l) (hB : SlT LInt w B n l) :
    Calls Try.prog 46 #[.slice A n c, .slice B n d] w (Ret (.bool true) w) := by
  unfold maxLen at hn
  have HA := Lib.hid hA
  have HB := Lib.hid hB
  have hnn : ((n : Int) != (n : Int)) = false := by simp
  clear hA hB
  go_enter Try.func46, Try.ntmps46
  go_wp2
  go_loopg [13] n (fun g i wr => ∃ k : Nat, g = n - k ∧ k ≤ n ∧ i = .int .i64 k ∧ ∃ z, wr = xt w z)
  case atStart => exact ⟨0, rfl, by omega, rfl, ext_of_below (Below.refl _ _)⟩
  case round =>
    obtain ⟨k, rfl, hk, rfl, z, rfl⟩ := hrel
    by_cases hlt : k < n
    · obtain ⟨b1, off1, rfl, hb1, hcell⟩ := LInt.at HA.out hlt
      obtain c0 := hcell k hlt
      clear hcell
      obtain ⟨b2, off2, rfl, hb2, hcell⟩ := LInt.at HB.out hlt
      obtain d0 := hcell k hlt
      clear hcell
      generalize l[k]?.getD LInt.z = x at c0 d0
      go_wp2
      (refine wp_region_ext (by kernel_rfl) (by kernel_rfl) ?_; (repeat (go_big_quiet_step ((fail)))); refine wpQuiet_nil ?_; intro _ hw'; obtain ⟨z2, hw''⟩ := hw'; subst hw'')
      go_wp2
      all_goals (first | (exfalso; simp_all; done) | skip)
      go_roundg (n - (k + 1))
      case measure => omega
      case rel => exact ⟨k + 1, rfl, by omega, by go_num, ext_of_below (by repeat (first | exact Below.refl _ _ | with_reducible refine Below.drew ?_ | with_reducible refine Below.alloc ?_ (by simp <;> omega) _ | with_reducible refine Below.setCell ?_ (by simp <;> omega) _ | with_reducible refine below_xt ?_ (by simp <;> omega) _ | with_reducible refine below_drewN ?_ _))⟩
    · go_wp2
      refine fin2 (by simp [results, Try.results46, go_sem]; rfl) ?_ rfl (by repeat (first | exact Below.refl _ _ | with_reducible refine Below.drew ?_ | with_reducible refine Below.alloc ?_ (by simp <;> omega) _ | with_reducible refine Below.setCell ?_ (by simp <;> omega) _ | with_reducible refine below_xt ?_ (by simp <;> omega) _ | with_reducible refine below_drewN ?_ _))
      rfl

set_option maxHeartbeats 1000000 in
theorem index_LCap1 (K : FuncId) (A : Option Addr) (n c : Nat) (l : List _) (p0 : Value) (p : Nat → Bool) (w : World) (hn : n ≤ maxLen) (hA : SlT LCap w A n l)
    (hf : ∀ args W, (callFunc K args).run Try.prog W = .ok (.enter K args) W) (hK : ∀ i z, i < n → Calls Try.prog K #[.agg #[.int .i64 (l[i]?.getD LCap.z).a, .int .i64 (l[i]?.getD LCap.z).b, .int .i64 (l[i]?.getD LCap.z).m], p0] (xt w z) (Ret (.bool (p i)) (xt w z))) :
    Calls Try.prog 76 #[.slice A n c, .func (.func K) #[] #[p0]] w (Ret (.int .i64 (firstIdx p n)) w) := by
  unfold maxLen at hn
  have HA := Lib.hid hA
  have HK := Lib.hid hK
  clear hA hK
  go_enter Try.func76, Try.ntmps76
  go_wp2
  go_loopg [8] n (fun g i wr => ∃ k : Nat, g = n - k ∧ k ≤ n ∧ i = .int .i64 k ∧ (∀ i, i < k → p i = false) ∧ ∃ z, wr = xt w z)
  case atStart => exact ⟨0, rfl, by omega, rfl, by omega, ext_of_below (Below.refl _ _)⟩
  case round =>
    obtain ⟨k, rfl, hk, rfl, hno, z, rfl⟩ := hrel
    have Hno := Lib.hid hno
    clear hno
    by_cases hlt : k < n
    · obtain ⟨b1, off1, rfl, hb1, hcell⟩ := LCap.at HA.out hlt
      obtain ⟨c0, c1, c2⟩ := hcell k hlt
      clear hcell
      rcases hp : p k with _ | _
      · have HP := Lib.hid hp
        clear hp
        go_wp2_with fail
        refine (HK.out k _ hlt).mono ?_
        rw [HP.out]
        rintro e w1 ⟨rfl, z1, rfl⟩
        go_wp2
        go_roundg (n - (k + 1))
        case measure => omega
        case rel => exact ⟨k + 1, rfl, by omega, by go_num, fun i hi => (by
          by_cases e : i = k
          · subst e; exact HP.out
          · exact Hno.out i (by omega)), ext_of_below (by repeat (first | exact Below.refl _ _ | with_reducible refine Below.drew ?_ | with_reducible refine Below.alloc ?_ (by simp <;> omega) _ | with_reducible refine Below.setCell ?_ (by simp <;> omega) _ | with_reducible refine below_xt ?_ (by simp <;> omega) _ | with_reducible refine below_drewN ?_ _))⟩
      · have hV := firstIdx_at hp Hno.out hlt
        have HV := Lib.hid hV
        have HP := Lib.hid hp
        clear hp hV
        go_wp2_with fail
        refine (HK.out k _ hlt).mono ?_
        rw [HP.out]
        rintro e w1 ⟨rfl, z1, rfl⟩
        go_wp2
        refine fin2 (by simp [results, Try.results76, go_sem]; rfl) ?_ rfl (by repeat (first | exact Below.refl _ _ | with_reducible refine Below.drew ?_ | with_reducible refine Below.alloc ?_ (by simp <;> omega) _ | with_reducible refine Below.setCell ?_ (by simp <;> omega) _ | with_reducible refine below_xt ?_ (by simp <;> omega) _ | with_reducible refine below_drewN ?_ _))
        rw [HV.out]
    · obtain rfl : k = n := by omega
      have hV := firstIdx_none Hno.out
      have HV := Lib.hid hV
      clear hV
      go_wp2
      refine fin2 (by simp [results, Try.results76, go_sem]; rfl) ?_ rfl (by repeat (first | exact Below.refl _ _ | with_reducible refine Below.drew ?_ | with_reducible refine Below.alloc ?_ (by simp <;> omega) _ | with_reducible refine Below.setCell ?_ (by simp <;> omega) _ | with_reducible refine below_xt ?_ (by simp <;> omega) _ | with_reducible refine below_drewN ?_ _))
      rw [HV.out]

set_option maxHeartbeats 1000000 in
theorem index_LInt0 (K : FuncId) (A : Option Addr) (n c : Nat) (l : List _) (p : Nat → Bool) (w : World) (hn : n ≤ maxLen) (hA : SlT LInt w A n l)
    (hf : ∀ args W, (callFunc K args).run Try.prog W = .ok (.enter K args) W) (hK : ∀ i z, i < n → Calls Try.prog K #[.int .i64 (l[i]?.getD LInt.z)] (xt w z) (Ret (.bool (p i)) (xt w z))) :
    Calls Try.prog 69 #[.slice A n c, .func (.func K) #[] #[]] w (Ret (.int .i64 (firstIdx p n)) w) := by
  unfold maxLen at hn
  have HA := Lib.hid hA
  have HK := Lib.hid hK
  clear hA hK
  go_enter Try.func69, Try.ntmps69
  go_wp2
  go_loopg [8] n (fun g i wr => ∃ k : Nat, g = n - k ∧ k ≤ n ∧ i = .int .i64 k ∧ (∀ i, i < k → p i = false) ∧ ∃ z, wr = xt w z)
  case atStart => exact ⟨0, rfl, by omega, rfl, by omega, ext_of_below (Below.refl _ _)⟩
  case round =>
    obtain ⟨k, rfl, hk, rfl, hno, z, rfl⟩ := hrel
    have Hno := Lib.hid hno
    clear hno
    by_cases hlt : k < n
    · obtain ⟨b1, off1, rfl, hb1, hcell⟩ := LInt.at HA.out hlt
      obtain c0 := hcell k hlt
      clear hcell
      rcases hp : p k with _ | _
      · have HP := Lib.hid hp
        clear hp
        go_wp2_with fail
        refine (HK.out k _ hlt).mono ?_
        rw [HP.out]
        rintro e w1 ⟨rfl, z1, rfl⟩
        go_wp2
        go_roundg (n - (k + 1))
        case measure => omega
        case rel => exact ⟨k + 1, rfl, by omega, by go_num, fun i hi => (by
          by_cases e : i = k
          · subst e; exact HP.out
          · exact Hno.out i (by omega)), ext_of_below (by repeat (first | exact Below.refl _ _ | with_reducible refine Below.drew ?_ | with_reducible refine Below.alloc ?_ (by simp <;> omega) _ | with_reducible refine Below.setCell ?_ (by simp <;> omega) _ | with_reducible refine below_xt ?_ (by simp <;> omega) _ | with_reducible refine below_drewN ?_ _))⟩
      · have hV := firstIdx_at hp Hno.out hlt
        have HV := Lib.hid hV
        have HP := Lib.hid hp
        clear hp hV
        go_wp2_with fail
        refine (HK.out k _ hlt).mono ?_
        rw [HP.out]
        rintro e w1 ⟨rfl, z1, rfl⟩
        go_wp2
        refine fin2 (by simp [results, Try.results69, go_sem]; rfl) ?_ rfl (by repeat (first | exact Below.refl _ _ | with_reducible refine Below.drew ?_ | with_reducible refine Below.alloc ?_ (by simp <;> omega) _ | with_reducible refine Below.setCell ?_ (by simp <;> omega) _ | with_reducible refine below_xt ?_ (by simp <;> omega) _ | with_reducible refine below_drewN ?_ _))
        rw [HV.out]
    · obtain rfl : k = n := by omega
      have hV := firstIdx_none Hno.out
      have HV := Lib.hid hV
      clear hV
      go_wp2
      refine fin2 (by simp [results, Try.results69, go_sem]; rfl) ?_ rfl (by repeat (first | exact Below.refl _ _ | with_reducible refine Below.drew ?_ | with_reducible refine Below.alloc ?_ (by simp <;> omega) _ | with_reducible refine Below.setCell ?_ (by simp <;> omega) _ | with_reducible refine below_xt ?_ (by simp <;> omega) _ | with_reducible refine below_drewN ?_ _))
      rw [HV.out]
end Go.Proofs.Ytnmepkcbpkcegaa
