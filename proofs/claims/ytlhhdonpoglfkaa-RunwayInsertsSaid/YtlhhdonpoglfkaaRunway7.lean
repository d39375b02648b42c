/- runway.Change, and the fact. -/
import Derived.Test.YtlhhdonpoglfkaaRunway6
import Derived.Test.YtlhhdonpoglfkaaRunwayG
namespace Go.Proofs.Ytlhhdonpoglfkaa
open Go.RowKit
set_option linter.unusedVariables false
set_option linter.unusedSimpArgs false
set_option maxRecDepth 100000
theorem mvE_sorted : ∀ {l : List Mv} {p : Int}, mvE p l = 0 → ∀ z, l[l.length - 1]? = some z → ∀ x ∈ l, x.t ≤ z.t
  | [], _, _, z, hz, x, hx => by simp at hx
  | m :: l, p, h, z, hz, x, hx => by
    have hb := mvE_last h
    rw [mvE] at h
    split at h
    · cases h
    · split at h
      · cases h
      · cases l with
        | nil => simp at hz hx; subst hx; subst hz; omega
        | cons y r =>
          have hz' : (y :: r)[(y :: r).length - 1]? = some z := by
            have e : (m :: y :: r).length - 1 = ((y :: r).length - 1) + 1 := by simp
            rw [e, List.getElem?_cons_succ] at hz
            exact hz
          rcases List.mem_cons.1 hx with q | q
          · subst q
            have := mvE_last h z (List.mem_iff_getElem?.2 ⟨_, hz'⟩)
            omega
          · exact mvE_sorted h z hz' x q
def lastS (s : List Sp) : Sp := (s[s.length - 1]?).getD ⟨0, 0⟩
def nearB (l : List Mv) (at_ : Int) : Bool := l.any fun m => decide (m.t + 180 > at_)
theorem near_last {l : List Mv} {at_ : Int} {z : Mv} (h : movE l = 0) (hz : l[l.length - 1]? = some z) : nearB l at_ = decide (z.t + 180 > at_) := by
  have h' : mvE 0 l = 0 := by
    unfold movE at h; split at h
    · cases h
    · exact h
  have hs := mvE_sorted h' z hz
  by_cases hq : z.t + 180 > at_
  · rw [decide_eq_true hq, nearB, List.any_eq_true]
    exact ⟨z, List.mem_iff_getElem?.2 ⟨_, hz⟩, decide_eq_true hq⟩
  · rw [decide_eq_false hq, nearB, List.any_eq_false]
    intro x hx
    have := hs x hx
    simp; omega
def chI (l : List Mv) (s : List Sp) (at_ : Int) : List Sp × Int :=
  if movE l ≠ 0 then ([], movE l) else if spaE s ≠ 0 then ([], spaE s) else if s.length = 24 then ([], 9) else if at_ < 0 ∨ at_ > 200000 ∨ at_ < (lastS s).f + 360 then ([], 12) else if nearB l at_ = true then ([], 15) else (s ++ [⟨at_, 1 - (lastS s).e⟩], 0)
def spT (p : List Sp × Int) : AV := .tup [sps p.1, .int p.2]
theorem change_fn (l : List Mv) (s : List Sp) (at_ : Int) : Fn Try.prog 33 [mvs l, sps s, .int at_] (.tup [.row 60 2 true, .sc]) (spT (chI l s at_)) := by
  refine fn_run mixed 2 (Γ := RunwayF.Γ) (ann := RunwayF.ann) Try.func33 rfl Try.call33 ((RunwayF.change_form _ _ _ _).mpr ?_)
  refine ⟨_, check_fn l, ?_⟩
  simp [spT]
  refine ⟨fun h => by simp [chI, h], fun hm => ⟨_, spans_fn s, ?_⟩⟩
  simp
  refine ⟨fun h => by simp [chI, h, hm], fun hs => ?_⟩
  obtain ⟨hlen, hok⟩ := movE_ok hm
  have hsl : 0 < s.length ∧ s.length ≤ 24 := by
    obtain ⟨a, r, e, h24, _⟩ := spGood.cons (l := s) hs
    refine ⟨by rw [e]; simp, h24⟩
  obtain ⟨q, hq⟩ : ∃ q, s[s.length - 1]? = some q := ⟨_, List.getElem?_eq_getElem (by omega)⟩
  have hqb : (q.e = 0 ∨ q.e = 1) ∧ 0 ≤ q.f ∧ q.f ≤ 200000 := by
    obtain ⟨a, r, e, h24, h1, h2, h3, h4⟩ := spGood.cons (l := s) hs
    have hmem : q ∈ s := List.mem_iff_getElem?.2 ⟨_, hq⟩
    rw [e] at hmem
    rcases List.mem_cons.1 hmem with e' | e'
    · subst e'; exact ⟨h1, h2, h3⟩
    · have := h4 q e'; exact ⟨this.1, this.2.1, this.2.2.1⟩
  have hlS : lastS s = q := by unfold lastS; rw [hq]; rfl
  have hw1 : IntKind.i64.wrap ((s.length : Int) - 1) = (s.length : Int) - 1 := wrap64 (by omega) (by omega)
  have hagg : AV.atAgg (sps s) (.lit (.int .i64 ((s.length : Int) - 1))) 0 2 = .agg [.int q.f, .int q.e] := by
    rw [lst_atAggI (by omega) (x := q) (by rw [← hq]; congr 1; omega)]; rfl
  have hw2 : IntKind.i64.wrap (q.f + 360) = q.f + 360 := wrap64 (by omega) (by omega)
  have hw3 : IntKind.i64.wrap (1 - q.e) = 1 - q.e := wrap64 (by omega) (by omega)
  have hC : chI l s at_ = if s.length = 24 then ([], 9) else if at_ < 0 ∨ at_ > 200000 ∨ at_ < q.f + 360 then ([], 12) else if nearB l at_ = true then ([], 15) else (s ++ [⟨at_, 1 - q.e⟩], 0) := by
    unfold chI; rw [if_neg (by simp [hm]), if_neg (by simp [hs]), hlS]
  simp [hw1, hagg, hw2]
  refine ⟨by omega, fun h => ?_, fun h => ⟨_, wt_fn at_, ?_⟩⟩
  · rw [hC, if_pos (by omega)]; simp
  rw [if_neg (by omega)] at hC
  have hfin : AV.app 2 (sps s) (AV.mk 2 [[.int at_, .int (1 - q.e)]]) = sps (s ++ [⟨at_, 1 - q.e⟩]) := by simp [lst, encP]
  have hfl := flat_sps (s ++ [⟨at_, 1 - q.e⟩])
  simp
  refine ⟨fun h2 => ⟨h2, ?_⟩, fun h2 h3 => ⟨⟨h2, h3⟩, fun h4 => ?_, fun h4 => ?_⟩⟩
  · rw [hC, if_pos (by omega)]; simp
  · rw [hC, if_pos (by omega)]; simp
  rw [if_neg (by omega)] at hC
  have hw4 : IntKind.i64.wrap (at_ - 180) = at_ - 180 := wrap64 (by omega) (by omega)
  have hw5 : IntKind.i64.wrap ((l.length : Int) - 1) = (l.length : Int) - 1 := wrap64 (by omega) (by omega)
  have hroom : AV.room (sps s) (AV.sl 2 [[.int at_, .int (1 - q.e)]]) 16 := by simp [AV.room]; omega
  have hfin : AV.app 2 (sps s) (AV.sl 2 [[.int at_, .int (1 - q.e)]]) = sps (s ++ [⟨at_, 1 - q.e⟩]) := by simp [lst, encP]
  rw [hw3]
  refine ⟨fun hl0 => ?_, fun hl0 => ⟨hl0, ?_⟩⟩
  · obtain ⟨z, hz⟩ : ∃ z, l[l.length - 1]? = some z := ⟨_, List.getElem?_eq_getElem (by omega)⟩
    have hza : AV.at (mvs l) (.lit (.int .i64 ((l.length : Int) - 1))) 0 = .int z.t := by
      rw [lst_atI (by omega) (x := z) (by rw [← hz]; congr 1; omega)]; rfl
    rw [near_last hm hz] at hC
    rw [hw5, hza, hw4]
    refine ⟨by omega, by simp, hl0, by simp, fun h5 => ?_, fun h5 => ?_⟩
    · simp at h5
      rw [hC, if_pos (by simp; omega)]; simp
    · simp at h5
      rw [if_neg (by simp; omega)] at hC
      refine ⟨_, clones_fn s (by omega), hroom, ?_⟩
      rw [hfin, hC]
      exact ⟨hfl, rfl, rfl⟩
  · subst hl0
    rw [if_neg (by simp [nearB])] at hC
    refine ⟨_, clones_fn s (by omega), hroom, ?_⟩
    rw [hfin, hC]
    exact ⟨hfl, rfl, rfl⟩
/-! ### the fact -/
def T0 : Nat → Int := fun n => ([60, 60, 60, 60, 120, 60, 60, 60, 180, 120, 90, 60, 240, 180, 120, 120] : List Int).getD n 0
theorem std_fn : Fn Try.prog 80 [] .sc (tabA T0) := by
  refine fn_run mixed 0 (Γ := RunwayF.Γ) (ann := RunwayF.ann) Try.func80 rfl Try.call80 ((RunwayF.std_form _).mpr ?_)
  exact ⟨by simp, rfl⟩
theorem T0_ok : tabErr T0 = 0 := by
  refine tab_good ?_ ?_
  · have h : ∀ n, n < 16 → 30 ≤ T0 n ∧ T0 n ≤ 600 := by decide
    exact h
  · have h : ∀ i, i < 64 → T0 (4 * (i / 16) + i % 4) ≤ T0 (4 * (i / 16) + i / 4 % 4) + T0 (4 * (i / 4 % 4) + i % 4) := by decide
    exact h
theorem saf_std (l : List Mv) (s : List Sp) (h1 : movE l = 0) (h2 : spaE s = 0) : safI l s T0 = wrI l s T0 := by simp [safI, plE, h1, h2, T0_ok]
theorem rfact_fn : Fn Try.prog 14 [] .sc (.bool true) := by
  refine fn_run mixed 3 (Γ := RunwayG.Γ) (ann := RunwayG.ann) Try.func14 rfl Try.call14 ((RunwayG.fact_form _).mpr ?_)
  have h1 := insert_fn [⟨100, 1, false, 0⟩] [⟨0, 0⟩] T0 [⟨100, 1⟩] (by simp)
  have hd : dep [⟨0, 0⟩] T0 1 [⟨100, 1, false, 0⟩] (200001 - 100 : Int).toNat 100 = some 160 := dep_mono (n := 100) (by kernel_rfl) (by decide)
  rw [show insI [⟨100, 1, false, 0⟩] [⟨0, 0⟩] T0 [⟨100, 1⟩] = ([⟨100, 1, false, 0⟩, ⟨160, 1, true, 0⟩], 0) by
    unfold insI
    rw [saf_std _ _ (by kernel_rfl) (by kernel_rfl), if_neg (by rw [show wrI [⟨100, 1, false, 0⟩] [⟨0, 0⟩] T0 = (0, 0, 0) by kernel_rfl]; simp), if_neg (by simp), insD, if_neg (by simp), if_neg (by simp)]
    simp only []
    rw [hd]
    kernel_rfl] at h1
  have h2 := safe_fn [⟨100, 1, false, 0⟩, ⟨160, 1, true, 0⟩] [⟨0, 0⟩] T0
  rw [saf_std _ _ (by kernel_rfl) (by kernel_rfl), show wrI [⟨100, 1, false, 0⟩, ⟨160, 1, true, 0⟩] [⟨0, 0⟩] T0 = (0, 0, 0) by kernel_rfl] at h2
  have h3 := change_fn [⟨100, 1, false, 0⟩, ⟨160, 1, true, 0⟩] [⟨0, 0⟩] 1000
  rw [show chI [⟨100, 1, false, 0⟩, ⟨160, 1, true, 0⟩] [⟨0, 0⟩] 1000 = ([⟨0, 0⟩, ⟨1000, 1⟩], 0) by kernel_rfl] at h3
  have h4 := Dir_fn [⟨0, 0⟩, ⟨1000, 1⟩] 821
  rw [show DirI [⟨0, 0⟩, ⟨1000, 1⟩] 821 = 0 by kernel_rfl, show DirE [⟨0, 0⟩, ⟨1000, 1⟩] 821 = 14 by kernel_rfl] at h4
  have h5 := Dir_fn [⟨0, 0⟩, ⟨1000, 1⟩] 1180
  rw [show DirI [⟨0, 0⟩, ⟨1000, 1⟩] 1180 = 1 by kernel_rfl, show DirE [⟨0, 0⟩, ⟨1000, 1⟩] 1180 = 0 by kernel_rfl] at h5
  have h6 := Gap_fn T0 ⟨100, 1, false, 0⟩ ⟨160, 1, true, 0⟩
  have hge : GapE T0 ⟨100, 1, false, 0⟩ ⟨160, 1, true, 0⟩ = 0 := by
    unfold GapE; rw [if_neg (by simp [T0_ok]), if_neg (by rw [show movE [⟨100, 1, false, 0⟩] = 0 by kernel_rfl]; simp)]; kernel_rfl
  rw [show GapI T0 ⟨100, 1, false, 0⟩ ⟨160, 1, true, 0⟩ = 60 by unfold GapI; rw [if_neg (by simp [hge])]; kernel_rfl, hge] at h6
  have h7 := safe_fn [⟨100, 1, false, 0⟩, ⟨100, 1, false, 0⟩] [⟨0, 0⟩] T0
  rw [saf_std _ _ (by kernel_rfl) (by kernel_rfl), show wrI [⟨100, 1, false, 0⟩, ⟨100, 1, false, 0⟩] [⟨0, 0⟩] T0 = (0, 1, 15) by kernel_rfl] at h7
  have h8 := check_fn [⟨0, 0, false, 2⟩]
  rw [show movE [⟨0, 0, false, 2⟩] = 1 by kernel_rfl] at h8
  have h9 := (spans_fn []).nl (.cons (.nil 2) .nil)
  rw [show spaE [] = 8 by kernel_rfl] at h9
  simp only [mvT, trA, spT] at *
  refine ⟨_, std_fn, by simp [tabA, tabL], _, h1, _, h2, _, h3, _, h4, _, h5, ?_⟩
  have e0 : AV.atAgg (AV.sl 4 [[.int 100, .int 1, .bool false, .int 0]]) (.int 0) 0 4 = .agg [.int 100, .int 1, .bool false, .int 0] := rfl
  have e1 : AV.atAgg (mvs [⟨100, 1, false, 0⟩, ⟨160, 1, true, 0⟩]) (.int 1) 0 4 = .agg [.int 160, .int 1, .bool true, .int 0] := rfl
  simp [encM]
  refine ⟨_, h6, ?_⟩
  simp [e0]
  refine ⟨_, h7, ?_⟩
  simp only [e1]
  simp [AV.eqPlOk, AV.eqPl]
  refine ⟨_, h8, ?_⟩
  simp
  refine ⟨_, h9, ?_⟩
  simp
end Go.Proofs.Ytlhhdonpoglfkaa
