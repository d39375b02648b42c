/- runway's law of checks. -/
import Derived.Test.YtlhhdonpoglfkaaRunway7
import Derived.Test.YtlhhdonpoglfkaaRunwayA
namespace Go.Proofs.Ytlhhdonpoglfkaa
open Go.RowKit
set_option linter.unusedVariables false
set_option linter.unusedSimpArgs false
set_option maxRecDepth 100000
theorem rchecks_fn (l : List Mv) (s : List Sp) (T : Nat → Int) (at_ : Int) (hlm : l.length ≤ maxLen) : Fn Try.prog 3 [mvs l, sps s, tabA T, .int at_] .sc (.bool true) := by
  unfold maxLen at hlm
  refine fn_run mixed 3 (Γ := RunwayG.Γ) (ann := RunwayG.ann) Try.func3 rfl Try.call3 ((RunwayG.checks_form _ _ _ _ _).mpr ?_)
  refine ⟨by simp [tabA, tabL], _, rfact_fn, ?_⟩
  simp
  refine ⟨_, Dir_fn s at_, ?_⟩
  refine ⟨_, eerr_fn s, ?_⟩
  refine ⟨_, check_fn l, ?_⟩
  refine ⟨_, merr_fn l, ?_⟩
  simp
  refine ⟨_, spans_fn s, ?_⟩
  have hT := table_fn T
  rcases Nat.lt_or_ge l.length 2 with h2 | h2
  · have h2' : (l.length : Int) < 2 := by omega
    have h2'' : ¬ (2 ≤ (l.length : Int)) := by omega
    by_cases hs : spaE s = 0
    · by_cases ha : at_ < 0
      · simp [hs, ha, DirI, DirE, h2', h2'']
        try omega
      · by_cases hb : at_ > 200000
        · simp [hs, ha, hb, DirI, DirE, h2', h2'']
          try omega
        · have c := endat_fn s at_ hs (by omega)
          have hd1 : DirI s at_ = dirI s at_ := by unfold DirI; rw [if_neg (by simp [hs]), if_neg (by omega)]
          have hd2 : DirE s at_ = if eaR s at_ < 0 then 14 else 0 := by unfold DirE; rw [if_neg (by simp [hs]), if_neg (by omega)]
          have ha' : 0 ≤ at_ := by omega
          have hb' : at_ ≤ 200000 := by omega
          have ha2 : ¬ (at_ < 0) := ha
          have hb2 : ¬ (200000 < at_) := hb
          simp [hs, ha', hb', hd1, hd2, h2', h2'', dirI, ha2, hb2]
          refine ⟨_, c, ?_⟩
          by_cases he : eaR s at_ < 0
          · simp [he]
            try omega
          · simp [he]
            try omega
    · simp [hs, DirI, DirE, h2', h2'']
      try omega
  · obtain ⟨a, ha⟩ : ∃ a, l[0]? = some a := ⟨_, List.getElem?_eq_getElem (by omega)⟩
    obtain ⟨b, hb⟩ : ∃ b, l[l.length - 1]? = some b := ⟨_, List.getElem?_eq_getElem (by omega)⟩
    have ea : AV.atAgg (mvs l) (.int 0) 0 4 = .agg (encM a) := by
      rw [lst_atAggI (by omega) (x := a) (by simpa using ha)]; rfl
    have eb : AV.atAgg (mvs l) (.lit (.int .i64 ((l.length : Int) - 1))) 0 4 = .agg (encM b) := by
      rw [lst_atAggI (by omega) (x := b) (by rw [← hb]; congr 1; omega)]; rfl
    have hw1 : IntKind.i64.wrap ((l.length : Int) - 1) = (l.length : Int) - 1 := wrap64 (by omega) (by omega)
    have h2' : ¬ ((l.length : Int) < 2) := by omega
    have h2'' : 2 ≤ (l.length : Int) := by omega
    have hG := Gap_fn T a b
    have hA0 := merr_fn [a]
    have hB0 := merr_fn [b]
    by_cases hs : spaE s = 0
    · by_cases ha1 : at_ < 0
      · simp [hs, ha1, DirI, DirE, h2', h2'', hw1, ea, eb, encM, show ¬ (0 ≤ at_) by omega]
        refine ⟨by omega, by omega, _, hG, _, hT, ?_⟩
        by_cases hTe : tabErr T = 0
        · simp [hTe]
          refine ⟨_, hA0, ?_⟩
          by_cases hA : movE [a] = 0
          · simp [hA]
            refine ⟨_, hB0, ?_⟩
            by_cases hB : movE [b] = 0
            · have hao := (movE_ok hA).2 a (by simp)
              have hbo := (movE_ok hB).2 b (by simp)
              have hap := apart_fn T a b ⟨hao.2.2.1, hao.2.2.2.1⟩ ⟨hbo.2.2.1, hbo.2.2.2.1⟩
              simp [hB, GapE, GapI, hTe, hA]
              first | exact hap | (refine ⟨_, hap, ?_⟩; simp)
            · simp [hB, GapE, GapI, hTe, hA]
          · simp [hA, GapE, GapI, hTe]
        · simp [hTe, GapE, GapI]
      · by_cases hb1 : at_ > 200000
        · simp [hs, ha1, hb1, DirI, DirE, h2', h2'', hw1, ea, eb, encM, show 0 ≤ at_ by omega, show ¬ (at_ ≤ 200000) by omega]
          refine ⟨by omega, by omega, _, hG, _, hT, ?_⟩
          by_cases hTe : tabErr T = 0
          · simp [hTe]
            refine ⟨_, hA0, ?_⟩
            by_cases hA : movE [a] = 0
            · simp [hA]
              refine ⟨_, hB0, ?_⟩
              by_cases hB : movE [b] = 0
              · have hao := (movE_ok hA).2 a (by simp)
                have hbo := (movE_ok hB).2 b (by simp)
                have hap := apart_fn T a b ⟨hao.2.2.1, hao.2.2.2.1⟩ ⟨hbo.2.2.1, hbo.2.2.2.1⟩
                simp [hB, GapE, GapI, hTe, hA]
                first | exact hap | (refine ⟨_, hap, ?_⟩; simp)
              · simp [hB, GapE, GapI, hTe, hA]
            · simp [hA, GapE, GapI, hTe]
          · simp [hTe, GapE, GapI]
        · have c := endat_fn s at_ hs (by omega)
          have hd1 : DirI s at_ = dirI s at_ := by unfold DirI; rw [if_neg (by simp [hs]), if_neg (by omega)]
          have hd2 : DirE s at_ = if eaR s at_ < 0 then 14 else 0 := by unfold DirE; rw [if_neg (by simp [hs]), if_neg (by omega)]
          have ha' : 0 ≤ at_ := by omega
          have hb' : at_ ≤ 200000 := by omega
          have ha2 : ¬ (at_ < 0) := ha1
          have hb2 : ¬ (200000 < at_) := hb1
          simp [hs, ha', hb', hd1, hd2, h2', h2'', dirI, ha2, hb2, hw1, ea, eb, encM]
          refine ⟨_, c, ?_⟩
          by_cases he : eaR s at_ < 0
          · simp [he]
            refine ⟨by omega, by omega, by omega, _, hG, _, hT, ?_⟩
            by_cases hTe : tabErr T = 0
            · simp [hTe]
              refine ⟨_, hA0, ?_⟩
              by_cases hA : movE [a] = 0
              · simp [hA]
                refine ⟨_, hB0, ?_⟩
                by_cases hB : movE [b] = 0
                · have hao := (movE_ok hA).2 a (by simp)
                  have hbo := (movE_ok hB).2 b (by simp)
                  have hap := apart_fn T a b ⟨hao.2.2.1, hao.2.2.2.1⟩ ⟨hbo.2.2.1, hbo.2.2.2.1⟩
                  simp [hB, GapE, GapI, hTe, hA]
                  first | exact hap | (refine ⟨_, hap, ?_⟩; simp)
                · simp [hB, GapE, GapI, hTe, hA]
              · simp [hA, GapE, GapI, hTe]
            · simp [hTe, GapE, GapI]
          · simp [he]
            refine ⟨by omega, by omega, by omega, _, hG, _, hT, ?_⟩
            by_cases hTe : tabErr T = 0
            · simp [hTe]
              refine ⟨_, hA0, ?_⟩
              by_cases hA : movE [a] = 0
              · simp [hA]
                refine ⟨_, hB0, ?_⟩
                by_cases hB : movE [b] = 0
                · have hao := (movE_ok hA).2 a (by simp)
                  have hbo := (movE_ok hB).2 b (by simp)
                  have hap := apart_fn T a b ⟨hao.2.2.1, hao.2.2.2.1⟩ ⟨hbo.2.2.1, hbo.2.2.2.1⟩
                  simp [hB, GapE, GapI, hTe, hA]
                  first | exact hap | (refine ⟨_, hap, ?_⟩; simp)
                · simp [hB, GapE, GapI, hTe, hA]
              · simp [hA, GapE, GapI, hTe]
            · simp [hTe, GapE, GapI]
    · simp [hs, DirI, DirE, h2', h2'', hw1, ea, eb, encM]
      refine ⟨by omega, by omega, _, hG, _, hT, ?_⟩
      by_cases hTe : tabErr T = 0
      · simp [hTe]
        refine ⟨_, hA0, ?_⟩
        by_cases hA : movE [a] = 0
        · simp [hA]
          refine ⟨_, hB0, ?_⟩
          by_cases hB : movE [b] = 0
          · have hao := (movE_ok hA).2 a (by simp)
            have hbo := (movE_ok hB).2 b (by simp)
            have hap := apart_fn T a b ⟨hao.2.2.1, hao.2.2.2.1⟩ ⟨hbo.2.2.1, hbo.2.2.2.1⟩
            simp [hB, GapE, GapI, hTe, hA]
            first | exact hap | (refine ⟨_, hap, ?_⟩; simp)
          · simp [hB, GapE, GapI, hTe, hA]
        · simp [hA, GapE, GapI, hTe]
      · simp [hTe, GapE, GapI]
theorem runwayChecks_all (xs : List AV) (h1 : xs.length = 4) (h2 : ∀ i, i < 4 → ArgOk Try.prog ([22, 23, 26, 3].getD i 0) (xs.getD i default)) : Fn Try.prog 3 xs .sc (.bool true) := by
  obtain ⟨a, b, c, d, rfl⟩ := lst4 h1
  obtain ⟨l, e1, hl⟩ := arg_mvs (h2 0 (by omega))
  obtain ⟨s, e2, _⟩ := arg_sps (h2 1 (by omega))
  obtain ⟨T, e3⟩ := arg_tab (h2 2 (by omega))
  obtain ⟨n, e4, _⟩ := arg_int (h2 3 (by omega))
  simp at e1 e2 e3 e4
  subst e1 e2 e3 e4
  exact rchecks_fn l s T n hl
end Go.Proofs.Ytlhhdonpoglfkaa
