/- runway's law of changes. -/
import Derived.Test.YtlhhdonpoglfkaaRunway7
import Derived.Test.YtlhhdonpoglfkaaRunwayA
namespace Go.Proofs.Ytlhhdonpoglfkaa
open Go.RowKit
set_option linter.unusedVariables false
set_option linter.unusedSimpArgs false
set_option maxRecDepth 100000
theorem rchanges_fn (l : List Mv) (s : List Sp) (at_ : Int) : Fn Try.prog 6 [mvs l, sps s, .int at_] .sc (.bool true) := by
  refine fn_run mixed 3 (Γ := RunwayG.Γ) (ann := RunwayG.ann) Try.func6 rfl Try.call6 ((RunwayG.changes_form _ _ _ _).mpr ?_)
  refine ⟨by simp, _, rfact_fn, ?_⟩
  simp
  refine ⟨_, change_fn l s at_, ?_⟩
  refine ⟨_, merr_fn l, ?_⟩
  simp [spT]
  by_cases hm : movE l = 0
  · simp [hm]
    refine ⟨_, eerr_fn s, ?_⟩
    by_cases hs : spaE s = 0
    · obtain ⟨hlen, hok⟩ := movE_ok hm
      have hsl : 0 < s.length ∧ s.length ≤ 24 := by
        obtain ⟨a, r, e, h24, _⟩ := spGood.cons (l := s) hs
        refine ⟨by rw [e]; simp, h24⟩
      obtain ⟨q, hq⟩ : ∃ q, s[s.length - 1]? = some q := ⟨_, List.getElem?_eq_getElem (by omega)⟩
      have hqb : (q.e = 0 ∨ q.e = 1) ∧ 0 ≤ q.f ∧ q.f ≤ 200000 := by
        obtain ⟨a, r, e, h24, h1, h2, h3, h4⟩ := spGood.cons (l := s) hs
        have hmem : q ∈ s := List.mem_iff_getElem?.2 ⟨_, hq⟩
        rw [e] at hmem
        rcases List.mem_cons.1 hmem with e' | e'
        · subst e'; exact ⟨h1, h2, h3⟩
        · have := h4 q e'; exact ⟨this.1, this.2.1, this.2.2.1⟩
      have hlS : lastS s = q := by unfold lastS; rw [hq]; rfl
      have hw1 : IntKind.i64.wrap ((s.length : Int) - 1) = (s.length : Int) - 1 := wrap64 (by omega) (by omega)
      have hf0 : AV.at (sps s) (.lit (.int .i64 ((s.length : Int) - 1))) 0 = .int q.f := by
        rw [lst_atI (by omega) (x := q) (by rw [← hq]; congr 1; omega)]; rfl
      have hf1 : AV.at (sps s) (.lit (.int .i64 ((s.length : Int) - 1))) 1 = .int q.e := by
        rw [lst_atI (by omega) (x := q) (by rw [← hq]; congr 1; omega)]; rfl
      have hw2 : IntKind.i64.wrap (q.f + 360) = q.f + 360 := wrap64 (by omega) (by omega)
      have hw3 : IntKind.i64.wrap (1 - q.e) = 1 - q.e := wrap64 (by omega) (by omega)
      have hC : chI l s at_ = if s.length = 24 then ([], 9) else if at_ < 0 ∨ at_ > 200000 ∨ at_ < q.f + 360 then ([], 12) else if nearB l at_ = true then ([], 15) else (s ++ [⟨at_, 1 - q.e⟩], 0) := by
        unfold chI; rw [if_neg (by simp [hm]), if_neg (by simp [hs]), hlS]
      have hroom : AV.room (sps s) (AV.sl 2 [[.int at_, .int (1 - q.e)]]) 16 := by simp [AV.room]; omega
      have hfin : AV.app 2 (sps s) (AV.sl 2 [[.int at_, .int (1 - q.e)]]) = sps (s ++ [⟨at_, 1 - q.e⟩]) := by simp [lst, encP]
      have heq := eqp_fn (s ++ [⟨at_, 1 - q.e⟩]) (s ++ [⟨at_, 1 - q.e⟩]) (by simp [maxLen]; omega)
      by_cases h24 : s.length = 24
      · rw [if_pos h24] at hC
        simp [hs, hC, h24]
      rw [if_neg h24] at hC
      have h24' : ¬ ((s.length : Int) = 24) := by omega
      by_cases hat : at_ < 0 ∨ at_ > 200000 ∨ at_ < q.f + 360
      · rw [if_pos hat] at hC
        simp [hs, hC, h24', hw1, hf0, hw2]
        exact fun g1 => ⟨g1, fun g2 => ⟨by omega, g2, fun g3 => absurd hat (by omega)⟩⟩
      rw [if_neg hat] at hC
      simp [hs, h24', hw1, hf0, hf1, hw2, hw3]
      refine ⟨fun g => absurd g (by omega), fun g1 => ⟨g1, fun g => absurd g (by omega), fun g2 => ⟨by omega, g2, fun g => absurd g (by omega), fun g3 => ⟨Try.call34, Try.call87, ?_⟩⟩⟩⟩
      refine loop_list (σ := Unit) l (fun n _ => [.int (n : Nat)]) (fun n rest _ => nearB l at_ = nearB rest at_) () rfl rfl ?_ ?_
      · rintro n x rest _ K hx hr hn hg hK
        have hxo := hok x (List.mem_iff_getElem?.2 ⟨n, hx⟩)
        have hc : nearB (x :: rest) at_ = (decide (x.t + 180 > at_) || nearB rest at_) := rfl
        rw [hc] at hg
        have hw4 : IntKind.i64.wrap (x.t + 180) = x.t + 180 := wrap64 (by omega) (by omega)
        have hw5 : IntKind.i64.wrap ((n : Int) + 1) = (n : Int) + 1 := wrap64 (by omega) (by omega)
        simp [hn, lst_atAgg hx, encM, hw4, hw5]
        refine ⟨Try.call35, fun q2 => ?_, fun q2 => hK _ () (by simp) (by rw [hg, decide_eq_false (by omega)]; rfl)⟩
        rw [hC, if_pos (by rw [hg, decide_eq_true (by omega)]; rfl)]
        refine ⟨?_, ?_⟩ <;> first | exact ⟨rfl, rfl⟩ | (intro g; exact absurd g (by omega)) | rfl | simp
      · rintro _ K hg
        have hN : nearB l at_ = false := hg
        rw [if_neg (by simp [hN])] at hC
        simp [hC]
        refine ⟨_, clones_fn s (by omega), by omega, hroom, ?_⟩
        rw [hfin]
        rw [show decide (s ++ [⟨at_, 1 - q.e⟩] = s ++ [⟨at_, 1 - q.e⟩]) = true by simp] at heq
        exact heq
    · have e : chI l s at_ = ([], spaE s) := by simp [chI, hm, hs]
      simp [hs, e]
  · have e : chI l s at_ = ([], movE l) := by simp [chI, hm]
    simp [hm, e]
theorem runwayChanges_all (xs : List AV) (h1 : xs.length = 3) (h2 : ∀ i, i < 3 → ArgOk Try.prog ([22, 23, 3].getD i 0) (xs.getD i default)) : Fn Try.prog 6 xs .sc (.bool true) := by
  obtain ⟨a, b, c, rfl⟩ := lst3 h1
  obtain ⟨l, e1, _⟩ := arg_mvs (h2 0 (by omega))
  obtain ⟨s, e2, _⟩ := arg_sps (h2 1 (by omega))
  obtain ⟨n, e3, _⟩ := arg_int (h2 2 (by omega))
  simp at e1 e2 e3
  subst e1 e2 e3
  exact rchanges_fn l s n
end Go.Proofs.Ytlhhdonpoglfkaa
