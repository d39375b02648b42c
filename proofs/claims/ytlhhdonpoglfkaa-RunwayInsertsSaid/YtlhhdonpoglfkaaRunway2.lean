/- runway's directions. -/
import Derived.Test.YtlhhdonpoglfkaaRunway
namespace Go.Proofs.Ytlhhdonpoglfkaa
open Go.RowKit
set_option linter.unusedVariables false
set_option linter.unusedSimpArgs false
set_option maxRecDepth 100000
theorem spE_none (s : Sp) (r : List Sp) : spE none (s :: r) = if s.e ≠ 0 ∧ s.e ≠ 1 then 1 else if s.f < 0 ∨ s.f > 200000 then 12 else spE (some s) r := by
  simp [spE]
theorem spE_some (q s : Sp) (r : List Sp) : spE (some q) (s :: r) = if s.e ≠ 0 ∧ s.e ≠ 1 then 1 else if s.f < 0 ∨ s.f > 200000 ∨ s.f < q.f + 360 then 12 else if s.e = q.e then 11 else spE (some s) r := by
  simp [spE]
def SpG (l : List Sp) (n : Nat) (rest : List Sp) : Prop := ∃ p : Option Sp, spaE l = spE p rest ∧ (n = 0 → p = none) ∧ (∀ q, 0 < n → l[n - 1]? = some q → p = some q) ∧ (∀ q, p = some q → 0 ≤ q.f ∧ q.f ≤ 200000)
theorem SpG.zero {l : List Sp} (h : ¬ (l.length > 24)) (h2 : l.length ≠ 0) : SpG l 0 l := ⟨none, by unfold spaE; rw [if_neg h, if_neg h2], fun _ => rfl, fun q hq => absurd hq (by omega), fun q h => by cases h⟩
theorem SpG.next {l : List Sp} {n : Nat} {x : Sp} {rest : List Sp} (hx : l[n]? = some x) (he : spaE l = spE (some x) rest) (hb : 0 ≤ x.f ∧ x.f ≤ 200000) : SpG l (n + 1) rest :=
  ⟨some x, he, fun q => absurd q (by omega), fun q _ hq => by simp only [Nat.add_sub_cancel] at hq; rw [hx] at hq; exact hq, fun q hq => by injection hq with hq; subst hq; exact hb⟩
theorem spans_fn (l : List Sp) : Fn Try.prog 19 [sps l] .sc (.int (spaE l)) := by
  refine fn_run mixed 2 (Γ := RunwayF.Γ) (ann := RunwayF.ann) Try.func19 rfl Try.call19 ((RunwayF.spans_form _ _).mpr ?_)
  simp
  refine ⟨fun h => by unfold spaE; rw [if_pos (by omega)], fun h => ⟨fun h2 => by unfold spaE; rw [if_neg (by omega), if_pos (by simp [h2])], fun h2 => ?_⟩⟩
  refine loop_list (σ := Unit) l (fun n _ => [.int (n : Nat)]) (fun n rest _ => SpG l n rest) () rfl (.zero (by omega) (by simpa using h2)) ?_ ?_
  · rintro n x rest _ K hx hr hn ⟨p, hg, hz, hp, hb⟩ hK
    have hw1 : IntKind.i64.wrap ((n : Int) - 1) = (n : Int) - 1 := wrap64 (by omega) (by omega)
    have hw2 : IntKind.i64.wrap ((n : Int) + 1) = (n : Int) + 1 := wrap64 (by omega) (by omega)
    have gK : spaE l = spE (some x) rest → 0 ≤ x.f ∧ x.f ≤ 200000 → K [.int ((n : Nat) + 1)] := fun q b => hK _ () (by simp) (.next hx q b)
    rcases Nat.eq_zero_or_pos n with hn0 | hn0
    · rw [hz hn0, spE_none] at hg
      simp [hn, lst_atAgg hx, encP, hw2]
      (repeat' (first | exact trivial | (with_reducible intro hw; (try simp (disch := omega) only [wrap64] at hw); first | (exfalso; omega; done) | skip) | (with_reducible refine And.intro ?_ ?_) | (refine ⟨_, wt_fn _, ?_⟩; (try simp [hw2]); (try simp (disch := omega) only [wrap64])) | omega | assumption))
      all_goals (first | (rw [hg, if_pos (by omega)]) | (rw [hg, if_neg (by omega), if_pos (by omega)]) | exact gK (by rw [hg, if_neg (by omega), if_neg (by omega)]) (by omega))
    · obtain ⟨p', hpn⟩ : ∃ p, l[n - 1]? = some p := ⟨_, List.getElem?_eq_getElem (by omega)⟩
      have hpp := hp p' hn0 hpn
      have hpb := hb p' hpp
      rw [hpp, spE_some] at hg
      have hpv : AV.at (sps l) (.lit (.int .i64 ((n : Int) - 1))) 0 = .int p'.f := by
        rw [lst_atI (by omega) (x := p') (by rw [← hpn]; congr 1; omega)]; rfl
      have hpe : AV.at (sps l) (.lit (.int .i64 ((n : Int) - 1))) 1 = .int p'.e := by
        rw [lst_atI (by omega) (x := p') (by rw [← hpn]; congr 1; omega)]; rfl
      have hw3 : IntKind.i64.wrap (p'.f + 360) = p'.f + 360 := wrap64 (by omega) (by omega)
      simp [hn, lst_atAgg hx, encP, hw1, hw2, hpv, hpe, hw3]
      (repeat' (first | exact trivial | (with_reducible intro hw; (try simp (disch := omega) only [wrap64] at hw); first | (exfalso; omega; done) | skip) | (with_reducible refine And.intro ?_ ?_) | (refine ⟨_, wt_fn _, ?_⟩; (try simp [hw1, hw2, hw3, hpv, hpe]); (try simp (disch := omega) only [wrap64])) | omega | assumption))
      all_goals (first | (rw [hg, if_pos (by omega)]) | (rw [hg, if_neg (by omega), if_pos (by omega)]) | (rw [hg, if_neg (by omega), if_neg (by omega), if_pos (by omega)]) | exact gK (by rw [hg, if_neg (by omega), if_neg (by omega), if_neg (by omega)]) (by omega))
  · rintro _ K ⟨p, hg, _⟩
    simp [hg, spE]
theorem eerr_fn (l : List Sp) : Fn Try.prog 16 [sps l] .sc (.int (spaE l)) := by
  refine fn_run mixed 0 (Γ := RunwayF.Γ) (ann := RunwayF.ann) Try.func16 rfl Try.call16 ((RunwayF.eerr_form _ _).mpr ?_)
  simp
  refine ⟨fun h => by unfold spaE; rw [if_pos (by omega)], fun h => ⟨fun h2 => by unfold spaE; rw [if_neg (by omega), if_pos (by simp [h2])], fun h2 => ?_⟩⟩
  refine loop_list (σ := Unit) l (fun n _ => [.int (n : Nat)]) (fun n rest _ => SpG l n rest) () rfl (.zero (by omega) (by simpa using h2)) ?_ ?_
  · rintro n x rest _ K hx hr hn ⟨p, hg, hz, hp, hb⟩ hK
    have hw1 : IntKind.i64.wrap ((n : Int) - 1) = (n : Int) - 1 := wrap64 (by omega) (by omega)
    have hw2 : IntKind.i64.wrap ((n : Int) + 1) = (n : Int) + 1 := wrap64 (by omega) (by omega)
    have gK : spaE l = spE (some x) rest → 0 ≤ x.f ∧ x.f ≤ 200000 → K [.int ((n : Nat) + 1)] := fun q b => hK _ () (by simp) (.next hx q b)
    rcases Nat.eq_zero_or_pos n with hn0 | hn0
    · rw [hz hn0, spE_none] at hg
      simp [hn, lst_atAgg hx, encP, hw2]
      (repeat' (first | exact trivial | (with_reducible intro hw; (try simp (disch := omega) only [wrap64] at hw); first | (exfalso; omega; done) | skip) | (with_reducible refine And.intro ?_ ?_) | omega | assumption))
      all_goals (first | (rw [hg, if_pos (by omega)]) | (rw [hg, if_neg (by omega), if_pos (by omega)]) | exact gK (by rw [hg, if_neg (by omega), if_neg (by omega)]) (by omega))
    · obtain ⟨p', hpn⟩ : ∃ p, l[n - 1]? = some p := ⟨_, List.getElem?_eq_getElem (by omega)⟩
      have hpp := hp p' hn0 hpn
      have hpb := hb p' hpp
      rw [hpp, spE_some] at hg
      have hpv : AV.at (sps l) (.lit (.int .i64 ((n : Int) - 1))) 0 = .int p'.f := by
        rw [lst_atI (by omega) (x := p') (by rw [← hpn]; congr 1; omega)]; rfl
      have hpe : AV.at (sps l) (.lit (.int .i64 ((n : Int) - 1))) 1 = .int p'.e := by
        rw [lst_atI (by omega) (x := p') (by rw [← hpn]; congr 1; omega)]; rfl
      have hw3 : x.f ≥ 0 → x.f ≤ 200000 → IntKind.i64.wrap (x.f - p'.f) = x.f - p'.f := fun a b => wrap64 (by omega) (by omega)
      simp [hn, lst_atAgg hx, encP, hw1, hw2, hpv, hpe]
      (repeat' (first | exact trivial | (with_reducible intro hw; (try simp (disch := omega) only [wrap64] at hw); first | (exfalso; omega; done) | skip) | (with_reducible refine And.intro ?_ ?_) | omega | assumption))
      all_goals try rw [hw3 (by omega) (by omega)] at *
      all_goals (first | (rw [hg, if_pos (by omega)]) | (rw [hg, if_neg (by omega), if_pos (by omega)]) | (rw [hg, if_neg (by omega), if_neg (by omega), if_pos (by omega)]) | exact gK (by rw [hg, if_neg (by omega), if_neg (by omega), if_neg (by omega)]) (by omega))
  · rintro _ K ⟨p, hg, _⟩
    simp [hg, spE]
end Go.Proofs.Ytlhhdonpoglfkaa
