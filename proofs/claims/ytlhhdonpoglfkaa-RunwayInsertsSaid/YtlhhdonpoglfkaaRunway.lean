/- runway's functions. -/
import Derived.Test.YtlhhdonpoglfkaaRunwayF
import Derived.Test.YtlhhdonpoglfkaaTab
namespace Go.Proofs.Ytlhhdonpoglfkaa
open Go.RowKit
set_option linter.unusedVariables false
set_option linter.unusedSimpArgs false
set_option maxRecDepth 100000
theorem mixed : Try.prog.follows .mixedOrders = true := by kernel_rfl
/-- A movement. -/
structure Mv where
  t : Int
  w : Int
  d : Bool
  e : Int
  deriving DecidableEq
def encM (m : Mv) : List AV := [.int m.t, .int m.w, .bool m.d, .int m.e]
abbrev mvs (l : List Mv) : AV := lst 4 encM l
theorem flat_mvs (l : List Mv) : (mvs l).flatS := lst_flatS fun x _ z hz => by
  simp [encM] at hz; rcases hz with rfl | rfl | rfl | rfl <;> exact .lit _
/-- A direction from a time on. -/
structure Sp where
  f : Int
  e : Int
  deriving DecidableEq
def encP (s : Sp) : List AV := [.int s.f, .int s.e]
abbrev sps (l : List Sp) : AV := lst 2 encP l
theorem flat_sps (l : List Sp) : (sps l).flatS := lst_flatS fun x _ z hz => by
  simp [encP] at hz; rcases hz with rfl | rfl <;> exact .lit _
def clsE (n : Int) : Int := if n < 0 ∨ n > 3 then 1 else 0
theorem class_fn (n : Int) : Fn Try.prog 83 [.int n] .sc (.int (clsE n)) := by
  refine fn_run mixed 0 (Γ := RunwayF.Γ) (ann := RunwayF.ann) Try.func83 rfl Try.call83 ((RunwayF.class_form _ _).mpr ?_)
  simp
  (repeat' (first | exact trivial | (with_reducible intro hw; (try simp (disch := omega) only [wrap64] at hw); first | (exfalso; omega; done) | skip) | (with_reducible refine And.intro ?_ ?_) | omega | assumption))
  all_goals (unfold clsE; first | (rw [if_pos (by omega)]) | (rw [if_neg (by omega)]))
theorem wt_fn (t : Int) : Fn Try.prog 81 [.int t] .sc (.bool (decide (t < 0 ∨ t > 200000))) := by
  refine fn_run mixed 0 (Γ := RunwayF.Γ) (ann := RunwayF.ann) Try.func81 rfl Try.call81 ((RunwayF.wt_form _ _).mpr ?_)
  simp
  (repeat' (first | exact trivial | (with_reducible intro hw; (try simp (disch := omega) only [wrap64] at hw); first | (exfalso; omega; done) | skip) | (with_reducible refine And.intro ?_ ?_) | omega | assumption))
  all_goals (simp <;> omega)
theorem clsE_ok {n : Int} (h : 0 ≤ n ∧ n ≤ 3) : clsE n = 0 := by unfold clsE; rw [if_neg (by omega)]
theorem clsE_no {n : Int} (h : n < 0 ∨ n > 3) : clsE n = 1 := by unfold clsE; rw [if_pos h]
/-- What is wrong with movements, from those behind the time 'last' on. -/
def mvE : Int → List Mv → Int
  | _, [] => 0
  | last, m :: r => if m.t < last ∨ m.t > 200000 then 12 else if m.w < 0 ∨ m.w > 3 ∨ (m.e ≠ 0 ∧ m.e ≠ 1) then 1 else mvE m.t r
def movE (l : List Mv) : Int := if l.length > 24 then 2 else mvE 0 l
theorem merr_fn (l : List Mv) : Fn Try.prog 18 [mvs l] .sc (.int (movE l)) := by
  refine fn_run mixed 0 (Γ := RunwayF.Γ) (ann := RunwayF.ann) Try.func18 rfl Try.call18 ((RunwayF.merr_form _ _).mpr ?_)
  simp
  refine ⟨fun h => by unfold movE; rw [if_pos (by omega)], fun h => ?_⟩
  have hE : movE l = mvE 0 l := by unfold movE; rw [if_neg (by omega)]
  refine loop_list (σ := Int) l (fun n last => [.int last, .int (n : Nat)]) (fun n rest last => movE l = mvE last rest) 0 rfl hE ?_ ?_
  · rintro n x rest last K hx hr hn hg hK
    simp only [mvE] at hg
    have g12 : (x.t < last ∨ x.t > 200000) → 12 = movE l := fun q => by rw [hg, if_pos q]
    have g1 : ¬ (x.t < last ∨ x.t > 200000) → (x.w < 0 ∨ x.w > 3 ∨ (x.e ≠ 0 ∧ x.e ≠ 1)) → 1 = movE l := fun q1 q2 => by rw [hg, if_neg q1, if_pos q2]
    have gK : ¬ (x.t < last ∨ x.t > 200000) → ¬ (x.w < 0 ∨ x.w > 3 ∨ (x.e ≠ 0 ∧ x.e ≠ 1)) → K [.int x.t, .int ((n : Nat) + 1)] := fun q1 q2 => hK _ x.t (by simp) (by rw [hg, if_neg q1, if_neg q2])
    have hw2 : IntKind.i64.wrap ((n : Int) + 1) = (n : Int) + 1 := wrap64 (by omega) (by omega)
    simp [hn, lst_atAgg hx, encM, hw2]
    (repeat' (first | exact trivial | (with_reducible intro hw; (try simp (disch := omega) only [wrap64] at hw); first | (exfalso; omega; done) | skip) | (with_reducible refine And.intro ?_ ?_) | omega | assumption))
    all_goals (first | exact g12 (by omega) | exact g1 (by omega) (by omega) | exact gK (by omega) (by omega))
  · intro _ K hg
    simp [hg, mvE]
theorem mvE_last {last : Int} : ∀ {l : List Mv}, mvE last l = 0 → ∀ x ∈ l, last ≤ x.t ∧ x.t ≤ 200000 ∧ 0 ≤ x.w ∧ x.w ≤ 3 ∧ (x.e = 0 ∨ x.e = 1)
  | [], _, x, hx => by simp at hx
  | m :: l, h, x, hx => by
    rw [mvE] at h
    split at h
    · cases h
    · split at h
      · cases h
      · rcases List.mem_cons.1 hx with e | hx
        · subst e; omega
        · have := mvE_last h x hx; omega
theorem check_fn (l : List Mv) : Fn Try.prog 17 [mvs l] .sc (.int (movE l)) := by
  refine fn_run mixed 2 (Γ := RunwayF.Γ) (ann := RunwayF.ann) Try.func17 rfl Try.call17 ((RunwayF.check_form _ _).mpr ?_)
  simp
  refine ⟨fun h => by unfold movE; rw [if_pos (by omega)], fun h => ?_⟩
  have hE : movE l = mvE 0 l := by unfold movE; rw [if_neg (by omega)]
  refine loop_list (σ := Unit) l (fun n _ => [.int (n : Nat)]) (fun n rest _ => ∃ last, 0 ≤ last ∧ movE l = mvE last rest ∧ (n = 0 → last = 0) ∧ ∀ p, 0 < n → l[n - 1]? = some p → last = p.t) () rfl ⟨0, by omega, hE, fun _ => rfl, fun p hp => absurd hp (by omega)⟩ ?_ ?_
  · rintro n x rest _ K hx hr hn ⟨last, hl0, hg, hz, hp⟩ hK
    simp only [mvE] at hg
    have g12 : (x.t < last ∨ x.t > 200000) → 12 = movE l := fun q => by rw [hg, if_pos q]
    have g1 : ¬ (x.t < last ∨ x.t > 200000) → (x.w < 0 ∨ x.w > 3 ∨ (x.e ≠ 0 ∧ x.e ≠ 1)) → 1 = movE l := fun q1 q2 => by rw [hg, if_neg q1, if_pos q2]
    have gK : ¬ (x.t < last ∨ x.t > 200000) → ¬ (x.w < 0 ∨ x.w > 3 ∨ (x.e ≠ 0 ∧ x.e ≠ 1)) → K [.int ((n : Nat) + 1)] := fun q1 q2 => hK _ () (by simp) ⟨x.t, by omega, by rw [hg, if_neg q1, if_neg q2], fun q => absurd q (by omega), fun p _ hpp => by simp only [Nat.add_sub_cancel] at hpp; rw [hx] at hpp; injection hpp with hpp; rw [hpp]⟩
    have hw1 : IntKind.i64.wrap ((n : Int) - 1) = (n : Int) - 1 := wrap64 (by omega) (by omega)
    have hw2 : IntKind.i64.wrap ((n : Int) + 1) = (n : Int) + 1 := wrap64 (by omega) (by omega)
    have hcl : (0 ≤ x.w ∧ x.w ≤ 3 ∧ clsE x.w = 0) ∨ ((x.w < 0 ∨ x.w > 3) ∧ clsE x.w = 1) := by
      by_cases h : x.w < 0 ∨ x.w > 3
      · exact .inr ⟨h, clsE_no h⟩
      · exact .inl ⟨by omega, by omega, clsE_ok (by omega)⟩
    rcases Nat.eq_zero_or_pos n with hn0 | hn0
    · have := hz hn0
      simp [hn, lst_atAgg hx, encM, hw2]
      rcases hcl with ⟨c1, c2, c3⟩ | ⟨c1, c3⟩ <;> (repeat' (first | exact trivial | (with_reducible intro hw; (try simp (disch := omega) only [wrap64] at hw); first | (exfalso; omega; done) | skip) | (with_reducible refine And.intro ?_ ?_) | (refine ⟨_, wt_fn _, ?_⟩; (try simp [c3]); (try simp (disch := omega) only [wrap64])) | (refine ⟨_, class_fn _, ?_⟩; (try simp [c3]); (try simp (disch := omega) only [wrap64])) | omega | assumption)) <;> first | exact g12 (by omega) | exact g1 (by omega) (by omega) | exact gK (by omega) (by omega)
    · obtain ⟨p, hpn⟩ : ∃ p, l[n - 1]? = some p := ⟨_, List.getElem?_eq_getElem (by omega)⟩
      have := hp p hn0 hpn
      have hpv : AV.at (mvs l) (.lit (.int .i64 ((n : Int) - 1))) 0 = .int p.t := by
        rw [lst_atI (by omega) (x := p) (by rw [← hpn]; congr 1; omega)]; rfl
      simp [hn, lst_atAgg hx, encM, hw1, hw2, hpv]
      rcases hcl with ⟨c1, c2, c3⟩ | ⟨c1, c3⟩ <;> (repeat' (first | exact trivial | (with_reducible intro hw; (try simp (disch := omega) only [wrap64] at hw); first | (exfalso; omega; done) | skip) | (with_reducible refine And.intro ?_ ?_) | (refine ⟨_, wt_fn _, ?_⟩; (try simp [c3, hw1, hw2, hpv]); (try simp (disch := omega) only [wrap64])) | (refine ⟨_, class_fn _, ?_⟩; (try simp [c3, hw1, hw2, hpv]); (try simp (disch := omega) only [wrap64])) | omega | assumption)) <;> first | exact g12 (by omega) | exact g1 (by omega) (by omega) | exact gK (by omega) (by omega)
  · rintro _ K ⟨last, _, hg, _⟩
    simp [hg, mvE]
/-! ### directions -/
def spE : Option Sp → List Sp → Int
  | _, [] => 0
  | p, s :: r => if s.e ≠ 0 ∧ s.e ≠ 1 then 1 else if s.f < 0 ∨ s.f > 200000 ∨ (∃ q, p = some q ∧ s.f < q.f + 360) then 12 else if (∃ q, p = some q ∧ s.e = q.e) then 11 else spE (some s) r
instance (p : Option Sp) (a : Int) : Decidable (∃ q, p = some q ∧ a < q.f + 360) := match p with
  | none => .isFalse fun ⟨_, h, _⟩ => by cases h
  | some q => if h : a < q.f + 360 then .isTrue ⟨q, rfl, h⟩ else .isFalse fun ⟨_, e, h'⟩ => by injection e with e; subst e; exact h h'
instance (p : Option Sp) (a : Int) : Decidable (∃ q, p = some q ∧ a = q.e) := match p with
  | none => .isFalse fun ⟨_, h, _⟩ => by cases h
  | some q => if h : a = q.e then .isTrue ⟨q, rfl, h⟩ else .isFalse fun ⟨_, e, h'⟩ => by injection e with e; subst e; exact h h'
def spaE (l : List Sp) : Int := if l.length > 24 then 2 else if l.length = 0 then 8 else spE none l
end Go.Proofs.Ytlhhdonpoglfkaa
