/- runway's directions at a time, and gaps. -/
import Derived.Test.YtlhhdonpoglfkaaRunway2
namespace Go.Proofs.Ytlhhdonpoglfkaa
open Go.RowKit
set_option linter.unusedVariables false
set_option linter.unusedSimpArgs false
set_option maxRecDepth 100000
def eaL (t : Int) : Int → List Sp → Int
  | e, [] => e
  | e, s :: r => if t - s.f < 180 ∧ s.f - t < 180 then -1 else eaL t (if s.f ≤ t then s.e else e) r
def eaR (l : List Sp) (t : Int) : Int := match l with
  | [] => -1
  | s :: r => eaL t (if s.f ≤ t then s.e else -1) r
theorem spE_ok {p : Option Sp} : ∀ {l : List Sp}, spE p l = 0 → ∀ x ∈ l, (x.e = 0 ∨ x.e = 1) ∧ 0 ≤ x.f ∧ x.f ≤ 200000 ∧ ∀ q, p = some q → q.f + 360 ≤ x.f
  | [], _, x, hx => by simp at hx
  | s :: l, h, x, hx => by
    rw [spE] at h
    split at h
    · cases h
    · split at h
      · cases h
      · split at h
        · cases h
        · rename_i h1 h2 h3
          have hq : ∀ q, p = some q → q.f + 360 ≤ s.f := fun q e => by
            refine Int.not_lt.1 fun h' => h2 (.inr (.inr ⟨q, e, h'⟩))
          have h2' : 0 ≤ s.f ∧ s.f ≤ 200000 := by
            refine ⟨Int.not_lt.1 fun h' => h2 (.inl h'), Int.not_lt.1 fun h' => h2 (.inr (.inl h'))⟩
          rcases List.mem_cons.1 hx with e | hx
          · subst e; exact ⟨by omega, h2'.1, h2'.2, hq⟩
          · have := spE_ok h x hx
            have h5 := this.2.2.2 s rfl
            exact ⟨this.1, this.2.1, this.2.2.1, fun q e => by have := hq q e; omega⟩
/-- Good directions: one at least, with sensible values, the first being the earliest. -/
def spGood (l : List Sp) : Prop := spaE l = 0
theorem spGood.cons {l : List Sp} (h : spGood l) : ∃ s r, l = s :: r ∧ l.length ≤ 24 ∧ (s.e = 0 ∨ s.e = 1) ∧ 0 ≤ s.f ∧ s.f ≤ 200000 ∧ ∀ x ∈ r, (x.e = 0 ∨ x.e = 1) ∧ 0 ≤ x.f ∧ x.f ≤ 200000 ∧ s.f + 360 ≤ x.f := by
  unfold spGood spaE at h
  split at h
  · cases h
  · split at h
    · cases h
    · cases l with
      | nil => simp at *
      | cons s r =>
        refine ⟨s, r, rfl, by omega, ?_⟩
        have h1 := spE_ok h s (by simp)
        refine ⟨h1.1, h1.2.1, h1.2.2.1, fun x hx => ?_⟩
        rw [spE_none] at h
        split at h
        · cases h
        · split at h
          · cases h
          · have := spE_ok h x hx
            exact ⟨this.1, this.2.1, this.2.2.1, this.2.2.2 s rfl⟩
theorem eaL_none {t : Int} : ∀ {r : List Sp}, (∀ x ∈ r, t < x.f) → eaL t (-1) r = -1
  | [], _ => rfl
  | s :: r, h => by
    rw [eaL]
    split
    · rfl
    · rw [if_neg (by have := h s (by simp); omega)]
      exact eaL_none fun x hx => h x (by simp [hx])
def dirI (l : List Sp) (t : Int) : Int := if eaR l t < 0 then 0 else eaR l t
def dirB (l : List Sp) (t : Int) : Bool := decide (0 ≤ eaR l t)
theorem dirI_no {l : List Sp} {t : Int} (h : eaR l t = -1) : dirI l t = 0 ∧ dirB l t = false := by simp [dirI, dirB, h]
theorem dirI_is {l : List Sp} {t e : Int} (h : eaR l t = e) (he : 0 ≤ e) : dirI l t = e ∧ dirB l t = true := by
  subst h
  refine ⟨by unfold dirI; rw [if_neg (by omega)], by simp [dirB, he]⟩
theorem dir_fn (l : List Sp) (t : Int) (hl : spGood l) (ht : 0 ≤ t ∧ t ≤ 200000) : Fn Try.prog 82 [sps l, .int t] (.tup [.sc, .sc]) (.tup [.int (dirI l t), .bool (dirB l t)]) := by
  obtain ⟨s, r, rfl, hlen, hse, hs0, hs1, hr⟩ := hl.cons
  refine fn_run mixed 1 (Γ := RunwayF.Γ) (ann := RunwayF.ann) Try.func82 rfl Try.call82 ((RunwayF.dir_form _ _ _).mpr ?_)
  have h0 : AV.at (sps (s :: r)) (.lit (.int .i64 0)) 0 = .int s.f := by rw [lst_atI (by omega) (x := s) (by simp)]; rfl
  have h1 : AV.at (sps (s :: r)) (.lit (.int .i64 0)) 1 = .int s.e := by rw [lst_atI (by omega) (x := s) (by simp)]; rfl
  simp only [List.length_cons] at hlen
  have hsub : AV.sub 2 (sps (s :: r)) (.lit (.int .i64 1)) (AV.len (sps (s :: r))) = sps r := by
    rw [lst_len, lst_sub]; simp
  rw [h0, h1, hsub]
  simp
  refine ⟨fun h => ?_, fun h => ⟨by omega, ?_⟩⟩
  · have := dirI_no (l := s :: r) (t := t) (by rw [eaR, if_neg (by omega)]; exact eaL_none fun x hx => by have := hr x hx; omega)
    simp [this]
  · refine loop_list (σ := Int) r (fun n e => [.int e, .int (n : Nat)]) (fun n rest e => (e = 0 ∨ e = 1) ∧ eaR (s :: r) t = eaL t e rest) s.e rfl ⟨hse, by rw [eaR, if_pos (by omega)]⟩ ?_ ?_
    · rintro n x rest e K hx hrr hn ⟨he, hg⟩ hK
      have hxr := hr x (List.mem_iff_getElem?.2 ⟨n, hx⟩)
      have hw2 : IntKind.i64.wrap ((n : Int) + 1) = (n : Int) + 1 := wrap64 (by omega) (by omega)
      have hw3 : IntKind.i64.wrap (t - x.f) = t - x.f := wrap64 (by omega) (by omega)
      have hw4 : IntKind.i64.wrap (x.f - t) = x.f - t := wrap64 (by omega) (by omega)
      rw [eaL] at hg
      have gN : (t - x.f < 180 ∧ x.f - t < 180) → dirI (s :: r) t = 0 ∧ dirB (s :: r) t = false := fun q => dirI_no (by rw [hg, if_pos q])
      have gK : ¬ (t - x.f < 180 ∧ x.f - t < 180) → ∀ e', e' = (if x.f ≤ t then x.e else e) → K [.int e', .int ((n : Nat) + 1)] := fun q e' h' => hK _ e' (by simp) ⟨by rw [h']; split <;> omega, by rw [hg, if_neg q, h']⟩
      simp [hn, lst_atAgg hx, encP, hw2, hw3, hw4]
      refine ⟨fun q => ?_, fun q => ⟨fun q2 => ?_, fun q2 => ?_⟩⟩
      · have := gN (by split at q <;> omega)
        simp [this]
      · exact gK (by split at q <;> omega) _ (by rw [if_pos (by omega)])
      · exact gK (by split at q <;> omega) _ (by rw [if_neg (by omega)])
    · rintro e K ⟨he, hg⟩
      rw [eaL] at hg
      have := dirI_is hg (by omega)
      simp [this]
theorem endat_fn (l : List Sp) (t : Int) (hl : spGood l) (ht : 0 ≤ t ∧ t ≤ 200000) : Fn Try.prog 20 [sps l, .int t] .sc (.int (eaR l t)) := by
  obtain ⟨s, r, rfl, hlen, hse, hs0, hs1, hr⟩ := hl.cons
  refine fn_run mixed 0 (Γ := RunwayF.Γ) (ann := RunwayF.ann) Try.func20 rfl Try.call20 ((RunwayF.endat_form _ _ _).mpr ?_)
  simp
  simp only [List.length_cons] at hlen
  refine loop_list (σ := Int) (s :: r) (fun n e => [.int e, .int (n : Nat)]) (fun n rest e => (n = 0 → e = -1 ∧ rest = s :: r) ∧ (0 < n → eaR (s :: r) t = eaL t e rest)) (-1) rfl ⟨fun _ => ⟨rfl, rfl⟩, fun q => absurd q (by omega)⟩ ?_ ?_
  · rintro n x rest e K hx hrr hn ⟨hz, hg⟩ hK
    have hxr : 0 ≤ x.f ∧ x.f ≤ 200000 := by
      rcases List.mem_cons.1 (List.mem_iff_getElem?.2 ⟨n, hx⟩) with q | q
      · subst q; omega
      · have := hr x q; omega
    have hn' : n < (s :: r).length := by
      rcases Nat.lt_or_ge n (s :: r).length with q | q
      · exact q
      · rw [List.getElem?_eq_none q] at hx; cases hx
    simp only [List.length_cons] at hn'
    have hw2 : IntKind.i64.wrap ((n : Int) + 1) = (n : Int) + 1 := wrap64 (by omega) (by omega)
    have hw3 : IntKind.i64.wrap (t - x.f) = t - x.f := wrap64 (by omega) (by omega)
    have hw4 : IntKind.i64.wrap (x.f - t) = x.f - t := wrap64 (by omega) (by omega)
    have gN : 0 < n → (t - x.f < 180 ∧ x.f - t < 180) → eaR (s :: r) t = -1 := fun h0 q => by rw [hg h0, eaL, if_pos q]
    have gK : (0 < n → ¬ (t - x.f < 180 ∧ x.f - t < 180)) → ∀ e', e' = (if x.f ≤ t then x.e else e) → K [.int e', .int ((n : Nat) + 1)] := fun q e' h' => hK _ e' (by simp) ⟨fun h => absurd h (by omega), fun _ => by
      rcases Nat.eq_zero_or_pos n with h0 | h0
      · obtain ⟨he, hr'⟩ := hz h0
        injection hr' with h1 h2
        subst h1 h2 he
        rw [eaR, h']
      · rw [hg h0, eaL, if_neg (q h0), h']⟩
    simp [hn', lst_atAgg hx, encP, hw2, hw3, hw4]
    (repeat' (first | exact trivial | (with_reducible intro hw; (try simp (disch := omega) only [wrap64] at hw); first | (exfalso; omega; done) | skip) | (with_reducible refine And.intro ?_ ?_) | omega | assumption))
    all_goals (first | (exact (gN (by omega) (by omega)).symm) | exact gN (by omega) (by omega) | exact gK (by omega) _ (by rw [if_pos (by omega)]) | exact gK (by omega) _ (by rw [if_neg (by omega)]))
  · rintro e K ⟨_, hg⟩
    have := hg (by simp)
    simp [this, eaL]
def gpI (T : Nat → Int) (a b : Mv) : Int := if a.d ≠ b.d then 60 else T (4 * a.w + b.w).toNat
theorem tab_nth2 (T : Nat → Int) (k k' : IntKind) (a b : Int) (ha : 0 ≤ a ∧ a ≤ 3) (hb : 0 ≤ b ∧ b ≤ 3) : AV.nth (tabL T) 0 [(.lit (.int k b), 1), (.lit (.int k' a), 4)] = .int (T (4 * a + b).toNat) := by
  have h1 : a = 0 ∨ a = 1 ∨ a = 2 ∨ a = 3 := by omega
  have h2 : b = 0 ∨ b = 1 ∨ b = 2 ∨ b = 3 := by omega
  rcases h1 with rfl | rfl | rfl | rfl <;> rcases h2 with rfl | rfl | rfl | rfl <;> rfl
@[simp] theorem av_inl {n : Nat} {k : IntKind} {i : Int} : AV.inl n (.lit (.int k i)) ↔ 0 ≤ i ∧ i < n := ⟨fun h => h.2, fun h => ⟨⟨_, _, rfl⟩, h⟩⟩
theorem tab_ok {k k' : IntKind} {a b : Int} (ha : 0 ≤ a ∧ a ≤ 3) (hb : 0 ≤ b ∧ b ≤ 3) : AV.nthOk 16 0 [(.lit (.int k b), 1), (.lit (.int k' a), 4)] := by
  have h1 : a = 0 ∨ a = 1 ∨ a = 2 ∨ a = 3 := by omega
  have h2 : b = 0 ∨ b = 1 ∨ b = 2 ∨ b = 3 := by omega
  rcases h1 with rfl | rfl | rfl | rfl <;> rcases h2 with rfl | rfl | rfl | rfl <;> simp [AV.nthOk, AV.off, AV.num]
theorem gap_fn (T : Nat → Int) (a b : Mv) (ha : 0 ≤ a.w ∧ a.w ≤ 3) (hb : 0 ≤ b.w ∧ b.w ≤ 3) : Fn Try.prog 85 [tabA T, .agg (encM a), .agg (encM b)] .sc (.int (gpI T a b)) := by
  refine fn_run mixed 0 (Γ := RunwayF.Γ) (ann := RunwayF.ann) Try.func85 rfl Try.call85 ((RunwayF.gap_form _ _ _ _).mpr ?_)
  have := tab_nth2 T .i64 .i64 a.w b.w ha hb
  simp only [tabL] at this
  simp [tabA, tabL, encM, this, ha, hb]
  (repeat' (first | exact trivial | (with_reducible intro hw; (try simp (disch := omega) only [wrap64] at hw); first | (exfalso; omega; done) | skip) | (with_reducible refine And.intro ?_ ?_) | omega | assumption))
  all_goals (first | exact tab_ok ha hb | (unfold gpI; simp_all; done) | (unfold gpI; simp_all <;> omega))
theorem apart_fn (T : Nat → Int) (a b : Mv) (ha : 0 ≤ a.w ∧ a.w ≤ 3) (hb : 0 ≤ b.w ∧ b.w ≤ 3) : Fn Try.prog 23 [tabA T, .agg (encM a), .agg (encM b)] .sc (.int (gpI T a b)) := by
  refine fn_run mixed 0 (Γ := RunwayF.Γ) (ann := RunwayF.ann) Try.func23 rfl Try.call23 ((RunwayF.apart_form _ _ _ _).mpr ?_)
  have := tab_nth2 T .i64 .i64 a.w b.w ha hb
  simp only [tabL] at this
  simp [tabA, tabL, encM, this, ha, hb]
  (repeat' (first | exact trivial | (with_reducible intro hw; (try simp (disch := omega) only [wrap64] at hw); first | (exfalso; omega; done) | skip) | (with_reducible refine And.intro ?_ ?_) | omega | assumption))
  all_goals (first | exact tab_ok ha hb | (unfold gpI; simp_all; done) | (unfold gpI; simp_all <;> omega))
end Go.Proofs.Ytlhhdonpoglfkaa
