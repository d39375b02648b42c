/- tubes: quotients, points on the way, what is checked. -/
import Derived.Test.YtocgoabplafoeaaGreatDoorSec
namespace Go.Proofs.YtocgoabplafoeaaGreatDoor
open Go.RowKit
set_option linter.unusedVariables false
set_option linter.unusedSimpArgs false
set_option maxRecDepth 100000
theorem quo_of (a b : Int) (hb : 0 < b) : (¬ a.tmod b = 0 → a < 0 → a.tdiv b - 1 = a / b) ∧ (¬ (¬ a.tmod b = 0 ∧ a < 0) → a.tdiv b = a / b) := by
  have h1 := Int.tdiv_eq_ediv (a := a) (b := b)
  have h2 := Int.tmod_eq_emod (a := a) (b := b)
  have h3 : b.sign = 1 := Int.sign_eq_one_of_pos hb
  have h4 : (b ∣ a) ↔ a % b = 0 := Int.dvd_iff_emod_eq_zero
  by_cases h : 0 ≤ a ∨ b ∣ a
  · rw [if_pos h] at h1 h2
    refine ⟨fun q1 q2 => ?_, fun _ => by omega⟩
    rcases h with h | h
    · omega
    · have := h4.1 h; omega
  · rw [if_neg h, h3] at h1
    rw [if_neg h] at h2
    have h5 : ¬ 0 ≤ a := fun q => h (.inl q)
    have h6 : ¬ b ∣ a := fun q => h (.inr q)
    have h7 : ¬ a % b = 0 := fun q => h6 (h4.2 q)
    have h8 : ¬ a.tmod b = 0 := by
      have l1 := Int.emod_nonneg a (show b ≠ 0 by omega)
      have l2 := Int.emod_lt_of_pos a hb
      omega
    exact ⟨fun _ _ => by omega, fun q => absurd ⟨h8, by omega⟩ q⟩
theorem quo_bd {a b : Int} (hb : 0 < b) (h1 : -1000000000000 ≤ a) (h2 : a ≤ 1000000000000) : -1000000000000 ≤ a / b ∧ a / b ≤ 1000000000000 ∧ -1000000000000 ≤ a.tdiv b ∧ a.tdiv b ≤ 1000000000000 := by
  have e1 : a / b ≤ 1000000000000 := by
    rcases Int.lt_or_le a 0 with h | h
    · have := Int.ediv_neg_of_neg_of_pos h hb; omega
    · have := Int.ediv_le_self b h; omega
  have e2 : -1000000000000 ≤ a / b := by
    refine (Int.le_ediv_iff_mul_le hb).2 ?_
    have := Int.mul_le_mul_of_nonneg_left (show (1 : Int) ≤ b by omega) (show (0 : Int) ≤ 1000000000000 by omega)
    omega
  obtain ⟨q1, q2⟩ := quo_of a b hb
  refine ⟨e2, e1, ?_, ?_⟩
  · by_cases h : ¬ a.tmod b = 0 ∧ a < 0
    · have := q1 h.1 h.2; omega
    · have := q2 h; omega
  · have h3 := Int.tdiv_eq_ediv (a := a) (b := b)
    have h4 : b.sign = 1 := Int.sign_eq_one_of_pos hb
    rcases Int.lt_or_le a 0 with h | h
    · have := Int.ediv_neg_of_neg_of_pos h hb
      split at h3 <;> omega
    · rw [if_pos (.inl h)] at h3; omega
theorem divd_fn (a b : Int) (hb : 0 < b) (h1 : -1000000000000 ≤ a) (h2 : a ≤ 1000000000000) : Fn Tryz.prog 49 [.int a, .int b] (.tup [.sc, .sc]) (.tup [.int (a / b), .int 0]) := by
  refine fn_run mixed 3 (Γ := SecF.Γ) (ann := SecF.ann) Tryz.func49 rfl Tryz.call49 ((SecF.divd_form _ _ _).mpr ?_)
  obtain ⟨q1, q2⟩ := quo_of a b hb
  obtain ⟨b1, b2, b3, b4⟩ := quo_bd hb h1 h2
  have hw : wr (a.tdiv b) = a.tdiv b := wr_id (by omega) (by omega)
  have hw2 : wr (a.tdiv b - 1) = a.tdiv b - 1 := wr_id (by omega) (by omega)
  have hm : (a == -9223372036854775808) = false := by simp; omega
  have hb0 : (b == 0) = false := by simp; omega
  have hlt : decide (b < 0) = false := by simp; omega
  simp [hb0, hm, hw, hw2, hlt, show ¬ b = 0 by omega]
  generalize a.tmod b = m at *
  generalize a.tdiv b = q at *
  refine ⟨fun h => ⟨h, fun h2 => q1 h h2, fun h2 => q2 (by omega)⟩, fun h => ⟨h, q2 (by omega)⟩⟩
def dvu (a b : Int) : Int := if a.tmod b = 0 then a / b else a / b + 1
theorem dvu_bd {a b : Int} (hb : 0 < b) (h1 : -1000000000000 ≤ a) (h2 : a ≤ 1000000000000) : -1000000000001 ≤ dvu a b ∧ dvu a b ≤ 1000000000001 := by
  obtain ⟨b1, b2, _, _⟩ := quo_bd hb h1 h2
  unfold dvu
  split <;> omega
theorem divu_fn (a b : Int) (hb : 0 < b) (h1 : -1000000000000 ≤ a) (h2 : a ≤ 1000000000000) : Fn Tryz.prog 50 [.int a, .int b] (.tup [.sc, .sc]) (.tup [.int (dvu a b), .int 0]) := by
  refine fn_run mixed 3 (Γ := SecF.Γ) (ann := SecF.ann) Tryz.func50 rfl Tryz.call50 ((SecF.divu_form _ _ _).mpr ?_)
  refine ⟨_, divd_fn a b hb h1 h2, ?_⟩
  obtain ⟨b1, b2, _, _⟩ := quo_bd hb h1 h2
  have hw : wr (a / b + 1) = a / b + 1 := wr_id (by omega) (by omega)
  have u1 : ¬ a.tmod b = 0 → a / b + 1 = dvu a b := fun h => by unfold dvu; rw [if_neg h]
  have u2 : a.tmod b = 0 → a / b = dvu a b := fun h => by unfold dvu; rw [if_pos h]
  simp [hw, show ¬ b = 0 by omega]
  exact ⟨u1, u2⟩
theorem mulb {p n : Int} (h1 : -2000000 ≤ p) (h2 : p ≤ 2000000) (h3 : 0 ≤ n) (h4 : n ≤ 200000) : -400000000000 ≤ p * n ∧ p * n ≤ 400000000000 := by
  have e1 := Int.mul_le_mul_of_nonneg_right h2 h3
  have e2 := Int.mul_le_mul_of_nonneg_right h1 h3
  omega
/-- A point on the way lies between the ends. -/
theorem way {p n d : Int} (hd : 0 < d) (h0 : 0 ≤ n) (h1 : n ≤ d) : (0 ≤ p → 0 ≤ p * n / d ∧ p * n / d ≤ p) ∧ (p ≤ 0 → p ≤ p * n / d ∧ p * n / d ≤ 0) := by
  have hc := Int.mul_ediv_cancel p (show d ≠ 0 by omega)
  refine ⟨fun hp => ⟨Int.ediv_nonneg (Int.mul_nonneg hp h0) (by omega), ?_⟩, fun hp => ⟨?_, ?_⟩⟩
  · have := Int.ediv_le_ediv hd (Int.mul_le_mul_of_nonneg_left h1 hp)
    omega
  · have h2 : p * d ≤ p * n := Int.mul_le_mul_of_nonpos_left hp h1
    have := Int.ediv_le_ediv hd h2
    omega
  · have h2 : p * n ≤ p * 0 := Int.mul_le_mul_of_nonpos_left hp h0
    have := Int.ediv_le_ediv hd h2
    simpa using this
def towP (a b : Pt) (n d : Int) : Pt := ⟨a.x + (b.x - a.x) * n / d, a.y + (b.y - a.y) * n / d⟩
theorem tow_ok {a b : Pt} {n d : Int} (ha : pE a = 0) (hb : pE b = 0) (hd : 0 < d) (h0 : 0 ≤ n) (h1 : n ≤ d) : pE (towP a b n d) = 0 := by
  obtain ⟨a1, a2, a3, a4⟩ := pE_ok ha
  obtain ⟨b1, b2, b3, b4⟩ := pE_ok hb
  obtain ⟨x1, x2⟩ := way (p := b.x - a.x) hd h0 h1
  obtain ⟨y1, y2⟩ := way (p := b.y - a.y) hd h0 h1
  unfold pE towP
  rw [if_neg]
  simp only
  omega
theorem toward_fn (a b : Pt) (n d : Int) (ha : pE a = 0) (hb : pE b = 0) (hd : 0 < d) (hd2 : d ≤ 200000) (h0 : 0 ≤ n) (h1 : n ≤ d) : Fn Tryz.prog 48 [pt a, pt b, .int n, .int d] (.tup [.sc, .sc]) (.tup [pt (towP a b n d), .int 0]) := by
  refine fn_run mixed 3 (Γ := SecF.Γ) (ann := SecF.ann) Tryz.func48 rfl Tryz.call48 ((SecF.toward_form _ _ _ _ _).mpr ?_)
  have pa := pe_fn a
  have pb := pe_fn b
  have ht := pE_ok (tow_ok ha hb hd h0 h1)
  rw [ha] at pa
  rw [hb] at pb
  obtain ⟨a1, a2, a3, a4⟩ := pE_ok ha
  obtain ⟨b1, b2, b3, b4⟩ := pE_ok hb
  obtain ⟨ax, ay⟩ := a; obtain ⟨bx, b_⟩ := b
  simp only at a1 a2 a3 a4 b1 b2 b3 b4
  have mx := mulb (p := bx - ax) (n := n) (by omega) (by omega) h0 (by omega)
  have my := mulb (p := b_ - ay) (n := n) (by omega) (by omega) h0 (by omega)
  have w1 : wr (bx - ax) = bx - ax := wr_id (by omega) (by omega)
  have w2 : wr (b_ - ay) = b_ - ay := wr_id (by omega) (by omega)
  have w3 : wr ((bx - ax) * n) = (bx - ax) * n := wr_id (by omega) (by omega)
  have w4 : wr ((b_ - ay) * n) = (b_ - ay) * n := wr_id (by omega) (by omega)
  have d1 := divd_fn ((bx - ax) * n) d hd (by omega) (by omega)
  have d2 := divd_fn ((b_ - ay) * n) d hd (by omega) (by omega)
  have w5 : wr (ax + (bx - ax) * n / d) = ax + (bx - ax) * n / d := wr_id (by simp only [towP] at ht; omega) (by simp only [towP] at ht; omega)
  have w6 : wr (ay + (b_ - ay) * n / d) = ay + (b_ - ay) * n / d := wr_id (by simp only [towP] at ht; omega) (by simp only [towP] at ht; omega)
  refine ⟨by simp [encP], by simp [encP], ?_⟩
  simp [show ¬ d ≤ 0 by omega, show ¬ 200000 < d by omega, show ¬ n < 0 by omega, show ¬ d < n by omega]
  refine ⟨_, pa, ?_⟩
  simp
  refine ⟨_, pb, ?_⟩
  simp [encP, w1, w2, w3, w4]
  refine ⟨_, d1, _, d2, ?_⟩
  simp [w5, w6, towP]
structure Nd where
  t : Int
  x : Int
  y : Int
  h : Int
  r : Int
  b : Int
  deriving DecidableEq, Inhabited
def Nd.p (n : Nd) : Pt := ⟨n.x, n.y⟩
def encN (n : Nd) : List AV := [.int n.t, .int n.x, .int n.y, .int n.h, .int n.r, .int n.b]
abbrev nd (n : Nd) : AV := .agg (encN n)
abbrev tube (l : List Nd) : AV := lst 6 encN l
theorem flat_tube (l : List Nd) : (tube l).flatS := lst_flatS fun x _ z hz => by
  simp [encN] at hz; rcases hz with rfl | rfl | rfl | rfl | rfl | rfl <;> exact .lit _
/-- The error of a node behind one of time p. -/
def nE (p : Int) (n : Nd) : Int := if n.t < 0 ∨ n.t > 200000 ∨ n.t ≤ p then 12 else if pE n.p ≠ 0 then pE n.p else if n.h < 0 ∨ n.h > 60000 ∨ n.r < 0 ∨ n.r > 1000000 ∨ n.b < 0 ∨ n.b > 60000 then 4 else 0
theorem nE_ok {p : Int} {n : Nd} (h : nE p n = 0) : 0 ≤ n.t ∧ n.t ≤ 200000 ∧ p < n.t ∧ pE n.p = 0 ∧ 0 ≤ n.h ∧ n.h ≤ 60000 ∧ 0 ≤ n.r ∧ n.r ≤ 1000000 ∧ 0 ≤ n.b ∧ n.b ≤ 60000 := by
  unfold nE at h
  split at h
  · cases h
  · split at h
    · rename_i q; exact absurd h q
    · rename_i q
      split at h
      · cases h
      · exact ⟨by omega, by omega, by omega, by simpa using q, by omega, by omega, by omega, by omega, by omega, by omega⟩
def tG : Int → List Nd → Int
  | _, [] => 0
  | p, n :: r => if nE p n ≠ 0 then nE p n else tG n.t r
def tE (l : List Nd) : Int := if l.length > 64 then 2 else if l.length = 0 then 3 else tG (-1) l
theorem tcheck_fn (l : List Nd) : Fn Tryz.prog 18 [tube l] .sc (.int (tE l)) := by
  have e := SecF.tcheck_form (tube l) (.int (tE l))
  have k := fun h => fn_run mixed 3 (Γ := SecF.Γ) (ann := SecF.ann) Tryz.func18 rfl Tryz.call18 (e.mpr h)
  refine k ?_
  clear k e
  simp
  refine ⟨fun h => by unfold tE; rw [if_pos (by omega)], fun h64 => ⟨fun h => by unfold tE; rw [if_neg (by omega), if_pos (by simp [h])], fun h0 => ?_⟩⟩
  have hE : tE l = tG (-1) l := by
    unfold tE
    rw [if_neg (by omega), if_neg (by simpa using h0)]
  have hl64 : l.length ≤ 64 := by omega
  generalize tE l = E at hE ⊢
  refine loop_list (σ := Int) l (fun n _ => [.int (n : Nat)]) (fun n rest p => E = tG p rest ∧ ((n = 0 ∧ p = -1) ∨ ∃ y, 0 < n ∧ l[n - 1]? = some y ∧ y.t = p ∧ 0 ≤ p)) (-1) rfl ⟨hE, .inl ⟨rfl, rfl⟩⟩ ?_ ?_
  · rintro n x rest p K hx hr hn ⟨hg, hp⟩ hK
    have hw : wr ((n : Int) + 1) = (n : Int) + 1 := wr_id (by omega) (by omega)
    have hw1 : wr ((n : Int) - 1) = (n : Int) - 1 := wr_id (by omega) (by omega)
    rw [tG] at hg
    have g1 : nE p x ≠ 0 → nE p x = E := fun h => by rw [hg, if_pos h]
    have g2 : nE p x = 0 → K [.int ((n : Nat) + 1)] := fun h => hK _ x.t (by simp) ⟨by rw [hg, if_neg (by simp [h])], .inr ⟨x, by omega, by simpa using hx, rfl, (nE_ok h).1⟩⟩
    clear hg hK
    obtain ⟨xt, xx, xy, xh, xr, xb⟩ := x
    have f1 : (xt < 0 ∨ xt > 200000 ∨ xt ≤ p) → 12 = E := fun h => by
      have : nE p ⟨xt, xx, xy, xh, xr, xb⟩ = 12 := by unfold nE; rw [if_pos h]
      rw [this] at g1; exact g1 (by decide)
    have f2 : ¬ (xt < 0 ∨ xt > 200000 ∨ xt ≤ p) → pE ⟨xx, xy⟩ ≠ 0 → pE ⟨xx, xy⟩ = E := fun h h2 => by
      have : nE p ⟨xt, xx, xy, xh, xr, xb⟩ = pE ⟨xx, xy⟩ := by unfold nE; rw [if_neg h]; exact if_pos h2
      rw [this] at g1; exact g1 h2
    have f3 : ¬ (xt < 0 ∨ xt > 200000 ∨ xt ≤ p) → pE ⟨xx, xy⟩ = 0 → (xh < 0 ∨ xh > 60000 ∨ xr < 0 ∨ xr > 1000000 ∨ xb < 0 ∨ xb > 60000) → 4 = E := fun h h2 h3 => by
      have : nE p ⟨xt, xx, xy, xh, xr, xb⟩ = 4 := by unfold nE; rw [if_neg h, if_neg (by simp [Nd.p, h2]), if_pos h3]
      rw [this] at g1; exact g1 (by decide)
    have f4 : ¬ (xt < 0 ∨ xt > 200000 ∨ xt ≤ p) → pE ⟨xx, xy⟩ = 0 → ¬ (xh < 0 ∨ xh > 60000 ∨ xr < 0 ∨ xr > 1000000 ∨ xb < 0 ∨ xb > 60000) → K [.int ((n : Nat) + 1)] := fun h h2 h3 => g2 (by unfold nE; rw [if_neg h, if_neg (by simp [Nd.p, h2]), if_neg h3])
    clear g1 g2
    have hpe := pe_fn ⟨xx, xy⟩
    generalize pE ⟨xx, xy⟩ = e at *
    have tail : ¬ (xt < 0 ∨ xt > 200000 ∨ xt ≤ p) → (e = 0 → xh < 0 → 4 = E) ∧ (e = 0 → 60000 < xh → 4 = E) ∧ (e = 0 → xr < 0 → 4 = E) ∧ (e = 0 → 1000000 < xr → 4 = E) ∧ (e = 0 → xb < 0 → 4 = E) ∧ (e = 0 → 60000 < xb → 4 = E) ∧ (e = 0 → 0 ≤ xh → xh ≤ 60000 → 0 ≤ xr → xr ≤ 1000000 → 0 ≤ xb → xb ≤ 60000 → K [.int ((n : Nat) + 1)]) := fun h =>
      ⟨fun a b => f3 h a (by omega), fun a b => f3 h a (by omega), fun a b => f3 h a (by omega), fun a b => f3 h a (by omega), fun a b => f3 h a (by omega), fun a b => f3 h a (by omega), fun a b c d f g i => f4 h a (by omega)⟩
    simp [hn, lst_atAgg hx, encN, hw, hw1]
    refine ⟨fun a => ⟨a, f1 (by omega)⟩, fun a => ⟨a, fun b => ⟨b, f1 (by omega)⟩, fun b => ⟨?_, ?_⟩⟩⟩
    · intro hn0
      rcases hp with ⟨hp1, _⟩ | ⟨y, hp1, hp2, hp3, hp4⟩
      · omega
      · have hat : AV.at (tube l) (.lit (.int .i64 ((n : Int) - 1))) 0 = .int p := by
          have h1 : ((n : Int) - 1).toNat = n - 1 := by omega
          rw [lst_atI (by omega) (by rw [h1]; exact hp2)]
          simp [encN, hp3]
        have hin : (0 : Int) ≤ (n : Int) - 1 ∧ (n : Int) - 1 < l.length := ⟨by omega, by omega⟩
        simp only [hat]
        refine ⟨by omega, by simp, hn0, b, by simp, fun q => ?_, fun q => ?_⟩
        · have : xt ≤ p := by simpa using q
          exact f1 (by omega)
        have hq : p < xt := by simpa using q
        obtain ⟨t1, t2, t3, t4, t5, t6, t7⟩ := tail (by omega)
        refine ⟨_, hpe, ?_⟩
        simp
        exact ⟨fun z => f2 (by omega) z, fun z => ⟨fun a => ⟨a, t1 z a⟩, fun a1 => ⟨a1, fun a => ⟨a, t2 z a⟩, fun a2 => ⟨a2, fun a => ⟨a, t3 z a⟩, fun a3 => ⟨a3, fun a => ⟨a, t4 z a⟩, fun a4 => ⟨a4, fun a => ⟨a, t5 z a⟩, fun a5 => ⟨a5, fun a => t6 z a, fun a6 => t7 z a1 a2 a3 a4 a5 a6⟩⟩⟩⟩⟩⟩⟩
    · intro hn0
      refine ⟨hn0, b, ?_⟩
      have hp1 : p = -1 := by
        rcases hp with ⟨_, h⟩ | ⟨y, h, _⟩
        · exact h
        · omega
      obtain ⟨t1, t2, t3, t4, t5, t6, t7⟩ := tail (by omega)
      refine ⟨_, hpe, ?_⟩
      simp
      exact ⟨fun z => f2 (by omega) z, fun z => ⟨fun a => ⟨a, t1 z a⟩, fun a1 => ⟨a1, fun a => ⟨a, t2 z a⟩, fun a2 => ⟨a2, fun a => ⟨a, t3 z a⟩, fun a3 => ⟨a3, fun a => ⟨a, t4 z a⟩, fun a4 => ⟨a4, fun a => ⟨a, t5 z a⟩, fun a5 => ⟨a5, fun a => t6 z a, fun a6 => t7 z a1 a2 a3 a4 a5 a6⟩⟩⟩⟩⟩⟩⟩
  · rintro _ K ⟨hg, _⟩
    rw [tG] at hg
    simp [hg]
theorem ends_fn (l : List Nd) (a b : Nd) (h0 : l[0]? = some a) (h1 : l[l.length - 1]? = some b) (hl : l.length ≤ 1000) : Fn Tryz.prog 31 [tube l] (.tup [.sc, .sc]) (.tup [.int a.t, .int b.t]) := by
  refine fn_run mixed 3 (Γ := SecF.Γ) (ann := SecF.ann) Tryz.func31 rfl Tryz.call31 ((SecF.ends_form _ _).mpr ?_)
  have hpos : 0 < l.length := (List.getElem?_eq_some_iff.1 h0).1
  have hw1 : wr ((l.length : Int) - 1) = (l.length : Int) - 1 := wr_id (by omega) (by omega)
  have e0 : AV.at (tube l) (.lit (.int .i64 0)) 0 = .int a.t := by
    rw [lst_atI (by omega) (by simpa using h0)]; simp [encN]
  have e1 : AV.at (tube l) (.lit (.int .i64 ((l.length : Int) - 1))) 0 = .int b.t := by
    have q : ((l.length : Int) - 1).toNat = l.length - 1 := by omega
    rw [lst_atI (by omega) (by rw [q]; exact h1)]; simp [encN]
  simp [hw1, e0, e1]
  omega
end Go.Proofs.YtocgoabplafoeaaGreatDoor
