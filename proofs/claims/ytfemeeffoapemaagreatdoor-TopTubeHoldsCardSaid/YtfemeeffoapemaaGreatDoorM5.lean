/- Texts of one proof, part 5: plain values, a run over them, contracts of functions. -/
import Derived.Test.YtfemeeffoapemaaGreatDoorM4
/- planes and segments. -/
namespace Go.Proofs.YtfemeeffoapemaaGreatDoor
open Go.RowKit
set_option linter.unusedVariables false
set_option linter.unusedSimpArgs false
set_option maxRecDepth 100000
structure Pt where
  x : Int
  y : Int
  deriving DecidableEq, Inhabited
def encP (p : Pt) : List AV := [.int p.x, .int p.y]
abbrev pt (p : Pt) : AV := .agg (encP p)
abbrev pts (l : List Pt) : AV := lst 2 encP l
def wr (n : Int) : Int := IntKind.i64.wrap n
@[simp] theorem wr_eq (n : Int) : IntKind.i64.wrap n = wr n := rfl
theorem wr_id {n : Int} (h1 : -9223372036854775808 ≤ n) (h2 : n ≤ 9223372036854775807) : wr n = n := wrap64 h1 h2
def subP (a b : Pt) : Pt := ⟨wr (a.x - b.x), wr (a.y - b.y)⟩
def dotP (a b : Pt) : Int := wr (wr (a.x * b.x) + wr (a.y * b.y))
def crossP (a b : Pt) : Int := wr (wr (a.x * b.y) - wr (a.y * b.x))
def turnP (a b c : Pt) : Int := if 0 < crossP (subP b a) (subP c a) then 1 else if crossP (subP b a) (subP c a) < 0 then -1 else 0
def sqrP (a b : Pt) : Int := dotP (subP a b) (subP a b)
def pE (p : Pt) : Int := if p.x < -1000000 ∨ p.x > 1000000 ∨ p.y < -1000000 ∨ p.y > 1000000 then 4 else 0
theorem pE_ok {p : Pt} (h : pE p = 0) : -1000000 ≤ p.x ∧ p.x ≤ 1000000 ∧ -1000000 ≤ p.y ∧ p.y ≤ 1000000 := by
  unfold pE at h
  split at h
  · cases h
  · omega
theorem pe_fn (p : Pt) : Fn Tryz.prog 16 [pt p] .sc (.int (pE p)) := by
  refine fn_run mixed 3 (Γ := SecF.Γ) (ann := SecF.ann) Tryz.func16 rfl Tryz.call16 ((SecF.pcheck_form _ _).mpr ?_)
  obtain ⟨x, y⟩ := p
  simp [encP]
  have h4 : (x < -1000000 ∨ x > 1000000 ∨ y < -1000000 ∨ y > 1000000) → 4 = pE ⟨x, y⟩ := fun h => by unfold pE; rw [if_pos h]
  have h0 : ¬ (x < -1000000 ∨ x > 1000000 ∨ y < -1000000 ∨ y > 1000000) → 0 = pE ⟨x, y⟩ := fun h => by unfold pE; rw [if_neg h]
  refine ⟨fun a => ⟨a, h4 (by omega)⟩, fun a => ⟨a, fun b => ⟨b, h4 (by omega)⟩, fun b => ⟨b, fun c => ⟨c, h4 (by omega)⟩, fun c => ⟨c, fun d => h4 (by omega), fun d => h0 (by omega)⟩⟩⟩⟩
theorem sub_fn (a b : Pt) : Fn Tryz.prog 42 [pt a, pt b] .sc (pt (subP a b)) := by
  refine fn_run mixed 3 (Γ := SecF.Γ) (ann := SecF.ann) Tryz.func42 rfl Tryz.call42 ((SecF.sub_form _ _ _).mpr ?_)
  simp [encP, subP]
theorem dot_fn (a b : Pt) : Fn Tryz.prog 43 [pt a, pt b] .sc (.int (dotP a b)) := by
  refine fn_run mixed 3 (Γ := SecF.Γ) (ann := SecF.ann) Tryz.func43 rfl Tryz.call43 ((SecF.dot_form _ _ _).mpr ?_)
  simp [encP, dotP]
theorem sqr_fn (a b : Pt) : Fn Tryz.prog 25 [pt a, pt b] .sc (.int (sqrP a b)) := by
  refine fn_run mixed 3 (Γ := SecF.Γ) (ann := SecF.ann) Tryz.func25 rfl Tryz.call25 ((SecF.square_form _ _ _).mpr ?_)
  refine ⟨by simp [encP], by simp [encP], _, sub_fn a b, by simp [encP], _, dot_fn _ _, ?_⟩
  simp [sqrP]
def nextP (l : List Pt) (i : Nat) : Pt := l.getD ((i + 1) % l.length) default
def mnI (a b : Int) : Int := if b < a then b else a
def mxI (a b : Int) : Int := if a < b then b else a
def betw (a b c : Pt) : Bool := decide (mnI a.x b.x ≤ c.x) && decide (c.x ≤ mxI a.x b.x) && decide (mnI a.y b.y ≤ c.y) && decide (c.y ≤ mxI a.y b.y)
def onS (a b c : Pt) : Bool := decide (turnP a b c = 0) && betw a b c
def crs (a b c d : Pt) : Bool := decide (wr (turnP a b c * turnP a b d) < 0) && decide (wr (turnP c d a * turnP c d b) < 0)
def comS (a b c d : Pt) : Bool := crs a b c d || onS a b c || onS a b d || onS c d a || onS c d b
end Go.Proofs.YtfemeeffoapemaaGreatDoor
/- tubes: quotients, points on the way, what is checked. -/
namespace Go.Proofs.YtfemeeffoapemaaGreatDoor
open Go.RowKit
set_option linter.unusedVariables false
set_option linter.unusedSimpArgs false
set_option maxRecDepth 100000
theorem quo_of (a b : Int) (hb : 0 < b) : (¬ a.tmod b = 0 → a < 0 → a.tdiv b - 1 = a / b) ∧ (¬ (¬ a.tmod b = 0 ∧ a < 0) → a.tdiv b = a / b) := by
  have h1 := Int.tdiv_eq_ediv (a := a) (b := b)
  have h2 := Int.tmod_eq_emod (a := a) (b := b)
  have h3 : b.sign = 1 := Int.sign_eq_one_of_pos hb
  have h4 : (b ∣ a) ↔ a % b = 0 := Int.dvd_iff_emod_eq_zero
  by_cases h : 0 ≤ a ∨ b ∣ a
  · rw [if_pos h] at h1 h2
    refine ⟨fun q1 q2 => ?_, fun _ => by omega⟩
    rcases h with h | h
    · omega
    · have := h4.1 h; omega
  · rw [if_neg h, h3] at h1
    rw [if_neg h] at h2
    have h5 : ¬ 0 ≤ a := fun q => h (.inl q)
    have h6 : ¬ b ∣ a := fun q => h (.inr q)
    have h7 : ¬ a % b = 0 := fun q => h6 (h4.2 q)
    have h8 : ¬ a.tmod b = 0 := by
      have l1 := Int.emod_nonneg a (show b ≠ 0 by omega)
      have l2 := Int.emod_lt_of_pos a hb
      omega
    exact ⟨fun _ _ => by omega, fun q => absurd ⟨h8, by omega⟩ q⟩
theorem quo_bd {a b : Int} (hb : 0 < b) (h1 : -1000000000000 ≤ a) (h2 : a ≤ 1000000000000) : -1000000000000 ≤ a / b ∧ a / b ≤ 1000000000000 ∧ -1000000000000 ≤ a.tdiv b ∧ a.tdiv b ≤ 1000000000000 := by
  have e1 : a / b ≤ 1000000000000 := by
    rcases Int.lt_or_le a 0 with h | h
    · have := Int.ediv_neg_of_neg_of_pos h hb; omega
    · have := Int.ediv_le_self b h; omega
  have e2 : -1000000000000 ≤ a / b := by
    refine (Int.le_ediv_iff_mul_le hb).2 ?_
    have := Int.mul_le_mul_of_nonneg_left (show (1 : Int) ≤ b by omega) (show (0 : Int) ≤ 1000000000000 by omega)
    omega
  obtain ⟨q1, q2⟩ := quo_of a b hb
  refine ⟨e2, e1, ?_, ?_⟩
  · by_cases h : ¬ a.tmod b = 0 ∧ a < 0
    · have := q1 h.1 h.2; omega
    · have := q2 h; omega
  · have h3 := Int.tdiv_eq_ediv (a := a) (b := b)
    have h4 : b.sign = 1 := Int.sign_eq_one_of_pos hb
    rcases Int.lt_or_le a 0 with h | h
    · have := Int.ediv_neg_of_neg_of_pos h hb
      split at h3 <;> omega
    · rw [if_pos (.inl h)] at h3; omega
theorem divd_fn (a b : Int) (hb : 0 < b) (h1 : -1000000000000 ≤ a) (h2 : a ≤ 1000000000000) : Fn Tryz.prog 23 [.int a, .int b] (.tup [.sc, .sc]) (.tup [.int (a / b), .int 0]) := by
  refine fn_run mixed 3 (Γ := SecF.Γ) (ann := SecF.ann) Tryz.func23 rfl Tryz.call23 ((SecF.divd_form _ _ _).mpr ?_)
  obtain ⟨q1, q2⟩ := quo_of a b hb
  obtain ⟨b1, b2, b3, b4⟩ := quo_bd hb h1 h2
  have hw : wr (a.tdiv b) = a.tdiv b := wr_id (by omega) (by omega)
  have hw2 : wr (a.tdiv b - 1) = a.tdiv b - 1 := wr_id (by omega) (by omega)
  have hm : (a == -9223372036854775808) = false := by simp; omega
  have hb0 : (b == 0) = false := by simp; omega
  have hlt : decide (b < 0) = false := by simp; omega
  simp [hb0, hm, hw, hw2, hlt, show ¬ b = 0 by omega]
  generalize a.tmod b = m at *
  generalize a.tdiv b = q at *
  refine ⟨fun h => ⟨h, fun h2 => q1 h h2, fun h2 => q2 (by omega)⟩, fun h => ⟨h, q2 (by omega)⟩⟩
def dvu (a b : Int) : Int := if a.tmod b = 0 then a / b else a / b + 1
theorem dvu_bd {a b : Int} (hb : 0 < b) (h1 : -1000000000000 ≤ a) (h2 : a ≤ 1000000000000) : -1000000000001 ≤ dvu a b ∧ dvu a b ≤ 1000000000001 := by
  obtain ⟨b1, b2, _, _⟩ := quo_bd hb h1 h2
  unfold dvu
  split <;> omega
theorem divu_fn (a b : Int) (hb : 0 < b) (h1 : -1000000000000 ≤ a) (h2 : a ≤ 1000000000000) : Fn Tryz.prog 14 [.int a, .int b] (.tup [.sc, .sc]) (.tup [.int (dvu a b), .int 0]) := by
  refine fn_run mixed 3 (Γ := SecF.Γ) (ann := SecF.ann) Tryz.func14 rfl Tryz.call14 ((SecF.divu_form _ _ _).mpr ?_)
  refine ⟨_, divd_fn a b hb h1 h2, ?_⟩
  obtain ⟨b1, b2, _, _⟩ := quo_bd hb h1 h2
  have hw : wr (a / b + 1) = a / b + 1 := wr_id (by omega) (by omega)
  have u1 : ¬ a.tmod b = 0 → a / b + 1 = dvu a b := fun h => by unfold dvu; rw [if_neg h]
  have u2 : a.tmod b = 0 → a / b = dvu a b := fun h => by unfold dvu; rw [if_pos h]
  simp [hw, show ¬ b = 0 by omega]
  exact ⟨u1, u2⟩
theorem mulb {p n : Int} (h1 : -2000000 ≤ p) (h2 : p ≤ 2000000) (h3 : 0 ≤ n) (h4 : n ≤ 200000) : -400000000000 ≤ p * n ∧ p * n ≤ 400000000000 := by
  have e1 := Int.mul_le_mul_of_nonneg_right h2 h3
  have e2 := Int.mul_le_mul_of_nonneg_right h1 h3
  omega
/-- A point on the way lies between the ends. -/
theorem way {p n d : Int} (hd : 0 < d) (h0 : 0 ≤ n) (h1 : n ≤ d) : (0 ≤ p → 0 ≤ p * n / d ∧ p * n / d ≤ p) ∧ (p ≤ 0 → p ≤ p * n / d ∧ p * n / d ≤ 0) := by
  have hc := Int.mul_ediv_cancel p (show d ≠ 0 by omega)
  refine ⟨fun hp => ⟨Int.ediv_nonneg (Int.mul_nonneg hp h0) (by omega), ?_⟩, fun hp => ⟨?_, ?_⟩⟩
  · have := Int.ediv_le_ediv hd (Int.mul_le_mul_of_nonneg_left h1 hp)
    omega
  · have h2 : p * d ≤ p * n := Int.mul_le_mul_of_nonpos_left hp h1
    have := Int.ediv_le_ediv hd h2
    omega
  · have h2 : p * n ≤ p * 0 := Int.mul_le_mul_of_nonpos_left hp h0
    have := Int.ediv_le_ediv hd h2
    simpa using this
def towP (a b : Pt) (n d : Int) : Pt := ⟨a.x + (b.x - a.x) * n / d, a.y + (b.y - a.y) * n / d⟩
theorem tow_ok {a b : Pt} {n d : Int} (ha : pE a = 0) (hb : pE b = 0) (hd : 0 < d) (h0 : 0 ≤ n) (h1 : n ≤ d) : pE (towP a b n d) = 0 := by
  obtain ⟨a1, a2, a3, a4⟩ := pE_ok ha
  obtain ⟨b1, b2, b3, b4⟩ := pE_ok hb
  obtain ⟨x1, x2⟩ := way (p := b.x - a.x) hd h0 h1
  obtain ⟨y1, y2⟩ := way (p := b.y - a.y) hd h0 h1
  unfold pE towP
  rw [if_neg]
  simp only
  omega
theorem toward_fn (a b : Pt) (n d : Int) (ha : pE a = 0) (hb : pE b = 0) (hd : 0 < d) (hd2 : d ≤ 200000) (h0 : 0 ≤ n) (h1 : n ≤ d) : Fn Tryz.prog 24 [pt a, pt b, .int n, .int d] (.tup [.sc, .sc]) (.tup [pt (towP a b n d), .int 0]) := by
  refine fn_run mixed 3 (Γ := SecF.Γ) (ann := SecF.ann) Tryz.func24 rfl Tryz.call24 ((SecF.toward_form _ _ _ _ _).mpr ?_)
  have pa := pe_fn a
  have pb := pe_fn b
  have ht := pE_ok (tow_ok ha hb hd h0 h1)
  rw [ha] at pa
  rw [hb] at pb
  obtain ⟨a1, a2, a3, a4⟩ := pE_ok ha
  obtain ⟨b1, b2, b3, b4⟩ := pE_ok hb
  obtain ⟨ax, ay⟩ := a; obtain ⟨bx, b_⟩ := b
  simp only at a1 a2 a3 a4 b1 b2 b3 b4
  have mx := mulb (p := bx - ax) (n := n) (by omega) (by omega) h0 (by omega)
  have my := mulb (p := b_ - ay) (n := n) (by omega) (by omega) h0 (by omega)
  have w1 : wr (bx - ax) = bx - ax := wr_id (by omega) (by omega)
  have w2 : wr (b_ - ay) = b_ - ay := wr_id (by omega) (by omega)
  have w3 : wr ((bx - ax) * n) = (bx - ax) * n := wr_id (by omega) (by omega)
  have w4 : wr ((b_ - ay) * n) = (b_ - ay) * n := wr_id (by omega) (by omega)
  have d1 := divd_fn ((bx - ax) * n) d hd (by omega) (by omega)
  have d2 := divd_fn ((b_ - ay) * n) d hd (by omega) (by omega)
  have w5 : wr (ax + (bx - ax) * n / d) = ax + (bx - ax) * n / d := wr_id (by simp only [towP] at ht; omega) (by simp only [towP] at ht; omega)
  have w6 : wr (ay + (b_ - ay) * n / d) = ay + (b_ - ay) * n / d := wr_id (by simp only [towP] at ht; omega) (by simp only [towP] at ht; omega)
  refine ⟨by simp [encP], by simp [encP], ?_⟩
  simp [show ¬ d ≤ 0 by omega, show ¬ 200000 < d by omega, show ¬ n < 0 by omega, show ¬ d < n by omega]
  refine ⟨_, pa, ?_⟩
  simp
  refine ⟨_, pb, ?_⟩
  simp [encP, w1, w2, w3, w4]
  refine ⟨_, d1, _, d2, ?_⟩
  simp [w5, w6, towP]
structure Nd where
  t : Int
  x : Int
  y : Int
  h : Int
  r : Int
  b : Int
  deriving DecidableEq, Inhabited
def Nd.p (n : Nd) : Pt := ⟨n.x, n.y⟩
def encN (n : Nd) : List AV := [.int n.t, .int n.x, .int n.y, .int n.h, .int n.r, .int n.b]
abbrev nd (n : Nd) : AV := .agg (encN n)
abbrev tube (l : List Nd) : AV := lst 6 encN l
theorem flat_tube (l : List Nd) : (tube l).flatS := lst_flatS fun x _ z hz => by
  simp [encN] at hz; rcases hz with rfl | rfl | rfl | rfl | rfl | rfl <;> exact .lit _
/-- The error of a node behind one of time p. -/
def nE (p : Int) (n : Nd) : Int := if n.t < 0 ∨ n.t > 200000 ∨ n.t ≤ p then 12 else if pE n.p ≠ 0 then pE n.p else if n.h < 0 ∨ n.h > 60000 ∨ n.r < 0 ∨ n.r > 1000000 ∨ n.b < 0 ∨ n.b > 60000 then 4 else 0
theorem nE_ok {p : Int} {n : Nd} (h : nE p n = 0) : 0 ≤ n.t ∧ n.t ≤ 200000 ∧ p < n.t ∧ pE n.p = 0 ∧ 0 ≤ n.h ∧ n.h ≤ 60000 ∧ 0 ≤ n.r ∧ n.r ≤ 1000000 ∧ 0 ≤ n.b ∧ n.b ≤ 60000 := by
  unfold nE at h
  split at h
  · cases h
  · split at h
    · rename_i q; exact absurd h q
    · rename_i q
      split at h
      · cases h
      · exact ⟨by omega, by omega, by omega, by simpa using q, by omega, by omega, by omega, by omega, by omega, by omega⟩
def tG : Int → List Nd → Int
  | _, [] => 0
  | p, n :: r => if nE p n ≠ 0 then nE p n else tG n.t r
def tE (l : List Nd) : Int := if l.length > 64 then 2 else if l.length = 0 then 3 else tG (-1) l
theorem tcheck_fn (l : List Nd) : Fn Tryz.prog 20 [tube l] .sc (.int (tE l)) := by
  have e := SecF.tcheck_form (tube l) (.int (tE l))
  have k := fun h => fn_run mixed 3 (Γ := SecF.Γ) (ann := SecF.ann) Tryz.func20 rfl Tryz.call20 (e.mpr h)
  refine k ?_
  clear k e
  simp
  refine ⟨fun h => by unfold tE; rw [if_pos (by omega)], fun h64 => ⟨fun h => by unfold tE; rw [if_neg (by omega), if_pos (by simp [h])], fun h0 => ?_⟩⟩
  have hE : tE l = tG (-1) l := by
    unfold tE
    rw [if_neg (by omega), if_neg (by simpa using h0)]
  have hl64 : l.length ≤ 64 := by omega
  generalize tE l = E at hE ⊢
  refine loop_list (σ := Int) l (fun n _ => [.int (n : Nat)]) (fun n rest p => E = tG p rest ∧ ((n = 0 ∧ p = -1) ∨ ∃ y, 0 < n ∧ l[n - 1]? = some y ∧ y.t = p ∧ 0 ≤ p)) (-1) rfl ⟨hE, .inl ⟨rfl, rfl⟩⟩ ?_ ?_
  · rintro n x rest p K hx hr hn ⟨hg, hp⟩ hK
    have hw : wr ((n : Int) + 1) = (n : Int) + 1 := wr_id (by omega) (by omega)
    have hw1 : wr ((n : Int) - 1) = (n : Int) - 1 := wr_id (by omega) (by omega)
    rw [tG] at hg
    have g1 : nE p x ≠ 0 → nE p x = E := fun h => by rw [hg, if_pos h]
    have g2 : nE p x = 0 → K [.int ((n : Nat) + 1)] := fun h => hK _ x.t (by simp) ⟨by rw [hg, if_neg (by simp [h])], .inr ⟨x, by omega, by simpa using hx, rfl, (nE_ok h).1⟩⟩
    clear hg hK
    obtain ⟨xt, xx, xy, xh, xr, xb⟩ := x
    have f1 : (xt < 0 ∨ xt > 200000 ∨ xt ≤ p) → 12 = E := fun h => by
      have : nE p ⟨xt, xx, xy, xh, xr, xb⟩ = 12 := by unfold nE; rw [if_pos h]
      rw [this] at g1; exact g1 (by decide)
    have f2 : ¬ (xt < 0 ∨ xt > 200000 ∨ xt ≤ p) → pE ⟨xx, xy⟩ ≠ 0 → pE ⟨xx, xy⟩ = E := fun h h2 => by
      have : nE p ⟨xt, xx, xy, xh, xr, xb⟩ = pE ⟨xx, xy⟩ := by unfold nE; rw [if_neg h]; exact if_pos h2
      rw [this] at g1; exact g1 h2
    have f3 : ¬ (xt < 0 ∨ xt > 200000 ∨ xt ≤ p) → pE ⟨xx, xy⟩ = 0 → (xh < 0 ∨ xh > 60000 ∨ xr < 0 ∨ xr > 1000000 ∨ xb < 0 ∨ xb > 60000) → 4 = E := fun h h2 h3 => by
      have : nE p ⟨xt, xx, xy, xh, xr, xb⟩ = 4 := by unfold nE; rw [if_neg h, if_neg (by simp [Nd.p, h2]), if_pos h3]
      rw [this] at g1; exact g1 (by decide)
    have f4 : ¬ (xt < 0 ∨ xt > 200000 ∨ xt ≤ p) → pE ⟨xx, xy⟩ = 0 → ¬ (xh < 0 ∨ xh > 60000 ∨ xr < 0 ∨ xr > 1000000 ∨ xb < 0 ∨ xb > 60000) → K [.int ((n : Nat) + 1)] := fun h h2 h3 => g2 (by unfold nE; rw [if_neg h, if_neg (by simp [Nd.p, h2]), if_neg h3])
    clear g1 g2
    have hpe := pe_fn ⟨xx, xy⟩
    generalize pE ⟨xx, xy⟩ = e at *
    have tail : ¬ (xt < 0 ∨ xt > 200000 ∨ xt ≤ p) → (e = 0 → xh < 0 → 4 = E) ∧ (e = 0 → 60000 < xh → 4 = E) ∧ (e = 0 → xr < 0 → 4 = E) ∧ (e = 0 → 1000000 < xr → 4 = E) ∧ (e = 0 → xb < 0 → 4 = E) ∧ (e = 0 → 60000 < xb → 4 = E) ∧ (e = 0 → 0 ≤ xh → xh ≤ 60000 → 0 ≤ xr → xr ≤ 1000000 → 0 ≤ xb → xb ≤ 60000 → K [.int ((n : Nat) + 1)]) := fun h =>
      ⟨fun a b => f3 h a (by omega), fun a b => f3 h a (by omega), fun a b => f3 h a (by omega), fun a b => f3 h a (by omega), fun a b => f3 h a (by omega), fun a b => f3 h a (by omega), fun a b c d f g i => f4 h a (by omega)⟩
    simp [hn, lst_atAgg hx, encN, hw, hw1]
    refine ⟨fun a => ⟨a, f1 (by omega)⟩, fun a => ⟨a, fun b => ⟨b, f1 (by omega)⟩, fun b => ⟨?_, ?_⟩⟩⟩
    · intro hn0
      rcases hp with ⟨hp1, _⟩ | ⟨y, hp1, hp2, hp3, hp4⟩
      · omega
      · have hat : AV.at (tube l) (.lit (.int .i64 ((n : Int) - 1))) 0 = .int p := by
          have h1 : ((n : Int) - 1).toNat = n - 1 := by omega
          rw [lst_atI (by omega) (by rw [h1]; exact hp2)]
          simp [encN, hp3]
        have hin : (0 : Int) ≤ (n : Int) - 1 ∧ (n : Int) - 1 < l.length := ⟨by omega, by omega⟩
        simp only [hat]
        refine ⟨by omega, by simp, hn0, b, by simp, fun q => ?_, fun q => ?_⟩
        · have : xt ≤ p := by simpa using q
          exact f1 (by omega)
        have hq : p < xt := by simpa using q
        obtain ⟨t1, t2, t3, t4, t5, t6, t7⟩ := tail (by omega)
        refine ⟨_, hpe, ?_⟩
        simp
        exact ⟨fun z => f2 (by omega) z, fun z => ⟨fun a => ⟨a, t1 z a⟩, fun a1 => ⟨a1, fun a => ⟨a, t2 z a⟩, fun a2 => ⟨a2, fun a => ⟨a, t3 z a⟩, fun a3 => ⟨a3, fun a => ⟨a, t4 z a⟩, fun a4 => ⟨a4, fun a => ⟨a, t5 z a⟩, fun a5 => ⟨a5, fun a => t6 z a, fun a6 => t7 z a1 a2 a3 a4 a5 a6⟩⟩⟩⟩⟩⟩⟩
    · intro hn0
      refine ⟨hn0, b, ?_⟩
      have hp1 : p = -1 := by
        rcases hp with ⟨_, h⟩ | ⟨y, h, _⟩
        · exact h
        · omega
      obtain ⟨t1, t2, t3, t4, t5, t6, t7⟩ := tail (by omega)
      refine ⟨_, hpe, ?_⟩
      simp
      exact ⟨fun z => f2 (by omega) z, fun z => ⟨fun a => ⟨a, t1 z a⟩, fun a1 => ⟨a1, fun a => ⟨a, t2 z a⟩, fun a2 => ⟨a2, fun a => ⟨a, t3 z a⟩, fun a3 => ⟨a3, fun a => ⟨a, t4 z a⟩, fun a4 => ⟨a4, fun a => ⟨a, t5 z a⟩, fun a5 => ⟨a5, fun a => t6 z a, fun a6 => t7 z a1 a2 a3 a4 a5 a6⟩⟩⟩⟩⟩⟩⟩
  · rintro _ K ⟨hg, _⟩
    rw [tG] at hg
    simp [hg]
theorem ends_fn (l : List Nd) (a b : Nd) (h0 : l[0]? = some a) (h1 : l[l.length - 1]? = some b) (hl : l.length ≤ 1000) : Fn Tryz.prog 21 [tube l] (.tup [.sc, .sc]) (.tup [.int a.t, .int b.t]) := by
  refine fn_run mixed 3 (Γ := SecF.Γ) (ann := SecF.ann) Tryz.func21 rfl Tryz.call21 ((SecF.ends_form _ _).mpr ?_)
  have hpos : 0 < l.length := (List.getElem?_eq_some_iff.1 h0).1
  have hw1 : wr ((l.length : Int) - 1) = (l.length : Int) - 1 := wr_id (by omega) (by omega)
  have e0 : AV.at (tube l) (.lit (.int .i64 0)) 0 = .int a.t := by
    rw [lst_atI (by omega) (by simpa using h0)]; simp [encN]
  have e1 : AV.at (tube l) (.lit (.int .i64 ((l.length : Int) - 1))) 0 = .int b.t := by
    have q : ((l.length : Int) - 1).toNat = l.length - 1 := by omega
    rw [lst_atI (by omega) (by rw [q]; exact h1)]; simp [encN]
  simp [hw1, e0, e1]
  omega
end Go.Proofs.YtfemeeffoapemaaGreatDoor
/- tubes: the node at a time. -/
namespace Go.Proofs.YtfemeeffoapemaaGreatDoor
open Go.RowKit
set_option linter.unusedVariables false
set_option linter.unusedSimpArgs false
set_option maxRecDepth 100000
/-- The nodes ahead of a time. -/
def ixF (t : Int) : List Nd → Nat
  | [] => 0
  | n :: r => if n.t < t then ixF t r + 1 else 0
theorem ixF_is {t : Int} : ∀ {l : List Nd} {k : Nat}, k ≤ l.length → (∀ j x, j < k → l[j]? = some x → x.t < t) → (∀ x, l[k]? = some x → ¬ x.t < t) → ixF t l = k
  | [], k, h, _, _ => by simp at h; simp [ixF, h]
  | n :: r, k, h, h1, h2 => by
    rw [ixF]
    cases k with
    | zero => rw [if_neg (h2 n rfl)]
    | succ k =>
      rw [if_pos (h1 0 n (by omega) rfl), ixF_is (k := k) (by simpa using h) (fun j x hj hx => h1 (j + 1) x (by omega) (by simpa using hx)) (fun x hx => h2 x (by simpa using hx))]
theorem ixF_le (t : Int) : ∀ l : List Nd, ixF t l ≤ l.length
  | [] => Nat.le_refl _
  | n :: r => by
    rw [ixF]
    have := ixF_le t r
    split <;> simp <;> omega
theorem ixF_lt {t : Int} : ∀ {l : List Nd} {j : Nat} {x : Nd}, j < ixF t l → l[j]? = some x → x.t < t
  | [], j, x, h, _ => by simp [ixF] at h
  | n :: r, j, x, h, hx => by
    rw [ixF] at h
    split at h
    · rename_i hn
      cases j with
      | zero => simp at hx; rw [← hx]; exact hn
      | succ j => exact ixF_lt (l := r) (j := j) (by omega) (by simpa using hx)
    · omega
theorem ixF_ge {t : Int} : ∀ {l : List Nd} {x : Nd}, l[ixF t l]? = some x → ¬ x.t < t
  | [], x, h => by simp [ixF] at h
  | n :: r, x, h => by
    rw [ixF] at h
    split at h
    · exact ixF_ge (by simpa using h)
    · rename_i hn
      simp at h; rw [← h]; exact hn
def okN (x : Nd) : Prop := 0 ≤ x.t ∧ x.t ≤ 200000 ∧ pE x.p = 0 ∧ 0 ≤ x.h ∧ x.h ≤ 60000 ∧ 0 ≤ x.r ∧ x.r ≤ 1000000 ∧ 0 ≤ x.b ∧ x.b ≤ 60000
/-- Valid nodes: each behind the one ahead. -/
theorem tG_get : ∀ {l : List Nd} {p : Int}, tG p l = 0 → ∀ {j : Nat} {x : Nd}, l[j]? = some x → p < x.t ∧ okN x ∧ ∀ k y, j < k → l[k]? = some y → x.t < y.t
  | [], p, _, j, x, hx => by simp at hx
  | n :: r, p, h, j, x, hx => by
    rw [tG] at h
    split at h
    · rename_i q; exact absurd h q
    · rename_i q
      have q : nE p n = 0 := by simpa using q
      have qo := nE_ok q
      cases j with
      | zero =>
        simp at hx
        subst hx
        refine ⟨qo.2.2.1, ⟨qo.1, qo.2.1, qo.2.2.2.1, qo.2.2.2.2.1, qo.2.2.2.2.2.1, qo.2.2.2.2.2.2.1, qo.2.2.2.2.2.2.2.1, qo.2.2.2.2.2.2.2.2.1, qo.2.2.2.2.2.2.2.2.2⟩, fun k y hk hy => ?_⟩
        obtain ⟨k, rfl⟩ : ∃ k', k = k' + 1 := ⟨k - 1, by omega⟩
        exact (tG_get h (j := k) (by simpa using hy)).1
      | succ j =>
        have ih := tG_get h (j := j) (by simpa using hx)
        refine ⟨by have := ih.1; omega, ih.2.1, fun k y hk hy => ?_⟩
        obtain ⟨k, rfl⟩ : ∃ k', k = k' + 1 := ⟨k - 1, by omega⟩
        exact ih.2.2 k y (by omega) (by simpa using hy)
theorem tE_ok {l : List Nd} (h : tE l = 0) : 0 < l.length ∧ l.length ≤ 64 ∧ tG (-1) l = 0 := by
  unfold tE at h
  split at h
  · cases h
  · split at h
    · cases h
    · exact ⟨by omega, by omega, h⟩
def interp (a b : Nd) (t : Int) : Nd :=
  ⟨t, (towP a.p b.p (t - a.t) (b.t - a.t)).x, (towP a.p b.p (t - a.t) (b.t - a.t)).y, a.h + (b.h - a.h) * (t - a.t) / (b.t - a.t), a.r + dvu ((b.r - a.r) * (t - a.t)) (b.t - a.t), a.b + dvu ((b.b - a.b) * (t - a.t)) (b.t - a.t)⟩
def atN (l : List Nd) (t : Int) : Nd := if (l.getD (ixF t l) default).t = t then l.getD (ixF t l) default else interp (l.getD (ixF t l - 1) default) (l.getD (ixF t l) default) t
theorem half_u (n : Nat) (h : n ≤ 1000) : AV.shfOk (.lit (.int .u64 (n : Nat))) (.lit (.int .u64 1)) ∧ AV.conv .i64 (AV.shf .shr (.lit (.int .u64 (n : Nat))) (.lit (.int .u64 1))) = .int ((n / 2 : Nat) : Int) ∧ AV.isInt (AV.shf .shr (.lit (.int .u64 (n : Nat))) (.lit (.int .u64 1))) := by
  refine ⟨⟨⟨_, _, rfl⟩, ⟨_, _, rfl⟩, by simp⟩, ?_, ⟨_, _, rfl⟩⟩
  have e : AV.shf .shr (.lit (.int .u64 (n : Nat))) (.lit (.int .u64 1)) = .lit (.int .u64 ((n : Int).fdiv 2)) := by
    show AV.lit (.int .u64 ((n : Int).fdiv (2 ^ 1))) = _
    simp
  rw [e, Int.fdiv_eq_ediv_of_nonneg _ (by omega)]
  show AV.lit (.int .i64 (IntKind.i64.wrap ((n : Int) / 2))) = _
  rw [wrap64 (by omega) (by omega)]
  congr 2
theorem u64_id (n : Nat) (h : n ≤ 1000) : IntKind.u64.wrap (n : Int) = (n : Int) := by
  simp [IntKind.wrap, IntKind.bits, IntKind.signed]; omega
/-- Between two valid nodes. -/
theorem interp_ok {a b : Nd} {t : Int} (ha : okN a) (hb : okN b) (h1 : a.t < t) (h2 : t < b.t) : pE (interp a b t).p = 0 ∧ 0 ≤ (interp a b t).h ∧ (interp a b t).h ≤ 60000 := by
  refine ⟨tow_ok ha.2.2.1 hb.2.2.1 (by omega) (by omega) (by omega), ?_⟩
  obtain ⟨q1, q2⟩ := way (p := b.h - a.h) (n := t - a.t) (d := b.t - a.t) (by omega) (by omega) (by omega)
  unfold okN at ha hb
  simp only [interp]
  omega
theorem at_fn (l : List Nd) (t : Int) (hv : tE l = 0) (h0 : ∀ x, l[0]? = some x → x.t ≤ t) (h1 : ∀ x, l[l.length - 1]? = some x → t ≤ x.t) : Fn Tryz.prog 22 [tube l, .int t] .sc (nd (atN l t)) := by
  have e := SecF.at_form (tube l) (.int t) (nd (atN l t))
  have k := fun h => fn_run mixed 3 (Γ := SecF.Γ) (ann := SecF.ann) Tryz.func22 rfl Tryz.call22 (e.mpr h)
  refine k ?_
  clear k e
  obtain ⟨hp, h64, hG⟩ := tE_ok hv
  have en1 : Ent Tryz.prog 41 := Tryz.call41
  refine ⟨Tryz.call40, fun _ => ⟨by simp, ?_⟩⟩
  refine loop_of (τ := Nat × Nat) (fun s => [.int (s.1 : Nat), .int (s.2 : Nat)]) (fun s => s.1 ≤ s.2 ∧ s.2 ≤ l.length ∧ (∀ j x, j < s.1 → l[j]? = some x → x.t < t) ∧ ∀ j x, s.2 ≤ j → l[j]? = some x → ¬ x.t < t) (fun s => s.2 - s.1) (0, l.length) (by simp)
    ⟨by omega, Nat.le_refl _, fun j x hj => by simp at hj, fun j x hj hx => by have hj : l.length ≤ j := hj; rw [List.getElem?_eq_none hj] at hx; cases hx⟩ ?_
  rintro ⟨lo, hi⟩ ⟨i1, i2, i3, i4⟩
  simp only at i1 i2 i3 i4
  obtain ⟨S, hS⟩ : ∃ S, S = lo + hi := ⟨_, rfl⟩
  have w1 : wr ((lo : Int) + (hi : Int)) = (S : Int) := by rw [wr_id (by omega) (by omega)]; omega
  have w2 : AV.conv .u64 (.lit (.int .i64 (S : Int))) = .lit (.int .u64 (S : Int)) := by
    show AV.lit (.int .u64 (IntKind.u64.wrap (S : Int))) = _
    rw [u64_id S (by omega)]
  obtain ⟨s1, s2, s3⟩ := half_u S (by omega)
  refine ⟨by simp, by simp, fun hlt => ?_, fun hge => ?_⟩
  · have hlt : lo < hi := by simpa using hlt
    generalize hm : S / 2 = m at s2
    have hmb : lo ≤ m ∧ m < hi := by omega
    obtain ⟨x, hx⟩ : ∃ x, l[m]? = some x := ⟨_, List.getElem?_eq_getElem (by omega)⟩
    have hxo := (tG_get hG hx).2.1
    have g1 : x.t < t → (fun zs : List AV => ∃ m', m' < hi - lo ∧ ∃ y : Nat × Nat, zs = [.int (y.1 : Nat), .int (y.2 : Nat)] ∧ (y.1 ≤ y.2 ∧ y.2 ≤ l.length ∧ (∀ j x, j < y.1 → l[j]? = some x → x.t < t) ∧ ∀ j x, y.2 ≤ j → l[j]? = some x → ¬ x.t < t) ∧ y.2 - y.1 = m') [.int ((m : Nat) + 1), .int (hi : Nat)] := fun q =>
      ⟨_, by omega, (m + 1, hi), by simp, ⟨by simp; omega, i2, fun j y hj hy => ?_, i4⟩, rfl⟩
    have g2 : ¬ x.t < t → (fun zs : List AV => ∃ m', m' < hi - lo ∧ ∃ y : Nat × Nat, zs = [.int (y.1 : Nat), .int (y.2 : Nat)] ∧ (y.1 ≤ y.2 ∧ y.2 ≤ l.length ∧ (∀ j x, j < y.1 → l[j]? = some x → x.t < t) ∧ ∀ j x, y.2 ≤ j → l[j]? = some x → ¬ x.t < t) ∧ y.2 - y.1 = m') [.int (lo : Nat), .int (m : Nat)] := fun q =>
      ⟨_, by omega, (lo, m), by simp, ⟨by simp; omega, by simp; omega, i3, fun j y hj hy => ?_⟩, rfl⟩
    rotate_left
    · have hj : m ≤ j := hj
      rcases Nat.eq_or_lt_of_le hj with q2 | q2
      · subst q2
        rw [hx] at hy; injection hy with hy; rw [← hy]; exact q
      · have := (tG_get hG hx).2.2 j y q2 hy; omega
    · have hj : j < m + 1 := hj
      rcases Nat.lt_or_ge j m with q2 | q2
      · have := (tG_get hG hy).2.2 m x q2 hx; omega
      · obtain rfl : j = m := by omega
        rw [hx] at hy; injection hy with hy; rw [← hy]; exact q
    obtain ⟨q1, q2, _⟩ := hxo
    obtain ⟨x0, hx0⟩ : ∃ x0, l[0]? = some x0 := ⟨_, List.getElem?_eq_getElem (by omega)⟩
    have t0 : 0 ≤ t := by have := h0 x0 hx0; have := (tG_get hG hx0).2.1.1; omega
    obtain ⟨x1, hx1⟩ : ∃ x1, l[l.length - 1]? = some x1 := ⟨_, List.getElem?_eq_getElem (by omega)⟩
    have t1 : t ≤ 200000 := by have := h1 x1 hx1; have := (tG_get hG hx1).2.1.2.1; omega
    have wd : wr (x.t - t) = x.t - t := wr_id (by omega) (by omega)
    have wm : wr ((m : Int) + 1) = (m : Int) + 1 := wr_id (by omega) (by omega)
    generalize hKK : (fun zs : List AV => ∃ m', m' < hi - lo ∧ ∃ y : Nat × Nat, zs = [.int (y.1 : Nat), .int (y.2 : Nat)] ∧ (y.1 ≤ y.2 ∧ y.2 ≤ l.length ∧ (∀ j x, j < y.1 → l[j]? = some x → x.t < t) ∧ ∀ j x, y.2 ≤ j → l[j]? = some x → ¬ x.t < t) ∧ y.2 - y.1 = m') = KK at *
    clear hKK i3 i4 h0 h1
    obtain ⟨xt, xx, xy, xh, xr, xb⟩ := x
    simp [w1, w2, s1, s2, s3, lst_atAgg hx, encN, wd, wm, en1, show m < l.length by omega]
    exact ⟨fun q => g1 (by show xt < t; omega), fun q => g2 (by show ¬ xt < t; omega)⟩
  · have hge : hi ≤ lo := by simpa using hge
    obtain rfl : hi = lo := by omega
    have hlo : hi < l.length := by
      refine Nat.lt_of_le_of_ne i2 fun q => ?_
      obtain ⟨z, hz⟩ : ∃ z, l[l.length - 1]? = some z := ⟨_, List.getElem?_eq_getElem (by omega)⟩
      have := h1 z hz
      have := i3 (l.length - 1) z (by omega) hz
      omega
    have hix : ixF t l = hi := ixF_is i2 i3 (fun x hx => i4 hi x (Nat.le_refl _) hx)
    obtain ⟨b, hb⟩ : ∃ b, l[hi]? = some b := ⟨_, List.getElem?_eq_getElem hlo⟩
    have hbd : l.getD (ixF t l) default = b := by rw [hix, List.getD_eq_getElem?_getD, hb]; rfl
    have hbo := (tG_get hG hb).2.1
    have hbt := i4 hi b (Nat.le_refl _) hb
    have hat : atN l t = if b.t = t then b else interp (l.getD (hi - 1) default) b t := by unfold atN; rw [hbd, hix]
    obtain ⟨x0, hx0⟩ : ∃ x0, l[0]? = some x0 := ⟨_, List.getElem?_eq_getElem (by omega)⟩
    have t0 : 0 ≤ t := by have := h0 x0 hx0; have := (tG_get hG hx0).2.1.1; omega
    obtain ⟨x1, hx1⟩ : ∃ x1, l[l.length - 1]? = some x1 := ⟨_, List.getElem?_eq_getElem (by omega)⟩
    have t1 : t ≤ 200000 := by have := h1 x1 hx1; have := (tG_get hG hx1).2.1.2.1; omega
    have e1 : b.t = t → nd (atN l t) = nd b := fun q => by rw [hat, if_pos q]
    have e2 : b.t ≠ t → ∃ a, l[hi - 1]? = some a ∧ 0 < hi ∧ okN a ∧ a.t < t ∧ t < b.t ∧ nd (atN l t) = nd (interp a b t) := fun q => by
      have hpos : 0 < hi := by
        refine Nat.pos_of_ne_zero fun z => ?_
        subst z
        have := h0 b hb
        omega
      obtain ⟨a, ha⟩ : ∃ a, l[hi - 1]? = some a := ⟨_, List.getElem?_eq_getElem (by omega)⟩
      have had : l.getD (hi - 1) default = a := by rw [List.getD_eq_getElem?_getD, ha]; rfl
      exact ⟨a, ha, hpos, (tG_get hG ha).2.1, i3 (hi - 1) a (by omega) ha, by omega, by rw [hat, if_neg q, had]⟩
    generalize nd (atN l t) = R at *
    have wd : wr (b.t - t) = b.t - t := by obtain ⟨q1, q2, _⟩ := hbo; exact wr_id (by omega) (by omega)
    clear hat hbd hix i3 i4 h1
    have hbo' := hbo
    obtain ⟨bt, bx, b_, bh, br, bb⟩ := b
    simp only at wd
    by_cases hbt0 : bt = t
    · have hz : bt - t = 0 := by omega
      have hw0 : wr (bt - t) = 0 := by rw [wd, hz]
      simp [hlo, lst_atAgg hb, encN, hw0, en1]
      exact (e1 hbt0).symm
    · obtain ⟨a, ha, hpos, hao, hat1, hat2, hR⟩ := e2 hbt0
      obtain ⟨k, rfl⟩ : ∃ k, hi = k + 1 := ⟨hi - 1, by omega⟩
      have wk : wr (k : Int) = (k : Int) := wr_id (by omega) (by omega)
      have ha : l[k]? = some a := ha
      have hz : ¬ bt - t = 0 := by omega
      have hao' := hao
      obtain ⟨at_, ax, ay, ah, ar, ab⟩ := a
      simp only [okN, Nd.p] at hbo hao hat1 hat2
      obtain ⟨a1, a2, a3, a4, a5, a6, a7, a8, a9⟩ := hao
      obtain ⟨b1, b2, b3, b4, b5, b6, b7, b8, b9⟩ := hbo
      have v1 : wr (t - at_) = t - at_ := wr_id (by omega) (by omega)
      have v2 : wr (bt - at_) = bt - at_ := wr_id (by omega) (by omega)
      have v3 : wr (bh - ah) = bh - ah := wr_id (by omega) (by omega)
      have v4 : wr (br - ar) = br - ar := wr_id (by omega) (by omega)
      have v5 : wr (bb - ab) = bb - ab := wr_id (by omega) (by omega)
      have m1 := mulb (p := bh - ah) (n := t - at_) (by omega) (by omega) (by omega) (by omega)
      have m2 := mulb (p := br - ar) (n := t - at_) (by omega) (by omega) (by omega) (by omega)
      have m3 := mulb (p := bb - ab) (n := t - at_) (by omega) (by omega) (by omega) (by omega)
      have v6 : wr ((bh - ah) * (t - at_)) = (bh - ah) * (t - at_) := wr_id (by omega) (by omega)
      have v7 : wr ((br - ar) * (t - at_)) = (br - ar) * (t - at_) := wr_id (by omega) (by omega)
      have v8 : wr ((bb - ab) * (t - at_)) = (bb - ab) * (t - at_) := wr_id (by omega) (by omega)
      have hd : 0 < bt - at_ := by omega
      have c1 := toward_fn ⟨ax, ay⟩ ⟨bx, b_⟩ (t - at_) (bt - at_) a3 b3 hd (by omega) (by omega) (by omega)
      have c2 := divd_fn ((bh - ah) * (t - at_)) (bt - at_) hd (by omega) (by omega)
      have c3 := divu_fn ((br - ar) * (t - at_)) (bt - at_) hd (by omega) (by omega)
      have c4 := divu_fn ((bb - ab) * (t - at_)) (bt - at_) hd (by omega) (by omega)
      have d2 := quo_bd hd (a := (bh - ah) * (t - at_)) (by omega) (by omega)
      have d3 := dvu_bd hd (a := (br - ar) * (t - at_)) (by omega) (by omega)
      have d4 := dvu_bd hd (a := (bb - ab) * (t - at_)) (by omega) (by omega)
      have v9 : wr (ah + (bh - ah) * (t - at_) / (bt - at_)) = ah + (bh - ah) * (t - at_) / (bt - at_) := wr_id (by omega) (by omega)
      have v10 : wr (ar + dvu ((br - ar) * (t - at_)) (bt - at_)) = ar + dvu ((br - ar) * (t - at_)) (bt - at_) := wr_id (by omega) (by omega)
      have v11 : wr (ab + dvu ((bb - ab) * (t - at_)) (bt - at_)) = ab + dvu ((bb - ab) * (t - at_)) (bt - at_) := wr_id (by omega) (by omega)
      have hlo' : (k : Int) + 1 < l.length := by omega
      have hlo2 : (k : Int) < l.length := by omega
      have hbz : AV.atAgg (tube l) (.lit (.int .i64 ((k : Int) + 1))) 0 6 = .agg [.int bt, .int bx, .int b_, .int bh, .int br, .int bb] := by
        have := lst_atAgg (s := 6) (enc := encN) (k := .i64) (j := 0) (m := 6) hb
        simpa [encN] using this
      rw [hR]
      simp [hlo', hlo2, hbz, lst_atAgg ha, encN, wd, en1, hz, wk, v1, v2]
      refine ⟨by omega, _, c1, ?_⟩
      simp [encP, v3, v6]
      refine ⟨_, c2, ?_⟩
      simp [v4, v7]
      refine ⟨_, c3, ?_⟩
      simp [v5, v8]
      refine ⟨_, c4, ?_⟩
      simp [v9, v10, v11, interp, Nd.p]
def tatE (l : List Nd) (t : Int) : Int := if tE l ≠ 0 then tE l else if t < (l.getD 0 default).t ∨ t > (l.getD (l.length - 1) default).t then 12 else 0
def nd0 : Nd := ⟨0, 0, 0, 0, 0, 0⟩
def tatV (l : List Nd) (t : Int) : AV := if tatE l t = 0 then .tup [nd (atN l t), .int 0] else .tup [nd nd0, .int (tatE l t)]
theorem tatE_ok {l : List Nd} {t : Int} (h : tatE l t = 0) : tE l = 0 ∧ (∀ x, l[0]? = some x → x.t ≤ t) ∧ ∀ x, l[l.length - 1]? = some x → t ≤ x.t := by
  unfold tatE at h
  split at h
  · rename_i q; exact absurd h q
  · rename_i q
    split at h
    · cases h
    · refine ⟨by simpa using q, fun x hx => ?_, fun x hx => ?_⟩
      · have : (l.getD 0 default).t = x.t := by rw [List.getD_eq_getElem?_getD, hx]; rfl
        omega
      · have : (l.getD (l.length - 1) default).t = x.t := by rw [List.getD_eq_getElem?_getD, hx]; rfl
        omega
/-- The node at a time is valid. -/
theorem atN_ok {l : List Nd} {t : Int} (hv : tE l = 0) (h0 : ∀ x, l[0]? = some x → x.t ≤ t) (h1 : ∀ x, l[l.length - 1]? = some x → t ≤ x.t) : pE (atN l t).p = 0 ∧ 0 ≤ (atN l t).h ∧ (atN l t).h ≤ 60000 := by
  obtain ⟨hp, h64, hG⟩ := tE_ok hv
  have hlt : ixF t l < l.length := by
    refine Nat.lt_of_le_of_ne (ixF_le t l) fun q => ?_
    obtain ⟨z, hz⟩ : ∃ z, l[l.length - 1]? = some z := ⟨_, List.getElem?_eq_getElem (by omega)⟩
    have := h1 z hz
    have := ixF_lt (t := t) (l := l) (j := l.length - 1) (by omega) hz
    omega
  obtain ⟨b, hb⟩ : ∃ b, l[ixF t l]? = some b := ⟨_, List.getElem?_eq_getElem hlt⟩
  have hbd : l.getD (ixF t l) default = b := by rw [List.getD_eq_getElem?_getD, hb]; rfl
  have hbo := (tG_get hG hb).2.1
  have hbt := ixF_ge hb
  unfold atN
  rw [hbd]
  split
  · exact ⟨hbo.2.2.1, hbo.2.2.2.1, hbo.2.2.2.2.1⟩
  · rename_i hne
    have hpos : 0 < ixF t l := by
      refine Nat.pos_of_ne_zero fun z => ?_
      rw [z] at hb
      have := h0 b hb
      omega
    obtain ⟨a, ha⟩ : ∃ a, l[ixF t l - 1]? = some a := ⟨_, List.getElem?_eq_getElem (by omega)⟩
    have had : l.getD (ixF t l - 1) default = a := by rw [List.getD_eq_getElem?_getD, ha]; rfl
    rw [had]
    exact interp_ok (tG_get hG ha).2.1 hbo (ixF_lt (by omega) ha) (by omega)
theorem tat_fn (l : List Nd) (t : Int) : Fn Tryz.prog 12 [tube l, .int t] (.tup [.sc, .sc]) (tatV l t) := by
  refine fn_run mixed 3 (Γ := SecF.Γ) (ann := SecF.ann) Tryz.func12 rfl Tryz.call12 ((SecF.tat_form _ _ _).mpr ?_)
  refine ⟨_, tcheck_fn l, ?_⟩
  have hV1 : tE l ≠ 0 → tatV l t = .tup [nd nd0, .int (tE l)] := fun g => by
    have : tatE l t = tE l := by unfold tatE; rw [if_pos g]
    unfold tatV; rw [this, if_neg g]
  simp
  refine ⟨fun g => (hV1 g).symm, fun g => ?_⟩
  obtain ⟨hp, h64, hG⟩ := tE_ok g
  obtain ⟨a, ha⟩ : ∃ a, l[0]? = some a := ⟨_, List.getElem?_eq_getElem hp⟩
  obtain ⟨b, hb⟩ : ∃ b, l[l.length - 1]? = some b := ⟨_, List.getElem?_eq_getElem (by omega)⟩
  have had : l.getD 0 default = a := by rw [List.getD_eq_getElem?_getD, ha]; rfl
  have hbd : l.getD (l.length - 1) default = b := by rw [List.getD_eq_getElem?_getD, hb]; rfl
  have hV2 : (t < a.t ∨ t > b.t) → tatV l t = .tup [nd nd0, .int 12] := fun q => by
    have : tatE l t = 12 := by unfold tatE; rw [if_neg (by simp [g]), had, hbd, if_pos q]
    unfold tatV; rw [this, if_neg (by decide)]
  have hV3 : ¬ (t < a.t ∨ t > b.t) → tatV l t = .tup [nd (atN l t), .int 0] := fun q => by
    have : tatE l t = 0 := by unfold tatE; rw [if_neg (by simp [g]), had, hbd, if_neg q]
    unfold tatV; rw [if_pos this]
  refine ⟨_, ends_fn l a b ha hb (by omega), ?_⟩
  simp
  refine ⟨fun q => ⟨q, (hV2 (by omega)).symm⟩, fun q => ⟨q, fun q2 => (hV2 (by omega)).symm, fun q2 => ?_⟩⟩
  rw [hV3 (by omega)]
  refine ⟨_, at_fn l t g (fun x hx => by rw [ha] at hx; injection hx with hx; rw [← hx]; exact q) (fun x hx => by rw [hb] at hx; injection hx with hx; rw [← hx]; exact q2), ?_⟩
  simp [encN]
end Go.Proofs.YtfemeeffoapemaaGreatDoor
/- TopTubeHolds: what the runs end in. -/
namespace Go.Proofs.YtfemeeffoapemaaGreatDoor
open Go.RowKit
set_option linter.unusedVariables false
set_option maxRecDepth 100000
namespace TtF
--GAMMA
def Γ : FuncId → Option Ca := fun f =>
  if f = 16 ∨ f = 13 ∨ f = 8 ∨ f = 15 ∨ f = 20 ∨ f = 17 ∨ f = 25 ∨ f = 4 then some (.fn .sc)
  else if f = 23 ∨ f = 14 ∨ f = 24 ∨ f = 12 ∨ f = 6 ∨ f = 7 then some (.fn (.tup [.sc, .sc]))
  else if f = 5 then some (.fn (.tup [.row 54 6 true, .sc]))
  else some .inl
def ann : FuncId → Nat → LoopEx := fun f r => ⟨[], [], [], []⟩
--END GAMMA
theorem fcheck_form (x0 r : AV) : fnF Tryz.prog Γ ann 3 13 Tryz.f13 (Tryz.f13.body.getD .skip) (.nil) [x0] (.sc) r = (((AV.isSl x0 4) ∧
((AV.binOk Go.BinOp.gtr (AV.len x0) (AV.int 64)) ∧
((AV.isBool (AV.bin Go.BinOp.gtr (AV.len x0) (AV.int 64))) ∧
(((isT (AV.bin Go.BinOp.gtr (AV.len x0) (AV.int 64))) →
  ((AV.flat (AV.int 2)) ∧
  (fSame (AV.int 2) r))) ∧
((isF (AV.bin Go.BinOp.gtr (AV.len x0) (AV.int 64))) →
  ((AV.isSl x0 4) ∧
  ((AV.binOk Go.BinOp.eql (AV.len x0) (AV.int 0)) ∧
  ((AV.isBool (AV.bin Go.BinOp.eql (AV.len x0) (AV.int 0))) ∧
  (((isT (AV.bin Go.BinOp.eql (AV.len x0) (AV.int 0))) →
    ((AV.flat (AV.int 3)) ∧
    (fSame (AV.int 3) r))) ∧
  ((isF (AV.bin Go.BinOp.eql (AV.len x0) (AV.int 0))) →
    ((AV.isSl x0 4) ∧
    (fLoop 769 [(AV.int 0)] fun ys769 again769 =>
      ((AV.binOk Go.BinOp.lss (ys769.getD 0 default) (AV.len x0)) ∧
      ((AV.isBool (AV.bin Go.BinOp.lss (ys769.getD 0 default) (AV.len x0))) ∧
      (((isT (AV.bin Go.BinOp.lss (ys769.getD 0 default) (AV.len x0))) →
        ((AV.isSl x0 4) ∧
        ((AV.inb x0 (ys769.getD 0 default)) ∧
        ((AV.isAgg (AV.atAgg x0 (ys769.getD 0 default) 0 4) 4) ∧
        ((AV.binOk Go.BinOp.lss (AV.cel (AV.atAgg x0 (ys769.getD 0 default) 0 4) 0) (AV.int 0)) ∧
        ((AV.isBool (AV.bin Go.BinOp.lss (AV.cel (AV.atAgg x0 (ys769.getD 0 default) 0 4) 0) (AV.int 0))) ∧
        (((isT (AV.bin Go.BinOp.lss (AV.cel (AV.atAgg x0 (ys769.getD 0 default) 0 4) 0) (AV.int 0))) →
          ((AV.isBool (AV.bin Go.BinOp.lss (AV.cel (AV.atAgg x0 (ys769.getD 0 default) 0 4) 0) (AV.int 0))) ∧
          ((isT (AV.bin Go.BinOp.lss (AV.cel (AV.atAgg x0 (ys769.getD 0 default) 0 4) 0) (AV.int 0))) ∧
          ((AV.flat (AV.int 12)) ∧
          (fSame (AV.int 12) r))))) ∧
        ((isF (AV.bin Go.BinOp.lss (AV.cel (AV.atAgg x0 (ys769.getD 0 default) 0 4) 0) (AV.int 0))) →
          ((AV.binOk Go.BinOp.gtr (AV.cel (AV.atAgg x0 (ys769.getD 0 default) 0 4) 0) (AV.int 200000)) ∧
          ((AV.isBool (AV.bin Go.BinOp.lss (AV.cel (AV.atAgg x0 (ys769.getD 0 default) 0 4) 0) (AV.int 0))) ∧
          ((isF (AV.bin Go.BinOp.lss (AV.cel (AV.atAgg x0 (ys769.getD 0 default) 0 4) 0) (AV.int 0))) ∧
          ((AV.isBool (AV.bin Go.BinOp.gtr (AV.cel (AV.atAgg x0 (ys769.getD 0 default) 0 4) 0) (AV.int 200000))) ∧
          (((isT (AV.bin Go.BinOp.gtr (AV.cel (AV.atAgg x0 (ys769.getD 0 default) 0 4) 0) (AV.int 200000))) →
            ((AV.isBool (AV.bin Go.BinOp.gtr (AV.cel (AV.atAgg x0 (ys769.getD 0 default) 0 4) 0) (AV.int 200000))) ∧
            ((isT (AV.bin Go.BinOp.gtr (AV.cel (AV.atAgg x0 (ys769.getD 0 default) 0 4) 0) (AV.int 200000))) ∧
            ((AV.flat (AV.int 12)) ∧
            (fSame (AV.int 12) r))))) ∧
          ((isF (AV.bin Go.BinOp.gtr (AV.cel (AV.atAgg x0 (ys769.getD 0 default) 0 4) 0) (AV.int 200000))) →
            ((AV.binOk Go.BinOp.gtr (ys769.getD 0 default) (AV.int 0)) ∧
            ((AV.isBool (AV.bin Go.BinOp.gtr (ys769.getD 0 default) (AV.int 0))) ∧
            (((isT (AV.bin Go.BinOp.gtr (ys769.getD 0 default) (AV.int 0))) →
              ((AV.binOk Go.BinOp.sub (ys769.getD 0 default) (AV.int 1)) ∧
              ((AV.isSl x0 4) ∧
              ((AV.inb x0 (AV.bin Go.BinOp.sub (ys769.getD 0 default) (AV.int 1))) ∧
              ((AV.binOk Go.BinOp.leq (AV.cel (AV.atAgg x0 (ys769.getD 0 default) 0 4) 0) (AV.at x0 (AV.bin Go.BinOp.sub (ys769.getD 0 default) (AV.int 1)) 0)) ∧
              ((AV.isBool (AV.bin Go.BinOp.gtr (ys769.getD 0 default) (AV.int 0))) ∧
              ((isT (AV.bin Go.BinOp.gtr (ys769.getD 0 default) (AV.int 0))) ∧
              ((AV.isBool (AV.bin Go.BinOp.gtr (AV.cel (AV.atAgg x0 (ys769.getD 0 default) 0 4) 0) (AV.int 200000))) ∧
              ((isF (AV.bin Go.BinOp.gtr (AV.cel (AV.atAgg x0 (ys769.getD 0 default) 0 4) 0) (AV.int 200000))) ∧
              ((AV.isBool (AV.bin Go.BinOp.leq (AV.cel (AV.atAgg x0 (ys769.getD 0 default) 0 4) 0) (AV.at x0 (AV.bin Go.BinOp.sub (ys769.getD 0 default) (AV.int 1)) 0))) ∧
              (((isT (AV.bin Go.BinOp.leq (AV.cel (AV.atAgg x0 (ys769.getD 0 default) 0 4) 0) (AV.at x0 (AV.bin Go.BinOp.sub (ys769.getD 0 default) (AV.int 1)) 0))) →
                ((AV.flat (AV.int 12)) ∧
                (fSame (AV.int 12) r))) ∧
              ((isF (AV.bin Go.BinOp.leq (AV.cel (AV.atAgg x0 (ys769.getD 0 default) 0 4) 0) (AV.at x0 (AV.bin Go.BinOp.sub (ys769.getD 0 default) (AV.int 1)) 0))) →
                (∃ r2817 : AV, ((Fn Tryz.prog 16 [(AV.agg [(AV.cel (AV.atAgg x0 (ys769.getD 0 default) 0 4) 1), (AV.cel (AV.atAgg x0 (ys769.getD 0 default) 0 4) 2)])] Sh.sc r2817) ∧
                ((AV.binOk Go.BinOp.neq r2817 (AV.int 0)) ∧
                ((AV.isBool (AV.bin Go.BinOp.neq r2817 (AV.int 0))) ∧
                (((isT (AV.bin Go.BinOp.neq r2817 (AV.int 0))) →
                  ((AV.flat r2817) ∧
                  (fSame r2817 r))) ∧
                ((isF (AV.bin Go.BinOp.neq r2817 (AV.int 0))) →
                  ((AV.binOk Go.BinOp.lss (AV.cel (AV.atAgg x0 (ys769.getD 0 default) 0 4) 3) (AV.int 0)) ∧
                  ((AV.isBool (AV.bin Go.BinOp.lss (AV.cel (AV.atAgg x0 (ys769.getD 0 default) 0 4) 3) (AV.int 0))) ∧
                  (((isT (AV.bin Go.BinOp.lss (AV.cel (AV.atAgg x0 (ys769.getD 0 default) 0 4) 3) (AV.int 0))) →
                    ((AV.isBool (AV.bin Go.BinOp.lss (AV.cel (AV.atAgg x0 (ys769.getD 0 default) 0 4) 3) (AV.int 0))) ∧
                    ((isT (AV.bin Go.BinOp.lss (AV.cel (AV.atAgg x0 (ys769.getD 0 default) 0 4) 3) (AV.int 0))) ∧
                    ((AV.flat (AV.int 4)) ∧
                    (fSame (AV.int 4) r))))) ∧
                  ((isF (AV.bin Go.BinOp.lss (AV.cel (AV.atAgg x0 (ys769.getD 0 default) 0 4) 3) (AV.int 0))) →
                    ((AV.binOk Go.BinOp.gtr (AV.cel (AV.atAgg x0 (ys769.getD 0 default) 0 4) 3) (AV.int 60000)) ∧
                    ((AV.isBool (AV.bin Go.BinOp.lss (AV.cel (AV.atAgg x0 (ys769.getD 0 default) 0 4) 3) (AV.int 0))) ∧
                    ((isF (AV.bin Go.BinOp.lss (AV.cel (AV.atAgg x0 (ys769.getD 0 default) 0 4) 3) (AV.int 0))) ∧
                    ((AV.isBool (AV.bin Go.BinOp.gtr (AV.cel (AV.atAgg x0 (ys769.getD 0 default) 0 4) 3) (AV.int 60000))) ∧
                    (((isT (AV.bin Go.BinOp.gtr (AV.cel (AV.atAgg x0 (ys769.getD 0 default) 0 4) 3) (AV.int 60000))) →
                      ((AV.flat (AV.int 4)) ∧
                      (fSame (AV.int 4) r))) ∧
                    ((isF (AV.bin Go.BinOp.gtr (AV.cel (AV.atAgg x0 (ys769.getD 0 default) 0 4) 3) (AV.int 60000))) →
                      ((AV.binOk Go.BinOp.add (ys769.getD 0 default) (AV.int 1)) ∧
                      (again769 [(AV.bin Go.BinOp.add (ys769.getD 0 default) (AV.int 1))])))))))))))))))))))))))))))))) ∧
            ((isF (AV.bin Go.BinOp.gtr (ys769.getD 0 default) (AV.int 0))) →
              ((AV.isBool (AV.bin Go.BinOp.gtr (ys769.getD 0 default) (AV.int 0))) ∧
              ((isF (AV.bin Go.BinOp.gtr (ys769.getD 0 default) (AV.int 0))) ∧
              ((AV.isBool (AV.bin Go.BinOp.gtr (AV.cel (AV.atAgg x0 (ys769.getD 0 default) 0 4) 0) (AV.int 200000))) ∧
              ((isF (AV.bin Go.BinOp.gtr (AV.cel (AV.atAgg x0 (ys769.getD 0 default) 0 4) 0) (AV.int 200000))) ∧
              (∃ r2817 : AV, ((Fn Tryz.prog 16 [(AV.agg [(AV.cel (AV.atAgg x0 (ys769.getD 0 default) 0 4) 1), (AV.cel (AV.atAgg x0 (ys769.getD 0 default) 0 4) 2)])] Sh.sc r2817) ∧
              ((AV.binOk Go.BinOp.neq r2817 (AV.int 0)) ∧
              ((AV.isBool (AV.bin Go.BinOp.neq r2817 (AV.int 0))) ∧
              (((isT (AV.bin Go.BinOp.neq r2817 (AV.int 0))) →
                ((AV.flat r2817) ∧
                (fSame r2817 r))) ∧
              ((isF (AV.bin Go.BinOp.neq r2817 (AV.int 0))) →
                ((AV.binOk Go.BinOp.lss (AV.cel (AV.atAgg x0 (ys769.getD 0 default) 0 4) 3) (AV.int 0)) ∧
                ((AV.isBool (AV.bin Go.BinOp.lss (AV.cel (AV.atAgg x0 (ys769.getD 0 default) 0 4) 3) (AV.int 0))) ∧
                (((isT (AV.bin Go.BinOp.lss (AV.cel (AV.atAgg x0 (ys769.getD 0 default) 0 4) 3) (AV.int 0))) →
                  ((AV.isBool (AV.bin Go.BinOp.lss (AV.cel (AV.atAgg x0 (ys769.getD 0 default) 0 4) 3) (AV.int 0))) ∧
                  ((isT (AV.bin Go.BinOp.lss (AV.cel (AV.atAgg x0 (ys769.getD 0 default) 0 4) 3) (AV.int 0))) ∧
                  ((AV.flat (AV.int 4)) ∧
                  (fSame (AV.int 4) r))))) ∧
                ((isF (AV.bin Go.BinOp.lss (AV.cel (AV.atAgg x0 (ys769.getD 0 default) 0 4) 3) (AV.int 0))) →
                  ((AV.binOk Go.BinOp.gtr (AV.cel (AV.atAgg x0 (ys769.getD 0 default) 0 4) 3) (AV.int 60000)) ∧
                  ((AV.isBool (AV.bin Go.BinOp.lss (AV.cel (AV.atAgg x0 (ys769.getD 0 default) 0 4) 3) (AV.int 0))) ∧
                  ((isF (AV.bin Go.BinOp.lss (AV.cel (AV.atAgg x0 (ys769.getD 0 default) 0 4) 3) (AV.int 0))) ∧
                  ((AV.isBool (AV.bin Go.BinOp.gtr (AV.cel (AV.atAgg x0 (ys769.getD 0 default) 0 4) 3) (AV.int 60000))) ∧
                  (((isT (AV.bin Go.BinOp.gtr (AV.cel (AV.atAgg x0 (ys769.getD 0 default) 0 4) 3) (AV.int 60000))) →
                    ((AV.flat (AV.int 4)) ∧
                    (fSame (AV.int 4) r))) ∧
                  ((isF (AV.bin Go.BinOp.gtr (AV.cel (AV.atAgg x0 (ys769.getD 0 default) 0 4) 3) (AV.int 60000))) →
                    ((AV.binOk Go.BinOp.add (ys769.getD 0 default) (AV.int 1)) ∧
                    (again769 [(AV.bin Go.BinOp.add (ys769.getD 0 default) (AV.int 1))])))))))))))))))))))))))))))))))))))))))) ∧
      ((isF (AV.bin Go.BinOp.lss (ys769.getD 0 default) (AV.len x0))) →
        ((AV.flat (AV.int 0)) ∧
        (fSame (AV.int 0) r))))))))))))))))))) := by kernel_rfl
theorem fat_form (x0 x1 r : AV) : fnF Tryz.prog Γ ann 3 15 Tryz.f15 (Tryz.f15.body.getD .skip) (.nil) [x0, x1] (.sc) r = ((fLoop 129 [(AV.int 0)] fun ys129 again129 =>
  ((AV.binOk Go.BinOp.add (ys129.getD 0 default) (AV.int 1)) ∧
  ((AV.isSl x0 4) ∧
  ((AV.binOk Go.BinOp.lss (AV.bin Go.BinOp.add (ys129.getD 0 default) (AV.int 1)) (AV.len x0)) ∧
  ((AV.isBool (AV.bin Go.BinOp.lss (AV.bin Go.BinOp.add (ys129.getD 0 default) (AV.int 1)) (AV.len x0))) ∧
  (((isT (AV.bin Go.BinOp.lss (AV.bin Go.BinOp.add (ys129.getD 0 default) (AV.int 1)) (AV.len x0))) →
    ((AV.binOk Go.BinOp.add (ys129.getD 0 default) (AV.int 1)) ∧
    ((AV.isSl x0 4) ∧
    ((AV.inb x0 (AV.bin Go.BinOp.add (ys129.getD 0 default) (AV.int 1))) ∧
    ((AV.binOk Go.BinOp.leq (AV.at x0 (AV.bin Go.BinOp.add (ys129.getD 0 default) (AV.int 1)) 0) x1) ∧
    ((AV.isBool (AV.bin Go.BinOp.lss (AV.bin Go.BinOp.add (ys129.getD 0 default) (AV.int 1)) (AV.len x0))) ∧
    ((isT (AV.bin Go.BinOp.lss (AV.bin Go.BinOp.add (ys129.getD 0 default) (AV.int 1)) (AV.len x0))) ∧
    ((AV.isBool (AV.bin Go.BinOp.leq (AV.at x0 (AV.bin Go.BinOp.add (ys129.getD 0 default) (AV.int 1)) 0) x1)) ∧
    (((isT (AV.bin Go.BinOp.leq (AV.at x0 (AV.bin Go.BinOp.add (ys129.getD 0 default) (AV.int 1)) 0) x1)) →
      ((AV.binOk Go.BinOp.add (ys129.getD 0 default) (AV.int 1)) ∧
      (again129 [(AV.bin Go.BinOp.add (ys129.getD 0 default) (AV.int 1))]))) ∧
    ((isF (AV.bin Go.BinOp.leq (AV.at x0 (AV.bin Go.BinOp.add (ys129.getD 0 default) (AV.int 1)) 0) x1)) →
      ((AV.isSl x0 4) ∧
      ((AV.inb x0 (ys129.getD 0 default)) ∧
      ((AV.isAgg (AV.atAgg x0 (ys129.getD 0 default) 0 4) 4) ∧
      ((AV.binOk Go.BinOp.eql (AV.cel (AV.atAgg x0 (ys129.getD 0 default) 0 4) 0) x1) ∧
      ((AV.isBool (AV.bin Go.BinOp.eql (AV.cel (AV.atAgg x0 (ys129.getD 0 default) 0 4) 0) x1)) ∧
      (((isT (AV.bin Go.BinOp.eql (AV.cel (AV.atAgg x0 (ys129.getD 0 default) 0 4) 0) x1)) →
        ((AV.flat (AV.agg [(AV.cel (AV.atAgg x0 (ys129.getD 0 default) 0 4) 0), (AV.cel (AV.atAgg x0 (ys129.getD 0 default) 0 4) 1), (AV.cel (AV.atAgg x0 (ys129.getD 0 default) 0 4) 2), (AV.cel (AV.atAgg x0 (ys129.getD 0 default) 0 4) 3)])) ∧
        (fSame (AV.agg [(AV.cel (AV.atAgg x0 (ys129.getD 0 default) 0 4) 0), (AV.cel (AV.atAgg x0 (ys129.getD 0 default) 0 4) 1), (AV.cel (AV.atAgg x0 (ys129.getD 0 default) 0 4) 2), (AV.cel (AV.atAgg x0 (ys129.getD 0 default) 0 4) 3)]) r))) ∧
      ((isF (AV.bin Go.BinOp.eql (AV.cel (AV.atAgg x0 (ys129.getD 0 default) 0 4) 0) x1)) →
        ((AV.binOk Go.BinOp.add (ys129.getD 0 default) (AV.int 1)) ∧
        ((AV.isSl x0 4) ∧
        ((AV.inb x0 (AV.bin Go.BinOp.add (ys129.getD 0 default) (AV.int 1))) ∧
        ((AV.isAgg (AV.atAgg x0 (AV.bin Go.BinOp.add (ys129.getD 0 default) (AV.int 1)) 0 4) 4) ∧
        ((AV.binOk Go.BinOp.sub x1 (AV.cel (AV.atAgg x0 (ys129.getD 0 default) 0 4) 0)) ∧
        ((AV.binOk Go.BinOp.sub (AV.cel (AV.atAgg x0 (AV.bin Go.BinOp.add (ys129.getD 0 default) (AV.int 1)) 0 4) 0) (AV.cel (AV.atAgg x0 (ys129.getD 0 default) 0 4) 0)) ∧
        (∃ r3009 : AV, ((Fn Tryz.prog 24 [(AV.agg [(AV.cel (AV.atAgg x0 (ys129.getD 0 default) 0 4) 1), (AV.cel (AV.atAgg x0 (ys129.getD 0 default) 0 4) 2)]), (AV.agg [(AV.cel (AV.atAgg x0 (AV.bin Go.BinOp.add (ys129.getD 0 default) (AV.int 1)) 0 4) 1), (AV.cel (AV.atAgg x0 (AV.bin Go.BinOp.add (ys129.getD 0 default) (AV.int 1)) 0 4) 2)]), (AV.bin Go.BinOp.sub x1 (AV.cel (AV.atAgg x0 (ys129.getD 0 default) 0 4) 0)), (AV.bin Go.BinOp.sub (AV.cel (AV.atAgg x0 (AV.bin Go.BinOp.add (ys129.getD 0 default) (AV.int 1)) 0 4) 0) (AV.cel (AV.atAgg x0 (ys129.getD 0 default) 0 4) 0))] (Sh.tup [Sh.sc, Sh.sc]) r3009) ∧
        ((AV.isAgg (AV.prj r3009 0) 2) ∧
        ((AV.binOk Go.BinOp.sub (AV.cel (AV.atAgg x0 (AV.bin Go.BinOp.add (ys129.getD 0 default) (AV.int 1)) 0 4) 3) (AV.cel (AV.atAgg x0 (ys129.getD 0 default) 0 4) 3)) ∧
        ((AV.binOk Go.BinOp.sub x1 (AV.cel (AV.atAgg x0 (ys129.getD 0 default) 0 4) 0)) ∧
        ((AV.binOk Go.BinOp.mul (AV.bin Go.BinOp.sub (AV.cel (AV.atAgg x0 (AV.bin Go.BinOp.add (ys129.getD 0 default) (AV.int 1)) 0 4) 3) (AV.cel (AV.atAgg x0 (ys129.getD 0 default) 0 4) 3)) (AV.bin Go.BinOp.sub x1 (AV.cel (AV.atAgg x0 (ys129.getD 0 default) 0 4) 0))) ∧
        ((AV.binOk Go.BinOp.sub (AV.cel (AV.atAgg x0 (AV.bin Go.BinOp.add (ys129.getD 0 default) (AV.int 1)) 0 4) 0) (AV.cel (AV.atAgg x0 (ys129.getD 0 default) 0 4) 0)) ∧
        (∃ r4417 : AV, ((Fn Tryz.prog 23 [(AV.bin Go.BinOp.mul (AV.bin Go.BinOp.sub (AV.cel (AV.atAgg x0 (AV.bin Go.BinOp.add (ys129.getD 0 default) (AV.int 1)) 0 4) 3) (AV.cel (AV.atAgg x0 (ys129.getD 0 default) 0 4) 3)) (AV.bin Go.BinOp.sub x1 (AV.cel (AV.atAgg x0 (ys129.getD 0 default) 0 4) 0))), (AV.bin Go.BinOp.sub (AV.cel (AV.atAgg x0 (AV.bin Go.BinOp.add (ys129.getD 0 default) (AV.int 1)) 0 4) 0) (AV.cel (AV.atAgg x0 (ys129.getD 0 default) 0 4) 0))] (Sh.tup [Sh.sc, Sh.sc]) r4417) ∧
        ((AV.binOk Go.BinOp.add (AV.cel (AV.atAgg x0 (ys129.getD 0 default) 0 4) 3) (AV.prj r4417 0)) ∧
        ((AV.isOne x1) ∧
        ((AV.isOne (AV.bin Go.BinOp.add (AV.cel (AV.atAgg x0 (ys129.getD 0 default) 0 4) 3) (AV.prj r4417 0))) ∧
        ((AV.flat (AV.agg [x1, (AV.cel (AV.prj r3009 0) 0), (AV.cel (AV.prj r3009 0) 1), (AV.bin Go.BinOp.add (AV.cel (AV.atAgg x0 (ys129.getD 0 default) 0 4) 3) (AV.prj r4417 0))])) ∧
        (fSame (AV.agg [x1, (AV.cel (AV.prj r3009 0) 0), (AV.cel (AV.prj r3009 0) 1), (AV.bin Go.BinOp.add (AV.cel (AV.atAgg x0 (ys129.getD 0 default) 0 4) 3) (AV.prj r4417 0))]) r))))))))))))))))))))))))))))))))))))) ∧
  ((isF (AV.bin Go.BinOp.lss (AV.bin Go.BinOp.add (ys129.getD 0 default) (AV.int 1)) (AV.len x0))) →
    ((AV.isBool (AV.bin Go.BinOp.lss (AV.bin Go.BinOp.add (ys129.getD 0 default) (AV.int 1)) (AV.len x0))) ∧
    ((isF (AV.bin Go.BinOp.lss (AV.bin Go.BinOp.add (ys129.getD 0 default) (AV.int 1)) (AV.len x0))) ∧
    ((AV.isSl x0 4) ∧
    ((AV.inb x0 (ys129.getD 0 default)) ∧
    ((AV.isAgg (AV.atAgg x0 (ys129.getD 0 default) 0 4) 4) ∧
    ((AV.binOk Go.BinOp.eql (AV.cel (AV.atAgg x0 (ys129.getD 0 default) 0 4) 0) x1) ∧
    ((AV.isBool (AV.bin Go.BinOp.eql (AV.cel (AV.atAgg x0 (ys129.getD 0 default) 0 4) 0) x1)) ∧
    (((isT (AV.bin Go.BinOp.eql (AV.cel (AV.atAgg x0 (ys129.getD 0 default) 0 4) 0) x1)) →
      ((AV.flat (AV.agg [(AV.cel (AV.atAgg x0 (ys129.getD 0 default) 0 4) 0), (AV.cel (AV.atAgg x0 (ys129.getD 0 default) 0 4) 1), (AV.cel (AV.atAgg x0 (ys129.getD 0 default) 0 4) 2), (AV.cel (AV.atAgg x0 (ys129.getD 0 default) 0 4) 3)])) ∧
      (fSame (AV.agg [(AV.cel (AV.atAgg x0 (ys129.getD 0 default) 0 4) 0), (AV.cel (AV.atAgg x0 (ys129.getD 0 default) 0 4) 1), (AV.cel (AV.atAgg x0 (ys129.getD 0 default) 0 4) 2), (AV.cel (AV.atAgg x0 (ys129.getD 0 default) 0 4) 3)]) r))) ∧
    ((isF (AV.bin Go.BinOp.eql (AV.cel (AV.atAgg x0 (ys129.getD 0 default) 0 4) 0) x1)) →
      ((AV.binOk Go.BinOp.add (ys129.getD 0 default) (AV.int 1)) ∧
      ((AV.isSl x0 4) ∧
      ((AV.inb x0 (AV.bin Go.BinOp.add (ys129.getD 0 default) (AV.int 1))) ∧
      ((AV.isAgg (AV.atAgg x0 (AV.bin Go.BinOp.add (ys129.getD 0 default) (AV.int 1)) 0 4) 4) ∧
      ((AV.binOk Go.BinOp.sub x1 (AV.cel (AV.atAgg x0 (ys129.getD 0 default) 0 4) 0)) ∧
      ((AV.binOk Go.BinOp.sub (AV.cel (AV.atAgg x0 (AV.bin Go.BinOp.add (ys129.getD 0 default) (AV.int 1)) 0 4) 0) (AV.cel (AV.atAgg x0 (ys129.getD 0 default) 0 4) 0)) ∧
      (∃ r3009 : AV, ((Fn Tryz.prog 24 [(AV.agg [(AV.cel (AV.atAgg x0 (ys129.getD 0 default) 0 4) 1), (AV.cel (AV.atAgg x0 (ys129.getD 0 default) 0 4) 2)]), (AV.agg [(AV.cel (AV.atAgg x0 (AV.bin Go.BinOp.add (ys129.getD 0 default) (AV.int 1)) 0 4) 1), (AV.cel (AV.atAgg x0 (AV.bin Go.BinOp.add (ys129.getD 0 default) (AV.int 1)) 0 4) 2)]), (AV.bin Go.BinOp.sub x1 (AV.cel (AV.atAgg x0 (ys129.getD 0 default) 0 4) 0)), (AV.bin Go.BinOp.sub (AV.cel (AV.atAgg x0 (AV.bin Go.BinOp.add (ys129.getD 0 default) (AV.int 1)) 0 4) 0) (AV.cel (AV.atAgg x0 (ys129.getD 0 default) 0 4) 0))] (Sh.tup [Sh.sc, Sh.sc]) r3009) ∧
      ((AV.isAgg (AV.prj r3009 0) 2) ∧
      ((AV.binOk Go.BinOp.sub (AV.cel (AV.atAgg x0 (AV.bin Go.BinOp.add (ys129.getD 0 default) (AV.int 1)) 0 4) 3) (AV.cel (AV.atAgg x0 (ys129.getD 0 default) 0 4) 3)) ∧
      ((AV.binOk Go.BinOp.sub x1 (AV.cel (AV.atAgg x0 (ys129.getD 0 default) 0 4) 0)) ∧
      ((AV.binOk Go.BinOp.mul (AV.bin Go.BinOp.sub (AV.cel (AV.atAgg x0 (AV.bin Go.BinOp.add (ys129.getD 0 default) (AV.int 1)) 0 4) 3) (AV.cel (AV.atAgg x0 (ys129.getD 0 default) 0 4) 3)) (AV.bin Go.BinOp.sub x1 (AV.cel (AV.atAgg x0 (ys129.getD 0 default) 0 4) 0))) ∧
      ((AV.binOk Go.BinOp.sub (AV.cel (AV.atAgg x0 (AV.bin Go.BinOp.add (ys129.getD 0 default) (AV.int 1)) 0 4) 0) (AV.cel (AV.atAgg x0 (ys129.getD 0 default) 0 4) 0)) ∧
      (∃ r4417 : AV, ((Fn Tryz.prog 23 [(AV.bin Go.BinOp.mul (AV.bin Go.BinOp.sub (AV.cel (AV.atAgg x0 (AV.bin Go.BinOp.add (ys129.getD 0 default) (AV.int 1)) 0 4) 3) (AV.cel (AV.atAgg x0 (ys129.getD 0 default) 0 4) 3)) (AV.bin Go.BinOp.sub x1 (AV.cel (AV.atAgg x0 (ys129.getD 0 default) 0 4) 0))), (AV.bin Go.BinOp.sub (AV.cel (AV.atAgg x0 (AV.bin Go.BinOp.add (ys129.getD 0 default) (AV.int 1)) 0 4) 0) (AV.cel (AV.atAgg x0 (ys129.getD 0 default) 0 4) 0))] (Sh.tup [Sh.sc, Sh.sc]) r4417) ∧
      ((AV.binOk Go.BinOp.add (AV.cel (AV.atAgg x0 (ys129.getD 0 default) 0 4) 3) (AV.prj r4417 0)) ∧
      ((AV.isOne x1) ∧
      ((AV.isOne (AV.bin Go.BinOp.add (AV.cel (AV.atAgg x0 (ys129.getD 0 default) 0 4) 3) (AV.prj r4417 0))) ∧
      ((AV.flat (AV.agg [x1, (AV.cel (AV.prj r3009 0) 0), (AV.cel (AV.prj r3009 0) 1), (AV.bin Go.BinOp.add (AV.cel (AV.atAgg x0 (ys129.getD 0 default) 0 4) 3) (AV.prj r4417 0))])) ∧
      (fSame (AV.agg [x1, (AV.cel (AV.prj r3009 0) 0), (AV.cel (AV.prj r3009 0) 1), (AV.bin Go.BinOp.add (AV.cel (AV.atAgg x0 (ys129.getD 0 default) 0 4) 3) (AV.prj r4417 0))]) r))))))))))))))))))))))))))))))))))))) := by kernel_rfl
theorem fAt_form (x0 x1 r : AV) : fnF Tryz.prog Γ ann 3 6 Tryz.f6 (Tryz.f6.body.getD .skip) (.nil) [x0, x1] (.tup [.sc, .sc]) r = ((∃ r193 : AV, ((Fn Tryz.prog 13 [x0] Sh.sc r193) ∧
((AV.binOk Go.BinOp.neq r193 (AV.int 0)) ∧
((AV.isBool (AV.bin Go.BinOp.neq r193 (AV.int 0))) ∧
(((isT (AV.bin Go.BinOp.neq r193 (AV.int 0))) →
  ((AV.flat (AV.agg [(AV.int 0), (AV.int 0), (AV.int 0), (AV.int 0)])) ∧
  ((AV.flat r193) ∧
  (fSame (AV.tup [(AV.agg [(AV.int 0), (AV.int 0), (AV.int 0), (AV.int 0)]), r193]) r)))) ∧
((isF (AV.bin Go.BinOp.neq r193 (AV.int 0))) →
  ((AV.isSl x0 4) ∧
  ((AV.inb x0 (AV.int 0)) ∧
  ((AV.binOk Go.BinOp.lss x1 (AV.at x0 (AV.int 0) 0)) ∧
  ((AV.isBool (AV.bin Go.BinOp.lss x1 (AV.at x0 (AV.int 0) 0))) ∧
  (((isT (AV.bin Go.BinOp.lss x1 (AV.at x0 (AV.int 0) 0))) →
    ((AV.isBool (AV.bin Go.BinOp.lss x1 (AV.at x0 (AV.int 0) 0))) ∧
    ((isT (AV.bin Go.BinOp.lss x1 (AV.at x0 (AV.int 0) 0))) ∧
    ((AV.flat (AV.agg [(AV.int 0), (AV.int 0), (AV.int 0), (AV.int 0)])) ∧
    ((AV.flat (AV.int 12)) ∧
    (fSame (AV.tup [(AV.agg [(AV.int 0), (AV.int 0), (AV.int 0), (AV.int 0)]), (AV.int 12)]) r)))))) ∧
  ((isF (AV.bin Go.BinOp.lss x1 (AV.at x0 (AV.int 0) 0))) →
    ((AV.isSl x0 4) ∧
    ((AV.binOk Go.BinOp.sub (AV.len x0) (AV.int 1)) ∧
    ((AV.isSl x0 4) ∧
    ((AV.inb x0 (AV.bin Go.BinOp.sub (AV.len x0) (AV.int 1))) ∧
    ((AV.binOk Go.BinOp.gtr x1 (AV.at x0 (AV.bin Go.BinOp.sub (AV.len x0) (AV.int 1)) 0)) ∧
    ((AV.isBool (AV.bin Go.BinOp.lss x1 (AV.at x0 (AV.int 0) 0))) ∧
    ((isF (AV.bin Go.BinOp.lss x1 (AV.at x0 (AV.int 0) 0))) ∧
    ((AV.isBool (AV.bin Go.BinOp.gtr x1 (AV.at x0 (AV.bin Go.BinOp.sub (AV.len x0) (AV.int 1)) 0))) ∧
    (((isT (AV.bin Go.BinOp.gtr x1 (AV.at x0 (AV.bin Go.BinOp.sub (AV.len x0) (AV.int 1)) 0))) →
      ((AV.flat (AV.agg [(AV.int 0), (AV.int 0), (AV.int 0), (AV.int 0)])) ∧
      ((AV.flat (AV.int 12)) ∧
      (fSame (AV.tup [(AV.agg [(AV.int 0), (AV.int 0), (AV.int 0), (AV.int 0)]), (AV.int 12)]) r)))) ∧
    ((isF (AV.bin Go.BinOp.gtr x1 (AV.at x0 (AV.bin Go.BinOp.sub (AV.len x0) (AV.int 1)) 0))) →
      (∃ r1665 : AV, ((Fn Tryz.prog 15 [x0, x1] Sh.sc r1665) ∧
      ((AV.isAgg r1665 4) ∧
      ((AV.flat (AV.agg [(AV.cel r1665 0), (AV.cel r1665 1), (AV.cel r1665 2), (AV.cel r1665 3)])) ∧
      ((AV.flat (AV.int 0)) ∧
      (fSame (AV.tup [(AV.agg [(AV.cel r1665 0), (AV.cel r1665 1), (AV.cel r1665 2), (AV.cel r1665 3)]), (AV.int 0)]) r))))))))))))))))))))))))))))) := by kernel_rfl
theorem of_form (x0 x1 x2 x3 r : AV) : fnF Tryz.prog Γ ann 3 5 Tryz.f5 (Tryz.f5.body.getD .skip) (.nil) [x0, x1, x2, x3] (.tup [.row 54 6 true, .sc]) r = ((∃ r193 : AV, ((Fn Tryz.prog 13 [x0] Sh.sc r193) ∧
((AV.binOk Go.BinOp.neq r193 (AV.int 0)) ∧
((AV.isBool (AV.bin Go.BinOp.neq r193 (AV.int 0))) ∧
(((isT (AV.bin Go.BinOp.neq r193 (AV.int 0))) →
  ((AV.flatS (AV.mk 6 [])) ∧
  ((AV.flat r193) ∧
  (fSame (AV.tup [(AV.mk 6 []), r193]) r)))) ∧
((isF (AV.bin Go.BinOp.neq r193 (AV.int 0))) →
  ((AV.binOk Go.BinOp.lss x1 (AV.int 0)) ∧
  ((AV.isBool (AV.bin Go.BinOp.lss x1 (AV.int 0))) ∧
  (((isT (AV.bin Go.BinOp.lss x1 (AV.int 0))) →
    ((AV.isBool (AV.bin Go.BinOp.lss x1 (AV.int 0))) ∧
    ((isT (AV.bin Go.BinOp.lss x1 (AV.int 0))) ∧
    ((AV.flatS (AV.mk 6 [])) ∧
    ((AV.flat (AV.int 4)) ∧
    (fSame (AV.tup [(AV.mk 6 []), (AV.int 4)]) r)))))) ∧
  ((isF (AV.bin Go.BinOp.lss x1 (AV.int 0))) →
    ((AV.binOk Go.BinOp.gtr x1 (AV.int 1000000)) ∧
    ((AV.isBool (AV.bin Go.BinOp.lss x1 (AV.int 0))) ∧
    ((isF (AV.bin Go.BinOp.lss x1 (AV.int 0))) ∧
    ((AV.isBool (AV.bin Go.BinOp.gtr x1 (AV.int 1000000))) ∧
    (((isT (AV.bin Go.BinOp.gtr x1 (AV.int 1000000))) →
      ((AV.isBool (AV.bin Go.BinOp.gtr x1 (AV.int 1000000))) ∧
      ((isT (AV.bin Go.BinOp.gtr x1 (AV.int 1000000))) ∧
      ((AV.flatS (AV.mk 6 [])) ∧
      ((AV.flat (AV.int 4)) ∧
      (fSame (AV.tup [(AV.mk 6 []), (AV.int 4)]) r)))))) ∧
    ((isF (AV.bin Go.BinOp.gtr x1 (AV.int 1000000))) →
      ((AV.binOk Go.BinOp.lss x2 (AV.int 0)) ∧
      ((AV.isBool (AV.bin Go.BinOp.gtr x1 (AV.int 1000000))) ∧
      ((isF (AV.bin Go.BinOp.gtr x1 (AV.int 1000000))) ∧
      ((AV.isBool (AV.bin Go.BinOp.lss x2 (AV.int 0))) ∧
      (((isT (AV.bin Go.BinOp.lss x2 (AV.int 0))) →
        ((AV.isBool (AV.bin Go.BinOp.lss x2 (AV.int 0))) ∧
        ((isT (AV.bin Go.BinOp.lss x2 (AV.int 0))) ∧
        ((AV.flatS (AV.mk 6 [])) ∧
        ((AV.flat (AV.int 4)) ∧
        (fSame (AV.tup [(AV.mk 6 []), (AV.int 4)]) r)))))) ∧
      ((isF (AV.bin Go.BinOp.lss x2 (AV.int 0))) →
        ((AV.binOk Go.BinOp.gtr x2 (AV.int 1000000)) ∧
        ((AV.isBool (AV.bin Go.BinOp.lss x2 (AV.int 0))) ∧
        ((isF (AV.bin Go.BinOp.lss x2 (AV.int 0))) ∧
        ((AV.isBool (AV.bin Go.BinOp.gtr x2 (AV.int 1000000))) ∧
        (((isT (AV.bin Go.BinOp.gtr x2 (AV.int 1000000))) →
          ((AV.isBool (AV.bin Go.BinOp.gtr x2 (AV.int 1000000))) ∧
          ((isT (AV.bin Go.BinOp.gtr x2 (AV.int 1000000))) ∧
          ((AV.flatS (AV.mk 6 [])) ∧
          ((AV.flat (AV.int 4)) ∧
          (fSame (AV.tup [(AV.mk 6 []), (AV.int 4)]) r)))))) ∧
        ((isF (AV.bin Go.BinOp.gtr x2 (AV.int 1000000))) →
          ((AV.binOk Go.BinOp.lss x3 (AV.int 0)) ∧
          ((AV.isBool (AV.bin Go.BinOp.gtr x2 (AV.int 1000000))) ∧
          ((isF (AV.bin Go.BinOp.gtr x2 (AV.int 1000000))) ∧
          ((AV.isBool (AV.bin Go.BinOp.lss x3 (AV.int 0))) ∧
          (((isT (AV.bin Go.BinOp.lss x3 (AV.int 0))) →
            ((AV.isBool (AV.bin Go.BinOp.lss x3 (AV.int 0))) ∧
            ((isT (AV.bin Go.BinOp.lss x3 (AV.int 0))) ∧
            ((AV.flatS (AV.mk 6 [])) ∧
            ((AV.flat (AV.int 4)) ∧
            (fSame (AV.tup [(AV.mk 6 []), (AV.int 4)]) r)))))) ∧
          ((isF (AV.bin Go.BinOp.lss x3 (AV.int 0))) →
            ((AV.binOk Go.BinOp.gtr x3 (AV.int 60000)) ∧
            ((AV.isBool (AV.bin Go.BinOp.lss x3 (AV.int 0))) ∧
            ((isF (AV.bin Go.BinOp.lss x3 (AV.int 0))) ∧
            ((AV.isBool (AV.bin Go.BinOp.gtr x3 (AV.int 60000))) ∧
            (((isT (AV.bin Go.BinOp.gtr x3 (AV.int 60000))) →
              ((AV.flatS (AV.mk 6 [])) ∧
              ((AV.flat (AV.int 4)) ∧
              (fSame (AV.tup [(AV.mk 6 []), (AV.int 4)]) r)))) ∧
            ((isF (AV.bin Go.BinOp.gtr x3 (AV.int 60000))) →
              ((AV.isSl x0 4) ∧
              (fLoop 2113 [(AV.int 0), (AV.mk 6 [])] fun ys2113 again2113 =>
                ((AV.binOk Go.BinOp.lss (ys2113.getD 0 default) (AV.len x0)) ∧
                ((AV.isBool (AV.bin Go.BinOp.lss (ys2113.getD 0 default) (AV.len x0))) ∧
                (((isT (AV.bin Go.BinOp.lss (ys2113.getD 0 default) (AV.len x0))) →
                  ((AV.isSl x0 4) ∧
                  ((AV.inb x0 (ys2113.getD 0 default)) ∧
                  ((AV.isAgg (AV.atAgg x0 (ys2113.getD 0 default) 0 4) 4) ∧
                  ((AV.isSl x0 4) ∧
                  ((AV.inb x0 (AV.int 0)) ∧
                  ((AV.binOk Go.BinOp.sub (AV.cel (AV.atAgg x0 (ys2113.getD 0 default) 0 4) 0) (AV.at x0 (AV.int 0) 0)) ∧
                  ((AV.binOk Go.BinOp.mul x2 (AV.bin Go.BinOp.sub (AV.cel (AV.atAgg x0 (ys2113.getD 0 default) 0 4) 0) (AV.at x0 (AV.int 0) 0))) ∧
                  (∃ r3009 : AV, ((Fn Tryz.prog 14 [(AV.bin Go.BinOp.mul x2 (AV.bin Go.BinOp.sub (AV.cel (AV.atAgg x0 (ys2113.getD 0 default) 0 4) 0) (AV.at x0 (AV.int 0) 0))), (AV.int 60)] (Sh.tup [Sh.sc, Sh.sc]) r3009) ∧
                  ((AV.binOk Go.BinOp.add x1 (AV.prj r3009 0)) ∧
                  ((AV.binOk Go.BinOp.gtr (AV.bin Go.BinOp.add x1 (AV.prj r3009 0)) (AV.int 1000000)) ∧
                  ((AV.isBool (AV.bin Go.BinOp.gtr (AV.bin Go.BinOp.add x1 (AV.prj r3009 0)) (AV.int 1000000))) ∧
                  (((isT (AV.bin Go.BinOp.gtr (AV.bin Go.BinOp.add x1 (AV.prj r3009 0)) (AV.int 1000000))) →
                    ((AV.flatS (AV.mk 6 [])) ∧
                    ((AV.flat (AV.int 4)) ∧
                    (fSame (AV.tup [(AV.mk 6 []), (AV.int 4)]) r)))) ∧
                  ((isF (AV.bin Go.BinOp.gtr (AV.bin Go.BinOp.add x1 (AV.prj r3009 0)) (AV.int 1000000))) →
                    ((AV.binOk Go.BinOp.add x1 (AV.prj r3009 0)) ∧
                    ((AV.isOne (AV.bin Go.BinOp.add x1 (AV.prj r3009 0))) ∧
                    ((AV.isOne x3) ∧
                    ((AV.room (ys2113.getD 1 default) (AV.mk 6 [[(AV.cel (AV.atAgg x0 (ys2113.getD 0 default) 0 4) 0), (AV.cel (AV.atAgg x0 (ys2113.getD 0 default) 0 4) 1), (AV.cel (AV.atAgg x0 (ys2113.getD 0 default) 0 4) 2), (AV.cel (AV.atAgg x0 (ys2113.getD 0 default) 0 4) 3), (AV.bin Go.BinOp.add x1 (AV.prj r3009 0)), x3]]) 48) ∧
                    ((AV.binOk Go.BinOp.add (ys2113.getD 0 default) (AV.int 1)) ∧
                    (again2113 [(AV.bin Go.BinOp.add (ys2113.getD 0 default) (AV.int 1)), (AV.app 6 (ys2113.getD 1 default) (AV.mk 6 [[(AV.cel (AV.atAgg x0 (ys2113.getD 0 default) 0 4) 0), (AV.cel (AV.atAgg x0 (ys2113.getD 0 default) 0 4) 1), (AV.cel (AV.atAgg x0 (ys2113.getD 0 default) 0 4) 2), (AV.cel (AV.atAgg x0 (ys2113.getD 0 default) 0 4) 3), (AV.bin Go.BinOp.add x1 (AV.prj r3009 0)), x3]]))]))))))))))))))))))))) ∧
                ((isF (AV.bin Go.BinOp.lss (ys2113.getD 0 default) (AV.len x0))) →
                  ((AV.flatS (ys2113.getD 1 default)) ∧
                  ((AV.flat (AV.int 0)) ∧
                  (fSame (AV.tup [(ys2113.getD 1 default), (AV.int 0)]) r)))))))))))))))))))))))))))))))))))))))))))))))))) := by kernel_rfl
theorem has_form (x0 x1 x2 x3 r : AV) : fnF Tryz.prog Γ ann 3 7 Tryz.f7 (Tryz.f7.body.getD .skip) (.nil) [x0, x1, x2, x3] (.tup [.sc, .sc]) r = (((AV.isAgg x2 2) ∧
(∃ r321 : AV, ((Fn Tryz.prog 12 [x0, x1] (Sh.tup [Sh.sc, Sh.sc]) r321) ∧
((AV.isAgg (AV.prj r321 0) 6) ∧
((AV.binOk Go.BinOp.neq (AV.prj r321 1) (AV.int 0)) ∧
((AV.isBool (AV.bin Go.BinOp.neq (AV.prj r321 1) (AV.int 0))) ∧
(((isT (AV.bin Go.BinOp.neq (AV.prj r321 1) (AV.int 0))) →
  ((AV.flat (AV.bool false)) ∧
  ((AV.flat (AV.prj r321 1)) ∧
  (fSame (AV.tup [(AV.bool false), (AV.prj r321 1)]) r)))) ∧
((isF (AV.bin Go.BinOp.neq (AV.prj r321 1) (AV.int 0))) →
  (∃ r961 : AV, ((Fn Tryz.prog 16 [(AV.agg [(AV.cel x2 0), (AV.cel x2 1)])] Sh.sc r961) ∧
  ((AV.binOk Go.BinOp.neq r961 (AV.int 0)) ∧
  ((AV.isBool (AV.bin Go.BinOp.neq r961 (AV.int 0))) ∧
  (((isT (AV.bin Go.BinOp.neq r961 (AV.int 0))) →
    ((AV.flat (AV.bool false)) ∧
    ((AV.flat r961) ∧
    (fSame (AV.tup [(AV.bool false), r961]) r)))) ∧
  ((isF (AV.bin Go.BinOp.neq r961 (AV.int 0))) →
    ((AV.binOk Go.BinOp.lss x3 (AV.int 0)) ∧
    ((AV.isBool (AV.bin Go.BinOp.lss x3 (AV.int 0))) ∧
    (((isT (AV.bin Go.BinOp.lss x3 (AV.int 0))) →
      ((AV.isBool (AV.bin Go.BinOp.lss x3 (AV.int 0))) ∧
      ((isT (AV.bin Go.BinOp.lss x3 (AV.int 0))) ∧
      ((AV.flat (AV.bool false)) ∧
      ((AV.flat (AV.int 4)) ∧
      (fSame (AV.tup [(AV.bool false), (AV.int 4)]) r)))))) ∧
    ((isF (AV.bin Go.BinOp.lss x3 (AV.int 0))) →
      ((AV.binOk Go.BinOp.gtr x3 (AV.int 60000)) ∧
      ((AV.isBool (AV.bin Go.BinOp.lss x3 (AV.int 0))) ∧
      ((isF (AV.bin Go.BinOp.lss x3 (AV.int 0))) ∧
      ((AV.isBool (AV.bin Go.BinOp.gtr x3 (AV.int 60000))) ∧
      (((isT (AV.bin Go.BinOp.gtr x3 (AV.int 60000))) →
        ((AV.flat (AV.bool false)) ∧
        ((AV.flat (AV.int 4)) ∧
        (fSame (AV.tup [(AV.bool false), (AV.int 4)]) r)))) ∧
      ((isF (AV.bin Go.BinOp.gtr x3 (AV.int 60000))) →
        (∃ r1985 : AV, ((Fn Tryz.prog 17 [(AV.agg [(AV.cel (AV.prj r321 0) 1), (AV.cel (AV.prj r321 0) 2)]), (AV.agg [(AV.cel x2 0), (AV.cel x2 1)]), (AV.cel (AV.prj r321 0) 4)] Sh.sc r1985) ∧
        ((AV.isBool r1985) ∧
        (((isT r1985) →
          ((AV.binOk Go.BinOp.sub (AV.cel (AV.prj r321 0) 3) x3) ∧
          ((AV.binOk Go.BinOp.sub x3 (AV.cel (AV.prj r321 0) 3)) ∧
          ((AV.isInt (AV.bin Go.BinOp.sub (AV.cel (AV.prj r321 0) 3) x3)) ∧
          ((AV.isInt (AV.bin Go.BinOp.sub x3 (AV.cel (AV.prj r321 0) 3))) ∧
          ((AV.binOk Go.BinOp.leq (AV.mx (AV.bin Go.BinOp.sub (AV.cel (AV.prj r321 0) 3) x3) (AV.bin Go.BinOp.sub x3 (AV.cel (AV.prj r321 0) 3))) (AV.cel (AV.prj r321 0) 5)) ∧
          ((AV.isBool r1985) ∧
          ((isT r1985) ∧
          ((AV.flat (AV.bin Go.BinOp.leq (AV.mx (AV.bin Go.BinOp.sub (AV.cel (AV.prj r321 0) 3) x3) (AV.bin Go.BinOp.sub x3 (AV.cel (AV.prj r321 0) 3))) (AV.cel (AV.prj r321 0) 5))) ∧
          ((AV.flat (AV.int 0)) ∧
          (fSame (AV.tup [(AV.bin Go.BinOp.leq (AV.mx (AV.bin Go.BinOp.sub (AV.cel (AV.prj r321 0) 3) x3) (AV.bin Go.BinOp.sub x3 (AV.cel (AV.prj r321 0) 3))) (AV.cel (AV.prj r321 0) 5)), (AV.int 0)]) r))))))))))) ∧
        ((isF r1985) →
          ((AV.isBool r1985) ∧
          ((isF r1985) ∧
          ((AV.flat (AV.bool false)) ∧
          ((AV.flat (AV.int 0)) ∧
          (fSame (AV.tup [(AV.bool false), (AV.int 0)]) r))))))))))))))))))))))))))))))))))) := by kernel_rfl
theorem within_form (x0 x1 x2 r : AV) : fnF Tryz.prog Γ ann 3 17 Tryz.f17 (Tryz.f17.body.getD .skip) (.nil) [x0, x1, x2] (.sc) r = (((AV.isAgg x0 2) ∧
((AV.isAgg x1 2) ∧
((AV.binOk Go.BinOp.geq x2 (AV.int 0)) ∧
((AV.isBool (AV.bin Go.BinOp.geq x2 (AV.int 0))) ∧
(((isT (AV.bin Go.BinOp.geq x2 (AV.int 0))) →
  ((AV.binOk Go.BinOp.leq x2 (AV.int 8000000)) ∧
  ((AV.isBool (AV.bin Go.BinOp.geq x2 (AV.int 0))) ∧
  ((isT (AV.bin Go.BinOp.geq x2 (AV.int 0))) ∧
  ((AV.isBool (AV.bin Go.BinOp.leq x2 (AV.int 8000000))) ∧
  (((isT (AV.bin Go.BinOp.leq x2 (AV.int 8000000))) →
    (∃ r769 : AV, ((Fn Tryz.prog 25 [(AV.agg [(AV.cel x0 0), (AV.cel x0 1)]), (AV.agg [(AV.cel x1 0), (AV.cel x1 1)])] Sh.sc r769) ∧
    ((AV.binOk Go.BinOp.mul x2 x2) ∧
    ((AV.binOk Go.BinOp.leq r769 (AV.bin Go.BinOp.mul x2 x2)) ∧
    ((AV.isBool (AV.bin Go.BinOp.leq x2 (AV.int 8000000))) ∧
    ((isT (AV.bin Go.BinOp.leq x2 (AV.int 8000000))) ∧
    ((AV.flat (AV.bin Go.BinOp.leq r769 (AV.bin Go.BinOp.mul x2 x2))) ∧
    (fSame (AV.bin Go.BinOp.leq r769 (AV.bin Go.BinOp.mul x2 x2)) r))))))))) ∧
  ((isF (AV.bin Go.BinOp.leq x2 (AV.int 8000000))) →
    ((AV.isBool (AV.bin Go.BinOp.leq x2 (AV.int 8000000))) ∧
    ((isF (AV.bin Go.BinOp.leq x2 (AV.int 8000000))) ∧
    ((AV.flat (AV.bool false)) ∧
    (fSame (AV.bool false) r))))))))))) ∧
((isF (AV.bin Go.BinOp.geq x2 (AV.int 0))) →
  ((AV.isBool (AV.bin Go.BinOp.geq x2 (AV.int 0))) ∧
  ((isF (AV.bin Go.BinOp.geq x2 (AV.int 0))) ∧
  ((AV.flat (AV.bool false)) ∧
  (fSame (AV.bool false) r))))))))))) := by kernel_rfl
theorem add_form (x0 x1 r : AV) : fnF Tryz.prog Γ ann 3 8 Tryz.f8 (Tryz.f8.body.getD .skip) (.nil) [x0, x1] (.sc) r = (((AV.isAgg x0 2) ∧
((AV.isAgg x1 2) ∧
((AV.binOk Go.BinOp.add (AV.cel x0 0) (AV.cel x1 0)) ∧
((AV.binOk Go.BinOp.add (AV.cel x0 1) (AV.cel x1 1)) ∧
((AV.isOne (AV.bin Go.BinOp.add (AV.cel x0 0) (AV.cel x1 0))) ∧
((AV.isOne (AV.bin Go.BinOp.add (AV.cel x0 1) (AV.cel x1 1))) ∧
((AV.flat (AV.agg [(AV.bin Go.BinOp.add (AV.cel x0 0) (AV.cel x1 0)), (AV.bin Go.BinOp.add (AV.cel x0 1) (AV.cel x1 1))])) ∧
(fSame (AV.agg [(AV.bin Go.BinOp.add (AV.cel x0 0) (AV.cel x1 0)), (AV.bin Go.BinOp.add (AV.cel x0 1) (AV.cel x1 1))]) r))))))))) := by kernel_rfl
theorem law_form (x0 x1 x2 x3 x4 x5 x6 r : AV) : fnF Tryz.prog Γ ann 3 3 Tryz.f3 (Tryz.f3.body.getD .skip) (.nil) [x0, x1, x2, x3, x4, x5, x6] (.sc) r = (((AV.isAgg x4 2) ∧
(∃ r129 : AV, ((Fn Tryz.prog 4 [] Sh.sc r129) ∧
((AV.unOk Go.UnOp.not r129) ∧
((AV.isBool (AV.un Go.UnOp.not r129)) ∧
(((isT (AV.un Go.UnOp.not r129)) →
  ((AV.flat (AV.bool false)) ∧
  (fSame (AV.bool false) r))) ∧
((isF (AV.un Go.UnOp.not r129)) →
  (∃ r513 : AV, ((Fn Tryz.prog 5 [x0, x1, x2, x3] (Sh.tup [(Sh.row 54 6 true), Sh.sc]) r513) ∧
  ((AV.binOk Go.BinOp.neq (AV.prj r513 1) (AV.int 0)) ∧
  ((AV.isBool (AV.bin Go.BinOp.neq (AV.prj r513 1) (AV.int 0))) ∧
  (((isT (AV.bin Go.BinOp.neq (AV.prj r513 1) (AV.int 0))) →
    ((AV.binOk Go.BinOp.eql (AV.len (AV.prj r513 0)) (AV.int 0)) ∧
    ((AV.flat (AV.bin Go.BinOp.eql (AV.len (AV.prj r513 0)) (AV.int 0))) ∧
    (fSame (AV.bin Go.BinOp.eql (AV.len (AV.prj r513 0)) (AV.int 0)) r)))) ∧
  ((isF (AV.bin Go.BinOp.neq (AV.prj r513 1) (AV.int 0))) →
    ((AV.binOk Go.BinOp.lss (AV.cel x4 0) (AV.int (-1000000))) ∧
    ((AV.isBool (AV.bin Go.BinOp.lss (AV.cel x4 0) (AV.int (-1000000)))) ∧
    (((isT (AV.bin Go.BinOp.lss (AV.cel x4 0) (AV.int (-1000000)))) →
      ((AV.isBool (AV.bin Go.BinOp.lss (AV.cel x4 0) (AV.int (-1000000)))) ∧
      ((isT (AV.bin Go.BinOp.lss (AV.cel x4 0) (AV.int (-1000000)))) ∧
      ((AV.flat (AV.bool true)) ∧
      (fSame (AV.bool true) r))))) ∧
    ((isF (AV.bin Go.BinOp.lss (AV.cel x4 0) (AV.int (-1000000)))) →
      ((AV.binOk Go.BinOp.gtr (AV.cel x4 0) (AV.int 1000000)) ∧
      ((AV.isBool (AV.bin Go.BinOp.lss (AV.cel x4 0) (AV.int (-1000000)))) ∧
      ((isF (AV.bin Go.BinOp.lss (AV.cel x4 0) (AV.int (-1000000)))) ∧
      ((AV.isBool (AV.bin Go.BinOp.gtr (AV.cel x4 0) (AV.int 1000000))) ∧
      (((isT (AV.bin Go.BinOp.gtr (AV.cel x4 0) (AV.int 1000000))) →
        ((AV.isBool (AV.bin Go.BinOp.gtr (AV.cel x4 0) (AV.int 1000000))) ∧
        ((isT (AV.bin Go.BinOp.gtr (AV.cel x4 0) (AV.int 1000000))) ∧
        ((AV.flat (AV.bool true)) ∧
        (fSame (AV.bool true) r))))) ∧
      ((isF (AV.bin Go.BinOp.gtr (AV.cel x4 0) (AV.int 1000000))) →
        ((AV.binOk Go.BinOp.lss (AV.cel x4 1) (AV.int (-1000000))) ∧
        ((AV.isBool (AV.bin Go.BinOp.gtr (AV.cel x4 0) (AV.int 1000000))) ∧
        ((isF (AV.bin Go.BinOp.gtr (AV.cel x4 0) (AV.int 1000000))) ∧
        ((AV.isBool (AV.bin Go.BinOp.lss (AV.cel x4 1) (AV.int (-1000000)))) ∧
        (((isT (AV.bin Go.BinOp.lss (AV.cel x4 1) (AV.int (-1000000)))) →
          ((AV.isBool (AV.bin Go.BinOp.lss (AV.cel x4 1) (AV.int (-1000000)))) ∧
          ((isT (AV.bin Go.BinOp.lss (AV.cel x4 1) (AV.int (-1000000)))) ∧
          ((AV.flat (AV.bool true)) ∧
          (fSame (AV.bool true) r))))) ∧
        ((isF (AV.bin Go.BinOp.lss (AV.cel x4 1) (AV.int (-1000000)))) →
          ((AV.binOk Go.BinOp.gtr (AV.cel x4 1) (AV.int 1000000)) ∧
          ((AV.isBool (AV.bin Go.BinOp.lss (AV.cel x4 1) (AV.int (-1000000)))) ∧
          ((isF (AV.bin Go.BinOp.lss (AV.cel x4 1) (AV.int (-1000000)))) ∧
          ((AV.isBool (AV.bin Go.BinOp.gtr (AV.cel x4 1) (AV.int 1000000))) ∧
          (((isT (AV.bin Go.BinOp.gtr (AV.cel x4 1) (AV.int 1000000))) →
            ((AV.isBool (AV.bin Go.BinOp.gtr (AV.cel x4 1) (AV.int 1000000))) ∧
            ((isT (AV.bin Go.BinOp.gtr (AV.cel x4 1) (AV.int 1000000))) ∧
            ((AV.flat (AV.bool true)) ∧
            (fSame (AV.bool true) r))))) ∧
          ((isF (AV.bin Go.BinOp.gtr (AV.cel x4 1) (AV.int 1000000))) →
            ((AV.binOk Go.BinOp.lss x5 (AV.int (-60000))) ∧
            ((AV.isBool (AV.bin Go.BinOp.gtr (AV.cel x4 1) (AV.int 1000000))) ∧
            ((isF (AV.bin Go.BinOp.gtr (AV.cel x4 1) (AV.int 1000000))) ∧
            ((AV.isBool (AV.bin Go.BinOp.lss x5 (AV.int (-60000)))) ∧
            (((isT (AV.bin Go.BinOp.lss x5 (AV.int (-60000)))) →
              ((AV.isBool (AV.bin Go.BinOp.lss x5 (AV.int (-60000)))) ∧
              ((isT (AV.bin Go.BinOp.lss x5 (AV.int (-60000)))) ∧
              ((AV.flat (AV.bool true)) ∧
              (fSame (AV.bool true) r))))) ∧
            ((isF (AV.bin Go.BinOp.lss x5 (AV.int (-60000)))) →
              ((AV.binOk Go.BinOp.gtr x5 (AV.int 60000)) ∧
              ((AV.isBool (AV.bin Go.BinOp.lss x5 (AV.int (-60000)))) ∧
              ((isF (AV.bin Go.BinOp.lss x5 (AV.int (-60000)))) ∧
              ((AV.isBool (AV.bin Go.BinOp.gtr x5 (AV.int 60000))) ∧
              (((isT (AV.bin Go.BinOp.gtr x5 (AV.int 60000))) →
                ((AV.flat (AV.bool true)) ∧
                (fSame (AV.bool true) r))) ∧
              ((isF (AV.bin Go.BinOp.gtr x5 (AV.int 60000))) →
                ((AV.isSl x0 4) ∧
                ((AV.inb x0 (AV.int 0)) ∧
                ((AV.binOk Go.BinOp.rem x6 (AV.int 2000)) ∧
                ((AV.binOk Go.BinOp.add (AV.bin Go.BinOp.rem x6 (AV.int 2000)) (AV.int 2000)) ∧
                ((AV.binOk Go.BinOp.rem (AV.bin Go.BinOp.add (AV.bin Go.BinOp.rem x6 (AV.int 2000)) (AV.int 2000)) (AV.int 2000)) ∧
                ((AV.binOk Go.BinOp.add (AV.at x0 (AV.int 0) 0) (AV.bin Go.BinOp.rem (AV.bin Go.BinOp.add (AV.bin Go.BinOp.rem x6 (AV.int 2000)) (AV.int 2000)) (AV.int 2000))) ∧
                (∃ r3457 : AV, ((Fn Tryz.prog 6 [x0, (AV.bin Go.BinOp.add (AV.at x0 (AV.int 0) 0) (AV.bin Go.BinOp.rem (AV.bin Go.BinOp.add (AV.bin Go.BinOp.rem x6 (AV.int 2000)) (AV.int 2000)) (AV.int 2000)))] (Sh.tup [Sh.sc, Sh.sc]) r3457) ∧
                ((AV.isAgg (AV.prj r3457 0) 4) ∧
                ((AV.binOk Go.BinOp.neq (AV.prj r3457 1) (AV.int 0)) ∧
                ((AV.isBool (AV.bin Go.BinOp.neq (AV.prj r3457 1) (AV.int 0))) ∧
                (((isT (AV.bin Go.BinOp.neq (AV.prj r3457 1) (AV.int 0))) →
                  ((AV.binOk Go.BinOp.eql (AV.prj r3457 1) (AV.int 12)) ∧
                  ((AV.flat (AV.bin Go.BinOp.eql (AV.prj r3457 1) (AV.int 12))) ∧
                  (fSame (AV.bin Go.BinOp.eql (AV.prj r3457 1) (AV.int 12)) r)))) ∧
                ((isF (AV.bin Go.BinOp.neq (AV.prj r3457 1) (AV.int 0))) →
                  (∃ r4353 : AV, ((Fn Tryz.prog 8 [(AV.agg [(AV.cel (AV.prj r3457 0) 1), (AV.cel (AV.prj r3457 0) 2)]), (AV.agg [(AV.cel x4 0), (AV.cel x4 1)])] Sh.sc r4353) ∧
                  ((AV.binOk Go.BinOp.add (AV.cel (AV.prj r3457 0) 3) x5) ∧
                  (∃ r4673 : AV, ((Fn Tryz.prog 7 [(AV.prj r513 0), (AV.bin Go.BinOp.add (AV.at x0 (AV.int 0) 0) (AV.bin Go.BinOp.rem (AV.bin Go.BinOp.add (AV.bin Go.BinOp.rem x6 (AV.int 2000)) (AV.int 2000)) (AV.int 2000))), r4353, (AV.bin Go.BinOp.add (AV.cel (AV.prj r3457 0) 3) x5)] (Sh.tup [Sh.sc, Sh.sc]) r4673) ∧
                  ((AV.binOk Go.BinOp.neq (AV.prj r4673 1) (AV.int 0)) ∧
                  ((AV.isBool (AV.bin Go.BinOp.neq (AV.prj r4673 1) (AV.int 0))) ∧
                  (((isT (AV.bin Go.BinOp.neq (AV.prj r4673 1) (AV.int 0))) →
                    ((AV.isBool (AV.bin Go.BinOp.neq (AV.prj r4673 1) (AV.int 0))) ∧
                    ((isT (AV.bin Go.BinOp.neq (AV.prj r4673 1) (AV.int 0))) ∧
                    ((AV.unOk Go.UnOp.not (AV.prj r4673 0)) ∧
                    ((AV.isBool (AV.un Go.UnOp.not (AV.prj r4673 0))) ∧
                    (((isT (AV.un Go.UnOp.not (AV.prj r4673 0))) →
                      ((AV.isBool (AV.un Go.UnOp.not (AV.prj r4673 0))) ∧
                      ((isT (AV.un Go.UnOp.not (AV.prj r4673 0))) ∧
                      ((AV.flat (AV.bool true)) ∧
                      (fSame (AV.bool true) r))))) ∧
                    ((isF (AV.un Go.UnOp.not (AV.prj r4673 0))) →
                      ((AV.binOk Go.BinOp.eql (AV.prj r4673 1) (AV.int 0)) ∧
                      ((AV.isBool (AV.un Go.UnOp.not (AV.prj r4673 0))) ∧
                      ((isF (AV.un Go.UnOp.not (AV.prj r4673 0))) ∧
                      ((AV.flat (AV.bin Go.BinOp.eql (AV.prj r4673 1) (AV.int 0))) ∧
                      (fSame (AV.bin Go.BinOp.eql (AV.prj r4673 1) (AV.int 0)) r)))))))))))) ∧
                  ((isF (AV.bin Go.BinOp.neq (AV.prj r4673 1) (AV.int 0))) →
                    ((AV.binOk Go.BinOp.mul (AV.cel x4 0) (AV.cel x4 0)) ∧
                    ((AV.binOk Go.BinOp.mul (AV.cel x4 1) (AV.cel x4 1)) ∧
                    ((AV.binOk Go.BinOp.add (AV.bin Go.BinOp.mul (AV.cel x4 0) (AV.cel x4 0)) (AV.bin Go.BinOp.mul (AV.cel x4 1) (AV.cel x4 1))) ∧
                    ((AV.binOk Go.BinOp.mul x1 x1) ∧
                    ((AV.binOk Go.BinOp.gtr (AV.bin Go.BinOp.add (AV.bin Go.BinOp.mul (AV.cel x4 0) (AV.cel x4 0)) (AV.bin Go.BinOp.mul (AV.cel x4 1) (AV.cel x4 1))) (AV.bin Go.BinOp.mul x1 x1)) ∧
                    ((AV.isBool (AV.bin Go.BinOp.neq (AV.prj r4673 1) (AV.int 0))) ∧
                    ((isF (AV.bin Go.BinOp.neq (AV.prj r4673 1) (AV.int 0))) ∧
                    ((AV.isBool (AV.bin Go.BinOp.gtr (AV.bin Go.BinOp.add (AV.bin Go.BinOp.mul (AV.cel x4 0) (AV.cel x4 0)) (AV.bin Go.BinOp.mul (AV.cel x4 1) (AV.cel x4 1))) (AV.bin Go.BinOp.mul x1 x1))) ∧
                    (((isT (AV.bin Go.BinOp.gtr (AV.bin Go.BinOp.add (AV.bin Go.BinOp.mul (AV.cel x4 0) (AV.cel x4 0)) (AV.bin Go.BinOp.mul (AV.cel x4 1) (AV.cel x4 1))) (AV.bin Go.BinOp.mul x1 x1))) →
                      ((AV.isBool (AV.bin Go.BinOp.gtr (AV.bin Go.BinOp.add (AV.bin Go.BinOp.mul (AV.cel x4 0) (AV.cel x4 0)) (AV.bin Go.BinOp.mul (AV.cel x4 1) (AV.cel x4 1))) (AV.bin Go.BinOp.mul x1 x1))) ∧
                      ((isT (AV.bin Go.BinOp.gtr (AV.bin Go.BinOp.add (AV.bin Go.BinOp.mul (AV.cel x4 0) (AV.cel x4 0)) (AV.bin Go.BinOp.mul (AV.cel x4 1) (AV.cel x4 1))) (AV.bin Go.BinOp.mul x1 x1))) ∧
                      ((AV.unOk Go.UnOp.not (AV.prj r4673 0)) ∧
                      ((AV.isBool (AV.un Go.UnOp.not (AV.prj r4673 0))) ∧
                      (((isT (AV.un Go.UnOp.not (AV.prj r4673 0))) →
                        ((AV.isBool (AV.un Go.UnOp.not (AV.prj r4673 0))) ∧
                        ((isT (AV.un Go.UnOp.not (AV.prj r4673 0))) ∧
                        ((AV.flat (AV.bool true)) ∧
                        (fSame (AV.bool true) r))))) ∧
                      ((isF (AV.un Go.UnOp.not (AV.prj r4673 0))) →
                        ((AV.binOk Go.BinOp.eql (AV.prj r4673 1) (AV.int 0)) ∧
                        ((AV.isBool (AV.un Go.UnOp.not (AV.prj r4673 0))) ∧
                        ((isF (AV.un Go.UnOp.not (AV.prj r4673 0))) ∧
                        ((AV.flat (AV.bin Go.BinOp.eql (AV.prj r4673 1) (AV.int 0))) ∧
                        (fSame (AV.bin Go.BinOp.eql (AV.prj r4673 1) (AV.int 0)) r)))))))))))) ∧
                    ((isF (AV.bin Go.BinOp.gtr (AV.bin Go.BinOp.add (AV.bin Go.BinOp.mul (AV.cel x4 0) (AV.cel x4 0)) (AV.bin Go.BinOp.mul (AV.cel x4 1) (AV.cel x4 1))) (AV.bin Go.BinOp.mul x1 x1))) →
                      ((AV.binOk Go.BinOp.gtr x5 x3) ∧
                      ((AV.isBool (AV.bin Go.BinOp.gtr (AV.bin Go.BinOp.add (AV.bin Go.BinOp.mul (AV.cel x4 0) (AV.cel x4 0)) (AV.bin Go.BinOp.mul (AV.cel x4 1) (AV.cel x4 1))) (AV.bin Go.BinOp.mul x1 x1))) ∧
                      ((isF (AV.bin Go.BinOp.gtr (AV.bin Go.BinOp.add (AV.bin Go.BinOp.mul (AV.cel x4 0) (AV.cel x4 0)) (AV.bin Go.BinOp.mul (AV.cel x4 1) (AV.cel x4 1))) (AV.bin Go.BinOp.mul x1 x1))) ∧
                      ((AV.isBool (AV.bin Go.BinOp.gtr x5 x3)) ∧
                      (((isT (AV.bin Go.BinOp.gtr x5 x3)) →
                        ((AV.isBool (AV.bin Go.BinOp.gtr x5 x3)) ∧
                        ((isT (AV.bin Go.BinOp.gtr x5 x3)) ∧
                        ((AV.unOk Go.UnOp.not (AV.prj r4673 0)) ∧
                        ((AV.isBool (AV.un Go.UnOp.not (AV.prj r4673 0))) ∧
                        (((isT (AV.un Go.UnOp.not (AV.prj r4673 0))) →
                          ((AV.isBool (AV.un Go.UnOp.not (AV.prj r4673 0))) ∧
                          ((isT (AV.un Go.UnOp.not (AV.prj r4673 0))) ∧
                          ((AV.flat (AV.bool true)) ∧
                          (fSame (AV.bool true) r))))) ∧
                        ((isF (AV.un Go.UnOp.not (AV.prj r4673 0))) →
                          ((AV.binOk Go.BinOp.eql (AV.prj r4673 1) (AV.int 0)) ∧
                          ((AV.isBool (AV.un Go.UnOp.not (AV.prj r4673 0))) ∧
                          ((isF (AV.un Go.UnOp.not (AV.prj r4673 0))) ∧
                          ((AV.flat (AV.bin Go.BinOp.eql (AV.prj r4673 1) (AV.int 0))) ∧
                          (fSame (AV.bin Go.BinOp.eql (AV.prj r4673 1) (AV.int 0)) r)))))))))))) ∧
                      ((isF (AV.bin Go.BinOp.gtr x5 x3)) →
                        ((AV.unOk Go.UnOp.neg x5) ∧
                        ((AV.binOk Go.BinOp.gtr (AV.un Go.UnOp.neg x5) x3) ∧
                        ((AV.isBool (AV.bin Go.BinOp.gtr x5 x3)) ∧
                        ((isF (AV.bin Go.BinOp.gtr x5 x3)) ∧
                        ((AV.isBool (AV.bin Go.BinOp.gtr (AV.un Go.UnOp.neg x5) x3)) ∧
                        (((isT (AV.bin Go.BinOp.gtr (AV.un Go.UnOp.neg x5) x3)) →
                          ((AV.unOk Go.UnOp.not (AV.prj r4673 0)) ∧
                          ((AV.isBool (AV.un Go.UnOp.not (AV.prj r4673 0))) ∧
                          (((isT (AV.un Go.UnOp.not (AV.prj r4673 0))) →
                            ((AV.isBool (AV.un Go.UnOp.not (AV.prj r4673 0))) ∧
                            ((isT (AV.un Go.UnOp.not (AV.prj r4673 0))) ∧
                            ((AV.flat (AV.bool true)) ∧
                            (fSame (AV.bool true) r))))) ∧
                          ((isF (AV.un Go.UnOp.not (AV.prj r4673 0))) →
                            ((AV.binOk Go.BinOp.eql (AV.prj r4673 1) (AV.int 0)) ∧
                            ((AV.isBool (AV.un Go.UnOp.not (AV.prj r4673 0))) ∧
                            ((isF (AV.un Go.UnOp.not (AV.prj r4673 0))) ∧
                            ((AV.flat (AV.bin Go.BinOp.eql (AV.prj r4673 1) (AV.int 0))) ∧
                            (fSame (AV.bin Go.BinOp.eql (AV.prj r4673 1) (AV.int 0)) r)))))))))) ∧
                        ((isF (AV.bin Go.BinOp.gtr (AV.un Go.UnOp.neg x5) x3)) →
                          ((AV.flat (AV.prj r4673 0)) ∧
                          (fSame (AV.prj r4673 0) r))))))))))))))))))))))))))))))))))))))))))))))))))))))))))))))))))))))))))))))))))))))))))))))) := by kernel_rfl
end TtF
end Go.Proofs.YtfemeeffoapemaaGreatDoor
/- Paths: fly.Check, fly.At; tube.Of. -/
namespace Go.Proofs.YtfemeeffoapemaaGreatDoor
open Go.RowKit
set_option linter.unusedVariables false
set_option linter.unusedSimpArgs false
set_option maxRecDepth 100000
def encF (n : Nd) : List AV := [.int n.t, .int n.x, .int n.y, .int n.h]
abbrev path (l : List Nd) : AV := lst 4 encF l
/-- A path: nodes without a radius and a band. -/
def Pl (l : List Nd) : Prop := ∀ n ∈ l, n.r = 0 ∧ n.b = 0
theorem fcheck_fn (l : List Nd) (hpl : Pl l) : Fn Tryz.prog 13 [path l] .sc (.int (tE l)) := by
  have e := TtF.fcheck_form (path l) (.int (tE l))
  have k := fun h => fn_run mixed 3 (Γ := TtF.Γ) (ann := TtF.ann) Tryz.func13 rfl Tryz.call13 (e.mpr h)
  refine k ?_
  clear k e
  simp
  refine ⟨fun h => by unfold tE; rw [if_pos (by omega)], fun h64 => ⟨fun h => by unfold tE; rw [if_neg (by omega), if_pos (by simp [h])], fun h0 => ?_⟩⟩
  have hE : tE l = tG (-1) l := by
    unfold tE
    rw [if_neg (by omega), if_neg (by simpa using h0)]
  have hl64 : l.length ≤ 64 := by omega
  generalize tE l = E at hE ⊢
  refine loop_list (σ := Int) l (fun n _ => [.int (n : Nat)]) (fun n rest p => E = tG p rest ∧ ((n = 0 ∧ p = -1) ∨ ∃ y, 0 < n ∧ l[n - 1]? = some y ∧ y.t = p ∧ 0 ≤ p)) (-1) rfl ⟨hE, .inl ⟨rfl, rfl⟩⟩ ?_ ?_
  · rintro n x rest p K hx hr hn ⟨hg, hp⟩ hK
    have hw : wr ((n : Int) + 1) = (n : Int) + 1 := wr_id (by omega) (by omega)
    have hw1 : wr ((n : Int) - 1) = (n : Int) - 1 := wr_id (by omega) (by omega)
    have hrb := hpl x (List.mem_of_getElem? hx)
    rw [tG] at hg
    have g1 : nE p x ≠ 0 → nE p x = E := fun h => by rw [hg, if_pos h]
    have g2 : nE p x = 0 → K [.int ((n : Nat) + 1)] := fun h => hK _ x.t (by simp) ⟨by rw [hg, if_neg (by simp [h])], .inr ⟨x, by omega, by simpa using hx, rfl, (nE_ok h).1⟩⟩
    clear hg hK
    obtain ⟨xt, xx, xy, xh, xr, xb⟩ := x
    obtain ⟨rfl, rfl⟩ : xr = 0 ∧ xb = 0 := hrb
    have f1 : (xt < 0 ∨ xt > 200000 ∨ xt ≤ p) → 12 = E := fun h => by
      have : nE p ⟨xt, xx, xy, xh, 0, 0⟩ = 12 := by unfold nE; rw [if_pos h]
      rw [this] at g1; exact g1 (by decide)
    have f2 : ¬ (xt < 0 ∨ xt > 200000 ∨ xt ≤ p) → pE ⟨xx, xy⟩ ≠ 0 → pE ⟨xx, xy⟩ = E := fun h h2 => by
      have : nE p ⟨xt, xx, xy, xh, 0, 0⟩ = pE ⟨xx, xy⟩ := by unfold nE; rw [if_neg h]; exact if_pos h2
      rw [this] at g1; exact g1 h2
    have f3 : ¬ (xt < 0 ∨ xt > 200000 ∨ xt ≤ p) → pE ⟨xx, xy⟩ = 0 → (xh < 0 ∨ xh > 60000) → 4 = E := fun h h2 h3 => by
      have : nE p ⟨xt, xx, xy, xh, 0, 0⟩ = 4 := by unfold nE; rw [if_neg h, if_neg (by simp [Nd.p, h2]), if_pos (by simp only; omega)]
      rw [this] at g1; exact g1 (by decide)
    have f4 : ¬ (xt < 0 ∨ xt > 200000 ∨ xt ≤ p) → pE ⟨xx, xy⟩ = 0 → ¬ (xh < 0 ∨ xh > 60000) → K [.int ((n : Nat) + 1)] := fun h h2 h3 => g2 (by unfold nE; rw [if_neg h, if_neg (by simp [Nd.p, h2]), if_neg (by simp only; omega)])
    clear g1 g2
    have hpe := pe_fn ⟨xx, xy⟩
    generalize pE ⟨xx, xy⟩ = e at *
    have tail : ¬ (xt < 0 ∨ xt > 200000 ∨ xt ≤ p) → (e = 0 → xh < 0 → 4 = E) ∧ (e = 0 → 60000 < xh → 4 = E) ∧ (e = 0 → 0 ≤ xh → xh ≤ 60000 → K [.int ((n : Nat) + 1)]) := fun h =>
      ⟨fun a b => f3 h a (by omega), fun a b => f3 h a (by omega), fun a b c => f4 h a (by omega)⟩
    simp [hn, lst_atAgg hx, encF, hw, hw1]
    refine ⟨fun a => ⟨a, f1 (by omega)⟩, fun a => ⟨a, fun b => ⟨b, f1 (by omega)⟩, fun b => ⟨?_, ?_⟩⟩⟩
    · intro hn0
      rcases hp with ⟨hp1, _⟩ | ⟨y, hp1, hp2, hp3, hp4⟩
      · omega
      · have hat : AV.at (path l) (.lit (.int .i64 ((n : Int) - 1))) 0 = .int p := by
          have h1 : ((n : Int) - 1).toNat = n - 1 := by omega
          rw [lst_atI (by omega) (by rw [h1]; exact hp2)]
          simp [encF, hp3]
        have hin : (0 : Int) ≤ (n : Int) - 1 ∧ (n : Int) - 1 < l.length := ⟨by omega, by omega⟩
        simp only [hat]
        refine ⟨by omega, by simp, hn0, b, by simp, fun q => ?_, fun q => ?_⟩
        · have : xt ≤ p := by simpa using q
          exact f1 (by omega)
        have hq : p < xt := by simpa using q
        obtain ⟨t1, t2, t3⟩ := tail (by omega)
        refine ⟨_, hpe, ?_⟩
        simp
        exact ⟨fun z => f2 (by omega) z, fun z => ⟨fun a => ⟨a, t1 z a⟩, fun a1 => ⟨a1, fun a => t2 z a, fun a2 => t3 z a1 a2⟩⟩⟩
    · intro hn0
      refine ⟨hn0, b, ?_⟩
      have hp1 : p = -1 := by
        rcases hp with ⟨_, h⟩ | ⟨y, h, _⟩
        · exact h
        · omega
      obtain ⟨t1, t2, t3⟩ := tail (by omega)
      refine ⟨_, hpe, ?_⟩
      simp
      exact ⟨fun z => f2 (by omega) z, fun z => ⟨fun a => ⟨a, t1 z a⟩, fun a1 => ⟨a1, fun a => t2 z a, fun a2 => t3 z a1 a2⟩⟩⟩
  · rintro _ K ⟨hg, _⟩
    rw [tG] at hg
    simp [hg]
/-! ### fly.At -/
theorem ixF_succ {l : List Nd} {t : Int} {i : Nat} {a b : Nd} (hv : tE l = 0) (ha : l[i]? = some a) (hb : l[i + 1]? = some b) (h1 : a.t < t) (h2 : t ≤ b.t) : ixF t l = i + 1 := by
  obtain ⟨_, _, hG⟩ := tE_ok hv
  have hlt : i + 1 < l.length := (List.getElem?_eq_some_iff.1 hb).1
  refine ixF_is (by omega) (fun j x hj hx => ?_) (fun x hx => ?_)
  · rcases Nat.lt_or_ge j i with q | q
    · have := (tG_get hG hx).2.2 i a q ha
      omega
    · obtain rfl : j = i := by omega
      rw [ha] at hx; injection hx with hx
      rw [← hx]; exact h1
  · rw [hb] at hx; injection hx with hx
    rw [← hx]; omega
theorem ixF_eq {l : List Nd} {t : Int} {i : Nat} {a : Nd} (hv : tE l = 0) (ha : l[i]? = some a) (h1 : a.t = t) : ixF t l = i := by
  obtain ⟨_, _, hG⟩ := tE_ok hv
  have hlt : i < l.length := (List.getElem?_eq_some_iff.1 ha).1
  refine ixF_is (by omega) (fun j x hj hx => ?_) (fun x hx => ?_)
  · have := (tG_get hG hx).2.2 i a hj ha
    omega
  · rw [ha] at hx; injection hx with hx
    rw [← hx]; omega
end Go.Proofs.YtfemeeffoapemaaGreatDoor
/- fly.at, fly.At. -/
namespace Go.Proofs.YtfemeeffoapemaaGreatDoor
open Go.RowKit
set_option linter.unusedVariables false
set_option linter.unusedSimpArgs false
set_option maxRecDepth 100000
theorem fat_fn (l : List Nd) (t : Int) (hv : tE l = 0) (h0 : ∀ x, l[0]? = some x → x.t ≤ t) (h1 : ∀ x, l[l.length - 1]? = some x → t ≤ x.t) : Fn Tryz.prog 15 [path l, .int t] .sc (.agg (encF (atN l t))) := by
  have e := TtF.fat_form (path l) (.int t) (.agg (encF (atN l t)))
  refine fn_run mixed 3 (Γ := TtF.Γ) (ann := TtF.ann) (c := Tryz.f15.body.getD .skip) (orc := .nil) Tryz.func15 (by kernel_rfl) Tryz.call15 ?_
  rw [e]
  clear e
  obtain ⟨hpos, h64, hG⟩ := tE_ok hv
  refine ⟨fun m ys => ∃ i : Nat, ys = [.int (i : Int)] ∧ i < l.length ∧ m = l.length - i ∧ ∀ x, l[i]? = some x → x.t ≤ t, l.length, ⟨0, rfl, hpos, rfl, h0⟩, ?_⟩
  rintro m ys _ ⟨i, rfl, hi, rfl, hle⟩
  obtain ⟨a, ha⟩ : ∃ a, l[i]? = some a := ⟨_, List.getElem?_eq_getElem hi⟩
  have hat := hle a ha
  have hao := (tG_get hG ha).2.1
  have had : l.getD i default = a := by rw [List.getD_eq_getElem?_getD, ha]; rfl
  have ai : AV.bin Go.BinOp.add (.int (i : Int)) (.int 1) = .int (((i + 1 : Nat) : Int)) := by rw [av_add, wr_eq, wr_id (by omega) (by omega)]; rfl
  have ha0 : AV.atAgg (path l) (.int (i : Int)) 0 4 = .agg (encF a) := by rw [lst_atAgg ha]; rfl
  have c0 : AV.cel (.agg (encF a)) 0 = .int a.t := rfl
  have c1 : AV.cel (.agg (encF a)) 1 = .int a.x := rfl
  have c2 : AV.cel (.agg (encF a)) 2 = .int a.y := rfl
  have c3 : AV.cel (.agg (encF a)) 3 = .int a.h := rfl
  have hina : AV.inb (path l) (.int (i : Int)) := by simp; omega
  have heq : a.t = t → atN l t = a := fun q => by
    have hx := ixF_eq hv ha q
    unfold atN
    rw [hx, had, if_pos q]
  simp only [List.getD_cons_zero, ai, ha0, c0, c1, c2, c3]
  refine ⟨by simp, by simp, by simp, by simp, fun p => ?_, fun p => ?_⟩
  · have p' : i + 1 < l.length := by simp at p; omega
    obtain ⟨b, hb⟩ : ∃ b, l[i + 1]? = some b := ⟨_, List.getElem?_eq_getElem p'⟩
    have hbo := (tG_get hG hb).2.1
    have hbd : l.getD (i + 1) default = b := by rw [List.getD_eq_getElem?_getD, hb]; rfl
    have hb0 : AV.atAgg (path l) (.int (((i + 1 : Nat) : Int))) 0 4 = .agg (encF b) := by rw [lst_atAgg hb]; rfl
    have hbt : AV.at (path l) (.int (((i + 1 : Nat) : Int))) 0 = .int b.t := by rw [lst_at hb]; rfl
    have d0 : AV.cel (.agg (encF b)) 0 = .int b.t := rfl
    have d1 : AV.cel (.agg (encF b)) 1 = .int b.x := rfl
    have d2 : AV.cel (.agg (encF b)) 2 = .int b.y := rfl
    have d3 : AV.cel (.agg (encF b)) 3 = .int b.h := rfl
    have hinb : AV.inb (path l) (.int (((i + 1 : Nat) : Int))) := by simp; omega
    simp only [hb0, hbt, d0, d1, d2, d3]
    refine ⟨by simp, by simp, hinb, by simp, by simp, p, by simp, fun q => ⟨by simp, l.length - (i + 1), by omega, i + 1, rfl, p', rfl, fun x hx => ?_⟩, fun q => ?_⟩
    · rw [hb] at hx; injection hx with hx
      rw [← hx]; simpa using q
    · have q : t < b.t := by simpa using q
      refine ⟨by simp, hina, by simp [encF], by simp, by simp, fun z => ?_, fun z => ?_⟩
      · have z : a.t = t := by simpa using z
        rw [heq z]
        exact ⟨by simp, rfl⟩
      · have z : a.t ≠ t := by simpa using z
        have hlt : a.t < t := by omega
        have hix := ixF_succ hv ha hb hlt (by omega)
        have hN : atN l t = interp a b t := by
          unfold atN
          rw [hix, hbd, if_neg (by omega), show i + 1 - 1 = i by omega, had]
        have hio := interp_ok hao hbo hlt q
        have s1 : AV.bin Go.BinOp.sub (.int t) (.int a.t) = .int (t - a.t) := by rw [av_subt, wr_eq, wr_id (by have := hao.1; have := hbo.2.1; omega) (by have := hao.1; have := hbo.2.1; omega)]
        have s2 : AV.bin Go.BinOp.sub (.int b.t) (.int a.t) = .int (b.t - a.t) := by rw [av_subt, wr_eq, wr_id (by have := hao.1; have := hbo.2.1; omega) (by have := hao.1; have := hbo.2.1; omega)]
        have s3 : AV.bin Go.BinOp.sub (.int b.h) (.int a.h) = .int (b.h - a.h) := by
          have := hao.2.2.2.1; have := hao.2.2.2.2.1; have := hbo.2.2.2.1; have := hbo.2.2.2.2.1
          rw [av_subt, wr_eq, wr_id (by omega) (by omega)]
        have hm : -12000000000 ≤ (b.h - a.h) * (t - a.t) ∧ (b.h - a.h) * (t - a.t) ≤ 12000000000 := by
          have := hao.2.2.2.1; have := hao.2.2.2.2.1; have := hbo.2.2.2.1; have := hbo.2.2.2.2.1; have := hao.1; have := hbo.2.1
          have u1 : (b.h - a.h) * (t - a.t) ≤ 60000 * (t - a.t) := Int.mul_le_mul_of_nonneg_right (by omega) (by omega)
          have u2 : -60000 * (t - a.t) ≤ (b.h - a.h) * (t - a.t) := Int.mul_le_mul_of_nonneg_right (by omega) (by omega)
          omega
        have s4 : AV.bin Go.BinOp.mul (.int (b.h - a.h)) (.int (t - a.t)) = .int ((b.h - a.h) * (t - a.t)) := by rw [av_mul, wr_eq, wr_id (by omega) (by omega)]
        have hd := divd_fn ((b.h - a.h) * (t - a.t)) (b.t - a.t) (by omega) (by omega) (by omega)
        have ht := toward_fn a.p b.p (t - a.t) (b.t - a.t) hao.2.2.1 hbo.2.2.1 (by omega) (by have := hao.1; have := hbo.2.1; omega) (by omega) (by omega)
        have s5 : AV.bin Go.BinOp.add (.int a.h) (.int ((b.h - a.h) * (t - a.t) / (b.t - a.t))) = .int (a.h + (b.h - a.h) * (t - a.t) / (b.t - a.t)) := by
          have : 0 ≤ a.h + (b.h - a.h) * (t - a.t) / (b.t - a.t) := hio.2.1
          have : a.h + (b.h - a.h) * (t - a.t) / (b.t - a.t) ≤ 60000 := hio.2.2
          rw [av_add, wr_eq, wr_id (by omega) (by omega)]
        rw [hN]
        simp only [s1, s2, s3, s4]
        refine ⟨by simp, by simp, hinb, by simp [encF], by simp, by simp, _, ht, by simp [encP], by simp, by simp, by simp, by simp, _, hd, by simp, by simp, by simp, ?_⟩
        simp only [av_prj, List.getD_cons_zero, s5]
        exact ⟨by simp [encP], rfl⟩
  · have p' : ¬ i + 1 < l.length := by simp at p; omega
    have hil : i = l.length - 1 := by omega
    have z : a.t = t := by
      have := h1 a (by rw [← hil]; exact ha)
      omega
    refine ⟨by simp, p, by simp, hina, by simp [encF], by simp, by simp, fun _ => ?_, fun q => absurd q (by simp [z])⟩
    rw [heq z]
    exact ⟨by simp, rfl⟩
def fatE (l : List Nd) (t : Int) : Int := if tE l ≠ 0 then tE l else if t < (l.getD 0 default).t ∨ t > (l.getD (l.length - 1) default).t then 12 else 0
def fatV (l : List Nd) (t : Int) : AV := if tatE l t = 0 then .tup [.agg (encF (atN l t)), .int 0] else .tup [.agg (encF nd0), .int (tatE l t)]
theorem fAt_fn (l : List Nd) (t : Int) (hpl : Pl l) : Fn Tryz.prog 6 [path l, .int t] (.tup [.sc, .sc]) (fatV l t) := by
  have e := TtF.fAt_form (path l) (.int t) (fatV l t)
  have k := fun h => fn_run mixed 3 (Γ := TtF.Γ) (ann := TtF.ann) Tryz.func6 rfl Tryz.call6 (e.mpr h)
  refine k ?_
  clear k e
  refine ⟨_, fcheck_fn l hpl, by simp, by simp, fun g => ?_, fun g => ?_⟩
  · have g : tE l ≠ 0 := by simpa using g
    have : tatE l t = tE l := by unfold tatE; rw [if_pos g]
    unfold fatV
    rw [this, if_neg g]
    exact ⟨by simp, .lit _, rfl⟩
  · have g : tE l = 0 := by simpa using g
    obtain ⟨hp, h64, hG⟩ := tE_ok g
    obtain ⟨a, ha⟩ : ∃ a, l[0]? = some a := ⟨_, List.getElem?_eq_getElem hp⟩
    obtain ⟨b, hb⟩ : ∃ b, l[l.length - 1]? = some b := ⟨_, List.getElem?_eq_getElem (by omega)⟩
    have had : l.getD 0 default = a := by rw [List.getD_eq_getElem?_getD, ha]; rfl
    have hbd : l.getD (l.length - 1) default = b := by rw [List.getD_eq_getElem?_getD, hb]; rfl
    have hV2 : (t < a.t ∨ t > b.t) → fatV l t = .tup [.agg (encF nd0), .int 12] := fun q => by
      have : tatE l t = 12 := by unfold tatE; rw [if_neg (by simp [g]), had, hbd, if_pos q]
      unfold fatV; rw [this, if_neg (by decide)]
    have hV3 : ¬ (t < a.t ∨ t > b.t) → fatV l t = .tup [.agg (encF (atN l t)), .int 0] := fun q => by
      have : tatE l t = 0 := by unfold tatE; rw [if_neg (by simp [g]), had, hbd, if_neg q]
      unfold fatV; rw [if_pos this]
    have hat0 : AV.at (path l) (.int 0) 0 = .int a.t := by rw [lst_atI (by omega) (by simpa using ha)]; rfl
    have hat1 : AV.at (path l) (.int ((l.length : Int) - 1)) 0 = .int b.t := by rw [lst_atI (by omega) (by rw [show ((l.length : Int) - 1).toNat = l.length - 1 by omega]; exact hb)]; rfl
    have hsub : AV.bin Go.BinOp.sub (AV.len (path l)) (.int 1) = .int ((l.length : Int) - 1) := by
      have : wr ((l.length : Int) - 1) = (l.length : Int) - 1 := wr_id (by omega) (by omega)
      simp [this]
    simp only [hat0, hat1, hsub]
    refine ⟨by simp, by simp; omega, by simp, by simp, fun q => ⟨by simp, q, ?_⟩, fun q => ⟨by simp, by simp, by simp, by simp; omega, by simp, by simp, q, by simp, fun q2 => ?_, fun q2 => ?_⟩⟩
    · have q : t < a.t := by simpa using q
      rw [hV2 (.inl q)]
      exact ⟨by simp, .lit _, rfl⟩
    · have q2 : b.t < t := by simpa using q2
      rw [hV2 (.inr q2)]
      exact ⟨by simp, .lit _, rfl⟩
    · have q : a.t ≤ t := by simpa using q
      have q2 : t ≤ b.t := by simpa using q2
      rw [hV3 (by omega)]
      refine ⟨_, fat_fn l t g (fun x hx => by rw [ha] at hx; injection hx with hx; rw [← hx]; exact q) (fun x hx => by rw [hb] at hx; injection hx with hx; rw [← hx]; exact q2), by simp [encF], ?_⟩
      exact ⟨by simp [encF], .lit _, rfl⟩
end Go.Proofs.YtfemeeffoapemaaGreatDoor
/- tube.Of, tube.Has, plane.Within, plane.Add. -/
namespace Go.Proofs.YtfemeeffoapemaaGreatDoor
open Go.RowKit
set_option linter.unusedVariables false
set_option linter.unusedSimpArgs false
set_option maxRecDepth 100000
def mkT (r g b t0 : Int) (n : Nd) : Nd := ⟨n.t, n.x, n.y, n.h, r + dvu (g * (n.t - t0)) 60, b⟩
def tofE (l : List Nd) (r g b : Int) : Int := if tE l ≠ 0 then tE l else if r < 0 ∨ r > 1000000 ∨ g < 0 ∨ g > 1000000 ∨ b < 0 ∨ b > 60000 then 4 else if (l.all fun n => decide (r + dvu (g * (n.t - (l.getD 0 default).t)) 60 ≤ 1000000)) = true then 0 else 4
def tofV (l : List Nd) (r g b : Int) : AV := if tofE l r g b = 0 then .tup [tube (l.map (mkT r g b (l.getD 0 default).t)), .int 0] else .tup [.sl 6 [], .int (tofE l r g b)]
theorem dvu60 {m : Int} (h1 : -200000000000 ≤ m) (h2 : m ≤ 200000000000) : -200000000000 ≤ dvu m 60 ∧ dvu m 60 ≤ 200000000000 := by
  unfold dvu
  split <;> omega
theorem tof_fn (l : List Nd) (r g b : Int) (hpl : Pl l) : Fn Tryz.prog 5 [path l, .int r, .int g, .int b] (.tup [.row 54 6 true, .sc]) (tofV l r g b) := by
  have e := TtF.of_form (path l) (.int r) (.int g) (.int b) (tofV l r g b)
  have k := fun h => fn_run mixed 3 (Γ := TtF.Γ) (ann := TtF.ann) Tryz.func5 rfl Tryz.call5 (e.mpr h)
  refine k ?_
  clear k e
  refine ⟨_, fcheck_fn l hpl, by simp, by simp, fun q => ?_, fun q => ?_⟩
  · have q : tE l ≠ 0 := by simpa using q
    have : tofE l r g b = tE l := by unfold tofE; rw [if_pos q]
    unfold tofV
    rw [this, if_neg q]
    exact ⟨by simp [AV.flatS], .lit _, rfl⟩
  · have q : tE l = 0 := by simpa using q
    have hbad : (r < 0 ∨ r > 1000000 ∨ g < 0 ∨ g > 1000000 ∨ b < 0 ∨ b > 60000) → tofV l r g b = .tup [.sl 6 [], .int 4] := fun z => by
      have : tofE l r g b = 4 := by unfold tofE; rw [if_neg (by simp [q]), if_pos z]
      unfold tofV; rw [this, if_neg (by decide)]
    have h4 : ∀ z : (r < 0 ∨ r > 1000000 ∨ g < 0 ∨ g > 1000000 ∨ b < 0 ∨ b > 60000), fSame (AV.tup [AV.mk 6 [], AV.int 4]) (tofV l r g b) := fun z => by rw [hbad z]; rfl
    have hf : AV.flatS (AV.mk 6 []) := by simp [AV.flatS]
    refine ⟨by simp, by simp, fun z => ⟨by simp, z, hf, .lit _, h4 (by simp at z; omega)⟩, fun z1 => ?_⟩
    refine ⟨by simp, by simp, z1, by simp, fun z => ⟨by simp, z, hf, .lit _, h4 (by simp at z; omega)⟩, fun z2 => ?_⟩
    refine ⟨by simp, by simp, z2, by simp, fun z => ⟨by simp, z, hf, .lit _, h4 (by simp at z; omega)⟩, fun z3 => ?_⟩
    refine ⟨by simp, by simp, z3, by simp, fun z => ⟨by simp, z, hf, .lit _, h4 (by simp at z; omega)⟩, fun z4 => ?_⟩
    refine ⟨by simp, by simp, z4, by simp, fun z => ⟨by simp, z, hf, .lit _, h4 (by simp at z; omega)⟩, fun z5 => ?_⟩
    refine ⟨by simp, by simp, z5, by simp, fun z => ⟨hf, .lit _, h4 (by simp at z; omega)⟩, fun z6 => ?_⟩
    have hrg : ¬ (r < 0 ∨ r > 1000000 ∨ g < 0 ∨ g > 1000000 ∨ b < 0 ∨ b > 60000) := by simp at z1 z2 z3 z4 z5 z6; omega
    clear hbad h4 z1 z2 z3 z4 z5 z6
    obtain ⟨hp, h64, hG⟩ := tE_ok q
    obtain ⟨a, ha⟩ : ∃ a, l[0]? = some a := ⟨_, List.getElem?_eq_getElem hp⟩
    have had : l.getD 0 default = a := by rw [List.getD_eq_getElem?_getD, ha]; rfl
    have hat0 : AV.at (path l) (.int 0) 0 = .int a.t := by rw [lst_atI (by omega) (by simpa using ha)]; rfl
    have hao := (tG_get hG ha).2.1
    have hE : tofE l r g b = if (l.all fun n => decide (r + dvu (g * (n.t - a.t)) 60 ≤ 1000000)) = true then 0 else 4 := by
      unfold tofE; rw [if_neg (by simp [q]), if_neg hrg, had]
    refine ⟨by simp, ?_⟩
    refine loop_list (σ := List Nd) l (fun n s => [.int (n : Nat), tube s]) (fun n rest s => s = (l.take n).map (mkT r g b a.t) ∧ (l.all fun n => decide (r + dvu (g * (n.t - a.t)) 60 ≤ 1000000)) = (rest.all fun n => decide (r + dvu (g * (n.t - a.t)) 60 ≤ 1000000))) [] rfl ⟨rfl, rfl⟩ ?_ ?_
    · rintro n x rest s K hx hr hn ⟨rfl, hall⟩ hK
      have hxo := (tG_get hG (List.getElem?_eq_some_iff.1 hx |> fun ⟨w, e⟩ => hx)).2.1
      have hmb : -200000000000 ≤ g * (x.t - a.t) ∧ g * (x.t - a.t) ≤ 200000000000 := by
        have := hxo.1; have := hxo.2.1; have := hao.1; have := hao.2.1
        have u1 : g * (x.t - a.t) ≤ g * 200000 := Int.mul_le_mul_of_nonneg_left (by omega) (by omega)
        have u2 : g * (-200000) ≤ g * (x.t - a.t) := Int.mul_le_mul_of_nonneg_left (by omega) (by omega)
        omega
      have hdb := dvu60 hmb.1 hmb.2
      have hd := divu_fn (g * (x.t - a.t)) 60 (by omega) (by omega) (by omega)
      have c0 : AV.cel (.agg (encF x)) 0 = .int x.t := rfl
      have c1 : AV.cel (.agg (encF x)) 1 = .int x.x := rfl
      have c2 : AV.cel (.agg (encF x)) 2 = .int x.y := rfl
      have c3 : AV.cel (.agg (encF x)) 3 = .int x.h := rfl
      have hax : AV.atAgg (path l) (.int (n : Int)) 0 4 = .agg (encF x) := by rw [lst_atAgg hx]; rfl
      have s1 : AV.bin Go.BinOp.sub (.int x.t) (.int a.t) = .int (x.t - a.t) := by rw [av_subt, wr_eq, wr_id (by have := hxo.1; have := hao.2.1; omega) (by have := hxo.2.1; have := hao.1; omega)]
      have s2 : AV.bin Go.BinOp.mul (.int g) (.int (x.t - a.t)) = .int (g * (x.t - a.t)) := by rw [av_mul, wr_eq, wr_id (by omega) (by omega)]
      have s3 : AV.bin Go.BinOp.add (.int r) (AV.prj (.tup [.int (dvu (g * (x.t - a.t)) 60), .int 0]) 0) = .int (r + dvu (g * (x.t - a.t)) 60) := by
        show AV.bin Go.BinOp.add (.int r) (.int (dvu (g * (x.t - a.t)) 60)) = _
        rw [av_add, wr_eq, wr_id (by omega) (by omega)]
      have s4 : AV.bin Go.BinOp.add (.int (n : Int)) (.int 1) = .int ((n : Int) + 1) := by rw [av_add, wr_eq, wr_id (by omega) (by omega)]
      have hl2 : ((l.take n).map (mkT r g b a.t)).length ≤ 64 := by simp; omega
      have happ : AV.app 6 (tube ((l.take n).map (mkT r g b a.t))) (.sl 6 [[.int x.t, .int x.x, .int x.y, .int x.h, .int (r + dvu (g * (x.t - a.t)) 60), .int b]]) = tube ((l.take (n + 1)).map (mkT r g b a.t)) := by
        have : l.take (n + 1) = l.take n ++ [x] := by rw [List.take_add_one, hx]; rfl
        rw [this]
        simp [lst, encN, mkT]
      simp only [List.getD_cons_zero, List.getD_cons_succ, hax, hat0, c0, c1, c2, c3, s1, s2]
      refine ⟨by simp, by simp, fun _ => ?_, fun z => absurd z (by simp; omega)⟩
      refine ⟨by simp, by simp; omega, by simp [encF], by simp, by simp; omega, by simp, by simp, _, hd, by simp, ?_⟩
      simp only [s3, s4, av_mk, happ]
      refine ⟨by simp, by simp, fun z => ?_, fun z => ?_⟩
      · have z : 1000000 < r + dvu (g * (x.t - a.t)) 60 := by simpa using z
        have hE4 : tofE l r g b = 4 := by
          rw [hE, hall, if_neg]
          simp only [List.all_cons, Bool.and_eq_true, decide_eq_true_eq]
          omega
        unfold tofV
        rw [hE4, if_neg (by decide)]
        exact ⟨by simp [AV.flatS], .lit _, rfl⟩
      · have z : r + dvu (g * (x.t - a.t)) 60 ≤ 1000000 := by simpa using z
        refine ⟨by simp, by simp, by simp, ?_, by simp, hK _ _ rfl ⟨rfl, ?_⟩⟩
        · unfold AV.room
          simp only [lst_els, List.length_map, av_els, List.length_cons, List.length_nil] at hl2 ⊢
          omega
        · rw [hall]
          simp only [List.all_cons, z, decide_true, Bool.true_and]
    · rintro s K ⟨rfl, hall⟩
      have hE0 : tofE l r g b = 0 := by rw [hE, hall]; rfl
      have hf2 := flat_tube (l.map (mkT r g b a.t))
      unfold tofV
      rw [hE0, if_pos rfl, had, List.take_length]
      simp only [List.getD_cons_zero, List.getD_cons_succ]
      exact ⟨by simp, by simp, fun z => absurd z (by simp), fun _ => ⟨hf2, .lit _, rfl⟩⟩
theorem add_fn (a b : Pt) : Fn Tryz.prog 8 [pt a, pt b] .sc (pt ⟨wr (a.x + b.x), wr (a.y + b.y)⟩) := by
  have e := TtF.add_form (pt a) (pt b) (pt ⟨wr (a.x + b.x), wr (a.y + b.y)⟩)
  have k := fun h => fn_run mixed 3 (Γ := TtF.Γ) (ann := TtF.ann) Tryz.func8 rfl Tryz.call8 (e.mpr h)
  refine k ?_
  simp [encP]
theorem within_fn (p q : Pt) (d : Int) (h0 : 0 ≤ d) (h1 : d ≤ 1000001) : Fn Tryz.prog 17 [pt p, pt q, .int d] .sc (.bool (decide (sqrP p q ≤ d * d))) := by
  have e := TtF.within_form (pt p) (pt q) (.int d) (.bool (decide (sqrP p q ≤ d * d)))
  have k := fun h => fn_run mixed 3 (Γ := TtF.Γ) (ann := TtF.ann) Tryz.func17 rfl Tryz.call17 (e.mpr h)
  refine k ?_
  clear k e
  have hm : 0 ≤ d * d ∧ d * d ≤ 1000002000001 := by
    have u1 : d * d ≤ 1000001 * d := Int.mul_le_mul_of_nonneg_right h1 h0
    exact ⟨Int.mul_nonneg h0 h0, by omega⟩
  have s : AV.bin Go.BinOp.mul (.int d) (.int d) = .int (d * d) := by rw [av_mul, wr_eq, wr_id (by omega) (by omega)]
  simp only [s]
  refine ⟨by simp [encP], by simp [encP], by simp, by simp, fun _ => ⟨by simp, by simp, by simp; omega, by simp, fun _ => ⟨_, sqr_fn p q, by simp, by simp, by simp, by simp; omega, by simp, by simp⟩, fun z => absurd z (by simp; omega)⟩, fun z => absurd z (by simp; omega)⟩
def hasV (n : Nd) (p : Pt) (h : Int) : AV := if pE p ≠ 0 then .tup [.bool false, .int (pE p)] else if h < 0 ∨ h > 60000 then .tup [.bool false, .int 4] else .tup [.bool (decide (sqrP n.p p ≤ n.r * n.r) && decide ((if h - n.h > n.h - h then h - n.h else n.h - h) ≤ n.b)), .int 0]
theorem has_fn (l : List Nd) (t : Int) (p : Pt) (h : Int) (g : tatE l t = 0) (hr : 0 ≤ (atN l t).r ∧ (atN l t).r ≤ 1000001) (hh : 0 ≤ (atN l t).h ∧ (atN l t).h ≤ 60000) (h1 : -1000000 ≤ h) (h2 : h ≤ 1000000) :
    Fn Tryz.prog 7 [tube l, .int t, pt p, .int h] (.tup [.sc, .sc]) (hasV (atN l t) p h) := by
  have e := TtF.has_form (tube l) (.int t) (pt p) (.int h) (hasV (atN l t) p h)
  have k := fun h => fn_run mixed 3 (Γ := TtF.Γ) (ann := TtF.ann) Tryz.func7 rfl Tryz.call7 (e.mpr h)
  refine k ?_
  clear k e
  have ht := tat_fn l t
  rw [show tatV l t = .tup [nd (atN l t), .int 0] by unfold tatV; rw [if_pos g]] at ht
  generalize atN l t = n at *
  have c1 : AV.cel (AV.prj (.tup [nd n, .int 0]) 0) 1 = .int n.x := rfl
  have c2 : AV.cel (AV.prj (.tup [nd n, .int 0]) 0) 2 = .int n.y := rfl
  have c3 : AV.cel (AV.prj (.tup [nd n, .int 0]) 0) 3 = .int n.h := rfl
  have c4 : AV.cel (AV.prj (.tup [nd n, .int 0]) 0) 4 = .int n.r := rfl
  have c5 : AV.cel (AV.prj (.tup [nd n, .int 0]) 0) 5 = .int n.b := rfl
  have s1 : AV.bin Go.BinOp.sub (.int n.h) (.int h) = .int (n.h - h) := by rw [av_subt, wr_eq, wr_id (by omega) (by omega)]
  have s2 : AV.bin Go.BinOp.sub (.int h) (.int n.h) = .int (h - n.h) := by rw [av_subt, wr_eq, wr_id (by omega) (by omega)]
  refine ⟨by simp [encP], _, ht, by simp [encN], by simp, by simp, fun z => absurd z (by simp), fun _ => ⟨_, pe_fn p, by simp, by simp, fun z => ?_, fun z => ?_⟩⟩
  · have z : pE p ≠ 0 := by simpa using z
    unfold hasV
    rw [if_pos z]
    exact ⟨.lit _, .lit _, rfl⟩
  · have z : pE p = 0 := by simpa using z
    have h4 : h < 0 ∨ h > 60000 → hasV n p h = .tup [.bool false, .int 4] := fun q => by unfold hasV; rw [if_neg (by simp [z]), if_pos q]
    simp only [c1, c2, c3, c4, c5, s1, s2]
    refine ⟨by simp, by simp, fun q => ⟨by simp, q, .lit _, .lit _, ?_⟩, fun q1 => ⟨by simp, by simp, q1, by simp, fun q => ⟨.lit _, .lit _, ?_⟩, fun q2 => ?_⟩⟩
    · rw [h4 (by simp at q; omega)]; rfl
    · rw [h4 (by simp at q; omega)]; rfl
    · have q1 : 0 ≤ h := by simpa using q1
      have q2 : h ≤ 60000 := by simpa using q2
      have hV : hasV n p h = .tup [.bool (decide (sqrP n.p p ≤ n.r * n.r) && decide ((if h - n.h > n.h - h then h - n.h else n.h - h) ≤ n.b)), .int 0] := by
        unfold hasV; rw [if_neg (by simp [z]), if_neg (by omega)]
      refine ⟨_, within_fn n.p p n.r hr.1 hr.2, by simp, fun w => ?_, fun w => ?_⟩
      · have w' : decide (sqrP n.p p ≤ n.r * n.r) = true := w
        rw [hV, w', Bool.true_and]
        exact ⟨by simp, by simp, by simp, by simp, by simp, by simp, rfl, .lit _, .lit _, rfl⟩
      · have w' : decide (sqrP n.p p ≤ n.r * n.r) = false := w
        rw [hV, w', Bool.false_and]
        exact ⟨by simp, rfl, .lit _, .lit _, rfl⟩
end Go.Proofs.YtfemeeffoapemaaGreatDoor
/- Contracts at written-out values: by reckoning. -/
namespace Go.Proofs.YtfemeeffoapemaaGreatDoor
open Go.RowKit
set_option linter.unusedVariables false
set_option maxRecDepth 100000
-- skyway/skywaytop.h05Chart
theorem h0 : Fn Tryz.prog 10 [] (.agg [(.row 69 3 true), (.row 71 2 false)]) (.agg [(.sl 3 [[(.string ⟨#[65]⟩), (.int 0), (.int 0)], [(.string ⟨#[66]⟩), (.int 3000), (.int 4000)], [(.string ⟨#[67]⟩), (.int 6000), (.int 8000)]]), (.sl 2 [[(.string ⟨#[85, 76, 49]⟩), (.sl 1 [[(.string ⟨#[65]⟩)], [(.string ⟨#[66]⟩)], [(.string ⟨#[67]⟩)]])]])]) := ev_run mixed ⟨[], [], [], []⟩ 24 0 Tryz.func10 rfl Tryz.call10 (by kernel_rfl)
-- skyway/skywaytop.h05Kind
theorem h1 : Fn Tryz.prog 11 [] .sc (.agg [(.string ⟨#[65, 51, 50, 48]⟩), (.int 1), (.int 39000), (.int 40), (.int 50), (.int 70), (.int 250)]) := ev_run mixed ⟨[], [], [], []⟩ 24 0 Tryz.func11 rfl Tryz.call11 (by kernel_rfl)
-- skyway/chart.Name
theorem h2 : Fn Tryz.prog 44 [(.string ⟨#[66, 65, 49, 50]⟩)] .sc (.bool true) := ev_run mixed ⟨[], [], [], []⟩ 24 0 Tryz.func44 rfl Tryz.call44 (by kernel_rfl)
-- skyway/chart.Name
theorem h3 : Fn Tryz.prog 44 [(.string ⟨#[65, 51, 50, 48]⟩)] .sc (.bool true) := ev_run mixed ⟨[], [], [], []⟩ 24 0 Tryz.func44 rfl Tryz.call44 (by kernel_rfl)
-- skyway/chart.Name
theorem h4 : Fn Tryz.prog 44 [(.string ⟨#[65]⟩)] .sc (.bool true) := ev_run mixed ⟨[], [], [], []⟩ 24 0 Tryz.func44 rfl Tryz.call44 (by kernel_rfl)
-- skyway/chart.Name
theorem h5 : Fn Tryz.prog 44 [(.string ⟨#[67]⟩)] .sc (.bool true) := ev_run mixed ⟨[], [], [], []⟩ 24 0 Tryz.func44 rfl Tryz.call44 (by kernel_rfl)
-- skyway/chart.Name
theorem h6 : Fn Tryz.prog 44 [(.string ⟨#[85, 76, 49]⟩)] .sc (.bool true) := ev_run mixed ⟨[], [], [], []⟩ 24 0 Tryz.func44 rfl Tryz.call44 (by kernel_rfl)
-- skyway/plantext.Check$1
theorem h7 : Fn Tryz.prog 46 [(.string ⟨#[85, 76, 49]⟩)] .sc (.bool false) := ev_run mixed ⟨[⟨44, .sc, [en h6]⟩], [], [], []⟩ 24 0 Tryz.func46 rfl Tryz.call46 (by kernel_rfl)
-- skyway/plantext.Check
theorem h8 : Fn Tryz.prog 26 [(.agg [(.string ⟨#[66, 65, 49, 50]⟩), (.string ⟨#[65, 51, 50, 48]⟩), (.string ⟨#[65]⟩), (.string ⟨#[67]⟩), (.int 100), (.int 100), (.int 1000), (.sl 1 [[(.string ⟨#[85, 76, 49]⟩)]])])] .sc (.int 0) := ev_run mixed ⟨[⟨44, .sc, [en h2, en h3, en h4, en h5]⟩, ⟨46, .sc, [en h7]⟩], [], [], [⟨64, Tryz.call64⟩, ⟨45, Tryz.call45⟩]⟩ 24 2 Tryz.func26 rfl Tryz.call26 (by kernel_rfl)
-- skyway/chart.index
theorem h9 : Fn Tryz.prog 47 [(.agg [(.sl 3 [[(.string ⟨#[65]⟩), (.int 0), (.int 0)], [(.string ⟨#[66]⟩), (.int 3000), (.int 4000)], [(.string ⟨#[67]⟩), (.int 6000), (.int 8000)]]), (.sl 2 [[(.string ⟨#[85, 76, 49]⟩), (.sl 1 [[(.string ⟨#[65]⟩)], [(.string ⟨#[66]⟩)], [(.string ⟨#[67]⟩)]])]])]), (.string ⟨#[65]⟩)] .sc (.int 0) := ev_run mixed ⟨[], [], [], [⟨66, Tryz.call66⟩, ⟨65, Tryz.call65⟩]⟩ 24 2 Tryz.func47 rfl Tryz.call47 (by kernel_rfl)
-- skyway/plane.Check
theorem h10 : Fn Tryz.prog 16 [(.agg [(.int 0), (.int 0)])] .sc (.int 0) := ev_run mixed ⟨[], [], [], []⟩ 24 0 Tryz.func16 rfl Tryz.call16 (by kernel_rfl)
-- skyway/chart.Name
theorem h11 : Fn Tryz.prog 44 [(.string ⟨#[66]⟩)] .sc (.bool true) := ev_run mixed ⟨[], [], [], []⟩ 24 0 Tryz.func44 rfl Tryz.call44 (by kernel_rfl)
-- skyway/chart.index
theorem h12 : Fn Tryz.prog 47 [(.agg [(.sl 3 [[(.string ⟨#[65]⟩), (.int 0), (.int 0)], [(.string ⟨#[66]⟩), (.int 3000), (.int 4000)], [(.string ⟨#[67]⟩), (.int 6000), (.int 8000)]]), (.sl 2 [[(.string ⟨#[85, 76, 49]⟩), (.sl 1 [[(.string ⟨#[65]⟩)], [(.string ⟨#[66]⟩)], [(.string ⟨#[67]⟩)]])]])]), (.string ⟨#[66]⟩)] .sc (.int 1) := ev_run mixed ⟨[], [], [], [⟨66, Tryz.call66⟩, ⟨65, Tryz.call65⟩]⟩ 24 3 Tryz.func47 rfl Tryz.call47 (by kernel_rfl)
-- skyway/plane.Check
theorem h13 : Fn Tryz.prog 16 [(.agg [(.int 3000), (.int 4000)])] .sc (.int 0) := ev_run mixed ⟨[], [], [], []⟩ 24 0 Tryz.func16 rfl Tryz.call16 (by kernel_rfl)
-- skyway/chart.index
theorem h14 : Fn Tryz.prog 47 [(.agg [(.sl 3 [[(.string ⟨#[65]⟩), (.int 0), (.int 0)], [(.string ⟨#[66]⟩), (.int 3000), (.int 4000)], [(.string ⟨#[67]⟩), (.int 6000), (.int 8000)]]), (.sl 2 [[(.string ⟨#[85, 76, 49]⟩), (.sl 1 [[(.string ⟨#[65]⟩)], [(.string ⟨#[66]⟩)], [(.string ⟨#[67]⟩)]])]])]), (.string ⟨#[67]⟩)] .sc (.int 2) := ev_run mixed ⟨[], [], [], [⟨66, Tryz.call66⟩, ⟨65, Tryz.call65⟩]⟩ 24 4 Tryz.func47 rfl Tryz.call47 (by kernel_rfl)
-- skyway/plane.Check
theorem h15 : Fn Tryz.prog 16 [(.agg [(.int 6000), (.int 8000)])] .sc (.int 0) := ev_run mixed ⟨[], [], [], []⟩ 24 0 Tryz.func16 rfl Tryz.call16 (by kernel_rfl)
-- skyway/chart.index
theorem h16 : Fn Tryz.prog 47 [(.agg [(.sl 3 [[(.string ⟨#[65]⟩), (.int 0), (.int 0)], [(.string ⟨#[66]⟩), (.int 3000), (.int 4000)], [(.string ⟨#[67]⟩), (.int 6000), (.int 8000)]]), (.sl 2 [[(.string ⟨#[85, 76, 49]⟩), (.sl 1 [[(.string ⟨#[65]⟩)], [(.string ⟨#[66]⟩)], [(.string ⟨#[67]⟩)]])]])]), (.string ⟨#[85, 76, 49]⟩)] .sc (.int (-1)) := ev_run mixed ⟨[], [], [], [⟨66, Tryz.call66⟩, ⟨65, Tryz.call65⟩]⟩ 24 4 Tryz.func47 rfl Tryz.call47 (by kernel_rfl)
-- slices.Index[[]string,string]
theorem h17 : Fn Tryz.prog 52 [(.sl 1 []), (.string ⟨#[65]⟩)] .sc (.int (-1)) := ev_run mixed ⟨[], [], [], []⟩ 24 0 Tryz.func52 rfl Tryz.call52 (by kernel_rfl)
-- slices.Contains[[]string,string]
theorem h18 : Fn Tryz.prog 68 [(.sl 1 []), (.string ⟨#[65]⟩)] .sc (.bool false) := ev_run mixed ⟨[⟨52, .sc, [en h17]⟩], [], [], []⟩ 24 0 Tryz.func68 rfl Tryz.call68 (by kernel_rfl)
-- slices.Index[[]string,string]
theorem h19 : Fn Tryz.prog 52 [(.sl 1 [[(.string ⟨#[65]⟩)]]), (.string ⟨#[66]⟩)] .sc (.int (-1)) := ev_run mixed ⟨[], [], [], []⟩ 24 0 Tryz.func52 rfl Tryz.call52 (by kernel_rfl)
-- slices.Contains[[]string,string]
theorem h20 : Fn Tryz.prog 68 [(.sl 1 [[(.string ⟨#[65]⟩)]]), (.string ⟨#[66]⟩)] .sc (.bool false) := ev_run mixed ⟨[⟨52, .sc, [en h19]⟩], [], [], []⟩ 24 0 Tryz.func68 rfl Tryz.call68 (by kernel_rfl)
-- slices.Index[[]string,string]
theorem h21 : Fn Tryz.prog 52 [(.sl 1 [[(.string ⟨#[65]⟩)], [(.string ⟨#[66]⟩)]]), (.string ⟨#[67]⟩)] .sc (.int (-1)) := ev_run mixed ⟨[], [], [], []⟩ 24 0 Tryz.func52 rfl Tryz.call52 (by kernel_rfl)
-- slices.Contains[[]string,string]
theorem h22 : Fn Tryz.prog 68 [(.sl 1 [[(.string ⟨#[65]⟩)], [(.string ⟨#[66]⟩)]]), (.string ⟨#[67]⟩)] .sc (.bool false) := ev_run mixed ⟨[⟨52, .sc, [en h21]⟩], [], [], []⟩ 24 0 Tryz.func68 rfl Tryz.call68 (by kernel_rfl)
-- skyway/chart.checkAirway
theorem h23 : Fn Tryz.prog 48 [(.agg [(.sl 3 [[(.string ⟨#[65]⟩), (.int 0), (.int 0)], [(.string ⟨#[66]⟩), (.int 3000), (.int 4000)], [(.string ⟨#[67]⟩), (.int 6000), (.int 8000)]]), (.sl 2 [[(.string ⟨#[85, 76, 49]⟩), (.sl 1 [[(.string ⟨#[65]⟩)], [(.string ⟨#[66]⟩)], [(.string ⟨#[67]⟩)]])]])]), (.int 0)] .sc (.int 0) := ev_run mixed ⟨[⟨44, .sc, [en h6]⟩, ⟨47, .sc, [en h16, en h9, en h12, en h14]⟩, ⟨68, .sc, [en h18, en h20, en h22]⟩], [], [], [⟨50, Tryz.call50⟩, ⟨30, Tryz.call30⟩]⟩ 24 2 Tryz.func48 rfl Tryz.call48 (by kernel_rfl)
-- skyway/chart.Check
theorem h24 : Fn Tryz.prog 27 [(.agg [(.sl 3 [[(.string ⟨#[65]⟩), (.int 0), (.int 0)], [(.string ⟨#[66]⟩), (.int 3000), (.int 4000)], [(.string ⟨#[67]⟩), (.int 6000), (.int 8000)]]), (.sl 2 [[(.string ⟨#[85, 76, 49]⟩), (.sl 1 [[(.string ⟨#[65]⟩)], [(.string ⟨#[66]⟩)], [(.string ⟨#[67]⟩)]])]])])] .sc (.int 0) := ev_run mixed ⟨[⟨44, .sc, [en h4, en h11, en h5]⟩, ⟨47, .sc, [en h9, en h12, en h14]⟩, ⟨16, .sc, [en h10, en h13, en h15]⟩, ⟨48, .sc, [en h23]⟩], [], [], []⟩ 24 0 Tryz.func27 rfl Tryz.call27 (by kernel_rfl)
-- slices.Concat[[]string,string]
theorem h25 : Fn Tryz.prog 28 [(.sl 1 [[(.sl 1 [[(.string ⟨#[65]⟩)]])], [(.sl 1 [[(.string ⟨#[85, 76, 49]⟩)]])], [(.sl 1 [[(.string ⟨#[67]⟩)]])]])] (.row 9 1 true) (.sl 1 [[(.string ⟨#[65]⟩)], [(.string ⟨#[85, 76, 49]⟩)], [(.string ⟨#[67]⟩)]]) := ev_run mixed ⟨[⟨49, (.row 9 1 true), [en (growS_fn 3 (by decide))]⟩], [], [], []⟩ 24 0 Tryz.func28 rfl Tryz.call28 (by kernel_rfl)
-- skyway/chart.Find
theorem h26 : Fn Tryz.prog 32 [(.agg [(.sl 3 [[(.string ⟨#[65]⟩), (.int 0), (.int 0)], [(.string ⟨#[66]⟩), (.int 3000), (.int 4000)], [(.string ⟨#[67]⟩), (.int 6000), (.int 8000)]]), (.sl 2 [[(.string ⟨#[85, 76, 49]⟩), (.sl 1 [[(.string ⟨#[65]⟩)], [(.string ⟨#[66]⟩)], [(.string ⟨#[67]⟩)]])]])]), (.string ⟨#[65]⟩)] (.tup [.sc, .sc]) (.tup [(.agg [(.string ⟨#[65]⟩), (.int 0), (.int 0)]), (.int 0)]) := ev_run mixed ⟨[⟨27, .sc, [en h24]⟩, ⟨47, .sc, [en h9]⟩], [], [], []⟩ 24 0 Tryz.func32 rfl Tryz.call32 (by kernel_rfl)
-- skyway/chart.Find
theorem h27 : Fn Tryz.prog 32 [(.agg [(.sl 3 [[(.string ⟨#[65]⟩), (.int 0), (.int 0)], [(.string ⟨#[66]⟩), (.int 3000), (.int 4000)], [(.string ⟨#[67]⟩), (.int 6000), (.int 8000)]]), (.sl 2 [[(.string ⟨#[85, 76, 49]⟩), (.sl 1 [[(.string ⟨#[65]⟩)], [(.string ⟨#[66]⟩)], [(.string ⟨#[67]⟩)]])]])]), (.string ⟨#[85, 76, 49]⟩)] (.tup [.sc, .sc]) (.tup [(.agg [(.string ⟨#[]⟩), (.int 0), (.int 0)]), (.int 6)]) := ev_run mixed ⟨[⟨27, .sc, [en h24]⟩, ⟨47, .sc, [en h16]⟩], [], [], []⟩ 24 0 Tryz.func32 rfl Tryz.call32 (by kernel_rfl)
-- skyway/chart.Find
theorem h28 : Fn Tryz.prog 32 [(.agg [(.sl 3 [[(.string ⟨#[65]⟩), (.int 0), (.int 0)], [(.string ⟨#[66]⟩), (.int 3000), (.int 4000)], [(.string ⟨#[67]⟩), (.int 6000), (.int 8000)]]), (.sl 2 [[(.string ⟨#[85, 76, 49]⟩), (.sl 1 [[(.string ⟨#[65]⟩)], [(.string ⟨#[66]⟩)], [(.string ⟨#[67]⟩)]])]])]), (.string ⟨#[67]⟩)] (.tup [.sc, .sc]) (.tup [(.agg [(.string ⟨#[67]⟩), (.int 6000), (.int 8000)]), (.int 0)]) := ev_run mixed ⟨[⟨27, .sc, [en h24]⟩, ⟨47, .sc, [en h14]⟩], [], [], []⟩ 24 0 Tryz.func32 rfl Tryz.call32 (by kernel_rfl)
-- slices.Index[[]string,string]
theorem h29 : Fn Tryz.prog 52 [(.sl 1 [[(.string ⟨#[65]⟩)], [(.string ⟨#[66]⟩)], [(.string ⟨#[67]⟩)]]), (.string ⟨#[65]⟩)] .sc (.int 0) := ev_run mixed ⟨[], [], [], []⟩ 24 0 Tryz.func52 rfl Tryz.call52 (by kernel_rfl)
-- slices.Index[[]string,string]
theorem h30 : Fn Tryz.prog 52 [(.sl 1 [[(.string ⟨#[65]⟩)], [(.string ⟨#[66]⟩)], [(.string ⟨#[67]⟩)]]), (.string ⟨#[67]⟩)] .sc (.int 2) := ev_run mixed ⟨[], [], [], []⟩ 24 0 Tryz.func52 rfl Tryz.call52 (by kernel_rfl)
-- slices.Clone[[]string,string]
theorem h31 : Fn Tryz.prog 53 [(.sl 1 [[(.string ⟨#[65]⟩)], [(.string ⟨#[66]⟩)], [(.string ⟨#[67]⟩)]])] (.row 9 1 true) (.sl 1 [[(.string ⟨#[65]⟩)], [(.string ⟨#[66]⟩)], [(.string ⟨#[67]⟩)]]) := ev_run mixed ⟨[], [], [], []⟩ 24 0 Tryz.func53 rfl Tryz.call53 (by kernel_rfl)
-- skyway/chart.Between
theorem h32 : Fn Tryz.prog 33 [(.agg [(.sl 3 [[(.string ⟨#[65]⟩), (.int 0), (.int 0)], [(.string ⟨#[66]⟩), (.int 3000), (.int 4000)], [(.string ⟨#[67]⟩), (.int 6000), (.int 8000)]]), (.sl 2 [[(.string ⟨#[85, 76, 49]⟩), (.sl 1 [[(.string ⟨#[65]⟩)], [(.string ⟨#[66]⟩)], [(.string ⟨#[67]⟩)]])]])]), (.string ⟨#[85, 76, 49]⟩), (.string ⟨#[65]⟩), (.string ⟨#[67]⟩)] (.tup [(.row 9 1 true), .sc]) (.tup [(.sl 1 [[(.string ⟨#[65]⟩)], [(.string ⟨#[66]⟩)], [(.string ⟨#[67]⟩)]]), (.int 0)]) := ev_run mixed ⟨[⟨27, .sc, [en h24]⟩, ⟨52, .sc, [en h29, en h30]⟩, ⟨53, (.row 9 1 true), [en h31]⟩], [], [], [⟨51, Tryz.call51⟩, ⟨50, Tryz.call50⟩]⟩ 24 2 Tryz.func33 rfl Tryz.call33 (by kernel_rfl)
-- skyway/chart.Find
theorem h33 : Fn Tryz.prog 32 [(.agg [(.sl 3 [[(.string ⟨#[65]⟩), (.int 0), (.int 0)], [(.string ⟨#[66]⟩), (.int 3000), (.int 4000)], [(.string ⟨#[67]⟩), (.int 6000), (.int 8000)]]), (.sl 2 [[(.string ⟨#[85, 76, 49]⟩), (.sl 1 [[(.string ⟨#[65]⟩)], [(.string ⟨#[66]⟩)], [(.string ⟨#[67]⟩)]])]])]), (.string ⟨#[66]⟩)] (.tup [.sc, .sc]) (.tup [(.agg [(.string ⟨#[66]⟩), (.int 3000), (.int 4000)]), (.int 0)]) := ev_run mixed ⟨[⟨27, .sc, [en h24]⟩, ⟨47, .sc, [en h12]⟩], [], [], []⟩ 24 0 Tryz.func32 rfl Tryz.call32 (by kernel_rfl)
-- skyway/route.Expand
theorem h34 : Fn Tryz.prog 18 [(.agg [(.string ⟨#[66, 65, 49, 50]⟩), (.string ⟨#[65, 51, 50, 48]⟩), (.string ⟨#[65]⟩), (.string ⟨#[67]⟩), (.int 100), (.int 100), (.int 1000), (.sl 1 [[(.string ⟨#[85, 76, 49]⟩)]])]), (.agg [(.sl 3 [[(.string ⟨#[65]⟩), (.int 0), (.int 0)], [(.string ⟨#[66]⟩), (.int 3000), (.int 4000)], [(.string ⟨#[67]⟩), (.int 6000), (.int 8000)]]), (.sl 2 [[(.string ⟨#[85, 76, 49]⟩), (.sl 1 [[(.string ⟨#[65]⟩)], [(.string ⟨#[66]⟩)], [(.string ⟨#[67]⟩)]])]])])] (.tup [(.row 69 3 true), .sc]) (.tup [(.sl 3 [[(.string ⟨#[65]⟩), (.int 0), (.int 0)], [(.string ⟨#[66]⟩), (.int 3000), (.int 4000)], [(.string ⟨#[67]⟩), (.int 6000), (.int 8000)]]), (.int 0)]) := ev_run mixed ⟨[⟨26, .sc, [en h8]⟩, ⟨27, .sc, [en h24]⟩, ⟨28, (.row 9 1 true), [en h25]⟩, ⟨32, (.tup [.sc, .sc]), [en h26, en h27, en h28, en h33]⟩, ⟨33, (.tup [(.row 9 1 true), .sc]), [en h32]⟩], [], [], [⟨31, Tryz.call31⟩, ⟨50, Tryz.call50⟩, ⟨30, Tryz.call30⟩, ⟨29, Tryz.call29⟩]⟩ 24 28 Tryz.func18 rfl Tryz.call18 (by kernel_rfl)
-- skyway/route.check
theorem h35 : Fn Tryz.prog 69 [(.sl 3 [[(.string ⟨#[65]⟩), (.int 0), (.int 0)], [(.string ⟨#[66]⟩), (.int 3000), (.int 4000)], [(.string ⟨#[67]⟩), (.int 6000), (.int 8000)]])] .sc (.int 0) := ev_run mixed ⟨[⟨16, .sc, [en h10, en h13, en h15]⟩], [], [], []⟩ 24 0 Tryz.func69 rfl Tryz.call69 (by kernel_rfl)
-- skyway/plane.Sub
theorem h36 : Fn Tryz.prog 42 [(.agg [(.int 0), (.int 0)]), (.agg [(.int 3000), (.int 4000)])] .sc (.agg [(.int (-3000)), (.int (-4000))]) := ev_run mixed ⟨[], [], [], []⟩ 24 0 Tryz.func42 rfl Tryz.call42 (by kernel_rfl)
-- skyway/plane.Dot
theorem h37 : Fn Tryz.prog 43 [(.agg [(.int (-3000)), (.int (-4000))]), (.agg [(.int (-3000)), (.int (-4000))])] .sc (.int 25000000) := ev_run mixed ⟨[], [], [], []⟩ 24 0 Tryz.func43 rfl Tryz.call43 (by kernel_rfl)
-- skyway/plane.Square
theorem h38 : Fn Tryz.prog 25 [(.agg [(.int 0), (.int 0)]), (.agg [(.int 3000), (.int 4000)])] .sc (.int 25000000) := ev_run mixed ⟨[⟨42, .sc, [en h36]⟩, ⟨43, .sc, [en h37]⟩], [], [], []⟩ 24 0 Tryz.func25 rfl Tryz.call25 (by kernel_rfl)
-- skyway/num.Root
theorem h39 : Fn Tryz.prog 80 [(.int 25000000)] .sc (.int 5000) := ev_run mixed ⟨[], [], [], []⟩ 24 0 Tryz.func80 rfl Tryz.call80 (by kernel_rfl)
-- skyway/plane.Distance
theorem h40 : Fn Tryz.prog 61 [(.agg [(.int 0), (.int 0)]), (.agg [(.int 3000), (.int 4000)])] (.tup [.sc, .sc]) (.tup [(.int 5000), (.int 5000)]) := ev_run mixed ⟨[⟨25, .sc, [en h38]⟩, ⟨80, .sc, [en h39]⟩], [], [], []⟩ 24 0 Tryz.func61 rfl Tryz.call61 (by kernel_rfl)
-- skyway/plane.Sub
theorem h41 : Fn Tryz.prog 42 [(.agg [(.int 3000), (.int 4000)]), (.agg [(.int 6000), (.int 8000)])] .sc (.agg [(.int (-3000)), (.int (-4000))]) := ev_run mixed ⟨[], [], [], []⟩ 24 0 Tryz.func42 rfl Tryz.call42 (by kernel_rfl)
-- skyway/plane.Square
theorem h42 : Fn Tryz.prog 25 [(.agg [(.int 3000), (.int 4000)]), (.agg [(.int 6000), (.int 8000)])] .sc (.int 25000000) := ev_run mixed ⟨[⟨42, .sc, [en h41]⟩, ⟨43, .sc, [en h37]⟩], [], [], []⟩ 24 0 Tryz.func25 rfl Tryz.call25 (by kernel_rfl)
-- skyway/plane.Distance
theorem h43 : Fn Tryz.prog 61 [(.agg [(.int 3000), (.int 4000)]), (.agg [(.int 6000), (.int 8000)])] (.tup [.sc, .sc]) (.tup [(.int 5000), (.int 5000)]) := ev_run mixed ⟨[⟨25, .sc, [en h42]⟩, ⟨80, .sc, [en h39]⟩], [], [], []⟩ 24 0 Tryz.func61 rfl Tryz.call61 (by kernel_rfl)
-- skyway/route.Length
theorem h44 : Fn Tryz.prog 55 [(.sl 3 [[(.string ⟨#[65]⟩), (.int 0), (.int 0)], [(.string ⟨#[66]⟩), (.int 3000), (.int 4000)], [(.string ⟨#[67]⟩), (.int 6000), (.int 8000)]])] (.tup [.sc, .sc]) (.tup [(.int 10000), (.int 0)]) := ev_run mixed ⟨[⟨69, .sc, [en h35]⟩, ⟨61, (.tup [.sc, .sc]), [en h40, en h43]⟩], [], [], []⟩ 24 0 Tryz.func55 rfl Tryz.call55 (by kernel_rfl)
-- skyway/aircraft.Check$1
theorem h45 : Fn Tryz.prog 70 [(.int 39000), (.int 60000)] .sc (.bool false) := ev_run mixed ⟨[], [], [], []⟩ 24 0 Tryz.func70 rfl Tryz.call70 (by kernel_rfl)
-- skyway/aircraft.Check$1
theorem h46 : Fn Tryz.prog 70 [(.int 40), (.int 200)] .sc (.bool false) := ev_run mixed ⟨[], [], [], []⟩ 24 0 Tryz.func70 rfl Tryz.call70 (by kernel_rfl)
-- skyway/aircraft.Check$1
theorem h47 : Fn Tryz.prog 70 [(.int 50), (.int 200)] .sc (.bool false) := ev_run mixed ⟨[], [], [], []⟩ 24 0 Tryz.func70 rfl Tryz.call70 (by kernel_rfl)
-- skyway/aircraft.Check$1
theorem h48 : Fn Tryz.prog 70 [(.int 70), (.int 400)] .sc (.bool false) := ev_run mixed ⟨[], [], [], []⟩ 24 0 Tryz.func70 rfl Tryz.call70 (by kernel_rfl)
-- skyway/aircraft.Check$1
theorem h49 : Fn Tryz.prog 70 [(.int 250), (.int 400)] .sc (.bool false) := ev_run mixed ⟨[], [], [], []⟩ 24 0 Tryz.func70 rfl Tryz.call70 (by kernel_rfl)
-- skyway/aircraft.Check
theorem h50 : Fn Tryz.prog 56 [(.agg [(.string ⟨#[65, 51, 50, 48]⟩), (.int 1), (.int 39000), (.int 40), (.int 50), (.int 70), (.int 250)])] .sc (.int 0) := ev_run mixed ⟨[⟨44, .sc, [en h3]⟩, ⟨70, .sc, [en h45, en h46, en h47, en h48, en h49]⟩], [], [], []⟩ 24 0 Tryz.func56 rfl Tryz.call56 (by kernel_rfl)
-- skyway/wind.Check
theorem h51 : Fn Tryz.prog 57 [(.sl 5 [])] .sc (.int 0) := ev_run mixed ⟨[], [], [], []⟩ 24 0 Tryz.func57 rfl Tryz.call57 (by kernel_rfl)
-- skyway/fly.check
theorem h52 : Fn Tryz.prog 34 [(.sl 3 [[(.string ⟨#[65]⟩), (.int 0), (.int 0)], [(.string ⟨#[66]⟩), (.int 3000), (.int 4000)], [(.string ⟨#[67]⟩), (.int 6000), (.int 8000)]]), (.agg [(.string ⟨#[66, 65, 49, 50]⟩), (.string ⟨#[65, 51, 50, 48]⟩), (.string ⟨#[65]⟩), (.string ⟨#[67]⟩), (.int 100), (.int 100), (.int 1000), (.sl 1 [[(.string ⟨#[85, 76, 49]⟩)]])]), (.agg [(.string ⟨#[65, 51, 50, 48]⟩), (.int 1), (.int 39000), (.int 40), (.int 50), (.int 70), (.int 250)]), (.sl 5 [])] .sc (.int 0) := ev_run mixed ⟨[⟨55, (.tup [.sc, .sc]), [en h44]⟩, ⟨26, .sc, [en h8]⟩, ⟨56, .sc, [en h50]⟩, ⟨57, .sc, [en h51]⟩], [], [], []⟩ 24 0 Tryz.func34 rfl Tryz.call34 (by kernel_rfl)
-- skyway/plane.Sub
theorem h53 : Fn Tryz.prog 42 [(.agg [(.int 3000), (.int 4000)]), (.agg [(.int 0), (.int 0)])] .sc (.agg [(.int 3000), (.int 4000)]) := ev_run mixed ⟨[], [], [], []⟩ 24 0 Tryz.func42 rfl Tryz.call42 (by kernel_rfl)
-- math.IsNaN
theorem h54 : Fn Tryz.prog 89 [(.lit (.float .f64 4658815484840378368))] .sc (.bool false) := ev_run mixed ⟨[], [], [], []⟩ 24 0 Tryz.func89 rfl Tryz.call89 (by kernel_rfl)
-- math.IsNaN
theorem h55 : Fn Tryz.prog 89 [(.lit (.float .f64 4661014508095930368))] .sc (.bool false) := ev_run mixed ⟨[], [], [], []⟩ 24 0 Tryz.func89 rfl Tryz.call89 (by kernel_rfl)
-- math.Abs
theorem h56 : Fn Tryz.prog 100 [(.lit (.float .f64 4661014508095930368))] .sc (.lit (.float .f64 4661014508095930368)) := ev_run mixed ⟨[], [⟨96, [ex (show FnE Tryz.prog 96 [(.lit (.float .f64 4661014508095930368))] (.lit (.int .u64 4661014508095930368)) from x_bits 4661014508095930368)]⟩, ⟨97, [ex (show FnE Tryz.prog 97 [(.lit (.int .u64 4661014508095930368))] (.lit (.float .f64 4661014508095930368)) from x_from 4661014508095930368)]⟩], [], []⟩ 24 0 Tryz.func100 rfl Tryz.call100 (by kernel_rfl)
-- math.IsInf
theorem h57 : Fn Tryz.prog 90 [(.lit (.float .f64 4661014508095930368)), (.int 0)] .sc (.bool false) := ev_run mixed ⟨[⟨100, .sc, [en h56]⟩], [], [], []⟩ 24 0 Tryz.func90 rfl Tryz.call90 (by kernel_rfl)
-- math.Abs
theorem h58 : Fn Tryz.prog 100 [(.lit (.float .f64 4658815484840378368))] .sc (.lit (.float .f64 4658815484840378368)) := ev_run mixed ⟨[], [⟨96, [ex (show FnE Tryz.prog 96 [(.lit (.float .f64 4658815484840378368))] (.lit (.int .u64 4658815484840378368)) from x_bits 4658815484840378368)]⟩, ⟨97, [ex (show FnE Tryz.prog 97 [(.lit (.int .u64 4658815484840378368))] (.lit (.float .f64 4658815484840378368)) from x_from 4658815484840378368)]⟩], [], []⟩ 24 0 Tryz.func100 rfl Tryz.call100 (by kernel_rfl)
-- math.IsInf
theorem h59 : Fn Tryz.prog 90 [(.lit (.float .f64 4658815484840378368)), (.int 0)] .sc (.bool false) := ev_run mixed ⟨[⟨100, .sc, [en h58]⟩], [], [], []⟩ 24 0 Tryz.func90 rfl Tryz.call90 (by kernel_rfl)
-- math.xatan
theorem h60 : Fn Tryz.prog 111 [(.lit (.float .f64 13817687028148020370))] .sc (.lit (.float .f64 13817652437323233500)) := ev_run mixed ⟨[], [], [], []⟩ 24 0 Tryz.func111 rfl Tryz.call111 (by kernel_rfl)
-- math.satan
theorem h61 : Fn Tryz.prog 107 [(.lit (.float .f64 4604930618986332160))] .sc (.lit (.float .f64 4603971362252824289)) := ev_run mixed ⟨[⟨111, .sc, [en h60]⟩], [], [], []⟩ 24 0 Tryz.func107 rfl Tryz.call107 (by kernel_rfl)
-- math.atan
theorem h62 : Fn Tryz.prog 103 [(.lit (.float .f64 4604930618986332160))] .sc (.lit (.float .f64 4603971362252824289)) := ev_run mixed ⟨[⟨107, .sc, [en h61]⟩], [], [], []⟩ 24 0 Tryz.func103 rfl Tryz.call103 (by kernel_rfl)
-- math.Atan
theorem h63 : Fn Tryz.prog 95 [(.lit (.float .f64 4604930618986332160))] .sc (.lit (.float .f64 4603971362252824289)) := ev_run mixed ⟨[⟨103, .sc, [en h62]⟩], [], [], []⟩ 24 0 Tryz.func95 rfl Tryz.call95 (by kernel_rfl)
-- math.atan2
theorem h64 : Fn Tryz.prog 85 [(.lit (.float .f64 4658815484840378368)), (.lit (.float .f64 4661014508095930368))] .sc (.lit (.float .f64 4603971362252824289)) := ev_run mixed ⟨[⟨89, .sc, [en h54, en h55]⟩, ⟨90, .sc, [en h57, en h59]⟩, ⟨95, .sc, [en h63]⟩], [], [], []⟩ 24 0 Tryz.func85 rfl Tryz.call85 (by kernel_rfl)
-- math.Atan2
theorem h65 : Fn Tryz.prog 73 [(.lit (.float .f64 4658815484840378368)), (.lit (.float .f64 4661014508095930368))] .sc (.lit (.float .f64 4603971362252824289)) := ev_run mixed ⟨[⟨85, .sc, [en h64]⟩], [], [], []⟩ 24 0 Tryz.func73 rfl Tryz.call73 (by kernel_rfl)
-- math.Floor
theorem h66 : Fn Tryz.prog 72 [(.lit (.float .f64 4646087494293789167))] .sc (.lit (.float .f64 4646078742144221184)) := ev_run mixed ⟨[], [⟨82, [ex (show FnE Tryz.prog 82 [(.lit (.float .f64 4646087494293789167))] (.lit (.float .f64 4646078742144221184)) from x_floor (fun w => by kernel_rfl))]⟩], [], []⟩ 24 0 Tryz.func72 rfl Tryz.call72 (by kernel_rfl)
-- skyway/angle.Norm
theorem h67 : Fn Tryz.prog 74 [(.int 419)] .sc (.int 419) := ev_run mixed ⟨[], [], [], []⟩ 24 0 Tryz.func74 rfl Tryz.call74 (by kernel_rfl)
-- math.IsNaN
theorem h68 : Fn Tryz.prog 89 [(.lit (.float .f64 4603964488330627815))] .sc (.bool false) := ev_run mixed ⟨[], [], [], []⟩ 24 0 Tryz.func89 rfl Tryz.call89 (by kernel_rfl)
-- math.Abs
theorem h69 : Fn Tryz.prog 100 [(.lit (.float .f64 4603964488330627815))] .sc (.lit (.float .f64 4603964488330627815)) := ev_run mixed ⟨[], [⟨96, [ex (show FnE Tryz.prog 96 [(.lit (.float .f64 4603964488330627815))] (.lit (.int .u64 4603964488330627815)) from x_bits 4603964488330627815)]⟩, ⟨97, [ex (show FnE Tryz.prog 97 [(.lit (.int .u64 4603964488330627815))] (.lit (.float .f64 4603964488330627815)) from x_from 4603964488330627815)]⟩], [], []⟩ 24 0 Tryz.func100 rfl Tryz.call100 (by kernel_rfl)
-- math.IsInf
theorem h70 : Fn Tryz.prog 90 [(.lit (.float .f64 4603964488330627815)), (.int 0)] .sc (.bool false) := ev_run mixed ⟨[⟨100, .sc, [en h69]⟩], [], [], []⟩ 24 0 Tryz.func90 rfl Tryz.call90 (by kernel_rfl)
-- math.sin
theorem h71 : Fn Tryz.prog 99 [(.lit (.float .f64 4603964488330627815))] .sc (.lit (.float .f64 4603574038387129707)) := ev_run mixed ⟨[⟨89, .sc, [en h68]⟩, ⟨90, .sc, [en h70]⟩], [], [], []⟩ 24 0 Tryz.func99 rfl Tryz.call99 (by kernel_rfl)
-- math.Sin
theorem h72 : Fn Tryz.prog 87 [(.lit (.float .f64 4603964488330627815))] .sc (.lit (.float .f64 4603574038387129707)) := ev_run mixed ⟨[⟨99, .sc, [en h71]⟩], [], [], []⟩ 24 0 Tryz.func87 rfl Tryz.call87 (by kernel_rfl)
-- math.Round
theorem h73 : Fn Tryz.prog 86 [(.lit (.float .f64 4666624433170316651))] .sc (.lit (.float .f64 4666624216420843520)) := ev_run mixed ⟨[], [⟨96, [ex (show FnE Tryz.prog 96 [(.lit (.float .f64 4666624433170316651))] (.lit (.int .u64 4666624433170316651)) from x_bits 4666624433170316651)]⟩, ⟨97, [ex (show FnE Tryz.prog 97 [(.lit (.int .u64 4666624216420843520))] (.lit (.float .f64 4666624216420843520)) from x_from 4666624216420843520)]⟩], [], []⟩ 24 0 Tryz.func86 rfl Tryz.call86 (by kernel_rfl)
-- skyway/angle.Sin
theorem h74 : Fn Tryz.prog 77 [(.int 419)] .sc (.int 9820) := ev_run mixed ⟨[⟨74, .sc, [en h67]⟩, ⟨87, .sc, [en h72]⟩, ⟨86, .sc, [en h73]⟩], [], [], []⟩ 24 0 Tryz.func77 rfl Tryz.call77 (by kernel_rfl)
-- skyway/angle.Norm
theorem h75 : Fn Tryz.prog 74 [(.int 1443)] .sc (.int 1443) := ev_run mixed ⟨[], [], [], []⟩ 24 0 Tryz.func74 rfl Tryz.call74 (by kernel_rfl)
-- math.IsNaN
theorem h76 : Fn Tryz.prog 89 [(.lit (.float .f64 4612166854872369478))] .sc (.bool false) := ev_run mixed ⟨[], [], [], []⟩ 24 0 Tryz.func89 rfl Tryz.call89 (by kernel_rfl)
-- math.Abs
theorem h77 : Fn Tryz.prog 100 [(.lit (.float .f64 4612166854872369478))] .sc (.lit (.float .f64 4612166854872369478)) := ev_run mixed ⟨[], [⟨96, [ex (show FnE Tryz.prog 96 [(.lit (.float .f64 4612166854872369478))] (.lit (.int .u64 4612166854872369478)) from x_bits 4612166854872369478)]⟩, ⟨97, [ex (show FnE Tryz.prog 97 [(.lit (.int .u64 4612166854872369478))] (.lit (.float .f64 4612166854872369478)) from x_from 4612166854872369478)]⟩], [], []⟩ 24 0 Tryz.func100 rfl Tryz.call100 (by kernel_rfl)
-- math.IsInf
theorem h78 : Fn Tryz.prog 90 [(.lit (.float .f64 4612166854872369478)), (.int 0)] .sc (.bool false) := ev_run mixed ⟨[⟨100, .sc, [en h77]⟩], [], [], []⟩ 24 0 Tryz.func90 rfl Tryz.call90 (by kernel_rfl)
-- math.sin
theorem h79 : Fn Tryz.prog 99 [(.lit (.float .f64 4612166854872369478))] .sc (.lit (.float .f64 4605385101203629525)) := ev_run mixed ⟨[⟨89, .sc, [en h76]⟩, ⟨90, .sc, [en h78]⟩], [], [], []⟩ 24 0 Tryz.func99 rfl Tryz.call99 (by kernel_rfl)
-- math.Sin
theorem h80 : Fn Tryz.prog 87 [(.lit (.float .f64 4612166854872369478))] .sc (.lit (.float .f64 4605385101203629525)) := ev_run mixed ⟨[⟨99, .sc, [en h79]⟩], [], [], []⟩ 24 0 Tryz.func87 rfl Tryz.call87 (by kernel_rfl)
-- math.Round
theorem h81 : Fn Tryz.prog 86 [(.lit (.float .f64 4668435495986816469))] .sc (.lit (.float .f64 4668435661827604480)) := ev_run mixed ⟨[], [⟨96, [ex (show FnE Tryz.prog 96 [(.lit (.float .f64 4668435495986816469))] (.lit (.int .u64 4668435495986816469)) from x_bits 4668435495986816469)]⟩, ⟨97, [ex (show FnE Tryz.prog 97 [(.lit (.int .u64 4668435661827604480))] (.lit (.float .f64 4668435661827604480)) from x_from 4668435661827604480)]⟩], [], []⟩ 24 0 Tryz.func86 rfl Tryz.call86 (by kernel_rfl)
-- skyway/angle.Sin
theorem h82 : Fn Tryz.prog 77 [(.int 1443)] .sc (.int 13115) := ev_run mixed ⟨[⟨74, .sc, [en h75]⟩, ⟨87, .sc, [en h80]⟩, ⟨86, .sc, [en h81]⟩], [], [], []⟩ 24 0 Tryz.func77 rfl Tryz.call77 (by kernel_rfl)
-- skyway/angle.Cos
theorem h83 : Fn Tryz.prog 78 [(.int 419)] .sc (.int 13115) := ev_run mixed ⟨[⟨74, .sc, [en h67]⟩, ⟨77, .sc, [en h82]⟩], [], [], []⟩ 24 0 Tryz.func78 rfl Tryz.call78 (by kernel_rfl)
-- skyway/angle.unit
theorem h84 : Fn Tryz.prog 75 [(.int 419)] .sc (.agg [(.int 9820), (.int 13115)]) := ev_run mixed ⟨[⟨77, .sc, [en h74]⟩, ⟨78, .sc, [en h83]⟩], [], [], []⟩ 24 0 Tryz.func75 rfl Tryz.call75 (by kernel_rfl)
-- skyway/angle.Norm
theorem h85 : Fn Tryz.prog 74 [(.int 420)] .sc (.int 420) := ev_run mixed ⟨[], [], [], []⟩ 24 0 Tryz.func74 rfl Tryz.call74 (by kernel_rfl)
-- math.IsNaN
theorem h86 : Fn Tryz.prog 89 [(.lit (.float .f64 4603978305201237246))] .sc (.bool false) := ev_run mixed ⟨[], [], [], []⟩ 24 0 Tryz.func89 rfl Tryz.call89 (by kernel_rfl)
-- math.Abs
theorem h87 : Fn Tryz.prog 100 [(.lit (.float .f64 4603978305201237246))] .sc (.lit (.float .f64 4603978305201237246)) := ev_run mixed ⟨[], [⟨96, [ex (show FnE Tryz.prog 96 [(.lit (.float .f64 4603978305201237246))] (.lit (.int .u64 4603978305201237246)) from x_bits 4603978305201237246)]⟩, ⟨97, [ex (show FnE Tryz.prog 97 [(.lit (.int .u64 4603978305201237246))] (.lit (.float .f64 4603978305201237246)) from x_from 4603978305201237246)]⟩], [], []⟩ 24 0 Tryz.func100 rfl Tryz.call100 (by kernel_rfl)
-- math.IsInf
theorem h88 : Fn Tryz.prog 90 [(.lit (.float .f64 4603978305201237246)), (.int 0)] .sc (.bool false) := ev_run mixed ⟨[⟨100, .sc, [en h87]⟩], [], [], []⟩ 24 0 Tryz.func90 rfl Tryz.call90 (by kernel_rfl)
-- math.sin
theorem h89 : Fn Tryz.prog 99 [(.lit (.float .f64 4603978305201237246))] .sc (.lit (.float .f64 4603585091850767959)) := ev_run mixed ⟨[⟨89, .sc, [en h86]⟩, ⟨90, .sc, [en h88]⟩], [], [], []⟩ 24 0 Tryz.func99 rfl Tryz.call99 (by kernel_rfl)
-- math.Sin
theorem h90 : Fn Tryz.prog 87 [(.lit (.float .f64 4603978305201237246))] .sc (.lit (.float .f64 4603585091850767959)) := ev_run mixed ⟨[⟨99, .sc, [en h89]⟩], [], [], []⟩ 24 0 Tryz.func87 rfl Tryz.call87 (by kernel_rfl)
-- math.Round
theorem h91 : Fn Tryz.prog 86 [(.lit (.float .f64 4666635486633954903))] .sc (.lit (.float .f64 4666635761292935168)) := ev_run mixed ⟨[], [⟨96, [ex (show FnE Tryz.prog 96 [(.lit (.float .f64 4666635486633954903))] (.lit (.int .u64 4666635486633954903)) from x_bits 4666635486633954903)]⟩, ⟨97, [ex (show FnE Tryz.prog 97 [(.lit (.int .u64 4666635761292935168))] (.lit (.float .f64 4666635761292935168)) from x_from 4666635761292935168)]⟩], [], []⟩ 24 0 Tryz.func86 rfl Tryz.call86 (by kernel_rfl)
-- skyway/angle.Sin
theorem h92 : Fn Tryz.prog 77 [(.int 420)] .sc (.int 9841) := ev_run mixed ⟨[⟨74, .sc, [en h85]⟩, ⟨87, .sc, [en h90]⟩, ⟨86, .sc, [en h91]⟩], [], [], []⟩ 24 0 Tryz.func77 rfl Tryz.call77 (by kernel_rfl)
-- skyway/angle.Norm
theorem h93 : Fn Tryz.prog 74 [(.int 1444)] .sc (.int 1444) := ev_run mixed ⟨[], [], [], []⟩ 24 0 Tryz.func74 rfl Tryz.call74 (by kernel_rfl)
-- math.IsNaN
theorem h94 : Fn Tryz.prog 89 [(.lit (.float .f64 4612170309090021835))] .sc (.bool false) := ev_run mixed ⟨[], [], [], []⟩ 24 0 Tryz.func89 rfl Tryz.call89 (by kernel_rfl)
-- math.Abs
theorem h95 : Fn Tryz.prog 100 [(.lit (.float .f64 4612170309090021835))] .sc (.lit (.float .f64 4612170309090021835)) := ev_run mixed ⟨[], [⟨96, [ex (show FnE Tryz.prog 96 [(.lit (.float .f64 4612170309090021835))] (.lit (.int .u64 4612170309090021835)) from x_bits 4612170309090021835)]⟩, ⟨97, [ex (show FnE Tryz.prog 97 [(.lit (.int .u64 4612170309090021835))] (.lit (.float .f64 4612170309090021835)) from x_from 4612170309090021835)]⟩], [], []⟩ 24 0 Tryz.func100 rfl Tryz.call100 (by kernel_rfl)
-- math.IsInf
theorem h96 : Fn Tryz.prog 90 [(.lit (.float .f64 4612170309090021835)), (.int 0)] .sc (.bool false) := ev_run mixed ⟨[⟨100, .sc, [en h95]⟩], [], [], []⟩ 24 0 Tryz.func90 rfl Tryz.call90 (by kernel_rfl)
-- math.sin
theorem h97 : Fn Tryz.prog 99 [(.lit (.float .f64 4612170309090021835))] .sc (.lit (.float .f64 4605376811039722788)) := ev_run mixed ⟨[⟨89, .sc, [en h94]⟩, ⟨90, .sc, [en h96]⟩], [], [], []⟩ 24 0 Tryz.func99 rfl Tryz.call99 (by kernel_rfl)
-- math.Sin
theorem h98 : Fn Tryz.prog 87 [(.lit (.float .f64 4612170309090021835))] .sc (.lit (.float .f64 4605376811039722788)) := ev_run mixed ⟨[⟨99, .sc, [en h97]⟩], [], [], []⟩ 24 0 Tryz.func87 rfl Tryz.call87 (by kernel_rfl)
-- math.Round
theorem h99 : Fn Tryz.prog 86 [(.lit (.float .f64 4668427205822909732))] .sc (.lit (.float .f64 4668427415490396160)) := ev_run mixed ⟨[], [⟨96, [ex (show FnE Tryz.prog 96 [(.lit (.float .f64 4668427205822909732))] (.lit (.int .u64 4668427205822909732)) from x_bits 4668427205822909732)]⟩, ⟨97, [ex (show FnE Tryz.prog 97 [(.lit (.int .u64 4668427415490396160))] (.lit (.float .f64 4668427415490396160)) from x_from 4668427415490396160)]⟩], [], []⟩ 24 0 Tryz.func86 rfl Tryz.call86 (by kernel_rfl)
-- skyway/angle.Sin
theorem h100 : Fn Tryz.prog 77 [(.int 1444)] .sc (.int 13100) := ev_run mixed ⟨[⟨74, .sc, [en h93]⟩, ⟨87, .sc, [en h98]⟩, ⟨86, .sc, [en h99]⟩], [], [], []⟩ 24 0 Tryz.func77 rfl Tryz.call77 (by kernel_rfl)
-- skyway/angle.Cos
theorem h101 : Fn Tryz.prog 78 [(.int 420)] .sc (.int 13100) := ev_run mixed ⟨[⟨74, .sc, [en h85]⟩, ⟨77, .sc, [en h100]⟩], [], [], []⟩ 24 0 Tryz.func78 rfl Tryz.call78 (by kernel_rfl)
-- skyway/angle.unit
theorem h102 : Fn Tryz.prog 75 [(.int 420)] .sc (.agg [(.int 9841), (.int 13100)]) := ev_run mixed ⟨[⟨77, .sc, [en h92]⟩, ⟨78, .sc, [en h101]⟩], [], [], []⟩ 24 0 Tryz.func75 rfl Tryz.call75 (by kernel_rfl)
-- skyway/angle.cross
theorem h103 : Fn Tryz.prog 76 [(.agg [(.int 9820), (.int 13115)]), (.agg [(.int 3000), (.int 4000)])] .sc (.int 65000) := ev_run mixed ⟨[], [], [], []⟩ 24 0 Tryz.func76 rfl Tryz.call76 (by kernel_rfl)
-- skyway/angle.cross
theorem h104 : Fn Tryz.prog 76 [(.agg [(.int 3000), (.int 4000)]), (.agg [(.int 9841), (.int 13100)])] .sc (.int 64000) := ev_run mixed ⟨[], [], [], []⟩ 24 0 Tryz.func76 rfl Tryz.call76 (by kernel_rfl)
-- skyway/angle.Of
theorem h105 : Fn Tryz.prog 58 [(.agg [(.int 3000), (.int 4000)])] (.tup [.sc, .sc]) (.tup [(.int 420), (.int 0)]) := ev_run mixed ⟨[⟨73, .sc, [en h65]⟩, ⟨72, .sc, [en h66]⟩, ⟨74, .sc, [en h67, en h85]⟩, ⟨75, .sc, [en h84, en h102]⟩, ⟨76, .sc, [en h103, en h104]⟩], [], [], []⟩ 24 0 Tryz.func58 rfl Tryz.call58 (by kernel_rfl)
-- skyway/wind.At
theorem h106 : Fn Tryz.prog 59 [(.sl 5 []), (.int 1000)] (.tup [.sc, .sc]) (.tup [(.agg [(.int 0), (.int 60001), (.int 0), (.int 0), (.int 0)]), (.int 0)]) := ev_run mixed ⟨[⟨57, .sc, [en h51]⟩], [], [], []⟩ 24 0 Tryz.func59 rfl Tryz.call59 (by kernel_rfl)
-- skyway/wind.Check$1
theorem h107 : Fn Tryz.prog 71 [(.int 0)] .sc (.bool false) := ev_run mixed ⟨[], [], [], []⟩ 24 0 Tryz.func71 rfl Tryz.call71 (by kernel_rfl)
-- skyway/wind.Check
theorem h108 : Fn Tryz.prog 57 [(.sl 5 [[(.int 0), (.int 60001), (.int 0), (.int 0), (.int 0)]])] .sc (.int 0) := ev_run mixed ⟨[⟨71, .sc, [en h107]⟩], [], [], []⟩ 24 0 Tryz.func57 rfl Tryz.call57 (by kernel_rfl)
-- skyway/wind.size
theorem h109 : Fn Tryz.prog 79 [(.int 9841)] .sc (.int 9841) := ev_run mixed ⟨[], [], [], []⟩ 24 0 Tryz.func79 rfl Tryz.call79 (by kernel_rfl)
-- skyway/wind.size
theorem h110 : Fn Tryz.prog 79 [(.int 13100)] .sc (.int 13100) := ev_run mixed ⟨[], [], [], []⟩ 24 0 Tryz.func79 rfl Tryz.call79 (by kernel_rfl)
-- skyway/num.DivDown
theorem h111 : Fn Tryz.prog 23 [(.int 0), (.int 16384)] (.tup [.sc, .sc]) (.tup [(.int 0), (.int 0)]) := ev_run mixed ⟨[], [], [], []⟩ 24 0 Tryz.func23 rfl Tryz.call23 (by kernel_rfl)
-- skyway/num.DivUp
theorem h112 : Fn Tryz.prog 14 [(.int 0), (.int 16384)] (.tup [.sc, .sc]) (.tup [(.int 0), (.int 0)]) := ev_run mixed ⟨[⟨23, (.tup [.sc, .sc]), [en h111]⟩], [], [], []⟩ 24 0 Tryz.func14 rfl Tryz.call14 (by kernel_rfl)
-- skyway/wind.Ground
theorem h113 : Fn Tryz.prog 60 [(.int 100), (.int 420), (.agg [(.int 0), (.int 60001), (.int 0), (.int 0), (.int 0)])] (.tup [.sc, .sc, .sc]) (.tup [(.int 100), (.int 100), (.int 0)]) := ev_run mixed ⟨[⟨57, .sc, [en h108]⟩, ⟨77, .sc, [en h92]⟩, ⟨78, .sc, [en h101]⟩, ⟨79, .sc, [en h109, en h110]⟩, ⟨23, (.tup [.sc, .sc]), [en h111]⟩, ⟨14, (.tup [.sc, .sc]), [en h112]⟩], [], [], []⟩ 24 0 Tryz.func60 rfl Tryz.call60 (by kernel_rfl)
-- skyway/num.DivDown
theorem h114 : Fn Tryz.prog 23 [(.int 5000), (.int 100)] (.tup [.sc, .sc]) (.tup [(.int 50), (.int 0)]) := ev_run mixed ⟨[], [], [], []⟩ 24 0 Tryz.func23 rfl Tryz.call23 (by kernel_rfl)
-- skyway/num.DivUp
theorem h115 : Fn Tryz.prog 14 [(.int 5000), (.int 100)] (.tup [.sc, .sc]) (.tup [(.int 50), (.int 0)]) := ev_run mixed ⟨[⟨23, (.tup [.sc, .sc]), [en h114]⟩], [], [], []⟩ 24 0 Tryz.func14 rfl Tryz.call14 (by kernel_rfl)
-- skyway/wind.Leg
theorem h116 : Fn Tryz.prog 35 [(.sl 5 []), (.int 100), (.int 1000), (.agg [(.int 0), (.int 0)]), (.agg [(.int 3000), (.int 4000)])] (.tup [.sc, .sc, .sc]) (.tup [(.int 50), (.int 50), (.int 0)]) := ev_run mixed ⟨[⟨57, .sc, [en h51]⟩, ⟨16, .sc, [en h10, en h13]⟩, ⟨42, .sc, [en h53]⟩, ⟨58, (.tup [.sc, .sc]), [en h105]⟩, ⟨59, (.tup [.sc, .sc]), [en h106]⟩, ⟨60, (.tup [.sc, .sc, .sc]), [en h113]⟩, ⟨61, (.tup [.sc, .sc]), [en h40]⟩, ⟨14, (.tup [.sc, .sc]), [en h115]⟩], [], [], []⟩ 24 0 Tryz.func35 rfl Tryz.call35 (by kernel_rfl)
-- skyway/plane.Sub
theorem h117 : Fn Tryz.prog 42 [(.agg [(.int 6000), (.int 8000)]), (.agg [(.int 3000), (.int 4000)])] .sc (.agg [(.int 3000), (.int 4000)]) := ev_run mixed ⟨[], [], [], []⟩ 24 0 Tryz.func42 rfl Tryz.call42 (by kernel_rfl)
-- skyway/wind.Leg
theorem h118 : Fn Tryz.prog 35 [(.sl 5 []), (.int 100), (.int 1000), (.agg [(.int 3000), (.int 4000)]), (.agg [(.int 6000), (.int 8000)])] (.tup [.sc, .sc, .sc]) (.tup [(.int 50), (.int 50), (.int 0)]) := ev_run mixed ⟨[⟨57, .sc, [en h51]⟩, ⟨16, .sc, [en h13, en h15]⟩, ⟨42, .sc, [en h117]⟩, ⟨58, (.tup [.sc, .sc]), [en h105]⟩, ⟨59, (.tup [.sc, .sc]), [en h106]⟩, ⟨60, (.tup [.sc, .sc, .sc]), [en h113]⟩, ⟨61, (.tup [.sc, .sc]), [en h43]⟩, ⟨14, (.tup [.sc, .sc]), [en h115]⟩], [], [], []⟩ 24 0 Tryz.func35 rfl Tryz.call35 (by kernel_rfl)
-- skyway/num.DivDown
theorem h119 : Fn Tryz.prog 23 [(.int 1000), (.int 40)] (.tup [.sc, .sc]) (.tup [(.int 25), (.int 0)]) := ev_run mixed ⟨[], [], [], []⟩ 24 0 Tryz.func23 rfl Tryz.call23 (by kernel_rfl)
-- skyway/num.DivUp
theorem h120 : Fn Tryz.prog 14 [(.int 1000), (.int 40)] (.tup [.sc, .sc]) (.tup [(.int 25), (.int 0)]) := ev_run mixed ⟨[⟨23, (.tup [.sc, .sc]), [en h119]⟩], [], [], []⟩ 24 0 Tryz.func14 rfl Tryz.call14 (by kernel_rfl)
-- skyway/num.DivDown
theorem h121 : Fn Tryz.prog 23 [(.int 1000), (.int 50)] (.tup [.sc, .sc]) (.tup [(.int 20), (.int 0)]) := ev_run mixed ⟨[], [], [], []⟩ 24 0 Tryz.func23 rfl Tryz.call23 (by kernel_rfl)
-- skyway/num.DivUp
theorem h122 : Fn Tryz.prog 14 [(.int 1000), (.int 50)] (.tup [.sc, .sc]) (.tup [(.int 20), (.int 0)]) := ev_run mixed ⟨[⟨23, (.tup [.sc, .sc]), [en h121]⟩], [], [], []⟩ 24 0 Tryz.func14 rfl Tryz.call14 (by kernel_rfl)
-- skyway/fly.Path$1
theorem h123 : Fn Tryz.prog 37 [(.agg [(.int 150), (.int 3000), (.int 4000), (.int 0)]), (.int 125)] .sc (.int 25) := ev_run mixed ⟨[], [], [], []⟩ 24 0 Tryz.func37 rfl Tryz.call37 (by kernel_rfl)
-- skyway/fly.Path$1
theorem h124 : Fn Tryz.prog 37 [(.agg [(.int 100), (.int 0), (.int 0), (.int 0)]), (.int 125)] .sc (.int (-25)) := ev_run mixed ⟨[], [], [], []⟩ 24 0 Tryz.func37 rfl Tryz.call37 (by kernel_rfl)
-- skyway/num.DivDown
theorem h125 : Fn Tryz.prog 23 [(.int 75000), (.int 50)] (.tup [.sc, .sc]) (.tup [(.int 1500), (.int 0)]) := ev_run mixed ⟨[], [], [], []⟩ 24 0 Tryz.func23 rfl Tryz.call23 (by kernel_rfl)
-- skyway/num.DivDown
theorem h126 : Fn Tryz.prog 23 [(.int 100000), (.int 50)] (.tup [.sc, .sc]) (.tup [(.int 2000), (.int 0)]) := ev_run mixed ⟨[], [], [], []⟩ 24 0 Tryz.func23 rfl Tryz.call23 (by kernel_rfl)
-- skyway/plane.Toward
theorem h127 : Fn Tryz.prog 24 [(.agg [(.int 0), (.int 0)]), (.agg [(.int 3000), (.int 4000)]), (.int 25), (.int 50)] (.tup [.sc, .sc]) (.tup [(.agg [(.int 1500), (.int 2000)]), (.int 0)]) := ev_run mixed ⟨[⟨16, .sc, [en h10, en h13]⟩, ⟨23, (.tup [.sc, .sc]), [en h125, en h126]⟩], [], [], []⟩ 24 0 Tryz.func24 rfl Tryz.call24 (by kernel_rfl)
-- skyway/fly.Path$1
theorem h128 : Fn Tryz.prog 37 [(.agg [(.int 150), (.int 3000), (.int 4000), (.int 0)]), (.int 180)] .sc (.int (-30)) := ev_run mixed ⟨[], [], [], []⟩ 24 0 Tryz.func37 rfl Tryz.call37 (by kernel_rfl)
-- skyway/fly.Path$1
theorem h129 : Fn Tryz.prog 37 [(.agg [(.int 200), (.int 6000), (.int 8000), (.int 0)]), (.int 180)] .sc (.int 20) := ev_run mixed ⟨[], [], [], []⟩ 24 0 Tryz.func37 rfl Tryz.call37 (by kernel_rfl)
-- skyway/num.DivDown
theorem h130 : Fn Tryz.prog 23 [(.int 90000), (.int 50)] (.tup [.sc, .sc]) (.tup [(.int 1800), (.int 0)]) := ev_run mixed ⟨[], [], [], []⟩ 24 0 Tryz.func23 rfl Tryz.call23 (by kernel_rfl)
-- skyway/num.DivDown
theorem h131 : Fn Tryz.prog 23 [(.int 120000), (.int 50)] (.tup [.sc, .sc]) (.tup [(.int 2400), (.int 0)]) := ev_run mixed ⟨[], [], [], []⟩ 24 0 Tryz.func23 rfl Tryz.call23 (by kernel_rfl)
-- skyway/plane.Toward
theorem h132 : Fn Tryz.prog 24 [(.agg [(.int 3000), (.int 4000)]), (.agg [(.int 6000), (.int 8000)]), (.int 30), (.int 50)] (.tup [.sc, .sc]) (.tup [(.agg [(.int 4800), (.int 6400)]), (.int 0)]) := ev_run mixed ⟨[⟨16, .sc, [en h13, en h15]⟩, ⟨23, (.tup [.sc, .sc]), [en h130, en h131]⟩], [], [], []⟩ 24 0 Tryz.func24 rfl Tryz.call24 (by kernel_rfl)
-- skyway/fly.Profile
theorem h133 : Fn Tryz.prog 39 [(.agg [(.string ⟨#[65, 51, 50, 48]⟩), (.int 1), (.int 39000), (.int 40), (.int 50), (.int 70), (.int 250)]), (.int 1000), (.int 100), (.int 0)] (.tup [.sc, .sc]) (.tup [(.int 0), (.int 0)]) := ev_run mixed ⟨[⟨56, .sc, [en h50]⟩], [], [], []⟩ 24 0 Tryz.func39 rfl Tryz.call39 (by kernel_rfl)
-- skyway/fly.Profile
theorem h134 : Fn Tryz.prog 39 [(.agg [(.string ⟨#[65, 51, 50, 48]⟩), (.int 1), (.int 39000), (.int 40), (.int 50), (.int 70), (.int 250)]), (.int 1000), (.int 100), (.int 25)] (.tup [.sc, .sc]) (.tup [(.int 1000), (.int 0)]) := ev_run mixed ⟨[⟨56, .sc, [en h50]⟩], [], [], []⟩ 24 0 Tryz.func39 rfl Tryz.call39 (by kernel_rfl)
-- skyway/fly.Profile
theorem h135 : Fn Tryz.prog 39 [(.agg [(.string ⟨#[65, 51, 50, 48]⟩), (.int 1), (.int 39000), (.int 40), (.int 50), (.int 70), (.int 250)]), (.int 1000), (.int 100), (.int 50)] (.tup [.sc, .sc]) (.tup [(.int 1000), (.int 0)]) := ev_run mixed ⟨[⟨56, .sc, [en h50]⟩], [], [], []⟩ 24 0 Tryz.func39 rfl Tryz.call39 (by kernel_rfl)
-- skyway/fly.Profile
theorem h136 : Fn Tryz.prog 39 [(.agg [(.string ⟨#[65, 51, 50, 48]⟩), (.int 1), (.int 39000), (.int 40), (.int 50), (.int 70), (.int 250)]), (.int 1000), (.int 100), (.int 80)] (.tup [.sc, .sc]) (.tup [(.int 1000), (.int 0)]) := ev_run mixed ⟨[⟨56, .sc, [en h50]⟩], [], [], []⟩ 24 0 Tryz.func39 rfl Tryz.call39 (by kernel_rfl)
-- skyway/fly.Profile
theorem h137 : Fn Tryz.prog 39 [(.agg [(.string ⟨#[65, 51, 50, 48]⟩), (.int 1), (.int 39000), (.int 40), (.int 50), (.int 70), (.int 250)]), (.int 1000), (.int 100), (.int 100)] (.tup [.sc, .sc]) (.tup [(.int 0), (.int 0)]) := ev_run mixed ⟨[⟨56, .sc, [en h50]⟩], [], [], []⟩ 24 0 Tryz.func39 rfl Tryz.call39 (by kernel_rfl)
-- skyway/fly.Path
theorem h138 : Fn Tryz.prog 19 [(.sl 3 [[(.string ⟨#[65]⟩), (.int 0), (.int 0)], [(.string ⟨#[66]⟩), (.int 3000), (.int 4000)], [(.string ⟨#[67]⟩), (.int 6000), (.int 8000)]]), (.agg [(.string ⟨#[66, 65, 49, 50]⟩), (.string ⟨#[65, 51, 50, 48]⟩), (.string ⟨#[65]⟩), (.string ⟨#[67]⟩), (.int 100), (.int 100), (.int 1000), (.sl 1 [[(.string ⟨#[85, 76, 49]⟩)]])]), (.agg [(.string ⟨#[65, 51, 50, 48]⟩), (.int 1), (.int 39000), (.int 40), (.int 50), (.int 70), (.int 250)]), (.sl 5 [])] (.tup [(.row 33 4 true), .sc]) (.tup [(.sl 4 [[(.int 100), (.int 0), (.int 0), (.int 0)], [(.int 125), (.int 1500), (.int 2000), (.int 1000)], [(.int 150), (.int 3000), (.int 4000), (.int 1000)], [(.int 180), (.int 4800), (.int 6400), (.int 1000)], [(.int 200), (.int 6000), (.int 8000), (.int 0)]]), (.int 0)]) := ev_run mixed ⟨[⟨34, .sc, [en h52]⟩, ⟨35, (.tup [.sc, .sc, .sc]), [en h116, en h118]⟩, ⟨14, (.tup [.sc, .sc]), [en h120, en h122]⟩, ⟨37, .sc, [en h123, en h124, en h128, en h129]⟩, ⟨24, (.tup [.sc, .sc]), [en h127, en h132]⟩, ⟨39, (.tup [.sc, .sc]), [en h133, en h134, en h135, en h136, en h137]⟩], [], [⟨38, true, [eu (insNo [[(.int 100), (.int 0), (.int 0), (.int 0)], [(.int 150), (.int 3000), (.int 4000), (.int 0)], [(.int 200), (.int 6000), (.int 8000), (.int 0)]] [[(.int 125), (.int 1500), (.int 2000), (.int 0)]] 1 (by decide) (by decide) ((default : Chk (AV.flatS (.sl 4 [[(.int 125), (.int 1500), (.int 2000), (.int 0)]]))).ok rfl) (by decide)), eu (insNo [[(.int 100), (.int 0), (.int 0), (.int 0)], [(.int 125), (.int 1500), (.int 2000), (.int 0)], [(.int 150), (.int 3000), (.int 4000), (.int 0)], [(.int 200), (.int 6000), (.int 8000), (.int 0)]] [[(.int 180), (.int 4800), (.int 6400), (.int 0)]] 3 (by decide) (by decide) ((default : Chk (AV.flatS (.sl 4 [[(.int 180), (.int 4800), (.int 6400), (.int 0)]]))).ok rfl) (by decide))]⟩], [⟨36, Tryz.call36⟩]⟩ 24 2 Tryz.func19 rfl Tryz.call19 (by kernel_rfl)
-- skyway/plane.Check
theorem h139 : Fn Tryz.prog 16 [(.agg [(.int 1500), (.int 2000)])] .sc (.int 0) := ev_run mixed ⟨[], [], [], []⟩ 24 0 Tryz.func16 rfl Tryz.call16 (by kernel_rfl)
-- skyway/plane.Check
theorem h140 : Fn Tryz.prog 16 [(.agg [(.int 4800), (.int 6400)])] .sc (.int 0) := ev_run mixed ⟨[], [], [], []⟩ 24 0 Tryz.func16 rfl Tryz.call16 (by kernel_rfl)
-- skyway/fly.Check
theorem h141 : Fn Tryz.prog 13 [(.sl 4 [[(.int 100), (.int 0), (.int 0), (.int 0)], [(.int 125), (.int 1500), (.int 2000), (.int 1000)], [(.int 150), (.int 3000), (.int 4000), (.int 1000)], [(.int 180), (.int 4800), (.int 6400), (.int 1000)], [(.int 200), (.int 6000), (.int 8000), (.int 0)]])] .sc (.int 0) := ev_run mixed ⟨[⟨16, .sc, [en h10, en h139, en h13, en h140, en h15]⟩], [], [], []⟩ 24 0 Tryz.func13 rfl Tryz.call13 (by kernel_rfl)
-- skyway/num.DivDown
theorem h142 : Fn Tryz.prog 23 [(.int 0), (.int 60)] (.tup [.sc, .sc]) (.tup [(.int 0), (.int 0)]) := ev_run mixed ⟨[], [], [], []⟩ 24 0 Tryz.func23 rfl Tryz.call23 (by kernel_rfl)
-- skyway/num.DivUp
theorem h143 : Fn Tryz.prog 14 [(.int 0), (.int 60)] (.tup [.sc, .sc]) (.tup [(.int 0), (.int 0)]) := ev_run mixed ⟨[⟨23, (.tup [.sc, .sc]), [en h142]⟩], [], [], []⟩ 24 0 Tryz.func14 rfl Tryz.call14 (by kernel_rfl)
-- skyway/num.DivDown
theorem h144 : Fn Tryz.prog 23 [(.int 1500), (.int 60)] (.tup [.sc, .sc]) (.tup [(.int 25), (.int 0)]) := ev_run mixed ⟨[], [], [], []⟩ 24 0 Tryz.func23 rfl Tryz.call23 (by kernel_rfl)
-- skyway/num.DivUp
theorem h145 : Fn Tryz.prog 14 [(.int 1500), (.int 60)] (.tup [.sc, .sc]) (.tup [(.int 25), (.int 0)]) := ev_run mixed ⟨[⟨23, (.tup [.sc, .sc]), [en h144]⟩], [], [], []⟩ 24 0 Tryz.func14 rfl Tryz.call14 (by kernel_rfl)
-- skyway/num.DivDown
theorem h146 : Fn Tryz.prog 23 [(.int 3000), (.int 60)] (.tup [.sc, .sc]) (.tup [(.int 50), (.int 0)]) := ev_run mixed ⟨[], [], [], []⟩ 24 0 Tryz.func23 rfl Tryz.call23 (by kernel_rfl)
-- skyway/num.DivUp
theorem h147 : Fn Tryz.prog 14 [(.int 3000), (.int 60)] (.tup [.sc, .sc]) (.tup [(.int 50), (.int 0)]) := ev_run mixed ⟨[⟨23, (.tup [.sc, .sc]), [en h146]⟩], [], [], []⟩ 24 0 Tryz.func14 rfl Tryz.call14 (by kernel_rfl)
-- skyway/num.DivDown
theorem h148 : Fn Tryz.prog 23 [(.int 4800), (.int 60)] (.tup [.sc, .sc]) (.tup [(.int 80), (.int 0)]) := ev_run mixed ⟨[], [], [], []⟩ 24 0 Tryz.func23 rfl Tryz.call23 (by kernel_rfl)
-- skyway/num.DivUp
theorem h149 : Fn Tryz.prog 14 [(.int 4800), (.int 60)] (.tup [.sc, .sc]) (.tup [(.int 80), (.int 0)]) := ev_run mixed ⟨[⟨23, (.tup [.sc, .sc]), [en h148]⟩], [], [], []⟩ 24 0 Tryz.func14 rfl Tryz.call14 (by kernel_rfl)
-- skyway/num.DivDown
theorem h150 : Fn Tryz.prog 23 [(.int 6000), (.int 60)] (.tup [.sc, .sc]) (.tup [(.int 100), (.int 0)]) := ev_run mixed ⟨[], [], [], []⟩ 24 0 Tryz.func23 rfl Tryz.call23 (by kernel_rfl)
-- skyway/num.DivUp
theorem h151 : Fn Tryz.prog 14 [(.int 6000), (.int 60)] (.tup [.sc, .sc]) (.tup [(.int 100), (.int 0)]) := ev_run mixed ⟨[⟨23, (.tup [.sc, .sc]), [en h150]⟩], [], [], []⟩ 24 0 Tryz.func14 rfl Tryz.call14 (by kernel_rfl)
-- skyway/tube.Of
theorem h152 : Fn Tryz.prog 5 [(.sl 4 [[(.int 100), (.int 0), (.int 0), (.int 0)], [(.int 125), (.int 1500), (.int 2000), (.int 1000)], [(.int 150), (.int 3000), (.int 4000), (.int 1000)], [(.int 180), (.int 4800), (.int 6400), (.int 1000)], [(.int 200), (.int 6000), (.int 8000), (.int 0)]]), (.int 500), (.int 60), (.int 100)] (.tup [(.row 54 6 true), .sc]) (.tup [(.sl 6 [[(.int 100), (.int 0), (.int 0), (.int 0), (.int 500), (.int 100)], [(.int 125), (.int 1500), (.int 2000), (.int 1000), (.int 525), (.int 100)], [(.int 150), (.int 3000), (.int 4000), (.int 1000), (.int 550), (.int 100)], [(.int 180), (.int 4800), (.int 6400), (.int 1000), (.int 580), (.int 100)], [(.int 200), (.int 6000), (.int 8000), (.int 0), (.int 600), (.int 100)]]), (.int 0)]) := ev_run mixed ⟨[⟨13, .sc, [en h141]⟩, ⟨14, (.tup [.sc, .sc]), [en h143, en h145, en h147, en h149, en h151]⟩], [], [], []⟩ 24 0 Tryz.func5 rfl Tryz.call5 (by kernel_rfl)
-- skyway/skywaytop.h05Tube
theorem h153 : Fn Tryz.prog 9 [(.agg [(.string ⟨#[66, 65, 49, 50]⟩), (.string ⟨#[65, 51, 50, 48]⟩), (.string ⟨#[65]⟩), (.string ⟨#[67]⟩), (.int 100), (.int 100), (.int 1000), (.sl 1 [[(.string ⟨#[85, 76, 49]⟩)]])]), (.agg [(.sl 3 [[(.string ⟨#[65]⟩), (.int 0), (.int 0)], [(.string ⟨#[66]⟩), (.int 3000), (.int 4000)], [(.string ⟨#[67]⟩), (.int 6000), (.int 8000)]]), (.sl 2 [[(.string ⟨#[85, 76, 49]⟩), (.sl 1 [[(.string ⟨#[65]⟩)], [(.string ⟨#[66]⟩)], [(.string ⟨#[67]⟩)]])]])]), (.agg [(.string ⟨#[65, 51, 50, 48]⟩), (.int 1), (.int 39000), (.int 40), (.int 50), (.int 70), (.int 250)]), (.sl 5 []), (.int 500), (.int 60), (.int 100)] (.tup [(.row 33 4 true), (.row 54 6 true), .sc]) (.tup [(.sl 4 [[(.int 100), (.int 0), (.int 0), (.int 0)], [(.int 125), (.int 1500), (.int 2000), (.int 1000)], [(.int 150), (.int 3000), (.int 4000), (.int 1000)], [(.int 180), (.int 4800), (.int 6400), (.int 1000)], [(.int 200), (.int 6000), (.int 8000), (.int 0)]]), (.sl 6 [[(.int 100), (.int 0), (.int 0), (.int 0), (.int 500), (.int 100)], [(.int 125), (.int 1500), (.int 2000), (.int 1000), (.int 525), (.int 100)], [(.int 150), (.int 3000), (.int 4000), (.int 1000), (.int 550), (.int 100)], [(.int 180), (.int 4800), (.int 6400), (.int 1000), (.int 580), (.int 100)], [(.int 200), (.int 6000), (.int 8000), (.int 0), (.int 600), (.int 100)]]), (.int 0)]) := ev_run mixed ⟨[⟨18, (.tup [(.row 69 3 true), .sc]), [en h34]⟩, ⟨19, (.tup [(.row 33 4 true), .sc]), [en h138]⟩, ⟨5, (.tup [(.row 54 6 true), .sc]), [en h152]⟩], [], [], []⟩ 24 0 Tryz.func9 rfl Tryz.call9 (by kernel_rfl)
-- skyway/tube.Check
theorem h154 : Fn Tryz.prog 20 [(.sl 6 [[(.int 100), (.int 0), (.int 0), (.int 0), (.int 500), (.int 100)], [(.int 125), (.int 1500), (.int 2000), (.int 1000), (.int 525), (.int 100)], [(.int 150), (.int 3000), (.int 4000), (.int 1000), (.int 550), (.int 100)], [(.int 180), (.int 4800), (.int 6400), (.int 1000), (.int 580), (.int 100)], [(.int 200), (.int 6000), (.int 8000), (.int 0), (.int 600), (.int 100)]])] .sc (.int 0) := ev_run mixed ⟨[⟨16, .sc, [en h10, en h139, en h13, en h140, en h15]⟩], [], [], []⟩ 24 0 Tryz.func20 rfl Tryz.call20 (by kernel_rfl)
-- skyway/tube.ends
theorem h155 : Fn Tryz.prog 21 [(.sl 6 [[(.int 100), (.int 0), (.int 0), (.int 0), (.int 500), (.int 100)], [(.int 125), (.int 1500), (.int 2000), (.int 1000), (.int 525), (.int 100)], [(.int 150), (.int 3000), (.int 4000), (.int 1000), (.int 550), (.int 100)], [(.int 180), (.int 4800), (.int 6400), (.int 1000), (.int 580), (.int 100)], [(.int 200), (.int 6000), (.int 8000), (.int 0), (.int 600), (.int 100)]])] (.tup [.sc, .sc]) (.tup [(.int 100), (.int 200)]) := ev_run mixed ⟨[], [], [], []⟩ 24 0 Tryz.func21 rfl Tryz.call21 (by kernel_rfl)
-- skyway/tube.at$1
theorem h156 : Fn Tryz.prog 41 [(.agg [(.int 150), (.int 3000), (.int 4000), (.int 1000), (.int 550), (.int 100)]), (.int 150)] .sc (.int 0) := ev_run mixed ⟨[], [], [], []⟩ 24 0 Tryz.func41 rfl Tryz.call41 (by kernel_rfl)
-- skyway/tube.at$1
theorem h157 : Fn Tryz.prog 41 [(.agg [(.int 125), (.int 1500), (.int 2000), (.int 1000), (.int 525), (.int 100)]), (.int 150)] .sc (.int (-25)) := ev_run mixed ⟨[], [], [], []⟩ 24 0 Tryz.func41 rfl Tryz.call41 (by kernel_rfl)
-- skyway/tube.at
theorem h158 : Fn Tryz.prog 22 [(.sl 6 [[(.int 100), (.int 0), (.int 0), (.int 0), (.int 500), (.int 100)], [(.int 125), (.int 1500), (.int 2000), (.int 1000), (.int 525), (.int 100)], [(.int 150), (.int 3000), (.int 4000), (.int 1000), (.int 550), (.int 100)], [(.int 180), (.int 4800), (.int 6400), (.int 1000), (.int 580), (.int 100)], [(.int 200), (.int 6000), (.int 8000), (.int 0), (.int 600), (.int 100)]]), (.int 150)] .sc (.agg [(.int 150), (.int 3000), (.int 4000), (.int 1000), (.int 550), (.int 100)]) := ev_run mixed ⟨[⟨41, .sc, [en h156, en h157]⟩], [], [], [⟨40, Tryz.call40⟩]⟩ 24 1 Tryz.func22 rfl Tryz.call22 (by kernel_rfl)
-- skyway/tube.At
theorem h159 : Fn Tryz.prog 12 [(.sl 6 [[(.int 100), (.int 0), (.int 0), (.int 0), (.int 500), (.int 100)], [(.int 125), (.int 1500), (.int 2000), (.int 1000), (.int 525), (.int 100)], [(.int 150), (.int 3000), (.int 4000), (.int 1000), (.int 550), (.int 100)], [(.int 180), (.int 4800), (.int 6400), (.int 1000), (.int 580), (.int 100)], [(.int 200), (.int 6000), (.int 8000), (.int 0), (.int 600), (.int 100)]]), (.int 150)] (.tup [.sc, .sc]) (.tup [(.agg [(.int 150), (.int 3000), (.int 4000), (.int 1000), (.int 550), (.int 100)]), (.int 0)]) := ev_run mixed ⟨[⟨20, .sc, [en h154]⟩, ⟨21, (.tup [.sc, .sc]), [en h155]⟩, ⟨22, .sc, [en h158]⟩], [], [], []⟩ 24 0 Tryz.func12 rfl Tryz.call12 (by kernel_rfl)
-- skyway/skywaytop.h05Works
theorem h160 : Fn Tryz.prog 4 [] .sc (.bool true) := ev_run mixed ⟨[⟨10, (.agg [(.row 69 3 true), (.row 71 2 false)]), [en h0]⟩, ⟨11, .sc, [en h1]⟩, ⟨9, (.tup [(.row 33 4 true), (.row 54 6 true), .sc]), [en h153]⟩, ⟨12, (.tup [.sc, .sc]), [en h159]⟩], [], [], []⟩ 24 0 Tryz.func4 rfl Tryz.call4 (by kernel_rfl)
end Go.Proofs.YtfemeeffoapemaaGreatDoor
/- TopTubeHolds: the law over plain values. -/
namespace Go.Proofs.YtfemeeffoapemaaGreatDoor
open Go.RowKit
set_option linter.unusedVariables false
set_option linter.unusedSimpArgs false
set_option maxRecDepth 100000
theorem hworks : Fn Tryz.prog 4 [] .sc (.bool true) := h160
/-! ### plain: a tube's node at a time is the path's -/
theorem ixF_map (f : Nd → Nd) (hf : ∀ n, (f n).t = n.t) (t : Int) : ∀ l : List Nd, ixF t (l.map f) = ixF t l
  | [] => rfl
  | n :: l => by
    rw [List.map_cons, ixF, ixF, hf, ixF_map f hf t l]
theorem dvu_lo {p n d : Int} (hd : 0 < d) (h0 : 0 ≤ n) (h1 : n ≤ d) : (0 ≤ p → 0 ≤ dvu (p * n) d ∧ dvu (p * n) d ≤ p + 1) ∧ (p ≤ 0 → p ≤ dvu (p * n) d ∧ dvu (p * n) d ≤ 1) := by
  obtain ⟨w1, w2⟩ := way (p := p) hd h0 h1
  unfold dvu
  refine ⟨fun q => ?_, fun q => ?_⟩
  · have := w1 q
    split <;> omega
  · have := w2 q
    split <;> omega
/-- The node of the tube at a time of the path. -/
theorem atN_mk {l : List Nd} {r g b t : Int} (ht : tatE l t = 0) (hr : 0 ≤ r) (hall : ∀ n ∈ l, 0 ≤ dvu (g * (n.t - (l.getD 0 default).t)) 60 ∧ r + dvu (g * (n.t - (l.getD 0 default).t)) 60 ≤ 1000000) :
    (atN (l.map (mkT r g b (l.getD 0 default).t)) t).x = (atN l t).x ∧ (atN (l.map (mkT r g b (l.getD 0 default).t)) t).y = (atN l t).y ∧ (atN (l.map (mkT r g b (l.getD 0 default).t)) t).h = (atN l t).h ∧
    r ≤ (atN (l.map (mkT r g b (l.getD 0 default).t)) t).r ∧ (atN (l.map (mkT r g b (l.getD 0 default).t)) t).r ≤ 1000001 ∧ (atN (l.map (mkT r g b (l.getD 0 default).t)) t).b = b := by
  obtain ⟨hv, h0, h1⟩ := tatE_ok ht
  obtain ⟨hp, h64, hG⟩ := tE_ok hv
  generalize ht0 : (l.getD 0 default).t = t0 at *
  have hlt : ixF t l < l.length := by
    refine Nat.lt_of_le_of_ne (ixF_le t l) fun q => ?_
    obtain ⟨z, hz⟩ : ∃ z, l[l.length - 1]? = some z := ⟨_, List.getElem?_eq_getElem (by omega)⟩
    have := h1 z hz
    have := ixF_lt (t := t) (l := l) (j := l.length - 1) (by omega) hz
    omega
  obtain ⟨y, hy⟩ : ∃ y, l[ixF t l]? = some y := ⟨_, List.getElem?_eq_getElem hlt⟩
  have hyd : l.getD (ixF t l) default = y := by rw [List.getD_eq_getElem?_getD, hy]; rfl
  have hym : (l.map (mkT r g b t0)).getD (ixF t l) default = mkT r g b t0 y := by rw [List.getD_eq_getElem?_getD, List.getElem?_map, hy]; rfl
  have hya := hall y (List.mem_of_getElem? hy)
  unfold atN
  rw [ixF_map (mkT r g b t0) (fun n => rfl) t l, hyd, hym]
  have hmt : (mkT r g b t0 y).t = y.t := rfl
  rw [hmt]
  split
  · refine ⟨rfl, rfl, rfl, ?_, ?_, rfl⟩
    · show r ≤ r + dvu (g * (y.t - t0)) 60; omega
    · show r + dvu (g * (y.t - t0)) 60 ≤ 1000001; omega
  · rename_i hne
    have hpos : 0 < ixF t l := by
      refine Nat.pos_of_ne_zero fun z => ?_
      rw [z] at hy
      have := h0 y hy
      have := ixF_ge (t := t) (l := l) (by rw [z]; exact hy)
      omega
    obtain ⟨a, ha⟩ : ∃ a, l[ixF t l - 1]? = some a := ⟨_, List.getElem?_eq_getElem (by omega)⟩
    have had : l.getD (ixF t l - 1) default = a := by rw [List.getD_eq_getElem?_getD, ha]; rfl
    have ham : (l.map (mkT r g b t0)).getD (ixF t l - 1) default = mkT r g b t0 a := by rw [List.getD_eq_getElem?_getD, List.getElem?_map, ha]; rfl
    have haa := hall a (List.mem_of_getElem? ha)
    have hat := ixF_lt (t := t) (l := l) (j := ixF t l - 1) (by omega) ha
    have hyt := ixF_ge hy
    rw [had, ham]
    refine ⟨rfl, rfl, rfl, ?_, ?_, ?_⟩
    · show r ≤ (r + dvu (g * (a.t - t0)) 60) + dvu (((r + dvu (g * (y.t - t0)) 60) - (r + dvu (g * (a.t - t0)) 60)) * (t - a.t)) (y.t - a.t)
      obtain ⟨q1, q2⟩ := dvu_lo (p := (r + dvu (g * (y.t - t0)) 60) - (r + dvu (g * (a.t - t0)) 60)) (n := t - a.t) (d := y.t - a.t) (by omega) (by omega) (by omega)
      rcases Int.le_total 0 ((r + dvu (g * (y.t - t0)) 60) - (r + dvu (g * (a.t - t0)) 60)) with z | z
      · have := q1 z; omega
      · have := q2 z; omega
    · show (r + dvu (g * (a.t - t0)) 60) + dvu (((r + dvu (g * (y.t - t0)) 60) - (r + dvu (g * (a.t - t0)) 60)) * (t - a.t)) (y.t - a.t) ≤ 1000001
      obtain ⟨q1, q2⟩ := dvu_lo (p := (r + dvu (g * (y.t - t0)) 60) - (r + dvu (g * (a.t - t0)) 60)) (n := t - a.t) (d := y.t - a.t) (by omega) (by omega) (by omega)
      rcases Int.le_total 0 ((r + dvu (g * (y.t - t0)) 60) - (r + dvu (g * (a.t - t0)) 60)) with z | z
      · have := q1 z; omega
      · have := q2 z; omega
    · show b + dvu ((b - b) * (t - a.t)) (y.t - a.t) = b
      have : (b - b) * (t - a.t) = 0 := by rw [Int.sub_self, Int.zero_mul]
      rw [this]
      unfold dvu
      rw [if_pos (Int.zero_tmod _), Int.zero_ediv]
      omega
/-- A tube of a valid path is valid. -/
theorem tG_mk {r g b t0 : Int} (hr : 0 ≤ r) (hb : 0 ≤ b ∧ b ≤ 60000) : ∀ (l : List Nd) (p : Int), tG p l = 0 → (∀ n ∈ l, 0 ≤ dvu (g * (n.t - t0)) 60 ∧ r + dvu (g * (n.t - t0)) 60 ≤ 1000000) → tG p (l.map (mkT r g b t0)) = 0
  | [], _, _, _ => rfl
  | n :: l, p, h, ha => by
    rw [tG] at h
    split at h
    · rename_i q; exact absurd h q
    · rename_i q
      have q : nE p n = 0 := by simpa using q
      obtain ⟨q1, q2, q3, q4, q5, q6, _⟩ := nE_ok q
      have hn := ha n (List.mem_cons_self ..)
      rw [List.map_cons, tG]
      have : nE p (mkT r g b t0 n) = 0 := by
        unfold nE mkT Nd.p
        simp only
        rw [if_neg (by omega), if_neg (by simpa [Nd.p] using q4), if_neg (by omega)]
      rw [if_neg (by simp [this])]
      exact tG_mk hr hb l n.t h fun m hm => ha m (List.mem_cons_of_mem _ hm)
theorem sq_bd {x : Int} (h1 : -1000000 ≤ x) (h2 : x ≤ 1000000) : 0 ≤ x * x ∧ x * x ≤ 1000000000000 := by
  rcases Int.le_total 0 x with z | z
  · have u := Int.mul_le_mul_of_nonneg_right h2 z
    have v := Int.mul_nonneg z z
    omega
  · have u := Int.mul_le_mul_of_nonpos_right h1 z
    have v := Int.mul_nonneg_of_nonpos_of_nonpos z z
    omega
theorem sqr_add {p q : Pt} (hp : pE p = 0) (hq : -1000000 ≤ q.x ∧ q.x ≤ 1000000 ∧ -1000000 ≤ q.y ∧ q.y ≤ 1000000) : sqrP p ⟨p.x + q.x, p.y + q.y⟩ = q.x * q.x + q.y * q.y := by
  obtain ⟨a1, a2, a3, a4⟩ := pE_ok hp
  have e1 : wr (p.x - (p.x + q.x)) = -q.x := by rw [wr_id (by omega) (by omega)]; omega
  have e2 : wr (p.y - (p.y + q.y)) = -q.y := by rw [wr_id (by omega) (by omega)]; omega
  have b1 := sq_bd hq.1 hq.2.1
  have b2 := sq_bd hq.2.2.1 hq.2.2.2
  unfold sqrP dotP subP
  simp only [e1, e2, Int.neg_mul_neg]
  rw [wr_id (n := q.x * q.x) (by omega) (by omega), wr_id (n := q.y * q.y) (by omega) (by omega), wr_id (by omega) (by omega)]
theorem sq_mono {a b : Int} (h0 : 0 ≤ a) (h : a ≤ b) : a * a ≤ b * b := Int.mul_le_mul h h h0 (by omega)
theorem tmod_rng (t : Int) : -2000 < t.tmod 2000 ∧ t.tmod 2000 < 2000 := by
  have e1 : t.tmod 2000 = if 0 ≤ t then t % 2000 else - (-t % 2000) := by
    split
    · rw [Int.tmod_eq_emod_of_nonneg (by omega)]
    · rw [← Int.tmod_eq_emod_of_nonneg (a := -t) (by omega), Int.neg_tmod, Int.neg_neg]
  rw [e1]
  split <;> omega
theorem law_fn (l : List Nd) (r g b : Int) (by_ : Pt) (lift t : Int) (hpl : Pl l) (hlift : -9223372036854775808 ≤ lift) : Fn Tryz.prog 3 [path l, .int r, .int g, .int b, pt by_, .int lift, .int t] .sc (.bool true) := by
  have e := TtF.law_form (path l) (.int r) (.int g) (.int b) (pt by_) (.int lift) (.int t) (.bool true)
  have k := fun h => fn_run mixed 3 (Γ := TtF.Γ) (ann := TtF.ann) Tryz.func3 rfl Tryz.call3 (e.mpr h)
  refine k ?_
  clear k e
  refine ⟨by simp [encP], _, hworks, by simp, by simp, fun q => absurd q (by simp), fun _ => ⟨_, tof_fn l r g b hpl, ?_⟩⟩
  by_cases hE : tofE l r g b = 0
  rotate_left
  · have hV : tofV l r g b = .tup [.sl 6 [], .int (tofE l r g b)] := by unfold tofV; rw [if_neg hE]
    rw [hV]
    exact ⟨by simp, by simp, fun _ => ⟨by simp, by simp, by simp⟩, fun q => absurd q (by simpa using hE)⟩
  have hV : tofV l r g b = .tup [tube (l.map (mkT r g b (l.getD 0 default).t)), .int 0] := by unfold tofV; rw [if_pos hE]
  rw [hV]
  -- what the tube says
  have hv : tE l = 0 := by
    unfold tofE at hE
    split at hE
    · rename_i q; exact absurd hE q
    · rename_i q; simpa using q
  have hrg : ¬ (r < 0 ∨ r > 1000000 ∨ g < 0 ∨ g > 1000000 ∨ b < 0 ∨ b > 60000) := fun q => by
    unfold tofE at hE
    rw [if_neg (by simp [hv]), if_pos q] at hE
    cases hE
  have hal : ∀ n ∈ l, r + dvu (g * (n.t - (l.getD 0 default).t)) 60 ≤ 1000000 := by
    unfold tofE at hE
    rw [if_neg (by simp [hv]), if_neg hrg] at hE
    split at hE
    · rename_i q
      intro n hn
      have := List.all_eq_true.1 q n hn
      simpa using this
    · cases hE
  obtain ⟨hp, h64, hG⟩ := tE_ok hv
  obtain ⟨a, ha⟩ : ∃ a, l[0]? = some a := ⟨_, List.getElem?_eq_getElem hp⟩
  have had : l.getD 0 default = a := by rw [List.getD_eq_getElem?_getD, ha]; rfl
  have hall : ∀ n ∈ l, 0 ≤ dvu (g * (n.t - (l.getD 0 default).t)) 60 ∧ r + dvu (g * (n.t - (l.getD 0 default).t)) 60 ≤ 1000000 := fun n hn => by
    refine ⟨?_, hal n hn⟩
    obtain ⟨j, hj⟩ := List.getElem?_of_mem hn
    have hle : a.t ≤ n.t := by
      rcases Nat.eq_zero_or_pos j with rfl | q
      · rw [ha] at hj; injection hj with hj; rw [hj]; exact Int.le_refl _
      · have := (tG_get hG ha).2.2 j n q hj; omega
    rw [had]
    have hm : 0 ≤ g * (n.t - a.t) := Int.mul_nonneg (by omega) (by omega)
    unfold dvu
    split <;> omega
  have hao := (tG_get hG ha).2.1
  have hat0 : AV.at (path l) (.int 0) 0 = .int a.t := by rw [lst_atI (by omega) (by simpa using ha)]; rfl
  clear hV hE hal
  refine ⟨by simp, by simp, fun q => absurd q (by simp), fun _ => ?_⟩
  have k0 : AV.cel (pt by_) 0 = .int by_.x := rfl
  have k1 : AV.cel (pt by_) 1 = .int by_.y := rfl
  simp only [k0, k1, hat0]
  have ok : (AV.flat (AV.bool true)) ∧ (fSame (AV.bool true) (AV.bool true)) := ⟨.lit _, rfl⟩
  refine ⟨by simp, by simp, fun q => ⟨by simp, q, ok⟩, fun y1 => ?_⟩
  refine ⟨by simp, by simp, y1, by simp, fun q => ⟨by simp, q, ok⟩, fun y2 => ?_⟩
  refine ⟨by simp, by simp, y2, by simp, fun q => ⟨by simp, q, ok⟩, fun y3 => ?_⟩
  refine ⟨by simp, by simp, y3, by simp, fun q => ⟨by simp, q, ok⟩, fun y4 => ?_⟩
  refine ⟨by simp, by simp, y4, by simp, fun q => ⟨by simp, q, ok⟩, fun y5 => ?_⟩
  refine ⟨by simp, by simp, y5, by simp, fun q => ok, fun y6 => ?_⟩
  have y1 : -1000000 ≤ by_.x := by simpa using y1
  have y2 : by_.x ≤ 1000000 := by simpa using y2
  have y3 : -1000000 ≤ by_.y := by simpa using y3
  have y4 : by_.y ≤ 1000000 := by simpa using y4
  have y5 : -60000 ≤ lift := by simpa using y5
  have y6 : lift ≤ 60000 := by simpa using y6
  -- the time
  obtain ⟨m, hm, hm0, hm1⟩ : ∃ m : Int, (t.tmod 2000 + 2000).tmod 2000 = m ∧ 0 ≤ m ∧ m < 2000 := by
    have q := tmod_rng t
    rw [Int.tmod_eq_emod_of_nonneg (by omega)]
    exact ⟨_, rfl, by omega, by omega⟩
  have hrem : AV.bin Go.BinOp.rem (.int t) (.int 2000) = .int (t.tmod 2000) := rfl
  have hrem2 : AV.bin Go.BinOp.add (.int (t.tmod 2000)) (.int 2000) = .int (t.tmod 2000 + 2000) := by
    have q := tmod_rng t
    rw [av_add, wr_eq, wr_id (by omega) (by omega)]
  have hrem3 : AV.bin Go.BinOp.rem (.int (t.tmod 2000 + 2000)) (.int 2000) = .int m := by rw [av_rem, hm]
  have hta : AV.bin Go.BinOp.add (.int a.t) (.int m) = .int (a.t + m) := by rw [av_add, wr_eq, wr_id (by have := hao.1; omega) (by have := hao.2.1; omega)]
  simp only [hrem, hrem2, hrem3, hta]
  generalize hT : a.t + m = T
  have hF := fAt_fn l T hpl
  refine ⟨by simp, by simp; omega, by simp, by simp, by simp, by simp, _, hF, ?_⟩
  by_cases hT0 : tatE l T = 0
  rotate_left
  · have h12 : tatE l T = 12 := by
      unfold tatE at hT0 ⊢
      rw [if_neg (by simp [hv])] at hT0 ⊢
      split
      · rfl
      · rename_i q; rw [if_neg q] at hT0; exact absurd rfl hT0
    have hV : fatV l T = .tup [.agg (encF nd0), .int 12] := by unfold fatV; rw [if_neg hT0, h12]
    rw [hV]
    exact ⟨by simp [encF], by simp, by simp, fun _ => ⟨by simp, by simp, by simp⟩, fun q => absurd q (by simp)⟩
  have hV : fatV l T = .tup [.agg (encF (atN l T)), .int 0] := by unfold fatV; rw [if_pos hT0]
  rw [hV]
  obtain ⟨_, hlo, hhi⟩ := tatE_ok hT0
  obtain ⟨hNp, hN0, hN1⟩ := atN_ok hv hlo hhi
  obtain ⟨mx, my, mh, mr1, mr2, mb⟩ := atN_mk (b := b) hT0 (by omega) hall
  have hX : tatE (l.map (mkT r g b (l.getD 0 default).t)) T = 0 := by
    have hvx : tE (l.map (mkT r g b (l.getD 0 default).t)) = 0 := by
      unfold tE
      rw [List.length_map, if_neg (by omega), if_neg (by omega)]
      exact tG_mk (by omega) (by omega) l (-1) hG hall
    obtain ⟨z, hz⟩ : ∃ z, l[l.length - 1]? = some z := ⟨_, List.getElem?_eq_getElem (by omega)⟩
    have k0' : ∀ t0, (l.map (mkT r g b t0)).getD 0 default = mkT r g b t0 a := fun t0 => by rw [List.getD_eq_getElem?_getD, List.getElem?_map, ha]; rfl
    have k1' : ∀ t0, (l.map (mkT r g b t0)).getD (l.length - 1) default = mkT r g b t0 z := fun t0 => by rw [List.getD_eq_getElem?_getD, List.getElem?_map, hz]; rfl
    have zd : l.getD (l.length - 1) default = z := by rw [List.getD_eq_getElem?_getD, hz]; rfl
    have q0 : ((l.map (mkT r g b (l.getD 0 default).t)).getD 0 default).t = (l.getD 0 default).t := by rw [k0', had]; rfl
    have q1 : ((l.map (mkT r g b (l.getD 0 default).t)).getD (l.length - 1) default).t = (l.getD (l.length - 1) default).t := by rw [k1', zd]; rfl
    unfold tatE at hT0 ⊢
    rw [if_neg (by simp [hv])] at hT0
    rw [if_neg (fun h => h hvx), List.length_map, q0, q1]
    exact hT0
  generalize hXl : l.map (mkT r g b (l.getD 0 default).t) = X at *
  generalize hN : atN l T = N at *
  generalize hM : atN X T = M at *
  have c1 : AV.cel (AV.prj (.tup [.agg (encF N), .int 0]) 0) 1 = .int N.x := rfl
  have c2 : AV.cel (AV.prj (.tup [.agg (encF N), .int 0]) 0) 2 = .int N.y := rfl
  have c3 : AV.cel (AV.prj (.tup [.agg (encF N), .int 0]) 0) 3 = .int N.h := rfl
  obtain ⟨n1, n2, n3, n4⟩ := pE_ok hNp
  have n1 : -1000000 ≤ N.x := n1
  have n2 : N.x ≤ 1000000 := n2
  have n3 : -1000000 ≤ N.y := n3
  have n4 : N.y ≤ 1000000 := n4
  have hadd := add_fn N.p by_
  have e1 : wr (N.p.x + by_.x) = N.p.x + by_.x := by show wr (N.x + by_.x) = N.x + by_.x; rw [wr_id (by omega) (by omega)]
  have e2 : wr (N.p.y + by_.y) = N.p.y + by_.y := by show wr (N.y + by_.y) = N.y + by_.y; rw [wr_id (by omega) (by omega)]
  rw [e1, e2] at hadd
  have hl : AV.bin Go.BinOp.add (.int N.h) (.int lift) = .int (N.h + lift) := by rw [av_add, wr_eq, wr_id (by omega) (by omega)]
  have hMp : M.p = N.p := by show (⟨M.x, M.y⟩ : Pt) = ⟨N.x, N.y⟩; rw [mx, my]
  have hH := has_fn X T ⟨N.p.x + by_.x, N.p.y + by_.y⟩ (N.h + lift) hX (by rw [hM]; omega) (by rw [hM]; omega) (by omega) (by omega)
  rw [hM] at hH
  simp only [c1, c2, c3, hl]
  refine ⟨by simp [encF], by simp, by simp, fun q => absurd q (by simp), fun _ => ⟨_, hadd, by simp, _, hH, ?_⟩⟩
  have hs := sqr_add hNp (q := by_) ⟨y1, y2, y3, y4⟩
  have u1 := sq_bd y1 y2
  have u2 := sq_bd y3 y4
  have u3 := sq_bd (x := r) (by omega) (by omega)
  have m1 : AV.bin Go.BinOp.mul (.int by_.x) (.int by_.x) = .int (by_.x * by_.x) := by rw [av_mul, wr_eq, wr_id (by omega) (by omega)]
  have m2 : AV.bin Go.BinOp.mul (.int by_.y) (.int by_.y) = .int (by_.y * by_.y) := by rw [av_mul, wr_eq, wr_id (by omega) (by omega)]
  have m3 : AV.bin Go.BinOp.mul (.int r) (.int r) = .int (r * r) := by rw [av_mul, wr_eq, wr_id (by omega) (by omega)]
  have m4 : AV.bin Go.BinOp.add (.int (by_.x * by_.x)) (.int (by_.y * by_.y)) = .int (by_.x * by_.x + by_.y * by_.y) := by rw [av_add, wr_eq, wr_id (by omega) (by omega)]
  have m5 : AV.un Go.UnOp.neg (.int lift) = .int (-lift) := by
    show AV.int (wr (0 - lift)) = _
    rw [wr_id (by omega) (by omega), Int.zero_sub]
  simp only [m1, m2, m3, m4, m5]
  by_cases hg1 : pE ⟨N.p.x + by_.x, N.p.y + by_.y⟩ = 0
  rotate_left
  · have hV : hasV M ⟨N.p.x + by_.x, N.p.y + by_.y⟩ (N.h + lift) = .tup [.bool false, .int (pE ⟨N.p.x + by_.x, N.p.y + by_.y⟩)] := by unfold hasV; rw [if_pos hg1]
    rw [hV]
    simp [hg1, fSame]
  by_cases hg2 : N.h + lift < 0 ∨ N.h + lift > 60000
  · have hV : hasV M ⟨N.p.x + by_.x, N.p.y + by_.y⟩ (N.h + lift) = .tup [.bool false, .int 4] := by unfold hasV; rw [if_neg (by simp [hg1]), if_pos hg2]
    rw [hV]
    simp [fSame]
  have hV : hasV M ⟨N.p.x + by_.x, N.p.y + by_.y⟩ (N.h + lift) = .tup [.bool (decide (by_.x * by_.x + by_.y * by_.y ≤ M.r * M.r) && decide ((if N.h + lift - M.h > M.h - (N.h + lift) then N.h + lift - M.h else M.h - (N.h + lift)) ≤ M.b)), .int 0] := by
    unfold hasV; rw [if_neg (by simp [hg1]), if_neg hg2, hMp, hs]
  rw [hV]
  have hin : by_.x * by_.x + by_.y * by_.y ≤ r * r → lift ≤ b → -lift ≤ b → (decide (by_.x * by_.x + by_.y * by_.y ≤ M.r * M.r) && decide ((if N.h + lift - M.h > M.h - (N.h + lift) then N.h + lift - M.h else M.h - (N.h + lift)) ≤ M.b)) = true := fun q1 q2 q3 => by
    have := sq_mono (a := r) (b := M.r) (by omega) mr1
    rw [Bool.and_eq_true, decide_eq_true_eq, decide_eq_true_eq, mh, mb]
    refine ⟨by omega, ?_⟩
    split <;> omega
  generalize (decide (by_.x * by_.x + by_.y * by_.y ≤ M.r * M.r) && decide ((if N.h + lift - M.h > M.h - (N.h + lift) then N.h + lift - M.h else M.h - (N.h + lift)) ≤ M.b)) = B at *
  have okB : B = true → (AV.flat (AV.bool B)) ∧ (fSame (AV.bool B) (AV.bool true)) := fun q => ⟨.lit _, by rw [q]; rfl⟩
  have fin : ∀ {A1 A2 A3 : Prop} (_ : A1) (_ : A2) (_ : A3), A1 ∧ A2 ∧ A3 := fun a b c => ⟨a, b, c⟩
  refine ⟨by simp, by simp, fun q => absurd q (by simp), fun _ => ⟨by simp, by simp, by simp, by simp, by simp, by simp, by simp, by simp, fun q => ?_, fun q1 => ⟨by simp, by simp, q1, by simp, fun q => ?_, fun q2 => ⟨by simp, by simp, by simp, q2, by simp, fun q => ?_, fun q3 => ?_⟩⟩⟩⟩
  · cases B <;> simp_all [fSame]
  · cases B <;> simp_all [fSame]
  · cases B <;> simp_all [fSame]
  · exact okB (hin (by simpa using q1) (by simpa using q2) (by simpa using q3))
end Go.Proofs.YtfemeeffoapemaaGreatDoor
/- TopTubeHolds: its arguments. -/
namespace Go.Proofs.YtfemeeffoapemaaGreatDoor
open Go.RowKit
set_option linter.unusedVariables false
set_option linter.unusedSimpArgs false
set_option maxRecDepth 100000
theorem of2 {α : Type} {l : List α} (h : l.length = 2) : ∃ a b, l = [a, b] := by
  match l, h with
  | [a, b], _ => exact ⟨a, b, rfl⟩
theorem of4 {α : Type} {l : List α} (h : l.length = 4) : ∃ a b c d, l = [a, b, c, d] := by
  match l, h with
  | [a, b, c, d], _ => exact ⟨a, b, c, d, rfl⟩
theorem of7 {α : Type} {l : List α} (h : l.length = 7) : ∃ a b c d e f g, l = [a, b, c, d, e, f, g] := by
  match l, h with
  | [a, b, c, d, e, f, g], _ => exact ⟨a, b, c, d, e, f, g, rfl⟩
theorem arg_path {x : AV} (h : ArgOk Tryz.prog 23 x) : ∃ l, x = path l ∧ Pl l := by
  obtain ⟨l, e, _, hq⟩ := c_lst (P := Tryz.prog) (encA := encF) (Q := fun n => n.r = 0 ∧ n.b = 0) (tys := [3, 3, 3, 3]) (s := 4) (e := 33) (by kernel_rfl) (by kernel_rfl) (by kernel_rfl) (fun y hy hc => by
    obtain ⟨a, b, c, d, rfl⟩ := of4 hy
    obtain ⟨s1, e1, _⟩ := c_int (by kernel_rfl) (hc 0 3 rfl)
    obtain ⟨s2, e2, _⟩ := c_int (by kernel_rfl) (hc 1 3 rfl)
    obtain ⟨s3, e3, _⟩ := c_int (by kernel_rfl) (hc 2 3 rfl)
    obtain ⟨s4, e4, _⟩ := c_int (by kernel_rfl) (hc 3 3 rfl)
    simp at e1 e2 e3 e4
    exact ⟨⟨s1, s2, s3, s4, 0, 0⟩, by rw [e1, e2, e3, e4]; rfl, rfl, rfl⟩) (arg_cell (by kernel_rfl) h)
  exact ⟨l, e, hq⟩
theorem arg_pt {x : AV} (h : ArgOk Tryz.prog 25 x) : ∃ p, x = pt p := by
  obtain ⟨cs, rfl, hl, hc⟩ := arg_agg (P := Tryz.prog) (t := 25) (tys := [3, 3]) (by kernel_rfl) (by kernel_rfl) h
  obtain ⟨a, b, rfl⟩ := of2 hl
  obtain ⟨s1, e1, _⟩ := c_int (by kernel_rfl) (hc 0 3 rfl)
  obtain ⟨s2, e2, _⟩ := c_int (by kernel_rfl) (hc 1 3 rfl)
  simp at e1 e2
  exact ⟨⟨s1, s2⟩, by rw [e1, e2]; rfl⟩
theorem arg_intT {x : AV} (h : ArgOk Tryz.prog 3 x) : ∃ n, x = .int n ∧ I64 n := c_int (by kernel_rfl) (arg_cell (by kernel_rfl) h)
theorem topTubeHolds_all (xs : List AV) (h1 : xs.length = 7) (h2 : ∀ i, i < 7 → ArgOk Tryz.prog ([23, 3, 3, 3, 25, 3, 3].getD i 0) (xs.getD i default))
    (h3 : ∀ i s L e, i < 7 → xs.getD i default = .sl s L → Tryz.prog.underlying ([23, 3, 3, 3, 25, 3, 3].getD i 0) = some (.slice e) → L.length * Tryz.prog.bytesOf e ≤ reachBytes) : Fn Tryz.prog 3 xs .sc (.bool true) := by
  obtain ⟨a, b, c, d, e, f, g, rfl⟩ := of7 h1
  obtain ⟨l, e1, hl⟩ := arg_path (h2 0 (by omega))
  obtain ⟨r, e2, _⟩ := arg_intT (h2 1 (by omega))
  obtain ⟨gr, e3, _⟩ := arg_intT (h2 2 (by omega))
  obtain ⟨bd, e4, _⟩ := arg_intT (h2 3 (by omega))
  obtain ⟨p, e5⟩ := arg_pt (h2 4 (by omega))
  obtain ⟨li, e6, hi⟩ := arg_intT (h2 5 (by omega))
  obtain ⟨t, e7, _⟩ := arg_intT (h2 6 (by omega))
  simp at e1 e2 e3 e4 e5 e6 e7
  subst e1 e2 e3 e4 e5 e6 e7
  exact law_fn l r gr bd p li t hl hi.1
end Go.Proofs.YtfemeeffoapemaaGreatDoor
