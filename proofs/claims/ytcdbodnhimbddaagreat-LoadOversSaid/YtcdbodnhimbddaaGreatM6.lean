/- Texts of one proof, part 6: plain values, a run over them, contracts of functions. -/
import Derived.Test.YtcdbodnhimbddaaGreatM5
import Derived.RangeFuncNested
import Derived.RangeFuncBound
import Derived.RangeFuncCalls
import Derived.RangeFuncLeaves
import Derived.Shelf.Abstract
import Derived.Shelf.RegionOpen
import Derived.WalkKit
import Derived.OwnWalkIn
import Derived.TacticsInMore
import Derived.LoopNIn
import Derived.LoopIn
import Derived.Test.YtcdbodnhimbddaaGreatM4
import Derived.Laws.CopyRow
import Derived.Laws.CopyOwn
import Derived.Deep.RegionLaw
import Derived.Deep.OwnRows
import Derived.Test.YtcdbodnhimbddaaGreatM3
/- tubes: quotients, points on the way, what is checked. -/
namespace Go.Proofs.YtcdbodnhimbddaaGreat
open Go.RowKit
set_option linter.unusedVariables false
set_option linter.unusedSimpArgs false
set_option maxRecDepth 100000
theorem quo_of (a b : Int) (hb : 0 < b) : (¬ a.tmod b = 0 → a < 0 → a.tdiv b - 1 = a / b) ∧ (¬ (¬ a.tmod b = 0 ∧ a < 0) → a.tdiv b = a / b) := by
  have h1 := Int.tdiv_eq_ediv (a := a) (b := b)
  have h2 := Int.tmod_eq_emod (a := a) (b := b)
  have h3 : b.sign = 1 := Int.sign_eq_one_of_pos hb
  have h4 : (b ∣ a) ↔ a % b = 0 := Int.dvd_iff_emod_eq_zero
  by_cases h : 0 ≤ a ∨ b ∣ a
  · rw [if_pos h] at h1 h2
    refine ⟨fun q1 q2 => ?_, fun _ => by omega⟩
    rcases h with h | h
    · omega
    · have := h4.1 h; omega
  · rw [if_neg h, h3] at h1
    rw [if_neg h] at h2
    have h5 : ¬ 0 ≤ a := fun q => h (.inl q)
    have h6 : ¬ b ∣ a := fun q => h (.inr q)
    have h7 : ¬ a % b = 0 := fun q => h6 (h4.2 q)
    have h8 : ¬ a.tmod b = 0 := by
      have l1 := Int.emod_nonneg a (show b ≠ 0 by omega)
      have l2 := Int.emod_lt_of_pos a hb
      omega
    exact ⟨fun _ _ => by omega, fun q => absurd ⟨h8, by omega⟩ q⟩
theorem quo_bd {a b : Int} (hb : 0 < b) (h1 : -1000000000000 ≤ a) (h2 : a ≤ 1000000000000) : -1000000000000 ≤ a / b ∧ a / b ≤ 1000000000000 ∧ -1000000000000 ≤ a.tdiv b ∧ a.tdiv b ≤ 1000000000000 := by
  have e1 : a / b ≤ 1000000000000 := by
    rcases Int.lt_or_le a 0 with h | h
    · have := Int.ediv_neg_of_neg_of_pos h hb; omega
    · have := Int.ediv_le_self b h; omega
  have e2 : -1000000000000 ≤ a / b := by
    refine (Int.le_ediv_iff_mul_le hb).2 ?_
    have := Int.mul_le_mul_of_nonneg_left (show (1 : Int) ≤ b by omega) (show (0 : Int) ≤ 1000000000000 by omega)
    omega
  obtain ⟨q1, q2⟩ := quo_of a b hb
  refine ⟨e2, e1, ?_, ?_⟩
  · by_cases h : ¬ a.tmod b = 0 ∧ a < 0
    · have := q1 h.1 h.2; omega
    · have := q2 h; omega
  · have h3 := Int.tdiv_eq_ediv (a := a) (b := b)
    have h4 : b.sign = 1 := Int.sign_eq_one_of_pos hb
    rcases Int.lt_or_le a 0 with h | h
    · have := Int.ediv_neg_of_neg_of_pos h hb
      split at h3 <;> omega
    · rw [if_pos (.inl h)] at h3; omega
theorem divd_fn (a b : Int) (hb : 0 < b) (h1 : -1000000000000 ≤ a) (h2 : a ≤ 1000000000000) : Fn Tryz.prog 51 [.int a, .int b] (.tup [.sc, .sc]) (.tup [.int (a / b), .int 0]) := by
  refine fn_run mixed 3 (Γ := SecF.Γ) (ann := SecF.ann) Tryz.func51 rfl Tryz.call51 ((SecF.divd_form _ _ _).mpr ?_)
  obtain ⟨q1, q2⟩ := quo_of a b hb
  obtain ⟨b1, b2, b3, b4⟩ := quo_bd hb h1 h2
  have hw : wr (a.tdiv b) = a.tdiv b := wr_id (by omega) (by omega)
  have hw2 : wr (a.tdiv b - 1) = a.tdiv b - 1 := wr_id (by omega) (by omega)
  have hm : (a == -9223372036854775808) = false := by simp; omega
  have hb0 : (b == 0) = false := by simp; omega
  have hlt : decide (b < 0) = false := by simp; omega
  simp [hb0, hm, hw, hw2, hlt, show ¬ b = 0 by omega]
  generalize a.tmod b = m at *
  generalize a.tdiv b = q at *
  refine ⟨fun h => ⟨h, fun h2 => q1 h h2, fun h2 => q2 (by omega)⟩, fun h => ⟨h, q2 (by omega)⟩⟩
def dvu (a b : Int) : Int := if a.tmod b = 0 then a / b else a / b + 1
theorem dvu_bd {a b : Int} (hb : 0 < b) (h1 : -1000000000000 ≤ a) (h2 : a ≤ 1000000000000) : -1000000000001 ≤ dvu a b ∧ dvu a b ≤ 1000000000001 := by
  obtain ⟨b1, b2, _, _⟩ := quo_bd hb h1 h2
  unfold dvu
  split <;> omega
theorem divu_fn (a b : Int) (hb : 0 < b) (h1 : -1000000000000 ≤ a) (h2 : a ≤ 1000000000000) : Fn Tryz.prog 52 [.int a, .int b] (.tup [.sc, .sc]) (.tup [.int (dvu a b), .int 0]) := by
  refine fn_run mixed 3 (Γ := SecF.Γ) (ann := SecF.ann) Tryz.func52 rfl Tryz.call52 ((SecF.divu_form _ _ _).mpr ?_)
  refine ⟨_, divd_fn a b hb h1 h2, ?_⟩
  obtain ⟨b1, b2, _, _⟩ := quo_bd hb h1 h2
  have hw : wr (a / b + 1) = a / b + 1 := wr_id (by omega) (by omega)
  have u1 : ¬ a.tmod b = 0 → a / b + 1 = dvu a b := fun h => by unfold dvu; rw [if_neg h]
  have u2 : a.tmod b = 0 → a / b = dvu a b := fun h => by unfold dvu; rw [if_pos h]
  simp [hw, show ¬ b = 0 by omega]
  exact ⟨u1, u2⟩
theorem mulb {p n : Int} (h1 : -2000000 ≤ p) (h2 : p ≤ 2000000) (h3 : 0 ≤ n) (h4 : n ≤ 200000) : -400000000000 ≤ p * n ∧ p * n ≤ 400000000000 := by
  have e1 := Int.mul_le_mul_of_nonneg_right h2 h3
  have e2 := Int.mul_le_mul_of_nonneg_right h1 h3
  omega
/-- A point on the way lies between the ends. -/
theorem way {p n d : Int} (hd : 0 < d) (h0 : 0 ≤ n) (h1 : n ≤ d) : (0 ≤ p → 0 ≤ p * n / d ∧ p * n / d ≤ p) ∧ (p ≤ 0 → p ≤ p * n / d ∧ p * n / d ≤ 0) := by
  have hc := Int.mul_ediv_cancel p (show d ≠ 0 by omega)
  refine ⟨fun hp => ⟨Int.ediv_nonneg (Int.mul_nonneg hp h0) (by omega), ?_⟩, fun hp => ⟨?_, ?_⟩⟩
  · have := Int.ediv_le_ediv hd (Int.mul_le_mul_of_nonneg_left h1 hp)
    omega
  · have h2 : p * d ≤ p * n := Int.mul_le_mul_of_nonpos_left hp h1
    have := Int.ediv_le_ediv hd h2
    omega
  · have h2 : p * n ≤ p * 0 := Int.mul_le_mul_of_nonpos_left hp h0
    have := Int.ediv_le_ediv hd h2
    simpa using this
def towP (a b : Pt) (n d : Int) : Pt := ⟨a.x + (b.x - a.x) * n / d, a.y + (b.y - a.y) * n / d⟩
theorem tow_ok {a b : Pt} {n d : Int} (ha : pE a = 0) (hb : pE b = 0) (hd : 0 < d) (h0 : 0 ≤ n) (h1 : n ≤ d) : pE (towP a b n d) = 0 := by
  obtain ⟨a1, a2, a3, a4⟩ := pE_ok ha
  obtain ⟨b1, b2, b3, b4⟩ := pE_ok hb
  obtain ⟨x1, x2⟩ := way (p := b.x - a.x) hd h0 h1
  obtain ⟨y1, y2⟩ := way (p := b.y - a.y) hd h0 h1
  unfold pE towP
  rw [if_neg]
  simp only
  omega
theorem toward_fn (a b : Pt) (n d : Int) (ha : pE a = 0) (hb : pE b = 0) (hd : 0 < d) (hd2 : d ≤ 200000) (h0 : 0 ≤ n) (h1 : n ≤ d) : Fn Tryz.prog 50 [pt a, pt b, .int n, .int d] (.tup [.sc, .sc]) (.tup [pt (towP a b n d), .int 0]) := by
  refine fn_run mixed 3 (Γ := SecF.Γ) (ann := SecF.ann) Tryz.func50 rfl Tryz.call50 ((SecF.toward_form _ _ _ _ _).mpr ?_)
  have pa := pe_fn a
  have pb := pe_fn b
  have ht := pE_ok (tow_ok ha hb hd h0 h1)
  rw [ha] at pa
  rw [hb] at pb
  obtain ⟨a1, a2, a3, a4⟩ := pE_ok ha
  obtain ⟨b1, b2, b3, b4⟩ := pE_ok hb
  obtain ⟨ax, ay⟩ := a; obtain ⟨bx, b_⟩ := b
  simp only at a1 a2 a3 a4 b1 b2 b3 b4
  have mx := mulb (p := bx - ax) (n := n) (by omega) (by omega) h0 (by omega)
  have my := mulb (p := b_ - ay) (n := n) (by omega) (by omega) h0 (by omega)
  have w1 : wr (bx - ax) = bx - ax := wr_id (by omega) (by omega)
  have w2 : wr (b_ - ay) = b_ - ay := wr_id (by omega) (by omega)
  have w3 : wr ((bx - ax) * n) = (bx - ax) * n := wr_id (by omega) (by omega)
  have w4 : wr ((b_ - ay) * n) = (b_ - ay) * n := wr_id (by omega) (by omega)
  have d1 := divd_fn ((bx - ax) * n) d hd (by omega) (by omega)
  have d2 := divd_fn ((b_ - ay) * n) d hd (by omega) (by omega)
  have w5 : wr (ax + (bx - ax) * n / d) = ax + (bx - ax) * n / d := wr_id (by simp only [towP] at ht; omega) (by simp only [towP] at ht; omega)
  have w6 : wr (ay + (b_ - ay) * n / d) = ay + (b_ - ay) * n / d := wr_id (by simp only [towP] at ht; omega) (by simp only [towP] at ht; omega)
  refine ⟨by simp [encP], by simp [encP], ?_⟩
  simp [show ¬ d ≤ 0 by omega, show ¬ 200000 < d by omega, show ¬ n < 0 by omega, show ¬ d < n by omega]
  refine ⟨_, pa, ?_⟩
  simp
  refine ⟨_, pb, ?_⟩
  simp [encP, w1, w2, w3, w4]
  refine ⟨_, d1, _, d2, ?_⟩
  simp [w5, w6, towP]
structure Nd where
  t : Int
  x : Int
  y : Int
  h : Int
  r : Int
  b : Int
  deriving DecidableEq, Inhabited
def Nd.p (n : Nd) : Pt := ⟨n.x, n.y⟩
def encN (n : Nd) : List AV := [.int n.t, .int n.x, .int n.y, .int n.h, .int n.r, .int n.b]
abbrev nd (n : Nd) : AV := .agg (encN n)
abbrev tube (l : List Nd) : AV := lst 6 encN l
theorem flat_tube (l : List Nd) : (tube l).flatS := lst_flatS fun x _ z hz => by
  simp [encN] at hz; rcases hz with rfl | rfl | rfl | rfl | rfl | rfl <;> exact .lit _
/-- The error of a node behind one of time p. -/
def nE (p : Int) (n : Nd) : Int := if n.t < 0 ∨ n.t > 200000 ∨ n.t ≤ p then 12 else if pE n.p ≠ 0 then pE n.p else if n.h < 0 ∨ n.h > 60000 ∨ n.r < 0 ∨ n.r > 1000000 ∨ n.b < 0 ∨ n.b > 60000 then 4 else 0
theorem nE_ok {p : Int} {n : Nd} (h : nE p n = 0) : 0 ≤ n.t ∧ n.t ≤ 200000 ∧ p < n.t ∧ pE n.p = 0 ∧ 0 ≤ n.h ∧ n.h ≤ 60000 ∧ 0 ≤ n.r ∧ n.r ≤ 1000000 ∧ 0 ≤ n.b ∧ n.b ≤ 60000 := by
  unfold nE at h
  split at h
  · cases h
  · split at h
    · rename_i q; exact absurd h q
    · rename_i q
      split at h
      · cases h
      · exact ⟨by omega, by omega, by omega, by simpa using q, by omega, by omega, by omega, by omega, by omega, by omega⟩
def tG : Int → List Nd → Int
  | _, [] => 0
  | p, n :: r => if nE p n ≠ 0 then nE p n else tG n.t r
def tE (l : List Nd) : Int := if l.length > 64 then 2 else if l.length = 0 then 3 else tG (-1) l
theorem tcheck_fn (l : List Nd) : Fn Tryz.prog 30 [tube l] .sc (.int (tE l)) := by
  have e := SecF.tcheck_form (tube l) (.int (tE l))
  have k := fun h => fn_run mixed 3 (Γ := SecF.Γ) (ann := SecF.ann) Tryz.func30 rfl Tryz.call30 (e.mpr h)
  refine k ?_
  clear k e
  simp
  refine ⟨fun h => by unfold tE; rw [if_pos (by omega)], fun h64 => ⟨fun h => by unfold tE; rw [if_neg (by omega), if_pos (by simp [h])], fun h0 => ?_⟩⟩
  have hE : tE l = tG (-1) l := by
    unfold tE
    rw [if_neg (by omega), if_neg (by simpa using h0)]
  have hl64 : l.length ≤ 64 := by omega
  generalize tE l = E at hE ⊢
  refine loop_list (σ := Int) l (fun n _ => [.int (n : Nat)]) (fun n rest p => E = tG p rest ∧ ((n = 0 ∧ p = -1) ∨ ∃ y, 0 < n ∧ l[n - 1]? = some y ∧ y.t = p ∧ 0 ≤ p)) (-1) rfl ⟨hE, .inl ⟨rfl, rfl⟩⟩ ?_ ?_
  · rintro n x rest p K hx hr hn ⟨hg, hp⟩ hK
    have hw : wr ((n : Int) + 1) = (n : Int) + 1 := wr_id (by omega) (by omega)
    have hw1 : wr ((n : Int) - 1) = (n : Int) - 1 := wr_id (by omega) (by omega)
    rw [tG] at hg
    have g1 : nE p x ≠ 0 → nE p x = E := fun h => by rw [hg, if_pos h]
    have g2 : nE p x = 0 → K [.int ((n : Nat) + 1)] := fun h => hK _ x.t (by simp) ⟨by rw [hg, if_neg (by simp [h])], .inr ⟨x, by omega, by simpa using hx, rfl, (nE_ok h).1⟩⟩
    clear hg hK
    obtain ⟨xt, xx, xy, xh, xr, xb⟩ := x
    have f1 : (xt < 0 ∨ xt > 200000 ∨ xt ≤ p) → 12 = E := fun h => by
      have : nE p ⟨xt, xx, xy, xh, xr, xb⟩ = 12 := by unfold nE; rw [if_pos h]
      rw [this] at g1; exact g1 (by decide)
    have f2 : ¬ (xt < 0 ∨ xt > 200000 ∨ xt ≤ p) → pE ⟨xx, xy⟩ ≠ 0 → pE ⟨xx, xy⟩ = E := fun h h2 => by
      have : nE p ⟨xt, xx, xy, xh, xr, xb⟩ = pE ⟨xx, xy⟩ := by unfold nE; rw [if_neg h]; exact if_pos h2
      rw [this] at g1; exact g1 h2
    have f3 : ¬ (xt < 0 ∨ xt > 200000 ∨ xt ≤ p) → pE ⟨xx, xy⟩ = 0 → (xh < 0 ∨ xh > 60000 ∨ xr < 0 ∨ xr > 1000000 ∨ xb < 0 ∨ xb > 60000) → 4 = E := fun h h2 h3 => by
      have : nE p ⟨xt, xx, xy, xh, xr, xb⟩ = 4 := by unfold nE; rw [if_neg h, if_neg (by simp [Nd.p, h2]), if_pos h3]
      rw [this] at g1; exact g1 (by decide)
    have f4 : ¬ (xt < 0 ∨ xt > 200000 ∨ xt ≤ p) → pE ⟨xx, xy⟩ = 0 → ¬ (xh < 0 ∨ xh > 60000 ∨ xr < 0 ∨ xr > 1000000 ∨ xb < 0 ∨ xb > 60000) → K [.int ((n : Nat) + 1)] := fun h h2 h3 => g2 (by unfold nE; rw [if_neg h, if_neg (by simp [Nd.p, h2]), if_neg h3])
    clear g1 g2
    have hpe := pe_fn ⟨xx, xy⟩
    generalize pE ⟨xx, xy⟩ = e at *
    have tail : ¬ (xt < 0 ∨ xt > 200000 ∨ xt ≤ p) → (e = 0 → xh < 0 → 4 = E) ∧ (e = 0 → 60000 < xh → 4 = E) ∧ (e = 0 → xr < 0 → 4 = E) ∧ (e = 0 → 1000000 < xr → 4 = E) ∧ (e = 0 → xb < 0 → 4 = E) ∧ (e = 0 → 60000 < xb → 4 = E) ∧ (e = 0 → 0 ≤ xh → xh ≤ 60000 → 0 ≤ xr → xr ≤ 1000000 → 0 ≤ xb → xb ≤ 60000 → K [.int ((n : Nat) + 1)]) := fun h =>
      ⟨fun a b => f3 h a (by omega), fun a b => f3 h a (by omega), fun a b => f3 h a (by omega), fun a b => f3 h a (by omega), fun a b => f3 h a (by omega), fun a b => f3 h a (by omega), fun a b c d f g i => f4 h a (by omega)⟩
    simp [hn, lst_atAgg hx, encN, hw, hw1]
    refine ⟨fun a => ⟨a, f1 (by omega)⟩, fun a => ⟨a, fun b => ⟨b, f1 (by omega)⟩, fun b => ⟨?_, ?_⟩⟩⟩
    · intro hn0
      rcases hp with ⟨hp1, _⟩ | ⟨y, hp1, hp2, hp3, hp4⟩
      · omega
      · have hat : AV.at (tube l) (.lit (.int .i64 ((n : Int) - 1))) 0 = .int p := by
          have h1 : ((n : Int) - 1).toNat = n - 1 := by omega
          rw [lst_atI (by omega) (by rw [h1]; exact hp2)]
          simp [encN, hp3]
        have hin : (0 : Int) ≤ (n : Int) - 1 ∧ (n : Int) - 1 < l.length := ⟨by omega, by omega⟩
        simp only [hat]
        refine ⟨by omega, by simp, hn0, b, by simp, fun q => ?_, fun q => ?_⟩
        · have : xt ≤ p := by simpa using q
          exact f1 (by omega)
        have hq : p < xt := by simpa using q
        obtain ⟨t1, t2, t3, t4, t5, t6, t7⟩ := tail (by omega)
        refine ⟨_, hpe, ?_⟩
        simp
        exact ⟨fun z => f2 (by omega) z, fun z => ⟨fun a => ⟨a, t1 z a⟩, fun a1 => ⟨a1, fun a => ⟨a, t2 z a⟩, fun a2 => ⟨a2, fun a => ⟨a, t3 z a⟩, fun a3 => ⟨a3, fun a => ⟨a, t4 z a⟩, fun a4 => ⟨a4, fun a => ⟨a, t5 z a⟩, fun a5 => ⟨a5, fun a => t6 z a, fun a6 => t7 z a1 a2 a3 a4 a5 a6⟩⟩⟩⟩⟩⟩⟩
    · intro hn0
      refine ⟨hn0, b, ?_⟩
      have hp1 : p = -1 := by
        rcases hp with ⟨_, h⟩ | ⟨y, h, _⟩
        · exact h
        · omega
      obtain ⟨t1, t2, t3, t4, t5, t6, t7⟩ := tail (by omega)
      refine ⟨_, hpe, ?_⟩
      simp
      exact ⟨fun z => f2 (by omega) z, fun z => ⟨fun a => ⟨a, t1 z a⟩, fun a1 => ⟨a1, fun a => ⟨a, t2 z a⟩, fun a2 => ⟨a2, fun a => ⟨a, t3 z a⟩, fun a3 => ⟨a3, fun a => ⟨a, t4 z a⟩, fun a4 => ⟨a4, fun a => ⟨a, t5 z a⟩, fun a5 => ⟨a5, fun a => t6 z a, fun a6 => t7 z a1 a2 a3 a4 a5 a6⟩⟩⟩⟩⟩⟩⟩
  · rintro _ K ⟨hg, _⟩
    rw [tG] at hg
    simp [hg]
theorem ends_fn (l : List Nd) (a b : Nd) (h0 : l[0]? = some a) (h1 : l[l.length - 1]? = some b) (hl : l.length ≤ 1000) : Fn Tryz.prog 33 [tube l] (.tup [.sc, .sc]) (.tup [.int a.t, .int b.t]) := by
  refine fn_run mixed 3 (Γ := SecF.Γ) (ann := SecF.ann) Tryz.func33 rfl Tryz.call33 ((SecF.ends_form _ _).mpr ?_)
  have hpos : 0 < l.length := (List.getElem?_eq_some_iff.1 h0).1
  have hw1 : wr ((l.length : Int) - 1) = (l.length : Int) - 1 := wr_id (by omega) (by omega)
  have e0 : AV.at (tube l) (.lit (.int .i64 0)) 0 = .int a.t := by
    rw [lst_atI (by omega) (by simpa using h0)]; simp [encN]
  have e1 : AV.at (tube l) (.lit (.int .i64 ((l.length : Int) - 1))) 0 = .int b.t := by
    have q : ((l.length : Int) - 1).toNat = l.length - 1 := by omega
    rw [lst_atI (by omega) (by rw [q]; exact h1)]; simp [encN]
  simp [hw1, e0, e1]
  omega
end Go.Proofs.YtcdbodnhimbddaaGreat
/- tubes: the node at a time. -/
namespace Go.Proofs.YtcdbodnhimbddaaGreat
open Go.RowKit
set_option linter.unusedVariables false
set_option linter.unusedSimpArgs false
set_option maxRecDepth 100000
/-- The nodes ahead of a time. -/
def ixF (t : Int) : List Nd → Nat
  | [] => 0
  | n :: r => if n.t < t then ixF t r + 1 else 0
theorem ixF_is {t : Int} : ∀ {l : List Nd} {k : Nat}, k ≤ l.length → (∀ j x, j < k → l[j]? = some x → x.t < t) → (∀ x, l[k]? = some x → ¬ x.t < t) → ixF t l = k
  | [], k, h, _, _ => by simp at h; simp [ixF, h]
  | n :: r, k, h, h1, h2 => by
    rw [ixF]
    cases k with
    | zero => rw [if_neg (h2 n rfl)]
    | succ k =>
      rw [if_pos (h1 0 n (by omega) rfl), ixF_is (k := k) (by simpa using h) (fun j x hj hx => h1 (j + 1) x (by omega) (by simpa using hx)) (fun x hx => h2 x (by simpa using hx))]
theorem ixF_le (t : Int) : ∀ l : List Nd, ixF t l ≤ l.length
  | [] => Nat.le_refl _
  | n :: r => by
    rw [ixF]
    have := ixF_le t r
    split <;> simp <;> omega
theorem ixF_lt {t : Int} : ∀ {l : List Nd} {j : Nat} {x : Nd}, j < ixF t l → l[j]? = some x → x.t < t
  | [], j, x, h, _ => by simp [ixF] at h
  | n :: r, j, x, h, hx => by
    rw [ixF] at h
    split at h
    · rename_i hn
      cases j with
      | zero => simp at hx; rw [← hx]; exact hn
      | succ j => exact ixF_lt (l := r) (j := j) (by omega) (by simpa using hx)
    · omega
theorem ixF_ge {t : Int} : ∀ {l : List Nd} {x : Nd}, l[ixF t l]? = some x → ¬ x.t < t
  | [], x, h => by simp [ixF] at h
  | n :: r, x, h => by
    rw [ixF] at h
    split at h
    · exact ixF_ge (by simpa using h)
    · rename_i hn
      simp at h; rw [← h]; exact hn
def okN (x : Nd) : Prop := 0 ≤ x.t ∧ x.t ≤ 200000 ∧ pE x.p = 0 ∧ 0 ≤ x.h ∧ x.h ≤ 60000 ∧ 0 ≤ x.r ∧ x.r ≤ 1000000 ∧ 0 ≤ x.b ∧ x.b ≤ 60000
/-- Valid nodes: each behind the one ahead. -/
theorem tG_get : ∀ {l : List Nd} {p : Int}, tG p l = 0 → ∀ {j : Nat} {x : Nd}, l[j]? = some x → p < x.t ∧ okN x ∧ ∀ k y, j < k → l[k]? = some y → x.t < y.t
  | [], p, _, j, x, hx => by simp at hx
  | n :: r, p, h, j, x, hx => by
    rw [tG] at h
    split at h
    · rename_i q; exact absurd h q
    · rename_i q
      have q : nE p n = 0 := by simpa using q
      have qo := nE_ok q
      cases j with
      | zero =>
        simp at hx
        subst hx
        refine ⟨qo.2.2.1, ⟨qo.1, qo.2.1, qo.2.2.2.1, qo.2.2.2.2.1, qo.2.2.2.2.2.1, qo.2.2.2.2.2.2.1, qo.2.2.2.2.2.2.2.1, qo.2.2.2.2.2.2.2.2.1, qo.2.2.2.2.2.2.2.2.2⟩, fun k y hk hy => ?_⟩
        obtain ⟨k, rfl⟩ : ∃ k', k = k' + 1 := ⟨k - 1, by omega⟩
        exact (tG_get h (j := k) (by simpa using hy)).1
      | succ j =>
        have ih := tG_get h (j := j) (by simpa using hx)
        refine ⟨by have := ih.1; omega, ih.2.1, fun k y hk hy => ?_⟩
        obtain ⟨k, rfl⟩ : ∃ k', k = k' + 1 := ⟨k - 1, by omega⟩
        exact ih.2.2 k y (by omega) (by simpa using hy)
theorem tE_ok {l : List Nd} (h : tE l = 0) : 0 < l.length ∧ l.length ≤ 64 ∧ tG (-1) l = 0 := by
  unfold tE at h
  split at h
  · cases h
  · split at h
    · cases h
    · exact ⟨by omega, by omega, h⟩
def interp (a b : Nd) (t : Int) : Nd :=
  ⟨t, (towP a.p b.p (t - a.t) (b.t - a.t)).x, (towP a.p b.p (t - a.t) (b.t - a.t)).y, a.h + (b.h - a.h) * (t - a.t) / (b.t - a.t), a.r + dvu ((b.r - a.r) * (t - a.t)) (b.t - a.t), a.b + dvu ((b.b - a.b) * (t - a.t)) (b.t - a.t)⟩
def atN (l : List Nd) (t : Int) : Nd := if (l.getD (ixF t l) default).t = t then l.getD (ixF t l) default else interp (l.getD (ixF t l - 1) default) (l.getD (ixF t l) default) t
theorem half_u (n : Nat) (h : n ≤ 1000) : AV.shfOk (.lit (.int .u64 (n : Nat))) (.lit (.int .u64 1)) ∧ AV.conv .i64 (AV.shf .shr (.lit (.int .u64 (n : Nat))) (.lit (.int .u64 1))) = .int ((n / 2 : Nat) : Int) ∧ AV.isInt (AV.shf .shr (.lit (.int .u64 (n : Nat))) (.lit (.int .u64 1))) := by
  refine ⟨⟨⟨_, _, rfl⟩, ⟨_, _, rfl⟩, by simp⟩, ?_, ⟨_, _, rfl⟩⟩
  have e : AV.shf .shr (.lit (.int .u64 (n : Nat))) (.lit (.int .u64 1)) = .lit (.int .u64 ((n : Int).fdiv 2)) := by
    show AV.lit (.int .u64 ((n : Int).fdiv (2 ^ 1))) = _
    simp
  rw [e, Int.fdiv_eq_ediv_of_nonneg _ (by omega)]
  show AV.lit (.int .i64 (IntKind.i64.wrap ((n : Int) / 2))) = _
  rw [wrap64 (by omega) (by omega)]
  congr 2
theorem u64_id (n : Nat) (h : n ≤ 1000) : IntKind.u64.wrap (n : Int) = (n : Int) := by
  simp [IntKind.wrap, IntKind.bits, IntKind.signed]; omega
/-- Between two valid nodes. -/
theorem interp_ok {a b : Nd} {t : Int} (ha : okN a) (hb : okN b) (h1 : a.t < t) (h2 : t < b.t) : pE (interp a b t).p = 0 ∧ 0 ≤ (interp a b t).h ∧ (interp a b t).h ≤ 60000 := by
  refine ⟨tow_ok ha.2.2.1 hb.2.2.1 (by omega) (by omega) (by omega), ?_⟩
  obtain ⟨q1, q2⟩ := way (p := b.h - a.h) (n := t - a.t) (d := b.t - a.t) (by omega) (by omega) (by omega)
  unfold okN at ha hb
  simp only [interp]
  omega
theorem at_fn (l : List Nd) (t : Int) (hv : tE l = 0) (h0 : ∀ x, l[0]? = some x → x.t ≤ t) (h1 : ∀ x, l[l.length - 1]? = some x → t ≤ x.t) : Fn Tryz.prog 34 [tube l, .int t] .sc (nd (atN l t)) := by
  have e := SecF.at_form (tube l) (.int t) (nd (atN l t))
  have k := fun h => fn_run mixed 3 (Γ := SecF.Γ) (ann := SecF.ann) Tryz.func34 rfl Tryz.call34 (e.mpr h)
  refine k ?_
  clear k e
  obtain ⟨hp, h64, hG⟩ := tE_ok hv
  have en1 : Ent Tryz.prog 49 := Tryz.call49
  refine ⟨Tryz.call48, fun _ => ⟨by simp, ?_⟩⟩
  refine loop_of (τ := Nat × Nat) (fun s => [.int (s.1 : Nat), .int (s.2 : Nat)]) (fun s => s.1 ≤ s.2 ∧ s.2 ≤ l.length ∧ (∀ j x, j < s.1 → l[j]? = some x → x.t < t) ∧ ∀ j x, s.2 ≤ j → l[j]? = some x → ¬ x.t < t) (fun s => s.2 - s.1) (0, l.length) (by simp)
    ⟨by omega, Nat.le_refl _, fun j x hj => by simp at hj, fun j x hj hx => by have hj : l.length ≤ j := hj; rw [List.getElem?_eq_none hj] at hx; cases hx⟩ ?_
  rintro ⟨lo, hi⟩ ⟨i1, i2, i3, i4⟩
  simp only at i1 i2 i3 i4
  obtain ⟨S, hS⟩ : ∃ S, S = lo + hi := ⟨_, rfl⟩
  have w1 : wr ((lo : Int) + (hi : Int)) = (S : Int) := by rw [wr_id (by omega) (by omega)]; omega
  have w2 : AV.conv .u64 (.lit (.int .i64 (S : Int))) = .lit (.int .u64 (S : Int)) := by
    show AV.lit (.int .u64 (IntKind.u64.wrap (S : Int))) = _
    rw [u64_id S (by omega)]
  obtain ⟨s1, s2, s3⟩ := half_u S (by omega)
  refine ⟨by simp, by simp, fun hlt => ?_, fun hge => ?_⟩
  · have hlt : lo < hi := by simpa using hlt
    generalize hm : S / 2 = m at s2
    have hmb : lo ≤ m ∧ m < hi := by omega
    obtain ⟨x, hx⟩ : ∃ x, l[m]? = some x := ⟨_, List.getElem?_eq_getElem (by omega)⟩
    have hxo := (tG_get hG hx).2.1
    have g1 : x.t < t → (fun zs : List AV => ∃ m', m' < hi - lo ∧ ∃ y : Nat × Nat, zs = [.int (y.1 : Nat), .int (y.2 : Nat)] ∧ (y.1 ≤ y.2 ∧ y.2 ≤ l.length ∧ (∀ j x, j < y.1 → l[j]? = some x → x.t < t) ∧ ∀ j x, y.2 ≤ j → l[j]? = some x → ¬ x.t < t) ∧ y.2 - y.1 = m') [.int ((m : Nat) + 1), .int (hi : Nat)] := fun q =>
      ⟨_, by omega, (m + 1, hi), by simp, ⟨by simp; omega, i2, fun j y hj hy => ?_, i4⟩, rfl⟩
    have g2 : ¬ x.t < t → (fun zs : List AV => ∃ m', m' < hi - lo ∧ ∃ y : Nat × Nat, zs = [.int (y.1 : Nat), .int (y.2 : Nat)] ∧ (y.1 ≤ y.2 ∧ y.2 ≤ l.length ∧ (∀ j x, j < y.1 → l[j]? = some x → x.t < t) ∧ ∀ j x, y.2 ≤ j → l[j]? = some x → ¬ x.t < t) ∧ y.2 - y.1 = m') [.int (lo : Nat), .int (m : Nat)] := fun q =>
      ⟨_, by omega, (lo, m), by simp, ⟨by simp; omega, by simp; omega, i3, fun j y hj hy => ?_⟩, rfl⟩
    rotate_left
    · have hj : m ≤ j := hj
      rcases Nat.eq_or_lt_of_le hj with q2 | q2
      · subst q2
        rw [hx] at hy; injection hy with hy; rw [← hy]; exact q
      · have := (tG_get hG hx).2.2 j y q2 hy; omega
    · have hj : j < m + 1 := hj
      rcases Nat.lt_or_ge j m with q2 | q2
      · have := (tG_get hG hy).2.2 m x q2 hx; omega
      · obtain rfl : j = m := by omega
        rw [hx] at hy; injection hy with hy; rw [← hy]; exact q
    obtain ⟨q1, q2, _⟩ := hxo
    obtain ⟨x0, hx0⟩ : ∃ x0, l[0]? = some x0 := ⟨_, List.getElem?_eq_getElem (by omega)⟩
    have t0 : 0 ≤ t := by have := h0 x0 hx0; have := (tG_get hG hx0).2.1.1; omega
    obtain ⟨x1, hx1⟩ : ∃ x1, l[l.length - 1]? = some x1 := ⟨_, List.getElem?_eq_getElem (by omega)⟩
    have t1 : t ≤ 200000 := by have := h1 x1 hx1; have := (tG_get hG hx1).2.1.2.1; omega
    have wd : wr (x.t - t) = x.t - t := wr_id (by omega) (by omega)
    have wm : wr ((m : Int) + 1) = (m : Int) + 1 := wr_id (by omega) (by omega)
    generalize hKK : (fun zs : List AV => ∃ m', m' < hi - lo ∧ ∃ y : Nat × Nat, zs = [.int (y.1 : Nat), .int (y.2 : Nat)] ∧ (y.1 ≤ y.2 ∧ y.2 ≤ l.length ∧ (∀ j x, j < y.1 → l[j]? = some x → x.t < t) ∧ ∀ j x, y.2 ≤ j → l[j]? = some x → ¬ x.t < t) ∧ y.2 - y.1 = m') = KK at *
    clear hKK i3 i4 h0 h1
    obtain ⟨xt, xx, xy, xh, xr, xb⟩ := x
    simp [w1, w2, s1, s2, s3, lst_atAgg hx, encN, wd, wm, en1, show m < l.length by omega]
    exact ⟨fun q => g1 (by show xt < t; omega), fun q => g2 (by show ¬ xt < t; omega)⟩
  · have hge : hi ≤ lo := by simpa using hge
    obtain rfl : hi = lo := by omega
    have hlo : hi < l.length := by
      refine Nat.lt_of_le_of_ne i2 fun q => ?_
      obtain ⟨z, hz⟩ : ∃ z, l[l.length - 1]? = some z := ⟨_, List.getElem?_eq_getElem (by omega)⟩
      have := h1 z hz
      have := i3 (l.length - 1) z (by omega) hz
      omega
    have hix : ixF t l = hi := ixF_is i2 i3 (fun x hx => i4 hi x (Nat.le_refl _) hx)
    obtain ⟨b, hb⟩ : ∃ b, l[hi]? = some b := ⟨_, List.getElem?_eq_getElem hlo⟩
    have hbd : l.getD (ixF t l) default = b := by rw [hix, List.getD_eq_getElem?_getD, hb]; rfl
    have hbo := (tG_get hG hb).2.1
    have hbt := i4 hi b (Nat.le_refl _) hb
    have hat : atN l t = if b.t = t then b else interp (l.getD (hi - 1) default) b t := by unfold atN; rw [hbd, hix]
    obtain ⟨x0, hx0⟩ : ∃ x0, l[0]? = some x0 := ⟨_, List.getElem?_eq_getElem (by omega)⟩
    have t0 : 0 ≤ t := by have := h0 x0 hx0; have := (tG_get hG hx0).2.1.1; omega
    obtain ⟨x1, hx1⟩ : ∃ x1, l[l.length - 1]? = some x1 := ⟨_, List.getElem?_eq_getElem (by omega)⟩
    have t1 : t ≤ 200000 := by have := h1 x1 hx1; have := (tG_get hG hx1).2.1.2.1; omega
    have e1 : b.t = t → nd (atN l t) = nd b := fun q => by rw [hat, if_pos q]
    have e2 : b.t ≠ t → ∃ a, l[hi - 1]? = some a ∧ 0 < hi ∧ okN a ∧ a.t < t ∧ t < b.t ∧ nd (atN l t) = nd (interp a b t) := fun q => by
      have hpos : 0 < hi := by
        refine Nat.pos_of_ne_zero fun z => ?_
        subst z
        have := h0 b hb
        omega
      obtain ⟨a, ha⟩ : ∃ a, l[hi - 1]? = some a := ⟨_, List.getElem?_eq_getElem (by omega)⟩
      have had : l.getD (hi - 1) default = a := by rw [List.getD_eq_getElem?_getD, ha]; rfl
      exact ⟨a, ha, hpos, (tG_get hG ha).2.1, i3 (hi - 1) a (by omega) ha, by omega, by rw [hat, if_neg q, had]⟩
    generalize nd (atN l t) = R at *
    have wd : wr (b.t - t) = b.t - t := by obtain ⟨q1, q2, _⟩ := hbo; exact wr_id (by omega) (by omega)
    clear hat hbd hix i3 i4 h1
    have hbo' := hbo
    obtain ⟨bt, bx, b_, bh, br, bb⟩ := b
    simp only at wd
    by_cases hbt0 : bt = t
    · have hz : bt - t = 0 := by omega
      have hw0 : wr (bt - t) = 0 := by rw [wd, hz]
      simp [hlo, lst_atAgg hb, encN, hw0, en1]
      exact (e1 hbt0).symm
    · obtain ⟨a, ha, hpos, hao, hat1, hat2, hR⟩ := e2 hbt0
      obtain ⟨k, rfl⟩ : ∃ k, hi = k + 1 := ⟨hi - 1, by omega⟩
      have wk : wr (k : Int) = (k : Int) := wr_id (by omega) (by omega)
      have ha : l[k]? = some a := ha
      have hz : ¬ bt - t = 0 := by omega
      have hao' := hao
      obtain ⟨at_, ax, ay, ah, ar, ab⟩ := a
      simp only [okN, Nd.p] at hbo hao hat1 hat2
      obtain ⟨a1, a2, a3, a4, a5, a6, a7, a8, a9⟩ := hao
      obtain ⟨b1, b2, b3, b4, b5, b6, b7, b8, b9⟩ := hbo
      have v1 : wr (t - at_) = t - at_ := wr_id (by omega) (by omega)
      have v2 : wr (bt - at_) = bt - at_ := wr_id (by omega) (by omega)
      have v3 : wr (bh - ah) = bh - ah := wr_id (by omega) (by omega)
      have v4 : wr (br - ar) = br - ar := wr_id (by omega) (by omega)
      have v5 : wr (bb - ab) = bb - ab := wr_id (by omega) (by omega)
      have m1 := mulb (p := bh - ah) (n := t - at_) (by omega) (by omega) (by omega) (by omega)
      have m2 := mulb (p := br - ar) (n := t - at_) (by omega) (by omega) (by omega) (by omega)
      have m3 := mulb (p := bb - ab) (n := t - at_) (by omega) (by omega) (by omega) (by omega)
      have v6 : wr ((bh - ah) * (t - at_)) = (bh - ah) * (t - at_) := wr_id (by omega) (by omega)
      have v7 : wr ((br - ar) * (t - at_)) = (br - ar) * (t - at_) := wr_id (by omega) (by omega)
      have v8 : wr ((bb - ab) * (t - at_)) = (bb - ab) * (t - at_) := wr_id (by omega) (by omega)
      have hd : 0 < bt - at_ := by omega
      have c1 := toward_fn ⟨ax, ay⟩ ⟨bx, b_⟩ (t - at_) (bt - at_) a3 b3 hd (by omega) (by omega) (by omega)
      have c2 := divd_fn ((bh - ah) * (t - at_)) (bt - at_) hd (by omega) (by omega)
      have c3 := divu_fn ((br - ar) * (t - at_)) (bt - at_) hd (by omega) (by omega)
      have c4 := divu_fn ((bb - ab) * (t - at_)) (bt - at_) hd (by omega) (by omega)
      have d2 := quo_bd hd (a := (bh - ah) * (t - at_)) (by omega) (by omega)
      have d3 := dvu_bd hd (a := (br - ar) * (t - at_)) (by omega) (by omega)
      have d4 := dvu_bd hd (a := (bb - ab) * (t - at_)) (by omega) (by omega)
      have v9 : wr (ah + (bh - ah) * (t - at_) / (bt - at_)) = ah + (bh - ah) * (t - at_) / (bt - at_) := wr_id (by omega) (by omega)
      have v10 : wr (ar + dvu ((br - ar) * (t - at_)) (bt - at_)) = ar + dvu ((br - ar) * (t - at_)) (bt - at_) := wr_id (by omega) (by omega)
      have v11 : wr (ab + dvu ((bb - ab) * (t - at_)) (bt - at_)) = ab + dvu ((bb - ab) * (t - at_)) (bt - at_) := wr_id (by omega) (by omega)
      have hlo' : (k : Int) + 1 < l.length := by omega
      have hlo2 : (k : Int) < l.length := by omega
      have hbz : AV.atAgg (tube l) (.lit (.int .i64 ((k : Int) + 1))) 0 6 = .agg [.int bt, .int bx, .int b_, .int bh, .int br, .int bb] := by
        have := lst_atAgg (s := 6) (enc := encN) (k := .i64) (j := 0) (m := 6) hb
        simpa [encN] using this
      rw [hR]
      simp [hlo', hlo2, hbz, lst_atAgg ha, encN, wd, en1, hz, wk, v1, v2]
      refine ⟨by omega, _, c1, ?_⟩
      simp [encP, v3, v6]
      refine ⟨_, c2, ?_⟩
      simp [v4, v7]
      refine ⟨_, c3, ?_⟩
      simp [v5, v8]
      refine ⟨_, c4, ?_⟩
      simp [v9, v10, v11, interp, Nd.p]
def tatE (l : List Nd) (t : Int) : Int := if tE l ≠ 0 then tE l else if t < (l.getD 0 default).t ∨ t > (l.getD (l.length - 1) default).t then 12 else 0
def nd0 : Nd := ⟨0, 0, 0, 0, 0, 0⟩
def tatV (l : List Nd) (t : Int) : AV := if tatE l t = 0 then .tup [nd (atN l t), .int 0] else .tup [nd nd0, .int (tatE l t)]
theorem tatE_ok {l : List Nd} {t : Int} (h : tatE l t = 0) : tE l = 0 ∧ (∀ x, l[0]? = some x → x.t ≤ t) ∧ ∀ x, l[l.length - 1]? = some x → t ≤ x.t := by
  unfold tatE at h
  split at h
  · rename_i q; exact absurd h q
  · rename_i q
    split at h
    · cases h
    · refine ⟨by simpa using q, fun x hx => ?_, fun x hx => ?_⟩
      · have : (l.getD 0 default).t = x.t := by rw [List.getD_eq_getElem?_getD, hx]; rfl
        omega
      · have : (l.getD (l.length - 1) default).t = x.t := by rw [List.getD_eq_getElem?_getD, hx]; rfl
        omega
/-- The node at a time is valid. -/
theorem atN_ok {l : List Nd} {t : Int} (hv : tE l = 0) (h0 : ∀ x, l[0]? = some x → x.t ≤ t) (h1 : ∀ x, l[l.length - 1]? = some x → t ≤ x.t) : pE (atN l t).p = 0 ∧ 0 ≤ (atN l t).h ∧ (atN l t).h ≤ 60000 := by
  obtain ⟨hp, h64, hG⟩ := tE_ok hv
  have hlt : ixF t l < l.length := by
    refine Nat.lt_of_le_of_ne (ixF_le t l) fun q => ?_
    obtain ⟨z, hz⟩ : ∃ z, l[l.length - 1]? = some z := ⟨_, List.getElem?_eq_getElem (by omega)⟩
    have := h1 z hz
    have := ixF_lt (t := t) (l := l) (j := l.length - 1) (by omega) hz
    omega
  obtain ⟨b, hb⟩ : ∃ b, l[ixF t l]? = some b := ⟨_, List.getElem?_eq_getElem hlt⟩
  have hbd : l.getD (ixF t l) default = b := by rw [List.getD_eq_getElem?_getD, hb]; rfl
  have hbo := (tG_get hG hb).2.1
  have hbt := ixF_ge hb
  unfold atN
  rw [hbd]
  split
  · exact ⟨hbo.2.2.1, hbo.2.2.2.1, hbo.2.2.2.2.1⟩
  · rename_i hne
    have hpos : 0 < ixF t l := by
      refine Nat.pos_of_ne_zero fun z => ?_
      rw [z] at hb
      have := h0 b hb
      omega
    obtain ⟨a, ha⟩ : ∃ a, l[ixF t l - 1]? = some a := ⟨_, List.getElem?_eq_getElem (by omega)⟩
    have had : l.getD (ixF t l - 1) default = a := by rw [List.getD_eq_getElem?_getD, ha]; rfl
    rw [had]
    exact interp_ok (tG_get hG ha).2.1 hbo (ixF_lt (by omega) ha) (by omega)
theorem tat_fn (l : List Nd) (t : Int) : Fn Tryz.prog 15 [tube l, .int t] (.tup [.sc, .sc]) (tatV l t) := by
  refine fn_run mixed 3 (Γ := SecF.Γ) (ann := SecF.ann) Tryz.func15 rfl Tryz.call15 ((SecF.tat_form _ _ _).mpr ?_)
  refine ⟨_, tcheck_fn l, ?_⟩
  have hV1 : tE l ≠ 0 → tatV l t = .tup [nd nd0, .int (tE l)] := fun g => by
    have : tatE l t = tE l := by unfold tatE; rw [if_pos g]
    unfold tatV; rw [this, if_neg g]
  simp
  refine ⟨fun g => (hV1 g).symm, fun g => ?_⟩
  obtain ⟨hp, h64, hG⟩ := tE_ok g
  obtain ⟨a, ha⟩ : ∃ a, l[0]? = some a := ⟨_, List.getElem?_eq_getElem hp⟩
  obtain ⟨b, hb⟩ : ∃ b, l[l.length - 1]? = some b := ⟨_, List.getElem?_eq_getElem (by omega)⟩
  have had : l.getD 0 default = a := by rw [List.getD_eq_getElem?_getD, ha]; rfl
  have hbd : l.getD (l.length - 1) default = b := by rw [List.getD_eq_getElem?_getD, hb]; rfl
  have hV2 : (t < a.t ∨ t > b.t) → tatV l t = .tup [nd nd0, .int 12] := fun q => by
    have : tatE l t = 12 := by unfold tatE; rw [if_neg (by simp [g]), had, hbd, if_pos q]
    unfold tatV; rw [this, if_neg (by decide)]
  have hV3 : ¬ (t < a.t ∨ t > b.t) → tatV l t = .tup [nd (atN l t), .int 0] := fun q => by
    have : tatE l t = 0 := by unfold tatE; rw [if_neg (by simp [g]), had, hbd, if_neg q]
    unfold tatV; rw [if_pos this]
  refine ⟨_, ends_fn l a b ha hb (by omega), ?_⟩
  simp
  refine ⟨fun q => ⟨q, (hV2 (by omega)).symm⟩, fun q => ⟨q, fun q2 => (hV2 (by omega)).symm, fun q2 => ?_⟩⟩
  rw [hV3 (by omega)]
  refine ⟨_, at_fn l t g (fun x hx => by rw [ha] at hx; injection hx with hx; rw [← hx]; exact q) (fun x hx => by rw [hb] at hx; injection hx with hx; rw [← hx]; exact q2), ?_⟩
  simp [encN]
end Go.Proofs.YtcdbodnhimbddaaGreat
/- sectors: the first that holds a point. -/
namespace Go.Proofs.YtcdbodnhimbddaaGreat
open Go.RowKit
set_option linter.unusedVariables false
set_option linter.unusedSimpArgs false
set_option maxRecDepth 100000
def okS (l : List Se) : Prop := l.length ≤ 12 ∧ ∀ s ∈ l, s.r.length ≤ 4 ∧ vE2 s.r = 0
theorem chS_ok : ∀ {l seen : List Se}, chS seen l = 0 → ∀ s ∈ l, s.r.length ≤ 4 ∧ vE2 s.r = 0
  | [], _, _, s, hs => by simp at hs
  | x :: r, seen, h, s, hs => by
    rw [chS] at h
    split at h
    · cases h
    · split at h
      · cases h
      · split at h
        · cases h
        · split at h
          · rename_i q; exact absurd h q
          · rename_i q1 q2
            split at h
            · cases h
            · rcases List.mem_cons.1 hs with rfl | hs
              · exact ⟨by omega, by simpa using q2⟩
              · exact chS_ok h s hs
theorem chkS_ok {l : List Se} (h : chkS l = 0) : okS l := by
  unfold chkS at h
  split at h
  · cases h
  · exact ⟨by omega, chS_ok h⟩
def hasB (q : Pt) (h : Int) (s : Se) : Bool := s.r.any fun v => vcB v q h
def plc (l : List Se) (q : Pt) (h : Int) : Int := idxN (hasB q h) 0 l
theorem splace_fn (l : List Se) (q : Pt) (h : Int) (ho : okS l) : Fn Tryz.prog 40 [ses l, pt q, .int h] .sc (.int (plc l q h)) := by
  have e := SecF.splace_form (ses l) (pt q) (.int h) (.int (plc l q h))
  have k := fun h => fn_run mixed 5 (Γ := SecF.Γ) (ann := SecF.ann) Tryz.func40 rfl Tryz.call40 (e.mpr h)
  refine k ?_
  clear k e
  have e1 : Ent Tryz.prog 60 := Tryz.call60
  have e2 : Ent Tryz.prog 61 := Tryz.call61
  have e3 : Ent Tryz.prog 62 := Tryz.call62
  have e4 : Ent Tryz.prog 80 := Tryz.call80
  have e5 : Ent Tryz.prog 63 := Tryz.call63
  refine ⟨by simp [encP], by simp, e1, fun _ => ⟨by simp, ?_⟩⟩
  obtain ⟨E, hE⟩ : ∃ E, E = plc l q h := ⟨_, rfl⟩
  rw [← hE]
  refine loop_list (σ := Unit) l (fun n _ => [.int (n : Nat)]) (fun n rest _ => E = idxN (hasB q h) n rest) () rfl hE ?_ ?_
  · rintro n s rest _ K hx hr hn hg hK
    have hl := ho.1
    have hw : wr ((n : Int) + 1) = (n : Int) + 1 := wr_id (by omega) (by omega)
    have hs := ho.2 s (List.mem_of_getElem? hx)
    rw [idxN] at hg
    have g1 : hasB q h s = true → (n : Int) = E := fun z => by rw [hg, if_pos z]
    have g2 : hasB q h s = false → K [.int ((n : Nat) + 1)] := fun z => hK _ () (by simp) (by rw [hg, if_neg (by simp [z])])
    clear hg hK
    obtain ⟨sn, sr⟩ := s
    simp only [hasB] at g1 g2 hs
    simp [hn, lst_atAgg hx, encE, e2, e3, e4]
    refine loop_list (σ := Unit) sr (fun m _ => [.int (m : Nat)]) (fun m rest _ => (sr.any fun v => vcB v q h) = rest.any fun v => vcB v q h) () rfl rfl ?_ ?_
    · rintro m v rest2 _ K2 hx2 hr2 hm hh hK2
      have hw2 : wr ((m : Int) + 1) = (m : Int) + 1 := wr_id (by omega) (by omega)
      have hvE := vE2_all hs.2 v (List.mem_of_getElem? hx2)
      rw [List.any_cons] at hh
      have f1 : vcB v q h = true → (n : Int) = E := fun z => g1 (by rw [hh, z]; rfl)
      have f2 : vcB v q h = false → K2 [.int ((m : Nat) + 1)] := fun z => hK2 _ () (by simp) (by rw [hh, z]; rfl)
      clear hh hK2 g1 g2
      have hc := vcont_fn v q h (by have := gE_len (vE_g hvE).1; omega)
      obtain ⟨va, vlo, vhi⟩ := v
      obtain ⟨qx, qy⟩ := q
      simp [hm, lst_atAgg hx2, encV, e5, hw, hw2]
      refine ⟨_, hc, ?_⟩
      simp
      exact ⟨fun z => f1 z, fun z => f2 z⟩
    · rintro _ K2 hh
      have := g2 hh
      simp [hw]
      exact this
  · rintro _ K hg
    rw [idxN] at hg
    simp [hg]
theorem vhV_ok {v : Vol} {q : Pt} {h : Int} (hv : vE v = 0) (hq : pE q = 0) (h0 : 0 ≤ h) (h1 : h ≤ 60000) : vhV v q h = .tup [.bool (vcB v q h), .int 0] := by
  have : vhE v q h = 0 := by unfold vhE; rw [if_neg (by simp [hv]), if_neg (by simp [hq]), if_neg (by omega)]
  unfold vhV; rw [if_pos this]
theorem lplace_fn (l : List Se) (q : Pt) (h : Int) (ho : okS l) (hq : pE q = 0) (h0 : 0 ≤ h) (h1 : h ≤ 60000) : Fn Tryz.prog 16 [ses l, pt q, .int h] .sc (.int (plc l q h)) := by
  refine fn_run mixed 3 (Γ := SecF.Γ) (ann := SecF.ann) Tryz.func16 rfl Tryz.call16 ((SecF.lplace_form _ _ _ _).mpr ?_)
  refine ⟨by simp [encP], by simp, by simp, ?_⟩
  have hl := ho.1
  have hw0 : wr ((l.length : Int) - 1) = (l.length : Int) - 1 := wr_id (by omega) (by omega)
  simp only [lst_len, av_subt, wr_eq, hw0]
  refine loop_of (τ := Nat) (fun k => [.int (idxN (hasB q h) k (l.drop k)), .int ((k : Int) - 1)]) (fun k => k ≤ l.length) (fun k => k) l.length (by simp [idxN]) (Nat.le_refl _) ?_
  rintro k hk
  have hk : k ≤ l.length := hk
  simp
  refine ⟨fun hk1 => ?_, fun hk1 => ?_⟩
  · obtain ⟨i, rfl⟩ : ∃ i, k = i + 1 := ⟨k - 1, by omega⟩
    obtain ⟨s, hs⟩ : ∃ s, l[i]? = some s := ⟨_, List.getElem?_eq_getElem (by omega)⟩
    have hso := ho.2 s (List.mem_of_getElem? hs)
    have hdrop : l.drop i = s :: l.drop (i + 1) := by
      rw [List.drop_eq_getElem_cons (by omega)]
      rw [List.getElem?_eq_getElem (by omega)] at hs
      injection hs with hs; rw [hs]
    have hidx : idxN (hasB q h) i (l.drop i) = if hasB q h s = true then (i : Int) else idxN (hasB q h) (i + 1) (l.drop (i + 1)) := by rw [hdrop, idxN]
    have hwi : wr ((i : Int) - 1) = (i : Int) - 1 := wr_id (by omega) (by omega)
    obtain ⟨sn, sr⟩ := s
    have hil : (i : Int) < l.length := by omega
    simp [hil, lst_at hs, encE, hwi]
    refine ⟨by omega, ?_⟩
    generalize idxN (hasB q h) (i + 1) (l.drop (i + 1)) = o0 at hidx ⊢
    simp only [hasB] at hidx
    refine loop_list (σ := Int) sr (fun m o => [.int o, .int (m : Nat)]) (fun m rest o => (if (sr.any fun v => vcB v q h) = true then (i : Int) else o0) = if (rest.any fun v => vcB v q h) = true then (i : Int) else o) o0 rfl rfl ?_ ?_
    · rintro m v rest2 o K2 hx2 hr2 hm hh hK2
      have hm4 := hso.1
      simp only at hm4
      have hw2 : wr ((m : Int) + 1) = (m : Int) + 1 := wr_id (by omega) (by omega)
      have hvE := vE2_all hso.2 v (List.mem_of_getElem? hx2)
      rw [List.any_cons] at hh
      have f1 : vcB v q h = true → K2 [.int (i : Nat), .int ((m : Nat) + 1)] := fun z => hK2 _ (i : Int) (by simp) (by rw [hh, z]; simp)
      have f2 : vcB v q h = false → K2 [.int o, .int ((m : Nat) + 1)] := fun z => hK2 _ o (by simp) (by rw [hh, z]; simp)
      clear hh hK2
      have hc := vhas_fn v q h
      rw [vhV_ok hvE hq h0 h1] at hc
      obtain ⟨va, vlo, vhi⟩ := v
      obtain ⟨qx, qy⟩ := q
      simp [hm, lst_atAgg hx2, encV, encP, hw2]
      refine ⟨_, hc, ?_⟩
      simp
      exact ⟨fun z => f1 z, fun z => f2 z⟩
    · rintro o K2 hh
      simp at hh
      simp
      refine ⟨i, by omega, ⟨?_, rfl⟩, by omega⟩
      rw [hidx, ← hh]
      simp
  · obtain rfl : k = 0 := by omega
    simp [plc]
def fndE (l : List Se) (q : Pt) (h : Int) : Int := if chkS l ≠ 0 then chkS l else if pE q ≠ 0 then pE q else if h < 0 ∨ h > 60000 then 4 else if plc l q h < 0 then 8 else 0
def fndV (l : List Se) (q : Pt) (h : Int) : AV := .tup [.int (if fndE l q h = 0 then plc l q h else 0), .int (fndE l q h)]
def outB (b : Bx) (p : Pt) : Bool := decide (p.x < b.f.x ∨ p.x > b.t.x ∨ p.y < b.f.y ∨ p.y > b.t.y)
def lvV (b : Bx) : Int → List Vol → Option Int
  | d, [] => some d
  | d, v :: r => if v.lo < b.lo ∨ v.hi > b.hi ∨ v.a.any (outB b) = true then none else lvV b (wr (d - wr (arV v.a * wr (v.hi - v.lo)))) r
def lvS (b : Bx) : Int → List Se → Option Int
  | d, [] => some d
  | d, s :: r => match lvV b d s.r with
    | none => none
    | some d' => lvS b d' r
def lv0 (b : Bx) : Int := wr (wr (wr (2 * wr (b.t.x - b.f.x)) * wr (b.t.y - b.f.y)) * wr (b.hi - b.lo))
def lfV (l : List Se) (b : Bx) : AV := if chkS l ≠ 0 then .tup [.int 0, .int (chkS l)] else if bxE b ≠ 0 then .tup [.int 0, .int (bxE b)] else match lvS b (lv0 b) l with
  | none => .tup [.int 0, .int 19]
  | some d => .tup [.int d, .int 0]
end Go.Proofs.YtcdbodnhimbddaaGreat
/- tube.All: what it hands out. -/
namespace Go.Proofs.YtcdbodnhimbddaaGreat
open Go.RowKit Go.Shelf
set_option linter.unusedVariables false
set_option linter.unusedSimpArgs false
set_option maxRecDepth 100000
attribute [local go_sem] Oper.semAt_some
/-- The nodes of all seconds from a on. -/
def upN (l : List Nd) (a : Int) : Nat → List AV
  | 0 => []
  | n + 1 => nd (atN l a) :: upN l (a + 1) n
def seqN (l : List Nd) : List AV := upN l (l.getD 0 default).t ((l.getD (l.length - 1) default).t - (l.getD 0 default).t + 1).toNat
theorem upN_snoc (l : List Nd) : ∀ (n : Nat) (a : Int), upN l a (n + 1) = upN l a n ++ [nd (atN l (a + n))]
  | 0, a => by simp [upN]
  | n + 1, a => by
    rw [upN, upN_snoc l n (a + 1), upN]
    simp
    congr 2
    omega
theorem upN_at (l : List Nd) : ∀ (k N : Nat) (a : Int), k < N → ∃ rest, upN l a N = upN l a k ++ nd (atN l (a + k)) :: rest
  | 0, N, a, h => by
    obtain ⟨M, rfl⟩ : ∃ M, N = M + 1 := ⟨N - 1, by omega⟩
    exact ⟨upN l (a + 1) M, by simp [upN]⟩
  | k + 1, N, a, h => by
    obtain ⟨M, rfl⟩ : ∃ M, N = M + 1 := ⟨N - 1, by omega⟩
    obtain ⟨rest, hr⟩ := upN_at l k M (a + 1) (by omega)
    refine ⟨rest, ?_⟩
    rw [upN, hr, upN]
    simp
    congr 2
    omega
theorem rv_cap {A : World} {ok : Nat → Prop} {x : AV} {c : Value} (h : RV A ok (.ref [x]) c) : ∃ g u, c = .pointer (some ⟨g, 0, none⟩) ∧ A.cell? ⟨g, 0, none⟩ = some u ∧ RV A ok x u := by
  cases h with
  | ref _ g us hok hg hc h1 h => exact ⟨g, us 0, rfl, hc 0 (by simp), by simpa using h 0 (by simp)⟩
theorem all1_it (l : List Nd) (hv : tE l = 0) : It Tryz.prog 95 [.ref [tube l]] (seqN l) := by
  refine ⟨Tryz.call95, fun y J lb w hlb hJ hR hY h0 => ?_⟩
  obtain ⟨c, rfl⟩ : ∃ c, lb = #[c] := by
    obtain ⟨lb⟩ := lb
    match lb, hlb with
    | [c], _ => exact ⟨c, rfl⟩
  have hcap : ∀ s A, J s A → ∃ (ok : Nat → Prop) (g : Nat) (u : Value), c = .pointer (some ⟨g, 0, none⟩) ∧ A.cell? ⟨g, 0, none⟩ = some u ∧ RV A ok (tube l) u ∧ (∀ g, ok g → g < A.heap.size) ∧ Gl A.heap.size A ok := fun s A hs => by
    obtain ⟨ok, h1, h2, h3⟩ := hR s A hs
    obtain ⟨g, u, q1, q2, q3⟩ := rv_cap (h3 0 (by simp))
    exact ⟨ok, g, u, q1, q2, q3, h1, h2⟩
  obtain ⟨ok0, g, u0, rfl, hc0, hu0, hok0, hgl0⟩ := hcap [] w h0
  have hcell : ∀ s A, J s A → ∃ (ok : Nat → Prop) (u : Value), A.cell? ⟨g, 0, none⟩ = some u ∧ RV A ok (tube l) u ∧ (∀ g, ok g → g < A.heap.size) ∧ Gl A.heap.size A ok := fun s A hs => by
    obtain ⟨ok, g', u, e, q2, q3, q4, q5⟩ := hcap s A hs
    injection e with e; injection e with e; injection e with e
    subst e
    exact ⟨ok, u, q2, q3, q4, q5⟩
  clear hcap hR
  obtain ⟨hp, h64, hG⟩ := tE_ok hv
  obtain ⟨a, ha⟩ : ∃ a, l[0]? = some a := ⟨_, List.getElem?_eq_getElem hp⟩
  obtain ⟨b, hb⟩ : ∃ b, l[l.length - 1]? = some b := ⟨_, List.getElem?_eq_getElem (by omega)⟩
  have had : l.getD 0 default = a := by rw [List.getD_eq_getElem?_getD, ha]; rfl
  have hbd : l.getD (l.length - 1) default = b := by rw [List.getD_eq_getElem?_getD, hb]; rfl
  have hao := (tG_get hG ha).2.1
  have hbo := (tG_get hG hb).2.1
  have hsq : seqN l = upN l a.t (b.t - a.t + 1).toNat := by unfold seqN; rw [had, hbd]
  refine (callsIn_wide (n := 6)).1 (callsIn_of_wp Tryz.func95 rfl trivial ?_)
  simp only [Tryz.ntmps95, List.size_toArray, List.length_cons, List.length_nil, Nat.reduceAdd, Nat.reduceSub, Array.replicate_succ, Array.replicate_zero, List.push_toArray, List.append_toArray, List.nil_append, List.cons_append]
  have hck := tcheck_fn l
  rw [hv] at hck
  have cal : ∀ (w : World) (ok : Nat → Prop) (u : Value), RV w ok (tube l) u → ∀ i, i < [tube l].length → RV w ok ([tube l].getD i default) (#[u].getD i undef) := fun w ok u hu i hi => by
    obtain rfl : i = 0 := by simpa using hi
    exact hu
  gi_wp2_with fail
  refine ⟨trivial, ?_⟩
  refine (callsIn_wide.2 (hck.2 w ok0 #[u0] hok0 hgl0 rfl (cal _ _ _ hu0))).mono ?_
  rintro e w1 ⟨v1, rfl, hb1, hv1, _, hd1⟩
  obtain rfl := RV.lit_iff.1 hv1
  have h1 : J [] w1 := hJ _ _ _ h0 hb1 hd1
  obtain ⟨ok1, u1, hc1, hu1, hok1, hgl1⟩ := hcell _ _ h1
  have hen := ends_fn l a b ha hb (by omega)
  gi_wp2_with fail
  refine ⟨trivial, ?_⟩
  refine (callsIn_wide.2 (hen.2 w1 ok1 #[u1] hok1 hgl1 rfl (cal _ _ _ hu1))).mono ?_
  rintro e w2 ⟨v2, rfl, hb2, ⟨vs2, rfl, hs2, _, hv2⟩, _, hd2⟩
  have h2 : J [] w2 := hJ _ _ _ h1 hb2 hd2
  have q0 := RV.lit_iff.1 (hv2 0 (by simp))
  have q1 := RV.lit_iff.1 (hv2 1 (by simp))
  obtain ⟨z0, z1, rfl⟩ : ∃ z0 z1, vs2 = #[z0, z1] := by
    obtain ⟨vs⟩ := vs2
    match vs, hs2 with
    | [z0, z1], _ => exact ⟨z0, z1, rfl⟩
  simp at q0 q1
  subst q0 q1
  gi_wp2_with fail
  obtain ⟨N, hN⟩ : ∃ N, N = (b.t - a.t + 1).toNat := ⟨_, rfl⟩
  rw [← hN] at hsq
  have hab : a.t ≤ b.t := by
    rcases Nat.eq_or_lt_of_le (show 0 ≤ l.length - 1 by omega) with q | q
    · rw [← q, ha] at hb; injection hb with hb; rw [hb]; exact Int.le_refl _
    · have := (tG_get hG ha).2.2 _ b q hb; omega
  obtain ⟨a1, a2, _⟩ := hao
  obtain ⟨b1, b2, _⟩ := hbo
  have hNv : (N : Int) = b.t - a.t + 1 := by omega
  gi_loopw [5] (fun p wr => ∃ k : Nat, p = .int .i64 (a.t + k) ∧ k ≤ N ∧ J (upN l a.t k) wr) (fun p wr => (b.t + 1 - intOf p).toNat)
  case atStart => exact ⟨0, by simp, by omega, h2⟩
  case round =>
    obtain ⟨k, rfl, hkN, hJk⟩ := hrel
    rcases Nat.lt_or_ge k N with hk | hk
    · obtain ⟨ok3, u3, hc3, hu3, hok3, hgl3⟩ := hcell _ _ hJk
      have hat := at_fn l (a.t + k) hv (fun x hx => by rw [ha] at hx; injection hx with hx; rw [← hx]; omega) (fun x hx => by rw [hb] at hx; injection hx with hx; rw [← hx]; omega)
      obtain ⟨rest, hrest⟩ := upN_at l k N a.t hk
      have hle : a.t + (k : Int) ≤ b.t := by omega
      gi_wp2_with fail
      refine ⟨trivial, ?_⟩
      refine (callsIn_wide.2 (hat.2 wr ok3 #[u3, .int .i64 (a.t + k)] hok3 hgl3 rfl (fun i hi => ?_))).mono ?_
      · have hi : i < 2 := by simpa using hi
        have : i = 0 ∨ i = 1 := by omega
        rcases this with rfl | rfl
        · exact hu3
        · exact .lit _
      rintro e w4 ⟨v4, rfl, hb4, hv4, _, hd4⟩
      have hJ4 : J (upN l a.t k) w4 := hJ _ _ _ hJk hb4 hd4
      have hv4 : RV w4 noBlock (nd (atN l (a.t + k))) v4 := hv4
      obtain ⟨fn5, tmps5, as5, body5, hy5, hR5⟩ := hY (upN l a.t k) _ rest v4 w4 5 (hsq.trans hrest) hJ4 hv4
      gi_wp2_with fail
      refine hR5.mono ?_
      rintro e w5 ⟨rfl, hJ5⟩
      rw [← upN_snoc] at hJ5
      have hwk : IntKind.i64.wrap (a.t + (k : Int) + 1) = a.t + ((k + 1 : Nat) : Int) := by rw [wrap64 (by omega) (by omega)]; simp; omega
      gi_wp2_with fail
      exact ⟨⟨k + 1, by simp, by omega, hJ5⟩, by simp [intOf]; omega⟩
    · obtain rfl : k = N := by omega
      have hgt : ¬ a.t + (k : Int) ≤ b.t := by omega
      gi_wp2_with fail
      go_end0
      exact ⟨⟨_, rfl⟩, by rw [← hN]; exact hJk⟩
end Go.Proofs.YtcdbodnhimbddaaGreat
/- tube.All. -/
namespace Go.Proofs.YtcdbodnhimbddaaGreat
open Go.RowKit
set_option linter.unusedVariables false
set_option linter.unusedSimpArgs false
set_option maxRecDepth 100000
theorem tclone_fn (l : List Nd) (hl : l.length ≤ 1000000) : Fn Tryz.prog 94 [tube l] (.row 53 6 true) (tube l) := by
  refine fn_run mixed 3 (Γ := AllF.Γ) (ann := AllF.ann) Tryz.func94 rfl Tryz.call94 ((AllF.clone_form _ _).mpr ?_)
  have hf := flat_tube l
  simp [AV.room]
  simp [lst] at hf ⊢
  exact ⟨by omega, hf⟩
theorem leaf_p (j i : Nat) : isRow (leafSh j i .p) = false := by cases j <;> cases i <;> rfl
theorem Gl.up {B B' : Nat} {w : World} {ok : Nat → Prop} (h : Gl B w ok) (hb : B ≤ B') : Gl B' w ok :=
  ⟨fun p hp => ⟨Nat.lt_of_lt_of_le (h.1 p hp).1 hb, (h.1 p hp).2⟩, fun g hg => ⟨Nat.lt_of_lt_of_le (h.2 g hg).1 hb, (h.2 g hg).2⟩⟩
theorem all_fn (l : List Nd) (hl : l.length ≤ 1000000) : Fn Tryz.prog 78 [tube l] .p (.clo 95 [.ref [tube l]]) := by
  refine ⟨Tryz.call78, fun w ok cargs hok hgl hsz hargs => calls_of_wp Tryz.func78 rfl ?_⟩
  obtain ⟨u0, rfl⟩ : ∃ u0, cargs = #[u0] := by
    obtain ⟨c⟩ := cargs
    match c, hsz with
    | [c], _ => exact ⟨c, rfl⟩
  have hu0 : RV w ok (tube l) u0 := hargs 0 (by simp)
  obtain ⟨A, n, c, rfl⟩ : ∃ A n c, u0 = .slice A n c := by
    cases hu0 with
    | sl _ _ A n c _ _ _ _ _ _ _ _ => exact ⟨A, n, c, rfl⟩
  simp only [Tryz.ntmps78, List.size_toArray, List.length_cons, List.length_nil, Nat.reduceAdd, Nat.reduceSub, Array.replicate_succ, Array.replicate_zero, List.push_toArray, List.append_toArray, List.nil_append, List.cons_append]
  obtain ⟨w1, hw1⟩ : ∃ w1, w1 = w.alloc (.cells #[.slice A n c] 47) := ⟨_, rfl⟩
  have hsz1 : w1.heap.size = w.heap.size + 1 := by rw [hw1]; simp
  have hb1 : Below w.heap.size w w1 := by rw [hw1]; exact (Below.refl _ w).alloc (Nat.le_refl _) _
  have hc1 : w1.cell? ⟨w.heap.size, 0, none⟩ = some (.slice A n c) ∧ w1.frozen? ⟨w.heap.size, 0, none⟩ = false := by
    have hh : w1.heap[w.heap.size]? = some (.cells #[.slice A n c] 47 (0, 0)) := by rw [hw1]; exact World.alloc_heap_new w _
    exact ⟨by simp [World.cell?, hh], by simp [World.frozen?, hh]⟩
  have hd1 : w1.drawn = w.drawn := by rw [hw1]; rfl
  go_wp2_with fail
  rw [← hw1]
  refine ((tclone_fn l hl).2 w1 ok #[.slice A n c] (fun g hg => by have := hok g hg; omega) ((hgl.later hb1).up (by omega)) rfl (fun i hi => ?_)).mono ?_
  · obtain rfl : i = 0 := by simpa using hi
    exact hu0.mono fun g hg hlt => ⟨hg, hb1.block g hlt⟩
  rintro e w2 ⟨v, rfl, hb2, hrow, _, hd2⟩
  have hrow : RRow w2 w1.heap.size 53 6 noBlock (tube l) v := hrow
  obtain ⟨A2, n2, c2, rfl, _⟩ := hrow.form
  have hlt1 : w.heap.size < w1.heap.size := by omega
  have hc2 : w2.cell? ⟨w.heap.size, 0, none⟩ = some (.slice A n c) := (World.cell?_of_block (hb2.block _ hlt1)).trans hc1.1
  have hf2 : w2.frozen? ⟨w.heap.size, 0, none⟩ = false := (World.frozen?_of_block (hb2.block _ hlt1)).trans hc1.2
  go_wp2_with fail
  have hrv := hrow.rv (ok' := fun g => w1.heap.size ≤ g) (fun g hg => hg.elim) (fun g hg => (hrow.lt hg).1)
  have hn2 : n2 = l.length := by
    obtain ⟨_, _, _, e, q, _⟩ := hrow.form
    injection e with _ e; rw [e, q]; simp
  subst hn2
  have hbs : Below w.heap.size w2 (w2.setCell ⟨w.heap.size, 0, none⟩ (.slice A2 l.length c2)) := (Below.refl _ w2).setCell (p := ⟨w.heap.size, 0, none⟩) (Nat.le_refl _) _
  have hlt2 : w.heap.size < w2.heap.size := Nat.lt_of_lt_of_le hlt1 hb2.size
  have hbw : Below w.heap.size w w2 := hb1.trans (hb2.mono (by omega))
  refine ⟨rfl, _, results_tmp rfl _ _ _, _, rfl, hbw.trans hbs, ?_, fun j i _ _ hr => ?_, ?_⟩
  · refine RV.clo _ _ _ rfl fun i hi => ?_
    obtain rfl : i = 0 := by simpa using hi
    refine RV.ref _ w.heap.size (fun _ => .slice A2 l.length c2) (.inr ⟨Nat.le_refl _, ?_⟩) (by simpa using hlt2) (fun i hi => ?_) (fun _ _ => rfl) (fun i hi => ?_)
    · rintro ⟨j, i, hr, _⟩
      rw [leaf_p] at hr; cases hr
    · obtain rfl : i = 0 := by simpa using hi
      exact World.cell?_setCell_same' _ _ _ (by rw [hc2]; rfl)
    · obtain rfl : i = 0 := by simpa using hi
      refine hrv.mono fun g hg hlt => ⟨.inr ⟨by omega, ?_⟩, Below.heap_setCell w2 _ _ g (by show g ≠ w.heap.size; omega)⟩
      rintro ⟨j, i, hr, _⟩
      rw [leaf_p] at hr; cases hr
  · rw [leaf_p] at hr; cases hr
  · show w.drawn ≤ w2.drawn
    omega
end Go.Proofs.YtcdbodnhimbddaaGreat
/- sectors: the visits of a tube. -/
namespace Go.Proofs.YtcdbodnhimbddaaGreat
open Go.RowKit
set_option linter.unusedVariables false
set_option linter.unusedSimpArgs false
set_option maxRecDepth 100000
structure Vs where
  s : Int
  f : Int
  t : Int
  deriving DecidableEq, Inhabited
def encVs (v : Vs) : List AV := [.int v.s, .int v.f, .int v.t]
abbrev vss (l : List Vs) : AV := lst 3 encVs l
theorem flat_vss (l : List Vs) : (vss l).flatS := lst_flatS fun x _ z hz => by
  simp [encVs] at hz; rcases hz with rfl | rfl | rfl <;> exact .lit _
def lastV (out : List Vs) : Vs := out.getD (out.length - 1) default
def stepV (out : List Vs) (i t : Int) : List Vs := if 0 < out.length ∧ (lastV out).s = i then out.set (out.length - 1) ⟨(lastV out).s, (lastV out).f, t⟩ else out ++ [⟨i, t, t⟩]
theorem stepV_len (out : List Vs) (i t : Int) : (stepV out i t).length ≤ out.length + 1 := by
  unfold stepV
  split <;> simp
def visK (l : List Se) (tb : List Nd) (a : Int) : Nat → List Vs
  | 0 => []
  | k + 1 => stepV (visK l tb a k) (plc l (atN tb (a + k)).p (atN tb (a + k)).h) (a + k)
theorem visK_len (l : List Se) (tb : List Nd) (a : Int) : ∀ k, (visK l tb a k).length ≤ k
  | 0 => Nat.le_refl _
  | k + 1 => by
    have h1 := visK_len l tb a k
    have h2 := stepV_len (visK l tb a k) (plc l (atN tb (a + k)).p (atN tb (a + k)).h) (a + k)
    rw [visK]
    omega
theorem atN_t (l : List Nd) (t : Int) : (atN l t).t = t := by
  unfold atN
  split
  · assumption
  · rfl
theorem upN_len (l : List Nd) : ∀ (n : Nat) (a : Int), (upN l a n).length = n
  | 0, a => rfl
  | n + 1, a => by rw [upN, List.length_cons, upN_len l n]
def firT (tb : List Nd) : Int := (tb.getD 0 default).t
def lasT (tb : List Nd) : Int := (tb.getD (tb.length - 1) default).t
def durN (tb : List Nd) : Nat := (lasT tb - firT tb + 1).toNat
theorem dur_ok {tb : List Nd} (hv : tE tb = 0) : 0 ≤ firT tb ∧ firT tb ≤ lasT tb ∧ lasT tb ≤ 200000 := by
  obtain ⟨hp, h64, hG⟩ := tE_ok hv
  obtain ⟨a, ha⟩ : ∃ a, tb[0]? = some a := ⟨_, List.getElem?_eq_getElem hp⟩
  obtain ⟨b, hb⟩ : ∃ b, tb[tb.length - 1]? = some b := ⟨_, List.getElem?_eq_getElem (by omega)⟩
  have had : firT tb = a.t := by unfold firT; rw [List.getD_eq_getElem?_getD, ha]; rfl
  have hbd : lasT tb = b.t := by unfold lasT; rw [List.getD_eq_getElem?_getD, hb]; rfl
  have hao := (tG_get hG ha).2.1
  have hbo := (tG_get hG hb).2.1
  have hab : a.t ≤ b.t := by
    rcases Nat.eq_or_lt_of_le (show 0 ≤ tb.length - 1 by omega) with q | q
    · rw [← q, ha] at hb; injection hb with hb; rw [hb]; exact Int.le_refl _
    · have := (tG_get hG ha).2.2 _ b q hb; omega
  obtain ⟨a1, a2, _⟩ := hao
  obtain ⟨b1, b2, _⟩ := hbo
  omega
def visV (l : List Se) (tb : List Nd) : List Vs := visK l tb (firT tb) (durN tb)
theorem vss_app (a : List Vs) (x : Vs) : AV.app 3 (vss a) (.sl 3 [[.int x.s, .int x.f, .int x.t]]) = vss (a ++ [x]) := by simp [lst, AV.app, AV.els, encVs]
theorem visits_fn (l : List Se) (tb : List Nd) (ho : okS l) (hv : tE tb = 0) : Fn Tryz.prog 54 [ses l, tube tb] (.row 90 3 true) (vss (visV l tb)) := by
  refine fn_run mixed 3 (Γ := VisF.Γ) (ann := VisF.ann) Tryz.func54 rfl Tryz.call54 ((VisF.visits_form _ _ _).mpr ?_)
  obtain ⟨hp, h64, hG⟩ := tE_ok hv
  obtain ⟨d1, d2, d3⟩ := dur_ok hv
  have hN : durN tb ≤ 200001 := by unfold durN; omega
  have hsq : seqN tb = upN tb (firT tb) (durN tb) := rfl
  refine ⟨by simp, _, all_fn tb (by omega), 95, [.ref [tube tb]], seqN tb, rfl, all1_it tb hv, fun pre ys => ∃ k, k ≤ durN tb ∧ pre = upN tb (firT tb) k ∧ ys = [vss (visK l tb (firT tb) k)], ⟨0, Nat.zero_le _, rfl, rfl⟩, ?_, ?_⟩
  · rintro pre x rest ys hxr _ ⟨k, hk, rfl, rfl⟩
    have hlen : k < durN tb := by
      have := congrArg List.length hxr
      rw [hsq, List.length_append, List.length_cons, upN_len, upN_len] at this
      omega
    have hx : x = nd (atN tb (firT tb + k)) := by
      obtain ⟨rest', hr⟩ := upN_at tb k (durN tb) (firT tb) hlen
      rw [hsq, hr] at hxr
      have := List.append_cancel_left hxr
      injection this with this
      exact this.symm
    subst hx
    have hat : (atN tb (firT tb + k)).t = firT tb + k := atN_t _ _
    have hK : visK l tb (firT tb) (k + 1) = stepV (visK l tb (firT tb) k) (plc l (atN tb (firT tb + k)).p (atN tb (firT tb + k)).h) (firT tb + k) := rfl
    have hle := visK_len l tb (firT tb) k
    have hpl := splace_fn l (atN tb (firT tb + k)).p (atN tb (firT tb + k)).h ho
    have hnx : ∀ zs : List AV, zs = [vss (visK l tb (firT tb) (k + 1))] → ∃ j, j ≤ durN tb ∧ upN tb (firT tb) k ++ [nd (atN tb (firT tb + k))] = upN tb (firT tb) j ∧ zs = [vss (visK l tb (firT tb) j)] := fun zs hz => ⟨k + 1, by omega, (upN_snoc tb k (firT tb)).symm, hz⟩
    rw [hK] at hnx
    generalize visK l tb (firT tb) k = out at *
    generalize atN tb (firT tb + k) = n at *
    obtain ⟨nt, nx, ny, nh, nr, nb⟩ := n
    simp only [Nd.p] at hpl hnx hat
    generalize plc l ⟨nx, ny⟩ nh = i at *
    subst hat
    have g1 : 0 < out.length → (lastV out).s = i → (fun zs : List AV => ∃ j, j ≤ durN tb ∧ upN tb (firT tb) k ++ [nd ⟨firT tb + k, nx, ny, nh, nr, nb⟩] = upN tb (firT tb) j ∧ zs = [vss (visK l tb (firT tb) j)]) [vss (out.set (out.length - 1) ⟨(lastV out).s, (lastV out).f, firT tb + k⟩)] := fun a b => hnx _ (by unfold stepV; rw [if_pos ⟨a, b⟩])
    have g2 : ¬ (0 < out.length ∧ (lastV out).s = i) → (fun zs : List AV => ∃ j, j ≤ durN tb ∧ upN tb (firT tb) k ++ [nd ⟨firT tb + k, nx, ny, nh, nr, nb⟩] = upN tb (firT tb) j ∧ zs = [vss (visK l tb (firT tb) j)]) [vss (out ++ [⟨i, firT tb + k, firT tb + k⟩])] := fun a => hnx _ (by unfold stepV; rw [if_neg a])
    clear hnx hK
    generalize hKK : (fun zs : List AV => ∃ j, j ≤ durN tb ∧ upN tb (firT tb) k ++ [nd ⟨firT tb + k, nx, ny, nh, nr, nb⟩] = upN tb (firT tb) j ∧ zs = [vss (visK l tb (firT tb) j)]) = KK at *
    clear hKK
    simp only [f_allV]
    refine ⟨by simp [encN], .int i, hpl, ?_⟩
    have hroom : AV.room (vss out) (.sl 3 [[.int i, .int (firT tb + k), .int (firT tb + k)]]) 24 := by unfold AV.room; simp; omega
    have happ := vss_app out ⟨i, firT tb + k, firT tb + k⟩
    simp only at happ
    have hw1 : wr ((out.length : Int) - 1) = (out.length : Int) - 1 := wr_id (by omega) (by omega)
    rcases Nat.eq_zero_or_pos out.length with h0 | h0
    · have e0 : out = [] := List.eq_nil_of_length_eq_zero h0
      have g2' := g2 (by omega)
      rw [e0] at hroom happ g2' ⊢
      simp [encN]
      simp at hroom happ g2'
      exact ⟨hroom, g2'⟩
    · obtain ⟨m, hm⟩ : ∃ m, out.length = m + 1 := ⟨out.length - 1, by omega⟩
      obtain ⟨v, hv⟩ : ∃ v, out[m]? = some v := ⟨_, List.getElem?_eq_getElem (by omega)⟩
      have hlv : lastV out = v := by unfold lastV; rw [hm, List.getD_eq_getElem?_getD]; simp [hv]
      have hwm : wr (m : Int) = (m : Int) := wr_id (by omega) (by omega)
      rw [hlv, hm] at g1
      rw [hlv] at g2
      obtain ⟨vs, vf, vt⟩ := v
      simp only at g1 g2
      have hse : AV.setEl (vss out) (.lit (.int .i64 (m : Nat))) 2 [.int (firT tb + k)] = vss (out.set m ⟨vs, vf, firT tb + k⟩) := lst_setEl hv (by simp [encVs])
      have hln : out.length = m + 1 := hm
      simp [hln, hwm, encN, lst_at hv, encVs, hse, happ, hroom]
      refine ⟨by omega, ?_⟩
      exact ⟨fun q => ⟨by omega, g1 (by omega) q⟩, fun q => g2 (by omega)⟩
  · rintro ys _ ⟨k, hk, hpre, rfl⟩
    have hk : k = durN tb := by
      have := congrArg List.length hpre
      rw [hsq, upN_len, upN_len] at this
      exact this.symm
    subst hk
    refine ⟨by simpa using flat_vss _, ?_⟩
    simp [visV]
def pthE (l : List Se) (tb : List Nd) : Int := if chkS l ≠ 0 then chkS l else if tE tb ≠ 0 then tE tb else if lasT tb - firT tb > 20000 then 2 else 0
def pthV (l : List Se) (tb : List Nd) : AV := .tup [vss (if pthE l tb = 0 then visV l tb else []), .int (pthE l tb)]
theorem path_fn (l : List Se) (tb : List Nd) : Fn Tryz.prog 37 [ses l, tube tb] (.tup [.row 90 3 true, .sc]) (pthV l tb) := by
  have e := SecF.path_form (ses l) (tube tb) (pthV l tb)
  have k := fun h => fn_run mixed 3 (Γ := SecF.Γ) (ann := SecF.ann) Tryz.func37 rfl Tryz.call37 (e.mpr h)
  refine k ?_
  clear k e
  obtain ⟨E, hE⟩ : ∃ E, E = pthE l tb := ⟨_, rfl⟩
  have hV : pthV l tb = .tup [vss (if E = 0 then visV l tb else []), .int E] := by rw [hE]; rfl
  have hV0 : ∀ e, e ≠ 0 → E = e → pthV l tb = .tup [.sl 3 [], .int e] := fun e h1 h2 => by rw [hV, h2, if_neg h1]; rfl
  generalize pthV l tb = V at hV hV0 ⊢
  refine ⟨_, scheck_fn l, ?_⟩
  unfold pthE at hE
  have g1 : chkS l ≠ 0 → V = .tup [.sl 3 [], .int (chkS l)] := fun z => hV0 _ z (by rw [hE, if_pos z])
  simp
  refine ⟨fun z => (g1 z).symm, fun z => ?_⟩
  have n1 : ¬ chkS l ≠ 0 := by simp [z]
  rw [if_neg n1] at hE
  have ho := chkS_ok z
  refine ⟨_, tcheck_fn tb, ?_⟩
  have g2 : tE tb ≠ 0 → V = .tup [.sl 3 [], .int (tE tb)] := fun z => hV0 _ z (by rw [hE, if_pos z])
  simp
  refine ⟨fun z => (g2 z).symm, fun z2 => ?_⟩
  have n2 : ¬ tE tb ≠ 0 := by simp [z2]
  rw [if_neg n2] at hE
  obtain ⟨hp, h64, hG⟩ := tE_ok z2
  obtain ⟨d1, d2, d3⟩ := dur_ok z2
  obtain ⟨a, ha⟩ : ∃ a, tb[0]? = some a := ⟨_, List.getElem?_eq_getElem hp⟩
  obtain ⟨b, hb⟩ : ∃ b, tb[tb.length - 1]? = some b := ⟨_, List.getElem?_eq_getElem (by omega)⟩
  have had : a.t = firT tb := by unfold firT; rw [List.getD_eq_getElem?_getD, ha]; rfl
  have hbd : b.t = lasT tb := by unfold lasT; rw [List.getD_eq_getElem?_getD, hb]; rfl
  have hw1 : wr ((tb.length : Int) - 1) = (tb.length : Int) - 1 := wr_id (by omega) (by omega)
  have e0 : AV.at (tube tb) (.lit (.int .i64 0)) 0 = .int (firT tb) := by
    rw [lst_atI (by omega) (by simpa using ha)]; simp [encN, had]
  have e1 : AV.at (tube tb) (.lit (.int .i64 ((tb.length : Int) - 1))) 0 = .int (lasT tb) := by
    have q : ((tb.length : Int) - 1).toNat = tb.length - 1 := by omega
    rw [lst_atI (by omega) (by rw [q]; exact hb)]; simp [encN, hbd]
  have hw2 : wr (lasT tb - firT tb) = lasT tb - firT tb := wr_id (by omega) (by omega)
  have hvis := visits_fn l tb ho z2
  have g3 : lasT tb - firT tb > 20000 → V = .tup [.sl 3 [], .int 2] := fun z => hV0 _ (by decide) (by rw [hE, if_pos z])
  simp [hw1, e0, e1, hw2]
  refine ⟨⟨by omega, by omega⟩, by omega, fun y => (g3 y).symm, fun y => ?_⟩
  have hE0 : E = 0 := by rw [hE, if_neg (by omega)]
  refine ⟨_, hvis, flat_vss _, ?_⟩
  rw [hV, hE0, if_pos rfl]
end Go.Proofs.YtcdbodnhimbddaaGreat
/- loads: what is checked; the flights of each sector. -/
namespace Go.Proofs.YtcdbodnhimbddaaGreat
open Go.RowKit
set_option linter.unusedVariables false
set_option linter.unusedSimpArgs false
set_option maxRecDepth 100000
def encT (t : List Nd) : List AV := [tube t]
abbrev tbs (l : List (List Nd)) : AV := lst 1 encT l
def encI (n : Int) : List AV := [.int n]
abbrev ints (l : List Int) : AV := lst 1 encI l
theorem flat_ints (l : List Int) : (ints l).flatS := lst_flatS fun x _ z hz => by
  simp [encI] at hz; rw [hz]; exact .lit _
def tEs : List (List Nd) → Int
  | [] => 0
  | t :: r => if tE t ≠ 0 then tE t else tEs r
def lE (l : List Se) (ts : List (List Nd)) : Int := if chkS l ≠ 0 then chkS l else if ts.length > 24 then 2 else tEs ts
theorem tEs_ok : ∀ {ts : List (List Nd)}, tEs ts = 0 → ∀ t ∈ ts, tE t = 0
  | [], _, t, h => by simp at h
  | x :: r, h, t, ht => by
    rw [tEs] at h
    split at h
    · rename_i q; exact absurd h q
    · rename_i q
      rcases List.mem_cons.1 ht with rfl | ht
      · simpa using q
      · exact tEs_ok h t ht
theorem lE_ok {l : List Se} {ts : List (List Nd)} (h : lE l ts = 0) : chkS l = 0 ∧ ts.length ≤ 24 ∧ ∀ t ∈ ts, tE t = 0 := by
  unfold lE at h
  split at h
  · rename_i q; exact absurd h q
  · rename_i q
    split at h
    · cases h
    · exact ⟨by simpa using q, by omega, tEs_ok h⟩
theorem lcheck_fn (l : List Se) (ts : List (List Nd)) : Fn Tryz.prog 22 [ses l, tbs ts] .sc (.int (lE l ts)) := by
  refine fn_run mixed 3 (Γ := LoF.Γ) (ann := LoF.ann) Tryz.func22 rfl Tryz.call22 ((LoF.lcheck_form _ _ _).mpr ?_)
  obtain ⟨E, hE⟩ : ∃ E, E = lE l ts := ⟨_, rfl⟩
  rw [← hE]
  unfold lE at hE
  refine ⟨_, scheck_fn l, ?_⟩
  simp
  refine ⟨fun z => by rw [hE, if_pos z], fun z => ?_⟩
  rw [if_neg (by simp [z])] at hE
  refine ⟨fun z2 => by rw [hE, if_pos (by omega)], fun z2 => ?_⟩
  rw [if_neg (by omega)] at hE
  refine loop_list (σ := Unit) ts (fun n _ => [.int (n : Nat)]) (fun n rest _ => E = tEs rest) () rfl hE ?_ ?_
  · rintro n x rest _ K hx hr hn hg hK
    have hw : wr ((n : Int) + 1) = (n : Int) + 1 := wr_id (by omega) (by omega)
    rw [tEs] at hg
    have g1 : tE x ≠ 0 → tE x = E := fun h => by rw [hg, if_pos h]
    have g2 : tE x = 0 → K [.int ((n : Nat) + 1)] := fun h => hK _ () (by simp) (by rw [hg, if_neg (by simp [h])])
    clear hg hK
    simp [hn, lst_at hx, encT, hw]
    refine ⟨_, tcheck_fn x, ?_⟩
    simp
    exact ⟨g1, g2⟩
  · rintro _ K hg
    rw [tEs] at hg
    simp [hg]
theorem lerr_fn (l : List Se) (ts : List (List Nd)) : Fn Tryz.prog 8 [ses l, tbs ts] .sc (.int (lE l ts)) := by
  refine fn_run mixed 3 (Γ := LoF.Γ) (ann := LoF.ann) Tryz.func8 rfl Tryz.call8 ((LoF.lerr_form _ _ _).mpr ?_)
  obtain ⟨E, hE⟩ : ∃ E, E = lE l ts := ⟨_, rfl⟩
  rw [← hE]
  unfold lE at hE
  refine ⟨_, serr_fn l, ?_⟩
  simp
  refine ⟨fun z => by rw [hE, if_pos z], fun z => ?_⟩
  rw [if_neg (by simp [z])] at hE
  refine ⟨fun z2 => by rw [hE, if_pos (by omega)], fun z2 => ?_⟩
  rw [if_neg (by omega)] at hE
  refine loop_list (σ := Unit) ts (fun n _ => [.int (n : Nat)]) (fun n rest _ => E = tEs rest) () rfl hE ?_ ?_
  · rintro n x rest _ K hx hr hn hg hK
    have hw : wr ((n : Int) + 1) = (n : Int) + 1 := wr_id (by omega) (by omega)
    rw [tEs] at hg
    have g1 : tE x ≠ 0 → tE x = E := fun h => by rw [hg, if_pos h]
    have g2 : tE x = 0 → K [.int ((n : Nat) + 1)] := fun h => hK _ () (by simp) (by rw [hg, if_neg (by simp [h])])
    clear hg hK
    simp [hn, lst_at hx, encT, hw]
    refine ⟨_, tcheck_fn x, ?_⟩
    simp
    exact ⟨g1, g2⟩
  · rintro _ K hg
    rw [tEs] at hg
    simp [hg]
structure Sn where
  f : Int
  t : Int
def encSn (s : Sn) : List AV := [.int s.f, .int s.t]
abbrev sn (s : Sn) : AV := .agg (encSn s)
def snE (s : Sn) : Int := if s.f < 0 ∨ s.t > 200001 ∨ s.f ≥ s.t then 12 else if s.t - s.f > 2000 then 2 else 0
theorem snE_ok {s : Sn} (h : snE s = 0) : 0 ≤ s.f ∧ s.t ≤ 200001 ∧ s.f < s.t ∧ s.t - s.f ≤ 2000 := by
  unfold snE at h
  split at h
  · cases h
  · split at h
    · cases h
    · omega
theorem lspan_fn (s : Sn) : Fn Tryz.prog 23 [sn s] .sc (.int (snE s)) := by
  refine fn_run mixed 3 (Γ := LoF.Γ) (ann := LoF.ann) Tryz.func23 rfl Tryz.call23 ((LoF.lspan_form _ _).mpr ?_)
  obtain ⟨f, t⟩ := s
  have g1 : (f < 0 ∨ t > 200001 ∨ f ≥ t) → 12 = snE ⟨f, t⟩ := fun h => by unfold snE; rw [if_pos h]
  have g2 : ¬ (f < 0 ∨ t > 200001 ∨ f ≥ t) → t - f > 2000 → 2 = snE ⟨f, t⟩ := fun h h2 => by unfold snE; rw [if_neg h, if_pos h2]
  have g3 : ¬ (f < 0 ∨ t > 200001 ∨ f ≥ t) → ¬ t - f > 2000 → 0 = snE ⟨f, t⟩ := fun h h2 => by unfold snE; rw [if_neg h, if_neg h2]
  simp [encSn]
  refine ⟨fun a => ⟨a, g1 (by omega)⟩, fun a => ⟨a, fun b => ⟨b, g1 (by omega)⟩, fun b => ⟨b, fun c => g1 (by omega), fun c => ?_⟩⟩⟩
  have hw : wr (t - f) = t - f := wr_id (by omega) (by omega)
  simp [hw]
  exact ⟨fun d => g2 (by omega) (by omega), fun d => g3 (by omega) (by omega)⟩
theorem sperr_fn (s : Sn) : Fn Tryz.prog 9 [sn s] .sc (.int (snE s)) := by
  refine fn_run mixed 3 (Γ := LoF.Γ) (ann := LoF.ann) Tryz.func9 rfl Tryz.call9 ((LoF.serr2_form _ _).mpr ?_)
  obtain ⟨f, t⟩ := s
  have g1 : (f < 0 ∨ t > 200001 ∨ f ≥ t) → 12 = snE ⟨f, t⟩ := fun h => by unfold snE; rw [if_pos h]
  have g2 : ¬ (f < 0 ∨ t > 200001 ∨ f ≥ t) → t - f > 2000 → 2 = snE ⟨f, t⟩ := fun h h2 => by unfold snE; rw [if_neg h, if_pos h2]
  have g3 : ¬ (f < 0 ∨ t > 200001 ∨ f ≥ t) → ¬ t - f > 2000 → 0 = snE ⟨f, t⟩ := fun h h2 => by unfold snE; rw [if_neg h, if_neg h2]
  simp [encSn]
  refine ⟨fun a => ⟨a, g1 (by omega)⟩, fun a => ⟨a, fun b => ⟨b, g1 (by omega)⟩, fun b => ⟨b, fun c => g1 (by omega), fun c => ?_⟩⟩⟩
  have hw : wr (t - f) = t - f := wr_id (by omega) (by omega)
  simp [hw]
  exact ⟨fun d => g2 (by omega) (by omega), fun d => g3 (by omega) (by omega)⟩
/-- One flight more. -/
def cSt (l : List Se) (t : Int) (s : List Int × Int) (x : List Nd) : List Int × Int :=
  if tatE x t ≠ 0 then s else if 0 ≤ plc l (atN x t).p (atN x t).h then (s.1.set (plc l (atN x t).p (atN x t).h).toNat (wr (s.1.getD (plc l (atN x t).p (atN x t).h).toNat 0 + 1)), s.2) else (s.1, wr (s.2 + 1))
def cntS (l : List Se) (ts : List (List Nd)) (t : Int) : List Int × Int := ts.foldl (cSt l t) (List.replicate l.length 0, 0)
theorem plc_lt {l : List Se} {q : Pt} {h : Int} : plc l q h < l.length := by
  unfold plc
  rcases idxN_spec (hasB q h) l 0 with ⟨h1, _⟩ | ⟨i, x, h1, h2, _⟩
  · rw [h1]; omega
  · have := (List.getElem?_eq_some_iff.1 h2).1
    rw [h1]; omega
theorem cSt_len (l : List Se) (t : Int) (s : List Int × Int) (x : List Nd) : (cSt l t s x).1.length = s.1.length := by
  unfold cSt
  split
  · rfl
  · split <;> simp
theorem cfold_len (l : List Se) (t : Int) : ∀ (ts : List (List Nd)) (s : List Int × Int), (ts.foldl (cSt l t) s).1.length = s.1.length
  | [], s => rfl
  | x :: r, s => by rw [List.foldl_cons, cfold_len l t r, cSt_len]
theorem cntS_len (l : List Se) (ts : List (List Nd)) (t : Int) : (cntS l ts t).1.length = l.length := by
  unfold cntS
  rw [cfold_len]
  simp
def cntV (l : List Se) (ts : List (List Nd)) (t : Int) : AV := .tup [ints (cntS l ts t).1, .int (cntS l ts t).2]
theorem ints_rep (n : Nat) (v : Int) : AV.rep 1 (.lit (.int .i64 (n : Nat))) [.lit (.int .i64 v)] = ints (List.replicate n v) := by
  simp [AV.rep, lst, encI]
theorem tatV_cases (x : List Nd) (t : Int) : (tatE x t = 0 ∧ tatV x t = .tup [nd (atN x t), .int 0]) ∨ (tatE x t ≠ 0 ∧ tatV x t = .tup [nd nd0, .int (tatE x t)]) := by
  by_cases h : tatE x t = 0
  · left; exact ⟨h, by unfold tatV; rw [if_pos h]⟩
  · right; exact ⟨h, by unfold tatV; rw [if_neg h]⟩
theorem count_fn (l : List Se) (ts : List (List Nd)) (t : Int) (ho : okS l) (hts : ts.length ≤ 24) : Fn Tryz.prog 25 [ses l, tbs ts, .int t] (.tup [.row 3 1 true, .sc]) (cntV l ts t) := by
  refine fn_run mixed 3 (Γ := LoF.Γ) (ann := LoF.ann) Tryz.func25 rfl Tryz.call25 ((LoF.lcount_form _ _ _ _).mpr ?_)
  have hl := ho.1
  refine ⟨by simp, ?_, by simp, rfl, by simp, ?_⟩
  · simp [AV.mkOk]
    omega
  obtain ⟨V, hV⟩ : ∃ V, V = cntV l ts t := ⟨_, rfl⟩
  rw [← hV]
  have hV0 : V = .tup [ints (ts.foldl (cSt l t) (List.replicate l.length 0, 0)).1, .int (ts.foldl (cSt l t) (List.replicate l.length 0, 0)).2] := hV
  refine loop_list (σ := List Int × Int) ts (fun n s => [.int s.2, .int (n : Nat), ints s.1]) (fun n rest s => V = .tup [ints (rest.foldl (cSt l t) s).1, .int (rest.foldl (cSt l t) s).2] ∧ s.1.length = l.length) (List.replicate l.length 0, 0) ?_ ⟨hV0, by simp⟩ ?_ ?_
  · rw [lst_len, ints_rep]
    rfl
  · rintro n x rest ⟨m, o⟩ K hx hr hn ⟨hg, hm⟩ hK
    have hw : wr ((n : Int) + 1) = (n : Int) + 1 := wr_id (by omega) (by omega)
    rw [List.foldl_cons] at hg
    simp only at hm
    have g0 : ∀ s', s' = cSt l t (m, o) x → K [.int s'.2, .int ((n : Nat) + 1), ints s'.1] := fun s' hs => hK _ s' (by simp) ⟨by rw [hs]; exact hg, by rw [hs, cSt_len]; exact hm⟩
    clear hg hK
    have hat := tat_fn x t
    simp [hn, lst_at hx, encT, hw]
    refine ⟨_, hat, ?_⟩
    rcases tatV_cases x t with ⟨h1, h2⟩ | ⟨h1, h2⟩
    · rw [h2]
      have hp := splace_fn l (atN x t).p (atN x t).h ho
      have g1 : 0 ≤ plc l (atN x t).p (atN x t).h → K [.int o, .int ((n : Nat) + 1), ints (m.set (plc l (atN x t).p (atN x t).h).toNat (wr (m.getD (plc l (atN x t).p (atN x t).h).toNat 0 + 1)))] := fun q => g0 (m.set (plc l (atN x t).p (atN x t).h).toNat (wr (m.getD (plc l (atN x t).p (atN x t).h).toNat 0 + 1)), o) (by unfold cSt; rw [if_neg (by simp [h1]), if_pos q])
      have g2 : ¬ 0 ≤ plc l (atN x t).p (atN x t).h → K [.int (wr (o + 1)), .int ((n : Nat) + 1), ints m] := fun q => g0 (m, wr (o + 1)) (by unfold cSt; rw [if_neg (by simp [h1]), if_neg q])
      have hlt : plc l (atN x t).p (atN x t).h < l.length := plc_lt
      clear g0 h2 h1
      generalize atN x t = a at *
      obtain ⟨nt, nx, ny, nh, nr, nb⟩ := a
      simp only [Nd.p] at hp g1 g2 hlt
      generalize plc l ⟨nx, ny⟩ nh = i at *
      simp [encN]
      refine ⟨_, hp, ?_⟩
      simp
      refine ⟨fun q => ?_, fun q => g2 (by omega)⟩
      obtain ⟨j, rfl⟩ : ∃ j : Nat, i = (j : Int) := ⟨i.toNat, by omega⟩
      have hjm : j < m.length := by omega
      have hmj : m[j]? = some (m.getD j 0) := by rw [List.getD_eq_getElem?_getD, List.getElem?_eq_getElem hjm]; rfl
      have hin : (j : Int) < m.length := by omega
      have g1' := g1 q
      simp only [Int.toNat_natCast] at g1'
      have hse : AV.setEl (ints m) (.lit (.int .i64 (j : Nat))) 0 [.int (wr (m.getD j 0 + 1))] = ints (m.set j (wr (m.getD j 0 + 1))) := lst_setEl hmj (by simp [encI])
      have hgi := lst_at (s := 1) (enc := encI) (k := .i64) (j := 0) hmj
      generalize m.getD j 0 = v at *
      simp [hgi, encI, hse, hjm]
      exact g1'
    · rw [h2]
      have := g0 (m, o) (by unfold cSt; rw [if_pos h1])
      simp [encN, nd0, h1]
      exact this
  · rintro ⟨m, o⟩ K ⟨hg, hm⟩
    simp only [List.foldl_nil] at hg
    simp [hg, flat_ints]
def cCE (l : List Se) (ts : List (List Nd)) (t : Int) : Int := if lE l ts ≠ 0 then lE l ts else if t < 0 ∨ t > 200000 then 12 else 0
def cCV (l : List Se) (ts : List (List Nd)) (t : Int) : AV := if cCE l ts t = 0 then .tup [ints (cntS l ts t).1, .int (cntS l ts t).2, .int 0] else .tup [ints [], .int 0, .int (cCE l ts t)]
theorem cCount_fn (l : List Se) (ts : List (List Nd)) (t : Int) : Fn Tryz.prog 10 [ses l, tbs ts, .int t] (.tup [.row 3 1 true, .sc, .sc]) (cCV l ts t) := by
  refine fn_run mixed 3 (Γ := LoF.Γ) (ann := LoF.ann) Tryz.func10 rfl Tryz.call10 ((LoF.lCount_form _ _ _ _).mpr ?_)
  have hV : cCV l ts t = if cCE l ts t = 0 then .tup [ints (cntS l ts t).1, .int (cntS l ts t).2, .int 0] else .tup [ints [], .int 0, .int (cCE l ts t)] := rfl
  have hE : cCE l ts t = if lE l ts ≠ 0 then lE l ts else if t < 0 ∨ t > 200000 then 12 else 0 := rfl
  generalize cCV l ts t = V at hV ⊢
  generalize cCE l ts t = E at hV hE
  have hV0 : ∀ e, e ≠ 0 → E = e → V = .tup [.sl 1 [], .int 0, .int e] := fun e h1 h2 => by rw [hV, h2, if_neg h1]; rfl
  refine ⟨_, lcheck_fn l ts, ?_⟩
  simp
  refine ⟨fun z => (hV0 _ z (by rw [hE, if_pos z])).symm, fun z => ?_⟩
  rw [if_neg (by simp [z])] at hE
  obtain ⟨z1, z2, z3⟩ := lE_ok z
  refine ⟨fun a => ⟨a, (hV0 12 (by decide) (by rw [hE, if_pos (.inl a)])).symm⟩, fun a => ⟨a, fun b => (hV0 12 (by decide) (by rw [hE, if_pos (.inr b)])).symm, fun b => ?_⟩⟩
  have hE0 : E = 0 := by rw [hE, if_neg (by omega)]
  refine ⟨_, count_fn l ts t (chkS_ok z1) z2, ?_⟩
  rw [hV, if_pos hE0]
  simp [cntV]
  exact flat_ints _
end Go.Proofs.YtcdbodnhimbddaaGreat
/- slices.Repeat of one number. -/
namespace Go.Proofs.YtcdbodnhimbddaaGreat
open Go.RowKit
set_option linter.unusedVariables false
set_option linter.unusedSimpArgs false
set_option maxRecDepth 100000
section
variable {P : Program}
theorem wp_copy_run (w : World) {o : Oper} {a : Act} {K : Act → World → Prop} {Q : Exit → Act → World → Prop} (d s : Operand) (t t' : TypeId)
    (ho : o.op = .call { callee := .builtin .copy, args := #[d, s], argTypes := #[t, t'] }) (v u : Value) (hd : a.eval d = v) (hs : a.eval s = u) {v' : Value} {w' : World}
    (hr : (Builtin.copy_ #[t, t'] o.type #[v, u]).run P w = .ok v' w') (h : K (a.put o.dst v') w') : o.wp P a w K Q := by
  unfold Oper.wp execOp
  simp only [ho, resolve, invoke, builtin, Sem.run_bind, Sem.run_pure, Result.andThen_ok, List.map_toArray, List.map_cons, List.map_nil, hd, hs, hr]
  exact h
theorem wpList_copy_run (w : World) {ops : Array Oper} {rest : List Oper} {o : Oper} {a : Act} {Q : Exit → Act → World → Prop} (hgd : o.guard = none) (d s : Operand) (t t' : TypeId)
    (ho : o.op = .call { callee := .builtin .copy, args := #[d, s], argTypes := #[t, t'] }) (v u : Value) (hd : a.eval d = v) (hs : a.eval s = u) {v' : Value} {w' : World}
    (hr : (Builtin.copy_ #[t, t'] o.type #[v, u]).run P w = .ok v' w') (h : wpList P ops Q rest (a.put o.dst v') w') : wpList P ops Q (o :: rest) a w :=
  wpList_plain hgd fun _ hK => wp_copy_run w d s t t' ho v u hd hs hr (hK _ _ h)
theorem step_copy_run {ops : Array Oper} {o : Oper} {a : Act} {w : World} {K : Act → World → Prop} {Q : Exit → Act → World → Prop} {E : Prop}
    (hg : o.guard = none) (d x : Operand) (dT sT : TypeId) (hop : o.op = Op.call { callee := Callee.builtin Builtin.copy, args := #[d, x], argTypes := #[dT, sT] })
    (v u : Value) (hd : a.eval d = v) (hx : a.eval x = u) {v' : Value} {w' : World} (hr : (Builtin.copy_ #[dT, sT] o.type #[v, u]).run P w = .ok v' w') (hK : K (a.put o.dst v') w') :
    if Region.wanted o (yielded ops a.tmps) = true then Oper.wp P o a w K Q else E := by
  have hw : Region.wanted o (yielded ops a.tmps) = true := by simp [Region.wanted, hg]
  rw [if_pos hw]
  unfold Oper.wp
  simp [execOp, hop, resolve, invoke, builtin, hd, hx, hr, Result.andThen]
  exact hK
end
theorem info_int : (Tryz.prog.info? 3).map (fun i => (i.zero, i.size, i.bytes)) = some (some (.int .i64 0), 1, 8) := by kernel_rfl
theorem makeInts (n : Nat) (hn : n ≤ 1000000000) (w : World) : (Instr.makeSlice 24 (.int .i64 (n : Int)) (.int .i64 (n : Int))).run Tryz.prog w = .ok (.slice (some ⟨w.heap.size, 0, none⟩) n n) (w.alloc (.cells (madeCells #[.int .i64 0] n) 3)) :=
  run_make_row' 24 3 (.int .i64 0) 8 Tryz.underlying24 info_int rfl .i64 .i64 n (by omega) (by omega) w
def RepI (g n : Nat) (v : Int) (k : Nat) (w0 W : World) : Prop :=
  W.heap[g]? = some (.cells (List.replicate k (Value.int .i64 v) ++ List.replicate (n - k) (Value.int .i64 0)).toArray 3 (0, 0)) ∧ Below w0.heap.size w0 W ∧ w0.drawn ≤ W.drawn
theorem rep_cell {g n k : Nat} {v : Int} {w0 W : World} (h : RepI g n v k w0 W) {j : Nat} (hj : j < k) : W.cell? ⟨g, j, none⟩ = some (.int .i64 v) := by
  rw [cell_of_row W g j _ _ _ h.1]
  simp [List.getElem?_append, List.getElem?_replicate, hj]
theorem rep_copy {g n k m : Nat} {v : Int} {w0 W : World} (h : RepI g n v k w0 W) (hg : w0.heap.size ≤ g) (hkm : k + m ≤ n) (ty : TypeId) (dC : Nat) (a : Addr) (sL sC : Nat) (hm : m = Nat.min sL (n - k)) (hsrc : ∀ j, j < m → W.cell? (a.add j) = some (.int .i64 v)) :
    ∃ W', (Builtin.copy_ #[24, 24] ty #[.slice (some ⟨g, k, none⟩) (n - k) dC, .slice (some a) sL sC]).run Tryz.prog W = .ok (goInt m) W' ∧ RepI g n v (k + m) w0 W' := by
  have hz : (Tryz.prog.info? 3).map (·.size) = some 1 := by kernel_rfl
  rcases Nat.eq_zero_or_pos m with rfl | hpos
  · exact ⟨W, run_copy_none W _ _ ty 3 _ _ _ _ _ _ Tryz.underlying24 hz hm.symm, h⟩
  · have hr := run_copy_row Tryz.prog W 24 24 ty 3 g k (n - k) dC a sL sC _ 3 (List.replicate m (.int .i64 v)) Tryz.underlying24 hz h.1 (by simpa using hm) (fun j x hx => by
      rw [List.getElem?_replicate] at hx
      split at hx
      · rename_i hj; injection hx with hx; rw [← hx]; exact hsrc j hj
      · cases hx) (by simp; omega) (fun x hx => by rw [List.eq_of_mem_replicate hx]; rfl)
    simp only [List.length_replicate] at hr
    refine ⟨_, hr, ?_, ?_, ?_⟩
    · rw [setRow_heap W g _ _ _ _ h.1]
      congr 3
      have e1 : (List.replicate k (Value.int .i64 v) ++ List.replicate (n - k) (Value.int .i64 0)).take k = List.replicate k (Value.int .i64 v) := by
        rw [List.take_append_of_le_length (by simp)]; simp
      have e2 : (List.replicate k (Value.int .i64 v) ++ List.replicate (n - k) (Value.int .i64 0)).drop (k + m) = List.replicate (n - (k + m)) (Value.int .i64 0) := by
        rw [List.drop_append]
        simp
        omega
      rw [e1, e2, List.replicate_append_replicate]
    · exact below_setRow h.2.1 hg _
    · exact h.2.2
theorem rep_fn (v : Int) (n : Nat) (hn : n ≤ 12) : Fn Tryz.prog 24 [ints [v], .int (n : Nat)] (.row 3 1 true) (ints (List.replicate n v)) := by
  refine ⟨Tryz.call24, fun w ok cargs hok hgl hsz hargs => calls_of_wp Tryz.func24 rfl ?_⟩
  obtain ⟨c0, c1, rfl⟩ : ∃ c0 c1, cargs = #[c0, c1] := by
    obtain ⟨c⟩ := cargs
    match c, hsz with
    | [a, b], _ => exact ⟨a, b, rfl⟩
  have h0 : RV w ok (ints [v]) c0 := hargs 0 (by simp)
  have h1 : RV w ok (.int (n : Nat)) c1 := hargs 1 (by simp)
  obtain rfl := RV.lit_iff.1 h1
  obtain ⟨b, off, cc, rfl, hcell⟩ : ∃ b off cc, c0 = .slice (some ⟨b, off, none⟩) 1 cc ∧ w.cell? ⟨b, off, none⟩ = some (.int .i64 v) := by
    cases h0 with
    | sl s L A m c us hm hmc hc hs hA hone hu =>
      obtain ⟨b, off, e, _, _, hcell⟩ := hA (by rw [← hm]; simp)
      have hm1 : m = 1 := by rw [← hm]; rfl
      subst hm1
      refine ⟨b, off, c, by rw [e], ?_⟩
      have e1 := hcell 0 0 (by omega) (by omega)
      have e2 := RV.lit_iff.1 (hu 0 0 (by omega) (by omega))
      simpa [e2] using e1
  have hblt : b < w.heap.size := by
    unfold World.cell? at hcell
    cases hh : w.heap[b]? with
    | none => simp [hh] at hcell
    | some o => exact (Array.getElem?_eq_some_iff.1 hh).1
  simp only [Tryz.ntmps24, List.size_toArray, List.length_cons, List.length_nil, Nat.reduceAdd, Nat.reduceSub, Array.replicate_succ, Array.replicate_zero, List.push_toArray, List.append_toArray, List.nil_append, List.cons_append]
  have hu1 : IntKind.u64.wrap (n : Int) = (n : Int) := by simp [IntKind.wrap, IntKind.bits, IntKind.signed]; omega
  have hi1 : IntKind.i64.wrap (n : Int) = (n : Int) := wrap64 (by omega) (by omega)
  have hmul := mul_fn n hn
  go_wp2_with fail
  refine (hmul.2 w ok #[.int .u64 1, .int .u64 (n : Nat)] hok hgl rfl (fun i hi => ?_)).mono ?_
  · have hi : i < 2 := hi
    have : i = 0 ∨ i = 1 := by omega
    rcases this with rfl | rfl
    · exact .lit _
    · exact .lit _
  rintro e w1 ⟨v1, rfl, hb1, ⟨vs1, rfl, hs1, _, hv1⟩, _, hd1⟩
  have q0 := RV.lit_iff.1 (hv1 0 (by simp))
  have q1 := RV.lit_iff.1 (hv1 1 (by simp))
  obtain ⟨z0, z1, rfl⟩ : ∃ z0 z1, vs1 = #[z0, z1] := by
    obtain ⟨vs⟩ := vs1
    match vs, hs1 with
    | [z0, z1], _ => exact ⟨z0, z1, rfl⟩
  simp at q0 q1
  subst q0 q1
  have hcell1 : w1.cell? ⟨b, off, none⟩ = some (.int .i64 v) := (World.cell?_of_block (hb1.block b hblt)).trans hcell
  have hle : ¬ (9223372036854775807 : Int) < n := by omega
  have hmk := makeInts n (by omega)
  obtain ⟨w2, hw2⟩ : ∃ w2, w2 = w1.alloc (.cells (madeCells #[.int .i64 0] n) 3) := ⟨_, rfl⟩
  have hbw1 : Below w.heap.size w w1 := hb1
  have hI0 : RepI w1.heap.size n v 0 w w2 := by
    refine ⟨?_, ?_, ?_⟩
    · rw [hw2, World.alloc_heap_new]
      congr 2
      apply Array.toList_inj.1
      rw [toList_madeCells_one]
      simp
    · rw [hw2]; exact hbw1.alloc hbw1.size _
    · rw [hw2]; exact hd1
  have hg : w.heap.size ≤ w1.heap.size := hbw1.size
  have hcell2 : w2.cell? ⟨b, off, none⟩ = some (.int .i64 v) := (World.cell?_of_block (hI0.2.1.block b hblt)).trans hcell
  obtain ⟨w3, hc3, hI3⟩ := rep_copy (m := min 1 n) hI0 hg (by omega) 3 n ⟨b, off, none⟩ 1 cc (by simp [Nat.min_def]) (fun j hj => by
    obtain rfl : j = 0 := by omega
    exact hcell2)
  rw [hw2] at hc3
  simp only [Nat.sub_zero] at hc3
  go_wp2_with (at_builtin; refine wpList_copy_run _ rfl _ _ 24 24 rfl _ _ rfl rfl hc3 ?_)
  go_loopw [8] (fun p wr => ∃ k : Nat, p = .int .i64 k ∧ min 1 n ≤ k ∧ k ≤ n ∧ RepI w1.heap.size n v k w wr) (fun p wr => n - (intOf p).toNat)
  case atStart => exact ⟨min 1 n, rfl, Nat.le_refl _, Nat.min_le_right _ _, by simpa using hI3⟩
  case round =>
    obtain ⟨k, rfl, hk1, hkn, hIk⟩ := hrel
    rcases Nat.lt_or_ge k n with hk | hk
    · have hkn' : (k : Int) < n := by omega
      have hk0 : 0 < k := by have : min 1 n = 1 := Nat.min_eq_left (by omega); omega
      obtain ⟨w5, hc5, hI5⟩ := rep_copy (m := min k (n - k)) (W := wr.drew) ⟨hIk.1, hIk.2.1.drew, Nat.le_trans hIk.2.2 (Nat.le_succ _)⟩ hg (by omega) 3 (n - k) ⟨w1.heap.size, 0, none⟩ k n (by simp [Nat.min_def]) (fun j hj => by
        have := rep_cell hIk (j := j) (by omega)
        simp only [Addr.add]
        split
        · rename_i hz; subst hz; exact this
        · simpa using this)
      have hne : ¬ n = k := by omega
      have hwk : IntKind.i64.wrap ((k : Int) + ((min k (n - k) : Nat) : Int)) = ((k + min k (n - k) : Nat) : Int) := by rw [wrap64 (by omega) (by omega)]; simp
      go_wp2_with fail
      have hmo := mixed
      go_region_law_o (refine step_copy_run rfl _ _ 24 24 rfl _ _ (by simp [Act.eval, Act.put]) (by simp [Act.eval, Act.put]) hc5 ?_)
      simp [Act.put, Act.eval]
      go_wp2_with fail
      have hm0 : 0 < min k (n - k) := by simp [Nat.min_def]; split <;> omega
      refine ⟨⟨k + min k (n - k), by simp, by omega, by omega, hI5⟩, ?_⟩
      simp only [intOf]
      omega
    · obtain rfl : k = n := by omega
      have hkn' : ¬ (k : Int) < k := by omega
      go_wp2_with fail
      refine ⟨rfl, _, results_tmp rfl _ _ _, _, rfl, hIk.2.1, ?_, fun j i j' i' hr hr' hne => ?_, hIk.2.2⟩
      · refine ⟨List.replicate k [.int v], List.replicate k (.int .i64 v), by simp [lst, encI], by omega, fun y hy => by rw [List.eq_of_mem_replicate hy]; rfl, ⟨by simp, .inr ⟨w1.heap.size, k, _, by simp, hg, hIk.1, by simp, by simp [maxLen]; omega, by simp, by simp⟩⟩, fun u hu => by rw [List.eq_of_mem_replicate hu]; rfl, fun i j hi hj => ?_⟩
        have hi : i < k := by simpa using hi
        have hj : j = 0 := by omega
        subst hj
        have e1 : gt2 (List.replicate k [.int v]) i 0 = .int v := by simp [gt2, List.getD_eq_getElem?_getD, List.getElem?_replicate, hi]
        have e2 : (List.replicate k (Value.int .i64 v)).getD (i * 1 + 0) undef = .int .i64 v := by simp [List.getD_eq_getElem?_getD, List.getElem?_replicate, hi]
        rw [e1, e2]
        exact .lit _
      · have hl : ∀ j i, isRow (leafSh j i (.row 3 1 true)) = true → j = 0 ∧ i = 0 := fun j i h => by
          cases j with
          | zero => cases i with
            | zero => exact ⟨rfl, rfl⟩
            | succ i => cases h
          | succ j => cases i <;> cases h
        obtain ⟨rfl, rfl⟩ := hl j i hr
        obtain ⟨rfl, rfl⟩ := hl j' i' hr'
        exact absurd rfl (hne.elim id id)
end Go.Proofs.YtcdbodnhimbddaaGreat
/- loads: the greatest numbers. -/
namespace Go.Proofs.YtcdbodnhimbddaaGreat
open Go.RowKit
set_option linter.unusedVariables false
set_option linter.unusedSimpArgs false
set_option maxRecDepth 100000
theorem mix_len {A B : List Int} (hl : A.length = B.length) (j : Nat) : (A.take j ++ B.drop j).length = B.length := by simp; omega
theorem mix_at {A B : List Int} (hl : A.length = B.length) {j : Nat} (hj : j < B.length) : (A.take j ++ B.drop j)[j]? = some (B.getD j 0) := by
  rw [List.getElem?_append_right (by simp; omega)]
  simp
  rw [show j - min j A.length = 0 by omega]
  simp [hj]
theorem mix_set {A B : List Int} (hl : A.length = B.length) {j : Nat} (hj : j < B.length) : (A.take j ++ B.drop j).set j (A.getD j 0) = A.take (j + 1) ++ B.drop (j + 1) := by
  apply List.ext_getElem?
  intro i
  by_cases hij : i = j
  · subst hij
    rw [List.getElem?_set_self (by rw [mix_len hl]; exact hj), List.getElem?_append_left (by simp; omega), List.getElem?_take_of_lt (by omega)]
    rw [List.getD_eq_getElem?_getD, List.getElem?_eq_getElem (by omega)]; rfl
  · rw [List.getElem?_set_ne (fun e => hij e.symm)]
    rcases Nat.lt_or_ge i j with h | h
    · rw [List.getElem?_append_left (by simp; omega), List.getElem?_append_left (by simp; omega), List.getElem?_take_of_lt h, List.getElem?_take_of_lt (by omega)]
    · rw [List.getElem?_append_right (by simp; omega), List.getElem?_append_right (by simp; omega)]
      simp
      congr 1
      omega
theorem mix_same {A B : List Int} (hl : A.length = B.length) {j : Nat} (hj : j < B.length) (h : A.getD j 0 = B.getD j 0) : A.take j ++ B.drop j = A.take (j + 1) ++ B.drop (j + 1) := by
  rw [← mix_set hl hj, h]
  apply List.ext_getElem?
  intro i
  by_cases hij : i = j
  · subst hij
    rw [List.getElem?_set_self (by rw [mix_len hl]; exact hj), mix_at hl hj]
  · rw [List.getElem?_set_ne (fun e => hij e.symm)]
def pkM (n m : List Int) : List Int := (List.range m.length).map fun i => if m.getD i 0 < n.getD i 0 then n.getD i 0 else m.getD i 0
def pkA (n m a : List Int) (t : Int) : List Int := (List.range a.length).map fun i => if m.getD i 0 < n.getD i 0 then t else a.getD i 0
theorem pkM_len (n m : List Int) : (pkM n m).length = m.length := by simp [pkM]
theorem pkA_len (n m a : List Int) (t : Int) : (pkA n m a t).length = a.length := by simp [pkA]
theorem pkM_at {n m : List Int} {i : Nat} (hi : i < m.length) : (pkM n m).getD i 0 = if m.getD i 0 < n.getD i 0 then n.getD i 0 else m.getD i 0 := by
  simp [pkM, List.getD_eq_getElem?_getD, List.getElem?_map, List.getElem?_range hi]
theorem pkA_at {n m a : List Int} {t : Int} {i : Nat} (hi : i < a.length) : (pkA n m a t).getD i 0 = if m.getD i 0 < n.getD i 0 then t else a.getD i 0 := by
  simp [pkA, List.getD_eq_getElem?_getD, List.getElem?_map, List.getElem?_range hi]
def pkS (l : List Se) (ts : List (List Nd)) (f : Int) : Nat → List Int × List Int
  | 0 => (List.replicate l.length 0, List.replicate l.length f)
  | k + 1 => (pkM (cntS l ts (f + k)).1 (pkS l ts f k).1, pkA (cntS l ts (f + k)).1 (pkS l ts f k).1 (pkS l ts f k).2 (f + k))
theorem pkS_len (l : List Se) (ts : List (List Nd)) (f : Int) : ∀ k, (pkS l ts f k).1.length = l.length ∧ (pkS l ts f k).2.length = l.length
  | 0 => by simp [pkS]
  | k + 1 => by
    have := pkS_len l ts f k
    rw [pkS, pkM_len, pkA_len]
    exact this
def pkE (l : List Se) (ts : List (List Nd)) (s : Sn) : Int := if lE l ts ≠ 0 then lE l ts else snE s
def pkN (s : Sn) : Nat := (s.t - s.f).toNat
def pkV (l : List Se) (ts : List (List Nd)) (s : Sn) : AV := if pkE l ts s = 0 then .tup [ints (pkS l ts s.f (pkN s)).1, ints (pkS l ts s.f (pkN s)).2, .int 0] else .tup [ints [], ints [], .int (pkE l ts s)]
theorem ints_at {m : List Int} {j : Nat} (h : j < m.length) : AV.at (ints m) (.lit (.int .i64 (j : Nat))) 0 = .int (m.getD j 0) := by
  have h2 : m[j]? = some (m.getD j 0) := by rw [List.getD_eq_getElem?_getD, List.getElem?_eq_getElem h]; rfl
  rw [lst_at h2]
  rfl
theorem ints_set {m : List Int} {j : Nat} (h : j < m.length) (v : Int) : AV.setEl (ints m) (.lit (.int .i64 (j : Nat))) 0 [.int v] = ints (m.set j v) := by
  have h2 : m[j]? = some (m.getD j 0) := by rw [List.getD_eq_getElem?_getD, List.getElem?_eq_getElem h]; rfl
  exact lst_setEl h2 (by simp [encI])
theorem peaks_fn (l : List Se) (ts : List (List Nd)) (s : Sn) : Fn Tryz.prog 13 [ses l, tbs ts, sn s] (.tup [.row 3 1 true, .row 3 1 true, .sc]) (pkV l ts s) := by
  have e := LoF.peaks_form (ses l) (tbs ts) (sn s) (pkV l ts s)
  have k := fun h => fn_run mixed 3 (Γ := LoF.Γ) (ann := LoF.ann) Tryz.func13 rfl Tryz.call13 (e.mpr h)
  refine k ?_
  clear k e
  have hV : pkV l ts s = if pkE l ts s = 0 then .tup [ints (pkS l ts s.f (pkN s)).1, ints (pkS l ts s.f (pkN s)).2, .int 0] else .tup [ints [], ints [], .int (pkE l ts s)] := rfl
  have hE : pkE l ts s = if lE l ts ≠ 0 then lE l ts else snE s := rfl
  generalize pkV l ts s = V at hV ⊢
  generalize pkE l ts s = E at hV hE
  have hV0 : ∀ e, e ≠ 0 → E = e → V = .tup [.sl 1 [], .sl 1 [], .int e] := fun e h1 h2 => by rw [hV, h2, if_neg h1]; rfl
  have hsp := lspan_fn s
  have hN : (pkN s : Int) = max (s.t - s.f) 0 := by unfold pkN; omega
  have hok := snE_ok (s := s)
  generalize pkN s = N at *
  obtain ⟨f, u⟩ := s
  simp only at hN hok
  refine ⟨by simp [encSn], _, lcheck_fn l ts, ?_⟩
  simp
  refine ⟨fun z => (hV0 _ z (by rw [hE, if_pos z])).symm, fun z => ?_⟩
  rw [if_neg (by simp [z])] at hE
  obtain ⟨z1, z2, z3⟩ := lE_ok z
  have ho := chkS_ok z1
  have hl := ho.1
  simp [encSn]
  refine ⟨_, hsp, ?_⟩
  simp
  refine ⟨fun y => (hV0 _ y hE).symm, fun y => ?_⟩
  obtain ⟨y1, y2, y3, y4⟩ := hok y
  have hE0 : E = 0 := by rw [hE, y]
  rw [hE0, if_pos rfl] at hV
  refine ⟨?_, rfl, _, rep_fn f l.length hl, ?_⟩
  · simp [AV.mkOk]
    omega
  rw [ints_rep]
  refine loop_nat (σ := Unit) N (fun n _ => [.int (f + n), ints (pkS l ts f n).1, ints (pkS l ts f n).2]) (fun n _ => True) () (by simp [pkS]) trivial ?_ ?_
  · rintro n _ K hn _ hK
    obtain ⟨p1, p2⟩ := pkS_len l ts f n
    have hw : wr (f + (n : Int) + 1) = f + (n : Int) + 1 := wr_id (by omega) (by omega)
    have g := hK [.int (f + ((n + 1 : Nat) : Int)), ints (pkS l ts f (n + 1)).1, ints (pkS l ts f (n + 1)).2] () rfl trivial
    rw [show pkS l ts f (n + 1) = (pkM (cntS l ts (f + n)).1 (pkS l ts f n).1, pkA (cntS l ts (f + n)).1 (pkS l ts f n).1 (pkS l ts f n).2 (f + n)) from rfl] at g
    clear hK
    have hcl := cntS_len l ts (f + n)
    have hct := count_fn l ts (f + n) ho z2
    unfold cntV at hct
    generalize cntS l ts (f + n) = cs at *
    generalize pkS l ts f n = ms at *
    obtain ⟨c, o⟩ := cs
    obtain ⟨m, a⟩ := ms
    simp only at hcl p1 p2 g
    have hlt : f + (n : Int) < u := by omega
    simp [hlt]
    refine ⟨_, hct, ?_⟩
    simp
    have ll1 : (pkM c m).length = m.length := pkM_len _ _
    have ll2 : (pkA c m a (f + n)).length = a.length := pkA_len _ _ _ _
    refine loop_nat (σ := Unit) l.length (fun j _ => [.int (j : Nat), ints ((pkM c m).take j ++ m.drop j), ints ((pkA c m a (f + n)).take j ++ a.drop j)]) (fun j _ => True) () (by simp) trivial ?_ ?_
    · rintro j _ K2 hj _ hK2
      have hwj : wr ((j : Int) + 1) = (j : Int) + 1 := wr_id (by omega) (by omega)
      have g2 := hK2 [.int ((j : Nat) + 1), ints ((pkM c m).take (j + 1) ++ m.drop (j + 1)), ints ((pkA c m a (f + n)).take (j + 1) ++ a.drop (j + 1))] () (by simp) trivial
      clear hK2
      have hcj := ints_at (m := c) (j := j) (by omega)
      have hml := mix_len (A := pkM c m) (B := m) ll1 j
      have hal := mix_len (A := pkA c m a (f + n)) (B := a) ll2 j
      have hmj := ints_at (m := (pkM c m).take j ++ m.drop j) (j := j) (by omega)
      have hmv : ((pkM c m).take j ++ m.drop j).getD j 0 = m.getD j 0 := by rw [List.getD_eq_getElem?_getD, mix_at ll1 (by omega)]; rfl
      rw [hmv] at hmj
      have s1 := mix_set (A := pkM c m) (B := m) ll1 (j := j) (by omega)
      have s2 := mix_set (A := pkA c m a (f + n)) (B := a) ll2 (j := j) (by omega)
      have q1 := mix_same (A := pkM c m) (B := m) ll1 (j := j) (by omega)
      have q2 := mix_same (A := pkA c m a (f + n)) (B := a) ll2 (j := j) (by omega)
      rw [pkM_at (by omega)] at s1 q1
      rw [pkA_at (by omega)] at s2 q2
      have i1 := ints_set (m := (pkM c m).take j ++ m.drop j) (j := j) (by omega) (c.getD j 0)
      have i2 := ints_set (m := (pkA c m a (f + n)).take j ++ a.drop j) (j := j) (by omega) (f + n)
      have hb1 : j < c.length := by omega
      have hb2 : (j : Int) < ((pkM c m).take j ++ m.drop j).length := by omega
      have hb3 : (j : Int) < ((pkA c m a (f + n)).take j ++ a.drop j).length := by omega
      have hb4 : (j : Int) < c.length := by omega
      rw [← s1, ← s2] at g2
      generalize (pkM c m).take j ++ m.drop j = M at *
      generalize (pkA c m a (f + n)).take j ++ a.drop j = A at *
      generalize m.getD j 0 = mv at *
      generalize c.getD j 0 = cv at *
      generalize a.getD j 0 = av at *
      have hjc : j < l.length := hj
      simp [hcl, hjc, hcj, hmj, hwj, hml, hal, p1, p2, i1, i2]
      refine ⟨fun q => ?_, fun q => ?_⟩
      · rw [if_pos q, if_pos q] at g2
        exact g2
      · rw [s1, s2] at g2
        rw [if_neg (by omega)] at q1 q2
        rw [q1 rfl, q2 rfl]
        exact g2
    · rintro _ K2 _
      rw [List.take_of_length_le (by omega), List.take_of_length_le (by omega), List.drop_of_length_le (by omega), List.drop_of_length_le (by omega)]
      rw [show f + ((n + 1 : Nat) : Int) = f + n + 1 by omega] at g
      simp [hcl, hw]
      exact g
  · rintro _ K _
    have hge : ¬ f + (N : Int) < u := by omega
    have f1 := flat_ints (pkS l ts f N).1
    have f2 := flat_ints (pkS l ts f N).2
    simp [hge, hV]
    exact ⟨f1, f2⟩
end Go.Proofs.YtcdbodnhimbddaaGreat
/- sectors: the fact of two squares. -/
namespace Go.Proofs.YtcdbodnhimbddaaGreat
open Go.RowKit
set_option linter.unusedVariables false
set_option linter.unusedSimpArgs false
set_option maxRecDepth 100000
def sqV (x : Int) : Vol := ⟨[⟨x, 0⟩, ⟨x + 10, 0⟩, ⟨x + 10, 10⟩, ⟨x, 10⟩], 0, 100⟩
def twoL : List Se := [⟨⟨#[65]⟩, [sqV 0]⟩, ⟨⟨#[66]⟩, [sqV 10]⟩]
def strT (a b : Int) : List Nd := [⟨0, a, 5, 50, 0, 0⟩, ⟨10, b, 5, 50, 0, 0⟩]
theorem sq_fn (x : Int) (h1 : -1000000 ≤ x) (h2 : x ≤ 1000000) : Fn Tryz.prog 36 [.int x] (.agg [.row 49 2 true, .sc, .sc]) (vol (sqV x)) := by
  refine fn_run mixed 3 (Γ := SecF.Γ) (ann := SecF.ann) Tryz.func36 rfl Tryz.call36 ((SecF.sq_form _ _).mpr ?_)
  have hw : wr (x + 10) = x + 10 := wr_id (by omega) (by omega)
  simp [hw, sqV, encV, lst, encP]
theorem two_fn : Fn Tryz.prog 18 [] (.row 79 2 false) (ses twoL) := by
  refine fn_run mixed 3 (Γ := SecF.Γ) (ann := SecF.ann) Tryz.func18 rfl Tryz.call18 ((SecF.two_form _).mpr ?_)
  refine ⟨_, sq_fn 0 (by omega) (by omega), _, sq_fn 10 (by omega) (by omega), ?_⟩
  rfl
theorem str_fn (a b : Int) : Fn Tryz.prog 19 [.int a, .int b] (.row 53 6 true) (tube (strT a b)) := by
  refine fn_run mixed 3 (Γ := SecF.Γ) (ann := SecF.ann) Tryz.func19 rfl Tryz.call19 ((SecF.straight_form _ _ _).mpr ?_)
  simp [strT, lst, encN]
theorem two_chk : chkS twoL = 0 := by kernel_rfl
theorem fact_path : pthV twoL (strT 5 15) = .tup [vss [⟨0, 0, 5⟩, ⟨1, 6, 10⟩], .int 0] := by kernel_rfl
theorem fact_find : fndV twoL ⟨15, 5⟩ 50 = .tup [.int 1, .int 0] := by kernel_rfl
theorem fact_left : lfV twoL ⟨⟨0, 0⟩, ⟨20, 10⟩, 0, 200⟩ = .tup [.int 40000, .int 0] := by kernel_rfl
theorem fact_twice : chkS (twoL ++ [⟨⟨#[65]⟩, [sqV 0]⟩]) = 7 := by kernel_rfl
theorem fact_name : isName ⟨#[65, 49]⟩ = true := by kernel_rfl
theorem fact_box : bxE ⟨⟨0, 0⟩, ⟨0, 0⟩, 0, 0⟩ = 4 := by kernel_rfl
end Go.Proofs.YtcdbodnhimbddaaGreat
/- loads: the intervals with too many flights; the fact of two squares. -/
namespace Go.Proofs.YtcdbodnhimbddaaGreat
open Go.RowKit
set_option linter.unusedVariables false
set_option linter.unusedSimpArgs false
set_option maxRecDepth 100000
structure Lo where
  s : Int
  f : Int
  t : Int
deriving DecidableEq
def encL (x : Lo) : List AV := [.int x.s, .int x.f, .int x.t]
abbrev los (l : List Lo) : AV := lst 3 encL l
theorem flat_los (l : List Lo) : (los l).flatS := lst_flatS fun x _ z hz => by
  simp [encL] at hz
  rcases hz with rfl | rfl | rfl <;> exact .lit _
theorem los_app (a : List Lo) (x : Lo) : AV.app 3 (los a) (.sl 3 [[.int x.s, .int x.f, .int x.t]]) = los (a ++ [x]) := by simp [lst, AV.app, AV.els, encL]
theorem eqi_fn (l m : List Int) (hl : l.length ≤ maxLen) : Fn Tryz.prog 17 [ints l, ints m] .sc (.bool (decide (l = m))) := by
  refine fn_run mixed 3 (Γ := LoF.Γ) (ann := LoF.ann) Tryz.func17 rfl Tryz.call17 ((LoF.eqi_form _ _ _).mpr ?_)
  unfold maxLen at hl
  simp
  refine ⟨fun h => fun e => h (by rw [e]), fun h => equal_loop l m (by omega) rfl ?_ ?_⟩
  · rintro n x y K hx hy hn h1 h2
    have hw : wr ((n : Int) + 1) = (n : Int) + 1 := wr_id (by omega) (by omega)
    simp [hn, show n < m.length by omega, lst_at hx, lst_at hy, encI, hw]
    refine ⟨fun h => by simpa using h1 h, fun e1 => h2 e1⟩
  · intro K h1
    simpa using h1
theorem eqo_fn (l m : List Lo) (hl : l.length ≤ maxLen) : Fn Tryz.prog 21 [los l, los m] .sc (.bool (decide (l = m))) := by
  refine fn_run mixed 3 (Γ := LoF.Γ) (ann := LoF.ann) Tryz.func21 rfl Tryz.call21 ((LoF.eqo_form _ _ _).mpr ?_)
  unfold maxLen at hl
  simp
  refine ⟨fun h => fun e => h (by rw [e]), fun h => equal_loop l m (by omega) rfl ?_ ?_⟩
  · rintro n ⟨x1, x2, x3⟩ ⟨y1, y2, y3⟩ K hx hy hn h1 h2
    have hw : wr ((n : Int) + 1) = (n : Int) + 1 := wr_id (by omega) (by omega)
    simp [hn, show n < m.length by omega, lst_atAgg hx, lst_atAgg hy, encL, AV.eqPlOk, AV.nePl, hw]
    refine ⟨fun h => by simpa using h1 (by rintro ⟨⟩; simp at h), fun e1 e2 e3 => h2 (by rw [e1, e2, e3])⟩
  · intro K h1
    simpa using h1
/-! ### the order of the intervals -/
def orI : List Int → Int
  | [] => 0
  | x :: r => if x = 0 then orI r else x
theorem or_fn (l : List Int) (hl : l.length ≤ 100) : Fn Tryz.prog 28 [ints l] .sc (.int (orI l)) := by
  refine fn_run mixed 2 (Γ := LoG.Γ) (ann := LoG.ann) Tryz.func28 rfl Tryz.call28 ((LoG.or_form _ _).mpr ?_)
  simp
  refine loop_list (σ := Unit) l (fun n _ => [.int (n : Nat)]) (fun n rest _ => orI l = orI rest) () rfl rfl ?_ ?_
  · rintro n x rest _ K hx hr hn hg hK
    have hw : wr ((n : Int) + 1) = (n : Int) + 1 := wr_id (by omega) (by omega)
    simp [hn, lst_at hx, encI, hw]
    rw [orI] at hg
    exact ⟨fun h => by rw [hg, if_neg h], fun h => hK _ () (by simp) (by rw [hg, if_pos h])⟩
  · intro _ K hg
    simp [hg, orI]
def kL (x : Lo) : Int × Int := (x.f, x.s)
def ltK (a b : Int × Int) : Prop := a.1 < b.1 ∨ (a.1 = b.1 ∧ a.2 < b.2)
def cfL (x y : List AV) : Int := if (x.getD 1 default).num - (y.getD 1 default).num = 0 then (x.getD 0 default).num - (y.getD 0 default).num else (x.getD 1 default).num - (y.getD 1 default).num
theorem cfL_lt (a b : Lo) : cfL (encL a) (encL b) < 0 ↔ ltK (kL a) (kL b) := by
  have e : cfL (encL a) (encL b) = if a.f - b.f = 0 then a.s - b.s else a.f - b.f := rfl
  rw [e]
  unfold ltK kL
  split <;> simp only <;> omega
def inL (x : Lo) : Prop := 0 ≤ x.f ∧ x.f ≤ 1000000 ∧ 0 ≤ x.s ∧ x.s ≤ 1000000
theorem ov1_fn (a b : Lo) (ha : inL a) (hb : inL b) : Fn Tryz.prog 27 [.agg (encL a), .agg (encL b)] .sc (.int (cfL (encL a) (encL b))) := by
  refine fn_run mixed 3 (Γ := LoG.Γ) (ann := LoG.ann) Tryz.func27 rfl Tryz.call27 ((LoG.ov1_form _ _ _).mpr ?_)
  obtain ⟨a1, a2, a3, a4⟩ := ha
  obtain ⟨b1, b2, b3, b4⟩ := hb
  have h1 : wr (a.f - b.f) = a.f - b.f := wr_id (by omega) (by omega)
  have h2 : wr (a.s - b.s) = a.s - b.s := wr_id (by omega) (by omega)
  have q := or_fn [a.f - b.f, a.s - b.s] (by simp)
  have e : cfL (encL a) (encL b) = orI [a.f - b.f, a.s - b.s] := by
    show (if a.f - b.f = 0 then a.s - b.s else a.f - b.f) = _
    simp only [orI]
    split
    · split
      · omega
      · rfl
    · rfl
  rw [e]
  simp [encL, h1, h2]
  exact q
theorem sortL {l : List Lo} (hb : ∀ x ∈ l, inL x) (hs : (l.map kL).Pairwise ltK) (hl : l.length < 4611686018427387904) : FnU Tryz.prog 26 35 3 (los l) [.clo 27 []] false (los l) := by
  have hmem : ∀ x ∈ l.map encL, ∃ a ∈ l, x = encL a := fun x hx => by obtain ⟨a, ha, e⟩ := List.mem_map.1 hx; exact ⟨a, ha, e.symm⟩
  rw [List.pairwise_map] at hs
  refine sortU (P := Tryz.prog) (ρ := sortLo_ren) sortLo Tryz.isAgg35 Tryz.sizeOf35 (cs := []) (cf := cfL) (d := l.map encL) (s := l.map encL) (by omega) Tryz.call27 ?_ ?_ ?_ ?_ ?_ ?_ ?_ ?_
  · intro x hx y hy
    obtain ⟨a, ha, rfl⟩ := hmem x hx
    obtain ⟨b, hb', rfl⟩ := hmem y hy
    exact ov1_fn a b (hb a ha) (hb b hb')
  · intro x hx
    obtain ⟨a, ha, rfl⟩ := hmem x hx
    rw [cfL_lt]; unfold ltK; omega
  · intro x hx y hy z hz
    obtain ⟨a, ha, rfl⟩ := hmem x hx
    obtain ⟨b, hb, rfl⟩ := hmem y hy
    obtain ⟨c, hc, rfl⟩ := hmem z hz
    rw [cfL_lt, cfL_lt, cfL_lt]; unfold ltK; omega
  · intro x hx y hy z hz
    obtain ⟨a, ha, rfl⟩ := hmem x hx
    obtain ⟨b, hb, rfl⟩ := hmem y hy
    obtain ⟨c, hc, rfl⟩ := hmem z hz
    rw [cfL_lt, cfL_lt, cfL_lt]; unfold ltK; omega
  · intro x hx y hy
    obtain ⟨a, ha, rfl⟩ := hmem x hx
    obtain ⟨b, hb, rfl⟩ := hmem y hy
    rw [cfL_lt, cfL_lt]
    intro h1 h2
    obtain ⟨i, hi, rfl⟩ := List.mem_iff_getElem.1 ha
    obtain ⟨j, hj, rfl⟩ := List.mem_iff_getElem.1 hb
    rcases Nat.lt_trichotomy i j with q | q | q
    · exact absurd (List.pairwise_iff_getElem.1 hs i j hi hj q) h1
    · subst q; rfl
    · exact absurd (List.pairwise_iff_getElem.1 hs j i hj hi q) h2
  · simpa using hl
  · exact List.Perm.refl _
  · rw [List.pairwise_map]
    exact hs.imp fun h => by rw [cfL_lt]; unfold ltK at h ⊢; omega
/-! ### the intervals -/
def lo0 : Lo := ⟨0, 0, 0⟩
def lastT (x : Lo) (t : Int) : Lo := ⟨x.s, x.f, t⟩
def ovI (t : Int) (c m : List Int) (s : List Lo × List Int) (j : Nat) : List Lo × List Int :=
  if c.getD j 0 ≤ m.getD j 0 then (s.1, s.2.set j (-1))
  else if 0 ≤ s.2.getD j 0 then (s.1.set (s.2.getD j 0).toNat (lastT (s.1.getD (s.2.getD j 0).toNat lo0) t), s.2)
  else (s.1 ++ [⟨j, t, t⟩], s.2.set j s.1.length)
def ovR (t : Int) (c m : List Int) (s : List Lo × List Int) : Nat → List Lo × List Int
  | 0 => s
  | j + 1 => ovI t c m (ovR t c m s j) j
def ovS (l : List Se) (ts : List (List Nd)) (m : List Int) (f : Int) : Nat → List Lo × List Int
  | 0 => ([], List.replicate l.length (-1))
  | n + 1 => ovR (f + n) (cntS l ts (f + n)).1 m (ovS l ts m f n) l.length
structure OvOk (k : Nat) (b : Nat) (t : Int) (j : Nat) (s : List Lo × List Int) : Prop where
  len : s.2.length = k
  opn : ∀ i, i < k → s.2.getD i 0 < s.1.length
  srt : (s.1.map kL).Pairwise ltK
  bnd : ∀ x ∈ s.1.map kL, 0 ≤ x.1 ∧ 0 ≤ x.2 ∧ x.2 < k ∧ (x.1 < t ∨ (x.1 = t ∧ x.2 < j))
  big : s.1.length ≤ b + j
theorem set_key (o : List Lo) (i : Nat) (t : Int) (hi : i < o.length) : (o.set i (lastT (o.getD i lo0) t)).map kL = o.map kL := by
  rw [List.map_set]
  have : kL (lastT (o.getD i lo0) t) = (o.map kL)[i]'(by simpa using hi) := by
    simp [List.getD_eq_getElem?_getD, hi, kL, lastT]
  rw [this, List.set_getElem_self]
theorem getD_set {a : List Int} {i j : Nat} {v : Int} (h : j < a.length) : (a.set j v).getD i 0 = if i = j then v else a.getD i 0 := by
  rw [List.getD_eq_getElem?_getD, List.getD_eq_getElem?_getD]
  by_cases q : i = j
  · subst q; rw [List.getElem?_set_self h, if_pos rfl]; rfl
  · rw [List.getElem?_set_ne (fun e => q e.symm), if_neg q]
theorem OvOk.step {k b : Nat} {t : Int} {j : Nat} {s : List Lo × List Int} (h : OvOk k b t j s) (c m : List Int) (hj : j < k) (ht : 0 ≤ t) : OvOk k b t (j + 1) (ovI t c m s j) := by
  obtain ⟨o, a⟩ := s
  obtain ⟨h1, h2, h3, h4, h5⟩ := h
  simp only at h1 h2 h3 h4 h5
  unfold ovI
  split
  · refine ⟨by simp [h1], ?_, h3, ?_, by simp; omega⟩
    · intro i hi
      simp only
      rw [getD_set (by omega)]
      split
      · omega
      · exact h2 i hi
    · intro x hx
      obtain ⟨p1, p2, p3, p4⟩ := h4 x hx
      exact ⟨p1, p2, p3, by omega⟩
  · split
    · rename_i q
      have q0 : 0 ≤ a.getD j 0 := q
      have q2 := h2 j hj
      have hi : (a.getD j 0).toNat < o.length := by omega
      refine ⟨h1, ?_, ?_, ?_, by simp; omega⟩
      · intro i hi
        have := h2 i hi
        simpa using this
      · simp only
        rw [set_key _ _ _ hi]; exact h3
      · intro x hx
        simp only at hx
        rw [set_key _ _ _ hi] at hx
        obtain ⟨p1, p2, p3, p4⟩ := h4 x hx
        exact ⟨p1, p2, p3, by omega⟩
    · refine ⟨by simp [h1], ?_, ?_, ?_, by simp; omega⟩
      · intro i hi
        simp only
        rw [getD_set (by omega)]
        have := h2 i hi
        simp only [List.length_append, List.length_cons, List.length_nil]
        split <;> omega
      · simp only [List.map_append, List.map_cons, List.map_nil]
        rw [List.pairwise_append]
        refine ⟨h3, by simp, ?_⟩
        intro x hx y hy
        simp at hy
        subst hy
        obtain ⟨p1, p2, p3, p4⟩ := h4 x hx
        unfold ltK kL
        exact p4
      · intro x hx
        simp only [List.map_append, List.map_cons, List.map_nil, List.mem_append, List.mem_singleton] at hx
        rcases hx with hx | rfl
        · obtain ⟨p1, p2, p3, p4⟩ := h4 x hx
          exact ⟨p1, p2, p3, by omega⟩
        · unfold kL
          simp
          omega
theorem OvOk.run {k b : Nat} {t : Int} {s : List Lo × List Int} (h : OvOk k b t 0 s) (c m : List Int) (ht : 0 ≤ t) : ∀ j, j ≤ k → OvOk k b t j (ovR t c m s j)
  | 0, _ => h
  | j + 1, hj => (OvOk.run h c m ht j (by omega)).step c m (by omega) ht
theorem OvOk.next {k b : Nat} {t : Int} {s : List Lo × List Int} (h : OvOk k b t k s) : OvOk k (b + k) (t + 1) 0 s :=
  ⟨h.len, h.opn, h.srt, fun x hx => by obtain ⟨p1, p2, p3, p4⟩ := h.bnd x hx; exact ⟨p1, p2, p3, by omega⟩, by have := h.big; omega⟩
theorem ovS_ok (l : List Se) (ts : List (List Nd)) (m : List Int) (f : Int) (hf : 0 ≤ f) : ∀ n : Nat, OvOk l.length (n * l.length) (f + n) 0 (ovS l ts m f n)
  | 0 => ⟨by simp [ovS], fun i hi => by
      have : (List.replicate l.length (-1 : Int)).getD i 0 = -1 := by rw [List.getD_eq_getElem?_getD]; simp [hi]
      show (List.replicate l.length (-1 : Int)).getD i 0 < _
      rw [this]; simp [ovS], by simp [ovS], by simp [ovS], by simp [ovS]⟩
  | n + 1 => by
    have h := (ovS_ok l ts m f hf n).run (cntS l ts (f + n)).1 m (by omega) l.length (Nat.le_refl _)
    have h2 := h.next
    rw [show f + ((n + 1 : Nat) : Int) = f + n + 1 by omega, Nat.add_mul, Nat.one_mul]
    exact h2
def ovE (l : List Se) (ts : List (List Nd)) (m : List Int) (s : Sn) : Int := if lE l ts ≠ 0 then lE l ts else if m.length ≠ l.length then 3 else snE s
def ovV (l : List Se) (ts : List (List Nd)) (m : List Int) (s : Sn) : AV := if ovE l ts m s = 0 then .tup [los (ovS l ts m s.f (pkN s)).1, .int 0] else .tup [los [], .int (ovE l ts m s)]
theorem los_set {o : List Lo} {i : Int} (h0 : 0 ≤ i) (h : i < o.length) (t : Int) : AV.setEl (los o) (.lit (.int .i64 i)) 2 [.int t] = los (o.set i.toNat (lastT (o.getD i.toNat lo0) t)) := by
  obtain ⟨j, rfl⟩ : ∃ j : Nat, i = (j : Int) := ⟨i.toNat, by omega⟩
  have hj : j < o.length := by omega
  simp only [Int.toNat_natCast]
  have h2 : o[j]? = some (o.getD j lo0) := by rw [List.getD_eq_getElem?_getD, List.getElem?_eq_getElem hj]; rfl
  exact lst_setEl h2 (by simp [encL, lastT])
theorem over_fn (l : List Se) (ts : List (List Nd)) (m : List Int) (s : Sn) (hm : m.length ≤ maxLen) : Fn Tryz.prog 7 [ses l, tbs ts, ints m, sn s] (.tup [.row 35 3 true, .sc]) (ovV l ts m s) := by
  have e := LoF.over_form (ses l) (tbs ts) (ints m) (sn s) (ovV l ts m s)
  have k := fun h => fn_run mixed 3 (Γ := LoF.Γ) (ann := LoF.ann) Tryz.func7 rfl Tryz.call7 (e.mpr h)
  refine k ?_
  clear k e
  unfold maxLen at hm
  have hV : ovV l ts m s = if ovE l ts m s = 0 then .tup [los (ovS l ts m s.f (pkN s)).1, .int 0] else .tup [los [], .int (ovE l ts m s)] := rfl
  have hE : ovE l ts m s = if lE l ts ≠ 0 then lE l ts else if m.length ≠ l.length then 3 else snE s := rfl
  generalize ovV l ts m s = V at hV ⊢
  generalize ovE l ts m s = E at hV hE
  have hV0 : ∀ e, e ≠ 0 → E = e → V = .tup [.sl 3 [], .int e] := fun e h1 h2 => by rw [hV, h2, if_neg h1]; rfl
  have hsp := lspan_fn s
  have hN : (pkN s : Int) = max (s.t - s.f) 0 := by unfold pkN; omega
  have hok := snE_ok (s := s)
  generalize pkN s = N at *
  obtain ⟨f, u⟩ := s
  simp only at hN hok
  refine ⟨by simp [encSn], _, lcheck_fn l ts, ?_⟩
  simp
  refine ⟨fun z => (hV0 _ z (by rw [hE, if_pos z])).symm, fun z => ?_⟩
  rw [if_neg (by simp [z])] at hE
  obtain ⟨z1, z2, z3⟩ := lE_ok z
  have ho := chkS_ok z1
  have hl := ho.1
  refine ⟨fun x => (hV0 _ (by decide) (by rw [hE, if_pos (by omega)])).symm, fun x => ?_⟩
  rw [if_neg (by omega)] at hE
  simp [encSn]
  refine ⟨_, hsp, ?_⟩
  simp
  refine ⟨fun y => (hV0 _ y hE).symm, fun y => ?_⟩
  obtain ⟨y1, y2, y3, y4⟩ := hok y
  have hE0 : E = 0 := by rw [hE, y]
  rw [hE0, if_pos rfl] at hV
  have hwm : wr (-1) = -1 := by kernel_rfl
  have hrp := rep_fn (-1) l.length hl
  refine ⟨_, hrp, ?_⟩
  refine loop_nat (σ := Unit) N (fun n _ => [.int (f + n), los (ovS l ts m f n).1, ints (ovS l ts m f n).2]) (fun n _ => True) () (by simp [ovS]) trivial ?_ ?_
  · rintro n _ K hn _ hK
    have hw : wr (f + (n : Int) + 1) = f + (n : Int) + 1 := wr_id (by omega) (by omega)
    have g := hK [.int (f + ((n + 1 : Nat) : Int)), los (ovS l ts m f (n + 1)).1, ints (ovS l ts m f (n + 1)).2] () rfl trivial
    rw [show ovS l ts m f (n + 1) = ovR (f + n) (cntS l ts (f + n)).1 m (ovS l ts m f n) l.length from rfl] at g
    clear hK
    have hcl := cntS_len l ts (f + n)
    have hct := count_fn l ts (f + n) ho z2
    unfold cntV at hct
    have hov := (ovS_ok l ts m f y1 n).run (cntS l ts (f + n)).1 m (by omega)
    have hnl : n * l.length ≤ 2000 * 12 := Nat.mul_le_mul (by omega) hl
    generalize n * l.length = B at *
    generalize cntS l ts (f + n) = cs at *
    generalize ovS l ts m f n = os at *
    obtain ⟨c, o⟩ := cs
    simp only at hcl g hov
    have hlt : f + (n : Int) < u := by omega
    simp [hlt]
    refine ⟨_, hct, ?_⟩
    simp
    refine loop_nat (σ := Unit) l.length (fun j _ => [.int (j : Nat), los (ovR (f + n) c m os j).1, ints (ovR (f + n) c m os j).2]) (fun j _ => True) () (by simp [ovR]) trivial ?_ ?_
    · rintro j _ K2 hj _ hK2
      have hwj : wr ((j : Int) + 1) = (j : Int) + 1 := wr_id (by omega) (by omega)
      have g2 := hK2 [.int ((j : Nat) + 1), los (ovR (f + n) c m os (j + 1)).1, ints (ovR (f + n) c m os (j + 1)).2] () (by simp) trivial
      rw [show ovR (f + n) c m os (j + 1) = ovI (f + n) c m (ovR (f + n) c m os j) j from rfl] at g2
      clear hK2
      have hq := hov j (by omega)
      generalize ovR (f + n) c m os j = st at *
      obtain ⟨out, op⟩ := st
      obtain ⟨q1, q2, _, _, q5⟩ := hq
      simp only at q1 q2 q5
      have q2 := q2 j hj
      have hcj := ints_at (m := c) (j := j) (by omega)
      have hmj := ints_at (m := m) (j := j) (by omega)
      have hpj := ints_at (m := op) (j := j) (by omega)
      have i1 := ints_set (m := op) (j := j) (by omega) (-1)
      have i2 := ints_set (m := op) (j := j) (by omega) out.length
      have happ := los_app out ⟨j, f + n, f + n⟩
      simp only at happ
      have hroom : AV.room (los out) (.sl 3 [[.int (j : Nat), .int (f + n), .int (f + n)]]) 24 := by unfold AV.room; simp; omega
      have hls := fun h0 => los_set (o := out) (i := op.getD j 0) h0 q2 (f + n)
      have hb1 : j < c.length := by omega
      have hb2 : j < m.length := by omega
      have hb3 : j < op.length := by omega
      have g21 := fun (a : c.getD j 0 ≤ m.getD j 0) => g2
      unfold ovI at g2
      simp only at g2
      clear g21
      generalize c.getD j 0 = cv at *
      generalize m.getD j 0 = mv at *
      generalize op.getD j 0 = pv at *
      have hjc : j < l.length := hj
      simp [hcl, hjc, hcj, hmj, hpj, hwj, q1, x, i1]
      refine ⟨fun a => ?_, fun a => ⟨fun b => ?_, fun b => ?_⟩⟩
      · rw [if_pos a] at g2
        exact g2
      · rw [if_neg (by omega), if_pos b] at g2
        rw [hls b]
        refine ⟨⟨by omega, by omega⟩, ?_⟩
        exact g2
      · rw [if_neg (by omega), if_neg (by omega)] at g2
        refine ⟨hroom, ?_⟩
        rw [happ, i2]
        exact g2
    · rintro _ K2 _
      rw [show f + ((n + 1 : Nat) : Int) = f + n + 1 by omega] at g
      simp [hcl, hw]
      exact g
  · rintro _ K _
    have hge : ¬ f + (N : Int) < u := by omega
    have hov := ovS_ok l ts m f y1 N
    have hnl : N * l.length ≤ 2000 * 12 := Nat.mul_le_mul (by omega) hl
    generalize N * l.length = B at *
    generalize ovS l ts m f N = st at *
    obtain ⟨out, op⟩ := st
    obtain ⟨q1, q2, q3, q4, q5⟩ := hov
    simp only at q3 q4 q5
    have hso := sortL (l := out) (fun x hx => by
      have := q4 (kL x) (List.mem_map.2 ⟨x, hx, rfl⟩)
      unfold kL at this
      unfold inL
      simp only at this
      omega) q3 (by omega)
    have f1 := flat_los out
    simp [hge, hV]
    exact ⟨hso, f1⟩
/-! ### the fact -/
def entI (m : List Int) (v : Vs) : List Int := if 0 ≤ v.s then m.set v.s.toNat (wr (m.getD v.s.toNat 0 + 1)) else m
theorem entI_len (m : List Int) (v : Vs) : (entI m v).length = m.length := by unfold entI; split <;> simp
theorem entr_fn (l : List Se) (t : List Nd) (vs : List Vs) (hz : lE l [t] = 0) (hp : pthV l t = .tup [vss vs, .int 0]) (hv : ∀ v ∈ vs, v.s < l.length) (hvl : vs.length ≤ 1000000) :
    Fn Tryz.prog 20 [ses l, tbs [t]] (.tup [.row 3 1 true, .sc]) (.tup [ints (vs.foldl entI (List.replicate l.length 0)), .int 0]) := by
  have e := LoF.entr_form (ses l) (tbs [t]) (.tup [ints (vs.foldl entI (List.replicate l.length 0)), .int 0])
  have k := fun h => fn_run mixed 3 (Γ := LoF.Γ) (ann := LoF.ann) Tryz.func20 rfl Tryz.call20 (e.mpr h)
  refine k ?_
  clear k e
  have hc := lcheck_fn l [t]
  rw [hz] at hc
  have hpf := path_fn l t
  rw [hp] at hpf
  have hl := (chkS_ok (lE_ok hz).1).1
  refine ⟨_, hc, ?_⟩
  simp
  refine ⟨?_, rfl, ?_⟩
  · simp [AV.mkOk]
    omega
  obtain ⟨R, hR⟩ : ∃ R, R = vs.foldl entI (List.replicate l.length 0) := ⟨_, rfl⟩
  rw [← hR, ints_rep]
  refine loop_list (σ := List Int) [t] (fun n s => [.int (n : Nat), ints s]) (fun n rest s => (rest = [t] ∧ s = List.replicate l.length 0) ∨ (rest = [] ∧ s = R)) (List.replicate l.length 0) (by simp) (.inl ⟨rfl, rfl⟩) ?_ ?_
  · rintro n x rest s K hx hr hn hg hK
    rcases hg with ⟨h1, h2⟩ | ⟨h1, _⟩
    · injection h1 with h1 h1'
      subst h1 h1' h2
      have g := hK [.int ((n : Nat) + 1), ints R] R (by simp) (.inr ⟨rfl, rfl⟩)
      clear hK
      have hw : wr ((n : Int) + 1) = (n : Int) + 1 := wr_id (by simp at hn; omega) (by simp at hn; omega)
      obtain rfl : n = 0 := by simpa using hn
      have hat := lst_at (s := 1) (enc := encT) (k := .i64) (j := 0) hx
      simp only [Int.natCast_zero] at hat hw g
      simp [hat, encT, hw]
      refine ⟨_, hpf, ?_⟩
      simp
      refine loop_list (σ := List Int) vs (fun i s => [.int (i : Nat), ints s]) (fun i rest s => R = rest.foldl entI s ∧ s.length = l.length) (List.replicate l.length 0) (by simp) ⟨hR, by simp⟩ ?_ ?_
      · rintro i v rest s K2 hvi hri hi ⟨hg, hm⟩ hK2
        have hwi : wr ((i : Int) + 1) = (i : Int) + 1 := wr_id (by omega) (by omega)
        rw [List.foldl_cons] at hg
        have g2 := hK2 [.int ((i : Nat) + 1), ints (entI s v)] (entI s v) (by simp) ⟨hg, by rw [entI_len]; exact hm⟩
        clear hK2
        have hvs := hv v (List.mem_of_getElem? hvi)
        unfold entI at g2
        obtain ⟨vs', vf, vt⟩ := v
        simp only at g2 hvs
        simp [hi, lst_atAgg hvi, encVs, hwi]
        refine ⟨fun q => ?_, fun q => ?_⟩
        · obtain ⟨j, rfl⟩ : ∃ j : Nat, vs' = (j : Int) := ⟨vs'.toNat, by omega⟩
          rw [if_pos q] at g2
          simp only [Int.toNat_natCast] at g2
          have hj : j < s.length := by omega
          have a1 := ints_at (m := s) (j := j) hj
          have a2 := ints_set (m := s) (j := j) hj (wr (s.getD j 0 + 1))
          generalize s.getD j 0 = sv at *
          simp [hj, a1, a2]
          exact g2
        · rw [if_neg (by omega)] at g2
          exact g2
      · rintro s K2 ⟨hg, hm⟩
        simp only [List.foldl_nil] at hg
        subst hg
        simp
        exact g
    · cases h1
  · rintro s K hg
    rcases hg with ⟨h1, _⟩ | ⟨_, h2⟩
    · cases h1
    · subst h2
      have f1 := flat_ints s
      simp
      exact f1
theorem fact_count : cCV twoL [strT 5 15] 3 = .tup [ints [1, 0], .int 0, .int 0] := by kernel_rfl
theorem fact_peaks : pkV twoL [strT 5 15] ⟨0, 11⟩ = .tup [ints [1, 1], ints [0, 6], .int 0] := by kernel_rfl
theorem fact_over : ovV twoL [strT 5 15] [0, 1] ⟨0, 11⟩ = .tup [los [⟨0, 0, 5⟩], .int 0] := by kernel_rfl
theorem fact_ok : lE twoL [strT 5 15] = 0 := by kernel_rfl
theorem lfact_fn : Fn Tryz.prog 6 [] .sc (.bool true) := by
  have e := LoF.lfact_form (.bool true)
  have k := fun h => fn_run mixed 3 (Γ := LoF.Γ) (ann := LoF.ann) Tryz.func6 rfl Tryz.call6 (e.mpr h)
  refine k ?_
  clear k e
  have c1 := cCount_fn twoL [strT 5 15] 3
  rw [fact_count] at c1
  have c2 := peaks_fn twoL [strT 5 15] ⟨0, 11⟩
  rw [fact_peaks] at c2
  have c3 := over_fn twoL [strT 5 15] [0, 1] ⟨0, 11⟩ (by simp [maxLen])
  rw [fact_over] at c3
  have c4 := entr_fn twoL (strT 5 15) [⟨0, 0, 5⟩, ⟨1, 6, 10⟩] fact_ok fact_path (by simp [twoL]) (by simp)
  have e4 : ([⟨0, 0, 5⟩, ⟨1, 6, 10⟩] : List Vs).foldl entI (List.replicate twoL.length 0) = [1, 1] := by kernel_rfl
  rw [e4] at c4
  refine ⟨_, two_fn, _, str_fn 5 15, _, c1, _, c2, _, c3, _, c4, ?_⟩
  have d1 : Fn _ _ _ _ (.bool true) := eqi_fn [1, 0] [1, 0] (by simp [maxLen])
  have d2 : Fn _ _ _ _ (.bool true) := eqi_fn [1, 1] [1, 1] (by simp [maxLen])
  have d3 : Fn _ _ _ _ (.bool true) := eqi_fn [0, 6] [0, 6] (by simp [maxLen])
  have d4 : Fn _ _ _ _ (.bool true) := eqo_fn [⟨0, 0, 5⟩] [⟨0, 0, 5⟩] (by simp [maxLen])
  simp
  refine ⟨_, d1, ?_⟩
  simp
  refine ⟨_, d2, ?_⟩
  simp
  refine ⟨_, d3, ?_⟩
  simp
  refine ⟨_, d4, ?_⟩
  simp
  exact d2
end Go.Proofs.YtcdbodnhimbddaaGreat
/- sectors: the laws at their arguments. -/
namespace Go.Proofs.YtcdbodnhimbddaaGreat
open Go.RowKit
set_option linter.unusedVariables false
set_option linter.unusedSimpArgs false
set_option maxRecDepth 100000
theorem of1 {α : Type} {l : List α} (h : l.length = 1) : ∃ a, l = [a] := by
  match l, h with
  | [a], _ => exact ⟨a, rfl⟩
theorem of2 {α : Type} {l : List α} (h : l.length = 2) : ∃ a b, l = [a, b] := by
  match l, h with
  | [a, b], _ => exact ⟨a, b, rfl⟩
theorem of3 {α : Type} {l : List α} (h : l.length = 3) : ∃ a b c, l = [a, b, c] := by
  match l, h with
  | [a, b, c], _ => exact ⟨a, b, c, rfl⟩
theorem of4 {α : Type} {l : List α} (h : l.length = 4) : ∃ a b c d, l = [a, b, c, d] := by
  match l, h with
  | [a, b, c, d], _ => exact ⟨a, b, c, d, rfl⟩
theorem of6 {α : Type} {l : List α} (h : l.length = 6) : ∃ a b c d e f, l = [a, b, c, d, e, f] := by
  match l, h with
  | [a, b, c, d, e, f], _ => exact ⟨a, b, c, d, e, f, rfl⟩
theorem arg_intT {x : AV} (h : ArgOk Tryz.prog 3 x) : ∃ n, x = .int n ∧ I64 n := c_int (by kernel_rfl) (arg_cell (by kernel_rfl) h)
theorem arg_strT {x : AV} (h : ArgOk Tryz.prog 9 x) : ∃ s : ByteArray, x = .string s ∧ s.size ≤ maxLen := c_str (by kernel_rfl) (arg_cell (by kernel_rfl) h)
theorem arg_pt {x : AV} (h : ArgOk Tryz.prog 49 x) : ∃ q, x = pt q := by
  obtain ⟨cs, rfl, hl, hc⟩ := arg_agg (P := Tryz.prog) (t := 49) (tys := [3, 3]) (by kernel_rfl) (by kernel_rfl) h
  obtain ⟨a, b, rfl⟩ := of2 hl
  obtain ⟨s1, e1, _⟩ := c_int (by kernel_rfl) (hc 0 3 rfl)
  obtain ⟨s2, e2, _⟩ := c_int (by kernel_rfl) (hc 1 3 rfl)
  simp at e1 e2
  exact ⟨⟨s1, s2⟩, by rw [e1, e2]; rfl⟩
theorem arg_tube {x : AV} (h : ArgOk Tryz.prog 47 x) : ∃ l, x = tube l ∧ l.length ≤ maxLen := by
  obtain ⟨l, e, h1, _⟩ := c_lst (P := Tryz.prog) (encA := encN) (Q := fun _ => True) (tys := [3, 3, 3, 3, 3, 3]) (s := 6) (e := 53) (by kernel_rfl) (by kernel_rfl) (by kernel_rfl) (fun y hy hc => by
    obtain ⟨a, b, c, d, e, f, rfl⟩ := of6 hy
    obtain ⟨s1, e1, _⟩ := c_int (by kernel_rfl) (hc 0 3 rfl)
    obtain ⟨s2, e2, _⟩ := c_int (by kernel_rfl) (hc 1 3 rfl)
    obtain ⟨s3, e3, _⟩ := c_int (by kernel_rfl) (hc 2 3 rfl)
    obtain ⟨s4, e4, _⟩ := c_int (by kernel_rfl) (hc 3 3 rfl)
    obtain ⟨s5, e5, _⟩ := c_int (by kernel_rfl) (hc 4 3 rfl)
    obtain ⟨s6, e6, _⟩ := c_int (by kernel_rfl) (hc 5 3 rfl)
    simp at e1 e2 e3 e4 e5 e6
    exact ⟨⟨s1, s2, s3, s4, s5, s6⟩, by rw [e1, e2, e3, e4, e5, e6]; rfl, trivial⟩) (arg_cell (by kernel_rfl) h)
  exact ⟨l, e, h1⟩
theorem arg_ses {x : AV} (h : ArgOk Tryz.prog 22 x) : ∃ l, x = ses l ∧ l.length ≤ maxLen := by
  obtain ⟨l, e, h1, _⟩ := c_lst (P := Tryz.prog) (encA := encE) (Q := fun _ => True) (tys := [9, 77]) (s := 2) (e := 79) (by kernel_rfl) (by kernel_rfl) (by kernel_rfl) (fun y hy hc => by
    obtain ⟨a, b, rfl⟩ := of2 hy
    obtain ⟨s1, e1, _⟩ := c_str (by kernel_rfl) (hc 0 9 rfl)
    obtain ⟨s2, e2, _, _⟩ := c_lst (P := Tryz.prog) (encA := encV) (Q := fun _ => True) (tys := [81, 3, 3]) (s := 3) (e := 83) (by kernel_rfl) (by kernel_rfl) (by kernel_rfl) (fun y hy hc => by
      obtain ⟨a, b, c, rfl⟩ := of3 hy
      obtain ⟨s1, e1, _, _⟩ := c_lst (P := Tryz.prog) (encA := encP) (Q := fun _ => True) (tys := [3, 3]) (s := 2) (e := 49) (by kernel_rfl) (by kernel_rfl) (by kernel_rfl) (fun y hy hc => by
        obtain ⟨a, b, rfl⟩ := of2 hy
        obtain ⟨s1, e1, _⟩ := c_int (by kernel_rfl) (hc 0 3 rfl)
        obtain ⟨s2, e2, _⟩ := c_int (by kernel_rfl) (hc 1 3 rfl)
        simp at e1 e2
        exact ⟨⟨s1, s2⟩, by rw [e1, e2]; rfl, trivial⟩) (hc 0 81 rfl)
      obtain ⟨s2, e2, _⟩ := c_int (by kernel_rfl) (hc 1 3 rfl)
      obtain ⟨s3, e3, _⟩ := c_int (by kernel_rfl) (hc 2 3 rfl)
      simp at e1 e2 e3
      exact ⟨⟨s1, s2, s3⟩, by rw [e1, e2, e3]; rfl, trivial⟩) (hc 1 77 rfl)
    simp at e1 e2
    exact ⟨⟨s1, s2⟩, by rw [e1, e2]; rfl, trivial⟩) (arg_cell (by kernel_rfl) h)
  exact ⟨l, e, h1⟩
end Go.Proofs.YtcdbodnhimbddaaGreat
/- loads: the laws of counts and of peaks. -/
namespace Go.Proofs.YtcdbodnhimbddaaGreat
open Go.RowKit
set_option linter.unusedVariables false
set_option linter.unusedSimpArgs false
set_option maxRecDepth 100000
theorem arg_tbs {x : AV} (h : ArgOk Tryz.prog 23 x) : ∃ l, x = tbs l ∧ l.length ≤ maxLen := by
  obtain ⟨l, e, h1, _⟩ := c_lst (P := Tryz.prog) (encA := encT) (Q := fun _ => True) (tys := [47]) (s := 1) (e := 47) (by kernel_rfl) (by kernel_rfl) (by kernel_rfl) (fun y hy hc => by
    obtain ⟨a, rfl⟩ := of1 hy
    obtain ⟨s1, e1, _, _⟩ := c_lst (P := Tryz.prog) (encA := encN) (Q := fun _ => True) (tys := [3, 3, 3, 3, 3, 3]) (s := 6) (e := 53) (by kernel_rfl) (by kernel_rfl) (by kernel_rfl) (fun y hy hc => by
      obtain ⟨a, b, c, d, e, f, rfl⟩ := of6 hy
      obtain ⟨s1, e1, _⟩ := c_int (by kernel_rfl) (hc 0 3 rfl)
      obtain ⟨s2, e2, _⟩ := c_int (by kernel_rfl) (hc 1 3 rfl)
      obtain ⟨s3, e3, _⟩ := c_int (by kernel_rfl) (hc 2 3 rfl)
      obtain ⟨s4, e4, _⟩ := c_int (by kernel_rfl) (hc 3 3 rfl)
      obtain ⟨s5, e5, _⟩ := c_int (by kernel_rfl) (hc 4 3 rfl)
      obtain ⟨s6, e6, _⟩ := c_int (by kernel_rfl) (hc 5 3 rfl)
      simp at e1 e2 e3 e4 e5 e6
      exact ⟨⟨s1, s2, s3, s4, s5, s6⟩, by rw [e1, e2, e3, e4, e5, e6]; rfl, trivial⟩) (hc 0 47 rfl)
    simp at e1
    exact ⟨s1, by rw [e1]; rfl, trivial⟩) (arg_cell (by kernel_rfl) h)
  exact ⟨l, e, h1⟩
theorem arg_ints {x : AV} (h : ArgOk Tryz.prog 24 x) : ∃ l, x = ints l ∧ l.length ≤ maxLen := by
  obtain ⟨l, e, h1, _⟩ := c_lst (P := Tryz.prog) (encA := encI) (Q := fun _ => True) (tys := [3]) (s := 1) (e := 3) (by kernel_rfl) (by kernel_rfl) (by kernel_rfl) (fun y hy hc => by
    obtain ⟨a, rfl⟩ := of1 hy
    obtain ⟨s1, e1, _⟩ := c_int (by kernel_rfl) (hc 0 3 rfl)
    simp at e1
    exact ⟨s1, by rw [e1]; rfl, trivial⟩) (arg_cell (by kernel_rfl) h)
  exact ⟨l, e, h1⟩
theorem arg_sn {x : AV} (h : ArgOk Tryz.prog 26 x) : ∃ q, x = sn q := by
  obtain ⟨cs, rfl, hl, hc⟩ := arg_agg (P := Tryz.prog) (t := 26) (tys := [3, 3]) (by kernel_rfl) (by kernel_rfl) h
  obtain ⟨a, b, rfl⟩ := of2 hl
  obtain ⟨s1, e1, _⟩ := c_int (by kernel_rfl) (hc 0 3 rfl)
  obtain ⟨s2, e2, _⟩ := c_int (by kernel_rfl) (hc 1 3 rfl)
  simp at e1 e2
  exact ⟨⟨s1, s2⟩, by rw [e1, e2]; rfl⟩
theorem counts_fn (l : List Se) (ts : List (List Nd)) (t : Int) : Fn Tryz.prog 5 [ses l, tbs ts, .int t] .sc (.bool true) := by
  have e := LoF.counts_form (ses l) (tbs ts) (.int t) (.bool true)
  have k := fun h => fn_run mixed 3 (Γ := LoF.Γ) (ann := LoF.ann) Tryz.func5 rfl Tryz.call5 (e.mpr h)
  refine k ?_
  clear k e
  have hct := cCount_fn l ts t
  have hV : cCV l ts t = if cCE l ts t = 0 then .tup [ints (cntS l ts t).1, .int (cntS l ts t).2, .int 0] else .tup [ints [], .int 0, .int (cCE l ts t)] := rfl
  have hE : cCE l ts t = if lE l ts ≠ 0 then lE l ts else if t < 0 ∨ t > 200000 then 12 else 0 := rfl
  generalize cCV l ts t = V at hV hct
  generalize cCE l ts t = E at hV hE
  have hV0 : ∀ e, e ≠ 0 → E = e → V = .tup [.sl 1 [], .int 0, .int e] := fun e h1 h2 => by rw [hV, h2, if_neg h1]; rfl
  refine ⟨_, lfact_fn, by simp, by simp, by simp, _, hct, _, lerr_fn l ts, ?_⟩
  simp
  refine ⟨fun z => ?_, fun z => ?_⟩
  · rw [if_neg (by simp [z])] at hE
    refine ⟨fun a => ?_, fun a => ⟨a, z, fun b => ?_, fun b => ⟨z, ?_⟩⟩⟩
    · rw [hV0 12 (by decide) (by rw [hE, if_pos (.inl a)])]
      simp [a, z]
    · rw [hV0 12 (by decide) (by rw [hE, if_pos (.inr (by omega))])]
      simp
    · have hE0 : E = 0 := by rw [hE, if_neg (by omega)]
      rw [hE0, if_pos rfl] at hV
      obtain ⟨z1, z2, z3⟩ := lE_ok z
      have ho := chkS_ok z1
      have hl := ho.1
      refine ⟨?_, rfl, ?_⟩
      · simp [AV.mkOk]
        omega
      rw [ints_rep]
      refine loop_list (σ := List Int × Int) ts (fun n s => [.int s.2, .int (n : Nat), ints s.1]) (fun n rest s => cntS l ts t = rest.foldl (cSt l t) s ∧ s.1.length = l.length ∧ ∀ x ∈ rest, tE x = 0) (List.replicate l.length 0, 0) (by simp) ⟨rfl, by simp, z3⟩ ?_ ?_
      · rintro n x rest ⟨m, o⟩ K hx hr hn ⟨hg, hm, hok⟩ hK
        have hw : wr ((n : Int) + 1) = (n : Int) + 1 := wr_id (by omega) (by omega)
        rw [List.foldl_cons] at hg
        simp only at hm
        have hx0 := hok x (by simp)
        have g0 : ∀ s', s' = cSt l t (m, o) x → K [.int s'.2, .int ((n : Nat) + 1), ints s'.1] := fun s' hs => hK _ s' (by simp) ⟨by rw [hs]; exact hg, by rw [hs, cSt_len]; exact hm, fun y hy => hok y (by simp [hy])⟩
        clear hg hK hok
        have hat := tat_fn x t
        simp [hn, lst_at hx, encT, hw]
        refine ⟨_, hat, ?_⟩
        rcases tatV_cases x t with ⟨h1, h2⟩ | ⟨h1, h2⟩
        · rw [h2]
          obtain ⟨_, t1, t2⟩ := tatE_ok h1
          obtain ⟨n1, n2, n3⟩ := atN_ok hx0 t1 t2
          have hp := lplace_fn l (atN x t).p (atN x t).h ho n1 n2 n3
          have g1 : 0 ≤ plc l (atN x t).p (atN x t).h → K [.int o, .int ((n : Nat) + 1), ints (m.set (plc l (atN x t).p (atN x t).h).toNat (wr (m.getD (plc l (atN x t).p (atN x t).h).toNat 0 + 1)))] := fun q => g0 (m.set (plc l (atN x t).p (atN x t).h).toNat (wr (m.getD (plc l (atN x t).p (atN x t).h).toNat 0 + 1)), o) (by unfold cSt; rw [if_neg (by simp [h1]), if_pos q])
          have g2 : ¬ 0 ≤ plc l (atN x t).p (atN x t).h → K [.int (wr (o + 1)), .int ((n : Nat) + 1), ints m] := fun q => g0 (m, wr (o + 1)) (by unfold cSt; rw [if_neg (by simp [h1]), if_neg q])
          have hlt : plc l (atN x t).p (atN x t).h < l.length := plc_lt
          clear g0 h2 h1 t1 t2 n1 n2 n3
          generalize atN x t = a at *
          obtain ⟨nt, nx, ny, nh, nr, nb⟩ := a
          simp only [Nd.p] at hp g1 g2 hlt
          generalize plc l ⟨nx, ny⟩ nh = i at *
          simp [encN]
          refine ⟨_, hp, ?_⟩
          simp
          refine ⟨fun q => ?_, fun q => g2 (by omega)⟩
          obtain ⟨j, rfl⟩ : ∃ j : Nat, i = (j : Int) := ⟨i.toNat, by omega⟩
          have hjm : j < m.length := by omega
          have hmj : m[j]? = some (m.getD j 0) := by rw [List.getD_eq_getElem?_getD, List.getElem?_eq_getElem hjm]; rfl
          have g1' := g1 q
          simp only [Int.toNat_natCast] at g1'
          have hse : AV.setEl (ints m) (.lit (.int .i64 (j : Nat))) 0 [.int (wr (m.getD j 0 + 1))] = ints (m.set j (wr (m.getD j 0 + 1))) := lst_setEl hmj (by simp [encI])
          have hgi := lst_at (s := 1) (enc := encI) (k := .i64) (j := 0) hmj
          generalize m.getD j 0 = v at *
          simp [hgi, encI, hse, hjm]
          exact g1'
        · rw [h2]
          have := g0 (m, o) (by unfold cSt; rw [if_pos h1])
          simp [encN, nd0, h1]
          exact this
      · rintro ⟨m, o⟩ K ⟨hg, hm, _⟩
        simp only [List.foldl_nil] at hg
        rw [hg] at hV
        simp only at hm hV
        have heq := eqi_fn m m (by unfold maxLen; omega)
        rw [hV]
        simp
        refine ⟨_, heq, ?_⟩
        simp
  · rw [if_pos (by simp [z])] at hE
    rw [hV0 _ z hE]
    simp [z]
theorem loadCounts_all (xs : List AV) (h1 : xs.length = 3) (h2 : ∀ i, i < 3 → ArgOk Tryz.prog ([22, 23, 3].getD i 0) (xs.getD i default)) : Fn Tryz.prog 5 xs .sc (.bool true) := by
  obtain ⟨a, b, c, rfl⟩ := of3 h1
  obtain ⟨l, e1, _⟩ := arg_ses (h2 0 (by omega))
  obtain ⟨t, e2, _⟩ := arg_tbs (h2 1 (by omega))
  obtain ⟨n, e3, _⟩ := arg_intT (h2 2 (by omega))
  simp at e1 e2 e3
  subst e1 e2 e3
  exact counts_fn l t n
end Go.Proofs.YtcdbodnhimbddaaGreat
/- loads: the law of peaks. -/
namespace Go.Proofs.YtcdbodnhimbddaaGreat
open Go.RowKit
set_option linter.unusedVariables false
set_option linter.unusedSimpArgs false
set_option maxRecDepth 100000
/-! ### counts are not negative -/
theorem getD_set_or (a : List Int) (i j : Nat) (v : Int) : (a.set j v).getD i 0 = v ∨ (a.set j v).getD i 0 = a.getD i 0 := by
  rw [List.getD_eq_getElem?_getD, List.getD_eq_getElem?_getD, List.getElem?_set]
  split
  · split
    · left; rfl
    · right
      rename_i h1 h2
      subst h1
      rw [List.getElem?_eq_none (by omega)]
  · right; rfl
theorem cfold_nn (l : List Se) (t : Int) : ∀ (ts : List (List Nd)) (s : List Int × Int) (b : Nat), b + ts.length ≤ 24 → (∀ i, 0 ≤ s.1.getD i 0 ∧ s.1.getD i 0 ≤ b) → ∀ i, 0 ≤ (ts.foldl (cSt l t) s).1.getD i 0
  | [], s, b, _, h, i => (h i).1
  | x :: r, s, b, hb, h, i => by
    rw [List.foldl_cons]
    rw [List.length_cons] at hb
    refine cfold_nn l t r _ (b + 1) (by omega) ?_ i
    intro i
    have hi := h i
    unfold cSt
    split
    · omega
    · split
      · simp only
        generalize (plc l (atN x t).p (atN x t).h).toNat = j
        have hj := h j
        have hw : wr (s.1.getD j 0 + 1) = s.1.getD j 0 + 1 := wr_id (by omega) (by omega)
        rcases getD_set_or s.1 i j (wr (s.1.getD j 0 + 1)) with q | q
        · rw [q, hw]; omega
        · rw [q]; omega
      · simp only
        omega
theorem cntS_nn (l : List Se) (ts : List (List Nd)) (t : Int) (h : ts.length ≤ 24) (i : Nat) : 0 ≤ (cntS l ts t).1.getD i 0 := by
  refine cfold_nn l t ts _ 0 (by omega) ?_ i
  intro i
  simp only
  have : (List.replicate l.length (0 : Int)).getD i 0 = 0 := by
    rw [List.getD_eq_getElem?_getD, List.getElem?_replicate]
    split <;> rfl
  omega
/-! ### one sector's peak -/
structure Pk (f : Int) (c M A : Nat → Int) : Prop where
  m0 : M 0 = 0
  a0 : A 0 = f
  ms : ∀ n, M (n + 1) = if M n < c n then c n else M n
  aS : ∀ n : Nat, A (n + 1) = if M n < c n then f + n else A n
  nn : ∀ n, 0 ≤ c n
theorem Pk.step {f : Int} {c M A : Nat → Int} (h : Pk f c M A) (n : Nat) : M n ≤ M (n + 1) ∧ c n ≤ M (n + 1) := by
  rw [h.ms]; split <;> omega
theorem Pk.mono {f : Int} {c M A : Nat → Int} (h : Pk f c M A) (n : Nat) : ∀ k, M n ≤ M (n + k)
  | 0 => Int.le_refl _
  | k + 1 => by
    have := h.mono n k
    have := (h.step (n + k)).1
    rw [← Nat.add_assoc]; omega
theorem Pk.keep {f : Int} {c M A : Nat → Int} (h : Pk f c M A) (n : Nat) : ∀ k, M n = M (n + k) → A (n + k) = A n
  | 0, _ => rfl
  | k + 1, e => by
    rw [← Nat.add_assoc] at e ⊢
    have h1 := h.mono n k
    have h2 := h.step (n + k)
    rw [h.aS, if_neg (by omega)]
    exact h.keep n k (by omega)
theorem Pk.le {f : Int} {c M A : Nat → Int} (h : Pk f c M A) {n N : Nat} (hn : n < N) : c n ≤ M N := by
  have h1 := (h.step n).2
  have h2 := h.mono (n + 1) (N - (n + 1))
  rw [show n + 1 + (N - (n + 1)) = N by omega] at h2
  omega
theorem Pk.first {f : Int} {c M A : Nat → Int} (h : Pk f c M A) {n N : Nat} (hn : n < N) (e : c n = M N) (hm : ¬ (0 < n ∧ M n = M N)) : A N = f + n := by
  have h1 := h.mono n (N - n)
  rw [show n + (N - n) = N by omega] at h1
  by_cases q : M n = M N
  · obtain rfl : n = 0 := by omega
    have := h.keep 0 N (by rw [Nat.zero_add]; exact q)
    rw [Nat.zero_add] at this
    rw [this, h.a0]; omega
  · have hlt : M n < c n := by omega
    have e1 : M (n + 1) = c n := by rw [h.ms, if_pos hlt]
    have e2 : A (n + 1) = f + n := by rw [h.aS, if_pos hlt]
    have := h.keep (n + 1) (N - (n + 1)) (by rw [show n + 1 + (N - (n + 1)) = N by omega]; omega)
    rw [show n + 1 + (N - (n + 1)) = N by omega] at this
    rw [this, e2]
theorem Pk.met {f : Int} {c M A : Nat → Int} (h : Pk f c M A) {n N : Nat} (hn : n < N) : decide (0 < n + 1 ∧ M (n + 1) = M N) = (decide (0 < n ∧ M n = M N) || decide (c n = M N)) := by
  have h1 := h.le hn
  have h2 := h.mono n (N - n)
  rw [show n + (N - n) = N by omega] at h2
  have h3 := h.ms n
  have h4 := h.nn n
  have h5 := h.m0
  have key : (0 < n + 1 ∧ M (n + 1) = M N) ↔ ((0 < n ∧ M n = M N) ∨ c n = M N) := by
    rcases Nat.eq_zero_or_pos n with q | q
    · subst q
      rw [h3, h5]
      split <;> omega
    · rw [h3]
      split <;> omega
  rw [decide_eq_decide.2 key, Bool.decide_or]
theorem pk_of (l : List Se) (ts : List (List Nd)) (f : Int) (h : ts.length ≤ 24) {i : Nat} (hi : i < l.length) :
    Pk f (fun n => (cntS l ts (f + n)).1.getD i 0) (fun n => (pkS l ts f n).1.getD i 0) (fun n => (pkS l ts f n).2.getD i 0) where
  m0 := by
    simp only [pkS]
    rw [List.getD_eq_getElem?_getD, List.getElem?_replicate, if_pos hi]; rfl
  a0 := by
    simp only [pkS]
    rw [List.getD_eq_getElem?_getD, List.getElem?_replicate, if_pos hi]; rfl
  ms n := by
    simp only [pkS]
    exact pkM_at (by rw [(pkS_len l ts f n).1]; exact hi)
  aS n := by
    simp only [pkS]
    exact pkA_at (by rw [(pkS_len l ts f n).2]; exact hi)
  nn n := cntS_nn l ts _ h i
/-! ### lists of bools -/
def encBl (b : Bool) : List AV := [.bool b]
abbrev bools (l : List Bool) : AV := lst 1 encBl l
def bl (L : Nat) (g : Nat → Bool) : List Bool := (List.range L).map g
@[simp] theorem bl_len (L : Nat) (g : Nat → Bool) : (bl L g).length = L := by simp [bl]
theorem bl_get {L j : Nat} (g : Nat → Bool) (h : j < L) : (bl L g)[j]? = some (g j) := by simp [bl, h]
theorem bl_congr {L : Nat} {g k : Nat → Bool} (h : ∀ i, i < L → g i = k i) : bl L g = bl L k := List.map_congr_left fun i hi => h i (List.mem_range.1 hi)
theorem bl_set {L j : Nat} (g : Nat → Bool) (v : Bool) : (bl L g).set j v = bl L fun i => if i = j then v else g i := by
  apply List.ext_getElem?
  intro i
  rw [List.getElem?_set]
  simp only [bl_len]
  by_cases hi : i < L
  · rw [bl_get g hi, bl_get _ hi]
    by_cases q : j = i
    · subst q; rw [if_pos rfl, if_pos hi, if_pos rfl]
    · rw [if_neg q, if_neg (fun e => q e.symm)]
  · rw [List.getElem?_eq_none (l := bl L g) (by simp; omega), List.getElem?_eq_none (by simp; omega)]
    split
    · rw [if_neg (by omega)]
    · rfl
theorem bools_rep (n : Nat) : AV.rep 1 (.lit (.int .i64 (n : Nat))) [.lit (.bool false)] = bools (List.replicate n false) := by
  simp [AV.rep, lst, encBl]
theorem cob_fn (l : List Bool) (hl : l.length ≤ 1000) (h : ∀ x ∈ l, x = true) : Fn Tryz.prog 14 [bools l, .bool false] .sc (.bool false) := by
  refine fn_run mixed 3 (Γ := LoF.Γ) (ann := LoF.ann) Tryz.func14 rfl Tryz.call14 ((LoF.cob_form _ _ _).mpr ?_)
  have e1 : Ent Tryz.prog 32 := Tryz.call32
  simp [e1]
  refine loop_list (σ := Unit) l (fun n _ => [.int (n : Nat)]) (fun n rest _ => True) () rfl trivial ?_ ?_
  · rintro n x rest _ K hx hr hn hg hK
    have hw : wr ((n : Int) + 1) = (n : Int) + 1 := wr_id (by omega) (by omega)
    have hx1 := h x (List.mem_of_getElem? hx)
    subst hx1
    have g := hK [.int ((n : Nat) + 1)] () (by simp) trivial
    simp [hn, lst_at hx, encBl, hw]
    exact g
  · rintro _ K _
    simp
theorem peaksL_fn (l : List Se) (ts : List (List Nd)) (s : Sn) : Fn Tryz.prog 4 [ses l, tbs ts, sn s] .sc (.bool true) := by
  have e := LoF.lpeaks_form (ses l) (tbs ts) (sn s) (.bool true)
  have k := fun h => fn_run mixed 3 (Γ := LoF.Γ) (ann := LoF.ann) Tryz.func4 rfl Tryz.call4 (e.mpr h)
  refine k ?_
  clear k e
  have hpk := peaks_fn l ts s
  have hV : pkV l ts s = if pkE l ts s = 0 then .tup [ints (pkS l ts s.f (pkN s)).1, ints (pkS l ts s.f (pkN s)).2, .int 0] else .tup [ints [], ints [], .int (pkE l ts s)] := rfl
  have hE : pkE l ts s = if lE l ts ≠ 0 then lE l ts else snE s := rfl
  generalize pkV l ts s = V at hV hpk
  generalize pkE l ts s = E at hV hE
  have hV0 : ∀ e, e ≠ 0 → E = e → V = .tup [.sl 1 [], .sl 1 [], .int e] := fun e h1 h2 => by rw [hV, h2, if_neg h1]; rfl
  have hsp := sperr_fn s
  have hw0 : wr 0 = 0 := by kernel_rfl
  have hN : (pkN s : Int) = max (s.t - s.f) 0 := by unfold pkN; omega
  have hok := snE_ok (s := s)
  generalize pkN s = N at *
  obtain ⟨f, u⟩ := s
  simp only at hN hok hV
  refine ⟨by simp [encSn], _, lfact_fn, by simp, by simp, by simp, _, hpk, _, lerr_fn l ts, ?_⟩
  simp [encSn]
  refine ⟨fun z => ⟨_, hsp, ?_⟩, fun z => ?_⟩
  · rw [if_neg (by simp [z])] at hE
    simp
    refine ⟨fun y => ?_, fun y => ?_⟩
    · rw [hV0 _ y hE]
      simp [hw0]
    · obtain ⟨y1, y2, y3, y4⟩ := hok y
      rw [y] at hE
      rw [hE, if_pos rfl] at hV
      obtain ⟨z1, z2, z3⟩ := lE_ok z
      have ho := chkS_ok z1
      have hl := ho.1
      obtain ⟨p1, p2⟩ := pkS_len l ts f N
      have hPk := fun i (hi : i < l.length) => pk_of l ts f z2 hi
      rw [hV]
      simp [p1, p2]
      intro hle
      refine ⟨?_, rfl, ?_⟩
      · simp [AV.mkOk]
        omega
      rw [bools_rep]
      refine loop_nat (σ := Unit) N (fun n _ => [.int (f + n), bools (bl l.length fun i => decide (0 < n ∧ (pkS l ts f n).1.getD i 0 = (pkS l ts f N).1.getD i 0))]) (fun n _ => True) () (by simp [bl, List.map_const']) trivial ?_ ?_
      · rintro n _ K hn _ hK
        have hw : wr (f + (n : Int) + 1) = f + (n : Int) + 1 := wr_id (by omega) (by omega)
        have hlt : f + (n : Int) < u := by omega
        have h200 : ¬ 200000 < f + (n : Int) := by omega
        have g := hK [.int (f + ((n + 1 : Nat) : Int)), bools (bl l.length fun i => decide (0 < n + 1 ∧ (pkS l ts f (n + 1)).1.getD i 0 = (pkS l ts f N).1.getD i 0))] () rfl trivial
        rw [show f + ((n + 1 : Nat) : Int) = f + n + 1 by omega] at g
        clear hK
        have hcc := cCount_fn l ts (f + n)
        have hcE : cCE l ts (f + n) = 0 := by unfold cCE; rw [if_neg (by simp [z]), if_neg (by omega)]
        unfold cCV at hcc
        rw [if_pos hcE] at hcc
        have hcl := cntS_len l ts (f + n)
        simp [hlt, h200]
        refine ⟨_, hcc, ?_⟩
        simp [hcl, h200]
        refine loop_nat (σ := Unit) l.length (fun j _ => [.int (j : Nat), bools (bl l.length fun i => if i < j then decide (0 < n + 1 ∧ (pkS l ts f (n + 1)).1.getD i 0 = (pkS l ts f N).1.getD i 0) else decide (0 < n ∧ (pkS l ts f n).1.getD i 0 = (pkS l ts f N).1.getD i 0))]) (fun j _ => True) () (by simp) trivial ?_ ?_
        · rintro j _ K2 hj _ hK2
          have hwj : wr ((j : Int) + 1) = (j : Int) + 1 := wr_id (by omega) (by omega)
          have p := hPk j hj
          have hle := p.le hn
          have hfi := p.first hn
          have hmt := p.met hn
          have g2 := fun v (hv : v = decide (0 < n + 1 ∧ (pkS l ts f (n + 1)).1.getD j 0 = (pkS l ts f N).1.getD j 0)) => hK2 [.int ((j : Nat) + 1), bools ((bl l.length fun i => if i < j then decide (0 < n + 1 ∧ (pkS l ts f (n + 1)).1.getD i 0 = (pkS l ts f N).1.getD i 0) else decide (0 < n ∧ (pkS l ts f n).1.getD i 0 = (pkS l ts f N).1.getD i 0)).set j v)] () (by
            rw [bl_set]
            congr 3
            apply bl_congr
            intro i hi
            by_cases q : i = j
            · subst q; rw [if_pos rfl, if_pos (by omega)]; exact hv
            · rw [if_neg q]
              by_cases q2 : i < j
              · rw [if_pos q2, if_pos (by omega)]
              · rw [if_neg q2, if_neg (by omega)]) trivial
          clear hK2 g
          have hbj := bl_get (L := l.length) (fun i => if i < j then decide (0 < n + 1 ∧ (pkS l ts f (n + 1)).1.getD i 0 = (pkS l ts f N).1.getD i 0) else decide (0 < n ∧ (pkS l ts f n).1.getD i 0 = (pkS l ts f N).1.getD i 0)) hj
          rw [if_neg (Nat.lt_irrefl _)] at hbj
          rw [hmt] at g2
          have hbl := bl_len l.length (fun i => if i < j then decide (0 < n + 1 ∧ (pkS l ts f (n + 1)).1.getD i 0 = (pkS l ts f N).1.getD i 0) else decide (0 < n ∧ (pkS l ts f n).1.getD i 0 = (pkS l ts f N).1.getD i 0))
          generalize (bl l.length fun i => if i < j then decide (0 < n + 1 ∧ (pkS l ts f (n + 1)).1.getD i 0 = (pkS l ts f N).1.getD i 0) else decide (0 < n ∧ (pkS l ts f n).1.getD i 0 = (pkS l ts f N).1.getD i 0)) = B at *
          have hcj := ints_at (m := (cntS l ts (f + n)).1) (j := j) (by omega)
          have hmj := ints_at (m := (pkS l ts f N).1) (j := j) (by omega)
          have haj := ints_at (m := (pkS l ts f N).2) (j := j) (by omega)
          have hba := lst_at (s := 1) (enc := encBl) (k := .i64) (j := 0) hbj
          have hse : ∀ v : Bool, AV.setEl (bools B) (.lit (.int .i64 (j : Nat))) 0 [.bool v] = bools (B.set j v) := fun v => lst_setEl hbj (by simp [encBl])
          generalize (cntS l ts (f + n)).1.getD j 0 = cv at *
          generalize (pkS l ts f N).1.getD j 0 = mv at *
          generalize (pkS l ts f N).2.getD j 0 = av at *
          obtain ⟨b, hb⟩ : ∃ b, b = decide (0 < n ∧ (pkS l ts f n).1.getD j 0 = mv) := ⟨_, rfl⟩
          have hfi2 : cv = mv → b = false → av = f + n := fun q1 q2 => hfi q1 (by rw [q2] at hb; simpa using hb.symm)
          rw [← hb] at hba g2
          clear hb hfi hmt hbj
          have hle2 : ¬ mv < cv := by omega
          have hjl : j < l.length := hj
          simp [hjl, hcl, p1, p2, hcj, hmj, haj, hwj, hle2, hbl, hba, encBl]
          cases b
          · simp [hse]
            refine ⟨fun q => ?_, fun q => ?_⟩
            · have q2 := hfi2 q rfl
              have g3 := g2 true (by simp [q])
              have q3 : (cv == mv) = true := by simp [q]
              simp [q2]
              exact ⟨q, by rw [q3]; exact g3⟩
            · have g3 := g2 false (by simp [q])
              have q3 : (cv == mv) = false := by simp [q]
              exact ⟨q, by rw [q3]; exact g3⟩
          · have g3 := g2 true (by simp)
            simp [hse]
            exact ⟨fun q => ⟨q, g3⟩, fun q => ⟨q, g3⟩⟩
        · rintro _ K2 _
          have hbe := bl_congr (L := l.length) (g := fun i => if i < l.length then decide (0 < n + 1 ∧ (pkS l ts f (n + 1)).1.getD i 0 = (pkS l ts f N).1.getD i 0) else decide (0 < n ∧ (pkS l ts f n).1.getD i 0 = (pkS l ts f N).1.getD i 0)) (k := fun i => decide (0 < n + 1 ∧ (pkS l ts f (n + 1)).1.getD i 0 = (pkS l ts f N).1.getD i 0)) (fun i hi => by simp [hi])
          rw [hbe]
          generalize (bl l.length fun i => decide (0 < n + 1 ∧ (pkS l ts f (n + 1)).1.getD i 0 = (pkS l ts f N).1.getD i 0)) = B at *
          simp [hw]
          exact g
      · rintro _ K _
        have hge : ¬ f + (N : Int) < u := by omega
        have hco := cob_fn (bl l.length fun i => decide (0 < N ∧ (pkS l ts f N).1.getD i 0 = (pkS l ts f N).1.getD i 0)) (by simp; omega) (fun x hx => by
          unfold bl at hx
          obtain ⟨i, _, rfl⟩ := List.mem_map.1 hx
          simp
          omega)
        generalize (bl l.length fun i => decide (0 < N ∧ (pkS l ts f N).1.getD i 0 = (pkS l ts f N).1.getD i 0)) = B at *
        simp [hge]
        refine ⟨_, hco, ?_⟩
        simp
  · rw [if_pos (by simp [z])] at hE
    rw [hV0 _ z hE]
    simp [z, hw0]
theorem loadPeaks_all (xs : List AV) (h1 : xs.length = 3) (h2 : ∀ i, i < 3 → ArgOk Tryz.prog ([22, 23, 26].getD i 0) (xs.getD i default)) : Fn Tryz.prog 4 xs .sc (.bool true) := by
  obtain ⟨a, b, c, rfl⟩ := of3 h1
  obtain ⟨l, e1, _⟩ := arg_ses (h2 0 (by omega))
  obtain ⟨t, e2, _⟩ := arg_tbs (h2 1 (by omega))
  obtain ⟨n, e3⟩ := arg_sn (h2 2 (by omega))
  simp at e1 e2 e3
  subst e1 e2 e3
  exact peaksL_fn l t n
end Go.Proofs.YtcdbodnhimbddaaGreat
/- loads: what the intervals are, in plain Lean. -/
namespace Go.Proofs.YtcdbodnhimbddaaGreat
open Go.RowKit
set_option linter.unusedVariables false
set_option linter.unusedSimpArgs false
set_option maxRecDepth 100000
def wLo (x : Lo) : Int := x.t - x.f + 1
def sumv : List Lo → Int
  | [] => 0
  | x :: r => wLo x + sumv r
theorem sumv_app : ∀ a b : List Lo, sumv (a ++ b) = sumv a + sumv b
  | [], b => by simp [sumv]
  | x :: r, b => by rw [List.cons_append, sumv, sumv, sumv_app r b]; omega
theorem sumv_set : ∀ (l : List Lo) (i : Nat) (y : Lo), i < l.length → sumv (l.set i y) = sumv l - wLo (l.getD i lo0) + wLo y
  | [], i, y, h => by simp at h
  | x :: r, 0, y, h => by
    have e : (x :: r).getD 0 lo0 = x := rfl
    rw [e, List.set_cons_zero, sumv, sumv]; omega
  | x :: r, i + 1, y, h => by
    have e : (x :: r).getD (i + 1) lo0 = r.getD i lo0 := by simp [List.getD_eq_getElem?_getD]
    rw [e, List.set_cons_succ, sumv, sumv, sumv_set r i y (by simpa using h)]; omega
theorem getD_lo {l : List Lo} {i : Nat} (h : i < l.length) : l.getD i lo0 = l[i] := by
  rw [List.getD_eq_getElem?_getD, List.getElem?_eq_getElem h]; rfl
theorem mem_set_or {l : List Lo} {i : Nat} {x : Lo} (y : Lo) (hi : i < l.length) (h : x ∈ l) : x = l.getD i lo0 ∨ x ∈ l.set i y := by
  obtain ⟨b, hb, rfl⟩ := List.mem_iff_getElem.1 h
  by_cases q : i = b
  · subst q; left; rw [getD_lo hb]
  · right
    refine List.mem_iff_getElem.2 ⟨b, by simpa using hb, ?_⟩
    rw [List.getElem_set_ne q]
def covLo (x : Lo) (t : Int) (j : Nat) : Prop := x.s = j ∧ x.f ≤ t ∧ t ≤ x.t
structure OvInv (f : Int) (k : Nat) (ov : Int → Nat → Prop) (t : Int) (j : Nat) (s : List Lo × List Int) (n : Int) : Prop where
  a1 : ∀ x ∈ s.1, f ≤ x.f ∧ x.f ≤ x.t ∧ (x.t < t ∨ (x.t = t ∧ x.s < j))
  a2 : ∀ (t' : Int) (j' : Nat), f ≤ t' → j' < k → (t' < t ∨ (t' = t ∧ j' < j)) → ((∃ x ∈ s.1, covLo x t' j') ↔ ov t' j')
  a3 : ∀ j', j' < k → 0 ≤ s.2.getD j' 0 → (s.1.getD (s.2.getD j' 0).toNat lo0).s = j' ∧ (s.1.getD (s.2.getD j' 0).toNat lo0).t = (if j' < j then t else t - 1)
  a4 : ∀ j', j' < k → s.2.getD j' 0 < 0 → ∀ x ∈ s.1, x.s = j' → x.t < (if j' < j then t else t - 1)
  a5 : s.1.Pairwise (fun y x => y.s = x.s → y.t + 1 < x.f)
  a6 : sumv s.1 = n
theorem OvInv.step {f : Int} {k b : Nat} {ov : Int → Nat → Prop} {t : Int} {j : Nat} {s : List Lo × List Int} {n : Int} (h : OvInv f k ov t j s n) (ho : OvOk k b t j s) (c m : List Int) (hj : j < k) (hf : f ≤ t) (hov : ov t j ↔ ¬ c.getD j 0 ≤ m.getD j 0) :
    OvInv f k ov t (j + 1) (ovI t c m s j) (n + if c.getD j 0 ≤ m.getD j 0 then 0 else 1) := by
  obtain ⟨o, a⟩ := s
  obtain ⟨a1, a2, a3, a4, a5, a6⟩ := h
  obtain ⟨o1, o2, _, _, _⟩ := ho
  simp only at a1 a2 a3 a4 a5 a6 o1 o2
  have hif : ∀ j', j' ≠ j → (if j' < j + 1 then t else t - 1) = (if j' < j then t else t - 1) := fun j' q => by split <;> split <;> omega
  unfold ovI
  split
  · rename_i hc
    refine ⟨fun x hx => ?_, fun t' j' h1 h2 h3 => ?_, fun j' h1 h2 => ?_, fun j' h1 h2 x hx hs => ?_, a5, by simp [a6]⟩
    · obtain ⟨p1, p2, p3⟩ := a1 x hx
      exact ⟨p1, p2, by omega⟩
    · by_cases q : t' = t ∧ j' = j
      · obtain ⟨rfl, rfl⟩ := q
        refine ⟨fun ⟨x, hx, z1, z2, z3⟩ => ?_, fun z => absurd hc (hov.1 z)⟩
        have := a1 x hx
        omega
      · exact a2 t' j' h1 h2 (by omega)
    · simp only at h2 ⊢
      rw [getD_set (by omega)] at h2 ⊢
      split at h2
      · omega
      · rename_i q
        rw [if_neg q]
        have := a3 j' h1 h2
        rw [hif j' q]
        exact this
    · simp only at h2 hx
      rw [getD_set (by omega)] at h2
      by_cases q : j' = j
      · subst q
        rw [if_pos (by omega)]
        have := a1 x hx
        omega
      · rw [if_neg q] at h2
        have := a4 j' h1 h2 x hx hs
        rw [hif j' q]
        exact this
  · rename_i hc
    have hovt := hov.2 hc
    split
    · rename_i hp
      have hp : 0 ≤ a.getD j 0 := hp
      obtain ⟨x3, x4⟩ := a3 j hj hp
      rw [if_neg (Nat.lt_irrefl j)] at x4
      have hlen := o2 j hj
      obtain ⟨i, hi⟩ : ∃ i : Nat, a.getD j 0 = (i : Int) := ⟨(a.getD j 0).toNat, by omega⟩
      rw [hi] at x3 x4 hlen ⊢
      simp only [Int.toNat_natCast] at x3 x4 ⊢
      have hil : i < o.length := by omega
      have hXm : o.getD i lo0 ∈ o := by rw [getD_lo hil]; exact List.getElem_mem hil
      obtain ⟨y1, y2, y3⟩ := a1 _ hXm
      have ha3 := a3
      have hYm : lastT (o.getD i lo0) t ∈ o.set i (lastT (o.getD i lo0) t) := List.mem_iff_getElem.2 ⟨i, by simpa using hil, by simp⟩
      have hY : (lastT (o.getD i lo0) t).s = (o.getD i lo0).s ∧ (lastT (o.getD i lo0) t).f = (o.getD i lo0).f ∧ (lastT (o.getD i lo0) t).t = t := ⟨rfl, rfl, rfl⟩
      have hset := fun (x : Lo) (hx : x ∈ o) => mem_set_or (lastT (o.getD i lo0) t) hil hx
      have hmem : ∀ x, x ∈ o.set i (lastT (o.getD i lo0) t) → x ∈ o ∨ x = lastT (o.getD i lo0) t := fun x hx => List.mem_or_eq_of_mem_set hx
      have hsv := sumv_set o i (lastT (o.getD i lo0) t) hil
      have hget : ∀ i', i' ≠ i → (o.set i (lastT (o.getD i lo0) t)).getD i' lo0 = o.getD i' lo0 := fun i' q => by
        rw [List.getD_eq_getElem?_getD, List.getElem?_set_ne (fun e => q e.symm), ← List.getD_eq_getElem?_getD]
      have hgeti : (o.set i (lastT (o.getD i lo0) t)).getD i lo0 = lastT (o.getD i lo0) t := by
        rw [List.getD_eq_getElem?_getD, List.getElem?_set_self hil]; rfl
      have hpw : (o.set i (lastT (o.getD i lo0) t)).Pairwise (fun y x => y.s = x.s → y.t + 1 < x.f) := by
        rw [List.pairwise_iff_getElem]
        intro p q hp hq hpq
        have hp' : p < o.length := by simpa using hp
        have hq' : q < o.length := by simpa using hq
        have old := List.pairwise_iff_getElem.1 a5 p q hp' hq' hpq
        by_cases e1 : i = q
        · subst e1
          rw [List.getElem_set_self, List.getElem_set_ne (by omega)]
          intro e
          rw [hY.1] at e
          rw [hY.2.1]
          have e4 : (o.getD i lo0).f = o[i].f := by rw [getD_lo hq']
          have e5 : o[p].s = o[i].s := by rw [e, getD_lo hq']
          rw [e4]
          exact old e5
        · rw [List.getElem_set_ne (j := q) e1]
          by_cases e2 : i = p
          · subst e2
            rw [List.getElem_set_self]
            intro e
            rw [hY.1, x3] at e
            have hq2 := a1 _ (List.getElem_mem hq')
            have := old (by rw [← getD_lo hp', x3]; exact e)
            rw [← getD_lo hp', x4] at this
            omega
          · rw [List.getElem_set_ne e2]
            exact old
      generalize lastT (o.getD i lo0) t = Y at hYm hY hset hmem hsv hgeti hpw hget ⊢
      generalize o.getD i lo0 = X at x3 x4 hXm y1 y2 y3 hY hset hsv
      obtain ⟨Y1, Y2, Y3⟩ := hY
      refine ⟨fun x hx => ?_, fun t' j' h1 h2 h3 => ?_, fun j' h1 h2 => ?_, fun j' h1 h2 x hx hs => ?_, hpw, ?_⟩
      · rcases hmem x hx with hx | rfl
        · obtain ⟨p1, p2, p3⟩ := a1 x hx
          exact ⟨p1, p2, by omega⟩
        · exact ⟨by omega, by omega, by omega⟩
      · by_cases q : t' = t ∧ j' = j
        · obtain ⟨rfl, rfl⟩ := q
          exact ⟨fun _ => hovt, fun _ => ⟨Y, hYm, by omega, by omega, by omega⟩⟩
        · refine Iff.trans ⟨fun ⟨x, hx, z1, z2, z3⟩ => ?_, fun ⟨x, hx, z1, z2, z3⟩ => ?_⟩ (a2 t' j' h1 h2 (by omega))
          · rcases hmem x hx with hx | rfl
            · exact ⟨x, hx, z1, z2, z3⟩
            · exact ⟨X, hXm, by omega, by omega, by omega⟩
          · rcases hset x hx with rfl | hx
            · exact ⟨Y, hYm, by omega, by omega, by omega⟩
            · exact ⟨x, hx, z1, z2, z3⟩
      · simp only at h2 ⊢
        by_cases q : j' = j
        · subst q
          rw [hi]
          simp only [Int.toNat_natCast]
          rw [hgeti, if_pos (by omega)]
          exact ⟨by omega, Y3⟩
        · obtain ⟨b1, b2⟩ := ha3 j' h1 h2
          have hne : (a.getD j' 0).toNat ≠ i := fun e => by
            rw [e] at b1
            have h3 := ha3 j hj (by omega)
            rw [hi] at h3
            simp only [Int.toNat_natCast] at h3
            omega
          rw [hget _ hne, hif j' q]
          exact ⟨b1, b2⟩
      · simp only at h2 hx
        have q : j' ≠ j := fun e => by subst e; omega
        rw [hif j' q]
        rcases hmem x hx with hx | rfl
        · exact a4 j' h1 h2 x hx hs
        · omega
      · simp only
        rw [hsv]
        unfold wLo
        omega
    · rename_i hp
      have hp : ¬ 0 ≤ a.getD j 0 := hp
      have h4 := a4 j hj (by omega)
      rw [if_neg (Nat.lt_irrefl j)] at h4
      refine ⟨fun x hx => ?_, fun t' j' h1 h2 h3 => ?_, fun j' h1 h2 => ?_, fun j' h1 h2 x hx hs => ?_, ?_, ?_⟩
      · simp only [List.mem_append, List.mem_singleton] at hx
        rcases hx with hx | rfl
        · obtain ⟨p1, p2, p3⟩ := a1 x hx
          exact ⟨p1, p2, by omega⟩
        · refine ⟨hf, Int.le_refl _, .inr ⟨rfl, ?_⟩⟩
          show (j : Int) < ((j + 1 : Nat) : Int)
          omega
      · by_cases q : t' = t ∧ j' = j
        · obtain ⟨rfl, rfl⟩ := q
          exact ⟨fun _ => hovt, fun _ => ⟨⟨j', t', t'⟩, by simp, rfl, by simp, by simp⟩⟩
        · refine Iff.trans ⟨fun ⟨x, hx, z1, z2, z3⟩ => ?_, fun ⟨x, hx, z1, z2, z3⟩ => ?_⟩ (a2 t' j' h1 h2 (by omega))
          · simp only [List.mem_append, List.mem_singleton] at hx
            rcases hx with hx | rfl
            · exact ⟨x, hx, z1, z2, z3⟩
            · simp only at z1 z2 z3
              omega
          · exact ⟨x, by simp [hx], z1, z2, z3⟩
      · simp only at h2 ⊢
        rw [getD_set (by omega)] at h2 ⊢
        by_cases q : j' = j
        · subst q
          rw [if_pos rfl, if_pos (by omega)]
          have e : (o ++ [(⟨(j' : Int), t, t⟩ : Lo)]).getD (((o.length : Nat) : Int)).toNat lo0 = ⟨j', t, t⟩ := by
            simp [List.getD_eq_getElem?_getD]
          rw [e]
          exact ⟨rfl, rfl⟩
        · rw [if_neg q] at h2 ⊢
          have hl := o2 j' h1
          have h3 := a3 j' h1 h2
          obtain ⟨b', hb'⟩ : ∃ b' : Nat, a.getD j' 0 = (b' : Int) := ⟨(a.getD j' 0).toNat, by omega⟩
          rw [hb'] at hl h3 ⊢
          simp only [Int.toNat_natCast] at h3 ⊢
          have e : (o ++ [(⟨(j : Int), t, t⟩ : Lo)]).getD b' lo0 = o.getD b' lo0 := by
            rw [List.getD_eq_getElem?_getD, List.getElem?_append_left (by omega), ← List.getD_eq_getElem?_getD]
          rw [e, hif j' q]
          exact h3
      · simp only [List.mem_append, List.mem_singleton] at hx
        simp only at h2
        rw [getD_set (by omega)] at h2
        split at h2
        · omega
        · rename_i q
          rw [hif j' q]
          rcases hx with hx | rfl
          · exact a4 j' h1 h2 x hx hs
          · simp only at hs
            omega
      · simp only
        rw [List.pairwise_append]
        refine ⟨a5, by simp, fun y hy x hx => ?_⟩
        simp at hx
        subst hx
        simp only
        intro e
        have := h4 y hy e
        omega
      · simp only
        rw [sumv_app]
        simp [sumv, wLo]
        omega
/-! ### how many -/
def cR (c m : List Int) : Nat → Int
  | 0 => 0
  | j + 1 => cR c m j + if c.getD j 0 ≤ m.getD j 0 then 0 else 1
def cS (l : List Se) (ts : List (List Nd)) (m : List Int) (f : Int) : Nat → Int
  | 0 => 0
  | n + 1 => cS l ts m f n + cR (cntS l ts (f + n)).1 m l.length
theorem cR_le (c m : List Int) : ∀ j : Nat, 0 ≤ cR c m j ∧ cR c m j ≤ j
  | 0 => by simp [cR]
  | j + 1 => by
    have := cR_le c m j
    rw [cR]
    split <;> omega
theorem cS_le (l : List Se) (ts : List (List Nd)) (m : List Int) (f : Int) (hl : l.length ≤ 12) : ∀ n : Nat, 0 ≤ cS l ts m f n ∧ cS l ts m f n ≤ 12 * n
  | 0 => by simp [cS]
  | n + 1 => by
    have h1 := cS_le l ts m f hl n
    have h2 := cR_le (cntS l ts (f + n)).1 m l.length
    rw [cS]
    omega
def ovP (l : List Se) (ts : List (List Nd)) (m : List Int) (t : Int) (j : Nat) : Prop := ¬ (cntS l ts t).1.getD j 0 ≤ m.getD j 0
theorem OvInv.run {f : Int} {k b : Nat} {ov : Int → Nat → Prop} {t : Int} {s : List Lo × List Int} {n : Int} (h : OvInv f k ov t 0 s n) (ho : OvOk k b t 0 s) (c m : List Int) (h0 : 0 ≤ t) (hf : f ≤ t) (hov : ∀ j, j < k → (ov t j ↔ ¬ c.getD j 0 ≤ m.getD j 0)) : ∀ j, j ≤ k → OvInv f k ov t j (ovR t c m s j) (n + cR c m j)
  | 0, _ => by simpa [cR, ovR] using h
  | j + 1, hj => by
    have := (OvInv.run h ho c m h0 hf hov j (by omega)).step (ho.run c m h0 j (by omega)) c m (by omega) hf (hov j (by omega))
    rw [cR, ← Int.add_assoc]
    exact this
theorem OvInv.next {f : Int} {k : Nat} {ov : Int → Nat → Prop} {t : Int} {s : List Lo × List Int} {n : Int} (h : OvInv f k ov t k s n) : OvInv f k ov (t + 1) 0 s n := by
  obtain ⟨a1, a2, a3, a4, a5, a6⟩ := h
  refine ⟨fun x hx => ?_, fun t' j' h1 h2 h3 => a2 t' j' h1 h2 (by omega), fun j' h1 h2 => ?_, fun j' h1 h2 x hx hs => ?_, a5, a6⟩
  · obtain ⟨p1, p2, p3⟩ := a1 x hx
    exact ⟨p1, p2, by omega⟩
  · have := a3 j' h1 h2
    rw [if_pos h1] at this
    rw [if_neg (by omega)]
    exact ⟨this.1, by omega⟩
  · have := a4 j' h1 h2 x hx hs
    rw [if_pos h1] at this
    rw [if_neg (by omega)]
    omega
theorem ovS_inv (l : List Se) (ts : List (List Nd)) (m : List Int) (f : Int) (hf : 0 ≤ f) : ∀ n : Nat, OvInv f l.length (ovP l ts m) (f + n) 0 (ovS l ts m f n) (cS l ts m f n)
  | 0 => by
    refine ⟨by simp [ovS], fun t' j' h1 h2 h3 => by omega, fun j' h1 h2 => ?_, by simp [ovS], by simp [ovS], by simp [ovS, sumv, cS]⟩
    have : (List.replicate l.length (-1 : Int)).getD j' 0 = -1 := by rw [List.getD_eq_getElem?_getD]; simp [h1]
    have h2 : 0 ≤ (List.replicate l.length (-1 : Int)).getD j' 0 := h2
    omega
  | n + 1 => by
    have h := (ovS_inv l ts m f hf n).run (ovS_ok l ts m f hf n) (cntS l ts (f + n)).1 m (by omega) (by omega) (fun j _ => Iff.rfl) l.length (Nat.le_refl _)
    have h2 := h.next
    rw [show f + ((n + 1 : Nat) : Int) = f + n + 1 by omega]
    exact h2
end Go.Proofs.YtcdbodnhimbddaaGreat
/- loads: the law of intervals. -/
namespace Go.Proofs.YtcdbodnhimbddaaGreat
open Go.RowKit
set_option linter.unusedVariables false
set_option linter.unusedSimpArgs false
set_option maxRecDepth 100000
theorem sumv_take {f u : Int} {O : List Lo} (h : ∀ x ∈ O, f ≤ x.f ∧ x.f ≤ x.t ∧ x.t < u) (hu : u - f ≤ 60) : ∀ n : Nat, 0 ≤ sumv (O.take n) ∧ sumv (O.take n) ≤ 60 * n := by
  induction O with
  | nil => intro n; simp [sumv]; omega
  | cons x r ih =>
    intro n
    cases n with
    | zero => simp [sumv]
    | succ n =>
      have h1 := ih (fun y hy => h y (by simp [hy])) n
      have h2 := h x (by simp)
      rw [List.take_succ_cons, sumv]
      unfold wLo
      omega
theorem sumv_snoc {O : List Lo} {n : Nat} {x : Lo} (hx : O[n]? = some x) : sumv (O.take (n + 1)) = sumv (O.take n) + (x.t - x.f + 1) := by
  rw [List.take_add_one, hx, Option.toList_some, sumv_app]
  simp [sumv, wLo]
theorem overs_fn (l : List Se) (ts : List (List Nd)) (m : List Int) (s : Sn) (hm : m.length ≤ maxLen) : Fn Tryz.prog 3 [ses l, tbs ts, ints m, sn s] .sc (.bool true) := by
  have e := LoH.lovers_form (ses l) (tbs ts) (ints m) (sn s) (.bool true)
  have k := fun h => fn_run mixed 3 (Γ := LoH.Γ) (ann := LoH.ann) Tryz.func3 rfl Tryz.call3 (e.mpr h)
  refine k ?_
  clear k e
  have hov := over_fn l ts m s hm
  unfold maxLen at hm
  have hV : ovV l ts m s = if ovE l ts m s = 0 then .tup [los (ovS l ts m s.f (pkN s)).1, .int 0] else .tup [los [], .int (ovE l ts m s)] := rfl
  have hE : ovE l ts m s = if lE l ts ≠ 0 then lE l ts else if m.length ≠ l.length then 3 else snE s := rfl
  generalize ovV l ts m s = V at hV hov
  generalize ovE l ts m s = E at hV hE
  have hV0 : ∀ e, e ≠ 0 → E = e → V = .tup [.sl 3 [], .int e] := fun e h1 h2 => by rw [hV, h2, if_neg h1]; rfl
  have hsp := sperr_fn s
  have hN : (pkN s : Int) = max (s.t - s.f) 0 := by unfold pkN; omega
  have hok := snE_ok (s := s)
  generalize pkN s = N at *
  obtain ⟨f, u⟩ := s
  simp only at hN hok hV
  refine ⟨by simp [encSn], _, lfact_fn, by simp, by simp, by simp, _, hov, _, lerr_fn l ts, ?_⟩
  simp [encSn]
  refine ⟨fun z => ?_, fun z => ?_⟩
  · rw [if_neg (by simp [z])] at hE
    refine ⟨z, fun x => ?_, fun x => ?_⟩
    · rw [hV0 3 (by decide) (by rw [hE, if_pos (by omega)])]
      simp
    · rw [if_neg (by omega)] at hE
      refine ⟨z, _, hsp, ?_⟩
      simp
      refine ⟨fun y => ?_, fun y => ?_⟩
      · rw [hV0 _ y hE]
        simp
      · obtain ⟨y1, y2, y3, y4⟩ := hok y
        rw [y] at hE
        rw [hE, if_pos rfl] at hV
        obtain ⟨z1, z2, z3⟩ := lE_ok z
        have ho := chkS_ok z1
        have hl := ho.1
        have hw1 : wr (u - f) = u - f := wr_id (by omega) (by omega)
        rw [hV]
        simp [hw1]
        intro hle
        refine ⟨hle, fun hu => ?_⟩
        have hcS := cS_le l ts m f hl
        have hfN : f + (N : Int) = u := by omega
        obtain ⟨i1, i2, _, _, i5, i6⟩ := ovS_inv l ts m f y1 N
        obtain ⟨_, _, o3, o4, o5⟩ := ovS_ok l ts m f y1 N
        have hnl : N * l.length ≤ 60 * 12 := Nat.mul_le_mul (by omega) hl
        rw [hfN] at i1 i2 o4
        clear hV hV0 hE hov
        generalize N * l.length = B at o5 hnl
        generalize (ovS l ts m f N).1 = O at *
        have hO : ∀ x ∈ O, f ≤ x.f ∧ x.f ≤ x.t ∧ x.t < u := fun x hx => by
          obtain ⟨p1, p2, p3⟩ := i1 x hx
          obtain ⟨_, p4, _⟩ := o4 (kL x) (List.mem_map.2 ⟨x, hx, rfl⟩)
          unfold kL at p4
          simp only at p4
          exact ⟨p1, p2, by omega⟩
        have hst := sumv_take hO (by omega)
        refine loop_list (σ := Unit) O (fun n _ => [.int (sumv (O.take n)), .int (n : Nat)]) (fun n rest _ => True) () (by simp [sumv]) trivial ?_ ?_
        · rintro n x rest _ K hx hr hn _ hK
          have g := hK [.int (sumv (O.take n) + (x.t - x.f + 1)), .int ((n : Nat) + 1)] () (by rw [sumv_snoc hx]; rfl) trivial
          clear hK
          obtain ⟨b1, b2, b3⟩ := hO x (List.mem_of_getElem? hx)
          have hsn := hst n
          have hw : wr ((n : Int) + 1) = (n : Int) + 1 := wr_id (by omega) (by omega)
          have hw2 : wr (x.t - x.f) = x.t - x.f := wr_id (by omega) (by omega)
          have hw3 : wr (x.t - x.f + 1) = x.t - x.f + 1 := wr_id (by omega) (by omega)
          have hw4 : wr (sumv (O.take n) + (x.t - x.f + 1)) = sumv (O.take n) + (x.t - x.f + 1) := wr_id (by omega) (by omega)
          have hgap : ∀ (k : Nat) (y : Lo), k < n → O[k]? = some y → y.s = x.s → y.t + 1 < x.f := fun k y hk hy => by
            obtain ⟨hk1, rfl⟩ := List.getElem?_eq_some_iff.1 hy
            obtain ⟨hn1, rfl⟩ := List.getElem?_eq_some_iff.1 hx
            exact List.pairwise_iff_getElem.1 i5 k n hk1 hn1 hk
          have hprev : ∀ (y : Lo), 0 < n → O[n - 1]? = some y → ltK (kL y) (kL x) := fun y hk hy => by
            obtain ⟨hk1, rfl⟩ := List.getElem?_eq_some_iff.1 hy
            obtain ⟨hn1, rfl⟩ := List.getElem?_eq_some_iff.1 hx
            have := List.pairwise_iff_getElem.1 o3 (n - 1) n (by simpa using hk1) (by simpa using hn1) (by omega)
            simpa using this
          have hbY : ∀ y ∈ O, f ≤ y.f ∧ y.f ≤ y.t ∧ y.t < u := hO
          obtain ⟨xs, xf, xt⟩ := x
          simp only at b1 b2 b3 hw2 hw3 hw4 hgap g
          rcases Nat.eq_zero_or_pos n with q0 | q0
          · subst q0
            have hat := lst_atAgg (s := 3) (enc := encL) (k := .i64) (j := 0) (m := 3) hx
            simp only [encL] at hat
            have hat0 : AV.atAgg (los O) (.int 0) 0 3 = .agg [.int xs, .int xf, .int xt] := by simpa using hat
            simp at g hw4 hw
            simp [hn, hat0, hw2, hw3, hw4, hw, b2]
            refine loop_nat (σ := Unit) 0 (fun i _ => [.int (i : Nat)]) (fun _ _ => True) () rfl trivial ?_ ?_
            · intro i _ K4 hi; omega
            · rintro _ K4 _
              simp [hw2, hw3, hw4, hw]
              exact g
          · obtain ⟨y, hy⟩ : ∃ y, O[n - 1]? = some y := ⟨_, List.getElem?_eq_getElem (by omega)⟩
            have hpr := hprev y q0 hy
            have hwn : wr ((n : Int) - 1) = (n : Int) - 1 := wr_id (by omega) (by omega)
            have hq : ((n : Int) - 1).toNat = n - 1 := by omega
            obtain ⟨ys, yf, yt⟩ := y
            have hf1 : AV.at (los O) (.lit (.int .i64 ((n : Int) - 1))) 1 = .int yf := by
              rw [lst_atI (by omega) (by rw [hq]; exact hy)]; simp [encL]
            have hf0 : AV.at (los O) (.lit (.int .i64 ((n : Int) - 1))) 0 = .int ys := by
              rw [lst_atI (by omega) (by rw [hq]; exact hy)]; simp [encL]
            unfold ltK kL at hpr
            simp only at hpr
            have hmin : min n O.length = n := by omega
            have hr1 : (1 : Int) ≤ n ∧ (n : Int) - 1 < O.length := ⟨by omega, by omega⟩
            have hnn : n ≤ O.length := by omega
            rcases hpr with hp | ⟨hp, hp2⟩
            · have d1 : ¬ xf < yf := by omega
              have d2 : ¬ xf = yf := by omega
              have d3 : yf ≤ xf := by omega
              simp [hn, lst_atAgg hx, encL, hw2, hw3, hw4, hw, hwn, q0, hf1, hf0, hr1, d1, d2, d3, b2, hnn]
              refine loop_nat (σ := Unit) n (fun i _ => [.int (i : Nat)]) (fun _ _ => True) () rfl trivial ?_ ?_
              · rintro i _ K4 hi _ hK4
                obtain ⟨y', hy'⟩ : ∃ y', O[i]? = some y' := ⟨_, List.getElem?_eq_getElem (by omega)⟩
                have hyt : (O.take n)[i]? = some y' := by rw [List.getElem?_take_of_lt hi]; exact hy'
                have hgp := hgap i y' hi hy'
                obtain ⟨c1, c2, c3⟩ := hO y' (List.mem_of_getElem? hy')
                have g4 := hK4 [.int ((i : Nat) + 1)] () (by simp) trivial
                obtain ⟨ws, wf, wt⟩ := y'
                simp only at hgp c1 c2 c3
                have hwi : wr ((i : Int) + 1) = (i : Int) + 1 := wr_id (by omega) (by omega)
                have hwt : wr (wt + 1) = wt + 1 := wr_id (by omega) (by omega)
                simp [hmin, hi, lst_atAgg hyt, encL, hwi, hwt]
                exact ⟨fun q => ⟨q, hgp q, g4⟩, fun q => ⟨q, g4⟩⟩
              · rintro _ K4 _
                simp [hmin, hw2, hw3, hw4, hw]
                exact g
            · subst hp
              have d1 : ¬ xs ≤ ys := by omega
              simp [hn, lst_atAgg hx, encL, hw2, hw3, hw4, hw, hwn, q0, hf1, hf0, hr1, d1, hp2, b2, hnn]
              refine loop_nat (σ := Unit) n (fun i _ => [.int (i : Nat)]) (fun _ _ => True) () rfl trivial ?_ ?_
              · rintro i _ K4 hi _ hK4
                obtain ⟨y', hy'⟩ : ∃ y', O[i]? = some y' := ⟨_, List.getElem?_eq_getElem (by omega)⟩
                have hyt : (O.take n)[i]? = some y' := by rw [List.getElem?_take_of_lt hi]; exact hy'
                have hgp := hgap i y' hi hy'
                obtain ⟨c1, c2, c3⟩ := hO y' (List.mem_of_getElem? hy')
                have g4 := hK4 [.int ((i : Nat) + 1)] () (by simp) trivial
                obtain ⟨ws, wf, wt⟩ := y'
                simp only at hgp c1 c2 c3
                have hwi : wr ((i : Int) + 1) = (i : Int) + 1 := wr_id (by omega) (by omega)
                have hwt : wr (wt + 1) = wt + 1 := wr_id (by omega) (by omega)
                simp [hmin, hi, lst_atAgg hyt, encL, hwi, hwt]
                exact ⟨fun q => ⟨q, hgp q, g4⟩, fun q => ⟨q, g4⟩⟩
              · rintro _ K4 _
                simp [hmin, hw2, hw3, hw4, hw]
                exact g
        · rintro _ K _
          have e1 : Ent Tryz.prog 11 := Tryz.call11
          have e2 : Ent Tryz.prog 31 := Tryz.call31
          have e3 : Ent Tryz.prog 12 := Tryz.call12
          have hcN := hcS N
          simp
          rw [i6]
          refine loop_nat (σ := Unit) N (fun n _ => [.int (cS l ts m f N - cS l ts m f n), .int (f + n)]) (fun n _ => True) () (by simp [cS]) trivial ?_ ?_
          · rintro n _ K2 hn _ hK2
            have hw : wr (f + (n : Int) + 1) = f + (n : Int) + 1 := wr_id (by omega) (by omega)
            have hlt : f + (n : Int) < u := by omega
            have g2 := hK2 [.int (cS l ts m f N - cS l ts m f (n + 1)), .int (f + ((n + 1 : Nat) : Int))] () rfl trivial
            rw [show f + ((n + 1 : Nat) : Int) = f + n + 1 by omega, show cS l ts m f (n + 1) = cS l ts m f n + cR (cntS l ts (f + n)).1 m l.length from rfl, ← Int.sub_sub] at g2
            clear hK2
            have hcc := cCount_fn l ts (f + n)
            have hcE : cCE l ts (f + n) = 0 := by unfold cCE; rw [if_neg (by simp [z]), if_neg (by omega)]
            unfold cCV at hcc
            rw [if_pos hcE] at hcc
            have hcl := cntS_len l ts (f + n)
            have hcn := hcS n
            have hci := fun j (hj : j < l.length) => i2 (f + n) j (by omega) hj (.inl hlt)
            unfold ovP at hci
            generalize cS l ts m f n = sn at *
            generalize cS l ts m f N = sN at *
            generalize cntS l ts (f + n) = cs at *
            obtain ⟨c, co⟩ := cs
            simp only at hcl g2 hci
            simp [hlt]
            refine ⟨_, hcc, ?_⟩
            simp [hcl]
            refine loop_nat (σ := Unit) l.length (fun j _ => [.int (sN - sn - cR c m j), .int (j : Nat)]) (fun j _ => True) () (by simp [cR]) trivial ?_ ?_
            · rintro j _ K3 hj _ hK3
              have hwj : wr ((j : Int) + 1) = (j : Int) + 1 := wr_id (by omega) (by omega)
              have g3 := hK3 [.int (sN - sn - cR c m (j + 1)), .int ((j : Nat) + 1)] () (by simp) trivial
              clear hK3 g2
              rw [show cR c m (j + 1) = cR c m j + (if c.getD j 0 ≤ m.getD j 0 then 0 else 1) from rfl, ← Int.sub_sub] at g3
              have hcR := cR_le c m j
              have hiff := hci j hj
              have hcj := ints_at (m := c) (j := j) (by omega)
              have hmj := ints_at (m := m) (j := j) (by omega)
              have hws : wr (sN - sn - cR c m j - 1) = sN - sn - cR c m j - 1 := wr_id (by omega) (by omega)
              generalize sN - sn - cR c m j = S at *
              generalize c.getD j 0 = cv at *
              generalize m.getD j 0 = mv at *
              have hjl : j < l.length := hj
              have hjm : j < m.length := by omega
              simp [hjl, e1, e2]
              refine loop_list (σ := Unit) O (fun i _ => [.int (i : Nat)]) (fun i rest _ => (∃ x ∈ O, covLo x (f + n) j) ↔ (∃ x ∈ rest, covLo x (f + n) j)) () rfl Iff.rfl ?_ ?_
              · rintro i x rest _ K4 hx hr hi hg hK4
                have hwi : wr ((i : Int) + 1) = (i : Int) + 1 := wr_id (by omega) (by omega)
                have g4 : ¬ covLo x (f + n) j → K4 [.int ((i : Nat) + 1)] := fun q => hK4 [.int ((i : Nat) + 1)] () (by simp) (hg.trans ⟨fun ⟨y, hy, hc⟩ => by
                  rcases List.mem_cons.1 hy with rfl | hy
                  · exact absurd hc q
                  · exact ⟨y, hy, hc⟩, fun ⟨y, hy, hc⟩ => ⟨y, List.mem_cons_of_mem _ hy, hc⟩⟩)
                have g5 : covLo x (f + n) j → ¬ cv ≤ mv := fun q => hiff.1 (hg.2 ⟨x, List.mem_cons_self, q⟩)
                clear hK4 hg
                obtain ⟨xs, xf, xt⟩ := x
                unfold covLo at g4 g5
                simp only at g4 g5
                simp [hi, lst_atAgg hx, encL, e3, hwi, hwj, hcl, hjl, hjm, hcj, hmj, hws]
                refine ⟨fun q => ⟨q, fun r => ⟨r, fun v => ?_, fun v => g4 (fun h => by omega)⟩, fun r => ⟨r, g4 (fun h => by omega)⟩⟩, fun q => ⟨q, g4 (fun h => q h.1)⟩⟩
                have g6 := g5 ⟨q, r, v⟩
                rw [if_neg g6] at g3
                exact ⟨by omega, g3⟩
              · rintro _ K4 hg
                have hno : cv ≤ mv := Classical.byContradiction fun q => by
                  obtain ⟨y, hy, _⟩ := hg.1 (hiff.2 q)
                  simp at hy
                rw [if_pos hno] at g3
                rw [Int.sub_zero] at g3
                simp [hcl, hjl, hjm, hcj, hmj, hwj]
                exact ⟨hno, g3⟩
            · rintro _ K3 _
              simp [hw]
              exact g2
          · rintro _ K2 _
            have hge : ¬ f + (N : Int) < u := by omega
            simp [hge]
  · rw [if_pos (by simp [z])] at hE
    rw [hV0 _ z hE]
    simp [z]
theorem loadOvers_all (xs : List AV) (h1 : xs.length = 4) (h2 : ∀ i, i < 4 → ArgOk Tryz.prog ([22, 23, 24, 26].getD i 0) (xs.getD i default)) : Fn Tryz.prog 3 xs .sc (.bool true) := by
  obtain ⟨a, b, c, d, rfl⟩ := of4 h1
  obtain ⟨l, e1, _⟩ := arg_ses (h2 0 (by omega))
  obtain ⟨t, e2, _⟩ := arg_tbs (h2 1 (by omega))
  obtain ⟨m, e3, hm⟩ := arg_ints (h2 2 (by omega))
  obtain ⟨n, e4⟩ := arg_sn (h2 3 (by omega))
  simp at e1 e2 e3 e4
  subst e1 e2 e3 e4
  exact overs_fn l t m n hm
end Go.Proofs.YtcdbodnhimbddaaGreat
