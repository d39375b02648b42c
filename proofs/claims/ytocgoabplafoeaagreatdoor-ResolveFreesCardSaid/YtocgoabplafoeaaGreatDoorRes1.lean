/- resolve: roots, distances, separations; the intervals without separation. -/
import Derived.Test.YtocgoabplafoeaaGreatDoorResF
import Derived.Test.YtocgoabplafoeaaGreatDoorTb2
import Derived.Test.YtocgoabplafoeaaGreatDoorName
namespace Go.Proofs.YtocgoabplafoeaaGreatDoor
open Go.RowKit
set_option linter.unusedVariables false
set_option linter.unusedSimpArgs false
set_option maxRecDepth 100000
structure Kd where
  nm : ByteArray
  wk : Int
  cl : Int
  up : Int
  dn : Int
  sl : Int
  fa : Int
def encKd (k : Kd) : List AV := [.string k.nm, .int k.wk, .int k.cl, .int k.up, .int k.dn, .int k.sl, .int k.fa]
abbrev kd (k : Kd) : AV := .agg (encKd k)
def kE (k : Kd) : Int :=
  if isName k.nm = false then 5
  else if k.wk < 0 ∨ k.wk > 3 then 1
  else if k.cl < 1 ∨ k.cl > 60000 ∨ k.up < 1 ∨ k.up > 200 ∨ k.dn < 1 ∨ k.dn > 200 ∨ k.sl < 1 ∨ k.sl > 400 ∨ k.fa < 1 ∨ k.fa > 400 then 4
  else if k.sl > k.fa then 3 else 0
theorem acheck_fn (k : Kd) : Fn Tryz.prog 20 [kd k] .sc (.int (kE k)) := by
  refine fn_run mixed 3 (Γ := ResF.Γ) (ann := ResF.ann) Tryz.func20 rfl Tryz.call20 ((ResF.acheck_form _ _).mpr ?_)
  have e1 : Ent Tryz.prog 29 := Tryz.call29
  have hn := name_fn k.nm
  obtain ⟨E, hE⟩ : ∃ E, E = kE k := ⟨_, rfl⟩
  rw [← hE]
  unfold kE at hE
  obtain ⟨nm, wk, cl, up, dn, sl, fa⟩ := k
  simp only at hn hE
  generalize isName nm = b at *
  refine ⟨by simp [encKd], _, hn, ?_⟩
  have g5 : b = false → E = 5 := fun h => by rw [hE, if_pos h]
  have g1 : b = true → (wk < 0 ∨ wk > 3) → E = 1 := fun h h1 => by rw [hE, if_neg (by simp [h]), if_pos h1]
  have g4 : b = true → 0 ≤ wk → wk ≤ 3 → (cl < 1 ∨ cl > 60000 ∨ up < 1 ∨ up > 200 ∨ dn < 1 ∨ dn > 200 ∨ sl < 1 ∨ sl > 400 ∨ fa < 1 ∨ fa > 400) → E = 4 := fun h h1 h2 h3 => by rw [hE, if_neg (by simp [h]), if_neg (by omega), if_pos h3]
  have g3 : b = true → 0 ≤ wk → wk ≤ 3 → ¬ (cl < 1 ∨ cl > 60000 ∨ up < 1 ∨ up > 200 ∨ dn < 1 ∨ dn > 200 ∨ sl < 1 ∨ sl > 400 ∨ fa < 1 ∨ fa > 400) → sl > fa → E = 3 := fun h h1 h2 h3 h4 => by rw [hE, if_neg (by simp [h]), if_neg (by omega), if_neg h3, if_pos h4]
  have g0 : b = true → 0 ≤ wk → wk ≤ 3 → ¬ (cl < 1 ∨ cl > 60000 ∨ up < 1 ∨ up > 200 ∨ dn < 1 ∨ dn > 200 ∨ sl < 1 ∨ sl > 400 ∨ fa < 1 ∨ fa > 400) → ¬ sl > fa → E = 0 := fun h h1 h2 h3 h4 => by rw [hE, if_neg (by simp [h]), if_neg (by omega), if_neg h3, if_neg h4]
  clear hE
  cases b
  · have := g5 rfl
    simp [this]
  · simp [encKd, e1]
    clear g5
    replace g1 := g1 rfl
    replace g4 := g4 rfl
    replace g3 := g3 rfl
    replace g0 := g0 rfl
    repeat' (first | refine And.intro ?_ ?_ | intro _)
    all_goals (first | assumption | omega)
def levT : List Nd := [⟨0, 0, 0, 9000, 100, 50⟩, ⟨100, 10000, 0, 9000, 100, 50⟩]
def jetK : Kd := ⟨⟨#[74, 69, 84]⟩, 1, 40000, 50, 40, 50, 300⟩
theorem level_fn : Fn Tryz.prog 8 [] (.row 58 6 true) (tube levT) := by
  have e := ResF.level_form (tube levT)
  have k := fun h => fn_run mixed 3 (Γ := ResF.Γ) (ann := ResF.ann) Tryz.func8 rfl Tryz.call8 (e.mpr h)
  refine k ?_
  clear k e
  exact ⟨flat_tube levT, rfl⟩
theorem jet_fn : Fn Tryz.prog 9 [] .sc (kd jetK) := by
  have e := ResF.jet_form (kd jetK)
  have k := fun h => fn_run mixed 3 (Γ := ResF.Γ) (ann := ResF.ann) Tryz.func9 rfl Tryz.call9 (e.mpr h)
  refine k ?_
  clear k e
  simp [jetK, encKd]
theorem climbed_fn (n : Int) : Fn Tryz.prog 14 [.int n] .sc (.agg [.string ⟨#[65, 49]⟩, .int 0, .int n, .string ⟨#[]⟩]) := by
  have e := ResF.climbed_form (.int n) (.agg [.string ⟨#[65, 49]⟩, .int 0, .int n, .string ⟨#[]⟩])
  have k := fun h => fn_run mixed 3 (Γ := ResF.Γ) (ann := ResF.ann) Tryz.func14 rfl Tryz.call14 (e.mpr h)
  refine k ?_
  clear k e
  simp
def stT (x : Int) : List Nd := [⟨0, x, 0, 0, 0, 0⟩, ⟨10, x, 0, 0, 0, 0⟩]
theorem still_fn (x : Int) : Fn Tryz.prog 11 [.int x] (.row 58 6 true) (tube (stT x)) := by
  have e := ResF.still_form (.int x) (tube (stT x))
  have k := fun h => fn_run mixed 3 (Γ := ResF.Γ) (ann := ResF.ann) Tryz.func11 rfl Tryz.call11 (e.mpr h)
  refine k ?_
  clear k e
  exact ⟨by simp, flat_tube (stT x), rfl⟩
structure Sp where
  la : Int
  ve : Int
def encSp (s : Sp) : List AV := [.int s.la, .int s.ve]
abbrev sp (s : Sp) : AV := .agg (encSp s)
theorem near_fn : Fn Tryz.prog 12 [] .sc (sp ⟨100, 1000⟩) := by
  have e := ResF.near_form (sp ⟨100, 1000⟩)
  have k := fun h => fn_run mixed 3 (Γ := ResF.Γ) (ann := ResF.ann) Tryz.func12 rfl Tryz.call12 (e.mpr h)
  refine k ?_
  clear k e
  simp [encSp]
def sepE (s : Sp) : Int := if s.la < 0 ∨ s.la > 1000000 ∨ s.ve < 0 ∨ s.ve > 60000 then 4 else 0
theorem csep_fn (s : Sp) : Fn Tryz.prog 17 [sp s] .sc (.int (sepE s)) := by
  refine fn_run mixed 3 (Γ := ResF.Γ) (ann := ResF.ann) Tryz.func17 rfl Tryz.call17 ((ResF.csep_form _ _).mpr ?_)
  obtain ⟨la, ve⟩ := s
  simp [encSp]
  have h4 : (la < 0 ∨ la > 1000000 ∨ ve < 0 ∨ ve > 60000) → 4 = sepE ⟨la, ve⟩ := fun h => by unfold sepE; rw [if_pos h]
  have h0 : ¬ (la < 0 ∨ la > 1000000 ∨ ve < 0 ∨ ve > 60000) → 0 = sepE ⟨la, ve⟩ := fun h => by unfold sepE; rw [if_neg h]
  refine ⟨fun a => ⟨a, h4 (by omega)⟩, fun a => ⟨a, fun b => ⟨b, h4 (by omega)⟩, fun b => ⟨b, fun c => ⟨c, h4 (by omega)⟩, fun c => ⟨c, fun d => h4 (by omega), fun d => h0 (by omega)⟩⟩⟩⟩
def rbin (n : Int) : Nat → Int → Int → Int
  | 0, lo, _ => lo
  | f + 1, lo, hi => if lo < hi then (if (lo + (hi - lo + 1) / 2) * (lo + (hi - lo + 1) / 2) ≤ n then rbin n f (lo + (hi - lo + 1) / 2) hi else rbin n f lo (lo + (hi - lo + 1) / 2 - 1)) else lo
def rootI (n : Int) : Int := if n ≤ 0 then 0 else rbin n 40 0 3037000499
theorem rbin_bd (n : Int) : ∀ (f : Nat) (lo hi : Int), lo ≤ hi → lo ≤ rbin n f lo hi ∧ rbin n f lo hi ≤ hi
  | 0, lo, hi, h => ⟨Int.le_refl _, h⟩
  | f + 1, lo, hi, h => by
    rw [rbin]
    split
    · split
      · have := rbin_bd n f (lo + (hi - lo + 1) / 2) hi (by omega); omega
      · have := rbin_bd n f lo (lo + (hi - lo + 1) / 2 - 1) (by omega); omega
    · omega
theorem rootI_bd (n : Int) : 0 ≤ rootI n ∧ rootI n ≤ 3037000499 := by
  unfold rootI
  split
  · omega
  · exact rbin_bd n 40 0 3037000499 (by omega)
theorem sq_bd {r : Int} (h0 : 0 ≤ r) (h1 : r ≤ 3037000499) : 0 ≤ r * r ∧ r * r ≤ 9223372030926249001 := by
  have a1 := Int.mul_le_mul h1 h1 h0 (by omega)
  have a2 := Int.mul_nonneg h0 h0
  exact ⟨a2, by simpa using a1⟩
theorem root_fn (n : Int) : Fn Tryz.prog 57 [.int n] .sc (.int (rootI n)) := by
  have e := ResF.root_form (.int n) (.int (rootI n))
  have k := fun h => fn_run mixed 3 (Γ := ResF.Γ) (ann := ResF.ann) Tryz.func57 rfl Tryz.call57 (e.mpr h)
  refine k ?_
  clear k e
  refine ⟨by simp, by simp, fun h => ?_, fun h => ?_⟩
  · have h : n ≤ 0 := by simpa using h
    unfold rootI
    rw [if_pos h]
    simp
  · have h : ¬ n ≤ 0 := by simpa using h
    have hR : rootI n = rbin n 40 0 3037000499 := by unfold rootI; rw [if_neg h]
    rw [hR]
    generalize hr : rbin n 40 0 3037000499 = R
    refine loop_of (τ := Int × Int × Nat) (fun s => [.int s.1, .int s.2.1]) (fun s => 0 ≤ s.1 ∧ s.1 ≤ s.2.1 ∧ s.2.1 ≤ 3037000499 ∧ s.2.1 - s.1 < (2 ^ s.2.2 : Nat) ∧ rbin n s.2.2 s.1 s.2.1 = R) (fun s => (s.2.1 - s.1).toNat) (0, 3037000499, 40) rfl ⟨by simp, by simp, by simp, by simp, hr⟩ ?_
    rintro ⟨lo, hi, f⟩ ⟨i1, i2, i3, i4, i5⟩
    simp only at i1 i2 i3 i4 i5
    by_cases hlt : lo < hi
    · obtain ⟨g, rfl⟩ : ∃ g, f = g + 1 := ⟨f - 1, by
        rcases Nat.eq_zero_or_pos f with z | z
        · subst z; simp at i4; omega
        · omega⟩
      rw [Nat.pow_succ] at i4
      generalize hP : 2 ^ g = P at i4
      have hP' : (2 : Int) ^ g = (P : Int) := by rw [← hP]; simp
      rw [rbin, if_pos hlt] at i5
      have e1 : (hi - lo + 1).tdiv 2 = (hi - lo + 1) / 2 := Int.tdiv_eq_ediv_of_nonneg (by omega)
      have w1 : wr (hi - lo) = hi - lo := wr_id (by omega) (by omega)
      have w2 : wr (hi - lo + 1) = hi - lo + 1 := wr_id (by omega) (by omega)
      have w3 : wr ((hi - lo + 1) / 2) = (hi - lo + 1) / 2 := wr_id (by omega) (by omega)
      have w4 : wr (lo + (hi - lo + 1) / 2) = lo + (hi - lo + 1) / 2 := wr_id (by omega) (by omega)
      generalize hm : lo + (hi - lo + 1) / 2 = m at *
      have hmb : lo < m ∧ m ≤ hi ∧ 2 * (hi - m) ≤ hi - lo ∧ 2 * (m - 1 - lo) ≤ hi - lo := by omega
      have hsq := sq_bd (r := m) (by omega) (by omega)
      have w5 : wr (m * m) = m * m := wr_id (by omega) (by omega)
      have w6 : wr (m - 1) = m - 1 := wr_id (by omega) (by omega)
      simp [hlt, w1, w2, w3, hm, w4, w5, w6, e1]
      refine ⟨fun q => ?_, fun q => ?_⟩
      · rw [if_pos q] at i5
        exact ⟨_, by omega, m, hi, ⟨rfl, rfl⟩, ⟨⟨by omega, by omega, i3, g, by rw [hP']; omega, i5⟩, rfl⟩⟩
      · rw [if_neg (by omega)] at i5
        exact ⟨_, by omega, lo, m - 1, ⟨rfl, rfl⟩, ⟨⟨by omega, by omega, by omega, g, by rw [hP']; omega, i5⟩, rfl⟩⟩
    · have : rbin n f lo hi = lo := by cases f <;> simp [rbin, hlt]
      rw [this] at i5
      subst i5
      simp [hlt]
def disA (a b : Pt) : Int := rootI (sqrP a b)
def disB (a b : Pt) : Int := if disA a b * disA a b < sqrP a b then disA a b + 1 else disA a b
theorem dist_fn (a b : Pt) : Fn Tryz.prog 36 [pt a, pt b] (.tup [.sc, .sc]) (.tup [.int (disA a b), .int (disB a b)]) := by
  have e := ResF.dist_form (pt a) (pt b) (.tup [.int (disA a b), .int (disB a b)])
  have k := fun h => fn_run mixed 3 (Γ := ResF.Γ) (ann := ResF.ann) Tryz.func36 rfl Tryz.call36 (e.mpr h)
  refine k ?_
  clear k e
  have hb := rootI_bd (sqrP a b)
  have hsq := sq_bd hb.1 hb.2
  have hB : disB a b = if disA a b * disA a b < sqrP a b then disA a b + 1 else disA a b := rfl
  have hA : disA a b = rootI (sqrP a b) := rfl
  rw [hB, hA]
  refine ⟨by simp [encP], by simp [encP], _, sqr_fn a b, _, root_fn _, ?_⟩
  generalize sqrP a b = n at *
  generalize rootI n = R at *
  have w1 : wr (R * R) = R * R := wr_id (by omega) (by omega)
  have w2 : wr (R + 1) = R + 1 := wr_id (by omega) (by omega)
  simp [w1, w2]
  exact ⟨fun q q2 => by omega, fun q q2 => by omega⟩
def mxJ (a b : Int) : Int := if b > a then b else a
def sepB (a b : Nd) (s : Sp) : Bool := decide (wr (wr (disA a.p b.p - a.r) - b.r) ≥ s.la) || decide (wr (wr (mxJ (wr (a.h - b.h)) (wr (b.h - a.h)) - a.b) - b.b) ≥ s.ve)
theorem sep_fn (a b : Nd) (s : Sp) : Fn Tryz.prog 64 [nd a, nd b, sp s] .sc (.bool (sepB a b s)) := by
  have e := ResF.sep_form (nd a) (nd b) (sp s) (.bool (sepB a b s))
  have k := fun h => fn_run mixed 3 (Γ := ResF.Γ) (ann := ResF.ann) Tryz.func64 rfl Tryz.call64 (e.mpr h)
  refine k ?_
  clear k e
  have hd := dist_fn a.p b.p
  have hS : sepB a b s = (decide (wr (wr (disA a.p b.p - a.r) - b.r) ≥ s.la) || decide (wr (wr (mxJ (wr (a.h - b.h)) (wr (b.h - a.h)) - a.b) - b.b) ≥ s.ve)) := rfl
  rw [hS]
  generalize disA a.p b.p = D at *
  generalize disB a.p b.p = D2 at *
  obtain ⟨at_, ax, ay, ah, ar, ab⟩ := a
  obtain ⟨bt, bx, b_, bh, br, bb⟩ := b
  obtain ⟨la, ve⟩ := s
  refine ⟨by simp [encN], by simp [encN], by simp [encSp], _, hd, ?_⟩
  simp [encN, encSp]
  refine ⟨fun h => ⟨h, .inl h⟩, fun h => ⟨h, ?_⟩⟩
  have : ¬ la ≤ wr (wr (D - ar) - br) := by omega
  simp [this, mxJ]
/-- The start and the end of what two tubes have in common. -/
def comA (a b : List Nd) : Int := mxJ (a.getD 0 default).t (b.getD 0 default).t
def comB (a b : List Nd) : Int := if (b.getD (b.length - 1) default).t < (a.getD (a.length - 1) default).t then (b.getD (b.length - 1) default).t else (a.getD (a.length - 1) default).t
theorem ends_of {a : List Nd} (h : tE a = 0) : ∃ x y, a[0]? = some x ∧ a[a.length - 1]? = some y ∧ a.getD 0 default = x ∧ a.getD (a.length - 1) default = y ∧ 0 ≤ x.t ∧ x.t ≤ 200000 ∧ 0 ≤ y.t ∧ y.t ≤ 200000 ∧ 0 < a.length ∧ a.length ≤ 64 := by
  obtain ⟨hp, h64, hG⟩ := tE_ok h
  obtain ⟨x, hx⟩ : ∃ x, a[0]? = some x := ⟨_, List.getElem?_eq_getElem (by omega)⟩
  obtain ⟨y, hy⟩ : ∃ y, a[a.length - 1]? = some y := ⟨_, List.getElem?_eq_getElem (by omega)⟩
  have h1 := (tG_get hG hx).2.1
  have h2 := (tG_get hG hy).2.1
  exact ⟨x, y, hx, hy, by rw [List.getD_eq_getElem?_getD, hx]; rfl, by rw [List.getD_eq_getElem?_getD, hy]; rfl, h1.1, h1.2.1, h2.1, h2.2.1, hp, h64⟩
theorem common_fn (a b : List Nd) (ha : tE a = 0) (hb : tE b = 0) : Fn Tryz.prog 63 [tube a, tube b] (.tup [.sc, .sc]) (.tup [.int (comA a b), .int (comB a b)]) := by
  have e := ResF.common_form (tube a) (tube b) (.tup [.int (comA a b), .int (comB a b)])
  have k := fun h => fn_run mixed 3 (Γ := ResF.Γ) (ann := ResF.ann) Tryz.func63 rfl Tryz.call63 (e.mpr h)
  refine k ?_
  clear k e
  obtain ⟨x, y, hx, hy, hxd, hyd, x1, x2, y1, y2, la, la2⟩ := ends_of ha
  obtain ⟨z, u, hz, hu, hzd, hud, z1, z2, u1, u2, lb, lb2⟩ := ends_of hb
  have wa : wr ((a.length : Int) - 1) = ((a.length - 1 : Nat) : Int) := by rw [wr_id (by omega) (by omega)]; omega
  have wb : wr ((b.length : Int) - 1) = ((b.length - 1 : Nat) : Int) := by rw [wr_id (by omega) (by omega)]; omega
  have hza : AV.at (tube a) (.lit (.int .i64 0)) 0 = .int x.t := by have := lst_at (s := 6) (enc := encN) (k := .i64) (j := 0) hx; simpa [encN] using this
  have hzb : AV.at (tube b) (.lit (.int .i64 0)) 0 = .int z.t := by have := lst_at (s := 6) (enc := encN) (k := .i64) (j := 0) hz; simpa [encN] using this
  have hF : comA a b = if z.t > x.t then z.t else x.t := by unfold comA mxJ; rw [hxd, hzd]
  have hL : comB a b = if u.t < y.t then u.t else y.t := by unfold comB; rw [hyd, hud]
  have hal : ((a.length - 1 : Nat) : Int) < a.length := by omega
  have hbl : ((b.length - 1 : Nat) : Int) < b.length := by omega
  rw [hF, hL]
  simp only [hza, hzb, lst_len, av_subt, wr_eq, wa, wb, lst_at hy, lst_at hu, encN, List.getD_cons_zero]
  refine ⟨by simp, by simp; omega, by simp, by simp; omega, by simp, by simp, by simp, by simp, by simp, by simp; omega, by simp, by simp, by simp, by simp; omega, by simp, by simp, .lit _, .lit _, rfl⟩
end Go.Proofs.YtocgoabplafoeaaGreatDoor
