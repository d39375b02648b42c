/- Texts of one proof, part 5: plain values, a run over them, contracts of functions. -/
import Derived.Test.YtcifjnhpgblnkaaGreatDoorM4
import Derived.Test.YtcifjnhpgblnkaaGreatDoorM3
import Derived.Shelf.Strconv.Itoa3
import Derived.Shelf.Strconv.Atoi
import Derived.Deep.RegionLaw
import Derived.Deep.OwnRows
import Derived.Shelf.Strings.Split
namespace Go.Proofs.YtcifjnhpgblnkaaGreatDoor
open Go.RowKit
set_option linter.unusedVariables false
set_option linter.unusedSimpArgs false
set_option maxRecDepth 100000
theorem polyN_some {zz c0 c1 c2 c3 c4 c5 r : Nat} (h : Flo.polyN zz c0 c1 c2 c3 c4 c5 = some r) : ∃ a1 a2 a3 a4 a5 a6 a7 a8 a9, floatBits .mul .f64 c0 zz = some a1 ∧ floatBits .add .f64 a1 c1 = some a2 ∧ floatBits .mul .f64 a2 zz = some a3 ∧ floatBits .add .f64 a3 c2 = some a4 ∧ floatBits .mul .f64 a4 zz = some a5 ∧
  floatBits .add .f64 a5 c3 = some a6 ∧ floatBits .mul .f64 a6 zz = some a7 ∧ floatBits .add .f64 a7 c4 = some a8 ∧ floatBits .mul .f64 a8 zz = some a9 ∧ floatBits .add .f64 a9 c5 = some r := by
 unfold Flo.polyN at h
 obtain ⟨a1, h1, h⟩ := Flo.bnd_some h
 obtain ⟨a2, h2, h⟩ := Flo.bnd_some h
 obtain ⟨a3, h3, h⟩ := Flo.bnd_some h
 obtain ⟨a4, h4, h⟩ := Flo.bnd_some h
 obtain ⟨a5, h5, h⟩ := Flo.bnd_some h
 obtain ⟨a6, h6, h⟩ := Flo.bnd_some h
 obtain ⟨a7, h7, h⟩ := Flo.bnd_some h
 obtain ⟨a8, h8, h⟩ := Flo.bnd_some h
 obtain ⟨a9, h9, h⟩ := Flo.bnd_some h
 exact ⟨a1, a2, a3, a4, a5, a6, a7, a8, a9, Flo.mulN_eq h1, Flo.addN_eq h2, Flo.mulN_eq h3, Flo.addN_eq h4, Flo.mulN_eq h5, Flo.addN_eq h6, Flo.mulN_eq h7, Flo.addN_eq h8, Flo.mulN_eq h9, Flo.addN_eq h⟩
theorem redN_some {b y z : Nat} (h : Flo.redN b y = some z) : ∃ t1 t2 t3 t4 t5, floatBits .mul .f64 y 4605249456957292544 = some t1 ∧ floatBits .sub .f64 b t1 = some t2 ∧ floatBits .mul .f64 y 4495793288086814720 = some t3 ∧ floatBits .sub .f64 t2 t3 = some t4 ∧ floatBits .mul .f64 y 4388835458085048688 = some t5 ∧ floatBits .sub .f64 t4 t5 = some z := by
 unfold Flo.redN at h
 obtain ⟨a1, h1, h⟩ := Flo.bnd_some h
 obtain ⟨a2, h2, h⟩ := Flo.bnd_some h
 obtain ⟨a3, h3, h⟩ := Flo.bnd_some h
 obtain ⟨a4, h4, h⟩ := Flo.bnd_some h
 obtain ⟨a5, h5, h⟩ := Flo.bnd_some h
 exact ⟨a1, a2, a3, a4, a5, Flo.mulN_eq h1, Flo.subN_eq h2, Flo.mulN_eq h3, Flo.subN_eq h4, Flo.mulN_eq h5, Flo.subN_eq h⟩
theorem sinN_some {z zz s : Nat} (h : Flo.sinN z zz = some s) : ∃ u p q, floatBits .mul .f64 z zz = some u ∧ Flo.polyN zz 4460209587652500685 13716528389658582877 4523617212962785441 13774824197404483331 4575957461383575504 13818544856648471880 = some p ∧ floatBits .mul .f64 u p = some q ∧ floatBits .add .f64 z q = some s := by
 unfold Flo.sinN at h
 obtain ⟨a1, h1, h⟩ := Flo.bnd_some h
 obtain ⟨a2, h2, h⟩ := Flo.bnd_some h
 obtain ⟨a3, h3, h⟩ := Flo.bnd_some h
 exact ⟨a1, a2, a3, Flo.mulN_eq h1, h2, Flo.mulN_eq h3, Flo.addN_eq h⟩
theorem cosN_some {zz s : Nat} (h : Flo.cosN zz = some s) : ∃ t o u p q, floatBits .mul .f64 4602678819172646912 zz = some t ∧ floatBits .sub .f64 4607182418800017408 t = some o ∧ floatBits .mul .f64 zz zz = some u ∧ Flo.polyN zz 13666448263388469915 4477121864728985349 13732177093698800582 4537941361668146421 13787419979223748497 4586165620538955083 = some p ∧ floatBits .mul .f64 u p = some q ∧ floatBits .add .f64 o q = some s := by
 unfold Flo.cosN at h
 obtain ⟨a1, h1, h⟩ := Flo.bnd_some h
 obtain ⟨a2, h2, h⟩ := Flo.bnd_some h
 obtain ⟨a3, h3, h⟩ := Flo.bnd_some h
 obtain ⟨a4, h4, h⟩ := Flo.bnd_some h
 obtain ⟨a5, h5, h⟩ := Flo.bnd_some h
 exact ⟨a1, a2, a3, a4, a5, Flo.mulN_eq h1, Flo.subN_eq h2, Flo.mulN_eq h3, h4, Flo.mulN_eq h5, Flo.addN_eq h⟩
theorem av_and' {a b : Int} : AV.bin .and (u64 a) (u64 b) = u64 (Flo.intN .and .u64 a b) := rfl
theorem msin_fn {b s : Nat} (h : Flo.msinN b = some s) : Fn Tryz.prog 324 [fl b] .sc (fl s) := by
 refine fn_run mixed 3 (Γ := AngF.Γ) (ann := AngF.ann) Tryz.func324 rfl Tryz.call324 ((AngF.msin_form (fl b) (fl s) _ _ _ _ _ _ _ _ _ _ _ _ _ _ _ _ _ _ _ _ _ _ _ _ _ _ _ _ _ _ _ _ _ _ _ _ _ _ _ _ _ _ _ _ _ _ _ _ _ _ _ _ _ _ _ _ _ _ _ _ _ _ _ _ _ _ _ _ _ _ _ _ _ _ _ _ _ _ _ _ _ _ _ _ _ _ _ _ _ _ _ _ _ _ _ _ _ _ _ _ _ _ _ _ _ _ _ _ _ _ _ _ _ rfl rfl rfl rfl rfl rfl rfl rfl rfl rfl rfl rfl rfl rfl rfl rfl rfl rfl rfl rfl rfl rfl rfl rfl rfl rfl rfl rfl rfl rfl rfl rfl rfl rfl rfl rfl rfl rfl rfl rfl rfl rfl rfl rfl rfl rfl rfl rfl rfl rfl rfl rfl rfl rfl rfl rfl rfl rfl rfl rfl rfl rfl rfl rfl rfl rfl rfl rfl rfl rfl rfl rfl rfl rfl rfl rfl rfl rfl rfl rfl rfl rfl rfl rfl rfl rfl rfl rfl rfl rfl rfl rfl rfl rfl rfl rfl rfl rfl rfl rfl rfl rfl rfl rfl rfl rfl rfl rfl rfl rfl rfl rfl rfl).mpr ?_)
 have c1 := Tryz.call327
 have c2 := Tryz.call328
 have c3 := Tryz.call337
 unfold Flo.msinN at h
 split at h
 ·rename_i h0
  subst h0
  simp only [Option.some.injEq] at h
  subst h
  have o1 : (FloatKind.f64.format.order 0 0 == some Ordering.eq) = true := by decide
  refine ⟨⟨rfl, trivial⟩, rfl, fun _ => ⟨rfl, o1, .lit _, rfl⟩, fun hw => ?_⟩
  have hw' : (FloatKind.f64.format.order 0 0 == some Ordering.eq) = false := hw
  rw [o1] at hw'; cases hw'
 split at h
 ·cases h
 rename_i h0 hc
 simp only [Flo.chkN, Flo.ordN, Bool.and_eq_true, Bool.not_eq_true'] at hc
 obtain ⟨⟨⟨⟨o1, o2⟩, o3⟩, o4⟩, o5⟩ := hc
 have oT : ∀ x : Bool, (x = true) ≠ (x = false) := fun x => by cases x <;> simp
 replace h := Flo.bnd_some h
 obtain ⟨m, hm, h⟩ := h
 replace h := Flo.bnd_some h
 obtain ⟨j, hj, h⟩ := h
 replace hm := Flo.mulN_eq hm
 replace hj := Flo.f2uN_eq hj
 rw [Flo.frc_eq] at h
 have hpre : ∀ F : Prop, F → ((AV.binOk Go.BinOp.eql (fl b) (AV.lit (Value.float Go.FloatKind.f64 0))) ∧ AV.isBool (AV.bin Go.BinOp.eql (fl b) (AV.lit (Value.float Go.FloatKind.f64 0))) ∧ F) := fun F hF => ⟨⟨rfl, trivial⟩, rfl, hF⟩
 refine hpre _ ⟨fun hw => ?_, fun _ => ⟨c1, fun _ => ⟨⟨rfl, trivial⟩, rfl, o1, rfl, ?_, c2, fun _ => ⟨c3, fun _ => ⟨_, bits_fn b, ⟨rfl, trivial⟩, _, frombits_fn _, ⟨rfl, trivial⟩, rfl, o3, ⟨rfl, trivial⟩, rfl, o4, ⟨rfl, trivial⟩, rfl, o5, by simp [hm], by simp [hm, hj], by simp, ?_⟩⟩⟩⟩⟩
 ·have hw' : (FloatKind.f64.format.order b 0 == some Ordering.eq) = true := hw
  rw [o1] at hw'; cases hw'
 ·show (FloatKind.f64.format.order b b != some Ordering.eq) = false
  simpa using o2
 have q6 : AV.f2i .f64 .u64 (AV.bin .mul (fl b) (AV.lit (.float .f64 4608412980311869571))) = u64 (j : Nat) := by simp [hm, hj]
 rw [q6]
 have q9 : AV.i2f .f64 (u64 (j : Nat)) = fl (FloatKind.f64.nearest (j : Nat)) := rfl
 rw [q9]
 generalize hy0 : FloatKind.f64.nearest (j : Nat) = y0 at h
 clear q6 q9 hy0 hpre hm hj o1 o2 o3 o4 o5 c1 c2 c3 h0
 generalize (j : Int) = j at *
 refine ⟨⟨rfl, trivial⟩, ⟨rfl, trivial⟩, rfl, fun hw => ?_, fun hw => ?_⟩
 ·have hodd : Flo.intN .and .u64 j 1 = 1 := by
   have : (Flo.intN .and .u64 j 1 == 1) = true := hw
   simpa using this
  rw [if_pos hodd] at h
  replace h := Flo.bnd_some h
  obtain ⟨y, hy, h⟩ := h
  replace hy := Flo.addN_eq hy
  have q11 : AV.bin .add (fl y0) (AV.lit (.float .f64 4607182418800017408)) = fl y := by simp [hy]
  have q17 : AV.bin .and (AV.bin .add (u64 j) (u64 1)) (u64 7) = u64 (Flo.intN .and .u64 (IntKind.u64.wrap (j + 1)) 7) := rfl
  refine ⟨⟨rfl, trivial⟩, by simp [hy], ⟨rfl, trivial⟩, ?_⟩
  rw [q11, q17]
  clear hy hw q11 q17
  generalize Flo.intN .and .u64 (IntKind.u64.wrap (j + 1)) 7 = o at *
  clear hodd
  unfold Flo.tailN at h
  replace h := Flo.bnd_some h
  obtain ⟨z, hz, h⟩ := h
  replace h := Flo.bnd_some h
  obtain ⟨zz, hzz, h⟩ := h
  obtain ⟨t1, t2, t3, t4, t5, e1, e2, e3, e4, e5, e6⟩ := redN_some hz
  replace hzz := Flo.mulN_eq hzz
  clear hz
  have r1 : AV.bin .mul (fl y) (AV.lit (.float .f64 4605249456957292544)) = fl t1 := by simp [e1]
  have r2 : AV.bin .sub (fl b) (fl t1) = fl t2 := by simp [e2]
  have r3 : AV.bin .mul (fl y) (AV.lit (.float .f64 4495793288086814720)) = fl t3 := by simp [e3]
  have r4 : AV.bin .sub (fl t2) (fl t3) = fl t4 := by simp [e4]
  have r5 : AV.bin .mul (fl y) (AV.lit (.float .f64 4388835458085048688)) = fl t5 := by simp [e5]
  have r6 : AV.bin .sub (fl t4) (fl t5) = fl z := by simp [e6]
  have r7 : AV.bin .mul (fl z) (fl z) = fl zz := by simp [hzz]
  have w1 : AV.binOk .mul (fl y) (AV.lit (.float .f64 4605249456957292544)) ↔ True := by simp [e1]
  have w2 : AV.binOk .sub (fl b) (fl t1) ↔ True := by simp [e2]
  have w3 : AV.binOk .mul (fl y) (AV.lit (.float .f64 4495793288086814720)) ↔ True := by simp [e3]
  have w4 : AV.binOk .sub (fl t2) (fl t3) ↔ True := by simp [e4]
  have w5 : AV.binOk .mul (fl y) (AV.lit (.float .f64 4388835458085048688)) ↔ True := by simp [e5]
  have w6 : AV.binOk .sub (fl t4) (fl t5) ↔ True := by simp [e6]
  have w7 : AV.binOk .mul (fl z) (fl z) ↔ True := by simp [hzz]
  simp only [r1, r2, r3, r4, r5, r6, r7, w1, w2, w3, w4, w5, w6, w7, true_and]
  clear r1 r2 r3 r4 r5 r6 r7 w1 w2 w3 w4 w5 w6 w7 e1 e2 e3 e4 e5 e6 hzz t1 t2 t3 t4 t5
  split at h
  ·rename_i ho
   replace h := Flo.bnd_some h
   obtain ⟨s', h, hs⟩ := h
   simp only [Option.some.injEq] at hs
   subst hs
   refine ⟨⟨rfl, trivial⟩, rfl, fun _ => ?_, fun hw => ?_⟩
   ·have q20 : AV.bin .sub (u64 o) (u64 4) = u64 (IntKind.u64.wrap (o - 4)) := rfl
    rw [q20]
    generalize IntKind.u64.wrap (o - 4) = o' at *
    refine ⟨⟨rfl, trivial⟩, ?_⟩
    unfold Flo.octN at h
    split at h
    ·rename_i h1
     subst h1
     replace h := cosN_some h
     obtain ⟨t, q, u, p, v, f1, f2, f3, f4, f5, f6⟩ := h
     obtain ⟨a1, a2, a3, a4, a5, a6, a7, a8, a9, g1, g2, g3, g4, g5, g6, g7, g8, g9, g10⟩ := polyN_some f4
     clear f4
     repeat' (first
      | exact trivial
      | (with_reducible refine And.intro ?_ ?_)
      | (intro hw; first | (exfalso; revert hw; simp [*, av_and', AV.refNth, AV.mkRef, AV.rcs, AV.off]; done) | skip)
      | (simp [*, av_and', AV.refNth, AV.mkRef, AV.rcs, AV.off, AV.isRef, AV.refOk, AV.inl]; done))
    ·split at h
     ·rename_i h1 h2
      subst h2
      replace h := cosN_some h
      obtain ⟨t, q, u, p, v, f1, f2, f3, f4, f5, f6⟩ := h
      obtain ⟨a1, a2, a3, a4, a5, a6, a7, a8, a9, g1, g2, g3, g4, g5, g6, g7, g8, g9, g10⟩ := polyN_some f4
      clear f4
      repeat' (first
       | exact trivial
       | (with_reducible refine And.intro ?_ ?_)
       | (intro hw; first | (exfalso; revert hw; simp [*, av_and', AV.refNth, AV.mkRef, AV.rcs, AV.off]; done) | skip)
       | (simp [*, av_and', AV.refNth, AV.mkRef, AV.rcs, AV.off, AV.isRef, AV.refOk, AV.inl]; done))
     ·rename_i h1 h2
      replace h := sinN_some h
      obtain ⟨u, p, v, f1, f2, f3, f4⟩ := h
      obtain ⟨a1, a2, a3, a4, a5, a6, a7, a8, a9, g1, g2, g3, g4, g5, g6, g7, g8, g9, g10⟩ := polyN_some f2
      clear f2
      repeat' (first
       | exact trivial
       | (with_reducible refine And.intro ?_ ?_)
       | (intro hw; first | (exfalso; revert hw; simp [*, av_and', AV.refNth, AV.mkRef, AV.rcs, AV.off]; done) | skip)
       | (simp [*, av_and', AV.refNth, AV.mkRef, AV.rcs, AV.off, AV.isRef, AV.refOk, AV.inl]; done))
   ·have hw' : decide (o > 3) = false := hw
    simp only [decide_eq_false_iff_not] at hw'
    exact absurd ho hw'
  ·rename_i ho
   refine ⟨⟨rfl, trivial⟩, rfl, fun hw => ?_, fun _ => ?_⟩
   ·have hw' : decide (o > 3) = true := hw
    simp only [decide_eq_true_eq] at hw'
    exact absurd hw' ho
   ·unfold Flo.octN at h
    split at h
    ·rename_i h1
     subst h1
     replace h := cosN_some h
     obtain ⟨t, q, u, p, v, f1, f2, f3, f4, f5, f6⟩ := h
     obtain ⟨a1, a2, a3, a4, a5, a6, a7, a8, a9, g1, g2, g3, g4, g5, g6, g7, g8, g9, g10⟩ := polyN_some f4
     clear f4
     repeat' (first
      | exact trivial
      | (with_reducible refine And.intro ?_ ?_)
      | (intro hw; first | (exfalso; revert hw; simp [*, av_and', AV.refNth, AV.mkRef, AV.rcs, AV.off]; done) | skip)
      | (simp [*, av_and', AV.refNth, AV.mkRef, AV.rcs, AV.off, AV.isRef, AV.refOk, AV.inl]; done))
    ·split at h
     ·rename_i h1 h2
      subst h2
      replace h := cosN_some h
      obtain ⟨t, q, u, p, v, f1, f2, f3, f4, f5, f6⟩ := h
      obtain ⟨a1, a2, a3, a4, a5, a6, a7, a8, a9, g1, g2, g3, g4, g5, g6, g7, g8, g9, g10⟩ := polyN_some f4
      clear f4
      repeat' (first
       | exact trivial
       | (with_reducible refine And.intro ?_ ?_)
       | (intro hw; first | (exfalso; revert hw; simp [*, av_and', AV.refNth, AV.mkRef, AV.rcs, AV.off]; done) | skip)
       | (simp [*, av_and', AV.refNth, AV.mkRef, AV.rcs, AV.off, AV.isRef, AV.refOk, AV.inl]; done))
     ·rename_i h1 h2
      replace h := sinN_some h
      obtain ⟨u, p, v, f1, f2, f3, f4⟩ := h
      obtain ⟨a1, a2, a3, a4, a5, a6, a7, a8, a9, g1, g2, g3, g4, g5, g6, g7, g8, g9, g10⟩ := polyN_some f2
      clear f2
      repeat' (first
       | exact trivial
       | (with_reducible refine And.intro ?_ ?_)
       | (intro hw; first | (exfalso; revert hw; simp [*, av_and', AV.refNth, AV.mkRef, AV.rcs, AV.off]; done) | skip)
       | (simp [*, av_and', AV.refNth, AV.mkRef, AV.rcs, AV.off, AV.isRef, AV.refOk, AV.inl]; done))
 ·have hodd : ¬ Flo.intN .and .u64 j 1 = 1 := by
   have : (Flo.intN .and .u64 j 1 == 1) = false := hw
   simpa using this
  rw [if_neg hodd] at h
  have q17 : AV.bin .and (u64 j) (u64 7) = u64 (Flo.intN .and .u64 j 7) := rfl
  refine ⟨⟨rfl, trivial⟩, ?_⟩
  rw [q17]
  clear hw q17
  generalize Flo.intN .and .u64 j 7 = o at *
  clear hodd
  generalize y0 = y at *
  unfold Flo.tailN at h
  replace h := Flo.bnd_some h
  obtain ⟨z, hz, h⟩ := h
  replace h := Flo.bnd_some h
  obtain ⟨zz, hzz, h⟩ := h
  obtain ⟨t1, t2, t3, t4, t5, e1, e2, e3, e4, e5, e6⟩ := redN_some hz
  replace hzz := Flo.mulN_eq hzz
  clear hz
  have r1 : AV.bin .mul (fl y) (AV.lit (.float .f64 4605249456957292544)) = fl t1 := by simp [e1]
  have r2 : AV.bin .sub (fl b) (fl t1) = fl t2 := by simp [e2]
  have r3 : AV.bin .mul (fl y) (AV.lit (.float .f64 4495793288086814720)) = fl t3 := by simp [e3]
  have r4 : AV.bin .sub (fl t2) (fl t3) = fl t4 := by simp [e4]
  have r5 : AV.bin .mul (fl y) (AV.lit (.float .f64 4388835458085048688)) = fl t5 := by simp [e5]
  have r6 : AV.bin .sub (fl t4) (fl t5) = fl z := by simp [e6]
  have r7 : AV.bin .mul (fl z) (fl z) = fl zz := by simp [hzz]
  have w1 : AV.binOk .mul (fl y) (AV.lit (.float .f64 4605249456957292544)) ↔ True := by simp [e1]
  have w2 : AV.binOk .sub (fl b) (fl t1) ↔ True := by simp [e2]
  have w3 : AV.binOk .mul (fl y) (AV.lit (.float .f64 4495793288086814720)) ↔ True := by simp [e3]
  have w4 : AV.binOk .sub (fl t2) (fl t3) ↔ True := by simp [e4]
  have w5 : AV.binOk .mul (fl y) (AV.lit (.float .f64 4388835458085048688)) ↔ True := by simp [e5]
  have w6 : AV.binOk .sub (fl t4) (fl t5) ↔ True := by simp [e6]
  have w7 : AV.binOk .mul (fl z) (fl z) ↔ True := by simp [hzz]
  simp only [r1, r2, r3, r4, r5, r6, r7, w1, w2, w3, w4, w5, w6, w7, true_and]
  clear r1 r2 r3 r4 r5 r6 r7 w1 w2 w3 w4 w5 w6 w7 e1 e2 e3 e4 e5 e6 hzz t1 t2 t3 t4 t5
  split at h
  ·rename_i ho
   replace h := Flo.bnd_some h
   obtain ⟨s', h, hs⟩ := h
   simp only [Option.some.injEq] at hs
   subst hs
   refine ⟨⟨rfl, trivial⟩, rfl, fun _ => ?_, fun hw => ?_⟩
   ·have q20 : AV.bin .sub (u64 o) (u64 4) = u64 (IntKind.u64.wrap (o - 4)) := rfl
    rw [q20]
    generalize IntKind.u64.wrap (o - 4) = o' at *
    refine ⟨⟨rfl, trivial⟩, ?_⟩
    unfold Flo.octN at h
    split at h
    ·rename_i h1
     subst h1
     replace h := cosN_some h
     obtain ⟨t, q, u, p, v, f1, f2, f3, f4, f5, f6⟩ := h
     obtain ⟨a1, a2, a3, a4, a5, a6, a7, a8, a9, g1, g2, g3, g4, g5, g6, g7, g8, g9, g10⟩ := polyN_some f4
     clear f4
     repeat' (first
      | exact trivial
      | (with_reducible refine And.intro ?_ ?_)
      | (intro hw; first | (exfalso; revert hw; simp [*, av_and', AV.refNth, AV.mkRef, AV.rcs, AV.off]; done) | skip)
      | (simp [*, av_and', AV.refNth, AV.mkRef, AV.rcs, AV.off, AV.isRef, AV.refOk, AV.inl]; done))
    ·split at h
     ·rename_i h1 h2
      subst h2
      replace h := cosN_some h
      obtain ⟨t, q, u, p, v, f1, f2, f3, f4, f5, f6⟩ := h
      obtain ⟨a1, a2, a3, a4, a5, a6, a7, a8, a9, g1, g2, g3, g4, g5, g6, g7, g8, g9, g10⟩ := polyN_some f4
      clear f4
      repeat' (first
       | exact trivial
       | (with_reducible refine And.intro ?_ ?_)
       | (intro hw; first | (exfalso; revert hw; simp [*, av_and', AV.refNth, AV.mkRef, AV.rcs, AV.off]; done) | skip)
       | (simp [*, av_and', AV.refNth, AV.mkRef, AV.rcs, AV.off, AV.isRef, AV.refOk, AV.inl]; done))
     ·rename_i h1 h2
      replace h := sinN_some h
      obtain ⟨u, p, v, f1, f2, f3, f4⟩ := h
      obtain ⟨a1, a2, a3, a4, a5, a6, a7, a8, a9, g1, g2, g3, g4, g5, g6, g7, g8, g9, g10⟩ := polyN_some f2
      clear f2
      repeat' (first
       | exact trivial
       | (with_reducible refine And.intro ?_ ?_)
       | (intro hw; first | (exfalso; revert hw; simp [*, av_and', AV.refNth, AV.mkRef, AV.rcs, AV.off]; done) | skip)
       | (simp [*, av_and', AV.refNth, AV.mkRef, AV.rcs, AV.off, AV.isRef, AV.refOk, AV.inl]; done))
   ·have hw' : decide (o > 3) = false := hw
    simp only [decide_eq_false_iff_not] at hw'
    exact absurd ho hw'
  ·rename_i ho
   refine ⟨⟨rfl, trivial⟩, rfl, fun hw => ?_, fun _ => ?_⟩
   ·have hw' : decide (o > 3) = true := hw
    simp only [decide_eq_true_eq] at hw'
    exact absurd hw' ho
   ·unfold Flo.octN at h
    split at h
    ·rename_i h1
     subst h1
     replace h := cosN_some h
     obtain ⟨t, q, u, p, v, f1, f2, f3, f4, f5, f6⟩ := h
     obtain ⟨a1, a2, a3, a4, a5, a6, a7, a8, a9, g1, g2, g3, g4, g5, g6, g7, g8, g9, g10⟩ := polyN_some f4
     clear f4
     repeat' (first
      | exact trivial
      | (with_reducible refine And.intro ?_ ?_)
      | (intro hw; first | (exfalso; revert hw; simp [*, av_and', AV.refNth, AV.mkRef, AV.rcs, AV.off]; done) | skip)
      | (simp [*, av_and', AV.refNth, AV.mkRef, AV.rcs, AV.off, AV.isRef, AV.refOk, AV.inl]; done))
    ·split at h
     ·rename_i h1 h2
      subst h2
      replace h := cosN_some h
      obtain ⟨t, q, u, p, v, f1, f2, f3, f4, f5, f6⟩ := h
      obtain ⟨a1, a2, a3, a4, a5, a6, a7, a8, a9, g1, g2, g3, g4, g5, g6, g7, g8, g9, g10⟩ := polyN_some f4
      clear f4
      repeat' (first
       | exact trivial
       | (with_reducible refine And.intro ?_ ?_)
       | (intro hw; first | (exfalso; revert hw; simp [*, av_and', AV.refNth, AV.mkRef, AV.rcs, AV.off]; done) | skip)
       | (simp [*, av_and', AV.refNth, AV.mkRef, AV.rcs, AV.off, AV.isRef, AV.refOk, AV.inl]; done))
     ·rename_i h1 h2
      replace h := sinN_some h
      obtain ⟨u, p, v, f1, f2, f3, f4⟩ := h
      obtain ⟨a1, a2, a3, a4, a5, a6, a7, a8, a9, g1, g2, g3, g4, g5, g6, g7, g8, g9, g10⟩ := polyN_some f2
      clear f2
      repeat' (first
       | exact trivial
       | (with_reducible refine And.intro ?_ ?_)
       | (intro hw; first | (exfalso; revert hw; simp [*, av_and', AV.refNth, AV.mkRef, AV.rcs, AV.off]; done) | skip)
       | (simp [*, av_and', AV.refNth, AV.mkRef, AV.rcs, AV.off, AV.isRef, AV.refOk, AV.inl]; done))
def sinV (h : Int) : Int := (Flo.sinI (h % 4096).toNat).getD 0
theorem sin_ok (h : Int) : Flo.sinI (h % 4096).toNat = some (sinV h) ∧ -16384 ≤ sinV h ∧ sinV h ≤ 16384 := by
 have hk : Flo.okH (h % 4096).toNat = true := by
  have hlt : (h % 4096).toNat < 4096 := by omega
  generalize (h % 4096).toNat = n at hlt
  have key : ∀ k, k < 16 → Flo.allB (fun i => Flo.okH (256 * k + i)) 256 = true := fun k hk => by
   match k, hk with
   | 0, _ => exact Flo.ok0 | 1, _ => exact Flo.ok1 | 2, _ => exact Flo.ok2 | 3, _ => exact Flo.ok3
   | 4, _ => exact Flo.ok4 | 5, _ => exact Flo.ok5 | 6, _ => exact Flo.ok6 | 7, _ => exact Flo.ok7
   | 8, _ => exact Flo.ok8 | 9, _ => exact Flo.ok9 | 10, _ => exact Flo.ok10 | 11, _ => exact Flo.ok11
   | 12, _ => exact Flo.ok12 | 13, _ => exact Flo.ok13 | 14, _ => exact Flo.ok14 | 15, _ => exact Flo.ok15
   | k + 16, hk => exact absurd hk (by omega)
  have := Flo.allB_spec (key (n / 256) (by omega)) (n % 256) (by omega)
  rwa [Nat.div_add_mod] at this
 unfold sinV
 generalize (h % 4096).toNat = n at *
 unfold Flo.okH at hk
 split at hk
 ·rename_i m hm
  rw [hm]
  simp only [decide_eq_true_eq] at hk
  exact ⟨rfl, hk⟩
 ·cases hk
theorem sin_fn (h : Int) (h1 : -9223372036854775808 ≤ h) (h2 : h ≤ 9223372036854775807) : Fn Tryz.prog 249 [.int h] .sc (.int (sinV h)) := by
 refine fn_run mixed 3 (Γ := AngF.Γ) (ann := AngF.ann) Tryz.func249 rfl Tryz.call249 ((AngF.sin_form _ _).mpr ?_)
 obtain ⟨hs, _⟩ := sin_ok h
 refine ⟨_, norm_fn h h1 h2, ?_⟩
 have hn : ((h % 4096).toNat : Int) = h % 4096 := by omega
 rw [← hn]
 generalize (h % 4096).toNat = n at *
 unfold Flo.sinI at hs
 replace hs := Flo.bnd_some hs
 obtain ⟨x, hx, hs⟩ := hs
 replace hs := Flo.bnd_some hs
 obtain ⟨s, hm, hs⟩ := hs
 replace hs := Flo.bnd_some hs
 obtain ⟨t, ht, hs⟩ := hs
 rw [Flo.frc_eq] at hs
 unfold Flo.argN at hx
 replace hx := Flo.bnd_some hx
 obtain ⟨a, ha, hx⟩ := hx
 replace ha := Flo.mulN_eq ha
 replace ht := Flo.mulN_eq ht
 have q1 : AV.bin .mul (AV.i2f .f64 (.int n)) (AV.lit (.float .f64 4614256656552045848)) = fl a := by simp [ha]
 have q2 : AV.bin .quo (fl a) (AV.lit (.float .f64 4656722014701092864)) = fl x := by simp [hx]
 have q3 : AV.bin .mul (AV.lit (.float .f64 4670232813583204352)) (fl s) = fl t := by simp [ht]
 rw [q1, q2]
 refine ⟨⟨_, _, rfl⟩, by simp [ha], by simp [hx], Tryz.call298, fun _ => ⟨_, msin_fn hm, by simp [ht], ?_⟩⟩
 rw [q3]
 exact ⟨_, round_fn t, by simp [hs], by simp, by simp [hs]⟩
theorem cos_fn (h : Int) (h1 : -9223372036854775808 ≤ h) (h2 : h ≤ 9223372036854775807) : Fn Tryz.prog 250 [.int h] .sc (.int (sinV (h % 4096 + 1024))) := by
 refine fn_run mixed 3 (Γ := AngF.Γ) (ann := AngF.ann) Tryz.func250 rfl Tryz.call250 ((AngF.cos_form _ _).mpr ?_)
 refine ⟨_, norm_fn h h1 h2, ⟨rfl, trivial⟩, ?_⟩
 have q : AV.bin .add (.int (h % 4096)) (AV.int 1024) = .int (h % 4096 + 1024) := by
  rw [av_add, wrap64 (by omega) (by omega)]
 rw [q]
 exact ⟨_, sin_fn _ (by omega) (by omega), by simp, by simp⟩
def nearV (n : Int) : Int := if n < 0 then -((-n + 8192).tdiv 16384) else (n + 8192).tdiv 16384
theorem anear_fn (n : Int) (h1 : -1000000000000 ≤ n) (h2 : n ≤ 1000000000000) : Fn Tryz.prog 248 [.int n, .int 16384] .sc (.int (nearV n)) := by
 have pos : ∀ n : Int, 0 ≤ n → n ≤ 1000000000000 → Fn Tryz.prog 248 [.int n, .int 16384] .sc (.int ((n + 8192).tdiv 16384)) := fun n h1 h2 => by
  refine fn_run mixed 3 (Γ := AngF.Γ) (ann := AngF.ann) Tryz.func248 rfl Tryz.call248 ((AngF.near_form _ _ _).mpr ?_)
  refine ⟨⟨rfl, trivial⟩, rfl, fun hw => ?_, fun _ => ?_⟩
  ·exfalso; simp at hw; omega
  ·have e0 : (16384 : Int).tdiv 2 = 8192 := by decide
   have e1 : IntKind.i64.wrap (n + 8192) = n + 8192 := wrap64 (by omega) (by omega)
   have e3 : (n + 8192).tdiv 16384 = (n + 8192) / 16384 := Int.tdiv_eq_ediv_of_nonneg (by omega)
   have e2 : IntKind.i64.wrap ((n + 8192).tdiv 16384) = (n + 8192).tdiv 16384 := wrap64 (by rw [e3]; omega) (by rw [e3]; omega)
   have e4 : IntKind.i64.wrap 8192 = 8192 := by decide
   simp [e0, e1, e2, e4]
 unfold nearV
 split
 ·rename_i hn
  refine fn_run mixed 3 (Γ := AngF.Γ) (ann := AngF.ann) Tryz.func248 rfl Tryz.call248 ((AngF.near_form _ _ _).mpr ?_)
  have q : AV.un .neg (.int n) = .int (-n) := by
   show AV.lit (.int .i64 (IntKind.i64.wrap (0 - n))) = _
   rw [wrap64 (by omega) (by omega)]; congr 2; omega
  rw [q]
  refine ⟨⟨rfl, trivial⟩, rfl, fun _ => ⟨trivial, _, pos (-n) (by omega) (by omega), trivial, .lit _, ?_⟩, fun hw => ?_⟩
  ·have e3 : (-n + 8192).tdiv 16384 = (-n + 8192) / 16384 := Int.tdiv_eq_ediv_of_nonneg (by omega)
   show AV.lit (.int .i64 (IntKind.i64.wrap (0 - (-n + 8192).tdiv 16384))) = _
   rw [wrap64 (by rw [e3]; omega) (by rw [e3]; omega)]; congr 2; omega
  ·exfalso; simp at hw; omega
 ·exact pos n (by omega) h2
def vecV (h l : Int) : Int × Int := (nearV (l * sinV h), nearV (l * sinV (h % 4096 + 1024)))
def vecE (l : Int) : Int := if l < 0 ∨ l > 2000000 then 4 else 0
theorem vec_fn (h l : Int) (h1 : -9223372036854775808 ≤ h) (h2 : h ≤ 9223372036854775807) : Fn Tryz.prog 199 [.int h, .int l] (.tup [.agg [.sc, .sc], .sc]) (.tup [.agg [.int (if vecE l = 0 then (vecV h l).1 else 0), .int (if vecE l = 0 then (vecV h l).2 else 0)], .int (vecE l)]) := by
 refine fn_run mixed 3 (Γ := AngF.Γ) (ann := AngF.ann) Tryz.func199 rfl Tryz.call199 ((AngF.vec_form _ _ _).mpr ?_)
 by_cases hl : l < 0 ∨ l > 2000000
 ·have e : vecE l = 4 := if_pos hl
  rw [e]
  by_cases h0 : l < 0
  ·simp [h0]
  ·have h3 : l > 2000000 := by omega
   simp [h0, h3]
 ·have e : vecE l = 0 := if_neg hl
  rw [e]
  have h0 : ¬ l < 0 := by omega
  have h3 : ¬ l > 2000000 := by omega
  obtain ⟨_, s1, s2⟩ := sin_ok h
  obtain ⟨_, s3, s4⟩ := sin_ok (h % 4096 + 1024)
  have b1 : ∀ s : Int, -16384 ≤ s → s ≤ 16384 → -1000000000000 ≤ l * s ∧ l * s ≤ 1000000000000 := fun s a b => by
   have p1 : l * s ≤ l * 16384 := Int.mul_le_mul_of_nonneg_left b (by omega)
   have p2 : l * (-16384) ≤ l * s := Int.mul_le_mul_of_nonneg_left a (by omega)
   omega
  obtain ⟨x1, x2⟩ := b1 _ s1 s2
  obtain ⟨x3, x4⟩ := b1 _ s3 s4
  refine ⟨⟨rfl, trivial⟩, rfl, fun hw => ?_, fun _ => ⟨⟨rfl, trivial⟩, rfl, ?_, rfl, fun hw => ?_, fun _ => ?_⟩⟩
  ·exfalso; simp at hw; omega
  ·simpa using h0
  ·exfalso; simp at hw; omega
  ·refine ⟨_, sin_fn h h1 h2, ⟨rfl, trivial⟩, ?_⟩
   have q1 : AV.bin .mul (.int l) (.int (sinV h)) = .int (l * sinV h) := by rw [av_mul, wrap64 (by omega) (by omega)]
   rw [q1]
   refine ⟨_, anear_fn _ x1 x2, _, cos_fn h h1 h2, ⟨rfl, trivial⟩, ?_⟩
   have q2 : AV.bin .mul (.int l) (.int (sinV (h % 4096 + 1024))) = .int (l * sinV (h % 4096 + 1024)) := by rw [av_mul, wrap64 (by omega) (by omega)]
   rw [q2]
   refine ⟨_, anear_fn _ x3 x4, rfl, rfl, .lit _, .lit _, .lit _, ?_⟩
   simp [vecV]
end Go.Proofs.YtcifjnhpgblnkaaGreatDoor
namespace Go.Proofs.YtcifjnhpgblnkaaGreatDoor
open Go.RowKit
set_option linter.unusedVariables false
def lst {α : Type} (s : Nat) (enc : α → List AV) (l : List α) : AV := .sl s (l.map enc)
section
variable {α : Type} {s i j m : Nat} {enc : α → List AV} {l l' : List α} {k k' : IntKind} {a b n : Int} {x : α} {y z : AV} {F G : Prop}
@[simp] theorem lst_els : AV.els (lst s enc l) = l.map enc := rfl
@[simp] theorem lst_len : AV.len (lst s enc l) = .lit (.int .i64 (l.length : Nat)) := by simp [lst]
@[simp] theorem lst_isSl : AV.isSl (lst s enc l) j ↔ s = j := by simp [lst]
@[simp] theorem lst_isOne : AV.isOne (lst s enc l) ↔ True := by simp [lst]
@[simp] theorem lst_inb : AV.inb (lst s enc l) (.lit (.int k n)) ↔ 0 ≤ n ∧ n < l.length := by simp [lst]
@[simp] theorem lst_subOk : AV.subOk (lst s enc l) (.lit (.int k a)) (.lit (.int k' b)) ↔ 0 ≤ a ∧ a ≤ b ∧ b ≤ l.length := by simp [lst]
@[simp] theorem lst_sub : AV.sub i (lst i enc l) (.lit (.int k a)) (.lit (.int k' b)) = lst i enc ((l.take b.toNat).drop a.toNat) := by simp [lst, List.map_drop, List.map_take]
@[simp] theorem lst_app : AV.app i (lst j enc l) (lst m enc l') = lst i enc (l ++ l') := by simp [lst]
@[simp] theorem lst_nil : lst s enc [] = .sl s [] := rfl
@[simp] theorem lst_fnil : fNil (lst s enc l) F G ↔ (l = [] → F) ∧ G := by unfold lst; simp
theorem lst_at {n : Nat} (h : l[n]? = some x) : AV.at (lst s enc l) (.lit (.int k (n : Nat))) j = (enc x).getD j default := by
 simp [lst, gt2, List.getD_eq_getElem?_getD, h]
theorem lst_atAgg {n : Nat} (h : l[n]? = some x) : AV.atAgg (lst s enc l) (.lit (.int k (n : Nat))) j m = .agg (((enc x).drop j).take m) := by
 simp [lst, AV.atAgg, List.getD_eq_getElem?_getD, h]
theorem lst_atI (hn : 0 ≤ n) (h : l[n.toNat]? = some x) : AV.at (lst s enc l) (.lit (.int k n)) j = (enc x).getD j default := by
 simp [lst, gt2, List.getD_eq_getElem?_getD, h]
theorem lst_atAggI (hn : 0 ≤ n) (h : l[n.toNat]? = some x) : AV.atAgg (lst s enc l) (.lit (.int k n)) j m = .agg (((enc x).drop j).take m) := by
 simp [lst, AV.atAgg, List.getD_eq_getElem?_getD, h]
theorem lst_flatS (h : ∀ x ∈ l, ∀ z ∈ enc x, z.flat) : (lst s enc l).flatS := by
 intro y hy z hz
 simp only [lst_els, List.mem_map] at hy
 obtain ⟨x, hx, rfl⟩ := hy
 exact h x hx z hz
theorem lst_setEl {n : Nat} {x' : α} {cs : List AV} (h : l[n]? = some x) (he : (enc x).take j ++ cs ++ (enc x).drop (j + cs.length) = enc x') : AV.setEl (lst s enc l) (.lit (.int k (n : Nat))) j cs = lst s enc (l.set n x') := by
 simp only [lst, AV.setEl, av_num, Int.toNat_natCast]
 congr 1
 rw [List.map_set, ← he]
 simp [List.getD_eq_getElem?_getD, h]
end
theorem loop_list {α σ : Type} {i : Nat} (l : List α) (enc : Nat → σ → List AV) (G : Nat → List α → σ → Prop) {xs : List AV} {body : List AV → (List AV → Prop) → Prop} (s0 : σ) (h0 : xs = enc 0 s0) (hG : G 0 l s0)
  (hstep : ∀ n x rest s (K : List AV → Prop), l[n]? = some x → l.drop (n + 1) = rest → n < l.length → G n (x :: rest) s → (∀ zs s', zs = enc (n + 1) s' → G (n + 1) rest s' → K zs) → body (enc n s) K)
  (hend : ∀ s (K : List AV → Prop), G l.length [] s → body (enc l.length s) K) : fLoop i xs body := by
 subst h0
 refine ⟨fun m ys => ∃ n s, ys = enc n s ∧ n ≤ l.length ∧ m = l.length - n ∧ G n (l.drop n) s, l.length, ⟨0, s0, rfl, Nat.zero_le _, rfl, hG⟩, ?_⟩
 rintro m ys _ ⟨n, s, rfl, hn, rfl, hg⟩
 rcases Nat.lt_or_ge n l.length with h | h
 ·rw [List.drop_eq_getElem_cons h] at hg
  refine hstep n l[n] (l.drop (n + 1)) s _ (List.getElem?_eq_getElem h) rfl h hg ?_
  rintro zs s' rfl hg'
  exact ⟨l.length - (n + 1), by omega, n + 1, s', rfl, h, rfl, hg'⟩
 ·obtain rfl : n = l.length := by omega
  rw [List.drop_length] at hg
  exact hend s _ hg
theorem bytes_eq {a b : ByteArray} : (a.toList == b.toList) = decide (a = b) := by
 by_cases h : a = b
 ·subst h; simp
 ·rw [decide_eq_false h]
  simp only [beq_eq_false_iff_ne, ne_eq]
  intro e
  apply h
  rw [ByteArray.toList_eq, ByteArray.toList_eq] at e
  exact ByteArray.ext (Array.toList_inj.1 e)
theorem less_eq : ∀ (x y : List UInt8), Op.bytesLess x y = decide (x < y)
 | [], [] => by simp [Op.bytesLess]
 | _ :: _, [] => by simp [Op.bytesLess]
 | [], _ :: _ => by simp [Op.bytesLess]
 | a :: x, b :: y => by
  rw [Op.bytesLess, less_eq x y]
  simp only [List.cons_lt_cons_iff]
  by_cases h1 : a < b <;> by_cases h2 : a = b <;> by_cases h3 : x < y <;> simp [h1, h2, h3]
section
variable {a b : ByteArray}
@[simp] theorem av_eql_str : AV.bin .eql (.lit (.string a)) (.lit (.string b)) = .lit (.bool (decide (a = b))) := by
 show AV.bool (a.toList == b.toList) = _; rw [bytes_eq]
@[simp] theorem av_neq_str : AV.bin .neq (.lit (.string a)) (.lit (.string b)) = .lit (.bool (!decide (a = b))) := by
 show AV.bool (!(a.toList == b.toList)) = _; rw [bytes_eq]
@[simp] theorem av_binOk_eqs : AV.binOk .eql (.lit (.string a)) (.lit (.string b)) ↔ True := Iff.rfl
@[simp] theorem av_binOk_nes : AV.binOk .neq (.lit (.string a)) (.lit (.string b)) ↔ True := Iff.rfl
@[simp] theorem av_binOk_lss : AV.binOk .lss (.lit (.string a)) (.lit (.string b)) ↔ True := Iff.rfl
@[simp] theorem av_binOk_leqs : AV.binOk .leq (.lit (.string a)) (.lit (.string b)) ↔ True := Iff.rfl
@[simp] theorem av_binOk_gts : AV.binOk .gtr (.lit (.string a)) (.lit (.string b)) ↔ True := Iff.rfl
@[simp] theorem av_binOk_ges : AV.binOk .geq (.lit (.string a)) (.lit (.string b)) ↔ True := Iff.rfl
def key (a : ByteArray) : List UInt8 := a.data.toList
theorem key_inj (h : key a = key b) : a = b := ByteArray.ext (Array.toList_inj.1 h)
theorem lsle_eq : (Op.bytesLess a.toList b.toList || a.toList == b.toList) = decide (key a ≤ key b) := by
 rw [less_eq, ByteArray.toList_eq, ByteArray.toList_eq]
 unfold key
 by_cases h : a.data.toList ≤ b.data.toList
 ·rw [decide_eq_true h]
  by_cases h2 : a.data.toList < b.data.toList
  ·simp [h2]
  ·have : a.data.toList = b.data.toList := List.le_antisymm h (List.not_lt.1 h2)
   simp [this]
 ·rw [decide_eq_false h]
  have h3 := List.not_le.1 h
  have h4 : ¬ a.data.toList < b.data.toList := List.not_lt.2 (List.le_of_lt h3)
  have h5 : a.data.toList ≠ b.data.toList := fun e => h (by rw [e]; exact List.le_refl _)
  rw [decide_eq_false h4, Bool.false_or]
  exact beq_eq_false_iff_ne.2 h5
@[simp] theorem av_lss_str : AV.bin .lss (.lit (.string a)) (.lit (.string b)) = .lit (.bool (decide (key a < key b))) := by
 show AV.bool (Op.bytesLess a.toList b.toList) = _; rw [less_eq, ByteArray.toList_eq, ByteArray.toList_eq]; rfl
@[simp] theorem av_leq_str : AV.bin .leq (.lit (.string a)) (.lit (.string b)) = .lit (.bool (decide (key a ≤ key b))) := by
 show AV.bool (Op.bytesLess a.toList b.toList || a.toList == b.toList) = _; rw [lsle_eq]
@[simp] theorem av_gtr_str : AV.bin .gtr (.lit (.string a)) (.lit (.string b)) = .lit (.bool (!decide (key a ≤ key b))) := by
 show AV.bool (!(Op.bytesLess a.toList b.toList || a.toList == b.toList)) = _; rw [lsle_eq]
@[simp] theorem av_geq_str : AV.bin .geq (.lit (.string a)) (.lit (.string b)) = .lit (.bool (!decide (key a < key b))) := by
 show AV.bool (!Op.bytesLess a.toList b.toList) = _; rw [less_eq, ByteArray.toList_eq, ByteArray.toList_eq]; rfl
@[simp] theorem av_un_not {p : Bool} : AV.un .not (.lit (.bool p)) = .lit (.bool (!p)) := rfl
@[simp] theorem av_unOk_not {p : Bool} : AV.unOk .not (.lit (.bool p)) ↔ True := Iff.rfl
@[simp] theorem av_un_neg {k : IntKind} {n : Int} : AV.un .neg (.lit (.int k n)) = .lit (.int k (k.wrap (0 - n))) := rfl
@[simp] theorem av_unOk_neg {k : IntKind} {n : Int} : AV.unOk .neg (.lit (.int k n)) ↔ True := Iff.rfl
@[simp] theorem av_eqB {p q : Bool} : AV.eqB (.lit (.bool p)) (.lit (.bool q)) = .lit (.bool (p == q)) := rfl
@[simp] theorem av_neB {p q : Bool} : AV.neB (.lit (.bool p)) (.lit (.bool q)) = .lit (.bool (!(p == q))) := rfl
@[simp] theorem av_binOk_adds : AV.binOk .add (.lit (.string a)) (.lit (.string b)) ↔ ((a.size + b.size : Nat) : Int) ≤ 9223372036854775807 := Iff.rfl
@[simp] theorem av_adds : AV.bin .add (.lit (.string a)) (.lit (.string b)) = .lit (.string (a ++ b)) := rfl
@[simp] theorem av_eqc_int {k k' : IntKind} {m n : Int} : AV.eqc (.lit (.int k m)) (.lit (.int k' n)) = (m == n) := rfl
@[simp] theorem av_eqc_bool {p q : Bool} : AV.eqc (.lit (.bool p)) (.lit (.bool q)) = (p == q) := rfl
@[simp] theorem av_eqc_str : AV.eqc (.lit (.string a)) (.lit (.string b)) = decide (a = b) := bytes_eq
@[simp] theorem av_okA_int {k k' : IntKind} {n : Int} : okA (.int k) (.lit (.int k' n)) ↔ k' = k := ⟨fun ⟨_, e⟩ => by injection e with e; injection e, fun e => by subst e; exact ⟨_, rfl⟩⟩
@[simp] theorem av_okA_str : okA .str (.lit (.string a)) ↔ True := ⟨fun _ => trivial, fun _ => ⟨_, rfl⟩⟩
@[simp] theorem av_okA_bool {p : Bool} : okA .bool (.lit (.bool p)) ↔ True := ⟨fun _ => trivial, fun _ => ⟨_, rfl⟩⟩
end
@[simp] theorem av_mkRef {cs : List AV} : AV.mkRef cs = .ref cs := rfl
@[simp] theorem av_mkClo {f : FuncId} {cs : List AV} : AV.mkClo f cs = .clo f cs := rfl
@[simp] theorem av_isRef {cs : List AV} {m : Nat} : AV.isRef (.ref cs) m ↔ cs.length = m := ⟨fun ⟨_, e, h⟩ => by injection e with e; rw [e]; exact h, fun h => ⟨cs, rfl, h⟩⟩
@[simp] theorem av_der {x : AV} {cs : List AV} : AV.der (.ref (x :: cs)) = x := rfl
@[simp] theorem av_derA {cs : List AV} : AV.derA (.ref cs) = .agg cs := rfl
def idxN {α : Type} (p : α → Bool) : Nat → List α → Int
 | _, [] => -1
 | n, x :: r => if p x = true then (n : Int) else idxN p (n + 1) r
theorem idxN_spec {α : Type} (p : α → Bool) : ∀ (l : List α) (n : Nat), (idxN p n l = -1 ∧ ∀ x ∈ l, p x = false) ∨ ∃ i x, idxN p n l = ((n + i : Nat) : Int) ∧ l[i]? = some x ∧ p x = true
 | [], n => .inl ⟨rfl, fun x h => by simp at h⟩
 | x :: r, n => by
  by_cases h : p x = true
  ·exact .inr ⟨0, x, by simp [idxN, h], rfl, h⟩
  ·have h' : p x = false := by simpa using h
   rcases idxN_spec p r (n + 1) with ⟨h1, h2⟩ | ⟨i, y, h1, h2, h3⟩
   ·exact .inl ⟨by simp [idxN, h', h1], fun z hz => (List.mem_cons.1 hz).elim (fun e => e ▸ h') (fun hz => h2 z hz)⟩
   ·exact .inr ⟨i + 1, y, by simp only [idxN, h', Bool.false_eq_true, if_false, h1]; congr 1; omega, by simpa using h2, h3⟩
inductive NL : AV → AV → Prop
 | refl (x : AV) : NL x x
 | nil (s : Nat) : NL (.lit (.slice none 0 0)) (.sl s [])
 | agg (cs ds : List AV) (h : cs.length = ds.length) (hi : ∀ i, i < cs.length → NL (cs.getD i default) (ds.getD i default)) : NL (.agg cs) (.agg ds)
 | sl (s : Nat) (L L' : List (List AV)) (hl : L.length = L'.length) (hs : ∀ x ∈ L', x.length = s) (hc : ∀ i j, i < L.length → j < s → NL (gt2 L i j) (gt2 L' i j)) : NL (.sl s L) (.sl s L')
theorem NL.rv {w : World} {ok : Nat → Prop} {x y : AV} {v : Value} (h : NL x y) (hv : RV w ok x v) : RV w ok y v := by
 induction h generalizing v with
 | refl x => exact hv
 | nil s => cases hv; exact .sl s [] none 0 0 (fun _ _ => undef) rfl (Nat.le_refl _) (by unfold maxLen; omega) (by simp) (fun q => absurd q (by omega)) (fun i j hi => absurd hi (by omega)) (fun i j hi => absurd hi (by omega))
 | agg cs ds h hi ih =>
  cases hv with
  | agg _ vs h1 h2 h3 => exact .agg ds vs (h1.trans h) (fun i q => h2 i (h ▸ q)) fun i q => ih i (h ▸ q) (h3 i (h ▸ q))
 | sl s L L' hl hs hc ih =>
  cases hv with
  | sl _ _ A n c us hn hnc hcm hs0 hA hone hu => exact .sl s L' A n c us (hl ▸ hn) hnc hcm hs hA hone fun i j hi hj => ih i j (by omega) hj (hu i j hi hj)
inductive NLs : List AV → List AV → Prop
 | nil : NLs [] []
 | cons {x y : AV} {l m : List AV} (h : NL x y) (t : NLs l m) : NLs (x :: l) (y :: m)
theorem NLs.get {l m : List AV} (h : NLs l m) : l.length = m.length ∧ ∀ i, i < l.length → NL (l.getD i default) (m.getD i default) := by
 induction h with
 | nil => exact ⟨rfl, fun i h => absurd h (by simp)⟩
 | cons h t ih =>
  refine ⟨by simp [ih.1], fun i hi => ?_⟩
  cases i with
  | zero => exact h
  | succ i => simpa using ih.2 i (by simpa using hi)
theorem NL.aggs {l m : List AV} (h : NLs l m) : NL (.agg l) (.agg m) := .agg _ _ h.get.1 h.get.2
theorem Fn.nl {P : Program} {f : FuncId} {args args' : List AV} {sh : Sh} {r : AV} (h : Fn P f args sh r) (hn : NLs args' args) : Fn P f args' sh r :=
 ⟨h.1, fun w ok cargs h1 hgl h2 h3 => h.2 w ok cargs h1 hgl (h2.trans hn.get.1) fun i hi => (hn.get.2 i (hn.get.1 ▸ hi)).rv (h3 i (hn.get.1 ▸ hi))⟩
end Go.Proofs.YtcifjnhpgblnkaaGreatDoor
namespace Go.Proofs.YtcifjnhpgblnkaaGreatDoor
open Go.RowKit
set_option linter.unusedVariables false
def I64 (n : Int) : Prop := -9223372036854775808 ≤ n ∧ n ≤ 9223372036854775807
theorem i64_of {n : Int} (h : (Lit.int .i64 n).wf = true) : I64 n := by
 have h' : (IntKind.i64.min ≤ n && n ≤ IntKind.i64.max) = true := h
 simp only [Bool.and_eq_true, decide_eq_true_eq] at h'
 have e1 : IntKind.i64.min = -9223372036854775808 := by decide
 have e2 : IntKind.i64.max = 9223372036854775807 := by decide
 rw [e1, e2] at h'
 exact h'
section
variable {P : Program} {u e : TypeId} {x : AV} {d : Nat}
theorem c_int (hu : P.underlying u = some (.int .i64)) (h : CellOk P (d + 1) u x) : ∃ n, x = .int n ∧ I64 n := by
 obtain ⟨n, e, hw⟩ := cell_int hu h
 exact ⟨n, e, i64_of hw⟩
theorem c_str (hu : P.underlying u = some .string) (h : CellOk P (d + 1) u x) : ∃ s : ByteArray, x = .string s ∧ s.size ≤ maxLen := cell_str hu h
theorem c_lst {α : Type} {encA : α → List AV} {Q : α → Prop} {tys : List TypeId} {s : Nat} (hu : P.underlying u = some (.slice e)) (ht : flatTy P 8 e = some tys) (hs : P.cellsOf e = s)
  (hd : ∀ y : List AV, y.length = tys.length → (∀ i u', tys[i]? = some u' → CellOk P d u' (y.getD i default)) → ∃ a, y = encA a ∧ Q a) (h : CellOk P (d + 1) u x) : ∃ l : List α, x = lst s encA l ∧ l.length ≤ maxLen ∧ ∀ a ∈ l, Q a := by
 obtain ⟨L, e1, h1, h2⟩ := cell_sl hu ht hs h
 obtain ⟨l, e2, h3⟩ := list_dec (L := L) (encA := encA) (Q := Q) fun y hy => hd y (h2 y hy).1 (h2 y hy).2
 subst e2
 exact ⟨l, e1, by simpa using h1, h3⟩
end
end Go.Proofs.YtcifjnhpgblnkaaGreatDoor
namespace Go.Proofs.YtcifjnhpgblnkaaGreatDoor
open Go.RowKit
set_option linter.unusedVariables false
set_option linter.unusedSimpArgs false
set_option maxRecDepth 100000
theorem args_one {w : World} {ok : Nat → Prop} {u : Value} {cargs : Array Value} (hsz : cargs.size = 1) (h : RV w ok (.lit u) (cargs.getD 0 undef)) : cargs = #[u] := by
 have := RV.lit_iff.1 h
 apply Array.ext
 ·exact hsz
 ·intro i h1 h2
  obtain rfl : i = 0 := by simp at h2; omega
  rw [Array.getD_eq_getD_getElem?, Array.getElem?_eq_getElem h1] at this
  exact this
theorem grow_below (w : World) (k : Nat) (os : Array Obj) : Below w.heap.size w (Sort.grow (w.drewN k) os) :=
  ⟨rfl, rfl, rfl, by show w.heap.size ≤ (w.heap ++ os).size; rw [Array.size_append]; omega, fun j hj => by
    show (w.heap ++ os)[j]? = _
    rw [Array.getElem?_append_left hj]⟩
theorem apart_sc {v : Value} {sh : Sh} (h : ∀ j i, isRow (leafSh j i sh) = false) : RowsApart v sh := fun j i j' i' hr => by rw [h] at hr; cases hr
def itoaS (n : Int) : ByteArray := ⟨(Lib.itoa n).toArray⟩
theorem itoa_fn (n : Int) (h0 : -9223372036854775808 ≤ n) (h1 : n ≤ 9223372036854775807) : Fn Tryz.prog 124 [.int n] .sc (.string (itoaS n)) := by
 refine ⟨Tryz.call124, fun w ok cargs hok hgl hsz hargs => ?_⟩
 obtain rfl := args_one hsz (hargs 0 (by simp))
 have htab : Lib.TabIs Tryz.prog w "internal/strconv.uint64pow10" .u64 Lib.pow10Tab := by
  obtain ⟨_, _, _, x, y, hb⟩ := hgl.1 (6, _) (.tail _ (.tail _ (.tail _ (.tail _ (.head _)))))
  show (Tryz.prog.globalNamed "internal/strconv.uint64pow10").bind _ = _
  rw [show Tryz.prog.globalNamed "internal/strconv.uint64pow10" = some 6 by kernel_rfl, Option.bind_some, hb]
  exact congrArg (fun l : List Value => some l.toArray) (by kernel_rfl)
 refine (Any.strconv_Itoa lays171 n h0 h1 w htab).mono ?_
 rintro e w' ⟨rfl, k, os, rfl⟩
 exact ⟨_, rfl, grow_below w k os, .lit _, apart_sc (fun j i => by cases j <;> cases i <;> rfl), Nat.le_add_right _ _⟩
theorem itoa_eq (n : Int) (h0 : -9223372036854775808 ≤ n) (h1 : n ≤ 9223372036854775807) {s : ByteArray} (h : itoaS n = s) : Fn Tryz.prog 124 [.int n] .sc (.string s) := h ▸ itoa_fn n h0 h1
theorem bw_below (w : World) (e : TypeId) (s : ByteArray) : Below w.heap.size w (Lib.bytesWorld w e s) :=
 ⟨rfl, rfl, rfl, by rw [Lib.bytesWorld_size]; omega, fun j hj => Lib.bytesWorld_at_old w e s j hj⟩
theorem atoi_fn {s : ByteArray} {n : Int} (hl : s.size ≤ 18) (h : Lib.atoi s.data.toList = some n) : Fn Tryz.prog 127 [.string s] (.tup [.sc, .sc]) (.tup [.int n, .lit .nilIface]) := by
 refine ⟨Tryz.call127, fun w ok cargs hok hgl hsz hargs => ?_⟩
 obtain rfl := args_one hsz (hargs 0 (by simp))
 refine (Any.strconv_Atoi lays172 s n hl h w).mono ?_
 rintro e w' ⟨rfl, t, rfl⟩
 refine ⟨_, rfl, bw_below w _ t, ⟨_, rfl, rfl, ⟨_, rfl, rfl⟩, fun i hi => ?_⟩, apart_sc (fun j i => ?_), Nat.le_succ _⟩
 ·have : i = 0 ∨ i = 1 := by simp at hi; omega
  rcases this with rfl | rfl <;> exact .lit _
 ·rcases j with _ | _ | j <;> cases i <;> rfl
end Go.Proofs.YtcifjnhpgblnkaaGreatDoor
namespace Go.Proofs.YtcifjnhpgblnkaaGreatDoor
open Go.RowKit
set_option linter.unusedVariables false
set_option linter.unusedSimpArgs false
/-! ### likeness -/
def all2 {α β : Type} (p : α → β → Bool) : List α → List β → Bool
 | [], [] => true
 | a :: l, b :: m => p a b && all2 p l m
 | _, _ => false
theorem all2_ok {α : Type} {p : α → α → Bool} (hp : ∀ a b, p a b = true → a = b) : ∀ (l m : List α), all2 p l m = true → l = m
 | [], [], _ => rfl
 | a :: l, b :: m, h => by
  simp only [all2, Bool.and_eq_true] at h
  rw [hp _ _ h.1, all2_ok hp l m h.2]
 | [], _ :: _, h => by cases h
 | _ :: _, [], h => by cases h
def sameV : Value → Value → Bool
 | .int k n, .int k' n' => decide (k = k') && decide (n = n')
 | .bool b, .bool b' => b == b'
 | .string a, .string b => a.data.toList == b.data.toList
 | .float k n, .float k' n' => decide (k = k') && decide (n = n')
 | .slice none 0 0, .slice none 0 0 => true
 | .nilIface, .nilIface => true
 | _, _ => false
theorem sameV_ok : ∀ (a b : Value), sameV a b = true → a = b := by
 intro a b h
 unfold sameV at h
 split at h
 ·simp only [Bool.and_eq_true, decide_eq_true_eq] at h
  rw [h.1, h.2]
 ·rename_i b b'
  have : b = b' := by simpa using h
  rw [this]
 ·rename_i a b
  have h : a.data.toList = b.data.toList := by simpa using h
  have : a = b := by
   cases a; cases b
   simp only [ByteArray.mk.injEq]
   exact Array.toList_inj.1 h
  rw [this]
 ·simp only [Bool.and_eq_true, decide_eq_true_eq] at h
  rw [h.1, h.2]
 ·rfl
 ·rfl
 ·cases h
def AV.same : Nat → AV → AV → Bool
 | 0, _, _ => false
 | n + 1, x, y => match x, y with
  | .lit a, .lit b => sameV a b
  | .sl s L, .sl s' L' => s == s' && all2 (all2 (AV.same n)) L L'
  | .agg l, .agg m => all2 (AV.same n) l m
  | .tup l, .tup m => all2 (AV.same n) l m
  | .ref l, .ref m => all2 (AV.same n) l m
  | .clo f l, .clo g m => f == g && all2 (AV.same n) l m
  | _, _ => false
theorem AV.same_ok : ∀ (n : Nat) (x y : AV), AV.same n x y = true → x = y := by
 intro n
 induction n with
 | zero => intro x y h; cases h
 | succ n ih =>
  intro x y h
  unfold AV.same at h
  split at h
  ·rw [sameV_ok _ _ h]
  ·simp only [Bool.and_eq_true, beq_iff_eq] at h
   rw [h.1, all2_ok (all2_ok ih) _ _ h.2]
  ·rw [all2_ok ih _ _ h]
  ·rw [all2_ok ih _ _ h]
  ·rw [all2_ok ih _ _ h]
  ·simp only [Bool.and_eq_true, beq_iff_eq] at h
   rw [h.1, all2_ok ih _ _ h.2]
  ·cases h
def nl1B (x y : AV) : Bool := match x, y with
 | .lit (.slice none 0 0), .sl _ [] => true
 | x, y => AV.same 16 x y
def nlB (x y : AV) : Bool := match x, y with
 | .agg cs, .agg ds => all2 nl1B cs ds
 | .sl s L, .sl s' L' => AV.same 16 (.sl s L) (.sl s' L') || (s == s' && (L'.all fun l => l.length == s) && all2 (all2 nl1B) L L')
 | x, y => nl1B x y
theorem nl1B_ok {x y : AV} (h : nl1B x y = true) : NL x y := by
 unfold nl1B at h
 split at h
 ·exact .nil _
 ·rw [AV.same_ok 16 _ _ h]; exact .refl _
theorem nls_ok {p : AV → AV → Bool} (hp : ∀ x y, p x y = true → NL x y) : ∀ (l m : List AV), all2 p l m = true → NLs l m
 | [], [], _ => .nil
 | a :: l, b :: m, h => by
  simp only [all2, Bool.and_eq_true] at h
  exact .cons (hp _ _ h.1) (nls_ok hp l m h.2)
 | [], _ :: _, h => by cases h
 | _ :: _, [], h => by cases h
theorem all2_get {α β : Type} {p : α → β → Bool} (a0 : α) (b0 : β) : ∀ (l : List α) (m : List β), all2 p l m = true → l.length = m.length ∧ ∀ i, i < l.length → p (l.getD i a0) (m.getD i b0) = true
 | [], [], _ => ⟨rfl, fun i h => absurd h (by simp)⟩
 | a :: l, b :: m, h => by
  simp only [all2, Bool.and_eq_true] at h
  obtain ⟨h1, h2⟩ := all2_get a0 b0 l m h.2
  refine ⟨by simp [h1], fun i hi => ?_⟩
  cases i with
  | zero => exact h.1
  | succ i => simpa using h2 i (by simpa using hi)
 | [], _ :: _, h => by cases h
 | _ :: _, [], h => by cases h
theorem nlB_ok (x y : AV) (h : nlB x y = true) : NL x y := by
 unfold nlB at h
 split at h
 ·exact NL.aggs (nls_ok (fun _ _ => nl1B_ok) _ _ h)
 ·rename_i s L s' L'
  rw [Bool.or_eq_true] at h
  rcases h with h | h
  ·rw [AV.same_ok 16 _ _ h]; exact .refl _
  ·simp only [Bool.and_eq_true, beq_iff_eq] at h
   obtain ⟨⟨rfl, h2⟩, h3⟩ := h
   have q := all2_get [] [] _ _ h3
   have hs : ∀ x ∈ L', x.length = s := fun x hx => by simpa using (List.all_eq_true.1 h2) x hx
   refine .sl s L L' q.1 hs fun i j hi hj => nl1B_ok ?_
   have g := all2_get default default _ _ (q.2 i hi)
   have hm : (L'.getD i []).length = s := by
    rw [List.getD_eq_getElem?_getD, List.getElem?_eq_getElem (by omega)]
    exact hs _ (List.getElem_mem _)
   exact g.2 j (by omega)
 ·exact nl1B_ok h
/-! ### what is known of the functions called -/
structure Ct (P : Program) where
 f : FuncId
 sh : Sh
 l : List {q : List AV × AV // Fn P f q.1 sh q.2}
structure Cx (P : Program) where
 f : FuncId
 l : List {q : List AV × AV // FnE P f q.1 q.2}
structure Uq where
 e : Nat
 s : Nat
 X : AV
 xs : List AV
 r : AV
structure Cu (P : Program) where
 f : FuncId
 ret : Bool
 l : List {q : Uq // FnU P f q.e q.s q.X q.xs ret q.r}
structure Nq where
 xs : List AV
 r : AV
structure Cn (P : Program) where
 f : FuncId
 e : Nat
 s : Nat
 j : Nat
 e' : Nat
 foc : Nat
 l : List {q : Nq // FnN P f q.xs e s j e' q.r}
structure Tb (P : Program) where
 T : List (Ct P)
 X : List (Cx P)
 U : List (Cu P)
 N : List (Cn P)
 C : List (FuncId × Nat × List Nat)
 E : List {f : FuncId // Ent P f}
def Tb.ga {P : Program} (t : Tb P) : FuncId → Option Ca := fun f => match t.T.find? (fun c => c.f == f) with
 | some c => some (.fn c.sh)
 | none => match t.X.find? (fun c => c.f == f) with
  | some _ => some .ext
  | none => match t.U.find? (fun c => c.f == f) with
   | some c => some (.upd c.ret)
   | none => match t.N.find? (fun c => c.f == f) with
    | some c => some (.nest c.e c.s c.j c.e' c.foc)
    | none => some .inl
def Tb.an {P : Program} (t : Tb P) : FuncId → Nat → LoopEx := fun f r => if 300000 ≤ r ∧ r < 400000 then ⟨[], ((t.C.find? fun c => c.1 == f && c.2.1 == r).map (·.2.2)).getD [], [], []⟩ else ⟨[], [], [], []⟩
def Tb.findN {P : Program} (t : Tb P) (f : FuncId) (e s j e' : Nat) (xs : List AV) : Option AV := match t.N.find? (fun c => c.f == f && (c.e == e && c.s == s && c.j == j && c.e' == e')) with
 | some c => (c.l.find? fun q => all2 (AV.same 16) q.1.xs xs).map (·.1.r)
 | none => none
theorem Tb.findN_ok {P : Program} (t : Tb P) {f : FuncId} {e s j e' : Nat} {xs : List AV} {r : AV} (h : t.findN f e s j e' xs = some r) : FnN P f xs e s j e' r := by
 unfold Tb.findN at h
 split at h
 ·rename_i c hc
  have hc := List.find?_some hc
  simp only [Bool.and_eq_true, beq_iff_eq] at hc
  obtain ⟨h1, ⟨⟨h2, h3⟩, h4⟩, h5⟩ := hc
  obtain ⟨q, hq, rfl⟩ := Option.map_eq_some_iff.1 h
  have hx := all2_ok (AV.same_ok 16) _ _ (List.find?_some (p := fun (q : {q : Nq // FnN P c.f q.xs c.e c.s c.j c.e' q.r}) => all2 (AV.same 16) q.1.xs xs) hq)
  obtain ⟨⟨qx, qr⟩, hqq⟩ := q
  have hx : qx = xs := hx
  subst h1 h2 h3 h4 h5 hx
  exact hqq
 ·cases h
def callOf (o : Op) (V : View) : Option (FuncId × List AV) := match o with
 | .call { callee := .value g, args, .. } => match V.ev g with
  | .fn f caps => match V.pls (args.toList.map V.ev ++ caps) with
   | some (xs, _) => some (f, xs)
   | none => none
  | _ => none
 | _ => none
def Tb.find {P : Program} (t : Tb P) (f : FuncId) (xs : List AV) : Option AV := match t.T.find? (fun c => c.f == f) with
 | some c => (c.l.find? fun q => all2 nlB xs q.1.1).map (·.1.2)
 | none => match t.X.find? (fun c => c.f == f) with
  | some c => (c.l.find? fun q => all2 (AV.same 16) q.1.1 xs).map (·.1.2)
  | none => none
def updOf {P : Program} (t : Tb P) (o : Op) (V : View) : Option (FuncId × Nat × Nat × AV × List AV) := match o with
 | .call { callee := .value g, args, .. } => match V.ev g with
  | .fn f caps => match t.ga f with
   | some (.upd _) => match args.toList.map V.ev ++ caps with
    | .row b n :: rest => match V.bl b, V.caps rest with
     | .row e s m X, some (xs, r) => if m = n ∧ ¬ r.contains b then some (f, e, s, X, xs) else none
     | _, _ => none
    | _ => none
   | _ => none
  | _ => none
 | _ => none
def Tb.findU {P : Program} (t : Tb P) (f : FuncId) (e s : Nat) (X : AV) (xs : List AV) : Option AV := match t.U.find? (fun c => c.f == f) with
 | some c => (c.l.find? fun q => (q.1.e == e && q.1.s == s) && (AV.same 16 q.1.X X && all2 (AV.same 16) q.1.xs xs)).map (·.1.r)
 | none => none
theorem Tb.findU_ok {P : Program} (t : Tb P) {o : Oper} {st : Nat} {V : View} {f : FuncId} {e s : Nat} {X : AV} {xs : List AV} {r : AV} {ob : AV → Prop} {δ : AV → Delta} (hc : updOf t o.op V = some (f, e, s, X, xs)) (hf : t.findU f e s X xs = some r) (ho : opD P t.ga o st V = .ex ob δ) : ob r := by
 unfold updOf at hc
 split at hc
 ·rename_i g args _ hop
  split at hc
  ·rename_i f' caps hev
   split at hc
   ·rename_i ret hga
    split at hc
    ·rename_i b n rest hargs
     split at hc
     ·rename_i e' s' m X' xs' r' hb hcaps
      split at hc
      ·rename_i hcond
       simp only [Option.some.injEq, Prod.mk.injEq] at hc
       obtain ⟨rfl, rfl, rfl, rfl, rfl⟩ := hc
       unfold opD at ho
       simp only [hop, hev, hga, hargs, hb, hcaps, if_pos hcond] at ho
       cases ho
       unfold Tb.findU at hf
       split at hf
       ·rename_i c hcf
        have hfc : c.f = f' := by simpa using List.find?_some hcf
        have hret : c.ret = ret := by
         unfold Tb.ga at hga
         split at hga
         ·cases hga
         ·split at hga
          ·cases hga
          ·rw [hcf] at hga
           simpa using hga
        obtain ⟨q, hq, rfl⟩ := Option.map_eq_some_iff.1 hf
        have hq := List.find?_some (p := fun (q : {q : Uq // FnU P c.f q.e q.s q.X q.xs c.ret q.r}) => (q.1.e == e' && q.1.s == s') && (AV.same 16 q.1.X X' && all2 (AV.same 16) q.1.xs xs')) hq
        obtain ⟨⟨qe, qs, qX, qx, qr⟩, hqq⟩ := q
        simp only [Bool.and_eq_true, beq_iff_eq] at hq
        obtain ⟨⟨h1, h2⟩, h3, h4⟩ := hq
        have h3 := AV.same_ok 16 _ _ h3
        have h4 := all2_ok (AV.same_ok 16) _ _ h4
        subst h1 h2 h3 h4 hfc hret
        exact hqq
       ·cases hf
      ·cases hc
     ·cases hc
    ·cases hc
   ·cases hc
  ·cases hc
 ·cases hc
theorem Tb.find_ok {P : Program} (t : Tb P) {o : Oper} {st : Nat} {V : View} {f : FuncId} {xs : List AV} {r : AV} {ob : AV → Prop} {δ : AV → Delta} (hc : callOf o.op V = some (f, xs)) (hf : t.find f xs = some r) (ho : opD P t.ga o st V = .ex ob δ) : ob r := by
 unfold callOf at hc
 split at hc
 ·rename_i g args x hop
  split at hc
  ·rename_i f' caps hev
   split at hc
   ·rename_i xs' r' hp
    simp only [Option.some.injEq, Prod.mk.injEq] at hc
    obtain ⟨rfl, rfl⟩ := hc
    unfold opD at ho
    simp only [hop, hev] at ho
    unfold Tb.find at hf
    unfold Tb.ga at ho
    split at hf
    ·rename_i c hcf
     simp only [hcf, hp] at ho
     have hfc : c.f = f' := by simpa using List.find?_some hcf
     obtain ⟨q, hq, rfl⟩ := Option.map_eq_some_iff.1 hf
     have hx : NLs xs' q.1.1 := nls_ok nlB_ok _ _ (List.find?_some (p := fun (q : {q : List AV × AV // Fn P c.f q.1 c.sh q.2}) => all2 nlB xs' q.1.1) hq)
     split at ho
     ·cases ho
      obtain ⟨⟨qx, qr⟩, hqq⟩ := q
      subst hfc
      exact hqq.nl hx
     ·cases ho
    ·rename_i hcf
     simp only [hcf] at ho
     split at hf
     ·rename_i c hcx
      simp only [hcx, hp] at ho
      have hfc : c.f = f' := by simpa using List.find?_some hcx
      obtain ⟨q, hq, rfl⟩ := Option.map_eq_some_iff.1 hf
      have hx : q.1.1 = xs' := all2_ok (AV.same_ok 16) _ _ (List.find?_some (p := fun (q : {q : List AV × AV // FnE P c.f q.1 q.2}) => all2 (AV.same 16) q.1.1 xs') hq)
      split at ho
      ·rename_i h1
       cases ho
       simp only [Option.some.injEq, Prod.mk.injEq] at h1
       obtain ⟨⟨qx, qr⟩, hqq⟩ := q
       have hx : qx = xs' := hx
       obtain ⟨h1, _⟩ := h1
       subst hx hfc
       rw [← h1]
       exact hqq
      ·cases ho
     ·cases hf
   ·cases hc
  ·cases hc
 ·cases hc
def clcOf (o : Op) (V : View) : Option (FuncId × List AV) := match o with
 | .call { callee := .value g, args, .. } => match V.ev g with
  | .v (.clo f cs) => match V.pls (args.toList.map V.ev) with
   | some (xs, []) => some (f, xs ++ cs)
   | _ => none
  | _ => none
 | _ => none
def Sh.isSc : Sh → Bool
 | .sc => true
 | _ => false
def Tb.findC {P : Program} (t : Tb P) (f : FuncId) (xs : List AV) : Option AV := match t.T.find? (fun c => c.f == f && c.sh.isSc) with
 | some c => (c.l.find? fun q => all2 (AV.same 16) q.1.1 xs).map (·.1.2)
 | none => none
theorem Tb.findC_ok {P : Program} (t : Tb P) {o : Oper} {st : Nat} {V : View} {f : FuncId} {xs : List AV} {r : AV} {ob : AV → Prop} {δ : AV → Delta} (hc : clcOf o.op V = some (f, xs)) (hf : t.findC f xs = some r) (ho : opD P t.ga o st V = .ex ob δ) : ob r := by
 unfold clcOf at hc
 split at hc
 ·rename_i g args x hop
  split at hc
  ·rename_i f' cs hev
   split at hc
   ·rename_i xs' hp
    simp only [Option.some.injEq, Prod.mk.injEq] at hc
    obtain ⟨rfl, rfl⟩ := hc
    unfold opD at ho
    simp only [hop, hev, hp] at ho
    cases ho
    unfold Tb.findC at hf
    split at hf
    ·rename_i c hcf
     have hcc := List.find?_some hcf
     simp only [Bool.and_eq_true, beq_iff_eq] at hcc
     obtain ⟨hfc, hsh⟩ := hcc
     obtain ⟨q, hq, rfl⟩ := Option.map_eq_some_iff.1 hf
     have hx := all2_ok (AV.same_ok 16) _ _ (List.find?_some (p := fun (q : {q : List AV × AV // Fn P c.f q.1 c.sh q.2}) => all2 (AV.same 16) q.1.1 (xs' ++ cs)) hq)
     obtain ⟨⟨qx, qr⟩, hqq⟩ := q
     have hx : qx = xs' ++ cs := hx
     obtain ⟨cf, csh, cl⟩ := c
     simp only at hfc hsh hqq
     subst hfc hx
     cases csh <;> first | exact ⟨_, _, rfl, hqq⟩ | cases hsh
    ·cases hf
   ·cases hc
  ·cases hc
 ·cases hc
def eq_ {P : Program} {f : FuncId} {e s j e' : Nat} {xs : List AV} {r : AV} (h : FnN P f xs e s j e' r) : {q : Nq // FnN P f q.xs e s j e' q.r} := ⟨⟨xs, r⟩, h⟩
def en {P : Program} {f : FuncId} {sh : Sh} {xs : List AV} {r : AV} (h : Fn P f xs sh r) : {q : List AV × AV // Fn P f q.1 sh q.2} := ⟨(xs, r), h⟩
def ex {P : Program} {f : FuncId} {xs : List AV} {r : AV} (h : FnE P f xs r) : {q : List AV × AV // FnE P f q.1 q.2} := ⟨(xs, r), h⟩
def eu {P : Program} {f : FuncId} {e s : Nat} {X : AV} {xs : List AV} {ret : Bool} {r : AV} (h : FnU P f e s X xs ret r) : {q : Uq // FnU P f q.e q.s q.X q.xs ret q.r} := ⟨⟨e, s, X, xs, r⟩, h⟩
def Tb.ent {P : Program} (t : Tb P) (f : FuncId) : Bool := t.E.any fun q => q.1 == f
theorem Tb.ent_ok {P : Program} (t : Tb P) {f : FuncId} (h : t.ent f = true) : Ent P f := by
 obtain ⟨q, _, hq⟩ := List.any_eq_true.1 h
 have : q.1 = f := by simpa using hq
 exact this ▸ q.2
--BEGIN EV
/-! ### the run -/
section
variable {R : Type} (allV : (Array Value → R) → R) (both : R → R → R) (no : String → R) (need : FuncId → List AV → R) (P : Program) (t : Tb P)
abbrev InlE (R : Type) := FuncId → List DE → DS → (DE → DS → R) → R
def obAll (l : List Ob) : Bool := l.all (·.b)
def stepE (inl : InlE R) (dr : Bool) (hint : Option Bool) (o : Oper) (σ : DS) (K : List (Nat × DB) → DS → R) : R :=
  match inlOf t.ga o.op (σ.view o.op) with
  | some (f, args) => match dr, t.ent f with
    | false, true => inl f args σ fun d σ' => K [] ({ σ'.put o.dst d with clk := σ'.clk + 64 })
    | true, _ => no "a call to walk into, in a region that draws its order"
    | false, false => need (f + 1000000) []
  | none => match nestOf t.ga o.op (σ.view o.op) with
   | some (f, xs, e, s, j, e', foc) => (match dr with
      | true => no "a nested row, in a region that draws its order"
      | false => match plain1 σ.fview (σ.tm.getD foc .any) with
        | some i => (match t.findN f e s j e' xs with
          | some y => (match (ob (y.inb i)).b with
            | true => K (nestD e s j e' σ.clk y i).bs ((nestD e s j e' σ.clk y i).app o.dst σ)
            | false => no "a nested row: out of range")
          | none => need (f + 3000000) (.int σ.clk :: xs))
        | none => no "a nested row: which one")
   | none => match nilOf P o.op (σ.view o.op) with
    | some (x, b) => (match dr with
      | true => no "nil, in a region that draws its order"
      | false => match (σ.view o.op).ev x with
        | .nil => K [] (Delta.app ⟨.c (.bool b), []⟩ o.dst σ)
        | d => match (σ.view o.op).pc d with
          | some (.sl _ (_ :: _), _) => K [] (Delta.app ⟨.c (.bool (!b)), []⟩ o.dst σ)
          | some (.sl _ [], _) => both (K [] (Delta.app ⟨.c (.bool b), []⟩ o.dst σ)) (K [] (Delta.app ⟨.c (.bool (!b)), []⟩ o.dst σ))
          | some (.lit (.slice none 0 0), _) => K [] (Delta.app ⟨.c (.bool b), []⟩ o.dst σ)
          | _ => no "a slice compared with nil")
    | none => match updOf t o.op { σ.view o.op with hint := hint } with
     | some (f, e, s, X, xs) => (match t.findU f e s X xs with
        | some r => (match opD P t.ga o σ.clk { σ.view o.op with hint := hint } with
          | .ex _ δ => K (δ r).bs ((δ r).app o.dst σ)
          | .det _ _ => no "a call"
          | .stuck why => no why)
        | none => need (f + 2000000) (X :: xs))
     | none => match callOf o.op { σ.view o.op with hint := hint } with
      | some (f, xs) => (match t.find f xs with
        | some r => (match opD P t.ga o σ.clk { σ.view o.op with hint := hint } with
          | .ex _ δ => K (δ r).bs ((δ r).app o.dst σ)
          | .det _ _ => no "a call"
          | .stuck why => no why)
        | none => need f xs)
      | none => match clcOf o.op { σ.view o.op with hint := hint } with
       | some (f, xs) => (match t.findC f xs with
         | some r => (match opD P t.ga o σ.clk { σ.view o.op with hint := hint } with
           | .ex _ δ => K (δ r).bs ((δ r).app o.dst σ)
           | .det _ _ => no "a call"
           | .stuck why => no why)
         | none => need f xs)
       | none => match opD P t.ga o σ.clk { σ.view o.op with hint := hint } with
        | .det obs δ => (match obAll obs with
          | true => K δ.bs (δ.app o.dst σ)
          | false => no "what an operation asks")
        | .ex _ _ => no "a call"
        | .stuck why => no why
def decE (x : AV) (a b : Unit → R) : R := match x with
 | .lit (.bool true) => a ()
 | .lit (.bool false) => b ()
 | _ => no "a choice"
def gateE (ops : List Oper) (dec : List (Nat × Bool)) (o : Oper) (σ : DS) (G : List (Nat × Bool) → Bool → R) : R :=
 match o.guard with
 | none => G dec true
 | some (j, want) => match slotOf ops j with
  | none => no "guard"
  | some t => match dec.lookup j with
   | some b => G dec (b == want)
   | none => match σ.tm.getD t .any with
    | .c (.bool b) => G dec (b == want)
    | .c (.tuple _) => G dec false
    | .v x => decE no x (fun _ => G ((j, true) :: dec) (true == want)) (fun _ => G ((j, false) :: dec) (false == want))
    | _ => no "guard"
def regE (inl : InlE R) (dr : Bool) (ops : List Oper) : List (Nat × Bool) → List Foot → List Oper → DS → (DS → R) → R
 | _, fs, [], σ, K => (match !dr || drawOk ops fs with | true => K σ | false => no "a region that draws its order")
 | dec, fs, o :: rest, σ, K => gateE no ops dec o σ fun dec' run =>
  match run with
  | true => stepE both no need P t inl dr (hintOf ops dec' o) o σ (fun bs σ' => regE inl dr ops (stillDec ops o dec') (fs ++ [footOf ops o σ bs]) rest σ' K)
  | false => regE inl dr ops (stillDec ops o dec') (fs ++ [footSkip ops o]) rest (σ.skip o.dst) K
def loopE (run : DS → (Exit → DS → R) → R) : Nat → DS → (Exit → DS → R) → R
 | 0, _, _ => no "too many rounds"
 | n + 1, σ, K => run σ fun e σ' => match e with | .normal => loopE run n σ' K | e => K e σ'
def runE (inl : InlE R) (fid : FuncId) : Code → DS → (Exit → DS → R) → R
 | .skip, σ, K => K .normal σ
 | .region i ops dr, σ, K => regE both no need P t inl dr ops.toList [] [] ops.toList (preFz dr ops.toList ((t.an fid (300000 + i)).rows.foldl closeH σ)) (K .normal)
 | .seq a b, σ, K => runE inl fid a σ fun e σ' => match e with | .normal => runE inl fid b σ' K | e => K e σ'
 | .cond c a b, σ, K => match σ.fview.ev c with
  | .c (.bool true) => runE inl fid a σ K
  | .c (.bool false) => runE inl fid b σ K
  | .v x => decE no x (fun _ => runE inl fid a σ K) (fun _ => runE inl fid b σ K)
  | _ => no "cond"
 | .block id a, σ, K => runE inl fid a σ fun e σ' => match e with | .exit i => (match decide (i = id) with | true => K .normal σ' | false => K (.exit i) σ') | e => K e σ'
 | .exit id, σ, K => K (.exit id) σ
 | .ret, σ, K => K .ret σ
 | .loop a, σ, K => loopE no (fun σ K => runE inl fid a σ K) 4096 σ K
 | _, _, _ => no "code"
def inE : Nat → InlE R
 | 0, _, _, _, _ => no "too deep"
 | n + 1, f, args, σ, K => match P.funcs[f]? with
  | none => no "no such function"
  | some fn => match fn.body with
   | none => no "no body"
   | some c => allV fun vs =>
    let σ1 : DS := { tm := args ++ List.replicate (fn.ntmps - args.length) (.c undef), bl := (σ.clk, .sv σ.tm vs) :: σ.bl, clk := σ.clk + 64, orc := σ.orc }
    runE both no need P t (inE n) f c σ1 fun e σ' => match exits e with
     | true => (match resultD P fn σ' with
      | some d => (match (preOf σ1 σ').contains σ.clk with
       | true => no "saved slots"
       | false => K d { tm := σ.tm, bl := (σ.clk, .dead) :: σ'.bl, clk := σ'.clk, orc := σ'.orc })
      | none => no "results")
     | false => no "exit"
def fnE (n : Nat) (f : FuncId) (fn : Func) (c : Code) (args : List AV) (sh : Sh) (fin : AV → R) : R :=
 runE both no need P t (inE allV both no need P t n) f c { tm := args.map .v ++ List.replicate (fn.ntmps - args.length) (.c undef), bl := [], clk := 1, orc := .ev } fun e σ' =>
  match exits e with
  | true => (match resultD P fn σ' with
   | some d => (match out2 σ'.fview d sh with
    | some (x, obs) => (match decide (rowIds d sh).Nodup && sh.small && obAll obs with
     | true => fin x
     | false => no "one row twice")
    | none => no "what goes out")
   | none => no "results")
  | false => no "exit"
end
--END EV
/-! ### it is a run -/
theorem obAll_ok {l : List Ob} (h : obAll l = true) {F : Prop} (hF : F) : obsF l F := by
 induction l with
 | nil => exact hF
 | cons p l ih =>
  simp only [obAll, List.all_cons, Bool.and_eq_true] at h
  exact ⟨p.ok h.1, ih h.2⟩
def allP (F : Array Value → Prop) : Prop := ∀ vs, F vs
def noP (_ : String) : Prop := False
def needP (_ : FuncId) (_ : List AV) : Prop := False
section
variable {P : Program} {t : Tb P}
def IE (inl : Inl) (inlE : InlE Prop) : Prop := ∀ (f : FuncId) (args : List DE) (σ : DS) (K K' : DE → DS → Prop), σ.orc = .ev → inlE f args σ K → (∀ d σ', σ'.orc = .ev → K d σ' → K' d σ') → inl f args σ K'
theorem stepE_ok {inl : Inl} {inlE : InlE Prop} (hI : IE inl inlE) {dr : Bool} {hint : Option Bool} {o : Oper} {σ : DS} {K K' : List (Nat × DB) → DS → Prop} (ho : σ.orc = .ev)
  (h : stepE And noP needP P t inlE dr hint o σ K) (hK : ∀ bs σ', σ'.orc = .ev → K bs σ' → K' bs σ') : stepF P t.ga inl dr hint o σ K' := by
 unfold stepE at h
 unfold stepF
 split at h
 ·rename_i f args he
  split at h
  ·rename_i _ _ hent
   simp only [he]
   refine ⟨t.ent_ok hent, hI _ _ _ _ _ ho h fun d σ' h1 h2 => hK _ _ ?_ h2⟩
   show ({ σ'.put o.dst d with clk := σ'.clk + 64 } : DS).orc = .ev
   exact h1
  ·exact h.elim
  ·exact h.elim
 ·rename_i he
  simp only [he]
  split at h
  ·rename_i f xs e s j e' foc hne
   simp only [hne]
   split at h
   ·exact h.elim
   ·simp only [Bool.false_eq_true, if_false]
    split at h
    ·rename_i i hi
     simp only [hi]
     split at h
     ·rename_i y hy
      split at h
      ·rename_i hb
       exact ⟨y, t.findN_ok hy, (ob (y.inb i)).ok hb, hK _ _ ho h⟩
      ·exact h.elim
     ·exact h.elim
    ·exact h.elim
  rename_i hne
  simp only [hne]
  split at h
  ·rename_i x b hn
   simp only [hn]
   split at h
   ·exact h.elim
   ·have hl : σ.lft = σ := by unfold DS.lft; cases σ; simp only at ho; subst ho; rfl
    have hr : σ.rgt = σ := by unfold DS.rgt; cases σ; simp only at ho; subst ho; rfl
    simp only [Bool.false_eq_true, if_false, hl, hr]
    split at h
    ·rename_i hv
     simp only [hv]
     exact hK _ _ ho h
    ·rename_i hv
     split at h
     ·rename_i hp
      split
      ·rename_i hv2; exact absurd hv2 hv
      ·simp only [hp]
       exact .inl ⟨⟨_, _, rfl⟩, (fun q => by cases q), hK _ _ ho h⟩
     ·rename_i hp
      split
      ·rename_i hv2; exact absurd hv2 hv
      ·simp only [hp]
       exact .inl ⟨⟨_, _, rfl⟩, (fun _ => hK _ _ ho h.1), hK _ _ ho h.2⟩
     ·rename_i hp
      split
      ·rename_i hv2; exact absurd hv2 hv
      ·simp only [hp]
       exact .inr ⟨rfl, hK _ _ ho h⟩
     ·exact h.elim
  ·rename_i hn
   simp only [hn]
   split at h
   ·rename_i f e s X xs hc
    split at h
    ·rename_i r hf
     split at h
     ·rename_i ob δ hop
      simp only [hop]
      exact ⟨r, t.findU_ok (V := { σ.view o.op with hint := hint }) hc hf hop, hK _ _ ho h⟩
     ·exact h.elim
     ·exact h.elim
    ·exact h.elim
   split at h
   ·rename_i f xs hc
    split at h
    ·rename_i r hf
     split at h
     ·rename_i ob δ hop
      simp only [hop]
      exact ⟨r, t.find_ok (V := { σ.view o.op with hint := hint }) hc hf hop, hK _ _ ho h⟩
     ·exact h.elim
     ·exact h.elim
    ·exact h.elim
   split at h
   ·rename_i f xs hc
    split at h
    ·rename_i r hf
     split at h
     ·rename_i ob δ hop
      simp only [hop]
      exact ⟨r, t.findC_ok (V := { σ.view o.op with hint := hint }) hc hf hop, hK _ _ ho h⟩
     ·exact h.elim
     ·exact h.elim
    ·exact h.elim
   ·split at h
    ·rename_i obs δ hop
     simp only [hop]
     split at h
     ·rename_i hb
      exact obAll_ok hb (hK _ _ ho h)
     ·exact h.elim
    ·exact h.elim
    ·exact h.elim
theorem decE_ok {σ : DS} {x : AV} {a b : Unit → Prop} {A B : DS → Prop} (ho : σ.orc = .ev) (h : decE noP x a b) (ha : a () → A σ) (hb : b () → B σ) : decF σ x A B := by
 unfold decF
 rw [ho]
 unfold decE at h
 split at h
 ·exact ⟨rfl, fun _ => ha h, fun q => by cases q⟩
 ·exact ⟨rfl, (fun q => by cases q), fun _ => hb h⟩
 ·exact h.elim
theorem gateE_ok {ops : List Oper} {dec : List (Nat × Bool)} {o : Oper} {σ : DS} {G : List (Nat × Bool) → Bool → Prop} {G' : DS → List (Nat × Bool) → Bool → Prop} (ho : σ.orc = .ev) (h : gateE noP ops dec o σ G) (hG : ∀ d r, G d r → G' σ d r) : gateF ops dec o σ G' := by
 unfold gateE at h
 unfold gateF
 split at h
 ·rename_i hg
  simp only [hg]
  exact hG _ _ h
 ·rename_i j want hg
  simp only [hg]
  split at h
  ·exact h.elim
  ·rename_i t hs
   simp only [hs]
   split at h
   ·rename_i b hl
    simp only [hl]
    exact hG _ _ h
   ·rename_i hl
    simp only [hl]
    split at h
    ·rename_i b hv
     simp only [hv]
     exact hG _ _ h
    ·rename_i hv
     simp only [hv]
     exact hG _ _ h
    ·rename_i x hv
     simp only [hv]
     exact decE_ok ho h (hG _ _) (hG _ _)
    ·exact h.elim
theorem regE_ok {inl : Inl} {inlE : InlE Prop} (hI : IE inl inlE) {dr : Bool} {ops : List Oper} : ∀ (rest : List Oper) (dec : List (Nat × Bool)) (fs : List Foot) (σ : DS) (K K' : DS → Prop), σ.orc = .ev →
  regE And noP needP P t inlE dr ops dec fs rest σ K → (∀ σ', σ'.orc = .ev → K σ' → K' σ') → regF P t.ga inl dr ops dec fs rest σ K'
 | [], dec, fs, σ, K, K', ho, h, hK => by
  unfold regE at h
  unfold regF
  split at h
  ·rename_i hb
   rw [if_pos hb]
   exact hK _ ho h
  ·exact h.elim
 | o :: rest, dec, fs, σ, K, K', ho, h, hK => by
  unfold regE at h
  unfold regF
  refine gateE_ok ho h fun dec' run h => ?_
  split at h
  ·simp only [if_true]
   exact stepE_ok hI ho h fun bs σ' ho' h => regE_ok hI rest _ _ _ _ _ ho' h hK
  ·simp only [Bool.false_eq_true, if_false]
   exact regE_ok hI rest _ _ _ _ _ ho h hK
theorem frzBox_orc (σ : DS) (t : Nat) : (frzBox σ t).orc = σ.orc := by
 unfold frzBox
 repeat' (split)
 all_goals rfl
theorem preFz_orc (dr : Bool) (ops : List Oper) (σ : DS) : (preFz dr ops σ).orc = σ.orc := by
 unfold preFz
 split
 ·rfl
 ·induction boxSrc ops generalizing σ with
  | nil => rfl
  | cons t l ih => rw [List.foldl_cons, ih, frzBox_orc]
theorem closeH_orc (σ : DS) (b : Nat) : (closeH σ b).orc = σ.orc := by
 unfold closeH
 repeat' (split)
 all_goals rfl
theorem closeHs_orc (l : List Nat) (σ : DS) : (l.foldl closeH σ).orc = σ.orc := by
 induction l generalizing σ with
 | nil => rfl
 | cons b l ih => rw [List.foldl_cons, ih, closeH_orc]
theorem loopE_ok {rE : DS → (Exit → DS → Prop) → Prop} {rF : DS → (Exit → DS → Prop) → Prop} (hr : ∀ (σ : DS) (K K' : Exit → DS → Prop), σ.orc = .ev → rE σ K → (∀ e σ', σ'.orc = .ev → K e σ' → K' e σ') → rF σ K') :
  ∀ (n : Nat) (σ : DS) (K K' : Exit → DS → Prop), σ.orc = .ev → loopE noP rE n σ K → (∀ e σ', σ'.orc = .ev → K e σ' → K' e σ') → loopN rF n σ K'
 | 0, _, _, _, _, h, _ => h.elim
 | n + 1, σ, K, K', ho, h, hK => by
  unfold loopE at h
  unfold loopN
  refine hr σ _ _ ho h fun e σ1 h1 hk => ?_
  cases e with
  | normal => exact loopE_ok hr n σ1 K K' h1 hk hK
  | exit i => exact hK _ _ h1 hk
  | ret => exact hK _ _ h1 hk
  | goto i => exact hK _ _ h1 hk
  | panic i => exact hK _ _ h1 hk
  | outgrown => exact hK _ _ h1 hk
theorem runE_ok {inl : Inl} {inlE : InlE Prop} (hI : IE inl inlE) (fid : FuncId) : ∀ (c : Code) (σ : DS) (K K' : Exit → DS → Prop), σ.orc = .ev → runE And noP needP P t inlE fid c σ K → (∀ e σ', σ'.orc = .ev → K e σ' → K' e σ') → runC P t.ga inl t.an fid c σ K'
 | .skip, σ, K, K', ho, h, hK => hK _ _ ho h
 | .region i ops dr, σ, K, K', ho, h, hK => by
  unfold runE at h
  simp only [runC]
  exact regE_ok hI _ _ _ _ _ _ ((preFz_orc _ _ _).trans ((closeHs_orc _ _).trans ho)) h fun σ' h1 hk => hK _ _ h1 hk
 | .seq a b, σ, K, K', ho, h, hK => by
  unfold runE at h
  simp only [runC]
  refine runE_ok hI fid a σ _ _ ho h fun e σ1 h1 hk => ?_
  cases e with
  | normal => exact runE_ok hI fid b σ1 K K' h1 hk hK
  | exit i => exact hK _ _ h1 hk
  | ret => exact hK _ _ h1 hk
  | goto i => exact hK _ _ h1 hk
  | panic i => exact hK _ _ h1 hk
  | outgrown => exact hK _ _ h1 hk
 | .cond c a b, σ, K, K', ho, h, hK => by
  unfold runE at h
  simp only [runC]
  split at h
  ·rename_i he
   simp only [he]
   exact runE_ok hI fid a σ K K' ho h hK
  ·rename_i he
   simp only [he]
   exact runE_ok hI fid b σ K K' ho h hK
  ·rename_i x he
   simp only [he]
   have hj : ¬ joinOn (t.an fid (400000 + Code.reg1 a)) (.cond c a b) = true := by
    unfold joinOn Tb.an
    rw [if_neg (by omega)]
    simp
   rw [if_neg hj]
   exact decE_ok ho h (fun h => runE_ok hI fid a σ K K' ho h hK) fun h => runE_ok hI fid b σ K K' ho h hK
  ·exact h.elim
 | .block id a, σ, K, K', ho, h, hK => by
  unfold runE at h
  simp only [runC]
  refine runE_ok hI fid a σ _ _ ho h fun e σ1 h1 hk => ?_
  cases e with
  | exit i =>
   simp only at hk ⊢
   split at hk
   ·rename_i hi
    rw [if_pos (of_decide_eq_true hi)]
    exact hK _ _ h1 hk
   ·rename_i hi
    rw [if_neg (of_decide_eq_false hi)]
    exact hK _ _ h1 hk
  | normal => exact hK _ _ h1 hk
  | ret => exact hK _ _ h1 hk
  | goto i => exact hK _ _ h1 hk
  | panic i => exact hK _ _ h1 hk
  | outgrown => exact hK _ _ h1 hk
 | .exit id, σ, K, K', ho, h, hK => hK _ _ ho h
 | .ret, σ, K, K', ho, h, hK => hK _ _ ho h
 | .loop a, σ, K, K', ho, h, hK => by
  unfold runE at h
  simp only [runC]
  have he : σ.evOn = true := by unfold DS.evOn; rw [ho]
  rw [he]
  exact loopE_ok (fun σ K K' ho h hK => runE_ok hI fid a σ K K' ho h hK) _ _ _ _ ho h hK
 | .rangeFunc g ps as_ body, σ, K, K', ho, h, hK => h.elim
 | .scope a, σ, K, K', ho, h, hK => h.elim
 | .label i, σ, K, K', ho, h, hK => h.elim
 | .goto i, σ, K, K', ho, h, hK => h.elim
 | .refuse s, σ, K, K', ho, h, hK => h.elim
theorem inE_ok : ∀ (n : Nat), IE (inF P t.ga t.an n) (inE allP And noP needP P t n)
 | 0 => fun f args σ K K' ho h hK => h.elim
 | n + 1 => fun f args σ K K' ho h hK => by
  unfold inE at h
  unfold inF
  have ha : ¬ (t.an f 999999).drop ≠ [] := by unfold Tb.an; rw [if_neg (by omega)]; simp
  rw [if_neg ha]
  split at h
  ·exact h.elim
  ·rename_i fn hfn
   simp only [hfn]
   split at h
   ·exact h.elim
   ·rename_i c hc
    simp only [hc]
    intro vs
    refine runE_ok (inE_ok n) f c _ _ _ ho (h vs) fun e σ' h1 hk => ?_
    split at hk
    ·rename_i hx
     simp only [hx, if_true]
     split at hk
     ·rename_i d hd
      simp only [hd]
      split at hk
      ·exact hk.elim
      ·rename_i hp
       rw [if_neg (by rw [hp]; simp)]
       exact hK _ _ h1 hk
     ·exact hk.elim
    ·exact hk.elim
def allM : Nat → Prop → Prop
 | 0, p => p
 | n + 1, p => Array Value → allM n p
inductive Tr where
 | n (k : Nat)
 | b (k : Nat) (l r : Tr)
def allT : Tr → Prop
 | .n k => allM k True
 | .b k l r => allM k (allT l ∧ allT r)
theorem allM_ok {p : Prop} (h : p) : ∀ n, allM n p
 | 0 => h
 | n + 1 => fun _ => allM_ok h n
theorem allT_ok : ∀ t, allT t
 | .n k => allM_ok trivial k
 | .b k l r => allM_ok ⟨allT_ok l, allT_ok r⟩ k
def finP (r x : AV) : Prop := match AV.same 16 x r with | true => True | false => False
theorem ev_run (hm : P.follows .mixedOrders = true) (t : Tb P) (n : Nat) (k : Tr) {f : FuncId} {fn : Func} {c : Code} (hf : P.funcs[f]? = some fn) (hb : fn.body = some c) (hent : Ent P f) {args : List AV} {sh : Sh} {r : AV}
  (h : fnE allP And noP needP P t n f fn c args sh (finP r) = allT k) : Fn P f args sh r := by
 have h : fnE allP And noP needP P t n f fn c args sh (finP r) := by rw [h]; exact allT_ok k
 refine fn_run hm n (Γ := t.ga) (ann := t.an) (orc := .ev) hf hb hent ?_
 unfold fnF
 unfold fnE at h
 refine runE_ok (inE_ok n) f c _ _ _ rfl h fun e σ' h1 hk => ?_
 split at hk
 ·rename_i hx
  simp only [hx, if_true]
  split at hk
  ·rename_i d hd
   simp only [hd]
   split at hk
   ·rename_i x obs ho
    simp only [ho]
    split at hk
    ·rename_i hb
     simp only [Bool.and_eq_true] at hb
     rw [if_pos (by simp only [Bool.and_eq_true]; exact hb.1)]
     refine obAll_ok hb.2 ?_
     unfold finP at hk
     split at hk
     ·rename_i hs
      exact AV.same_ok 16 _ _ hs
     ·exact hk.elim
    ·exact hk.elim
   ·exact hk.elim
  ·exact hk.elim
 ·exact hk.elim
end
end Go.Proofs.YtcifjnhpgblnkaaGreatDoor
namespace Go.Proofs.YtcifjnhpgblnkaaGreatDoor
open Go.RowKit
set_option linter.unusedVariables false
theorem x_bits (b : Nat) : FnE Tryz.prog 321 [.lit (.float .f64 b)] (.lit (.int .u64 (b : Nat))) :=
 fnE_of Tryz.func321 (e := Extern.MathFloatBits.float64bits) (by kernel_rfl) (by kernel_rfl) (by kernel_rfl) (by kernel_rfl) fun w => rfl
theorem x_from (n : Int) : FnE Tryz.prog 322 [.lit (.int .u64 n)] (.lit (.float .f64 n.toNat)) :=
 fnE_of Tryz.func322 (e := Extern.MathFloatBits.float64frombits) (by kernel_rfl) (by kernel_rfl) (by kernel_rfl) (by kernel_rfl) fun w => rfl
theorem x_floor {b c : Nat} (h : ∀ w : World, (Extern.MathFloor.toIntegral "math.archFloor" .down #[.float .f64 b]).run Tryz.prog w = .ok (.float .f64 c) w) : FnE Tryz.prog 308 [.lit (.float .f64 b)] (.lit (.float .f64 c)) :=
 fnE_of Tryz.func308 (e := Extern.MathFloor.toIntegral "math.archFloor" .down) (by kernel_rfl) (by kernel_rfl) (by kernel_rfl) (by kernel_rfl) h
end Go.Proofs.YtcifjnhpgblnkaaGreatDoor
namespace Go.Proofs.YtcifjnhpgblnkaaGreatDoor
open Go.RowKit
set_option linter.unusedVariables false
theorem fnE_of2 {P : Program} {f : FuncId} {fn : Func} {e : Array Value → Sem Value} (hf : P.funcs[f]? = some fn) (hname : (fn.name == "runtime.NumGoroutine") = false) (hb : fn.body.isNone = true) (hn : Extern.findNext fn = none) (he : Extern.find fn = some e)
  {u1 u2 v : Value} (hr : ∀ w : World, (e #[u1, u2]).run P w = .ok v w) : FnE P f [.lit u1, .lit u2] (.lit v) := by
 intro w ok cargs hsz hargs
 have h0 := RV.lit_iff.1 (hargs 0 (by simp))
 have h1 := RV.lit_iff.1 (hargs 1 (by simp))
 have hc : cargs = #[u1, u2] := by
  apply Array.ext_getElem?
  intro i
  have hsz' : cargs.size = 2 := hsz
  match i with
  | 0 => simpa [Array.getD, hsz'] using h0
  | 1 => simpa [Array.getD, hsz'] using h1
  | n + 2 => rw [Array.getElem?_eq_none (by omega), Array.getElem?_eq_none (by simp)]
 subst hc
 exact ⟨v, by rw [run_callFunc_extern hf hname hb hn he, hr w]; rfl, .lit _⟩
theorem x_cmp {a b : ByteArray} {n : Int} (h : ∀ w : World, (Extern.BytealgCompare.compare #[.string a, .string b]).run Tryz.prog w = .ok (.int .i64 n) w) : FnE Tryz.prog 262 [.string a, .string b] (.int n) :=
 fnE_of2 Tryz.func262 (e := Extern.BytealgCompare.compare) (by kernel_rfl) (by kernel_rfl) (by kernel_rfl) (by kernel_rfl) h
theorem x_count {a : ByteArray} {c n : Int} (h : ∀ w : World, (Extern.BytealgCount.count #[.string a, .int .u8 c]).run Tryz.prog w = .ok (.int .i64 n) w) : FnE Tryz.prog 239 [.string a, .lit (.int .u8 c)] (.int n) :=
 fnE_of2 Tryz.func239 (e := Extern.BytealgCount.count) (by kernel_rfl) (by kernel_rfl) (by kernel_rfl) (by kernel_rfl) h
theorem x_idx {a : ByteArray} {c n : Int} (h : ∀ w : World, (Extern.BytealgIndexByte.indexByte #[.string a, .int .u8 c]).run Tryz.prog w = .ok (.int .i64 n) w) : FnE Tryz.prog 316 [.string a, .lit (.int .u8 c)] (.int n) :=
 fnE_of2 Tryz.func316 (e := Extern.BytealgIndexByte.indexByte) (by kernel_rfl) (by kernel_rfl) (by kernel_rfl) (by kernel_rfl) h
end Go.Proofs.YtcifjnhpgblnkaaGreatDoor
namespace Go.Proofs.YtcifjnhpgblnkaaGreatDoor
open Go.RowKit
set_option linter.unusedVariables false
set_option maxRecDepth 100000
namespace ConF
def Γ : FuncId → Option Ca := fun f => some .inl
def ann : FuncId → Nat → LoopEx := fun f r => ⟨[], [], [], []⟩
theorem clg_form (x0 r : AV) : fnF Tryz.prog Γ ann 3 146 Tryz.f146 (Tryz.f146.body.getD .skip) (.nil) [x0] (.row 136 2 false) r = ((fNil x0
(fSame (AV.mk 2 []) r)
((AV.isSl x0 2) ∧
((AV.room (AV.mk 2 []) x0 40) ∧
(fSame (AV.app 2 (AV.mk 2 []) x0) r))))) := by kernel_rfl
theorem cls_form (x0 r : AV) : fnF Tryz.prog Γ ann 3 147 Tryz.f147 (Tryz.f147.body.getD .skip) (.nil) [x0] (.row 9 1 true) r = ((fNil x0
((AV.flatS (AV.mk 1 [])) ∧
(fSame (AV.mk 1 []) r))
((AV.isSl x0 1) ∧
((AV.room (AV.mk 1 []) x0 16) ∧
((AV.flatS (AV.app 1 (AV.mk 1 []) x0)) ∧
(fSame (AV.app 1 (AV.mk 1 []) x0) r)))))) := by kernel_rfl
end ConF
end Go.Proofs.YtcifjnhpgblnkaaGreatDoor
namespace Go.Proofs.YtcifjnhpgblnkaaGreatDoor
open Go.RowKit Go.Shelf
set_option linter.unusedVariables false
set_option linter.unusedSimpArgs false
set_option maxRecDepth 100000
structure Cg where
 p : ByteArray
 s : List ByteArray
deriving DecidableEq
def encB1 (s : ByteArray) : List AV := [.lit (.string s)]
def bs (l : List ByteArray) : AV := lst 1 encB1 l
def encG (g : Cg) : List AV := [.lit (.string g.p), bs g.s]
def cgs (l : List Cg) : AV := lst 2 encG l
theorem bs_flat (l : List ByteArray) : (bs l).flatS := lst_flatS fun x _ z hz => by simp [encB1] at hz; rw [hz]; exact .lit _
def Small (l : List Cg) : Prop := l.length ≤ 1000000 ∧ ∀ g ∈ l, g.s.length ≤ 1000000
theorem Small.at {l : List Cg} (h : Small l) {n : Nat} {g : Cg} (hg : l[n]? = some g) : g.s.length ≤ 1000000 := h.2 g (List.mem_of_getElem? hg)
theorem clg_fn (l : List Cg) (hl : l.length ≤ 1000000) : Fn Tryz.prog 146 [cgs l] (.row 136 2 false) (cgs l) := by
 refine fn_run mixed 3 (Γ := ConF.Γ) (ann := ConF.ann) Tryz.func146 rfl Tryz.call146 ((ConF.clg_form _ _).mpr ?_)
 simp [cgs, AV.room]
 simp [lst]
 omega
theorem cls_fn (l : List ByteArray) (hl : l.length ≤ 1000000) : Fn Tryz.prog 147 [bs l] (.row 9 1 true) (bs l) := by
 refine fn_run mixed 3 (Γ := ConF.Γ) (ann := ConF.ann) Tryz.func147 rfl Tryz.call147 ((ConF.cls_form _ _).mpr ?_)
 have hf := bs_flat l
 simp [bs, AV.room] at hf ⊢
 simp [lst] at hf ⊢
 exact ⟨by omega, hf⟩
structure CpJ (l : List Cg) (w w1 : World) (v : Value) (okp : Nat → Prop) (k : Nat) (wr : World) (xs : List Value) : Prop where
 own : wr.ownsRow w.heap.size 136 2 v l.length xs
 one : ∀ u ∈ xs, u.oneCell' = true
 pos : ∀ i g, l[i]? = some g → xs.getD (i * 2) undef = .string g.p
 old : ∀ i g, l[i]? = some g → k ≤ i → RV wr okp (bs g.s) (xs.getD (i * 2 + 1) undef)
 new : ∀ i g, l[i]? = some g → i < k → RRow wr w1.heap.size 9 1 noBlock (bs g.s) (xs.getD (i * 2 + 1) undef)
 apart : ∀ i i' g, i < k → i' < k → i ≠ i' → (xs.getD (i * 2 + 1) undef).ownBlock = some g → (xs.getD (i' * 2 + 1) undef).ownBlock ≠ some g
 bel : Below w.heap.size w wr
 low : w1.heap.size ≤ wr.heap.size
 drw : w.drawn ≤ wr.drawn
theorem getD_set_ne {ys : List Value} {j m : Nat} (u : Value) (h : m ≠ j) : (ys.set j u).getD m undef = ys.getD m undef := by
 simp only [List.getD_eq_getElem?_getD]
 rw [List.getElem?_set_ne (fun e => h e.symm)]
theorem getD_set_eq {ys : List Value} {j : Nat} (u : Value) (h : j < ys.length) : (ys.set j u).getD j undef = u := by
 simp only [List.getD_eq_getElem?_getD]
 rw [List.getElem?_set_self h]; rfl
theorem CpJ.step {l : List Cg} {w w1 wr w2 : World} {g c k : Nat} {okp : Nat → Prop} {ys : List Value} {x : Cg} {v2 : Value} (J : CpJ l w w1 (.slice (some ⟨g, 0, none⟩) l.length c) okp k wr ys) (hokp : ∀ b, okp b → g ≠ b ∧ b < w1.heap.size) (hgw : g < w1.heap.size) (hx : l[k]? = some x)
  (hb2 : Below wr.heap.size wr w2) (hR2 : RRow w2 wr.heap.size 9 1 noBlock (bs x.s) v2) (hd2 : wr.drawn ≤ w2.drawn) : CpJ l w w1 (.slice (some ⟨g, 0, none⟩) l.length c) okp (k + 1) (w2.setCell ⟨g, k * 2 + 1, none⟩ v2) (ys.set (k * 2 + 1) v2) := by
 have hk : k < l.length := (List.getElem?_eq_some_iff.1 hx).1
 have hyl : ys.length = l.length * 2 := J.own.1
 have hgr : g < wr.heap.size := Nat.lt_of_lt_of_le hgw J.low
 have hBg : w.heap.size ≤ g := (World.ownsRow.lt J.own g rfl).1
 have hown2 : w2.ownsRow w.heap.size 136 2 (.slice (some ⟨g, 0, none⟩) l.length c) l.length ys := ownsRow_keep J.own fun b hb => by
  injection hb with hb
  subst hb
  exact hb2.block _ hgr
 obtain ⟨s1, s2⟩ := hown2.stored (k * 2 + 1) v2
 have hother : ∀ b, b ≠ g → (w2.setCell ⟨g, k * 2 + 1, none⟩ v2).heap[b]? = w2.heap[b]? := fun b hb => heap_setCell_other w2 ⟨g, k * 2 + 1, none⟩ b v2 hb
 have hsz : (w2.setCell ⟨g, k * 2 + 1, none⟩ v2).heap.size = w2.heap.size := by simp [World.setCell]
 have hlow := J.low
 have hnewge : ∀ i y b, l[i]? = some y → i < k → (ys.getD (i * 2 + 1) undef).ownBlock = some b → w1.heap.size ≤ b ∧ b < wr.heap.size := fun i y b hy hi hb => (J.new i y hy hi).lt hb
 refine ⟨s1, fun u hu => ?_, fun i y hy => ?_, fun i y hy hi => ?_, fun i y hy hi => ?_, fun i i' b hi hi' hne hb => ?_, ?_, ?_, ?_⟩
 ·rcases List.mem_or_eq_of_mem_set hu with q | q
  ·exact J.one u q
  ·rw [q]; obtain ⟨A, n, c', rfl, _⟩ := hR2.form; rfl
 ·rw [getD_set_ne _ (by omega)]; exact J.pos i y hy
 ·rw [getD_set_ne _ (by omega)]
  refine (J.old i y hy (by omega)).mono fun b hb _ => ⟨hb, ?_⟩
  obtain ⟨q1, q2⟩ := hokp b hb
  rw [hother b (fun e => q1 e.symm)]
  exact hb2.block b (by omega)
 ·by_cases q : i = k
  ·subst q
   have : x = y := by rw [hx] at hy; injection hy
   subst this
   rw [getD_set_eq _ (by omega)]
   refine (hR2.keep (fun b hb => ?_) (fun b hb => hb.elim)).base hlow
   have := (hR2.lt hb).1
   exact hother b (by omega)
  ·rw [getD_set_ne _ (by omega)]
   refine (J.new i y hy (by omega)).keep (fun b hb => ?_) (fun b hb => hb.elim)
   have := hnewge i y b hy (by omega) hb
   rw [hother b (by omega)]
   exact hb2.block b (by omega)
 ·have hge : ∀ m, m < k → ∀ b, (ys.getD (m * 2 + 1) undef).ownBlock = some b → b < wr.heap.size := fun m hm b hb => by
   obtain ⟨y, hy⟩ : ∃ y, l[m]? = some y := ⟨_, List.getElem?_eq_getElem (by omega)⟩
   exact (hnewge m y b hy hm hb).2
  by_cases q : i = k
  ·subst q
   rw [getD_set_eq _ (by omega)] at hb
   rw [getD_set_ne _ (by omega)]
   intro hb'
   have h1 := (hR2.lt hb).1
   have h2 := hge i' (by omega) b hb'
   omega
  ·rw [getD_set_ne _ (by omega)] at hb
   by_cases q' : i' = k
   ·subst q'
    rw [getD_set_eq _ (by omega)]
    intro hb'
    have h1 := (hR2.lt hb').1
    have h2 := hge i (by omega) b hb
    omega
   ·rw [getD_set_ne _ (by omega)]
    exact J.apart i i' b (by omega) (by omega) hne hb
 ·have : Below w.heap.size wr w2 := ⟨hb2.os, hb2.tape, hb2.output, hb2.size, fun b hb => hb2.block b (by have := J.bel.size; omega)⟩
  exact (J.bel.trans this).setCell hBg v2
 ·rw [hsz]; exact Nat.le_trans hlow hb2.size
 ·exact Nat.le_trans J.drw hd2
theorem CpJ.done {l : List Cg} {w w1 wr : World} {v : Value} {okp : Nat → Prop} {ys : List Value} (J : CpJ l w w1 v okp l.length wr ys) (hle : w.heap.size ≤ w1.heap.size) (hv : ∀ g, v.ownBlock = some g → g < w1.heap.size) :
  Below w.heap.size w wr ∧ cgs l = AV.sl 2 (l.map encG) ∧ 0 < 2 ∧ 1 < 2 ∧ (∀ y ∈ l.map encG, y.length = 2) ∧ wr.ownsRow w.heap.size 136 2 v (l.map encG).length ys ∧ (∀ u ∈ ys, u.oneCell' = true) ∧
   (∀ i j', i < (l.map encG).length → j' < 2 → j' ≠ 1 → RV wr noBlock (gt2 (l.map encG) i j') (ys.getD (i * 2 + j') undef)) ∧ InnerOwn wr w.heap.size 9 2 1 v (l.map encG) ys ∧ w.drawn ≤ wr.drawn := by
 have hget : ∀ i, i < (l.map encG).length → ∃ y, l[i]? = some y := fun i hi => ⟨_, List.getElem?_eq_getElem (by simpa using hi)⟩
 have hgt : ∀ i y j, l[i]? = some y → gt2 (l.map encG) i j = (encG y).getD j default := fun i y j hy => by
  unfold gt2; simp [List.getD_eq_getElem?_getD, hy]
 refine ⟨J.bel, rfl, by omega, by omega, fun y hy => ?_, by rw [List.length_map]; exact J.own, J.one, fun i j' hi hj hne => ?_, ⟨fun i hi => ?_, fun i g hi hg e => ?_, fun i i' g hi hi' hne hg => ?_⟩, J.drw⟩
 ·obtain ⟨x, _, rfl⟩ := List.mem_map.1 hy; rfl
 ·obtain rfl : j' = 0 := by omega
  obtain ⟨y, hy⟩ := hget i hi
  rw [hgt i y 0 hy, Nat.add_zero, J.pos i y hy]
  exact .lit _
 ·obtain ⟨y, hy⟩ := hget i hi
  rw [hgt i y 1 hy]
  exact (J.new i y hy (by simpa using hi)).base hle
 ·obtain ⟨y, hy⟩ := hget i hi
  have h1 := ((J.new i y hy (by simpa using hi)).lt hg).1
  have h2 := hv g e
  omega
 ·exact J.apart i i' g (by simpa using hi) (by simpa using hi') hne hg
theorem gl_to {w w' : World} {ok ok' : Nat → Prop} (h : Gl w.heap.size w ok) (hb : Below w.heap.size w w') (hk : ∀ g, ok g → g < w.heap.size → ok' g) : Gl w'.heap.size w' ok' :=
  ⟨fun p hp => by
    obtain ⟨a, b, c, d⟩ := (Gl.later h hb).1 p hp
    exact ⟨Nat.lt_of_lt_of_le a hb.size, hk _ b a, c, d⟩, fun g hg => by
    obtain ⟨a, m⟩ := (Gl.later h hb).2 g hg
    exact ⟨Nat.lt_of_lt_of_le a hb.size, m⟩⟩
theorem copied_fn (l : List Cg) (hl : Small l) : FnN Tryz.prog 83 [cgs l] 136 2 1 9 (cgs l) := by
  refine ⟨Tryz.call83, fun w ok cargs hok hgl hsz hargs => calls_of_wp Tryz.func83 rfl ?_⟩
  obtain ⟨c0, rfl⟩ : ∃ c0, cargs = #[c0] := by
    obtain ⟨c⟩ := cargs
    match c, hsz with
    | [a], _ => exact ⟨a, rfl⟩
  have h0 : RV w ok (cgs l) c0 := hargs 0 (by simp)
  simp only [Tryz.ntmps83, List.size_toArray, List.length_cons, List.length_nil, Nat.reduceAdd, Nat.reduceSub, Array.replicate_succ, Array.replicate_zero, List.push_toArray, List.append_toArray, List.nil_append, List.cons_append]
  go_wp2_with fail
  refine ((clg_fn l hl.1).2 w ok #[c0] hok hgl rfl (fun i hi => by
    have : i = 0 := by simpa using hi
    subst this
    exact h0)).mono ?_
  rintro e w1 ⟨v, rfl, hb1, hR, _, hd1⟩
  obtain ⟨L, xs, eL, hs, hL, ho, hone, hv⟩ := hR
  obtain rfl : L = l.map encG := by injection eL with _ e; exact e.symm
  have hlen : (l.map encG).length = l.length := by simp
  rw [hlen] at ho
  have hcell0 : ∀ i g j, l[i]? = some g → j < 2 → RV w1 (okNew ok w.heap.size v (.row 136 2 false)) ((encG g).getD j default) (xs.getD (i * 2 + j) undef) := fun i g j hg hj => by
    have hi : i < l.length := (List.getElem?_eq_some_iff.1 hg).1
    have := hv i j (by simpa using hi) hj
    have e1 : gt2 (l.map encG) i j = (encG g).getD j default := by unfold gt2; simp [List.getD_eq_getElem?_getD, hg]
    rw [e1] at this
    exact this
  obtain ⟨okp, hokp⟩ : ∃ okp : Nat → Prop, okp = fun g => okNew ok w.heap.size v (.row 136 2 false) g ∧ g < w1.heap.size := ⟨_, rfl⟩
  have hokv : ∀ g, okp g → v.ownBlock ≠ some g ∧ g < w1.heap.size := fun g hg => by
    subst hokp
    refine ⟨fun e => ?_, hg.2⟩
    rcases hg.1 with q | ⟨q1, q2⟩
    · have := hok g q
      have := (World.ownsRow.lt ho g e).1
      omega
    · exact q2 ⟨0, 0, rfl, e⟩
  have J0 : CpJ l w w1 v okp 0 w1 xs := {
    own := ho
    one := hone
    pos := fun i g hg => RV.lit_iff.1 (hcell0 i g 0 hg (by omega))
    old := fun i g hg _ => (hcell0 i g 1 hg (by omega)).mono fun b hb hlt => ⟨by rw [hokp]; exact ⟨hb, hlt⟩, rfl⟩
    new := fun i g hg h => absurd h (by omega)
    apart := fun i i' g h => absurd h (by omega)
    bel := hb1
    low := Nat.le_refl _
    drw := hd1 }
  obtain ⟨A, c, hvf⟩ : ∃ A c, v = .slice A l.length c := by
    rcases ho.2 with ⟨e, h⟩ | ⟨g, cap, cur, e, _⟩
    · exact ⟨none, 0, by rw [e, h]⟩
    · exact ⟨_, _, e⟩
  have hl1 := hl.1
  have HL := Lib.hid hl
  have HO := Lib.hid hokv
  clear hargs h0 hcell0 hv hone ho hL hs eL hokv hl
  subst hvf
  go_wp2
  go_loopg [9] l.length (fun g i wr => ∃ k : Nat, g = l.length - k ∧ k ≤ l.length ∧ i = .int .i64 k ∧ ∃ xs', CpJ l w w1 (.slice A l.length c) okp k wr xs')
  case atStart => exact ⟨0, rfl, by omega, rfl, xs, J0⟩
  case round =>
    obtain ⟨k, rfl, hk, rfl, ys, J⟩ := hrel
    by_cases hlt : k < l.length
    · have hlt' : (k : Int) < l.length := by omega
      obtain ⟨x, hx⟩ : ∃ x, l[k]? = some x := ⟨_, List.getElem?_eq_getElem hlt⟩
      obtain ⟨g, cap, cur, e, hBg, hg, hnc, hcm, hsz2, htk⟩ : ∃ g cap cur, Value.slice A l.length c = .slice (some ⟨g, 0, none⟩) l.length cap ∧ w.heap.size ≤ g ∧ wr.heap[g]? = some (.cells cur 136 (0, 0)) ∧ l.length ≤ cap ∧ cap ≤ maxLen ∧ cur.size = cap * 2 ∧ cur.toList.take (l.length * 2) = ys := by
        rcases J.own.2 with ⟨_, h⟩ | h
        · omega
        · exact h
      injection e with e1 _ e2
      subst e1 e2
      have hcc : ∀ j, j < 2 → wr.cell? ⟨g, k * 2 + j, none⟩ = some (ys.getD (k * 2 + j) undef) := fun j hj => by
        rw [cell_of_row wr g _ cur 136 (0, 0) hg]
        have h1 : k * 2 + j < l.length * 2 := by omega
        have h2 : k * 2 + j < cur.size := by omega
        rw [← htk, List.getD_eq_getElem?_getD, List.getElem?_take, if_pos h1, Array.getElem?_toList, Array.getElem?_eq_getElem h2]
        rfl
      have hc1 := hcc 1 (by omega)
      have hokw : ∀ b, okp b → b < wr.heap.size := fun b hb => Nat.lt_of_lt_of_le (HO.out b hb).2 J.low
      have hu := J.old k x hx (Nat.le_refl _)
      have hgw : g < w1.heap.size := (World.ownsRow.lt J0.own g rfl).2
      have hokg : ∀ b, okp b → g ≠ b ∧ b < w1.heap.size := fun b hb => ⟨fun e => (HO.out b hb).1 (by rw [e]; rfl), (HO.out b hb).2⟩
      have HK := Lib.hid hokg
      have HU := Lib.hid hu
      have HW := Lib.hid hokw
      have HG : Hid (Gl wr.heap.size wr okp) := Lib.hid (gl_to hgl J.bel fun b hb hlt => by rw [hokp]; exact ⟨.inl hb, Nat.lt_of_lt_of_le hlt hb1.size⟩)
      clear hokg hu hokw
      go_wp2_with fail
      refine ((cls_fn x.s (HL.out.at hx)).2 wr okp #[ys[k * 2 + 1]?.getD undef] HW.out HG.out rfl (fun i hi => by
        have : i = 0 := by simpa using hi
        subst this
        exact HU.out)).mono ?_
      rintro e w2 ⟨v2, rfl, hb2, hR2, _, hd2⟩
      have hR2' : RRow w2 wr.heap.size 9 1 noBlock (bs x.s) v2 := hR2
      obtain ⟨A2, n2, c2, e2⟩ : ∃ A2 n2 c2, v2 = .slice A2 n2 c2 := by obtain ⟨A2, n2, c2, e2, _⟩ := hR2'.form; exact ⟨A2, n2, c2, e2⟩
      have J2 := J.step HK.out hgw hx hb2 hR2' hd2
      subst e2
      have hg2 : w2.heap[g]? = some (.cells cur 136 (0, 0)) := (hb2.block g (Nat.lt_of_lt_of_le hgw J.low)).trans hg
      have hks : k * 2 + 1 < cur.size := by omega
      have hc2 : w2.cell? ⟨g, k * 2 + 1, none⟩ = some cur[k * 2 + 1] := by
        rw [cell_of_row w2 g _ cur 136 (0, 0) hg2, Array.getElem?_eq_getElem hks]
      have hf2 : w2.frozen? ⟨g, k * 2 + 1, none⟩ = false := frozen_of_row w2 g _ cur 136 hg2
      have HJ := Lib.hid J2
      clear J2 hR2 hR2' hb2
      go_wp2
      go_roundg (l.length - (k + 1))
      case measure => omega
      case rel => exact ⟨k + 1, rfl, by omega, by go_num, _, HJ.out⟩
    · have hkk : k = l.length := by omega
      subst hkk
      have hfin := Lib.hid (J.done hb1.size fun g hg => (World.ownsRow.lt J0.own g hg).2)
      go_wp2
      go_ret
      exact ⟨_, _, _, rfl, hfin.out⟩
end Go.Proofs.YtcifjnhpgblnkaaGreatDoor
namespace Go.Proofs.YtcifjnhpgblnkaaGreatDoor
open Go.RowKit
set_option linter.unusedVariables false
set_option maxRecDepth 100000
namespace RbF
def Γ : FuncId → Option Ca := fun f =>
 if f = 78 ∨ f = 58 ∨ f = 123 ∨ f = 126 ∨ f = 119 ∨ f = 56 ∨ f = 120 ∨ f = 54 then some (.fn .sc)
 else if f = 14 ∨ f = 17 then some (.fn (.tup [.row 160 5 true, .sc]))
 else if f = 57 then some (.upd true)
 else some .inl
def ann : FuncId → Nat → LoopEx := fun f r => ⟨[], [], [], []⟩
theorem kind_form (x0 r : AV) : fnF Tryz.prog Γ ann 3 126 Tryz.f126 (Tryz.f126.body.getD .skip) (.nil) [x0] (.sc) r = ((let +zeta σ1 := (AV.mkRef [(AV.lit (Value.string ⟨#[72, 69, 73, 71, 72, 84]⟩)), (AV.lit (Value.string ⟨#[72, 69, 65, 68, 73, 78, 71]⟩)), (AV.lit (Value.string ⟨#[83, 80, 69, 69, 68]⟩)), (AV.lit (Value.string ⟨#[68, 73, 82, 69, 67, 84]⟩)), (AV.lit (Value.string ⟨#[72, 79, 76, 68]⟩)), (AV.lit (Value.string ⟨#[67, 79, 78, 84, 65, 67, 84]⟩)), (AV.lit (Value.string ⟨#[76, 65, 78, 68]⟩))])
((AV.isRef σ1 7) ∧
((fEnt Tryz.prog 140) ∧
(fAllV fun _ => (let +zeta σ2 := (AV.refSl σ1)
 let +zeta σ4 := (AV.isSl σ2 1)
(σ4 ∧
(fLoop 513 [(AV.int 0)] fun ys513 again513 =>
(let +zeta σ0 := (ys513.getD 0 default)
 let +zeta σ3 := (AV.len σ2)
((AV.binOk Go.BinOp.lss σ0 σ3) ∧
(let +zeta σ6 := (AV.bin Go.BinOp.lss σ0 σ3)
((AV.isBool σ6) ∧
(((isT σ6) →
(σ4 ∧
((AV.inb σ2 σ0) ∧
(let +zeta σ5 := (AV.at σ2 σ0 0)
((AV.binOk Go.BinOp.eql x0 σ5) ∧
(let +zeta σ7 := (AV.bin Go.BinOp.eql x0 σ5)
((AV.isBool σ7) ∧
(((isT σ7) →
((AV.flat σ0) ∧
(fSame σ0 r))) ∧
((isF σ7) →
((AV.binOk Go.BinOp.add σ0 (AV.int 1)) ∧
(again513 [(AV.bin Go.BinOp.add σ0 (AV.int 1))]))))))))))) ∧
((isF σ6) →
((AV.flat (AV.int (-1))) ∧
(fSame (AV.int (-1)) r)))))))))))))))) := by kernel_rfl
theorem name_form (x0 r : AV) : fnF Tryz.prog Γ ann 3 123 Tryz.f123 (Tryz.f123.body.getD .skip) (.nil) [x0] (.sc) r = ((∃ r129 : AV, ((Fn Tryz.prog 78 [x0] Sh.sc r129) ∧
((AV.isBool r129) ∧
(((isT r129) →
(∃ r321 : AV, ((Fn Tryz.prog 126 [x0] Sh.sc r321) ∧
((AV.binOk Go.BinOp.lss r321 (AV.int 0)) ∧
((AV.isBool r129) ∧
((isT r129) ∧
(let +zeta σ0 := (AV.bin Go.BinOp.lss r321 (AV.int 0))
((AV.flat σ0) ∧
(fSame σ0 r))))))))) ∧
((isF r129) →
((AV.isBool r129) ∧
((isF r129) ∧
((AV.flat (AV.bool false)) ∧
(fSame (AV.bool false) r)))))))))) := by kernel_rfl
theorem check_form (x0 r : AV) : fnF Tryz.prog Γ ann 3 58 Tryz.f58 (Tryz.f58.body.getD .skip) (.nil) [x0] (.sc) r = (((AV.isAgg x0 4) ∧
(∃ r257 : AV, ((Fn Tryz.prog 123 [(AV.cel x0 0)] Sh.sc r257) ∧
((AV.unOk Go.UnOp.not r257) ∧
(let +zeta σ2 := (AV.un Go.UnOp.not r257)
((AV.isBool σ2) ∧
(let +zeta σ4 := ((AV.flat (AV.int 3)) ∧
(fSame (AV.int 3) r))
(((isT σ2) →
 σ4) ∧
((isF σ2) →
(let +zeta σ0 := (AV.cel x0 1)
((AV.binOk Go.BinOp.lss σ0 (AV.int 0)) ∧
(let +zeta σ8 := (AV.bin Go.BinOp.lss σ0 (AV.int 0))
 let +zeta σ20 := (AV.isBool σ8)
(σ20 ∧
(let +zeta σ5 := ((AV.flat (AV.int 1)) ∧
(fSame (AV.int 1) r))
((let +zeta σ13 := (isT σ8)
(σ13 →
(σ20 ∧
(σ13 ∧
 σ5)))) ∧
(let +zeta σ14 := (isF σ8)
(σ14 →
((AV.binOk Go.BinOp.gtr σ0 (AV.int 6)) ∧
(σ20 ∧
(σ14 ∧
(let +zeta σ9 := (AV.bin Go.BinOp.gtr σ0 (AV.int 6))
((AV.isBool σ9) ∧
(((isT σ9) →
 σ5) ∧
((isF σ9) →
((AV.binOk Go.BinOp.gtr σ0 (AV.int 2)) ∧
(let +zeta σ10 := (AV.bin Go.BinOp.gtr σ0 (AV.int 2))
((AV.isBool σ10) ∧
(let +zeta σ1 := (AV.cel x0 2)
 let +zeta σ6 := ((AV.flat (AV.int 0)) ∧
(fSame (AV.int 0) r))
(((isT σ10) →
((AV.binOk Go.BinOp.neq σ1 (AV.int 0)) ∧
(let +zeta σ11 := (AV.bin Go.BinOp.neq σ1 (AV.int 0))
 let +zeta σ21 := (AV.isBool σ11)
(σ21 ∧
((let +zeta σ15 := (isT σ11)
(σ15 →
(σ21 ∧
(σ15 ∧
 σ4)))) ∧
(let +zeta σ16 := (isF σ11)
(σ16 →
(∃ r1665 : AV, ((Fn Tryz.prog 123 [(AV.cel x0 3)] Sh.sc r1665) ∧
((AV.unOk Go.UnOp.not r1665) ∧
(σ21 ∧
(σ16 ∧
(let +zeta σ3 := (AV.un Go.UnOp.not r1665)
((AV.isBool σ3) ∧
(((isT σ3) →
 σ4) ∧
((isF σ3) →
 σ6)))))))))))))))) ∧
((isF σ10) →
((AV.binOk Go.BinOp.neq (AV.cel x0 3) (AV.lit (Value.string ⟨#[]⟩))) ∧
(let +zeta σ23 := (AV.bin Go.BinOp.neq (AV.cel x0 3) (AV.lit (Value.string ⟨#[]⟩)))
((AV.isBool σ23) ∧
(((isT σ23) →
 σ4) ∧
((isF σ23) →
((AV.binOk Go.BinOp.lss σ1 (AV.int 0)) ∧
(let +zeta σ12 := (AV.bin Go.BinOp.lss σ1 (AV.int 0))
 let +zeta σ22 := (AV.isBool σ12)
(σ22 ∧
(let +zeta σ7 := ((AV.flat (AV.int 4)) ∧
(fSame (AV.int 4) r))
((let +zeta σ17 := (isT σ12)
(σ17 →
(σ22 ∧
(σ17 ∧
 σ7)))) ∧
(let +zeta σ18 := (isF σ12)
(σ18 →
((AV.inl 3 σ0) ∧
(let +zeta σ19 := (AV.mkRef [(AV.int 60000), (AV.int 4095), (AV.int 400)])
((AV.isRef σ19 3) ∧
((AV.refOk σ19 3 0 [(σ0, 1)]) ∧
(let +zeta σ24 := (AV.refNth σ19 0 [(σ0, 1)])
((AV.binOk Go.BinOp.gtr σ1 σ24) ∧
(σ22 ∧
(σ18 ∧
(let +zeta σ25 := (AV.bin Go.BinOp.gtr σ1 σ24)
((AV.isBool σ25) ∧
(((isT σ25) →
 σ7) ∧
((isF σ25) →
 σ6))))))))))))))))))))))))))))))))))))))))))))))))))))))) := by kernel_rfl
theorem index_form (x0 x1 r : AV) : fnF Tryz.prog Γ ann 3 56 Tryz.f56 (Tryz.f56.body.getD .skip) (.nil) [x0, x1] (.sc) r = (((AV.isAgg x1 4) ∧
((fEnt Tryz.prog 121) ∧
(fAllV fun _ => ((AV.isSl x0 5) ∧
(fLoop 577 [(AV.int 0)] fun ys577 again577 =>
(let +zeta σ0 := (ys577.getD 0 default)
((AV.binOk Go.BinOp.lss σ0 (AV.len x0)) ∧
(let +zeta σ4 := (AV.bin Go.BinOp.lss σ0 (AV.len x0))
((AV.isBool σ4) ∧
(((isT σ4) →
((AV.isSl x0 5) ∧
((AV.inb x0 σ0) ∧
((fEnt Tryz.prog 122) ∧
(fAllV fun _ => (let +zeta σ1 := (AV.atAgg x0 σ0 0 5)
((AV.isAgg σ1 5) ∧
(let +zeta σ2 := (AV.cel σ1 0)
((AV.binOk Go.BinOp.eql σ2 (AV.cel x1 0)) ∧
(let +zeta σ5 := (AV.bin Go.BinOp.eql σ2 (AV.cel x1 0))
 let +zeta σ9 := (AV.isBool σ5)
(σ9 ∧
(let +zeta σ10 := ((AV.binOk Go.BinOp.add σ0 (AV.int 1)) ∧
(again577 [(AV.bin Go.BinOp.add σ0 (AV.int 1))]))
((let +zeta σ7 := (isT σ5)
(σ7 →
(let +zeta σ3 := (AV.cel σ1 1)
((AV.binOk Go.BinOp.eql σ3 (AV.cel x1 1)) ∧
(σ9 ∧
(σ7 ∧
(let +zeta σ6 := (AV.bin Go.BinOp.eql σ3 (AV.cel x1 1))
((AV.isBool σ6) ∧
(((isT σ6) →
((AV.flat σ0) ∧
(fSame σ0 r))) ∧
((isF σ6) →
 σ10)))))))))) ∧
(let +zeta σ8 := (isF σ5)
(σ8 →
(σ9 ∧
(σ8 ∧
 σ10))))))))))))))))) ∧
((isF σ4) →
((AV.flat (AV.int (-1))) ∧
(fSame (AV.int (-1)) r)))))))))))))) := by kernel_rfl
theorem wrong_form (x0 x1 r : AV) : fnF Tryz.prog Γ ann 3 120 Tryz.f120 (Tryz.f120.body.getD .skip) (.nil) [x0, x1] (.sc) r = (((AV.binOk Go.BinOp.lss x1 (AV.int 0)) ∧
(let +zeta σ0 := (AV.bin Go.BinOp.lss x1 (AV.int 0))
 let +zeta σ8 := (AV.isBool σ0)
(σ8 ∧
(let +zeta σ12 := ((AV.flat (AV.bool true)) ∧
(fSame (AV.bool true) r))
((let +zeta σ2 := (isT σ0)
(σ2 →
(σ8 ∧
(σ2 ∧
 σ12)))) ∧
(let +zeta σ3 := (isF σ0)
(σ3 →
((AV.binOk Go.BinOp.gtr x1 (AV.int 200000)) ∧
(σ8 ∧
(σ3 ∧
(let +zeta σ1 := (AV.bin Go.BinOp.gtr x1 (AV.int 200000))
 let +zeta σ11 := (AV.isBool σ1)
(σ11 ∧
((let +zeta σ6 := (isT σ1)
(σ6 →
(σ11 ∧
(σ6 ∧
 σ12)))) ∧
(let +zeta σ7 := (isF σ1)
(σ7 →
((AV.isSl x0 5) ∧
((AV.binOk Go.BinOp.gtr (AV.len x0) (AV.int 0)) ∧
(let +zeta σ4 := (AV.bin Go.BinOp.gtr (AV.len x0) (AV.int 0))
 let +zeta σ13 := (AV.isBool σ4)
(σ13 ∧
((let +zeta σ9 := (isT σ4)
(σ9 →
((AV.isSl x0 5) ∧
((AV.binOk Go.BinOp.sub (AV.len x0) (AV.int 1)) ∧
((AV.isSl x0 5) ∧
(let +zeta σ5 := (AV.bin Go.BinOp.sub (AV.len x0) (AV.int 1))
((AV.inb x0 σ5) ∧
(let +zeta σ14 := (AV.at x0 σ5 4)
((AV.binOk Go.BinOp.lss x1 σ14) ∧
(σ13 ∧
(σ9 ∧
(σ11 ∧
(σ7 ∧
(let +zeta σ15 := (AV.bin Go.BinOp.lss x1 σ14)
((AV.flat σ15) ∧
(fSame σ15 r)))))))))))))))) ∧
(let +zeta σ10 := (isF σ4)
(σ10 →
(σ13 ∧
(σ10 ∧
(σ11 ∧
(σ7 ∧
((AV.flat (AV.bool false)) ∧
(fSame (AV.bool false) r))))))))))))))))))))))))))))) := by kernel_rfl
theorem rcheck_form (x0 r : AV) : fnF Tryz.prog Γ ann 3 119 Tryz.f119 (Tryz.f119.body.getD .skip) (.nil) [x0] (.sc) r = ((let +zeta σ0 := (AV.isSl x0 5)
(σ0 ∧
((AV.binOk Go.BinOp.gtr (AV.len x0) (AV.int 12)) ∧
(let +zeta σ5 := (AV.bin Go.BinOp.gtr (AV.len x0) (AV.int 12))
((AV.isBool σ5) ∧
(((isT σ5) →
((AV.flat (AV.int 2)) ∧
(fSame (AV.int 2) r))) ∧
((isF σ5) →
(σ0 ∧
(fLoop 449 [(AV.int 0)] fun ys449 again449 =>
(let +zeta σ1 := (ys449.getD 0 default)
((AV.binOk Go.BinOp.lss σ1 (AV.len x0)) ∧
(let +zeta σ8 := (AV.bin Go.BinOp.lss σ1 (AV.len x0))
((AV.isBool σ8) ∧
(((isT σ8) →
(σ0 ∧
((AV.inb x0 σ1) ∧
(let +zeta σ4 := (AV.atAgg x0 σ1 0 5)
((AV.isAgg σ4 5) ∧
(∃ r1025 : AV, (let +zeta σ9 := (AV.agg [(AV.cel σ4 0), (AV.cel σ4 1), (AV.cel σ4 2), (AV.cel σ4 3)])
((Fn Tryz.prog 58 [σ9] Sh.sc r1025) ∧
((AV.binOk Go.BinOp.neq r1025 (AV.int 0)) ∧
(let +zeta σ2 := (AV.bin Go.BinOp.neq r1025 (AV.int 0))
((AV.isBool σ2) ∧
(((isT σ2) →
((AV.flat r1025) ∧
(fSame r1025 r))) ∧
((isF σ2) →
(σ0 ∧
(let +zeta σ6 := (AV.subOk x0 (AV.int 0) σ1)
(σ6 ∧
(∃ r1601 : AV, (let +zeta σ7 := (AV.sub 5 x0 (AV.int 0) σ1)
((Fn Tryz.prog 120 [σ7, (AV.cel σ4 4)] Sh.sc r1601) ∧
((AV.isBool r1601) ∧
(((isT r1601) →
((AV.flat (AV.int 12)) ∧
(fSame (AV.int 12) r))) ∧
((isF r1601) →
(σ0 ∧
(σ6 ∧
(∃ r2049 : AV, ((Fn Tryz.prog 56 [σ7, σ9] Sh.sc r2049) ∧
((AV.binOk Go.BinOp.geq r2049 (AV.int 0)) ∧
(let +zeta σ3 := (AV.bin Go.BinOp.geq r2049 (AV.int 0))
((AV.isBool σ3) ∧
(((isT σ3) →
((AV.flat (AV.int 7)) ∧
(fSame (AV.int 7) r))) ∧
((isF σ3) →
((AV.binOk Go.BinOp.add σ1 (AV.int 1)) ∧
(again449 [(AV.bin Go.BinOp.add σ1 (AV.int 1))]))))))))))))))))))))))))))))))))) ∧
((isF σ8) →
((AV.flat (AV.int 0)) ∧
(fSame (AV.int 0) r)))))))))))))))))) := by kernel_rfl
theorem check2_form (x0 x1 x2 r : AV) : fnF Tryz.prog Γ ann 3 54 Tryz.f54 (Tryz.f54.body.getD .skip) (.nil) [x0, x1, x2] (.sc) r = (((AV.isAgg x1 4) ∧
(∃ r193 : AV, ((Fn Tryz.prog 119 [x0] Sh.sc r193) ∧
((AV.binOk Go.BinOp.neq r193 (AV.int 0)) ∧
(let +zeta σ0 := (AV.bin Go.BinOp.neq r193 (AV.int 0))
((AV.isBool σ0) ∧
(((isT σ0) →
((AV.flat r193) ∧
(fSame r193 r))) ∧
((isF σ0) →
(∃ r513 : AV, ((Fn Tryz.prog 58 [(AV.agg [(AV.cel x1 0), (AV.cel x1 1), (AV.cel x1 2), (AV.cel x1 3)])] Sh.sc r513) ∧
((AV.binOk Go.BinOp.neq r513 (AV.int 0)) ∧
(let +zeta σ1 := (AV.bin Go.BinOp.neq r513 (AV.int 0))
((AV.isBool σ1) ∧
(((isT σ1) →
((AV.flat r513) ∧
(fSame r513 r))) ∧
((isF σ1) →
(∃ r897 : AV, ((Fn Tryz.prog 120 [x0, x2] Sh.sc r897) ∧
((AV.isBool r897) ∧
(((isT r897) →
((AV.flat (AV.int 12)) ∧
(fSame (AV.int 12) r))) ∧
((isF r897) →
((AV.flat (AV.int 0)) ∧
(fSame (AV.int 0) r))))))))))))))))))))))) := by kernel_rfl
theorem say_form (x0 x1 x2 r : AV) : fnF Tryz.prog Γ ann 3 14 Tryz.f14 (Tryz.f14.body.getD .skip) (.nil) [x0, x1, x2] (.tup [.row 160 5 true, .sc]) r = (((AV.isAgg x1 4) ∧
(∃ r385 : AV, (let +zeta σ11 := (AV.agg [(AV.cel x1 0), (AV.cel x1 1), (AV.cel x1 2), (AV.cel x1 3)])
((Fn Tryz.prog 54 [x0, σ11, x2] Sh.sc r385) ∧
((AV.binOk Go.BinOp.neq r385 (AV.int 0)) ∧
(let +zeta σ5 := (AV.bin Go.BinOp.neq r385 (AV.int 0))
((AV.isBool σ5) ∧
(let +zeta σ0 := (AV.mk 5 [])
(((isT σ5) →
((AV.flatS σ0) ∧
((AV.flat r385) ∧
(fSame (AV.tup [σ0, r385]) r)))) ∧
((isF σ5) →
((fEnt Tryz.prog 55) ∧
(fAllV fun _ => (let +zeta σ1 := (AV.isOne x2)
 let +zeta σ2 := (AV.flat (AV.int 0))
 let +zeta σ13 := (AV.mk 5 [[(AV.cel x1 0), (AV.cel x1 1), (AV.cel x1 2), (AV.cel x1 3), x2]])
 let +zeta σ16 := ((AV.flatS σ0) ∧
((AV.flat (AV.int 9)) ∧
(fSame (AV.tup [σ0, (AV.int 9)]) r)))
(fNil x0
(∃ r1281 : AV, ((Fn Tryz.prog 56 [σ0, σ11] Sh.sc r1281) ∧
((AV.binOk Go.BinOp.geq r1281 (AV.int 0)) ∧
(let +zeta σ6 := (AV.bin Go.BinOp.geq r1281 (AV.int 0))
((AV.isBool σ6) ∧
(((isT σ6) →
((AV.binOk Go.BinOp.add r1281 (AV.int 1)) ∧
(∃ r1793 : AV, ((FnU Tryz.prog 57 160 5 σ0 [r1281, (AV.bin Go.BinOp.add r1281 (AV.int 1))] true r1793) ∧
((AV.binOk Go.BinOp.eql (AV.len r1793) (AV.int 12)) ∧
(let +zeta σ8 := (AV.bin Go.BinOp.eql (AV.len r1793) (AV.int 12))
((AV.isBool σ8) ∧
(((isT σ8) →
 σ16) ∧
((isF σ8) →
(σ1 ∧
((AV.room r1793 σ13 56) ∧
(let +zeta σ14 := (AV.app 5 r1793 σ13)
((AV.flatS σ14) ∧
(σ2 ∧
(fSame (AV.tup [σ14, (AV.int 0)]) r))))))))))))))) ∧
((isF σ6) →
((AV.binOk Go.BinOp.eql (AV.len σ0) (AV.int 12)) ∧
(let +zeta σ10 := (AV.bin Go.BinOp.eql (AV.len σ0) (AV.int 12))
((AV.isBool σ10) ∧
(((isT σ10) →
 σ16) ∧
((isF σ10) →
(σ1 ∧
((AV.room σ0 σ13 56) ∧
(let +zeta σ17 := (AV.app 5 σ0 σ13)
((AV.flatS σ17) ∧
(σ2 ∧
(fSame (AV.tup [σ17, (AV.int 0)]) r))))))))))))))))))
((AV.isSl x0 5) ∧
((AV.room σ0 x0 56) ∧
(∃ r1473 : AV, (let +zeta σ3 := (AV.app 5 σ0 x0)
((Fn Tryz.prog 56 [σ3, σ11] Sh.sc r1473) ∧
((AV.binOk Go.BinOp.geq r1473 (AV.int 0)) ∧
(let +zeta σ7 := (AV.bin Go.BinOp.geq r1473 (AV.int 0))
((AV.isBool σ7) ∧
(((isT σ7) →
((AV.binOk Go.BinOp.add r1473 (AV.int 1)) ∧
(∃ r1985 : AV, ((FnU Tryz.prog 57 160 5 σ3 [r1473, (AV.bin Go.BinOp.add r1473 (AV.int 1))] true r1985) ∧
((AV.binOk Go.BinOp.eql (AV.len r1985) (AV.int 12)) ∧
(let +zeta σ9 := (AV.bin Go.BinOp.eql (AV.len r1985) (AV.int 12))
((AV.isBool σ9) ∧
(((isT σ9) →
 σ16) ∧
((isF σ9) →
(σ1 ∧
((AV.room r1985 σ13 56) ∧
(let +zeta σ15 := (AV.app 5 r1985 σ13)
((AV.flatS σ15) ∧
(σ2 ∧
(fSame (AV.tup [σ15, (AV.int 0)]) r))))))))))))))) ∧
((isF σ7) →
(let +zeta σ4 := (AV.len σ3)
((AV.binOk Go.BinOp.eql σ4 (AV.int 12)) ∧
(let +zeta σ12 := (AV.bin Go.BinOp.eql σ4 (AV.int 12))
((AV.isBool σ12) ∧
(((isT σ12) →
 σ16) ∧
((isF σ12) →
(σ1 ∧
((AV.room σ3 σ13 56) ∧
(let +zeta σ18 := (AV.app 5 σ3 σ13)
((AV.flatS σ18) ∧
(σ2 ∧
(fSame (AV.tup [σ18, (AV.int 0)]) r))))))))))))))))))))))))))))))))))))) := by kernel_rfl
theorem hear_form (x0 x1 x2 r : AV) : fnF Tryz.prog Γ ann 3 17 Tryz.f17 (Tryz.f17.body.getD .skip) (.nil) [x0, x1, x2] (.tup [.row 160 5 true, .sc]) r = (((AV.isAgg x1 4) ∧
(∃ r385 : AV, (let +zeta σ12 := (AV.agg [(AV.cel x1 0), (AV.cel x1 1), (AV.cel x1 2), (AV.cel x1 3)])
((Fn Tryz.prog 54 [x0, σ12, x2] Sh.sc r385) ∧
((AV.binOk Go.BinOp.neq r385 (AV.int 0)) ∧
(let +zeta σ7 := (AV.bin Go.BinOp.neq r385 (AV.int 0))
((AV.isBool σ7) ∧
(let +zeta σ0 := (AV.mk 5 [])
 let +zeta σ2 := (AV.flatS σ0)
(((isT σ7) →
(σ2 ∧
((AV.flat r385) ∧
(fSame (AV.tup [σ0, r385]) r)))) ∧
((isF σ7) →
(∃ r769 : AV, ((Fn Tryz.prog 56 [x0, σ12] Sh.sc r769) ∧
((AV.binOk Go.BinOp.lss r769 (AV.int 0)) ∧
(let +zeta σ8 := (AV.bin Go.BinOp.lss r769 (AV.int 0))
((AV.isBool σ8) ∧
(((isT σ8) →
(σ2 ∧
((AV.flat (AV.int 8)) ∧
(fSame (AV.tup [σ0, (AV.int 8)]) r)))) ∧
((isF σ8) →
((AV.isSl x0 5) ∧
((AV.inb x0 r769) ∧
((AV.binOk Go.BinOp.sub x2 (AV.at x0 r769 4)) ∧
(let +zeta σ11 := (AV.bin Go.BinOp.sub x2 (AV.at x0 r769 4))
((AV.binOk Go.BinOp.gtr σ11 (AV.int 40)) ∧
(let +zeta σ13 := (AV.bin Go.BinOp.gtr σ11 (AV.int 40))
((AV.isBool σ13) ∧
(((isT σ13) →
(σ2 ∧
((AV.flat (AV.int 21)) ∧
(fSame (AV.tup [σ0, (AV.int 21)]) r)))) ∧
((isF σ13) →
((AV.isSl x0 5) ∧
((AV.inb x0 r769) ∧
(let +zeta σ1 := (AV.atAgg x0 r769 0 4)
 let +zeta σ3 := (AV.cel σ1 0)
 let +zeta σ4 := (AV.cel σ1 1)
 let +zeta σ5 := (AV.cel σ1 2)
 let +zeta σ6 := (AV.cel σ1 3)
((AV.eqPlOk [(0, EK.str), (1, (EK.int Go.IntKind.i64)), (2, (EK.int Go.IntKind.i64)), (3, EK.str)] [σ3, σ4, σ5, σ6] [(AV.cel x1 0), (AV.cel x1 1), (AV.cel x1 2), (AV.cel x1 3)]) ∧
((AV.isAgg σ1 4) ∧
(let +zeta σ14 := (AV.nePl [(0, EK.str), (1, (EK.int Go.IntKind.i64)), (2, (EK.int Go.IntKind.i64)), (3, EK.str)] [σ3, σ4, σ5, σ6] [(AV.cel x1 0), (AV.cel x1 1), (AV.cel x1 2), (AV.cel x1 3)])
((AV.isBool σ14) ∧
(((isT σ14) →
(σ2 ∧
((AV.flat (AV.int 17)) ∧
(fSame (AV.tup [σ0, (AV.int 17)]) r)))) ∧
((isF σ14) →
((fEnt Tryz.prog 55) ∧
(fAllV fun _ => (let +zeta σ9 := (AV.bin Go.BinOp.add r769 (AV.int 1))
 let +zeta σ10 := (AV.binOk Go.BinOp.add r769 (AV.int 1))
(fNil x0
(σ10 ∧
(∃ r2817 : AV, ((FnU Tryz.prog 57 160 5 σ0 [r769, σ9] true r2817) ∧
((AV.flatS r2817) ∧
((AV.flat (AV.int 0)) ∧
(fSame (AV.tup [r2817, (AV.int 0)]) r))))))
((AV.isSl x0 5) ∧
((AV.room σ0 x0 56) ∧
(σ10 ∧
(∃ r3009 : AV, ((FnU Tryz.prog 57 160 5 (AV.app 5 σ0 x0) [r769, σ9] true r3009) ∧
((AV.flatS r3009) ∧
((AV.flat (AV.int 0)) ∧
(fSame (AV.tup [r3009, (AV.int 0)]) r)))))))))))))))))))))))))))))))))))))))))))))))) := by kernel_rfl
end RbF
end Go.Proofs.YtcifjnhpgblnkaaGreatDoor
namespace Go.Proofs.YtcifjnhpgblnkaaGreatDoor
open Go.RowKit
set_option linter.unusedVariables false
set_option maxRecDepth 100000
namespace NameF
def Γ : FuncId → Option Ca := fun _ => none
def ann : FuncId → Nat → LoopEx := fun _ _ => ⟨[], [], [], []⟩
theorem name_form (x0 r : AV) : fnF Tryz.prog Γ ann 0 78 Tryz.f78 (Tryz.f78.body.getD .skip) (.nil) [x0] (.sc) r = (((AV.isStr x0) ∧
((AV.binOk Go.BinOp.lss (AV.slen x0) (AV.int 1)) ∧
(let +zeta σ6 := (AV.bin Go.BinOp.lss (AV.slen x0) (AV.int 1))
 let +zeta σ13 := (AV.isBool σ6)
(σ13 ∧
(let +zeta σ11 := ((AV.flat (AV.bool false)) ∧
(fSame (AV.bool false) r))
((let +zeta σ9 := (isT σ6)
(σ9 →
(σ13 ∧
(σ9 ∧
 σ11)))) ∧
(let +zeta σ10 := (isF σ6)
(σ10 →
((AV.isStr x0) ∧
((AV.binOk Go.BinOp.gtr (AV.slen x0) (AV.int 8)) ∧
(σ13 ∧
(σ10 ∧
(let +zeta σ7 := (AV.bin Go.BinOp.gtr (AV.slen x0) (AV.int 8))
((AV.isBool σ7) ∧
(((isT σ7) →
 σ11) ∧
((isF σ7) →
((AV.isStr x0) ∧
((AV.bytesOk x0) ∧
(let +zeta σ0 := (AV.bytes x0)
((AV.isSl σ0 1) ∧
(fLoop 833 [(AV.int 0)] fun ys833 again833 =>
(let +zeta σ1 := (ys833.getD 0 default)
((AV.binOk Go.BinOp.lss σ1 (AV.len σ0)) ∧
(let +zeta σ17 := (AV.bin Go.BinOp.lss σ1 (AV.len σ0))
((AV.isBool σ17) ∧
(((isT σ17) →
((AV.isSl σ0 1) ∧
((AV.inb σ0 σ1) ∧
(let +zeta σ2 := (AV.lit (Value.int Go.IntKind.u8 65))
 let +zeta σ8 := (AV.at σ0 σ1 0)
((AV.binOk Go.BinOp.geq σ8 σ2) ∧
(let +zeta σ19 := (AV.bin Go.BinOp.geq σ8 σ2)
 let +zeta σ31 := (AV.isBool σ19)
(σ31 ∧
(let +zeta σ4 := (AV.lit (Value.int Go.IntKind.u8 48))
 let +zeta σ5 := (AV.lit (Value.int Go.IntKind.u8 57))
 let +zeta σ12 := (AV.bin Go.BinOp.gtr σ1 (AV.int 0))
 let +zeta σ14 := (AV.binOk Go.BinOp.gtr σ1 (AV.int 0))
 let +zeta σ15 := (isT σ12)
 let +zeta σ16 := (isF σ12)
 let +zeta σ18 := (AV.isBool σ12)
 let +zeta σ21 := (AV.bin Go.BinOp.geq σ8 σ4)
 let +zeta σ22 := (AV.bin Go.BinOp.leq σ8 σ5)
 let +zeta σ23 := (AV.binOk Go.BinOp.geq σ8 σ4)
 let +zeta σ24 := (AV.binOk Go.BinOp.leq σ8 σ5)
 let +zeta σ28 := (isT σ21)
 let +zeta σ29 := (isF σ21)
 let +zeta σ33 := (AV.isBool σ21)
 let +zeta σ34 := (AV.un Go.UnOp.not σ22)
 let +zeta σ35 := ((AV.binOk Go.BinOp.add σ1 (AV.int 1)) ∧
(again833 [(AV.bin Go.BinOp.add σ1 (AV.int 1))]))
 let +zeta σ37 := ((AV.unOk Go.UnOp.not σ22) ∧
((AV.isBool σ34) ∧
(((isT σ34) →
 σ11) ∧
((isF σ34) →
 σ35))))
((let +zeta σ25 := (isT σ19)
(σ25 →
(let +zeta σ3 := (AV.lit (Value.int Go.IntKind.u8 90))
((AV.binOk Go.BinOp.leq σ8 σ3) ∧
(σ31 ∧
(σ25 ∧
(let +zeta σ20 := (AV.bin Go.BinOp.leq σ8 σ3)
 let +zeta σ32 := (AV.isBool σ20)
(σ32 ∧
((let +zeta σ26 := (isT σ20)
(σ26 →
(σ32 ∧
(σ26 ∧
 σ35)))) ∧
(let +zeta σ27 := (isF σ20)
(σ27 →
(σ14 ∧
(σ18 ∧
(let +zeta σ36 := (σ32 ∧
(σ27 ∧
 σ11))
((σ15 →
(σ23 ∧
(σ18 ∧
(σ15 ∧
(σ33 ∧
((σ28 →
(σ24 ∧
(σ33 ∧
(σ28 ∧
(σ32 ∧
(σ27 ∧
 σ37)))))) ∧
(σ29 →
(σ33 ∧
(σ29 ∧
 σ36))))))))) ∧
(σ16 →
(σ18 ∧
(σ16 ∧
 σ36)))))))))))))))))) ∧
(let +zeta σ30 := (isF σ19)
(σ30 →
(σ31 ∧
(σ30 ∧
(σ14 ∧
(σ18 ∧
((σ15 →
(σ23 ∧
(σ18 ∧
(σ15 ∧
(σ33 ∧
((σ28 →
(σ24 ∧
(σ33 ∧
(σ28 ∧
 σ37)))) ∧
(σ29 →
(σ33 ∧
(σ29 ∧
 σ11))))))))) ∧
(σ16 →
(σ18 ∧
(σ16 ∧
 σ11))))))))))))))))))) ∧
((isF σ17) →
((AV.flat (AV.bool true)) ∧
(fSame (AV.bool true) r)))))))))))))))))))))))))))))) := by kernel_rfl
end NameF
end Go.Proofs.YtcifjnhpgblnkaaGreatDoor
namespace Go.Proofs.YtcifjnhpgblnkaaGreatDoor
open Go.RowKit
set_option linter.unusedVariables false
set_option linter.unusedSimpArgs false
set_option maxRecDepth 100000
def up (c : UInt8) : Prop := 65 ≤ c.toNat ∧ c.toNat ≤ 90
def dig (c : UInt8) : Prop := 48 ≤ c.toNat ∧ c.toNat ≤ 57
instance (c : UInt8) : Decidable (up c) := inferInstanceAs (Decidable (_ ∧ _))
instance (c : UInt8) : Decidable (dig c) := inferInstanceAs (Decidable (_ ∧ _))
def nameG : Nat → List UInt8 → Bool
 | _, [] => true
 | n, x :: rest => decide (up x ∨ (0 < n ∧ dig x)) && nameG (n + 1) rest
def isName (s : ByteArray) : Bool := decide (1 ≤ s.size ∧ s.size ≤ 8) && nameG 0 (key s)
@[simp] theorem key_len (s : ByteArray) : (key s).length = s.size := Array.length_toList
def encB (c : UInt8) : List AV := [.lit (.int .u8 c.toNat)]
theorem bytes_lst (s : ByteArray) : AV.bytes (.lit (.string s)) = lst 1 encB (key s) := rfl
theorem isName_eq (s : ByteArray) (h1 : 1 ≤ s.size) (h2 : s.size ≤ 8) : isName s = nameG 0 (key s) := by
 unfold isName; rw [decide_eq_true ⟨h1, h2⟩, Bool.true_and]
theorem isName_no (s : ByteArray) (h : ¬ (1 ≤ s.size ∧ s.size ≤ 8)) : isName s = false := by
 unfold isName; rw [decide_eq_false h, Bool.false_and]
theorem name_fn (s : ByteArray) : Fn Tryz.prog 78 [.string s] .sc (.bool (isName s)) := by
 refine fn_run mixed 0 (Γ := NameF.Γ) (ann := NameF.ann) Tryz.func78 rfl Tryz.call78 ((NameF.name_form _ _).mpr ?_)
 simp [bytes_lst, AV.bytesOk]
 refine ⟨fun h => ⟨h, ?_⟩, fun h => ⟨h, fun h2 => ?_, fun h2 => ⟨by omega, ?_⟩⟩⟩
 ·exact isName_no s (by omega)
 ·exact isName_no s (by omega)
 ·have hE := isName_eq s (by omega) (by omega)
  refine loop_list (σ := Unit) (key s) (fun n _ => [.int (n : Nat)]) (fun n rest _ => isName s = nameG n rest) () rfl hE ?_ ?_
  ·intro n x rest _ K hx hr hn hg hK
   rw [nameG] at hg
   rw [key_len] at hn
   have bad : ¬ (up x ∨ (0 < n ∧ dig x)) → isName s = false := fun h => by rw [hg, decide_eq_false h]; rfl
   have good : (up x ∨ (0 < n ∧ dig x)) → K [.int ((n : Nat) + 1)] := fun h => hK _ () (by simp) (by rw [hg, decide_eq_true h, Bool.true_and])
   unfold up dig at bad good
   simp [hn, lst_at hx, encB]
   (repeat' (first | exact trivial | (with_reducible intro hw; (try simp (disch := omega) only [wrap64] at hw); first | (exfalso; omega; done) | skip) | (with_reducible refine And.intro ?_ ?_) | omega | assumption))
   all_goals (first | exact bad (by omega) | (rw [wrap64 (by omega) (by omega)]; exact good (by omega)))
  ·intro _ K hg
   rw [key_len]
   simp [hg, nameG]
end Go.Proofs.YtcifjnhpgblnkaaGreatDoor
namespace Go.Proofs.YtcifjnhpgblnkaaGreatDoor
open Go.RowKit
set_option linter.unusedVariables false
set_option linter.unusedSimpArgs false
set_option maxRecDepth 100000
def wds : List ByteArray := [⟨#[72, 69, 73, 71, 72, 84]⟩, ⟨#[72, 69, 65, 68, 73, 78, 71]⟩, ⟨#[83, 80, 69, 69, 68]⟩, ⟨#[68, 73, 82, 69, 67, 84]⟩, ⟨#[72, 79, 76, 68]⟩, ⟨#[67, 79, 78, 84, 65, 67, 84]⟩, ⟨#[76, 65, 78, 68]⟩]
def encS (x : ByteArray) : List AV := [.string x]
theorem wds_ref : AV.refSl (.ref [.lit (.string ⟨#[72, 69, 73, 71, 72, 84]⟩), .lit (.string ⟨#[72, 69, 65, 68, 73, 78, 71]⟩), .lit (.string ⟨#[83, 80, 69, 69, 68]⟩), .lit (.string ⟨#[68, 73, 82, 69, 67, 84]⟩), .lit (.string ⟨#[72, 79, 76, 68]⟩), .lit (.string ⟨#[67, 79, 78, 84, 65, 67, 84]⟩), .lit (.string ⟨#[76, 65, 78, 68]⟩)]) = lst 1 encS wds := rfl
theorem wds_isref : AV.isRef (.ref [.lit (.string ⟨#[72, 69, 73, 71, 72, 84]⟩), .lit (.string ⟨#[72, 69, 65, 68, 73, 78, 71]⟩), .lit (.string ⟨#[83, 80, 69, 69, 68]⟩), .lit (.string ⟨#[68, 73, 82, 69, 67, 84]⟩), .lit (.string ⟨#[72, 79, 76, 68]⟩), .lit (.string ⟨#[67, 79, 78, 84, 65, 67, 84]⟩), .lit (.string ⟨#[76, 65, 78, 68]⟩)]) 7 := ⟨_, rfl, rfl⟩
theorem wds_len : wds.length = 7 := rfl
def isW (s w : ByteArray) : Bool := decide (s = w)
def kindI (s : ByteArray) : Int := idxN (isW s) 0 wds
theorem kind_fn (s : ByteArray) : Fn Tryz.prog 126 [.string s] .sc (.int (kindI s)) := by
 refine fn_run mixed 3 (Γ := RbF.Γ) (ann := RbF.ann) Tryz.func126 rfl Tryz.call126 ((RbF.kind_form _ _).mpr ?_)
 have e1 : Ent Tryz.prog 140 := Tryz.call140
 simp only [av_mkRef, wds_ref]
 refine ⟨wds_isref, e1, fun _ => ?_⟩
 simp
 refine loop_list (σ := Unit) wds (fun n _ => [.int (n : Nat)]) (fun k rest _ => kindI s = idxN (isW s) k rest) () rfl rfl ?_ ?_
 ·rintro k x rest _ K hx hr hn hg hK
  rw [wds_len] at hn
  have hw2 : IntKind.i64.wrap ((k : Int) + 1) = (k : Int) + 1 := wrap64 (by omega) (by omega)
  simp [wds_len, show (k : Int) < 7 by omega, lst_at hx, encS, hw2]
  rw [idxN] at hg
  exact ⟨fun h => by rw [hg, if_pos (by simpa [isW] using h)], fun h => hK _ () (by simp) (by rw [hg, if_neg (by simpa [isW] using h)])⟩
 ·intro _ K hg
  simp [hg, idxN]
def frS (s : ByteArray) : Bool := isName s && decide (kindI s < 0)
theorem pname_fn (s : ByteArray) : Fn Tryz.prog 123 [.string s] .sc (.bool (frS s)) := by
 refine fn_run mixed 3 (Γ := RbF.Γ) (ann := RbF.ann) Tryz.func123 rfl Tryz.call123 ((RbF.name_form _ _).mpr ?_)
 refine ⟨_, name_fn s, ?_⟩
 simp
 refine ⟨fun h => ⟨_, kind_fn s, ?_⟩, fun h => ?_⟩
 ·simp [frS, h]
 ·simp [frS, h]
structure Cl where
 c : ByteArray
 k : Int
 v : Int
 f : ByteArray
 deriving DecidableEq, Inhabited
def encL (x : Cl) : List AV := [.string x.c, .int x.k, .int x.v, .string x.f]
abbrev cl (x : Cl) : AV := .agg (encL x)
abbrev cls (l : List Cl) : AV := lst 4 encL l
def mostI (k : Int) : Int := if k = 0 then 60000 else if k = 1 then 4095 else 400
def clE (x : Cl) : Int := if frS x.c = false then 3 else if x.k < 0 ∨ x.k > 6 then 1 else if x.k > 2 then (if x.v ≠ 0 ∨ frS x.f = false then 3 else 0) else if x.f ≠ ⟨#[]⟩ then 3 else if x.v < 0 ∨ x.v > mostI x.k then 4 else 0
theorem pcheck_fn (x : Cl) : Fn Tryz.prog 58 [cl x] .sc (.int (clE x)) := by
 refine fn_run mixed 3 (Γ := RbF.Γ) (ann := RbF.ann) Tryz.func58 rfl Tryz.call58 ((RbF.check_form _ _).mpr ?_)
 obtain ⟨c, k, v, f⟩ := x
 refine ⟨by simp [encL], _, pname_fn c, ?_⟩
 simp [encL]
 refine ⟨fun h => by simp [clE, h], fun h => ?_⟩
 have hc : clE ⟨c, k, v, f⟩ = if k < 0 ∨ k > 6 then 1 else if k > 2 then (if v ≠ 0 ∨ frS f = false then 3 else 0) else if f ≠ ⟨#[]⟩ then 3 else if v < 0 ∨ v > mostI k then 4 else 0 := by simp [clE, h]
 rw [hc]
 refine ⟨fun h1 => ⟨h1, by rw [if_pos (.inl h1)]⟩, fun h1 => ⟨h1, fun h2 => by rw [if_pos (.inr h2)], fun h2 => ?_⟩⟩
 rw [if_neg (by omega)]
 refine ⟨fun h3 => ?_, fun h3 => ?_⟩
 ·rw [if_pos h3]
  refine ⟨fun h4 => ⟨h4, by simp [h4]⟩, fun h4 => ⟨_, pname_fn f, ?_⟩⟩
  simp [h4]
 ·rw [if_neg (by omega)]
  refine ⟨fun h4 => by rw [if_pos h4], fun h4 => ?_⟩
  rw [if_neg (by simp [h4])]
  have hk : k = 0 ∨ k = 1 ∨ k = 2 := by omega
  refine ⟨fun h5 => ⟨h5, by rw [if_pos (.inl h5)]⟩, fun h5 => ?_⟩
  rcases hk with rfl | rfl | rfl
  all_goals
   simp [AV.inl, AV.refOk, AV.refNth, AV.rcs, AV.off, mostI, h5]
end Go.Proofs.YtcifjnhpgblnkaaGreatDoor
namespace Go.Proofs.YtcifjnhpgblnkaaGreatDoor
open Go.RowKit
set_option linter.unusedVariables false
set_option linter.unusedSimpArgs false
set_option maxRecDepth 100000
theorem take_snoc {α : Type} {l : List α} {n : Nat} {x : α} (h : l[n]? = some x) : l.take (n + 1) = l.take n ++ [x] := by
 rw [List.take_add_one, h]; rfl
structure Ro where
 c : Cl
 t : Int
 deriving DecidableEq, Inhabited
def encR (x : Ro) : List AV := [.string x.c.c, .int x.c.k, .int x.c.v, .string x.c.f, .int x.t]
abbrev ros (l : List Ro) : AV := lst 5 encR l
theorem flat_ros (l : List Ro) : (ros l).flatS := lst_flatS fun x _ z hz => by
 simp [encR] at hz; rcases hz with rfl | rfl | rfl | rfl | rfl <;> exact .lit _
def sameK (c : Cl) (x : Ro) : Bool := decide (x.c.c = c.c) && decide (x.c.k = c.k)
def rIdx (l : List Ro) (c : Cl) : Int := idxN (sameK c) 0 l
theorem rindex_fn (l : List Ro) (c : Cl) (hl : l.length ≤ 1000) : Fn Tryz.prog 56 [ros l, cl c] .sc (.int (rIdx l c)) := by
 refine fn_run mixed 3 (Γ := RbF.Γ) (ann := RbF.ann) Tryz.func56 rfl Tryz.call56 ((RbF.index_form _ _ _).mpr ?_)
 have e1 : Ent Tryz.prog 121 := Tryz.call121
 have e2 : Ent Tryz.prog 122 := Tryz.call122
 simp [e1, e2, encL]
 refine loop_list (σ := Unit) l (fun n _ => [.int (n : Nat)]) (fun k rest _ => rIdx l c = idxN (sameK c) k rest) () rfl rfl ?_ ?_
 ·rintro k x rest _ K hx hr hn hg hK
  have hw2 : IntKind.i64.wrap ((k : Int) + 1) = (k : Int) + 1 := wrap64 (by omega) (by omega)
  rw [idxN] at hg
  have gY : x.c.c = c.c → x.c.k = c.k → (k : Int) = rIdx l c := fun q1 q2 => by rw [hg, if_pos (by simp [sameK, q1, q2])]
  have gN : ¬ (x.c.c = c.c ∧ x.c.k = c.k) → K [.int ((k : Nat) + 1)] := fun q => hK _ () (by simp) (by rw [hg, if_neg (by simpa [sameK] using q)])
  clear hg hK
  simp [hn, lst_atAgg hx, encR, hw2]
  (repeat' (first | exact trivial | (with_reducible intro hw; (try simp (disch := omega) only [wrap64] at hw); first | (exfalso; omega; done) | skip) | (with_reducible refine And.intro ?_ ?_) | omega | assumption))
  all_goals (first | exact gY (by assumption) (by assumption) | exact gN (fun q => by simp_all))
 ·intro _ K hg
  simp [hg, idxN]
theorem rIdx_at {l : List Ro} {c : Cl} (h : 0 ≤ rIdx l c) : ∃ i x, rIdx l c = ((i : Nat) : Int) ∧ l[i]? = some x := by
 rcases idxN_spec (sameK c) l 0 with ⟨h1, _⟩ | ⟨i, x, h1, h2, h3⟩
 ·unfold rIdx at h; omega
 ·exact ⟨i, x, by unfold rIdx; rw [h1, Nat.zero_add], h2⟩
theorem rIdx_no {l : List Ro} {c : Cl} (h : ¬ 0 ≤ rIdx l c) : rIdx l c = -1 := by
 rcases idxN_spec (sameK c) l 0 with ⟨h1, _⟩ | ⟨i, x, h1, h2, h3⟩
 ·exact h1
 ·unfold rIdx at h; omega
def wrg (l : List Ro) (t : Int) : Bool := decide (t < 0) || decide (t > 200000) || (match l.getLast? with | none => false | some x => decide (t < x.t))
theorem wrg_nil (t : Int) : wrg [] t = decide (t < 0 ∨ t > 200000) := by simp [wrg]
theorem wrg_snoc (l : List Ro) (x : Ro) (t : Int) : wrg (l ++ [x]) t = decide (t < 0 ∨ t > 200000 ∨ t < x.t) := by
 simp [wrg, Bool.or_assoc]
theorem last_of {l : List Ro} (h : 0 < l.length) : ∃ x, l[l.length - 1]? = some x ∧ ∀ t, wrg l t = decide (t < 0 ∨ t > 200000 ∨ t < x.t) := by
 rcases List.eq_nil_or_concat l with rfl | ⟨m, x, rfl⟩
 ·simp at h
 ·exact ⟨x, by simp, fun t => by rw [List.concat_eq_append, wrg_snoc]⟩
theorem wrong_fn (l : List Ro) (t : Int) (hl : l.length ≤ 1000) : Fn Tryz.prog 120 [ros l, .int t] .sc (.bool (wrg l t)) := by
 refine fn_run mixed 3 (Γ := RbF.Γ) (ann := RbF.ann) Tryz.func120 rfl Tryz.call120 ((RbF.wrong_form _ _ _).mpr ?_)
 rcases Nat.eq_zero_or_pos l.length with h0 | h0
 ·obtain rfl : l = [] := List.eq_nil_of_length_eq_zero h0
  simp [wrg_nil]
  refine ⟨fun q => by simp [q], fun q1 => ⟨q1, fun q2 => by simp [q2], fun q2 => ?_⟩⟩
  omega
 ·obtain ⟨x, hx, hw⟩ := last_of h0
  have hw1 : IntKind.i64.wrap ((l.length : Int) - 1) = (l.length : Int) - 1 := wrap64 (by omega) (by omega)
  have hat : AV.at (ros l) (.lit (.int .i64 ((l.length : Int) - 1))) 4 = .int x.t := by
   rw [lst_atI (by omega) (x := x) (by rw [show ((l.length : Int) - 1).toNat = l.length - 1 by omega]; exact hx)]; rfl
  rw [hw]
  simp [h0, hw1, hat, show ¬ l = [] from List.length_pos_iff.1 h0]
  refine ⟨fun q => by simp [q], fun q1 => ⟨q1, fun q2 => by simp [q2], fun q2 => ⟨by omega, ?_⟩⟩⟩
  by_cases q3 : t < x.t
  ·simp [q3]; omega
  ·simp [q3]; omega
def roE : List Ro → List Ro → Int
 | _, [] => 0
 | seen, x :: r => if clE x.c ≠ 0 then clE x.c else if wrg seen x.t = true then 12 else if 0 ≤ rIdx seen x.c then 7 else roE (seen ++ [x]) r
def chkE (l : List Ro) : Int := if l.length > 12 then 2 else roE [] l
theorem rcheck_fn (l : List Ro) : Fn Tryz.prog 119 [ros l] .sc (.int (chkE l)) := by
 refine fn_run mixed 3 (Γ := RbF.Γ) (ann := RbF.ann) Tryz.func119 rfl Tryz.call119 ((RbF.rcheck_form _ _).mpr ?_)
 simp
 refine ⟨fun h => by unfold chkE; rw [if_pos (by omega)], fun h => ?_⟩
 have hE : chkE l = roE [] l := by unfold chkE; rw [if_neg (by omega)]
 refine loop_list (σ := Unit) l (fun n _ => [.int (n : Nat)]) (fun n rest _ => chkE l = roE (l.take n) rest) () rfl hE ?_ ?_
 ·rintro n x rest _ K hx hr hn hg hK
  have hw2 : IntKind.i64.wrap ((n : Int) + 1) = (n : Int) + 1 := wrap64 (by omega) (by omega)
  rw [roE, ← take_snoc hx] at hg
  have g1 : clE x.c ≠ 0 → clE x.c = chkE l := fun q => by rw [hg, if_pos q]
  have g2 : clE x.c = 0 → wrg (l.take n) x.t = true → 12 = chkE l := fun q1 q2 => by rw [hg, if_neg (by simp [q1]), if_pos q2]
  have g3 : clE x.c = 0 → wrg (l.take n) x.t = false → 0 ≤ rIdx (l.take n) x.c → 7 = chkE l := fun q1 q2 q3 => by rw [hg, if_neg (by simp [q1]), if_neg (by simp [q2]), if_pos q3]
  have gK : clE x.c = 0 → wrg (l.take n) x.t = false → ¬ 0 ≤ rIdx (l.take n) x.c → K [.int ((n : Nat) + 1)] := fun q1 q2 q3 => hK _ () (by simp) (by rw [hg, if_neg (by simp [q1]), if_neg (by simp [q2]), if_neg q3])
  clear hg hK
  have hlt : (l.take n).length ≤ 1000 := by simp; omega
  simp [hn, lst_atAgg hx, encR]
  refine ⟨_, pcheck_fn x.c, ?_⟩
  simp
  refine ⟨fun q => g1 q, fun q1 => ⟨by omega, _, wrong_fn (l.take n) x.t hlt, ?_⟩⟩
  simp
  refine ⟨fun q => g2 q1 q, fun q2 => ⟨by omega, _, rindex_fn (l.take n) x.c hlt, ?_⟩⟩
  simp [hw2]
  exact ⟨fun q => g3 q1 q2 q, fun q => gK q1 q2 (by omega)⟩
 ·intro _ K hg
  simp [hg, roE]
theorem roE_ok : ∀ {l seen : List Ro}, roE seen l = 0 → ∀ x ∈ l, 0 ≤ x.t ∧ x.t ≤ 200000 ∧ clE x.c = 0
 | [], _, _, x, hx => by simp at hx
 | y :: r, seen, h, x, hx => by
  rw [roE] at h
  split at h
  ·rename_i q; exact absurd h q
  ·rename_i q0
   split at h
   ·cases h
   ·rename_i q
    split at h
    ·cases h
    ·rcases List.mem_cons.1 hx with rfl | hx
     ·simp [wrg] at q
      exact ⟨by omega, by omega, by simpa using q0⟩
     ·exact roE_ok h x hx
theorem roE_sorted : ∀ {l seen : List Ro}, roE seen l = 0 → (∀ s ∈ seen.getLast?, ∀ x ∈ l, s.t ≤ x.t) ∧ l.Pairwise fun x y => x.t ≤ y.t
 | [], _, _ => ⟨fun s hs x hx => by simp at hx, .nil⟩
 | y :: r, seen, h => by
  rw [roE] at h
  split at h
  ·rename_i q; exact absurd h q
  ·split at h
   ·cases h
   ·rename_i q
    split at h
    ·cases h
    ·obtain ⟨h1, h2⟩ := roE_sorted h
     simp at h1
     refine ⟨fun s hs x hx => ?_, List.pairwise_cons.2 ⟨h1, h2⟩⟩
     have hsy : s.t ≤ y.t := by
      rw [Option.mem_def] at hs
      simp [wrg, hs] at q
      exact q.2
     rcases List.mem_cons.1 hx with rfl | hx
     ·exact hsy
     ·exact Int.le_trans hsy (h1 x hx)
structure GoodR (l : List Ro) : Prop where
 len : l.length ≤ 12
 bd : ∀ x ∈ l, 0 ≤ x.t ∧ x.t ≤ 200000
 ord : l.Pairwise fun x y => x.t ≤ y.t
theorem goodR {l : List Ro} (h : chkE l = 0) : GoodR l := by
 unfold chkE at h
 split at h
 ·cases h
 ·exact ⟨by omega, fun x hx => ⟨(roE_ok h x hx).1, (roE_ok h x hx).2.1⟩, (roE_sorted h).2⟩
theorem GoodR.wrg {l : List Ro} (g : GoodR l) (t : Int) : wrg l t = decide (t < 0 ∨ t > 200000 ∨ ∃ x ∈ l, t < x.t) := by
 rcases Nat.eq_zero_or_pos l.length with h0 | h0
 ·obtain rfl : l = [] := List.eq_nil_of_length_eq_zero h0
  rw [wrg_nil]
  simp
 ·obtain ⟨x, hx, hw⟩ := last_of h0
  rw [hw]
  congr 1
  apply propext
  refine ⟨fun q => ?_, fun q => ?_⟩
  ·rcases q with q | q | q
   ·exact .inl q
   ·exact .inr (.inl q)
   ·exact .inr (.inr ⟨x, List.mem_of_getElem? hx, q⟩)
  ·rcases q with q | q | ⟨y, hy, q⟩
   ·exact .inl q
   ·exact .inr (.inl q)
   ·refine .inr (.inr ?_)
    obtain ⟨i, hi, e⟩ := List.mem_iff_getElem.1 hy
    obtain ⟨hj, e2⟩ := List.getElem?_eq_some_iff.1 hx
    rcases Nat.lt_or_ge i (l.length - 1) with q2 | q2
    ·have := List.pairwise_iff_getElem.1 g.ord i (l.length - 1) hi hj q2
     rw [e, e2] at this
     omega
    ·have : l[i]? = some x := by rw [show i = l.length - 1 by omega]; exact hx
     rw [List.getElem?_eq_getElem hi, e] at this
     injection this with this
     subst this; exact q
theorem check2_fn (l : List Ro) (c : Cl) (t : Int) : Fn Tryz.prog 54 [ros l, cl c, .int t] .sc (.int (if chkE l ≠ 0 then chkE l else if clE c ≠ 0 then clE c else if wrg l t = true then 12 else 0)) := by
 refine fn_run mixed 3 (Γ := RbF.Γ) (ann := RbF.ann) Tryz.func54 rfl Tryz.call54 ((RbF.check2_form _ _ _ _).mpr ?_)
 refine ⟨by simp [encL], _, rcheck_fn l, ?_⟩
 simp
 refine ⟨fun h h2 => absurd h2 h, fun h => ?_⟩
 have gl := (goodR h).len
 refine ⟨_, pcheck_fn c, ?_⟩
 simp [h]
 refine ⟨fun h1 h2 => absurd h2 h1, fun h1 => ⟨_, wrong_fn l t (by omega), ?_⟩⟩
 simp [h1]
end Go.Proofs.YtcifjnhpgblnkaaGreatDoor
namespace Go.Proofs.YtcifjnhpgblnkaaGreatDoor
open Go.RowKit
set_option linter.unusedVariables false
set_option linter.unusedSimpArgs false
set_option maxRecDepth 100000
def woN : Nat → Int → List Ro → List Ro
 | _, _, [] => []
 | n, i, x :: r => if (n : Int) ≠ i then x :: woN (n + 1) i r else woN (n + 1) i r
def wo (l : List Ro) (i : Int) : List Ro := woN 0 i l
theorem woN_all : ∀ {l : List Ro} {n : Nat} {i : Int}, i < n → woN n i l = l
 | [], _, _, _ => rfl
 | x :: r, n, i, h => by rw [woN, if_pos (by omega), woN_all (by omega)]
theorem woN_at : ∀ {l : List Ro} {n k : Nat}, k < l.length → woN n ((n + k : Nat) : Int) l = l.take k ++ l.drop (k + 1)
 | [], _, _, h => by simp at h
 | x :: r, n, 0, h => by rw [woN, if_neg (by simp), woN_all (by omega)]; simp
 | x :: r, n, k + 1, h => by
  rw [woN, if_pos (by omega), show ((n + (k + 1) : Nat) : Int) = ((n + 1 + k : Nat) : Int) by omega, woN_at (by simpa using h)]
  simp
theorem wo_no (l : List Ro) : wo l (-1) = l := woN_all (by omega)
theorem wo_at {l : List Ro} {k : Nat} (h : k < l.length) : wo l (k : Int) = l.take k ++ l.drop (k + 1) := by
 have := woN_at (n := 0) h
 rw [Nat.zero_add] at this; exact this
theorem woN_len : ∀ (l : List Ro) (n : Nat) (i : Int), (woN n i l).length ≤ l.length
 | [], _, _ => by simp [woN]
 | x :: r, n, i => by
  rw [woN]
  have := woN_len r (n + 1) i
  split <;> simp <;> omega
theorem ros_snoc (o : List Ro) (x : Ro) : AV.app 5 (ros o) (.sl 5 [[.lit (.string x.c.c), .lit (.int .i64 x.c.k), .lit (.int .i64 x.c.v), .lit (.string x.c.f), .lit (.int .i64 x.t)]]) = ros (o ++ [x]) := by
 simp [lst, AV.app, AV.els, encR]
theorem app_ros (l : List Ro) : AV.app 5 (.sl 5 []) (ros l) = ros l := by simp [lst, AV.app, AV.els]
def chk2 (l : List Ro) (c : Cl) (t : Int) : Int := if chkE l ≠ 0 then chkE l else if clE c ≠ 0 then clE c else if wrg l t = true then 12 else 0
theorem chk2_ok {l : List Ro} {c : Cl} {t : Int} (h : chk2 l c t = 0) : chkE l = 0 ∧ clE c = 0 ∧ wrg l t = false := by
 unfold chk2 at h
 split at h
 ·rename_i q; exact absurd h q
 ·rename_i q
  split at h
  ·rename_i q2; exact absurd h q2
  ·rename_i q2
   split at h
   ·cases h
   ·rename_i q3; exact ⟨by simpa using q, by simpa using q2, by simpa using q3⟩
theorem chk2_wrg {l : List Ro} {c : Cl} {t : Int} (h : wrg l t = false) : 0 ≤ t ∧ t ≤ 200000 := by
 unfold wrg at h
 simp at h
 omega
def sayE (l : List Ro) (c : Cl) (t : Int) : Int := if chk2 l c t ≠ 0 then chk2 l c t else if (wo l (rIdx l c)).length = 12 then 9 else 0
def sayL (l : List Ro) (c : Cl) (t : Int) : List Ro := if sayE l c t = 0 then wo l (rIdx l c) ++ [⟨c, t⟩] else []
def sayV (l : List Ro) (c : Cl) (t : Int) : AV := .tup [ros (sayL l c t), .int (sayE l c t)]
theorem sayV_err {l : List Ro} {c : Cl} {t e : Int} (h : sayE l c t = e) (h0 : e ≠ 0) : sayV l c t = .tup [.sl 5 [], .int e] := by
 unfold sayV sayL; rw [h, if_neg h0]; rfl
theorem sayV_ok {l : List Ro} {c : Cl} {t : Int} (h : sayE l c t = 0) : sayV l c t = .tup [ros (wo l (rIdx l c) ++ [⟨c, t⟩]), .int 0] := by
 unfold sayV sayL; rw [h, if_pos rfl]
theorem del_ros (l : List Ro) (i : Nat) (h : i < l.length) : FnU Tryz.prog 57 160 5 (ros l) [.int (i : Nat), .int ((i : Nat) + 1)] true (ros (wo l (i : Int))) := by
 have := delRo (l.map encR) i (i + 1) (by omega) (by simp; omega)
 rw [wo_at h]
 simpa [lst, List.map_take, List.map_drop] using this
theorem say_fn (l : List Ro) (c : Cl) (t : Int) : Fn Tryz.prog 14 [ros l, cl c, .int t] (.tup [.row 160 5 true, .sc]) (sayV l c t) := by
 have e := RbF.say_form (ros l) (cl c) (.int t) (sayV l c t)
 have k := fun h => fn_run mixed 3 (Γ := RbF.Γ) (ann := RbF.ann) Tryz.func14 rfl Tryz.call14 (e.mpr h)
 refine k ?_
 clear k e
 have e1 : Ent Tryz.prog 55 := Tryz.call55
 refine ⟨by simp [encL], _, check2_fn l c t, ?_⟩
 rw [show (if chkE l ≠ 0 then chkE l else if clE c ≠ 0 then clE c else if wrg l t = true then 12 else 0) = chk2 l c t from rfl]
 simp [encL]
 refine ⟨fun h => by rw [sayV_err (e := chk2 l c t) (by unfold sayE; rw [if_pos h]) h], fun h => ⟨e1, ?_, ?_⟩⟩
 ·intro h0
  subst h0
  have hi : rIdx [] c = -1 := rfl
  have hE : sayE [] c t = 0 := by unfold sayE; rw [if_neg (by simp [h]), hi]; rfl
  refine ⟨_, rindex_fn [] c (by simp), ?_⟩
  rw [hi]
  simp
  rw [sayV_ok hE, hi]
  exact ⟨by simp [AV.room, AV.els], rfl⟩
 ·obtain ⟨hc, _, hw⟩ := chk2_ok h
  have g := goodR hc
  have gl := g.len
  have hroom : AV.room (.sl 5 []) (ros l) 56 := by unfold AV.room; rw [lst_els]; simp [AV.els]; omega
  have hroom2 : ∀ (m : List Ro) (q : List (List AV)), m.length ≤ 12 → q.length = 1 → AV.room (ros m) (.sl 5 q) 56 := fun m q hm hq => by unfold AV.room; rw [lst_els]; simp [AV.els, hq]; omega
  have hwl : (wo l (rIdx l c)).length ≤ 12 := Nat.le_trans (woN_len _ _ _) gl
  have hsn := ros_snoc (wo l (rIdx l c)) ⟨c, t⟩
  have g9 : (wo l (rIdx l c)).length = 12 → .tup [.sl 5 [], .int 9] = sayV l c t := fun q => (sayV_err (by unfold sayE; rw [if_neg (by simp [h]), if_pos q]) (by omega)).symm
  have gok : (wo l (rIdx l c)).length ≠ 12 → .tup [ros (wo l (rIdx l c) ++ [⟨c, t⟩]), .int 0] = sayV l c t := fun q => (sayV_ok (by unfold sayE; rw [if_neg (by simp [h]), if_neg q])).symm
  simp only [app_ros]
  refine ⟨hroom, _, rindex_fn l c (by omega), ?_⟩
  simp
  refine ⟨fun hi => ?_, fun hi => ?_⟩
  ·obtain ⟨i, x, hix, hx⟩ := rIdx_at hi
   have hil := (List.getElem?_eq_some_iff.1 hx).1
   have hd := del_ros l i hil
   rw [← hix] at hd
   have hw2 : IntKind.i64.wrap (rIdx l c + 1) = rIdx l c + 1 := wrap64 (by omega) (by omega)
   rw [hw2]
   refine ⟨_, hd, ?_⟩
   simp
   refine ⟨fun q => g9 (by omega), fun q => ⟨hroom2 _ _ hwl rfl, ?_⟩⟩
   rw [hsn]
   exact ⟨flat_ros _, gok (by omega)⟩
  ·have hw := rIdx_no (l := l) (c := c) (by omega)
   rw [hw, wo_no] at g9 gok hsn hwl
   refine ⟨fun q => g9 (by omega), fun q => ⟨hroom2 _ _ hwl rfl, ?_⟩⟩
   rw [hsn]
   exact ⟨flat_ros _, gok (by omega)⟩
def heaE (l : List Ro) (c : Cl) (t : Int) : Int := if chk2 l c t ≠ 0 then chk2 l c t else if rIdx l c < 0 then 8 else if t - (l.getD (rIdx l c).toNat default).t > 40 then 21 else if (l.getD (rIdx l c).toNat default).c ≠ c then 17 else 0
def heaL (l : List Ro) (c : Cl) (t : Int) : List Ro := if heaE l c t = 0 then wo l (rIdx l c) else []
def heaV (l : List Ro) (c : Cl) (t : Int) : AV := .tup [ros (heaL l c t), .int (heaE l c t)]
theorem heaV_err {l : List Ro} {c : Cl} {t e : Int} (h : heaE l c t = e) (h0 : e ≠ 0) : heaV l c t = .tup [.sl 5 [], .int e] := by
 unfold heaV heaL; rw [h, if_neg h0]; rfl
theorem heaV_ok {l : List Ro} {c : Cl} {t : Int} (h : heaE l c t = 0) : heaV l c t = .tup [ros (wo l (rIdx l c)), .int 0] := by
 unfold heaV heaL; rw [h, if_pos rfl]
theorem hear_fn (l : List Ro) (c : Cl) (t : Int) : Fn Tryz.prog 17 [ros l, cl c, .int t] (.tup [.row 160 5 true, .sc]) (heaV l c t) := by
 have e := RbF.hear_form (ros l) (cl c) (.int t) (heaV l c t)
 have k := fun h => fn_run mixed 3 (Γ := RbF.Γ) (ann := RbF.ann) Tryz.func17 rfl Tryz.call17 (e.mpr h)
 refine k ?_
 clear k e
 have e1 : Ent Tryz.prog 55 := Tryz.call55
 refine ⟨by simp [encL], _, check2_fn l c t, ?_⟩
 rw [show (if chkE l ≠ 0 then chkE l else if clE c ≠ 0 then clE c else if wrg l t = true then 12 else 0) = chk2 l c t from rfl]
 simp [encL]
 refine ⟨fun h => by rw [heaV_err (e := chk2 l c t) (by unfold heaE; rw [if_pos h]) h], fun h => ?_⟩
 obtain ⟨hc, _, hw⟩ := chk2_ok h
 have ht := chk2_wrg (c := c) hw
 have g := goodR hc
 have gl := g.len
 refine ⟨_, rindex_fn l c (by omega), ?_⟩
 simp
 refine ⟨fun hi => (heaV_err (by unfold heaE; rw [if_neg (by simp [h]), if_pos hi]) (by omega)).symm, fun hi => ?_⟩
 obtain ⟨i, x, hix, hx⟩ := rIdx_at hi
 have hil := (List.getElem?_eq_some_iff.1 hx).1
 have hxb := g.bd x (List.mem_of_getElem? hx)
 have hgd : l.getD (rIdx l c).toNat default = x := by rw [hix]; simp [List.getD_eq_getElem?_getD, hx]
 have hE : heaE l c t = if t - x.t > 40 then 21 else if x.c ≠ c then 17 else 0 := by unfold heaE; rw [if_neg (by simp [h]), if_neg (by omega), hgd]
 have hat : AV.at (ros l) (.lit (.int .i64 (i : Nat))) 4 = .int x.t := by rw [lst_at hx]; rfl
 have hwt : IntKind.i64.wrap (t - x.t) = t - x.t := wrap64 (by omega) (by omega)
 have hw2 : IntKind.i64.wrap ((i : Int) + 1) = (i : Int) + 1 := wrap64 (by omega) (by omega)
 have hd := del_ros l i hil
 have hatA : AV.atAgg (ros l) (.lit (.int .i64 (i : Nat))) 0 4 = cl x.c := by rw [lst_atAgg hx]; rfl
 have hroom : AV.room (.sl 5 []) (ros l) 56 := by unfold AV.room; rw [lst_els]; simp [AV.els]; omega
 simp only [app_ros, hix, hat, hatA]
 simp [hil, hwt, encL, AV.eqPlOk, AV.nePl, hw2, e1, hroom]
 refine ⟨fun q => (heaV_err (by rw [hE, if_pos q]) (by omega)).symm, fun q => ⟨fun q2 => ?_, fun q2 q3 q4 q5 => ?_⟩⟩
 ·have hne : x.c ≠ c := by rintro rfl; simp at q2
  exact (heaV_err (by rw [hE, if_neg (by omega), if_pos hne]) (by omega)).symm
 ·have hxc : x.c = c := by
   obtain ⟨⟨a1, a2, a3, a4⟩, b⟩ := x
   obtain ⟨c1, c2, c3, c4⟩ := c
   simp at q2 q3 q4 q5
   simp [q2, q3, q4, q5]
  refine ⟨fun h0 => by subst h0; simp at hil, _, hd, flat_ros _, ?_⟩
  rw [heaV_ok (by rw [hE, if_neg (by omega), if_neg (by simp [hxc])]), hix]
end Go.Proofs.YtcifjnhpgblnkaaGreatDoor
namespace Go.Proofs.YtcifjnhpgblnkaaGreatDoor
open Go.RowKit
set_option linter.unusedVariables false
set_option linter.unusedSimpArgs false
theorem sameK_iff {c : Cl} {x : Ro} : sameK c x = true ↔ x.c.c = c.c ∧ x.c.k = c.k := by
 unfold sameK
 rw [Bool.and_eq_true, decide_eq_true_eq, decide_eq_true_eq]
theorem rIdx_neg {l : List Ro} {c : Cl} : ¬ 0 ≤ rIdx l c ↔ ∀ x ∈ l, sameK c x = false := by
 rcases idxN_spec (sameK c) l 0 with ⟨h1, h2⟩ | ⟨i, x, h1, h2, h3⟩
 ·exact ⟨fun _ => h2, fun _ => by unfold rIdx; rw [h1]; omega⟩
 ·refine ⟨fun h => ?_, fun h => ?_⟩
  ·unfold rIdx at h; omega
  ·rw [h x (List.mem_of_getElem? h2)] at h3; cases h3
theorem roE_dist : ∀ {l seen : List Ro}, roE seen l = 0 → (∀ s ∈ seen, ∀ x ∈ l, sameK x.c s = false) ∧ l.Pairwise fun x y => sameK y.c x = false
 | [], _, _ => ⟨fun s hs x hx => by simp at hx, .nil⟩
 | y :: r, seen, h => by
  rw [roE] at h
  split at h
  ·rename_i q; exact absurd h q
  ·split at h
   ·cases h
   ·split at h
    ·cases h
    ·rename_i q
     have q := rIdx_neg.1 q
     obtain ⟨i1, i2⟩ := roE_dist h
     refine ⟨fun s hs x hx => ?_, List.pairwise_cons.2 ⟨fun x hx => i1 y (by simp) x hx, i2⟩⟩
     rcases List.mem_cons.1 hx with e | e
     ·rw [e]; exact q s hs
     ·exact i1 s (by simp [hs]) x e
theorem roE_of : ∀ {l seen : List Ro}, (∀ x ∈ seen ++ l, 0 ≤ x.t ∧ x.t ≤ 200000 ∧ clE x.c = 0) → (seen ++ l).Pairwise (fun x y => x.t ≤ y.t) → (seen ++ l).Pairwise (fun x y => sameK y.c x = false) → roE seen l = 0
 | [], _, _, _, _ => rfl
 | y :: r, seen, h1, h2, h3 => by
  have hy := h1 y (by simp)
  have e : seen ++ y :: r = (seen ++ [y]) ++ r := by simp
  have h2' := (List.pairwise_append.1 h2).2.2
  have h3' := (List.pairwise_append.1 h3).2.2
  have hw : wrg seen y.t = false := by
   rcases List.eq_nil_or_concat seen with rfl | ⟨m, x, rfl⟩
   ·rw [wrg_nil]; simp; omega
   ·rw [List.concat_eq_append, wrg_snoc]
    have := h2' x (by simp) y (by simp)
    simp; omega
  have hi : ¬ 0 ≤ rIdx seen y.c := rIdx_neg.2 fun s hs => h3' s hs y (by simp)
  rw [roE, if_neg (by simp [hy.2.2]), if_neg (by simp [hw]), if_neg hi]
  exact roE_of (by rw [← e]; exact h1) (by rw [← e]; exact h2) (by rw [← e]; exact h3)
theorem wo_sub (l : List Ro) (c : Cl) : (wo l (rIdx l c)).Sublist l := by
 by_cases h : 0 ≤ rIdx l c
 ·obtain ⟨i, x, h1, h2⟩ := rIdx_at h
  rw [h1, wo_at (List.getElem?_eq_some_iff.1 h2).1]
  have : l.take i ++ l.drop (i + 1) = l.eraseIdx i := (List.eraseIdx_eq_take_drop_succ l i).symm
  rw [this]
  exact List.eraseIdx_sublist l i
 ·rw [rIdx_no h, wo_no]; exact List.Sublist.refl _
theorem wo_none {l : List Ro} {c : Cl} (h : l.Pairwise fun x y => sameK y.c x = false) : ∀ x ∈ wo l (rIdx l c), sameK c x = false := by
 rcases idxN_spec (sameK c) l 0 with ⟨h1, h2⟩ | ⟨i, z, h1, h2, h3⟩
 ·intro x hx
  exact h2 x ((wo_sub l c).subset hx)
 ·intro x hx
  have e : rIdx l c = ((i : Nat) : Int) := by unfold rIdx; rw [h1, Nat.zero_add]
  have hi := (List.getElem?_eq_some_iff.1 h2).1
  rw [e, wo_at hi] at hx
  have hz := sameK_iff.1 h3
  have key : ∀ a b : Ro, sameK b.c a = false → (a.c.c = c.c ∧ a.c.k = c.k → ¬ (b.c.c = c.c ∧ b.c.k = c.k)) := fun a b hab p q => by
   have : sameK b.c a = true := sameK_iff.2 ⟨by rw [p.1, q.1], by rw [p.2, q.2]⟩
   rw [hab] at this; cases this
  have fin : ¬ (x.c.c = c.c ∧ x.c.k = c.k) → sameK c x = false := fun p => by
   cases q : sameK c x with
   | false => rfl
   | true => exact absurd (sameK_iff.1 q) p
  rcases List.mem_append.1 hx with g | g
  ·obtain ⟨j, hj⟩ := List.getElem?_of_mem g
   rw [List.getElem?_take] at hj
   split at hj
   ·rename_i hji
    obtain ⟨hjl, ej⟩ := List.getElem?_eq_some_iff.1 hj
    obtain ⟨_, ez⟩ := List.getElem?_eq_some_iff.1 h2
    have := List.pairwise_iff_getElem.1 h j i hjl hi hji
    rw [ej, ez] at this
    exact fin fun p => key x z this p hz
   ·cases hj
  ·obtain ⟨j, hj⟩ := List.getElem?_of_mem g
   rw [List.getElem?_drop] at hj
   obtain ⟨hjl, ej⟩ := List.getElem?_eq_some_iff.1 hj
   obtain ⟨_, ez⟩ := List.getElem?_eq_some_iff.1 h2
   have := List.pairwise_iff_getElem.1 h i (i + 1 + j) hi hjl (by omega)
   rw [ej, ez] at this
   exact fin fun p => key z x this hz p
theorem rIdx_snoc {l : List Ro} {c r : Cl} {t : Int} (h : ∀ x ∈ l, sameK c x = false) (h1 : r.c = c.c) (h2 : r.k = c.k) : rIdx (l ++ [⟨c, t⟩]) r = (l.length : Nat) := by
 have hs : ∀ x, sameK r x = sameK c x := fun x => by unfold sameK; rw [h1, h2]
 have gen : ∀ (l : List Ro) (n : Nat), (∀ x ∈ l, sameK c x = false) → idxN (sameK r) n (l ++ [⟨c, t⟩]) = ((n + l.length : Nat) : Int) := by
  intro l
  induction l with
  | nil => intro n _; rw [List.nil_append, idxN, if_pos (by rw [hs]; exact sameK_iff.2 ⟨rfl, rfl⟩)]; simp
  | cons x r ih =>
   intro n hx
   rw [List.cons_append, idxN, if_neg (by rw [hs, hx x (by simp)]; simp), ih (n + 1) fun y hy => hx y (by simp [hy])]
   simp; omega
 unfold rIdx
 rw [gen l 0 h]; simp
theorem said_then {O : List Ro} {c r : Cl} {t d : Int} (hs : sayE O c t = 0) (h1 : r.c = c.c) (h2 : r.k = c.k) (hr : clE r = 0) (hd : 0 ≤ d) :
  heaE (sayL O c t) r (t + d) = if t + d > 200000 then 12 else if d > 40 then 21 else if c ≠ r then 17 else 0 := by
 unfold sayL
 rw [if_pos hs]
 unfold sayE at hs
 split at hs
 ·rename_i q; exact absurd hs q
 ·rename_i q
  split at hs
  ·cases hs
  ·rename_i q12
   obtain ⟨g1, g2, g3⟩ := chk2_ok (by simpa using q)
   have hw := chk2_wrg (c := c) g3
   have G := goodR g1
   have hro : roE [] O = 0 := by
    unfold chkE at g1
    split at g1
    ·cases g1
    ·exact g1
   have hsub := wo_sub O c
   have hno := wo_none (c := c) (roE_dist hro).2
   have hlen := hsub.length_le
   have hGl := G.len
   generalize wo O (rIdx O c) = L at *
   have hle : ∀ x ∈ O, x.t ≤ t := fun x hx => by
    have := G.wrg t
    rw [g3] at this
    have := of_decide_eq_false this.symm
    exact Classical.byContradiction fun z => this (.inr (.inr ⟨x, hx, by omega⟩))
   have hchk : chkE (L ++ [⟨c, t⟩]) = 0 := by
    unfold chkE
    rw [if_neg (by simp; omega)]
    refine roE_of (fun x hx => ?_) ?_ ?_
    ·rcases List.mem_append.1 hx with g | g
     ·simp at g
     ·rcases List.mem_append.1 g with g | g
      ·exact roE_ok hro x (hsub.subset g)
      ·rw [List.mem_singleton] at g
       rw [g]; exact ⟨hw.1, hw.2, g2⟩
    ·rw [List.nil_append, List.pairwise_append]
     refine ⟨G.ord.sublist hsub, List.pairwise_singleton _ _, fun x hx y hy => ?_⟩
     rw [List.mem_singleton] at hy
     rw [hy]; exact hle x (hsub.subset hx)
    ·rw [List.nil_append, List.pairwise_append]
     refine ⟨(roE_dist hro).2.sublist hsub, List.pairwise_singleton _ _, fun x hx y hy => ?_⟩
     rw [List.mem_singleton] at hy
     rw [hy]; exact hno x hx
   have hI := rIdx_snoc (t := t) hno h1 h2
   have hat : (L ++ [(⟨c, t⟩ : Ro)]).getD (rIdx (L ++ [(⟨c, t⟩ : Ro)]) r).toNat default = ⟨c, t⟩ := by
    rw [hI]
    simp
   have h2 : chk2 (L ++ [(⟨c, t⟩ : Ro)]) r (t + d) = if t + d > 200000 then 12 else 0 := by
    unfold chk2
    rw [if_neg (by simp [hchk]), if_neg (by simp [hr]), wrg_snoc]
    by_cases z : t + d > 200000
    ·rw [if_pos z, if_pos (decide_eq_true (by simp only; omega))]
    ·rw [if_neg z, if_neg (by rw [decide_eq_true_eq]; simp only; omega)]
   unfold heaE
   rw [hat, h2, hI]
   by_cases z : t + d > 200000
   ·rw [if_pos z, if_pos z]; simp
   ·have e1 : t + d - (⟨c, t⟩ : Ro).t = d := by simp only; omega
    rw [if_neg z, if_neg z, if_neg (by simp), if_neg (by omega), e1]
end Go.Proofs.YtcifjnhpgblnkaaGreatDoor
namespace Go.Proofs.YtcifjnhpgblnkaaGreatDoor
open Go.RowKit
set_option linter.unusedVariables false
set_option maxRecDepth 100000
namespace PhF
def Γ : FuncId → Option Ca := fun f =>
 if f = 78 ∨ f = 58 ∨ f = 123 ∨ f = 126 ∨ f = 124 ∨ f = 59 then some (.fn .sc)
 else if f = 15 ∨ f = 61 ∨ f = 127 then some (.fn (.tup [.sc, .sc]))
 else if f = 16 then some (.fn (.tup [.sc, .sc, .sc]))
 else if f = 14 ∨ f = 17 then some (.fn (.tup [.row 160 5 true, .sc]))
 else if f = 60 then some (.fn (.row 9 1 true))
 else some .inl
def ann : FuncId → Nat → LoopEx := fun f r => ⟨[], [], [], []⟩
theorem what_form (x0 r : AV) : fnF Tryz.prog Γ ann 3 59 Tryz.f59 (Tryz.f59.body.getD .skip) (.nil) [x0] (.sc) r = (((AV.isAgg x0 4) ∧
(let +zeta σ0 := (AV.cel x0 1)
((AV.binOk Go.BinOp.gtr σ0 (AV.int 2)) ∧
(let +zeta σ2 := (AV.bin Go.BinOp.gtr σ0 (AV.int 2))
((AV.isBool σ2) ∧
(let +zeta σ1 := (AV.lit (Value.string ⟨#[32]⟩))
 let +zeta σ3 := (AV.mkRef [(AV.lit (Value.string ⟨#[72, 69, 73, 71, 72, 84]⟩)), (AV.lit (Value.string ⟨#[72, 69, 65, 68, 73, 78, 71]⟩)), (AV.lit (Value.string ⟨#[83, 80, 69, 69, 68]⟩)), (AV.lit (Value.string ⟨#[68, 73, 82, 69, 67, 84]⟩)), (AV.lit (Value.string ⟨#[72, 79, 76, 68]⟩)), (AV.lit (Value.string ⟨#[67, 79, 78, 84, 65, 67, 84]⟩)), (AV.lit (Value.string ⟨#[76, 65, 78, 68]⟩))])
 let +zeta σ4 := (AV.isRef σ3 7)
 let +zeta σ5 := (AV.refNth σ3 0 [(σ0, 1)])
 let +zeta σ6 := (AV.refOk σ3 7 0 [(σ0, 1)])
 let +zeta σ7 := (AV.bin Go.BinOp.add σ5 σ1)
 let +zeta σ8 := (AV.binOk Go.BinOp.add σ5 σ1)
(((isT σ2) →
((AV.inl 7 σ0) ∧
(σ4 ∧
(σ6 ∧
(σ8 ∧
((AV.binOk Go.BinOp.add σ7 (AV.cel x0 3)) ∧
(let +zeta σ10 := (AV.bin Go.BinOp.add σ7 (AV.cel x0 3))
((AV.flat σ10) ∧
(fSame σ10 r))))))))) ∧
((isF σ2) →
((AV.inl 7 σ0) ∧
(σ4 ∧
(σ6 ∧
(σ8 ∧
(∃ r769 : AV, ((Fn Tryz.prog 124 [(AV.cel x0 2)] Sh.sc r769) ∧
((AV.binOk Go.BinOp.add σ7 r769) ∧
(let +zeta σ9 := (AV.bin Go.BinOp.add σ7 r769)
((AV.flat σ9) ∧
(fSame σ9 r))))))))))))))))))) := by kernel_rfl
theorem back_form (x0 r : AV) : fnF Tryz.prog Γ ann 3 15 Tryz.f15 (Tryz.f15.body.getD .skip) (.nil) [x0] (.tup [.sc, .sc]) r = (((AV.isAgg x0 4) ∧
(∃ r257 : AV, (let +zeta σ3 := (AV.agg [(AV.cel x0 0), (AV.cel x0 1), (AV.cel x0 2), (AV.cel x0 3)])
((Fn Tryz.prog 58 [σ3] Sh.sc r257) ∧
((AV.binOk Go.BinOp.neq r257 (AV.int 0)) ∧
(let +zeta σ1 := (AV.bin Go.BinOp.neq r257 (AV.int 0))
((AV.isBool σ1) ∧
(((isT σ1) →
((AV.flat (AV.lit (Value.string ⟨#[]⟩))) ∧
((AV.flat r257) ∧
(fSame (AV.tup [(AV.lit (Value.string ⟨#[]⟩)), r257]) r)))) ∧
((isF σ1) →
(∃ r577 : AV, ((Fn Tryz.prog 59 [σ3] Sh.sc r577) ∧
(let +zeta σ0 := (AV.lit (Value.string ⟨#[32]⟩))
((AV.binOk Go.BinOp.add r577 σ0) ∧
(let +zeta σ2 := (AV.bin Go.BinOp.add r577 σ0)
((AV.binOk Go.BinOp.add σ2 (AV.cel x0 0)) ∧
(let +zeta σ4 := (AV.bin Go.BinOp.add σ2 (AV.cel x0 0))
((AV.flat σ4) ∧
((AV.flat (AV.int 0)) ∧
(fSame (AV.tup [σ4, (AV.int 0)]) r)))))))))))))))))))) := by kernel_rfl
theorem read_form (x0 x1 x2 r : AV) : fnF Tryz.prog Γ ann 3 61 Tryz.f61 (Tryz.f61.body.getD .skip) (.nil) [x0, x1, x2] (.tup [.sc, .sc]) r = ((∃ r257 : AV, ((Fn Tryz.prog 126 [x1] Sh.sc r257) ∧
((AV.isOne x0) ∧
((AV.isOne r257) ∧
((AV.binOk Go.BinOp.lss r257 (AV.int 0)) ∧
(let +zeta σ2 := (AV.bin Go.BinOp.lss r257 (AV.int 0))
((AV.isBool σ2) ∧
(((isT σ2) →
(let +zeta σ4 := (AV.agg [x0, r257, (AV.int 0), (AV.lit (Value.string ⟨#[]⟩))])
((AV.flat σ4) ∧
((AV.flat (AV.bool false)) ∧
(fSame (AV.tup [σ4, (AV.bool false)]) r))))) ∧
((isF σ2) →
((AV.binOk Go.BinOp.gtr r257 (AV.int 2)) ∧
(let +zeta σ3 := (AV.bin Go.BinOp.gtr r257 (AV.int 2))
((AV.isBool σ3) ∧
(((isT σ3) →
((AV.isOne x2) ∧
(let +zeta σ1 := (AV.agg [x0, r257, (AV.int 0), x2])
((AV.flat σ1) ∧
((AV.flat (AV.bool true)) ∧
(fSame (AV.tup [σ1, (AV.bool true)]) r)))))) ∧
((isF σ3) →
(∃ r1089 : AV, ((Fn Tryz.prog 127 [x2] (Sh.tup [Sh.sc, Sh.sc]) r1089) ∧
((AV.isOne (AV.prj r1089 0)) ∧
((AV.isNI (AV.prj r1089 1)) ∧
(∃ r1985 : AV, ((Fn Tryz.prog 124 [(AV.prj r1089 0)] Sh.sc r1985) ∧
((AV.binOk Go.BinOp.eql r1985 x2) ∧
(let +zeta σ5 := (AV.agg [x0, r257, (AV.prj r1089 0), (AV.lit (Value.string ⟨#[]⟩))])
((AV.flat σ5) ∧
(let +zeta σ0 := (AV.bin Go.BinOp.eql r1985 x2)
((AV.flat σ0) ∧
(fSame (AV.tup [σ5, σ0]) r))))))))))))))))))))))))))) := by kernel_rfl
theorem parse_form (x0 r : AV) : fnF Tryz.prog Γ ann 3 16 Tryz.f16 (Tryz.f16.body.getD .skip) ((.both .nil (.both .nil (.both .nil (.f .nil))))) [x0] (.tup [.sc, .sc, .sc]) r = (((AV.isStr x0) ∧
((AV.binOk Go.BinOp.gtr (AV.slen x0) (AV.int 120)) ∧
(let +zeta σ14 := (AV.bin Go.BinOp.gtr (AV.slen x0) (AV.int 120))
((AV.isBool σ14) ∧
(let +zeta σ0 := (AV.bool false)
 let +zeta σ6 := (AV.flat σ0)
 let +zeta σ16 := (AV.agg [(AV.lit (Value.string ⟨#[]⟩)), (AV.int 0), (AV.int 0), (AV.lit (Value.string ⟨#[]⟩))])
 let +zeta σ17 := (AV.flat σ16)
(((isT σ14) →
(σ17 ∧
(σ6 ∧
((AV.flat (AV.int 2)) ∧
(fSame (AV.tup [σ16, σ0, (AV.int 2)]) r))))) ∧
((isF σ14) →
(∃ r449 : AV, ((Fn Tryz.prog 60 [x0, (AV.lit (Value.string ⟨#[32]⟩))] (Sh.row 9 1 true) r449) ∧
((AV.binOk Go.BinOp.neq (AV.len r449) (AV.int 3)) ∧
(let +zeta σ13 := (AV.bin Go.BinOp.neq (AV.len r449) (AV.int 3))
((AV.isBool σ13) ∧
(let +zeta σ20 := (σ17 ∧
(σ6 ∧
((AV.flat (AV.int 5)) ∧
(fSame (AV.tup [σ16, σ0, (AV.int 5)]) r))))
(((isT σ13) →
 σ20) ∧
((isF σ13) →
(let +zeta σ3 := (AV.inb r449 (AV.int 0))
(σ3 ∧
(σ3 ∧
(let +zeta σ4 := (AV.inb r449 (AV.int 1))
(σ4 ∧
(σ4 ∧
(let +zeta σ5 := (AV.inb r449 (AV.int 2))
(σ5 ∧
(σ5 ∧
(∃ r1409 : AV, ((Fn Tryz.prog 61 [(AV.at r449 (AV.int 0) 0), (AV.at r449 (AV.int 1) 0), (AV.at r449 (AV.int 2) 0)] (Sh.tup [Sh.sc, Sh.sc]) r1409) ∧
(let +zeta σ1 := (AV.prj r1409 0)
((AV.isAgg σ1 4) ∧
(let +zeta σ9 := (AV.unOk Go.UnOp.not (AV.prj r1409 1))
(σ9 ∧
(let +zeta σ7 := (AV.un Go.UnOp.not (AV.prj r1409 1))
 let +zeta σ15 := (AV.isBool σ7)
(σ15 ∧
(((isT σ7) →
(σ5 ∧
(σ5 ∧
(σ3 ∧
(σ3 ∧
(σ4 ∧
(σ4 ∧
(∃ r2561 : AV, ((Fn Tryz.prog 61 [(AV.at r449 (AV.int 2) 0), (AV.at r449 (AV.int 0) 0), (AV.at r449 (AV.int 1) 0)] (Sh.tup [Sh.sc, Sh.sc]) r2561) ∧
(let +zeta σ2 := (AV.prj r2561 0)
((AV.isAgg σ2 4) ∧
((AV.unOk Go.UnOp.not (AV.prj r2561 1)) ∧
(let +zeta σ8 := (AV.un Go.UnOp.not (AV.prj r2561 1))
((AV.isBool σ8) ∧
(((isT σ8) →
 σ20) ∧
((isF σ8) →
(∃ r3201 : AV, (let +zeta σ18 := (AV.agg [(AV.cel σ2 0), (AV.cel σ2 1), (AV.cel σ2 2), (AV.cel σ2 3)])
((Fn Tryz.prog 58 [σ18] Sh.sc r3201) ∧
((AV.binOk Go.BinOp.neq r3201 (AV.int 0)) ∧
(let +zeta σ10 := (AV.bin Go.BinOp.neq r3201 (AV.int 0))
((AV.isBool σ10) ∧
(((isT σ10) →
(σ17 ∧
(σ6 ∧
((AV.flat r3201) ∧
(fSame (AV.tup [σ16, σ0, r3201]) r))))) ∧
((isF σ10) →
((AV.flat σ18) ∧
((AV.flat (AV.bool true)) ∧
((AV.flat (AV.int 0)) ∧
(fSame (AV.tup [σ18, (AV.bool true), (AV.int 0)]) r)))))))))))))))))))))))))))) ∧
(let +zeta σ12 := (isF σ7)
(σ12 →
(σ9 ∧
(σ15 ∧
(σ12 ∧
(∃ r2177 : AV, (let +zeta σ19 := (AV.agg [(AV.cel σ1 0), (AV.cel σ1 1), (AV.cel σ1 2), (AV.cel σ1 3)])
((Fn Tryz.prog 58 [σ19] Sh.sc r2177) ∧
((AV.binOk Go.BinOp.neq r2177 (AV.int 0)) ∧
(let +zeta σ11 := (AV.bin Go.BinOp.neq r2177 (AV.int 0))
((AV.isBool σ11) ∧
(((isT σ11) →
(σ17 ∧
(σ6 ∧
((AV.flat r2177) ∧
(fSame (AV.tup [σ16, σ0, r2177]) r))))) ∧
((isF σ11) →
((AV.flat σ19) ∧
(σ6 ∧
((AV.flat (AV.int 0)) ∧
(fSame (AV.tup [σ19, σ0, (AV.int 0)]) r))))))))))))))))))))))))))))))))))))))))))))))))))) := by kernel_rfl
end PhF
end Go.Proofs.YtcifjnhpgblnkaaGreatDoor
namespace Go.Proofs.YtcifjnhpgblnkaaGreatDoor
open Go.RowKit
set_option linter.unusedVariables false
set_option linter.unusedSimpArgs false
set_option maxRecDepth 100000
theorem args_two {w : World} {ok : Nat → Prop} {u v : Value} {cargs : Array Value} (hsz : cargs.size = 2) (h : RV w ok (.lit u) (cargs.getD 0 undef)) (h' : RV w ok (.lit v) (cargs.getD 1 undef)) : cargs = #[u, v] := by
 have e1 := RV.lit_iff.1 h
 have e2 := RV.lit_iff.1 h'
 apply Array.ext
 ·exact hsz
 ·intro i h1 h2
  have : i = 0 ∨ i = 1 := by simp at h2; omega
  rcases this with rfl | rfl
  ·rw [Array.getD_eq_getD_getElem?, Array.getElem?_eq_getElem h1] at e1
   exact e1
  ·rw [Array.getD_eq_getD_getElem?, Array.getElem?_eq_getElem h1] at e2
   exact e2
def parts (s : ByteArray) : List ByteArray := Lib.splitB ⟨#[32]⟩ 0 (Lib.countB s ⟨#[32]⟩) s
theorem split_fn {s : ByteArray} (hs : s.size ≤ 120) : Fn Tryz.prog 60 [.string s, .string ⟨#[32]⟩] (.row 9 1 true) (lst 1 encS (parts s)) := by
 refine ⟨Tryz.call60, fun w ok cargs hok hgl hsz hargs => ?_⟩
 obtain rfl := args_two hsz (hargs 0 (by simp)) (hargs 1 (by simp))
 obtain ⟨_, m, hm⟩ := hgl.2 2 (.head _)
 refine (Any.strings_Split lays146 (by kernel_rfl) s ⟨#[32]⟩ m w (by omega) hm (by decide)).mono ?_
 rintro e w' ⟨rfl, rfl⟩
 have hcnt : (parts s).length = Lib.countB s ⟨#[32]⟩ + 1 := Lib.splitB_all _ (by decide) 0 _ s rfl
 have hle : Lib.countB s ⟨#[32]⟩ ≤ s.size := Lib.countB_le _ (by decide) s.size s (Nat.le_refl _)
 refine ⟨_, rfl, ⟨rfl, rfl, rfl, by show w.heap.size ≤ (w.heap.push _).size; rw [Array.size_push]; omega, fun j hj => by show (w.heap.push _)[j]? = _; rw [Array.getElem?_push_lt hj, Array.getElem?_eq_getElem hj]⟩, ?_, fun j i j' i' hr hr' hne => ?_, Nat.le_refl _⟩
 ·refine ⟨(parts s).map encS, (parts s).map Value.string, rfl, by decide, fun y hy => ?_, ⟨by simp, .inr ⟨w.heap.size, Lib.countB s ⟨#[32]⟩ + 1, ((parts s).map Value.string).toArray, by rw [List.length_map, hcnt], Nat.le_refl _, by show (w.heap.push _)[w.heap.size]? = _; rw [Array.getElem?_push_size]; rfl, by simp [hcnt], by unfold maxLen; omega, by rw [List.size_toArray, List.length_map, hcnt]; omega, by simp; exact List.take_of_length_le (by simp)⟩⟩, fun u hu => ?_, fun i j hi hj => ?_⟩
  ·obtain ⟨x, _, rfl⟩ := List.mem_map.1 hy; rfl
  ·obtain ⟨x, _, rfl⟩ := List.mem_map.1 hu; rfl
  ·obtain rfl : j = 0 := by omega
   have hi' : i < (parts s).length := by simpa using hi
   simp [gt2, hi', encS]
   exact .lit _
 ·have hz : ∀ j i, isRow (leafSh j i (Sh.row 9 1 true)) = true → j = 0 ∧ i = 0 := fun j i h => by
   rcases j with _ | j <;> rcases i with _ | i <;> first | exact ⟨rfl, rfl⟩ | (exfalso; cases h)
  have q1 := hz _ _ hr
  have q2 := hz _ _ hr'
  omega
end Go.Proofs.YtcifjnhpgblnkaaGreatDoor
namespace Go.Proofs.YtcifjnhpgblnkaaGreatDoor
open Go.RowKit
set_option linter.unusedVariables false
set_option linter.unusedSimpArgs false
set_option maxRecDepth 100000
theorem key_app (a b : ByteArray) : key (a ++ b) = key a ++ key b := by unfold key; simp [ByteArray.data_append]
/-! Cutting at blanks. -/
theorem idx_sp (r : List UInt8) : ∀ (a : List UInt8), (32 : UInt8) ∉ a → Lib.index (a ++ 32 :: r) [32] = (a.length : Nat)
 | [], _ => by simp [Lib.index, List.isPrefixOf]
 | x :: a, h => by
  have hx : ¬ (32 : UInt8) = x := fun e => h (by simp [e])
  have ih := idx_sp r a (fun q => h (by simp [q]))
  show (if List.isPrefixOf [32] (x :: (a ++ 32 :: r)) then 0 else if Lib.index (a ++ 32 :: r) [32] == -1 then -1 else Lib.index (a ++ 32 :: r) [32] + 1) = _
  rw [ih, if_neg (by simp [List.isPrefixOf, hx]), if_neg (by first | (simp; done) | (simp; omega))]
  try simp
theorem idx_no : ∀ (a : List UInt8), (32 : UInt8) ∉ a → Lib.index a [32] = -1
 | [], _ => by simp [Lib.index]
 | x :: a, h => by
  have hx : ¬ (32 : UInt8) = x := fun e => h (by simp [e])
  have ih := idx_no a (fun q => h (by simp [q]))
  show (if List.isPrefixOf [32] (x :: a) then 0 else if Lib.index a [32] == -1 then -1 else Lib.index a [32] + 1) = _
  rw [ih, if_neg (by simp [List.isPrefixOf, hx])]
  simp
theorem split3 (a b c : List UInt8) (ha : (32 : UInt8) ∉ a) (hb : (32 : UInt8) ∉ b) (hc : (32 : UInt8) ∉ c) : Lib.splitK [32] 0 2 (a ++ 32 :: (b ++ 32 :: c)) = [a, b, c] := by
 have h1 := idx_sp (b ++ 32 :: c) a ha
 have h2 := idx_sp c b hb
 have h3 := idx_no c hc
 have e1 : (a ++ 32 :: (b ++ 32 :: c)).drop (a.length + 1) = b ++ 32 :: c := by
  rw [List.drop_append, List.drop_of_length_le (by omega)]; simp
 have e2 : (b ++ 32 :: c).drop (b.length + 1) = c := by
  rw [List.drop_append, List.drop_of_length_le (by omega)]; simp
 simp [Lib.splitK, h1, e1, h2, e2]
theorem cnt3 (a b c : List UInt8) (ha : (32 : UInt8) ∉ a) (hb : (32 : UInt8) ∉ b) (hc : (32 : UInt8) ∉ c) : Lib.count (a ++ 32 :: (b ++ 32 :: c)) [32] = 2 := by
 rw [Lib.count_one]
 simp [List.count_append, List.count_eq_zero_of_not_mem ha, List.count_eq_zero_of_not_mem hb, List.count_eq_zero_of_not_mem hc]
def spB : ByteArray := ⟨#[32]⟩
theorem parts3 {s a b c : ByteArray} (hs : key s = key a ++ 32 :: (key b ++ 32 :: key c)) (ha : (32 : UInt8) ∉ key a) (hb : (32 : UInt8) ∉ key b) (hc : (32 : UInt8) ∉ key c) : parts s = [a, b, c] := by
 have h1 : Lib.countB s ⟨#[32]⟩ = 2 := by
  show Lib.count (key s) [32] = 2
  rw [hs]; exact cnt3 _ _ _ ha hb hc
 have h2 := Lib.splitB_data ⟨#[32]⟩ 0 2 s
 have h3 : Lib.splitK [32] 0 2 (key s) = [key a, key b, key c] := by rw [hs]; exact split3 _ _ _ ha hb hc
 have h4 : (parts s).map key = [key a, key b, key c] := by
  unfold parts
  rw [h1]
  exact h2.trans h3
 exact (List.map_inj_right (f := key) fun x y e => key_inj e).1 (h4 : (parts s).map key = [a, b, c].map key)
/-! Numerals. -/
theorem dd_all : ∀ (u : Nat), ∀ c ∈ Lib.decDigits u, dig c
 | u => by
  rw [Lib.decDigits]
  split
  ·rename_i h
   intro c hc
   rw [List.mem_singleton] at hc
   subst hc
   unfold dig
   rw [UInt8.toNat_ofNat']
   omega
  ·rename_i h
   intro c hc
   rcases List.mem_append.1 hc with hc | hc
   ·exact dd_all (u / 10) c hc
   ·rw [List.mem_singleton] at hc
    subst hc
    unfold dig
    rw [UInt8.toNat_ofNat']
    omega
termination_by u => u
decreasing_by omega
theorem dd_ne (u : Nat) : Lib.decDigits u ≠ [] := by
 rw [Lib.decDigits]
 split <;> simp
theorem decFrom_app (b : UInt8) (d : Nat) (hd : Lib.digitVal b = some d) : ∀ (l : List UInt8) (acc m : Nat), Lib.decFrom acc l = some m → Lib.decFrom acc (l ++ [b]) = some (m * 10 + d)
 | [], acc, m, h => by
  simp [Lib.decFrom] at h
  simp [Lib.decFrom, hd, h]
 | x :: l, acc, m, h => by
  simp only [Lib.decFrom, List.cons_append] at h ⊢
  split at h
  ·rename_i q
   exact decFrom_app b d hd l _ m h
  ·cases h
theorem dd_val : ∀ (u : Nat), Lib.decFrom 0 (Lib.decDigits u) = some u
 | u => by
  rw [Lib.decDigits]
  have hdv : ∀ d, d < 10 → Lib.digitVal (UInt8.ofNat (48 + d)) = some d := fun d hd => by
   unfold Lib.digitVal
   rw [UInt8.toNat_ofNat', if_pos (by omega)]
   congr 1
   omega
  split
  ·rename_i h
   show (match Lib.digitVal _ with | some d => Lib.decFrom (0 * 10 + d) [] | none => none) = _
   rw [hdv u h]
   simp [Lib.decFrom]
   try rfl
  ·rename_i h
   rw [decFrom_app _ (u % 10) (hdv _ (by omega)) _ 0 (u / 10) (dd_val (u / 10))]
   congr 1
   omega
termination_by u => u
decreasing_by omega
theorem itoa_dd (n : Nat) : key (itoaS n) = Lib.decDigits n := by
 show Lib.itoa n = _
 unfold Lib.itoa
 rw [if_neg (by omega)]
 simp
theorem itoa_dig {v : Int} (h : 0 ≤ v) : ∀ c ∈ key (itoaS v), dig c := by
 obtain ⟨n, rfl⟩ := Int.eq_ofNat_of_zero_le h
 rw [itoa_dd]
 exact dd_all n
theorem atoi_itoa {v : Int} (h : 0 ≤ v) : Lib.atoi (key (itoaS v)) = some v := by
 obtain ⟨n, rfl⟩ := Int.eq_ofNat_of_zero_le h
 rw [itoa_dd]
 have h1 := dd_val n
 have h2 := dd_all n
 have h3 := dd_ne n
 generalize Lib.decDigits n = l at *
 cases l with
 | nil => exact absurd rfl h3
 | cons b r =>
  have hb := h2 b (by simp)
  unfold dig at hb
  have e1 : (b == 45) = false := by
   rw [beq_eq_false_iff_ne]; rintro rfl; exact absurd hb.1 (by decide)
  have e2 : (b == 43) = false := by
   rw [beq_eq_false_iff_ne]; rintro rfl; exact absurd hb.1 (by decide)
  unfold Lib.atoi
  simp only [e1, e2]
  simp [Lib.decNat, h1]
theorem dd_size : ∀ (u k : Nat), u < 10 ^ (k + 1) → (Lib.decDigits u).length ≤ k + 1
 | u, k, h => by
  rw [Lib.decDigits]
  split
  ·simp
  ·rename_i hu
   cases k with
   | zero => simp at h; omega
   | succ k =>
    have := dd_size (u / 10) k (by rw [Nat.pow_succ] at h; omega)
    simp; omega
theorem itoa_size {v : Int} (h : 0 ≤ v) (h2 : v ≤ 60000) : (itoaS v).size ≤ 5 := by
 obtain ⟨n, rfl⟩ := Int.eq_ofNat_of_zero_le h
 rw [← key_len, itoa_dd]
 exact dd_size n 4 (by omega)
/-! Words. -/
theorem wds_key : ∀ w ∈ wds, (32 : UInt8) ∉ key w ∧ ¬ (∀ c ∈ key w, dig c) ∧ w.size ≤ 7 := by decide
theorem kind_wd : ∀ k, k < 7 → kindI (wds.getD k ⟨#[]⟩) = (k : Nat) := by decide
theorem kind_no {s : ByteArray} (h : s ∉ wds) : kindI s = -1 := by
 unfold kindI
 rcases idxN_spec (isW s) wds 0 with ⟨h1, _⟩ | ⟨i, x, h1, h2, h3⟩
 ·exact h1
 ·have : s = x := by simpa [isW] using h3
  exact absurd (this ▸ List.mem_of_getElem? h2) h
theorem kind_itoa {v : Int} (h : 0 ≤ v) : kindI (itoaS v) = -1 := kind_no fun q => (wds_key _ q).2.1 (itoa_dig h)
theorem fr_kind {s : ByteArray} (h : frS s = true) : kindI s < 0 := by
 simp [frS] at h; exact h.2
theorem fr_size {s : ByteArray} (h : frS s = true) : s.size ≤ 8 := by
 simp [frS, isName] at h; omega
theorem nameG_sp : ∀ (n : Nat) (l : List UInt8), nameG n l = true → (32 : UInt8) ∉ l
 | _, [], _ => by simp
 | n, x :: l, h => by
  simp [nameG] at h
  intro hm
  rcases List.mem_cons.1 hm with e | hm
  ·subst e
   rcases h.1 with q | q
   ·exact absurd q.1 (by decide)
   ·exact absurd q.2.1 (by decide)
  ·exact nameG_sp _ l h.2 hm
theorem fr_sp {s : ByteArray} (h : frS s = true) : (32 : UInt8) ∉ key s := by
 simp [frS, isName] at h
 exact nameG_sp 0 _ h.1.2
theorem itoa_sp {v : Int} (h : 0 ≤ v) : (32 : UInt8) ∉ key (itoaS v) := fun q => absurd (itoa_dig h _ q).1 (by decide)
/-! A clearance that is valid. -/
structure OkC (x : Cl) : Prop where
 c : frS x.c = true
 k0 : 0 ≤ x.k
 k6 : x.k ≤ 6
 f : x.k > 2 → x.v = 0 ∧ frS x.f = true
 v : x.k ≤ 2 → x.f = ⟨#[]⟩ ∧ 0 ≤ x.v ∧ x.v ≤ 60000
theorem okC {x : Cl} (h : clE x = 0) : OkC x := by
 obtain ⟨c, k, v, f⟩ := x
 unfold clE at h
 split at h
 ·cases h
 ·rename_i h1
  split at h
  ·cases h
  ·rename_i h2
   split at h
   ·rename_i h3
    split at h
    ·cases h
    ·rename_i h4
     exact ⟨by simpa using h1, by simp at h2 ⊢; omega, by simp at h2 ⊢; omega, fun _ => by simpa using h4, fun q => absurd q (by omega)⟩
   ·rename_i h3
    split at h
    ·cases h
    ·rename_i h4
     split at h
     ·cases h
     ·rename_i h5
      refine ⟨by simpa using h1, by simp at h2 ⊢; omega, by simp at h2 ⊢; omega, fun q => absurd q h3, fun _ => ⟨by simpa using h4, ?_⟩⟩
      simp [mostI] at h5 ⊢
      split at h5
      ·omega
      ·split at h5 <;> omega
def wordOf (x : Cl) : ByteArray := wds.getD x.k.toNat ⟨#[]⟩
def argOf (x : Cl) : ByteArray := if x.k > 2 then x.f else itoaS x.v
def whatS (x : Cl) : ByteArray := wordOf x ++ spB ++ argOf x
theorem OkC.word {x : Cl} (h : OkC x) : wordOf x ∈ wds := by
 have h0 := h.k0; have h6 := h.k6
 unfold wordOf
 have hlt : x.k.toNat < wds.length := by rw [wds_len]; omega
 rw [List.getD_eq_getElem?_getD, List.getElem?_eq_getElem hlt]
 exact List.getElem_mem hlt
theorem OkC.kind {x : Cl} (h : OkC x) : kindI (wordOf x) = x.k := by
 have h0 := h.k0; have h6 := h.k6
 unfold wordOf
 rw [kind_wd _ (by omega)]
 omega
theorem OkC.arg {x : Cl} (h : OkC x) : (32 : UInt8) ∉ key (argOf x) ∧ kindI (argOf x) < 0 ∧ (argOf x).size ≤ 8 := by
 unfold argOf
 split
 ·rename_i q
  have := (h.f q).2
  exact ⟨fr_sp this, fr_kind this, fr_size this⟩
 ·rename_i q
  obtain ⟨_, h1, h2⟩ := h.v (by omega)
  refine ⟨itoa_sp h1, by rw [kind_itoa h1]; omega, ?_⟩
  have := itoa_size h1 h2
  omega
theorem OkC.back {x : Cl} (h : OkC x) : parts (whatS x ++ spB ++ x.c) = [wordOf x, argOf x, x.c] :=
 parts3 (by simp [whatS, key_app, show key spB = [32] from rfl]) (wds_key _ h.word).1 h.arg.1 (fr_sp h.c)
theorem OkC.size {x : Cl} (h : OkC x) : x.c.size ≤ 8 ∧ (wordOf x).size ≤ 7 ∧ (whatS x).size ≤ 16 := by
 have h1 := fr_size h.c
 have h2 := (wds_key _ h.word).2.2
 have h3 := h.arg.2.2
 have : spB.size = 1 := rfl
 exact ⟨h1, h2, by simp only [whatS, ByteArray.size_append]; omega⟩
end Go.Proofs.YtcifjnhpgblnkaaGreatDoor
namespace Go.Proofs.YtcifjnhpgblnkaaGreatDoor
open Go.RowKit
set_option linter.unusedVariables false
set_option linter.unusedSimpArgs false
set_option maxRecDepth 100000
theorem szm (a : Array UInt8) : (ByteArray.mk a).size = a.size := rfl
/-! ### Dec -/
def digs : ByteArray := ⟨#[48, 49, 50, 51, 52, 53, 54, 55, 56, 57]⟩
def decS (n : Nat) : ByteArray := if h : n < 10 then digs.extract n (n + 1) else decS (n / 10) ++ decS (n % 10)
termination_by n
decreasing_by all_goals omega
theorem what_fn {x : Cl} (o : OkC x) : Fn Tryz.prog 59 [cl x] .sc (.string (whatS x)) := by
  refine fn_run mixed 3 (Γ := PhF.Γ) (ann := PhF.ann) Tryz.func59 rfl Tryz.call59 ((PhF.what_form _ _).mpr ?_)
  obtain ⟨c, k, v, f⟩ := x
  have h0 : 0 ≤ k := o.k0
  have h6 : k ≤ 6 := o.k6
  have ha : (argOf ⟨c, k, v, f⟩).size ≤ 8 := o.arg.2.2
  have hk : k = 0 ∨ k = 1 ∨ k = 2 ∨ k = 3 ∨ k = 4 ∨ k = 5 ∨ k = 6 := by omega
  have hv := o.v
  simp at hv
  rcases hk with rfl | rfl | rfl | rfl | rfl | rfl | rfl
  all_goals
    simp [argOf] at ha
    simp [encL, AV.inl, AV.refOk, AV.refNth, AV.rcs, AV.off, whatS, wordOf, argOf, wds, spB, szm]
  all_goals first
    | omega
    | (have hv2 := hv (by omega)
       refine ⟨_, itoa_fn v (by omega) (by omega), ?_⟩
       simp [szm]
       omega)
def prV (x : Cl) : AV := .tup [.string (if clE x = 0 then x.c ++ spB ++ whatS x else ⟨#[]⟩), .int (clE x)]
def bkV (x : Cl) : AV := .tup [.string (if clE x = 0 then whatS x ++ spB ++ x.c else ⟨#[]⟩), .int (clE x)]
theorem back_fn (x : Cl) : Fn Tryz.prog 15 [cl x] (.tup [.sc, .sc]) (bkV x) := by
 refine fn_run mixed 3 (Γ := PhF.Γ) (ann := PhF.ann) Tryz.func15 rfl Tryz.call15 ((PhF.back_form _ _).mpr ?_)
 have hsp : (⟨#[32]⟩ : ByteArray) = spB := rfl
 simp only [hsp]
 refine ⟨by simp [encL], _, pcheck_fn x, ?_⟩
 simp
 refine ⟨fun h => by simp [bkV, h], fun h => ?_⟩
 obtain ⟨z1, z2, z3⟩ := (okC h).size
 have z5 : spB.size = 1 := rfl
 refine ⟨_, what_fn (okC h), ?_⟩
 simp [bkV, h, encL]
 omega
theorem read_no (c w r : ByteArray) (h : kindI w < 0) : Fn Tryz.prog 61 [.string c, .string w, .string r] (.tup [.sc, .sc]) (.tup [cl ⟨c, kindI w, 0, ⟨#[]⟩⟩, .bool false]) := by
 refine fn_run mixed 3 (Γ := PhF.Γ) (ann := PhF.ann) Tryz.func61 rfl Tryz.call61 ((PhF.read_form _ _ _ _).mpr ?_)
 refine ⟨_, kind_fn w, ?_⟩
 simp [h, encL]
theorem read_ok {x : Cl} (o : OkC x) : Fn Tryz.prog 61 [.string x.c, .string (wordOf x), .string (argOf x)] (.tup [.sc, .sc]) (.tup [cl x, .bool true]) := by
 refine fn_run mixed 3 (Γ := PhF.Γ) (ann := PhF.ann) Tryz.func61 rfl Tryz.call61 ((PhF.read_form _ _ _ _).mpr ?_)
 refine ⟨_, kind_fn _, ?_⟩
 rw [o.kind]
 have h0 := o.k0
 have hv := o.v
 have hf := o.f
 obtain ⟨c, k, v, f⟩ := x
 simp only at h0 hv hf
 simp [encL]
 refine ⟨h0, fun _ => ⟨fun h => ?_, fun h => ?_⟩⟩
 ·have e0 := (hf (by omega)).1
  subst e0
  have e : argOf ⟨c, k, 0, f⟩ = f := if_pos (by simp; omega)
  simp [e]
 ·obtain ⟨e0, hv1, hv2⟩ := hv (by omega)
  have e : argOf ⟨c, k, v, f⟩ = itoaS v := if_neg (by simp; omega)
  rw [e]
  have hs := itoa_size hv1 hv2
  refine ⟨_, atoi_fn (by omega) (atoi_itoa hv1), ?_⟩
  simp
  refine ⟨_, itoa_fn v (by omega) (by omega), ?_⟩
  simp [e0]
theorem parse_back {x : Cl} (h : clE x = 0) : Fn Tryz.prog 16 [.string (whatS x ++ spB ++ x.c)] (.tup [.sc, .sc, .sc]) (.tup [cl x, .bool true, .int 0]) := by
 have e := PhF.parse_form (.string (whatS x ++ spB ++ x.c)) (.tup [cl x, .bool true, .int 0])
 have k := fun h => fn_run mixed 3 (Γ := PhF.Γ) (ann := PhF.ann) Tryz.func16 rfl Tryz.call16 (e.mpr h)
 refine k ?_
 clear k e
 have o := okC h
 obtain ⟨z1, z2, z3⟩ := o.size
 have z5 : spB.size = 1 := rfl
 have hs : (whatS x ++ spB ++ x.c).size ≤ 120 := by simp only [ByteArray.size_append]; omega
 have hp := o.back
 have hsl := split_fn hs
 rw [hp] at hsl
 have a0 : AV.at (lst 1 encS [wordOf x, argOf x, x.c]) (.int 0) 0 = .string (wordOf x) := rfl
 have a1 : AV.at (lst 1 encS [wordOf x, argOf x, x.c]) (.int 1) 0 = .string (argOf x) := rfl
 have a2 : AV.at (lst 1 encS [wordOf x, argOf x, x.c]) (.int 2) 0 = .string x.c := rfl
 generalize whatS x ++ spB ++ x.c = s at *
 simp
 refine ⟨by omega, fun _ => ⟨_, hsl, ?_⟩⟩
 simp [a0, a1, a2]
 refine ⟨_, read_no (wordOf x) (argOf x) x.c o.arg.2.1, ?_⟩
 simp
 refine ⟨by simp [encL], _, read_ok o, ?_⟩
 simp
 refine ⟨by simp [encL], _, pcheck_fn x, ?_⟩
 simp [h, encL]
end Go.Proofs.YtcifjnhpgblnkaaGreatDoor
namespace Go.Proofs.YtcifjnhpgblnkaaGreatDoor
open Go.RowKit
set_option linter.unusedVariables false
set_option maxRecDepth 100000
namespace RdF
def Γ : FuncId → Option Ca := fun f =>
 if f = 20 ∨ f = 5 ∨ f = 6 ∨ f = 13 ∨ f = 19 then some (.fn .sc)
 else if f = 15 then some (.fn (.tup [.sc, .sc]))
 else if f = 16 then some (.fn (.tup [.sc, .sc, .sc]))
 else if f = 14 ∨ f = 17 then some (.fn (.tup [.row 160 5 true, .sc]))
 else if f = 18 then some (.fn (.tup [.row 54 6 true, .sc]))
 else some .inl
def ann : FuncId → Nat → LoopEx := fun f r => if f = 4 ∧ r < 300000 then ⟨[], [], [], [(12, 0, 0, 0), (9, 0, 0, 0)]⟩ else ⟨[], [], [], []⟩
theorem small_form (x0 x1 x2 r : AV) : fnF Tryz.prog Γ ann 3 13 Tryz.f13 (Tryz.f13.body.getD .skip) (.nil) [x0, x1, x2] (.sc) r = (((AV.isOne x2) ∧
((AV.isSl x0 1) ∧
((AV.binOk Go.BinOp.leq (AV.len x0) x1) ∧
(let +zeta σ1 := (AV.bin Go.BinOp.leq (AV.len x0) x1)
 let +zeta σ9 := (AV.isBool σ1)
(σ9 ∧
((let +zeta σ4 := (isT σ1)
(σ4 →
((fEnt Tryz.prog 52) ∧
(fAllV fun _ => ((fEnt Tryz.prog 118) ∧
(fAllV fun _ => ((AV.isSl x0 1) ∧
(fLoop 1153 [(AV.int 0)] fun ys1153 again1153 =>
(let +zeta σ0 := (ys1153.getD 0 default)
((AV.binOk Go.BinOp.lss σ0 (AV.len x0)) ∧
(let +zeta σ13 := (AV.bin Go.BinOp.lss σ0 (AV.len x0))
((AV.isBool σ13) ∧
(((isT σ13) →
((AV.isSl x0 1) ∧
((AV.inb x0 σ0) ∧
((fEnt Tryz.prog 53) ∧
(fAllV fun _ => (∃ r1857 : AV, (let +zeta σ2 := (AV.at x0 σ0 0)
((Fn Tryz.prog 20 [σ2] Sh.sc r1857) ∧
((AV.binOk Go.BinOp.neq r1857 (AV.int 0)) ∧
(let +zeta σ3 := (AV.bin Go.BinOp.neq r1857 (AV.int 0))
 let +zeta σ11 := (AV.isBool σ3)
(σ11 ∧
(let +zeta σ12 := (AV.bin Go.BinOp.geq σ0 (AV.int 0))
 let +zeta σ15 := (AV.un Go.UnOp.not σ12)
 let +zeta σ20 := ((AV.binOk Go.BinOp.geq σ0 (AV.int 0)) ∧
((AV.unOk Go.UnOp.not σ12) ∧
(σ9 ∧
(σ4 ∧
((AV.flat σ15) ∧
(fSame σ15 r))))))
((let +zeta σ6 := (isT σ3)
(σ6 →
(σ11 ∧
(σ6 ∧
 σ20)))) ∧
(let +zeta σ7 := (isF σ3)
(σ7 →
(let +zeta σ10 := (AV.isSl σ2 6)
(σ10 ∧
(let +zeta σ8 := (AV.len σ2)
((AV.binOk Go.BinOp.sub σ8 (AV.int 1)) ∧
(σ10 ∧
(let +zeta σ16 := (AV.bin Go.BinOp.sub σ8 (AV.int 1))
((AV.inb σ2 σ16) ∧
(σ10 ∧
((AV.inb σ2 (AV.int 0)) ∧
(let +zeta σ14 := (AV.at σ2 (AV.int 0) 0)
 let +zeta σ17 := (AV.at σ2 σ16 0)
((AV.binOk Go.BinOp.sub σ17 σ14) ∧
(let +zeta σ18 := (AV.bin Go.BinOp.sub σ17 σ14)
((AV.binOk Go.BinOp.gtr σ18 x2) ∧
(σ11 ∧
(σ7 ∧
(let +zeta σ19 := (AV.bin Go.BinOp.gtr σ18 x2)
((AV.isBool σ19) ∧
(((isT σ19) →
 σ20) ∧
((isF σ19) →
((AV.binOk Go.BinOp.add σ0 (AV.int 1)) ∧
(again1153 [(AV.bin Go.BinOp.add σ0 (AV.int 1))])))))))))))))))))))))))))))))))))))) ∧
((isF σ13) →
(σ9 ∧
(σ4 ∧
((AV.flat (AV.bool true)) ∧
(fSame (AV.bool true) r)))))))))))))))))) ∧
(let +zeta σ5 := (isF σ1)
(σ5 →
(σ9 ∧
(σ5 ∧
((AV.flat (AV.bool false)) ∧
(fSame (AV.bool false) r))))))))))))) := by kernel_rfl
theorem pick_form (x0 x1 r : AV) : fnF Tryz.prog Γ ann 2 6 Tryz.f6 (Tryz.f6.body.getD .skip) (.nil) [x0, x1] (.sc) r = (((AV.isInt x0) ∧
((AV.isInt x1) ∧
((AV.binOk Go.BinOp.rem (AV.conv Go.IntKind.u64 x0) (AV.conv Go.IntKind.u64 x1)) ∧
(let +zeta σ0 := (AV.bin Go.BinOp.rem (AV.conv Go.IntKind.u64 x0) (AV.conv Go.IntKind.u64 x1))
((AV.isInt σ0) ∧
(let +zeta σ1 := (AV.conv Go.IntKind.i64 σ0)
((AV.flat σ1) ∧
(fSame σ1 r))))))))) := by kernel_rfl
theorem law_form (x0 x1 x2 x3 r : AV) : fnF Tryz.prog Γ ann 4 4 Tryz.f4 (Tryz.f4.body.getD .skip) ((.f (.both .nil (.both .nil (.both .nil (.both (.both .nil (.both (.both (.both .nil (.f (.f (.both (.both (.f (.both .nil (.f (.f .nil)))) (.both .nil (.f (.f .nil)))) (.both (.f (.both .nil (.f (.f .nil)))) (.both .nil (.f (.f .nil)))))))) (.both .nil (.f (.f (.both (.both (.f (.both .nil (.f (.f .nil)))) (.both .nil (.f (.f .nil)))) (.both (.f (.both .nil (.f (.f .nil)))) (.both .nil (.f (.f .nil))))))))) (.both .nil (.f (.f (.both (.both (.f (.both .nil (.f (.f .nil)))) (.both .nil (.f (.f .nil)))) (.both (.f (.both .nil (.f (.f .nil)))) (.both .nil (.f (.f .nil)))))))))) (.t .nil))))))) [x0, x1, x2, x3] (.sc) r = (((AV.isAgg x1 7) ∧
(∃ r129 : AV, ((Fn Tryz.prog 5 [] Sh.sc r129) ∧
((AV.unOk Go.UnOp.not r129) ∧
((AV.isBool (AV.un Go.UnOp.not r129)) ∧
((isF (AV.un Go.UnOp.not r129)) ∧
((AV.isOne x0) ∧
(∃ r385 : AV, ((Fn Tryz.prog 13 [(AV.mk 1 [[x0]]), (AV.int 1), (AV.int 400)] Sh.sc r385) ∧
((AV.unOk Go.UnOp.not r385) ∧
(let +zeta σ30 := (AV.un Go.UnOp.not r385)
 let +zeta σ52 := (AV.isBool σ30)
(σ52 ∧
(let +zeta σ108 := ((AV.flat (AV.bool true)) ∧
(fSame (AV.bool true) r))
((let +zeta σ47 := (isT σ30)
(σ47 →
(σ52 ∧
(σ47 ∧
 σ108)))) ∧
(let +zeta σ48 := (isF σ30)
(σ48 →
(let +zeta σ0 := (AV.isSl x2 4)
(σ0 ∧
((AV.binOk Go.BinOp.gtr (AV.len x2) (AV.int 8)) ∧
(σ52 ∧
(σ48 ∧
(let +zeta σ65 := (AV.bin Go.BinOp.gtr (AV.len x2) (AV.int 8))
 let +zeta σ123 := (AV.isBool σ65)
(σ123 ∧
((let +zeta σ95 := (isT σ65)
(σ95 →
(σ123 ∧
(σ95 ∧
 σ108)))) ∧
(let +zeta σ96 := (isF σ65)
(σ96 →
(σ0 ∧
((AV.isSl x3 1) ∧
((AV.binOk Go.BinOp.neq (AV.len x2) (AV.len x3)) ∧
(σ123 ∧
(σ96 ∧
(let +zeta σ69 := (AV.bin Go.BinOp.neq (AV.len x2) (AV.len x3))
((AV.isBool σ69) ∧
(((isT σ69) →
 σ108) ∧
((isF σ69) →
((AV.isSl x0 6) ∧
((AV.inb x0 (AV.int 0)) ∧
(σ0 ∧
(fLoop 2113 [(AV.mk 5 []), x0, (AV.int 0), (AV.at x0 (AV.int 0) 0), (AV.int 0)] fun ys2113 again2113 =>
(let +zeta σ25 := (ys2113.getD 4 default)
((AV.binOk Go.BinOp.lss σ25 (AV.len x2)) ∧
(let +zeta σ131 := (AV.bin Go.BinOp.lss σ25 (AV.len x2))
((AV.isBool σ131) ∧
(let +zeta σ27 := (ys2113.getD 1 default)
 let +zeta σ28 := (ys2113.getD 2 default)
(((isT σ131) →
(σ0 ∧
((AV.inb x2 σ25) ∧
(let +zeta σ64 := (AV.atAgg x2 σ25 0 4)
((AV.isAgg σ64 4) ∧
(∃ r2881 : AV, (let +zeta σ26 := (ys2113.getD 3 default)
 let +zeta σ51 := (AV.lit (Value.string ⟨#[65, 49]⟩))
 let +zeta σ58 := (Sh.tup [(Sh.row 160 5 true), Sh.sc])
 let +zeta σ105 := (AV.cel σ64 1)
 let +zeta σ106 := (AV.cel σ64 2)
 let +zeta σ107 := (AV.cel σ64 3)
 let +zeta σ211 := (AV.agg [σ51, σ105, σ106, σ107])
((Fn Tryz.prog 14 [(ys2113.getD 0 default), σ211, σ26] σ58 r2881) ∧
((AV.binOk Go.BinOp.neq (AV.prj r2881 1) (AV.int 0)) ∧
(let +zeta σ70 := (AV.bin Go.BinOp.neq (AV.prj r2881 1) (AV.int 0))
((AV.isBool σ70) ∧
(let +zeta σ124 := (AV.bin Go.BinOp.add σ25 (AV.int 1))
 let +zeta σ132 := (AV.binOk Go.BinOp.add σ25 (AV.int 1))
(((isT σ70) →
(σ132 ∧
(again2113 [(ys2113.getD 0 default), σ27, σ28, σ26, σ124]))) ∧
((isF σ70) →
((AV.isSl x3 1) ∧
((AV.inb x3 σ25) ∧
(∃ r4097 : AV, (let +zeta σ53 := (AV.at x3 σ25 0)
((Fn Tryz.prog 6 [σ53, (AV.int 3)] Sh.sc r4097) ∧
((AV.binOk Go.BinOp.eql r4097 (AV.int 0)) ∧
(let +zeta σ59 := (AV.bin Go.BinOp.eql r4097 (AV.int 0))
 let +zeta σ97 := (AV.isBool σ59)
(σ97 ∧
(let +zeta σ1 := (AV.int 200000)
 let +zeta σ2 := (AV.bool false)
 let +zeta σ3 := (AV.prj r2881 0)
 let +zeta σ29 := (Sh.tup [Sh.sc, Sh.sc])
 let +zeta σ31 := (AV.isInt σ1)
 let +zeta σ36 := (AV.isBool σ2)
 let +zeta σ45 := (1, (EK.int Go.IntKind.i64))
 let +zeta σ46 := (2, (EK.int Go.IntKind.i64))
 let +zeta σ49 := (Sh.tup [Sh.sc, Sh.sc, Sh.sc])
 let +zeta σ50 := (AV.agg [(AV.int 0), (AV.int 0)])
 let +zeta σ55 := (Sh.tup [(Sh.row 54 6 true), Sh.sc])
 let +zeta σ126 := (AV.bin Go.BinOp.add σ28 (AV.int 1))
 let +zeta σ133 := (AV.binOk Go.BinOp.add σ28 (AV.int 1))
 let +zeta σ170 := (AV.bin Go.BinOp.quo σ53 (AV.int 3))
 let +zeta σ171 := (AV.binOk Go.BinOp.quo σ53 (AV.int 3))
 let +zeta σ207 := (AV.agg [(AV.cel x1 0), (AV.cel x1 1), (AV.cel x1 2), (AV.cel x1 3), (AV.cel x1 4), (AV.cel x1 5), (AV.cel x1 6)])
 let +zeta σ212 := (σ132 ∧
(again2113 [σ3, σ27, σ28, σ26, σ124]))
 let +zeta σ234 := (∃ r4609 : AV, ((Fn Tryz.prog 15 [σ211] σ29 r4609) ∧
((AV.binOk Go.BinOp.neq (AV.prj r4609 1) (AV.int 0)) ∧
(let +zeta σ79 := (AV.bin Go.BinOp.neq (AV.prj r4609 1) (AV.int 0))
((AV.isBool σ79) ∧
(((isT σ79) →
 σ212) ∧
((isF σ79) →
(∃ r5185 : AV, ((Fn Tryz.prog 16 [(AV.prj r4609 0)] σ49 r5185) ∧
(let +zeta σ11 := (AV.prj r5185 0)
((AV.isAgg σ11 4) ∧
((AV.binOk Go.BinOp.neq (AV.prj r5185 2) (AV.int 0)) ∧
(let +zeta σ80 := (AV.bin Go.BinOp.neq (AV.prj r5185 2) (AV.int 0))
 let +zeta σ136 := (AV.isBool σ80)
(σ136 ∧
(let +zeta σ113 := (isF σ80)
(σ113 ∧
((AV.unOk Go.UnOp.not (AV.prj r5185 1)) ∧
(σ136 ∧
(σ113 ∧
(let +zeta σ56 := (AV.un Go.UnOp.not (AV.prj r5185 1))
((AV.isBool σ56) ∧
((isF σ56) ∧
(σ171 ∧
(∃ r6273 : AV, ((Fn Tryz.prog 6 [σ170, (AV.int 80)] Sh.sc r6273) ∧
(let +zeta σ110 := (AV.binOk Go.BinOp.add σ26 r6273)
(σ110 ∧
(∃ r6721 : AV, (let +zeta σ37 := (AV.cel σ11 0)
 let +zeta σ38 := (AV.cel σ11 1)
 let +zeta σ39 := (AV.cel σ11 2)
 let +zeta σ40 := (AV.cel σ11 3)
 let +zeta σ101 := (AV.bin Go.BinOp.add σ26 r6273)
 let +zeta σ209 := (AV.agg [σ37, σ38, σ39, σ40])
((Fn Tryz.prog 17 [σ3, σ209, σ101] σ58 r6721) ∧
((AV.eqPlOk [(0, EK.str), σ45, σ46, (3, EK.str)] [σ37, σ38, σ39, σ40] [σ51, σ105, σ106, σ107]) ∧
(let +zeta σ214 := (AV.eqPl [(0, EK.str), σ45, σ46, (3, EK.str)] [σ37, σ38, σ39, σ40] [σ51, σ105, σ106, σ107])
 let +zeta σ223 := (AV.isBool σ214)
(σ223 ∧
(let +zeta σ12 := (AV.prj r6721 1)
 let +zeta σ14 := (AV.prj r6721 0)
 let +zeta σ81 := (AV.bin Go.BinOp.eql σ12 (AV.int 0))
 let +zeta σ82 := (AV.bin Go.BinOp.neq σ12 (AV.int 0))
 let +zeta σ102 := (AV.binOk Go.BinOp.eql σ12 (AV.int 0))
 let +zeta σ137 := (AV.isBool σ81)
 let +zeta σ153 := (AV.isInt σ101)
 let +zeta σ176 := (AV.mn σ101 σ1)
 let +zeta σ190 := (AV.bin Go.BinOp.leq σ101 σ1)
 let +zeta σ193 := (AV.binOk Go.BinOp.leq σ101 σ1)
 let +zeta σ226 := (σ110 ∧
(σ153 ∧
(σ31 ∧
(σ132 ∧
(again2113 [σ14, σ27, σ28, σ176, σ124])))))
 let +zeta σ228 := ((AV.binOk Go.BinOp.neq σ12 (AV.int 0)) ∧
((AV.isBool σ82) ∧
(((isT σ82) →
 σ212) ∧
((isF σ82) →
(σ110 ∧
(∃ r8961 : AV, ((Fn Tryz.prog 18 [σ27, σ209, σ101, σ207, σ50] σ55 r8961) ∧
(σ110 ∧
(∃ r9793 : AV, ((Fn Tryz.prog 18 [σ27, σ211, σ101, σ207, σ50] σ55 r9793) ∧
(let +zeta σ13 := (AV.prj r8961 1)
((AV.binOk Go.BinOp.neq σ13 (AV.prj r9793 1)) ∧
(let +zeta σ114 := (AV.bin Go.BinOp.neq σ13 (AV.prj r9793 1))
 let +zeta σ157 := (AV.isBool σ114)
(σ157 ∧
(let +zeta σ138 := (isF σ114)
(σ138 ∧
(∃ r10561 : AV, ((Fn Tryz.prog 19 [(AV.prj r8961 0), (AV.prj r9793 0)] Sh.sc r10561) ∧
((AV.unOk Go.UnOp.not r10561) ∧
(σ157 ∧
(σ138 ∧
((AV.isBool (AV.un Go.UnOp.not r10561)) ∧
((isF (AV.un Go.UnOp.not r10561)) ∧
((AV.binOk Go.BinOp.eql σ13 (AV.int 0)) ∧
(let +zeta σ83 := (AV.bin Go.BinOp.eql σ13 (AV.int 0))
((AV.isBool σ83) ∧
(((isT σ83) →
(σ133 ∧
(σ110 ∧
(σ153 ∧
(σ31 ∧
(σ132 ∧
(again2113 [σ14, (AV.prj r8961 0), σ126, σ176, σ124]))))))) ∧
((isF σ83) →
 σ226))))))))))))))))))))))))))))
 let +zeta σ231 := ((AV.isBool σ190) ∧
((isF σ190) ∧
 σ228))
((let +zeta σ218 := (isT σ214)
(σ218 →
((AV.binOk Go.BinOp.leq r6273 (AV.int 40)) ∧
(σ223 ∧
(σ218 ∧
(σ102 ∧
(σ137 ∧
(let +zeta σ62 := (AV.bin Go.BinOp.leq r6273 (AV.int 40))
((AV.isBool σ62) ∧
(let +zeta σ196 := (AV.neB σ81 σ62)
 let +zeta σ205 := (AV.isBool σ196)
(σ205 ∧
((let +zeta σ200 := (isT σ196)
(σ200 →
(σ110 ∧
(σ193 ∧
(σ205 ∧
(σ200 ∧
 σ231)))))) ∧
(let +zeta σ201 := (isF σ196)
(σ201 →
(σ205 ∧
(σ201 ∧
 σ228)))))))))))))))) ∧
(let +zeta σ219 := (isF σ214)
(σ219 →
(σ223 ∧
(σ219 ∧
(σ102 ∧
(σ137 ∧
(σ36 ∧
(let +zeta σ173 := (AV.neB σ81 σ2)
 let +zeta σ187 := (AV.isBool σ173)
(σ187 ∧
((let +zeta σ180 := (isT σ173)
(σ180 →
(σ110 ∧
(σ193 ∧
(σ187 ∧
(σ180 ∧
 σ231)))))) ∧
(let +zeta σ181 := (isF σ173)
(σ181 →
(σ187 ∧
(σ181 ∧
 σ228)))))))))))))))))))))))))))))))))))))))))))))))))
((let +zeta σ66 := (isT σ59)
(σ66 →
((AV.binOk Go.BinOp.lss σ105 (AV.int 3)) ∧
(σ97 ∧
(σ66 ∧
(let +zeta σ184 := (AV.bin Go.BinOp.lss σ105 (AV.int 3))
((AV.isBool σ184) ∧
(((isT σ184) →
((AV.binOk Go.BinOp.xor σ106 (AV.int 1)) ∧
(let +zeta σ185 := (AV.bin Go.BinOp.xor σ106 (AV.int 1))
((AV.isOne σ185) ∧
(∃ r4929 : AV, ((Fn Tryz.prog 15 [(AV.agg [σ51, σ105, σ185, σ107])] σ29 r4929) ∧
((AV.binOk Go.BinOp.neq (AV.prj r4929 1) (AV.int 0)) ∧
(let +zeta σ71 := (AV.bin Go.BinOp.neq (AV.prj r4929 1) (AV.int 0))
((AV.isBool σ71) ∧
(((isT σ71) →
 σ212) ∧
((isF σ71) →
(∃ r5505 : AV, ((Fn Tryz.prog 16 [(AV.prj r4929 0)] σ49 r5505) ∧
(let +zeta σ4 := (AV.prj r5505 0)
((AV.isAgg σ4 4) ∧
((AV.binOk Go.BinOp.neq (AV.prj r5505 2) (AV.int 0)) ∧
(let +zeta σ72 := (AV.bin Go.BinOp.neq (AV.prj r5505 2) (AV.int 0))
 let +zeta σ134 := (AV.isBool σ72)
(σ134 ∧
(let +zeta σ112 := (isF σ72)
(σ112 ∧
((AV.unOk Go.UnOp.not (AV.prj r5505 1)) ∧
(σ134 ∧
(σ112 ∧
(let +zeta σ54 := (AV.un Go.UnOp.not (AV.prj r5505 1))
((AV.isBool σ54) ∧
((isF σ54) ∧
(σ171 ∧
(∃ r6593 : AV, ((Fn Tryz.prog 6 [σ170, (AV.int 80)] Sh.sc r6593) ∧
(let +zeta σ109 := (AV.binOk Go.BinOp.add σ26 r6593)
(σ109 ∧
(∃ r7041 : AV, (let +zeta σ32 := (AV.cel σ4 0)
 let +zeta σ33 := (AV.cel σ4 1)
 let +zeta σ34 := (AV.cel σ4 2)
 let +zeta σ35 := (AV.cel σ4 3)
 let +zeta σ99 := (AV.bin Go.BinOp.add σ26 r6593)
 let +zeta σ208 := (AV.agg [σ32, σ33, σ34, σ35])
((Fn Tryz.prog 17 [σ3, σ208, σ99] σ58 r7041) ∧
((AV.eqPlOk [(0, EK.str), σ45, σ46, (3, EK.str)] [σ32, σ33, σ34, σ35] [σ51, σ105, σ106, σ107]) ∧
(let +zeta σ213 := (AV.eqPl [(0, EK.str), σ45, σ46, (3, EK.str)] [σ32, σ33, σ34, σ35] [σ51, σ105, σ106, σ107])
 let +zeta σ222 := (AV.isBool σ213)
(σ222 ∧
(let +zeta σ5 := (AV.prj r7041 1)
 let +zeta σ7 := (AV.prj r7041 0)
 let +zeta σ73 := (AV.bin Go.BinOp.eql σ5 (AV.int 0))
 let +zeta σ74 := (AV.bin Go.BinOp.neq σ5 (AV.int 0))
 let +zeta σ100 := (AV.binOk Go.BinOp.eql σ5 (AV.int 0))
 let +zeta σ135 := (AV.isBool σ73)
 let +zeta σ149 := (AV.isInt σ99)
 let +zeta σ175 := (AV.mn σ99 σ1)
 let +zeta σ189 := (AV.bin Go.BinOp.leq σ99 σ1)
 let +zeta σ192 := (AV.binOk Go.BinOp.leq σ99 σ1)
 let +zeta σ225 := (σ109 ∧
(σ149 ∧
(σ31 ∧
(σ132 ∧
(again2113 [σ7, σ27, σ28, σ175, σ124])))))
 let +zeta σ230 := ((AV.binOk Go.BinOp.neq σ5 (AV.int 0)) ∧
((AV.isBool σ74) ∧
(((isT σ74) →
 σ212) ∧
((isF σ74) →
(σ109 ∧
(∃ r9281 : AV, ((Fn Tryz.prog 18 [σ27, σ208, σ99, σ207, σ50] σ55 r9281) ∧
(σ109 ∧
(∃ r10113 : AV, ((Fn Tryz.prog 18 [σ27, σ211, σ99, σ207, σ50] σ55 r10113) ∧
(let +zeta σ6 := (AV.prj r9281 1)
((AV.binOk Go.BinOp.neq σ6 (AV.prj r10113 1)) ∧
(let +zeta σ125 := (AV.bin Go.BinOp.neq σ6 (AV.prj r10113 1))
 let +zeta σ165 := (AV.isBool σ125)
(σ165 ∧
(let +zeta σ148 := (isF σ125)
(σ148 ∧
(∃ r10881 : AV, ((Fn Tryz.prog 19 [(AV.prj r9281 0), (AV.prj r10113 0)] Sh.sc r10881) ∧
((AV.unOk Go.UnOp.not r10881) ∧
(σ165 ∧
(σ148 ∧
((AV.isBool (AV.un Go.UnOp.not r10881)) ∧
((isF (AV.un Go.UnOp.not r10881)) ∧
((AV.binOk Go.BinOp.eql σ6 (AV.int 0)) ∧
(let +zeta σ75 := (AV.bin Go.BinOp.eql σ6 (AV.int 0))
((AV.isBool σ75) ∧
(((isT σ75) →
(σ133 ∧
(σ109 ∧
(σ149 ∧
(σ31 ∧
(σ132 ∧
(again2113 [σ7, (AV.prj r9281 0), σ126, σ175, σ124]))))))) ∧
((isF σ75) →
 σ225))))))))))))))))))))))))))))
 let +zeta σ233 := ((AV.isBool σ189) ∧
((isF σ189) ∧
 σ230))
((let +zeta σ216 := (isT σ213)
(σ216 →
((AV.binOk Go.BinOp.leq r6593 (AV.int 40)) ∧
(σ222 ∧
(σ216 ∧
(σ100 ∧
(σ135 ∧
(let +zeta σ61 := (AV.bin Go.BinOp.leq r6593 (AV.int 40))
((AV.isBool σ61) ∧
(let +zeta σ195 := (AV.neB σ73 σ61)
 let +zeta σ204 := (AV.isBool σ195)
(σ204 ∧
((let +zeta σ198 := (isT σ195)
(σ198 →
(σ109 ∧
(σ192 ∧
(σ204 ∧
(σ198 ∧
 σ233)))))) ∧
(let +zeta σ199 := (isF σ195)
(σ199 →
(σ204 ∧
(σ199 ∧
 σ230)))))))))))))))) ∧
(let +zeta σ217 := (isF σ213)
(σ217 →
(σ222 ∧
(σ217 ∧
(σ100 ∧
(σ135 ∧
(σ36 ∧
(let +zeta σ172 := (AV.neB σ73 σ2)
 let +zeta σ186 := (AV.isBool σ172)
(σ186 ∧
((let +zeta σ178 := (isT σ172)
(σ178 →
(σ109 ∧
(σ192 ∧
(σ186 ∧
(σ178 ∧
 σ233)))))) ∧
(let +zeta σ179 := (isF σ172)
(σ179 →
(σ186 ∧
(σ179 ∧
 σ230))))))))))))))))))))))))))))))))))))))))))))))))))))) ∧
((isF σ184) →
 σ234))))))))) ∧
(let +zeta σ67 := (isF σ59)
(σ67 →
(σ97 ∧
(σ67 ∧
 σ234)))))))))))))))))))))))))))) ∧
((isF σ131) →
(∃ r2241 : AV, ((Fn Tryz.prog 20 [σ27] Sh.sc r2241) ∧
((AV.binOk Go.BinOp.eql r2241 (AV.int 0)) ∧
(let +zeta σ60 := (AV.bin Go.BinOp.eql r2241 (AV.int 0))
 let +zeta σ98 := (AV.isBool σ60)
(σ98 ∧
(let +zeta σ68 := (isT σ60)
(σ68 ∧
((AV.binOk Go.BinOp.gtr σ28 (AV.int 0)) ∧
(let +zeta σ130 := (AV.bin Go.BinOp.gtr σ28 (AV.int 0))
 let +zeta σ169 := (AV.isBool σ130)
(σ169 ∧
((let +zeta σ155 := (isT σ130)
(σ155 →
(σ169 ∧
(σ155 ∧
(σ98 ∧
(σ68 ∧
 σ108)))))) ∧
(let +zeta σ156 := (isF σ130)
(σ156 →
(∃ r2753 : AV, ((Fn Tryz.prog 19 [x0, σ27] Sh.sc r2753) ∧
(σ169 ∧
(σ156 ∧
(σ98 ∧
(σ68 ∧
((AV.flat r2753) ∧
(fSame r2753 r)))))))))))))))))))))))))))))))))))))))))))))))))))))))))))))))))))) := by kernel_rfl
end RdF
end Go.Proofs.YtcifjnhpgblnkaaGreatDoor
namespace Go.Proofs.YtcifjnhpgblnkaaGreatDoor
open Go.RowKit
set_option linter.unusedVariables false
set_option maxRecDepth 100000
namespace EffT
def Γ : FuncId → Option Ca := fun f =>
 if f = 20 ∨ f = 67 ∨ f = 58 ∨ f = 65 ∨ f = 19 ∨ f = 200 then some (.fn .sc)
 else if f = 68 ∨ f = 193 ∨ f = 194 ∨ f = 201 then some (.fn (.tup [.sc, .sc]))
 else if f = 199 then some (.fn (.tup [.agg [.sc, .sc], .sc]))
 else if f = 70 then some (.fn (.row 54 6 true))
 else if f = 18 then some (.fn (.tup [.row 54 6 true, .sc]))
 else some .inl
def ann : FuncId → Nat → LoopEx := fun f r => if 300000 ≤ r then ⟨[], [], [], []⟩ else
 if f = 132 then ⟨[], [321], [], []⟩
 else if f = 133 then ⟨[], [1345], [(1601, 0), (1601, 1), (1601, 2), (1601, 3), (1601, 4), (1601, 5)], []⟩
 else ⟨[], [], [], []⟩
theorem speed_form (x0 r : AV) : fnF Tryz.prog Γ ann 3 200 Tryz.f200 (Tryz.f200.body.getD .skip) (.nil) [x0] (.sc) r = (((AV.isAgg x0 22) ∧
(let +zeta σ0 := (AV.cel x0 5)
((AV.isSl σ0 6) ∧
(let +zeta σ1 := (AV.inb σ0 (AV.int 0))
(σ1 ∧
(∃ r769 : AV, ((Fn Tryz.prog 201 [(AV.agg [(AV.cel x0 7), (AV.cel x0 8)]), (AV.atAgg σ0 (AV.int 0) 1 2)] (Sh.tup [Sh.sc, Sh.sc]) r769) ∧
((AV.isSl σ0 6) ∧
(σ1 ∧
(let +zeta σ2 := (AV.at σ0 (AV.int 0) 0)
((AV.binOk Go.BinOp.sub σ2 (AV.cel x0 6)) ∧
(let +zeta σ3 := (AV.bin Go.BinOp.sub σ2 (AV.cel x0 6))
((AV.binOk Go.BinOp.quo (AV.prj r769 0) σ3) ∧
(let +zeta σ4 := (AV.bin Go.BinOp.quo (AV.prj r769 0) σ3)
((AV.flat σ4) ∧
(fSame σ4 r))))))))))))))))) := by kernel_rfl
theorem heading_form (x0 r : AV) : fnF Tryz.prog Γ ann 3 132 Tryz.f132 (Tryz.f132.body.getD .skip) (.nil) [x0] (.tup [.row 54 6 true, .sc]) r = (((AV.isAgg x0 22) ∧
(∃ r321 : AV, ((Fn Tryz.prog 70 [(AV.cel x0 5)] (Sh.row 54 6 true) r321) ∧
(fLoop 641 [(AV.int 0), r321] fun ys641 again641 =>
(let +zeta σ1 := (ys641.getD 0 default)
((AV.binOk Go.BinOp.lss σ1 (AV.len r321)) ∧
(let +zeta σ7 := (AV.bin Go.BinOp.lss σ1 (AV.len r321))
((AV.isBool σ7) ∧
(let +zeta σ2 := (ys641.getD 1 default)
(((isT σ7) →
(∃ r1089 : AV, ((Fn Tryz.prog 200 [(AV.agg [(AV.cel x0 0), (AV.cel x0 1), (AV.cel x0 2), (AV.cel x0 3), (AV.cel x0 4), (AV.cel x0 5), (AV.cel x0 6), (AV.cel x0 7), (AV.cel x0 8), (AV.cel x0 9), (AV.cel x0 10), (AV.cel x0 11), (AV.cel x0 12), (AV.cel x0 13), (AV.cel x0 14), (AV.cel x0 15), (AV.cel x0 16), (AV.cel x0 17), (AV.cel x0 18), (AV.cel x0 19), (AV.cel x0 20), (AV.cel x0 21)])] Sh.sc r1089) ∧
(let +zeta σ5 := (AV.inb σ2 σ1)
(σ5 ∧
(σ5 ∧
(let +zeta σ6 := (AV.at σ2 σ1 0)
((AV.binOk Go.BinOp.sub σ6 (AV.cel x0 6)) ∧
(let +zeta σ10 := (AV.bin Go.BinOp.sub σ6 (AV.cel x0 6))
((AV.binOk Go.BinOp.mul r1089 σ10) ∧
(∃ r1921 : AV, ((Fn Tryz.prog 199 [(AV.cel x0 2), (AV.bin Go.BinOp.mul r1089 σ10)] (Sh.tup [(Sh.agg [Sh.sc, Sh.sc]), Sh.sc]) r1921) ∧
(let +zeta σ0 := (AV.prj r1921 1)
((AV.binOk Go.BinOp.neq σ0 (AV.int 0)) ∧
(let +zeta σ4 := (AV.bin Go.BinOp.neq σ0 (AV.int 0))
((AV.isBool σ4) ∧
(((isT σ4) →
((AV.flatS (AV.mk 6 [])) ∧
((AV.flat σ0) ∧
(fSame (AV.tup [(AV.mk 6 []), σ0]) r)))) ∧
((isF σ4) →
((fEnt Tryz.prog 109) ∧
(fAllV fun _ => ((AV.binOk Go.BinOp.add (AV.cel x0 7) (AV.cel (AV.prj r1921 0) 0)) ∧
((AV.binOk Go.BinOp.add (AV.cel x0 8) (AV.cel (AV.prj r1921 0) 1)) ∧
(let +zeta σ8 := (AV.bin Go.BinOp.add (AV.cel x0 7) (AV.cel (AV.prj r1921 0) 0))
((AV.isOne σ8) ∧
(let +zeta σ9 := (AV.bin Go.BinOp.add (AV.cel x0 8) (AV.cel (AV.prj r1921 0) 1))
((AV.isOne σ9) ∧
(σ5 ∧
(σ5 ∧
(let +zeta σ11 := (AV.setEl σ2 σ1 1 [σ8, σ9])
 let +zeta σ12 := (AV.inb σ11 σ1)
(σ12 ∧
(σ12 ∧
(∃ r4673 : AV, ((Fn Tryz.prog 67 [(AV.atAgg σ11 σ1 1 2)] Sh.sc r4673) ∧
((AV.binOk Go.BinOp.neq r4673 (AV.int 0)) ∧
(let +zeta σ3 := (AV.bin Go.BinOp.neq r4673 (AV.int 0))
((AV.isBool σ3) ∧
(((isT σ3) →
((AV.flatS (AV.mk 6 [])) ∧
((AV.flat r4673) ∧
(fSame (AV.tup [(AV.mk 6 []), r4673]) r)))) ∧
((isF σ3) →
((AV.binOk Go.BinOp.add σ1 (AV.int 1)) ∧
(again641 [(AV.bin Go.BinOp.add σ1 (AV.int 1)), σ11])))))))))))))))))))))))))))))))))))))))) ∧
((isF σ7) →
((AV.flatS σ2) ∧
((AV.flat (AV.int 0)) ∧
(fSame (AV.tup [σ2, (AV.int 0)]) r))))))))))))))) := by kernel_rfl
theorem slower_form (x0 r : AV) : fnF Tryz.prog Γ ann 3 133 Tryz.f133 (Tryz.f133.body.getD .skip) (.nil) [x0] (.tup [.row 54 6 true, .sc]) r = (((AV.isAgg x0 22) ∧
(let +zeta σ0 := (AV.cel x0 2)
((AV.binOk Go.BinOp.lss σ0 (AV.cel x0 17)) ∧
(let +zeta σ4 := (AV.bin Go.BinOp.lss σ0 (AV.cel x0 17))
 let +zeta σ10 := (AV.isBool σ4)
(σ10 ∧
(let +zeta σ12 := ((AV.flatS (AV.mk 6 [])) ∧
((AV.flat (AV.int 4)) ∧
(fSame (AV.tup [(AV.mk 6 []), (AV.int 4)]) r)))
((let +zeta σ6 := (isT σ4)
(σ6 →
(σ10 ∧
(σ6 ∧
 σ12)))) ∧
(let +zeta σ7 := (isF σ4)
(σ7 →
((AV.binOk Go.BinOp.gtr σ0 (AV.cel x0 18)) ∧
(σ10 ∧
(σ7 ∧
(let +zeta σ5 := (AV.bin Go.BinOp.gtr σ0 (AV.cel x0 18))
((AV.isBool σ5) ∧
(((isT σ5) →
 σ12) ∧
((isF σ5) →
(∃ r1345 : AV, ((Fn Tryz.prog 70 [(AV.cel x0 5)] (Sh.row 54 6 true) r1345) ∧
(fLoop 1921 [(AV.int 0), r1345, (AV.cel x0 6), (AV.cel x0 7), (AV.cel x0 8), (AV.cel x0 9), (AV.cel x0 10), (AV.cel x0 11)] fun ys1921 again1921 =>
(let +zeta σ1 := (ys1921.getD 0 default)
((AV.binOk Go.BinOp.lss σ1 (AV.len r1345)) ∧
(let +zeta σ9 := (AV.bin Go.BinOp.lss σ1 (AV.len r1345))
((AV.isBool σ9) ∧
(let +zeta σ2 := (ys1921.getD 1 default)
(((isT σ9) →
(let +zeta σ8 := (AV.inb σ2 σ1)
(σ8 ∧
(σ8 ∧
(∃ r2689 : AV, ((Fn Tryz.prog 201 [(AV.agg [(ys1921.getD 3 default), (ys1921.getD 4 default)]), (AV.atAgg σ2 σ1 1 2)] (Sh.tup [Sh.sc, Sh.sc]) r2689) ∧
(∃ r3329 : AV, ((Fn Tryz.prog 194 [(AV.prj r2689 1), σ0] (Sh.tup [Sh.sc, Sh.sc]) r3329) ∧
((AV.isInt (AV.int 1)) ∧
((AV.isInt (AV.prj r3329 0)) ∧
(let +zeta σ3 := (AV.mx (AV.int 1) (AV.prj r3329 0))
((AV.binOk Go.BinOp.add (ys1921.getD 2 default) σ3) ∧
(σ8 ∧
(let +zeta σ11 := (AV.bin Go.BinOp.add (ys1921.getD 2 default) σ3)
((AV.isOne σ11) ∧
(σ8 ∧
(let +zeta σ13 := (AV.setEl σ2 σ1 0 [σ11])
 let +zeta σ14 := (AV.inb σ13 σ1)
(σ14 ∧
(σ14 ∧
(let +zeta σ15 := (AV.at σ13 σ1 0)
((AV.binOk Go.BinOp.gtr σ15 (AV.int 200000)) ∧
(let +zeta σ17 := (AV.bin Go.BinOp.gtr σ15 (AV.int 200000))
((AV.isBool σ17) ∧
(((isT σ17) →
((AV.flatS (AV.mk 6 [])) ∧
((AV.flat (AV.int 12)) ∧
(fSame (AV.tup [(AV.mk 6 []), (AV.int 12)]) r)))) ∧
((isF σ17) →
(σ14 ∧
(σ14 ∧
(let +zeta σ16 := (AV.atAgg σ13 σ1 0 6)
((AV.isAgg σ16 6) ∧
((AV.binOk Go.BinOp.add σ1 (AV.int 1)) ∧
(again1921 [(AV.bin Go.BinOp.add σ1 (AV.int 1)), σ13, (AV.cel σ16 0), (AV.cel σ16 1), (AV.cel σ16 2), (AV.cel σ16 3), (AV.cel σ16 4), (AV.cel σ16 5)]))))))))))))))))))))))))))))))) ∧
((isF σ9) →
((AV.flatS σ2) ∧
((AV.flat (AV.int 0)) ∧
(fSame (AV.tup [σ2, (AV.int 0)]) r)))))))))))))))))))))))))))))) := by kernel_rfl
theorem direct_form (x0 r : AV) : fnF Tryz.prog Γ ann 3 134 Tryz.f134 (Tryz.f134.body.getD .skip) (.nil) [x0] (.tup [.row 54 6 true, .sc]) r = (((AV.isAgg x0 22) ∧
(∃ r257 : AV, ((Fn Tryz.prog 200 [(AV.agg [(AV.cel x0 0), (AV.cel x0 1), (AV.cel x0 2), (AV.cel x0 3), (AV.cel x0 4), (AV.cel x0 5), (AV.cel x0 6), (AV.cel x0 7), (AV.cel x0 8), (AV.cel x0 9), (AV.cel x0 10), (AV.cel x0 11), (AV.cel x0 12), (AV.cel x0 13), (AV.cel x0 14), (AV.cel x0 15), (AV.cel x0 16), (AV.cel x0 17), (AV.cel x0 18), (AV.cel x0 19), (AV.cel x0 20), (AV.cel x0 21)])] Sh.sc r257) ∧
((AV.binOk Go.BinOp.eql r257 (AV.int 0)) ∧
(let +zeta σ1 := (AV.bin Go.BinOp.eql r257 (AV.int 0))
((AV.isBool σ1) ∧
(let +zeta σ0 := (AV.flatS (AV.mk 6 []))
(((isT σ1) →
(σ0 ∧
((AV.flat (AV.int 10)) ∧
(fSame (AV.tup [(AV.mk 6 []), (AV.int 10)]) r)))) ∧
((isF σ1) →
(∃ r897 : AV, ((Fn Tryz.prog 201 [(AV.agg [(AV.cel x0 7), (AV.cel x0 8)]), (AV.agg [(AV.cel x0 19), (AV.cel x0 20)])] (Sh.tup [Sh.sc, Sh.sc]) r897) ∧
((AV.binOk Go.BinOp.eql (AV.prj r897 1) (AV.int 0)) ∧
(let +zeta σ2 := (AV.bin Go.BinOp.eql (AV.prj r897 1) (AV.int 0))
((AV.isBool σ2) ∧
(((isT σ2) →
(σ0 ∧
((AV.flat (AV.int 0)) ∧
(fSame (AV.tup [(AV.mk 6 []), (AV.int 0)]) r)))) ∧
((isF σ2) →
(∃ r1537 : AV, ((Fn Tryz.prog 194 [(AV.prj r897 1), r257] (Sh.tup [Sh.sc, Sh.sc]) r1537) ∧
((AV.binOk Go.BinOp.add (AV.cel x0 6) (AV.prj r1537 0)) ∧
(let +zeta σ3 := (AV.bin Go.BinOp.add (AV.cel x0 6) (AV.prj r1537 0))
((AV.isOne σ3) ∧
((AV.binOk Go.BinOp.gtr σ3 (AV.int 200000)) ∧
(let +zeta σ4 := (AV.bin Go.BinOp.gtr σ3 (AV.int 200000))
((AV.isBool σ4) ∧
(((isT σ4) →
(σ0 ∧
((AV.flat (AV.int 12)) ∧
(fSame (AV.tup [(AV.mk 6 []), (AV.int 12)]) r)))) ∧
((isF σ4) →
(let +zeta σ5 := (AV.mk 6 [[σ3, (AV.cel x0 19), (AV.cel x0 20), (AV.cel x0 9), (AV.cel x0 10), (AV.cel x0 11)]])
((AV.flatS σ5) ∧
((AV.flat (AV.int 0)) ∧
(fSame (AV.tup [σ5, (AV.int 0)]) r))))))))))))))))))))))))))))))) := by kernel_rfl
theorem equal_form (x0 x1 r : AV) : fnF Tryz.prog Γ ann 3 19 Tryz.f19 (Tryz.f19.body.getD .skip) (.nil) [x0, x1] (.sc) r = (((AV.isSl x0 6) ∧
((AV.isSl x1 6) ∧
((AV.binOk Go.BinOp.neq (AV.len x0) (AV.len x1)) ∧
(let +zeta σ4 := (AV.bin Go.BinOp.neq (AV.len x0) (AV.len x1))
((AV.isBool σ4) ∧
(let +zeta σ17 := ((AV.flat (AV.bool false)) ∧
(fSame (AV.bool false) r))
(((isT σ4) →
 σ17) ∧
((isF σ4) →
((AV.isSl x0 6) ∧
(fLoop 577 [(AV.int 0)] fun ys577 again577 =>
(let +zeta σ0 := (ys577.getD 0 default)
((AV.binOk Go.BinOp.lss σ0 (AV.len x0)) ∧
(let +zeta σ18 := (AV.bin Go.BinOp.lss σ0 (AV.len x0))
((AV.isBool σ18) ∧
(((isT σ18) →
((AV.isSl x0 6) ∧
((AV.inb x0 σ0) ∧
((AV.isSl x1 6) ∧
((AV.inb x1 σ0) ∧
(let +zeta σ1 := (EK.int Go.IntKind.i64)
 let +zeta σ2 := (AV.atAgg x0 σ0 0 6)
 let +zeta σ3 := (AV.atAgg x1 σ0 0 6)
 let +zeta σ5 := (AV.cel σ2 0)
 let +zeta σ6 := (AV.cel σ2 1)
 let +zeta σ7 := (AV.cel σ2 2)
 let +zeta σ8 := (AV.cel σ2 3)
 let +zeta σ9 := (AV.cel σ2 4)
 let +zeta σ10 := (AV.cel σ2 5)
 let +zeta σ11 := (AV.cel σ3 0)
 let +zeta σ12 := (AV.cel σ3 1)
 let +zeta σ13 := (AV.cel σ3 2)
 let +zeta σ14 := (AV.cel σ3 3)
 let +zeta σ15 := (AV.cel σ3 4)
 let +zeta σ16 := (AV.cel σ3 5)
((AV.eqPlOk [(0, σ1), (1, σ1), (2, σ1), (3, σ1), (4, σ1), (5, σ1)] [σ5, σ6, σ7, σ8, σ9, σ10] [σ11, σ12, σ13, σ14, σ15, σ16]) ∧
((AV.isAgg σ2 6) ∧
((AV.isAgg σ3 6) ∧
(let +zeta σ19 := (AV.nePl [(0, σ1), (1, σ1), (2, σ1), (3, σ1), (4, σ1), (5, σ1)] [σ5, σ6, σ7, σ8, σ9, σ10] [σ11, σ12, σ13, σ14, σ15, σ16])
((AV.isBool σ19) ∧
(((isT σ19) →
 σ17) ∧
((isF σ19) →
((AV.binOk Go.BinOp.add σ0 (AV.int 1)) ∧
(again577 [(AV.bin Go.BinOp.add σ0 (AV.int 1))]))))))))))))))) ∧
((isF σ18) →
((AV.flat (AV.bool true)) ∧
(fSame (AV.bool true) r))))))))))))))))))) := by kernel_rfl
end EffT
end Go.Proofs.YtcifjnhpgblnkaaGreatDoor
namespace Go.Proofs.YtcifjnhpgblnkaaGreatDoor
open Go.RowKit
set_option linter.unusedVariables false
set_option maxRecDepth 100000
namespace DisF
def Γ : FuncId → Option Ca := fun f =>
 if f = 251 ∨ f = 252 then some (.fn .sc)
 else if f = 201 then some (.fn (.tup [.sc, .sc]))
 else some .inl
def ann : FuncId → Nat → LoopEx := fun f r => ⟨[], [], [], []⟩
theorem root_form (x0 r : AV) : fnF Tryz.prog Γ ann 3 252 Tryz.f252 (Tryz.f252.body.getD .skip) (.nil) [x0] (.sc) r = (((AV.binOk Go.BinOp.leq x0 (AV.int 0)) ∧
(let +zeta σ2 := (AV.bin Go.BinOp.leq x0 (AV.int 0))
((AV.isBool σ2) ∧
(((isT σ2) →
((AV.flat (AV.int 0)) ∧
(fSame (AV.int 0) r))) ∧
((isF σ2) →
(fLoop 321 [(AV.int 0), (AV.int 3037000499)] fun ys321 again321 =>
(let +zeta σ0 := (ys321.getD 0 default)
 let +zeta σ1 := (ys321.getD 1 default)
((AV.binOk Go.BinOp.lss σ0 σ1) ∧
(let +zeta σ3 := (AV.bin Go.BinOp.lss σ0 σ1)
((AV.isBool σ3) ∧
(((isT σ3) →
((AV.binOk Go.BinOp.sub σ1 σ0) ∧
(let +zeta σ4 := (AV.bin Go.BinOp.sub σ1 σ0)
((AV.binOk Go.BinOp.add σ4 (AV.int 1)) ∧
(let +zeta σ5 := (AV.bin Go.BinOp.add σ4 (AV.int 1))
((AV.binOk Go.BinOp.quo σ5 (AV.int 2)) ∧
(let +zeta σ6 := (AV.bin Go.BinOp.quo σ5 (AV.int 2))
((AV.binOk Go.BinOp.add σ0 σ6) ∧
(let +zeta σ7 := (AV.bin Go.BinOp.add σ0 σ6)
((AV.binOk Go.BinOp.mul σ7 σ7) ∧
(let +zeta σ8 := (AV.bin Go.BinOp.mul σ7 σ7)
((AV.binOk Go.BinOp.leq σ8 x0) ∧
(let +zeta σ9 := (AV.bin Go.BinOp.leq σ8 x0)
((AV.isBool σ9) ∧
(((isT σ9) →
(again321 [σ7, σ1])) ∧
((isF σ9) →
((AV.binOk Go.BinOp.sub σ7 (AV.int 1)) ∧
(again321 [σ0, (AV.bin Go.BinOp.sub σ7 (AV.int 1))])))))))))))))))))) ∧
((isF σ3) →
((AV.flat σ0) ∧
(fSame σ0 r))))))))))))))) := by kernel_rfl
theorem dist_form (x0 x1 r : AV) : fnF Tryz.prog Γ ann 3 201 Tryz.f201 (Tryz.f201.body.getD .skip) (.nil) [x0, x1] (.tup [.sc, .sc]) r = (((AV.isAgg x0 2) ∧
((AV.isAgg x1 2) ∧
(∃ r385 : AV, ((Fn Tryz.prog 251 [(AV.agg [(AV.cel x0 0), (AV.cel x0 1)]), (AV.agg [(AV.cel x1 0), (AV.cel x1 1)])] Sh.sc r385) ∧
(∃ r577 : AV, ((Fn Tryz.prog 252 [r385] Sh.sc r577) ∧
((AV.binOk Go.BinOp.mul r577 r577) ∧
(let +zeta σ0 := (AV.bin Go.BinOp.mul r577 r577)
((AV.binOk Go.BinOp.lss σ0 r385) ∧
(let +zeta σ2 := (AV.bin Go.BinOp.lss σ0 r385)
((AV.isBool σ2) ∧
(((isT σ2) →
((AV.binOk Go.BinOp.add r577 (AV.int 1)) ∧
((AV.flat r577) ∧
(let +zeta σ1 := (AV.bin Go.BinOp.add r577 (AV.int 1))
((AV.flat σ1) ∧
(fSame (AV.tup [r577, σ1]) r)))))) ∧
((isF σ2) →
((AV.flat r577) ∧
((AV.flat r577) ∧
(fSame (AV.tup [r577, r577]) r))))))))))))))))) := by kernel_rfl
end DisF
end Go.Proofs.YtcifjnhpgblnkaaGreatDoor
