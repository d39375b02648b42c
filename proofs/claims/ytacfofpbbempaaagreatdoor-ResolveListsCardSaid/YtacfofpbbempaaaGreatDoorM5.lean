/- Texts of one proof, part 5: plain values, a run over them, contracts of functions. -/
import Derived.Test.YtacfofpbbempaaaGreatDoorM4
/- angles: the sine of math. -/
namespace Go.Proofs.YtacfofpbbempaaaGreatDoor
open Go.RowKit
set_option linter.unusedVariables false
set_option linter.unusedSimpArgs false
set_option maxRecDepth 100000
theorem polyN_some {zz c0 c1 c2 c3 c4 c5 r : Nat} (h : Flo.polyN zz c0 c1 c2 c3 c4 c5 = some r) : ∃ a1 a2 a3 a4 a5 a6 a7 a8 a9, floatBits .mul .f64 c0 zz = some a1 ∧ floatBits .add .f64 a1 c1 = some a2 ∧ floatBits .mul .f64 a2 zz = some a3 ∧ floatBits .add .f64 a3 c2 = some a4 ∧ floatBits .mul .f64 a4 zz = some a5 ∧
    floatBits .add .f64 a5 c3 = some a6 ∧ floatBits .mul .f64 a6 zz = some a7 ∧ floatBits .add .f64 a7 c4 = some a8 ∧ floatBits .mul .f64 a8 zz = some a9 ∧ floatBits .add .f64 a9 c5 = some r := by
  unfold Flo.polyN at h
  obtain ⟨a1, h1, h⟩ := Flo.bnd_some h
  obtain ⟨a2, h2, h⟩ := Flo.bnd_some h
  obtain ⟨a3, h3, h⟩ := Flo.bnd_some h
  obtain ⟨a4, h4, h⟩ := Flo.bnd_some h
  obtain ⟨a5, h5, h⟩ := Flo.bnd_some h
  obtain ⟨a6, h6, h⟩ := Flo.bnd_some h
  obtain ⟨a7, h7, h⟩ := Flo.bnd_some h
  obtain ⟨a8, h8, h⟩ := Flo.bnd_some h
  obtain ⟨a9, h9, h⟩ := Flo.bnd_some h
  exact ⟨a1, a2, a3, a4, a5, a6, a7, a8, a9, Flo.mulN_eq h1, Flo.addN_eq h2, Flo.mulN_eq h3, Flo.addN_eq h4, Flo.mulN_eq h5, Flo.addN_eq h6, Flo.mulN_eq h7, Flo.addN_eq h8, Flo.mulN_eq h9, Flo.addN_eq h⟩
theorem redN_some {b y z : Nat} (h : Flo.redN b y = some z) : ∃ t1 t2 t3 t4 t5, floatBits .mul .f64 y 4605249456957292544 = some t1 ∧ floatBits .sub .f64 b t1 = some t2 ∧ floatBits .mul .f64 y 4495793288086814720 = some t3 ∧ floatBits .sub .f64 t2 t3 = some t4 ∧ floatBits .mul .f64 y 4388835458085048688 = some t5 ∧ floatBits .sub .f64 t4 t5 = some z := by
  unfold Flo.redN at h
  obtain ⟨a1, h1, h⟩ := Flo.bnd_some h
  obtain ⟨a2, h2, h⟩ := Flo.bnd_some h
  obtain ⟨a3, h3, h⟩ := Flo.bnd_some h
  obtain ⟨a4, h4, h⟩ := Flo.bnd_some h
  obtain ⟨a5, h5, h⟩ := Flo.bnd_some h
  exact ⟨a1, a2, a3, a4, a5, Flo.mulN_eq h1, Flo.subN_eq h2, Flo.mulN_eq h3, Flo.subN_eq h4, Flo.mulN_eq h5, Flo.subN_eq h⟩
theorem sinN_some {z zz s : Nat} (h : Flo.sinN z zz = some s) : ∃ u p q, floatBits .mul .f64 z zz = some u ∧ Flo.polyN zz 4460209587652500685 13716528389658582877 4523617212962785441 13774824197404483331 4575957461383575504 13818544856648471880 = some p ∧ floatBits .mul .f64 u p = some q ∧ floatBits .add .f64 z q = some s := by
  unfold Flo.sinN at h
  obtain ⟨a1, h1, h⟩ := Flo.bnd_some h
  obtain ⟨a2, h2, h⟩ := Flo.bnd_some h
  obtain ⟨a3, h3, h⟩ := Flo.bnd_some h
  exact ⟨a1, a2, a3, Flo.mulN_eq h1, h2, Flo.mulN_eq h3, Flo.addN_eq h⟩
theorem cosN_some {zz s : Nat} (h : Flo.cosN zz = some s) : ∃ t o u p q, floatBits .mul .f64 4602678819172646912 zz = some t ∧ floatBits .sub .f64 4607182418800017408 t = some o ∧ floatBits .mul .f64 zz zz = some u ∧ Flo.polyN zz 13666448263388469915 4477121864728985349 13732177093698800582 4537941361668146421 13787419979223748497 4586165620538955083 = some p ∧ floatBits .mul .f64 u p = some q ∧ floatBits .add .f64 o q = some s := by
  unfold Flo.cosN at h
  obtain ⟨a1, h1, h⟩ := Flo.bnd_some h
  obtain ⟨a2, h2, h⟩ := Flo.bnd_some h
  obtain ⟨a3, h3, h⟩ := Flo.bnd_some h
  obtain ⟨a4, h4, h⟩ := Flo.bnd_some h
  obtain ⟨a5, h5, h⟩ := Flo.bnd_some h
  exact ⟨a1, a2, a3, a4, a5, Flo.mulN_eq h1, Flo.subN_eq h2, Flo.mulN_eq h3, h4, Flo.mulN_eq h5, Flo.addN_eq h⟩
theorem av_and' {a b : Int} : AV.bin .and (u64 a) (u64 b) = u64 (Flo.intN .and .u64 a b) := rfl
theorem msin_fn {b s : Nat} (h : Flo.msinN b = some s) : Fn Tryz.prog 89 [fl b] .sc (fl s) := by
  refine fn_run mixed 3 (Γ := AngF.Γ) (ann := AngF.ann) Tryz.func89 rfl Tryz.call89 ((AngF.msin_form (fl b) (fl s) _ _ _ _ _ _ _ _ _ _ _ _ _ _ _ _ _ _ _ _ _ _ _ _ _ _ _ _ _ _ _ _ _ _ _ _ _ _ _ _ _ _ _ _ _ _ _ _ _ _ _ _ _ _ _ _ _ _ _ _ _ _ _ _ _ _ _ _ _ _ _ _ _ _ _ _ _ _ _ _ _ _ _ _ _ _ _ _ _ _ _ _ _ _ _ _ _ _ _ _ _ _ _ _ _ _ _ _ _ _ _ _ _ rfl rfl rfl rfl rfl rfl rfl rfl rfl rfl rfl rfl rfl rfl rfl rfl rfl rfl rfl rfl rfl rfl rfl rfl rfl rfl rfl rfl rfl rfl rfl rfl rfl rfl rfl rfl rfl rfl rfl rfl rfl rfl rfl rfl rfl rfl rfl rfl rfl rfl rfl rfl rfl rfl rfl rfl rfl rfl rfl rfl rfl rfl rfl rfl rfl rfl rfl rfl rfl rfl rfl rfl rfl rfl rfl rfl rfl rfl rfl rfl rfl rfl rfl rfl rfl rfl rfl rfl rfl rfl rfl rfl rfl rfl rfl rfl rfl rfl rfl rfl rfl rfl rfl rfl rfl rfl rfl rfl rfl rfl rfl rfl rfl).mpr ?_)
  have c1 := Tryz.call66
  have c2 := Tryz.call67
  have c3 := Tryz.call82
  unfold Flo.msinN at h
  split at h
  · rename_i h0
    subst h0
    simp only [Option.some.injEq] at h
    subst h
    have o1 : (FloatKind.f64.format.order 0 0 == some Ordering.eq) = true := by decide
    refine ⟨⟨rfl, trivial⟩, rfl, fun _ => ⟨rfl, o1, .lit _, rfl⟩, fun hw => ?_⟩
    have hw' : (FloatKind.f64.format.order 0 0 == some Ordering.eq) = false := hw
    rw [o1] at hw'; cases hw'
  split at h
  · cases h
  rename_i h0 hc
  simp only [Flo.chkN, Flo.ordN, Bool.and_eq_true, Bool.not_eq_true'] at hc
  obtain ⟨⟨⟨⟨o1, o2⟩, o3⟩, o4⟩, o5⟩ := hc
  have oT : ∀ x : Bool, (x = true) ≠ (x = false) := fun x => by cases x <;> simp
  replace h := Flo.bnd_some h
  obtain ⟨m, hm, h⟩ := h
  replace h := Flo.bnd_some h
  obtain ⟨j, hj, h⟩ := h
  replace hm := Flo.mulN_eq hm
  replace hj := Flo.f2uN_eq hj
  rw [Flo.frc_eq] at h
  have hpre : ∀ F : Prop, F → ((AV.binOk Go.BinOp.eql (fl b) (AV.lit (Value.float Go.FloatKind.f64 0))) ∧ AV.isBool (AV.bin Go.BinOp.eql (fl b) (AV.lit (Value.float Go.FloatKind.f64 0))) ∧ F) := fun F hF => ⟨⟨rfl, trivial⟩, rfl, hF⟩
  refine hpre _ ⟨fun hw => ?_, fun _ => ⟨c1, fun _ => ⟨⟨rfl, trivial⟩, rfl, o1, rfl, ?_, c2, fun _ => ⟨c3, fun _ => ⟨_, bits_fn b, ⟨rfl, trivial⟩, _, frombits_fn _, ⟨rfl, trivial⟩, rfl, o3, ⟨rfl, trivial⟩, rfl, o4, ⟨rfl, trivial⟩, rfl, o5, by simp [hm], by simp [hm, hj], by simp, ?_⟩⟩⟩⟩⟩
  · have hw' : (FloatKind.f64.format.order b 0 == some Ordering.eq) = true := hw
    rw [o1] at hw'; cases hw'
  · show (FloatKind.f64.format.order b b != some Ordering.eq) = false
    simpa using o2
  have q6 : AV.f2i .f64 .u64 (AV.bin .mul (fl b) (AV.lit (.float .f64 4608412980311869571))) = u64 (j : Nat) := by simp [hm, hj]
  rw [q6]
  have q9 : AV.i2f .f64 (u64 (j : Nat)) = fl (FloatKind.f64.nearest (j : Nat)) := rfl
  rw [q9]
  generalize hy0 : FloatKind.f64.nearest (j : Nat) = y0 at h
  clear q6 q9 hy0 hpre hm hj o1 o2 o3 o4 o5 c1 c2 c3 h0
  generalize (j : Int) = j at *
  refine ⟨⟨rfl, trivial⟩, ⟨rfl, trivial⟩, rfl, fun hw => ?_, fun hw => ?_⟩
  · have hodd : Flo.intN .and .u64 j 1 = 1 := by
      have : (Flo.intN .and .u64 j 1 == 1) = true := hw
      simpa using this
    rw [if_pos hodd] at h
    replace h := Flo.bnd_some h
    obtain ⟨y, hy, h⟩ := h
    replace hy := Flo.addN_eq hy
    have q11 : AV.bin .add (fl y0) (AV.lit (.float .f64 4607182418800017408)) = fl y := by simp [hy]
    have q17 : AV.bin .and (AV.bin .add (u64 j) (u64 1)) (u64 7) = u64 (Flo.intN .and .u64 (IntKind.u64.wrap (j + 1)) 7) := rfl
    refine ⟨⟨rfl, trivial⟩, by simp [hy], ⟨rfl, trivial⟩, ?_⟩
    rw [q11, q17]
    clear hy hw q11 q17
    generalize Flo.intN .and .u64 (IntKind.u64.wrap (j + 1)) 7 = o at *
    clear hodd
    unfold Flo.tailN at h
    replace h := Flo.bnd_some h
    obtain ⟨z, hz, h⟩ := h
    replace h := Flo.bnd_some h
    obtain ⟨zz, hzz, h⟩ := h
    obtain ⟨t1, t2, t3, t4, t5, e1, e2, e3, e4, e5, e6⟩ := redN_some hz
    replace hzz := Flo.mulN_eq hzz
    clear hz
    have r1 : AV.bin .mul (fl y) (AV.lit (.float .f64 4605249456957292544)) = fl t1 := by simp [e1]
    have r2 : AV.bin .sub (fl b) (fl t1) = fl t2 := by simp [e2]
    have r3 : AV.bin .mul (fl y) (AV.lit (.float .f64 4495793288086814720)) = fl t3 := by simp [e3]
    have r4 : AV.bin .sub (fl t2) (fl t3) = fl t4 := by simp [e4]
    have r5 : AV.bin .mul (fl y) (AV.lit (.float .f64 4388835458085048688)) = fl t5 := by simp [e5]
    have r6 : AV.bin .sub (fl t4) (fl t5) = fl z := by simp [e6]
    have r7 : AV.bin .mul (fl z) (fl z) = fl zz := by simp [hzz]
    have w1 : AV.binOk .mul (fl y) (AV.lit (.float .f64 4605249456957292544)) ↔ True := by simp [e1]
    have w2 : AV.binOk .sub (fl b) (fl t1) ↔ True := by simp [e2]
    have w3 : AV.binOk .mul (fl y) (AV.lit (.float .f64 4495793288086814720)) ↔ True := by simp [e3]
    have w4 : AV.binOk .sub (fl t2) (fl t3) ↔ True := by simp [e4]
    have w5 : AV.binOk .mul (fl y) (AV.lit (.float .f64 4388835458085048688)) ↔ True := by simp [e5]
    have w6 : AV.binOk .sub (fl t4) (fl t5) ↔ True := by simp [e6]
    have w7 : AV.binOk .mul (fl z) (fl z) ↔ True := by simp [hzz]
    simp only [r1, r2, r3, r4, r5, r6, r7, w1, w2, w3, w4, w5, w6, w7, true_and]
    clear r1 r2 r3 r4 r5 r6 r7 w1 w2 w3 w4 w5 w6 w7 e1 e2 e3 e4 e5 e6 hzz t1 t2 t3 t4 t5
    split at h
    · rename_i ho
      replace h := Flo.bnd_some h
      obtain ⟨s', h, hs⟩ := h
      simp only [Option.some.injEq] at hs
      subst hs
      refine ⟨⟨rfl, trivial⟩, rfl, fun _ => ?_, fun hw => ?_⟩
      · have q20 : AV.bin .sub (u64 o) (u64 4) = u64 (IntKind.u64.wrap (o - 4)) := rfl
        rw [q20]
        generalize IntKind.u64.wrap (o - 4) = o' at *
        refine ⟨⟨rfl, trivial⟩, ?_⟩
        unfold Flo.octN at h
        split at h
        · rename_i h1
          subst h1
          replace h := cosN_some h
          obtain ⟨t, q, u, p, v, f1, f2, f3, f4, f5, f6⟩ := h
          obtain ⟨a1, a2, a3, a4, a5, a6, a7, a8, a9, g1, g2, g3, g4, g5, g6, g7, g8, g9, g10⟩ := polyN_some f4
          clear f4
          repeat' (first
            | exact trivial
            | (with_reducible refine And.intro ?_ ?_)
            | (intro hw; first | (exfalso; revert hw; simp [*, av_and', AV.refNth, AV.mkRef, AV.rcs, AV.off]; done) | skip)
            | (simp [*, av_and', AV.refNth, AV.mkRef, AV.rcs, AV.off, AV.isRef, AV.refOk, AV.inl]; done))
        · split at h
          · rename_i h1 h2
            subst h2
            replace h := cosN_some h
            obtain ⟨t, q, u, p, v, f1, f2, f3, f4, f5, f6⟩ := h
            obtain ⟨a1, a2, a3, a4, a5, a6, a7, a8, a9, g1, g2, g3, g4, g5, g6, g7, g8, g9, g10⟩ := polyN_some f4
            clear f4
            repeat' (first
              | exact trivial
              | (with_reducible refine And.intro ?_ ?_)
              | (intro hw; first | (exfalso; revert hw; simp [*, av_and', AV.refNth, AV.mkRef, AV.rcs, AV.off]; done) | skip)
              | (simp [*, av_and', AV.refNth, AV.mkRef, AV.rcs, AV.off, AV.isRef, AV.refOk, AV.inl]; done))
          · rename_i h1 h2
            replace h := sinN_some h
            obtain ⟨u, p, v, f1, f2, f3, f4⟩ := h
            obtain ⟨a1, a2, a3, a4, a5, a6, a7, a8, a9, g1, g2, g3, g4, g5, g6, g7, g8, g9, g10⟩ := polyN_some f2
            clear f2
            repeat' (first
              | exact trivial
              | (with_reducible refine And.intro ?_ ?_)
              | (intro hw; first | (exfalso; revert hw; simp [*, av_and', AV.refNth, AV.mkRef, AV.rcs, AV.off]; done) | skip)
              | (simp [*, av_and', AV.refNth, AV.mkRef, AV.rcs, AV.off, AV.isRef, AV.refOk, AV.inl]; done))
      · have hw' : decide (o > 3) = false := hw
        simp only [decide_eq_false_iff_not] at hw'
        exact absurd ho hw'
    · rename_i ho
      refine ⟨⟨rfl, trivial⟩, rfl, fun hw => ?_, fun _ => ?_⟩
      · have hw' : decide (o > 3) = true := hw
        simp only [decide_eq_true_eq] at hw'
        exact absurd hw' ho
      · unfold Flo.octN at h
        split at h
        · rename_i h1
          subst h1
          replace h := cosN_some h
          obtain ⟨t, q, u, p, v, f1, f2, f3, f4, f5, f6⟩ := h
          obtain ⟨a1, a2, a3, a4, a5, a6, a7, a8, a9, g1, g2, g3, g4, g5, g6, g7, g8, g9, g10⟩ := polyN_some f4
          clear f4
          repeat' (first
            | exact trivial
            | (with_reducible refine And.intro ?_ ?_)
            | (intro hw; first | (exfalso; revert hw; simp [*, av_and', AV.refNth, AV.mkRef, AV.rcs, AV.off]; done) | skip)
            | (simp [*, av_and', AV.refNth, AV.mkRef, AV.rcs, AV.off, AV.isRef, AV.refOk, AV.inl]; done))
        · split at h
          · rename_i h1 h2
            subst h2
            replace h := cosN_some h
            obtain ⟨t, q, u, p, v, f1, f2, f3, f4, f5, f6⟩ := h
            obtain ⟨a1, a2, a3, a4, a5, a6, a7, a8, a9, g1, g2, g3, g4, g5, g6, g7, g8, g9, g10⟩ := polyN_some f4
            clear f4
            repeat' (first
              | exact trivial
              | (with_reducible refine And.intro ?_ ?_)
              | (intro hw; first | (exfalso; revert hw; simp [*, av_and', AV.refNth, AV.mkRef, AV.rcs, AV.off]; done) | skip)
              | (simp [*, av_and', AV.refNth, AV.mkRef, AV.rcs, AV.off, AV.isRef, AV.refOk, AV.inl]; done))
          · rename_i h1 h2
            replace h := sinN_some h
            obtain ⟨u, p, v, f1, f2, f3, f4⟩ := h
            obtain ⟨a1, a2, a3, a4, a5, a6, a7, a8, a9, g1, g2, g3, g4, g5, g6, g7, g8, g9, g10⟩ := polyN_some f2
            clear f2
            repeat' (first
              | exact trivial
              | (with_reducible refine And.intro ?_ ?_)
              | (intro hw; first | (exfalso; revert hw; simp [*, av_and', AV.refNth, AV.mkRef, AV.rcs, AV.off]; done) | skip)
              | (simp [*, av_and', AV.refNth, AV.mkRef, AV.rcs, AV.off, AV.isRef, AV.refOk, AV.inl]; done))
  · have hodd : ¬ Flo.intN .and .u64 j 1 = 1 := by
      have : (Flo.intN .and .u64 j 1 == 1) = false := hw
      simpa using this
    rw [if_neg hodd] at h
    have q17 : AV.bin .and (u64 j) (u64 7) = u64 (Flo.intN .and .u64 j 7) := rfl
    refine ⟨⟨rfl, trivial⟩, ?_⟩
    rw [q17]
    clear hw q17
    generalize Flo.intN .and .u64 j 7 = o at *
    clear hodd
    generalize y0 = y at *
    unfold Flo.tailN at h
    replace h := Flo.bnd_some h
    obtain ⟨z, hz, h⟩ := h
    replace h := Flo.bnd_some h
    obtain ⟨zz, hzz, h⟩ := h
    obtain ⟨t1, t2, t3, t4, t5, e1, e2, e3, e4, e5, e6⟩ := redN_some hz
    replace hzz := Flo.mulN_eq hzz
    clear hz
    have r1 : AV.bin .mul (fl y) (AV.lit (.float .f64 4605249456957292544)) = fl t1 := by simp [e1]
    have r2 : AV.bin .sub (fl b) (fl t1) = fl t2 := by simp [e2]
    have r3 : AV.bin .mul (fl y) (AV.lit (.float .f64 4495793288086814720)) = fl t3 := by simp [e3]
    have r4 : AV.bin .sub (fl t2) (fl t3) = fl t4 := by simp [e4]
    have r5 : AV.bin .mul (fl y) (AV.lit (.float .f64 4388835458085048688)) = fl t5 := by simp [e5]
    have r6 : AV.bin .sub (fl t4) (fl t5) = fl z := by simp [e6]
    have r7 : AV.bin .mul (fl z) (fl z) = fl zz := by simp [hzz]
    have w1 : AV.binOk .mul (fl y) (AV.lit (.float .f64 4605249456957292544)) ↔ True := by simp [e1]
    have w2 : AV.binOk .sub (fl b) (fl t1) ↔ True := by simp [e2]
    have w3 : AV.binOk .mul (fl y) (AV.lit (.float .f64 4495793288086814720)) ↔ True := by simp [e3]
    have w4 : AV.binOk .sub (fl t2) (fl t3) ↔ True := by simp [e4]
    have w5 : AV.binOk .mul (fl y) (AV.lit (.float .f64 4388835458085048688)) ↔ True := by simp [e5]
    have w6 : AV.binOk .sub (fl t4) (fl t5) ↔ True := by simp [e6]
    have w7 : AV.binOk .mul (fl z) (fl z) ↔ True := by simp [hzz]
    simp only [r1, r2, r3, r4, r5, r6, r7, w1, w2, w3, w4, w5, w6, w7, true_and]
    clear r1 r2 r3 r4 r5 r6 r7 w1 w2 w3 w4 w5 w6 w7 e1 e2 e3 e4 e5 e6 hzz t1 t2 t3 t4 t5
    split at h
    · rename_i ho
      replace h := Flo.bnd_some h
      obtain ⟨s', h, hs⟩ := h
      simp only [Option.some.injEq] at hs
      subst hs
      refine ⟨⟨rfl, trivial⟩, rfl, fun _ => ?_, fun hw => ?_⟩
      · have q20 : AV.bin .sub (u64 o) (u64 4) = u64 (IntKind.u64.wrap (o - 4)) := rfl
        rw [q20]
        generalize IntKind.u64.wrap (o - 4) = o' at *
        refine ⟨⟨rfl, trivial⟩, ?_⟩
        unfold Flo.octN at h
        split at h
        · rename_i h1
          subst h1
          replace h := cosN_some h
          obtain ⟨t, q, u, p, v, f1, f2, f3, f4, f5, f6⟩ := h
          obtain ⟨a1, a2, a3, a4, a5, a6, a7, a8, a9, g1, g2, g3, g4, g5, g6, g7, g8, g9, g10⟩ := polyN_some f4
          clear f4
          repeat' (first
            | exact trivial
            | (with_reducible refine And.intro ?_ ?_)
            | (intro hw; first | (exfalso; revert hw; simp [*, av_and', AV.refNth, AV.mkRef, AV.rcs, AV.off]; done) | skip)
            | (simp [*, av_and', AV.refNth, AV.mkRef, AV.rcs, AV.off, AV.isRef, AV.refOk, AV.inl]; done))
        · split at h
          · rename_i h1 h2
            subst h2
            replace h := cosN_some h
            obtain ⟨t, q, u, p, v, f1, f2, f3, f4, f5, f6⟩ := h
            obtain ⟨a1, a2, a3, a4, a5, a6, a7, a8, a9, g1, g2, g3, g4, g5, g6, g7, g8, g9, g10⟩ := polyN_some f4
            clear f4
            repeat' (first
              | exact trivial
              | (with_reducible refine And.intro ?_ ?_)
              | (intro hw; first | (exfalso; revert hw; simp [*, av_and', AV.refNth, AV.mkRef, AV.rcs, AV.off]; done) | skip)
              | (simp [*, av_and', AV.refNth, AV.mkRef, AV.rcs, AV.off, AV.isRef, AV.refOk, AV.inl]; done))
          · rename_i h1 h2
            replace h := sinN_some h
            obtain ⟨u, p, v, f1, f2, f3, f4⟩ := h
            obtain ⟨a1, a2, a3, a4, a5, a6, a7, a8, a9, g1, g2, g3, g4, g5, g6, g7, g8, g9, g10⟩ := polyN_some f2
            clear f2
            repeat' (first
              | exact trivial
              | (with_reducible refine And.intro ?_ ?_)
              | (intro hw; first | (exfalso; revert hw; simp [*, av_and', AV.refNth, AV.mkRef, AV.rcs, AV.off]; done) | skip)
              | (simp [*, av_and', AV.refNth, AV.mkRef, AV.rcs, AV.off, AV.isRef, AV.refOk, AV.inl]; done))
      · have hw' : decide (o > 3) = false := hw
        simp only [decide_eq_false_iff_not] at hw'
        exact absurd ho hw'
    · rename_i ho
      refine ⟨⟨rfl, trivial⟩, rfl, fun hw => ?_, fun _ => ?_⟩
      · have hw' : decide (o > 3) = true := hw
        simp only [decide_eq_true_eq] at hw'
        exact absurd hw' ho
      · unfold Flo.octN at h
        split at h
        · rename_i h1
          subst h1
          replace h := cosN_some h
          obtain ⟨t, q, u, p, v, f1, f2, f3, f4, f5, f6⟩ := h
          obtain ⟨a1, a2, a3, a4, a5, a6, a7, a8, a9, g1, g2, g3, g4, g5, g6, g7, g8, g9, g10⟩ := polyN_some f4
          clear f4
          repeat' (first
            | exact trivial
            | (with_reducible refine And.intro ?_ ?_)
            | (intro hw; first | (exfalso; revert hw; simp [*, av_and', AV.refNth, AV.mkRef, AV.rcs, AV.off]; done) | skip)
            | (simp [*, av_and', AV.refNth, AV.mkRef, AV.rcs, AV.off, AV.isRef, AV.refOk, AV.inl]; done))
        · split at h
          · rename_i h1 h2
            subst h2
            replace h := cosN_some h
            obtain ⟨t, q, u, p, v, f1, f2, f3, f4, f5, f6⟩ := h
            obtain ⟨a1, a2, a3, a4, a5, a6, a7, a8, a9, g1, g2, g3, g4, g5, g6, g7, g8, g9, g10⟩ := polyN_some f4
            clear f4
            repeat' (first
              | exact trivial
              | (with_reducible refine And.intro ?_ ?_)
              | (intro hw; first | (exfalso; revert hw; simp [*, av_and', AV.refNth, AV.mkRef, AV.rcs, AV.off]; done) | skip)
              | (simp [*, av_and', AV.refNth, AV.mkRef, AV.rcs, AV.off, AV.isRef, AV.refOk, AV.inl]; done))
          · rename_i h1 h2
            replace h := sinN_some h
            obtain ⟨u, p, v, f1, f2, f3, f4⟩ := h
            obtain ⟨a1, a2, a3, a4, a5, a6, a7, a8, a9, g1, g2, g3, g4, g5, g6, g7, g8, g9, g10⟩ := polyN_some f2
            clear f2
            repeat' (first
              | exact trivial
              | (with_reducible refine And.intro ?_ ?_)
              | (intro hw; first | (exfalso; revert hw; simp [*, av_and', AV.refNth, AV.mkRef, AV.rcs, AV.off]; done) | skip)
              | (simp [*, av_and', AV.refNth, AV.mkRef, AV.rcs, AV.off, AV.isRef, AV.refOk, AV.inl]; done))
/-- The sine, as the program has it. -/
def sinV (h : Int) : Int := (Flo.sinI (h % 4096).toNat).getD 0
theorem sin_ok (h : Int) : Flo.sinI (h % 4096).toNat = some (sinV h) ∧ -16384 ≤ sinV h ∧ sinV h ≤ 16384 := by
  have hk : Flo.okH (h % 4096).toNat = true := by
    have hlt : (h % 4096).toNat < 4096 := by omega
    generalize (h % 4096).toNat = n at hlt
    have key : ∀ k, k < 16 → Flo.allB (fun i => Flo.okH (256 * k + i)) 256 = true := fun k hk => by
      match k, hk with
      | 0, _ => exact Flo.ok0 | 1, _ => exact Flo.ok1 | 2, _ => exact Flo.ok2 | 3, _ => exact Flo.ok3
      | 4, _ => exact Flo.ok4 | 5, _ => exact Flo.ok5 | 6, _ => exact Flo.ok6 | 7, _ => exact Flo.ok7
      | 8, _ => exact Flo.ok8 | 9, _ => exact Flo.ok9 | 10, _ => exact Flo.ok10 | 11, _ => exact Flo.ok11
      | 12, _ => exact Flo.ok12 | 13, _ => exact Flo.ok13 | 14, _ => exact Flo.ok14 | 15, _ => exact Flo.ok15
      | k + 16, hk => exact absurd hk (by omega)
    have := Flo.allB_spec (key (n / 256) (by omega)) (n % 256) (by omega)
    rwa [Nat.div_add_mod] at this
  unfold sinV
  generalize (h % 4096).toNat = n at *
  unfold Flo.okH at hk
  split at hk
  · rename_i m hm
    rw [hm]
    simp only [decide_eq_true_eq] at hk
    exact ⟨rfl, hk⟩
  · cases hk
theorem sin_fn (h : Int) (h1 : -9223372036854775808 ≤ h) (h2 : h ≤ 9223372036854775807) : Fn Tryz.prog 53 [.int h] .sc (.int (sinV h)) := by
  refine fn_run mixed 3 (Γ := AngF.Γ) (ann := AngF.ann) Tryz.func53 rfl Tryz.call53 ((AngF.sin_form _ _).mpr ?_)
  obtain ⟨hs, _⟩ := sin_ok h
  refine ⟨_, norm_fn h h1 h2, ?_⟩
  have hn : ((h % 4096).toNat : Int) = h % 4096 := by omega
  rw [← hn]
  generalize (h % 4096).toNat = n at *
  unfold Flo.sinI at hs
  replace hs := Flo.bnd_some hs
  obtain ⟨x, hx, hs⟩ := hs
  replace hs := Flo.bnd_some hs
  obtain ⟨s, hm, hs⟩ := hs
  replace hs := Flo.bnd_some hs
  obtain ⟨t, ht, hs⟩ := hs
  rw [Flo.frc_eq] at hs
  unfold Flo.argN at hx
  replace hx := Flo.bnd_some hx
  obtain ⟨a, ha, hx⟩ := hx
  replace ha := Flo.mulN_eq ha
  replace ht := Flo.mulN_eq ht
  have q1 : AV.bin .mul (AV.i2f .f64 (.int n)) (AV.lit (.float .f64 4614256656552045848)) = fl a := by simp [ha]
  have q2 : AV.bin .quo (fl a) (AV.lit (.float .f64 4656722014701092864)) = fl x := by simp [hx]
  have q3 : AV.bin .mul (AV.lit (.float .f64 4670232813583204352)) (fl s) = fl t := by simp [ht]
  rw [q1, q2]
  refine ⟨⟨_, _, rfl⟩, by simp [ha], by simp [hx], Tryz.call74, fun _ => ⟨_, msin_fn hm, by simp [ht], ?_⟩⟩
  rw [q3]
  exact ⟨_, round_fn t, by simp [hs], by simp, by simp [hs]⟩
theorem cos_fn (h : Int) (h1 : -9223372036854775808 ≤ h) (h2 : h ≤ 9223372036854775807) : Fn Tryz.prog 54 [.int h] .sc (.int (sinV (h % 4096 + 1024))) := by
  refine fn_run mixed 3 (Γ := AngF.Γ) (ann := AngF.ann) Tryz.func54 rfl Tryz.call54 ((AngF.cos_form _ _).mpr ?_)
  refine ⟨_, norm_fn h h1 h2, ⟨rfl, trivial⟩, ?_⟩
  have q : AV.bin .add (.int (h % 4096)) (AV.int 1024) = .int (h % 4096 + 1024) := by
    rw [av_add, wrap64 (by omega) (by omega)]
  rw [q]
  exact ⟨_, sin_fn _ (by omega) (by omega), by simp, by simp⟩
def nearV (n : Int) : Int := if n < 0 then -((-n + 8192).tdiv 16384) else (n + 8192).tdiv 16384
def vecV (h l : Int) : Int × Int := (nearV (l * sinV h), nearV (l * sinV (h % 4096 + 1024)))
def vecE (l : Int) : Int := if l < 0 ∨ l > 2000000 then 4 else 0
end Go.Proofs.YtacfofpbbempaaaGreatDoor
/- Floats: coarse bounds by powers of two; the arctangent's worth lies in range. -/
namespace Go.Proofs.YtacfofpbbempaaaGreatDoor.Flo
open Go
set_option linter.unusedVariables false
/-- |x| ≤ 2^(q-1023). -/
def le2 (x q : Nat) : Prop := x % 9223372036854775808 ≤ q * 4503599627370496
/-- 2^(q-1023) ≤ |x|. -/
def ge2 (x q : Nat) : Prop := q * 4503599627370496 ≤ x % 9223372036854775808
theorem le2_mono {x p q : Nat} (h : le2 x p) (hpq : p ≤ q) : le2 x q := Nat.le_trans h (Nat.mul_le_mul_right _ hpq)
theorem le2_fin {x q : Nat} (h : le2 x q) (hq : q ≤ 2046) : finN x = true := by
  unfold le2 at h; unfold finN; simp; omega
theorem p52 : (4503599627370496 : Nat) = 2 ^ 52 := by decide
theorem mag_lt (x : Nat) : magN x < 2 ^ 53 := by
  unfold magN; rw [frc_eq]
  have : (2 : Nat) ^ 53 = 9007199254740992 := by decide
  rw [this]; split <;> omega
theorem le2_read {x q : Nat} (h : le2 x q) (h1 : 1 ≤ q) : magN x * 2 ^ expN x ≤ 2 ^ (q + 51) := by
  unfold le2 at h
  have hm := mag_lt x
  unfold magN at *
  unfold expN
  rw [frc_eq] at *
  generalize x % 9223372036854775808 = r at *
  by_cases h2 : r < 4503599627370496
  · rw [if_pos h2]
    have : r / 4503599627370496 = 0 := Nat.div_eq_of_lt h2
    rw [this, Nat.zero_sub, Nat.pow_zero, Nat.mul_one]
    have a : (2 : Nat) ^ 52 ≤ 2 ^ (q + 51) := Nat.pow_le_pow_right (by decide) (by omega)
    rw [← p52] at a; omega
  · rw [if_neg h2] at *
    by_cases h3 : r = q * 4503599627370496
    · have e1 : r % 4503599627370496 = 0 := by omega
      have e2 : r / 4503599627370496 = q := by omega
      rw [e1, e2, p52, Nat.add_zero, ← Nat.pow_add]
      exact Nat.pow_le_pow_right (by decide) (by omega)
    · have e2 : r / 4503599627370496 ≤ q - 1 := by omega
      have e3 : 1 ≤ r / 4503599627370496 := by omega
      refine Nat.le_trans (Nat.mul_le_mul_right _ (Nat.le_of_lt hm)) ?_
      rw [← Nat.pow_add]
      exact Nat.pow_le_pow_right (by decide) (by omega)
theorem ge2_read {x q : Nat} (h : ge2 x q) (h1 : 1 ≤ q) : 2 ^ (q + 51) ≤ magN x * 2 ^ expN x := by
  unfold ge2 at h
  unfold magN expN
  rw [frc_eq]
  generalize x % 9223372036854775808 = r at *
  rw [if_neg (by omega)]
  refine Nat.le_trans ?_ (Nat.mul_le_mul_right _ (show 4503599627370496 ≤ 4503599627370496 + r % 4503599627370496 by omega))
  rw [p52, ← Nat.pow_add]
  exact Nat.pow_le_pow_right (by decide) (by omega)
theorem word_mod (neg : Bool) (r : Nat) : wordN neg r % 9223372036854775808 = min r 9218868437227405312 := by
  unfold wordN; rw [frc_eq]
  cases neg <;> dsimp only <;> omega
theorem word_neg (neg : Bool) (r : Nat) : negN (wordN neg r) = neg := by
  unfold wordN negN; rw [frc_eq]
  have h : min r 9218868437227405312 < 9223372036854775808 := by omega
  generalize min r 9218868437227405312 = k at *
  cases neg <;> dsimp only
  · rw [Nat.div_eq_of_lt h]; rfl
  · have : (9223372036854775808 + k) / 9223372036854775808 = 1 := by omega
    rw [this]; rfl
theorem near_neg (neg : Bool) (mag P : Nat) : negN (nearN neg mag P) = neg := by
  unfold nearN
  simp only [frc_eq]
  split
  · exact word_neg ..
  · split <;> exact word_neg ..
theorem word_lt (neg : Bool) (r : Nat) : wordN neg r < 18446744073709551616 := by
  unfold wordN; rw [frc_eq]
  cases neg <;> dsimp only <;> omega
theorem near_lt (neg : Bool) (mag P : Nat) : nearN neg mag P < 18446744073709551616 := by
  unfold nearN
  simp only [frc_eq]
  split
  · exact word_lt ..
  · split <;> exact word_lt ..
theorem cutD_le (n d : Nat) : cutD n d ≤ n / 2 ^ d + 1 := by
  unfold cutD; simp only [frc_eq]; split <;> omega
theorem le_cutD (n d : Nat) : n / 2 ^ d ≤ cutD n d := by
  unfold cutD; simp only [frc_eq]; split <;> omega
theorem cutD_exact (n d : Nat) (h : n % 2 ^ d = 0) : cutD n d = n / 2 ^ d := by
  unfold cutD; simp only [frc_eq]; rw [h]
  have := Nat.two_pow_pos d
  rw [if_neg (by omega)]
theorem cutN_le (n d k : Nat) (h : n < 2 ^ (k + d)) : cutN n d ≤ 2 ^ k := by
  unfold cutN; simp only [frc_eq]
  have hk := Nat.two_pow_pos k
  by_cases hm : d ≤ n.log2 + 2
  · rw [Nat.min_eq_left hm]
    have h1 : n / 2 ^ d < 2 ^ k := (Nat.div_lt_iff_lt_mul (Nat.two_pow_pos d)).2 (by rw [← Nat.pow_add]; exact h)
    split <;> omega
  · rw [Nat.min_eq_right (by omega)]
    have h1 : n / 2 ^ (n.log2 + 2) = 0 := Nat.div_eq_of_lt (Nat.lt_of_lt_of_le Nat.lt_log2_self (Nat.pow_le_pow_right (by decide) (by omega)))
    rw [h1]
    split <;> omega
theorem near_le (neg : Bool) (mag P q : Nat) (h1 : 1 ≤ q) (h : mag * 2 ^ P ≤ 2 ^ (q + 1125)) : le2 (nearN neg mag P) q := by
  unfold le2 nearN
  simp only [frc_eq]
  by_cases h0 : mag = 0
  · rw [if_pos h0, word_mod]; omega
  rw [if_neg h0, lgN_eq mag h0]
  have ha := Nat.log2_self_le h0
  have hb : mag < 2 ^ (mag.log2 + 1) := Nat.lt_log2_self
  generalize mag.log2 = l at *
  have hPl : P + l ≤ q + 1125 := by
    have : 2 ^ (P + l) ≤ 2 ^ (q + 1125) := Nat.le_trans (by rw [Nat.pow_add, Nat.mul_comm]; exact Nat.mul_le_mul_right _ ha) h
    exact (Nat.pow_le_pow_iff_right (by decide)).1 this
  by_cases hc : 1126 ≤ P + l
  · rw [if_pos hc, word_mod]
    refine Nat.le_trans (Nat.min_le_left _ _) ?_
    by_cases he : P + l = q + 1125
    · have hm : mag = 2 ^ l := by
        have h3 : mag * 2 ^ P ≤ 2 ^ l * 2 ^ P := by rw [← Nat.pow_add, Nat.add_comm l, he]; exact h
        have := Nat.le_of_mul_le_mul_right h3 (Nat.two_pow_pos P)
        omega
      have hx : cutD (mag * 2 ^ (52 - l)) (l - 52) = 4503599627370496 := by
        subst hm
        rw [← Nat.pow_add]
        by_cases hl : l ≤ 52
        · rw [show l - 52 = 0 by omega, show l + (52 - l) = 52 by omega]; decide
        · rw [show l + (52 - l) = 52 + (l - 52) by omega, cutD_exact _ _ (by rw [Nat.pow_add]; exact Nat.mul_mod_left _ _), Nat.pow_add, Nat.mul_div_cancel _ (Nat.two_pow_pos _)]
      rw [hx]; omega
    · have hx : cutD (mag * 2 ^ (52 - l)) (l - 52) ≤ 9007199254740992 := by
        have h2 : mag * 2 ^ (52 - l) / 2 ^ (l - 52) < 2 ^ 53 := by
          refine (Nat.div_lt_iff_lt_mul (Nat.two_pow_pos _)).2 ?_
          rw [← Nat.pow_add]
          refine Nat.lt_of_lt_of_le (Nat.mul_lt_mul_of_pos_right hb (Nat.two_pow_pos _)) ?_
          rw [← Nat.pow_add]
          exact Nat.pow_le_pow_right (by decide) (by omega)
        have e : (2 : Nat) ^ 53 = 9007199254740992 := by decide
        have := cutD_le (mag * 2 ^ (52 - l)) (l - 52)
        omega
      omega
  · rw [if_neg hc, word_mod]
    refine Nat.le_trans (Nat.min_le_left _ _) ?_
    have hx : cutN (mag * 2 ^ (P - 1074)) (1074 - P) ≤ 2 ^ 52 := by
      refine cutN_le _ _ _ ?_
      refine Nat.lt_of_lt_of_le (Nat.mul_lt_mul_of_pos_right hb (Nat.two_pow_pos _)) ?_
      rw [← Nat.pow_add]
      exact Nat.pow_le_pow_right (by decide) (by omega)
    rw [← p52] at hx
    omega
theorem near_ge (neg : Bool) (mag P q : Nat) (h1 : 1 ≤ q) (h2 : q ≤ 2046) (h : 2 ^ (q + 1125) ≤ mag * 2 ^ P) : ge2 (nearN neg mag P) q := by
  unfold ge2 nearN
  simp only [frc_eq]
  have h0 : mag ≠ 0 := by rintro rfl; have := Nat.two_pow_pos (q + 1125); omega
  rw [if_neg h0, lgN_eq mag h0]
  have ha := Nat.log2_self_le h0
  have hb : mag < 2 ^ (mag.log2 + 1) := Nat.lt_log2_self
  generalize mag.log2 = l at *
  have hPl : q + 1125 ≤ P + l := by
    have : 2 ^ (q + 1125) < 2 ^ (P + l + 1) := Nat.lt_of_le_of_lt h (by rw [show P + l + 1 = (l + 1) + P by omega, Nat.pow_add]; exact Nat.mul_lt_mul_of_pos_right hb (Nat.two_pow_pos _))
    have := (Nat.pow_lt_pow_iff_right (by decide)).1 this
    omega
  rw [if_pos (by omega), word_mod]
  have hx : 4503599627370496 ≤ cutD (mag * 2 ^ (52 - l)) (l - 52) := by
    refine Nat.le_trans ?_ (le_cutD _ _)
    refine (Nat.le_div_iff_mul_le (Nat.two_pow_pos _)).2 ?_
    rw [p52, ← Nat.pow_add]
    refine Nat.le_trans ?_ (Nat.mul_le_mul_right _ ha)
    rw [← Nat.pow_add]
    exact Nat.pow_le_pow_right (by decide) (by omega)
  omega
/-! ### the operations -/
def okQ (x q : Nat) : Prop := le2 x q ∧ x < 18446744073709551616
theorem mul_bnd {a b p q : Nat} (ha : le2 a p) (hb : le2 b q) (hp : 1 ≤ p ∧ p ≤ 2046) (hq : 1 ≤ q ∧ q ≤ 2046) (hr : 1024 ≤ p + q) :
    ∃ r, mulN a b = some r ∧ le2 r (p + q - 1023) ∧ negN r = (negN a ^^ negN b) ∧ r < 18446744073709551616 := by
  unfold mulN
  rw [le2_fin ha hp.2, le2_fin hb hq.2]
  refine ⟨_, rfl, ?_, ?_, ?_⟩
  · simp only [frc_eq]
    refine near_le _ _ _ _ (by omega) ?_
    have h1 := le2_read ha hp.1
    have h2 := le2_read hb hq.1
    have h3 := Nat.mul_le_mul h1 h2
    rw [← Nat.pow_add] at h3
    refine Nat.le_trans (Nat.le_of_eq ?_) (Nat.le_trans h3 (Nat.pow_le_pow_right (by decide) (by omega)))
    rw [Nat.pow_add]; ac_rfl
  · simp only [frc_eq]; exact near_neg ..
  · simp only [frc_eq]; exact near_lt ..
theorem shc (m i b q c : Nat) (hb : b ≤ i) (h : m * 2 ^ i ≤ 2 ^ q) : m * 2 ^ (i - b) * 2 ^ (b + c) ≤ 2 ^ (q + c) := by
  rw [Nat.mul_assoc, ← Nat.pow_add, show i - b + (b + c) = i + c by omega, Nat.pow_add 2 i, ← Nat.mul_assoc, Nat.pow_add 2 q]
  exact Nat.mul_le_mul_right _ h
theorem shd (m i b q c : Nat) (hb : b ≤ i) (h : 2 ^ q ≤ m * 2 ^ i) : 2 ^ (q + c) ≤ m * 2 ^ (i - b) * 2 ^ (b + c) := by
  rw [Nat.mul_assoc, ← Nat.pow_add, show i - b + (b + c) = i + c by omega, Nat.pow_add 2 i, ← Nat.mul_assoc, Nat.pow_add 2 q]
  exact Nat.mul_le_mul_right _ h
theorem addD_bnd (s : Bool) (m i : Nat) (t : Bool) (n j q : Nat) (hq : 1 ≤ q) (hm : m * 2 ^ i ≤ 2 ^ (q + 51)) (hn : n * 2 ^ j ≤ 2 ^ (q + 51)) : le2 (addD s m i t n j) (q + 1) ∧ addD s m i t n j < 18446744073709551616 := by
  unfold addD
  simp only [frc_eq]
  have eA := shc m i (min i j) (q + 51) 1074 (by omega) hm
  have eB := shc n j (min i j) (q + 51) 1074 (by omega) hn
  rw [show q + 51 + 1074 = q + 1125 by omega] at eA eB
  generalize m * 2 ^ (i - min i j) = A at *
  generalize n * 2 ^ (j - min i j) = B at *
  generalize min i j + 1074 = P at *
  have e2 : (2 : Nat) ^ (q + 1 + 1125) = 2 ^ (q + 1125) + 2 ^ (q + 1125) := by rw [show q + 1 + 1125 = q + 1125 + 1 by omega, Nat.pow_succ]; omega
  generalize hZ : (2 : Nat) ^ (q + 1125) = Z at *
  have hpp := Nat.two_pow_pos P
  by_cases hst : s = t
  · rw [if_pos hst]; exact ⟨near_le _ _ _ _ (by omega) (by rw [Nat.add_mul, e2]; omega), near_lt ..⟩
  rw [if_neg hst]
  by_cases hAB : A = B
  · rw [if_pos hAB]; exact ⟨near_le _ _ _ _ (by omega) (by rw [Nat.zero_mul]; omega), near_lt ..⟩
  rw [if_neg hAB]
  by_cases hBA : B < A
  · rw [if_pos hBA]; exact ⟨near_le _ _ _ _ (by omega) (by rw [Nat.sub_mul, e2]; omega), near_lt ..⟩
  · rw [if_neg hBA]; exact ⟨near_le _ _ _ _ (by omega) (by rw [Nat.sub_mul, e2]; omega), near_lt ..⟩
theorem add_bnd {a b q : Nat} (ha : le2 a q) (hb : le2 b q) (hq : 1 ≤ q ∧ q ≤ 2046) : ∃ r, addN a b = some r ∧ le2 r (q + 1) ∧ r < 18446744073709551616 := by
  unfold addN
  rw [le2_fin ha hq.2, le2_fin hb hq.2]
  exact ⟨_, rfl, by simp only [frc_eq]; exact addD_bnd _ _ _ _ _ _ _ hq.1 (le2_read ha hq.1) (le2_read hb hq.1)⟩
theorem sub_bnd {a b q : Nat} (ha : le2 a q) (hb : le2 b q) (hq : 1 ≤ q ∧ q ≤ 2046) : ∃ r, subN a b = some r ∧ le2 r (q + 1) ∧ r < 18446744073709551616 := by
  unfold subN
  rw [le2_fin ha hq.2, le2_fin hb hq.2]
  exact ⟨_, rfl, by simp only [frc_eq]; exact addD_bnd _ _ _ _ _ _ _ hq.1 (le2_read ha hq.1) (le2_read hb hq.1)⟩
theorem pos_bnd {a b r q : Nat} (h : addN a b = some r) (ha : negN a = false) (hb : negN b = false) (hg : ge2 b q) (hq : 1 ≤ q ∧ q ≤ 2046) : ge2 r q ∧ negN r = false := by
  unfold addN at h
  split at h
  · simp only [frc_eq, Option.some.injEq] at h
    unfold addD at h
    simp only [frc_eq] at h
    rw [ha, hb, if_pos rfl] at h
    subst h
    refine ⟨near_ge _ _ _ _ hq.1 hq.2 ?_, near_neg ..⟩
    have h1 := ge2_read hg hq.1
    generalize magN a = m
    generalize magN b = n at *
    generalize expN a = i
    generalize expN b = j at *
    rw [Nat.add_mul]
    refine Nat.le_trans ?_ (Nat.le_add_left _ _)
    have := shd n j (min i j) (q + 51) 1074 (by omega) h1
    rwa [show q + 51 + 1074 = q + 1125 by omega] at this
  · cases h
theorem pos_neg {a b r : Nat} (h : addN a b = some r) (ha : negN a = false) (hb : negN b = false) : negN r = false := by
  unfold addN at h
  split at h
  · simp only [frc_eq, Option.some.injEq] at h
    unfold addD at h
    simp only [frc_eq] at h
    rw [ha, hb, if_pos rfl] at h
    subst h
    exact near_neg ..
  · cases h
def divN (a b : Nat) : Option Nat := match finN a, finN b with
  | true, true =>
    if magN b = 0 then none else
    if expN b + (54 + (magN b).log2 - (magN a).log2) ≤ expN a + 2147 then
      some (nearN (negN a ^^ negN b) (2 * (magN a * 2 ^ (54 + (magN b).log2 - (magN a).log2) / magN b) + (magN a * 2 ^ (54 + (magN b).log2 - (magN a).log2) % magN b != 0).toNat) (expN a + 2147 - (expN b + (54 + (magN b).log2 - (magN a).log2))))
    else none
  | _, _ => none
theorem divN_eq {a b r : Nat} (h : divN a b = some r) : floatBits .quo .f64 a b = some r := by
  unfold divN at h
  split at h
  · rename_i h1 h2
    split at h
    · cases h
    rename_i h0
    split at h
    · rename_i hP
      simp only [Option.some.injEq] at h
      subst h
      show Option.map Ieee.double.write ((Ieee.double.read a).quotient (Ieee.double.fractionBits + 2) (Ieee.double.read b)) = _
      rw [read_fin h1, read_fin h2]
      show Option.map Ieee.double.write (if magN b = 0 then _ else _) = _
      rw [if_neg h0]
      show some (Ieee.double.nearest _ _ _) = _
      rw [← near_eq]
      simp only [Nat.shiftLeft_eq]
      have e5 : Ieee.double.fractionBits + 2 = 54 := rfl
      rw [e5]
      congr 2
      omega
    · cases h
  · cases h
theorem div_bnd {a b p q : Nat} (ha : le2 a p) (hb : ge2 b q) (hbu : le2 b 1900) (hp : 1 ≤ p ∧ p ≤ 2046) (hq : 1 ≤ q) (hr : q ≤ p + 1022) :
    ∃ r, divN a b = some r ∧ le2 r (p + 1023 - q) ∧ r < 18446744073709551616 := by
  have hfb := le2_fin hbu (by omega)
  have h2 := ge2_read hb hq
  have hb0 : magN b ≠ 0 := by intro h; rw [h, Nat.zero_mul] at h2; have := Nat.two_pow_pos (q + 51); omega
  have heb : expN b ≤ 1899 := by unfold le2 at hbu; unfold expN; omega
  have hlb : (magN b).log2 < 53 := (Nat.log2_lt hb0).2 (mag_lt b)
  unfold divN
  rw [le2_fin ha hp.2, hfb, if_neg hb0]
  dsimp only
  have hP : expN b + (54 + (magN b).log2 - (magN a).log2) ≤ expN a + 2147 := by omega
  rw [if_pos hP]
  refine ⟨_, rfl, near_le _ _ _ _ (by omega) ?_, near_lt ..⟩
  have h1 := le2_read ha hp.1
  by_cases ha0 : magN a = 0
  · rw [ha0, Nat.zero_mul, Nat.zero_div, Nat.zero_mod]
    simp
  have hla : (magN a).log2 < 53 := (Nat.log2_lt ha0).2 (mag_lt a)
  have hbl : magN b < 2 ^ ((magN b).log2 + 1) := Nat.lt_log2_self
  have hal := Nat.log2_self_le ha0
  generalize hw : 54 + (magN b).log2 - (magN a).log2 = w at *
  generalize magN a = m at *
  generalize magN b = n at *
  generalize expN a = i at *
  generalize expN b = j at *
  -- D = m * 2^w is at least 2 n
  have hD2 : 2 * n ≤ m * 2 ^ w := by
    have : 2 ^ (m.log2) * 2 ^ w ≤ m * 2 ^ w := Nat.mul_le_mul_right _ hal
    rw [← Nat.pow_add, show m.log2 + w = (n.log2 + 1) + 53 by omega, Nat.pow_add] at this
    have e : (2 : Nat) ^ 53 = 9007199254740992 := by decide
    rw [e] at this
    omega
  have hup : m * 2 ^ w * 2 ^ (i + q) ≤ n * 2 ^ (p + w + j) := by
    have h3 := Nat.mul_le_mul h1 h2
    have e1 : m * 2 ^ i * 2 ^ (q + 51) = m * 2 ^ (i + q) * 2 ^ 51 := by simp only [Nat.pow_add]; ac_rfl
    have e2 : 2 ^ (p + 51) * (n * 2 ^ j) = n * 2 ^ (p + j) * 2 ^ 51 := by simp only [Nat.pow_add]; ac_rfl
    rw [e1, e2] at h3
    have h4 := Nat.le_of_mul_le_mul_right h3 (Nat.two_pow_pos 51)
    have h5 := Nat.mul_le_mul_right (2 ^ w) h4
    have e3 : m * 2 ^ (i + q) * 2 ^ w = m * 2 ^ w * 2 ^ (i + q) := by ac_rfl
    have e4 : n * 2 ^ (p + j) * 2 ^ w = n * 2 ^ (p + w + j) := by simp only [Nat.pow_add]; ac_rfl
    rwa [e3, e4] at h5
  have hx : i + q + 1 ≤ p + w + j := by
    have h6 : 2 * n * 2 ^ (i + q) ≤ n * 2 ^ (p + w + j) := Nat.le_trans (Nat.mul_le_mul_right _ hD2) hup
    have h7 : n * 2 ^ (i + q + 1) ≤ n * 2 ^ (p + w + j) := by rw [Nat.pow_succ]; rw [show n * (2 ^ (i + q) * 2) = 2 * n * 2 ^ (i + q) by ac_rfl]; exact h6
    exact (Nat.pow_le_pow_iff_right (by decide)).1 (Nat.le_of_mul_le_mul_left h7 (by omega))
  obtain ⟨x, hx⟩ : ∃ x, p + w + j = i + q + (x + 1) := ⟨p + w + j - (i + q) - 1, by omega⟩
  have hD : m * 2 ^ w ≤ n * 2 ^ (x + 1) := by
    have e : n * 2 ^ (i + q + (x + 1)) = n * 2 ^ (x + 1) * 2 ^ (i + q) := by rw [Nat.pow_add 2 (i + q)]; ac_rfl
    rw [hx, e] at hup
    exact Nat.le_of_mul_le_mul_right hup (Nat.two_pow_pos _)
  have hmag : 2 * (m * 2 ^ w / n) + (m * 2 ^ w % n != 0).toNat ≤ 2 ^ (x + 2) := by
    have e : (2 : Nat) ^ (x + 2) = 2 * 2 ^ (x + 1) := by rw [Nat.pow_succ 2 (x + 1)]; omega
    have hn : 0 < n := by omega
    generalize m * 2 ^ w = D at *
    generalize 2 ^ (x + 1) = Y at *
    have h8 : D / n ≤ Y := Nat.div_le_of_le_mul hD
    by_cases h9 : D % n = 0
    · rw [h9]; simp; omega
    · have : D / n ≠ Y := by
        rintro rfl
        have := Nat.div_add_mod D n
        omega
      have : (D % n != 0).toNat ≤ 1 := Bool.toNat_le _
      omega
  refine Nat.le_trans (Nat.mul_le_mul_right _ hmag) ?_
  rw [← Nat.pow_add]
  exact Nat.pow_le_pow_right (by decide) (by omega)
/-- A whole number as a float. -/
theorem int_near (n : Int) : FloatKind.f64.nearest n = nearN (decide (n < 0)) n.natAbs 2148 := near_eq _ _ 2148
theorem int_le {n : Int} {k : Nat} (h : n.natAbs ≤ 2 ^ k) : le2 (FloatKind.f64.nearest n) (k + 1023) := by
  rw [int_near]
  refine near_le _ _ _ _ (by omega) ?_
  rw [show k + 1023 + 1125 = k + 2148 by omega, Nat.pow_add]
  exact Nat.mul_le_mul_right _ h
theorem ge_mul {a e c : Nat} (he : e = c) (h : 1 ≤ a) : 2 ^ e ≤ a * 2 ^ c := by subst he; exact Nat.le_mul_of_pos_left _ h
theorem le_mul {mag P e k : Nat} (h : mag ≤ 2 ^ k) (he : e = k + P) : mag * 2 ^ P ≤ 2 ^ e := by subst he; rw [Nat.pow_add]; exact Nat.mul_le_mul_right _ h
theorem near_le' (neg : Bool) {mag P q k : Nat} (h : mag ≤ 2 ^ k) (h1 : 1 ≤ q) (he : q + 1125 = k + P) : le2 (nearN neg mag P) q := near_le _ _ _ _ h1 (le_mul h he)
theorem near_ge' (neg : Bool) {mag P q : Nat} (h : 1 ≤ mag) (h1 : 1 ≤ q) (h2 : q ≤ 2046) (he : q + 1125 = P) : ge2 (nearN neg mag P) q := near_ge _ _ _ _ h1 h2 (ge_mul he h)
theorem int_ge {n : Int} (h : n ≠ 0) : ge2 (FloatKind.f64.nearest n) 1023 := by
  rw [int_near]
  exact near_ge' _ (by omega) (by decide) (by decide) (by decide)
theorem shr_le {m i c k e : Nat} (hc : c ≤ i) (h : m * 2 ^ i ≤ 2 ^ e) (he : e = k + c) : m * 2 ^ (i - c) ≤ 2 ^ k := by
  subst he
  have h3 : m * 2 ^ (i - c) * 2 ^ c ≤ 2 ^ k * 2 ^ c := by
    rw [Nat.mul_assoc, ← Nat.pow_add, ← Nat.pow_add, show i - c + c = i by omega]
    exact h
  exact Nat.le_of_mul_le_mul_right h3 (Nat.two_pow_pos _)
/-- Back to a whole number. -/
theorem toInt_bnd {x : Nat} (h : le2 x 1085) : ∃ n, floatToIntVal .f64 x .i64 = some n ∧ -(2 ^ 62) ≤ n ∧ n ≤ 2 ^ 62 := by
  have hf := le2_fin h (by omega)
  have h1 := le2_read h (by omega)
  have hm := mag_lt x
  unfold floatToIntVal
  have e : (FloatKind.f64.decode x).toInt .zero = some (Ieee.signed (negN x) (Ieee.Toward.zero.cut (negN x) (magN x <<< ((expN x : Nat) - 1074 : Int).toNat) (-((expN x : Nat) - 1074 : Int)).toNat) 0) := by
    show (Ieee.double.read x).toInt .zero = _
    rw [read_fin hf]
    rfl
  rw [e]
  have hc : Ieee.Toward.zero.cut (negN x) (magN x <<< ((expN x : Nat) - 1074 : Int).toNat) (-((expN x : Nat) - 1074 : Int)).toNat ≤ 2 ^ 62 := by
    unfold Ieee.Toward.cut
    simp only [Bool.toNat_false, Nat.add_zero]
    refine Nat.le_trans (Nat.div_le_self _ _) ?_
    rw [Nat.shiftLeft_eq]
    by_cases h2 : expN x ≤ 1074
    · rw [show ((expN x : Nat) - 1074 : Int).toNat = 0 by omega, Nat.pow_zero, Nat.mul_one]
      exact Nat.le_trans (Nat.le_of_lt hm) (Nat.pow_le_pow_right (by decide) (by omega))
    · rw [show ((expN x : Nat) - 1074 : Int).toNat = expN x - 1074 by omega]
      exact shr_le (k := 62) (c := 1074) (by omega) h1 (by decide)
  generalize Ieee.Toward.zero.cut (negN x) (magN x <<< ((expN x : Nat) - 1074 : Int).toNat) (-((expN x : Nat) - 1074 : Int)).toNat = c at *
  have e62 : (2 : Nat) ^ 62 = 4611686018427387904 := by decide
  have f62 : (2 : Int) ^ 62 = 4611686018427387904 := by decide
  have e1 : IntKind.i64.min = -9223372036854775808 := by decide
  have e2 : IntKind.i64.max = 9223372036854775807 := by decide
  unfold Ieee.signed
  rw [Nat.shiftLeft_zero]
  dsimp only
  rw [e1, e2, f62]
  rw [e62] at hc
  have hs : ∀ z : Int, -4611686018427387904 ≤ z → z ≤ 4611686018427387904 → ∃ n, (if -9223372036854775808 ≤ z ∧ z ≤ 9223372036854775807 then some z else none) = some n ∧ -4611686018427387904 ≤ n ∧ n ≤ 4611686018427387904 := fun z h1 h2 => ⟨z, if_pos ⟨by omega, by omega⟩, h1, h2⟩
  refine hs _ ?_ ?_ <;> split <;> omega
/-- The order of floats that are finite and not negative: by their bits. -/
theorem ord_fin {a b : Nat} (ha : finN a = true) (hb : finN b = true) : ∃ o, ordN a b = some o ∧ (negN a = false → negN b = false → (o = .lt → magN a * 2 ^ expN a < magN b * 2 ^ expN b) ∧ (o = .eq → magN a * 2 ^ expN a = magN b * 2 ^ expN b) ∧ (o = .gt → magN b * 2 ^ expN b < magN a * 2 ^ expN a)) := by
  unfold ordN
  show ∃ o, (Ieee.double.read a).order (Ieee.double.read b) = some o ∧ _
  rw [read_fin ha, read_fin hb]
  refine ⟨_, rfl, ?_⟩
  intro h1 h2
  rw [h1, h2]
  unfold Ieee.signed
  simp only [Bool.false_eq_true, if_false, Nat.shiftLeft_eq]
  generalize magN a = m
  generalize magN b = n
  generalize expN a = i
  generalize expN b = j
  have e : ∀ k : Nat, (((k : Nat) : Int) - 1074 - min ((i : Int) - 1074) ((j : Int) - 1074)).toNat = k - min i j := fun k => by omega
  rw [e i, e j]
  have eA : m * 2 ^ i = m * 2 ^ (i - min i j) * 2 ^ min i j := by rw [Nat.mul_assoc, ← Nat.pow_add]; congr 2; omega
  have eB : n * 2 ^ j = n * 2 ^ (j - min i j) * 2 ^ min i j := by rw [Nat.mul_assoc, ← Nat.pow_add]; congr 2; omega
  rw [eA, eB]
  generalize m * 2 ^ (i - min i j) = A
  generalize n * 2 ^ (j - min i j) = B
  have hz := Nat.two_pow_pos (min i j)
  generalize 2 ^ min i j = Z at *
  refine ⟨fun h => ?_, fun h => ?_, fun h => ?_⟩
  · have : (A : Int) < B := by
      rw [show compare (A : Int) (B : Int) = .lt ↔ (A : Int) < B from Int.compare_eq_lt] at h; exact h
    exact Nat.mul_lt_mul_of_pos_right (by omega) hz
  · have : (A : Int) = B := by
      rw [show compare (A : Int) (B : Int) = .eq ↔ (A : Int) = B from Int.compare_eq_eq] at h; exact h
    rw [show A = B by omega]
  · have : (B : Int) < A := by
      rw [show compare (A : Int) (B : Int) = .gt ↔ (B : Int) < A from Int.compare_eq_gt] at h; exact h
    exact Nat.mul_lt_mul_of_pos_right (by omega) hz
/-- And so a bound of the worth is a bound of the bits. -/
theorem le2_of_read {x q : Nat} (h1 : 1 ≤ q) (h : magN x * 2 ^ expN x ≤ 2 ^ (q + 51)) : le2 x q := by
  unfold le2
  unfold magN expN at h
  rw [frc_eq] at h
  generalize x % 9223372036854775808 = r at *
  by_cases h2 : r < 4503599627370496
  · omega
  · rw [if_neg h2] at h
    have h3 : 2 ^ (52 + (r / 4503599627370496 - 1)) ≤ 2 ^ (q + 51) := by
      refine Nat.le_trans ?_ h
      rw [Nat.pow_add, ← p52]
      exact Nat.mul_le_mul_right _ (by omega)
    have h4 := (Nat.pow_le_pow_iff_right (by decide)).1 h3
    by_cases h5 : r / 4503599627370496 = q
    · by_cases h6 : r % 4503599627370496 = 0
      · omega
      · exfalso
        rw [h5, show q + 51 = 52 + (q - 1) by omega, Nat.pow_add, ← p52] at h
        have := Nat.le_of_mul_le_mul_right h (Nat.two_pow_pos _)
        omega
    · omega
theorem ge2_of_read {x q : Nat} (h1 : 1 ≤ q) (h : 2 ^ (q + 51) ≤ magN x * 2 ^ expN x) : ge2 x q := by
  unfold ge2
  have hm := mag_lt x
  unfold magN expN at *
  rw [frc_eq] at *
  generalize x % 9223372036854775808 = r at *
  by_cases h2 : r < 4503599627370496
  · rw [if_pos h2, Nat.div_eq_of_lt h2, Nat.zero_sub, Nat.pow_zero, Nat.mul_one] at h
    have : (2 : Nat) ^ 52 ≤ 2 ^ (q + 51) := Nat.pow_le_pow_right (by decide) (by omega)
    rw [← p52] at this
    omega
  · rw [if_neg h2] at *
    have h3 : 2 ^ (q + 51) < 2 ^ (53 + (r / 4503599627370496 - 1)) := by
      refine Nat.lt_of_le_of_lt h ?_
      rw [Nat.pow_add 2 53]
      exact Nat.mul_lt_mul_of_pos_right hm (Nat.two_pow_pos _)
    have h4 := (Nat.pow_lt_pow_iff_right (by decide)).1 h3
    omega
end Go.Proofs.YtacfofpbbempaaaGreatDoor.Flo
/- The arctangent in plain numbers; its worth lies in range. -/
namespace Go.Proofs.YtacfofpbbempaaaGreatDoor.Flo
open Go
set_option linter.unusedVariables false
def xnumN (z : Nat) : Option Nat :=
  bnd (mulN 13829429103926125972 z) fun a => bnd (addN a 13848613196940411002) fun a => bnd (mulN a z) fun a => bnd (addN a 13858350711815275123) fun a => bnd (mulN a z) fun a => bnd (addN a 13861719834326579749) fun a => bnd (mulN a z) fun a => bnd (addN a 13857635882265799822) fun a => mulN z a
def xdenN (z : Nat) : Option Nat :=
  bnd (addN z 4627690253511319612) fun a => bnd (mulN a z) fun a => bnd (addN a 4640010388282866213) fun a => bnd (mulN a z) fun a => bnd (addN a 4646322940342877755) fun a => bnd (mulN a z) fun a => bnd (addN a 4647246694406179306) fun a => bnd (mulN a z) fun a => addN a 4641049159275471596
def xatanN (x : Nat) : Option Nat :=
  bnd (mulN x x) fun z => bnd (xnumN z) fun n => bnd (xdenN z) fun d => bnd (divN n d) fun q => bnd (mulN x q) fun s => addN s x
theorem bnd_of {α : Type} {x : Option Nat} {f : Nat → Option α} {a : Nat} {r : α} (h1 : x = some a) (h2 : f a = some r) : bnd x f = some r := by rw [h1]; simpa [bnd, frc_eq] using h2
theorem le2_c {c q : Nat} (h : decide (c % 9223372036854775808 ≤ q * 4503599627370496) = true) : le2 c q := by unfold le2; exact of_decide_eq_true h
theorem ge2_c {c q : Nat} (h : decide (q * 4503599627370496 ≤ c % 9223372036854775808) = true) : ge2 c q := by unfold ge2; exact of_decide_eq_true h
theorem xnum_bnd {z : Nat} (hz : le2 z 1029) : ∃ r, xnumN z = some r ∧ le2 r 1057 := by
  obtain ⟨a1, e1, l1, -, -⟩ := mul_bnd (le2_c (c := 13829429103926125972) (q := 1023) (by decide)) hz (by omega) (by omega) (by omega)
  obtain ⟨a2, e2, l2, -⟩ := add_bnd (q := 1029) l1 (le2_c (c := 13848613196940411002) (by decide)) (by omega)
  obtain ⟨a3, e3, l3, -, -⟩ := mul_bnd (p := 1030) (q := 1029) l2 hz (by omega) (by omega) (by omega)
  obtain ⟨a4, e4, l4, -⟩ := add_bnd (q := 1036) l3 (le2_c (c := 13858350711815275123) (by decide)) (by omega)
  obtain ⟨a5, e5, l5, -, -⟩ := mul_bnd (p := 1037) (q := 1029) l4 hz (by omega) (by omega) (by omega)
  obtain ⟨a6, e6, l6, -⟩ := add_bnd (q := 1043) l5 (le2_c (c := 13861719834326579749) (by decide)) (by omega)
  obtain ⟨a7, e7, l7, -, -⟩ := mul_bnd (p := 1044) (q := 1029) l6 hz (by omega) (by omega) (by omega)
  obtain ⟨a8, e8, l8, -⟩ := add_bnd (q := 1050) l7 (le2_c (c := 13857635882265799822) (by decide)) (by omega)
  obtain ⟨a9, e9, l9, -, -⟩ := mul_bnd (p := 1029) (q := 1051) hz l8 (by omega) (by omega) (by omega)
  exact ⟨a9, bnd_of e1 (bnd_of e2 (bnd_of e3 (bnd_of e4 (bnd_of e5 (bnd_of e6 (bnd_of e7 (bnd_of e8 e9))))))), l9⟩
theorem xden_bnd {z : Nat} (hz : le2 z 1029) (hn : negN z = false) : ∃ r, xdenN z = some r ∧ le2 r 1058 ∧ ge2 r 1030 := by
  obtain ⟨a1, e1, l1, -⟩ := add_bnd (q := 1029) hz (le2_c (c := 4627690253511319612) (by decide)) (by omega)
  have s1 := pos_neg e1 hn (by decide)
  obtain ⟨a2, e2, l2, s2, -⟩ := mul_bnd (p := 1030) (q := 1029) l1 hz (by omega) (by omega) (by omega)
  rw [s1, hn] at s2
  obtain ⟨a3, e3, l3, -⟩ := add_bnd (q := 1036) l2 (le2_c (c := 4640010388282866213) (by decide)) (by omega)
  have s3 := pos_neg e3 s2 (by decide)
  obtain ⟨a4, e4, l4, s4, -⟩ := mul_bnd (p := 1037) (q := 1029) l3 hz (by omega) (by omega) (by omega)
  rw [s3, hn] at s4
  obtain ⟨a5, e5, l5, -⟩ := add_bnd (q := 1043) l4 (le2_c (c := 4646322940342877755) (by decide)) (by omega)
  have s5 := pos_neg e5 s4 (by decide)
  obtain ⟨a6, e6, l6, s6, -⟩ := mul_bnd (p := 1044) (q := 1029) l5 hz (by omega) (by omega) (by omega)
  rw [s5, hn] at s6
  obtain ⟨a7, e7, l7, -⟩ := add_bnd (q := 1050) l6 (le2_c (c := 4647246694406179306) (by decide)) (by omega)
  have s7 := pos_neg e7 s6 (by decide)
  obtain ⟨a8, e8, l8, s8, -⟩ := mul_bnd (p := 1051) (q := 1029) l7 hz (by omega) (by omega) (by omega)
  rw [s7, hn] at s8
  obtain ⟨a9, e9, l9, -⟩ := add_bnd (q := 1057) l8 (le2_c (c := 4641049159275471596) (by decide)) (by omega)
  have s9 := pos_bnd (q := 1030) e9 s8 (by decide) (ge2_c (by decide)) (by omega)
  exact ⟨a9, bnd_of e1 (bnd_of e2 (bnd_of e3 (bnd_of e4 (bnd_of e5 (bnd_of e6 (bnd_of e7 (bnd_of e8 e9))))))), l9, s9.1⟩
theorem xatan_bnd {x : Nat} (hx : le2 x 1026) : ∃ r, xatanN x = some r ∧ le2 r 1054 := by
  obtain ⟨z, e1, l1, s1, -⟩ := mul_bnd hx hx (by omega) (by omega) (by omega)
  rw [Bool.xor_self] at s1
  obtain ⟨n, e2, l2⟩ := xnum_bnd (z := z) l1
  obtain ⟨d, e3, l3, g3⟩ := xden_bnd (z := z) l1 s1
  obtain ⟨q, e4, l4, -⟩ := div_bnd l2 g3 (le2_mono l3 (by omega)) (by omega) (by omega) (by omega)
  obtain ⟨s, e5, l5, -, -⟩ := mul_bnd (p := 1026) (q := 1050) hx l4 (by omega) (by omega) (by omega)
  obtain ⟨r, e6, l6, -⟩ := add_bnd (q := 1053) l5 (le2_mono hx (by omega)) (by omega)
  exact ⟨r, bnd_of e1 (bnd_of e2 (bnd_of e3 (bnd_of e4 (bnd_of e5 e6)))), l6⟩
/-- satan at a positive number. -/
def satanN (x : Nat) : Option Nat :=
  match ordN x 4604119971053405471 with
  | none => none
  | some .gt =>
    match ordN x 4612618744449965542 with
    | none => none
    | some .gt => bnd (divN 4607182418800017408 x) fun i => bnd (xatanN i) fun a => bnd (subN 4609753056924675352 a) fun s => addN s 4364452196894661639
    | some _ => bnd (subN x 4607182418800017408) fun u => bnd (addN x 4607182418800017408) fun v => bnd (divN u v) fun i => bnd (xatanN i) fun a => bnd (addN 4605249457297304856 a) fun s => addN s 4359948597267291143
  | some _ => xatanN x
theorem ord_le {a b q : Nat} (ha : finN a = true) (sa : negN a = false) (hb : finN b = true) (sb : negN b = false) {o : Ordering} (h : ordN a b = some o) (ho : o ≠ .gt) (hq : 1 ≤ q) (hc : le2 b q) : le2 a q := by
  obtain ⟨o', e, f⟩ := ord_fin ha hb
  rw [h] at e
  cases e
  obtain ⟨f1, f2, f3⟩ := f sa sb
  have := le2_read hc hq
  refine le2_of_read hq ?_
  cases o
  · have := f1 rfl; omega
  · have := f2 rfl; omega
  · exact absurd rfl ho
theorem ord_ge {a b q : Nat} (ha : finN a = true) (sa : negN a = false) (hb : finN b = true) (sb : negN b = false) (h : ordN a b = some .gt) (hq : 1 ≤ q) (hc : ge2 b q) : ge2 a q := by
  obtain ⟨o', e, f⟩ := ord_fin ha hb
  rw [h] at e
  cases e
  obtain ⟨f1, f2, f3⟩ := f sa sb
  have := ge2_read hc hq
  refine ge2_of_read hq ?_
  have := f3 rfl; omega
/-! ### signs -/
def flip (x : Nat) : Nat := x ^^^ 9223372036854775808
theorem p63 : (9223372036854775808 : Nat) = 2 ^ 63 := by decide
theorem flip_mod (x : Nat) : flip x % 9223372036854775808 = x % 9223372036854775808 := by
  unfold flip
  rw [p63, Nat.xor_mod_two_pow, Nat.mod_self, Nat.xor_zero]
theorem neg_bit (x : Nat) : negN x = x.testBit 63 := by
  rw [Nat.testBit_eq_decide_div_mod_eq]
  unfold negN
  rw [p63]
  cases h : (x / 2 ^ 63 % 2 == 1)
  · have : ¬ x / 2 ^ 63 % 2 = 1 := by simpa using h
    simp [this]
  · have : x / 2 ^ 63 % 2 = 1 := by simpa using h
    simp [this]
theorem flip_neg (x : Nat) : negN (flip x) = !negN x := by
  rw [neg_bit, neg_bit]
  unfold flip
  rw [p63, Nat.testBit_xor, Nat.testBit_two_pow_self]
  simp
theorem flip_le {x q : Nat} (h : le2 x q) : le2 (flip x) q := by unfold le2 at *; rw [flip_mod]; exact h
/-- atan. -/
def atanN (x : Nat) : Option Nat :=
  match ordN x 0 with
  | none => none
  | some .eq => some x
  | some .gt => satanN x
  | some .lt => bnd (satanN (flip x)) fun s => some (flip s)
theorem ord_zero {x : Nat} (hf : finN x = true) : ∃ o, ordN x 0 = some o ∧ (o = .gt → negN x = false) ∧ (o = .lt → negN x = true) := by
  unfold ordN
  show ∃ o, (Ieee.double.read x).order (Ieee.double.read 0) = some o ∧ _
  have h0 : Ieee.double.read 0 = .number false 0 ((0 : Nat) - 1074) := rfl
  rw [read_fin hf, h0]
  refine ⟨_, rfl, ?_, ?_⟩ <;> intro h
  · have h := (Int.compare_eq_gt).1 h
    cases hn : negN x
    · rfl
    · rw [hn] at h; unfold Ieee.signed at h; rw [if_pos rfl, if_neg (by decide), Nat.zero_shiftLeft] at h; generalize magN x <<< _ = A at h; omega
  · have h := (Int.compare_eq_lt).1 h
    cases hn : negN x
    · rw [hn] at h; unfold Ieee.signed at h; rw [if_neg (by decide), if_neg (by decide), Nat.zero_shiftLeft] at h; generalize magN x <<< _ = A at h; omega
    · rfl
/-- The floor. -/
def floorN (x : Nat) : Nat := FloatKind.f64.encode ((FloatKind.f64.decode x).integral .down)
theorem down_le (s : Bool) (n d : Nat) : Ieee.Toward.down.cut s n d ≤ n + 1 := by
  unfold Ieee.Toward.cut; exact Nat.add_le_add (Nat.div_le_self _ _) (Bool.toNat_le _)
theorem down_zero (s : Bool) (n : Nat) : Ieee.Toward.down.cut s n 0 = n := by
  unfold Ieee.Toward.cut; simp [Nat.mod_one]
theorem floor_bnd {x : Nat} (h : le2 x 1076) : le2 (floorN x) 1076 := by
  have hf := le2_fin h (by omega)
  have h1 := le2_read h (by omega)
  have hm := mag_lt x
  have e : floorN x = Ieee.double.nearest (negN x) (Ieee.Toward.down.cut (negN x) (magN x <<< ((expN x : Nat) - 1074 : Int).toNat) (-((expN x : Nat) - 1074 : Int)).toNat) 0 := by
    show Ieee.double.write ((Ieee.double.read x).integral .down) = _
    rw [read_fin hf]
    rfl
  have hc : Ieee.Toward.down.cut (negN x) (magN x <<< ((expN x : Nat) - 1074 : Int).toNat) (-((expN x : Nat) - 1074 : Int)).toNat ≤ 2 ^ 53 := by
    by_cases h2 : expN x < 1074
    · refine Nat.le_trans (down_le _ _ _) ?_
      rw [show ((expN x : Nat) - 1074 : Int).toNat = 0 by omega, Nat.shiftLeft_zero]
      omega
    · rw [show (-((expN x : Nat) - 1074 : Int)).toNat = 0 by omega, down_zero, Nat.shiftLeft_eq]
      rw [show ((expN x : Nat) - 1074 : Int).toNat = expN x - 1074 by omega]
      exact shr_le (k := 53) (c := 1074) (by omega) h1 (by decide)
  rw [e]
  have en := near_eq (negN x) (Ieee.Toward.down.cut (negN x) (magN x <<< ((expN x : Nat) - 1074 : Int).toNat) (-((expN x : Nat) - 1074 : Int)).toNat) 2148
  rw [show ((2148 : Nat) : Int) - 2148 = 0 by decide] at en
  rw [en]
  exact near_le' _ hc (by decide) (by decide)
/-! ### bits -/
theorem wrap_nat {n : Nat} (h : n < 18446744073709551616) : IntKind.u64.wrap (n : Int) = (n : Int) := by
  simp [IntKind.wrap, IntKind.bits, IntKind.signed]; omega
theorem ofInt_nat (a : Nat) : BitVec.ofInt 64 (a : Int) = BitVec.ofNat 64 a := by
  apply BitVec.eq_of_toNat_eq; simp
theorem and_nat (a b : Nat) : intN .and .u64 (a : Nat) (b : Nat) = ((a % 2 ^ 64 &&& b % 2 ^ 64 : Nat) : Int) := by
  unfold intN
  show IntKind.u64.wrap ((BitVec.ofInt 64 (a : Int) &&& BitVec.ofInt 64 (b : Int)).toNat : Int) = _
  rw [wrap_nat (by have := (BitVec.ofInt 64 (a : Int) &&& BitVec.ofInt 64 (b : Int)).isLt; omega), ofInt_nat, ofInt_nat]
  simp
theorem andNot_nat (a : Nat) : intN .andNot .u64 (a : Nat) (9223372036854775808 : Nat) = ((a % 9223372036854775808 : Nat) : Int) := by
  unfold intN
  show IntKind.u64.wrap ((BitVec.ofInt 64 (a : Int) &&& ~~~BitVec.ofInt 64 ((9223372036854775808 : Nat) : Int)).toNat : Int) = _
  rw [wrap_nat (by have := (BitVec.ofInt 64 (a : Int) &&& ~~~BitVec.ofInt 64 ((9223372036854775808 : Nat) : Int)).isLt; omega), ofInt_nat, ofInt_nat]
  rw [BitVec.toNat_and]
  have e : (~~~BitVec.ofNat 64 9223372036854775808).toNat = 2 ^ 63 - 1 := by decide
  rw [e, Nat.and_two_pow_sub_one_eq_mod]
  simp
theorem or_nat (a b : Nat) : intN .or .u64 (a : Nat) (b : Nat) = ((a % 2 ^ 64 ||| b % 2 ^ 64 : Nat) : Int) := by
  unfold intN
  show IntKind.u64.wrap ((BitVec.ofInt 64 (a : Int) ||| BitVec.ofInt 64 (b : Int)).toNat : Int) = _
  rw [wrap_nat (by have := (BitVec.ofInt 64 (a : Int) ||| BitVec.ofInt 64 (b : Int)).isLt; omega), ofInt_nat, ofInt_nat]
  simp
def csgN (a b : Nat) : Nat := (intN .or .u64 (intN .andNot .u64 (a : Nat) (9223372036854775808 : Nat)) (intN .and .u64 (b : Nat) (9223372036854775808 : Nat))).toNat
theorem csg_bnd {a b q : Nat} (h : le2 a q) : le2 (csgN a b) q := by
  unfold csgN
  rw [andNot_nat, and_nat, or_nat]
  unfold le2 at *
  rw [Int.toNat_natCast]
  rw [p63, Nat.or_mod_two_pow]
  have e1 : (b % 2 ^ 64 &&& 9223372036854775808 % 2 ^ 64) % 2 ^ 64 % 2 ^ 63 = 0 := by
    rw [Nat.mod_mod_of_dvd _ (Nat.pow_dvd_pow 2 (by decide)), Nat.and_mod_two_pow]
    have : (9223372036854775808 : Nat) % 2 ^ 64 % 2 ^ 63 = 0 := by decide
    rw [this, Nat.and_zero]
  rw [← p63] at *
  rw [e1, Nat.or_zero]
  omega
end Go.Proofs.YtacfofpbbempaaaGreatDoor.Flo
/- angle.Of: what the run ends in. -/
namespace Go.Proofs.YtacfofpbbempaaaGreatDoor
open Go.RowKit
set_option linter.unusedVariables false
set_option maxRecDepth 100000
namespace OfF
--GAMMA
def Γ : FuncId → Option Ca := fun f =>
  if f = 85 ∨ f = 84 ∨ f = 49 then some .ext
  else if f = 108 ∨ f = 101 ∨ f = 87 ∨ f = 71 ∨ f = 31 ∨ f = 32 ∨ f = 24 ∨ f = 53 ∨ f = 54 ∨ f = 34 then some (.fn .sc)
  else if f = 33 then some (.fn (.agg [.sc, .sc]))
  else some .inl
def ann : FuncId → Nat → LoopEx := fun f r => ⟨[], [], [], []⟩
--END GAMMA
theorem xatan_form (x0 r : AV) : fnF Tryz.prog Γ ann 3 108 Tryz.f108 (Tryz.f108.body.getD .skip) (.nil) [x0] (.sc) r = (((AV.binOk Go.BinOp.mul x0 x0) ∧
((AV.binOk Go.BinOp.mul (AV.lit (Value.float Go.FloatKind.f64 13829429103926125972)) (AV.bin Go.BinOp.mul x0 x0)) ∧
((AV.binOk Go.BinOp.add (AV.bin Go.BinOp.mul (AV.lit (Value.float Go.FloatKind.f64 13829429103926125972)) (AV.bin Go.BinOp.mul x0 x0)) (AV.lit (Value.float Go.FloatKind.f64 13848613196940411002))) ∧
((AV.binOk Go.BinOp.mul (AV.bin Go.BinOp.add (AV.bin Go.BinOp.mul (AV.lit (Value.float Go.FloatKind.f64 13829429103926125972)) (AV.bin Go.BinOp.mul x0 x0)) (AV.lit (Value.float Go.FloatKind.f64 13848613196940411002))) (AV.bin Go.BinOp.mul x0 x0)) ∧
((AV.binOk Go.BinOp.add (AV.bin Go.BinOp.mul (AV.bin Go.BinOp.add (AV.bin Go.BinOp.mul (AV.lit (Value.float Go.FloatKind.f64 13829429103926125972)) (AV.bin Go.BinOp.mul x0 x0)) (AV.lit (Value.float Go.FloatKind.f64 13848613196940411002))) (AV.bin Go.BinOp.mul x0 x0)) (AV.lit (Value.float Go.FloatKind.f64 13858350711815275123))) ∧
((AV.binOk Go.BinOp.mul (AV.bin Go.BinOp.add (AV.bin Go.BinOp.mul (AV.bin Go.BinOp.add (AV.bin Go.BinOp.mul (AV.lit (Value.float Go.FloatKind.f64 13829429103926125972)) (AV.bin Go.BinOp.mul x0 x0)) (AV.lit (Value.float Go.FloatKind.f64 13848613196940411002))) (AV.bin Go.BinOp.mul x0 x0)) (AV.lit (Value.float Go.FloatKind.f64 13858350711815275123))) (AV.bin Go.BinOp.mul x0 x0)) ∧
((AV.binOk Go.BinOp.add (AV.bin Go.BinOp.mul (AV.bin Go.BinOp.add (AV.bin Go.BinOp.mul (AV.bin Go.BinOp.add (AV.bin Go.BinOp.mul (AV.lit (Value.float Go.FloatKind.f64 13829429103926125972)) (AV.bin Go.BinOp.mul x0 x0)) (AV.lit (Value.float Go.FloatKind.f64 13848613196940411002))) (AV.bin Go.BinOp.mul x0 x0)) (AV.lit (Value.float Go.FloatKind.f64 13858350711815275123))) (AV.bin Go.BinOp.mul x0 x0)) (AV.lit (Value.float Go.FloatKind.f64 13861719834326579749))) ∧
((AV.binOk Go.BinOp.mul (AV.bin Go.BinOp.add (AV.bin Go.BinOp.mul (AV.bin Go.BinOp.add (AV.bin Go.BinOp.mul (AV.bin Go.BinOp.add (AV.bin Go.BinOp.mul (AV.lit (Value.float Go.FloatKind.f64 13829429103926125972)) (AV.bin Go.BinOp.mul x0 x0)) (AV.lit (Value.float Go.FloatKind.f64 13848613196940411002))) (AV.bin Go.BinOp.mul x0 x0)) (AV.lit (Value.float Go.FloatKind.f64 13858350711815275123))) (AV.bin Go.BinOp.mul x0 x0)) (AV.lit (Value.float Go.FloatKind.f64 13861719834326579749))) (AV.bin Go.BinOp.mul x0 x0)) ∧
((AV.binOk Go.BinOp.add (AV.bin Go.BinOp.mul (AV.bin Go.BinOp.add (AV.bin Go.BinOp.mul (AV.bin Go.BinOp.add (AV.bin Go.BinOp.mul (AV.bin Go.BinOp.add (AV.bin Go.BinOp.mul (AV.lit (Value.float Go.FloatKind.f64 13829429103926125972)) (AV.bin Go.BinOp.mul x0 x0)) (AV.lit (Value.float Go.FloatKind.f64 13848613196940411002))) (AV.bin Go.BinOp.mul x0 x0)) (AV.lit (Value.float Go.FloatKind.f64 13858350711815275123))) (AV.bin Go.BinOp.mul x0 x0)) (AV.lit (Value.float Go.FloatKind.f64 13861719834326579749))) (AV.bin Go.BinOp.mul x0 x0)) (AV.lit (Value.float Go.FloatKind.f64 13857635882265799822))) ∧
((AV.binOk Go.BinOp.mul (AV.bin Go.BinOp.mul x0 x0) (AV.bin Go.BinOp.add (AV.bin Go.BinOp.mul (AV.bin Go.BinOp.add (AV.bin Go.BinOp.mul (AV.bin Go.BinOp.add (AV.bin Go.BinOp.mul (AV.bin Go.BinOp.add (AV.bin Go.BinOp.mul (AV.lit (Value.float Go.FloatKind.f64 13829429103926125972)) (AV.bin Go.BinOp.mul x0 x0)) (AV.lit (Value.float Go.FloatKind.f64 13848613196940411002))) (AV.bin Go.BinOp.mul x0 x0)) (AV.lit (Value.float Go.FloatKind.f64 13858350711815275123))) (AV.bin Go.BinOp.mul x0 x0)) (AV.lit (Value.float Go.FloatKind.f64 13861719834326579749))) (AV.bin Go.BinOp.mul x0 x0)) (AV.lit (Value.float Go.FloatKind.f64 13857635882265799822)))) ∧
((AV.binOk Go.BinOp.add (AV.bin Go.BinOp.mul x0 x0) (AV.lit (Value.float Go.FloatKind.f64 4627690253511319612))) ∧
((AV.binOk Go.BinOp.mul (AV.bin Go.BinOp.add (AV.bin Go.BinOp.mul x0 x0) (AV.lit (Value.float Go.FloatKind.f64 4627690253511319612))) (AV.bin Go.BinOp.mul x0 x0)) ∧
((AV.binOk Go.BinOp.add (AV.bin Go.BinOp.mul (AV.bin Go.BinOp.add (AV.bin Go.BinOp.mul x0 x0) (AV.lit (Value.float Go.FloatKind.f64 4627690253511319612))) (AV.bin Go.BinOp.mul x0 x0)) (AV.lit (Value.float Go.FloatKind.f64 4640010388282866213))) ∧
((AV.binOk Go.BinOp.mul (AV.bin Go.BinOp.add (AV.bin Go.BinOp.mul (AV.bin Go.BinOp.add (AV.bin Go.BinOp.mul x0 x0) (AV.lit (Value.float Go.FloatKind.f64 4627690253511319612))) (AV.bin Go.BinOp.mul x0 x0)) (AV.lit (Value.float Go.FloatKind.f64 4640010388282866213))) (AV.bin Go.BinOp.mul x0 x0)) ∧
((AV.binOk Go.BinOp.add (AV.bin Go.BinOp.mul (AV.bin Go.BinOp.add (AV.bin Go.BinOp.mul (AV.bin Go.BinOp.add (AV.bin Go.BinOp.mul x0 x0) (AV.lit (Value.float Go.FloatKind.f64 4627690253511319612))) (AV.bin Go.BinOp.mul x0 x0)) (AV.lit (Value.float Go.FloatKind.f64 4640010388282866213))) (AV.bin Go.BinOp.mul x0 x0)) (AV.lit (Value.float Go.FloatKind.f64 4646322940342877755))) ∧
((AV.binOk Go.BinOp.mul (AV.bin Go.BinOp.add (AV.bin Go.BinOp.mul (AV.bin Go.BinOp.add (AV.bin Go.BinOp.mul (AV.bin Go.BinOp.add (AV.bin Go.BinOp.mul x0 x0) (AV.lit (Value.float Go.FloatKind.f64 4627690253511319612))) (AV.bin Go.BinOp.mul x0 x0)) (AV.lit (Value.float Go.FloatKind.f64 4640010388282866213))) (AV.bin Go.BinOp.mul x0 x0)) (AV.lit (Value.float Go.FloatKind.f64 4646322940342877755))) (AV.bin Go.BinOp.mul x0 x0)) ∧
((AV.binOk Go.BinOp.add (AV.bin Go.BinOp.mul (AV.bin Go.BinOp.add (AV.bin Go.BinOp.mul (AV.bin Go.BinOp.add (AV.bin Go.BinOp.mul (AV.bin Go.BinOp.add (AV.bin Go.BinOp.mul x0 x0) (AV.lit (Value.float Go.FloatKind.f64 4627690253511319612))) (AV.bin Go.BinOp.mul x0 x0)) (AV.lit (Value.float Go.FloatKind.f64 4640010388282866213))) (AV.bin Go.BinOp.mul x0 x0)) (AV.lit (Value.float Go.FloatKind.f64 4646322940342877755))) (AV.bin Go.BinOp.mul x0 x0)) (AV.lit (Value.float Go.FloatKind.f64 4647246694406179306))) ∧
((AV.binOk Go.BinOp.mul (AV.bin Go.BinOp.add (AV.bin Go.BinOp.mul (AV.bin Go.BinOp.add (AV.bin Go.BinOp.mul (AV.bin Go.BinOp.add (AV.bin Go.BinOp.mul (AV.bin Go.BinOp.add (AV.bin Go.BinOp.mul x0 x0) (AV.lit (Value.float Go.FloatKind.f64 4627690253511319612))) (AV.bin Go.BinOp.mul x0 x0)) (AV.lit (Value.float Go.FloatKind.f64 4640010388282866213))) (AV.bin Go.BinOp.mul x0 x0)) (AV.lit (Value.float Go.FloatKind.f64 4646322940342877755))) (AV.bin Go.BinOp.mul x0 x0)) (AV.lit (Value.float Go.FloatKind.f64 4647246694406179306))) (AV.bin Go.BinOp.mul x0 x0)) ∧
((AV.binOk Go.BinOp.add (AV.bin Go.BinOp.mul (AV.bin Go.BinOp.add (AV.bin Go.BinOp.mul (AV.bin Go.BinOp.add (AV.bin Go.BinOp.mul (AV.bin Go.BinOp.add (AV.bin Go.BinOp.mul (AV.bin Go.BinOp.add (AV.bin Go.BinOp.mul x0 x0) (AV.lit (Value.float Go.FloatKind.f64 4627690253511319612))) (AV.bin Go.BinOp.mul x0 x0)) (AV.lit (Value.float Go.FloatKind.f64 4640010388282866213))) (AV.bin Go.BinOp.mul x0 x0)) (AV.lit (Value.float Go.FloatKind.f64 4646322940342877755))) (AV.bin Go.BinOp.mul x0 x0)) (AV.lit (Value.float Go.FloatKind.f64 4647246694406179306))) (AV.bin Go.BinOp.mul x0 x0)) (AV.lit (Value.float Go.FloatKind.f64 4641049159275471596))) ∧
((AV.binOk Go.BinOp.quo (AV.bin Go.BinOp.mul (AV.bin Go.BinOp.mul x0 x0) (AV.bin Go.BinOp.add (AV.bin Go.BinOp.mul (AV.bin Go.BinOp.add (AV.bin Go.BinOp.mul (AV.bin Go.BinOp.add (AV.bin Go.BinOp.mul (AV.bin Go.BinOp.add (AV.bin Go.BinOp.mul (AV.lit (Value.float Go.FloatKind.f64 13829429103926125972)) (AV.bin Go.BinOp.mul x0 x0)) (AV.lit (Value.float Go.FloatKind.f64 13848613196940411002))) (AV.bin Go.BinOp.mul x0 x0)) (AV.lit (Value.float Go.FloatKind.f64 13858350711815275123))) (AV.bin Go.BinOp.mul x0 x0)) (AV.lit (Value.float Go.FloatKind.f64 13861719834326579749))) (AV.bin Go.BinOp.mul x0 x0)) (AV.lit (Value.float Go.FloatKind.f64 13857635882265799822)))) (AV.bin Go.BinOp.add (AV.bin Go.BinOp.mul (AV.bin Go.BinOp.add (AV.bin Go.BinOp.mul (AV.bin Go.BinOp.add (AV.bin Go.BinOp.mul (AV.bin Go.BinOp.add (AV.bin Go.BinOp.mul (AV.bin Go.BinOp.add (AV.bin Go.BinOp.mul x0 x0) (AV.lit (Value.float Go.FloatKind.f64 4627690253511319612))) (AV.bin Go.BinOp.mul x0 x0)) (AV.lit (Value.float Go.FloatKind.f64 4640010388282866213))) (AV.bin Go.BinOp.mul x0 x0)) (AV.lit (Value.float Go.FloatKind.f64 4646322940342877755))) (AV.bin Go.BinOp.mul x0 x0)) (AV.lit (Value.float Go.FloatKind.f64 4647246694406179306))) (AV.bin Go.BinOp.mul x0 x0)) (AV.lit (Value.float Go.FloatKind.f64 4641049159275471596)))) ∧
((AV.binOk Go.BinOp.mul x0 (AV.bin Go.BinOp.quo (AV.bin Go.BinOp.mul (AV.bin Go.BinOp.mul x0 x0) (AV.bin Go.BinOp.add (AV.bin Go.BinOp.mul (AV.bin Go.BinOp.add (AV.bin Go.BinOp.mul (AV.bin Go.BinOp.add (AV.bin Go.BinOp.mul (AV.bin Go.BinOp.add (AV.bin Go.BinOp.mul (AV.lit (Value.float Go.FloatKind.f64 13829429103926125972)) (AV.bin Go.BinOp.mul x0 x0)) (AV.lit (Value.float Go.FloatKind.f64 13848613196940411002))) (AV.bin Go.BinOp.mul x0 x0)) (AV.lit (Value.float Go.FloatKind.f64 13858350711815275123))) (AV.bin Go.BinOp.mul x0 x0)) (AV.lit (Value.float Go.FloatKind.f64 13861719834326579749))) (AV.bin Go.BinOp.mul x0 x0)) (AV.lit (Value.float Go.FloatKind.f64 13857635882265799822)))) (AV.bin Go.BinOp.add (AV.bin Go.BinOp.mul (AV.bin Go.BinOp.add (AV.bin Go.BinOp.mul (AV.bin Go.BinOp.add (AV.bin Go.BinOp.mul (AV.bin Go.BinOp.add (AV.bin Go.BinOp.mul (AV.bin Go.BinOp.add (AV.bin Go.BinOp.mul x0 x0) (AV.lit (Value.float Go.FloatKind.f64 4627690253511319612))) (AV.bin Go.BinOp.mul x0 x0)) (AV.lit (Value.float Go.FloatKind.f64 4640010388282866213))) (AV.bin Go.BinOp.mul x0 x0)) (AV.lit (Value.float Go.FloatKind.f64 4646322940342877755))) (AV.bin Go.BinOp.mul x0 x0)) (AV.lit (Value.float Go.FloatKind.f64 4647246694406179306))) (AV.bin Go.BinOp.mul x0 x0)) (AV.lit (Value.float Go.FloatKind.f64 4641049159275471596))))) ∧
((AV.binOk Go.BinOp.add (AV.bin Go.BinOp.mul x0 (AV.bin Go.BinOp.quo (AV.bin Go.BinOp.mul (AV.bin Go.BinOp.mul x0 x0) (AV.bin Go.BinOp.add (AV.bin Go.BinOp.mul (AV.bin Go.BinOp.add (AV.bin Go.BinOp.mul (AV.bin Go.BinOp.add (AV.bin Go.BinOp.mul (AV.bin Go.BinOp.add (AV.bin Go.BinOp.mul (AV.lit (Value.float Go.FloatKind.f64 13829429103926125972)) (AV.bin Go.BinOp.mul x0 x0)) (AV.lit (Value.float Go.FloatKind.f64 13848613196940411002))) (AV.bin Go.BinOp.mul x0 x0)) (AV.lit (Value.float Go.FloatKind.f64 13858350711815275123))) (AV.bin Go.BinOp.mul x0 x0)) (AV.lit (Value.float Go.FloatKind.f64 13861719834326579749))) (AV.bin Go.BinOp.mul x0 x0)) (AV.lit (Value.float Go.FloatKind.f64 13857635882265799822)))) (AV.bin Go.BinOp.add (AV.bin Go.BinOp.mul (AV.bin Go.BinOp.add (AV.bin Go.BinOp.mul (AV.bin Go.BinOp.add (AV.bin Go.BinOp.mul (AV.bin Go.BinOp.add (AV.bin Go.BinOp.mul (AV.bin Go.BinOp.add (AV.bin Go.BinOp.mul x0 x0) (AV.lit (Value.float Go.FloatKind.f64 4627690253511319612))) (AV.bin Go.BinOp.mul x0 x0)) (AV.lit (Value.float Go.FloatKind.f64 4640010388282866213))) (AV.bin Go.BinOp.mul x0 x0)) (AV.lit (Value.float Go.FloatKind.f64 4646322940342877755))) (AV.bin Go.BinOp.mul x0 x0)) (AV.lit (Value.float Go.FloatKind.f64 4647246694406179306))) (AV.bin Go.BinOp.mul x0 x0)) (AV.lit (Value.float Go.FloatKind.f64 4641049159275471596))))) x0) ∧
((AV.flat (AV.bin Go.BinOp.add (AV.bin Go.BinOp.mul x0 (AV.bin Go.BinOp.quo (AV.bin Go.BinOp.mul (AV.bin Go.BinOp.mul x0 x0) (AV.bin Go.BinOp.add (AV.bin Go.BinOp.mul (AV.bin Go.BinOp.add (AV.bin Go.BinOp.mul (AV.bin Go.BinOp.add (AV.bin Go.BinOp.mul (AV.bin Go.BinOp.add (AV.bin Go.BinOp.mul (AV.lit (Value.float Go.FloatKind.f64 13829429103926125972)) (AV.bin Go.BinOp.mul x0 x0)) (AV.lit (Value.float Go.FloatKind.f64 13848613196940411002))) (AV.bin Go.BinOp.mul x0 x0)) (AV.lit (Value.float Go.FloatKind.f64 13858350711815275123))) (AV.bin Go.BinOp.mul x0 x0)) (AV.lit (Value.float Go.FloatKind.f64 13861719834326579749))) (AV.bin Go.BinOp.mul x0 x0)) (AV.lit (Value.float Go.FloatKind.f64 13857635882265799822)))) (AV.bin Go.BinOp.add (AV.bin Go.BinOp.mul (AV.bin Go.BinOp.add (AV.bin Go.BinOp.mul (AV.bin Go.BinOp.add (AV.bin Go.BinOp.mul (AV.bin Go.BinOp.add (AV.bin Go.BinOp.mul (AV.bin Go.BinOp.add (AV.bin Go.BinOp.mul x0 x0) (AV.lit (Value.float Go.FloatKind.f64 4627690253511319612))) (AV.bin Go.BinOp.mul x0 x0)) (AV.lit (Value.float Go.FloatKind.f64 4640010388282866213))) (AV.bin Go.BinOp.mul x0 x0)) (AV.lit (Value.float Go.FloatKind.f64 4646322940342877755))) (AV.bin Go.BinOp.mul x0 x0)) (AV.lit (Value.float Go.FloatKind.f64 4647246694406179306))) (AV.bin Go.BinOp.mul x0 x0)) (AV.lit (Value.float Go.FloatKind.f64 4641049159275471596))))) x0)) ∧
(fSame (AV.bin Go.BinOp.add (AV.bin Go.BinOp.mul x0 (AV.bin Go.BinOp.quo (AV.bin Go.BinOp.mul (AV.bin Go.BinOp.mul x0 x0) (AV.bin Go.BinOp.add (AV.bin Go.BinOp.mul (AV.bin Go.BinOp.add (AV.bin Go.BinOp.mul (AV.bin Go.BinOp.add (AV.bin Go.BinOp.mul (AV.bin Go.BinOp.add (AV.bin Go.BinOp.mul (AV.lit (Value.float Go.FloatKind.f64 13829429103926125972)) (AV.bin Go.BinOp.mul x0 x0)) (AV.lit (Value.float Go.FloatKind.f64 13848613196940411002))) (AV.bin Go.BinOp.mul x0 x0)) (AV.lit (Value.float Go.FloatKind.f64 13858350711815275123))) (AV.bin Go.BinOp.mul x0 x0)) (AV.lit (Value.float Go.FloatKind.f64 13861719834326579749))) (AV.bin Go.BinOp.mul x0 x0)) (AV.lit (Value.float Go.FloatKind.f64 13857635882265799822)))) (AV.bin Go.BinOp.add (AV.bin Go.BinOp.mul (AV.bin Go.BinOp.add (AV.bin Go.BinOp.mul (AV.bin Go.BinOp.add (AV.bin Go.BinOp.mul (AV.bin Go.BinOp.add (AV.bin Go.BinOp.mul (AV.bin Go.BinOp.add (AV.bin Go.BinOp.mul x0 x0) (AV.lit (Value.float Go.FloatKind.f64 4627690253511319612))) (AV.bin Go.BinOp.mul x0 x0)) (AV.lit (Value.float Go.FloatKind.f64 4640010388282866213))) (AV.bin Go.BinOp.mul x0 x0)) (AV.lit (Value.float Go.FloatKind.f64 4646322940342877755))) (AV.bin Go.BinOp.mul x0 x0)) (AV.lit (Value.float Go.FloatKind.f64 4647246694406179306))) (AV.bin Go.BinOp.mul x0 x0)) (AV.lit (Value.float Go.FloatKind.f64 4641049159275471596))))) x0) r))))))))))))))))))))))))) := by kernel_rfl
theorem satan_form (x0 r : AV) : fnF Tryz.prog Γ ann 3 101 Tryz.f101 (Tryz.f101.body.getD .skip) (.nil) [x0] (.sc) r = (((AV.binOk Go.BinOp.leq x0 (AV.lit (Value.float Go.FloatKind.f64 4604119971053405471))) ∧
((AV.isBool (AV.bin Go.BinOp.leq x0 (AV.lit (Value.float Go.FloatKind.f64 4604119971053405471)))) ∧
(((isT (AV.bin Go.BinOp.leq x0 (AV.lit (Value.float Go.FloatKind.f64 4604119971053405471)))) →
  (∃ r257 : AV, ((Fn Tryz.prog 108 [x0] Sh.sc r257) ∧
  ((AV.flat r257) ∧
  (fSame r257 r))))) ∧
((isF (AV.bin Go.BinOp.leq x0 (AV.lit (Value.float Go.FloatKind.f64 4604119971053405471)))) →
  ((AV.binOk Go.BinOp.gtr x0 (AV.lit (Value.float Go.FloatKind.f64 4612618744449965542))) ∧
  ((AV.isBool (AV.bin Go.BinOp.gtr x0 (AV.lit (Value.float Go.FloatKind.f64 4612618744449965542)))) ∧
  (((isT (AV.bin Go.BinOp.gtr x0 (AV.lit (Value.float Go.FloatKind.f64 4612618744449965542)))) →
    ((AV.binOk Go.BinOp.quo (AV.lit (Value.float Go.FloatKind.f64 4607182418800017408)) x0) ∧
    (∃ r449 : AV, ((Fn Tryz.prog 108 [(AV.bin Go.BinOp.quo (AV.lit (Value.float Go.FloatKind.f64 4607182418800017408)) x0)] Sh.sc r449) ∧
    ((AV.binOk Go.BinOp.sub (AV.lit (Value.float Go.FloatKind.f64 4609753056924675352)) r449) ∧
    ((AV.binOk Go.BinOp.add (AV.bin Go.BinOp.sub (AV.lit (Value.float Go.FloatKind.f64 4609753056924675352)) r449) (AV.lit (Value.float Go.FloatKind.f64 4364452196894661639))) ∧
    ((AV.flat (AV.bin Go.BinOp.add (AV.bin Go.BinOp.sub (AV.lit (Value.float Go.FloatKind.f64 4609753056924675352)) r449) (AV.lit (Value.float Go.FloatKind.f64 4364452196894661639)))) ∧
    (fSame (AV.bin Go.BinOp.add (AV.bin Go.BinOp.sub (AV.lit (Value.float Go.FloatKind.f64 4609753056924675352)) r449) (AV.lit (Value.float Go.FloatKind.f64 4364452196894661639))) r)))))))) ∧
  ((isF (AV.bin Go.BinOp.gtr x0 (AV.lit (Value.float Go.FloatKind.f64 4612618744449965542)))) →
    ((AV.binOk Go.BinOp.sub x0 (AV.lit (Value.float Go.FloatKind.f64 4607182418800017408))) ∧
    ((AV.binOk Go.BinOp.add x0 (AV.lit (Value.float Go.FloatKind.f64 4607182418800017408))) ∧
    ((AV.binOk Go.BinOp.quo (AV.bin Go.BinOp.sub x0 (AV.lit (Value.float Go.FloatKind.f64 4607182418800017408))) (AV.bin Go.BinOp.add x0 (AV.lit (Value.float Go.FloatKind.f64 4607182418800017408)))) ∧
    (∃ r641 : AV, ((Fn Tryz.prog 108 [(AV.bin Go.BinOp.quo (AV.bin Go.BinOp.sub x0 (AV.lit (Value.float Go.FloatKind.f64 4607182418800017408))) (AV.bin Go.BinOp.add x0 (AV.lit (Value.float Go.FloatKind.f64 4607182418800017408))))] Sh.sc r641) ∧
    ((AV.binOk Go.BinOp.add (AV.lit (Value.float Go.FloatKind.f64 4605249457297304856)) r641) ∧
    ((AV.binOk Go.BinOp.add (AV.bin Go.BinOp.add (AV.lit (Value.float Go.FloatKind.f64 4605249457297304856)) r641) (AV.lit (Value.float Go.FloatKind.f64 4359948597267291143))) ∧
    ((AV.flat (AV.bin Go.BinOp.add (AV.bin Go.BinOp.add (AV.lit (Value.float Go.FloatKind.f64 4605249457297304856)) r641) (AV.lit (Value.float Go.FloatKind.f64 4359948597267291143)))) ∧
    (fSame (AV.bin Go.BinOp.add (AV.bin Go.BinOp.add (AV.lit (Value.float Go.FloatKind.f64 4605249457297304856)) r641) (AV.lit (Value.float Go.FloatKind.f64 4359948597267291143))) r)))))))))))))))))) := by kernel_rfl
theorem atan_form (x0 r : AV) : fnF Tryz.prog Γ ann 3 87 Tryz.f87 (Tryz.f87.body.getD .skip) (.nil) [x0] (.sc) r = (((AV.binOk Go.BinOp.eql x0 (AV.lit (Value.float Go.FloatKind.f64 0))) ∧
((AV.isBool (AV.bin Go.BinOp.eql x0 (AV.lit (Value.float Go.FloatKind.f64 0)))) ∧
(((isT (AV.bin Go.BinOp.eql x0 (AV.lit (Value.float Go.FloatKind.f64 0)))) →
  ((AV.flat x0) ∧
  (fSame x0 r))) ∧
((isF (AV.bin Go.BinOp.eql x0 (AV.lit (Value.float Go.FloatKind.f64 0)))) →
  ((AV.binOk Go.BinOp.gtr x0 (AV.lit (Value.float Go.FloatKind.f64 0))) ∧
  ((AV.isBool (AV.bin Go.BinOp.gtr x0 (AV.lit (Value.float Go.FloatKind.f64 0)))) ∧
  (((isT (AV.bin Go.BinOp.gtr x0 (AV.lit (Value.float Go.FloatKind.f64 0)))) →
    (∃ r385 : AV, ((Fn Tryz.prog 101 [x0] Sh.sc r385) ∧
    ((AV.flat r385) ∧
    (fSame r385 r))))) ∧
  ((isF (AV.bin Go.BinOp.gtr x0 (AV.lit (Value.float Go.FloatKind.f64 0)))) →
    ((AV.unOk Go.UnOp.neg x0) ∧
    (∃ r449 : AV, ((Fn Tryz.prog 101 [(AV.un Go.UnOp.neg x0)] Sh.sc r449) ∧
    ((AV.unOk Go.UnOp.neg r449) ∧
    ((AV.flat (AV.un Go.UnOp.neg r449)) ∧
    (fSame (AV.un Go.UnOp.neg r449) r))))))))))))))) := by kernel_rfl
theorem csg_form (x0 x1 r : AV) : fnF Tryz.prog Γ ann 3 71 Tryz.f71 (Tryz.f71.body.getD .skip) (.nil) [x0, x1] (.sc) r = ((∃ r129 : AV, ((FnE Tryz.prog 85 [x0] r129) ∧
((AV.binOk Go.BinOp.andNot r129 (AV.lit (Value.int Go.IntKind.u64 9223372036854775808))) ∧
(∃ r321 : AV, ((FnE Tryz.prog 85 [x1] r321) ∧
((AV.binOk Go.BinOp.and r321 (AV.lit (Value.int Go.IntKind.u64 9223372036854775808))) ∧
((AV.binOk Go.BinOp.or (AV.bin Go.BinOp.andNot r129 (AV.lit (Value.int Go.IntKind.u64 9223372036854775808))) (AV.bin Go.BinOp.and r321 (AV.lit (Value.int Go.IntKind.u64 9223372036854775808)))) ∧
(∃ r513 : AV, ((FnE Tryz.prog 84 [(AV.bin Go.BinOp.or (AV.bin Go.BinOp.andNot r129 (AV.lit (Value.int Go.IntKind.u64 9223372036854775808))) (AV.bin Go.BinOp.and r321 (AV.lit (Value.int Go.IntKind.u64 9223372036854775808))))] r513) ∧
((AV.flat r513) ∧
(fSame r513 r)))))))))))) := by kernel_rfl
theorem floor_form (x0 r : AV) : fnF Tryz.prog Γ ann 5 31 Tryz.f31 (Tryz.f31.body.getD .skip) (.nil) [x0] (.sc) r = ((∃ r129 : AV, ((FnE Tryz.prog 49 [x0] r129) ∧
((AV.flat r129) ∧
(fSame r129 r))))) := by kernel_rfl
theorem atan2_form (x0 x1 r : AV) : fnF Tryz.prog Γ ann 5 32 Tryz.f32 (Tryz.f32.body.getD .skip) (.nil) [x0, x1] (.sc) r = (((fEnt Tryz.prog 52) ∧
(fAllV fun _ => ((fEnt Tryz.prog 66) ∧
(fAllV fun _ => ((AV.binOk Go.BinOp.neq x0 x0) ∧
((AV.isBool (AV.bin Go.BinOp.neq x0 x0)) ∧
(((isT (AV.bin Go.BinOp.neq x0 x0)) →
  ((AV.isBool (AV.bin Go.BinOp.neq x0 x0)) ∧
  ((isT (AV.bin Go.BinOp.neq x0 x0)) ∧
  ((fEnt Tryz.prog 69) ∧
  (fAllV fun _ => (∃ r1281 : AV, ((FnE Tryz.prog 84 [(AV.lit (Value.int Go.IntKind.u64 9221120237041090561))] r1281) ∧
  ((AV.flat r1281) ∧
  (fSame r1281 r))))))))) ∧
((isF (AV.bin Go.BinOp.neq x0 x0)) →
  ((fEnt Tryz.prog 66) ∧
  (fAllV fun _ => ((AV.binOk Go.BinOp.neq x1 x1) ∧
  ((AV.isBool (AV.bin Go.BinOp.neq x0 x0)) ∧
  ((isF (AV.bin Go.BinOp.neq x0 x0)) ∧
  ((AV.isBool (AV.bin Go.BinOp.neq x1 x1)) ∧
  (((isT (AV.bin Go.BinOp.neq x1 x1)) →
    ((fEnt Tryz.prog 69) ∧
    (fAllV fun _ => (∃ r1665 : AV, ((FnE Tryz.prog 84 [(AV.lit (Value.int Go.IntKind.u64 9221120237041090561))] r1665) ∧
    ((AV.flat r1665) ∧
    (fSame r1665 r))))))) ∧
  ((isF (AV.bin Go.BinOp.neq x1 x1)) →
    ((AV.binOk Go.BinOp.eql x0 (AV.lit (Value.float Go.FloatKind.f64 0))) ∧
    ((AV.isBool (AV.bin Go.BinOp.eql x0 (AV.lit (Value.float Go.FloatKind.f64 0)))) ∧
    (((isT (AV.bin Go.BinOp.eql x0 (AV.lit (Value.float Go.FloatKind.f64 0)))) →
      ((AV.binOk Go.BinOp.geq x1 (AV.lit (Value.float Go.FloatKind.f64 0))) ∧
      ((AV.isBool (AV.bin Go.BinOp.geq x1 (AV.lit (Value.float Go.FloatKind.f64 0)))) ∧
      (((isT (AV.bin Go.BinOp.geq x1 (AV.lit (Value.float Go.FloatKind.f64 0)))) →
        ((fEnt Tryz.prog 70) ∧
        (fAllV fun _ => (∃ r2177 : AV, ((FnE Tryz.prog 85 [x1] r2177) ∧
        ((AV.isInt r2177) ∧
        ((AV.binOk Go.BinOp.lss (AV.conv Go.IntKind.i64 r2177) (AV.int 0)) ∧
        ((AV.unOk Go.UnOp.not (AV.bin Go.BinOp.lss (AV.conv Go.IntKind.i64 r2177) (AV.int 0))) ∧
        ((AV.isBool (AV.bin Go.BinOp.geq x1 (AV.lit (Value.float Go.FloatKind.f64 0)))) ∧
        ((isT (AV.bin Go.BinOp.geq x1 (AV.lit (Value.float Go.FloatKind.f64 0)))) ∧
        ((AV.isBool (AV.un Go.UnOp.not (AV.bin Go.BinOp.lss (AV.conv Go.IntKind.i64 r2177) (AV.int 0)))) ∧
        (((isT (AV.un Go.UnOp.not (AV.bin Go.BinOp.lss (AV.conv Go.IntKind.i64 r2177) (AV.int 0)))) →
          (∃ r2689 : AV, ((Fn Tryz.prog 71 [(AV.lit (Value.float Go.FloatKind.f64 0)), x0] Sh.sc r2689) ∧
          ((AV.flat r2689) ∧
          (fSame r2689 r))))) ∧
        ((isF (AV.un Go.UnOp.not (AV.bin Go.BinOp.lss (AV.conv Go.IntKind.i64 r2177) (AV.int 0)))) →
          (∃ r2689 : AV, ((Fn Tryz.prog 71 [(AV.lit (Value.float Go.FloatKind.f64 4614256656552045848)), x0] Sh.sc r2689) ∧
          ((AV.flat r2689) ∧
          (fSame r2689 r))))))))))))))))) ∧
      ((isF (AV.bin Go.BinOp.geq x1 (AV.lit (Value.float Go.FloatKind.f64 0)))) →
        ((AV.isBool (AV.bin Go.BinOp.geq x1 (AV.lit (Value.float Go.FloatKind.f64 0)))) ∧
        ((isF (AV.bin Go.BinOp.geq x1 (AV.lit (Value.float Go.FloatKind.f64 0)))) ∧
        (∃ r2241 : AV, ((Fn Tryz.prog 71 [(AV.lit (Value.float Go.FloatKind.f64 4614256656552045848)), x0] Sh.sc r2241) ∧
        ((AV.flat r2241) ∧
        (fSame r2241 r))))))))))) ∧
    ((isF (AV.bin Go.BinOp.eql x0 (AV.lit (Value.float Go.FloatKind.f64 0)))) →
      ((AV.binOk Go.BinOp.eql x1 (AV.lit (Value.float Go.FloatKind.f64 0))) ∧
      ((AV.isBool (AV.bin Go.BinOp.eql x1 (AV.lit (Value.float Go.FloatKind.f64 0)))) ∧
      (((isT (AV.bin Go.BinOp.eql x1 (AV.lit (Value.float Go.FloatKind.f64 0)))) →
        (∃ r1985 : AV, ((Fn Tryz.prog 71 [(AV.lit (Value.float Go.FloatKind.f64 4609753056924675352)), x0] Sh.sc r1985) ∧
        ((AV.flat r1985) ∧
        (fSame r1985 r))))) ∧
      ((isF (AV.bin Go.BinOp.eql x1 (AV.lit (Value.float Go.FloatKind.f64 0)))) →
        ((fEnt Tryz.prog 67) ∧
        (fAllV fun _ => ((fEnt Tryz.prog 82) ∧
        (fAllV fun _ => (∃ r2497 : AV, ((FnE Tryz.prog 85 [x1] r2497) ∧
        ((AV.binOk Go.BinOp.andNot r2497 (AV.lit (Value.int Go.IntKind.u64 9223372036854775808))) ∧
        (∃ r2625 : AV, ((FnE Tryz.prog 84 [(AV.bin Go.BinOp.andNot r2497 (AV.lit (Value.int Go.IntKind.u64 9223372036854775808)))] r2625) ∧
        ((AV.binOk Go.BinOp.gtr r2625 (AV.lit (Value.float Go.FloatKind.f64 9218868437227405311))) ∧
        ((AV.isBool (AV.bin Go.BinOp.gtr r2625 (AV.lit (Value.float Go.FloatKind.f64 9218868437227405311)))) ∧
        (((isT (AV.bin Go.BinOp.gtr r2625 (AV.lit (Value.float Go.FloatKind.f64 9218868437227405311)))) →
          ((fEnt Tryz.prog 67) ∧
          (fAllV fun _ => ((AV.binOk Go.BinOp.gtr x1 (AV.lit (Value.float Go.FloatKind.f64 9218868437227405311))) ∧
          ((AV.isBool (AV.bin Go.BinOp.gtr x1 (AV.lit (Value.float Go.FloatKind.f64 9218868437227405311)))) ∧
          (((isT (AV.bin Go.BinOp.gtr x1 (AV.lit (Value.float Go.FloatKind.f64 9218868437227405311)))) →
            ((fEnt Tryz.prog 67) ∧
            (fAllV fun _ => ((fEnt Tryz.prog 82) ∧
            (fAllV fun _ => (∃ r4481 : AV, ((FnE Tryz.prog 85 [x0] r4481) ∧
            ((AV.binOk Go.BinOp.andNot r4481 (AV.lit (Value.int Go.IntKind.u64 9223372036854775808))) ∧
            (∃ r4609 : AV, ((FnE Tryz.prog 84 [(AV.bin Go.BinOp.andNot r4481 (AV.lit (Value.int Go.IntKind.u64 9223372036854775808)))] r4609) ∧
            ((AV.binOk Go.BinOp.gtr r4609 (AV.lit (Value.float Go.FloatKind.f64 9218868437227405311))) ∧
            ((AV.isBool (AV.bin Go.BinOp.gtr r4609 (AV.lit (Value.float Go.FloatKind.f64 9218868437227405311)))) ∧
            (((isT (AV.bin Go.BinOp.gtr r4609 (AV.lit (Value.float Go.FloatKind.f64 9218868437227405311)))) →
              (∃ r5249 : AV, ((Fn Tryz.prog 71 [(AV.lit (Value.float Go.FloatKind.f64 4605249457297304856)), x0] Sh.sc r5249) ∧
              ((AV.flat r5249) ∧
              (fSame r5249 r))))) ∧
            ((isF (AV.bin Go.BinOp.gtr r4609 (AV.lit (Value.float Go.FloatKind.f64 9218868437227405311)))) →
              (∃ r5249 : AV, ((Fn Tryz.prog 71 [(AV.lit (Value.float Go.FloatKind.f64 0)), x0] Sh.sc r5249) ∧
              ((AV.flat r5249) ∧
              (fSame r5249 r)))))))))))))))))) ∧
          ((isF (AV.bin Go.BinOp.gtr x1 (AV.lit (Value.float Go.FloatKind.f64 9218868437227405311)))) →
            ((fEnt Tryz.prog 67) ∧
            (fAllV fun _ => ((fEnt Tryz.prog 82) ∧
            (fAllV fun _ => (∃ r4481 : AV, ((FnE Tryz.prog 85 [x0] r4481) ∧
            ((AV.binOk Go.BinOp.andNot r4481 (AV.lit (Value.int Go.IntKind.u64 9223372036854775808))) ∧
            (∃ r4609 : AV, ((FnE Tryz.prog 84 [(AV.bin Go.BinOp.andNot r4481 (AV.lit (Value.int Go.IntKind.u64 9223372036854775808)))] r4609) ∧
            ((AV.binOk Go.BinOp.gtr r4609 (AV.lit (Value.float Go.FloatKind.f64 9218868437227405311))) ∧
            ((AV.isBool (AV.bin Go.BinOp.gtr r4609 (AV.lit (Value.float Go.FloatKind.f64 9218868437227405311)))) ∧
            (((isT (AV.bin Go.BinOp.gtr r4609 (AV.lit (Value.float Go.FloatKind.f64 9218868437227405311)))) →
              (∃ r5249 : AV, ((Fn Tryz.prog 71 [(AV.lit (Value.float Go.FloatKind.f64 4612488097114038738)), x0] Sh.sc r5249) ∧
              ((AV.flat r5249) ∧
              (fSame r5249 r))))) ∧
            ((isF (AV.bin Go.BinOp.gtr r4609 (AV.lit (Value.float Go.FloatKind.f64 9218868437227405311)))) →
              (∃ r5249 : AV, ((Fn Tryz.prog 71 [(AV.lit (Value.float Go.FloatKind.f64 4614256656552045848)), x0] Sh.sc r5249) ∧
              ((AV.flat r5249) ∧
              (fSame r5249 r)))))))))))))))))))))))) ∧
        ((isF (AV.bin Go.BinOp.gtr r2625 (AV.lit (Value.float Go.FloatKind.f64 9218868437227405311)))) →
          ((fEnt Tryz.prog 67) ∧
          (fAllV fun _ => ((fEnt Tryz.prog 82) ∧
          (fAllV fun _ => (∃ r3777 : AV, ((FnE Tryz.prog 85 [x0] r3777) ∧
          ((AV.binOk Go.BinOp.andNot r3777 (AV.lit (Value.int Go.IntKind.u64 9223372036854775808))) ∧
          (∃ r3905 : AV, ((FnE Tryz.prog 84 [(AV.bin Go.BinOp.andNot r3777 (AV.lit (Value.int Go.IntKind.u64 9223372036854775808)))] r3905) ∧
          ((AV.binOk Go.BinOp.gtr r3905 (AV.lit (Value.float Go.FloatKind.f64 9218868437227405311))) ∧
          ((AV.isBool (AV.bin Go.BinOp.gtr r3905 (AV.lit (Value.float Go.FloatKind.f64 9218868437227405311)))) ∧
          (((isT (AV.bin Go.BinOp.gtr r3905 (AV.lit (Value.float Go.FloatKind.f64 9218868437227405311)))) →
            (∃ r4545 : AV, ((Fn Tryz.prog 71 [(AV.lit (Value.float Go.FloatKind.f64 4609753056924675352)), x0] Sh.sc r4545) ∧
            ((AV.flat r4545) ∧
            (fSame r4545 r))))) ∧
          ((isF (AV.bin Go.BinOp.gtr r3905 (AV.lit (Value.float Go.FloatKind.f64 9218868437227405311)))) →
            ((AV.binOk Go.BinOp.quo x0 x1) ∧
            ((fEnt Tryz.prog 72) ∧
            (fAllV fun _ => (∃ r4865 : AV, ((Fn Tryz.prog 87 [(AV.bin Go.BinOp.quo x0 x1)] Sh.sc r4865) ∧
            ((AV.binOk Go.BinOp.lss x1 (AV.lit (Value.float Go.FloatKind.f64 0))) ∧
            ((AV.isBool (AV.bin Go.BinOp.lss x1 (AV.lit (Value.float Go.FloatKind.f64 0)))) ∧
            (((isT (AV.bin Go.BinOp.lss x1 (AV.lit (Value.float Go.FloatKind.f64 0)))) →
              ((AV.binOk Go.BinOp.leq r4865 (AV.lit (Value.float Go.FloatKind.f64 0))) ∧
              ((AV.isBool (AV.bin Go.BinOp.leq r4865 (AV.lit (Value.float Go.FloatKind.f64 0)))) ∧
              (((isT (AV.bin Go.BinOp.leq r4865 (AV.lit (Value.float Go.FloatKind.f64 0)))) →
                ((AV.binOk Go.BinOp.add r4865 (AV.lit (Value.float Go.FloatKind.f64 4614256656552045848))) ∧
                ((AV.flat (AV.bin Go.BinOp.add r4865 (AV.lit (Value.float Go.FloatKind.f64 4614256656552045848)))) ∧
                (fSame (AV.bin Go.BinOp.add r4865 (AV.lit (Value.float Go.FloatKind.f64 4614256656552045848))) r)))) ∧
              ((isF (AV.bin Go.BinOp.leq r4865 (AV.lit (Value.float Go.FloatKind.f64 0)))) →
                ((AV.binOk Go.BinOp.sub r4865 (AV.lit (Value.float Go.FloatKind.f64 4614256656552045848))) ∧
                ((AV.flat (AV.bin Go.BinOp.sub r4865 (AV.lit (Value.float Go.FloatKind.f64 4614256656552045848)))) ∧
                (fSame (AV.bin Go.BinOp.sub r4865 (AV.lit (Value.float Go.FloatKind.f64 4614256656552045848))) r)))))))) ∧
            ((isF (AV.bin Go.BinOp.lss x1 (AV.lit (Value.float Go.FloatKind.f64 0)))) →
              ((AV.flat r4865) ∧
              (fSame r4865 r)))))))))))))))))))))))))))))))))))))))))))))))))))))))))))))) := by kernel_rfl
theorem cross_form (x0 x1 r : AV) : fnF Tryz.prog Γ ann 3 34 Tryz.f34 (Tryz.f34.body.getD .skip) (.nil) [x0, x1] (.sc) r = (((AV.isAgg x0 2) ∧
((AV.isAgg x1 2) ∧
((AV.binOk Go.BinOp.mul (AV.cel x0 1) (AV.cel x1 0)) ∧
((AV.binOk Go.BinOp.mul (AV.cel x0 0) (AV.cel x1 1)) ∧
((AV.binOk Go.BinOp.sub (AV.bin Go.BinOp.mul (AV.cel x0 1) (AV.cel x1 0)) (AV.bin Go.BinOp.mul (AV.cel x0 0) (AV.cel x1 1))) ∧
((AV.flat (AV.bin Go.BinOp.sub (AV.bin Go.BinOp.mul (AV.cel x0 1) (AV.cel x1 0)) (AV.bin Go.BinOp.mul (AV.cel x0 0) (AV.cel x1 1)))) ∧
(fSame (AV.bin Go.BinOp.sub (AV.bin Go.BinOp.mul (AV.cel x0 1) (AV.cel x1 0)) (AV.bin Go.BinOp.mul (AV.cel x0 0) (AV.cel x1 1))) r)))))))) := by kernel_rfl
theorem unit_form (x0 r : AV) : fnF Tryz.prog Γ ann 3 33 Tryz.f33 (Tryz.f33.body.getD .skip) (.nil) [x0] (.agg [.sc, .sc]) r = ((∃ r129 : AV, ((Fn Tryz.prog 53 [x0] Sh.sc r129) ∧
(∃ r257 : AV, ((Fn Tryz.prog 54 [x0] Sh.sc r257) ∧
((AV.isOne r129) ∧
((AV.isOne r257) ∧
((AV.flat r129) ∧
((AV.flat r257) ∧
(fSame (AV.agg [r129, r257]) r)))))))))) := by kernel_rfl
theorem of_form (x0 r : AV) : fnF Tryz.prog Γ ann 5 10 Tryz.f10 (Tryz.f10.body.getD .skip) (.nil) [x0] (.tup [.sc, .sc]) r = (((AV.isAgg x0 2) ∧
((AV.binOk Go.BinOp.lss (AV.cel x0 0) (AV.int (-2000000))) ∧
((AV.isBool (AV.bin Go.BinOp.lss (AV.cel x0 0) (AV.int (-2000000)))) ∧
(((isT (AV.bin Go.BinOp.lss (AV.cel x0 0) (AV.int (-2000000)))) →
  ((AV.isBool (AV.bin Go.BinOp.lss (AV.cel x0 0) (AV.int (-2000000)))) ∧
  ((isT (AV.bin Go.BinOp.lss (AV.cel x0 0) (AV.int (-2000000)))) ∧
  ((AV.flat (AV.int 0)) ∧
  ((AV.flat (AV.int 4)) ∧
  (fSame (AV.tup [(AV.int 0), (AV.int 4)]) r)))))) ∧
((isF (AV.bin Go.BinOp.lss (AV.cel x0 0) (AV.int (-2000000)))) →
  ((AV.binOk Go.BinOp.gtr (AV.cel x0 0) (AV.int 2000000)) ∧
  ((AV.isBool (AV.bin Go.BinOp.lss (AV.cel x0 0) (AV.int (-2000000)))) ∧
  ((isF (AV.bin Go.BinOp.lss (AV.cel x0 0) (AV.int (-2000000)))) ∧
  ((AV.isBool (AV.bin Go.BinOp.gtr (AV.cel x0 0) (AV.int 2000000))) ∧
  (((isT (AV.bin Go.BinOp.gtr (AV.cel x0 0) (AV.int 2000000))) →
    ((AV.isBool (AV.bin Go.BinOp.gtr (AV.cel x0 0) (AV.int 2000000))) ∧
    ((isT (AV.bin Go.BinOp.gtr (AV.cel x0 0) (AV.int 2000000))) ∧
    ((AV.flat (AV.int 0)) ∧
    ((AV.flat (AV.int 4)) ∧
    (fSame (AV.tup [(AV.int 0), (AV.int 4)]) r)))))) ∧
  ((isF (AV.bin Go.BinOp.gtr (AV.cel x0 0) (AV.int 2000000))) →
    ((AV.binOk Go.BinOp.lss (AV.cel x0 1) (AV.int (-2000000))) ∧
    ((AV.isBool (AV.bin Go.BinOp.gtr (AV.cel x0 0) (AV.int 2000000))) ∧
    ((isF (AV.bin Go.BinOp.gtr (AV.cel x0 0) (AV.int 2000000))) ∧
    ((AV.isBool (AV.bin Go.BinOp.lss (AV.cel x0 1) (AV.int (-2000000)))) ∧
    (((isT (AV.bin Go.BinOp.lss (AV.cel x0 1) (AV.int (-2000000)))) →
      ((AV.isBool (AV.bin Go.BinOp.lss (AV.cel x0 1) (AV.int (-2000000)))) ∧
      ((isT (AV.bin Go.BinOp.lss (AV.cel x0 1) (AV.int (-2000000)))) ∧
      ((AV.flat (AV.int 0)) ∧
      ((AV.flat (AV.int 4)) ∧
      (fSame (AV.tup [(AV.int 0), (AV.int 4)]) r)))))) ∧
    ((isF (AV.bin Go.BinOp.lss (AV.cel x0 1) (AV.int (-2000000)))) →
      ((AV.binOk Go.BinOp.gtr (AV.cel x0 1) (AV.int 2000000)) ∧
      ((AV.isBool (AV.bin Go.BinOp.lss (AV.cel x0 1) (AV.int (-2000000)))) ∧
      ((isF (AV.bin Go.BinOp.lss (AV.cel x0 1) (AV.int (-2000000)))) ∧
      ((AV.isBool (AV.bin Go.BinOp.gtr (AV.cel x0 1) (AV.int 2000000))) ∧
      (((isT (AV.bin Go.BinOp.gtr (AV.cel x0 1) (AV.int 2000000))) →
        ((AV.flat (AV.int 0)) ∧
        ((AV.flat (AV.int 4)) ∧
        (fSame (AV.tup [(AV.int 0), (AV.int 4)]) r)))) ∧
      ((isF (AV.bin Go.BinOp.gtr (AV.cel x0 1) (AV.int 2000000))) →
        ((AV.binOk Go.BinOp.eql (AV.cel x0 0) (AV.int 0)) ∧
        ((AV.isBool (AV.bin Go.BinOp.eql (AV.cel x0 0) (AV.int 0))) ∧
        (((isT (AV.bin Go.BinOp.eql (AV.cel x0 0) (AV.int 0))) →
          ((AV.binOk Go.BinOp.eql (AV.cel x0 1) (AV.int 0)) ∧
          ((AV.isBool (AV.bin Go.BinOp.eql (AV.cel x0 0) (AV.int 0))) ∧
          ((isT (AV.bin Go.BinOp.eql (AV.cel x0 0) (AV.int 0))) ∧
          ((AV.isBool (AV.bin Go.BinOp.eql (AV.cel x0 1) (AV.int 0))) ∧
          (((isT (AV.bin Go.BinOp.eql (AV.cel x0 1) (AV.int 0))) →
            ((AV.flat (AV.int 0)) ∧
            ((AV.flat (AV.int 10)) ∧
            (fSame (AV.tup [(AV.int 0), (AV.int 10)]) r)))) ∧
          ((isF (AV.bin Go.BinOp.eql (AV.cel x0 1) (AV.int 0))) →
            ((AV.isInt (AV.cel x0 0)) ∧
            ((AV.isInt (AV.cel x0 1)) ∧
            (∃ r2369 : AV, ((Fn Tryz.prog 32 [(AV.i2f Go.FloatKind.f64 (AV.cel x0 0)), (AV.i2f Go.FloatKind.f64 (AV.cel x0 1))] Sh.sc r2369) ∧
            ((AV.binOk Go.BinOp.mul r2369 (AV.lit (Value.float Go.FloatKind.f64 4656722014701092864))) ∧
            ((AV.binOk Go.BinOp.quo (AV.bin Go.BinOp.mul r2369 (AV.lit (Value.float Go.FloatKind.f64 4656722014701092864))) (AV.lit (Value.float Go.FloatKind.f64 4614256656552045848))) ∧
            (∃ r2561 : AV, ((Fn Tryz.prog 31 [(AV.bin Go.BinOp.quo (AV.bin Go.BinOp.mul r2369 (AV.lit (Value.float Go.FloatKind.f64 4656722014701092864))) (AV.lit (Value.float Go.FloatKind.f64 4614256656552045848)))] Sh.sc r2561) ∧
            ((AV.f2iOk Go.FloatKind.f64 Go.IntKind.i64 r2561) ∧
            (fLoop 2817 [(AV.int 0)] fun ys2817 again2817 =>
              ((AV.binOk Go.BinOp.lss (ys2817.getD 0 default) (AV.int 4096)) ∧
              ((AV.isBool (AV.bin Go.BinOp.lss (ys2817.getD 0 default) (AV.int 4096))) ∧
              (((isT (AV.bin Go.BinOp.lss (ys2817.getD 0 default) (AV.int 4096))) →
                ((AV.binOk Go.BinOp.add (AV.f2i Go.FloatKind.f64 Go.IntKind.i64 r2561) (ys2817.getD 0 default)) ∧
                (∃ r3201 : AV, ((Fn Tryz.prog 24 [(AV.bin Go.BinOp.add (AV.f2i Go.FloatKind.f64 Go.IntKind.i64 r2561) (ys2817.getD 0 default))] Sh.sc r3201) ∧
                ((AV.binOk Go.BinOp.rem (ys2817.getD 0 default) (AV.int 2)) ∧
                ((AV.binOk Go.BinOp.eql (AV.bin Go.BinOp.rem (ys2817.getD 0 default) (AV.int 2)) (AV.int 1)) ∧
                ((AV.isBool (AV.bin Go.BinOp.eql (AV.bin Go.BinOp.rem (ys2817.getD 0 default) (AV.int 2)) (AV.int 1))) ∧
                (((isT (AV.bin Go.BinOp.eql (AV.bin Go.BinOp.rem (ys2817.getD 0 default) (AV.int 2)) (AV.int 1))) →
                  ((AV.binOk Go.BinOp.sub (AV.f2i Go.FloatKind.f64 Go.IntKind.i64 r2561) (ys2817.getD 0 default)) ∧
                  (∃ r3713 : AV, ((Fn Tryz.prog 24 [(AV.bin Go.BinOp.sub (AV.f2i Go.FloatKind.f64 Go.IntKind.i64 r2561) (ys2817.getD 0 default))] Sh.sc r3713) ∧
                  (∃ r3905 : AV, ((Fn Tryz.prog 33 [r3713] (Sh.agg [Sh.sc, Sh.sc]) r3905) ∧
                  ((AV.binOk Go.BinOp.add r3713 (AV.int 1)) ∧
                  (∃ r4097 : AV, ((Fn Tryz.prog 33 [(AV.bin Go.BinOp.add r3713 (AV.int 1))] (Sh.agg [Sh.sc, Sh.sc]) r4097) ∧
                  (∃ r4545 : AV, ((Fn Tryz.prog 34 [(AV.agg [(AV.cel r3905 0), (AV.cel r3905 1)]), (AV.agg [(AV.cel x0 0), (AV.cel x0 1)])] Sh.sc r4545) ∧
                  (∃ r4737 : AV, ((Fn Tryz.prog 34 [(AV.agg [(AV.cel x0 0), (AV.cel x0 1)]), (AV.agg [(AV.cel r4097 0), (AV.cel r4097 1)])] Sh.sc r4737) ∧
                  ((AV.binOk Go.BinOp.geq r4545 (AV.int 0)) ∧
                  ((AV.isBool (AV.bin Go.BinOp.geq r4545 (AV.int 0))) ∧
                  (((isT (AV.bin Go.BinOp.geq r4545 (AV.int 0))) →
                    ((AV.binOk Go.BinOp.gtr r4737 (AV.int 0)) ∧
                    ((AV.isBool (AV.bin Go.BinOp.geq r4545 (AV.int 0))) ∧
                    ((isT (AV.bin Go.BinOp.geq r4545 (AV.int 0))) ∧
                    ((AV.isBool (AV.bin Go.BinOp.gtr r4737 (AV.int 0))) ∧
                    (((isT (AV.bin Go.BinOp.gtr r4737 (AV.int 0))) →
                      ((AV.binOk Go.BinOp.mul (AV.cel r3905 0) (AV.cel x0 0)) ∧
                      ((AV.binOk Go.BinOp.mul (AV.cel r3905 1) (AV.cel x0 1)) ∧
                      ((AV.binOk Go.BinOp.add (AV.bin Go.BinOp.mul (AV.cel r3905 0) (AV.cel x0 0)) (AV.bin Go.BinOp.mul (AV.cel r3905 1) (AV.cel x0 1))) ∧
                      ((AV.binOk Go.BinOp.gtr (AV.bin Go.BinOp.add (AV.bin Go.BinOp.mul (AV.cel r3905 0) (AV.cel x0 0)) (AV.bin Go.BinOp.mul (AV.cel r3905 1) (AV.cel x0 1))) (AV.int 0)) ∧
                      ((AV.isBool (AV.bin Go.BinOp.gtr r4737 (AV.int 0))) ∧
                      ((isT (AV.bin Go.BinOp.gtr r4737 (AV.int 0))) ∧
                      ((AV.isBool (AV.bin Go.BinOp.gtr (AV.bin Go.BinOp.add (AV.bin Go.BinOp.mul (AV.cel r3905 0) (AV.cel x0 0)) (AV.bin Go.BinOp.mul (AV.cel r3905 1) (AV.cel x0 1))) (AV.int 0))) ∧
                      (((isT (AV.bin Go.BinOp.gtr (AV.bin Go.BinOp.add (AV.bin Go.BinOp.mul (AV.cel r3905 0) (AV.cel x0 0)) (AV.bin Go.BinOp.mul (AV.cel r3905 1) (AV.cel x0 1))) (AV.int 0))) →
                        ((AV.binOk Go.BinOp.leq r4545 r4737) ∧
                        ((AV.isBool (AV.bin Go.BinOp.leq r4545 r4737)) ∧
                        (((isT (AV.bin Go.BinOp.leq r4545 r4737)) →
                          ((AV.flat r3713) ∧
                          ((AV.flat (AV.int 0)) ∧
                          (fSame (AV.tup [r3713, (AV.int 0)]) r)))) ∧
                        ((isF (AV.bin Go.BinOp.leq r4545 r4737)) →
                          ((AV.binOk Go.BinOp.add r3713 (AV.int 1)) ∧
                          (∃ r6529 : AV, ((Fn Tryz.prog 24 [(AV.bin Go.BinOp.add r3713 (AV.int 1))] Sh.sc r6529) ∧
                          ((AV.flat r6529) ∧
                          ((AV.flat (AV.int 0)) ∧
                          (fSame (AV.tup [r6529, (AV.int 0)]) r))))))))))) ∧
                      ((isF (AV.bin Go.BinOp.gtr (AV.bin Go.BinOp.add (AV.bin Go.BinOp.mul (AV.cel r3905 0) (AV.cel x0 0)) (AV.bin Go.BinOp.mul (AV.cel r3905 1) (AV.cel x0 1))) (AV.int 0))) →
                        ((AV.binOk Go.BinOp.add (ys2817.getD 0 default) (AV.int 1)) ∧
                        (again2817 [(AV.bin Go.BinOp.add (ys2817.getD 0 default) (AV.int 1))])))))))))))) ∧
                    ((isF (AV.bin Go.BinOp.gtr r4737 (AV.int 0))) →
                      ((AV.isBool (AV.bin Go.BinOp.gtr r4737 (AV.int 0))) ∧
                      ((isF (AV.bin Go.BinOp.gtr r4737 (AV.int 0))) ∧
                      ((AV.binOk Go.BinOp.add (ys2817.getD 0 default) (AV.int 1)) ∧
                      (again2817 [(AV.bin Go.BinOp.add (ys2817.getD 0 default) (AV.int 1))]))))))))))) ∧
                  ((isF (AV.bin Go.BinOp.geq r4545 (AV.int 0))) →
                    ((AV.isBool (AV.bin Go.BinOp.geq r4545 (AV.int 0))) ∧
                    ((isF (AV.bin Go.BinOp.geq r4545 (AV.int 0))) ∧
                    ((AV.binOk Go.BinOp.add (ys2817.getD 0 default) (AV.int 1)) ∧
                    (again2817 [(AV.bin Go.BinOp.add (ys2817.getD 0 default) (AV.int 1))]))))))))))))))))))))) ∧
                ((isF (AV.bin Go.BinOp.eql (AV.bin Go.BinOp.rem (ys2817.getD 0 default) (AV.int 2)) (AV.int 1))) →
                  (∃ r3585 : AV, ((Fn Tryz.prog 33 [r3201] (Sh.agg [Sh.sc, Sh.sc]) r3585) ∧
                  ((AV.binOk Go.BinOp.add r3201 (AV.int 1)) ∧
                  (∃ r3777 : AV, ((Fn Tryz.prog 33 [(AV.bin Go.BinOp.add r3201 (AV.int 1))] (Sh.agg [Sh.sc, Sh.sc]) r3777) ∧
                  (∃ r4225 : AV, ((Fn Tryz.prog 34 [(AV.agg [(AV.cel r3585 0), (AV.cel r3585 1)]), (AV.agg [(AV.cel x0 0), (AV.cel x0 1)])] Sh.sc r4225) ∧
                  (∃ r4417 : AV, ((Fn Tryz.prog 34 [(AV.agg [(AV.cel x0 0), (AV.cel x0 1)]), (AV.agg [(AV.cel r3777 0), (AV.cel r3777 1)])] Sh.sc r4417) ∧
                  ((AV.binOk Go.BinOp.geq r4225 (AV.int 0)) ∧
                  ((AV.isBool (AV.bin Go.BinOp.geq r4225 (AV.int 0))) ∧
                  (((isT (AV.bin Go.BinOp.geq r4225 (AV.int 0))) →
                    ((AV.binOk Go.BinOp.gtr r4417 (AV.int 0)) ∧
                    ((AV.isBool (AV.bin Go.BinOp.geq r4225 (AV.int 0))) ∧
                    ((isT (AV.bin Go.BinOp.geq r4225 (AV.int 0))) ∧
                    ((AV.isBool (AV.bin Go.BinOp.gtr r4417 (AV.int 0))) ∧
                    (((isT (AV.bin Go.BinOp.gtr r4417 (AV.int 0))) →
                      ((AV.binOk Go.BinOp.mul (AV.cel r3585 0) (AV.cel x0 0)) ∧
                      ((AV.binOk Go.BinOp.mul (AV.cel r3585 1) (AV.cel x0 1)) ∧
                      ((AV.binOk Go.BinOp.add (AV.bin Go.BinOp.mul (AV.cel r3585 0) (AV.cel x0 0)) (AV.bin Go.BinOp.mul (AV.cel r3585 1) (AV.cel x0 1))) ∧
                      ((AV.binOk Go.BinOp.gtr (AV.bin Go.BinOp.add (AV.bin Go.BinOp.mul (AV.cel r3585 0) (AV.cel x0 0)) (AV.bin Go.BinOp.mul (AV.cel r3585 1) (AV.cel x0 1))) (AV.int 0)) ∧
                      ((AV.isBool (AV.bin Go.BinOp.gtr r4417 (AV.int 0))) ∧
                      ((isT (AV.bin Go.BinOp.gtr r4417 (AV.int 0))) ∧
                      ((AV.isBool (AV.bin Go.BinOp.gtr (AV.bin Go.BinOp.add (AV.bin Go.BinOp.mul (AV.cel r3585 0) (AV.cel x0 0)) (AV.bin Go.BinOp.mul (AV.cel r3585 1) (AV.cel x0 1))) (AV.int 0))) ∧
                      (((isT (AV.bin Go.BinOp.gtr (AV.bin Go.BinOp.add (AV.bin Go.BinOp.mul (AV.cel r3585 0) (AV.cel x0 0)) (AV.bin Go.BinOp.mul (AV.cel r3585 1) (AV.cel x0 1))) (AV.int 0))) →
                        ((AV.binOk Go.BinOp.leq r4225 r4417) ∧
                        ((AV.isBool (AV.bin Go.BinOp.leq r4225 r4417)) ∧
                        (((isT (AV.bin Go.BinOp.leq r4225 r4417)) →
                          ((AV.flat r3201) ∧
                          ((AV.flat (AV.int 0)) ∧
                          (fSame (AV.tup [r3201, (AV.int 0)]) r)))) ∧
                        ((isF (AV.bin Go.BinOp.leq r4225 r4417)) →
                          ((AV.binOk Go.BinOp.add r3201 (AV.int 1)) ∧
                          (∃ r6209 : AV, ((Fn Tryz.prog 24 [(AV.bin Go.BinOp.add r3201 (AV.int 1))] Sh.sc r6209) ∧
                          ((AV.flat r6209) ∧
                          ((AV.flat (AV.int 0)) ∧
                          (fSame (AV.tup [r6209, (AV.int 0)]) r))))))))))) ∧
                      ((isF (AV.bin Go.BinOp.gtr (AV.bin Go.BinOp.add (AV.bin Go.BinOp.mul (AV.cel r3585 0) (AV.cel x0 0)) (AV.bin Go.BinOp.mul (AV.cel r3585 1) (AV.cel x0 1))) (AV.int 0))) →
                        ((AV.binOk Go.BinOp.add (ys2817.getD 0 default) (AV.int 1)) ∧
                        (again2817 [(AV.bin Go.BinOp.add (ys2817.getD 0 default) (AV.int 1))])))))))))))) ∧
                    ((isF (AV.bin Go.BinOp.gtr r4417 (AV.int 0))) →
                      ((AV.isBool (AV.bin Go.BinOp.gtr r4417 (AV.int 0))) ∧
                      ((isF (AV.bin Go.BinOp.gtr r4417 (AV.int 0))) ∧
                      ((AV.binOk Go.BinOp.add (ys2817.getD 0 default) (AV.int 1)) ∧
                      (again2817 [(AV.bin Go.BinOp.add (ys2817.getD 0 default) (AV.int 1))]))))))))))) ∧
                  ((isF (AV.bin Go.BinOp.geq r4225 (AV.int 0))) →
                    ((AV.isBool (AV.bin Go.BinOp.geq r4225 (AV.int 0))) ∧
                    ((isF (AV.bin Go.BinOp.geq r4225 (AV.int 0))) ∧
                    ((AV.binOk Go.BinOp.add (ys2817.getD 0 default) (AV.int 1)) ∧
                    (again2817 [(AV.bin Go.BinOp.add (ys2817.getD 0 default) (AV.int 1))])))))))))))))))))))))))))) ∧
              ((isF (AV.bin Go.BinOp.lss (ys2817.getD 0 default) (AV.int 4096))) →
                ((AV.flat (AV.int 0)) ∧
                ((AV.flat (AV.int 0)) ∧
                (fSame (AV.tup [(AV.int 0), (AV.int 0)]) r)))))))))))))))))))))))) ∧
        ((isF (AV.bin Go.BinOp.eql (AV.cel x0 0) (AV.int 0))) →
          ((AV.isBool (AV.bin Go.BinOp.eql (AV.cel x0 0) (AV.int 0))) ∧
          ((isF (AV.bin Go.BinOp.eql (AV.cel x0 0) (AV.int 0))) ∧
          ((AV.isInt (AV.cel x0 0)) ∧
          ((AV.isInt (AV.cel x0 1)) ∧
          (∃ r2369 : AV, ((Fn Tryz.prog 32 [(AV.i2f Go.FloatKind.f64 (AV.cel x0 0)), (AV.i2f Go.FloatKind.f64 (AV.cel x0 1))] Sh.sc r2369) ∧
          ((AV.binOk Go.BinOp.mul r2369 (AV.lit (Value.float Go.FloatKind.f64 4656722014701092864))) ∧
          ((AV.binOk Go.BinOp.quo (AV.bin Go.BinOp.mul r2369 (AV.lit (Value.float Go.FloatKind.f64 4656722014701092864))) (AV.lit (Value.float Go.FloatKind.f64 4614256656552045848))) ∧
          (∃ r2561 : AV, ((Fn Tryz.prog 31 [(AV.bin Go.BinOp.quo (AV.bin Go.BinOp.mul r2369 (AV.lit (Value.float Go.FloatKind.f64 4656722014701092864))) (AV.lit (Value.float Go.FloatKind.f64 4614256656552045848)))] Sh.sc r2561) ∧
          ((AV.f2iOk Go.FloatKind.f64 Go.IntKind.i64 r2561) ∧
          (fLoop 2817 [(AV.int 0)] fun ys2817 again2817 =>
            ((AV.binOk Go.BinOp.lss (ys2817.getD 0 default) (AV.int 4096)) ∧
            ((AV.isBool (AV.bin Go.BinOp.lss (ys2817.getD 0 default) (AV.int 4096))) ∧
            (((isT (AV.bin Go.BinOp.lss (ys2817.getD 0 default) (AV.int 4096))) →
              ((AV.binOk Go.BinOp.add (AV.f2i Go.FloatKind.f64 Go.IntKind.i64 r2561) (ys2817.getD 0 default)) ∧
              (∃ r3201 : AV, ((Fn Tryz.prog 24 [(AV.bin Go.BinOp.add (AV.f2i Go.FloatKind.f64 Go.IntKind.i64 r2561) (ys2817.getD 0 default))] Sh.sc r3201) ∧
              ((AV.binOk Go.BinOp.rem (ys2817.getD 0 default) (AV.int 2)) ∧
              ((AV.binOk Go.BinOp.eql (AV.bin Go.BinOp.rem (ys2817.getD 0 default) (AV.int 2)) (AV.int 1)) ∧
              ((AV.isBool (AV.bin Go.BinOp.eql (AV.bin Go.BinOp.rem (ys2817.getD 0 default) (AV.int 2)) (AV.int 1))) ∧
              (((isT (AV.bin Go.BinOp.eql (AV.bin Go.BinOp.rem (ys2817.getD 0 default) (AV.int 2)) (AV.int 1))) →
                ((AV.binOk Go.BinOp.sub (AV.f2i Go.FloatKind.f64 Go.IntKind.i64 r2561) (ys2817.getD 0 default)) ∧
                (∃ r3713 : AV, ((Fn Tryz.prog 24 [(AV.bin Go.BinOp.sub (AV.f2i Go.FloatKind.f64 Go.IntKind.i64 r2561) (ys2817.getD 0 default))] Sh.sc r3713) ∧
                (∃ r3905 : AV, ((Fn Tryz.prog 33 [r3713] (Sh.agg [Sh.sc, Sh.sc]) r3905) ∧
                ((AV.binOk Go.BinOp.add r3713 (AV.int 1)) ∧
                (∃ r4097 : AV, ((Fn Tryz.prog 33 [(AV.bin Go.BinOp.add r3713 (AV.int 1))] (Sh.agg [Sh.sc, Sh.sc]) r4097) ∧
                (∃ r4545 : AV, ((Fn Tryz.prog 34 [(AV.agg [(AV.cel r3905 0), (AV.cel r3905 1)]), (AV.agg [(AV.cel x0 0), (AV.cel x0 1)])] Sh.sc r4545) ∧
                (∃ r4737 : AV, ((Fn Tryz.prog 34 [(AV.agg [(AV.cel x0 0), (AV.cel x0 1)]), (AV.agg [(AV.cel r4097 0), (AV.cel r4097 1)])] Sh.sc r4737) ∧
                ((AV.binOk Go.BinOp.geq r4545 (AV.int 0)) ∧
                ((AV.isBool (AV.bin Go.BinOp.geq r4545 (AV.int 0))) ∧
                (((isT (AV.bin Go.BinOp.geq r4545 (AV.int 0))) →
                  ((AV.binOk Go.BinOp.gtr r4737 (AV.int 0)) ∧
                  ((AV.isBool (AV.bin Go.BinOp.geq r4545 (AV.int 0))) ∧
                  ((isT (AV.bin Go.BinOp.geq r4545 (AV.int 0))) ∧
                  ((AV.isBool (AV.bin Go.BinOp.gtr r4737 (AV.int 0))) ∧
                  (((isT (AV.bin Go.BinOp.gtr r4737 (AV.int 0))) →
                    ((AV.binOk Go.BinOp.mul (AV.cel r3905 0) (AV.cel x0 0)) ∧
                    ((AV.binOk Go.BinOp.mul (AV.cel r3905 1) (AV.cel x0 1)) ∧
                    ((AV.binOk Go.BinOp.add (AV.bin Go.BinOp.mul (AV.cel r3905 0) (AV.cel x0 0)) (AV.bin Go.BinOp.mul (AV.cel r3905 1) (AV.cel x0 1))) ∧
                    ((AV.binOk Go.BinOp.gtr (AV.bin Go.BinOp.add (AV.bin Go.BinOp.mul (AV.cel r3905 0) (AV.cel x0 0)) (AV.bin Go.BinOp.mul (AV.cel r3905 1) (AV.cel x0 1))) (AV.int 0)) ∧
                    ((AV.isBool (AV.bin Go.BinOp.gtr r4737 (AV.int 0))) ∧
                    ((isT (AV.bin Go.BinOp.gtr r4737 (AV.int 0))) ∧
                    ((AV.isBool (AV.bin Go.BinOp.gtr (AV.bin Go.BinOp.add (AV.bin Go.BinOp.mul (AV.cel r3905 0) (AV.cel x0 0)) (AV.bin Go.BinOp.mul (AV.cel r3905 1) (AV.cel x0 1))) (AV.int 0))) ∧
                    (((isT (AV.bin Go.BinOp.gtr (AV.bin Go.BinOp.add (AV.bin Go.BinOp.mul (AV.cel r3905 0) (AV.cel x0 0)) (AV.bin Go.BinOp.mul (AV.cel r3905 1) (AV.cel x0 1))) (AV.int 0))) →
                      ((AV.binOk Go.BinOp.leq r4545 r4737) ∧
                      ((AV.isBool (AV.bin Go.BinOp.leq r4545 r4737)) ∧
                      (((isT (AV.bin Go.BinOp.leq r4545 r4737)) →
                        ((AV.flat r3713) ∧
                        ((AV.flat (AV.int 0)) ∧
                        (fSame (AV.tup [r3713, (AV.int 0)]) r)))) ∧
                      ((isF (AV.bin Go.BinOp.leq r4545 r4737)) →
                        ((AV.binOk Go.BinOp.add r3713 (AV.int 1)) ∧
                        (∃ r6529 : AV, ((Fn Tryz.prog 24 [(AV.bin Go.BinOp.add r3713 (AV.int 1))] Sh.sc r6529) ∧
                        ((AV.flat r6529) ∧
                        ((AV.flat (AV.int 0)) ∧
                        (fSame (AV.tup [r6529, (AV.int 0)]) r))))))))))) ∧
                    ((isF (AV.bin Go.BinOp.gtr (AV.bin Go.BinOp.add (AV.bin Go.BinOp.mul (AV.cel r3905 0) (AV.cel x0 0)) (AV.bin Go.BinOp.mul (AV.cel r3905 1) (AV.cel x0 1))) (AV.int 0))) →
                      ((AV.binOk Go.BinOp.add (ys2817.getD 0 default) (AV.int 1)) ∧
                      (again2817 [(AV.bin Go.BinOp.add (ys2817.getD 0 default) (AV.int 1))])))))))))))) ∧
                  ((isF (AV.bin Go.BinOp.gtr r4737 (AV.int 0))) →
                    ((AV.isBool (AV.bin Go.BinOp.gtr r4737 (AV.int 0))) ∧
                    ((isF (AV.bin Go.BinOp.gtr r4737 (AV.int 0))) ∧
                    ((AV.binOk Go.BinOp.add (ys2817.getD 0 default) (AV.int 1)) ∧
                    (again2817 [(AV.bin Go.BinOp.add (ys2817.getD 0 default) (AV.int 1))]))))))))))) ∧
                ((isF (AV.bin Go.BinOp.geq r4545 (AV.int 0))) →
                  ((AV.isBool (AV.bin Go.BinOp.geq r4545 (AV.int 0))) ∧
                  ((isF (AV.bin Go.BinOp.geq r4545 (AV.int 0))) ∧
                  ((AV.binOk Go.BinOp.add (ys2817.getD 0 default) (AV.int 1)) ∧
                  (again2817 [(AV.bin Go.BinOp.add (ys2817.getD 0 default) (AV.int 1))]))))))))))))))))))))) ∧
              ((isF (AV.bin Go.BinOp.eql (AV.bin Go.BinOp.rem (ys2817.getD 0 default) (AV.int 2)) (AV.int 1))) →
                (∃ r3585 : AV, ((Fn Tryz.prog 33 [r3201] (Sh.agg [Sh.sc, Sh.sc]) r3585) ∧
                ((AV.binOk Go.BinOp.add r3201 (AV.int 1)) ∧
                (∃ r3777 : AV, ((Fn Tryz.prog 33 [(AV.bin Go.BinOp.add r3201 (AV.int 1))] (Sh.agg [Sh.sc, Sh.sc]) r3777) ∧
                (∃ r4225 : AV, ((Fn Tryz.prog 34 [(AV.agg [(AV.cel r3585 0), (AV.cel r3585 1)]), (AV.agg [(AV.cel x0 0), (AV.cel x0 1)])] Sh.sc r4225) ∧
                (∃ r4417 : AV, ((Fn Tryz.prog 34 [(AV.agg [(AV.cel x0 0), (AV.cel x0 1)]), (AV.agg [(AV.cel r3777 0), (AV.cel r3777 1)])] Sh.sc r4417) ∧
                ((AV.binOk Go.BinOp.geq r4225 (AV.int 0)) ∧
                ((AV.isBool (AV.bin Go.BinOp.geq r4225 (AV.int 0))) ∧
                (((isT (AV.bin Go.BinOp.geq r4225 (AV.int 0))) →
                  ((AV.binOk Go.BinOp.gtr r4417 (AV.int 0)) ∧
                  ((AV.isBool (AV.bin Go.BinOp.geq r4225 (AV.int 0))) ∧
                  ((isT (AV.bin Go.BinOp.geq r4225 (AV.int 0))) ∧
                  ((AV.isBool (AV.bin Go.BinOp.gtr r4417 (AV.int 0))) ∧
                  (((isT (AV.bin Go.BinOp.gtr r4417 (AV.int 0))) →
                    ((AV.binOk Go.BinOp.mul (AV.cel r3585 0) (AV.cel x0 0)) ∧
                    ((AV.binOk Go.BinOp.mul (AV.cel r3585 1) (AV.cel x0 1)) ∧
                    ((AV.binOk Go.BinOp.add (AV.bin Go.BinOp.mul (AV.cel r3585 0) (AV.cel x0 0)) (AV.bin Go.BinOp.mul (AV.cel r3585 1) (AV.cel x0 1))) ∧
                    ((AV.binOk Go.BinOp.gtr (AV.bin Go.BinOp.add (AV.bin Go.BinOp.mul (AV.cel r3585 0) (AV.cel x0 0)) (AV.bin Go.BinOp.mul (AV.cel r3585 1) (AV.cel x0 1))) (AV.int 0)) ∧
                    ((AV.isBool (AV.bin Go.BinOp.gtr r4417 (AV.int 0))) ∧
                    ((isT (AV.bin Go.BinOp.gtr r4417 (AV.int 0))) ∧
                    ((AV.isBool (AV.bin Go.BinOp.gtr (AV.bin Go.BinOp.add (AV.bin Go.BinOp.mul (AV.cel r3585 0) (AV.cel x0 0)) (AV.bin Go.BinOp.mul (AV.cel r3585 1) (AV.cel x0 1))) (AV.int 0))) ∧
                    (((isT (AV.bin Go.BinOp.gtr (AV.bin Go.BinOp.add (AV.bin Go.BinOp.mul (AV.cel r3585 0) (AV.cel x0 0)) (AV.bin Go.BinOp.mul (AV.cel r3585 1) (AV.cel x0 1))) (AV.int 0))) →
                      ((AV.binOk Go.BinOp.leq r4225 r4417) ∧
                      ((AV.isBool (AV.bin Go.BinOp.leq r4225 r4417)) ∧
                      (((isT (AV.bin Go.BinOp.leq r4225 r4417)) →
                        ((AV.flat r3201) ∧
                        ((AV.flat (AV.int 0)) ∧
                        (fSame (AV.tup [r3201, (AV.int 0)]) r)))) ∧
                      ((isF (AV.bin Go.BinOp.leq r4225 r4417)) →
                        ((AV.binOk Go.BinOp.add r3201 (AV.int 1)) ∧
                        (∃ r6209 : AV, ((Fn Tryz.prog 24 [(AV.bin Go.BinOp.add r3201 (AV.int 1))] Sh.sc r6209) ∧
                        ((AV.flat r6209) ∧
                        ((AV.flat (AV.int 0)) ∧
                        (fSame (AV.tup [r6209, (AV.int 0)]) r))))))))))) ∧
                    ((isF (AV.bin Go.BinOp.gtr (AV.bin Go.BinOp.add (AV.bin Go.BinOp.mul (AV.cel r3585 0) (AV.cel x0 0)) (AV.bin Go.BinOp.mul (AV.cel r3585 1) (AV.cel x0 1))) (AV.int 0))) →
                      ((AV.binOk Go.BinOp.add (ys2817.getD 0 default) (AV.int 1)) ∧
                      (again2817 [(AV.bin Go.BinOp.add (ys2817.getD 0 default) (AV.int 1))])))))))))))) ∧
                  ((isF (AV.bin Go.BinOp.gtr r4417 (AV.int 0))) →
                    ((AV.isBool (AV.bin Go.BinOp.gtr r4417 (AV.int 0))) ∧
                    ((isF (AV.bin Go.BinOp.gtr r4417 (AV.int 0))) ∧
                    ((AV.binOk Go.BinOp.add (ys2817.getD 0 default) (AV.int 1)) ∧
                    (again2817 [(AV.bin Go.BinOp.add (ys2817.getD 0 default) (AV.int 1))]))))))))))) ∧
                ((isF (AV.bin Go.BinOp.geq r4225 (AV.int 0))) →
                  ((AV.isBool (AV.bin Go.BinOp.geq r4225 (AV.int 0))) ∧
                  ((isF (AV.bin Go.BinOp.geq r4225 (AV.int 0))) ∧
                  ((AV.binOk Go.BinOp.add (ys2817.getD 0 default) (AV.int 1)) ∧
                  (again2817 [(AV.bin Go.BinOp.add (ys2817.getD 0 default) (AV.int 1))])))))))))))))))))))))))))) ∧
            ((isF (AV.bin Go.BinOp.lss (ys2817.getD 0 default) (AV.int 4096))) →
              ((AV.flat (AV.int 0)) ∧
              ((AV.flat (AV.int 0)) ∧
              (fSame (AV.tup [(AV.int 0), (AV.int 0)]) r))))))))))))))))))))))))))))))))))))))))))))))) := by kernel_rfl
end OfF
end Go.Proofs.YtacfofpbbempaaaGreatDoor
/- angle.Of: the functions of math that it calls. -/
namespace Go.Proofs.YtacfofpbbempaaaGreatDoor
open Go.RowKit
open Flo (le2 ge2 negN)
set_option linter.unusedVariables false
set_option linter.unusedSimpArgs false
set_option maxRecDepth 100000
abbrev fl' (b : Nat) : AV := .lit (.float .f64 b)
theorem xatan_fn {x : Nat} (hx : le2 x 1026) : ∃ r, Fn Tryz.prog 108 [fl' x] .sc (fl' r) ∧ le2 r 1054 := by
  obtain ⟨r, h, hl⟩ := Flo.xatan_bnd hx
  refine ⟨r, ?_, hl⟩
  refine fn_run mixed 3 (Γ := OfF.Γ) (ann := OfF.ann) Tryz.func108 rfl Tryz.call108 ((OfF.xatan_form _ _).mpr ?_)
  unfold Flo.xatanN Flo.xnumN Flo.xdenN at h
  obtain ⟨z, e0, h⟩ := Flo.bnd_some h
  obtain ⟨n, hn, h⟩ := Flo.bnd_some h
  obtain ⟨a1, e1, hn⟩ := Flo.bnd_some hn
  obtain ⟨a2, e2, hn⟩ := Flo.bnd_some hn
  obtain ⟨a3, e3, hn⟩ := Flo.bnd_some hn
  obtain ⟨a4, e4, hn⟩ := Flo.bnd_some hn
  obtain ⟨a5, e5, hn⟩ := Flo.bnd_some hn
  obtain ⟨a6, e6, hn⟩ := Flo.bnd_some hn
  obtain ⟨a7, e7, hn⟩ := Flo.bnd_some hn
  obtain ⟨a8, e8, e9⟩ := Flo.bnd_some hn
  obtain ⟨d, hd, h⟩ := Flo.bnd_some h
  obtain ⟨b1, f1, hd⟩ := Flo.bnd_some hd
  obtain ⟨b2, f2, hd⟩ := Flo.bnd_some hd
  obtain ⟨b3, f3, hd⟩ := Flo.bnd_some hd
  obtain ⟨b4, f4, hd⟩ := Flo.bnd_some hd
  obtain ⟨b5, f5, hd⟩ := Flo.bnd_some hd
  obtain ⟨b6, f6, hd⟩ := Flo.bnd_some hd
  obtain ⟨b7, f7, hd⟩ := Flo.bnd_some hd
  obtain ⟨b8, f8, f9⟩ := Flo.bnd_some hd
  obtain ⟨q, g1, h⟩ := Flo.bnd_some h
  obtain ⟨s, g2, g3⟩ := Flo.bnd_some h
  replace e0 := Flo.mulN_eq e0
  replace e1 := Flo.mulN_eq e1
  replace e2 := Flo.addN_eq e2
  replace e3 := Flo.mulN_eq e3
  replace e4 := Flo.addN_eq e4
  replace e5 := Flo.mulN_eq e5
  replace e6 := Flo.addN_eq e6
  replace e7 := Flo.mulN_eq e7
  replace e8 := Flo.addN_eq e8
  replace e9 := Flo.mulN_eq e9
  replace f1 := Flo.addN_eq f1
  replace f2 := Flo.mulN_eq f2
  replace f3 := Flo.addN_eq f3
  replace f4 := Flo.mulN_eq f4
  replace f5 := Flo.addN_eq f5
  replace f6 := Flo.mulN_eq f6
  replace f7 := Flo.addN_eq f7
  replace f8 := Flo.mulN_eq f8
  replace f9 := Flo.addN_eq f9
  replace g1 := Flo.divN_eq g1
  replace g2 := Flo.mulN_eq g2
  replace g3 := Flo.addN_eq g3
  clear hn hd h hl hx
  simp [*]
/-- What the arctangents hand back. -/
theorem f_leq {a b : Nat} : AV.bin .leq (fl' a) (fl' b) = .lit (.bool (Flo.ordN a b == some .lt || Flo.ordN a b == some .eq)) := rfl
theorem f_gtr {a b : Nat} : AV.bin .gtr (fl' a) (fl' b) = .lit (.bool (Flo.ordN a b == some .gt)) := rfl
theorem f_lss {a b : Nat} : AV.bin .lss (fl' a) (fl' b) = .lit (.bool (Flo.ordN a b == some .lt)) := rfl
theorem f_eql {a b : Nat} : AV.bin .eql (fl' a) (fl' b) = .lit (.bool (Flo.ordN a b == some .eq)) := rfl
theorem f_neq {a b : Nat} : AV.bin .neq (fl' a) (fl' b) = .lit (.bool (Flo.ordN a b != some .eq)) := rfl
theorem f_geq {a b : Nat} : AV.bin .geq (fl' a) (fl' b) = .lit (.bool (Flo.ordN a b == some .gt || Flo.ordN a b == some .eq)) := rfl
theorem isT_b {b : Bool} : isT (.lit (.bool b)) ↔ b = true := by cases b <;> simp
theorem isF_b {b : Bool} : isF (.lit (.bool b)) ↔ b = false := by cases b <;> simp
theorem satan_fn {x : Nat} (hx : le2 x 1100) (sx : negN x = false) : ∃ r, Fn Tryz.prog 101 [fl' x] .sc (fl' r) ∧ le2 r 1056 := by
  have hf := Flo.le2_fin hx (by omega)
  have run := fun r h => fn_run mixed 3 (Γ := OfF.Γ) (ann := OfF.ann) Tryz.func101 rfl Tryz.call101 ((OfF.satan_form (fl' x) (fl' r)).mpr h)
  obtain ⟨o1, h1, -⟩ := Flo.ord_fin (b := 4604119971053405471) hf (by decide)
  obtain ⟨o2, h2, -⟩ := Flo.ord_fin (b := 4612618744449965542) hf (by decide)
  by_cases g1 : o1 = .gt
  · subst g1
    have hg1 := Flo.ord_ge hf sx (by decide) (by decide) h1 (by omega) (Flo.ge2_c (q := 1022) (by decide))
    by_cases g2 : o2 = .gt
    · subst g2
      have hg2 := Flo.ord_ge hf sx (by decide) (by decide) h2 (by omega) (Flo.ge2_c (q := 1024) (by decide))
      obtain ⟨i, e1, l1, -⟩ := Flo.div_bnd (Flo.le2_c (c := 4607182418800017408) (q := 1023) (by decide)) hg2 (Flo.le2_mono hx (by omega)) (by omega) (by omega) (by omega)
      obtain ⟨a, e2, l2⟩ := xatan_fn (Flo.le2_mono l1 (by omega))
      obtain ⟨s, e3, l3, -⟩ := Flo.sub_bnd (Flo.le2_c (c := 4609753056924675352) (q := 1054) (by decide)) l2 (by omega)
      obtain ⟨r, e4, l4, -⟩ := Flo.add_bnd (q := 1055) l3 (Flo.le2_c (c := 4364452196894661639) (by decide)) (by omega)
      replace e1 := Flo.divN_eq e1
      replace e3 := Flo.subN_eq e3
      replace e4 := Flo.addN_eq e4
      refine ⟨r, run r ?_, l4⟩
      rw [f_leq, f_gtr, isT_b, isF_b, isT_b, isF_b, h1, h2]
      refine ⟨⟨rfl, trivial⟩, rfl, fun hw => (by cases hw), fun _ => ⟨⟨rfl, trivial⟩, rfl, fun _ => ⟨by simp [e1], fl' a, ?_, by simp [e3], by simp [e3, e4], .lit _, by simp [e3, e4]⟩, fun hw => (by cases hw)⟩⟩
      have q : AV.bin .quo (AV.lit (.float .f64 4607182418800017408)) (fl' x) = fl' i := by simp [e1]
      rw [q]; exact e2
    · have hl := Flo.ord_le hf sx (by decide) (by decide) h2 g2 (by omega) (Flo.le2_c (q := 1025) (by decide))
      obtain ⟨u, e1, l1, -⟩ := Flo.sub_bnd hl (Flo.le2_c (c := 4607182418800017408) (by decide)) (by omega)
      obtain ⟨v, e2, l2, -⟩ := Flo.add_bnd hl (Flo.le2_c (c := 4607182418800017408) (by decide)) (by omega)
      have s2 := Flo.pos_bnd (q := 1023) e2 sx (by decide) (Flo.ge2_c (by decide)) (by omega)
      obtain ⟨i, e3, l3, -⟩ := Flo.div_bnd l1 s2.1 (Flo.le2_mono l2 (by omega)) (by omega) (by omega) (by omega)
      obtain ⟨a, e4, l4⟩ := xatan_fn (Flo.le2_mono l3 (by omega))
      obtain ⟨s, e5, l5, -⟩ := Flo.add_bnd (Flo.le2_c (c := 4605249457297304856) (q := 1054) (by decide)) l4 (by omega)
      obtain ⟨r, e6, l6, -⟩ := Flo.add_bnd (q := 1055) l5 (Flo.le2_c (c := 4359948597267291143) (by decide)) (by omega)
      replace e1 := Flo.subN_eq e1
      replace e2 := Flo.addN_eq e2
      replace e3 := Flo.divN_eq e3
      replace e5 := Flo.addN_eq e5
      replace e6 := Flo.addN_eq e6
      refine ⟨r, run r ?_, l6⟩
      rw [f_leq, f_gtr, isT_b, isF_b, isT_b, isF_b, h1, h2]
      have hq : (some o2 == some Ordering.gt) = false := by cases o2 <;> first | rfl | exact absurd rfl g2
      rw [hq]
      refine ⟨⟨rfl, trivial⟩, rfl, fun hw => (by cases hw), fun _ => ⟨⟨rfl, trivial⟩, rfl, fun hw => (by cases hw), fun _ => ⟨by simp [e1], by simp [e2], by simp [e1, e2, e3], fl' a, ?_, by simp [e5], by simp [e5, e6], .lit _, by simp [e5, e6]⟩⟩⟩
      have q : AV.bin .quo (AV.bin .sub (fl' x) (AV.lit (.float .f64 4607182418800017408))) (AV.bin .add (fl' x) (AV.lit (.float .f64 4607182418800017408))) = fl' i := by simp [e1, e2, e3]
      rw [q]; exact e4
  · have hl := Flo.ord_le hf sx (by decide) (by decide) h1 g1 (by omega) (Flo.le2_c (q := 1023) (by decide))
    obtain ⟨r, e, l⟩ := xatan_fn (Flo.le2_mono hl (by omega : 1023 ≤ 1026))
    refine ⟨r, run r ?_, Flo.le2_mono l (by omega)⟩
    rw [f_leq, f_gtr, isT_b, isF_b, h1]
    have hq : (some o1 == some Ordering.lt || some o1 == some Ordering.eq) = true := by cases o1 <;> first | rfl | exact absurd rfl g1
    rw [hq]
    exact ⟨⟨rfl, trivial⟩, rfl, fun _ => ⟨_, e, .lit _, by simp⟩, fun hw => (by cases hw)⟩
theorem flip_eq (x : Nat) : AV.un .neg (fl' x) = fl' (Flo.flip x) := rfl
theorem atan_fn {x : Nat} (hx : le2 x 1050) : ∃ r, Fn Tryz.prog 87 [fl' x] .sc (fl' r) ∧ le2 r 1056 := by
  have run := fun r h => fn_run mixed 3 (Γ := OfF.Γ) (ann := OfF.ann) Tryz.func87 rfl Tryz.call87 ((OfF.atan_form (fl' x) (fl' r)).mpr h)
  obtain ⟨o, h, hg, hl⟩ := Flo.ord_zero (Flo.le2_fin hx (by omega))
  rw [f_eql, f_gtr, isT_b, isF_b, isT_b, isF_b, h, flip_eq] at run
  cases o
  · have hn := hl rfl
    obtain ⟨s, e, l⟩ := satan_fn (Flo.flip_le (Flo.le2_mono hx (by omega : 1050 ≤ 1100))) (by rw [Flo.flip_neg, hn]; rfl)
    exact ⟨Flo.flip s, run _ ⟨⟨rfl, trivial⟩, rfl, fun hw => (by cases hw), fun _ => ⟨⟨rfl, trivial⟩, rfl, fun hw => (by cases hw), fun _ => ⟨trivial, _, e, trivial, .lit _, rfl⟩⟩⟩, Flo.flip_le l⟩
  · exact ⟨x, run _ ⟨⟨rfl, trivial⟩, rfl, fun _ => ⟨.lit _, rfl⟩, fun hw => (by cases hw)⟩, Flo.le2_mono hx (by omega)⟩
  · obtain ⟨r, e, l⟩ := satan_fn (Flo.le2_mono hx (by omega : 1050 ≤ 1100)) (hg rfl)
    exact ⟨r, run _ ⟨⟨rfl, trivial⟩, rfl, fun hw => (by cases hw), fun _ => ⟨⟨rfl, trivial⟩, rfl, fun _ => ⟨_, e, .lit _, rfl⟩, fun hw => (by cases hw)⟩⟩, l⟩
end Go.Proofs.YtacfofpbbempaaaGreatDoor
/- angle.Of: the sign, the floor, the arctangent of two. -/
namespace Go.Proofs.YtacfofpbbempaaaGreatDoor
open Go.RowKit
open Flo (le2 ge2 negN)
set_option linter.unusedVariables false
set_option linter.unusedSimpArgs false
set_option maxRecDepth 100000
theorem csg_fn (a b : Nat) : Fn Tryz.prog 71 [fl' a, fl' b] .sc (fl' (Flo.csgN a b)) := by
  refine fn_run mixed 3 (Γ := OfF.Γ) (ann := OfF.ann) Tryz.func71 rfl Tryz.call71 ((OfF.csg_form _ _ _).mpr ?_)
  exact ⟨_, bits_fn a, ⟨rfl, trivial⟩, _, bits_fn b, ⟨rfl, trivial⟩, ⟨rfl, trivial⟩, _, frombits_fn _, .lit _, rfl⟩
theorem archFloor_fn {x : Nat} (hf : Flo.finN x = true) : FnE Tryz.prog 49 [fl' x] (fl' (Flo.floorN x)) := by
  refine fnE_of Tryz.func49 (e := Extern.MathFloor.toIntegral "math.archFloor" .down) (by kernel_rfl) (by kernel_rfl) (by kernel_rfl) (by kernel_rfl) fun w => ?_
  have e : FloatKind.f64.decode x = .number (Flo.negN x) (Flo.magN x) ((Flo.expN x : Nat) - 1074) := Flo.read_fin hf
  unfold Flo.floorN
  show Sem.run _ (match FloatKind.f64.decode x with
    | .nan s t => _
    | d => (pure (Value.float .f64 (FloatKind.f64.encode (d.integral .down))) : Sem Value)) w = _
  rw [e]
  rfl
theorem floor_fn {x : Nat} (h : le2 x 1076) : Fn Tryz.prog 31 [fl' x] .sc (fl' (Flo.floorN x)) := by
  refine fn_run mixed 5 (Γ := OfF.Γ) (ann := OfF.ann) Tryz.func31 rfl Tryz.call31 ((OfF.floor_form _ _).mpr ?_)
  exact ⟨_, archFloor_fn (Flo.le2_fin h (by omega)), .lit _, rfl⟩
theorem ord_self {x : Nat} (h : Flo.finN x = true) : Flo.ordN x x = some .eq := by
  unfold Flo.ordN
  show (Ieee.double.read x).order (Ieee.double.read x) = some .eq
  rw [Flo.read_fin h]
  show some (compare _ _) = _
  rw [Int.compare_eq_eq.2 rfl]
theorem abs_lit (b : Nat) : AV.bin .andNot (u64 (b : Nat)) (AV.lit (.int .u64 9223372036854775808)) = u64 ((b % 9223372036854775808 : Nat) : Int) := by
  show u64 (Flo.intN .andNot .u64 (b : Nat) ((9223372036854775808 : Nat) : Int)) = _
  rw [Flo.andNot_nat]
theorem abs_gt {x q : Nat} (h : le2 x q) (hq : q ≤ 2045) : (Flo.ordN (x % 9223372036854775808) 9218868437227405311 == some .gt) = false := by
  have hl : le2 (x % 9223372036854775808) q := by unfold le2 at *; omega
  have hf := Flo.le2_fin hl (by omega)
  have hs : negN (x % 9223372036854775808) = false := by
    unfold Flo.negN
    rw [Nat.div_eq_of_lt (Nat.mod_lt _ (by decide))]; rfl
  obtain ⟨o, e, -⟩ := Flo.ord_fin (b := 9218868437227405311) hf (by decide)
  cases o
  · rw [e]; rfl
  · rw [e]; rfl
  · exfalso
    have := Flo.ord_ge hf hs (by decide) (by decide) e (by omega) (Flo.ge2_c (q := 2046) (by decide))
    unfold le2 at hl; unfold ge2 at this; omega
theorem at2_fn {a b : Int} (ha : a.natAbs ≤ 2 ^ 21) (hb : b.natAbs ≤ 2 ^ 21) (h0 : ¬ (a = 0 ∧ b = 0)) : ∃ r, Fn Tryz.prog 32 [fl' (FloatKind.f64.nearest a), fl' (FloatKind.f64.nearest b)] .sc (fl' r) ∧ le2 r 1058 := by
  have la := Flo.int_le ha
  have lb := Flo.int_le hb
  have fa := Flo.le2_fin la (by omega)
  have fb := Flo.le2_fin lb (by omega)
  have sa := ord_self fa
  have sb := ord_self fb
  have xa := abs_gt la (by omega)
  have xb := abs_gt lb (by omega)
  have ga : a ≠ 0 → ge2 (FloatKind.f64.nearest a) 1023 := Flo.int_ge
  have gb : b ≠ 0 → ge2 (FloatKind.f64.nearest b) 1023 := Flo.int_ge
  have z0 : FloatKind.f64.nearest 0 = 0 := by decide
  obtain ⟨oa, ea, -⟩ := Flo.ord_zero fa
  obtain ⟨ob, eb, -⟩ := Flo.ord_zero fb
  have nz : ∀ n : Int, n ≠ 0 → n.natAbs ≤ 2 ^ 21 → Flo.ordN (FloatKind.f64.nearest n) 0 ≠ some .eq := fun n hn hl he => by
    have h1 := Flo.ge2_read (Flo.int_ge hn) (by omega)
    have hf := Flo.le2_fin (Flo.int_le hl) (by omega)
    unfold Flo.ordN at he
    have e2 : FloatKind.f64.format.order (FloatKind.f64.nearest n) 0 = (Ieee.double.read (FloatKind.f64.nearest n)).order (Ieee.double.read 0) := rfl
    have e3 : Ieee.double.read 0 = .number false 0 ((0 : Nat) - 1074) := rfl
    rw [e2, Flo.read_fin hf, e3] at he
    simp only [Ieee.Datum.order, Option.some.injEq] at he
    have he := Int.compare_eq_eq.1 he
    unfold Ieee.signed at he
    rw [if_neg (by decide : ¬ false = true), Nat.zero_shiftLeft] at he
    have hm : Flo.magN (FloatKind.f64.nearest n) = 0 := by
      by_cases hs : negN (FloatKind.f64.nearest n) = true
      · rw [if_pos hs, Nat.shiftLeft_eq] at he
        have hp := Nat.two_pow_pos ((Flo.expN (FloatKind.f64.nearest n) : Nat) - 1074 - min ((Flo.expN (FloatKind.f64.nearest n) : Nat) - 1074 : Int) ((0 : Nat) - 1074) : Int).toNat
        rcases Nat.eq_zero_or_pos (Flo.magN (FloatKind.f64.nearest n)) with q | q
        · exact q
        · have := Nat.mul_pos q hp; omega
      · rw [if_neg hs, Nat.shiftLeft_eq] at he
        have hp := Nat.two_pow_pos ((Flo.expN (FloatKind.f64.nearest n) : Nat) - 1074 - min ((Flo.expN (FloatKind.f64.nearest n) : Nat) - 1074 : Int) ((0 : Nat) - 1074) : Int).toNat
        rcases Nat.eq_zero_or_pos (Flo.magN (FloatKind.f64.nearest n)) with q | q
        · exact q
        · have := Nat.mul_pos q hp; omega
    rw [hm, Nat.zero_mul] at h1
    have := Nat.two_pow_pos (1023 + 51)
    omega
  have na : a ≠ 0 → oa ≠ .eq := fun h e => nz a h ha (by rw [ea, e])
  have nb : b ≠ 0 → ob ≠ .eq := fun h e => nz b h hb (by rw [eb, e])
  have za : a = 0 → oa = .eq := fun h => by
    have : Flo.ordN (FloatKind.f64.nearest a) 0 = some .eq := by rw [h, z0]; decide
    rw [ea] at this; simpa using this
  have zb : b = 0 → ob = .eq := fun h => by
    have : Flo.ordN (FloatKind.f64.nearest b) 0 = some .eq := by rw [h, z0]; decide
    rw [eb] at this; simpa using this
  clear nz z0
  generalize FloatKind.f64.nearest a = A at *
  generalize FloatKind.f64.nearest b = B at *
  have run := fun r h => fn_run mixed 5 (Γ := OfF.Γ) (ann := OfF.ann) Tryz.func32 rfl Tryz.call32 ((OfF.atan2_form (fl' A) (fl' B) (fl' r)).mpr h)
  rw [f_neq, f_neq, f_eql, f_eql, f_geq, f_lss, isT_b, isF_b, isT_b, isF_b, isT_b, isF_b, isT_b, isF_b, isT_b, isF_b, isT_b, isF_b, sa, sb, ea, eb] at run
  have c66 := Tryz.call66
  have c52 := Tryz.call52
  have c67 := Tryz.call67
  have c82 := Tryz.call82
  have c70 := Tryz.call70
  have c72 := Tryz.call72
  have hpre : ∀ {r : Nat}, _ → _ := fun {r} h => run r ⟨c52, fun _ => ⟨c66, fun _ => ⟨⟨rfl, trivial⟩, rfl, fun hw => (by cases hw), fun _ => ⟨c66, fun _ => ⟨⟨rfl, trivial⟩, rfl, rfl, rfl, fun hw => (by cases hw), fun _ => ⟨⟨rfl, trivial⟩, rfl, h⟩⟩⟩⟩⟩⟩
  clear run
  by_cases h1 : a = 0
  · have := za h1
    subst this
    by_cases h2 : (some ob == some Ordering.gt || some ob == some Ordering.eq) = true
    · rw [h2] at hpre
      have hs : ∃ z : Bool, AV.un .not (AV.bin .lss (AV.conv .i64 (u64 (B : Nat))) (AV.int 0)) = .lit (.bool z) := ⟨_, rfl⟩
      obtain ⟨z, hz⟩ := hs
      cases z
      · refine ⟨Flo.csgN 4614256656552045848 A, hpre ⟨fun _ => ⟨⟨rfl, trivial⟩, rfl, fun _ => ⟨c70, fun _ => ⟨_, bits_fn B, ⟨_, _, rfl⟩, ⟨rfl, trivial⟩, trivial, rfl, rfl, ?_, ?_, ?_⟩⟩, fun hw => (by cases hw)⟩, fun hw => (by cases hw)⟩, Flo.csg_bnd (Flo.le2_c (c := 4614256656552045848) (by decide))⟩
        · rw [hz]; rfl
        · rw [hz]; intro hw; cases hw
        · intro _; exact ⟨_, csg_fn _ _, .lit _, rfl⟩
      · refine ⟨Flo.csgN 0 A, hpre ⟨fun _ => ⟨⟨rfl, trivial⟩, rfl, fun _ => ⟨c70, fun _ => ⟨_, bits_fn B, ⟨_, _, rfl⟩, ⟨rfl, trivial⟩, trivial, rfl, rfl, ?_, ?_, ?_⟩⟩, fun hw => (by cases hw)⟩, fun hw => (by cases hw)⟩, Flo.csg_bnd (Flo.le2_c (c := 0) (by decide))⟩
        · rw [hz]; rfl
        · intro _; exact ⟨_, csg_fn _ _, .lit _, rfl⟩
        · rw [hz]; intro hw; cases hw
    · have h2' : (some ob == some Ordering.gt || some ob == some Ordering.eq) = false := by simpa using h2
      rw [h2'] at hpre
      exact ⟨Flo.csgN 4614256656552045848 A, hpre ⟨fun _ => ⟨⟨rfl, trivial⟩, rfl, fun hw => (by cases hw), fun _ => ⟨rfl, rfl, _, csg_fn _ _, .lit _, rfl⟩⟩, fun hw => (by cases hw)⟩, Flo.csg_bnd (Flo.le2_c (c := 4614256656552045848) (by decide))⟩
  · have hA : (some oa == some Ordering.eq) = false := by have := na h1; cases oa <;> first | rfl | exact absurd rfl this
    rw [hA] at hpre
    by_cases h2 : b = 0
    · have := zb h2
      subst this
      exact ⟨Flo.csgN 4609753056924675352 A, hpre ⟨fun hw => (by cases hw), fun _ => ⟨⟨rfl, trivial⟩, rfl, fun _ => ⟨_, csg_fn _ _, .lit _, rfl⟩, fun hw => (by cases hw)⟩⟩, Flo.csg_bnd (Flo.le2_c (c := 4609753056924675352) (by decide))⟩
    · have hB : (some ob == some Ordering.eq) = false := by have := nb h2; cases ob <;> first | rfl | exact absurd rfl this
      rw [hB] at hpre
      obtain ⟨d, ed, ld, -⟩ := Flo.div_bnd la (gb h2) (Flo.le2_mono lb (by omega)) (by omega) (by omega) (by omega)
      obtain ⟨q, eq', lq⟩ := atan_fn (Flo.le2_mono ld (by omega : 21 + 1023 + 1023 - 1023 ≤ 1050))
      replace ed := Flo.divN_eq ed
      have ed' : AV.bin .quo (fl' A) (fl' B) = fl' d := by simp [ed]
      have edk : AV.binOk .quo (fl' A) (fl' B) := by simp [ed]
      rw [ed'] at hpre
      have hfin : ∃ r, le2 r 1058 ∧ (((some ob == some Ordering.lt) = true → AV.binOk .leq (fl' q) (AV.lit (.float .f64 0)) ∧ AV.isBool (AV.bin .leq (fl' q) (AV.lit (.float .f64 0))) ∧ (isT (AV.bin .leq (fl' q) (AV.lit (.float .f64 0))) → AV.binOk .add (fl' q) (AV.lit (.float .f64 4614256656552045848)) ∧ AV.flat (AV.bin .add (fl' q) (AV.lit (.float .f64 4614256656552045848))) ∧ fSame (AV.bin .add (fl' q) (AV.lit (.float .f64 4614256656552045848))) (fl' r)) ∧ (isF (AV.bin .leq (fl' q) (AV.lit (.float .f64 0))) → AV.binOk .sub (fl' q) (AV.lit (.float .f64 4614256656552045848)) ∧ AV.flat (AV.bin .sub (fl' q) (AV.lit (.float .f64 4614256656552045848))) ∧ fSame (AV.bin .sub (fl' q) (AV.lit (.float .f64 4614256656552045848))) (fl' r))) ∧ ((some ob == some Ordering.lt) = false → AV.flat (fl' q) ∧ fSame (fl' q) (fl' r))) := by
        by_cases h3 : (some ob == some Ordering.lt) = true
        · rw [h3, f_leq, isT_b, isF_b]
          by_cases h4 : (Flo.ordN q 0 == some Ordering.lt || Flo.ordN q 0 == some Ordering.eq) = true
          · rw [h4]
            obtain ⟨r, er, lr, -⟩ := Flo.add_bnd (q := 1056) lq (Flo.le2_c (c := 4614256656552045848) (by decide)) (by omega)
            replace er := Flo.addN_eq er
            exact ⟨r, Flo.le2_mono lr (by omega), fun _ => ⟨⟨rfl, trivial⟩, rfl, fun _ => ⟨by simp [er], .lit _, by simp [er]⟩, fun hw => (by cases hw)⟩, fun hw => (by cases hw)⟩
          · have h4' : (Flo.ordN q 0 == some Ordering.lt || Flo.ordN q 0 == some Ordering.eq) = false := by simpa using h4
            rw [h4']
            obtain ⟨r, er, lr, -⟩ := Flo.sub_bnd (q := 1056) lq (Flo.le2_c (c := 4614256656552045848) (by decide)) (by omega)
            replace er := Flo.subN_eq er
            exact ⟨r, Flo.le2_mono lr (by omega), fun _ => ⟨⟨rfl, trivial⟩, rfl, fun hw => (by cases hw), fun _ => ⟨by simp [er], .lit _, by simp [er]⟩⟩, fun hw => (by cases hw)⟩
        · have h3' : (some ob == some Ordering.lt) = false := by simpa using h3
          rw [h3']
          exact ⟨q, Flo.le2_mono lq (by omega), fun hw => (by cases hw), fun _ => ⟨.lit _, rfl⟩⟩
      obtain ⟨r, lr, hr⟩ := hfin
      refine ⟨r, hpre ⟨fun hw => (by cases hw), fun _ => ⟨⟨rfl, trivial⟩, rfl, fun hw => (by cases hw), fun _ => ⟨c67, fun _ => ⟨c82, fun _ => ⟨_, bits_fn B, ⟨rfl, trivial⟩, ?_⟩⟩⟩⟩⟩, lr⟩
      rw [abs_lit]
      refine ⟨_, frombits_fn _, ⟨rfl, trivial⟩, ?_⟩
      rw [Int.toNat_natCast, f_gtr, isT_b, isF_b, xb]
      refine ⟨rfl, fun hw => (by cases hw), fun _ => ⟨c67, fun _ => ⟨c82, fun _ => ⟨_, bits_fn A, ⟨rfl, trivial⟩, ?_⟩⟩⟩⟩
      rw [abs_lit]
      refine ⟨_, frombits_fn _, ⟨rfl, trivial⟩, ?_⟩
      rw [Int.toNat_natCast, f_gtr, isT_b, isF_b, xa]
      refine ⟨rfl, fun hw => (by cases hw), fun _ => ⟨edk, c72, fun _ => ⟨_, eq', ⟨rfl, trivial⟩, rfl, hr⟩⟩⟩
end Go.Proofs.YtacfofpbbempaaaGreatDoor
/- angle.Of. -/
namespace Go.Proofs.YtacfofpbbempaaaGreatDoor
open Go.RowKit
open Flo (le2 ge2 negN)
set_option linter.unusedVariables false
set_option linter.unusedSimpArgs false
set_option maxRecDepth 100000
def cosV (h : Int) : Int := sinV (h % 4096 + 1024)
theorem sin_bd (h : Int) : -16384 ≤ sinV h ∧ sinV h ≤ 16384 := by
  obtain ⟨_, a, b⟩ := sin_ok h
  exact ⟨a, b⟩
theorem unit_fn (h : Int) (h1 : -9223372036854775808 ≤ h) (h2 : h ≤ 9223372036854775807) : Fn Tryz.prog 33 [.int h] (.agg [.sc, .sc]) (.agg [.int (sinV h), .int (cosV h)]) := by
  refine fn_run mixed 3 (Γ := OfF.Γ) (ann := OfF.ann) Tryz.func33 rfl Tryz.call33 ((OfF.unit_form _ _).mpr ?_)
  exact ⟨_, sin_fn h h1 h2, _, cos_fn h h1 h2, rfl, rfl, .lit _, .lit _, rfl⟩
theorem mul_bd {s X : Int} (h1 : -16384 ≤ s ∧ s ≤ 16384) (h2 : -2000000 ≤ X ∧ X ≤ 2000000) : -100000000000 ≤ s * X ∧ s * X ≤ 100000000000 := by
  rcases Int.le_total 0 X with h | h
  · have p1 := Int.mul_le_mul_of_nonneg_right h1.2 h
    have p2 := Int.mul_le_mul_of_nonneg_right h1.1 h
    omega
  · have p1 := Int.mul_le_mul_of_nonpos_right h1.2 h
    have p2 := Int.mul_le_mul_of_nonpos_right h1.1 h
    omega
theorem cross_fn (a b c d : Int) (h1 : -100000000000 ≤ b * c ∧ b * c ≤ 100000000000) (h2 : -100000000000 ≤ a * d ∧ a * d ≤ 100000000000) : Fn Tryz.prog 34 [.agg [.int a, .int b], .agg [.int c, .int d]] .sc (.int (b * c - a * d)) := by
  refine fn_run mixed 3 (Γ := OfF.Γ) (ann := OfF.ann) Tryz.func34 rfl Tryz.call34 ((OfF.cross_form _ _ _).mpr ?_)
  refine ⟨by simp, by simp, ⟨rfl, trivial⟩, ⟨rfl, trivial⟩, ⟨rfl, trivial⟩, .lit _, ?_⟩
  show AV.bin .sub (AV.bin .mul (.int b) (.int c)) (AV.bin .mul (.int a) (.int d)) = _
  have w1 : IntKind.i64.wrap (b * c) = b * c := wrap64 (by omega) (by omega)
  have w2 : IntKind.i64.wrap (a * d) = a * d := wrap64 (by omega) (by omega)
  rw [av_mul, av_mul, av_subt, w1, w2, wrap64 (by omega) (by omega)]
def crA (X Y h : Int) : Int := cosV h * X - sinV h * Y
def crB (X Y h : Int) : Int := Y * sinV (h + 1) - X * cosV (h + 1)
def dotV (X Y h : Int) : Int := sinV h * X + cosV h * Y
def ofT (X Y h : Int) : Option Int := if 0 ≤ crA X Y h ∧ 0 < crB X Y h ∧ 0 < dotV X Y h then some (if crA X Y h ≤ crB X Y h then h else (h + 1) % 4096) else none
def hK (g : Int) (k : Nat) : Int := if (k : Int) % 2 = 1 then (g - k) % 4096 else (g + k) % 4096
def ofR (X Y g : Int) : Nat → Nat → Int
  | 0, _ => 0
  | n + 1, k => (ofT X Y (hK g k)).getD (ofR X Y g n (k + 1))
theorem hK_bd (g : Int) (k : Nat) : 0 ≤ hK g k ∧ hK g k < 4096 := by unfold hK; split <;> omega
theorem ofR_bd (X Y g : Int) (n k : Nat) : 0 ≤ ofR X Y g n k ∧ ofR X Y g n k < 4096 := by
  induction n generalizing k with
  | zero => exact ⟨Int.le_refl _, by show (0 : Int) < 4096; decide⟩
  | succ n ih =>
    have := hK_bd g k
    unfold ofR ofT
    generalize hK g k = h at *
    split
    · simp only [Option.getD_some]; split <;> omega
    · exact ih _
def ofE (X Y : Int) : Int := if X < -2000000 ∨ X > 2000000 ∨ Y < -2000000 ∨ Y > 2000000 then 4 else if X = 0 ∧ Y = 0 then 10 else 0
theorem of_fn (X Y : Int) : ∃ h, Fn Tryz.prog 10 [.agg [.int X, .int Y]] (.tup [.sc, .sc]) (.tup [.int h, .int (ofE X Y)]) ∧ 0 ≤ h ∧ h < 4096 := by
  have run := fun h G => fn_run mixed 5 (Γ := OfF.Γ) (ann := OfF.ann) Tryz.func10 rfl Tryz.call10 ((OfF.of_form (.agg [.int X, .int Y]) (.tup [.int h, .int (ofE X Y)])).mpr G)
  have eL : ∀ a b : Int, isT (AV.bin .lss (.int a) (.int b)) ↔ a < b := fun a b => by simp
  have eLf : ∀ a b : Int, isF (AV.bin .lss (.int a) (.int b)) ↔ ¬ a < b := fun a b => by simp
  have eG : ∀ a b : Int, isT (AV.bin .gtr (.int a) (.int b)) ↔ b < a := fun a b => by simp
  have eGf : ∀ a b : Int, isF (AV.bin .gtr (.int a) (.int b)) ↔ ¬ b < a := fun a b => by simp
  have eE : ∀ a b : Int, isT (AV.bin .eql (.int a) (.int b)) ↔ a = b := fun a b => by simp
  have eEf : ∀ a b : Int, isF (AV.bin .eql (.int a) (.int b)) ↔ ¬ a = b := fun a b => by simp
  have c0 : AV.cel (.agg [.int X, .int Y]) 0 = .int X := rfl
  have c1 : AV.cel (.agg [.int X, .int Y]) 1 = .int Y := rfl
  rw [c0, c1] at run
  by_cases hE : ofE X Y = 4
  · refine ⟨0, run 0 ?_, by decide, by decide⟩
    rw [hE]
    have hx : X < -2000000 ∨ X > 2000000 ∨ Y < -2000000 ∨ Y > 2000000 := by
      unfold ofE at hE
      split at hE
      · assumption
      · split at hE <;> cases hE
    clear run
    refine ⟨by simp, ⟨rfl, trivial⟩, rfl, fun q => ⟨rfl, q, .lit _, .lit _, rfl⟩, fun q1 => ⟨⟨rfl, trivial⟩, rfl, q1, rfl, fun q => ⟨rfl, q, .lit _, .lit _, rfl⟩, fun q2 => ⟨⟨rfl, trivial⟩, rfl, q2, rfl, fun q => ⟨rfl, q, .lit _, .lit _, rfl⟩, fun q3 => ⟨⟨rfl, trivial⟩, rfl, q3, rfl, fun q => ⟨.lit _, .lit _, rfl⟩, fun q4 => ?_⟩⟩⟩⟩
    exfalso
    rw [eLf] at q1 q3
    rw [eGf] at q2 q4
    omega
  have hb : -2000000 ≤ X ∧ X ≤ 2000000 ∧ -2000000 ≤ Y ∧ Y ≤ 2000000 := by
    unfold ofE at hE
    split at hE
    · exact absurd rfl hE
    · omega
  by_cases h0 : X = 0 ∧ Y = 0
  · refine ⟨0, run 0 ?_, by decide, by decide⟩
    obtain ⟨rfl, rfl⟩ := h0
    have : ofE 0 0 = 10 := by decide
    rw [this]
    clear run
    refine ⟨by simp, ⟨rfl, trivial⟩, rfl, fun q => ?_, fun q1 => ⟨⟨rfl, trivial⟩, rfl, q1, rfl, fun q => ?_, fun q2 => ⟨⟨rfl, trivial⟩, rfl, q2, rfl, fun q => ?_, fun q3 => ⟨⟨rfl, trivial⟩, rfl, q3, rfl, fun q => ?_, fun q4 => ⟨⟨rfl, trivial⟩, rfl, fun q5 => ⟨⟨rfl, trivial⟩, rfl, q5, rfl, fun q6 => ⟨.lit _, .lit _, rfl⟩, fun q6 => ?_⟩, fun q5 => ?_⟩⟩⟩⟩⟩ <;> exfalso
    · rw [eL] at q; omega
    · rw [eG] at q; omega
    · rw [eL] at q; omega
    · rw [eG] at q; omega
    · rw [eEf] at q6; omega
    · rw [eEf] at q5; omega
  have hE0 : ofE X Y = 0 := by unfold ofE; rw [if_neg (by omega), if_neg h0]
  rw [hE0] at run ⊢
  obtain ⟨r, hr, lr⟩ := at2_fn (a := X) (b := Y) (by omega) (by omega) h0
  obtain ⟨m, em, lm, -, -⟩ := Flo.mul_bnd lr (Flo.le2_c (c := 4656722014701092864) (q := 1034) (by decide)) (by omega) (by omega) (by omega)
  obtain ⟨d, ed, ld, -⟩ := Flo.div_bnd (p := 1069) lm (Flo.ge2_c (c := 4614256656552045848) (q := 1024) (by decide)) (Flo.le2_c (by decide)) (by omega) (by omega) (by omega)
  replace em := Flo.mulN_eq em
  replace ed := Flo.divN_eq ed
  have lf := Flo.floor_bnd (Flo.le2_mono ld (by omega : 1069 + 1023 - 1024 ≤ 1076))
  have hf := floor_fn (Flo.le2_mono ld (by omega : 1069 + 1023 - 1024 ≤ 1076))
  obtain ⟨g, eg, g1, g2⟩ := Flo.toInt_bnd (Flo.le2_mono lf (by omega : 1076 ≤ 1085))
  generalize Flo.floorN d = fl0 at *
  refine ⟨ofR X Y g 4096 0, run _ ?_, ofR_bd ..⟩
  have e62 : (2 : Int) ^ 62 = 4611686018427387904 := by decide
  rw [e62] at g1 g2
  have k1 : AV.binOk .mul (fl' r) (AV.lit (.float .f64 4656722014701092864)) := by simp [em]
  have q1' : AV.bin .mul (fl' r) (AV.lit (.float .f64 4656722014701092864)) = fl' m := by simp [em]
  have k2 : AV.binOk .quo (fl' m) (AV.lit (.float .f64 4614256656552045848)) := by simp [ed]
  have q2' : AV.bin .quo (fl' m) (AV.lit (.float .f64 4614256656552045848)) = fl' d := by simp [ed]
  have k3 : AV.f2iOk .f64 .i64 (fl' fl0) := by simp [eg]
  have q3' : AV.f2i .f64 .i64 (fl' fl0) = .int g := by simp [eg]
  have hr' : Fn Tryz.prog 32 [AV.i2f .f64 (.int X), AV.i2f .f64 (.int Y)] .sc (fl' r) := hr
  clear run em ed ld lm lr lf eg hr
  refine ⟨by simp, ⟨rfl, trivial⟩, rfl, fun q => ?_, fun q1 => ⟨⟨rfl, trivial⟩, rfl, q1, rfl, fun q => ?_, fun q2 => ⟨⟨rfl, trivial⟩, rfl, q2, rfl, fun q => ?_, fun q3 => ⟨⟨rfl, trivial⟩, rfl, q3, rfl, fun q => ?_, fun q4 => ⟨⟨rfl, trivial⟩, rfl, fun q5 => ⟨⟨rfl, trivial⟩, rfl, q5, rfl, fun q6 => ?_, fun q6 => ⟨⟨_, _, rfl⟩, ⟨_, _, rfl⟩, _, hr', ?_⟩⟩, fun q5 => ⟨rfl, q5, ⟨_, _, rfl⟩, ⟨_, _, rfl⟩, _, hr', ?_⟩⟩⟩⟩⟩⟩
  · exfalso; rw [eL] at q; omega
  · exfalso; rw [eG] at q; omega
  · exfalso; rw [eL] at q; omega
  · exfalso; rw [eG] at q; omega
  · exfalso; rw [eE] at q5 q6; omega
  all_goals
    refine ⟨k1, ?_⟩
    rw [q1']
    refine ⟨k2, ?_⟩
    rw [q2']
    refine ⟨_, hf, k3, ?_⟩
    rw [q3']
    generalize hV : ofR X Y g 4096 0 = V
    refine loop_nat (σ := Unit) 4096 (fun k _ => [.int (k : Nat)]) (fun k _ => ofR X Y g (4096 - k) k = V) () rfl hV ?_ ?_
    · intro k s K hk hG hK'
      obtain ⟨j, hj⟩ : ∃ j, 4096 - k = j + 1 := ⟨4095 - k, by omega⟩
      have hj' : 4096 - (k + 1) = j := by omega
      rw [hj] at hG
      have hG : (ofT X Y (hK g k)).getD (ofR X Y g j (k + 1)) = V := hG
      have hnext : AV.bin .add (.int (k : Nat)) (AV.int 1) = .int ((k + 1 : Nat) : Int) := by rw [av_add, wrap64 (by omega) (by omega)]; rfl
      have hrem : AV.bin .rem (.int (k : Nat)) (AV.int 2) = .int ((k : Int) % 2) := by
        rw [av_rem, Int.tmod_eq_emod_of_nonneg (by omega)]
      have hadd : AV.bin .add (.int g) (.int (k : Nat)) = .int (g + k) := by rw [av_add, wrap64 (by omega) (by omega)]
      have hsub : AV.bin .sub (.int g) (.int (k : Nat)) = .int (g - k) := by rw [av_subt, wrap64 (by omega) (by omega)]
      have hKb := hK_bd g k
      simp only [List.getD_cons_zero]
      rw [hadd, hsub, hrem, hnext]
      have step : (ofT X Y (hK g k) = none) → K [.int ((k + 1 : Nat) : Int)] := fun hn => hK' _ () rfl (by rw [hj']; rw [hn] at hG; exact hG)
      have hkeep : ∀ z, ofT X Y (hK g k) = some z → V = z := fun z hz => by rw [hz] at hG; exact hG.symm
      have hodd : (k : Int) % 2 = 1 → (g - k) % 4096 = hK g k := fun h => by unfold hK; rw [if_pos h]
      have heven : ¬ (k : Int) % 2 = 1 → (g + k) % 4096 = hK g k := fun h => by unfold hK; rw [if_neg h]
      refine ⟨⟨rfl, trivial⟩, rfl, fun _ => ⟨⟨rfl, trivial⟩, _, norm_fn (g + k) (by omega) (by omega), ⟨rfl, (by decide : (2 : Int) ≠ 0)⟩, ⟨rfl, trivial⟩, rfl, fun qo => ⟨⟨rfl, trivial⟩, _, norm_fn (g - k) (by omega) (by omega), ?_⟩, fun qo => ?_⟩, fun q => ?_⟩
      rotate_right
      · exfalso; rw [eLf] at q; omega
      · rw [eE] at qo
        rw [hodd qo]
        generalize hK g k = h at *
        obtain ⟨h0', h1'⟩ := hKb
        have hs1 := sin_bd h
        have hc1 : -16384 ≤ cosV h ∧ cosV h ≤ 16384 := sin_bd _
        have hs2 := sin_bd (h + 1)
        have hc2 : -16384 ≤ cosV (h + 1) ∧ cosV (h + 1) ≤ 16384 := sin_bd _
        have hX : -2000000 ≤ X ∧ X ≤ 2000000 := ⟨hb.1, hb.2.1⟩
        have hY : -2000000 ≤ Y ∧ Y ≤ 2000000 := hb.2.2
        have m1 := mul_bd hc1 hX
        have m2 := mul_bd hs1 hY
        have m3 := mul_bd hs2 hY
        have m4 := mul_bd hc2 hX
        have m5 := mul_bd hs1 hX
        have m6 := mul_bd hc1 hY
        rw [Int.mul_comm] at m3 m4
        have hadd1 : AV.bin .add (.int h) (AV.int 1) = .int (h + 1) := by rw [av_add, wrap64 (by omega) (by omega)]
        have hdot : AV.bin .add (AV.bin .mul (.int (sinV h)) (.int X)) (AV.bin .mul (.int (cosV h)) (.int Y)) = .int (dotV X Y h) := by
          have w1 : IntKind.i64.wrap (sinV h * X) = sinV h * X := wrap64 (by omega) (by omega)
          have w2 : IntKind.i64.wrap (cosV h * Y) = cosV h * Y := wrap64 (by omega) (by omega)
          rw [av_mul, av_mul, av_add, w1, w2, wrap64 (by omega) (by omega)]; rfl
        have hca : Fn Tryz.prog 34 [.agg [.int (sinV h), .int (cosV h)], .agg [.int X, .int Y]] .sc (.int (crA X Y h)) := cross_fn _ _ _ _ m1 m2
        have hcb : Fn Tryz.prog 34 [.agg [.int X, .int Y], .agg [.int (sinV (h + 1)), .int (cosV (h + 1))]] .sc (.int (crB X Y h)) := cross_fn _ _ _ _ m3 m4
        have hu1 := unit_fn h (by omega) (by omega)
        have hu2 := unit_fn (h + 1) (by omega) (by omega)
        have hn1 := norm_fn (h + 1) (by omega) (by omega)
        have hT : ofT X Y h = if 0 ≤ crA X Y h ∧ 0 < crB X Y h ∧ 0 < dotV X Y h then some (if crA X Y h ≤ crB X Y h then h else (h + 1) % 4096) else none := rfl
        clear m1 m2 m3 m4 m5 m6 hG
        rw [hadd1]
        generalize crA X Y h = a at *
        generalize crB X Y h = b at *
        generalize dotV X Y h = dt at *
        generalize sinV h = s1 at *
        generalize cosV h = c1v at *
        generalize sinV (h + 1) = s2 at *
        generalize cosV (h + 1) = c2v at *
        have hd' : ∀ z, z = AV.bin .add (AV.bin .mul (.int s1) (.int X)) (AV.bin .mul (.int c1v) (.int Y)) → z = .int dt := fun z hz => hz.trans hdot
        refine ⟨_, hu1, ⟨rfl, trivial⟩, _, hu2, _, hca, _, hcb, ⟨rfl, trivial⟩, rfl, fun p1 => ⟨⟨rfl, trivial⟩, rfl, p1, rfl, fun p2 => ⟨⟨rfl, trivial⟩, ⟨rfl, trivial⟩, ⟨rfl, trivial⟩, ⟨rfl, trivial⟩, rfl, p2, rfl, fun p3 => ⟨⟨rfl, trivial⟩, rfl, fun p4 => ⟨.lit _, .lit _, ?_⟩, fun p4 => ⟨⟨rfl, trivial⟩, _, hn1, .lit _, .lit _, ?_⟩⟩, fun p3 => ⟨⟨rfl, trivial⟩, step ?_⟩⟩, fun p2 => ⟨rfl, p2, ⟨rfl, trivial⟩, step ?_⟩⟩, fun p1 => ⟨rfl, p1, ⟨rfl, trivial⟩, step ?_⟩⟩
        · have w1 : 0 ≤ a := by simpa using p1
          have w2 : 0 < b := by simpa using p2
          have w3 : 0 < dt := by
            have := (show isT (AV.bin .gtr (AV.bin .add (AV.bin .mul (.int s1) (.int X)) (AV.bin .mul (.int c1v) (.int Y))) (AV.int 0)) from p3)
            rw [hdot, eG] at this; exact this
          have w4 : a ≤ b := by simpa using p4
          rw [hkeep h (by rw [hT, if_pos ⟨w1, w2, w3⟩, if_pos w4])]; rfl
        · have w1 : 0 ≤ a := by simpa using p1
          have w2 : 0 < b := by simpa using p2
          have w3 : 0 < dt := by
            have := (show isT (AV.bin .gtr (AV.bin .add (AV.bin .mul (.int s1) (.int X)) (AV.bin .mul (.int c1v) (.int Y))) (AV.int 0)) from p3)
            rw [hdot, eG] at this; exact this
          have w4 : ¬ a ≤ b := by simpa using p4
          rw [hkeep ((h + 1) % 4096) (by rw [hT, if_pos ⟨w1, w2, w3⟩, if_neg w4])]; rfl
        · have w3 : ¬ 0 < dt := by
            have := (show isF (AV.bin .gtr (AV.bin .add (AV.bin .mul (.int s1) (.int X)) (AV.bin .mul (.int c1v) (.int Y))) (AV.int 0)) from p3)
            rw [hdot, eGf] at this; exact this
          rw [hT, if_neg (fun w => w3 w.2.2)]
        · have w2 : ¬ 0 < b := by simpa using p2
          rw [hT, if_neg (fun w => w2 w.2.1)]
        · have w1 : ¬ 0 ≤ a := by simpa using p1
          rw [hT, if_neg (fun w => w1 w.1)]
      · rw [eEf] at qo
        rw [heven qo]
        generalize hK g k = h at *
        obtain ⟨h0', h1'⟩ := hKb
        have hs1 := sin_bd h
        have hc1 : -16384 ≤ cosV h ∧ cosV h ≤ 16384 := sin_bd _
        have hs2 := sin_bd (h + 1)
        have hc2 : -16384 ≤ cosV (h + 1) ∧ cosV (h + 1) ≤ 16384 := sin_bd _
        have hX : -2000000 ≤ X ∧ X ≤ 2000000 := ⟨hb.1, hb.2.1⟩
        have hY : -2000000 ≤ Y ∧ Y ≤ 2000000 := hb.2.2
        have m1 := mul_bd hc1 hX
        have m2 := mul_bd hs1 hY
        have m3 := mul_bd hs2 hY
        have m4 := mul_bd hc2 hX
        have m5 := mul_bd hs1 hX
        have m6 := mul_bd hc1 hY
        rw [Int.mul_comm] at m3 m4
        have hadd1 : AV.bin .add (.int h) (AV.int 1) = .int (h + 1) := by rw [av_add, wrap64 (by omega) (by omega)]
        have hdot : AV.bin .add (AV.bin .mul (.int (sinV h)) (.int X)) (AV.bin .mul (.int (cosV h)) (.int Y)) = .int (dotV X Y h) := by
          have w1 : IntKind.i64.wrap (sinV h * X) = sinV h * X := wrap64 (by omega) (by omega)
          have w2 : IntKind.i64.wrap (cosV h * Y) = cosV h * Y := wrap64 (by omega) (by omega)
          rw [av_mul, av_mul, av_add, w1, w2, wrap64 (by omega) (by omega)]; rfl
        have hca : Fn Tryz.prog 34 [.agg [.int (sinV h), .int (cosV h)], .agg [.int X, .int Y]] .sc (.int (crA X Y h)) := cross_fn _ _ _ _ m1 m2
        have hcb : Fn Tryz.prog 34 [.agg [.int X, .int Y], .agg [.int (sinV (h + 1)), .int (cosV (h + 1))]] .sc (.int (crB X Y h)) := cross_fn _ _ _ _ m3 m4
        have hu1 := unit_fn h (by omega) (by omega)
        have hu2 := unit_fn (h + 1) (by omega) (by omega)
        have hn1 := norm_fn (h + 1) (by omega) (by omega)
        have hT : ofT X Y h = if 0 ≤ crA X Y h ∧ 0 < crB X Y h ∧ 0 < dotV X Y h then some (if crA X Y h ≤ crB X Y h then h else (h + 1) % 4096) else none := rfl
        clear m1 m2 m3 m4 m5 m6 hG
        rw [hadd1]
        generalize crA X Y h = a at *
        generalize crB X Y h = b at *
        generalize dotV X Y h = dt at *
        generalize sinV h = s1 at *
        generalize cosV h = c1v at *
        generalize sinV (h + 1) = s2 at *
        generalize cosV (h + 1) = c2v at *
        have hd' : ∀ z, z = AV.bin .add (AV.bin .mul (.int s1) (.int X)) (AV.bin .mul (.int c1v) (.int Y)) → z = .int dt := fun z hz => hz.trans hdot
        refine ⟨_, hu1, ⟨rfl, trivial⟩, _, hu2, _, hca, _, hcb, ⟨rfl, trivial⟩, rfl, fun p1 => ⟨⟨rfl, trivial⟩, rfl, p1, rfl, fun p2 => ⟨⟨rfl, trivial⟩, ⟨rfl, trivial⟩, ⟨rfl, trivial⟩, ⟨rfl, trivial⟩, rfl, p2, rfl, fun p3 => ⟨⟨rfl, trivial⟩, rfl, fun p4 => ⟨.lit _, .lit _, ?_⟩, fun p4 => ⟨⟨rfl, trivial⟩, _, hn1, .lit _, .lit _, ?_⟩⟩, fun p3 => ⟨⟨rfl, trivial⟩, step ?_⟩⟩, fun p2 => ⟨rfl, p2, ⟨rfl, trivial⟩, step ?_⟩⟩, fun p1 => ⟨rfl, p1, ⟨rfl, trivial⟩, step ?_⟩⟩
        · have w1 : 0 ≤ a := by simpa using p1
          have w2 : 0 < b := by simpa using p2
          have w3 : 0 < dt := by
            have := (show isT (AV.bin .gtr (AV.bin .add (AV.bin .mul (.int s1) (.int X)) (AV.bin .mul (.int c1v) (.int Y))) (AV.int 0)) from p3)
            rw [hdot, eG] at this; exact this
          have w4 : a ≤ b := by simpa using p4
          rw [hkeep h (by rw [hT, if_pos ⟨w1, w2, w3⟩, if_pos w4])]; rfl
        · have w1 : 0 ≤ a := by simpa using p1
          have w2 : 0 < b := by simpa using p2
          have w3 : 0 < dt := by
            have := (show isT (AV.bin .gtr (AV.bin .add (AV.bin .mul (.int s1) (.int X)) (AV.bin .mul (.int c1v) (.int Y))) (AV.int 0)) from p3)
            rw [hdot, eG] at this; exact this
          have w4 : ¬ a ≤ b := by simpa using p4
          rw [hkeep ((h + 1) % 4096) (by rw [hT, if_pos ⟨w1, w2, w3⟩, if_neg w4])]; rfl
        · have w3 : ¬ 0 < dt := by
            have := (show isF (AV.bin .gtr (AV.bin .add (AV.bin .mul (.int s1) (.int X)) (AV.bin .mul (.int c1v) (.int Y))) (AV.int 0)) from p3)
            rw [hdot, eGf] at this; exact this
          rw [hT, if_neg (fun w => w3 w.2.2)]
        · have w2 : ¬ 0 < b := by simpa using p2
          rw [hT, if_neg (fun w => w2 w.2.1)]
        · have w1 : ¬ 0 ≤ a := by simpa using p1
          rw [hT, if_neg (fun w => w1 w.1)]
    · intro s K hG
      have hG : (0 : Int) = V := hG
      subst hG
      refine ⟨⟨rfl, trivial⟩, rfl, fun q => ?_, fun _ => ⟨.lit _, .lit _, rfl⟩⟩
      exfalso; simp only [List.getD_cons_zero] at q; rw [eL] at q; omega
/-- The angle of a vector. -/
noncomputable def angH (X Y : Int) : Int := Classical.choose (of_fn X Y)
theorem ang_fn (X Y : Int) : Fn Tryz.prog 10 [.agg [.int X, .int Y]] (.tup [.sc, .sc]) (.tup [.int (angH X Y), .int (ofE X Y)]) := (Classical.choose_spec (of_fn X Y)).1
theorem ang_bd (X Y : Int) : 0 ≤ angH X Y ∧ angH X Y < 4096 := (Classical.choose_spec (of_fn X Y)).2
end Go.Proofs.YtacfofpbbempaaaGreatDoor
/- resolve.Candidates and the law: what the run ends in. -/
namespace Go.Proofs.YtacfofpbbempaaaGreatDoor
open Go.RowKit
set_option linter.unusedVariables false
set_option maxRecDepth 100000
namespace RlF
--GAMMA
def Γ : FuncId → Option Ca := fun f =>
  if f = 6 ∨ f = 7 ∨ f = 21 ∨ f = 8 ∨ f = 24 ∨ f = 4 then some (.fn .sc)
  else if f = 10 ∨ f = 11 then some (.fn (.tup [.sc, .sc]))
  else if f = 9 then some (.fn (.tup [.sc, .sc]))
  else if f = 22 then some (.fn (.tup [.sc, .sc, .sc]))
  else some .inl
def ann : FuncId → Nat → LoopEx := fun f r =>
  if f = 5 ∧ r = 17 then ⟨[], [2881], [], [(2625, 0, 41, 4)]⟩
  else if f = 5 ∧ r < 400000 then ⟨[], [2881], [], []⟩
  else ⟨[], [], [], []⟩
--END GAMMA
theorem course_form (x0 x1 r : AV) : fnF Tryz.prog Γ ann 3 22 Tryz.f22 (Tryz.f22.body.getD .skip) (.nil) [x0, x1] (.tup [.sc, .sc, .sc]) r = (((AV.isAgg x1 6) ∧
((AV.isSl x0 6) ∧
(fLoop 449 [(AV.int 0)] fun ys449 again449 =>
  ((AV.binOk Go.BinOp.lss (ys449.getD 0 default) (AV.len x0)) ∧
  ((AV.isBool (AV.bin Go.BinOp.lss (ys449.getD 0 default) (AV.len x0))) ∧
  (((isT (AV.bin Go.BinOp.lss (ys449.getD 0 default) (AV.len x0))) →
    ((AV.isSl x0 6) ∧
    ((AV.inb x0 (ys449.getD 0 default)) ∧
    ((AV.isAgg (AV.atAgg x0 (ys449.getD 0 default) 0 6) 6) ∧
    ((AV.binOk Go.BinOp.gtr (AV.cel (AV.atAgg x0 (ys449.getD 0 default) 0 6) 0) (AV.cel x1 0)) ∧
    ((AV.isBool (AV.bin Go.BinOp.gtr (AV.cel (AV.atAgg x0 (ys449.getD 0 default) 0 6) 0) (AV.cel x1 0))) ∧
    (((isT (AV.bin Go.BinOp.gtr (AV.cel (AV.atAgg x0 (ys449.getD 0 default) 0 6) 0) (AV.cel x1 0))) →
      ((fEnt Tryz.prog 41) ∧
      (fAllV fun _ => ((AV.binOk Go.BinOp.sub (AV.cel (AV.atAgg x0 (ys449.getD 0 default) 0 6) 1) (AV.cel x1 1)) ∧
      ((AV.binOk Go.BinOp.sub (AV.cel (AV.atAgg x0 (ys449.getD 0 default) 0 6) 2) (AV.cel x1 2)) ∧
      ((AV.isOne (AV.bin Go.BinOp.sub (AV.cel (AV.atAgg x0 (ys449.getD 0 default) 0 6) 1) (AV.cel x1 1))) ∧
      ((AV.isOne (AV.bin Go.BinOp.sub (AV.cel (AV.atAgg x0 (ys449.getD 0 default) 0 6) 2) (AV.cel x1 2))) ∧
      (∃ r2689 : AV, ((Fn Tryz.prog 10 [(AV.agg [(AV.bin Go.BinOp.sub (AV.cel (AV.atAgg x0 (ys449.getD 0 default) 0 6) 1) (AV.cel x1 1)), (AV.bin Go.BinOp.sub (AV.cel (AV.atAgg x0 (ys449.getD 0 default) 0 6) 2) (AV.cel x1 2))])] (Sh.tup [Sh.sc, Sh.sc]) r2689) ∧
      (∃ r3457 : AV, ((Fn Tryz.prog 11 [(AV.agg [(AV.cel x1 1), (AV.cel x1 2)]), (AV.agg [(AV.cel (AV.atAgg x0 (ys449.getD 0 default) 0 6) 1), (AV.cel (AV.atAgg x0 (ys449.getD 0 default) 0 6) 2)])] (Sh.tup [Sh.sc, Sh.sc]) r3457) ∧
      ((AV.binOk Go.BinOp.sub (AV.cel (AV.atAgg x0 (ys449.getD 0 default) 0 6) 0) (AV.cel x1 0)) ∧
      ((AV.binOk Go.BinOp.quo (AV.prj r3457 0) (AV.bin Go.BinOp.sub (AV.cel (AV.atAgg x0 (ys449.getD 0 default) 0 6) 0) (AV.cel x1 0))) ∧
      ((AV.binOk Go.BinOp.eql (AV.prj r2689 1) (AV.int 0)) ∧
      ((AV.flat (AV.prj r2689 0)) ∧
      ((AV.flat (AV.bin Go.BinOp.quo (AV.prj r3457 0) (AV.bin Go.BinOp.sub (AV.cel (AV.atAgg x0 (ys449.getD 0 default) 0 6) 0) (AV.cel x1 0)))) ∧
      ((AV.flat (AV.bin Go.BinOp.eql (AV.prj r2689 1) (AV.int 0))) ∧
      (fSame (AV.tup [(AV.prj r2689 0), (AV.bin Go.BinOp.quo (AV.prj r3457 0) (AV.bin Go.BinOp.sub (AV.cel (AV.atAgg x0 (ys449.getD 0 default) 0 6) 0) (AV.cel x1 0))), (AV.bin Go.BinOp.eql (AV.prj r2689 1) (AV.int 0))]) r)))))))))))))))))) ∧
    ((isF (AV.bin Go.BinOp.gtr (AV.cel (AV.atAgg x0 (ys449.getD 0 default) 0 6) 0) (AV.cel x1 0))) →
      ((AV.binOk Go.BinOp.add (ys449.getD 0 default) (AV.int 1)) ∧
      (again449 [(AV.bin Go.BinOp.add (ys449.getD 0 default) (AV.int 1))])))))))))) ∧
  ((isF (AV.bin Go.BinOp.lss (ys449.getD 0 default) (AV.len x0))) →
    ((AV.flat (AV.int 0)) ∧
    ((AV.flat (AV.int 0)) ∧
    ((AV.flat (AV.bool false)) ∧
    (fSame (AV.tup [(AV.int 0), (AV.int 0), (AV.bool false)]) r)))))))))))) := by kernel_rfl
theorem cand_form (x0 x1 x2 x3 r : AV) : fnF Tryz.prog Γ ann 4 5 Tryz.f5 (Tryz.f5.body.getD .skip) (.nil) [x0, x1, x2, x3] (.tup [.row 41 4 true, .sc]) r = (((AV.isOne x0) ∧
((AV.isAgg x3 7) ∧
(∃ r321 : AV, ((Fn Tryz.prog 6 [x1] Sh.sc r321) ∧
((AV.binOk Go.BinOp.neq r321 (AV.int 0)) ∧
((AV.isBool (AV.bin Go.BinOp.neq r321 (AV.int 0))) ∧
(((isT (AV.bin Go.BinOp.neq r321 (AV.int 0))) →
  ((AV.flatS (AV.mk 4 [])) ∧
  ((AV.flat r321) ∧
  (fSame (AV.tup [(AV.mk 4 []), r321]) r)))) ∧
((isF (AV.bin Go.BinOp.neq r321 (AV.int 0))) →
  (∃ r641 : AV, ((Fn Tryz.prog 7 [(AV.agg [(AV.cel x3 0), (AV.cel x3 1), (AV.cel x3 2), (AV.cel x3 3), (AV.cel x3 4), (AV.cel x3 5), (AV.cel x3 6)])] Sh.sc r641) ∧
  ((AV.binOk Go.BinOp.neq r641 (AV.int 0)) ∧
  ((AV.isBool (AV.bin Go.BinOp.neq r641 (AV.int 0))) ∧
  (((isT (AV.bin Go.BinOp.neq r641 (AV.int 0))) →
    ((AV.flatS (AV.mk 4 [])) ∧
    ((AV.flat r641) ∧
    (fSame (AV.tup [(AV.mk 4 []), r641]) r)))) ∧
  ((isF (AV.bin Go.BinOp.neq r641 (AV.int 0))) →
    (∃ r1025 : AV, ((Fn Tryz.prog 9 [x1, x2] (Sh.tup [Sh.sc, Sh.sc]) r1025) ∧
    ((AV.isAgg (AV.prj r1025 0) 6) ∧
    ((AV.binOk Go.BinOp.neq (AV.prj r1025 1) (AV.int 0)) ∧
    ((AV.isBool (AV.bin Go.BinOp.neq (AV.prj r1025 1) (AV.int 0))) ∧
    (((isT (AV.bin Go.BinOp.neq (AV.prj r1025 1) (AV.int 0))) →
      ((AV.flatS (AV.mk 4 [])) ∧
      ((AV.flat (AV.prj r1025 1)) ∧
      (fSame (AV.tup [(AV.mk 4 []), (AV.prj r1025 1)]) r)))) ∧
    ((isF (AV.bin Go.BinOp.neq (AV.prj r1025 1) (AV.int 0))) →
      ((AV.isOne x0) ∧
      (∃ r1729 : AV, ((Fn Tryz.prog 21 [(AV.agg [x0, (AV.int 0), (AV.int 0), (AV.lit (Value.string ⟨#[]⟩))])] Sh.sc r1729) ∧
      ((AV.binOk Go.BinOp.neq r1729 (AV.int 0)) ∧
      ((AV.isBool (AV.bin Go.BinOp.neq r1729 (AV.int 0))) ∧
      (((isT (AV.bin Go.BinOp.neq r1729 (AV.int 0))) →
        ((AV.flatS (AV.mk 4 [])) ∧
        ((AV.flat r1729) ∧
        (fSame (AV.tup [(AV.mk 4 []), r1729]) r)))) ∧
      ((isF (AV.bin Go.BinOp.neq r1729 (AV.int 0))) →
        (∃ r2113 : AV, ((Fn Tryz.prog 22 [x1, (AV.agg [(AV.cel (AV.prj r1025 0) 0), (AV.cel (AV.prj r1025 0) 1), (AV.cel (AV.prj r1025 0) 2), (AV.cel (AV.prj r1025 0) 3), (AV.cel (AV.prj r1025 0) 4), (AV.cel (AV.prj r1025 0) 5)])] (Sh.tup [Sh.sc, Sh.sc, Sh.sc]) r2113) ∧
        (fLoop 2945 [(AV.int 1), (AV.mk 4 [])] fun ys2945 again2945 =>
          ((AV.binOk Go.BinOp.leq (ys2945.getD 0 default) (AV.int 3)) ∧
          ((AV.isBool (AV.bin Go.BinOp.leq (ys2945.getD 0 default) (AV.int 3))) ∧
          (((isT (AV.bin Go.BinOp.leq (ys2945.getD 0 default) (AV.int 3))) →
            ((AV.binOk Go.BinOp.mul (AV.int 1000) (ys2945.getD 0 default)) ∧
            ((AV.binOk Go.BinOp.add (AV.cel (AV.prj r1025 0) 3) (AV.bin Go.BinOp.mul (AV.int 1000) (ys2945.getD 0 default))) ∧
            ((AV.binOk Go.BinOp.mul (AV.int 1000) (ys2945.getD 0 default)) ∧
            ((AV.binOk Go.BinOp.sub (AV.cel (AV.prj r1025 0) 3) (AV.bin Go.BinOp.mul (AV.int 1000) (ys2945.getD 0 default))) ∧
            ((AV.isOne (AV.bin Go.BinOp.add (AV.cel (AV.prj r1025 0) 3) (AV.bin Go.BinOp.mul (AV.int 1000) (ys2945.getD 0 default)))) ∧
            ((AV.isOne (AV.bin Go.BinOp.sub (AV.cel (AV.prj r1025 0) 3) (AV.bin Go.BinOp.mul (AV.int 1000) (ys2945.getD 0 default)))) ∧
            (fLoop 3969 [(AV.int 0), (ys2945.getD 1 default)] fun ys3969 again3969 =>
              ((AV.binOk Go.BinOp.lss (ys3969.getD 0 default) (AV.int 2)) ∧
              ((AV.isBool (AV.bin Go.BinOp.lss (ys3969.getD 0 default) (AV.int 2))) ∧
              (((isT (AV.bin Go.BinOp.lss (ys3969.getD 0 default) (AV.int 2))) →
                ((AV.inl 2 (ys3969.getD 0 default)) ∧
                ((AV.binOk Go.BinOp.geq (AV.nth [(AV.bin Go.BinOp.add (AV.cel (AV.prj r1025 0) 3) (AV.bin Go.BinOp.mul (AV.int 1000) (ys2945.getD 0 default))), (AV.bin Go.BinOp.sub (AV.cel (AV.prj r1025 0) 3) (AV.bin Go.BinOp.mul (AV.int 1000) (ys2945.getD 0 default)))] 0 [((ys3969.getD 0 default), 1)]) (AV.int 0)) ∧
                ((AV.isBool (AV.bin Go.BinOp.geq (AV.nth [(AV.bin Go.BinOp.add (AV.cel (AV.prj r1025 0) 3) (AV.bin Go.BinOp.mul (AV.int 1000) (ys2945.getD 0 default))), (AV.bin Go.BinOp.sub (AV.cel (AV.prj r1025 0) 3) (AV.bin Go.BinOp.mul (AV.int 1000) (ys2945.getD 0 default)))] 0 [((ys3969.getD 0 default), 1)]) (AV.int 0))) ∧
                (((isT (AV.bin Go.BinOp.geq (AV.nth [(AV.bin Go.BinOp.add (AV.cel (AV.prj r1025 0) 3) (AV.bin Go.BinOp.mul (AV.int 1000) (ys2945.getD 0 default))), (AV.bin Go.BinOp.sub (AV.cel (AV.prj r1025 0) 3) (AV.bin Go.BinOp.mul (AV.int 1000) (ys2945.getD 0 default)))] 0 [((ys3969.getD 0 default), 1)]) (AV.int 0))) →
                  ((AV.binOk Go.BinOp.leq (AV.nth [(AV.bin Go.BinOp.add (AV.cel (AV.prj r1025 0) 3) (AV.bin Go.BinOp.mul (AV.int 1000) (ys2945.getD 0 default))), (AV.bin Go.BinOp.sub (AV.cel (AV.prj r1025 0) 3) (AV.bin Go.BinOp.mul (AV.int 1000) (ys2945.getD 0 default)))] 0 [((ys3969.getD 0 default), 1)]) (AV.cel x3 2)) ∧
                  ((AV.isBool (AV.bin Go.BinOp.geq (AV.nth [(AV.bin Go.BinOp.add (AV.cel (AV.prj r1025 0) 3) (AV.bin Go.BinOp.mul (AV.int 1000) (ys2945.getD 0 default))), (AV.bin Go.BinOp.sub (AV.cel (AV.prj r1025 0) 3) (AV.bin Go.BinOp.mul (AV.int 1000) (ys2945.getD 0 default)))] 0 [((ys3969.getD 0 default), 1)]) (AV.int 0))) ∧
                  ((isT (AV.bin Go.BinOp.geq (AV.nth [(AV.bin Go.BinOp.add (AV.cel (AV.prj r1025 0) 3) (AV.bin Go.BinOp.mul (AV.int 1000) (ys2945.getD 0 default))), (AV.bin Go.BinOp.sub (AV.cel (AV.prj r1025 0) 3) (AV.bin Go.BinOp.mul (AV.int 1000) (ys2945.getD 0 default)))] 0 [((ys3969.getD 0 default), 1)]) (AV.int 0))) ∧
                  ((AV.isBool (AV.bin Go.BinOp.leq (AV.nth [(AV.bin Go.BinOp.add (AV.cel (AV.prj r1025 0) 3) (AV.bin Go.BinOp.mul (AV.int 1000) (ys2945.getD 0 default))), (AV.bin Go.BinOp.sub (AV.cel (AV.prj r1025 0) 3) (AV.bin Go.BinOp.mul (AV.int 1000) (ys2945.getD 0 default)))] 0 [((ys3969.getD 0 default), 1)]) (AV.cel x3 2))) ∧
                  (((isT (AV.bin Go.BinOp.leq (AV.nth [(AV.bin Go.BinOp.add (AV.cel (AV.prj r1025 0) 3) (AV.bin Go.BinOp.mul (AV.int 1000) (ys2945.getD 0 default))), (AV.bin Go.BinOp.sub (AV.cel (AV.prj r1025 0) 3) (AV.bin Go.BinOp.mul (AV.int 1000) (ys2945.getD 0 default)))] 0 [((ys3969.getD 0 default), 1)]) (AV.cel x3 2))) →
                    ((fEnt Tryz.prog 23) ∧
                    (fAllV fun _ => ((AV.isOne x0) ∧
                    ((AV.isOne (AV.nth [(AV.bin Go.BinOp.add (AV.cel (AV.prj r1025 0) 3) (AV.bin Go.BinOp.mul (AV.int 1000) (ys2945.getD 0 default))), (AV.bin Go.BinOp.sub (AV.cel (AV.prj r1025 0) 3) (AV.bin Go.BinOp.mul (AV.int 1000) (ys2945.getD 0 default)))] 0 [((ys3969.getD 0 default), 1)])) ∧
                    ((AV.room (ys3969.getD 1 default) (AV.mk 4 [[x0, (AV.int 0), (AV.nth [(AV.bin Go.BinOp.add (AV.cel (AV.prj r1025 0) 3) (AV.bin Go.BinOp.mul (AV.int 1000) (ys2945.getD 0 default))), (AV.bin Go.BinOp.sub (AV.cel (AV.prj r1025 0) 3) (AV.bin Go.BinOp.mul (AV.int 1000) (ys2945.getD 0 default)))] 0 [((ys3969.getD 0 default), 1)]), (AV.lit (Value.string ⟨#[]⟩))]]) 48) ∧
                    ((AV.binOk Go.BinOp.add (ys3969.getD 0 default) (AV.int 1)) ∧
                    (again3969 [(AV.bin Go.BinOp.add (ys3969.getD 0 default) (AV.int 1)), (AV.app 4 (ys3969.getD 1 default) (AV.mk 4 [[x0, (AV.int 0), (AV.nth [(AV.bin Go.BinOp.add (AV.cel (AV.prj r1025 0) 3) (AV.bin Go.BinOp.mul (AV.int 1000) (ys2945.getD 0 default))), (AV.bin Go.BinOp.sub (AV.cel (AV.prj r1025 0) 3) (AV.bin Go.BinOp.mul (AV.int 1000) (ys2945.getD 0 default)))] 0 [((ys3969.getD 0 default), 1)]), (AV.lit (Value.string ⟨#[]⟩))]]))])))))))) ∧
                  ((isF (AV.bin Go.BinOp.leq (AV.nth [(AV.bin Go.BinOp.add (AV.cel (AV.prj r1025 0) 3) (AV.bin Go.BinOp.mul (AV.int 1000) (ys2945.getD 0 default))), (AV.bin Go.BinOp.sub (AV.cel (AV.prj r1025 0) 3) (AV.bin Go.BinOp.mul (AV.int 1000) (ys2945.getD 0 default)))] 0 [((ys3969.getD 0 default), 1)]) (AV.cel x3 2))) →
                    ((AV.binOk Go.BinOp.add (ys3969.getD 0 default) (AV.int 1)) ∧
                    (again3969 [(AV.bin Go.BinOp.add (ys3969.getD 0 default) (AV.int 1)), (ys3969.getD 1 default)]))))))))) ∧
                ((isF (AV.bin Go.BinOp.geq (AV.nth [(AV.bin Go.BinOp.add (AV.cel (AV.prj r1025 0) 3) (AV.bin Go.BinOp.mul (AV.int 1000) (ys2945.getD 0 default))), (AV.bin Go.BinOp.sub (AV.cel (AV.prj r1025 0) 3) (AV.bin Go.BinOp.mul (AV.int 1000) (ys2945.getD 0 default)))] 0 [((ys3969.getD 0 default), 1)]) (AV.int 0))) →
                  ((AV.isBool (AV.bin Go.BinOp.geq (AV.nth [(AV.bin Go.BinOp.add (AV.cel (AV.prj r1025 0) 3) (AV.bin Go.BinOp.mul (AV.int 1000) (ys2945.getD 0 default))), (AV.bin Go.BinOp.sub (AV.cel (AV.prj r1025 0) 3) (AV.bin Go.BinOp.mul (AV.int 1000) (ys2945.getD 0 default)))] 0 [((ys3969.getD 0 default), 1)]) (AV.int 0))) ∧
                  ((isF (AV.bin Go.BinOp.geq (AV.nth [(AV.bin Go.BinOp.add (AV.cel (AV.prj r1025 0) 3) (AV.bin Go.BinOp.mul (AV.int 1000) (ys2945.getD 0 default))), (AV.bin Go.BinOp.sub (AV.cel (AV.prj r1025 0) 3) (AV.bin Go.BinOp.mul (AV.int 1000) (ys2945.getD 0 default)))] 0 [((ys3969.getD 0 default), 1)]) (AV.int 0))) ∧
                  ((AV.binOk Go.BinOp.add (ys3969.getD 0 default) (AV.int 1)) ∧
                  (again3969 [(AV.bin Go.BinOp.add (ys3969.getD 0 default) (AV.int 1)), (ys3969.getD 1 default)])))))))))) ∧
              ((isF (AV.bin Go.BinOp.lss (ys3969.getD 0 default) (AV.int 2))) →
                ((AV.unOk Go.UnOp.not (AV.prj r2113 2)) ∧
                ((AV.isBool (AV.un Go.UnOp.not (AV.prj r2113 2))) ∧
                (((isT (AV.un Go.UnOp.not (AV.prj r2113 2))) →
                  ((AV.binOk Go.BinOp.add (ys2945.getD 0 default) (AV.int 1)) ∧
                  (again2945 [(AV.bin Go.BinOp.add (ys2945.getD 0 default) (AV.int 1)), (ys3969.getD 1 default)]))) ∧
                ((isF (AV.un Go.UnOp.not (AV.prj r2113 2))) →
                  ((AV.binOk Go.BinOp.mul (AV.int 15) (ys2945.getD 0 default)) ∧
                  ((AV.binOk Go.BinOp.add (AV.prj r2113 1) (AV.bin Go.BinOp.mul (AV.int 15) (ys2945.getD 0 default))) ∧
                  ((AV.binOk Go.BinOp.mul (AV.int 15) (ys2945.getD 0 default)) ∧
                  ((AV.binOk Go.BinOp.sub (AV.prj r2113 1) (AV.bin Go.BinOp.mul (AV.int 15) (ys2945.getD 0 default))) ∧
                  ((AV.isOne (AV.bin Go.BinOp.add (AV.prj r2113 1) (AV.bin Go.BinOp.mul (AV.int 15) (ys2945.getD 0 default)))) ∧
                  ((AV.isOne (AV.bin Go.BinOp.sub (AV.prj r2113 1) (AV.bin Go.BinOp.mul (AV.int 15) (ys2945.getD 0 default)))) ∧
                  (fLoop 4801 [(AV.int 0), (ys3969.getD 1 default)] fun ys4801 again4801 =>
                    ((AV.binOk Go.BinOp.lss (ys4801.getD 0 default) (AV.int 2)) ∧
                    ((AV.isBool (AV.bin Go.BinOp.lss (ys4801.getD 0 default) (AV.int 2))) ∧
                    (((isT (AV.bin Go.BinOp.lss (ys4801.getD 0 default) (AV.int 2))) →
                      ((AV.inl 2 (ys4801.getD 0 default)) ∧
                      ((AV.binOk Go.BinOp.geq (AV.nth [(AV.bin Go.BinOp.add (AV.prj r2113 1) (AV.bin Go.BinOp.mul (AV.int 15) (ys2945.getD 0 default))), (AV.bin Go.BinOp.sub (AV.prj r2113 1) (AV.bin Go.BinOp.mul (AV.int 15) (ys2945.getD 0 default)))] 0 [((ys4801.getD 0 default), 1)]) (AV.cel x3 5)) ∧
                      ((AV.isBool (AV.bin Go.BinOp.geq (AV.nth [(AV.bin Go.BinOp.add (AV.prj r2113 1) (AV.bin Go.BinOp.mul (AV.int 15) (ys2945.getD 0 default))), (AV.bin Go.BinOp.sub (AV.prj r2113 1) (AV.bin Go.BinOp.mul (AV.int 15) (ys2945.getD 0 default)))] 0 [((ys4801.getD 0 default), 1)]) (AV.cel x3 5))) ∧
                      (((isT (AV.bin Go.BinOp.geq (AV.nth [(AV.bin Go.BinOp.add (AV.prj r2113 1) (AV.bin Go.BinOp.mul (AV.int 15) (ys2945.getD 0 default))), (AV.bin Go.BinOp.sub (AV.prj r2113 1) (AV.bin Go.BinOp.mul (AV.int 15) (ys2945.getD 0 default)))] 0 [((ys4801.getD 0 default), 1)]) (AV.cel x3 5))) →
                        ((AV.binOk Go.BinOp.leq (AV.nth [(AV.bin Go.BinOp.add (AV.prj r2113 1) (AV.bin Go.BinOp.mul (AV.int 15) (ys2945.getD 0 default))), (AV.bin Go.BinOp.sub (AV.prj r2113 1) (AV.bin Go.BinOp.mul (AV.int 15) (ys2945.getD 0 default)))] 0 [((ys4801.getD 0 default), 1)]) (AV.cel x3 6)) ∧
                        ((AV.isBool (AV.bin Go.BinOp.geq (AV.nth [(AV.bin Go.BinOp.add (AV.prj r2113 1) (AV.bin Go.BinOp.mul (AV.int 15) (ys2945.getD 0 default))), (AV.bin Go.BinOp.sub (AV.prj r2113 1) (AV.bin Go.BinOp.mul (AV.int 15) (ys2945.getD 0 default)))] 0 [((ys4801.getD 0 default), 1)]) (AV.cel x3 5))) ∧
                        ((isT (AV.bin Go.BinOp.geq (AV.nth [(AV.bin Go.BinOp.add (AV.prj r2113 1) (AV.bin Go.BinOp.mul (AV.int 15) (ys2945.getD 0 default))), (AV.bin Go.BinOp.sub (AV.prj r2113 1) (AV.bin Go.BinOp.mul (AV.int 15) (ys2945.getD 0 default)))] 0 [((ys4801.getD 0 default), 1)]) (AV.cel x3 5))) ∧
                        ((AV.isBool (AV.bin Go.BinOp.leq (AV.nth [(AV.bin Go.BinOp.add (AV.prj r2113 1) (AV.bin Go.BinOp.mul (AV.int 15) (ys2945.getD 0 default))), (AV.bin Go.BinOp.sub (AV.prj r2113 1) (AV.bin Go.BinOp.mul (AV.int 15) (ys2945.getD 0 default)))] 0 [((ys4801.getD 0 default), 1)]) (AV.cel x3 6))) ∧
                        (((isT (AV.bin Go.BinOp.leq (AV.nth [(AV.bin Go.BinOp.add (AV.prj r2113 1) (AV.bin Go.BinOp.mul (AV.int 15) (ys2945.getD 0 default))), (AV.bin Go.BinOp.sub (AV.prj r2113 1) (AV.bin Go.BinOp.mul (AV.int 15) (ys2945.getD 0 default)))] 0 [((ys4801.getD 0 default), 1)]) (AV.cel x3 6))) →
                          ((fEnt Tryz.prog 23) ∧
                          (fAllV fun _ => ((AV.isOne x0) ∧
                          ((AV.isOne (AV.nth [(AV.bin Go.BinOp.add (AV.prj r2113 1) (AV.bin Go.BinOp.mul (AV.int 15) (ys2945.getD 0 default))), (AV.bin Go.BinOp.sub (AV.prj r2113 1) (AV.bin Go.BinOp.mul (AV.int 15) (ys2945.getD 0 default)))] 0 [((ys4801.getD 0 default), 1)])) ∧
                          ((AV.room (ys4801.getD 1 default) (AV.mk 4 [[x0, (AV.int 2), (AV.nth [(AV.bin Go.BinOp.add (AV.prj r2113 1) (AV.bin Go.BinOp.mul (AV.int 15) (ys2945.getD 0 default))), (AV.bin Go.BinOp.sub (AV.prj r2113 1) (AV.bin Go.BinOp.mul (AV.int 15) (ys2945.getD 0 default)))] 0 [((ys4801.getD 0 default), 1)]), (AV.lit (Value.string ⟨#[]⟩))]]) 48) ∧
                          ((AV.binOk Go.BinOp.add (ys4801.getD 0 default) (AV.int 1)) ∧
                          (again4801 [(AV.bin Go.BinOp.add (ys4801.getD 0 default) (AV.int 1)), (AV.app 4 (ys4801.getD 1 default) (AV.mk 4 [[x0, (AV.int 2), (AV.nth [(AV.bin Go.BinOp.add (AV.prj r2113 1) (AV.bin Go.BinOp.mul (AV.int 15) (ys2945.getD 0 default))), (AV.bin Go.BinOp.sub (AV.prj r2113 1) (AV.bin Go.BinOp.mul (AV.int 15) (ys2945.getD 0 default)))] 0 [((ys4801.getD 0 default), 1)]), (AV.lit (Value.string ⟨#[]⟩))]]))])))))))) ∧
                        ((isF (AV.bin Go.BinOp.leq (AV.nth [(AV.bin Go.BinOp.add (AV.prj r2113 1) (AV.bin Go.BinOp.mul (AV.int 15) (ys2945.getD 0 default))), (AV.bin Go.BinOp.sub (AV.prj r2113 1) (AV.bin Go.BinOp.mul (AV.int 15) (ys2945.getD 0 default)))] 0 [((ys4801.getD 0 default), 1)]) (AV.cel x3 6))) →
                          ((AV.binOk Go.BinOp.add (ys4801.getD 0 default) (AV.int 1)) ∧
                          (again4801 [(AV.bin Go.BinOp.add (ys4801.getD 0 default) (AV.int 1)), (ys4801.getD 1 default)]))))))))) ∧
                      ((isF (AV.bin Go.BinOp.geq (AV.nth [(AV.bin Go.BinOp.add (AV.prj r2113 1) (AV.bin Go.BinOp.mul (AV.int 15) (ys2945.getD 0 default))), (AV.bin Go.BinOp.sub (AV.prj r2113 1) (AV.bin Go.BinOp.mul (AV.int 15) (ys2945.getD 0 default)))] 0 [((ys4801.getD 0 default), 1)]) (AV.cel x3 5))) →
                        ((AV.isBool (AV.bin Go.BinOp.geq (AV.nth [(AV.bin Go.BinOp.add (AV.prj r2113 1) (AV.bin Go.BinOp.mul (AV.int 15) (ys2945.getD 0 default))), (AV.bin Go.BinOp.sub (AV.prj r2113 1) (AV.bin Go.BinOp.mul (AV.int 15) (ys2945.getD 0 default)))] 0 [((ys4801.getD 0 default), 1)]) (AV.cel x3 5))) ∧
                        ((isF (AV.bin Go.BinOp.geq (AV.nth [(AV.bin Go.BinOp.add (AV.prj r2113 1) (AV.bin Go.BinOp.mul (AV.int 15) (ys2945.getD 0 default))), (AV.bin Go.BinOp.sub (AV.prj r2113 1) (AV.bin Go.BinOp.mul (AV.int 15) (ys2945.getD 0 default)))] 0 [((ys4801.getD 0 default), 1)]) (AV.cel x3 5))) ∧
                        ((AV.binOk Go.BinOp.add (ys4801.getD 0 default) (AV.int 1)) ∧
                        (again4801 [(AV.bin Go.BinOp.add (ys4801.getD 0 default) (AV.int 1)), (ys4801.getD 1 default)])))))))))) ∧
                    ((isF (AV.bin Go.BinOp.lss (ys4801.getD 0 default) (AV.int 2))) →
                      ((AV.binOk Go.BinOp.mul (AV.int 171) (ys2945.getD 0 default)) ∧
                      ((AV.binOk Go.BinOp.add (AV.prj r2113 0) (AV.bin Go.BinOp.mul (AV.int 171) (ys2945.getD 0 default))) ∧
                      ((AV.binOk Go.BinOp.mul (AV.int 171) (ys2945.getD 0 default)) ∧
                      ((AV.binOk Go.BinOp.sub (AV.prj r2113 0) (AV.bin Go.BinOp.mul (AV.int 171) (ys2945.getD 0 default))) ∧
                      ((AV.isOne (AV.bin Go.BinOp.add (AV.prj r2113 0) (AV.bin Go.BinOp.mul (AV.int 171) (ys2945.getD 0 default)))) ∧
                      ((AV.isOne (AV.bin Go.BinOp.sub (AV.prj r2113 0) (AV.bin Go.BinOp.mul (AV.int 171) (ys2945.getD 0 default)))) ∧
                      (fLoop 5505 [(AV.int 0), (ys4801.getD 1 default)] fun ys5505 again5505 =>
                        ((AV.binOk Go.BinOp.lss (ys5505.getD 0 default) (AV.int 2)) ∧
                        ((AV.isBool (AV.bin Go.BinOp.lss (ys5505.getD 0 default) (AV.int 2))) ∧
                        (((isT (AV.bin Go.BinOp.lss (ys5505.getD 0 default) (AV.int 2))) →
                          ((AV.inl 2 (ys5505.getD 0 default)) ∧
                          (∃ r5825 : AV, ((Fn Tryz.prog 24 [(AV.nth [(AV.bin Go.BinOp.add (AV.prj r2113 0) (AV.bin Go.BinOp.mul (AV.int 171) (ys2945.getD 0 default))), (AV.bin Go.BinOp.sub (AV.prj r2113 0) (AV.bin Go.BinOp.mul (AV.int 171) (ys2945.getD 0 default)))] 0 [((ys5505.getD 0 default), 1)])] Sh.sc r5825) ∧
                          ((fEnt Tryz.prog 23) ∧
                          (fAllV fun _ => ((AV.isOne x0) ∧
                          ((AV.isOne r5825) ∧
                          ((AV.room (ys5505.getD 1 default) (AV.mk 4 [[x0, (AV.int 1), r5825, (AV.lit (Value.string ⟨#[]⟩))]]) 48) ∧
                          ((AV.binOk Go.BinOp.add (ys5505.getD 0 default) (AV.int 1)) ∧
                          (again5505 [(AV.bin Go.BinOp.add (ys5505.getD 0 default) (AV.int 1)), (AV.app 4 (ys5505.getD 1 default) (AV.mk 4 [[x0, (AV.int 1), r5825, (AV.lit (Value.string ⟨#[]⟩))]]))]))))))))))) ∧
                        ((isF (AV.bin Go.BinOp.lss (ys5505.getD 0 default) (AV.int 2))) →
                          ((AV.binOk Go.BinOp.add (ys2945.getD 0 default) (AV.int 1)) ∧
                          (again2945 [(AV.bin Go.BinOp.add (ys2945.getD 0 default) (AV.int 1)), (ys5505.getD 1 default)])))))))))))))))))))))))))))))))))))))))) ∧
          ((isF (AV.bin Go.BinOp.leq (ys2945.getD 0 default) (AV.int 3))) →
            ((AV.flatS (ys2945.getD 1 default)) ∧
            ((AV.flat (AV.int 0)) ∧
            (fSame (AV.tup [(ys2945.getD 1 default), (AV.int 0)]) r))))))))))))))))))))))))))))))))))))))) := by kernel_rfl
end RlF
end Go.Proofs.YtacfofpbbempaaaGreatDoor
