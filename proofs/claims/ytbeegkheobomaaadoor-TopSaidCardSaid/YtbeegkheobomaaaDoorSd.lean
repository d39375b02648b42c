/- console's clearances. -/
import Derived.Test.YtbeegkheobomaaaDoorPh2
import Derived.Test.YtbeegkheobomaaaDoorRb4
namespace Go.Proofs.YtbeegkheobomaaaDoor
open Go.RowKit
set_option linter.unusedVariables false
set_option linter.unusedSimpArgs false
set_option maxRecDepth 100000
def vbs : List ByteArray := [⟨#[104, 101, 105, 103, 104, 116]⟩, ⟨#[104, 101, 97, 100, 105, 110, 103]⟩, ⟨#[115, 112, 101, 101, 100]⟩, ⟨#[100, 105, 114, 101, 99, 116]⟩, ⟨#[104, 111, 108, 100]⟩, ⟨#[99, 111, 110, 116, 97, 99, 116]⟩, ⟨#[108, 97, 110, 100]⟩, ⟨#[111, 102, 102, 101, 114]⟩, ⟨#[97, 99, 99, 101, 112, 116]⟩, ⟨#[100, 114, 111, 112]⟩]
theorem vbs_len : vbs.length = 10 := rfl
theorem verbs_fn : Fn Tryd.prog 38 [] (.row 9 1 true) (lst 1 encS vbs) := by
  refine fn_run mixed 3 (Γ := PhF.Γ) (ann := PhF.ann) Tryd.func38 rfl Tryd.call38 ((PhF.verbs_form _).mpr ?_)
  refine ⟨?_, rfl⟩
  exact lst_flatS (enc := encS) (l := vbs) fun x _ z hz => by simp [encS] at hz; subst hz; exact .lit _
def verbI (s : ByteArray) : Int := idxN (isW s) 0 vbs
theorem verb_fn (s : ByteArray) : Fn Tryd.prog 24 [.string s] .sc (.int (verbI s)) := by
  refine fn_run mixed 3 (Γ := PhF.Γ) (ann := PhF.ann) Tryd.func24 rfl Tryd.call24 ((PhF.verb_form _ _).mpr ?_)
  have e1 : Ent Tryd.prog 37 := Tryd.call37
  refine ⟨_, verbs_fn, e1, fun _ => ?_⟩
  simp
  refine loop_list (σ := Unit) vbs (fun n _ => [.int (n : Nat)]) (fun k rest _ => verbI s = idxN (isW s) k rest) () rfl rfl ?_ ?_
  · rintro k x rest _ K hx hr hn hg hK
    rw [vbs_len] at hn
    have hw2 : IntKind.i64.wrap ((k : Int) + 1) = (k : Int) + 1 := wrap64 (by omega) (by omega)
    simp [vbs_len, show (k : Int) < 10 by omega, lst_at hx, encS, hw2]
    rw [idxN] at hg
    exact ⟨fun h => by rw [hg, if_pos (by simpa [isW] using h)], fun h => hK _ () (by simp) (by rw [hg, if_neg (by simpa [isW] using h)])⟩
  · intro _ K hg
    simp [hg, idxN]
/-- A command. -/
structure Cm where
  v : ByteArray
  c : ByteArray
  n : Int
  f : ByteArray
def encM (x : Cm) : List AV := [.string x.v, .string x.c, .int x.n, .string x.f]
abbrev cm (x : Cm) : AV := .agg (encM x)
def conE (x : Cm) : Int :=
  if verbI x.v < 0 then 5 else if isName x.c = false then 6 else
  if 2 < verbI x.v then
    (if verbI x.v ≤ 7 then (if isName x.f = false then 6 else if x.n ≠ 0 then 3 else 0) else if x.f ≠ ⟨#[]⟩ then 3 else if x.n ≠ 0 then 3 else 0)
  else if x.f ≠ ⟨#[]⟩ then 3 else if x.n < 0 then 4 else if x.n > mostI (verbI x.v) then 4 else 0
theorem ccheck_fn (x : Cm) : Fn Tryd.prog 23 [cm x] .sc (.int (conE x)) := by
  have e := PhF.ccheck_form (cm x) (.int (conE x))
  have k := fun h => fn_run mixed 3 (Γ := PhF.Γ) (ann := PhF.ann) Tryd.func23 rfl Tryd.call23 (e.mpr h)
  refine k ?_
  clear k e
  have e1 : Ent Tryd.prog 35 := Tryd.call35
  have e2 : Ent Tryd.prog 36 := Tryd.call36
  obtain ⟨v, c, n, f⟩ := x
  simp only [encM, av_cel, List.getD_cons_zero, List.getD_cons_succ]
  refine ⟨by simp [encM], _, verb_fn v, ?_⟩
  have hv : verbI v = -1 ∨ 0 ≤ verbI v := by
    unfold verbI
    rcases idxN_spec (isW v) vbs 0 with ⟨h, _⟩ | ⟨i, y, h, _, _⟩ <;> omega
  generalize hk : verbI v = k at *
  simp [e1, e2]
  refine ⟨fun h => by simp [conE, hk, h], fun h => ⟨_, name_fn c, ?_⟩⟩
  have h1 : ¬ k < 0 := by omega
  simp
  have hc : conE ⟨v, c, n, f⟩ = if isName c = false then 6 else if 2 < k then (if k ≤ 7 then (if isName f = false then 6 else if n ≠ 0 then 3 else 0) else if f ≠ ⟨#[]⟩ then 3 else if n ≠ 0 then 3 else 0)
    else if f ≠ ⟨#[]⟩ then 3 else if n < 0 then 4 else if n > mostI k then 4 else 0 := by
      show (if verbI v < 0 then _ else _) = _
      rw [hk, if_neg h1]
  rw [hc]
  refine ⟨fun h => by simp [h], fun hcn => ?_⟩
  rw [if_neg (by simp [hcn])]
  refine ⟨fun h3 => ?_, fun h3 => ?_⟩
  · rw [if_pos h3]
    refine ⟨h3, fun h4 => ⟨_, name_fn f, ?_⟩, fun h4 => ?_⟩
    · rw [if_pos h4]
      by_cases hf : isName f = true <;> by_cases hn : n = 0 <;> simp [hcn, h3, h4, hf, hn] <;> omega
    · rw [if_neg (by omega)]
      have h4' : ¬ k ≤ 7 := by omega
      by_cases hf : f = ⟨#[]⟩ <;> by_cases hn : n = 0 <;> simp [hcn, h3, h4, h4', hf, hn] <;> omega
  · rw [if_neg (by omega)]
    have hk3 : k = 0 ∨ k = 1 ∨ k = 2 := by omega
    by_cases hf : f = ⟨#[]⟩
    · by_cases hn : n < 0
      · have hn' : ¬ 0 ≤ n := by omega
        simp [hcn, h3, hf, hn, hn']
        omega
      · have hn' : 0 ≤ n := by omega
        rcases hk3 with rfl | rfl | rfl <;> simp [hcn, hf, hn, hn', mostI, gt2]
    · simp [hcn, h3, hf]
def clrE (x : Cm) : Int := if conE x ≠ 0 then conE x else if verbI x.v > 6 then 8 else 0
def clrC (x : Cm) : Cl := if clrE x = 0 then ⟨x.c, verbI x.v, x.n, x.f⟩ else ⟨⟨#[]⟩, 0, 0, ⟨#[]⟩⟩
def clrV (x : Cm) : AV := .tup [cl (clrC x), .int (clrE x)]
theorem clear_fn (x : Cm) : Fn Tryd.prog 11 [cm x] (.tup [.sc, .sc]) (clrV x) := by
  refine fn_run mixed 3 (Γ := PhF.Γ) (ann := PhF.ann) Tryd.func11 rfl Tryd.call11 ((PhF.clear_form _ _).mpr ?_)
  have hx := ccheck_fn x
  obtain ⟨v, c, n, f⟩ := x
  refine ⟨by simp [encM], _, hx, ?_⟩
  by_cases h : conE ⟨v, c, n, f⟩ = 0
  · simp [h, encM]
    refine ⟨_, verb_fn v, ?_⟩
    by_cases h6 : 6 < verbI v
    · have : ¬ verbI v ≤ 6 := by omega
      simp [h, h6, this, clrV, clrC, clrE, encL]
    · have : verbI v ≤ 6 := by omega
      simp [h, h6, this, clrV, clrC, clrE, encL]
  · simp [h, clrV, clrC, clrE, encL]
def cutI (t : Int) : Int := if t.tmod 1001 < 0 then t.tmod 1001 + 1001 else t.tmod 1001
theorem cutI_bd (t : Int) : 0 ≤ cutI t ∧ cutI t ≤ 1000 := by
  have h1 := Int.tmod_lt_of_pos t (show (0 : Int) < 1001 by omega)
  have h2 := Int.lt_tmod_of_pos t (show (0 : Int) < 1001 by omega)
  unfold cutI
  split <;> omega
theorem cut_fn (t : Int) : Fn Tryd.prog 12 [.int t, .int 0, .int 1000] .sc (.int (cutI t)) := by
  refine fn_run mixed 3 (Γ := PhF.Γ) (ann := PhF.ann) Tryd.func12 rfl Tryd.call12 ((PhF.cut_form _ _ _ _).mpr ?_)
  have h1 := Int.tmod_lt_of_pos t (show (0 : Int) < 1001 by omega)
  have h2 := Int.lt_tmod_of_pos t (show (0 : Int) < 1001 by omega)
  have e1 : IntKind.i64.wrap 1000 = 1000 := wrap64 (by omega) (by omega)
  have e2 : IntKind.i64.wrap 1001 = 1001 := wrap64 (by omega) (by omega)
  have e3 : IntKind.i64.wrap (t.tmod 1001 + 1001) = t.tmod 1001 + 1001 ∨ ¬ t.tmod 1001 < 0 := by
    by_cases q : t.tmod 1001 < 0
    · exact .inl (wrap64 (by omega) (by omega))
    · exact .inr q
  have e4 : IntKind.i64.wrap (t.tmod 1001) = t.tmod 1001 := wrap64 (by omega) (by omega)
  simp [e1, e2, e4]
  refine ⟨fun q => ?_, fun q => ?_⟩
  · have e5 : IntKind.i64.wrap (t.tmod 1001 + 1001) = t.tmod 1001 + 1001 := wrap64 (by omega) (by omega)
    simp [e5, cutI, q]
  · have : ¬ t.tmod 1001 < 0 := by omega
    simp [cutI, this]
def sX : Cm := ⟨⟨#[104, 101, 105, 103, 104, 116]⟩, ⟨#[65, 66, 49]⟩, 9000, ⟨#[]⟩⟩
def sC : Cl := ⟨⟨#[65, 66, 49]⟩, 0, 9000, ⟨#[]⟩⟩
theorem sX_clr : clrV sX = .tup [cl sC, .int 0] := by
  have h : conE sX = 0 := by decide
  have h2 : verbI sX.v = 0 := by decide
  have h3 : clrE sX = 0 := by unfold clrE; rw [h, h2]; rfl
  unfold clrV clrC
  rw [h3, if_pos rfl, h2]
  rfl
theorem sC_ok : clE sC = 0 := by decide
theorem sC_print : sC.c ++ sp ++ whatS sC = ⟨#[65, 66, 49, 32, 72, 69, 73, 71, 72, 84, 32, 57, 48, 48, 48]⟩ := by
  have : whatS sC = whatS fX := rfl
  rw [this, fX_what]
  show _ = _
  kernel_rfl
theorem say_nil {x : Cl} {t : Int} (h : clE x = 0) (h0 : 0 ≤ t) (h1 : t ≤ 1000) : sayV [] x t = .tup [ros [⟨x, t⟩], .int 0] := by
  have e : sayE [] x t = 0 := by
    have c0 : chkE [] = 0 := rfl
    have c1 : wrg [] t = false := by rw [wrg_nil]; simp; omega
    unfold sayE chk2
    rw [c0, h, c1]
    rfl
  rw [sayV_ok e]
  rfl
theorem chk_one {x : Cl} {t : Int} (h : clE x = 0) (h0 : 0 ≤ t) (h1 : t ≤ 1000) : chkE [⟨x, t⟩] = 0 := by
  have c1 : wrg [] t = false := by rw [wrg_nil]; simp; omega
  show (if [(⟨x, t⟩ : Ro)].length > 12 then (2 : Int) else roE [] [⟨x, t⟩]) = 0
  rw [if_neg (by simp)]
  unfold roE
  simp only [h, c1]
  rfl
theorem idx_one {x y : Cl} {t : Int} (h : x.c = y.c) (h2 : x.k = y.k) : rIdx [⟨x, t⟩] y = 0 := by
  simp [rIdx, idxN, sameK, h, h2]
theorem hea_ok {x : Cl} {t : Int} (h : clE x = 0) (h0 : 0 ≤ t) (h1 : t ≤ 1000) : heaV [⟨x, t⟩] x (t + 1) = .tup [ros [], .int 0] := by
  have e : heaE [⟨x, t⟩] x (t + 1) = 0 := by
    have c1 : wrg [⟨x, t⟩] (t + 1) = false := by rw [show [(⟨x, t⟩ : Ro)] = [] ++ [⟨x, t⟩] from rfl, wrg_snoc]; simp; omega
    unfold heaE chk2
    rw [chk_one h h0 h1, h, c1, idx_one rfl rfl]
    simp
    omega
  rw [heaV_ok e, idx_one rfl rfl]
  rfl
theorem hea_bad {x y : Cl} {t : Int} (h : clE x = 0) (hy : clE y = 0) (hc : x.c = y.c) (hk : x.k = y.k) (hn : x ≠ y) (h0 : 0 ≤ t) (h1 : t ≤ 1000) : heaV [⟨x, t⟩] y (t + 1) = .tup [.sl 5 [], .int 17] := by
  suffices e : heaE [⟨x, t⟩] y (t + 1) = 17 from heaV_err e (by decide)
  have c1 : wrg [⟨x, t⟩] (t + 1) = false := by rw [show [(⟨x, t⟩ : Ro)] = [] ++ [⟨x, t⟩] from rfl, wrg_snoc]; simp; omega
  unfold heaE chk2
  rw [chk_one h h0 h1, hy, c1, idx_one hc hk]
  simp [hn]
  omega
theorem cmp_self {x : Cl} (h : clE x = 0) : cmpV x x = .tup [.int 0, .int 0] := by
  unfold cmpV
  rw [if_neg (by simp [h]), if_neg (by simp [h])]
  simp [difP, sumP]
theorem tsaid_fn (x : Cm) (t : Int) : Fn Tryd.prog 4 [cm x, .int t] .sc (.bool true) := by
  have e := PhF.said_form (cm x) (.int t) (.bool true)
  have k := fun h => fn_run mixed 3 (Γ := PhF.Γ) (ann := PhF.ann) Tryd.func4 rfl Tryd.call4 (e.mpr h)
  refine k ?_
  clear k e
  have h1 := clear_fn sX
  rw [sX_clr] at h1
  have h2 := print_fn sC
  rw [show prV sC = .tup [.string ⟨#[65, 66, 49, 32, 72, 69, 73, 71, 72, 84, 32, 57, 48, 48, 48]⟩, .int 0] by unfold prV; rw [if_pos sC_ok, sC_print, sC_ok]] at h2
  refine ⟨by simp [encM], _, h1, by simp [encL], _, h2, ?_⟩
  simp
  refine ⟨_, clear_fn x, ?_⟩
  by_cases he : clrE x = 0
  · simp [clrV, he]
    refine ⟨by simp [encL], _, pcheck_fn (clrC x), ?_⟩
    generalize clrC x = c
    by_cases hc : clE c = 0
    · simp [hc]
      have t0 := cutI_bd t
      have o := okC hc
      have q1 := print_fn c
      rw [show prV c = .tup [.string (c.c ++ sp ++ whatS c), .int 0] by unfold prV; rw [if_pos hc, hc]] at q1
      have q2 := parse_print hc
      have q3 := say_fn [] c (cutI t)
      rw [say_nil hc t0.1 t0.2] at q3
      have q3' := q3.nl (.cons (.nil 5) (.cons (.refl _) (.cons (.refl _) .nil)))
      have q4 := back_fn c
      rw [show bkV c = .tup [.string (whatS c ++ sp ++ c.c), .int 0] by unfold bkV; rw [if_pos hc, hc]] at q4
      have q5 := parse_back hc
      have q6 := compare_fn c c
      rw [cmp_self hc] at q6
      have q7 := hear_fn [⟨c, cutI t⟩] c (cutI t + 1)
      rw [hea_ok hc t0.1 t0.2] at q7
      have w1 : IntKind.i64.wrap (cutI t + 1) = cutI t + 1 := wrap64 (by omega) (by omega)
      have q8 : c.k = 0 → Fn Tryd.prog 16 [ros [⟨c, cutI t⟩], cl ⟨c.c, c.k, (c.v + 1).tmod 60001, c.f⟩, .int (cutI t + 1)] (.tup [.row 59 5 true, .sc]) (.tup [.sl 5 [], .int 17]) := fun hk => by
        obtain ⟨f0, v0, v1⟩ := o.v (by omega)
        have m1 := Int.tmod_lt_of_pos (c.v + 1) (show (0 : Int) < 60001 by omega)
        have m2 := Int.tmod_nonneg 60001 (show 0 ≤ c.v + 1 by omega)
        have hy : clE ⟨c.c, c.k, (c.v + 1).tmod 60001, c.f⟩ = 0 := by
          unfold clE
          simp only [hk, f0, o.c]
          rw [if_neg (by simp), if_neg (by omega), if_neg (by omega), if_neg (by simp), if_neg (by simp [mostI]; omega)]
        have hne : c ≠ ⟨c.c, c.k, (c.v + 1).tmod 60001, c.f⟩ := fun q => by
          have q' : c.v = (c.v + 1).tmod 60001 := congrArg Cl.v q
          rw [Int.tmod_eq_emod_of_nonneg (by omega)] at q'
          omega
        have := hear_fn [⟨c, cutI t⟩] ⟨c.c, c.k, (c.v + 1).tmod 60001, c.f⟩ (cutI t + 1)
        rw [hea_bad hc hy rfl rfl hne t0.1 t0.2] at this
        exact this
      have v0 : c.k = 0 → 0 ≤ c.v ∧ c.v ≤ 60000 := fun hk => ⟨(o.v (by omega)).2.1, (o.v (by omega)).2.2⟩
      obtain ⟨cc, ck, cv, cf⟩ := c
      refine ⟨_, cut_fn t, _, q1, _, q2, by simp [encL], _, q3', _, q4, _, q5, by simp [encL], _, q6, by simp, ?_⟩
      simp [w1]
      refine ⟨_, q7, ?_⟩
      simp [encL, AV.eqPlOk, AV.nePl]
      intro hk
      have hb := v0 hk
      simp only at hb
      have w2 : IntKind.i64.wrap (cv + 1) = cv + 1 := wrap64 (by omega) (by omega)
      rw [w2]
      refine ⟨_, q8 hk, ?_⟩
      simp
    · simp [hc]
  · simp [clrV, he, encL]
theorem arg_cm {x : AV} (h : ArgOk Tryd.prog 32 x) : ∃ c, x = cm c := by
  obtain ⟨cs, e, hl, hc⟩ := arg_agg (P := Tryd.prog) (t := 32) (tys := [9, 9, 3, 9]) (by kernel_rfl) (by kernel_rfl) h
  obtain ⟨a, b, c, d, rfl⟩ := lst4 hl
  obtain ⟨s1, e1, _⟩ := c_str (by kernel_rfl) (hc 0 9 rfl)
  obtain ⟨s2, e2, _⟩ := c_str (by kernel_rfl) (hc 1 9 rfl)
  obtain ⟨s3, e3, _⟩ := c_int (by kernel_rfl) (hc 2 3 rfl)
  obtain ⟨s4, e4, _⟩ := c_str (by kernel_rfl) (hc 3 9 rfl)
  simp at e1 e2 e3 e4
  exact ⟨⟨s1, s2, s3, s4⟩, by rw [e, e1, e2, e3, e4]; rfl⟩
theorem arg_intT2 {x : AV} (h : ArgOk Tryd.prog 3 x) : ∃ n, x = .int n ∧ I64 n := c_int (by kernel_rfl) (arg_cell (by kernel_rfl) h)
theorem topSaid_all (xs : List AV) (h1 : xs.length = 2) (h2 : ∀ i, i < 2 → ArgOk Tryd.prog ([32, 3].getD i 0) (xs.getD i default))
    (h3 : ∀ i s L e, i < 2 → xs.getD i default = .sl s L → Tryd.prog.underlying ([32, 3].getD i 0) = some (.slice e) → L.length * Tryd.prog.bytesOf e ≤ reachBytes) : Fn Tryd.prog 4 xs .sc (.bool true) := by
  obtain ⟨a, b, rfl⟩ := lst2 h1
  obtain ⟨c, e1⟩ := arg_cm (h2 0 (by omega))
  obtain ⟨t, e2, _⟩ := arg_intT2 (h2 1 (by omega))
  simp at e1 e2
  subst e1 e2
  exact tsaid_fn c t
end Go.Proofs.YtbeegkheobomaaaDoor
