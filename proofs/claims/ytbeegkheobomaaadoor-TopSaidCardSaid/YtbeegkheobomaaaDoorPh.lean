/- phrase's texts. -/
import Derived.Test.YtbeegkheobomaaaDoorPhF
import Derived.Test.YtbeegkheobomaaaDoorPhV
namespace Go.Proofs.YtbeegkheobomaaaDoor
open Go.RowKit
set_option linter.unusedVariables false
set_option linter.unusedSimpArgs false
set_option maxRecDepth 100000
theorem szm (a : Array UInt8) : (ByteArray.mk a).size = a.size := rfl
/-! ### Dec -/
def digs : ByteArray := ⟨#[48, 49, 50, 51, 52, 53, 54, 55, 56, 57]⟩
def decS (n : Nat) : ByteArray := if h : n < 10 then digs.extract n (n + 1) else decS (n / 10) ++ decS (n % 10)
termination_by n
decreasing_by all_goals omega
theorem decS_lt {n : Nat} (h : n < 10) : decS n = digs.extract n (n + 1) := by rw [decS]; rw [dif_pos h]
theorem decS_ge {n : Nat} (h : ¬ n < 10) : decS n = decS (n / 10) ++ decS (n % 10) := by rw [decS]; rw [dif_neg h]
theorem decS_small {n : Nat} (h : n < 10) : (decS n).size = 1 := by
  rw [decS_lt h]
  have : n = 0 ∨ n = 1 ∨ n = 2 ∨ n = 3 ∨ n = 4 ∨ n = 5 ∨ n = 6 ∨ n = 7 ∨ n = 8 ∨ n = 9 := by omega
  rcases this with rfl | rfl | rfl | rfl | rfl | rfl | rfl | rfl | rfl | rfl <;> (show _ = _; kernel_rfl)
theorem decS_size : ∀ (n : Nat), (decS n).size ≤ n + 1
  | n => by
    by_cases h : n < 10
    · rw [decS_small h]; omega
    · have h1 := decS_size (n / 10)
      have h2 := decS_small (n := n % 10) (by omega)
      rw [decS_ge h, ByteArray.size_append]
      omega
termination_by n => n
decreasing_by all_goals omega
theorem dec_fn : ∀ (n : Nat), n ≤ 200000 → Fn Tryd.prog 21 [.int (n : Nat)] .sc (.string (decS n))
  | n, hn => by
    have e := PhF.dec_form (.int (n : Nat)) (.string (decS n))
    have k := fun h => fn_run mixed 3 (Γ := PhF.Γ) (ann := PhF.ann) Tryd.func21 rfl Tryd.call21 (e.mpr h)
    refine k ?_
    clear k e
    have hw1 : IntKind.i64.wrap ((n : Int) + 1) = (n : Int) + 1 := wrap64 (by omega) (by omega)
    simp [hw1]
    refine ⟨fun h => absurd h (by omega), fun h => ?_, fun h => ?_⟩
    · refine ⟨⟨⟨_, _, rfl⟩, ⟨_, _, rfl⟩, by simp, by simp; omega, ?_⟩, ?_⟩
      · show (n : Int) + 1 ≤ 10
        omega
      · rw [decS_lt (by omega)]
        have e2 : ((n : Int) + 1).toNat = n + 1 := by omega
        simp [AV.ssub, e2]
        rfl
    · have hq : IntKind.i64.wrap ((n : Int) / 10) = ((n / 10 : Nat) : Int) := by
        rw [wrap64 (by omega) (by omega)]; omega
      have hr : (n : Int).tmod 10 = ((n % 10 : Nat) : Int) := by
        rw [Int.tmod_eq_emod_of_nonneg (by omega)]; omega
      have h1 := dec_fn (n / 10) (by omega)
      have h2 := dec_fn (n % 10) (by omega)
      rw [hq, hr]
      refine ⟨_, h1, _, h2, ?_⟩
      have s1 := decS_size (n / 10)
      have s2 := decS_small (n := n % 10) (by omega)
      simp
      exact ⟨by rw [s2]; omega, (decS_ge (by omega)).symm⟩
termination_by n => n
decreasing_by all_goals omega
theorem decS_itoa : ∀ (n : Nat), decS n = itoaS n
  | n => by
    by_cases h : n < 10
    · rw [decS_lt h]
      apply key_inj
      rw [itoa_dd, Lib.decDigits, dif_pos h]
      have : n = 0 ∨ n = 1 ∨ n = 2 ∨ n = 3 ∨ n = 4 ∨ n = 5 ∨ n = 6 ∨ n = 7 ∨ n = 8 ∨ n = 9 := by omega
      rcases this with rfl | rfl | rfl | rfl | rfl | rfl | rfl | rfl | rfl | rfl <;> (show _ = _; kernel_rfl)
    · rw [decS_ge h, decS_itoa (n / 10), decS_itoa (n % 10)]
      apply key_inj
      rw [key_app, itoa_dd, itoa_dd, itoa_dd, Lib.decDigits_one (i := n % 10) (by omega)]
      conv => rhs; rw [Lib.decDigits, dif_neg h]
termination_by n => n
decreasing_by all_goals omega
theorem dec_fn2 {v : Int} (h : 0 ≤ v) (h2 : v ≤ 60000) : Fn Tryd.prog 21 [.int v] .sc (.string (itoaS v)) := by
  obtain ⟨n, rfl⟩ := Int.eq_ofNat_of_zero_le h
  rw [← decS_itoa]
  exact dec_fn n (by omega)
theorem what_fn {x : Cl} (o : OkC x) : Fn Tryd.prog 18 [cl x] .sc (.string (whatS x)) := by
  refine fn_run mixed 3 (Γ := PhF.Γ) (ann := PhF.ann) Tryd.func18 rfl Tryd.call18 ((PhF.what_form _ _).mpr ?_)
  obtain ⟨c, k, v, f⟩ := x
  have h0 : 0 ≤ k := o.k0
  have h6 : k ≤ 6 := o.k6
  have ha : (argOf ⟨c, k, v, f⟩).size ≤ 8 := o.arg.2.2
  have hk : k = 0 ∨ k = 1 ∨ k = 2 ∨ k = 3 ∨ k = 4 ∨ k = 5 ∨ k = 6 := by omega
  have hv := o.v
  simp at hv
  rcases hk with rfl | rfl | rfl | rfl | rfl | rfl | rfl
  all_goals
    simp [argOf] at ha
    simp [encL, AV.inl, AV.refOk, AV.refNth, AV.rcs, AV.off, whatS, wordOf, argOf, wds, sp, szm]
  all_goals first
    | omega
    | (have hv2 := hv (by omega)
       refine ⟨_, itoa_fn v (by omega) (by omega), ?_⟩
       simp [szm]
       omega)
theorem word_fn2 {x : Cl} (o : OkC x) : Fn Tryd.prog 22 [.int x.k] .sc (.string (wordOf x)) := by
  have h0 := o.k0; have h6 := o.k6
  have hlt : x.k.toNat < wds.length := by rw [wds_len]; omega
  have := word_fn (k := x.k.toNat) (w := wordOf x) (by unfold wordOf; rw [List.getD_eq_getElem?_getD, List.getElem?_eq_getElem hlt]; rfl)
  rwa [show ((x.k.toNat : Nat) : Int) = x.k by omega] at this
theorem text_fn {x : Cl} (o : OkC x) (b : Bool) : Fn Tryd.prog 10 [cl x, .bool b] .sc (.string (if b then whatS x ++ sp ++ x.c else x.c ++ sp ++ whatS x)) := by
  refine fn_run mixed 3 (Γ := PhF.Γ) (ann := PhF.ann) Tryd.func10 rfl Tryd.call10 ((PhF.text_form _ _ _).mpr ?_)
  have hw := word_fn2 o
  obtain ⟨z1, z2, z3⟩ := o.size
  have z4 := o.arg.2.2
  have z5 : sp.size = 1 := rfl
  have hsp : (⟨#[32]⟩ : ByteArray) = sp := rfl
  have hv := o.v
  have h0 := o.k0
  obtain ⟨c, k, v, f⟩ := x
  simp only at z1 z2 z3 z4 hv h0
  simp only [hsp]
  simp [encL]
  refine ⟨fun hk => ?_, fun hk => ?_⟩
  · obtain ⟨_, hv1, hv2⟩ := hv (by omega)
    have e : argOf ⟨c, k, v, f⟩ = itoaS v := if_neg (by simp; omega)
    rw [e] at z4
    refine ⟨_, dec_fn2 hv1 hv2, _, hw, ?_⟩
    cases b <;> simp [whatS, e] <;> omega
  · have e : argOf ⟨c, k, v, f⟩ = f := if_pos (by simp; omega)
    rw [e] at z4
    refine ⟨_, hw, ?_⟩
    cases b <;> simp [whatS, e] <;> omega
def prV (x : Cl) : AV := .tup [.string (if clE x = 0 then x.c ++ sp ++ whatS x else ⟨#[]⟩), .int (clE x)]
def bkV (x : Cl) : AV := .tup [.string (if clE x = 0 then whatS x ++ sp ++ x.c else ⟨#[]⟩), .int (clE x)]
theorem print_fn (x : Cl) : Fn Tryd.prog 6 [cl x] (.tup [.sc, .sc]) (prV x) := by
  refine fn_run mixed 3 (Γ := PhF.Γ) (ann := PhF.ann) Tryd.func6 rfl Tryd.call6 ((PhF.print_form _ _).mpr ?_)
  have hsp : (⟨#[32]⟩ : ByteArray) = sp := rfl
  simp only [hsp]
  refine ⟨by simp [encL], _, pcheck_fn x, ?_⟩
  simp
  refine ⟨fun h => by simp [prV, h], fun h => ?_⟩
  obtain ⟨z1, z2, z3⟩ := (okC h).size
  have z5 : sp.size = 1 := rfl
  refine ⟨by simp [encL]; omega, _, what_fn (okC h), ?_⟩
  simp [prV, h, encL]
  omega
theorem back_fn (x : Cl) : Fn Tryd.prog 7 [cl x] (.tup [.sc, .sc]) (bkV x) := by
  refine fn_run mixed 3 (Γ := PhF.Γ) (ann := PhF.ann) Tryd.func7 rfl Tryd.call7 ((PhF.back_form _ _).mpr ?_)
  have hsp : (⟨#[32]⟩ : ByteArray) = sp := rfl
  simp only [hsp]
  refine ⟨by simp [encL], _, pcheck_fn x, ?_⟩
  simp
  refine ⟨fun h => by simp [bkV, h], fun h => ?_⟩
  obtain ⟨z1, z2, z3⟩ := (okC h).size
  have z5 : sp.size = 1 := rfl
  refine ⟨_, what_fn (okC h), ?_⟩
  simp [bkV, h, encL]
  omega
theorem read_no (c w r : ByteArray) (h : kindI w < 0) : Fn Tryd.prog 26 [.string c, .string w, .string r] (.tup [.sc, .sc]) (.tup [cl ⟨c, kindI w, 0, ⟨#[]⟩⟩, .bool false]) := by
  refine fn_run mixed 3 (Γ := PhF.Γ) (ann := PhF.ann) Tryd.func26 rfl Tryd.call26 ((PhF.read_form _ _ _ _).mpr ?_)
  refine ⟨_, kind_fn w, ?_⟩
  simp [h, encL]
theorem read_ok {x : Cl} (o : OkC x) : Fn Tryd.prog 26 [.string x.c, .string (wordOf x), .string (argOf x)] (.tup [.sc, .sc]) (.tup [cl x, .bool true]) := by
  refine fn_run mixed 3 (Γ := PhF.Γ) (ann := PhF.ann) Tryd.func26 rfl Tryd.call26 ((PhF.read_form _ _ _ _).mpr ?_)
  refine ⟨_, kind_fn _, ?_⟩
  rw [o.kind]
  have h0 := o.k0
  have hv := o.v
  have hf := o.f
  obtain ⟨c, k, v, f⟩ := x
  simp only at h0 hv hf
  simp [encL]
  refine ⟨h0, fun _ => ⟨fun h => ?_, fun h => ?_⟩⟩
  · have e0 := (hf (by omega)).1
    subst e0
    have e : argOf ⟨c, k, 0, f⟩ = f := if_pos (by simp; omega)
    simp [e]
  · obtain ⟨e0, hv1, hv2⟩ := hv (by omega)
    have e : argOf ⟨c, k, v, f⟩ = itoaS v := if_neg (by simp; omega)
    rw [e]
    have hs := itoa_size hv1 hv2
    refine ⟨_, atoi_fn (by omega) (atoi_itoa hv1), ?_⟩
    simp
    refine ⟨_, itoa_fn v (by omega) (by omega), ?_⟩
    simp [e0]
theorem parse_print {x : Cl} (h : clE x = 0) : Fn Tryd.prog 13 [.string (x.c ++ sp ++ whatS x)] (.tup [.sc, .sc, .sc]) (.tup [cl x, .bool false, .int 0]) := by
  have e := PhF.parse_form (.string (x.c ++ sp ++ whatS x)) (.tup [cl x, .bool false, .int 0])
  have k := fun h => fn_run mixed 3 (Γ := PhF.Γ) (ann := PhF.ann) Tryd.func13 rfl Tryd.call13 (e.mpr h)
  refine k ?_
  clear k e
  have o := okC h
  obtain ⟨z1, z2, z3⟩ := o.size
  have z5 : sp.size = 1 := rfl
  have hs : (x.c ++ sp ++ whatS x).size ≤ 120 := by simp only [ByteArray.size_append]; omega
  have hp := o.print
  have hsl := split_fn hs
  rw [hp] at hsl
  have a0 : AV.at (lst 1 encS [x.c, wordOf x, argOf x]) (.int 0) 0 = .string x.c := rfl
  have a1 : AV.at (lst 1 encS [x.c, wordOf x, argOf x]) (.int 1) 0 = .string (wordOf x) := rfl
  have a2 : AV.at (lst 1 encS [x.c, wordOf x, argOf x]) (.int 2) 0 = .string (argOf x) := rfl
  generalize x.c ++ sp ++ whatS x = s at *
  simp
  refine ⟨by omega, fun _ => ⟨_, hsl, ?_⟩⟩
  simp [a0, a1, a2]
  refine ⟨_, read_ok o, ?_⟩
  simp
  refine ⟨by simp [encL], _, pcheck_fn x, ?_⟩
  simp [h, encL]
theorem parse_back {x : Cl} (h : clE x = 0) : Fn Tryd.prog 13 [.string (whatS x ++ sp ++ x.c)] (.tup [.sc, .sc, .sc]) (.tup [cl x, .bool true, .int 0]) := by
  have e := PhF.parse_form (.string (whatS x ++ sp ++ x.c)) (.tup [cl x, .bool true, .int 0])
  have k := fun h => fn_run mixed 3 (Γ := PhF.Γ) (ann := PhF.ann) Tryd.func13 rfl Tryd.call13 (e.mpr h)
  refine k ?_
  clear k e
  have o := okC h
  obtain ⟨z1, z2, z3⟩ := o.size
  have z5 : sp.size = 1 := rfl
  have hs : (whatS x ++ sp ++ x.c).size ≤ 120 := by simp only [ByteArray.size_append]; omega
  have hp := o.back
  have hsl := split_fn hs
  rw [hp] at hsl
  have a0 : AV.at (lst 1 encS [wordOf x, argOf x, x.c]) (.int 0) 0 = .string (wordOf x) := rfl
  have a1 : AV.at (lst 1 encS [wordOf x, argOf x, x.c]) (.int 1) 0 = .string (argOf x) := rfl
  have a2 : AV.at (lst 1 encS [wordOf x, argOf x, x.c]) (.int 2) 0 = .string x.c := rfl
  generalize whatS x ++ sp ++ x.c = s at *
  simp
  refine ⟨by omega, fun _ => ⟨_, hsl, ?_⟩⟩
  simp [a0, a1, a2]
  refine ⟨_, read_no (wordOf x) (argOf x) x.c o.arg.2.1, ?_⟩
  simp
  refine ⟨by simp [encL], _, read_ok o, ?_⟩
  simp
  refine ⟨by simp [encL], _, pcheck_fn x, ?_⟩
  simp [h, encL]
end Go.Proofs.YtbeegkheobomaaaDoor
