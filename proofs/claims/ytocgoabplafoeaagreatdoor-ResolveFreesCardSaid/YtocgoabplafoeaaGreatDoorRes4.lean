/- resolve: the fact; Free finds each clash. -/
import Derived.Test.YtocgoabplafoeaaGreatDoorRes3
namespace Go.Proofs.YtocgoabplafoeaaGreatDoor
open Go.RowKit
set_option linter.unusedVariables false
set_option linter.unusedSimpArgs false
set_option maxRecDepth 100000
theorem of0_fn : Fn Tryz.prog 34 [pt ⟨0, 0⟩] (.tup [.sc, .sc]) (.tup [.int 0, .int 10]) := by
  have e := ResF.of_form (pt ⟨0, 0⟩) (.tup [.int 0, .int 10])
  have k := fun h => fn_run mixed 3 (Γ := ResF.Γ) (ann := ResF.ann) Tryz.func34 rfl Tryz.call34 (e.mpr h)
  refine k ?_
  clear k e
  simp [encP]
def n00 : Nd := ⟨0, 0, 0, 0, 0, 0⟩
theorem course_fn : Fn Tryz.prog 23 [tube (stT 0), nd n00] (.tup [.sc, .sc, .sc]) (.tup [.int 0, .int 0, .bool false]) := by
  have e := ResF.course_form (tube (stT 0)) (nd n00) (.tup [.int 0, .int 0, .bool false])
  have k := fun h => fn_run mixed 3 (Γ := ResF.Γ) (ann := ResF.ann) Tryz.func23 rfl Tryz.call23 (e.mpr h)
  refine k ?_
  clear k e
  have hd := dist_fn ⟨0, 0⟩ ⟨0, 0⟩
  have e1 : disA ⟨0, 0⟩ ⟨0, 0⟩ = 0 := by kernel_rfl
  have e2 : disB ⟨0, 0⟩ ⟨0, 0⟩ = 0 := by kernel_rfl
  have hs := sub_fn ⟨0, 0⟩ ⟨0, 0⟩
  have e3 : subP ⟨0, 0⟩ ⟨0, 0⟩ = ⟨0, 0⟩ := by kernel_rfl
  rw [e1, e2] at hd
  rw [e3] at hs
  have w1 : wr (0 + 1) = 1 := by kernel_rfl
  have w2 : wr 10 = 10 := by kernel_rfl
  have w0 : wr 0 = 0 := by kernel_rfl
  refine ⟨by simp [encN], by simp, ?_⟩
  refine loop_list (σ := Unit) (stT 0) (fun i _ => [.int (i : Nat)]) (fun i rest _ => i = 0 ∨ i = 1) () rfl (.inl rfl) ?_ ?_
  · rintro i x rest _ K hx hrest hi hG hK
    rcases hG with rfl | rfl
    · have hK' := hK [.int 1] () (by simp) (.inr rfl)
      obtain rfl : x = ⟨0, 0, 0, 0, 0, 0⟩ := by simp [stT] at hx; exact hx.symm
      have hai := lst_atAgg (s := 6) (enc := encN) (k := .i64) (j := 0) (m := 6) hx
      simp only [Int.natCast_zero, Int.cast_ofNat_Int] at hai
      have hai' : AV.atAgg (tube (stT 0)) (.lit (.int .i64 0)) 0 6 = .agg [.int 0, .int 0, .int 0, .int 0, .int 0, .int 0] := rfl
      simp [stT, n00, encN, w1]
      simp [stT, encN] at hai'
      rw [hai']
      simp
      exact hK'
    · obtain rfl : x = ⟨10, 0, 0, 0, 0, 0⟩ := by simp [stT] at hx; exact hx.symm
      have hai' : AV.atAgg (tube (stT 0)) (.lit (.int .i64 1)) 0 6 = .agg [.int 10, .int 0, .int 0, .int 0, .int 0, .int 0] := rfl
      simp [stT, n00, encN, w1]
      simp [stT, encN] at hai'
      rw [hai']
      simp
      refine ⟨_, hs, _, of0_fn, _, hd, ?_⟩
      simp [w2, w0]
  · rintro _ K hG
    rcases hG with h | h <;> simp [stT] at h
def jetU : Kd := { jetK with up := 200 }
def cA1 : ByteArray := ⟨#[65, 49]⟩
def encA (n : Int) : List AV := [.string cA1, .int 0, .int n, .string ⟨#[]⟩]
def outA (n : Nat) : List Int := (List.range n).map fun i : Nat => 1000 * ((i : Int) + 1)
theorem flat_A (l : List Int) : (lst 4 encA l).flatS := lst_flatS fun x _ z hz => by
  simp [encA] at hz; rcases hz with rfl | rfl | rfl | rfl <;> exact .lit _
theorem cand_fn : Fn Tryz.prog 10 [.string cA1, tube (stT 0), .int 0, kd jetU] (.tup [.row 44 4 true, .sc]) (.tup [lst 4 encA [1000, 2000, 3000], .int 0]) := by
  have e := ResF.cand_form (.string cA1) (tube (stT 0)) (.int 0) (kd jetU) (.tup [lst 4 encA [1000, 2000, 3000], .int 0])
  have k := fun h => fn_run mixed 3 (Γ := ResF.Γ) (ann := ResF.ann) Tryz.func10 rfl Tryz.call10 (e.mpr h)
  refine k ?_
  clear k e
  have h1 := tcheck_fn (stT 0)
  rw [show tE (stT 0) = 0 by kernel_rfl] at h1
  have h2 := acheck_fn jetU
  rw [show kE jetU = 0 by kernel_rfl] at h2
  have h3 := tat_fn (stT 0) 0
  rw [show tatV (stT 0) 0 = .tup [nd n00, .int 0] by kernel_rfl] at h3
  have h4 := pcheck_fn ⟨cA1, 0, 0, ⟨#[]⟩⟩
  rw [show clE ⟨cA1, 0, 0, ⟨#[]⟩⟩ = 0 by kernel_rfl] at h4
  refine ⟨by simp, by simp [encKd], _, h1, by simp, by simp, fun h => absurd h (by simp), fun _ => ⟨_, h2, by simp, by simp, fun h => absurd h (by simp), fun _ => ⟨_, h3, by simp [encN], by simp, by simp, fun h => absurd h (by simp), fun _ => ⟨by simp, _, h4, by simp, by simp, fun h => absurd h (by simp), fun _ => ⟨_, course_fn, ?_⟩⟩⟩⟩⟩
  refine loop_nat (σ := Unit) 3 (fun n _ => [.int ((n : Int) + 1), lst 4 encA (outA n)]) (fun _ _ => True) () rfl trivial ?_ ?_
  · rintro n _ K hn _ hK
    have hK' := hK [.int ((n : Int) + 1 + 1), lst 4 encA (outA (n + 1))] () (by simp) trivial
    clear hK
    have hO : outA (n + 1) = outA n ++ [1000 * ((n : Int) + 1)] := by unfold outA; rw [List.range_succ]; simp
    have hol : (outA n).length ≤ 3 := by simp [outA]; omega
    have w1 : wr ((n : Int) + 1 + 1) = (n : Int) + 1 + 1 := wr_id (by omega) (by omega)
    have w2 : wr (1000 * ((n : Int) + 1)) = 1000 * ((n : Int) + 1) := wr_id (by omega) (by omega)
    have w3 : wr (0 + 1000 * ((n : Int) + 1)) = 1000 * ((n : Int) + 1) := by rw [wr_id (by omega) (by omega)]; omega
    have w4 : wr (0 - 1000 * ((n : Int) + 1)) = -(1000 * ((n : Int) + 1)) := by rw [wr_id (by omega) (by omega)]; omega
    have hn3 : (n : Int) + 1 ≤ 3 := by omega
    have hroom : AV.room (lst 4 encA (outA n)) (.sl 4 [[.string cA1, .int 0, .int (1000 * ((n : Int) + 1)), .string ⟨#[]⟩]]) 48 := by
      unfold AV.room
      simp only [lst_els, List.length_map, av_els, List.length_cons, List.length_nil]
      omega
    have happ : AV.app 4 (lst 4 encA (outA n)) (.sl 4 [[.string cA1, .int 0, .int (1000 * ((n : Int) + 1)), .string ⟨#[]⟩]]) = lst 4 encA (outA (n + 1)) := by rw [hO]; simp [lst, encA]
    simp only [List.getD_cons_zero, List.getD_cons_succ, av_mul, wr_eq, w2, av_prj, av_cel, n00, encN, av_add, av_subt, w3, w4, w1]
    refine ⟨by simp, by simp, fun _ => ⟨by simp, by simp, by simp, by simp, by simp, by simp, ?_⟩, fun h => absurd h (by simp; omega)⟩
    refine loop_nat (σ := Unit) 2 (fun j _ => [.int (j : Nat), if j = 0 then lst 4 encA (outA n) else lst 4 encA (outA (n + 1))]) (fun _ _ => True) () rfl trivial ?_ ?_
    · rintro j _ K2 hj _ hK2
      have hK2' := hK2 [.int ((j : Int) + 1), lst 4 encA (outA (n + 1))] () (by simp) trivial
      have wj : wr ((j : Int) + 1) = (j : Int) + 1 := wr_id (by omega) (by omega)
      have hjj : j = 0 ∨ j = 1 := by omega
      rcases hjj with rfl | rfl
      · have hnth : ∀ a b : AV, AV.nth [a, b] 0 [(.int ((0 : Nat) : Int), 1)] = a := fun a b => rfl
        have hcl : (encKd jetU).getD 2 default = .int 40000 := rfl
        have hKz : K2 [.int ((0 : Nat) + 1 : Int), lst 4 encA (outA (n + 1))] := hK2'
        simp only [List.getD_cons_zero, List.getD_cons_succ, hnth, if_true, av_mk, happ, hcl, av_add, wr_eq, wj]
        refine ⟨by simp, by simp, fun _ => ⟨by simp [AV.inl], by simp, by simp, fun _ => ⟨by simp, by simp, by simp; omega, by simp, fun _ => ⟨Tryz.call24, fun _ => ⟨by simp, by simp, hroom, by simp, hKz⟩⟩, fun h => absurd h (by simp; omega)⟩, fun h => absurd h (by simp; omega)⟩, fun h => absurd h (by simp)⟩
      · have hnth : ∀ a b : AV, AV.nth [a, b] 0 [(.int ((1 : Nat) : Int), 1)] = b := fun a b => rfl
        have hKz : K2 [.int ((1 : Nat) + 1 : Int), lst 4 encA (outA (n + 1))] := hK2'
        simp only [List.getD_cons_zero, List.getD_cons_succ, hnth, show ¬ (1 : Nat) = 0 by omega, if_false, av_add, wr_eq, wj]
        refine ⟨by simp, by simp, fun _ => ⟨by simp [AV.inl], by simp, by simp, fun h => absurd h (by simp; omega), fun _ => ⟨by simp, by simp; omega, by simp, hKz⟩⟩, fun h => absurd h (by simp)⟩
    · rintro _ K2 _
      simp only [List.getD_cons_zero, List.getD_cons_succ, show ¬ (2 : Nat) = 0 by omega, if_false]
      refine ⟨by simp, by simp, fun h => absurd h (by simp), fun _ => ⟨by simp, by simp, fun _ => ⟨by simp, hK'⟩, fun h => absurd h (by simp)⟩⟩
  · rintro _ K _
    simp only [List.getD_cons_zero, List.getD_cons_succ]
    refine ⟨by simp, by simp, fun h => absurd h (by simp), fun _ => ?_⟩
    exact ⟨flat_A _, .lit _, rfl⟩
theorem best_fn : Fn Tryz.prog 13 [tbs [stT 0, stT 100], .int 0, sp ⟨100, 1000⟩, .string cA1, .int 0, kd jetU] (.tup [.sc, .row 58 6 true, .sc]) (.tup [.agg [.string ⟨#[]⟩, .int 0, .int 0, .string ⟨#[]⟩], .sl 6 [], .int 11]) := by
  have e := ResF.best_form (tbs [stT 0, stT 100]) (.int 0) (sp ⟨100, 1000⟩) (.string cA1) (.int 0) (kd jetU) (.tup [.agg [.string ⟨#[]⟩, .int 0, .int 0, .string ⟨#[]⟩], .sl 6 [], .int 11])
  have k := fun h => fn_run mixed 3 (Γ := ResF.Γ) (ann := ResF.ann) Tryz.func13 rfl Tryz.call13 (e.mpr h)
  refine k ?_
  clear k e
  have h1 := rcheck_fn [stT 0, stT 100] 0 ⟨100, 1000⟩
  rw [show rcE [stT 0, stT 100] 0 ⟨100, 1000⟩ = 0 by kernel_rfl] at h1
  have h2 := free_fn2 [stT 0, stT 100] 0 (stT 0) ⟨100, 1000⟩ (by simp)
  rw [show freeB 0 (stT 0) ⟨100, 1000⟩ 0 [stT 0, stT 100] = true by kernel_rfl] at h2
  have hat : AV.at (tbs [stT 0, stT 100]) (.int 0) 0 = tube (stT 0) := rfl
  refine ⟨by simp [encSp], by simp [encKd], _, h1, by simp, by simp, fun h => absurd h (by simp), fun _ => ⟨by simp, by simp, _, by rw [hat]; exact cand_fn, by simp, by simp, fun h => absurd h (by simp), fun _ => ⟨by simp, by simp, _, by rw [hat]; exact h2, by simp, fun _ => ?_, fun h => absurd h (by simp)⟩⟩⟩
  simp
theorem rfact_fn : Fn Tryz.prog 4 [] .sc (.bool true) := by
  have e := ResF.rfact_form (.bool true)
  have k := fun h => fn_run mixed 3 (Γ := ResF.Γ) (ann := ResF.ann) Tryz.func4 rfl Tryz.call4 (e.mpr h)
  refine k ?_
  clear k e
  have h1 := rfree_fn [levT, levT] 0 ⟨100, 1000⟩
  rw [show rfB [levT, levT] 0 ⟨100, 1000⟩ = false by kernel_rfl, show rcE [levT, levT] 0 ⟨100, 1000⟩ = 0 by kernel_rfl] at h1
  have h2 := rfree_fn [stT 0, stT 100] 0 ⟨100, 1000⟩
  rw [show rfB [stT 0, stT 100] 0 ⟨100, 1000⟩ = true by kernel_rfl, show rcE [stT 0, stT 100] 0 ⟨100, 1000⟩ = 0 by kernel_rfl] at h2
  refine ⟨_, level_fn, _, level_fn, _, jet_fn, by simp [encKd], _, still_fn 0, _, cand_fn, _, near_fn, _, h1, _, still_fn 0, _, still_fn 100, _, near_fn, _, h2, _, still_fn 0, _, still_fn 100, _, near_fn, _, best_fn, ?_⟩
  have p1 : ∀ n : Int, AV.eqPlOk [(0, EK.str), (1, EK.int .i64), (2, EK.int .i64), (3, EK.str)] (encA n) (encA n) := fun n p hp => by
    simp at hp
    rcases hp with rfl | rfl | rfl | rfl <;> simp [encA]
  (repeat (refine And.intro (by first | (simp [lst, encA]; done) | kernel_rfl) ?_))
  refine ⟨_, climbed_fn 1000, p1 1000, ⟨_, rfl, rfl⟩, ⟨_, rfl, rfl⟩, by simp [lst], by simp [lst], (by show _ = _; kernel_rfl), (by show _ = _; kernel_rfl), by simp [lst], by simp [lst], _, climbed_fn 3000, p1 3000, ⟨_, rfl, rfl⟩, ⟨_, rfl, rfl⟩, (by show _ = _; kernel_rfl), (by show _ = _; kernel_rfl), .lit _, (by show _ = _; kernel_rfl)⟩
theorem lfrees_fn (l : List (List Nd)) (i : Int) (s : Sp) : Fn Tryz.prog 3 [tbs l, .int i, sp s] .sc (.bool true) := by
  have e := ResF.lfrees_form (tbs l) (.int i) (sp s) (.bool true)
  have k := fun h => fn_run mixed 3 (Γ := ResF.Γ) (ann := ResF.ann) Tryz.func3 rfl Tryz.call3 (e.mpr h)
  refine k ?_
  clear k e
  have hB : rfB l i s = if rcE l i s = 0 then freeB i (l.getD i.toNat []) s 0 l else false := rfl
  have hok := rcE_ok (l := l) (i := i) (s := s)
  have hf := rfree_fn l i s
  have ht := terr_fn l i s
  rw [hB] at hf
  clear hB
  refine ⟨by simp [encSp], _, rfact_fn, by simp, by simp, by simp, by simp, by simp, by simp, fun _ => ⟨.lit _, rfl⟩, fun h => ⟨_, hf, _, ht, by simp, by simp, fun g => ?_, fun g => ?_⟩⟩
  · have g : rcE l i s ≠ 0 := by simpa using g
    rw [if_neg g]
    simp
  · have g : rcE l i s = 0 := by simpa using g
    obtain ⟨h1, h2, h3⟩ := hok g
    rw [if_pos g, g]
    obtain ⟨z, hz⟩ : ∃ z, l[i.toNat]? = some z := ⟨_, List.getElem?_eq_getElem (by omega)⟩
    have hzd : l.getD i.toNat [] = z := by rw [List.getD_eq_getElem?_getD, hz]; rfl
    have hat : AV.at (tbs l) (.lit (.int .i64 i)) 0 = tube z := by rw [lst_atI h2 hz]; rfl
    rw [hzd]
    refine ⟨by simp, ?_⟩
    refine loop_list (σ := Bool) l (fun j m => [.bool m, .int (j : Nat)]) (fun j rest m => freeB i z s 0 l = (!m && freeB i z s j rest)) false rfl (by simp) ?_ ?_
    · rintro j x rest m K hx hrest hj hG hK
      have hwi : wr ((j : Int) + 1) = (j : Int) + 1 := wr_id (by omega) (by omega)
      have hatx := lst_at (s := 1) (enc := encT) (k := .i64) (j := 0) hx
      simp only [encT, List.getD_cons_zero] at hatx
      have hc := clash_fn z x s
      rw [freeB] at hG
      have hK1 := fun m' (q : freeB i z s 0 l = (!m' && freeB i z s (j + 1) rest)) => hK [.bool m', .int ((j : Int) + 1)] m' (by simp) q
      clear hK
      simp only [List.getD_cons_zero, List.getD_cons_succ, hat, hatx, av_add, wr_eq, hwi]
      refine ⟨by simp, by simp, fun _ => ⟨by simp, fun q => ?_, fun q => ?_⟩, fun q => absurd q (by simp; omega)⟩
      · have q : m = true := by simpa using q
        subst q
        exact ⟨by simp, by simp, by simp, hK1 true (by simpa using hG)⟩
      · have q : m = false := by simpa using q
        subst q
        refine ⟨by simp, by simp, fun p => ⟨by simp, by simp; omega, by simp, by simp; omega, _, hc, by simp, p, by simp, by simp, by simp, hK1 _ ?_⟩, fun p => ⟨by simp, p, by simp, by simp, by simp, hK1 false ?_⟩⟩
        · have p : ¬ (j : Int) = i := by simpa using p
          rw [hG]
          by_cases c : firE z x s = 0
          · simp [c, p]
          · simp [c]
        · have p : (j : Int) = i := by simpa using p
          rw [hG]
          simp [p]
    · rintro m K hG
      rw [freeB] at hG
      rw [hG]
      simp only [List.getD_cons_zero, List.getD_cons_succ]
      refine ⟨by simp, by simp, fun q => absurd q (by simp), fun _ => ?_⟩
      cases m <;> simp
end Go.Proofs.YtocgoabplafoeaaGreatDoor
