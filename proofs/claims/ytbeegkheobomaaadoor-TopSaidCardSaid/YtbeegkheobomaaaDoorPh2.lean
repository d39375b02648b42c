/- phrase's fact and law. -/
import Derived.Test.YtbeegkheobomaaaDoorPh
import Derived.Test.YtbeegkheobomaaaDoorArgs
import Derived.Test.YtbeegkheobomaaaDoorSized
namespace Go.Proofs.YtbeegkheobomaaaDoor
open Go.RowKit
set_option linter.unusedVariables false
set_option linter.unusedSimpArgs false
set_option maxRecDepth 100000
theorem climbed_fn (n : Int) : Fn Tryd.prog 17 [.int n] .sc (cl ⟨⟨#[65, 49]⟩, 0, n, ⟨#[]⟩⟩) := by
  refine fn_run mixed 1 (Γ := RbF.Γ) (ann := RbF.ann) Tryd.func17 rfl Tryd.call17 ((RbF.climbed_form _ _).mpr ?_)
  simp [encL]
def fX : Cl := ⟨⟨#[65, 49]⟩, 0, 9000, ⟨#[]⟩⟩
theorem fX_ok : clE fX = 0 := by decide
theorem fX_itoa : itoaS 9000 = ⟨#[57, 48, 48, 48]⟩ := by
  have : decS 9000 = ⟨#[57, 48, 48, 48]⟩ := by
    rw [decS_ge (by omega), decS_ge (n := 9000 / 10) (by omega), decS_ge (n := 9000 / 10 / 10) (by omega), decS_lt (by omega), decS_lt (by omega)]
    show _ = _
    kernel_rfl
  rw [← this]
  exact (decS_itoa 9000).symm
theorem fX_what : whatS fX = ⟨#[72, 69, 73, 71, 72, 84, 32, 57, 48, 48, 48]⟩ := by
  have : argOf fX = ⟨#[57, 48, 48, 48]⟩ := by
    unfold argOf
    rw [if_neg (by decide)]
    exact fX_itoa
  unfold whatS
  rw [this]
  show _ = _
  kernel_rfl
theorem fX_print : fX.c ++ sp ++ whatS fX = ⟨#[65, 49, 32, 72, 69, 73, 71, 72, 84, 32, 57, 48, 48, 48]⟩ := by rw [fX_what]; show _ = _; kernel_rfl
theorem fX_back : whatS fX ++ sp ++ fX.c = ⟨#[72, 69, 73, 71, 72, 84, 32, 57, 48, 48, 48, 32, 65, 49]⟩ := by rw [fX_what]; show _ = _; kernel_rfl
theorem phfact_fn : Fn Tryd.prog 5 [] .sc (.bool true) := by
  have e := PhF.fact_form (.bool true)
  have k := fun h => fn_run mixed 3 (Γ := PhF.Γ) (ann := PhF.ann) Tryd.func5 rfl Tryd.call5 (e.mpr h)
  refine k ?_
  clear k e
  have h1 := print_fn fX
  have h2 := back_fn fX
  have h3 := parse_print fX_ok
  have h4 := parse_back fX_ok
  have e1 : prV fX = .tup [.string ⟨#[65, 49, 32, 72, 69, 73, 71, 72, 84, 32, 57, 48, 48, 48]⟩, .int 0] := by unfold prV; rw [if_pos fX_ok, fX_print, fX_ok]
  have e2 : bkV fX = .tup [.string ⟨#[72, 69, 73, 71, 72, 84, 32, 57, 48, 48, 48, 32, 65, 49]⟩, .int 0] := by unfold bkV; rw [if_pos fX_ok, fX_back, fX_ok]
  rw [e1] at h1
  rw [e2] at h2
  rw [fX_print] at h3
  rw [fX_back] at h4
  have h5 := pcheck_fn ⟨⟨#[]⟩, 0, 0, ⟨#[]⟩⟩
  rw [show clE ⟨⟨#[]⟩, 0, 0, ⟨#[]⟩⟩ = 3 by decide] at h5
  refine ⟨_, climbed_fn 9000, by simp [encL], _, h1, _, h2, _, h3, by simp [encL], _, h4, ?_⟩
  simp [encL, fX, AV.eqPlOk, AV.eqPl]
  refine ⟨_, h5, ?_⟩
  simp
theorem ptexts_fn (x : Cl) : Fn Tryd.prog 3 [cl x] .sc (.bool true) := by
  have e := PhF.texts_form (cl x) (.bool true)
  have k := fun h => fn_run mixed 3 (Γ := PhF.Γ) (ann := PhF.ann) Tryd.func3 rfl Tryd.call3 (e.mpr h)
  refine k ?_
  clear k e
  refine ⟨by simp [encL], _, phfact_fn, ?_⟩
  simp only [av_unOk_not, av_un_not, av_isBool, av_isF]
  refine ⟨trivial, trivial, rfl, _, print_fn x, _, back_fn x, _, cerr_fn x, _, pcheck_fn x, ?_⟩
  by_cases h : clE x = 0
  · simp [prV, bkV, h]
    have t1 := text_fn (okC h) false
    have t2 := text_fn (okC h) true
    simp at t1 t2
    refine ⟨_, t1, ?_⟩
    simp
    refine ⟨_, t2, ?_⟩
    simp
  · simp [prV, bkV, h]
theorem arg_cl {x : AV} (h : ArgOk Tryd.prog 23 x) : ∃ c, x = cl c := by
  obtain ⟨cs, e, hl, hc⟩ := arg_agg (P := Tryd.prog) (t := 23) (tys := [9, 3, 3, 9]) (by kernel_rfl) (by kernel_rfl) h
  obtain ⟨a, b, c, d, rfl⟩ := lst4 hl
  obtain ⟨s1, e1, _⟩ := c_str (by kernel_rfl) (hc 0 9 rfl)
  obtain ⟨s2, e2, _⟩ := c_int (by kernel_rfl) (hc 1 3 rfl)
  obtain ⟨s3, e3, _⟩ := c_int (by kernel_rfl) (hc 2 3 rfl)
  obtain ⟨s4, e4, _⟩ := c_str (by kernel_rfl) (hc 3 9 rfl)
  simp at e1 e2 e3 e4
  exact ⟨⟨s1, s2, s3, s4⟩, by rw [e, e1, e2, e3, e4]; rfl⟩
theorem phraseTexts_all (xs : List AV) (h1 : xs.length = 1) (h2 : ∀ i, i < 1 → ArgOk Tryd.prog ([23].getD i 0) (xs.getD i default))
    (h3 : ∀ i s L e, i < 1 → xs.getD i default = .sl s L → Tryd.prog.underlying ([23].getD i 0) = some (.slice e) → L.length * Tryd.prog.bytesOf e ≤ reachBytes) : Fn Tryd.prog 3 xs .sc (.bool true) := by
  obtain ⟨a, rfl⟩ := lst1 h1
  obtain ⟨c, e1⟩ := arg_cl (h2 0 (by omega))
  simp at e1
  subst e1
  exact ptexts_fn c
end Go.Proofs.YtbeegkheobomaaaDoor
