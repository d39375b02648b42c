/- Proved: FlowDemands returns true for every input, and leaves its arguments as they were. Conditions: none. -/
import Derived.Test.YtnmepkcbpkcegaaShell
import Derived.Test.YtnmepkcbpkcegaaFlowDemands
import Derived.Test.YtnmepkcbpkcegaaOpenFlow
import Derived.Test.YtnmepkcbpkcegaaOpenWake
namespace Go.Proofs.Ytnmepkcbpkcegaa.flowDemands
open Go.ChangeShapes Go.WideShapes Go.ChangeAt Go.RowKit Go.Joins
open Go.ChangeMaps (open_string shut_string)
set_option linter.unusedVariables false

set_option maxRecDepth 100000 in
theorem lifted (os : Os) (started : os.Started) (H : Type) (enc : TypeId × Value → H) :
    ReturnsInHanded {} Try.checked os 10 .any (Rows.flowDemandsSpec.pre6 enc Try.prog Try.f10 Rows.flowDemandsRow.domain false) (Rows.flowDemandsSpec.post enc Try.prog Try.f10 false true false false) := by
  refine returnsInHanded_of_change (C := Try.checked) own started (by kernel_rfl) Try.func10
    (ChangeSpec.witness6 (enc := enc) (C := Try.checked) false ⟨#[], #[.slice none 0 0, .slice none 0 0], []⟩ 8 (by kernel_rfl) (by kernel_rfl) (by kernel_rfl) (by kernel_rfl)) ?_
  intro W base args ds gs before hval0 hW hcnd _
  have hval : ∀ (j : Nat) t v, Try.f10.params[j]? = some t → args[j]? = some v → Value.okWide Try.prog W .any base t v := hval0
  have hW' := hW
  obtain ⟨p, q, hA0, hV, rfl, hfz, hnd⟩ := hW
  have hA : DataW.TrodAll enc Try.prog W 0 (fun _ => true) true Try.f10.params.toList args.toList ds p := hA0
  rw [Try.params10] at hA hval
  obtain ⟨v0, vs0, d0, ds0, p0, q0, hargs, rfl, rfl, h0, r0⟩ := trodAll_cons hA
  obtain ⟨v1, vs1, d1, ds1, p1, q1, rfl, rfl, rfl, h1, r1⟩ := trodAll_cons r0
  obtain ⟨rfl, rfl, rfl⟩ := trodAll_nil r1
  obtain rfl : args = #[v0, v1] := by cases args; simp_all
  obtain ⟨rfl, rfl⟩ := trodVars_none hV
  obtain ⟨A, n, c, l, rfl, hl0, hn0, hc0, hS0⟩ := open_capl (hval 0 56 v0 rfl rfl) h0
  obtain ⟨C, m, d, ts, rfl, hl1, hn1, hc1, hw1, hS1⟩ := open_intl (hval 1 45 v1 rfl rfl) h1
  clear hA0 hval0
  exact (demands_walk A C n c m d l ts W hl0 hl1 (Nat.le_trans hn0 hc0) (Nat.le_trans hn1 hc1) hS0 hS1).mono fun e W' hr => law_end (by kernel_rfl) rfl rfl hW' rfl rfl rfl hr

theorem over : Rows.flowDemandsRow.holds Try.pinned (OpenSpec.ofChange Rows.flowDemandsSpec) :=
  OpenClaim.holds_of_wide 10 Try.f10 rfl rfl rfl rfl rfl rfl rfl ⟨rfl, rfl, rfl, rfl, rfl⟩ rfl rfl rfl rfl rfl (by kernel_rfl) Try.func10 (by kernel_rfl)
    (of_decide_eq_true (by kernel_rfl)) (by unfold Func.isWrapper; first | (rw [if_pos (by decide +kernel)]; kernel_rfl) | (rw [if_neg (by decide +kernel)]; exact ⟨rfl, rfl⟩))
    (fun os started H enc _ => lifted os started H enc)

theorem proved : Rows.FlowDemandsSaid := over
end Go.Proofs.Ytnmepkcbpkcegaa.flowDemands
