/- owner's laws. -/
import Derived.Test.YtalfopommofdfaaOwner4
import Derived.Test.YtalfopommofdfaaOwnerG
import Derived.Test.YtalfopommofdfaaArgs
namespace Go.Proofs.Ytalfopommofdfaa
open Go.RowKit
set_option linter.unusedVariables false
set_option linter.unusedSimpArgs false
set_option maxRecDepth 100000
theorem ofact_fn : Fn Try.prog 14 [] .sc (.bool true) := by
  refine fn_run mixed 2 (Γ := OwnerG.Γ) (ann := OwnerG.ann) Try.func14 rfl Try.call14 ((OwnerG.fact_form _).mpr ?_)
  have e1 : Ent Try.prog 36 := Try.call36
  obtain ⟨a, ha⟩ : ∃ a : ByteArray, a = ⟨#[65, 49]⟩ := ⟨_, rfl⟩
  obtain ⟨b, hb⟩ : ∃ b : ByteArray, b = ⟨#[69, 65, 83, 84]⟩ := ⟨_, rfl⟩
  obtain ⟨c, hc⟩ : ∃ c : ByteArray, c = ⟨#[87, 69, 83, 84]⟩ := ⟨_, rfl⟩
  have h1 := (begin_fn [] a b).nl (.cons (.nil 3) (.cons (.refl _) (.cons (.refl _) .nil)))
  rw [show beginV [] a b = okV [⟨a, b, ⟨#[]⟩⟩] by rw [ha, hb]; kernel_rfl] at h1
  have h2 := offer_fn [⟨a, b, ⟨#[]⟩⟩] a b c
  rw [show chV [⟨a, b, ⟨#[]⟩⟩] a (fOffer b c) = okV [⟨a, b, c⟩] by rw [ha, hb, hc]; kernel_rfl] at h2
  have h3 := accept_fn [⟨a, b, c⟩] a c
  rw [show chV [⟨a, b, c⟩] a (fAccept c) = okV [⟨a, c, ⟨#[]⟩⟩] by rw [ha, hb, hc]; kernel_rfl] at h3
  have h4 := cancel_fn [⟨a, b, c⟩] a c
  rw [show chV [⟨a, b, c⟩] a (fCancel c) = okV [⟨a, b, ⟨#[]⟩⟩] by rw [ha, hb, hc]; kernel_rfl] at h4
  have h5 := of_fn [⟨a, c, ⟨#[]⟩⟩] a
  rw [show ofV [⟨a, c, ⟨#[]⟩⟩] a = .tup [.string c, .int 0] by rw [ha, hc]; kernel_rfl] at h5
  have h6 := flights_fn [⟨a, c, ⟨#[]⟩⟩] c
  rw [show flightsV [⟨a, c, ⟨#[]⟩⟩] c = .tup [lst 1 encS [a], .int 0] by rw [ha, hc]; kernel_rfl] at h6
  have h7 := move_fn [⟨a, b, c⟩] c b
  rw [show moveV [⟨a, b, c⟩] c b = okV [⟨a, b, ⟨#[]⟩⟩] by rw [ha, hb, hc]; kernel_rfl] at h7
  have h8 := end_fn [⟨a, c, ⟨#[]⟩⟩] a c
  rw [show chV [⟨a, c, ⟨#[]⟩⟩] a (fEnd c) = okV [] by rw [ha, hc]; kernel_rfl] at h8
  have h9 := end_fn [⟨a, c, ⟨#[]⟩⟩] a b
  rw [show chV [⟨a, c, ⟨#[]⟩⟩] a (fEnd b) = errV 16 by rw [ha, hb, hc]; kernel_rfl] at h9
  have h10 := check_fn [⟨a, b, ⟨#[]⟩⟩, ⟨a, b, ⟨#[]⟩⟩]
  rw [show ownE [⟨a, b, ⟨#[]⟩⟩, ⟨a, b, ⟨#[]⟩⟩] = 7 by rw [ha, hb]; kernel_rfl] at h10
  have h11 := name_fn a
  rw [show isName a = true by rw [ha]; kernel_rfl] at h11
  have h12 := eqs_fn [a] [a] (by simp [maxLen])
  have h13 := eqo_fn [⟨a, b, ⟨#[]⟩⟩] [⟨a, b, ⟨#[]⟩⟩] (by simp [maxLen])
  rw [← ha, ← hb, ← hc]
  simp only [okV, errV] at *
  refine ⟨_, h1, _, h2, _, h3, _, h4, _, h5, _, h6, _, h7, _, h8, _, h9, ?_⟩
  simp [e1]
  refine ⟨_, h12, ?_⟩
  simp
  refine ⟨_, h13, ?_⟩
  simp
  refine ⟨_, h13, ?_⟩
  simp
  refine ⟨_, h11, ?_⟩
  simp
  refine ⟨by simp [AV.room], _, h10, ?_⟩
  simp
theorem begin_shape (l : List Ow) (call by_ : ByteArray) (hE : ownE l = 0) : ∃ m e, beginV l call by_ = .tup [ows m, .int e] ∧ m.length ≤ 25 := by
  obtain ⟨hl, _, _⟩ := ownE_ok hE
  unfold beginV
  rw [if_neg (by omega)]
  split
  · exact ⟨[], 3, rfl, by simp⟩
  · split
    · exact ⟨[], 7, rfl, by simp⟩
    · split
      · exact ⟨[], 9, rfl, by simp⟩
      · exact ⟨_, 0, rfl, by simp; omega⟩
theorem ch_shape (l : List Ow) (call : ByteArray) (F : Ow → Int × Option Ow) (hE : ownE l = 0) : ∃ m e, chV l call F = .tup [ows m, .int e] ∧ m.length ≤ 25 := by
  obtain ⟨hl, _, _⟩ := ownE_ok hE
  unfold chV
  rw [if_neg (by omega)]
  split
  · exact ⟨[], 8, rfl, by simp⟩
  · split
    · exact ⟨[], _, rfl, by simp⟩
    · split
      · exact ⟨_, 0, rfl, by have := List.length_eraseIdx_le l (plI l call); omega⟩
      · exact ⟨_, 0, rfl, by simp; omega⟩
/-! ### the arguments -/
theorem arg_str {x : AV} (h : ArgOk Try.prog 9 x) : ∃ s : ByteArray, x = .string s ∧ s.size ≤ maxLen := c_str (by kernel_rfl) (arg_cell (by kernel_rfl) h)
theorem arg_ows {x : AV} (h : ArgOk Try.prog 37 x) : ∃ l, x = ows l ∧ l.length ≤ maxLen := by
  obtain ⟨l, e, h1, _⟩ := c_lst (P := Try.prog) (encA := encO) (Q := fun _ => True) (tys := [9, 9, 9]) (s := 3) (e := 44) (by kernel_rfl) (by kernel_rfl) (by kernel_rfl) (fun y hy hc => by
    obtain ⟨a, b, c, rfl⟩ := lst3 hy
    obtain ⟨s1, e1, _⟩ := c_str (by kernel_rfl) (hc 0 9 rfl)
    obtain ⟨s2, e2, _⟩ := c_str (by kernel_rfl) (hc 1 9 rfl)
    obtain ⟨s3, e3, _⟩ := c_str (by kernel_rfl) (hc 2 9 rfl)
    simp at e1 e2 e3
    exact ⟨⟨s1, s2, s3⟩, by rw [e1, e2, e3]; rfl, trivial⟩) (arg_cell (by kernel_rfl) h)
  exact ⟨l, e, h1⟩
end Go.Proofs.Ytalfopommofdfaa
