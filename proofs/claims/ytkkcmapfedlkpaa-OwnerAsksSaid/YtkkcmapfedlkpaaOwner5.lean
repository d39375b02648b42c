/- owner's laws. -/
import Derived.Test.YtkkcmapfedlkpaaOwner4
import Derived.Test.YtkkcmapfedlkpaaOwnerG
import Derived.Test.YtkkcmapfedlkpaaArgs
namespace Go.Proofs.Ytkkcmapfedlkpaa
open Go.RowKit
set_option linter.unusedVariables false
set_option linter.unusedSimpArgs false
set_option maxRecDepth 100000
theorem ofact_fn : Fn Try.prog 7 [] .sc (.bool true) := by
  refine fn_run mixed 2 (Γ := OwnerG.Γ) (ann := OwnerG.ann) Try.func7 rfl Try.call7 ((OwnerG.fact_form _).mpr ?_)
  have e1 : Ent Try.prog 10 := Try.call10
  obtain ⟨a, ha⟩ : ∃ a : ByteArray, a = ⟨#[65, 49]⟩ := ⟨_, rfl⟩
  obtain ⟨b, hb⟩ : ∃ b : ByteArray, b = ⟨#[69, 65, 83, 84]⟩ := ⟨_, rfl⟩
  obtain ⟨c, hc⟩ : ∃ c : ByteArray, c = ⟨#[87, 69, 83, 84]⟩ := ⟨_, rfl⟩
  have h1 := (begin_fn [] a b).nl (.cons (.nil 3) (.cons (.refl _) (.cons (.refl _) .nil)))
  rw [show beginV [] a b = okV [⟨a, b, ⟨#[]⟩⟩] by rw [ha, hb]; kernel_rfl] at h1
  have h2 := offer_fn [⟨a, b, ⟨#[]⟩⟩] a b c
  rw [show chV [⟨a, b, ⟨#[]⟩⟩] a (fOffer b c) = okV [⟨a, b, c⟩] by rw [ha, hb, hc]; kernel_rfl] at h2
  have h3 := accept_fn [⟨a, b, c⟩] a c
  rw [show chV [⟨a, b, c⟩] a (fAccept c) = okV [⟨a, c, ⟨#[]⟩⟩] by rw [ha, hb, hc]; kernel_rfl] at h3
  have h4 := cancel_fn [⟨a, b, c⟩] a c
  rw [show chV [⟨a, b, c⟩] a (fCancel c) = okV [⟨a, b, ⟨#[]⟩⟩] by rw [ha, hb, hc]; kernel_rfl] at h4
  have h5 := of_fn [⟨a, c, ⟨#[]⟩⟩] a
  rw [show ofV [⟨a, c, ⟨#[]⟩⟩] a = .tup [.string c, .int 0] by rw [ha, hc]; kernel_rfl] at h5
  have h6 := flights_fn [⟨a, c, ⟨#[]⟩⟩] c
  rw [show flightsV [⟨a, c, ⟨#[]⟩⟩] c = .tup [lst 1 encS [a], .int 0] by rw [ha, hc]; kernel_rfl] at h6
  have h7 := move_fn [⟨a, b, c⟩] c b
  rw [show moveV [⟨a, b, c⟩] c b = okV [⟨a, b, ⟨#[]⟩⟩] by rw [ha, hb, hc]; kernel_rfl] at h7
  have h8 := end_fn [⟨a, c, ⟨#[]⟩⟩] a c
  rw [show chV [⟨a, c, ⟨#[]⟩⟩] a (fEnd c) = okV [] by rw [ha, hc]; kernel_rfl] at h8
  have h9 := end_fn [⟨a, c, ⟨#[]⟩⟩] a b
  rw [show chV [⟨a, c, ⟨#[]⟩⟩] a (fEnd b) = errV 16 by rw [ha, hb, hc]; kernel_rfl] at h9
  have h10 := check_fn [⟨a, b, ⟨#[]⟩⟩, ⟨a, b, ⟨#[]⟩⟩]
  rw [show ownE [⟨a, b, ⟨#[]⟩⟩, ⟨a, b, ⟨#[]⟩⟩] = 7 by rw [ha, hb]; kernel_rfl] at h10
  have h11 := name_fn a
  rw [show isName a = true by rw [ha]; kernel_rfl] at h11
  have h12 := eqs_fn [a] [a] (by simp [maxLen])
  have h13 := eqo_fn [⟨a, b, ⟨#[]⟩⟩] [⟨a, b, ⟨#[]⟩⟩] (by simp [maxLen])
  rw [← ha, ← hb, ← hc]
  simp only [okV, errV] at *
  refine ⟨_, h1, _, h2, _, h3, _, h4, _, h5, _, h6, _, h7, _, h8, _, h9, ?_⟩
  simp [e1]
  refine ⟨_, h12, ?_⟩
  simp
  refine ⟨_, h13, ?_⟩
  simp
  refine ⟨_, h13, ?_⟩
  simp
  refine ⟨_, h11, ?_⟩
  simp
  refine ⟨by simp [AV.room], _, h10, ?_⟩
  simp
theorem ochecks_fn (l : List Ow) (s : ByteArray) : Fn Try.prog 3 [ows l, .string s] .sc (.bool true) := by
  refine fn_run mixed 2 (Γ := OwnerG.Γ) (ann := OwnerG.ann) Try.func3 rfl Try.call3 ((OwnerG.checks_form _ _ _).mpr ?_)
  have e1 : Ent Try.prog 10 := Try.call10
  simp [e1]
  refine ⟨_, ofact_fn, ?_⟩
  simp
  refine ⟨_, check_fn l, ?_⟩
  refine ⟨_, err_fn l, ?_⟩
  simp
  refine ⟨_, name_fn s, ?_⟩
  simp
  refine ⟨_, isname_fn s, ?_⟩
  simp
theorem begin_shape (l : List Ow) (call by_ : ByteArray) (hE : ownE l = 0) : ∃ m e, beginV l call by_ = .tup [ows m, .int e] ∧ m.length ≤ 25 := by
  obtain ⟨hl, _, _⟩ := ownE_ok hE
  unfold beginV
  rw [if_neg (by omega)]
  split
  · exact ⟨[], 3, rfl, by simp⟩
  · split
    · exact ⟨[], 7, rfl, by simp⟩
    · split
      · exact ⟨[], 9, rfl, by simp⟩
      · exact ⟨_, 0, rfl, by simp; omega⟩
theorem ch_shape (l : List Ow) (call : ByteArray) (F : Ow → Int × Option Ow) (hE : ownE l = 0) : ∃ m e, chV l call F = .tup [ows m, .int e] ∧ m.length ≤ 25 := by
  obtain ⟨hl, _, _⟩ := ownE_ok hE
  unfold chV
  rw [if_neg (by omega)]
  split
  · exact ⟨[], 8, rfl, by simp⟩
  · split
    · exact ⟨[], _, rfl, by simp⟩
    · split
      · exact ⟨_, 0, rfl, by have := List.length_eraseIdx_le l (plI l call); omega⟩
      · exact ⟨_, 0, rfl, by simp; omega⟩
theorem osteps_fn (l : List Ow) (call by_ to : ByteArray) : Fn Try.prog 4 [ows l, .string call, .string by_, .string to] .sc (.bool true) := by
  refine fn_run mixed 2 (Γ := OwnerG.Γ) (ann := OwnerG.ann) Try.func4 rfl Try.call4 ((OwnerG.steps_form _ _ _ _ _).mpr ?_)
  refine ⟨_, ofact_fn, ?_⟩
  simp
  refine loop_nat (σ := Unit) 5 (fun n _ => [.int (n : Nat)]) (fun _ _ => True) () rfl trivial ?_ ?_
  · intro n _ K hn _ hK
    rcases (show n = 0 ∨ n = 1 ∨ n = 2 ∨ n = 3 ∨ n = 4 by omega) with rfl | rfl | rfl | rfl | rfl
    · simp
      refine ⟨_, begin_fn l call by_, _, err_fn l, ?_⟩
      by_cases hE : ownE l = 0
      · obtain ⟨m, e, hV, hm⟩ := begin_shape l call by_ hE
        have hst := step0_fn l call by_ to hE
        rw [hV] at hst ⊢
        simp [hE]
        refine ⟨_, hst, ?_⟩
        simp
        refine ⟨_, eqo_fn m m (by unfold maxLen; omega), ?_⟩
        simp
        exact hK _ () (by simp [IntKind.wrap, IntKind.bits, IntKind.signed]) trivial
      · have hV : beginV l call by_ = errV (ownE l) := by simp [beginV, hE]
        rw [hV]
        simp [hE, errV]
        refine ⟨_, eqo_fn [] [] (by simp), ?_⟩
        simp
        exact hK _ () (by simp [IntKind.wrap, IntKind.bits, IntKind.signed]) trivial
    · simp
      refine ⟨_, end_fn l call by_, _, err_fn l, ?_⟩
      by_cases hE : ownE l = 0
      · obtain ⟨m, e, hV, hm⟩ := ch_shape l call _ hE
        have hst := step1_fn l call by_ to hE
        rw [hV] at hst ⊢
        simp [hE]
        refine ⟨_, hst, ?_⟩
        simp
        refine ⟨_, eqo_fn m m (by unfold maxLen; omega), ?_⟩
        simp
        exact hK _ () (by simp [IntKind.wrap, IntKind.bits, IntKind.signed]) trivial
      · have hV : chV l call (fEnd by_) = errV (ownE l) := by simp [chV, hE]
        rw [hV]
        simp [hE, errV]
        refine ⟨_, eqo_fn [] [] (by simp), ?_⟩
        simp
        exact hK _ () (by simp [IntKind.wrap, IntKind.bits, IntKind.signed]) trivial
    · simp
      refine ⟨_, offer_fn l call by_ to, _, err_fn l, ?_⟩
      by_cases hE : ownE l = 0
      · obtain ⟨m, e, hV, hm⟩ := ch_shape l call _ hE
        have hst := step2_fn l call by_ to hE
        rw [hV] at hst ⊢
        simp [hE]
        refine ⟨_, hst, ?_⟩
        simp
        refine ⟨_, eqo_fn m m (by unfold maxLen; omega), ?_⟩
        simp
        exact hK _ () (by simp [IntKind.wrap, IntKind.bits, IntKind.signed]) trivial
      · have hV : chV l call (fOffer by_ to) = errV (ownE l) := by simp [chV, hE]
        rw [hV]
        simp [hE, errV]
        refine ⟨_, eqo_fn [] [] (by simp), ?_⟩
        simp
        exact hK _ () (by simp [IntKind.wrap, IntKind.bits, IntKind.signed]) trivial
    · simp
      refine ⟨_, accept_fn l call by_, _, err_fn l, ?_⟩
      by_cases hE : ownE l = 0
      · obtain ⟨m, e, hV, hm⟩ := ch_shape l call _ hE
        have hst := step3_fn l call by_ to hE
        rw [hV] at hst ⊢
        simp [hE]
        refine ⟨_, hst, ?_⟩
        simp
        refine ⟨_, eqo_fn m m (by unfold maxLen; omega), ?_⟩
        simp
        exact hK _ () (by simp [IntKind.wrap, IntKind.bits, IntKind.signed]) trivial
      · have hV : chV l call (fAccept by_) = errV (ownE l) := by simp [chV, hE]
        rw [hV]
        simp [hE, errV]
        refine ⟨_, eqo_fn [] [] (by simp), ?_⟩
        simp
        exact hK _ () (by simp [IntKind.wrap, IntKind.bits, IntKind.signed]) trivial
    · simp
      refine ⟨_, cancel_fn l call by_, _, err_fn l, ?_⟩
      by_cases hE : ownE l = 0
      · obtain ⟨m, e, hV, hm⟩ := ch_shape l call _ hE
        have hst := step4_fn l call by_ to hE
        rw [hV] at hst ⊢
        simp [hE]
        refine ⟨_, hst, ?_⟩
        simp
        refine ⟨_, eqo_fn m m (by unfold maxLen; omega), ?_⟩
        simp
        exact hK _ () (by simp [IntKind.wrap, IntKind.bits, IntKind.signed]) trivial
      · have hV : chV l call (fCancel by_) = errV (ownE l) := by simp [chV, hE]
        rw [hV]
        simp [hE, errV]
        refine ⟨_, eqo_fn [] [] (by simp), ?_⟩
        simp
        exact hK _ () (by simp [IntKind.wrap, IntKind.bits, IntKind.signed]) trivial
  · intro _ K _
    simp
theorem oasks_fn (l : List Ow) (call by_ : ByteArray) : Fn Try.prog 5 [ows l, .string call, .string by_] .sc (.bool true) := by
  refine fn_run mixed 2 (Γ := OwnerG.Γ) (ann := OwnerG.ann) Try.func5 rfl Try.call5 ((OwnerG.asks_form _ _ _ _).mpr ?_)
  refine ⟨_, ofact_fn, ?_⟩
  simp
  refine ⟨_, of_fn l call, _, flights_fn l by_, _, err_fn l, ?_⟩
  by_cases hE : ownE l = 0
  · obtain ⟨hl, hnm, hs⟩ := ownE_ok hE
    have hV2 : flightsV l by_ = .tup [lst 1 encS (flightsOf by_ l), .int 0] := by simp [flightsV, hE]
    rw [hV2]
    simp [hE]
    refine loop_list (σ := List ByteArray) l (fun n out => [.int (n : Nat), lst 1 encS out]) (fun n rest out => flightsOf by_ l = out ++ flightsOf by_ rest ∧ out.length ≤ n) [] rfl ⟨by simp, by simp⟩ ?_ ?_
    · rintro n x rest out K hx hr hn ⟨hg, hlen⟩ hK
      have hw2 : IntKind.i64.wrap ((n : Int) + 1) = (n : Int) + 1 := wrap64 (by omega) (by omega)
      have hr1 := room_strs (out := out) (a := x.c) (by omega)
      simp [hn, lst_atAgg hx, encO, hw2]
      refine ⟨fun q => ⟨hr1, hK _ (out ++ [x.c]) (by simp) ⟨?_, by simp; omega⟩⟩, fun q => hK _ out (by simp) ⟨?_, by omega⟩⟩
      · rw [hg]; simp [flightsOf, q]
      · rw [hg]; simp [flightsOf, q]
    · rintro out K ⟨hg, hlen⟩
      have e : flightsOf by_ l = out := by rw [hg]; simp [flightsOf]
      have heq := eqs_fn out out (by unfold maxLen; omega)
      simp only [decide_true] at heq
      simp [e]
      refine ⟨_, at_fn l call (by omega), ?_⟩
      rcases look (call := call) hs with ⟨x, ht, hx, hxc, ha, h1, h2⟩ | ⟨ht, ha, h1⟩
      · have hlt : plI l call < l.length := (List.getElem?_eq_some_iff.1 hx).1
        have hV : ofV l call = .tup [.string x.o, .int 0] := by simp [ofV, hE, ht]
        rw [hV, ha]
        simp [hlt, lst_at hx, encO, heq]
      · have hV : ofV l call = .tup [.string ⟨#[]⟩, .int 8] := by simp [ofV, hE, ht]
        rw [hV, ha]
        simp [heq]
  · simp [hE, ofV, flightsV]
/-! ### the arguments -/
theorem arg_str {x : AV} (h : ArgOk Try.prog 9 x) : ∃ s : ByteArray, x = .string s ∧ s.size ≤ maxLen := c_str (by kernel_rfl) (arg_cell (by kernel_rfl) h)
theorem arg_ows {x : AV} (h : ArgOk Try.prog 22 x) : ∃ l, x = ows l ∧ l.length ≤ maxLen := by
  obtain ⟨l, e, h1, _⟩ := c_lst (P := Try.prog) (encA := encO) (Q := fun _ => True) (tys := [9, 9, 9]) (s := 3) (e := 34) (by kernel_rfl) (by kernel_rfl) (by kernel_rfl) (fun y hy hc => by
    obtain ⟨a, b, c, rfl⟩ := lst3 hy
    obtain ⟨s1, e1, _⟩ := c_str (by kernel_rfl) (hc 0 9 rfl)
    obtain ⟨s2, e2, _⟩ := c_str (by kernel_rfl) (hc 1 9 rfl)
    obtain ⟨s3, e3, _⟩ := c_str (by kernel_rfl) (hc 2 9 rfl)
    simp at e1 e2 e3
    exact ⟨⟨s1, s2, s3⟩, by rw [e1, e2, e3]; rfl, trivial⟩) (arg_cell (by kernel_rfl) h)
  exact ⟨l, e, h1⟩
theorem ownerChecks_all (xs : List AV) (h1 : xs.length = 2) (h2 : ∀ i, i < 2 → ArgOk Try.prog ([22, 9].getD i 0) (xs.getD i default)) : Fn Try.prog 3 xs .sc (.bool true) := by
  obtain ⟨a, b, rfl⟩ := lst2 h1
  obtain ⟨l, e1, _⟩ := arg_ows (h2 0 (by omega))
  obtain ⟨s, e2, _⟩ := arg_str (h2 1 (by omega))
  simp at e1 e2
  subst e1 e2
  exact ochecks_fn l s
theorem ownerSteps_all (xs : List AV) (h1 : xs.length = 4) (h2 : ∀ i, i < 4 → ArgOk Try.prog ([22, 9, 9, 9].getD i 0) (xs.getD i default)) : Fn Try.prog 4 xs .sc (.bool true) := by
  obtain ⟨a, b, c, d, rfl⟩ := lst4 h1
  obtain ⟨l, e1, _⟩ := arg_ows (h2 0 (by omega))
  obtain ⟨s2, e2, _⟩ := arg_str (h2 1 (by omega))
  obtain ⟨s3, e3, _⟩ := arg_str (h2 2 (by omega))
  obtain ⟨s4, e4, _⟩ := arg_str (h2 3 (by omega))
  simp at e1 e2 e3 e4
  subst e1 e2 e3 e4
  exact osteps_fn l s2 s3 s4
theorem ownerAsks_all (xs : List AV) (h1 : xs.length = 3) (h2 : ∀ i, i < 3 → ArgOk Try.prog ([22, 9, 9].getD i 0) (xs.getD i default)) : Fn Try.prog 5 xs .sc (.bool true) := by
  obtain ⟨a, b, c, rfl⟩ := lst3 h1
  obtain ⟨l, e1, _⟩ := arg_ows (h2 0 (by omega))
  obtain ⟨s2, e2, _⟩ := arg_str (h2 1 (by omega))
  obtain ⟨s3, e3, _⟩ := arg_str (h2 2 (by omega))
  simp at e1 e2 e3
  subst e1 e2 e3
  exact oasks_fn l s2 s3
end Go.Proofs.Ytkkcmapfedlkpaa
