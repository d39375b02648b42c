/- owner's steps. -/
import Derived.Test.YtalfopommofdfaaOwner2
namespace Go.Proofs.Ytalfopommofdfaa
open Go.RowKit
set_option linter.unusedVariables false
set_option linter.unusedSimpArgs false
set_option maxRecDepth 100000
def errV (e : Int) : AV := .tup [.sl 3 [], .int e]
def okV (l : List Ow) : AV := .tup [ows l, .int 0]
/-- A change of one entry: an error, or the entry (none: it is removed). -/
def chV (l : List Ow) (call : ByteArray) (F : Ow → Int × Option Ow) : AV :=
  if ownE l ≠ 0 then errV (ownE l) else match there l call with
    | none => errV 8
    | some x => if (F x).1 ≠ 0 then errV (F x).1 else match (F x).2 with
      | none => okV (l.eraseIdx (plI l call))
      | some y => okV (l.set (plI l call) y)
def fEnd (by_ : ByteArray) (x : Ow) : Int × Option Ow := if x.o ≠ by_ then (16, none) else (0, none)
def fOffer (by_ to : ByteArray) (x : Ow) : Int × Option Ow := if x.o ≠ by_ then (16, none) else if x.f ≠ ⟨#[]⟩ then (11, none) else if isName to = false then (3, none) else if to = by_ then (1, none) else (0, some { x with f := to })
def fAccept (by_ : ByteArray) (x : Ow) : Int × Option Ow := if x.f = ⟨#[]⟩ then (11, none) else if x.f ≠ by_ then (16, none) else (0, some { x with o := by_, f := ⟨#[]⟩ })
def fCancel (by_ : ByteArray) (x : Ow) : Int × Option Ow := if x.f = ⟨#[]⟩ then (11, none) else if x.f ≠ by_ ∧ x.o ≠ by_ then (16, none) else (0, some { x with f := ⟨#[]⟩ })
def beginV (l : List Ow) (call by_ : ByteArray) : AV :=
  if ownE l ≠ 0 then errV (ownE l) else if isName call = false ∨ isName by_ = false then errV 3 else if (there l call).isSome then errV 7 else if l.length = 24 then errV 9 else okV (l.take (plI l call) ++ (⟨call, by_, ⟨#[]⟩⟩ :: l.drop (plI l call)))
theorem chV_at {l : List Ow} {call : ByteArray} {x : Ow} (F : Ow → Int × Option Ow) (hE : ownE l = 0) (ht : there l call = some x) : chV l call F = if (F x).1 ≠ 0 then errV (F x).1 else match (F x).2 with | none => okV (l.eraseIdx (plI l call)) | some y => okV (l.set (plI l call) y) := by simp [chV, hE, ht]
theorem plI_le (l : List Ow) (call : ByteArray) : plI l call ≤ l.length := by
  unfold plI
  induction l with
  | nil => simp [plR]
  | cons x l ih => rw [plR]; split <;> simp; omega
theorem insO (l : List Ow) (x : Ow) (i : Nat) (hi : i ≤ l.length) (hl : l.length ≤ 24) : FnU Try.prog 43 44 3 (ows l) [.int i, .sl 3 [[.string x.c, .string x.o, .string x.f]]] true (ows (l.take i ++ (x :: l.drop i))) := by
  have := insOwn (l.map encO) [encO x] i (by simpa using hi) (by simp) (by intro y hy z hz; simp at hy; subst hy; simp [encO] at hz; rcases hz with rfl | rfl | rfl <;> exact .lit _) (by simp; omega)
  simpa [lst, List.map_take, List.map_drop, encO] using this
theorem delO (l : List Ow) (i : Nat) (hi : i < l.length) : FnU Try.prog 55 44 3 (ows l) [.int i, .int ((i : Nat) + 1)] true (ows (l.eraseIdx i)) := by
  have := delOwn (l.map encO) i (i + 1) (by omega) (by simp; omega)
  simpa [lst, List.map_take, List.map_drop, List.eraseIdx_eq_take_drop_succ] using this
theorem begin_fn (l : List Ow) (call by_ : ByteArray) : Fn Try.prog 28 [ows l, .string call, .string by_] (.tup [.row 44 3 true, .sc]) (beginV l call by_) := by
  refine fn_run mixed 2 (Γ := OwnerF.Γ) (ann := OwnerF.ann) Try.func28 rfl Try.call28 ((OwnerF.begin_form _ _ _ _).mpr ?_)
  have e1 : Ent Try.prog 36 := Try.call36
  have hi := plI_le l call
  by_cases hE : ownE l = 0
  · obtain ⟨hl, _, _⟩ := ownE_ok hE
    refine ⟨_, check_fn l, ?_⟩
    simp [hE, e1]
    refine ⟨_, place_fn l call (by omega), ?_⟩
    simp
    have hV : beginV l call by_ = if isName call = false ∨ isName by_ = false then errV 3 else if (there l call).isSome then errV 7 else if l.length = 24 then errV 9 else okV (l.take (plI l call) ++ (⟨call, by_, ⟨#[]⟩⟩ :: l.drop (plI l call))) := by unfold beginV; rw [if_neg (by omega)]
    rw [hV]
    have hins := insO l ⟨call, by_, ⟨#[]⟩⟩ (plI l call) hi hl
    have hfl := flat_ows (l.take (plI l call) ++ (⟨call, by_, ⟨#[]⟩⟩ :: l.drop (plI l call)))
    (repeat' (first | exact trivial | (with_reducible intro hw; (try simp (disch := omega) only [wrap64] at hw); first | (exfalso; omega; done) | skip) | (with_reducible refine And.intro ?_ ?_) | (refine ⟨_, name_fn _, ?_⟩; (try simp [errV, okV, hfl]); (try simp (disch := omega) only [wrap64])) | (refine ⟨_, clone_fn l (by omega), ?_⟩; (try simp [errV, okV, hfl]); (try simp (disch := omega) only [wrap64])) | (refine ⟨_, hins, ?_⟩; (try simp [errV, okV, hfl]); (try simp (disch := omega) only [wrap64])) | omega | assumption))
    all_goals (simp_all [errV, okV] <;> omega)
  · refine ⟨_, check_fn l, ?_⟩
    simp [hE, beginV, errV]
theorem end_fn (l : List Ow) (call by_ : ByteArray) : Fn Try.prog 34 [ows l, .string call, .string by_] (.tup [.row 44 3 true, .sc]) (chV l call (fEnd by_)) := by
  refine fn_run mixed 3 (Γ := OwnerF.Γ) (ann := OwnerF.ann) Try.func34 rfl Try.call34 ((OwnerF.end_form _ _ _ _).mpr ?_)
  have e1 : Ent Try.prog 36 := Try.call36
  have e2 : Ent Try.prog 44 := Try.call44
  have e3 : Ent Try.prog 48 := Try.call48
  simp [e1, e2, e3]
  refine ⟨_, check_fn l, ?_⟩
  by_cases hE : ownE l = 0
  · obtain ⟨hl, hnm, _⟩ := ownE_ok hE
    simp [hE]
    refine ⟨_, place_fn l call (by omega), ?_⟩
    cases ht : there l call with
    | none => simp [chV, hE, ht, errV]
    | some x =>
      obtain ⟨hx, hxc⟩ := there_some ht
      have hlt : plI l call < l.length := (List.getElem?_eq_some_iff.1 hx).1
      have hne : call ≠ ⟨#[]⟩ := fun e => by
        have := (hnm x (List.mem_of_getElem? hx)).1
        rw [hxc, e] at this
        exact absurd this (by decide)
      have hV : chV l call (fEnd by_) = if ((fEnd by_) x).1 ≠ 0 then errV ((fEnd by_) x).1 else match ((fEnd by_) x).2 with | none => okV (l.eraseIdx (plI l call)) | some y => okV (l.set (plI l call) y) := by simp [chV, hE, ht]
      rw [hV]
      simp
      refine ⟨_, clone_fn l (by omega), ?_⟩
      have hw2 : IntKind.i64.wrap ((plI l call : Int) + 1) = (plI l call : Int) + 1 := wrap64 (by omega) (by omega)
      have hs : AV.setEl (ows l) (.lit (.int .i64 (plI l call : Nat))) 0 [.lit (.string ⟨#[]⟩)] = ows (l.set (plI l call) { x with c := ⟨#[]⟩ }) := lst_setEl hx rfl
      have hx2 : (l.set (plI l call) { x with c := ⟨#[]⟩ })[plI l call]? = some { x with c := ⟨#[]⟩ } := by rw [List.getElem?_set_self hlt]
      have hdel := delO (l.set (plI l call) { x with c := ⟨#[]⟩ }) (plI l call) (by simp; omega)
      rw [List.eraseIdx_set_eq] at hdel
      have hfl := flat_ows (l.eraseIdx (plI l call))
      simp [hs, lst_at hx2, hw2]
      simp [hlt, lst_at hx, encO]
      (repeat' (first | exact trivial | (with_reducible intro hw; (try simp (disch := omega) only [wrap64] at hw); first | (exfalso; omega; done) | skip) | (with_reducible refine And.intro ?_ ?_) | (refine ⟨_, hdel, ?_⟩; (try simp [errV, okV, hxc, hfl]); (try simp (disch := omega) only [wrap64])) | omega | assumption))
      all_goals (simp_all [errV, okV, fEnd, encO, hxc])
  · simp [hE, chV, errV]
theorem offer_fn (l : List Ow) (call by_ to : ByteArray) : Fn Try.prog 29 [ows l, .string call, .string by_, .string to] (.tup [.row 44 3 true, .sc]) (chV l call (fOffer by_ to)) := by
  refine fn_run mixed 4 (Γ := OwnerF.Γ) (ann := OwnerF.ann) Try.func29 rfl Try.call29 ((OwnerF.offer_form _ _ _ _ _).mpr ?_)
  have e1 : Ent Try.prog 36 := Try.call36
  have e2 : Ent Try.prog 44 := Try.call44
  have e3 : Ent Try.prog 45 := Try.call45
  simp [e1, e2, e3]
  refine ⟨_, check_fn l, ?_⟩
  by_cases hE : ownE l = 0
  · obtain ⟨hl, hnm, _⟩ := ownE_ok hE
    simp [hE]
    refine ⟨_, place_fn l call (by omega), ?_⟩
    cases ht : there l call with
    | none => simp [chV, hE, ht, errV]
    | some x =>
      obtain ⟨hx, hxc⟩ := there_some ht
      have hlt : plI l call < l.length := (List.getElem?_eq_some_iff.1 hx).1
      have hne : call ≠ ⟨#[]⟩ := fun e => by
        have := (hnm x (List.mem_of_getElem? hx)).1
        rw [hxc, e] at this
        exact absurd this (by decide)
      have hV : chV l call (fOffer by_ to) = if ((fOffer by_ to) x).1 ≠ 0 then errV ((fOffer by_ to) x).1 else match ((fOffer by_ to) x).2 with | none => okV (l.eraseIdx (plI l call)) | some y => okV (l.set (plI l call) y) := by simp [chV, hE, ht]
      rw [hV]
      simp
      refine ⟨_, clone_fn l (by omega), ?_⟩
      have hw2 : IntKind.i64.wrap ((plI l call : Int) + 1) = (plI l call : Int) + 1 := wrap64 (by omega) (by omega)
      have hs : AV.setEl (ows l) (.lit (.int .i64 (plI l call : Nat))) 2 [.lit (.string to)] = ows (l.set (plI l call) { x with f := to }) := lst_setEl hx rfl
      have hx2 : (l.set (plI l call) { x with f := to })[plI l call]? = some { x with f := to } := by rw [List.getElem?_set_self hlt]
      have hfl := flat_ows (l.set (plI l call) { x with f := to })
      simp [hs, lst_at hx2, hw2]
      simp [hlt, lst_at hx, encO]
      (repeat' (first | exact trivial | (with_reducible intro hw; (try simp (disch := omega) only [wrap64] at hw); first | (exfalso; omega; done) | skip) | (with_reducible refine And.intro ?_ ?_) | (refine ⟨_, name_fn _, ?_⟩; (try simp [errV, okV, hxc]); (try simp (disch := omega) only [wrap64])) | omega | assumption))
      all_goals (simp_all [errV, okV, fOffer, encO, hxc])
  · simp [hE, chV, errV]
theorem accept_fn (l : List Ow) (call by_ : ByteArray) : Fn Try.prog 30 [ows l, .string call, .string by_] (.tup [.row 44 3 true, .sc]) (chV l call (fAccept by_)) := by
  refine fn_run mixed 3 (Γ := OwnerF.Γ) (ann := OwnerF.ann) Try.func30 rfl Try.call30 ((OwnerF.accept_form _ _ _ _).mpr ?_)
  have e1 : Ent Try.prog 36 := Try.call36
  have e2 : Ent Try.prog 44 := Try.call44
  have e3 : Ent Try.prog 46 := Try.call46
  simp [e1, e2, e3]
  refine ⟨_, check_fn l, ?_⟩
  by_cases hE : ownE l = 0
  · obtain ⟨hl, hnm, _⟩ := ownE_ok hE
    simp [hE]
    refine ⟨_, place_fn l call (by omega), ?_⟩
    cases ht : there l call with
    | none => simp [chV, hE, ht, errV]
    | some x =>
      obtain ⟨hx, hxc⟩ := there_some ht
      have hlt : plI l call < l.length := (List.getElem?_eq_some_iff.1 hx).1
      have hne : call ≠ ⟨#[]⟩ := fun e => by
        have := (hnm x (List.mem_of_getElem? hx)).1
        rw [hxc, e] at this
        exact absurd this (by decide)
      have hV : chV l call (fAccept by_) = if ((fAccept by_) x).1 ≠ 0 then errV ((fAccept by_) x).1 else match ((fAccept by_) x).2 with | none => okV (l.eraseIdx (plI l call)) | some y => okV (l.set (plI l call) y) := by simp [chV, hE, ht]
      rw [hV]
      simp
      refine ⟨_, clone_fn l (by omega), ?_⟩
      have hw2 : IntKind.i64.wrap ((plI l call : Int) + 1) = (plI l call : Int) + 1 := wrap64 (by omega) (by omega)
      have hs : AV.setEl (ows l) (.lit (.int .i64 (plI l call : Nat))) 1 [.lit (.string by_)] = ows (l.set (plI l call) { x with o := by_ }) := lst_setEl hx rfl
      have hx2 : (l.set (plI l call) { x with o := by_ })[plI l call]? = some { x with o := by_ } := by rw [List.getElem?_set_self hlt]
      have hs2 : AV.setEl (ows (l.set (plI l call) { x with o := by_ })) (.lit (.int .i64 (plI l call : Nat))) 2 [.lit (.string ⟨#[]⟩)] = ows ((l.set (plI l call) { x with o := by_ }).set (plI l call) { x with o := by_, f := ⟨#[]⟩ }) := lst_setEl hx2 rfl
      rw [List.set_set] at hs2
      have hx3 : (l.set (plI l call) { x with o := by_, f := ⟨#[]⟩ })[plI l call]? = some { x with o := by_, f := ⟨#[]⟩ } := by rw [List.getElem?_set_self hlt]
      have hfl := flat_ows (l.set (plI l call) { x with o := by_, f := ⟨#[]⟩ })
      simp [hs, hs2, lst_at hx2, lst_at hx3, hw2]
      simp [hlt, lst_at hx, encO]
      (repeat' (first | exact trivial | (with_reducible intro hw; (try simp (disch := omega) only [wrap64] at hw); first | (exfalso; omega; done) | skip) | (with_reducible refine And.intro ?_ ?_) | omega | assumption))
      all_goals (simp_all [errV, okV, fAccept, encO, hxc])
  · simp [hE, chV, errV]
theorem cancel_fn (l : List Ow) (call by_ : ByteArray) : Fn Try.prog 31 [ows l, .string call, .string by_] (.tup [.row 44 3 true, .sc]) (chV l call (fCancel by_)) := by
  refine fn_run mixed 3 (Γ := OwnerF.Γ) (ann := OwnerF.ann) Try.func31 rfl Try.call31 ((OwnerF.cancel_form _ _ _ _).mpr ?_)
  have e1 : Ent Try.prog 36 := Try.call36
  have e2 : Ent Try.prog 44 := Try.call44
  have e3 : Ent Try.prog 47 := Try.call47
  simp [e1, e2, e3]
  refine ⟨_, check_fn l, ?_⟩
  by_cases hE : ownE l = 0
  · obtain ⟨hl, hnm, _⟩ := ownE_ok hE
    simp [hE]
    refine ⟨_, place_fn l call (by omega), ?_⟩
    cases ht : there l call with
    | none => simp [chV, hE, ht, errV]
    | some x =>
      obtain ⟨hx, hxc⟩ := there_some ht
      have hlt : plI l call < l.length := (List.getElem?_eq_some_iff.1 hx).1
      have hne : call ≠ ⟨#[]⟩ := fun e => by
        have := (hnm x (List.mem_of_getElem? hx)).1
        rw [hxc, e] at this
        exact absurd this (by decide)
      have hV : chV l call (fCancel by_) = if ((fCancel by_) x).1 ≠ 0 then errV ((fCancel by_) x).1 else match ((fCancel by_) x).2 with | none => okV (l.eraseIdx (plI l call)) | some y => okV (l.set (plI l call) y) := by simp [chV, hE, ht]
      rw [hV]
      simp
      refine ⟨_, clone_fn l (by omega), ?_⟩
      have hw2 : IntKind.i64.wrap ((plI l call : Int) + 1) = (plI l call : Int) + 1 := wrap64 (by omega) (by omega)
      have hs : AV.setEl (ows l) (.lit (.int .i64 (plI l call : Nat))) 2 [.lit (.string ⟨#[]⟩)] = ows (l.set (plI l call) { x with f := ⟨#[]⟩ }) := lst_setEl hx rfl
      have hx2 : (l.set (plI l call) { x with f := ⟨#[]⟩ })[plI l call]? = some { x with f := ⟨#[]⟩ } := by rw [List.getElem?_set_self hlt]
      have hfl := flat_ows (l.set (plI l call) { x with f := ⟨#[]⟩ })
      simp [hs, lst_at hx2, hw2]
      simp [hlt, lst_at hx, encO]
      (repeat' (first | exact trivial | (with_reducible intro hw; (try simp (disch := omega) only [wrap64] at hw); first | (exfalso; omega; done) | skip) | (with_reducible refine And.intro ?_ ?_) | omega | assumption))
      all_goals (simp_all [errV, okV, fCancel, encO, hxc])
  · simp [hE, chV, errV]
end Go.Proofs.Ytalfopommofdfaa
