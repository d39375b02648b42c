/- owner: the reference's steps; what is asked; moves. -/
import Derived.Test.YtkkcmapfedlkpaaOwner3
namespace Go.Proofs.Ytkkcmapfedlkpaa
open Go.RowKit
set_option linter.unusedVariables false
set_option linter.unusedSimpArgs false
set_option maxRecDepth 100000
@[simp] theorem ows_snoc {out : List Ow} {a b c : ByteArray} : AV.app 3 (ows out) (.sl 3 [[.lit (.string a), .lit (.string b), .lit (.string c)]]) = ows (out ++ [⟨a, b, c⟩]) := by simp [lst, lst_app_sl, encO]
@[simp] theorem strs_snoc {out : List ByteArray} {a : ByteArray} : AV.app 1 (lst 1 encS out) (.sl 1 [[.lit (.string a)]]) = lst 1 encS (out ++ [a]) := by simp [lst, lst_app_sl, encS]
theorem flat_strs (l : List ByteArray) : (lst 1 encS l).flatS := lst_flatS fun x _ z hz => by
  simp [encS] at hz; subst hz; exact .lit _
theorem room_ows {out : List Ow} {a b c : ByteArray} (h : out.length ≤ 100000) : AV.room (ows out) (.sl 3 [[.lit (.string a), .lit (.string b), .lit (.string c)]]) 48 := by simp [AV.room]; omega
theorem room_strs {out : List ByteArray} {a : ByteArray} (h : out.length ≤ 100000) : AV.room (lst 1 encS out) (.sl 1 [[.lit (.string a)]]) 16 := by simp [AV.room]; omega
theorem with_fn (l : List Ow) (x : Ow) (hl : l.length ≤ 1000) : Fn Try.prog 34 [ows l, .agg (encO x)] (.row 34 3 true) (ows (withG x (decide (x.o = ⟨#[]⟩)) l)) := by
  refine fn_run mixed 0 (Γ := OwnerF.Γ) (ann := OwnerF.ann) Try.func34 rfl Try.call34 ((OwnerF.with_form _ _ _).mpr ?_)
  simp [encO]
  generalize hW : withG x (decide (x.o = ⟨#[]⟩)) l = W
  refine loop_list (σ := Bool × List Ow) l (fun n s => [.bool s.1, .int (n : Nat), ows s.2]) (fun n rest s => W = s.2 ++ withG x s.1 rest ∧ s.2.length ≤ 2 * n) (decide (x.o = ⟨#[]⟩), []) rfl ⟨by simp [hW], by simp⟩ ?_ ?_
  · rintro n y rest ⟨d, out⟩ K hy hr hn ⟨hg, hlen⟩ hK
    simp only at hg hlen
    rw [withG] at hg
    have hw2 : IntKind.i64.wrap ((n : Int) + 1) = (n : Int) + 1 := wrap64 (by omega) (by omega)
    have hK' : ∀ d' out', W = out' ++ withG x d' rest → out'.length ≤ 2 * (n + 1) → K [.bool d', .int ((n : Int) + 1), ows out'] := fun d' out' h1 h2 => hK _ (d', out') (by simp) ⟨h1, h2⟩
    have hr1 := room_ows (out := out) (a := x.c) (b := x.o) (c := x.f) (by omega)
    have hr2 := room_ows (out := out) (a := y.c) (b := y.o) (c := y.f) (by omega)
    have hr3 := room_ows (out := out ++ [x]) (a := y.c) (b := y.o) (c := y.f) (by simp; omega)
    by_cases hc : y.c = x.c <;> by_cases hk : key x.c ≤ key y.c <;> (try have hk2 := List.not_le.1 hk) <;> (try have hk3 := List.not_lt.2 hk) <;> cases d <;> (try (exfalso; rw [hc] at hk; exact hk (List.le_refl _))) <;>
      simp [hn, lst_atAgg hy, encO, hw2, hc, hk, hr1, hr2, hr3] <;> (try (simp [hk2]; done)) <;> (try simp [hk2]) <;>
      (try refine ⟨?_, fun q => absurd q (by first | exact List.lt_irrefl _ | exact List.not_lt.2 hk)⟩) <;> refine hK' _ _ ?_ (by first | omega | (simp; omega)) <;> rw [hg] <;> first | rfl | simp [hc, hk]
  · rintro ⟨d, out⟩ K ⟨hg, hlen⟩
    simp only at hg hlen
    rw [withG] at hg
    have hr1 := room_ows (out := out) (a := x.c) (b := x.o) (c := x.f) (by omega)
    have hf1 := flat_ows out
    have hf2 := flat_ows (out ++ [x])
    cases d <;> simp_all
def ofV (l : List Ow) (call : ByteArray) : AV := if ownE l ≠ 0 then .tup [.string ⟨#[]⟩, .int (ownE l)] else match there l call with | none => .tup [.string ⟨#[]⟩, .int 8] | some x => .tup [.string x.o, .int 0]
theorem of_fn (l : List Ow) (call : ByteArray) : Fn Try.prog 19 [ows l, .string call] (.tup [.sc, .sc]) (ofV l call) := by
  unfold ofV
  refine fn_run mixed 1 (Γ := OwnerF.Γ) (ann := OwnerF.ann) Try.func19 rfl Try.call19 ((OwnerF.of_form _ _ _).mpr ?_)
  refine ⟨_, check_fn l, ?_⟩
  by_cases hE : ownE l = 0
  · obtain ⟨hl, hnm, _⟩ := ownE_ok hE
    simp [hE]
    refine ⟨_, place_fn l call (by omega), ?_⟩
    cases ht : there l call with
    | none => simp
    | some x =>
      obtain ⟨hx, hxc⟩ := there_some ht
      have hlt : plI l call < l.length := (List.getElem?_eq_some_iff.1 hx).1
      simp [hlt, lst_at hx, encO]
  · simp [hE]
def flightsOf (by_ : ByteArray) (l : List Ow) : List ByteArray := l.filterMap fun x => if x.o = by_ then some x.c else none
def flightsV (l : List Ow) (by_ : ByteArray) : AV := if ownE l ≠ 0 then .tup [.sl 1 [], .int (ownE l)] else .tup [lst 1 encS (flightsOf by_ l), .int 0]
theorem flights_fn (l : List Ow) (by_ : ByteArray) : Fn Try.prog 20 [ows l, .string by_] (.tup [.row 9 1 true, .sc]) (flightsV l by_) := by
  unfold flightsV
  refine fn_run mixed 1 (Γ := OwnerF.Γ) (ann := OwnerF.ann) Try.func20 rfl Try.call20 ((OwnerF.flights_form _ _ _).mpr ?_)
  refine ⟨_, check_fn l, ?_⟩
  by_cases hE : ownE l = 0
  · obtain ⟨hl, hnm, _⟩ := ownE_ok hE
    simp [hE]
    refine loop_list (σ := List ByteArray) l (fun n out => [.int (n : Nat), lst 1 encS out]) (fun n rest out => flightsOf by_ l = out ++ flightsOf by_ rest ∧ out.length ≤ n) [] rfl ⟨by simp, by simp⟩ ?_ ?_
    · rintro n x rest out K hx hr hn ⟨hg, hlen⟩ hK
      have hw2 : IntKind.i64.wrap ((n : Int) + 1) = (n : Int) + 1 := wrap64 (by omega) (by omega)
      have hr1 := room_strs (out := out) (a := x.c) (by omega)
      simp [hn, lst_atAgg hx, encO, hw2]
      refine ⟨fun q => ⟨hr1, hK _ (out ++ [x.c]) (by simp) ⟨?_, by simp; omega⟩⟩, fun q => hK _ out (by simp) ⟨?_, by omega⟩⟩
      · rw [hg]; simp [flightsOf, q]
      · rw [hg]; simp [flightsOf, q]
    · rintro out K ⟨hg, hlen⟩
      have hf := flat_strs out
      have e : flightsOf by_ l = out := by rw [hg]; simp [flightsOf]
      simp [e, hf]
  · simp [hE]
def mvO (from_ to : ByteArray) (x : Ow) : Ow :=
  let o := if x.o = from_ then to else x.o
  let f := if x.f = from_ then to else x.f
  ⟨x.c, o, if f = o then ⟨#[]⟩ else f⟩
def moveV (l : List Ow) (from_ to : ByteArray) : AV := if ownE l ≠ 0 then errV (ownE l) else if isName from_ = false ∨ isName to = false then errV 3 else okV (l.map (mvO from_ to))
theorem move_fn (l : List Ow) (from_ to : ByteArray) : Fn Try.prog 23 [ows l, .string from_, .string to] (.tup [.row 34 3 true, .sc]) (moveV l from_ to) := by
  refine fn_run mixed 2 (Γ := OwnerF.Γ) (ann := OwnerF.ann) Try.func23 rfl Try.call23 ((OwnerF.move_form _ _ _ _).mpr ?_)
  have e1 : Ent Try.prog 10 := Try.call10
  refine ⟨_, check_fn l, ?_⟩
  by_cases hE : ownE l = 0
  · obtain ⟨hl, hnm, _⟩ := ownE_ok hE
    simp [hE, e1]
    refine ⟨_, name_fn from_, ?_⟩
    simp
    refine ⟨fun h => ⟨h, by simp [moveV, hE, h, errV]⟩, fun h => ⟨_, name_fn to, ?_⟩⟩
    simp [h]
    refine ⟨fun h2 => by simp [moveV, hE, h, h2, errV], fun h2 => ⟨_, clone_fn l (by omega), ?_⟩⟩
    have hV : moveV l from_ to = okV (l.map (mvO from_ to)) := by simp [moveV, hE, h, h2]
    rw [hV]
    simp
    refine loop_list (σ := Unit) l (fun n _ => [.int (n : Nat), ows ((l.take n).map (mvO from_ to) ++ l.drop n)]) (fun n rest _ => True) () (by simp) trivial ?_ ?_
    · rintro n x rest _ K hx hr hn _ hK
      have hw2 : IntKind.i64.wrap ((n : Int) + 1) = (n : Int) + 1 := wrap64 (by omega) (by omega)
      obtain ⟨m, hm⟩ : ∃ m, m = (l.take n).map (mvO from_ to) ++ l.drop n := ⟨_, rfl⟩
      have hmx : m[n]? = some x := by rw [hm, List.getElem?_append_right (by simp; omega)]; simp [Nat.min_eq_left (Nat.le_of_lt hn), hx]
      have hml : m.length = l.length := by rw [hm]; simp; omega
      have hnx : (l.take (n + 1)).map (mvO from_ to) ++ l.drop (n + 1) = m.set n (mvO from_ to x) := by
        have hl1 : ((l.take n).map (mvO from_ to)).length = n := by simp; omega
        have hd : l.drop n = x :: l.drop (n + 1) := by rw [List.drop_eq_getElem_cons hn]; congr 1; exact (List.getElem?_eq_some_iff.1 hx).2
        have ht : l.take (n + 1) = l.take n ++ [x] := by rw [← List.take_append_getElem hn]; congr 2; exact (List.getElem?_eq_some_iff.1 hx).2
        rw [hm, hd, ht, List.set_append_right _ _ (by omega), hl1, Nat.sub_self]
        simp
      rw [← hm]
      have hK' : ∀ y, y = mvO from_ to x → K [.int ((n : Int) + 1), ows (m.set n y)] := fun y hy => hK _ () (by rw [hnx, hy]; simp) trivial
      have hset : ∀ (z : Ow), (m.set n z)[n]? = some z := fun z => by rw [List.getElem?_set_self (by omega)]
      have hso : ∀ (k : List Ow) (z : Ow) (b : ByteArray), k[n]? = some z → AV.setEl (ows k) (.lit (.int .i64 (n : Nat))) 1 [.lit (.string b)] = ows (k.set n { z with o := b }) := fun k z b hk => lst_setEl hk rfl
      have hsf : ∀ (k : List Ow) (z : Ow) (b : ByteArray), k[n]? = some z → AV.setEl (ows k) (.lit (.int .i64 (n : Nat))) 2 [.lit (.string b)] = ows (k.set n { z with f := b }) := fun k z b hk => lst_setEl hk rfl
      have hmn : n < m.length := by omega
      have hsfS : ∀ (z : Ow) (b : ByteArray), AV.setEl (ows (m.set n z)) (.lit (.int .i64 (n : Nat))) 2 [.lit (.string b)] = ows (m.set n { z with f := b }) := fun z b => by rw [hsf _ z b (hset z), List.set_set]
      have hatS : ∀ (z : Ow) (j : Nat), AV.at (ows (m.set n z)) (.lit (.int .i64 (n : Nat))) j = (encO z).getD j default := fun z j => lst_at (hset z)
      have hself : ows m = ows (m.set n x) := by
        congr 1
        apply List.ext_getElem?
        intro k
        by_cases hk : k = n
        · rw [hk, hset, hmx]
        · rw [List.getElem?_set_ne (Ne.symm hk)]
      by_cases h1 : x.o = from_ <;> by_cases h2 : x.f = from_ <;>
        simp [hn, hmn, lst_at hmx, encO, hw2, hso m x _ hmx, hsf m x _ hmx, hsfS, hatS, h1, h2]
      all_goals (try refine ⟨fun q => ?_, fun q => ?_⟩)
      all_goals (first | refine hK' _ ?_ | (rw [hself]; refine hK' _ ?_))
      all_goals (simp_all [mvO])
    · rintro _ K _
      have hf := flat_ows (l.map (mvO from_ to))
      simp [okV, hf]
  · refine ⟨?_, ?_, ?_⟩ <;> simp [hE, moveV, errV]
/-! ### the reference's steps -/
theorem name_ne {s : ByteArray} (h : isName s = true) : s ≠ ⟨#[]⟩ := fun e => by rw [e] at h; exact absurd h (by decide)
theorem look {l : List Ow} {call : ByteArray} (hs : Sorted l) :
    (∃ x, there l call = some x ∧ l[plI l call]? = some x ∧ x.c = call ∧ atI call l 0 = (plI l call : Nat) ∧ (∀ y : Ow, y.c = call → withG y false l = l.set (plI l call) y) ∧ ∀ y : Ow, y.c = call → withG y true l = l.eraseIdx (plI l call)) ∨
    (there l call = none ∧ atI call l 0 = -1 ∧ ∀ y : Ow, y.c = call → withG y false l = l.take (plI l call) ++ (y :: l.drop (plI l call))) := by
  cases ht : there l call with
  | some x =>
    obtain ⟨hx, hxc⟩ := there_some ht
    refine .inl ⟨x, rfl, hx, hxc, ?_, fun y hy => ?_, fun y hy => ?_⟩
    · have := ((plR_spec ⟨call, call, call⟩ l hs).1 x hx hxc).2.2 0
      simpa [plI] using this
    · subst hy; exact ((plR_spec y l hs).1 x hx hxc).1
    · subst hy; exact ((plR_spec y l hs).1 x hx hxc).2.1
  | none =>
    have hno : ∀ y, l[plI l call]? = some y → y.c ≠ call := fun y hy e => by
      unfold there at ht
      rw [hy, Option.filter_some, if_pos (by simpa using e)] at ht
      cases ht
    refine .inr ⟨rfl, ?_, fun y hy => ?_⟩
    · exact ((plR_spec ⟨call, call, call⟩ l hs).2 hno).2 0
    · subst hy; exact ((plR_spec y l hs).2 hno).1
theorem step0_fn (l : List Ow) (call by_ to : ByteArray) (hE : ownE l = 0) : Fn Try.prog 17 [ows l, .int 0, .string call, .string by_, .string to] (.tup [.row 34 3 true, .sc]) (beginV l call by_) := by
  refine fn_run mixed 1 (Γ := OwnerF.Γ) (ann := OwnerF.ann) Try.func17 rfl Try.call17 ((OwnerF.step_form _ _ _ _ _ _).mpr ?_)
  obtain ⟨hl, hnm, hs⟩ := ownE_ok hE
  refine ⟨_, at_fn l call (by omega), ?_⟩
  have hV : beginV l call by_ = if isName call = false ∨ isName by_ = false then errV 3 else if (there l call).isSome then errV 7 else if l.length = 24 then errV 9 else okV (l.take (plI l call) ++ (⟨call, by_, ⟨#[]⟩⟩ :: l.drop (plI l call))) := by unfold beginV; rw [if_neg (by omega)]
  rw [hV]
  have hwith := with_fn l ⟨call, by_, ⟨#[]⟩⟩ (by omega)
  have hne := @name_ne by_
  rcases look (call := call) hs with ⟨x, ht, hx, hxc, ha, h1, h2⟩ | ⟨ht, ha, h1⟩
  · simp [ha, ht]
    (repeat' (first | exact trivial | (with_reducible intro hw; (try simp (disch := omega) only [wrap64] at hw); first | (exfalso; omega; done) | skip) | (with_reducible refine And.intro ?_ ?_) | (refine ⟨_, isname_fn _, ?_⟩; (try simp [errV]); (try simp (disch := omega) only [wrap64])) | omega | assumption))
    all_goals (simp_all [errV] <;> omega)
  · have hfl := flat_ows (l.take (plI l call) ++ (⟨call, by_, ⟨#[]⟩⟩ :: l.drop (plI l call)))
    simp [ha, ht]
    (repeat' (first | exact trivial | (with_reducible intro hw; (try simp (disch := omega) only [wrap64] at hw); first | (exfalso; omega; done) | skip) | (with_reducible refine And.intro ?_ ?_) | (refine ⟨_, isname_fn _, ?_⟩; (try simp [errV, okV]); (try simp (disch := omega) only [wrap64])) | (refine ⟨_, hwith, ?_⟩; (try simp [errV, okV]); (try simp (disch := omega) only [wrap64])) | omega | assumption))
    all_goals (simp_all [errV, okV] <;> omega)
theorem step1_fn (l : List Ow) (call by_ to : ByteArray) (hE : ownE l = 0) : Fn Try.prog 17 [ows l, .int 1, .string call, .string by_, .string to] (.tup [.row 34 3 true, .sc]) (chV l call (fEnd by_)) := by
  refine fn_run mixed 1 (Γ := OwnerF.Γ) (ann := OwnerF.ann) Try.func17 rfl Try.call17 ((OwnerF.step_form _ _ _ _ _ _).mpr ?_)
  obtain ⟨hl, hnm, hs⟩ := ownE_ok hE
  refine ⟨_, at_fn l call (by omega), ?_⟩
  rcases look (call := call) hs with ⟨x, ht, hx, hxc, ha, h1, h2⟩ | ⟨ht, ha, h1⟩
  · have hlt : plI l call < l.length := (List.getElem?_eq_some_iff.1 hx).1
    have hno := name_ne (hnm x (List.mem_of_getElem? hx)).2.1
    have hwith := with_fn l (⟨call, ⟨#[]⟩, ⟨#[]⟩⟩) (by omega)
    have hfl := flat_ows (l.set (plI l call) (⟨call, ⟨#[]⟩, ⟨#[]⟩⟩))
    have hfe := flat_ows (l.eraseIdx (plI l call))
    rw [chV_at (fEnd by_) hE ht, ha]
    simp [hlt, lst_atAgg hx, encO]
    (repeat' (first | exact trivial | (with_reducible intro hw; (try simp (disch := omega) only [wrap64] at hw); first | (exfalso; omega; done) | skip) | (with_reducible refine And.intro ?_ ?_) | (refine ⟨_, isname_fn _, ?_⟩; (try simp [errV, okV]); (try simp (disch := omega) only [wrap64])) | (refine ⟨_, hwith, ?_⟩; (try simp [errV, okV]); (try simp (disch := omega) only [wrap64])) | omega | assumption))
    all_goals (simp_all [errV, okV, fEnd, encO] <;> omega)
  · have hV : chV l call (fEnd by_) = errV 8 := by simp [chV, hE, ht]
    rw [hV]
    simp [ha, errV]
theorem step2_fn (l : List Ow) (call by_ to : ByteArray) (hE : ownE l = 0) : Fn Try.prog 17 [ows l, .int 2, .string call, .string by_, .string to] (.tup [.row 34 3 true, .sc]) (chV l call (fOffer by_ to)) := by
  refine fn_run mixed 1 (Γ := OwnerF.Γ) (ann := OwnerF.ann) Try.func17 rfl Try.call17 ((OwnerF.step_form _ _ _ _ _ _).mpr ?_)
  obtain ⟨hl, hnm, hs⟩ := ownE_ok hE
  refine ⟨_, at_fn l call (by omega), ?_⟩
  rcases look (call := call) hs with ⟨x, ht, hx, hxc, ha, h1, h2⟩ | ⟨ht, ha, h1⟩
  · have hlt : plI l call < l.length := (List.getElem?_eq_some_iff.1 hx).1
    have hno := name_ne (hnm x (List.mem_of_getElem? hx)).2.1
    have hwith := with_fn l ({ x with f := to }) (by omega)
    have hfl := flat_ows (l.set (plI l call) ({ x with f := to }))
    have hfe := flat_ows (l.eraseIdx (plI l call))
    rw [chV_at (fOffer by_ to) hE ht, ha]
    simp [hlt, lst_atAgg hx, encO]
    (repeat' (first | exact trivial | (with_reducible intro hw; (try simp (disch := omega) only [wrap64] at hw); first | (exfalso; omega; done) | skip) | (with_reducible refine And.intro ?_ ?_) | (refine ⟨_, isname_fn _, ?_⟩; (try simp [errV, okV]); (try simp (disch := omega) only [wrap64])) | (refine ⟨_, hwith, ?_⟩; (try simp [errV, okV]); (try simp (disch := omega) only [wrap64])) | omega | assumption))
    all_goals (simp_all [errV, okV, fOffer, encO] <;> omega)
  · have hV : chV l call (fOffer by_ to) = errV 8 := by simp [chV, hE, ht]
    rw [hV]
    simp [ha, errV]
theorem step3_fn (l : List Ow) (call by_ to : ByteArray) (hE : ownE l = 0) : Fn Try.prog 17 [ows l, .int 3, .string call, .string by_, .string to] (.tup [.row 34 3 true, .sc]) (chV l call (fAccept by_)) := by
  refine fn_run mixed 1 (Γ := OwnerF.Γ) (ann := OwnerF.ann) Try.func17 rfl Try.call17 ((OwnerF.step_form _ _ _ _ _ _).mpr ?_)
  obtain ⟨hl, hnm, hs⟩ := ownE_ok hE
  refine ⟨_, at_fn l call (by omega), ?_⟩
  rcases look (call := call) hs with ⟨x, ht, hx, hxc, ha, h1, h2⟩ | ⟨ht, ha, h1⟩
  · have hlt : plI l call < l.length := (List.getElem?_eq_some_iff.1 hx).1
    have hno := name_ne (hnm x (List.mem_of_getElem? hx)).2.1
    have hwith := with_fn l ({ x with o := by_, f := ⟨#[]⟩ }) (by omega)
    have hfl := flat_ows (l.set (plI l call) ({ x with o := by_, f := ⟨#[]⟩ }))
    have hfe := flat_ows (l.eraseIdx (plI l call))
    rw [chV_at (fAccept by_) hE ht, ha]
    simp [hlt, lst_atAgg hx, encO]
    (repeat' (first | exact trivial | (with_reducible intro hw; (try simp (disch := omega) only [wrap64] at hw); first | (exfalso; omega; done) | skip) | (with_reducible refine And.intro ?_ ?_) | (refine ⟨_, isname_fn _, ?_⟩; (try simp [errV, okV]); (try simp (disch := omega) only [wrap64])) | (refine ⟨_, hwith, ?_⟩; (try simp [errV, okV]); (try simp (disch := omega) only [wrap64])) | omega | assumption))
    all_goals (simp_all [errV, okV, fAccept, encO] <;> omega)
  · have hV : chV l call (fAccept by_) = errV 8 := by simp [chV, hE, ht]
    rw [hV]
    simp [ha, errV]
theorem step4_fn (l : List Ow) (call by_ to : ByteArray) (hE : ownE l = 0) : Fn Try.prog 17 [ows l, .int 4, .string call, .string by_, .string to] (.tup [.row 34 3 true, .sc]) (chV l call (fCancel by_)) := by
  refine fn_run mixed 1 (Γ := OwnerF.Γ) (ann := OwnerF.ann) Try.func17 rfl Try.call17 ((OwnerF.step_form _ _ _ _ _ _).mpr ?_)
  obtain ⟨hl, hnm, hs⟩ := ownE_ok hE
  refine ⟨_, at_fn l call (by omega), ?_⟩
  rcases look (call := call) hs with ⟨x, ht, hx, hxc, ha, h1, h2⟩ | ⟨ht, ha, h1⟩
  · have hlt : plI l call < l.length := (List.getElem?_eq_some_iff.1 hx).1
    have hno := name_ne (hnm x (List.mem_of_getElem? hx)).2.1
    have hwith := with_fn l ({ x with f := ⟨#[]⟩ }) (by omega)
    have hfl := flat_ows (l.set (plI l call) ({ x with f := ⟨#[]⟩ }))
    have hfe := flat_ows (l.eraseIdx (plI l call))
    rw [chV_at (fCancel by_) hE ht, ha]
    simp [hlt, lst_atAgg hx, encO]
    (repeat' (first | exact trivial | (with_reducible intro hw; (try simp (disch := omega) only [wrap64] at hw); first | (exfalso; omega; done) | skip) | (with_reducible refine And.intro ?_ ?_) | (refine ⟨_, isname_fn _, ?_⟩; (try simp [errV, okV]); (try simp (disch := omega) only [wrap64])) | (refine ⟨_, hwith, ?_⟩; (try simp [errV, okV]); (try simp (disch := omega) only [wrap64])) | omega | assumption))
    all_goals (simp_all [errV, okV, fCancel, encO] <;> omega)
  · have hV : chV l call (fCancel by_) = errV 8 := by simp [chV, hE, ht]
    rw [hV]
    simp [ha, errV]
end Go.Proofs.Ytkkcmapfedlkpaa
