/- owner: the reference's steps; what is asked; moves. -/
import Derived.Test.YtalfopommofdfaaOwner3
namespace Go.Proofs.Ytalfopommofdfaa
open Go.RowKit
set_option linter.unusedVariables false
set_option linter.unusedSimpArgs false
set_option maxRecDepth 100000
@[simp] theorem ows_snoc {out : List Ow} {a b c : ByteArray} : AV.app 3 (ows out) (.sl 3 [[.lit (.string a), .lit (.string b), .lit (.string c)]]) = ows (out ++ [⟨a, b, c⟩]) := by simp [lst, lst_app_sl, encO]
@[simp] theorem strs_snoc {out : List ByteArray} {a : ByteArray} : AV.app 1 (lst 1 encS out) (.sl 1 [[.lit (.string a)]]) = lst 1 encS (out ++ [a]) := by simp [lst, lst_app_sl, encS]
theorem flat_strs (l : List ByteArray) : (lst 1 encS l).flatS := lst_flatS fun x _ z hz => by
  simp [encS] at hz; subst hz; exact .lit _
theorem room_ows {out : List Ow} {a b c : ByteArray} (h : out.length ≤ 100000) : AV.room (ows out) (.sl 3 [[.lit (.string a), .lit (.string b), .lit (.string c)]]) 48 := by simp [AV.room]; omega
theorem room_strs {out : List ByteArray} {a : ByteArray} (h : out.length ≤ 100000) : AV.room (lst 1 encS out) (.sl 1 [[.lit (.string a)]]) 16 := by simp [AV.room]; omega
def ofV (l : List Ow) (call : ByteArray) : AV := if ownE l ≠ 0 then .tup [.string ⟨#[]⟩, .int (ownE l)] else match there l call with | none => .tup [.string ⟨#[]⟩, .int 8] | some x => .tup [.string x.o, .int 0]
theorem of_fn (l : List Ow) (call : ByteArray) : Fn Try.prog 32 [ows l, .string call] (.tup [.sc, .sc]) (ofV l call) := by
  unfold ofV
  refine fn_run mixed 1 (Γ := OwnerF.Γ) (ann := OwnerF.ann) Try.func32 rfl Try.call32 ((OwnerF.of_form _ _ _).mpr ?_)
  refine ⟨_, check_fn l, ?_⟩
  by_cases hE : ownE l = 0
  · obtain ⟨hl, hnm, _⟩ := ownE_ok hE
    simp [hE]
    refine ⟨_, place_fn l call (by omega), ?_⟩
    cases ht : there l call with
    | none => simp
    | some x =>
      obtain ⟨hx, hxc⟩ := there_some ht
      have hlt : plI l call < l.length := (List.getElem?_eq_some_iff.1 hx).1
      simp [hlt, lst_at hx, encO]
  · simp [hE]
def flightsOf (by_ : ByteArray) (l : List Ow) : List ByteArray := l.filterMap fun x => if x.o = by_ then some x.c else none
def flightsV (l : List Ow) (by_ : ByteArray) : AV := if ownE l ≠ 0 then .tup [.sl 1 [], .int (ownE l)] else .tup [lst 1 encS (flightsOf by_ l), .int 0]
theorem flights_fn (l : List Ow) (by_ : ByteArray) : Fn Try.prog 33 [ows l, .string by_] (.tup [.row 9 1 true, .sc]) (flightsV l by_) := by
  unfold flightsV
  refine fn_run mixed 1 (Γ := OwnerF.Γ) (ann := OwnerF.ann) Try.func33 rfl Try.call33 ((OwnerF.flights_form _ _ _).mpr ?_)
  refine ⟨_, check_fn l, ?_⟩
  by_cases hE : ownE l = 0
  · obtain ⟨hl, hnm, _⟩ := ownE_ok hE
    simp [hE]
    refine loop_list (σ := List ByteArray) l (fun n out => [.int (n : Nat), lst 1 encS out]) (fun n rest out => flightsOf by_ l = out ++ flightsOf by_ rest ∧ out.length ≤ n) [] rfl ⟨by simp, by simp⟩ ?_ ?_
    · rintro n x rest out K hx hr hn ⟨hg, hlen⟩ hK
      have hw2 : IntKind.i64.wrap ((n : Int) + 1) = (n : Int) + 1 := wrap64 (by omega) (by omega)
      have hr1 := room_strs (out := out) (a := x.c) (by omega)
      simp [hn, lst_atAgg hx, encO, hw2]
      refine ⟨fun q => ⟨hr1, hK _ (out ++ [x.c]) (by simp) ⟨?_, by simp; omega⟩⟩, fun q => hK _ out (by simp) ⟨?_, by omega⟩⟩
      · rw [hg]; simp [flightsOf, q]
      · rw [hg]; simp [flightsOf, q]
    · rintro out K ⟨hg, hlen⟩
      have hf := flat_strs out
      have e : flightsOf by_ l = out := by rw [hg]; simp [flightsOf]
      simp [e, hf]
  · simp [hE]
def mvO (from_ to : ByteArray) (x : Ow) : Ow :=
  let o := if x.o = from_ then to else x.o
  let f := if x.f = from_ then to else x.f
  ⟨x.c, o, if f = o then ⟨#[]⟩ else f⟩
def moveV (l : List Ow) (from_ to : ByteArray) : AV := if ownE l ≠ 0 then errV (ownE l) else if isName from_ = false ∨ isName to = false then errV 3 else okV (l.map (mvO from_ to))
theorem move_fn (l : List Ow) (from_ to : ByteArray) : Fn Try.prog 15 [ows l, .string from_, .string to] (.tup [.row 44 3 true, .sc]) (moveV l from_ to) := by
  refine fn_run mixed 2 (Γ := OwnerF.Γ) (ann := OwnerF.ann) Try.func15 rfl Try.call15 ((OwnerF.move_form _ _ _ _).mpr ?_)
  have e1 : Ent Try.prog 36 := Try.call36
  refine ⟨_, check_fn l, ?_⟩
  by_cases hE : ownE l = 0
  · obtain ⟨hl, hnm, _⟩ := ownE_ok hE
    simp [hE, e1]
    refine ⟨_, name_fn from_, ?_⟩
    simp
    refine ⟨fun h => ⟨h, by simp [moveV, hE, h, errV]⟩, fun h => ⟨_, name_fn to, ?_⟩⟩
    simp [h]
    refine ⟨fun h2 => by simp [moveV, hE, h, h2, errV], fun h2 => ⟨_, clone_fn l (by omega), ?_⟩⟩
    have hV : moveV l from_ to = okV (l.map (mvO from_ to)) := by simp [moveV, hE, h, h2]
    rw [hV]
    simp
    refine loop_list (σ := Unit) l (fun n _ => [.int (n : Nat), ows ((l.take n).map (mvO from_ to) ++ l.drop n)]) (fun n rest _ => True) () (by simp) trivial ?_ ?_
    · rintro n x rest _ K hx hr hn _ hK
      have hw2 : IntKind.i64.wrap ((n : Int) + 1) = (n : Int) + 1 := wrap64 (by omega) (by omega)
      obtain ⟨m, hm⟩ : ∃ m, m = (l.take n).map (mvO from_ to) ++ l.drop n := ⟨_, rfl⟩
      have hmx : m[n]? = some x := by rw [hm, List.getElem?_append_right (by simp; omega)]; simp [Nat.min_eq_left (Nat.le_of_lt hn), hx]
      have hml : m.length = l.length := by rw [hm]; simp; omega
      have hnx : (l.take (n + 1)).map (mvO from_ to) ++ l.drop (n + 1) = m.set n (mvO from_ to x) := by
        have hl1 : ((l.take n).map (mvO from_ to)).length = n := by simp; omega
        have hd : l.drop n = x :: l.drop (n + 1) := by rw [List.drop_eq_getElem_cons hn]; congr 1; exact (List.getElem?_eq_some_iff.1 hx).2
        have ht : l.take (n + 1) = l.take n ++ [x] := by rw [← List.take_append_getElem hn]; congr 2; exact (List.getElem?_eq_some_iff.1 hx).2
        rw [hm, hd, ht, List.set_append_right _ _ (by omega), hl1, Nat.sub_self]
        simp
      rw [← hm]
      have hK' : ∀ y, y = mvO from_ to x → K [.int ((n : Int) + 1), ows (m.set n y)] := fun y hy => hK _ () (by rw [hnx, hy]; simp) trivial
      have hset : ∀ (z : Ow), (m.set n z)[n]? = some z := fun z => by rw [List.getElem?_set_self (by omega)]
      have hso : ∀ (k : List Ow) (z : Ow) (b : ByteArray), k[n]? = some z → AV.setEl (ows k) (.lit (.int .i64 (n : Nat))) 1 [.lit (.string b)] = ows (k.set n { z with o := b }) := fun k z b hk => lst_setEl hk rfl
      have hsf : ∀ (k : List Ow) (z : Ow) (b : ByteArray), k[n]? = some z → AV.setEl (ows k) (.lit (.int .i64 (n : Nat))) 2 [.lit (.string b)] = ows (k.set n { z with f := b }) := fun k z b hk => lst_setEl hk rfl
      have hmn : n < m.length := by omega
      have hsfS : ∀ (z : Ow) (b : ByteArray), AV.setEl (ows (m.set n z)) (.lit (.int .i64 (n : Nat))) 2 [.lit (.string b)] = ows (m.set n { z with f := b }) := fun z b => by rw [hsf _ z b (hset z), List.set_set]
      have hatS : ∀ (z : Ow) (j : Nat), AV.at (ows (m.set n z)) (.lit (.int .i64 (n : Nat))) j = (encO z).getD j default := fun z j => lst_at (hset z)
      have hself : ows m = ows (m.set n x) := by
        congr 1
        apply List.ext_getElem?
        intro k
        by_cases hk : k = n
        · rw [hk, hset, hmx]
        · rw [List.getElem?_set_ne (Ne.symm hk)]
      by_cases h1 : x.o = from_ <;> by_cases h2 : x.f = from_ <;>
        simp [hn, hmn, lst_at hmx, encO, hw2, hso m x _ hmx, hsf m x _ hmx, hsfS, hatS, h1, h2]
      all_goals (try refine ⟨fun q => ?_, fun q => ?_⟩)
      all_goals (first | refine hK' _ ?_ | (rw [hself]; refine hK' _ ?_))
      all_goals (simp_all [mvO])
    · rintro _ K _
      have hf := flat_ows (l.map (mvO from_ to))
      simp [okV, hf]
  · refine ⟨?_, ?_, ?_⟩ <;> simp [hE, moveV, errV]
/-! ### the reference's steps -/
theorem name_ne {s : ByteArray} (h : isName s = true) : s ≠ ⟨#[]⟩ := fun e => by rw [e] at h; exact absurd h (by decide)
theorem look {l : List Ow} {call : ByteArray} (hs : Sorted l) :
    (∃ x, there l call = some x ∧ l[plI l call]? = some x ∧ x.c = call ∧ atI call l 0 = (plI l call : Nat) ∧ (∀ y : Ow, y.c = call → withG y false l = l.set (plI l call) y) ∧ ∀ y : Ow, y.c = call → withG y true l = l.eraseIdx (plI l call)) ∨
    (there l call = none ∧ atI call l 0 = -1 ∧ ∀ y : Ow, y.c = call → withG y false l = l.take (plI l call) ++ (y :: l.drop (plI l call))) := by
  cases ht : there l call with
  | some x =>
    obtain ⟨hx, hxc⟩ := there_some ht
    refine .inl ⟨x, rfl, hx, hxc, ?_, fun y hy => ?_, fun y hy => ?_⟩
    · have := ((plR_spec ⟨call, call, call⟩ l hs).1 x hx hxc).2.2 0
      simpa [plI] using this
    · subst hy; exact ((plR_spec y l hs).1 x hx hxc).1
    · subst hy; exact ((plR_spec y l hs).1 x hx hxc).2.1
  | none =>
    have hno : ∀ y, l[plI l call]? = some y → y.c ≠ call := fun y hy e => by
      unfold there at ht
      rw [hy, Option.filter_some, if_pos (by simpa using e)] at ht
      cases ht
    refine .inr ⟨rfl, ?_, fun y hy => ?_⟩
    · exact ((plR_spec ⟨call, call, call⟩ l hs).2 hno).2 0
    · subst hy; exact ((plR_spec y l hs).2 hno).1
end Go.Proofs.Ytalfopommofdfaa
