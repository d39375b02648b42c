/- The law of moves. -/
import Derived.Test.YtalfopommofdfaaOwner5
namespace Go.Proofs.Ytalfopommofdfaa
open Go.RowKit
set_option linter.unusedVariables false
set_option linter.unusedSimpArgs false
set_option maxRecDepth 100000
def othS (from_ to s : ByteArray) : ByteArray := if s = from_ then to else s
theorem other_fn (from_ to s : ByteArray) : Fn Try.prog 18 [.string s, .ref [.string from_], .ref [.string to]] .sc (.string (othS from_ to s)) := by
  refine fn_run mixed 0 (Γ := OwnerF.Γ) (ann := OwnerF.ann) Try.func18 rfl Try.call18 ((OwnerF.other_form _ _ _ _).mpr ?_)
  simp
  exact ⟨fun h => by unfold othS; rw [if_pos h], fun h => by unfold othS; rw [if_neg h]⟩
theorem omoves_fn (l : List Ow) (from_ to : ByteArray) : Fn Try.prog 4 [ows l, .string from_, .string to] .sc (.bool true) := by
  have e := OwnerG.moves_form (ows l) (.string from_) (.string to) (.bool true)
  have k := fun h => fn_run mixed 2 (Γ := OwnerG.Γ) (ann := OwnerG.ann) Try.func4 rfl Try.call4 (e.mpr h)
  refine k ?_
  clear k e
  refine ⟨by simp, by simp, _, ofact_fn, ?_⟩
  simp
  refine ⟨_, move_fn l from_ to, _, err_fn l, ?_⟩
  simp
  by_cases hE : ownE l = 0
  · obtain ⟨hl, _⟩ := ownE_ok hE
    simp only [hE]
    simp
    refine ⟨_, isname_fn from_, ?_⟩
    by_cases h1 : isName from_ = true
    · simp [h1]
      refine ⟨_, isname_fn to, ?_⟩
      by_cases h2 : isName to = true
      · have hV : moveV l from_ to = okV (l.map (mvO from_ to)) := by simp [moveV, hE, h1, h2]
        simp [h2, hV, okV]
        refine loop_list (σ := Unit) l (fun n _ => [.int (n : Nat)]) (fun n rest _ => True) () rfl trivial ?_ ?_
        · rintro n x rest _ K hx hr hn _ hK
          have hw2 : IntKind.i64.wrap ((n : Int) + 1) = (n : Int) + 1 := wrap64 (by omega) (by omega)
          have hy : (l.map (mvO from_ to))[n]? = some (mvO from_ to x) := by rw [List.getElem?_map, hx]; rfl
          have hKK := hK [.int ((n : Nat) + 1)] () (by simp) trivial
          have hmo : (mvO from_ to x).o = othS from_ to x.o := rfl
          have hmf : (mvO from_ to x).f = if othS from_ to x.f = othS from_ to x.o then ⟨#[]⟩ else othS from_ to x.f := rfl
          have hmc : (mvO from_ to x).c = x.c := rfl
          simp [hn, lst_atAgg hx, encO]
          refine ⟨_, other_fn from_ to x.o, _, other_fn from_ to x.f, ?_⟩
          simp [hn, lst_atAgg hy, encO, AV.eqPlOk, AV.nePl, hw2, hmo, hmf, hmc]
          exact ⟨fun q => ⟨fun q2 => absurd q.symm q2, hKK⟩, fun q => ⟨fun q2 => absurd q2.symm q, hKK⟩⟩
        · rintro _ K _
          simp
      · simp at h2
        have hV : moveV l from_ to = errV 3 := by simp [moveV, hE, h1, h2]
        simp [h2, hV, errV]
    · simp at h1
      have hV : moveV l from_ to = errV 3 := by simp [moveV, hE, h1]
      simp [h1, hV, errV]
  · have hV : moveV l from_ to = errV (ownE l) := by simp [moveV, hE]
    simp [hE, hV, errV]
theorem ownerMoves_all (xs : List AV) (h1 : xs.length = 3) (h2 : ∀ i, i < 3 → ArgOk Try.prog ([37, 9, 9].getD i 0) (xs.getD i default)) : Fn Try.prog 4 xs .sc (.bool true) := by
  obtain ⟨a, b, c, rfl⟩ := lst3 h1
  obtain ⟨l, e1, _⟩ := arg_ows (h2 0 (by omega))
  obtain ⟨f, e2, _⟩ := arg_str (h2 1 (by omega))
  obtain ⟨t, e3, _⟩ := arg_str (h2 2 (by omega))
  simp at e1 e2 e3
  subst e1 e2 e3
  exact omoves_fn l f t
end Go.Proofs.Ytalfopommofdfaa
