/- owner's functions. -/
import Derived.Test.YtalfopommofdfaaOwnerF
import Derived.Test.YtalfopommofdfaaName
import Derived.Test.YtalfopommofdfaaDelOwn
import Derived.Test.YtalfopommofdfaaInsOwn
namespace Go.Proofs.Ytalfopommofdfaa
open Go.RowKit
set_option linter.unusedVariables false
set_option linter.unusedSimpArgs false
set_option maxRecDepth 100000
/-- An entry. -/
structure Ow where
  c : ByteArray
  o : ByteArray
  f : ByteArray
  deriving DecidableEq
def encO (x : Ow) : List AV := [.string x.c, .string x.o, .string x.f]
abbrev ows (l : List Ow) : AV := lst 3 encO l
theorem flat_ows (l : List Ow) : (ows l).flatS := lst_flatS fun x _ z hz => by
  simp [encO] at hz; rcases hz with rfl | rfl | rfl <;> exact .lit _
theorem emp : (⟨#[]⟩ : ByteArray) = ByteArray.empty := rfl
/-- What is wrong with entries, from the entry behind the flight 'last' on. -/
def owE : ByteArray → List Ow → Int
  | _, [] => 0
  | last, x :: rest => if isName x.c = false ∨ isName x.o = false ∨ (x.f ≠ ⟨#[]⟩ ∧ isName x.f = false) then 3 else if x.f = x.o then 11 else if key x.c ≤ key last then 7 else owE x.c rest
def ownE (l : List Ow) : Int := if l.length > 24 then 2 else owE ⟨#[]⟩ l
theorem name_pos {s : ByteArray} (h : isName s = true) : ¬ key s ≤ ([] : List UInt8) := by
  intro hk
  have h1 : 1 ≤ s.size := by
    unfold isName at h
    simp only [Bool.and_eq_true, decide_eq_true_eq] at h
    exact h.1.1
  cases hs : key s with
  | nil => have := key_len s; rw [hs] at this; simp at this; omega
  | cons x r => rw [hs] at hk; exact absurd hk (by simp)
def prevc (l : List Ow) : Nat → ByteArray
  | 0 => ⟨#[]⟩
  | m + 1 => ((l[m]?).map (·.c)).getD ⟨#[]⟩
theorem oname_fn (s : ByteArray) : Fn Try.prog 36 [.string s] .sc (.bool (isName s)) := by
  refine fn_run mixed 1 (Γ := OwnerF.Γ) (ann := OwnerF.ann) Try.func36 rfl Try.call36 ((OwnerF.oname_form _ _).mpr ?_)
  refine ⟨_, name_fn s, ?_⟩
  simp
theorem eqo_fn (l m : List Ow) (hl : l.length ≤ maxLen) : Fn Try.prog 35 [ows l, ows m] .sc (.bool (decide (l = m))) := by
  refine fn_run mixed 0 (Γ := OwnerF.Γ) (ann := OwnerF.ann) Try.func35 rfl Try.call35 ((OwnerF.eqo_form _ _ _).mpr ?_)
  unfold maxLen at hl
  simp
  refine ⟨fun h => fun e => h (by rw [e]), fun h => equal_loop l m (by omega) rfl ?_ ?_⟩
  · rintro n ⟨x1, x2, x3⟩ ⟨y1, y2, y3⟩ K hx hy hn h1 h2
    simp [hn, show n < m.length by omega, lst_atAgg hx, lst_atAgg hy, encO, AV.eqPlOk, AV.nePl]
    rw [wrap64 (by omega) (by omega)]
    refine ⟨fun h => by simpa using h1 (by rintro ⟨⟩; simp at h), fun e1 e2 e3 => h2 (by rw [e1, e2, e3])⟩
  · intro K h1
    simpa using h1
def encS (t : ByteArray) : List AV := [.string t]
theorem eqs_fn (l m : List ByteArray) (hl : l.length ≤ maxLen) : Fn Try.prog 26 [lst 1 encS l, lst 1 encS m] .sc (.bool (decide (l = m))) := by
  refine fn_run mixed 0 (Γ := OwnerF.Γ) (ann := OwnerF.ann) Try.func26 rfl Try.call26 ((OwnerF.eqs_form _ _ _).mpr ?_)
  unfold maxLen at hl
  simp
  refine ⟨fun h => fun e => h (by rw [e]), fun h => equal_loop l m (by omega) rfl ?_ ?_⟩
  · intro n x y K hx hy hn h1 h2
    simp [hn, show n < m.length by omega, lst_at hx, lst_at hy, encS]
    rw [wrap64 (by omega) (by omega)]
    exact ⟨by simpa using h1, h2⟩
  · intro K h1
    simpa using h1
theorem check_fn (l : List Ow) : Fn Try.prog 37 [ows l] .sc (.int (ownE l)) := by
  refine fn_run mixed 2 (Γ := OwnerF.Γ) (ann := OwnerF.ann) Try.func37 rfl Try.call37 ((OwnerF.check_form _ _).mpr ?_)
  have e1 : Ent Try.prog 36 := Try.call36
  simp [e1]
  refine ⟨fun h => by unfold ownE; rw [if_pos (by omega)], fun h => ?_⟩
  have hE : ownE l = owE ⟨#[]⟩ l := by unfold ownE; rw [if_neg (by omega)]
  refine loop_list (σ := Unit) l (fun n _ => [.int (n : Nat)]) (fun n rest _ => ownE l = owE (prevc l n) rest) () rfl hE ?_ ?_
  · rintro n x rest _ K hx hr hn hg hK
    have hK' : ownE l = owE x.c rest → K [.int ((n : Nat) + 1)] := fun e => hK _ () (by simp) (by simpa [prevc, hx] using e)
    simp only [owE] at hg
    have g3 : (isName x.c = false ∨ isName x.o = false ∨ (x.f ≠ ⟨#[]⟩ ∧ isName x.f = false)) → 3 = ownE l := fun q => by rw [hg, if_pos q]
    have g11 : isName x.c = true → isName x.o = true → (x.f ≠ ⟨#[]⟩ → isName x.f = true) → x.f = x.o → 11 = ownE l := fun q1 q2 q3 q4 => by rw [hg, if_neg (by simp_all), if_pos q4]
    have g7 : isName x.c = true → isName x.o = true → (x.f ≠ ⟨#[]⟩ → isName x.f = true) → x.f ≠ x.o → key x.c ≤ key (prevc l n) → 7 = ownE l := fun q1 q2 q3 q4 q5 => by rw [hg, if_neg (by simp_all), if_neg q4, if_pos q5]
    have gK : isName x.c = true → isName x.o = true → (x.f ≠ ⟨#[]⟩ → isName x.f = true) → x.f ≠ x.o → ¬ key x.c ≤ key (prevc l n) → K [.int ((n : Nat) + 1)] := fun q1 q2 q3 q4 q5 => hK' (by rw [hg, if_neg (by simp_all), if_neg q4, if_neg q5])
    clear hg hK hK'
    have hw1 : IntKind.i64.wrap ((n : Int) - 1) = (n : Int) - 1 := wrap64 (by omega) (by omega)
    have hw2 : IntKind.i64.wrap ((n : Int) + 1) = (n : Int) + 1 := wrap64 (by omega) (by omega)
    rcases Nat.eq_zero_or_pos n with hn0 | hn0
    · have hpc : prevc l n = ⟨#[]⟩ := by rw [hn0]; rfl
      rw [hpc] at g7 gK
      simp [hn, lst_atAgg hx, encO]
      (repeat' (first | exact trivial | (with_reducible intro hw; (try simp (disch := omega) only [wrap64] at hw); first | (exfalso; omega; done) | skip) | (with_reducible refine And.intro ?_ ?_) | (refine ⟨_, name_fn _, ?_⟩; (try simp [hw1, hw2]); (try simp (disch := omega) only [wrap64])) | omega | assumption))
      all_goals (first | exact g3 (by simp_all) | exact g11 (by simp_all) (by simp_all) (by simp_all) (by simp_all) | exact gK (by simp_all) (by simp_all) (by simp_all) (by simp_all) (name_pos (by simp_all)))
    · obtain ⟨p, hp⟩ : ∃ p, l[n - 1]? = some p := ⟨_, List.getElem?_eq_getElem (by omega)⟩
      have hpc : prevc l n = p.c := by obtain ⟨m, rfl⟩ : ∃ m, n = m + 1 := ⟨n - 1, by omega⟩; simp only [Nat.add_sub_cancel] at hp; simp [prevc, hp]
      have hpv : AV.at (ows l) (.lit (.int .i64 ((n : Int) - 1))) 0 = .string p.c := by
        rw [lst_atI (by omega) (x := p) (by rw [← hp]; congr 1; omega)]; rfl
      rw [hpc] at g7 gK
      simp [hn, lst_atAgg hx, encO]
      (repeat' (first | exact trivial | (with_reducible intro hw; (try simp (disch := omega) only [wrap64] at hw); first | (exfalso; omega; done) | skip) | (with_reducible refine And.intro ?_ ?_) | (refine ⟨_, name_fn _, ?_⟩; (try simp [hw1, hw2, hpv]); (try simp (disch := omega) only [wrap64])) | omega | assumption))
      all_goals (first | exact g3 (by simp_all) | exact g11 (by simp_all) (by simp_all) (by simp_all) (by simp_all) | exact g7 (by simp_all) (by simp_all) (by simp_all) (by simp_all) (by simp_all) | exact gK (by simp_all) (by simp_all) (by simp_all) (by simp_all) (by simp_all))
  · intro _ K hg
    simp [hg, owE]
theorem err_fn (l : List Ow) : Fn Try.prog 16 [ows l] .sc (.int (ownE l)) := by
  refine fn_run mixed 1 (Γ := OwnerF.Γ) (ann := OwnerF.ann) Try.func16 rfl Try.call16 ((OwnerF.err_form _ _).mpr ?_)
  simp
  refine ⟨fun h => by unfold ownE; rw [if_pos (by omega)], fun h => ?_⟩
  have hE : ownE l = owE ⟨#[]⟩ l := by unfold ownE; rw [if_neg (by omega)]
  refine loop_list (σ := ByteArray) l (fun n last => [.string last, .int (n : Nat)]) (fun n rest last => ownE l = owE last rest) ⟨#[]⟩ rfl hE ?_ ?_
  · rintro n x rest last K hx hr hn hg hK
    have hK' : ownE l = owE x.c rest → K [.string x.c, .int ((n : Nat) + 1)] := fun e => hK _ x.c (by simp) e
    simp only [owE] at hg
    have g3 : (isName x.c = false ∨ isName x.o = false ∨ (x.f ≠ ⟨#[]⟩ ∧ isName x.f = false)) → 3 = ownE l := fun q => by rw [hg, if_pos q]
    have g11 : isName x.c = true → isName x.o = true → (x.f ≠ ⟨#[]⟩ → isName x.f = true) → x.f = x.o → 11 = ownE l := fun q1 q2 q3 q4 => by rw [hg, if_neg (by simp_all), if_pos q4]
    have g7 : isName x.c = true → isName x.o = true → (x.f ≠ ⟨#[]⟩ → isName x.f = true) → x.f ≠ x.o → key x.c ≤ key last → 7 = ownE l := fun q1 q2 q3 q4 q5 => by rw [hg, if_neg (by simp_all), if_neg q4, if_pos q5]
    have gK : isName x.c = true → isName x.o = true → (x.f ≠ ⟨#[]⟩ → isName x.f = true) → x.f ≠ x.o → ¬ key x.c ≤ key last → K [.string x.c, .int ((n : Nat) + 1)] := fun q1 q2 q3 q4 q5 => hK' (by rw [hg, if_neg (by simp_all), if_neg q4, if_neg q5])
    clear hg hK hK'
    have hw2 : IntKind.i64.wrap ((n : Int) + 1) = (n : Int) + 1 := wrap64 (by omega) (by omega)
    simp [hn, lst_atAgg hx, encO]
    (repeat' (first | exact trivial | (with_reducible intro hw; (try simp (disch := omega) only [wrap64] at hw); first | (exfalso; omega; done) | skip) | (with_reducible refine And.intro ?_ ?_) | (refine ⟨_, isname_fn _, ?_⟩; (try simp [hw2]); (try simp (disch := omega) only [wrap64])) | omega | assumption))
    all_goals (first | exact g3 (by simp_all) | exact g11 (by simp_all) (by simp_all) (by simp_all) (by simp_all) | exact g7 (by simp_all) (by simp_all) (by simp_all) (by simp_all) (by simp_all) | exact gK (by simp_all) (by simp_all) (by simp_all) (by simp_all) (by simp_all))
  · intro _ K hg
    simp [hg, owE]
end Go.Proofs.Ytalfopommofdfaa
