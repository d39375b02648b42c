/- The order by a number, then by a name; sorting by it. -/
import Derived.Test.YtfdpbfdhcngfgaaCmpF
import Derived.Test.YtfdpbfdhcngfgaaLst
namespace Go.Proofs.Ytfdpbfdhcngfgaa
open Go.RowKit
set_option linter.unusedVariables false
set_option linter.unusedSimpArgs false
set_option maxRecDepth 100000
/-! ### comparing -/
def cmpS (a b : ByteArray) : Int := if key a < key b then -1 else if key a ≤ key b then 0 else 1
theorem compare_fn (a b : ByteArray) : Fn Try.prog 23 [.string a, .string b] .sc (.int (cmpS a b)) := by
  refine fn_run mixed 2 (Γ := CmpF.Γ) (ann := CmpF.ann) Try.func23 rfl Try.call23 ((CmpF.cmp_form _ _ _).mpr ?_)
  have e1 : Ent Try.prog 39 := Try.call39
  simp [e1]
  refine ⟨fun h => by simp [cmpS, h], fun h => ⟨fun h2 => ?_, fun h2 => ?_⟩⟩
  · rw [cmpS, if_neg (by simpa using h), if_neg (by simpa using h2)]
  · rw [cmpS, if_neg (by simpa using h), if_pos (by simpa using h2)]
def orI : List Int → Int
  | [] => 0
  | x :: r => if x = 0 then orI r else x
def encI (x : Int) : List AV := [.int x]
abbrev ints (l : List Int) : AV := lst 1 encI l
theorem or_fn (l : List Int) (hl : l.length ≤ 100) : Fn Try.prog 22 [lst 1 encI l] .sc (.int (orI l)) := by
  refine fn_run mixed 2 (Γ := CmpF.Γ) (ann := CmpF.ann) Try.func22 rfl Try.call22 ((CmpF.or_form _ _).mpr ?_)
  simp
  refine loop_list (σ := Unit) l (fun n _ => [.int (n : Nat)]) (fun n rest _ => orI l = orI rest) () rfl rfl ?_ ?_
  · rintro n x rest _ K hx hr hn hg hK
    have hw2 : IntKind.i64.wrap ((n : Int) + 1) = (n : Int) + 1 := wrap64 (by omega) (by omega)
    simp [hn, lst_at hx, encI, hw2]
    rw [orI] at hg
    exact ⟨fun h => by rw [hg, if_neg h], fun h => hK _ () (by simp) (by rw [hg, if_pos h])⟩
  · intro _ K hg
    simp [hg, orI]
/-! ### the order -/
def klt (a b : Int × List UInt8) : Prop := a.1 < b.1 ∨ (a.1 = b.1 ∧ a.2 < b.2)
instance (a b : Int × List UInt8) : Decidable (klt a b) := inferInstanceAs (Decidable (_ ∨ _))
theorem key_tri (a b : List UInt8) (h1 : ¬ a < b) (h2 : ¬ b < a) : a = b := List.le_antisymm (List.not_lt.1 h2) (List.not_lt.1 h1)
theorem klt_irr (a : Int × List UInt8) : ¬ klt a a := by
  rintro (h | ⟨_, h⟩)
  · omega
  · exact List.lt_irrefl _ h
theorem klt_tr {a b c : Int × List UInt8} (h1 : klt a b) (h2 : klt b c) : klt a c := by
  rcases h1 with h1 | ⟨e1, h1⟩
  · rcases h2 with h2 | ⟨e2, h2⟩
    · exact .inl (by omega)
    · exact .inl (by omega)
  · rcases h2 with h2 | ⟨e2, h2⟩
    · exact .inl (by omega)
    · exact .inr ⟨by omega, List.lt_trans h1 h2⟩
theorem klt_tot {a b : Int × List UInt8} (h1 : ¬ klt a b) (h2 : ¬ klt b a) : a = b := by
  unfold klt at h1 h2
  have e : a.1 = b.1 := by
    have q1 : ¬ a.1 < b.1 := fun q => h1 (.inl q)
    have q2 : ¬ b.1 < a.1 := fun q => h2 (.inl q)
    omega
  exact Prod.ext e (key_tri _ _ (fun q => h1 (.inr ⟨e, q⟩)) (fun q => h2 (.inr ⟨e.symm, q⟩)))
theorem klt_ntr {a b c : Int × List UInt8} (h1 : ¬ klt a b) (h2 : ¬ klt b c) : ¬ klt a c := by
  intro h
  by_cases q : klt b a
  · exact h2 (klt_tr q h)
  · have e := klt_tot h1 q
    subst e; exact h2 h
/-- The comparison: cmp.Or(number's difference, names compared). -/
def cmpK (t u : Int) (a b : ByteArray) : Int := if t - u = 0 then cmpS a b else t - u
theorem cmpK_lt (t u : Int) (a b : ByteArray) : cmpK t u a b < 0 ↔ klt (t, key a) (u, key b) := by
  simp only [cmpK, klt, cmpS]
  split
  · rename_i h
    have : t = u := by omega
    simp only [this, true_and, Int.lt_irrefl, false_or]
    split
    · rename_i h1; simp [h1]
    · rename_i h1
      split <;> simp [h1]
  · rename_i h
    refine ⟨fun q => .inl (by omega), fun q => ?_⟩
    rcases q with q | q
    · omega
    · omega
theorem orI_cmp (d : Int) (a b : ByteArray) (t u : Int) (h : d = t - u) : orI [d, cmpS a b] = cmpK t u a b := by
  subst h
  simp only [orI, cmpK]
  by_cases h0 : t - u = 0
  · rw [if_pos h0, if_pos h0]
    split
    · rename_i h1; exact h1.symm
    · rfl
  · rw [if_neg h0, if_neg h0]
section
variable {α : Type} (f : α → Int × List UInt8)
def insB (x : α) : List α → List α
  | [] => [x]
  | y :: r => if klt (f x) (f y) then x :: y :: r else y :: insB x r
def srtB : List α → List α
  | [] => []
  | x :: r => insB f x (srtB r)
theorem insB_perm (x : α) : ∀ l, (insB f x l).Perm (x :: l)
  | [] => .refl _
  | y :: r => by
    rw [insB]
    split
    · exact .refl _
    · exact ((insB_perm x r).cons y).trans (.swap x y r)
theorem srtB_perm : ∀ l, (srtB f l).Perm l
  | [] => .refl _
  | x :: r => (insB_perm f x _).trans ((srtB_perm r).cons x)
theorem srtB_len (l : List α) : (srtB f l).length = l.length := (srtB_perm f l).length_eq
theorem insB_sorted (x : α) : ∀ l, l.Pairwise (fun a b => ¬ klt (f b) (f a)) → (insB f x l).Pairwise (fun a b => ¬ klt (f b) (f a))
  | [], _ => by simp [insB]
  | y :: r, h => by
    rw [List.pairwise_cons] at h
    rw [insB]
    split
    · rename_i hxy
      rw [List.pairwise_cons, List.pairwise_cons]
      refine ⟨fun z hz q => ?_, h.1, h.2⟩
      rcases List.mem_cons.1 hz with rfl | hz
      · exact klt_irr _ (klt_tr hxy q)
      · exact h.1 z hz (klt_tr q hxy)
    · rename_i hxy
      rw [List.pairwise_cons]
      refine ⟨fun z hz => ?_, insB_sorted x r h.2⟩
      rcases List.mem_cons.1 ((insB_perm f x r).mem_iff.1 hz) with rfl | hz
      · exact hxy
      · exact h.1 z hz
theorem srtB_sorted : ∀ l, (srtB f l).Pairwise (fun a b => ¬ klt (f b) (f a))
  | [] => .nil
  | x :: r => insB_sorted f x _ (srtB_sorted r)
/-- The least of those that are left is the next of the sorted ones. -/
theorem least_head {left : List α} {x y : α} {rest : List α} (hp : left.Perm (y :: rest)) (hs : (y :: rest).Pairwise (fun a b => ¬ klt (f b) (f a))) (hx : x ∈ left) (hmin : ∀ z ∈ left, ¬ klt (f z) (f x)) (hinj : ∀ a ∈ left, ∀ b ∈ left, f a = f b → a = b) : x = y := by
  have hy : y ∈ left := hp.mem_iff.2 (by simp)
  refine hinj _ hx _ hy (klt_tot ?_ (hmin y hy))
  rcases List.mem_cons.1 (hp.mem_iff.1 hx) with e | e
  · rw [e]; exact klt_irr _
  · exact (List.pairwise_cons.1 hs).1 _ e
theorem cut_at {l : List α} {b : Nat} {x : α} (h : l[b]? = some x) : l = l.take b ++ x :: l.drop (b + 1) := by
  have hb : b < l.length := (List.getElem?_eq_some_iff.1 h).1
  have : l[b] = x := (List.getElem?_eq_some_iff.1 h).2
  rw [← this, ← List.drop_eq_getElem_cons hb, List.take_append_drop]
theorem cut_perm {l : List α} {b : Nat} {x : α} {rest : List α} (h : l[b]? = some x) (hp : l.Perm (x :: rest)) : (l.take b ++ l.drop (b + 1)).Perm rest := by
  have h1 : (x :: (l.take b ++ l.drop (b + 1))).Perm (x :: rest) := by
    refine List.Perm.trans ?_ hp
    conv => rhs; rw [cut_at h]
    exact List.perm_middle.symm
  exact h1.cons_inv
end
theorem take_snoc {α : Type} {l : List α} {n : Nat} {x : α} (h : l[n]? = some x) : l.take (n + 1) = l.take n ++ [x] := by
  rw [List.take_add_one, h]; rfl
theorem drop_cons {α : Type} {l : List α} {n : Nat} {x : α} {rest : List α} (h : l[n]? = some x) (hr : l.drop (n + 1) = rest) : l.drop n = x :: rest := by
  have hn := (List.getElem?_eq_some_iff.1 h).1
  rw [List.drop_eq_getElem_cons hn, hr]; congr 1; exact (List.getElem?_eq_some_iff.1 h).2
theorem idxN_lt {α : Type} (p : α → Bool) (l : List α) : idxN p 0 l < l.length := by
  rcases idxN_spec p l 0 with ⟨h1, _⟩ | ⟨i, x, h1, h2, _⟩
  · rw [h1]; omega
  · rw [h1]
    have := (List.getElem?_eq_some_iff.1 h2).1
    omega
end Go.Proofs.Ytfdpbfdhcngfgaa
