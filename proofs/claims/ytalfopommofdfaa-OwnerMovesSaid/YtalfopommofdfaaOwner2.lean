/- owner's functions, and what the reference makes of them. -/
import Derived.Test.YtalfopommofdfaaOwner
namespace Go.Proofs.Ytalfopommofdfaa
open Go.RowKit
set_option linter.unusedVariables false
set_option linter.unusedSimpArgs false
set_option maxRecDepth 100000
/-- Where a flight's entry stands, or would stand. -/
def plR (call : ByteArray) : List Ow → Nat
  | [] => 0
  | x :: r => if key call ≤ key x.c then 0 else plR call r + 1
def plI (l : List Ow) (call : ByteArray) : Nat := plR call l
/-- The same, as the reference looks for it: -1: none. -/
def atI (call : ByteArray) : List Ow → Nat → Int
  | [], _ => -1
  | x :: r, n => if x.c = call then (n : Nat) else atI call r (n + 1)
def there (l : List Ow) (call : ByteArray) : Option Ow := (l[plI l call]?).filter fun x => decide (x.c = call)
theorem there_some {l : List Ow} {call : ByteArray} {x : Ow} (h : there l call = some x) : l[plI l call]? = some x ∧ x.c = call := by
  unfold there at h
  cases hq : l[plI l call]? with
  | none => rw [hq] at h; cases h
  | some y =>
    rw [hq, Option.filter_some] at h
    split at h
    · rename_i hc; injection h with h; subst h; exact ⟨rfl, by simpa using hc⟩
    · cases h
theorem place_fn (l : List Ow) (call : ByteArray) (hl : l.length ≤ 1000000) : Fn Try.prog 42 [ows l, .string call] (.tup [.sc, .sc]) (.tup [.int (plI l call), .bool (there l call).isSome]) := by
  refine fn_run mixed 3 (Γ := OwnerF.Γ) (ann := OwnerF.ann) Try.func42 rfl Try.call42 ((OwnerF.place_form _ _ _).mpr ?_)
  have e1 : Ent Try.prog 52 := Try.call52
  have e2 : Ent Try.prog 51 := Try.call51
  simp [e1, e2]
  refine loop_list (σ := Unit) l (fun n _ => [.int (n : Nat)]) (fun n rest _ => plI l call = n + plR call rest) () rfl (by simp [plI]) ?_ ?_
  · rintro n x rest _ K hx hr hn hg hK
    rw [plR] at hg
    have hw2 : IntKind.i64.wrap ((n : Int) + 1) = (n : Int) + 1 := wrap64 (by omega) (by omega)
    simp [hn, lst_atAgg hx, lst_at hx, encO, hw2]
    refine ⟨fun q => ⟨fun q2 => absurd q2 (by omega), ?_, ?_⟩, fun q => hK _ () (by simp) ?_⟩
    · rw [hg]; simp [q]
    · have e : plI l call = n := by rw [hg]; simp [q]
      simp [there, e, hx, Option.filter_some]
      by_cases hc : x.c = call <;> simp [hc]
    · have : ¬ key call ≤ key x.c := List.not_le.2 q
      rw [hg, if_neg this]; omega
  · rintro _ K hg
    have e : plI l call = l.length := by simpa [plR] using hg
    simp [e, there]
theorem clone_fn (l : List Ow) (hl : l.length ≤ 1000000) : Fn Try.prog 38 [ows l] (.row 44 3 true) (ows l) := by
  refine fn_run mixed 0 (Γ := OwnerF.Γ) (ann := OwnerF.ann) Try.func38 rfl Try.call38 ((OwnerF.clone_form _ _).mpr ?_)
  have hf := flat_ows l
  simp [AV.room]
  simp [lst] at hf ⊢
  exact ⟨by omega, hf⟩
/-! ### sorted entries -/
def Sorted (l : List Ow) : Prop := l.Pairwise fun a b => key a.c < key b.c
theorem owE_sorted : ∀ (l : List Ow) (last : ByteArray), owE last l = 0 → (∀ x ∈ l, key last < key x.c ∧ isName x.c = true ∧ isName x.o = true ∧ x.f ≠ x.o) ∧ Sorted l
  | [], _, _ => ⟨fun x hx => by simp at hx, List.Pairwise.nil⟩
  | x :: l, last, h => by
    rw [owE] at h
    split at h
    · cases h
    · rename_i h1
      split at h
      · cases h
      · rename_i h2
        split at h
        · cases h
        · rename_i h3
          obtain ⟨q1, q2⟩ := owE_sorted l x.c h
          have hlt : key last < key x.c := List.not_le.1 h3
          refine ⟨fun y hy => ?_, List.pairwise_cons.2 ⟨fun y hy => (q1 y hy).1, q2⟩⟩
          rcases List.mem_cons.1 hy with e | hy
          · subst e
            simp only [not_or, Bool.not_eq_false] at h1
            exact ⟨hlt, h1.1, h1.2.1, h2⟩
          · obtain ⟨r1, r2⟩ := q1 y hy
            exact ⟨List.lt_trans hlt r1, r2⟩
theorem ownE_ok {l : List Ow} (h : ownE l = 0) : l.length ≤ 24 ∧ (∀ x ∈ l, isName x.c = true ∧ isName x.o = true ∧ x.f ≠ x.o) ∧ Sorted l := by
  unfold ownE at h
  split at h
  · cases h
  · obtain ⟨q1, q2⟩ := owE_sorted l _ h
    exact ⟨by omega, fun x hx => (q1 x hx).2, q2⟩
/-- The reference's way to change entries. -/
def withG (x : Ow) : Bool → List Ow → List Ow
  | done, [] => if done then [] else [x]
  | done, y :: r => (if done = false ∧ key x.c ≤ key y.c then [x] else []) ++ ((if y.c = x.c then [] else [y]) ++ withG x (done || decide (key x.c ≤ key y.c)) r)
theorem key_eq {a b : ByteArray} : key a = key b ↔ a = b := ⟨key_inj, fun h => by rw [h]⟩
theorem withG_gone (x : Ow) : ∀ l : List Ow, (∀ y ∈ l, y.c ≠ x.c) → withG x true l = l
  | [], _ => rfl
  | y :: l, h => by
    rw [withG, if_neg (by simp), if_neg (h y (by simp)), Bool.true_or, withG_gone x l fun z hz => h z (by simp [hz])]
    rfl
theorem plR_spec (x : Ow) : ∀ l : List Ow, Sorted l → (∀ y, l[plR x.c l]? = some y → y.c = x.c → withG x false l = l.set (plR x.c l) x ∧ withG x true l = l.eraseIdx (plR x.c l) ∧ ∀ n, atI x.c l n = ((n + plR x.c l : Nat) : Int)) ∧
    ((∀ y, l[plR x.c l]? = some y → y.c ≠ x.c) → withG x false l = l.take (plR x.c l) ++ (x :: l.drop (plR x.c l)) ∧ ∀ n, atI x.c l n = -1)
  | [], _ => ⟨fun y hy => by simp at hy, fun _ => ⟨by simp [withG, plR], fun _ => rfl⟩⟩
  | z :: l, hs => by
    obtain ⟨h1, h2⟩ := List.pairwise_cons.1 hs
    have ih := plR_spec x l h2
    by_cases hk : key x.c ≤ key z.c
    · have hne : ∀ y ∈ l, y.c ≠ x.c := fun y hy e => by
        have := h1 y hy
        rw [e] at this
        exact absurd hk (List.not_le.2 this)
      have hat : ∀ (m : List Ow), (∀ y ∈ m, y.c ≠ x.c) → ∀ n, atI x.c m n = -1 := by
        intro m
        induction m with
        | nil => intro _ n; rfl
        | cons y m ih2 => intro hm n; rw [atI, if_neg (hm y (by simp)), ih2 fun y hy => hm y (by simp [hy])]
      simp only [plR, if_pos hk]
      refine ⟨fun y hy hyc => ?_, fun hn => ?_⟩
      · simp at hy
        subst hy
        refine ⟨?_, ?_, fun n => by rw [atI, if_pos hyc]; rfl⟩
        · simp [withG, hk, hyc, withG_gone x l hne]
        · simp [withG, hyc, withG_gone x l hne]
      · have hzc : z.c ≠ x.c := hn z (by simp)
        refine ⟨?_, fun n => by rw [atI, if_neg hzc, hat l hne]⟩
        simp [withG, hk, hzc, withG_gone x l hne]
    · have hzc : z.c ≠ x.c := fun e => hk (by rw [e]; exact List.le_refl _)
      simp only [plR, if_neg hk]
      refine ⟨fun y hy hyc => ?_, fun hn => ?_⟩
      · obtain ⟨q1, q2, q3⟩ := ih.1 y (by simpa using hy) hyc
        refine ⟨by simp [withG, hk, hzc, q1], by simp [withG, hk, hzc, q2], fun n => ?_⟩
        rw [atI, if_neg hzc, q3]; congr 1; omega
      · obtain ⟨q1, q2⟩ := ih.2 fun y hy => hn y (by simpa using hy)
        refine ⟨by simp [withG, hk, hzc, q1], fun n => ?_⟩
        rw [atI, if_neg hzc, q2]
end Go.Proofs.Ytalfopommofdfaa
