/- Names. -/
import Derived.Test.YtfdpbfdhcngfgaaNameF
import Derived.Test.YtfdpbfdhcngfgaaLst
namespace Go.Proofs.Ytfdpbfdhcngfgaa
open Go.RowKit
set_option linter.unusedVariables false
set_option linter.unusedSimpArgs false
set_option maxRecDepth 100000
def up (c : UInt8) : Prop := 65 ≤ c.toNat ∧ c.toNat ≤ 90
def dig (c : UInt8) : Prop := 48 ≤ c.toNat ∧ c.toNat ≤ 57
instance (c : UInt8) : Decidable (up c) := inferInstanceAs (Decidable (_ ∧ _))
instance (c : UInt8) : Decidable (dig c) := inferInstanceAs (Decidable (_ ∧ _))
def nameG : Nat → List UInt8 → Bool
  | _, [] => true
  | n, x :: rest => decide (up x ∨ (0 < n ∧ dig x)) && nameG (n + 1) rest
/-- A name: one to eight letters and digits, no digit at its head. -/
def isName (s : ByteArray) : Bool := decide (1 ≤ s.size ∧ s.size ≤ 8) && nameG 0 (key s)
theorem nameG_all : ∀ (n : Nat) (l : List UInt8), nameG (n + 1) l = l.all fun c => decide (up c ∨ dig c)
  | _, [] => rfl
  | n, x :: l => by simp [nameG, nameG_all (n + 1) l]
theorem nameG_head {x : UInt8} {l : List UInt8} (h : ¬ dig x) : nameG 0 (x :: l) = (x :: l).all fun c => decide (up c ∨ dig c) := by
  simp [nameG, nameG_all, h]
@[simp] theorem key_len (s : ByteArray) : (key s).length = s.size := Array.length_toList
def encB (c : UInt8) : List AV := [.lit (.int .u8 c.toNat)]
theorem bytes_lst (s : ByteArray) : AV.bytes (.lit (.string s)) = lst 1 encB (key s) := rfl
theorem sat_at {s : ByteArray} {n : Nat} {c : UInt8} {k : IntKind} (h : (key s)[n]? = some c) : AV.sat (.lit (.string s)) (.lit (.int k (n : Nat))) = .lit (.int .u8 c.toNat) := by
  have hn : n < s.data.size := by have := (List.getElem?_eq_some_iff.1 h).1; rwa [Array.length_toList] at this
  have hc : s.data[n] = c := by have := (List.getElem?_eq_some_iff.1 h).2; simpa [key] using this
  have : s[n]? = some c := by
    rw [getElem?_pos s n hn]
    exact congrArg some hc
  unfold AV.sat
  simp [this]
theorem isName_eq (s : ByteArray) (h1 : 1 ≤ s.size) (h2 : s.size ≤ 8) : isName s = nameG 0 (key s) := by
  unfold isName; rw [decide_eq_true ⟨h1, h2⟩, Bool.true_and]
theorem isName_no (s : ByteArray) (h : ¬ (1 ≤ s.size ∧ s.size ≤ 8)) : isName s = false := by
  unfold isName; rw [decide_eq_false h, Bool.false_and]
theorem name_fn (s : ByteArray) : Fn Try.prog 29 [.string s] .sc (.bool (isName s)) := by
  refine fn_run mixed 0 (Γ := NameF.Γ) (ann := NameF.ann) Try.func29 rfl Try.call29 ((NameF.name_form _ _).mpr ?_)
  simp [bytes_lst, AV.bytesOk]
  refine ⟨fun h => ⟨h, ?_⟩, fun h => ⟨h, fun h2 => ?_, fun h2 => ⟨by omega, ?_⟩⟩⟩
  · exact isName_no s (by omega)
  · exact isName_no s (by omega)
  · have hE := isName_eq s (by omega) (by omega)
    refine loop_list (σ := Unit) (key s) (fun n _ => [.int (n : Nat)]) (fun n rest _ => isName s = nameG n rest) () rfl hE ?_ ?_
    · intro n x rest _ K hx hr hn hg hK
      rw [nameG] at hg
      rw [key_len] at hn
      have bad : ¬ (up x ∨ (0 < n ∧ dig x)) → isName s = false := fun h => by rw [hg, decide_eq_false h]; rfl
      have good : (up x ∨ (0 < n ∧ dig x)) → K [.int ((n : Nat) + 1)] := fun h => hK _ () (by simp) (by rw [hg, decide_eq_true h, Bool.true_and])
      unfold up dig at bad good
      simp [hn, lst_at hx, encB]
      (repeat' (first | exact trivial | (with_reducible intro hw; (try simp (disch := omega) only [wrap64] at hw); first | (exfalso; omega; done) | skip) | (with_reducible refine And.intro ?_ ?_) | omega | assumption))
      all_goals (first | exact bad (by omega) | (rw [wrap64 (by omega) (by omega)]; exact good (by omega)))
    · intro _ K hg
      rw [key_len]
      simp [hg, nameG]
theorem isname_fn (s : ByteArray) : Fn Try.prog 28 [.string s] .sc (.bool (isName s)) := by
  refine fn_run mixed 0 (Γ := NameF.Γ) (ann := NameF.ann) Try.func28 rfl Try.call28 ((NameF.isname_form _ _).mpr ?_)
  have hem : s.size = 0 ↔ s = ⟨#[]⟩ := ⟨fun h => ByteArray.ext (Array.size_eq_zero_iff.1 h), fun h => by rw [h]; rfl⟩
  by_cases h0 : s = ⟨#[]⟩
  · simp [h0]
    exact isName_no _ (by decide)
  · have hs0 : 0 < s.size := by have := mt hem.1 h0; omega
    obtain ⟨x, rest, hk⟩ : ∃ x rest, key s = x :: rest := by
      cases hk : key s with
      | nil => have := key_len s; rw [hk] at this; simp at this; omega
      | cons x rest => exact ⟨x, rest, rfl⟩
    have hx0 : AV.sat (.lit (.string s)) (.lit (.int .i64 0)) = .lit (.int .u8 x.toNat) := sat_at (n := 0) (by rw [hk]; rfl)
    simp [h0, hx0, hs0]
    refine ⟨fun h => ⟨h, isName_no s (by omega)⟩, fun h => ?_⟩
    have hE := isName_eq s hs0 (by omega)
    (repeat' (first | exact trivial | (with_reducible intro hw; (try simp (disch := omega) only [wrap64] at hw); first | (exfalso; omega; done) | skip) | (with_reducible refine And.intro ?_ ?_) | omega | assumption))
    all_goals first
      | (rw [hE, hk, nameG, decide_eq_false (by unfold up dig; omega)]; rfl)
      | (have hnd : ¬ dig x := by unfold dig; omega
         have hE2 : isName s = (key s).all fun c => decide (up c ∨ dig c) := by rw [hE, hk, nameG_head hnd]
         refine loop_list (σ := Unit) (key s) (fun n _ => [.int (n : Nat)]) (fun n rest _ => isName s = rest.all fun c => decide (up c ∨ dig c)) () rfl hE2 ?_ ?_
         · intro n y rest' _ K hy hr hn hg hK
           rw [List.all_cons] at hg
           rw [key_len] at hn
           have bad : ¬ (up y ∨ dig y) → isName s = false := fun h => by rw [hg, decide_eq_false h]; rfl
           have good : (up y ∨ dig y) → K [.int ((n : Nat) + 1)] := fun h => hK _ () (by simp) (by rw [hg, decide_eq_true h, Bool.true_and])
           unfold up dig at bad good
           simp [hn, sat_at hy]
           (repeat' (first | exact trivial | (with_reducible intro hw; (try simp (disch := omega) only [wrap64] at hw); first | (exfalso; omega; done) | skip) | (with_reducible refine And.intro ?_ ?_) | omega | assumption))
           all_goals (first | exact bad (by omega) | (rw [wrap64 (by omega) (by omega)]; exact good (by omega)))
         · intro _ K hg
           rw [key_len]
           simp [hg])
end Go.Proofs.Ytfdpbfdhcngfgaa
