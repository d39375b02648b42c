/- Texts of clearances, plain. -/
import Derived.Test.YtbeegkheobomaaaDoorPhLib
namespace Go.Proofs.YtbeegkheobomaaaDoor
open Go.RowKit
set_option linter.unusedVariables false
set_option linter.unusedSimpArgs false
set_option maxRecDepth 100000
theorem key_app (a b : ByteArray) : key (a ++ b) = key a ++ key b := by unfold key; simp [ByteArray.data_append]
/-! Cutting at blanks. -/
theorem idx_sp (r : List UInt8) : ∀ (a : List UInt8), (32 : UInt8) ∉ a → Lib.index (a ++ 32 :: r) [32] = (a.length : Nat)
  | [], _ => by simp [Lib.index, List.isPrefixOf]
  | x :: a, h => by
    have hx : ¬ (32 : UInt8) = x := fun e => h (by simp [e])
    have ih := idx_sp r a (fun q => h (by simp [q]))
    show (if List.isPrefixOf [32] (x :: (a ++ 32 :: r)) then 0 else if Lib.index (a ++ 32 :: r) [32] == -1 then -1 else Lib.index (a ++ 32 :: r) [32] + 1) = _
    rw [ih, if_neg (by simp [List.isPrefixOf, hx]), if_neg (by first | (simp; done) | (simp; omega))]
    try simp
theorem idx_no : ∀ (a : List UInt8), (32 : UInt8) ∉ a → Lib.index a [32] = -1
  | [], _ => by simp [Lib.index]
  | x :: a, h => by
    have hx : ¬ (32 : UInt8) = x := fun e => h (by simp [e])
    have ih := idx_no a (fun q => h (by simp [q]))
    show (if List.isPrefixOf [32] (x :: a) then 0 else if Lib.index a [32] == -1 then -1 else Lib.index a [32] + 1) = _
    rw [ih, if_neg (by simp [List.isPrefixOf, hx])]
    simp
theorem split3 (a b c : List UInt8) (ha : (32 : UInt8) ∉ a) (hb : (32 : UInt8) ∉ b) (hc : (32 : UInt8) ∉ c) : Lib.splitK [32] 0 2 (a ++ 32 :: (b ++ 32 :: c)) = [a, b, c] := by
  have h1 := idx_sp (b ++ 32 :: c) a ha
  have h2 := idx_sp c b hb
  have h3 := idx_no c hc
  have e1 : (a ++ 32 :: (b ++ 32 :: c)).drop (a.length + 1) = b ++ 32 :: c := by
    rw [List.drop_append, List.drop_of_length_le (by omega)]; simp
  have e2 : (b ++ 32 :: c).drop (b.length + 1) = c := by
    rw [List.drop_append, List.drop_of_length_le (by omega)]; simp
  simp [Lib.splitK, h1, e1, h2, e2]
theorem cnt3 (a b c : List UInt8) (ha : (32 : UInt8) ∉ a) (hb : (32 : UInt8) ∉ b) (hc : (32 : UInt8) ∉ c) : Lib.count (a ++ 32 :: (b ++ 32 :: c)) [32] = 2 := by
  rw [Lib.count_one]
  simp [List.count_append, List.count_eq_zero_of_not_mem ha, List.count_eq_zero_of_not_mem hb, List.count_eq_zero_of_not_mem hc]
def sp : ByteArray := ⟨#[32]⟩
theorem parts3 {s a b c : ByteArray} (hs : key s = key a ++ 32 :: (key b ++ 32 :: key c)) (ha : (32 : UInt8) ∉ key a) (hb : (32 : UInt8) ∉ key b) (hc : (32 : UInt8) ∉ key c) : parts s = [a, b, c] := by
  have h1 : Lib.countB s ⟨#[32]⟩ = 2 := by
    show Lib.count (key s) [32] = 2
    rw [hs]; exact cnt3 _ _ _ ha hb hc
  have h2 := Lib.splitB_data ⟨#[32]⟩ 0 2 s
  have h3 : Lib.splitK [32] 0 2 (key s) = [key a, key b, key c] := by rw [hs]; exact split3 _ _ _ ha hb hc
  have h4 : (parts s).map key = [key a, key b, key c] := by
    unfold parts
    rw [h1]
    exact h2.trans h3
  exact (List.map_inj_right (f := key) fun x y e => key_inj e).1 (h4 : (parts s).map key = [a, b, c].map key)
/-! Numerals. -/
theorem dd_all : ∀ (u : Nat), ∀ c ∈ Lib.decDigits u, dig c
  | u => by
    rw [Lib.decDigits]
    split
    · rename_i h
      intro c hc
      rw [List.mem_singleton] at hc
      subst hc
      unfold dig
      rw [UInt8.toNat_ofNat']
      omega
    · rename_i h
      intro c hc
      rcases List.mem_append.1 hc with hc | hc
      · exact dd_all (u / 10) c hc
      · rw [List.mem_singleton] at hc
        subst hc
        unfold dig
        rw [UInt8.toNat_ofNat']
        omega
termination_by u => u
decreasing_by omega
theorem dd_ne (u : Nat) : Lib.decDigits u ≠ [] := by
  rw [Lib.decDigits]
  split <;> simp
theorem decFrom_app (b : UInt8) (d : Nat) (hd : Lib.digitVal b = some d) : ∀ (l : List UInt8) (acc m : Nat), Lib.decFrom acc l = some m → Lib.decFrom acc (l ++ [b]) = some (m * 10 + d)
  | [], acc, m, h => by
    simp [Lib.decFrom] at h
    simp [Lib.decFrom, hd, h]
  | x :: l, acc, m, h => by
    simp only [Lib.decFrom, List.cons_append] at h ⊢
    split at h
    · rename_i q
      exact decFrom_app b d hd l _ m h
    · cases h
theorem dd_val : ∀ (u : Nat), Lib.decFrom 0 (Lib.decDigits u) = some u
  | u => by
    rw [Lib.decDigits]
    have hdv : ∀ d, d < 10 → Lib.digitVal (UInt8.ofNat (48 + d)) = some d := fun d hd => by
      unfold Lib.digitVal
      rw [UInt8.toNat_ofNat', if_pos (by omega)]
      congr 1
      omega
    split
    · rename_i h
      show (match Lib.digitVal _ with | some d => Lib.decFrom (0 * 10 + d) [] | none => none) = _
      rw [hdv u h]
      simp [Lib.decFrom]
      try rfl
    · rename_i h
      rw [decFrom_app _ (u % 10) (hdv _ (by omega)) _ 0 (u / 10) (dd_val (u / 10))]
      congr 1
      omega
termination_by u => u
decreasing_by omega
theorem itoa_dd (n : Nat) : key (itoaS n) = Lib.decDigits n := by
  show Lib.itoa n = _
  unfold Lib.itoa
  rw [if_neg (by omega)]
  simp
theorem itoa_dig {v : Int} (h : 0 ≤ v) : ∀ c ∈ key (itoaS v), dig c := by
  obtain ⟨n, rfl⟩ := Int.eq_ofNat_of_zero_le h
  rw [itoa_dd]
  exact dd_all n
theorem itoa_ne {v : Int} (h : 0 ≤ v) : key (itoaS v) ≠ [] := by
  obtain ⟨n, rfl⟩ := Int.eq_ofNat_of_zero_le h
  rw [itoa_dd]
  exact dd_ne n
theorem atoi_itoa {v : Int} (h : 0 ≤ v) : Lib.atoi (key (itoaS v)) = some v := by
  obtain ⟨n, rfl⟩ := Int.eq_ofNat_of_zero_le h
  rw [itoa_dd]
  have h1 := dd_val n
  have h2 := dd_all n
  have h3 := dd_ne n
  generalize Lib.decDigits n = l at *
  cases l with
  | nil => exact absurd rfl h3
  | cons b r =>
    have hb := h2 b (by simp)
    unfold dig at hb
    have e1 : (b == 45) = false := by
      rw [beq_eq_false_iff_ne]; rintro rfl; exact absurd hb.1 (by decide)
    have e2 : (b == 43) = false := by
      rw [beq_eq_false_iff_ne]; rintro rfl; exact absurd hb.1 (by decide)
    unfold Lib.atoi
    simp only [e1, e2]
    simp [Lib.decNat, h1]
theorem dd_size : ∀ (u k : Nat), u < 10 ^ (k + 1) → (Lib.decDigits u).length ≤ k + 1
  | u, k, h => by
    rw [Lib.decDigits]
    split
    · simp
    · rename_i hu
      cases k with
      | zero => simp at h; omega
      | succ k =>
        have := dd_size (u / 10) k (by rw [Nat.pow_succ] at h; omega)
        simp; omega
theorem itoa_size {v : Int} (h : 0 ≤ v) (h2 : v ≤ 60000) : (itoaS v).size ≤ 5 := by
  obtain ⟨n, rfl⟩ := Int.eq_ofNat_of_zero_le h
  rw [← key_len, itoa_dd]
  exact dd_size n 4 (by omega)
/-! Words. -/
theorem wds_key : ∀ w ∈ wds, (32 : UInt8) ∉ key w ∧ ¬ (∀ c ∈ key w, dig c) ∧ w.size ≤ 7 := by decide
theorem kind_wd : ∀ k, k < 7 → kindI (wds.getD k ⟨#[]⟩) = (k : Nat) := by decide
theorem kind_no {s : ByteArray} (h : s ∉ wds) : kindI s = -1 := by
  unfold kindI
  rcases idxN_spec (isW s) wds 0 with ⟨h1, _⟩ | ⟨i, x, h1, h2, h3⟩
  · exact h1
  · have : s = x := by simpa [isW] using h3
    exact absurd (this ▸ List.mem_of_getElem? h2) h
theorem kind_itoa {v : Int} (h : 0 ≤ v) : kindI (itoaS v) = -1 := kind_no fun q => (wds_key _ q).2.1 (itoa_dig h)
theorem fr_kind {s : ByteArray} (h : frS s = true) : kindI s < 0 := by
  simp [frS] at h; exact h.2
theorem fr_size {s : ByteArray} (h : frS s = true) : s.size ≤ 8 := by
  simp [frS, isName] at h; omega
theorem nameG_sp : ∀ (n : Nat) (l : List UInt8), nameG n l = true → (32 : UInt8) ∉ l
  | _, [], _ => by simp
  | n, x :: l, h => by
    simp [nameG] at h
    intro hm
    rcases List.mem_cons.1 hm with e | hm
    · subst e
      rcases h.1 with q | q
      · exact absurd q.1 (by decide)
      · exact absurd q.2.1 (by decide)
    · exact nameG_sp _ l h.2 hm
theorem fr_sp {s : ByteArray} (h : frS s = true) : (32 : UInt8) ∉ key s := by
  simp [frS, isName] at h
  exact nameG_sp 0 _ h.1.2
theorem itoa_sp {v : Int} (h : 0 ≤ v) : (32 : UInt8) ∉ key (itoaS v) := fun q => absurd (itoa_dig h _ q).1 (by decide)
/-! A clearance that is valid. -/
structure OkC (x : Cl) : Prop where
  c : frS x.c = true
  k0 : 0 ≤ x.k
  k6 : x.k ≤ 6
  f : x.k > 2 → x.v = 0 ∧ frS x.f = true
  v : x.k ≤ 2 → x.f = ⟨#[]⟩ ∧ 0 ≤ x.v ∧ x.v ≤ 60000
theorem okC {x : Cl} (h : clE x = 0) : OkC x := by
  obtain ⟨c, k, v, f⟩ := x
  unfold clE at h
  split at h
  · cases h
  · rename_i h1
    split at h
    · cases h
    · rename_i h2
      split at h
      · rename_i h3
        split at h
        · cases h
        · rename_i h4
          exact ⟨by simpa using h1, by simp at h2 ⊢; omega, by simp at h2 ⊢; omega, fun _ => by simpa using h4, fun q => absurd q (by omega)⟩
      · rename_i h3
        split at h
        · cases h
        · rename_i h4
          split at h
          · cases h
          · rename_i h5
            refine ⟨by simpa using h1, by simp at h2 ⊢; omega, by simp at h2 ⊢; omega, fun q => absurd q h3, fun _ => ⟨by simpa using h4, ?_⟩⟩
            simp [mostI] at h5 ⊢
            split at h5
            · omega
            · split at h5 <;> omega
def wordOf (x : Cl) : ByteArray := wds.getD x.k.toNat ⟨#[]⟩
def argOf (x : Cl) : ByteArray := if x.k > 2 then x.f else itoaS x.v
def whatS (x : Cl) : ByteArray := wordOf x ++ sp ++ argOf x
theorem OkC.word {x : Cl} (h : OkC x) : wordOf x ∈ wds := by
  have h0 := h.k0; have h6 := h.k6
  unfold wordOf
  have hlt : x.k.toNat < wds.length := by rw [wds_len]; omega
  rw [List.getD_eq_getElem?_getD, List.getElem?_eq_getElem hlt]
  exact List.getElem_mem hlt
theorem OkC.kind {x : Cl} (h : OkC x) : kindI (wordOf x) = x.k := by
  have h0 := h.k0; have h6 := h.k6
  unfold wordOf
  rw [kind_wd _ (by omega)]
  omega
theorem OkC.arg {x : Cl} (h : OkC x) : (32 : UInt8) ∉ key (argOf x) ∧ kindI (argOf x) < 0 ∧ (argOf x).size ≤ 8 := by
  unfold argOf
  split
  · rename_i q
    have := (h.f q).2
    exact ⟨fr_sp this, fr_kind this, fr_size this⟩
  · rename_i q
    obtain ⟨_, h1, h2⟩ := h.v (by omega)
    refine ⟨itoa_sp h1, by rw [kind_itoa h1]; omega, ?_⟩
    have := itoa_size h1 h2
    omega
theorem OkC.print {x : Cl} (h : OkC x) : parts (x.c ++ sp ++ whatS x) = [x.c, wordOf x, argOf x] :=
  parts3 (by simp [whatS, key_app, show key sp = [32] from rfl]) (fr_sp h.c) (wds_key _ h.word).1 h.arg.1
theorem OkC.back {x : Cl} (h : OkC x) : parts (whatS x ++ sp ++ x.c) = [wordOf x, argOf x, x.c] :=
  parts3 (by simp [whatS, key_app, show key sp = [32] from rfl]) (wds_key _ h.word).1 h.arg.1 (fr_sp h.c)
theorem OkC.size {x : Cl} (h : OkC x) : x.c.size ≤ 8 ∧ (wordOf x).size ≤ 7 ∧ (whatS x).size ≤ 16 := by
  have h1 := fr_size h.c
  have h2 := (wds_key _ h.word).2.2
  have h3 := h.arg.2.2
  have : sp.size = 1 := rfl
  exact ⟨h1, h2, by simp only [whatS, ByteArray.size_append]; omega⟩
end Go.Proofs.YtbeegkheobomaaaDoor
