/- sequences: the best order, in plain words. -/
import Derived.Test.YtfdpbfdhcngfgaaSqP
namespace Go.Proofs.Ytfdpbfdhcngfgaa
open Go.RowKit
set_option linter.unusedVariables false
set_option linter.unusedSimpArgs false
set_option maxRecDepth 100000
theorem vi_nil {P : Program} {f : FuncId} {a : AV} {rs : List Nat} {e : List (Nat × List AV)} (h : Vi P f [a, ints []] rs e) : Vi P f [a, .lit (.slice none 0 0)] rs e := by
  obtain ⟨h1, h2, h3⟩ := h
  refine ⟨h1, h2, fun fs J w ok cargs hfs hent hJ hG hV hargs h0 => h3 fs J w ok cargs hfs hent hJ hG hV ⟨hargs.1, fun i hi => ?_⟩ h0⟩
  have : i = 0 ∨ i = 1 := by have : i < 2 := by simpa using hi
                             omega
  rcases this with rfl | rfl
  · exact hargs.2 0 (by simp)
  · have := RV.lit_iff.1 (hargs.2 1 (by simp))
    show RV w ok (ints []) _
    rw [this]
    exact .sl 1 [] none 0 0 (fun _ _ => undef) rfl (Nat.le_refl _) (by unfold maxLen; omega) (by simp) (by omega) (by omega) (by omega)
theorem ords_ok (n : Nat) : ∀ (m : Nat) (s o : List Int), s.length + m = n → s.Nodup → (∀ x ∈ s, 0 ≤ x ∧ x < n) → o ∈ ords n m s → okO o n = true
  | 0, s, o, h, hn, hr, ho => by
    have : o = s := by simpa [ords] using ho
    rw [this, okO_alt]
    exact ⟨by omega, hn, hr⟩
  | m + 1, s, o, h, hn, hr, ho => by
    rw [ords, List.mem_flatMap] at ho
    obtain ⟨i, hi, ho⟩ := ho
    have hi := List.mem_range.1 hi
    split at ho
    · cases ho
    · rename_i hm
      refine ords_ok n m (s ++ [(i : Int)]) o (by simp; omega) ?_ (fun x hx => ?_) ho
      · rw [List.nodup_append]
        exact ⟨hn, by simp, fun a ha b hb e => by rw [List.mem_singleton] at hb; exact hm (by rw [← hb, ← e]; exact ha)⟩
      · rcases List.mem_append.1 hx with q | q
        · exact hr x q
        · rw [List.mem_singleton] at q; omega
theorem ords_all {n : Nat} {o : List Int} (h : o ∈ ords n n []) : okO o n = true := ords_ok n n [] o (by simp) List.nodup_nil (by simp) h
def zP (l : List Ar) (T : Nat → Int) (p : List Nat) : List (Nat × Int) := zl l T [] p
theorem zl_fst (l : List Ar) (T : Nat → Int) : ∀ (r : List Nat) (zs : List (Nat × Int)), (zl l T zs r).map (·.1) = zs.map (·.1) ++ r
  | [], zs => by simp [zl]
  | i :: r, zs => by rw [zl, zl_fst l T r]; simp
theorem zP_fst (l : List Ar) (T : Nat → Int) (p : List Nat) : (zP l T p).map (·.1) = p := by rw [zP, zl_fst]; rfl
theorem zP_len (l : List Ar) (T : Nat → Int) (p : List Nat) : (zP l T p).length = p.length := by
  have := congrArg List.length (zP_fst l T p); rwa [List.length_map] at this
theorem zl_low {l : List Ar} (g : GoodA l) {T : Nat → Int} (hT : tabErr T = 0) : ∀ (r : List Nat) (zs : List (Nat × Int)), (∀ i ∈ r, i < l.length) → (∀ z ∈ zs, z.1 < l.length ∧ 0 ≤ z.2) → ∀ z ∈ zl l T zs r, z.1 < l.length ∧ 0 ≤ z.2
  | [], zs, _, h => h
  | i :: r, zs, hr, h => by
    rw [zl]
    refine zl_low g hT r _ (fun j hj => hr j (by simp [hj])) fun z hz => ?_
    rcases List.mem_append.1 hz with q | q
    · exact h z q
    · rw [List.mem_singleton] at q
      subst q
      have hi := hr i (by simp)
      have h1 := g.at hi
      refine ⟨hi, ?_⟩
      show 0 ≤ nx l T zs i
      unfold nx
      split
      · omega
      · rename_i z hz'
        have h2 := h z (List.mem_of_getLast? hz')
        have h3 := gp_bd g hT h2.1 hi
        split <;> omega
theorem zP_bd {l : List Ar} (g : GoodA l) {T : Nat → Int} (hT : tabErr T = 0) {p : List Nat} (hp : ∀ i ∈ p, i < l.length) (hf : fitz l (zP l T p) = true) : ∀ z ∈ zP l T p, z.1 < l.length ∧ 0 ≤ z.2 ∧ z.2 ≤ 200000 := fun z hz => by
  obtain ⟨h1, h2⟩ := zl_low g hT p [] hp (by simp) z hz
  have h3 := g.at h1
  have h4 := List.all_eq_true.1 hf z hz
  have h5 : z.2 ≤ (arA l z.1).u := of_decide_eq_true h4
  exact ⟨h1, h2, by omega⟩
/-- The sum of the delays. -/
def sumG (l : List Ar) : List (Nat × Int) → Int → Int
  | [], s => s
  | z :: r, s => sumG l r (s + (z.2 - (arA l z.1).t))
def endG : List (Nat × Int) → Int → Int
  | [], e => e
  | z :: r, _ => endG r z.2
def dP (l : List Ar) (T : Nat → Int) (p : List Nat) : Int := sumG l (zP l T p) 0
def eP (l : List Ar) (T : Nat → Int) (p : List Nat) : Int := endG (zP l T p) 0
theorem endG_last : ∀ (zs : List (Nat × Int)) (e : Int) (z : Nat × Int), zs.getLast? = some z → endG zs e = z.2
  | [], e, z, h => by cases h
  | [y], e, z, h => by injection h with h; rw [← h]; rfl
  | y :: y' :: r, e, z, h => by
    rw [endG]
    exact endG_last (y' :: r) y.2 z (by rw [List.getLast?_cons_cons] at h; exact h)
theorem endG_ge : ∀ (zs : List (Nat × Int)) (e : Int), 0 ≤ e → (∀ z ∈ zs, 0 ≤ z.2) → 0 ≤ endG zs e
  | [], e, h, _ => h
  | y :: r, e, _, h => endG_ge r y.2 (h y (by simp)) fun z hz => h z (by simp [hz])
def okB (l : List Ar) (T : Nat → Int) (most : Int) (p : List Nat) : Bool := fitz l (zP l T p) && !decide (shf l p > most)
def lessB (l : List Ar) (T : Nat → Int) (p q : List Nat) : Prop := eP l T p < eP l T q ∨ (eP l T p = eP l T q ∧ dP l T p < dP l T q)
instance (l : List Ar) (T : Nat → Int) (p q : List Nat) : Decidable (lessB l T p q) := inferInstanceAs (Decidable (_ ∨ _))
def bestS (l : List Ar) (T : Nat → Int) (most : Int) (st : Option (List Nat)) (o : List Int) : Option (List Nat) :=
  if okB l T most (nat o) = true then (match st with
    | none => some (nat o)
    | some q => if lessB l T (nat o) q then some (nat o) else some q) else st
def bst (l : List Ar) (T : Nat → Int) (most : Int) : Option (List Nat) := (ords l.length l.length []).foldl (bestS l T most) none
/-- What the visits carry. -/
def enc4 (l : List Ar) (T : Nat → Int) : Option (List Nat) → List AV
  | none => [.lit (.slice none 0 0), .lit (.slice none 0 0), .int 0, .int 0]
  | some p => [nts p, ints (tms (zP l T p)), .int (eP l T p), .int (dP l T p)]
def enc3 (l : List Ar) (T : Nat → Int) : Option (List Nat) → List AV
  | none => [.lit (.slice none 0 0), .int (-1), .int 0]
  | some p => [nts p, .int (eP l T p), .int (dP l T p)]
/-- The states on the way. -/
def GoodP (l : List Ar) (T : Nat → Int) (p : List Nat) : Prop := p.Perm (List.range l.length) ∧ fitz l (zP l T p) = true
theorem bestS_good {l : List Ar} {T : Nat → Int} {most : Int} {st : Option (List Nat)} {o : List Int} (hs : ∀ p, st = some p → GoodP l T p) (ho : okO o l.length = true) : ∀ p, bestS l T most st o = some p → GoodP l T p := fun p hp => by
  have hgo : okB l T most (nat o) = true → GoodP l T (nat o) := fun h => ⟨(okO_nts ho).2, (Bool.and_eq_true _ _ ▸ h).1⟩
  unfold bestS at hp
  split at hp
  · rename_i h
    split at hp
    · injection hp with hp; rw [← hp]; exact hgo h
    · split at hp
      · injection hp with hp; rw [← hp]; exact hgo h
      · exact hs p hp
  · exact hs p hp
theorem fold_good {l : List Ar} {T : Nat → Int} {most : Int} : ∀ (os : List (List Int)) (st : Option (List Nat)), (∀ o ∈ os, okO o l.length = true) → (∀ p, st = some p → GoodP l T p) → ∀ p, os.foldl (bestS l T most) st = some p → GoodP l T p
  | [], st, _, hs, p, hp => hs p hp
  | o :: os, st, ho, hs, p, hp => fold_good os (bestS l T most st o) (fun x hx => ho x (by simp [hx])) (bestS_good hs (ho o (by simp))) p hp
end Go.Proofs.Ytfdpbfdhcngfgaa
