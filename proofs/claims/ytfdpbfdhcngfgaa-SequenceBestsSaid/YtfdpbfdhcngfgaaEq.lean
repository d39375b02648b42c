/- Structs that are compared. -/
import Derived.Test.YtfdpbfdhcngfgaaAv
import Derived.Laws.StructEq
namespace Go.Proofs.Ytfdpbfdhcngfgaa
open Go.RowKit
set_option linter.unusedVariables false
inductive EK where
  | int (k : IntKind)
  | str
  | bool
def EK.ok : EK → Value → Prop
  | .int k, v => ∃ n, v = .int k n
  | .str, v => ∃ s, v = .string s
  | .bool, v => ∃ b, v = .bool b
def eqV : Value → Value → Bool
  | .int _ a, .int _ b => a == b
  | .string a, .string b => a.toList == b.toList
  | .bool a, .bool b => a == b
  | _, _ => false
def planFs (P : Program) (n : Nat) (pl : TypeId → Option (List (Nat × EK))) : List Field → Option (List (Nat × EK))
  | [] => some []
  | f :: fs => if f.name = "_" then none else match pl f.type, planFs P n pl fs with
    | some a, some b => if a.all (fun p => decide (p.1 < P.cellsOf f.type)) && decide (f.offset + P.cellsOf f.type ≤ n) then some (a.map (fun p => (f.offset + p.1, p.2)) ++ b) else none
    | _, _ => none
/-- The cells that are compared, where two values of the type are. -/
def eqPlan (P : Program) : Nat → TypeId → Option (List (Nat × EK))
  | 0, _ => none
  | d + 1, t => match P.underlying t with
    | some (.int k) => some [(0, .int k)]
    | some .string => some [(0, .str)]
    | some .bool => some [(0, .bool)]
    | some (.struct fs) => if P.stoodInHeld t then none else planFs P (P.cellsOf t) (eqPlan P d) fs.toList
    | _ => none
section
variable {P : Program} (w : World)
/-- A scalar or a struct, as its type says. -/
def Fits (P : Program) (t : TypeId) (v : Value) : Prop := match P.underlying t with
  | some (.struct _) => ∃ xs, v = .agg xs ∧ xs.size = P.cellsOf t
  | _ => ∀ xs, v ≠ .agg xs
def isAggU : Option TypeDesc → Bool
  | some (.struct _) => true
  | some (.array _ _) => true
  | _ => false
theorem EK.notAgg {k : EK} {v : Value} (h : k.ok v) (xs : Array Value) : v ≠ .agg xs := by
  cases k <;> obtain ⟨_, rfl⟩ := h <;> exact fun e => by cases e
theorem cells_one' {v : Value} (h : ∀ xs, v ≠ .agg xs) : v.cells = #[v] := by
  cases v <;> first | rfl | (rename_i cs; exact absurd rfl (h cs))
theorem run_eqFields {d D : Nat} (ih : ∀ (t : TypeId) (pl), eqPlan P d t = some pl → ∀ (a b : Value), Fits P t a → Fits P t b → (∀ p ∈ pl, p.2.ok (a.cells.getD p.1 undef) ∧ p.2.ok (b.cells.getD p.1 undef)) → (Op.equalIn (D + d) t a b).run P w = .ok (pl.all fun p => eqV (a.cells.getD p.1 undef) (b.cells.getD p.1 undef)) w)
    (xs ys : Array Value) (n : Nat) (hx : xs.size = n) (hy : ys.size = n) : ∀ (fs : List Field) (pl), planFs P n (eqPlan P d) fs = some pl → (∀ p ∈ pl, p.2.ok (xs.getD p.1 undef) ∧ p.2.ok (ys.getD p.1 undef)) →
      (Op.eqFields (D + d) xs ys fs).run P w = .ok (pl.all fun p => eqV (xs.getD p.1 undef) (ys.getD p.1 undef)) w
  | [], pl, h, _ => by
    simp only [planFs, Option.some.injEq] at h
    subst h
    rfl
  | f :: fs, pl, h, hok => by
    simp only [planFs] at h
    split at h
    · cases h
    · rename_i hn
      split at h
      · rename_i a b h1 h2
        split at h
        · rename_i hc
          simp only [Option.some.injEq] at h
          subst h
          rw [Bool.and_eq_true] at hc
          have hin : f.offset + P.cellsOf f.type ≤ n := of_decide_eq_true hc.2
          have hlt : ∀ p ∈ a, p.1 < P.cellsOf f.type := fun p hp => of_decide_eq_true (List.all_eq_true.1 hc.1 p hp)
          have hoka : ∀ p ∈ a, p.2.ok (xs.getD (f.offset + p.1) undef) ∧ p.2.ok (ys.getD (f.offset + p.1) undef) := fun p hp => hok (f.offset + p.1, p.2) (List.mem_append_left _ (List.mem_map.2 ⟨p, hp, rfl⟩))
          have hokb : ∀ p ∈ b, p.2.ok (xs.getD p.1 undef) ∧ p.2.ok (ys.getD p.1 undef) := fun p hp => hok p (List.mem_append_right _ hp)
          -- a part
          have hpart : ∀ zs : Array Value, zs.size = n → (∀ p ∈ a, p.2.ok (zs.getD (f.offset + p.1) undef)) → ∃ v, (part f.type zs f.offset).run P w = .ok v w ∧ Fits P f.type v ∧ ∀ p ∈ a, v.cells.getD p.1 undef = zs.getD (f.offset + p.1) undef := fun zs hz hzok => by
            cases d with
            | zero => cases h1
            | succ d =>
              have hscal : (∃ k, a = [(0, k)]) → isAggU (P.underlying f.type) = false → P.underlying f.type ≠ none → ∃ v, (part f.type zs f.offset).run P w = .ok v w ∧ Fits P f.type v ∧ ∀ p ∈ a, v.cells.getD p.1 undef = zs.getD (f.offset + p.1) undef := by
                rintro ⟨k, rfl⟩ hag hne
                have h0 := hlt (0, k) (by simp)
                have hlt' : f.offset < zs.size := by simp only at h0; omega
                have hk := hzok (0, k) (by simp)
                simp only [Nat.add_zero] at hk
                obtain ⟨u, hu⟩ := Option.ne_none_iff_exists'.1 hne
                refine ⟨zs.getD f.offset undef, ?_, ?_, ?_⟩
                · have hrun : (isAgg f.type).run P w = .ok false w := by
                    simp only [isAgg, Sem.run_bind, run_underlying hu, Result.andThen_ok]
                    rw [hu] at hag
                    cases u <;> first | rfl | (cases hag)
                  simp only [part, Sem.run_bind, hrun, Result.andThen_ok, Bool.false_eq_true, if_false]
                  rw [Array.getElem?_eq_getElem hlt', Array.getD_eq_getD_getElem?, Array.getElem?_eq_getElem hlt']
                  rfl
                · unfold Fits
                  split
                  · rename_i e; rw [e] at hag; cases hag
                  · exact fun xs => EK.notAgg hk xs
                · intro p hp
                  simp only [List.mem_singleton] at hp
                  subst hp
                  rw [cells_one' (fun xs => EK.notAgg hk xs)]
                  rfl
              simp only [eqPlan] at h1
              split at h1
              · rename_i k hu; injection h1 with h1; exact hscal ⟨_, h1.symm⟩ (by rw [hu]; rfl) (by rw [hu]; simp)
              · rename_i hu; injection h1 with h1; exact hscal ⟨_, h1.symm⟩ (by rw [hu]; rfl) (by rw [hu]; simp)
              · rename_i hu; injection h1 with h1; exact hscal ⟨_, h1.symm⟩ (by rw [hu]; rfl) (by rw [hu]; simp)
              · rename_i gs hu
                have hsz : (sizeOf f.type).run P w = .ok (P.cellsOf f.type) w := by
                  cases hi : P.info? f.type with
                  | none => simp [Program.underlying, hi] at hu
                  | some i => simp [sizeOf, Program.cellsOf, typeInfo, hi]
                refine ⟨.agg (zs.extract f.offset (f.offset + P.cellsOf f.type)), ?_, ?_, ?_⟩
                · simp [part, isAgg, run_underlying hu, hsz]
                · unfold Fits; rw [hu]; exact ⟨_, rfl, by simp; omega⟩
                · intro p hp
                  have := hlt p hp
                  simp only [Value.cells, Array.getD_eq_getD_getElem?]
                  rw [Array.getElem?_extract_of_lt (by omega), Array.getElem?_eq_getElem (by omega)]
              · cases h1
          obtain ⟨va, r1, f1, c1⟩ := hpart xs hx fun p hp => (hoka p hp).1
          obtain ⟨vb, r2, f2, c2⟩ := hpart ys hy fun p hp => (hoka p hp).2
          have hr := ih f.type a h1 va vb f1 f2 (fun p hp => by rw [c1 p hp, c2 p hp]; exact hoka p hp)
          have hall : (a.all fun p => eqV (va.cells.getD p.1 undef) (vb.cells.getD p.1 undef)) = ((a.map fun p => (f.offset + p.1, p.2)).all fun p => eqV (xs.getD p.1 undef) (ys.getD p.1 undef)) := by
            rw [List.all_map]
            apply Bool.eq_iff_iff.2
            simp only [List.all_eq_true, Function.comp]
            constructor
            · intro h p hp
              rw [← c1 p hp, ← c2 p hp]; exact h p hp
            · intro h p hp
              rw [c1 p hp, c2 p hp]; exact h p hp
          have hrest := run_eqFields ih xs ys n hx hy fs b h2 hokb
          simp only [Op.eqFields, if_pos hn, ne_eq, Sem.run_bind, r1, r2, hr, Result.andThen_ok, List.all_append]
          rw [hall]
          cases (a.map fun p => (f.offset + p.1, p.2)).all fun p => eqV (xs.getD p.1 undef) (ys.getD p.1 undef)
          · rfl
          · simpa using hrest
        · cases h
      · cases h
theorem run_eqPlan : ∀ (d : Nat) (D : Nat) (t : TypeId) (pl), eqPlan P d t = some pl → ∀ (a b : Value), Fits P t a → Fits P t b → (∀ p ∈ pl, p.2.ok (a.cells.getD p.1 undef) ∧ p.2.ok (b.cells.getD p.1 undef)) → (Op.equalIn (D + d) t a b).run P w = .ok (pl.all fun p => eqV (a.cells.getD p.1 undef) (b.cells.getD p.1 undef)) w
  | 0, D, t, pl, h, a, b, ha, hb, hok => by cases h
  | d + 1, D, t, pl, h, a, b, ha, hb, hok => by
    simp only [eqPlan] at h
    have hsc : isAggU (P.underlying t) = false → (∀ xs, a ≠ .agg xs) ∧ ∀ xs, b ≠ .agg xs := fun hq => by
      unfold Fits at ha hb
      split at ha
      · rename_i e; rw [e] at hq; cases hq
      · split at hb
        · rename_i e; rw [e] at hq; cases hq
        · exact ⟨ha, hb⟩
    split at h
    · rename_i k hu
      injection h with h; subst h
      obtain ⟨na, nb⟩ := hsc (by rw [hu]; rfl)
      have := hok (0, .int k) (by simp)
      rw [cells_one' na, cells_one' nb] at this ⊢
      obtain ⟨⟨x, e1⟩, ⟨y, e2⟩⟩ := this
      have e1 : a = .int k x := e1
      have e2 : b = .int k y := e2
      subst e1 e2
      rw [← Nat.add_assoc, run_equalIn_int w _ t k k x y hu]
      simp [eqV]
    · rename_i hu
      injection h with h; subst h
      obtain ⟨na, nb⟩ := hsc (by rw [hu]; rfl)
      have := hok (0, .str) (by simp)
      rw [cells_one' na, cells_one' nb] at this ⊢
      obtain ⟨⟨x, e1⟩, ⟨y, e2⟩⟩ := this
      have e1 : a = .string x := e1
      have e2 : b = .string y := e2
      subst e1 e2
      rw [← Nat.add_assoc, run_equalIn_string w _ t x y hu]
      simp [eqV]
    · rename_i hu
      injection h with h; subst h
      obtain ⟨na, nb⟩ := hsc (by rw [hu]; rfl)
      have := hok (0, .bool) (by simp)
      rw [cells_one' na, cells_one' nb] at this ⊢
      obtain ⟨⟨x, e1⟩, ⟨y, e2⟩⟩ := this
      have e1 : a = .bool x := e1
      have e2 : b = .bool y := e2
      subst e1 e2
      rw [← Nat.add_assoc, run_equalIn_bool' w _ t x y hu]
      simp [eqV]
    · rename_i fs hu
      split at h
      · cases h
      · rename_i hst
        unfold Fits at ha hb
        rw [hu] at ha hb
        obtain ⟨xs, rfl, hx⟩ := ha
        obtain ⟨ys, rfl, hy⟩ := hb
        have hf : P.fieldsOf t = fs := by unfold Program.fieldsOf; rw [hu]
        rw [← Nat.add_assoc, run_equalIn_struct w (D + d) t xs ys (by rw [hf]; exact hu) (by simpa using hst), hf]
        exact run_eqFields w (fun t pl h a b => run_eqPlan d D t pl h a b) xs ys _ hx hy fs.toList pl h hok
    · cases h
end
/-- Package-level variables that are known: block, cells. -/
def globL : List (Nat × List Value) := []
/-- Package-level variables that hold some int. -/
def globI : List Nat := []
end Go.Proofs.Ytfdpbfdhcngfgaa
