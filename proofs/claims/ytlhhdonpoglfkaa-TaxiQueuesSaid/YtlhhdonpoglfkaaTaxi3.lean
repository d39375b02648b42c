/- taxi.Queue. -/
import Derived.Test.YtlhhdonpoglfkaaTaxi2
namespace Go.Proofs.Ytlhhdonpoglfkaa
open Go.RowKit
set_option linter.unusedVariables false
set_option linter.unusedSimpArgs false
set_option maxRecDepth 100000
/-! ### the order of movements -/
def tlt (a b : Tx) : Prop := a.h < b.h ∨ (a.h = b.h ∧ key a.c < key b.c)
instance (a b : Tx) : Decidable (tlt a b) := inferInstanceAs (Decidable (_ ∨ _))
theorem avC_lt (a b : Tx) : avC (encT a) (encT b) < 0 ↔ tlt a b := by
  simp only [avC, encT, List.getD_cons_zero, List.getD_cons_succ, AV.num, AV.str, tlt, cmpS]
  split
  · rename_i h
    have : a.h = b.h := by omega
    simp only [this, true_and, Int.lt_irrefl, false_or]
    split
    · rename_i h1; simp [h1]
    · rename_i h1
      split <;> simp [h1]
  · rename_i h
    refine ⟨fun q => .inl (by omega), fun q => ?_⟩
    rcases q with q | q
    · omega
    · omega
theorem key_tri (a b : List UInt8) (h1 : ¬ a < b) (h2 : ¬ b < a) : a = b := List.le_antisymm (List.not_lt.1 h2) (List.not_lt.1 h1)
theorem tlt_irr (a : Tx) : ¬ tlt a a := by
  rintro (h | ⟨_, h⟩)
  · omega
  · exact List.lt_irrefl _ h
theorem tlt_tr {a b c : Tx} (h1 : tlt a b) (h2 : tlt b c) : tlt a c := by
  rcases h1 with h1 | ⟨e1, h1⟩
  · rcases h2 with h2 | ⟨e2, h2⟩
    · exact .inl (by omega)
    · exact .inl (by omega)
  · rcases h2 with h2 | ⟨e2, h2⟩
    · exact .inl (by omega)
    · exact .inr ⟨by omega, List.lt_trans h1 h2⟩
theorem tlt_tot {a b : Tx} (h1 : ¬ tlt a b) (h2 : ¬ tlt b a) : a.h = b.h ∧ a.c = b.c := by
  unfold tlt at h1 h2
  have e : a.h = b.h := by
    have q1 : ¬ a.h < b.h := fun q => h1 (.inl q)
    have q2 : ¬ b.h < a.h := fun q => h2 (.inl q)
    omega
  exact ⟨e, key_inj (key_tri _ _ (fun q => h1 (.inr ⟨e, q⟩)) (fun q => h2 (.inr ⟨e.symm, q⟩)))⟩
theorem tlt_ntr {a b c : Tx} (h1 : ¬ tlt a b) (h2 : ¬ tlt b c) : ¬ tlt a c := by
  intro h
  by_cases q : tlt b a
  · exact h2 (tlt_tr q h)
  · obtain ⟨e1, e2⟩ := tlt_tot h1 q
    apply h2
    unfold tlt at h ⊢
    rw [← e1, ← e2]; exact h
def insT (x : Tx) : List Tx → List Tx
  | [] => [x]
  | y :: r => if tlt x y then x :: y :: r else y :: insT x r
def srtT : List Tx → List Tx
  | [] => []
  | x :: r => insT x (srtT r)
theorem insT_perm (x : Tx) : ∀ l, (insT x l).Perm (x :: l)
  | [] => .refl _
  | y :: r => by
    rw [insT]
    split
    · exact .refl _
    · exact ((insT_perm x r).cons y).trans (.swap x y r)
theorem srtT_perm : ∀ l, (srtT l).Perm l
  | [] => .refl _
  | x :: r => (insT_perm x _).trans ((srtT_perm r).cons x)
theorem insT_sorted (x : Tx) : ∀ l, l.Pairwise (fun a b => ¬ tlt b a) → (insT x l).Pairwise (fun a b => ¬ tlt b a)
  | [], _ => by simp [insT]
  | y :: r, h => by
    rw [List.pairwise_cons] at h
    rw [insT]
    split
    · rename_i hxy
      rw [List.pairwise_cons, List.pairwise_cons]
      refine ⟨fun z hz q => ?_, h.1, h.2⟩
      rcases List.mem_cons.1 hz with rfl | hz
      · exact tlt_irr _ (tlt_tr hxy q)
      · exact h.1 z hz (tlt_tr q hxy)
    · rename_i hxy
      rw [List.pairwise_cons]
      refine ⟨fun z hz => ?_, insT_sorted x r h.2⟩
      rcases List.mem_cons.1 ((insT_perm x r).mem_iff.1 hz) with rfl | hz
      · exact hxy
      · exact h.1 z hz
theorem srtT_sorted : ∀ l, (srtT l).Pairwise (fun a b => ¬ tlt b a)
  | [] => .nil
  | x :: r => insT_sorted x _ (srtT_sorted r)
/-! ### what is known of departures that are accepted -/
def tmeI (l : List Sd) (n : ByteArray) : Int := ((l[(stI l n).toNat]?).map (·.t)).getD 0
def mkT (l : List Sd) (x : Ak) : Tx := ⟨x.c, x.r, x.r + tmeI l x.s, 0⟩
structure Good (l : List Sd) (d : List Ak) : Prop where
  len : l.length ≤ 16
  lend : d.length ≤ 16
  st : ∀ x ∈ d, 0 ≤ stI l x.s ∧ stI l x.s < l.length
  tm : ∀ x ∈ d, 0 ≤ tmeI l x.s ∧ tmeI l x.s ≤ 1800
  r : ∀ x ∈ d, 0 ≤ x.r ∧ x.r ≤ 200000
  dist : d.Pairwise fun x y => x.c ≠ y.c
theorem akE_ok {l : List Sd} : ∀ {d seen : List Ak}, akE l seen d = 0 → (∀ x ∈ d, 0 ≤ stI l x.s ∧ 0 ≤ x.r ∧ x.r ≤ 200000 ∧ ∀ y ∈ seen, y.c ≠ x.c) ∧ d.Pairwise fun x y => x.c ≠ y.c
  | [], _, _ => ⟨fun x hx => by simp at hx, .nil⟩
  | x :: d, seen, h => by
    rw [akE] at h
    split at h
    · cases h
    · split at h
      · cases h
      · split at h
        · cases h
        · split at h
          · cases h
          · rename_i h1 h2 h3 h4
            obtain ⟨q1, q2⟩ := akE_ok h
            refine ⟨fun z hz => ?_, List.pairwise_cons.2 ⟨fun z hz => ?_, q2⟩⟩
            · rcases List.mem_cons.1 hz with rfl | hz
              · refine ⟨by omega, by omega, by omega, fun y hy e => h4 (List.any_eq_true.2 ⟨y, hy, by simp [called, e]⟩)⟩
              · obtain ⟨p1, p2, p3, p4⟩ := q1 z hz
                exact ⟨p1, p2, p3, fun y hy => p4 y (List.mem_append_left _ hy)⟩
            · exact (q1 z hz).2.2.2 x (List.mem_append_right _ (by simp))
theorem stI_lt {l : List Sd} {n : ByteArray} : stI l n < l.length := by
  rcases idxN_spec (fun s => decide (s.n = n)) l 0 with ⟨h1, _⟩ | ⟨i, x, h1, h2, _⟩
  · show idxN _ 0 l < _
    rw [h1]; omega
  · show idxN _ 0 l < _
    rw [h1]
    have := (List.getElem?_eq_some_iff.1 h2).1
    omega
theorem good_of {l : List Sd} {d : List Ak} (h : askE l d = 0) : Good l d := by
  have hs : stdE l = 0 := Classical.byContradiction fun q => q ((askE_std q).symm.trans h)
  unfold askE at h
  rw [if_neg (by simp [hs])] at h
  split at h
  · cases h
  · rename_i hlen
    obtain ⟨q1, q2⟩ := akE_ok h
    have hst : sdE [] l = 0 := by
      unfold stdE at hs
      split at hs
      · cases hs
      · exact hs
    have hlt : ∀ x ∈ d, 0 ≤ stI l x.s ∧ stI l x.s < l.length := fun x hx => ⟨(q1 x hx).1, stI_lt⟩
    refine ⟨stdE_len hs, by omega, hlt, fun x hx => ?_, fun x hx => ⟨(q1 x hx).2.1, (q1 x hx).2.2.1⟩, q2⟩
    have := hlt x hx
    have h2 : (stI l x.s).toNat < l.length := by omega
    unfold tmeI
    rw [List.getElem?_eq_getElem h2]
    exact sdE_ok hst _ (List.getElem_mem h2)
theorem Good.bnd {l : List Sd} {d : List Ak} (g : Good l d) : ∀ m ∈ d.map (mkT l), 0 ≤ m.p ∧ m.p ≤ 200000 ∧ 0 ≤ m.h ∧ m.h ≤ 201800 := fun m hm => by
  obtain ⟨x, hx, rfl⟩ := List.mem_map.1 hm
  have h1 := g.tm x hx
  have h2 := g.r x hx
  simp only [mkT]
  omega
theorem Good.inj {l : List Sd} {d : List Ak} (g : Good l d) : ∀ x ∈ d, ∀ y ∈ d, x.c = y.c → x = y := by
  intro x hx y hy e
  have := g.dist
  induction d with
  | nil => simp at hx
  | cons z d ih =>
    rw [List.pairwise_cons] at this
    rcases List.mem_cons.1 hx with rfl | hx'
    · rcases List.mem_cons.1 hy with rfl | hy'
      · rfl
      · exact absurd e (this.1 y hy')
    · rcases List.mem_cons.1 hy with rfl | hy'
      · exact absurd e.symm (this.1 x hx')
      · exact ih ⟨g.len, by have := g.lend; simp at this; omega, fun x hx => g.st x (List.mem_cons_of_mem _ hx), fun x hx => g.tm x (List.mem_cons_of_mem _ hx), fun x hx => g.r x (List.mem_cons_of_mem _ hx), this.2⟩ hx' hy' this.2
/-- Where neither comes first, they are one. -/
theorem Good.tot {l : List Sd} {d : List Ak} (g : Good l d) : ∀ a ∈ d.map (mkT l), ∀ b ∈ d.map (mkT l), ¬ tlt a b → ¬ tlt b a → a = b := by
  intro a ha b hb h1 h2
  obtain ⟨x, hx, rfl⟩ := List.mem_map.1 ha
  obtain ⟨y, hy, rfl⟩ := List.mem_map.1 hb
  rw [g.inj x hx y hy (tlt_tot h1 h2).2]
/-- **The sort of the queue.** -/
theorem sortq {l : List Sd} {d : List Ak} (g : Good l d) : FnU Try.prog 93 76 4 (txs (d.map (mkT l))) [.clo 94 []] false (txs (srtT (d.map (mkT l)))) := by
  have hmem : ∀ x ∈ (d.map (mkT l)).map encT, ∃ a ∈ d.map (mkT l), x = encT a := fun x hx => by obtain ⟨a, ha, e⟩ := List.mem_map.1 hx; exact ⟨a, ha, e.symm⟩
  refine sortU (P := Try.prog) (ρ := sortMv_ren) sortMv Try.isAgg76 Try.sizeOf76 (cs := []) (cf := avC) (d := (d.map (mkT l)).map encT) (s := (srtT (d.map (mkT l))).map encT) (by omega) Try.call94 ?_ ?_ ?_ ?_ ?_ ?_ ?_ ?_
  · intro x hx y hy
    obtain ⟨a, ha, rfl⟩ := hmem x hx
    obtain ⟨b, hb, rfl⟩ := hmem y hy
    have h1 := g.bnd a ha
    have h2 := g.bnd b hb
    exact less_fn a b (by omega)
  · intro x hx
    obtain ⟨a, ha, rfl⟩ := hmem x hx
    rw [avC_lt]; exact tlt_irr a
  · intro x hx y hy z hz
    obtain ⟨a, ha, rfl⟩ := hmem x hx
    obtain ⟨b, hb, rfl⟩ := hmem y hy
    obtain ⟨c, hc, rfl⟩ := hmem z hz
    rw [avC_lt, avC_lt, avC_lt]; exact tlt_tr
  · intro x hx y hy z hz
    obtain ⟨a, ha, rfl⟩ := hmem x hx
    obtain ⟨b, hb, rfl⟩ := hmem y hy
    obtain ⟨c, hc, rfl⟩ := hmem z hz
    rw [avC_lt, avC_lt, avC_lt]; exact tlt_ntr
  · intro x hx y hy
    obtain ⟨a, ha, rfl⟩ := hmem x hx
    obtain ⟨b, hb, rfl⟩ := hmem y hy
    rw [avC_lt, avC_lt]
    intro h1 h2
    rw [g.tot a ha b hb h1 h2]
  · have := g.lend
    simp; omega
  · exact (srtT_perm _).map _
  · rw [List.pairwise_map]
    exact (srtT_sorted _).imp fun h => by rw [avC_lt]; exact h
end Go.Proofs.Ytlhhdonpoglfkaa
