/- sequences: the natural order. -/
import Derived.Test.YtfdpbfdhcngfgaaSq1
import Derived.Test.YtfdpbfdhcngfgaaSortI
import Derived.Test.YtfdpbfdhcngfgaaSortLay
namespace Go.Proofs.Ytfdpbfdhcngfgaa
open Go.RowKit
set_option linter.unusedVariables false
set_option linter.unusedSimpArgs false
set_option maxRecDepth 100000
def encN (k : Nat) : List AV := [.int (k : Nat)]
abbrev nts (l : List Nat) : AV := lst 1 encN l
theorem nts_ints (l : List Nat) : nts l = ints (l.map fun k : Nat => (k : Int)) := by
  simp [lst, encN, encI, Function.comp_def]
theorem flat_nts (l : List Nat) : (nts l).flatS := by rw [nts_ints]; exact flat_ints _
def arA (l : List Ar) (i : Nat) : Ar := l.getD i default
theorem arA_at {l : List Ar} {i : Nat} (h : i < l.length) : l[i]? = some (arA l i) := by
  unfold arA; rw [List.getD_eq_getElem?_getD, List.getElem?_eq_getElem h]; rfl
/-- Arrivals that were found in order. -/
structure GoodA (l : List Ar) : Prop where
  len : l.length ≤ 8
  bd : ∀ x ∈ l, 0 ≤ x.w ∧ x.w ≤ 3 ∧ 0 ≤ x.t ∧ x.t ≤ x.u ∧ x.u ≤ 200000
  dist : l.Pairwise fun x y => x.c ≠ y.c
theorem arE_ok : ∀ {l seen : List Ar}, arE seen l = 0 → (∀ x ∈ l, (0 ≤ x.w ∧ x.w ≤ 3 ∧ 0 ≤ x.t ∧ x.t ≤ x.u ∧ x.u ≤ 200000) ∧ ∀ y ∈ seen, y.c ≠ x.c) ∧ l.Pairwise fun x y => x.c ≠ y.c
  | [], _, _ => ⟨by simp, .nil⟩
  | x :: r, seen, h => by
    rw [arE] at h
    split at h
    · cases h
    split at h
    · cases h
    split at h
    · cases h
    split at h
    · cases h
    rename_i h1 h2 h3 h4
    obtain ⟨a, b⟩ := arE_ok h
    have h5 : ∀ y ∈ seen, y.c ≠ x.c := fun y hy e => h4 (List.any_eq_true.2 ⟨y, hy, by simp [calledA, e]⟩)
    refine ⟨fun z hz => ?_, List.pairwise_cons.2 ⟨fun y hy => (a y hy).2 x (by simp), b⟩⟩
    rcases List.mem_cons.1 hz with rfl | hz
    · exact ⟨⟨by omega, by omega, by omega, by omega, by omega⟩, h5⟩
    · exact ⟨(a z hz).1, fun y hy => (a z hz).2 y (by simp [hy])⟩
theorem goodA {l : List Ar} (h : arrE l = 0) : GoodA l := by
  unfold arrE at h
  split at h
  · cases h
  · obtain ⟨a, b⟩ := arE_ok h
    exact ⟨by omega, fun x hx => (a x hx).1, b⟩
theorem GoodA.at {l : List Ar} (g : GoodA l) {i : Nat} (h : i < l.length) : 0 ≤ (arA l i).w ∧ (arA l i).w ≤ 3 ∧ 0 ≤ (arA l i).t ∧ (arA l i).t ≤ (arA l i).u ∧ (arA l i).u ≤ 200000 :=
  g.bd _ (List.mem_of_getElem? (arA_at h))
def kA (l : List Ar) (i : Nat) : Int × List UInt8 := ((arA l i).t, key (arA l i).c)
theorem GoodA.inj {l : List Ar} (g : GoodA l) {i j : Nat} (hi : i < l.length) (hj : j < l.length) (h : kA l i = kA l j) : i = j := by
  have hc : (arA l i).c = (arA l j).c := key_inj (congrArg (·.2) h)
  have e1 := arA_at hi
  have e2 := arA_at hj
  rw [List.getElem?_eq_getElem hi] at e1
  rw [List.getElem?_eq_getElem hj] at e2
  injection e1 with e1
  injection e2 with e2
  have hp := List.pairwise_iff_getElem.1 g.dist
  rcases Nat.lt_trichotomy i j with q | q | q
  · exact absurd (by rw [e1, e2]; exact hc) (hp i j hi hj q)
  · exact q
  · exact absurd (by rw [e1, e2]; exact hc.symm) (hp j i hj hi q)
theorem nat1_fn {l : List Ar} (g : GoodA l) {i k : Nat} (hi : i < l.length) (hk : k < l.length) : Fn Try.prog 21 [.int (i : Nat), .int (k : Nat), .ref [ars l]] .sc (.int (cmpK (arA l i).t (arA l k).t (arA l i).c (arA l k).c)) := by
  refine fn_run mixed 3 (Γ := SqF.Γ) (ann := SqF.ann) Try.func21 rfl Try.call21 ((SqF.nat1_form _ _ _ _).mpr ?_)
  have b1 := g.at hi
  have b2 := g.at hk
  have hw : IntKind.i64.wrap ((arA l i).t - (arA l k).t) = (arA l i).t - (arA l k).t := wrap64 (by omega) (by omega)
  have q := or_fn [(arA l i).t - (arA l k).t, cmpS (arA l i).c (arA l k).c] (by simp)
  rw [orI_cmp _ _ _ (arA l i).t (arA l k).t rfl] at q
  have a1 : AV.at (ars l) (.lit (.int .i64 (i : Nat))) 2 = .int (arA l i).t := by rw [lst_at (arA_at hi)]; rfl
  have a2 : AV.at (ars l) (.lit (.int .i64 (k : Nat))) 2 = .int (arA l k).t := by rw [lst_at (arA_at hk)]; rfl
  have a3 : AV.at (ars l) (.lit (.int .i64 (i : Nat))) 0 = .string (arA l i).c := by rw [lst_at (arA_at hi)]; rfl
  have a4 : AV.at (ars l) (.lit (.int .i64 (k : Nat))) 0 = .string (arA l k).c := by rw [lst_at (arA_at hk)]; rfl
  simp [a1, a2, a3, a4, hi, hk]
  refine ⟨_, compare_fn _ _, ?_⟩
  simp
  rw [hw]
  exact q
def natO (l : List Ar) : List Nat := srtB (kA l) (List.range l.length)
theorem natO_perm (l : List Ar) : (natO l).Perm (List.range l.length) := srtB_perm _ _
theorem natO_len (l : List Ar) : (natO l).length = l.length := by rw [(natO_perm l).length_eq, List.length_range]
theorem natO_mem {l : List Ar} {i : Nat} : i ∈ natO l ↔ i < l.length := by rw [(natO_perm l).mem_iff, List.mem_range]
def natCf (l : List Ar) (x y : Int) : Int := cmpK (arA l x.toNat).t (arA l y.toNat).t (arA l x.toNat).c (arA l y.toNat).c
theorem natCf_lt (l : List Ar) (x y : Int) : natCf l x y < 0 ↔ klt (kA l x.toNat) (kA l y.toNat) := cmpK_lt _ _ _ _
theorem sortN {l : List Ar} (g : GoodA l) : FnU Try.prog 20 3 1 (nts (List.range l.length)) [.clo 21 [.ref [ars l]]] false (nts (natO l)) := by
  have hm : ∀ x ∈ (List.range l.length).map (fun k : Nat => (k : Int)), ∃ k : Nat, k < l.length ∧ x = (k : Int) := fun x hx => by
    obtain ⟨k, hk, e⟩ := List.mem_map.1 hx
    exact ⟨k, List.mem_range.1 hk, e.symm⟩
  have h := sortU1 (P := Try.prog) (ρ := sortI_ren) sortI (g := 21) (cs := [.ref [ars l]]) (cf := natCf l) (d := (List.range l.length).map (fun k : Nat => (k : Int))) (s := (natO l).map (fun k : Nat => (k : Int))) Try.call21 ?_ ?_ ?_ ?_ ?_ ?_ ?_ ?_
  · rw [nts_ints, nts_ints]
    exact h
  · intro x hx y hy
    obtain ⟨a, ha, rfl⟩ := hm x hx
    obtain ⟨b, hb, rfl⟩ := hm y hy
    exact nat1_fn g ha hb
  · intro x hx
    rw [natCf_lt]; exact klt_irr _
  · intro x hx y hy z hz
    rw [natCf_lt, natCf_lt, natCf_lt]; exact klt_tr
  · intro x hx y hy z hz
    rw [natCf_lt, natCf_lt, natCf_lt]; exact klt_ntr
  · intro x hx y hy h1 h2
    obtain ⟨a, ha, rfl⟩ := hm x hx
    obtain ⟨b, hb, rfl⟩ := hm y hy
    rw [natCf_lt] at h1 h2
    rw [g.inj ha hb (klt_tot h1 h2)]
  · have := g.len
    simp; omega
  · exact (natO_perm l).map _
  · rw [List.pairwise_map]
    exact (srtB_sorted (kA l) (List.range l.length)).imp fun h => by rw [natCf_lt]; exact h
def natV (l : List Ar) : AV := if arrE l = 0 then .tup [nts (natO l), .int 0] else .tup [.sl 1 [], .int (arrE l)]
theorem nts_snoc (o : List Nat) (k : Nat) : AV.app 1 (nts o) (.sl 1 [[.lit (.int .i64 (k : Nat))]]) = nts (o ++ [k]) := by
  simp [lst, AV.app, AV.els, encN]
theorem natural_fn (l : List Ar) : Fn Try.prog 6 [ars l] (.tup [.row 3 1 true, .sc]) (natV l) := by
  refine fn_run mixed 3 (Γ := SqF.Γ) (ann := SqF.ann) Try.func6 rfl Try.call6 ((SqF.natural_form _ _).mpr ?_)
  simp
  refine ⟨_, scheck_fn l, ?_⟩
  by_cases h : arrE l = 0
  · have g := goodA h
    have hlen := g.len
    have hV : natV l = .tup [nts (natO l), .int 0] := by unfold natV; rw [if_pos h]
    rw [hV]
    simp [h]
    refine loop_list (σ := Unit) l (fun n _ => [.int (n : Nat), nts (List.range n)]) (fun n _ _ => True) () (by simp [lst]) trivial ?_ ?_
    · rintro n x rest _ K hx hr hn _ hK
      have hw2 : IntKind.i64.wrap ((n : Int) + 1) = (n : Int) + 1 := wrap64 (by omega) (by omega)
      have hK' : K [.int ((n : Nat) + 1), nts (List.range (n + 1))] := hK _ () (by simp) trivial
      simp [hn, hw2, nts_snoc]
      rw [List.range_succ] at hK'
      exact ⟨by simp [AV.room]; omega, hK'⟩
    · intro _ K _
      simp
      exact ⟨sortN g, by have := flat_nts (natO l); simpa [AV.flatS] using this⟩
  · have hV : natV l = .tup [.sl 1 [], .int (arrE l)] := by unfold natV; rw [if_neg h]
    rw [hV]
    simp [h]
theorem eqi_fn (l m : List Int) (hl : l.length ≤ maxLen) : Fn Try.prog 16 [ints l, ints m] .sc (.bool (decide (l = m))) := by
  refine fn_run mixed 3 (Γ := SqF.Γ) (ann := SqF.ann) Try.func16 rfl Try.call16 ((SqF.equal_form _ _ _).mpr ?_)
  unfold maxLen at hl
  simp
  refine ⟨fun h => fun e => h (by rw [e]), fun h => equal_loop l m (by omega) rfl ?_ ?_⟩
  · rintro n x y K hx hy hn h1 h2
    simp [hn, show n < m.length by omega, lst_at hx, lst_at hy, encI]
    rw [wrap64 (by omega) (by omega)]
    refine ⟨fun h => by simpa using h1 h, fun e1 => h2 e1⟩
  · intro K h1
    simpa using h1
/-- Where an element first stands; -1: nowhere. -/
def idI (e : Int) : Nat → List Int → Int
  | _, [] => -1
  | n, x :: r => if e = x then n else idI e (n + 1) r
theorem idI_spec (e : Int) : ∀ (l : List Int) (n : Nat), if e ∈ l then ∃ k, idI e n l = ((n + k : Nat) : Int) ∧ l[k]? = some e ∧ e ∉ l.take k else idI e n l = -1
  | [], n => by simp [idI]
  | x :: r, n => by
    have h := idI_spec e r (n + 1)
    unfold idI
    by_cases hx : e = x
    · rw [if_pos (by simp [hx]), if_pos hx]
      exact ⟨0, by simp, by simp [hx], by simp⟩
    · rw [if_neg hx]
      by_cases hr : e ∈ r
      · rw [if_pos hr] at h
        rw [if_pos (by simp [hr])]
        obtain ⟨k, h1, h2, h3⟩ := h
        exact ⟨k + 1, by rw [h1]; congr 1; omega, by simpa using h2, by simp [hx, h3]⟩
      · rw [if_neg hr] at h
        rw [if_neg (by simp [hx, hr])]
        exact h
theorem index_fn (l : List Int) (e : Int) (hl : l.length ≤ 1000000) : Fn Try.prog 40 [ints l, .int e] .sc (.int (idI e 0 l)) := by
  refine fn_run mixed 3 (Γ := SqF.Γ) (ann := SqF.ann) Try.func40 rfl Try.call40 ((SqF.index_form _ _ _).mpr ?_)
  refine ⟨by simp, ?_⟩
  refine loop_list (σ := Unit) l (fun n _ => [.int (n : Nat)]) (fun n rest _ => idI e 0 l = idI e n rest) () rfl rfl ?_ ?_
  · rintro n x rest _ K hx hr hn hg hK
    have hw : IntKind.i64.wrap ((n : Int) + 1) = (n : Int) + 1 := wrap64 (by omega) (by omega)
    rw [idI] at hg
    have g1 : e = x → (n : Int) = idI e 0 l := fun q => by rw [hg, if_pos q]
    have g2 : e ≠ x → K [.int ((n : Nat) + 1)] := fun q => hK _ () (by simp) (by rw [hg, if_neg q])
    clear hg hK
    simp [hn, hw, lst_at hx, encI]
    exact ⟨fun q => g1 q, fun q => g2 q⟩
  · intro _ K hg
    simp [hg, idI]
theorem contains_fn (l : List Int) (e : Int) (hl : l.length ≤ 1000000) : Fn Try.prog 42 [ints l, .int e] .sc (.bool (decide (e ∈ l))) := by
  refine fn_run mixed 3 (Γ := SqF.Γ) (ann := SqF.ann) Try.func42 rfl Try.call42 ((SqF.contains_form _ _ _).mpr ?_)
  refine ⟨_, index_fn l e hl, ?_⟩
  have h := idI_spec e l 0
  by_cases hm : e ∈ l
  · rw [if_pos hm] at h
    obtain ⟨k, h1, _⟩ := h
    simp [h1, hm]
  · rw [if_neg hm] at h
    simp [h, hm]
theorem app_ints (o : List Int) : AV.app 1 (.sl 1 []) (ints o) = ints o := by simp [lst, AV.app, AV.els]
theorem clone_fn (o : List Int) (h : o.length ≤ 1000000) : Fn Try.prog 43 [ints o] (.row 3 1 true) (ints o) := by
  refine fn_run mixed 3 (Γ := SqF.Γ) (ann := SqF.ann) Try.func43 rfl Try.call43 ((SqF.clone_form _ _).mpr ?_)
  have hr : AV.room (.sl 1 []) (ints o) 8 := by unfold AV.room; rw [lst_els]; simp [AV.els]; omega
  refine .inl ⟨⟨_, _, rfl⟩, fun q => ?_, by simp, hr, ?_, app_ints o⟩
  · have : o = [] := by simpa [lst] using q
    rw [this]
    simp [lst]
  · show (AV.app 1 (.sl 1 []) (ints o)).flatS
    rw [app_ints]; exact flat_ints o
theorem clone_nil : Fn Try.prog 43 [.lit (.slice none 0 0)] (.row 3 1 true) (ints []) := by
  refine fn_run mixed 3 (Γ := SqF.Γ) (ann := SqF.ann) Try.func43 rfl Try.call43 ((SqF.clone_form _ _).mpr ?_)
  simp
/-! ### orders -/
theorem pig {α : Type} [DecidableEq α] : ∀ (A B : List α), A.Nodup → (∀ x ∈ A, x ∈ B) → B.length ≤ A.length → A.Perm B
  | [], B, _, _, h => by
    have : B = [] := List.eq_nil_of_length_eq_zero (by simpa using h)
    rw [this]
  | a :: A, B, hn, hs, h => by
    have ha : a ∈ B := hs a (by simp)
    have hp := List.perm_cons_erase ha
    obtain ⟨hna, hnA⟩ := List.nodup_cons.1 hn
    refine (List.Perm.cons a (pig A (B.erase a) hnA (fun x hx => ?_) ?_)).trans hp.symm
    · have : x ≠ a := fun e => hna (e ▸ hx)
      exact (List.mem_erase_of_ne this).2 (hs x (by simp [hx]))
    · have := hp.length_eq
      simp at this h; omega
def rngI (n : Nat) : List Int := (List.range n).map fun k : Nat => (k : Int)
theorem rngI_mem {n : Nat} {x : Int} : x ∈ rngI n ↔ 0 ≤ x ∧ x < n := by
  unfold rngI
  rw [List.mem_map]
  constructor
  · rintro ⟨k, hk, rfl⟩
    have := List.mem_range.1 hk
    omega
  · intro h
    exact ⟨x.toNat, List.mem_range.2 (by omega), by omega⟩
theorem rngI_nodup (n : Nat) : (rngI n).Nodup := by
  unfold rngI
  rw [List.nodup_iff_pairwise_ne, List.pairwise_map]
  exact (List.nodup_iff_pairwise_ne.1 List.nodup_range).imp fun h e => h (by omega)
theorem rngI_len (n : Nat) : (rngI n).length = n := by simp [rngI]
/-- Each index once. -/
def okO (o : List Int) (n : Nat) : Bool := decide (o.length = n ∧ ∀ k, k < n → o.count (k : Int) = 1)
theorem okO_iff {o : List Int} {n : Nat} : okO o n = true ↔ o.Perm (rngI n) := by
  unfold okO
  rw [decide_eq_true_iff]
  constructor
  · rintro ⟨h1, h2⟩
    refine (pig _ _ (rngI_nodup n) (fun x hx => ?_) (by rw [rngI_len, h1]; exact Nat.le_refl _)).symm
    obtain ⟨a, b⟩ := rngI_mem.1 hx
    have := h2 x.toNat (by omega)
    rw [show ((x.toNat : Nat) : Int) = x by omega] at this
    exact List.count_pos_iff.1 (by omega)
  · intro h
    refine ⟨by rw [h.length_eq, rngI_len], fun k hk => ?_⟩
    rw [h.count_eq]
    have h1 : (k : Int) ∈ rngI n := rngI_mem.2 (by omega)
    have h2 := List.nodup_iff_count.1 (rngI_nodup n) (k : Int)
    have h3 := List.count_pos_iff.2 h1
    omega
theorem okO_alt {o : List Int} {n : Nat} : okO o n = true ↔ o.length = n ∧ o.Nodup ∧ ∀ x ∈ o, 0 ≤ x ∧ x < n := by
  rw [okO_iff]
  constructor
  · intro h
    exact ⟨by rw [h.length_eq, rngI_len], h.nodup_iff.2 (rngI_nodup n), fun x hx => rngI_mem.1 (h.mem_iff.1 hx)⟩
  · rintro ⟨h1, h2, h3⟩
    exact pig _ _ h2 (fun x hx => rngI_mem.2 (h3 x hx)) (by rw [rngI_len, h1]; exact Nat.le_refl _)
/-- An order, as natural numbers. -/
theorem okO_nat {o : List Int} {n : Nat} (h : okO o n = true) : ∃ p : List Nat, o = p.map (fun k : Nat => (k : Int)) ∧ p.Perm (List.range n) := by
  obtain ⟨h1, h2, h3⟩ := okO_alt.1 h
  have e : o = (o.map Int.toNat).map (fun k : Nat => (k : Int)) := by
    rw [List.map_map]
    conv => lhs; rw [← List.map_id o]
    refine List.map_congr_left fun x hx => ?_
    have := h3 x hx
    simp; omega
  refine ⟨o.map Int.toNat, e, ?_⟩
  have hp := (okO_iff.1 h).map Int.toNat
  refine hp.trans (List.Perm.of_eq ?_)
  simp [rngI, Function.comp_def]
/-- What isOrder does. -/
def isoG (n : Nat) : List Int → List Bool → Bool
  | [], _ => true
  | x :: r, s => if x < 0 ∨ x ≥ n ∨ s.getD x.toNat false = true then false else isoG n r (s.set x.toNat true)
theorem isoG_iff (n : Nat) : ∀ (o : List Int) (s : List Bool), s.length = n → (isoG n o s = true ↔ (∀ x ∈ o, 0 ≤ x ∧ x < n ∧ s.getD x.toNat false = false) ∧ o.Nodup)
  | [], s, _ => by simp [isoG]
  | x :: r, s, hs => by
    unfold isoG
    by_cases hx : x < 0 ∨ x ≥ n ∨ s.getD x.toNat false = true
    · rw [if_pos hx]
      simp only [Bool.false_eq_true, false_iff]
      rintro ⟨h, _⟩
      obtain ⟨a, b, c⟩ := h x (by simp)
      rcases hx with h | h | h
      · omega
      · omega
      · rw [c] at h; cases h
    · rw [if_neg hx, isoG_iff n r _ (by simpa using hs), List.nodup_cons]
      have hx0 : 0 ≤ x ∧ x < n ∧ s.getD x.toNat false = false := ⟨by omega, by omega, by
        cases q : s.getD x.toNat false
        · rfl
        · exact absurd (.inr (.inr q)) hx⟩
      have hset : ∀ y : Int, 0 ≤ y → y < n → ((s.set x.toNat true).getD y.toNat false = false ↔ y ≠ x ∧ s.getD y.toNat false = false) := fun y h1 h2 => by
        by_cases e : y = x
        · rw [e]
          simp [List.getD_eq_getElem?_getD, hs]
          rw [List.getElem?_set_self (by omega)]
          simp
        · simp [List.getD_eq_getElem?_getD]
          rw [List.getElem?_set_ne (by omega)]
          simp [e]
      constructor
      · rintro ⟨h1, h2⟩
        refine ⟨fun y hy => ?_, fun hm => ?_, h2⟩
        · rcases List.mem_cons.1 hy with rfl | hy
          · exact hx0
          · obtain ⟨a, b, c⟩ := h1 y hy
            exact ⟨a, b, ((hset y a b).1 c).2⟩
        · obtain ⟨a, b, c⟩ := h1 x hm
          exact ((hset x a b).1 c).1 rfl
      · rintro ⟨h1, h2, h3⟩
        refine ⟨fun y hy => ?_, h3⟩
        obtain ⟨a, b, c⟩ := h1 y (by simp [hy])
        exact ⟨a, b, (hset y a b).2 ⟨fun e => h2 (e ▸ hy), c⟩⟩
theorem isoG_okO (o : List Int) (n : Nat) : (isoG n o (List.replicate n false) && decide (o.length = n)) = okO o n := by
  rw [Bool.eq_iff_iff, okO_alt, Bool.and_eq_true, isoG_iff n o _ (by simp), decide_eq_true_iff]
  constructor
  · rintro ⟨⟨h1, h2⟩, h3⟩
    exact ⟨h3, h2, fun x hx => ⟨(h1 x hx).1, (h1 x hx).2.1⟩⟩
  · rintro ⟨h1, h2, h3⟩
    refine ⟨⟨fun x hx => ⟨(h3 x hx).1, (h3 x hx).2, ?_⟩, h2⟩, h1⟩
    have := h3 x hx
    rw [List.getD_eq_getElem?_getD, List.getElem?_replicate, if_pos (by omega)]; rfl
end Go.Proofs.Ytfdpbfdhcngfgaa
