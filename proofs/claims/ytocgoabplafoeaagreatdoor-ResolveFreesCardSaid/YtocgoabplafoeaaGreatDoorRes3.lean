/- resolve: what is free; the fact; the law. -/
import Derived.Test.YtocgoabplafoeaaGreatDoorRes2
import Derived.Test.YtocgoabplafoeaaGreatDoorRb
namespace Go.Proofs.YtocgoabplafoeaaGreatDoor
open Go.RowKit
set_option linter.unusedVariables false
set_option linter.unusedSimpArgs false
set_option maxRecDepth 100000
def tsE : List (List Nd) → Int
  | [] => 0
  | t :: r => if tE t ≠ 0 then tE t else tsE r
def rcE (l : List (List Nd)) (i : Int) (s : Sp) : Int := if sepE s ≠ 0 then sepE s else if 24 < l.length then 2 else if tsE l ≠ 0 then tsE l else if i < 0 ∨ l.length ≤ i then 4 else 0
theorem rcheck_fn (l : List (List Nd)) (i : Int) (s : Sp) : Fn Tryz.prog 15 [tbs l, .int i, sp s] .sc (.int (rcE l i s)) := by
  have e := ResF.rcheck_form (tbs l) (.int i) (sp s) (.int (rcE l i s))
  have k := fun h => fn_run mixed 3 (Γ := ResF.Γ) (ann := ResF.ann) Tryz.func15 rfl Tryz.call15 (e.mpr h)
  refine k ?_
  clear k e
  have hE : rcE l i s = if sepE s ≠ 0 then sepE s else if 24 < l.length then 2 else if tsE l ≠ 0 then tsE l else if i < 0 ∨ l.length ≤ i then 4 else 0 := rfl
  rw [hE]
  refine ⟨by simp [encSp], _, csep_fn s, by simp, by simp, fun h => ?_, fun h => ?_⟩
  · have h : sepE s ≠ 0 := by simpa using h
    rw [if_pos h]
    exact ⟨.lit _, rfl⟩
  have h0 : sepE s = 0 := by simpa using h
  rw [if_neg (by simp [h0])]
  refine ⟨by simp, by simp, by simp, fun h => ?_, fun h => ?_⟩
  · have h : 24 < l.length := by simp at h; omega
    rw [if_pos h]
    exact ⟨.lit _, rfl⟩
  have h1 : ¬ 24 < l.length := by simp at h; omega
  rw [if_neg h1]
  refine ⟨by simp, ?_⟩
  refine loop_list (σ := Unit) l (fun i _ => [.int (i : Nat)]) (fun i rest _ => tsE l = tsE rest) () rfl rfl ?_ ?_
  · rintro j x rest _ K hx hrest hj hG hK
    have hjl : (j : Int) < l.length := by omega
    have hwi : wr ((j : Int) + 1) = (j : Int) + 1 := wr_id (by omega) (by omega)
    have hK' := hK [.int ((j : Int) + 1)] () (by simp)
    clear hK
    rw [tsE] at hG
    have hat := lst_at (s := 1) (enc := encT) (k := .i64) (j := 0) hx
    simp only [encT, List.getD_cons_zero] at hat
    refine ⟨by simp, by simp, fun _ => ⟨by simp, by simp; omega, .int (tE x), by rw [show AV.at (tbs l) ([AV.int (j : Nat)].getD 0 default) 0 = tube x from hat]; exact tcheck_fn x, by simp, by simp, fun h => ?_, fun h => ?_⟩, fun h => absurd h (by simp; omega)⟩
    · have h : tE x ≠ 0 := by simpa using h
      rw [if_pos h] at hG
      rw [hG, if_pos h]
      exact ⟨.lit _, rfl⟩
    · have h : tE x = 0 := by simpa using h
      rw [if_neg (by simp [h])] at hG
      have hK2 := hK' hG
      simp only [List.getD_cons_zero, av_add, wr_eq, hwi]
      exact ⟨by simp, hK2⟩
  · rintro _ K hG
    rw [hG, tsE]
    refine ⟨by simp, by simp, fun h => absurd h (by simp), fun _ => ?_⟩
    have a1 : (i < 0 ∨ (l.length : Int) ≤ i) → (if i < 0 ∨ (l.length : Int) ≤ i then (4 : Int) else 0) = 4 := fun h => if_pos h
    have a0 : ¬ (i < 0 ∨ (l.length : Int) ≤ i) → (if i < 0 ∨ (l.length : Int) ≤ i then (4 : Int) else 0) = 0 := fun h => if_neg h
    generalize (if i < 0 ∨ (l.length : Int) ≤ i then (4 : Int) else 0) = V at *
    simp
    refine ⟨fun h => ⟨h, (a1 (.inl h)).symm⟩, fun h => ⟨h, fun g => (a1 (.inr g)).symm, fun g => (a0 (by omega)).symm⟩⟩
theorem terr_fn (l : List (List Nd)) (i : Int) (s : Sp) : Fn Tryz.prog 6 [tbs l, .int i, sp s] .sc (.int (rcE l i s)) := by
  have e := ResF.terr_form (tbs l) (.int i) (sp s) (.int (rcE l i s))
  have k := fun h => fn_run mixed 3 (Γ := ResF.Γ) (ann := ResF.ann) Tryz.func6 rfl Tryz.call6 (e.mpr h)
  refine k ?_
  clear k e
  have hE : rcE l i s = if sepE s ≠ 0 then sepE s else if 24 < l.length then 2 else if tsE l ≠ 0 then tsE l else if i < 0 ∨ l.length ≤ i then 4 else 0 := rfl
  rw [hE]
  refine ⟨by simp [encSp], _, csep_fn s, by simp, by simp, fun h => ?_, fun h => ?_⟩
  · have h : sepE s ≠ 0 := by simpa using h
    rw [if_pos h]
    exact ⟨.lit _, rfl⟩
  have h0 : sepE s = 0 := by simpa using h
  rw [if_neg (by simp [h0])]
  refine ⟨by simp, by simp, by simp, fun h => ?_, fun h => ?_⟩
  · have h : 24 < l.length := by simp at h; omega
    rw [if_pos h]
    exact ⟨.lit _, rfl⟩
  have h1 : ¬ 24 < l.length := by simp at h; omega
  rw [if_neg h1]
  refine ⟨by simp, ?_⟩
  refine loop_list (σ := Unit) l (fun i _ => [.int (i : Nat)]) (fun i rest _ => tsE l = tsE rest) () rfl rfl ?_ ?_
  · rintro j x rest _ K hx hrest hj hG hK
    have hjl : (j : Int) < l.length := by omega
    have hwi : wr ((j : Int) + 1) = (j : Int) + 1 := wr_id (by omega) (by omega)
    have hK' := hK [.int ((j : Int) + 1)] () (by simp)
    clear hK
    rw [tsE] at hG
    have hat := lst_at (s := 1) (enc := encT) (k := .i64) (j := 0) hx
    simp only [encT, List.getD_cons_zero] at hat
    refine ⟨by simp, by simp, fun _ => ⟨by simp, by simp; omega, .int (tE x), by rw [show AV.at (tbs l) ([AV.int (j : Nat)].getD 0 default) 0 = tube x from hat]; exact tcheck_fn x, by simp, by simp, fun h => ?_, fun h => ?_⟩, fun h => absurd h (by simp; omega)⟩
    · have h : tE x ≠ 0 := by simpa using h
      rw [if_pos h] at hG
      rw [hG, if_pos h]
      exact ⟨.lit _, rfl⟩
    · have h : tE x = 0 := by simpa using h
      rw [if_neg (by simp [h])] at hG
      have hK2 := hK' hG
      simp only [List.getD_cons_zero, av_add, wr_eq, hwi]
      exact ⟨by simp, hK2⟩
  · rintro _ K hG
    rw [hG, tsE]
    refine ⟨by simp, by simp, fun h => absurd h (by simp), fun _ => ?_⟩
    have a1 : (i < 0 ∨ (l.length : Int) ≤ i) → (if i < 0 ∨ (l.length : Int) ≤ i then (4 : Int) else 0) = 4 := fun h => if_pos h
    have a0 : ¬ (i < 0 ∨ (l.length : Int) ≤ i) → (if i < 0 ∨ (l.length : Int) ≤ i then (4 : Int) else 0) = 0 := fun h => if_neg h
    generalize (if i < 0 ∨ (l.length : Int) ≤ i then (4 : Int) else 0) = V at *
    simp
    refine ⟨fun h => ⟨h, (a1 (.inl h)).symm⟩, fun h => ⟨h, fun g => (a1 (.inr g)).symm, fun g => (a0 (by omega)).symm⟩⟩
theorem rcE_ok {l : List (List Nd)} {i : Int} {s : Sp} (h : rcE l i s = 0) : l.length ≤ 24 ∧ 0 ≤ i ∧ i < l.length := by
  unfold rcE at h
  split at h
  · rename_i g; exact absurd h g
  · split at h
    · cases h
    · split at h
      · rename_i g; exact absurd h g
      · split at h
        · cases h
        · omega
def freeB (i : Int) (own : List Nd) (s : Sp) : Nat → List (List Nd) → Bool
  | _, [] => true
  | k, t :: r => if (k : Int) ≠ i ∧ firE own t s = 0 then false else freeB i own s (k + 1) r
theorem free_fn2 (l : List (List Nd)) (i : Int) (own : List Nd) (s : Sp) (hl : l.length ≤ 1000) : Fn Tryz.prog 16 [tbs l, .int i, tube own, sp s] .sc (.bool (freeB i own s 0 l)) := by
  have e := ResF.free_form (tbs l) (.int i) (tube own) (sp s) (.bool (freeB i own s 0 l))
  have k := fun h => fn_run mixed 3 (Γ := ResF.Γ) (ann := ResF.ann) Tryz.func16 rfl Tryz.call16 (e.mpr h)
  refine k ?_
  clear k e
  refine ⟨by simp [encSp], by simp, ?_⟩
  refine loop_list (σ := Unit) l (fun i _ => [.int (i : Nat)]) (fun j rest _ => freeB i own s 0 l = freeB i own s j rest) () rfl rfl ?_ ?_
  · rintro j x rest _ K hx hrest hj hG hK
    have hwi : wr ((j : Int) + 1) = (j : Int) + 1 := wr_id (by omega) (by omega)
    have hK' := hK [.int ((j : Int) + 1)] () (by simp)
    clear hK
    rw [freeB] at hG
    have hat := lst_at (s := 1) (enc := encT) (k := .i64) (j := 0) hx
    simp only [encT, List.getD_cons_zero] at hat
    have hf := first_fn own x s
    simp only [List.getD_cons_zero, hat, av_add, wr_eq, hwi]
    refine ⟨by simp, by simp, fun _ => ⟨by simp, by simp; omega, by simp, by simp, fun h => ⟨_, hf, by simp, by simp, fun g => ?_, fun g => ⟨by simp, ?_⟩⟩, fun h => ⟨by simp, ?_⟩⟩, fun h => absurd h (by simp; omega)⟩
    · rw [hG, if_pos ⟨by simpa using h, by simpa using g⟩]
      exact ⟨.lit _, rfl⟩
    · exact hK' (by rw [hG, if_neg (fun q => (by simpa using g : ¬ firE own x s = 0) q.2)])
    · exact hK' (by rw [hG, if_neg (fun q => q.1 (by simpa using h))])
  · rintro _ K hG
    rw [hG, freeB]
    refine ⟨by simp, by simp, fun h => absurd h (by simp), fun _ => ⟨.lit _, rfl⟩⟩
def rfB (l : List (List Nd)) (i : Int) (s : Sp) : Bool := if rcE l i s = 0 then freeB i (l.getD i.toNat []) s 0 l else false
theorem rfree_fn (l : List (List Nd)) (i : Int) (s : Sp) : Fn Tryz.prog 5 [tbs l, .int i, sp s] (.tup [.sc, .sc]) (.tup [.bool (rfB l i s), .int (rcE l i s)]) := by
  have e := ResF.rfree_form (tbs l) (.int i) (sp s) (.tup [.bool (rfB l i s), .int (rcE l i s)])
  have k := fun h => fn_run mixed 3 (Γ := ResF.Γ) (ann := ResF.ann) Tryz.func5 rfl Tryz.call5 (e.mpr h)
  refine k ?_
  clear k e
  have hB : rfB l i s = if rcE l i s = 0 then freeB i (l.getD i.toNat []) s 0 l else false := rfl
  have hok := rcE_ok (l := l) (i := i) (s := s)
  have hc := rcheck_fn l i s
  rw [hB]
  generalize rcE l i s = E at *
  refine ⟨by simp [encSp], _, hc, by simp, by simp, fun h => ?_, fun h => ?_⟩
  · have h : E ≠ 0 := by simpa using h
    rw [if_neg h]
    exact ⟨.lit _, .lit _, rfl⟩
  · have h : E = 0 := by simpa using h
    obtain ⟨h1, h2, h3⟩ := hok h
    rw [if_pos h]
    subst h
    obtain ⟨z, hz⟩ : ∃ z, l[i.toNat]? = some z := ⟨_, List.getElem?_eq_getElem (by omega)⟩
    have hzd : l.getD i.toNat [] = z := by rw [List.getD_eq_getElem?_getD, hz]; rfl
    have hat : AV.at (tbs l) (.lit (.int .i64 i)) 0 = tube z := by rw [lst_atI h2 hz]; rfl
    rw [hzd]
    have hf := free_fn2 l i z s (by omega)
    refine ⟨by simp, by simp; omega, .bool (freeB i z s 0 l), by rw [hat]; exact hf, .lit _, .lit _, rfl⟩
theorem clash_fn (a b : List Nd) (s : Sp) : Fn Tryz.prog 7 [tube a, tube b, sp s] .sc (.bool (decide (firE a b s = 0))) := by
  have e := ResF.clash_form (tube a) (tube b) (sp s) (.bool (decide (firE a b s = 0)))
  have k := fun h => fn_run mixed 3 (Γ := ResF.Γ) (ann := ResF.ann) Tryz.func7 rfl Tryz.call7 (e.mpr h)
  refine k ?_
  clear k e
  refine ⟨by simp [encSp], _, first_fn a b s, ?_⟩
  simp
  rfl
end Go.Proofs.YtocgoabplafoeaaGreatDoor
