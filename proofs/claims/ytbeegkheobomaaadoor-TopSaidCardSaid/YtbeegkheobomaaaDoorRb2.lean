/- readback: open clearances. -/
import Derived.Test.YtbeegkheobomaaaDoorRb
namespace Go.Proofs.YtbeegkheobomaaaDoor
open Go.RowKit
set_option linter.unusedVariables false
set_option linter.unusedSimpArgs false
set_option maxRecDepth 100000
theorem take_snoc {α : Type} {l : List α} {n : Nat} {x : α} (h : l[n]? = some x) : l.take (n + 1) = l.take n ++ [x] := by
  rw [List.take_add_one, h]; rfl
/-- An open clearance. -/
structure Ro where
  c : Cl
  t : Int
  deriving DecidableEq, Inhabited
def encR (x : Ro) : List AV := [.string x.c.c, .int x.c.k, .int x.c.v, .string x.c.f, .int x.t]
abbrev ros (l : List Ro) : AV := lst 5 encR l
theorem flat_ros (l : List Ro) : (ros l).flatS := lst_flatS fun x _ z hz => by
  simp [encR] at hz; rcases hz with rfl | rfl | rfl | rfl | rfl <;> exact .lit _
theorem flat_cls (l : List Cl) : (cls l).flatS := lst_flatS fun x _ z hz => by
  simp [encL] at hz; rcases hz with rfl | rfl | rfl | rfl <;> exact .lit _
def sameK (c : Cl) (x : Ro) : Bool := decide (x.c.c = c.c) && decide (x.c.k = c.k)
def rIdx (l : List Ro) (c : Cl) : Int := idxN (sameK c) 0 l
theorem rindex_fn (l : List Ro) (c : Cl) (hl : l.length ≤ 1000) : Fn Tryd.prog 29 [ros l, cl c] .sc (.int (rIdx l c)) := by
  refine fn_run mixed 3 (Γ := RbF.Γ) (ann := RbF.ann) Tryd.func29 rfl Tryd.call29 ((RbF.index_form _ _ _).mpr ?_)
  have e1 : Ent Tryd.prog 43 := Tryd.call43
  have e2 : Ent Tryd.prog 44 := Tryd.call44
  simp [e1, e2, encL]
  refine loop_list (σ := Unit) l (fun n _ => [.int (n : Nat)]) (fun k rest _ => rIdx l c = idxN (sameK c) k rest) () rfl rfl ?_ ?_
  · rintro k x rest _ K hx hr hn hg hK
    have hw2 : IntKind.i64.wrap ((k : Int) + 1) = (k : Int) + 1 := wrap64 (by omega) (by omega)
    rw [idxN] at hg
    have gY : x.c.c = c.c → x.c.k = c.k → (k : Int) = rIdx l c := fun q1 q2 => by rw [hg, if_pos (by simp [sameK, q1, q2])]
    have gN : ¬ (x.c.c = c.c ∧ x.c.k = c.k) → K [.int ((k : Nat) + 1)] := fun q => hK _ () (by simp) (by rw [hg, if_neg (by simpa [sameK] using q)])
    clear hg hK
    simp [hn, lst_atAgg hx, encR, hw2]
    (repeat' (first | exact trivial | (with_reducible intro hw; (try simp (disch := omega) only [wrap64] at hw); first | (exfalso; omega; done) | skip) | (with_reducible refine And.intro ?_ ?_) | omega | assumption))
    all_goals (first | exact gY (by assumption) (by assumption) | exact gN (fun q => by simp_all))
  · intro _ K hg
    simp [hg, idxN]
theorem rIdx_at {l : List Ro} {c : Cl} (h : 0 ≤ rIdx l c) : ∃ i x, rIdx l c = ((i : Nat) : Int) ∧ l[i]? = some x := by
  rcases idxN_spec (sameK c) l 0 with ⟨h1, _⟩ | ⟨i, x, h1, h2, h3⟩
  · unfold rIdx at h; omega
  · exact ⟨i, x, by unfold rIdx; rw [h1, Nat.zero_add], h2⟩
theorem rIdx_no {l : List Ro} {c : Cl} (h : ¬ 0 ≤ rIdx l c) : rIdx l c = -1 := by
  rcases idxN_spec (sameK c) l 0 with ⟨h1, _⟩ | ⟨i, x, h1, h2, h3⟩
  · exact h1
  · unfold rIdx at h; omega
/-- The time is none, or lies ahead of the last. -/
def wrg (l : List Ro) (t : Int) : Bool := decide (t < 0) || decide (t > 200000) || (match l.getLast? with | none => false | some x => decide (t < x.t))
theorem wrg_nil (t : Int) : wrg [] t = decide (t < 0 ∨ t > 200000) := by simp [wrg]
theorem wrg_snoc (l : List Ro) (x : Ro) (t : Int) : wrg (l ++ [x]) t = decide (t < 0 ∨ t > 200000 ∨ t < x.t) := by
  simp [wrg, Bool.or_assoc]
theorem last_of {l : List Ro} (h : 0 < l.length) : ∃ x, l[l.length - 1]? = some x ∧ ∀ t, wrg l t = decide (t < 0 ∨ t > 200000 ∨ t < x.t) := by
  rcases List.eq_nil_or_concat l with rfl | ⟨m, x, rfl⟩
  · simp at h
  · exact ⟨x, by simp, fun t => by rw [List.concat_eq_append, wrg_snoc]⟩
theorem wrong_fn (l : List Ro) (t : Int) (hl : l.length ≤ 1000) : Fn Tryd.prog 42 [ros l, .int t] .sc (.bool (wrg l t)) := by
  refine fn_run mixed 3 (Γ := RbF.Γ) (ann := RbF.ann) Tryd.func42 rfl Tryd.call42 ((RbF.wrong_form _ _ _).mpr ?_)
  rcases Nat.eq_zero_or_pos l.length with h0 | h0
  · obtain rfl : l = [] := List.eq_nil_of_length_eq_zero h0
    simp [wrg_nil]
    refine ⟨fun q => by simp [q], fun q1 => ⟨q1, fun q2 => by simp [q2], fun q2 => ?_⟩⟩
    omega
  · obtain ⟨x, hx, hw⟩ := last_of h0
    have hw1 : IntKind.i64.wrap ((l.length : Int) - 1) = (l.length : Int) - 1 := wrap64 (by omega) (by omega)
    have hat : AV.at (ros l) (.lit (.int .i64 ((l.length : Int) - 1))) 4 = .int x.t := by
      rw [lst_atI (by omega) (x := x) (by rw [show ((l.length : Int) - 1).toNat = l.length - 1 by omega]; exact hx)]; rfl
    rw [hw]
    simp [h0, hw1, hat, show ¬ l = [] from List.length_pos_iff.1 h0]
    refine ⟨fun q => by simp [q], fun q1 => ⟨q1, fun q2 => by simp [q2], fun q2 => ⟨by omega, ?_⟩⟩⟩
    by_cases q3 : t < x.t
    · simp [q3]; omega
    · simp [q3]; omega
def roE : List Ro → List Ro → Int
  | _, [] => 0
  | seen, x :: r => if clE x.c ≠ 0 then clE x.c else if wrg seen x.t = true then 12 else if 0 ≤ rIdx seen x.c then 7 else roE (seen ++ [x]) r
def chkE (l : List Ro) : Int := if l.length > 12 then 2 else roE [] l
theorem rcheck_fn (l : List Ro) : Fn Tryd.prog 41 [ros l] .sc (.int (chkE l)) := by
  refine fn_run mixed 3 (Γ := RbF.Γ) (ann := RbF.ann) Tryd.func41 rfl Tryd.call41 ((RbF.rcheck_form _ _).mpr ?_)
  simp
  refine ⟨fun h => by unfold chkE; rw [if_pos (by omega)], fun h => ?_⟩
  have hE : chkE l = roE [] l := by unfold chkE; rw [if_neg (by omega)]
  refine loop_list (σ := Unit) l (fun n _ => [.int (n : Nat)]) (fun n rest _ => chkE l = roE (l.take n) rest) () rfl hE ?_ ?_
  · rintro n x rest _ K hx hr hn hg hK
    have hw2 : IntKind.i64.wrap ((n : Int) + 1) = (n : Int) + 1 := wrap64 (by omega) (by omega)
    rw [roE, ← take_snoc hx] at hg
    have g1 : clE x.c ≠ 0 → clE x.c = chkE l := fun q => by rw [hg, if_pos q]
    have g2 : clE x.c = 0 → wrg (l.take n) x.t = true → 12 = chkE l := fun q1 q2 => by rw [hg, if_neg (by simp [q1]), if_pos q2]
    have g3 : clE x.c = 0 → wrg (l.take n) x.t = false → 0 ≤ rIdx (l.take n) x.c → 7 = chkE l := fun q1 q2 q3 => by rw [hg, if_neg (by simp [q1]), if_neg (by simp [q2]), if_pos q3]
    have gK : clE x.c = 0 → wrg (l.take n) x.t = false → ¬ 0 ≤ rIdx (l.take n) x.c → K [.int ((n : Nat) + 1)] := fun q1 q2 q3 => hK _ () (by simp) (by rw [hg, if_neg (by simp [q1]), if_neg (by simp [q2]), if_neg q3])
    clear hg hK
    have hlt : (l.take n).length ≤ 1000 := by simp; omega
    simp [hn, lst_atAgg hx, encR]
    refine ⟨_, pcheck_fn x.c, ?_⟩
    simp
    refine ⟨fun q => g1 q, fun q1 => ⟨by omega, _, wrong_fn (l.take n) x.t hlt, ?_⟩⟩
    simp
    refine ⟨fun q => g2 q1 q, fun q2 => ⟨by omega, _, rindex_fn (l.take n) x.c hlt, ?_⟩⟩
    simp [hw2]
    exact ⟨fun q => g3 q1 q2 q, fun q => gK q1 q2 (by omega)⟩
  · intro _ K hg
    simp [hg, roE]
theorem roE_ok : ∀ {l seen : List Ro}, roE seen l = 0 → ∀ x ∈ l, 0 ≤ x.t ∧ x.t ≤ 200000 ∧ clE x.c = 0
  | [], _, _, x, hx => by simp at hx
  | y :: r, seen, h, x, hx => by
    rw [roE] at h
    split at h
    · rename_i q; exact absurd h q
    · rename_i q0
      split at h
      · cases h
      · rename_i q
        split at h
        · cases h
        · rcases List.mem_cons.1 hx with rfl | hx
          · simp [wrg] at q
            exact ⟨by omega, by omega, by simpa using q0⟩
          · exact roE_ok h x hx
/-- Times stand in order. -/
theorem roE_sorted : ∀ {l seen : List Ro}, roE seen l = 0 → (∀ s ∈ seen.getLast?, ∀ x ∈ l, s.t ≤ x.t) ∧ l.Pairwise fun x y => x.t ≤ y.t
  | [], _, _ => ⟨fun s hs x hx => by simp at hx, .nil⟩
  | y :: r, seen, h => by
    rw [roE] at h
    split at h
    · rename_i q; exact absurd h q
    · split at h
      · cases h
      · rename_i q
        split at h
        · cases h
        · obtain ⟨h1, h2⟩ := roE_sorted h
          simp at h1
          refine ⟨fun s hs x hx => ?_, List.pairwise_cons.2 ⟨h1, h2⟩⟩
          have hsy : s.t ≤ y.t := by
            rw [Option.mem_def] at hs
            simp [wrg, hs] at q
            exact q.2
          rcases List.mem_cons.1 hx with rfl | hx
          · exact hsy
          · exact Int.le_trans hsy (h1 x hx)
structure GoodR (l : List Ro) : Prop where
  len : l.length ≤ 12
  bd : ∀ x ∈ l, 0 ≤ x.t ∧ x.t ≤ 200000
  ord : l.Pairwise fun x y => x.t ≤ y.t
theorem goodR {l : List Ro} (h : chkE l = 0) : GoodR l := by
  unfold chkE at h
  split at h
  · cases h
  · exact ⟨by omega, fun x hx => ⟨(roE_ok h x hx).1, (roE_ok h x hx).2.1⟩, (roE_sorted h).2⟩
/-- The last is the latest. -/
theorem GoodR.wrg {l : List Ro} (g : GoodR l) (t : Int) : wrg l t = decide (t < 0 ∨ t > 200000 ∨ ∃ x ∈ l, t < x.t) := by
  rcases Nat.eq_zero_or_pos l.length with h0 | h0
  · obtain rfl : l = [] := List.eq_nil_of_length_eq_zero h0
    rw [wrg_nil]
    simp
  · obtain ⟨x, hx, hw⟩ := last_of h0
    rw [hw]
    congr 1
    apply propext
    refine ⟨fun q => ?_, fun q => ?_⟩
    · rcases q with q | q | q
      · exact .inl q
      · exact .inr (.inl q)
      · exact .inr (.inr ⟨x, List.mem_of_getElem? hx, q⟩)
    · rcases q with q | q | ⟨y, hy, q⟩
      · exact .inl q
      · exact .inr (.inl q)
      · refine .inr (.inr ?_)
        obtain ⟨i, hi, e⟩ := List.mem_iff_getElem.1 hy
        obtain ⟨hj, e2⟩ := List.getElem?_eq_some_iff.1 hx
        rcases Nat.lt_or_ge i (l.length - 1) with q2 | q2
        · have := List.pairwise_iff_getElem.1 g.ord i (l.length - 1) hi hj q2
          rw [e, e2] at this
          omega
        · have : l[i]? = some x := by rw [show i = l.length - 1 by omega]; exact hx
          rw [List.getElem?_eq_getElem hi, e] at this
          injection this with this
          subst this; exact q
theorem check2_fn (l : List Ro) (c : Cl) (t : Int) : Fn Tryd.prog 27 [ros l, cl c, .int t] .sc (.int (if chkE l ≠ 0 then chkE l else if clE c ≠ 0 then clE c else if wrg l t = true then 12 else 0)) := by
  refine fn_run mixed 3 (Γ := RbF.Γ) (ann := RbF.ann) Tryd.func27 rfl Tryd.call27 ((RbF.check2_form _ _ _ _).mpr ?_)
  refine ⟨by simp [encL], _, rcheck_fn l, ?_⟩
  simp
  refine ⟨fun h h2 => absurd h2 h, fun h => ?_⟩
  have gl := (goodR h).len
  refine ⟨_, pcheck_fn c, ?_⟩
  simp [h]
  refine ⟨fun h1 h2 => absurd h2 h1, fun h1 => ⟨_, wrong_fn l t (by omega), ?_⟩⟩
  simp [h1]
end Go.Proofs.YtbeegkheobomaaaDoor
