/- readback's other functions. -/
import Derived.Test.YtbeegkheobomaaaDoorRb3
namespace Go.Proofs.YtbeegkheobomaaaDoor
open Go.RowKit
set_option linter.unusedVariables false
set_option linter.unusedSimpArgs false
set_option maxRecDepth 100000
def old (t : Int) (x : Ro) : Bool := decide (t - x.t > 40)
def lpE (l : List Ro) (t : Int) : Int := if chkE l ≠ 0 then chkE l else if wrg l t = true then 12 else 0
def lpS (l : List Ro) (t : Int) : List Ro := if lpE l t = 0 then l.filter (fun x => !old t x) else []
def lpG (l : List Ro) (t : Int) : List Cl := if lpE l t = 0 then (l.filter (old t)).map (·.c) else []
def lpV (l : List Ro) (t : Int) : AV := .tup [ros (lpS l t), cls (lpG l t), .int (lpE l t)]
theorem lpV_err {l : List Ro} {t e : Int} (h : lpE l t = e) (h0 : e ≠ 0) : lpV l t = .tup [.sl 5 [], .sl 4 [], .int e] := by
  unfold lpV lpS lpG; rw [h, if_neg h0, if_neg h0]; rfl
theorem lpV_ok {l : List Ro} {t : Int} (h : lpE l t = 0) : lpV l t = .tup [ros (l.filter (fun x => !old t x)), cls ((l.filter (old t)).map (·.c)), .int 0] := by
  unfold lpV lpS lpG; rw [h, if_pos rfl, if_pos rfl]
def ofL (l : List Ro) (c : ByteArray) : List Cl := (l.filter (fun x => decide (x.c.c = c))).map (·.c)
def ofV (l : List Ro) (c : ByteArray) : AV := if chkE l ≠ 0 then .tup [.sl 4 [], .int (chkE l)] else .tup [cls (ofL l c), .int 0]
def sumP : List (Bool × Int) → Int
  | [] => 0
  | x :: r => (if x.1 = true then x.2 else 0) + sumP r
def difP (c r : Cl) : List (Bool × Int) := [(!decide (c.c = r.c), 1), (c.k != r.k, 2), (c.v != r.v, 4), (!decide (c.f = r.f), 8)]
def encP (x : Bool × Int) : List AV := [.bool x.1, .int x.2]
def cmpV (c r : Cl) : AV := if clE c ≠ 0 then .tup [.int 0, .int (clE c)] else if clE r ≠ 0 then .tup [.int 0, .int (clE r)] else .tup [.int (sumP (difP c r)), .int 0]
theorem compare_fn (c r : Cl) : Fn Tryd.prog 15 [cl c, cl r] (.tup [.sc, .sc]) (cmpV c r) := by
  have e := RbF.cmp_form (cl c) (cl r) (cmpV c r)
  have k := fun h => fn_run mixed 3 (Γ := RbF.Γ) (ann := RbF.ann) Tryd.func15 rfl Tryd.call15 (e.mpr h)
  refine k ?_
  clear k e
  have h1 : AV.sl 4 [[.lit (.string c.c), .lit (.int .i64 c.k), .lit (.int .i64 c.v), .lit (.string c.f)], [.lit (.string r.c), .lit (.int .i64 r.k), .lit (.int .i64 r.v), .lit (.string r.f)]] = cls [c, r] := rfl
  have h2 : AV.sl 2 [[.lit (.bool (!decide (c.c = r.c))), .lit (.int .i64 1)], [.lit (.bool (c.k != r.k)), .lit (.int .i64 2)], [.lit (.bool (c.v != r.v)), .lit (.int .i64 4)], [.lit (.bool (!decide (c.f = r.f))), .lit (.int .i64 8)]] = lst 2 encP (difP c r) := rfl
  simp only [av_mk, encL, av_cel, List.getD_cons_zero, List.getD_cons_succ, av_neq_str, av_neq, h1, h2]
  refine ⟨by simp [encL], by simp [encL], ?_⟩
  refine loop_list (σ := Unit) [c, r] (fun n _ => [.int (n : Nat)]) (fun n rest _ => (∀ i x, i < n → [c, r][i]? = some x → clE x = 0)) () (by simp) (fun i x h => absurd h (by omega)) ?_ ?_
  · rintro n x rest _ K hx hr hn hg hK
    have hw2 : IntKind.i64.wrap ((n : Int) + 1) = (n : Int) + 1 := wrap64 (by omega) (by simp at hn; omega)
    have gY : clE x ≠ 0 → .tup [.int 0, .int (clE x)] = cmpV c r := fun q => by
      simp at hn
      have hn2 : n = 0 ∨ n = 1 := by omega
      rcases hn2 with rfl | rfl
      · simp at hx; subst hx; unfold cmpV; rw [if_pos q]
      · simp at hx; subst hx
        have := hg 0 c (by omega) rfl
        unfold cmpV; rw [if_neg (by simp [this]), if_pos q]
    have gN : clE x = 0 → K [.int ((n : Nat) + 1)] := fun q => hK _ () (by simp) fun i y hi hy => by
      by_cases e : i = n
      · subst e; rw [hx] at hy; injection hy with hy; subst hy; exact q
      · exact hg i y (by omega) hy
    clear hK
    have hn' : n < 2 := hn
    simp [show (n : Int) < 2 by omega, lst_atAgg hx, encL]
    refine ⟨_, pcheck_fn x, ?_⟩
    simp [hw2]
    exact ⟨gY, gN⟩
  · intro _ K hg
    have q1 := hg 0 c (by simp) rfl
    have q2 := hg 1 r (by simp) rfl
    have hV : cmpV c r = .tup [.int (sumP (difP c r)), .int 0] := by unfold cmpV; rw [if_neg (by simp [q1]), if_neg (by simp [q2])]
    simp
    refine loop_list (σ := Int) (difP c r) (fun n s => [.int s, .int (n : Nat)]) (fun n rest s => sumP (difP c r) = s + sumP rest ∧ 0 ≤ s ∧ s ≤ 8 * n) 0 (by simp) ⟨by omega, by omega, by omega⟩ ?_ ?_
    · rintro n x rest s K' hx hr hn ⟨hg2, hs, hs2⟩ hK'
      have hn' : n < 4 := hn
      have hw2 : IntKind.i64.wrap ((n : Int) + 1) = (n : Int) + 1 := wrap64 (by omega) (by omega)
      have hxb : 0 ≤ x.2 ∧ x.2 ≤ 8 := by
        have := List.mem_of_getElem? hx
        simp [difP] at this
        rcases this with rfl | rfl | rfl | rfl <;> simp
      have hw3 : IntKind.i64.wrap (s + x.2) = s + x.2 := wrap64 (by omega) (by omega)
      rw [sumP] at hg2
      have gY : x.1 = true → K' [.int (s + x.2), .int ((n : Nat) + 1)] := fun q => hK' _ (s + x.2) (by simp) ⟨by rw [hg2, if_pos q]; omega, by omega, by omega⟩
      have gN : x.1 = false → K' [.int s, .int ((n : Nat) + 1)] := fun q => hK' _ s (by simp) ⟨by rw [hg2, if_neg (by simp [q])]; omega, by omega, by omega⟩
      clear hK'
      have hlen : (difP c r).length = 4 := rfl
      simp [hlen, show (n : Int) < 4 by omega, lst_atAgg hx, encP, hw2, hw3]
      exact ⟨gY, gN⟩
    · rintro s K' ⟨hg2, _⟩
      rw [sumP] at hg2
      simp [hV, hg2]
theorem climbed_fn (n : Int) : Fn Tryd.prog 17 [.int n] .sc (cl ⟨⟨#[65, 49]⟩, 0, n, ⟨#[]⟩⟩) := by
  refine fn_run mixed 1 (Γ := RbF.Γ) (ann := RbF.ann) Tryd.func17 rfl Tryd.call17 ((RbF.climbed_form _ _).mpr ?_)
  simp [encL]
end Go.Proofs.YtbeegkheobomaaaDoor
