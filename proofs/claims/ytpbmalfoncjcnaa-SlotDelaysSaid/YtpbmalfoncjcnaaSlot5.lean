/- slot.Release. -/
import Derived.Test.YtpbmalfoncjcnaaSlot4
namespace Go.Proofs.Ytpbmalfoncjcnaa
open Go.RowKit
set_option linter.unusedVariables false
set_option linter.unusedSimpArgs false
set_option maxRecDepth 100000
def kpM (c : ByteArray) (x : Dm) : Bool := !decide (x.c = c)
def rst (l : List Dm) (c : ByteArray) : List Dm := l.filter (kpM c)
def relE (p c : ByteArray) (l : List Dm) (k : List Cp) : Int := if asgE p l k ≠ 0 then asgE p l k else if (rst l c).length = l.length then 8 else asgE p (rst l c) k
def relL (p c : ByteArray) (l : List Dm) (k : List Cp) : List So := if asgE p l k ≠ 0 then [] else if (rst l c).length = l.length then [] else asgL p (rst l c) k
def relV (p c : ByteArray) (l : List Dm) (k : List Cp) : AV := .tup [sos (relL p c l k), .int (relE p c l k)]
theorem relV_asg {p c : ByteArray} {l : List Dm} {k : List Cp} (h : asgE p l k ≠ 0) : relV p c l k = .tup [.sl 3 [], .int (asgE p l k)] := by
  unfold relV relL relE; rw [if_pos h, if_pos h]; rfl
theorem relV_none {p c : ByteArray} {l : List Dm} {k : List Cp} (h : asgE p l k = 0) (h2 : (rst l c).length = l.length) : relV p c l k = .tup [.sl 3 [], .int 8] := by
  have h' : ¬ asgE p l k ≠ 0 := by simp [h]
  unfold relV relL relE; rw [if_neg h', if_neg h', if_pos h2, if_pos h2]; rfl
theorem relV_ok {p c : ByteArray} {l : List Dm} {k : List Cp} (h : asgE p l k = 0) (h2 : (rst l c).length ≠ l.length) : relV p c l k = asgV p (rst l c) k := by
  have h' : ¬ asgE p l k ≠ 0 := by simp [h]
  unfold relV relL relE; rw [if_neg h', if_neg h', if_neg h2, if_neg h2]; rfl
theorem asgE_slt {p : ByteArray} {l : List Dm} {c : List Cp} (h : asgE p l c = 0) : sltE p l c = 0 := by
  unfold asgE at h
  split at h
  · rename_i q; exact absurd h q
  · rename_i q; simpa using q
theorem sltE_ok {p : ByteArray} {l : List Dm} {c : List Cp} (h : sltE p l c = 0) : isName p = true ∧ demE l = 0 ∧ capE c = 0 := by
  unfold sltE at h
  split at h
  · exact absurd h (by omega)
  · rename_i q
    split at h
    · rename_i q2; exact absurd h q2
    · rename_i q2; exact ⟨by simpa using q, by simpa using q2, h⟩
theorem clr_sub (l : List Dm) (i : Nat) (h : i ≤ l.length) : AV.sub 2 (AV.clr 2 (dms l) (.lit (.int .i64 (i : Nat))) [.lit (.string ⟨#[]⟩), .lit (.int .i64 0)]) (.lit (.int .i64 0)) (.lit (.int .i64 (i : Nat))) = dms (l.take i) := by
  have : i ≤ (l.map encM).length := by simpa using h
  simp [AV.clr, AV.sub, lst, List.take_append, List.map_take, h]
theorem clr_ok (l : List Dm) (i : Nat) (h : i ≤ l.length) (z : List AV) : AV.subOk (AV.clr 2 (dms l) (.lit (.int .i64 (i : Nat))) z) (.lit (.int .i64 0)) (.lit (.int .i64 (i : Nat))) := by
  refine ⟨⟨_, _, rfl⟩, ⟨_, _, rfl⟩, by simp, by simp, ?_⟩
  simp [AV.clr, lst]
  omega
theorem take_set_snoc {α : Type} {l : List α} {i : Nat} (x : α) (h : i < l.length) : (l.set i x).take (i + 1) = l.take i ++ [x] := by
  rw [take_snoc (x := x) (by simp [h])]
  congr 1
  rw [List.take_set, List.set_eq_of_length_le (by simp; omega)]
theorem release_fn (p c : ByteArray) (l : List Dm) (k : List Cp) : Fn Try.prog 25 [.string p, .string c, dms l, cps k] (.tup [.row 34 3 true, .sc]) (relV p c l k) := by
  have e := SlotF.release_form (.string p) (.string c) (dms l) (cps k) (relV p c l k)
  have kk := fun h => fn_run mixed 3 (Γ := SlotF.Γ) (ann := SlotF.ann) Try.func25 rfl Try.call25 (e.mpr h)
  refine kk ?_
  clear kk e
  have e1 : Ent Try.prog 41 := Try.call41
  have e2 : Ent Try.prog 55 := Try.call55
  have e3 : Ent Try.prog 74 := Try.call74
  have e4 : Ent Try.prog 56 := Try.call56
  refine ⟨by simp, _, assign_fn p l k, ?_⟩
  simp [asgV]
  refine ⟨fun h => by rw [relV_asg h], fun h => ⟨e1, ?_, ?_⟩⟩
  · intro h0
    subst h0
    refine ⟨e2, e3, ?_⟩
    refine loop_nat (σ := Unit) 0 (fun n _ => [.int (n : Nat)]) (fun n _ => True) () (by simp) trivial (fun n _ K hn => absurd hn (by omega)) ?_
    intro _ K _
    simp
    exact (relV_none h rfl).symm
  · obtain ⟨hp, hd, hc⟩ := sltE_ok (asgE_slt h)
    have g := goodM hd
    have gl := g.len
    have hroom : AV.room (.sl 2 []) (dms l) 24 := by unfold AV.room; rw [lst_els]; simp [AV.els]; omega
    simp only [app_dms]
    refine ⟨hroom, e2, e3, ?_⟩
    refine loop_list (σ := Unit) l (fun n _ => [.int (n : Nat)]) (fun n rest _ => ∀ i y, i < n → l[i]? = some y → kpM c y = true) () (by simp) (fun i y h => absurd h (by omega)) ?_ ?_
    · rintro n x rest _ K hx hr hn hG hK
      have hw2 : IntKind.i64.wrap ((n : Int) + 1) = (n : Int) + 1 := wrap64 (by omega) (by omega)
      simp [hn, lst_atAgg hx, encM, e4, hw2, show ¬ (n : Int) = -1 by omega]
      refine ⟨fun hxc => ?_, fun hxc => hK _ () (by simp) fun i y hi hy => ?_⟩
      · have htk : (l.take n).filter (kpM c) = l.take n := List.filter_eq_self.2 fun y hy => by
          obtain ⟨i, hi, e⟩ := List.mem_iff_getElem.1 hy
          have hi' : i < n := by simp at hi; omega
          exact hG i y hi' (by rw [← e, List.getElem_take, List.getElem?_eq_getElem])
        have hk0 : kpM c x = false := by simp [kpM, hxc]
        refine loop_from (σ := Nat × List Dm) l (n + 1) (by omega) (fun j s => [.int (s.1 : Nat), .int (j : Nat), dms s.2]) (fun j rest s => s.2.length = l.length ∧ s.2.take s.1 = (l.take j).filter (kpM c) ∧ s.1 < j ∧ s.2.drop j = l.drop j) (n, l) (by simp) ⟨rfl, by rw [take_snoc hx, List.filter_append, htk]; simp [hk0], by simp, rfl⟩ ?_ ?_
        · rintro j y rest2 ⟨i, L⟩ K2 hnj hy hr2 hj ⟨h1, h2, h3, h4⟩ hK2
          simp only at h1 h2 h3 h4
          have hw3 : IntKind.i64.wrap ((j : Int) + 1) = (j : Int) + 1 := wrap64 (by omega) (by omega)
          have hw4 : IntKind.i64.wrap ((i : Int) + 1) = (i : Int) + 1 := wrap64 (by omega) (by omega)
          have hLy : L[j]? = some y := by
            have := congrArg (fun q => q[0]?) h4
            simpa [hy] using this
          have hL4 : ∀ q : Dm, (L.set i q).drop (j + 1) = l.drop (j + 1) := fun q => by
            rw [List.drop_set_of_lt (by omega), ← List.drop_drop, h4, List.drop_drop]
          have hset : AV.setEl (dms L) (.lit (.int .i64 (i : Nat))) 0 [.lit (.string y.c), .lit (.int .i64 y.t)] = dms (L.set i y) := by
            obtain ⟨w, hw⟩ : ∃ w, L[i]? = some w := ⟨_, List.getElem?_eq_getElem (by omega)⟩
            rw [lst_setEl (x := w) (x' := y) hw (by simp [encM])]
          have gY : y.c ≠ c → K2 [.int ((i : Nat) + 1), .int ((j : Nat) + 1), dms (L.set i y)] := fun q => hK2 _ (i + 1, L.set i y) (by simp) ⟨by simp [h1], by
            rw [take_set_snoc y (by omega), h2, take_snoc hy, List.filter_append]; simp [kpM, q], by show i + 1 < j + 1; omega, hL4 y⟩
          have gN : y.c = c → K2 [.int (i : Nat), .int ((j : Nat) + 1), dms L] := fun q => hK2 _ (i, L) (by simp) ⟨h1, by
            rw [h2, take_snoc hy, List.filter_append]; simp [kpM, q], by show i < j + 1; omega, by
            show L.drop (j + 1) = _
            rw [← List.drop_drop, h4, List.drop_drop]⟩
          clear hK2
          simp [h1, hj, lst_atAgg hLy, encM, e4, hw3, hw4, hset, show i < l.length by omega]
          exact ⟨gY, gN⟩
        · rintro ⟨i, L⟩ K2 ⟨h1, h2, h3, _⟩
          simp only at h1 h2 h3
          rw [List.take_length] at h2
          have hst : dms (L.take i) = dms (rst l c) := by rw [h2]; rfl
          have hln : (rst l c).length = i := by
            have := congrArg List.length h2
            unfold rst
            rw [← this, List.length_take]; omega
          have hne : (rst l c).length ≠ l.length := by omega
          have hcs := clr_sub L i (by omega)
          have hco := clr_ok L i (by omega) [.lit (.string ⟨#[]⟩), .lit (.int .i64 0)]
          rw [hst] at hcs
          simp [h1, hcs, hco, hln, show ¬ (i : Int) = (l.length : Int) by omega]
          refine ⟨by omega, _, assign_fn p (rst l c) k, ?_⟩
          simp [asgV, flat_sos]
          exact (relV_ok h hne).symm
      · by_cases e : i = n
        · subst e; rw [hx] at hy; injection hy with hy; subst hy; simpa [kpM] using hxc
        · exact hG i y (by omega) hy
    · rintro _ K hG
      have : (rst l c).length = l.length := by
        unfold rst
        rw [List.filter_eq_self.2]
        intro y hy
        obtain ⟨i, hi, e⟩ := List.mem_iff_getElem.1 hy
        exact hG i y hi (by rw [List.getElem?_eq_getElem hi, e])
      simp
      exact (relV_none h this).symm
end Go.Proofs.Ytpbmalfoncjcnaa
