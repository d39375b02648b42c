/- taxi.Late. -/
import Derived.Test.YtlhhdonpoglfkaaTaxi4
namespace Go.Proofs.Ytlhhdonpoglfkaa
open Go.RowKit
set_option linter.unusedVariables false
set_option linter.unusedSimpArgs false
set_option maxRecDepth 100000
theorem lvT_ge (gap : Int) (p : Option Int) (m : Tx) : m.h ≤ lvT gap p m := by
  cases p with
  | none => exact Int.le_refl _
  | some q =>
    show m.h ≤ if q + gap > m.h then q + gap else m.h
    split <;> omega
theorem pass_bnd {gap : Int} : ∀ {S : List Tx} {p : Option Int}, overT gap p S = false → ∀ y ∈ passT gap p S, ∃ m ∈ S, y.c = m.c ∧ y.p = m.p ∧ y.h = m.h ∧ m.h ≤ y.l ∧ y.l ≤ 200000
  | [], _, _, y, hy => by simp [passT] at hy
  | m :: S, p, h, y, hy => by
    rw [overT, Bool.or_eq_false_iff] at h
    rw [passT] at hy
    rcases List.mem_cons.1 hy with rfl | hy
    · refine ⟨m, by simp, rfl, rfl, rfl, lvT_ge gap p m, ?_⟩
      have := h.1
      simp only [leave_l]
      simpa using this
    · obtain ⟨m', h1, h2⟩ := pass_bnd h.2 y hy
      exact ⟨m', List.mem_cons_of_mem _ h1, h2⟩
theorem passT_len (gap : Int) : ∀ (p : Option Int) (S : List Tx), (passT gap p S).length = S.length
  | _, [] => rfl
  | p, m :: S => by simp [passT, passT_len gap _ S]
theorem queE_ok {l : List Sd} {d : List Ak} {gap : Int} (h : queE l d gap = 0) : askE l d = 0 ∧ 0 ≤ gap ∧ gap ≤ 1800 ∧ overT gap none (srtT (d.map (mkT l))) = false := by
  unfold queE at h
  split at h
  · rename_i q; exact absurd h q
  · rename_i q1
    split at h
    · cases h
    · split at h
      · cases h
      · rename_i q2 q3
        exact ⟨by simpa using q1, by omega, by omega, by simpa using q3⟩
theorem queL_bnd {l : List Sd} {d : List Ak} {gap : Int} (h : queE l d gap = 0) : (queL l d gap).length ≤ 16 ∧ ∀ y ∈ queL l d gap, 0 ≤ y.p ∧ y.p ≤ 200000 ∧ 0 ≤ y.h ∧ y.h ≤ y.l ∧ y.l ≤ 200000 := by
  obtain ⟨h1, h2, h3, h4⟩ := queE_ok h
  have g := good_of h1
  have hS := srtT_perm (d.map (mkT l))
  refine ⟨?_, fun y hy => ?_⟩
  · unfold queL
    rw [passT_len, hS.length_eq]
    have := g.lend
    simpa using this
  · obtain ⟨m, hm, e1, e2, e3, e4, e5⟩ := pass_bnd h4 y hy
    have := g.bnd m (hS.mem_iff.1 hm)
    rw [e2, e3]
    omega
/-- A movement that leaves its stand later. -/
def lateT (slack : Int) (m : Tx) : Tx := if m.l - m.h - slack > 0 then ⟨m.c, m.p + (m.l - m.h - slack), m.h + (m.l - m.h - slack), m.l⟩ else m
def latE (l : List Sd) (d : List Ak) (gap slack : Int) : Int := if queE l d gap ≠ 0 then queE l d gap else if slack < 0 ∨ slack > 1800 then 4 else 0
def latR (l : List Sd) (d : List Ak) (gap slack : Int) : List Tx := if latE l d gap slack = 0 then (queL l d gap).map (lateT slack) else []
def latV (l : List Sd) (d : List Ak) (gap slack : Int) : AV := .tup [txs (latR l d gap slack), .int (latE l d gap slack)]
theorem latV_err {l : List Sd} {d : List Ak} {gap slack e : Int} (h : latE l d gap slack = e) (h0 : e ≠ 0) : latV l d gap slack = .tup [.sl 4 [], .int e] := by
  unfold latV latR; rw [h, if_neg h0]; rfl
theorem latV_ok {l : List Sd} {d : List Ak} {gap slack : Int} (h : latE l d gap slack = 0) : latV l d gap slack = .tup [txs ((queL l d gap).map (lateT slack)), .int 0] := by
  unfold latV latR; rw [h, if_pos rfl]
theorem late_fn (l : List Sd) (d : List Ak) (gap slack : Int) : Fn Try.prog 40 [sds l, aks d, .int gap, .int slack] (.tup [.row 76 4 true, .sc]) (latV l d gap slack) := by
  refine fn_run mixed 3 (Γ := TaxiF.Γ) (ann := TaxiF.ann) Try.func40 rfl Try.call40 ((TaxiF.late_form _ _ _ _ _).mpr ?_)
  refine ⟨_, queue_fn l d gap, ?_⟩
  have hE1 : queE l d gap ≠ 0 → latE l d gap slack = queE l d gap := fun h => by unfold latE; rw [if_pos h]
  have hE2 : queE l d gap = 0 → (slack < 0 ∨ slack > 1800) → latE l d gap slack = 4 := fun h h2 => by unfold latE; rw [if_neg (by simp [h]), if_pos h2]
  by_cases h : queE l d gap = 0
  · rw [queV_ok h]
    simp
    refine ⟨fun h2 => ⟨h2, by rw [latV_err (hE2 h (.inl h2)) (by omega)]⟩, fun h2 => ⟨h2, fun h3 => by rw [latV_err (hE2 h (.inr h3)) (by omega)], fun h3 => ?_⟩⟩
    have hE : latE l d gap slack = 0 := by unfold latE; rw [if_neg (by simp [h]), if_neg (by omega)]
    rw [latV_ok hE]
    obtain ⟨hl, hb⟩ := queL_bnd h
    generalize queL l d gap = S at *
    refine loop_list (σ := Unit) S (fun n s => [.int (n : Nat), txs ((S.take n).map (lateT slack) ++ S.drop n)]) (fun n rest s => True) () (by simp) trivial ?_ ?_
    · rintro n x rest _ K hx hr hn _ hK
      have hw2 : IntKind.i64.wrap ((n : Int) + 1) = (n : Int) + 1 := wrap64 (by omega) (by omega)
      have hxb := hb x (List.mem_of_getElem? hx)
      have hdr : S.drop n = x :: rest := by rw [List.drop_eq_getElem_cons hn, hr]; congr 1; exact (List.getElem?_eq_some_iff.1 hx).2
      have hdl : ((S.take n).map (lateT slack)).length = n := by simp; omega
      have hK2 : ∀ y, y = lateT slack x → K [.int ((n : Nat) + 1), txs ((S.take n).map (lateT slack) ++ y :: rest)] := fun y hy => hK _ () (by rw [hr, take_snoc hx, List.map_append, hy]; simp) trivial
      rw [hdr]
      generalize (S.take n).map (lateT slack) = dn at *
      have hgl : ∀ (y : Tx), (dn ++ y :: rest)[n]? = some y := fun y => by rw [← hdl]; exact get_mid _ _ _
      have hat3 : ∀ y : Tx, AV.at (txs (dn ++ y :: rest)) (.lit (.int .i64 (n : Nat))) 3 = .int y.l := fun y => by rw [lst_at (hgl y)]; rfl
      have hat2 : ∀ y : Tx, AV.at (txs (dn ++ y :: rest)) (.lit (.int .i64 (n : Nat))) 2 = .int y.h := fun y => by rw [lst_at (hgl y)]; rfl
      have hat1 : ∀ y : Tx, AV.at (txs (dn ++ y :: rest)) (.lit (.int .i64 (n : Nat))) 1 = .int y.p := fun y => by rw [lst_at (hgl y)]; rfl
      have hs1 : ∀ t : Int, AV.setEl (txs (dn ++ x :: rest)) (.lit (.int .i64 (n : Nat))) 1 [.lit (.int .i64 t)] = txs (dn ++ ⟨x.c, t, x.h, x.l⟩ :: rest) := fun t => by
        rw [lst_setEl (x := x) (x' := ⟨x.c, t, x.h, x.l⟩) (hgl x) (by simp [encT])]
        conv => lhs; rw [← hdl]
        rw [set_mid]
      have hs2 : ∀ p t : Int, AV.setEl (txs (dn ++ ⟨x.c, p, x.h, x.l⟩ :: rest)) (.lit (.int .i64 (n : Nat))) 2 [.lit (.int .i64 t)] = txs (dn ++ ⟨x.c, p, t, x.l⟩ :: rest) := fun p t => by
        rw [lst_setEl (x := ⟨x.c, p, x.h, x.l⟩) (x' := ⟨x.c, p, t, x.l⟩) (hgl _) (by simp [encT])]
        conv => lhs; rw [← hdl]
        rw [set_mid]
      have hw3 : IntKind.i64.wrap (x.l - x.h) = x.l - x.h := wrap64 (by omega) (by omega)
      have hw4 : IntKind.i64.wrap (x.l - x.h - slack) = x.l - x.h - slack := wrap64 (by omega) (by omega)
      have hw5 : IntKind.i64.wrap (x.p + (x.l - x.h - slack)) = x.p + (x.l - x.h - slack) := wrap64 (by omega) (by omega)
      have hw6 : IntKind.i64.wrap (x.h + (x.l - x.h - slack)) = x.h + (x.l - x.h - slack) := wrap64 (by omega) (by omega)
      clear hgl hx hr hdr hK
      simp [hn, hdl, hat1, hat2, hat3, hs1, hs2, hw2, hw3, hw4, hw5, hw6]
      have hY : x.l - x.h - slack > 0 → K [.int ((n : Nat) + 1), txs (dn ++ ⟨x.c, x.p + (x.l - x.h - slack), x.h + (x.l - x.h - slack), x.l⟩ :: rest)] := fun q => hK2 _ (by unfold lateT; rw [if_pos (by omega)])
      have hN : ¬ x.l - x.h - slack > 0 → K [.int ((n : Nat) + 1), txs (dn ++ x :: rest)] := fun q => hK2 _ (by unfold lateT; rw [if_neg (by omega)])
      clear hK2
      (repeat' (first | exact trivial | (with_reducible intro hw; (try simp (disch := omega) only [wrap64] at hw); first | (exfalso; omega; done) | skip) | (with_reducible refine And.intro ?_ ?_) | omega | assumption))
      all_goals first | exact hY (by omega) | exact hN (by omega)
    · rintro _ K _
      simp
      exact flat_txs _
  · rw [queV_err rfl h]
    simp [h]
    rw [latV_err (hE1 h) h]
end Go.Proofs.Ytlhhdonpoglfkaa
