/- The law of queues. -/
import Derived.Test.YtlhhdonpoglfkaaTaxi7
namespace Go.Proofs.Ytlhhdonpoglfkaa
open Go.RowKit
set_option linter.unusedVariables false
set_option linter.unusedSimpArgs false
set_option maxRecDepth 100000
theorem pass_ge {gap : Int} (hg : 0 ≤ gap) : ∀ {S : List Tx} {v : Int}, ∀ y ∈ passT gap (some v) S, v ≤ y.l
  | [], _, y, hy => by simp [passT] at hy
  | m :: S, v, y, hy => by
    have h1 : v ≤ lvT gap (some v) m := by
      show v ≤ if v + gap > m.h then v + gap else m.h
      split <;> omega
    rw [passT] at hy
    rcases List.mem_cons.1 hy with rfl | hy
    · exact h1
    · exact Int.le_trans h1 (pass_ge hg y hy)
theorem over_last {gap : Int} (hg : 0 ≤ gap) : ∀ {S : List Tx} {p : Option Int} {q : Tx}, (passT gap p S).getLast? = some q → (overT gap p S = true ↔ q.l > 200000)
  | [], _, q, h => by simp [passT] at h
  | [m], p, q, h => by
    simp [passT] at h
    subst h
    simp [overT]
  | m :: m' :: S, p, q, h => by
    have h' : (passT gap (some (lvT gap p m)) (m' :: S)).getLast? = some q := by
      rw [passT, passT] at h
      rw [passT]
      simpa using h
    have ih := over_last hg h'
    have hge := pass_ge hg q (List.mem_of_getLast? h')
    rw [overT, Bool.or_eq_true, ih]
    simp only [decide_eq_true_eq]
    omega
theorem tqueues_fn (l : List Sd) (d : List Ak) (gap slack : Int) : Fn Try.prog 7 [sds l, aks d, .int gap, .int slack] .sc (.bool true) := by
  have e := TaxiG.queues_form (sds l) (aks d) (.int gap) (.int slack) (.bool true)
  have k := fun h => fn_run mixed 3 (Γ := TaxiG.Γ) (ann := TaxiG.ann) Try.func7 rfl Try.call7 (e.mpr h)
  refine k ?_
  clear k e
  refine ⟨_, tfact_fn, ?_⟩
  simp
  refine ⟨_, queue_fn l d gap, _, late_fn l d gap slack, _, aerr_fn l d, _, stands_fn l, _, serr_fn l, ?_⟩
  simp
  refine ⟨_, tcheck_fn l d, ?_⟩
  simp
  have hnil : Fn Try.prog 46 [.sl 4 [], .sl 4 []] .sc (.bool true) := by
    have := eqt_fn [] [] (by simp)
    simpa using this
  have hE1 : askE l d ≠ 0 → queE l d gap = askE l d := fun h => by unfold queE; rw [if_pos h]
  have hL1 : queE l d gap ≠ 0 → latE l d gap slack = queE l d gap := fun h => by unfold latE; rw [if_pos h]
  refine ⟨fun h0 => ?_, fun h0 => ?_⟩
  · have g := good_of h0
    have hE2 : (gap < 0 ∨ gap > 1800) → queE l d gap = 4 := fun h2 => by unfold queE; rw [if_neg (by simp [h0]), if_pos h2]
    have hbad : ∀ n : Int, n ≠ 0 → queE l d gap = n → queV l d gap = .tup [.sl 4 [], .int n] ∧ latV l d gap slack = .tup [.sl 4 [], .int n] := fun n hn h => ⟨queV_err h hn, latV_err ((hL1 (by rw [h]; exact hn)).trans h) hn⟩
    simp only [h0]
    simp
    refine ⟨fun h1 => ⟨h1, ?_⟩, fun h1 => ⟨h1, fun h2 => ?_, fun h2 => ?_⟩⟩
    · obtain ⟨q1, q2⟩ := hbad 4 (by omega) (hE2 (.inl h1))
      rw [q1, q2]
      simp
      exact ⟨_, hnil, by simp⟩
    · obtain ⟨q1, q2⟩ := hbad 4 (by omega) (hE2 (.inr h2))
      rw [q1, q2]
      simp
      exact ⟨_, hnil, by simp⟩
    · refine ⟨_, queued_fn g h1 h2, ?_⟩
      have hlen : (queL l d gap).length ≤ 16 := by
        unfold queL
        rw [passT_len, (srtT_perm _).length_eq]
        have := g.lend
        simpa using this
      have hLE : ∀ (q : Prop), (slack < 0 ∨ slack > 1800) → queE l d gap = 0 → latE l d gap slack = 4 := fun _ h3 h4 => by unfold latE; rw [if_neg (by simp [h4]), if_pos h3]
      have hQ0 : overT gap none (srtT (d.map (mkT l))) = false → queE l d gap = 0 := fun q => by unfold queE; rw [if_neg (by simp [h0]), if_neg (by omega), if_neg (by simp [q])]
      have hQ1 : overT gap none (srtT (d.map (mkT l))) = true → queE l d gap = 12 := fun q => by unfold queE; rw [if_neg (by simp [h0]), if_neg (by omega), if_pos q]
      have hL0 : queE l d gap = 0 → 0 ≤ slack → slack ≤ 1800 → latE l d gap slack = 0 := fun h4 h5 h6 => by unfold latE; rw [if_neg (by simp [h4]), if_neg (by omega)]
      have hbnd := fun h => (queL_bnd (l := l) (d := d) (gap := gap) h).2
      cases hL : (queL l d gap).getLast? with
      | none =>
        have hnl : queL l d gap = [] := List.getLast?_eq_none_iff.1 hL
        have hS0 : srtT (d.map (mkT l)) = [] := by
          have := congrArg List.length hnl
          unfold queL at this
          rw [passT_len] at this
          exact List.eq_nil_of_length_eq_zero this
        have hq0 := hQ0 (by rw [hS0]; rfl)
        rw [queV_ok hq0, hnl]
        simp
        refine ⟨_, hnil, ?_⟩
        simp
        refine ⟨fun h3 => ?_, fun h3 => ⟨h3, fun h4 => ?_, fun h4 => ?_⟩⟩
        · rw [latV_err (hLE True (.inl h3) hq0) (by omega)]
          simp [h3]
        · rw [latV_err (hLE True (.inr h4) hq0) (by omega)]
          simp
        · rw [latV_ok (hL0 hq0 h3 h4), hnl]
          refine loop_nat (σ := Unit) 0 (fun n _ => [.int (n : Nat), .sl 4 []]) (fun n _ => True) () (by simp) trivial (fun n _ K hn => absurd hn (by omega)) ?_
          intro _ K _
          simp
          exact hnil
      | some q =>
        have hov := over_last h1 hL
        have hpos : 0 < (queL l d gap).length := List.length_pos_iff.2 fun e => by rw [e] at hL; cases hL
        have hqi : (queL l d gap)[(queL l d gap).length - 1]? = some q := by rw [← List.getLast?_eq_getElem?]; exact hL
        have hwl : IntKind.i64.wrap (((queL l d gap).length : Int) - 1) = ((queL l d gap).length : Int) - 1 := wrap64 (by omega) (by omega)
        have hat : AV.at (txs (queL l d gap)) (.lit (.int .i64 (((queL l d gap).length : Int) - 1))) 3 = .int q.l := by
          rw [lst_atI (by omega) (x := q) (by rw [show (((queL l d gap).length : Int) - 1).toNat = (queL l d gap).length - 1 by omega]; exact hqi)]; rfl
        have hne : queL l d gap ≠ [] := List.length_pos_iff.1 hpos
        have hin : (0 : Int) ≤ ((queL l d gap).length : Int) - 1 := by omega
        by_cases hover : q.l > 200000
        · obtain ⟨q1, q2⟩ := hbad 12 (by omega) (hQ1 (hov.2 hover))
          rw [q1, q2]
          simp [hpos, hne, hwl, hat, hover, hin]
          exact ⟨by omega, _, hnil, by simp⟩
        · have hq0 := hQ0 (by
            cases hh : overT gap none (srtT (d.map (mkT l))) with
            | false => rfl
            | true => exact absurd (hov.1 hh) hover)
          have hb := hbnd hq0
          have hself := eqt_fn (queL l d gap) (queL l d gap) (by unfold maxLen; omega)
          rw [decide_eq_true rfl] at hself
          rw [queV_ok hq0]
          simp [hpos, hne, hwl, hat, hover, hin]
          refine ⟨by omega, _, hself, ?_⟩
          simp
          refine ⟨fun h3 => ?_, fun h3 => ⟨h3, fun h4 => ?_, fun h4 => ?_⟩⟩
          · rw [latV_err (hLE True (.inl h3) hq0) (by omega)]
            simp [h3]
          · rw [latV_err (hLE True (.inr h4) hq0) (by omega)]
            simp
          · rw [latV_ok (hL0 hq0 h3 h4)]
            clear hat hwl hL hov hqi hself hbnd hQ0 hQ1 hpos hin hne
            have hql : (queL l d gap) = queL l d gap := rfl
            generalize queL l d gap = S at *
            refine loop_list (σ := Unit) S (fun n s => [.int (n : Nat), txs ((S.take n).map (lateT slack) ++ S.drop n)]) (fun n rest s => True) () (by simp) trivial ?_ ?_
            · rintro n x rest _ K hx hr hn _ hK
              have hw2 : IntKind.i64.wrap ((n : Int) + 1) = (n : Int) + 1 := wrap64 (by omega) (by omega)
              have hxb := hb x (List.mem_of_getElem? hx)
              have hdr : S.drop n = x :: rest := by rw [List.drop_eq_getElem_cons hn, hr]; congr 1; exact (List.getElem?_eq_some_iff.1 hx).2
              have hdl : ((S.take n).map (lateT slack)).length = n := by simp; omega
              have hK2 : K [.int ((n : Nat) + 1), txs ((S.take n).map (lateT slack) ++ lateT slack x :: rest)] := hK _ () (by rw [hr, take_snoc hx, List.map_append]; simp) trivial
              rw [hdr]
              generalize (S.take n).map (lateT slack) = dn at *
              have hgl : ∀ (y : Tx), (dn ++ y :: rest)[n]? = some y := fun y => by rw [← hdl]; exact get_mid _ _ _
              have hat3 : ∀ y : Tx, AV.at (txs (dn ++ y :: rest)) (.lit (.int .i64 (n : Nat))) 3 = .int y.l := fun y => by rw [lst_at (hgl y)]; rfl
              have hat2 : ∀ y : Tx, AV.at (txs (dn ++ y :: rest)) (.lit (.int .i64 (n : Nat))) 2 = .int y.h := fun y => by rw [lst_at (hgl y)]; rfl
              have hat1 : ∀ y : Tx, AV.at (txs (dn ++ y :: rest)) (.lit (.int .i64 (n : Nat))) 1 = .int y.p := fun y => by rw [lst_at (hgl y)]; rfl
              have hs1 : ∀ (p h t : Int), AV.setEl (txs (dn ++ ⟨x.c, p, h, x.l⟩ :: rest)) (.lit (.int .i64 (n : Nat))) 1 [.lit (.int .i64 t)] = txs (dn ++ ⟨x.c, t, h, x.l⟩ :: rest) := fun p h t => by
                rw [lst_setEl (x := ⟨x.c, p, h, x.l⟩) (x' := ⟨x.c, t, h, x.l⟩) (hgl _) (by simp [encT])]
                conv => lhs; rw [← hdl]
                rw [set_mid]
              have hs2 : ∀ (p h t : Int), AV.setEl (txs (dn ++ ⟨x.c, p, h, x.l⟩ :: rest)) (.lit (.int .i64 (n : Nat))) 2 [.lit (.int .i64 t)] = txs (dn ++ ⟨x.c, p, t, x.l⟩ :: rest) := fun p h t => by
                rw [lst_setEl (x := ⟨x.c, p, h, x.l⟩) (x' := ⟨x.c, p, t, x.l⟩) (hgl _) (by simp [encT])]
                conv => lhs; rw [← hdl]
                rw [set_mid]
              clear hgl hx hr hdr hK hb
              simp [hn]
              refine loop_nat (σ := Unit) (x.l - x.h - slack).toNat (fun k _ => [txs (dn ++ ⟨x.c, x.p + (k : Int), x.h + (k : Int), x.l⟩ :: rest)]) (fun k _ => True) () (by simp) trivial ?_ ?_
              · rintro k _ K' hk _ hK'
                have hw3 : IntKind.i64.wrap (x.l - (x.h + (k : Int))) = x.l - (x.h + (k : Int)) := wrap64 (by omega) (by omega)
                have hw4 : IntKind.i64.wrap (x.p + (k : Int) + 1) = x.p + ((k : Int) + 1) := by rw [wrap64 (by omega) (by omega)]; omega
                have hw5 : IntKind.i64.wrap (x.h + (k : Int) + 1) = x.h + ((k : Int) + 1) := by rw [wrap64 (by omega) (by omega)]; omega
                have hgt : slack < x.l - (x.h + (k : Int)) := by omega
                have hK3 := hK' [txs (dn ++ ⟨x.c, x.p + ((k : Int) + 1), x.h + ((k : Int) + 1), x.l⟩ :: rest)] () (by simp) trivial
                simp [hdl, hat1, hat2, hat3, hs1, hs2, hw3, hw4, hw5, hgt]
                exact ⟨by omega, hK3⟩
              · rintro _ K' _
                have hle : ¬ slack < x.l - (x.h + (((x.l - x.h - slack).toNat : Nat) : Int)) := by omega
                have hw3 : IntKind.i64.wrap (x.l - (x.h + (((x.l - x.h - slack).toNat : Nat) : Int))) = x.l - (x.h + (((x.l - x.h - slack).toNat : Nat) : Int)) := wrap64 (by omega) (by omega)
                have hlt : lateT slack x = ⟨x.c, x.p + (((x.l - x.h - slack).toNat : Nat) : Int), x.h + (((x.l - x.h - slack).toNat : Nat) : Int), x.l⟩ := by
                  unfold lateT
                  split
                  · rename_i q5
                    rw [show (((x.l - x.h - slack).toNat : Nat) : Int) = x.l - x.h - slack by omega]
                  · rename_i q5
                    rw [show (((x.l - x.h - slack).toNat : Nat) : Int) = 0 by omega]
                    simp
                rw [hlt] at hK2
                generalize (((x.l - x.h - slack).toNat : Nat) : Int) = N at *
                simp [hdl, hat1, hat2, hat3, hw3, hle, hw2]
                exact ⟨by omega, hK2⟩
            · rintro _ K _
              simp
              have hfin := eqt_fn (S.map (lateT slack)) (S.map (lateT slack)) (by unfold maxLen; simp; omega)
              rw [decide_eq_true rfl] at hfin
              exact hfin
  · have hq := hE1 h0
    have hl := (hL1 (by rw [hq]; exact h0)).trans hq
    rw [queV_err hq h0, latV_err hl h0]
    simp [h0]
    exact ⟨_, hnil, by simp [h0]⟩
theorem arg_sds {x : AV} (h : ArgOk Try.prog 66 x) : ∃ l, x = sds l ∧ l.length ≤ maxLen := by
  obtain ⟨l, e, h1, _⟩ := c_lst (P := Try.prog) (encA := encD) (Q := fun _ => True) (tys := [9, 3]) (s := 2) (e := 134) (by kernel_rfl) (by kernel_rfl) (by kernel_rfl) (fun y hy hc => by
    obtain ⟨a, b, rfl⟩ := lst2 hy
    obtain ⟨s1, e1, _⟩ := c_str (by kernel_rfl) (hc 0 9 rfl)
    obtain ⟨s2, e2, _⟩ := c_int (by kernel_rfl) (hc 1 3 rfl)
    simp at e1 e2
    exact ⟨⟨s1, s2⟩, by rw [e1, e2]; rfl, trivial⟩) (arg_cell (by kernel_rfl) h)
  exact ⟨l, e, h1⟩
theorem arg_aks {x : AV} (h : ArgOk Try.prog 67 x) : ∃ l, x = aks l ∧ l.length ≤ maxLen := by
  obtain ⟨l, e, h1, _⟩ := c_lst (P := Try.prog) (encA := encK) (Q := fun _ => True) (tys := [9, 9, 3]) (s := 3) (e := 136) (by kernel_rfl) (by kernel_rfl) (by kernel_rfl) (fun y hy hc => by
    obtain ⟨a, b, c, rfl⟩ := lst3 hy
    obtain ⟨s1, e1, _⟩ := c_str (by kernel_rfl) (hc 0 9 rfl)
    obtain ⟨s2, e2, _⟩ := c_str (by kernel_rfl) (hc 1 9 rfl)
    obtain ⟨s3, e3, _⟩ := c_int (by kernel_rfl) (hc 2 3 rfl)
    simp at e1 e2 e3
    exact ⟨⟨s1, s2, s3⟩, by rw [e1, e2, e3]; rfl, trivial⟩) (arg_cell (by kernel_rfl) h)
  exact ⟨l, e, h1⟩
theorem taxiQueues_all (xs : List AV) (h1 : xs.length = 4) (h2 : ∀ i, i < 4 → ArgOk Try.prog ([66, 67, 3, 3].getD i 0) (xs.getD i default)) : Fn Try.prog 7 xs .sc (.bool true) := by
  obtain ⟨a, b, c, d, rfl⟩ := lst4 h1
  obtain ⟨l, e1, _⟩ := arg_sds (h2 0 (by omega))
  obtain ⟨k, e2, _⟩ := arg_aks (h2 1 (by omega))
  obtain ⟨g, e3, _⟩ := arg_intT (h2 2 (by omega))
  obtain ⟨t, e4, _⟩ := arg_intT (h2 3 (by omega))
  simp at e1 e2 e3 e4
  subst e1 e2 e3 e4
  exact tqueues_fn l k g t
end Go.Proofs.Ytlhhdonpoglfkaa
