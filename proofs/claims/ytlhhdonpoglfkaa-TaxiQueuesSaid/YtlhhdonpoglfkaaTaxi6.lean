/- The queue by always taking the first. -/
import Derived.Test.YtlhhdonpoglfkaaTaxi5
namespace Go.Proofs.Ytlhhdonpoglfkaa
open Go.RowKit
set_option linter.unusedVariables false
set_option linter.unusedSimpArgs false
set_option maxRecDepth 100000
theorem hold_fn {l : List Sd} {d : List Ak} (g : Good l d) (x : Ak) (hx : x ∈ d) : Fn Try.prog 101 [.agg [.string x.c, .string x.s, .int x.r], .ref [sds l]] .sc (.int (mkT l x).h) := by
  refine fn_run mixed 3 (Γ := TaxiF.Γ) (ann := TaxiF.ann) Try.func101 rfl Try.call101 ((TaxiF.hold_form _ _ _).mpr ?_)
  obtain ⟨s1, s2⟩ := g.st x hx
  have hr2 := g.r x hx
  have ht2 := g.tm x hx
  obtain ⟨sd, hsd⟩ : ∃ sd, l[(stI l x.s).toNat]? = some sd := ⟨_, List.getElem?_eq_getElem (by omega)⟩
  have htm : tmeI l x.s = sd.t := by unfold tmeI; rw [hsd]; rfl
  have hw3 : IntKind.i64.wrap (x.r + sd.t) = x.r + sd.t := by rw [htm] at ht2; exact wrap64 (by omega) (by omega)
  have hat : AV.at (sds l) (.lit (.int .i64 (stI l x.s))) 1 = .int sd.t := by rw [lst_atI s1 hsd]; rfl
  have gl := g.len
  simp
  refine ⟨_, standat_fn l x.s (by omega), ?_⟩
  simp [s1, s2, hat, hw3, mkT, htm]
/-- When the runway is free. -/
def frT (gap : Int) : Option Int → Int
  | none => 0
  | some q => q + gap
theorem lv_fr {gap : Int} {p : Option Int} {m : Tx} (h : 0 ≤ m.h) : lvT gap p m = if m.h < frT gap p then frT gap p else m.h := by
  cases p with
  | none => show m.h = _; rw [if_neg (by show ¬ m.h < 0; omega)]
  | some q =>
    show (if q + gap > m.h then q + gap else m.h) = if m.h < q + gap then q + gap else m.h
    by_cases q1 : m.h < q + gap
    · simp [q1]
    · simp [q1]
theorem aks_cut (A B : List Ak) : AV.app 3 (AV.app 3 (.sl 3 []) (aks A)) (aks B) = aks (A ++ B) := by simp [lst, AV.app, AV.els]
theorem queued_fn {l : List Sd} {d : List Ak} (g : Good l d) {gap : Int} (hg1 : 0 ≤ gap) (hg2 : gap ≤ 1800) : Fn Try.prog 45 [sds l, aks d, .int gap] (.row 76 4 true) (txs (queL l d gap)) := by
  refine fn_run mixed 3 (Γ := TaxiF.Γ) (ann := TaxiF.ann) Try.func45 rfl Try.call45 ((TaxiF.queued_form _ _ _ _).mpr ?_)
  have gd := g.lend
  have hS := srtT_perm (d.map (mkT l))
  have hSs := srtT_sorted (d.map (mkT l))
  have hql : queL l d gap = passT gap none (srtT (d.map (mkT l))) := rfl
  have hSl : (srtT (d.map (mkT l))).length = d.length := by rw [hS.length_eq]; simp
  generalize srtT (d.map (mkT l)) = S at *
  have hroom0 : AV.room (.sl 3 []) (aks d) 40 := by unfold AV.room; rw [lst_els]; simp [AV.els]; omega
  have happ0 : AV.app 3 (.sl 3 []) (aks d) = aks d := by simp [lst, AV.app, AV.els]
  simp [hroom0, happ0]
  refine loop_list (σ := List Ak × List Tx × Option Int) S (fun n s => [aks s.1, .int (frT gap s.2.2), txs s.2.1]) (fun n rest s => (s.1.map (mkT l)).Perm rest ∧ (∀ x ∈ s.1, x ∈ d) ∧ queL l d gap = s.2.1 ++ passT gap s.2.2 rest ∧ s.2.1.length = n ∧ 0 ≤ frT gap s.2.2 ∧ frT gap s.2.2 ≤ 300000 + 2000 * (n : Int)) (d, [], none) (by simp [frT]) ⟨hS.symm, fun _ h => h, by simp [hql], rfl, by simp [frT], by simp [frT]⟩ ?_ ?_
  · rintro n y rest ⟨left, out, p⟩ K hy hr hn ⟨hp, hin, hq, hol, hf0, hf1⟩ hK
    simp only at hp hin hq hol hf0 hf1
    have hll : left.length = rest.length + 1 := by have := hp.length_eq; simpa using this
    have hrl : rest.length + (n + 1) = S.length := by rw [← hr, List.length_drop]; omega
    have hll2 : left.length ≤ 16 := by omega
    have hpos : 0 < left.length := by omega
    have hw0 : ∀ k : Nat, k < left.length → IntKind.i64.wrap ((k : Int) + 1) = (k : Int) + 1 := fun k hk => wrap64 (by omega) (by omega)
    have hne : left ≠ [] := List.length_pos_iff.1 hpos
    simp [hpos, hne]
    refine loop_list (σ := Nat) left (fun n b => [.int (b : Nat), .int (n : Nat)]) (fun n rest' b => b < left.length ∧ ∃ xb, left[b]? = some xb ∧ ∀ k x, k < n → left[k]? = some x → ¬ tlt (mkT l x) (mkT l xb)) 0 rfl ⟨hpos, left[0], List.getElem?_eq_getElem hpos, fun k x hk => absurd hk (by omega)⟩ ?_ ?_
    · rintro i x rest' b K' hx hr' hi ⟨hb, xb, hxb, hmin⟩ hK'
      have hf1 := hold_fn g x (hin x (List.mem_of_getElem? hx))
      have hf2 := hold_fn g xb (hin xb (List.mem_of_getElem? hxb))
      have gY : tlt (mkT l x) (mkT l xb) → K' [.int (i : Nat), .int ((i : Nat) + 1)] := fun q => hK' _ i (by simp) ⟨hi, x, hx, fun k z hk hz hlt => by
        by_cases hki : k = i
        · subst hki; rw [hx] at hz; injection hz with hz; subst hz; exact tlt_irr _ hlt
        · exact hmin k z (by omega) hz (tlt_tr hlt q)⟩
      have gN : ¬ tlt (mkT l x) (mkT l xb) → K' [.int (b : Nat), .int ((i : Nat) + 1)] := fun q => hK' _ b (by simp) ⟨hb, xb, hxb, fun k z hk hz => by
        by_cases hki : k = i
        · subst hki; rw [hx] at hz; injection hz with hz; subst hz; exact q
        · exact hmin k z (by omega) hz⟩
      clear hK' hmin
      have hw2 := hw0 i hi
      have hat0 : AV.at (aks left) (.lit (.int .i64 (b : Nat))) 0 = .string xb.c := by rw [lst_at hxb]; rfl
      have hc1 : (mkT l x).c = x.c := rfl
      have hc2 : (mkT l xb).c = xb.c := rfl
      unfold tlt at gY gN
      rw [hc1, hc2] at gY gN
      simp [hi, hb, lst_atAgg hx, lst_atAgg hxb, encK, hat0, hw2]
      (repeat' (first | exact trivial | (with_reducible intro hw; (try simp (disch := omega) only [wrap64] at hw); first | (exfalso; omega; done) | skip) | (with_reducible refine And.intro ?_ ?_) | (refine ⟨_, hf1, ?_⟩; (try simp [hw2, hat0]); (try simp (disch := omega) only [wrap64])) | (refine ⟨_, hf2, ?_⟩; (try simp [hw2, hat0]); (try simp (disch := omega) only [wrap64])) | omega | assumption))
      all_goals first
        | exact gY (.inl (by omega))
        | exact gY (.inr ⟨by omega, by assumption⟩)
        | exact gN (fun q => by rcases q with q | ⟨q1, q2⟩ <;> first | omega | exact absurd q2 (by assumption) | exact absurd q2 (List.not_lt.2 (by assumption)))
    · rintro b K' ⟨hb, xb, hxb, hmin⟩
      have hxm : xb ∈ left := List.mem_of_getElem? hxb
      have hmin' : ∀ z ∈ left, ¬ tlt (mkT l z) (mkT l xb) := fun z hz => by
        obtain ⟨k, hk, e⟩ := List.mem_iff_getElem.1 hz
        exact hmin k z hk (by rw [List.getElem?_eq_getElem hk, e])
      have hsub : ∀ z ∈ y :: rest, z ∈ d.map (mkT l) := fun z hz => by
        obtain ⟨q, hq1, rfl⟩ := List.mem_map.1 (hp.mem_iff.2 hz)
        exact List.mem_map.2 ⟨q, hin q hq1, rfl⟩
      have hyr : (y :: rest).Pairwise (fun a b => ¬ tlt b a) := by
        have : S.drop n = y :: rest := by rw [List.drop_eq_getElem_cons hn, hr]; congr 1; exact (List.getElem?_eq_some_iff.1 hy).2
        rw [← this]; exact hSs.drop
      have hym : mkT l xb = y := by
        have hxy : mkT l xb ∈ y :: rest := hp.mem_iff.1 (List.mem_map.2 ⟨xb, hxm, rfl⟩)
        refine g.tot _ (hsub _ hxy) _ (hsub _ (by simp)) ?_ ?_
        · rcases List.mem_cons.1 hxy with e | e
          · rw [e]; exact tlt_irr _
          · exact (List.pairwise_cons.1 hyr).1 _ e
        · obtain ⟨z, hz, e⟩ := List.mem_map.1 (hp.mem_iff.2 (show y ∈ y :: rest by simp))
          rw [← e]; exact hmin' z hz
      have hcut : left = left.take b ++ xb :: left.drop (b + 1) := by
        have : left[b] = xb := (List.getElem?_eq_some_iff.1 hxb).2
        rw [← this, ← List.drop_eq_getElem_cons hb, List.take_append_drop]
      have hp' : ((left.take b ++ left.drop (b + 1)).map (mkT l)).Perm rest := by
        have h1 : (mkT l xb :: (left.take b ++ left.drop (b + 1)).map (mkT l)).Perm (y :: rest) := by
          refine List.Perm.trans ?_ hp
          conv => rhs; rw [hcut]
          rw [List.map_append, List.map_append, List.map_cons]
          exact List.perm_middle.symm
        rw [hym] at h1
        exact h1.cons_inv
      have hyb := g.bnd y (hsub y (by simp))
      have hc : y.c = xb.c := by rw [← hym]; rfl
      have hpp : y.p = xb.r := by rw [← hym]; rfl
      have hfh := hold_fn g xb (hin xb hxm)
      rw [hym] at hfh
      have hw1 := hw0 b hb
      have hroom1 : AV.room (.sl 3 []) (aks (left.take b)) 40 := by unfold AV.room; rw [lst_els]; simp [AV.els]; omega
      have hroom2 : ∀ A B : List Ak, A.length ≤ 16 → B.length ≤ 16 → AV.room (AV.app 3 (.sl 3 []) (aks A)) (aks B) 40 := fun A B h1 h2 => by unfold AV.room; simp [AV.app, AV.els, lst]; omega
      have hroom3 : ∀ q : List (List AV), q.length = 1 → AV.room (txs out) (.sl 4 q) 40 := fun q hq => by unfold AV.room; rw [lst_els]; simp [AV.els, hq]; omega
      have hlen : ((left.length : Nat) : Int).toNat = left.length := by omega
      have gF : ∀ t : Int, t = lvT gap p y → K [aks (left.take b ++ left.drop (b + 1)), .int (t + gap), txs (out ++ [⟨xb.c, xb.r, y.h, t⟩])] := fun t ht => by
        have htb : 0 ≤ t ∧ t ≤ 300000 + 2000 * (n : Int) := by
          rw [ht, lv_fr hyb.2.2.1]
          split <;> omega
        refine hK _ (left.take b ++ left.drop (b + 1), out ++ [⟨xb.c, xb.r, y.h, t⟩], some t) rfl ⟨hp', fun z hz => hin z ?_, ?_, by simp [hol], by simp only [frT]; omega, by simp only [frT]; omega⟩
        · rcases List.mem_append.1 hz with q | q
          · exact List.mem_of_mem_take q
          · exact List.mem_of_mem_drop q
        · rw [hq, passT, ← ht]
          simp only [leave, hc, hpp, List.append_assoc, List.singleton_append]
      clear hK hmin hmin'
      have gT : y.h < frT gap p → K [aks (left.take b ++ left.drop (b + 1)), .int (frT gap p + gap), txs (out ++ [⟨xb.c, xb.r, y.h, frT gap p⟩])] := fun q => gF _ (by rw [lv_fr hyb.2.2.1, if_pos q])
      have gE : ¬ y.h < frT gap p → K [aks (left.take b ++ left.drop (b + 1)), .int (y.h + gap), txs (out ++ [⟨xb.c, xb.r, y.h, y.h⟩])] := fun q => gF _ (by rw [lv_fr hyb.2.2.1, if_neg q])
      clear gF
      have hsn : ∀ h t : Int, AV.app 4 (txs out) (.sl 4 [[.lit (.string xb.c), .lit (.int .i64 xb.r), .lit (.int .i64 h), .lit (.int .i64 t)]]) = txs (out ++ [⟨xb.c, xb.r, h, t⟩]) := fun h t => txs_snoc out ⟨xb.c, xb.r, h, t⟩
      have hwf : IntKind.i64.wrap (frT gap p + gap) = frT gap p + gap := wrap64 (by omega) (by omega)
      have hwy : IntKind.i64.wrap (y.h + gap) = y.h + gap := wrap64 (by omega) (by omega)
      simp [hb, lst_atAgg hxb, encK, hw1, hroom1, hroom2, hlen]
      refine ⟨by omega, ⟨by omega, by omega⟩, hroom2 _ _ (by simp; omega) (by simp; omega), _, hfh, _, hfh, ?_⟩
      rw [show lst 3 encK (left.take b) = aks (left.take b) from rfl, show lst 3 encK (left.drop (b + 1)) = aks (left.drop (b + 1)) from rfl, aks_cut]
      simp [hwf, hwy]
      refine ⟨fun q => ⟨hroom3 _ rfl, ?_⟩, fun q => ⟨hroom3 _ rfl, ?_⟩⟩
      · rw [hsn]; exact gT q
      · rw [hsn]; exact gE (by omega)
  · rintro ⟨left, out, p⟩ K ⟨hp, _, hq, _⟩
    have hl0 : left = [] := by have := hp.length_eq; simpa using this
    simp only at hq
    simp [hl0, hq, passT]
    exact flat_txs _
end Go.Proofs.Ytlhhdonpoglfkaa
