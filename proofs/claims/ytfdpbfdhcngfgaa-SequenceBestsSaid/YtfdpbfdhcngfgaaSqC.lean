/- sequences: Best. -/
import Derived.Test.YtfdpbfdhcngfgaaSqB
namespace Go.Proofs.Ytfdpbfdhcngfgaa
open Go.RowKit
set_option linter.unusedVariables false
set_option linter.unusedSimpArgs false
set_option maxRecDepth 100000
noncomputable def bV (l : List Ar) (T : Nat → Int) (most : Int) : AV :=
  if arrE l ≠ 0 then .tup [.sl 1 [], .sl 1 [], .int (arrE l)] else if tabErr T ≠ 0 then .tup [.sl 1 [], .sl 1 [], .int (tabErr T)] else if most < 0 ∨ most > 8 then .tup [.sl 1 [], .sl 1 [], .int 4] else if l = [] then .tup [.sl 1 [], .sl 1 [], .int 0] else
  match bst l T most with
  | none => .tup [.sl 1 [], .sl 1 [], .int 8]
  | some p => .tup [nts p, ints (tms (zP l T p)), .int 0]
theorem ev_at {os : List (List Int)} {pre rest : List (Nat × List AV)} {p : Nat × List AV} (h : evs os = pre ++ p :: rest) : ∃ o, os[pre.length]? = some o ∧ p = (0, [ints o]) := by
  have h1 : (evs os)[pre.length]? = some p := by rw [h]; simp
  unfold evs at h1
  rw [List.getElem?_map] at h1
  cases q : os[pre.length]? with
  | none => rw [q] at h1; cases h1
  | some o => rw [q] at h1; injection h1 with h1; exact ⟨o, rfl, h1.symm⟩
/-- The visits of all these orders. -/
theorem vis_of {P : Program} {f : FuncId} {xs : List AV} {i : Nat} {ys0 : List AV} {body : List AV → List AV → (List AV → Prop) → Prop} {K : List AV → Prop} {σ : Type} (os : List (List Int)) (hv : Vi P f xs [1] (evs os)) (enc : σ → List AV) (step : σ → List Int → σ) (Good : σ → Prop) (s0 : σ) (h0 : ys0 = enc s0) (hg0 : Good s0)
    (hstep : ∀ o s (K' : List AV → Prop), o ∈ os → Good s → (∀ zs, zs = enc (step s o) → K' zs) → body [ints o] (enc s) K') (hgood : ∀ o s, o ∈ os → Good s → Good (step s o))
    (hend : Good (os.foldl step s0) → K (enc (os.foldl step s0))) : fVis P f xs [1] i ys0 [body] K := by
  have hg : ∀ n, n ≤ os.length → Good ((os.take n).foldl step s0) := by
    intro n
    induction n with
    | zero => intro _; simpa using hg0
    | succ n ih =>
      intro hn
      rw [take_snoc (List.getElem?_eq_getElem (show n < os.length by omega)), List.foldl_append]
      exact hgood _ _ (List.getElem_mem _) (ih (by omega))
  refine ⟨evs os, hv, fun pre ys => ys = enc ((os.take pre.length).foldl step s0), by simpa using h0, ?_, ?_⟩
  · rintro pre p rest ys hev _ rfl
    obtain ⟨o, ho, rfl⟩ := ev_at hev
    refine hstep o _ _ (List.mem_of_getElem? ho) (hg _ (Nat.le_of_lt (List.getElem?_eq_some_iff.1 ho).1)) fun zs hz => ?_
    show zs = _
    rw [hz, List.length_append, List.length_singleton, take_snoc ho, List.foldl_append]; rfl
  · rintro ys _ rfl
    have : (evs os).length = os.length := by simp [evs]
    rw [this, List.take_length]
    have := hg os.length (Nat.le_refl _)
    rw [List.take_length] at this
    exact hend this
theorem emp : (AV.sl 1 []).isEmp := rfl
theorem best_fn (l : List Ar) (T : Nat → Int) (most : Int) : Fn Try.prog 17 [ars l, tabA T, .int most] (.tup [.p, .p, .sc]) (bV l T most) := by
  refine fn_run mixed 3 (Γ := SqF.Γ) (ann := SqF.ann) Try.func17 rfl Try.call17 ((SqF.best_form _ _ _ _).mpr ?_)
  simp only [cels]
  have e1 : Ent Try.prog 33 := Try.call33
  have e2 : Ent Try.prog 34 := Try.call34
  refine ⟨by simp, ⟨_, rfl, rfl⟩, by simp, _, natural_fn l, ?_⟩
  unfold natV
  by_cases h1 : arrE l = 0
  · have g := goodA h1
    have hll := g.len
    simp [h1]
    refine ⟨_, wcheck_fn T, ?_⟩
    by_cases h2 : tabErr T = 0
    · simp [h2]
      have hV0 : bV l T most = if most < 0 ∨ most > 8 then .tup [.sl 1 [], .sl 1 [], .int 4] else if l = [] then .tup [.sl 1 [], .sl 1 [], .int 0] else
          match bst l T most with
          | none => .tup [.sl 1 [], .sl 1 [], .int 8]
          | some p => .tup [nts p, ints (tms (zP l T p)), .int 0] := by
        unfold bV; rw [if_neg (by simp [h1]), if_neg (by simp [h2])]
      obtain ⟨V, hV⟩ : ∃ V, V = bV l T most := ⟨_, rfl⟩
      rw [← hV] at hV0 ⊢
      refine ⟨fun q => ⟨q, ?_⟩, fun q => ⟨q, fun q2 => ?_, fun q2 => ⟨fun q3 => ?_, fun q3 => ⟨e1, e2, ?_⟩⟩⟩⟩
      · rw [hV0, if_pos (.inl q)]; exact ⟨emp, rfl⟩
      · rw [hV0, if_pos (.inr q2)]; exact ⟨emp, rfl⟩
      · rw [hV0, if_neg (by omega), if_pos (by simpa using q3)]; exact ⟨emp, rfl⟩
      rw [if_neg (by omega), if_neg (by simpa using q3)] at hV0
      have hn0 : 0 < l.length := by have : l ≠ [] := by simpa using q3
                                    exact List.length_pos_iff.2 this
      refine vis_of (ords l.length l.length []) (vi_nil (orders_vi l.length (by omega) l.length [] (by simp))) (enc4 l T) (bestS l T most) (fun st => ∀ p, st = some p → GoodP l T p) none rfl (by simp) ?_ (fun o st ho hs => bestS_good hs (ords_all ho)) ?_
      · intro o st K ho hst hK
        have hoo := ords_all ho
        obtain ⟨eo, hperm⟩ := okO_nts hoo
        obtain ⟨p, hp⟩ : ∃ p, p = nat o := ⟨_, rfl⟩
        rw [← hp] at eo hperm
        have hm : ∀ i ∈ p, i < l.length := fun i hi => List.mem_range.1 (hperm.mem_iff.1 hi)
        have hlen : p.length = l.length := by rw [hperm.length_eq, List.length_range]
        have ht := times1_fn g h2 hm (by omega)
        have hs := shift1_fn g hm (by omega)
        rw [← eo]
        intro Y
        refine ⟨_, ht, ?_⟩
        unfold tmV
        unfold bestS at hK
        rw [← hp] at hK
        change ∀ zs, zs = enc4 l T (if okB l T most p = true then _ else st) → K zs at hK
        rw [show zl l T [] p = zP l T p from rfl]
        have hsame : K (enc4 l T st) → K [(enc4 l T st)[0]?.getD default, (enc4 l T st)[1]?.getD default, (enc4 l T st)[2]?.getD default, (enc4 l T st)[3]?.getD default] := fun h => by
          cases st <;> exact h
        by_cases hf : fitz l (zP l T p) = true
        · rw [if_pos hf]
          have hbd := zP_bd g h2 hm hf
          have hZl := zP_len l T p
          have hZf := zP_fst l T p
          have hE : eP l T p = endG (zP l T p) 0 := rfl
          have hD : dP l T p = sumG l (zP l T p) 0 := rfl
          have htl : (tms (zP l T p)).length = l.length := by unfold tms; rw [List.length_map, hZl, hlen]
          have hlast : ∃ z, (zP l T p).getLast? = some z ∧ (tms (zP l T p))[l.length - 1]? = some z.2 := by
            have hlt : l.length - 1 < (zP l T p).length := by omega
            refine ⟨(zP l T p)[l.length - 1], ?_, ?_⟩
            · rw [List.getLast?_eq_getElem?, hZl, hlen, List.getElem?_eq_getElem hlt]
            · unfold tms; rw [List.getElem?_map, List.getElem?_eq_getElem hlt]; rfl
          obtain ⟨zL, hzL, hzl2⟩ := hlast
          have hEz : eP l T p = zL.2 := by rw [hE]; exact endG_last _ _ _ hzL
          have hatL : AV.at (ints (tms (zP l T p))) (.lit (.int .i64 ((l.length - 1 : Nat) : Int))) 0 = .int (eP l T p) := by rw [lst_at hzl2, hEz]; rfl
          have hwL : IntKind.i64.wrap ((l.length : Int) - 1) = ((l.length - 1 : Nat) : Int) := by rw [wrap64 (by omega) (by omega)]; omega
          simp
          refine ⟨_, hs, ?_⟩
          simp
          rw [htl, hwL]
          have hno : most < shf l p → okB l T most p = false := fun q => by unfold okB; rw [hf]; simp; omega
          have hyes : shf l p ≤ most → okB l T most p = true := fun q => by unfold okB; rw [hf]; simp; omega
          refine ⟨fun q => hsame (hK _ (by rw [hno q]; rfl)), fun q => ⟨⟨by omega, by omega⟩, ?_⟩⟩
          rw [hyes q] at hK
          generalize hZ : zP l T p = Z at *
          refine loop_list (σ := Int) Z (fun k s => [.int s, .int (k : Nat)]) (fun k rest s => dP l T p = sumG l rest s ∧ -(200000 * (k : Int)) ≤ s ∧ s ≤ 200000 * k) 0 rfl ⟨hD, by omega, by omega⟩ ?_ ?_
          · rintro k z rest s K' hz hr hk ⟨hg', hs1, hs2⟩ hK'
            rw [sumG] at hg'
            obtain ⟨b1, b2, b3⟩ := hbd z (List.mem_of_getElem? hz)
            have hzt := g.at b1
            have hp1 : p[k]? = some z.1 := by
              have := congrArg (fun q : List Nat => q[k]?) hZf
              simpa [hz] using this.symm
            have hp2 : (tms Z)[k]? = some z.2 := by unfold tms; rw [List.getElem?_map, hz]; rfl
            have a1 : AV.at (nts p) (.lit (.int .i64 (k : Nat))) 0 = .int (z.1 : Nat) := nts_at hp1
            have a2 : AV.at (ints (tms Z)) (.lit (.int .i64 (k : Nat))) 0 = .int z.2 := by rw [lst_at hp2]; rfl
            have a3 : AV.at (ars l) (.lit (.int .i64 (z.1 : Nat))) 2 = .int (arA l z.1).t := by rw [lst_at (arA_at b1)]; rfl
            have w1 : IntKind.i64.wrap (z.2 - (arA l z.1).t) = z.2 - (arA l z.1).t := wrap64 (by omega) (by omega)
            have w2 : IntKind.i64.wrap (s + (z.2 - (arA l z.1).t)) = s + (z.2 - (arA l z.1).t) := wrap64 (by omega) (by omega)
            have w3 : IntKind.i64.wrap ((k : Int) + 1) = (k : Int) + 1 := wrap64 (by omega) (by omega)
            have hK2 : K' [.int (s + (z.2 - (arA l z.1).t)), .int ((k : Nat) + 1)] := hK' _ _ (by simp) ⟨hg', by omega, by omega⟩
            clear hK' hK hatL
            simp [a1, a2, a3, w1, w2, w3, b1, htl, show k < p.length by omega, show k < l.length by omega]
            exact hK2
          · rintro s K' ⟨hg', hs1, hs2⟩
            rw [sumG] at hg'
            rw [← hg', hZl]
            cases st with
            | none =>
              have hK1 : K [nts p, ints (tms Z), .int (eP l T p), .int (dP l T p)] := hK _ (by rw [← hZ]; rfl)
              clear hK
              simp only [enc4]
              simp [hatL]
              exact hK1
            | some qb =>
              have hK1 : lessB l T p qb → K [nts p, ints (tms Z), .int (eP l T p), .int (dP l T p)] := fun q => hK _ (by rw [← hZ]; simp only [enc4, if_true, if_pos q])
              have hK2 : ¬ lessB l T p qb → K [nts qb, ints (tms (zP l T qb)), .int (eP l T qb), .int (dP l T qb)] := fun q => hK _ (by simp only [enc4, if_true, if_neg q])
              clear hK
              unfold lessB at hK1 hK2
              obtain ⟨hp1, hp2⟩ := hst qb rfl
              have hne : qb ≠ [] := fun e => by
                have hlen := hp1.length_eq
                rw [e] at hlen; simp at hlen; omega
              simp only [enc4]
              simp [hatL]
              refine ⟨fun q => absurd q hne, fun q => ⟨q, hK1 (.inl q)⟩, fun q => ⟨fun q2 => ⟨q2, q, fun q3 => hK1 (.inr ⟨q2, q3⟩), fun q3 => hK2 (by omega)⟩, fun q2 => ⟨q2, q, hK2 (by omega)⟩⟩⟩
        · rw [if_neg hf]
          have hno : okB l T most p = false := by
            unfold okB; rw [Bool.eq_false_iff.2 hf]; rfl
          rw [hno] at hK
          simp
          exact hsame (hK _ rfl)
      · intro hgd
        rw [hV0]
        change fNil _ _ _
        unfold bst
        cases hb : (ords l.length l.length []).foldl (bestS l T most) none with
        | none => simp [enc4]; exact emp
        | some p =>
          obtain ⟨hp1, hp2⟩ := hgd p hb
          simp only [enc4]
          refine .inl ⟨⟨_, _, rfl⟩, fun q => ?_, ?_⟩
          · exfalso
            have : p = [] := by simpa [lst] using q
            have hlen := hp1.length_eq
            rw [this] at hlen; simp at hlen; omega
          · simp
    · simp [h2]
      unfold bV
      rw [if_neg (by simp [h1]), if_pos h2]
      exact ⟨emp, rfl⟩
  · simp [h1]
    unfold bV
    rw [if_pos h1]
    exact ⟨emp, rfl⟩
def boV (l : List Ar) (T : Nat → Int) (most : Int) : AV := match bst l T most with
  | none => .tup [.lit (.slice none 0 0), .bool false]
  | some p => .tup [nts p, .bool true]
theorem eP_nn {l : List Ar} (g : GoodA l) {T : Nat → Int} (hT : tabErr T = 0) {p : List Nat} (hp : GoodP l T p) : 0 ≤ eP l T p := by
  have hm : ∀ i ∈ p, i < l.length := fun i hi => List.mem_range.1 (hp.1.mem_iff.1 hi)
  exact endG_ge _ _ (Int.le_refl _) fun z hz => (zP_bd g hT hm hp.2 z hz).2.1
theorem border_fn {l : List Ar} (g : GoodA l) {T : Nat → Int} (h2 : tabErr T = 0) (most : Int) : Fn Try.prog 18 [ars l, tabA T, .int most] (.tup [.p, .sc]) (boV l T most) := by
  refine fn_run mixed 3 (Γ := SqF.Γ) (ann := SqF.ann) Try.func18 rfl Try.call18 ((SqF.border_form _ _ _ _).mpr ?_)
  simp only [cels]
  have e1 : Ent Try.prog 35 := Try.call35
  have e2 : Ent Try.prog 36 := Try.call36
  have hll := g.len
  refine ⟨by simp, ⟨_, rfl, rfl⟩, by simp, by simp, e1, ?_⟩
  obtain ⟨V, hV⟩ : ∃ V, V = boV l T most := ⟨_, rfl⟩
  rw [← hV]
  simp
  refine ⟨e2, ?_⟩
  refine vis_of (ords l.length l.length []) (vi_nil (rorders_vi l.length (by omega) l.length [] (by simp))) (enc3 l T) (bestS l T most) (fun st => ∀ p, st = some p → GoodP l T p) none rfl (by simp) ?_ (fun o st ho hs => bestS_good hs (ords_all ho)) ?_
  · intro o st K ho hst hK
    have hoo := ords_all ho
    obtain ⟨eo, hperm⟩ := okO_nts hoo
    obtain ⟨p, hp⟩ : ∃ p, p = nat o := ⟨_, rfl⟩
    rw [← hp] at eo hperm
    have hm : ∀ i ∈ p, i < l.length := fun i hi => List.mem_range.1 (hperm.mem_iff.1 hi)
    have hlen : p.length = l.length := by rw [hperm.length_eq, List.length_range]
    have ht := land_fn g h2 hm (by omega)
    have hs := shifted_fn (l := l) (by omega) hm (by omega)
    rw [← eo]
    intro Y
    refine ⟨_, ht, ?_⟩
    unfold ldV
    unfold bestS at hK
    rw [← hp] at hK
    change ∀ zs, zs = enc3 l T (if okB l T most p = true then _ else st) → K zs at hK
    rw [show zl l T [] p = zP l T p from rfl]
    have hsame : K (enc3 l T st) → K [(enc3 l T st)[0]?.getD default, (enc3 l T st)[1]?.getD default, (enc3 l T st)[2]?.getD default] := fun h => by
      cases st <;> exact h
    by_cases hf : fitz l (zP l T p) = true
    · rw [hf]
      have hbd := zP_bd g h2 hm hf
      have hZl := zP_len l T p
      have hZf := zP_fst l T p
      have hE : eP l T p = endG (zP l T p) 0 := rfl
      have hD : dP l T p = sumG l (zP l T p) 0 := rfl
      have hEn := eP_nn g h2 (p := p) ⟨hperm, hf⟩
      have htl : (tms (zP l T p)).length = l.length := by unfold tms; rw [List.length_map, hZl, hlen]
      simp
      refine ⟨_, hs, ?_⟩
      simp
      have hno : most < shf l p → okB l T most p = false := fun q => by unfold okB; rw [hf]; simp; omega
      have hyes : shf l p ≤ most → okB l T most p = true := fun q => by unfold okB; rw [hf]; simp; omega
      refine ⟨fun q => hsame (hK _ (by rw [hno q]; rfl)), fun q => ?_⟩
      rw [hyes q] at hK
      generalize hZ : zP l T p = Z at *
      refine loop_list (σ := Int × Int) Z (fun k s => [.int s.1, .int s.2, .int (k : Nat)]) (fun k rest s => dP l T p = sumG l rest s.1 ∧ eP l T p = endG rest s.2 ∧ -(200000 * (k : Int)) ≤ s.1 ∧ s.1 ≤ 200000 * k) (0, 0) rfl ⟨hD, hE, by simp, by simp⟩ ?_ ?_
      · rintro k z rest ⟨s, e⟩ K' hz hr hk ⟨hg', hge, hs1, hs2⟩ hK'
        rw [sumG] at hg'
        rw [endG] at hge
        simp only at hs1 hs2 hg'
        obtain ⟨b1, b2, b3⟩ := hbd z (List.mem_of_getElem? hz)
        have hzt := g.at b1
        have hp1 : p[k]? = some z.1 := by
          have := congrArg (fun q : List Nat => q[k]?) hZf
          simpa [hz] using this.symm
        have hp2 : (tms Z)[k]? = some z.2 := by unfold tms; rw [List.getElem?_map, hz]; rfl
        have a1 : AV.at (nts p) (.lit (.int .i64 (k : Nat))) 0 = .int (z.1 : Nat) := nts_at hp1
        have a2 : AV.at (ints (tms Z)) (.lit (.int .i64 (k : Nat))) 0 = .int z.2 := by rw [lst_at hp2]; rfl
        have a3 : AV.at (ars l) (.lit (.int .i64 (z.1 : Nat))) 2 = .int (arA l z.1).t := by rw [lst_at (arA_at b1)]; rfl
        have w1 : IntKind.i64.wrap (z.2 - (arA l z.1).t) = z.2 - (arA l z.1).t := wrap64 (by omega) (by omega)
        have w2 : IntKind.i64.wrap (s + (z.2 - (arA l z.1).t)) = s + (z.2 - (arA l z.1).t) := wrap64 (by omega) (by omega)
        have w3 : IntKind.i64.wrap ((k : Int) + 1) = (k : Int) + 1 := wrap64 (by omega) (by omega)
        have hK2 : K' [.int (s + (z.2 - (arA l z.1).t)), .int z.2, .int ((k : Nat) + 1)] := hK' _ (s + (z.2 - (arA l z.1).t), z.2) (by simp) ⟨hg', hge, by simp only; omega, by simp only; omega⟩
        clear hK' hK
        simp [a1, a2, a3, w1, w2, w3, b1, htl, show k < p.length by omega, show k < l.length by omega]
        exact hK2
      · rintro ⟨s, e⟩ K' ⟨hg', hge, hs1, hs2⟩
        rw [sumG] at hg'
        rw [endG] at hge
        simp only at hg' hge
        rw [← hg', ← hge, hZl]
        have hroom : AV.room (.sl 1 []) (nts p) 8 := by unfold AV.room; rw [lst_els]; simp [AV.els]; omega
        have happ : AV.app 1 (.sl 1 []) (nts p) = nts p := by rw [nts_ints]; exact app_ints _
        cases st with
        | none =>
          have hK1 : K [nts p, .int (eP l T p), .int (dP l T p)] := hK _ rfl
          clear hK
          simp only [enc3]
          simp [happ, hroom]
          exact hK1
        | some qb =>
          have hK1 : lessB l T p qb → K [nts p, .int (eP l T p), .int (dP l T p)] := fun q => hK _ (by simp only [enc3, if_true, if_pos q])
          have hK2 : ¬ lessB l T p qb → K [nts qb, .int (eP l T qb), .int (dP l T qb)] := fun q => hK _ (by simp only [enc3, if_true, if_neg q])
          clear hK
          unfold lessB at hK1 hK2
          have hqn := eP_nn g h2 (hst qb rfl)
          have hqn' : ¬ eP l T qb < 0 := by omega
          simp only [enc3]
          simp [happ, hroom, hqn']
          exact ⟨fun q => ⟨q, hK1 (.inl q)⟩, fun q => ⟨fun q2 => ⟨q2, q, fun q3 => hK1 (.inr ⟨q2, q3⟩), fun q3 => hK2 (by omega)⟩, fun q2 => ⟨q2, q, hK2 (by omega)⟩⟩⟩
    · have hno : okB l T most p = false := by
        unfold okB; rw [Bool.eq_false_iff.2 hf]; rfl
      rw [hno] at hK
      rw [Bool.eq_false_iff.2 hf]
      simp
      exact hsame (hK _ rfl)
  · intro hgd
    unfold boV bst at hV
    cases hb : (ords l.length l.length []).foldl (bestS l T most) none with
    | none => 
      rw [hb] at hV
      rw [hV]
      simp [enc3]
    | some p =>
      rw [hb] at hV
      rw [hV]
      have hqn := eP_nn g h2 (hgd p hb)
      simp only [enc3]
      simp
      exact hqn
end Go.Proofs.Ytfdpbfdhcngfgaa
