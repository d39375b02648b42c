/- Texts of one proof, part 6: plain values, a run over them, contracts of functions. -/
import Derived.Test.YtaomlgfamnfcjaaM5
import Derived.Test.YtaomlgfamnfcjaaM4
/- joint resolutions: Best. -/
namespace Go.Proofs.Ytaomlgfamnfcjaa
open Go.RowKit
set_option linter.unusedVariables false
set_option linter.unusedSimpArgs false
set_option maxRecDepth 100000
set_option maxHeartbeats 2000000
/-- Options that pass. -/
structure GoodJ (l : List (List Jo)) : Prop where
  len : l.length ≤ 6
  pos : ∀ o ∈ l, 0 < o.length ∧ o.length ≤ 8
  opt : ∀ o ∈ l, ∀ x ∈ o, 0 ≤ x.c ∧ x.c ≤ 1000000 ∧ tE x.t = 0
  many : manyN l ≤ 5000
theorem optE_ok : ∀ {o : List Jo}, optE o = 0 → ∀ x ∈ o, 0 ≤ x.c ∧ x.c ≤ 1000000 ∧ tE x.t = 0
  | [], _, x, hx => by cases hx
  | y :: r, h, x, hx => by
    unfold optE at h
    split at h
    · cases h
    · split at h
      · contradiction
      · rename_i h1 h2
        rcases List.mem_cons.1 hx with rfl | hx
        · exact ⟨by omega, by omega, by omega⟩
        · exact optE_ok h x hx
theorem jcG_ok : ∀ (l : List (List Jo)) (n : Int), 0 < n → jcG n l = 0 → (∀ o ∈ l, 0 < o.length ∧ o.length ≤ 8) ∧ (∀ o ∈ l, ∀ x ∈ o, 0 ≤ x.c ∧ x.c ≤ 1000000 ∧ tE x.t = 0) ∧ (n ≤ 5000 → n * manyN l ≤ 5000)
  | [], n, hn, h => ⟨fun o ho => (by cases ho), fun o ho => (by cases ho), fun h => by simpa [manyN] using h⟩
  | o :: r, n, hn, h => by
    unfold jcG at h
    split at h
    · cases h
    · split at h
      · cases h
      · split at h
        · cases h
        · split at h
          · contradiction
          · rename_i h1 h2 h3 h4
            obtain ⟨a, b, c⟩ := jcG_ok r (n * o.length) (Int.mul_pos hn (by omega)) h
            refine ⟨fun p hp => ?_, fun p hp x hx => ?_, fun hn2 => ?_⟩
            · rcases List.mem_cons.1 hp with rfl | hp
              · omega
              · exact a p hp
            · rcases List.mem_cons.1 hp with rfl | hp
              · exact optE_ok (by omega) x hx
              · exact b p hp x hx
            · rw [manyN, ← Int.mul_assoc]
              exact c (by omega)
theorem goodJ {l : List (List Jo)} (h : jcE l = 0) : GoodJ l := by
  unfold jcE at h
  split at h
  · cases h
  · rename_i h1
    obtain ⟨a, b, c⟩ := jcG_ok l 1 (by omega) h
    exact ⟨by omega, a, b, by have := c (by omega); omega⟩
theorem cost_step {l : List (List Jo)} (g : GoodJ l) {c : List Int} (hv : ValC l c) {k : Nat} {z : Int} (hz : c[k]? = some z) : ∃ o x, l[k]? = some o ∧ o[z.toNat]? = some x ∧ 0 ≤ z ∧ z < o.length ∧ 0 ≤ x.c ∧ x.c ≤ 1000000 ∧ ∀ r, costN (l.drop k) (z :: r) = x.c + costN (l.drop (k + 1)) r := by
  have hk := (List.getElem?_eq_some_iff.1 hz).1
  have hkl : k < l.length := by have := hv.1; omega
  obtain ⟨o, ho⟩ : ∃ o, l[k]? = some o := ⟨_, List.getElem?_eq_getElem hkl⟩
  have hod : l.getD k [] = o := by rw [List.getD_eq_getElem?_getD, ho]; rfl
  obtain ⟨z1, z2⟩ := hv.2 k z hz
  rw [hod] at z2
  obtain ⟨x, hx⟩ : ∃ x, o[z.toNat]? = some x := ⟨_, List.getElem?_eq_getElem (by omega)⟩
  have hxc := g.opt o (List.mem_of_getElem? ho) x (List.mem_of_getElem? hx)
  have hdrop : l.drop k = o :: l.drop (k + 1) := by
    rw [List.drop_eq_getElem_cons hkl]
    congr 1
    exact Option.some.inj ((List.getElem?_eq_getElem hkl).symm.trans ho)
  refine ⟨o, x, ho, hx, z1, z2, hxc.1, hxc.2.1, fun r => ?_⟩
  rw [hdrop, costN, List.getD_eq_getElem?_getD, hx]; rfl
theorem costN_bd {l : List (List Jo)} (g : GoodJ l) {c : List Int} (hv : ValC l c) : 0 ≤ costN l c ∧ costN l c ≤ 6000000 := by
  have key : ∀ (n k : Nat), c.length - k = n → k ≤ c.length → 0 ≤ costN (l.drop k) (c.drop k) ∧ costN (l.drop k) (c.drop k) ≤ 1000000 * (c.length - k : Nat) := by
    intro n
    induction n with
    | zero =>
      intro k h1 h2
      have : c.drop k = [] := List.drop_eq_nil_of_le (by omega)
      rw [this]
      cases l.drop k <;> simp [costN] <;> omega
    | succ n ih =>
      intro k h1 h2
      obtain ⟨z, hz⟩ : ∃ z, c[k]? = some z := ⟨_, List.getElem?_eq_getElem (by omega)⟩
      obtain ⟨o, x, _, _, _, _, x1, x2, he⟩ := cost_step g hv hz
      have hd : c.drop k = z :: c.drop (k + 1) := by
        obtain ⟨hl, e⟩ := List.getElem?_eq_some_iff.1 hz
        rw [List.drop_eq_getElem_cons hl, e]
      rw [hd, he]
      have := ih (k + 1) (by omega) (by omega)
      omega
  have := key c.length 0 (by simp) (by omega)
  have h1 := hv.1
  have h2 := g.len
  simp at this
  omega
/-- What two visitors are handed. -/
theorem vis_two {P : Program} {f : FuncId} {xs : List AV} {i : Nat} {ys0 : List AV} {bodies : List (List AV → List AV → (List AV → Prop) → Prop)} {K : List AV → Prop} {σ : Type} (C : List (Nat × List Int)) (L : Mp) (hv : Vi P f xs [1, 2] (C.map (evC L))) (enc : σ → List AV) (step : σ → Nat × List Int → σ) (s0 : σ) (h0 : ys0 = enc s0)
    (hstep : ∀ p s (K' : List AV → Prop), p ∈ C → (∀ zs, zs = enc (step s p) → K' zs) → bodies.getD p.1 (fun _ _ _ => False) (evC L p).2 (enc s) K')
    (hend : K (enc (C.foldl step s0))) : fVis P f xs [1, 2] i ys0 bodies K := by
  refine ⟨C.map (evC L), hv, fun pre ys => ys = enc ((C.take pre.length).foldl step s0), by simpa using h0, ?_, ?_⟩
  · rintro pre p rest ys hev _ rfl
    have h1 : (C.map (evC L))[pre.length]? = some p := by rw [hev]; simp
    rw [List.getElem?_map] at h1
    cases q : C[pre.length]? with
    | none => rw [q] at h1; cases h1
    | some o =>
      rw [q] at h1
      injection h1 with h1
      subst h1
      refine hstep o _ _ (List.mem_of_getElem? q) fun zs hz => ?_
      show zs = _
      have ht : C.take (pre.length + 1) = C.take pre.length ++ [o] := by
        obtain ⟨hl, e⟩ := List.getElem?_eq_some_iff.1 q
        rw [List.take_add_one, q]; rfl
      rw [hz, List.length_append, List.length_singleton, ht, List.foldl_append]; rfl
  · rintro ys _ rfl
    rw [List.length_map, List.take_length]
    exact hend
theorem viN {P : Program} {f : FuncId} {a : AV} {rs : List Nat} {e : List (Nat × List AV)} (h : Vi P f [a, ints []] rs e) : Vi P f [a, .lit (.slice none 0 0)] rs e := by
  obtain ⟨h1, h2, h3⟩ := h
  refine ⟨h1, h2, fun fs J w ok cargs hfs hent hJ hG hV hargs h0 => h3 fs J w ok cargs hfs hent hJ hG hV ⟨hargs.1, fun i hi => ?_⟩ h0⟩
  have : i = 0 ∨ i = 1 := by have : i < 2 := by simpa using hi
                             omega
  rcases this with rfl | rfl
  · exact hargs.2 0 (by simp)
  · exact (NL.nil 1).rv (hargs.2 1 (by simp))
theorem walk_ev {l : List (List Jo)} (g : GoodJ l) (s : Sp) : Vi Try.prog 16 [.agg [opss l, .mp 4 (clL l s)], .lit (.slice none 0 0)] [1, 2] ((wkC l (clL l s) l.length []).map (evC (clL l s))) := by
  rw [← wk_map]
  exact viN (walk_vi l (clL l s) (by have := g.len; omega) (fun o ho => by have := g.pos o ho; omega) l.length [] (by simp) (by simp))
noncomputable def bestV (l : List (List Jo)) (s : Sp) : AV :=
  if sepE s ≠ 0 then .tup [.sl 1 [], .int 0, .int (sepE s)] else if jcE l ≠ 0 then .tup [.sl 1 [], .int 0, .int (jcE l)]
  else if (bestC l s).2 < 0 then .tup [.sl 1 [], .int 0, .int 8] else .tup [ints (bestC l s).1, .int (bestC l s).2, .int 0]
def encB (b : List Int × Int) : List AV := [if b.2 < 0 then .lit (.slice none 0 0) else ints b.1, .int b.2]
theorem empJ : (AV.sl 1 []).isEmp := rfl
theorem best_fn (l : List (List Jo)) (s : Sp) : Fn Try.prog 5 [opss l, sp s] (.tup [.p, .sc, .sc]) (bestV l s) := by
  refine fn_run mixed 3 (Γ := JtF.Γ) (ann := JtF.ann) Try.func5 rfl Try.call5 ((JtF.best_form _ _ _).mpr ?_)
  have ho := of_fn l s
  have e1 : AV.agg [AV.cel (sp s) 0, AV.cel (sp s) 1] = sp s := rfl
  obtain ⟨V, hV⟩ : ∃ V, V = bestV l s := ⟨_, rfl⟩
  rw [← hV]
  unfold bestV at hV
  simp only [e1]
  refine ⟨by simp, ⟨_, rfl, rfl⟩, _, ho, ?_⟩
  unfold ofJ
  by_cases h1 : sepE s ≠ 0
  · rw [if_pos h1] at hV ⊢
    subst hV
    exact ⟨by simp, by simp, fun _ => ⟨empJ, .lit _, .lit _, rfl⟩, fun q => absurd q (by simpa using h1)⟩
  have h1 : sepE s = 0 := by omega
  rw [if_neg (by simp [h1])] at hV ⊢
  by_cases h2 : jcE l ≠ 0
  · rw [if_pos h2] at hV ⊢
    subst hV
    exact ⟨by simp, by simp, fun _ => ⟨empJ, .lit _, .lit _, rfl⟩, fun q => absurd q (by simpa using h2)⟩
  have h2 : jcE l = 0 := by omega
  rw [if_neg (by simp [h2])] at hV ⊢
  have g := goodJ h2
  have hl6 := g.len
  refine ⟨by simp, by simp, fun q => absurd q (by simp), fun _ => ⟨Try.call16, fun _ => ⟨Try.call17, Try.call18, ?_⟩⟩⟩
  have e2 : AV.agg [AV.cel (AV.prj (AV.tup [AV.agg [opss l, AV.mp 4 (clL l s)], AV.int 0]) 0) 0, AV.cel (AV.prj (AV.tup [AV.agg [opss l, AV.mp 4 (clL l s)], AV.int 0]) 0) 1] = .agg [opss l, .mp 4 (clL l s)] := rfl
  rw [e2]
  refine vis_two (wkC l (clL l s) l.length []) (clL l s) (walk_ev g s) encB (bstC l) ([], -1) rfl ?_ ?_
  · rintro ⟨t, c⟩ b K hp hK
    obtain ⟨hv, ht, hfull⟩ := wkC_val l (clL l s) l.length [] (by simp) ⟨by simp, fun j x hj => by simp at hj⟩ _ hp
    simp only at hv ht hfull
    rcases ht.symm with rfl | rfl
    · refine fun _ _ _ => hK _ ?_
      unfold bstC
      rw [if_neg (by simp)]
      rfl
    have hcl := hfull rfl
    have hbd := costN_bd g hv
    refine fun _ _ _ => ⟨by simp [evC], ?_⟩
    have e3 : (evC (clL l s) (0, c)).2.getD 0 default = ints c := rfl
    simp only [e3]
    refine loop_list (σ := Int) c (fun k s => [.int s, .int (k : Nat)]) (fun k rest t => t + costN (l.drop k) rest = costN l c ∧ 0 ≤ t ∧ t ≤ 1000000 * k) 0 rfl ⟨by simp, by omega, by omega⟩ ?_ ?_
    · rintro k z rest t K2 hz hr hk ⟨i1, i2, i3⟩ hK2
      obtain ⟨o, x, ho, hx, z1, z2, x1, x2, he⟩ := cost_step g hv hz
      rw [he] at i1
      have an : AV.bin Go.BinOp.add (.int (k : Int)) (.int 1) = .int ((k : Int) + 1) := by rw [av_add]; exact congrArg (fun z => AV.lit (.int .i64 z)) (wrap64 (by omega) (by omega))
      have a1 : AV.at (ints c) (.int (k : Int)) 0 = .int z := by rw [lst_at hz]; rfl
      have a2 : AV.at (opss l) (.int (k : Int)) 0 = ops o := by rw [lst_at ho]; rfl
      have a3 : AV.at (ops o) (.int z) 0 = .int x.c := by rw [lst_atI z1 hx]; rfl
      have aS : AV.bin Go.BinOp.add (.int t) (.int x.c) = .int (t + x.c) := by rw [av_add]; exact congrArg (fun z => AV.lit (.int .i64 z)) (wrap64 (by omega) (by omega))
      simp only [List.getD_cons_zero, List.getD_cons_succ, an, a1, a2, a3, aS]
      refine ⟨by simp, by simp, fun _ => ⟨by simp, by simp; omega, by simp, by simp; omega, by simp, by simp; omega, by simp, by simp, hK2 _ (t + x.c) (by simp) ⟨by omega, by omega, by omega⟩⟩, fun q => absurd q (by simp; omega)⟩
    · rintro t K2 ⟨i1, i2, i3⟩
      have i1 : t = costN l c := by
        have : costN (l.drop c.length) [] = 0 := by cases l.drop c.length <;> rfl
        omega
      subst i1
      have y0 : (encB b).getD 0 default = if b.2 < 0 then .lit (.slice none 0 0) else ints b.1 := rfl
      have y1 : (encB b).getD 1 default = .int b.2 := rfl
      simp only [List.getD_cons_zero, List.getD_cons_succ, y0, y1]
      have hyes : (b.2 < 0 ∨ costN l c < b.2) → encB (bstC l b (0, c)) = [ints c, .int (costN l c)] := fun h => by
        unfold bstC
        rw [if_pos ⟨rfl, h⟩]
        unfold encB
        rw [if_neg (by simp; omega)]
      refine ⟨by simp, by simp, fun q => absurd q (by simp), fun _ => ⟨by simp, by simp, fun q => ⟨by simp, q, by simp, by simp, hK _ ?_⟩, fun q => ⟨by simp, by simp, q, by simp, fun q2 => ⟨by simp, by simp, hK _ ?_⟩, fun q2 => hK _ ?_⟩⟩⟩
      · rw [hyes (.inl (by simpa using q))]
      · rw [hyes (.inr (by simpa using q2))]
      · have q : ¬ b.2 < 0 := by simpa using q
        have q2 : ¬ costN l c < b.2 := by simpa using q2
        have hno : bstC l b (0, c) = b := by
          unfold bstC
          rw [if_neg (fun h => by rcases h.2 with h | h <;> contradiction)]
        rw [hno]
        rfl
  · rw [walk_best]
    generalize bestC l s = b at *
    have y0 : (encB b).getD 0 default = if b.2 < 0 then .lit (.slice none 0 0) else ints b.1 := rfl
    have y1 : (encB b).getD 1 default = .int b.2 := rfl
    simp only [y0, y1]
    refine ⟨by simp, by simp, fun q => ?_, fun q => ?_⟩
    · have q : b.2 < 0 := by simpa using q
      rw [if_pos q] at hV
      exact ⟨empJ, .lit _, .lit _, hV.symm⟩
    · have q : ¬ b.2 < 0 := by simpa using q
      rw [if_neg q] at hV ⊢
      exact ⟨.lit _, .lit _, hV.symm⟩
end Go.Proofs.Ytaomlgfamnfcjaa
/- joint resolutions: the law: what is wrong with options. -/
namespace Go.Proofs.Ytaomlgfamnfcjaa
open Go.RowKit
set_option linter.unusedVariables false
set_option linter.unusedSimpArgs false
set_option maxRecDepth 100000
theorem oerr_fn (l : List (List Jo)) : Fn Try.prog 6 [opss l] .sc (.int (jcE l)) := by
  refine fn_run mixed 3 (Γ := JtF.Γ) (ann := JtF.ann) Try.func6 rfl Try.call6 ((JtF.oerr_form _ _).mpr ?_)
  refine ⟨by simp, by simp, by simp, fun q => ?_, fun q => ?_⟩
  · have q : (l.length : Int) > 6 := by simpa using q
    have e : jcE l = 2 := by unfold jcE; rw [if_pos (by omega)]
    rw [e]
    exact ⟨.lit _, rfl⟩
  have q : ¬ (l.length : Int) > 6 := by simpa using q
  have hE : jcE l = jcG 1 l := by unfold jcE; rw [if_neg (by omega)]
  rw [hE]
  refine ⟨by simp, ?_⟩
  refine loop_list (σ := Int) l (fun n s => [.int s, .int (n : Nat)]) (fun n rest s => 0 ≤ s ∧ s ≤ 5000 ∧ jcG 1 l = jcG s rest) 1 rfl ⟨by omega, by omega, rfl⟩ ?_ ?_
  · rintro n o rest s K hx hr hn ⟨g1, g2, g3⟩ hK
    have an : AV.bin Go.BinOp.add (.int (n : Int)) (.int 1) = .int ((n : Int) + 1) := by rw [av_add]; exact congrArg (fun z => AV.lit (.int .i64 z)) (wrap64 (by omega) (by omega))
    have ha : AV.at (opss l) (.int (n : Int)) 0 = ops o := by rw [lst_at hx]; rfl
    have hl : AV.len (ops o) = .int (o.length : Nat) := by simp
    rw [jcG] at g3
    simp only [List.getD_cons_zero, List.getD_cons_succ, an, ha, hl]
    refine ⟨by simp, by simp, fun _ => ⟨by simp, by simp; omega, by simp, by simp, by simp, fun q => ?_, fun q => ⟨by simp, by simp, by simp, fun q2 => ?_, fun q2 => ?_⟩⟩, fun q => absurd q (by simp; omega)⟩
    · have q : o.length = 0 := by simpa using q
      rw [g3, if_pos q]
      exact ⟨.lit _, rfl⟩
    · have q' : ¬ o.length = 0 := by simpa using q
      have q2' : (o.length : Int) > 8 := by simpa using q2
      rw [g3, if_neg q', if_pos (by omega)]
      exact ⟨by simp, q2, .lit _, rfl⟩
    have q2F := q2
    have q : ¬ o.length = 0 := by simpa using q
    have q2 : ¬ (o.length : Int) > 8 := by simpa using q2
    rw [if_neg q, if_neg (by omega)] at g3
    have hm : 0 ≤ s * (o.length : Int) ∧ s * (o.length : Int) ≤ 40000 := by
      have h1 := Int.mul_le_mul g2 (show (o.length : Int) ≤ 8 by omega) (by omega) (by omega)
      have h2 := Int.mul_nonneg g1 (show 0 ≤ (o.length : Int) by omega)
      omega
    have am : AV.bin Go.BinOp.mul (.int s) (.int (o.length : Nat)) = .int (s * o.length) := by rw [av_mul]; exact congrArg (fun z => AV.lit (.int .i64 z)) (wrap64 (by omega) (by omega))
    simp only [am]
    refine ⟨by simp, by simp, by simp, by simp, q2F, by simp, fun q3 => ?_, fun q3 => ⟨by simp, by simp, by simp, ?_⟩⟩
    · have q3 : s * (o.length : Int) > 5000 := by simpa using q3
      rw [g3, if_pos q3]
      exact ⟨.lit _, rfl⟩
    have q3 : ¬ s * (o.length : Int) > 5000 := by simpa using q3
    rw [if_neg q3] at g3
    refine loop_list (σ := Unit) o (fun m _ => [.int (m : Nat)]) (fun m rest _ => optE o = optE rest) () rfl rfl ?_ ?_
    · rintro m x rest2 _ K2 hx2 hr2 hm2 h1 hK2
      have am2 : AV.bin Go.BinOp.add (.int (m : Int)) (.int 1) = .int ((m : Int) + 1) := by rw [av_add]; exact congrArg (fun z => AV.lit (.int .i64 z)) (wrap64 (by omega) (by omega))
      have ha2 : AV.atAgg (ops o) (.int (m : Int)) 0 2 = .agg (encJ x) := by rw [lst_atAgg hx2]; rfl
      have c0 : AV.cel (.agg (encJ x)) 0 = .int x.c := rfl
      have c1 : AV.cel (.agg (encJ x)) 1 = tube x.t := rfl
      rw [optE] at h1
      have bad : (x.c < 0 ∨ x.c > 1000000) → jcG 1 l = 4 := fun h => by
        rw [if_pos h] at h1
        rw [g3, if_pos (by rw [h1]; decide), h1]
      simp only [List.getD_cons_zero, am2, ha2, c0, c1]
      refine ⟨by simp, by simp, fun _ => ⟨by simp, by simp; omega, by simp [encJ], by simp, by simp, fun q4 => ?_, fun q4 => ⟨by simp, by simp, q4, by simp, fun q5 => ?_, fun q5 => ⟨_, tcheck_fn x.t, by simp, by simp, fun q6 => ?_, fun q6 => ?_⟩⟩⟩, fun q => absurd q (by simp; omega)⟩
      · have q4' : x.c < 0 := by simpa using q4
        rw [bad (.inl q4')]
        exact ⟨by simp, q4, .lit _, rfl⟩
      · have q5 : x.c > 1000000 := by simpa using q5
        rw [bad (.inr q5)]
        exact ⟨.lit _, rfl⟩
      all_goals
        have q4 : ¬ x.c < 0 := by simpa using q4
        have q5 : ¬ x.c > 1000000 := by simpa using q5
        rw [if_neg (by omega)] at h1
      · have q6 : tE x.t ≠ 0 := by simpa using q6
        rw [if_pos q6] at h1
        rw [g3, if_pos (by rw [h1]; exact q6), h1]
        exact ⟨.lit _, rfl⟩
      · have q6 : tE x.t = 0 := by simpa using q6
        rw [if_neg (by simp [q6])] at h1
        exact ⟨by simp, hK2 [.int ((m : Int) + 1)] () (by simp) h1⟩
    · rintro _ K2 h1
      rw [optE] at h1
      rw [if_neg (by simp [h1])] at g3
      exact ⟨by simp, by simp, fun q => absurd q (by simp), fun _ => ⟨by simp, hK [.int (s * o.length), .int ((n : Int) + 1)] _ (by simp) ⟨hm.1, by omega, g3⟩⟩⟩
  · rintro s K ⟨g1, g2, g3⟩
    rw [jcG] at g3
    rw [g3]
    exact ⟨by simp, by simp, fun q => absurd q (by simp), fun _ => ⟨.lit _, rfl⟩⟩
end Go.Proofs.Ytaomlgfamnfcjaa
/- joint resolutions: the law, its fact taken. -/
namespace Go.Proofs.Ytaomlgfamnfcjaa
open Go.RowKit
set_option linter.unusedVariables false
set_option linter.unusedSimpArgs false
set_option maxRecDepth 100000
set_option maxHeartbeats 4000000
def mq (o : List Jo) : Int := if (if (10 : Int) < o.length then (10 : Int) else o.length) > 1 then (if (10 : Int) < o.length then (10 : Int) else o.length) else 1
def mwF : Int → List (List Jo) → Int
  | a, [] => a
  | a, o :: r => mwF (wr (a * mq o)) r
theorem manyN_pos : ∀ l : List (List Jo), (∀ o ∈ l, 0 < o.length ∧ o.length ≤ 8) → 0 < manyN l
  | [], _ => by simp [manyN]
  | o :: r, h => by
    rw [manyN]
    exact Int.mul_pos (by have := (h o (by simp)).1; omega) (manyN_pos r fun p hp => h p (by simp [hp]))
theorem mwF_eq : ∀ (l : List (List Jo)) (a : Int), (∀ o ∈ l, 0 < o.length ∧ o.length ≤ 8) → 0 < a → a * manyN l ≤ 5000 → mwF a l = a * manyN l
  | [], a, _, _, _ => by simp [mwF, manyN]
  | o :: r, a, h, ha, hm => by
    have ho := h o (by simp)
    have hq : mq o = o.length := by unfold mq; split <;> split at * <;> omega
    have hr : ∀ p ∈ r, 0 < p.length ∧ p.length ≤ 8 := fun p hp => h p (by simp [hp])
    have hp := manyN_pos r hr
    rw [manyN, ← Int.mul_assoc] at hm
    have hpos : 0 < a * (o.length : Int) := Int.mul_pos ha (by omega)
    have hle : a * (o.length : Int) ≤ a * o.length * manyN r := by
      have := Int.mul_le_mul_of_nonneg_left (show (1 : Int) ≤ manyN r by omega) (show 0 ≤ a * (o.length : Int) by omega)
      omega
    rw [mwF, hq, wr_id (by omega) (by omega), mwF_eq r _ hr hpos hm, manyN, Int.mul_assoc]
theorem mny_eq {l : List (List Jo)} (g : GoodJ l) : mwF 1 l = (mny l : Int) := by
  rw [mwF_eq l 1 g.pos (by omega) (by have := g.many; omega), manyN_mny]; omega
theorem digs_len : ∀ (l : List (List Jo)) (n : Nat), (digs l n).length = l.length
  | [], _ => rfl
  | o :: l, n => by rw [digs, List.length_cons, digs_len l n]; rfl
theorem digs_drop : ∀ (l : List (List Jo)) (n k : Nat), digs (l.drop k) n = (digs l n).drop k
  | [], n, k => by simp [digs]
  | o :: l, n, 0 => rfl
  | o :: l, n, k + 1 => by rw [List.drop_succ_cons, digs, List.drop_succ_cons]; exact digs_drop l n k
theorem digs_at {l : List (List Jo)} {n k : Nat} {o : List Jo} (ho : l[k]? = some o) : digs (l.drop k) n = ((n / mny (l.drop (k + 1)) % o.length : Nat) : Int) :: digs (l.drop (k + 1)) n := by
  obtain ⟨hk, e⟩ := List.getElem?_eq_some_iff.1 ho
  rw [List.drop_eq_getElem_cons hk, digs, manyN_mny, Int.toNat_natCast, e]
theorem mny_at {l : List (List Jo)} {k : Nat} {o : List Jo} (ho : l[k]? = some o) : mny (l.drop k) = o.length * mny (l.drop (k + 1)) := by
  obtain ⟨hk, e⟩ := List.getElem?_eq_some_iff.1 ho
  rw [List.drop_eq_getElem_cons hk, mny, e]
theorem digs_val {l : List (List Jo)} (h : ∀ o ∈ l, 0 < o.length) (n : Nat) : ValC l (digs l n) := by
  refine ⟨by rw [digs_len]; omega, fun k z hz => ?_⟩
  have hk := (List.getElem?_eq_some_iff.1 hz).1
  rw [digs_len] at hk
  obtain ⟨o, ho⟩ : ∃ o, l[k]? = some o := ⟨_, List.getElem?_eq_getElem hk⟩
  have hod : l.getD k [] = o := by rw [List.getD_eq_getElem?_getD, ho]; rfl
  have h1 := digs_at (n := n) ho
  rw [digs_drop] at h1
  have h2 : ((digs l n).drop k)[0]? = some z := by rw [List.getElem?_drop]; simpa using hz
  rw [h1] at h2
  have h2 : ((n / mny (l.drop (k + 1)) % o.length : Nat) : Int) = z := by simpa using h2
  have := Nat.mod_lt (n / mny (l.drop (k + 1))) (h o (List.mem_of_getElem? ho))
  rw [hod]
  omega
theorem take_digs (l : List (List Jo)) {n : Nat} (hn : n < mny l) : (allC l).take (n + 1) = (allC l).take n ++ [digs l n] := by
  have h : (allC l)[n]? = some (digs l n) := by rw [all_digs, List.getElem?_map, List.getElem?_range hn]; rfl
  rw [List.take_add_one, h]; rfl
theorem take_all (l : List (List Jo)) : (allC l).take (mny l) = allC l := by
  have : (allC l).length = mny l := by rw [all_digs, List.length_map, List.length_range]
  rw [← this, List.take_length]
theorem freeP_snoc {l : List (List Jo)} {s : Sp} {c : List Int} {k : Nat} {z : Int} (hz : c[k]? = some z) : freeP l s (c.take (k + 1)) ↔ freeP l s (c.take k) ∧ ∀ (j : Nat) (y : Int), j < k → c[j]? = some y → clB l s j k y.toNat z.toNat = false := by
  have hk := (List.getElem?_eq_some_iff.1 hz).1
  have ht : c.take (k + 1) = c.take k ++ [z] := by rw [List.take_add_one, hz]; rfl
  have hl : (c.take k).length = k := by rw [List.length_take]; omega
  constructor
  · intro h
    refine ⟨by rw [ht] at h; exact freeP_pre h, fun j y hj hy => ?_⟩
    exact h k z (by rw [List.getElem?_take, if_pos (by omega)]; exact hz) j y hj (by rw [List.getElem?_take, if_pos (by omega)]; exact hy)
  · rintro ⟨h1, h2⟩ k' x hk' i y hi hy
    rw [List.getElem?_take] at hk' hy
    split at hk'
    · rename_i q
      rw [if_pos (by omega)] at hy
      by_cases e : k' = k
      · subst e
        rw [hz] at hk'
        injection hk' with hk'
        subst hk'
        exact h2 i y hi hy
      · exact h1 k' x (by rw [List.getElem?_take, if_pos (by omega)]; exact hk') i y hi (by rw [List.getElem?_take, if_pos (by omega)]; exact hy)
    · cases hk'
theorem best_len (l : List (List Jo)) (s : Sp) : (bestC l s).1.length ≤ l.length := by
  have key : ∀ (C : List (List Int)) (b : List Int × Int), (∀ c ∈ C, c.length ≤ l.length) → b.1.length ≤ l.length → (C.foldl (stpC l s) b).1.length ≤ l.length := by
    intro C
    induction C with
    | nil => intro b _ hb; exact hb
    | cons c C ih =>
      intro b hC hb
      rw [List.foldl_cons]
      refine ih _ (fun d hd => hC d (by simp [hd])) ?_
      unfold stpC
      split
      · exact hC c (by simp)
      · exact hb
  refine key _ _ (fun c hc => ?_) (by simp)
  rw [all_digs] at hc
  obtain ⟨n, _, rfl⟩ := List.mem_map.1 hc
  rw [digs_len]; omega
end Go.Proofs.Ytaomlgfamnfcjaa
/- joint resolutions: the law, its fact taken: its walk. -/
namespace Go.Proofs.Ytaomlgfamnfcjaa
open Go.RowKit
set_option linter.unusedVariables false
set_option linter.unusedSimpArgs false
set_option maxRecDepth 100000
set_option maxHeartbeats 4000000
theorem set_mid (x : Int) (r : List Int) : ∀ a : Nat, (List.replicate (a + 1) (0 : Int) ++ r).set a x = List.replicate a 0 ++ x :: r
  | 0 => rfl
  | a + 1 => by rw [List.replicate_succ, List.cons_append, List.set_cons_succ, set_mid x r a, List.replicate_succ, List.cons_append]
theorem law_fn (hfact : Fn Try.prog 4 [] .sc (.bool true)) (l : List (List Jo)) (s : Sp) (hl : l.length ≤ 9223372036854775807) : Fn Try.prog 3 [opss l, sp s] .sc (.bool true) := by
  refine fn_run mixed 3 (Γ := JtF.Γ) (ann := JtF.ann) Try.func3 rfl Try.call3 ((JtF.law_form _ _ _).mpr ?_)
  have e1 : AV.agg [AV.cel (sp s) 0, AV.cel (sp s) 1] = sp s := rfl
  simp only [e1]
  obtain ⟨M, hM⟩ : ∃ M, M = mwF 1 l := ⟨_, rfl⟩
  refine ⟨by simp [encSp], _, hfact, by simp, by simp, by simp, by simp, ?_⟩
  refine loop_list (σ := Int) l (fun k a => [.int a, .int (k : Nat)]) (fun k rest a => M = mwF a rest) 1 rfl hM ?_ ?_
  · rintro k o rest a K ho hr hk hg hK
    have an : AV.bin Go.BinOp.add (.int (k : Int)) (.int 1) = .int ((k : Int) + 1) := by rw [av_add]; exact congrArg (fun z => AV.lit (.int .i64 z)) (wrap64 (by omega) (by omega))
    have ha : AV.at (opss l) (.int (k : Int)) 0 = ops o := by rw [lst_at ho]; rfl
    have hle : AV.len (ops o) = .int (o.length : Nat) := by simp
    have hmx : AV.mx (.int 1) (AV.mn (.int (o.length : Nat)) (.int 10)) = .int (mq o) := rfl
    have hmul : AV.bin Go.BinOp.mul (.int a) (.int (mq o)) = .int (wr (a * mq o)) := rfl
    simp only [List.getD_cons_zero, List.getD_cons_succ, an, ha, hle, hmx, hmul]
    rw [mwF] at hg
    exact ⟨by simp, by simp, fun _ => ⟨by simp, by simp; omega, by simp, by simp, by simp, by simp, ⟨_, _, rfl⟩, by simp, by simp, hK _ _ (by simp) hg⟩, fun q => absurd q (by simp; omega)⟩
  rintro a K0 hg
  rw [mwF] at hg
  subst hg
  simp only [List.getD_cons_zero, List.getD_cons_succ]
  obtain ⟨B, hB⟩ : ∃ B, B = bestV l s := ⟨_, rfl⟩
  have hbest := best_fn l s
  rw [← hB] at hbest
  unfold bestV at hB
  refine ⟨by simp, by simp, fun q => absurd q (by simp), fun _ => ⟨by simp, by simp, by simp, fun q => ⟨by simp, q, by simp, rfl⟩, fun q => ⟨by simp, by simp, q, by simp, fun q2 => ⟨by simp, rfl⟩, fun q2 => ⟨_, hbest, _, oerr_fn l, _, jcheck_fn l, by simp, by simp, by simp, _, csep_fn s, by simp, by simp, fun h1 => ?_, fun h1 => ⟨by simp, by simp, fun h2 => ?_, fun h2 => ?_⟩⟩⟩⟩⟩
  · have h1' : sepE s ≠ 0 := by simpa using h1
    rw [if_pos h1'] at hB
    subst hB
    simp [h1']
  · have h1' : sepE s = 0 := by simpa using h1
    have h2' : jcE l ≠ 0 := by simpa using h2
    rw [if_neg (by simp [h1']), if_pos h2'] at hB
    subst hB
    simp [h2']
  have h1' : sepE s = 0 := by simpa using h1
  have h2' : jcE l = 0 := by simpa using h2
  rw [if_neg (by simp [h1']), if_neg (by simp [h2'])] at hB
  have g := goodJ h2'
  rw [mny_eq g] at hM
  subst hM
  have hl6 := g.len
  have hmany : mny l ≤ 5000 := by have := g.many; rw [manyN_mny] at this; omega
  clear q q2 h1 h2
  refine loop_nat (σ := List Int × Int) (mny l) (fun n b => [ints b.1, .int b.2, .int (n : Nat)]) (fun n b => b = ((allC l).take n).foldl (stpC l s) ([], -1)) ([], -1) rfl rfl ?_ ?_
  · rintro n b K hn hb hK
    have hK' : ∀ zs, zs = [ints (stpC l s b (digs l n)).1, .int (stpC l s b (digs l n)).2, .int ((n : Int) + 1)] → K zs := fun zs hz => hK zs (stpC l s b (digs l n)) (by rw [hz]; simp) (by rw [take_digs l hn, List.foldl_append, ← hb]; rfl)
    clear hK hb
    obtain ⟨c, hc⟩ : ∃ c, c = digs l n := ⟨_, rfl⟩
    have hv : ValC l c := by rw [hc]; exact digs_val (fun o ho => (g.pos o ho).1) n
    have hcl : c.length = l.length := by rw [hc, digs_len]
    have hbd := costN_bd g hv
    rw [← hc] at hK'
    have an : AV.bin Go.BinOp.add (.int (n : Int)) (.int 1) = .int ((n : Int) + 1) := by rw [av_add]; exact congrArg (fun z => AV.lit (.int .i64 z)) (wrap64 (by omega) (by omega))
    have erep : AV.rep 1 (.int (l.length : Nat)) [.int 0] = ints (List.replicate l.length 0) := by simp [AV.rep, lst, encI]
    have esub : AV.bin Go.BinOp.sub (.int (l.length : Nat)) (.int 1) = .int ((l.length : Int) - 1) := by rw [av_subt]; exact congrArg (fun z => AV.lit (.int .i64 z)) (wrap64 (by omega) (by omega))
    have elen : AV.len (opss l) = .int (l.length : Nat) := by simp
    simp only [List.getD_cons_zero, List.getD_cons_succ, elen, erep, esub, an]
    refine ⟨by simp, by simp, fun _ => ⟨by simp, ⟨rfl, by simp, by simp; omega⟩, rfl, rfl, by simp, by simp, ?_⟩, fun q => absurd q (by simp; omega)⟩
    refine loop_of (τ := Nat) (fun j => [.int ((n / mny (l.drop j) : Nat) : Int), .int ((j : Int) - 1), ints (List.replicate j 0 ++ digs (l.drop j) n)]) (fun j => j ≤ l.length) (fun j => j) l.length (by simp [mny, digs]) (Nat.le_refl _) ?_
    intro j hj
    simp only [List.getD_cons_zero, List.getD_cons_succ]
    refine ⟨by simp, by simp, fun q => ?_, fun q => ?_⟩
    · have q1 : (0 : Int) ≤ (j : Int) - 1 := by simpa using q
      obtain ⟨i, rfl⟩ : ∃ i, j = i + 1 := ⟨j - 1, by omega⟩
      obtain ⟨o, ho⟩ : ∃ o, l[i]? = some o := ⟨_, List.getElem?_eq_getElem (by omega)⟩
      have hop := g.pos o (List.mem_of_getElem? ho)
      have ei : ((i + 1 : Nat) : Int) - 1 = (i : Int) := by omega
      have ha : AV.at (opss l) (.int (i : Int)) 0 = ops o := by rw [lst_at ho]; rfl
      have hle : AV.len (ops o) = .int (o.length : Nat) := by simp
      have hnb : n / mny (l.drop (i + 1)) ≤ 5000 := Nat.le_trans (Nat.div_le_self _ _) (by omega)
      have erem : AV.bin Go.BinOp.rem (.int ((n / mny (l.drop (i + 1)) : Nat) : Int)) (.int (o.length : Nat)) = .int ((n / mny (l.drop (i + 1)) % o.length : Nat) : Int) := by
        rw [av_rem, Int.tmod_eq_emod_of_nonneg (Int.natCast_nonneg _)]; rfl
      have equo : AV.bin Go.BinOp.quo (.int ((n / mny (l.drop (i + 1)) : Nat) : Int)) (.int (o.length : Nat)) = .int ((n / mny (l.drop i) : Nat) : Int) := by
        have hd : n / mny (l.drop i) = n / mny (l.drop (i + 1)) / o.length := by rw [mny_at ho, Nat.div_div_eq_div_mul, Nat.mul_comm]
        rw [av_quo, Int.tdiv_eq_ediv_of_nonneg (Int.natCast_nonneg _), hd]
        generalize n / mny (l.drop (i + 1)) = d at *
        have h1 := Nat.div_le_self d o.length
        have h2 : ((d : Nat) : Int) / (o.length : Nat) = ((d / o.length : Nat) : Int) := rfl
        rw [h2]
        generalize d / o.length = e at *
        exact congrArg (fun z => AV.lit (.int .i64 z)) (wrap64 (by omega) (by omega))
      have es : AV.bin Go.BinOp.sub (.int (i : Int)) (.int 1) = .int ((i : Int) - 1) := by rw [av_subt]; exact congrArg (fun z => AV.lit (.int .i64 z)) (wrap64 (by omega) (by omega))
      have hch : (List.replicate (i + 1) (0 : Int) ++ digs (l.drop (i + 1)) n)[i]? = some 0 := by
        rw [List.getElem?_append_left (by simp), List.getElem?_replicate, if_pos (by omega)]
      have eset : AV.setEl (ints (List.replicate (i + 1) 0 ++ digs (l.drop (i + 1)) n)) (.int (i : Int)) 0 [.int ((n / mny (l.drop (i + 1)) % o.length : Nat) : Int)] = ints (List.replicate i 0 ++ digs (l.drop i) n) := by
        rw [lst_setEl hch (x' := ((n / mny (l.drop (i + 1)) % o.length : Nat) : Int)) (by simp [encI]), digs_at ho]
        congr 1
        exact set_mid _ _ _
      have hlen2 : (List.replicate (i + 1) (0 : Int) ++ digs (l.drop (i + 1)) n).length = l.length := by
        rw [List.length_append, List.length_replicate, digs_len, List.length_drop]; omega
      simp only [ei, ha, hle, erem, equo, es, eset]
      have hne : (o.length : Int) ≠ 0 := by omega
      refine ⟨by simp, by simp; omega, by simp, av_binOk_int.2 ⟨rfl, hne⟩, ?_, by simp, ?_, by simp, by simp; omega, by simp, av_binOk_int.2 ⟨rfl, hne⟩, by simp, ⟨i, by omega, i, rfl, by omega, rfl⟩⟩
      · rw [lst_inb, hlen2]; omega
      · rw [lst_inb, hlen2]; omega
    · have q1 : ¬ (0 : Int) ≤ (j : Int) - 1 := by simpa using q
      have hj0 : j = 0 := by omega
      subst hj0
      have e0 : List.replicate 0 (0 : Int) ++ digs (l.drop 0) n = c := by rw [hc]; rfl
      rw [e0]
      clear q e0 erep esub
      refine loop_list (σ := Int × Bool) c (fun k p => [.int p.1, .bool p.2, .int (k : Nat)]) (fun k rest p => p.1 + costN (l.drop k) rest = costN l c ∧ 0 ≤ p.1 ∧ p.1 ≤ 1000000 * k ∧ (p.2 = true ↔ freeP l s (c.take k))) (0, true) rfl ⟨by simp, by simp, by simp, by simp; intro k x hk; simp at hk⟩ ?_ ?_
      · rintro k z rest ⟨t, fr⟩ K2 hz hr hk ⟨i1, i2, i3, i4⟩ hK2
        simp only at i1 i2 i3 i4
        obtain ⟨o, x, ho, hx, z1, z2, x1, x2, he⟩ := cost_step g hv hz
        rw [he] at i1
        have ak : AV.bin Go.BinOp.add (.int (k : Int)) (.int 1) = .int ((k : Int) + 1) := by rw [av_add]; exact congrArg (fun z => AV.lit (.int .i64 z)) (wrap64 (by omega) (by omega))
        have a1 : AV.at (ints c) (.int (k : Int)) 0 = .int z := by rw [lst_at hz]; rfl
        have a2 : AV.at (opss l) (.int (k : Int)) 0 = ops o := by rw [lst_at ho]; rfl
        have a3 : AV.at (ops o) (.int z) 0 = .int x.c := by rw [lst_atI z1 hx]; rfl
        have a4 : AV.at (ops o) (.int z) 1 = tube x.t := by rw [lst_atI z1 hx]; rfl
        have aS : AV.bin Go.BinOp.add (.int t) (.int x.c) = .int (t + x.c) := by rw [av_add]; exact congrArg (fun z => AV.lit (.int .i64 z)) (wrap64 (by omega) (by omega))
        simp only [List.getD_cons_zero, List.getD_cons_succ, ak, a1, a2, a3, a4, aS]
        refine ⟨by simp, by simp, fun _ => ⟨by simp; omega, by simp; omega, by simp, by simp; omega, by simp, by simp; omega, by simp, ?_⟩, fun q => absurd q (by simp; omega)⟩
        refine loop_nat (σ := Bool) k (fun i f => [.bool f, .int (i : Nat)]) (fun i f => (f = true ↔ freeP l s (c.take k) ∧ ∀ (j : Nat) (y : Int), j < i → c[j]? = some y → clB l s j k y.toNat z.toNat = false)) fr rfl (by rw [i4]; simp) ?_ ?_
        · rintro i f K3 hi hf hK3
          obtain ⟨y, hy⟩ : ∃ y, c[i]? = some y := ⟨_, List.getElem?_eq_getElem (by omega)⟩
          obtain ⟨o2, x', ho2, hx', y1, y2, _, _, _⟩ := cost_step g hv hy
          have ai : AV.bin Go.BinOp.add (.int (i : Int)) (.int 1) = .int ((i : Int) + 1) := by rw [av_add]; exact congrArg (fun z => AV.lit (.int .i64 z)) (wrap64 (by omega) (by omega))
          have b1 : AV.at (ints c) (.int (i : Int)) 0 = .int y := by rw [lst_at hy]; rfl
          have b2 : AV.at (opss l) (.int (i : Int)) 0 = ops o2 := by rw [lst_at ho2]; rfl
          have b4 : AV.at (ops o2) (.int y) 1 = tube x'.t := by rw [lst_atI y1 hx']; rfl
          have hclB : clB l s i k y.toNat z.toNat = decide (firE x.t x'.t s = 0) := by
            unfold clB optAt
            rw [List.getD_eq_getElem?_getD (l := l), ho2, List.getD_eq_getElem?_getD (l := l), ho, Option.getD_some, Option.getD_some, List.getD_eq_getElem?_getD, hx', List.getD_eq_getElem?_getD, hx, Option.getD_some, Option.getD_some]
            exact decide_eq_decide.2 (firE_comm _ _ _)
          have hnext : ∀ f' : Bool, (f' = true ↔ f = true ∧ clB l s i k y.toNat z.toNat = false) → (f' = true ↔ freeP l s (c.take k) ∧ ∀ (j : Nat) (y : Int), j < i + 1 → c[j]? = some y → clB l s j k y.toNat z.toNat = false) := fun f' h => by
            rw [h, hf]
            constructor
            · rintro ⟨⟨h1, h2⟩, h3⟩
              refine ⟨h1, fun j y' hj hy' => ?_⟩
              by_cases e : j = i
              · subst e
                rw [hy] at hy'
                injection hy' with hy'
                subst hy'
                exact h3
              · exact h2 j y' (by omega) hy'
            · rintro ⟨h1, h2⟩
              exact ⟨⟨h1, fun j y' hj hy' => h2 j y' (by omega) hy'⟩, h2 i y (by omega) hy⟩
          simp only [List.getD_cons_zero, List.getD_cons_succ, ai, b1, b2, b4]
          refine ⟨by simp, by simp, fun _ => ⟨by simp, fun q => ⟨by simp, by simp; omega, by simp, by simp; omega, by simp, by simp; omega, by simp; omega, by simp; omega, by simp, by simp; omega, _, clash_fn x.t x'.t s, by simp, by simp, q, by simp, ?_⟩, fun q => ⟨by simp, q, by simp, ?_⟩⟩, fun q => absurd q (by simp; omega)⟩
          · have q : f = true := q
            refine hK3 _ (!decide (firE x.t x'.t s = 0)) (by simp) (hnext _ ?_)
            rw [hclB, q]
            simp
          · have q : f = false := q
            refine hK3 _ false (by simp) (hnext _ ?_)
            rw [q]
            simp
        · rintro f K3 hf
          simp only [List.getD_cons_zero, List.getD_cons_succ]
          refine ⟨by simp, by simp, fun q => absurd q (by simp), fun _ => ⟨by simp, hK2 _ (t + x.c, f) (by simp) ⟨by simp; omega, by simp; omega, by simp; omega, by simp only; rw [hf, freeP_snoc hz]⟩⟩⟩
      · rintro ⟨t, fr⟩ K2 ⟨i1, i2, i3, i4⟩
        simp only at i1 i2 i3 i4
        have i1 : t = costN l c := by
          have : costN (l.drop c.length) [] = 0 := by cases l.drop c.length <;> rfl
          omega
        subst i1
        rw [List.take_length] at i4
        simp only [List.getD_cons_zero, List.getD_cons_succ]
        refine ⟨by simp, by simp, fun q => absurd q (by simp), fun _ => ⟨by simp, fun q => ⟨by simp, by simp, fun q2 => ⟨by simp, q2, by simp, q, by simp, hK' _ ?_⟩, fun q2 => ⟨by simp, by simp, q2, by simp, q, by simp, fun q3 => ⟨by simp, hK' _ ?_⟩, fun q3 => ⟨by simp, hK' _ ?_⟩⟩⟩, fun q => ⟨by simp, q, by simp, hK' _ ?_⟩⟩⟩
        · have hf := i4.1 q
          have q2 : b.2 < 0 := by simpa using q2
          have : stpC l s b c = (c, costN l c) := by unfold stpC; rw [if_pos ⟨hf, .inl q2⟩]
          rw [this]
        · have hf := i4.1 q
          have q3 : costN l c < b.2 := by simpa using q3
          have : stpC l s b c = (c, costN l c) := by unfold stpC; rw [if_pos ⟨hf, .inr q3⟩]
          rw [this]
        · have q2 : ¬ b.2 < 0 := by simpa using q2
          have q3 : ¬ costN l c < b.2 := by simpa using q3
          have : stpC l s b c = b := by unfold stpC; rw [if_neg (fun h => by rcases h.2 with h | h <;> contradiction)]
          rw [this]
        · have q : fr = false := q
          have hf : ¬ freeP l s c := fun h => by rw [i4.2 h] at q; cases q
          have : stpC l s b c = b := by unfold stpC; rw [if_neg (fun h => hf h.1)]
          rw [this]
  · rintro b K hb
    have hb : b = bestC l s := by rw [hb, take_all]; rfl
    subst hb
    have hbl := best_len l s
    generalize bestC l s = b at *
    simp only [List.getD_cons_zero, List.getD_cons_succ]
    refine ⟨by simp, by simp, fun q => absurd q (by simp), fun _ => ⟨by simp, by simp, fun q => ?_, fun q => ?_⟩⟩
    · have q : b.2 < 0 := by simpa using q
      rw [if_pos q] at hB
      subst hB
      simp
    · have q : ¬ b.2 < 0 := by simpa using q
      rw [if_neg q] at hB
      subst hB
      have he := equal_fn b.1 b.1 (by omega)
      rw [decide_eq_true rfl] at he
      refine ⟨by simp, by simp, by simp, _, he, by simp, by simp, by simp, rfl, by simp, by simp, rfl, by simp, by simp⟩
end Go.Proofs.Ytaomlgfamnfcjaa
/- joint resolutions: what the runs end in. -/
namespace Go.Proofs.Ytaomlgfamnfcjaa
open Go.RowKit
set_option linter.unusedVariables false
set_option maxRecDepth 100000
namespace JtG
--GAMMA
def Γ : FuncId → Option Ca := fun f =>
  if f = 19 ∨ f = 8 ∨ f = 7 ∨ f = 9 ∨ f = 6 ∨ f = 12 ∨ f = 4 ∨ f = 10 ∨ f = 25 ∨ f = 26 ∨ f = 24 ∨ f = 14 then some (.fn .sc)
  else if f = 20 then some (.fn (.tup [.sc, .sc]))
  else if f = 11 then some (.fn (.row 64 6 true))
  else if f = 15 then some (.fn (.tup [.agg [.p, .p], .sc]))
  else if f = 23 then some (.fn (.row 3 1 true))
  else if f = 5 then some (.fn (.tup [.p, .sc, .sc]))
  else if f = 13 then some (.fn (.tup [.p, .sc]))
  else some .inl
def ann : FuncId → Nat → LoopEx := fun f r =>
  if f = 16 then ⟨[1, 2], [1345], [(961, 0)], [(897, 0, 46, 2)]⟩
  else ⟨[], [], [], []⟩
--END GAMMA
theorem refute_form (x0 x1 r : AV) : fnF Try.prog Γ ann 3 13 Try.f13 (Try.f13.body.getD .skip) (.nil) [x0, x1] (.tup [.row 46 2 false, .sc]) r = (((AV.isAgg x1 2) ∧
(∃ r321 : AV, ((Fn Try.prog 15 [x0, (AV.agg [(AV.cel x1 0), (AV.cel x1 1)])] (Sh.tup [(Sh.agg [Sh.p, Sh.p]), Sh.sc]) r321) ∧
((AV.binOk Go.BinOp.neq (AV.prj r321 1) (AV.int 0)) ∧
((AV.isBool (AV.bin Go.BinOp.neq (AV.prj r321 1) (AV.int 0))) ∧
(((isT (AV.bin Go.BinOp.neq (AV.prj r321 1) (AV.int 0))) →
  ((AV.flat (AV.prj r321 1)) ∧
  (fSame (AV.tup [(AV.mk 2 []), (AV.prj r321 1)]) r))) ∧
((isF (AV.bin Go.BinOp.neq (AV.prj r321 1) (AV.int 0))) →
  ((fEnt Try.prog 16) ∧
  (fAllV fun _ => ((fEnt Try.prog 21) ∧
  ((fEnt Try.prog 22) ∧
  (fVis Try.prog 16 [(AV.agg [(AV.cel (AV.prj r321 0) 0), (AV.cel (AV.prj r321 0) 1)]), (AV.lit (Value.slice none 0 0))] [1, 2] 1409 [(AV.mk 2 []), (AV.bool false)] [(fun ws1409 ys1409 again1409 =>
    (fAllV fun _ => (fAllY 1409 fun _ => (fAllV fun _ => (again1409 [(ys1409.getD 0 default), (AV.bool true)]))))), (fun ws1409 ys1409 again1409 =>
    (fAllV fun _ => (fAllY 1409 fun _ => (fAllV fun _ => (∃ r1665 : AV, ((Fn Try.prog 23 [(ws1409.getD 0 default)] (Sh.row 3 1 true) r1665) ∧
    ((AV.isOne (ws1409.getD 1 default)) ∧
    ((AV.room (ys1409.getD 0 default) (AV.mk 2 [[r1665, (ws1409.getD 1 default)]]) 32) ∧
    (again1409 [(AV.app 2 (ys1409.getD 0 default) (AV.mk 2 [[r1665, (ws1409.getD 1 default)]])), (ys1409.getD 1 default)])))))))))] (fun zs1409 =>
    ((AV.isBool (zs1409.getD 1 default)) ∧
    (((isT (zs1409.getD 1 default)) →
      ((AV.flat (AV.int 11)) ∧
      (fSame (AV.tup [(AV.mk 2 []), (AV.int 11)]) r))) ∧
    ((isF (zs1409.getD 1 default)) →
      ((AV.flat (AV.int 0)) ∧
      (fSame (AV.tup [(zs1409.getD 0 default), (AV.int 0)]) r))))))))))))))))))) := by kernel_rfl
end JtG
end Go.Proofs.Ytaomlgfamnfcjaa
/- joint resolutions: the law's fact: what is computed at its values. -/
namespace Go.Proofs.Ytaomlgfamnfcjaa
open Go.RowKit
set_option linter.unusedVariables false
set_option linter.unusedSimpArgs false
set_option maxRecDepth 100000
set_option maxHeartbeats 4000000
abbrev sN : Sp := ⟨100, 1000⟩
def jA : Jo := ⟨0, stT 0⟩
def jB : Jo := ⟨5, stT 200⟩
def L0 : List (List Jo) := [[jA], [jA, jB]]
def L1 : List (List Jo) := [[jA], [jA]]
theorem k_sep : sepE sN = 0 := by kernel_rfl
theorem k_jc0 : jcE L0 = 0 := by kernel_rfl
theorem k_jc1 : jcE L1 = 0 := by kernel_rfl
theorem k_c00 : clB L0 sN 0 1 0 0 = true := by kernel_rfl
theorem k_c01 : clB L0 sN 0 1 0 1 = false := by kernel_rfl
theorem k_c10 : clB L1 sN 0 1 0 0 = true := by kernel_rfl
theorem k_wk : wkC L1 (clL L1 sN) 2 [] = [(1, [0, 0])] := by kernel_rfl
theorem k_wi : withI (clL L1 sN) [0, 0] = 0 := by kernel_rfl
theorem k_mg : mgetL (clL L1 sN) [0, 1, 0, 0] = true := by kernel_rfl
theorem loop0 {i : Nat} {xs : List AV} {body : List AV → (List AV → Prop) → Prop} (h : ∀ K, body xs K) : fLoop i xs body :=
  ⟨fun m ys => ys = xs ∧ m = 0, 0, ⟨rfl, rfl⟩, fun m ys _ hi => by obtain ⟨rfl, _⟩ := hi; exact h _⟩
theorem loop1 {i : Nat} {xs : List AV} {body : List AV → (List AV → Prop) → Prop} (x1 : List AV) (h0 : ∀ K : List AV → Prop, K x1 → body xs K) (h1 : ∀ K, body x1 K) : fLoop i xs body :=
  ⟨fun m ys => (ys = xs ∧ m = 1) ∨ (ys = x1 ∧ m = 0), 1, .inl ⟨rfl, rfl⟩, fun m ys _ hi => by
    rcases hi with ⟨rfl, rfl⟩ | ⟨rfl, rfl⟩
    · exact h0 _ ⟨0, by omega, .inr ⟨rfl, rfl⟩⟩
    · exact h1 _⟩
theorem loop2 {i : Nat} {xs : List AV} {body : List AV → (List AV → Prop) → Prop} (x1 x2 : List AV) (h0 : ∀ K : List AV → Prop, K x1 → body xs K) (h1 : ∀ K : List AV → Prop, K x2 → body x1 K) (h2 : ∀ K, body x2 K) : fLoop i xs body :=
  ⟨fun m ys => (ys = xs ∧ m = 2) ∨ (ys = x1 ∧ m = 1) ∨ (ys = x2 ∧ m = 0), 2, .inl ⟨rfl, rfl⟩, fun m ys _ hi => by
    rcases hi with ⟨rfl, rfl⟩ | ⟨rfl, rfl⟩ | ⟨rfl, rfl⟩
    · exact h0 _ ⟨1, by omega, .inr (.inl ⟨rfl, rfl⟩)⟩
    · exact h1 _ ⟨0, by omega, .inr (.inr ⟨rfl, rfl⟩)⟩
    · exact h2 _⟩
theorem best_L0 : bestC L0 sN = ([0, 1], 5) := by
  have h : allC L0 = [[0, 0], [0, 1]] := by kernel_rfl
  have h0 : ¬ freeP L0 sN [0, 0] := fun q => by
    have := q 1 0 rfl 0 0 (by omega) rfl
    rw [show clB L0 sN 0 1 (Int.toNat 0) (Int.toNat 0) = true from k_c00] at this
    cases this
  have h1 : freeP L0 sN [0, 1] := by
    intro k x hk i y hi hy
    have hk2 := (List.getElem?_eq_some_iff.1 hk).1
    have hk3 : k < 2 := hk2
    obtain rfl : k = 1 := by omega
    obtain rfl : i = 0 := by omega
    obtain rfl : x = 1 := by simpa using hk.symm
    obtain rfl : y = 0 := by simpa using hy.symm
    exact k_c01
  have hc : costN L0 [0, 1] = 5 := by kernel_rfl
  unfold bestC
  rw [h, List.foldl_cons, List.foldl_cons, List.foldl_nil]
  have s1 : stpC L0 sN ([], -1) [0, 0] = ([], -1) := by unfold stpC; rw [if_neg (fun q => h0 q.1)]
  rw [s1]
  unfold stpC
  rw [if_pos ⟨h1, .inl (by decide)⟩, hc]
theorem best_L1 : bestC L1 sN = ([], -1) := by
  have h : allC L1 = [[0, 0]] := by kernel_rfl
  have h0 : ¬ freeP L1 sN [0, 0] := fun q => by
    have := q 1 0 rfl 0 0 (by omega) rfl
    rw [show clB L1 sN 0 1 (Int.toNat 0) (Int.toNat 0) = true from k_c10] at this
    cases this
  unfold bestC
  rw [h, List.foldl_cons, List.foldl_nil]
  unfold stpC
  rw [if_neg (fun q => h0 q.1)]
theorem best0_fn : Fn Try.prog 5 [opss L0, sp sN] (.tup [.p, .sc, .sc]) (.tup [ints [0, 1], .int 5, .int 0]) := by
  have h := best_fn L0 sN
  unfold bestV at h
  rw [if_neg (by rw [k_sep]; decide), if_neg (by rw [k_jc0]; decide), best_L0, if_neg (by decide)] at h
  exact h
theorem best1_fn : Fn Try.prog 5 [opss L1, sp sN] (.tup [.p, .sc, .sc]) (.tup [.sl 1 [], .int 0, .int 8]) := by
  have h := best_fn L1 sN
  unfold bestV at h
  rw [if_neg (by rw [k_sep]; decide), if_neg (by rw [k_jc1]; decide), best_L1, if_pos (by decide)] at h
  exact h
theorem of1_fn : Fn Try.prog 15 [opss L1, sp sN] (.tup [.agg [.p, .p], .sc]) (.tup [.agg [opss L1, .mp 4 (clL L1 sN)], .int 0]) := by
  have h := of_fn L1 sN
  unfold ofJ at h
  rw [if_neg (by rw [k_sep]; decide), if_neg (by rw [k_jc1]; decide)] at h
  exact h
abbrev rfs : AV := .sl 2 [[ints [0, 0], .int 0]]
theorem refute_fn : Fn Try.prog 13 [opss L1, sp sN] (.tup [.row 46 2 false, .sc]) (.tup [rfs, .int 0]) := by
  refine fn_run mixed 3 (Γ := JtG.Γ) (ann := JtG.ann) Try.func13 rfl Try.call13 ((JtG.refute_form _ _ _).mpr ?_)
  have e1 : AV.agg [AV.cel (sp sN) 0, AV.cel (sp sN) 1] = sp sN := rfl
  rw [e1]
  refine ⟨⟨_, rfl, rfl⟩, _, of1_fn, by simp, by simp, fun q => absurd q (by simp), fun _ => ⟨Try.call16, fun _ => ⟨Try.call21, Try.call22, ?_⟩⟩⟩
  have hv := walk_ev (goodJ k_jc1) sN
  rw [show L1.length = 2 from rfl, k_wk, List.map_cons, List.map_nil, show evC (clL L1 sN) (1, [0, 0]) = (1, [ints [0, 0], .int 0]) by unfold evC; rw [if_neg (by decide), k_wi]] at hv
  refine ⟨_, hv, fun pre ys => ys = [if pre.length = 0 then .sl 2 [] else rfs, .bool false], rfl, ?_, ?_⟩
  · rintro pre p rest ys hev _ rfl
    obtain ⟨rfl, rfl, rfl⟩ : pre = [] ∧ p = (1, [ints [0, 0], .int 0]) ∧ rest = [] := by
      cases pre with
      | nil => injection hev with h1 h2; exact ⟨rfl, h1.symm, h2.symm⟩
      | cons a r => injection hev with h1 h2; exact absurd (congrArg List.length h2) (by simp)
    have hc := clone_fn [0, 0] (by simp)
    refine fun _ _ _ => ⟨_, hc, by simp, by simp [AV.room], ?_⟩
    rfl
  · rintro ys _ rfl
    exact ⟨by simp, fun q => absurd q (by simp), fun _ => ⟨.lit _, rfl⟩⟩
theorem good1_fn : Fn Try.prog 24 [.agg [opss L1, .mp 4 (clL L1 sN)], .agg [ints [0, 0], .int 0]] .sc (.bool true) := by
  refine fn_run mixed 3 (Γ := JtF.Γ) (ann := JtF.ann) Try.func24 rfl Try.call24 ((JtF.good_form _ _ _).mpr ?_)
  have ea : AV.cel (.agg [ints [0, 0], .int 0]) 0 = ints [0, 0] := rfl
  have eb : AV.cel (.agg [ints [0, 0], .int 0]) 1 = .int 0 := rfl
  have ec : AV.cel (.agg [opss L1, .mp 4 (clL L1 sN)]) 0 = opss L1 := rfl
  have ed : AV.cel (.agg [opss L1, .mp 4 (clL L1 sN)]) 1 = .mp 4 (clL L1 sN) := rfl
  have el : AV.len (ints [0, 0]) = .int 2 := rfl
  have es : AV.bin Go.BinOp.sub (.int 2) (.int 1) = .int 1 := rfl
  have a0 : AV.at (ints [0, 0]) (.int 0) 0 = .int 0 := rfl
  have a1 : AV.at (ints [0, 0]) (.int 1) 0 = .int 0 := rfl
  have b0 : AV.at (opss L1) (.int 0) 0 = ops [jA] := rfl
  have b1 : AV.at (opss L1) (.int 1) 0 = ops [jA] := rfl
  have bl : AV.len (ops [jA]) = .int 1 := rfl
  have el1 : AV.len (opss L1) = .int 2 := rfl
  have p1 : AV.bin Go.BinOp.add (.int 0) (.int 1) = .int 1 := rfl
  have p2 : AV.bin Go.BinOp.add (.int 1) (.int 1) = .int 2 := rfl
  have hm : AV.mget (.mp 4 (clL L1 sN)) [.int 0, .int 1, .int 0, .int 0] = .bool true := congrArg AV.bool k_mg
  simp only [ea, eb, ec, ed, el, es, a0, a1, b0, bl, el1, p1, hm]
  refine ⟨⟨_, rfl, rfl⟩, ⟨_, rfl, rfl⟩, by simp, by simp, by simp, fun q => absurd q (by simp), fun q => ⟨by simp, by simp, by simp, q, by simp, fun q2 => absurd q2 (by simp), fun q2 => ⟨by simp, by simp, q2, by simp, fun q3 => absurd q3 (by simp), fun q3 => ⟨by simp, by simp, by simp, q3, by simp, fun q4 => absurd q4 (by simp), fun q4 => ⟨by simp, ?_⟩⟩⟩⟩⟩
  refine loop2 [.int 1] [.int 2] ?_ ?_ ?_
  · intro K hK
    simp only [List.getD_cons_zero, a0, b0, bl, p1]
    exact ⟨by simp, by simp, fun _ => ⟨by simp, by simp, by simp, by simp, fun q => absurd q (by simp), fun q => ⟨by simp, by simp [L1], by simp, by simp, by simp, q, by simp, fun q2 => absurd q2 (by simp), fun _ => ⟨by simp, hK⟩⟩⟩, fun q => absurd q (by simp)⟩
  · intro K hK
    simp only [List.getD_cons_zero, a1, b1, bl, p2]
    exact ⟨by simp, by simp, fun _ => ⟨by simp, by simp, by simp, by simp, fun q => absurd q (by simp), fun q => ⟨by simp, by simp [L1], by simp, by simp, by simp, q, by simp, fun q2 => absurd q2 (by simp), fun _ => ⟨by simp, hK⟩⟩⟩, fun q => absurd q (by simp)⟩
  · intro K
    simp only [List.getD_cons_zero]
    refine ⟨by simp, by simp, fun q => absurd q (by simp), fun _ => ⟨by simp, by simp, by simp, by simp, by simp, by simp, by simp, by simp, by simp, by simp, ⟨_, rfl⟩, ?_, .lit _, rfl⟩⟩
    intro y hy
    simp only [List.mem_cons, List.mem_nil_iff, or_false] at hy
    rcases hy with rfl | rfl | rfl | rfl <;> exact ⟨rfl, by decide, by decide⟩
theorem refuted1_fn : Fn Try.prog 14 [opss L1, sp sN, rfs] .sc (.int 0) := by
  refine fn_run mixed 3 (Γ := JtF.Γ) (ann := JtF.ann) Try.func14 rfl Try.call14 ((JtF.refuted_form _ _ _ _).mpr ?_)
  have e1 : AV.agg [AV.cel (sp sN) 0, AV.cel (sp sN) 1] = sp sN := rfl
  have ex : AV.len rfs = .int 1 := rfl
  have el1 : AV.len (opss L1) = .int 2 := rfl
  have b0 : AV.at (opss L1) (.int 0) 0 = ops [jA] := rfl
  have b1 : AV.at (opss L1) (.int 1) 0 = ops [jA] := rfl
  have bl : AV.len (ops [jA]) = .int 1 := rfl
  have p1 : AV.bin Go.BinOp.add (.int 0) (.int 1) = .int 1 := rfl
  have p2 : AV.bin Go.BinOp.add (.int 1) (.int 1) = .int 2 := rfl
  have m1 : AV.bin Go.BinOp.mul (.int 1) (.int 1) = .int 1 := rfl
  have aa : AV.atAgg rfs (.int 0) 0 2 = .agg [ints [0, 0], .int 0] := rfl
  have ea : AV.cel (.agg [ints [0, 0], .int 0]) 0 = ints [0, 0] := rfl
  have eb : AV.cel (.agg [ints [0, 0], .int 0]) 1 = .int 0 := rfl
  have el : AV.len (ints [0, 0]) = .int 2 := rfl
  have esub : AV.sub 1 (opss L1) (.int 2) (.int 2) = .sl 1 [] := rfl
  have eT : AV.agg [AV.cel (AV.prj (.tup [.agg [opss L1, .mp 4 (clL L1 sN)], .int 0]) 0) 0, AV.cel (AV.prj (.tup [.agg [opss L1, .mp 4 (clL L1 sN)], .int 0]) 0) 1] = .agg [opss L1, .mp 4 (clL L1 sN)] := rfl
  simp only [e1, ex, el1]
  refine ⟨⟨_, rfl, rfl⟩, _, of1_fn, by simp, by simp, fun q => absurd q (by simp), fun _ => ⟨by simp, by simp, by simp, fun q => absurd q (by simp), fun _ => ⟨by simp, ?_⟩⟩⟩
  rw [eT]
  refine loop2 [.int 1, .int 1] [.int 1, .int 2] ?_ ?_ ?_
  · intro K hK
    simp only [List.getD_cons_zero, List.getD_cons_succ, b0, bl, p1, m1]
    exact ⟨by simp, by simp, fun _ => ⟨by simp, by simp [L1], by simp, by simp, by simp, hK⟩, fun q => absurd q (by simp)⟩
  · intro K hK
    simp only [List.getD_cons_zero, List.getD_cons_succ, b1, bl, p2, m1]
    exact ⟨by simp, by simp, fun _ => ⟨by simp, by simp [L1], by simp, by simp, by simp, hK⟩, fun q => absurd q (by simp)⟩
  intro K0
  simp only [List.getD_cons_zero, List.getD_cons_succ]
  refine ⟨by simp, by simp, fun q => absurd q (by simp), fun _ => ⟨by simp, ?_⟩⟩
  refine loop1 [.int 0, .int 1] ?_ ?_
  · intro K hK
    simp only [List.getD_cons_zero, List.getD_cons_succ, aa, ea, eb, el, esub]
    refine ⟨by simp, by simp, fun _ => ⟨by simp, by simp, ⟨_, rfl, rfl⟩, _, good1_fn, by simp, by simp, fun q => absurd q (by simp), fun _ => ⟨by simp, by simp, fun q => absurd q (by simp), fun _ => ⟨by simp, by simp, by simp [L1], by simp, ?_⟩⟩⟩, fun q => absurd q (by simp)⟩
    refine loop0 ?_
    intro K2
    exact ⟨by simp, by simp, fun q => absurd q (by simp), fun _ => ⟨by simp, by simp, hK⟩⟩
  · intro K
    exact ⟨by simp, by simp, fun q => absurd q (by simp), fun _ => ⟨by simp, by simp, fun q => absurd q (by simp), fun _ => ⟨.lit _, rfl⟩⟩⟩
theorem refuted0_fn : Fn Try.prog 14 [opss L1, sp sN, .lit (.slice none 0 0)] .sc (.int 1) := by
  refine Fn.nl (args := [opss L1, sp sN, .sl 2 []]) ?_ (.cons (.refl _) (.cons (.refl _) (.cons (.nil 2) .nil)))
  refine fn_run mixed 3 (Γ := JtF.Γ) (ann := JtF.ann) Try.func14 rfl Try.call14 ((JtF.refuted_form _ _ _ _).mpr ?_)
  have e1 : AV.agg [AV.cel (sp sN) 0, AV.cel (sp sN) 1] = sp sN := rfl
  have el1 : AV.len (opss L1) = .int 2 := rfl
  have b0 : AV.at (opss L1) (.int 0) 0 = ops [jA] := rfl
  have b1 : AV.at (opss L1) (.int 1) 0 = ops [jA] := rfl
  have bl : AV.len (ops [jA]) = .int 1 := rfl
  have p1 : AV.bin Go.BinOp.add (.int 0) (.int 1) = .int 1 := rfl
  have p2 : AV.bin Go.BinOp.add (.int 1) (.int 1) = .int 2 := rfl
  have m1 : AV.bin Go.BinOp.mul (.int 1) (.int 1) = .int 1 := rfl
  simp only [e1, el1]
  refine ⟨⟨_, rfl, rfl⟩, _, of1_fn, by simp, by simp, fun q => absurd q (by simp), fun _ => ⟨by simp, by simp, by simp, fun q => absurd q (by simp), fun _ => ⟨by simp, ?_⟩⟩⟩
  refine loop2 [.int 1, .int 1] [.int 1, .int 2] ?_ ?_ ?_
  · intro K hK
    simp only [List.getD_cons_zero, List.getD_cons_succ, b0, bl, p1, m1]
    exact ⟨by simp, by simp, fun _ => ⟨by simp, by simp [L1], by simp, by simp, by simp, hK⟩, fun q => absurd q (by simp)⟩
  · intro K hK
    simp only [List.getD_cons_zero, List.getD_cons_succ, b1, bl, p2, m1]
    exact ⟨by simp, by simp, fun _ => ⟨by simp, by simp [L1], by simp, by simp, by simp, hK⟩, fun q => absurd q (by simp)⟩
  intro K0
  simp only [List.getD_cons_zero, List.getD_cons_succ]
  refine ⟨by simp, by simp, fun q => absurd q (by simp), fun _ => ⟨by simp, ?_⟩⟩
  refine loop0 ?_
  intro K
  exact ⟨by simp, by simp, fun q => absurd q (by simp), fun _ => ⟨by simp, by simp, fun _ => ⟨.lit _, rfl⟩, fun q => absurd q (by simp)⟩⟩
theorem check0_fn : Fn Try.prog 7 [.sl 1 [[.sl 2 []]]] .sc (.int 8) := jcheck_fn [[]]
end Go.Proofs.Ytaomlgfamnfcjaa
/- joint resolutions: the law's fact: what its two parts end in. -/
namespace Go.Proofs.Ytaomlgfamnfcjaa
open Go.RowKit
set_option linter.unusedVariables false
set_option linter.unusedSimpArgs false
set_option maxRecDepth 100000
namespace JtX
def Γ : FuncId → Option Ca := fun f =>
  if f = 7 ∨ f = 8 ∨ f = 10 ∨ f = 12 ∨ f = 14 then some (.fn .sc)
  else if f = 11 then some (.fn (.row 64 6 true))
  else if f = 5 then some (.fn (.tup [.p, .sc, .sc]))
  else if f = 13 then some (.fn (.tup [.row 46 2 false, .sc]))
  else some .inl
def ann : FuncId → Nat → LoopEx := fun f r => ⟨[], [], [], []⟩
/-- The fact's text, ahead of the store; the store's; behind it. -/
def cutA : Code → Code
  | .seq a (.seq b _) => .seq a b
  | c => c
def cutR : Code → Code
  | .seq _ (.seq _ (.seq _ (.seq _ c))) => c
  | c => c
/-- It ends here with a row in slot 1. -/
def midF (r : AV) (e : Exit) (σ : DS) : Prop := match e with
  | .normal => match σ.tm.getD 1 .any with
    | .row b n => match σ.fview.bl b with
      | .row _ s m x => if m = n ∧ s = 1 ∧ σ.tm.length = 103 then fSame x r else fStuckL "row" σ σ
      | _ => fStuckL "block" σ σ
    | _ => fStuckL "slot" σ σ
  | _ => fStuck "exit"
/-- It ends with a result without memory. -/
def endF (P : Program) (fn : Func) (r : AV) (e : Exit) (σ' : DS) : Prop :=
  if exits e then (match resultD P fn σ' with
    | some d => match out2 σ'.fview d .sc with
      | some (x, obs) => obsF obs (fSame x r)
      | none => fStuck "what goes out"
    | none => fStuck "results") else fStuck "exit"
noncomputable abbrev body : Code := Try.f4.body.getD .skip
theorem mid_form (r : AV) : runC Try.prog Γ (inF Try.prog Γ ann 3) ann 4 (cutA body) ⟨List.replicate 103 (.c undef), [], 1, .nil⟩ (midF r) = ((∃ r65 : AV, ((Fn Try.prog 11 [(AV.int 0)] (Sh.row 64 6 true) r65) ∧
(∃ r257 : AV, ((Fn Try.prog 11 [(AV.int 0)] (Sh.row 64 6 true) r257) ∧
(∃ r385 : AV, ((Fn Try.prog 11 [(AV.int 200)] (Sh.row 64 6 true) r385) ∧
(fSame (AV.mk 1 [[(AV.mk 2 [[(AV.int 0), r65]])], [(AV.mk 2 [[(AV.int 0), r257], [(AV.int 5), r385]])]]) r)))))))) := by kernel_rfl
theorem rest_form (x0 x1 x2 x3 x4 x5 x6 x7 x8 x9 r : AV) : runC Try.prog Γ (inF Try.prog Γ ann 3) ann 4 (cutR body) ⟨[.v x0, .v x1, .v x2, .v x3, .v x4, .v x5, .v x6, .v x7, .v x8, .v x9] ++ List.replicate 93 .any, [], 1, (.t (.t (.t (.t (.t (.t (.t (.t (.t (.t .nil))))))))))⟩ (endF Try.prog Try.f4 r) = ((∃ r65 : AV, ((Fn Try.prog 12 [] Sh.sc r65) ∧
(∃ r129 : AV, ((Fn Try.prog 5 [x1, r65] (Sh.tup [Sh.p, Sh.sc, Sh.sc]) r129) ∧
(∃ r705 : AV, ((Fn Try.prog 12 [] Sh.sc r705) ∧
(∃ r769 : AV, ((Fn Try.prog 13 [x1, r705] (Sh.tup [(Sh.row 46 2 false), Sh.sc]) r769) ∧
((AV.binOk Go.BinOp.eql x4 (AV.int 0)) ∧
((AV.isBool (AV.bin Go.BinOp.eql x4 (AV.int 0))) ∧
((isT (AV.bin Go.BinOp.eql x4 (AV.int 0))) ∧
((AV.binOk Go.BinOp.eql (AV.prj r129 2) (AV.int 8)) ∧
((AV.isBool (AV.bin Go.BinOp.eql x4 (AV.int 0))) ∧
((isT (AV.bin Go.BinOp.eql x4 (AV.int 0))) ∧
((AV.isBool (AV.bin Go.BinOp.eql (AV.prj r129 2) (AV.int 8))) ∧
((isT (AV.bin Go.BinOp.eql (AV.prj r129 2) (AV.int 8))) ∧
((AV.binOk Go.BinOp.eql (AV.prj r769 1) (AV.int 0)) ∧
((AV.isBool (AV.bin Go.BinOp.eql (AV.prj r129 2) (AV.int 8))) ∧
((isT (AV.bin Go.BinOp.eql (AV.prj r129 2) (AV.int 8))) ∧
((AV.isBool (AV.bin Go.BinOp.eql (AV.prj r769 1) (AV.int 0))) ∧
((isT (AV.bin Go.BinOp.eql (AV.prj r769 1) (AV.int 0))) ∧
(∃ r1985 : AV, ((Fn Try.prog 10 [x2, (AV.mk 1 [[(AV.int 0)], [(AV.int 1)]])] Sh.sc r1985) ∧
((AV.isBool (AV.bin Go.BinOp.eql (AV.prj r769 1) (AV.int 0))) ∧
((isT (AV.bin Go.BinOp.eql (AV.prj r769 1) (AV.int 0))) ∧
((AV.isBool r1985) ∧
((isT r1985) ∧
((AV.binOk Go.BinOp.eql x3 (AV.int 5)) ∧
((AV.isBool r1985) ∧
((isT r1985) ∧
((AV.isBool (AV.bin Go.BinOp.eql x3 (AV.int 5))) ∧
((isT (AV.bin Go.BinOp.eql x3 (AV.int 5))) ∧
((AV.binOk Go.BinOp.eql (AV.len (AV.prj r769 0)) (AV.int 1)) ∧
((AV.isBool (AV.bin Go.BinOp.eql x3 (AV.int 5))) ∧
((isT (AV.bin Go.BinOp.eql x3 (AV.int 5))) ∧
((AV.isBool (AV.bin Go.BinOp.eql (AV.len (AV.prj r769 0)) (AV.int 1))) ∧
((isT (AV.bin Go.BinOp.eql (AV.len (AV.prj r769 0)) (AV.int 1))) ∧
((AV.inb (AV.prj r769 0) (AV.int 0)) ∧
((AV.inb (AV.prj r769 0) (AV.int 0)) ∧
(∃ r3073 : AV, ((Fn Try.prog 10 [(AV.at (AV.prj r769 0) (AV.int 0) 0), (AV.mk 1 [[(AV.int 0)], [(AV.int 0)]])] Sh.sc r3073) ∧
((AV.isBool (AV.bin Go.BinOp.eql (AV.len (AV.prj r769 0)) (AV.int 1))) ∧
((isT (AV.bin Go.BinOp.eql (AV.len (AV.prj r769 0)) (AV.int 1))) ∧
((AV.isBool r3073) ∧
((isT r3073) ∧
((AV.inb (AV.prj r769 0) (AV.int 0)) ∧
((AV.inb (AV.prj r769 0) (AV.int 0)) ∧
((AV.binOk Go.BinOp.eql (AV.at (AV.prj r769 0) (AV.int 0) 1) (AV.int 0)) ∧
((AV.isBool r3073) ∧
((isT r3073) ∧
((AV.isBool (AV.bin Go.BinOp.eql (AV.at (AV.prj r769 0) (AV.int 0) 1) (AV.int 0))) ∧
((isT (AV.bin Go.BinOp.eql (AV.at (AV.prj r769 0) (AV.int 0) 1) (AV.int 0))) ∧
(∃ r3777 : AV, ((Fn Try.prog 12 [] Sh.sc r3777) ∧
(∃ r3905 : AV, ((Fn Try.prog 14 [x1, r3777, (AV.prj r769 0)] Sh.sc r3905) ∧
((AV.binOk Go.BinOp.eql r3905 (AV.int 0)) ∧
((AV.isBool (AV.bin Go.BinOp.eql (AV.at (AV.prj r769 0) (AV.int 0) 1) (AV.int 0))) ∧
((isT (AV.bin Go.BinOp.eql (AV.at (AV.prj r769 0) (AV.int 0) 1) (AV.int 0))) ∧
((AV.isBool (AV.bin Go.BinOp.eql r3905 (AV.int 0))) ∧
((isT (AV.bin Go.BinOp.eql r3905 (AV.int 0))) ∧
(∃ r4225 : AV, ((Fn Try.prog 12 [] Sh.sc r4225) ∧
(∃ r4289 : AV, ((Fn Try.prog 14 [x1, r4225, (AV.lit (Value.slice none 0 0))] Sh.sc r4289) ∧
((AV.binOk Go.BinOp.eql r4289 (AV.int 1)) ∧
((AV.isBool (AV.bin Go.BinOp.eql r3905 (AV.int 0))) ∧
((isT (AV.bin Go.BinOp.eql r3905 (AV.int 0))) ∧
((AV.isBool (AV.bin Go.BinOp.eql r4289 (AV.int 1))) ∧
((isT (AV.bin Go.BinOp.eql r4289 (AV.int 1))) ∧
(∃ r4673 : AV, ((Fn Try.prog 7 [(AV.mk 1 [[(AV.mk 2 [])]])] Sh.sc r4673) ∧
((AV.binOk Go.BinOp.eql r4673 (AV.int 8)) ∧
((AV.isBool (AV.bin Go.BinOp.eql r4289 (AV.int 1))) ∧
((isT (AV.bin Go.BinOp.eql r4289 (AV.int 1))) ∧
((AV.flat (AV.bin Go.BinOp.eql r4673 (AV.int 8))) ∧
(fSame (AV.bin Go.BinOp.eql r4673 (AV.int 8)) r)))))))))))))))))))))))))))))))))))))))))))))))))))))))))))))))))))))))))))))) := by kernel_rfl
end JtX
end Go.Proofs.Ytaomlgfamnfcjaa
/- joint resolutions: the law's fact: around its store. -/

namespace Go.Proofs.Ytaomlgfamnfcjaa
open Go.RowKit
set_option linter.unusedVariables false
set_option linter.unusedSimpArgs false
set_option maxRecDepth 100000
set_option maxHeartbeats 4000000
/-! ### what a store of a slice into a cell that held one leaves -/
theorem rv_flat_set {w : World} {ok : Nat → Prop} {s : Nat} {L : List (List AV)} {v : Value} {p : Addr} (u : Value) (hL : ∀ i j, i < L.length → j < s → ∃ n, gt2 L i j = .int n) (h : RV w ok (.sl s L) v) (hp : ∃ A n k, w.cell? p = some (.slice A n k)) : RV (w.setCell p u) ok (.sl s L) v := by
  obtain ⟨B, m, k, hp⟩ := hp
  cases h with
  | sl _ _ A n c us hn hnc hc hs hA hone hu =>
  refine .sl s L A n c us hn hnc hc hs (fun q => ?_) hone (fun i j hi hj => ?_)
  · obtain ⟨b, off, e1, e2, e3, e4⟩ := hA q
    refine ⟨b, off, e1, e2, by simpa [World.setCell] using e3, fun i j hi hj => ?_⟩
    obtain ⟨n', hn'⟩ := hL i j (by omega) hj
    have h1 := hu i j hi hj
    rw [hn'] at h1
    have h2 := RV.lit_iff.1 h1
    rw [World.cell?_setCell_other]
    · exact e4 i j hi hj
    · intro e
      have := e4 i j hi hj
      rw [← e, hp, h2] at this
      cases this
  · obtain ⟨n', hn'⟩ := hL i j (by omega) hj
    have h1 := hu i j hi hj
    rw [hn'] at h1 ⊢
    have h2 := RV.lit_iff.1 h1
    rw [h2]; exact .lit _
theorem ints_flat (c : List Int) : ∀ i j, i < (c.map encI).length → j < 1 → ∃ n, gt2 (c.map encI) i j = .int n := fun i j hi hj => by
  have hi : i < c.length := by simpa using hi
  obtain rfl : j = 0 := by omega
  exact ⟨c[i], by simp [gt2, List.getD_eq_getElem?_getD, List.getElem?_eq_getElem hi, encI]⟩
theorem tube_flat (l : List Nd) : ∀ i j, i < (l.map encN).length → j < 6 → ∃ n, gt2 (l.map encN) i j = .int n := fun i j hi hj => by
  have hi : i < l.length := by simpa using hi
  have : j = 0 ∨ j = 1 ∨ j = 2 ∨ j = 3 ∨ j = 4 ∨ j = 5 := by omega
  rcases this with rfl | rfl | rfl | rfl | rfl | rfl <;> exact ⟨_, by simp [gt2, List.getD_eq_getElem?_getD, List.getElem?_eq_getElem hi, encN]; rfl⟩
theorem ops1_set {w : World} {ok : Nat → Prop} {x : Jo} {v : Value} {b off : Nat} (u : Value) (h : RV w ok (ops [x]) v) (h0 : ∃ A n k, w.cell? ⟨b, off, none⟩ = some (.slice A n k)) (h1 : ∃ A n k, w.cell? ⟨b, off + 1, none⟩ = some (.slice A n k)) : RV (w.setCell ⟨b, off + 1, none⟩ u) ok (ops [x]) v := by
  cases h with
  | sl _ _ A n c us hn hnc hc hs hA hone hu =>
  have hn1 : n = 1 := hn.symm
  subst hn1
  have c0 : us 0 0 = .int .i64 x.c := RV.lit_iff.1 (hu 0 0 (by omega) (by omega))
  have c1 : RV w ok (tube x.t) (us 0 1) := hu 0 1 (by omega) (by omega)
  refine .sl _ _ A 1 c us hn hnc hc hs (fun q => ?_) hone (fun i j hi hj => ?_)
  · obtain ⟨b', off', e1, e2, e3, e4⟩ := hA q
    refine ⟨b', off', e1, e2, by simpa [World.setCell] using e3, fun i j hi hj => ?_⟩
    rw [World.cell?_setCell_other]
    · exact e4 i j hi hj
    · intro e
      injection e with eb eo
      obtain rfl : i = 0 := by omega
      have k0 := e4 0 0 (by omega) (by omega)
      have : j = 0 ∨ j = 1 := by omega
      rcases this with rfl | rfl
      · obtain ⟨B, m, k, h1⟩ := h1
        rw [c0] at k0
        rw [eb, eo, k0] at h1
        cases h1
      · obtain ⟨B, m, k, h0⟩ := h0
        have : off = off' + 0 * 2 + 0 := by omega
        rw [c0, ← this, ← eb, h0] at k0
        cases k0
  · obtain rfl : i = 0 := by omega
    have : j = 0 ∨ j = 1 := by omega
    rcases this with rfl | rfl
    · show RV _ ok (.int x.c) (us 0 0)
      rw [c0]; exact .lit _
    · exact rv_flat_set u (tube_flat x.t) c1 h1
theorem ops_head {w : World} {ok : Nat → Prop} {x y : Jo} {A : Option Addr} {n c : Nat} (h : RV w ok (ops [x, y]) (.slice A n c)) : RV w ok (ops [x]) (.slice A 1 c) := by
  cases h with
  | sl _ _ _ _ _ us hn hnc hc hs hA hone hu =>
  have hn1 : n = 2 := hn.symm
  subst hn1
  refine .sl _ _ A 1 c us rfl (by omega) hc (fun z hz => hs z (by simp at hz ⊢; exact .inl hz)) (fun _ => ?_) (fun i j hi hj => hone i j (by omega) hj) (fun i j hi hj => ?_)
  · obtain ⟨b, off, e1, e2, e3, e4⟩ := hA (by omega)
    exact ⟨b, off, e1, e2, e3, fun i j hi hj => e4 i j (by omega) hj⟩
  · obtain rfl : i = 0 := by omega
    exact hu 0 j (by omega) hj
/-- The options that the fact makes; what lies there. -/
theorem opss_at {w : World} {ok : Nat → Prop} {v : Value} (h : RV w ok (opss L0) v) : ∃ b off c A0 c0 A1 c1, v = .slice (some ⟨b, off, none⟩) 2 c ∧ ok b ∧ b < w.heap.size ∧ w.cell? ⟨b, off, none⟩ = some (.slice A0 1 c0) ∧ w.cell? ⟨b, off + 1, none⟩ = some (.slice A1 2 c1) ∧ 1 ≤ c1 ∧ 2 ≤ c ∧
    RV w ok (ops [jA]) (.slice A0 1 c0) ∧ RV w ok (ops [jA, jB]) (.slice A1 2 c1) ∧
    ∀ w' : World, w.heap.size ≤ w'.heap.size → w'.cell? ⟨b, off, none⟩ = some (.slice A0 1 c0) → w'.cell? ⟨b, off + 1, none⟩ = some (.slice A1 1 c1) → RV w' ok (ops [jA]) (.slice A0 1 c0) → RV w' ok (ops [jA]) (.slice A1 1 c1) → RV w' ok (opss L1) v := by
  cases h with
  | sl _ _ A n c us hn hnc hc hs hA hone hu =>
  have hn1 : n = 2 := hn.symm
  subst hn1
  obtain ⟨b, off, rfl, e2, e3, e4⟩ := hA (by omega)
  have r0 : RV w ok (ops [jA]) (us 0 0) := hu 0 0 (by omega) (by omega)
  have r1 : RV w ok (ops [jA, jB]) (us 1 0) := hu 1 0 (by omega) (by omega)
  have k0 := e4 0 0 (by omega) (by omega)
  have k1 := e4 1 0 (by omega) (by omega)
  generalize us 0 0 = u0 at r0 k0
  generalize us 1 0 = u1 at r1 k1
  have r0' := r0
  have r1' := r1
  cases r0' with
  | sl _ _ A0 n0 c0 us0 hn0 _ _ _ _ _ _ =>
  cases r1' with
  | sl _ _ A1 n1 c1 us1 hn1 hnc1 _ _ _ _ _ =>
  obtain rfl : n0 = 1 := hn0.symm
  obtain rfl : n1 = 2 := hn1.symm
  refine ⟨b, off, c, A0, c0, A1, c1, rfl, e2, e3, k0, k1, by omega, hnc, r0, r1, fun w' z0 z1 z2 z3 z4 => ?_⟩
  refine .sl _ _ _ 2 c (fun i _ => if i = 0 then .slice A0 1 c0 else .slice A1 1 c1) rfl hnc hc (fun x hx => ?_) (fun _ => ⟨b, off, rfl, e2, by omega, fun i j hi hj => ?_⟩) (fun i j hi hj => ?_) (fun i j hi hj => ?_)
  · simp [L1] at hx; rw [hx]; rfl
  all_goals
    obtain rfl : j = 0 := by omega
    have : i = 0 ∨ i = 1 := by omega
    rcases this with rfl | rfl
  · exact z1
  · exact z2
  · rfl
  · rfl
  · exact z3
  · exact z4
theorem gl_none (B : Nat) (w : World) (ok : Nat → Prop) : Gl B w ok := ⟨fun p hp => absurd hp (by simp [globL]), fun g hg => absurd hg (by simp [globI])⟩
end Go.Proofs.Ytaomlgfamnfcjaa
/- joint resolutions: the law's fact: Best, and the store behind it. -/
namespace Go.Proofs.Ytaomlgfamnfcjaa
open Go.RowKit
set_option linter.unusedVariables false
set_option linter.unusedSimpArgs false
set_option maxRecDepth 100000
set_option maxHeartbeats 4000000
theorem reg_of {P : Program} {Q : Exit → Act → World → Prop} {a : Act} {w : World} {o : Option Code} {c : Code} (h : o = some c) (hw : c.wp P Q a w) : (o.getD .skip).wp P Q a w := by rw [h]; exact hw
/-- The call of Best and the store, and a text behind them. -/
def cut2 (R : Code) : Option Code → Option Code
  | some (.seq _ (.seq _ (.seq c (.seq d _)))) => some (.seq c (.seq d R))
  | _ => none
theorem near_val {w : World} {ok : Nat → Prop} {v : Value} (h : RV w ok (sp sN) v) : v = .agg #[.int .i64 100, .int .i64 1000] := by
  cases h with
  | agg _ vs hl h1 hh =>
  obtain ⟨vs⟩ := vs
  match vs, hl with
  | [a, b], _ =>
    have h0 : a = .int .i64 100 := RV.lit_iff.1 (hh 0 (by simp [encSp]))
    have h1 : b = .int .i64 1000 := RV.lit_iff.1 (hh 1 (by simp [encSp]))
    rw [h0, h1]
theorem best_val {W : World} {okn : Nat → Prop} {B : Nat} {v : Value} (h : RS2 W okn B (.tup [ints [0, 1], .int 5, .int 0]) v (.tup [.p, .sc, .sc])) : ∃ vb, v = .tuple #[vb, .int .i64 5, .int .i64 0] ∧ RV W okn (ints [0, 1]) vb := by
  obtain ⟨vs, rfl, hl, _, hh⟩ := h
  obtain ⟨vs⟩ := vs
  match vs, hl with
  | [a, b, c], _ =>
    have h0 : RV W okn (ints [0, 1]) a := hh 0 (by simp)
    have h1 : b = .int .i64 5 := RV.lit_iff.1 (hh 1 (by simp))
    have h2 : c = .int .i64 0 := RV.lit_iff.1 (hh 2 (by simp))
    exact ⟨a, by rw [h1, h2], h0⟩
theorem mid_wp {Q : Exit → Act → World → Prop} {R : Code} {base : Nat} {w1 : World} {e : Nat} {okc : Nat → Prop} {VL : Value} (hrow : RRow w1 base e 1 okc (opss L0) VL) (hok : ∀ g, okc g → base ≤ g) (D : List Deferred) (x0 x2 x3 x4 x5 x6 x7 x8 x9 x10 x11 x12 x13 x14 x15 x16 x17 x18 x19 x20 x21 x22 x23 x24 x25 x26 x27 x28 x29 x30 x31 x32 x33 x34 x35 x36 x37 x38 x39 x40 x41 x42 x43 x44 x45 x46 x47 x48 x49 x50 x51 x52 x53 x54 x55 x56 x57 x58 x59 x60 x61 x62 x63 x64 x65 x66 x67 x68 x69 x70 x71 x72 x73 x74 x75 x76 x77 x78 x79 x80 x81 x82 x83 x84 x85 x86 x87 x88 x89 x90 x91 x92 x93 x94 x95 x96 x97 x98 x99 x100 x101 x102 : Value)
    (hR : ∀ (T : Array Value) (w3 : World) (vb : Value), T.size = 103 → T.getD 1 undef = VL → T.getD 2 undef = vb → T.getD 3 undef = .int .i64 5 → T.getD 4 undef = .int .i64 0 → RV w3 (fun g => base ≤ g) (opss L1) VL → RV w3 (fun g => base ≤ g) (ints [0, 1]) vb →
      Below base w1 w3 → KeepsOthers w1 w3 → w1.drawn ≤ w3.drawn → R.wp Try.prog Q ⟨T, D⟩ w3) :
    ((cut2 R Try.f4.body).getD .skip).wp Try.prog Q ⟨#[x0, VL, x2, x3, x4, x5, x6, x7, x8, x9, x10, x11, x12, x13, x14, x15, x16, x17, x18, x19, x20, x21, x22, x23, x24, x25, x26, x27, x28, x29, x30, x31, x32, x33, x34, x35, x36, x37, x38, x39, x40, x41, x42, x43, x44, x45, x46, x47, x48, x49, x50, x51, x52, x53, x54, x55, x56, x57, x58, x59, x60, x61, x62, x63, x64, x65, x66, x67, x68, x69, x70, x71, x72, x73, x74, x75, x76, x77, x78, x79, x80, x81, x82, x83, x84, x85, x86, x87, x88, x89, x90, x91, x92, x93, x94, x95, x96, x97, x98, x99, x100, x101, x102], D⟩ w1 := by
  have hv : RV w1 (fun g => base ≤ g ∧ g < w1.heap.size) (opss L0) VL := hrow.rv (fun g h1 h2 => ⟨hok g h1, h2⟩) (fun g hg => hrow.lt hg)
  obtain ⟨b, off, c, A0, c0, A1, c1, rfl, hokb, hb, k0, k1, hc1, hc, r0, r1, hnew⟩ := opss_at hv
  obtain ⟨cur, hheap, rfl⟩ : ∃ cur, w1.heap[b]? = some (.cells cur e (0, 0)) ∧ off = 0 := by
    obtain ⟨L, xs, _, _, _, ho, _⟩ := hrow
    rcases ho.2 with ⟨h0, _⟩ | ⟨g, cap, cur, h0, _, h1, _⟩
    · cases h0
    · injection h0 with h0
      injection h0 with h0
      injection h0 with h0 h00
      subst h0
      exact ⟨cur, h1, h00⟩
  have hc1' : (1 : Int) ≤ (c1 : Int) := by omega
  refine reg_of rfl ?_
  go_wp2_with fail
  refine (near_fn.2 w1 (fun g => base ≤ g ∧ g < w1.heap.size) #[] (fun g hg => hg.2) (gl_none _ _ _) rfl (fun i hi => absurd hi (by simp))).mono ?_
  rintro _ w2 ⟨vs, rfl, hb2, hR2, _, hd2⟩
  obtain rfl := near_val (show RV w2 noBlock (sp sN) vs from hR2)
  clear hR2
  go_wp2_with fail
  have hs2 := hb2.size
  have hv2 : RV w2 (fun g => base ≤ g ∧ g < w2.heap.size) (opss L0) (.slice (some ⟨b, 0, none⟩) 2 c) := hv.mono fun g hg hl => ⟨⟨hg.1, by omega⟩, hb2.block g hl⟩
  refine (best0_fn.2 w2 (fun g => base ≤ g ∧ g < w2.heap.size) #[.slice (some ⟨b, 0, none⟩) 2 c, .agg #[.int .i64 100, .int .i64 1000]] (fun g hg => hg.2) (gl_none _ _ _) rfl (fun i hi => by
    match i, hi with
    | 0, _ => exact hv2
    | 1, _ => exact rv_sp w2 _ sN)).mono ?_
  rintro _ w3 ⟨vr, rfl, hb3, hR3, _, hd3⟩
  obtain ⟨vb, rfl, hvb⟩ := best_val hR3
  clear hR3
  have hs3 := hb3.size
  have hb13 : Below w1.heap.size w1 w3 := hb2.trans (hb3.mono hs2)
  have hheap3 : w3.heap[b]? = some (.cells cur e (0, 0)) := (hb13.block b hb).trans hheap
  have k03 : w3.cell? ⟨b, 0, none⟩ = some (.slice A0 1 c0) := (World.cell?_of_block (a := ⟨b, 0, none⟩) (hb13.block b hb)).trans k0
  have k13 : w3.cell? ⟨b, 0 + 1, none⟩ = some (.slice A1 2 c1) := (World.cell?_of_block (a := ⟨b, 0 + 1, none⟩) (hb13.block b hb)).trans k1
  have hfz : w3.frozen? ⟨b, 0 + 1, none⟩ = false := by unfold World.frozen?; simp only [hheap3]; simp
  go_wp2_with fail
  obtain ⟨w4, hw4⟩ : ∃ w4, w4 = w3.setCell ⟨b, 0 + 1, none⟩ (.slice A1 1 c1) := ⟨_, rfl⟩
  have hsz4 : w4.heap.size = w3.heap.size := by rw [hw4]; simp [World.setCell]
  have k04 : w4.cell? ⟨b, 0, none⟩ = some (.slice A0 1 c0) := by rw [hw4]; exact (World.cell?_setCell_other (a := ⟨b, 0 + 1, none⟩) (b := ⟨b, 0, none⟩) _ _ (by intro e; injection e with e1 e2; omega)).trans k03
  have k14 : w4.cell? ⟨b, 0 + 1, none⟩ = some (.slice A1 1 c1) := by rw [hw4]; exact World.cell?_setCell_same _ _ _ k13
  have up : ∀ {x : AV} {v : Value}, RV w1 (fun g => base ≤ g ∧ g < w1.heap.size) x v → RV w3 (fun g => base ≤ g ∧ g < w1.heap.size) x v := fun h => h.mono fun g hg hl => ⟨hg, hb13.block g hl⟩
  have s0 : RV w4 (fun g => base ≤ g ∧ g < w1.heap.size) (ops [jA]) (.slice A0 1 c0) := by rw [hw4]; exact ops1_set _ (up r0) ⟨_, _, _, k03⟩ ⟨_, _, _, k13⟩
  have s1 : RV w4 (fun g => base ≤ g ∧ g < w1.heap.size) (ops [jA]) (.slice A1 1 c1) := by rw [hw4]; exact ops1_set _ (ops_head (up r1)) ⟨_, _, _, k03⟩ ⟨_, _, _, k13⟩
  have hL1 := hnew w4 (by omega) k04 k14 s0 s1
  have hB4 : RV w4 (fun g => base ≤ g) (ints [0, 1]) vb := by
    have h1 : RV w3 (fun g => base ≤ g) (ints [0, 1]) vb := hvb.mono fun g hg hl => ⟨by
      rcases hg with hg | hg
      · exact hg.1
      · have := hg.1; omega, rfl⟩
    rw [hw4]
    exact rv_flat_set _ (ints_flat [0, 1]) h1 ⟨_, _, _, k13⟩
  have hbel : Below base w1 w4 := by
    rw [hw4]
    exact (hb13.mono (by omega)).setCell hokb.1 _
  have hko : KeepsOthers w1 w4 := by
    have h13 : KeepsOthers w1 w3 := ⟨hb13.size, fun k o hk _ => (hb13.block k (Array.getElem?_eq_some_iff.1 hk).1).trans hk⟩
    rw [hw4]
    exact h13.trans (KeepsOthers.setCell _ _ _)
  have hdr : w1.drawn ≤ w4.drawn := by rw [hw4]; exact Nat.le_trans hd2 hd3
  have hfin := fun T h1 h2 h3 h4 h5 => hR T w4 vb h1 h2 h3 h4 h5 (hL1.mono fun g hg hl => ⟨hg.1, rfl⟩) hB4 hbel hko hdr
  rw [hw4] at hfin
  exact hfin _ rfl rfl rfl rfl rfl
end Go.Proofs.Ytaomlgfamnfcjaa
/- joint resolutions: the law's fact holds. -/
namespace Go.Proofs.Ytaomlgfamnfcjaa
open Go.RowKit
set_option linter.unusedVariables false
set_option linter.unusedSimpArgs false
set_option maxRecDepth 100000
set_option maxHeartbeats 4000000
theorem arr103 (T : Array Value) (h : T.size = 103) : T = #[T.getD 0 undef, T.getD 1 undef, T.getD 2 undef, T.getD 3 undef, T.getD 4 undef, T.getD 5 undef, T.getD 6 undef, T.getD 7 undef, T.getD 8 undef, T.getD 9 undef, T.getD 10 undef, T.getD 11 undef, T.getD 12 undef, T.getD 13 undef, T.getD 14 undef, T.getD 15 undef, T.getD 16 undef, T.getD 17 undef, T.getD 18 undef, T.getD 19 undef, T.getD 20 undef, T.getD 21 undef, T.getD 22 undef, T.getD 23 undef, T.getD 24 undef, T.getD 25 undef, T.getD 26 undef, T.getD 27 undef, T.getD 28 undef, T.getD 29 undef, T.getD 30 undef, T.getD 31 undef, T.getD 32 undef, T.getD 33 undef, T.getD 34 undef, T.getD 35 undef, T.getD 36 undef, T.getD 37 undef, T.getD 38 undef, T.getD 39 undef, T.getD 40 undef, T.getD 41 undef, T.getD 42 undef, T.getD 43 undef, T.getD 44 undef, T.getD 45 undef, T.getD 46 undef, T.getD 47 undef, T.getD 48 undef, T.getD 49 undef, T.getD 50 undef, T.getD 51 undef, T.getD 52 undef, T.getD 53 undef, T.getD 54 undef, T.getD 55 undef, T.getD 56 undef, T.getD 57 undef, T.getD 58 undef, T.getD 59 undef, T.getD 60 undef, T.getD 61 undef, T.getD 62 undef, T.getD 63 undef, T.getD 64 undef, T.getD 65 undef, T.getD 66 undef, T.getD 67 undef, T.getD 68 undef, T.getD 69 undef, T.getD 70 undef, T.getD 71 undef, T.getD 72 undef, T.getD 73 undef, T.getD 74 undef, T.getD 75 undef, T.getD 76 undef, T.getD 77 undef, T.getD 78 undef, T.getD 79 undef, T.getD 80 undef, T.getD 81 undef, T.getD 82 undef, T.getD 83 undef, T.getD 84 undef, T.getD 85 undef, T.getD 86 undef, T.getD 87 undef, T.getD 88 undef, T.getD 89 undef, T.getD 90 undef, T.getD 91 undef, T.getD 92 undef, T.getD 93 undef, T.getD 94 undef, T.getD 95 undef, T.getD 96 undef, T.getD 97 undef, T.getD 98 undef, T.getD 99 undef, T.getD 100 undef, T.getD 101 undef, T.getD 102 undef] := by
  have e : T = ((List.range 103).map fun i => T.getD i undef).toArray := by
    refine Array.ext (by simp [h]) fun i hi hi2 => ?_
    simp [Array.getD_eq_getD_getElem?, Array.getElem?_eq_getElem hi]
  exact e.trans rfl
def isS4 : Code → Bool
  | .seq _ (.seq _ (.seq _ (.seq _ _))) => true
  | _ => false
theorem parts4 {c : Code} (h : isS4 c = true) : ∃ a b c2 c3 R, c = .seq a (.seq b (.seq c2 (.seq c3 R))) := by
  unfold isS4 at h
  split at h
  · exact ⟨_, _, _, _, _, rfl⟩
  · cases h
theorem rest_hs {base : Nat} {w w3 : World} {T : Array Value} {D : List Deferred} (hT : T.size = 103) (h1 : T.getD 1 undef = T.getD 1 undef) {vb VL : Value} (g1 : T.getD 1 undef = VL) (g2 : T.getD 2 undef = vb) (h3 : T.getD 3 undef = .int .i64 5) (h4 : T.getD 4 undef = .int .i64 0)
    (hL1 : RV w3 (fun g => base ≤ g) (opss L1) VL) (hB : RV w3 (fun g => base ≤ g) (ints [0, 1]) vb) (hbel : Below base w w3) (hlow : base ≤ w3.heap.size) (hdr : w.drawn ≤ w3.drawn) (hnod : NoD base w w3 D) (oc : Orc) :
    HS base w noBlock ⟨[.v (.lit (T.getD 0 undef)), .v (opss L1), .v (ints [0, 1]), .v (.int 5), .v (.int 0), .v (.lit (T.getD 5 undef)), .v (.lit (T.getD 6 undef)), .v (.lit (T.getD 7 undef)), .v (.lit (T.getD 8 undef)), .v (.lit (T.getD 9 undef))] ++ List.replicate 93 .any, [], 1, oc⟩ (fun _ => undef) ⟨T, D⟩ w3 := by
  clear h1
  have h1 := g1
  have h2 := g2
  have hok : ∀ g, base ≤ g → okF base noBlock (fun _ => DB.dead) (fun _ => undef) g := fun g hg => ⟨fun h => by omega, fun b hl => by cases hl⟩
  refine ⟨fun t => ?_, fun b => rfl, fun b b' hl => (by cases hl), fun b _ => rfl, hT, hnod, hbel, hlow, hdr, gl_none _ _ _⟩
  by_cases ht : t < 10
  · match t, ht with
    | 0, _ => exact .v _ _ (.lit _)
    | 1, _ => exact .v _ _ (by rw [h1]; exact hL1.mono fun g hg hl => ⟨hok g hg, rfl⟩)
    | 2, _ => exact .v _ _ (by rw [h2]; exact hB.mono fun g hg hl => ⟨hok g hg, rfl⟩)
    | 3, _ => exact .v _ _ (by rw [h3]; exact .lit _)
    | 4, _ => exact .v _ _ (by rw [h4]; exact .lit _)
    | 5, _ => exact .v _ _ (.lit _)
    | 6, _ => exact .v _ _ (.lit _)
    | 7, _ => exact .v _ _ (.lit _)
    | 8, _ => exact .v _ _ (.lit _)
    | 9, _ => exact .v _ _ (.lit _)
  · have e1 : ([DE.v (.lit (T.getD 0 undef)), .v (opss L1), .v (ints [0, 1]), .v (.int 5), .v (.int 0), .v (.lit (T.getD 5 undef)), .v (.lit (T.getD 6 undef)), .v (.lit (T.getD 7 undef)), .v (.lit (T.getD 8 undef)), .v (.lit (T.getD 9 undef))] ++ List.replicate 93 DE.any).getD t .any = .any := by
      rw [List.getD_eq_getElem?_getD, List.getElem?_append_right (by simp; omega), List.getElem?_replicate]
      split <;> rfl
    show RD _ _ _ _ _ (([DE.v (.lit (T.getD 0 undef)), .v (opss L1), .v (ints [0, 1]), .v (.int 5), .v (.int 0), .v (.lit (T.getD 5 undef)), .v (.lit (T.getD 6 undef)), .v (.lit (T.getD 7 undef)), .v (.lit (T.getD 8 undef)), .v (.lit (T.getD 9 undef))] ++ List.replicate 93 DE.any).getD t .any) _
    rw [e1]; exact .any _
theorem rest_run (v0 v5 v6 v7 v8 v9 : Value) : runC Try.prog JtX.Γ (inF Try.prog JtX.Γ JtX.ann 3) JtX.ann 4 (JtX.cutR JtX.body) ⟨[.v (.lit v0), .v (opss L1), .v (ints [0, 1]), .v (.int 5), .v (.int 0), .v (.lit v5), .v (.lit v6), .v (.lit v7), .v (.lit v8), .v (.lit v9)] ++ List.replicate 93 .any, [], 1, (.t (.t (.t (.t (.t (.t (.t (.t (.t (.t .nil))))))))))⟩ (JtX.endF Try.prog Try.f4 (.bool true)) := by
  rw [JtX.rest_form]
  have q1 := equal_fn [0, 1] [0, 1] (by decide)
  have q2 := equal_fn [0, 0] [0, 0] (by decide)
  rw [decide_eq_true rfl] at q1 q2
  have a0 : AV.at (AV.prj (.tup [rfs, .int 0]) 0) (.int 0) 0 = ints [0, 0] := rfl
  have a1 : AV.at (AV.prj (.tup [rfs, .int 0]) 0) (.int 0) 1 = .int 0 := rfl
  have al : AV.len (AV.prj (.tup [rfs, .int 0]) 0) = .int 1 := rfl
  refine ⟨_, near_fn, _, best1_fn, _, near_fn, _, refute_fn, ?_⟩
  rw [a0, a1, al]
  refine ⟨by simp, by simp, by simp, by simp, by simp, by simp, by simp, by simp, by simp, by simp, by simp, by simp, by simp, _, q1, by simp, by simp, by simp, rfl, by simp, by simp, rfl, by simp, by simp, by simp, by simp, by simp, by simp, by simp, by simp, by simp, _, q2, by simp, by simp, by simp, rfl, by simp, by simp, by simp, by simp, rfl, by simp, by simp, _, near_fn, _, refuted1_fn, by simp, by simp, by simp, by simp, by simp, _, near_fn, _, refuted0_fn, by simp, by simp, by simp, by simp, by simp, _, check0_fn, by simp, by simp, by simp, by simp, by simp⟩
theorem mid_run : runC Try.prog JtX.Γ (inF Try.prog JtX.Γ JtX.ann 3) JtX.ann 4 (JtX.cutA JtX.body) ⟨List.replicate 103 (.c undef), [], 1, .nil⟩ (JtX.midF (opss L0)) := by
  rw [JtX.mid_form]
  exact ⟨_, still_fn 0, _, still_fn 0, _, still_fn 200, rfl⟩
theorem fact_fn : Fn Try.prog 4 [] .sc (.bool true) := by
  refine ⟨Try.call4, fun w ok cargs hokl hgl hsz hargs => calls_marks (c := JtX.body) Try.func4 rfl ?_⟩
  obtain rfl : cargs = #[] := Array.size_eq_zero_iff.1 (by simpa using hsz)
  obtain ⟨T0, hT0⟩ : ∃ T0, T0 = (#[] ++ Array.replicate (Try.f4.ntmps - (#[] : Array Value).size) undef : Array Value) := ⟨_, rfl⟩
  rw [← hT0]
  have hs0 : T0.size = 103 := by rw [hT0, Try.ntmps4]; simp
  have hu0 : ∀ t, T0.getD t undef = undef := fun t => by rw [hT0, Array.getD_eq_getD_getElem?]; simp [Array.getElem?_replicate]; split <;> rfl
  clear hT0
  have h0 : HS w.heap.size w noBlock ⟨List.replicate 103 (.c undef), [], 1, .nil⟩ (fun _ => undef) ⟨T0, []⟩ w := by
    refine ⟨fun t => ?_, fun b => rfl, fun b b' hl => (by cases hl), fun b _ => rfl, hs0, NoD.nil _ _, Below.refl _ _, Nat.le_refl _, Nat.le_refl _, gl_none _ _ _⟩
    show RD _ _ _ _ _ ((List.replicate 103 (DE.c undef)).getD t .any) (T0.getD t undef)
    rw [hu0 t, List.getD_eq_getElem?_getD, List.getElem?_replicate]
    split
    · exact .c _
    · exact .any _
  have hm := mid_run
  have hr := rest_run
  obtain ⟨a, b, c2, c3, R, hc⟩ := parts4 (show isS4 JtX.body = true by kernel_rfl)
  have hcS : ((cut2 R Try.f4.body).getD .skip) = .seq c2 (.seq c3 R) := by
    have hb : Try.f4.body = some JtX.body := rfl
    rw [hb, hc]; rfl
  rw [hc] at hm hr ⊢
  have hm : runC Try.prog JtX.Γ (inF Try.prog JtX.Γ JtX.ann 3) JtX.ann 4 (.seq a b) ⟨List.replicate 103 (.c undef), [], 1, .nil⟩ (JtX.midF (opss L0)) := hm
  refine wp_seq (runC_sound mixed (inF_ok mixed 3) (inF_fr 3) a _ _ _ _ w _ hm h0 fun e σ1 ρ1 a1 w1 hk h1 => ?_)
  clear h0 hm
  cases e with
  | ret => exact (show False from hk).elim
  | exit i => exact (show False from hk).elim
  | goto i => exact (show False from hk).elim
  | panic i => exact (show False from hk).elim
  | outgrown => exact (show False from hk).elim
  | normal =>
  refine wp_seq (runC_sound mixed (inF_ok mixed 3) (inF_fr 3) b σ1 _ ρ1 a1 w1 _ hk h1 fun e σ2 ρ2 a2 w2 hk h2 => ?_)
  clear h1
  cases e with
  | ret => exact (show False from hk).elim
  | exit i => exact (show False from hk).elim
  | goto i => exact (show False from hk).elim
  | panic i => exact (show False from hk).elim
  | outgrown => exact (show False from hk).elim
  | normal =>
  obtain ⟨bk, n, e, h1, hbl, hlen⟩ : ∃ bk n e, σ2.tm.getD 1 .any = .row bk n ∧ σ2.blk bk = .row e 1 n (opss L0) ∧ σ2.tm.length = 103 := by
    unfold JtX.midF at hk
    simp only at hk
    split at hk
    · rename_i bk n h1
      split at hk
      · rename_i e s m x hb
        split at hk
        · rename_i hc
          obtain ⟨rfl, rfl, hl⟩ := hc
          have hx : x = opss L0 := hk
          subst hx
          exact ⟨bk, m, e, h1, hb, hl⟩
        · exact hk.elim
      · exact hk.elim
    · exact hk.elim
  have hrow := h2.row hbl
  have hslot : a2.tmps.getD 1 undef = ρ2 bk := by
    have := h2.tms 1
    rw [h1] at this
    generalize a2.tmps.getD 1 undef = v at this
    cases this with
    | row _ _ _ hn h1' hs => exact hs (by rw [hbl]; rfl)
  obtain ⟨T, D⟩ := a2
  have hT : T.size = 103 := h2.size.trans hlen
  have hslot : T.getD 1 undef = ρ2 bk := hslot
  rw [← hslot] at hrow
  have key := fun hR => mid_wp (Q := markPost Try.prog Try.f4 fun e' w' => ∃ v, e' = .returned v ∧ Below w.heap.size w w' ∧ RS2 w' (okNew ok w.heap.size v .sc) w.heap.size (.bool true) v .sc ∧ RowsApart v .sc ∧ w.drawn ≤ w'.drawn) (R := R) hrow (fun g hg => Classical.byContradiction fun q => (hg.1 (by omega)).elim) D (T.getD 0 undef) (T.getD 2 undef) (T.getD 3 undef) (T.getD 4 undef) (T.getD 5 undef) (T.getD 6 undef) (T.getD 7 undef) (T.getD 8 undef) (T.getD 9 undef) (T.getD 10 undef) (T.getD 11 undef) (T.getD 12 undef) (T.getD 13 undef) (T.getD 14 undef) (T.getD 15 undef) (T.getD 16 undef) (T.getD 17 undef) (T.getD 18 undef) (T.getD 19 undef) (T.getD 20 undef) (T.getD 21 undef) (T.getD 22 undef) (T.getD 23 undef) (T.getD 24 undef) (T.getD 25 undef) (T.getD 26 undef) (T.getD 27 undef) (T.getD 28 undef) (T.getD 29 undef) (T.getD 30 undef) (T.getD 31 undef) (T.getD 32 undef) (T.getD 33 undef) (T.getD 34 undef) (T.getD 35 undef) (T.getD 36 undef) (T.getD 37 undef) (T.getD 38 undef) (T.getD 39 undef) (T.getD 40 undef) (T.getD 41 undef) (T.getD 42 undef) (T.getD 43 undef) (T.getD 44 undef) (T.getD 45 undef) (T.getD 46 undef) (T.getD 47 undef) (T.getD 48 undef) (T.getD 49 undef) (T.getD 50 undef) (T.getD 51 undef) (T.getD 52 undef) (T.getD 53 undef) (T.getD 54 undef) (T.getD 55 undef) (T.getD 56 undef) (T.getD 57 undef) (T.getD 58 undef) (T.getD 59 undef) (T.getD 60 undef) (T.getD 61 undef) (T.getD 62 undef) (T.getD 63 undef) (T.getD 64 undef) (T.getD 65 undef) (T.getD 66 undef) (T.getD 67 undef) (T.getD 68 undef) (T.getD 69 undef) (T.getD 70 undef) (T.getD 71 undef) (T.getD 72 undef) (T.getD 73 undef) (T.getD 74 undef) (T.getD 75 undef) (T.getD 76 undef) (T.getD 77 undef) (T.getD 78 undef) (T.getD 79 undef) (T.getD 80 undef) (T.getD 81 undef) (T.getD 82 undef) (T.getD 83 undef) (T.getD 84 undef) (T.getD 85 undef) (T.getD 86 undef) (T.getD 87 undef) (T.getD 88 undef) (T.getD 89 undef) (T.getD 90 undef) (T.getD 91 undef) (T.getD 92 undef) (T.getD 93 undef) (T.getD 94 undef) (T.getD 95 undef) (T.getD 96 undef) (T.getD 97 undef) (T.getD 98 undef) (T.getD 99 undef) (T.getD 100 undef) (T.getD 101 undef) (T.getD 102 undef) hR
  rw [← arr103 T hT, hcS] at key
  refine key fun T' w3 vb hT' g1 g2 g3 g4 hL1 hB hbel hko hdr => ?_
  have hhs := rest_hs (D := D) (w := w) hT' rfl g1 g2 g3 g4 hL1 hB (h2.bel.trans hbel) (by have := h2.low; have := hko.size; omega) (Nat.le_trans h2.drw hdr) (h2.nod.trans hko) ((.t (.t (.t (.t (.t (.t (.t (.t (.t (.t .nil)))))))))))
  refine runC_sound mixed (inF_ok mixed 3) (inF_fr 3) R _ _ _ _ w3 _ (hr _ _ _ _ _ _) hhs fun e σ3 ρ3 a3 w4 hk h' => ?_
  obtain ⟨Ds, hD1, hD2, hD3, h'⟩ := HR.unmark h'
  unfold JtX.endF at hk
  split at hk
  · rename_i hex
    split at hk
    · rename_i d hd
      split at hk
      · rename_i x obs hout
        obtain ⟨hobs, hxr⟩ := obsF_iff hk
        have hxr : x = .bool true := hxr
        subst hxr
        obtain ⟨v, hv1, hv2⟩ := resultD_ok h' hd
        have hp : Below w.heap.size w (turned Ds w4) ∧ RS2 (turned Ds w4) (okNew ok w.heap.size v .sc) w.heap.size (.bool true) v .sc ∧ RowsApart v .sc ∧ w.drawn ≤ (turned Ds w4).drawn := by
          have hno : ∀ j i, isRow (leafSh j i .sc) = true → False := fun j i h => by
            have h : isRow (if j = 0 then (if i = 0 then Sh.sc else Sh.sc) else Sh.sc) = true := h
            split at h
            · split at h <;> cases h
            · cases h
          refine ⟨h'.bel, out2_ok h' (fun g hg => ?_) hv2 hout hobs, fun j i j' i' hr' => (hno j i hr').elim, h'.drw⟩
          rcases Nat.lt_or_ge g w.heap.size with q | q
          · exact (hg.1 q).elim
          · exact .inr ⟨q, fun ⟨j, i, hr', _⟩ => hno j i hr'⟩
        cases e with
        | normal => exact ⟨Ds, hD1, hD2, hD3, v, hv1, v, rfl, hp⟩
        | ret => exact ⟨Ds, hD1, hD2, hD3, v, hv1, v, rfl, hp⟩
        | exit i => cases hex
        | goto i => cases hex
        | panic i => cases hex
        | outgrown => cases hex
      · exact hk.elim
    · exact hk.elim
  · exact hk.elim
end Go.Proofs.Ytaomlgfamnfcjaa
/- joint resolutions: the arguments of JointBests. -/
namespace Go.Proofs.Ytaomlgfamnfcjaa
open Go.RowKit
set_option linter.unusedVariables false
set_option linter.unusedSimpArgs false
set_option maxRecDepth 100000
theorem arg_opss {x : AV} (h : ArgOk Try.prog 22 x) : ∃ l, x = opss l ∧ l.length ≤ maxLen := by
  obtain ⟨l, e, h1, _⟩ := c_lst (P := Try.prog) (encA := encO) (Q := fun _ => True) (tys := [26]) (s := 1) (e := 26) (by kernel_rfl) (by kernel_rfl) (by kernel_rfl) (fun y hy hc => by
    obtain ⟨a, rfl⟩ := lst1 hy
    obtain ⟨s1, e1, _, _⟩ := c_lst (P := Try.prog) (encA := encJ) (Q := fun _ => True) (tys := [3, 34]) (s := 2) (e := 36) (by kernel_rfl) (by kernel_rfl) (by kernel_rfl) (fun y hy hc => by
      obtain ⟨a, b, rfl⟩ := lst2 hy
      obtain ⟨c, e1, _⟩ := c_int (by kernel_rfl) (hc 0 3 rfl)
      obtain ⟨t, e2, _, _⟩ := c_lst (P := Try.prog) (encA := encN) (Q := fun _ => True) (tys := [3, 3, 3, 3, 3, 3]) (s := 6) (e := 64) (by kernel_rfl) (by kernel_rfl) (by kernel_rfl) (fun y hy hc => by
        obtain ⟨a, b, c, d, e, f, rfl⟩ := lst6 hy
        obtain ⟨s1, e1, _⟩ := c_int (by kernel_rfl) (hc 0 3 rfl)
        obtain ⟨s2, e2, _⟩ := c_int (by kernel_rfl) (hc 1 3 rfl)
        obtain ⟨s3, e3, _⟩ := c_int (by kernel_rfl) (hc 2 3 rfl)
        obtain ⟨s4, e4, _⟩ := c_int (by kernel_rfl) (hc 3 3 rfl)
        obtain ⟨s5, e5, _⟩ := c_int (by kernel_rfl) (hc 4 3 rfl)
        obtain ⟨s6, e6, _⟩ := c_int (by kernel_rfl) (hc 5 3 rfl)
        simp at e1 e2 e3 e4 e5 e6
        exact ⟨⟨s1, s2, s3, s4, s5, s6⟩, by rw [e1, e2, e3, e4, e5, e6]; rfl, trivial⟩) (hc 1 34 rfl)
      simp at e1 e2
      exact ⟨⟨c, t⟩, by rw [e1, e2]; rfl, trivial⟩) (hc 0 26 rfl)
    simp at e1
    exact ⟨s1, by rw [e1]; rfl, trivial⟩) (arg_cell (by kernel_rfl) h)
  exact ⟨l, e, h1⟩
theorem arg_sp {x : AV} (h : ArgOk Try.prog 24 x) : ∃ q, x = sp q := by
  obtain ⟨cs, rfl, hl, hc⟩ := arg_agg (P := Try.prog) (t := 24) (tys := [3, 3]) (by kernel_rfl) (by kernel_rfl) h
  obtain ⟨a, b, rfl⟩ := lst2 hl
  obtain ⟨s1, e1, _⟩ := c_int (by kernel_rfl) (hc 0 3 rfl)
  obtain ⟨s2, e2, _⟩ := c_int (by kernel_rfl) (hc 1 3 rfl)
  simp at e1 e2
  exact ⟨⟨s1, s2⟩, by rw [e1, e2]; rfl⟩
theorem jointBests_all (xs : List AV) (h1 : xs.length = 2) (h2 : ∀ i, i < 2 → ArgOk Try.prog ([22, 24].getD i 0) (xs.getD i default)) : Fn Try.prog 3 xs .sc (.bool true) := by
  obtain ⟨a, b, rfl⟩ := lst2 h1
  obtain ⟨l, e1, hl⟩ := arg_opss (h2 0 (by omega))
  obtain ⟨s, e2⟩ := arg_sp (h2 1 (by omega))
  simp at e1 e2
  subst e1 e2
  exact law_fn fact_fn l s (by unfold maxLen at hl; omega)
end Go.Proofs.Ytaomlgfamnfcjaa
