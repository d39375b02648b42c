/- resolve: the intervals without separation; the first second of two tubes. -/
import Derived.Test.YtocgoabplafoeaaGreatDoorRes1
namespace Go.Proofs.YtocgoabplafoeaaGreatDoor
open Go.RowKit
set_option linter.unusedVariables false
set_option linter.unusedSimpArgs false
set_option maxRecDepth 100000
/-- The node at a time; the zero node where there is none. -/
def ndA (l : List Nd) (s : Int) : Nd := if tatE l s = 0 then atN l s else nd0
theorem tatV_nd (l : List Nd) (s : Int) : tatV l s = .tup [nd (ndA l s), .int (tatE l s)] := by
  unfold tatV ndA
  by_cases h : tatE l s = 0
  · rw [if_pos h, if_pos h, h]
  · rw [if_neg h, if_neg h]
def encQ (q : Int × Int) : List AV := [.int q.1, .int q.2]
abbrev qs (l : List (Int × Int)) : AV := lst 2 encQ l
theorem flat_qs (l : List (Int × Int)) : (qs l).flatS := lst_flatS fun x _ z hz => by
  simp [encQ] at hz; rcases hz with rfl | rfl <;> exact .lit _
def addS (t : Int) (out : List (Int × Int)) : List (Int × Int) := if 0 < out.length ∧ (out.getD (out.length - 1) default).2 = t then out.set (out.length - 1) ((out.getD (out.length - 1) default).1, t + 1) else out ++ [(t, t + 1)]
theorem addS_len (t : Int) (out : List (Int × Int)) : (addS t out).length ≤ out.length + 1 := by
  unfold addS
  split
  · simp
  · simp
def stpS (a b : List Nd) (s : Sp) (t : Int) (out : List (Int × Int)) : List (Int × Int) := if sepB (ndA a t) (ndA b t) s = true then out else addS t out
theorem stpS_len (a b : List Nd) (s : Sp) (t : Int) (out : List (Int × Int)) : (stpS a b s t out).length ≤ out.length + 1 := by
  unfold stpS
  split
  · omega
  · exact addS_len t out
def spansF (a b : List Nd) (s : Sp) : Int → Nat → List (Int × Int) → List (Int × Int)
  | _, 0, out => out
  | t, n + 1, out => spansF a b s (t + 1) n (stpS a b s t out)
def spnL (a b : List Nd) (s : Sp) : List (Int × Int) := spansF a b s (comA a b) (comB a b - comA a b + 1).toNat []
theorem com_bd {a b : List Nd} (ha : tE a = 0) (hb : tE b = 0) : 0 ≤ comA a b ∧ comA a b ≤ 200000 ∧ 0 ≤ comB a b ∧ comB a b ≤ 200000 := by
  obtain ⟨x, y, hx, hy, hxd, hyd, x1, x2, y1, y2, la, la2⟩ := ends_of ha
  obtain ⟨z, u, hz, hu, hzd, hud, z1, z2, u1, u2, lb, lb2⟩ := ends_of hb
  unfold comA comB mxJ
  rw [hxd, hzd, hyd, hud]
  split <;> split <;> omega
theorem spans_fn (a b : List Nd) (s : Sp) (ha : tE a = 0) (hb : tE b = 0) : Fn Tryz.prog 45 [tube a, tube b, sp s] (.row 75 2 true) (qs (spnL a b s)) := by
  have e := ResF.spans_form (tube a) (tube b) (sp s) (qs (spnL a b s))
  have k := fun h => fn_run mixed 3 (Γ := ResF.Γ) (ann := ResF.ann) Tryz.func45 rfl Tryz.call45 (e.mpr h)
  refine k ?_
  clear k e
  obtain ⟨c1, c2, c3, c4⟩ := com_bd ha hb
  have hcom := common_fn a b ha hb
  have hL : spnL a b s = spansF a b s (comA a b) (comB a b - comA a b + 1).toNat [] := rfl
  generalize spnL a b s = R at *
  generalize comA a b = F at *
  generalize comB a b = L at *
  refine ⟨by simp [encSp], _, hcom, ?_⟩
  refine loop_of (τ := Int × List (Int × Int)) (fun s => [.int s.1, qs s.2]) (fun p => F ≤ p.1 ∧ p.1 ≤ 200001 ∧ p.2.length ≤ (p.1 - F).toNat ∧ R = spansF a b s p.1 (L - p.1 + 1).toNat p.2) (fun p => (L - p.1 + 1).toNat) (F, []) rfl ⟨Int.le_refl _, by simp; omega, by simp, hL⟩ ?_
  rintro ⟨t, out⟩ ⟨i1, i2, i3, i4⟩
  simp only at i1 i2 i3 i4
  by_cases hle : t ≤ L
  · obtain ⟨n, hn⟩ : ∃ n, (L - t + 1).toNat = n + 1 := ⟨(L - t).toNat, by omega⟩
    have hn2 : (L - (t + 1) + 1).toNat = n := by omega
    rw [hn, spansF, ← hn2] at i4
    have hlen := stpS_len a b s t out
    have hta := tat_fn a t
    have htb := tat_fn b t
    rw [tatV_nd] at hta htb
    have hsp := sep_fn (ndA a t) (ndA b t) s
    have hst : stpS a b s t out = if sepB (ndA a t) (ndA b t) s = true then out else addS t out := rfl
    have wt : wr (t + 1) = t + 1 := wr_id (by omega) (by omega)
    have hK : ∀ o, o = stpS a b s t out → (fun zs : List AV => ∃ m', m' < (L - t + 1).toNat ∧ ∃ y : Int × List (Int × Int), zs = [AV.int y.1, qs y.2] ∧ (F ≤ y.1 ∧ y.1 ≤ 200001 ∧ y.2.length ≤ (y.1 - F).toNat ∧ R = spansF a b s y.1 (L - y.1 + 1).toNat y.2) ∧ (L - y.1 + 1).toNat = m') [.int (t + 1), qs o] := fun o ho => by
      rw [← ho] at i4 hlen
      exact ⟨_, by show (L - (t + 1) + 1).toNat < _; omega, (t + 1, o), rfl, ⟨by simp; omega, by simp; omega, by simp; omega, i4⟩, rfl⟩
    generalize (fun zs : List AV => ∃ m', m' < (L - t + 1).toNat ∧ ∃ y : Int × List (Int × Int), zs = [AV.int y.1, qs y.2] ∧ (F ≤ y.1 ∧ y.1 ≤ 200001 ∧ y.2.length ≤ (y.1 - F).toNat ∧ R = spansF a b s y.1 (L - y.1 + 1).toNat y.2) ∧ (L - y.1 + 1).toNat = m') = KK at *
    rw [hst] at hK
    generalize ndA a t = A at *
    generalize ndA b t = B at *
    generalize sepB A B s = c at *
    clear hst i4 hlen
    refine ⟨by simp, by simp, fun _ => ⟨_, hta, by simp [encN], _, htb, by simp [encN], _, hsp, by simp, fun h => ?_, fun h => ?_⟩, fun h => absurd h (by simp; omega)⟩
    · have h : c = true := by simpa using h
      have := hK out (by rw [if_pos h])
      simp [wt]
      exact this
    · have h : ¬ c = true := by simpa using h
      have hK2 := fun o ho => hK o (by rw [if_neg h]; exact ho)
      clear hK
      have hr : AV.room (qs out) (.sl 2 [[.int t, .int (t + 1)]]) 16 := by
        unfold AV.room
        simp only [lst_els, List.length_map, av_els, List.length_cons, List.length_nil]
        omega
      have happ : AV.app 2 (qs out) (.sl 2 [[.int t, .int (t + 1)]]) = qs (out ++ [(t, t + 1)]) := by simp [lst, encQ]
      by_cases ho : 0 < out.length
      · obtain ⟨z, hz⟩ : ∃ z, out[out.length - 1]? = some z := ⟨_, List.getElem?_eq_getElem (by omega)⟩
        have hzd : out.getD (out.length - 1) default = z := by rw [List.getD_eq_getElem?_getD, hz]; rfl
        have wl : wr ((out.length : Int) - 1) = ((out.length - 1 : Nat) : Int) := by rw [wr_id (by omega) (by omega)]; omega
        have hset : AV.setEl (qs out) (.lit (.int .i64 ((out.length - 1 : Nat) : Int))) 1 [.int (t + 1)] = qs (out.set (out.length - 1) (z.1, t + 1)) := lst_setEl hz (by simp [encQ])
        have hadd : addS t out = if z.2 = t then out.set (out.length - 1) (z.1, t + 1) else out ++ [(t, t + 1)] := by
          unfold addS
          rw [hzd]
          by_cases q : z.2 = t
          · rw [if_pos ⟨ho, q⟩, if_pos q]
          · rw [if_neg (fun g => q g.2), if_neg q]
        have hat := lst_at (s := 2) (enc := encQ) (k := .i64) (j := 1) hz
        simp only [encQ, List.getD_cons_succ, List.getD_cons_zero] at hat
        have hlt : ((out.length - 1 : Nat) : Int) < out.length := by omega
        simp only [List.getD_cons_zero, List.getD_cons_succ, lst_len, av_subt, av_add, wr_eq, wl, wt, hat, hset, av_mk, happ]
        refine ⟨by simp, by simp, fun _ => ⟨by simp, by simp; omega, by simp; omega, by simp, by simp, by simp; (first | omega | (intro q; simp [q] at ho)), by simp, fun g => ?_, fun g => ?_⟩, fun g => absurd g (by simp; intro q; simp [q] at ho)⟩
        · have g : z.2 = t := by simpa using g
          exact ⟨by simp, by simp, by simp; omega, by simp, by simp; omega, by simp, hK2 _ (by rw [hadd, if_pos g])⟩
        · have g : ¬ z.2 = t := by simpa using g
          exact ⟨by simp, by simp, by simp, hr, by simp, hK2 _ (by rw [hadd, if_neg g])⟩
      · have hadd : addS t out = out ++ [(t, t + 1)] := by unfold addS; rw [if_neg (fun g => ho g.1)]
        simp only [List.getD_cons_zero, List.getD_cons_succ, lst_len, av_add, wr_eq, wt, av_mk, happ]
        have ho0 : out = [] := List.eq_nil_of_length_eq_zero (by omega)
        refine ⟨by simp, by simp, fun g => absurd g (by simp [ho0]), fun _ => ⟨by simp, by simp [ho0], by simp, by simp, by simp, hr, by simp, hK2 _ hadd.symm⟩⟩
  · have e : (L - t + 1).toNat = 0 := by omega
    rw [e, spansF] at i4
    subst i4
    exact ⟨by simp, by simp, fun h => absurd h (by simp; omega), fun _ => ⟨flat_qs R, rfl⟩⟩
def pairE (a b : List Nd) (s : Sp) : Int := if sepE s ≠ 0 then sepE s else if tE a ≠ 0 then tE a else tE b
def pairV (a b : List Nd) (s : Sp) : AV := if pairE a b s ≠ 0 then .tup [.sl 2 [], .int (pairE a b s)] else .tup [qs (spnL a b s), .int 0]
def encT (l : List Nd) : List AV := [tube l]
abbrev tbs (l : List (List Nd)) : AV := lst 1 encT l
theorem pair_fn (a b : List Nd) (s : Sp) : Fn Tryz.prog 28 [tube a, tube b, sp s] (.tup [.row 75 2 true, .sc]) (pairV a b s) := by
  have e := ResF.pair_form (tube a) (tube b) (sp s) (pairV a b s)
  have k := fun h => fn_run mixed 3 (Γ := ResF.Γ) (ann := ResF.ann) Tryz.func28 rfl Tryz.call28 (e.mpr h)
  refine k ?_
  clear k e
  rw [show AV.mk 1 [[tube a], [tube b]] = tbs [a, b] from rfl]
  have hV : pairV a b s = if pairE a b s ≠ 0 then .tup [.sl 2 [], .int (pairE a b s)] else .tup [qs (spnL a b s), .int 0] := rfl
  have hE : pairE a b s = if sepE s ≠ 0 then sepE s else if tE a ≠ 0 then tE a else tE b := rfl
  have hv : ∀ e, e ≠ 0 → pairE a b s = e → pairV a b s = .tup [.sl 2 [], .int e] := fun e h1 h2 => by rw [hV, h2, if_pos h1]
  refine ⟨by simp [encSp], by simp, by simp, Tryz.call44, fun _ => ⟨_, csep_fn s, by simp, by simp, fun h => ?_, fun h => ?_⟩⟩
  · have h : sepE s ≠ 0 := by simpa using h
    rw [hv _ h (by rw [hE, if_pos h])]
    simp [h]
  have h0 : sepE s = 0 := by simpa using h
  rw [if_neg (by simp [h0])] at hE
  refine loop_list (σ := Unit) [a, b] (fun i _ => [.int (i : Nat)]) (fun i rest _ => (rest = [a, b] ∨ (tE a = 0 ∧ rest = [b]) ∨ (tE a = 0 ∧ tE b = 0 ∧ rest = []))) () rfl (.inl rfl) ?_ ?_
  · rintro i x rest _ K hx hrest hi hG hK
    have hi2 : (i : Int) < 2 := by have : i < 2 := hi; omega
    have hwi : wr ((i : Int) + 1) = (i : Int) + 1 := wr_id (by omega) (by omega)
    have hK' := hK [.int ((i : Int) + 1)] () (by simp)
    clear hK
    simp [hi2, lst_at hx, encT]
    refine ⟨_, tcheck_fn x, ?_⟩
    simp [hwi]
    refine ⟨fun h => ⟨h, ?_⟩, fun h => hK' ?_⟩
    · rcases hG with g | ⟨g0, g⟩ | ⟨_, _, g⟩
      · injection g with g1 g2
        subst g1
        rw [hv _ h (by rw [hE, if_pos h])]
      · injection g with g1 g2
        subst g1
        rw [hv _ h (by rw [hE, if_neg (by simp [g0])])]
      · cases g
    · rcases hG with g | ⟨g0, g⟩ | ⟨_, _, g⟩
      · injection g with g1 g2
        subst g1
        exact .inr (.inl ⟨h, g2⟩)
      · injection g with g1 g2
        subst g1
        exact .inr (.inr ⟨g0, h, g2⟩)
      · cases g
  · rintro _ K hG
    obtain ⟨ha, hb⟩ : tE a = 0 ∧ tE b = 0 := by
      rcases hG with g | ⟨g0, g⟩ | ⟨g1, g2, g⟩
      · cases g
      · cases g
      · exact ⟨g1, g2⟩
    rw [if_neg (by simp [ha])] at hE
    rw [hV, if_neg (by rw [hE]; simp [hb])]
    have hs := spans_fn a b s ha hb
    have hf := flat_qs (spnL a b s)
    refine ⟨by simp, by simp, fun h => absurd h (by simp), fun _ => ?_⟩
    first
      | exact ⟨_, hs, hf, .lit _, rfl⟩
      | exact ⟨by simp, by simp, by simp, _, hs, hf, .lit _, rfl⟩
def firE (a b : List Nd) (s : Sp) : Int := if pairE a b s ≠ 0 then pairE a b s else if (spnL a b s).length = 0 then 8 else 0
def firT (a b : List Nd) (s : Sp) : Int := if firE a b s ≠ 0 then 0 else ((spnL a b s).getD 0 default).1
theorem first_fn (a b : List Nd) (s : Sp) : Fn Tryz.prog 19 [tube a, tube b, sp s] (.tup [.sc, .sc]) (.tup [.int (firT a b s), .int (firE a b s)]) := by
  have e := ResF.first_form (tube a) (tube b) (sp s) (.tup [.int (firT a b s), .int (firE a b s)])
  have k := fun h => fn_run mixed 3 (Γ := ResF.Γ) (ann := ResF.ann) Tryz.func19 rfl Tryz.call19 (e.mpr h)
  refine k ?_
  clear k e
  have hp := pair_fn a b s
  have hV : pairV a b s = if pairE a b s ≠ 0 then .tup [.sl 2 [], .int (pairE a b s)] else .tup [qs (spnL a b s), .int 0] := rfl
  have hE : firE a b s = if pairE a b s ≠ 0 then pairE a b s else if (spnL a b s).length = 0 then 8 else 0 := rfl
  have hT : firT a b s = if firE a b s ≠ 0 then 0 else ((spnL a b s).getD 0 default).1 := rfl
  refine ⟨by simp [encSp], _, hp, ?_⟩
  by_cases h0 : pairE a b s = 0
  · rw [hV, if_neg (by simp [h0])]
    rw [if_neg (by simp [h0])] at hE
    by_cases hl : (spnL a b s).length = 0
    · rw [if_pos hl] at hE
      rw [hE, if_pos (by decide)] at hT
      rw [hE, hT]
      have : spnL a b s = [] := List.eq_nil_of_length_eq_zero hl
      rw [this]
      simp
    · rw [if_neg hl] at hE
      rw [hE, if_neg (by decide)] at hT
      rw [hE, hT]
      obtain ⟨z, hz⟩ : ∃ z, (spnL a b s)[0]? = some z := ⟨_, List.getElem?_eq_getElem (by omega)⟩
      have hzd : (spnL a b s).getD 0 default = z := by rw [List.getD_eq_getElem?_getD, hz]; rfl
      rw [hzd]
      generalize spnL a b s = L at *
      have hat : AV.at (qs L) (.lit (.int .i64 0)) 0 = .int z.1 := by have := lst_at (s := 2) (enc := encQ) (k := .i64) (j := 0) hz; simpa [encQ] using this
      refine ⟨by simp, by simp, fun h => absurd h (by simp), fun _ => ⟨by simp, by simp, fun h => absurd h (by simp; intro q; simp [q] at hl), fun _ => ?_⟩⟩
      simp only [av_prj, List.getD_cons_zero, hat]
      exact ⟨by simp; omega, by simp; omega, .lit _, .lit _, rfl⟩
  · rw [hV, if_pos h0]
    rw [if_pos h0] at hE
    rw [hE, if_pos h0] at hT
    rw [hE, hT]
    simp [h0]
end Go.Proofs.YtocgoabplafoeaaGreatDoor
