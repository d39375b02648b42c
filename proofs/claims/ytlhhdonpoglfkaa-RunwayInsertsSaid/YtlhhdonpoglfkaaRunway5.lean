/- runway: what is left but Insert. -/
import Derived.Test.YtlhhdonpoglfkaaRunway4
namespace Go.Proofs.Ytlhhdonpoglfkaa
open Go.RowKit
set_option linter.unusedVariables false
set_option linter.unusedSimpArgs false
set_option maxRecDepth 100000
theorem wrong_fn (l : List Mv) (s : List Sp) (T : Nat → Int) (hp : plE l s T = 0) : Fn Try.prog 26 [mvs l, sps s, tabA T] (.tup [.sc, .sc, .sc]) (trA (wrI l s T)) := by
  have hm : movE l = 0 := by
    unfold plE at hp; split at hp
    · rename_i h; exact absurd hp h
    · rename_i h; simpa using h
  have hs : spaE s = 0 := by
    unfold plE at hp; rw [if_neg (by simp [hm])] at hp; split at hp
    · rename_i h; exact absurd hp h
    · rename_i h; simpa using h
  have hT : tabErr T = 0 := by
    unfold plE at hp; rw [if_neg (by simp [hm]), if_neg (by simp [hs])] at hp; exact hp
  refine fn_run mixed 0 (Γ := RunwayF.Γ) (ann := RunwayF.ann) Try.func26 rfl Try.call26 ((RunwayF.wrong_form _ _ _ _).mpr ?_)
  refine ⟨by simp [tabA, tabL], ?_⟩
  simp [trA]
  obtain ⟨hlen, hok⟩ := movE_ok hm
  refine loop_list (σ := Unit) l (fun n _ => [.int (n : Nat)]) (fun n rest _ => clI s 0 l = clI s n rest) () rfl rfl ?_ ?_
  · rintro n x rest _ K hx hr hn hg hK
    have hxo := hok x (List.mem_iff_getElem?.2 ⟨n, hx⟩)
    rw [clI] at hg
    have hw2 : IntKind.i64.wrap ((n : Int) + 1) = (n : Int) + 1 := wrap64 (by omega) (by omega)
    have gN : eaR s x.t ≠ x.e → wrI l s T = ((n : Int), (n : Int), 14) := fun q => wrI_cl (by rw [hg, if_pos q])
    have gK : eaR s x.t = x.e → K [.int ((n : Nat) + 1)] := fun q => hK _ () (by simp) (by rw [hg, if_neg (by simpa using q)])
    simp [hn, lst_atAgg hx, encM, hw2]
    refine ⟨_, endat_fn s x.t hs ⟨hxo.1, hxo.2.1⟩, ?_⟩
    simp [hw2]
    refine ⟨fun q => ?_, fun q => gK q⟩
    simp [gN q]
  · rintro _ K hc
    rw [clI] at hc
    simp
    refine loop_list (σ := Unit) l (fun n _ => [.int (n : Nat)]) (fun n rest _ => prI T 0 l = prI T n rest) () rfl rfl ?_ ?_
    · rintro n a rest _ K hx hr hn hg hK
      have hao := hok a (List.mem_iff_getElem?.2 ⟨n, hx⟩)
      rw [prI] at hg
      have hw2 : IntKind.i64.wrap ((n : Int) + 1) = (n : Int) + 1 := wrap64 (by omega) (by omega)
      simp [hn, lst_atAgg hx, encM, hw2]
      refine loop_from (σ := Unit) l (n + 1) (by omega) (fun n _ => [.int (n : Nat)]) (fun k rest' _ => prK T a (n + 1) rest = prK T a k rest') () (by simp) (by rw [hr]) ?_ ?_
      · rintro k b rest' _ K' hk hxb hrb hkn hgb hK'
        have hbo := hok b (List.mem_iff_getElem?.2 ⟨k, hxb⟩)
        rw [prK] at hgb
        have hgp := gpI_bd hT (a := a) (b := b) ⟨hao.2.2.1, hao.2.2.2.1⟩ ⟨hbo.2.2.1, hbo.2.2.2.1⟩
        have hw3 : IntKind.i64.wrap ((k : Int) + 1) = (k : Int) + 1 := wrap64 (by omega) (by omega)
        have hw4 : IntKind.i64.wrap (a.t + gpI T a b) = a.t + gpI T a b := wrap64 (by omega) (by omega)
        have gN : b.t - a.t < gpI T a b → wrI l s T = ((n : Int), (k : Int), 15) := fun q => wrI_pr hc (by rw [if_pos q] at hgb; rw [hg, hgb, if_pos (by omega)])
        have gK : ¬ (b.t - a.t < gpI T a b) → K' [.int ((k : Nat) + 1)] := fun q => hK' _ () (by simp) (by rw [hgb, if_neg q])
        simp [hkn, lst_atAgg hxb, lst_at hxb, lst_atAgg hx, lst_at hx, encM, hw3, hw4]
        refine ⟨_, apart_fn T a b ⟨hao.2.2.1, hao.2.2.2.1⟩ ⟨hbo.2.2.1, hbo.2.2.2.1⟩, ?_⟩
        simp [hw3, hw4]
        refine ⟨fun q => ?_, fun q => gK (by omega)⟩
        simp [gN (by omega)]
      · rintro _ K' hgb
        rw [prK] at hgb
        simp [hw2]
        exact hK _ () (by simp) (by rw [hg, hgb, if_neg (by omega)])
    · rintro _ K hg
      rw [prI] at hg
      simp [wrI_no hc hg]
theorem plan_fn (l : List Mv) (s : List Sp) (T : Nat → Int) : Fn Try.prog 25 [mvs l, sps s, tabA T] .sc (.int (plE l s T)) := by
  refine fn_run mixed 0 (Γ := RunwayF.Γ) (ann := RunwayF.ann) Try.func25 rfl Try.call25 ((RunwayF.plan_form _ _ _ _).mpr ?_)
  refine ⟨by simp [tabA, tabL], _, merr_fn l, ?_⟩
  simp
  refine ⟨fun h => by simp [plE, h], fun hm => ⟨_, eerr_fn s, ?_⟩⟩
  simp
  refine ⟨fun h => by simp [plE, h, hm], fun hs => ?_⟩
  rw [show plE l s T = tabErr T by simp [plE, hm, hs]]
  exact table_fn T
/-! ### Gap -/
theorem movE_one (m : Mv) : movE [m] = if m.t < 0 ∨ m.t > 200000 then 12 else if m.w < 0 ∨ m.w > 3 ∨ (m.e ≠ 0 ∧ m.e ≠ 1) then 1 else 0 := by
  simp [movE, mvE]
noncomputable def GapE (T : Nat → Int) (a b : Mv) : Int := if tabErr T ≠ 0 then tabErr T else if movE [a] ≠ 0 then movE [a] else movE [b]
noncomputable def GapI (T : Nat → Int) (a b : Mv) : Int := if GapE T a b ≠ 0 then 0 else gpI T a b
theorem Gap_fn (T : Nat → Int) (a b : Mv) : Fn Try.prog 21 [tabA T, .agg (encM a), .agg (encM b)] (.tup [.sc, .sc]) (.tup [.int (GapI T a b), .int (GapE T a b)]) := by
  refine fn_run mixed 1 (Γ := RunwayF.Γ) (ann := RunwayF.ann) Try.func21 rfl Try.call21 ((RunwayF.Gap_form _ _ _ _).mpr ?_)
  refine ⟨by simp [tabA, tabL], by simp [encM], by simp [encM], _, wcheck_fn T, ?_⟩
  simp
  refine ⟨fun h => by simp [GapI, GapE, h], fun hT => ?_⟩
  refine loop_nat (σ := Unit) 2 (fun n _ => [.int (n : Nat)]) (fun n _ => (1 ≤ n → movE [a] = 0) ∧ (2 ≤ n → movE [b] = 0)) () rfl ⟨fun h => absurd h (by omega), fun h => absurd h (by omega)⟩ ?_ ?_
  · rintro n _ K hn ⟨h1, h2⟩ hK
    rcases (show n = 0 ∨ n = 1 by omega) with rfl | rfl
    · simp [encM, AV.nth, AV.off, AV.num]
      refine ⟨_, check_fn [a], ?_⟩
      simp
      refine ⟨fun h => by simp [GapI, GapE, h, hT], fun h => hK _ () (by simp; rfl) ⟨fun _ => h, fun q => absurd q (by omega)⟩⟩
    · simp [encM, AV.nth, AV.off, AV.num]
      refine ⟨_, check_fn [b], ?_⟩
      simp
      refine ⟨fun h => by simp [GapI, GapE, h, hT, h1], fun h => hK _ () (by simp; rfl) ⟨fun _ => h1 (by omega), fun q => h⟩⟩
  · rintro _ K ⟨h1, h2⟩
    have ha := h1 (by omega)
    have hb := h2 (by omega)
    have hao := (movE_ok ha).2 a (by simp)
    have hbo := (movE_ok hb).2 b (by simp)
    simp
    refine ⟨_, gap_fn T a b ⟨hao.2.2.1, hao.2.2.2.1⟩ ⟨hbo.2.2.1, hbo.2.2.2.1⟩, ?_⟩
    simp [GapI, GapE, hT, ha, hb]
/-! ### rows -/
theorem eqm_fn (l m : List Mv) (hl : l.length ≤ maxLen) : Fn Try.prog 32 [mvs l, mvs m] .sc (.bool (decide (l = m))) := by
  refine fn_run mixed 0 (Γ := RunwayF.Γ) (ann := RunwayF.ann) Try.func32 rfl Try.call32 ((RunwayF.eqm_form _ _ _).mpr ?_)
  unfold maxLen at hl
  simp
  refine ⟨fun h => fun e => h (by rw [e]), fun h => equal_loop l m (by omega) rfl ?_ ?_⟩
  · rintro n ⟨x1, x2, x3, x4⟩ ⟨y1, y2, y3, y4⟩ K hx hy hn h1 h2
    simp [hn, show n < m.length by omega, lst_atAgg hx, lst_atAgg hy, encM, AV.eqPlOk, AV.nePl]
    rw [wrap64 (by omega) (by omega)]
    refine ⟨fun h => by simpa using h1 (by rintro ⟨⟩; simp at h), fun e1 e2 e3 e4 => h2 (by rw [e1, e2, e3, e4])⟩
  · intro K h1
    simpa using h1
theorem eqp_fn (l m : List Sp) (hl : l.length ≤ maxLen) : Fn Try.prog 36 [sps l, sps m] .sc (.bool (decide (l = m))) := by
  refine fn_run mixed 0 (Γ := RunwayF.Γ) (ann := RunwayF.ann) Try.func36 rfl Try.call36 ((RunwayF.eqp_form _ _ _).mpr ?_)
  unfold maxLen at hl
  simp
  refine ⟨fun h => fun e => h (by rw [e]), fun h => equal_loop l m (by omega) rfl ?_ ?_⟩
  · rintro n ⟨x1, x2⟩ ⟨y1, y2⟩ K hx hy hn h1 h2
    simp [hn, show n < m.length by omega, lst_atAgg hx, lst_atAgg hy, encP, AV.eqPlOk, AV.nePl]
    rw [wrap64 (by omega) (by omega)]
    refine ⟨fun h => by simpa using h1 (by rintro ⟨⟩; simp at h), fun e1 e2 => h2 (by rw [e1, e2])⟩
  · intro K h1
    simpa using h1
theorem clonem_fn (l : List Mv) (hl : l.length ≤ 24) : Fn Try.prog 28 [mvs l] (.row 35 4 true) (mvs l) := by
  refine fn_run mixed 0 (Γ := RunwayF.Γ) (ann := RunwayF.ann) Try.func28 rfl Try.call28 ((RunwayF.clonem_form _ _).mpr ?_)
  have hf := flat_mvs l
  simp [AV.room]
  refine ⟨fun h => by subst h; simp, by omega, ?_⟩
  have e : AV.app 4 (AV.sl 4 []) (mvs l) = mvs l := rfl
  rw [e]
  exact ⟨hf, rfl⟩
theorem clones_fn (l : List Sp) (hl : l.length ≤ 24) : Fn Try.prog 37 [sps l] (.row 60 2 true) (sps l) := by
  refine fn_run mixed 0 (Γ := RunwayF.Γ) (ann := RunwayF.ann) Try.func37 rfl Try.call37 ((RunwayF.clones_form _ _).mpr ?_)
  have hf := flat_sps l
  simp [AV.room]
  refine ⟨fun h => by subst h; simp, by omega, ?_⟩
  have e : AV.app 2 (AV.sl 2 []) (sps l) = sps l := rfl
  rw [e]
  exact ⟨hf, rfl⟩
end Go.Proofs.Ytlhhdonpoglfkaa
