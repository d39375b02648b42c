/- runway's law of insertions. -/
import Derived.Test.YtlhhdonpoglfkaaRunwayI
namespace Go.Proofs.Ytlhhdonpoglfkaa
open Go.RowKit
set_option linter.unusedVariables false
set_option linter.unusedSimpArgs false
set_option maxRecDepth 100000
theorem can_ne {s : List Sp} {T : Nat → Int} {w t : Int} {l : List Mv} (h : canB s T w l t = true) (hT : tabErr T = 0) (hw : 0 ≤ w ∧ w ≤ 3) (hok : ∀ x ∈ l, OkM x) : ∀ y ∈ l, y.t ≠ t := by
  intro y hy e
  unfold canB at h
  rw [Bool.and_eq_true] at h
  have h2 := List.all_eq_true.1 h.2 y hy
  have hyo := hok y hy
  unfold OkM at hyo
  have hb := gpI_bd hT (a := y) (b := depM t w) ⟨by omega, by omega⟩ ⟨by simp only [depM]; omega, by simp only [depM]; omega⟩
  have hc : clashB T (depM t w) y = true := decide_eq_true (.inl ⟨by simp only [depM]; omega, by simp only [depM] at hb ⊢; omega⟩)
  rw [hc] at h2
  cases h2
theorem loop_once {i : Nat} {xs : List AV} {body : List AV → (List AV → Prop) → Prop} (h : ∀ K, body xs K) : fLoop i xs body :=
  loop_nat (σ := Unit) 0 (fun _ _ => xs) (fun _ _ => True) () rfl trivial (fun n _ _ h => absurd h (by omega)) fun _ K _ => h K
theorem rinserts_fn (l : List Mv) (s : List Sp) (T : Nat → Int) (d : List Rd) (hl : l.length ≤ 4398046511103) (hd : d.length ≤ 8796093022207) : Fn Try.prog 5 [mvs l, sps s, tabA T, rds d] .sc (.bool true) := by
  refine fn_run mixed 3 (Γ := RunwayG.Γ) (ann := RunwayG.ann) Try.func5 rfl Try.call5 ((RunwayG.inserts_form _ _ _ _ _).mpr ?_)
  refine ⟨by simp [tabA, tabL], _, rfact_fn, ?_⟩
  simp
  refine ⟨_, insert_fn l s T d (by omega), ?_⟩
  refine ⟨_, plan_fn l s T, ?_⟩
  by_cases hp : plE l s T = 0
  · have e : safI l s T = wrI l s T := by simp [safI, hp]
    simp [hp]
    refine ⟨_, wrong_fn l s T hp, ?_⟩
    by_cases hw0 : (wrI l s T).2.2 = 0
    · have hm : movE l = 0 := by
        unfold plE at hp; split at hp
        · rename_i h; exact absurd hp h
        · rename_i h; simpa using h
      have hs : spaE s = 0 := by
        unfold plE at hp; rw [if_neg (by simp [hm])] at hp; split at hp
        · rename_i h; exact absurd hp h
        · rename_i h; simpa using h
      have hT : tabErr T = 0 := by
        unfold plE at hp; rw [if_neg (by simp [hm]), if_neg (by simp [hs])] at hp; exact hp
      obtain ⟨hlen, hok⟩ := movE_ok hm
      simp [trA, hw0]
      rw [wrap64 (by omega) (by omega)]
      refine ⟨fun h24 => ⟨_, clonem_big l hl, ?_⟩, fun h24 => ⟨_, clonem_big l hl, ?_⟩⟩
      · have hI : insI l s T d = ([], 2) := by unfold insI; rw [e, if_neg (by simpa using hw0), if_pos (by omega)]
        refine loop_once fun K => ?_
        simp [mvT, hI]
      · have hI : insI l s T d = insD s T l d := by unfold insI; rw [e, if_neg (by simpa using hw0), if_neg (by omega)]
        rw [hI]
        refine loop_list (σ := Int × List Mv) d (fun n p => [.int p.1, .int (n : Nat), mvs p.2]) (fun n rest p => (p.1 ≠ 0 ∧ insD s T l d = ([], p.1)) ∨ (p.1 = 0 ∧ p.2.length + rest.length ≤ 24 ∧ (∀ x ∈ p.2, OkM x) ∧ insD s T l d = insD s T p.2 rest)) (0, l) rfl (.inr ⟨rfl, by simp only; omega, hok, rfl⟩) ?_ ?_
        · rintro n x rest ⟨wn, out⟩ K hx hr hn hgg hK
          have hw2 : IntKind.i64.wrap ((n : Int) + 1) = (n : Int) + 1 := wrap64 (by omega) (by omega)
          rcases hgg with ⟨hwn, hg⟩ | ⟨hwn, hol, hoo, hg⟩
          · simp only at hwn hg
            simp [hn, hwn, mvT, hg]
          simp only at hwn hol hoo hg
          subst hwn
          simp only [List.length_cons] at hol
          rw [insD] at hg
          have a0 : AV.at (rds d) (.int n) 0 = .int x.t := by rw [lst_at hx]; rfl
          have a1 : AV.at (rds d) (.int n) 1 = .int x.w := by rw [lst_at hx]; rfl
          have kE : ∀ c : Int, c ≠ 0 → insD s T l d = ([], c) → K [.int c, .int ((n : Nat) + 1), mvs out] := fun c hc h => hK _ (c, out) (by simp) (.inl ⟨hc, h⟩)
          by_cases ht0 : x.t < 0
          · rw [if_pos (by omega)] at hg
            simp [hn, a0, a1, hw2, ht0, show ¬ (0 ≤ x.t) by omega]
            exact kE 12 (by omega) hg
          by_cases ht1 : x.t > 200000
          · rw [if_pos (by omega)] at hg
            simp [hn, a0, a1, hw2, ht0, ht1, show 0 ≤ x.t by omega, show ¬ (x.t ≤ 200000) by omega]
            exact kE 12 (by omega) hg
          rw [if_neg (by omega)] at hg
          simp [hn, a0, a1, hw2, ht0, ht1, show 0 ≤ x.t by omega, show x.t ≤ 200000 by omega]
          refine ⟨_, classes_fn x.w, ?_⟩
          by_cases hcw : x.w < 0 ∨ x.w > 3
          · rw [if_pos hcw] at hg
            simp [clsE_no hcw, hw2]
            exact kE 1 (by omega) hg
          rw [if_neg hcw] at hg
          have hw3 : IntKind.i64.wrap (x.t + 3000) = x.t + 3000 := wrap64 (by omega) (by omega)
          simp [clsE_ok (n := x.w) (by omega), hw3]
          have aA : AV.atAgg (rds d) (.int n) 0 2 = .agg [.int x.t, .int x.w] := by rw [lst_atAgg hx]; rfl
          rw [aA]
          obtain ⟨u, hu, hu1, hu2⟩ : ∃ u : Int, (if x.t + 3000 < 200000 then x.t + 3000 else 200000) = u ∧ (x.t ≤ u ∧ u ≤ 200000) ∧ (197000 ≤ x.t → u = 200000) := ⟨_, rfl, by split <;> omega, fun _ => by rw [if_neg (by omega)]⟩
          rw [hu]
          refine ⟨_, departed_fn out s T x.t x.w u (by omega) hoo hs hT (by omega) (by omega), ?_⟩
          cases hdp : dep s T x.w out (u + 1 - x.t).toNat x.t with
          | none =>
            simp [depA]
            intro h197
            refine kE 8 (by omega) ?_
            rw [hu2 h197] at hdp
            rw [show (200001 - x.t).toNat = (200000 + 1 - x.t).toNat by omega, hdp] at hg
            exact hg
          | some t =>
            have hsome := dep_some hdp
            have hfull : dep s T x.w out (200001 - x.t).toNat x.t = some t := dep_mono hdp (by omega)
            rw [hfull] at hg
            have hne := can_ne hsome.1 hT (w := x.w) (by omega) hoo
            have hea : 0 ≤ eaR s t := by
              have := hsome.1
              unfold canB at this
              rw [Bool.and_eq_true] at this
              exact of_decide_eq_true this.1
            have hxm : OkM ⟨t, x.w, true, eaR s t⟩ := ⟨by simp only; omega, by simp only; omega, by simp only; omega, by simp only; omega, by have := eaR_01 hs t; simp only; omega⟩
            have gI : ∀ z, z = mvs (insM out ⟨t, x.w, true, eaR s t⟩) → K [.int 0, .int ((n : Nat) + 1), z] := fun z hz => hK _ (0, insM out ⟨t, x.w, true, eaR s t⟩) (by rw [hz]; simp) (.inr ⟨rfl, by simp only; rw [insM_len]; omega, insM_ok hoo hxm, hg⟩)
            have hin : ∀ i : Nat, i ≤ out.length → FnU Try.prog 31 35 4 (mvs out) [.int i, .sl 4 [[.int t, .int x.w, .bool true, .int (eaR s t)]]] true (mvs (out.take i ++ (⟨t, x.w, true, eaR s t⟩ :: out.drop i))) := fun i hi => insMv_fn out ⟨t, x.w, true, eaR s t⟩ i hi (by omega)
            simp [depA]
            refine loop_list (σ := Unit) out (fun i _ => [.int (i : Nat)]) (fun i rest' _ => out.findIdx (fun y => decide (y.t > t)) = i + rest'.findIdx (fun y => decide (y.t > t))) () rfl (by simp) ?_ ?_
            · rintro i y rest' _ K'' hy hry hi hgi hKi
              have hyn := hne y (List.mem_iff_getElem?.2 ⟨i, hy⟩)
              rw [List.findIdx_cons] at hgi
              have hw4 : IntKind.i64.wrap ((i : Int) + 1) = (i : Int) + 1 := wrap64 (by omega) (by omega)
              simp [hi, lst_at hy, encM, hw4, hw2]
              refine ⟨fun q => ?_, fun q => ?_⟩
              · rw [decide_eq_false (by omega)] at hgi
                exact hKi _ () (by simp) (by rw [hgi]; simp; omega)
              · rw [decide_eq_true (by omega)] at hgi
                refine ⟨_, hin i (by omega), gI _ ?_⟩
                simp only [cond_true, Nat.add_zero] at hgi
                show mvs _ = mvs (out.take (out.findIdx fun y => decide (y.t > t)) ++ (_ :: out.drop (out.findIdx fun y => decide (y.t > t))))
                rw [hgi]
            · rintro _ K'' hgi
              simp [hw2]
              refine ⟨_, hin out.length (by omega), gI _ ?_⟩
              simp only [List.findIdx_nil, Nat.add_zero] at hgi
              show mvs _ = mvs (out.take (out.findIdx fun y => decide (y.t > t)) ++ (_ :: out.drop (out.findIdx fun y => decide (y.t > t))))
              rw [hgi]
        · rintro ⟨wn, out⟩ K hgg
          rcases hgg with ⟨hwn, hg⟩ | ⟨hwn, hol, hoo, hg⟩
          · simp only at hwn hg
            simp [hwn, mvT, hg]
          · simp only at hwn hol hoo hg
            subst hwn
            rw [insD] at hg
            have heq := eqm_fn out out (by simp only [maxLen, List.length_nil] at *; omega)
            simp [mvT, hg]
            simp at heq
            exact heq
    · have hI : insI l s T d = ([], (wrI l s T).2.2) := by unfold insI; rw [e, if_pos hw0]
      simp [trA, hw0]
      refine ⟨_, clonem_big l hl, ?_⟩
      refine loop_once fun K => ?_
      simp [mvT, hI, hw0]
  · have e : safI l s T = (0, 0, plE l s T) := by simp [safI, hp]
    have hI : insI l s T d = ([], plE l s T) := by unfold insI; rw [e, if_pos hp]
    simp [hp]
    refine ⟨_, clonem_big l hl, ?_⟩
    refine loop_once fun K => ?_
    simp [mvT, hI, hp]
end Go.Proofs.Ytlhhdonpoglfkaa
