/- runway's law of insertions: the document's side. -/
import Derived.Test.YtlhhdonpoglfkaaRunway7
import Derived.Test.YtlhhdonpoglfkaaRunwayA
namespace Go.Proofs.Ytlhhdonpoglfkaa
open Go.RowKit
set_option linter.unusedVariables false
set_option linter.unusedSimpArgs false
set_option maxRecDepth 100000
theorem clonem_big (l : List Mv) (hl : l.length ≤ 4398046511103) : Fn Try.prog 28 [mvs l] (.row 35 4 true) (mvs l) := by
  refine fn_run mixed 0 (Γ := RunwayF.Γ) (ann := RunwayF.ann) Try.func28 rfl Try.call28 ((RunwayF.clonem_form _ _).mpr ?_)
  have hf := flat_mvs l
  simp [AV.room]
  refine ⟨fun h => by subst h; simp, by omega, ?_⟩
  have e : AV.app 4 (AV.sl 4 []) (mvs l) = mvs l := rfl
  rw [e]
  exact ⟨hf, rfl⟩
theorem classes_fn (w : Int) : Fn Try.prog 29 [.sl 1 [[.int w]]] .sc (.int (clsE w)) := by
  refine fn_run mixed 0 (Γ := RunwayF.Γ) (ann := RunwayF.ann) Try.func29 rfl Try.call29 ((RunwayF.classes_form _ _).mpr ?_)
  simp
  refine loop_nat (σ := Unit) 1 (fun n _ => [.int (n : Nat)]) (fun n _ => 0 < n → 0 ≤ w ∧ w ≤ 3) () rfl (fun h => absurd h (by omega)) ?_ ?_
  · rintro n _ K hn hg hK
    obtain rfl : n = 0 := by omega
    have e0 : AV.at (AV.sl 1 [[.int w]]) (.lit (.int .i64 0)) 0 = .int w := rfl
    simp [e0]
    refine ⟨fun h => ⟨h, by rw [clsE_no (.inl h)]⟩, fun h => ⟨h, fun h2 => by rw [clsE_no (.inr h2)], fun h2 => ?_⟩⟩
    exact hK _ () (by simp; rfl) (fun _ => ⟨h, h2⟩)
  · rintro _ K hg
    have := hg (by omega)
    simp [clsE_ok this]
theorem fit_fn (l : List Mv) (s : List Sp) (T : Nat → Int) (m : Mv) (hlen : l.length ≤ 1000000) (hok : ∀ x ∈ l, OkM x) (hs : spGood s) (hT : tabErr T = 0) (hm : 0 ≤ m.t ∧ m.t ≤ 200000 ∧ 0 ≤ m.w ∧ m.w ≤ 3) (he : eaR s m.t = m.e) : Fn Try.prog 89 [mvs l, sps s, tabA T, .agg (encM m)] .sc (.bool (fitB T m l)) := by
  refine fn_run mixed 0 (Γ := RunwayF.Γ) (ann := RunwayF.ann) Try.func89 rfl Try.call89 ((RunwayF.fit_form _ _ _ _ _).mpr ?_)
  refine ⟨by simp [tabA, tabL], by simp [encM], _, endat_fn s m.t hs ⟨hm.1, hm.2.1⟩, ?_⟩
  simp [encM, he]
  refine loop_list (σ := Unit) l (fun n _ => [.int (n : Nat)]) (fun n rest _ => fitB T m l = fitB T m rest) () rfl rfl ?_ ?_
  · rintro n x rest _ K hx hr hn hg hK
    have hxo := hok x (List.mem_iff_getElem?.2 ⟨n, hx⟩)
    unfold OkM at hxo
    have b1 := gpI_bd hT (a := x) (b := m) ⟨by omega, by omega⟩ ⟨by omega, by omega⟩
    have hw2 : IntKind.i64.wrap ((n : Int) + 1) = (n : Int) + 1 := wrap64 (by omega) (by omega)
    have hw3 : IntKind.i64.wrap (m.t - x.t) = m.t - x.t := wrap64 (by omega) (by omega)
    have hw4 : IntKind.i64.wrap (x.t - m.t) = x.t - m.t := wrap64 (by omega) (by omega)
    have gN : ((x.t ≤ m.t ∧ m.t - x.t < gpI T x m) ∨ (x.t ≥ m.t ∧ x.t - m.t < gpI T m x)) → fitB T m l = false := fun q => by
      rw [hg, fitB_cons, clashB, decide_eq_true q]; rfl
    have gK : ¬ ((x.t ≤ m.t ∧ m.t - x.t < gpI T x m) ∨ (x.t ≥ m.t ∧ x.t - m.t < gpI T m x)) → K [.int ((n : Nat) + 1)] := fun q => hK _ () (by simp) (by
      rw [hg, fitB_cons, clashB, decide_eq_false q]; rfl)
    have c1 := apart_fn T x m ⟨by omega, by omega⟩ ⟨by omega, by omega⟩
    have c2 := apart_fn T m x ⟨by omega, by omega⟩ ⟨by omega, by omega⟩
    simp [hn, lst_atAgg hx, encM, hw2, hw3, hw4]
    (repeat' (first | exact trivial | (with_reducible intro hw; (try simp (disch := omega) only [wrap64] at hw); first | (exfalso; omega; done) | skip) | (with_reducible refine And.intro ?_ ?_) | (refine ⟨_, c1, ?_⟩; (try simp [hw2, hw3, hw4, encM]); (try simp (disch := omega) only [wrap64])) | (refine ⟨_, c2, ?_⟩; (try simp [hw2, hw3, hw4, encM]); (try simp (disch := omega) only [wrap64])) | omega | assumption))
    all_goals (first | exact gN (by omega) | exact gK (by omega))
  · rintro _ K hg
    have hg' : fitB T m l = true := hg
    simp [hg']
def depA (s : List Sp) (w : Int) : Option Int → AV
  | none => .tup [.agg [.int 0, .int 0, .bool false, .int 0], .bool false]
  | some t => .tup [.agg [.int t, .int w, .bool true, .int (eaR s t)], .bool true]
theorem departed_fn (l : List Mv) (s : List Sp) (T : Nat → Int) (t w u : Int) (hlen : l.length ≤ 1000000) (hok : ∀ x ∈ l, OkM x) (hs : spGood s) (hT : tabErr T = 0) (hw : 0 ≤ w ∧ w ≤ 3) (ht : 0 ≤ t ∧ t ≤ u ∧ u ≤ 200000) : Fn Try.prog 30 [mvs l, sps s, tabA T, .agg [.int t, .int w], .int u] (.tup [.sc, .sc]) (depA s w (dep s T w l (u + 1 - t).toNat t)) := by
  refine fn_run mixed 0 (Γ := RunwayF.Γ) (ann := RunwayF.ann) Try.func30 rfl Try.call30 ((RunwayF.departed_form _ _ _ _ _ _).mpr ?_)
  refine ⟨by simp [tabA, tabL], by simp, ?_⟩
  have hN : t + ((u + 1 - t).toNat : Nat) = u + 1 := by omega
  simp
  refine loop_nat (σ := Unit) (u + 1 - t).toNat (fun k _ => [.int (t + (k : Nat))]) (fun k _ => dep s T w l (u + 1 - t).toNat t = dep s T w l ((u + 1 - t).toNat - k) (t + (k : Nat))) () (by simp) (by simp) ?_ ?_
  · rintro k _ K hk hgk hK
    obtain ⟨j, hj⟩ : ∃ j, (u + 1 - t).toNat - k = j + 1 := ⟨(u + 1 - t).toNat - k - 1, by omega⟩
    have hj2 : (u + 1 - t).toNat - (k + 1) = j := by omega
    rw [hj, dep] at hgk
    have hw3 : IntKind.i64.wrap (t + (k : Int) + 1) = t + (k : Int) + 1 := wrap64 (by omega) (by omega)
    have gK : canB s T w l (t + (k : Nat)) = false → K [.int (t + (k : Nat) + 1)] := fun q => hK _ () (by simp; omega) (by
      rw [hgk, if_neg (by rw [q]; simp), hj2]; congr 1; omega)
    simp [show t + (k : Int) ≤ u by omega]
    refine ⟨_, endat_fn s (t + (k : Nat)) hs ⟨by omega, by omega⟩, ?_⟩
    by_cases hea : 0 ≤ eaR s (t + (k : Nat))
    · simp [hea, show ¬ (eaR s (t + (k : Nat)) < 0) by omega]
      refine ⟨_, fit_fn l s T ⟨t + (k : Nat), w, true, eaR s (t + (k : Nat))⟩ hlen hok hs hT ⟨by simp only; omega, by simp only; omega, by simp only; omega, by simp only; omega⟩ rfl, ?_⟩
      have hfe : fitB T ⟨t + (k : Nat), w, true, eaR s (t + (k : Nat))⟩ l = fitB T (depM (t + (k : Nat)) w) l := rfl
      rw [hfe]
      cases hf : fitB T (depM (t + (k : Nat)) w) l
      · simp [hw3]
        exact gK (by rw [canB, hf]; simp)
      · have hdep : dep s T w l (u + 1 - t).toNat t = some (t + (k : Nat)) := by
          rw [hgk, if_pos (by rw [canB, hf]; simpa using hea)]
        rw [hdep]
        simp [depA]
    · have hlt : eaR s (t + (k : Nat)) < 0 := by omega
      simp [hea, hlt, hw3]
      exact gK (by rw [canB, decide_eq_false hea]; rfl)
  · rintro _ K hgk
    rw [Nat.sub_self, dep] at hgk
    rw [hgk, hN]
    simp [depA, show ¬ (u + 1 ≤ u) by omega]
end Go.Proofs.Ytlhhdonpoglfkaa
