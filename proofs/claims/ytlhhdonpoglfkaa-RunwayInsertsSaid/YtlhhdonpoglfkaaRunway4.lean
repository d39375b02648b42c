/- runway.Safe, and what is above directions and gaps. -/
import Derived.Test.YtlhhdonpoglfkaaRunway3
namespace Go.Proofs.Ytlhhdonpoglfkaa
open Go.RowKit
set_option linter.unusedVariables false
set_option linter.unusedSimpArgs false
set_option maxRecDepth 100000
theorem tabBd {T : Nat → Int} (h : tabErr T = 0) {n : Nat} (hn : n < 16) : 30 ≤ T n ∧ T n ≤ 600 := by
  unfold tabErr at h
  split at h
  · rename_i h'
    have := h' n hn
    unfold okAt at this
    omega
  · cases h
theorem gpI_bd {T : Nat → Int} (h : tabErr T = 0) {a b : Mv} (ha : 0 ≤ a.w ∧ a.w ≤ 3) (hb : 0 ≤ b.w ∧ b.w ≤ 3) : 30 ≤ gpI T a b ∧ gpI T a b ≤ 600 := by
  unfold gpI
  split
  · omega
  · exact tabBd h (by omega)
theorem movE_ok {l : List Mv} (h : movE l = 0) : l.length ≤ 24 ∧ ∀ x ∈ l, 0 ≤ x.t ∧ x.t ≤ 200000 ∧ 0 ≤ x.w ∧ x.w ≤ 3 ∧ (x.e = 0 ∨ x.e = 1) := by
  unfold movE at h
  split at h
  · cases h
  · exact ⟨by omega, mvE_last h⟩
def DirI (s : List Sp) (t : Int) : Int := if spaE s ≠ 0 then 0 else if t < 0 ∨ t > 200000 then 0 else dirI s t
def DirE (s : List Sp) (t : Int) : Int := if spaE s ≠ 0 then spaE s else if t < 0 ∨ t > 200000 then 12 else if eaR s t < 0 then 14 else 0
theorem Dir_fn (s : List Sp) (t : Int) : Fn Try.prog 15 [sps s, .int t] (.tup [.sc, .sc]) (.tup [.int (DirI s t), .int (DirE s t)]) := by
  refine fn_run mixed 2 (Γ := RunwayF.Γ) (ann := RunwayF.ann) Try.func15 rfl Try.call15 ((RunwayF.Dir_form _ _ _).mpr ?_)
  refine ⟨_, spans_fn s, ?_⟩
  simp
  refine ⟨fun h => by simp [DirI, DirE, h], fun h => ⟨_, wt_fn t, ?_⟩⟩
  simp
  refine ⟨fun h2 => ?_, fun h2 h3 => ⟨_, dir_fn s t h (by omega), ?_⟩⟩
  · have h2' : t < 0 ∨ 200000 < t := by omega
    simp [DirI, DirE, h, h2']
  · have h2' : ¬ (t < 0 ∨ 200000 < t) := by omega
    simp [DirI, DirE, h, h2', dirI, dirB]
    (repeat' (first | exact trivial | (with_reducible intro hw; (try simp (disch := omega) only [wrap64] at hw); first | (exfalso; omega; done) | skip) | (with_reducible refine And.intro ?_ ?_) | omega | assumption))
    all_goals (first | (rw [if_pos (by omega)]) | (rw [if_neg (by omega)]) | skip)
/-! ### Safe -/
def clI (s : List Sp) : Nat → List Mv → Int
  | _, [] => -1
  | n, m :: r => if eaR s m.t ≠ m.e then n else clI s (n + 1) r
def prK (T : Nat → Int) (a : Mv) : Nat → List Mv → Int
  | _, [] => -1
  | k, b :: r => if b.t - a.t < gpI T a b then k else prK T a (k + 1) r
def prI (T : Nat → Int) : Nat → List Mv → Int × Int
  | _, [] => (-1, -1)
  | n, a :: r => if 0 ≤ prK T a (n + 1) r then (n, prK T a (n + 1) r) else prI T (n + 1) r
def wrI (l : List Mv) (s : List Sp) (T : Nat → Int) : Int × Int × Int := if 0 ≤ clI s 0 l then (clI s 0 l, clI s 0 l, 14) else if 0 ≤ (prI T 0 l).1 then ((prI T 0 l).1, (prI T 0 l).2, 15) else (0, 0, 0)
noncomputable def plE (l : List Mv) (s : List Sp) (T : Nat → Int) : Int := if movE l ≠ 0 then movE l else if spaE s ≠ 0 then spaE s else tabErr T
noncomputable def safI (l : List Mv) (s : List Sp) (T : Nat → Int) : Int × Int × Int := if plE l s T ≠ 0 then (0, 0, plE l s T) else wrI l s T
def trA (p : Int × Int × Int) : AV := .tup [.int p.1, .int p.2.1, .int p.2.2]
theorem wrI_cl {l : List Mv} {s : List Sp} {T : Nat → Int} {n : Nat} (h : clI s 0 l = n) : wrI l s T = ((n : Int), (n : Int), 14) := by unfold wrI; rw [h, if_pos (by omega)]
theorem wrI_pr {l : List Mv} {s : List Sp} {T : Nat → Int} {n k : Nat} (h : clI s 0 l = -1) (h2 : prI T 0 l = ((n : Int), (k : Int))) : wrI l s T = ((n : Int), (k : Int), 15) := by unfold wrI; rw [h, h2, if_neg (by omega), if_pos (by simp)]
theorem wrI_no {l : List Mv} {s : List Sp} {T : Nat → Int} (h : clI s 0 l = -1) (h2 : prI T 0 l = (-1, -1)) : wrI l s T = (0, 0, 0) := by unfold wrI; rw [h, h2, if_neg (by omega), if_neg (by simp)]
theorem dirI_ne {s : List Sp} {t e : Int} (h : dirB s t = false ∨ dirI s t ≠ e) (he : 0 ≤ e) : eaR s t ≠ e := by
  intro h'
  rcases dirI_is h' he with ⟨h1, h2⟩
  rcases h with h | h
  · rw [h2] at h; cases h
  · exact h h1
theorem dirI_eq {s : List Sp} {t e : Int} (h : dirB s t = true) (h2 : dirI s t = e) : eaR s t = e := by
  simp [dirB] at h
  unfold dirI at h2
  rw [if_neg (by omega)] at h2
  exact h2
theorem safe_fn (l : List Mv) (s : List Sp) (T : Nat → Int) : Fn Try.prog 24 [mvs l, sps s, tabA T] (.tup [.sc, .sc, .sc]) (trA (safI l s T)) := by
  refine fn_run mixed 1 (Γ := RunwayF.Γ) (ann := RunwayF.ann) Try.func24 rfl Try.call24 ((RunwayF.safe_form _ _ _ _).mpr ?_)
  refine ⟨by simp [tabA, tabL], _, check_fn l, ?_⟩
  simp [trA]
  refine ⟨fun h => by simp [safI, plE, h], fun hm => ⟨_, spans_fn s, ?_⟩⟩
  simp
  refine ⟨fun h => by simp [safI, plE, h, hm], fun hs => ⟨_, wcheck_fn T, ?_⟩⟩
  simp
  refine ⟨fun h => by simp [safI, plE, h, hm, hs], fun hT => ?_⟩
  have hS : safI l s T = wrI l s T := by simp [safI, plE, hm, hs, hT]
  rw [hS]
  obtain ⟨hlen, hok⟩ := movE_ok hm
  refine loop_list (σ := Unit) l (fun n _ => [.int (n : Nat)]) (fun n rest _ => clI s 0 l = clI s n rest) () rfl rfl ?_ ?_
  · rintro n x rest _ K hx hr hn hg hK
    have hxo := hok x (List.mem_iff_getElem?.2 ⟨n, hx⟩)
    rw [clI] at hg
    have hw2 : IntKind.i64.wrap ((n : Int) + 1) = (n : Int) + 1 := wrap64 (by omega) (by omega)
    have gN : (dirB s x.t = false ∨ dirI s x.t ≠ x.e) → wrI l s T = ((n : Int), (n : Int), 14) := fun q => wrI_cl (by rw [hg, if_pos (dirI_ne q (by omega))])
    have gK : dirB s x.t = true → dirI s x.t = x.e → K [.int ((n : Nat) + 1)] := fun q q2 => hK _ () (by simp) (by rw [hg, if_neg (by rw [dirI_eq q q2]; simp)])
    simp [hn, lst_atAgg hx, encM, hw2]
    refine ⟨_, dir_fn s x.t hs ⟨hxo.1, hxo.2.1⟩, ?_⟩
    cases hb : dirB s x.t
    · simp [gN (.inl hb)]
    · simp [hw2]
      refine ⟨fun q2 => ?_, fun q2 => gK hb q2⟩
      simp [gN (.inr q2)]
  · rintro _ K hc
    rw [clI] at hc
    simp
    refine loop_list (σ := Unit) l (fun n _ => [.int (n : Nat)]) (fun n rest _ => prI T 0 l = prI T n rest) () rfl rfl ?_ ?_
    · rintro n a rest _ K hx hr hn hg hK
      have hao := hok a (List.mem_iff_getElem?.2 ⟨n, hx⟩)
      rw [prI] at hg
      have hw2 : IntKind.i64.wrap ((n : Int) + 1) = (n : Int) + 1 := wrap64 (by omega) (by omega)
      simp [hn, lst_atAgg hx, encM, hw2]
      refine loop_from (σ := Unit) l (n + 1) (by omega) (fun n _ => [.int (n : Nat)]) (fun k rest' _ => prK T a (n + 1) rest = prK T a k rest') () (by simp) (by rw [hr]) ?_ ?_
      · rintro k b rest' _ K' hk hxb hrb hkn hgb hK'
        have hbo := hok b (List.mem_iff_getElem?.2 ⟨k, hxb⟩)
        rw [prK] at hgb
        have hw3 : IntKind.i64.wrap ((k : Int) + 1) = (k : Int) + 1 := wrap64 (by omega) (by omega)
        have hw4 : IntKind.i64.wrap (b.t - a.t) = b.t - a.t := wrap64 (by omega) (by omega)
        have gN : b.t - a.t < gpI T a b → wrI l s T = ((n : Int), (k : Int), 15) := fun q => wrI_pr hc (by rw [if_pos q] at hgb; rw [hg, hgb, if_pos (by omega)])
        have gK : ¬ (b.t - a.t < gpI T a b) → K' [.int ((k : Nat) + 1)] := fun q => hK' _ () (by simp) (by rw [hgb, if_neg q])
        simp [hkn, lst_atAgg hxb, lst_at hxb, encM, hw3, hw4]
        refine ⟨_, gap_fn T a b ⟨hao.2.2.1, hao.2.2.2.1⟩ ⟨hbo.2.2.1, hbo.2.2.2.1⟩, ?_⟩
        simp [hw3, hw4]
        refine ⟨fun q => ?_, fun q => gK (by omega)⟩
        simp [gN q]
      · rintro _ K' hgb
        rw [prK] at hgb
        simp [hw2]
        exact hK _ () (by simp) (by rw [hg, hgb, if_neg (by omega)])
    · rintro _ K hg
      rw [prI] at hg
      simp [wrI_no hc hg]
end Go.Proofs.Ytlhhdonpoglfkaa
