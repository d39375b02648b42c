/- runway.Insert. -/
import Derived.Test.YtlhhdonpoglfkaaRunway5
import Derived.Test.YtlhhdonpoglfkaaRunwayH
import Derived.Test.YtlhhdonpoglfkaaInsMv
namespace Go.Proofs.Ytlhhdonpoglfkaa
open Go.RowKit
set_option linter.unusedVariables false
set_option linter.unusedSimpArgs false
set_option maxRecDepth 100000
/-- Two movements that are too near: one at a time, and one of the list. -/
def clashB (T : Nat → Int) (m x : Mv) : Bool := decide ((x.t ≤ m.t ∧ m.t - x.t < gpI T x m) ∨ (x.t ≥ m.t ∧ x.t - m.t < gpI T m x))
def fitB (T : Nat → Int) (m : Mv) (l : List Mv) : Bool := l.all fun x => !clashB T m x
theorem fitB_cons (T : Nat → Int) (m x : Mv) (l : List Mv) : fitB T m (x :: l) = (!clashB T m x && fitB T m l) := rfl
def OkM (x : Mv) : Prop := 0 ≤ x.t ∧ x.t ≤ 200000 ∧ 0 ≤ x.w ∧ x.w ≤ 3 ∧ (x.e = 0 ∨ x.e = 1)
theorem fits_fn (l : List Mv) (m : Mv) (T : Nat → Int) (hlen : l.length ≤ 1000000) (hok : ∀ x ∈ l, OkM x) (hm : 0 ≤ m.t ∧ m.t ≤ 200000 ∧ 0 ≤ m.w ∧ m.w ≤ 3) : Fn Try.prog 86 [mvs l, .agg (encM m), tabA T] .sc (.bool (fitB T m l)) := by
  refine fn_run mixed 0 (Γ := RunwayF.Γ) (ann := RunwayF.ann) Try.func86 rfl Try.call86 ((RunwayF.fits_form _ _ _ _).mpr ?_)
  refine ⟨by simp [encM], by simp [tabA, tabL], ?_⟩
  simp
  refine loop_list (σ := Unit) l (fun n _ => [.int (n : Nat)]) (fun n rest _ => fitB T m l = fitB T m rest) () rfl rfl ?_ ?_
  · rintro n x rest _ K hx hr hn hg hK
    have hxo := hok x (List.mem_iff_getElem?.2 ⟨n, hx⟩)
    unfold OkM at hxo
    have hw2 : IntKind.i64.wrap ((n : Int) + 1) = (n : Int) + 1 := wrap64 (by omega) (by omega)
    have hw3 : IntKind.i64.wrap (m.t - x.t) = m.t - x.t := wrap64 (by omega) (by omega)
    have hw4 : IntKind.i64.wrap (x.t - m.t) = x.t - m.t := wrap64 (by omega) (by omega)
    have gN : ((x.t ≤ m.t ∧ m.t - x.t < gpI T x m) ∨ (x.t ≥ m.t ∧ x.t - m.t < gpI T m x)) → fitB T m l = false := fun q => by
      rw [hg, fitB_cons, clashB, decide_eq_true q]; rfl
    have gK : ¬ ((x.t ≤ m.t ∧ m.t - x.t < gpI T x m) ∨ (x.t ≥ m.t ∧ x.t - m.t < gpI T m x)) → K [.int ((n : Nat) + 1)] := fun q => hK _ () (by simp) (by
      rw [hg, fitB_cons, clashB, decide_eq_false q]; rfl)
    have c1 := gap_fn T x m ⟨by omega, by omega⟩ ⟨by omega, by omega⟩
    have c2 := gap_fn T m x ⟨by omega, by omega⟩ ⟨by omega, by omega⟩
    simp [hn, lst_atAgg hx, encM, hw2, hw3, hw4]
    (repeat' (first | exact trivial | (with_reducible intro hw; (try simp (disch := omega) only [wrap64] at hw); first | (exfalso; omega; done) | skip) | (with_reducible refine And.intro ?_ ?_) | (refine ⟨_, c1, ?_⟩; (try simp [hw2, hw3, hw4, encM]); (try simp (disch := omega) only [wrap64])) | (refine ⟨_, c2, ?_⟩; (try simp [hw2, hw3, hw4, encM]); (try simp (disch := omega) only [wrap64])) | omega | assumption))
    all_goals (first | exact gN (by omega) | exact gK (by omega))
  · rintro _ K hg
    have hg' : fitB T m l = true := hg
    simp [hg']
/-! ### the departure's second -/
def depM (t w : Int) : Mv := ⟨t, w, true, 0⟩
def canB (s : List Sp) (T : Nat → Int) (w : Int) (l : List Mv) (t : Int) : Bool := decide (0 ≤ eaR s t) && fitB T (depM t w) l
def dep (s : List Sp) (T : Nat → Int) (w : Int) (l : List Mv) : Nat → Int → Option Int
  | 0, _ => none
  | n + 1, t => if canB s T w l t then some t else dep s T w l n (t + 1)
theorem dep_mono {s : List Sp} {T : Nat → Int} {w : Int} {l : List Mv} {a : Int} : ∀ {n m : Nat} {t : Int}, dep s T w l n t = some a → n ≤ m → dep s T w l m t = some a
  | 0, _, _, h, _ => by cases h
  | n + 1, 0, _, _, h => absurd h (by omega)
  | n + 1, m + 1, t, h, hm => by
    rw [dep] at h ⊢
    split at h
    · rename_i hc; rw [if_pos hc]; exact h
    · rename_i hc; rw [if_neg hc]; exact dep_mono h (by omega)
theorem dep_some {s : List Sp} {T : Nat → Int} {w : Int} {l : List Mv} {a : Int} : ∀ {n : Nat} {t : Int}, dep s T w l n t = some a → canB s T w l a = true ∧ t ≤ a ∧ a < t + n
  | 0, _, h => by cases h
  | n + 1, t, h => by
    rw [dep] at h
    split at h
    · rename_i hc; injection h with h; subst h; exact ⟨hc, by omega, by omega⟩
    · have := dep_some h; exact ⟨this.1, by omega, by omega⟩
def insM (l : List Mv) (x : Mv) : List Mv := l.take (l.findIdx fun y => decide (y.t > x.t)) ++ (x :: l.drop (l.findIdx fun y => decide (y.t > x.t)))
structure Rd where
  t : Int
  w : Int
def encR (r : Rd) : List AV := [.int r.t, .int r.w]
abbrev rds (l : List Rd) : AV := lst 2 encR l
def insD (s : List Sp) (T : Nat → Int) : List Mv → List Rd → List Mv × Int
  | l, [] => (l, 0)
  | l, d :: r => if d.t < 0 ∨ d.t > 200000 then ([], 12) else if d.w < 0 ∨ d.w > 3 then ([], 1) else match dep s T d.w l (200001 - d.t).toNat d.t with
    | none => ([], 8)
    | some t => insD s T (insM l ⟨t, d.w, true, eaR s t⟩) r
noncomputable def insI (l : List Mv) (s : List Sp) (T : Nat → Int) (d : List Rd) : List Mv × Int := if (safI l s T).2.2 ≠ 0 then ([], (safI l s T).2.2) else if l.length + d.length > 24 then ([], 2) else insD s T l d
def mvT (p : List Mv × Int) : AV := .tup [mvs p.1, .int p.2]
theorem insMv_fn (l : List Mv) (x : Mv) (i : Nat) (hi : i ≤ l.length) (hl : l.length ≤ 1000000) : FnU Try.prog 31 35 4 (mvs l) [.int i, .sl 4 [[.int x.t, .int x.w, .bool x.d, .int x.e]]] true (mvs (l.take i ++ (x :: l.drop i))) := by
  have := insMv (l.map encM) [encM x] i (by simpa using hi) (by simp) (by intro y hy z hz; simp at hy; subst hy; simp [encM] at hz; rcases hz with rfl | rfl | rfl | rfl <;> exact .lit _) (by simp; omega)
  simpa [lst, List.map_take, List.map_drop, encM] using this
theorem eaL_01 {t : Int} : ∀ {r : List Sp} {e : Int}, (e = -1 ∨ e = 0 ∨ e = 1) → (∀ x ∈ r, x.e = 0 ∨ x.e = 1) → eaL t e r = -1 ∨ eaL t e r = 0 ∨ eaL t e r = 1
  | [], e, h, _ => h
  | s :: r, e, h, hr => by
    rw [eaL]
    split
    · exact .inl rfl
    · refine eaL_01 ?_ fun x hx => hr x (by simp [hx])
      split
      · exact .inr (hr s (by simp))
      · exact h
theorem eaR_01 {s : List Sp} (h : spGood s) (t : Int) : eaR s t = -1 ∨ eaR s t = 0 ∨ eaR s t = 1 := by
  obtain ⟨s, r, rfl, hlen, hse, hs0, hs1, hr⟩ := h.cons
  rw [eaR]
  refine eaL_01 ?_ fun x hx => (hr x hx).1
  split
  · omega
  · exact .inl rfl
theorem insM_ok {l : List Mv} {x : Mv} (h : ∀ y ∈ l, OkM y) (hx : OkM x) : ∀ y ∈ insM l x, OkM y := by
  intro y hy
  simp only [insM, List.mem_append, List.mem_cons] at hy
  rcases hy with hy | hy | hy
  · exact h y (List.mem_of_mem_take hy)
  · exact hy ▸ hx
  · exact h y (List.mem_of_mem_drop hy)
theorem insM_len (l : List Mv) (x : Mv) : (insM l x).length = l.length + 1 := by
  have := List.findIdx_le_length (p := fun y : Mv => decide (y.t > x.t)) (xs := l)
  simp [insM]; omega
theorem insert_fn (l : List Mv) (s : List Sp) (T : Nat → Int) (d : List Rd) (hd : d.length ≤ 4611686018427387903) : Fn Try.prog 27 [mvs l, sps s, tabA T, rds d] (.tup [.row 35 4 true, .sc]) (mvT (insI l s T d)) := by
  refine fn_run mixed 4 (Γ := RunwayH.Γ) (ann := RunwayH.ann) Try.func27 rfl Try.call27 ((RunwayH.insert_form _ _ _ _ _).mpr ?_)
  refine ⟨by simp [tabA, tabL], _, safe_fn l s T, ?_⟩
  simp [trA, mvT]
  refine ⟨fun h => by simp [insI, h], fun h0 => ?_⟩
  have hp : plE l s T = 0 := by
    by_cases hp : plE l s T = 0
    · exact hp
    · have e : safI l s T = (0, 0, plE l s T) := by simp [safI, hp]
      rw [e] at h0; exact absurd h0 hp
  have hm : movE l = 0 := by
    unfold plE at hp; split at hp
    · rename_i h; exact absurd hp h
    · rename_i h; simpa using h
  have hs : spaE s = 0 := by
    unfold plE at hp; rw [if_neg (by simp [hm])] at hp; split at hp
    · rename_i h; exact absurd hp h
    · rename_i h; simpa using h
  obtain ⟨hlen, hok⟩ := movE_ok hm
  rw [wrap64 (by omega) (by omega)]
  refine ⟨fun h => ?_, fun h24 => ⟨_, clonem_fn l hlen, ?_⟩⟩
  · have e : insI l s T d = ([], 2) := by unfold insI; rw [if_neg (by simpa using h0), if_pos (by omega)]
    simp [e]
  have hI : insI l s T d = insD s T l d := by unfold insI; rw [if_neg (by simpa using h0), if_neg (by omega)]
  rw [hI]
  refine loop_list (σ := List Mv) d (fun n out => [.int (n : Nat), mvs out]) (fun n rest out => out.length + rest.length ≤ 24 ∧ (∀ x ∈ out, OkM x) ∧ insD s T l d = insD s T out rest) l rfl ⟨by omega, hok, rfl⟩ ?_ ?_
  · rintro n x rest out K hx hr hn ⟨hol, hoo, hg⟩ hK
    simp only [List.length_cons] at hol
    rw [insD] at hg
    have hw2 : IntKind.i64.wrap ((n : Int) + 1) = (n : Int) + 1 := wrap64 (by omega) (by omega)
    simp [hn, lst_atAgg hx, encR, hw2]
    refine ⟨_, wt_fn x.t, ?_⟩
    simp
    refine ⟨fun q => ?_, fun q1 q2 => ⟨_, class_fn x.w, ?_⟩⟩
    · rw [if_pos (by omega)] at hg; simp [hg]
    rw [if_neg (by omega)] at hg
    by_cases hcw : x.w < 0 ∨ x.w > 3
    · rw [if_pos hcw] at hg
      simp [clsE_no hcw, hg]
    rw [if_neg hcw] at hg
    simp [clsE_ok (n := x.w) (by omega)]
    have hN : x.t + ((200001 - x.t).toNat : Nat) = 200001 := by omega
    refine loop_nat (σ := Unit) (200001 - x.t).toNat (fun k _ => [.int (x.t + (k : Nat)), .int x.w, .bool true, .int 0]) (fun k _ => dep s T x.w out (200001 - x.t).toNat x.t = dep s T x.w out ((200001 - x.t).toNat - k) (x.t + (k : Nat))) () (by simp) (by simp) ?_ ?_
    · rintro k _ K' hk hgk hK'
      obtain ⟨j, hj⟩ : ∃ j, (200001 - x.t).toNat - k = j + 1 := ⟨(200001 - x.t).toNat - k - 1, by omega⟩
      have hj2 : (200001 - x.t).toNat - (k + 1) = j := by omega
      rw [hj, dep] at hgk
      have hw3 : IntKind.i64.wrap (x.t + (k : Int) + 1) = x.t + (k : Int) + 1 := wrap64 (by omega) (by omega)
      have gK : canB s T x.w out (x.t + (k : Nat)) = false → K' [.int (x.t + (k : Nat) + 1), .int x.w, .bool true, .int 0] := fun q => hK' _ () (by simp; omega) (by
        rw [hgk, if_neg (by rw [q]; simp), hj2]; congr 1; omega)
      simp [show x.t + (k : Int) ≤ 200000 by omega]
      refine ⟨_, dir_fn s (x.t + (k : Nat)) hs ⟨by omega, by omega⟩, ?_⟩
      cases hb : dirB s (x.t + (k : Nat))
      · simp [hw3]
        exact gK (by simp only [dirB] at hb; rw [canB, hb]; rfl)
      simp
      refine ⟨_, fits_fn out (depM (x.t + (k : Nat)) x.w) T (by omega) hoo ⟨by simp only [depM]; omega, by simp only [depM]; omega, by simp only [depM]; omega, by simp only [depM]; omega⟩, ?_⟩
      cases hf : fitB T (depM (x.t + (k : Nat)) x.w) out
      · simp [hw3]
        exact gK (by rw [canB, hf]; simp)
      have hea : 0 ≤ eaR s (x.t + (k : Nat)) := by simpa [dirB] using hb
      have hdi : dirI s (x.t + (k : Nat)) = eaR s (x.t + (k : Nat)) := (dirI_is rfl hea).1
      have hdep : dep s T x.w out (200001 - x.t).toNat x.t = some (x.t + (k : Nat)) := by
        rw [hgk, if_pos (by rw [canB, hf]; simpa using hea)]
      rw [hdep] at hg
      have hxm : OkM ⟨x.t + (k : Nat), x.w, true, eaR s (x.t + (k : Nat))⟩ := ⟨by simp only; omega, by simp only; omega, by simp only; omega, by simp only; omega, by have := eaR_01 hs (x.t + (k : Nat)); simp only; omega⟩
      have gI : ∀ z, z = mvs (insM out ⟨x.t + (k : Nat), x.w, true, eaR s (x.t + (k : Nat))⟩) → K [.int ((n : Nat) + 1), z] := fun z hz => hK _ (insM out ⟨x.t + (k : Nat), x.w, true, eaR s (x.t + (k : Nat))⟩) (by rw [hz]; simp) ⟨by rw [insM_len]; omega, insM_ok hoo hxm, hg⟩
      have hin : ∀ i : Nat, i ≤ out.length → FnU Try.prog 31 35 4 (mvs out) [.int i, .sl 4 [[.int (x.t + (k : Nat)), .int x.w, .bool true, .int (eaR s (x.t + (k : Nat)))]]] true (mvs (out.take i ++ (⟨x.t + (k : Nat), x.w, true, eaR s (x.t + (k : Nat))⟩ :: out.drop i))) := fun i hi => insMv_fn out ⟨x.t + (k : Nat), x.w, true, eaR s (x.t + (k : Nat))⟩ i hi (by omega)
      simp [hdi, show ¬ (200000 < x.t + (k : Int)) by omega, hw2]
      refine ⟨Try.call87, ?_⟩
      refine loop_list (σ := Unit) out (fun i _ => [.int (i : Nat)]) (fun i rest' _ => out.findIdx (fun y => decide (y.t > x.t + (k : Nat))) = i + rest'.findIdx (fun y => decide (y.t > x.t + (k : Nat)))) () rfl (by simp) ?_ ?_
      · rintro i y rest' _ K'' hy hry hi hgi hKi
        rw [List.findIdx_cons] at hgi
        have hw4 : IntKind.i64.wrap ((i : Int) + 1) = (i : Int) + 1 := wrap64 (by omega) (by omega)
        simp [hi, lst_atAgg hy, encM, hw4, hw2]
        refine ⟨Try.call88, ?_⟩
        refine ⟨fun q => ?_, fun q => ?_⟩
        · rw [decide_eq_true (by omega)] at hgi
          refine ⟨fun q2 => absurd q2 (by omega), _, hin i (by omega), gI _ ?_⟩
          simp only [cond_true, Nat.add_zero] at hgi
          show mvs _ = mvs (out.take (out.findIdx fun y => decide (y.t > x.t + (k : Nat))) ++ (_ :: out.drop (out.findIdx fun y => decide (y.t > x.t + (k : Nat)))))
          rw [hgi]
        · rw [decide_eq_false (by omega)] at hgi
          exact hKi _ () (by simp) (by rw [hgi]; simp; omega)
      · rintro _ K'' hgi
        simp [hw2]
        refine ⟨_, hin out.length (by omega), gI _ ?_⟩
        simp only [List.findIdx_nil, Nat.add_zero] at hgi
        show mvs _ = mvs (out.take (out.findIdx fun y => decide (y.t > x.t + (k : Nat))) ++ (_ :: out.drop (out.findIdx fun y => decide (y.t > x.t + (k : Nat)))))
        rw [hgi]
    · rintro _ K' hgk
      rw [Nat.sub_self, dep] at hgk
      rw [hgk] at hg
      rw [hN]
      simp [hg]
  · rintro out K ⟨_, _, hg⟩
    have hf := flat_mvs out
    simp [hg, insD, hf]
end Go.Proofs.Ytlhhdonpoglfkaa
