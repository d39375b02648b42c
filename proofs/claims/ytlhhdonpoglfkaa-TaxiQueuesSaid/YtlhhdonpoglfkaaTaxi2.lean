/- taxi's departures, and who waits. -/
import Derived.Test.YtlhhdonpoglfkaaTaxi
namespace Go.Proofs.Ytlhhdonpoglfkaa
open Go.RowKit
set_option linter.unusedVariables false
set_option linter.unusedSimpArgs false
set_option maxRecDepth 100000
def called (x : Ak) (y : Ak) : Bool := decide (y.c = x.c)
/-- What is wrong with departures, behind those that were seen. -/
def akE (l : List Sd) : List Ak → List Ak → Int
  | _, [] => 0
  | seen, x :: r => if isName x.c = false then 3 else if stI l x.s < 0 then 6 else if x.r < 0 ∨ x.r > 200000 then 12 else if seen.any (called x) = true then 7 else akE l (seen ++ [x]) r
def askE (l : List Sd) (d : List Ak) : Int := if stdE l ≠ 0 then stdE l else if d.length > 16 then 2 else akE l [] d
theorem askE_std {l : List Sd} {d : List Ak} (h : stdE l ≠ 0) : askE l d = stdE l := by unfold askE; rw [if_pos h]
theorem stdE_len {l : List Sd} (h : stdE l = 0) : l.length ≤ 16 := by
  unfold stdE at h
  split at h
  · cases h
  · omega
theorem tcheck_fn (l : List Sd) (d : List Ak) : Fn Try.prog 44 [sds l, aks d] .sc (.int (askE l d)) := by
  refine fn_run mixed 3 (Γ := TaxiF.Γ) (ann := TaxiF.ann) Try.func44 rfl Try.call44 ((TaxiF.check_form _ _ _).mpr ?_)
  have e1 : Ent Try.prog 99 := Try.call99
  have e2 : Ent Try.prog 134 := Try.call134
  have e3 : Ent Try.prog 100 := Try.call100
  refine ⟨_, stands_fn l, ?_⟩
  simp [e1, e2, e3]
  refine ⟨fun h => (askE_std h).symm, fun h => ?_⟩
  have hl := stdE_len h
  refine ⟨fun h2 => by unfold askE; rw [if_neg (by simp [h]), if_pos (by omega)], fun h2 => ?_⟩
  have hE : askE l d = akE l [] d := by unfold askE; rw [if_neg (by simp [h]), if_neg (by omega)]
  refine loop_list (σ := Unit) d (fun n _ => [.int (n : Nat)]) (fun n rest _ => askE l d = akE l (d.take n) rest) () rfl hE ?_ ?_
  · rintro n x rest _ K hx hr hn hg hK
    have hw2 : IntKind.i64.wrap ((n : Int) + 1) = (n : Int) + 1 := wrap64 (by omega) (by omega)
    rw [akE, ← take_snoc hx] at hg
    have g3 : isName x.c = false → 3 = askE l d := fun q => by rw [hg, if_pos q]
    have g6 : isName x.c = true → stI l x.s < 0 → 6 = askE l d := fun q1 q2 => by rw [hg, if_neg (by simp [q1]), if_pos q2]
    have g12 : isName x.c = true → ¬ stI l x.s < 0 → (x.r < 0 ∨ x.r > 200000) → 12 = askE l d := fun q1 q2 q3 => by rw [hg, if_neg (by simp [q1]), if_neg q2, if_pos q3]
    have gC : isName x.c = true → ¬ stI l x.s < 0 → ¬ (x.r < 0 ∨ x.r > 200000) → ((d.take n).any (called x) = true → 7 = askE l d) ∧ ((d.take n).any (called x) = false → K [.int ((n : Nat) + 1)]) := fun q1 q2 q3 => by
      rw [if_neg (by simp [q1]), if_neg q2, if_neg q3] at hg
      exact ⟨fun q4 => by rw [hg, if_pos q4], fun q4 => hK _ () (by simp) (by rw [hg, if_neg (by simp [q4])])⟩
    have hs := stand_fn l x.s (by omega)
    clear hg hK
    simp [hn, lst_atAgg hx, encK]
    (repeat' (first | exact trivial | (with_reducible intro hw; (try simp (disch := omega) only [wrap64] at hw); first | (exfalso; omega; done) | skip) | (with_reducible refine And.intro ?_ ?_) | (refine ⟨_, name_fn _, ?_⟩; (try simp [hw2]); (try simp (disch := omega) only [wrap64])) | (refine ⟨_, hs, ?_⟩; (try simp [hw2]); (try simp (disch := omega) only [wrap64])) | omega | assumption))
    all_goals first
      | exact g3 (by simp_all)
      | exact g6 (by simp_all) (by omega)
      | exact g12 (by simp_all) (by omega) (by omega)
      | (obtain ⟨c1, c2⟩ := gC (by simp_all) (by omega) (by omega)
         refine loop_list (σ := Unit) (d.take n) (fun n _ => [.int (n : Nat)]) (fun k rest _ => (d.take n).any (called x) = rest.any (called x)) () rfl rfl ?_ ?_
         · rintro k y rest' _ K' hy hr' hk hg' hK'
           have hw3 : IntKind.i64.wrap ((k : Int) + 1) = (k : Int) + 1 := by rw [List.length_take] at hk; exact wrap64 (by omega) (by omega)
           have hk' : k < (List.take n d).length := hk
           simp only [List.length_take] at hk'
           have hk1 : k < n := by omega
           rw [List.any_cons] at hg'
           simp [lst_atAgg hy, encK, hw3, hk']
           refine ⟨fun e => c1 (by rw [hg']; simp [called, e]), fun e => hK' _ () (by simp) (by rw [hg']; simp [called, e])⟩
         · intro _ K' hg'
           simp at hg'
           simp [hw2]
           exact c2 (by simpa using hg'))
  · intro _ K hg
    simp [hg, akE]
theorem aerr_fn (l : List Sd) (d : List Ak) : Fn Try.prog 41 [sds l, aks d] .sc (.int (askE l d)) := by
  refine fn_run mixed 3 (Γ := TaxiF.Γ) (ann := TaxiF.ann) Try.func41 rfl Try.call41 ((TaxiF.aerr_form _ _ _).mpr ?_)
  refine ⟨_, serr_fn l, ?_⟩
  simp
  refine ⟨fun h => (askE_std h).symm, fun h => ?_⟩
  have hl := stdE_len h
  refine ⟨fun h2 => by unfold askE; rw [if_neg (by simp [h]), if_pos (by omega)], fun h2 => ?_⟩
  have hE : askE l d = akE l [] d := by unfold askE; rw [if_neg (by simp [h]), if_neg (by omega)]
  refine loop_list (σ := Unit) d (fun n _ => [.int (n : Nat)]) (fun n rest _ => askE l d = akE l (d.take n) rest) () rfl hE ?_ ?_
  · rintro n x rest _ K hx hr hn hg hK
    have hw2 : IntKind.i64.wrap ((n : Int) + 1) = (n : Int) + 1 := wrap64 (by omega) (by omega)
    rw [akE, ← take_snoc hx] at hg
    have g3 : isName x.c = false → 3 = askE l d := fun q => by rw [hg, if_pos q]
    have g6 : isName x.c = true → stI l x.s < 0 → 6 = askE l d := fun q1 q2 => by rw [hg, if_neg (by simp [q1]), if_pos q2]
    have g12 : isName x.c = true → ¬ stI l x.s < 0 → (x.r < 0 ∨ x.r > 200000) → 12 = askE l d := fun q1 q2 q3 => by rw [hg, if_neg (by simp [q1]), if_neg q2, if_pos q3]
    have gC : isName x.c = true → ¬ stI l x.s < 0 → ¬ (x.r < 0 ∨ x.r > 200000) → ((d.take n).any (called x) = true → 7 = askE l d) ∧ ((d.take n).any (called x) = false → K [.int ((n : Nat) + 1)]) := fun q1 q2 q3 => by
      rw [if_neg (by simp [q1]), if_neg q2, if_neg q3] at hg
      exact ⟨fun q4 => by rw [hg, if_pos q4], fun q4 => hK _ () (by simp) (by rw [hg, if_neg (by simp [q4])])⟩
    have hs := standat_fn l x.s (by omega)
    clear hg hK
    simp [hn, lst_atAgg hx, encK]
    (repeat' (first | exact trivial | (with_reducible intro hw; (try simp (disch := omega) only [wrap64] at hw); first | (exfalso; omega; done) | skip) | (with_reducible refine And.intro ?_ ?_) | (refine ⟨_, isname_fn _, ?_⟩; (try simp [hw2]); (try simp (disch := omega) only [wrap64])) | (refine ⟨_, hs, ?_⟩; (try simp [hw2]); (try simp (disch := omega) only [wrap64])) | omega | assumption))
    all_goals first
      | exact g3 (by simp_all)
      | exact g6 (by simp_all) (by omega)
      | exact g12 (by simp_all) (by omega) (by omega)
      | (obtain ⟨c1, c2⟩ := gC (by simp_all) (by omega) (by omega)
         have hlen : (d.take n).length = n := by rw [List.length_take]; omega
         refine loop_list (σ := Unit) (d.take n) (fun n _ => [.int (n : Nat)]) (fun k rest _ => (d.take n).any (called x) = rest.any (called x)) () rfl rfl ?_ ?_
         · rintro k y rest' _ K' hy hr' hk hg' hK'
           rw [hlen] at hk
           have hy' : d[k]? = some y := by rw [List.getElem?_take, if_pos hk] at hy; exact hy
           have hw3 : IntKind.i64.wrap ((k : Int) + 1) = (k : Int) + 1 := wrap64 (by omega) (by omega)
           rw [List.any_cons] at hg'
           simp [lst_at hy', encK, hw3, hk, show k < d.length by omega]
           refine ⟨fun e => c1 (by rw [hg']; simp [called, e]), fun e => hK' _ () (by simp) (by rw [hg']; simp [called, e])⟩
         · intro _ K' hg'
           rw [hlen]
           simp at hg'
           simp [hw2]
           exact c2 (by simpa using hg'))
  · intro _ K hg
    simp [hg, akE]
/-! ### who waits -/
def waits1 (t : Int) (m : Tx) : Bool := decide (t ≥ m.h ∧ t < m.l)
def waitN (l : List Tx) (t : Int) : Int := (l.countP (waits1 t) : Nat)
theorem waiting_fn (l : List Tx) (t : Int) (hl : l.length ≤ 1000) : Fn Try.prog 49 [txs l, .int t] .sc (.int (waitN l t)) := by
  refine fn_run mixed 3 (Γ := TaxiF.Γ) (ann := TaxiF.ann) Try.func49 rfl Try.call49 ((TaxiF.waiting_form _ _ _).mpr ?_)
  simp
  refine loop_list (σ := Nat) l (fun n c => [.int (c : Nat), .int (n : Nat)]) (fun n rest c => c ≤ n ∧ waitN l t = ((c + rest.countP (waits1 t) : Nat) : Int)) 0 rfl ⟨by omega, by simp [waitN]⟩ ?_ ?_
  · rintro n x rest c K hx hr hn ⟨hc, hg⟩ hK
    have hw2 : IntKind.i64.wrap ((n : Int) + 1) = (n : Int) + 1 := wrap64 (by omega) (by omega)
    have hw3 : IntKind.i64.wrap ((c : Int) + 1) = (c : Int) + 1 := wrap64 (by omega) (by omega)
    rw [List.countP_cons] at hg
    have gY : t ≥ x.h → t < x.l → K [.int ((c : Nat) + 1), .int ((n : Nat) + 1)] := fun q1 q2 => hK _ (c + 1) (by simp) ⟨by omega, by rw [hg]; simp [waits1, q1, q2]; omega⟩
    have gN : ¬ (t ≥ x.h ∧ t < x.l) → K [.int (c : Nat), .int ((n : Nat) + 1)] := fun q => hK _ c (by simp) ⟨by omega, by rw [hg, if_neg (by simp only [waits1, decide_eq_true_eq]; exact q)]; simp⟩
    clear hg hK
    simp [hn, lst_atAgg hx, encT, hw2, hw3]
    (repeat' (first | exact trivial | (with_reducible intro hw; (try simp (disch := omega) only [wrap64] at hw); first | (exfalso; omega; done) | skip) | (with_reducible refine And.intro ?_ ?_) | omega | assumption))
    all_goals (first | exact gY (by omega) (by omega) | exact gN (by omega))
  · rintro c K ⟨_, hg⟩
    simp [hg]
theorem count_fn (l : List Tx) (t : Int) (hl : l.length ≤ 1000) : Fn Try.prog 47 [.int t, .ref [txs l]] .sc (.int (waitN l t)) := by
  refine fn_run mixed 0 (Γ := TaxiF.Γ) (ann := TaxiF.ann) Try.func47 rfl Try.call47 ((TaxiF.count_form _ _ _).mpr ?_)
  simp
  refine loop_list (σ := Nat) l (fun n c => [.int (c : Nat), .int (n : Nat)]) (fun n rest c => c ≤ n ∧ waitN l t = ((c + rest.countP (waits1 t) : Nat) : Int)) 0 rfl ⟨by omega, by simp [waitN]⟩ ?_ ?_
  · rintro n x rest c K hx hr hn ⟨hc, hg⟩ hK
    have hw2 : IntKind.i64.wrap ((n : Int) + 1) = (n : Int) + 1 := wrap64 (by omega) (by omega)
    have hw3 : IntKind.i64.wrap ((c : Int) + 1) = (c : Int) + 1 := wrap64 (by omega) (by omega)
    rw [List.countP_cons] at hg
    have gY : t ≥ x.h → t < x.l → K [.int ((c : Nat) + 1), .int ((n : Nat) + 1)] := fun q1 q2 => hK _ (c + 1) (by simp) ⟨by omega, by rw [hg]; simp [waits1, q1, q2]; omega⟩
    have gN : ¬ (t ≥ x.h ∧ t < x.l) → K [.int (c : Nat), .int ((n : Nat) + 1)] := fun q => hK _ c (by simp) ⟨by omega, by rw [hg, if_neg (by simp only [waits1, decide_eq_true_eq]; exact q)]; simp⟩
    clear hg hK
    simp [hn, lst_atAgg hx, encT, hw2, hw3]
    (repeat' (first | exact trivial | (with_reducible intro hw; (try simp (disch := omega) only [wrap64] at hw); first | (exfalso; omega; done) | skip) | (with_reducible refine And.intro ?_ ?_) | omega | assumption))
    all_goals (first | exact gY (by omega) (by omega) | exact gN (by omega))
  · rintro c K ⟨_, hg⟩
    simp [hg]
/-- The greatest number that waits, and when. -/
def mostG (l : List Tx) : Int × Int → List Tx → Int × Int
  | s, [] => s
  | s, m :: r => mostG l (if waitN l m.h > s.1 ∨ (waitN l m.h = s.1 ∧ waitN l m.h > 0 ∧ m.h < s.2) then (waitN l m.h, m.h) else s) r
def mostV (l : List Tx) : AV := .tup [.int (mostG l (0, 0) l).1, .int (mostG l (0, 0) l).2]
theorem most_fn (l : List Tx) (hl : l.length ≤ 1000) : Fn Try.prog 48 [txs l] (.tup [.sc, .sc]) (mostV l) := by
  refine fn_run mixed 3 (Γ := TaxiF.Γ) (ann := TaxiF.ann) Try.func48 rfl Try.call48 ((TaxiF.most_form _ _).mpr ?_)
  simp
  refine loop_list (σ := Int × Int) l (fun n s => [.int s.1, .int s.2, .int (n : Nat)]) (fun n rest s => mostG l (0, 0) l = mostG l s rest) (0, 0) rfl rfl ?_ ?_
  · rintro n x rest ⟨s1, s2⟩ K hx hr hn hg hK
    have hw2 : IntKind.i64.wrap ((n : Int) + 1) = (n : Int) + 1 := wrap64 (by omega) (by omega)
    rw [mostG] at hg
    have gY : (waitN l x.h > s1 ∨ (waitN l x.h = s1 ∧ waitN l x.h > 0 ∧ x.h < s2)) → K [.int (waitN l x.h), .int x.h, .int ((n : Nat) + 1)] := fun q => hK _ (waitN l x.h, x.h) (by simp) (by rw [hg, if_pos q])
    have gN : ¬ (waitN l x.h > s1 ∨ (waitN l x.h = s1 ∧ waitN l x.h > 0 ∧ x.h < s2)) → K [.int s1, .int s2, .int ((n : Nat) + 1)] := fun q => hK _ (s1, s2) (by simp) (by rw [hg, if_neg q])
    have hf := waiting_fn l x.h hl
    clear hg hK
    simp [hn, lst_atAgg hx, encT, hw2]
    (repeat' (first | exact trivial | (with_reducible intro hw; (try simp (disch := omega) only [wrap64] at hw); first | (exfalso; omega; done) | skip) | (with_reducible refine And.intro ?_ ?_) | (refine ⟨_, hf, ?_⟩; (try simp [hw2]); (try simp (disch := omega) only [wrap64])) | omega | assumption))
    all_goals (first | exact gY (by omega) | exact gN (by omega))
  · rintro ⟨s1, s2⟩ K hg
    simp [mostV, hg, mostG]
theorem eqt_fn (l m : List Tx) (hl : l.length ≤ maxLen) : Fn Try.prog 46 [txs l, txs m] .sc (.bool (decide (l = m))) := by
  refine fn_run mixed 0 (Γ := TaxiF.Γ) (ann := TaxiF.ann) Try.func46 rfl Try.call46 ((TaxiF.eqm_form _ _ _).mpr ?_)
  unfold maxLen at hl
  simp
  refine ⟨fun h => fun e => h (by rw [e]), fun h => equal_loop l m (by omega) rfl ?_ ?_⟩
  · rintro n ⟨x1, x2, x3, x4⟩ ⟨y1, y2, y3, y4⟩ K hx hy hn h1 h2
    simp [hn, show n < m.length by omega, lst_atAgg hx, lst_atAgg hy, encT, AV.eqPlOk, AV.nePl]
    rw [wrap64 (by omega) (by omega)]
    refine ⟨fun h => by simpa using h1 (by rintro ⟨⟩; simp at h), fun e1 e2 e3 e4 => h2 (by rw [e1, e2, e3, e4])⟩
  · intro K h1
    simpa using h1
end Go.Proofs.Ytlhhdonpoglfkaa
