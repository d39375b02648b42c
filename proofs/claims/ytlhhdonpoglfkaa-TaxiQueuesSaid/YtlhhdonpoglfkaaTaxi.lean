/- taxi's functions. -/
import Derived.Test.YtlhhdonpoglfkaaTaxiF
import Derived.Test.YtlhhdonpoglfkaaName
import Derived.Test.YtlhhdonpoglfkaaSort
import Derived.Test.YtlhhdonpoglfkaaSortLay
namespace Go.Proofs.Ytlhhdonpoglfkaa
open Go.RowKit
set_option linter.unusedVariables false
set_option linter.unusedSimpArgs false
set_option maxRecDepth 100000
/-- A stand. -/
structure Sd where
  n : ByteArray
  t : Int
  deriving DecidableEq
def encD (x : Sd) : List AV := [.string x.n, .int x.t]
abbrev sds (l : List Sd) : AV := lst 2 encD l
/-- A departure. -/
structure Ak where
  c : ByteArray
  s : ByteArray
  r : Int
  deriving DecidableEq
def encK (x : Ak) : List AV := [.string x.c, .string x.s, .int x.r]
abbrev aks (l : List Ak) : AV := lst 3 encK l
/-- A movement. -/
structure Tx where
  c : ByteArray
  p : Int
  h : Int
  l : Int
  deriving DecidableEq, Inhabited
def encT (x : Tx) : List AV := [.string x.c, .int x.p, .int x.h, .int x.l]
abbrev txs (l : List Tx) : AV := lst 4 encT l
theorem flat_txs (l : List Tx) : (txs l).flatS := lst_flatS fun x _ z hz => by
  simp [encT] at hz; rcases hz with rfl | rfl | rfl | rfl <;> exact .lit _
/-! ### comparing -/
def cmpS (a b : ByteArray) : Int := if key a < key b then -1 else if key a ≤ key b then 0 else 1
theorem compare_fn (a b : ByteArray) : Fn Try.prog 96 [.string a, .string b] .sc (.int (cmpS a b)) := by
  refine fn_run mixed 2 (Γ := TaxiF.Γ) (ann := TaxiF.ann) Try.func96 rfl Try.call96 ((TaxiF.cmp_form _ _ _).mpr ?_)
  have e1 : Ent Try.prog 133 := Try.call133
  simp [e1]
  refine ⟨fun h => by simp [cmpS, h], fun h => ⟨fun h2 => ?_, fun h2 => ?_⟩⟩
  · rw [cmpS, if_neg (by simpa using h), if_neg (by simpa using h2)]
  · rw [cmpS, if_neg (by simpa using h), if_pos (by simpa using h2)]
def orI : List Int → Int
  | [] => 0
  | x :: r => if x = 0 then orI r else x
def encI (x : Int) : List AV := [.int x]
theorem or_fn (l : List Int) (hl : l.length ≤ 100) : Fn Try.prog 95 [lst 1 encI l] .sc (.int (orI l)) := by
  refine fn_run mixed 2 (Γ := TaxiF.Γ) (ann := TaxiF.ann) Try.func95 rfl Try.call95 ((TaxiF.or_form _ _).mpr ?_)
  simp
  refine loop_list (σ := Unit) l (fun n _ => [.int (n : Nat)]) (fun n rest _ => orI l = orI rest) () rfl rfl ?_ ?_
  · rintro n x rest _ K hx hr hn hg hK
    have hw2 : IntKind.i64.wrap ((n : Int) + 1) = (n : Int) + 1 := wrap64 (by omega) (by omega)
    simp [hn, lst_at hx, encI, hw2]
    rw [orI] at hg
    exact ⟨fun h => by rw [hg, if_neg h], fun h => hK _ () (by simp) (by rw [hg, if_pos h])⟩
  · intro _ K hg
    simp [hg, orI]
/-- The order of movements: by the time at the runway, then by name. -/
def txC (a b : Tx) : Int := if a.h - b.h = 0 then cmpS a.c b.c else a.h - b.h
def avC (x y : List AV) : Int := if (x.getD 2 default).num - (y.getD 2 default).num = 0 then cmpS (x.getD 0 default).str (y.getD 0 default).str else (x.getD 2 default).num - (y.getD 2 default).num
theorem less_fn (a b : Tx) (h : 0 ≤ a.h ∧ a.h ≤ 1000000 ∧ 0 ≤ b.h ∧ b.h ≤ 1000000) : Fn Try.prog 94 [.agg (encT a), .agg (encT b)] .sc (.int (avC (encT a) (encT b))) := by
  refine fn_run mixed 2 (Γ := TaxiF.Γ) (ann := TaxiF.ann) Try.func94 rfl Try.call94 ((TaxiF.less_form _ _ _).mpr ?_)
  simp [encT]
  refine ⟨_, compare_fn _ _, ?_⟩
  simp
  have hw : IntKind.i64.wrap (a.h - b.h) = a.h - b.h := wrap64 (by omega) (by omega)
  rw [hw]
  have q := or_fn [a.h - b.h, cmpS a.c b.c] (by simp)
  have e : orI [a.h - b.h, cmpS a.c b.c] = avC (encT a) (encT b) := by
    simp only [orI, avC, encT, List.getD_cons_zero, List.getD_cons_succ, AV.num, AV.str]
    by_cases h0 : a.h - b.h = 0
    · rw [if_pos h0, if_pos h0]
      split
      · rename_i h1; exact h1.symm
      · rfl
    · rw [if_neg h0, if_neg h0]
  rw [e] at q
  exact q
/-! ### stands -/
def stI (l : List Sd) (n : ByteArray) : Int := idxN (fun s => decide (s.n = n)) 0 l
theorem stand_fn (l : List Sd) (n : ByteArray) (hl : l.length ≤ 1000) : Fn Try.prog 92 [sds l, .string n] .sc (.int (stI l n)) := by
  refine fn_run mixed 3 (Γ := TaxiF.Γ) (ann := TaxiF.ann) Try.func92 rfl Try.call92 ((TaxiF.stand_form _ _ _).mpr ?_)
  have e1 : Ent Try.prog 129 := Try.call129
  have e2 : Ent Try.prog 130 := Try.call130
  simp [e1, e2]
  refine loop_list (σ := Unit) l (fun n _ => [.int (n : Nat)]) (fun k rest _ => stI l n = idxN (fun s => decide (s.n = n)) k rest) () rfl rfl ?_ ?_
  · rintro k x rest _ K hx hr hn hg hK
    have hw2 : IntKind.i64.wrap ((k : Int) + 1) = (k : Int) + 1 := wrap64 (by omega) (by omega)
    simp [hn, lst_atAgg hx, encD, hw2]
    rw [idxN] at hg
    exact ⟨fun h => by rw [hg, if_pos (by simpa using h)], fun h => hK _ () (by simp) (by rw [hg, if_neg (by simpa using h)])⟩
  · intro _ K hg
    simp [hg, idxN]
theorem standat_fn (l : List Sd) (n : ByteArray) (hl : l.length ≤ 1000) : Fn Try.prog 97 [sds l, .string n] .sc (.int (stI l n)) := by
  refine fn_run mixed 3 (Γ := TaxiF.Γ) (ann := TaxiF.ann) Try.func97 rfl Try.call97 ((TaxiF.standat_form _ _ _).mpr ?_)
  simp
  refine loop_list (σ := Unit) l (fun n _ => [.int (n : Nat)]) (fun k rest _ => stI l n = idxN (fun s => decide (s.n = n)) k rest) () rfl rfl ?_ ?_
  · rintro k x rest _ K hx hr hn hg hK
    have hw2 : IntKind.i64.wrap ((k : Int) + 1) = (k : Int) + 1 := wrap64 (by omega) (by omega)
    simp [hn, lst_atAgg hx, encD, hw2]
    rw [idxN] at hg
    exact ⟨fun h => by rw [hg, if_pos (by simpa using h)], fun h => hK _ () (by simp) (by rw [hg, if_neg (by simpa using h)])⟩
  · intro _ K hg
    simp [hg, idxN]
/-- What is wrong with stands, behind those that were seen. -/
def sdE : List Sd → List Sd → Int
  | _, [] => 0
  | seen, s :: r => if isName s.n = false then 3 else if s.t < 0 ∨ s.t > 1800 then 4 else if 0 ≤ stI seen s.n then 7 else sdE (seen ++ [s]) r
def stdE (l : List Sd) : Int := if l.length > 16 then 2 else sdE [] l
theorem take_snoc {α : Type} {l : List α} {n : Nat} {x : α} (h : l[n]? = some x) : l.take (n + 1) = l.take n ++ [x] := by
  rw [List.take_add_one, h]; rfl
theorem stands_fn (l : List Sd) : Fn Try.prog 42 [sds l] .sc (.int (stdE l)) := by
  refine fn_run mixed 3 (Γ := TaxiF.Γ) (ann := TaxiF.ann) Try.func42 rfl Try.call42 ((TaxiF.stands_form _ _).mpr ?_)
  simp
  refine ⟨fun h => by unfold stdE; rw [if_pos (by omega)], fun h => ?_⟩
  have hE : stdE l = sdE [] l := by unfold stdE; rw [if_neg (by omega)]
  refine loop_list (σ := Unit) l (fun n _ => [.int (n : Nat)]) (fun n rest _ => stdE l = sdE (l.take n) rest) () rfl hE ?_ ?_
  · rintro n x rest _ K hx hr hn hg hK
    have hw2 : IntKind.i64.wrap ((n : Int) + 1) = (n : Int) + 1 := wrap64 (by omega) (by omega)
    rw [sdE, ← take_snoc hx] at hg
    have g3 : isName x.n = false → 3 = stdE l := fun q => by rw [hg, if_pos q]
    have g4 : isName x.n = true → (x.t < 0 ∨ x.t > 1800) → 4 = stdE l := fun q1 q2 => by rw [hg, if_neg (by simp [q1]), if_pos q2]
    have g7 : isName x.n = true → ¬ (x.t < 0 ∨ x.t > 1800) → 0 ≤ stI (l.take n) x.n → 7 = stdE l := fun q1 q2 q3 => by rw [hg, if_neg (by simp [q1]), if_neg q2, if_pos q3]
    have gK : isName x.n = true → ¬ (x.t < 0 ∨ x.t > 1800) → ¬ 0 ≤ stI (l.take n) x.n → K [.int ((n : Nat) + 1)] := fun q1 q2 q3 => hK _ () (by simp) (by rw [hg, if_neg (by simp [q1]), if_neg q2, if_neg q3])
    have hs := stand_fn (l.take n) x.n (by simp; omega)
    clear hg hK
    simp [hn, lst_atAgg hx, encD]
    (repeat' (first | exact trivial | (with_reducible intro hw; (try simp (disch := omega) only [wrap64] at hw); first | (exfalso; omega; done) | skip) | (with_reducible refine And.intro ?_ ?_) | (refine ⟨_, name_fn _, ?_⟩; (try simp [hw2]); (try simp (disch := omega) only [wrap64])) | (refine ⟨_, hs, ?_⟩; (try simp [hw2]); (try simp (disch := omega) only [wrap64])) | omega | assumption))
    all_goals (first | exact g3 (by simp_all) | exact g4 (by simp_all) (by omega) | exact g7 (by simp_all) (by omega) (by omega) | exact gK (by simp_all) (by omega) (by omega))
  · intro _ K hg
    simp [hg, sdE]
theorem serr_fn (l : List Sd) : Fn Try.prog 43 [sds l] .sc (.int (stdE l)) := by
  refine fn_run mixed 3 (Γ := TaxiF.Γ) (ann := TaxiF.ann) Try.func43 rfl Try.call43 ((TaxiF.serr_form _ _).mpr ?_)
  simp
  refine ⟨fun h => by unfold stdE; rw [if_pos (by omega)], fun h => ?_⟩
  have hE : stdE l = sdE [] l := by unfold stdE; rw [if_neg (by omega)]
  refine loop_list (σ := Unit) l (fun n _ => [.int (n : Nat)]) (fun n rest _ => stdE l = sdE (l.take n) rest) () rfl hE ?_ ?_
  · rintro n x rest _ K hx hr hn hg hK
    have hw2 : IntKind.i64.wrap ((n : Int) + 1) = (n : Int) + 1 := wrap64 (by omega) (by omega)
    rw [sdE, ← take_snoc hx] at hg
    have g3 : isName x.n = false → 3 = stdE l := fun q => by rw [hg, if_pos q]
    have g4 : isName x.n = true → (x.t < 0 ∨ x.t > 1800) → 4 = stdE l := fun q1 q2 => by rw [hg, if_neg (by simp [q1]), if_pos q2]
    have g7 : isName x.n = true → ¬ (x.t < 0 ∨ x.t > 1800) → 0 ≤ stI (l.take n) x.n → 7 = stdE l := fun q1 q2 q3 => by rw [hg, if_neg (by simp [q1]), if_neg q2, if_pos q3]
    have gK : isName x.n = true → ¬ (x.t < 0 ∨ x.t > 1800) → ¬ 0 ≤ stI (l.take n) x.n → K [.int ((n : Nat) + 1)] := fun q1 q2 q3 => hK _ () (by simp) (by rw [hg, if_neg (by simp [q1]), if_neg q2, if_neg q3])
    have hs := standat_fn (l.take n) x.n (by simp; omega)
    clear hg hK
    simp [hn, lst_atAgg hx, encD]
    (repeat' (first | exact trivial | (with_reducible intro hw; (try simp (disch := omega) only [wrap64] at hw); first | (exfalso; omega; done) | skip) | (with_reducible refine And.intro ?_ ?_) | (refine ⟨_, isname_fn _, ?_⟩; (try simp [hw2]); (try simp (disch := omega) only [wrap64])) | (refine ⟨_, hs, ?_⟩; (try simp [hw2]); (try simp (disch := omega) only [wrap64])) | omega | assumption))
    all_goals (first | exact g3 (by simp_all) | exact g4 (by simp_all) (by omega) | exact g7 (by simp_all) (by omega) (by omega) | exact gK (by simp_all) (by omega) (by omega))
  · intro _ K hg
    simp [hg, sdE]
theorem sdE_ok : ∀ {seen l : List Sd}, sdE seen l = 0 → ∀ x ∈ l, 0 ≤ x.t ∧ x.t ≤ 1800
  | _, [], _, x, hx => by simp at hx
  | seen, s :: l, h, x, hx => by
    rw [sdE] at h
    split at h
    · cases h
    · split at h
      · cases h
      · split at h
        · cases h
        · rcases List.mem_cons.1 hx with e | hx
          · subst e; omega
          · exact sdE_ok h x hx
end Go.Proofs.Ytlhhdonpoglfkaa
