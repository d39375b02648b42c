/- sequences: what is checked. -/
import Derived.Test.YtfdpbfdhcngfgaaSqF
import Derived.Test.YtfdpbfdhcngfgaaName
import Derived.Test.YtfdpbfdhcngfgaaCmp
import Derived.Test.YtfdpbfdhcngfgaaTab2
namespace Go.Proofs.Ytfdpbfdhcngfgaa
open Go.RowKit
set_option linter.unusedVariables false
set_option linter.unusedSimpArgs false
set_option maxRecDepth 100000
/-- An arrival. -/
structure Ar where
  c : ByteArray
  w : Int
  t : Int
  u : Int
  deriving DecidableEq, Inhabited
def encA (x : Ar) : List AV := [.string x.c, .int x.w, .int x.t, .int x.u]
abbrev ars (l : List Ar) : AV := lst 4 encA l
theorem flat_ints (l : List Int) : (ints l).flatS := lst_flatS fun x _ z hz => by
  simp [encI] at hz; rw [hz]; exact .lit _
def clsE (n : Int) : Int := if n < 0 ∨ n > 3 then 1 else 0
theorem class_fn (n : Int) : Fn Try.prog 30 [.int n] .sc (.int (clsE n)) := by
  refine fn_run mixed 3 (Γ := SqF.Γ) (ann := SqF.ann) Try.func30 rfl Try.call30 ((SqF.class_form _ _).mpr ?_)
  simp [clsE]
  refine ⟨fun h => ⟨h, by omega⟩, fun h => ⟨h, fun h' => by omega, fun h' => by omega⟩⟩
def calledA (x : Ar) (y : Ar) : Bool := decide (y.c = x.c)
def arE : List Ar → List Ar → Int
  | _, [] => 0
  | seen, x :: r => if isName x.c = false then 3 else if x.w < 0 ∨ x.w > 3 then 1 else if x.t < 0 ∨ x.t > x.u ∨ x.u > 200000 then 12 else if seen.any (calledA x) = true then 7 else arE (seen ++ [x]) r
def arrE (l : List Ar) : Int := if l.length > 8 then 2 else arE [] l
theorem any_rest {α : Type} {p : α → Bool} {x : α} {r : List α} {b : Bool} (h : b = (x :: r).any p) : (p x = true → b = true) ∧ (p x = false → b = r.any p) := by
  rw [List.any_cons] at h
  exact ⟨fun q => by rw [h, q]; rfl, fun q => by rw [h, q]; rfl⟩
theorem scheck_fn (l : List Ar) : Fn Try.prog 10 [ars l] .sc (.int (arrE l)) := by
  refine fn_run mixed 3 (Γ := SqF.Γ) (ann := SqF.ann) Try.func10 rfl Try.call10 ((SqF.check_form _ _).mpr ?_)
  have e2 : Ent Try.prog 31 := Try.call31
  have e3 : Ent Try.prog 41 := Try.call41
  have e4 : Ent Try.prog 32 := Try.call32
  simp
  refine ⟨fun h => by unfold arrE; rw [if_pos (by omega)], fun h => ?_⟩
  have hE : arrE l = arE [] l := by unfold arrE; rw [if_neg (by omega)]
  refine loop_list (σ := Unit) l (fun n _ => [.int (n : Nat)]) (fun n rest _ => arrE l = arE (l.take n) rest) () rfl hE ?_ ?_
  · rintro n x rest _ K hx hr hn hg hK
    have hw2 : IntKind.i64.wrap ((n : Int) + 1) = (n : Int) + 1 := wrap64 (by omega) (by omega)
    rw [arE, ← take_snoc hx] at hg
    have g3 : isName x.c = false → 3 = arrE l := fun q => by rw [hg, if_pos q]
    have g5 : isName x.c = true → clsE x.w ≠ 0 → clsE x.w = arrE l := fun q1 q2 => by
      have q3 : x.w < 0 ∨ x.w > 3 := Classical.byContradiction fun q => q2 (by unfold clsE; rw [if_neg q])
      rw [hg, if_neg (by simp [q1]), if_pos q3]; unfold clsE; rw [if_pos q3]
    have k0 : clsE x.w = 0 → ¬ (x.w < 0 ∨ x.w > 3) := fun q q' => by unfold clsE at q; rw [if_pos q'] at q; cases q
    have g4 : isName x.c = true → clsE x.w = 0 → (x.t < 0 ∨ x.t > x.u ∨ x.u > 200000) → 12 = arrE l := fun q1 q0 q2 => by rw [hg, if_neg (by simp [q1]), if_neg (k0 q0), if_pos q2]
    have c1 : isName x.c = true → clsE x.w = 0 → ¬ (x.t < 0 ∨ x.t > x.u ∨ x.u > 200000) → (l.take n).any (calledA x) = true → 7 = arrE l := fun q1 q0 q2 q3 => by rw [hg, if_neg (by simp [q1]), if_neg (k0 q0), if_neg q2, if_pos q3]
    have c2 : isName x.c = true → clsE x.w = 0 → ¬ (x.t < 0 ∨ x.t > x.u ∨ x.u > 200000) → (l.take n).any (calledA x) = false → K [.int ((n : Nat) + 1)] := fun q1 q0 q2 q3 => hK _ () (by simp) (by rw [hg, if_neg (by simp [q1]), if_neg (k0 q0), if_neg q2, if_neg (by simp [q3])])
    clear hg hK k0
    have gL : isName x.c = true → clsE x.w = 0 → ¬ (x.t < 0 ∨ x.t > x.u ∨ x.u > 200000) → ∀ (body : List AV → (List AV → Prop) → Prop) (i : Nat),
        (∀ (k : Nat) (y : Ar) (K' : List AV → Prop), (l.take n)[k]? = some y → l[k]? = some y → k < n → (y.c = x.c → arrE l = 7) → (y.c ≠ x.c → K' [.int ((k : Nat) + 1)]) → body [.int (k : Nat)] K') →
        (∀ K', K [.int ((n : Nat) + 1)] → body [.int (n : Nat)] K') → fLoop i [.int 0] body := fun q1 q0 q2 body i hb he => by
      have hlen : (l.take n).length = n := by rw [List.length_take]; omega
      refine loop_list (σ := Unit) (l.take n) (fun n _ => [.int (n : Nat)]) (fun k rest _ => (l.take n).any (calledA x) = rest.any (calledA x)) () rfl rfl ?_ ?_
      · rintro k y rest' _ K' hy hr' hk hg' hK'
        rw [hlen] at hk
        have hy' : l[k]? = some y := by rw [List.getElem?_take, if_pos hk] at hy; exact hy
        obtain ⟨a1, a2⟩ := any_rest hg'
        exact hb k y K' hy hy' hk (fun e => (c1 q1 q0 q2 (a1 (by simp [calledA, e]))).symm) (fun e => hK' _ () (by simp) (a2 (by simp [calledA, e])))
      · intro _ K' hg'
        rw [hlen]
        exact he K' (c2 q1 q0 q2 (by simpa using hg'))
    clear c1 c2
    simp [hn, lst_atAgg hx, encA]
    have hcl := class_fn x.w
    generalize clsE x.w = cl at *
    (repeat' (first | exact trivial | (with_reducible intro hw; (try simp (disch := omega) only [wrap64] at hw); first | (exfalso; omega; done) | skip) | (with_reducible refine And.intro ?_ ?_) | (refine ⟨_, name_fn _, ?_⟩; (try simp [hw2]); (try simp (disch := omega) only [wrap64])) | (refine ⟨_, hcl, ?_⟩; (try simp [hw2]); (try simp (disch := omega) only [wrap64])) | omega | assumption))
    all_goals (first | exact e2 | exact e3 | exact e4 | exact (g3 (by simp_all)) | exact (g5 (by simp_all) (by simp_all)) | exact (g4 (by simp_all) (by simp_all) (by omega)) | skip)
    all_goals (refine gL (by simp_all) (by simp_all) (by omega) _ _ ?_ ?_)
    all_goals (clear g3 g4 g5 gL)
    · intro k y K' hy hy' hk h1 h2
      have hw3 : IntKind.i64.wrap ((k : Int) + 1) = (k : Int) + 1 := wrap64 (by omega) (by omega)
      have hm : min n l.length = n := by omega
      simp [lst_atAgg hy, lst_atAgg hy', encA, hw3, hm, hk, show k < l.length by omega, e2, e3, e4]
      exact ⟨fun e => (h1 e).symm, fun e => h2 e⟩
    · intro K' hK
      have hm : min n l.length = n := by omega
      simp [hw2, hm]
      exact hK
  · intro _ K hg
    simp [hg, arE]
theorem aerr_fn (l : List Ar) : Fn Try.prog 9 [ars l] .sc (.int (arrE l)) := by
  refine fn_run mixed 3 (Γ := SqF.Γ) (ann := SqF.ann) Try.func9 rfl Try.call9 ((SqF.aerr_form _ _).mpr ?_)
  simp
  refine ⟨fun h => by unfold arrE; rw [if_pos (by omega)], fun h => ?_⟩
  have hE : arrE l = arE [] l := by unfold arrE; rw [if_neg (by omega)]
  refine loop_list (σ := Unit) l (fun n _ => [.int (n : Nat)]) (fun n rest _ => arrE l = arE (l.take n) rest) () rfl hE ?_ ?_
  · rintro n x rest _ K hx hr hn hg hK
    have hw2 : IntKind.i64.wrap ((n : Int) + 1) = (n : Int) + 1 := wrap64 (by omega) (by omega)
    rw [arE, ← take_snoc hx] at hg
    have g3 : isName x.c = false → 3 = arrE l := fun q => by rw [hg, if_pos q]
    have g5 : isName x.c = true → (x.w < 0 ∨ x.w > 3) → 1 = arrE l := fun q1 q3 => by rw [hg, if_neg (by simp [q1]), if_pos q3]
    have g4 : isName x.c = true → ¬ (x.w < 0 ∨ x.w > 3) → (x.t < 0 ∨ x.t > x.u ∨ x.u > 200000) → 12 = arrE l := fun q1 q0 q2 => by rw [hg, if_neg (by simp [q1]), if_neg q0, if_pos q2]
    have c1 : isName x.c = true → ¬ (x.w < 0 ∨ x.w > 3) → ¬ (x.t < 0 ∨ x.t > x.u ∨ x.u > 200000) → (l.take n).any (calledA x) = true → 7 = arrE l := fun q1 q0 q2 q3 => by rw [hg, if_neg (by simp [q1]), if_neg q0, if_neg q2, if_pos q3]
    have c2 : isName x.c = true → ¬ (x.w < 0 ∨ x.w > 3) → ¬ (x.t < 0 ∨ x.t > x.u ∨ x.u > 200000) → (l.take n).any (calledA x) = false → K [.int ((n : Nat) + 1)] := fun q1 q0 q2 q3 => hK _ () (by simp) (by rw [hg, if_neg (by simp [q1]), if_neg q0, if_neg q2, if_neg (by simp [q3])])
    clear hg hK
    have gL : isName x.c = true → ¬ (x.w < 0 ∨ x.w > 3) → ¬ (x.t < 0 ∨ x.t > x.u ∨ x.u > 200000) → ∀ (body : List AV → (List AV → Prop) → Prop) (i : Nat),
        (∀ (k : Nat) (y : Ar) (K' : List AV → Prop), l[k]? = some y → k < n → (y.c = x.c → arrE l = 7) → (y.c ≠ x.c → K' [.int ((k : Nat) + 1)]) → body [.int (k : Nat)] K') →
        (∀ K', K [.int ((n : Nat) + 1)] → body [.int (n : Nat)] K') → fLoop i [.int 0] body := fun q1 q0 q2 body i hb he => by
      have hlen : (l.take n).length = n := by rw [List.length_take]; omega
      refine loop_list (σ := Unit) (l.take n) (fun n _ => [.int (n : Nat)]) (fun k rest _ => (l.take n).any (calledA x) = rest.any (calledA x)) () rfl rfl ?_ ?_
      · rintro k y rest' _ K' hy hr' hk hg' hK'
        rw [hlen] at hk
        have hy' : l[k]? = some y := by rw [List.getElem?_take, if_pos hk] at hy; exact hy
        obtain ⟨a1, a2⟩ := any_rest hg'
        exact hb k y K' hy' hk (fun e => (c1 q1 q0 q2 (a1 (by simp [calledA, e]))).symm) (fun e => hK' _ () (by simp) (a2 (by simp [calledA, e])))
      · intro _ K' hg'
        rw [hlen]
        exact he K' (c2 q1 q0 q2 (by simpa using hg'))
    clear c1 c2
    simp [hn, lst_atAgg hx, encA]
    (repeat' (first | exact trivial | (with_reducible intro hw; (try simp (disch := omega) only [wrap64] at hw); first | (exfalso; omega; done) | skip) | (with_reducible refine And.intro ?_ ?_) | (refine ⟨_, isname_fn _, ?_⟩; (try simp [hw2]); (try simp (disch := omega) only [wrap64])) | omega | assumption))
    all_goals (first | exact (g3 (by simp_all)) | exact (g5 (by simp_all) (by omega)) | exact (g4 (by simp_all) (by omega) (by omega)) | skip)
    all_goals (refine gL (by simp_all) (by omega) (by omega) _ _ ?_ ?_)
    all_goals (clear g3 g4 g5 gL)
    · intro k y K' hy' hk h1 h2
      have hw3 : IntKind.i64.wrap ((k : Int) + 1) = (k : Int) + 1 := wrap64 (by omega) (by omega)
      have hat : AV.at (ars l) (.lit (.int .i64 (k : Nat))) 0 = .string y.c := by rw [lst_at hy']; rfl
      simp [hat, hw3, hk, show k < l.length by omega]
      exact ⟨fun e => (h1 e).symm, fun e => h2 e⟩
    · intro K' hK
      simp [hw2]
      exact hK
  · intro _ K hg
    simp [hg, arE]
end Go.Proofs.Ytfdpbfdhcngfgaa
