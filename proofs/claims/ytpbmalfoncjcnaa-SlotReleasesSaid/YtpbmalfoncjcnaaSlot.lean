/- slot: what is checked. -/
import Derived.Test.YtpbmalfoncjcnaaSlotF
import Derived.Test.YtpbmalfoncjcnaaSlotG
import Derived.Test.YtpbmalfoncjcnaaName
import Derived.Test.YtpbmalfoncjcnaaCmp
import Derived.Test.YtpbmalfoncjcnaaSort
import Derived.Test.YtpbmalfoncjcnaaSortLay
namespace Go.Proofs.Ytpbmalfoncjcnaa
open Go.RowKit
set_option linter.unusedVariables false
set_option linter.unusedSimpArgs false
set_option maxRecDepth 100000
/-- A demand. -/
structure Dm where
  c : ByteArray
  t : Int
  deriving DecidableEq, Inhabited
def encM (x : Dm) : List AV := [.string x.c, .int x.t]
abbrev dms (l : List Dm) : AV := lst 2 encM l
/-- A capacity. -/
structure Cp where
  f : Int
  t : Int
  m : Int
  deriving DecidableEq, Inhabited
def encC (x : Cp) : List AV := [.int x.f, .int x.t, .int x.m]
abbrev cps (l : List Cp) : AV := lst 3 encC l
/-- A slot. -/
structure So where
  c : ByteArray
  p : ByteArray
  t : Int
  deriving DecidableEq, Inhabited
def encO (x : So) : List AV := [.string x.c, .string x.p, .int x.t]
abbrev sos (l : List So) : AV := lst 3 encO l
theorem flat_sos (l : List So) : (sos l).flatS := lst_flatS fun x _ z hz => by
  simp [encO] at hz; rcases hz with rfl | rfl | rfl <;> exact .lit _
theorem flat_ints (l : List Int) : (ints l).flatS := lst_flatS fun x _ z hz => by
  simp [encI] at hz; rw [hz]; exact .lit _
/-! ### demands -/
def calledM (x : Dm) (y : Dm) : Bool := decide (y.c = x.c)
def dmE : List Dm → List Dm → Int
  | _, [] => 0
  | seen, x :: r => if isName x.c = false then 3 else if x.t < 0 ∨ x.t > 200000 then 12 else if seen.any (calledM x) = true then 7 else dmE (seen ++ [x]) r
def demE (l : List Dm) : Int := if l.length > 24 then 2 else dmE [] l
theorem any_rest {α : Type} {p : α → Bool} {x : α} {r : List α} {b : Bool} (h : b = (x :: r).any p) : (p x = true → b = true) ∧ (p x = false → b = r.any p) := by
  rw [List.any_cons] at h
  exact ⟨fun q => by rw [h, q]; rfl, fun q => by rw [h, q]; rfl⟩
theorem scheck_fn (l : List Dm) : Fn Try.prog 10 [dms l] .sc (.int (demE l)) := by
  refine fn_run mixed 3 (Γ := SlotF.Γ) (ann := SlotF.ann) Try.func10 rfl Try.call10 ((SlotF.check_form _ _).mpr ?_)
  have e1 : Ent Try.prog 12 := Try.call12
  have e2 : Ent Try.prog 48 := Try.call48
  have e3 : Ent Try.prog 74 := Try.call74
  have e4 : Ent Try.prog 49 := Try.call49
  simp
  refine ⟨fun h => by unfold demE; rw [if_pos (by omega)], fun h => ?_⟩
  have hE : demE l = dmE [] l := by unfold demE; rw [if_neg (by omega)]
  refine loop_list (σ := Unit) l (fun n _ => [.int (n : Nat)]) (fun n rest _ => demE l = dmE (l.take n) rest) () rfl hE ?_ ?_
  · rintro n x rest _ K hx hr hn hg hK
    have hw2 : IntKind.i64.wrap ((n : Int) + 1) = (n : Int) + 1 := wrap64 (by omega) (by omega)
    rw [dmE, ← take_snoc hx] at hg
    have g3 : isName x.c = false → 3 = demE l := fun q => by rw [hg, if_pos q]
    have g4 : isName x.c = true → (x.t < 0 ∨ x.t > 200000) → 12 = demE l := fun q1 q2 => by rw [hg, if_neg (by simp [q1]), if_pos q2]
    have c1 : isName x.c = true → ¬ (x.t < 0 ∨ x.t > 200000) → (l.take n).any (calledM x) = true → 7 = demE l := fun q1 q2 q3 => by rw [hg, if_neg (by simp [q1]), if_neg q2, if_pos q3]
    have c2 : isName x.c = true → ¬ (x.t < 0 ∨ x.t > 200000) → (l.take n).any (calledM x) = false → K [.int ((n : Nat) + 1)] := fun q1 q2 q3 => hK _ () (by simp) (by rw [hg, if_neg (by simp [q1]), if_neg q2, if_neg (by simp [q3])])
    clear hg hK
    have gL : isName x.c = true → ¬ (x.t < 0 ∨ x.t > 200000) → ∀ (body : List AV → (List AV → Prop) → Prop) (i : Nat),
        (∀ (k : Nat) (y : Dm) (K' : List AV → Prop), (l.take n)[k]? = some y → l[k]? = some y → k < n → (y.c = x.c → demE l = 7) → (y.c ≠ x.c → K' [.int ((k : Nat) + 1)]) → body [.int (k : Nat)] K') →
        (∀ K', K [.int ((n : Nat) + 1)] → body [.int (n : Nat)] K') → fLoop i [.int 0] body := fun q1 q2 body i hb he => by
      have hlen : (l.take n).length = n := by rw [List.length_take]; omega
      refine loop_list (σ := Unit) (l.take n) (fun n _ => [.int (n : Nat)]) (fun k rest _ => (l.take n).any (calledM x) = rest.any (calledM x)) () rfl rfl ?_ ?_
      · rintro k y rest' _ K' hy hr' hk hg' hK'
        rw [hlen] at hk
        have hy' : l[k]? = some y := by rw [List.getElem?_take, if_pos hk] at hy; exact hy
        obtain ⟨a1, a2⟩ := any_rest hg'
        exact hb k y K' hy hy' hk (fun e => (c1 q1 q2 (a1 (by simp [calledM, e]))).symm) (fun e => hK' _ () (by simp) (a2 (by simp [calledM, e])))
      · intro _ K' hg'
        rw [hlen]
        exact he K' (c2 q1 q2 (by simpa using hg'))
    clear c1 c2
    simp [hn, lst_atAgg hx, encM]
    (repeat' (first | exact trivial | (with_reducible intro hw; (try simp (disch := omega) only [wrap64] at hw); first | (exfalso; omega; done) | skip) | (with_reducible refine And.intro ?_ ?_) | (refine ⟨_, name_fn _, ?_⟩; (try simp [hw2]); (try simp (disch := omega) only [wrap64])) | omega | assumption))
    all_goals (first | exact e1 | exact e2 | exact e3 | exact e4 | exact (g3 (by simp_all)) | exact (g4 (by simp_all) (by omega)) | skip)
    all_goals (refine gL (by simp_all) (by omega) _ _ ?_ ?_)
    all_goals (clear g3 g4 gL)
    · intro k y K' hy hy' hk h1 h2
      have hw3 : IntKind.i64.wrap ((k : Int) + 1) = (k : Int) + 1 := wrap64 (by omega) (by omega)
      have hm : min n l.length = n := by omega
      simp [lst_atAgg hy, lst_atAgg hy', encM, hw3, hm, hk, show k < l.length by omega, e1, e2, e3, e4]
      exact ⟨fun e => (h1 e).symm, fun e => h2 e⟩
    · intro K' hK
      have hm : min n l.length = n := by omega
      simp [hw2, hm]
      exact hK
  · intro _ K hg
    simp [hg, dmE]
theorem derr_fn (l : List Dm) : Fn Try.prog 11 [dms l] .sc (.int (demE l)) := by
  refine fn_run mixed 3 (Γ := SlotF.Γ) (ann := SlotF.ann) Try.func11 rfl Try.call11 ((SlotF.derr_form _ _).mpr ?_)
  simp
  refine ⟨fun h => by unfold demE; rw [if_pos (by omega)], fun h => ?_⟩
  have hE : demE l = dmE [] l := by unfold demE; rw [if_neg (by omega)]
  refine loop_list (σ := Unit) l (fun n _ => [.int (n : Nat)]) (fun n rest _ => demE l = dmE (l.take n) rest) () rfl hE ?_ ?_
  · rintro n x rest _ K hx hr hn hg hK
    have hw2 : IntKind.i64.wrap ((n : Int) + 1) = (n : Int) + 1 := wrap64 (by omega) (by omega)
    rw [dmE, ← take_snoc hx] at hg
    have g3 : isName x.c = false → 3 = demE l := fun q => by rw [hg, if_pos q]
    have g4 : isName x.c = true → (x.t < 0 ∨ x.t > 200000) → 12 = demE l := fun q1 q2 => by rw [hg, if_neg (by simp [q1]), if_pos q2]
    have c1 : isName x.c = true → ¬ (x.t < 0 ∨ x.t > 200000) → (l.take n).any (calledM x) = true → 7 = demE l := fun q1 q2 q3 => by rw [hg, if_neg (by simp [q1]), if_neg q2, if_pos q3]
    have c2 : isName x.c = true → ¬ (x.t < 0 ∨ x.t > 200000) → (l.take n).any (calledM x) = false → K [.int ((n : Nat) + 1)] := fun q1 q2 q3 => hK _ () (by simp) (by rw [hg, if_neg (by simp [q1]), if_neg q2, if_neg (by simp [q3])])
    clear hg hK
    have gL : isName x.c = true → ¬ (x.t < 0 ∨ x.t > 200000) → ∀ (body : List AV → (List AV → Prop) → Prop) (i : Nat),
        (∀ (k : Nat) (y : Dm) (K' : List AV → Prop), l[k]? = some y → k < n → (y.c = x.c → demE l = 7) → (y.c ≠ x.c → K' [.int ((k : Nat) + 1)]) → body [.int (k : Nat)] K') →
        (∀ K', K [.int ((n : Nat) + 1)] → body [.int (n : Nat)] K') → fLoop i [.int 0] body := fun q1 q2 body i hb he => by
      have hlen : (l.take n).length = n := by rw [List.length_take]; omega
      refine loop_list (σ := Unit) (l.take n) (fun n _ => [.int (n : Nat)]) (fun k rest _ => (l.take n).any (calledM x) = rest.any (calledM x)) () rfl rfl ?_ ?_
      · rintro k y rest' _ K' hy hr' hk hg' hK'
        rw [hlen] at hk
        have hy' : l[k]? = some y := by rw [List.getElem?_take, if_pos hk] at hy; exact hy
        obtain ⟨a1, a2⟩ := any_rest hg'
        exact hb k y K' hy' hk (fun e => (c1 q1 q2 (a1 (by simp [calledM, e]))).symm) (fun e => hK' _ () (by simp) (a2 (by simp [calledM, e])))
      · intro _ K' hg'
        rw [hlen]
        exact he K' (c2 q1 q2 (by simpa using hg'))
    clear c1 c2
    simp [hn, lst_atAgg hx, encM]
    (repeat' (first | exact trivial | (with_reducible intro hw; (try simp (disch := omega) only [wrap64] at hw); first | (exfalso; omega; done) | skip) | (with_reducible refine And.intro ?_ ?_) | (refine ⟨_, isname_fn _, ?_⟩; (try simp [hw2]); (try simp (disch := omega) only [wrap64])) | omega | assumption))
    all_goals (first | exact (g3 (by simp_all)) | exact (g4 (by simp_all) (by omega)) | skip)
    all_goals (refine gL (by simp_all) (by omega) _ _ ?_ ?_)
    all_goals (clear g3 g4 gL)
    · intro k y K' hy' hk h1 h2
      have hw3 : IntKind.i64.wrap ((k : Int) + 1) = (k : Int) + 1 := wrap64 (by omega) (by omega)
      have hat : AV.at (dms l) (.lit (.int .i64 (k : Nat))) 0 = .string y.c := by rw [lst_at hy']; rfl
      simp [hat, hw3, hk, show k < l.length by omega]
      exact ⟨fun e => (h1 e).symm, fun e => h2 e⟩
    · intro K' hK
      simp [hw2]
      exact hK
  · intro _ K hg
    simp [hg, dmE]
theorem dmE_ok : ∀ {l seen : List Dm}, dmE seen l = 0 → (∀ x ∈ l, 0 ≤ x.t ∧ x.t ≤ 200000 ∧ ∀ y ∈ seen, y.c ≠ x.c) ∧ l.Pairwise fun x y => x.c ≠ y.c
  | [], _, _ => ⟨fun x hx => by simp at hx, .nil⟩
  | x :: d, seen, h => by
    rw [dmE] at h
    split at h
    · cases h
    · split at h
      · cases h
      · split at h
        · cases h
        · rename_i h1 h2 h4
          obtain ⟨q1, q2⟩ := dmE_ok h
          refine ⟨fun z hz => ?_, List.pairwise_cons.2 ⟨fun z hz => ?_, q2⟩⟩
          · rcases List.mem_cons.1 hz with rfl | hz
            · refine ⟨by omega, by omega, fun y hy e => h4 (List.any_eq_true.2 ⟨y, hy, by simp [calledM, e]⟩)⟩
            · obtain ⟨p1, p2, p4⟩ := q1 z hz
              exact ⟨p1, p2, fun y hy => p4 y (List.mem_append_left _ hy)⟩
          · exact (q1 z hz).2.2 x (List.mem_append_right _ (by simp))
structure GoodM (l : List Dm) : Prop where
  len : l.length ≤ 24
  tm : ∀ x ∈ l, 0 ≤ x.t ∧ x.t ≤ 200000
  dist : l.Pairwise fun x y => x.c ≠ y.c
theorem goodM {l : List Dm} (h : demE l = 0) : GoodM l := by
  unfold demE at h
  split at h
  · cases h
  · obtain ⟨h1, h2⟩ := dmE_ok h
    exact ⟨by omega, fun x hx => ⟨(h1 x hx).1, (h1 x hx).2.1⟩, h2⟩
theorem inj_of {α β : Type} {f : α → β} {l : List α} (h : l.Pairwise fun x y => f x ≠ f y) : ∀ x ∈ l, ∀ y ∈ l, f x = f y → x = y := by
  induction l with
  | nil => intro x hx; simp at hx
  | cons z d ih =>
    rw [List.pairwise_cons] at h
    intro x hx y hy e
    rcases List.mem_cons.1 hx with rfl | hx'
    · rcases List.mem_cons.1 hy with rfl | hy'
      · rfl
      · exact absurd e (h.1 y hy')
    · rcases List.mem_cons.1 hy with rfl | hy'
      · exact absurd e.symm (h.1 x hx')
      · exact ih h.2 x hx' y hy' e
/-! ### capacities -/
def cpE : Int → List Cp → Int
  | _, [] => 0
  | e, x :: r => if x.f < 0 ∨ x.t > 200000 ∨ x.t ≤ x.f ∨ x.m < 0 ∨ x.m > 24 then 4 else if x.f < e then 12 else cpE x.t r
def capE (l : List Cp) : Int := if l.length > 256 then 2 else cpE 0 l
theorem fcheck_fn (l : List Cp) : Fn Try.prog 40 [cps l] .sc (.int (capE l)) := by
  refine fn_run mixed 3 (Γ := SlotF.Γ) (ann := SlotF.ann) Try.func40 rfl Try.call40 ((SlotF.fcheck_form _ _).mpr ?_)
  simp
  refine ⟨fun h => by unfold capE; rw [if_pos (by omega)], fun h => ?_⟩
  have hE : capE l = cpE 0 l := by unfold capE; rw [if_neg (by omega)]
  refine loop_list (σ := Int) l (fun n _ => [.int (n : Nat)]) (fun n rest e => capE l = cpE e rest ∧ (n = 0 → e = 0) ∧ (0 < n → ∃ y, l[n - 1]? = some y ∧ e = y.t)) 0 rfl ⟨hE, fun _ => rfl, fun q => absurd q (by omega)⟩ ?_ ?_
  · rintro n x rest e K hx hr hn ⟨hg, hz, hp⟩ hK
    have hw2 : IntKind.i64.wrap ((n : Int) + 1) = (n : Int) + 1 := wrap64 (by omega) (by omega)
    have hw1 : IntKind.i64.wrap ((n : Int) - 1) = (n : Int) - 1 := wrap64 (by omega) (by omega)
    rw [cpE] at hg
    have g4 : (x.f < 0 ∨ x.t > 200000 ∨ x.t ≤ x.f ∨ x.m < 0 ∨ x.m > 24) → 4 = capE l := fun q => by rw [hg, if_pos q]
    have g12 : ¬ (x.f < 0 ∨ x.t > 200000 ∨ x.t ≤ x.f ∨ x.m < 0 ∨ x.m > 24) → x.f < e → 12 = capE l := fun q1 q2 => by rw [hg, if_neg q1, if_pos q2]
    have gK : ¬ (x.f < 0 ∨ x.t > 200000 ∨ x.t ≤ x.f ∨ x.m < 0 ∨ x.m > 24) → ¬ x.f < e → K [.int ((n : Nat) + 1)] := fun q1 q2 => hK _ x.t (by simp) ⟨by rw [hg, if_neg q1, if_neg q2], fun q => absurd q (by omega), fun _ => ⟨x, by simpa using hx, rfl⟩⟩
    clear hg hK
    rcases Nat.eq_zero_or_pos n with hn0 | hn0
    · have he := hz hn0
      have hng : ¬ 0 < n := by omega
      simp [hn, lst_atAgg hx, encC, hng]
      (repeat' (first | exact trivial | (with_reducible intro hw; (try simp (disch := omega) only [wrap64] at hw); first | (exfalso; omega; done) | skip) | (with_reducible refine And.intro ?_ ?_) | omega | assumption))
      all_goals (first | exact g4 (by omega) | exact g12 (by omega) (by omega) | (simp only [hw2]; exact gK (by omega) (by omega)) | exact gK (by omega) (by omega))
    · obtain ⟨y, hy, rfl⟩ := hp hn0
      have hat : AV.at (cps l) (.lit (.int .i64 ((n : Int) - 1))) 1 = .int y.t := by
        rw [lst_atI (by omega) (x := y) (by rw [show ((n : Int) - 1).toNat = n - 1 by omega]; exact hy)]; rfl
      simp [hn, lst_atAgg hx, encC, hn0, hw1, hat]
      (repeat' (first | exact trivial | (with_reducible intro hw; (try simp (disch := omega) only [wrap64] at hw); first | (exfalso; omega; done) | skip) | (with_reducible refine And.intro ?_ ?_) | omega | assumption))
      all_goals (first | exact g4 (by omega) | exact g12 (by omega) (by omega) | (simp only [hw2]; exact gK (by omega) (by omega)) | exact gK (by omega) (by omega))
  · rintro e K ⟨hg, _⟩
    simp [hg, cpE]
theorem cerr_fn (l : List Cp) : Fn Try.prog 51 [cps l] .sc (.int (capE l)) := by
  refine fn_run mixed 3 (Γ := SlotF.Γ) (ann := SlotF.ann) Try.func51 rfl Try.call51 ((SlotF.cerr_form _ _).mpr ?_)
  simp
  refine ⟨fun h => by unfold capE; rw [if_pos (by omega)], fun h => ?_⟩
  have hE : capE l = cpE 0 l := by unfold capE; rw [if_neg (by omega)]
  refine loop_list (σ := Int) l (fun n e => [.int e, .int (n : Nat)]) (fun n rest e => capE l = cpE e rest) 0 rfl hE ?_ ?_
  · rintro n x rest e K hx hr hn hg hK
    have hw2 : IntKind.i64.wrap ((n : Int) + 1) = (n : Int) + 1 := wrap64 (by omega) (by omega)
    rw [cpE] at hg
    have g4 : (x.f < 0 ∨ x.t > 200000 ∨ x.t ≤ x.f ∨ x.m < 0 ∨ x.m > 24) → 4 = capE l := fun q => by rw [hg, if_pos q]
    have g12 : ¬ (x.f < 0 ∨ x.t > 200000 ∨ x.t ≤ x.f ∨ x.m < 0 ∨ x.m > 24) → x.f < e → 12 = capE l := fun q1 q2 => by rw [hg, if_neg q1, if_pos q2]
    have gK : ¬ (x.f < 0 ∨ x.t > 200000 ∨ x.t ≤ x.f ∨ x.m < 0 ∨ x.m > 24) → ¬ x.f < e → K [.int x.t, .int ((n : Nat) + 1)] := fun q1 q2 => hK _ x.t (by simp) (by rw [hg, if_neg q1, if_neg q2])
    clear hg hK
    simp [hn, lst_atAgg hx, encC]
    (repeat' (first | exact trivial | (with_reducible intro hw; (try simp (disch := omega) only [wrap64] at hw); first | (exfalso; omega; done) | skip) | (with_reducible refine And.intro ?_ ?_) | omega | assumption))
    all_goals (first | exact g4 (by omega) | exact g12 (by omega) (by omega) | (simp only [hw2]; exact gK (by omega) (by omega)) | exact gK (by omega) (by omega))
  · rintro e K hg
    simp [hg, cpE]
theorem cpE_ok : ∀ {l : List Cp} {e : Int}, cpE e l = 0 → (∀ x ∈ l, 0 ≤ x.f ∧ x.f < x.t ∧ x.t ≤ 200000 ∧ 0 ≤ x.m ∧ x.m ≤ 24 ∧ e ≤ x.f) ∧ l.Pairwise fun x y => x.t ≤ y.f
  | [], _, _ => ⟨fun x hx => by simp at hx, .nil⟩
  | x :: d, e, h => by
    rw [cpE] at h
    split at h
    · cases h
    · split at h
      · cases h
      · obtain ⟨q1, q2⟩ := cpE_ok h
        refine ⟨fun z hz => ?_, List.pairwise_cons.2 ⟨fun z hz => (q1 z hz).2.2.2.2.2, q2⟩⟩
        rcases List.mem_cons.1 hz with rfl | hz
        · omega
        · obtain ⟨p1, p2, p3, p4, p5, p6⟩ := q1 z hz
          omega
structure GoodC (l : List Cp) : Prop where
  len : l.length ≤ 256
  bd : ∀ x ∈ l, 0 ≤ x.f ∧ x.f < x.t ∧ x.t ≤ 200000 ∧ 0 ≤ x.m ∧ x.m ≤ 24
  ord : l.Pairwise fun x y => x.t ≤ y.f
theorem goodC {l : List Cp} (h : capE l = 0) : GoodC l := by
  unfold capE at h
  split at h
  · cases h
  · obtain ⟨h1, h2⟩ := cpE_ok h
    exact ⟨by omega, fun x hx => by have := h1 x hx; omega, h2⟩
/-- What is wrong with an assignment's parts. -/
def sltE (p : ByteArray) (l : List Dm) (c : List Cp) : Int := if isName p = false then 3 else if demE l ≠ 0 then demE l else capE c
theorem serr_fn (p : ByteArray) (l : List Dm) (c : List Cp) : Fn Try.prog 14 [.string p, dms l, cps c] .sc (.int (sltE p l c)) := by
  refine fn_run mixed 3 (Γ := SlotF.Γ) (ann := SlotF.ann) Try.func14 rfl Try.call14 ((SlotF.serr_form _ _ _ _).mpr ?_)
  refine ⟨_, isname_fn p, ?_⟩
  simp
  refine ⟨fun h => by unfold sltE; rw [if_pos h], fun h => ⟨_, derr_fn l, ?_⟩⟩
  simp
  refine ⟨fun h1 => by unfold sltE; rw [if_neg (by simp [h]), if_pos h1], fun h1 => ?_⟩
  have := cerr_fn c
  unfold sltE; rw [if_neg (by simp [h]), if_neg (by simp [h1])]; exact this
end Go.Proofs.Ytpbmalfoncjcnaa
