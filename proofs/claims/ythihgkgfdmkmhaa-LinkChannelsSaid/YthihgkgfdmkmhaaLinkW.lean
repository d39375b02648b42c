/- link's laws, by the run. -/
import Derived.Test.YthihgkgfdmkmhaaLinkF
import Derived.Test.YthihgkgfdmkmhaaArgs
import Derived.Test.YthihgkgfdmkmhaaDelStr
namespace Go.Proofs.Ythihgkgfdmkmhaa
open Go.RowKit
set_option linter.unusedVariables false
set_option linter.unusedSimpArgs false
set_option maxRecDepth 100000
def encS (t : ByteArray) : List AV := [.string t]
theorem sls_lst (l : List ByteArray) : sls l = lst 1 encS l := rfl
theorem checkE_cases (b : Int) (l : List ByteArray) : (l.length > 32 ∧ checkE b l = 2) ∨ (l.length ≤ 32 ∧ (b < 1 ∨ b > 100000 - (l.length : Nat)) ∧ checkE b l = 4) ∨ (l.length ≤ 32 ∧ 1 ≤ b ∧ b ≤ 100000 - (l.length : Nat) ∧ checkE b l = if ∃ t ∈ l, t.size > 120 then 2 else 0) := by
  unfold checkE
  by_cases h1 : l.length > 32
  · simp [h1]
  · by_cases h2 : b < 1 ∨ b > 100000 - (l.length : Nat)
    · right; left; rw [if_neg h1, if_pos h2]; exact ⟨by omega, h2, rfl⟩
    · right; right; rw [if_neg h1, if_neg h2]; exact ⟨by omega, by omega, by omega, rfl⟩
theorem eqs_fn (l m : List ByteArray) (hl : l.length ≤ maxLen) : Fn Try.prog 20 [lst 1 encS l, lst 1 encS m] .sc (.bool (decide (l = m))) := by
  refine fn_run mixed 0 (Γ := LinkW.Γ) (ann := LinkW.ann) Try.func20 rfl Try.call20 ((LinkW.eqs_form _ _ _).mpr ?_)
  unfold maxLen at hl
  simp
  refine ⟨fun h => fun e => h (by rw [e]), fun h => equal_loop l m (by omega) rfl ?_ ?_⟩
  · intro n x y K hx hy hn h1 h2
    simp [hn, show n < m.length by omega, lst_at hx, lst_at hy, encS]
    rw [wrap64 (by omega) (by omega)]
    exact ⟨by simpa using h1, h2⟩
  · intro K h1
    simpa using h1
def encF (f : Int × ByteArray) : List AV := [.int f.1, .string f.2]
theorem eqf_fn (l m : List (Int × ByteArray)) (hl : l.length ≤ maxLen) : Fn Try.prog 19 [lst 2 encF l, lst 2 encF m] .sc (.bool (decide (l = m))) := by
  refine fn_run mixed 0 (Γ := LinkW.Γ) (ann := LinkW.ann) Try.func19 rfl Try.call19 ((LinkW.eqf_form _ _ _).mpr ?_)
  unfold maxLen at hl
  simp
  refine ⟨fun h => fun e => h (by rw [e]), fun h => equal_loop l m (by omega) rfl ?_ ?_⟩
  · rintro n ⟨x1, x2⟩ ⟨y1, y2⟩ K hx hy hn h1 h2
    simp [hn, show n < m.length by omega, lst_atAgg hx, lst_atAgg hy, encF, AV.eqPlOk, AV.nePl]
    rw [wrap64 (by omega) (by omega)]
    exact ⟨fun h => by simpa using h1 (by rintro ⟨⟩; simp at h), fun e1 e2 => h2 (by rw [e1, e2])⟩
  · intro K h1
    simpa using h1
theorem fact_fn : Fn Try.prog 4 [] .sc (.bool true) := by
  refine fn_run mixed 4 (Γ := LinkW.Γ) (ann := LinkW.ann) Try.func4 rfl Try.call4 ((LinkW.fact_form _).mpr ?_)
  have e0 : Ent Try.prog 14 := Try.call14
  have e1 : Ent Try.prog 5 := Try.call5
  have e2 : Ent Try.prog 7 := Try.call7
  have e3 : Ent Try.prog 8 := Try.call8
  have e4 : Ent Try.prog 11 := Try.call11
  have e5 : Ent Try.prog 12 := Try.call12
  have e6 : Ent Try.prog 9 := Try.call9
  simp only [f_ent, f_allV, e0, e1, e2, e3, e4, e5, e6, true_and]
  obtain ⟨a, ha⟩ : ∃ a : ByteArray, a = ⟨#[97]⟩ := ⟨_, rfl⟩
  obtain ⟨b, hb⟩ : ∃ b : ByteArray, b = ⟨#[98]⟩ := ⟨_, rfl⟩
  have hsa : a.size = 1 := by rw [ha]; rfl
  have hsb : b.size = 1 := by rw [hb]; rfl
  have h1 := (put_fn 1 [] a).nl (.cons (.aggs (.cons (.refl _) (.cons (.nil 1) .nil))) (.cons (.refl _) .nil))
  rw [show putV 1 [] a = .tup [.agg [.int 1, sls [a]], .int 0] by rw [ha]; kernel_rfl] at h1
  have h2 := put_fn 1 [a] b
  rw [show putV 1 [a] b = .tup [.agg [.int 1, sls [a, b]], .int 0] by rw [ha, hb]; kernel_rfl] at h2
  have h3 := frames_fn 1 [a, b]
  rw [show framesV 1 [a, b] = .tup [lst 2 encF [(1, a), (2, b)], .int 0] by rw [ha, hb]; kernel_rfl] at h3
  have h4 := take_fn 1 1 a
  rw [show takeV 1 1 a = .tup [.int 2, .bool true, .int 0] by rw [ha]; kernel_rfl] at h4
  have h5 := heard_fn 1 [a, b] 2
  rw [show heardV 1 [a, b] 2 = .tup [.agg [.int 2, sls [b]], .int 0] by rw [ha, hb]; kernel_rfl] at h5
  have h6 := (check_fn 0 []).nl (.cons (.aggs (.cons (.refl _) (.cons (.nil 1) .nil))) .nil)
  rw [show checkE 0 [] = 4 by kernel_rfl] at h6
  have h7 := delStr [[.string a], [.string b]] 1 2 (by omega) (by simp)
  rw [← ha, ← hb]
  refine ⟨_, h1, _, h2, _, h3, _, h4, _, h5, _, h6, ?_⟩
  simp [hsa, hsb, AV.room, wrap64]
  refine ⟨_, h7, ?_⟩
  simp [hsa, hsb, AV.room, gt2]
  refine ⟨_, eqf_fn [(1, a), (2, b)] [(1, a), (2, b)] (by simp [maxLen]), ?_⟩
  simp
  refine ⟨_, eqs_fn [b] [b] (by simp [maxLen]), ?_⟩
  simp
  done
theorem take_cases (next n : Int) (t : ByteArray) : (next < 1 ∧ takeV next n t = .tup [.int 0, .bool false, .int 4]) ∨ (1 ≤ next ∧ 99999 < next ∧ takeV next n t = .tup [.int 0, .bool false, .int 4]) ∨ (1 ≤ next ∧ next ≤ 99999 ∧ n < 1 ∧ takeV next n t = .tup [.int 0, .bool false, .int 4]) ∨
    (1 ≤ next ∧ next ≤ 99999 ∧ 1 ≤ n ∧ 99999 < n ∧ takeV next n t = .tup [.int 0, .bool false, .int 4]) ∨ (1 ≤ next ∧ next ≤ 99999 ∧ 1 ≤ n ∧ n ≤ 99999 ∧ 120 < (t.size : Int) ∧ takeV next n t = .tup [.int 0, .bool false, .int 2]) ∨
    (1 ≤ next ∧ next ≤ 99999 ∧ 1 ≤ n ∧ n ≤ 99999 ∧ (t.size : Int) ≤ 120 ∧ n = next ∧ takeV next n t = .tup [.int (next + 1), .bool true, .int 0]) ∨ (1 ≤ next ∧ next ≤ 99999 ∧ 1 ≤ n ∧ n ≤ 99999 ∧ (t.size : Int) ≤ 120 ∧ n ≠ next ∧ takeV next n t = .tup [.int next, .bool false, .int 0]) := by
  unfold takeV
  by_cases h1 : next < 1 ∨ next > 99999 ∨ n < 1 ∨ n > 99999
  · rw [if_pos h1]; simp; omega
  · rw [if_neg h1]
    by_cases h2 : t.size > 120
    · rw [if_pos h2]; simp; omega
    · rw [if_neg h2]
      by_cases h3 : n = next
      · rw [if_pos h3]; simp [h3]; omega
      · rw [if_neg h3]; simp [h3]; omega
theorem heard_cases (b : Int) (l : List ByteArray) (next : Int) : (checkE b l ≠ 0 ∧ heardV b l next = .tup [.agg [.int 0, sls []], .int (checkE b l)]) ∨ (checkE b l = 0 ∧ (next < 1 ∨ next > b + (l.length : Nat)) ∧ heardV b l next = .tup [.agg [.int 0, sls []], .int 4]) ∨
    (checkE b l = 0 ∧ 1 ≤ next ∧ next ≤ b + (l.length : Nat) ∧ heardV b l next = .tup [.agg [.int (if next > b then next else b), sls (l.drop (next - b).toNat)], .int 0]) := by
  unfold heardV
  by_cases h : checkE b l = 0
  · rw [if_neg (by omega)]
    by_cases h2 : next < 1 ∨ next > b + (l.length : Nat)
    · rw [if_pos h2]; exact .inr (.inl ⟨h, h2, rfl⟩)
    · rw [if_neg h2]; exact .inr (.inr ⟨h, by omega, by omega, rfl⟩)
  · rw [if_pos h]; exact .inl ⟨h, rfl⟩
/-! ### the arguments -/
theorem arg_sender {x : AV} (h : ArgOk Try.prog 38 x) : ∃ b l, x = sndr b l ∧ I64 b ∧ l.length ≤ maxLen := by
  obtain ⟨cs, rfl, hl, hc⟩ := arg_agg (P := Try.prog) (t := 38) (tys := [3, 26]) (by kernel_rfl) (by kernel_rfl) h
  obtain ⟨a, b, rfl⟩ := lst2 hl
  obtain ⟨n, e1, hn⟩ := c_int (by kernel_rfl) (hc 0 3 rfl)
  obtain ⟨l, e2, h1, h2⟩ := c_lst (P := Try.prog) (encA := encS) (Q := fun _ => True) (tys := [9]) (s := 1) (e := 9) (by kernel_rfl) (by kernel_rfl) (by kernel_rfl) (fun y hy hc => by
    obtain ⟨a, rfl⟩ := lst1 hy
    obtain ⟨s, e, _⟩ := c_str (by kernel_rfl) (hc 0 9 rfl)
    exact ⟨s, by simp at e; rw [e]; rfl, trivial⟩) (hc 1 26 rfl)
  simp at e1 e2
  subst e1 e2
  exact ⟨n, l, rfl, hn, h1⟩
theorem arg_str {x : AV} (h : ArgOk Try.prog 9 x) : ∃ s : ByteArray, x = .string s ∧ s.size ≤ maxLen := c_str (by kernel_rfl) (arg_cell (by kernel_rfl) h)
theorem arg_int {x : AV} (h : ArgOk Try.prog 3 x) : ∃ n, x = .int n ∧ I64 n := c_int (by kernel_rfl) (arg_cell (by kernel_rfl) h)
theorem arg_frame {x : AV} (h : ArgOk Try.prog 48 x) : ∃ n t, x = .agg [.int n, .string t] ∧ I64 n := by
  obtain ⟨cs, rfl, hl, hc⟩ := arg_agg (P := Try.prog) (t := 48) (tys := [3, 9]) (by kernel_rfl) (by kernel_rfl) h
  obtain ⟨a, b, rfl⟩ := lst2 hl
  obtain ⟨n, e1, hn⟩ := c_int (by kernel_rfl) (hc 0 3 rfl)
  obtain ⟨s, e2, _⟩ := c_str (by kernel_rfl) (hc 1 9 rfl)
  simp at e1 e2
  subst e1 e2
  exact ⟨n, s, rfl, hn⟩
end Go.Proofs.Ythihgkgfdmkmhaa
