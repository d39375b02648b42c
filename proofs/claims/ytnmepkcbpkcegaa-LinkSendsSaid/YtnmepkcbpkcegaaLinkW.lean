/- link's laws, by the run. -/
import Derived.Test.YtnmepkcbpkcegaaLinkF
import Derived.Test.YtnmepkcbpkcegaaArgs
import Derived.Test.YtnmepkcbpkcegaaDelStr
namespace Go.Proofs.Ytnmepkcbpkcegaa
open Go.RowKit
set_option linter.unusedVariables false
set_option maxRecDepth 100000
def encS (t : ByteArray) : List AV := [.string t]
theorem sls_lst (l : List ByteArray) : sls l = lst 1 encS l := rfl
theorem checkE_cases (b : Int) (l : List ByteArray) : (l.length > 32 ∧ checkE b l = 2) ∨ (l.length ≤ 32 ∧ (b < 1 ∨ b > 100000 - (l.length : Nat)) ∧ checkE b l = 4) ∨ (l.length ≤ 32 ∧ 1 ≤ b ∧ b ≤ 100000 - (l.length : Nat) ∧ checkE b l = if ∃ t ∈ l, t.size > 120 then 2 else 0) := by
  unfold checkE
  by_cases h1 : l.length > 32
  · simp [h1]
  · by_cases h2 : b < 1 ∨ b > 100000 - (l.length : Nat)
    · right; left; rw [if_neg h1, if_pos h2]; exact ⟨by omega, h2, rfl⟩
    · right; right; rw [if_neg h1, if_neg h2]; exact ⟨by omega, by omega, by omega, rfl⟩
theorem serr_fn (b : Int) (l : List ByteArray) : Fn Try.prog 50 [sndr b l] .sc (.int (checkE b l)) := by
  refine fn_run mixed 0 (Γ := LinkW.Γ) (ann := LinkW.ann) Try.func50 rfl Try.call50 ((LinkW.serr_form _ _).mpr ?_)
  simp [sndr, sls_lst]
  rcases checkE_cases b l with ⟨h1, e⟩ | ⟨h1, h2, e⟩ | ⟨h1, h2, h3, e⟩
  · exact ⟨fun _ => e.symm, fun h => absurd h (by omega)⟩
  · refine ⟨fun h => absurd h (by omega), fun h => ⟨fun h3 => ⟨h3, e.symm⟩, fun h3 => ⟨h3, fun h4 => ⟨h4, e.symm⟩, fun h4 => ⟨h4, fun _ => e.symm, fun h5 => ?_⟩⟩⟩⟩
    rw [wrap64 (by omega) (by omega)] at h5
    omega
  · refine ⟨fun h => absurd h (by omega), fun h => ⟨fun h3 => absurd h3 (by omega), fun _ => ⟨h2, fun h4 => absurd h4 (by omega), fun h4 => ⟨h4, fun h5 => ?_, fun h5 => ?_⟩⟩⟩⟩
    · rw [wrap64 (by omega) (by omega)] at h5; omega
    · refine loop_list (σ := Unit) l (fun n _ => [.int (n : Nat)]) (fun n rest _ => checkE b l = if ∃ t ∈ rest, t.size > 120 then 2 else 0) () rfl e ?_ ?_
      · intro n x rest _ K hx hr hn hg hK
        simp [hn, lst_at hx, encS]
        refine ⟨fun hb => ?_, fun hb => hK _ () (by rw [wrap64 (by omega) (by omega)]; simp) ?_⟩
        · rw [hg, if_pos ⟨x, by simp, by omega⟩]
        · rw [hg]
          simp only [List.mem_cons, exists_eq_or_imp, or_iff_right (show ¬ x.size > 120 by omega)]
      · intro _ K hg
        simp [hg]
theorem eqs_fn (l m : List ByteArray) (hl : l.length ≤ maxLen) : Fn Try.prog 52 [lst 1 encS l, lst 1 encS m] .sc (.bool (decide (l = m))) := by
  refine fn_run mixed 0 (Γ := LinkW.Γ) (ann := LinkW.ann) Try.func52 rfl Try.call52 ((LinkW.eqs_form _ _ _).mpr ?_)
  unfold maxLen at hl
  simp
  refine ⟨fun h => fun e => h (by rw [e]), fun h => equal_loop l m (by omega) rfl ?_ ?_⟩
  · intro n x y K hx hy hn h1 h2
    simp [hn, show n < m.length by omega, lst_at hx, lst_at hy, encS]
    rw [wrap64 (by omega) (by omega)]
    exact ⟨by simpa using h1, h2⟩
  · intro K h1
    simpa using h1
def encF (f : Int × ByteArray) : List AV := [.int f.1, .string f.2]
theorem eqf_fn (l m : List (Int × ByteArray)) (hl : l.length ≤ maxLen) : Fn Try.prog 71 [lst 2 encF l, lst 2 encF m] .sc (.bool (decide (l = m))) := by
  refine fn_run mixed 0 (Γ := LinkW.Γ) (ann := LinkW.ann) Try.func71 rfl Try.call71 ((LinkW.eqf_form _ _ _).mpr ?_)
  unfold maxLen at hl
  simp
  refine ⟨fun h => fun e => h (by rw [e]), fun h => equal_loop l m (by omega) rfl ?_ ?_⟩
  · rintro n ⟨x1, x2⟩ ⟨y1, y2⟩ K hx hy hn h1 h2
    simp [hn, show n < m.length by omega, lst_atAgg hx, lst_atAgg hy, encF, AV.eqPlOk, AV.nePl]
    rw [wrap64 (by omega) (by omega)]
    exact ⟨fun h => by simpa using h1 (by rintro ⟨⟩; simp at h), fun e1 e2 => h2 (by rw [e1, e2])⟩
  · intro K h1
    simpa using h1
theorem fact_fn : Fn Try.prog 47 [] .sc (.bool true) := by
  refine fn_run mixed 4 (Γ := LinkW.Γ) (ann := LinkW.ann) Try.func47 rfl Try.call47 ((LinkW.fact_form _).mpr ?_)
  have e0 : Ent Try.prog 70 := Try.call70
  have e1 : Ent Try.prog 56 := Try.call56
  have e2 : Ent Try.prog 58 := Try.call58
  have e3 : Ent Try.prog 59 := Try.call59
  have e4 : Ent Try.prog 61 := Try.call61
  have e5 : Ent Try.prog 62 := Try.call62
  have e6 : Ent Try.prog 60 := Try.call60
  simp only [f_ent, f_allV, e0, e1, e2, e3, e4, e5, e6, true_and]
  obtain ⟨a, ha⟩ : ∃ a : ByteArray, a = ⟨#[97]⟩ := ⟨_, rfl⟩
  obtain ⟨b, hb⟩ : ∃ b : ByteArray, b = ⟨#[98]⟩ := ⟨_, rfl⟩
  have hsa : a.size = 1 := by rw [ha]; rfl
  have hsb : b.size = 1 := by rw [hb]; rfl
  have h1 := (put_fn 1 [] a).nl (.cons (.aggs (.cons (.refl _) (.cons (.nil 1) .nil))) (.cons (.refl _) .nil))
  rw [show putV 1 [] a = .tup [.agg [.int 1, sls [a]], .int 0] by rw [ha]; kernel_rfl] at h1
  have h2 := put_fn 1 [a] b
  rw [show putV 1 [a] b = .tup [.agg [.int 1, sls [a, b]], .int 0] by rw [ha, hb]; kernel_rfl] at h2
  have h3 := frames_fn 1 [a, b]
  rw [show framesV 1 [a, b] = .tup [lst 2 encF [(1, a), (2, b)], .int 0] by rw [ha, hb]; kernel_rfl] at h3
  have h4 := take_fn 1 1 a
  rw [show takeV 1 1 a = .tup [.int 2, .bool true, .int 0] by rw [ha]; kernel_rfl] at h4
  have h5 := heard_fn 1 [a, b] 2
  rw [show heardV 1 [a, b] 2 = .tup [.agg [.int 2, sls [b]], .int 0] by rw [ha, hb]; kernel_rfl] at h5
  have h6 := (check_fn 0 []).nl (.cons (.aggs (.cons (.refl _) (.cons (.nil 1) .nil))) .nil)
  rw [show checkE 0 [] = 4 by kernel_rfl] at h6
  have h7 := delStr [[.string a], [.string b]] 1 2 (by omega) (by simp)
  rw [← ha, ← hb]
  refine ⟨_, h1, _, h2, _, h3, _, h4, _, h5, _, h6, ?_⟩
  simp [hsa, hsb, AV.room, wrap64]
  refine ⟨_, h7, ?_⟩
  simp [hsa, hsb, AV.room, gt2]
  refine ⟨_, eqf_fn [(1, a), (2, b)] [(1, a), (2, b)] (by simp [maxLen]), ?_⟩
  simp
  refine ⟨_, eqs_fn [b] [b] (by simp [maxLen]), ?_⟩
  simp
  done
theorem sends_fn (b : Int) (l : List ByteArray) (t : ByteArray) : Fn Try.prog 11 [sndr b l, .string t] .sc (.bool true) := by
  refine fn_run mixed 0 (Γ := LinkW.Γ) (ann := LinkW.ann) Try.func11 rfl Try.call11 ((LinkW.sends_form _ _ _).mpr ?_)
  have h1 := put_fn b l t
  have h2 := frames_fn b l
  have h3 := serr_fn b l
  have h4 := check_fn b l
  simp [sndr]
  refine ⟨_, fact_fn, ?_⟩
  simp
  refine ⟨_, h1, _, h2, _, h3, _, h4, ?_⟩
  by_cases hE : checkE b l = 0
  · have hc := check_ok hE
    rw [show framesV b l = .tup [.sl 2 (framesL b (l.take 4)), .int 0] by unfold framesV; rw [if_neg (by omega)]]
    simp [hE, sls_lst]
    have hfl : (framesL b (l.take 4)).length = min 4 l.length := by simp [framesL]
    have hget : ∀ n x, l[n]? = some x → n < 4 → (framesL b (l.take 4))[n]? = some [.int (b + (n : Nat)), .string x] := by
      intro n x hx hn
      simp [framesL, List.getElem?_zipIdx, List.getElem?_take, hn, hx]
    refine loop_nat (σ := Unit) (min 4 l.length) (fun n _ => [.int (n : Nat)]) (fun n _ => True) () rfl trivial ?_ ?_
    · intro n _ K hn _ hK
      have hn4 : n < 4 := by omega
      have hnl : n < l.length := by omega
      have hx : l[n]? = some l[n] := List.getElem?_eq_getElem hnl
      have hg := hget n _ hx hn4
      have hnn : ¬ (min 4 l.length ≤ n) := by omega
      have hn3 : (n : Int) ≤ 3 := by omega
      simp [hfl, hn4, hnl, hnn, hn3, AV.atAgg, List.getD_eq_getElem?_getD, hg, lst_at hx, encS]
      rw [wrap64 (a := b + (n : Int)) (by omega) (by omega), wrap64 (by omega) (by omega)]
      exact fun h => ⟨h, rfl, hK _ () (by simp) trivial⟩
    · intro _ K _
      simp [hfl]
      refine ⟨by split <;> omega, fun ht => ?_, fun ht => ⟨fun hf => ⟨hf, ?_⟩, fun hf => ⟨hf, fun hw => ?_, fun hw => ?_⟩⟩⟩
      · rw [show putV b l t = .tup [.agg [.int 0, sls []], .int 2] by unfold putV; rw [if_neg (by omega), if_pos (by omega)]]
        simp [sls]
      · rw [show putV b l t = .tup [.agg [.int 0, sls []], .int 9] by unfold putV; rw [if_neg (by omega), if_neg (by omega), if_pos (by omega)]]
        simp [sls]
      · rw [wrap64 (by omega) (by omega)] at hw
        rw [show putV b l t = .tup [.agg [.int 0, sls []], .int 9] by unfold putV; rw [if_neg (by omega), if_neg (by omega), if_pos (by omega)]]
        simp [sls]
      · rw [wrap64 (by omega) (by omega)] at hw
        rw [show putV b l t = .tup [.agg [.int b, sls (l ++ [t])], .int 0] by unfold putV; rw [if_neg (by omega), if_neg (by omega), if_neg (by omega)]]
        simp
        refine ⟨_, clone_fn l (by omega), by simp [AV.room, sls]; omega, ?_⟩
        have h5 := eqs_fn (l ++ [t]) (l ++ [t]) (by simp [maxLen]; omega)
        rw [show AV.app 1 (sls l) (AV.sl 1 [[AV.string t]]) = lst 1 encS (l ++ [t]) by simp [lst, encS, sls]]
        simpa [sls_lst] using h5
  · rw [show framesV b l = .tup [.sl 2 [], .int (checkE b l)] by unfold framesV; rw [if_pos hE], show putV b l t = .tup [.agg [.int 0, sls []], .int (checkE b l)] by unfold putV; rw [if_pos hE]]
    simp [hE, sls_lst]
    refine loop_nat (σ := Unit) 0 (fun n _ => [.int (n : Nat)]) (fun n _ => True) () rfl trivial (fun n _ K hn => absurd hn (by omega)) ?_
    intro _ K _
    simp [hE]
    done
theorem take_cases (next n : Int) (t : ByteArray) : (next < 1 ∧ takeV next n t = .tup [.int 0, .bool false, .int 4]) ∨ (1 ≤ next ∧ 99999 < next ∧ takeV next n t = .tup [.int 0, .bool false, .int 4]) ∨ (1 ≤ next ∧ next ≤ 99999 ∧ n < 1 ∧ takeV next n t = .tup [.int 0, .bool false, .int 4]) ∨
    (1 ≤ next ∧ next ≤ 99999 ∧ 1 ≤ n ∧ 99999 < n ∧ takeV next n t = .tup [.int 0, .bool false, .int 4]) ∨ (1 ≤ next ∧ next ≤ 99999 ∧ 1 ≤ n ∧ n ≤ 99999 ∧ 120 < (t.size : Int) ∧ takeV next n t = .tup [.int 0, .bool false, .int 2]) ∨
    (1 ≤ next ∧ next ≤ 99999 ∧ 1 ≤ n ∧ n ≤ 99999 ∧ (t.size : Int) ≤ 120 ∧ n = next ∧ takeV next n t = .tup [.int (next + 1), .bool true, .int 0]) ∨ (1 ≤ next ∧ next ≤ 99999 ∧ 1 ≤ n ∧ n ≤ 99999 ∧ (t.size : Int) ≤ 120 ∧ n ≠ next ∧ takeV next n t = .tup [.int next, .bool false, .int 0]) := by
  unfold takeV
  by_cases h1 : next < 1 ∨ next > 99999 ∨ n < 1 ∨ n > 99999
  · rw [if_pos h1]; simp; omega
  · rw [if_neg h1]
    by_cases h2 : t.size > 120
    · rw [if_pos h2]; simp; omega
    · rw [if_neg h2]
      by_cases h3 : n = next
      · rw [if_pos h3]; simp [h3]; omega
      · rw [if_neg h3]; simp [h3]; omega
theorem heard_cases (b : Int) (l : List ByteArray) (next : Int) : (checkE b l ≠ 0 ∧ heardV b l next = .tup [.agg [.int 0, sls []], .int (checkE b l)]) ∨ (checkE b l = 0 ∧ (next < 1 ∨ next > b + (l.length : Nat)) ∧ heardV b l next = .tup [.agg [.int 0, sls []], .int 4]) ∨
    (checkE b l = 0 ∧ 1 ≤ next ∧ next ≤ b + (l.length : Nat) ∧ heardV b l next = .tup [.agg [.int (if next > b then next else b), sls (l.drop (next - b).toNat)], .int 0]) := by
  unfold heardV
  by_cases h : checkE b l = 0
  · rw [if_neg (by omega)]
    by_cases h2 : next < 1 ∨ next > b + (l.length : Nat)
    · rw [if_pos h2]; exact .inr (.inl ⟨h, h2, rfl⟩)
    · rw [if_neg h2]; exact .inr (.inr ⟨h, by omega, by omega, rfl⟩)
  · rw [if_pos h]; exact .inl ⟨h, rfl⟩
theorem hears_fn (b : Int) (l : List ByteArray) (next n : Int) (t : ByteArray) : Fn Try.prog 12 [sndr b l, .int next, .agg [.int n, .string t]] .sc (.bool true) := by
  refine fn_run mixed 0 (Γ := LinkW.Γ) (ann := LinkW.ann) Try.func12 rfl Try.call12 ((LinkW.hears_form _ _ _ _).mpr ?_)
  have h1 := heard_fn b l next
  have h2 := take_fn next n t
  have h3 := serr_fn b l
  simp [sndr]
  refine ⟨_, fact_fn, ?_⟩
  simp
  refine ⟨_, h1, _, h2, ?_⟩
  rcases heard_cases b l next with ⟨p1, p2⟩ | ⟨p1, p2, p3⟩ | ⟨p1, p2, p3, p4⟩
  · rw [p2]
    rcases take_cases next n t with ⟨q1, e⟩ | ⟨q1, q2, e⟩ | ⟨q1, q2, q3, e⟩ | ⟨q1, q2, q3, q4, e⟩ | ⟨q1, q2, q3, q4, q5, e⟩ | ⟨q1, q2, q3, q4, q5, q6, e⟩ | ⟨q1, q2, q3, q4, q5, q6, e⟩ <;> rw [e] <;> simp [sls] <;> (try simp (disch := omega) only [wrap64]) <;>
      (repeat' (first | exact trivial | (with_reducible intro hw; (try simp (disch := omega) only [wrap64] at hw); first | (exfalso; omega; done) | skip) | (with_reducible refine And.intro ?_ ?_) | (refine ⟨_, h3, ?_⟩; (try simp [p1, sls]); (try simp (disch := omega) only [wrap64])) | omega | assumption))
  · rw [p3]
    have hc := check_ok p1
    rcases take_cases next n t with ⟨q1, e⟩ | ⟨q1, q2, e⟩ | ⟨q1, q2, q3, e⟩ | ⟨q1, q2, q3, q4, e⟩ | ⟨q1, q2, q3, q4, q5, e⟩ | ⟨q1, q2, q3, q4, q5, q6, e⟩ | ⟨q1, q2, q3, q4, q5, q6, e⟩ <;> rw [e] <;> simp [sls] <;> (try simp (disch := omega) only [wrap64]) <;>
      (repeat' (first | exact trivial | (with_reducible intro hw; (try simp (disch := omega) only [wrap64] at hw); first | (exfalso; omega; done) | skip) | (with_reducible refine And.intro ?_ ?_) | (refine ⟨_, h3, ?_⟩; (try simp [p1, sls]); (try simp (disch := omega) only [wrap64])) | omega | assumption))
  · rw [p4]
    have hc := check_ok p1
    have h5 : Fn Try.prog 52 [lst 1 encS (l.drop (next - b).toNat), lst 1 encS (l.drop ((if b < next then next else b) - b).toNat)] .sc (.bool true) := by
      have := eqs_fn (l.drop (next - b).toNat) (l.drop (next - b).toNat) (by simp [maxLen]; omega)
      simp only [decide_true] at this
      rwa [show ((if b < next then next else b) - b).toNat = (next - b).toNat by split <;> omega]
    have hw2 : -9223372036854775808 ≤ (if b < next then next else b) - b ∧ (if b < next then next else b) - b ≤ 9223372036854775807 ∧ 0 ≤ (if b < next then next else b) - b ∧ (if b < next then next else b) - b ≤ l.length := by split <;> omega
    rcases take_cases next n t with ⟨q1, e⟩ | ⟨q1, q2, e⟩ | ⟨q1, q2, q3, e⟩ | ⟨q1, q2, q3, q4, e⟩ | ⟨q1, q2, q3, q4, q5, e⟩ | ⟨q1, q2, q3, q4, q5, q6, e⟩ | ⟨q1, q2, q3, q4, q5, q6, e⟩ <;> rw [e] <;> simp [sls_lst] <;> (try simp (disch := omega) only [wrap64]) <;>
      (repeat' (first | exact trivial | (with_reducible intro hw; (try simp (disch := omega) only [wrap64] at hw); first | (exfalso; omega; done) | skip) | (with_reducible refine And.intro ?_ ?_) | (refine ⟨_, h3, ?_⟩; (try simp [p1, sls_lst]); (try simp (disch := omega) only [wrap64])) | omega | assumption)) <;> (try exact h5)
/-! ### the arguments -/
theorem arg_sender {x : AV} (h : ArgOk Try.prog 81 x) : ∃ b l, x = sndr b l ∧ I64 b ∧ l.length ≤ maxLen := by
  obtain ⟨cs, rfl, hl, hc⟩ := arg_agg (P := Try.prog) (t := 81) (tys := [3, 79]) (by kernel_rfl) (by kernel_rfl) h
  obtain ⟨a, b, rfl⟩ := lst2 hl
  obtain ⟨n, e1, hn⟩ := c_int (by kernel_rfl) (hc 0 3 rfl)
  obtain ⟨l, e2, h1, h2⟩ := c_lst (P := Try.prog) (encA := encS) (Q := fun _ => True) (tys := [9]) (s := 1) (e := 9) (by kernel_rfl) (by kernel_rfl) (by kernel_rfl) (fun y hy hc => by
    obtain ⟨a, rfl⟩ := lst1 hy
    obtain ⟨s, e, _⟩ := c_str (by kernel_rfl) (hc 0 9 rfl)
    exact ⟨s, by simp at e; rw [e]; rfl, trivial⟩) (hc 1 79 rfl)
  simp at e1 e2
  subst e1 e2
  exact ⟨n, l, rfl, hn, h1⟩
theorem arg_str {x : AV} (h : ArgOk Try.prog 9 x) : ∃ s : ByteArray, x = .string s ∧ s.size ≤ maxLen := c_str (by kernel_rfl) (arg_cell (by kernel_rfl) h)
theorem arg_int {x : AV} (h : ArgOk Try.prog 3 x) : ∃ n, x = .int n ∧ I64 n := c_int (by kernel_rfl) (arg_cell (by kernel_rfl) h)
theorem linkSends_all (xs : List AV) (h1 : xs.length = 2) (h2 : ∀ i, i < 2 → ArgOk Try.prog ([81, 9].getD i 0) (xs.getD i default)) : Fn Try.prog 11 xs .sc (.bool true) := by
  obtain ⟨a, b, rfl⟩ := lst2 h1
  obtain ⟨n, l, e1, _, _⟩ := arg_sender (h2 0 (by omega))
  obtain ⟨s, e2, _⟩ := arg_str (h2 1 (by omega))
  simp at e1 e2
  subst e1 e2
  exact sends_fn n l s
theorem arg_frame {x : AV} (h : ArgOk Try.prog 89 x) : ∃ n t, x = .agg [.int n, .string t] ∧ I64 n := by
  obtain ⟨cs, rfl, hl, hc⟩ := arg_agg (P := Try.prog) (t := 89) (tys := [3, 9]) (by kernel_rfl) (by kernel_rfl) h
  obtain ⟨a, b, rfl⟩ := lst2 hl
  obtain ⟨n, e1, hn⟩ := c_int (by kernel_rfl) (hc 0 3 rfl)
  obtain ⟨s, e2, _⟩ := c_str (by kernel_rfl) (hc 1 9 rfl)
  simp at e1 e2
  subst e1 e2
  exact ⟨n, s, rfl, hn⟩
theorem linkHears_all (xs : List AV) (h1 : xs.length = 3) (h2 : ∀ i, i < 3 → ArgOk Try.prog ([81, 3, 89].getD i 0) (xs.getD i default)) : Fn Try.prog 12 xs .sc (.bool true) := by
  obtain ⟨a, b, c, rfl⟩ := lst3 h1
  obtain ⟨n, l, e1, _, _⟩ := arg_sender (h2 0 (by omega))
  obtain ⟨m, e2, _⟩ := arg_int (h2 1 (by omega))
  obtain ⟨k, t, e3, _⟩ := arg_frame (h2 2 (by omega))
  simp at e1 e2 e3
  subst e1 e2 e3
  exact hears_fn n l m k t
end Go.Proofs.Ytnmepkcbpkcegaa
