/- Tables, as plain values (by the run). -/
import Derived.Test.YtfdpbfdhcngfgaaWake
import Derived.Test.YtfdpbfdhcngfgaaTabF
import Derived.Test.YtfdpbfdhcngfgaaLst
namespace Go.Proofs.Ytfdpbfdhcngfgaa
open Go.RowKit
set_option linter.unusedVariables false
set_option linter.unusedSimpArgs false
set_option maxRecDepth 100000
def tabL (T : Nat → Int) : List AV := [.int (T 0), .int (T 1), .int (T 2), .int (T 3), .int (T 4), .int (T 5), .int (T 6), .int (T 7), .int (T 8), .int (T 9), .int (T 10), .int (T 11), .int (T 12), .int (T 13), .int (T 14), .int (T 15)]
def tabA (T : Nat → Int) : AV := .agg (tabL T)
theorem cels (T : Nat → Int) : [AV.cel (tabA T) 0, AV.cel (tabA T) 1, AV.cel (tabA T) 2, AV.cel (tabA T) 3, AV.cel (tabA T) 4, AV.cel (tabA T) 5, AV.cel (tabA T) 6, AV.cel (tabA T) 7, AV.cel (tabA T) 8, AV.cel (tabA T) 9, AV.cel (tabA T) 10, AV.cel (tabA T) 11, AV.cel (tabA T) 12, AV.cel (tabA T) 13, AV.cel (tabA T) 14, AV.cel (tabA T) 15] = tabL T := rfl
/-- A table's entry. -/
theorem tab_nth2 (T : Nat → Int) {k k' : IntKind} {a b : Nat} (ha : a < 4) (hb : b < 4) : AV.nth [AV.nth (tabL T) 0 [(.lit (.int k (a : Nat)), 4)], AV.nth (tabL T) 1 [(.lit (.int k (a : Nat)), 4)], AV.nth (tabL T) 2 [(.lit (.int k (a : Nat)), 4)], AV.nth (tabL T) 3 [(.lit (.int k (a : Nat)), 4)]] 0 [(.lit (.int k' (b : Nat)), 1)] = .int (T (4 * a + b)) := by
  have h1 : a = 0 ∨ a = 1 ∨ a = 2 ∨ a = 3 := by omega
  have h2 : b = 0 ∨ b = 1 ∨ b = 2 ∨ b = 3 := by omega
  rcases h1 with rfl | rfl | rfl | rfl <;> rcases h2 with rfl | rfl | rfl | rfl <;> rfl
theorem tab_nth16 (T : Nat → Int) {k k' : IntKind} {a b : Nat} (ha : a < 4) (hb : b < 4) : AV.nth (tabL T) 0 [(.lit (.int k' (b : Nat)), 1), (.lit (.int k (a : Nat)), 4)] = .int (T (4 * a + b)) := by
  have h1 : a = 0 ∨ a = 1 ∨ a = 2 ∨ a = 3 := by omega
  have h2 : b = 0 ∨ b = 1 ∨ b = 2 ∨ b = 3 := by omega
  rcases h1 with rfl | rfl | rfl | rfl <;> rcases h2 with rfl | rfl | rfl | rfl <;> rfl
theorem tab_ok {k k' : IntKind} {a b : Nat} (ha : a < 4) (hb : b < 4) : AV.nthOk 16 0 [(.lit (.int k' (b : Nat)), 1), (.lit (.int k (a : Nat)), 4)] := by
  simp [AV.nthOk, AV.off, AV.num]; omega
theorem inl_nat {k : IntKind} {n a : Nat} (h : a < n) : AV.inl n (.lit (.int k (a : Nat))) := ⟨by simp, by simp [AV.num], by simp [AV.num]; omega⟩
theorem wcheck_fn (T : Nat → Int) : Fn Try.prog 24 [tabA T] .sc (.int (tabErr T)) := by
  refine fn_run mixed 3 (Γ := TabF.Γ) (ann := TabF.ann) Try.func24 rfl Try.call24 ((TabF.wcheck_form _ _).mpr ?_)
  simp only [cels]
  refine ⟨⟨_, rfl, rfl⟩, ?_⟩
  refine loop_nat (σ := Unit) 4 (fun a _ => [.int (a : Nat)]) (fun a _ => ∀ n, n < 4 * a → okAt T n) () rfl (by intro n h; omega) ?_ ?_
  · intro a _ K ha hG hK
    have hd : decide ((a : Int) < 4) = true := by simp; omega
    have hw : IntKind.i64.wrap ((a : Int) + 1) = (a : Int) + 1 := wrap64 (by omega) (by omega)
    have hi : AV.inl 4 (.int (a : Nat)) := inl_nat ha
    have hK' : (∀ n, n < 4 * (a + 1) → okAt T n) → K [.int ((a : Int) + 1)] := fun h => hK [.int ((a : Int) + 1)] () (by simp) h
    clear hK
    simp [ha, hd, hw]
    refine ⟨hi, ?_⟩
    refine loop_nat (σ := Unit) 4 (fun b _ => [.int (b : Nat)]) (fun b _ => ∀ n, n < 4 * a + b → okAt T n) () rfl (by simpa using hG) ?_ ?_
    · intro b _ K2 hb hG2 hK2
      have hd2 : decide ((b : Int) < 4) = true := by simp; omega
      have hw2 : IntKind.i64.wrap ((b : Int) + 1) = (b : Int) + 1 := wrap64 (by omega) (by omega)
      have hi2 : AV.inl 4 (.int (b : Nat)) := inl_nat hb
      have hK2' : (∀ n, n < 4 * a + (b + 1) → okAt T n) → K2 [.int ((b : Int) + 1)] := fun h => hK2 [.int ((b : Int) + 1)] () (by simp) h
      clear hK2 hK'
      have hr : ¬ okAt T (4 * a + b) → 4 = tabErr T := fun h => (tab_range (by omega) h).symm
      simp [hb, hd2, hw2, tab_nth2 T ha hb, hi2]
      refine ⟨fun h => ⟨h, hr (by unfold okAt; omega)⟩, fun h => ⟨h, fun h' => hr (by unfold okAt; omega), fun h' => hK2' fun n hn => ?_⟩⟩
      by_cases e : n = 4 * a + b
      · rw [e]; exact ⟨h, h'⟩
      · exact hG2 n (by omega)
    · intro _ K2 hG2
      have := hK' (fun n hn => hG2 n (by omega))
      simp [hw]
      exact this
  · intro _ K hG
    simp
    refine loop_nat (σ := Unit) 4 (fun a _ => [.int (a : Nat)]) (fun a _ => ∀ i, i < 16 * a → triAt T i) () rfl (by intro n h; omega) ?_ ?_
    · intro a _ K ha hA hK
      have hd : decide ((a : Int) < 4) = true := by simp; omega
      have hw : IntKind.i64.wrap ((a : Int) + 1) = (a : Int) + 1 := wrap64 (by omega) (by omega)
      have hi : AV.inl 4 (.int (a : Nat)) := inl_nat ha
      have hK' : (∀ i, i < 16 * (a + 1) → triAt T i) → K [.int ((a : Int) + 1)] := fun h => hK [.int ((a : Int) + 1)] () (by simp) h
      clear hK
      simp [ha, hd, hw]
      refine loop_nat (σ := Unit) 4 (fun b _ => [.int (b : Nat)]) (fun b _ => ∀ i, i < 16 * a + 4 * b → triAt T i) () rfl (by simpa using hA) ?_ ?_
      · intro b _ K2 hb hB hK2
        have hd2 : decide ((b : Int) < 4) = true := by simp; omega
        have hw2 : IntKind.i64.wrap ((b : Int) + 1) = (b : Int) + 1 := wrap64 (by omega) (by omega)
        have hi2 : AV.inl 4 (.int (b : Nat)) := inl_nat hb
        have hK2' : (∀ i, i < 16 * a + 4 * (b + 1) → triAt T i) → K2 [.int ((b : Int) + 1)] := fun h => hK2 [.int ((b : Int) + 1)] () (by simp) h
        clear hK2 hK'
        simp [hb, hd2, hw2, hi2]
        refine loop_nat (σ := Unit) 4 (fun c _ => [.int (c : Nat)]) (fun c _ => ∀ i, i < 16 * a + 4 * b + c → triAt T i) () rfl (by simpa using hB) ?_ ?_
        · intro c _ K3 hc hC hK3
          have hd3 : decide ((c : Int) < 4) = true := by simp; omega
          have hw3 : IntKind.i64.wrap ((c : Int) + 1) = (c : Int) + 1 := wrap64 (by omega) (by omega)
          have hi3 : AV.inl 4 (.int (c : Nat)) := inl_nat hc
          have hK3' : (∀ i, i < 16 * a + 4 * b + (c + 1) → triAt T i) → K3 [.int ((c : Int) + 1)] := fun h => hK3 [.int ((c : Int) + 1)] () (by simp) h
          clear hK3 hK2'
          have b1 := hG (4 * a + b) (by omega)
          have b2 := hG (4 * b + c) (by omega)
          unfold okAt at b1 b2
          have hw4 : IntKind.i64.wrap (T (4 * a + b) + T (4 * b + c)) = T (4 * a + b) + T (4 * b + c) := wrap64 (by omega) (by omega)
          have ht : triAt T (16 * a + 4 * b + c) ↔ T (4 * a + c) ≤ T (4 * a + b) + T (4 * b + c) := by
            unfold triAt
            rw [show (16 * a + 4 * b + c) / 16 = a by omega, show (16 * a + 4 * b + c) / 4 % 4 = b by omega, show (16 * a + 4 * b + c) % 4 = c by omega]
          have hr : ¬ triAt T (16 * a + 4 * b + c) → 3 = tabErr T := fun h => (tab_form (fun n hn => hG n (by omega)) (by omega) h).symm
          simp [hc, hd3, hw3, hi, hi2, hi3, tab_nth16 T ha hb, tab_nth16 T hb hc, tab_nth16 T ha hc, tab_ok ha hb, tab_ok hb hc, tab_ok ha hc, hw4]
          refine ⟨fun h => hr (by rw [ht]; omega), fun h => hK3' fun i hi => ?_⟩
          by_cases e : i = 16 * a + 4 * b + c
          · rw [e]; exact ht.2 h
          · exact hC i (by omega)
        · intro _ K3 hC
          have := hK2' (fun i hi => hC i (by omega))
          simp [hw2]
          exact this
      · intro _ K2 hB
        have := hK' (fun i hi => hB i (by omega))
        simp [hw]
        exact this
    · intro _ K hA
      have := tab_good (T := T) (fun n hn => hG n (by omega)) (fun i hi => hA i (by omega))
      simp [this]
theorem table_fn (T : Nat → Int) : Fn Try.prog 14 [tabA T] .sc (.int (tabErr T)) := by
  refine fn_run mixed 3 (Γ := TabF.Γ) (ann := TabF.ann) Try.func14 rfl Try.call14 ((TabF.terr_form _ _).mpr ?_)
  simp only [cels]
  refine ⟨⟨_, rfl, rfl⟩, ?_⟩
  refine loop_nat (σ := Unit) 16 (fun k _ => [.int (k : Nat)]) (fun k _ => ∀ n, n < k → okAt T n) () rfl (by intro n h; omega) ?_ ?_
  · intro k _ K hk hG hK
    have hd : decide ((k : Int) < 16) = true := by simp; omega
    have hw : IntKind.i64.wrap ((k : Int) + 1) = (k : Int) + 1 := wrap64 (by omega) (by omega)
    have hq : IntKind.i64.wrap ((k : Int) / 4) = ((k / 4 : Nat) : Int) := by rw [wrap64 (by omega) (by omega)]; rfl
    have hm : (k : Int).tmod 4 = ((k % 4 : Nat) : Int) := rfl
    have q1 : k / 4 < 4 := by omega
    have q2 : k % 4 < 4 := by omega
    have hi : AV.inl 4 (.int ((k / 4 : Nat) : Int)) := inl_nat q1
    have hi2 : AV.inl 4 (.int ((k % 4 : Nat) : Int)) := inl_nat q2
    have e1 := tab_nth16 T (k := .i64) (k' := .i64) q1 q2
    have e2 := tab_ok (k := .i64) (k' := .i64) q1 q2
    rw [show 4 * (k / 4) + k % 4 = k by omega] at e1
    have hK' : (∀ n, n < k + 1 → okAt T n) → K [.int ((k : Int) + 1)] := fun h => hK [.int ((k : Int) + 1)] () (by simp) h
    clear hK
    have hr : ¬ okAt T k → 4 = tabErr T := fun h => (tab_range hk h).symm
    generalize hA : k / 4 = A at *
    generalize hB : k % 4 = B at *
    simp [hd, hw, hq, hm, hi, hi2, e1, e2]
    refine ⟨fun h => ⟨h, hr (by unfold okAt; omega)⟩, fun h => ⟨h, fun h' => hr (by unfold okAt; omega), fun h' => hK' fun n hn => ?_⟩⟩
    by_cases e : n = k
    · rw [e]; exact ⟨h, h'⟩
    · exact hG n (by omega)
  · intro _ K hG
    simp
    refine loop_nat (σ := Unit) 64 (fun k _ => [.int (k : Nat)]) (fun k _ => ∀ i, i < k → triAt T i) () rfl (by intro n h; omega) ?_ ?_
    · intro k _ K hk hA hK
      have hd : decide ((k : Int) < 64) = true := by simp; omega
      have hw : IntKind.i64.wrap ((k : Int) + 1) = (k : Int) + 1 := wrap64 (by omega) (by omega)
      have hq : IntKind.i64.wrap ((k : Int) / 16) = ((k / 16 : Nat) : Int) := by rw [wrap64 (by omega) (by omega)]; rfl
      have hq4 : IntKind.i64.wrap ((k : Int) / 4) = (k : Int) / 4 := by rw [wrap64 (by omega) (by omega)]
      have hm4 : ((k : Int) / 4).tmod 4 = ((k / 4 % 4 : Nat) : Int) := rfl
      have hm : (k : Int).tmod 4 = ((k % 4 : Nat) : Int) := rfl
      have q1 : k / 16 < 4 := by omega
      have q2 : k / 4 % 4 < 4 := by omega
      have q3 : k % 4 < 4 := by omega
      have ht : triAt T k ↔ T (4 * (k / 16) + k % 4) ≤ T (4 * (k / 16) + k / 4 % 4) + T (4 * (k / 4 % 4) + k % 4) := Iff.rfl
      have b1 := hG (4 * (k / 16) + k / 4 % 4) (by omega)
      have b2 := hG (4 * (k / 4 % 4) + k % 4) (by omega)
      have hK' : (∀ n, n < k + 1 → triAt T n) → K [.int ((k : Int) + 1)] := fun h => hK [.int ((k : Int) + 1)] () (by simp) h
      clear hK
      have hr : ¬ triAt T k → 3 = tabErr T := fun h => (tab_form (fun n hn => hG n hn) hk h).symm
      generalize hA' : k / 16 = A at *
      generalize hB : k / 4 % 4 = B at *
      generalize hC : k % 4 = C at *
      unfold okAt at b1 b2
      have hw4 : IntKind.i64.wrap (T (4 * A + B) + T (4 * B + C)) = T (4 * A + B) + T (4 * B + C) := wrap64 (by omega) (by omega)
      have hi : AV.inl 4 (.int (A : Int)) := inl_nat q1
      have hi2 : AV.inl 4 (.int (B : Int)) := inl_nat q2
      have hi3 : AV.inl 4 (.int (C : Int)) := inl_nat q3
      simp [hd, hw, hq, hq4, hm, hm4, hi, hi2, hi3, tab_nth16 T q1 q2, tab_nth16 T q2 q3, tab_nth16 T q1 q3, tab_ok q1 q2, tab_ok q2 q3, tab_ok q1 q3, hw4]
      refine ⟨fun h => hr (by rw [ht]; omega), fun h => hK' fun i hi => ?_⟩
      by_cases e : i = k
      · rw [e]; exact ht.2 h
      · exact hA i (by omega)
    · intro _ K hA
      have := tab_good (T := T) (fun n hn => hG n hn) (fun i hi => hA i hi)
      simp [this]
end Go.Proofs.Ytfdpbfdhcngfgaa
