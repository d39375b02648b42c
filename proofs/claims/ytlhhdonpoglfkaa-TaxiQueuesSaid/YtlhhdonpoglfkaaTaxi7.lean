/- taxi's fact and the law of those that wait. -/
import Derived.Test.YtlhhdonpoglfkaaTaxi6
import Derived.Test.YtlhhdonpoglfkaaTaxiG
import Derived.Test.YtlhhdonpoglfkaaArgs
namespace Go.Proofs.Ytlhhdonpoglfkaa
open Go.RowKit
set_option linter.unusedVariables false
set_option linter.unusedSimpArgs false
set_option maxRecDepth 100000
def bS : ByteArray := ⟨#[83]⟩
def bA : ByteArray := ⟨#[65]⟩
def bB : ByteArray := ⟨#[66]⟩
theorem tq1 : queV [⟨bS, 50⟩] [⟨bB, bS, 50⟩, ⟨bA, bS, 50⟩] 60 = .tup [txs [⟨bA, 50, 100, 100⟩, ⟨bB, 50, 100, 160⟩], .int 0] := by kernel_rfl
theorem tq2 : latV [⟨bS, 50⟩] [⟨bB, bS, 50⟩, ⟨bA, bS, 50⟩] 60 20 = .tup [txs [⟨bA, 50, 100, 100⟩, ⟨bB, 90, 140, 160⟩], .int 0] := by kernel_rfl
theorem tq3 : mostV [⟨bA, 50, 100, 100⟩, ⟨bB, 50, 100, 160⟩] = .tup [.int 1, .int 100] := by kernel_rfl
theorem tq5 : waitN [⟨bA, 50, 100, 100⟩, ⟨bB, 50, 100, 160⟩] 120 = 1 := by kernel_rfl
theorem tq6 : stdE [⟨bS, 50⟩, ⟨bS, 50⟩] = 7 := by kernel_rfl
theorem tq7 : askE [⟨bS, 50⟩] [⟨bB, bS, 50⟩, ⟨bA, bS, 50⟩, ⟨bB, bS, 50⟩, ⟨bA, bS, 50⟩] = 7 := by kernel_rfl
theorem tfact_fn : Fn Try.prog 38 [] .sc (.bool true) := by
  have e := TaxiG.fact_form (.bool true)
  have k := fun h => fn_run mixed 3 (Γ := TaxiG.Γ) (ann := TaxiG.ann) Try.func38 rfl Try.call38 (e.mpr h)
  refine k ?_
  clear k e
  have h1 := queue_fn [⟨bS, 50⟩] [⟨bB, bS, 50⟩, ⟨bA, bS, 50⟩] 60
  rw [tq1] at h1
  have h2 := late_fn [⟨bS, 50⟩] [⟨bB, bS, 50⟩, ⟨bA, bS, 50⟩] 60 20
  rw [tq2] at h2
  have h3 := most_fn [⟨bA, 50, 100, 100⟩, ⟨bB, 50, 100, 160⟩] (by simp)
  rw [tq3] at h3
  have h4 := eqt_fn [⟨bA, 50, 100, 100⟩, ⟨bB, 50, 100, 160⟩] [⟨bA, 50, 100, 100⟩, ⟨bB, 50, 100, 160⟩] (by simp [maxLen])
  rw [decide_eq_true rfl] at h4
  have h5 := waiting_fn [⟨bA, 50, 100, 100⟩, ⟨bB, 50, 100, 160⟩] 120 (by simp)
  rw [tq5] at h5
  have h6 := stands_fn [⟨bS, 50⟩, ⟨bS, 50⟩]
  rw [tq6] at h6
  have h7 := tcheck_fn [⟨bS, 50⟩] [⟨bB, bS, 50⟩, ⟨bA, bS, 50⟩, ⟨bB, bS, 50⟩, ⟨bA, bS, 50⟩]
  rw [tq7] at h7
  refine ⟨_, h1, _, h2, _, h3, ?_⟩
  simp
  refine ⟨_, h4, ?_⟩
  have e1 : AV.atAgg (txs [⟨bA, 50, 100, 100⟩, ⟨bB, 90, 140, 160⟩]) (.int 1) 0 4 = .agg [.string bB, .int 90, .int 140, .int 160] := rfl
  simp [e1, AV.eqPlOk, AV.eqPl]
  refine ⟨by simp [bB], _, h5, ?_⟩
  simp
  refine ⟨by simp [AV.room, AV.els], _, h6, ?_⟩
  simp
  refine ⟨by simp [AV.room, AV.els], _, h7, ?_⟩
  simp
theorem arg_intT {x : AV} (h : ArgOk Try.prog 3 x) : ∃ n, x = .int n ∧ I64 n := c_int (by kernel_rfl) (arg_cell (by kernel_rfl) h)
theorem arg_txs {x : AV} (h : ArgOk Try.prog 68 x) : ∃ l, x = txs l ∧ l.length ≤ maxLen := by
  obtain ⟨l, e, h1, _⟩ := c_lst (P := Try.prog) (encA := encT) (Q := fun _ => True) (tys := [9, 3, 3, 3]) (s := 4) (e := 76) (by kernel_rfl) (by kernel_rfl) (by kernel_rfl) (fun y hy hc => by
    obtain ⟨a, b, c, d, rfl⟩ := lst4 hy
    obtain ⟨s1, e1, _⟩ := c_str (by kernel_rfl) (hc 0 9 rfl)
    obtain ⟨s2, e2, _⟩ := c_int (by kernel_rfl) (hc 1 3 rfl)
    obtain ⟨s3, e3, _⟩ := c_int (by kernel_rfl) (hc 2 3 rfl)
    obtain ⟨s4, e4, _⟩ := c_int (by kernel_rfl) (hc 3 3 rfl)
    simp at e1 e2 e3 e4
    exact ⟨⟨s1, s2, s3, s4⟩, by rw [e1, e2, e3, e4]; rfl, trivial⟩) (arg_cell (by kernel_rfl) h)
  exact ⟨l, e, h1⟩
theorem twaits_fn (l : List Tx) (t : Int) : Fn Try.prog 8 [txs l, .int t] .sc (.bool true) := by
  have e := TaxiG.waits_form (txs l) (.int t) (.bool true)
  have k := fun h => fn_run mixed 3 (Γ := TaxiG.Γ) (ann := TaxiG.ann) Try.func8 rfl Try.call8 (e.mpr h)
  refine k ?_
  clear k e
  refine ⟨by simp, _, tfact_fn, ?_⟩
  simp
  intro h
  have hl : l.length ≤ 1000 := by omega
  refine loop_list (σ := Int × Int) l (fun n s => [.int s.1, .int s.2, .int (n : Nat)]) (fun n rest s => mostG l (0, 0) l = mostG l s rest) (0, 0) rfl rfl ?_ ?_
  · rintro n x rest ⟨s1, s2⟩ K hx hr hn hg hK
    have hw2 : IntKind.i64.wrap ((n : Int) + 1) = (n : Int) + 1 := wrap64 (by omega) (by omega)
    rw [mostG] at hg
    have gY : (waitN l x.h > s1 ∨ (waitN l x.h = s1 ∧ waitN l x.h > 0 ∧ x.h < s2)) → K [.int (waitN l x.h), .int x.h, .int ((n : Nat) + 1)] := fun q => hK _ (waitN l x.h, x.h) (by simp) (by rw [hg, if_pos q])
    have gN : ¬ (waitN l x.h > s1 ∨ (waitN l x.h = s1 ∧ waitN l x.h > 0 ∧ x.h < s2)) → K [.int s1, .int s2, .int ((n : Nat) + 1)] := fun q => hK _ (s1, s2) (by simp) (by rw [hg, if_neg q])
    have hf := count_fn l x.h hl
    clear hg hK
    simp [hn, lst_atAgg hx, encT, hw2]
    (repeat' (first | exact trivial | (with_reducible intro hw; (try simp (disch := omega) only [wrap64] at hw); first | (exfalso; omega; done) | skip) | (with_reducible refine And.intro ?_ ?_) | (refine ⟨_, hf, ?_⟩; (try simp [hw2]); (try simp (disch := omega) only [wrap64])) | omega | assumption))
    all_goals (first | exact gY (by omega) | exact gN (by omega))
  · rintro ⟨s1, s2⟩ K hg
    rw [mostG] at hg
    simp
    refine ⟨_, most_fn l hl, ?_⟩
    simp [mostV, hg]
    refine ⟨_, waiting_fn l t hl, _, count_fn l t hl, ?_⟩
    simp
theorem taxiWaits_all (xs : List AV) (h1 : xs.length = 2) (h2 : ∀ i, i < 2 → ArgOk Try.prog ([68, 3].getD i 0) (xs.getD i default)) : Fn Try.prog 8 xs .sc (.bool true) := by
  obtain ⟨a, b, rfl⟩ := lst2 h1
  obtain ⟨l, e1, _⟩ := arg_txs (h2 0 (by omega))
  obtain ⟨t, e2, _⟩ := arg_intT (h2 1 (by omega))
  simp at e1 e2
  subst e1 e2
  exact twaits_fn l t
end Go.Proofs.Ytlhhdonpoglfkaa
