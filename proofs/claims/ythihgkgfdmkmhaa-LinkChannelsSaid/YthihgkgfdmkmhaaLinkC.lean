/- link's channels. -/
import Derived.Test.YthihgkgfdmkmhaaLinkW
import Derived.Test.YthihgkgfdmkmhaaLinkG
import Derived.Test.YthihgkgfdmkmhaaDelStr
import Derived.Test.YthihgkgfdmkmhaaArgs
namespace Go.Proofs.Ythihgkgfdmkmhaa
open Go.RowKit
set_option linter.unusedVariables false
set_option linter.unusedSimpArgs false
set_option maxRecDepth 100000
/-! ### Dec -/
def digs : ByteArray := ⟨#[48, 49, 50, 51, 52, 53, 54, 55, 56, 57]⟩
def decS (n : Nat) : ByteArray := if h : n < 10 then digs.extract n (n + 1) else decS (n / 10) ++ decS (n % 10)
termination_by n
decreasing_by all_goals omega
theorem decS_lt {n : Nat} (h : n < 10) : decS n = digs.extract n (n + 1) := by rw [decS]; rw [dif_pos h]
theorem decS_ge {n : Nat} (h : ¬ n < 10) : decS n = decS (n / 10) ++ decS (n % 10) := by rw [decS]; rw [dif_neg h]
theorem decS_small {n : Nat} (h : n < 10) : (decS n).size = 1 := by
  rw [decS_lt h]
  have : n = 0 ∨ n = 1 ∨ n = 2 ∨ n = 3 ∨ n = 4 ∨ n = 5 ∨ n = 6 ∨ n = 7 ∨ n = 8 ∨ n = 9 := by omega
  rcases this with rfl | rfl | rfl | rfl | rfl | rfl | rfl | rfl | rfl | rfl <;> (show _ = _; kernel_rfl)
theorem decS_size : ∀ (n : Nat), (decS n).size ≤ n + 1
  | n => by
    by_cases h : n < 10
    · rw [decS_small h]; omega
    · have h1 := decS_size (n / 10)
      have h2 := decS_small (n := n % 10) (by omega)
      rw [decS_ge h, ByteArray.size_append]
      omega
termination_by n => n
decreasing_by all_goals omega
theorem dec_fn : ∀ (n : Nat), n ≤ 200000 → Fn Try.prog 6 [.int (n : Nat)] .sc (.string (decS n))
  | n, hn => by
    have e := LinkG.dec_form (.int (n : Nat)) (.string (decS n))
    have k := fun h => fn_run mixed 0 (Γ := LinkG.Γ) (ann := LinkG.ann) Try.func6 rfl Try.call6 (e.mpr h)
    refine k ?_
    clear k e
    have hw1 : IntKind.i64.wrap ((n : Int) + 1) = (n : Int) + 1 := wrap64 (by omega) (by omega)
    simp [hw1]
    refine ⟨fun h => absurd h (by omega), fun h => ?_, fun h => ?_⟩
    · refine ⟨⟨⟨_, _, rfl⟩, ⟨_, _, rfl⟩, by simp, by simp; omega, ?_⟩, ?_⟩
      · show (n : Int) + 1 ≤ 10
        omega
      · rw [decS_lt (by omega)]
        have e2 : ((n : Int) + 1).toNat = n + 1 := by omega
        simp [AV.ssub, e2]
        rfl
    · have hq : IntKind.i64.wrap ((n : Int) / 10) = ((n / 10 : Nat) : Int) := by
        rw [wrap64 (by omega) (by omega)]; omega
      have hr : (n : Int).tmod 10 = ((n % 10 : Nat) : Int) := by
        rw [Int.tmod_eq_emod_of_nonneg (by omega)]; omega
      have h1 := dec_fn (n / 10) (by omega)
      have h2 := dec_fn (n % 10) (by omega)
      rw [hq, hr]
      refine ⟨_, h1, _, h2, ?_⟩
      have s1 := decS_size (n / 10)
      have s2 := decS_small (n := n % 10) (by omega)
      simp
      exact ⟨by rw [s2]; omega, (decS_ge (by omega)).symm⟩
termination_by n => n
decreasing_by all_goals omega
theorem and_nonneg (a : Int) : 0 ≤ intB .and .i64 a 127 := by
  unfold intB
  have h : ((BitVec.ofInt IntKind.i64.bits a &&& BitVec.ofInt IntKind.i64.bits 127).toNat : Nat) ≤ 127 := by
    rw [BitVec.toNat_and]
    exact Nat.le_trans Nat.and_le_right (by decide)
  simp only
  rw [wrap64 (by omega) (by omega)]
  omega
theorem strs_snoc (o : List ByteArray) (x : ByteArray) : AV.app 1 (lst 1 encS o) (.sl 1 [[.lit (.string x)]]) = lst 1 encS (o ++ [x]) := by
  simp [lst, AV.app, AV.els, encS]
theorem chan_fn (sc : List Int) : Fn Try.prog 3 [lst 1 (fun n => [AV.int n]) sc] .sc (.bool true) := by
  have e := LinkG.chan_form (lst 1 (fun n => [AV.int n]) sc) (.bool true)
  have k := fun h => fn_run mixed 4 (Γ := LinkG.Γ) (ann := LinkG.ann) Try.func3 rfl Try.call3 (e.mpr h)
  refine k ?_
  clear k e
  have e1 : Ent Try.prog 5 := Try.call5
  have e2 : Ent Try.prog 12 := Try.call12
  have e3 : Ent Try.prog 7 := Try.call7
  have e4 : Ent Try.prog 8 := Try.call8
  have e5 : Ent Try.prog 9 := Try.call9
  have e6 : Ent Try.prog 11 := Try.call11
  refine ⟨_, fact_fn, ?_⟩
  simp
  intro hlen
  refine ⟨e1, ?_⟩
  refine loop_list (σ := List ByteArray) sc (fun n L => [.int (n : Nat), lst 1 encS L, lst 1 encS L]) (fun n rest L => L.length ≤ 64 ∧ ∀ x ∈ L, x.size ≤ 120) [] (by simp) ⟨by simp, by simp⟩ ?_ ?_
  · rintro n x rest L K hx hr hn ⟨hL, hs⟩ hK
    have hw2 : IntKind.i64.wrap ((n : Int) + 1) = (n : Int) + 1 := wrap64 (by omega) (by omega)
    have hdec := dec_fn n (by omega)
    have hds : (decS n).size ≤ 120 := by
      by_cases h : n < 10
      · rw [decS_small h]; omega
      · have h1 := decS_size (n / 10)
        have h2 := decS_small (n := n % 10) (by omega)
        rw [decS_ge h, ByteArray.size_append]
        omega
    have gK : ∀ M : List ByteArray, M.length ≤ 64 → (∀ x ∈ M, x.size ≤ 120) → K [.int ((n : Nat) + 1), lst 1 encS M, lst 1 encS M] := fun M h1 h2 => hK _ M (by simp) ⟨h1, h2⟩
    clear hK
    have hat : AV.at (lst 1 (fun n => [AV.int n]) sc) (.lit (.int .i64 (n : Nat))) 0 = .lit (.int .i64 x) := lst_at hx
    obtain ⟨sh, hsh⟩ : ∃ sh, AV.shf .shr (.lit (.int .i64 x)) (.lit (.int .u64 2)) = .lit (.int .i64 sh) := ⟨_, rfl⟩
    obtain ⟨i, hi, hi0⟩ : ∃ i : Int, AV.bin .and (.lit (.int .i64 sh)) (.lit (.int .i64 127)) = .lit (.int .i64 i) ∧ 0 ≤ i := ⟨_, rfl, and_nonneg sh⟩
    obtain ⟨op, hop⟩ : ∃ op : Int, AV.bin .and (.lit (.int .i64 x)) (.lit (.int .i64 3)) = .lit (.int .i64 op) := ⟨_, rfl⟩
    have hso : AV.shfOk (.lit (.int .i64 x)) (.lit (.int .u64 2)) := ⟨⟨_, _, rfl⟩, ⟨_, _, rfl⟩, by simp⟩
    have hr1 : ∀ (M : List ByteArray) (q : List (List AV)), M.length ≤ 64 → q.length = 1 → AV.room (lst 1 encS M) (.sl 1 q) 16 := fun M q hM hq => by unfold AV.room; rw [lst_els]; simp [AV.els, hq]; omega
    simp [hn, hat, hsh, hi, hop, hso, e2, e3, e4, e5, e6, hw2]
    clear hi hsh hop hat hso
    obtain ⟨m, rfl⟩ : ∃ m : Nat, i = (m : Int) := ⟨i.toNat, by omega⟩
    have hdel : m < L.length → FnU Try.prog 21 9 1 (lst 1 encS L) [.lit (.int .i64 (m : Nat)), .lit (.int .i64 ((m : Int) + 1))] true (lst 1 encS (L.take m ++ L.drop (m + 1))) := fun q => by
      have := delStr (L.map encS) m (m + 1) (by omega) (by simp; omega)
      simpa [lst, List.map_take, List.map_drop] using this
    have hclone : Fn Try.prog 10 [lst 1 encS (L.take m)] (.row 9 1 true) (lst 1 encS (L.take m)) := clone_fn (L.take m) (by simp; omega)
    have happ : AV.app 1 (lst 1 encS (L.take m)) (lst 1 encS (L.drop (m + 1))) = lst 1 encS (L.take m ++ L.drop (m + 1)) := by simp
    have hroom2 : m < L.length → AV.room (lst 1 encS (L.take m)) (lst 1 encS (L.drop (m + 1))) 16 := fun q => by unfold AV.room; rw [lst_els, lst_els]; simp; omega
    have gD : m < L.length → K [.int ((n : Nat) + 1), lst 1 encS (L.take m ++ L.drop (m + 1)), lst 1 encS (L.take m ++ L.drop (m + 1))] := fun q => gK _ (by simp; omega) fun y hy => by
      rcases List.mem_append.1 hy with h | h
      · exact hs y (List.mem_of_mem_take h)
      · exact hs y (List.mem_of_mem_drop h)
    have hget : m < L.length → ∃ y, L[m]? = some y ∧ y.size ≤ 120 := fun q => ⟨L[m], List.getElem?_eq_getElem q, hs _ (List.getElem_mem q)⟩
    have hwm : m < L.length → IntKind.i64.wrap ((m : Int) + 1) = (m : Int) + 1 := fun q => wrap64 (by omega) (by omega)
    refine ⟨fun _ => ⟨_, hdec, ?_⟩, fun h0 => ⟨fun h1 => ⟨h1, fun q => absurd q (by omega), fun _ => ⟨by omega, fun q => ⟨q, gK L hL hs⟩, fun q => ?_⟩⟩, fun h1 => ⟨fun h2 => ⟨h1, fun q => absurd q (by omega), fun _ => ⟨by omega, fun q => ⟨q, gK L hL hs⟩, fun q => ?_⟩⟩, fun h2 => ⟨fun q => ⟨fun q2 => absurd q2 (by omega), fun _ => ⟨by omega, q, gK L hL hs⟩⟩, fun q => ?_⟩⟩⟩⟩
    · have hsn := strs_snoc L (decS n)
      have gS : L.length ≠ 64 → K [.int ((n : Nat) + 1), lst 1 encS (L ++ [decS n]), lst 1 encS (L ++ [decS n])] := fun q => gK _ (by simp; omega) fun y hy => by
        rcases List.mem_append.1 hy with h | h
        · exact hs y h
        · simp at h; rw [h]; exact hds
      simp [hsn]
      exact ⟨by omega, fun q => ⟨by omega, gK L hL hs⟩, fun q => ⟨hr1 L _ hL rfl, by omega, hr1 L _ hL rfl, gS (by omega)⟩⟩
    · have hq : m < L.length := by omega
      obtain ⟨y, hy, hys⟩ := hget hq
      rw [hwm hq]
      refine ⟨⟨by omega, by omega⟩, _, hdel hq, by omega, h1, ⟨by omega, by omega⟩, ?_⟩
      simp [lst_at hy, encS]
      refine ⟨h1, by omega, _, hclone, ⟨by omega, by omega⟩, ?_⟩
      have e9 : ((m : Int) + 1).toNat = m + 1 := by omega
      simp [e9]
      exact ⟨hroom2 hq, gD hq⟩
    · have hq : m < L.length := by omega
      obtain ⟨y, hy, hys⟩ := hget hq
      rw [hwm hq]
      refine ⟨⟨by omega, by omega⟩, _, hdel hq, by omega, h1, ⟨by omega, by omega⟩, ?_⟩
      have hclone' := hclone
      refine ⟨_, hclone, ⟨by omega, by omega⟩, ?_⟩
      have e9 : ((m : Int) + 1).toNat = m + 1 := by omega
      simp [e9]
      exact ⟨hroom2 hq, gD hq⟩
    · have hq : m < L.length := by omega
      obtain ⟨y, hy, hys⟩ := hget hq
      have hsn := strs_snoc L y
      have gS : L.length ≠ 64 → K [.int ((n : Nat) + 1), lst 1 encS (L ++ [y]), lst 1 encS (L ++ [y])] := fun q => gK _ (by simp; omega) fun z hz => by
        rcases List.mem_append.1 hz with h | h
        · exact hs z h
        · simp at h; rw [h]; exact hys
      simp [lst_at hy, encS, hsn]
      exact ⟨fun q => ⟨hq, by omega, q, gK L hL hs⟩, fun q => ⟨hq, by omega, q, hr1 L _ hL rfl, hq, hr1 L _ hL rfl, gS (by omega)⟩⟩
  · intro L K _
    simp
theorem linkChannels_all (xs : List AV) (h1 : xs.length = 1) (h2 : ∀ i, i < 1 → ArgOk Try.prog ([22].getD i 0) (xs.getD i default)) : Fn Try.prog 3 xs .sc (.bool true) := by
  obtain ⟨a, rfl⟩ : ∃ a, xs = [a] := by match xs, h1 with | [a], _ => exact ⟨a, rfl⟩
  have h := h2 0 (by omega)
  obtain ⟨l, e, _⟩ := c_lst (P := Try.prog) (encA := fun n => [AV.int n]) (Q := fun _ => True) (tys := [3]) (s := 1) (e := 3) (by kernel_rfl) (by kernel_rfl) (by kernel_rfl) (fun y hy hc => by
    obtain ⟨a, rfl⟩ : ∃ a, y = [a] := by match y, hy with | [a], _ => exact ⟨a, rfl⟩
    obtain ⟨s1, e1, _⟩ := c_int (by kernel_rfl) (hc 0 3 rfl)
    simp at e1
    exact ⟨s1, by rw [e1], trivial⟩) (arg_cell (by kernel_rfl) h)
  simp at e
  subst e
  exact chan_fn l
end Go.Proofs.Ythihgkgfdmkmhaa
