/- Lists as plain values; loops over a list. -/
import Derived.Test.YtfdpbfdhcngfgaaVal
namespace Go.Proofs.Ytfdpbfdhcngfgaa
open Go.RowKit
set_option linter.unusedVariables false
/-- A slice whose elements are those of a list, each by its cells. -/
def lst {α : Type} (s : Nat) (enc : α → List AV) (l : List α) : AV := .sl s (l.map enc)
section
variable {α : Type} {s i j m : Nat} {enc : α → List AV} {l l' : List α} {k k' : IntKind} {a b n : Int} {x : α} {y z : AV} {F G : Prop}
@[simp] theorem lst_els : AV.els (lst s enc l) = l.map enc := rfl
@[simp] theorem lst_len : AV.len (lst s enc l) = .lit (.int .i64 (l.length : Nat)) := by simp [lst]
@[simp] theorem lst_isSl : AV.isSl (lst s enc l) j ↔ s = j := by simp [lst]
@[simp] theorem lst_isOne : AV.isOne (lst s enc l) ↔ True := by simp [lst]
@[simp] theorem lst_inb : AV.inb (lst s enc l) (.lit (.int k n)) ↔ 0 ≤ n ∧ n < l.length := by simp [lst]
@[simp] theorem lst_subOk : AV.subOk (lst s enc l) (.lit (.int k a)) (.lit (.int k' b)) ↔ 0 ≤ a ∧ a ≤ b ∧ b ≤ l.length := by simp [lst]
@[simp] theorem lst_sub : AV.sub i (lst i enc l) (.lit (.int k a)) (.lit (.int k' b)) = lst i enc ((l.take b.toNat).drop a.toNat) := by simp [lst, List.map_drop, List.map_take]
@[simp] theorem lst_app : AV.app i (lst j enc l) (lst m enc l') = lst i enc (l ++ l') := by simp [lst]
theorem lst_app_sl {M : List (List AV)} : AV.app i (lst j enc l) (.sl m M) = .sl i (l.map enc ++ M) := rfl
@[simp] theorem lst_nil : lst s enc [] = .sl s [] := rfl
@[simp] theorem lst_fnil : fNil (lst s enc l) F G ↔ (l = [] → F) ∧ G := by unfold lst; simp
theorem lst_at {n : Nat} (h : l[n]? = some x) : AV.at (lst s enc l) (.lit (.int k (n : Nat))) j = (enc x).getD j default := by
  simp [lst, gt2, List.getD_eq_getElem?_getD, h]
theorem lst_atAgg {n : Nat} (h : l[n]? = some x) : AV.atAgg (lst s enc l) (.lit (.int k (n : Nat))) j m = .agg (((enc x).drop j).take m) := by
  simp [lst, AV.atAgg, List.getD_eq_getElem?_getD, h]
theorem lst_atI (hn : 0 ≤ n) (h : l[n.toNat]? = some x) : AV.at (lst s enc l) (.lit (.int k n)) j = (enc x).getD j default := by
  simp [lst, gt2, List.getD_eq_getElem?_getD, h]
theorem lst_atAggI (hn : 0 ≤ n) (h : l[n.toNat]? = some x) : AV.atAgg (lst s enc l) (.lit (.int k n)) j m = .agg (((enc x).drop j).take m) := by
  simp [lst, AV.atAgg, List.getD_eq_getElem?_getD, h]
theorem lst_flatS (h : ∀ x ∈ l, ∀ z ∈ enc x, z.flat) : (lst s enc l).flatS := by
  intro y hy z hz
  simp only [lst_els, List.mem_map] at hy
  obtain ⟨x, hx, rfl⟩ := hy
  exact h x hx z hz
theorem lst_setEl {n : Nat} {x' : α} {cs : List AV} (h : l[n]? = some x) (he : (enc x).take j ++ cs ++ (enc x).drop (j + cs.length) = enc x') : AV.setEl (lst s enc l) (.lit (.int k (n : Nat))) j cs = lst s enc (l.set n x') := by
  simp only [lst, AV.setEl, av_num, Int.toNat_natCast]
  congr 1
  rw [List.map_set, ← he]
  simp [List.getD_eq_getElem?_getD, h]
theorem lst_snoc : AV.sl s (l.map enc ++ [enc x]) = lst s enc (l ++ [x]) := by simp [lst]
end
/-- **A loop over a list** that it reads from its head on. -/
theorem loop_list {α σ : Type} {i : Nat} (l : List α) (enc : Nat → σ → List AV) (G : Nat → List α → σ → Prop) {xs : List AV} {body : List AV → (List AV → Prop) → Prop} (s0 : σ) (h0 : xs = enc 0 s0) (hG : G 0 l s0)
    (hstep : ∀ n x rest s (K : List AV → Prop), l[n]? = some x → l.drop (n + 1) = rest → n < l.length → G n (x :: rest) s → (∀ zs s', zs = enc (n + 1) s' → G (n + 1) rest s' → K zs) → body (enc n s) K)
    (hend : ∀ s (K : List AV → Prop), G l.length [] s → body (enc l.length s) K) : fLoop i xs body := by
  subst h0
  refine ⟨fun m ys => ∃ n s, ys = enc n s ∧ n ≤ l.length ∧ m = l.length - n ∧ G n (l.drop n) s, l.length, ⟨0, s0, rfl, Nat.zero_le _, rfl, hG⟩, ?_⟩
  rintro m ys _ ⟨n, s, rfl, hn, rfl, hg⟩
  rcases Nat.lt_or_ge n l.length with h | h
  · rw [List.drop_eq_getElem_cons h] at hg
    refine hstep n l[n] (l.drop (n + 1)) s _ (List.getElem?_eq_getElem h) rfl h hg ?_
    rintro zs s' rfl hg'
    exact ⟨l.length - (n + 1), by omega, n + 1, s', rfl, h, rfl, hg'⟩
  · obtain rfl : n = l.length := by omega
    rw [List.drop_length] at hg
    exact hend s _ hg
/-- The same, from some element on. -/
theorem loop_from {α σ : Type} {i : Nat} (l : List α) (n0 : Nat) (hn0 : n0 ≤ l.length) (enc : Nat → σ → List AV) (G : Nat → List α → σ → Prop) {xs : List AV} {body : List AV → (List AV → Prop) → Prop} (s0 : σ) (h0 : xs = enc n0 s0) (hG : G n0 (l.drop n0) s0)
    (hstep : ∀ n x rest s (K : List AV → Prop), n0 ≤ n → l[n]? = some x → l.drop (n + 1) = rest → n < l.length → G n (x :: rest) s → (∀ zs s', zs = enc (n + 1) s' → G (n + 1) rest s' → K zs) → body (enc n s) K)
    (hend : ∀ s (K : List AV → Prop), G l.length [] s → body (enc l.length s) K) : fLoop i xs body := by
  subst h0
  refine ⟨fun m ys => ∃ n s, ys = enc n s ∧ n0 ≤ n ∧ n ≤ l.length ∧ m = l.length - n ∧ G n (l.drop n) s, l.length - n0, ⟨n0, s0, rfl, Nat.le_refl _, hn0, rfl, hG⟩, ?_⟩
  rintro m ys _ ⟨n, s, rfl, hnn, hn, rfl, hg⟩
  rcases Nat.lt_or_ge n l.length with h | h
  · rw [List.drop_eq_getElem_cons h] at hg
    refine hstep n l[n] (l.drop (n + 1)) s _ hnn (List.getElem?_eq_getElem h) rfl h hg ?_
    rintro zs s' rfl hg'
    exact ⟨l.length - (n + 1), by omega, n + 1, s', rfl, by omega, h, rfl, hg'⟩
  · obtain rfl : n = l.length := by omega
    rw [List.drop_length] at hg
    exact hend s _ hg
/-- A loop that counts to a bound. -/
theorem loop_nat {σ : Type} {i : Nat} (N : Nat) (enc : Nat → σ → List AV) (G : Nat → σ → Prop) {xs : List AV} {body : List AV → (List AV → Prop) → Prop} (s0 : σ) (h0 : xs = enc 0 s0) (hG : G 0 s0)
    (hstep : ∀ n s (K : List AV → Prop), n < N → G n s → (∀ zs s', zs = enc (n + 1) s' → G (n + 1) s' → K zs) → body (enc n s) K)
    (hend : ∀ s (K : List AV → Prop), G N s → body (enc N s) K) : fLoop i xs body := by
  subst h0
  refine ⟨fun m ys => ∃ n s, ys = enc n s ∧ n ≤ N ∧ m = N - n ∧ G n s, N, ⟨0, s0, rfl, Nat.zero_le _, rfl, hG⟩, ?_⟩
  rintro m ys _ ⟨n, s, rfl, hn, rfl, hg⟩
  rcases Nat.lt_or_ge n N with h | h
  · refine hstep n s _ h hg ?_
    rintro zs s' rfl hg'
    exact ⟨N - (n + 1), by omega, n + 1, s', rfl, h, rfl, hg'⟩
  · obtain rfl : n = N := by omega
    exact hend s _ hg
/-- Strings. -/
theorem bytes_eq {a b : ByteArray} : (a.toList == b.toList) = decide (a = b) := by
  by_cases h : a = b
  · subst h; simp
  · rw [decide_eq_false h]
    simp only [beq_eq_false_iff_ne, ne_eq]
    intro e
    apply h
    rw [ByteArray.toList_eq, ByteArray.toList_eq] at e
    exact ByteArray.ext (Array.toList_inj.1 e)
theorem less_eq : ∀ (x y : List UInt8), Op.bytesLess x y = decide (x < y)
  | [], [] => by simp [Op.bytesLess]
  | _ :: _, [] => by simp [Op.bytesLess]
  | [], _ :: _ => by simp [Op.bytesLess]
  | a :: x, b :: y => by
    rw [Op.bytesLess, less_eq x y]
    simp only [List.cons_lt_cons_iff]
    by_cases h1 : a < b <;> by_cases h2 : a = b <;> by_cases h3 : x < y <;> simp [h1, h2, h3]
section
variable {a b : ByteArray}
@[simp] theorem av_eql_str : AV.bin .eql (.lit (.string a)) (.lit (.string b)) = .lit (.bool (decide (a = b))) := by
  show AV.bool (a.toList == b.toList) = _; rw [bytes_eq]
@[simp] theorem av_neq_str : AV.bin .neq (.lit (.string a)) (.lit (.string b)) = .lit (.bool (!decide (a = b))) := by
  show AV.bool (!(a.toList == b.toList)) = _; rw [bytes_eq]
@[simp] theorem av_binOk_eqs : AV.binOk .eql (.lit (.string a)) (.lit (.string b)) ↔ True := Iff.rfl
@[simp] theorem av_binOk_nes : AV.binOk .neq (.lit (.string a)) (.lit (.string b)) ↔ True := Iff.rfl
@[simp] theorem av_binOk_lss : AV.binOk .lss (.lit (.string a)) (.lit (.string b)) ↔ True := Iff.rfl
@[simp] theorem av_binOk_leqs : AV.binOk .leq (.lit (.string a)) (.lit (.string b)) ↔ True := Iff.rfl
@[simp] theorem av_binOk_gts : AV.binOk .gtr (.lit (.string a)) (.lit (.string b)) ↔ True := Iff.rfl
@[simp] theorem av_binOk_ges : AV.binOk .geq (.lit (.string a)) (.lit (.string b)) ↔ True := Iff.rfl
/-- The order of strings: that of their bytes. -/
def key (a : ByteArray) : List UInt8 := a.data.toList
theorem key_inj (h : key a = key b) : a = b := ByteArray.ext (Array.toList_inj.1 h)
theorem lsle_eq : (Op.bytesLess a.toList b.toList || a.toList == b.toList) = decide (key a ≤ key b) := by
  rw [less_eq, ByteArray.toList_eq, ByteArray.toList_eq]
  unfold key
  by_cases h : a.data.toList ≤ b.data.toList
  · rw [decide_eq_true h]
    by_cases h2 : a.data.toList < b.data.toList
    · simp [h2]
    · have : a.data.toList = b.data.toList := List.le_antisymm h (List.not_lt.1 h2)
      simp [this]
  · rw [decide_eq_false h]
    have h3 := List.not_le.1 h
    have h4 : ¬ a.data.toList < b.data.toList := List.not_lt.2 (List.le_of_lt h3)
    have h5 : a.data.toList ≠ b.data.toList := fun e => h (by rw [e]; exact List.le_refl _)
    rw [decide_eq_false h4, Bool.false_or]
    exact beq_eq_false_iff_ne.2 h5
@[simp] theorem av_lss_str : AV.bin .lss (.lit (.string a)) (.lit (.string b)) = .lit (.bool (decide (key a < key b))) := by
  show AV.bool (Op.bytesLess a.toList b.toList) = _; rw [less_eq, ByteArray.toList_eq, ByteArray.toList_eq]; rfl
@[simp] theorem av_leq_str : AV.bin .leq (.lit (.string a)) (.lit (.string b)) = .lit (.bool (decide (key a ≤ key b))) := by
  show AV.bool (Op.bytesLess a.toList b.toList || a.toList == b.toList) = _; rw [lsle_eq]
@[simp] theorem av_gtr_str : AV.bin .gtr (.lit (.string a)) (.lit (.string b)) = .lit (.bool (!decide (key a ≤ key b))) := by
  show AV.bool (!(Op.bytesLess a.toList b.toList || a.toList == b.toList)) = _; rw [lsle_eq]
@[simp] theorem av_geq_str : AV.bin .geq (.lit (.string a)) (.lit (.string b)) = .lit (.bool (!decide (key a < key b))) := by
  show AV.bool (!Op.bytesLess a.toList b.toList) = _; rw [less_eq, ByteArray.toList_eq, ByteArray.toList_eq]; rfl
@[simp] theorem av_un_not {p : Bool} : AV.un .not (.lit (.bool p)) = .lit (.bool (!p)) := rfl
@[simp] theorem av_unOk_not {p : Bool} : AV.unOk .not (.lit (.bool p)) ↔ True := Iff.rfl
@[simp] theorem av_un_neg {k : IntKind} {n : Int} : AV.un .neg (.lit (.int k n)) = .lit (.int k (k.wrap (0 - n))) := rfl
@[simp] theorem av_unOk_neg {k : IntKind} {n : Int} : AV.unOk .neg (.lit (.int k n)) ↔ True := Iff.rfl
@[simp] theorem av_eqB {p q : Bool} : AV.eqB (.lit (.bool p)) (.lit (.bool q)) = .lit (.bool (p == q)) := rfl
@[simp] theorem av_neB {p q : Bool} : AV.neB (.lit (.bool p)) (.lit (.bool q)) = .lit (.bool (!(p == q))) := rfl
@[simp] theorem av_binOk_adds : AV.binOk .add (.lit (.string a)) (.lit (.string b)) ↔ ((a.size + b.size : Nat) : Int) ≤ 9223372036854775807 := Iff.rfl
@[simp] theorem av_adds : AV.bin .add (.lit (.string a)) (.lit (.string b)) = .lit (.string (a ++ b)) := rfl
@[simp] theorem av_eqc_int {k k' : IntKind} {m n : Int} : AV.eqc (.lit (.int k m)) (.lit (.int k' n)) = (m == n) := rfl
@[simp] theorem av_eqc_bool {p q : Bool} : AV.eqc (.lit (.bool p)) (.lit (.bool q)) = (p == q) := rfl
@[simp] theorem av_eqc_str : AV.eqc (.lit (.string a)) (.lit (.string b)) = decide (a = b) := bytes_eq
@[simp] theorem av_okA_int {k k' : IntKind} {n : Int} : okA (.int k) (.lit (.int k' n)) ↔ k' = k := ⟨fun ⟨_, e⟩ => by injection e with e; injection e, fun e => by subst e; exact ⟨_, rfl⟩⟩
@[simp] theorem av_okA_str : okA .str (.lit (.string a)) ↔ True := ⟨fun _ => trivial, fun _ => ⟨_, rfl⟩⟩
@[simp] theorem av_okA_bool {p : Bool} : okA .bool (.lit (.bool p)) ↔ True := ⟨fun _ => trivial, fun _ => ⟨_, rfl⟩⟩
end
@[simp] theorem av_mkRef {cs : List AV} : AV.mkRef cs = .ref cs := rfl
@[simp] theorem av_mkClo {f : FuncId} {cs : List AV} : AV.mkClo f cs = .clo f cs := rfl
@[simp] theorem av_isRef {cs : List AV} {m : Nat} : AV.isRef (.ref cs) m ↔ cs.length = m := ⟨fun ⟨_, e, h⟩ => by injection e with e; rw [e]; exact h, fun h => ⟨cs, rfl, h⟩⟩
@[simp] theorem av_der {x : AV} {cs : List AV} : AV.der (.ref (x :: cs)) = x := rfl
@[simp] theorem av_derA {cs : List AV} : AV.derA (.ref cs) = .agg cs := rfl
/-- The first place at which p holds; -1: none. -/
def idxN {α : Type} (p : α → Bool) : Nat → List α → Int
  | _, [] => -1
  | n, x :: r => if p x = true then (n : Int) else idxN p (n + 1) r
theorem idxN_spec {α : Type} (p : α → Bool) : ∀ (l : List α) (n : Nat), (idxN p n l = -1 ∧ ∀ x ∈ l, p x = false) ∨ ∃ i x, idxN p n l = ((n + i : Nat) : Int) ∧ l[i]? = some x ∧ p x = true
  | [], n => .inl ⟨rfl, fun x h => by simp at h⟩
  | x :: r, n => by
    by_cases h : p x = true
    · exact .inr ⟨0, x, by simp [idxN, h], rfl, h⟩
    · have h' : p x = false := by simpa using h
      rcases idxN_spec p r (n + 1) with ⟨h1, h2⟩ | ⟨i, y, h1, h2, h3⟩
      · exact .inl ⟨by simp [idxN, h', h1], fun z hz => (List.mem_cons.1 hz).elim (fun e => e ▸ h') (fun hz => h2 z hz)⟩
      · exact .inr ⟨i + 1, y, by simp only [idxN, h', Bool.false_eq_true, if_false, h1]; congr 1; omega, by simpa using h2, h3⟩
theorem idxN_any {α : Type} (p : α → Bool) (l : List α) (n : Nat) : (0 ≤ idxN p n l) ↔ l.any p = true := by
  rcases idxN_spec p l n with ⟨h1, h2⟩ | ⟨i, x, h1, h2, h3⟩
  · rw [h1]
    refine ⟨fun h => absurd h (by omega), fun h => ?_⟩
    obtain ⟨x, hx, hp⟩ := List.any_eq_true.1 h
    rw [h2 x hx] at hp; cases hp
  · rw [h1]
    exact ⟨fun _ => List.any_eq_true.2 ⟨x, List.mem_of_getElem? h2, h3⟩, fun _ => by omega⟩
/-- slices.Equal's loop. -/
theorem equal_loop {α : Type} [DecidableEq α] {i : Nat} (l m : List α) (hlen : l.length = m.length) {body : List AV → (List AV → Prop) → Prop} {r : AV} (hr : r = .bool (decide (l = m)))
    (hbody : ∀ (n : Nat) x y (K : List AV → Prop), l[n]? = some x → m[n]? = some y → n < l.length → (x ≠ y → r = .bool false) → (x = y → K [.int ((n : Nat) + 1)]) → body [.int (n : Nat)] K)
    (hend : ∀ K, r = .bool true → body [.int (l.length : Nat)] K) : fLoop i [.int 0] body := by
  refine loop_nat (σ := Unit) l.length (fun n _ => [.int (n : Nat)]) (fun n _ => l.take n = m.take n) () rfl (by simp) ?_ ?_
  · intro n _ K hn hg hK
    have hm : n < m.length := by omega
    refine hbody n l[n] m[n] K (List.getElem?_eq_getElem hn) (List.getElem?_eq_getElem hm) hn (fun hne => ?_) (fun e => ?_)
    · rw [hr, decide_eq_false]
      rintro rfl
      exact hne rfl
    · refine hK _ () (by simp) ?_
      rw [← List.take_append_getElem hn, ← List.take_append_getElem hm, hg, e]
  · intro _ K hg
    refine hend K ?_
    rw [hr, decide_eq_true]
    rw [List.take_length, hlen, List.take_length] at hg
    exact hg
/-- A nil slice that is not named by its type. -/
inductive NL : AV → AV → Prop
  | refl (x : AV) : NL x x
  | nil (s : Nat) : NL (.lit (.slice none 0 0)) (.sl s [])
  | agg (cs ds : List AV) (h : cs.length = ds.length) (hi : ∀ i, i < cs.length → NL (cs.getD i default) (ds.getD i default)) : NL (.agg cs) (.agg ds)
theorem NL.rv {w : World} {ok : Nat → Prop} {x y : AV} {v : Value} (h : NL x y) (hv : RV w ok x v) : RV w ok y v := by
  induction h generalizing v with
  | refl x => exact hv
  | nil s => cases hv; exact .sl s [] none 0 0 (fun _ _ => undef) rfl (Nat.le_refl _) (by unfold maxLen; omega) (by simp) (fun q => absurd q (by omega)) (fun i j hi => absurd hi (by omega)) (fun i j hi => absurd hi (by omega))
  | agg cs ds h hi ih =>
    cases hv with
    | agg _ vs h1 h2 h3 => exact .agg ds vs (h1.trans h) (fun i q => h2 i (h ▸ q)) fun i q => ih i (h ▸ q) (h3 i (h ▸ q))
inductive NLs : List AV → List AV → Prop
  | nil : NLs [] []
  | cons {x y : AV} {l m : List AV} (h : NL x y) (t : NLs l m) : NLs (x :: l) (y :: m)
theorem NLs.get {l m : List AV} (h : NLs l m) : l.length = m.length ∧ ∀ i, i < l.length → NL (l.getD i default) (m.getD i default) := by
  induction h with
  | nil => exact ⟨rfl, fun i h => absurd h (by simp)⟩
  | cons h t ih =>
    refine ⟨by simp [ih.1], fun i hi => ?_⟩
    cases i with
    | zero => exact h
    | succ i => simpa using ih.2 i (by simpa using hi)
theorem NL.aggs {l m : List AV} (h : NLs l m) : NL (.agg l) (.agg m) := .agg _ _ h.get.1 h.get.2
theorem Fn.nl {P : Program} {f : FuncId} {args args' : List AV} {sh : Sh} {r : AV} (h : Fn P f args sh r) (hn : NLs args' args) : Fn P f args' sh r :=
  ⟨h.1, fun w ok cargs h1 hgl h2 h3 => h.2 w ok cargs h1 hgl (h2.trans hn.get.1) fun i hi => (hn.get.2 i (hn.get.1 ▸ hi)).rv (h3 i (hn.get.1 ▸ hi))⟩
end Go.Proofs.Ytfdpbfdhcngfgaa
