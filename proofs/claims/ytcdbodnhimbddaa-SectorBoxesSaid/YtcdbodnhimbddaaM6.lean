/- Texts of one proof, part 6: plain values, a run over them, contracts of functions. -/
import Derived.Test.YtcdbodnhimbddaaM5
import Derived.Test.YtcdbodnhimbddaaM3
import Derived.Test.YtcdbodnhimbddaaM4
/- sectors: the laws. -/
namespace Go.Proofs.Ytcdbodnhimbddaa
open Go.RowKit
set_option linter.unusedVariables false
set_option linter.unusedSimpArgs false
set_option maxRecDepth 100000
theorem checks_all (l : List Se) (s : ByteArray) : Fn Try.prog 3 [ses l, .string s] .sc (.bool true) := by
  have e := SecF.checks_form (ses l) (.string s) (.bool true)
  have k := fun h => fn_run mixed 3 (Γ := SecF.Γ) (ann := SecF.ann) Try.func3 rfl Try.call3 (e.mpr h)
  refine k ?_
  clear k e
  refine ⟨_, fact_fn, by simp, by simp, _, scheck_fn l, _, serr_fn l, ?_⟩
  simp
  exact ⟨_, sname_fn s, _, isname_fn s, by simp⟩
theorem bx_ok {b : Bx} (h1 : pE b.f = 0) (h2 : pE b.t = 0) : (¬ (b.f.x < b.t.x ∧ b.f.y < b.t.y ∧ 0 ≤ b.lo ∧ b.lo < b.hi ∧ b.hi ≤ 60001) → bxE b = 4) ∧ ((b.f.x < b.t.x ∧ b.f.y < b.t.y ∧ 0 ≤ b.lo ∧ b.lo < b.hi ∧ b.hi ≤ 60001) → bxE b = 0) := by
  unfold bxE
  rw [if_neg (by simp [h1]), if_neg (by simp [h2])]
  exact ⟨fun h => if_neg h, fun h => if_pos h⟩
theorem boxes_all (b : Bx) : Fn Try.prog 4 [bx b] .sc (.bool true) := by
  have e := SecF.boxes_form (bx b) (.bool true)
  have k := fun h => fn_run mixed 3 (Γ := SecF.Γ) (ann := SecF.ann) Try.func4 rfl Try.call4 (e.mpr h)
  refine k ?_
  clear k e
  have hb := box_fn b
  have hf := pe_fn b.f
  have ht := pe_fn b.t
  have n1 : pE b.f ≠ 0 → bxE b = pE b.f := fun h => by unfold bxE; rw [if_pos h]
  have n2 : pE b.f = 0 → pE b.t ≠ 0 → bxE b = pE b.t := fun h h2 => by unfold bxE; rw [if_neg (by simp [h]), if_pos h2]
  have n3 := fun h1 h2 => (bx_ok (b := b) h1 h2).1
  have n4 := fun h1 h2 => (bx_ok (b := b) h1 h2).2
  generalize bxE b = E at *
  obtain ⟨⟨fx, fy⟩, ⟨tx, ty⟩, lo, hi⟩ := b
  simp only at hf ht n1 n2 n3 n4
  generalize pE ⟨fx, fy⟩ = e1 at *
  generalize pE ⟨tx, ty⟩ = e2 at *
  refine ⟨by simp [encX], _, fact_fn, by simp, by simp, by simp, _, hf, ?_⟩
  simp
  refine ⟨fun h1 => ⟨_, ht, ?_⟩, fun h1 => ⟨h1, _, hb, ?_⟩⟩
  · simp
    refine ⟨fun h2 => ?_, fun h2 => ⟨h2, _, hb, ?_⟩⟩
    · replace n3 := n3 h1 h2
      replace n4 := n4 h1 h2
      have hN : E = 4 → ∃ r, Fn Try.prog 13 [.agg [.int fx, .int fy, .int tx, .int ty, .int lo, .int hi]] .sc r ∧ AV.binOk .eql r (.int 4) ∧ (AV.bin .eql r (.int 4)).flat ∧ AV.bin .eql r (.int 4) = .bool true := fun z => ⟨_, hb, by rw [z]; simp⟩
      have hN0 : E = 0 → ∃ r, Fn Try.prog 13 [.agg [.int fx, .int fy, .int tx, .int ty, .int lo, .int hi]] .sc r ∧ AV.binOk .eql r (.int e2) ∧ (AV.bin .eql r (.int e2)).flat ∧ AV.bin .eql r (.int e2) = .bool true := fun z => ⟨_, hb, by rw [z, h2]; simp⟩
      simp [encX]
      exact ⟨fun a => ⟨a, fun b => ⟨b, fun c => ⟨c, fun d => ⟨d, h2, fun e => hN (n3 (by omega)), fun e => hN0 (n4 (by omega))⟩, fun d => ⟨d, h2, hN (n3 (by omega))⟩⟩, fun c => ⟨c, h2, hN (n3 (by omega))⟩⟩, fun b => ⟨b, h2, hN (n3 (by omega))⟩⟩, fun a => ⟨a, h2, hN (n3 (by omega))⟩⟩
    · have := n2 h1 h2
      simp [this]
  · have := n1 h1
    simp [this]
theorem finds_all (l : List Se) (q : Pt) (h : Int) : Fn Try.prog 5 [ses l, pt q, .int h] .sc (.bool true) := by
  have e := SecF.finds_form (ses l) (pt q) (.int h) (.bool true)
  have k := fun h => fn_run mixed 3 (Γ := SecF.Γ) (ann := SecF.ann) Try.func5 rfl Try.call5 (e.mpr h)
  refine k ?_
  clear k e
  have hfd := find_fn l q h
  have hs := serr_fn l
  obtain ⟨E, hE⟩ : ∃ E, E = fndE l q h := ⟨_, rfl⟩
  have hV : fndV l q h = .tup [.int (if E = 0 then plc l q h else 0), .int E] := by rw [hE]; rfl
  rw [hV] at hfd
  unfold fndE at hE
  have hpe := pe_fn q
  have hpl : chkS l = 0 → pE q = 0 → 0 ≤ h → h ≤ 60000 → Fn Try.prog 15 [ses l, pt q, .int h] .sc (.int (plc l q h)) := fun z1 z2 z3 z4 => lplace_fn l q h (chkS_ok z1) z2 z3 z4
  have c1 : chkS l ≠ 0 → E = chkS l := fun z => by rw [hE, if_pos z]
  have c2 : chkS l = 0 → pE q ≠ 0 → E = pE q := fun z z2 => by rw [hE, if_neg (by simp [z]), if_pos z2]
  have c3 : chkS l = 0 → pE q = 0 → (h < 0 ∨ h > 60000) → E = 4 := fun z z2 z3 => by rw [hE, if_neg (by simp [z]), if_neg (by simp [z2]), if_pos z3]
  have c4 : chkS l = 0 → pE q = 0 → ¬ (h < 0 ∨ h > 60000) → plc l q h < 0 → E = 8 := fun z z2 z3 z4 => by rw [hE, if_neg (by simp [z]), if_neg (by simp [z2]), if_neg z3, if_pos z4]
  have c5 : chkS l = 0 → pE q = 0 → ¬ (h < 0 ∨ h > 60000) → ¬ plc l q h < 0 → E = 0 := fun z z2 z3 z4 => by rw [hE, if_neg (by simp [z]), if_neg (by simp [z2]), if_neg z3, if_neg z4]
  clear hE hV
  generalize plc l q h = p at *
  generalize chkS l = c at *
  generalize pE q = e at *
  obtain ⟨qx, qy⟩ := q
  refine ⟨by simp [encP], _, fact_fn, by simp, by simp, by simp, _, hfd, _, hs, ?_⟩
  simp
  refine ⟨fun z => ⟨_, hpe, ?_⟩, fun z => ⟨z, ?_⟩⟩
  · simp
    refine ⟨fun z2 => ⟨fun y => ⟨y, z2, ?_⟩, fun y => ⟨y, z2, fun y2 => ?_, fun y2 => ⟨z2, _, hpl z z2 y y2, ?_⟩⟩⟩, fun z2 => ⟨z2, ?_⟩⟩
    · have := c3 z z2 (by omega)
      simp [this]
    · have := c3 z z2 (by omega)
      simp [this]
    · simp
      refine ⟨fun y3 => ?_, fun y3 => ?_⟩
      · have := c4 z z2 (by omega) y3
        simp [this]
      · have := c5 z z2 (by omega) (by omega)
        simp [this, z2]
    · have := c2 z z2
      simp [this, z2]
  · have := c1 z
    simp [this, z]
end Go.Proofs.Ytcdbodnhimbddaa
/- Arguments of plain types, opened. -/
namespace Go.Proofs.Ytcdbodnhimbddaa
open Go.RowKit
set_option linter.unusedVariables false
def I64 (n : Int) : Prop := -9223372036854775808 ≤ n ∧ n ≤ 9223372036854775807
theorem i64_of {n : Int} (h : (Lit.int .i64 n).wf = true) : I64 n := by
  have h' : (IntKind.i64.min ≤ n && n ≤ IntKind.i64.max) = true := h
  simp only [Bool.and_eq_true, decide_eq_true_eq] at h'
  have e1 : IntKind.i64.min = -9223372036854775808 := by decide
  have e2 : IntKind.i64.max = 9223372036854775807 := by decide
  rw [e1, e2] at h'
  exact h'
section
variable {P : Program} {u e : TypeId} {x : AV} {d : Nat}
theorem c_int (hu : P.underlying u = some (.int .i64)) (h : CellOk P (d + 1) u x) : ∃ n, x = .int n ∧ I64 n := by
  obtain ⟨n, e, hw⟩ := cell_int hu h
  exact ⟨n, e, i64_of hw⟩
theorem c_str (hu : P.underlying u = some .string) (h : CellOk P (d + 1) u x) : ∃ s : ByteArray, x = .string s ∧ s.size ≤ maxLen := cell_str hu h
theorem c_bool (hu : P.underlying u = some .bool) (h : CellOk P (d + 1) u x) : ∃ b, x = .bool b := cell_bool hu h
/-- A slice whose elements are read by 'encA'. -/
theorem c_lst {α : Type} {encA : α → List AV} {Q : α → Prop} {tys : List TypeId} {s : Nat} (hu : P.underlying u = some (.slice e)) (ht : flatTy P 8 e = some tys) (hs : P.cellsOf e = s)
    (hd : ∀ y : List AV, y.length = tys.length → (∀ i u', tys[i]? = some u' → CellOk P d u' (y.getD i default)) → ∃ a, y = encA a ∧ Q a) (h : CellOk P (d + 1) u x) : ∃ l : List α, x = lst s encA l ∧ l.length ≤ maxLen ∧ ∀ a ∈ l, Q a := by
  obtain ⟨L, e1, h1, h2⟩ := cell_sl hu ht hs h
  obtain ⟨l, e2, h3⟩ := list_dec (L := L) (encA := encA) (Q := Q) fun y hy => hd y (h2 y hy).1 (h2 y hy).2
  subst e2
  exact ⟨l, e1, by simpa using h1, h3⟩
end
end Go.Proofs.Ytcdbodnhimbddaa
/- sectors: the laws at their arguments. -/
namespace Go.Proofs.Ytcdbodnhimbddaa
open Go.RowKit
set_option linter.unusedVariables false
set_option linter.unusedSimpArgs false
set_option maxRecDepth 100000
theorem of1 {α : Type} {l : List α} (h : l.length = 1) : ∃ a, l = [a] := by
  match l, h with
  | [a], _ => exact ⟨a, rfl⟩
theorem of2 {α : Type} {l : List α} (h : l.length = 2) : ∃ a b, l = [a, b] := by
  match l, h with
  | [a, b], _ => exact ⟨a, b, rfl⟩
theorem of3 {α : Type} {l : List α} (h : l.length = 3) : ∃ a b c, l = [a, b, c] := by
  match l, h with
  | [a, b, c], _ => exact ⟨a, b, c, rfl⟩
theorem of4 {α : Type} {l : List α} (h : l.length = 4) : ∃ a b c d, l = [a, b, c, d] := by
  match l, h with
  | [a, b, c, d], _ => exact ⟨a, b, c, d, rfl⟩
theorem of6 {α : Type} {l : List α} (h : l.length = 6) : ∃ a b c d e f, l = [a, b, c, d, e, f] := by
  match l, h with
  | [a, b, c, d, e, f], _ => exact ⟨a, b, c, d, e, f, rfl⟩
theorem arg_intT {x : AV} (h : ArgOk Try.prog 3 x) : ∃ n, x = .int n ∧ I64 n := c_int (by kernel_rfl) (arg_cell (by kernel_rfl) h)
theorem arg_strT {x : AV} (h : ArgOk Try.prog 9 x) : ∃ s : ByteArray, x = .string s ∧ s.size ≤ maxLen := c_str (by kernel_rfl) (arg_cell (by kernel_rfl) h)
theorem arg_pt {x : AV} (h : ArgOk Try.prog 29 x) : ∃ q, x = pt q := by
  obtain ⟨cs, rfl, hl, hc⟩ := arg_agg (P := Try.prog) (t := 29) (tys := [3, 3]) (by kernel_rfl) (by kernel_rfl) h
  obtain ⟨a, b, rfl⟩ := of2 hl
  obtain ⟨s1, e1, _⟩ := c_int (by kernel_rfl) (hc 0 3 rfl)
  obtain ⟨s2, e2, _⟩ := c_int (by kernel_rfl) (hc 1 3 rfl)
  simp at e1 e2
  exact ⟨⟨s1, s2⟩, by rw [e1, e2]; rfl⟩
theorem arg_bx {x : AV} (h : ArgOk Try.prog 31 x) : ∃ q, x = bx q := by
  obtain ⟨cs, rfl, hl, hc⟩ := arg_agg (P := Try.prog) (t := 31) (tys := [3, 3, 3, 3, 3, 3]) (by kernel_rfl) (by kernel_rfl) h
  obtain ⟨a, b, c, d, e, f, rfl⟩ := of6 hl
  obtain ⟨s1, e1, _⟩ := c_int (by kernel_rfl) (hc 0 3 rfl)
  obtain ⟨s2, e2, _⟩ := c_int (by kernel_rfl) (hc 1 3 rfl)
  obtain ⟨s3, e3, _⟩ := c_int (by kernel_rfl) (hc 2 3 rfl)
  obtain ⟨s4, e4, _⟩ := c_int (by kernel_rfl) (hc 3 3 rfl)
  obtain ⟨s5, e5, _⟩ := c_int (by kernel_rfl) (hc 4 3 rfl)
  obtain ⟨s6, e6, _⟩ := c_int (by kernel_rfl) (hc 5 3 rfl)
  simp at e1 e2 e3 e4 e5 e6
  exact ⟨⟨⟨s1, s2⟩, ⟨s3, s4⟩, s5, s6⟩, by rw [e1, e2, e3, e4, e5, e6]; rfl⟩
theorem arg_tube {x : AV} (h : ArgOk Try.prog 40 x) : ∃ l, x = tube l ∧ l.length ≤ maxLen := by
  obtain ⟨l, e, h1, _⟩ := c_lst (P := Try.prog) (encA := encN) (Q := fun _ => True) (tys := [3, 3, 3, 3, 3, 3]) (s := 6) (e := 44) (by kernel_rfl) (by kernel_rfl) (by kernel_rfl) (fun y hy hc => by
    obtain ⟨a, b, c, d, e, f, rfl⟩ := of6 hy
    obtain ⟨s1, e1, _⟩ := c_int (by kernel_rfl) (hc 0 3 rfl)
    obtain ⟨s2, e2, _⟩ := c_int (by kernel_rfl) (hc 1 3 rfl)
    obtain ⟨s3, e3, _⟩ := c_int (by kernel_rfl) (hc 2 3 rfl)
    obtain ⟨s4, e4, _⟩ := c_int (by kernel_rfl) (hc 3 3 rfl)
    obtain ⟨s5, e5, _⟩ := c_int (by kernel_rfl) (hc 4 3 rfl)
    obtain ⟨s6, e6, _⟩ := c_int (by kernel_rfl) (hc 5 3 rfl)
    simp at e1 e2 e3 e4 e5 e6
    exact ⟨⟨s1, s2, s3, s4, s5, s6⟩, by rw [e1, e2, e3, e4, e5, e6]; rfl, trivial⟩) (arg_cell (by kernel_rfl) h)
  exact ⟨l, e, h1⟩
theorem arg_ses {x : AV} (h : ArgOk Try.prog 22 x) : ∃ l, x = ses l ∧ l.length ≤ maxLen := by
  obtain ⟨l, e, h1, _⟩ := c_lst (P := Try.prog) (encA := encE) (Q := fun _ => True) (tys := [9, 58]) (s := 2) (e := 60) (by kernel_rfl) (by kernel_rfl) (by kernel_rfl) (fun y hy hc => by
    obtain ⟨a, b, rfl⟩ := of2 hy
    obtain ⟨s1, e1, _⟩ := c_str (by kernel_rfl) (hc 0 9 rfl)
    obtain ⟨s2, e2, _, _⟩ := c_lst (P := Try.prog) (encA := encV) (Q := fun _ => True) (tys := [62, 3, 3]) (s := 3) (e := 64) (by kernel_rfl) (by kernel_rfl) (by kernel_rfl) (fun y hy hc => by
      obtain ⟨a, b, c, rfl⟩ := of3 hy
      obtain ⟨s1, e1, _, _⟩ := c_lst (P := Try.prog) (encA := encP) (Q := fun _ => True) (tys := [3, 3]) (s := 2) (e := 29) (by kernel_rfl) (by kernel_rfl) (by kernel_rfl) (fun y hy hc => by
        obtain ⟨a, b, rfl⟩ := of2 hy
        obtain ⟨s1, e1, _⟩ := c_int (by kernel_rfl) (hc 0 3 rfl)
        obtain ⟨s2, e2, _⟩ := c_int (by kernel_rfl) (hc 1 3 rfl)
        simp at e1 e2
        exact ⟨⟨s1, s2⟩, by rw [e1, e2]; rfl, trivial⟩) (hc 0 62 rfl)
      obtain ⟨s2, e2, _⟩ := c_int (by kernel_rfl) (hc 1 3 rfl)
      obtain ⟨s3, e3, _⟩ := c_int (by kernel_rfl) (hc 2 3 rfl)
      simp at e1 e2 e3
      exact ⟨⟨s1, s2, s3⟩, by rw [e1, e2, e3]; rfl, trivial⟩) (hc 1 58 rfl)
    simp at e1 e2
    exact ⟨⟨s1, s2⟩, by rw [e1, e2]; rfl, trivial⟩) (arg_cell (by kernel_rfl) h)
  exact ⟨l, e, h1⟩
theorem sectorChecks_all (xs : List AV) (h1 : xs.length = 2) (h2 : ∀ i, i < 2 → ArgOk Try.prog ([22, 9].getD i 0) (xs.getD i default)) : Fn Try.prog 3 xs .sc (.bool true) := by
  obtain ⟨a, b, rfl⟩ := of2 h1
  obtain ⟨l, e1, _⟩ := arg_ses (h2 0 (by omega))
  obtain ⟨s, e2, _⟩ := arg_strT (h2 1 (by omega))
  simp at e1 e2
  subst e1 e2
  exact checks_all l s
theorem sectorBoxes_all (xs : List AV) (h1 : xs.length = 1) (h2 : ∀ i, i < 1 → ArgOk Try.prog ([31].getD i 0) (xs.getD i default)) : Fn Try.prog 4 xs .sc (.bool true) := by
  obtain ⟨a, rfl⟩ := of1 h1
  obtain ⟨b, e1⟩ := arg_bx (h2 0 (by omega))
  simp at e1
  subst e1
  exact boxes_all b
theorem sectorFinds_all (xs : List AV) (h1 : xs.length = 3) (h2 : ∀ i, i < 3 → ArgOk Try.prog ([22, 29, 3].getD i 0) (xs.getD i default)) : Fn Try.prog 5 xs .sc (.bool true) := by
  obtain ⟨a, b, c, rfl⟩ := of3 h1
  obtain ⟨l, e1, _⟩ := arg_ses (h2 0 (by omega))
  obtain ⟨q, e2⟩ := arg_pt (h2 1 (by omega))
  obtain ⟨n, e3, _⟩ := arg_intT (h2 2 (by omega))
  simp at e1 e2 e3
  subst e1 e2 e3
  exact finds_all l q n
end Go.Proofs.Ytcdbodnhimbddaa
