/- slices.Insert at a row of the caller's own: what no program needs. -/
import Derived.Test.YtalfopommofdfaaDel
import Derived.Lib.JoinLaws
import Derived.Lib.AppendZerosOnto
import Derived.Laws.Externs
import Derived.Laws.IdiomCopy
import Derived.Laws.NewBlocks
namespace Go.Proofs.Ytalfopommofdfaa
open Go.RowKit Go.Lib
set_option linter.unusedVariables false
set_option linter.unusedSimpArgs false
section
variable {P : Program}
theorem wp_copy_run (w : World) {o : Oper} {a : Act} {K : Act → World → Prop} {Q : Exit → Act → World → Prop} (d s : Operand) (t t' : TypeId)
    (ho : o.op = .call { callee := .builtin .copy, args := #[d, s], argTypes := #[t, t'] }) (v u : Value) (hd : a.eval d = v) (hs : a.eval s = u) {v' : Value} {w' : World}
    (hr : (Builtin.copy_ #[t, t'] o.type #[v, u]).run P w = .ok v' w') (h : K (a.put o.dst v') w') : o.wp P a w K Q := by
  unfold Oper.wp execOp
  simp only [ho, resolve, invoke, builtin, Sem.run_bind, Sem.run_pure, Result.andThen_ok, List.map_toArray, List.map_cons, List.map_nil, hd, hs, hr]
  exact h
theorem wpList_copy_run (w : World) {ops : Array Oper} {rest : List Oper} {o : Oper} {a : Act} {Q : Exit → Act → World → Prop} (hgd : o.guard = none) (d s : Operand) (t t' : TypeId)
    (ho : o.op = .call { callee := .builtin .copy, args := #[d, s], argTypes := #[t, t'] }) (v u : Value) (hd : a.eval d = v) (hs : a.eval s = u) {v' : Value} {w' : World}
    (hr : (Builtin.copy_ #[t, t'] o.type #[v, u]).run P w = .ok v' w') (h : wpList P ops Q rest (a.put o.dst v') w') : wpList P ops Q (o :: rest) a w :=
  wpList_plain hgd fun _ hK => wp_copy_run w d s t t' ho v u hd hs hr (hK _ _ h)
theorem step_copy_run {ops : Array Oper} {o : Oper} {a : Act} {w : World} {K : Act → World → Prop} {Q : Exit → Act → World → Prop} {E : Prop}
    (hg : o.guard = none) (d x : Operand) (dT sT : TypeId) (hop : o.op = Op.call { callee := Callee.builtin Builtin.copy, args := #[d, x], argTypes := #[dT, sT] })
    (v u : Value) (hd : a.eval d = v) (hx : a.eval x = u) {v' : Value} {w' : World} (hr : (Builtin.copy_ #[dT, sT] o.type #[v, u]).run P w = .ok v' w') (hK : K (a.put o.dst v') w') :
    if Region.wanted o (yielded ops a.tmps) = true then Oper.wp P o a w K Q else E := by
  have hw : Region.wanted o (yielded ops a.tmps) = true := by simp [Region.wanted, hg]
  rw [if_pos hw]
  unfold Oper.wp
  simp [execOp, hop, resolve, invoke, builtin, hd, hx, hr, Result.andThen]
  exact hK
/-- 'copy' at elements of several cells. -/
theorem run_copy_s (w : World) (dT sT ty elem : TypeId) (s : Nat) (b o dLen dCap : Nat) (a : Addr) (sLen sCap : Nat) (cs : List Value) (n : Nat)
    (hu : P.underlying dT = some (.slice elem)) (hs : (P.info? elem).map (·.size) = some s) (hn : n = Nat.min sLen dLen) (hl : cs.length = n * s)
    (hsrc : ∀ j v, cs[j]? = some v → w.cell? (a.add j) = some v) (hc : ∀ j, j < cs.length → (w.cell? ⟨b, o + j, none⟩).isSome = true) (hf : ∀ j, j < cs.length → w.frozen? ⟨b, o + j, none⟩ = false) (h1 : ∀ v ∈ cs, v.oneCell' = true) :
    (Builtin.copy_ #[dT, sT] ty #[.slice (some ⟨b, o, none⟩) dLen dCap, .slice (some a) sLen sCap]).run P w = .ok (goInt n) (w.setCells b o cs) := by
  have hld := run_loadCells_list (P := P) w a cs hsrc
  rw [hl] at hld
  have hst := run_storeCells_cells (P := P) b o cs 0 w (by simpa using hc) (by simpa using hf) h1
  cases hq : P.info? elem with
  | none => simp [hq] at hs
  | some i =>
    have hi : i.size = s := by simpa [hq] using hs
    simp [Builtin.copy_, run_underlying hu, Builtin.lenOf, Builtin.firstCells, sizeOf, typeInfo, hq, hi, ← hn, hld, hst]
/-- slices.overlaps of what has cells and of a row of one's own. -/
theorem run_overlaps_own (w : World) (tS tR e : TypeId) (ht : P.underlying tS = some (.slice e)) (size : Nat) (hz : ∀ w, (Go.sizeOf e).run P w = .ok size w)
    (a b : Addr) (la ca lb cb : Nat) (hne : a.block ≠ b.block) (csA : Array Value) (tA : TypeId) (fz : Nat × Nat) (hA : w.heap[a.block]? = some (.cells csA tA fz)) (hA0 : csA.size ≠ 0)
    (csB : Array Value) (tB : TypeId) (hB : w.heap[b.block]? = some (.cells csB tB (0, 0))) :
    (Extern.SlicesOverlaps.overlaps #[tS, tS] #[tR] #[.slice (some a) la ca, .slice (some b) lb cb]).run P w = .ok (.bool false) w := by
  have hnb : (a.block != b.block) = true := by simpa using hne
  have hnb' : (a.block == b.block) = false := by simpa using hne
  have hfb : ∀ k, w.frozen? ⟨b.block, k, none⟩ = false := fun k => by simp [World.frozen?, hB]
  have hfb' : w.frozen? b = false := by simp [World.frozen?, hB]
  have hsa : w.shape? a.block = some (tA, csA.size) := by simp [World.shape?, hA]
  have hsb : w.shape? b.block = some (tB, csB.size) := by simp [World.shape?, hB]
  change Sem.run P (α := Value) (do
    let some t := (#[tS, tS] : Array TypeId)[0]? | stuck "slices.overlaps: no parameter types"
    let .slice elem ← underlying t | stuck "slices.overlaps: slice type expected"
    let size ← sizeOf elem
    match (some a : Option Addr), (some b : Option Addr) with
    | some a, some b =>
      if la = 0 ∨ lb = 0 ∨ size = 0 then pure (Value.bool false)
      else if a.block != b.block && (← frozen a) && (← frozen b) then unsupported .addressObserved
      else do
        if a.block != b.block then do
          noView a; noView b
          if ← mayBeOne a b then return Value.bool ((← choose (.extern "sameAddr.stringBytes" 2)) == 1)
        pure (Value.bool (a.block == b.block && a.off < b.off + lb * size && b.off < a.off + la * size))
    | _, _ => pure (Value.bool false)) w = _
  by_cases h0 : la = 0 ∨ lb = 0 ∨ size = 0
  · simp [run_underlying ht, hz, h0]
  · obtain ⟨k, hk⟩ : ∃ k, csA.size = k + 1 := ⟨csA.size - 1, by omega⟩
    rw [hk] at hsa
    cases hfa : w.frozen? a <;> cases hfe : w.frozen? { block := a.block, off := k + 1 } <;>
      simp [run_underlying ht, hz, h0, hnb, hnb', frozen, noView, viewAt, mayBeOne, stringish, shape, Sem.run, hsa, hsb, hfa, hfe, hfb, hfb']
end
/-! ### rows by parts -/
/-- The cells xs are those of the elements L. -/
structure CellsOf (w : World) (okc : Nat → Prop) (s : Nat) (L : List (List AV)) (xs : List Value) : Prop where
  len : xs.length = L.length * s
  each : ∀ y ∈ L, y.length = s
  one : ∀ u ∈ xs, u.oneCell' = true
  val : ∀ i j, i < L.length → j < s → RV w okc (gt2 L i j) (xs.getD (i * s + j) undef)
theorem CellsOf.app {w : World} {okc : Nat → Prop} {s : Nat} {L M : List (List AV)} {xs ys : List Value} (h : CellsOf w okc s L xs) (k : CellsOf w okc s M ys) : CellsOf w okc s (L ++ M) (xs ++ ys) := by
  refine ⟨by rw [List.length_append, List.length_append, h.len, k.len, Nat.add_mul], fun y hy => (List.mem_append.1 hy).elim (h.each y) (k.each y), fun u hu => (List.mem_append.1 hu).elim (h.one u) (k.one u), fun i j hi hj => ?_⟩
  rw [List.length_append] at hi
  by_cases hil : i < L.length
  · have e1 : gt2 (L ++ M) i j = gt2 L i j := by unfold gt2; simp [List.getElem?_append_left hil]
    have hlt : i * s + j < xs.length := by
      rw [h.len]
      have : (i + 1) * s ≤ L.length * s := Nat.mul_le_mul_right _ hil
      rw [Nat.add_mul] at this; omega
    have e2 : (xs ++ ys).getD (i * s + j) undef = xs.getD (i * s + j) undef := by simp [List.getElem?_append_left hlt]
    rw [e1, e2]; exact h.val i j hil hj
  · have hge : L.length ≤ i := by omega
    have e1 : gt2 (L ++ M) i j = gt2 M (i - L.length) j := by unfold gt2; simp [List.getElem?_append_right hge]
    have hge2 : xs.length ≤ i * s + j := by rw [h.len]; have : L.length * s ≤ i * s := Nat.mul_le_mul_right _ hge; omega
    have e3 : i * s + j - xs.length = (i - L.length) * s + j := by rw [h.len, Nat.sub_mul]; have : L.length * s ≤ i * s := Nat.mul_le_mul_right _ hge; omega
    have e2 : (xs ++ ys).getD (i * s + j) undef = ys.getD ((i - L.length) * s + j) undef := by
      rw [List.getD_eq_getElem?_getD, List.getElem?_append_right hge2, e3, List.getD_eq_getElem?_getD]
    rw [e1, e2]; exact k.val _ j (by omega) hj
theorem CellsOf.take {w : World} {okc : Nat → Prop} {s : Nat} {L : List (List AV)} {xs : List Value} (h : CellsOf w okc s L xs) (i : Nat) (hi : i ≤ L.length) : CellsOf w okc s (L.take i) (xs.take (i * s)) := by
  have his : i * s ≤ L.length * s := Nat.mul_le_mul_right _ hi
  refine ⟨by rw [List.length_take, List.length_take, h.len, Nat.min_eq_left hi, Nat.min_eq_left his], fun y hy => h.each y (List.mem_of_mem_take hy), fun u hu => h.one u (List.mem_of_mem_take hu), fun p q hp hq => ?_⟩
  have hp' : p < i := by rw [List.length_take] at hp; omega
  have hlt : p * s + q < i * s := by have : (p + 1) * s ≤ i * s := Nat.mul_le_mul_right _ hp'; rw [Nat.add_mul] at this; omega
  have e1 : gt2 (L.take i) p q = gt2 L p q := by unfold gt2; simp [List.getElem?_take_of_lt hp']
  have e2 : (xs.take (i * s)).getD (p * s + q) undef = xs.getD (p * s + q) undef := by simp [List.getElem?_take_of_lt hlt]
  rw [e1, e2]; exact h.val p q (by omega) hq
theorem CellsOf.drop {w : World} {okc : Nat → Prop} {s : Nat} {L : List (List AV)} {xs : List Value} (h : CellsOf w okc s L xs) (i : Nat) : CellsOf w okc s (L.drop i) (xs.drop (i * s)) := by
  refine ⟨by rw [List.length_drop, List.length_drop, h.len, Nat.sub_mul], fun y hy => h.each y (List.mem_of_mem_drop hy), fun u hu => h.one u (List.mem_of_mem_drop hu), fun p q hp hq => ?_⟩
  have hp' : i + p < L.length := by rw [List.length_drop] at hp; omega
  have e1 : gt2 (L.drop i) p q = gt2 L (i + p) q := by unfold gt2; simp [List.getElem?_drop]
  have e2 : (xs.drop (i * s)).getD (p * s + q) undef = xs.getD ((i + p) * s + q) undef := by
    rw [List.getD_eq_getElem?_getD, List.getElem?_drop, List.getD_eq_getElem?_getD, show i * s + (p * s + q) = (i + p) * s + q by rw [Nat.add_mul]; omega]
  rw [e1, e2]; exact h.val _ q hp' hq
theorem CellsOf.mono {w w' : World} {okc okc' : Nat → Prop} {s : Nat} {L : List (List AV)} {xs : List Value} (h : CellsOf w okc s L xs) (hk : ∀ b, okc b → b < w.heap.size → okc' b ∧ w'.heap[b]? = w.heap[b]?) : CellsOf w' okc' s L xs :=
  ⟨h.len, h.each, h.one, fun i j hi hj => (h.val i j hi hj).mono hk⟩
theorem CellsOf.row {w : World} {B e s : Nat} {okc : Nat → Prop} {L : List (List AV)} {xs : List Value} (h : CellsOf w okc s L xs) (hs : 0 < s) {g cap : Nat} {cur : Array Value} (hB : B ≤ g) (hg : w.heap[g]? = some (.cells cur e (0, 0))) (hm : cap ≤ maxLen) (hcs : cur.size = cap * s) (hnc : L.length ≤ cap)
    (htk : cur.toList.take (L.length * s) = xs) : RRow w B e s okc (.sl s L) (.slice (some ⟨g, 0, none⟩) L.length cap) :=
  ⟨L, xs, rfl, hs, h.each, ⟨h.len, .inr ⟨g, cap, cur, rfl, hB, hg, hnc, hm, hcs, htk⟩⟩, h.one, h.val⟩
/-- The cells of a plain slice whose elements hold no memory. -/
theorem cells_flat {w : World} {ok okc : Nat → Prop} {s : Nat} {Y : List (List AV)} {v : Value} (h : RV w ok (.sl s Y) v) (hf : ∀ y ∈ Y, ∀ z ∈ y, z.flat) (h0 : 0 < Y.length) :
    ∃ (vb vo vc : Nat) (ys : List Value), v = .slice (some ⟨vb, vo, none⟩) Y.length vc ∧ ok vb ∧ vb < w.heap.size ∧ Y.length ≤ vc ∧ vc ≤ maxLen ∧ CellsOf w okc s Y ys ∧ ∀ j u, ys[j]? = some u → w.cell? ⟨vb, vo + j, none⟩ = some u := by
  cases h with
  | sl _ _ A n c us hn hnc hc hs hA hone hu =>
    subst hn
    obtain ⟨b, off, rfl, hok, hlt, hcell⟩ := hA h0
    have hdiv : ∀ k, k < Y.length * s → k / s < Y.length ∧ k % s < s ∧ k / s * s + k % s = k := fun k hk => by
      have hs0 : 0 < s := by rcases Nat.eq_zero_or_pos s with e | e; (subst e; simp at hk); exact e
      exact ⟨Nat.div_lt_of_lt_mul (by rw [Nat.mul_comm]; exact hk), Nat.mod_lt _ hs0, by rw [Nat.mul_comm]; exact Nat.div_add_mod k s⟩
    refine ⟨b, off, c, (List.range (Y.length * s)).map fun k => us (k / s) (k % s), rfl, hok, hlt, hnc, hc, ⟨by simp, hs, fun u hu' => ?_, fun i j hi hj => ?_⟩, fun j u hj => ?_⟩
    · obtain ⟨k, hk, rfl⟩ := List.mem_map.1 hu'
      obtain ⟨q1, q2, _⟩ := hdiv k (by simpa using hk)
      exact hone _ _ q1 q2
    · have hlt' : i * s + j < Y.length * s := by have : (i + 1) * s ≤ Y.length * s := Nat.mul_le_mul_right _ hi; rw [Nat.add_mul] at this; omega
      have hs0 : 0 < s := by omega
      have e4 : (i * s + j) / s = i := by rw [Nat.add_comm, Nat.add_mul_div_right _ _ hs0, Nat.div_eq_of_lt hj]; omega
      have e5 : (i * s + j) % s = j := by rw [Nat.add_comm, Nat.add_mul_mod_self_right, Nat.mod_eq_of_lt hj]
      have e2 : ((List.range (Y.length * s)).map fun k => us (k / s) (k % s)).getD (i * s + j) undef = us i j := by
        rw [List.getD_eq_getElem?_getD, List.getElem?_map, List.getElem?_range hlt']; simp [e4, e5]
      rw [e2]
      have hmem : gt2 Y i j ∈ Y.getD i [] := by
        have hYi : (Y.getD i []) ∈ Y := by rw [List.getD_eq_getElem?_getD, List.getElem?_eq_getElem hi]; exact List.getElem_mem hi
        have hjl : j < (Y.getD i []).length := by rw [hs _ hYi]; exact hj
        unfold gt2
        rw [List.getD_eq_getElem?_getD (l := Y.getD i []), List.getElem?_eq_getElem hjl]
        exact List.getElem_mem hjl
      have hYi : (Y.getD i []) ∈ Y := by rw [List.getD_eq_getElem?_getD, List.getElem?_eq_getElem hi]; exact List.getElem_mem hi
      exact (flat_rv (hu i j hi hj) (hf _ hYi _ hmem)).mono fun g hg _ => hg.elim
    · have hjl : j < Y.length * s := by
        have := (List.getElem?_eq_some_iff.1 hj).1
        simpa using this
      obtain ⟨q1, q2, q3⟩ := hdiv j hjl
      rw [List.getElem?_map, List.getElem?_range hjl] at hj
      simp only [Option.map_some, Option.some.injEq] at hj
      rw [← hj, ← hcell _ _ q1 q2]
      congr 2; omega
end Go.Proofs.Ytalfopommofdfaa
