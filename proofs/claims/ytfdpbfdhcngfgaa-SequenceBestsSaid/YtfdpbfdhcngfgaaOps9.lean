/- Each operation does what the run says: slices that are built or made, slice expressions, append. -/
import Derived.Test.YtfdpbfdhcngfgaaOps8
import Derived.IntWalk
import Derived.Laws.MakeOwn
namespace Go.Proofs.Ytfdpbfdhcngfgaa
open Go.RowKit
set_option linter.unusedVariables false
set_option linter.unusedSimpArgs false
section
variable {P : Program} {base : Nat} {w0 : World} {ok0 isd : Nat → Prop} {tm : List DE} {blk : Nat → DB} {ρ : Nat → Value} {a : Act} {w : World} {V : View} {st : Nat} {o : Oper} {Γ : FuncId → Option Ca}
/-- The cells of elements of s cells each. -/
def RGrid (w : World) (ok : Nat → Prop) (ρ : Nat → Value) (blk : Nat → DB) (isd : Nat → Prop) (s : Nat) (L : List (List DE)) (vs : Array Value) : Prop :=
  vs.size = L.length * s ∧ (∀ y ∈ L, y.length = s) ∧ ∀ i j, i < L.length → j < s → (vs.getD (i * s + j) undef).oneCell' = true ∧ RD w ok ρ blk isd ((L.getD i []).getD j .any) (vs.getD (i * s + j) undef)
theorem rgrid_set {ok : Nat → Prop} {s : Nat} {L : List (List DE)} {vs : Array Value} (h : RGrid w ok ρ blk isd s L vs) {i : Nat} (hi : i < L.length) {ds : List DE} {us : Array Value} (hd : RCells w ok ρ blk isd ds us) (hs : ds.length = s) :
    i * s + us.size ≤ vs.size ∧ RGrid w ok ρ blk isd s (L.set i ds) (vs.toList.take (i * s) ++ us.toList ++ vs.toList.drop (i * s + us.size)).toArray := by
  obtain ⟨h1, h2, h3⟩ := h
  have hu : us.size = s := hd.1.trans hs
  have hle : (i + 1) * s ≤ L.length * s := Nat.mul_le_mul_right _ hi
  rw [Nat.add_mul] at hle
  have hfit : i * s + us.size ≤ vs.size := by rw [h1, hu]; omega
  refine ⟨hfit, by rw [List.size_toArray, List.length_append, List.length_append, List.length_take, List.length_drop, Array.length_toList, Array.length_toList, List.length_set, ← h1]; omega, fun y hy => ?_, fun i' j' hi' hj' => ?_⟩
  · rcases List.mem_or_eq_of_mem_set hy with q | q
    · exact h2 y q
    · rw [q]; exact hs
  · rw [List.length_set] at hi'
    have hsg := seg_get vs.toList us.toList (i * s) (i' * s + j') undef (by simpa using hfit)
    rw [Array.length_toList] at hsg
    have e1 : (vs.toList.take (i * s) ++ us.toList ++ vs.toList.drop (i * s + us.size)).toArray.getD (i' * s + j') undef = if i' * s + j' < i * s then vs.toList.getD (i' * s + j') undef else if i' * s + j' < i * s + us.size then us.toList.getD (i' * s + j' - i * s) undef else vs.toList.getD (i' * s + j') undef := by
      rw [← hsg]; simp
    have e0 : vs.toList.getD (i' * s + j') undef = vs.getD (i' * s + j') undef := by simp
    rw [e1, e0]
    by_cases q : i = i'
    · subst q
      rw [if_neg (by omega), if_pos (by omega)]
      have e2 : (L.set i ds).getD i [] = ds := by rw [List.getD_eq_getElem?_getD, List.getElem?_set_self hi]; rfl
      have e3 : i * s + j' - i * s = j' := by omega
      rw [e2, e3]
      have := hd.2.1 j' (by omega)
      have h5 := hd.2.2 j' (by omega)
      simpa using And.intro this h5
    · have e2 : (L.set i ds).getD i' [] = L.getD i' [] := by rw [List.getD_eq_getElem?_getD, List.getElem?_set_ne q]; simp
      rw [e2]
      have h4 := h3 i' j' hi' hj'
      rcases Nat.lt_or_gt_of_ne q with q | q
      · have : (i + 1) * s ≤ i' * s := Nat.mul_le_mul_right _ q
        rw [Nat.add_mul] at this
        rw [if_neg (by omega), if_neg (by omega)]; exact h4
      · have : (i' + 1) * s ≤ i * s := Nat.mul_le_mul_right _ q
        rw [Nat.add_mul] at this
        rw [if_pos (by omega)]; exact h4
theorem elsD_ok (hV : VOk V tm blk) (h : HR base w0 ok0 isd tm blk ρ a w) {e : TypeId} (hz : P.cellsOf e ≠ 0) :
    ∀ (ps : List (Nat × Operand)) (L L' : List (List DE)) (obs : List Prop) (vs : Array Value), elsD P e V L ps = some (L', obs) → (∀ p ∈ obs, p) → RGrid w (okF base ok0 blk ρ) ρ blk isd (P.cellsOf e) L vs →
      ∃ vs', Instr.fill (fun i => some (i * P.cellsOf e, P.cellsOf e)) vs (ps.map fun (i, x) => (i, a.eval x)) = some vs' ∧ RGrid w (okF base ok0 blk ρ) ρ blk isd (P.cellsOf e) L' vs' ∧ L'.length = L.length
  | [], L, L', obs, vs, hf, _, hc => by
    simp only [elsD, Option.some.injEq, Prod.mk.injEq] at hf
    obtain ⟨rfl, rfl⟩ := hf
    exact ⟨vs, rfl, hc, rfl⟩
  | (i, x) :: rest, L, L', obs, vs, hf, hobs, hc => by
    simp only [elsD] at hf
    split at hf
    · cases hf
    · rename_i ds obs1 hs
      split at hf
      · rename_i hi
        cases hr : elsD P e V (L.set i ds) rest with
        | none => rw [hr] at hf; cases hf
        | some q =>
          obtain ⟨l, obs2⟩ := q
          rw [hr] at hf
          simp only [Option.map_some, Option.some.injEq, Prod.mk.injEq] at hf
          obtain ⟨rfl, rfl⟩ := hf
          obtain ⟨hds, hlen⟩ := split_ok hs (fun p hp => hobs p (List.mem_append_left _ hp)) (ev_ok hV h x)
          obtain ⟨hle, hc1⟩ := rgrid_set hc hi hds hlen
          obtain ⟨vs', e1, e2, e3⟩ := elsD_ok hV h hz rest _ l obs2 _ hr (fun p hp => hobs p (List.mem_append_right _ hp)) hc1
          refine ⟨vs', ?_, e2, by rw [e3, List.length_set]⟩
          rw [List.map_cons, fill_step rfl (hds.1.trans hlen) hle]
          exact e1
      · cases hf
theorem pcfs_get {cs : List DE} {xs : List AV} {r : List Nat} (h : V.pcfs cs = some (xs, r)) : xs.length = cs.length ∧ ∀ i, i < cs.length → ∃ r', V.pcf (cs.getD i .any) = some (xs.getD i default, r') ∧ ∀ b ∈ r', b ∈ r := by
  induction cs generalizing xs r with
  | nil =>
    simp only [View.pcfs, Option.some.injEq, Prod.mk.injEq] at h
    obtain ⟨rfl, rfl⟩ := h
    exact ⟨rfl, fun i hi => absurd hi (by simp)⟩
  | cons d ds ih =>
    simp only [View.pcfs] at h
    split at h
    · rename_i x r1 xs' rs h1 h2
      simp only [Option.some.injEq, Prod.mk.injEq] at h
      obtain ⟨rfl, rfl⟩ := h
      obtain ⟨e1, e2⟩ := ih h2
      refine ⟨by simp [e1], fun i hi => ?_⟩
      cases i with
      | zero => exact ⟨r1, h1, fun b hb => List.mem_append_left _ hb⟩
      | succ i =>
        obtain ⟨r', e3, e4⟩ := e2 i (by simpa using hi)
        exact ⟨r', by simpa using e3, fun b hb => List.mem_append_right _ (e4 b hb)⟩
    · cases h
theorem pcf_frz (hV : VOk V tm blk) (h : HR base w0 ok0 isd tm blk ρ a w) {d : DE} {v : Value} (hd : RD w (okF base ok0 blk ρ) ρ blk isd d v) {x : AV} {r r' : List Nat} (hp : V.pcf d = some (x, r')) (hr : ∀ b ∈ r', b ∈ r) :
    RV w (okF base ok0 (updB blk (V.frz r)) ρ) x v := by
  unfold View.pcf at hp
  split at hp
  · rename_i f cs
    split at hp
    · rename_i xs hq
      simp only [Option.some.injEq, Prod.mk.injEq] at hp
      obtain ⟨rfl, rfl⟩ := hp
      cases hd with
      | fn _ _ vs hl hc =>
        obtain ⟨q1, q2⟩ := pcs_get hq
        refine .clo f xs vs (hl.trans q1.symm) fun i hi => ?_
        obtain ⟨r2, z1, z2⟩ := q2 i (q1 ▸ hi)
        exact pc_frz hV h (hc i (q1 ▸ hi)) z1 (fun b hb => absurd (z2 b hb) (by simp))
    · cases hp
  · exact pc_frz hV h hd hp hr
theorem pcss_get {L : List (List DE)} {L' : List (List AV)} {r : List Nat} (h : V.pcss L = some (L', r)) : L'.length = L.length ∧ ∀ i, i < L.length → ∃ r', V.pcfs (L.getD i []) = some (L'.getD i [], r') ∧ ∀ b ∈ r', b ∈ r := by
  induction L generalizing L' r with
  | nil =>
    simp only [View.pcss, Option.some.injEq, Prod.mk.injEq] at h
    obtain ⟨rfl, rfl⟩ := h
    exact ⟨rfl, fun i hi => absurd hi (by simp)⟩
  | cons d ds ih =>
    simp only [View.pcss] at h
    split at h
    · rename_i x r1 xs' rs h1 h2
      simp only [Option.some.injEq, Prod.mk.injEq] at h
      obtain ⟨rfl, rfl⟩ := h
      obtain ⟨e1, e2⟩ := ih h2
      refine ⟨by simp [e1], fun i hi => ?_⟩
      cases i with
      | zero => exact ⟨r1, h1, fun b hb => List.mem_append_left _ hb⟩
      | succ i =>
        obtain ⟨r', e3, e4⟩ := e2 i (by simpa using hi)
        exact ⟨r', by simpa using e3, fun b hb => List.mem_append_right _ (e4 b hb)⟩
    · cases h
/-- A block that has just been laid, as a row. -/
theorem rrow_new {B e s n c : Nat} (hs : 0 < s) (hB : B ≤ w.heap.size) {okc : Nat → Prop} {L : List (List AV)} {vs : Array Value} (hn : L.length = n) (hnc : n ≤ c) (hm : c ≤ maxLen) (hsz : vs.size = c * s) (hL : ∀ y ∈ L, y.length = s)
    (hv : ∀ i j, i < n → j < s → (vs.getD (i * s + j) undef).oneCell' = true ∧ RV (w.alloc (.cells vs e)) okc (gt2 L i j) (vs.getD (i * s + j) undef)) :
    RRow (w.alloc (.cells vs e)) B e s okc (.sl s L) (.slice (some ⟨w.heap.size, 0, none⟩) n c) := by
  subst hn
  have hle : L.length * s ≤ c * s := Nat.mul_le_mul_right _ hnc
  have hg : ∀ k, k < L.length * s → (vs.toList.take (L.length * s)).getD k undef = vs.getD k undef := fun k hk => by
    simp only [List.getD_eq_getElem?_getD, List.getElem?_take, if_pos hk]
    simp
  have hidx : ∀ i j, i < L.length → j < s → i * s + j < L.length * s := fun i j hi hj => by
    have : (i + 1) * s ≤ L.length * s := Nat.mul_le_mul_right _ hi
    rw [Nat.add_mul] at this; omega
  refine ⟨L, vs.toList.take (L.length * s), rfl, hs, hL, ⟨by simp; omega, .inr ⟨w.heap.size, c, vs, rfl, hB, heap_alloc_new w _, hnc, hm, hsz, rfl⟩⟩, fun u hu => ?_, fun i j hi hj => ?_⟩
  · obtain ⟨k, hk, rfl⟩ := List.getElem_of_mem hu
    have hk' : k < L.length * s := by rw [List.length_take] at hk; omega
    have h1 := (hv (k / s) (k % s) (Nat.div_lt_of_lt_mul (by rw [Nat.mul_comm]; exact hk')) (Nat.mod_lt _ hs)).1
    have e : k / s * s + k % s = k := by rw [Nat.mul_comm]; exact Nat.div_add_mod k s
    rw [e, ← hg k hk', List.getD_eq_getElem?_getD, List.getElem?_eq_getElem hk] at h1
    exact h1
  · rw [hg _ (hidx i j hi hj)]; exact (hv i j hi hj).2
theorem op_buildSlice {t : TypeId} {n : Nat} {ps : Array (Nat × Operand)} (ho : o.op = .buildSlice t n ps) (hV : VOk V tm blk) (h : HR base w0 ok0 isd tm blk ρ a w) (hst : ¬ isd st) {δ : Delta} (hv : Valid P Γ o st V δ) : Goes P base w0 ok0 isd tm blk st a w o δ := by
  simp only [Valid, opD, ho] at hv
  split at hv
  · exact hv.elim
  · rename_i e s by_ hsl
    obtain ⟨ht, rfl, rfl⟩ := slT_spec hsl
    split at hv
    · exact hv.elim
    · rename_i z hz
      split at hv
      · exact hv.elim
      · rename_i hcond
        have c0 : P.cellsOf e ≠ 0 := fun x => hcond (.inl x)
        have c1 : z.length = P.cellsOf e := Classical.byContradiction fun x => hcond (.inr (.inl x))
        have c2 : n * P.cellsOf e ≤ 16777216 := by have := fun x => hcond (.inr (.inr (.inl x))); omega
        have c3 : onesD z = true := by cases q : onesD z; exact absurd (.inr (.inr (.inr q))) hcond; rfl
        obtain ⟨u, hu, hc, hzu⟩ := zeroOf_ok (w := w) (ρ := ρ) (blk := blk) (isd := isd) (okF base ok0 blk ρ) hz c3
        have hus : u.cells.size = P.cellsOf e := by rw [hc.1, c1]
        split at hv
        · exact hv.elim
        · rename_i L obs hL
          split at hv
          · exact hv.elim
          · rename_i L' r hp
            obtain ⟨hobs, rfl⟩ := hv
            have hgrid : RGrid w (okF base ok0 blk ρ) ρ blk isd (P.cellsOf e) (List.replicate n z) ((Array.range (n * P.cellsOf e)).map (u.cells[· % u.cells.size]!)) := by
              refine ⟨by simp, fun y hy => by rw [List.eq_of_mem_replicate hy, c1], fun i j hi hj => ?_⟩
              have hi' : i < n := by simpa using hi
              have hlt : i * P.cellsOf e + j < n * P.cellsOf e := by
                have : (i + 1) * P.cellsOf e ≤ n * P.cellsOf e := Nat.mul_le_mul_right _ hi'
                rw [Nat.add_mul] at this; omega
              have e1 : ((Array.range (n * P.cellsOf e)).map (u.cells[· % u.cells.size]!)).getD (i * P.cellsOf e + j) undef = u.cells.getD j undef := by
                have hmod : (i * P.cellsOf e + j) % u.cells.size = j := by rw [hus, Nat.add_comm, Nat.add_mul_mod_self_right, Nat.mod_eq_of_lt hj]
                have hj' : j < u.cells.size := by omega
                simp [hlt, hmod, hj']
              have e2 : (List.replicate n z).getD i [] = z := by simp [hi']
              rw [e1, e2]
              exact ⟨hc.2.1 j (by omega), hc.2.2 j (by omega)⟩
            obtain ⟨vs', e1, e2, e3⟩ := elsD_ok hV h c0 ps.toList _ L obs _ hL hobs hgrid
            have hLn : L.length = n := by rw [e3]; simp
            obtain ⟨p1, p2⟩ := pcss_get hp
            have h' := h.freeze hV r
            have hrun : (execOp a.eval o).run P w = .ok (.value (.slice (some ⟨w.heap.size, 0, none⟩) n n)) (w.alloc (.cells vs' e)) := by
              have hno : ¬ (n * P.cellsOf e > 2 ^ 24) := by omega
              simp only [execOp, ho, Instr.buildSlice, Sem.run_bind, run_underlying ht, Result.andThen_ok, sizeOf_run (w := w) c0, hno, if_false, Sem.run_pure, Array.toList_map]
              by_cases hn0 : n * P.cellsOf e = 0
              · have q0 : ∀ f : Nat → Value, (Array.range 0).map f = #[] := fun f => by simp
                have hz2 : n = 0 := by rcases Nat.mul_eq_zero.1 hn0 with q | q; exact q; exact absurd q c0
                subst hz2
                simp only [Nat.zero_mul, q0] at e1 ⊢
                simp only [if_true, Sem.run_bind, Sem.run_pure, Result.andThen_ok, q0]
                rw [e1]
                simp [newRow, newObj, Sem.run]
              · simp only [hn0, if_false, Sem.run_bind, hu, Result.andThen_ok, Sem.run_pure]
                rw [e1]
                simp [newRow, newObj, Sem.run]
            have hnr := h'.newRow (st := st) hst o.dst e (P.cellsOf e) (.sl (P.cellsOf e) L') (.slice (some ⟨w.heap.size, 0, none⟩) n n) (w.alloc (.cells vs' e)) (World.grownBy_alloc w _ none) (fun ok' hk => by
              refine rrow_new (by omega) h.low (by rw [p1, hLn]) (Nat.le_refl _) ?_ (by rw [e2.1, hLn]) (fun y hy => ?_) (fun i j hi hj => ?_)
              · have : n ≤ n * P.cellsOf e := Nat.le_mul_of_pos_right _ (by omega)
                unfold maxLen; omega
              · obtain ⟨k, hk2, rfl⟩ := List.getElem_of_mem hy
                obtain ⟨r', z1, _⟩ := p2 k (by rw [← p1]; exact hk2)
                have z2 := (pcfs_get z1).1
                rw [List.getD_eq_getElem?_getD, List.getElem?_eq_getElem hk2] at z2
                simp only [Option.getD_some] at z2
                rw [z2, List.getD_eq_getElem?_getD, List.getElem?_eq_getElem (by rw [← p1]; exact hk2)]
                exact e2.2.1 _ (List.getElem_mem _)
              · obtain ⟨q1, q2⟩ := e2.2.2 i j (by rw [hLn]; exact hi) hj
                refine ⟨q1, ?_⟩
                obtain ⟨r', z1, z3⟩ := p2 i (by rw [hLn]; exact hi)
                obtain ⟨z4, z5⟩ := pcfs_get z1
                have hli : (L.getD i []).length = P.cellsOf e := by
                  rw [List.getD_eq_getElem?_getD, List.getElem?_eq_getElem (by rw [hLn]; exact hi)]; exact e2.2.1 _ (List.getElem_mem _)
                obtain ⟨r2, z6, z7⟩ := z5 j (by rw [hli]; exact hj)
                have := pcf_frz hV h q2 z6 (r := r) (fun b hb => z3 b (z7 b hb))
                exact this.mono fun g hg hlt => hk g hg hlt) (fun g hg => by injection hg with hg; exact Nat.le_of_eq hg) (.row st st) _ ⟨rfl, rfl⟩
            rw [← updB_append] at hnr
            exact goes_run hrun hnr
theorem op_makeSlice {t : TypeId} {x y : Operand} (ho : o.op = .makeSlice t x y) (hV : VOk V tm blk) (h : HR base w0 ok0 isd tm blk ρ a w) (hst : ¬ isd st) {δ : Delta} (hv : Valid P Γ o st V δ) : Goes P base w0 ok0 isd tm blk st a w o δ := by
  simp only [Valid, opD, ho] at hv
  split at hv
  · exact hv.elim
  · rename_i e s by_ hsl
    obtain ⟨ht, rfl, rfl⟩ := slT_spec hsl
    split at hv
    · rename_i z n m hz hn hm
      split at hv
      · rename_i z' hzp
        split at hv
        · exact hv.elim
        · rename_i hcond
          have c0 : P.cellsOf e ≠ 0 := fun x => hcond (.inl x)
          have c1 : z.length = P.cellsOf e := Classical.byContradiction fun x => hcond (.inr (.inl x))
          have c2 : P.bytesOf e ≠ 0 := fun x => hcond (.inr (.inr (.inl x)))
          have c3 : onesD z = true := by cases q : onesD z; exact absurd (.inr (.inr (.inr q))) hcond; rfl
          obtain ⟨⟨i1, i2, i3⟩, i4, i5, rfl⟩ := hv.det3
          have i5 : m.num = n.num := i5
          obtain ⟨u, hu, hc, inf, hinf, hzu⟩ := zeroOf_ok (w := w) (ρ := ρ) (blk := blk) (isd := isd) (okF base ok0 blk ρ) hz c3
          have hus : u.cells.size = P.cellsOf e := by rw [hc.1, c1]
          have r1 := rv_i64 (pc_ok' hV h (ev_ok hV h x) hn) i1
          have r2 := rv_i64 (pc_ok' hV h (ev_ok hV h y) hm) i4
          rw [i5] at r2
          obtain ⟨N, hN⟩ := Int.eq_ofNat_of_zero_le i2
          rw [hN] at r1 r2 i3
          have hsz : inf.size = P.cellsOf e := by unfold Program.cellsOf; rw [hinf]; rfl
          have hby : inf.bytes = P.bytesOf e := by unfold Program.bytesOf; rw [hinf]; rfl
          have hb1 : 1 ≤ P.bytesOf e := by omega
          have hNb' : ((N * P.bytesOf e : Nat) : Int) ≤ 140737488355328 := by rw [Int.natCast_mul]; exact i3
          have hNb : N * P.bytesOf e ≤ 140737488355328 := by omega
          have hNle : N ≤ N * P.bytesOf e := Nat.le_mul_of_pos_right _ hb1
          have hr := run_make (P := P) w t e inf u ht hinf hzu .i64 .i64 (N : Int) N (by omega) (Int.le_refl _) (by rw [hby, Int.mul_comm, ← Int.natCast_mul]; omega) (by omega)
          simp only [Int.toNat_natCast, hsz] at hr
          have hrun : (execOp a.eval o).run P w = .ok (.value (.slice (some ⟨w.heap.size, 0, none⟩) N N)) (w.alloc (.cells (madeCells u.cells (N * P.cellsOf e)) e)) := by
            simp only [execOp, ho, r1, r2, Sem.run_bind, hr]
            rfl
          obtain ⟨p1, p2⟩ := pcs_get hzp
          have hnr := h.newRow (st := st) hst o.dst e (P.cellsOf e) (AV.rep (P.cellsOf e) n z') (.slice (some ⟨w.heap.size, 0, none⟩) N N) (w.alloc (.cells (madeCells u.cells (N * P.cellsOf e)) e)) (World.grownBy_alloc w _ none) (fun ok' hk => by
            unfold AV.rep
            rw [hN]
            refine rrow_new (by omega) h.low (by simp) (Nat.le_refl _) ?_ (by simp [madeCells]) (fun y hy => by rw [List.eq_of_mem_replicate hy, p1, c1]) (fun i j hi hj => ?_)
            · unfold maxLen; omega
            · have hlt : i * P.cellsOf e + j < N * P.cellsOf e := by
                have : (i + 1) * P.cellsOf e ≤ N * P.cellsOf e := Nat.mul_le_mul_right _ hi
                rw [Nat.add_mul] at this; omega
              have hmod : (i * P.cellsOf e + j) % u.cells.size = j := by rw [hus, Nat.add_comm, Nat.add_mul_mod_self_right, Nat.mod_eq_of_lt hj]
              have hj' : j < u.cells.size := by omega
              have e1 : (madeCells u.cells (N * P.cellsOf e)).getD (i * P.cellsOf e + j) undef = u.cells.getD j undef := by
                simp [madeCells, hlt, hmod, hj']
              rw [e1]
              refine ⟨hc.2.1 j (by omega), ?_⟩
              have hgt : gt2 (List.replicate (N : Int).toNat z') i j = z'.getD j default := by unfold gt2; simp [hi]
              rw [hgt]
              obtain ⟨r', z1, z2⟩ := p2 j (by omega)
              obtain rfl : r' = [] := by
                cases r' with
                | nil => rfl
                | cons q _ => exact absurd (z2 q (by simp)) (by simp)
              exact (pc_ok' hV h (hc.2.2 j (by omega)) z1).mono fun g hg hlt => hk g hg hlt) (fun g hg => by injection hg with hg; exact Nat.le_of_eq hg) (.row st st) _ ⟨rfl, rfl⟩
          exact goes_run hrun hnr
      · exact hv.elim
    · exact hv.elim
theorem bnd0 {l : AV} {x : Option Operand} {z : AV} (hz : z.num = 0) (h : (x = none ∧ l = z) ∨ ∃ y, x = some y ∧ a.eval y = .int l.kind l.num) : (x = none ∧ l.num = 0) ∨ ∃ y, x = some y ∧ a.eval y = .int l.kind l.num := by
  rcases h with ⟨e, rfl⟩ | h
  · exact .inl ⟨e, hz⟩
  · exact .inr h
theorem bndN {l : AV} {x : Option Operand} {z : AV} {n : Nat} (hz : z.num = n) (h : (x = none ∧ l = z) ∨ ∃ y, x = some y ∧ a.eval y = .int l.kind l.num) : (x = none ∧ l.num = n) ∨ ∃ y, x = some y ∧ a.eval y = .int l.kind l.num := by
  rcases h with ⟨e, rfl⟩ | h
  · exact .inl ⟨e, hz⟩
  · exact .inr h
theorem op_slice {t : TypeId} {x : Operand} {lo hi mx : Option Operand} (ho : o.op = .slice t x lo hi mx) (hV : VOk V tm blk) (h : HR base w0 ok0 isd tm blk ρ a w) {δ : Delta} (hv : Valid P Γ o st V δ) : Goes P base w0 ok0 isd tm blk st a w o δ := by
  have hx := ev_ok hV h x
  cases mx with
  | some m => simp only [Valid, opD, ho] at hv; exact hv.elim
  | none =>
    simp only [Valid, opD, ho] at hv
    split at hv
    · rename_i ht
      split at hv
      · rename_i b hb
        split at hv
        · rename_i l r hl hr
          obtain ⟨h1, ⟨h2, h3, h4, h5, h6⟩, rfl⟩ := hv.det2
          have r1 := rv_str (pc_ok' hV h hx hb) h1
          have hbo := run_sliceBounds (P := P) (w := w) (a := a) false b.str.size b.str.size (Nat.le_refl _) h2 h3 h4 h5 h6 (bnd0 rfl (bnd_ok hV h hl h2)) (bndN rfl (bnd_ok hV h hr h3))
          refine goes_val h (v := .string (b.str.extract l.num.toNat r.num.toNat)) ?_ (.v _ _ (.lit _))
          simp [execOp, ho, Instr.sliceAt, run_underlying ht, Instr.slice, r1, hbo]
        · exact hv.elim
      · exact hv.elim
    · rename_i n e ht
      split at hv
      · rename_i X he
        rw [he] at hx
        split at hv
        · rename_i h1c
          obtain ⟨h1c, hn6⟩ := h1c
          obtain ⟨hr, rfl⟩ := hv.det1
          obtain ⟨cs, rfl, hm⟩ := hr
          generalize hu2 : a.eval x = u at hx
          cases hx with
          | v _ _ hh =>
            cases hh with
            | ref _ g us hok hg hc h1 h2 =>
              have hbo : (Instr.sliceBounds false n n none none none).run P w = .ok (0, n, n) w := by simp [Instr.sliceBounds]
              refine goes_val h (v := .slice (some ⟨g, 0, none⟩) n n) ?_ (.v _ _ ?_)
              · simp [execOp, ho, Instr.sliceAt, run_underlying ht, hu2, Instr.sureAddr, hbo, sizeOf_run (w := w) (show P.cellsOf e ≠ 0 by omega), Addr.add]
              · refine .sl 1 _ _ n n (fun i _ => us i) (by simp [AV.rcs, hm]) (Nat.le_refl _) (by unfold maxLen; omega) (by simp [AV.rcs]) (fun _ => ⟨g, 0, rfl, hok, hg, fun i j hi hj => ?_⟩) (fun i j hi hj => h1 i (by omega)) (fun i j hi hj => ?_)
                · rw [← hc i (by omega)]
                  congr 2; omega
                · obtain rfl : j = 0 := by omega
                  have : gt2 ((AV.ref cs).rcs.map fun c => [c]) i 0 = cs.getD i default := by
                    unfold gt2
                    simp [AV.rcs, List.getD_eq_getElem?_getD, List.getElem?_eq_getElem (show i < cs.length by omega)]
                  rw [this]
                  exact h2 i (by omega)
        · exact hv.elim
      · exact hv.elim
    · rename_i e ht
      split at hv
      · exact hv.elim
      · rename_i hz
        split at hv
        · split at hv
          · rename_i b n lo' he
            rw [he] at hx
            split at hv
            · rename_i e' s m X l hb hl
              split at hv
              · rename_i hc
                obtain ⟨rfl, rfl⟩ := hc
                obtain ⟨⟨h2, h3, h4, h5, h6⟩, rfl⟩ := hv.det1
                have hbk := hV.row hb
                have hrow := h.row hbk
                generalize hu2 : a.eval x = u at hx
                cases hx with
                | row _ _ _ hn h1' hs =>
                  have hv := hs (by rw [hbk]; rfl)
                  obtain ⟨A, n', c, e1, e2, e3, e4⟩ := hrow.form
                  have hbo := run_sliceBounds (P := P) (w := w) (a := a) true X.els.length c (by omega) (hi := none) (lo := some lo') h2 h3 h4 h5 h6 (bnd0 (z := .int 0) rfl (bnd_ok hV h (x := some lo') hl h2)) (.inl ⟨rfl, rfl⟩)
                  have hrun : (execOp a.eval o).run P w = .ok (.value (.slice (if c = l.num.toNat then A else A.map (·.add (l.num.toNat * P.cellsOf e))) (n' - l.num.toNat) (c - l.num.toNat))) w := by
                    have hnum : (AV.len X).num.toNat = n' := by rw [e2]; rfl
                    rw [hnum] at hbo
                    rw [e2] at hbo ⊢
                    rw [hv, e1] at hu2
                    rw [e2] at hu2
                    simp only [Option.map_some, Option.map_none] at hbo
                    simp [execOp, ho, Instr.sliceAt, run_underlying ht, Instr.slice, hu2, hbo, sizeOf_run (w := w) hz]
                  refine goes_val h hrun (.rt b m (P.cellsOf e) l _ hn rfl fun _ => ⟨A, n', c, e1, h4, ?_, rfl⟩)
                  have : (AV.len X).num = (X.els.length : Nat) := rfl
                  omega
              · exact hv.elim
            · exact hv.elim
          · exact hv.elim
        split at hv
        · rename_i b obs hb
          split at hv
          · rename_i l r hl hr
            obtain ⟨hobs, rfl⟩ := hv
            have hobs1 : ∀ p ∈ obs, p := fun p hp => hobs p (List.mem_append_left _ hp)
            obtain ⟨h2, h3, h4, h5, h6⟩ : AV.subOk b l r := hobs _ (List.mem_append_right _ (by simp))
            obtain ⟨hsl, rr, hrv, hcase⟩ := asSl_ok hV h hx hb hobs1
            obtain ⟨A, c, e1, e2, e3⟩ := rv_sl hrv hsl
            have hbo := run_sliceBounds (P := P) (w := w) (a := a) true b.els.length c e2 h2 h3 h4 h5 h6 (bnd0 rfl (bnd_ok hV h hl h2)) (bndN rfl (bnd_ok hV h hr h3))
            have hrun : (execOp a.eval o).run P w = .ok (.value (.slice (if c = l.num.toNat then A else A.map (·.add (l.num.toNat * P.cellsOf e))) (r.num.toNat - l.num.toNat) (c - l.num.toNat))) w := by
              simp [execOp, ho, Instr.sliceAt, run_underlying ht, Instr.slice, e1, hbo, sizeOf_run (w := w) hz]
            rcases hcase with rfl | ⟨b', n', e', d1, rfl, d3, d4⟩
            · have hrv' := rv_okR_nil hrv
              rw [e1] at hrv'
              have hsub := rv_sub hrv' hsl l.num.toNat r.num.toNat (by omega) (by omega)
              split
              · rename_i b' n' he
                -- a row that is laid down already
                have : V.frz [b'] = [] ∨ ∃ e s n y, V.bl b' = .row e s n y := by
                  unfold View.frz
                  cases hk : V.bl b' <;> simp [hk]
                rcases this with q | ⟨e', s', n2, y, q⟩
                · rw [q]; exact goes_val h hrun (.v _ _ hsub)
                · have h' := h.freeze hV [b']
                  have hput := h'.put o.dst (d := .v _) (.v _ _ (hsub.mono fun g hg _ => ⟨⟨hg.1, fun b2 hl2 => ?_⟩, rfl⟩)) st w rfl rfl rfl rfl
                  · exact goes_run hrun hput
                  · rw [updB_frz] at hl2
                    split at hl2
                    · split at hl2
                      · cases hl2
                      · exact hg.2 b2 hl2
                    · exact hg.2 b2 hl2
              · exact goes_val h hrun (.v _ _ hsub)
            · rw [d1]
              simp only
              have h' := h.freeze hV [b']
              have hbl : V.bl b' = .row e' (P.cellsOf e) n' b := by
                rw [d1] at hb
                simp only [View.asSl] at hb
                rcases hV.b b' with q | q
                · rw [q]; exact d3
                · rw [q] at hb; cases hb
              have hfz : updB blk (V.frz [b']) b' = .fz n' b := by rw [updB_frz, if_pos (by simp), hbl]
              have hb2 := h'.blks b'
              rw [hfz] at hb2
              have hrv' := hb2.2.1
              rw [← d4, e1] at hrv'
              have hsub := rv_sub hrv' hsl l.num.toNat r.num.toNat (by omega) (by omega)
              exact goes_run hrun (h'.put o.dst (.v _ _ hsub) st w rfl rfl rfl rfl)
          · exact hv.elim
        · exact hv.elim
    · exact hv.elim
end
end Go.Proofs.Ytfdpbfdhcngfgaa
