/- Each operation does what the run says: rows laid down, new variables, stores. -/
import Derived.Test.YtfdpbfdhcngfgaaOpsE
namespace Go.Proofs.Ytfdpbfdhcngfgaa
open Go.RowKit
set_option linter.unusedVariables false
set_option linter.unusedSimpArgs false
section
variable {P : Program} {base : Nat} {w0 : World} {ok0 isd : Nat → Prop} {tm : List DE} {blk : Nat → DB} {ρ : Nat → Value} {a : Act} {w : World} {V : View} {st : Nat} {o : Oper} {Γ : FuncId → Option Ca}
theorem frz_find (V : View) (r : List Nat) (b : Nat) : (V.frz r).find? (·.1 == b) = if b ∈ r then (match V.bl b with | .row _ _ n x => some (b, .fz n x) | _ => none) else none := by
  induction r with
  | nil => rfl
  | cons c r ih =>
    simp only [View.frz, List.filterMap_cons] at ih ⊢
    by_cases e : c = b
    · subst e
      cases hk : V.bl c with
      | row e' s n x => simp [hk]
      | _ =>
        simp only [hk] at ih ⊢
        rw [ih]
        simp
    · have hne : b ≠ c := fun h => e h.symm
      cases hk : V.bl c with
      | row e' s n x =>
        simp only [hk, List.find?_cons]
        have : (c == b) = false := by simpa using e
        simp only [this]
        rw [ih]
        simp [hne]
      | _ =>
        simp only [hk]
        rw [ih]
        simp [hne]
theorem updB_frz (V : View) (r : List Nat) (b : Nat) : updB blk (V.frz r) b = if b ∈ r then (match V.bl b with | .row _ _ n x => .fz n x | _ => blk b) else blk b := by
  unfold updB
  rw [frz_find]
  by_cases hb : b ∈ r
  · simp only [hb, if_true]
    cases hk : V.bl b <;> rfl
  · simp only [hb, if_false]
theorem updB_append (bs cs : List (Nat × DB)) : updB blk (bs ++ cs) = updB (updB blk cs) bs := by
  funext b
  unfold updB
  rw [List.find?_append]
  cases h : bs.find? (·.1 == b) <;> simp
theorem updB_cons (b' : Nat) (d : DB) (cs : List (Nat × DB)) (b : Nat) : updB blk ((b', d) :: cs) b = if b = b' then d else updB blk cs b := by
  unfold updB
  by_cases e : b = b'
  · subst e; simp
  · have : (b' == b) = false := by simpa using fun x => e x.symm
    simp [this, e]
/-- Rows may be laid down: they are from now on never written. -/
theorem HR.freeze (hV : VOk V tm blk) (h : HR base w0 ok0 isd tm blk ρ a w) (r : List Nat) : HR base w0 ok0 isd tm (updB blk (V.frz r)) ρ a w := by
  have hspec : ∀ b, b ∈ r → ∀ e s n x, V.bl b = .row e s n x → blk b = .row e s n x ∧ updB blk (V.frz r) b = .fz n x := fun b hb e s n x hk => by
    refine ⟨hV.row hk, ?_⟩
    rw [updB_frz, if_pos hb, hk]
  refine h.step (fun b => b ∈ r ∧ ∃ e s n x, V.bl b = .row e s n x) (fun b hc => ?_) (fun _ _ => rfl) (fun _ _ _ _ _ => rfl) (fun b n x hc hk => ?_) (fun _ hn => hn) (fun b hc => ?_) (fun b n hc hn hs => ?_) (Nat.le_refl _) (fun _ _ _ => rfl) (fun b hc hl => ?_) (fun b b' hc hc' hl => ?_) rfl rfl rfl (fun H1 H5 b hc => ?_) (fun _ t => .inl ⟨rfl, rfl⟩) h.size rfl
  · rw [updB_frz]
    split
    · rename_i hb
      cases hk : V.bl b with
      | row e s n x => exact absurd ⟨hb, e, s, n, x, hk⟩ hc
      | _ => rfl
    · rfl
  · obtain ⟨hb, e, s, m, y, hr⟩ := hc
    rw [(hspec b hb e s m y hr).1] at hk; cases hk
  · obtain ⟨hb, e, s, m, y, hr⟩ := hc
    apply Classical.byContradiction
    intro hni
    have := h.frs b hni
    rw [(hspec b hb e s m y hr).1] at this; cases this
  · obtain ⟨hb, e, s, m, y, hr⟩ := hc
    rw [(hspec b hb e s m y hr).2] at hs
    rw [(hspec b hb e s m y hr).1]
    exact ⟨hs, rfl⟩
  · obtain ⟨hb, e, s, m, y, hr⟩ := hc
    rw [(hspec b hb e s m y hr).2] at hl; cases hl
  · obtain ⟨hb, e, s, m, y, hr⟩ := hc
    rw [(hspec b hb e s m y hr).2] at hl; cases hl
  · obtain ⟨hb, e, s, m, y, hr⟩ := hc
    obtain ⟨k1, k2⟩ := hspec b hb e s m y hr
    have hrow := h.row k1
    have hi : isd m := by have := h.blks b; rw [k1] at this; exact this.1
    rw [k2]
    refine ⟨hi, hrow.rv (fun g hg hlt => (H1 g hg hlt).1) (fun g hg => ?_), fun g => hrow.notPtr _⟩
    have hbn : blkNo (ρ b) = some g := hrow.blkNo_eq ▸ hg
    refine ⟨fun hlt => absurd (h.live_lt (by rw [k1]; rfl) hbn).1 (by omega), fun b' hl' e' => ?_⟩
    by_cases hbb : b' = b
    · subst hbb; rw [k2] at hl'; cases hl'
    · have hl2 : isLive (blk b') = true := by
        rw [updB_frz] at hl'
        split at hl'
        · split at hl'
          · cases hl'
          · exact hl'
        · exact hl'
      exact h.inj b b' (by rw [k1]; rfl) hl2 (fun x => hbb x.symm) g hbn e'
/-- What is plain, the rows that it takes laid down. -/
theorem pc_frz (hV : VOk V tm blk) (h : HR base w0 ok0 isd tm blk ρ a w) {d : DE} {v : Value} (hd : RD w (okF base ok0 blk ρ) ρ blk isd d v) {x : AV} {r r' : List Nat} (hp : V.pc d = some (x, r')) (hr : ∀ b ∈ r', b ∈ r) :
    RV w (okF base ok0 (updB blk (V.frz r)) ρ) x v := by
  have h' := h.freeze hV r
  have hd' : RD w (okF base ok0 (updB blk (V.frz r)) ρ) ρ (updB blk (V.frz r)) isd d v := by
    refine hd.mono (fun g hg hlt => ⟨⟨hg.1, fun b hl => ?_⟩, rfl⟩) (fun _ _ _ => rfl) (fun _ hn => hn) (fun b n hn hs => ⟨?_, rfl⟩)
    · rw [updB_frz] at hl
      split at hl
      · split at hl
        · cases hl
        · exact hg.2 b hl
      · exact hg.2 b hl
    · rw [updB_frz] at hs
      split at hs
      · split at hs
        · rename_i e s m y hk
          rw [hV.row hk]; exact hs
        · exact hs
      · exact hs
  cases d with
  | v y =>
    simp only [View.pc, Option.some.injEq, Prod.mk.injEq] at hp
    obtain ⟨rfl, rfl⟩ := hp
    cases hd' with | v _ _ hh => exact hh
  | c y =>
    simp only [View.pc, Option.some.injEq, Prod.mk.injEq] at hp
    obtain ⟨rfl, rfl⟩ := hp
    cases hd'; exact .lit _
  | nil =>
    simp only [View.pc, Option.some.injEq, Prod.mk.injEq] at hp
    obtain ⟨rfl, rfl⟩ := hp
    cases hd'; exact .lit _
  | row b n =>
    simp only [View.pc] at hp
    cases hd with
    | row _ _ _ hn _ hs =>
      have hb := h'.blks b
      split at hp
      · rename_i e s m y hk
        split at hp
        · rename_i hmn
          simp only [Option.some.injEq, Prod.mk.injEq] at hp
          obtain ⟨rfl, rfl⟩ := hp
          have : updB blk (V.frz r) b = .fz m y := by rw [updB_frz, if_pos (hr b (by simp)), hk]
          rw [this] at hb
          rw [hs (by rw [hV.row hk, hmn]; rfl)]
          exact hb.2.1
        · cases hp
      · rename_i m y hk
        split at hp
        · rename_i hmn
          simp only [Option.some.injEq, Prod.mk.injEq] at hp
          obtain ⟨rfl, rfl⟩ := hp
          have : updB blk (V.frz r) b = .fz m y := by
            rw [updB_frz, hk]
            split <;> exact hV.fz hk
          rw [this] at hb
          rw [hs (by rw [hV.fz hk, hmn]; rfl)]
          exact hb.2.1
        · cases hp
      · cases hp
  | _ => simp only [View.pc] at hp; cases hp

/-- A new variable. -/
theorem HR.newCells (h : HR base w0 ok0 isd tm blk ρ a w) (hst : ¬ isd st) (dst : Option Nat) (t : TypeId) (cs : List DE) (vs : Array Value) (hc : RCells w (okF base ok0 blk ρ) ρ blk isd cs vs) :
    HR base w0 ok0 (NewI isd st) (setD tm dst (.ptr st 0)) (updB blk [(st, .cells t cs)]) (fun b => if b = st then .pointer (some ⟨w.heap.size, 0, none⟩) else ρ b) (a.put dst (.pointer (some ⟨w.heap.size, 0, none⟩))) (w.alloc (.cells vs t)) := by
  have hdead := h.frs st hst
  have hb : ∀ b, updB blk [(st, .cells t cs)] b = if b = st then .cells t cs else blk b := fun b => by rw [updB_cons]; rfl
  refine h.step (fun b => b = st) (fun b hc => ?_) (fun b hc => ?_) (fun b t cs hc hk => ?_) (fun b n y hc hk => ?_) (fun n hn => .inl hn) (fun b hc => .inr (by omega)) (fun b n hc hn hs => ?_) (by simp) (fun g hlt _ => Below.heap_alloc w _ g hlt) (fun b hc _ g hg' => ?_) (fun b b' hc hc' _ _ hne => absurd (hc.trans hc'.symm) hne) rfl rfl rfl (fun H1 H5 b hc' => ?_) (fun H1 t => ?_) ?_ ?_
  · rw [hb, if_neg hc]
  · show (if b = st then _ else ρ b) = ρ b
    rw [if_neg hc]
  · subst hc; rw [hdead] at hk; cases hk
  · subst hc; rw [hdead] at hk; cases hk
  · subst hc
    rw [hb, if_pos rfl] at hs
    cases hs
  · subst hc
    right
    simp only [if_true, blkNo, Option.some.injEq] at hg'
    omega
  · subst hc'
    rw [hb, if_pos rfl]
    exact ⟨w.heap.size, vs, by simp, h.low, heap_alloc_new w _, hc.1, hc.2.1, fun i hi => H5 _ _ (hc.2.2 i hi)⟩
  · rcases setD_get h.size dst (.ptr st 0) (.pointer (some ⟨w.heap.size, 0, none⟩)) t with ⟨e1, e2⟩ | ⟨e1, e2⟩
    · exact .inl ⟨e1, e2⟩
    · right; rw [e1, e2]
      exact .ptr st 0 w.heap.size (by simp)
  · rw [put_size, setD_len, h.size]
  · exact put_defers _ _ _
theorem cst_ok (ok : Nat → Prop) (v : Value) : RD w ok ρ blk isd (cst v) v := by
  unfold cst
  split
  · exact .nil
  · exact .c _
theorem zeroOf_ok (ok : Nat → Prop) {t : TypeId} {z : List DE} (h : zeroOf P t = some z) (hone : onesD z = true) : ∃ u, (zeroValue t).run P w = .ok u w ∧ RCells w ok ρ blk isd z u.cells ∧ ∃ i, P.info? t = some i ∧ i.zero = some u := by
  unfold zeroOf at h
  cases hi : P.info? t with
  | none => rw [hi] at h; cases h
  | some i =>
    rw [hi] at h
    simp only [Option.bind_some] at h
    cases hz : i.zero with
    | none => rw [hz] at h; cases h
    | some u =>
      rw [hz] at h
      simp only [Option.map_some, Option.some.injEq] at h
      subst h
      have hget : ∀ k, k < u.cells.size → (u.cells.toList.map cst).getD k .any = cst (u.cells.getD k undef) := fun k hk => by
        simp [hk]
      refine ⟨u, by simp [zeroValue, typeInfo, hi, hz], ⟨by simp, fun k hk => ?_, fun k hk => ?_⟩, i, rfl, hz⟩
      · have hk' : k < u.cells.size := by simpa using hk
        have hm := List.all_eq_true.1 (show (List.map cst u.cells.toList).all _ = true from hone) (cst (u.cells.getD k undef)) (List.mem_map.2 ⟨u.cells[k], by simp, by simp [hk']⟩)
        generalize u.cells.getD k undef = y at hm ⊢
        cases y <;> first | rfl | exact hm
      · have hk' : k < u.cells.size := by simpa using hk
        rw [hget k hk']
        exact cst_ok ok _
theorem op_alloc {t : TypeId} (ho : o.op = .alloc t) (hV : VOk V tm blk) (h : HR base w0 ok0 isd tm blk ρ a w) (hst : ¬ isd st) {δ : Delta} (hv : Valid P Γ o st V δ) : Goes P base w0 ok0 isd tm blk st a w o δ := by
  simp only [Valid, opD, ho] at hv
  split at hv
  · rename_i z hz
    split at hv
    · rename_i hone
      obtain rfl := hv.det0
      obtain ⟨u, hu, hc, _⟩ := zeroOf_ok (w := w) (ρ := ρ) (blk := blk) (isd := isd) (okF base ok0 blk ρ) hz hone
      exact goes_run (by simp [execOp, ho, Instr.alloc, hu, newVar, newRow, newObj, Sem.run]) (h.newCells hst o.dst t z u.cells hc)
    · exact hv.elim
  · exact hv.elim
theorem op_box {t : TypeId} {x : Operand} (ho : o.op = .box t x) (hV : VOk V tm blk) (h : HR base w0 ok0 isd tm blk ρ a w) (hst : ¬ isd st) {δ : Delta} (hv : Valid P Γ o st V δ) : Goes P base w0 ok0 isd tm blk st a w o δ := by
  have hx := ev_ok hV h x
  simp only [Valid, opD, ho] at hv
  split at hv
  · rename_i cs obs hs
    obtain ⟨hobs, rfl⟩ := hv
    obtain ⟨hc, _⟩ := split_ok hs hobs hx
    exact goes_run (by simp [execOp, ho, Instr.box, newVar, newRow, newObj, Sem.run]) (h.newCells hst o.dst t cs _ hc)
  · exact hv.elim
/-- Cells are laid over cells. -/
theorem lay_ok {ok : Nat → Prop} {l cs l' : List DE} {k : Nat} {vs us : Array Value} (hl : lay l k cs = some l') (h1 : RCells w ok ρ blk isd l vs) (h2 : RCells w ok ρ blk isd cs us) :
    k + cs.length ≤ l.length ∧ RCells w ok ρ blk isd l' (vs.toList.take k ++ us.toList ++ vs.toList.drop (k + us.size)).toArray := by
  unfold lay at hl
  split at hl
  · rename_i hle
    simp only [Option.some.injEq] at hl
    subst hl
    refine ⟨hle, ?_⟩
    have e1 := h1.1
    have e2 := h2.1
    have hlen : ((vs.toList.take k ++ us.toList ++ vs.toList.drop (k + us.size)).toArray).size = l.length := by simp; omega
    have hget : ∀ i, i < l.length → ((l.take k ++ cs ++ l.drop (k + cs.length)).getD i .any = (if i < k then l.getD i .any else if i < k + cs.length then cs.getD (i - k) .any else l.getD i .any)) ∧ ((vs.toList.take k ++ us.toList ++ vs.toList.drop (k + us.size)).toArray.getD i undef = (if i < k then vs.getD i undef else if i < k + cs.length then us.getD (i - k) undef else vs.getD i undef)) := by
      intro i hi
      constructor
      · simp only [List.getD_eq_getElem?_getD]
        by_cases c1 : i < k
        · rw [if_pos c1, List.append_assoc, List.getElem?_append_left (by simp; omega), List.getElem?_take, if_pos c1]
        · rw [if_neg c1]
          by_cases c2 : i < k + cs.length
          · rw [if_pos c2, List.append_assoc, List.getElem?_append_right (by simp; omega), List.getElem?_append_left (by simp; omega)]
            congr 2; simp; omega
          · rw [if_neg c2, List.getElem?_append_right (by simp; omega), List.getElem?_drop]
            congr 2; simp; omega
      · simp only [Array.getD_eq_getD_getElem?, List.getElem?_toArray]
        by_cases c1 : i < k
        · rw [if_pos c1, List.append_assoc, List.getElem?_append_left (by simp; omega), List.getElem?_take, if_pos c1]; simp
        · rw [if_neg c1]
          by_cases c2 : i < k + cs.length
          · rw [if_pos c2, List.append_assoc, List.getElem?_append_right (by simp; omega), List.getElem?_append_left (by simp; omega), Array.getElem?_toList]
            congr 2; simp; omega
          · rw [if_neg c2, List.getElem?_append_right (by simp; omega), List.getElem?_drop, Array.getElem?_toList]
            congr 2; simp; omega
    have hl2 : (l.take k ++ cs ++ l.drop (k + cs.length)).length = l.length := by simp; omega
    refine ⟨by rw [hlen, hl2], fun i hi => ?_, fun i hi => ?_⟩
    · rw [(hget i (hl2 ▸ hi)).2]
      split
      · exact h1.2.1 i (hl2 ▸ hi)
      · split
        · exact h2.2.1 _ (by omega)
        · exact h1.2.1 i (hl2 ▸ hi)
    · rw [(hget i (hl2 ▸ hi)).1, (hget i (hl2 ▸ hi)).2]
      split
      · exact h1.2.2 i (hl2 ▸ hi)
      · split
        · exact h2.2.2 _ (by omega)
        · exact h1.2.2 i (hl2 ▸ hi)
  · cases hl
theorem RCells.ones {ok : Nat → Prop} {cs : List DE} {vs : Array Value} (h : RCells w ok ρ blk isd cs vs) : ∀ u ∈ vs.toList, u.oneCell' = true := by
  intro u hu
  obtain ⟨i, hi, rfl⟩ := List.getElem_of_mem hu
  have hi' : i < vs.size := by simpa using hi
  have := h.2.1 i (by rw [← h.1]; exact hi')
  simpa [hi'] using this
/-- A store into a variable of cells. -/
theorem HR.storeCells (h : HR base w0 ok0 isd tm blk ρ a w) {b t g : Nat} {cs cs' : List DE} {vs vs' : Array Value} (hb : blk b = .cells t cs) (hρ : ρ b = .pointer (some ⟨g, 0, none⟩)) (hg : w.heap[g]? = some (.cells vs t (0, 0))) (hc : RCells w (okF base ok0 blk ρ) ρ blk isd cs' vs') (st : Nat) (dst : Option Nat) :
    HR base w0 ok0 (NewI isd st) (setD tm dst .any) (updB blk [(b, .cells t cs')]) ρ (a.put dst undef) (w.setRow g vs') := by
  have hbb : ∀ b', updB blk [(b, .cells t cs')] b' = if b' = b then .cells t cs' else blk b' := fun b' => by rw [updB_cons]; rfl
  have hlive : isLive (blk b) = true := by rw [hb]; rfl
  refine h.step (fun b' => b' = b) (fun b' hc => ?_) (fun _ _ => rfl) (fun _ _ _ _ _ => rfl) (fun b' n y hc hk => ?_) (fun n hn => .inl hn) (fun b' hc => ?_) (fun b' n hc hn hs => ?_) (by simp) (fun g' hlt hno => setRow_other w g g' _ ?_) (fun b' hc _ g' hg' => ?_) (fun b1 b2 hc hc' _ _ hne => absurd (hc.trans hc'.symm) hne) rfl rfl rfl (fun H1 H5 b' hc' => ?_) (fun H1 t => ?_) ?_ ?_
  · rw [hbb, if_neg hc]
  · subst hc; rw [hb] at hk; cases hk
  · subst hc
    left
    apply Classical.byContradiction
    intro hni
    have := h.frs _ hni
    rw [hb] at this; cases this
  · subst hc; rw [hbb, if_pos rfl] at hs; cases hs
  · intro e
    exact hno b rfl hlive (by rw [hρ, e]; rfl)
  · subst hc; exact .inl ⟨hlive, hg'⟩
  · subst hc'
    rw [hbb, if_pos rfl]
    obtain ⟨g2, vs2, e1, e2, _⟩ := h.cells hb
    rw [hρ] at e1
    injection e1 with e1
    injection e1 with e1
    injection e1 with e1
    subst e1
    exact ⟨g, vs', hρ, e2, setRow_heap w g vs vs' t _ hg, hc.1, hc.2.1, fun i hi => H5 _ _ (hc.2.2 i hi)⟩
  · rcases setD_get h.size dst .any undef t with ⟨e1, e2⟩ | ⟨e1, e2⟩
    · exact .inl ⟨e1, e2⟩
    · right; rw [e1]; exact .any _
  · rw [put_size, setD_len, h.size]
  · exact put_defers _ _ _
end
end Go.Proofs.Ytfdpbfdhcngfgaa
