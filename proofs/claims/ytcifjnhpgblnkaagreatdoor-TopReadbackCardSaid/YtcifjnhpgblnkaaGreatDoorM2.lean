/- Texts of one proof, part 2: plain values, a run over them, contracts of functions. -/
import Derived.Test.YtcifjnhpgblnkaaGreatDoorM1
import Derived.IntWalk
import Derived.Laws.MakeOwn
import Derived.Shelf.RegionOpenPlain
import Derived.WalkKit
import Derived.Deep.RegionLaw
import Derived.Deep.Upon
import Derived.Lib.Walk
import Derived.Lib.SliceRun
import Derived.Laws.Cover3
namespace Go.Proofs.YtcifjnhpgblnkaaGreatDoor
open Go.RowKit
set_option linter.unusedVariables false
set_option linter.unusedSimpArgs false
section
variable {P : Program} {base : Nat} {w0 : World} {ok0 isd : Nat → Prop} {tm : List DE} {blk : Nat → DB} {ρ : Nat → Value} {a : Act} {w : World} {V : View} {st : Nat} {o : Oper} {Γ : FuncId → Option Ca}
theorem frz_find (V : View) (r : List Nat) (b : Nat) : (V.frz r).find? (·.1 == b) = if b ∈ r then (match V.bl b with | .row _ _ n x => some (b, .fz n x) | _ => none) else none := by
 induction r with
 | nil => rfl
 | cons c r ih =>
  simp only [View.frz, List.filterMap_cons] at ih ⊢
  by_cases e : c = b
  ·subst e
   cases hk : V.bl c with
   | row e' s n x => simp [hk]
   | _ =>
    simp only [hk] at ih ⊢
    rw [ih]
    simp
  ·have hne : b ≠ c := fun h => e h.symm
   cases hk : V.bl c with
   | row e' s n x =>
    simp only [hk, List.find?_cons]
    have : (c == b) = false := by simpa using e
    simp only [this]
    rw [ih]
    simp [hne]
   | _ =>
    simp only [hk]
    rw [ih]
    simp [hne]
theorem updB_frz (V : View) (r : List Nat) (b : Nat) : updB blk (V.frz r) b = if b ∈ r then (match V.bl b with | .row _ _ n x => .fz n x | _ => blk b) else blk b := by
 unfold updB
 rw [frz_find]
 by_cases hb : b ∈ r
 ·simp only [hb, if_true]
  cases hk : V.bl b <;> rfl
 ·simp only [hb, if_false]
theorem updB_append (bs cs : List (Nat × DB)) : updB blk (bs ++ cs) = updB (updB blk cs) bs := by
 funext b
 unfold updB
 rw [List.find?_append]
 cases h : bs.find? (·.1 == b) <;> simp
theorem updB_cons (b' : Nat) (d : DB) (cs : List (Nat × DB)) (b : Nat) : updB blk ((b', d) :: cs) b = if b = b' then d else updB blk cs b := by
 unfold updB
 by_cases e : b = b'
 ·subst e; simp
 ·have : (b' == b) = false := by simpa using fun x => e x.symm
  simp [this, e]
theorem HR.freeze (hV : VOk V tm blk) (h : HR base w0 ok0 isd tm blk ρ a w) (r : List Nat) : HR base w0 ok0 isd tm (updB blk (V.frz r)) ρ a w := by
 have hspec : ∀ b, b ∈ r → ∀ e s n x, V.bl b = .row e s n x → blk b = .row e s n x ∧ updB blk (V.frz r) b = .fz n x := fun b hb e s n x hk => by
  refine ⟨hV.row hk, ?_⟩
  rw [updB_frz, if_pos hb, hk]
 refine h.step (fun b => b ∈ r ∧ ∃ e s n x, V.bl b = .row e s n x) (fun b hc => ?_) (fun _ _ => rfl) (fun _ _ _ _ _ => rfl) (fun b n x hc hk => ?_) (fun _ hn => hn) (fun b hc => ?_) (fun b n hc hn hs => ?_) (Nat.le_refl _) (fun _ _ _ => rfl) (fun b hc hl => ?_) (fun b b' hc hc' hl => ?_) rfl rfl rfl (fun H1 H5 b hc => ?_) (fun _ t => .inl ⟨rfl, rfl⟩) h.size rfl
 ·rw [updB_frz]
  split
  ·rename_i hb
   cases hk : V.bl b with
   | row e s n x => exact absurd ⟨hb, e, s, n, x, hk⟩ hc
   | _ => rfl
  ·rfl
 ·obtain ⟨hb, e, s, m, y, hr⟩ := hc
  rw [(hspec b hb e s m y hr).1] at hk; cases hk
 ·obtain ⟨hb, e, s, m, y, hr⟩ := hc
  apply Classical.byContradiction
  intro hni
  have := h.frs b hni
  rw [(hspec b hb e s m y hr).1] at this; cases this
 ·obtain ⟨hb, e, s, m, y, hr⟩ := hc
  rw [(hspec b hb e s m y hr).2] at hs
  rw [(hspec b hb e s m y hr).1]
  exact ⟨hs, rfl⟩
 ·obtain ⟨hb, e, s, m, y, hr⟩ := hc
  rw [(hspec b hb e s m y hr).2] at hl; cases hl
 ·obtain ⟨hb, e, s, m, y, hr⟩ := hc
  rw [(hspec b hb e s m y hr).2] at hl; cases hl
 ·obtain ⟨hb, e, s, m, y, hr⟩ := hc
  obtain ⟨k1, k2⟩ := hspec b hb e s m y hr
  have hrow := h.row k1
  have hi : isd m := by have := h.blks b; rw [k1] at this; exact this.1
  rw [k2]
  refine ⟨hi, hrow.rv (fun g hg hlt => (H1 g hg hlt).1) (fun g hg => ?_), fun g => hrow.notPtr _⟩
  have hbn : blkNo (ρ b) = some g := hrow.blkNo_eq ▸ hg
  refine ⟨fun hlt => absurd (h.live_lt (by rw [k1]; rfl) hbn).1 (by omega), fun b' hl' e' => ?_⟩
  by_cases hbb : b' = b
  ·subst hbb; rw [k2] at hl'; cases hl'
  ·have hl2 : isLive (blk b') = true := by
    rw [updB_frz] at hl'
    split at hl'
    ·split at hl'
     ·cases hl'
     ·exact hl'
    ·exact hl'
   exact h.inj b b' (by rw [k1]; rfl) hl2 (fun x => hbb x.symm) g hbn e'
theorem pc_frz (hV : VOk V tm blk) (h : HR base w0 ok0 isd tm blk ρ a w) {d : DE} {v : Value} (hd : RD w (okF base ok0 blk ρ) ρ blk isd d v) {x : AV} {r r' : List Nat} (hp : V.pc d = some (x, r')) (hr : ∀ b ∈ r', b ∈ r) :
  RV w (okF base ok0 (updB blk (V.frz r)) ρ) x v := by
 have h' := h.freeze hV r
 have hd' : RD w (okF base ok0 (updB blk (V.frz r)) ρ) ρ (updB blk (V.frz r)) isd d v := by
  refine hd.mono (fun g hg hlt => ⟨⟨hg.1, fun b hl => ?_⟩, rfl⟩) (fun _ _ _ => rfl) (fun _ hn => hn) (fun b n hn hs => ⟨?_, rfl⟩)
  ·rw [updB_frz] at hl
   split at hl
   ·split at hl
    ·cases hl
    ·exact hg.2 b hl
   ·exact hg.2 b hl
  ·rw [updB_frz] at hs
   split at hs
   ·split at hs
    ·rename_i e s m y hk
     rw [hV.row hk]; exact hs
    ·exact hs
   ·exact hs
 cases d with
 | v y =>
  simp only [View.pc, Option.some.injEq, Prod.mk.injEq] at hp
  obtain ⟨rfl, rfl⟩ := hp
  cases hd' with | v _ _ hh => exact hh
 | c y =>
  simp only [View.pc, Option.some.injEq, Prod.mk.injEq] at hp
  obtain ⟨rfl, rfl⟩ := hp
  cases hd'; exact .lit _
 | nil =>
  simp only [View.pc, Option.some.injEq, Prod.mk.injEq] at hp
  obtain ⟨rfl, rfl⟩ := hp
  cases hd'; exact .lit _
 | row b n =>
  simp only [View.pc] at hp
  cases hd with
  | row _ _ _ hn _ hs =>
   have hb := h'.blks b
   split at hp
   ·rename_i e s m y hk
    split at hp
    ·rename_i hmn
     simp only [Option.some.injEq, Prod.mk.injEq] at hp
     obtain ⟨rfl, rfl⟩ := hp
     have : updB blk (V.frz r) b = .fz m y := by rw [updB_frz, if_pos (hr b (by simp)), hk]
     rw [this] at hb
     rw [hs (by rw [hV.row hk, hmn]; rfl)]
     exact hb.2.1
    ·cases hp
   ·rename_i m y hk
    split at hp
    ·rename_i hmn
     simp only [Option.some.injEq, Prod.mk.injEq] at hp
     obtain ⟨rfl, rfl⟩ := hp
     have : updB blk (V.frz r) b = .fz m y := by
      rw [updB_frz, hk]
      split <;> exact hV.fz hk
     rw [this] at hb
     rw [hs (by rw [hV.fz hk, hmn]; rfl)]
     exact hb.2.1
    ·cases hp
   ·cases hp
 | _ => simp only [View.pc] at hp; cases hp

theorem HR.newCells (h : HR base w0 ok0 isd tm blk ρ a w) (hst : ¬ isd st) (dst : Option Nat) (t : TypeId) (cs : List DE) (vs : Array Value) (hc : RCells w (okF base ok0 blk ρ) ρ blk isd cs vs) :
  HR base w0 ok0 (NewI isd st) (setD tm dst (.ptr st 0)) (updB blk [(st, .cells t cs)]) (fun b => if b = st then .pointer (some ⟨w.heap.size, 0, none⟩) else ρ b) (a.put dst (.pointer (some ⟨w.heap.size, 0, none⟩))) (w.alloc (.cells vs t)) := by
 have hdead := h.frs st hst
 have hb : ∀ b, updB blk [(st, .cells t cs)] b = if b = st then .cells t cs else blk b := fun b => by rw [updB_cons]; rfl
 refine h.step (fun b => b = st) (fun b hc => ?_) (fun b hc => ?_) (fun b t cs hc hk => ?_) (fun b n y hc hk => ?_) (fun n hn => .inl hn) (fun b hc => .inr (by omega)) (fun b n hc hn hs => ?_) (by simp) (fun g hlt _ => Below.heap_alloc w _ g hlt) (fun b hc _ g hg' => ?_) (fun b b' hc hc' _ _ hne => absurd (hc.trans hc'.symm) hne) rfl rfl rfl (fun H1 H5 b hc' => ?_) (fun H1 t => ?_) ?_ ?_
 ·rw [hb, if_neg hc]
 ·show (if b = st then _ else ρ b) = ρ b
  rw [if_neg hc]
 ·subst hc; rw [hdead] at hk; cases hk
 ·subst hc; rw [hdead] at hk; cases hk
 ·subst hc
  rw [hb, if_pos rfl] at hs
  cases hs
 ·subst hc
  right
  simp only [if_true, blkNo, Option.some.injEq] at hg'
  omega
 ·subst hc'
  rw [hb, if_pos rfl]
  exact ⟨w.heap.size, vs, by simp, h.low, heap_alloc_new w _, hc.1, hc.2.1, fun i hi => H5 _ _ (hc.2.2 i hi)⟩
 ·rcases setD_get h.size dst (.ptr st 0) (.pointer (some ⟨w.heap.size, 0, none⟩)) t with ⟨e1, e2⟩ | ⟨e1, e2⟩
  ·exact .inl ⟨e1, e2⟩
  ·right; rw [e1, e2]
   exact .ptr st 0 w.heap.size (by simp)
 ·rw [put_size, setD_len, h.size]
 ·exact put_defers _ _ _
theorem cst_ok (ok : Nat → Prop) (v : Value) : RD w ok ρ blk isd (cst v) v := by
 unfold cst
 split
 ·exact .nil
 ·exact .c _
theorem zeroOf_ok (ok : Nat → Prop) {t : TypeId} {z : List DE} (h : zeroOf P t = some z) (hone : onesD z = true) : ∃ u, (zeroValue t).run P w = .ok u w ∧ RCells w ok ρ blk isd z u.cells ∧ ∃ i, P.info? t = some i ∧ i.zero = some u := by
 unfold zeroOf at h
 cases hi : P.info? t with
 | none => rw [hi] at h; cases h
 | some i =>
  rw [hi] at h
  simp only [Option.bind_some] at h
  cases hz : i.zero with
  | none => rw [hz] at h; cases h
  | some u =>
   rw [hz] at h
   simp only [Option.map_some, Option.some.injEq] at h
   subst h
   have hget : ∀ k, k < u.cells.size → (u.cells.toList.map cst).getD k .any = cst (u.cells.getD k undef) := fun k hk => by
    simp [hk]
   refine ⟨u, by simp [zeroValue, typeInfo, hi, hz], ⟨by simp, fun k hk => ?_, fun k hk => ?_⟩, i, rfl, hz⟩
   ·have hk' : k < u.cells.size := by simpa using hk
    have hm := List.all_eq_true.1 (show (List.map cst u.cells.toList).all _ = true from hone) (cst (u.cells.getD k undef)) (List.mem_map.2 ⟨u.cells[k], by simp, by simp [hk']⟩)
    generalize u.cells.getD k undef = y at hm ⊢
    cases y <;> first | rfl | exact hm
   ·have hk' : k < u.cells.size := by simpa using hk
    rw [hget k hk']
    exact cst_ok ok _
theorem op_alloc {t : TypeId} (ho : o.op = .alloc t) (hV : VOk V tm blk) (h : HR base w0 ok0 isd tm blk ρ a w) (hst : ¬ isd st) {δ : Delta} (hv : Valid P Γ o st V δ) : Goes P base w0 ok0 isd tm blk st a w o δ := by
 simp only [Valid, opD, ho] at hv
 split at hv
 ·rename_i z hz
  split at hv
  ·rename_i hone
   obtain rfl := hv.det0
   obtain ⟨u, hu, hc, _⟩ := zeroOf_ok (w := w) (ρ := ρ) (blk := blk) (isd := isd) (okF base ok0 blk ρ) hz hone
   exact goes_run (by simp [execOp, ho, Instr.alloc, hu, newVar, newRow, newObj, Sem.run]) (h.newCells hst o.dst t z u.cells hc)
  ·exact hv.elim
 ·exact hv.elim
theorem op_box {t : TypeId} {x : Operand} (ho : o.op = .box t x) (hV : VOk V tm blk) (h : HR base w0 ok0 isd tm blk ρ a w) (hst : ¬ isd st) {δ : Delta} (hv : Valid P Γ o st V δ) : Goes P base w0 ok0 isd tm blk st a w o δ := by
 have hx := ev_ok hV h x
 simp only [Valid, opD, ho] at hv
 split at hv
 ·rename_i cs obs hs
  obtain ⟨hobs, rfl⟩ := hv
  obtain ⟨hc, _⟩ := split_ok hs hobs hx
  exact goes_run (by simp [execOp, ho, Instr.box, newVar, newRow, newObj, Sem.run]) (h.newCells hst o.dst t cs _ hc)
 ·exact hv.elim
theorem lay_ok {ok : Nat → Prop} {l cs l' : List DE} {k : Nat} {vs us : Array Value} (hl : lay l k cs = some l') (h1 : RCells w ok ρ blk isd l vs) (h2 : RCells w ok ρ blk isd cs us) :
  k + cs.length ≤ l.length ∧ RCells w ok ρ blk isd l' (vs.toList.take k ++ us.toList ++ vs.toList.drop (k + us.size)).toArray := by
 unfold lay at hl
 split at hl
 ·rename_i hle
  simp only [Option.some.injEq] at hl
  subst hl
  refine ⟨hle, ?_⟩
  have e1 := h1.1
  have e2 := h2.1
  have hlen : ((vs.toList.take k ++ us.toList ++ vs.toList.drop (k + us.size)).toArray).size = l.length := by simp; omega
  have hget : ∀ i, i < l.length → ((l.take k ++ cs ++ l.drop (k + cs.length)).getD i .any = (if i < k then l.getD i .any else if i < k + cs.length then cs.getD (i - k) .any else l.getD i .any)) ∧ ((vs.toList.take k ++ us.toList ++ vs.toList.drop (k + us.size)).toArray.getD i undef = (if i < k then vs.getD i undef else if i < k + cs.length then us.getD (i - k) undef else vs.getD i undef)) := by
   intro i hi
   constructor
   ·simp only [List.getD_eq_getElem?_getD]
    by_cases c1 : i < k
    ·rw [if_pos c1, List.append_assoc, List.getElem?_append_left (by simp; omega), List.getElem?_take, if_pos c1]
    ·rw [if_neg c1]
     by_cases c2 : i < k + cs.length
     ·rw [if_pos c2, List.append_assoc, List.getElem?_append_right (by simp; omega), List.getElem?_append_left (by simp; omega)]
      congr 2; simp; omega
     ·rw [if_neg c2, List.getElem?_append_right (by simp; omega), List.getElem?_drop]
      congr 2; simp; omega
   ·simp only [Array.getD_eq_getD_getElem?, List.getElem?_toArray]
    by_cases c1 : i < k
    ·rw [if_pos c1, List.append_assoc, List.getElem?_append_left (by simp; omega), List.getElem?_take, if_pos c1]; simp
    ·rw [if_neg c1]
     by_cases c2 : i < k + cs.length
     ·rw [if_pos c2, List.append_assoc, List.getElem?_append_right (by simp; omega), List.getElem?_append_left (by simp; omega), Array.getElem?_toList]
      congr 2; simp; omega
     ·rw [if_neg c2, List.getElem?_append_right (by simp; omega), List.getElem?_drop, Array.getElem?_toList]
      congr 2; simp; omega
  have hl2 : (l.take k ++ cs ++ l.drop (k + cs.length)).length = l.length := by simp; omega
  refine ⟨by rw [hlen, hl2], fun i hi => ?_, fun i hi => ?_⟩
  ·rw [(hget i (hl2 ▸ hi)).2]
   split
   ·exact h1.2.1 i (hl2 ▸ hi)
   ·split
    ·exact h2.2.1 _ (by omega)
    ·exact h1.2.1 i (hl2 ▸ hi)
  ·rw [(hget i (hl2 ▸ hi)).1, (hget i (hl2 ▸ hi)).2]
   split
   ·exact h1.2.2 i (hl2 ▸ hi)
   ·split
    ·exact h2.2.2 _ (by omega)
    ·exact h1.2.2 i (hl2 ▸ hi)
 ·cases hl
theorem RCells.ones {ok : Nat → Prop} {cs : List DE} {vs : Array Value} (h : RCells w ok ρ blk isd cs vs) : ∀ u ∈ vs.toList, u.oneCell' = true := by
 intro u hu
 obtain ⟨i, hi, rfl⟩ := List.getElem_of_mem hu
 have hi' : i < vs.size := by simpa using hi
 have := h.2.1 i (by rw [← h.1]; exact hi')
 simpa [hi'] using this
theorem HR.storeCells (h : HR base w0 ok0 isd tm blk ρ a w) {b t g : Nat} {cs cs' : List DE} {vs vs' : Array Value} (hb : blk b = .cells t cs) (hρ : ρ b = .pointer (some ⟨g, 0, none⟩)) (hg : w.heap[g]? = some (.cells vs t (0, 0))) (hc : RCells w (okF base ok0 blk ρ) ρ blk isd cs' vs') (st : Nat) (dst : Option Nat) :
  HR base w0 ok0 (NewI isd st) (setD tm dst .any) (updB blk [(b, .cells t cs')]) ρ (a.put dst undef) (w.setRow g vs') := by
 have hbb : ∀ b', updB blk [(b, .cells t cs')] b' = if b' = b then .cells t cs' else blk b' := fun b' => by rw [updB_cons]; rfl
 have hlive : isLive (blk b) = true := by rw [hb]; rfl
 refine h.step (fun b' => b' = b) (fun b' hc => ?_) (fun _ _ => rfl) (fun _ _ _ _ _ => rfl) (fun b' n y hc hk => ?_) (fun n hn => .inl hn) (fun b' hc => ?_) (fun b' n hc hn hs => ?_) (by simp) (fun g' hlt hno => setRow_other w g g' _ ?_) (fun b' hc _ g' hg' => ?_) (fun b1 b2 hc hc' _ _ hne => absurd (hc.trans hc'.symm) hne) rfl rfl rfl (fun H1 H5 b' hc' => ?_) (fun H1 t => ?_) ?_ ?_
 ·rw [hbb, if_neg hc]
 ·subst hc; rw [hb] at hk; cases hk
 ·subst hc
  left
  apply Classical.byContradiction
  intro hni
  have := h.frs _ hni
  rw [hb] at this; cases this
 ·subst hc; rw [hbb, if_pos rfl] at hs; cases hs
 ·intro e
  exact hno b rfl hlive (by rw [hρ, e]; rfl)
 ·subst hc; exact .inl ⟨hlive, hg'⟩
 ·subst hc'
  rw [hbb, if_pos rfl]
  obtain ⟨g2, vs2, e1, e2, _⟩ := h.cells hb
  rw [hρ] at e1
  injection e1 with e1
  injection e1 with e1
  injection e1 with e1
  subst e1
  exact ⟨g, vs', hρ, e2, setRow_heap w g vs vs' t _ hg, hc.1, hc.2.1, fun i hi => H5 _ _ (hc.2.2 i hi)⟩
 ·rcases setD_get h.size dst .any undef t with ⟨e1, e2⟩ | ⟨e1, e2⟩
  ·exact .inl ⟨e1, e2⟩
  ·right; rw [e1]; exact .any _
 ·rw [put_size, setD_len, h.size]
 ·exact put_defers _ _ _
end
end Go.Proofs.YtcifjnhpgblnkaaGreatDoor
namespace Go.Proofs.YtcifjnhpgblnkaaGreatDoor
open Go.RowKit
set_option linter.unusedVariables false
set_option linter.unusedSimpArgs false
theorem seg_get {α : Type} (l c : List α) (k i : Nat) (z : α) (h : k + c.length ≤ l.length) : (l.take k ++ c ++ l.drop (k + c.length)).getD i z = if i < k then l.getD i z else if i < k + c.length then c.getD (i - k) z else l.getD i z := by
 simp only [List.getD_eq_getElem?_getD]
 by_cases c1 : i < k
 ·rw [if_pos c1, List.append_assoc, List.getElem?_append_left (by simp; omega), List.getElem?_take, if_pos c1]
 ·rw [if_neg c1]
  by_cases c2 : i < k + c.length
  ·rw [if_pos c2, List.append_assoc, List.getElem?_append_right (by simp; omega), List.getElem?_append_left (by simp; omega)]
   congr 2; simp; omega
  ·rw [if_neg c2, List.getElem?_append_right (by simp; omega), List.getElem?_drop]
   congr 2; simp; omega
section
variable {P : Program} {base : Nat} {w0 : World} {ok0 isd : Nat → Prop} {tm : List DE} {blk : Nat → DB} {ρ : Nat → Value} {a : Act} {w : World} {V : View} {st : Nat} {o : Oper} {Γ : FuncId → Option Ca}
theorem run_storeVar {t : TypeId} (hz : P.cellsOf t ≠ 0) {v : Value} (hs : v.cells.size = P.cellsOf t) (g k : Nat) (t' : TypeId) (cur : Array Value) (hg : w.heap[g]? = some (.cells cur t' (0, 0))) (hl : k + v.cells.size ≤ cur.size) (h1 : ∀ u ∈ v.cells.toList, u.oneCell' = true) :
  (storeVar t ⟨g, k, none⟩ v).run P w = .ok () (w.setRow g (cur.toList.take k ++ v.cells.toList ++ cur.toList.drop (k + v.cells.size)).toArray) := by
 have := run_storeCells_at (P := P) g k t' v.cells.toList 0 cur w hg (by simpa using hl) h1
 simp only [Nat.add_zero, Array.length_toList] at this
 unfold storeVar
 simp [sizeOf_run (w := w) hz, hs, this]
theorem RRow.set {B e s : Nat} {okc : Nat → Prop} {x : AV} {g n c : Nat} (h : RRow w B e s okc x (.slice (some ⟨g, 0, none⟩) n c)) (i : AV) (j : Nat) (ys : List AV) (us : Array Value) (hi : 0 ≤ i.num) (hi2 : i.num < x.els.length) (hj : j + ys.length ≤ s) (hu : us.size = ys.length) (hone : ∀ u ∈ us.toList, u.oneCell' = true)
  (hv : ∀ k, k < ys.length → RV w okc (ys.getD k default) (us.getD k undef)) :
  ∃ (cur : Array Value), w.heap[g]? = some (.cells cur e (0, 0)) ∧ i.num.toNat * s + j + us.size ≤ cur.size ∧ B ≤ g ∧
   ∀ okc' : Nat → Prop, (∀ g', okc g' → g' < w.heap.size → okc' g' ∧ g' ≠ g) → RRow (w.setRow g (cur.toList.take (i.num.toNat * s + j) ++ us.toList ++ cur.toList.drop (i.num.toNat * s + j + us.size)).toArray) B e s okc' (x.setEl i j ys) (.slice (some ⟨g, 0, none⟩) n c) := by
 obtain ⟨L, xs, rfl, hs, hL, ho, hone1, hv1⟩ := h
 rcases ho.2 with ⟨e1, _⟩ | ⟨g2, cap, cur, e1, hb, hg, hn, hm, hsz, htk⟩
 ·cases e1
 ·injection e1 with e1 e2 e3
  injection e1 with e1
  injection e1 with e1
  subst e1 e2 e3
  generalize hI : i.num.toNat = I
  have hIl : I < L.length := by have : i.num < (L.length : Nat) := hi2; omega
  have hIs : (I + 1) * s ≤ L.length * s := Nat.mul_le_mul_right _ hIl
  have hcs : L.length * s ≤ c * s := Nat.mul_le_mul_right _ hn
  rw [Nat.add_mul] at hIs
  have hfit : I * s + j + us.size ≤ cur.size := by rw [hsz]; omega
  have hfit2 : I * s + j + us.toList.length ≤ cur.toList.length := by simpa using hfit
  refine ⟨cur, hg, hfit, hb, fun okc' hk => ?_⟩
  have hkeep : ∀ (y : AV) (v : Value), RV w okc y v → RV (w.setRow g (cur.toList.take (I * s + j) ++ us.toList ++ cur.toList.drop (I * s + j + us.size)).toArray) okc' y v := fun y v hy =>
   hy.mono fun g' hg' hlt => ⟨(hk g' hg' hlt).1, setRow_other w g g' _ (hk g' hg' hlt).2⟩
  have hlI : (L.getD I []).length = s := by
   rw [List.getD_eq_getElem?_getD, List.getElem?_eq_getElem hIl]; exact hL _ (List.getElem_mem hIl)
  have hnewlen : ((L.getD I []).take j ++ ys ++ (L.getD I []).drop (j + ys.length)).length = s := by simp [-List.getD_eq_getElem?_getD, hlI]; omega
  have hxs : ∀ k, k < L.length * s → xs.getD k undef = cur.toList.getD k undef := fun k hk => by
   rw [← htk]
   simp only [List.getD_eq_getElem?_getD, List.getElem?_take]
   rw [if_pos hk]
  have hnew : ∀ k, k < L.length * s → ((cur.toList.take (I * s + j) ++ us.toList ++ cur.toList.drop (I * s + j + us.size)).take (L.length * s)).getD k undef = if k < I * s + j then cur.toList.getD k undef else if k < I * s + j + us.size then us.toList.getD (k - (I * s + j)) undef else cur.toList.getD k undef := fun k hk => by
   have := seg_get cur.toList us.toList (I * s + j) k undef hfit2
   rw [Array.length_toList] at this
   rw [← this]
   simp only [List.getD_eq_getElem?_getD, List.getElem?_take]
   rw [if_pos hk]
  have hlen' : ((cur.toList.take (I * s + j) ++ us.toList ++ cur.toList.drop (I * s + j + us.size))).length = cur.size := by simp; omega
  refine ⟨L.set I ((L.getD I []).take j ++ ys ++ (L.getD I []).drop (j + ys.length)), (cur.toList.take (I * s + j) ++ us.toList ++ cur.toList.drop (I * s + j + us.size)).take (L.length * s), by simp only [AV.setEl, hI], hs, fun y hy => ?_, ⟨?_, .inr ⟨g, c, _, by rw [List.length_set], hb, setRow_heap w g cur _ e _ hg, by rw [List.length_set]; exact hn, hm, ?_, ?_⟩⟩, fun u hu' => ?_, fun i' j' hi' hj' => ?_⟩
  ·rcases List.mem_or_eq_of_mem_set hy with h1 | h1
   ·exact hL y h1
   ·rw [h1]; exact hnewlen
  ·rw [List.length_take, hlen', List.length_set, hsz]; omega
  ·rw [List.size_toArray, hlen', hsz]
  ·rw [List.length_set]
  ·have hm' := List.mem_of_mem_take hu'
   rw [List.append_assoc, List.mem_append, List.mem_append] at hm'
   have hcur : ∀ u, u ∈ (cur.toList.take (L.length * s)) → u.oneCell' = true := fun u hu => hone1 u (htk ▸ hu)
   obtain ⟨k, hk, hku⟩ := List.getElem_of_mem hu'
   have hk2 : k < L.length * s := by rw [List.length_take] at hk; omega
   have h3 := hnew k hk2
   rw [List.getD_eq_getElem?_getD, List.getElem?_eq_getElem hk, Option.getD_some, hku] at h3
   rw [h3]
   have hc1 : (cur.toList.getD k undef).oneCell' = true := by
    have hkc : k < cur.toList.length := by simp; omega
    rw [List.getD_eq_getElem?_getD, List.getElem?_eq_getElem hkc]
    refine hcur _ ?_
    rw [List.mem_take_iff_getElem]
    exact ⟨k, by simp; omega, rfl⟩
   split
   ·exact hc1
   ·split
    ·have : k - (I * s + j) < us.toList.length := by simp; omega
     rw [List.getD_eq_getElem?_getD, List.getElem?_eq_getElem this]
     exact hone _ (List.getElem_mem this)
    ·exact hc1
  ·rw [List.length_set] at hi'
   have hii : (i' + 1) * s ≤ L.length * s := Nat.mul_le_mul_right _ hi'
   rw [Nat.add_mul] at hii
   have hkk : i' * s + j' < L.length * s := by omega
   rw [hnew _ hkk]
   have hold := hkeep _ _ (hv1 i' j' hi' hj')
   rw [hxs _ hkk] at hold
   unfold gt2 at hold ⊢
   by_cases hii' : I = i'
   ·subst hii'
    have e4 : (L.set I ((L.getD I []).take j ++ ys ++ (L.getD I []).drop (j + ys.length))).getD I [] = ((L.getD I []).take j ++ ys ++ (L.getD I []).drop (j + ys.length)) := by
     rw [List.getD_eq_getElem?_getD, List.getElem?_set_self hIl]; rfl
    rw [e4, seg_get _ _ _ _ _ (by rw [hlI]; exact hj)]
    by_cases q1 : j' < j
    ·rw [if_pos q1, if_pos (show I * s + j' < I * s + j by omega)]; exact hold
    ·rw [if_neg q1, if_neg (show ¬ I * s + j' < I * s + j by omega)]
     by_cases q2 : j' < j + ys.length
     ·rw [if_pos q2, if_pos (show I * s + j' < I * s + j + us.size by omega)]
      have := hkeep _ _ (hv (j' - j) (by omega))
      have e5 : I * s + j' - (I * s + j) = j' - j := by omega
      rw [e5]
      simpa using this
     ·rw [if_neg q2, if_neg (show ¬ I * s + j' < I * s + j + us.size by omega)]; exact hold
   ·have e4 : (L.set I ((L.getD I []).take j ++ ys ++ (L.getD I []).drop (j + ys.length))).getD i' [] = L.getD i' [] := by
     rw [List.getD_eq_getElem?_getD, List.getElem?_set_ne hii']; simp
    rw [e4]
    rcases Nat.lt_or_gt_of_ne hii' with q | q
    ·have : (I + 1) * s ≤ i' * s := Nat.mul_le_mul_right _ q
     rw [Nat.add_mul] at this
     rw [if_neg (by omega), if_neg (by omega)]; exact hold
    ·have : (i' + 1) * s ≤ I * s := Nat.mul_le_mul_right _ q
     rw [Nat.add_mul] at this
     rw [if_pos (by omega)]; exact hold
theorem HR.updRow (h : HR base w0 ok0 isd tm blk ρ a w) {b e s n : Nat} {x : AV} (hb : blk b = .row e s n x) (n' : Nat) (hn' : n' = n ∨ n' = st) (hst : ¬ isd st) (x' : AV) (v' : Value) (hv : n' = n → v' = ρ b) (w' : World) (hg : w.grownBy w' (ρ b).ownBlock)
  (hR : ∀ ok' : Nat → Prop, (∀ g, okF base ok0 blk ρ g → g < w.heap.size → ok' g ∧ w'.heap[g]? = w.heap[g]?) → RRow w' base e s ok' x' v') (hnew : ∀ g, v'.ownBlock = some g → (ρ b).ownBlock = some g ∨ w.heap.size ≤ g)
  (dst : Option Nat) (d : DE) (u : Value) (hd : d = .any ∨ (∃ q, d = .tup [] ∧ u = .tuple q ∧ q = #[]) ∨ (d = .row b n' ∧ u = v')) (hdrn : w.drawn ≤ w'.drawn := by first | exact Nat.le_refl _ | exact Nat.le_succ _ | assumption) :
  HR base w0 ok0 (NewI isd st) (setD tm dst d) (updB blk [(b, .row e s n' x')]) (fun c => if c = b then v' else ρ c) (a.put dst u) w' := by
 have hbb : ∀ b', updB blk [(b, .row e s n' x')] b' = if b' = b then .row e s n' x' else blk b' := fun b' => by rw [updB_cons]; rfl
 have hlive : isLive (blk b) = true := by rw [hb]; rfl
 have hrow := h.row hb
 have hin : isd n := by have := h.blks b; rw [hb] at this; exact this.1
 have hib : isd b := by
  apply Classical.byContradiction
  intro hni
  have := h.frs _ hni
  rw [hb] at this; cases this
 have hn2 : NewI isd st n' := by rcases hn' with rfl | rfl; exact .inl hin; exact .inr (by omega)
 have hR0 := hR (fun _ => True) (fun g hg' hlt => ⟨trivial, hg.block g hlt (fun e => hg'.2 b hlive (by rw [← hrow.blkNo_eq]; exact e.symm))⟩)
 refine h.step (fun b' => b' = b) (fun b' hc => ?_) (fun b' hc => ?_) (fun b' t cs hc hk => ?_) (fun b' n y hc hk => ?_) (fun n hn => .inl hn) (fun b' hc => ?_) (fun b' m hc hm hs => ?_) hg.size (fun g' hlt hno => hg.block g' hlt (fun e => ?_)) (fun b' hc _ g' hg' => ?_) (fun b1 b2 hc hc' _ _ hne => absurd (hc.trans hc'.symm) hne) hg.os hg.tape hg.output (fun H1 H5 b' hc' => ?_) (fun H1 t => ?_) ?_ ?_
 ·rw [hbb, if_neg hc]
 ·show (if b' = b then v' else ρ b') = ρ b'
  rw [if_neg hc]
 ·subst hc; rw [hb] at hk; cases hk
 ·subst hc; rw [hb] at hk; cases hk
 ·subst hc; exact .inl hib
 ·subst hc
  rw [hbb, if_pos rfl] at hs
  have hs' : n' = m := by simpa [stampOf] using hs
  subst hs'
  rcases hn' with rfl | rfl
  ·refine ⟨by rw [hb]; rfl, ?_⟩
   show (if b' = b' then v' else ρ b') = ρ b'
   rw [if_pos rfl]; exact hv rfl
  ·exact absurd hm hst
 ·exact hno b rfl hlive (by rw [← hrow.blkNo_eq]; exact e.symm)
 ·subst hc
  simp only [if_true] at hg'
  rcases hnew g' (hR0.blkNo_eq ▸ hg') with h1 | h1
  ·exact .inl ⟨hlive, hrow.blkNo_eq ▸ h1⟩
  ·exact .inr h1
 ·subst hc'
  rw [hbb, if_pos rfl]
  refine ⟨hn2, ?_⟩
  show RRow w' base e s _ x' (if b' = b' then v' else ρ b')
  rw [if_pos rfl]
  exact hR _ H1
 ·rcases setD_get h.size dst d u t with ⟨e1, e2⟩ | ⟨e1, e2⟩
  ·exact .inl ⟨e1, e2⟩
  ·right; rw [e1, e2]
   rcases hd with rfl | ⟨q, rfl, rfl, rfl⟩ | ⟨rfl, rfl⟩
   ·exact .any _
   ·exact .tup [] #[] rfl (fun i hi => absurd hi (by simp))
   ·refine .row b n' u hn2 ?_ fun _ => by simp
    obtain ⟨A, m, c, rfl, _⟩ := hR0.form
    rfl
 ·rw [put_size, setD_len, h.size]
 ·exact put_defers _ _ _
theorem setEl_twice {x : AV} {s : Nat} (hx : x.isSl s) (hl : ∀ y ∈ x.els, y.length = s) {i i' : AV} (hi : i'.num.toNat < x.els.length) {j : Nat} (hj : j < s) (hs : i.num = i'.num) (y z : AV) : (x.setEl i' j [y]).setEl i j [z] = x.setEl i' j [z] := by
 obtain ⟨L, rfl⟩ : ∃ L, x = .sl s L := ⟨_, hx⟩
 simp only [AV.els] at hi hl
 have hll : (L.getD i'.num.toNat []).length = s := by
  rw [List.getD_eq_getElem?_getD, List.getElem?_eq_getElem hi]; exact hl _ (List.getElem_mem hi)
 simp only [AV.setEl, hs, List.set_set]
 have e : ∀ q, (L.set i'.num.toNat q).getD i'.num.toNat [] = q := fun q => by rw [List.getD_eq_getElem?_getD, List.getElem?_set_self hi]; rfl
 rw [e]
 generalize L.getD i'.num.toNat [] = q at *
 have e1 : (q.take j ++ [y] ++ q.drop (j + 1)).take j = q.take j := by
  rw [List.append_assoc, List.take_append_of_le_length (by simp; omega), List.take_take, Nat.min_self]
 have e2 : (q.take j ++ [y] ++ q.drop (j + 1)).drop (j + 1) = q.drop (j + 1) := by
  have e3 : (q.take j ++ [y]).length = j + 1 := by simp; omega
  rw [List.drop_append, List.drop_of_length_le (by omega), e3]
  simp
 simp only [List.length_cons, List.length_nil, Nat.zero_add]
 rw [e1, e2]
theorem HR.setHole (h : HR base w0 ok0 isd tm blk ρ a w) {b e s n j : Nat} {x i : AV} {d : DE} (hb : blk b = .rowh e s n x i j d) (d' : DE) (u' : Value) (hone : u'.oneCell' = true) (hd' : RD w (okF base ok0 blk ρ) ρ blk isd d' u') (w' : World) (hg : w.grownBy w' (ρ b).ownBlock)
  (hR : ∀ ok' : Nat → Prop, (∀ g, okF base ok0 blk ρ g → g < w.heap.size → ok' g ∧ w'.heap[g]? = w.heap[g]?) → RRow w' base e s ok' (x.setEl i j [.lit u']) (ρ b))
  (dst : Option Nat) (hdrn : w.drawn ≤ w'.drawn := by first | exact Nat.le_refl _ | exact Nat.le_succ _ | assumption) :
  HR base w0 ok0 (NewI isd st) (setD tm dst .any) (updB blk [(b, .rowh e s n x i j d')]) ρ (a.put dst undef) w' := by
 have hbb : ∀ b', updB blk [(b, .rowh e s n x i j d')] b' = if b' = b then .rowh e s n x i j d' else blk b' := fun b' => by rw [updB_cons]; rfl
 have hlive : isLive (blk b) = true := by rw [hb]; rfl
 obtain ⟨hin, c2, c3, c4, c5, u, c6, c7, hrow⟩ := h.rowh hb
 have hib : isd b := by
  apply Classical.byContradiction
  intro hni
  have := h.frs _ hni
  rw [hb] at this; cases this
 refine h.step (fun b' => b' = b) (fun b' hc => ?_) (fun b' hc => rfl) (fun b' t cs hc hk => ?_) (fun b' n y hc hk => ?_) (fun n hn => .inl hn) (fun b' hc => ?_) (fun b' m hc hm hs => ?_) hg.size (fun g' hlt hno => hg.block g' hlt (fun e => ?_)) (fun b' hc _ g' hg' => ?_) (fun b1 b2 hc hc' _ _ hne => absurd (hc.trans hc'.symm) hne) hg.os hg.tape hg.output (fun H1 H5 b' hc' => ?_) (fun H1 t => ?_) ?_ ?_
 ·rw [hbb, if_neg hc]
 ·rfl
 ·subst hc; rw [hb] at hk; cases hk
 ·subst hc; exact .inl hib
 ·subst hc
  rw [hbb, if_pos rfl] at hs
  exact ⟨by rw [hb]; exact hs, rfl⟩
 ·exact hno b rfl hlive (by rw [← hrow.blkNo_eq]; exact e.symm)
 ·subst hc; exact .inl ⟨hlive, hg'⟩
 ·subst hc'
  rw [hbb, if_pos rfl]
  exact ⟨.inl hin, c2, c3, c4, c5, u', hone, H5 _ _ hd', hR _ H1⟩
 ·rcases setD_get h.size dst .any undef t with ⟨e1, e2⟩ | ⟨e1, e2⟩
  ·exact .inl ⟨e1, e2⟩
  ·right; rw [e1, e2]; exact .any _
 ·rw [put_size, setD_len, h.size]
 ·exact put_defers _ _ _
theorem op_store {t : TypeId} {x y : Operand} (ho : o.op = .store t x y) (hV : VOk V tm blk) (h : HR base w0 ok0 isd tm blk ρ a w) (hst : ¬ isd st) {δ : Delta} (hv : Valid P Γ o st V δ) : Goes P base w0 ok0 isd tm blk st a w o δ := by
  have hx := ev_ok hV h x
  have hy := ev_ok hV h y
  have hrun : ∀ ad w', a.eval x = .pointer (some ad) → (storeVar t ad (a.eval y)).run P w = .ok () w' → (execOp a.eval o).run P w = .ok .skip w' := fun ad v e1 e2 => by simp [execOp, ho, Instr.storeAt, e1, Instr.sureAddr, e2]
  simp only [Valid, opD, ho] at hv
  split at hv
  · exact hv.elim
  · rename_i hz
    split at hv
    · rename_i b k he
      rw [he] at hx
      split at hv
      · rename_i t' cs hb
        split at hv
        · rename_i ds obs hsp
          split at hv
          · rename_i cs' hl
            obtain ⟨hobs, rfl⟩ := hv
            obtain ⟨hc, hlen⟩ := split_ok hsp hobs hy
            obtain ⟨g, vs, e1, e2, e3, e4⟩ := h.cells (hV.cells hb)
            obtain ⟨hle, hc'⟩ := lay_ok hl e4 hc
            generalize hu2 : a.eval x = u at hx hrun
            cases hx with
            | ptr _ _ g' hg' =>
              rw [e1] at hg'
              injection hg' with hg'
              injection hg' with hg'
              injection hg' with hg'
              subst hg'
              have hsz : (a.eval y).cells.size = P.cellsOf t := hc.1.trans hlen
              exact goes_skip (hrun _ _ rfl (run_storeVar hz hsz g k t' vs e3 (by rw [hc.1, e4.1]; exact hle) hc.ones)) (h.storeCells (hV.cells hb) e1 e3 hc' st o.dst)
          · exact hv.elim
        · exact hv.elim
      · exact hv.elim
    · rename_i b n s i j he
      rw [he] at hx
      split at hv
      · rename_i e s' m X hb
        split at hv
        · rename_i hc
          obtain ⟨rfl, rfl, hj⟩ := hc
          split at hv
          · rename_i ds obs hsp
            split at hv
            · rename_i ys r hp
              split at hv
              · exact hv.elim
              · rename_i hrb
                obtain ⟨hobs, rfl⟩ := hv
                obtain ⟨hc, hlen⟩ := split_ok hsp (fun p hp => hobs p (List.mem_append_left _ hp)) hy
                obtain ⟨hi0, hi1, hi2⟩ : X.inb i := hobs (ob (X.inb i)) (List.mem_append_right _ (by simp))
                have hbk := hV.row hb
                have h' := h.freeze hV r
                have hbk' : updB blk (V.frz r) b = .row e s' m X := by
                  rw [updB_frz, if_neg (by simpa using hrb)]; exact hbk
                obtain ⟨p1, p2⟩ := pcs_get hp
                generalize hu2 : a.eval x = u at hx hrun
                cases hx with
                | rp _ _ _ _ _ _ hn h1' hh =>
                  obtain ⟨g, m', c', e1, rfl⟩ := hh (by rw [hbk]; rfl)
                  have hrow := h'.row hbk'
                  rw [e1] at hrow
                  obtain ⟨cur, q1, q2, q3, q4⟩ := hrow.set i j ys (a.eval y).cells hi1 hi2 (by rw [p1, hlen]; exact hj) (by rw [p1]; exact hc.1) hc.ones (fun k hk => by
                    obtain ⟨r', z1, z2⟩ := p2 k (p1 ▸ hk)
                    exact pc_frz hV h (hc.2.2 k (p1 ▸ hk)) z1 z2)
                  have hsz : (a.eval y).cells.size = P.cellsOf t := hc.1.trans hlen
                  have hs := run_storeVar (P := P) (v := a.eval y) hz hsz g (i.num.toNat * s' + j) e cur q1 q2 hc.ones
                  have hfin := h'.updRow (st := st) hbk' m (.inl rfl) hst (X.setEl i j ys) (ρ b) (fun _ => rfl) (w.setRow g (cur.toList.take (i.num.toNat * s' + j) ++ (a.eval y).cells.toList ++ cur.toList.drop (i.num.toNat * s' + j + (a.eval y).cells.size)).toArray)
                    ⟨rfl, rfl, rfl, by simp, fun k hk hne => setRow_other w g k _ (fun e => hne (by rw [e1, e]; rfl))⟩ (fun ok' hk => by
                      rw [e1]
                      refine q4 ok' fun g' hg' hlt => ⟨(hk g' hg' hlt).1, fun e2 => hg'.2 b (by rw [hbk']; rfl) (by rw [e1, e2]; rfl)⟩) (fun g' hg' => .inl hg') o.dst .any undef (.inl rfl)
                  rw [← updB_append] at hfin
                  exact goes_skip (hrun _ _ rfl hs) hfin
            · exact hv.elim
          · exact hv.elim
        · exact hv.elim
      · rename_i e s' m X i' j' d hb
        split at hv
        · rename_i hc
          obtain ⟨rfl, rfl, rfl, hj, hA, hsz⟩ := hc
          split at hv
          · rename_i b2 n2 hy2
            rw [hy2] at hy
            obtain ⟨⟨hi0, hi1, hi2⟩, hsame, rfl⟩ := hv.det2
            have hsame' : i.num = i'.num := hsame
            have hbk := hV.rowh hb
            obtain ⟨_, c2, c3, ⟨_, c4, c4'⟩, c5, u, c6, c7, c8⟩ := h.rowh hbk
            have hone : (a.eval y).oneCell' = true := by cases hy with | row _ _ _ _ h1' _ => exact h1'
            have hcells : (a.eval y).cells = #[a.eval y] := cells_one hone
            generalize hu2 : a.eval x = u2 at hx hrun
            cases hx with
            | rp _ _ _ _ _ _ hn h1' hh =>
              obtain ⟨g, m', c', e1, rfl⟩ := hh (by rw [hbk]; rfl)
              have c8' := c8
              rw [e1] at c8
              obtain ⟨cur, q1, q2, q3, q4⟩ := c8.set i j [.lit (a.eval y)] (a.eval y).cells hi1 (by rw [setEl_len c2]; exact hi2) (by simp; omega) (by rw [hcells]; rfl) (by rw [hcells]; simp [hone]) (fun k hk => by
                have : k = 0 := by simpa using hk
                subst this
                rw [hcells]; exact .lit _)
              have hs := run_storeVar (P := P) (v := a.eval y) hz (by rw [hcells, hsz]; rfl) g (i.num.toNat * s' + j) e cur q1 q2 (by rw [hcells]; simp [hone])
              have e5 := setEl_twice c2 c3 (show i'.num.toNat < X.els.length by omega) c5 hsame' (.lit u) (.lit (a.eval y))
              have hfin := h.setHole (st := st) hbk (.row b2 n2) (a.eval y) hone hy (w.setRow g (cur.toList.take (i.num.toNat * s' + j) ++ (a.eval y).cells.toList ++ cur.toList.drop (i.num.toNat * s' + j + (a.eval y).cells.size)).toArray)
                ⟨rfl, rfl, rfl, by simp, fun k hk hne => setRow_other w g k _ (fun e => hne (by rw [e1, e]; rfl))⟩ (fun ok' hk => by
                  rw [← e5, e1]
                  refine q4 ok' fun g' hg' hlt => ⟨(hk g' hg' hlt).1, fun e2 => hg'.2 b (by rw [hbk]; rfl) (by rw [e1, e2]; rfl)⟩) o.dst
              exact goes_skip (hrun _ _ rfl hs) hfin
          · rename_i yv hy2
            rw [hy2] at hy
            obtain ⟨⟨hi0, hi1, hi2⟩, hsame, hone', rfl⟩ := hv.det3
            have hsame' : i.num = i'.num := hsame
            have hbk := hV.rowh hb
            obtain ⟨_, c2, c3, ⟨_, c4, c4'⟩, c5, u, c6, c7, c8⟩ := h.rowh hbk
            have hone : (a.eval y).oneCell' = true := by cases hy with | v _ _ hh => exact hh.one.trans hone'
            have hcells : (a.eval y).cells = #[a.eval y] := cells_one hone
            generalize hu2 : a.eval x = u2 at hx hrun
            cases hx with
            | rp _ _ _ _ _ _ hn h1' hh =>
              obtain ⟨g, m', c', e1, rfl⟩ := hh (by rw [hbk]; rfl)
              have c8' := c8
              rw [e1] at c8
              obtain ⟨cur, q1, q2, q3, q4⟩ := c8.set i j [.lit (a.eval y)] (a.eval y).cells hi1 (by rw [setEl_len c2]; exact hi2) (by simp; omega) (by rw [hcells]; rfl) (by rw [hcells]; simp [hone]) (fun k hk => by
                have : k = 0 := by simpa using hk
                subst this
                rw [hcells]; exact .lit _)
              have hs := run_storeVar (P := P) (v := a.eval y) hz (by rw [hcells, hsz]; rfl) g (i.num.toNat * s' + j) e cur q1 q2 (by rw [hcells]; simp [hone])
              have e5 := setEl_twice c2 c3 (show i'.num.toNat < X.els.length by omega) c5 hsame' (.lit u) (.lit (a.eval y))
              have hfin := h.setHole (st := st) hbk (.v yv) (a.eval y) hone hy (w.setRow g (cur.toList.take (i.num.toNat * s' + j) ++ (a.eval y).cells.toList ++ cur.toList.drop (i.num.toNat * s' + j + (a.eval y).cells.size)).toArray)
                ⟨rfl, rfl, rfl, by simp, fun k hk hne => setRow_other w g k _ (fun e => hne (by rw [e1, e]; rfl))⟩ (fun ok' hk => by
                  rw [← e5, e1]
                  refine q4 ok' fun g' hg' hlt => ⟨(hk g' hg' hlt).1, fun e2 => hg'.2 b (by rw [hbk]; rfl) (by rw [e1, e2]; rfl)⟩) o.dst
              exact goes_skip (hrun _ _ rfl hs) hfin
          · exact hv.elim
        · exact hv.elim
      · exact hv.elim
    · exact hv.elim
end
end Go.Proofs.YtcifjnhpgblnkaaGreatDoor
namespace Go.Proofs.YtcifjnhpgblnkaaGreatDoor
open Go.RowKit
set_option linter.unusedVariables false
set_option linter.unusedSimpArgs false
section
variable {P : Program} {base : Nat} {w0 : World} {ok0 isd : Nat → Prop} {tm : List DE} {blk : Nat → DB} {ρ : Nat → Value} {a : Act} {w : World} {V : View} {st : Nat} {o : Oper} {Γ : FuncId → Option Ca}
theorem op_index {t : TypeId} {x i : Operand} (ho : o.op = .index t x i) (hV : VOk V tm blk) (h : HR base w0 ok0 isd tm blk ρ a w) {δ : Delta} (hv : Valid P Γ o st V δ) : Goes P base w0 ok0 isd tm blk st a w o δ := by
 have hx := ev_ok hV h x
 have hi := ev_ok hV h i
 simp only [Valid, opD, ho] at hv
 split at hv
 ·rename_i ht
  split at hv
  ·rename_i b k hb hk
   obtain ⟨h1, ⟨h2, h3, h4⟩, rfl⟩ := hv.det2
   have r1 := rv_str (pc_ok' hV h hx hb) h1
   have r2 := rv_int (pc_ok' hV h hi hk) h2
   have hlt : k.num.toNat < b.str.size := by omega
   refine goes_val h (v := .int .u8 (b.str[k.num.toNat]).toNat) ?_ (.v _ _ ?_)
   ·simp [execOp, ho, Instr.index, r1, r2, asIntOf, run_underlying ht, h3, hlt]
   ·unfold AV.sat
    rw [getElem?_pos b.str k.num.toNat hlt]
    exact .lit _
  ·exact hv.elim
 ·rename_i n e ht
  split at hv
  ·rename_i cs obs k hs hk
   split at hv
   ·rename_i xs hp
    split at hv
    ·exact hv.elim
    ·rename_i hcond
     have hz : P.cellsOf e ≠ 0 := fun q => hcond (.inl q)
     have hu : ¬ (P.underlying e).isNone = true := fun q => hcond (.inr (.inl q))
     have hxl : xs.length = n * P.cellsOf e := Classical.byContradiction fun q => hcond (.inr (.inr q))
     split at hv
     ·rename_i d hw
      obtain ⟨hobs, rfl⟩ := hv
      obtain ⟨hc, hlen⟩ := split_ok hs (fun p hp => hobs p (List.mem_append_left _ hp)) hx
      obtain ⟨k1, k2, k3⟩ : AV.inl n k := hobs (ob (AV.inl n k)) (List.mem_append_right _ (by simp))
      have r2 := rv_int (pc_ok' hV h hi hk) k1
      have hagg : isAggT P t = true := by unfold isAggT; rw [ht]
      have hagv : a.eval x = .agg (a.eval x).cells := by
       unfold split at hs
       rw [hagg] at hs
       simp only at hs
       split at hs
       ·rename_i cs' he
        rw [he] at hx
        generalize a.eval x = u at hx
        cases hx; rfl
       ·rename_i y he
        rw [he] at hx
        simp only [Option.some.injEq, Prod.mk.injEq] at hs
        obtain ⟨ys, rfl, _⟩ := hobs (ob (y.isAgg (P.cellsOf t))) (List.mem_append_left _ (by rw [← hs.2]; simp))
        generalize a.eval x = u at hx
        cases hx with | v _ _ hr => cases hr; rfl
       ·cases hs
      obtain ⟨vs, hvs⟩ : ∃ vs, a.eval x = .agg vs := ⟨_, hagv⟩
      clear hagv
      rw [hvs] at hc
      have hc : RCells w (okF base ok0 blk ρ) ρ blk isd cs vs := hc
      obtain ⟨p1, p2⟩ := pcs_get hp
      have hc2 : RCells w (okF base ok0 blk ρ) ρ blk isd (xs.map .v) vs := by
       refine ⟨by rw [List.length_map, p1]; exact hc.1, fun j hj => hc.2.1 j (by rw [List.length_map, p1] at hj; exact hj), fun j hj => ?_⟩
       have hj' : j < cs.length := by rw [List.length_map, p1] at hj; exact hj
       obtain ⟨r', z1, z2⟩ := p2 j hj'
       obtain rfl : r' = [] := by
        cases r' with
        | nil => rfl
        | cons q _ => exact absurd (z2 q (by simp)) (by simp)
       have hjx : j < xs.length := by rw [p1]; exact hj'
       have e1 : (xs.map DE.v).getD j .any = .v (xs.getD j default) := by
        rw [List.getD_eq_getElem?_getD, List.getElem?_map, List.getElem?_eq_getElem hjx, List.getD_eq_getElem?_getD, List.getElem?_eq_getElem hjx]; rfl
       rw [e1]
       exact .v _ _ (pc_ok' hV h (hc.2.2 j hj') z1)
      have hoff : k.num.toNat * P.cellsOf e + P.cellsOf e ≤ xs.length := by
       rw [hxl, ← Nat.succ_mul]
       exact Nat.mul_le_mul_right _ (by omega)
      have hseg := hc2.seg (k.num.toNat * P.cellsOf e) (P.cellsOf e)
      have hl : ((xs.map DE.v).drop (k.num.toNat * P.cellsOf e)).take (P.cellsOf e) = (List.range (P.cellsOf e)).map fun j => DE.v (AV.nth xs j [(k, P.cellsOf e)]) := by
       apply List.ext_getElem?
       intro j
       rw [List.getElem?_take, List.getElem?_map]
       by_cases hj : j < P.cellsOf e
       ·rw [if_pos hj, List.getElem?_drop, List.getElem?_map, List.getElem?_eq_getElem (show k.num.toNat * P.cellsOf e + j < xs.length by omega), List.getElem?_range hj]
        simp only [Option.map_some, AV.nth, AV.off]
        rw [List.getD_eq_getElem?_getD, List.getElem?_eq_getElem (show k.num.toNat * P.cellsOf e + j < xs.length by omega)]
        rfl
       ·rw [if_neg hj, List.getElem?_eq_none (by simp; omega)]; rfl
      rw [hl] at hseg
      obtain ⟨r1, r2', r3⟩ := whole_ok hw hseg
      refine goes_val h ?_ r1
      simp only [execOp, ho, Instr.index, r2, asIntOf, Sem.run_bind, Sem.run_pure, run_underlying ht, Result.andThen_ok, hvs, part, isAgg_run (w := w) hu, sizeOf_run (w := w) hz]
      have hin : (0 ≤ k.num ∧ k.num < (n : Int)) := ⟨k2, k3⟩
      rw [if_pos hin]
      cases hA : isAggT P e with
      | true => simp [sizeOf_run (w := w) hz, isAgg_run (w := w) hu, part, hA]
      | false =>
       have hs1 := r3 hA
       have hlt : k.num.toNat * P.cellsOf e < vs.size := by rw [Array.size_extract] at hs1; omega
       have e1 : (vs.extract (k.num.toNat * P.cellsOf e) (k.num.toNat * P.cellsOf e + P.cellsOf e)).getD 0 undef = vs[k.num.toNat * P.cellsOf e] := by
        rw [Array.getD_eq_getD_getElem?, Array.getElem?_extract, if_pos (by rw [Array.size_extract] at hs1; omega)]
        simp [hlt]
       simp only [Bool.false_eq_true, if_false, e1]
       simp [sizeOf_run (w := w) hz, isAgg_run (w := w) hu, part, hA, Array.getElem?_eq_getElem hlt]
     ·exact hv.elim
   ·exact hv.elim
  ·exact hv.elim
 ·exact hv.elim
theorem op_field {t : TypeId} {x : Operand} {f : Nat} (ho : o.op = .field t x f) (hV : VOk V tm blk) (h : HR base w0 ok0 isd tm blk ρ a w) {δ : Delta} (hv : Valid P Γ o st V δ) : Goes P base w0 ok0 isd tm blk st a w o δ := by
 have hx := ev_ok hV h x
 simp only [Valid, opD, ho] at hv
 split at hv
 ·rename_i fl cs obs hf hs
  obtain ⟨fs, ht, hfl⟩ := fieldOf_spec hf
  split at hv
  ·exact hv.elim
  ·rename_i hu'
   have hu : ¬ (P.underlying fl.type).isNone = true := fun e => hu' (.inl e)
   have hz : P.cellsOf fl.type ≠ 0 := fun e => hu' (.inr e)
   split at hv
   ·rename_i d hw
    obtain ⟨hobs, rfl⟩ := hv
    obtain ⟨hc, hlen⟩ := split_ok hs hobs hx
    have hagg : isAggT P t = true := by unfold isAggT; rw [ht]
    have hagv : a.eval x = .agg (a.eval x).cells := by
     unfold split at hs
     rw [hagg] at hs
     simp only at hs
     split at hs
     ·rename_i cs' he
      rw [he] at hx
      generalize a.eval x = u at hx
      cases hx; rfl
     ·rename_i y he
      rw [he] at hx
      simp only [Option.some.injEq, Prod.mk.injEq] at hs
      obtain ⟨ys, rfl, _⟩ := hobs (ob (y.isAgg (P.cellsOf t))) (by rw [← hs.2]; simp)
      generalize a.eval x = u at hx
      cases hx with | v _ _ hr => cases hr; rfl
     ·cases hs
    obtain ⟨vs, hvs⟩ : ∃ vs, a.eval x = .agg vs := ⟨_, hagv⟩
    clear hagv
    rw [hvs] at hc
    have hc : RCells w (okF base ok0 blk ρ) ρ blk isd cs vs := hc
    obtain ⟨r1, r2, r3⟩ := whole_ok hw (hc.seg fl.offset (P.cellsOf fl.type))
    refine goes_val h ?_ r1
    simp only [execOp, ho, Instr.field, Sem.run_bind, run_underlying ht, Result.andThen_ok, hfl, hvs, asAgg, Sem.run_pure, part, isAgg_run (w := w) hu]
    cases hA : isAggT P fl.type with
    | true => simp [sizeOf_run (w := w) hz]
    | false =>
     have hs1 := r3 hA
     have hlt : fl.offset < vs.size := by
      rw [Array.size_extract] at hs1; omega
     have e : (vs.extract fl.offset (fl.offset + P.cellsOf fl.type)).getD 0 undef = vs[fl.offset] := by
      rw [Array.getD_eq_getD_getElem?, Array.getElem?_extract, if_pos (by rw [Array.size_extract] at hs1; omega)]
      simp [hlt]
     simp only [Bool.false_eq_true, if_false, e]
     simp [Array.getElem?_eq_getElem hlt]
   ·exact hv.elim
 ·exact hv.elim
theorem op_indexAddr {t : TypeId} {x i : Operand} (ho : o.op = .indexAddr t x i) (hV : VOk V tm blk) (h : HR base w0 ok0 isd tm blk ρ a w) {δ : Delta} (hv : Valid P Γ o st V δ) : Goes P base w0 ok0 isd tm blk st a w o δ := by
 have hx := ev_ok hV h x
 have hi := ev_ok hV h i
 simp only [Valid, opD, ho] at hv
 split at hv
 ·rename_i e k ht hk
  split at hv
  ·exact hv.elim
  ·rename_i hz
   have hkv := pc_ok' hV h hi hk
   have hrun : ∀ g off n c, a.eval x = .slice (some ⟨g, off, none⟩) n c → k.isInt → 0 ≤ k.num → k.num < n → (execOp a.eval o).run P w = .ok (.value (.pointer (some ⟨g, off + k.num.toNat * P.cellsOf e + 0, none⟩))) w := fun g off n c e1 e2 e3 e4 => by
    have e5 := rv_int hkv e2
    simp [execOp, ho, Instr.indexAt, e5, asIntOf, run_underlying ht, e1, e3, e4, sizeOf_run (w := w) hz, Addr.add]
    try (split <;> simp_all)
   split at hv
   ·rename_i X he
    rw [he] at hx
    obtain ⟨h1, ⟨h2, h3, h4⟩, rfl⟩ := hv.det2
    generalize hu2 : a.eval x = u at hx hrun
    cases hx with
    | v _ _ hr =>
     have hr' := hr
     obtain ⟨A, c, rfl, _⟩ := rv_sl hr h1
     obtain ⟨g, off, us, rfl, _⟩ := rv_el hr h1 k.num.toNat (by omega)
     exact goes_val h (hrun g off _ c rfl h2 h3 h4) (.ip X k _ 0 g off _ c h1 hr' ⟨h3, h4⟩)
   ·rename_i b n he
    rw [he] at hx
    split at hv
    ·rename_i e' s m X hb
     split at hv
     ·rename_i hc
      obtain ⟨rfl, rfl⟩ := hc
      obtain ⟨⟨h2, h3, h4⟩, rfl⟩ := hv.det1
      have hbk := hV.row hb
      have hrow := h.row hbk
      generalize hu2 : a.eval x = u at hx hrun
      cases hx with
      | row _ _ _ hn h1' hs =>
       have hv := hs (by rw [hbk]; rfl)
       obtain ⟨A, n', c, e1, e2, _⟩ := hrow.form
       have hr := hrow.rv (ok' := fun _ => True) (fun _ _ _ => trivial) (fun _ _ => trivial)
       rw [e1] at hr hv
       obtain ⟨L, xs, eX, _, _, ho2, _⟩ := hrow
       rcases ho2.2 with ⟨e3, e4⟩ | ⟨g, cap, cur, e3, _⟩
       ·subst eX; simp only [AV.els] at h4; omega
       ·rw [e1] at e3
        injection e3 with e3 e4 e5
        subst e3
        rw [hv] at hrun
        refine goes_val h (hrun g 0 n' c rfl h2 h3 (by rw [e2]; exact h4)) (.rp b m (P.cellsOf e) k 0 _ hn rfl fun _ => ⟨g, n', c, e1, by simp⟩)
     ·exact hv.elim
    ·rename_i e' s m X i' j' d hb
     split at hv
     ·rename_i hc
      obtain ⟨rfl, rfl⟩ := hc
      obtain ⟨⟨h2, h3, h4⟩, rfl⟩ := hv.det1
      have hbk := hV.rowh hb
      obtain ⟨_, c2, c3, _, _, u', _, _, hrow⟩ := h.rowh hbk
      generalize hu2 : a.eval x = u at hx hrun
      cases hx with
      | row _ _ _ hn h1' hs =>
       have hv := hs (by rw [hbk]; rfl)
       obtain ⟨A, n', c, e1, e2, _⟩ := hrow.form
       rw [setEl_len c2] at e2
       obtain ⟨L, xs, eX, _, _, ho2, _⟩ := hrow
       have eL : X.els.length = L.length := by rw [← setEl_len c2 i' j' [.lit u'], eX]; rfl
       rcases ho2.2 with ⟨e3, e4⟩ | ⟨g, cap, cur, e3, _⟩
       ·omega
       ·rw [e1] at e3
        injection e3 with e3 e4 e5
        subst e3
        rw [hv, e1] at hrun
        refine goes_val h (hrun g 0 n' c rfl h2 h3 (by rw [e2]; exact h4)) (.rp b m (P.cellsOf e) k 0 _ hn rfl fun _ => ⟨g, n', c, e1, by simp⟩)
     ·exact hv.elim
    ·rename_i m X hb
     split at hv
     ·rename_i hc
      subst hc
      obtain ⟨h1, ⟨h2, h3, h4⟩, rfl⟩ := hv.det2
      have hbk := hV.fz hb
      have hfz := h.blks b
      rw [hbk] at hfz
      generalize hu2 : a.eval x = u at hx hrun
      cases hx with
      | row _ _ _ hn h1' hs =>
       have hv := hs (by rw [hbk]; rfl)
       subst hv
       have hr := hfz.2.1
       obtain ⟨A, c, e1, _⟩ := rv_sl hr h1
       rw [e1] at hr hrun
       obtain ⟨g, off, us, rfl, _⟩ := rv_el hr h1 k.num.toNat (by omega)
       exact goes_val h (hrun g off _ c rfl h2 h3 h4) (.ip X k _ 0 g off _ c h1 hr ⟨h3, h4⟩)
     ·exact hv.elim
    ·exact hv.elim
   ·exact hv.elim
 ·rename_i n e k ht hk
  split at hv
  ·exact hv.elim
  ·rename_i hz
   have hkv := pc_ok' hV h hi hk
   have hrun : ∀ g off, a.eval x = .pointer (some ⟨g, off, none⟩) → k.isInt → 0 ≤ k.num → k.num < n → (execOp a.eval o).run P w = .ok (.value (.pointer (some ⟨g, off + k.num.toNat * P.cellsOf e, none⟩))) w := fun g off e1 e2 e3 e4 => by
    have e5 := rv_int hkv e2
    simp [execOp, ho, Instr.indexAt, e5, asIntOf, run_underlying ht, e1, e3, e4, sizeOf_run (w := w) hz, Instr.sureAddr, Addr.add]
    try (split <;> simp_all)
   split at hv
   ·rename_i b o' kk j he hc
    rw [he] at hx
    split at hv
    ·rename_i hj
     obtain rfl := hv.pure1
     have hk2 : k = .lit (.int kk j) := by
      rw [constInt_spec hc] at hk
      simp only [View.pc, Option.some.injEq, Prod.mk.injEq, and_true] at hk
      exact hk.symm
     subst hk2
     generalize hu2 : a.eval x = u at hx hrun
     cases hx with
     | ptr _ _ g hg => exact goes_val h (hrun g o' rfl ⟨kk, j, rfl⟩ hj.1 hj.2) (.ptr b _ g hg)
    ·exact hv.elim
   ·rename_i b o' he hc
    rw [he] at hx
    obtain ⟨⟨h2, h3, h4⟩, rfl⟩ := hv.det1
    generalize hu2 : a.eval x = u at hx hrun
    cases hx with
    | ptr _ _ g hg =>
     have := hrun g o' rfl h2 h3 h4
     rw [Nat.add_comm] at this
     exact goes_val h this (.sp b o' [(k, P.cellsOf e)] g hg)
   ·rename_i b o' ix he
    rw [he] at hx
    obtain ⟨⟨h2, h3, h4⟩, rfl⟩ := hv.det1
    generalize hu2 : a.eval x = u at hx hrun
    cases hx with
    | sp _ _ _ g hg =>
     have := hrun g _ rfl h2 h3 h4
     rw [Nat.add_comm] at this
     exact goes_val h this (.sp b o' ((k, P.cellsOf e) :: ix) g hg)
   ·rename_i X he
    rw [he] at hx
    obtain ⟨⟨h2, h3, h4⟩, h5, rfl⟩ := hv.det2
    generalize hu2 : a.eval x = u at hx hrun
    cases hx with
    | v _ _ hh =>
     have hh' := hh
     obtain ⟨cs, rfl, hm⟩ := h5
     cases hh with
     | ref _ g us hok hg hc h1 h2' =>
      have := hrun g 0 rfl h2 h3 h4
      rw [Nat.add_comm] at this
      exact goes_val h this (.gp _ _ 0 [(k, P.cellsOf e)] g ⟨cs, rfl, hm⟩ hh')
   ·exact hv.elim
 ·exact hv.elim
end
end Go.Proofs.YtcifjnhpgblnkaaGreatDoor
namespace Go.Proofs.YtcifjnhpgblnkaaGreatDoor
open Go.RowKit
set_option linter.unusedVariables false
set_option linter.unusedSimpArgs false
theorem foldl_set (cs : Array Value) : ∀ (l : List Value) (j0 off : Nat) (acc : Array Value), off + j0 + l.length ≤ acc.size →
  ((l.zipIdx j0).foldl (fun a (p : Value × Nat) => a.setIfInBounds (off + p.2) p.1) acc).toList = acc.toList.take (off + j0) ++ l ++ acc.toList.drop (off + j0 + l.length)
 | [], j0, off, acc, h => by simp
 | v :: l, j0, off, acc, h => by
  simp only [List.zipIdx_cons, List.foldl_cons]
  rw [foldl_set cs l (j0 + 1) off (acc.setIfInBounds (off + j0) v) (by simp at h ⊢; omega)]
  have e := list_seg_step acc.toList (off + j0) v l (by simp at h ⊢; omega)
  simp only [Array.toList_setIfInBounds, Nat.add_assoc, List.length_cons] at e ⊢
  simpa [Nat.add_assoc, Nat.add_comm 1 l.length] using e
section
variable {P : Program} {base : Nat} {w0 : World} {ok0 isd : Nat → Prop} {tm : List DE} {blk : Nat → DB} {ρ : Nat → Value} {a : Act} {w : World} {V : View} {st : Nat} {o : Oper} {Γ : FuncId → Option Ca}
theorem fill_step {place : Nat → Option (Nat × Nat)} {cells : Array Value} {i off size : Nat} {v : Value} {rest : List (Nat × Value)} (hp : place i = some (off, size)) (hs : v.cells.size = size) (hl : off + v.cells.size ≤ cells.size) :
  Instr.fill place cells ((i, v) :: rest) = Instr.fill place (cells.toList.take off ++ v.cells.toList ++ cells.toList.drop (off + v.cells.size)).toArray rest := by
 have e := foldl_set cells v.cells.toList 0 off cells (by simpa using hl)
 have e2 : v.cells.zipIdx.foldl (fun cs (x : Value × Nat) => cs.setIfInBounds (off + x.2) x.1) cells = (cells.toList.take off ++ v.cells.toList ++ cells.toList.drop (off + v.cells.size)).toArray := by
  apply Array.toList_inj.1
  rw [← Array.foldl_toList, Array.toList_zipIdx]
  simpa using e
 have hns : ¬ (off + v.cells.size > cells.size) := by omega
 simp only [Instr.fill, hp]
 have hc : (decide (v.cells.size ≠ size) || decide (off + v.cells.size > cells.size)) = false := by simp [hs]; omega
 rw [if_neg (by simpa using hc)]
 congr 1
theorem fillD_ok (hV : VOk V tm blk) (h : HR base w0 ok0 isd tm blk ρ a w) {t : TypeId} {place : Nat → Option (Nat × Nat)} (hpl : ∀ i off ft, placeOf P t i = some (off, ft) → P.cellsOf ft ≠ 0 → place i = some (off, P.cellsOf ft)) :
  ∀ (ps : List (Nat × Operand)) (cs cs' : List DE) (obs : List Ob) (vs : Array Value), fillD P t V cs ps = some (cs', obs) → (∀ p ∈ obs, p.p) → RCells w (okF base ok0 blk ρ) ρ blk isd cs vs →
   ∃ vs', Instr.fill place vs (ps.map fun (i, x) => (i, a.eval x)) = some vs' ∧ RCells w (okF base ok0 blk ρ) ρ blk isd cs' vs'
 | [], cs, cs', obs, vs, hf, _, hc => by
  simp only [fillD, Option.some.injEq, Prod.mk.injEq] at hf
  obtain ⟨rfl, rfl⟩ := hf
  exact ⟨vs, rfl, hc⟩
 | (i, x) :: rest, cs, cs', obs, vs, hf, hobs, hc => by
  simp only [fillD] at hf
  split at hf
  ·cases hf
  ·rename_i off ft hp
   split at hf
   ·cases hf
   ·rename_i ds obs1 hs
    split at hf
    ·cases hf
    ·rename_i cs1 hl
     split at hf
     ·cases hf
     ·rename_i hz
      cases hr : fillD P t V cs1 rest with
      | none => rw [hr] at hf; cases hf
      | some q =>
       obtain ⟨l, obs2⟩ := q
       rw [hr] at hf
       simp only [Option.map_some, Option.some.injEq, Prod.mk.injEq] at hf
       obtain ⟨rfl, rfl⟩ := hf
       obtain ⟨hds, hlen⟩ := split_ok hs (fun p hp => hobs p (List.mem_append_left _ hp)) (ev_ok hV h x)
       obtain ⟨hle, hc1⟩ := lay_ok hl hc hds
       obtain ⟨vs', e1, e2⟩ := fillD_ok hV h hpl rest cs1 l obs2 _ hr (fun p hp => hobs p (List.mem_append_right _ hp)) hc1
       refine ⟨vs', ?_, e2⟩
       rw [List.map_cons, fill_step (hpl i off ft hp hz) (hds.1.trans hlen) (by rw [hds.1, hc.1]; exact hle)]
       exact e1
theorem mapM_sizes (fs : List Field) (h : ∀ f ∈ fs, (P.info? f.type).isSome = true) : (fs.mapM fun f => do pure (f.offset, ← sizeOf f.type) : Sem (List (Nat × Nat))).run P w = .ok (fs.map fun f => (f.offset, P.cellsOf f.type)) w := by
 induction fs with
 | nil => rfl
 | cons f fs ih =>
  have h1 := h f (by simp)
  have e : (sizeOf f.type).run P w = .ok (P.cellsOf f.type) w := by
   cases hi : P.info? f.type with
   | none => rw [hi] at h1; cases h1
   | some i => simp [sizeOf, typeInfo, hi, Program.cellsOf]
  have ih' := ih (fun g hg => h g (by simp [hg]))
  simp only [List.mapM_cons, Sem.run_bind, e, Result.andThen_ok, Sem.run_pure, ih', List.map_cons]
theorem notnot {b : Bool} (h : ¬ (!b) = true) : b = true := by cases b <;> simp_all
theorem op_build {t : TypeId} {ps : Array (Nat × Operand)} (ho : o.op = .build t ps) (hV : VOk V tm blk) (h : HR base w0 ok0 isd tm blk ρ a w) {δ : Delta} (hv : Valid P Γ o st V δ) : Goes P base w0 ok0 isd tm blk st a w o δ := by
 simp only [Valid, opD, ho] at hv
 split at hv
 ·exact hv.elim
 ·rename_i z hz
  split at hv
  ·exact hv.elim
  ·rename_i hone
   split at hv
   ·exact hv.elim
   ·rename_i hsz
    obtain ⟨u, hu, hc, _⟩ := zeroOf_ok (w := w) (ρ := ρ) (blk := blk) (isd := isd) (okF base ok0 blk ρ) hz (by simpa using hone)
    split at hv
    ·rename_i cs obs hf
     obtain ⟨hobs, rfl⟩ := hv
     unfold sizesOk at hsz
     split at hsz
     ·rename_i fs ht
      have hsz' : ∀ f ∈ fs.toList, (P.info? f.type).isSome = true := List.all_eq_true.1 (notnot hsz)
      have hm := mapM_sizes (w := w) fs.toList hsz'
      obtain ⟨vs', e1, e2⟩ := fillD_ok hV h (place := fun i => ((fs.toList.map fun f => (f.offset, P.cellsOf f.type)).toArray)[i]?) (fun i off ft hp _ => by
       unfold placeOf at hp
       rw [ht] at hp
       simp only at hp
       cases hfi : fs[i]? with
       | none => rw [hfi] at hp; cases hp
       | some f =>
        rw [hfi] at hp
        simp only [Option.map_some, Option.some.injEq, Prod.mk.injEq] at hp
        obtain ⟨rfl, rfl⟩ := hp
        simp [hfi]) ps.toList z cs obs u.cells hf hobs hc
      refine goes_val h (v := .agg vs') ?_ e2.agg
      have hm2 : (fs.mapM fun f => do pure (f.offset, ← sizeOf f.type) : Sem (Array (Nat × Nat))).run P w = .ok (fs.toList.map fun f => (f.offset, P.cellsOf f.type)).toArray w := by
       rw [Array.mapM_eq_mapM_toList]
       show Sem.run P ((fs.toList.mapM fun f => do pure (f.offset, ← sizeOf f.type)) >>= fun l => pure l.toArray) w = _
       rw [Sem.run_bind, hm]
       rfl
      simp only [execOp, ho, Instr.build, Sem.run_bind, hu, Result.andThen_ok, run_underlying ht, hm2, Array.toList_map, e1]
      simp
     ·rename_i n e ht
      have e0 : P.cellsOf e ≠ 0 := by simpa using hsz
      obtain ⟨vs', e1, e2⟩ := fillD_ok hV h (place := fun i => some (i * P.cellsOf e, P.cellsOf e)) (fun i off ft hp _ => by
       unfold placeOf at hp
       rw [ht] at hp
       simp only at hp
       split at hp
       ·simp only [Option.some.injEq, Prod.mk.injEq] at hp
        obtain ⟨rfl, rfl⟩ := hp
        rfl
       ·cases hp) ps.toList z cs obs u.cells hf hobs hc
      refine goes_val h (v := .agg vs') ?_ e2.agg
      simp only [execOp, ho, Instr.build, Sem.run_bind, hu, Result.andThen_ok, run_underlying ht, sizeOf_run (w := w) e0, Array.toList_map, e1]
      simp
     ·simp at hsz
    ·exact hv.elim
end
end Go.Proofs.YtcifjnhpgblnkaaGreatDoor
namespace Go.Proofs.YtcifjnhpgblnkaaGreatDoor
open Go.RowKit
set_option linter.unusedVariables false
set_option linter.unusedSimpArgs false
section
variable {P : Program} {base : Nat} {w0 : World} {ok0 isd : Nat → Prop} {tm : List DE} {blk : Nat → DB} {ρ : Nat → Value} {a : Act} {w : World} {V : View} {st : Nat} {o : Oper} {Γ : FuncId → Option Ca}
def RGrid (w : World) (ok : Nat → Prop) (ρ : Nat → Value) (blk : Nat → DB) (isd : Nat → Prop) (s : Nat) (L : List (List DE)) (vs : Array Value) : Prop :=
 vs.size = L.length * s ∧ (∀ y ∈ L, y.length = s) ∧ ∀ i j, i < L.length → j < s → (vs.getD (i * s + j) undef).oneCell' = true ∧ RD w ok ρ blk isd ((L.getD i []).getD j .any) (vs.getD (i * s + j) undef)
theorem rgrid_set {ok : Nat → Prop} {s : Nat} {L : List (List DE)} {vs : Array Value} (h : RGrid w ok ρ blk isd s L vs) {i : Nat} (hi : i < L.length) {ds : List DE} {us : Array Value} (hd : RCells w ok ρ blk isd ds us) (hs : ds.length = s) :
  i * s + us.size ≤ vs.size ∧ RGrid w ok ρ blk isd s (L.set i ds) (vs.toList.take (i * s) ++ us.toList ++ vs.toList.drop (i * s + us.size)).toArray := by
 obtain ⟨h1, h2, h3⟩ := h
 have hu : us.size = s := hd.1.trans hs
 have hle : (i + 1) * s ≤ L.length * s := Nat.mul_le_mul_right _ hi
 rw [Nat.add_mul] at hle
 have hfit : i * s + us.size ≤ vs.size := by rw [h1, hu]; omega
 refine ⟨hfit, by rw [List.size_toArray, List.length_append, List.length_append, List.length_take, List.length_drop, Array.length_toList, Array.length_toList, List.length_set, ← h1]; omega, fun y hy => ?_, fun i' j' hi' hj' => ?_⟩
 ·rcases List.mem_or_eq_of_mem_set hy with q | q
  ·exact h2 y q
  ·rw [q]; exact hs
 ·rw [List.length_set] at hi'
  have hsg := seg_get vs.toList us.toList (i * s) (i' * s + j') undef (by simpa using hfit)
  rw [Array.length_toList] at hsg
  have e1 : (vs.toList.take (i * s) ++ us.toList ++ vs.toList.drop (i * s + us.size)).toArray.getD (i' * s + j') undef = if i' * s + j' < i * s then vs.toList.getD (i' * s + j') undef else if i' * s + j' < i * s + us.size then us.toList.getD (i' * s + j' - i * s) undef else vs.toList.getD (i' * s + j') undef := by
   rw [← hsg]; simp
  have e0 : vs.toList.getD (i' * s + j') undef = vs.getD (i' * s + j') undef := by simp
  rw [e1, e0]
  by_cases q : i = i'
  ·subst q
   rw [if_neg (by omega), if_pos (by omega)]
   have e2 : (L.set i ds).getD i [] = ds := by rw [List.getD_eq_getElem?_getD, List.getElem?_set_self hi]; rfl
   have e3 : i * s + j' - i * s = j' := by omega
   rw [e2, e3]
   have := hd.2.1 j' (by omega)
   have h5 := hd.2.2 j' (by omega)
   simpa using And.intro this h5
  ·have e2 : (L.set i ds).getD i' [] = L.getD i' [] := by rw [List.getD_eq_getElem?_getD, List.getElem?_set_ne q]; simp
   rw [e2]
   have h4 := h3 i' j' hi' hj'
   rcases Nat.lt_or_gt_of_ne q with q | q
   ·have : (i + 1) * s ≤ i' * s := Nat.mul_le_mul_right _ q
    rw [Nat.add_mul] at this
    rw [if_neg (by omega), if_neg (by omega)]; exact h4
   ·have : (i' + 1) * s ≤ i * s := Nat.mul_le_mul_right _ q
    rw [Nat.add_mul] at this
    rw [if_pos (by omega)]; exact h4
theorem elsD_ok (hV : VOk V tm blk) (h : HR base w0 ok0 isd tm blk ρ a w) {e : TypeId} (hz : P.cellsOf e ≠ 0) :
  ∀ (ps : List (Nat × Operand)) (L L' : List (List DE)) (obs : List Ob) (vs : Array Value), elsD P e V L ps = some (L', obs) → (∀ p ∈ obs, p.p) → RGrid w (okF base ok0 blk ρ) ρ blk isd (P.cellsOf e) L vs →
   ∃ vs', Instr.fill (fun i => some (i * P.cellsOf e, P.cellsOf e)) vs (ps.map fun (i, x) => (i, a.eval x)) = some vs' ∧ RGrid w (okF base ok0 blk ρ) ρ blk isd (P.cellsOf e) L' vs' ∧ L'.length = L.length
 | [], L, L', obs, vs, hf, _, hc => by
  simp only [elsD, Option.some.injEq, Prod.mk.injEq] at hf
  obtain ⟨rfl, rfl⟩ := hf
  exact ⟨vs, rfl, hc, rfl⟩
 | (i, x) :: rest, L, L', obs, vs, hf, hobs, hc => by
  simp only [elsD] at hf
  split at hf
  ·cases hf
  ·rename_i ds obs1 hs
   split at hf
   ·rename_i hi
    cases hr : elsD P e V (L.set i ds) rest with
    | none => rw [hr] at hf; cases hf
    | some q =>
     obtain ⟨l, obs2⟩ := q
     rw [hr] at hf
     simp only [Option.map_some, Option.some.injEq, Prod.mk.injEq] at hf
     obtain ⟨rfl, rfl⟩ := hf
     obtain ⟨hds, hlen⟩ := split_ok hs (fun p hp => hobs p (List.mem_append_left _ hp)) (ev_ok hV h x)
     obtain ⟨hle, hc1⟩ := rgrid_set hc hi hds hlen
     obtain ⟨vs', e1, e2, e3⟩ := elsD_ok hV h hz rest _ l obs2 _ hr (fun p hp => hobs p (List.mem_append_right _ hp)) hc1
     refine ⟨vs', ?_, e2, by rw [e3, List.length_set]⟩
     rw [List.map_cons, fill_step rfl (hds.1.trans hlen) hle]
     exact e1
   ·cases hf
theorem pcfs_get {cs : List DE} {xs : List AV} {r : List Nat} (h : V.pcfs cs = some (xs, r)) : xs.length = cs.length ∧ ∀ i, i < cs.length → ∃ r', V.pcf (cs.getD i .any) = some (xs.getD i default, r') ∧ ∀ b ∈ r', b ∈ r := by
 induction cs generalizing xs r with
 | nil =>
  simp only [View.pcfs, Option.some.injEq, Prod.mk.injEq] at h
  obtain ⟨rfl, rfl⟩ := h
  exact ⟨rfl, fun i hi => absurd hi (by simp)⟩
 | cons d ds ih =>
  simp only [View.pcfs] at h
  split at h
  ·rename_i x r1 xs' rs h1 h2
   simp only [Option.some.injEq, Prod.mk.injEq] at h
   obtain ⟨rfl, rfl⟩ := h
   obtain ⟨e1, e2⟩ := ih h2
   refine ⟨by simp [e1], fun i hi => ?_⟩
   cases i with
   | zero => exact ⟨r1, h1, fun b hb => List.mem_append_left _ hb⟩
   | succ i =>
    obtain ⟨r', e3, e4⟩ := e2 i (by simpa using hi)
    exact ⟨r', by simpa using e3, fun b hb => List.mem_append_right _ (e4 b hb)⟩
  ·cases h
theorem pcf_frz (hV : VOk V tm blk) (h : HR base w0 ok0 isd tm blk ρ a w) {d : DE} {v : Value} (hd : RD w (okF base ok0 blk ρ) ρ blk isd d v) {x : AV} {r r' : List Nat} (hp : V.pcf d = some (x, r')) (hr : ∀ b ∈ r', b ∈ r) :
  RV w (okF base ok0 (updB blk (V.frz r)) ρ) x v := by
 unfold View.pcf at hp
 split at hp
 ·rename_i f cs
  split at hp
  ·rename_i xs hq
   simp only [Option.some.injEq, Prod.mk.injEq] at hp
   obtain ⟨rfl, rfl⟩ := hp
   cases hd with
   | fn _ _ vs hl hc =>
    obtain ⟨q1, q2⟩ := pcs_get hq
    refine .clo f xs vs (hl.trans q1.symm) fun i hi => ?_
    obtain ⟨r2, z1, z2⟩ := q2 i (q1 ▸ hi)
    exact pc_frz hV h (hc i (q1 ▸ hi)) z1 (fun b hb => absurd (z2 b hb) (by simp))
  ·cases hp
 ·exact pc_frz hV h hd hp hr
theorem pcss_get {L : List (List DE)} {L' : List (List AV)} {r : List Nat} (h : V.pcss L = some (L', r)) : L'.length = L.length ∧ ∀ i, i < L.length → ∃ r', V.pcfs (L.getD i []) = some (L'.getD i [], r') ∧ ∀ b ∈ r', b ∈ r := by
 induction L generalizing L' r with
 | nil =>
  simp only [View.pcss, Option.some.injEq, Prod.mk.injEq] at h
  obtain ⟨rfl, rfl⟩ := h
  exact ⟨rfl, fun i hi => absurd hi (by simp)⟩
 | cons d ds ih =>
  simp only [View.pcss] at h
  split at h
  ·rename_i x r1 xs' rs h1 h2
   simp only [Option.some.injEq, Prod.mk.injEq] at h
   obtain ⟨rfl, rfl⟩ := h
   obtain ⟨e1, e2⟩ := ih h2
   refine ⟨by simp [e1], fun i hi => ?_⟩
   cases i with
   | zero => exact ⟨r1, h1, fun b hb => List.mem_append_left _ hb⟩
   | succ i =>
    obtain ⟨r', e3, e4⟩ := e2 i (by simpa using hi)
    exact ⟨r', by simpa using e3, fun b hb => List.mem_append_right _ (e4 b hb)⟩
  ·cases h
theorem rrow_new {B e s n c : Nat} (hs : 0 < s) (hB : B ≤ w.heap.size) {okc : Nat → Prop} {L : List (List AV)} {vs : Array Value} (hn : L.length = n) (hnc : n ≤ c) (hm : c ≤ maxLen) (hsz : vs.size = c * s) (hL : ∀ y ∈ L, y.length = s)
  (hv : ∀ i j, i < n → j < s → (vs.getD (i * s + j) undef).oneCell' = true ∧ RV (w.alloc (.cells vs e)) okc (gt2 L i j) (vs.getD (i * s + j) undef)) :
  RRow (w.alloc (.cells vs e)) B e s okc (.sl s L) (.slice (some ⟨w.heap.size, 0, none⟩) n c) := by
 subst hn
 have hle : L.length * s ≤ c * s := Nat.mul_le_mul_right _ hnc
 have hg : ∀ k, k < L.length * s → (vs.toList.take (L.length * s)).getD k undef = vs.getD k undef := fun k hk => by
  simp only [List.getD_eq_getElem?_getD, List.getElem?_take, if_pos hk]
  simp
 have hidx : ∀ i j, i < L.length → j < s → i * s + j < L.length * s := fun i j hi hj => by
  have : (i + 1) * s ≤ L.length * s := Nat.mul_le_mul_right _ hi
  rw [Nat.add_mul] at this; omega
 refine ⟨L, vs.toList.take (L.length * s), rfl, hs, hL, ⟨by simp; omega, .inr ⟨w.heap.size, c, vs, rfl, hB, heap_alloc_new w _, hnc, hm, hsz, rfl⟩⟩, fun u hu => ?_, fun i j hi hj => ?_⟩
 ·obtain ⟨k, hk, rfl⟩ := List.getElem_of_mem hu
  have hk' : k < L.length * s := by rw [List.length_take] at hk; omega
  have h1 := (hv (k / s) (k % s) (Nat.div_lt_of_lt_mul (by rw [Nat.mul_comm]; exact hk')) (Nat.mod_lt _ hs)).1
  have e : k / s * s + k % s = k := by rw [Nat.mul_comm]; exact Nat.div_add_mod k s
  rw [e, ← hg k hk', List.getD_eq_getElem?_getD, List.getElem?_eq_getElem hk] at h1
  exact h1
 ·rw [hg _ (hidx i j hi hj)]; exact (hv i j hi hj).2
theorem op_buildSlice {t : TypeId} {n : Nat} {ps : Array (Nat × Operand)} (ho : o.op = .buildSlice t n ps) (hV : VOk V tm blk) (h : HR base w0 ok0 isd tm blk ρ a w) (hst : ¬ isd st) {δ : Delta} (hv : Valid P Γ o st V δ) : Goes P base w0 ok0 isd tm blk st a w o δ := by
 simp only [Valid, opD, ho] at hv
 split at hv
 ·exact hv.elim
 ·rename_i e s by_ hsl
  obtain ⟨ht, rfl, rfl⟩ := slT_spec hsl
  split at hv
  ·exact hv.elim
  ·rename_i z hz
   split at hv
   ·exact hv.elim
   ·rename_i hcond
    have c0 : P.cellsOf e ≠ 0 := fun x => hcond (.inl x)
    have c1 : z.length = P.cellsOf e := Classical.byContradiction fun x => hcond (.inr (.inl x))
    have c2 : n * P.cellsOf e ≤ 16777216 := by have := fun x => hcond (.inr (.inr (.inl x))); omega
    have c3 : onesD z = true := by cases q : onesD z; exact absurd (.inr (.inr (.inr q))) hcond; rfl
    obtain ⟨u, hu, hc, hzu⟩ := zeroOf_ok (w := w) (ρ := ρ) (blk := blk) (isd := isd) (okF base ok0 blk ρ) hz c3
    have hus : u.cells.size = P.cellsOf e := by rw [hc.1, c1]
    split at hv
    ·exact hv.elim
    ·rename_i L obs hL
     split at hv
     ·exact hv.elim
     ·rename_i L' r hp
      obtain ⟨hobs, rfl⟩ := hv
      have hgrid : RGrid w (okF base ok0 blk ρ) ρ blk isd (P.cellsOf e) (List.replicate n z) ((Array.range (n * P.cellsOf e)).map (u.cells[· % u.cells.size]!)) := by
       refine ⟨by simp, fun y hy => by rw [List.eq_of_mem_replicate hy, c1], fun i j hi hj => ?_⟩
       have hi' : i < n := by simpa using hi
       have hlt : i * P.cellsOf e + j < n * P.cellsOf e := by
        have : (i + 1) * P.cellsOf e ≤ n * P.cellsOf e := Nat.mul_le_mul_right _ hi'
        rw [Nat.add_mul] at this; omega
       have e1 : ((Array.range (n * P.cellsOf e)).map (u.cells[· % u.cells.size]!)).getD (i * P.cellsOf e + j) undef = u.cells.getD j undef := by
        have hmod : (i * P.cellsOf e + j) % u.cells.size = j := by rw [hus, Nat.add_comm, Nat.add_mul_mod_self_right, Nat.mod_eq_of_lt hj]
        have hj' : j < u.cells.size := by omega
        simp [hlt, hmod, hj']
       have e2 : (List.replicate n z).getD i [] = z := by simp [hi']
       rw [e1, e2]
       exact ⟨hc.2.1 j (by omega), hc.2.2 j (by omega)⟩
      obtain ⟨vs', e1, e2, e3⟩ := elsD_ok hV h c0 ps.toList _ L obs _ hL hobs hgrid
      have hLn : L.length = n := by rw [e3]; simp
      obtain ⟨p1, p2⟩ := pcss_get hp
      have h' := h.freeze hV r
      have hrun : (execOp a.eval o).run P w = .ok (.value (.slice (some ⟨w.heap.size, 0, none⟩) n n)) (w.alloc (.cells vs' e)) := by
       have hno : ¬ (n * P.cellsOf e > 2 ^ 24) := by omega
       simp only [execOp, ho, Instr.buildSlice, Sem.run_bind, run_underlying ht, Result.andThen_ok, sizeOf_run (w := w) c0, hno, if_false, Sem.run_pure, Array.toList_map]
       by_cases hn0 : n * P.cellsOf e = 0
       ·have q0 : ∀ f : Nat → Value, (Array.range 0).map f = #[] := fun f => by simp
        have hz2 : n = 0 := by rcases Nat.mul_eq_zero.1 hn0 with q | q; exact q; exact absurd q c0
        subst hz2
        simp only [Nat.zero_mul, q0] at e1 ⊢
        simp only [if_true, Sem.run_bind, Sem.run_pure, Result.andThen_ok, q0]
        rw [e1]
        simp [newRow, newObj, Sem.run]
       ·simp only [hn0, if_false, Sem.run_bind, hu, Result.andThen_ok, Sem.run_pure]
        rw [e1]
        simp [newRow, newObj, Sem.run]
      have hnr := h'.newRow (st := st) hst o.dst e (P.cellsOf e) (.sl (P.cellsOf e) L') (.slice (some ⟨w.heap.size, 0, none⟩) n n) (w.alloc (.cells vs' e)) (World.grownBy_alloc w _ none) (fun ok' hk => by
       refine rrow_new (by omega) h.low (by rw [p1, hLn]) (Nat.le_refl _) ?_ (by rw [e2.1, hLn]) (fun y hy => ?_) (fun i j hi hj => ?_)
       ·have : n ≤ n * P.cellsOf e := Nat.le_mul_of_pos_right _ (by omega)
        unfold maxLen; omega
       ·obtain ⟨k, hk2, rfl⟩ := List.getElem_of_mem hy
        obtain ⟨r', z1, _⟩ := p2 k (by rw [← p1]; exact hk2)
        have z2 := (pcfs_get z1).1
        rw [List.getD_eq_getElem?_getD, List.getElem?_eq_getElem hk2] at z2
        simp only [Option.getD_some] at z2
        rw [z2, List.getD_eq_getElem?_getD, List.getElem?_eq_getElem (by rw [← p1]; exact hk2)]
        exact e2.2.1 _ (List.getElem_mem _)
       ·obtain ⟨q1, q2⟩ := e2.2.2 i j (by rw [hLn]; exact hi) hj
        refine ⟨q1, ?_⟩
        obtain ⟨r', z1, z3⟩ := p2 i (by rw [hLn]; exact hi)
        obtain ⟨z4, z5⟩ := pcfs_get z1
        have hli : (L.getD i []).length = P.cellsOf e := by
         rw [List.getD_eq_getElem?_getD, List.getElem?_eq_getElem (by rw [hLn]; exact hi)]; exact e2.2.1 _ (List.getElem_mem _)
        obtain ⟨r2, z6, z7⟩ := z5 j (by rw [hli]; exact hj)
        have := pcf_frz hV h q2 z6 (r := r) (fun b hb => z3 b (z7 b hb))
        exact this.mono fun g hg hlt => hk g hg hlt) (fun g hg => by injection hg with hg; exact Nat.le_of_eq hg) (.row st st) _ ⟨rfl, rfl⟩
      rw [← updB_append] at hnr
      exact goes_run hrun hnr
theorem op_makeSlice {t : TypeId} {x y : Operand} (ho : o.op = .makeSlice t x y) (hV : VOk V tm blk) (h : HR base w0 ok0 isd tm blk ρ a w) (hst : ¬ isd st) {δ : Delta} (hv : Valid P Γ o st V δ) : Goes P base w0 ok0 isd tm blk st a w o δ := by
 simp only [Valid, opD, ho] at hv
 split at hv
 ·exact hv.elim
 ·rename_i e s by_ hsl
  obtain ⟨ht, rfl, rfl⟩ := slT_spec hsl
  split at hv
  ·rename_i z n m hz hn hm
   split at hv
   ·rename_i z' hzp
    split at hv
    ·exact hv.elim
    ·rename_i hcond
     have c0 : P.cellsOf e ≠ 0 := fun x => hcond (.inl x)
     have c1 : z.length = P.cellsOf e := Classical.byContradiction fun x => hcond (.inr (.inl x))
     have c2 : P.bytesOf e ≠ 0 := fun x => hcond (.inr (.inr (.inl x)))
     have c3 : onesD z = true := by cases q : onesD z; exact absurd (.inr (.inr (.inr q))) hcond; rfl
     obtain ⟨⟨i1, i2, i3⟩, i4, i5, rfl⟩ := hv.det3
     have i5 : m.num = n.num := i5
     obtain ⟨u, hu, hc, inf, hinf, hzu⟩ := zeroOf_ok (w := w) (ρ := ρ) (blk := blk) (isd := isd) (okF base ok0 blk ρ) hz c3
     have hus : u.cells.size = P.cellsOf e := by rw [hc.1, c1]
     have r1 := rv_i64 (pc_ok' hV h (ev_ok hV h x) hn) i1
     have r2 := rv_i64 (pc_ok' hV h (ev_ok hV h y) hm) i4
     rw [i5] at r2
     obtain ⟨N, hN⟩ := Int.eq_ofNat_of_zero_le i2
     rw [hN] at r1 r2 i3
     have hsz : inf.size = P.cellsOf e := by unfold Program.cellsOf; rw [hinf]; rfl
     have hby : inf.bytes = P.bytesOf e := by unfold Program.bytesOf; rw [hinf]; rfl
     have hb1 : 1 ≤ P.bytesOf e := by omega
     have hNb' : ((N * P.bytesOf e : Nat) : Int) ≤ 140737488355328 := by rw [Int.natCast_mul]; exact i3
     have hNb : N * P.bytesOf e ≤ 140737488355328 := by omega
     have hNle : N ≤ N * P.bytesOf e := Nat.le_mul_of_pos_right _ hb1
     have hr := run_make (P := P) w t e inf u ht hinf hzu .i64 .i64 (N : Int) N (by omega) (Int.le_refl _) (by rw [hby, Int.mul_comm, ← Int.natCast_mul]; omega) (by omega)
     simp only [Int.toNat_natCast, hsz] at hr
     have hrun : (execOp a.eval o).run P w = .ok (.value (.slice (some ⟨w.heap.size, 0, none⟩) N N)) (w.alloc (.cells (madeCells u.cells (N * P.cellsOf e)) e)) := by
      simp only [execOp, ho, r1, r2, Sem.run_bind, hr]
      rfl
     obtain ⟨p1, p2⟩ := pcs_get hzp
     have hnr := h.newRow (st := st) hst o.dst e (P.cellsOf e) (AV.rep (P.cellsOf e) n z') (.slice (some ⟨w.heap.size, 0, none⟩) N N) (w.alloc (.cells (madeCells u.cells (N * P.cellsOf e)) e)) (World.grownBy_alloc w _ none) (fun ok' hk => by
      unfold AV.rep
      rw [hN]
      refine rrow_new (by omega) h.low (by simp) (Nat.le_refl _) ?_ (by simp [madeCells]) (fun y hy => by rw [List.eq_of_mem_replicate hy, p1, c1]) (fun i j hi hj => ?_)
      ·unfold maxLen; omega
      ·have hlt : i * P.cellsOf e + j < N * P.cellsOf e := by
        have : (i + 1) * P.cellsOf e ≤ N * P.cellsOf e := Nat.mul_le_mul_right _ hi
        rw [Nat.add_mul] at this; omega
       have hmod : (i * P.cellsOf e + j) % u.cells.size = j := by rw [hus, Nat.add_comm, Nat.add_mul_mod_self_right, Nat.mod_eq_of_lt hj]
       have hj' : j < u.cells.size := by omega
       have e1 : (madeCells u.cells (N * P.cellsOf e)).getD (i * P.cellsOf e + j) undef = u.cells.getD j undef := by
        simp [madeCells, hlt, hmod, hj']
       rw [e1]
       refine ⟨hc.2.1 j (by omega), ?_⟩
       have hgt : gt2 (List.replicate (N : Int).toNat z') i j = z'.getD j default := by unfold gt2; simp [hi]
       rw [hgt]
       obtain ⟨r', z1, z2⟩ := p2 j (by omega)
       obtain rfl : r' = [] := by
        cases r' with
        | nil => rfl
        | cons q _ => exact absurd (z2 q (by simp)) (by simp)
       exact (pc_ok' hV h (hc.2.2 j (by omega)) z1).mono fun g hg hlt => hk g hg hlt) (fun g hg => by injection hg with hg; exact Nat.le_of_eq hg) (.row st st) _ ⟨rfl, rfl⟩
     exact goes_run hrun hnr
   ·exact hv.elim
  ·exact hv.elim
theorem bnd0 {l : AV} {x : Option Operand} {z : AV} (hz : z.num = 0) (h : (x = none ∧ l = z) ∨ ∃ y, x = some y ∧ a.eval y = .int l.kind l.num) : (x = none ∧ l.num = 0) ∨ ∃ y, x = some y ∧ a.eval y = .int l.kind l.num := by
 rcases h with ⟨e, rfl⟩ | h
 ·exact .inl ⟨e, hz⟩
 ·exact .inr h
theorem bndN {l : AV} {x : Option Operand} {z : AV} {n : Nat} (hz : z.num = n) (h : (x = none ∧ l = z) ∨ ∃ y, x = some y ∧ a.eval y = .int l.kind l.num) : (x = none ∧ l.num = n) ∨ ∃ y, x = some y ∧ a.eval y = .int l.kind l.num := by
 rcases h with ⟨e, rfl⟩ | h
 ·exact .inl ⟨e, hz⟩
 ·exact .inr h
theorem op_slice {t : TypeId} {x : Operand} {lo hi mx : Option Operand} (ho : o.op = .slice t x lo hi mx) (hV : VOk V tm blk) (h : HR base w0 ok0 isd tm blk ρ a w) {δ : Delta} (hv : Valid P Γ o st V δ) : Goes P base w0 ok0 isd tm blk st a w o δ := by
 have hx := ev_ok hV h x
 cases mx with
 | some m => simp only [Valid, opD, ho] at hv; exact hv.elim
 | none =>
  simp only [Valid, opD, ho] at hv
  split at hv
  ·rename_i ht
   split at hv
   ·rename_i b hb
    split at hv
    ·rename_i l r hl hr
     obtain ⟨h1, ⟨h2, h3, h4, h5, h6⟩, rfl⟩ := hv.det2
     have r1 := rv_str (pc_ok' hV h hx hb) h1
     have hbo := run_sliceBounds (P := P) (w := w) (a := a) false b.str.size b.str.size (Nat.le_refl _) h2 h3 h4 h5 h6 (bnd0 rfl (bnd_ok hV h hl h2)) (bndN rfl (bnd_ok hV h hr h3))
     refine goes_val h (v := .string (b.str.extract l.num.toNat r.num.toNat)) ?_ (.v _ _ (.lit _))
     simp [execOp, ho, Instr.sliceAt, run_underlying ht, Instr.slice, r1, hbo]
    ·exact hv.elim
   ·exact hv.elim
  ·rename_i n e ht
   split at hv
   ·rename_i X he
    rw [he] at hx
    split at hv
    ·rename_i h1c
     obtain ⟨h1c, hn6⟩ := h1c
     obtain ⟨hr, rfl⟩ := hv.det1
     obtain ⟨cs, rfl, hm⟩ := hr
     generalize hu2 : a.eval x = u at hx
     cases hx with
     | v _ _ hh =>
      cases hh with
      | ref _ g us hok hg hc h1 h2 =>
       have hbo : (Instr.sliceBounds false n n none none none).run P w = .ok (0, n, n) w := by simp [Instr.sliceBounds]
       refine goes_val h (v := .slice (some ⟨g, 0, none⟩) n n) ?_ (.v _ _ ?_)
       ·simp [execOp, ho, Instr.sliceAt, run_underlying ht, hu2, Instr.sureAddr, hbo, sizeOf_run (w := w) (show P.cellsOf e ≠ 0 by omega), Addr.add]
       ·refine .sl 1 _ _ n n (fun i _ => us i) (by simp [AV.rcs, hm]) (Nat.le_refl _) (by unfold maxLen; omega) (by simp [AV.rcs]) (fun _ => ⟨g, 0, rfl, hok, hg, fun i j hi hj => ?_⟩) (fun i j hi hj => h1 i (by omega)) (fun i j hi hj => ?_)
        ·rw [← hc i (by omega)]
         congr 2; omega
        ·obtain rfl : j = 0 := by omega
         have : gt2 ((AV.ref cs).rcs.map fun c => [c]) i 0 = cs.getD i default := by
          unfold gt2
          simp [AV.rcs, List.getD_eq_getElem?_getD, List.getElem?_eq_getElem (show i < cs.length by omega)]
         rw [this]
         exact h2 i (by omega)
    ·exact hv.elim
   ·exact hv.elim
  ·rename_i e ht
   split at hv
   ·exact hv.elim
   ·rename_i hz
    split at hv
    ·split at hv
     ·rename_i b n lo' he
      rw [he] at hx
      split at hv
      ·rename_i e' s m X l hb hl
       split at hv
       ·rename_i hc
        obtain ⟨rfl, rfl⟩ := hc
        obtain ⟨⟨h2, h3, h4, h5, h6⟩, rfl⟩ := hv.det1
        have hbk := hV.row hb
        have hrow := h.row hbk
        generalize hu2 : a.eval x = u at hx
        cases hx with
        | row _ _ _ hn h1' hs =>
         have hv := hs (by rw [hbk]; rfl)
         obtain ⟨A, n', c, e1, e2, e3, e4⟩ := hrow.form
         have hbo := run_sliceBounds (P := P) (w := w) (a := a) true X.els.length c (by omega) (hi := none) (lo := some lo') h2 h3 h4 h5 h6 (bnd0 (z := .int 0) rfl (bnd_ok hV h (x := some lo') hl h2)) (.inl ⟨rfl, rfl⟩)
         have hrun : (execOp a.eval o).run P w = .ok (.value (.slice (if c = l.num.toNat then A else A.map (·.add (l.num.toNat * P.cellsOf e))) (n' - l.num.toNat) (c - l.num.toNat))) w := by
          have hnum : (AV.len X).num.toNat = n' := by rw [e2]; rfl
          rw [hnum] at hbo
          rw [e2] at hbo ⊢
          rw [hv, e1] at hu2
          rw [e2] at hu2
          simp only [Option.map_some, Option.map_none] at hbo
          simp [execOp, ho, Instr.sliceAt, run_underlying ht, Instr.slice, hu2, hbo, sizeOf_run (w := w) hz]
         refine goes_val h hrun (.rt b m (P.cellsOf e) l _ hn rfl fun _ => ⟨A, n', c, e1, h4, ?_, rfl⟩)
         have : (AV.len X).num = (X.els.length : Nat) := rfl
         omega
       ·exact hv.elim
      ·exact hv.elim
     ·exact hv.elim
    split at hv
    ·split at hv
     ·rename_i b n hi' he
      rw [he] at hx
      split at hv
      ·rename_i e' s m X l hb hl
       split at hv
       ·rename_i hc
        obtain ⟨rfl, rfl⟩ := hc
        obtain ⟨⟨h2, h3, h4, h5, h6⟩, rfl⟩ := hv.det1
        have hbk := hV.row hb
        have hrow := h.row hbk
        generalize hu2 : a.eval x = u at hx
        cases hx with
        | row _ _ _ hn h1' hs =>
         have hv := hs (by rw [hbk]; rfl)
         obtain ⟨A, n', c, e1, e2, e3, e4⟩ := hrow.form
         have hbo := run_sliceBounds (P := P) (w := w) (a := a) true X.els.length c (by omega) (hi := some hi') (lo := none) h2 h3 h4 h5 h6 (.inl ⟨rfl, rfl⟩) (bndN (z := .int X.els.length) rfl (bnd_ok hV h (x := some hi') hl h3))
         have hA : (if c = 0 then A else A.map (·.add (0 * P.cellsOf e))) = A := by
          split
          ·rfl
          ·obtain ⟨L, xs, _, _, _, ho2, _⟩ := hrow
           rw [e1] at ho2
           rcases ho2.2 with ⟨q, _⟩ | ⟨g, cap, cur, q, _⟩
           ·injection q with q; rw [q]; rfl
           ·injection q with q; rw [q]; simp [Addr.add]
         have hrun : (execOp a.eval o).run P w = .ok (.value (.slice A l.num.toNat c)) w := by
          rw [hv, e1, e2] at hu2
          simp only [Option.map_some, Option.map_none] at hbo
          simp only [Nat.zero_mul] at hA
          simp [execOp, ho, Instr.sliceAt, run_underlying ht, Instr.slice, hu2, hbo, sizeOf_run (w := w) hz, AV.num, hA]
         refine goes_val h hrun (.rk b m (P.cellsOf e) l _ hn rfl fun _ => ⟨A, n', c, e1, Int.le_trans h4 h5, ?_, rfl⟩)
         omega
       ·exact hv.elim
      ·exact hv.elim
     ·exact hv.elim
    split at hv
    ·rename_i b obs hb
     split at hv
     ·rename_i l r hl hr
      obtain ⟨hobs, rfl⟩ := hv
      have hobs1 : ∀ p ∈ obs, p.p := fun p hp => hobs p (List.mem_append_left _ hp)
      obtain ⟨h2, h3, h4, h5, h6⟩ : AV.subOk b l r := hobs (ob (AV.subOk b l r)) (List.mem_append_right _ (by simp))
      obtain ⟨hsl, rr, hrv, hcase⟩ := asSl_ok hV h hx hb hobs1
      obtain ⟨A, c, e1, e2, e3⟩ := rv_sl hrv hsl
      have hbo := run_sliceBounds (P := P) (w := w) (a := a) true b.els.length c e2 h2 h3 h4 h5 h6 (bnd0 rfl (bnd_ok hV h hl h2)) (bndN rfl (bnd_ok hV h hr h3))
      have hrun : (execOp a.eval o).run P w = .ok (.value (.slice (if c = l.num.toNat then A else A.map (·.add (l.num.toNat * P.cellsOf e))) (r.num.toNat - l.num.toNat) (c - l.num.toNat))) w := by
       simp [execOp, ho, Instr.sliceAt, run_underlying ht, Instr.slice, e1, hbo, sizeOf_run (w := w) hz]
      rcases hcase with rfl | ⟨b', n', e', d1, rfl, d3, d4⟩
      ·have hrv' := rv_okR_nil hrv
       rw [e1] at hrv'
       have hsub := rv_sub hrv' hsl l.num.toNat r.num.toNat (by omega) (by omega)
       split
       ·rename_i b' n' he
        have : V.frz [b'] = [] ∨ ∃ e s n y, V.bl b' = .row e s n y := by
         unfold View.frz
         cases hk : V.bl b' <;> simp [hk]
        rcases this with q | ⟨e', s', n2, y, q⟩
        ·rw [q]; exact goes_val h hrun (.v _ _ hsub)
        ·have h' := h.freeze hV [b']
         have hput := h'.put o.dst (d := .v _) (.v _ _ (hsub.mono fun g hg _ => ⟨⟨hg.1, fun b2 hl2 => ?_⟩, rfl⟩)) st w rfl rfl rfl rfl
         ·exact goes_run hrun hput
         ·rw [updB_frz] at hl2
          split at hl2
          ·split at hl2
           ·cases hl2
           ·exact hg.2 b2 hl2
          ·exact hg.2 b2 hl2
       ·exact goes_val h hrun (.v _ _ hsub)
      ·rw [d1]
       simp only
       have h' := h.freeze hV [b']
       have hbl : V.bl b' = .row e' (P.cellsOf e) n' b := by
        rw [d1] at hb
        simp only [View.asSl] at hb
        rcases hV.b b' with q | q
        ·rw [q]; exact d3
        ·rw [q] at hb; cases hb
       have hfz : updB blk (V.frz [b']) b' = .fz n' b := by rw [updB_frz, if_pos (by simp), hbl]
       have hb2 := h'.blks b'
       rw [hfz] at hb2
       have hrv' := hb2.2.1
       rw [← d4, e1] at hrv'
       have hsub := rv_sub hrv' hsl l.num.toNat r.num.toNat (by omega) (by omega)
       exact goes_run hrun (h'.put o.dst (.v _ _ hsub) st w rfl rfl rfl rfl)
     ·exact hv.elim
    ·exact hv.elim
  ·exact hv.elim
end
end Go.Proofs.YtcifjnhpgblnkaaGreatDoor
namespace Go.Proofs.YtcifjnhpgblnkaaGreatDoor
open Go.RowKit
set_option linter.unusedVariables false
set_option linter.unusedSimpArgs false
section
variable {P : Program} {base : Nat} {w0 : World} {ok0 isd : Nat → Prop} {tm : List DE} {blk : Nat → DB} {ρ : Nat → Value} {a : Act} {w : World} {V : View} {st : Nat} {o : Oper} {Γ : FuncId → Option Ca}
def Src (w : World) (okc : Nat → Prop) (s : Nat) (y : AV) (u : Value) : Prop :=
 ∃ (A : Option Addr) (c : Nat) (us : Nat → Nat → Value), u = .slice A y.els.length c ∧ (∀ z ∈ y.els, z.length = s) ∧ y.els.length ≤ maxLen ∧ (0 < y.els.length → ∃ b off, A = some ⟨b, off, none⟩ ∧ ∀ i j, i < y.els.length → j < s → w.cell? ⟨b, off + i * s + j, none⟩ = some (us i j)) ∧
  (∀ i j, i < y.els.length → j < s → (us i j).oneCell' = true) ∧ ∀ i j, i < y.els.length → j < s → RV w okc (gt2 y.els i j) (us i j)
theorem src_rv {okc : Nat → Prop} {s : Nat} {y : AV} {u : Value} (h : RV w okc y u) (hy : y.isSl s) : Src w okc s y u := by
 rw [hy] at h
 cases h with
 | sl _ _ A n c us hn hnc hc hs hA hone hu =>
  subst hn
  exact ⟨A, c, us, rfl, hs, by omega, fun h0 => by obtain ⟨b, off, e, _, _, hcell⟩ := hA h0; exact ⟨b, off, e, hcell⟩, hone, hu⟩
theorem src_row {B e s : Nat} {okc : Nat → Prop} {x : AV} {v : Value} (h : RRow w B e s okc x v) : Src w okc s x v := by
 have h' := h
 obtain ⟨L, xs, rfl, hs, hL, ho, hone, hv⟩ := h'
 rcases ho.2 with ⟨rfl, h0⟩ | ⟨g, cap, cur, rfl, hb, hg, hn, hm, hsz, htk⟩
 ·have : (AV.sl s L).els.length = 0 := h0
  exact ⟨none, 0, fun _ _ => undef, by rw [this], hL, by rw [this]; unfold maxLen; omega, fun h => absurd h (by rw [this]; omega), fun i j hi => absurd hi (by rw [this]; omega), fun i j hi => absurd hi (by rw [this]; omega)⟩
 ·have hget : ∀ i j, i < L.length → j < s → i * s + j < xs.length := fun i j hi hj => by
   rw [ho.1]
   have : (i + 1) * s ≤ L.length * s := Nat.mul_le_mul_right _ hi
   rw [Nat.add_mul] at this; omega
  refine ⟨_, cap, fun i j => xs.getD (i * s + j) undef, rfl, hL, by show L.length ≤ _; omega, fun _ => ⟨g, 0, rfl, fun i j hi hj => ?_⟩, fun i j hi hj => ?_, hv⟩
  ·have hl := hget i j hi hj
   rw [cell_of_row w g _ cur e (0, 0) hg]
   have : (cur.toList.take (L.length * s))[i * s + j]? = xs[i * s + j]? := by rw [htk]
   rw [List.getElem?_take, if_pos (by rw [← ho.1]; exact hl)] at this
   simp only [Nat.zero_add]
   rw [← Array.getElem?_toList, this, List.getD_eq_getElem?_getD, List.getElem?_eq_getElem hl]
   rfl
  ·have hl := hget i j hi hj
   show (xs.getD (i * s + j) undef).oneCell' = true
   rw [List.getD_eq_getElem?_getD, List.getElem?_eq_getElem hl]
   exact hone _ (List.getElem_mem hl)
theorem append_old {B t ty e s : Nat} {inf : TypeInfo} {z : Value} (ht : P.underlying t = some (.slice e)) (hi : P.info? e = some inf) (hz : inf.zero = some z) (hsize : inf.size = s) {v : Value} {n : Nat} {xs : List Value} (ho : w.ownsRow B e s v n xs) {ad : Addr} {m c : Nat} {news : List Value} (hl : news.length = m * s) (hnews : ∀ j u, news[j]? = some u → w.cell? (ad.add j) = some u) (h1 : ∀ u ∈ news, u.oneCell' = true) (h63 : n + m ≤ maxLen) (hrm : (n + m) * inf.bytes ≤ 140737488355328) {v' : Value} {w' : World} (hrun : (Builtin.append_ #[t, t] ty #[v, .slice (some ad) m c]).run P w = .ok v' w') : w'.ownsRow B e s v n xs := by
 subst hsize
 refine ⟨ho.1, ?_⟩
 rcases ho.2 with q | ⟨g, cap, cur, rfl, hb, hg, hnc, hm, hsz, htk⟩
 ·exact .inl q
 ·right
  by_cases hroom : n + m ≤ cap
  ·have hfit : n * inf.size + news.length ≤ cur.size := by rw [hl, hsz, ← Nat.add_mul]; exact Nat.mul_le_mul_right _ hroom
   have hr := run_append_room (P := P) w t ty e inf ht hi g n cap cur hg ad m c news hl hnews h1 hroom hfit
   rw [hrun] at hr
   injection hr with _ hr
   subst hr
   refine ⟨g, cap, _, rfl, hb, setRow_heap w g cur _ e _ hg, hnc, hm, ?_, ?_⟩
   ·simp only [List.size_toArray, List.length_append, List.length_take, List.length_drop, Array.length_toList]
    omega
   ·rw [htk, List.append_assoc]
    have : xs.length = n * inf.size := ho.1
    rw [← this]
    exact List.take_left
  ·have holds : ∀ j u, xs[j]? = some u → w.cell? ((⟨g, 0, none⟩ : Addr).add j) = some u := ho.cells (g := g) rfl
   have hr := run_append_grow (P := P) (ty := ty) w t e inf z ht hi hz ⟨g, 0, none⟩ n cap xs ho.1 holds ad m c news hl hnews (by omega) (by unfold maxLen at h63; omega) (growslice_fits (by omega) hrm)
   rw [hrun] at hr
   injection hr with _ hr
   subst hr
   exact ⟨g, cap, cur, rfl, hb, (heap_alloc_old w.drew _ (Array.getElem?_eq_some_iff.1 hg).1).trans hg, hnc, hm, hsz, htk⟩
theorem run_append_av {B t ty e s : Nat} {inf : TypeInfo} {z : Value} (ht : P.underlying t = some (.slice e)) (hi : P.info? e = some inf) (hz : inf.zero = some z) (hsize : inf.size = s) (hzs : z.cells.size = s) (hs : 0 < s) {okc : Nat → Prop} {x y : AV} {v u : Value}
  (hx : RRow w B e s okc x v) (hy : Src w okc s y u) (hB : B ≤ w.heap.size) (hby : 0 < inf.bytes) (hroom : AV.room x y inf.bytes) :
  ∃ v' w', (Builtin.append_ #[t, t] ty #[v, u]).run P w = .ok v' w' ∧ w.grownBy w' v.ownBlock ∧ (∀ g, v'.ownBlock = some g → v.ownBlock = some g ∨ w.heap.size ≤ g) ∧
   ∀ ok' : Nat → Prop, (∀ g, okc g → g < w.heap.size → ok' g ∧ w'.heap[g]? = w.heap[g]?) → RRow w' B e s ok' (AV.app s x y) v' ∧ RRow w' B e s ok' x v := by
 obtain ⟨L, xs, rfl, _, hL, ho, hone, hv⟩ := hx
 obtain ⟨A, c, us, rfl, hyL, hym, hA, hyo, hyv⟩ := hy
 generalize hm : y.els.length = m at *
 have hrm : (L.length + m) * inf.bytes ≤ 140737488355328 := by rw [← hm]; exact hroom
 have hle : L.length + m ≤ (L.length + m) * inf.bytes := Nat.le_mul_of_pos_right _ hby
 have h63 : L.length + m ≤ maxLen := by unfold maxLen; omega
 rcases A with _ | ad
 ·have hm0 : m = 0 := by
   rcases Nat.eq_zero_or_pos m with q | q
   ·exact q
   ·obtain ⟨b, off, e1, _⟩ := hA q; cases e1
  subst hm0
  have hye : y.els = [] := List.eq_nil_of_length_eq_zero hm
  refine ⟨v, w, ?_, ⟨rfl, rfl, rfl, Nat.le_refl _, fun _ _ _ => rfl⟩, fun g hg => .inl hg, fun ok' hk => ?_⟩
  ·rcases ho.2 with ⟨rfl, h0⟩ | ⟨g, cap, cur, rfl, _, _, hnc, _⟩
   ·simp [Builtin.append_, run_underlying ht, sizeOf, typeInfo, hi, Builtin.lenOf, Builtin.firstCells]
   ·simp [Builtin.append_, run_underlying ht, sizeOf, typeInfo, hi, Builtin.lenOf, Builtin.firstCells, hnc, storeCells]
  ·exact ⟨⟨L, xs, by unfold AV.app; rw [hye, List.append_nil]; rfl, hs, hL, ho, hone, fun i j hi hj => (hv i j hi hj).mono fun g hg hlt => hk g hg hlt⟩, ⟨L, xs, rfl, hs, hL, ho, hone, fun i j hi hj => (hv i j hi hj).mono fun g hg hlt => hk g hg hlt⟩⟩
 ·have hidx : ∀ i j, i < m → j < s → i * s + j < m * s := fun i j hi hj => by
   have : (i + 1) * s ≤ m * s := Nat.mul_le_mul_right _ hi
   rw [Nat.add_mul] at this; omega
  have hdiv : ∀ k, k < m * s → k / s < m ∧ k % s < s ∧ k / s * s + k % s = k := fun k hk =>
   ⟨Nat.div_lt_of_lt_mul (by rw [Nat.mul_comm]; exact hk), Nat.mod_lt _ hs, by rw [Nat.mul_comm]; exact Nat.div_add_mod k s⟩
  have hcl : ∀ j u, ((List.range (m * s)).map fun k => us (k / s) (k % s))[j]? = some u → w.cell? (ad.add j) = some u := (fun j u hu => by
    rw [List.getElem?_map] at hu
    by_cases hj : j < m * s
    ·obtain ⟨q1, q2, q3⟩ := hdiv j hj
     rw [List.getElem?_range hj] at hu
     simp only [Option.map_some, Option.some.injEq] at hu
     obtain ⟨b, off, e1, hcell⟩ := hA (Nat.lt_of_le_of_lt (Nat.zero_le _) q1)
     injection e1 with e1
     subst e1
     have : (⟨b, off, none⟩ : Addr).add j = ⟨b, off + j, none⟩ := by unfold Addr.add; split <;> simp_all
     rw [this, ← hu, ← hcell _ _ q1 q2]
     congr 2; omega
    ·rw [List.getElem?_eq_none (by simp; omega)] at hu; cases hu)
  have hc1 : ∀ u ∈ (List.range (m * s)).map fun k => us (k / s) (k % s), u.oneCell' = true := (fun u hu => by
    rw [List.mem_map] at hu
    obtain ⟨k, hk, rfl⟩ := hu
    obtain ⟨q1, q2, _⟩ := hdiv k (by simpa using hk)
    exact hyo _ _ q1 q2)
  obtain ⟨v', w', hrun, h2, h3, _, h5⟩ := run_append_own_at (P := P) w B t ty e inf z s inf.bytes ht hi hz hsize rfl hzs hs v L.length xs ho ad m c ((List.range (m * s)).map fun k => us (k / s) (k % s)) (by simp) hcl hc1 h63 hrm hB
  have hold := append_old (P := P) ht hi hz hsize ho (by simp) hcl hc1 h63 hrm hrun
  refine ⟨v', w', hrun, h3, fun g hg => ?_, fun ok' hk => ?_⟩
  ·rcases h5 with q | q
   ·left; rw [← q]; exact hg
   ·right; rw [q] at hg; injection hg with hg; omega
  ·refine ⟨?_, ⟨L, xs, rfl, hs, hL, hold, hone, fun i j hi hj => (hv i j hi hj).mono fun g hg hlt => hk g hg hlt⟩⟩
   refine ⟨L ++ y.els, xs ++ (List.range (m * s)).map fun k => us (k / s) (k % s), rfl, hs, fun q hq => ?_, by rw [List.length_append, hm]; exact h2, fun q hq => ?_, fun i j hi hj => ?_⟩
   ·rcases List.mem_append.1 hq with q1 | q1
    ·exact hL q q1
    ·exact hyL q q1
   ·rcases List.mem_append.1 hq with q1 | q1
    ·exact hone q q1
    ·rw [List.mem_map] at q1
     obtain ⟨k, hk2, rfl⟩ := q1
     obtain ⟨q1, q2, _⟩ := hdiv k (by simpa using hk2)
     exact hyo _ _ q1 q2
   ·rw [List.length_append, hm] at hi
    by_cases hil : i < L.length
    ·have e1 : gt2 (L ++ y.els) i j = gt2 L i j := by unfold gt2; simp [List.getElem?_append_left hil]
     have hlt : i * s + j < xs.length := by
      rw [ho.1]
      have : (i + 1) * s ≤ L.length * s := Nat.mul_le_mul_right _ hil
      rw [Nat.add_mul] at this; omega
     have e2 : (xs ++ (List.range (m * s)).map fun k => us (k / s) (k % s)).getD (i * s + j) undef = xs.getD (i * s + j) undef := by
      simp [List.getElem?_append_left hlt]
     rw [e1, e2]
     exact (hv i j hil hj).mono fun g hg hlt => hk g hg hlt
    ·have hge : L.length ≤ i := by omega
     have him : i - L.length < m := by omega
     have e1 : gt2 (L ++ y.els) i j = gt2 y.els (i - L.length) j := by unfold gt2; simp [List.getElem?_append_right hge]
     have e3 : i * s + j - xs.length = (i - L.length) * s + j := by rw [ho.1, Nat.sub_mul]; have : L.length * s ≤ i * s := Nat.mul_le_mul_right _ hge; omega
     have hge2 : xs.length ≤ i * s + j := by rw [ho.1]; have : L.length * s ≤ i * s := Nat.mul_le_mul_right _ hge; omega
     have hlt := hidx (i - L.length) j him hj
     have e4 : ((i - L.length) * s + j) / s = i - L.length := by rw [Nat.add_comm, Nat.add_mul_div_right _ _ hs, Nat.div_eq_of_lt hj]; omega
     have e5 : ((i - L.length) * s + j) % s = j := by rw [Nat.add_comm, Nat.add_mul_mod_self_right, Nat.mod_eq_of_lt hj]
     have e2 : (xs ++ (List.range (m * s)).map fun k => us (k / s) (k % s)).getD (i * s + j) undef = us (i - L.length) j := by
      rw [List.getD_eq_getElem?_getD, List.getElem?_append_right hge2, e3, List.getElem?_map, List.getElem?_range hlt]
      simp [e4, e5]
     rw [e1, e2]
     exact (hyv _ j him hj).mono fun g hg hlt => hk g hg hlt
theorem asSl_src (hV : VOk V tm blk) (h : HR base w0 ok0 isd tm blk ρ a w) {d : DE} {v : Value} (hd : RD w (okF base ok0 blk ρ) ρ blk isd d v) {s : Nat} {x : AV} {obs : List Ob} (hs : V.asSl s d = some (x, obs)) (hobs : ∀ p ∈ obs, p.p) : Src w (okF base ok0 blk ρ) s x v := by
 obtain ⟨h1, r, h2, h3⟩ := asSl_ok hV h hd hs hobs
 rcases h3 with rfl | ⟨b, n, e, rfl, rfl, hk, rfl⟩
 ·exact src_rv (rv_okR_nil h2) h1
 ·exact src_row (h.row hk)
theorem src_drop {okc : Nat → Prop} {s : Nat} {x l : AV} {A : Option Addr} {m c : Nat} (hx : x.isSl s) (h : Src w okc s x (.slice A m c)) (h0 : 0 ≤ l.num) (hl : l.num ≤ m) (hmc : m ≤ c) : Src w okc s (AV.sub s x l x.len) (.slice (if c = l.num.toNat then A else A.map (·.add (l.num.toNat * s))) (m - l.num.toNat) (c - l.num.toNat)) := by
 obtain ⟨A', c', us, e1, q1, q2, q3, q4, q5⟩ := h
 injection e1 with e1 e2 e3
 subst e1 e2 e3
 have hels : (AV.sub s x l x.len).els = x.els.drop l.num.toNat := by
  show (x.els.take (x.els.length : Int).toNat).drop l.num.toNat = _
  rw [Int.toNat_natCast, List.take_length]
 have hlen : (AV.sub s x l x.len).els.length = x.els.length - l.num.toNat := by rw [hels, List.length_drop]
 have hg : ∀ i j, gt2 (AV.sub s x l x.len).els i j = gt2 x.els (l.num.toNat + i) j := fun i j => by
  rw [hels]; unfold gt2
  simp only [List.getD_eq_getElem?_getD, List.getElem?_drop]
 by_cases hz : x.els.length = l.num.toNat
 ·refine ⟨_, c - l.num.toNat, us, by rw [hlen], fun z hz => q1 z (by rw [hels] at hz; exact List.mem_of_mem_drop hz), by rw [hlen]; omega, fun h => by omega, fun i j hi hj => by omega, fun i j hi hj => by omega⟩
 ·obtain ⟨b, off, rfl, hcell⟩ := q3 (by omega)
  refine ⟨_, c - l.num.toNat, fun i j => us (l.num.toNat + i) j, by rw [hlen], fun z hz => q1 z (by rw [hels] at hz; exact List.mem_of_mem_drop hz), by rw [hlen]; omega, fun _ => ?_, fun i j hi hj => q4 _ j (by omega) hj, fun i j hi hj => by rw [hg]; exact q5 _ j (by omega) hj⟩
  have hcell' : ∀ i j, i < (AV.sub s x l x.len).els.length → j < s → w.cell? ⟨b, off + l.num.toNat * s + i * s + j, none⟩ = some (us (l.num.toNat + i) j) := fun i j hi hj => by
   rw [← hcell (l.num.toNat + i) j (by omega) hj]
   congr 2
   rw [Nat.add_mul]; omega
  split
  · -- the slice's end is its capacity's: then nothing is left
   rename_i hc
   omega
  ·refine ⟨b, off + l.num.toNat * s, ?_, hcell'⟩
   simp only [Option.map_some, Addr.add]
   by_cases h0 : l.num.toNat * s = 0
   ·simp [h0]
   ·simp [h0]
theorem asSlR_src (hV : VOk V tm blk) (h : HR base w0 ok0 isd tm blk ρ a w) {d : DE} {v : Value} (hd : RD w (okF base ok0 blk ρ) ρ blk isd d v) {s : Nat} {x : AV} {obs : List Ob} (hs : V.asSlR s d = some (x, obs)) (hobs : ∀ p ∈ obs, p.p) : Src w (okF base ok0 blk ρ) s x v := by
 unfold View.asSlR at hs
 split at hs
 ·rename_i b n s' l
  split at hs
  ·rename_i e s2 m X hb
   split at hs
   ·rename_i hc
    obtain ⟨rfl, rfl, rfl⟩ := hc
    simp only [Option.some.injEq, Prod.mk.injEq] at hs
    obtain ⟨rfl, rfl⟩ := hs
    have hbk := hV.row hb
    have hrow := h.row hbk
    cases hd with
    | rt _ _ _ _ _ hn h1 hh =>
     obtain ⟨A, m', c, e1, e2, e3, rfl⟩ := hh (by rw [hbk]; rfl)
     have hsl : X.isSl s' := by obtain ⟨L, xs, rfl, _⟩ := hrow; rfl
     rw [e1] at hrow
     exact src_drop hsl (src_row hrow) e2 e3 (by obtain ⟨A', n', c', q, _, q2, _⟩ := hrow.form; injection q with q q3 q4; omega)
   ·cases hs
  ·cases hs
 ·exact asSl_src hV h hd hs hobs
theorem RRow.front {B e s : Nat} {okc : Nat → Prop} {x l : AV} {A : Option Addr} {m c : Nat} (h : RRow w B e s okc x (.slice A m c)) (h0 : 0 ≤ l.num) (hl : l.num ≤ m) : RRow w B e s okc (AV.sub s x (AV.int 0) l) (.slice A l.num.toNat c) := by
 obtain ⟨L, xs, rfl, hs, hL, ho, hone, hv⟩ := h
 have hsub : AV.sub s (.sl s L) (AV.int 0) l = .sl s (L.take l.num.toNat) := rfl
 rw [hsub]
 rcases ho.2 with ⟨e1, e2⟩ | ⟨g, cap, cur, e1, hb, hg, hn, hm, hsz, htk⟩
 ·injection e1 with e1 e3 e4
  subst e1 e3 e4
  have hz : l.num.toNat = 0 := by omega
  rw [hz, List.take_zero]
  exact ⟨[], [], rfl, hs, by simp, ⟨by simp, .inl ⟨rfl, rfl⟩⟩, by simp, fun i j hi => absurd hi (by simp)⟩
 ·injection e1 with e1 e3 e4
  subst e1 e3 e4
  have hlm : l.num.toNat ≤ L.length := by omega
  have hls : l.num.toNat * s ≤ L.length * s := Nat.mul_le_mul_right _ hlm
  have hlen : (L.take l.num.toNat).length = l.num.toNat := by simp; omega
  have hxl := ho.1
  refine ⟨_, xs.take (l.num.toNat * s), rfl, hs, fun y hy => hL y (List.mem_of_mem_take hy), ⟨by rw [List.length_take, hlen, hxl]; omega, .inr ⟨g, c, cur, by rw [hlen], hb, hg, by rw [hlen]; omega, hm, hsz, ?_⟩⟩, fun u hu => hone u (List.mem_of_mem_take hu), fun i j hi hj => ?_⟩
  ·rw [hlen, ← htk, List.take_take, Nat.min_eq_left hls]
  ·rw [hlen] at hi
   have hi' : i < L.length := by omega
   have hij : i * s + j < l.num.toNat * s := by
    have : (i + 1) * s ≤ l.num.toNat * s := Nat.mul_le_mul_right _ hi
    rw [Nat.add_mul] at this; omega
   have e5 : gt2 (L.take l.num.toNat) i j = gt2 L i j := by
    unfold gt2
    simp only [List.getD_eq_getElem?_getD, List.getElem?_take]
    rw [if_pos hi]
   have e6 : (xs.take (l.num.toNat * s)).getD (i * s + j) undef = xs.getD (i * s + j) undef := by
    simp only [List.getD_eq_getElem?_getD, List.getElem?_take]
    rw [if_pos hij]
   rw [e5, e6]
   exact hv i j hi' hj
theorem op_append {t t' : TypeId} {x y : Operand} (ho : o.op = .call { callee := .builtin .append, args := #[x, y], argTypes := #[t, t'] }) (hV : VOk V tm blk) (h : HR base w0 ok0 isd tm blk ρ a w) (hst : ¬ isd st) {δ : Delta} (hv : Valid P Γ o st V δ) : Goes P base w0 ok0 isd tm blk st a w o δ := by
 have hx := ev_ok hV h x
 have hy := ev_ok hV h y
 simp only [Valid, opD, ho] at hv
 split at hv
 ·rename_i htt
  subst htt
  unfold appendD at hv
  split at hv
  ·exact hv.elim
  ·rename_i e s by_ hsl
   obtain ⟨ht, rfl, rfl⟩ := slT_spec hsl
   split at hv
   ·exact hv.elim
   ·rename_i hcond
    have c0 : P.cellsOf e ≠ 0 := fun q => hcond (.inl q)
    have c1 : P.bytesOf e ≠ 0 := fun q => hcond (.inr (.inl q))
    have c2 : (zeroOf P e).map (·.length) = some (P.cellsOf e) := Classical.byContradiction fun q => hcond (.inr (.inr (.inr q)))
    obtain ⟨inf, z, hinf, hz, hzs⟩ : ∃ inf z, P.info? e = some inf ∧ inf.zero = some z ∧ z.cells.size = P.cellsOf e := by
     unfold zeroOf at c2
     cases hi : P.info? e with
     | none => rw [hi] at c2; cases c2
     | some inf =>
      rw [hi] at c2
      simp only [Option.bind_some] at c2
      cases hz : inf.zero with
      | none => rw [hz] at c2; cases c2
      | some z => rw [hz] at c2; exact ⟨inf, z, rfl, hz, by simpa using c2⟩
    have hsz : inf.size = P.cellsOf e := by unfold Program.cellsOf; rw [hinf]; rfl
    have hby : inf.bytes = P.bytesOf e := by unfold Program.bytesOf; rw [hinf]; rfl
    have hrun : ∀ v' w', (Builtin.append_ #[t, t] o.type #[a.eval x, a.eval y]).run P w = .ok v' w' → (execOp a.eval o).run P w = .ok (.value v') w' := fun v' w' q => by
     simp [execOp, ho, resolve, invoke, builtin, q]
    split at hv
    ·exact hv.elim
    ·rename_i yv obs hyv
     split at hv
     ·rename_i he
      obtain ⟨hobs, rfl⟩ := hv
      rw [he] at hx
      have hsrc := asSlR_src hV h hy hyv (fun p hp => hobs p (List.mem_append_left _ hp))
      have hroom : AV.room (AV.mk (P.cellsOf e) []) yv (P.bytesOf e) := hobs (ob (AV.room (AV.mk (P.cellsOf e) []) yv (P.bytesOf e))) (List.mem_append_right _ (by simp))
      generalize hu2 : a.eval x = u at hx hrun
      cases hx
      obtain ⟨v', w', r1, r2, r3, r4⟩ := run_append_av (P := P) (ty := o.type) ht hinf hz hsz hzs (by omega) (RRow.nil w base e (P.cellsOf e) (by omega) (okF base ok0 blk ρ)) hsrc h.low (by omega) (by rw [hby]; exact hroom)
      have hdrn := run_drawn _ r1
      have hnr := h.newRow (st := st) hst o.dst e (P.cellsOf e) (AV.app (P.cellsOf e) (AV.mk (P.cellsOf e) []) yv) v' w' r2 (fun ok' hk => (r4 ok' hk).1) (fun g hg => (r3 g hg).resolve_left (by simp [Value.ownBlock])) (.row st st) _ ⟨rfl, rfl⟩
      exact goes_run (hrun _ _ r1) hnr
     ·rename_i b n he
      rw [he] at hx
      split at hv
      ·rename_i e' s' m X hb
       split at hv
       ·rename_i hc
        obtain ⟨rfl, rfl, rfl⟩ := hc
        split at hv
        ·obtain ⟨hobs, rfl⟩ := hv
         have hsrc := asSlR_src hV h hy hyv (fun p hp => hobs p (List.mem_append_left _ hp))
         have hroom : AV.room X yv (P.bytesOf e') := hobs (ob (AV.room X yv (P.bytesOf e'))) (List.mem_append_right _ (by simp))
         have hbk := hV.row hb
         have hlb : isLive (blk b) = true := by rw [hbk]; rfl
         generalize hu2 : a.eval x = u at hx hrun
         cases hx with
         | row _ _ _ hn h1' hs =>
          have hv := hs (by rw [hbk]; rfl)
          subst hv
          obtain ⟨v', w', r1, r2, r3, r4⟩ := run_append_av (P := P) (ty := o.type) ht hinf hz hsz hzs (by omega) (h.row hbk) hsrc h.low (by omega) (by rw [hby]; exact hroom)
          have hdrn := run_drawn _ r1
          have hup := h.updRow (st := st) hbk m (.inl rfl) hst X (ρ b) (fun _ => rfl) w' r2 (fun ok' hk => (r4 ok' hk).2) (fun g hg => .inl hg) o.dst .any v' (.inl rfl)
          have hρ : (fun c => if c = b then ρ b else ρ c) = ρ := by
           funext c
           split
           ·rename_i e; rw [e]
           ·rfl
          rw [hρ] at hup
          have hfz := HR.freeze (V := { tm := fun _ => .any, bl := updB blk [(b, .row e' (P.cellsOf e') m X)] }) ⟨fun _ => .inr rfl, fun _ => .inl rfl⟩ hup [b]
          have e1 : View.frz { tm := fun _ => .any, bl := updB blk [(b, .row e' (P.cellsOf e') m X)] } [b] = [(b, .fz m X)] := by
           simp [View.frz, updB]
          have e2 : updB (updB blk [(b, .row e' (P.cellsOf e') m X)]) [(b, .fz m X)] = updB blk [(b, .fz m X)] := by
           funext c
           rw [updB_cons, updB_cons]
           split
           ·rfl
           ·rename_i hcb
            show updB blk [(b, .row e' (P.cellsOf e') m X)] c = updB blk [] c
            rw [updB_cons, if_neg hcb]
          rw [e1, e2] at hfz
          have hRV : RV w' (okF base ok0 (updB blk [(b, .fz m X)]) ρ) (AV.app (P.cellsOf e') X yv) v' := by
           have hlive : ∀ c, isLive (updB blk [(b, .fz m X)] c) = true → c ≠ b ∧ isLive (blk c) = true := fun c hc => by
            rw [updB_cons] at hc
            split at hc
            ·cases hc
            ·rename_i hcb; exact ⟨hcb, hc⟩
           have hokk : ∀ g, okF base ok0 blk ρ g → okF base ok0 (updB blk [(b, .fz m X)]) ρ g := fun g hg => ⟨hg.1, fun c hc => hg.2 c (hlive c hc).2⟩
           refine ((r4 (okF base ok0 (updB blk [(b, .fz m X)]) ρ) (fun g hg hlt => ⟨hokk g hg, r2.block g hlt fun e => hg.2 b hlb ((h.row hbk).blkNo_eq ▸ e.symm)⟩)).1).rv (fun g hg _ => hg) (fun g hg => ?_)
           rcases r3 g hg with q | q
           ·have q' : blkNo (ρ b) = some g := (h.row hbk).blkNo_eq ▸ q
            exact ⟨fun hlt => absurd (h.live_lt hlb q').1 (by omega), fun c hc e => h.inj b c hlb (hlive c hc).2 (fun z => (hlive c hc).1 z.symm) g q' e⟩
           ·exact ⟨fun hlt => absurd h.low (by omega), fun c hc e => absurd (h.live_lt (hlive c hc).2 e).2 (by omega)⟩
          refine goes_run (hrun _ _ r1) (ρ' := ρ) ⟨fun t => ?_, hfz.blks, hfz.inj, hfz.frs, by rw [setD_len, put_size]; exact h.size, hfz.nod, hfz.bel, hfz.low, hfz.drw, hfz.gl⟩
          rcases setD_get h.size o.dst (.v (AV.app (P.cellsOf e') X yv)) v' t with ⟨z1, z2⟩ | ⟨z1, z2⟩
          ·rcases setD_get h.size o.dst .any v' t with ⟨y1, y2⟩ | ⟨y1, y2⟩
           ·rw [z1, z2]
            have := hfz.tms t
            rw [y1, y2] at this
            exact this
           ·by_cases hdt : o.dst = some t ∧ t < tm.length
            ·rw [z1]
             obtain ⟨hd1, hd2⟩ := hdt
             have : (setD tm o.dst (.v (AV.app (P.cellsOf e') X yv))).getD t .any = .v (AV.app (P.cellsOf e') X yv) := by rw [hd1]; simp [setD, hd2]
             rw [← z1, this, y2]; exact .v _ _ hRV
            ·rw [z1]
             have hq : (setD tm o.dst .any).getD t .any = tm.getD t .any := by
              cases hdd : o.dst with
              | none => rfl
              | some k2 =>
               simp only [setD]
               by_cases hk2 : k2 = t
               ·have hlt : ¬ t < tm.length := fun q => hdt ⟨by rw [hdd, hk2], q⟩
                rw [List.getD_eq_getElem?_getD, List.getElem?_eq_none (by simp; omega), List.getD_eq_getElem?_getD, List.getElem?_eq_none (by omega)]
               ·simp only [List.getD_eq_getElem?_getD]
                rw [List.getElem?_set_ne hk2]
             have := hfz.tms t
             rw [hq] at this
             exact this
          ·rw [z1, z2]; exact .v _ _ hRV
        ·obtain ⟨hobs, rfl⟩ := hv
         have hsrc := asSlR_src hV h hy hyv (fun p hp => hobs p (List.mem_append_left _ hp))
         have hroom : AV.room X yv (P.bytesOf e') := hobs (ob (AV.room X yv (P.bytesOf e'))) (List.mem_append_right _ (by simp))
         have hbk := hV.row hb
         generalize hu2 : a.eval x = u at hx hrun
         cases hx with
         | row _ _ _ hn h1' hs =>
          have hv := hs (by rw [hbk]; rfl)
          subst hv
          obtain ⟨v', w', r1, r2, r3, r4⟩ := run_append_av (P := P) (ty := o.type) ht hinf hz hsz hzs (by omega) (h.row hbk) hsrc h.low (by omega) (by rw [hby]; exact hroom)
          have hdrn := run_drawn _ r1
          have hup := h.updRow (st := st) hbk st (.inr rfl) hst (AV.app (P.cellsOf e') X yv) v' (fun e => absurd (e ▸ hn) hst) w' r2 (fun ok' hk => (r4 ok' hk).1) r3 o.dst (.row b st) v' (.inr (.inr ⟨rfl, rfl⟩))
          exact goes_run (hrun _ _ r1) hup
       ·exact hv.elim
      ·exact hv.elim
     ·rename_i b n s' l he
      rw [he] at hx
      split at hv
      ·rename_i e' s2 m X hb
       split at hv
       ·rename_i hc
        obtain ⟨rfl, rfl, rfl, rfl⟩ := hc
        obtain ⟨hobs, rfl⟩ := hv
        have hsrc := asSlR_src hV h hy hyv (fun p hp => hobs p (List.mem_append_left _ hp))
        have hroom : AV.room (AV.sub (P.cellsOf e') X (AV.int 0) l) yv (P.bytesOf e') := hobs (ob (AV.room (AV.sub (P.cellsOf e') X (AV.int 0) l) yv (P.bytesOf e'))) (List.mem_append_right _ (by simp))
        have hbk := hV.row hb
        have hrow := h.row hbk
        generalize hu2 : a.eval x = u at hx hrun
        cases hx with
        | rk _ _ _ _ _ hn h1' hh =>
         obtain ⟨A, m', c, e1, e2, e3, rfl⟩ := hh (by rw [hbk]; rfl)
         rw [e1] at hrow
         have hown : (Value.slice A l.num.toNat c).ownBlock = (ρ b).ownBlock := by rw [e1]; cases A <;> rfl
         obtain ⟨v', w', r1, r2, r3, r4⟩ := run_append_av (P := P) (ty := o.type) ht hinf hz hsz hzs (by omega) (hrow.front e2 e3) hsrc h.low (by omega) (by rw [hby]; exact hroom)
         have hdrn := run_drawn _ r1
         rw [hown] at r2
         have hup := h.updRow (st := st) hbk st (.inr rfl) hst (AV.app (P.cellsOf e') (AV.sub (P.cellsOf e') X (AV.int 0) l) yv) v' (fun e => absurd (e ▸ hn) hst) w' r2 (fun ok' hk => (r4 ok' hk).1) (fun g hg => hown ▸ r3 g hg) o.dst (.row b st) v' (.inr (.inr ⟨rfl, rfl⟩))
         exact goes_run (hrun _ _ r1) hup
       ·exact hv.elim
      ·exact hv.elim
     ·exact hv.elim
 ·exact hv.elim
end
end Go.Proofs.YtcifjnhpgblnkaaGreatDoor
namespace Go.Proofs.YtcifjnhpgblnkaaGreatDoor
open Go.RowKit
set_option linter.unusedVariables false
set_option linter.unusedSimpArgs false
def leafAV1 (r : AV) (i : Nat) : Sh → AV
 | .agg _ => r.cel i
 | _ => r
def leafAV (r : AV) (j i : Nat) : Sh → AV
 | .tup vs => leafAV1 (r.prj j) i (vs.getD j .sc)
 | sh => leafAV1 r i sh
theorem leafB_mem {id id' st : Nat} {r : AV} {sh : Sh} {db : DB} : (id, db) ∈ leafB id' st r sh ↔ ∃ e s f, sh = .row e s f ∧ id = id' ∧ db = .row e s st r := by
 cases sh with
 | row e s f =>
  simp only [leafB, List.mem_singleton, Prod.mk.injEq]
  constructor
  ·rintro ⟨h1, h2⟩; exact ⟨e, s, f, rfl, h1, h2⟩
  ·rintro ⟨e', s', f', h0, h1, h2⟩
   injection h0 with q1 q2 q3
   subst q1 q2
   exact ⟨h1, h2⟩
 | _ => simp [leafB]
theorem bs1_mem {st j : Nat} {r : AV} {sh : Sh} {id : Nat} {db : DB} (hs : sh.small1 = true) : (id, db) ∈ Sh.bs1 st j r sh ↔ ∃ i e s f, i < 8 ∧ leafSh1 i sh = .row e s f ∧ id = idOf st j i ∧ db = .row e s st (leafAV1 r i sh) := by
 cases sh with
 | agg cs =>
  have hl : cs.length ≤ 8 := by simpa [Sh.small1] using hs
  simp only [Sh.bs1, List.mem_flatMap, List.mem_range, leafB_mem, leafSh1, leafAV1]
  constructor
  ·rintro ⟨i, hi, e, s, f, h1, h2, h3⟩
   exact ⟨i, e, s, f, by omega, h1, h2, h3⟩
  ·rintro ⟨i, e, s, f, hi, h1, h2, h3⟩
   refine ⟨i, ?_, e, s, f, h1, h2, h3⟩
   rcases Nat.lt_or_ge i cs.length with q | q
   ·exact q
   ·rw [List.getD_eq_getElem?_getD, List.getElem?_eq_none q] at h1; cases h1
 | row e s f =>
  simp only [Sh.bs1, leafB_mem, leafSh1, leafAV1]
  constructor
  ·rintro ⟨e', s', f', h1, h2, h3⟩
   exact ⟨0, e', s', f', by omega, by simpa using h1, h2, h3⟩
  ·rintro ⟨i, e', s', f', hi, h1, h2, h3⟩
   by_cases hi0 : i = 0
   ·subst hi0; exact ⟨e', s', f', by simpa using h1, h2, h3⟩
   ·rw [if_neg hi0] at h1; cases h1
 | tup vs => cases hs
 | sc =>
  simp only [Sh.bs1, leafB_mem, leafSh1]
  constructor
  ·rintro ⟨e', s', f', h1, _⟩; cases h1
  ·rintro ⟨i, e', s', f', hi, h1, _⟩
   split at h1 <;> cases h1
 | p =>
  simp only [Sh.bs1, leafB_mem, leafSh1]
  constructor
  ·rintro ⟨e', s', f', h1, _⟩; cases h1
  ·rintro ⟨i, e', s', f', hi, h1, _⟩
   split at h1 <;> cases h1
theorem small1_of {vs : List Sh} (h : vs.all Sh.small1 = true) (j : Nat) : (vs.getD j .sc).small1 = true := by
 rcases Nat.lt_or_ge j vs.length with q | q
 ·rw [List.getD_eq_getElem?_getD, List.getElem?_eq_getElem q]
  exact List.all_eq_true.1 h _ (List.getElem_mem q)
 ·rw [List.getD_eq_getElem?_getD, List.getElem?_eq_none q]; rfl
theorem leaf_lt {vs : List Sh} {j i e s : Nat} {f : Bool} (h : leafSh1 i (vs.getD j .sc) = .row e s f) : j < vs.length := by
 rcases Nat.lt_or_ge j vs.length with q | q
 ·exact q
 ·rw [List.getD_eq_getElem?_getD, List.getElem?_eq_none q] at h
  simp only [Option.getD_none, leafSh1] at h
  split at h <;> cases h
theorem bs_mem {st : Nat} {r : AV} {sh : Sh} {id : Nat} {db : DB} (hs : sh.small = true) : (id, db) ∈ Sh.bs st r sh ↔ ∃ j i e s f, j < 8 ∧ i < 8 ∧ leafSh j i sh = .row e s f ∧ id = idOf st j i ∧ db = .row e s st (leafAV r j i sh) := by
 have hone : ∀ sh : Sh, sh.small1 = true → (Sh.bs st r sh = Sh.bs1 st 0 r sh) → (∀ j i, leafSh j i sh = if j = 0 then leafSh1 i sh else .sc) → (∀ j i, leafAV r j i sh = leafAV1 r i sh) → ((id, db) ∈ Sh.bs st r sh ↔ ∃ j i e s f, j < 8 ∧ i < 8 ∧ leafSh j i sh = .row e s f ∧ id = idOf st j i ∧ db = .row e s st (leafAV r j i sh)) := by
  intro sh h1 h2 h3 h4
  rw [h2, bs1_mem h1]
  constructor
  ·rintro ⟨i, e, s, f, q1, q2, q3, q4⟩
   exact ⟨0, i, e, s, f, by omega, q1, by rw [h3, if_pos rfl]; exact q2, q3, by rw [h4]; exact q4⟩
  ·rintro ⟨j, i, e, s, f, q0, q1, q2, q3, q4⟩
   rw [h3] at q2
   by_cases hj : j = 0
   ·subst hj
    rw [if_pos rfl] at q2
    exact ⟨i, e, s, f, q1, q2, q3, by rw [h4] at q4; exact q4⟩
   ·rw [if_neg hj] at q2; cases q2
 cases sh with
 | tup vs =>
  have hs' : vs.length ≤ 8 ∧ vs.all Sh.small1 = true := by
   have : (decide (vs.length ≤ 8) && vs.all Sh.small1) = true := hs
   rw [Bool.and_eq_true] at this
   exact ⟨of_decide_eq_true this.1, this.2⟩
  simp only [Sh.bs, List.mem_flatMap, List.mem_range]
  constructor
  ·rintro ⟨j, hj, hm⟩
   obtain ⟨i, e, s, f, q1, q2, q3, q4⟩ := (bs1_mem (small1_of hs'.2 j)).1 hm
   exact ⟨j, i, e, s, f, by omega, q1, q2, q3, q4⟩
  ·rintro ⟨j, i, e, s, f, q0, q1, q2, q3, q4⟩
   exact ⟨j, leaf_lt q2, (bs1_mem (small1_of hs'.2 j)).2 ⟨i, e, s, f, q1, q2, q3, q4⟩⟩
 | agg cs => exact hone (.agg cs) hs rfl (fun _ _ => rfl) (fun _ _ => rfl)
 | row e s f => exact hone (.row e s f) hs rfl (fun _ _ => rfl) (fun _ _ => rfl)
 | sc => exact hone .sc hs rfl (fun _ _ => rfl) (fun _ _ => rfl)
 | p => exact hone .p hs rfl (fun _ _ => rfl) (fun _ _ => rfl)
theorem small_leaf {sh : Sh} (hs : sh.small = true) {j i e s : Nat} {f : Bool} (h : leafSh j i sh = .row e s f) : j < 8 ∧ i < 8 := by
 have h1 : ∀ sh : Sh, sh.small1 = true → leafSh1 i sh = .row e s f → i < 8 := by
  intro sh h1 h2
  cases sh with
  | agg cs =>
   have hl : cs.length ≤ 8 := by simpa [Sh.small1] using h1
   rcases Nat.lt_or_ge i cs.length with q | q
   ·omega
   ·simp only [leafSh1] at h2
    rw [List.getD_eq_getElem?_getD, List.getElem?_eq_none q] at h2; cases h2
  | _ =>
   simp only [leafSh1] at h2
   split at h2
   ·omega
   ·cases h2
 have h2 : ∀ sh : Sh, sh.small1 = true → (if j = 0 then leafSh1 i sh else .sc) = .row e s f → j < 8 ∧ i < 8 := by
  intro sh q1 q2
  split at q2
  ·exact ⟨by omega, h1 sh q1 q2⟩
  ·cases q2
 cases sh with
 | tup vs =>
  have hs' : vs.length ≤ 8 ∧ vs.all Sh.small1 = true := by
   have : (decide (vs.length ≤ 8) && vs.all Sh.small1) = true := hs
   rw [Bool.and_eq_true] at this
   exact ⟨of_decide_eq_true this.1, this.2⟩
  have := leaf_lt (show leafSh1 i (vs.getD j .sc) = .row e s f from h)
  exact ⟨by omega, h1 _ (small1_of hs'.2 j) h⟩
 | agg cs => exact h2 (.agg cs) hs h
 | row a b c => exact h2 (.row a b c) hs h
 | sc => exact h2 .sc hs h
 | p => exact h2 .p hs h
section
variable {w' : World} {okn okn' : Nat → Prop} {B : Nat} {r : AV} {v : Value} {sh : Sh}
theorem RS1.leaf (h : RS1 w' okn B r v sh) {i e s : Nat} {f : Bool} (hl : leafSh1 i sh = .row e s f) : RRow w' B e s (if f then noBlock else okn) (leafAV1 r i sh) (leafVal1 v i sh) := by
 cases sh with
 | agg cs =>
  obtain ⟨vs, rfl, h1, h2, h3⟩ := h
  have hi : i < cs.length := by
   rcases Nat.lt_or_ge i cs.length with q | q
   ·exact q
   ·simp only [leafSh1] at hl
    rw [List.getD_eq_getElem?_getD, List.getElem?_eq_none q] at hl; cases hl
  have := (h3 i hi).2
  have hl' : cs.getD i .sc = .row e s f := hl
  rw [hl'] at this
  exact this
 | row e' s' f' =>
  simp only [leafSh1] at hl
  split at hl
  ·injection hl with q1 q2 q3
   subst q1 q2 q3
   exact h
  ·cases hl
 | tup vs => simp only [leafSh1] at hl; split at hl <;> cases hl
 | sc => simp only [leafSh1] at hl; split at hl <;> cases hl
 | p => simp only [leafSh1] at hl; split at hl <;> cases hl
theorem RS2.leaf (h : RS2 w' okn B r v sh) {j i e s : Nat} {f : Bool} (hl : leafSh j i sh = .row e s f) : RRow w' B e s (if f then noBlock else okn) (leafAV r j i sh) (leafVal v j i sh) := by
 have h1 : ∀ sh : Sh, RS1 w' okn B r v sh → (if j = 0 then leafSh1 i sh else .sc) = .row e s f → RRow w' B e s (if f then noBlock else okn) (leafAV1 r i sh) (leafVal1 v i sh) := by
  intro sh q1 q2
  split at q2
  ·exact q1.leaf q2
  ·cases q2
 cases sh with
 | tup vs =>
  obtain ⟨us, rfl, h1, h2, h3⟩ := h
  exact (h3 j (leaf_lt hl)).leaf hl
 | agg cs => exact h1 (.agg cs) h hl
 | row a b c => exact h1 (.row a b c) h hl
 | sc => exact h1 .sc h hl
 | p => exact h1 .p h hl
theorem RS0.flat (h : RS0 w' okn B r v sh) (hf : sh.flat0 = true) : RS0 w' okn' B r v sh := by
 cases sh with
 | row e s f =>
  have : f = true := hf
  subst this
  exact h
 | p => cases hf
 | sc => exact h
 | agg cs => exact h
 | tup vs => exact h
theorem RS1.flat (h : RS1 w' okn B r v sh) (hf : sh.flat1 = true) : RS1 w' okn' B r v sh := by
 cases sh with
 | agg cs =>
  obtain ⟨vs, h0, h1, h2, h3⟩ := h
  refine ⟨vs, h0, h1, h2, fun i hi => ⟨(h3 i hi).1, (h3 i hi).2.flat ?_⟩⟩
  rw [List.getD_eq_getElem?_getD, List.getElem?_eq_getElem hi]
  exact List.all_eq_true.1 hf _ (List.getElem_mem hi)
 | row e s f => exact RS0.flat (okn := okn) (okn' := okn') (B := B) (sh := .row e s f) h hf
 | sc => exact RS0.flat (okn := okn) (okn' := okn') (B := B) (sh := .sc) h hf
 | p => cases hf
 | tup vs => cases hf
theorem RS2.flat (h : RS2 w' okn B r v sh) (hf : sh.flat = true) : RS2 w' okn' B r v sh := by
 cases sh with
 | tup vs =>
  obtain ⟨us, h0, h1, h2, h3⟩ := h
  refine ⟨us, h0, h1, h2, fun i hi => (h3 i hi).flat ?_⟩
  rw [List.getD_eq_getElem?_getD, List.getElem?_eq_getElem hi]
  exact List.all_eq_true.1 hf _ (List.getElem_mem hi)
 | agg cs => exact RS1.flat (okn := okn) (okn' := okn') (B := B) (sh := .agg cs) h hf
 | row e s f => exact RS1.flat (okn := okn) (okn' := okn') (B := B) (sh := .row e s f) h hf
 | sc => exact RS1.flat (okn := okn) (okn' := okn') (B := B) (sh := .sc) h hf
 | p => cases hf
end
section
variable {w' : World} {okn ok' : Nat → Prop} {B : Nat} {r : AV} {v : Value} {sh : Sh} {ρ' : Nat → Value} {blk' : Nat → DB} {isd' : Nat → Prop} {st : Nat}
theorem leafD_ok {id : Nat} (h : RS0 w' okn B r v sh) (hst : isd' st) (hok : ∀ g, okn g → g < w'.heap.size → ok' g) (hρ : isRow sh = true → ρ' id = v) : RD w' ok' ρ' blk' isd' (leafD id st r sh) v := by
 cases sh with
 | row e s f =>
  refine .row id st v hst ?_ fun _ => (hρ rfl).symm
  obtain ⟨A, n, c, rfl, _⟩ := RRow.form h
  rfl
 | p => exact .v _ _ (RV.mono h fun g hg hlt => ⟨hok g hg hlt, rfl⟩)
 | sc => exact .v _ _ (RV.mono h fun g hg hlt => hg.elim)
 | agg cs => exact .v _ _ (RV.mono h fun g hg hlt => hg.elim)
 | tup vs => exact .v _ _ (RV.mono h fun g hg hlt => hg.elim)
theorem de1_ok {j : Nat} (h : RS1 w' okn B r v sh) (hst : isd' st) (hok : ∀ g, okn g → g < w'.heap.size → ok' g) (hρ : ∀ i, isRow (leafSh1 i sh) = true → ρ' (idOf st j i) = leafVal1 v i sh) : RD w' ok' ρ' blk' isd' (Sh.de1 st j r sh) v := by
 cases sh with
 | agg cs =>
  obtain ⟨vs, rfl, h1, h2, h3⟩ := h
  refine .agg _ _ (by simp [h1]) (fun i hi => (h3 i (by simpa using hi)).1) (fun i hi => ?_)
  have hi' : i < cs.length := by simpa using hi
  have e : ((List.range cs.length).map fun i => leafD (idOf st j i) st (r.cel i) (cs.getD i .sc)).getD i .any = leafD (idOf st j i) st (r.cel i) (cs.getD i .sc) := by
   simp only [List.getD_eq_getElem?_getD, List.getElem?_map, List.getElem?_range hi', Option.map_some, Option.getD_some]
  rw [e]
  exact leafD_ok (h3 i hi').2 hst hok (fun q => hρ i q)
 | row e s f => exact leafD_ok (okn := okn) (B := B) (sh := .row e s f) h hst hok (fun q => hρ 0 q)
 | sc => exact leafD_ok (okn := okn) (B := B) (sh := .sc) h hst hok (fun q => hρ 0 q)
 | p => exact leafD_ok (okn := okn) (B := B) (sh := .p) h hst hok (fun q => hρ 0 q)
 | tup vs => exact leafD_ok (okn := okn) (B := B) (sh := .tup vs) h hst hok (fun q => hρ 0 q)
theorem de_ok (h : RS2 w' okn B r v sh) (hst : isd' st) (hok : ∀ g, okn g → g < w'.heap.size → ok' g) (hρ : ∀ j i, isRow (leafSh j i sh) = true → ρ' (idOf st j i) = leafVal v j i sh) : RD w' ok' ρ' blk' isd' (Sh.de st r sh) v := by
 cases sh with
 | tup vs =>
  obtain ⟨us, rfl, h1, h2, h3⟩ := h
  refine .tup _ _ (by simp [h1]) (fun j hj => ?_)
  have hj' : j < vs.length := by simpa using hj
  have e : ((List.range vs.length).map fun j => Sh.de1 st j (r.prj j) (vs.getD j .sc)).getD j .any = Sh.de1 st j (r.prj j) (vs.getD j .sc) := by
   simp only [List.getD_eq_getElem?_getD, List.getElem?_map, List.getElem?_range hj', Option.map_some, Option.getD_some]
  rw [e]
  exact de1_ok (h3 j hj') hst hok (fun i q => hρ j i q)
 | agg cs => exact de1_ok (okn := okn) (B := B) (sh := .agg cs) h hst hok (fun i q => hρ 0 i q)
 | row e s f => exact de1_ok (okn := okn) (B := B) (sh := .row e s f) h hst hok (fun i q => hρ 0 i q)
 | sc => exact de1_ok (okn := okn) (B := B) (sh := .sc) h hst hok (fun i q => hρ 0 i q)
 | p => exact de1_ok (okn := okn) (B := B) (sh := .p) h hst hok (fun i q => hρ 0 i q)
end
theorem RRow.base {w : World} {B B' e s : Nat} {okc : Nat → Prop} {r : AV} {v : Value} (h : RRow w B e s okc r v) (hB : B' ≤ B) : RRow w B' e s okc r v := by
 obtain ⟨L, xs, e1, hs, hL, ho, hone, hv⟩ := h
 refine ⟨L, xs, e1, hs, hL, ⟨ho.1, ?_⟩, hone, hv⟩
 rcases ho.2 with q | ⟨g, cap, cur, q1, q2, q3⟩
 ·exact .inl q
 ·exact .inr ⟨g, cap, cur, q1, by omega, q3⟩
section
variable {P : Program} {base : Nat} {w0 : World} {ok0 isd : Nat → Prop} {tm : List DE} {blk : Nat → DB} {ρ : Nat → Value} {a : Act} {w : World} {V : View} {st : Nat} {o : Oper} {Γ : FuncId → Option Ca}
theorem HR.call (h : HR base w0 ok0 isd tm blk ρ a w) (hst : ∀ n, st ≤ n → n < st + 64 → ¬ isd n) {w' : World} (hb : Below w.heap.size w w') {okn : Nat → Prop} {r : AV} {v : Value} {sh : Sh} (hs : sh.small = true) (hR : RS2 w' okn w.heap.size r v sh) (hap : RowsApart v sh)
  (hok : ∀ g, okn g → (okF base ok0 blk ρ g ∧ g < w.heap.size) ∨ (w.heap.size ≤ g ∧ ¬ inRows v sh g)) (dst : Option Nat) (hdrn : w.drawn ≤ w'.drawn) :
  ∃ ρ', HR base w0 ok0 (NewI isd st) (setD tm dst (sh.de st r)) (updB blk (sh.bs st r)) ρ' (a.put dst v) w' := by
 have hid : ∀ j i, j < 8 → i < 8 → st ≤ idOf st j i ∧ idOf st j i < st + 64 ∧ (idOf st j i - st) / 8 = j ∧ (idOf st j i - st) % 8 = i := by
  intro j i hj hi
  unfold idOf
  omega
 let rowAt : Nat → Prop := fun b => st ≤ b ∧ b < st + 64 ∧ isRow (leafSh ((b - st) / 8) ((b - st) % 8) sh) = true
 have hdec : ∀ b, rowAt b → ∃ j i e s f, j < 8 ∧ i < 8 ∧ leafSh j i sh = .row e s f ∧ b = idOf st j i := by
  rintro b ⟨q1, q2, q3⟩
  cases hk : leafSh ((b - st) / 8) ((b - st) % 8) sh with
  | row e s f => exact ⟨(b - st) / 8, (b - st) % 8, e, s, f, by omega, by omega, hk, by unfold idOf; omega⟩
  | _ => rw [hk] at q3; cases q3
 have henc : ∀ j i e s f, leafSh j i sh = .row e s f → rowAt (idOf st j i) := by
  intro j i e s f hk
  obtain ⟨hj, hi⟩ := small_leaf hs hk
  obtain ⟨q1, q2, q3, q4⟩ := hid j i hj hi
  exact ⟨q1, q2, by rw [q3, q4, hk]; rfl⟩
 classical
 let ρ' : Nat → Value := fun b => if rowAt b then leafVal v ((b - st) / 8) ((b - st) % 8) sh else ρ b
 have hρrow : ∀ j i e s f, leafSh j i sh = .row e s f → ρ' (idOf st j i) = leafVal v j i sh := by
  intro j i e s f hk
  obtain ⟨hj, hi⟩ := small_leaf hs hk
  obtain ⟨_, _, q3, q4⟩ := hid j i hj hi
  show (if rowAt (idOf st j i) then _ else _) = _
  rw [if_pos (henc j i e s f hk), q3, q4]
 have hblk : ∀ b, ¬ rowAt b → updB blk (sh.bs st r) b = blk b := by
  intro b hb
  unfold updB
  cases hf : (sh.bs st r).find? (·.1 == b) with
  | none => rfl
  | some q =>
   obtain ⟨id, db⟩ := q
   have e1 : id = b := by simpa using List.find?_some hf
   obtain ⟨j, i, e, s, f, _, _, hk, e2, _⟩ := (bs_mem hs).1 (List.mem_of_find?_eq_some hf)
   exact absurd (e1 ▸ e2 ▸ henc j i e s f hk) hb
 have hblk2 : ∀ j i e s f, leafSh j i sh = .row e s f → updB blk (sh.bs st r) (idOf st j i) = .row e s st (leafAV r j i sh) := by
  intro j i e s f hk
  obtain ⟨hj, hi⟩ := small_leaf hs hk
  have hmem := (bs_mem (st := st) (r := r) hs).2 ⟨j, i, e, s, f, hj, hi, hk, rfl, rfl⟩
  unfold updB
  cases hf : (sh.bs st r).find? (·.1 == idOf st j i) with
  | none =>
   have := List.find?_eq_none.1 hf _ hmem
   simp at this
  | some q =>
   obtain ⟨id, db⟩ := q
   have e1 : id = idOf st j i := by simpa using List.find?_some hf
   obtain ⟨j', i', e', s', f', hj', hi', hk', e2, e3⟩ := (bs_mem hs).1 (List.mem_of_find?_eq_some hf)
   have h1 := hid j i hj hi
   have h2 := hid j' i' hj' hi'
   rw [← e2, e1] at h2
   obtain rfl : j' = j := h2.2.2.1.symm.trans h1.2.2.1
   obtain rfl : i' = i := h2.2.2.2.symm.trans h1.2.2.2
   rw [hk] at hk'
   injection hk' with k1 k2 k3
   subst k1 k2
   exact e3
 refine ⟨ρ', h.step rowAt hblk (fun b hc => ?_) (fun b t cs hc hk => ?_) (fun b n y hc hk => ?_) (fun n hn => .inl hn) (fun b hc => .inr ⟨hc.1, hc.2.1⟩) (fun b n hc hn hs' => ?_) hb.size (fun g hlt _ => hb.block g hlt) (fun b hc _ g hg => ?_) (fun b b' hc hc' _ _ hne g hg => ?_) hb.os hb.tape hb.output (fun H1 H5 b hc => ?_) (fun H1 t => ?_) ?_ ?_⟩
 ·show (if rowAt b then _ else ρ b) = ρ b
  rw [if_neg hc]
 ·rw [h.frs b (hst b hc.1 hc.2.1)] at hk; cases hk
 ·rw [h.frs b (hst b hc.1 hc.2.1)] at hk; cases hk
 ·obtain ⟨j, i, e, s, f, _, _, hk, rfl⟩ := hdec b hc
  rw [hblk2 j i e s f hk] at hs'
  have : st = n := by simpa [stampOf] using hs'
  exact absurd (this ▸ hn) (hst st (Nat.le_refl _) (by omega))
 ·obtain ⟨j, i, e, s, f, _, _, hk, rfl⟩ := hdec b hc
  rw [hρrow j i e s f hk] at hg
  right
  have hrow := hR.leaf hk
  exact (hrow.lt (hrow.blkNo_eq ▸ hg)).1
 ·obtain ⟨j, i, e, s, f, _, _, hk, rfl⟩ := hdec b hc
  obtain ⟨j', i', e', s', f', _, _, hk', rfl⟩ := hdec b' hc'
  rw [hρrow j i e s f hk] at hg
  rw [hρrow j' i' e' s' f' hk']
  have hr1 := hR.leaf hk
  have hr2 := hR.leaf hk'
  rw [← hr1.blkNo_eq] at hg
  rw [← hr2.blkNo_eq]
  refine hap j i j' i' (by rw [hk]; rfl) (by rw [hk']; rfl) ?_ g hg
  apply Classical.byContradiction
  intro hno
  have q1 : j = j' := Classical.byContradiction fun q => hno (.inl q)
  have q2 : i = i' := Classical.byContradiction fun q => hno (.inr q)
  exact hne (by rw [q1, q2])
 ·have hok2 : ∀ g, okn g → g < w'.heap.size → okF base ok0 (updB blk (sh.bs st r)) ρ' g := by
   intro g hg hlt
   rcases hok g hg with ⟨q1, q2⟩ | ⟨q1, q2⟩
   ·exact (H1 g q1 q2).1
   ·refine ⟨fun hgb => absurd h.low (by omega), fun b hl e => ?_⟩
    by_cases hcb : rowAt b
    ·obtain ⟨j, i, e', s, f, _, _, hk, rfl⟩ := hdec b hcb
     rw [hρrow j i e' s f hk] at e
     have hr := hR.leaf hk
     exact q2 ⟨j, i, by rw [hk]; rfl, hr.blkNo_eq.trans e⟩
    ·rw [hblk b hcb] at hl
     have e2 : blkNo (ρ b) = some g := by
      have : ρ' b = ρ b := by show (if rowAt b then _ else ρ b) = ρ b; rw [if_neg hcb]
      rw [this] at e; exact e
     have := (h.live_lt hl e2).2
     omega
  obtain ⟨j, i, e, s, f, _, _, hk, rfl⟩ := hdec b hc
  rw [hblk2 j i e s f hk]
  refine ⟨.inr ⟨Nat.le_refl _, by omega⟩, ?_⟩
  rw [hρrow j i e s f hk]
  refine ((hR.leaf hk).base h.low).keep (fun _ _ => rfl) (fun g hg hlt => ⟨?_, rfl⟩)
  split at hg
  ·exact hg.elim
  ·exact hok2 g hg hlt
 ·have hok2 : ∀ g, okn g → g < w'.heap.size → okF base ok0 (updB blk (sh.bs st r)) ρ' g := by
   intro g hg hlt
   rcases hok g hg with ⟨q1, q2⟩ | ⟨q1, q2⟩
   ·exact (H1 g q1 q2).1
   ·refine ⟨fun hgb => absurd h.low (by omega), fun b hl e => ?_⟩
    by_cases hcb : rowAt b
    ·obtain ⟨j, i, e', s, f, _, _, hk, rfl⟩ := hdec b hcb
     rw [hρrow j i e' s f hk] at e
     have hr := hR.leaf hk
     exact q2 ⟨j, i, by rw [hk]; rfl, hr.blkNo_eq.trans e⟩
    ·rw [hblk b hcb] at hl
     have e2 : blkNo (ρ b) = some g := by
      have : ρ' b = ρ b := by show (if rowAt b then _ else ρ b) = ρ b; rw [if_neg hcb]
      rw [this] at e; exact e
     have := (h.live_lt hl e2).2
     omega
  rcases setD_get h.size dst (sh.de st r) v t with ⟨e1, e2⟩ | ⟨e1, e2⟩
  ·exact .inl ⟨e1, e2⟩
  ·right; rw [e1, e2]
   refine de_ok hR (.inr ⟨Nat.le_refl _, by omega⟩) hok2 (fun j i q => ?_)
   cases hk : leafSh j i sh with
   | row e s f => exact hρrow j i e s f hk
   | _ => rw [hk] at q; cases q
 ·rw [put_size, setD_len, h.size]
 ·exact put_defers _ _ _
end
end Go.Proofs.YtcifjnhpgblnkaaGreatDoor
namespace Go.Proofs.YtcifjnhpgblnkaaGreatDoor
open Go.RowKit Go.Lib
set_option linter.unusedVariables false
set_option linter.unusedSimpArgs false
/-! ### a block, written in part -/
def setR (cur : Array Value) : Nat → List Value → Array Value
 | _, [] => cur
 | o, v :: r => setR (cur.setIfInBounds o v) (o + 1) r
theorem setR_size : ∀ (vs : List Value) (cur : Array Value) (o : Nat), (setR cur o vs).size = cur.size
 | [], _, _ => rfl
 | v :: r, cur, o => by rw [setR, setR_size r]; simp
theorem setR_list : ∀ (vs : List Value) (cur : Array Value) (o : Nat), o + vs.length ≤ cur.size → (setR cur o vs).toList = cur.toList.take o ++ vs ++ cur.toList.drop (o + vs.length)
 | [], cur, o, _ => by simp [setR]
 | v :: r, cur, o, h => by
  simp only [List.length_cons] at h
  rw [setR, setR_list r _ _ (by simp; omega)]
  have hl : (cur.toList.take o).length = o := by simp; omega
  have e : (cur.setIfInBounds o v).toList = cur.toList.take o ++ v :: cur.toList.drop (o + 1) := by
   rw [Array.toList_setIfInBounds, List.set_eq_take_append_cons_drop, if_pos (by simp; omega)]
  have e1 : (cur.setIfInBounds o v).toList.take (o + 1) = cur.toList.take o ++ [v] := by
   rw [e, List.take_append, hl, List.take_of_length_le (by omega), show o + 1 - o = 1 by omega]; rfl
  have e2 : (cur.setIfInBounds o v).toList.drop (o + 1 + r.length) = cur.toList.drop (o + (v :: r).length) := by
   rw [e, List.drop_append, hl, List.drop_of_length_le (by omega), show o + 1 + r.length - o = r.length + 1 by omega, List.drop_succ_cons, List.drop_drop, List.nil_append, List.length_cons]
   congr 1; omega
  rw [e1, e2]; simp
theorem setCells_blk {g : Nat} {e : TypeId} : ∀ (vs : List Value) (o : Nat) (w : World) (cur : Array Value), w.heap[g]? = some (.cells cur e (0, 0)) → (w.setCells g o vs).heap[g]? = some (.cells (setR cur o vs) e (0, 0))
 | [], _, _, _, h => h
 | v :: r, o, w, cur, h => by
  rw [World.setCells, setR]
  exact setCells_blk r (o + 1) _ _ (heap_setCell_same w g o cur e v h)
theorem setCells_size (g : Nat) : ∀ (vs : List Value) (o : Nat) (w : World), (w.setCells g o vs).heap.size = w.heap.size
 | [], _, _ => rfl
 | v :: r, o, w => by rw [World.setCells, setCells_size g r]; simp [World.setCell]
theorem setCells_drawn (g : Nat) : ∀ (vs : List Value) (o : Nat) (w : World), (w.setCells g o vs).drawn = w.drawn
 | [], _, _ => rfl
 | v :: r, o, w => by rw [World.setCells, setCells_drawn g r]; rfl
theorem grown_setCells (w : World) (g o : Nat) (vs : List Value) : w.grownBy (w.setCells g o vs) (some g) := by
 refine ⟨World.os_setCells w g o vs, ?_, World.output_setCells w g o vs, Nat.le_of_eq (setCells_size g vs o w).symm, fun k hk hne => World.heap_setCells_other w g o vs hk (fun e => hne (by rw [e]))⟩
 induction vs generalizing o w with
 | nil => rfl
 | cons v r ih => rw [World.setCells, ih]; rfl
theorem grownBy_trans {a b c : World} {r : Option Nat} (h : a.grownBy b r) (h' : b.grownBy c r) : a.grownBy c r :=
 ⟨h'.os.trans h.os, h'.tape.trans h.tape, h'.output.trans h.output, Nat.le_trans h.size h'.size, fun k hk hne => (h'.block k (Nat.lt_of_lt_of_le hk h.size) hne).trans (h.block k hk hne)⟩
theorem grownBy_drew (a : World) (r : Option Nat) : a.grownBy a.drew r := ⟨rfl, rfl, rfl, Nat.le_refl _, fun _ _ _ => rfl⟩
theorem grownBy_refl (a : World) (r : Option Nat) : a.grownBy a r := ⟨rfl, rfl, rfl, Nat.le_refl _, fun _ _ _ => rfl⟩
theorem run_clear {P : Program} (w : World) (t e ty : TypeId) (z : Value) (ht : P.underlying t = some (.slice e)) (hv : ∀ w, (zeroValue e).run P w = .ok z w) (hz : 0 < z.cells.size) (h1 : ∀ v ∈ z.cells, v.oneCell' = true) (b o n c : Nat) (hn : 0 < n)
  (hc : ∀ j, j < n * z.cells.size → (w.cell? ⟨b, o + j, none⟩).isSome = true) (hf : ∀ j, j < n * z.cells.size → w.frozen? ⟨b, o + j, none⟩ = false) :
  (Builtin.clear_ #[t] ty #[.slice (some ⟨b, o, none⟩) n c]).run P w = .ok (.tuple #[]) (w.setCells b o (Builtin.zeroCells z.cells n).toList) := by
 have hl : (Builtin.zeroCells z.cells n).toList.length = n * z.cells.size := by simp [Builtin.zeroCells]
 have hst := run_storeCells_cells (P := P) b o (Builtin.zeroCells z.cells n).toList 0 w (by rw [hl]; simpa using hc) (by rw [hl]; simpa using hf) (by
  intro v hv'
  simp only [Builtin.zeroCells, Array.toList_map, List.mem_map] at hv'
  obtain ⟨i, _, rfl⟩ := hv'
  have hi : i % z.cells.size < z.cells.size := Nat.mod_lt _ hz
  rw [getElem!_pos z.cells _ hi]
  exact h1 _ (Array.getElem_mem hi))
 simp only [Nat.add_zero] at hst
 obtain ⟨m, rfl⟩ : ∃ m, n = m + 1 := ⟨n - 1, by omega⟩
 simp [Builtin.clear_, run_underlying ht, hv, hst]

section
variable {P : Program} {base : Nat} {w0 : World} {ok0 isd : Nat → Prop} {tm : List DE} {blk : Nat → DB} {ρ : Nat → Value} {a : Act} {w : World} {V : View} {st : Nat} {o : Oper} {Γ : FuncId → Option Ca}
theorem zeroCells_get (u : Array Value) (n t : Nat) (ht : t < n * u.size) (hu : 0 < u.size) : (Builtin.zeroCells u n).toList[t]? = some (u.getD (t % u.size) undef) := by
 have h1 : t % u.size < u.size := Nat.mod_lt _ hu
 simp [Builtin.zeroCells, ht, h1]
theorem op_clear {ts : Array TypeId} {xs : Array Operand} (ho : o.op = .call { callee := .builtin .clear, args := xs, argTypes := ts }) (hV : VOk V tm blk) (h : HR base w0 ok0 isd tm blk ρ a w) (hst : ¬ isd st) {δ : Delta} (hv : Valid P Γ o st V δ) : Goes P base w0 ok0 isd tm blk st a w o δ := by
 simp only [Valid, opD, ho] at hv
 split at hv
 ·rename_i x t hxs hts
  obtain rfl : xs = #[x] := by cases xs; simp_all
  obtain rfl : ts = #[t] := by cases ts; simp_all
  have hx := ev_ok hV h x
  split at hv
  ·rename_i b n s l e s' by_ he hsl
   obtain ⟨ht, rfl, rfl⟩ := slT_spec hsl
   rw [he] at hx
   split at hv
   ·rename_i e' s2 m X z hb hz
    split at hv
    ·rename_i z' hzp
     split at hv
     ·rename_i hc
      obtain ⟨rfl, rfl, hs', hs0, hzl, hon⟩ := hc
      obtain rfl := hv.det0
      have hbk := hV.row hb
      have hrow := h.row hbk
      obtain ⟨u, hu, hcl, inf, hinf, hzu⟩ := zeroOf_ok (w := w) (ρ := ρ) (blk := blk) (isd := isd) (okF base ok0 blk ρ) hz hon
      have hus : u.cells.size = s2 := by rw [hcl.1, hzl]
      obtain ⟨p1, p2⟩ := pcs_get hzp
      generalize hu2 : a.eval x = xv at hx
      cases hx with
      | rt _ _ _ _ _ hn h1' hh =>
       obtain ⟨A, m', c, e1, l0, lm, rfl⟩ := hh (by rw [hbk]; rfl)
       have hrow' := hrow
       obtain ⟨L, xs, eX, _, hL, how, hone, hvv⟩ := hrow
       subst eX
       obtain ⟨l', hl'⟩ : ∃ l' : Nat, l.num = l' := ⟨l.num.toNat, by omega⟩
       rw [hl'] at lm hu2
       simp only [Int.toNat_natCast] at hu2
       have hm' : m' = L.length := by
        obtain ⟨A', n', c', q1, q2, _⟩ := hrow'.form
        rw [e1] at q1
        injection q1 with q1 q3 q4
        rw [q3, q2]; rfl
       subst hm'
       have hclr : AV.clr s2 (.sl s2 L) l z' = .sl s2 (L.take l' ++ List.replicate (L.length - l') z') := by unfold AV.clr; rw [hl']; rfl
       rw [hclr]
       rcases Nat.eq_or_lt_of_le (show l' ≤ L.length by omega) with hq | hq
       · -- nothing to clear
        have hrun : (execOp a.eval o).run P w = .ok (.value (.tuple #[])) w := by
         rw [hq, Nat.sub_self] at hu2
         generalize (if c = L.length then A else A.map (·.add (L.length * s2))) = A' at hu2
         cases A' <;> simp [execOp, ho, resolve, invoke, builtin, Builtin.clear_, run_underlying ht, hu2]
        have hsame : L.take l' ++ List.replicate (L.length - l') z' = L := by rw [hq]; simp
        rw [hsame]
        have hup := h.updRow (st := st) hbk m (.inl rfl) hst (.sl s2 L) (ρ b) (fun _ => rfl) w ⟨rfl, rfl, rfl, Nat.le_refl _, fun _ _ _ => rfl⟩ (fun ok' hk => hrow'.keep (fun _ _ => rfl) hk) (fun g hg => .inl hg) o.dst (.tup []) (.tuple #[]) (.inr (.inl ⟨#[], rfl, rfl, rfl⟩))
        exact goes_run hrun hup
       ·rcases how.2 with ⟨_, q0⟩ | ⟨g, cap, cur, q1, hBg, hg, hnc, hcm, hcs, htk⟩
        ·omega
        ·rw [e1] at q1
         injection q1 with q1 _ q3
         subst q1 q3
         have hmul : l' * s2 ≤ L.length * s2 := Nat.mul_le_mul_right _ (by omega)
         have hmul2 : L.length * s2 ≤ c * s2 := Nat.mul_le_mul_right _ hnc
         have hxl : xs.length = L.length * s2 := how.1
         have hzs : (L.length - l') * u.cells.size = L.length * s2 - l' * s2 := by rw [hus, Nat.sub_mul]
         have hcell : ∀ j, j < (L.length - l') * u.cells.size → l' * s2 + j < cur.size := fun j hj => by rw [hzs] at hj; omega
         have had : (if c = l' then (some ⟨g, 0, none⟩ : Option Addr) else (some ⟨g, 0, none⟩ : Option Addr).map (·.add (l' * s2))) = some ⟨g, l' * s2, none⟩ := by
          rw [if_neg (by omega)]
          simp only [Option.map_some, Addr.add]
          by_cases h0 : l' * s2 = 0
          ·simp [h0]
          ·simp [h0]
         rw [had] at hu2
         have hcr := run_clear (P := P) w t e o.type u ht (fun w' => by
          have := zeroOf_ok (w := w') (ρ := ρ) (blk := blk) (isd := isd) (okF base ok0 blk ρ) hz hon
          obtain ⟨u', hu', _, inf', hinf', hzu'⟩ := this
          rw [hinf] at hinf'
          injection hinf' with hinf'
          subst hinf'
          rw [hzu] at hzu'
          injection hzu' with hzu'
          rw [hzu']; exact hu') (by omega) (fun v hv => by
          obtain ⟨i, hi, rfl⟩ := Array.mem_iff_getElem.1 hv
          have := hcl.2.1 i (by rw [← hcl.1]; exact hi)
          simpa [hi] using this) g (l' * s2) (L.length - l') (c - l') (by omega) (fun j hj => by
          rw [cell_of_row w g _ cur e' (0, 0) hg]
          simp [hcell j hj]) (fun j hj => by simp [World.frozen?, hg])
         have hrun : (execOp a.eval o).run P w = .ok (.value (.tuple #[])) (w.setCells g (l' * s2) (Builtin.zeroCells u.cells (L.length - l')).toList) := by
          simp [execOp, ho, resolve, invoke, builtin, hu2, hcr]
         have hzl2 : (Builtin.zeroCells u.cells (L.length - l')).toList.length = L.length * s2 - l' * s2 := by rw [← hzs]; simp [Builtin.zeroCells]
         have hgb := grown_setCells w g (l' * s2) (Builtin.zeroCells u.cells (L.length - l')).toList
         have hnl : (L.take l' ++ List.replicate (L.length - l') z').length = L.length := by simp; omega
         have hup := h.updRow (st := st) hbk m (.inl rfl) hst (.sl s2 (L.take l' ++ List.replicate (L.length - l') z')) (ρ b) (fun _ => rfl) (w.setCells g (l' * s2) (Builtin.zeroCells u.cells (L.length - l')).toList) (by rw [e1]; exact hgb) (fun ok' hk => by
          refine ⟨_, xs.take (l' * s2) ++ (Builtin.zeroCells u.cells (L.length - l')).toList, rfl, by omega, fun y hy => ?_, ⟨?_, .inr ⟨g, c, _, ?_, hBg, setCells_blk _ _ _ _ hg, by rw [hnl]; exact hnc, hcm, by rw [setR_size]; exact hcs, ?_⟩⟩, fun v hv => ?_, fun i j hi hj => ?_⟩
          ·rcases List.mem_append.1 hy with q | q
           ·exact hL y (List.mem_of_mem_take q)
           ·rw [List.eq_of_mem_replicate q, p1, hzl]
          ·rw [hnl]; simp only [List.length_append, List.length_take, hzl2, hxl]; omega
          ·rw [e1, hnl]
          ·rw [hnl, setR_list _ _ _ (by rw [hzl2, hcs]; omega), hzl2, List.append_assoc, ← List.append_assoc]
           have e3 : cur.toList.take (l' * s2) = xs.take (l' * s2) := by rw [← htk, List.take_take, Nat.min_eq_left hmul]
           rw [e3]
           exact List.take_left' (by simp only [List.length_append, List.length_take, hzl2, hxl]; omega)
          ·rcases List.mem_append.1 hv with q | q
           ·exact hone v (List.mem_of_mem_take q)
           ·obtain ⟨i, hi⟩ := List.getElem?_of_mem q
            have hlt : i < (L.length - l') * u.cells.size := by
             have := (List.getElem?_eq_some_iff.1 hi).1
             rw [hzl2] at this; rw [hzs]; exact this
            rw [zeroCells_get _ _ _ hlt (by omega)] at hi
            injection hi with hi
            rw [← hi]
            exact hcl.2.1 _ (by rw [← hcl.1]; exact Nat.mod_lt _ (by omega))
          ·rw [hnl] at hi
           by_cases hil : i < l'
           ·have hlt : i * s2 + j < l' * s2 := by
             have := Nat.mul_le_mul_right s2 hil
             rw [Nat.succ_mul] at this; omega
            have g1 : gt2 (L.take l' ++ List.replicate (L.length - l') z') i j = gt2 L i j := by
             unfold gt2
             congr 1
             rw [List.getD_eq_getElem?_getD, List.getD_eq_getElem?_getD, List.getElem?_append_left (by simp; omega), List.getElem?_take_of_lt hil]
            have g2 : (xs.take (l' * s2) ++ (Builtin.zeroCells u.cells (L.length - l')).toList).getD (i * s2 + j) undef = xs.getD (i * s2 + j) undef := by
             rw [List.getD_eq_getElem?_getD, List.getD_eq_getElem?_getD, List.getElem?_append_left (by simp; omega), List.getElem?_take_of_lt hlt]
            rw [g1, g2]
            exact (hvv i j (by omega) hj).mono hk
           ·have hle : l' * s2 ≤ i * s2 := Nat.mul_le_mul_right _ (by omega)
            have hlt2 : i * s2 + j < L.length * s2 := by
             have := Nat.mul_le_mul_right s2 hi
             rw [Nat.succ_mul] at this; omega
            have g1 : gt2 (L.take l' ++ List.replicate (L.length - l') z') i j = z'.getD j default := by
             unfold gt2
             congr 1
             rw [List.getD_eq_getElem?_getD, List.getElem?_append_right (by simp; omega), List.getElem?_replicate, if_pos (by simp; omega)]; rfl
            have htl : (xs.take (l' * s2)).length = l' * s2 := by rw [List.length_take, hxl]; exact Nat.min_eq_left hmul
            have g2 : (xs.take (l' * s2) ++ (Builtin.zeroCells u.cells (L.length - l')).toList).getD (i * s2 + j) undef = u.cells.getD j undef := by
             rw [List.getD_eq_getElem?_getD, List.getElem?_append_right (by rw [htl]; omega), htl, zeroCells_get _ _ _ (by rw [hzs]; omega) (by omega)]
             have : (i * s2 + j - l' * s2) % u.cells.size = j := by
              rw [hus, show i * s2 + j - l' * s2 = j + (i - l') * s2 by (rw [Nat.sub_mul]; omega), Nat.add_mul_mod_self_right, Nat.mod_eq_of_lt hj]
             rw [this]; rfl
            rw [g1, g2]
            obtain ⟨r', z1, z2⟩ := p2 j (by omega)
            obtain rfl : r' = [] := by
             cases r' with
             | nil => rfl
             | cons q _ => exact absurd (z2 q (by simp)) (by simp)
            exact (pc_ok' hV h (hcl.2.2 j (by omega)) z1).mono hk) (fun g' hg' => .inl hg') o.dst (.tup []) (.tuple #[]) (.inr (.inl ⟨#[], rfl, rfl, rfl⟩)) (by rw [setCells_drawn]; exact Nat.le_refl _)
         exact goes_run hrun hup
     ·exact hv.elim
    ·exact hv.elim
   ·exact hv.elim
  ·exact hv.elim
 ·exact hv.elim
end
end Go.Proofs.YtcifjnhpgblnkaaGreatDoor
namespace Go.Proofs.YtcifjnhpgblnkaaGreatDoor
open Go.RowKit
set_option linter.unusedVariables false
set_option linter.unusedSimpArgs false
section
variable {P : Program} {base : Nat} {w0 : World} {ok0 isd : Nat → Prop} {tm : List DE} {blk : Nat → DB} {ρ : Nat → Value} {a : Act} {w : World} {V : View} {st : Nat} {o : Oper} {Γ : FuncId → Option Ca}
theorem okR_mono {ok : Nat → Prop} {r r' : List Nat} {g : Nat} (h : okR ok ρ r g) (hr : ∀ b ∈ r, b ∈ r') : okR ok ρ r' g := h.imp id fun ⟨b, hb, e⟩ => ⟨b, hr b hb, e⟩
theorem pl_ok (hV : VOk V tm blk) (h : HR base w0 ok0 isd tm blk ρ a w) {d : DE} {v : Value} (hd : RD w (okF base ok0 blk ρ) ρ blk isd d v) {x : AV} {r r' : List Nat} (hp : V.pl d = some (x, r')) (hr : ∀ b ∈ r', b ∈ r) : RV w (okR (okF base ok0 blk ρ) ρ r) x v := by
 cases d with
 | agg cs =>
  simp only [View.pl] at hp
  cases hq : V.pcs cs with
  | none => rw [hq] at hp; cases hp
  | some q =>
   obtain ⟨xs, r2⟩ := q
   rw [hq] at hp
   simp only [Option.map_some, Option.some.injEq, Prod.mk.injEq] at hp
   obtain ⟨rfl, rfl⟩ := hp
   obtain ⟨p1, p2⟩ := pcs_get hq
   cases hd with
   | agg _ vs h1 h2 h3 =>
    refine .agg xs vs (by rw [h1, p1]) (fun i hi => h2 i (p1 ▸ hi)) (fun i hi => ?_)
    obtain ⟨r3, z1, z2⟩ := p2 i (p1 ▸ hi)
    exact (pc_ok hV h (h3 i (p1 ▸ hi)) z1).mono fun g hg _ => ⟨okR_mono hg fun b hb => hr b (z2 b hb), rfl⟩
 | _ => exact (pc_ok hV h hd hp).mono fun g hg _ => ⟨okR_mono hg hr, rfl⟩
theorem pls_get {cs : List DE} {xs : List AV} {r : List Nat} (h : V.pls cs = some (xs, r)) : xs.length = cs.length ∧ ∀ i, i < cs.length → ∃ r', V.pl (cs.getD i .any) = some (xs.getD i default, r') ∧ ∀ b ∈ r', b ∈ r := by
 induction cs generalizing xs r with
 | nil =>
  simp only [View.pls, Option.some.injEq, Prod.mk.injEq] at h
  obtain ⟨rfl, rfl⟩ := h
  exact ⟨rfl, fun i hi => absurd hi (by simp)⟩
 | cons d ds ih =>
  simp only [View.pls] at h
  split at h
  ·rename_i x r1 xs' rs h1 h2
   simp only [Option.some.injEq, Prod.mk.injEq] at h
   obtain ⟨rfl, rfl⟩ := h
   obtain ⟨e1, e2⟩ := ih h2
   refine ⟨by simp [e1], fun i hi => ?_⟩
   cases i with
   | zero => exact ⟨r1, h1, fun b hb => List.mem_append_left _ hb⟩
   | succ i =>
    obtain ⟨r', e3, e4⟩ := e2 i (by simpa using hi)
    exact ⟨r', by simpa using e3, fun b hb => List.mem_append_right _ (e4 b hb)⟩
  ·cases h
theorem pc_rows {d : DE} {x : AV} {r : List Nat} (h : V.pc d = some (x, r)) : ∀ b ∈ r, ∃ e s n y, V.bl b = .row e s n y := by
 cases d with
 | row b n =>
  simp only [View.pc] at h
  split at h
  ·rename_i e s m y hk
   split at h
   ·simp only [Option.some.injEq, Prod.mk.injEq] at h
    obtain ⟨_, rfl⟩ := h
    intro b' hb'
    obtain rfl : b' = b := by simpa using hb'
    exact ⟨e, s, m, y, hk⟩
   ·cases h
  ·split at h
   ·simp only [Option.some.injEq, Prod.mk.injEq] at h
    obtain ⟨_, rfl⟩ := h
    intro b' hb'; cases hb'
   ·cases h
  ·cases h
 | v y => simp only [View.pc, Option.some.injEq, Prod.mk.injEq] at h; obtain ⟨_, rfl⟩ := h; intro b hb; cases hb
 | c y => simp only [View.pc, Option.some.injEq, Prod.mk.injEq] at h; obtain ⟨_, rfl⟩ := h; intro b hb; cases hb
 | nil => simp only [View.pc, Option.some.injEq, Prod.mk.injEq] at h; obtain ⟨_, rfl⟩ := h; intro b hb; cases hb
 | _ => simp only [View.pc] at h; cases h
theorem pcs_rows {cs : List DE} {xs : List AV} {r : List Nat} (h : V.pcs cs = some (xs, r)) : ∀ b ∈ r, ∃ e s n y, V.bl b = .row e s n y := by
 induction cs generalizing xs r with
 | nil =>
  simp only [View.pcs, Option.some.injEq, Prod.mk.injEq] at h
  obtain ⟨_, rfl⟩ := h
  intro b hb; cases hb
 | cons d ds ih =>
  simp only [View.pcs] at h
  split at h
  ·rename_i x r1 xs' rs h1 h2
   simp only [Option.some.injEq, Prod.mk.injEq] at h
   obtain ⟨_, rfl⟩ := h
   intro b hb
   rcases List.mem_append.1 hb with q | q
   ·exact pc_rows h1 b q
   ·exact ih h2 b q
  ·cases h
theorem pl_rows {d : DE} {x : AV} {r : List Nat} (h : V.pl d = some (x, r)) : ∀ b ∈ r, ∃ e s n y, V.bl b = .row e s n y := by
 cases d with
 | agg cs =>
  simp only [View.pl] at h
  cases hq : V.pcs cs with
  | none => rw [hq] at h; cases h
  | some q =>
   obtain ⟨ys, r2⟩ := q
   rw [hq] at h
   simp only [Option.map_some, Option.some.injEq, Prod.mk.injEq] at h
   obtain ⟨_, rfl⟩ := h
   exact pcs_rows hq
 | _ => simp only [View.pl] at h; exact pc_rows h
theorem pls_rows {cs : List DE} {xs : List AV} {r : List Nat} (h : V.pls cs = some (xs, r)) : ∀ b ∈ r, ∃ e s n y, V.bl b = .row e s n y := by
 induction cs generalizing xs r with
 | nil =>
  simp only [View.pls, Option.some.injEq, Prod.mk.injEq] at h
  obtain ⟨_, rfl⟩ := h
  intro b hb; cases hb
 | cons d ds ih =>
  simp only [View.pls] at h
  split at h
  ·rename_i x r1 xs' rs h1 h2
   simp only [Option.some.injEq, Prod.mk.injEq] at h
   obtain ⟨_, rfl⟩ := h
   intro b hb
   rcases List.mem_append.1 hb with q | q
   ·exact pl_rows h1 b q
   ·exact ih h2 b q
  ·cases h
theorem cap0_ok (hV : VOk V tm blk) (h : HR base w0 ok0 isd tm blk ρ a w) {d : DE} {v : Value} (hd : RD w (okF base ok0 blk ρ) ρ blk isd d v) {x : AV} {r r' : List Nat} (hp : V.cap0 d = some (x, r')) (hr : ∀ b ∈ r', b ∈ r) : RV w (okR (okF base ok0 blk ρ) ρ r) x v := by
 unfold View.cap0 at hp
 split at hp
 ·rename_i b
  split at hp
  ·rename_i t cs hk
   split at hp
   ·rename_i xs r2 hq
    simp only [Option.some.injEq, Prod.mk.injEq] at hp
    obtain ⟨rfl, rfl⟩ := hp
    have hbk : blk b = .cells t cs := by
     rcases hV.b b with e | e
     ·rw [← e]; exact hk
     ·rw [e] at hk; cases hk
    have hb := h.blks b
    rw [hbk] at hb
    obtain ⟨g, vs, hρ, hbase, hheap, hsz, hone, hcs⟩ := hb
    cases hd with
    | ptr _ _ g' hg' =>
     rw [hρ] at hg'
     injection hg' with hg'
     injection hg' with hg'
     injection hg' with hg'
     subst hg'
     obtain ⟨q1, q2⟩ := pcs_get hq
     refine .ref xs g (fun i => vs.getD i undef) (.inr ⟨b, hr b (by simp), by rw [hρ]; rfl⟩) (Array.getElem?_eq_some_iff.1 hheap).1 (fun i hi => ?_) (fun i hi => hone i (q1 ▸ hi)) (fun i hi => ?_)
     ·have : i < vs.size := by rw [hsz]; exact q1 ▸ hi
      simp [World.cell?, hheap, this]
     ·obtain ⟨r3, z1, z2⟩ := q2 i (q1 ▸ hi)
      refine (pc_ok hV h (hcs i (q1 ▸ hi)) z1).mono fun g2 hg2 _ => ⟨?_, rfl⟩
      rcases hg2 with q | ⟨b2, hb1, hb2⟩
      ·exact .inl q
      ·exact .inr ⟨b2, hr b2 (List.mem_cons_of_mem _ (z2 b2 hb1)), hb2⟩
   ·cases hp
  ·cases hp
 ·exact pl_ok hV h hd hp hr
theorem cap0_live (hV : VOk V tm blk) {d : DE} {x : AV} {r : List Nat} (hp : V.cap0 d = some (x, r)) : ∀ b ∈ r, isLive (blk b) = true := by
 unfold View.cap0 at hp
 have hrow : ∀ b, (∃ e s n y, V.bl b = .row e s n y) → isLive (blk b) = true := fun b ⟨e, s, n, y, hk⟩ => by rw [hV.row hk]; rfl
 split at hp
 ·rename_i b
  split at hp
  ·rename_i t cs hk
   split at hp
   ·rename_i xs r2 hq
    simp only [Option.some.injEq, Prod.mk.injEq] at hp
    obtain ⟨rfl, rfl⟩ := hp
    intro b2 hb2
    rcases List.mem_cons.1 hb2 with rfl | hb2
    ·rcases hV.b b2 with e | e
     ·rw [← e, hk]; rfl
     ·rw [e] at hk; cases hk
    ·exact hrow b2 (pcs_rows hq b2 hb2)
   ·cases hp
  ·cases hp
 ·exact fun b hb => hrow b (pl_rows hp b hb)
theorem cap0s_get {cs : List DE} {xs : List AV} {r : List Nat} (h : V.cap0s cs = some (xs, r)) : xs.length = cs.length ∧ ∀ i, i < cs.length → ∃ r', V.cap0 (cs.getD i .any) = some (xs.getD i default, r') ∧ ∀ b ∈ r', b ∈ r := by
 induction cs generalizing xs r with
 | nil =>
  simp only [View.cap0s, Option.some.injEq, Prod.mk.injEq] at h
  obtain ⟨rfl, rfl⟩ := h
  exact ⟨rfl, fun i hi => absurd hi (by simp)⟩
 | cons d ds ih =>
  simp only [View.cap0s] at h
  split at h
  ·rename_i x r1 xs' rs h1 h2
   simp only [Option.some.injEq, Prod.mk.injEq] at h
   obtain ⟨rfl, rfl⟩ := h
   obtain ⟨e1, e2⟩ := ih h2
   refine ⟨by simp [e1], fun i hi => ?_⟩
   cases i with
   | zero => exact ⟨r1, h1, fun b hb => List.mem_append_left _ hb⟩
   | succ i =>
    obtain ⟨r', e3, e4⟩ := e2 i (by simpa using hi)
    exact ⟨r', by simpa using e3, fun b hb => List.mem_append_right _ (e4 b hb)⟩
  ·cases h
theorem cap0s_live (hV : VOk V tm blk) {cs : List DE} {xs : List AV} {r : List Nat} (h : V.cap0s cs = some (xs, r)) : ∀ b ∈ r, isLive (blk b) = true := by
 induction cs generalizing xs r with
 | nil =>
  simp only [View.cap0s, Option.some.injEq, Prod.mk.injEq] at h
  obtain ⟨_, rfl⟩ := h
  intro b hb; cases hb
 | cons d ds ih =>
  simp only [View.cap0s] at h
  split at h
  ·rename_i x r1 xs' rs h1 h2
   simp only [Option.some.injEq, Prod.mk.injEq] at h
   obtain ⟨_, rfl⟩ := h
   intro b hb
   rcases List.mem_append.1 hb with q | q
   ·exact cap0_live hV h1 b q
   ·exact ih h2 b q
  ·cases h
theorem cap_ok (hV : VOk V tm blk) (h : HR base w0 ok0 isd tm blk ρ a w) {d : DE} {v : Value} (hd : RD w (okF base ok0 blk ρ) ρ blk isd d v) {x : AV} {r r' : List Nat} (hp : V.cap d = some (x, r')) (hr : ∀ b ∈ r', b ∈ r) : RV w (okR (okF base ok0 blk ρ) ρ r) x v := by
 unfold View.cap at hp
 split at hp
 ·rename_i f cs
  split at hp
  ·rename_i xs r2 hq
   simp only [Option.some.injEq, Prod.mk.injEq] at hp
   obtain ⟨rfl, rfl⟩ := hp
   obtain ⟨q1, q2⟩ := cap0s_get hq
   cases hd with
   | fn _ _ vs hl hc =>
    refine .clo f xs vs (by rw [hl, q1]) fun i hi => ?_
    obtain ⟨r3, z1, z2⟩ := q2 i (q1 ▸ hi)
    exact cap0_ok hV h (hc i (q1 ▸ hi)) z1 fun b hb => hr b (z2 b hb)
  ·cases hp
 ·exact cap0_ok hV h hd hp hr
theorem cap_live (hV : VOk V tm blk) {d : DE} {x : AV} {r : List Nat} (hp : V.cap d = some (x, r)) : ∀ b ∈ r, isLive (blk b) = true := by
 unfold View.cap at hp
 split at hp
 ·split at hp
  ·rename_i xs r2 hq
   simp only [Option.some.injEq, Prod.mk.injEq] at hp
   obtain ⟨rfl, rfl⟩ := hp
   exact cap0s_live hV hq
  ·cases hp
 ·exact cap0_live hV hp
theorem caps_get {cs : List DE} {xs : List AV} {r : List Nat} (h : V.caps cs = some (xs, r)) : xs.length = cs.length ∧ ∀ i, i < cs.length → ∃ r', V.cap (cs.getD i .any) = some (xs.getD i default, r') ∧ ∀ b ∈ r', b ∈ r := by
 induction cs generalizing xs r with
 | nil =>
  simp only [View.caps, Option.some.injEq, Prod.mk.injEq] at h
  obtain ⟨rfl, rfl⟩ := h
  exact ⟨rfl, fun i hi => absurd hi (by simp)⟩
 | cons d ds ih =>
  simp only [View.caps] at h
  split at h
  ·rename_i x r1 xs' rs h1 h2
   simp only [Option.some.injEq, Prod.mk.injEq] at h
   obtain ⟨rfl, rfl⟩ := h
   obtain ⟨e1, e2⟩ := ih h2
   refine ⟨by simp [e1], fun i hi => ?_⟩
   cases i with
   | zero => exact ⟨r1, h1, fun b hb => List.mem_append_left _ hb⟩
   | succ i =>
    obtain ⟨r', e3, e4⟩ := e2 i (by simpa using hi)
    exact ⟨r', by simpa using e3, fun b hb => List.mem_append_right _ (e4 b hb)⟩
  ·cases h
theorem caps_live (hV : VOk V tm blk) {cs : List DE} {xs : List AV} {r : List Nat} (h : V.caps cs = some (xs, r)) : ∀ b ∈ r, isLive (blk b) = true := by
 induction cs generalizing xs r with
 | nil =>
  simp only [View.caps, Option.some.injEq, Prod.mk.injEq] at h
  obtain ⟨_, rfl⟩ := h
  intro b hb; cases hb
 | cons d ds ih =>
  simp only [View.caps] at h
  split at h
  ·rename_i x r1 xs' rs h1 h2
   simp only [Option.some.injEq, Prod.mk.injEq] at h
   obtain ⟨_, rfl⟩ := h
   intro b hb
   rcases List.mem_append.1 hb with q | q
   ·exact cap_live hV h1 b q
   ·exact ih h2 b q
  ·cases h
theorem run_call {g : Operand} {args : Array Operand} {ts : Array TypeId} (ho : o.op = .call { callee := .value g, args := args, argTypes := ts }) {f : FuncId} {vs : Array Value} (hg : a.eval g = .func (.func f) #[] vs) (he : Ent P f) : (execOp a.eval o).run P w = .ok (.enter f (args.map a.eval ++ vs)) w := by
 have := he (args.map a.eval ++ vs) w
 simp [execOp, ho, resolve, hg, Deferred.ofValue, invoke, this]
theorem args_ok (hV : VOk V tm blk) (h : HR base w0 ok0 isd tm blk ρ a w) {args : Array Operand} {cs : List DE} {vs : Array Value} (hl : vs.size = cs.length) (hc : ∀ i, i < cs.length → RD w (okF base ok0 blk ρ) ρ blk isd (cs.getD i .any) (vs.getD i undef)) :
  (args.map a.eval ++ vs).size = (args.toList.map V.ev ++ cs).length ∧ ∀ i, i < (args.toList.map V.ev ++ cs).length → RD w (okF base ok0 blk ρ) ρ blk isd ((args.toList.map V.ev ++ cs).getD i .any) ((args.map a.eval ++ vs).getD i undef) := by
 refine ⟨by simp [hl], fun i hi => ?_⟩
 by_cases h1 : i < args.size
 ·have e1 : (args.toList.map V.ev ++ cs).getD i .any = V.ev args[i] := by simp [List.getElem?_append_left, h1]
  have e2 : (args.map a.eval ++ vs).getD i undef = a.eval args[i] := by simp [Array.getElem?_append, h1]
  rw [e1, e2]; exact ev_ok hV h _
 ·have hi' : i - args.size < cs.length := by simp at hi; omega
  have e1 : (args.toList.map V.ev ++ cs).getD i .any = cs.getD (i - args.size) .any := by
   rw [List.getD_eq_getElem?_getD, List.getElem?_append_right (by simp; omega)]; simp
  have e2 : (args.map a.eval ++ vs).getD i undef = vs.getD (i - args.size) undef := by
   rw [Array.getD_eq_getD_getElem?, Array.getElem?_append, if_neg (by simpa using h1)]; simp
  rw [e1, e2]; exact hc _ hi'
theorem op_call {g : Operand} {args : Array Operand} {ts : Array TypeId} (ho : o.op = .call { callee := .value g, args := args, argTypes := ts }) (hV : VOk V tm blk) (h : HR base w0 ok0 isd tm blk ρ a w) (hst : ∀ n, st ≤ n → n < st + 64 → ¬ isd n) {δ : Delta} (hv : Valid P Γ o st V δ) : Goes P base w0 ok0 isd tm blk st a w o δ := by
 have hx := ev_ok hV h g
 simp only [Valid, opD, ho] at hv
 split at hv
 ·rename_i f caps he
  rw [he] at hx
  split at hv
  ·rename_i sh hΓ
   split at hv
   ·rename_i xs r hp
    split at hv
    ·rename_i hsm
     obtain ⟨y, ⟨hent, hfn⟩, rfl⟩ := hv
     generalize hu2 : a.eval g = u at hx
     cases hx with
     | fn _ _ vs hl hc =>
      intro K Q hK
      unfold Oper.wp
      rw [run_call ho hu2 hent, Oper.upon_enter]
      obtain ⟨a1, a2⟩ := args_ok (args := args) hV h hl hc
      obtain ⟨p1, p2⟩ := pls_get hp
      refine (hfn w (fun g => okR (okF base ok0 blk ρ) ρ r g ∧ g < w.heap.size) _ (fun g hg => hg.2) (h.glob r) (by rw [a1, p1]) (fun i hi => ?_)).mono ?_
      ·obtain ⟨r', z1, z2⟩ := p2 i (p1 ▸ hi)
       exact (pl_ok hV h (a2 i (p1 ▸ hi)) z1 z2).mono fun g hg hlt => ⟨⟨hg, hlt⟩, rfl⟩
      ·rintro e w' ⟨v, rfl, hb, hR, hap, hdrn⟩
       simp only
       have hK' := hK
       cases hfl : sh.flat with
       | true =>
        obtain ⟨ρ', h'⟩ := h.call hst hb hsm (hR.flat (okn' := noBlock) hfl) hap (fun g hg => hg.elim) o.dst hdrn
        simp only [hfl, if_true, List.append_nil] at hK'
        exact hK' ρ' v w' h'
       | false =>
        have hz := h.freeze hV r
        have hside : ∀ g, okNew (fun g => okR (okF base ok0 blk ρ) ρ r g ∧ g < w.heap.size) w.heap.size v sh g → (okF base ok0 (updB blk (V.frz r)) ρ g ∧ g < w.heap.size) ∨ (w.heap.size ≤ g ∧ ¬ inRows v sh g) := by
         intro g hg
         rcases hg with ⟨hg, hglt⟩ | hg
         ·left
          refine ⟨?_, hglt⟩
          ·rcases hg with hg | ⟨b, hb1, hb2⟩
           ·refine ⟨hg.1, fun b' hl' => ?_⟩
            rw [updB_frz] at hl'
            split at hl'
            ·split at hl'
             ·cases hl'
             ·exact hg.2 b' hl'
            ·exact hg.2 b' hl'
           ·obtain ⟨e, s, n, x, hk⟩ := pls_rows hp b hb1
            have hbk := hV.row hk
            have hlb : isLive (blk b) = true := by rw [hbk]; rfl
            refine ⟨fun hlt => absurd (h.live_lt hlb hb2).1 (by omega), fun b' hl' e' => ?_⟩
            by_cases hbb : b' = b
            ·subst hbb
             rw [updB_frz, if_pos hb1, hk] at hl'
             cases hl'
            ·have hl2 : isLive (blk b') = true := by
              rw [updB_frz] at hl'
              split at hl'
              ·split at hl'
               ·cases hl'
               ·exact hl'
              ·exact hl'
             exact h.inj b b' hlb hl2 (fun x => hbb x.symm) g hb2 e'
         ·exact .inr hg
        obtain ⟨ρ', h'⟩ := hz.call hst hb hsm hR hap hside o.dst hdrn
        rw [← updB_append] at h'
        simp only [hfl, Bool.false_eq_true, if_false] at hK'
        exact hK' ρ' v w' h'
    ·exact hv.elim
   ·split at hv
    ·rename_i xs r hp
     split at hv
     ·rename_i hsm
      rw [Bool.and_eq_true] at hsm
      obtain ⟨hsm, hfl⟩ := hsm
      obtain ⟨y, ⟨hent, hfn⟩, rfl⟩ := hv
      generalize hu2 : a.eval g = u at hx
      cases hx with
      | fn _ _ vs hl hc =>
       intro K Q hK
       unfold Oper.wp
       rw [run_call ho hu2 hent, Oper.upon_enter]
       obtain ⟨a1, a2⟩ := args_ok (args := args) hV h hl hc
       obtain ⟨p1, p2⟩ := caps_get hp
       refine (hfn w (fun g => okR (okF base ok0 blk ρ) ρ r g ∧ g < w.heap.size) _ (fun g hg => hg.2) (h.glob r) (by rw [a1, p1]) (fun i hi => ?_)).mono ?_
       ·obtain ⟨r', z1, z2⟩ := p2 i (p1 ▸ hi)
        exact (cap_ok hV h (a2 i (p1 ▸ hi)) z1 z2).mono fun g hg hlt => ⟨⟨hg, hlt⟩, rfl⟩
       ·rintro e w' ⟨v, rfl, hb, hR, hap, hdrn⟩
        simp only
        obtain ⟨ρ', h'⟩ := h.call hst hb hsm (hR.flat (okn' := noBlock) hfl) hap (fun g hg => hg.elim) o.dst hdrn
        exact hK ρ' v w' h'
     ·exact hv.elim
    ·exact hv.elim
  ·rename_i ret hΓ
   split at hv
   ·rename_i b n rest hargs
    split at hv
    ·rename_i e s m X xs r hb hp
     split at hv
     ·rename_i hc
      obtain ⟨rfl, hrb⟩ := hc
      obtain ⟨y, ⟨hent, hfn⟩, rfl⟩ := hv
      have hbk := hV.row hb
      have hlb : isLive (blk b) = true := by rw [hbk]; rfl
      have hrow := h.row hbk
      generalize hu2 : a.eval g = u at hx
      cases hx with
      | fn _ _ vs hl hc =>
       intro K Q hK
       unfold Oper.wp
       rw [run_call ho hu2 hent, Oper.upon_enter]
       obtain ⟨a1, a2⟩ := args_ok (args := args) hV h hl hc
       rw [hargs] at a1 a2
       obtain ⟨p1, p2⟩ := caps_get hp
       generalize args.map a.eval ++ vs = cv at a1 a2 ⊢
       have hv0 : cv.getD 0 undef = ρ b := by
        have q := a2 0 (by simp)
        generalize cv.getD 0 undef = z at q
        cases q with
        | row _ _ _ hn h1' hs => exact hs (by rw [hbk]; rfl)
       have hsplit : cv = #[ρ b] ++ cv.extract 1 cv.size := by
        have hne : 0 < cv.size := by rw [a1]; simp
        rw [← hv0]
        apply Array.ext_getElem?
        intro k
        rw [Array.getElem?_append]
        by_cases hk : k < 1
        ·obtain rfl : k = 0 := by omega
         simp [hne]
        ·rw [if_neg (by simpa using hk)]
         simp only [List.size_toArray, List.length_cons, List.length_nil, Nat.zero_add, Array.getElem?_extract]
         by_cases hk2 : k < cv.size
         ·rw [if_pos (by omega)]; congr 1; omega
         ·rw [if_neg (by omega)]; exact Array.getElem?_eq_none (by omega)
       rw [hsplit]
       refine (hfn w (fun g => okR (okF base ok0 blk ρ) ρ r g ∧ g < w.heap.size) base (fun g => okF base ok0 blk ρ g ∧ g < w.heap.size) (ρ b) (cv.extract 1 cv.size) (hrow.keep (fun _ _ => rfl) fun g hg hlt => ⟨⟨hg, hlt⟩, rfl⟩) (fun g hg => ⟨fun e => hg.1.2 b hlb (hrow.blkNo_eq ▸ e), hg.2⟩) (fun g hg => ⟨fun e => ?_, hg.2⟩) h.low (h.glob r) (by simp [a1, p1]) (fun i hi => ?_)).mono ?_
       ·rcases hg.1 with q | ⟨b', hb1, hb2⟩
        ·exact q.2 b hlb (hrow.blkNo_eq ▸ e)
        ·exact h.inj b b' hlb (caps_live hV hp b' hb1) (fun x => hrb (by rw [x]; simpa using hb1)) g (hrow.blkNo_eq ▸ e) hb2
       ·obtain ⟨r', z1, z2⟩ := p2 i (p1 ▸ hi)
        have q := a2 (i + 1) (by rw [List.length_cons, ← p1]; omega)
        have e1 : (DE.row b m :: rest).getD (i + 1) .any = rest.getD i .any := by simp
        have e2 : (cv.extract 1 cv.size).getD i undef = cv.getD (i + 1) undef := by
         have : i + 1 < cv.size := by rw [a1, List.length_cons, ← p1]; omega
         simp only [Array.getD_eq_getD_getElem?, Array.getElem?_extract]
         rw [if_pos (by omega)]
         congr 2; omega
        rw [e1] at q
        rw [e2]
        exact (cap_ok hV h q z1 z2).mono fun g hg hlt => ⟨⟨hg, hlt⟩, rfl⟩
       ·rintro e' w' ⟨v, rfl, hg, hR, hret, hfresh, hdrn⟩
        simp only
        have hR' : ∀ ok' : Nat → Prop, (∀ g, okF base ok0 blk ρ g → g < w.heap.size → ok' g ∧ w'.heap[g]? = w.heap[g]?) → RRow w' base e s ok' y v := fun ok' hk => hR.keep (fun _ _ => rfl) fun g hg hlt => ⟨(hk g hg.1 hg.2).1, rfl⟩
        cases ret with
        | true =>
         have hn : isd m := by have := h.blks b; rw [hbk] at this; exact this.1
         have := h.updRow (st := st) hbk st (.inr rfl) (hst st (Nat.le_refl _) (by omega)) y v (fun e => absurd (e ▸ hn) (hst st (Nat.le_refl _) (by omega))) w' hg hR' hfresh o.dst (.row b st) v (.inr (.inr ⟨rfl, rfl⟩))
         exact hK _ v w' this
        | false =>
         have := h.updRow (st := st) hbk m (.inl rfl) (hst st (Nat.le_refl _) (by omega)) y v (fun _ => hret rfl) w' hg hR' hfresh o.dst (.tup []) (.tuple #[]) (.inr (.inl ⟨#[], rfl, rfl, rfl⟩))
         exact hK _ (.tuple #[]) w' this
     ·exact hv.elim
    ·exact hv.elim
   ·exact hv.elim
  ·exact hv.elim
  ·exact hv.elim
  ·split at hv
   ·rename_i xs hp
    obtain ⟨y, hfe, rfl⟩ := hv
    generalize hu2 : a.eval g = u at hx
    cases hx with
    | fn _ _ vs hl hc =>
     obtain ⟨a1, a2⟩ := args_ok (args := args) hV h hl hc
     obtain ⟨p1, p2⟩ := pls_get hp
     obtain ⟨v, hrun, hrv⟩ := hfe w (okF base ok0 blk ρ) (args.map a.eval ++ vs) (by rw [a1, p1]) (fun i hi => by
      obtain ⟨r', z1, z2⟩ := p2 i (p1 ▸ hi)
      exact rv_okR_nil (pl_ok hV h (a2 i (p1 ▸ hi)) z1 z2))
     exact goes_val h (v := v) (by simp [execOp, ho, resolve, hu2, Deferred.ofValue, invoke, hrun]) (.v _ _ hrv)
   ·exact hv.elim
  ·exact hv.elim
 ·rename_i x he
  rw [he] at hx
  split at hv
  ·rename_i xs hp
   obtain ⟨y, ⟨f, caps, rfl, hent, hfn⟩, rfl⟩ := hv
   generalize hu2 : a.eval g = u at hx
   cases hx with
   | v _ _ hrv =>
    cases hrv with
    | clo _ _ vs hl hc =>
     intro K Q hK
     unfold Oper.wp
     rw [run_call ho hu2 hent, Oper.upon_enter]
     obtain ⟨p1, p2⟩ := pls_get hp
     have p1' : xs.length = args.size := by simpa using p1
     refine (hfn w (fun g => okR (okF base ok0 blk ρ) ρ [] g ∧ g < w.heap.size) _ (fun g hg => hg.2) (h.glob []) (by simp [p1', hl]) (fun i hi => ?_)).mono ?_
     ·by_cases h1 : i < args.size
      ·have e1 : (xs ++ caps).getD i default = xs.getD i default := by
        rw [List.getD_eq_getElem?_getD, List.getElem?_append_left (by omega), ← List.getD_eq_getElem?_getD]
       have e2 : (args.map a.eval ++ vs).getD i undef = a.eval args[i] := by simp [Array.getElem?_append, h1]
       have e3 : (args.toList.map V.ev).getD i .any = V.ev args[i] := by simp [h1]
       obtain ⟨r', z1, z2⟩ := p2 i (by simpa using h1)
       rw [e3] at z1
       rw [e1, e2]
       exact (pl_ok hV h (ev_ok hV h _) z1 z2).mono fun g hg hlt => ⟨⟨hg, hlt⟩, rfl⟩
      ·have hi' : i - args.size < caps.length := by rw [List.length_append] at hi; omega
       have e1 : (xs ++ caps).getD i default = caps.getD (i - args.size) default := by
        rw [List.getD_eq_getElem?_getD, List.getElem?_append_right (by omega), p1', ← List.getD_eq_getElem?_getD]
       have e2 : (args.map a.eval ++ vs).getD i undef = vs.getD (i - args.size) undef := by
        rw [Array.getD_eq_getD_getElem?, Array.getElem?_append, if_neg (by simpa using h1)]; simp
       rw [e1, e2]
       exact (hc _ hi').mono fun g hg hlt => ⟨⟨.inl hg, hlt⟩, rfl⟩
     ·rintro e w' ⟨v, rfl, hb, hR, hap, hdrn⟩
      simp only
      obtain ⟨ρ', h'⟩ := h.call hst hb rfl (hR.flat (okn' := noBlock) rfl) hap (fun g hg => hg.elim) o.dst hdrn
      exact hK ρ' v w' h'
  ·exact hv.elim
 ·exact hv.elim
theorem op_sound (hV : VOk V tm blk) (h : HR base w0 ok0 isd tm blk ρ a w) (hst : ∀ n, st ≤ n → n < st + 64 → ¬ isd n) {δ : Delta} (hv : Valid P Γ o st V δ) : Goes P base w0 ok0 isd tm blk st a w o δ := by
 have hst0 : ¬ isd st := hst st (Nat.le_refl _) (by omega)
 cases ho : o.op with
 | move x => exact op_move ho hV h hv
 | assign x => exact op_assign ho hV h hst0 hv
 | pick c x y => exact op_pick ho hV h hv
 | alloc t => exact op_alloc ho hV h hst0 hv
 | box t x => exact op_box ho hV h hst0 hv
 | build t ps => exact op_build ho hV h hv
 | buildSlice t n ps => exact op_buildSlice ho hV h hst0 hv
 | load t x => exact op_load ho hV h hv
 | store t x y => exact op_store ho hV h hst0 hv
 | nilCheck x => exact op_nilCheck ho hV h hv
 | binOp op t x y qt => exact op_bin ho hV h hv
 | unOp op t x => exact op_un ho hV h hv
 | convert s t x => exact op_conv ho hV h hv
 | makeFunc fn fi cs => exact op_makeFunc ho hV h hv
 | makeSlice t x y => exact op_makeSlice ho hV h hst0 hv
 | slice t x lo hi mx => exact op_slice ho hV h hv
 | fieldAddr t x f => exact op_fieldAddr ho hV h hv
 | field t x f => exact op_field ho hV h hv
 | indexAddr t x i => exact op_indexAddr ho hV h hv
 | index t x i => exact op_index ho hV h hv
 | extract x i => exact op_extract ho hV h hv
 | call c =>
  obtain ⟨callee, args, ts⟩ := c
  cases callee with
  | value g => exact op_call ho hV h hst hv
  | invoke r m => simp only [Valid, opD, ho] at hv; exact hv.elim
  | builtin b =>
   cases b with
   | len => exact op_len ho hV h hv
   | max => exact op_minmax (.inl rfl) ho hV h hv
   | min => exact op_minmax (.inr rfl) ho hV h hv
   | clear => exact op_clear ho hV h hst0 hv
   | append =>
    have hv' := hv
    simp only [Valid, opD, ho] at hv'
    split at hv'
    ·rename_i x y t t' h1 h2
     obtain rfl : args = #[x, y] := by cases args; simp_all
     obtain rfl : ts = #[t, t'] := by cases ts; simp_all
     exact op_append ho hV h hst0 hv
    ·exact hv'.elim
   | _ => simp only [Valid, opD, ho] at hv; exact hv.elim
 | _ => simp only [Valid, opD, ho] at hv; exact hv.elim
def Val1 (P : Program) (Γ : FuncId → Option Ca) (o : Oper) (st : Nat) (V : View) (δ : Delta) : Prop := ∃ hint, Valid P Γ o st { V with hint := hint } δ
theorem op_sound1 (hV : VOk V tm blk) (h : HR base w0 ok0 isd tm blk ρ a w) (hst : ∀ n, st ≤ n → n < st + 64 → ¬ isd n) {δ : Delta} (hv : Val1 P Γ o st V δ) : Goes P base w0 ok0 isd tm blk st a w o δ := by
 obtain ⟨hint, hv⟩ := hv
 exact op_sound (V := { V with hint := hint }) ⟨hV.t, hV.b⟩ h hst hv
end
end Go.Proofs.YtcifjnhpgblnkaaGreatDoor
namespace Go.Proofs.YtcifjnhpgblnkaaGreatDoor
open Go.RowKit
set_option linter.unusedVariables false
set_option linter.unusedSimpArgs false
section
variable {P : Program} {base : Nat} {w0 : World} {ok0 isd : Nat → Prop} {tm : List DE} {blk : Nat → DB} {ρ : Nat → Value} {a : Act} {w : World} {V : View} {st : Nat} {o : Oper} {Γ : FuncId → Option Ca}
theorem HR.nest (h : HR base w0 ok0 isd tm blk ρ a w) (hst : ∀ n, st ≤ n → n < st + 64 → ¬ isd n) {w' : World} (hb : Below w.heap.size w w') {e s j e' : Nat} {v : Value} {L : List (List AV)} {xs : List Value} (hs : 0 < s) (hj : j < s) (hL : ∀ y ∈ L, y.length = s)
  (ho : w'.ownsRow w.heap.size e s v L.length xs) (hone : ∀ u ∈ xs, u.oneCell' = true) (hfl : ∀ i j', i < L.length → j' < s → j' ≠ j → RV w' noBlock (gt2 L i j') (xs.getD (i * s + j') undef)) (hin : InnerOwn w' w.heap.size e' s j v L xs)
  (i : AV) (hi : (AV.sl s L).inb i) (dst : Option Nat) (hdrn : w.drawn ≤ w'.drawn) :
  ∃ ρ', HR base w0 ok0 (NewI isd st) (setD tm dst (.row st st)) (updB blk (nestD e s j e' st (.sl s L) i).bs) ρ' (a.put dst v) w' := by
 have hi0 : 0 ≤ i.num := hi.2.1
 have hi1 : i.num < (L.length : Nat) := hi.2.2
 have hI : i.num.toNat < L.length := by omega
 have hlen : ∀ k l, k < L.length → l < s → k * s + l < xs.length := fun k l hk hl => by
  rw [ho.1]
  have : (k + 1) * s ≤ L.length * s := Nat.mul_le_mul_right _ hk
  rw [Nat.add_mul] at this; omega
 have hget1 : ∀ k l, k < L.length → l < s → (xs.getD (k * s + l) undef).oneCell' = true := fun k l hk hl => by
  rw [List.getD_eq_getElem?_getD, List.getElem?_eq_getElem (hlen k l hk hl)]
  exact hone _ (List.getElem_mem _)
 obtain ⟨n1, n2, n3⟩ := hin
 generalize hu : xs.getD (i.num.toNat * s + j) undef = u at *
 have hu1 : u.oneCell' = true := hu ▸ hget1 _ _ hI hj
 have hrowI := n1 _ hI
 rw [hu] at hrowI
 have hvb : v.ownBlock = blkNo v := by
  rcases ho.2 with ⟨rfl, _⟩ | ⟨g, cap, cur, rfl, _⟩ <;> rfl
 have hub : u.ownBlock = blkNo u := hrowI.blkNo_eq
 have hlow := h.low
 let ρ' : Nat → Value := fun c => if c = st then v else if c = st + 1 then u else ρ c
 have hbb : ∀ b, updB blk (nestD e s j e' st (.sl s L) i).bs b = if b = st then .rowh e s st (.sl s L) i j (.row (st + 1) st) else if b = st + 1 then .row e' 1 st ((AV.sl s L).at i j) else blk b := fun b => by
  unfold nestD; simp only; rw [updB_cons, updB_cons]; rfl
 have hρ1 : ρ' st = v := by simp [ρ']
 have hρ2 : ρ' (st + 1) = u := by simp [ρ']
 have hdead : ∀ b, b = st ∨ b = st + 1 → blk b = .dead := fun b hc => h.frs b (hst b (by omega) (by omega))
 refine ⟨ρ', h.step (fun b => b = st ∨ b = st + 1) (fun b hc => ?_) (fun b hc => ?_) (fun b t cs hc hk => ?_) (fun b n y hc hk => ?_) (fun n hn => .inl hn) (fun b hc => .inr (by omega)) (fun b n hc hn hs' => ?_) hb.size (fun g hlt _ => hb.block g hlt) (fun b hc _ g hg => ?_) (fun b b' hc hc' _ _ hne g hg hg' => ?_) hb.os hb.tape hb.output (fun H1 H5 b hc => ?_) (fun H1 t => ?_) ?_ ?_⟩
 ·rw [hbb, if_neg (fun e => hc (.inl e)), if_neg (fun e => hc (.inr e))]
 ·show (if b = st then v else if b = st + 1 then u else ρ b) = ρ b
  rw [if_neg (fun e => hc (.inl e)), if_neg (fun e => hc (.inr e))]
 ·rw [hdead b hc] at hk; cases hk
 ·rw [hdead b hc] at hk; cases hk
 ·have : n = st := by
   rw [hbb] at hs'
   rcases hc with rfl | rfl
   ·rw [if_pos rfl] at hs'; simpa [stampOf] using hs'.symm
   ·rw [if_neg (by omega), if_pos rfl] at hs'; simpa [stampOf] using hs'.symm
  exact absurd hn (hst n (by omega) (by omega))
 ·right
  rcases hc with rfl | rfl
  ·rw [hρ1, ← hvb] at hg; exact (World.ownsRow.lt ho g hg).1
  ·rw [hρ2, ← hub] at hg; exact (hrowI.lt hg).1
 ·rcases hc with rfl | rfl <;> rcases hc' with rfl | rfl
  ·exact hne rfl
  ·rw [hρ1, ← hvb] at hg; rw [hρ2, ← hub] at hg'; exact n2 _ g hI (hu ▸ hg') hg
  ·rw [hρ2, ← hub] at hg; rw [hρ1, ← hvb] at hg'; exact n2 _ g hI (hu ▸ hg) hg'
  ·exact hne rfl
 ·have hokI : ∀ k, k < L.length → k ≠ i.num.toNat → ∀ g, (xs.getD (k * s + j) undef).ownBlock = some g → okF base ok0 (updB blk (nestD e s j e' st (.sl s L) i).bs) ρ' g := fun k hk hne g hg => by
   have hge := ((n1 k hk).lt hg).1
   refine ⟨fun hlt => by omega, fun b hl e => ?_⟩
   by_cases q1 : b = st
   ·subst q1; rw [hρ1, ← hvb] at e; exact n2 k g hk hg e
   ·by_cases q2 : b = st + 1
    ·subst q2; rw [hρ2, ← hub, ← hu] at e; exact n3 k _ g hk hI hne hg e
    ·rw [hbb, if_neg q1, if_neg q2] at hl
     have e' : blkNo (ρ b) = some g := by
      have : ρ' b = ρ b := by show (if b = st then v else if b = st + 1 then u else ρ b) = ρ b; rw [if_neg q1, if_neg q2]
      rw [← this]; exact e
     have := (h.live_lt hl e').2
     omega
  have hisl : (AV.sl s L).isSl s := rfl
  rw [hbb]
  by_cases q1 : b = st
  ·subst q1
   rw [if_pos rfl]
   refine ⟨.inr (by omega), hisl, hL, hi, hj, u, hu1, .row _ _ u (.inr (by omega)) hu1 fun _ => by rw [hρ2], ?_⟩
   rw [hρ1]
   refine RRow.base (B := w.heap.size) ⟨((AV.sl s L).setEl i j [.lit u]).els, xs, rfl, hs, fun y hy => ?_, by rw [setEl_len hisl]; exact ho, hone, fun k l hk hl => ?_⟩ hlow
   ·rw [setEl_els hisl] at hy
    rcases List.mem_or_eq_of_mem_set hy with q | q
    ·exact hL _ q
    ·have hll : (L.getD i.num.toNat []).length = s := by
      rw [List.getD_eq_getElem?_getD, List.getElem?_eq_getElem hI]; exact hL _ (List.getElem_mem hI)
     rw [q]
     simp only [AV.els, List.length_append, List.length_take, List.length_drop, List.length_cons, List.length_nil, hll]
     omega
   ·rw [setEl_len hisl] at hk
    rw [setEl_gt2 hisl hL hI hj]
    have hk' : k < L.length := hk
    by_cases q2 : k = i.num.toNat ∧ l = j
    ·obtain ⟨rfl, rfl⟩ := q2
     rw [if_pos ⟨rfl, rfl⟩, hu]; exact .lit _
    ·rw [if_neg q2]
     by_cases q3 : l = j
     ·subst q3
      exact (n1 k hk').rv (fun g hg _ => hg.elim) (hokI k hk' (fun e => q2 ⟨e, rfl⟩))
     ·exact (hfl k l hk' hl q3).mono fun g hg _ => hg.elim
  ·have q2 : b = st + 1 := hc.resolve_left q1
   subst q2
   rw [if_neg q1, if_pos rfl]
   refine ⟨.inr (by omega), ?_⟩
   rw [hρ2]
   exact (hrowI.keep (fun _ _ => rfl) (fun g hg _ => hg.elim)).base hlow
 ·rcases setD_get h.size dst (.row st st) v t with ⟨e1, e2⟩ | ⟨e1, e2⟩
  ·exact .inl ⟨e1, e2⟩
  ·right; rw [e1, e2]
   refine .row st st v (.inr (by omega)) ?_ fun _ => hρ1.symm
   rcases ho.2 with ⟨rfl, _⟩ | ⟨g, cap, cur, rfl, _⟩ <;> rfl
 ·rw [put_size, setD_len, h.size]
 ·exact put_defers _ _ _
theorem nestOf_call {o : Op} {V : View} {f : FuncId} {xs : List AV} {e s j e' foc : Nat} (h : nestOf Γ o V = some (f, xs, e, s, j, e', foc)) : ∃ g cargs ts, o = .call { callee := .value g, args := cargs, argTypes := ts } ∧ V.ev g = .fn f [] ∧ V.pls (cargs.toList.map V.ev) = some (xs, []) := by
 unfold nestOf at h
 split at h
 ·rename_i g cargs ts
  split at h
  ·rename_i f' hf
   split at h
   ·split at h
    ·rename_i xs' hp
     simp only [Option.some.injEq, Prod.mk.injEq] at h
     obtain ⟨rfl, rfl, _⟩ := h
     exact ⟨g, cargs, ts, rfl, hf, hp⟩
    ·cases h
   ·cases h
  ·cases h
 ·cases h
theorem wp_nest {f : FuncId} {xs : List AV} {e s j e' foc : Nat} (hn : nestOf Γ o.op V = some (f, xs, e, s, j, e', foc)) (hV : VOk V tm blk) (h : HR base w0 ok0 isd tm blk ρ a w) (hst : ∀ n, st ≤ n → n < st + 64 → ¬ isd n) {y i : AV} (hfn : FnN P f xs e s j e' y) (hi : y.inb i) {N : Act → World → Prop} {Q : Exit → Act → World → Prop}
  (hN : ∀ ρ' v w', HR base w0 ok0 (NewI isd st) (setD tm o.dst (.row st st)) (updB blk (nestD e s j e' st y i).bs) ρ' (a.put o.dst v) w' → N (a.put o.dst v) w') : o.wp P a w N Q := by
 obtain ⟨g, args, ts, ho, he, hp⟩ := nestOf_call hn
 have hx := ev_ok hV h g
 rw [he] at hx
 generalize hu2 : a.eval g = u at hx
 cases hx with
 | fn _ _ vs hl hc =>
  unfold Oper.wp
  rw [run_call ho hu2 hfn.1, Oper.upon_enter]
  obtain ⟨a1, a2⟩ := args_ok (args := args) hV h hl hc
  rw [List.append_nil] at a1 a2
  obtain ⟨p1, p2⟩ := pls_get hp
  refine (hfn.2 w (fun g => okR (okF base ok0 blk ρ) ρ [] g ∧ g < w.heap.size) _ (fun g hg => hg.2) (h.glob []) (by rw [a1, p1]) (fun i hi => ?_)).mono ?_
  ·obtain ⟨r', z1, z2⟩ := p2 i (p1 ▸ hi)
   exact (pl_ok hV h (a2 i (p1 ▸ hi)) z1 z2).mono fun g hg hlt => ⟨⟨hg, hlt⟩, rfl⟩
  ·rintro k w' ⟨v, L, zs, rfl, hb, rfl, q1, q2, q3, q4, q5, q6, q7, q8⟩
   obtain ⟨ρ', h'⟩ := h.nest hst hb q1 q2 q3 q4 q5 q6 q7 i hi o.dst q8
   exact hN ρ' v w' h'
end
end Go.Proofs.YtcifjnhpgblnkaaGreatDoor
namespace Go.Proofs.YtcifjnhpgblnkaaGreatDoor
open Go.RowKit
set_option linter.unusedVariables false
set_option linter.unusedSimpArgs false
theorem blk_app (σ : DS) (bs : List (Nat × DB)) (tm : List DE) (c : Nat) (oc : Orc) : DS.blk ⟨tm, bs ++ σ.bl, c, oc⟩ = updB σ.blk bs := by
 funext b
 unfold DS.blk updB
 simp only [List.find?_append]
 cases h : bs.find? (·.1 == b) <;> simp
theorem view_ok (σ : DS) (o : Op) : VOk (σ.view o) σ.tm σ.blk := by
 refine ⟨fun t => ?_, fun b => ?_⟩
 ·simp only [DS.view]; split
  ·exact .inl rfl
  ·exact .inr rfl
 ·simp only [DS.view]; split
  ·exact .inl rfl
  ·exact .inr rfl
theorem fview_ok (σ : DS) : VOk σ.fview σ.tm σ.blk := ⟨fun t => .inl rfl, fun b => .inl rfl⟩
def HS (base : Nat) (w0 : World) (ok0 : Nat → Prop) (σ : DS) (ρ : Nat → Value) (a : Act) (w : World) : Prop := HR base w0 ok0 (fun n => n < σ.clk) σ.tm σ.blk ρ a w
theorem obsF_iff {obs : List Ob} {F : Prop} : obsF obs F → (∀ p ∈ obs, p.p) ∧ F := by
 induction obs with
 | nil => exact fun h => ⟨fun p hp => (by cases hp), h⟩
 | cons p l ih =>
  rintro ⟨h1, h2⟩
  obtain ⟨h3, h4⟩ := ih h2
  refine ⟨fun q hq => ?_, h4⟩
  rcases List.mem_cons.1 hq with rfl | hq
  ·exact h1
  ·exact h3 q hq
section
variable {P : Program} {base : Nat} {w0 : World} {ok0 : Nat → Prop} {Γ : FuncId → Option Ca}
def InlOk (P : Program) (inl : Inl) : Prop := ∀ (base : Nat) (w0 : World) (ok0 : Nat → Prop) (f : FuncId) (args : List DE) (σ : DS) (K : DE → DS → Prop) (ρ : Nat → Value) (a : Act) (w : World) (cargs : Array Value),
 Ent P f → inl f args σ K → HS base w0 ok0 σ ρ a w → cargs.size = args.length → (∀ i, i < args.length → RD w (okF base ok0 σ.blk ρ) ρ σ.blk (fun n => n < σ.clk) (args.getD i .any) (cargs.getD i undef)) →
 Calls P f cargs w fun e w' => ∃ v, e = .returned v ∧ ∃ d σ' ρ', K d σ' ∧ HS base w0 ok0 σ' ρ' a w' ∧ RD w' (okF base ok0 σ'.blk ρ') ρ' σ'.blk (fun n => n < σ'.clk) d v
theorem newI_clk {c n : Nat} (h : NewI (fun n => n < c) c n) : n < c + 64 := by
 rcases h with h | h
 ·have : n < c := h; omega
 ·omega
theorem stepF_sound {inl : Inl} (hinl : InlOk P inl) {dr : Bool} {hint : Option Bool} {o : Oper} {σ : DS} {K : List (Nat × DB) → DS → Prop} (hs : stepF P Γ inl dr hint o σ K) {ρ : Nat → Value} {a : Act} {w : World} (h : HS base w0 ok0 σ ρ a w) {Q : Exit → Act → World → Prop} {N : Act → World → Prop}
  (hN : ∀ bs σ' ρ' a' w', K bs σ' → HS base w0 ok0 σ' ρ' a' w' → (∀ t, o.dst ≠ some t → a'.tmps[t]? = a.tmps[t]?) → N a' w') : o.wp P a w N Q := by
 have hput : ∀ v t, o.dst ≠ some t → (a.put o.dst v).tmps[t]? = a.tmps[t]? := fun v t ht => by
  cases hd : o.dst with
  | none => rfl
  | some d =>
   have : d ≠ t := fun e => ht (by rw [hd, e])
   simp [Act.put, Array.getElem?_setIfInBounds_ne this]
 have hgoes : ∀ (oc : Orc) δ, Goes P base w0 ok0 (fun n => n < σ.clk) σ.tm σ.blk σ.clk a w o δ → K δ.bs (δ.app o.dst { σ with orc := oc }) → o.wp P a w N Q := fun oc δ hg hk => by
  refine hg N Q fun ρ' v w' h' => ?_
  refine hN _ _ ρ' _ w' hk ?_ (hput v)
  show HR base w0 ok0 _ _ _ ρ' _ w'
  rw [show (δ.app o.dst { σ with orc := oc }).blk = updB σ.blk δ.bs from blk_app σ δ.bs _ _ _]
  exact h'.same (fun n hn => newI_clk hn) w' rfl rfl rfl rfl
 have hgo : ∀ δ, Val1 P Γ o σ.clk (σ.view o.op) δ → K δ.bs (δ.app o.dst σ) → o.wp P a w N Q := fun δ hv hk => by
  refine op_sound1 (view_ok σ o.op) h (fun n h1 h2 => by simp; omega) hv N Q fun ρ' v w' h' => ?_
  refine hN _ _ ρ' _ w' hk ?_ (hput v)
  show HR base w0 ok0 _ _ _ ρ' _ w'
  rw [show (δ.app o.dst σ).blk = updB σ.blk δ.bs from blk_app σ δ.bs _ _ _]
  exact h'.same (fun n hn => newI_clk hn) w' rfl rfl rfl rfl
 unfold stepF at hs
 split at hs
 ·rename_i f args he
  split at hs
  ·exact hs.elim
  ·obtain ⟨hent, hk⟩ := hs
   have hcall : ∃ g cargs ts caps, o.op = .call { callee := .value g, args := cargs, argTypes := ts } ∧ (σ.view o.op).ev g = .fn f caps ∧ args = cargs.toList.map (σ.view o.op).ev ++ caps := by
    generalize σ.view o.op = V at he
    unfold inlOf at he
    split at he
    ·rename_i g cargs ts ho
     split at he
     ·rename_i f' caps hf
      split at he
      ·simp only [Option.some.injEq, Prod.mk.injEq] at he
       obtain ⟨rfl, rfl⟩ := he
       exact ⟨g, cargs, ts, caps, ho, hf, rfl⟩
      ·cases he
     ·cases he
    ·cases he
   obtain ⟨g, cargs, ts, caps, ho, hg, rfl⟩ := hcall
   have hx := ev_ok (view_ok σ o.op) h g
   rw [hg] at hx
   generalize hu : a.eval g = u at hx
   cases hx with
   | fn _ _ vs hl hc =>
    obtain ⟨a1, a2⟩ := args_ok (args := cargs) (view_ok σ o.op) h hl hc
    unfold Oper.wp
    rw [run_call ho hu hent, Oper.upon_enter]
    refine (hinl base w0 ok0 f _ σ _ ρ a w _ hent hk h a1 a2).mono ?_
    rintro e w' ⟨v, rfl, d, σ', ρ', hk', h', hd⟩
    refine hN _ _ ρ' _ w' hk' ?_ (hput v)
    exact (h'.put o.dst hd σ'.clk w' rfl rfl rfl rfl).same (fun n hn => newI_clk hn) w' rfl rfl rfl rfl
 split at hs
 ·rename_i f xs e s j e' foc he
  split at hs
  ·exact hs.elim
  ·split at hs
   ·rename_i i hfoc
    obtain ⟨y, hfn, hi, hk⟩ := hs
    refine wp_nest (st := σ.clk) he (view_ok σ o.op) h (fun n h1 h2 => by simp; omega) hfn hi fun ρ' v w' h' => ?_
    refine hN _ _ ρ' _ w' hk ?_ (hput v)
    show HR base w0 ok0 _ _ _ ρ' _ w'
    rw [show ((nestD e s j e' σ.clk y i).app o.dst σ).blk = updB σ.blk (nestD e s j e' σ.clk y i).bs from blk_app σ _ _ _ _]
    exact h'.same (fun n hn => newI_clk hn) w' rfl rfl rfl rfl
   ·exact hs.elim
 split at hs
 ·rename_i x b hno
  split at hs
  ·exact hs.elim
  ·have hop : ∃ op t y qt, o.op = .binOp op t x y qt ∧ isNilSl ((σ.view o.op).ev y) = true ∧ (∃ e, P.underlying t = some (.slice e)) ∧ ((op = .eql ∧ b = true) ∨ (op = .neq ∧ b = false)) := by
    generalize σ.view o.op = V at hno
    unfold nilOf at hno
    split at hno
    ·rename_i op t x' y qt ho
     split at hno
     ·rename_i hy
      split at hno
      ·rename_i e hu
       simp only [Option.some.injEq, Prod.mk.injEq] at hno
       obtain ⟨rfl, rfl⟩ := hno
       exact ⟨.eql, t, y, qt, ho, hy, ⟨e, hu⟩, .inl ⟨rfl, rfl⟩⟩
      ·rename_i e hu
       simp only [Option.some.injEq, Prod.mk.injEq] at hno
       obtain ⟨rfl, rfl⟩ := hno
       exact ⟨.neq, t, y, qt, ho, hy, ⟨e, hu⟩, .inr ⟨rfl, rfl⟩⟩
      ·cases hno
     ·cases hno
    ·cases hno
   obtain ⟨op, t, y, qt, ho, hy, ⟨e, hu⟩, hob⟩ := hop
   have hyv : a.eval y = .slice none 0 0 := by
    have hr := ev_ok (view_ok σ o.op) h y
    generalize a.eval y = u at hr
    generalize (σ.view o.op).ev y = d at hr hy
    unfold isNilSl at hy
    split at hy
    ·cases hr; rfl
    ·cases hr; rfl
    ·cases hy
   have hrun : ∀ A n c, a.eval x = .slice A n c → (execOp a.eval o).run P w = .ok (.value (.bool (if A.isNone then b else !b))) w := fun A n c hx => by
    rcases hob with ⟨rfl, rfl⟩ | ⟨rfl, rfl⟩
    ·cases A <;> simp [execOp, ho, eqGuard, binOp, hx, hyv, Go.run_equal_slice_nil w t e _ _ _ hu]
    ·cases A <;> simp [execOp, ho, eqGuard, binOp, hx, hyv, Go.run_equal_slice_nil w t e _ _ _ hu]
   have hx := ev_ok (view_ok σ o.op) h x
   split at hs
   ·rename_i he
    rw [he] at hx
    have hxv : a.eval x = .slice none 0 0 := by generalize a.eval x = u at hx; cases hx; rfl
    exact hgoes σ.orc ⟨.c (.bool b), []⟩ (goes_val h (by simpa using hrun none 0 0 hxv) (.c _)) hs
   ·split at hs
    ·rename_i z rz hz
     have hrv := pc_ok (view_ok σ o.op) h hx hz
     rcases hs with ⟨⟨s, L, rfl⟩, h2, h3⟩ | ⟨rfl, h2⟩
     rotate_left
     ·exact hgoes _ ⟨.c (.bool b), []⟩ (goes_val h (by simpa using hrun none 0 0 (RV.lit_iff.1 hrv)) (.c _)) h2
     generalize hq : a.eval x = u at hrv
     cases hrv with
     | sl _ _ A n c us hn hnc hc hs' hA hone hu' =>
      cases A with
      | none =>
       have hL : L = [] := by
        cases n with
        | zero => exact List.length_eq_zero_iff.1 hn
        | succ n => obtain ⟨_, _, q, _⟩ := hA (by omega); cases q
       exact hgoes _ ⟨.c (.bool b), []⟩ (goes_val h (by simpa using hrun none n c hq) (.c _)) (h2 hL)
      | some ad => exact hgoes _ ⟨.c (.bool (!b)), []⟩ (goes_val h (by simpa using hrun (some ad) n c hq) (.c _)) h3
    ·exact hs.elim
 ·split at hs
  ·exact hs.elim
  ·rename_i obs δ he
   obtain ⟨h1, h2⟩ := obsF_iff hs
   exact hgo δ ⟨hint, by unfold Valid; rw [he]; exact ⟨h1, rfl⟩⟩ h2
  ·rename_i ob δ he
   obtain ⟨r, h1, h2⟩ := hs
   exact hgo (δ r) ⟨hint, by unfold Valid; rw [he]; exact ⟨r, h1, rfl⟩⟩ h2
theorem lookup_mem {j : Nat} {b : Bool} : ∀ {l : List (Nat × Bool)}, l.lookup j = some b → (j, b) ∈ l
 | [], h => by cases h
 | (k, c) :: l, h => by
  simp only [List.lookup_cons] at h
  split at h
  ·rename_i e
   have e1 : j = k := by simpa using e
   simp only [Option.some.injEq] at h
   subst e1 h
   exact List.mem_cons_self ..
  ·exact List.mem_cons_of_mem _ (lookup_mem h)
def DecOk (ops : List Oper) (dec : List (Nat × Bool)) (tmps : Array Value) : Prop := ∀ j b, (j, b) ∈ dec → yielded ops.toArray tmps j = some b
theorem yielded_slot {ops : List Oper} {tmps : Array Value} {j t : Nat} (h : slotOf ops j = some t) : yielded ops.toArray tmps j = match tmps[t]? with | some (.bool b) => some b | _ => none := by
 unfold yielded
 have : ((ops.toArray[j]?).bind (·.dst)) = some t := by simpa [slotOf] using h
 rw [this]
 rfl
theorem decF_both {σ : DS} {x : AV} {A B : DS → Prop} (h : decF σ x A B) : x.isBool ∧ (x.tru = true → ∃ oc, A { σ with orc := oc }) ∧ (x.tru = false → ∃ oc, B { σ with orc := oc }) := by
 unfold decF at h
 split at h
 ·exact ⟨h.1, fun _ => ⟨_, h.2.2⟩, fun e => by have h2 : x.tru = true := h.2.1; rw [e] at h2; cases h2⟩
 ·exact ⟨h.1, fun e => (by have h2 : x.tru = false := h.2.1; rw [e] at h2; cases h2), fun _ => ⟨_, h.2.2⟩⟩
 ·exact ⟨h.1, fun e => ⟨_, h.2.1 e⟩, fun e => ⟨_, h.2.2 e⟩⟩
 ·exact ⟨h.1, fun e => ⟨σ.orc, h.2.1 e⟩, fun e => ⟨σ.orc, h.2.2 e⟩⟩
 ·exact ⟨h.1, fun e => ⟨σ.orc, h.2.1 e⟩, fun e => ⟨σ.orc, h.2.2 e⟩⟩
theorem gate_sound {ops : List Oper} {dec : List (Nat × Bool)} {o : Oper} {σ : DS} {G : DS → List (Nat × Bool) → Bool → Prop} (hg : gateF ops dec o σ G) {ρ : Nat → Value} {a : Act} {w : World} (h : HS base w0 ok0 σ ρ a w) (hd : DecOk ops dec a.tmps) :
  ∃ oc dec' run, G { σ with orc := oc } dec' run ∧ Region.wanted o (yielded ops.toArray a.tmps) = run ∧ DecOk ops dec' a.tmps := by
 unfold gateF at hg
 unfold Region.wanted
 split at hg
 ·rename_i hgd
  rw [hgd]
  exact ⟨σ.orc, dec, true, hg, rfl, hd⟩
 ·rename_i j want hgd
  rw [hgd]
  simp only
  split at hg
  ·exact hg.elim
  ·rename_i t ht
   split at hg
   ·rename_i b hb
    refine ⟨σ.orc, dec, _, hg, ?_, hd⟩
    rw [hd j b (lookup_mem hb)]
    cases b <;> cases want <;> rfl
   ·have hy := yielded_slot (tmps := a.tmps) ht
    have hr := h.tms t
    have hval : ∀ b, a.tmps.getD t undef = .bool b → yielded ops.toArray a.tmps j = some b := fun b hb => by
     rw [hy]
     rw [Array.getD_eq_getD_getElem?] at hb
     cases hq : a.tmps[t]? with
     | none => rw [hq] at hb; cases hb
     | some v => rw [hq] at hb; simp only [Option.getD_some] at hb; rw [hb]
    split at hg
    ·rename_i b hk
     rw [hk] at hr
     generalize hu : a.tmps.getD t undef = u at hr
     cases hr
     refine ⟨σ.orc, dec, _, hg, ?_, hd⟩
     rw [hval b hu]
     cases b <;> cases want <;> rfl
    ·rename_i q hk
     rw [hk] at hr
     generalize hu : a.tmps.getD t undef = u at hr
     cases hr
     refine ⟨σ.orc, dec, false, hg, ?_, hd⟩
     have : yielded ops.toArray a.tmps j = none := by
      rw [hy]
      rw [Array.getD_eq_getD_getElem?] at hu
      cases hq : a.tmps[t]? with
      | none => rfl
      | some v => rw [hq] at hu; simp only [Option.getD_some] at hu; rw [hu]
     rw [this]
     rfl
    ·rename_i x hk
     obtain ⟨h1, h2, h3⟩ := decF_both hg
     rw [hk] at hr
     generalize hu : a.tmps.getD t undef = u at hr
     cases hr with
     | v _ _ hv =>
      have hb := rv_bool hv h1
      rw [hb] at hu
      have hyb := hval _ hu
      have hd' : DecOk ops ((j, x.tru) :: dec) a.tmps := fun j' b' hm => by
       rcases List.mem_cons.1 hm with e | e
       ·injection e with e1 e2; rw [e1, e2]; exact hyb
       ·exact hd j' b' e
      cases hx : x.tru with
      | true =>
       rw [hx] at hd' hyb
       obtain ⟨oc, h2⟩ := h2 hx
       exact ⟨oc, _, _, h2, by rw [hyb]; cases want <;> rfl, hd'⟩
      | false =>
       rw [hx] at hd' hyb
       obtain ⟨oc, h3⟩ := h3 hx
       exact ⟨oc, _, _, h3, by rw [hyb]; cases want <;> rfl, hd'⟩
    ·exact hg.elim
theorem still_ok {ops : List Oper} {dec : List (Nat × Bool)} {o : Oper} {tmps tmps' : Array Value} (hd : DecOk ops dec tmps) (ht : ∀ t, o.dst ≠ some t → tmps'[t]? = tmps[t]?) : DecOk ops (stillDec ops o dec) tmps' := fun j b hm => by
 have hm' := List.mem_filter.1 hm
 have h1 := hd j b hm'.1
 cases hs : slotOf ops j with
 | none =>
  have : ((ops.toArray[j]?).bind (·.dst)) = none := by simpa [slotOf] using hs
  unfold yielded at h1
  rw [this] at h1; cases h1
 | some t =>
  rw [yielded_slot hs] at h1 ⊢
  have hne : o.dst ≠ some t := fun e => by
   have := hm'.2
   rw [hs, e] at this
   simp at this
  rw [ht t hne]; exact h1
theorem regF_sound {inl : Inl} (hinl : InlOk P inl) {ops : List Oper} {K : DS → Prop} {Q : Exit → Act → World → Prop} (hQ : ∀ σ' ρ' a' w', K σ' → HS base w0 ok0 σ' ρ' a' w' → Q .normal a' w') :
  ∀ (rest : List Oper) (k : Nat) (dec : List (Nat × Bool)) (fs : List Foot) (σ : DS) (ρ : Nat → Value) (a : Act) (w : World), (∀ i, rest[i]? = ops[k + i]?) → regF P Γ inl false ops dec fs rest σ K → HS base w0 ok0 σ ρ a w → DecOk ops dec a.tmps →
   wpOps P ops.toArray Q ((List.range rest.length).map (k + ·)) a w
 | [], k, dec, fs, σ, ρ, a, w, _, hr, h, _ => by
  simp only [regF, Bool.not_false, Bool.true_or, if_true] at hr
  exact hQ σ ρ a w hr h
 | o :: rest, k, dec, fs, σ, ρ, a, w, hl, hr, h, hd => by
  have ho : ops.toArray[k]? = some o := by have := hl 0; simpa using this.symm
  have hl' : ∀ i, rest[i]? = ops[k + 1 + i]? := fun i => by have := hl (i + 1); simpa [Nat.add_assoc, Nat.add_comm 1 i] using this
  have hlist : (List.range (o :: rest).length).map (k + ·) = k :: (List.range rest.length).map (k + 1 + ·) := by
   rw [List.length_cons, List.range_succ_eq_map, List.map_cons, List.map_map]
   congr 1
   apply List.map_congr_left
   intro i _
   simp only [Function.comp, Nat.succ_eq_add_one]; omega
  rw [hlist, wpOps_cons]
  unfold wpOp
  rw [ho]
  simp only
  simp only [regF] at hr
  obtain ⟨oc, dec', run, hG, hw, hd'⟩ := gate_sound hr h hd
  rw [hw]
  cases run with
  | true =>
   simp only [if_true] at hG ⊢
   left
   refine stepF_sound hinl hG (show HS base w0 ok0 { σ with orc := oc } ρ a w from h) fun bs σ' ρ' a' w' hk h' ht => ?_
   exact regF_sound hinl hQ rest (k + 1) _ _ σ' ρ' a' w' hl' hk h' (still_ok hd' ht)
  | false =>
   simp only [Bool.false_eq_true, if_false] at hG ⊢
   have hsk : HS base w0 ok0 (({ σ with orc := oc } : DS).skip o.dst) ρ (a.put o.dst undef) w := by
    have := h.put o.dst (d := .c undef) (.c undef) σ.clk w rfl rfl rfl rfl
    exact this.same (fun n hn => newI_clk hn) w rfl rfl rfl rfl
   refine regF_sound hinl hQ rest (k + 1) _ _ _ ρ _ w hl' hG hsk (still_ok hd' fun t ht => ?_)
   cases hdst : o.dst with
   | none => rfl
   | some d =>
    have : d ≠ t := fun e => ht (by rw [hdst, e])
    simp [Act.put, Array.getElem?_setIfInBounds_ne this]
end
end Go.Proofs.YtcifjnhpgblnkaaGreatDoor
namespace Go.Proofs.YtcifjnhpgblnkaaGreatDoor
open Go.RowKit
set_option linter.unusedVariables false
set_option linter.unusedSimpArgs false
structure Rec where
 run : Bool
 δ : Delta
def Rec.d (rc : Rec) : DE := if rc.run then rc.δ.d else .c undef
def Rec.bs (rc : Rec) : List (Nat × DB) := if rc.run then rc.δ.bs else []
def nxt (o : Oper) (rc : Rec) (σ : DS) : DS := if rc.run then rc.δ.app o.dst σ else σ.skip o.dst
def GateOk (ops : List Oper) (o : Oper) (tm : List DE) (run : Bool) : Prop := match o.guard with
 | none => run = true
 | some (j, want) => ∃ t, slotOf ops j = some t ∧ ∀ (w : World) (ok : Nat → Prop) (ρ : Nat → Value) (blk : Nat → DB) (isd : Nat → Prop) (v : Value), RD w ok ρ blk isd (tm.getD t .any) v → ((match v with | .bool b => some b | _ => none) == some want) = run
def TrOk (P : Program) (Γ : FuncId → Option Ca) (ops : List Oper) : List (Oper × Rec) → DS → Prop
 | [], _ => True
 | (o, rc) :: l, σ => GateOk ops o σ.tm rc.run ∧ (rc.run = true → Val1 P Γ o σ.clk (σ.view o.op) rc.δ) ∧ TrOk P Γ ops l (nxt o rc σ)
def footAt (ops : List Oper) (o : Oper) (rc : Rec) (σ : DS) : Foot := if rc.run then footOf ops o σ rc.δ.bs else footSkip ops o
def feet (ops : List Oper) : List (Oper × Rec) → DS → List Foot
 | [], _ => []
 | (o, rc) :: l, σ => footAt ops o rc σ :: feet ops l (nxt o rc σ)
def finS : List (Oper × Rec) → DS → DS
 | [], σ => σ
 | (o, rc) :: l, σ => finS l (nxt o rc σ)
def DecA (ops : List Oper) (dec : List (Nat × Bool)) (tm : List DE) : Prop := ∀ j b, (j, b) ∈ dec → ∃ t x, slotOf ops j = some t ∧ tm.getD t .any = .v x ∧ x.isBool ∧ x.tru = b
theorem boolGate (b want : Bool) : ((some b : Option Bool) == some want) = (b == want) := by cases b <;> cases want <;> rfl
theorem gate_trace {ops : List Oper} {dec : List (Nat × Bool)} {o : Oper} {σ : DS} {G : DS → List (Nat × Bool) → Bool → Prop} (hg : gateF ops dec o σ G) (hd : DecA ops dec σ.tm) :
  ∃ oc dec' run, G { σ with orc := oc } dec' run ∧ GateOk ops o σ.tm run ∧ DecA ops dec' σ.tm := by
 unfold gateF at hg
 unfold GateOk
 split at hg
 ·rename_i hgd
  rw [hgd]
  exact ⟨σ.orc, dec, true, hg, rfl, hd⟩
 ·rename_i j want hgd
  rw [hgd]
  simp only
  split at hg
  ·exact hg.elim
  ·rename_i t ht
   split at hg
   ·rename_i b hb
    obtain ⟨t', x, h1, h2, h3, h4⟩ := hd j b (lookup_mem hb)
    rw [ht] at h1
    injection h1 with h1
    subst h1
    refine ⟨σ.orc, dec, _, hg, ⟨t, ht, fun w ok ρ blk isd v hr => ?_⟩, hd⟩
    rw [h2] at hr
    cases hr with
    | v _ _ hv => rw [rv_bool hv h3, h4]; exact boolGate _ _
   ·split at hg
    ·rename_i b hk
     refine ⟨σ.orc, dec, _, hg, ⟨t, ht, fun w ok ρ blk isd v hr => ?_⟩, hd⟩
     rw [hk] at hr
     cases hr
     exact boolGate _ _
    ·rename_i q hk
     refine ⟨σ.orc, dec, false, hg, ⟨t, ht, fun w ok ρ blk isd v hr => ?_⟩, hd⟩
     rw [hk] at hr
     cases hr
     rfl
    ·rename_i x hk
     obtain ⟨h1, h2, h3⟩ := decF_both hg
     have hgt : ∃ t', slotOf ops j = some t' ∧ ∀ (w : World) (ok : Nat → Prop) (ρ : Nat → Value) (blk : Nat → DB) (isd : Nat → Prop) (v : Value), RD w ok ρ blk isd (σ.tm.getD t' .any) v → ((match v with | .bool b => some b | _ => none) == some want) = (x.tru == want) := ⟨t, ht, fun w ok ρ blk isd v hr => by
      rw [hk] at hr
      cases hr with
      | v _ _ hv => rw [rv_bool hv h1]; exact boolGate _ _⟩
     have hd' : DecA ops ((j, x.tru) :: dec) σ.tm := fun j' b' hm => by
      rcases List.mem_cons.1 hm with e | e
      ·injection e with e1 e2; rw [e1, e2]; exact ⟨t, x, ht, hk, h1, rfl⟩
      ·exact hd j' b' e
     cases hx : x.tru with
     | true =>
      rw [hx] at hd' hgt
      obtain ⟨oc, h2⟩ := h2 hx
      exact ⟨oc, _, _, h2, hgt, hd'⟩
     | false =>
      rw [hx] at hd' hgt
      obtain ⟨oc, h3⟩ := h3 hx
      exact ⟨oc, _, _, h3, hgt, hd'⟩
    ·exact hg.elim
theorem decA_still {ops : List Oper} {dec : List (Nat × Bool)} {o : Oper} {tm : List DE} {d : DE} (hd : DecA ops dec tm) : DecA ops (stillDec ops o dec) (setD tm o.dst d) := fun j b hm => by
 have hm' := List.mem_filter.1 hm
 obtain ⟨t, x, h1, h2, h3, h4⟩ := hd j b hm'.1
 refine ⟨t, x, h1, ?_, h3, h4⟩
 have hne : o.dst ≠ some t := fun e => by
  have := hm'.2
  rw [h1, e] at this
  simp at this
 rw [← h2]
 cases hdst : o.dst with
 | none => rfl
 | some k =>
  have : k ≠ t := fun e => hne (by rw [hdst, e])
  simp [setD, List.getElem?_set_ne this]
theorem nxt_orc (o : Oper) (rc : Rec) (σ : DS) (oc : Orc) : nxt o rc { σ with orc := oc } = { nxt o rc σ with orc := oc } := by
 unfold nxt
 split <;> rfl
theorem finS_orc : ∀ (l : List (Oper × Rec)) (σ : DS) (oc : Orc), finS l { σ with orc := oc } = { finS l σ with orc := oc }
 | [], _, _ => rfl
 | (o, rc) :: l, σ, oc => by rw [finS, nxt_orc, finS_orc l]; rfl
theorem trOk_orc {P : Program} {Γ : FuncId → Option Ca} {ops : List Oper} : ∀ (l : List (Oper × Rec)) (σ : DS) (oc : Orc), TrOk P Γ ops l { σ with orc := oc } → TrOk P Γ ops l σ
 | [], _, _, _ => trivial
 | (o, rc) :: l, σ, oc, h => ⟨h.1, h.2.1, trOk_orc l _ oc (by have := h.2.2; rwa [nxt_orc] at this)⟩
theorem feet_orc {ops : List Oper} : ∀ (l : List (Oper × Rec)) (σ : DS) (oc : Orc), feet ops l { σ with orc := oc } = feet ops l σ
 | [], _, _ => rfl
 | (o, rc) :: l, σ, oc => by rw [feet, feet, nxt_orc, feet_orc l]; rfl
theorem regF_trace {P : Program} {Γ : FuncId → Option Ca} {inl : Inl} {ops : List Oper} {K : DS → Prop} :
  ∀ (rest : List Oper) (dec : List (Nat × Bool)) (fs : List Foot) (σ : DS), regF P Γ inl true ops dec fs rest σ K → DecA ops dec σ.tm →
   ∃ (l : List (Oper × Rec)) (oc : Orc), l.map (·.1) = rest ∧ TrOk P Γ ops l σ ∧ drawOk ops (fs ++ feet ops l σ) = true ∧ K { finS l σ with orc := oc }
 | [], dec, fs, σ, hr, _ => by
  simp only [regF, Bool.not_true, Bool.false_or] at hr
  split at hr
  ·rename_i hdr
   exact ⟨[], σ.orc, rfl, trivial, by simpa [feet] using hdr, hr⟩
  ·exact hr.elim
 | o :: rest, dec, fs, σ, hr, hd => by
  simp only [regF] at hr
  obtain ⟨oc, dec', run, hG, hgo, hd'⟩ := gate_trace hr hd
  cases run with
  | true =>
   simp only [if_true] at hG
   have hdet : ∃ δ, Val1 P Γ o σ.clk (σ.view o.op) δ ∧ regF P Γ inl true ops (stillDec ops o dec') (fs ++ [footOf ops o σ δ.bs]) rest ({ δ.app o.dst σ with orc := oc }) K := by
    unfold stepF at hG
    split at hG
    ·simp only [if_true] at hG; exact hG.elim
    split at hG
    ·simp only [if_true] at hG; exact hG.elim
    split at hG
    ·simp only [if_true] at hG; exact hG.elim
    ·split at hG
     ·exact hG.elim
     ·rename_i obs δ he
      obtain ⟨h1, h2⟩ := obsF_iff hG
      have he' : opD P Γ o σ.clk { σ.view o.op with hint := hintOf ops dec' o } = .det obs δ := he
      exact ⟨δ, ⟨hintOf ops dec' o, by unfold Valid; rw [he']; exact ⟨h1, rfl⟩⟩, h2⟩
     ·rename_i ob δ he
      obtain ⟨r, h1, h2⟩ := hG
      have he' : opD P Γ o σ.clk { σ.view o.op with hint := hintOf ops dec' o } = .ex ob δ := he
      exact ⟨δ r, ⟨hintOf ops dec' o, by unfold Valid; rw [he']; exact ⟨r, h1, rfl⟩⟩, h2⟩
   obtain ⟨δ, hv, hk⟩ := hdet
   obtain ⟨l, oc2, e1, e2, e3, e4⟩ := regF_trace rest _ _ _ hk (decA_still hd')
   rw [finS_orc] at e4
   rw [feet_orc] at e3
   refine ⟨(o, ⟨true, δ⟩) :: l, oc2, by rw [List.map_cons, e1], ⟨hgo, fun _ => hv, trOk_orc _ _ _ e2⟩, ?_, e4⟩
   rw [List.append_assoc] at e3
   exact e3
  | false =>
   simp only [Bool.false_eq_true, if_false] at hG
   have hG' : regF P Γ inl true ops (stillDec ops o dec') (fs ++ [footSkip ops o]) rest ({ σ.skip o.dst with orc := oc }) K := hG
   obtain ⟨l, oc2, e1, e2, e3, e4⟩ := regF_trace rest _ _ _ hG' (decA_still hd')
   rw [finS_orc] at e4
   rw [feet_orc] at e3
   refine ⟨(o, ⟨false, ⟨.any, []⟩⟩) :: l, oc2, by rw [List.map_cons, e1], ⟨hgo, fun h => (by cases h), trOk_orc _ _ _ e2⟩, ?_, e4⟩
   rw [List.append_assoc] at e3
   exact e3

/-! ### the state behind some of the operations -/
abbrev S2 := List DE × (Nat → DB)
def app2 (o : Oper) (rc : Rec) (s : S2) : S2 := (setD s.1 o.dst rc.d, updB s.2 rc.bs)
def ov (l : List (Oper × Rec)) (S : Nat → Bool) (s0 : S2) : Nat → S2
 | 0 => s0
 | k + 1 => match S k, l[k]? with
  | true, some (o, rc) => app2 o rc (ov l S s0 k)
  | _, _ => ov l S s0 k
section
variable {l : List (Oper × Rec)} {S S' : Nat → Bool} {s0 : S2}
theorem ov_len (m : Nat) : (ov l S s0 m).1.length = s0.1.length := by
 induction m with
 | zero => rfl
 | succ k ih =>
  unfold ov
  split
  ·show (setD _ _ _).length = _
   rw [setD_len, ih]
  ·exact ih
theorem setD_getD (tm : List DE) (dst : Option Nat) (d : DE) (t : Nat) : (setD tm dst d).getD t .any = if dst = some t ∧ t < tm.length then d else tm.getD t .any := by
 cases dst with
 | none => simp [setD]
 | some k =>
  by_cases e : k = t
  ·subst e
   by_cases hk : k < tm.length
   ·simp [setD, hk]
   ·simp [setD, hk]
  ·simp [setD, List.getElem?_set_ne e, e]
theorem ov_slot {t : Nat} (m : Nat) (h : ∀ k, k < m → ∀ o rc, l[k]? = some (o, rc) → o.dst = some t → S k = S' k) : (ov l S s0 m).1.getD t .any = (ov l S' s0 m).1.getD t .any := by
 induction m with
 | zero => rfl
 | succ k ih =>
  have ih' := ih fun i hi => h i (by omega)
  have h1 : ∀ T : Nat → Bool, (ov l T s0 (k + 1)).1.getD t .any = match l[k]? with | some (o, rc) => (if T k = true ∧ o.dst = some t ∧ t < s0.1.length then rc.d else (ov l T s0 k).1.getD t .any) | none => (ov l T s0 k).1.getD t .any := by
   intro T
   cases hl : l[k]? with
   | none =>
    simp only [ov, hl]
    cases T k <;> rfl
   | some q =>
    obtain ⟨o, rc⟩ := q
    simp only [ov, hl]
    cases hT : T k with
    | false => simp
    | true =>
     simp only [app2, setD_getD, ov_len, true_and]
  rw [h1 S, h1 S']
  cases hl : l[k]? with
  | none => exact ih'
  | some q =>
   obtain ⟨o, rc⟩ := q
   simp only
   by_cases hd : o.dst = some t
   ·rw [h k (by omega) o rc hl hd, ih']
   ·rw [if_neg (fun q => hd q.2.1), if_neg (fun q => hd q.2.1)]; exact ih'
theorem updB_of_not {blk : Nat → DB} {bs : List (Nat × DB)} {b : Nat} (h : b ∉ bs.map (·.1)) : updB blk bs b = blk b := by
 unfold updB
 cases hf : bs.find? (·.1 == b) with
 | none => rfl
 | some q =>
  have e1 : q.1 = b := by simpa using List.find?_some hf
  exact absurd (List.mem_map.2 ⟨q, List.mem_of_find?_eq_some hf, e1⟩) h
theorem updB_of_mem {blk blk' : Nat → DB} {bs : List (Nat × DB)} {b : Nat} (h : b ∈ bs.map (·.1)) : updB blk bs b = updB blk' bs b := by
 unfold updB
 cases hf : bs.find? (·.1 == b) with
 | some q => rfl
 | none =>
  obtain ⟨q, hq, e⟩ := List.mem_map.1 h
  have := List.find?_eq_none.1 hf q hq
  simp [e] at this
theorem ov_block {b : Nat} (m : Nat) (h : ∀ k, k < m → ∀ o rc, l[k]? = some (o, rc) → b ∈ rc.bs.map (·.1) → S k = S' k) : (ov l S s0 m).2 b = (ov l S' s0 m).2 b := by
 induction m with
 | zero => rfl
 | succ k ih =>
  have ih' := ih fun i hi => h i (by omega)
  cases hl : l[k]? with
  | none =>
   simp only [ov, hl]
   cases S k <;> cases S' k <;> exact ih'
  | some q =>
   obtain ⟨o, rc⟩ := q
   simp only [ov, hl]
   by_cases hb : b ∈ rc.bs.map (·.1)
   ·have := h k (by omega) o rc hl hb
    rw [this]
    cases S' k with
    | false => exact ih'
    | true => exact updB_of_mem hb
   ·have e1 : ∀ s : S2, (app2 o rc s).2 b = s.2 b := fun s => updB_of_not hb
    cases S k <;> cases S' k <;> simp only [e1] <;> exact ih'
theorem ov_congr (m : Nat) (h : ∀ k, k < m → S k = S' k) : ov l S s0 m = ov l S' s0 m := by
 induction m with
 | zero => rfl
 | succ k ih =>
  simp only [ov, h k (by omega), ih fun i hi => h i (by omega)]
theorem ov_stop (m n : Nat) (hmn : m ≤ n) (h : ∀ k, m ≤ k → k < n → S k = false) : ov l S s0 n = ov l S s0 m := by
  induction n with
  | zero => obtain rfl : m = 0 := by omega
            rfl
  | succ k ih =>
    by_cases e : m = k + 1
    · rw [e]
    · have := h k (by omega) (by omega)
      simp only [ov, this]
      exact ih (by omega) fun i h1 h2 => h i h1 (by omega)
end
theorem nxt_s2 (o : Oper) (rc : Rec) (σ : DS) : ((nxt o rc σ).tm, (nxt o rc σ).blk) = app2 o rc (σ.tm, σ.blk) ∧ (nxt o rc σ).clk = σ.clk + 64 := by
 unfold nxt app2 Rec.d Rec.bs
 cases rc.run with
 | true =>
  simp only [if_true]
  refine ⟨?_, rfl⟩
  rw [show (rc.δ.app o.dst σ).blk = updB σ.blk rc.δ.bs from blk_app σ rc.δ.bs _ _ _]
  rfl
 | false =>
  simp only [Bool.false_eq_true, if_false]
  exact ⟨rfl, rfl⟩
theorem tr_at {P : Program} {Γ : FuncId → Option Ca} {ops : List Oper} : ∀ (l : List (Oper × Rec)) (σ : DS), TrOk P Γ ops l σ → ∀ i o rc, l[i]? = some (o, rc) →
  ∃ σi : DS, (σi.tm, σi.blk) = ov l (fun _ => true) (σ.tm, σ.blk) i ∧ σi.clk = σ.clk + 64 * i ∧ GateOk ops o σi.tm rc.run ∧ (rc.run = true → Val1 P Γ o σi.clk (σi.view o.op) rc.δ) ∧ (feet ops l σ)[i]? = some (footAt ops o rc σi)
 | [], σ, _, i, o, rc, h => by simp at h
 | (o0, rc0) :: l, σ, ht, 0, o, rc, h => by
  simp only [List.getElem?_cons_zero, Option.some.injEq, Prod.mk.injEq] at h
  obtain ⟨rfl, rfl⟩ := h
  exact ⟨σ, rfl, by omega, ht.1, ht.2.1, rfl⟩
 | (o0, rc0) :: l, σ, ht, i + 1, o, rc, h => by
  obtain ⟨σi, h1, h2, h3, h4, h5⟩ := tr_at l (nxt o0 rc0 σ) ht.2.2 i o rc (by simpa using h)
  obtain ⟨n1, n2⟩ := nxt_s2 o0 rc0 σ
  refine ⟨σi, ?_, by rw [h2, n2]; omega, h3, h4, by simpa [feet] using h5⟩
  rw [h1, n1]
  clear h h1 h2 h3 h4 h5 ht
  have key : ∀ m, ov l (fun _ => true) (app2 o0 rc0 (σ.tm, σ.blk)) m = ov ((o0, rc0) :: l) (fun _ => true) (σ.tm, σ.blk) (m + 1) := by
   intro m
   induction m with
   | zero => rfl
   | succ k ih =>
    simp only [ov, List.getElem?_cons_succ] at ih ⊢
    rw [ih]
  exact key i
theorem fin_s2 : ∀ (l : List (Oper × Rec)) (σ : DS), ((finS l σ).tm, (finS l σ).blk) = ov l (fun _ => true) (σ.tm, σ.blk) l.length ∧ (finS l σ).clk = σ.clk + 64 * l.length
 | [], σ => ⟨rfl, by simp [finS]⟩
 | (o0, rc0) :: l, σ => by
  obtain ⟨h1, h2⟩ := fin_s2 l (nxt o0 rc0 σ)
  obtain ⟨n1, n2⟩ := nxt_s2 o0 rc0 σ
  refine ⟨?_, by show (finS l (nxt o0 rc0 σ)).clk = _; rw [h2, n2, List.length_cons]; omega⟩
  show ((finS l (nxt o0 rc0 σ)).tm, (finS l (nxt o0 rc0 σ)).blk) = _
  rw [h1, n1]
  have key : ∀ m, ov l (fun _ => true) (app2 o0 rc0 (σ.tm, σ.blk)) m = ov ((o0, rc0) :: l) (fun _ => true) (σ.tm, σ.blk) (m + 1) := by
   intro m
   induction m with
   | zero => rfl
   | succ k ih =>
    simp only [ov, List.getElem?_cons_succ] at ih ⊢
    rw [ih]
  exact key l.length
end Go.Proofs.YtcifjnhpgblnkaaGreatDoor
