/- Each operation does what the run says: structs and slices that are built, slice expressions, append. -/
import Derived.Test.YtfdpbfdhcngfgaaOps7
namespace Go.Proofs.Ytfdpbfdhcngfgaa
open Go.RowKit
set_option linter.unusedVariables false
set_option linter.unusedSimpArgs false
theorem foldl_set (cs : Array Value) : ∀ (l : List Value) (j0 off : Nat) (acc : Array Value), off + j0 + l.length ≤ acc.size →
    ((l.zipIdx j0).foldl (fun a (p : Value × Nat) => a.setIfInBounds (off + p.2) p.1) acc).toList = acc.toList.take (off + j0) ++ l ++ acc.toList.drop (off + j0 + l.length)
  | [], j0, off, acc, h => by simp
  | v :: l, j0, off, acc, h => by
    simp only [List.zipIdx_cons, List.foldl_cons]
    rw [foldl_set cs l (j0 + 1) off (acc.setIfInBounds (off + j0) v) (by simp at h ⊢; omega)]
    have e := list_seg_step acc.toList (off + j0) v l (by simp at h ⊢; omega)
    simp only [Array.toList_setIfInBounds, Nat.add_assoc, List.length_cons] at e ⊢
    simpa [Nat.add_assoc, Nat.add_comm 1 l.length] using e
section
variable {P : Program} {base : Nat} {w0 : World} {ok0 isd : Nat → Prop} {tm : List DE} {blk : Nat → DB} {ρ : Nat → Value} {a : Act} {w : World} {V : View} {st : Nat} {o : Oper} {Γ : FuncId → Option Ca}
theorem fill_step {place : Nat → Option (Nat × Nat)} {cells : Array Value} {i off size : Nat} {v : Value} {rest : List (Nat × Value)} (hp : place i = some (off, size)) (hs : v.cells.size = size) (hl : off + v.cells.size ≤ cells.size) :
    Instr.fill place cells ((i, v) :: rest) = Instr.fill place (cells.toList.take off ++ v.cells.toList ++ cells.toList.drop (off + v.cells.size)).toArray rest := by
  have e := foldl_set cells v.cells.toList 0 off cells (by simpa using hl)
  have e2 : v.cells.zipIdx.foldl (fun cs (x : Value × Nat) => cs.setIfInBounds (off + x.2) x.1) cells = (cells.toList.take off ++ v.cells.toList ++ cells.toList.drop (off + v.cells.size)).toArray := by
    apply Array.toList_inj.1
    rw [← Array.foldl_toList, Array.toList_zipIdx]
    simpa using e
  have hns : ¬ (off + v.cells.size > cells.size) := by omega
  simp only [Instr.fill, hp]
  have hc : (decide (v.cells.size ≠ size) || decide (off + v.cells.size > cells.size)) = false := by simp [hs]; omega
  rw [if_neg (by simpa using hc)]
  congr 1
/-- What is filled into a struct or an array. -/
theorem fillD_ok (hV : VOk V tm blk) (h : HR base w0 ok0 isd tm blk ρ a w) {t : TypeId} {place : Nat → Option (Nat × Nat)} (hpl : ∀ i off ft, placeOf P t i = some (off, ft) → P.cellsOf ft ≠ 0 → place i = some (off, P.cellsOf ft)) :
    ∀ (ps : List (Nat × Operand)) (cs cs' : List DE) (obs : List Prop) (vs : Array Value), fillD P t V cs ps = some (cs', obs) → (∀ p ∈ obs, p) → RCells w (okF base ok0 blk ρ) ρ blk isd cs vs →
      ∃ vs', Instr.fill place vs (ps.map fun (i, x) => (i, a.eval x)) = some vs' ∧ RCells w (okF base ok0 blk ρ) ρ blk isd cs' vs'
  | [], cs, cs', obs, vs, hf, _, hc => by
    simp only [fillD, Option.some.injEq, Prod.mk.injEq] at hf
    obtain ⟨rfl, rfl⟩ := hf
    exact ⟨vs, rfl, hc⟩
  | (i, x) :: rest, cs, cs', obs, vs, hf, hobs, hc => by
    simp only [fillD] at hf
    split at hf
    · cases hf
    · rename_i off ft hp
      split at hf
      · cases hf
      · rename_i ds obs1 hs
        split at hf
        · cases hf
        · rename_i cs1 hl
          split at hf
          · cases hf
          · rename_i hz
            cases hr : fillD P t V cs1 rest with
            | none => rw [hr] at hf; cases hf
            | some q =>
              obtain ⟨l, obs2⟩ := q
              rw [hr] at hf
              simp only [Option.map_some, Option.some.injEq, Prod.mk.injEq] at hf
              obtain ⟨rfl, rfl⟩ := hf
              obtain ⟨hds, hlen⟩ := split_ok hs (fun p hp => hobs p (List.mem_append_left _ hp)) (ev_ok hV h x)
              obtain ⟨hle, hc1⟩ := lay_ok hl hc hds
              obtain ⟨vs', e1, e2⟩ := fillD_ok hV h hpl rest cs1 l obs2 _ hr (fun p hp => hobs p (List.mem_append_right _ hp)) hc1
              refine ⟨vs', ?_, e2⟩
              rw [List.map_cons, fill_step (hpl i off ft hp hz) (hds.1.trans hlen) (by rw [hds.1, hc.1]; exact hle)]
              exact e1
theorem mapM_sizes (fs : List Field) (h : ∀ f ∈ fs, (P.info? f.type).isSome = true) : (fs.mapM fun f => do pure (f.offset, ← sizeOf f.type) : Sem (List (Nat × Nat))).run P w = .ok (fs.map fun f => (f.offset, P.cellsOf f.type)) w := by
  induction fs with
  | nil => rfl
  | cons f fs ih =>
    have h1 := h f (by simp)
    have e : (sizeOf f.type).run P w = .ok (P.cellsOf f.type) w := by
      cases hi : P.info? f.type with
      | none => rw [hi] at h1; cases h1
      | some i => simp [sizeOf, typeInfo, hi, Program.cellsOf]
    have ih' := ih (fun g hg => h g (by simp [hg]))
    simp only [List.mapM_cons, Sem.run_bind, e, Result.andThen_ok, Sem.run_pure, ih', List.map_cons]
theorem notnot {b : Bool} (h : ¬ (!b) = true) : b = true := by cases b <;> simp_all
theorem op_build {t : TypeId} {ps : Array (Nat × Operand)} (ho : o.op = .build t ps) (hV : VOk V tm blk) (h : HR base w0 ok0 isd tm blk ρ a w) {δ : Delta} (hv : Valid P Γ o st V δ) : Goes P base w0 ok0 isd tm blk st a w o δ := by
  simp only [Valid, opD, ho] at hv
  split at hv
  · exact hv.elim
  · rename_i z hz
    split at hv
    · exact hv.elim
    · rename_i hone
      split at hv
      · exact hv.elim
      · rename_i hsz
        obtain ⟨u, hu, hc, _⟩ := zeroOf_ok (w := w) (ρ := ρ) (blk := blk) (isd := isd) (okF base ok0 blk ρ) hz (by simpa using hone)
        split at hv
        · rename_i cs obs hf
          obtain ⟨hobs, rfl⟩ := hv
          unfold sizesOk at hsz
          split at hsz
          · rename_i fs ht
            have hsz' : ∀ f ∈ fs.toList, (P.info? f.type).isSome = true := List.all_eq_true.1 (notnot hsz)
            have hm := mapM_sizes (w := w) fs.toList hsz'
            obtain ⟨vs', e1, e2⟩ := fillD_ok hV h (place := fun i => ((fs.toList.map fun f => (f.offset, P.cellsOf f.type)).toArray)[i]?) (fun i off ft hp _ => by
              unfold placeOf at hp
              rw [ht] at hp
              simp only at hp
              cases hfi : fs[i]? with
              | none => rw [hfi] at hp; cases hp
              | some f =>
                rw [hfi] at hp
                simp only [Option.map_some, Option.some.injEq, Prod.mk.injEq] at hp
                obtain ⟨rfl, rfl⟩ := hp
                simp [hfi]) ps.toList z cs obs u.cells hf hobs hc
            refine goes_val h (v := .agg vs') ?_ e2.agg
            have hm2 : (fs.mapM fun f => do pure (f.offset, ← sizeOf f.type) : Sem (Array (Nat × Nat))).run P w = .ok (fs.toList.map fun f => (f.offset, P.cellsOf f.type)).toArray w := by
              rw [Array.mapM_eq_mapM_toList]
              show Sem.run P ((fs.toList.mapM fun f => do pure (f.offset, ← sizeOf f.type)) >>= fun l => pure l.toArray) w = _
              rw [Sem.run_bind, hm]
              rfl
            simp only [execOp, ho, Instr.build, Sem.run_bind, hu, Result.andThen_ok, run_underlying ht, hm2, Array.toList_map, e1]
            simp
          · rename_i n e ht
            have e0 : P.cellsOf e ≠ 0 := by simpa using hsz
            obtain ⟨vs', e1, e2⟩ := fillD_ok hV h (place := fun i => some (i * P.cellsOf e, P.cellsOf e)) (fun i off ft hp _ => by
              unfold placeOf at hp
              rw [ht] at hp
              simp only at hp
              split at hp
              · simp only [Option.some.injEq, Prod.mk.injEq] at hp
                obtain ⟨rfl, rfl⟩ := hp
                rfl
              · cases hp) ps.toList z cs obs u.cells hf hobs hc
            refine goes_val h (v := .agg vs') ?_ e2.agg
            simp only [execOp, ho, Instr.build, Sem.run_bind, hu, Result.andThen_ok, run_underlying ht, sizeOf_run (w := w) e0, Array.toList_map, e1]
            simp
          · simp at hsz
        · exact hv.elim
end
end Go.Proofs.Ytfdpbfdhcngfgaa
