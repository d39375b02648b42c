/- Each operation does what the run says: 'clear' of a row from some element on. -/
import Derived.Test.YtfdpbfdhcngfgaaOps9
import Derived.Shelf.RegionOpenPlain
import Derived.WalkKit
import Derived.Deep.RegionLaw
import Derived.Deep.Upon
import Derived.Lib.Walk
import Derived.Lib.SliceRun
namespace Go.Proofs.Ytfdpbfdhcngfgaa
open Go.RowKit Go.Lib
set_option linter.unusedVariables false
set_option linter.unusedSimpArgs false
/-! ### a block, written in part -/
def setR (cur : Array Value) : Nat → List Value → Array Value
  | _, [] => cur
  | o, v :: r => setR (cur.setIfInBounds o v) (o + 1) r
theorem setR_size : ∀ (vs : List Value) (cur : Array Value) (o : Nat), (setR cur o vs).size = cur.size
  | [], _, _ => rfl
  | v :: r, cur, o => by rw [setR, setR_size r]; simp
theorem setR_list : ∀ (vs : List Value) (cur : Array Value) (o : Nat), o + vs.length ≤ cur.size → (setR cur o vs).toList = cur.toList.take o ++ vs ++ cur.toList.drop (o + vs.length)
  | [], cur, o, _ => by simp [setR]
  | v :: r, cur, o, h => by
    simp only [List.length_cons] at h
    rw [setR, setR_list r _ _ (by simp; omega)]
    have hl : (cur.toList.take o).length = o := by simp; omega
    have e : (cur.setIfInBounds o v).toList = cur.toList.take o ++ v :: cur.toList.drop (o + 1) := by
      rw [Array.toList_setIfInBounds, List.set_eq_take_append_cons_drop, if_pos (by simp; omega)]
    have e1 : (cur.setIfInBounds o v).toList.take (o + 1) = cur.toList.take o ++ [v] := by
      rw [e, List.take_append, hl, List.take_of_length_le (by omega), show o + 1 - o = 1 by omega]; rfl
    have e2 : (cur.setIfInBounds o v).toList.drop (o + 1 + r.length) = cur.toList.drop (o + (v :: r).length) := by
      rw [e, List.drop_append, hl, List.drop_of_length_le (by omega), show o + 1 + r.length - o = r.length + 1 by omega, List.drop_succ_cons, List.drop_drop, List.nil_append, List.length_cons]
      congr 1; omega
    rw [e1, e2]; simp
theorem setCells_blk {g : Nat} {e : TypeId} : ∀ (vs : List Value) (o : Nat) (w : World) (cur : Array Value), w.heap[g]? = some (.cells cur e (0, 0)) → (w.setCells g o vs).heap[g]? = some (.cells (setR cur o vs) e (0, 0))
  | [], _, _, _, h => h
  | v :: r, o, w, cur, h => by
    rw [World.setCells, setR]
    exact setCells_blk r (o + 1) _ _ (heap_setCell_same w g o cur e v h)
theorem setCells_size (g : Nat) : ∀ (vs : List Value) (o : Nat) (w : World), (w.setCells g o vs).heap.size = w.heap.size
  | [], _, _ => rfl
  | v :: r, o, w => by rw [World.setCells, setCells_size g r]; simp [World.setCell]
theorem setCells_drawn (g : Nat) : ∀ (vs : List Value) (o : Nat) (w : World), (w.setCells g o vs).drawn = w.drawn
  | [], _, _ => rfl
  | v :: r, o, w => by rw [World.setCells, setCells_drawn g r]; rfl
theorem grown_setCells (w : World) (g o : Nat) (vs : List Value) : w.grownBy (w.setCells g o vs) (some g) := by
  refine ⟨World.os_setCells w g o vs, ?_, World.output_setCells w g o vs, Nat.le_of_eq (setCells_size g vs o w).symm, fun k hk hne => World.heap_setCells_other w g o vs hk (fun e => hne (by rw [e]))⟩
  induction vs generalizing o w with
  | nil => rfl
  | cons v r ih => rw [World.setCells, ih]; rfl
theorem grownBy_trans {a b c : World} {r : Option Nat} (h : a.grownBy b r) (h' : b.grownBy c r) : a.grownBy c r :=
  ⟨h'.os.trans h.os, h'.tape.trans h.tape, h'.output.trans h.output, Nat.le_trans h.size h'.size, fun k hk hne => (h'.block k (Nat.lt_of_lt_of_le hk h.size) hne).trans (h.block k hk hne)⟩
theorem grownBy_drew (a : World) (r : Option Nat) : a.grownBy a.drew r := ⟨rfl, rfl, rfl, Nat.le_refl _, fun _ _ _ => rfl⟩
theorem grownBy_refl (a : World) (r : Option Nat) : a.grownBy a r := ⟨rfl, rfl, rfl, Nat.le_refl _, fun _ _ _ => rfl⟩
/-- 'clear' of part of a block. -/
theorem run_clear {P : Program} (w : World) (t e ty : TypeId) (z : Value) (ht : P.underlying t = some (.slice e)) (hv : ∀ w, (zeroValue e).run P w = .ok z w) (hz : 0 < z.cells.size) (h1 : ∀ v ∈ z.cells, v.oneCell' = true) (b o n c : Nat) (hn : 0 < n)
    (hc : ∀ j, j < n * z.cells.size → (w.cell? ⟨b, o + j, none⟩).isSome = true) (hf : ∀ j, j < n * z.cells.size → w.frozen? ⟨b, o + j, none⟩ = false) :
    (Builtin.clear_ #[t] ty #[.slice (some ⟨b, o, none⟩) n c]).run P w = .ok (.tuple #[]) (w.setCells b o (Builtin.zeroCells z.cells n).toList) := by
  have hl : (Builtin.zeroCells z.cells n).toList.length = n * z.cells.size := by simp [Builtin.zeroCells]
  have hst := run_storeCells_cells (P := P) b o (Builtin.zeroCells z.cells n).toList 0 w (by rw [hl]; simpa using hc) (by rw [hl]; simpa using hf) (by
    intro v hv'
    simp only [Builtin.zeroCells, Array.toList_map, List.mem_map] at hv'
    obtain ⟨i, _, rfl⟩ := hv'
    have hi : i % z.cells.size < z.cells.size := Nat.mod_lt _ hz
    rw [getElem!_pos z.cells _ hi]
    exact h1 _ (Array.getElem_mem hi))
  simp only [Nat.add_zero] at hst
  obtain ⟨m, rfl⟩ : ∃ m, n = m + 1 := ⟨n - 1, by omega⟩
  simp [Builtin.clear_, run_underlying ht, hv, hst]

section
variable {P : Program} {base : Nat} {w0 : World} {ok0 isd : Nat → Prop} {tm : List DE} {blk : Nat → DB} {ρ : Nat → Value} {a : Act} {w : World} {V : View} {st : Nat} {o : Oper} {Γ : FuncId → Option Ca}
theorem zeroCells_get (u : Array Value) (n t : Nat) (ht : t < n * u.size) (hu : 0 < u.size) : (Builtin.zeroCells u n).toList[t]? = some (u.getD (t % u.size) undef) := by
  have h1 : t % u.size < u.size := Nat.mod_lt _ hu
  simp [Builtin.zeroCells, ht, h1]
theorem op_clear {ts : Array TypeId} {xs : Array Operand} (ho : o.op = .call { callee := .builtin .clear, args := xs, argTypes := ts }) (hV : VOk V tm blk) (h : HR base w0 ok0 isd tm blk ρ a w) (hst : ¬ isd st) {δ : Delta} (hv : Valid P Γ o st V δ) : Goes P base w0 ok0 isd tm blk st a w o δ := by
  simp only [Valid, opD, ho] at hv
  split at hv
  · rename_i x t hxs hts
    obtain rfl : xs = #[x] := by cases xs; simp_all
    obtain rfl : ts = #[t] := by cases ts; simp_all
    have hx := ev_ok hV h x
    split at hv
    · rename_i b n s l e s' by_ he hsl
      obtain ⟨ht, rfl, rfl⟩ := slT_spec hsl
      rw [he] at hx
      split at hv
      · rename_i e' s2 m X z hb hz
        split at hv
        · rename_i z' hzp
          split at hv
          · rename_i hc
            obtain ⟨rfl, rfl, hs', hs0, hzl, hon⟩ := hc
            obtain rfl := hv.det0
            have hbk := hV.row hb
            have hrow := h.row hbk
            obtain ⟨u, hu, hcl, inf, hinf, hzu⟩ := zeroOf_ok (w := w) (ρ := ρ) (blk := blk) (isd := isd) (okF base ok0 blk ρ) hz hon
            have hus : u.cells.size = s2 := by rw [hcl.1, hzl]
            obtain ⟨p1, p2⟩ := pcs_get hzp
            generalize hu2 : a.eval x = xv at hx
            cases hx with
            | rt _ _ _ _ _ hn h1' hh =>
              obtain ⟨A, m', c, e1, l0, lm, rfl⟩ := hh (by rw [hbk]; rfl)
              have hrow' := hrow
              obtain ⟨L, xs, eX, _, hL, how, hone, hvv⟩ := hrow
              subst eX
              obtain ⟨l', hl'⟩ : ∃ l' : Nat, l.num = l' := ⟨l.num.toNat, by omega⟩
              rw [hl'] at lm hu2
              simp only [Int.toNat_natCast] at hu2
              have hm' : m' = L.length := by
                obtain ⟨A', n', c', q1, q2, _⟩ := hrow'.form
                rw [e1] at q1
                injection q1 with q1 q3 q4
                rw [q3, q2]; rfl
              subst hm'
              have hclr : AV.clr s2 (.sl s2 L) l z' = .sl s2 (L.take l' ++ List.replicate (L.length - l') z') := by unfold AV.clr; rw [hl']; rfl
              rw [hclr]
              rcases Nat.eq_or_lt_of_le (show l' ≤ L.length by omega) with hq | hq
              · -- nothing to clear
                have hrun : (execOp a.eval o).run P w = .ok (.value (.tuple #[])) w := by
                  rw [hq, Nat.sub_self] at hu2
                  generalize (if c = L.length then A else A.map (·.add (L.length * s2))) = A' at hu2
                  cases A' <;> simp [execOp, ho, resolve, invoke, builtin, Builtin.clear_, run_underlying ht, hu2]
                have hsame : L.take l' ++ List.replicate (L.length - l') z' = L := by rw [hq]; simp
                rw [hsame]
                have hup := h.updRow (st := st) hbk m (.inl rfl) hst (.sl s2 L) (ρ b) (fun _ => rfl) w ⟨rfl, rfl, rfl, Nat.le_refl _, fun _ _ _ => rfl⟩ (fun ok' hk => hrow'.keep (fun _ _ => rfl) hk) (fun g hg => .inl hg) o.dst (.tup []) (.tuple #[]) (.inr (.inl ⟨#[], rfl, rfl, rfl⟩))
                exact goes_run hrun hup
              · rcases how.2 with ⟨_, q0⟩ | ⟨g, cap, cur, q1, hBg, hg, hnc, hcm, hcs, htk⟩
                · omega
                · rw [e1] at q1
                  injection q1 with q1 _ q3
                  subst q1 q3
                  have hmul : l' * s2 ≤ L.length * s2 := Nat.mul_le_mul_right _ (by omega)
                  have hmul2 : L.length * s2 ≤ c * s2 := Nat.mul_le_mul_right _ hnc
                  have hxl : xs.length = L.length * s2 := how.1
                  have hzs : (L.length - l') * u.cells.size = L.length * s2 - l' * s2 := by rw [hus, Nat.sub_mul]
                  have hcell : ∀ j, j < (L.length - l') * u.cells.size → l' * s2 + j < cur.size := fun j hj => by rw [hzs] at hj; omega
                  have had : (if c = l' then (some ⟨g, 0, none⟩ : Option Addr) else (some ⟨g, 0, none⟩ : Option Addr).map (·.add (l' * s2))) = some ⟨g, l' * s2, none⟩ := by
                    rw [if_neg (by omega)]
                    simp only [Option.map_some, Addr.add]
                    by_cases h0 : l' * s2 = 0
                    · simp [h0]
                    · simp [h0]
                  rw [had] at hu2
                  have hcr := run_clear (P := P) w t e o.type u ht (fun w' => by
                    have := zeroOf_ok (w := w') (ρ := ρ) (blk := blk) (isd := isd) (okF base ok0 blk ρ) hz hon
                    obtain ⟨u', hu', _, inf', hinf', hzu'⟩ := this
                    rw [hinf] at hinf'
                    injection hinf' with hinf'
                    subst hinf'
                    rw [hzu] at hzu'
                    injection hzu' with hzu'
                    rw [hzu']; exact hu') (by omega) (fun v hv => by
                    obtain ⟨i, hi, rfl⟩ := Array.mem_iff_getElem.1 hv
                    have := hcl.2.1 i (by rw [← hcl.1]; exact hi)
                    simpa [hi] using this) g (l' * s2) (L.length - l') (c - l') (by omega) (fun j hj => by
                    rw [cell_of_row w g _ cur e' (0, 0) hg]
                    simp [hcell j hj]) (fun j hj => by simp [World.frozen?, hg])
                  have hrun : (execOp a.eval o).run P w = .ok (.value (.tuple #[])) (w.setCells g (l' * s2) (Builtin.zeroCells u.cells (L.length - l')).toList) := by
                    simp [execOp, ho, resolve, invoke, builtin, hu2, hcr]
                  have hzl2 : (Builtin.zeroCells u.cells (L.length - l')).toList.length = L.length * s2 - l' * s2 := by rw [← hzs]; simp [Builtin.zeroCells]
                  have hgb := grown_setCells w g (l' * s2) (Builtin.zeroCells u.cells (L.length - l')).toList
                  have hnl : (L.take l' ++ List.replicate (L.length - l') z').length = L.length := by simp; omega
                  have hup := h.updRow (st := st) hbk m (.inl rfl) hst (.sl s2 (L.take l' ++ List.replicate (L.length - l') z')) (ρ b) (fun _ => rfl) (w.setCells g (l' * s2) (Builtin.zeroCells u.cells (L.length - l')).toList) (by rw [e1]; exact hgb) (fun ok' hk => by
                    refine ⟨_, xs.take (l' * s2) ++ (Builtin.zeroCells u.cells (L.length - l')).toList, rfl, by omega, fun y hy => ?_, ⟨?_, .inr ⟨g, c, _, ?_, hBg, setCells_blk _ _ _ _ hg, by rw [hnl]; exact hnc, hcm, by rw [setR_size]; exact hcs, ?_⟩⟩, fun v hv => ?_, fun i j hi hj => ?_⟩
                    · rcases List.mem_append.1 hy with q | q
                      · exact hL y (List.mem_of_mem_take q)
                      · rw [List.eq_of_mem_replicate q, p1, hzl]
                    · rw [hnl]; simp only [List.length_append, List.length_take, hzl2, hxl]; omega
                    · rw [e1, hnl]
                    · rw [hnl, setR_list _ _ _ (by rw [hzl2, hcs]; omega), hzl2, List.append_assoc, ← List.append_assoc]
                      have e3 : cur.toList.take (l' * s2) = xs.take (l' * s2) := by rw [← htk, List.take_take, Nat.min_eq_left hmul]
                      rw [e3]
                      exact List.take_left' (by simp only [List.length_append, List.length_take, hzl2, hxl]; omega)
                    · rcases List.mem_append.1 hv with q | q
                      · exact hone v (List.mem_of_mem_take q)
                      · obtain ⟨i, hi⟩ := List.getElem?_of_mem q
                        have hlt : i < (L.length - l') * u.cells.size := by
                          have := (List.getElem?_eq_some_iff.1 hi).1
                          rw [hzl2] at this; rw [hzs]; exact this
                        rw [zeroCells_get _ _ _ hlt (by omega)] at hi
                        injection hi with hi
                        rw [← hi]
                        exact hcl.2.1 _ (by rw [← hcl.1]; exact Nat.mod_lt _ (by omega))
                    · rw [hnl] at hi
                      by_cases hil : i < l'
                      · have hlt : i * s2 + j < l' * s2 := by
                          have := Nat.mul_le_mul_right s2 hil
                          rw [Nat.succ_mul] at this; omega
                        have g1 : gt2 (L.take l' ++ List.replicate (L.length - l') z') i j = gt2 L i j := by
                          unfold gt2
                          congr 1
                          rw [List.getD_eq_getElem?_getD, List.getD_eq_getElem?_getD, List.getElem?_append_left (by simp; omega), List.getElem?_take_of_lt hil]
                        have g2 : (xs.take (l' * s2) ++ (Builtin.zeroCells u.cells (L.length - l')).toList).getD (i * s2 + j) undef = xs.getD (i * s2 + j) undef := by
                          rw [List.getD_eq_getElem?_getD, List.getD_eq_getElem?_getD, List.getElem?_append_left (by simp; omega), List.getElem?_take_of_lt hlt]
                        rw [g1, g2]
                        exact (hvv i j (by omega) hj).mono hk
                      · have hle : l' * s2 ≤ i * s2 := Nat.mul_le_mul_right _ (by omega)
                        have hlt2 : i * s2 + j < L.length * s2 := by
                          have := Nat.mul_le_mul_right s2 hi
                          rw [Nat.succ_mul] at this; omega
                        have g1 : gt2 (L.take l' ++ List.replicate (L.length - l') z') i j = z'.getD j default := by
                          unfold gt2
                          congr 1
                          rw [List.getD_eq_getElem?_getD, List.getElem?_append_right (by simp; omega), List.getElem?_replicate, if_pos (by simp; omega)]; rfl
                        have htl : (xs.take (l' * s2)).length = l' * s2 := by rw [List.length_take, hxl]; exact Nat.min_eq_left hmul
                        have g2 : (xs.take (l' * s2) ++ (Builtin.zeroCells u.cells (L.length - l')).toList).getD (i * s2 + j) undef = u.cells.getD j undef := by
                          rw [List.getD_eq_getElem?_getD, List.getElem?_append_right (by rw [htl]; omega), htl, zeroCells_get _ _ _ (by rw [hzs]; omega) (by omega)]
                          have : (i * s2 + j - l' * s2) % u.cells.size = j := by
                            rw [hus, show i * s2 + j - l' * s2 = j + (i - l') * s2 by (rw [Nat.sub_mul]; omega), Nat.add_mul_mod_self_right, Nat.mod_eq_of_lt hj]
                          rw [this]; rfl
                        rw [g1, g2]
                        obtain ⟨r', z1, z2⟩ := p2 j (by omega)
                        obtain rfl : r' = [] := by
                          cases r' with
                          | nil => rfl
                          | cons q _ => exact absurd (z2 q (by simp)) (by simp)
                        exact (pc_ok' hV h (hcl.2.2 j (by omega)) z1).mono hk) (fun g' hg' => .inl hg') o.dst (.tup []) (.tuple #[]) (.inr (.inl ⟨#[], rfl, rfl, rfl⟩)) (by rw [setCells_drawn]; exact Nat.le_refl _)
                  exact goes_run hrun hup
          · exact hv.elim
        · exact hv.elim
      · exact hv.elim
    · exact hv.elim
  · exact hv.elim
end
end Go.Proofs.Ytfdpbfdhcngfgaa
