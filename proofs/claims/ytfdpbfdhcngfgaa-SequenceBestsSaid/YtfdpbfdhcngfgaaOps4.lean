/- Each operation does what the run says: loads and stores, new variables. -/
import Derived.Test.YtfdpbfdhcngfgaaOps3
namespace Go.Proofs.Ytfdpbfdhcngfgaa
open Go.RowKit
set_option linter.unusedVariables false
set_option linter.unusedSimpArgs false
section
variable {P : Program} {base : Nat} {w0 : World} {ok0 isd : Nat → Prop} {tm : List DE} {blk : Nat → DB} {ρ : Nat → Value} {a : Act} {w : World} {V : View} {st : Nat} {o : Oper} {Γ : FuncId → Option Ca}
theorem VOk.cells (hV : VOk V tm blk) {b t : Nat} {cs : List DE} (h : V.bl b = .cells t cs) : blk b = .cells t cs := by
  rcases hV.b b with e | e
  · rw [← e]; exact h
  · rw [e] at h; cases h
theorem VOk.row (hV : VOk V tm blk) {b e s n : Nat} {x : AV} (h : V.bl b = .row e s n x) : blk b = .row e s n x := by
  rcases hV.b b with e' | e'
  · rw [← e']; exact h
  · rw [e'] at h; cases h
theorem VOk.fz (hV : VOk V tm blk) {b n : Nat} {x : AV} (h : V.bl b = .fz n x) : blk b = .fz n x := by
  rcases hV.b b with e' | e'
  · rw [← e']; exact h
  · rw [e'] at h; cases h
/-- A tracked block of cells. -/
theorem HR.cells (h : HR base w0 ok0 isd tm blk ρ a w) {b t : Nat} {cs : List DE} (hb : blk b = .cells t cs) : ∃ (g : Nat) (vs : Array Value), ρ b = .pointer (some ⟨g, 0, none⟩) ∧ base ≤ g ∧ w.heap[g]? = some (.cells vs t (0, 0)) ∧ RCells w (okF base ok0 blk ρ) ρ blk isd cs vs := by
  have := h.blks b
  rw [hb] at this
  obtain ⟨g, vs, h1, h2, h3, h4, h5, h6⟩ := this
  exact ⟨g, vs, h1, h2, h3, h4, h5, h6⟩
theorem HR.row (h : HR base w0 ok0 isd tm blk ρ a w) {b e s n : Nat} {x : AV} (hb : blk b = .row e s n x) : RRow w base e s (okF base ok0 blk ρ) x (ρ b) := by
  have := h.blks b
  rw [hb] at this
  exact this.2
theorem pcs_get {cs : List DE} {xs : List AV} {r : List Nat} (h : V.pcs cs = some (xs, r)) : xs.length = cs.length ∧ ∀ i, i < cs.length → ∃ r', V.pc (cs.getD i .any) = some (xs.getD i default, r') ∧ ∀ b ∈ r', b ∈ r := by
  induction cs generalizing xs r with
  | nil =>
    simp only [View.pcs, Option.some.injEq, Prod.mk.injEq] at h
    obtain ⟨rfl, rfl⟩ := h
    exact ⟨rfl, fun i hi => absurd hi (by simp)⟩
  | cons d ds ih =>
    simp only [View.pcs] at h
    split at h
    · rename_i x r1 xs' rs h1 h2
      simp only [Option.some.injEq, Prod.mk.injEq] at h
      obtain ⟨rfl, rfl⟩ := h
      obtain ⟨e1, e2⟩ := ih h2
      refine ⟨by simp [e1], fun i hi => ?_⟩
      cases i with
      | zero => exact ⟨r1, h1, fun b hb => List.mem_append_left _ hb⟩
      | succ i =>
        obtain ⟨r', e3, e4⟩ := e2 i (by simpa using hi)
        exact ⟨r', by simpa using e3, fun b hb => List.mem_append_right _ (e4 b hb)⟩
    · cases h
theorem op_load {t : TypeId} {x : Operand} (ho : o.op = .load t x) (hV : VOk V tm blk) (h : HR base w0 ok0 isd tm blk ρ a w) {δ : Delta} (hv : Valid P Γ o st V δ) : Goes P base w0 ok0 isd tm blk st a w o δ := by
  have hx := ev_ok hV h x
  have hrun : ∀ ad v, a.eval x = .pointer (some ad) → (loadVar t ad).run P w = .ok v w → (execOp a.eval o).run P w = .ok (.value v) w := fun ad v e1 e2 => by simp [execOp, ho, Instr.loadAt, e1, Instr.sureAddr, e2]
  simp only [Valid, opD, ho] at hv
  split at hv
  · exact hv.elim
  · rename_i hu'
    have hu : ¬ (P.underlying t).isNone = true := fun e => hu' (.inl e)
    have hz : P.cellsOf t ≠ 0 := fun e => hu' (.inr e)
    split at hv
    · rename_i b k he
      rw [he] at hx
      split at hv
      · rename_i t' cs hb
        split at hv
        · rename_i d hw
          obtain rfl := hv.pure1
          obtain ⟨g, vs, e1, _, e3, e4⟩ := h.cells (hV.cells hb)
          generalize hu2 : a.eval x = u at hx hrun
          cases hx with
          | ptr _ _ g' hg' =>
            rw [e1] at hg'
            injection hg' with hg'
            injection hg' with hg'
            injection hg' with hg'
            subst hg'
            have hs := e4.seg k (P.cellsOf t)
            obtain ⟨r1, r2, r3⟩ := whole_ok hw hs
            exact goes_val h (hrun _ _ rfl (run_load hu g k _ (cells_at e3) (fun hA => ⟨r2 hA, hz⟩) r3)) r1
        · exact hv.elim
      · exact hv.elim
    · rename_i b n s i j he
      rw [he] at hx
      split at hv
      · rename_i e s' m X hb
        split at hv
        · rename_i hc
          obtain ⟨rfl, rfl, hj, hsz⟩ := hc
          obtain ⟨⟨hi0, hi1, hi2⟩, rfl⟩ := hv.det1
          have hrow := h.row (hV.row hb)
          generalize hu2 : a.eval x = u at hx hrun
          cases hx with
          | rp _ _ _ _ _ _ hn h1' hh =>
            obtain ⟨g, m', c', e1, rfl⟩ := hh (by rw [hV.row hb]; rfl)
            rw [e1] at hrow
            obtain ⟨us, q1, q2, q3, q4⟩ := hrow.el i.num.toNat (by omega)
            obtain ⟨v, hv1, hv2⟩ := run_load_us (P := P) (x := X) (i := i) (off := 0) hu us q1 q2 q3 q4 j hj hz hsz
            simp only [Nat.zero_add] at hv1
            refine goes_val h (hrun _ _ rfl hv1) ?_
            split
            · rename_i hA; rw [if_pos hA] at hv2; exact .v _ _ hv2
            · rename_i hA; rw [if_neg hA] at hv2; exact .v _ _ hv2
        · exact hv.elim
      · exact hv.elim
    · rename_i X i s j he
      rw [he] at hx
      split at hv
      · rename_i hc
        obtain ⟨hj, hsz⟩ := hc
        obtain rfl := hv.pure1
        generalize hu2 : a.eval x = u at hx hrun
        cases hx with
        | ip _ _ _ _ g off m c h1 h2 h3 =>
          obtain ⟨g', off', us, e1, q1, q2, q3, q4⟩ := rv_el h2 h1 i.num.toNat (by omega)
          injection e1 with e1
          injection e1 with e1 e2
          subst e1 e2
          obtain ⟨v, hv1, hv2⟩ := run_load_us (P := P) (x := X) (i := i) (off := off) hu us q1 q2 q3 q4 j hj hz hsz
          refine goes_val h (hrun _ _ rfl hv1) ?_
          split
          · rename_i hA; rw [if_pos hA] at hv2; exact .v _ _ hv2
          · rename_i hA; rw [if_neg hA] at hv2; exact .v _ _ hv2
      · exact hv.elim
    · rename_i b k ix he
      rw [he] at hx
      split at hv
      · rename_i t' cs hb
        split at hv
        · exact hv.elim
        · rename_i hA
          split at hv
          · rename_i xs hp
            obtain ⟨hlt, rfl⟩ := hv.det1
            obtain ⟨g, vs, e1, _, e3, e4⟩ := h.cells (hV.cells hb)
            obtain ⟨p1, p2⟩ := pcs_get hp
            generalize hu2 : a.eval x = u at hx hrun
            cases hx with
            | sp _ _ _ g' hg' =>
              rw [e1] at hg'
              injection hg' with hg'
              injection hg' with hg'
              injection hg' with hg'
              subst hg'
              have hlt' : AV.off k ix < cs.length := p1 ▸ hlt
              obtain ⟨r', q1, q2⟩ := p2 _ hlt'
              obtain rfl : r' = [] := by
                cases r' with
                | nil => rfl
                | cons z _ => exact absurd (q2 z (by simp)) (by simp)
              have hlv : AV.off k ix < vs.size := by rw [e4.1]; exact hlt'
              have hcell : w.cell? ⟨g, AV.off k ix, none⟩ = some vs[AV.off k ix] := by rw [cell_of_row w g _ vs t' (0, 0) e3]; exact Array.getElem?_eq_getElem hlv
              have hA' : isAggT P t = false := by simpa using hA
              refine goes_val h (hrun _ (vs.getD (AV.off k ix) undef) rfl ?_) (.v _ _ (pc_ok' hV h (e4.2.2 _ hlt') q1))
              unfold loadVar
              simp only [Sem.run_bind, isAgg_run (w := w) hu, Result.andThen_ok, hA']
              simp [load, Sem.run, hcell, hlv]
          · exact hv.elim
      · exact hv.elim
    · rename_i X m k ix he
      rw [he] at hx
      split at hv
      · exact hv.elim
      · rename_i hA
        split at hv
        · rename_i h1c
          obtain ⟨⟨hr, hlt⟩, rfl⟩ := hv.det1
          obtain ⟨cs, rfl, hm⟩ := hr
          generalize hu2 : a.eval x = u at hx hrun
          cases hx with
          | gp _ _ _ _ g hx1 hh =>
            cases hh with
            | ref _ _ us hok hg hc h1 h2 =>
              have hcell := hc _ (hm.symm ▸ hlt)
              have hA' : isAggT P t = false := by simpa using hA
              refine goes_val h (hrun _ (us (AV.off k ix)) rfl ?_) (.v _ _ (h2 _ (hm.symm ▸ hlt)))
              unfold loadVar
              simp only [Sem.run_bind, isAgg_run (w := w) hu, Result.andThen_ok, hA']
              simp [load, Sem.run, hcell]
        · exact hv.elim
    · rename_i X he
      rw [he] at hx
      have key : ∀ m, X.isRef m → P.cellsOf t ≤ m → (isAggT P t = true ∨ P.cellsOf t = 1) → ∃ ad v, a.eval x = .pointer (some ad) ∧ (loadVar t ad).run P w = .ok v w ∧ RV w (okF base ok0 blk ρ) (if isAggT P t then (AV.sl m [X.rcs]).atAgg (.int 0) 0 (P.cellsOf t) else (AV.sl m [X.rcs]).at (.int 0) 0) v := by
        rintro m ⟨cs, rfl, hm⟩ hle hsz
        generalize hu2 : a.eval x = u at hx ⊢
        cases hx with
        | v _ _ hh =>
          cases hh with
          | ref _ g us hok hg hc h1 h2 =>
            obtain ⟨v, hv1, hv2⟩ := run_load_us (P := P) (w := w) (ok := okF base ok0 blk ρ) (x := .sl m [cs]) (i := .int 0) (s := m) (g := g) (off := 0) hu us (fun j hj => by
              have e : AV.num (.int 0) = 0 := rfl
              simp only [e, Int.toNat_zero, Nat.zero_mul, Nat.add_zero, Nat.zero_add]
              exact hc j (hm ▸ hj)) (fun j hj => h1 j (hm ▸ hj)) (fun j hj => h2 j (hm ▸ hj)) hm 0 (by omega) hz hsz
            have e : AV.num (.int 0) = 0 := rfl
            simp only [e, Int.toNat_zero, Nat.zero_mul, Nat.add_zero, Nat.zero_add] at hv1
            exact ⟨_, v, rfl, hv1, hv2⟩
      split at hv
      · rename_i hA
        obtain ⟨hr, rfl⟩ := hv.det1
        obtain ⟨ad, v, k1, k2, k3⟩ := key _ hr (Nat.le_refl _) (.inl hA)
        refine goes_val h (hrun _ _ k1 k2) (.v _ _ ?_)
        obtain ⟨cs, rfl, hm⟩ := hr
        rw [if_pos hA] at k3
        have e : AV.atAgg (.sl (P.cellsOf t) [(AV.ref cs).rcs]) (.int 0) 0 (P.cellsOf t) = .agg cs := by
          rw [← hm]; simp [AV.atAgg, AV.els, AV.num, AV.rcs]
        rw [e] at k3
        exact k3
      · rename_i hA
        split at hv
        · rename_i h1c
          obtain ⟨hr, rfl⟩ := hv.det1
          obtain ⟨ad, v, k1, k2, k3⟩ := key _ hr (by omega) (.inr h1c)
          refine goes_val h (hrun _ _ k1 k2) (.v _ _ ?_)
          obtain ⟨cs, rfl, hm⟩ := hr
          rw [if_neg hA] at k3
          exact k3
        · exact hv.elim
    · exact hv.elim
end
end Go.Proofs.Ytfdpbfdhcngfgaa
