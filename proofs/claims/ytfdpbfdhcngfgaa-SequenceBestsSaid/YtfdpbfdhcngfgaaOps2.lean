/- Each operation does what the run says: strings, lengths, parts, addresses. -/
import Derived.Test.YtfdpbfdhcngfgaaOps
namespace Go.Proofs.Ytfdpbfdhcngfgaa
open Go.RowKit
set_option linter.unusedVariables false
section
variable {P : Program} {base : Nat} {w0 : World} {ok0 isd : Nat → Prop} {tm : List DE} {blk : Nat → DB} {ρ : Nat → Value} {a : Act} {w : World} {V : View} {st : Nat} {o : Oper} {Γ : FuncId → Option Ca}
theorem run_sliceBound {x : Value} {k : IntKind} {i : Int} (hx : x = .int k i) {y : Nat} (h0 : 0 ≤ i) (h1 : i ≤ y) (c : BoundsCode) : (Instr.sliceBound x y c).run P w = .ok i.toNat w := by
  subst hx
  simp [Instr.sliceBound, asIntOf, h0, h1]
theorem bnd_ok (hV : VOk V tm blk) (h : HR base w0 ok0 isd tm blk ρ a w) {x : Option Operand} {z l : AV} (hb : V.bnd x z = some (l, [])) (hl : l.isInt) : (x = none ∧ l = z) ∨ ∃ y, x = some y ∧ a.eval y = .int l.kind l.num := by
  cases x with
  | none => simp only [View.bnd, Option.some.injEq, Prod.mk.injEq, and_true] at hb; exact .inl ⟨rfl, hb.symm⟩
  | some y => exact .inr ⟨y, rfl, rv_int (pc_ok' hV h (ev_ok hV h y) hb) hl⟩
/-- The bounds of a slice expression. -/
theorem run_sliceBounds (isS : Bool) (n cap : Nat) (hnc : n ≤ cap) {lo hi : Option Operand} {l r : AV} (hl : l.isInt) (hr : r.isInt) (h0 : 0 ≤ l.num) (h1 : l.num ≤ r.num) (h2 : r.num ≤ n)
    (hlo : (lo = none ∧ l.num = 0) ∨ ∃ y, lo = some y ∧ a.eval y = .int l.kind l.num) (hhi : (hi = none ∧ r.num = n) ∨ ∃ y, hi = some y ∧ a.eval y = .int r.kind r.num) :
    (Instr.sliceBounds isS n cap (lo.map a.eval) (hi.map a.eval) none).run P w = .ok (l.num.toNat, r.num.toNat, cap) w := by
  have hrc : r.num ≤ cap := by omega
  have e1 : ∀ y c, a.eval y = .int r.kind r.num → (Instr.sliceBound (a.eval y) cap c).run P w = .ok r.num.toNat w := fun y c e => run_sliceBound e (by omega) hrc c
  have e2 : ∀ y c, a.eval y = .int l.kind l.num → (Instr.sliceBound (a.eval y) r.num.toNat c).run P w = .ok l.num.toNat w := fun y c e => run_sliceBound e h0 (by omega) c
  rcases hlo with ⟨rfl, z1⟩ | ⟨y, rfl, ey⟩
  · rcases hhi with ⟨rfl, z2⟩ | ⟨z, rfl, ez⟩
    · simp [Instr.sliceBounds, z1, z2]
    · simp [Instr.sliceBounds, e1 z _ ez, z1]
  · rcases hhi with ⟨rfl, z2⟩ | ⟨z, rfl, ez⟩
    · have := fun c => e2 y c ey
      rw [z2] at this
      simp only [Int.toNat_natCast] at this
      simp [Instr.sliceBounds, z2, this]
    · simp [Instr.sliceBounds, e1 z _ ez, e2 y _ ey]
theorem rv_sub {ok : Nat → Prop} {x : AV} {A : Option Addr} {n c s : Nat} (h : RV w ok x (.slice A n c)) (hx : x.isSl s) (l r : Nat) (hlr : l ≤ r) (hr : r ≤ x.els.length) :
    RV w ok (.sl s ((x.els.take r).drop l)) (.slice (if c = l then A else A.map (·.add (l * s))) (r - l) (c - l)) := by
  rw [hx] at h
  cases h with
  | sl _ _ _ _ _ us hn hnc hc hs hA hone hu =>
    have hlen : ((x.els.take r).drop l).length = r - l := by simp; omega
    have hg : ∀ i j, i < r - l → gt2 ((x.els.take r).drop l) i j = gt2 x.els (l + i) j := fun i j hi => by
      unfold gt2
      simp only [List.getD_eq_getElem?_getD, List.getElem?_drop, List.getElem?_take]
      rw [if_pos (by omega)]
    refine .sl s _ _ (r - l) (c - l) (fun i j => us (l + i) j) hlen (by omega) (by unfold maxLen at *; omega) (fun y hy => hs y (List.mem_of_mem_take (List.mem_of_mem_drop hy))) (fun h0 => ?_) (fun i j hi hj => hone (l + i) j (by omega) hj) (fun i j hi hj => ?_)
    · obtain ⟨b, off, rfl, hok, hlt, hcell⟩ := hA (by omega)
      rw [if_neg (by omega)]
      refine ⟨b, off + l * s, ?_, hok, hlt, fun i j hi hj => ?_⟩
      · simp only [Option.map_some, Addr.add]
        by_cases h0 : l * s = 0
        · simp [h0]
        · simp [h0]
      · rw [← hcell (l + i) j (by omega) hj]
        congr 2
        rw [Nat.add_mul]; omega
    · rw [hg i j hi]; exact hu (l + i) j (by omega) hj
theorem rv_nil (s : Nat) (ok : Nat → Prop) : RV w ok (.sl s []) (.slice none 0 0) :=
  .sl s [] none 0 0 (fun _ _ => undef) rfl (Nat.le_refl _) (by unfold maxLen; omega) (by simp) (fun h => absurd h (by omega)) (fun i j hi => absurd hi (by omega)) (fun i j hi => absurd hi (by omega))
theorem asSl_ok (hV : VOk V tm blk) (h : HR base w0 ok0 isd tm blk ρ a w) {d : DE} {v : Value} (hd : RD w (okF base ok0 blk ρ) ρ blk isd d v) {s : Nat} {x : AV} {obs : List Prop} (hs : V.asSl s d = some (x, obs)) (hobs : ∀ p ∈ obs, p) :
    x.isSl s ∧ ∃ r : List Nat, RV w (okR (okF base ok0 blk ρ) ρ r) x v ∧ (r = [] ∨ ∃ b n e, d = .row b n ∧ r = [b] ∧ blk b = .row e s n x ∧ v = ρ b) := by
  cases d with
  | v y =>
    simp only [View.asSl, Option.some.injEq, Prod.mk.injEq] at hs
    obtain ⟨rfl, rfl⟩ := hs
    cases hd with | v _ _ hh => exact ⟨hobs _ (by simp), [], hh.mono fun g hg _ => ⟨.inl hg, rfl⟩, .inl rfl⟩
  | nil =>
    simp only [View.asSl, Option.some.injEq, Prod.mk.injEq] at hs
    obtain ⟨rfl, rfl⟩ := hs
    cases hd
    exact ⟨rfl, [], rv_nil s _, .inl rfl⟩
  | row b n =>
    simp only [View.asSl] at hs
    cases hd with
    | row _ _ _ hn _ hst =>
      have hb := h.blks b
      rcases hV.b b with e | e
      · rw [e] at hs
        cases hk : blk b with
        | row e' s' m y =>
          rw [hk] at hs hb hst
          simp only at hs
          split at hs
          · rename_i hmn
            obtain ⟨rfl, rfl⟩ := hmn
            simp only [Option.some.injEq, Prod.mk.injEq] at hs
            obtain ⟨rfl, rfl⟩ := hs
            have hv := hst rfl
            subst hv
            obtain ⟨L, xs, e1, _⟩ := hb.2
            exact ⟨by rw [e1]; rfl, [b], hb.2.rv (fun g hg _ => .inl hg) (fun g hg => .inr ⟨b, by simp, hb.2.blkNo_eq ▸ hg⟩), .inr ⟨b, m, e', rfl, rfl, hk, rfl⟩⟩
          · cases hs
        | fz m y =>
          rw [hk] at hs hb hst
          simp only at hs
          split at hs
          · rename_i hmn
            subst hmn
            simp only [Option.some.injEq, Prod.mk.injEq] at hs
            obtain ⟨rfl, rfl⟩ := hs
            have hv := hst rfl
            subst hv
            exact ⟨hobs _ (by simp), [], hb.2.1.mono fun g hg _ => ⟨.inl hg, rfl⟩, .inl rfl⟩
          · cases hs
        | dead => rw [hk] at hs; cases hs
        | cells t cs => rw [hk] at hs; cases hs
        | sv ds vs => rw [hk] at hs; cases hs
      · rw [e] at hs; cases hs
  | _ => simp only [View.asSl] at hs; cases hs
theorem op_len {ts : Array TypeId} {xs : Array Operand} (ho : o.op = .call { callee := .builtin .len, args := xs, argTypes := ts }) (hV : VOk V tm blk) (h : HR base w0 ok0 isd tm blk ρ a w) {δ : Delta} (hv : Valid P Γ o st V δ) : Goes P base w0 ok0 isd tm blk st a w o δ := by
  simp only [Valid, opD, ho] at hv
  split at hv
  · rename_i x t h1 h2
    obtain rfl : xs = #[x] := by cases xs; simp_all
    obtain rfl : ts = #[t] := by cases ts; simp_all
    have hx := ev_ok hV h x
    unfold lenD at hv
    split at hv
    · rename_i ht
      split at hv
      · rename_i b hb
        obtain ⟨h1, rfl⟩ := hv.det1
        have r1 := rv_str (pc_ok' hV h hx hb) h1
        exact goes_val h (by simp [execOp, ho, resolve, invoke, builtin, Builtin.len_, run_underlying ht, r1]; rfl) (.v _ _ (.lit _))
      · exact hv.elim
    · rename_i e ht
      split at hv
      · rename_i he
        obtain rfl := hv.pure1
        rw [he] at hx
        generalize hu : a.eval x = u at hx
        cases hx
        exact goes_val h (by simp [execOp, ho, resolve, invoke, builtin, Builtin.len_, run_underlying ht, hu, goInt]) (.c _)
      · split at hv
        · rename_i y obs hy
          obtain ⟨hobs, rfl⟩ := hv
          obtain ⟨h3, r, h4, _⟩ := asSl_ok hV h hx hy hobs
          obtain ⟨A, c, e1, _⟩ := rv_sl h4 h3
          exact goes_val h (by simp [execOp, ho, resolve, invoke, builtin, Builtin.len_, run_underlying ht, e1, goInt]) (.v _ _ (.lit _))
        · exact hv.elim
    · rename_i n e ht
      obtain rfl := hv.pure1
      exact goes_val h (by simp [execOp, ho, resolve, invoke, builtin, Builtin.len_, run_underlying ht, goInt]) (.c _)
    · exact hv.elim
  · exact hv.elim
theorem op_minmax {b : Builtin} (hb : b = .max ∨ b = .min) {ts : Array TypeId} {xs : Array Operand} (ho : o.op = .call { callee := .builtin b, args := xs, argTypes := ts }) (hV : VOk V tm blk) (h : HR base w0 ok0 isd tm blk ρ a w) {δ : Delta} (hv : Valid P Γ o st V δ) : Goes P base w0 ok0 isd tm blk st a w o δ := by
  rcases hb with rfl | rfl
  all_goals
    simp only [Valid, opD, ho] at hv
    split at hv
  all_goals first | exact hv.elim | skip
  · rename_i x y h1
    obtain rfl : xs = #[x, y] := by cases xs; simp_all
    split at hv
    · rename_i d e h3 h4
      obtain ⟨i1, i2, rfl⟩ := hv.det2
      have r1 := rv_int (pc_ok' hV h (ev_ok hV h x) h3) i1
      have r2 := rv_int (pc_ok' hV h (ev_ok hV h y) h4) i2
      exact goes_val h (by simp [execOp, ho, resolve, invoke, builtin, Builtin.max_, Builtin.max2, r1, r2]) (.v _ _ (.lit _))
    · exact hv.elim
  · rename_i x y z h1
    obtain rfl : xs = #[x, y, z] := by cases xs; simp_all
    split at hv
    · rename_i d e f h3 h4 h5
      obtain ⟨i1, i2, i3, rfl⟩ := hv.det3
      have r1 := rv_int (pc_ok' hV h (ev_ok hV h x) h3) i1
      have r2 := rv_int (pc_ok' hV h (ev_ok hV h y) h4) i2
      have r3 := rv_int (pc_ok' hV h (ev_ok hV h z) h5) i3
      exact goes_val h (by simp [execOp, ho, resolve, invoke, builtin, Builtin.max_, Builtin.max2, r1, r2, r3]; exact ⟨rfl, rfl⟩) (.v _ _ (.lit _))
    · exact hv.elim
  · rename_i x y h1
    obtain rfl : xs = #[x, y] := by cases xs; simp_all
    split at hv
    · rename_i d e h3 h4
      obtain ⟨i1, i2, rfl⟩ := hv.det2
      have r1 := rv_int (pc_ok' hV h (ev_ok hV h x) h3) i1
      have r2 := rv_int (pc_ok' hV h (ev_ok hV h y) h4) i2
      exact goes_val h (by simp [execOp, ho, resolve, invoke, builtin, Builtin.min_, Builtin.min2, r1, r2]) (.v _ _ (.lit _))
    · exact hv.elim
theorem op_extract {x : Operand} {i : Nat} (ho : o.op = .extract x i) (hV : VOk V tm blk) (h : HR base w0 ok0 isd tm blk ρ a w) {δ : Delta} (hv : Valid P Γ o st V δ) : Goes P base w0 ok0 isd tm blk st a w o δ := by
  have hx := ev_ok hV h x
  simp only [Valid, opD, ho] at hv
  split at hv
  · rename_i ds he
    rw [he] at hx
    split at hv
    · rename_i d hd
      obtain rfl := hv.pure1
      generalize hu : a.eval x = u at hx
      cases hx with
      | tup _ vs hl hh =>
        have hi : i < ds.length := by
          rcases Nat.lt_or_ge i ds.length with h1 | h1
          · exact h1
          · rw [List.getElem?_eq_none h1] at hd; cases hd
        have := hh i hi
        rw [List.getD_eq_getElem?_getD, hd] at this
        have hiv : i < vs.size := by omega
        refine goes_val h (v := vs[i]) (by simp [execOp, ho, hu, Instr.extract, hiv]) ?_
        simpa [hiv] using this
    · exact hv.elim
  · rename_i y he
    rw [he] at hx
    obtain ⟨⟨m, ⟨cs, rfl, rfl⟩, him⟩, rfl⟩ := hv.det1
    generalize hu : a.eval x = u at hx
    cases hx with
    | v _ _ hr =>
      cases hr with
      | tup _ vs hl hh =>
        have := hh i him
        have hiv : i < vs.size := by omega
        refine goes_val h (v := vs[i]) (by simp [execOp, ho, hu, Instr.extract, hiv]) (.v _ _ ?_)
        simpa [hiv, AV.prj] using this
  · exact hv.elim
theorem fieldOf_spec {t : TypeId} {f : Nat} {fl : Field} (h : fieldOf P t f = some fl) : ∃ fs, P.underlying t = some (.struct fs) ∧ fs[f]? = some fl := by
  unfold fieldOf at h
  split at h
  · rename_i fs ht; exact ⟨fs, ht, h⟩
  · cases h
theorem sizeOf_run {t : TypeId} (h : P.cellsOf t ≠ 0) : (sizeOf t).run P w = .ok (P.cellsOf t) w := by
  unfold Program.cellsOf at *
  cases hi : P.info? t with
  | none => rw [hi] at h; exact absurd rfl h
  | some i => simp [sizeOf, typeInfo, hi]
theorem op_fieldAddr {t : TypeId} {x : Operand} {f : Nat} (ho : o.op = .fieldAddr t x f) (hV : VOk V tm blk) (h : HR base w0 ok0 isd tm blk ρ a w) {δ : Delta} (hv : Valid P Γ o st V δ) : Goes P base w0 ok0 isd tm blk st a w o δ := by
  have hx := ev_ok hV h x
  simp only [Valid, opD, ho] at hv
  split at hv
  · exact hv.elim
  · rename_i fl hf
    obtain ⟨fs, ht, hfl⟩ := fieldOf_spec hf
    split at hv
    · exact hv.elim
    · rename_i hsz
      have hrun : ∀ g k, a.eval x = .pointer (some ⟨g, k, none⟩) → (execOp a.eval o).run P w = .ok (.value (.pointer (some ⟨g, k + fl.offset, none⟩))) w := fun g k e => by
        simp [execOp, ho, Instr.fieldAt, run_underlying ht, hfl, e, Instr.sureAddr, fieldPlace, sizeOf_run (w := w) hsz, hsz, Addr.add]
        try (split <;> simp_all)
      split at hv
      · rename_i b k he
        obtain rfl := hv.pure1
        rw [he] at hx
        generalize hu : a.eval x = u at hx hrun
        cases hx with
        | ptr _ _ g hg => exact goes_val h (hrun g k rfl) (.ptr b _ g hg)
      · rename_i b n s i j he
        split at hv
        · rename_i hs
          obtain rfl := hv.pure1
          rw [he] at hx
          generalize hu : a.eval x = u at hx hrun
          cases hx with
          | rp _ _ _ _ _ _ hn h1' hh =>
            have hcur := hV.stamp (by simpa using hs)
            obtain ⟨g, m, c, e1, rfl⟩ := hh hcur
            have := hrun g _ rfl
            rw [Nat.add_assoc] at this
            exact goes_val h this (.rp b n s i _ _ hn h1' fun _ => ⟨g, m, c, e1, rfl⟩)
        · exact hv.elim
      · rename_i y i s j he
        obtain rfl := hv.pure1
        rw [he] at hx
        generalize hu : a.eval x = u at hx hrun
        cases hx with
        | ip _ _ _ _ g off m c h1 h2 h3 =>
          have := hrun g _ rfl
          rw [Nat.add_assoc] at this
          exact goes_val h this (.ip y i s _ g off m c h1 h2 h3)
      · exact hv.elim
end
end Go.Proofs.Ytfdpbfdhcngfgaa
