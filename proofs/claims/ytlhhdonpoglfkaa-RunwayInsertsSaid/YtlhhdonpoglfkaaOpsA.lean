/- Each operation does what the run says: append. -/
import Derived.Test.YtlhhdonpoglfkaaOps9
namespace Go.Proofs.Ytlhhdonpoglfkaa
open Go.RowKit
set_option linter.unusedVariables false
set_option linter.unusedSimpArgs false
section
variable {P : Program} {base : Nat} {w0 : World} {ok0 isd : Nat → Prop} {tm : List DE} {blk : Nat → DB} {ρ : Nat → Value} {a : Act} {w : World} {V : View} {st : Nat} {o : Oper} {Γ : FuncId → Option Ca}
/-- A slice whose elements are read. -/
def Src (w : World) (okc : Nat → Prop) (s : Nat) (y : AV) (u : Value) : Prop :=
  ∃ (A : Option Addr) (c : Nat) (us : Nat → Nat → Value), u = .slice A y.els.length c ∧ (∀ z ∈ y.els, z.length = s) ∧ y.els.length ≤ maxLen ∧ (0 < y.els.length → ∃ b off, A = some ⟨b, off, none⟩ ∧ ∀ i j, i < y.els.length → j < s → w.cell? ⟨b, off + i * s + j, none⟩ = some (us i j)) ∧
    (∀ i j, i < y.els.length → j < s → (us i j).oneCell' = true) ∧ ∀ i j, i < y.els.length → j < s → RV w okc (gt2 y.els i j) (us i j)
theorem src_rv {okc : Nat → Prop} {s : Nat} {y : AV} {u : Value} (h : RV w okc y u) (hy : y.isSl s) : Src w okc s y u := by
  rw [hy] at h
  cases h with
  | sl _ _ A n c us hn hnc hc hs hA hone hu =>
    subst hn
    exact ⟨A, c, us, rfl, hs, by omega, fun h0 => by obtain ⟨b, off, e, _, _, hcell⟩ := hA h0; exact ⟨b, off, e, hcell⟩, hone, hu⟩
theorem src_row {B e s : Nat} {okc : Nat → Prop} {x : AV} {v : Value} (h : RRow w B e s okc x v) : Src w okc s x v := by
  have h' := h
  obtain ⟨L, xs, rfl, hs, hL, ho, hone, hv⟩ := h'
  rcases ho.2 with ⟨rfl, h0⟩ | ⟨g, cap, cur, rfl, hb, hg, hn, hm, hsz, htk⟩
  · have : (AV.sl s L).els.length = 0 := h0
    exact ⟨none, 0, fun _ _ => undef, by rw [this], hL, by rw [this]; unfold maxLen; omega, fun h => absurd h (by rw [this]; omega), fun i j hi => absurd hi (by rw [this]; omega), fun i j hi => absurd hi (by rw [this]; omega)⟩
  · have hget : ∀ i j, i < L.length → j < s → i * s + j < xs.length := fun i j hi hj => by
      rw [ho.1]
      have : (i + 1) * s ≤ L.length * s := Nat.mul_le_mul_right _ hi
      rw [Nat.add_mul] at this; omega
    refine ⟨_, cap, fun i j => xs.getD (i * s + j) undef, rfl, hL, by show L.length ≤ _; omega, fun _ => ⟨g, 0, rfl, fun i j hi hj => ?_⟩, fun i j hi hj => ?_, hv⟩
    · have hl := hget i j hi hj
      rw [cell_of_row w g _ cur e (0, 0) hg]
      have : (cur.toList.take (L.length * s))[i * s + j]? = xs[i * s + j]? := by rw [htk]
      rw [List.getElem?_take, if_pos (by rw [← ho.1]; exact hl)] at this
      simp only [Nat.zero_add]
      rw [← Array.getElem?_toList, this, List.getD_eq_getElem?_getD, List.getElem?_eq_getElem hl]
      rfl
    · have hl := hget i j hi hj
      show (xs.getD (i * s + j) undef).oneCell' = true
      rw [List.getD_eq_getElem?_getD, List.getElem?_eq_getElem hl]
      exact hone _ (List.getElem_mem hl)
/-- What an append of a slice gives. -/
theorem run_append_av {B t ty e s : Nat} {inf : TypeInfo} {z : Value} (ht : P.underlying t = some (.slice e)) (hi : P.info? e = some inf) (hz : inf.zero = some z) (hsize : inf.size = s) (hzs : z.cells.size = s) (hs : 0 < s) {okc : Nat → Prop} {x y : AV} {v u : Value}
    (hx : RRow w B e s okc x v) (hy : Src w okc s y u) (hB : B ≤ w.heap.size) (hby : 0 < inf.bytes) (hroom : AV.room x y inf.bytes) :
    ∃ v' w', (Builtin.append_ #[t, t] ty #[v, u]).run P w = .ok v' w' ∧ w.grownBy w' v.ownBlock ∧ (∀ g, v'.ownBlock = some g → v.ownBlock = some g ∨ w.heap.size ≤ g) ∧
      ∀ ok' : Nat → Prop, (∀ g, okc g → g < w.heap.size → ok' g ∧ w'.heap[g]? = w.heap[g]?) → RRow w' B e s ok' (AV.app s x y) v' := by
  obtain ⟨L, xs, rfl, _, hL, ho, hone, hv⟩ := hx
  obtain ⟨A, c, us, rfl, hyL, hym, hA, hyo, hyv⟩ := hy
  generalize hm : y.els.length = m at *
  have hrm : (L.length + m) * inf.bytes ≤ 140737488355328 := by rw [← hm]; exact hroom
  have hle : L.length + m ≤ (L.length + m) * inf.bytes := Nat.le_mul_of_pos_right _ hby
  have h63 : L.length + m ≤ maxLen := by unfold maxLen; omega
  rcases A with _ | ad
  · have hm0 : m = 0 := by
      rcases Nat.eq_zero_or_pos m with q | q
      · exact q
      · obtain ⟨b, off, e1, _⟩ := hA q; cases e1
    subst hm0
    have hye : y.els = [] := List.eq_nil_of_length_eq_zero hm
    refine ⟨v, w, ?_, ⟨rfl, rfl, rfl, Nat.le_refl _, fun _ _ _ => rfl⟩, fun g hg => .inl hg, fun ok' hk => ?_⟩
    · rcases ho.2 with ⟨rfl, h0⟩ | ⟨g, cap, cur, rfl, _, _, hnc, _⟩
      · simp [Builtin.append_, run_underlying ht, sizeOf, typeInfo, hi, Builtin.lenOf, Builtin.firstCells]
      · simp [Builtin.append_, run_underlying ht, sizeOf, typeInfo, hi, Builtin.lenOf, Builtin.firstCells, hnc, storeCells]
    · refine ⟨L, xs, by unfold AV.app; rw [hye, List.append_nil]; rfl, hs, hL, ho, hone, fun i j hi hj => (hv i j hi hj).mono fun g hg hlt => hk g hg hlt⟩
  · have hidx : ∀ i j, i < m → j < s → i * s + j < m * s := fun i j hi hj => by
      have : (i + 1) * s ≤ m * s := Nat.mul_le_mul_right _ hi
      rw [Nat.add_mul] at this; omega
    have hdiv : ∀ k, k < m * s → k / s < m ∧ k % s < s ∧ k / s * s + k % s = k := fun k hk =>
      ⟨Nat.div_lt_of_lt_mul (by rw [Nat.mul_comm]; exact hk), Nat.mod_lt _ hs, by rw [Nat.mul_comm]; exact Nat.div_add_mod k s⟩
    obtain ⟨v', w', hrun, h2, h3, _, h5⟩ := run_append_own_at (P := P) w B t ty e inf z s inf.bytes ht hi hz hsize rfl hzs hs v L.length xs ho ad m c ((List.range (m * s)).map fun k => us (k / s) (k % s)) (by simp) (fun j u hu => by
        rw [List.getElem?_map] at hu
        by_cases hj : j < m * s
        · obtain ⟨q1, q2, q3⟩ := hdiv j hj
          rw [List.getElem?_range hj] at hu
          simp only [Option.map_some, Option.some.injEq] at hu
          obtain ⟨b, off, e1, hcell⟩ := hA (Nat.lt_of_le_of_lt (Nat.zero_le _) q1)
          injection e1 with e1
          subst e1
          have : (⟨b, off, none⟩ : Addr).add j = ⟨b, off + j, none⟩ := by unfold Addr.add; split <;> simp_all
          rw [this, ← hu, ← hcell _ _ q1 q2]
          congr 2; omega
        · rw [List.getElem?_eq_none (by simp; omega)] at hu; cases hu) (fun u hu => by
        rw [List.mem_map] at hu
        obtain ⟨k, hk, rfl⟩ := hu
        obtain ⟨q1, q2, _⟩ := hdiv k (by simpa using hk)
        exact hyo _ _ q1 q2) h63 hrm hB
    refine ⟨v', w', hrun, h3, fun g hg => ?_, fun ok' hk => ?_⟩
    · rcases h5 with q | q
      · left; rw [← q]; exact hg
      · right; rw [q] at hg; injection hg with hg; omega
    · refine ⟨L ++ y.els, xs ++ (List.range (m * s)).map fun k => us (k / s) (k % s), rfl, hs, fun q hq => ?_, by rw [List.length_append, hm]; exact h2, fun q hq => ?_, fun i j hi hj => ?_⟩
      · rcases List.mem_append.1 hq with q1 | q1
        · exact hL q q1
        · exact hyL q q1
      · rcases List.mem_append.1 hq with q1 | q1
        · exact hone q q1
        · rw [List.mem_map] at q1
          obtain ⟨k, hk2, rfl⟩ := q1
          obtain ⟨q1, q2, _⟩ := hdiv k (by simpa using hk2)
          exact hyo _ _ q1 q2
      · rw [List.length_append, hm] at hi
        by_cases hil : i < L.length
        · have e1 : gt2 (L ++ y.els) i j = gt2 L i j := by unfold gt2; simp [List.getElem?_append_left hil]
          have hlt : i * s + j < xs.length := by
            rw [ho.1]
            have : (i + 1) * s ≤ L.length * s := Nat.mul_le_mul_right _ hil
            rw [Nat.add_mul] at this; omega
          have e2 : (xs ++ (List.range (m * s)).map fun k => us (k / s) (k % s)).getD (i * s + j) undef = xs.getD (i * s + j) undef := by
            simp [List.getElem?_append_left hlt]
          rw [e1, e2]
          exact (hv i j hil hj).mono fun g hg hlt => hk g hg hlt
        · have hge : L.length ≤ i := by omega
          have him : i - L.length < m := by omega
          have e1 : gt2 (L ++ y.els) i j = gt2 y.els (i - L.length) j := by unfold gt2; simp [List.getElem?_append_right hge]
          have e3 : i * s + j - xs.length = (i - L.length) * s + j := by rw [ho.1, Nat.sub_mul]; have : L.length * s ≤ i * s := Nat.mul_le_mul_right _ hge; omega
          have hge2 : xs.length ≤ i * s + j := by rw [ho.1]; have : L.length * s ≤ i * s := Nat.mul_le_mul_right _ hge; omega
          have hlt := hidx (i - L.length) j him hj
          have e4 : ((i - L.length) * s + j) / s = i - L.length := by rw [Nat.add_comm, Nat.add_mul_div_right _ _ hs, Nat.div_eq_of_lt hj]; omega
          have e5 : ((i - L.length) * s + j) % s = j := by rw [Nat.add_comm, Nat.add_mul_mod_self_right, Nat.mod_eq_of_lt hj]
          have e2 : (xs ++ (List.range (m * s)).map fun k => us (k / s) (k % s)).getD (i * s + j) undef = us (i - L.length) j := by
            rw [List.getD_eq_getElem?_getD, List.getElem?_append_right hge2, e3, List.getElem?_map, List.getElem?_range hlt]
            simp [e4, e5]
          rw [e1, e2]
          exact (hyv _ j him hj).mono fun g hg hlt => hk g hg hlt
theorem asSl_src (hV : VOk V tm blk) (h : HR base w0 ok0 isd tm blk ρ a w) {d : DE} {v : Value} (hd : RD w (okF base ok0 blk ρ) ρ blk isd d v) {s : Nat} {x : AV} {obs : List Prop} (hs : V.asSl s d = some (x, obs)) (hobs : ∀ p ∈ obs, p) : Src w (okF base ok0 blk ρ) s x v := by
  obtain ⟨h1, r, h2, h3⟩ := asSl_ok hV h hd hs hobs
  rcases h3 with rfl | ⟨b, n, e, rfl, rfl, hk, rfl⟩
  · exact src_rv (rv_okR_nil h2) h1
  · exact src_row (h.row hk)
theorem op_append {t t' : TypeId} {x y : Operand} (ho : o.op = .call { callee := .builtin .append, args := #[x, y], argTypes := #[t, t'] }) (hV : VOk V tm blk) (h : HR base w0 ok0 isd tm blk ρ a w) (hst : ¬ isd st) {δ : Delta} (hv : Valid P Γ o st V δ) : Goes P base w0 ok0 isd tm blk st a w o δ := by
  have hx := ev_ok hV h x
  have hy := ev_ok hV h y
  simp only [Valid, opD, ho] at hv
  split at hv
  · rename_i htt
    subst htt
    unfold appendD at hv
    split at hv
    · exact hv.elim
    · rename_i e s by_ hsl
      obtain ⟨ht, rfl, rfl⟩ := slT_spec hsl
      split at hv
      · exact hv.elim
      · rename_i hcond
        have c0 : P.cellsOf e ≠ 0 := fun q => hcond (.inl q)
        have c1 : P.bytesOf e ≠ 0 := fun q => hcond (.inr (.inl q))
        have c2 : (zeroOf P e).map (·.length) = some (P.cellsOf e) := Classical.byContradiction fun q => hcond (.inr (.inr (.inr q)))
        obtain ⟨inf, z, hinf, hz, hzs⟩ : ∃ inf z, P.info? e = some inf ∧ inf.zero = some z ∧ z.cells.size = P.cellsOf e := by
          unfold zeroOf at c2
          cases hi : P.info? e with
          | none => rw [hi] at c2; cases c2
          | some inf =>
            rw [hi] at c2
            simp only [Option.bind_some] at c2
            cases hz : inf.zero with
            | none => rw [hz] at c2; cases c2
            | some z => rw [hz] at c2; exact ⟨inf, z, rfl, hz, by simpa using c2⟩
        have hsz : inf.size = P.cellsOf e := by unfold Program.cellsOf; rw [hinf]; rfl
        have hby : inf.bytes = P.bytesOf e := by unfold Program.bytesOf; rw [hinf]; rfl
        have hrun : ∀ v' w', (Builtin.append_ #[t, t] o.type #[a.eval x, a.eval y]).run P w = .ok v' w' → (execOp a.eval o).run P w = .ok (.value v') w' := fun v' w' q => by
          simp [execOp, ho, resolve, invoke, builtin, q]
        split at hv
        · exact hv.elim
        · rename_i yv obs hyv
          split at hv
          · rename_i he
            obtain ⟨hobs, rfl⟩ := hv
            rw [he] at hx
            have hsrc := asSl_src hV h hy hyv (fun p hp => hobs p (List.mem_append_left _ hp))
            have hroom : AV.room (AV.mk (P.cellsOf e) []) yv (P.bytesOf e) := hobs _ (List.mem_append_right _ (by simp))
            generalize hu2 : a.eval x = u at hx hrun
            cases hx
            obtain ⟨v', w', r1, r2, r3, r4⟩ := run_append_av (P := P) (ty := o.type) ht hinf hz hsz hzs (by omega) (RRow.nil w base e (P.cellsOf e) (by omega) (okF base ok0 blk ρ)) hsrc h.low (by omega) (by rw [hby]; exact hroom)
            have hnr := h.newRow (st := st) hst o.dst e (P.cellsOf e) (AV.app (P.cellsOf e) (AV.mk (P.cellsOf e) []) yv) v' w' r2 r4 (fun g hg => (r3 g hg).resolve_left (by simp [Value.ownBlock])) (.row st st) _ ⟨rfl, rfl⟩
            exact goes_run (hrun _ _ r1) hnr
          · rename_i b n he
            rw [he] at hx
            split at hv
            · rename_i e' s' m X hb
              split at hv
              · rename_i hc
                obtain ⟨rfl, rfl, rfl⟩ := hc
                obtain ⟨hobs, rfl⟩ := hv
                have hsrc := asSl_src hV h hy hyv (fun p hp => hobs p (List.mem_append_left _ hp))
                have hroom : AV.room X yv (P.bytesOf e') := hobs _ (List.mem_append_right _ (by simp))
                have hbk := hV.row hb
                generalize hu2 : a.eval x = u at hx hrun
                cases hx with
                | row _ _ _ hn h1' hs =>
                  have hv := hs (by rw [hbk]; rfl)
                  subst hv
                  obtain ⟨v', w', r1, r2, r3, r4⟩ := run_append_av (P := P) (ty := o.type) ht hinf hz hsz hzs (by omega) (h.row hbk) hsrc h.low (by omega) (by rw [hby]; exact hroom)
                  have hup := h.updRow (st := st) hbk st (.inr rfl) hst (AV.app (P.cellsOf e') X yv) v' (fun e => absurd (e ▸ hn) hst) w' r2 r4 r3 o.dst (.row b st) v' (.inr (.inr ⟨rfl, rfl⟩))
                  exact goes_run (hrun _ _ r1) hup
              · exact hv.elim
            · exact hv.elim
          · exact hv.elim
  · exact hv.elim
end
end Go.Proofs.Ytlhhdonpoglfkaa
