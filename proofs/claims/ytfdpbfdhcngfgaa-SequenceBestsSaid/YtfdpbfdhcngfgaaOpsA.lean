/- Each operation does what the run says: append. -/
import Derived.Test.YtfdpbfdhcngfgaaOps9
namespace Go.Proofs.Ytfdpbfdhcngfgaa
open Go.RowKit
set_option linter.unusedVariables false
set_option linter.unusedSimpArgs false
section
variable {P : Program} {base : Nat} {w0 : World} {ok0 isd : Nat → Prop} {tm : List DE} {blk : Nat → DB} {ρ : Nat → Value} {a : Act} {w : World} {V : View} {st : Nat} {o : Oper} {Γ : FuncId → Option Ca}
/-- A slice whose elements are read. -/
def Src (w : World) (okc : Nat → Prop) (s : Nat) (y : AV) (u : Value) : Prop :=
  ∃ (A : Option Addr) (c : Nat) (us : Nat → Nat → Value), u = .slice A y.els.length c ∧ (∀ z ∈ y.els, z.length = s) ∧ y.els.length ≤ maxLen ∧ (0 < y.els.length → ∃ b off, A = some ⟨b, off, none⟩ ∧ ∀ i j, i < y.els.length → j < s → w.cell? ⟨b, off + i * s + j, none⟩ = some (us i j)) ∧
    (∀ i j, i < y.els.length → j < s → (us i j).oneCell' = true) ∧ ∀ i j, i < y.els.length → j < s → RV w okc (gt2 y.els i j) (us i j)
theorem src_rv {okc : Nat → Prop} {s : Nat} {y : AV} {u : Value} (h : RV w okc y u) (hy : y.isSl s) : Src w okc s y u := by
  rw [hy] at h
  cases h with
  | sl _ _ A n c us hn hnc hc hs hA hone hu =>
    subst hn
    exact ⟨A, c, us, rfl, hs, by omega, fun h0 => by obtain ⟨b, off, e, _, _, hcell⟩ := hA h0; exact ⟨b, off, e, hcell⟩, hone, hu⟩
theorem src_row {B e s : Nat} {okc : Nat → Prop} {x : AV} {v : Value} (h : RRow w B e s okc x v) : Src w okc s x v := by
  have h' := h
  obtain ⟨L, xs, rfl, hs, hL, ho, hone, hv⟩ := h'
  rcases ho.2 with ⟨rfl, h0⟩ | ⟨g, cap, cur, rfl, hb, hg, hn, hm, hsz, htk⟩
  · have : (AV.sl s L).els.length = 0 := h0
    exact ⟨none, 0, fun _ _ => undef, by rw [this], hL, by rw [this]; unfold maxLen; omega, fun h => absurd h (by rw [this]; omega), fun i j hi => absurd hi (by rw [this]; omega), fun i j hi => absurd hi (by rw [this]; omega)⟩
  · have hget : ∀ i j, i < L.length → j < s → i * s + j < xs.length := fun i j hi hj => by
      rw [ho.1]
      have : (i + 1) * s ≤ L.length * s := Nat.mul_le_mul_right _ hi
      rw [Nat.add_mul] at this; omega
    refine ⟨_, cap, fun i j => xs.getD (i * s + j) undef, rfl, hL, by show L.length ≤ _; omega, fun _ => ⟨g, 0, rfl, fun i j hi hj => ?_⟩, fun i j hi hj => ?_, hv⟩
    · have hl := hget i j hi hj
      rw [cell_of_row w g _ cur e (0, 0) hg]
      have : (cur.toList.take (L.length * s))[i * s + j]? = xs[i * s + j]? := by rw [htk]
      rw [List.getElem?_take, if_pos (by rw [← ho.1]; exact hl)] at this
      simp only [Nat.zero_add]
      rw [← Array.getElem?_toList, this, List.getD_eq_getElem?_getD, List.getElem?_eq_getElem hl]
      rfl
    · have hl := hget i j hi hj
      show (xs.getD (i * s + j) undef).oneCell' = true
      rw [List.getD_eq_getElem?_getD, List.getElem?_eq_getElem hl]
      exact hone _ (List.getElem_mem hl)
/-- An append leaves the row as it was, as far as it went. -/
theorem append_old {B t ty e s : Nat} {inf : TypeInfo} {z : Value} (ht : P.underlying t = some (.slice e)) (hi : P.info? e = some inf) (hz : inf.zero = some z) (hsize : inf.size = s) {v : Value} {n : Nat} {xs : List Value} (ho : w.ownsRow B e s v n xs) {ad : Addr} {m c : Nat} {news : List Value} (hl : news.length = m * s) (hnews : ∀ j u, news[j]? = some u → w.cell? (ad.add j) = some u) (h1 : ∀ u ∈ news, u.oneCell' = true) (h63 : n + m ≤ maxLen) (hrm : (n + m) * inf.bytes ≤ 140737488355328) {v' : Value} {w' : World} (hrun : (Builtin.append_ #[t, t] ty #[v, .slice (some ad) m c]).run P w = .ok v' w') : w'.ownsRow B e s v n xs := by
  subst hsize
  refine ⟨ho.1, ?_⟩
  rcases ho.2 with q | ⟨g, cap, cur, rfl, hb, hg, hnc, hm, hsz, htk⟩
  · exact .inl q
  · right
    by_cases hroom : n + m ≤ cap
    · have hfit : n * inf.size + news.length ≤ cur.size := by rw [hl, hsz, ← Nat.add_mul]; exact Nat.mul_le_mul_right _ hroom
      have hr := run_append_room (P := P) w t ty e inf ht hi g n cap cur hg ad m c news hl hnews h1 hroom hfit
      rw [hrun] at hr
      injection hr with _ hr
      subst hr
      refine ⟨g, cap, _, rfl, hb, setRow_heap w g cur _ e _ hg, hnc, hm, ?_, ?_⟩
      · simp only [List.size_toArray, List.length_append, List.length_take, List.length_drop, Array.length_toList]
        omega
      · rw [htk, List.append_assoc]
        have : xs.length = n * inf.size := ho.1
        rw [← this]
        exact List.take_left
    · have holds : ∀ j u, xs[j]? = some u → w.cell? ((⟨g, 0, none⟩ : Addr).add j) = some u := ho.cells (g := g) rfl
      have hr := run_append_grow (P := P) (ty := ty) w t e inf z ht hi hz ⟨g, 0, none⟩ n cap xs ho.1 holds ad m c news hl hnews (by omega) (by unfold maxLen at h63; omega) (growslice_fits (by omega) hrm)
      rw [hrun] at hr
      injection hr with _ hr
      subst hr
      exact ⟨g, cap, cur, rfl, hb, (heap_alloc_old w.drew _ (Array.getElem?_eq_some_iff.1 hg).1).trans hg, hnc, hm, hsz, htk⟩
/-- What an append of a slice gives. -/
theorem run_append_av {B t ty e s : Nat} {inf : TypeInfo} {z : Value} (ht : P.underlying t = some (.slice e)) (hi : P.info? e = some inf) (hz : inf.zero = some z) (hsize : inf.size = s) (hzs : z.cells.size = s) (hs : 0 < s) {okc : Nat → Prop} {x y : AV} {v u : Value}
    (hx : RRow w B e s okc x v) (hy : Src w okc s y u) (hB : B ≤ w.heap.size) (hby : 0 < inf.bytes) (hroom : AV.room x y inf.bytes) :
    ∃ v' w', (Builtin.append_ #[t, t] ty #[v, u]).run P w = .ok v' w' ∧ w.grownBy w' v.ownBlock ∧ (∀ g, v'.ownBlock = some g → v.ownBlock = some g ∨ w.heap.size ≤ g) ∧
      ∀ ok' : Nat → Prop, (∀ g, okc g → g < w.heap.size → ok' g ∧ w'.heap[g]? = w.heap[g]?) → RRow w' B e s ok' (AV.app s x y) v' ∧ RRow w' B e s ok' x v := by
  obtain ⟨L, xs, rfl, _, hL, ho, hone, hv⟩ := hx
  obtain ⟨A, c, us, rfl, hyL, hym, hA, hyo, hyv⟩ := hy
  generalize hm : y.els.length = m at *
  have hrm : (L.length + m) * inf.bytes ≤ 140737488355328 := by rw [← hm]; exact hroom
  have hle : L.length + m ≤ (L.length + m) * inf.bytes := Nat.le_mul_of_pos_right _ hby
  have h63 : L.length + m ≤ maxLen := by unfold maxLen; omega
  rcases A with _ | ad
  · have hm0 : m = 0 := by
      rcases Nat.eq_zero_or_pos m with q | q
      · exact q
      · obtain ⟨b, off, e1, _⟩ := hA q; cases e1
    subst hm0
    have hye : y.els = [] := List.eq_nil_of_length_eq_zero hm
    refine ⟨v, w, ?_, ⟨rfl, rfl, rfl, Nat.le_refl _, fun _ _ _ => rfl⟩, fun g hg => .inl hg, fun ok' hk => ?_⟩
    · rcases ho.2 with ⟨rfl, h0⟩ | ⟨g, cap, cur, rfl, _, _, hnc, _⟩
      · simp [Builtin.append_, run_underlying ht, sizeOf, typeInfo, hi, Builtin.lenOf, Builtin.firstCells]
      · simp [Builtin.append_, run_underlying ht, sizeOf, typeInfo, hi, Builtin.lenOf, Builtin.firstCells, hnc, storeCells]
    · exact ⟨⟨L, xs, by unfold AV.app; rw [hye, List.append_nil]; rfl, hs, hL, ho, hone, fun i j hi hj => (hv i j hi hj).mono fun g hg hlt => hk g hg hlt⟩, ⟨L, xs, rfl, hs, hL, ho, hone, fun i j hi hj => (hv i j hi hj).mono fun g hg hlt => hk g hg hlt⟩⟩
  · have hidx : ∀ i j, i < m → j < s → i * s + j < m * s := fun i j hi hj => by
      have : (i + 1) * s ≤ m * s := Nat.mul_le_mul_right _ hi
      rw [Nat.add_mul] at this; omega
    have hdiv : ∀ k, k < m * s → k / s < m ∧ k % s < s ∧ k / s * s + k % s = k := fun k hk =>
      ⟨Nat.div_lt_of_lt_mul (by rw [Nat.mul_comm]; exact hk), Nat.mod_lt _ hs, by rw [Nat.mul_comm]; exact Nat.div_add_mod k s⟩
    have hcl : ∀ j u, ((List.range (m * s)).map fun k => us (k / s) (k % s))[j]? = some u → w.cell? (ad.add j) = some u := (fun j u hu => by
        rw [List.getElem?_map] at hu
        by_cases hj : j < m * s
        · obtain ⟨q1, q2, q3⟩ := hdiv j hj
          rw [List.getElem?_range hj] at hu
          simp only [Option.map_some, Option.some.injEq] at hu
          obtain ⟨b, off, e1, hcell⟩ := hA (Nat.lt_of_le_of_lt (Nat.zero_le _) q1)
          injection e1 with e1
          subst e1
          have : (⟨b, off, none⟩ : Addr).add j = ⟨b, off + j, none⟩ := by unfold Addr.add; split <;> simp_all
          rw [this, ← hu, ← hcell _ _ q1 q2]
          congr 2; omega
        · rw [List.getElem?_eq_none (by simp; omega)] at hu; cases hu)
    have hc1 : ∀ u ∈ (List.range (m * s)).map fun k => us (k / s) (k % s), u.oneCell' = true := (fun u hu => by
        rw [List.mem_map] at hu
        obtain ⟨k, hk, rfl⟩ := hu
        obtain ⟨q1, q2, _⟩ := hdiv k (by simpa using hk)
        exact hyo _ _ q1 q2)
    obtain ⟨v', w', hrun, h2, h3, _, h5⟩ := run_append_own_at (P := P) w B t ty e inf z s inf.bytes ht hi hz hsize rfl hzs hs v L.length xs ho ad m c ((List.range (m * s)).map fun k => us (k / s) (k % s)) (by simp) hcl hc1 h63 hrm hB
    have hold := append_old (P := P) ht hi hz hsize ho (by simp) hcl hc1 h63 hrm hrun
    refine ⟨v', w', hrun, h3, fun g hg => ?_, fun ok' hk => ?_⟩
    · rcases h5 with q | q
      · left; rw [← q]; exact hg
      · right; rw [q] at hg; injection hg with hg; omega
    · refine ⟨?_, ⟨L, xs, rfl, hs, hL, hold, hone, fun i j hi hj => (hv i j hi hj).mono fun g hg hlt => hk g hg hlt⟩⟩
      refine ⟨L ++ y.els, xs ++ (List.range (m * s)).map fun k => us (k / s) (k % s), rfl, hs, fun q hq => ?_, by rw [List.length_append, hm]; exact h2, fun q hq => ?_, fun i j hi hj => ?_⟩
      · rcases List.mem_append.1 hq with q1 | q1
        · exact hL q q1
        · exact hyL q q1
      · rcases List.mem_append.1 hq with q1 | q1
        · exact hone q q1
        · rw [List.mem_map] at q1
          obtain ⟨k, hk2, rfl⟩ := q1
          obtain ⟨q1, q2, _⟩ := hdiv k (by simpa using hk2)
          exact hyo _ _ q1 q2
      · rw [List.length_append, hm] at hi
        by_cases hil : i < L.length
        · have e1 : gt2 (L ++ y.els) i j = gt2 L i j := by unfold gt2; simp [List.getElem?_append_left hil]
          have hlt : i * s + j < xs.length := by
            rw [ho.1]
            have : (i + 1) * s ≤ L.length * s := Nat.mul_le_mul_right _ hil
            rw [Nat.add_mul] at this; omega
          have e2 : (xs ++ (List.range (m * s)).map fun k => us (k / s) (k % s)).getD (i * s + j) undef = xs.getD (i * s + j) undef := by
            simp [List.getElem?_append_left hlt]
          rw [e1, e2]
          exact (hv i j hil hj).mono fun g hg hlt => hk g hg hlt
        · have hge : L.length ≤ i := by omega
          have him : i - L.length < m := by omega
          have e1 : gt2 (L ++ y.els) i j = gt2 y.els (i - L.length) j := by unfold gt2; simp [List.getElem?_append_right hge]
          have e3 : i * s + j - xs.length = (i - L.length) * s + j := by rw [ho.1, Nat.sub_mul]; have : L.length * s ≤ i * s := Nat.mul_le_mul_right _ hge; omega
          have hge2 : xs.length ≤ i * s + j := by rw [ho.1]; have : L.length * s ≤ i * s := Nat.mul_le_mul_right _ hge; omega
          have hlt := hidx (i - L.length) j him hj
          have e4 : ((i - L.length) * s + j) / s = i - L.length := by rw [Nat.add_comm, Nat.add_mul_div_right _ _ hs, Nat.div_eq_of_lt hj]; omega
          have e5 : ((i - L.length) * s + j) % s = j := by rw [Nat.add_comm, Nat.add_mul_mod_self_right, Nat.mod_eq_of_lt hj]
          have e2 : (xs ++ (List.range (m * s)).map fun k => us (k / s) (k % s)).getD (i * s + j) undef = us (i - L.length) j := by
            rw [List.getD_eq_getElem?_getD, List.getElem?_append_right hge2, e3, List.getElem?_map, List.getElem?_range hlt]
            simp [e4, e5]
          rw [e1, e2]
          exact (hyv _ j him hj).mono fun g hg hlt => hk g hg hlt
theorem asSl_src (hV : VOk V tm blk) (h : HR base w0 ok0 isd tm blk ρ a w) {d : DE} {v : Value} (hd : RD w (okF base ok0 blk ρ) ρ blk isd d v) {s : Nat} {x : AV} {obs : List Prop} (hs : V.asSl s d = some (x, obs)) (hobs : ∀ p ∈ obs, p) : Src w (okF base ok0 blk ρ) s x v := by
  obtain ⟨h1, r, h2, h3⟩ := asSl_ok hV h hd hs hobs
  rcases h3 with rfl | ⟨b, n, e, rfl, rfl, hk, rfl⟩
  · exact src_rv (rv_okR_nil h2) h1
  · exact src_row (h.row hk)
theorem op_append {t t' : TypeId} {x y : Operand} (ho : o.op = .call { callee := .builtin .append, args := #[x, y], argTypes := #[t, t'] }) (hV : VOk V tm blk) (h : HR base w0 ok0 isd tm blk ρ a w) (hst : ¬ isd st) {δ : Delta} (hv : Valid P Γ o st V δ) : Goes P base w0 ok0 isd tm blk st a w o δ := by
  have hx := ev_ok hV h x
  have hy := ev_ok hV h y
  simp only [Valid, opD, ho] at hv
  split at hv
  · rename_i htt
    subst htt
    unfold appendD at hv
    split at hv
    · exact hv.elim
    · rename_i e s by_ hsl
      obtain ⟨ht, rfl, rfl⟩ := slT_spec hsl
      split at hv
      · exact hv.elim
      · rename_i hcond
        have c0 : P.cellsOf e ≠ 0 := fun q => hcond (.inl q)
        have c1 : P.bytesOf e ≠ 0 := fun q => hcond (.inr (.inl q))
        have c2 : (zeroOf P e).map (·.length) = some (P.cellsOf e) := Classical.byContradiction fun q => hcond (.inr (.inr (.inr q)))
        obtain ⟨inf, z, hinf, hz, hzs⟩ : ∃ inf z, P.info? e = some inf ∧ inf.zero = some z ∧ z.cells.size = P.cellsOf e := by
          unfold zeroOf at c2
          cases hi : P.info? e with
          | none => rw [hi] at c2; cases c2
          | some inf =>
            rw [hi] at c2
            simp only [Option.bind_some] at c2
            cases hz : inf.zero with
            | none => rw [hz] at c2; cases c2
            | some z => rw [hz] at c2; exact ⟨inf, z, rfl, hz, by simpa using c2⟩
        have hsz : inf.size = P.cellsOf e := by unfold Program.cellsOf; rw [hinf]; rfl
        have hby : inf.bytes = P.bytesOf e := by unfold Program.bytesOf; rw [hinf]; rfl
        have hrun : ∀ v' w', (Builtin.append_ #[t, t] o.type #[a.eval x, a.eval y]).run P w = .ok v' w' → (execOp a.eval o).run P w = .ok (.value v') w' := fun v' w' q => by
          simp [execOp, ho, resolve, invoke, builtin, q]
        split at hv
        · exact hv.elim
        · rename_i yv obs hyv
          split at hv
          · rename_i he
            obtain ⟨hobs, rfl⟩ := hv
            rw [he] at hx
            have hsrc := asSl_src hV h hy hyv (fun p hp => hobs p (List.mem_append_left _ hp))
            have hroom : AV.room (AV.mk (P.cellsOf e) []) yv (P.bytesOf e) := hobs _ (List.mem_append_right _ (by simp))
            generalize hu2 : a.eval x = u at hx hrun
            cases hx
            obtain ⟨v', w', r1, r2, r3, r4⟩ := run_append_av (P := P) (ty := o.type) ht hinf hz hsz hzs (by omega) (RRow.nil w base e (P.cellsOf e) (by omega) (okF base ok0 blk ρ)) hsrc h.low (by omega) (by rw [hby]; exact hroom)
            have hdrn := run_drawn _ r1
            have hnr := h.newRow (st := st) hst o.dst e (P.cellsOf e) (AV.app (P.cellsOf e) (AV.mk (P.cellsOf e) []) yv) v' w' r2 (fun ok' hk => (r4 ok' hk).1) (fun g hg => (r3 g hg).resolve_left (by simp [Value.ownBlock])) (.row st st) _ ⟨rfl, rfl⟩
            exact goes_run (hrun _ _ r1) hnr
          · rename_i b n he
            rw [he] at hx
            split at hv
            · rename_i e' s' m X hb
              split at hv
              · rename_i hc
                obtain ⟨rfl, rfl, rfl⟩ := hc
                split at hv
                · obtain ⟨hobs, rfl⟩ := hv
                  have hsrc := asSl_src hV h hy hyv (fun p hp => hobs p (List.mem_append_left _ hp))
                  have hroom : AV.room X yv (P.bytesOf e') := hobs _ (List.mem_append_right _ (by simp))
                  have hbk := hV.row hb
                  have hlb : isLive (blk b) = true := by rw [hbk]; rfl
                  generalize hu2 : a.eval x = u at hx hrun
                  cases hx with
                  | row _ _ _ hn h1' hs =>
                    have hv := hs (by rw [hbk]; rfl)
                    subst hv
                    obtain ⟨v', w', r1, r2, r3, r4⟩ := run_append_av (P := P) (ty := o.type) ht hinf hz hsz hzs (by omega) (h.row hbk) hsrc h.low (by omega) (by rw [hby]; exact hroom)
                    have hdrn := run_drawn _ r1
                    have hup := h.updRow (st := st) hbk m (.inl rfl) hst X (ρ b) (fun _ => rfl) w' r2 (fun ok' hk => (r4 ok' hk).2) (fun g hg => .inl hg) o.dst .any v' (.inl rfl)
                    have hρ : (fun c => if c = b then ρ b else ρ c) = ρ := by
                      funext c
                      split
                      · rename_i e; rw [e]
                      · rfl
                    rw [hρ] at hup
                    have hfz := HR.freeze (V := { tm := fun _ => .any, bl := updB blk [(b, .row e' (P.cellsOf e') m X)] }) ⟨fun _ => .inr rfl, fun _ => .inl rfl⟩ hup [b]
                    have e1 : View.frz { tm := fun _ => .any, bl := updB blk [(b, .row e' (P.cellsOf e') m X)] } [b] = [(b, .fz m X)] := by
                      simp [View.frz, updB]
                    have e2 : updB (updB blk [(b, .row e' (P.cellsOf e') m X)]) [(b, .fz m X)] = updB blk [(b, .fz m X)] := by
                      funext c
                      rw [updB_cons, updB_cons]
                      split
                      · rfl
                      · rename_i hcb
                        show updB blk [(b, .row e' (P.cellsOf e') m X)] c = updB blk [] c
                        rw [updB_cons, if_neg hcb]
                    rw [e1, e2] at hfz
                    have hRV : RV w' (okF base ok0 (updB blk [(b, .fz m X)]) ρ) (AV.app (P.cellsOf e') X yv) v' := by
                      have hlive : ∀ c, isLive (updB blk [(b, .fz m X)] c) = true → c ≠ b ∧ isLive (blk c) = true := fun c hc => by
                        rw [updB_cons] at hc
                        split at hc
                        · cases hc
                        · rename_i hcb; exact ⟨hcb, hc⟩
                      have hokk : ∀ g, okF base ok0 blk ρ g → okF base ok0 (updB blk [(b, .fz m X)]) ρ g := fun g hg => ⟨hg.1, fun c hc => hg.2 c (hlive c hc).2⟩
                      refine ((r4 (okF base ok0 (updB blk [(b, .fz m X)]) ρ) (fun g hg hlt => ⟨hokk g hg, r2.block g hlt fun e => hg.2 b hlb ((h.row hbk).blkNo_eq ▸ e.symm)⟩)).1).rv (fun g hg _ => hg) (fun g hg => ?_)
                      rcases r3 g hg with q | q
                      · have q' : blkNo (ρ b) = some g := (h.row hbk).blkNo_eq ▸ q
                        exact ⟨fun hlt => absurd (h.live_lt hlb q').1 (by omega), fun c hc e => h.inj b c hlb (hlive c hc).2 (fun z => (hlive c hc).1 z.symm) g q' e⟩
                      · exact ⟨fun hlt => absurd h.low (by omega), fun c hc e => absurd (h.live_lt (hlive c hc).2 e).2 (by omega)⟩
                    refine goes_run (hrun _ _ r1) (ρ' := ρ) ⟨fun t => ?_, hfz.blks, hfz.inj, hfz.frs, by rw [setD_len, put_size]; exact h.size, hfz.nod, hfz.bel, hfz.low, hfz.drw, hfz.gl⟩
                    rcases setD_get h.size o.dst (.v (AV.app (P.cellsOf e') X yv)) v' t with ⟨z1, z2⟩ | ⟨z1, z2⟩
                    · rcases setD_get h.size o.dst .any v' t with ⟨y1, y2⟩ | ⟨y1, y2⟩
                      · rw [z1, z2]
                        have := hfz.tms t
                        rw [y1, y2] at this
                        exact this
                      · by_cases hdt : o.dst = some t ∧ t < tm.length
                        · rw [z1]
                          obtain ⟨hd1, hd2⟩ := hdt
                          have : (setD tm o.dst (.v (AV.app (P.cellsOf e') X yv))).getD t .any = .v (AV.app (P.cellsOf e') X yv) := by rw [hd1]; simp [setD, hd2]
                          rw [← z1, this, y2]; exact .v _ _ hRV
                        · rw [z1]
                          have hq : (setD tm o.dst .any).getD t .any = tm.getD t .any := by
                            cases hdd : o.dst with
                            | none => rfl
                            | some k2 =>
                              simp only [setD]
                              by_cases hk2 : k2 = t
                              · have hlt : ¬ t < tm.length := fun q => hdt ⟨by rw [hdd, hk2], q⟩
                                rw [List.getD_eq_getElem?_getD, List.getElem?_eq_none (by simp; omega), List.getD_eq_getElem?_getD, List.getElem?_eq_none (by omega)]
                              · simp only [List.getD_eq_getElem?_getD]
                                rw [List.getElem?_set_ne hk2]
                          have := hfz.tms t
                          rw [hq] at this
                          exact this
                    · rw [z1, z2]; exact .v _ _ hRV
                · obtain ⟨hobs, rfl⟩ := hv
                  have hsrc := asSl_src hV h hy hyv (fun p hp => hobs p (List.mem_append_left _ hp))
                  have hroom : AV.room X yv (P.bytesOf e') := hobs _ (List.mem_append_right _ (by simp))
                  have hbk := hV.row hb
                  generalize hu2 : a.eval x = u at hx hrun
                  cases hx with
                  | row _ _ _ hn h1' hs =>
                    have hv := hs (by rw [hbk]; rfl)
                    subst hv
                    obtain ⟨v', w', r1, r2, r3, r4⟩ := run_append_av (P := P) (ty := o.type) ht hinf hz hsz hzs (by omega) (h.row hbk) hsrc h.low (by omega) (by rw [hby]; exact hroom)
                    have hdrn := run_drawn _ r1
                    have hup := h.updRow (st := st) hbk st (.inr rfl) hst (AV.app (P.cellsOf e') X yv) v' (fun e => absurd (e ▸ hn) hst) w' r2 (fun ok' hk => (r4 ok' hk).1) r3 o.dst (.row b st) v' (.inr (.inr ⟨rfl, rfl⟩))
                    exact goes_run (hrun _ _ r1) hup
              · exact hv.elim
            · exact hv.elim
          · exact hv.elim
  · exact hv.elim
end
end Go.Proofs.Ytfdpbfdhcngfgaa
