/- Each operation does what the run says: stores; parts; addresses of elements; structs that are built. -/
import Derived.Test.YtfdpbfdhcngfgaaOps5
namespace Go.Proofs.Ytfdpbfdhcngfgaa
open Go.RowKit
set_option linter.unusedVariables false
set_option linter.unusedSimpArgs false
/-- A segment of a list replaced. -/
theorem seg_get {α : Type} (l c : List α) (k i : Nat) (z : α) (h : k + c.length ≤ l.length) : (l.take k ++ c ++ l.drop (k + c.length)).getD i z = if i < k then l.getD i z else if i < k + c.length then c.getD (i - k) z else l.getD i z := by
  simp only [List.getD_eq_getElem?_getD]
  by_cases c1 : i < k
  · rw [if_pos c1, List.append_assoc, List.getElem?_append_left (by simp; omega), List.getElem?_take, if_pos c1]
  · rw [if_neg c1]
    by_cases c2 : i < k + c.length
    · rw [if_pos c2, List.append_assoc, List.getElem?_append_right (by simp; omega), List.getElem?_append_left (by simp; omega)]
      congr 2; simp; omega
    · rw [if_neg c2, List.getElem?_append_right (by simp; omega), List.getElem?_drop]
      congr 2; simp; omega
section
variable {P : Program} {base : Nat} {w0 : World} {ok0 isd : Nat → Prop} {tm : List DE} {blk : Nat → DB} {ρ : Nat → Value} {a : Act} {w : World} {V : View} {st : Nat} {o : Oper} {Γ : FuncId → Option Ca}
theorem run_storeVar {t : TypeId} (hz : P.cellsOf t ≠ 0) {v : Value} (hs : v.cells.size = P.cellsOf t) (g k : Nat) (t' : TypeId) (cur : Array Value) (hg : w.heap[g]? = some (.cells cur t' (0, 0))) (hl : k + v.cells.size ≤ cur.size) (h1 : ∀ u ∈ v.cells.toList, u.oneCell' = true) :
    (storeVar t ⟨g, k, none⟩ v).run P w = .ok () (w.setRow g (cur.toList.take k ++ v.cells.toList ++ cur.toList.drop (k + v.cells.size)).toArray) := by
  have := run_storeCells_at (P := P) g k t' v.cells.toList 0 cur w hg (by simpa using hl) h1
  simp only [Nat.add_zero, Array.length_toList] at this
  unfold storeVar
  simp [sizeOf_run (w := w) hz, hs, this]
/-- A row, one of its elements partly written. -/
theorem RRow.set {B e s : Nat} {okc : Nat → Prop} {x : AV} {g n c : Nat} (h : RRow w B e s okc x (.slice (some ⟨g, 0, none⟩) n c)) (i : AV) (j : Nat) (ys : List AV) (us : Array Value) (hi : 0 ≤ i.num) (hi2 : i.num < x.els.length) (hj : j + ys.length ≤ s) (hu : us.size = ys.length) (hone : ∀ u ∈ us.toList, u.oneCell' = true)
    (hv : ∀ k, k < ys.length → RV w okc (ys.getD k default) (us.getD k undef)) :
    ∃ (cur : Array Value), w.heap[g]? = some (.cells cur e (0, 0)) ∧ i.num.toNat * s + j + us.size ≤ cur.size ∧ B ≤ g ∧
      ∀ okc' : Nat → Prop, (∀ g', okc g' → g' < w.heap.size → okc' g' ∧ g' ≠ g) → RRow (w.setRow g (cur.toList.take (i.num.toNat * s + j) ++ us.toList ++ cur.toList.drop (i.num.toNat * s + j + us.size)).toArray) B e s okc' (x.setEl i j ys) (.slice (some ⟨g, 0, none⟩) n c) := by
  obtain ⟨L, xs, rfl, hs, hL, ho, hone1, hv1⟩ := h
  rcases ho.2 with ⟨e1, _⟩ | ⟨g2, cap, cur, e1, hb, hg, hn, hm, hsz, htk⟩
  · cases e1
  · injection e1 with e1 e2 e3
    injection e1 with e1
    injection e1 with e1
    subst e1 e2 e3
    generalize hI : i.num.toNat = I
    have hIl : I < L.length := by have : i.num < (L.length : Nat) := hi2; omega
    have hIs : (I + 1) * s ≤ L.length * s := Nat.mul_le_mul_right _ hIl
    have hcs : L.length * s ≤ c * s := Nat.mul_le_mul_right _ hn
    rw [Nat.add_mul] at hIs
    have hfit : I * s + j + us.size ≤ cur.size := by rw [hsz]; omega
    have hfit2 : I * s + j + us.toList.length ≤ cur.toList.length := by simpa using hfit
    refine ⟨cur, hg, hfit, hb, fun okc' hk => ?_⟩
    have hkeep : ∀ (y : AV) (v : Value), RV w okc y v → RV (w.setRow g (cur.toList.take (I * s + j) ++ us.toList ++ cur.toList.drop (I * s + j + us.size)).toArray) okc' y v := fun y v hy =>
      hy.mono fun g' hg' hlt => ⟨(hk g' hg' hlt).1, setRow_other w g g' _ (hk g' hg' hlt).2⟩
    have hlI : (L.getD I []).length = s := by
      rw [List.getD_eq_getElem?_getD, List.getElem?_eq_getElem hIl]; exact hL _ (List.getElem_mem hIl)
    have hnewlen : ((L.getD I []).take j ++ ys ++ (L.getD I []).drop (j + ys.length)).length = s := by simp [-List.getD_eq_getElem?_getD, hlI]; omega
    have hxs : ∀ k, k < L.length * s → xs.getD k undef = cur.toList.getD k undef := fun k hk => by
      rw [← htk]
      simp only [List.getD_eq_getElem?_getD, List.getElem?_take]
      rw [if_pos hk]
    have hnew : ∀ k, k < L.length * s → ((cur.toList.take (I * s + j) ++ us.toList ++ cur.toList.drop (I * s + j + us.size)).take (L.length * s)).getD k undef = if k < I * s + j then cur.toList.getD k undef else if k < I * s + j + us.size then us.toList.getD (k - (I * s + j)) undef else cur.toList.getD k undef := fun k hk => by
      have := seg_get cur.toList us.toList (I * s + j) k undef hfit2
      rw [Array.length_toList] at this
      rw [← this]
      simp only [List.getD_eq_getElem?_getD, List.getElem?_take]
      rw [if_pos hk]
    have hlen' : ((cur.toList.take (I * s + j) ++ us.toList ++ cur.toList.drop (I * s + j + us.size))).length = cur.size := by simp; omega
    refine ⟨L.set I ((L.getD I []).take j ++ ys ++ (L.getD I []).drop (j + ys.length)), (cur.toList.take (I * s + j) ++ us.toList ++ cur.toList.drop (I * s + j + us.size)).take (L.length * s), by simp only [AV.setEl, hI], hs, fun y hy => ?_, ⟨?_, .inr ⟨g, c, _, by rw [List.length_set], hb, setRow_heap w g cur _ e _ hg, by rw [List.length_set]; exact hn, hm, ?_, ?_⟩⟩, fun u hu' => ?_, fun i' j' hi' hj' => ?_⟩
    · rcases List.mem_or_eq_of_mem_set hy with h1 | h1
      · exact hL y h1
      · rw [h1]; exact hnewlen
    · rw [List.length_take, hlen', List.length_set, hsz]; omega
    · rw [List.size_toArray, hlen', hsz]
    · rw [List.length_set]
    · have hm' := List.mem_of_mem_take hu'
      rw [List.append_assoc, List.mem_append, List.mem_append] at hm'
      have hcur : ∀ u, u ∈ (cur.toList.take (L.length * s)) → u.oneCell' = true := fun u hu => hone1 u (htk ▸ hu)
      obtain ⟨k, hk, hku⟩ := List.getElem_of_mem hu'
      have hk2 : k < L.length * s := by rw [List.length_take] at hk; omega
      have h3 := hnew k hk2
      rw [List.getD_eq_getElem?_getD, List.getElem?_eq_getElem hk, Option.getD_some, hku] at h3
      rw [h3]
      have hc1 : (cur.toList.getD k undef).oneCell' = true := by
        have hkc : k < cur.toList.length := by simp; omega
        rw [List.getD_eq_getElem?_getD, List.getElem?_eq_getElem hkc]
        refine hcur _ ?_
        rw [List.mem_take_iff_getElem]
        exact ⟨k, by simp; omega, rfl⟩
      split
      · exact hc1
      · split
        · have : k - (I * s + j) < us.toList.length := by simp; omega
          rw [List.getD_eq_getElem?_getD, List.getElem?_eq_getElem this]
          exact hone _ (List.getElem_mem this)
        · exact hc1
    · rw [List.length_set] at hi'
      have hii : (i' + 1) * s ≤ L.length * s := Nat.mul_le_mul_right _ hi'
      rw [Nat.add_mul] at hii
      have hkk : i' * s + j' < L.length * s := by omega
      rw [hnew _ hkk]
      have hold := hkeep _ _ (hv1 i' j' hi' hj')
      rw [hxs _ hkk] at hold
      unfold gt2 at hold ⊢
      by_cases hii' : I = i'
      · subst hii'
        have e4 : (L.set I ((L.getD I []).take j ++ ys ++ (L.getD I []).drop (j + ys.length))).getD I [] = ((L.getD I []).take j ++ ys ++ (L.getD I []).drop (j + ys.length)) := by
          rw [List.getD_eq_getElem?_getD, List.getElem?_set_self hIl]; rfl
        rw [e4, seg_get _ _ _ _ _ (by rw [hlI]; exact hj)]
        by_cases q1 : j' < j
        · rw [if_pos q1, if_pos (show I * s + j' < I * s + j by omega)]; exact hold
        · rw [if_neg q1, if_neg (show ¬ I * s + j' < I * s + j by omega)]
          by_cases q2 : j' < j + ys.length
          · rw [if_pos q2, if_pos (show I * s + j' < I * s + j + us.size by omega)]
            have := hkeep _ _ (hv (j' - j) (by omega))
            have e5 : I * s + j' - (I * s + j) = j' - j := by omega
            rw [e5]
            simpa using this
          · rw [if_neg q2, if_neg (show ¬ I * s + j' < I * s + j + us.size by omega)]; exact hold
      · have e4 : (L.set I ((L.getD I []).take j ++ ys ++ (L.getD I []).drop (j + ys.length))).getD i' [] = L.getD i' [] := by
          rw [List.getD_eq_getElem?_getD, List.getElem?_set_ne hii']; simp
        rw [e4]
        rcases Nat.lt_or_gt_of_ne hii' with q | q
        · have : (I + 1) * s ≤ i' * s := Nat.mul_le_mul_right _ q
          rw [Nat.add_mul] at this
          rw [if_neg (by omega), if_neg (by omega)]; exact hold
        · have : (i' + 1) * s ≤ I * s := Nat.mul_le_mul_right _ q
          rw [Nat.add_mul] at this
          rw [if_pos (by omega)]; exact hold
/-- A row is written, or changed in some other way, where it lies or anew. -/
theorem HR.updRow (h : HR base w0 ok0 isd tm blk ρ a w) {b e s n : Nat} {x : AV} (hb : blk b = .row e s n x) (n' : Nat) (hn' : n' = n ∨ n' = st) (hst : ¬ isd st) (x' : AV) (v' : Value) (hv : n' = n → v' = ρ b) (w' : World) (hg : w.grownBy w' (ρ b).ownBlock)
    (hR : ∀ ok' : Nat → Prop, (∀ g, okF base ok0 blk ρ g → g < w.heap.size → ok' g ∧ w'.heap[g]? = w.heap[g]?) → RRow w' base e s ok' x' v') (hnew : ∀ g, v'.ownBlock = some g → (ρ b).ownBlock = some g ∨ w.heap.size ≤ g)
    (dst : Option Nat) (d : DE) (u : Value) (hd : d = .any ∨ (∃ q, d = .tup [] ∧ u = .tuple q ∧ q = #[]) ∨ (d = .row b n' ∧ u = v')) (hdrn : w.drawn ≤ w'.drawn := by first | exact Nat.le_refl _ | exact Nat.le_succ _ | assumption) :
    HR base w0 ok0 (NewI isd st) (setD tm dst d) (updB blk [(b, .row e s n' x')]) (fun c => if c = b then v' else ρ c) (a.put dst u) w' := by
  have hbb : ∀ b', updB blk [(b, .row e s n' x')] b' = if b' = b then .row e s n' x' else blk b' := fun b' => by rw [updB_cons]; rfl
  have hlive : isLive (blk b) = true := by rw [hb]; rfl
  have hrow := h.row hb
  have hin : isd n := by have := h.blks b; rw [hb] at this; exact this.1
  have hib : isd b := by
    apply Classical.byContradiction
    intro hni
    have := h.frs _ hni
    rw [hb] at this; cases this
  have hn2 : NewI isd st n' := by rcases hn' with rfl | rfl; exact .inl hin; exact .inr (by omega)
  have hR0 := hR (fun _ => True) (fun g hg' hlt => ⟨trivial, hg.block g hlt (fun e => hg'.2 b hlive (by rw [← hrow.blkNo_eq]; exact e.symm))⟩)
  refine h.step (fun b' => b' = b) (fun b' hc => ?_) (fun b' hc => ?_) (fun b' t cs hc hk => ?_) (fun b' n y hc hk => ?_) (fun n hn => .inl hn) (fun b' hc => ?_) (fun b' m hc hm hs => ?_) hg.size (fun g' hlt hno => hg.block g' hlt (fun e => ?_)) (fun b' hc _ g' hg' => ?_) (fun b1 b2 hc hc' _ _ hne => absurd (hc.trans hc'.symm) hne) hg.os hg.tape hg.output (fun H1 H5 b' hc' => ?_) (fun H1 t => ?_) ?_ ?_
  · rw [hbb, if_neg hc]
  · show (if b' = b then v' else ρ b') = ρ b'
    rw [if_neg hc]
  · subst hc; rw [hb] at hk; cases hk
  · subst hc; rw [hb] at hk; cases hk
  · subst hc; exact .inl hib
  · subst hc
    rw [hbb, if_pos rfl] at hs
    have hs' : n' = m := by simpa [stampOf] using hs
    subst hs'
    rcases hn' with rfl | rfl
    · refine ⟨by rw [hb]; rfl, ?_⟩
      show (if b' = b' then v' else ρ b') = ρ b'
      rw [if_pos rfl]; exact hv rfl
    · exact absurd hm hst
  · exact hno b rfl hlive (by rw [← hrow.blkNo_eq]; exact e.symm)
  · subst hc
    simp only [if_true] at hg'
    rcases hnew g' (hR0.blkNo_eq ▸ hg') with h1 | h1
    · exact .inl ⟨hlive, hrow.blkNo_eq ▸ h1⟩
    · exact .inr h1
  · subst hc'
    rw [hbb, if_pos rfl]
    refine ⟨hn2, ?_⟩
    show RRow w' base e s _ x' (if b' = b' then v' else ρ b')
    rw [if_pos rfl]
    exact hR _ H1
  · rcases setD_get h.size dst d u t with ⟨e1, e2⟩ | ⟨e1, e2⟩
    · exact .inl ⟨e1, e2⟩
    · right; rw [e1, e2]
      rcases hd with rfl | ⟨q, rfl, rfl, rfl⟩ | ⟨rfl, rfl⟩
      · exact .any _
      · exact .tup [] #[] rfl (fun i hi => absurd hi (by simp))
      · refine .row b n' u hn2 ?_ fun _ => by simp
        obtain ⟨A, m, c, rfl, _⟩ := hR0.form
        rfl
  · rw [put_size, setD_len, h.size]
  · exact put_defers _ _ _
theorem op_store {t : TypeId} {x y : Operand} (ho : o.op = .store t x y) (hV : VOk V tm blk) (h : HR base w0 ok0 isd tm blk ρ a w) (hst : ¬ isd st) {δ : Delta} (hv : Valid P Γ o st V δ) : Goes P base w0 ok0 isd tm blk st a w o δ := by
  have hx := ev_ok hV h x
  have hy := ev_ok hV h y
  have hrun : ∀ ad w', a.eval x = .pointer (some ad) → (storeVar t ad (a.eval y)).run P w = .ok () w' → (execOp a.eval o).run P w = .ok .skip w' := fun ad v e1 e2 => by simp [execOp, ho, Instr.storeAt, e1, Instr.sureAddr, e2]
  simp only [Valid, opD, ho] at hv
  split at hv
  · exact hv.elim
  · rename_i hz
    split at hv
    · rename_i b k he
      rw [he] at hx
      split at hv
      · rename_i t' cs hb
        split at hv
        · rename_i ds obs hsp
          split at hv
          · rename_i cs' hl
            obtain ⟨hobs, rfl⟩ := hv
            obtain ⟨hc, hlen⟩ := split_ok hsp hobs hy
            obtain ⟨g, vs, e1, e2, e3, e4⟩ := h.cells (hV.cells hb)
            obtain ⟨hle, hc'⟩ := lay_ok hl e4 hc
            generalize hu2 : a.eval x = u at hx hrun
            cases hx with
            | ptr _ _ g' hg' =>
              rw [e1] at hg'
              injection hg' with hg'
              injection hg' with hg'
              injection hg' with hg'
              subst hg'
              have hsz : (a.eval y).cells.size = P.cellsOf t := hc.1.trans hlen
              exact goes_skip (hrun _ _ rfl (run_storeVar hz hsz g k t' vs e3 (by rw [hc.1, e4.1]; exact hle) hc.ones)) (h.storeCells (hV.cells hb) e1 e3 hc' st o.dst)
          · exact hv.elim
        · exact hv.elim
      · exact hv.elim
    · rename_i b n s i j he
      rw [he] at hx
      split at hv
      · rename_i e s' m X hb
        split at hv
        · rename_i hc
          obtain ⟨rfl, rfl, hj⟩ := hc
          split at hv
          · rename_i ds obs hsp
            split at hv
            · rename_i ys r hp
              split at hv
              · exact hv.elim
              · rename_i hrb
                obtain ⟨hobs, rfl⟩ := hv
                obtain ⟨hc, hlen⟩ := split_ok hsp (fun p hp => hobs p (List.mem_append_left _ hp)) hy
                obtain ⟨hi0, hi1, hi2⟩ : X.inb i := hobs _ (List.mem_append_right _ (by simp))
                have hbk := hV.row hb
                have h' := h.freeze hV r
                have hbk' : updB blk (V.frz r) b = .row e s' m X := by
                  rw [updB_frz, if_neg (by simpa using hrb)]; exact hbk
                obtain ⟨p1, p2⟩ := pcs_get hp
                generalize hu2 : a.eval x = u at hx hrun
                cases hx with
                | rp _ _ _ _ _ _ hn h1' hh =>
                  obtain ⟨g, m', c', e1, rfl⟩ := hh (by rw [hbk]; rfl)
                  have hrow := h'.row hbk'
                  rw [e1] at hrow
                  obtain ⟨cur, q1, q2, q3, q4⟩ := hrow.set i j ys (a.eval y).cells hi1 hi2 (by rw [p1, hlen]; exact hj) (by rw [p1]; exact hc.1) hc.ones (fun k hk => by
                    obtain ⟨r', z1, z2⟩ := p2 k (p1 ▸ hk)
                    exact pc_frz hV h (hc.2.2 k (p1 ▸ hk)) z1 z2)
                  have hsz : (a.eval y).cells.size = P.cellsOf t := hc.1.trans hlen
                  have hs := run_storeVar (P := P) (v := a.eval y) hz hsz g (i.num.toNat * s' + j) e cur q1 q2 hc.ones
                  have hfin := h'.updRow (st := st) hbk' m (.inl rfl) hst (X.setEl i j ys) (ρ b) (fun _ => rfl) (w.setRow g (cur.toList.take (i.num.toNat * s' + j) ++ (a.eval y).cells.toList ++ cur.toList.drop (i.num.toNat * s' + j + (a.eval y).cells.size)).toArray)
                    ⟨rfl, rfl, rfl, by simp, fun k hk hne => setRow_other w g k _ (fun e => hne (by rw [e1, e]; rfl))⟩ (fun ok' hk => by
                      rw [e1]
                      refine q4 ok' fun g' hg' hlt => ⟨(hk g' hg' hlt).1, fun e2 => hg'.2 b (by rw [hbk']; rfl) (by rw [e1, e2]; rfl)⟩) (fun g' hg' => .inl hg') o.dst .any undef (.inl rfl)
                  rw [← updB_append] at hfin
                  exact goes_skip (hrun _ _ rfl hs) hfin
            · exact hv.elim
          · exact hv.elim
        · exact hv.elim
      · exact hv.elim
    · exact hv.elim
end
end Go.Proofs.Ytfdpbfdhcngfgaa
