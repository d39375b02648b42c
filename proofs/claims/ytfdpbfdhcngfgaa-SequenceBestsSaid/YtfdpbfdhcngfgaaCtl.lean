/- The run of a function's text is sound. -/
import Derived.Test.YtfdpbfdhcngfgaaLoop
import Derived.Deep.LoopGhost
import Derived.RangeFuncCalls
namespace Go.Proofs.Ytfdpbfdhcngfgaa
open Go.RowKit
set_option linter.unusedVariables false
set_option linter.unusedSimpArgs false
theorem vals_len {A : LoopAnn} {σ : DS} {zs : List AV} (h : A.vals σ = some zs) : zs.length = A.vs.length + A.rows.length + A.cells.length := by
  unfold LoopAnn.vals at h
  split at h
  · rename_i a b c h1 h2 h3
    simp only [Option.some.injEq] at h
    subst h
    simp only [List.length_append, (slotsV_get h1).1, (rowsV_get h2).1, (cellsV_get h3).1]
  · cases h
theorem cell_cell (A : LoopAnn) (ys zs : List AV) (b o : Nat) (d : DE) : A.cell zs b o (A.cell ys b o d) = A.cell zs b o d := by
  unfold LoopAnn.cell
  split <;> rfl
theorem blkOf_blkOf (A : LoopAnn) (ys zs : List AV) (b : Nat) (d : DB) : A.blkOf zs b (A.blkOf ys b d) = A.blkOf zs b d := by
  cases d with
  | row e s n x =>
    cases hq : A.rows.idxOf? b with
    | none => simp only [LoopAnn.blkOf, hq]
    | some k => simp only [LoopAnn.blkOf, hq]
  | cells t cs =>
    simp only [LoopAnn.blkOf]
    congr 1
    apply List.ext_getElem?
    intro o
    simp only [List.getElem?_map, List.getElem?_zipIdx]
    cases cs[o]? with
    | none => rfl
    | some d => simp only [Option.map_some, Nat.zero_add, cell_cell]
  | dead => rfl
  | fz n x => rfl
  | sv ds vs => rfl
section
variable {P : Program} {Γ : FuncId → Option Ca} {inl : Inl} {base : Nat} {w0 : World} {ok0 : Nat → Prop} {ann : FuncId → Nat → LoopEx} {fid : FuncId}
theorem rowify1_ok (q : Nat × Nat × TypeId × Nat) {σ : DS} {ρ : Nat → Value} {a : Act} {w : World} (h : HS base w0 ok0 σ ρ a w) : ∃ ρ', HS base w0 ok0 (rowify1 σ q) ρ' a w := by
  obtain ⟨b, o, e, s⟩ := q
  unfold rowify1
  split
  · rename_i t cs hb
    simp only at hb ⊢
    split
    · rename_i hc
      simp only [Bool.and_eq_true, decide_eq_true_eq] at hc
      obtain ⟨hnil, hs⟩ := hc
      have hnil' : cs.getD o .any = .nil := by
        revert hnil
        generalize cs.getD o .any = d
        cases d <;> simp [isNilD]
      have ho : o < cs.length := by
        apply Classical.byContradiction
        intro hh
        rw [List.getD_eq_getElem?_getD, List.getElem?_eq_none (by omega)] at hnil'
        cases hnil'
      have hdead : σ.blk σ.clk = .dead := h.frs σ.clk (by show ¬ σ.clk < σ.clk; omega)
      have hne : b ≠ σ.clk := fun x => by rw [x, hdead] at hb; cases hb
      have hblt : b < σ.clk := Classical.byContradiction fun x => by have := h.frs b x; rw [hb] at this; cases this
      have hblk : ∀ c, (DS.mk σ.tm ((b, .cells t (cs.set o (.row σ.clk σ.clk))) :: (σ.clk, .row e s σ.clk (AV.mk s [])) :: σ.bl) (σ.clk + 64) σ.orc).blk c = if c = b then .cells t (cs.set o (.row σ.clk σ.clk)) else if c = σ.clk then .row e s σ.clk (AV.mk s []) else σ.blk c := fun c => by
        have : (DS.mk σ.tm ((b, .cells t (cs.set o (.row σ.clk σ.clk))) :: (σ.clk, .row e s σ.clk (AV.mk s [])) :: σ.bl) (σ.clk + 64) σ.orc).blk = updB σ.blk [(b, .cells t (cs.set o (.row σ.clk σ.clk))), (σ.clk, .row e s σ.clk (AV.mk s []))] := blk_app σ [(b, .cells t (cs.set o (.row σ.clk σ.clk))), (σ.clk, .row e s σ.clk (AV.mk s []))] _ _ _
        rw [this, updB_cons, updB_cons]; rfl
      refine ⟨fun c => if c = σ.clk then .slice none 0 0 else ρ c, ?_⟩
      refine HR.step h (fun c => c = b ∨ c = σ.clk) (fun c hc => ?_) (fun c hc => ?_) (fun c t' cs' hc hk => ?_) (fun c n x hc hk => ?_) (fun n hn => ?_) (fun c hc => ?_) (fun c n hc hn hst => ?_) (Nat.le_refl _) (fun _ _ _ => rfl) (fun c hc hl g hg => ?_) (fun c c' hc hc' hl hl' hcc g hg hg' => ?_) rfl rfl rfl (fun H1 H5 c hc => ?_) (fun _ t => .inl ⟨rfl, rfl⟩) h.size rfl
      · rw [hblk, if_neg (fun x => hc (.inl x)), if_neg (fun x => hc (.inr x))]
      · show (if c = σ.clk then _ else ρ c) = ρ c
        rw [if_neg (fun x => hc (.inr x))]
      · show (if c = σ.clk then _ else ρ c) = ρ c
        rw [if_neg (fun x => by rw [x, hdead] at hk; cases hk)]
      · rcases hc with rfl | rfl
        · rw [hb] at hk; cases hk
        · rw [hdead] at hk; cases hk
      · have : n < σ.clk := hn
        show n < σ.clk + 64; omega
      · show c < σ.clk + 64
        rcases hc with rfl | rfl <;> omega
      · rw [hblk] at hst
        rcases hc with rfl | rfl
        · rw [if_pos rfl] at hst; cases hst
        · rw [if_neg (Ne.symm hne), if_pos rfl] at hst
          injection hst with hst
          have : n < σ.clk := hn
          omega
      · rcases hc with rfl | rfl
        · left
          refine ⟨by rw [hb]; rfl, ?_⟩
          simp only [if_neg hne] at hg
          exact hg
        · simp only [if_true, blkNo] at hg
          cases hg
      · rcases hc with rfl | rfl
        · rcases hc' with rfl | rfl
          · exact hcc rfl
          · simp only [if_true, blkNo] at hg'; cases hg'
        · simp only [if_true, blkNo] at hg; cases hg
      · rw [hblk]
        rcases hc with rfl | rfl
        · rw [if_pos rfl]
          obtain ⟨g, vs, e1, e2, e3, e4, e5, e6⟩ := (show RB w (okF base ok0 σ.blk ρ) ρ σ.blk (fun n => n < σ.clk) base c (.cells t cs) from hb ▸ h.blks c)
          refine ⟨g, vs, by show (if c = σ.clk then _ else ρ c) = _; rw [if_neg hne]; exact e1, e2, e3, by rw [List.length_set]; exact e4, fun i hi => e5 i (by rw [List.length_set] at hi; exact hi), fun i hi => ?_⟩
          have hi' : i < cs.length := by rw [List.length_set] at hi; exact hi
          by_cases hio : i = o
          · subst hio
            have hv := e6 i hi'
            rw [hnil'] at hv
            have e7 : (cs.set i (.row σ.clk σ.clk)).getD i .any = .row σ.clk σ.clk := by
              rw [List.getD_eq_getElem?_getD, List.getElem?_set_self ho]; rfl
            rw [e7]
            generalize vs.getD i undef = u at hv
            cases hv
            exact .row _ _ _ (by show σ.clk < σ.clk + 64; omega) rfl fun _ => by simp
          · have e7 : (cs.set o (.row σ.clk σ.clk)).getD i .any = cs.getD i .any := by
              rw [List.getD_eq_getElem?_getD, List.getElem?_set_ne (Ne.symm hio), List.getD_eq_getElem?_getD]
            rw [e7]
            exact H5 _ _ (e6 i hi')
        · rw [if_neg (Ne.symm hne), if_pos rfl]
          refine ⟨by show σ.clk < σ.clk + 64; omega, ?_⟩
          show RRow w base e s _ (AV.mk s []) (if σ.clk = σ.clk then _ else _)
          rw [if_pos rfl]
          exact RRow.nil w base e s (by omega) _
    · exact ⟨ρ, h⟩
  · exact ⟨ρ, h⟩
theorem rowify_ok : ∀ (l : List (Nat × Nat × TypeId × Nat)) {σ : DS} {ρ : Nat → Value} {a : Act} {w : World}, HS base w0 ok0 σ ρ a w → ∃ ρ', HS base w0 ok0 (rowify l σ) ρ' a w
  | [], _, ρ, _, _, h => ⟨ρ, h⟩
  | q :: l, _, _, _, _, h => by
    obtain ⟨ρ1, h1⟩ := rowify1_ok q h
    exact rowify_ok l h1
theorem head_head {A : LoopAnn} {σ : DS} {ys zs : List AV} {ρ : Nat → Value} {a : Act} {w : World} (h : HS base w0 ok0 (A.head (A.head σ ys) zs) ρ a w) : HS base w0 ok0 (A.head σ zs) ρ a w := by
  have hl1 := (head_frB A σ zs).2.1
  have hl2 := (head_frB A (A.head σ ys) zs).2.1
  have hl3 := (head_frB A σ ys).2.1
  refine HR.congr h (fun t => ?_) (by rw [hl1, hl2, hl3]) (fun b => ?_) (fun n hn => hn)
  · by_cases ht : t < σ.tm.length
    · rw [head_tm A σ zs t ht, head_tm A (A.head σ ys) zs t (by omega), head_tm A σ ys t ht]
      unfold LoopAnn.tm
      split
      · rfl
      · split <;> rfl
    · rw [List.getD_eq_getElem?_getD, List.getElem?_eq_none (by omega), List.getD_eq_getElem?_getD, List.getElem?_eq_none (by omega)]
  · rw [head_blk, head_blk, head_blk]
    split
    · rw [blkOf_blkOf]
    · rfl
theorem frzSlot_ok {ρ : Nat → Value} {a : Act} {w : World} {σ : DS} (t : Nat) (h : HS base w0 ok0 σ ρ a w) : HS base w0 ok0 (frzSlot σ t) ρ a w := by
  have key : ∀ (σ : DS) (b n : Nat) (x : AV), HS base w0 ok0 σ ρ a w → σ.tm.getD t .any = .row b n → σ.blk b = .fz n x → HS base w0 ok0 { σ with tm := σ.tm.set t (.v x) } ρ a w := fun σ b n x h ht hb => by
    have hB := h.blks b
    rw [hb] at hB
    refine ⟨fun t' => ?_, h.blks, h.inj, h.frs, by rw [h.size]; simp, h.nod, h.bel, h.low, h.drw, h.gl⟩
    have h1 := h.tms t'
    show RD w _ ρ _ _ ((σ.tm.set t (.v x)).getD t' .any) _
    by_cases e : t' = t
    · subst e
      have hlt : t' < σ.tm.length := Classical.byContradiction fun q => by rw [List.getD_eq_getElem?_getD, List.getElem?_eq_none (by omega)] at ht; cases ht
      have e2 : (σ.tm.set t' (.v x)).getD t' .any = .v x := by simp [List.getD_eq_getElem?_getD, hlt]
      rw [e2]
      rw [ht] at h1
      generalize a.tmps.getD t' undef = v at h1
      cases h1 with
      | row _ _ _ hn h1' hs =>
        rw [hs (by rw [hb]; rfl)]
        exact .v _ _ hB.2.1
    · have e2 : (σ.tm.set t (.v x)).getD t' .any = σ.tm.getD t' .any := by
        simp only [List.getD_eq_getElem?_getD]
        rw [List.getElem?_set_ne (fun q => e q.symm)]
      rw [e2]; exact h1
  unfold frzSlot
  split
  · rename_i b n ht
    split
    · rename_i e s m x hb
      split
      · rename_i hmn
        subst hmn
        have hf := HR.freeze (fview_ok σ) h [b]
        have e1 : σ.fview.frz [b] = [(b, .fz m x)] := by
          have hb' : σ.fview.bl b = .row e s m x := hb
          simp [View.frz, hb']
        rw [e1] at hf
        have h1 : HS base w0 ok0 (DS.mk σ.tm ((b, .fz m x) :: σ.bl) σ.clk σ.orc) ρ a w := by
          unfold HS
          rw [show (DS.mk σ.tm ((b, .fz m x) :: σ.bl) σ.clk σ.orc).blk = updB σ.blk [(b, .fz m x)] from blk_app σ [(b, .fz m x)] _ _ _]
          exact hf
        exact key _ b m x h1 ht (by simp [DS.blk])
      · exact h
    · rename_i m x hb
      split
      · rename_i hmn
        subst hmn
        exact key σ b m x h ht hb
      · exact h
    · exact h
  · exact h
theorem frzBlk_ok {ρ : Nat → Value} {a : Act} {w : World} {σ : DS} (t : Nat) (h : HS base w0 ok0 σ ρ a w) : HS base w0 ok0 (frzBlk σ t) ρ a w := by
  unfold frzBlk
  split
  · rename_i b n ht
    have hf := HR.freeze (fview_ok σ) h [b]
    unfold HS
    rw [show (DS.mk σ.tm (σ.fview.frz [b] ++ σ.bl) σ.clk σ.orc).blk = updB σ.blk (σ.fview.frz [b]) from blk_app σ _ _ _ _]
    exact hf
  · exact h
theorem rebind_ok {ρ : Nat → Value} {a : Act} {w : World} {σ : DS} (t b0 : Nat) (h : HS base w0 ok0 σ ρ a w) : ∃ ρ', HS base w0 ok0 (rebind σ t b0) ρ' a w := by
  unfold rebind
  split
  · rename_i b n ht
    split
    · exact ⟨ρ, h⟩
    · rename_i hbb
      split
      · rename_i e s m x hb
        split
        · rename_i hc
          obtain ⟨rfl, hlt, hnc⟩ := hc
          have hB := h.blks b
          rw [hb] at hB
          have hbl : (DS.mk (σ.tm.set t (.row b0 σ.clk)) ((b0, .row e s σ.clk x) :: (b, .dead) :: σ.bl) (σ.clk + 64) σ.orc).blk = updB σ.blk [(b0, .row e s σ.clk x), (b, .dead)] := blk_app σ [(b0, .row e s σ.clk x), (b, .dead)] _ _ _
          have u0 : updB σ.blk [(b0, .row e s σ.clk x), (b, .dead)] b0 = .row e s σ.clk x := by simp [updB]
          have u1 : updB σ.blk [(b0, .row e s σ.clk x), (b, .dead)] b = .dead := by
            simp [updB, List.find?_cons, show ¬ (b0 == b) = true by simpa using fun q => hbb q.symm]
          have u2 : ∀ c, c ≠ b0 → c ≠ b → updB σ.blk [(b0, .row e s σ.clk x), (b, .dead)] c = σ.blk c := fun c h1 h2 => updB_of_not (by simp [h1, h2])
          refine ⟨fun c => if c = b0 then ρ b else if c = b then undef else ρ c, ?_⟩
          show HR base w0 ok0 (fun n => n < σ.clk + 64) (σ.tm.set t (.row b0 σ.clk)) (DS.mk (σ.tm.set t (.row b0 σ.clk)) ((b0, .row e s σ.clk x) :: (b, .dead) :: σ.bl) (σ.clk + 64) σ.orc).blk _ a w
          rw [hbl]
          have hisb : b < σ.clk := Classical.byContradiction fun q => by
            have := h.frs b q
            rw [hb] at this; cases this
          refine HR.step2 h (fun c => c = b0 ∨ c = b) (fun c hc => u2 c (fun q => hc (.inl q)) (fun q => hc (.inr q))) (fun c hc => ?_) (fun c t' cs hc hk => ?_)
            (fun n hn => by have : n < σ.clk := hn; show n < σ.clk + 64; omega) (fun c hc => by show c < σ.clk + 64; rcases hc with rfl | rfl <;> omega) (fun c n' hc hn' hst => ?_) (Nat.le_refl _) (fun _ _ _ => rfl)
            (fun c hc hl g hg => ?_) (fun c c' hc hc' hl hl' hne => ?_) rfl rfl rfl (fun H1 H5 c hc => ?_) (fun H1 t' => ?_) (by rw [h.size]; simp) rfl
          · simp [show c ≠ b0 from fun q => hc (.inl q), show c ≠ b from fun q => hc (.inr q)]
          · rcases hc with rfl | rfl
            · rw [hk] at hnc; cases hnc
            · rw [hb] at hk; cases hk
          · rcases hc with rfl | rfl
            · rw [u0] at hst
              have : σ.clk = n' := by simpa [stampOf] using hst
              have hn2 : n' < σ.clk := hn'
              omega
            · rw [u1] at hst; cases hst
          · rcases hc with rfl | rfl
            · simp only [if_true] at hg
              exact .inl ⟨b, .inr rfl, by rw [hb]; rfl, hg⟩
            · rw [u1] at hl; cases hl
          · rcases hc with rfl | rfl
            · rcases hc' with rfl | rfl
              · exact absurd rfl hne
              · rw [u1] at hl'; cases hl'
            · rw [u1] at hl; cases hl
          · rcases hc with rfl | rfl
            · rw [u0]
              refine ⟨by show σ.clk < σ.clk + 64; omega, ?_⟩
              simp only [if_true]
              exact hB.2.keep (fun _ _ => rfl) H1
            · rw [u1]
              show (if c = b0 then ρ c else if c = c then undef else ρ c) = undef
              rw [if_neg hbb, if_pos rfl]
          · by_cases e2 : t' = t
            · right
              subst e2
              have hlt' : t' < σ.tm.length := Classical.byContradiction fun q => by rw [List.getD_eq_getElem?_getD, List.getElem?_eq_none (by omega)] at ht; cases ht
              have e3 : (σ.tm.set t' (.row b0 σ.clk)).getD t' .any = .row b0 σ.clk := by simp [List.getD_eq_getElem?_getD, hlt']
              rw [e3]
              have h1 := h.tms t'
              rw [ht] at h1
              generalize a.tmps.getD t' undef = v at h1
              cases h1 with
              | row _ _ _ hn h1' hs =>
                refine .row _ _ _ (by show σ.clk < σ.clk + 64; omega) h1' fun _ => ?_
                simp only [if_true]
                exact hs (by rw [hb]; rfl)
            · left
              refine ⟨?_, rfl⟩
              simp only [List.getD_eq_getElem?_getD]
              rw [List.getElem?_set_ne (fun q => e2 q.symm)]
        · exact ⟨ρ, h⟩
      · exact ⟨ρ, h⟩
  · exact ⟨ρ, h⟩
theorem RD.ren {w : World} {ok ok' : Nat → Prop} {ρ ρ' : Nat → Value} {blk blk' : Nat → DB} {isd : Nat → Prop} {d : DE} {v : Value} (h : RD w ok ρ blk isd d v) {b c : Nat} (hn : d.noB b c = true)
    (h1 : ∀ g, ok g → g < w.heap.size → ok' g ∧ w.heap[g]? = w.heap[g]?) (h2 : ∀ k, k ≠ b → k ≠ c → ρ' k = ρ k ∧ blk' k = blk k) : RD w ok' ρ' blk' isd d v := by
  cases h with
  | any v => exact .any v
  | v x _ h => exact .v x v (h.mono h1)
  | c => exact .c v
  | nil => exact .nil
  | ip x i s j g off m c hx h hi => exact .ip x i s j g off m c hx (h.mono h1) hi
  | gp x m o ix g hx h => exact .gp x m o ix g hx (h.mono h1)
  | agg => cases hn
  | tup => cases hn
  | fn => cases hn
  | ptr k o g h =>
    simp only [DE.noB, Bool.and_eq_true, bne_iff_ne] at hn
    obtain ⟨e1, e2⟩ := h2 k hn.1 hn.2
    exact .ptr k o g (e1.trans h)
  | sp k o ix g h =>
    simp only [DE.noB, Bool.and_eq_true, bne_iff_ne] at hn
    obtain ⟨e1, e2⟩ := h2 k hn.1 hn.2
    exact .sp k o ix g (e1.trans h)
  | row k n _ hn' h1' h =>
    simp only [DE.noB, Bool.and_eq_true, bne_iff_ne] at hn
    obtain ⟨e1, e2⟩ := h2 k hn.1 hn.2
    exact .row k n v hn' h1' fun hs => by rw [e1]; exact h (by rw [← e2]; exact hs)
  | rp k n s i j _ hn' h1' h =>
    simp only [DE.noB, Bool.and_eq_true, bne_iff_ne] at hn
    obtain ⟨e1, e2⟩ := h2 k hn.1 hn.2
    exact .rp k n s i j v hn' h1' fun hs => by rw [e1]; exact h (by rw [← e2]; exact hs)
  | rt k n s l _ hn' h1' h =>
    simp only [DE.noB, Bool.and_eq_true, bne_iff_ne] at hn
    obtain ⟨e1, e2⟩ := h2 k hn.1 hn.2
    exact .rt k n s l v hn' h1' fun hs => by rw [e1]; exact h (by rw [← e2]; exact hs)
theorem RD.drop {w : World} {ok ok' : Nat → Prop} {ρ ρ' : Nat → Value} {blk blk' : Nat → DB} {isd : Nat → Prop} {d : DE} {v : Value} (h : RD w ok ρ blk isd d v) (b c : Nat)
    (h1 : ∀ g, ok g → g < w.heap.size → ok' g ∧ w.heap[g]? = w.heap[g]?) (h2 : ∀ k, k ≠ b → k ≠ c → ρ' k = ρ k ∧ blk' k = blk k) : RD w ok' ρ' blk' isd (dropB b c d) v := by
  unfold dropB
  split
  · rename_i hn; exact h.ren hn h1 h2
  · exact .any v
theorem all_getD {l : List DE} {p : DE → Bool} (h : l.all p = true) (hp : p .any = true) (i : Nat) : p (l.getD i .any) = true := by
  rw [List.getD_eq_getElem?_getD]
  cases hl : l[i]? with
  | none => exact hp
  | some d => exact List.all_eq_true.1 h d (List.mem_of_getElem? hl)
theorem rebindP_ok {ρ : Nat → Value} {a : Act} {w : World} {σ : DS} (t b0 : Nat) (h : HS base w0 ok0 σ ρ a w) : ∃ ρ', HS base w0 ok0 (rebindP σ t b0) ρ' a w := by
  unfold rebindP
  split
  · rename_i b o ht
    split
    · rename_i ty cs hb
      split
      · rename_i hc
        rw [Bool.and_eq_true, Bool.and_eq_true] at hc
        obtain ⟨⟨hcs, hall⟩, hlt⟩ := hc
        replace hlt : b0 < σ.clk := of_decide_eq_true hlt
        have hall' : ∀ k, k ≠ b → k ≠ b0 → (σ.blk k).noB b b0 = true := fun k h1 h2 => by
          by_cases hm : k ∈ σ.bl.map (·.1)
          · have := List.all_eq_true.1 hall k hm
            simp only [Bool.or_eq_true, beq_iff_eq] at this
            rcases this with (q | q) | q
            · exact absurd q h1
            · exact absurd q h2
            · exact q
          · rw [blk_dead hm]; rfl
        have hB := h.blks b
        rw [hb] at hB
        obtain ⟨g, vs, hg, hge, hhe, hsz, hone, hRD⟩ := hB
        have hbl : (DS.mk ((σ.tm.map (dropB b b0)).set t (.ptr b0 o)) ((b0, .cells ty cs) :: (b, .dead) :: σ.bl) σ.clk σ.orc).blk = updB σ.blk [(b0, .cells ty cs), (b, .dead)] := blk_app σ [(b0, .cells ty cs), (b, .dead)] _ _ _
        have u0 : updB σ.blk [(b0, .cells ty cs), (b, .dead)] b0 = .cells ty cs := by simp [updB]
        have u1 : b ≠ b0 → updB σ.blk [(b0, .cells ty cs), (b, .dead)] b = .dead := fun hbb => by
          simp [updB, List.find?_cons, show ¬ (b0 == b) = true by simpa using fun q => hbb q.symm]
        have u2 : ∀ k, k ≠ b → k ≠ b0 → updB σ.blk [(b0, .cells ty cs), (b, .dead)] k = σ.blk k := fun k h1 h2 => updB_of_not (by simp [h1, h2])
        refine ⟨fun k => if k = b0 then ρ b else if k = b then undef else ρ k, ?_⟩
        show HR base w0 ok0 (fun n => n < σ.clk) ((σ.tm.map (dropB b b0)).set t (.ptr b0 o)) (DS.mk ((σ.tm.map (dropB b b0)).set t (.ptr b0 o)) ((b0, .cells ty cs) :: (b, .dead) :: σ.bl) σ.clk σ.orc).blk _ a w
        rw [hbl]
        generalize updB σ.blk [(b0, .cells ty cs), (b, .dead)] = B at u0 u1 u2
        have r0 : (fun k => if k = b0 then ρ b else if k = b then undef else ρ k) b0 = ρ b := by simp
        have r1 : b ≠ b0 → (fun k => if k = b0 then ρ b else if k = b then undef else ρ k) b = undef := fun q => by simp [q]
        have r2 : ∀ k, k ≠ b → k ≠ b0 → (fun k => if k = b0 then ρ b else if k = b then undef else ρ k) k = ρ k := fun k h1 h2 => by simp [h1, h2]
        generalize (fun k => if k = b0 then ρ b else if k = b then undef else ρ k) = R at r0 r1 r2
        -- a live block is an old one by another number
        have hnew : ∀ k, isLive (B k) = true → ∃ k0, σ.blk k0 = B k ∧ R k = ρ k0 ∧ (k0 = b ↔ k = b0) ∧ (k ≠ b0 → k0 = k) := fun k hl => by
          by_cases q0 : k = b0
          · subst q0
            exact ⟨b, by rw [hb, u0], r0, by simp, fun q => absurd rfl q⟩
          · by_cases q1 : k = b
            · subst q1
              rw [u1 q0] at hl; cases hl
            · exact ⟨k, (u2 k q1 q0).symm, r2 k q1 q0, by simp [q0, q1], fun _ => rfl⟩
        have okm : ∀ g, okF base ok0 σ.blk ρ g → g < w.heap.size → okF base ok0 B R g ∧ w.heap[g]? = w.heap[g]? := fun g hg _ => ⟨⟨hg.1, fun k hl => by
          obtain ⟨k0, e1, e2, _⟩ := hnew k hl
          rw [e2]
          exact hg.2 k0 (by rw [e1]; exact hl)⟩, rfl⟩
        have h2 : ∀ k, k ≠ b → k ≠ b0 → R k = ρ k ∧ B k = σ.blk k := fun k q1 q2 => ⟨r2 k q1 q2, u2 k q1 q2⟩
        refine ⟨fun t' => ?_, fun k => ?_, fun k k' hl hl' hne g' hg' => ?_, fun k hk => ?_, by rw [h.size]; simp, h.nod, h.bel, h.low, h.drw, h.gl⟩
        · have hr := h.tms t'
          by_cases e : t' = t
          · subst e
            have hlt' : t' < σ.tm.length := Classical.byContradiction fun q => by rw [List.getD_eq_getElem?_getD, List.getElem?_eq_none (by omega)] at ht; cases ht
            have e2 : ((σ.tm.map (dropB b b0)).set t' (.ptr b0 o)).getD t' .any = .ptr b0 o := by simp [List.getD_eq_getElem?_getD, hlt']
            rw [e2]
            rw [ht] at hr
            generalize a.tmps.getD t' undef = v at hr
            cases hr with
            | ptr _ _ g1 hg1 => exact .ptr b0 o g1 (r0.trans hg1)
          · have e2 : ((σ.tm.map (dropB b b0)).set t (.ptr b0 o)).getD t' .any = dropB b b0 (σ.tm.getD t' .any) := by
              rw [← map_drop]
              simp only [List.getD_eq_getElem?_getD]
              rw [List.getElem?_set_ne (fun q => e q.symm)]
            rw [e2]
            exact hr.drop b b0 okm h2
        · by_cases q0 : k = b0
          · subst q0
            rw [u0]
            exact ⟨g, vs, r0.trans hg, hge, hhe, hsz, hone, fun i hi => (hRD i hi).ren (all_getD hcs rfl i) okm h2⟩
          · by_cases q1 : k = b
            · subst q1
              rw [u1 q0]
              exact r1 q0
            · rw [u2 k q1 q0]
              have hk := h.blks k
              have hno := hall' k q1 q0
              cases hkb : σ.blk k with
              | dead => rw [hkb] at hk; exact (r2 k q1 q0).trans hk
              | cells t1 cs1 =>
                rw [hkb] at hk hno
                obtain ⟨g1, vs1, e1, e2, e3, e4, e5, e6⟩ := hk
                exact ⟨g1, vs1, (r2 k q1 q0).trans e1, e2, e3, e4, e5, fun i hi => (e6 i hi).ren (all_getD hno rfl i) okm h2⟩
              | row e1 s1 n1 x1 =>
                rw [hkb] at hk
                refine ⟨hk.1, ?_⟩
                rw [r2 k q1 q0]
                exact hk.2.keep (fun _ _ => rfl) okm
              | fz n1 x1 =>
                rw [hkb] at hk
                refine ⟨hk.1, ?_, ?_⟩
                · rw [r2 k q1 q0]; exact hk.2.1.mono okm
                · rw [r2 k q1 q0]; exact hk.2.2
              | sv ds1 vs1 =>
                rw [hkb] at hk hno
                exact ⟨(r2 k q1 q0).trans hk.1, hk.2.1, fun t1 => (hk.2.2 t1).ren (all_getD hno rfl t1) okm h2⟩
        · obtain ⟨k0, e1, e2, e3, e4⟩ := hnew k hl
          obtain ⟨k1, f1, f2, f3, f4⟩ := hnew k' hl'
          rw [f2]
          rw [e2] at hg'
          refine h.inj k0 k1 (by rw [e1]; exact hl) (by rw [f1]; exact hl') (fun q => hne ?_) g' hg'
          by_cases z0 : k = b0
          · have z1 := e3.2 z0
            have z2 := f3.1 (by rw [← q]; exact z1)
            rw [z0, z2]
          · have z1 := e4 z0
            have z2 : k' ≠ b0 := fun z => z0 (e3.1 (by rw [q]; exact f3.2 z))
            rw [← z1, q, f4 z2]
        · have hk' : ¬ k < σ.clk := hk
          have q0 : k ≠ b0 := fun q => hk' (by rw [q]; exact hlt)
          have q1 : k ≠ b := fun q => by
            have := h.frs b (by rw [← q]; exact hk)
            rw [hb] at this; cases this
          rw [u2 k q1 q0]
          exact h.frs k hk
      · exact ⟨ρ, h⟩
    · exact ⟨ρ, h⟩
  · exact ⟨ρ, h⟩
theorem frzBox_ok {ρ : Nat → Value} {a : Act} {w : World} {σ : DS} (t : Nat) (h : HS base w0 ok0 σ ρ a w) : ∃ ρ', HS base w0 ok0 (frzBox σ t) ρ' a w := by
  unfold frzBox
  split
  · rename_i b ht
    split
    · rename_i ty cs hb
      split
      · rename_i xs hpc
        split
        · rename_i hall
          have hall' : ∀ k, k ≠ b → (σ.blk k).noB b b = true := fun k h1 => by
            by_cases hm : k ∈ σ.bl.map (·.1)
            · have := List.all_eq_true.1 hall k hm
              simp only [Bool.or_eq_true, beq_iff_eq] at this
              rcases this with q | q
              · exact absurd q h1
              · exact q
            · rw [blk_dead hm]; rfl
          have hB := h.blks b
          rw [hb] at hB
          obtain ⟨g, vs, hg, hge, hhe, hsz, hone, hRD⟩ := hB
          have hlb : isLive (σ.blk b) = true := by rw [hb]; rfl
          have hbl : (DS.mk ((σ.tm.map (dropB b b)).set t (.v (AV.mkRef xs))) ((b, .dead) :: σ.bl) σ.clk σ.orc).blk = updB σ.blk [(b, .dead)] := blk_app σ [(b, .dead)] _ _ _
          have u1 : updB σ.blk [(b, .dead)] b = .dead := by simp [updB]
          have u2 : ∀ k, k ≠ b → updB σ.blk [(b, .dead)] k = σ.blk k := fun k h1 => updB_of_not (by simp [h1])
          refine ⟨fun k => if k = b then undef else ρ k, ?_⟩
          show HR base w0 ok0 (fun n => n < σ.clk) ((σ.tm.map (dropB b b)).set t (.v (AV.mkRef xs))) (DS.mk ((σ.tm.map (dropB b b)).set t (.v (AV.mkRef xs))) ((b, .dead) :: σ.bl) σ.clk σ.orc).blk _ a w
          rw [hbl]
          generalize updB σ.blk [(b, .dead)] = B at u1 u2
          have r1 : (fun k => if k = b then undef else ρ k) b = undef := by simp
          have r2 : ∀ k, k ≠ b → (fun k => if k = b then undef else ρ k) k = ρ k := fun k h1 => by simp [h1]
          generalize (fun k => if k = b then undef else ρ k) = R at r1 r2
          have hnew : ∀ k, isLive (B k) = true → k ≠ b := fun k hl q => by subst q; rw [u1] at hl; cases hl
          have okm : ∀ g, okF base ok0 σ.blk ρ g → g < w.heap.size → okF base ok0 B R g ∧ w.heap[g]? = w.heap[g]? := fun g hg _ => ⟨⟨hg.1, fun k hl => by
            have hk := hnew k hl
            rw [u2 k hk] at hl
            rw [r2 k hk]
            exact hg.2 k hl⟩, rfl⟩
          have h2 : ∀ k, k ≠ b → k ≠ b → R k = ρ k ∧ B k = σ.blk k := fun k q1 _ => ⟨r2 k q1, u2 k q1⟩
          have hgok : okF base ok0 B R g := ⟨fun q => absurd q (by omega), fun k hl => by
            have hk := hnew k hl
            rw [u2 k hk] at hl
            rw [r2 k hk]
            exact h.inj b k hlb hl (fun q => hk q.symm) g (by rw [hg]; rfl)⟩
          have href : RV w (okF base ok0 B R) (AV.mkRef xs) (.pointer (some ⟨g, 0, none⟩)) := by
            obtain ⟨p1, p2⟩ := pcs_get hpc
            refine .ref xs g (fun i => vs.getD i undef) hgok (Array.getElem?_eq_some_iff.1 hhe).1 (fun i hi => ?_) (fun i hi => hone i (by omega)) (fun i hi => ?_)
            · have hiv : i < vs.size := by omega
              have := cell_of_row w g i vs ty (0, 0) hhe
              rw [this]
              simp [hiv]
            · obtain ⟨r', z1, z2⟩ := p2 i (by omega)
              have hr0 : r' = [] := by
                cases r' with
                | nil => rfl
                | cons c l => exact absurd (z2 c (by simp)) (by simp)
              subst hr0
              exact (pc_ok' (fview_ok σ) h (hRD i (by omega)) z1).mono okm
          refine ⟨fun t' => ?_, fun k => ?_, fun k k' hl hl' hne g' hg' => ?_, fun k hk => ?_, by rw [h.size]; simp, h.nod, h.bel, h.low, h.drw, h.gl⟩
          · have hr := h.tms t'
            by_cases e : t' = t
            · subst e
              have hlt' : t' < σ.tm.length := Classical.byContradiction fun q => by rw [List.getD_eq_getElem?_getD, List.getElem?_eq_none (by omega)] at ht; cases ht
              have e2 : ((σ.tm.map (dropB b b)).set t' (.v (AV.mkRef xs))).getD t' .any = .v (AV.mkRef xs) := by simp [List.getD_eq_getElem?_getD, hlt']
              rw [e2]
              rw [ht] at hr
              generalize a.tmps.getD t' undef = v at hr
              cases hr with
              | ptr _ _ g1 hg1 =>
                rw [hg] at hg1
                injection hg1 with hg1
                injection hg1 with hg1
                injection hg1 with hg1
                subst hg1
                exact .v _ _ href
            · have e2 : ((σ.tm.map (dropB b b)).set t (.v (AV.mkRef xs))).getD t' .any = dropB b b (σ.tm.getD t' .any) := by
                rw [← map_drop]
                simp only [List.getD_eq_getElem?_getD]
                rw [List.getElem?_set_ne (fun q => e q.symm)]
              rw [e2]
              exact hr.drop b b okm h2
          · by_cases q1 : k = b
            · subst q1
              rw [u1]
              exact r1
            · rw [u2 k q1]
              have hk := h.blks k
              have hno := hall' k q1
              cases hkb : σ.blk k with
              | dead => rw [hkb] at hk; exact (r2 k q1).trans hk
              | cells t1 cs1 =>
                rw [hkb] at hk hno
                obtain ⟨g1, vs1, e1, e2, e3, e4, e5, e6⟩ := hk
                exact ⟨g1, vs1, (r2 k q1).trans e1, e2, e3, e4, e5, fun i hi => (e6 i hi).ren (all_getD hno rfl i) okm h2⟩
              | row e1 s1 n1 x1 =>
                rw [hkb] at hk
                refine ⟨hk.1, ?_⟩
                rw [r2 k q1]
                exact hk.2.keep (fun _ _ => rfl) okm
              | fz n1 x1 =>
                rw [hkb] at hk
                refine ⟨hk.1, ?_, ?_⟩
                · rw [r2 k q1]; exact hk.2.1.mono okm
                · rw [r2 k q1]; exact hk.2.2
              | sv ds1 vs1 =>
                rw [hkb] at hk hno
                exact ⟨(r2 k q1).trans hk.1, hk.2.1, fun t1 => (hk.2.2 t1).ren (all_getD hno rfl t1) okm h2⟩
          · have q1 := hnew k hl
            have q2 := hnew k' hl'
            rw [u2 k q1] at hl
            rw [u2 k' q2] at hl'
            rw [r2 k q1] at hg'
            rw [r2 k' q2]
            exact h.inj k k' hl hl' hne g' hg'
          · have hk' : ¬ k < σ.clk := hk
            by_cases q1 : k = b
            · subst q1; exact u1
            · rw [u2 k q1]
              exact h.frs k hk
        · exact ⟨ρ, h⟩
      · exact ⟨ρ, h⟩
    · exact ⟨ρ, h⟩
  · exact ⟨ρ, h⟩
theorem boxes_ok {a : Act} {w : World} : ∀ (l : List Nat) {σ : DS} {ρ : Nat → Value}, HS base w0 ok0 σ ρ a w → ∃ ρ', HS base w0 ok0 (l.foldl frzBox σ) ρ' a w
  | [], σ, ρ, h => ⟨ρ, h⟩
  | t :: l, σ, ρ, h => by
    obtain ⟨ρ1, h1⟩ := frzBox_ok t h
    exact boxes_ok l h1
theorem frzQ_ok {ρ : Nat → Value} {a : Act} {w : World} {σ : DS} (W : List Nat) (q : Nat × Nat × TypeId × Nat) (h : HS base w0 ok0 σ ρ a w) : ∃ ρ', HS base w0 ok0 (frzQ W σ q) ρ' a w := by
  unfold frzQ
  split
  · split
    · exact ⟨ρ, frzBlk_ok _ h⟩
    · split
      · split
        · exact rebind_ok _ _ h
        · split
          · exact rebindP_ok _ _ h
          · exact ⟨ρ, frzSlot_ok _ h⟩
      · exact ⟨ρ, h⟩
  · exact ⟨ρ, h⟩
theorem frzSlots_ok {a : Act} {w : World} (W : List Nat) : ∀ (l : List (Nat × Nat × TypeId × Nat)) {σ : DS} {ρ : Nat → Value}, HS base w0 ok0 σ ρ a w → ∃ ρ', HS base w0 ok0 (frzSlots W l σ) ρ' a w
  | [], σ, ρ, h => ⟨ρ, h⟩
  | q :: l, σ, ρ, h => by
    obtain ⟨ρ1, h1⟩ := frzQ_ok W q h
    exact frzSlots_ok W l h1
/-! ### in a round -/
theorem upon_round {l n : Nat} {o : Oper} {a : Act} {w : World} {K K' : Act → World → Prop} {Q : Exit → Act → World → Prop} (ho : ∀ c, o.op ≠ .defer c) (hK : ∀ a w, K a w → K' a w) (h : o.wp P a w K Q) (hQ : ¬ LetsOut Q) : o.wpIn (Fence.wide.inRound l) n P a w K' Q := by
  refine ⟨fun _ _ => trivial, ?_⟩
  rw [Oper.semAt_eq _ _ _ ho]
  unfold Oper.wp at h
  generalize (execOp a.eval o).run P w = r at h
  cases r with
  | ok x w' =>
    cases x with
    | value v => exact hK _ _ h
    | skip => exact hK _ _ h
    | defer d => exact hK _ _ h
    | enter f args =>
      refine ⟨fun q => (by cases q), CallsIn.inRound l (callsIn_wide.2 (Calls.mono h fun e w'' hr => ?_))⟩
      cases e with
      | returned v => exact hK _ _ hr
      | panicked chain => exact hr
      | outgrown => exact hr
    | row row args => exact ⟨fun q => (by cases q), fun c cs _ => by obtain ⟨v, w'', r, s⟩ := h c cs; exact ⟨v, w'', hK _ _ r, stepsIn_wide.2 s⟩⟩
    | _ => exact h.elim
  | halt q w' =>
    cases q with
    | panic v => exact h
    | _ => exact h.elim
theorem ops_round {l n : Nat} {ops : Array Oper} {Q : Exit → Act → World → Prop} (hQ : ¬ LetsOut Q) (ho : ∀ o ∈ ops.toList, ∀ c, o.op ≠ .defer c) : ∀ (ks : List Nat) (a : Act) (w : World), wpOps P ops Q ks a w → wpOpsIn (Fence.wide.inRound l) n P ops Q ks a w
  | [], a, w, h => h
  | k :: ks, a, w, h => by
    simp only [wpOps, wpOpsIn] at h ⊢
    split at h
    · rename_i hk
      simp only [hk]
      exact ops_round hQ ho ks a w h
    · rename_i o hk
      simp only [hk]
      split at h
      · rename_i hw
        rw [if_pos hw]
        rcases h with h | h
        · exact upon_round (ho o (Array.mem_toList_iff.2 (Array.mem_of_getElem? hk))) (fun a w q => ops_round hQ ho ks a w q) h hQ
        · exact absurd h.2 hQ
      · rename_i hw
        rw [if_neg hw]
        exact ⟨fun _ _ => trivial, ops_round hQ ho ks _ w h⟩
theorem runC_round (hm : P.follows .mixedOrders = true) (hinl : InlOk P inl) (l n : Nat) : ∀ (c : Code) (σ : DS) (K : Exit → DS → Prop) (ρ : Nat → Value) (a : Act) (w : World) (Q : Exit → Act → World → Prop), Code.flatR c = true → runC P Γ inl ann fid c σ K → HS base w0 ok0 σ ρ a w → (∀ e σ' ρ' a' w', K e σ' → HS base w0 ok0 σ' ρ' a' w' → Q e a' w') → ¬ LetsOut Q → c.wpIn (Fence.wide.inRound l) n P Q a w
  | .skip, σ, K, ρ, a, w, Q, _, hr, h, hQ, _ => wpIn_skip (hQ _ _ _ _ _ hr h)
  | .region id ops dr, σ, K, ρ, a, w, Q, hfl, hr, h, hQ, hL => by
    simp only [Code.flatR, Bool.and_eq_true, Bool.not_eq_true'] at hfl
    obtain ⟨⟨rfl, hfl⟩, hbx⟩ := hfl
    have hbx' : boxSrc ops.toList = [] := by simpa using hbx
    have hr' : regF P Γ inl false ops.toList [] [] ops.toList σ (K .normal) := by
      have hr1 : regF P Γ inl false ops.toList [] [] ops.toList ((boxSrc ops.toList).foldl frzBox σ) (K .normal) := hr
      rw [hbx'] at hr1
      exact hr1
    refine wpIn_region (ops_round hL (fun o ho c e => ?_) _ _ _ ?_)
    · have := List.all_eq_true.1 hfl o ho
      rw [e] at this; cases this
    · have := regF_sound (Q := Q) hinl (fun σ' ρ' a' w' hk h' => hQ .normal σ' ρ' a' w' hk h') ops.toList 0 [] [] σ ρ a w (fun i => by simp) hr' h (fun j b hj => by cases hj)
      simpa using this
  | .seq x y, σ, K, ρ, a, w, Q, hfl, hr, h, hQ, hL => by
    simp only [Code.flatR, Bool.and_eq_true] at hfl
    refine wpIn_seq (runC_round hm hinl l n x σ _ ρ a w _ hfl.1 hr h (fun e σ' ρ' a' w' hk h' => ?_) (fun ⟨a, w, q⟩ => hL ⟨a, w, q⟩))
    cases e with
    | normal => exact runC_round hm hinl l n y σ' K ρ' a' w' Q hfl.2 hk h' hQ hL
    | exit i => exact hQ _ _ _ _ _ hk h'
    | goto i => exact hQ _ _ _ _ _ hk h'
    | ret => exact hQ _ _ _ _ _ hk h'
    | panic i => exact hQ _ _ _ _ _ hk h'
    | outgrown => exact hQ _ _ _ _ _ hk h'
  | .cond c x y, σ, K, ρ, a, w, Q, hfl, hr, h, hQ, hL => by
    simp only [Code.flatR, Bool.and_eq_true] at hfl
    have hc := ev_ok (fview_ok σ) h c
    simp only [runC] at hr
    split at hr
    · rename_i he
      rw [he] at hc
      refine wpIn_cond_true (by generalize a.eval c = u at hc; cases hc; rfl) (runC_round hm hinl l n x σ K ρ a w Q hfl.1 hr h hQ hL)
    · rename_i he
      rw [he] at hc
      refine wpIn_cond_false (by generalize a.eval c = u at hc; cases hc; rfl) (runC_round hm hinl l n y σ K ρ a w Q hfl.2 hr h hQ hL)
    · rename_i z he
      rw [he] at hc
      obtain ⟨h1, h2, h3⟩ := decF_both hr
      have hb : a.eval c = .bool z.tru := by
        generalize a.eval c = u at hc
        cases hc with | v _ _ hv => exact rv_bool hv h1
      exact wpIn_cond_split hb (fun ht => by obtain ⟨oc, q⟩ := h2 ht; exact runC_round hm hinl l n x { σ with orc := oc } K ρ a w Q hfl.1 q h hQ hL) (fun ht => by obtain ⟨oc, q⟩ := h3 ht; exact runC_round hm hinl l n y { σ with orc := oc } K ρ a w Q hfl.2 q h hQ hL)
    · exact hr.elim
  | .block id c, σ, K, ρ, a, w, Q, hfl, hr, h, hQ, hL => by
    simp only [Code.flatR] at hfl
    refine wpIn_block (runC_round hm hinl l n c σ _ ρ a w _ hfl hr h (fun e σ' ρ' a' w' hk h' => ?_) (fun ⟨a, w, q⟩ => hL ⟨a, w, q⟩))
    cases e with
    | exit i =>
      simp only at hk
      simp only [Exit.inBlock]
      split at hk
      · rename_i hi; rw [if_pos hi]; exact hQ _ _ _ _ _ hk h'
      · rename_i hi; rw [if_neg hi]; exact hQ _ _ _ _ _ hk h'
    | normal => exact hQ _ _ _ _ _ hk h'
    | goto i => exact hQ _ _ _ _ _ hk h'
    | ret => exact hQ _ _ _ _ _ hk h'
    | panic i => exact hQ _ _ _ _ _ hk h'
    | outgrown => exact hQ _ _ _ _ _ hk h'
  | .exit id, σ, K, ρ, a, w, Q, _, hr, h, hQ, _ => wpIn_exit (hQ _ _ _ _ _ hr h)
  | .ret, σ, K, ρ, a, w, Q, _, hr, h, hQ, _ => wpIn_ret (hQ _ _ _ _ _ hr h)
  | .loop c, σ, K, ρ, a, w, Q, hfl, _, _, _, _ => by cases hfl
  | .rangeFunc f ps x y, σ, K, ρ, a, w, Q, hfl, _, _, _, _ => by cases hfl
  | .scope x, σ, K, ρ, a, w, Q, hfl, _, _, _, _ => by cases hfl
  | .label i, σ, K, ρ, a, w, Q, hfl, _, _, _, _ => by cases hfl
  | .goto i, σ, K, ρ, a, w, Q, hfl, _, _, _, _ => by cases hfl
  | .refuse s, σ, K, ρ, a, w, Q, hfl, _, _, _, _ => by cases hfl
theorem updB_at (blk : Nat → DB) (b : Nat) (d : DB) : updB blk [(b, d)] b = d := by simp [updB]
theorem updB_off (blk : Nat → DB) (b : Nat) (d : DB) {c : Nat} (h : c ≠ b) : updB blk [(b, d)] c = blk c := updB_of_not (by simp [h])
/-- A round begins: the slots are put by, and one is set. -/
theorem round_start {σ : DS} {ρ : Nat → Value} {a : Act} {w : World} (hs : HS base w0 ok0 σ ρ a w) {x : AV} {v : Value} (hv : RV w noBlock x v) (p : Nat) :
    HS base w0 ok0 ⟨σ.tm.set p (.v x), (σ.clk, .sv σ.tm a.tmps) :: σ.bl, σ.clk + 64, σ.lft.orc⟩ ρ { tmps := a.tmps.setIfInBounds p v, defers := a.defers } w := by
  have hdead : σ.blk σ.clk = .dead := hs.frs σ.clk (fun q => Nat.lt_irrefl _ q)
  have hund : ρ σ.clk = undef := by have := hs.blks σ.clk; rw [hdead] at this; exact this
  have hb1 : (DS.mk (σ.tm.set p (.v x)) ((σ.clk, .sv σ.tm a.tmps) :: σ.bl) (σ.clk + 64) σ.lft.orc).blk = updB σ.blk [(σ.clk, .sv σ.tm a.tmps)] := blk_app σ [(σ.clk, .sv σ.tm a.tmps)] _ _ _
  show HR base w0 ok0 (fun n => n < σ.clk + 64) (σ.tm.set p (.v x)) (DS.mk (σ.tm.set p (.v x)) ((σ.clk, .sv σ.tm a.tmps) :: σ.bl) (σ.clk + 64) σ.lft.orc).blk ρ _ w
  rw [hb1]
  refine HR.step hs (fun b => b = σ.clk) (fun b hc => updB_off _ _ _ hc) (fun b _ => rfl) (fun b t cs _ _ => rfl) (fun b n x hc e => by rw [hc, hdead] at e; cases e)
    (fun n hn => by have : n < σ.clk := hn; show n < σ.clk + 64; omega) (fun b hc => by show b < σ.clk + 64; rw [hc]; omega) (fun b n hc _ hst => by rw [hc, updB_at] at hst; cases hst) (Nat.le_refl _) (fun _ _ _ => rfl)
    (fun b hc hl => by rw [hc, updB_at] at hl; cases hl) (fun b b' hc _ hl => by rw [hc, updB_at] at hl; cases hl) rfl rfl rfl (fun H1 H5 b hc => ?_) (fun H1 t => ?_) (by simp [hs.size]) rfl
  · rw [hc, updB_at]
    exact ⟨hund, hs.size, fun t => H5 _ _ (hs.tms t)⟩
  · by_cases ht : t = p
    · subst ht
      by_cases hlt : t < σ.tm.length
      · right
        have e1 : (σ.tm.set t (.v x)).getD t .any = .v x := by simp [List.getD_eq_getElem?_getD, hlt]
        have e2 : (a.tmps.setIfInBounds t v).getD t undef = v := by simp [hs.size, hlt]
        rw [e1, e2]
        exact .v _ _ (hv.mono fun g hg _ => hg.elim)
      · left
        refine ⟨by rw [List.set_eq_of_length_le (by omega)], ?_⟩
        rw [Array.setIfInBounds_eq_of_size_le (by rw [hs.size]; omega)]
    · left
      refine ⟨?_, ?_⟩
      · simp only [List.getD_eq_getElem?_getD]
        rw [List.getElem?_set_ne (fun q => ht q.symm)]
      · simp only [Array.getD_eq_getD_getElem?]
        rw [Array.getElem?_setIfInBounds_ne (fun q => ht q.symm)]
/-- A round is over: the slots are what they were. -/
theorem round_end {σh σ' : DS} {ρ' : Nat → Value} {a a' : Act} {w w' : World} (p : Nat) (x : AV) {oc : Orc} (hsz : a.tmps.size = σh.tm.length) (h' : HS base w ok0 σ' ρ' a' w') (hfb : FrB ⟨σh.tm.set p (.v x), (σh.clk, .sv σh.tm a.tmps) :: σh.bl, σh.clk + 64, oc⟩ σ')
    (hdead : σh.blk σh.clk = .dead) (hpre : ¬ (preOf ⟨σh.tm.set p (.v x), (σh.clk, .sv σh.tm a.tmps) :: σh.bl, σh.clk + 64, oc⟩ σ').contains σh.clk = true) (ds : List Deferred) (hds : a'.defers = ds) :
    HS base w ok0 ⟨σh.tm, (σh.clk, .dead) :: σ'.bl, σ'.clk, σ'.orc⟩ ρ' { tmps := a.tmps, defers := ds } w' ∧ FrB σh ⟨σh.tm, (σh.clk, .dead) :: σ'.bl, σ'.clk, σ'.orc⟩ := by
  obtain ⟨⟨q, hq⟩, _, h3⟩ := hfb
  have h3' : σh.clk + 64 ≤ σ'.clk := h3
  have hsv : σ'.blk σh.clk = .sv σh.tm a.tmps := by
    have hpo : preOf ⟨σh.tm.set p (.v x), (σh.clk, .sv σh.tm a.tmps) :: σh.bl, σh.clk + 64, oc⟩ σ' = q.map (·.1) := by
      unfold preOf
      rw [hq, List.length_append, Nat.add_sub_cancel, List.take_left]
    have : σ'.blk = updB (DS.mk (σh.tm.set p (.v x)) ((σh.clk, .sv σh.tm a.tmps) :: σh.bl) (σh.clk + 64) oc).blk q := by
      obtain ⟨tm, bl, c, oc'⟩ := σ'
      simp only at hq
      subst hq
      exact blk_app (DS.mk (σh.tm.set p (.v x)) ((σh.clk, .sv σh.tm a.tmps) :: σh.bl) (σh.clk + 64) oc) q tm c _
    rw [this, updB_of_not (by rw [← hpo]; simpa using hpre)]
    show (DS.mk (σh.tm.set p (.v x)) ((σh.clk, .sv σh.tm a.tmps) :: σh.bl) (σh.clk + 64) oc).blk σh.clk = _
    rw [show (DS.mk (σh.tm.set p (.v x)) ((σh.clk, .sv σh.tm a.tmps) :: σh.bl) (σh.clk + 64) oc).blk = updB σh.blk [(σh.clk, .sv σh.tm a.tmps)] from blk_app σh [(σh.clk, .sv σh.tm a.tmps)] _ _ _, updB_at]
  have hB := h'.blks σh.clk
  rw [hsv] at hB
  have hfin : (DS.mk σh.tm ((σh.clk, .dead) :: σ'.bl) σ'.clk σ'.orc).blk = updB σ'.blk [(σh.clk, .dead)] := blk_app σ' [(σh.clk, .dead)] _ _ _
  have H4 : ∀ b n, n < σ'.clk → stampOf (updB σ'.blk [(σh.clk, .dead)] b) = some n → stampOf (σ'.blk b) = some n ∧ ρ' b = ρ' b := fun b n _ hst => by
    by_cases hc : b = σh.clk
    · rw [hc, updB_at] at hst; cases hst
    · rw [updB_off _ _ _ hc] at hst; exact ⟨hst, rfl⟩
  have H1 : ∀ g, okF base ok0 σ'.blk ρ' g → g < w'.heap.size → okF base ok0 (updB σ'.blk [(σh.clk, .dead)]) ρ' g ∧ w'.heap[g]? = w'.heap[g]? := fun g hg _ => ⟨⟨hg.1, fun b hl => by
    by_cases hc : b = σh.clk
    · rw [hc, updB_at] at hl; cases hl
    · rw [updB_off _ _ _ hc] at hl; exact hg.2 b hl⟩, rfl⟩
  refine ⟨?_, ⟨(σh.clk, .dead) :: q ++ [(σh.clk, .sv σh.tm a.tmps)], by simp [hq]⟩, rfl, by show σh.clk ≤ σ'.clk; omega⟩
  show HR base w ok0 (fun n => n < σ'.clk) σh.tm (DS.mk σh.tm ((σh.clk, .dead) :: σ'.bl) σ'.clk σ'.orc).blk ρ' _ w'
  rw [hfin]
  refine HR.step h' (fun b => b = σh.clk) (fun b hc => updB_off _ _ _ hc) (fun b _ => rfl) (fun b t cs _ _ => rfl) (fun b n x hc e => by rw [hc, hsv] at e; cases e)
    (fun n hn => hn) (fun b hc => by show b < σ'.clk; rw [hc]; omega) (fun b n hc hn hst => H4 b n hn hst) (Nat.le_refl _) (fun _ _ _ => rfl)
    (fun b hc hl => by rw [hc, updB_at] at hl; cases hl) (fun b b' hc _ hl => by rw [hc, updB_at] at hl; cases hl) rfl rfl rfl (fun _ _ b hc => ?_) (fun _ t => .inr ?_) hsz hds.symm
  · rw [hc, updB_at]; exact hB.1
  · exact (hB.2.2 t).mono H1 (fun _ _ _ => rfl) (fun n hn => hn) H4
/-- **The run is sound.** -/
theorem runC_sound (hm : P.follows .mixedOrders = true) (hinl : InlOk P inl) (hfr : InlFr inl) : ∀ (c : Code) (σ : DS) (K : Exit → DS → Prop) (ρ : Nat → Value) (a : Act) (w : World) (Q : Exit → Act → World → Prop), runC P Γ inl ann fid c σ K → HS base w0 ok0 σ ρ a w → (∀ e σ' ρ' a' w', K e σ' → HS base w0 ok0 σ' ρ' a' w' → Q e a' w') → c.wp P Q a w
  | .skip, σ, K, ρ, a, w, Q, hr, h, hQ => wp_skip (hQ _ _ _ _ _ hr h)
  | .region id ops dr, σ, K, ρ, a, w, Q, hr, h, hQ => by
    have hr' : regF P Γ inl dr ops.toList [] [] ops.toList (preFz dr ops.toList σ) (K .normal) := hr
    replace h : ∃ ρ, HS base w0 ok0 (preFz dr ops.toList σ) ρ a w := by
      unfold preFz
      split
      · refine ⟨ρ, ?_⟩
        have hf := HR.freeze (fview_ok σ) h (preRows ops.toList σ)
        unfold HS
        rw [show (DS.mk σ.tm (σ.fview.frz (preRows ops.toList σ) ++ σ.bl) σ.clk σ.orc).blk = updB σ.blk (σ.fview.frz (preRows ops.toList σ)) from blk_app σ _ _ _ _]
        exact hf
      · exact boxes_ok _ h
    obtain ⟨ρ, h⟩ := h
    generalize preFz dr ops.toList σ = σ at hr' h
    cases dr with
    | false =>
      refine wp_region ?_
      have := regF_sound (Q := Q) hinl (fun σ' ρ' a' w' hk h' => hQ .normal σ' ρ' a' w' hk h') ops.toList 0 [] [] σ ρ a w (fun i => by simp) hr' h (fun j b hj => by cases hj)
      simpa using this
    | true =>
      obtain ⟨l, oc, e1, e2, e3, e4⟩ := regF_trace ops.toList [] [] σ hr' (fun j b hj => by cases hj)
      have := draw_sound (Q := Q) hm e2 e1 (by simpa using e3) h (fun ρ' a' w' h' => hQ .normal _ ρ' a' w' e4 h') id
      simpa using this
  | .seq x y, σ, K, ρ, a, w, Q, hr, h, hQ => by
    refine wp_seq (runC_sound hm hinl hfr x σ _ ρ a w _ hr h fun e σ' ρ' a' w' hk h' => ?_)
    cases e with
    | normal => exact runC_sound hm hinl hfr y σ' K ρ' a' w' Q hk h' hQ
    | exit i => exact hQ _ _ _ _ _ hk h'
    | goto i => exact hQ _ _ _ _ _ hk h'
    | ret => exact hQ _ _ _ _ _ hk h'
    | panic i => exact hQ _ _ _ _ _ hk h'
    | outgrown => exact hQ _ _ _ _ _ hk h'
  | .cond c x y, σ, K, ρ, a, w, Q, hr, h, hQ => by
    have hc := ev_ok (fview_ok σ) h c
    simp only [runC] at hr
    split at hr
    · rename_i he
      rw [he] at hc
      refine wp_cond_true (by generalize a.eval c = u at hc; cases hc; rfl) (runC_sound hm hinl hfr x σ K ρ a w Q hr h hQ)
    · rename_i he
      rw [he] at hc
      refine wp_cond_false (by generalize a.eval c = u at hc; cases hc; rfl) (runC_sound hm hinl hfr y σ K ρ a w Q hr h hQ)
    · rename_i z he
      rw [he] at hc
      obtain ⟨h1, h2, h3⟩ := decF_both hr
      have hb : a.eval c = .bool z.tru := by
        generalize a.eval c = u at hc
        cases hc with | v _ _ hv => exact rv_bool hv h1
      exact wp_cond_split hb (fun ht => by obtain ⟨oc, q⟩ := h2 ht; exact runC_sound hm hinl hfr x { σ with orc := oc } K ρ a w Q q h hQ) (fun ht => by obtain ⟨oc, q⟩ := h3 ht; exact runC_sound hm hinl hfr y { σ with orc := oc } K ρ a w Q q h hQ)
    · exact hr.elim
  | .block id c, σ, K, ρ, a, w, Q, hr, h, hQ => by
    refine wp_block (runC_sound hm hinl hfr c σ _ ρ a w _ hr h fun e σ' ρ' a' w' hk h' => ?_)
    cases e with
    | exit i =>
      simp only at hk
      simp only [Exit.inBlock]
      split at hk
      · rename_i hi; rw [if_pos hi]; exact hQ _ _ _ _ _ hk h'
      · rename_i hi; rw [if_neg hi]; exact hQ _ _ _ _ _ hk h'
    | normal => exact hQ _ _ _ _ _ hk h'
    | goto i => exact hQ _ _ _ _ _ hk h'
    | ret => exact hQ _ _ _ _ _ hk h'
    | panic i => exact hQ _ _ _ _ _ hk h'
    | outgrown => exact hQ _ _ _ _ _ hk h'
  | .exit id, σ, K, ρ, a, w, Q, hr, h, hQ => wp_exit (hQ _ _ _ _ _ hr h)
  | .ret, σ, K, ρ, a, w, Q, hr, h, hQ => wp_ret (hQ _ _ _ _ _ hr h)
  | .loop c, σ0, K, ρ0', a, w, Q, hr, h0', hQ => by
    simp only [runC] at hr
    obtain ⟨ρ, h⟩ := rowify_ok (ann fid (Code.reg1 c)).nils h0'
    generalize rowify (ann fid (Code.reg1 c)).nils σ0 = σ1 at hr h
    obtain ⟨ρ, h⟩ := frzSlots_ok (Code.wr c) (ann fid (Code.reg1 c)).nils h
    generalize frzSlots (Code.wr c) (ann fid (Code.reg1 c)).nils σ1 = σ at hr h
    split at hr
    · exact hr.elim
    · rename_i xs hx
      split at hr
      · rename_i hck
        obtain ⟨Inv, μ, h1, h2⟩ := hr
        generalize hA : autoAnn (ann fid (Code.reg1 c)) (Code.wr c) σ = A at *
        obtain ⟨ρ0, h0⟩ := head_again hck (FrB.refl σ) (FrT.refl _ σ) hx h
        refine wp_loop_ghost (fun m a w => ∃ ys ρ, ys.length = xs.length ∧ Inv m ys ∧ HS base w0 ok0 (A.head σ ys) ρ a w) μ ⟨xs, ρ0, rfl, h1, h0⟩ ?_
        rintro m a w ⟨ys, ρ, hl, hy, hh⟩
        have hb := h2 m ys hl hy
        have hb' := runC_mono hfr c _ _ (fun e σ' => (match e with
            | .normal => match A.vals (frzSlots (Code.wr c) (ann fid (Code.reg1 c)).nils σ') with
              | some zs => if chk A (Code.wr c) (A.head σ ys) (frzSlots (Code.wr c) (ann fid (Code.reg1 c)).nils σ') then (fun zs => ∃ m', m' < m ∧ Inv m' zs) zs else fStuckL "a loop: its head does not come again" (A.head σ ys) σ'
              | none => fStuckL "a loop: what it carries, behind a round" (A.head σ ys) σ'
            | e => K e σ') ∧ FrB (A.head σ ys) σ' ∧ (e ≠ .ret → FrT (Code.wr c) (A.head σ ys) σ')) hb (fun e σ' hk q1 q2 _ => ⟨hk, q1, q2⟩)
        refine runC_sound hm hinl hfr c _ _ ρ a w _ hb' hh fun e σ' ρ' a' w' hk h' => ?_
        obtain ⟨hk, hfb, hft⟩ := hk
        cases e with
        | normal =>
          simp only at hk
          split at hk
          · rename_i zs hz
            split at hk
            · rename_i hck2
              have hzf := frzSlots_fr (Code.wr c) (ann fid (Code.reg1 c)).nils σ'
              obtain ⟨ρ4, h4⟩ := frzSlots_ok (Code.wr c) (ann fid (Code.reg1 c)).nils h'
              obtain ⟨ρ2, h3⟩ := head_again hck2 (hfb.trans hzf.1) (((hft (by simp)).trans hzf.2).mono fun t ht => by simpa using ht) hz h4
              obtain ⟨m', hlt, hI⟩ := hk
              exact ⟨m', hlt, zs, ρ2, by rw [vals_len hz, vals_len hx], hI, head_head h3⟩
            · exact hk.elim
          · exact hk.elim
        | exit i => exact hQ _ _ _ _ _ hk h'
        | goto i => exact hQ _ _ _ _ _ hk h'
        | ret => exact hQ _ _ _ _ _ hk h'
        | panic i => exact hQ _ _ _ _ _ hk h'
        | outgrown => exact hQ _ _ _ _ _ hk h'
      · exact hr.elim
  | .rangeFunc g ps as_ body, σ0, K, ρ0', a, w, Q, hr, h0', hQ => by
    simp only [runC] at hr
    obtain ⟨ρ, h⟩ := rowify_ok (ann fid (Code.reg1 body)).nils h0'
    generalize rowify (ann fid (Code.reg1 body)).nils σ0 = σ at hr h
    split at hr
    · rename_i t p hps
      split at hr
      · rename_i X hX
        split at hr
        · exact hr.elim
        · rename_i xs hxs
          split at hr
          · rename_i hck
            simp only [Bool.and_eq_true] at hck
            generalize hA : ({ drop := [], vs := [], rows := (ann fid (Code.reg1 body)).rows, cells := (ann fid (Code.reg1 body)).cells } : LoopAnn) = A at *
            obtain ⟨hf, cs, els, hXc, hIt, Inv, hI0, hIb, hIe⟩ := hr
            subst hXc
            obtain ⟨ρ0, h0⟩ := head_again hck.1.1 (FrB.refl σ) (FrT.refl _ σ) hxs h
            have hAt : ∀ ys, (A.head σ ys).tm.getD t .any = .v (.clo hf cs) := fun ys => by
              have hlt : t < σ.tm.length := by
                rcases Nat.lt_or_ge t σ.tm.length with q | q
                · exact q
                · exfalso
                  rw [List.getD_eq_getElem?_getD, List.getElem?_eq_none q] at hX
                  cases hX
              rw [head_tm _ _ _ _ hlt]
              unfold LoopAnn.tm
              rw [← hA]
              simpa using hX
            have hev : ∃ lb : Array Value, a.tmps.getD t undef = .func (.func hf) #[] lb ∧ lb.size = cs.length := by
              have := h.tms t
              rw [hX] at this
              generalize a.tmps.getD t undef = u at this
              cases this with
              | v _ _ hv =>
                cases hv with
                | clo _ _ vs hl h => exact ⟨vs, rfl, hl⟩
            obtain ⟨lb, hlb, hlbs⟩ := hev
            have hps' : ps = #[p] := by
              obtain ⟨ps⟩ := ps
              simp at hps; rw [hps]
            subst hps'
            obtain ⟨D, hD⟩ : ∃ D, D = w.heap.size := ⟨_, rfl⟩
            refine (wpIn_wide (n := 0)).1 (wpIn_rangeFunc fun fn hfn => ?_)
            obtain ⟨rec, hrec⟩ : ∃ rec : LoopState → Option Code → Loop, rec = fun st pe => { state := st, pending := pe, fn, tmps := a.tmps, params := #[p], assign := as_, body, defers := D } := ⟨_, rfl⟩
            obtain ⟨W1, hW1⟩ : ∃ W1, W1 = (w.alloc (.deferred (some []))).alloc (.loop (rec .ready none)) := ⟨_, rfl⟩
            have hb1 : Below w.heap.size w W1 := by rw [hW1]; exact ((Below.refl _ w).alloc (Nat.le_refl _) _).alloc (by simp) _
            have hL1 : W1.heap[D + 1]? = some (.loop (rec .ready none)) := by
              rw [hW1, hD]; have := World.alloc_heap_new (w.alloc (.deferred (some []))) (.loop (rec .ready none)); rwa [World.size_alloc] at this
            have hK1 : W1.heap[D]? = some (.deferred (some [])) := by
              rw [hW1, hD]; exact (Below.heap_alloc _ _ _ (by simp)).trans (World.alloc_heap_new w _)
            have hd1 : W1.drawn = w.drawn := by rw [hW1]; rfl
            have hbase : base ≤ D := by rw [hD]; exact h.low
            have hw0D : w0.heap.size ≤ D := by rw [hD]; exact h.nod.1.size
            have hko1 : KeepsOthers w W1 := ⟨hb1.size, fun k o hk _ => (hb1.block k (Array.getElem?_eq_some_iff.1 hk).1).trans hk⟩
            have h1 : HS base w0 ok0 (A.head σ xs) ρ0 a W1 := HR.conv h0 (Kc.below hb1) h.gl (h.bel.trans (hb1.mono h.low)) (h.nod.trans hko1) (by rw [hd1]; exact h.drw)
            obtain ⟨Ds, hDs, hDn, hDb⟩ := h.nod.2
            have hDlt : ∀ E ∈ Ds, E < D := fun E hE => by rw [hD]; exact (Array.getElem?_eq_some_iff.1 (hDb E hE).2.2).1
            refine ⟨D + 1, [mark D], W1, { target := .fn (.func hf) lb, args := #[.func (.yield (D + 1)) #[] #[]] }, W1, hf, #[.func (.yield (D + 1)) #[] #[]] ++ lb, W1, ?_, ?_, fun _ _ => trivial, ?_, fun q => (by cases q), ?_⟩
            · rw [hW1, hrec, hD]; exact run_enterLoop_outer _ _ _ _ _
            · have : a.eval (.tmp t) = .func (.func hf) #[] lb := hlb
              simp only [resolve, this]
              simp [go_sem]
            · have := hIt.1
              simp [invoke, go_sem]
              exact hIt.1 _ _
            refine callsIn_wide.2 (Calls.mono (hIt.2 (D + 1) (fun pre W => ∃ ys ρ, ys.length = xs.length ∧ Inv pre ys ∧ HS base w0 ok0 (A.head σ ys) ρ a W ∧ W.heap[D + 1]? = some (.loop (rec .ready none)) ∧ W.heap[D]? = some (.deferred (some []))) lb W1 hlbs ?_ ?_ ?_ ⟨xs, ρ0, rfl, hI0, h1, hL1, hK1⟩) ?_)
            · rintro pre B C ⟨ys, ρ, e1, e2, e3, e4, e5⟩ hbe hdr
              have hko : KeepsOthers B C := ⟨hbe.size, fun k o hk _ => (hbe.block k (Array.getElem?_eq_some_iff.1 hk).1).trans hk⟩
              exact ⟨ys, ρ, e1, e2, HR.conv e3 (Kc.below hbe) e3.gl (e3.bel.trans (hbe.mono e3.low)) (e3.nod.trans hko) (Nat.le_trans e3.drw hdr), hko.same _ _ e4 rfl, hko.same _ _ e5 rfl⟩
            · rintro pre B ⟨ys, ρ, e1, e2, e3, e4, e5⟩
              refine ⟨fun g => okR (okF base ok0 (A.head σ ys).blk ρ) ρ [] g ∧ g < B.heap.size, fun g hg => hg.2, e3.glob [], fun i hi => ?_⟩
              have := e3.tms t
              rw [hAt ys, hlb] at this
              cases this with
              | v _ _ hv =>
                cases hv with
                | clo _ _ vs hl hh => exact (hh i hi).mono fun g hg hlt => ⟨⟨.inl hg, hlt⟩, rfl⟩
            · rintro pre x rest v B n hxr ⟨ys, ρ, e1, e2, e3, e4, e5⟩ hv
              have hy := run_yield (P := P) (args := #[v]) e4 (by simp [hrec])
              rw [hrec] at hy
              refine ⟨fn, a.tmps.setIfInBounds p v, as_, body, by simpa using hy, roundIn_of_wpIn hfn ?_⟩
              have hb := hIb pre x rest ys hxr e1 e2
              have hb0 := hb a.tmps
              clear hb
              generalize hσh : A.head σ ys = σh at hb0 e3 hAt
              have hdead : σh.blk σh.clk = .dead := e3.frs σh.clk (fun q => Nat.lt_irrefl _ q)
              have hr1 : HS base B ok0 _ ρ { tmps := a.tmps.setIfInBounds p v, defers := [] } B := round_start (σ := σh) (HR.fresh e3) hv p
              have hpsz : (({ tmps := a.tmps, defers := [] } : Act)).tmps.size = σh.tm.length := e3.size
              have hblt : D + 1 < B.heap.size := (Array.getElem?_eq_some_iff.1 e4).1
              have hmono := runC_mono hfr as_ _ _ (fun e σ2 => (match e with
                | .normal => runC P Γ inl ann fid body σ2 fun e σ' => (match e with
                  | .normal => if (preOf ⟨σh.tm.set p (.v x), (σh.clk, .sv σh.tm a.tmps) :: σh.bl, σh.clk + 64, σh.lft.orc⟩ σ').contains σh.clk then fStuck "saved slots" else
                      (match A.vals ⟨σh.tm, (σh.clk, .dead) :: σ'.bl, σ'.clk, σ'.orc⟩ with
                        | some zs => if chk A [] σh ⟨σh.tm, (σh.clk, .dead) :: σ'.bl, σ'.clk, σ'.orc⟩ then Inv (pre ++ [x]) zs else fStuckL "a loop over a function: its head does not come again" σh ⟨σh.tm, (σh.clk, .dead) :: σ'.bl, σ'.clk, σ'.orc⟩
                        | none => fStuckL "a loop over a function: what it carries, behind a round" σh ⟨σh.tm, (σh.clk, .dead) :: σ'.bl, σ'.clk, σ'.orc⟩)
                  | _ => fStuck "a round is left")
                | _ => fStuck "a loop's variable") ∧ FrB ⟨σh.tm.set p (.v x), (σh.clk, .sv σh.tm a.tmps) :: σh.bl, σh.clk + 64, σh.lft.orc⟩ σ2) hb0 (fun e σ2 hk q1 _ _ => ⟨hk, q1⟩)
              refine runC_round hm hinl (D + 1) n as_ _ _ ρ _ B _ hck.1.2 hmono hr1 (fun e σ2 ρ2 a2 w2 hk2 h2 => ?_) (fun ⟨_, _, q⟩ => q)
              obtain ⟨hk2, hfb2⟩ := hk2
              cases e with
              | normal =>
                simp only at hk2
                have h2o := h2.nod.1
                have e4' := h2o.same _ _ e4 rfl
                have e5' := h2o.same _ _ e5 rfl
                obtain ⟨w3, hw3⟩ : ∃ w3, w3 = w2.putObj (D + 1) (.loop { rec .ready none with state := .busy }) := ⟨_, rfl⟩
                have hlt2 : D + 1 < w2.heap.size := (Array.getElem?_eq_some_iff.1 e4').1
                have hb3 : Below base w2 w3 := by rw [hw3]; exact (Below.refl base w2).grown (grownBy_putObj' w2 (D + 1) _) (Nat.le_trans (by omega) (Nat.le_refl _)) (fun k e => by injection e with e; omega)
                have hk3 : Kc w2 w3 := by rw [hw3]; exact Kc.putObj _ e4' rfl
                obtain ⟨B2, hB2⟩ : ∃ B2, B2 = B.putObj (D + 1) (.loop { rec .ready none with state := .busy }) := ⟨_, rfl⟩
                have hbB : Below base B B2 := by rw [hB2]; exact (Below.refl base B).grown (grownBy_putObj' B (D + 1) _) e3.low (fun k e => by injection e with e; omega)
                have hszB : B2.heap.size = B.heap.size := by rw [hB2]; simp
                have e43 : B2.heap[D + 1]? = some (.loop { rec .ready none with state := .busy }) := by rw [hB2]; exact World.putObj_heap_same hblt
                have e53 : B2.heap[D]? = some (.deferred (some [])) := by rw [hB2]; exact (World.putObj_heap_other (by omega)).trans e5
                have h3 : HS base B2 ok0 σ2 ρ2 a2 w3 := by
                  refine HR.conv h2 hk3 (h2.gl.later hbB) ⟨?_, ?_, ?_, ?_, ?_⟩ ?_ ?_
                  · rw [hw3, hB2]; exact h2.bel.os
                  · rw [hw3, hB2]; exact h2.bel.tape
                  · rw [hw3, hB2]; exact h2.bel.output
                  · rw [hw3, hszB]; simpa using h2o.size
                  · intro k hk
                    rw [hw3, hB2]
                    exact (World.putObj_heap_other (by omega)).trans ((h2.bel.block k hk).trans (World.putObj_heap_other (by omega)).symm)
                  · obtain ⟨z1, Ds2, z2, z3, z4⟩ := h2.nod
                    refine ⟨⟨by rw [hw3, hszB]; simpa using z1.size, fun k o hk ho => ?_⟩, Ds2, z2, z3, fun E hE => ⟨(z4 E hE).1, by rw [hszB]; exact (z4 E hE).2.1, ?_⟩⟩
                    · by_cases hkl : k = D + 1
                      · subst hkl
                        rw [e43] at hk
                        rw [hw3, World.putObj_heap_same hlt2]; exact hk
                      · rw [hB2, World.putObj_heap_other hkl] at hk
                        rw [hw3, World.putObj_heap_other hkl]
                        exact z1.same k o hk ho
                    · rw [hw3]
                      refine (World.putObj_heap_other (fun e => ?_)).trans (z4 E hE).2.2
                      have := (z4 E hE).2.2
                      rw [e, e4'] at this
                      cases this
                  · rw [hw3, hB2]; exact h2.drw
                show ∃ w₂, (Instr.beginRound (D + 1)).run P w2 = .ok () w₂ ∧ _
                refine ⟨w3, by have := run_beginRound (P := P) e4' (by rw [hrec]); rw [hw3]; exact this, ?_⟩
                have hm2 := runC_mono hfr body _ _ (fun e σ' => (match e with
                  | .normal => if (preOf ⟨σh.tm.set p (.v x), (σh.clk, .sv σh.tm a.tmps) :: σh.bl, σh.clk + 64, σh.lft.orc⟩ σ').contains σh.clk then fStuck "saved slots" else
                      (match A.vals ⟨σh.tm, (σh.clk, .dead) :: σ'.bl, σ'.clk, σ'.orc⟩ with
                        | some zs => if chk A [] σh ⟨σh.tm, (σh.clk, .dead) :: σ'.bl, σ'.clk, σ'.orc⟩ then Inv (pre ++ [x]) zs else fStuckL "a loop over a function: its head does not come again" σh ⟨σh.tm, (σh.clk, .dead) :: σ'.bl, σ'.clk, σ'.orc⟩
                        | none => fStuckL "a loop over a function: what it carries, behind a round" σh ⟨σh.tm, (σh.clk, .dead) :: σ'.bl, σ'.clk, σ'.orc⟩)
                  | _ => fStuck "a round is left") ∧ FrB σ2 σ') hk2 (fun e σ' hk q1 _ _ => ⟨hk, q1⟩)
                refine runC_round hm hinl (D + 1) n body _ _ ρ2 a2 w3 _ hck.2 hm2 h3 (fun e σ' ρ' a' w4 hk' h4 => ?_) (fun ⟨_, _, q⟩ => q)
                obtain ⟨hk', hfb4⟩ := hk'
                cases e with
                | normal =>
                  simp only at hk'
                  split at hk'
                  · exact hk'.elim
                  · rename_i hpre
                    split at hk'
                    · rename_i zs hz
                      split at hk'
                      · rename_i hck4
                        have h4o := h4.nod.1
                        have e44 := h4o.same _ _ e43 rfl
                        have e54 := h4o.same _ _ e53 rfl
                        have hlt4 : D + 1 < w4.heap.size := (Array.getElem?_eq_some_iff.1 e44).1
                        have hr4 := run_endRound (P := P) none e44
                        obtain ⟨w5, hw5⟩ : ∃ w5, w5 = w4.putObj (D + 1) (.loop (rec .ready none)) := ⟨_, rfl⟩
                        have hend : (Instr.endRound (D + 1) none).run P w4 = .ok (.bool true) w5 := by
                          rw [hw5]; rw [hrec] at hr4 ⊢; exact hr4
                        refine ⟨_, w5, hend, rfl, zs, ?_⟩
                        obtain ⟨r1, r2⟩ := round_end (a := { tmps := a.tmps, defers := [] }) p x hpsz h4 (hfb2.trans hfb4) hdead hpre a'.defers rfl
                        obtain ⟨ρ5, r3⟩ := head_again hck4 r2 (FrT.refl _ _) hz r1
                        rw [← hσh] at r3
                        have r4 := head_head r3
                        have hb5 : Below base w4 w5 := by rw [hw5]; exact (Below.refl base w4).grown (grownBy_putObj' w4 (D + 1) _) (Nat.le_trans (by omega) (Nat.le_refl _)) (fun k e => by injection e with e; omega)
                        have hk5 : Kc w4 w5 := by rw [hw5]; exact Kc.putObj _ e44 rfl
                        have hko : ∀ k o, B.heap[k]? = some o → o.isCells = false → k ≠ D + 1 → w5.heap[k]? = some o := fun k o hk ho hne => by
                          have q2 : B2.heap[k]? = some o := by rw [hB2]; exact (World.putObj_heap_other hne).trans hk
                          have q3 := h4o.same k o q2 ho
                          rw [hw5]; exact (World.putObj_heap_other hne).trans q3
                        have hsz5 : B.heap.size ≤ w5.heap.size := by
                          have q2 := h4o.size
                          have q4 : w5.heap.size = w4.heap.size := by rw [hw5]; simp
                          omega
                        have hdr5 : B.drawn ≤ w5.drawn := by
                          have q2 := h4.drw
                          have q3 : B2.drawn = B.drawn := by rw [hB2]; rfl
                          have q4 : w5.drawn = w4.drawn := by rw [hw5]; rfl
                          omega
                        have hbel5 : Below base B w5 := (hbB.trans h4.bel).trans hb5
                        refine ⟨ρ5, by rw [vals_len hz, vals_len hxs], hk', HR.conv r4 hk5 e3.gl (e3.bel.trans hbel5) ?_ (Nat.le_trans e3.drw hdr5), by rw [hw5]; exact World.putObj_heap_same hlt4, hko D _ e5 rfl (by omega)⟩
                        obtain ⟨z1, Ds2, z2, z3, z4⟩ := e3.nod
                        refine ⟨⟨Nat.le_trans z1.size hsz5, fun k o hk ho => hko k o (z1.same k o hk ho) ho (by have := (Array.getElem?_eq_some_iff.1 hk).1; omega)⟩, Ds2, z2, z3, fun E hE => ⟨(z4 E hE).1, (z4 E hE).2.1, hko E _ (z4 E hE).2.2 rfl (fun e => ?_)⟩⟩
                        have := (z4 E hE).2.2
                        rw [e, e4] at this
                        cases this
                      · exact hk'.elim
                    · exact hk'.elim
                | _ => exact hk'.elim
              | _ => exact hk2.elim
            · rintro e W2 ⟨⟨v, rfl⟩, ys, ρ, e1, e2, e3, e4, e5⟩
              refine ⟨none, W2.putObj (D + 1) (.loop { rec .ready none with state := .exhausted }), by have := run_endLoop (P := P) e4 (by rw [hrec]; simp); rw [hrec] at this ⊢; exact this, ?_⟩
              have hk2 := hIe ys e1 e2
              refine hQ .normal _ ρ _ _ hk2 ?_
              refine HR.conv (a := a) e3 (Kc.putObj _ e4 rfl) e3.gl (e3.bel.grown (grownBy_putObj' W2 (D + 1) _) e3.low (fun k e => by injection e with e; omega)) ?_ e3.drw
              refine ⟨⟨by simpa using e3.nod.1.size, fun k o hk ho => (World.putObj_heap_other (by have := (Array.getElem?_eq_some_iff.1 hk).1; omega)).trans (e3.nod.1.same k o hk ho)⟩, D :: Ds, by rw [List.map_cons, ← hDs]; rfl, List.nodup_cons.2 ⟨fun q => Nat.lt_irrefl _ (hDlt D q), hDn⟩, fun E hE => ?_⟩
              rcases List.mem_cons.1 hE with rfl | hE
              · exact ⟨hbase, hw0D, (World.putObj_heap_other (by omega)).trans e5⟩
              · obtain ⟨_, Ds2, q2, q3, q4⟩ := e3.nod
                have hEq : Ds = Ds2 := by
                  have : Ds.map mark = Ds2.map mark := hDs.symm.trans q2
                  exact (List.map_inj_right (fun a b e => by injection e with e _; injection e)).1 this
                exact ⟨(hDb E hE).1, (hDb E hE).2.1, (World.putObj_heap_other (by have := hDlt E hE; omega)).trans (q4 E (hEq ▸ hE)).2.2⟩
          · exact hr.elim
      · exact hr.elim
    · exact hr.elim
  | .scope x, σ, K, ρ, a, w, Q, hr, h, hQ => hr.elim
  | .label i, σ, K, ρ, a, w, Q, hr, h, hQ => hr.elim
  | .goto i, σ, K, ρ, a, w, Q, hr, h, hQ => hr.elim
  | .refuse s, σ, K, ρ, a, w, Q, hr, h, hQ => hr.elim
end
end Go.Proofs.Ytfdpbfdhcngfgaa
