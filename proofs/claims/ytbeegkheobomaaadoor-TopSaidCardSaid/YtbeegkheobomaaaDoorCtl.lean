/- The run of a function's text is sound. -/
import Derived.Test.YtbeegkheobomaaaDoorLoop
import Derived.Deep.LoopGhost
namespace Go.Proofs.YtbeegkheobomaaaDoor
open Go.RowKit
set_option linter.unusedVariables false
set_option linter.unusedSimpArgs false
theorem vals_len {A : LoopAnn} {σ : DS} {zs : List AV} (h : A.vals σ = some zs) : zs.length = A.vs.length + A.rows.length + A.cells.length := by
  unfold LoopAnn.vals at h
  split at h
  · rename_i a b c h1 h2 h3
    simp only [Option.some.injEq] at h
    subst h
    simp only [List.length_append, (slotsV_get h1).1, (rowsV_get h2).1, (cellsV_get h3).1]
  · cases h
theorem cell_cell (A : LoopAnn) (ys zs : List AV) (b o : Nat) (d : DE) : A.cell zs b o (A.cell ys b o d) = A.cell zs b o d := by
  unfold LoopAnn.cell
  split <;> rfl
theorem blkOf_blkOf (A : LoopAnn) (ys zs : List AV) (b : Nat) (d : DB) : A.blkOf zs b (A.blkOf ys b d) = A.blkOf zs b d := by
  cases d with
  | row e s n x =>
    cases hq : A.rows.idxOf? b with
    | none => simp only [LoopAnn.blkOf, hq]
    | some k => simp only [LoopAnn.blkOf, hq]
  | cells t cs =>
    simp only [LoopAnn.blkOf]
    congr 1
    apply List.ext_getElem?
    intro o
    simp only [List.getElem?_map, List.getElem?_zipIdx]
    cases cs[o]? with
    | none => rfl
    | some d => simp only [Option.map_some, Nat.zero_add, cell_cell]
  | dead => rfl
  | fz n x => rfl
  | sv ds vs => rfl
section
variable {P : Program} {Γ : FuncId → Option Ca} {inl : Inl} {base : Nat} {w0 : World} {ok0 : Nat → Prop} {ann : FuncId → Nat → LoopEx} {fid : FuncId}
theorem rowify1_ok (q : Nat × Nat × TypeId × Nat) {σ : DS} {ρ : Nat → Value} {a : Act} {w : World} (h : HS base w0 ok0 σ ρ a w) : ∃ ρ', HS base w0 ok0 (rowify1 σ q) ρ' a w := by
  obtain ⟨b, o, e, s⟩ := q
  unfold rowify1
  split
  · rename_i t cs hb
    simp only at hb ⊢
    split
    · rename_i hc
      simp only [Bool.and_eq_true, decide_eq_true_eq] at hc
      obtain ⟨hnil, hs⟩ := hc
      have hnil' : cs.getD o .any = .nil := by
        revert hnil
        generalize cs.getD o .any = d
        cases d <;> simp [isNilD]
      have ho : o < cs.length := by
        apply Classical.byContradiction
        intro hh
        rw [List.getD_eq_getElem?_getD, List.getElem?_eq_none (by omega)] at hnil'
        cases hnil'
      have hdead : σ.blk σ.clk = .dead := h.frs σ.clk (by show ¬ σ.clk < σ.clk; omega)
      have hne : b ≠ σ.clk := fun x => by rw [x, hdead] at hb; cases hb
      have hblt : b < σ.clk := Classical.byContradiction fun x => by have := h.frs b x; rw [hb] at this; cases this
      have hblk : ∀ c, (DS.mk σ.tm ((b, .cells t (cs.set o (.row σ.clk σ.clk))) :: (σ.clk, .row e s σ.clk (AV.mk s [])) :: σ.bl) (σ.clk + 64) σ.orc).blk c = if c = b then .cells t (cs.set o (.row σ.clk σ.clk)) else if c = σ.clk then .row e s σ.clk (AV.mk s []) else σ.blk c := fun c => by
        have : (DS.mk σ.tm ((b, .cells t (cs.set o (.row σ.clk σ.clk))) :: (σ.clk, .row e s σ.clk (AV.mk s [])) :: σ.bl) (σ.clk + 64) σ.orc).blk = updB σ.blk [(b, .cells t (cs.set o (.row σ.clk σ.clk))), (σ.clk, .row e s σ.clk (AV.mk s []))] := blk_app σ [(b, .cells t (cs.set o (.row σ.clk σ.clk))), (σ.clk, .row e s σ.clk (AV.mk s []))] _ _ _
        rw [this, updB_cons, updB_cons]; rfl
      refine ⟨fun c => if c = σ.clk then .slice none 0 0 else ρ c, ?_⟩
      refine HR.step h (fun c => c = b ∨ c = σ.clk) (fun c hc => ?_) (fun c hc => ?_) (fun c t' cs' hc hk => ?_) (fun c n x hc hk => ?_) (fun n hn => ?_) (fun c hc => ?_) (fun c n hc hn hst => ?_) (Nat.le_refl _) (fun _ _ _ => rfl) (fun c hc hl g hg => ?_) (fun c c' hc hc' hl hl' hcc g hg hg' => ?_) rfl rfl rfl (fun H1 H5 c hc => ?_) (fun _ t => .inl ⟨rfl, rfl⟩) h.size h.nod
      · rw [hblk, if_neg (fun x => hc (.inl x)), if_neg (fun x => hc (.inr x))]
      · show (if c = σ.clk then _ else ρ c) = ρ c
        rw [if_neg (fun x => hc (.inr x))]
      · show (if c = σ.clk then _ else ρ c) = ρ c
        rw [if_neg (fun x => by rw [x, hdead] at hk; cases hk)]
      · rcases hc with rfl | rfl
        · rw [hb] at hk; cases hk
        · rw [hdead] at hk; cases hk
      · have : n < σ.clk := hn
        show n < σ.clk + 64; omega
      · show c < σ.clk + 64
        rcases hc with rfl | rfl <;> omega
      · rw [hblk] at hst
        rcases hc with rfl | rfl
        · rw [if_pos rfl] at hst; cases hst
        · rw [if_neg (Ne.symm hne), if_pos rfl] at hst
          injection hst with hst
          have : n < σ.clk := hn
          omega
      · rcases hc with rfl | rfl
        · left
          refine ⟨by rw [hb]; rfl, ?_⟩
          simp only [if_neg hne] at hg
          exact hg
        · simp only [if_true, blkNo] at hg
          cases hg
      · rcases hc with rfl | rfl
        · rcases hc' with rfl | rfl
          · exact hcc rfl
          · simp only [if_true, blkNo] at hg'; cases hg'
        · simp only [if_true, blkNo] at hg; cases hg
      · rw [hblk]
        rcases hc with rfl | rfl
        · rw [if_pos rfl]
          obtain ⟨g, vs, e1, e2, e3, e4, e5, e6⟩ := (show RB w (okF base ok0 σ.blk ρ) ρ σ.blk (fun n => n < σ.clk) base c (.cells t cs) from hb ▸ h.blks c)
          refine ⟨g, vs, by show (if c = σ.clk then _ else ρ c) = _; rw [if_neg hne]; exact e1, e2, e3, by rw [List.length_set]; exact e4, fun i hi => e5 i (by rw [List.length_set] at hi; exact hi), fun i hi => ?_⟩
          have hi' : i < cs.length := by rw [List.length_set] at hi; exact hi
          by_cases hio : i = o
          · subst hio
            have hv := e6 i hi'
            rw [hnil'] at hv
            have e7 : (cs.set i (.row σ.clk σ.clk)).getD i .any = .row σ.clk σ.clk := by
              rw [List.getD_eq_getElem?_getD, List.getElem?_set_self ho]; rfl
            rw [e7]
            generalize vs.getD i undef = u at hv
            cases hv
            exact .row _ _ _ (by show σ.clk < σ.clk + 64; omega) rfl fun _ => by simp
          · have e7 : (cs.set o (.row σ.clk σ.clk)).getD i .any = cs.getD i .any := by
              rw [List.getD_eq_getElem?_getD, List.getElem?_set_ne (Ne.symm hio), List.getD_eq_getElem?_getD]
            rw [e7]
            exact H5 _ _ (e6 i hi')
        · rw [if_neg (Ne.symm hne), if_pos rfl]
          refine ⟨by show σ.clk < σ.clk + 64; omega, ?_⟩
          show RRow w base e s _ (AV.mk s []) (if σ.clk = σ.clk then _ else _)
          rw [if_pos rfl]
          exact RRow.nil w base e s (by omega) _
    · exact ⟨ρ, h⟩
  · exact ⟨ρ, h⟩
theorem rowify_ok : ∀ (l : List (Nat × Nat × TypeId × Nat)) {σ : DS} {ρ : Nat → Value} {a : Act} {w : World}, HS base w0 ok0 σ ρ a w → ∃ ρ', HS base w0 ok0 (rowify l σ) ρ' a w
  | [], _, ρ, _, _, h => ⟨ρ, h⟩
  | q :: l, _, _, _, _, h => by
    obtain ⟨ρ1, h1⟩ := rowify1_ok q h
    exact rowify_ok l h1
theorem head_head {A : LoopAnn} {σ : DS} {ys zs : List AV} {ρ : Nat → Value} {a : Act} {w : World} (h : HS base w0 ok0 (A.head (A.head σ ys) zs) ρ a w) : HS base w0 ok0 (A.head σ zs) ρ a w := by
  have hl1 := (head_frB A σ zs).2.1
  have hl2 := (head_frB A (A.head σ ys) zs).2.1
  have hl3 := (head_frB A σ ys).2.1
  refine HR.congr h (fun t => ?_) (by rw [hl1, hl2, hl3]) (fun b => ?_) (fun n hn => hn)
  · by_cases ht : t < σ.tm.length
    · rw [head_tm A σ zs t ht, head_tm A (A.head σ ys) zs t (by omega), head_tm A σ ys t ht]
      unfold LoopAnn.tm
      split
      · rfl
      · split <;> rfl
    · rw [List.getD_eq_getElem?_getD, List.getElem?_eq_none (by omega), List.getD_eq_getElem?_getD, List.getElem?_eq_none (by omega)]
  · rw [head_blk, head_blk, head_blk]
    split
    · rw [blkOf_blkOf]
    · rfl
theorem frzSlot_ok {ρ : Nat → Value} {a : Act} {w : World} {σ : DS} (t : Nat) (h : HS base w0 ok0 σ ρ a w) : HS base w0 ok0 (frzSlot σ t) ρ a w := by
  have key : ∀ (σ : DS) (b n : Nat) (x : AV), HS base w0 ok0 σ ρ a w → σ.tm.getD t .any = .row b n → σ.blk b = .fz n x → HS base w0 ok0 { σ with tm := σ.tm.set t (.v x) } ρ a w := fun σ b n x h ht hb => by
    have hB := h.blks b
    rw [hb] at hB
    refine ⟨fun t' => ?_, h.blks, h.inj, h.frs, by rw [h.size]; simp, h.nod, h.bel, h.low, h.drw, h.gl⟩
    have h1 := h.tms t'
    show RD w _ ρ _ _ ((σ.tm.set t (.v x)).getD t' .any) _
    by_cases e : t' = t
    · subst e
      have hlt : t' < σ.tm.length := Classical.byContradiction fun q => by rw [List.getD_eq_getElem?_getD, List.getElem?_eq_none (by omega)] at ht; cases ht
      have e2 : (σ.tm.set t' (.v x)).getD t' .any = .v x := by simp [List.getD_eq_getElem?_getD, hlt]
      rw [e2]
      rw [ht] at h1
      generalize a.tmps.getD t' undef = v at h1
      cases h1 with
      | row _ _ _ hn h1' hs =>
        rw [hs (by rw [hb]; rfl)]
        exact .v _ _ hB.2.1
    · have e2 : (σ.tm.set t (.v x)).getD t' .any = σ.tm.getD t' .any := by
        simp only [List.getD_eq_getElem?_getD]
        rw [List.getElem?_set_ne (fun q => e q.symm)]
      rw [e2]; exact h1
  unfold frzSlot
  split
  · rename_i b n ht
    split
    · rename_i e s m x hb
      split
      · rename_i hmn
        subst hmn
        have hf := HR.freeze (fview_ok σ) h [b]
        have e1 : σ.fview.frz [b] = [(b, .fz m x)] := by
          have hb' : σ.fview.bl b = .row e s m x := hb
          simp [View.frz, hb']
        rw [e1] at hf
        have h1 : HS base w0 ok0 (DS.mk σ.tm ((b, .fz m x) :: σ.bl) σ.clk σ.orc) ρ a w := by
          unfold HS
          rw [show (DS.mk σ.tm ((b, .fz m x) :: σ.bl) σ.clk σ.orc).blk = updB σ.blk [(b, .fz m x)] from blk_app σ [(b, .fz m x)] _ _ _]
          exact hf
        exact key _ b m x h1 ht (by simp [DS.blk])
      · exact h
    · rename_i m x hb
      split
      · rename_i hmn
        subst hmn
        exact key σ b m x h ht hb
      · exact h
    · exact h
  · exact h
theorem frzBlk_ok {ρ : Nat → Value} {a : Act} {w : World} {σ : DS} (t : Nat) (h : HS base w0 ok0 σ ρ a w) : HS base w0 ok0 (frzBlk σ t) ρ a w := by
  unfold frzBlk
  split
  · rename_i b n ht
    have hf := HR.freeze (fview_ok σ) h [b]
    unfold HS
    rw [show (DS.mk σ.tm (σ.fview.frz [b] ++ σ.bl) σ.clk σ.orc).blk = updB σ.blk (σ.fview.frz [b]) from blk_app σ _ _ _ _]
    exact hf
  · exact h
theorem rebind_ok {ρ : Nat → Value} {a : Act} {w : World} {σ : DS} (t b0 : Nat) (h : HS base w0 ok0 σ ρ a w) : ∃ ρ', HS base w0 ok0 (rebind σ t b0) ρ' a w := by
  unfold rebind
  split
  · rename_i b n ht
    split
    · exact ⟨ρ, h⟩
    · rename_i hbb
      split
      · rename_i e s m x hb
        split
        · rename_i hc
          obtain ⟨rfl, hlt, hnc⟩ := hc
          have hB := h.blks b
          rw [hb] at hB
          have hbl : (DS.mk (σ.tm.set t (.row b0 σ.clk)) ((b0, .row e s σ.clk x) :: (b, .dead) :: σ.bl) (σ.clk + 64) σ.orc).blk = updB σ.blk [(b0, .row e s σ.clk x), (b, .dead)] := blk_app σ [(b0, .row e s σ.clk x), (b, .dead)] _ _ _
          have u0 : updB σ.blk [(b0, .row e s σ.clk x), (b, .dead)] b0 = .row e s σ.clk x := by simp [updB]
          have u1 : updB σ.blk [(b0, .row e s σ.clk x), (b, .dead)] b = .dead := by
            simp [updB, List.find?_cons, show ¬ (b0 == b) = true by simpa using fun q => hbb q.symm]
          have u2 : ∀ c, c ≠ b0 → c ≠ b → updB σ.blk [(b0, .row e s σ.clk x), (b, .dead)] c = σ.blk c := fun c h1 h2 => updB_of_not (by simp [h1, h2])
          refine ⟨fun c => if c = b0 then ρ b else if c = b then undef else ρ c, ?_⟩
          show HR base w0 ok0 (fun n => n < σ.clk + 64) (σ.tm.set t (.row b0 σ.clk)) (DS.mk (σ.tm.set t (.row b0 σ.clk)) ((b0, .row e s σ.clk x) :: (b, .dead) :: σ.bl) (σ.clk + 64) σ.orc).blk _ a w
          rw [hbl]
          have hisb : b < σ.clk := Classical.byContradiction fun q => by
            have := h.frs b q
            rw [hb] at this; cases this
          refine HR.step2 h (fun c => c = b0 ∨ c = b) (fun c hc => u2 c (fun q => hc (.inl q)) (fun q => hc (.inr q))) (fun c hc => ?_) (fun c t' cs hc hk => ?_)
            (fun n hn => by have : n < σ.clk := hn; show n < σ.clk + 64; omega) (fun c hc => by show c < σ.clk + 64; rcases hc with rfl | rfl <;> omega) (fun c n' hc hn' hst => ?_) (Nat.le_refl _) (fun _ _ _ => rfl)
            (fun c hc hl g hg => ?_) (fun c c' hc hc' hl hl' hne => ?_) rfl rfl rfl (fun H1 H5 c hc => ?_) (fun H1 t' => ?_) (by rw [h.size]; simp) h.nod
          · simp [show c ≠ b0 from fun q => hc (.inl q), show c ≠ b from fun q => hc (.inr q)]
          · rcases hc with rfl | rfl
            · rw [hk] at hnc; cases hnc
            · rw [hb] at hk; cases hk
          · rcases hc with rfl | rfl
            · rw [u0] at hst
              have : σ.clk = n' := by simpa [stampOf] using hst
              have hn2 : n' < σ.clk := hn'
              omega
            · rw [u1] at hst; cases hst
          · rcases hc with rfl | rfl
            · simp only [if_true] at hg
              exact .inl ⟨b, .inr rfl, by rw [hb]; rfl, hg⟩
            · rw [u1] at hl; cases hl
          · rcases hc with rfl | rfl
            · rcases hc' with rfl | rfl
              · exact absurd rfl hne
              · rw [u1] at hl'; cases hl'
            · rw [u1] at hl; cases hl
          · rcases hc with rfl | rfl
            · rw [u0]
              refine ⟨by show σ.clk < σ.clk + 64; omega, ?_⟩
              simp only [if_true]
              exact hB.2.keep (fun _ _ => rfl) H1
            · rw [u1]
              show (if c = b0 then ρ c else if c = c then undef else ρ c) = undef
              rw [if_neg hbb, if_pos rfl]
          · by_cases e2 : t' = t
            · right
              subst e2
              have hlt' : t' < σ.tm.length := Classical.byContradiction fun q => by rw [List.getD_eq_getElem?_getD, List.getElem?_eq_none (by omega)] at ht; cases ht
              have e3 : (σ.tm.set t' (.row b0 σ.clk)).getD t' .any = .row b0 σ.clk := by simp [List.getD_eq_getElem?_getD, hlt']
              rw [e3]
              have h1 := h.tms t'
              rw [ht] at h1
              generalize a.tmps.getD t' undef = v at h1
              cases h1 with
              | row _ _ _ hn h1' hs =>
                refine .row _ _ _ (by show σ.clk < σ.clk + 64; omega) h1' fun _ => ?_
                simp only [if_true]
                exact hs (by rw [hb]; rfl)
            · left
              refine ⟨?_, rfl⟩
              simp only [List.getD_eq_getElem?_getD]
              rw [List.getElem?_set_ne (fun q => e2 q.symm)]
        · exact ⟨ρ, h⟩
      · exact ⟨ρ, h⟩
  · exact ⟨ρ, h⟩
theorem frzQ_ok {ρ : Nat → Value} {a : Act} {w : World} {σ : DS} (W : List Nat) (q : Nat × Nat × TypeId × Nat) (h : HS base w0 ok0 σ ρ a w) : ∃ ρ', HS base w0 ok0 (frzQ W σ q) ρ' a w := by
  unfold frzQ
  split
  · split
    · exact ⟨ρ, frzBlk_ok _ h⟩
    · split
      · split
        · exact rebind_ok _ _ h
        · exact ⟨ρ, frzSlot_ok _ h⟩
      · exact ⟨ρ, h⟩
  · exact ⟨ρ, h⟩
theorem frzSlots_ok {a : Act} {w : World} (W : List Nat) : ∀ (l : List (Nat × Nat × TypeId × Nat)) {σ : DS} {ρ : Nat → Value}, HS base w0 ok0 σ ρ a w → ∃ ρ', HS base w0 ok0 (frzSlots W l σ) ρ' a w
  | [], σ, ρ, h => ⟨ρ, h⟩
  | q :: l, σ, ρ, h => by
    obtain ⟨ρ1, h1⟩ := frzQ_ok W q h
    exact frzSlots_ok W l h1
/-- **The run is sound.** -/
theorem runC_sound (hm : P.follows .mixedOrders = true) (hinl : InlOk P inl) (hfr : InlFr inl) : ∀ (c : Code) (σ : DS) (K : Exit → DS → Prop) (ρ : Nat → Value) (a : Act) (w : World) (Q : Exit → Act → World → Prop), runC P Γ inl ann fid c σ K → HS base w0 ok0 σ ρ a w → (∀ e σ' ρ' a' w', K e σ' → HS base w0 ok0 σ' ρ' a' w' → Q e a' w') → c.wp P Q a w
  | .skip, σ, K, ρ, a, w, Q, hr, h, hQ => wp_skip (hQ _ _ _ _ _ hr h)
  | .region id ops dr, σ, K, ρ, a, w, Q, hr, h, hQ => by
    have hr' : regF P Γ inl dr ops.toList [] [] ops.toList (preFz dr ops.toList σ) (K .normal) := hr
    replace h : HS base w0 ok0 (preFz dr ops.toList σ) ρ a w := by
      unfold preFz
      split
      · have hf := HR.freeze (fview_ok σ) h (preRows ops.toList σ)
        unfold HS
        rw [show (DS.mk σ.tm (σ.fview.frz (preRows ops.toList σ) ++ σ.bl) σ.clk σ.orc).blk = updB σ.blk (σ.fview.frz (preRows ops.toList σ)) from blk_app σ _ _ _ _]
        exact hf
      · exact h
    generalize preFz dr ops.toList σ = σ at hr' h
    cases dr with
    | false =>
      refine wp_region ?_
      have := regF_sound (Q := Q) hinl (fun σ' ρ' a' w' hk h' => hQ .normal σ' ρ' a' w' hk h') ops.toList 0 [] [] σ ρ a w (fun i => by simp) hr' h (fun j b hj => by cases hj)
      simpa using this
    | true =>
      obtain ⟨l, oc, e1, e2, e3, e4⟩ := regF_trace ops.toList [] [] σ hr' (fun j b hj => by cases hj)
      have := draw_sound (Q := Q) hm e2 e1 (by simpa using e3) h (fun ρ' a' w' h' => hQ .normal _ ρ' a' w' e4 h') id
      simpa using this
  | .seq x y, σ, K, ρ, a, w, Q, hr, h, hQ => by
    refine wp_seq (runC_sound hm hinl hfr x σ _ ρ a w _ hr h fun e σ' ρ' a' w' hk h' => ?_)
    cases e with
    | normal => exact runC_sound hm hinl hfr y σ' K ρ' a' w' Q hk h' hQ
    | exit i => exact hQ _ _ _ _ _ hk h'
    | goto i => exact hQ _ _ _ _ _ hk h'
    | ret => exact hQ _ _ _ _ _ hk h'
    | panic i => exact hQ _ _ _ _ _ hk h'
    | outgrown => exact hQ _ _ _ _ _ hk h'
  | .cond c x y, σ, K, ρ, a, w, Q, hr, h, hQ => by
    have hc := ev_ok (fview_ok σ) h c
    simp only [runC] at hr
    split at hr
    · rename_i he
      rw [he] at hc
      refine wp_cond_true (by generalize a.eval c = u at hc; cases hc; rfl) (runC_sound hm hinl hfr x σ K ρ a w Q hr h hQ)
    · rename_i he
      rw [he] at hc
      refine wp_cond_false (by generalize a.eval c = u at hc; cases hc; rfl) (runC_sound hm hinl hfr y σ K ρ a w Q hr h hQ)
    · rename_i z he
      rw [he] at hc
      obtain ⟨h1, h2, h3⟩ := decF_both hr
      have hb : a.eval c = .bool z.tru := by
        generalize a.eval c = u at hc
        cases hc with | v _ _ hv => exact rv_bool hv h1
      exact wp_cond_split hb (fun ht => by obtain ⟨oc, q⟩ := h2 ht; exact runC_sound hm hinl hfr x { σ with orc := oc } K ρ a w Q q h hQ) (fun ht => by obtain ⟨oc, q⟩ := h3 ht; exact runC_sound hm hinl hfr y { σ with orc := oc } K ρ a w Q q h hQ)
    · exact hr.elim
  | .block id c, σ, K, ρ, a, w, Q, hr, h, hQ => by
    refine wp_block (runC_sound hm hinl hfr c σ _ ρ a w _ hr h fun e σ' ρ' a' w' hk h' => ?_)
    cases e with
    | exit i =>
      simp only at hk
      simp only [Exit.inBlock]
      split at hk
      · rename_i hi; rw [if_pos hi]; exact hQ _ _ _ _ _ hk h'
      · rename_i hi; rw [if_neg hi]; exact hQ _ _ _ _ _ hk h'
    | normal => exact hQ _ _ _ _ _ hk h'
    | goto i => exact hQ _ _ _ _ _ hk h'
    | ret => exact hQ _ _ _ _ _ hk h'
    | panic i => exact hQ _ _ _ _ _ hk h'
    | outgrown => exact hQ _ _ _ _ _ hk h'
  | .exit id, σ, K, ρ, a, w, Q, hr, h, hQ => wp_exit (hQ _ _ _ _ _ hr h)
  | .ret, σ, K, ρ, a, w, Q, hr, h, hQ => wp_ret (hQ _ _ _ _ _ hr h)
  | .loop c, σ0, K, ρ0', a, w, Q, hr, h0', hQ => by
    simp only [runC] at hr
    obtain ⟨ρ, h⟩ := rowify_ok (ann fid (Code.reg1 c)).nils h0'
    generalize rowify (ann fid (Code.reg1 c)).nils σ0 = σ1 at hr h
    obtain ⟨ρ, h⟩ := frzSlots_ok (Code.wr c) (ann fid (Code.reg1 c)).nils h
    generalize frzSlots (Code.wr c) (ann fid (Code.reg1 c)).nils σ1 = σ at hr h
    split at hr
    · exact hr.elim
    · rename_i xs hx
      split at hr
      · rename_i hck
        obtain ⟨Inv, μ, h1, h2⟩ := hr
        generalize hA : autoAnn (ann fid (Code.reg1 c)) (Code.wr c) σ = A at *
        obtain ⟨ρ0, h0⟩ := head_again hck (FrB.refl σ) (FrT.refl _ σ) hx h
        refine wp_loop_ghost (fun m a w => ∃ ys ρ, ys.length = xs.length ∧ Inv m ys ∧ HS base w0 ok0 (A.head σ ys) ρ a w) μ ⟨xs, ρ0, rfl, h1, h0⟩ ?_
        rintro m a w ⟨ys, ρ, hl, hy, hh⟩
        have hb := h2 m ys hl hy
        have hb' := runC_mono hfr c _ _ (fun e σ' => (match e with
            | .normal => match A.vals (frzSlots (Code.wr c) (ann fid (Code.reg1 c)).nils σ') with
              | some zs => if chk A (Code.wr c) (A.head σ ys) (frzSlots (Code.wr c) (ann fid (Code.reg1 c)).nils σ') then (fun zs => ∃ m', m' < m ∧ Inv m' zs) zs else fStuckL "a loop: its head does not come again" (A.head σ ys) σ'
              | none => fStuckL "a loop: what it carries, behind a round" (A.head σ ys) σ'
            | e => K e σ') ∧ FrB (A.head σ ys) σ' ∧ (e ≠ .ret → FrT (Code.wr c) (A.head σ ys) σ')) hb (fun e σ' hk q1 q2 _ => ⟨hk, q1, q2⟩)
        refine runC_sound hm hinl hfr c _ _ ρ a w _ hb' hh fun e σ' ρ' a' w' hk h' => ?_
        obtain ⟨hk, hfb, hft⟩ := hk
        cases e with
        | normal =>
          simp only at hk
          split at hk
          · rename_i zs hz
            split at hk
            · rename_i hck2
              have hzf := frzSlots_fr (Code.wr c) (ann fid (Code.reg1 c)).nils σ'
              obtain ⟨ρ4, h4⟩ := frzSlots_ok (Code.wr c) (ann fid (Code.reg1 c)).nils h'
              obtain ⟨ρ2, h3⟩ := head_again hck2 (hfb.trans hzf.1) (((hft (by simp)).trans hzf.2).mono fun t ht => by simpa using ht) hz h4
              obtain ⟨m', hlt, hI⟩ := hk
              exact ⟨m', hlt, zs, ρ2, by rw [vals_len hz, vals_len hx], hI, head_head h3⟩
            · exact hk.elim
          · exact hk.elim
        | exit i => exact hQ _ _ _ _ _ hk h'
        | goto i => exact hQ _ _ _ _ _ hk h'
        | ret => exact hQ _ _ _ _ _ hk h'
        | panic i => exact hQ _ _ _ _ _ hk h'
        | outgrown => exact hQ _ _ _ _ _ hk h'
      · exact hr.elim
  | .rangeFunc f ps x y, σ, K, ρ, a, w, Q, hr, h, hQ => hr.elim
  | .scope x, σ, K, ρ, a, w, Q, hr, h, hQ => hr.elim
  | .label i, σ, K, ρ, a, w, Q, hr, h, hQ => hr.elim
  | .goto i, σ, K, ρ, a, w, Q, hr, h, hQ => hr.elim
  | .refuse s, σ, K, ρ, a, w, Q, hr, h, hQ => hr.elim
end
end Go.Proofs.YtbeegkheobomaaaDoor
