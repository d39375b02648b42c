/- Walking into a called function's text. -/
import Derived.Test.YtfdpbfdhcngfgaaVsf
namespace Go.Proofs.Ytfdpbfdhcngfgaa
open Go.RowKit
set_option linter.unusedVariables false
set_option linter.unusedSimpArgs false
section
variable {P : Program} {Γ : FuncId → Option Ca} {ann : FuncId → Nat → LoopEx}
theorem inF_fr : ∀ n, InlFr (inF P Γ ann n)
  | 0 => fun f args σ K K' h hK => h.elim
  | n + 1 => fun f args σ K K' h hK => by
    unfold inF at h ⊢
    by_cases hv : (ann f 999999).drop ≠ []
    · rw [if_pos hv] at h ⊢
      exact visF_fr _ _ _ _ _ _ _ h hK
    rw [if_neg hv] at h ⊢
    simp only at h ⊢
    split at h
    · exact h.elim
    · rename_i fn hf
      split at h
      · exact h.elim
      · rename_i c hb
        intro vs
        refine runC_mono (inF_fr n) c _ _ _ (h vs) fun e σ' hk hfb _ _ => ?_
        split at hk
        · rename_i hex
          rw [if_pos hex]
          split at hk
          · rename_i d hd
            split at hk
            · exact hk.elim
            · rename_i hp
              rw [if_neg hp]
              refine hK _ _ hk ?_ rfl
              obtain ⟨⟨p, hp⟩, _, h3⟩ := hfb
              exact ⟨⟨(σ.clk, .dead) :: p ++ [(σ.clk, .sv σ.tm vs)], by simp [hp]⟩, rfl, by have h3' : σ.clk + 64 ≤ σ'.clk := h3; show σ.clk ≤ σ'.clk; omega⟩
          · exact hk.elim
        · exact hk.elim
theorem inF_ok (hm : P.follows .mixedOrders = true) : ∀ n, InlOk P (inF P Γ ann n)
  | 0 => fun base w0 ok0 f args σ K ρ a w cargs hent h _ _ _ => h.elim
  | n + 1 => fun base w0 ok0 f args σ K ρ a w cargs hent h hs hsz hargs => by
    unfold inF at h
    by_cases hv : (ann f 999999).drop ≠ []
    · rw [if_pos hv] at h
      exact visF_ok (inF_ok hm n) (inF_fr n) _ _ f args σ K cargs hent h hs hsz hargs
    rw [if_neg hv] at h
    simp only at h
    split at h
    · exact h.elim
    · rename_i fn hf
      split at h
      · exact h.elim
      · rename_i c hb
        have hs0 := hs
        replace hs : HS base w ok0 σ ρ { tmps := a.tmps, defers := [] } w := HR.fresh hs
        refine calls_marks hf hb ?_
        have hdead : σ.blk σ.clk = .dead := hs.frs σ.clk (fun q => Nat.lt_irrefl _ q)
        have hund : ρ σ.clk = undef := by have := hs.blks σ.clk; rw [hdead] at this; exact this
        let σ1 : DS := ⟨args ++ List.replicate (fn.ntmps - args.length) (DE.c undef), (σ.clk, .sv σ.tm a.tmps) :: σ.bl, σ.clk + 64, σ.orc⟩
        have hb1 : σ1.blk = updB σ.blk [(σ.clk, .sv σ.tm a.tmps)] := blk_app σ [(σ.clk, .sv σ.tm a.tmps)] _ _ _
        have h0 : HS base w ok0 σ1 ρ { tmps := cargs ++ Array.replicate (fn.ntmps - cargs.size) undef, defers := [] } w := by
          show HR base w ok0 (fun n => n < σ.clk + 64) σ1.tm σ1.blk ρ _ w
          rw [hb1]
          refine HR.step hs (fun b => b = σ.clk) (fun b hc => updB_ne _ _ _ hc) (fun b _ => rfl) (fun b t cs _ _ => rfl) (fun b n x hc e => by rw [hc, hdead] at e; cases e)
            (fun n hn => by have : n < σ.clk := hn; show n < σ.clk + 64; omega) (fun b hc => by show b < σ.clk + 64; rw [hc]; omega) (fun b n hc _ hst => by rw [hc, updB_one] at hst; cases hst) (Nat.le_refl _) (fun _ _ _ => rfl)
            (fun b hc hl => by rw [hc, updB_one] at hl; cases hl) (fun b b' hc _ hl => by rw [hc, updB_one] at hl; cases hl) rfl rfl rfl (fun H1 H5 b hc => ?_) (fun H1 t => .inr ?_) (by simp [σ1, hsz]) rfl
          · rw [hc, updB_one]
            exact ⟨hund, hs.size, fun t => H5 _ _ (hs.tms t)⟩
          · by_cases ht : t < args.length
            · have e1 : σ1.tm.getD t .any = args.getD t .any := by
                show (args ++ List.replicate (fn.ntmps - args.length) (DE.c undef)).getD t .any = _
                rw [List.getD_eq_getElem?_getD, List.getElem?_append_left ht, ← List.getD_eq_getElem?_getD]
              have e2 : (cargs ++ Array.replicate (fn.ntmps - cargs.size) undef).getD t undef = cargs.getD t undef := by
                rw [Array.getD_eq_getD_getElem?, Array.getElem?_append, if_pos (by omega), ← Array.getD_eq_getD_getElem?]
              rw [e1]
              show RD _ _ _ _ _ _ ((cargs ++ Array.replicate (fn.ntmps - cargs.size) undef).getD t undef)
              rw [e2]
              refine (hargs t ht).mono H1 (fun _ _ _ => rfl) (fun n hn => by have : n < σ.clk := hn; show n < σ.clk + 64; omega) fun b n hn hst => ?_
              by_cases hc : b = σ.clk
              · rw [hc, updB_one] at hst; cases hst
              · rw [updB_ne _ _ _ hc] at hst; exact ⟨hst, rfl⟩
            · by_cases ht2 : t < fn.ntmps
              · have e1 : σ1.tm.getD t .any = .c undef := by
                  show (args ++ List.replicate (fn.ntmps - args.length) (DE.c undef)).getD t .any = _
                  rw [List.getD_eq_getElem?_getD, List.getElem?_append_right (by omega), List.getElem?_replicate]
                  rw [if_pos (by omega)]; rfl
                have e2 : (cargs ++ Array.replicate (fn.ntmps - cargs.size) undef).getD t undef = undef := by
                  rw [Array.getD_eq_getD_getElem?, Array.getElem?_append, if_neg (by omega), Array.getElem?_replicate]
                  split <;> rfl
                rw [e1]
                show RD _ _ _ _ _ _ ((cargs ++ Array.replicate (fn.ntmps - cargs.size) undef).getD t undef)
                rw [e2]; exact .c _
              · have e1 : σ1.tm.getD t .any = .any := by
                  show (args ++ List.replicate (fn.ntmps - args.length) (DE.c undef)).getD t .any = _
                  rw [List.getD_eq_getElem?_getD, List.getElem?_eq_none (by simp; omega)]; rfl
                rw [e1]; exact .any _
        have hrun := runC_mono (inF_fr n) c σ1 _ (fun e σ' => (if exits e then (match resultD P fn σ' with | some d => if (preOf σ1 σ').contains σ.clk then fStuck "saved slots" else K d { tm := σ.tm, bl := (σ.clk, .dead) :: σ'.bl, clk := σ'.clk, orc := σ'.orc } | none => fStuck "results") else fStuck "exit") ∧ FrB σ1 σ') (h a.tmps) (fun e σ' hk q1 _ _ => ⟨hk, q1⟩)
        refine runC_sound hm (inF_ok hm n) (inF_fr n) c σ1 _ ρ _ w _ hrun h0 fun e σ' ρ' a' w' hk h' => ?_
        obtain ⟨hk, hfb⟩ := hk
        obtain ⟨Ds, hD1, hD2, hD3, h'⟩ := HR.unmark h'
        generalize hwt : turned Ds w' = wt at h'
        split at hk
        · rename_i hex
          split at hk
          · rename_i d hd
            split at hk
            · exact hk.elim
            · rename_i hpre
              obtain ⟨v, hv1, hv2⟩ := resultD_ok h' hd
              obtain ⟨⟨p, hp⟩, _, h3⟩ := hfb
              have h3' : σ.clk + 64 ≤ σ'.clk := h3
              have hsv : σ'.blk σ.clk = .sv σ.tm a.tmps := by
                have hpo : preOf σ1 σ' = p.map (·.1) := by
                  unfold preOf
                  rw [hp, List.length_append, Nat.add_sub_cancel, List.take_left]
                have : σ'.blk = updB σ1.blk p := by
                  obtain ⟨tm, bl, c, oc⟩ := σ'
                  simp only at hp
                  subst hp
                  exact blk_app σ1 p tm c _
                rw [this, updB_of_not (by rw [← hpo]; simpa using hpre), hb1, updB_one]
              have hB := h'.blks σ.clk
              rw [hsv] at hB
              have hfin : (DS.mk σ.tm ((σ.clk, .dead) :: σ'.bl) σ'.clk σ'.orc).blk = updB σ'.blk [(σ.clk, .dead)] := blk_app σ' [(σ.clk, .dead)] _ _ _
              have H4 : ∀ b n, n < σ'.clk → stampOf (updB σ'.blk [(σ.clk, .dead)] b) = some n → stampOf (σ'.blk b) = some n ∧ ρ' b = ρ' b := fun b n _ hst => by
                by_cases hc : b = σ.clk
                · rw [hc, updB_one] at hst; cases hst
                · rw [updB_ne _ _ _ hc] at hst; exact ⟨hst, rfl⟩
              have H1 : ∀ g, okF base ok0 σ'.blk ρ' g → g < wt.heap.size → okF base ok0 (updB σ'.blk [(σ.clk, .dead)]) ρ' g ∧ wt.heap[g]? = wt.heap[g]? := fun g hg _ => ⟨⟨hg.1, fun b hl => by
                by_cases hc : b = σ.clk
                · rw [hc, updB_one] at hl; cases hl
                · rw [updB_ne _ _ _ hc] at hl; exact hg.2 b hl⟩, rfl⟩
              have hend : HS base w0 ok0 ⟨σ.tm, (σ.clk, .dead) :: σ'.bl, σ'.clk, σ'.orc⟩ ρ' a wt := by
                show HR base w0 ok0 (fun n => n < σ'.clk) σ.tm (DS.mk σ.tm ((σ.clk, .dead) :: σ'.bl) σ'.clk σ'.orc).blk ρ' a wt
                rw [hfin]
                refine HR.join (t := a.tmps) hs0 ?_
                refine HR.step h' (fun b => b = σ.clk) (fun b hc => updB_ne _ _ _ hc) (fun b _ => rfl) (fun b t cs _ _ => rfl) (fun b n x hc e => by rw [hc, hsv] at e; cases e)
                  (fun n hn => hn) (fun b hc => by show b < σ'.clk; rw [hc]; omega) (fun b n hc hn hst => H4 b n hn hst) (Nat.le_refl _) (fun _ _ _ => rfl)
                  (fun b hc hl => by rw [hc, updB_one] at hl; cases hl) (fun b b' hc _ hl => by rw [hc, updB_one] at hl; cases hl) rfl rfl rfl (fun _ _ b hc => ?_) (fun _ t => .inr ?_) hs.size rfl
                · rw [hc, updB_one]; exact hB.1
                · exact (hB.2.2 t).mono H1 (fun _ _ _ => rfl) (fun n hn => hn) H4
              have hdv := hv2.mono H1 (fun _ _ _ => rfl) (fun n hn => hn) H4
              rw [← hfin] at hdv
              cases e with
              | normal => exact ⟨Ds, hD1, hD2, hD3, v, by rw [hwt]; exact hv1, v, rfl, d, _, ρ', hk, by rw [hwt]; exact hend, by rw [hwt]; exact hdv⟩
              | ret => exact ⟨Ds, hD1, hD2, hD3, v, by rw [hwt]; exact hv1, v, rfl, d, _, ρ', hk, by rw [hwt]; exact hend, by rw [hwt]; exact hdv⟩
              | exit i => cases hex
              | goto i => cases hex
              | panic i => cases hex
              | outgrown => cases hex
          · exact hk.elim
        · exact hk.elim
/-- **A function's contract out of its run.** -/
theorem fn_run (hm : P.follows .mixedOrders = true) (n : Nat) {f : FuncId} {fn : Func} {c : Code} (hf : P.funcs[f]? = some fn) (hb : fn.body = some c) (hent : Ent P f) {args : List AV} {orc : Orc} {sh : Sh} {r : AV} (h : fnF P Γ ann n f fn c orc args sh r) : Fn P f args sh r :=
  fn_of_run hm (inF_ok hm n) (inF_fr n) hf hb hent h
end
end Go.Proofs.Ytfdpbfdhcngfgaa
