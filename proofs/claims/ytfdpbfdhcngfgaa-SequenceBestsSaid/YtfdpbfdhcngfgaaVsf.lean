/- Calls that hand out values to visitors: the run's word for them is sound. -/
import Derived.Test.YtfdpbfdhcngfgaaFn
namespace Go.Proofs.Ytfdpbfdhcngfgaa
open Go.RowKit
set_option linter.unusedVariables false
set_option linter.unusedSimpArgs false
theorem updB_one (blk : Nat → DB) (b : Nat) (d : DB) : updB blk [(b, d)] b = d := by simp [updB]
theorem updB_ne (blk : Nat → DB) (b : Nat) (d : DB) {c : Nat} (h : c ≠ b) : updB blk [(b, d)] c = blk c := updB_of_not (by simp [h])
section
variable {base : Nat} {w0 : World} {ok0 : Nat → Prop} {ρ : Nat → Value} {a : Act} {w : World}
/-- A block that keeps something beside. -/
theorem sv_add {σ : DS} {ds : List DE} {vs : Array Value} (h : HS base w0 ok0 σ ρ a w) (hsz : vs.size = ds.length) (hrd : ∀ t, RD w (okF base ok0 σ.blk ρ) ρ σ.blk (fun n => n < σ.clk) (ds.getD t .any) (vs.getD t undef)) :
    HS base w0 ok0 ⟨σ.tm, (σ.clk, .sv ds vs) :: σ.bl, σ.clk + 64, σ.orc⟩ ρ a w := by
  have hdead : σ.blk σ.clk = .dead := h.frs σ.clk (fun q => Nat.lt_irrefl _ q)
  have hund : ρ σ.clk = undef := by have := h.blks σ.clk; rw [hdead] at this; exact this
  have hb1 : (DS.mk σ.tm ((σ.clk, .sv ds vs) :: σ.bl) (σ.clk + 64) σ.orc).blk = updB σ.blk [(σ.clk, .sv ds vs)] := blk_app σ [(σ.clk, .sv ds vs)] _ _ _
  show HR base w0 ok0 (fun n => n < σ.clk + 64) σ.tm (DS.mk σ.tm ((σ.clk, .sv ds vs) :: σ.bl) (σ.clk + 64) σ.orc).blk ρ a w
  rw [hb1]
  refine HR.step h (fun b => b = σ.clk) (fun b hc => updB_ne _ _ _ hc) (fun b _ => rfl) (fun b t cs _ _ => rfl) (fun b n x hc e => by rw [hc, hdead] at e; cases e)
    (fun n hn => by have : n < σ.clk := hn; show n < σ.clk + 64; omega) (fun b hc => by show b < σ.clk + 64; rw [hc]; omega) (fun b n hc _ hst => by rw [hc, updB_one] at hst; cases hst) (Nat.le_refl _) (fun _ _ _ => rfl)
    (fun b hc hl => by rw [hc, updB_one] at hl; cases hl) (fun b b' hc _ hl => by rw [hc, updB_one] at hl; cases hl) rfl rfl rfl (fun H1 H5 b hc => ?_) (fun H1 t => .inl ⟨rfl, rfl⟩) h.size rfl
  rw [hc, updB_one]
  exact ⟨hund, hsz, fun t => H5 _ _ (hrd t)⟩
/-- It keeps something else. -/
theorem sv_swap {σ1 σ2 : DS} {b0 : Nat} (htm : σ2.tm = σ1.tm) (hclk : σ2.clk = σ1.clk) (hne : ∀ b, b ≠ b0 → σ2.blk b = σ1.blk b) {ds1 ds2 : List DE} {vs1 vs2 : Array Value} (h1 : σ1.blk b0 = .sv ds1 vs1) (h2 : σ2.blk b0 = .sv ds2 vs2) (hsz : vs2.size = ds2.length)
    (h : HS base w0 ok0 σ1 ρ a w) (hrd : ∀ t, RD w (okF base ok0 σ1.blk ρ) ρ σ1.blk (fun n => n < σ1.clk) (ds2.getD t .any) (vs2.getD t undef)) : HS base w0 ok0 σ2 ρ a w := by
  show HR base w0 ok0 (fun n => n < σ2.clk) σ2.tm σ2.blk ρ a w
  rw [htm, hclk]
  refine HR.step h (fun b => b = b0) (fun b hc => hne b hc) (fun b _ => rfl) (fun b t cs _ _ => rfl) (fun b n x hc e => by rw [hc, h1] at e; cases e)
    (fun n hn => hn) (fun b hc => Classical.byContradiction fun q => by have := h.frs b q; rw [hc, h1] at this; cases this) (fun b n hc _ hst => by rw [hc, h2] at hst; cases hst) (Nat.le_refl _) (fun _ _ _ => rfl)
    (fun b hc hl => by rw [hc, h2] at hl; cases hl) (fun b b' hc _ hl => by rw [hc, h2] at hl; cases hl) rfl rfl rfl (fun H1 H5 b hc => ?_) (fun H1 t => .inl ⟨rfl, rfl⟩) h.size rfl
  have hB := h.blks b0
  rw [h1] at hB
  rw [hc, h2]
  exact ⟨hB.1, hsz, fun t => H5 _ _ (hrd t)⟩
theorem sv_kill {σ : DS} {b0 : Nat} {ds : List DE} {vs : Array Value} (h1 : σ.blk b0 = .sv ds vs) (h : HS base w0 ok0 σ ρ a w) : HS base w0 ok0 ⟨σ.tm, (b0, .dead) :: σ.bl, σ.clk, σ.orc⟩ ρ a w := by
  have hb1 : (DS.mk σ.tm ((b0, .dead) :: σ.bl) σ.clk σ.orc).blk = updB σ.blk [(b0, .dead)] := blk_app σ [(b0, .dead)] _ _ _
  show HR base w0 ok0 (fun n => n < σ.clk) σ.tm (DS.mk σ.tm ((b0, .dead) :: σ.bl) σ.clk σ.orc).blk ρ a w
  rw [hb1]
  refine HR.step h (fun b => b = b0) (fun b hc => updB_ne _ _ _ hc) (fun b _ => rfl) (fun b t cs _ _ => rfl) (fun b n x hc e => by rw [hc, h1] at e; cases e)
    (fun n hn => hn) (fun b hc => Classical.byContradiction fun q => by have := h.frs b q; rw [hc, h1] at this; cases this) (fun b n hc _ hst => by rw [hc, updB_one] at hst; cases hst) (Nat.le_refl _) (fun _ _ _ => rfl)
    (fun b hc hl => by rw [hc, updB_one] at hl; cases hl) (fun b b' hc _ hl => by rw [hc, updB_one] at hl; cases hl) rfl rfl rfl (fun H1 H5 b hc => ?_) (fun H1 t => .inl ⟨rfl, rfl⟩) h.size rfl
  have hB := h.blks b0
  rw [h1] at hB
  rw [hc, updB_one]
  exact hB.1
theorem rowify_sv {b : Nat} {ds : List DE} {vs : Array Value} : ∀ (l : List (Nat × Nat × TypeId × Nat)) {σ : DS} {ρ : Nat → Value}, HS base w0 ok0 σ ρ a w → σ.blk b = .sv ds vs → (rowify l σ).blk b = .sv ds vs
  | [], _, _, _, hb => hb
  | q :: l, σ, ρ, h, hb => by
    obtain ⟨ρ1, h1⟩ := rowify1_ok q h
    refine rowify_sv l h1 ?_
    unfold rowify1
    split
    · rename_i t cs hq
      split
      · have hdead : σ.blk σ.clk = .dead := h.frs σ.clk (fun q => Nat.lt_irrefl _ q)
        have e1 : b ≠ q.1 := fun e => by rw [e, hq] at hb; cases hb
        have e2 : b ≠ σ.clk := fun e => by rw [e, hdead] at hb; cases hb
        have : ∀ (l : List (Nat × DB)) (c : Nat) (o : Orc), (DS.mk σ.tm ((q.1, .cells t (cs.set q.2.1 (.row σ.clk σ.clk))) :: (σ.clk, .row q.2.2.1 q.2.2.2 σ.clk (AV.mk q.2.2.2 [])) :: σ.bl) c o).blk b = σ.blk b := fun _ c o => by
          have := blk_app σ [(q.1, .cells t (cs.set q.2.1 (.row σ.clk σ.clk))), (σ.clk, .row q.2.2.1 q.2.2.2 σ.clk (AV.mk q.2.2.2 []))] σ.tm c o
          have e3 := congrFun this b
          rw [updB_cons, updB_cons, if_neg e1, if_neg e2] at e3
          exact e3
        exact (this [] _ _).trans hb
      · exact hb
    · exact hb
/-- A cell's row is frozen. -/
theorem frzCell1_ok (q : Nat × Nat) {σ : DS} (h : HS base w0 ok0 σ ρ a w) : HS base w0 ok0 (frzCell1 σ q) ρ a w := by
  have key : ∀ (σ : DS) (t : TypeId) (cs : List DE) (b n : Nat) (x : AV), HS base w0 ok0 σ ρ a w → σ.blk q.1 = .cells t cs → cs.getD q.2 .any = .row b n → σ.blk b = .fz n x → HS base w0 ok0 { σ with bl := (q.1, .cells t (cs.set q.2 (.v x))) :: σ.bl } ρ a w := fun σ t cs b n x h hb hc hf => by
    have ho : q.2 < cs.length := Classical.byContradiction fun g => by
      rw [List.getD_eq_getElem?_getD, List.getElem?_eq_none (by omega)] at hc
      cases hc
    have hb1 : (DS.mk σ.tm ((q.1, .cells t (cs.set q.2 (.v x))) :: σ.bl) σ.clk σ.orc).blk = updB σ.blk [(q.1, .cells t (cs.set q.2 (.v x)))] := blk_app σ [(q.1, .cells t (cs.set q.2 (.v x)))] _ _ _
    show HR base w0 ok0 (fun n => n < σ.clk) σ.tm (DS.mk σ.tm ((q.1, .cells t (cs.set q.2 (.v x))) :: σ.bl) σ.clk σ.orc).blk ρ a w
    rw [hb1]
    refine HR.step h (fun b => b = q.1) (fun b hc => updB_ne _ _ _ hc) (fun b _ => rfl) (fun b t cs _ _ => rfl) (fun b n x hc e => by rw [hc, hb] at e; cases e)
      (fun n hn => hn) (fun c hc => Classical.byContradiction fun q => by have := h.frs c q; rw [hc, hb] at this; cases this) (fun b n hc _ hst => by rw [hc, updB_one] at hst; cases hst) (Nat.le_refl _) (fun _ _ _ => rfl)
      (fun c hc hl g hg => .inl ⟨by rw [hc, hb]; rfl, hg⟩) (fun c c' hc hc' _ _ hne => absurd (hc.trans hc'.symm) hne) rfl rfl rfl (fun H1 H5 c hc' => ?_) (fun H1 t => .inl ⟨rfl, rfl⟩) h.size rfl
    have hB := h.blks q.1
    rw [hb] at hB
    obtain ⟨g, vs, e1, e2, e3, e4, e5, e6⟩ := hB
    rw [hc', updB_one]
    refine ⟨g, vs, e1, e2, e3, by rw [List.length_set]; exact e4, fun i hi => e5 i (by rw [List.length_set] at hi; exact hi), fun i hi => ?_⟩
    have hi' : i < cs.length := by rw [List.length_set] at hi; exact hi
    by_cases hio : i = q.2
    · subst hio
      have hv := e6 _ hi'
      rw [hc] at hv
      have e7 : (cs.set q.2 (.v x)).getD q.2 .any = .v x := by
        rw [List.getD_eq_getElem?_getD, List.getElem?_set_self ho]; rfl
      rw [e7]
      refine H5 _ _ ?_
      have hF := h.blks b
      rw [hf] at hF
      generalize vs.getD q.2 undef = u at hv
      cases hv with
      | row _ _ _ hn h1 hs =>
        rw [hs (by rw [hf]; rfl)]
        exact .v _ _ hF.2.1
    · have e7 : (cs.set q.2 (.v x)).getD i .any = cs.getD i .any := by
        rw [List.getD_eq_getElem?_getD, List.getElem?_set_ne (Ne.symm hio), List.getD_eq_getElem?_getD]
      rw [e7]
      exact H5 _ _ (e6 i hi')
  unfold frzCell1
  split
  · rename_i t cs hb
    split
    · rename_i b n hc
      split
      · rename_i e s m x hr
        split
        · rename_i hmn
          obtain ⟨rfl, hne⟩ := hmn
          have hf := HR.freeze (fview_ok σ) h [b]
          have e1 : σ.fview.frz [b] = [(b, .fz m x)] := by
            have hb' : σ.fview.bl b = .row e s m x := hr
            simp [View.frz, hb']
          rw [e1] at hf
          have hbk : (DS.mk σ.tm ((b, .fz m x) :: σ.bl) σ.clk σ.orc).blk = updB σ.blk [(b, .fz m x)] := blk_app σ [(b, .fz m x)] _ _ _
          have h1 : HS base w0 ok0 (DS.mk σ.tm ((b, .fz m x) :: σ.bl) σ.clk σ.orc) ρ a w := by
            show HR base w0 ok0 (fun n => n < σ.clk) σ.tm (DS.mk σ.tm ((b, .fz m x) :: σ.bl) σ.clk σ.orc).blk ρ a w
            rw [hbk]; exact hf
          exact key _ t cs b m x h1 (by rw [hbk, updB_ne _ _ _ (Ne.symm hne)]; exact hb) hc (by rw [hbk, updB_one])
        · exact h
      · rename_i m x hr
        split
        · rename_i hmn
          subst hmn
          exact key σ t cs b m x h hb hc hr
        · exact h
      · exact h
    · exact h
  · exact h
theorem frzCells_ok : ∀ (l : List (Nat × Nat)) {σ : DS}, HS base w0 ok0 σ ρ a w → HS base w0 ok0 (frzCells l σ) ρ a w
  | [], _, h => h
  | q :: l, _, h => frzCells_ok l (frzCell1_ok q h)
theorem frzCell1_fr (σ : DS) (q : Nat × Nat) : FrB σ (frzCell1 σ q) ∧ (frzCell1 σ q).tm = σ.tm := by
  unfold frzCell1
  split
  · split
    · split
      · split
        · exact ⟨⟨⟨[_, _], rfl⟩, rfl, Nat.le_refl _⟩, rfl⟩
        · exact ⟨FrB.refl σ, rfl⟩
      · split
        · exact ⟨⟨⟨[_], rfl⟩, rfl, Nat.le_refl _⟩, rfl⟩
        · exact ⟨FrB.refl σ, rfl⟩
      · exact ⟨FrB.refl σ, rfl⟩
    · exact ⟨FrB.refl σ, rfl⟩
  · exact ⟨FrB.refl σ, rfl⟩
theorem frzCells_fr : ∀ (l : List (Nat × Nat)) (σ : DS), FrB σ (frzCells l σ) ∧ (frzCells l σ).tm = σ.tm
  | [], σ => ⟨FrB.refl σ, rfl⟩
  | q :: l, σ => by
    obtain ⟨h1, h2⟩ := frzCell1_fr σ q
    obtain ⟨h3, h4⟩ := frzCells_fr l (frzCell1 σ q)
    exact ⟨h1.trans h3, h4.trans h2⟩
theorem vis_tm (E : LoopEx) (σ : DS) (ys : List AV) : ((visAnn E).head σ ys).tm = σ.tm := by
  apply List.ext_getElem?
  intro t
  simp only [LoopAnn.head, List.getElem?_map, List.getElem?_zipIdx]
  cases h : σ.tm[t]? with
  | none => rfl
  | some d => simp [LoopAnn.tm, visAnn]
theorem vis_blk (E : LoopEx) (σr : DS) (Y : AV) (vs : Array Value) (ys : List AV) : ((visAnn E).head (visY σr Y vs) ys).blk σr.clk = .sv [.v Y] vs ∧
    ∀ b, b ≠ σr.clk → ((visAnn E).head (visY σr Y vs) ys).blk b = if b ∈ (visAnn E).touched then (visAnn E).blkOf ys b (σr.blk b) else σr.blk b := by
  have e : (visY σr Y vs).blk = updB σr.blk [(σr.clk, .sv [.v Y] vs)] := blk_app σr [(σr.clk, .sv [.v Y] vs)] _ _ _
  refine ⟨?_, fun b hb => ?_⟩
  · rw [head_blk, e, updB_one]
    split <;> rfl
  · rw [head_blk, e, updB_ne _ _ _ hb]
theorem okF_eq {blk blk' : Nat → DB} {b0 : Nat} (hne : ∀ b, b ≠ b0 → blk' b = blk b) (h1 : isLive (blk b0) = false) (h2 : isLive (blk' b0) = false) {g : Nat} (h : okF base ok0 blk ρ g) : okF base ok0 blk' ρ g :=
  ⟨h.1, fun b hl => by
    by_cases hb : b = b0
    · rw [hb, h2] at hl; cases hl
    · rw [hne b hb] at hl; exact h.2 b hl⟩
end
section
variable {P : Program} {inl : Inl}
theorem visEnts_iff : ∀ (l : List DE) (F : Prop), visEnts P l F ↔ (∀ vf caps, DE.fn vf caps ∈ l → Ent P vf) ∧ F
  | [], F => ⟨fun h => ⟨fun _ _ q => (by cases q), h⟩, fun h => h.2⟩
  | d :: l, F => by
    have ih := visEnts_iff l F
    cases d with
    | fn vf caps =>
      refine ⟨fun h => ⟨fun vf' caps' q => ?_, (ih.1 h.2).2⟩, fun h => ⟨h.1 vf caps (List.mem_cons_self ..), ih.2 ⟨fun vf' caps' q => h.1 vf' caps' (List.mem_cons_of_mem _ q), h.2⟩⟩⟩
      rcases List.mem_cons.1 q with e | q
      · injection e with e _; rw [e]; exact h.1
      · exact (ih.1 h.2).1 vf' caps' q
    | _ =>
      refine ⟨fun h => ⟨fun vf' caps' q => ?_, (ih.1 h).2⟩, fun h => ih.2 ⟨fun vf' caps' q => h.1 vf' caps' (List.mem_cons_of_mem _ q), h.2⟩⟩
      rcases List.mem_cons.1 q with e | q
      · cases e
      · exact (ih.1 h).1 vf' caps' q
theorem vis_frB (E : LoopEx) (args : List DE) (us : Array Value) (σ : DS) (Y : AV) (vs : Array Value) (ys : List AV) : FrB σ ((visAnn E).head (visY (rowify E.nils ⟨σ.tm, (σ.clk, .sv args us) :: σ.bl, σ.clk + 64, σ.orc⟩) Y vs) ys) := by
  have h1 : FrB σ ⟨σ.tm, (σ.clk, .sv args us) :: σ.bl, σ.clk + 64, σ.orc⟩ := ⟨⟨[_], rfl⟩, rfl, Nat.le_add_right _ _⟩
  have h2 := (rowify_fr E.nils ⟨σ.tm, (σ.clk, .sv args us) :: σ.bl, σ.clk + 64, σ.orc⟩).1
  generalize rowify E.nils ⟨σ.tm, (σ.clk, .sv args us) :: σ.bl, σ.clk + 64, σ.orc⟩ = σr at *
  have h3 : FrB σr (visY σr Y vs) := ⟨⟨[_], rfl⟩, rfl, Nat.le_add_right _ _⟩
  exact ((h1.trans h2).trans h3).trans (head_frB _ _ _)
theorem visF_fr (E : LoopEx) (rs : List Nat) (f : FuncId) (args : List DE) (σ : DS) (K K' : DE → DS → Prop) (h : visF P E inl rs f args σ K) (hK : ∀ d σ', K d σ' → FrB σ σ' → σ'.tm = σ.tm → K' d σ') : visF P E inl rs f args σ K' := by
  intro us
  have h := h us
  have hfb := fun ys => vis_frB E args us σ (.lit undef) #[undef] ys
  simp only at h ⊢
  generalize rowify E.nils ⟨σ.tm, (σ.clk, .sv args us) :: σ.bl, σ.clk + 64, σ.orc⟩ = σr at *
  split at h
  · rename_i ys0 hys
    split at h
    · rename_i xs hxs
      split at h
      · rename_i hck
        obtain ⟨hen, evs, hvi, Inv, h0, hb, hk⟩ := (visEnts_iff _ _).1 h
        simp only [hxs, hck, if_true]
        refine (visEnts_iff _ _).2 ⟨hen, evs, hvi, Inv, h0, hb, fun ys e1 e2 => hK _ _ (hk ys e1 e2) ?_ rfl⟩
        obtain ⟨⟨pre, h1⟩, h2, h3⟩ := hfb ys
        exact ⟨⟨(σ.clk, .dead) :: (σr.clk, .dead) :: pre, by simp [h1]⟩, rfl, h3⟩
      · exact h.elim
    · exact h.elim
  · exact h.elim
variable {base : Nat} {w0 : World} {ok0 : Nat → Prop} {ρ : Nat → Value} {a : Act} {w : World}
theorem visF_ok (hinl : InlOk P inl) (hfr : InlFr inl) (E : LoopEx) (rs : List Nat) (f : FuncId) (args : List DE) (σ : DS) (K : DE → DS → Prop) (cargs : Array Value) (hent : Ent P f) (h : visF P E inl rs f args σ K) (hs : HS base w0 ok0 σ ρ a w) (hsz : cargs.size = args.length)
    (hargs : ∀ i, i < args.length → RD w (okF base ok0 σ.blk ρ) ρ σ.blk (fun n => n < σ.clk) (args.getD i .any) (cargs.getD i undef)) :
    Calls P f cargs w fun e w' => ∃ v, e = .returned v ∧ ∃ d σ' ρ', K d σ' ∧ HS base w0 ok0 σ' ρ' a w' ∧ RD w' (okF base ok0 σ'.blk ρ') ρ' σ'.blk (fun n => n < σ'.clk) d v := by
  have h := h cargs
  have hfb := fun ys => vis_frB E args cargs σ (.lit undef) #[undef] ys
  simp only at h
  have hsa := sv_add (ds := args) (vs := cargs) hs hsz (fun t => by
    by_cases ht : t < args.length
    · exact hargs t ht
    · rw [List.getD_eq_getElem?_getD, List.getElem?_eq_none (by omega)]
      exact .any _)
  have hba : (DS.mk σ.tm ((σ.clk, .sv args cargs) :: σ.bl) (σ.clk + 64) σ.orc).blk σ.clk = .sv args cargs := (congrFun (blk_app σ [(σ.clk, .sv args cargs)] σ.tm (σ.clk + 64) σ.orc) σ.clk).trans (updB_one _ _ _)
  obtain ⟨ρ1, hr⟩ := rowify_ok E.nils hsa
  have hsv := rowify_sv E.nils hsa hba
  obtain ⟨⟨_, _, hclk⟩, htr⟩ := rowify_fr E.nils ⟨σ.tm, (σ.clk, .sv args cargs) :: σ.bl, σ.clk + 64, σ.orc⟩
  have hclk : σ.clk + 64 ≤ (rowify E.nils ⟨σ.tm, (σ.clk, .sv args cargs) :: σ.bl, σ.clk + 64, σ.orc⟩).clk := hclk
  have htr : (rowify E.nils ⟨σ.tm, (σ.clk, .sv args cargs) :: σ.bl, σ.clk + 64, σ.orc⟩).tm = σ.tm := htr
  clear hba
  generalize rowify E.nils ⟨σ.tm, (σ.clk, .sv args cargs) :: σ.bl, σ.clk + 64, σ.orc⟩ = σr at *
  have rdY : ∀ {okf : Nat → Prop} {ρ : Nat → Value} {blk : Nat → DB} {isd : Nat → Prop} {w : World} (Y : AV) (u : Value), RV w okf Y u → ∀ t, RD w okf ρ blk isd (([DE.v Y] : List DE).getD t .any) ((#[u] : Array Value).getD t undef) := fun Y u hv t => by
    cases t with
    | zero => exact .v _ _ hv
    | succ t => exact .any _
  split at h
  · rename_i ys0 hys
    split at h
    · rename_i xs hxs
      split at h
      · rename_i hck
        simp only [Bool.and_eq_true, decide_eq_true_eq] at hck
        obtain ⟨⟨hck, hkl⟩, hfnall⟩ := hck
        obtain ⟨hen, evs, hvi, Inv, hI0, hIb, hIe⟩ := (visEnts_iff _ _).1 h
        obtain ⟨ρ2, h2⟩ := head_again hck (FrB.refl _) (FrT.refl _ _) hys (sv_add hr rfl (rdY (.lit undef) undef (.lit _)))
        have hne : σ.clk ≠ σr.clk := by omega
        have hbY : ∀ Y vs ys, ((visAnn E).head (visY σr Y vs) ys).blk σr.clk = .sv [.v Y] vs := fun Y vs ys => (vis_blk E σr Y vs ys).1
        have hbA : ∀ Y vs ys, ((visAnn E).head (visY σr Y vs) ys).blk σ.clk = .sv args cargs := fun Y vs ys => by
          rw [(vis_blk E σr Y vs ys).2 _ hne, hsv]
          split <;> rfl
        have hbN : ∀ Y vs Y' vs' ys b, b ≠ σr.clk → ((visAnn E).head (visY σr Y' vs') ys).blk b = ((visAnn E).head (visY σr Y vs) ys).blk b := fun Y vs Y' vs' ys b hb => by
          rw [(vis_blk E σr Y vs ys).2 _ hb, (vis_blk E σr Y' vs' ys).2 _ hb]
        have htm : ∀ Y vs ys, ((visAnn E).head (visY σr Y vs) ys).tm = σ.tm := fun Y vs ys => (vis_tm E _ ys).trans htr
        obtain ⟨m, hm⟩ : ∃ m, m = args.length - rs.length := ⟨_, rfl⟩
        rw [← hm] at hxs hfnall hIb hen
        have hcl : ∀ i, i < rs.length → ∃ (vf : FuncId) (vs : Array Value) (caps : List DE), args.getD (m + i) .any = .fn vf caps ∧ cargs.getD (m + i) undef = .func (.func vf) #[] vs ∧ vs.size = caps.length := fun i hi => by
          have h1 : isFnD (args.getD (m + i) .any) = true := by
            refine List.all_eq_true.1 hfnall _ ?_
            have : (args.drop m)[i]? = some (args.getD (m + i) .any) := by
              rw [List.getElem?_drop, List.getD_eq_getElem?_getD, List.getElem?_eq_getElem (by omega)]; rfl
            exact List.mem_of_getElem? this
          have h3 := hargs (m + i) (by omega)
          generalize args.getD (m + i) .any = d at h1 h3
          generalize cargs.getD (m + i) undef = u at h3
          cases h3 with
          | fn vf caps vs hl _ => exact ⟨vf, vs, caps, rfl, rfl, hl⟩
          | _ => cases h1
        have hF : ∃ F : Nat → FuncId × Array Value, ∀ i, i < rs.length → ∃ caps, args.getD (m + i) .any = .fn (F i).1 caps ∧ cargs.getD (m + i) undef = .func (.func (F i).1) #[] (F i).2 ∧ (F i).2.size = caps.length := by
          refine ⟨fun i => if hi : i < rs.length then ((hcl i hi).choose, (hcl i hi).choose_spec.choose) else (0, #[]), fun i hi => ?_⟩
          simp only [dif_pos hi]
          exact (hcl i hi).choose_spec.choose_spec
        obtain ⟨F, hF⟩ := hF
        have hcargs : cargs = cargs.extract 0 m ++ (((List.range rs.length).map F).map fun q => Value.func (.func q.1) #[] q.2).toArray := by
          apply Array.ext_getElem?
          intro i
          rw [Array.getElem?_append]
          have hes : (cargs.extract 0 m).size = m := by simp; omega
          rw [hes]
          by_cases hi : i < m
          · rw [if_pos hi, Array.getElem?_extract]
            simp; omega
          · rw [if_neg hi]
            by_cases hi2 : i - m < rs.length
            · obtain ⟨_, _, q2, _⟩ := hF (i - m) hi2
              have e : m + (i - m) = i := by omega
              rw [e, Array.getD_eq_getD_getElem?, Array.getElem?_eq_getElem (by omega)] at q2
              rw [Array.getElem?_eq_getElem (by omega)]
              simp only [List.getElem?_toArray, List.getElem?_map, List.getElem?_range hi2, Option.map_some]
              exact congrArg some q2
            · rw [Array.getElem?_eq_none (show cargs.size ≤ i by omega)]
              exact (Array.getElem?_eq_none (by simp; omega)).symm
        rw [hcargs]
        refine (hvi.2.2 ((List.range rs.length).map F) (fun pre o A => ∃ ys ρ, ys.length = ys0.length ∧ Inv pre ys ∧ HS base w0 ok0 ((visAnn E).head (visY σr (.lit undef) #[undef]) ys) ρ a A ∧ o = fun g => okR (okF base ok0 ((visAnn E).head (visY σr (.lit undef) #[undef]) ys).blk ρ) ρ [] g ∧ g < A.heap.size) w _ (cargs.extract 0 m) (by simp) (fun q hq => ?_) ?_ ?_ ?_ ?_ ⟨ys0, ρ2, rfl, hI0, h2, rfl⟩).mono ?_
        · obtain ⟨i, hi, rfl⟩ := List.mem_map.1 hq
          have hi := List.mem_range.1 hi
          obtain ⟨caps, hc1, _⟩ := hF i hi
          refine hen _ caps ?_
          have : (args.drop m)[i]? = some (.fn (F i).1 caps) := by
            rw [List.getElem?_drop, ← hc1, List.getD_eq_getElem?_getD, List.getElem?_eq_getElem (by omega)]; rfl
          exact List.mem_of_getElem? this
        · rintro s o A C ⟨ys, ρ, e1, e2, e3, rfl⟩ hbe hdr
          have hko : KeepsOthers A C := ⟨hbe.size, fun k o hk _ => (hbe.block k (Array.getElem?_eq_some_iff.1 hk).1).trans hk⟩
          have hlow := e3.low
          refine ⟨_, ⟨ys, ρ, e1, e2, HR.conv e3 (Kc.below hbe) e3.gl (e3.bel.trans (hbe.mono e3.low)) (e3.nod.trans hko) (Nat.le_trans e3.drw hdr), rfl⟩, fun g hg => ⟨hg.1, Nat.lt_of_lt_of_le hg.2 hbe.size⟩, fun g h1 h2 => ⟨.inl ⟨fun q => by omega, fun b hl e => ?_⟩, h2⟩⟩
          have := (e3.live_lt hl e).2
          omega
        · rintro s o A ⟨ys, ρ, e1, e2, e3, rfl⟩
          exact ⟨fun g hg => hg.2, e3.glob []⟩
        · rintro pre p rest o A vs Y u hxr ⟨ys, ρ, e1, e2, e3, rfl⟩ hvs hYu
          have hpm : p ∈ evs := by rw [hxr]; simp
          obtain ⟨hp1, hp2⟩ := hvi.2.1 p hpm
          have hb := hIb pre p rest ys hxr e1 e2
          have hbd : (rs.zipIdx.map fun p => visBody P E inl σr p.2 p.1 (args.getD (m + p.2) .any)).getD p.1 (fun _ _ _ => False) = visBody P E inl σr p.1 (rs.getD p.1 0) (args.getD (m + p.1) .any) := by
            rw [List.getD_eq_getElem?_getD, List.getElem?_map, List.getElem?_zipIdx, List.getElem?_eq_getElem hp1]
            simp [List.getD_eq_getElem?_getD, List.getElem?_eq_getElem hp1]
          rw [hbd] at hb
          obtain ⟨caps, hc1, hc2, hc3⟩ := hF p.1 hp1
          rw [hc1] at hb
          have hfi : ((List.range rs.length).map F).getD p.1 default = F p.1 := by
            rw [List.getD_eq_getElem?_getD, List.getElem?_map, List.getElem?_range hp1]; rfl
          rw [hfi]
          have hb2 := hb #[u] Y
          have hent' : Ent P (F p.1).1 := hen _ caps (by
            have : (args.drop m)[p.1]? = some (.fn (F p.1).1 caps) := by
              rw [List.getElem?_drop, ← hc1, List.getD_eq_getElem?_getD, List.getElem?_eq_getElem (by omega)]; rfl
            exact List.mem_of_getElem? this)
          clear hb hbd
          have hok : ∀ g, (okR (okF base ok0 ((visAnn E).head (visY σr (.lit undef) #[undef]) ys).blk ρ) ρ [] g ∧ g < A.heap.size) → okF base ok0 ((visAnn E).head (visY σr (.lit undef) #[undef]) ys).blk ρ g := fun g hg => by
            rcases hg.1 with q | ⟨b, q, _⟩
            · exact q
            · cases q
          have hsY : HS base w0 ok0 ((visAnn E).head (visY σr Y #[u]) ys) ρ a A := sv_swap (σ1 := (visAnn E).head (visY σr (.lit undef) #[undef]) ys) ((htm _ _ _).trans (htm _ _ _).symm) rfl (fun b hb => hbN _ _ _ _ _ b hb) (hbY _ _ _) (hbY _ _ _) rfl e3 (rdY Y u (hYu.mono fun g hg _ => ⟨hok g hg, rfl⟩))
          have hokY : ∀ g, okF base ok0 ((visAnn E).head (visY σr (.lit undef) #[undef]) ys).blk ρ g → okF base ok0 ((visAnn E).head (visY σr Y #[u]) ys).blk ρ g := fun g hg => okF_eq (fun b hb => hbN _ _ _ _ _ b hb) (by rw [hbY]; rfl) (by rw [hbY]; rfl) hg
          have hrdc := hsY.blks σ.clk
          rw [hbA] at hrdc
          have hrdc := hrdc.2.2 (m + p.1)
          rw [hc1, hc2] at hrdc
          have hrdcaps : ∀ i, i < caps.length → RD A (okF base ok0 ((visAnn E).head (visY σr Y #[u]) ys).blk ρ) ρ ((visAnn E).head (visY σr Y #[u]) ys).blk (fun n => n < ((visAnn E).head (visY σr Y #[u]) ys).clk) (caps.getD i .any) ((F p.1).2.getD i undef) := by
            generalize hFv : (F p.1).2 = fv at hrdc
            cases hrdc with
            | fn _ _ _ hl hc => exact hc
          have hvsz : vs.size = rs.getD p.1 0 := hvs.1.trans hp2
          refine (hinl base w0 ok0 (F p.1).1 _ _ _ ρ a A (vs ++ (F p.1).2) hent' (hfr _ _ _ _ _ hb2 (fun d σ' hk q1 q2 => (⟨hk, q1, q2⟩ : _ ∧ FrB _ σ' ∧ σ'.tm = _))) hsY (by simp [hvsz, hc3]) (fun i hi => ?_)).mono ?_
          · rw [List.length_append, List.length_map, List.length_range] at hi
            by_cases hir : i < rs.getD p.1 0
            · have e4 : ((List.range (rs.getD p.1 0)).map (fun j => DE.v (p.2.getD j default)) ++ caps).getD i .any = .v (p.2.getD i default) := by
                rw [List.getD_eq_getElem?_getD, List.getElem?_append_left (by simpa using hir), List.getElem?_map, List.getElem?_range hir]; rfl
              have e5 : (vs ++ (F p.1).2).getD i undef = vs.getD i undef := by
                rw [Array.getD_eq_getD_getElem?, Array.getElem?_append, if_pos (by omega), ← Array.getD_eq_getD_getElem?]
              rw [e4, e5]
              exact .v _ _ ((hvs.2 i (by omega)).mono fun g hg _ => ⟨hokY g (hok g hg), rfl⟩)
            · have e4 : ((List.range (rs.getD p.1 0)).map (fun j => DE.v (p.2.getD j default)) ++ caps).getD i .any = caps.getD (i - rs.getD p.1 0) .any := by
                rw [List.getD_eq_getElem?_getD, List.getElem?_append_right (by rw [List.length_map, List.length_range]; omega), List.length_map, List.length_range, ← List.getD_eq_getElem?_getD]
              have e5 : (vs ++ (F p.1).2).getD i undef = (F p.1).2.getD (i - rs.getD p.1 0) undef := by
                rw [Array.getD_eq_getD_getElem?, Array.getElem?_append, if_neg (by omega), hvsz, ← Array.getD_eq_getD_getElem?]
              rw [e4, e5]
              exact hrdcaps _ (by omega)
          · rintro e A' ⟨v, rfl, d, σ', ρ', ⟨hk', q1, q2⟩, h', _⟩
            refine ⟨⟨v, rfl⟩, ?_⟩
            split at hk'
            · rename_i zs hz
              split at hk'
              · rename_i hck2
                obtain ⟨f1, f2⟩ := frzCells_fr E.cells σ'
                have q1' : FrB ((visAnn E).head (visY σr Y #[u]) ys) σ' := ⟨q1.1, q1.2.1, q1.2.2⟩
                obtain ⟨ρ5, h5⟩ := head_again hck2 (q1'.trans f1) (fun t _ => .inl (by rw [f2, q2])) hz (frzCells_ok E.cells h')
                have h6 := head_head h5
                have h7 : HS base w0 ok0 ((visAnn E).head (visY σr (.lit undef) #[undef]) zs) ρ5 a A' := sv_swap (σ1 := (visAnn E).head (visY σr Y #[u]) zs) ((htm _ _ _).trans (htm _ _ _).symm) rfl (fun b hb => hbN _ _ _ _ _ b hb) (hbY _ _ _) (hbY _ _ _) rfl h6 (rdY (.lit undef) undef (.lit _))
                refine ⟨_, ⟨zs, ρ5, by rw [vals_len hz, vals_len hys], hk', h7, rfl⟩, ?_⟩
                have hB := h6.blks σr.clk
                rw [hbY] at hB
                have hB := hB.2.2 0
                have hB : RD A' (okF base ok0 ((visAnn E).head (visY σr Y #[u]) zs).blk ρ5) ρ5 ((visAnn E).head (visY σr Y #[u]) zs).blk _ (.v Y) u := hB
                cases hB with
                | v _ _ hv => exact hv.mono fun g hg hlt => ⟨⟨.inl (okF_eq (fun b hb => hbN _ _ _ _ _ b hb) (by rw [hbY]; rfl) (by rw [hbY]; rfl) hg), hlt⟩, rfl⟩
              · exact hk'.elim
            · exact hk'.elim
        · obtain ⟨p1, p2⟩ := pls_get hxs
          have hml : (args.take m).length = m := by rw [List.length_take]; omega
          refine ⟨by rw [p1, hml]; simp; omega, fun i hi => ?_⟩
          rw [p1, hml] at hi
          obtain ⟨r', z1, z2⟩ := p2 i (by rw [hml]; exact hi)
          have e4 : (args.take m).getD i .any = args.getD i .any := by
            rw [List.getD_eq_getElem?_getD, List.getElem?_take_of_lt hi, ← List.getD_eq_getElem?_getD]
          have e5 : (cargs.extract 0 m).getD i undef = cargs.getD i undef := by
            rw [Array.getD_eq_getD_getElem?, Array.getElem?_extract, Array.getD_eq_getD_getElem?, if_pos (by omega), Nat.zero_add]
          rw [e4] at z1
          rw [e5]
          have hB := h2.blks σ.clk
          rw [hbA] at hB
          exact (pl_ok (fview_ok _) h2 (hB.2.2 i) z1 z2).mono fun g hg hlt => ⟨⟨hg, hlt⟩, rfl⟩
        · rintro e w' ⟨rfl, o', ys, ρ3, e1, e2, e3, _⟩
          refine ⟨_, rfl, .tup [], _, ρ3, hIe ys e1 e2, ?_, .tup [] #[] rfl (fun i hi => by cases hi)⟩
          have k1 := sv_kill (hbY _ _ _) e3
          have k2 := sv_kill (b0 := σ.clk) (ds := args) (vs := cargs) (by
            exact ((congrFun (blk_app ((visAnn E).head (visY σr (.lit undef) #[undef]) ys) [(σr.clk, .dead)] _ _ _) σ.clk).trans (updB_ne _ _ _ hne)).trans (hbA _ _ _)) k1
          have k3 : HR base w0 ok0 _ _ _ ρ3 a w' := k2
          simp only [htm] at k3
          exact k3
      · exact h.elim
    · exact h.elim
  · exact h.elim
end
end Go.Proofs.Ytfdpbfdhcngfgaa
