/- Texts of one proof, part 4: plain values, a run over them, contracts of functions. -/
import Derived.Test.YtcifjnhpgblnkaaGreatDoorM3
import Derived.Test.YtcifjnhpgblnkaaGreatDoorM1
import Derived.Lib.SmallJoins
import Derived.Deep.Slices
import Derived.Deep.Fields
import Derived.ChangeSame
import Derived.Shelf.SlSortCmp.NoneTotal
import Derived.Test.YtcifjnhpgblnkaaGreatDoorChecked
/- Calls that hand out values to visitors: the run's word for them is sound. -/
namespace Go.Proofs.YtcifjnhpgblnkaaGreatDoor
open Go.RowKit
set_option linter.unusedVariables false
set_option linter.unusedSimpArgs false
theorem updB_one (blk : Nat → DB) (b : Nat) (d : DB) : updB blk [(b, d)] b = d := by simp [updB]
theorem updB_ne (blk : Nat → DB) (b : Nat) (d : DB) {c : Nat} (h : c ≠ b) : updB blk [(b, d)] c = blk c := updB_of_not (by simp [h])
section
variable {base : Nat} {w0 : World} {ok0 : Nat → Prop} {ρ : Nat → Value} {a : Act} {w : World}
/-- A block that keeps something beside. -/
theorem sv_add {σ : DS} {ds : List DE} {vs : Array Value} (h : HS base w0 ok0 σ ρ a w) (hsz : vs.size = ds.length) (hrd : ∀ t, RD w (okF base ok0 σ.blk ρ) ρ σ.blk (fun n => n < σ.clk) (ds.getD t .any) (vs.getD t undef)) :
    HS base w0 ok0 ⟨σ.tm, (σ.clk, .sv ds vs) :: σ.bl, σ.clk + 64, σ.orc⟩ ρ a w := by
  have hdead : σ.blk σ.clk = .dead := h.frs σ.clk (fun q => Nat.lt_irrefl _ q)
  have hund : ρ σ.clk = undef := by have := h.blks σ.clk; rw [hdead] at this; exact this
  have hb1 : (DS.mk σ.tm ((σ.clk, .sv ds vs) :: σ.bl) (σ.clk + 64) σ.orc).blk = updB σ.blk [(σ.clk, .sv ds vs)] := blk_app σ [(σ.clk, .sv ds vs)] _ _ _
  show HR base w0 ok0 (fun n => n < σ.clk + 64) σ.tm (DS.mk σ.tm ((σ.clk, .sv ds vs) :: σ.bl) (σ.clk + 64) σ.orc).blk ρ a w
  rw [hb1]
  refine HR.step h (fun b => b = σ.clk) (fun b hc => updB_ne _ _ _ hc) (fun b _ => rfl) (fun b t cs _ _ => rfl) (fun b n x hc e => by rw [hc, hdead] at e; cases e)
    (fun n hn => by have : n < σ.clk := hn; show n < σ.clk + 64; omega) (fun b hc => by show b < σ.clk + 64; rw [hc]; omega) (fun b n hc _ hst => by rw [hc, updB_one] at hst; cases hst) (Nat.le_refl _) (fun _ _ _ => rfl)
    (fun b hc hl => by rw [hc, updB_one] at hl; cases hl) (fun b b' hc _ hl => by rw [hc, updB_one] at hl; cases hl) rfl rfl rfl (fun H1 H5 b hc => ?_) (fun H1 t => .inl ⟨rfl, rfl⟩) h.size rfl
  rw [hc, updB_one]
  exact ⟨hund, hsz, fun t => H5 _ _ (hrd t)⟩
/-- It keeps something else. -/
theorem sv_swap {σ1 σ2 : DS} {b0 : Nat} (htm : σ2.tm = σ1.tm) (hclk : σ2.clk = σ1.clk) (hne : ∀ b, b ≠ b0 → σ2.blk b = σ1.blk b) {ds1 ds2 : List DE} {vs1 vs2 : Array Value} (h1 : σ1.blk b0 = .sv ds1 vs1) (h2 : σ2.blk b0 = .sv ds2 vs2) (hsz : vs2.size = ds2.length)
    (h : HS base w0 ok0 σ1 ρ a w) (hrd : ∀ t, RD w (okF base ok0 σ1.blk ρ) ρ σ1.blk (fun n => n < σ1.clk) (ds2.getD t .any) (vs2.getD t undef)) : HS base w0 ok0 σ2 ρ a w := by
  show HR base w0 ok0 (fun n => n < σ2.clk) σ2.tm σ2.blk ρ a w
  rw [htm, hclk]
  refine HR.step h (fun b => b = b0) (fun b hc => hne b hc) (fun b _ => rfl) (fun b t cs _ _ => rfl) (fun b n x hc e => by rw [hc, h1] at e; cases e)
    (fun n hn => hn) (fun b hc => Classical.byContradiction fun q => by have := h.frs b q; rw [hc, h1] at this; cases this) (fun b n hc _ hst => by rw [hc, h2] at hst; cases hst) (Nat.le_refl _) (fun _ _ _ => rfl)
    (fun b hc hl => by rw [hc, h2] at hl; cases hl) (fun b b' hc _ hl => by rw [hc, h2] at hl; cases hl) rfl rfl rfl (fun H1 H5 b hc => ?_) (fun H1 t => .inl ⟨rfl, rfl⟩) h.size rfl
  have hB := h.blks b0
  rw [h1] at hB
  rw [hc, h2]
  exact ⟨hB.1, hsz, fun t => H5 _ _ (hrd t)⟩
theorem sv_kill {σ : DS} {b0 : Nat} {ds : List DE} {vs : Array Value} (h1 : σ.blk b0 = .sv ds vs) (h : HS base w0 ok0 σ ρ a w) : HS base w0 ok0 ⟨σ.tm, (b0, .dead) :: σ.bl, σ.clk, σ.orc⟩ ρ a w := by
  have hb1 : (DS.mk σ.tm ((b0, .dead) :: σ.bl) σ.clk σ.orc).blk = updB σ.blk [(b0, .dead)] := blk_app σ [(b0, .dead)] _ _ _
  show HR base w0 ok0 (fun n => n < σ.clk) σ.tm (DS.mk σ.tm ((b0, .dead) :: σ.bl) σ.clk σ.orc).blk ρ a w
  rw [hb1]
  refine HR.step h (fun b => b = b0) (fun b hc => updB_ne _ _ _ hc) (fun b _ => rfl) (fun b t cs _ _ => rfl) (fun b n x hc e => by rw [hc, h1] at e; cases e)
    (fun n hn => hn) (fun b hc => Classical.byContradiction fun q => by have := h.frs b q; rw [hc, h1] at this; cases this) (fun b n hc _ hst => by rw [hc, updB_one] at hst; cases hst) (Nat.le_refl _) (fun _ _ _ => rfl)
    (fun b hc hl => by rw [hc, updB_one] at hl; cases hl) (fun b b' hc _ hl => by rw [hc, updB_one] at hl; cases hl) rfl rfl rfl (fun H1 H5 b hc => ?_) (fun H1 t => .inl ⟨rfl, rfl⟩) h.size rfl
  have hB := h.blks b0
  rw [h1] at hB
  rw [hc, updB_one]
  exact hB.1
theorem rowify_sv {b : Nat} {ds : List DE} {vs : Array Value} : ∀ (l : List (Nat × Nat × TypeId × Nat)) {σ : DS} {ρ : Nat → Value}, HS base w0 ok0 σ ρ a w → σ.blk b = .sv ds vs → (rowify l σ).blk b = .sv ds vs
  | [], _, _, _, hb => hb
  | q :: l, σ, ρ, h, hb => by
    obtain ⟨ρ1, h1⟩ := rowify1_ok q h
    refine rowify_sv l h1 ?_
    unfold rowify1
    split
    · rename_i t cs hq
      split
      · have hdead : σ.blk σ.clk = .dead := h.frs σ.clk (fun q => Nat.lt_irrefl _ q)
        have e1 : b ≠ q.1 := fun e => by rw [e, hq] at hb; cases hb
        have e2 : b ≠ σ.clk := fun e => by rw [e, hdead] at hb; cases hb
        have : ∀ (l : List (Nat × DB)) (c : Nat) (o : Orc), (DS.mk σ.tm ((q.1, .cells t (cs.set q.2.1 (.row σ.clk σ.clk))) :: (σ.clk, .row q.2.2.1 q.2.2.2 σ.clk (AV.mk q.2.2.2 [])) :: σ.bl) c o).blk b = σ.blk b := fun _ c o => by
          have := blk_app σ [(q.1, .cells t (cs.set q.2.1 (.row σ.clk σ.clk))), (σ.clk, .row q.2.2.1 q.2.2.2 σ.clk (AV.mk q.2.2.2 []))] σ.tm c o
          have e3 := congrFun this b
          rw [updB_cons, updB_cons, if_neg e1, if_neg e2] at e3
          exact e3
        exact (this [] _ _).trans hb
      · exact hb
    · exact hb
/-- A cell's row is frozen. -/
theorem frzCell1_ok (q : Nat × Nat) {σ : DS} (h : HS base w0 ok0 σ ρ a w) : HS base w0 ok0 (frzCell1 σ q) ρ a w := by
  have key : ∀ (σ : DS) (t : TypeId) (cs : List DE) (b n : Nat) (x : AV), HS base w0 ok0 σ ρ a w → σ.blk q.1 = .cells t cs → cs.getD q.2 .any = .row b n → σ.blk b = .fz n x → HS base w0 ok0 { σ with bl := (q.1, .cells t (cs.set q.2 (.v x))) :: σ.bl } ρ a w := fun σ t cs b n x h hb hc hf => by
    have ho : q.2 < cs.length := Classical.byContradiction fun g => by
      rw [List.getD_eq_getElem?_getD, List.getElem?_eq_none (by omega)] at hc
      cases hc
    have hb1 : (DS.mk σ.tm ((q.1, .cells t (cs.set q.2 (.v x))) :: σ.bl) σ.clk σ.orc).blk = updB σ.blk [(q.1, .cells t (cs.set q.2 (.v x)))] := blk_app σ [(q.1, .cells t (cs.set q.2 (.v x)))] _ _ _
    show HR base w0 ok0 (fun n => n < σ.clk) σ.tm (DS.mk σ.tm ((q.1, .cells t (cs.set q.2 (.v x))) :: σ.bl) σ.clk σ.orc).blk ρ a w
    rw [hb1]
    refine HR.step h (fun b => b = q.1) (fun b hc => updB_ne _ _ _ hc) (fun b _ => rfl) (fun b t cs _ _ => rfl) (fun b n x hc e => by rw [hc, hb] at e; cases e)
      (fun n hn => hn) (fun c hc => Classical.byContradiction fun q => by have := h.frs c q; rw [hc, hb] at this; cases this) (fun b n hc _ hst => by rw [hc, updB_one] at hst; cases hst) (Nat.le_refl _) (fun _ _ _ => rfl)
      (fun c hc hl g hg => .inl ⟨by rw [hc, hb]; rfl, hg⟩) (fun c c' hc hc' _ _ hne => absurd (hc.trans hc'.symm) hne) rfl rfl rfl (fun H1 H5 c hc' => ?_) (fun H1 t => .inl ⟨rfl, rfl⟩) h.size rfl
    have hB := h.blks q.1
    rw [hb] at hB
    obtain ⟨g, vs, e1, e2, e3, e4, e5, e6⟩ := hB
    rw [hc', updB_one]
    refine ⟨g, vs, e1, e2, e3, by rw [List.length_set]; exact e4, fun i hi => e5 i (by rw [List.length_set] at hi; exact hi), fun i hi => ?_⟩
    have hi' : i < cs.length := by rw [List.length_set] at hi; exact hi
    by_cases hio : i = q.2
    · subst hio
      have hv := e6 _ hi'
      rw [hc] at hv
      have e7 : (cs.set q.2 (.v x)).getD q.2 .any = .v x := by
        rw [List.getD_eq_getElem?_getD, List.getElem?_set_self ho]; rfl
      rw [e7]
      refine H5 _ _ ?_
      have hF := h.blks b
      rw [hf] at hF
      generalize vs.getD q.2 undef = u at hv
      cases hv with
      | row _ _ _ hn h1 hs =>
        rw [hs (by rw [hf]; rfl)]
        exact .v _ _ hF.2.1
    · have e7 : (cs.set q.2 (.v x)).getD i .any = cs.getD i .any := by
        rw [List.getD_eq_getElem?_getD, List.getElem?_set_ne (Ne.symm hio), List.getD_eq_getElem?_getD]
      rw [e7]
      exact H5 _ _ (e6 i hi')
  unfold frzCell1
  split
  · rename_i t cs hb
    split
    · rename_i b n hc
      split
      · rename_i e s m x hr
        split
        · rename_i hmn
          obtain ⟨rfl, hne⟩ := hmn
          have hf := HR.freeze (fview_ok σ) h [b]
          have e1 : σ.fview.frz [b] = [(b, .fz m x)] := by
            have hb' : σ.fview.bl b = .row e s m x := hr
            simp [View.frz, hb']
          rw [e1] at hf
          have hbk : (DS.mk σ.tm ((b, .fz m x) :: σ.bl) σ.clk σ.orc).blk = updB σ.blk [(b, .fz m x)] := blk_app σ [(b, .fz m x)] _ _ _
          have h1 : HS base w0 ok0 (DS.mk σ.tm ((b, .fz m x) :: σ.bl) σ.clk σ.orc) ρ a w := by
            show HR base w0 ok0 (fun n => n < σ.clk) σ.tm (DS.mk σ.tm ((b, .fz m x) :: σ.bl) σ.clk σ.orc).blk ρ a w
            rw [hbk]; exact hf
          exact key _ t cs b m x h1 (by rw [hbk, updB_ne _ _ _ (Ne.symm hne)]; exact hb) hc (by rw [hbk, updB_one])
        · exact h
      · rename_i m x hr
        split
        · rename_i hmn
          subst hmn
          exact key σ t cs b m x h hb hc hr
        · exact h
      · exact h
    · exact h
  · exact h
theorem frzCells_ok : ∀ (l : List (Nat × Nat)) {σ : DS}, HS base w0 ok0 σ ρ a w → HS base w0 ok0 (frzCells l σ) ρ a w
  | [], _, h => h
  | q :: l, _, h => frzCells_ok l (frzCell1_ok q h)
theorem frzCell1_fr (σ : DS) (q : Nat × Nat) : FrB σ (frzCell1 σ q) ∧ (frzCell1 σ q).tm = σ.tm := by
  unfold frzCell1
  split
  · split
    · split
      · split
        · exact ⟨⟨⟨[_, _], rfl⟩, rfl, Nat.le_refl _⟩, rfl⟩
        · exact ⟨FrB.refl σ, rfl⟩
      · split
        · exact ⟨⟨⟨[_], rfl⟩, rfl, Nat.le_refl _⟩, rfl⟩
        · exact ⟨FrB.refl σ, rfl⟩
      · exact ⟨FrB.refl σ, rfl⟩
    · exact ⟨FrB.refl σ, rfl⟩
  · exact ⟨FrB.refl σ, rfl⟩
theorem frzCells_fr : ∀ (l : List (Nat × Nat)) (σ : DS), FrB σ (frzCells l σ) ∧ (frzCells l σ).tm = σ.tm
  | [], σ => ⟨FrB.refl σ, rfl⟩
  | q :: l, σ => by
    obtain ⟨h1, h2⟩ := frzCell1_fr σ q
    obtain ⟨h3, h4⟩ := frzCells_fr l (frzCell1 σ q)
    exact ⟨h1.trans h3, h4.trans h2⟩
theorem vis_tm (E : LoopEx) (σ : DS) (ys : List AV) : ((visAnn E).head σ ys).tm = σ.tm := by
  apply List.ext_getElem?
  intro t
  simp only [LoopAnn.head, List.getElem?_map, List.getElem?_zipIdx]
  cases h : σ.tm[t]? with
  | none => rfl
  | some d => simp [LoopAnn.tm, visAnn]
theorem vis_blk (E : LoopEx) (σr : DS) (Y : AV) (vs : Array Value) (ys : List AV) : ((visAnn E).head (visY σr Y vs) ys).blk σr.clk = .sv [.v Y] vs ∧
    ∀ b, b ≠ σr.clk → ((visAnn E).head (visY σr Y vs) ys).blk b = if b ∈ (visAnn E).touched then (visAnn E).blkOf ys b (σr.blk b) else σr.blk b := by
  have e : (visY σr Y vs).blk = updB σr.blk [(σr.clk, .sv [.v Y] vs)] := blk_app σr [(σr.clk, .sv [.v Y] vs)] _ _ _
  refine ⟨?_, fun b hb => ?_⟩
  · rw [head_blk, e, updB_one]
    split <;> rfl
  · rw [head_blk, e, updB_ne _ _ _ hb]
theorem okF_eq {blk blk' : Nat → DB} {b0 : Nat} (hne : ∀ b, b ≠ b0 → blk' b = blk b) (h1 : isLive (blk b0) = false) (h2 : isLive (blk' b0) = false) {g : Nat} (h : okF base ok0 blk ρ g) : okF base ok0 blk' ρ g :=
  ⟨h.1, fun b hl => by
    by_cases hb : b = b0
    · rw [hb, h2] at hl; cases hl
    · rw [hne b hb] at hl; exact h.2 b hl⟩
end
section
variable {P : Program} {inl : Inl}
theorem visEnts_iff : ∀ (l : List DE) (F : Prop), visEnts P l F ↔ (∀ vf caps, DE.fn vf caps ∈ l → Ent P vf) ∧ F
  | [], F => ⟨fun h => ⟨fun _ _ q => (by cases q), h⟩, fun h => h.2⟩
  | d :: l, F => by
    have ih := visEnts_iff l F
    cases d with
    | fn vf caps =>
      refine ⟨fun h => ⟨fun vf' caps' q => ?_, (ih.1 h.2).2⟩, fun h => ⟨h.1 vf caps (List.mem_cons_self ..), ih.2 ⟨fun vf' caps' q => h.1 vf' caps' (List.mem_cons_of_mem _ q), h.2⟩⟩⟩
      rcases List.mem_cons.1 q with e | q
      · injection e with e _; rw [e]; exact h.1
      · exact (ih.1 h.2).1 vf' caps' q
    | _ =>
      refine ⟨fun h => ⟨fun vf' caps' q => ?_, (ih.1 h).2⟩, fun h => ih.2 ⟨fun vf' caps' q => h.1 vf' caps' (List.mem_cons_of_mem _ q), h.2⟩⟩
      rcases List.mem_cons.1 q with e | q
      · cases e
      · exact (ih.1 h).1 vf' caps' q
theorem vis_frB (E : LoopEx) (args : List DE) (us : Array Value) (σ : DS) (Y : AV) (vs : Array Value) (ys : List AV) : FrB σ ((visAnn E).head (visY (rowify E.nils ⟨σ.tm, (σ.clk, .sv args us) :: σ.bl, σ.clk + 64, σ.orc⟩) Y vs) ys) := by
  have h1 : FrB σ ⟨σ.tm, (σ.clk, .sv args us) :: σ.bl, σ.clk + 64, σ.orc⟩ := ⟨⟨[_], rfl⟩, rfl, Nat.le_add_right _ _⟩
  have h2 := (rowify_fr E.nils ⟨σ.tm, (σ.clk, .sv args us) :: σ.bl, σ.clk + 64, σ.orc⟩).1
  generalize rowify E.nils ⟨σ.tm, (σ.clk, .sv args us) :: σ.bl, σ.clk + 64, σ.orc⟩ = σr at *
  have h3 : FrB σr (visY σr Y vs) := ⟨⟨[_], rfl⟩, rfl, Nat.le_add_right _ _⟩
  exact ((h1.trans h2).trans h3).trans (head_frB _ _ _)
theorem visF_fr (E : LoopEx) (rs : List Nat) (f : FuncId) (args : List DE) (σ : DS) (K K' : DE → DS → Prop) (h : visF P E inl rs f args σ K) (hK : ∀ d σ', K d σ' → FrB σ σ' → σ'.tm = σ.tm → K' d σ') : visF P E inl rs f args σ K' := by
  intro us
  have h := h us
  have hfb := fun ys => vis_frB E args us σ (.lit undef) #[undef] ys
  simp only at h ⊢
  generalize rowify E.nils ⟨σ.tm, (σ.clk, .sv args us) :: σ.bl, σ.clk + 64, σ.orc⟩ = σr at *
  split at h
  · rename_i ys0 hys
    split at h
    · rename_i xs hxs
      split at h
      · rename_i hck
        obtain ⟨hen, evs, hvi, Inv, h0, hb, hk⟩ := (visEnts_iff _ _).1 h
        simp only [hxs, hck, if_true]
        refine (visEnts_iff _ _).2 ⟨hen, evs, hvi, Inv, h0, hb, fun ys e1 e2 => hK _ _ (hk ys e1 e2) ?_ rfl⟩
        obtain ⟨⟨pre, h1⟩, h2, h3⟩ := hfb ys
        exact ⟨⟨(σ.clk, .dead) :: (σr.clk, .dead) :: pre, by simp [h1]⟩, rfl, h3⟩
      · exact h.elim
    · exact h.elim
  · exact h.elim
variable {base : Nat} {w0 : World} {ok0 : Nat → Prop} {ρ : Nat → Value} {a : Act} {w : World}
theorem visF_ok (hinl : InlOk P inl) (hfr : InlFr inl) (E : LoopEx) (rs : List Nat) (f : FuncId) (args : List DE) (σ : DS) (K : DE → DS → Prop) (cargs : Array Value) (hent : Ent P f) (h : visF P E inl rs f args σ K) (hs : HS base w0 ok0 σ ρ a w) (hsz : cargs.size = args.length)
    (hargs : ∀ i, i < args.length → RD w (okF base ok0 σ.blk ρ) ρ σ.blk (fun n => n < σ.clk) (args.getD i .any) (cargs.getD i undef)) :
    Calls P f cargs w fun e w' => ∃ v, e = .returned v ∧ ∃ d σ' ρ', K d σ' ∧ HS base w0 ok0 σ' ρ' a w' ∧ RD w' (okF base ok0 σ'.blk ρ') ρ' σ'.blk (fun n => n < σ'.clk) d v := by
  have h := h cargs
  have hfb := fun ys => vis_frB E args cargs σ (.lit undef) #[undef] ys
  simp only at h
  have hsa := sv_add (ds := args) (vs := cargs) hs hsz (fun t => by
    by_cases ht : t < args.length
    · exact hargs t ht
    · rw [List.getD_eq_getElem?_getD, List.getElem?_eq_none (by omega)]
      exact .any _)
  have hba : (DS.mk σ.tm ((σ.clk, .sv args cargs) :: σ.bl) (σ.clk + 64) σ.orc).blk σ.clk = .sv args cargs := (congrFun (blk_app σ [(σ.clk, .sv args cargs)] σ.tm (σ.clk + 64) σ.orc) σ.clk).trans (updB_one _ _ _)
  obtain ⟨ρ1, hr⟩ := rowify_ok E.nils hsa
  have hsv := rowify_sv E.nils hsa hba
  obtain ⟨⟨_, _, hclk⟩, htr⟩ := rowify_fr E.nils ⟨σ.tm, (σ.clk, .sv args cargs) :: σ.bl, σ.clk + 64, σ.orc⟩
  have hclk : σ.clk + 64 ≤ (rowify E.nils ⟨σ.tm, (σ.clk, .sv args cargs) :: σ.bl, σ.clk + 64, σ.orc⟩).clk := hclk
  have htr : (rowify E.nils ⟨σ.tm, (σ.clk, .sv args cargs) :: σ.bl, σ.clk + 64, σ.orc⟩).tm = σ.tm := htr
  clear hba
  generalize rowify E.nils ⟨σ.tm, (σ.clk, .sv args cargs) :: σ.bl, σ.clk + 64, σ.orc⟩ = σr at *
  have rdY : ∀ {okf : Nat → Prop} {ρ : Nat → Value} {blk : Nat → DB} {isd : Nat → Prop} {w : World} (Y : AV) (u : Value), RV w okf Y u → ∀ t, RD w okf ρ blk isd (([DE.v Y] : List DE).getD t .any) ((#[u] : Array Value).getD t undef) := fun Y u hv t => by
    cases t with
    | zero => exact .v _ _ hv
    | succ t => exact .any _
  split at h
  · rename_i ys0 hys
    split at h
    · rename_i xs hxs
      split at h
      · rename_i hck
        simp only [Bool.and_eq_true, decide_eq_true_eq] at hck
        obtain ⟨⟨hck, hkl⟩, hfnall⟩ := hck
        obtain ⟨hen, evs, hvi, Inv, hI0, hIb, hIe⟩ := (visEnts_iff _ _).1 h
        obtain ⟨ρ2, h2⟩ := head_again hck (FrB.refl _) (FrT.refl _ _) hys (sv_add hr rfl (rdY (.lit undef) undef (.lit _)))
        have hne : σ.clk ≠ σr.clk := by omega
        have hbY : ∀ Y vs ys, ((visAnn E).head (visY σr Y vs) ys).blk σr.clk = .sv [.v Y] vs := fun Y vs ys => (vis_blk E σr Y vs ys).1
        have hbA : ∀ Y vs ys, ((visAnn E).head (visY σr Y vs) ys).blk σ.clk = .sv args cargs := fun Y vs ys => by
          rw [(vis_blk E σr Y vs ys).2 _ hne, hsv]
          split <;> rfl
        have hbN : ∀ Y vs Y' vs' ys b, b ≠ σr.clk → ((visAnn E).head (visY σr Y' vs') ys).blk b = ((visAnn E).head (visY σr Y vs) ys).blk b := fun Y vs Y' vs' ys b hb => by
          rw [(vis_blk E σr Y vs ys).2 _ hb, (vis_blk E σr Y' vs' ys).2 _ hb]
        have htm : ∀ Y vs ys, ((visAnn E).head (visY σr Y vs) ys).tm = σ.tm := fun Y vs ys => (vis_tm E _ ys).trans htr
        obtain ⟨m, hm⟩ : ∃ m, m = args.length - rs.length := ⟨_, rfl⟩
        rw [← hm] at hxs hfnall hIb hen
        have hcl : ∀ i, i < rs.length → ∃ (vf : FuncId) (vs : Array Value) (caps : List DE), args.getD (m + i) .any = .fn vf caps ∧ cargs.getD (m + i) undef = .func (.func vf) #[] vs ∧ vs.size = caps.length := fun i hi => by
          have h1 : isFnD (args.getD (m + i) .any) = true := by
            refine List.all_eq_true.1 hfnall _ ?_
            have : (args.drop m)[i]? = some (args.getD (m + i) .any) := by
              rw [List.getElem?_drop, List.getD_eq_getElem?_getD, List.getElem?_eq_getElem (by omega)]; rfl
            exact List.mem_of_getElem? this
          have h3 := hargs (m + i) (by omega)
          generalize args.getD (m + i) .any = d at h1 h3
          generalize cargs.getD (m + i) undef = u at h3
          cases h3 with
          | fn vf caps vs hl _ => exact ⟨vf, vs, caps, rfl, rfl, hl⟩
          | _ => cases h1
        have hF : ∃ F : Nat → FuncId × Array Value, ∀ i, i < rs.length → ∃ caps, args.getD (m + i) .any = .fn (F i).1 caps ∧ cargs.getD (m + i) undef = .func (.func (F i).1) #[] (F i).2 ∧ (F i).2.size = caps.length := by
          refine ⟨fun i => if hi : i < rs.length then ((hcl i hi).choose, (hcl i hi).choose_spec.choose) else (0, #[]), fun i hi => ?_⟩
          simp only [dif_pos hi]
          exact (hcl i hi).choose_spec.choose_spec
        obtain ⟨F, hF⟩ := hF
        have hcargs : cargs = cargs.extract 0 m ++ (((List.range rs.length).map F).map fun q => Value.func (.func q.1) #[] q.2).toArray := by
          apply Array.ext_getElem?
          intro i
          rw [Array.getElem?_append]
          have hes : (cargs.extract 0 m).size = m := by simp; omega
          rw [hes]
          by_cases hi : i < m
          · rw [if_pos hi, Array.getElem?_extract]
            simp; omega
          · rw [if_neg hi]
            by_cases hi2 : i - m < rs.length
            · obtain ⟨_, _, q2, _⟩ := hF (i - m) hi2
              have e : m + (i - m) = i := by omega
              rw [e, Array.getD_eq_getD_getElem?, Array.getElem?_eq_getElem (by omega)] at q2
              rw [Array.getElem?_eq_getElem (by omega)]
              simp only [List.getElem?_toArray, List.getElem?_map, List.getElem?_range hi2, Option.map_some]
              exact congrArg some q2
            · rw [Array.getElem?_eq_none (show cargs.size ≤ i by omega)]
              exact (Array.getElem?_eq_none (by simp; omega)).symm
        rw [hcargs]
        refine (hvi.2.2 ((List.range rs.length).map F) (fun pre o A => ∃ ys ρ, ys.length = ys0.length ∧ Inv pre ys ∧ HS base w0 ok0 ((visAnn E).head (visY σr (.lit undef) #[undef]) ys) ρ a A ∧ o = fun g => okR (okF base ok0 ((visAnn E).head (visY σr (.lit undef) #[undef]) ys).blk ρ) ρ [] g ∧ g < A.heap.size) w _ (cargs.extract 0 m) (by simp) (fun q hq => ?_) ?_ ?_ ?_ ?_ ⟨ys0, ρ2, rfl, hI0, h2, rfl⟩).mono ?_
        · obtain ⟨i, hi, rfl⟩ := List.mem_map.1 hq
          have hi := List.mem_range.1 hi
          obtain ⟨caps, hc1, _⟩ := hF i hi
          refine hen _ caps ?_
          have : (args.drop m)[i]? = some (.fn (F i).1 caps) := by
            rw [List.getElem?_drop, ← hc1, List.getD_eq_getElem?_getD, List.getElem?_eq_getElem (by omega)]; rfl
          exact List.mem_of_getElem? this
        · rintro s o A C ⟨ys, ρ, e1, e2, e3, rfl⟩ hbe hdr
          have hko : KeepsOthers A C := ⟨hbe.size, fun k o hk _ => (hbe.block k (Array.getElem?_eq_some_iff.1 hk).1).trans hk⟩
          have hlow := e3.low
          refine ⟨_, ⟨ys, ρ, e1, e2, HR.conv e3 (Kc.below hbe) e3.gl (e3.bel.trans (hbe.mono e3.low)) (e3.nod.trans hko) (Nat.le_trans e3.drw hdr), rfl⟩, fun g hg => ⟨hg.1, Nat.lt_of_lt_of_le hg.2 hbe.size⟩, fun g h1 h2 => ⟨.inl ⟨fun q => by omega, fun b hl e => ?_⟩, h2⟩⟩
          have := (e3.live_lt hl e).2
          omega
        · rintro s o A ⟨ys, ρ, e1, e2, e3, rfl⟩
          exact ⟨fun g hg => hg.2, e3.glob []⟩
        · rintro pre p rest o A vs Y u hxr ⟨ys, ρ, e1, e2, e3, rfl⟩ hvs hYu
          have hpm : p ∈ evs := by rw [hxr]; simp
          obtain ⟨hp1, hp2⟩ := hvi.2.1 p hpm
          have hb := hIb pre p rest ys hxr e1 e2
          have hbd : (rs.zipIdx.map fun p => visBody P E inl σr p.2 p.1 (args.getD (m + p.2) .any)).getD p.1 (fun _ _ _ => False) = visBody P E inl σr p.1 (rs.getD p.1 0) (args.getD (m + p.1) .any) := by
            rw [List.getD_eq_getElem?_getD, List.getElem?_map, List.getElem?_zipIdx, List.getElem?_eq_getElem hp1]
            simp [List.getD_eq_getElem?_getD, List.getElem?_eq_getElem hp1]
          rw [hbd] at hb
          obtain ⟨caps, hc1, hc2, hc3⟩ := hF p.1 hp1
          rw [hc1] at hb
          have hfi : ((List.range rs.length).map F).getD p.1 default = F p.1 := by
            rw [List.getD_eq_getElem?_getD, List.getElem?_map, List.getElem?_range hp1]; rfl
          rw [hfi]
          have hb2 := hb #[u] Y
          have hent' : Ent P (F p.1).1 := hen _ caps (by
            have : (args.drop m)[p.1]? = some (.fn (F p.1).1 caps) := by
              rw [List.getElem?_drop, ← hc1, List.getD_eq_getElem?_getD, List.getElem?_eq_getElem (by omega)]; rfl
            exact List.mem_of_getElem? this)
          clear hb hbd
          have hok : ∀ g, (okR (okF base ok0 ((visAnn E).head (visY σr (.lit undef) #[undef]) ys).blk ρ) ρ [] g ∧ g < A.heap.size) → okF base ok0 ((visAnn E).head (visY σr (.lit undef) #[undef]) ys).blk ρ g := fun g hg => by
            rcases hg.1 with q | ⟨b, q, _⟩
            · exact q
            · cases q
          have hsY : HS base w0 ok0 ((visAnn E).head (visY σr Y #[u]) ys) ρ a A := sv_swap (σ1 := (visAnn E).head (visY σr (.lit undef) #[undef]) ys) ((htm _ _ _).trans (htm _ _ _).symm) rfl (fun b hb => hbN _ _ _ _ _ b hb) (hbY _ _ _) (hbY _ _ _) rfl e3 (rdY Y u (hYu.mono fun g hg _ => ⟨hok g hg, rfl⟩))
          have hokY : ∀ g, okF base ok0 ((visAnn E).head (visY σr (.lit undef) #[undef]) ys).blk ρ g → okF base ok0 ((visAnn E).head (visY σr Y #[u]) ys).blk ρ g := fun g hg => okF_eq (fun b hb => hbN _ _ _ _ _ b hb) (by rw [hbY]; rfl) (by rw [hbY]; rfl) hg
          have hrdc := hsY.blks σ.clk
          rw [hbA] at hrdc
          have hrdc := hrdc.2.2 (m + p.1)
          rw [hc1, hc2] at hrdc
          have hrdcaps : ∀ i, i < caps.length → RD A (okF base ok0 ((visAnn E).head (visY σr Y #[u]) ys).blk ρ) ρ ((visAnn E).head (visY σr Y #[u]) ys).blk (fun n => n < ((visAnn E).head (visY σr Y #[u]) ys).clk) (caps.getD i .any) ((F p.1).2.getD i undef) := by
            generalize hFv : (F p.1).2 = fv at hrdc
            cases hrdc with
            | fn _ _ _ hl hc => exact hc
          have hvsz : vs.size = rs.getD p.1 0 := hvs.1.trans hp2
          refine (hinl base w0 ok0 (F p.1).1 _ _ _ ρ a A (vs ++ (F p.1).2) hent' (hfr _ _ _ _ _ hb2 (fun d σ' hk q1 q2 => (⟨hk, q1, q2⟩ : _ ∧ FrB _ σ' ∧ σ'.tm = _))) hsY (by simp [hvsz, hc3]) (fun i hi => ?_)).mono ?_
          · rw [List.length_append, List.length_map, List.length_range] at hi
            by_cases hir : i < rs.getD p.1 0
            · have e4 : ((List.range (rs.getD p.1 0)).map (fun j => DE.v (p.2.getD j default)) ++ caps).getD i .any = .v (p.2.getD i default) := by
                rw [List.getD_eq_getElem?_getD, List.getElem?_append_left (by simpa using hir), List.getElem?_map, List.getElem?_range hir]; rfl
              have e5 : (vs ++ (F p.1).2).getD i undef = vs.getD i undef := by
                rw [Array.getD_eq_getD_getElem?, Array.getElem?_append, if_pos (by omega), ← Array.getD_eq_getD_getElem?]
              rw [e4, e5]
              exact .v _ _ ((hvs.2 i (by omega)).mono fun g hg _ => ⟨hokY g (hok g hg), rfl⟩)
            · have e4 : ((List.range (rs.getD p.1 0)).map (fun j => DE.v (p.2.getD j default)) ++ caps).getD i .any = caps.getD (i - rs.getD p.1 0) .any := by
                rw [List.getD_eq_getElem?_getD, List.getElem?_append_right (by rw [List.length_map, List.length_range]; omega), List.length_map, List.length_range, ← List.getD_eq_getElem?_getD]
              have e5 : (vs ++ (F p.1).2).getD i undef = (F p.1).2.getD (i - rs.getD p.1 0) undef := by
                rw [Array.getD_eq_getD_getElem?, Array.getElem?_append, if_neg (by omega), hvsz, ← Array.getD_eq_getD_getElem?]
              rw [e4, e5]
              exact hrdcaps _ (by omega)
          · rintro e A' ⟨v, rfl, d, σ', ρ', ⟨hk', q1, q2⟩, h', _⟩
            refine ⟨⟨v, rfl⟩, ?_⟩
            split at hk'
            · rename_i zs hz
              split at hk'
              · rename_i hck2
                obtain ⟨f1, f2⟩ := frzCells_fr E.cells σ'
                have q1' : FrB ((visAnn E).head (visY σr Y #[u]) ys) σ' := ⟨q1.1, q1.2.1, q1.2.2⟩
                obtain ⟨ρ5, h5⟩ := head_again hck2 (q1'.trans f1) (fun t _ => .inl (by rw [f2, q2])) hz (frzCells_ok E.cells h')
                have h6 := head_head h5
                have h7 : HS base w0 ok0 ((visAnn E).head (visY σr (.lit undef) #[undef]) zs) ρ5 a A' := sv_swap (σ1 := (visAnn E).head (visY σr Y #[u]) zs) ((htm _ _ _).trans (htm _ _ _).symm) rfl (fun b hb => hbN _ _ _ _ _ b hb) (hbY _ _ _) (hbY _ _ _) rfl h6 (rdY (.lit undef) undef (.lit _))
                refine ⟨_, ⟨zs, ρ5, by rw [vals_len hz, vals_len hys], hk', h7, rfl⟩, ?_⟩
                have hB := h6.blks σr.clk
                rw [hbY] at hB
                have hB := hB.2.2 0
                have hB : RD A' (okF base ok0 ((visAnn E).head (visY σr Y #[u]) zs).blk ρ5) ρ5 ((visAnn E).head (visY σr Y #[u]) zs).blk _ (.v Y) u := hB
                cases hB with
                | v _ _ hv => exact hv.mono fun g hg hlt => ⟨⟨.inl (okF_eq (fun b hb => hbN _ _ _ _ _ b hb) (by rw [hbY]; rfl) (by rw [hbY]; rfl) hg), hlt⟩, rfl⟩
              · exact hk'.elim
            · exact hk'.elim
        · obtain ⟨p1, p2⟩ := pls_get hxs
          have hml : (args.take m).length = m := by rw [List.length_take]; omega
          refine ⟨by rw [p1, hml]; simp; omega, fun i hi => ?_⟩
          rw [p1, hml] at hi
          obtain ⟨r', z1, z2⟩ := p2 i (by rw [hml]; exact hi)
          have e4 : (args.take m).getD i .any = args.getD i .any := by
            rw [List.getD_eq_getElem?_getD, List.getElem?_take_of_lt hi, ← List.getD_eq_getElem?_getD]
          have e5 : (cargs.extract 0 m).getD i undef = cargs.getD i undef := by
            rw [Array.getD_eq_getD_getElem?, Array.getElem?_extract, Array.getD_eq_getD_getElem?, if_pos (by omega), Nat.zero_add]
          rw [e4] at z1
          rw [e5]
          have hB := h2.blks σ.clk
          rw [hbA] at hB
          exact (pl_ok (fview_ok _) h2 (hB.2.2 i) z1 z2).mono fun g hg hlt => ⟨⟨hg, hlt⟩, rfl⟩
        · rintro e w' ⟨rfl, o', ys, ρ3, e1, e2, e3, _⟩
          refine ⟨_, rfl, .tup [], _, ρ3, hIe ys e1 e2, ?_, .tup [] #[] rfl (fun i hi => by cases hi)⟩
          have k1 := sv_kill (hbY _ _ _) e3
          have k2 := sv_kill (b0 := σ.clk) (ds := args) (vs := cargs) (by
            exact ((congrFun (blk_app ((visAnn E).head (visY σr (.lit undef) #[undef]) ys) [(σr.clk, .dead)] _ _ _) σ.clk).trans (updB_ne _ _ _ hne)).trans (hbA _ _ _)) k1
          have k3 : HR base w0 ok0 _ _ _ ρ3 a w' := k2
          simp only [htm] at k3
          exact k3
      · exact h.elim
    · exact h.elim
  · exact h.elim
end
end Go.Proofs.YtcifjnhpgblnkaaGreatDoor
/- Walking into a called function's text. -/
namespace Go.Proofs.YtcifjnhpgblnkaaGreatDoor
open Go.RowKit
set_option linter.unusedVariables false
set_option linter.unusedSimpArgs false
section
variable {P : Program} {Γ : FuncId → Option Ca} {ann : FuncId → Nat → LoopEx}
theorem inF_fr : ∀ n, InlFr (inF P Γ ann n)
  | 0 => fun f args σ K K' h hK => h.elim
  | n + 1 => fun f args σ K K' h hK => by
    unfold inF at h ⊢
    by_cases hv : (ann f 999999).drop ≠ []
    · rw [if_pos hv] at h ⊢
      exact visF_fr _ _ _ _ _ _ _ h hK
    rw [if_neg hv] at h ⊢
    simp only at h ⊢
    split at h
    · exact h.elim
    · rename_i fn hf
      split at h
      · exact h.elim
      · rename_i c hb
        intro vs
        refine runC_mono (inF_fr n) c _ _ _ (h vs) fun e σ' hk hfb _ _ => ?_
        split at hk
        · rename_i hex
          rw [if_pos hex]
          split at hk
          · rename_i d hd
            split at hk
            · exact hk.elim
            · rename_i hp
              rw [if_neg hp]
              refine hK _ _ hk ?_ rfl
              obtain ⟨⟨p, hp⟩, _, h3⟩ := hfb
              exact ⟨⟨(σ.clk, .dead) :: p ++ [(σ.clk, .sv σ.tm vs)], by simp [hp]⟩, rfl, by have h3' : σ.clk + 64 ≤ σ'.clk := h3; show σ.clk ≤ σ'.clk; omega⟩
          · exact hk.elim
        · exact hk.elim
theorem inF_ok (hm : P.follows .mixedOrders = true) : ∀ n, InlOk P (inF P Γ ann n)
  | 0 => fun base w0 ok0 f args σ K ρ a w cargs hent h _ _ _ => h.elim
  | n + 1 => fun base w0 ok0 f args σ K ρ a w cargs hent h hs hsz hargs => by
    unfold inF at h
    by_cases hv : (ann f 999999).drop ≠ []
    · rw [if_pos hv] at h
      exact visF_ok (inF_ok hm n) (inF_fr n) _ _ f args σ K cargs hent h hs hsz hargs
    rw [if_neg hv] at h
    simp only at h
    split at h
    · exact h.elim
    · rename_i fn hf
      split at h
      · exact h.elim
      · rename_i c hb
        have hs0 := hs
        replace hs : HS base w ok0 σ ρ { tmps := a.tmps, defers := [] } w := HR.fresh hs
        refine calls_marks hf hb ?_
        have hdead : σ.blk σ.clk = .dead := hs.frs σ.clk (fun q => Nat.lt_irrefl _ q)
        have hund : ρ σ.clk = undef := by have := hs.blks σ.clk; rw [hdead] at this; exact this
        let σ1 : DS := ⟨args ++ List.replicate (fn.ntmps - args.length) (DE.c undef), (σ.clk, .sv σ.tm a.tmps) :: σ.bl, σ.clk + 64, σ.orc⟩
        have hb1 : σ1.blk = updB σ.blk [(σ.clk, .sv σ.tm a.tmps)] := blk_app σ [(σ.clk, .sv σ.tm a.tmps)] _ _ _
        have h0 : HS base w ok0 σ1 ρ { tmps := cargs ++ Array.replicate (fn.ntmps - cargs.size) undef, defers := [] } w := by
          show HR base w ok0 (fun n => n < σ.clk + 64) σ1.tm σ1.blk ρ _ w
          rw [hb1]
          refine HR.step hs (fun b => b = σ.clk) (fun b hc => updB_ne _ _ _ hc) (fun b _ => rfl) (fun b t cs _ _ => rfl) (fun b n x hc e => by rw [hc, hdead] at e; cases e)
            (fun n hn => by have : n < σ.clk := hn; show n < σ.clk + 64; omega) (fun b hc => by show b < σ.clk + 64; rw [hc]; omega) (fun b n hc _ hst => by rw [hc, updB_one] at hst; cases hst) (Nat.le_refl _) (fun _ _ _ => rfl)
            (fun b hc hl => by rw [hc, updB_one] at hl; cases hl) (fun b b' hc _ hl => by rw [hc, updB_one] at hl; cases hl) rfl rfl rfl (fun H1 H5 b hc => ?_) (fun H1 t => .inr ?_) (by simp [σ1, hsz]) rfl
          · rw [hc, updB_one]
            exact ⟨hund, hs.size, fun t => H5 _ _ (hs.tms t)⟩
          · by_cases ht : t < args.length
            · have e1 : σ1.tm.getD t .any = args.getD t .any := by
                show (args ++ List.replicate (fn.ntmps - args.length) (DE.c undef)).getD t .any = _
                rw [List.getD_eq_getElem?_getD, List.getElem?_append_left ht, ← List.getD_eq_getElem?_getD]
              have e2 : (cargs ++ Array.replicate (fn.ntmps - cargs.size) undef).getD t undef = cargs.getD t undef := by
                rw [Array.getD_eq_getD_getElem?, Array.getElem?_append, if_pos (by omega), ← Array.getD_eq_getD_getElem?]
              rw [e1]
              show RD _ _ _ _ _ _ ((cargs ++ Array.replicate (fn.ntmps - cargs.size) undef).getD t undef)
              rw [e2]
              refine (hargs t ht).mono H1 (fun _ _ _ => rfl) (fun n hn => by have : n < σ.clk := hn; show n < σ.clk + 64; omega) fun b n hn hst => ?_
              by_cases hc : b = σ.clk
              · rw [hc, updB_one] at hst; cases hst
              · rw [updB_ne _ _ _ hc] at hst; exact ⟨hst, rfl⟩
            · by_cases ht2 : t < fn.ntmps
              · have e1 : σ1.tm.getD t .any = .c undef := by
                  show (args ++ List.replicate (fn.ntmps - args.length) (DE.c undef)).getD t .any = _
                  rw [List.getD_eq_getElem?_getD, List.getElem?_append_right (by omega), List.getElem?_replicate]
                  rw [if_pos (by omega)]; rfl
                have e2 : (cargs ++ Array.replicate (fn.ntmps - cargs.size) undef).getD t undef = undef := by
                  rw [Array.getD_eq_getD_getElem?, Array.getElem?_append, if_neg (by omega), Array.getElem?_replicate]
                  split <;> rfl
                rw [e1]
                show RD _ _ _ _ _ _ ((cargs ++ Array.replicate (fn.ntmps - cargs.size) undef).getD t undef)
                rw [e2]; exact .c _
              · have e1 : σ1.tm.getD t .any = .any := by
                  show (args ++ List.replicate (fn.ntmps - args.length) (DE.c undef)).getD t .any = _
                  rw [List.getD_eq_getElem?_getD, List.getElem?_eq_none (by simp; omega)]; rfl
                rw [e1]; exact .any _
        have hrun := runC_mono (inF_fr n) c σ1 _ (fun e σ' => (if exits e then (match resultD P fn σ' with | some d => if (preOf σ1 σ').contains σ.clk then fStuck "saved slots" else K d { tm := σ.tm, bl := (σ.clk, .dead) :: σ'.bl, clk := σ'.clk, orc := σ'.orc } | none => fStuck "results") else fStuck "exit") ∧ FrB σ1 σ') (h a.tmps) (fun e σ' hk q1 _ _ => ⟨hk, q1⟩)
        refine runC_sound hm (inF_ok hm n) (inF_fr n) c σ1 _ ρ _ w _ hrun h0 fun e σ' ρ' a' w' hk h' => ?_
        obtain ⟨hk, hfb⟩ := hk
        obtain ⟨Ds, hD1, hD2, hD3, h'⟩ := HR.unmark h'
        generalize hwt : turned Ds w' = wt at h'
        split at hk
        · rename_i hex
          split at hk
          · rename_i d hd
            split at hk
            · exact hk.elim
            · rename_i hpre
              obtain ⟨v, hv1, hv2⟩ := resultD_ok h' hd
              obtain ⟨⟨p, hp⟩, _, h3⟩ := hfb
              have h3' : σ.clk + 64 ≤ σ'.clk := h3
              have hsv : σ'.blk σ.clk = .sv σ.tm a.tmps := by
                have hpo : preOf σ1 σ' = p.map (·.1) := by
                  unfold preOf
                  rw [hp, List.length_append, Nat.add_sub_cancel, List.take_left]
                have : σ'.blk = updB σ1.blk p := by
                  obtain ⟨tm, bl, c, oc⟩ := σ'
                  simp only at hp
                  subst hp
                  exact blk_app σ1 p tm c _
                rw [this, updB_of_not (by rw [← hpo]; simpa using hpre), hb1, updB_one]
              have hB := h'.blks σ.clk
              rw [hsv] at hB
              have hfin : (DS.mk σ.tm ((σ.clk, .dead) :: σ'.bl) σ'.clk σ'.orc).blk = updB σ'.blk [(σ.clk, .dead)] := blk_app σ' [(σ.clk, .dead)] _ _ _
              have H4 : ∀ b n, n < σ'.clk → stampOf (updB σ'.blk [(σ.clk, .dead)] b) = some n → stampOf (σ'.blk b) = some n ∧ ρ' b = ρ' b := fun b n _ hst => by
                by_cases hc : b = σ.clk
                · rw [hc, updB_one] at hst; cases hst
                · rw [updB_ne _ _ _ hc] at hst; exact ⟨hst, rfl⟩
              have H1 : ∀ g, okF base ok0 σ'.blk ρ' g → g < wt.heap.size → okF base ok0 (updB σ'.blk [(σ.clk, .dead)]) ρ' g ∧ wt.heap[g]? = wt.heap[g]? := fun g hg _ => ⟨⟨hg.1, fun b hl => by
                by_cases hc : b = σ.clk
                · rw [hc, updB_one] at hl; cases hl
                · rw [updB_ne _ _ _ hc] at hl; exact hg.2 b hl⟩, rfl⟩
              have hend : HS base w0 ok0 ⟨σ.tm, (σ.clk, .dead) :: σ'.bl, σ'.clk, σ'.orc⟩ ρ' a wt := by
                show HR base w0 ok0 (fun n => n < σ'.clk) σ.tm (DS.mk σ.tm ((σ.clk, .dead) :: σ'.bl) σ'.clk σ'.orc).blk ρ' a wt
                rw [hfin]
                refine HR.join (t := a.tmps) hs0 ?_
                refine HR.step h' (fun b => b = σ.clk) (fun b hc => updB_ne _ _ _ hc) (fun b _ => rfl) (fun b t cs _ _ => rfl) (fun b n x hc e => by rw [hc, hsv] at e; cases e)
                  (fun n hn => hn) (fun b hc => by show b < σ'.clk; rw [hc]; omega) (fun b n hc hn hst => H4 b n hn hst) (Nat.le_refl _) (fun _ _ _ => rfl)
                  (fun b hc hl => by rw [hc, updB_one] at hl; cases hl) (fun b b' hc _ hl => by rw [hc, updB_one] at hl; cases hl) rfl rfl rfl (fun _ _ b hc => ?_) (fun _ t => .inr ?_) hs.size rfl
                · rw [hc, updB_one]; exact hB.1
                · exact (hB.2.2 t).mono H1 (fun _ _ _ => rfl) (fun n hn => hn) H4
              have hdv := hv2.mono H1 (fun _ _ _ => rfl) (fun n hn => hn) H4
              rw [← hfin] at hdv
              cases e with
              | normal => exact ⟨Ds, hD1, hD2, hD3, v, by rw [hwt]; exact hv1, v, rfl, d, _, ρ', hk, by rw [hwt]; exact hend, by rw [hwt]; exact hdv⟩
              | ret => exact ⟨Ds, hD1, hD2, hD3, v, by rw [hwt]; exact hv1, v, rfl, d, _, ρ', hk, by rw [hwt]; exact hend, by rw [hwt]; exact hdv⟩
              | exit i => cases hex
              | goto i => cases hex
              | panic i => cases hex
              | outgrown => cases hex
          · exact hk.elim
        · exact hk.elim
/-- **A function's contract out of its run.** -/
theorem fn_run (hm : P.follows .mixedOrders = true) (n : Nat) {f : FuncId} {fn : Func} {c : Code} (hf : P.funcs[f]? = some fn) (hb : fn.body = some c) (hent : Ent P f) {args : List AV} {orc : Orc} {sh : Sh} {r : AV} (h : fnF P Γ ann n f fn c orc args sh r) : Fn P f args sh r :=
  fn_of_run hm (inF_ok hm n) (inF_fr n) hf hb hent h
end
end Go.Proofs.YtcifjnhpgblnkaaGreatDoor
/- Plain values, reckoned. -/
namespace Go.Proofs.YtcifjnhpgblnkaaGreatDoor
open Go.RowKit
set_option linter.unusedVariables false
section
variable {a b n : Int} {k k' : IntKind} {s t : ByteArray} {p q : Bool} {L M : List (List AV)} {cs vs : List AV} {i j m sz : Nat} {x y z : AV} {v : Value}
@[simp] theorem av_cel : AV.cel (.agg cs) j = cs.getD j default := rfl
@[simp] theorem av_prj : AV.prj (.tup vs) j = vs.getD j default := rfl
@[simp] theorem av_isAgg : AV.isAgg (.agg cs) m ↔ cs.length = m := ⟨fun ⟨_, e, h⟩ => by cases e; exact h, fun h => ⟨_, rfl, h⟩⟩
@[simp] theorem av_isTup : AV.isTup (.tup cs) m ↔ cs.length = m := ⟨fun ⟨_, e, h⟩ => by cases e; exact h, fun h => ⟨_, rfl, h⟩⟩
@[simp] theorem av_hasPart : hasPart (.tup cs) i ↔ i < cs.length := ⟨fun ⟨m, h, hi⟩ => by rw [av_isTup] at h; omega, fun h => ⟨_, av_isTup.2 rfl, h⟩⟩
@[simp] theorem av_isSl : AV.isSl (.sl i L) j ↔ i = j := ⟨fun h => by have h' : AV.sl i L = .sl j L := h; injection h', fun h => by subst h; rfl⟩
@[simp] theorem av_isInt : AV.isInt (.lit (.int k n)) ↔ True := ⟨fun _ => trivial, fun _ => ⟨_, _, rfl⟩⟩
@[simp] theorem av_isI64 : AV.isI64 (.lit (.int .i64 n)) ↔ True := ⟨fun _ => trivial, fun _ => rfl⟩
@[simp] theorem av_isBool : AV.isBool (.lit (.bool p)) ↔ True := ⟨fun _ => trivial, fun _ => rfl⟩
@[simp] theorem av_isStr : AV.isStr (.lit (.string s)) ↔ True := ⟨fun _ => trivial, fun _ => rfl⟩
@[simp] theorem av_isOne_int : AV.isOne (.lit (.int k n)) ↔ True := ⟨fun _ => trivial, fun _ => rfl⟩
@[simp] theorem av_isOne_bool : AV.isOne (.lit (.bool p)) ↔ True := ⟨fun _ => trivial, fun _ => rfl⟩
@[simp] theorem av_isOne_str : AV.isOne (.lit (.string s)) ↔ True := ⟨fun _ => trivial, fun _ => rfl⟩
@[simp] theorem av_isOne_ni : AV.isOne (.lit .nilIface) ↔ True := ⟨fun _ => trivial, fun _ => rfl⟩
@[simp] theorem av_isNI : AV.isNI (.lit .nilIface) ↔ True := ⟨fun _ => trivial, fun _ => rfl⟩
@[simp] theorem av_isOne_sl : AV.isOne (.sl i L) ↔ True := ⟨fun _ => trivial, fun _ => rfl⟩
@[simp] theorem av_len : AV.len (.sl i L) = .lit (.int .i64 (L.length : Nat)) := rfl
@[simp] theorem av_slen : AV.slen (.lit (.string s)) = .lit (.int .i64 (s.size : Nat)) := rfl
@[simp] theorem av_els : AV.els (.sl i L) = L := rfl
@[simp] theorem av_num : AV.num (.lit (.int k n)) = n := rfl
@[simp] theorem av_tru : AV.tru (.lit (.bool p)) = p := rfl
@[simp] theorem av_str : AV.str (.lit (.string s)) = s := rfl
@[simp] theorem av_kind : AV.kind (.lit (.int k n)) = k := rfl
@[simp] theorem av_mk : AV.mk i L = .sl i L := rfl
@[simp] theorem av_app : AV.app i (.sl j L) (.sl m M) = .sl i (L ++ M) := rfl
@[simp] theorem av_inb : AV.inb (.sl i L) (.lit (.int k n)) ↔ 0 ≤ n ∧ n < L.length := ⟨fun h => h.2, fun h => ⟨⟨_, _, rfl⟩, h⟩⟩
@[simp] theorem av_sinb : AV.sinb (.lit (.string s)) (.lit (.int k n)) ↔ 0 ≤ n ∧ n < s.size := ⟨fun h => h.2, fun h => ⟨⟨_, _, rfl⟩, h⟩⟩
@[simp] theorem av_at : AV.at (.sl i L) (.lit (.int k n)) j = gt2 L n.toNat j := rfl
@[simp] theorem av_subOk : AV.subOk (.sl i L) (.lit (.int k a)) (.lit (.int k' b)) ↔ 0 ≤ a ∧ a ≤ b ∧ b ≤ L.length := ⟨fun h => h.2.2, fun h => ⟨⟨_, _, rfl⟩, ⟨_, _, rfl⟩, h⟩⟩
@[simp] theorem av_sub : AV.sub i (.sl j L) (.lit (.int k a)) (.lit (.int k' b)) = .sl i ((L.take b.toNat).drop a.toNat) := rfl
@[simp] theorem av_binOk_int {op : BinOp} : AV.binOk op (.lit (.int k a)) (.lit (.int k' b)) ↔ k = k' ∧ (match op with | .quo | .rem => b ≠ 0 | .shl | .shr => False | _ => True) := Iff.rfl
@[simp] theorem av_add : AV.bin .add (.lit (.int k a)) (.lit (.int k' b)) = .lit (.int k (k.wrap (a + b))) := rfl
@[simp] theorem av_subt : AV.bin .sub (.lit (.int k a)) (.lit (.int k' b)) = .lit (.int k (k.wrap (a - b))) := rfl
@[simp] theorem av_mul : AV.bin .mul (.lit (.int k a)) (.lit (.int k' b)) = .lit (.int k (k.wrap (a * b))) := rfl
@[simp] theorem av_quo : AV.bin .quo (.lit (.int k a)) (.lit (.int k' b)) = .lit (.int k (k.wrap (a.tdiv b))) := rfl
@[simp] theorem av_rem : AV.bin .rem (.lit (.int k a)) (.lit (.int k' b)) = .lit (.int k (a.tmod b)) := rfl
@[simp] theorem av_eql : AV.bin .eql (.lit (.int k a)) (.lit (.int k' b)) = .lit (.bool (a == b)) := rfl
@[simp] theorem av_neq : AV.bin .neq (.lit (.int k a)) (.lit (.int k' b)) = .lit (.bool (a != b)) := rfl
@[simp] theorem av_lss : AV.bin .lss (.lit (.int k a)) (.lit (.int k' b)) = .lit (.bool (decide (a < b))) := rfl
@[simp] theorem av_leq : AV.bin .leq (.lit (.int k a)) (.lit (.int k' b)) = .lit (.bool (decide (a ≤ b))) := rfl
@[simp] theorem av_gtr : AV.bin .gtr (.lit (.int k a)) (.lit (.int k' b)) = .lit (.bool (decide (a > b))) := rfl
@[simp] theorem av_geq : AV.bin .geq (.lit (.int k a)) (.lit (.int k' b)) = .lit (.bool (decide (a ≥ b))) := rfl
@[simp] theorem av_mx : AV.mx (.lit (.int k a)) (.lit (.int k' b)) = .lit (.int k (if b > a then b else a)) := rfl
@[simp] theorem av_mn : AV.mn (.lit (.int k a)) (.lit (.int k' b)) = .lit (.int k (if b < a then b else a)) := rfl
@[simp] theorem av_isT : isT (.lit (.bool p)) ↔ p = true := Iff.rfl
@[simp] theorem av_isF : isF (.lit (.bool p)) ↔ p = false := Iff.rfl
@[simp] theorem av_flat : AV.flat (.lit v) ↔ True := ⟨fun _ => trivial, fun _ => .lit v⟩
@[simp] theorem av_flat_nil : AV.flat (.sl i []) ↔ True := ⟨fun _ => trivial, fun _ => .nil i⟩
@[simp] theorem av_flat_agg : AV.flat (.agg cs) ↔ ∀ x ∈ cs, x.flat := ⟨fun h => by cases h with | agg _ h => exact h, fun h => .agg cs h⟩
@[simp] theorem av_flatS : AV.flatS (.sl i L) ↔ ∀ y ∈ L, ∀ z ∈ y, z.flat := Iff.rfl
@[simp] theorem f_same : fSame x y ↔ x = y := Iff.rfl
@[simp] theorem f_ent {P : Program} {f : FuncId} : fEnt P f ↔ Ent P f := Iff.rfl
@[simp] theorem f_nil {F G : Prop} : fNil (.sl i L) F G ↔ (L = [] → F) ∧ G := ⟨fun h => h.elim (fun q => q.2) (fun q => by cases q.1), fun h => .inl ⟨⟨_, _, rfl⟩, h⟩⟩
@[simp] theorem f_nil_lit {F G : Prop} : fNil (.lit (.slice none 0 0)) F G ↔ F := ⟨fun h => h.elim (fun q => by obtain ⟨_, _, e⟩ := q.1; cases e) (fun q => q.2), fun h => .inr ⟨rfl, h⟩⟩
@[simp] theorem f_allV {p : Prop} : fAllV (fun _ => p) ↔ p := ⟨fun h => h #[], fun h _ => h⟩
/-- A loop, by what it carries. -/
theorem loop_of {τ : Type} (enc : τ → List AV) (Inv : τ → Prop) (μ : τ → Nat) {xs : List AV} {body : List AV → (List AV → Prop) → Prop} (x0 : τ) (h0 : xs = enc x0) (hI : Inv x0) (hb : ∀ x, Inv x → body (enc x) fun zs => ∃ m', m' < μ x ∧ ∃ y, zs = enc y ∧ Inv y ∧ μ y = m') : fLoop i xs body := by
  subst h0
  refine ⟨fun m ys => ∃ y, ys = enc y ∧ Inv y ∧ μ y = m, μ x0, ⟨x0, rfl, hI, rfl⟩, ?_⟩
  rintro m ys _ ⟨y, rfl, hy, rfl⟩
  exact hb y hy
theorem wrap64 (h1 : -9223372036854775808 ≤ a) (h2 : a ≤ 9223372036854775807) : IntKind.i64.wrap a = a := by
  simp [IntKind.wrap, IntKind.bits, IntKind.signed]; omega
end
theorem mixed : Tryz.prog.follows .mixedOrders = true := by kernel_rfl
end Go.Proofs.YtcifjnhpgblnkaaGreatDoor
/- What every law's proof closes with. -/
namespace Go.Proofs.YtcifjnhpgblnkaaGreatDoor
open Go.ChangeShapes Go.WideShapes Go.ChangeAt Go.RowKit

theorem own : ownKnob Tryz.prog.godebug = none := by kernel_rfl
theorem laidOut : laidOutB Tryz.prog = true := by kernel_rfl

theorem law_end {H : Type} {enc : TypeId × Value → H} {f : Func} {s : ChangeSpec} {W W' : World} {args : Array Value} {ds gs : List (DataW H)} {before : List MemPlace} {e : Ending}
    (hts : (f.params.toList.all fun t => Tryz.prog.readableRec t && decide (t < Tryz.prog.types.size)) = true) (hres : f.resultTypes = #[4]) (hv : s.vars = [])
    (hW : DataW.Whole enc Tryz.prog f.params.toList s.vars false W args.toList ds gs before) (h1 : (s.fn H (ds ++ gs)).results = [.lit (.bool true)]) (h2 : (s.fn H (ds ++ gs)).args = ds) (h3 : (s.fn H (ds ++ gs)).vars = [])
    (hr : Ret (.bool true) W e W') : ∃ v, e = .returned v ∧ s.post enc Tryz.prog f false true false false W args v W' := by
  refine ⟨_, hr.1, law_post laidOut (fun t ht => ?_) hres Tryz.underlying4 hv hW h1 h2 h3 hr.below⟩
  have := List.all_eq_true.1 hts t ht
  simp only [Bool.and_eq_true, decide_eq_true_eq] at this
  exact this
end Go.Proofs.YtcifjnhpgblnkaaGreatDoor
/- Arguments, opened: whatever their types, as plain values; and a law's last step. -/
namespace Go.Proofs.YtcifjnhpgblnkaaGreatDoor
open Go.ChangeShapes Go.WideShapes Go.ChangeAt Go.RowKit Go.Deep
set_option linter.unusedVariables false
/-! ### the cells of a type -/
def flatFs (P : Program) (fl : TypeId → Option (List TypeId)) : Nat → List Field → Option (List TypeId)
  | _, [] => some []
  | o, f :: fs => if f.offset = o then (match fl f.type, flatFs P fl (o + P.cellsOf f.type) fs with
      | some a, some b => if a.length = P.cellsOf f.type then some (a ++ b) else none
      | _, _ => none) else none
def flatTy (P : Program) : Nat → TypeId → Option (List TypeId)
  | 0, _ => none
  | d + 1, t => match P.underlying t with
    | some (.int _) => some [t]
    | some .string => some [t]
    | some .bool => some [t]
    | some (.slice _) => some [t]
    | some (.struct fs) => match flatFs P (flatTy P d) 0 fs.toList with
        | some l => if l.length = P.cellsOf t then some l else none
        | none => none
    | some (.array n e) => match flatTy P d e with
        | some l => if l.length = P.cellsOf e ∧ n * l.length = P.cellsOf t then some (List.replicate n l).flatten else none
        | none => none
    | _ => none
def CellOk (P : Program) : Nat → TypeId → AV → Prop
  | 0, _, _ => False
  | d + 1, u, x => match P.underlying u with
    | some (.int k) => ∃ n, x = .lit (.int k n) ∧ (Lit.int k n).wf = true
    | some .string => ∃ s : ByteArray, x = .string s ∧ s.size ≤ maxLen
    | some .bool => ∃ b, x = .bool b
    | some (.slice e) => ∃ (L : List (List AV)) (tys : List TypeId), x = .sl (P.cellsOf e) L ∧ L.length ≤ maxLen ∧ flatTy P 8 e = some tys ∧ ∀ y ∈ L, y.length = tys.length ∧ ∀ i u', tys[i]? = some u' → CellOk P d u' (y.getD i default)
    | _ => False
def cellB (P : Program) : Nat → TypeId → Bool
  | 0, _ => false
  | d + 1, u => match P.underlying u with
    | some (.int _) => true
    | some .string => true
    | some .bool => true
    | some (.slice e) => match flatTy P 8 e with
      | some tys => decide (tys.length = P.cellsOf e) && decide (0 < P.cellsOf e) && tys.all (cellB P d)
      | none => false
    | _ => false
section
variable {H : Type} {enc : TypeId × Value → H} {P : Program} {W : World}
theorem fields_of {t : TypeId} {fs : Array Field} {fuel : Nat} {cs : List Value} {x : DataW H × List MemPlace}
    (ht : P.underlying t = some (.struct fs)) (h : DataW.trod enc P W 0 (fun _ => true) true fuel t cs = some x) :
    cs.length = P.cellsOf t ∧ ∃ m, ∀ f ∈ fs.toList, ∃ y, DataW.trod enc P W 0 (fun _ => true) true m f.type ((cs.drop f.offset).take (P.cellsOf f.type)) = some y := by
  obtain ⟨ys, m, _, _, hl, hyl, hf⟩ := DataW.trod_struct ht h
  refine ⟨hl, m, fun f hm => ?_⟩
  obtain ⟨j, hj, e⟩ := List.getElem_of_mem hm
  have hj' : fs[j]? = some f := by rw [← Array.getElem?_toList, List.getElem?_eq_getElem hj, e]
  have hjl : j < ys.length := by rw [hyl]; simpa using hj
  exact ⟨_, (hf j f hj').trans (List.getElem?_eq_getElem hjl)⟩
theorem flatten_get {l : List TypeId} {u : TypeId} : ∀ (n i : Nat), ((List.replicate n l).flatten)[i]? = some u → ∃ k j, k < n ∧ j < l.length ∧ i = k * l.length + j ∧ l[j]? = some u
  | 0, i, h => by simp at h
  | n + 1, i, h => by
    rw [List.replicate_succ, List.flatten_cons, List.getElem?_append] at h
    split at h
    · rename_i hi; exact ⟨0, i, by omega, hi, by omega, h⟩
    · obtain ⟨k, j, hk, hj, e, hl⟩ := flatten_get n _ h
      exact ⟨k + 1, j, by omega, hj, by rw [Nat.add_mul]; omega, hl⟩
theorem seg_at {cs : List Value} {o n i : Nat} {v : Value} (h : ((cs.drop o).take n)[i]? = some v) : cs[o + i]? = some v := by
  rw [List.getElem?_take] at h
  split at h
  · rwa [List.getElem?_drop] at h
  · cases h
theorem flatten_len {l : List TypeId} : ∀ n, ((List.replicate n l).flatten).length = n * l.length
  | 0 => by simp
  | n + 1 => by simp
theorem trod_flat : ∀ (d : Nat) (t : TypeId) (tys : List TypeId), flatTy P d t = some tys → ∀ (fuel : Nat) (vs : List Value) (x : DataW H × List MemPlace), DataW.trod enc P W 0 (fun _ => true) true fuel t vs = some x →
    vs.length = tys.length ∧ ∀ (i : Nat) (u : TypeId), tys[i]? = some u → ∃ v m y, vs[i]? = some v ∧ DataW.trod enc P W 0 (fun _ => true) true m u [v] = some y
  | 0, t, tys, h, _, _, _, _ => by cases h
  | d + 1, t, tys, h, fuel, vs, x, hx => by
    simp only [flatTy] at h
    have one : ∀ v, vs = [v] → some [t] = some tys → vs.length = tys.length ∧ ∀ (i : Nat) (u : TypeId), tys[i]? = some u → ∃ v m y, vs[i]? = some v ∧ DataW.trod enc P W 0 (fun _ => true) true m u [v] = some y := by
      rintro v rfl e
      injection e with e; subst e
      refine ⟨rfl, fun i u hi => ?_⟩
      cases i with
      | zero => simp at hi; subst hi; exact ⟨v, fuel, x, rfl, hx⟩
      | succ i => simp at hi
    split at h
    · rename_i k hu; obtain ⟨n, e, _⟩ := DataW.trod_int hu hx; exact one _ e h
    · rename_i hu; obtain ⟨n, e, _⟩ := DataW.trod_string hu hx; exact one _ e h
    · rename_i hu; obtain ⟨n, e, _⟩ := DataW.trod_bool hu hx; exact one _ e h
    · rename_i e hu
      rcases open_slice hu hx with ⟨e, _⟩ | ⟨a, len, cap, m, fu, D, Pl, e, _⟩
      · exact one _ e h
      · exact one _ e h
    · rename_i fs hu
      split at h
      · rename_i l hl
        split at h
        · rename_i hlen
          injection h with h; subst h
          obtain ⟨hvl, m, hf⟩ := fields_of hu hx
          refine ⟨by omega, ?_⟩
          clear hlen hvl hx
          have key : ∀ (fs : List Field) (o : Nat) (l : List TypeId), flatFs P (flatTy P d) o fs = some l → (∀ f ∈ fs, ∃ y, DataW.trod enc P W 0 (fun _ => true) true m f.type ((vs.drop f.offset).take (P.cellsOf f.type)) = some y) →
              ∀ (i : Nat) (u : TypeId), l[i]? = some u → ∃ v m y, vs[o + i]? = some v ∧ DataW.trod enc P W 0 (fun _ => true) true m u [v] = some y := by
            intro fs
            induction fs with
            | nil => intro o l hl _ i u hi; simp only [flatFs, Option.some.injEq] at hl; subst hl; simp at hi
            | cons f fs ih =>
              intro o l hl hf i u hi
              simp only [flatFs] at hl
              split at hl
              · rename_i ho
                split at hl
                · rename_i a b ha hb
                  split at hl
                  · rename_i hal
                    injection hl with hl; subst hl
                    rw [List.getElem?_append] at hi
                    split at hi
                    · obtain ⟨y, hy⟩ := hf f (by simp)
                      obtain ⟨_, hg⟩ := trod_flat d f.type a ha m _ _ hy
                      obtain ⟨v, m', y', hv, hy'⟩ := hg i u hi
                      exact ⟨v, m', y', ho ▸ seg_at hv, hy'⟩
                    · obtain ⟨v, m', y', hv, hy'⟩ := ih _ _ hb (fun f hf' => hf f (by simp [hf'])) _ _ hi
                      refine ⟨v, m', y', ?_, hy'⟩
                      rw [← hv]; congr 1; omega
                  · cases hl
                · cases hl
              · cases hl
          intro i u hi
          have := key fs.toList 0 l hl hf i u hi
          simpa using this
        · cases h
      · cases h
    · rename_i n e hu
      split at h
      · rename_i l hl
        split at h
        · rename_i hlen
          injection h with h; subst h
          obtain ⟨xs, m, _, _, hvl, hxl, hf⟩ := DataW.trod_array hu hx
          refine ⟨by rw [hvl, flatten_len]; omega, fun i u hi => ?_⟩
          obtain ⟨k, j, hk, hj, rfl, hu'⟩ := flatten_get n i hi
          have h1 := hf k hk
          rw [List.getElem?_eq_getElem (by omega)] at h1
          obtain ⟨_, hg⟩ := trod_flat d e l hl m _ _ h1
          obtain ⟨v, m', y', hv, hy'⟩ := hg j u hu'
          exact ⟨v, m', y', by rw [hlen.1]; exact seg_at hv, hy'⟩
        · cases h
      · cases h
    · cases h
def okAll (W : World) (g : Nat) : Prop := g < W.heap.size
theorem add_none' (b off : Nat) (k : Nat) : (⟨b, off, none⟩ : Addr).add k = ⟨b, off + k, none⟩ := by simp [Addr.add]
theorem cell_open : ∀ (d : Nat) (u : TypeId), cellB P d u = true → ∀ (m : Nat) (v : Value) (y : DataW H × List MemPlace), DataW.trod enc P W 0 (fun _ => true) true m u [v] = some y →
    v.oneCell' = true ∧ ∃ x, CellOk P d u x ∧ RV W (okAll W) x v
  | 0, u, h, _, _, _, _ => by cases h
  | d + 1, u, h, m, v, y, hy => by
    simp only [cellB] at h
    simp only [CellOk]
    split at h
    · rename_i k hu
      obtain ⟨n, e, _, hw⟩ := DataW.trod_int hu hy
      simp only [List.cons.injEq, and_true] at e
      subst e
      exact ⟨rfl, _, ⟨n, rfl, hw⟩, .lit _⟩
    · rename_i hu
      obtain ⟨n, e, _, hw⟩ := DataW.trod_string hu hy
      simp only [List.cons.injEq, and_true] at e
      subst e
      exact ⟨rfl, _, ⟨n, rfl, hw⟩, .lit _⟩
    · rename_i hu
      obtain ⟨n, e, _⟩ := DataW.trod_bool hu hy
      simp only [List.cons.injEq, and_true] at e
      subst e
      exact ⟨rfl, _, ⟨n, rfl⟩, .lit _⟩
    · rename_i e hu
      split at h
      · rename_i tys htys
        simp only [Bool.and_eq_true, decide_eq_true_eq, List.all_eq_true] at h
        obtain ⟨⟨hl, hpos⟩, hall⟩ := h
        rcases open_slice hu hy with ⟨ev, _⟩ | ⟨a, len, cap, m', fu, D, Pl, ev, hb, hlc, hcm, hmm, hx, hi⟩
        · simp only [List.cons.injEq, and_true] at ev
          subst ev
          exact ⟨rfl, _, ⟨[], tys, rfl, by unfold maxLen; simp, htys, fun y hy => by simp at hy⟩, rv_nil _ _⟩
        · simp only [List.cons.injEq, and_true] at ev
          subst ev
          simp only [if_true] at hmm
          have key : ∀ i, ∃ (Y : List AV) (us : Nat → Value), i < len → (Y.length = tys.length ∧ (∀ j u', tys[j]? = some u' → CellOk P d u' (Y.getD j default)) ∧ ∀ j, j < P.cellsOf e → W.cell? (a.add (i * P.cellsOf e + j)) = some (us j) ∧ (us j).oneCell' = true ∧ RV W (okAll W) (Y.getD j default) (us j)) := by
            intro i
            by_cases hlt : i < len
            · obtain ⟨cs', hc, ht'⟩ := hi i (by omega)
              obtain ⟨_, hcl, hat⟩ := World.cells?_some hc
              obtain ⟨q1, q2⟩ := trod_flat 8 e tys htys fu cs' _ ht'
              have step : ∀ j, ∃ (X : AV) (uv : Value), j < tys.length → ((∀ u', tys[j]? = some u' → CellOk P d u' X) ∧ cs'[j]? = some uv ∧ uv.oneCell' = true ∧ RV W (okAll W) X uv) := by
                intro j
                by_cases hj : j < tys.length
                · obtain ⟨v, m2, y2, hv, hy2⟩ := q2 j _ (List.getElem?_eq_getElem hj)
                  obtain ⟨o1, X, hX, hR⟩ := cell_open d tys[j] (hall _ (List.getElem_mem hj)) m2 v y2 hy2
                  exact ⟨X, v, fun _ => ⟨fun u' hu' => by rw [List.getElem?_eq_getElem hj] at hu'; injection hu' with hu'; subst hu'; exact hX, hv, o1, hR⟩⟩
                · exact ⟨default, undef, fun h => absurd h hj⟩
              obtain ⟨fx, step⟩ := Classical.skolem.1 step
              obtain ⟨fv, step⟩ := Classical.skolem.1 step
              refine ⟨(List.range tys.length).map fx, fv, fun _ => ⟨by simp, fun j u' hj => ?_, fun j hj => ?_⟩⟩
              · have hjl : j < tys.length := (List.getElem?_eq_some_iff.1 hj).1
                have := (step j hjl).1 u' hj
                simpa [hjl] using this
              · have hjl : j < tys.length := by omega
                obtain ⟨_, s2, s3, s4⟩ := step j hjl
                refine ⟨?_, s3, by simpa [hjl] using s4⟩
                rw [← Go.Deep.add_add, hat j hj, s2]
            · exact ⟨[], fun _ => undef, fun h => absurd h hlt⟩
          obtain ⟨Y, key⟩ := Classical.skolem.1 key
          obtain ⟨us, key⟩ := Classical.skolem.1 key
          refine ⟨rfl, .sl (P.cellsOf e) ((List.range len).map Y), ⟨_, tys, rfl, by simp; omega, htys, fun y hy => ?_⟩, ?_⟩
          · obtain ⟨i, hi', rfl⟩ := List.mem_map.1 hy
            have := key i (by simpa using hi')
            exact ⟨this.1, this.2.1⟩
          · obtain ⟨b, off, spot⟩ := a
            refine .sl _ _ _ len cap us (by simp) hlc hcm (fun x hx' => ?_) (fun h0 => ?_) (fun i j hi' hj => ((key i hi').2.2 j hj).2.1) (fun i j hi' hj => ?_)
            · obtain ⟨i, hi', rfl⟩ := List.mem_map.1 hx'
              have := key i (by simpa using hi')
              omega
            · have c0 := ((key 0 h0).2.2 0 hpos).1
              have hspot : spot = none := by simpa [Addr.add] using World.cell?_spot c0
              subst hspot
              have hlt : b < W.heap.size := by
                rw [add_none'] at c0
                exact block_lt_of_cell c0
              refine ⟨b, off, rfl, hlt, hlt, fun i j hi' hj => ?_⟩
              have := ((key i hi').2.2 j hj).1
              rw [add_none'] at this
              rw [← this]
              congr 2
              omega
            · have := ((key i hi').2.2 j hj).2.2
              simpa [gt2, hi'] using this
      · cases h
    · cases h
/-- What an argument of type t may be. -/
def ArgOk (P : Program) (t : TypeId) (x : AV) : Prop :=
  match isAggT P t with
  | true => ∃ (cs : List AV) (tys : List TypeId), x = .agg cs ∧ flatTy P 8 t = some tys ∧ cs.length = tys.length ∧ ∀ i u, tys[i]? = some u → CellOk P 8 u (cs.getD i default)
  | false => CellOk P 8 t x
def argB (P : Program) (t : TypeId) : Bool :=
  match isAggT P t with
  | true => match flatTy P 8 t with
    | some tys => tys.all (cellB P 8)
    | none => false
  | false => cellB P 8 t
theorem arg_open {t : TypeId} {v : Value} {base : Nat} {dd : DataW H} {p : List MemPlace} (hb : argB P t = true) (hv : Value.okWide P W .any base t v) (h : DataW.Trod enc P W 0 (fun _ => true) true t v dd p) : ∃ x, ArgOk P t x ∧ RV W (okAll W) x v := by
  obtain ⟨fuel, hf⟩ := h
  unfold argB at hb
  unfold ArgOk
  split at hb
  · rename_i ha
    split at hb
    · rename_i tys htys
      have hagg : ∃ cs, v = .agg cs := by
        unfold isAggT at ha
        split at ha
        · rename_i hu; simp only [Value.okWide, hu] at hv; obtain ⟨cs, e, _⟩ := hv; exact ⟨cs, e⟩
        · rename_i hu; simp only [Value.okWide, hu] at hv; obtain ⟨cs, e, _⟩ := hv; exact ⟨cs, e⟩
        · cases ha
      obtain ⟨vs, rfl⟩ := hagg
      obtain ⟨q1, q2⟩ := trod_flat 8 t tys htys fuel _ _ hf
      have q1 : vs.size = tys.length := by simpa [Value.cells] using q1
      have step : ∀ j, ∃ (X : AV), j < tys.length → ((∀ u', tys[j]? = some u' → CellOk P 8 u' X) ∧ (vs.getD j undef).oneCell' = true ∧ RV W (okAll W) X (vs.getD j undef)) := by
        intro j
        by_cases hj : j < tys.length
        · obtain ⟨v, m2, y2, hv, hy2⟩ := q2 j _ (List.getElem?_eq_getElem hj)
          obtain ⟨o1, X, hX, hR⟩ := cell_open 8 tys[j] (List.all_eq_true.1 hb _ (List.getElem_mem hj)) m2 v y2 hy2
          have e : vs.getD j undef = v := by
            have hv' : vs[j]? = some v := by simpa [Value.cells] using hv
            rw [Array.getD_eq_getD_getElem?, hv']; rfl
          rw [e]
          exact ⟨X, fun _ => ⟨fun u' hu' => by rw [List.getElem?_eq_getElem hj] at hu'; injection hu' with hu'; subst hu'; exact hX, o1, hR⟩⟩
        · exact ⟨default, fun h => absurd h hj⟩
      obtain ⟨fx, step⟩ := Classical.skolem.1 step
      refine ⟨.agg ((List.range tys.length).map fx), ⟨_, tys, rfl, htys, by simp, fun j u' hj => ?_⟩, ?_⟩
      · have hjl : j < tys.length := (List.getElem?_eq_some_iff.1 hj).1
        have := (step j hjl).1 u' hj
        simpa [hjl] using this
      · refine .agg _ _ (by simp [q1]) (fun i hi => ?_) (fun i hi => ?_)
        · exact (step i (by simpa using hi)).2.1
        · have hi' : i < tys.length := by simpa using hi
          have := (step i hi').2.2
          simpa [hi'] using this
    · cases hb
  · rename_i ha
    have h1 : v.cells.toList = [v] := by
      cases v with
      | agg cs =>
        exfalso
        simp only [cellB] at hb
        split at hb
        · rename_i hu; obtain ⟨_, e⟩ := okWide_int hu hv; cases e
        · rename_i hu; obtain ⟨_, e⟩ := okWide_string hu hv; cases e
        · rename_i hu; obtain ⟨_, e⟩ := okWide_bool hu hv; cases e
        · rename_i hu; obtain ⟨_, _, _, e⟩ := okWide_slice hu hv; cases e
        · cases hb
      | _ => rfl
    rw [h1] at hf
    exact (cell_open 8 t hb fuel v _ hf).2
theorem args_open {base : Nat} : ∀ (ts : List TypeId) (vs : List Value) (ds : List (DataW H)) (p : List MemPlace), DataW.TrodAll enc P W 0 (fun _ => true) true ts vs ds p →
    (∀ (j : Nat) t v, ts[j]? = some t → vs[j]? = some v → Value.okWide P W .any base t v) → ts.all (argB P) = true →
    ∃ xs : List AV, xs.length = ts.length ∧ vs.length = ts.length ∧ ∀ i, i < ts.length → ArgOk P (ts.getD i 0) (xs.getD i default) ∧ RV W (okAll W) (xs.getD i default) (vs.getD i undef)
  | [], vs, ds, p, h, _, _ => by
    obtain ⟨rfl, _, _⟩ := trodAll_nil h
    exact ⟨[], rfl, rfl, fun i hi => by simp at hi⟩
  | t :: ts, vs, ds, p, h, hv, hb => by
    obtain ⟨v, vs', d, ds', p', q, rfl, rfl, rfl, h1, h2⟩ := trodAll_cons h
    rw [List.all_cons, Bool.and_eq_true] at hb
    obtain ⟨x, hx, hr⟩ := arg_open hb.1 (hv 0 t v rfl rfl) h1
    obtain ⟨xs, l1, l2, hxs⟩ := args_open ts vs' ds' q h2 (fun j t v h3 h4 => hv (j + 1) t v (by simpa using h3) (by simpa using h4)) hb.2
    refine ⟨x :: xs, by simp [l1], by simp [l2], fun i hi => ?_⟩
    cases i with
    | zero => exact ⟨hx, hr⟩
    | succ i => simpa using hxs i (by simpa using hi)
/-! ### what is known of an opened value -/
theorem cell_int {d : Nat} {u : TypeId} {k : IntKind} {x : AV} (hu : P.underlying u = some (.int k)) (h : CellOk P (d + 1) u x) : ∃ n, x = .lit (.int k n) ∧ (Lit.int k n).wf = true := by
  simpa only [CellOk, hu] using h
theorem cell_str {d : Nat} {u : TypeId} {x : AV} (hu : P.underlying u = some .string) (h : CellOk P (d + 1) u x) : ∃ s : ByteArray, x = .string s ∧ s.size ≤ maxLen := by
  simpa only [CellOk, hu] using h
theorem cell_sl {d : Nat} {u e : TypeId} {x : AV} {tys : List TypeId} {s : Nat} (hu : P.underlying u = some (.slice e)) (ht : flatTy P 8 e = some tys) (hs : P.cellsOf e = s) (h : CellOk P (d + 1) u x) :
    ∃ L : List (List AV), x = .sl s L ∧ L.length ≤ maxLen ∧ ∀ y ∈ L, y.length = tys.length ∧ ∀ i u', tys[i]? = some u' → CellOk P d u' (y.getD i default) := by
  simp only [CellOk, hu] at h
  obtain ⟨L, tys', e1, h1, h2, h3⟩ := h
  rw [ht] at h2
  injection h2 with h2
  subst h2 hs
  exact ⟨L, e1, h1, h3⟩
theorem arg_cell {t : TypeId} {x : AV} (hi : isAggT P t = false) (h : ArgOk P t x) : CellOk P 8 t x := by
  unfold ArgOk at h; rwa [hi] at h
theorem list_dec {α : Type} {encA : α → List AV} {Q : α → Prop} : ∀ {L : List (List AV)}, (∀ y ∈ L, ∃ a, y = encA a ∧ Q a) → ∃ l : List α, L = l.map encA ∧ ∀ a ∈ l, Q a
  | [], _ => ⟨[], rfl, fun a ha => by simp at ha⟩
  | y :: L, h => by
    obtain ⟨a, e, hq⟩ := h y (by simp)
    obtain ⟨l, e2, hl⟩ := list_dec (L := L) fun y hy => h y (by simp [hy])
    exact ⟨a :: l, by rw [e, e2]; rfl, fun b hb => by exact (List.mem_cons.1 hb).elim (fun e => e ▸ hq) (fun hb => hl b hb)⟩
theorem lst2 {α : Type} {l : List α} (h : l.length = 2) : ∃ a b, l = [a, b] := by match l, h with | [a, b], _ => exact ⟨a, b, rfl⟩
theorem lst3 {α : Type} {l : List α} (h : l.length = 3) : ∃ a b c, l = [a, b, c] := by match l, h with | [a, b, c], _ => exact ⟨a, b, c, rfl⟩
theorem lst4 {α : Type} {l : List α} (h : l.length = 4) : ∃ a b c d, l = [a, b, c, d] := by match l, h with | [a, b, c, d], _ => exact ⟨a, b, c, d, rfl⟩
end
end Go.Proofs.YtcifjnhpgblnkaaGreatDoor
/- Lists as plain values; loops over a list. -/
namespace Go.Proofs.YtcifjnhpgblnkaaGreatDoor
open Go.RowKit
set_option linter.unusedVariables false
/-- A slice whose elements are those of a list, each by its cells. -/
def lst {α : Type} (s : Nat) (enc : α → List AV) (l : List α) : AV := .sl s (l.map enc)
section
variable {α : Type} {s i j m : Nat} {enc : α → List AV} {l l' : List α} {k k' : IntKind} {a b n : Int} {x : α} {y z : AV} {F G : Prop}
@[simp] theorem lst_els : AV.els (lst s enc l) = l.map enc := rfl
@[simp] theorem lst_len : AV.len (lst s enc l) = .lit (.int .i64 (l.length : Nat)) := by simp [lst]
@[simp] theorem lst_isSl : AV.isSl (lst s enc l) j ↔ s = j := by simp [lst]
@[simp] theorem lst_isOne : AV.isOne (lst s enc l) ↔ True := by simp [lst]
@[simp] theorem lst_inb : AV.inb (lst s enc l) (.lit (.int k n)) ↔ 0 ≤ n ∧ n < l.length := by simp [lst]
@[simp] theorem lst_subOk : AV.subOk (lst s enc l) (.lit (.int k a)) (.lit (.int k' b)) ↔ 0 ≤ a ∧ a ≤ b ∧ b ≤ l.length := by simp [lst]
@[simp] theorem lst_sub : AV.sub i (lst i enc l) (.lit (.int k a)) (.lit (.int k' b)) = lst i enc ((l.take b.toNat).drop a.toNat) := by simp [lst, List.map_drop, List.map_take]
@[simp] theorem lst_app : AV.app i (lst j enc l) (lst m enc l') = lst i enc (l ++ l') := by simp [lst]
@[simp] theorem lst_nil : lst s enc [] = .sl s [] := rfl
@[simp] theorem lst_fnil : fNil (lst s enc l) F G ↔ (l = [] → F) ∧ G := by unfold lst; simp
theorem lst_at {n : Nat} (h : l[n]? = some x) : AV.at (lst s enc l) (.lit (.int k (n : Nat))) j = (enc x).getD j default := by
  simp [lst, gt2, List.getD_eq_getElem?_getD, h]
theorem lst_atAgg {n : Nat} (h : l[n]? = some x) : AV.atAgg (lst s enc l) (.lit (.int k (n : Nat))) j m = .agg (((enc x).drop j).take m) := by
  simp [lst, AV.atAgg, List.getD_eq_getElem?_getD, h]
theorem lst_atI (hn : 0 ≤ n) (h : l[n.toNat]? = some x) : AV.at (lst s enc l) (.lit (.int k n)) j = (enc x).getD j default := by
  simp [lst, gt2, List.getD_eq_getElem?_getD, h]
theorem lst_flatS (h : ∀ x ∈ l, ∀ z ∈ enc x, z.flat) : (lst s enc l).flatS := by
  intro y hy z hz
  simp only [lst_els, List.mem_map] at hy
  obtain ⟨x, hx, rfl⟩ := hy
  exact h x hx z hz
theorem lst_setEl {n : Nat} {x' : α} {cs : List AV} (h : l[n]? = some x) (he : (enc x).take j ++ cs ++ (enc x).drop (j + cs.length) = enc x') : AV.setEl (lst s enc l) (.lit (.int k (n : Nat))) j cs = lst s enc (l.set n x') := by
  simp only [lst, AV.setEl, av_num, Int.toNat_natCast]
  congr 1
  rw [List.map_set, ← he]
  simp [List.getD_eq_getElem?_getD, h]
end
/-- **A loop over a list** that it reads from its head on. -/
theorem loop_list {α σ : Type} {i : Nat} (l : List α) (enc : Nat → σ → List AV) (G : Nat → List α → σ → Prop) {xs : List AV} {body : List AV → (List AV → Prop) → Prop} (s0 : σ) (h0 : xs = enc 0 s0) (hG : G 0 l s0)
    (hstep : ∀ n x rest s (K : List AV → Prop), l[n]? = some x → l.drop (n + 1) = rest → n < l.length → G n (x :: rest) s → (∀ zs s', zs = enc (n + 1) s' → G (n + 1) rest s' → K zs) → body (enc n s) K)
    (hend : ∀ s (K : List AV → Prop), G l.length [] s → body (enc l.length s) K) : fLoop i xs body := by
  subst h0
  refine ⟨fun m ys => ∃ n s, ys = enc n s ∧ n ≤ l.length ∧ m = l.length - n ∧ G n (l.drop n) s, l.length, ⟨0, s0, rfl, Nat.zero_le _, rfl, hG⟩, ?_⟩
  rintro m ys _ ⟨n, s, rfl, hn, rfl, hg⟩
  rcases Nat.lt_or_ge n l.length with h | h
  · rw [List.drop_eq_getElem_cons h] at hg
    refine hstep n l[n] (l.drop (n + 1)) s _ (List.getElem?_eq_getElem h) rfl h hg ?_
    rintro zs s' rfl hg'
    exact ⟨l.length - (n + 1), by omega, n + 1, s', rfl, h, rfl, hg'⟩
  · obtain rfl : n = l.length := by omega
    rw [List.drop_length] at hg
    exact hend s _ hg
/-- The same, from some element on. -/
theorem loop_from {α σ : Type} {i : Nat} (l : List α) (n0 : Nat) (hn0 : n0 ≤ l.length) (enc : Nat → σ → List AV) (G : Nat → List α → σ → Prop) {xs : List AV} {body : List AV → (List AV → Prop) → Prop} (s0 : σ) (h0 : xs = enc n0 s0) (hG : G n0 (l.drop n0) s0)
    (hstep : ∀ n x rest s (K : List AV → Prop), n0 ≤ n → l[n]? = some x → l.drop (n + 1) = rest → n < l.length → G n (x :: rest) s → (∀ zs s', zs = enc (n + 1) s' → G (n + 1) rest s' → K zs) → body (enc n s) K)
    (hend : ∀ s (K : List AV → Prop), G l.length [] s → body (enc l.length s) K) : fLoop i xs body := by
  subst h0
  refine ⟨fun m ys => ∃ n s, ys = enc n s ∧ n0 ≤ n ∧ n ≤ l.length ∧ m = l.length - n ∧ G n (l.drop n) s, l.length - n0, ⟨n0, s0, rfl, Nat.le_refl _, hn0, rfl, hG⟩, ?_⟩
  rintro m ys _ ⟨n, s, rfl, hnn, hn, rfl, hg⟩
  rcases Nat.lt_or_ge n l.length with h | h
  · rw [List.drop_eq_getElem_cons h] at hg
    refine hstep n l[n] (l.drop (n + 1)) s _ hnn (List.getElem?_eq_getElem h) rfl h hg ?_
    rintro zs s' rfl hg'
    exact ⟨l.length - (n + 1), by omega, n + 1, s', rfl, by omega, h, rfl, hg'⟩
  · obtain rfl : n = l.length := by omega
    rw [List.drop_length] at hg
    exact hend s _ hg
/-- A loop that counts to a bound. -/
theorem loop_nat {σ : Type} {i : Nat} (N : Nat) (enc : Nat → σ → List AV) (G : Nat → σ → Prop) {xs : List AV} {body : List AV → (List AV → Prop) → Prop} (s0 : σ) (h0 : xs = enc 0 s0) (hG : G 0 s0)
    (hstep : ∀ n s (K : List AV → Prop), n < N → G n s → (∀ zs s', zs = enc (n + 1) s' → G (n + 1) s' → K zs) → body (enc n s) K)
    (hend : ∀ s (K : List AV → Prop), G N s → body (enc N s) K) : fLoop i xs body := by
  subst h0
  refine ⟨fun m ys => ∃ n s, ys = enc n s ∧ n ≤ N ∧ m = N - n ∧ G n s, N, ⟨0, s0, rfl, Nat.zero_le _, rfl, hG⟩, ?_⟩
  rintro m ys _ ⟨n, s, rfl, hn, rfl, hg⟩
  rcases Nat.lt_or_ge n N with h | h
  · refine hstep n s _ h hg ?_
    rintro zs s' rfl hg'
    exact ⟨N - (n + 1), by omega, n + 1, s', rfl, h, rfl, hg'⟩
  · obtain rfl : n = N := by omega
    exact hend s _ hg
/-- Strings. -/
theorem bytes_eq {a b : ByteArray} : (a.toList == b.toList) = decide (a = b) := by
  by_cases h : a = b
  · subst h; simp
  · rw [decide_eq_false h]
    simp only [beq_eq_false_iff_ne, ne_eq]
    intro e
    apply h
    rw [ByteArray.toList_eq, ByteArray.toList_eq] at e
    exact ByteArray.ext (Array.toList_inj.1 e)
theorem less_eq : ∀ (x y : List UInt8), Op.bytesLess x y = decide (x < y)
  | [], [] => by simp [Op.bytesLess]
  | _ :: _, [] => by simp [Op.bytesLess]
  | [], _ :: _ => by simp [Op.bytesLess]
  | a :: x, b :: y => by
    rw [Op.bytesLess, less_eq x y]
    simp only [List.cons_lt_cons_iff]
    by_cases h1 : a < b <;> by_cases h2 : a = b <;> by_cases h3 : x < y <;> simp [h1, h2, h3]
section
variable {a b : ByteArray}
@[simp] theorem av_eql_str : AV.bin .eql (.lit (.string a)) (.lit (.string b)) = .lit (.bool (decide (a = b))) := by
  show AV.bool (a.toList == b.toList) = _; rw [bytes_eq]
@[simp] theorem av_neq_str : AV.bin .neq (.lit (.string a)) (.lit (.string b)) = .lit (.bool (!decide (a = b))) := by
  show AV.bool (!(a.toList == b.toList)) = _; rw [bytes_eq]
@[simp] theorem av_binOk_eqs : AV.binOk .eql (.lit (.string a)) (.lit (.string b)) ↔ True := Iff.rfl
@[simp] theorem av_binOk_nes : AV.binOk .neq (.lit (.string a)) (.lit (.string b)) ↔ True := Iff.rfl
@[simp] theorem av_binOk_lss : AV.binOk .lss (.lit (.string a)) (.lit (.string b)) ↔ True := Iff.rfl
@[simp] theorem av_binOk_leqs : AV.binOk .leq (.lit (.string a)) (.lit (.string b)) ↔ True := Iff.rfl
@[simp] theorem av_binOk_gts : AV.binOk .gtr (.lit (.string a)) (.lit (.string b)) ↔ True := Iff.rfl
@[simp] theorem av_binOk_ges : AV.binOk .geq (.lit (.string a)) (.lit (.string b)) ↔ True := Iff.rfl
/-- The order of strings: that of their bytes. -/
def key (a : ByteArray) : List UInt8 := a.data.toList
theorem key_inj (h : key a = key b) : a = b := ByteArray.ext (Array.toList_inj.1 h)
theorem lsle_eq : (Op.bytesLess a.toList b.toList || a.toList == b.toList) = decide (key a ≤ key b) := by
  rw [less_eq, ByteArray.toList_eq, ByteArray.toList_eq]
  unfold key
  by_cases h : a.data.toList ≤ b.data.toList
  · rw [decide_eq_true h]
    by_cases h2 : a.data.toList < b.data.toList
    · simp [h2]
    · have : a.data.toList = b.data.toList := List.le_antisymm h (List.not_lt.1 h2)
      simp [this]
  · rw [decide_eq_false h]
    have h3 := List.not_le.1 h
    have h4 : ¬ a.data.toList < b.data.toList := List.not_lt.2 (List.le_of_lt h3)
    have h5 : a.data.toList ≠ b.data.toList := fun e => h (by rw [e]; exact List.le_refl _)
    rw [decide_eq_false h4, Bool.false_or]
    exact beq_eq_false_iff_ne.2 h5
@[simp] theorem av_lss_str : AV.bin .lss (.lit (.string a)) (.lit (.string b)) = .lit (.bool (decide (key a < key b))) := by
  show AV.bool (Op.bytesLess a.toList b.toList) = _; rw [less_eq, ByteArray.toList_eq, ByteArray.toList_eq]; rfl
@[simp] theorem av_leq_str : AV.bin .leq (.lit (.string a)) (.lit (.string b)) = .lit (.bool (decide (key a ≤ key b))) := by
  show AV.bool (Op.bytesLess a.toList b.toList || a.toList == b.toList) = _; rw [lsle_eq]
@[simp] theorem av_gtr_str : AV.bin .gtr (.lit (.string a)) (.lit (.string b)) = .lit (.bool (!decide (key a ≤ key b))) := by
  show AV.bool (!(Op.bytesLess a.toList b.toList || a.toList == b.toList)) = _; rw [lsle_eq]
@[simp] theorem av_geq_str : AV.bin .geq (.lit (.string a)) (.lit (.string b)) = .lit (.bool (!decide (key a < key b))) := by
  show AV.bool (!Op.bytesLess a.toList b.toList) = _; rw [less_eq, ByteArray.toList_eq, ByteArray.toList_eq]; rfl
@[simp] theorem av_un_not {p : Bool} : AV.un .not (.lit (.bool p)) = .lit (.bool (!p)) := rfl
@[simp] theorem av_unOk_not {p : Bool} : AV.unOk .not (.lit (.bool p)) ↔ True := Iff.rfl
@[simp] theorem av_un_neg {k : IntKind} {n : Int} : AV.un .neg (.lit (.int k n)) = .lit (.int k (k.wrap (0 - n))) := rfl
@[simp] theorem av_unOk_neg {k : IntKind} {n : Int} : AV.unOk .neg (.lit (.int k n)) ↔ True := Iff.rfl
@[simp] theorem av_eqB {p q : Bool} : AV.eqB (.lit (.bool p)) (.lit (.bool q)) = .lit (.bool (p == q)) := rfl
@[simp] theorem av_neB {p q : Bool} : AV.neB (.lit (.bool p)) (.lit (.bool q)) = .lit (.bool (!(p == q))) := rfl
@[simp] theorem av_binOk_adds : AV.binOk .add (.lit (.string a)) (.lit (.string b)) ↔ ((a.size + b.size : Nat) : Int) ≤ 9223372036854775807 := Iff.rfl
@[simp] theorem av_adds : AV.bin .add (.lit (.string a)) (.lit (.string b)) = .lit (.string (a ++ b)) := rfl
@[simp] theorem av_eqc_int {k k' : IntKind} {m n : Int} : AV.eqc (.lit (.int k m)) (.lit (.int k' n)) = (m == n) := rfl
@[simp] theorem av_eqc_bool {p q : Bool} : AV.eqc (.lit (.bool p)) (.lit (.bool q)) = (p == q) := rfl
@[simp] theorem av_eqc_str : AV.eqc (.lit (.string a)) (.lit (.string b)) = decide (a = b) := bytes_eq
@[simp] theorem av_okA_int {k k' : IntKind} {n : Int} : okA (.int k) (.lit (.int k' n)) ↔ k' = k := ⟨fun ⟨_, e⟩ => by injection e with e; injection e, fun e => by subst e; exact ⟨_, rfl⟩⟩
@[simp] theorem av_okA_str : okA .str (.lit (.string a)) ↔ True := ⟨fun _ => trivial, fun _ => ⟨_, rfl⟩⟩
@[simp] theorem av_okA_bool {p : Bool} : okA .bool (.lit (.bool p)) ↔ True := ⟨fun _ => trivial, fun _ => ⟨_, rfl⟩⟩
end
@[simp] theorem av_mkRef {cs : List AV} : AV.mkRef cs = .ref cs := rfl
@[simp] theorem av_mkClo {f : FuncId} {cs : List AV} : AV.mkClo f cs = .clo f cs := rfl
@[simp] theorem av_isRef {cs : List AV} {m : Nat} : AV.isRef (.ref cs) m ↔ cs.length = m := ⟨fun ⟨_, e, h⟩ => by injection e with e; rw [e]; exact h, fun h => ⟨cs, rfl, h⟩⟩
@[simp] theorem av_der {x : AV} {cs : List AV} : AV.der (.ref (x :: cs)) = x := rfl
@[simp] theorem av_derA {cs : List AV} : AV.derA (.ref cs) = .agg cs := rfl
/-- The first place at which p holds; -1: none. -/
def idxN {α : Type} (p : α → Bool) : Nat → List α → Int
  | _, [] => -1
  | n, x :: r => if p x = true then (n : Int) else idxN p (n + 1) r
theorem idxN_spec {α : Type} (p : α → Bool) : ∀ (l : List α) (n : Nat), (idxN p n l = -1 ∧ ∀ x ∈ l, p x = false) ∨ ∃ i x, idxN p n l = ((n + i : Nat) : Int) ∧ l[i]? = some x ∧ p x = true
  | [], n => .inl ⟨rfl, fun x h => by simp at h⟩
  | x :: r, n => by
    by_cases h : p x = true
    · exact .inr ⟨0, x, by simp [idxN, h], rfl, h⟩
    · have h' : p x = false := by simpa using h
      rcases idxN_spec p r (n + 1) with ⟨h1, h2⟩ | ⟨i, y, h1, h2, h3⟩
      · exact .inl ⟨by simp [idxN, h', h1], fun z hz => (List.mem_cons.1 hz).elim (fun e => e ▸ h') (fun hz => h2 z hz)⟩
      · exact .inr ⟨i + 1, y, by simp only [idxN, h', Bool.false_eq_true, if_false, h1]; congr 1; omega, by simpa using h2, h3⟩
/-- A nil slice that is not named by its type. -/
inductive NL : AV → AV → Prop
  | refl (x : AV) : NL x x
  | nil (s : Nat) : NL (.lit (.slice none 0 0)) (.sl s [])
  | agg (cs ds : List AV) (h : cs.length = ds.length) (hi : ∀ i, i < cs.length → NL (cs.getD i default) (ds.getD i default)) : NL (.agg cs) (.agg ds)
  | sl (s : Nat) (L L' : List (List AV)) (hl : L.length = L'.length) (hs : ∀ x ∈ L', x.length = s) (hc : ∀ i j, i < L.length → j < s → NL (gt2 L i j) (gt2 L' i j)) : NL (.sl s L) (.sl s L')
theorem NL.rv {w : World} {ok : Nat → Prop} {x y : AV} {v : Value} (h : NL x y) (hv : RV w ok x v) : RV w ok y v := by
  induction h generalizing v with
  | refl x => exact hv
  | nil s => cases hv; exact .sl s [] none 0 0 (fun _ _ => undef) rfl (Nat.le_refl _) (by unfold maxLen; omega) (by simp) (fun q => absurd q (by omega)) (fun i j hi => absurd hi (by omega)) (fun i j hi => absurd hi (by omega))
  | agg cs ds h hi ih =>
    cases hv with
    | agg _ vs h1 h2 h3 => exact .agg ds vs (h1.trans h) (fun i q => h2 i (h ▸ q)) fun i q => ih i (h ▸ q) (h3 i (h ▸ q))
  | sl s L L' hl hs hc ih =>
    cases hv with
    | sl _ _ A n c us hn hnc hcm hs0 hA hone hu => exact .sl s L' A n c us (hl ▸ hn) hnc hcm hs hA hone fun i j hi hj => ih i j (by omega) hj (hu i j hi hj)
inductive NLs : List AV → List AV → Prop
  | nil : NLs [] []
  | cons {x y : AV} {l m : List AV} (h : NL x y) (t : NLs l m) : NLs (x :: l) (y :: m)
theorem NLs.get {l m : List AV} (h : NLs l m) : l.length = m.length ∧ ∀ i, i < l.length → NL (l.getD i default) (m.getD i default) := by
  induction h with
  | nil => exact ⟨rfl, fun i h => absurd h (by simp)⟩
  | cons h t ih =>
    refine ⟨by simp [ih.1], fun i hi => ?_⟩
    cases i with
    | zero => exact h
    | succ i => simpa using ih.2 i (by simpa using hi)
theorem NL.aggs {l m : List AV} (h : NLs l m) : NL (.agg l) (.agg m) := .agg _ _ h.get.1 h.get.2
theorem Fn.nl {P : Program} {f : FuncId} {args args' : List AV} {sh : Sh} {r : AV} (h : Fn P f args sh r) (hn : NLs args' args) : Fn P f args' sh r :=
  ⟨h.1, fun w ok cargs h1 hgl h2 h3 => h.2 w ok cargs h1 hgl (h2.trans hn.get.1) fun i hi => (hn.get.2 i (hn.get.1 ▸ hi)).rv (h3 i (hn.get.1 ▸ hi))⟩
end Go.Proofs.YtcifjnhpgblnkaaGreatDoor
/- Arguments of plain types, opened. -/
namespace Go.Proofs.YtcifjnhpgblnkaaGreatDoor
open Go.RowKit
set_option linter.unusedVariables false
def I64 (n : Int) : Prop := -9223372036854775808 ≤ n ∧ n ≤ 9223372036854775807
theorem i64_of {n : Int} (h : (Lit.int .i64 n).wf = true) : I64 n := by
  have h' : (IntKind.i64.min ≤ n && n ≤ IntKind.i64.max) = true := h
  simp only [Bool.and_eq_true, decide_eq_true_eq] at h'
  have e1 : IntKind.i64.min = -9223372036854775808 := by decide
  have e2 : IntKind.i64.max = 9223372036854775807 := by decide
  rw [e1, e2] at h'
  exact h'
section
variable {P : Program} {u e : TypeId} {x : AV} {d : Nat}
theorem c_int (hu : P.underlying u = some (.int .i64)) (h : CellOk P (d + 1) u x) : ∃ n, x = .int n ∧ I64 n := by
  obtain ⟨n, e, hw⟩ := cell_int hu h
  exact ⟨n, e, i64_of hw⟩
theorem c_str (hu : P.underlying u = some .string) (h : CellOk P (d + 1) u x) : ∃ s : ByteArray, x = .string s ∧ s.size ≤ maxLen := cell_str hu h
/-- A slice whose elements are read by 'encA'. -/
theorem c_lst {α : Type} {encA : α → List AV} {Q : α → Prop} {tys : List TypeId} {s : Nat} (hu : P.underlying u = some (.slice e)) (ht : flatTy P 8 e = some tys) (hs : P.cellsOf e = s)
    (hd : ∀ y : List AV, y.length = tys.length → (∀ i u', tys[i]? = some u' → CellOk P d u' (y.getD i default)) → ∃ a, y = encA a ∧ Q a) (h : CellOk P (d + 1) u x) : ∃ l : List α, x = lst s encA l ∧ l.length ≤ maxLen ∧ ∀ a ∈ l, Q a := by
  obtain ⟨L, e1, h1, h2⟩ := cell_sl hu ht hs h
  obtain ⟨l, e2, h3⟩ := list_dec (L := L) (encA := encA) (Q := Q) fun y hy => hd y (h2 y hy).1 (h2 y hy).2
  subst e2
  exact ⟨l, e1, by simpa using h1, h3⟩
end
end Go.Proofs.YtcifjnhpgblnkaaGreatDoor
/- Names: what the run ends in. -/
namespace Go.Proofs.YtcifjnhpgblnkaaGreatDoor
open Go.RowKit
set_option linter.unusedVariables false
set_option maxRecDepth 100000
namespace NameF
--GAMMA
def Γ : FuncId → Option Ca := fun _ => none
def ann : FuncId → Nat → LoopEx := fun _ _ => ⟨[], [], [], []⟩
--END GAMMA
theorem name_form (x0 r : AV) : fnF Tryz.prog Γ ann 0 78 Tryz.f78 (Tryz.f78.body.getD .skip) (.nil) [x0] (.sc) r = (((AV.isStr x0) ∧
((AV.binOk Go.BinOp.lss (AV.slen x0) (AV.int 1)) ∧
((AV.isBool (AV.bin Go.BinOp.lss (AV.slen x0) (AV.int 1))) ∧
(((isT (AV.bin Go.BinOp.lss (AV.slen x0) (AV.int 1))) →
  ((AV.isBool (AV.bin Go.BinOp.lss (AV.slen x0) (AV.int 1))) ∧
  ((isT (AV.bin Go.BinOp.lss (AV.slen x0) (AV.int 1))) ∧
  ((AV.flat (AV.bool false)) ∧
  (fSame (AV.bool false) r))))) ∧
((isF (AV.bin Go.BinOp.lss (AV.slen x0) (AV.int 1))) →
  ((AV.isStr x0) ∧
  ((AV.binOk Go.BinOp.gtr (AV.slen x0) (AV.int 8)) ∧
  ((AV.isBool (AV.bin Go.BinOp.lss (AV.slen x0) (AV.int 1))) ∧
  ((isF (AV.bin Go.BinOp.lss (AV.slen x0) (AV.int 1))) ∧
  ((AV.isBool (AV.bin Go.BinOp.gtr (AV.slen x0) (AV.int 8))) ∧
  (((isT (AV.bin Go.BinOp.gtr (AV.slen x0) (AV.int 8))) →
    ((AV.flat (AV.bool false)) ∧
    (fSame (AV.bool false) r))) ∧
  ((isF (AV.bin Go.BinOp.gtr (AV.slen x0) (AV.int 8))) →
    ((AV.isStr x0) ∧
    ((AV.bytesOk x0) ∧
    ((AV.isSl (AV.bytes x0) 1) ∧
    (fLoop 833 [(AV.int 0)] fun ys833 again833 =>
      ((AV.binOk Go.BinOp.lss (ys833.getD 0 default) (AV.len (AV.bytes x0))) ∧
      ((AV.isBool (AV.bin Go.BinOp.lss (ys833.getD 0 default) (AV.len (AV.bytes x0)))) ∧
      (((isT (AV.bin Go.BinOp.lss (ys833.getD 0 default) (AV.len (AV.bytes x0)))) →
        ((AV.isSl (AV.bytes x0) 1) ∧
        ((AV.inb (AV.bytes x0) (ys833.getD 0 default)) ∧
        ((AV.binOk Go.BinOp.geq (AV.at (AV.bytes x0) (ys833.getD 0 default) 0) (AV.lit (Value.int Go.IntKind.u8 65))) ∧
        ((AV.isBool (AV.bin Go.BinOp.geq (AV.at (AV.bytes x0) (ys833.getD 0 default) 0) (AV.lit (Value.int Go.IntKind.u8 65)))) ∧
        (((isT (AV.bin Go.BinOp.geq (AV.at (AV.bytes x0) (ys833.getD 0 default) 0) (AV.lit (Value.int Go.IntKind.u8 65)))) →
          ((AV.binOk Go.BinOp.leq (AV.at (AV.bytes x0) (ys833.getD 0 default) 0) (AV.lit (Value.int Go.IntKind.u8 90))) ∧
          ((AV.isBool (AV.bin Go.BinOp.geq (AV.at (AV.bytes x0) (ys833.getD 0 default) 0) (AV.lit (Value.int Go.IntKind.u8 65)))) ∧
          ((isT (AV.bin Go.BinOp.geq (AV.at (AV.bytes x0) (ys833.getD 0 default) 0) (AV.lit (Value.int Go.IntKind.u8 65)))) ∧
          ((AV.isBool (AV.bin Go.BinOp.leq (AV.at (AV.bytes x0) (ys833.getD 0 default) 0) (AV.lit (Value.int Go.IntKind.u8 90)))) ∧
          (((isT (AV.bin Go.BinOp.leq (AV.at (AV.bytes x0) (ys833.getD 0 default) 0) (AV.lit (Value.int Go.IntKind.u8 90)))) →
            ((AV.isBool (AV.bin Go.BinOp.leq (AV.at (AV.bytes x0) (ys833.getD 0 default) 0) (AV.lit (Value.int Go.IntKind.u8 90)))) ∧
            ((isT (AV.bin Go.BinOp.leq (AV.at (AV.bytes x0) (ys833.getD 0 default) 0) (AV.lit (Value.int Go.IntKind.u8 90)))) ∧
            ((AV.binOk Go.BinOp.add (ys833.getD 0 default) (AV.int 1)) ∧
            (again833 [(AV.bin Go.BinOp.add (ys833.getD 0 default) (AV.int 1))]))))) ∧
          ((isF (AV.bin Go.BinOp.leq (AV.at (AV.bytes x0) (ys833.getD 0 default) 0) (AV.lit (Value.int Go.IntKind.u8 90)))) →
            ((AV.binOk Go.BinOp.gtr (ys833.getD 0 default) (AV.int 0)) ∧
            ((AV.isBool (AV.bin Go.BinOp.gtr (ys833.getD 0 default) (AV.int 0))) ∧
            (((isT (AV.bin Go.BinOp.gtr (ys833.getD 0 default) (AV.int 0))) →
              ((AV.binOk Go.BinOp.geq (AV.at (AV.bytes x0) (ys833.getD 0 default) 0) (AV.lit (Value.int Go.IntKind.u8 48))) ∧
              ((AV.isBool (AV.bin Go.BinOp.gtr (ys833.getD 0 default) (AV.int 0))) ∧
              ((isT (AV.bin Go.BinOp.gtr (ys833.getD 0 default) (AV.int 0))) ∧
              ((AV.isBool (AV.bin Go.BinOp.geq (AV.at (AV.bytes x0) (ys833.getD 0 default) 0) (AV.lit (Value.int Go.IntKind.u8 48)))) ∧
              (((isT (AV.bin Go.BinOp.geq (AV.at (AV.bytes x0) (ys833.getD 0 default) 0) (AV.lit (Value.int Go.IntKind.u8 48)))) →
                ((AV.binOk Go.BinOp.leq (AV.at (AV.bytes x0) (ys833.getD 0 default) 0) (AV.lit (Value.int Go.IntKind.u8 57))) ∧
                ((AV.isBool (AV.bin Go.BinOp.geq (AV.at (AV.bytes x0) (ys833.getD 0 default) 0) (AV.lit (Value.int Go.IntKind.u8 48)))) ∧
                ((isT (AV.bin Go.BinOp.geq (AV.at (AV.bytes x0) (ys833.getD 0 default) 0) (AV.lit (Value.int Go.IntKind.u8 48)))) ∧
                ((AV.isBool (AV.bin Go.BinOp.leq (AV.at (AV.bytes x0) (ys833.getD 0 default) 0) (AV.lit (Value.int Go.IntKind.u8 90)))) ∧
                ((isF (AV.bin Go.BinOp.leq (AV.at (AV.bytes x0) (ys833.getD 0 default) 0) (AV.lit (Value.int Go.IntKind.u8 90)))) ∧
                ((AV.unOk Go.UnOp.not (AV.bin Go.BinOp.leq (AV.at (AV.bytes x0) (ys833.getD 0 default) 0) (AV.lit (Value.int Go.IntKind.u8 57)))) ∧
                ((AV.isBool (AV.un Go.UnOp.not (AV.bin Go.BinOp.leq (AV.at (AV.bytes x0) (ys833.getD 0 default) 0) (AV.lit (Value.int Go.IntKind.u8 57))))) ∧
                (((isT (AV.un Go.UnOp.not (AV.bin Go.BinOp.leq (AV.at (AV.bytes x0) (ys833.getD 0 default) 0) (AV.lit (Value.int Go.IntKind.u8 57))))) →
                  ((AV.flat (AV.bool false)) ∧
                  (fSame (AV.bool false) r))) ∧
                ((isF (AV.un Go.UnOp.not (AV.bin Go.BinOp.leq (AV.at (AV.bytes x0) (ys833.getD 0 default) 0) (AV.lit (Value.int Go.IntKind.u8 57))))) →
                  ((AV.binOk Go.BinOp.add (ys833.getD 0 default) (AV.int 1)) ∧
                  (again833 [(AV.bin Go.BinOp.add (ys833.getD 0 default) (AV.int 1))])))))))))))) ∧
              ((isF (AV.bin Go.BinOp.geq (AV.at (AV.bytes x0) (ys833.getD 0 default) 0) (AV.lit (Value.int Go.IntKind.u8 48)))) →
                ((AV.isBool (AV.bin Go.BinOp.geq (AV.at (AV.bytes x0) (ys833.getD 0 default) 0) (AV.lit (Value.int Go.IntKind.u8 48)))) ∧
                ((isF (AV.bin Go.BinOp.geq (AV.at (AV.bytes x0) (ys833.getD 0 default) 0) (AV.lit (Value.int Go.IntKind.u8 48)))) ∧
                ((AV.isBool (AV.bin Go.BinOp.leq (AV.at (AV.bytes x0) (ys833.getD 0 default) 0) (AV.lit (Value.int Go.IntKind.u8 90)))) ∧
                ((isF (AV.bin Go.BinOp.leq (AV.at (AV.bytes x0) (ys833.getD 0 default) 0) (AV.lit (Value.int Go.IntKind.u8 90)))) ∧
                ((AV.flat (AV.bool false)) ∧
                (fSame (AV.bool false) r))))))))))))) ∧
            ((isF (AV.bin Go.BinOp.gtr (ys833.getD 0 default) (AV.int 0))) →
              ((AV.isBool (AV.bin Go.BinOp.gtr (ys833.getD 0 default) (AV.int 0))) ∧
              ((isF (AV.bin Go.BinOp.gtr (ys833.getD 0 default) (AV.int 0))) ∧
              ((AV.isBool (AV.bin Go.BinOp.leq (AV.at (AV.bytes x0) (ys833.getD 0 default) 0) (AV.lit (Value.int Go.IntKind.u8 90)))) ∧
              ((isF (AV.bin Go.BinOp.leq (AV.at (AV.bytes x0) (ys833.getD 0 default) 0) (AV.lit (Value.int Go.IntKind.u8 90)))) ∧
              ((AV.flat (AV.bool false)) ∧
              (fSame (AV.bool false) r))))))))))))))))) ∧
        ((isF (AV.bin Go.BinOp.geq (AV.at (AV.bytes x0) (ys833.getD 0 default) 0) (AV.lit (Value.int Go.IntKind.u8 65)))) →
          ((AV.isBool (AV.bin Go.BinOp.geq (AV.at (AV.bytes x0) (ys833.getD 0 default) 0) (AV.lit (Value.int Go.IntKind.u8 65)))) ∧
          ((isF (AV.bin Go.BinOp.geq (AV.at (AV.bytes x0) (ys833.getD 0 default) 0) (AV.lit (Value.int Go.IntKind.u8 65)))) ∧
          ((AV.binOk Go.BinOp.gtr (ys833.getD 0 default) (AV.int 0)) ∧
          ((AV.isBool (AV.bin Go.BinOp.gtr (ys833.getD 0 default) (AV.int 0))) ∧
          (((isT (AV.bin Go.BinOp.gtr (ys833.getD 0 default) (AV.int 0))) →
            ((AV.binOk Go.BinOp.geq (AV.at (AV.bytes x0) (ys833.getD 0 default) 0) (AV.lit (Value.int Go.IntKind.u8 48))) ∧
            ((AV.isBool (AV.bin Go.BinOp.gtr (ys833.getD 0 default) (AV.int 0))) ∧
            ((isT (AV.bin Go.BinOp.gtr (ys833.getD 0 default) (AV.int 0))) ∧
            ((AV.isBool (AV.bin Go.BinOp.geq (AV.at (AV.bytes x0) (ys833.getD 0 default) 0) (AV.lit (Value.int Go.IntKind.u8 48)))) ∧
            (((isT (AV.bin Go.BinOp.geq (AV.at (AV.bytes x0) (ys833.getD 0 default) 0) (AV.lit (Value.int Go.IntKind.u8 48)))) →
              ((AV.binOk Go.BinOp.leq (AV.at (AV.bytes x0) (ys833.getD 0 default) 0) (AV.lit (Value.int Go.IntKind.u8 57))) ∧
              ((AV.isBool (AV.bin Go.BinOp.geq (AV.at (AV.bytes x0) (ys833.getD 0 default) 0) (AV.lit (Value.int Go.IntKind.u8 48)))) ∧
              ((isT (AV.bin Go.BinOp.geq (AV.at (AV.bytes x0) (ys833.getD 0 default) 0) (AV.lit (Value.int Go.IntKind.u8 48)))) ∧
              ((AV.unOk Go.UnOp.not (AV.bin Go.BinOp.leq (AV.at (AV.bytes x0) (ys833.getD 0 default) 0) (AV.lit (Value.int Go.IntKind.u8 57)))) ∧
              ((AV.isBool (AV.un Go.UnOp.not (AV.bin Go.BinOp.leq (AV.at (AV.bytes x0) (ys833.getD 0 default) 0) (AV.lit (Value.int Go.IntKind.u8 57))))) ∧
              (((isT (AV.un Go.UnOp.not (AV.bin Go.BinOp.leq (AV.at (AV.bytes x0) (ys833.getD 0 default) 0) (AV.lit (Value.int Go.IntKind.u8 57))))) →
                ((AV.flat (AV.bool false)) ∧
                (fSame (AV.bool false) r))) ∧
              ((isF (AV.un Go.UnOp.not (AV.bin Go.BinOp.leq (AV.at (AV.bytes x0) (ys833.getD 0 default) 0) (AV.lit (Value.int Go.IntKind.u8 57))))) →
                ((AV.binOk Go.BinOp.add (ys833.getD 0 default) (AV.int 1)) ∧
                (again833 [(AV.bin Go.BinOp.add (ys833.getD 0 default) (AV.int 1))])))))))))) ∧
            ((isF (AV.bin Go.BinOp.geq (AV.at (AV.bytes x0) (ys833.getD 0 default) 0) (AV.lit (Value.int Go.IntKind.u8 48)))) →
              ((AV.isBool (AV.bin Go.BinOp.geq (AV.at (AV.bytes x0) (ys833.getD 0 default) 0) (AV.lit (Value.int Go.IntKind.u8 48)))) ∧
              ((isF (AV.bin Go.BinOp.geq (AV.at (AV.bytes x0) (ys833.getD 0 default) 0) (AV.lit (Value.int Go.IntKind.u8 48)))) ∧
              ((AV.flat (AV.bool false)) ∧
              (fSame (AV.bool false) r))))))))))) ∧
          ((isF (AV.bin Go.BinOp.gtr (ys833.getD 0 default) (AV.int 0))) →
            ((AV.isBool (AV.bin Go.BinOp.gtr (ys833.getD 0 default) (AV.int 0))) ∧
            ((isF (AV.bin Go.BinOp.gtr (ys833.getD 0 default) (AV.int 0))) ∧
            ((AV.flat (AV.bool false)) ∧
            (fSame (AV.bool false) r))))))))))))))))) ∧
      ((isF (AV.bin Go.BinOp.lss (ys833.getD 0 default) (AV.len (AV.bytes x0)))) →
        ((AV.flat (AV.bool true)) ∧
        (fSame (AV.bool true) r))))))))))))))))))))))) := by kernel_rfl
end NameF
end Go.Proofs.YtcifjnhpgblnkaaGreatDoor
/- Names. -/
namespace Go.Proofs.YtcifjnhpgblnkaaGreatDoor
open Go.RowKit
set_option linter.unusedVariables false
set_option linter.unusedSimpArgs false
set_option maxRecDepth 100000
def up (c : UInt8) : Prop := 65 ≤ c.toNat ∧ c.toNat ≤ 90
def dig (c : UInt8) : Prop := 48 ≤ c.toNat ∧ c.toNat ≤ 57
instance (c : UInt8) : Decidable (up c) := inferInstanceAs (Decidable (_ ∧ _))
instance (c : UInt8) : Decidable (dig c) := inferInstanceAs (Decidable (_ ∧ _))
def nameG : Nat → List UInt8 → Bool
  | _, [] => true
  | n, x :: rest => decide (up x ∨ (0 < n ∧ dig x)) && nameG (n + 1) rest
/-- A name: one to eight letters and digits, no digit at its head. -/
def isName (s : ByteArray) : Bool := decide (1 ≤ s.size ∧ s.size ≤ 8) && nameG 0 (key s)
@[simp] theorem key_len (s : ByteArray) : (key s).length = s.size := Array.length_toList
def encB (c : UInt8) : List AV := [.lit (.int .u8 c.toNat)]
theorem bytes_lst (s : ByteArray) : AV.bytes (.lit (.string s)) = lst 1 encB (key s) := rfl
theorem isName_eq (s : ByteArray) (h1 : 1 ≤ s.size) (h2 : s.size ≤ 8) : isName s = nameG 0 (key s) := by
  unfold isName; rw [decide_eq_true ⟨h1, h2⟩, Bool.true_and]
theorem isName_no (s : ByteArray) (h : ¬ (1 ≤ s.size ∧ s.size ≤ 8)) : isName s = false := by
  unfold isName; rw [decide_eq_false h, Bool.false_and]
theorem name_fn (s : ByteArray) : Fn Tryz.prog 78 [.string s] .sc (.bool (isName s)) := by
  refine fn_run mixed 0 (Γ := NameF.Γ) (ann := NameF.ann) Tryz.func78 rfl Tryz.call78 ((NameF.name_form _ _).mpr ?_)
  simp [bytes_lst, AV.bytesOk]
  refine ⟨fun h => ⟨h, ?_⟩, fun h => ⟨h, fun h2 => ?_, fun h2 => ⟨by omega, ?_⟩⟩⟩
  · exact isName_no s (by omega)
  · exact isName_no s (by omega)
  · have hE := isName_eq s (by omega) (by omega)
    refine loop_list (σ := Unit) (key s) (fun n _ => [.int (n : Nat)]) (fun n rest _ => isName s = nameG n rest) () rfl hE ?_ ?_
    · intro n x rest _ K hx hr hn hg hK
      rw [nameG] at hg
      rw [key_len] at hn
      have bad : ¬ (up x ∨ (0 < n ∧ dig x)) → isName s = false := fun h => by rw [hg, decide_eq_false h]; rfl
      have good : (up x ∨ (0 < n ∧ dig x)) → K [.int ((n : Nat) + 1)] := fun h => hK _ () (by simp) (by rw [hg, decide_eq_true h, Bool.true_and])
      unfold up dig at bad good
      simp [hn, lst_at hx, encB]
      (repeat' (first | exact trivial | (with_reducible intro hw; (try simp (disch := omega) only [wrap64] at hw); first | (exfalso; omega; done) | skip) | (with_reducible refine And.intro ?_ ?_) | omega | assumption))
      all_goals (first | exact bad (by omega) | (rw [wrap64 (by omega) (by omega)]; exact good (by omega)))
    · intro _ K hg
      rw [key_len]
      simp [hg, nameG]
end Go.Proofs.YtcifjnhpgblnkaaGreatDoor
/- cmp: what the run ends in. -/
namespace Go.Proofs.YtcifjnhpgblnkaaGreatDoor
open Go.RowKit
set_option linter.unusedVariables false
set_option maxRecDepth 100000
namespace CmpF
--GAMMA
def Γ : FuncId → Option Ca := fun f => some .inl
def ann : FuncId → Nat → LoopEx := fun f r => ⟨[], [], [], []⟩
--END GAMMA
theorem cmp_form (x0 x1 r : AV) : fnF Tryz.prog Γ ann 2 47 Tryz.f47 (Tryz.f47.body.getD .skip) (.nil) [x0, x1] (.sc) r = (((fEnt Tryz.prog 115) ∧
(fAllV fun _ => ((AV.binOk Go.BinOp.neq x0 x0) ∧
((fEnt Tryz.prog 115) ∧
(fAllV fun _ => ((AV.binOk Go.BinOp.neq x1 x1) ∧
((AV.isBool (AV.bin Go.BinOp.neq x0 x0)) ∧
(((isT (AV.bin Go.BinOp.neq x0 x0)) →
  ((AV.isBool (AV.bin Go.BinOp.neq x1 x1)) ∧
  (((isT (AV.bin Go.BinOp.neq x1 x1)) →
    ((AV.flat (AV.int 0)) ∧
    (fSame (AV.int 0) r))) ∧
  ((isF (AV.bin Go.BinOp.neq x1 x1)) →
    ((AV.flat (AV.int (-1))) ∧
    (fSame (AV.int (-1)) r)))))) ∧
((isF (AV.bin Go.BinOp.neq x0 x0)) →
  ((AV.isBool (AV.bin Go.BinOp.neq x1 x1)) ∧
  (((isT (AV.bin Go.BinOp.neq x1 x1)) →
    ((AV.flat (AV.int 1)) ∧
    (fSame (AV.int 1) r))) ∧
  ((isF (AV.bin Go.BinOp.neq x1 x1)) →
    ((AV.binOk Go.BinOp.lss x0 x1) ∧
    ((AV.isBool (AV.bin Go.BinOp.lss x0 x1)) ∧
    (((isT (AV.bin Go.BinOp.lss x0 x1)) →
      ((AV.flat (AV.int (-1))) ∧
      (fSame (AV.int (-1)) r))) ∧
    ((isF (AV.bin Go.BinOp.lss x0 x1)) →
      ((AV.binOk Go.BinOp.gtr x0 x1) ∧
      ((AV.isBool (AV.bin Go.BinOp.gtr x0 x1)) ∧
      (((isT (AV.bin Go.BinOp.gtr x0 x1)) →
        ((AV.flat (AV.int 1)) ∧
        (fSame (AV.int 1) r))) ∧
      ((isF (AV.bin Go.BinOp.gtr x0 x1)) →
        ((AV.flat (AV.int 0)) ∧
        (fSame (AV.int 0) r))))))))))))))))))))))) := by kernel_rfl
theorem or_form (x0 r : AV) : fnF Tryz.prog Γ ann 2 46 Tryz.f46 (Tryz.f46.body.getD .skip) (.nil) [x0] (.sc) r = (((AV.isSl x0 1) ∧
(fLoop 321 [(AV.int 0)] fun ys321 again321 =>
  ((AV.binOk Go.BinOp.lss (ys321.getD 0 default) (AV.len x0)) ∧
  ((AV.isBool (AV.bin Go.BinOp.lss (ys321.getD 0 default) (AV.len x0))) ∧
  (((isT (AV.bin Go.BinOp.lss (ys321.getD 0 default) (AV.len x0))) →
    ((AV.isSl x0 1) ∧
    ((AV.inb x0 (ys321.getD 0 default)) ∧
    ((AV.binOk Go.BinOp.neq (AV.at x0 (ys321.getD 0 default) 0) (AV.int 0)) ∧
    ((AV.isBool (AV.bin Go.BinOp.neq (AV.at x0 (ys321.getD 0 default) 0) (AV.int 0))) ∧
    (((isT (AV.bin Go.BinOp.neq (AV.at x0 (ys321.getD 0 default) 0) (AV.int 0))) →
      ((AV.flat (AV.at x0 (ys321.getD 0 default) 0)) ∧
      (fSame (AV.at x0 (ys321.getD 0 default) 0) r))) ∧
    ((isF (AV.bin Go.BinOp.neq (AV.at x0 (ys321.getD 0 default) 0) (AV.int 0))) →
      ((AV.binOk Go.BinOp.add (ys321.getD 0 default) (AV.int 1)) ∧
      (again321 [(AV.bin Go.BinOp.add (ys321.getD 0 default) (AV.int 1))]))))))))) ∧
  ((isF (AV.bin Go.BinOp.lss (ys321.getD 0 default) (AV.len x0))) →
    ((AV.flat (AV.int 0)) ∧
    (fSame (AV.int 0) r))))))))) := by kernel_rfl
end CmpF
end Go.Proofs.YtcifjnhpgblnkaaGreatDoor
/- The order by a number, then by a name; sorting by it. -/
namespace Go.Proofs.YtcifjnhpgblnkaaGreatDoor
open Go.RowKit
set_option linter.unusedVariables false
set_option linter.unusedSimpArgs false
set_option maxRecDepth 100000
/-! ### comparing -/
def cmpS (a b : ByteArray) : Int := if key a < key b then -1 else if key a ≤ key b then 0 else 1
theorem compare_fn (a b : ByteArray) : Fn Tryz.prog 47 [.string a, .string b] .sc (.int (cmpS a b)) := by
  refine fn_run mixed 2 (Γ := CmpF.Γ) (ann := CmpF.ann) Tryz.func47 rfl Tryz.call47 ((CmpF.cmp_form _ _ _).mpr ?_)
  have e1 : Ent Tryz.prog 115 := Tryz.call115
  simp [e1]
  refine ⟨fun h => by simp [cmpS, h], fun h => ⟨fun h2 => ?_, fun h2 => ?_⟩⟩
  · rw [cmpS, if_neg (by simpa using h), if_neg (by simpa using h2)]
  · rw [cmpS, if_neg (by simpa using h), if_pos (by simpa using h2)]
def orI : List Int → Int
  | [] => 0
  | x :: r => if x = 0 then orI r else x
def encI (x : Int) : List AV := [.int x]
abbrev ints (l : List Int) : AV := lst 1 encI l
theorem or_fn (l : List Int) (hl : l.length ≤ 100) : Fn Tryz.prog 46 [lst 1 encI l] .sc (.int (orI l)) := by
  refine fn_run mixed 2 (Γ := CmpF.Γ) (ann := CmpF.ann) Tryz.func46 rfl Tryz.call46 ((CmpF.or_form _ _).mpr ?_)
  simp
  refine loop_list (σ := Unit) l (fun n _ => [.int (n : Nat)]) (fun n rest _ => orI l = orI rest) () rfl rfl ?_ ?_
  · rintro n x rest _ K hx hr hn hg hK
    have hw2 : IntKind.i64.wrap ((n : Int) + 1) = (n : Int) + 1 := wrap64 (by omega) (by omega)
    simp [hn, lst_at hx, encI, hw2]
    rw [orI] at hg
    exact ⟨fun h => by rw [hg, if_neg h], fun h => hK _ () (by simp) (by rw [hg, if_pos h])⟩
  · intro _ K hg
    simp [hg, orI]
/-! ### the order -/
def klt (a b : Int × List UInt8) : Prop := a.1 < b.1 ∨ (a.1 = b.1 ∧ a.2 < b.2)
instance (a b : Int × List UInt8) : Decidable (klt a b) := inferInstanceAs (Decidable (_ ∨ _))
theorem key_tri (a b : List UInt8) (h1 : ¬ a < b) (h2 : ¬ b < a) : a = b := List.le_antisymm (List.not_lt.1 h2) (List.not_lt.1 h1)
theorem klt_irr (a : Int × List UInt8) : ¬ klt a a := by
  rintro (h | ⟨_, h⟩)
  · omega
  · exact List.lt_irrefl _ h
theorem klt_tr {a b c : Int × List UInt8} (h1 : klt a b) (h2 : klt b c) : klt a c := by
  rcases h1 with h1 | ⟨e1, h1⟩
  · rcases h2 with h2 | ⟨e2, h2⟩
    · exact .inl (by omega)
    · exact .inl (by omega)
  · rcases h2 with h2 | ⟨e2, h2⟩
    · exact .inl (by omega)
    · exact .inr ⟨by omega, List.lt_trans h1 h2⟩
theorem klt_tot {a b : Int × List UInt8} (h1 : ¬ klt a b) (h2 : ¬ klt b a) : a = b := by
  unfold klt at h1 h2
  have e : a.1 = b.1 := by
    have q1 : ¬ a.1 < b.1 := fun q => h1 (.inl q)
    have q2 : ¬ b.1 < a.1 := fun q => h2 (.inl q)
    omega
  exact Prod.ext e (key_tri _ _ (fun q => h1 (.inr ⟨e, q⟩)) (fun q => h2 (.inr ⟨e.symm, q⟩)))
theorem klt_ntr {a b c : Int × List UInt8} (h1 : ¬ klt a b) (h2 : ¬ klt b c) : ¬ klt a c := by
  intro h
  by_cases q : klt b a
  · exact h2 (klt_tr q h)
  · have e := klt_tot h1 q
    subst e; exact h2 h
/-- The comparison: cmp.Or(number's difference, names compared). -/
def cmpK (t u : Int) (a b : ByteArray) : Int := if t - u = 0 then cmpS a b else t - u
theorem cmpK_lt (t u : Int) (a b : ByteArray) : cmpK t u a b < 0 ↔ klt (t, key a) (u, key b) := by
  simp only [cmpK, klt, cmpS]
  split
  · rename_i h
    have : t = u := by omega
    simp only [this, true_and, Int.lt_irrefl, false_or]
    split
    · rename_i h1; simp [h1]
    · rename_i h1
      split <;> simp [h1]
  · rename_i h
    refine ⟨fun q => .inl (by omega), fun q => ?_⟩
    rcases q with q | q
    · omega
    · omega
theorem orI_cmp (d : Int) (a b : ByteArray) (t u : Int) (h : d = t - u) : orI [d, cmpS a b] = cmpK t u a b := by
  subst h
  simp only [orI, cmpK]
  by_cases h0 : t - u = 0
  · rw [if_pos h0, if_pos h0]
    split
    · rename_i h1; exact h1.symm
    · rfl
  · rw [if_neg h0, if_neg h0]
section
variable {α : Type} (f : α → Int × List UInt8)
def insB (x : α) : List α → List α
  | [] => [x]
  | y :: r => if klt (f x) (f y) then x :: y :: r else y :: insB x r
def srtB : List α → List α
  | [] => []
  | x :: r => insB f x (srtB r)
theorem insB_perm (x : α) : ∀ l, (insB f x l).Perm (x :: l)
  | [] => .refl _
  | y :: r => by
    rw [insB]
    split
    · exact .refl _
    · exact ((insB_perm x r).cons y).trans (.swap x y r)
theorem srtB_perm : ∀ l, (srtB f l).Perm l
  | [] => .refl _
  | x :: r => (insB_perm f x _).trans ((srtB_perm r).cons x)
theorem srtB_len (l : List α) : (srtB f l).length = l.length := (srtB_perm f l).length_eq
theorem insB_sorted (x : α) : ∀ l, l.Pairwise (fun a b => ¬ klt (f b) (f a)) → (insB f x l).Pairwise (fun a b => ¬ klt (f b) (f a))
  | [], _ => by simp [insB]
  | y :: r, h => by
    rw [List.pairwise_cons] at h
    rw [insB]
    split
    · rename_i hxy
      rw [List.pairwise_cons, List.pairwise_cons]
      refine ⟨fun z hz q => ?_, h.1, h.2⟩
      rcases List.mem_cons.1 hz with rfl | hz
      · exact klt_irr _ (klt_tr hxy q)
      · exact h.1 z hz (klt_tr q hxy)
    · rename_i hxy
      rw [List.pairwise_cons]
      refine ⟨fun z hz => ?_, insB_sorted x r h.2⟩
      rcases List.mem_cons.1 ((insB_perm f x r).mem_iff.1 hz) with rfl | hz
      · exact hxy
      · exact h.1 z hz
theorem srtB_sorted : ∀ l, (srtB f l).Pairwise (fun a b => ¬ klt (f b) (f a))
  | [] => .nil
  | x :: r => insB_sorted f x _ (srtB_sorted r)
end
theorem take_snoc {α : Type} {l : List α} {n : Nat} {x : α} (h : l[n]? = some x) : l.take (n + 1) = l.take n ++ [x] := by
  rw [List.take_add_one, h]; rfl
end Go.Proofs.YtcifjnhpgblnkaaGreatDoor
/- slices.SortFunc over plain values: the shelf's contract, met by a comparison's contract. -/
namespace Go.Proofs.YtcifjnhpgblnkaaGreatDoor
open Go.RowKit Go.Shelf Go.Sort
set_option linter.unusedVariables false
set_option linter.unusedSimpArgs false
theorem grow_of_below {w w' : World} (h : Go.RowKit.Below w.heap.size w w') (hd : w.drawn ≤ w'.drawn) : ∃ q os, w' = grow (w.drewN q) os := by
  refine ⟨w'.drawn - w.drawn, w'.heap.extract w.heap.size w'.heap.size, ?_⟩
  have e1 : w'.heap = w.heap ++ w'.heap.extract w.heap.size w'.heap.size := by
    apply Array.ext_getElem?
    intro k
    rw [Array.getElem?_append]
    split
    · rename_i hk; exact h.block k hk
    · rename_i hk
      rw [Array.getElem?_extract]
      have := h.size
      by_cases hk2 : k < w'.heap.size
      · rw [if_pos (by omega)]; congr 1; omega
      · rw [if_neg (by omega)]; exact Array.getElem?_eq_none (by omega)
  have e2 : w.drawn + (w'.drawn - w.drawn) = w'.drawn := by omega
  have h1 := h.os; have h2 := h.tape; have h3 := h.output
  cases w'; cases w
  simp only at *
  subst h1 h2 h3
  unfold grow
  simp only [World.drewN] at *
  rw [e2]
  congr 1
theorem putRow_block (w : World) (G : Nat) (F : Array Value) {b : Nat} (hb : b ≠ G) : (putRow id w G 0 F).heap[b]? = w.heap[b]? := by
  unfold putRow mapBlock
  simp only [Array.getElem?_modify]
  rw [if_neg (fun e => hb e.symm)]
theorem putRow_at (w : World) (G : Nat) (F : Array Value) {c : Array Value} {e : TypeId} {fr : Nat × Nat} (h : w.heap[G]? = some (.cells c e fr)) : (putRow id w G 0 F).heap[G]? = some (.cells (putCells id 0 F c) e fr) := by
  unfold putRow mapBlock
  simp only [Array.getElem?_modify, if_true, h, Option.map_some, onCells]
theorem sortW_block {α : Type} [Inhabited α] (enc : α → List Value) (k : Nat) (w : World) (G m : Nat) (D : Array α) (os : Array Obj) {b : Nat} (hb : b ≠ G) (hlt : b < w.heap.size) : (sortWorldK enc k w G 0 m D os).heap[b]? = w.heap[b]? := by
  unfold sortWorldK grow
  have hsz : (putRowK enc k (Go.Sort.ahead w m) G 0 D).heap.size = w.heap.size := size_putRow id _ G 0 _
  simp only [Array.getElem?_append]
  rw [if_pos (by rw [hsz]; exact hlt)]
  exact putRow_block _ _ _ hb
theorem sortW_at {α : Type} [Inhabited α] (enc : α → List Value) (k : Nat) (w : World) (G m : Nat) (D : Array α) (os : Array Obj) {c : Array Value} {e : TypeId} {fr : Nat × Nat} (h : w.heap[G]? = some (.cells c e fr)) : (sortWorldK enc k w G 0 m D os).heap[G]? = some (.cells (putCells id 0 (flatK enc k D) c) e fr) := by
  unfold sortWorldK grow
  have hsz : (putRowK enc k (Go.Sort.ahead w m) G 0 D).heap.size = w.heap.size := size_putRow id _ G 0 _
  simp only [Array.getElem?_append]
  rw [if_pos (by rw [hsz]; exact (Array.getElem?_eq_some_iff.1 h).1)]
  exact putRow_at _ _ _ h
theorem sortW_size {α : Type} [Inhabited α] (enc : α → List Value) (k : Nat) (w : World) (G m : Nat) (D : Array α) (os : Array Obj) : w.heap.size ≤ (sortWorldK enc k w G 0 m D os).heap.size := by
  have hsz : (putRowK enc k (Go.Sort.ahead w m) G 0 D).heap.size = w.heap.size := size_putRow id _ G 0 _
  unfold sortWorldK
  rw [size_grow, hsz]; omega
/-- An element of the row: as a plain value, and as its cells. -/
def Elt (w : World) (okc : Nat → Prop) (k : Nat) (d : List (List AV)) : Type := { p : List AV × List Value // p.1 ∈ d ∧ p.2.length = k ∧ (∀ v ∈ p.2, v.oneCell' = true) ∧ p.1.length = k ∧ ∀ j, j < k → RV w okc (p.1.getD j default) (p.2.getD j undef) }
/-- **slices.SortFunc**: with a comparison that orders the elements, and parts whatever two that are not one, the row is the sorted list. -/
theorem sortU {P : Program} {ρ : Ren} (L : SlLaysF0.n6 P ρ) {k : Nat} (aE : ∀ w, (isAgg (ρ.t 24)).run P w = .ok true w) (zE : ∀ w, (Go.sizeOf (ρ.t 24)).run P w = .ok k w) {g : FuncId} {cs : List AV} {cf : List AV → List AV → Int} {d s : List (List AV)} (hk0 : 0 < k) (eg : Ent P g)
    (hcmp : ∀ x ∈ d, ∀ y ∈ d, Fn P g ([.agg x, .agg y] ++ cs) .sc (.int (cf x y)))
    (hirr : ∀ x ∈ d, ¬ cf x x < 0) (htr : ∀ x ∈ d, ∀ y ∈ d, ∀ z ∈ d, cf x y < 0 → cf y z < 0 → cf x z < 0) (hntr : ∀ x ∈ d, ∀ y ∈ d, ∀ z ∈ d, ¬ cf x y < 0 → ¬ cf y z < 0 → ¬ cf x z < 0) (hT : ∀ x ∈ d, ∀ y ∈ d, ¬ cf x y < 0 → ¬ cf y x < 0 → x = y)
    (hbig : d.length < 4611686018427387904) (hp : s.Perm d) (hs : s.Pairwise fun x y => ¬ cf y x < 0) :
    FnU P (ρ.f 6) (ρ.t 24) k (.sl k d) [.clo g cs] false (.sl k s) := by
  refine ⟨fun args W => L.f6.enters rfl args W, ?_⟩
  intro w ok B okc v0 cargs hrow hokc hok hB hgl hsz hargs
  have hrow0 := hrow
  obtain ⟨L', xs, hL', _, hlen, ho, hone, hv⟩ := hrow
  injection hL' with _ hL'
  subst hL'
  obtain ⟨u, rfl⟩ : ∃ u, cargs = #[u] := ⟨cargs.getD 0 undef, by
    have : cargs.size = 1 := hsz
    apply Array.ext_getElem?
    intro i
    by_cases hi : i < 1
    · obtain rfl : i = 0 := by omega
      simp [this]
    · rw [Array.getElem?_eq_none (by omega), Array.getElem?_eq_none (by simp; omega)]⟩
  have hu : RV w ok (.clo g cs) u := hargs 0 (by simp)
  cases hu with
  | clo _ _ vs hvl hvs =>
  have hnone : d = [] → ∀ p cap, v0 = .slice p 0 cap → Calls P (ρ.f 6) (#[v0] ++ #[.func (.func g) #[] vs]) w fun e' w' => ∃ v, e' = .returned (if false then v else .tuple #[]) ∧ w.grownBy w' v0.ownBlock ∧ RRow w' B (ρ.t 24) k okc (.sl k s) v ∧ (false = false → v = v0) ∧ (∀ g, v.ownBlock = some g → v0.ownBlock = some g ∨ w.heap.size ≤ g) ∧ w.drawn ≤ w'.drawn := by
    intro h0 p cap e
    have hs0 : s = d := by rw [h0] at hp ⊢; exact hp.eq_nil
    rw [e]
    refine (AnyF.slices_SortFunc_none (P := P) (ρ := ρ) L p cap (.func (.func g) #[] vs) w).mono ?_
    rintro e' w' ⟨rfl, rfl⟩
    exact ⟨.slice p 0 cap, rfl, ⟨rfl, rfl, rfl, Nat.le_refl _, fun _ _ _ => rfl⟩, by rw [hs0, ← e]; exact hrow0, fun _ => rfl, fun g hg => .inl hg, Nat.le_refl _⟩
  rcases ho.2 with ⟨e0, h0⟩ | ⟨G, cap, cur, e0, hBG, hG, hnc, hcm, hcs, htk⟩
  · exact hnone (List.eq_nil_of_length_eq_zero h0) none 0 e0
  by_cases hd0 : d = []
  · exact hnone hd0 _ cap (by rw [e0, hd0]; rfl)
  have hn0 : 0 < d.length := List.length_pos_iff.2 hd0
  have hxl : xs.length = d.length * k := ho.1
  have hget : ∀ i j, i < d.length → j < k → i * k + j < xs.length := fun i j hi hj => by
    rw [hxl]
    have : (i + 1) * k ≤ d.length * k := Nat.mul_le_mul_right _ hi
    rw [Nat.add_mul] at this; omega
  have hslice : ∀ i, i < d.length → ((xs.drop (i * k)).take k).length = k := fun i hi => by
    rw [List.length_take, List.length_drop, hxl]
    have : (i + 1) * k ≤ d.length * k := Nat.mul_le_mul_right _ hi
    rw [Nat.add_mul] at this; omega
  have hsl2 : ∀ i j, j < k → ((xs.drop (i * k)).take k).getD j undef = xs.getD (i * k + j) undef := fun i j hj => by
    simp only [List.getD_eq_getElem?_getD, List.getElem?_take, hj, if_true, List.getElem?_drop]
  let mk : (i : Fin d.length) → Elt w okc k d := fun i => ⟨(d[i], (xs.drop (i * k)).take k), List.getElem_mem _, hslice i i.2, fun v hv => hone v (List.mem_of_mem_drop (List.mem_of_mem_take hv)), hlen _ (List.getElem_mem _), fun j hj => by
    show RV w okc (d[i].getD j default) (((xs.drop (i * k)).take k).getD j undef)
    rw [hsl2 _ _ hj]
    have := hv i j i.2 hj
    have e : d.getD i [] = d[i] := by rw [List.getD_eq_getElem?_getD, List.getElem?_eq_getElem i.2]; rfl
    unfold gt2 at this
    rw [e] at this
    exact this⟩
  haveI : Inhabited (Elt w okc k d) := ⟨mk ⟨0, hn0⟩⟩
  let D : Array (Elt w okc k d) := (List.ofFn mk).toArray
  have hDs : D.size = d.length := by simp [D]
  have hDg : ∀ i (hi : i < d.length), D[i]! = mk ⟨i, hi⟩ := fun i hi => by
    rw [getElem!_pos D i (by rw [hDs]; exact hi)]
    simp [D]
  let enc : Elt w okc k d → List Value := fun p => p.1.2
  have hflat : ∀ t, t < d.length * k → (flatK enc k D)[t]! = xs.getD t undef := fun t ht => by
    have hq : t / k < d.length := Nat.div_lt_of_lt_mul (by rw [Nat.mul_comm]; exact ht)
    have hr : t % k < k := Nat.mod_lt _ hk0
    rw [get_flatK _ _ _ _ (by rw [hDs]; exact ht), hDg _ hq]
    show ((xs.drop (t / k * k)).take k)[t % k]! = _
    have e1 := hsl2 (t / k) (t % k) hr
    have e2 : t / k * k + t % k = t := by rw [Nat.mul_comm]; exact Nat.div_add_mod t k
    rw [e2] at e1
    rw [← e1, List.getD_eq_getElem?_getD, getElem!_pos _ _ (by rw [hslice _ hq]; exact hr), List.getElem?_eq_getElem (by rw [hslice _ hq]; exact hr)]
    rfl
  have hcurget : ∀ t, t < d.length * k → cur[t]? = some (xs.getD t undef) := fun t ht => by
    have h1 : (cur.toList.take (d.length * k))[t]? = xs[t]? := by rw [htk]
    rw [List.getElem?_take, if_pos ht] at h1
    rw [← Array.getElem?_toList, h1, List.getD_eq_getElem?_getD, List.getElem?_eq_getElem (by rw [hxl]; exact ht)]
    rfl
  have hGlt : G < w.heap.size := (Array.getElem?_eq_some_iff.1 hG).1
  have hH : HoldsK enc k w G 0 D := fun t ht => by
    rw [size_flatK, hDs] at ht
    rw [hflat t ht, Nat.zero_add]
    refine ⟨?_, ?_⟩
    · rw [cell_of_row w G t cur (ρ.t 24) (0, 0) hG, hcurget t ht]; rfl
    · simp [World.frozen?, hG]
  let cf' : Elt w okc k d → Elt w okc k d → Int := fun p q => cf p.1.1 q.1.1
  have hO : SWO (ltOf cf') := ⟨fun x => decide_eq_false (hirr _ x.2.1), fun x y z h1 h2 => decide_eq_true (htr _ x.2.1 _ y.2.1 _ z.2.1 (of_decide_eq_true h1) (of_decide_eq_true h2)), fun x y z h1 h2 => decide_eq_false (hntr _ x.2.1 _ y.2.1 _ z.2.1 (of_decide_eq_false h1) (of_decide_eq_false h2))⟩
  have hGok : ∀ b, okc b ∨ ok b → b ≠ G ∧ b < w.heap.size := fun b hb => by
    rcases hb with hb | hb
    · exact ⟨fun e => (hokc b hb).1 (by rw [e0, e]; rfl), (hokc b hb).2⟩
    · exact ⟨fun e => (hok b hb).1 (by rw [e0, e]; rfl), (hok b hb).2⟩
  have hCmp : CmpLays P g vs enc k cf' G 0 D.size w := by
    intro m os dk hdk x y
    have hfn := (hcmp _ x.2.1 _ y.2.1).2 (sortWorldK enc k w G 0 m dk os) (fun b => okc b ∨ ok b) (#[.agg (enc x).toArray, .agg (enc y).toArray] ++ vs) (fun b hb => Nat.lt_of_lt_of_le (hGok b hb).2 (sortW_size _ _ _ _ _ _ _)) ⟨fun p hp => ?_, fun p hp => by simp [globI] at hp⟩ (by simp [hvl]; omega) (fun i hi => ?_)
    · refine hfn.mono ?_
      rintro e w' ⟨v, rfl, hb, hR, _, hdr⟩
      have hv' : RV w' noBlock (.int (cf' x y)) v := hR
      obtain rfl := RV.lit_iff.1 hv'
      exact ⟨rfl, grow_of_below hb hdr⟩
    · obtain ⟨q1, q2, q3, x', y', q4⟩ := hgl.1 p hp
      refine ⟨Nat.lt_of_lt_of_le q1 (sortW_size _ _ _ _ _ _ _), .inr q2, fun i hi => ⟨?_, (q3 i hi).2⟩, x', y', ?_⟩
      · rw [← (q3 i hi).1]
        exact World.cell?_of_block (sortW_block _ _ _ _ _ _ _ (hGok _ (.inr q2)).1 q1)
      · rw [← q4]
        exact sortW_block _ _ _ _ _ _ _ (hGok _ (.inr q2)).1 q1
    · have hag : ∀ z : Elt w okc k d, RV (sortWorldK enc k w G 0 m dk os) (fun b => okc b ∨ ok b) (.agg z.1.1) (.agg (enc z).toArray) := fun z => by
        obtain ⟨p, q1, q2, q3, q4, q5⟩ := z
        refine .agg _ _ (by show p.2.toArray.size = _; simp [q2, q4]) (fun j hj => ?_) (fun j hj => ?_)
        · have hj2 : j < p.2.length := by rw [q2, ← q4]; exact hj
          show (p.2.toArray.getD j undef).oneCell' = true
          rw [Array.getD_eq_getD_getElem?]
          simp only [List.getElem?_toArray, List.getElem?_eq_getElem hj2, Option.getD_some]
          exact q3 _ (List.getElem_mem hj2)
        · have e2 : p.2.toArray.getD j undef = p.2.getD j undef := by rw [Array.getD_eq_getD_getElem?, List.getD_eq_getElem?_getD]; simp
          show RV _ _ _ (p.2.toArray.getD j undef)
          rw [e2]
          exact (q5 j (q4 ▸ hj)).mono fun b hb hlt => ⟨.inl hb, sortW_block _ _ _ _ _ _ _ (hGok b (.inl hb)).1 hlt⟩
      rcases i with _ | _ | i
      · have e2 : (#[Value.agg (enc x).toArray, Value.agg (enc y).toArray] ++ vs).getD 0 undef = .agg (enc x).toArray := by simp [Array.getElem?_append]
        rw [e2]; exact hag x
      · have e2 : (#[Value.agg (enc x).toArray, Value.agg (enc y).toArray] ++ vs).getD (0 + 1) undef = .agg (enc y).toArray := by simp [Array.getElem?_append]
        rw [e2]; exact hag y
      · have hi' : i < cs.length := by simpa using hi
        have e1 : ([AV.agg x.1.1, AV.agg y.1.1] ++ cs).getD (i + 2) default = cs.getD i default := by simp
        have e2 : (#[Value.agg (enc x).toArray, Value.agg (enc y).toArray] ++ vs).getD (i + 2) undef = vs.getD i undef := by
          simp only [Array.getD_eq_getD_getElem?, Array.getElem?_append]
          rw [if_neg (by simp)]
          simp
        rw [e1, e2]
        exact (hvs i hi').mono fun b hb hlt => ⟨.inr hb, sortW_block _ _ _ _ _ _ _ (hGok b (.inr hb)).1 hlt⟩
  have hcon := AnyQ.slices_SortFunc (P := P) (ρ := ρ) L k aE zE enc (fun p => p.2.2.1) (fun p v hv => p.2.2.2.1 v hv) cf' hO g vs G 0 cap D w eg hCmp hH hGlt (by rw [hDs]; exact hbig)
  rw [hDs] at hcon
  rw [e0]
  refine hcon.mono ?_
  rintro e' w' ⟨rfl, D', n, os, ⟨hz, _, hpm⟩, hsd, rfl⟩
  rw [hDs] at hz
  have e1 : D'.extract 0 d.length = D' := by rw [← hz]; exact Array.extract_size
  have e2 : D.extract 0 d.length = D := by rw [← hDs]; exact Array.extract_size
  rw [e1, e2] at hpm
  have hDmap : D.toList.map (fun p => p.1.1) = d := by
    simp only [D, List.map_ofFn]
    apply List.ext_getElem
    · simp
    · intro i h1 h2
      simp [mk]
      rfl
  have hsm : D'.toList.map (fun p => p.1.1) = s := by
    have hp1 : (D'.toList.map fun p => p.1.1).Perm d := (hpm.map fun p => p.1.1).trans (List.Perm.of_eq hDmap)
    refine List.Perm.eq_of_pairwise (le := fun x y => ¬ cf y x < 0) ?_ ?_ hs (hp1.trans hp.symm)
    · intro a b ha hb h1 h2
      exact hT a (hp1.mem_iff.1 ha) b (hp.mem_iff.1 hb) h2 h1
    · rw [List.pairwise_map, List.pairwise_iff_getElem]
      intro i j hi hj hij
      have hi' : i < D'.size := by simpa using hi
      have hj' : j < D'.size := by simpa using hj
      have := hsd i j (Nat.zero_le _) hij (by omega)
      rw [getElem!_pos D' j hj', getElem!_pos D' i hi'] at this
      exact of_decide_eq_false this
  have hsl : s.length = d.length := hp.length_eq
  refine ⟨.slice (some ⟨G, 0, none⟩) d.length cap, rfl, ⟨rfl, rfl, rfl, sortW_size _ _ _ _ _ _ _, fun b hb hne => sortW_block _ _ _ _ _ _ _ (fun e => hne (by rw [e]; rfl)) hb⟩, ?_, fun _ => rfl, fun b hb => .inl hb, by show w.drawn ≤ w.drawn + n; omega⟩
  have hD'g : ∀ i (hi : i < d.length), (s.getD i []) = (D'[i]!).1.1 ∧ s[i]? = some (D'[i]!).1.1 := fun i hi => by
    have : s[i]? = some (D'[i]!).1.1 := by
      rw [← hsm, List.getElem?_map, Array.getElem?_toList, Array.getElem?_eq_getElem (by omega), getElem!_pos D' i (by omega)]; rfl
    exact ⟨by rw [List.getD_eq_getElem?_getD, this]; rfl, this⟩
  refine ⟨s, (flatK enc k D').toList, rfl, hk0, fun y hy => hlen y (hp.mem_iff.1 hy), ⟨by simp [hz, hsl], .inr ⟨G, cap, _, by rw [hsl], hBG, sortW_at _ _ _ _ _ _ _ hG, by rw [hsl]; exact hnc, hcm, by simp [putCells, hcs], ?_⟩⟩, fun v hv' => ?_, fun i j hi hj => ?_⟩
  · apply List.ext_getElem?
    intro t
    rw [List.getElem?_take, hsl]
    split
    · rename_i ht
      have hlt : t < cur.size := by have := hcurget t ht; exact (Array.getElem?_eq_some_iff.1 this).1
      rw [Array.getElem?_toList, Array.getElem?_toList]
      simp only [putCells, Array.getElem?_mapIdx, Array.getElem?_eq_getElem hlt, Option.map_some]
      rw [if_pos ⟨Nat.zero_le _, by rw [Nat.zero_add, size_flatK, hz]; exact ht⟩, Nat.sub_zero, getElem!_pos _ _ (by rw [size_flatK, hz]; exact ht), Array.getElem?_eq_getElem (by rw [size_flatK, hz]; exact ht)]
      rfl
    · rename_i ht
      rw [List.getElem?_eq_none]
      rw [Array.length_toList, size_flatK, hz]; omega
  · rw [Array.mem_toList_iff] at hv'
    obtain ⟨t, ht, rfl⟩ := Array.mem_iff_getElem.1 hv'
    rw [size_flatK, hz] at ht
    have hr : t % k < k := Nat.mod_lt _ hk0
    have := get_flatK enc k D' t (by rw [hz]; exact ht)
    rw [getElem!_pos _ _ (by rw [size_flatK, hz]; exact ht)] at this
    rw [this]
    have hlt : t % k < (enc D'[t / k]!).length := by show _ < (D'[t / k]!).1.2.length; rw [(D'[t / k]!).2.2.1]; exact hr
    rw [getElem!_pos (enc D'[t / k]!) (t % k) hlt]
    exact (D'[t / k]!).2.2.2.1 _ (List.getElem_mem _)
  · rw [hsl] at hi
    have hlt : i * k + j < d.length * k := by have := hget i j hi hj; rwa [hxl] at this
    have e3 : (flatK enc k D').toList.getD (i * k + j) undef = (D'[i]!).1.2.getD j undef := by
      have hq : (i * k + j) / k = i := by rw [Nat.add_comm, Nat.add_mul_div_right _ _ hk0, Nat.div_eq_of_lt hj]; omega
      have hr : (i * k + j) % k = j := by rw [Nat.add_comm, Nat.add_mul_mod_self_right, Nat.mod_eq_of_lt hj]
      have h1 := get_flatK enc k D' (i * k + j) (by rw [hz]; exact hlt)
      rw [hq, hr] at h1
      rw [List.getD_eq_getElem?_getD, Array.getElem?_toList, Array.getElem?_eq_getElem (by rw [size_flatK, hz]; exact hlt)]
      rw [getElem!_pos _ _ (by rw [size_flatK, hz]; exact hlt)] at h1
      simp only [Option.getD_some]
      rw [h1]
      have hlt2 : j < (D'[i]!).1.2.length := by rw [(D'[i]!).2.2.1]; exact hj
      show ((D'[i]!).1.2)[j]! = _
      rw [getElem!_pos (D'[i]!).1.2 j hlt2, List.getD_eq_getElem?_getD, List.getElem?_eq_getElem hlt2]; rfl
    rw [e3]
    unfold gt2
    rw [(hD'g i hi).1]
    exact ((D'[i]!).2.2.2.2.2 j hj).mono fun b hb hlt => ⟨hb, sortW_block _ _ _ _ _ _ _ (hGok b (.inl hb)).1 hlt⟩
end Go.Proofs.YtcifjnhpgblnkaaGreatDoor
/-
  DERIVED: THE SHELF's CONTRACTS AT THIS DUMP, IN PLAIN WORDS (tools/lay-plain.mjs out of 'YtcifjnhpgblnkaaGreatDoorSortTry.lean', which tools/lay-shelf.mjs wrote): THE SAME DECLARATIONS UNDER THE SAME NAMES: 'import', 'namespace', 'open', 'def', 'theorem' AND NOTHING ELSE: no command of the shelf's: FOR A HAND-IN. Each laying: the table of numbers ('.._ren') and one theorem, a field a fact of the dump's own or the kernel's comparison; each contract: ONE APPLICATION.
-/
namespace Go.Proofs.YtcifjnhpgblnkaaGreatDoor
open Go.Shelf
def sortDm_ren : Go.Shelf.Ren := ⟨fun | 6 => 44 | 15 => 114 | 14 => 113 | 28 => 181 | 29 => 182 | 20 => 173 | 21 => 174 | 22 => 175 | 23 => 176 | 24 => 177 | 25 => 178 | 26 => 179 | 27 => 180 | 46 => 231 | 47 => 232 | 48 => 233 | 49 => 234 | 50 => 235 | 57 => 283 | n => n, fun | 22 => 22 | 24 => 34 | 25 => 149 | 3 => 3 | 39 => 142 | 0 => 0 | 53 => 295 | 55 => 297 | 4 => 4 | 46 => 289 | 45 => 288 | 50 => 182 | 5 => 5 | 9 => 9 | 66 => 332 | 70 => 336 | 76 => 372 | 77 => 245 | n => n, fun | n => n⟩
theorem sortDm : Go.Proofs.SlLaysF0.n6 Tryz.prog sortDm_ren := {
  mixed := by kernel_rfl
  f6 := ⟨Tryz.f44.name, by decide, Tryz.func44.trans (congrArg some (by kernel_rfl))⟩
  f14 := ⟨Tryz.f113.name, by decide, Tryz.func113.trans (congrArg some (by kernel_rfl))⟩
  f15 := Tryz.func114.trans (congrArg some (by kernel_rfl))
  f20 := ⟨Tryz.f173.name, by decide, Tryz.func173.trans (congrArg some (by kernel_rfl))⟩
  f21 := ⟨Tryz.f174.name, by decide, Tryz.func174.trans (congrArg some (by kernel_rfl))⟩
  f22 := ⟨Tryz.f175.name, by decide, Tryz.func175.trans (congrArg some (by kernel_rfl))⟩
  f23 := ⟨Tryz.f176.name, by decide, Tryz.func176.trans (congrArg some (by kernel_rfl))⟩
  f24 := ⟨Tryz.f177.name, by decide, Tryz.func177.trans (congrArg some (by kernel_rfl))⟩
  f25 := ⟨Tryz.f178.name, by decide, Tryz.func178.trans (congrArg some (by kernel_rfl))⟩
  f26 := ⟨Tryz.f179.name, by decide, Tryz.func179.trans (congrArg some (by kernel_rfl))⟩
  f27 := ⟨Tryz.f180.name, by decide, Tryz.func180.trans (congrArg some (by kernel_rfl))⟩
  f28 := Tryz.func181.trans (congrArg some (by kernel_rfl))
  f29 := Tryz.func182.trans (congrArg some (by kernel_rfl))
  f46 := ⟨Tryz.f231.name, by decide, Tryz.func231.trans (congrArg some (by kernel_rfl))⟩
  f47 := Tryz.func232.trans (congrArg some (by kernel_rfl))
  f48 := Tryz.func233.trans (congrArg some (by kernel_rfl))
  f49 := ⟨Tryz.f234.name, by decide, Tryz.func234.trans (congrArg some (by kernel_rfl))⟩
  f50 := ⟨Tryz.f235.name, by decide, Tryz.func235.trans (congrArg some (by kernel_rfl))⟩
  f57 := ⟨Tryz.f283.name, by decide, Tryz.func283.trans (congrArg some (by kernel_rfl))⟩
  t0 := Tryz.underlying0
  a0 := Tryz.isAgg0
  z0 := Tryz.sizeOf0
  v0 := Tryz.zeroValue0
  t3 := Tryz.underlying3
  a3 := Tryz.isAgg3
  z3 := Tryz.sizeOf3
  v3 := Tryz.zeroValue3
  t4 := Tryz.underlying4
  a4 := Tryz.isAgg4
  z4 := Tryz.sizeOf4
  v4 := Tryz.zeroValue4
  t5 := Tryz.underlying5
  a5 := Tryz.isAgg5
  z5 := Tryz.sizeOf5
  v5 := Tryz.zeroValue5
  t9 := Tryz.underlying9
  a9 := Tryz.isAgg9
  z9 := Tryz.sizeOf9
  v9 := Tryz.zeroValue9
  t22 := Tryz.underlying22
  a22 := Tryz.isAgg22
  z22 := Tryz.sizeOf22
  v22 := Tryz.zeroValue22
  t25 := Tryz.underlying149
  a25 := Tryz.isAgg149
  z25 := Tryz.sizeOf149
  v25 := Tryz.zeroValue149
  t39 := Tryz.underlying142
  a39 := Tryz.isAgg142
  z39 := Tryz.sizeOf142
  v39 := Tryz.zeroValue142
  t45 := Tryz.underlying288
  a45 := Tryz.isAgg288
  z45 := Tryz.sizeOf288
  v45 := Tryz.zeroValue288
  t46 := Tryz.underlying289
  a46 := Tryz.isAgg289
  z46 := Tryz.sizeOf289
  v46 := Tryz.zeroValue289
  t50 := Tryz.underlying182
  a50 := Tryz.isAgg182
  z50 := Tryz.sizeOf182
  v50 := Tryz.zeroValue182
  t53 := Tryz.underlying295
  a53 := Tryz.isAgg295
  z53 := Tryz.sizeOf295
  v53 := Tryz.zeroValue295
  t55 := Tryz.underlying297
  a55 := Tryz.isAgg297
  z55 := Tryz.sizeOf297
  v55 := Tryz.zeroValue297
  t66 := Tryz.underlying332
  a66 := Tryz.isAgg332
  z66 := Tryz.sizeOf332
  v66 := Tryz.zeroValue332
  t70 := Tryz.underlying336
  a70 := Tryz.isAgg336
  z70 := Tryz.sizeOf336
  v70 := Tryz.zeroValue336
  t76 := Tryz.underlying372
  a76 := Tryz.isAgg372
  z76 := Tryz.sizeOf372
  v76 := Tryz.zeroValue372
  t77 := Tryz.underlying245
  a77 := Tryz.isAgg245
  z77 := Tryz.sizeOf245
  v77 := Tryz.zeroValue245 }
end Go.Proofs.YtcifjnhpgblnkaaGreatDoor
/- slot: what the run ends in. -/
namespace Go.Proofs.YtcifjnhpgblnkaaGreatDoor
open Go.RowKit
set_option linter.unusedVariables false
set_option maxRecDepth 100000
namespace SlotF
--GAMMA
def Γ : FuncId → Option Ca := fun f =>
  if f = 78 ∨ f = 42 ∨ f = 50 ∨ f = 8 ∨ f = 40 ∨ f = 47 ∨ f = 46 then some (.fn .sc)
  else if f = 7 then some (.fn (.tup [.row 32 3 true, .sc]))
  else if f = 9 then some (.fn (.tup [.row 3 1 true, .sc]))
  else if f = 44 then some (.upd false)
  else some .inl
def ann : FuncId → Nat → LoopEx := fun f r => if f = 7 ∧ r = 14 then ⟨[], [1000011], [], []⟩ else ⟨[], [], [], []⟩
--END GAMMA
theorem cmp_form (x0 x1 r : AV) : fnF Tryz.prog Γ ann 2 47 Tryz.f47 (Tryz.f47.body.getD .skip) (.nil) [x0, x1] (.sc) r = (((fEnt Tryz.prog 115) ∧
(fAllV fun _ => ((AV.binOk Go.BinOp.neq x0 x0) ∧
((fEnt Tryz.prog 115) ∧
(fAllV fun _ => ((AV.binOk Go.BinOp.neq x1 x1) ∧
((AV.isBool (AV.bin Go.BinOp.neq x0 x0)) ∧
(((isT (AV.bin Go.BinOp.neq x0 x0)) →
  ((AV.isBool (AV.bin Go.BinOp.neq x1 x1)) ∧
  (((isT (AV.bin Go.BinOp.neq x1 x1)) →
    ((AV.flat (AV.int 0)) ∧
    (fSame (AV.int 0) r))) ∧
  ((isF (AV.bin Go.BinOp.neq x1 x1)) →
    ((AV.flat (AV.int (-1))) ∧
    (fSame (AV.int (-1)) r)))))) ∧
((isF (AV.bin Go.BinOp.neq x0 x0)) →
  ((AV.isBool (AV.bin Go.BinOp.neq x1 x1)) ∧
  (((isT (AV.bin Go.BinOp.neq x1 x1)) →
    ((AV.flat (AV.int 1)) ∧
    (fSame (AV.int 1) r))) ∧
  ((isF (AV.bin Go.BinOp.neq x1 x1)) →
    ((AV.binOk Go.BinOp.lss x0 x1) ∧
    ((AV.isBool (AV.bin Go.BinOp.lss x0 x1)) ∧
    (((isT (AV.bin Go.BinOp.lss x0 x1)) →
      ((AV.flat (AV.int (-1))) ∧
      (fSame (AV.int (-1)) r))) ∧
    ((isF (AV.bin Go.BinOp.lss x0 x1)) →
      ((AV.binOk Go.BinOp.gtr x0 x1) ∧
      ((AV.isBool (AV.bin Go.BinOp.gtr x0 x1)) ∧
      (((isT (AV.bin Go.BinOp.gtr x0 x1)) →
        ((AV.flat (AV.int 1)) ∧
        (fSame (AV.int 1) r))) ∧
      ((isF (AV.bin Go.BinOp.gtr x0 x1)) →
        ((AV.flat (AV.int 0)) ∧
        (fSame (AV.int 0) r))))))))))))))))))))))) := by kernel_rfl
theorem or_form (x0 r : AV) : fnF Tryz.prog Γ ann 2 46 Tryz.f46 (Tryz.f46.body.getD .skip) (.nil) [x0] (.sc) r = (((AV.isSl x0 1) ∧
(fLoop 321 [(AV.int 0)] fun ys321 again321 =>
  ((AV.binOk Go.BinOp.lss (ys321.getD 0 default) (AV.len x0)) ∧
  ((AV.isBool (AV.bin Go.BinOp.lss (ys321.getD 0 default) (AV.len x0))) ∧
  (((isT (AV.bin Go.BinOp.lss (ys321.getD 0 default) (AV.len x0))) →
    ((AV.isSl x0 1) ∧
    ((AV.inb x0 (ys321.getD 0 default)) ∧
    ((AV.binOk Go.BinOp.neq (AV.at x0 (ys321.getD 0 default) 0) (AV.int 0)) ∧
    ((AV.isBool (AV.bin Go.BinOp.neq (AV.at x0 (ys321.getD 0 default) 0) (AV.int 0))) ∧
    (((isT (AV.bin Go.BinOp.neq (AV.at x0 (ys321.getD 0 default) 0) (AV.int 0))) →
      ((AV.flat (AV.at x0 (ys321.getD 0 default) 0)) ∧
      (fSame (AV.at x0 (ys321.getD 0 default) 0) r))) ∧
    ((isF (AV.bin Go.BinOp.neq (AV.at x0 (ys321.getD 0 default) 0) (AV.int 0))) →
      ((AV.binOk Go.BinOp.add (ys321.getD 0 default) (AV.int 1)) ∧
      (again321 [(AV.bin Go.BinOp.add (ys321.getD 0 default) (AV.int 1))]))))))))) ∧
  ((isF (AV.bin Go.BinOp.lss (ys321.getD 0 default) (AV.len x0))) →
    ((AV.flat (AV.int 0)) ∧
    (fSame (AV.int 0) r))))))))) := by kernel_rfl
theorem less_form (x0 x1 r : AV) : fnF Tryz.prog Γ ann 2 45 Tryz.f45 (Tryz.f45.body.getD .skip) (.nil) [x0, x1] (.sc) r = (((AV.isAgg x0 2) ∧
((AV.isAgg x1 2) ∧
((AV.binOk Go.BinOp.sub (AV.cel x0 1) (AV.cel x1 1)) ∧
(∃ r769 : AV, ((Fn Tryz.prog 47 [(AV.cel x0 0), (AV.cel x1 0)] Sh.sc r769) ∧
((AV.isOne (AV.bin Go.BinOp.sub (AV.cel x0 1) (AV.cel x1 1))) ∧
((AV.isOne r769) ∧
(∃ r897 : AV, ((Fn Tryz.prog 46 [(AV.mk 1 [[(AV.bin Go.BinOp.sub (AV.cel x0 1) (AV.cel x1 1))], [r769]])] Sh.sc r897) ∧
((AV.flat r897) ∧
(fSame r897 r)))))))))))) := by kernel_rfl
theorem check_form (x0 r : AV) : fnF Tryz.prog Γ ann 3 42 Tryz.f42 (Tryz.f42.body.getD .skip) (.nil) [x0] (.sc) r = (((AV.isSl x0 2) ∧
((AV.binOk Go.BinOp.gtr (AV.len x0) (AV.int 24)) ∧
((AV.isBool (AV.bin Go.BinOp.gtr (AV.len x0) (AV.int 24))) ∧
(((isT (AV.bin Go.BinOp.gtr (AV.len x0) (AV.int 24))) →
  ((AV.flat (AV.int 2)) ∧
  (fSame (AV.int 2) r))) ∧
((isF (AV.bin Go.BinOp.gtr (AV.len x0) (AV.int 24))) →
  ((AV.isSl x0 2) ∧
  (fLoop 449 [(AV.int 0)] fun ys449 again449 =>
    ((AV.binOk Go.BinOp.lss (ys449.getD 0 default) (AV.len x0)) ∧
    ((AV.isBool (AV.bin Go.BinOp.lss (ys449.getD 0 default) (AV.len x0))) ∧
    (((isT (AV.bin Go.BinOp.lss (ys449.getD 0 default) (AV.len x0))) →
      ((AV.isSl x0 2) ∧
      ((AV.inb x0 (ys449.getD 0 default)) ∧
      ((AV.isAgg (AV.atAgg x0 (ys449.getD 0 default) 0 2) 2) ∧
      ((fEnt Tryz.prog 41) ∧
      (fAllV fun _ => (∃ r1217 : AV, ((Fn Tryz.prog 78 [(AV.cel (AV.atAgg x0 (ys449.getD 0 default) 0 2) 0)] Sh.sc r1217) ∧
      ((AV.unOk Go.UnOp.not r1217) ∧
      ((AV.isBool (AV.un Go.UnOp.not r1217)) ∧
      (((isT (AV.un Go.UnOp.not r1217)) →
        ((AV.flat (AV.int 3)) ∧
        (fSame (AV.int 3) r))) ∧
      ((isF (AV.un Go.UnOp.not r1217)) →
        ((AV.binOk Go.BinOp.lss (AV.cel (AV.atAgg x0 (ys449.getD 0 default) 0 2) 1) (AV.int 0)) ∧
        ((AV.isBool (AV.bin Go.BinOp.lss (AV.cel (AV.atAgg x0 (ys449.getD 0 default) 0 2) 1) (AV.int 0))) ∧
        (((isT (AV.bin Go.BinOp.lss (AV.cel (AV.atAgg x0 (ys449.getD 0 default) 0 2) 1) (AV.int 0))) →
          ((AV.isBool (AV.bin Go.BinOp.lss (AV.cel (AV.atAgg x0 (ys449.getD 0 default) 0 2) 1) (AV.int 0))) ∧
          ((isT (AV.bin Go.BinOp.lss (AV.cel (AV.atAgg x0 (ys449.getD 0 default) 0 2) 1) (AV.int 0))) ∧
          ((AV.flat (AV.int 12)) ∧
          (fSame (AV.int 12) r))))) ∧
        ((isF (AV.bin Go.BinOp.lss (AV.cel (AV.atAgg x0 (ys449.getD 0 default) 0 2) 1) (AV.int 0))) →
          ((AV.binOk Go.BinOp.gtr (AV.cel (AV.atAgg x0 (ys449.getD 0 default) 0 2) 1) (AV.int 200000)) ∧
          ((AV.isBool (AV.bin Go.BinOp.lss (AV.cel (AV.atAgg x0 (ys449.getD 0 default) 0 2) 1) (AV.int 0))) ∧
          ((isF (AV.bin Go.BinOp.lss (AV.cel (AV.atAgg x0 (ys449.getD 0 default) 0 2) 1) (AV.int 0))) ∧
          ((AV.isBool (AV.bin Go.BinOp.gtr (AV.cel (AV.atAgg x0 (ys449.getD 0 default) 0 2) 1) (AV.int 200000))) ∧
          (((isT (AV.bin Go.BinOp.gtr (AV.cel (AV.atAgg x0 (ys449.getD 0 default) 0 2) 1) (AV.int 200000))) →
            ((AV.flat (AV.int 12)) ∧
            (fSame (AV.int 12) r))) ∧
          ((isF (AV.bin Go.BinOp.gtr (AV.cel (AV.atAgg x0 (ys449.getD 0 default) 0 2) 1) (AV.int 200000))) →
            ((AV.isSl x0 2) ∧
            ((AV.subOk x0 (AV.int 0) (ys449.getD 0 default)) ∧
            ((fEnt Tryz.prog 111) ∧
            (fAllV fun _ => ((fEnt Tryz.prog 172) ∧
            (fAllV fun _ => ((AV.isSl (AV.sub 2 x0 (AV.int 0) (ys449.getD 0 default)) 2) ∧
            (fLoop 2945 [(AV.int 0)] fun ys2945 again2945 =>
              ((AV.binOk Go.BinOp.lss (ys2945.getD 0 default) (AV.len (AV.sub 2 x0 (AV.int 0) (ys449.getD 0 default)))) ∧
              ((AV.isBool (AV.bin Go.BinOp.lss (ys2945.getD 0 default) (AV.len (AV.sub 2 x0 (AV.int 0) (ys449.getD 0 default))))) ∧
              (((isT (AV.bin Go.BinOp.lss (ys2945.getD 0 default) (AV.len (AV.sub 2 x0 (AV.int 0) (ys449.getD 0 default))))) →
                ((AV.isSl (AV.sub 2 x0 (AV.int 0) (ys449.getD 0 default)) 2) ∧
                ((AV.inb (AV.sub 2 x0 (AV.int 0) (ys449.getD 0 default)) (ys2945.getD 0 default)) ∧
                ((fEnt Tryz.prog 112) ∧
                (fAllV fun _ => ((AV.isAgg (AV.atAgg (AV.sub 2 x0 (AV.int 0) (ys449.getD 0 default)) (ys2945.getD 0 default) 0 2) 2) ∧
                ((AV.binOk Go.BinOp.eql (AV.cel (AV.atAgg (AV.sub 2 x0 (AV.int 0) (ys449.getD 0 default)) (ys2945.getD 0 default) 0 2) 0) (AV.cel (AV.atAgg x0 (ys449.getD 0 default) 0 2) 0)) ∧
                ((AV.isBool (AV.bin Go.BinOp.eql (AV.cel (AV.atAgg (AV.sub 2 x0 (AV.int 0) (ys449.getD 0 default)) (ys2945.getD 0 default) 0 2) 0) (AV.cel (AV.atAgg x0 (ys449.getD 0 default) 0 2) 0))) ∧
                (((isT (AV.bin Go.BinOp.eql (AV.cel (AV.atAgg (AV.sub 2 x0 (AV.int 0) (ys449.getD 0 default)) (ys2945.getD 0 default) 0 2) 0) (AV.cel (AV.atAgg x0 (ys449.getD 0 default) 0 2) 0))) →
                  ((AV.binOk Go.BinOp.geq (ys2945.getD 0 default) (AV.int 0)) ∧
                  ((AV.isBool (AV.bin Go.BinOp.geq (ys2945.getD 0 default) (AV.int 0))) ∧
                  (((isT (AV.bin Go.BinOp.geq (ys2945.getD 0 default) (AV.int 0))) →
                    ((AV.flat (AV.int 7)) ∧
                    (fSame (AV.int 7) r))) ∧
                  ((isF (AV.bin Go.BinOp.geq (ys2945.getD 0 default) (AV.int 0))) →
                    ((AV.binOk Go.BinOp.add (ys449.getD 0 default) (AV.int 1)) ∧
                    (again449 [(AV.bin Go.BinOp.add (ys449.getD 0 default) (AV.int 1))]))))))) ∧
                ((isF (AV.bin Go.BinOp.eql (AV.cel (AV.atAgg (AV.sub 2 x0 (AV.int 0) (ys449.getD 0 default)) (ys2945.getD 0 default) 0 2) 0) (AV.cel (AV.atAgg x0 (ys449.getD 0 default) 0 2) 0))) →
                  ((AV.binOk Go.BinOp.add (ys2945.getD 0 default) (AV.int 1)) ∧
                  (again2945 [(AV.bin Go.BinOp.add (ys2945.getD 0 default) (AV.int 1))])))))))))))) ∧
              ((isF (AV.bin Go.BinOp.lss (ys2945.getD 0 default) (AV.len (AV.sub 2 x0 (AV.int 0) (ys449.getD 0 default))))) →
                ((AV.binOk Go.BinOp.add (ys449.getD 0 default) (AV.int 1)) ∧
                (again449 [(AV.bin Go.BinOp.add (ys449.getD 0 default) (AV.int 1))])))))))))))))))))))))))))))))))))))) ∧
    ((isF (AV.bin Go.BinOp.lss (ys449.getD 0 default) (AV.len x0))) →
      ((AV.flat (AV.int 0)) ∧
      (fSame (AV.int 0) r)))))))))))))) := by kernel_rfl
theorem index_form (x0 x1 r : AV) : fnF Tryz.prog Γ ann 3 50 Tryz.f50 (Tryz.f50.body.getD .skip) (.nil) [x0, x1] (.sc) r = (((AV.isOne x1) ∧
((fEnt Tryz.prog 11) ∧
(fAllV fun _ => ((AV.isSl x0 3) ∧
(fLoop 577 [(AV.int 0)] fun ys577 again577 =>
  ((AV.binOk Go.BinOp.lss (ys577.getD 0 default) (AV.len x0)) ∧
  ((AV.isBool (AV.bin Go.BinOp.lss (ys577.getD 0 default) (AV.len x0))) ∧
  (((isT (AV.bin Go.BinOp.lss (ys577.getD 0 default) (AV.len x0))) →
    ((AV.isSl x0 3) ∧
    ((AV.inb x0 (ys577.getD 0 default)) ∧
    ((fEnt Tryz.prog 116) ∧
    (fAllV fun _ => ((AV.isAgg (AV.atAgg x0 (ys577.getD 0 default) 0 3) 3) ∧
    ((AV.binOk Go.BinOp.eql (AV.cel (AV.atAgg x0 (ys577.getD 0 default) 0 3) 0) x1) ∧
    ((AV.isBool (AV.bin Go.BinOp.eql (AV.cel (AV.atAgg x0 (ys577.getD 0 default) 0 3) 0) x1)) ∧
    (((isT (AV.bin Go.BinOp.eql (AV.cel (AV.atAgg x0 (ys577.getD 0 default) 0 3) 0) x1)) →
      ((AV.flat (ys577.getD 0 default)) ∧
      (fSame (ys577.getD 0 default) r))) ∧
    ((isF (AV.bin Go.BinOp.eql (AV.cel (AV.atAgg x0 (ys577.getD 0 default) 0 3) 0) x1)) →
      ((AV.binOk Go.BinOp.add (ys577.getD 0 default) (AV.int 1)) ∧
      (again577 [(AV.bin Go.BinOp.add (ys577.getD 0 default) (AV.int 1))])))))))))))) ∧
  ((isF (AV.bin Go.BinOp.lss (ys577.getD 0 default) (AV.len x0))) →
    ((AV.flat (AV.int (-1))) ∧
    (fSame (AV.int (-1)) r)))))))))))) := by kernel_rfl
theorem fcheck_form (x0 r : AV) : fnF Tryz.prog Γ ann 3 8 Tryz.f8 (Tryz.f8.body.getD .skip) (.nil) [x0] (.sc) r = (((AV.isSl x0 3) ∧
((AV.binOk Go.BinOp.gtr (AV.len x0) (AV.int 256)) ∧
((AV.isBool (AV.bin Go.BinOp.gtr (AV.len x0) (AV.int 256))) ∧
(((isT (AV.bin Go.BinOp.gtr (AV.len x0) (AV.int 256))) →
  ((AV.flat (AV.int 2)) ∧
  (fSame (AV.int 2) r))) ∧
((isF (AV.bin Go.BinOp.gtr (AV.len x0) (AV.int 256))) →
  ((AV.isSl x0 3) ∧
  (fLoop 449 [(AV.int 0)] fun ys449 again449 =>
    ((AV.binOk Go.BinOp.lss (ys449.getD 0 default) (AV.len x0)) ∧
    ((AV.isBool (AV.bin Go.BinOp.lss (ys449.getD 0 default) (AV.len x0))) ∧
    (((isT (AV.bin Go.BinOp.lss (ys449.getD 0 default) (AV.len x0))) →
      ((AV.isSl x0 3) ∧
      ((AV.inb x0 (ys449.getD 0 default)) ∧
      ((AV.isAgg (AV.atAgg x0 (ys449.getD 0 default) 0 3) 3) ∧
      ((AV.binOk Go.BinOp.lss (AV.cel (AV.atAgg x0 (ys449.getD 0 default) 0 3) 0) (AV.int 0)) ∧
      ((AV.isBool (AV.bin Go.BinOp.lss (AV.cel (AV.atAgg x0 (ys449.getD 0 default) 0 3) 0) (AV.int 0))) ∧
      (((isT (AV.bin Go.BinOp.lss (AV.cel (AV.atAgg x0 (ys449.getD 0 default) 0 3) 0) (AV.int 0))) →
        ((AV.isBool (AV.bin Go.BinOp.lss (AV.cel (AV.atAgg x0 (ys449.getD 0 default) 0 3) 0) (AV.int 0))) ∧
        ((isT (AV.bin Go.BinOp.lss (AV.cel (AV.atAgg x0 (ys449.getD 0 default) 0 3) 0) (AV.int 0))) ∧
        ((AV.flat (AV.int 4)) ∧
        (fSame (AV.int 4) r))))) ∧
      ((isF (AV.bin Go.BinOp.lss (AV.cel (AV.atAgg x0 (ys449.getD 0 default) 0 3) 0) (AV.int 0))) →
        ((AV.binOk Go.BinOp.gtr (AV.cel (AV.atAgg x0 (ys449.getD 0 default) 0 3) 1) (AV.int 200000)) ∧
        ((AV.isBool (AV.bin Go.BinOp.lss (AV.cel (AV.atAgg x0 (ys449.getD 0 default) 0 3) 0) (AV.int 0))) ∧
        ((isF (AV.bin Go.BinOp.lss (AV.cel (AV.atAgg x0 (ys449.getD 0 default) 0 3) 0) (AV.int 0))) ∧
        ((AV.isBool (AV.bin Go.BinOp.gtr (AV.cel (AV.atAgg x0 (ys449.getD 0 default) 0 3) 1) (AV.int 200000))) ∧
        (((isT (AV.bin Go.BinOp.gtr (AV.cel (AV.atAgg x0 (ys449.getD 0 default) 0 3) 1) (AV.int 200000))) →
          ((AV.isBool (AV.bin Go.BinOp.gtr (AV.cel (AV.atAgg x0 (ys449.getD 0 default) 0 3) 1) (AV.int 200000))) ∧
          ((isT (AV.bin Go.BinOp.gtr (AV.cel (AV.atAgg x0 (ys449.getD 0 default) 0 3) 1) (AV.int 200000))) ∧
          ((AV.flat (AV.int 4)) ∧
          (fSame (AV.int 4) r))))) ∧
        ((isF (AV.bin Go.BinOp.gtr (AV.cel (AV.atAgg x0 (ys449.getD 0 default) 0 3) 1) (AV.int 200000))) →
          ((AV.binOk Go.BinOp.geq (AV.cel (AV.atAgg x0 (ys449.getD 0 default) 0 3) 0) (AV.cel (AV.atAgg x0 (ys449.getD 0 default) 0 3) 1)) ∧
          ((AV.isBool (AV.bin Go.BinOp.gtr (AV.cel (AV.atAgg x0 (ys449.getD 0 default) 0 3) 1) (AV.int 200000))) ∧
          ((isF (AV.bin Go.BinOp.gtr (AV.cel (AV.atAgg x0 (ys449.getD 0 default) 0 3) 1) (AV.int 200000))) ∧
          ((AV.isBool (AV.bin Go.BinOp.geq (AV.cel (AV.atAgg x0 (ys449.getD 0 default) 0 3) 0) (AV.cel (AV.atAgg x0 (ys449.getD 0 default) 0 3) 1))) ∧
          (((isT (AV.bin Go.BinOp.geq (AV.cel (AV.atAgg x0 (ys449.getD 0 default) 0 3) 0) (AV.cel (AV.atAgg x0 (ys449.getD 0 default) 0 3) 1))) →
            ((AV.isBool (AV.bin Go.BinOp.geq (AV.cel (AV.atAgg x0 (ys449.getD 0 default) 0 3) 0) (AV.cel (AV.atAgg x0 (ys449.getD 0 default) 0 3) 1))) ∧
            ((isT (AV.bin Go.BinOp.geq (AV.cel (AV.atAgg x0 (ys449.getD 0 default) 0 3) 0) (AV.cel (AV.atAgg x0 (ys449.getD 0 default) 0 3) 1))) ∧
            ((AV.flat (AV.int 4)) ∧
            (fSame (AV.int 4) r))))) ∧
          ((isF (AV.bin Go.BinOp.geq (AV.cel (AV.atAgg x0 (ys449.getD 0 default) 0 3) 0) (AV.cel (AV.atAgg x0 (ys449.getD 0 default) 0 3) 1))) →
            ((AV.binOk Go.BinOp.lss (AV.cel (AV.atAgg x0 (ys449.getD 0 default) 0 3) 2) (AV.int 0)) ∧
            ((AV.isBool (AV.bin Go.BinOp.geq (AV.cel (AV.atAgg x0 (ys449.getD 0 default) 0 3) 0) (AV.cel (AV.atAgg x0 (ys449.getD 0 default) 0 3) 1))) ∧
            ((isF (AV.bin Go.BinOp.geq (AV.cel (AV.atAgg x0 (ys449.getD 0 default) 0 3) 0) (AV.cel (AV.atAgg x0 (ys449.getD 0 default) 0 3) 1))) ∧
            ((AV.isBool (AV.bin Go.BinOp.lss (AV.cel (AV.atAgg x0 (ys449.getD 0 default) 0 3) 2) (AV.int 0))) ∧
            (((isT (AV.bin Go.BinOp.lss (AV.cel (AV.atAgg x0 (ys449.getD 0 default) 0 3) 2) (AV.int 0))) →
              ((AV.isBool (AV.bin Go.BinOp.lss (AV.cel (AV.atAgg x0 (ys449.getD 0 default) 0 3) 2) (AV.int 0))) ∧
              ((isT (AV.bin Go.BinOp.lss (AV.cel (AV.atAgg x0 (ys449.getD 0 default) 0 3) 2) (AV.int 0))) ∧
              ((AV.flat (AV.int 4)) ∧
              (fSame (AV.int 4) r))))) ∧
            ((isF (AV.bin Go.BinOp.lss (AV.cel (AV.atAgg x0 (ys449.getD 0 default) 0 3) 2) (AV.int 0))) →
              ((AV.binOk Go.BinOp.gtr (AV.cel (AV.atAgg x0 (ys449.getD 0 default) 0 3) 2) (AV.int 24)) ∧
              ((AV.isBool (AV.bin Go.BinOp.lss (AV.cel (AV.atAgg x0 (ys449.getD 0 default) 0 3) 2) (AV.int 0))) ∧
              ((isF (AV.bin Go.BinOp.lss (AV.cel (AV.atAgg x0 (ys449.getD 0 default) 0 3) 2) (AV.int 0))) ∧
              ((AV.isBool (AV.bin Go.BinOp.gtr (AV.cel (AV.atAgg x0 (ys449.getD 0 default) 0 3) 2) (AV.int 24))) ∧
              (((isT (AV.bin Go.BinOp.gtr (AV.cel (AV.atAgg x0 (ys449.getD 0 default) 0 3) 2) (AV.int 24))) →
                ((AV.flat (AV.int 4)) ∧
                (fSame (AV.int 4) r))) ∧
              ((isF (AV.bin Go.BinOp.gtr (AV.cel (AV.atAgg x0 (ys449.getD 0 default) 0 3) 2) (AV.int 24))) →
                ((AV.binOk Go.BinOp.gtr (ys449.getD 0 default) (AV.int 0)) ∧
                ((AV.isBool (AV.bin Go.BinOp.gtr (ys449.getD 0 default) (AV.int 0))) ∧
                (((isT (AV.bin Go.BinOp.gtr (ys449.getD 0 default) (AV.int 0))) →
                  ((AV.binOk Go.BinOp.sub (ys449.getD 0 default) (AV.int 1)) ∧
                  ((AV.isSl x0 3) ∧
                  ((AV.inb x0 (AV.bin Go.BinOp.sub (ys449.getD 0 default) (AV.int 1))) ∧
                  ((AV.binOk Go.BinOp.lss (AV.cel (AV.atAgg x0 (ys449.getD 0 default) 0 3) 0) (AV.at x0 (AV.bin Go.BinOp.sub (ys449.getD 0 default) (AV.int 1)) 1)) ∧
                  ((AV.isBool (AV.bin Go.BinOp.gtr (ys449.getD 0 default) (AV.int 0))) ∧
                  ((isT (AV.bin Go.BinOp.gtr (ys449.getD 0 default) (AV.int 0))) ∧
                  ((AV.isBool (AV.bin Go.BinOp.lss (AV.cel (AV.atAgg x0 (ys449.getD 0 default) 0 3) 0) (AV.at x0 (AV.bin Go.BinOp.sub (ys449.getD 0 default) (AV.int 1)) 1))) ∧
                  (((isT (AV.bin Go.BinOp.lss (AV.cel (AV.atAgg x0 (ys449.getD 0 default) 0 3) 0) (AV.at x0 (AV.bin Go.BinOp.sub (ys449.getD 0 default) (AV.int 1)) 1))) →
                    ((AV.flat (AV.int 12)) ∧
                    (fSame (AV.int 12) r))) ∧
                  ((isF (AV.bin Go.BinOp.lss (AV.cel (AV.atAgg x0 (ys449.getD 0 default) 0 3) 0) (AV.at x0 (AV.bin Go.BinOp.sub (ys449.getD 0 default) (AV.int 1)) 1))) →
                    ((AV.binOk Go.BinOp.add (ys449.getD 0 default) (AV.int 1)) ∧
                    (again449 [(AV.bin Go.BinOp.add (ys449.getD 0 default) (AV.int 1))])))))))))))) ∧
                ((isF (AV.bin Go.BinOp.gtr (ys449.getD 0 default) (AV.int 0))) →
                  ((AV.isBool (AV.bin Go.BinOp.gtr (ys449.getD 0 default) (AV.int 0))) ∧
                  ((isF (AV.bin Go.BinOp.gtr (ys449.getD 0 default) (AV.int 0))) ∧
                  ((AV.binOk Go.BinOp.add (ys449.getD 0 default) (AV.int 1)) ∧
                  (again449 [(AV.bin Go.BinOp.add (ys449.getD 0 default) (AV.int 1))])))))))))))))))))))))))))))))))))))))))) ∧
    ((isF (AV.bin Go.BinOp.lss (ys449.getD 0 default) (AV.len x0))) →
      ((AV.flat (AV.int 0)) ∧
      (fSame (AV.int 0) r)))))))))))))) := by kernel_rfl
theorem assign_form (x0 x1 x2 r : AV) : fnF Tryz.prog Γ ann 3 7 Tryz.f7 (Tryz.f7.body.getD .skip) ((.both .nil (.both .nil (.both .nil (.both (.both (.both (.both (.both (.both (.both .nil (.f .nil)) (.f .nil)) (.t .nil)) .nil) (.both (.both (.both .nil (.f .nil)) (.f .nil)) (.t .nil))) .nil) (.both (.both (.both (.both (.both (.both .nil (.f .nil)) (.f .nil)) (.t .nil)) .nil) (.both (.both (.both .nil (.f .nil)) (.f .nil)) (.t .nil))) .nil)))))) [x0, x1, x2] (.tup [.row 32 3 true, .sc]) r = (((fEnt Tryz.prog 41) ∧
(fAllV fun _ => (∃ r385 : AV, ((Fn Tryz.prog 78 [x0] Sh.sc r385) ∧
((AV.unOk Go.UnOp.not r385) ∧
((AV.isBool (AV.un Go.UnOp.not r385)) ∧
(((isT (AV.un Go.UnOp.not r385)) →
  ((AV.flatS (AV.mk 3 [])) ∧
  ((AV.flat (AV.int 3)) ∧
  (fSame (AV.tup [(AV.mk 3 []), (AV.int 3)]) r)))) ∧
((isF (AV.un Go.UnOp.not r385)) →
  (∃ r705 : AV, ((Fn Tryz.prog 42 [x1] Sh.sc r705) ∧
  ((AV.binOk Go.BinOp.neq r705 (AV.int 0)) ∧
  ((AV.isBool (AV.bin Go.BinOp.neq r705 (AV.int 0))) ∧
  (((isT (AV.bin Go.BinOp.neq r705 (AV.int 0))) →
    ((AV.flatS (AV.mk 3 [])) ∧
    ((AV.flat r705) ∧
    (fSame (AV.tup [(AV.mk 3 []), r705]) r)))) ∧
  ((isF (AV.bin Go.BinOp.neq r705 (AV.int 0))) →
    (∃ r1025 : AV, ((Fn Tryz.prog 8 [x2] Sh.sc r1025) ∧
    ((AV.binOk Go.BinOp.neq r1025 (AV.int 0)) ∧
    ((AV.isBool (AV.bin Go.BinOp.neq r1025 (AV.int 0))) ∧
    (((isT (AV.bin Go.BinOp.neq r1025 (AV.int 0))) →
      ((AV.flatS (AV.mk 3 [])) ∧
      ((AV.flat r1025) ∧
      (fSame (AV.tup [(AV.mk 3 []), r1025]) r)))) ∧
    ((isF (AV.bin Go.BinOp.neq r1025 (AV.int 0))) →
      ((fEnt Tryz.prog 43) ∧
      (fAllV fun _ => (fNil x1
        (∃ r1857 : AV, ((FnU Tryz.prog 44 34 2 (AV.mk 2 []) [(AV.mkClo 45 [])] false r1857) ∧
        ((AV.isSl x2 3) ∧
        ((AV.mkOk (AV.len x2) 8) ∧
        ((AV.isI64 (AV.len x2)) ∧
        ((sameNum (AV.len x2) (AV.len x2)) ∧
        (fLoop 2433 [(AV.int 0), (AV.mk 3 []), (AV.rep 1 (AV.len x2) [(AV.int 0)])] fun ys2433 again2433 =>
          ((AV.binOk Go.BinOp.lss (ys2433.getD 0 default) (AV.len r1857)) ∧
          ((AV.isBool (AV.bin Go.BinOp.lss (ys2433.getD 0 default) (AV.len r1857))) ∧
          (((isT (AV.bin Go.BinOp.lss (ys2433.getD 0 default) (AV.len r1857))) →
            ((AV.inb r1857 (ys2433.getD 0 default)) ∧
            ((AV.inb r1857 (ys2433.getD 0 default)) ∧
            ((AV.isAgg (AV.atAgg r1857 (ys2433.getD 0 default) 0 2) 2) ∧
            ((fEnt Tryz.prog 48) ∧
            (fAllV fun _ => ((AV.isSl x2 3) ∧
            (fLoop 3201 [(AV.int 0)] fun ys3201 again3201 =>
              ((AV.binOk Go.BinOp.lss (ys3201.getD 0 default) (AV.len x2)) ∧
              ((AV.isBool (AV.bin Go.BinOp.lss (ys3201.getD 0 default) (AV.len x2))) ∧
              (((isT (AV.bin Go.BinOp.lss (ys3201.getD 0 default) (AV.len x2))) →
                ((AV.isSl x2 3) ∧
                ((AV.inb x2 (ys3201.getD 0 default)) ∧
                ((fEnt Tryz.prog 49) ∧
                (fAllV fun _ => ((AV.isAgg (AV.atAgg x2 (ys3201.getD 0 default) 0 3) 3) ∧
                ((AV.binOk Go.BinOp.gtr (AV.cel (AV.atAgg x2 (ys3201.getD 0 default) 0 3) 1) (AV.cel (AV.atAgg r1857 (ys2433.getD 0 default) 0 2) 1)) ∧
                ((AV.isBool (AV.bin Go.BinOp.gtr (AV.cel (AV.atAgg x2 (ys3201.getD 0 default) 0 3) 1) (AV.cel (AV.atAgg r1857 (ys2433.getD 0 default) 0 2) 1))) ∧
                (((isT (AV.bin Go.BinOp.gtr (AV.cel (AV.atAgg x2 (ys3201.getD 0 default) 0 3) 1) (AV.cel (AV.atAgg r1857 (ys2433.getD 0 default) 0 2) 1))) →
                  (fLoop 4673 [(ys3201.getD 0 default)] fun ys4673 again4673 =>
                    ((AV.binOk Go.BinOp.geq (ys4673.getD 0 default) (AV.int 0)) ∧
                    ((AV.isBool (AV.bin Go.BinOp.geq (ys4673.getD 0 default) (AV.int 0))) ∧
                    (((isT (AV.bin Go.BinOp.geq (ys4673.getD 0 default) (AV.int 0))) →
                      ((AV.isSl x2 3) ∧
                      ((AV.binOk Go.BinOp.lss (ys4673.getD 0 default) (AV.len x2)) ∧
                      ((AV.isBool (AV.bin Go.BinOp.geq (ys4673.getD 0 default) (AV.int 0))) ∧
                      ((isT (AV.bin Go.BinOp.geq (ys4673.getD 0 default) (AV.int 0))) ∧
                      ((AV.isBool (AV.bin Go.BinOp.lss (ys4673.getD 0 default) (AV.len x2))) ∧
                      (((isT (AV.bin Go.BinOp.lss (ys4673.getD 0 default) (AV.len x2))) →
                        ((AV.inb (ys2433.getD 2 default) (ys4673.getD 0 default)) ∧
                        ((AV.inb (ys2433.getD 2 default) (ys4673.getD 0 default)) ∧
                        ((AV.isSl x2 3) ∧
                        ((AV.inb x2 (ys4673.getD 0 default)) ∧
                        ((AV.binOk Go.BinOp.geq (AV.at (ys2433.getD 2 default) (ys4673.getD 0 default) 0) (AV.at x2 (ys4673.getD 0 default) 2)) ∧
                        ((AV.isBool (AV.bin Go.BinOp.lss (ys4673.getD 0 default) (AV.len x2))) ∧
                        ((isT (AV.bin Go.BinOp.lss (ys4673.getD 0 default) (AV.len x2))) ∧
                        ((AV.isBool (AV.bin Go.BinOp.geq (AV.at (ys2433.getD 2 default) (ys4673.getD 0 default) 0) (AV.at x2 (ys4673.getD 0 default) 2))) ∧
                        (((isT (AV.bin Go.BinOp.geq (AV.at (ys2433.getD 2 default) (ys4673.getD 0 default) 0) (AV.at x2 (ys4673.getD 0 default) 2))) →
                          ((AV.binOk Go.BinOp.add (ys4673.getD 0 default) (AV.int 1)) ∧
                          (again4673 [(AV.bin Go.BinOp.add (ys4673.getD 0 default) (AV.int 1))]))) ∧
                        ((isF (AV.bin Go.BinOp.geq (AV.at (ys2433.getD 2 default) (ys4673.getD 0 default) 0) (AV.at x2 (ys4673.getD 0 default) 2))) →
                          ((AV.binOk Go.BinOp.lss (ys4673.getD 0 default) (AV.int 0)) ∧
                          ((AV.isBool (AV.bin Go.BinOp.lss (ys4673.getD 0 default) (AV.int 0))) ∧
                          ((isF (AV.bin Go.BinOp.lss (ys4673.getD 0 default) (AV.int 0))) ∧
                          ((AV.isSl x2 3) ∧
                          ((AV.binOk Go.BinOp.eql (ys4673.getD 0 default) (AV.len x2)) ∧
                          ((AV.isBool (AV.bin Go.BinOp.lss (ys4673.getD 0 default) (AV.int 0))) ∧
                          ((isF (AV.bin Go.BinOp.lss (ys4673.getD 0 default) (AV.int 0))) ∧
                          ((AV.isBool (AV.bin Go.BinOp.eql (ys4673.getD 0 default) (AV.len x2))) ∧
                          (((isT (AV.bin Go.BinOp.eql (ys4673.getD 0 default) (AV.len x2))) →
                            ((AV.flatS (AV.mk 3 [])) ∧
                            ((AV.flat (AV.int 18)) ∧
                            (fSame (AV.tup [(AV.mk 3 []), (AV.int 18)]) r)))) ∧
                          ((isF (AV.bin Go.BinOp.eql (ys4673.getD 0 default) (AV.len x2))) →
                            ((AV.inb (ys2433.getD 2 default) (ys4673.getD 0 default)) ∧
                            ((AV.inb (ys2433.getD 2 default) (ys4673.getD 0 default)) ∧
                            ((AV.binOk Go.BinOp.add (AV.at (ys2433.getD 2 default) (ys4673.getD 0 default) 0) (AV.int 1)) ∧
                            ((AV.inb (ys2433.getD 2 default) (ys4673.getD 0 default)) ∧
                            ((AV.isOne (AV.bin Go.BinOp.add (AV.at (ys2433.getD 2 default) (ys4673.getD 0 default) 0) (AV.int 1))) ∧
                            ((AV.inb (ys2433.getD 2 default) (ys4673.getD 0 default)) ∧
                            ((AV.isSl x2 3) ∧
                            ((AV.inb x2 (ys4673.getD 0 default)) ∧
                            ((AV.isInt (AV.cel (AV.atAgg r1857 (ys2433.getD 0 default) 0 2) 1)) ∧
                            ((AV.isInt (AV.at x2 (ys4673.getD 0 default) 0)) ∧
                            ((AV.isOne (AV.cel (AV.atAgg r1857 (ys2433.getD 0 default) 0 2) 0)) ∧
                            ((AV.isOne x0) ∧
                            ((AV.isOne (AV.mx (AV.cel (AV.atAgg r1857 (ys2433.getD 0 default) 0 2) 1) (AV.at x2 (ys4673.getD 0 default) 0))) ∧
                            ((AV.room (ys2433.getD 1 default) (AV.mk 3 [[(AV.cel (AV.atAgg r1857 (ys2433.getD 0 default) 0 2) 0), x0, (AV.mx (AV.cel (AV.atAgg r1857 (ys2433.getD 0 default) 0 2) 1) (AV.at x2 (ys4673.getD 0 default) 0))]]) 40) ∧
                            ((AV.binOk Go.BinOp.add (ys2433.getD 0 default) (AV.int 1)) ∧
                            (again2433 [(AV.bin Go.BinOp.add (ys2433.getD 0 default) (AV.int 1)), (AV.app 3 (ys2433.getD 1 default) (AV.mk 3 [[(AV.cel (AV.atAgg r1857 (ys2433.getD 0 default) 0 2) 0), x0, (AV.mx (AV.cel (AV.atAgg r1857 (ys2433.getD 0 default) 0 2) 1) (AV.at x2 (ys4673.getD 0 default) 0))]])), (AV.setEl (ys2433.getD 2 default) (ys4673.getD 0 default) 0 [(AV.bin Go.BinOp.add (AV.at (ys2433.getD 2 default) (ys4673.getD 0 default) 0) (AV.int 1))])]))))))))))))))))))))))))))))))))))))) ∧
                      ((isF (AV.bin Go.BinOp.lss (ys4673.getD 0 default) (AV.len x2))) →
                        ((AV.isBool (AV.bin Go.BinOp.lss (ys4673.getD 0 default) (AV.len x2))) ∧
                        ((isF (AV.bin Go.BinOp.lss (ys4673.getD 0 default) (AV.len x2))) ∧
                        ((AV.binOk Go.BinOp.lss (ys4673.getD 0 default) (AV.int 0)) ∧
                        ((AV.isBool (AV.bin Go.BinOp.lss (ys4673.getD 0 default) (AV.int 0))) ∧
                        ((isF (AV.bin Go.BinOp.lss (ys4673.getD 0 default) (AV.int 0))) ∧
                        ((AV.isSl x2 3) ∧
                        ((AV.binOk Go.BinOp.eql (ys4673.getD 0 default) (AV.len x2)) ∧
                        ((AV.isBool (AV.bin Go.BinOp.lss (ys4673.getD 0 default) (AV.int 0))) ∧
                        ((isF (AV.bin Go.BinOp.lss (ys4673.getD 0 default) (AV.int 0))) ∧
                        ((AV.isBool (AV.bin Go.BinOp.eql (ys4673.getD 0 default) (AV.len x2))) ∧
                        (((isT (AV.bin Go.BinOp.eql (ys4673.getD 0 default) (AV.len x2))) →
                          ((AV.flatS (AV.mk 3 [])) ∧
                          ((AV.flat (AV.int 18)) ∧
                          (fSame (AV.tup [(AV.mk 3 []), (AV.int 18)]) r)))) ∧
                        ((isF (AV.bin Go.BinOp.eql (ys4673.getD 0 default) (AV.len x2))) →
                          ((AV.inb (ys2433.getD 2 default) (ys4673.getD 0 default)) ∧
                          ((AV.inb (ys2433.getD 2 default) (ys4673.getD 0 default)) ∧
                          ((AV.binOk Go.BinOp.add (AV.at (ys2433.getD 2 default) (ys4673.getD 0 default) 0) (AV.int 1)) ∧
                          ((AV.inb (ys2433.getD 2 default) (ys4673.getD 0 default)) ∧
                          ((AV.isOne (AV.bin Go.BinOp.add (AV.at (ys2433.getD 2 default) (ys4673.getD 0 default) 0) (AV.int 1))) ∧
                          ((AV.inb (ys2433.getD 2 default) (ys4673.getD 0 default)) ∧
                          ((AV.isSl x2 3) ∧
                          ((AV.inb x2 (ys4673.getD 0 default)) ∧
                          ((AV.isInt (AV.cel (AV.atAgg r1857 (ys2433.getD 0 default) 0 2) 1)) ∧
                          ((AV.isInt (AV.at x2 (ys4673.getD 0 default) 0)) ∧
                          ((AV.isOne (AV.cel (AV.atAgg r1857 (ys2433.getD 0 default) 0 2) 0)) ∧
                          ((AV.isOne x0) ∧
                          ((AV.isOne (AV.mx (AV.cel (AV.atAgg r1857 (ys2433.getD 0 default) 0 2) 1) (AV.at x2 (ys4673.getD 0 default) 0))) ∧
                          ((AV.room (ys2433.getD 1 default) (AV.mk 3 [[(AV.cel (AV.atAgg r1857 (ys2433.getD 0 default) 0 2) 0), x0, (AV.mx (AV.cel (AV.atAgg r1857 (ys2433.getD 0 default) 0 2) 1) (AV.at x2 (ys4673.getD 0 default) 0))]]) 40) ∧
                          ((AV.binOk Go.BinOp.add (ys2433.getD 0 default) (AV.int 1)) ∧
                          (again2433 [(AV.bin Go.BinOp.add (ys2433.getD 0 default) (AV.int 1)), (AV.app 3 (ys2433.getD 1 default) (AV.mk 3 [[(AV.cel (AV.atAgg r1857 (ys2433.getD 0 default) 0 2) 0), x0, (AV.mx (AV.cel (AV.atAgg r1857 (ys2433.getD 0 default) 0 2) 1) (AV.at x2 (ys4673.getD 0 default) 0))]])), (AV.setEl (ys2433.getD 2 default) (ys4673.getD 0 default) 0 [(AV.bin Go.BinOp.add (AV.at (ys2433.getD 2 default) (ys4673.getD 0 default) 0) (AV.int 1))])])))))))))))))))))))))))))))))))))))) ∧
                    ((isF (AV.bin Go.BinOp.geq (ys4673.getD 0 default) (AV.int 0))) →
                      ((AV.isBool (AV.bin Go.BinOp.geq (ys4673.getD 0 default) (AV.int 0))) ∧
                      ((isF (AV.bin Go.BinOp.geq (ys4673.getD 0 default) (AV.int 0))) ∧
                      ((AV.binOk Go.BinOp.lss (ys4673.getD 0 default) (AV.int 0)) ∧
                      ((AV.isBool (AV.bin Go.BinOp.lss (ys4673.getD 0 default) (AV.int 0))) ∧
                      ((isT (AV.bin Go.BinOp.lss (ys4673.getD 0 default) (AV.int 0))) ∧
                      ((AV.isBool (AV.bin Go.BinOp.lss (ys4673.getD 0 default) (AV.int 0))) ∧
                      ((isT (AV.bin Go.BinOp.lss (ys4673.getD 0 default) (AV.int 0))) ∧
                      ((AV.flatS (AV.mk 3 [])) ∧
                      ((AV.flat (AV.int 18)) ∧
                      (fSame (AV.tup [(AV.mk 3 []), (AV.int 18)]) r)))))))))))))))) ∧
                ((isF (AV.bin Go.BinOp.gtr (AV.cel (AV.atAgg x2 (ys3201.getD 0 default) 0 3) 1) (AV.cel (AV.atAgg r1857 (ys2433.getD 0 default) 0 2) 1))) →
                  ((AV.binOk Go.BinOp.add (ys3201.getD 0 default) (AV.int 1)) ∧
                  (again3201 [(AV.bin Go.BinOp.add (ys3201.getD 0 default) (AV.int 1))])))))))))))) ∧
              ((isF (AV.bin Go.BinOp.lss (ys3201.getD 0 default) (AV.len x2))) →
                (fLoop 3457 [(AV.int (-1))] fun ys3457 again3457 =>
                  ((AV.binOk Go.BinOp.geq (ys3457.getD 0 default) (AV.int 0)) ∧
                  ((AV.isBool (AV.bin Go.BinOp.geq (ys3457.getD 0 default) (AV.int 0))) ∧
                  (((isT (AV.bin Go.BinOp.geq (ys3457.getD 0 default) (AV.int 0))) →
                    ((AV.isSl x2 3) ∧
                    ((AV.binOk Go.BinOp.lss (ys3457.getD 0 default) (AV.len x2)) ∧
                    ((AV.isBool (AV.bin Go.BinOp.geq (ys3457.getD 0 default) (AV.int 0))) ∧
                    ((isT (AV.bin Go.BinOp.geq (ys3457.getD 0 default) (AV.int 0))) ∧
                    ((AV.isBool (AV.bin Go.BinOp.lss (ys3457.getD 0 default) (AV.len x2))) ∧
                    (((isT (AV.bin Go.BinOp.lss (ys3457.getD 0 default) (AV.len x2))) →
                      ((AV.inb (ys2433.getD 2 default) (ys3457.getD 0 default)) ∧
                      ((AV.inb (ys2433.getD 2 default) (ys3457.getD 0 default)) ∧
                      ((AV.isSl x2 3) ∧
                      ((AV.inb x2 (ys3457.getD 0 default)) ∧
                      ((AV.binOk Go.BinOp.geq (AV.at (ys2433.getD 2 default) (ys3457.getD 0 default) 0) (AV.at x2 (ys3457.getD 0 default) 2)) ∧
                      ((AV.isBool (AV.bin Go.BinOp.lss (ys3457.getD 0 default) (AV.len x2))) ∧
                      ((isT (AV.bin Go.BinOp.lss (ys3457.getD 0 default) (AV.len x2))) ∧
                      ((AV.isBool (AV.bin Go.BinOp.geq (AV.at (ys2433.getD 2 default) (ys3457.getD 0 default) 0) (AV.at x2 (ys3457.getD 0 default) 2))) ∧
                      (((isT (AV.bin Go.BinOp.geq (AV.at (ys2433.getD 2 default) (ys3457.getD 0 default) 0) (AV.at x2 (ys3457.getD 0 default) 2))) →
                        ((AV.binOk Go.BinOp.add (ys3457.getD 0 default) (AV.int 1)) ∧
                        (again3457 [(AV.bin Go.BinOp.add (ys3457.getD 0 default) (AV.int 1))]))) ∧
                      ((isF (AV.bin Go.BinOp.geq (AV.at (ys2433.getD 2 default) (ys3457.getD 0 default) 0) (AV.at x2 (ys3457.getD 0 default) 2))) →
                        ((AV.binOk Go.BinOp.lss (ys3457.getD 0 default) (AV.int 0)) ∧
                        ((AV.isBool (AV.bin Go.BinOp.lss (ys3457.getD 0 default) (AV.int 0))) ∧
                        ((isF (AV.bin Go.BinOp.lss (ys3457.getD 0 default) (AV.int 0))) ∧
                        ((AV.isSl x2 3) ∧
                        ((AV.binOk Go.BinOp.eql (ys3457.getD 0 default) (AV.len x2)) ∧
                        ((AV.isBool (AV.bin Go.BinOp.lss (ys3457.getD 0 default) (AV.int 0))) ∧
                        ((isF (AV.bin Go.BinOp.lss (ys3457.getD 0 default) (AV.int 0))) ∧
                        ((AV.isBool (AV.bin Go.BinOp.eql (ys3457.getD 0 default) (AV.len x2))) ∧
                        (((isT (AV.bin Go.BinOp.eql (ys3457.getD 0 default) (AV.len x2))) →
                          ((AV.flatS (AV.mk 3 [])) ∧
                          ((AV.flat (AV.int 18)) ∧
                          (fSame (AV.tup [(AV.mk 3 []), (AV.int 18)]) r)))) ∧
                        ((isF (AV.bin Go.BinOp.eql (ys3457.getD 0 default) (AV.len x2))) →
                          ((AV.inb (ys2433.getD 2 default) (ys3457.getD 0 default)) ∧
                          ((AV.inb (ys2433.getD 2 default) (ys3457.getD 0 default)) ∧
                          ((AV.binOk Go.BinOp.add (AV.at (ys2433.getD 2 default) (ys3457.getD 0 default) 0) (AV.int 1)) ∧
                          ((AV.inb (ys2433.getD 2 default) (ys3457.getD 0 default)) ∧
                          ((AV.isOne (AV.bin Go.BinOp.add (AV.at (ys2433.getD 2 default) (ys3457.getD 0 default) 0) (AV.int 1))) ∧
                          ((AV.inb (ys2433.getD 2 default) (ys3457.getD 0 default)) ∧
                          ((AV.isSl x2 3) ∧
                          ((AV.inb x2 (ys3457.getD 0 default)) ∧
                          ((AV.isInt (AV.cel (AV.atAgg r1857 (ys2433.getD 0 default) 0 2) 1)) ∧
                          ((AV.isInt (AV.at x2 (ys3457.getD 0 default) 0)) ∧
                          ((AV.isOne (AV.cel (AV.atAgg r1857 (ys2433.getD 0 default) 0 2) 0)) ∧
                          ((AV.isOne x0) ∧
                          ((AV.isOne (AV.mx (AV.cel (AV.atAgg r1857 (ys2433.getD 0 default) 0 2) 1) (AV.at x2 (ys3457.getD 0 default) 0))) ∧
                          ((AV.room (ys2433.getD 1 default) (AV.mk 3 [[(AV.cel (AV.atAgg r1857 (ys2433.getD 0 default) 0 2) 0), x0, (AV.mx (AV.cel (AV.atAgg r1857 (ys2433.getD 0 default) 0 2) 1) (AV.at x2 (ys3457.getD 0 default) 0))]]) 40) ∧
                          ((AV.binOk Go.BinOp.add (ys2433.getD 0 default) (AV.int 1)) ∧
                          (again2433 [(AV.bin Go.BinOp.add (ys2433.getD 0 default) (AV.int 1)), (AV.app 3 (ys2433.getD 1 default) (AV.mk 3 [[(AV.cel (AV.atAgg r1857 (ys2433.getD 0 default) 0 2) 0), x0, (AV.mx (AV.cel (AV.atAgg r1857 (ys2433.getD 0 default) 0 2) 1) (AV.at x2 (ys3457.getD 0 default) 0))]])), (AV.setEl (ys2433.getD 2 default) (ys3457.getD 0 default) 0 [(AV.bin Go.BinOp.add (AV.at (ys2433.getD 2 default) (ys3457.getD 0 default) 0) (AV.int 1))])]))))))))))))))))))))))))))))))))))))) ∧
                    ((isF (AV.bin Go.BinOp.lss (ys3457.getD 0 default) (AV.len x2))) →
                      ((AV.isBool (AV.bin Go.BinOp.lss (ys3457.getD 0 default) (AV.len x2))) ∧
                      ((isF (AV.bin Go.BinOp.lss (ys3457.getD 0 default) (AV.len x2))) ∧
                      ((AV.binOk Go.BinOp.lss (ys3457.getD 0 default) (AV.int 0)) ∧
                      ((AV.isBool (AV.bin Go.BinOp.lss (ys3457.getD 0 default) (AV.int 0))) ∧
                      ((isF (AV.bin Go.BinOp.lss (ys3457.getD 0 default) (AV.int 0))) ∧
                      ((AV.isSl x2 3) ∧
                      ((AV.binOk Go.BinOp.eql (ys3457.getD 0 default) (AV.len x2)) ∧
                      ((AV.isBool (AV.bin Go.BinOp.lss (ys3457.getD 0 default) (AV.int 0))) ∧
                      ((isF (AV.bin Go.BinOp.lss (ys3457.getD 0 default) (AV.int 0))) ∧
                      ((AV.isBool (AV.bin Go.BinOp.eql (ys3457.getD 0 default) (AV.len x2))) ∧
                      (((isT (AV.bin Go.BinOp.eql (ys3457.getD 0 default) (AV.len x2))) →
                        ((AV.flatS (AV.mk 3 [])) ∧
                        ((AV.flat (AV.int 18)) ∧
                        (fSame (AV.tup [(AV.mk 3 []), (AV.int 18)]) r)))) ∧
                      ((isF (AV.bin Go.BinOp.eql (ys3457.getD 0 default) (AV.len x2))) →
                        ((AV.inb (ys2433.getD 2 default) (ys3457.getD 0 default)) ∧
                        ((AV.inb (ys2433.getD 2 default) (ys3457.getD 0 default)) ∧
                        ((AV.binOk Go.BinOp.add (AV.at (ys2433.getD 2 default) (ys3457.getD 0 default) 0) (AV.int 1)) ∧
                        ((AV.inb (ys2433.getD 2 default) (ys3457.getD 0 default)) ∧
                        ((AV.isOne (AV.bin Go.BinOp.add (AV.at (ys2433.getD 2 default) (ys3457.getD 0 default) 0) (AV.int 1))) ∧
                        ((AV.inb (ys2433.getD 2 default) (ys3457.getD 0 default)) ∧
                        ((AV.isSl x2 3) ∧
                        ((AV.inb x2 (ys3457.getD 0 default)) ∧
                        ((AV.isInt (AV.cel (AV.atAgg r1857 (ys2433.getD 0 default) 0 2) 1)) ∧
                        ((AV.isInt (AV.at x2 (ys3457.getD 0 default) 0)) ∧
                        ((AV.isOne (AV.cel (AV.atAgg r1857 (ys2433.getD 0 default) 0 2) 0)) ∧
                        ((AV.isOne x0) ∧
                        ((AV.isOne (AV.mx (AV.cel (AV.atAgg r1857 (ys2433.getD 0 default) 0 2) 1) (AV.at x2 (ys3457.getD 0 default) 0))) ∧
                        ((AV.room (ys2433.getD 1 default) (AV.mk 3 [[(AV.cel (AV.atAgg r1857 (ys2433.getD 0 default) 0 2) 0), x0, (AV.mx (AV.cel (AV.atAgg r1857 (ys2433.getD 0 default) 0 2) 1) (AV.at x2 (ys3457.getD 0 default) 0))]]) 40) ∧
                        ((AV.binOk Go.BinOp.add (ys2433.getD 0 default) (AV.int 1)) ∧
                        (again2433 [(AV.bin Go.BinOp.add (ys2433.getD 0 default) (AV.int 1)), (AV.app 3 (ys2433.getD 1 default) (AV.mk 3 [[(AV.cel (AV.atAgg r1857 (ys2433.getD 0 default) 0 2) 0), x0, (AV.mx (AV.cel (AV.atAgg r1857 (ys2433.getD 0 default) 0 2) 1) (AV.at x2 (ys3457.getD 0 default) 0))]])), (AV.setEl (ys2433.getD 2 default) (ys3457.getD 0 default) 0 [(AV.bin Go.BinOp.add (AV.at (ys2433.getD 2 default) (ys3457.getD 0 default) 0) (AV.int 1))])])))))))))))))))))))))))))))))))))))) ∧
                  ((isF (AV.bin Go.BinOp.geq (ys3457.getD 0 default) (AV.int 0))) →
                    ((AV.isBool (AV.bin Go.BinOp.geq (ys3457.getD 0 default) (AV.int 0))) ∧
                    ((isF (AV.bin Go.BinOp.geq (ys3457.getD 0 default) (AV.int 0))) ∧
                    ((AV.binOk Go.BinOp.lss (ys3457.getD 0 default) (AV.int 0)) ∧
                    ((AV.isBool (AV.bin Go.BinOp.lss (ys3457.getD 0 default) (AV.int 0))) ∧
                    ((isT (AV.bin Go.BinOp.lss (ys3457.getD 0 default) (AV.int 0))) ∧
                    ((AV.isBool (AV.bin Go.BinOp.lss (ys3457.getD 0 default) (AV.int 0))) ∧
                    ((isT (AV.bin Go.BinOp.lss (ys3457.getD 0 default) (AV.int 0))) ∧
                    ((AV.flatS (AV.mk 3 [])) ∧
                    ((AV.flat (AV.int 18)) ∧
                    (fSame (AV.tup [(AV.mk 3 []), (AV.int 18)]) r))))))))))))))))))))))))))) ∧
          ((isF (AV.bin Go.BinOp.lss (ys2433.getD 0 default) (AV.len r1857))) →
            ((AV.flatS (ys2433.getD 1 default)) ∧
            ((AV.flat (AV.int 0)) ∧
            (fSame (AV.tup [(ys2433.getD 1 default), (AV.int 0)]) r))))))))))))))
        ((AV.isSl x1 2) ∧
        ((AV.room (AV.mk 2 []) x1 24) ∧
        (∃ r2049 : AV, ((FnU Tryz.prog 44 34 2 (AV.app 2 (AV.mk 2 []) x1) [(AV.mkClo 45 [])] false r2049) ∧
        ((AV.isSl x2 3) ∧
        ((AV.mkOk (AV.len x2) 8) ∧
        ((AV.isI64 (AV.len x2)) ∧
        ((sameNum (AV.len x2) (AV.len x2)) ∧
        (fLoop 2625 [(AV.int 0), (AV.mk 3 []), (AV.rep 1 (AV.len x2) [(AV.int 0)])] fun ys2625 again2625 =>
          ((AV.binOk Go.BinOp.lss (ys2625.getD 0 default) (AV.len r2049)) ∧
          ((AV.isBool (AV.bin Go.BinOp.lss (ys2625.getD 0 default) (AV.len r2049))) ∧
          (((isT (AV.bin Go.BinOp.lss (ys2625.getD 0 default) (AV.len r2049))) →
            ((AV.inb r2049 (ys2625.getD 0 default)) ∧
            ((AV.inb r2049 (ys2625.getD 0 default)) ∧
            ((AV.isAgg (AV.atAgg r2049 (ys2625.getD 0 default) 0 2) 2) ∧
            ((fEnt Tryz.prog 48) ∧
            (fAllV fun _ => ((AV.isSl x2 3) ∧
            (fLoop 3393 [(AV.int 0)] fun ys3393 again3393 =>
              ((AV.binOk Go.BinOp.lss (ys3393.getD 0 default) (AV.len x2)) ∧
              ((AV.isBool (AV.bin Go.BinOp.lss (ys3393.getD 0 default) (AV.len x2))) ∧
              (((isT (AV.bin Go.BinOp.lss (ys3393.getD 0 default) (AV.len x2))) →
                ((AV.isSl x2 3) ∧
                ((AV.inb x2 (ys3393.getD 0 default)) ∧
                ((fEnt Tryz.prog 49) ∧
                (fAllV fun _ => ((AV.isAgg (AV.atAgg x2 (ys3393.getD 0 default) 0 3) 3) ∧
                ((AV.binOk Go.BinOp.gtr (AV.cel (AV.atAgg x2 (ys3393.getD 0 default) 0 3) 1) (AV.cel (AV.atAgg r2049 (ys2625.getD 0 default) 0 2) 1)) ∧
                ((AV.isBool (AV.bin Go.BinOp.gtr (AV.cel (AV.atAgg x2 (ys3393.getD 0 default) 0 3) 1) (AV.cel (AV.atAgg r2049 (ys2625.getD 0 default) 0 2) 1))) ∧
                (((isT (AV.bin Go.BinOp.gtr (AV.cel (AV.atAgg x2 (ys3393.getD 0 default) 0 3) 1) (AV.cel (AV.atAgg r2049 (ys2625.getD 0 default) 0 2) 1))) →
                  (fLoop 4865 [(ys3393.getD 0 default)] fun ys4865 again4865 =>
                    ((AV.binOk Go.BinOp.geq (ys4865.getD 0 default) (AV.int 0)) ∧
                    ((AV.isBool (AV.bin Go.BinOp.geq (ys4865.getD 0 default) (AV.int 0))) ∧
                    (((isT (AV.bin Go.BinOp.geq (ys4865.getD 0 default) (AV.int 0))) →
                      ((AV.isSl x2 3) ∧
                      ((AV.binOk Go.BinOp.lss (ys4865.getD 0 default) (AV.len x2)) ∧
                      ((AV.isBool (AV.bin Go.BinOp.geq (ys4865.getD 0 default) (AV.int 0))) ∧
                      ((isT (AV.bin Go.BinOp.geq (ys4865.getD 0 default) (AV.int 0))) ∧
                      ((AV.isBool (AV.bin Go.BinOp.lss (ys4865.getD 0 default) (AV.len x2))) ∧
                      (((isT (AV.bin Go.BinOp.lss (ys4865.getD 0 default) (AV.len x2))) →
                        ((AV.inb (ys2625.getD 2 default) (ys4865.getD 0 default)) ∧
                        ((AV.inb (ys2625.getD 2 default) (ys4865.getD 0 default)) ∧
                        ((AV.isSl x2 3) ∧
                        ((AV.inb x2 (ys4865.getD 0 default)) ∧
                        ((AV.binOk Go.BinOp.geq (AV.at (ys2625.getD 2 default) (ys4865.getD 0 default) 0) (AV.at x2 (ys4865.getD 0 default) 2)) ∧
                        ((AV.isBool (AV.bin Go.BinOp.lss (ys4865.getD 0 default) (AV.len x2))) ∧
                        ((isT (AV.bin Go.BinOp.lss (ys4865.getD 0 default) (AV.len x2))) ∧
                        ((AV.isBool (AV.bin Go.BinOp.geq (AV.at (ys2625.getD 2 default) (ys4865.getD 0 default) 0) (AV.at x2 (ys4865.getD 0 default) 2))) ∧
                        (((isT (AV.bin Go.BinOp.geq (AV.at (ys2625.getD 2 default) (ys4865.getD 0 default) 0) (AV.at x2 (ys4865.getD 0 default) 2))) →
                          ((AV.binOk Go.BinOp.add (ys4865.getD 0 default) (AV.int 1)) ∧
                          (again4865 [(AV.bin Go.BinOp.add (ys4865.getD 0 default) (AV.int 1))]))) ∧
                        ((isF (AV.bin Go.BinOp.geq (AV.at (ys2625.getD 2 default) (ys4865.getD 0 default) 0) (AV.at x2 (ys4865.getD 0 default) 2))) →
                          ((AV.binOk Go.BinOp.lss (ys4865.getD 0 default) (AV.int 0)) ∧
                          ((AV.isBool (AV.bin Go.BinOp.lss (ys4865.getD 0 default) (AV.int 0))) ∧
                          ((isF (AV.bin Go.BinOp.lss (ys4865.getD 0 default) (AV.int 0))) ∧
                          ((AV.isSl x2 3) ∧
                          ((AV.binOk Go.BinOp.eql (ys4865.getD 0 default) (AV.len x2)) ∧
                          ((AV.isBool (AV.bin Go.BinOp.lss (ys4865.getD 0 default) (AV.int 0))) ∧
                          ((isF (AV.bin Go.BinOp.lss (ys4865.getD 0 default) (AV.int 0))) ∧
                          ((AV.isBool (AV.bin Go.BinOp.eql (ys4865.getD 0 default) (AV.len x2))) ∧
                          (((isT (AV.bin Go.BinOp.eql (ys4865.getD 0 default) (AV.len x2))) →
                            ((AV.flatS (AV.mk 3 [])) ∧
                            ((AV.flat (AV.int 18)) ∧
                            (fSame (AV.tup [(AV.mk 3 []), (AV.int 18)]) r)))) ∧
                          ((isF (AV.bin Go.BinOp.eql (ys4865.getD 0 default) (AV.len x2))) →
                            ((AV.inb (ys2625.getD 2 default) (ys4865.getD 0 default)) ∧
                            ((AV.inb (ys2625.getD 2 default) (ys4865.getD 0 default)) ∧
                            ((AV.binOk Go.BinOp.add (AV.at (ys2625.getD 2 default) (ys4865.getD 0 default) 0) (AV.int 1)) ∧
                            ((AV.inb (ys2625.getD 2 default) (ys4865.getD 0 default)) ∧
                            ((AV.isOne (AV.bin Go.BinOp.add (AV.at (ys2625.getD 2 default) (ys4865.getD 0 default) 0) (AV.int 1))) ∧
                            ((AV.inb (ys2625.getD 2 default) (ys4865.getD 0 default)) ∧
                            ((AV.isSl x2 3) ∧
                            ((AV.inb x2 (ys4865.getD 0 default)) ∧
                            ((AV.isInt (AV.cel (AV.atAgg r2049 (ys2625.getD 0 default) 0 2) 1)) ∧
                            ((AV.isInt (AV.at x2 (ys4865.getD 0 default) 0)) ∧
                            ((AV.isOne (AV.cel (AV.atAgg r2049 (ys2625.getD 0 default) 0 2) 0)) ∧
                            ((AV.isOne x0) ∧
                            ((AV.isOne (AV.mx (AV.cel (AV.atAgg r2049 (ys2625.getD 0 default) 0 2) 1) (AV.at x2 (ys4865.getD 0 default) 0))) ∧
                            ((AV.room (ys2625.getD 1 default) (AV.mk 3 [[(AV.cel (AV.atAgg r2049 (ys2625.getD 0 default) 0 2) 0), x0, (AV.mx (AV.cel (AV.atAgg r2049 (ys2625.getD 0 default) 0 2) 1) (AV.at x2 (ys4865.getD 0 default) 0))]]) 40) ∧
                            ((AV.binOk Go.BinOp.add (ys2625.getD 0 default) (AV.int 1)) ∧
                            (again2625 [(AV.bin Go.BinOp.add (ys2625.getD 0 default) (AV.int 1)), (AV.app 3 (ys2625.getD 1 default) (AV.mk 3 [[(AV.cel (AV.atAgg r2049 (ys2625.getD 0 default) 0 2) 0), x0, (AV.mx (AV.cel (AV.atAgg r2049 (ys2625.getD 0 default) 0 2) 1) (AV.at x2 (ys4865.getD 0 default) 0))]])), (AV.setEl (ys2625.getD 2 default) (ys4865.getD 0 default) 0 [(AV.bin Go.BinOp.add (AV.at (ys2625.getD 2 default) (ys4865.getD 0 default) 0) (AV.int 1))])]))))))))))))))))))))))))))))))))))))) ∧
                      ((isF (AV.bin Go.BinOp.lss (ys4865.getD 0 default) (AV.len x2))) →
                        ((AV.isBool (AV.bin Go.BinOp.lss (ys4865.getD 0 default) (AV.len x2))) ∧
                        ((isF (AV.bin Go.BinOp.lss (ys4865.getD 0 default) (AV.len x2))) ∧
                        ((AV.binOk Go.BinOp.lss (ys4865.getD 0 default) (AV.int 0)) ∧
                        ((AV.isBool (AV.bin Go.BinOp.lss (ys4865.getD 0 default) (AV.int 0))) ∧
                        ((isF (AV.bin Go.BinOp.lss (ys4865.getD 0 default) (AV.int 0))) ∧
                        ((AV.isSl x2 3) ∧
                        ((AV.binOk Go.BinOp.eql (ys4865.getD 0 default) (AV.len x2)) ∧
                        ((AV.isBool (AV.bin Go.BinOp.lss (ys4865.getD 0 default) (AV.int 0))) ∧
                        ((isF (AV.bin Go.BinOp.lss (ys4865.getD 0 default) (AV.int 0))) ∧
                        ((AV.isBool (AV.bin Go.BinOp.eql (ys4865.getD 0 default) (AV.len x2))) ∧
                        (((isT (AV.bin Go.BinOp.eql (ys4865.getD 0 default) (AV.len x2))) →
                          ((AV.flatS (AV.mk 3 [])) ∧
                          ((AV.flat (AV.int 18)) ∧
                          (fSame (AV.tup [(AV.mk 3 []), (AV.int 18)]) r)))) ∧
                        ((isF (AV.bin Go.BinOp.eql (ys4865.getD 0 default) (AV.len x2))) →
                          ((AV.inb (ys2625.getD 2 default) (ys4865.getD 0 default)) ∧
                          ((AV.inb (ys2625.getD 2 default) (ys4865.getD 0 default)) ∧
                          ((AV.binOk Go.BinOp.add (AV.at (ys2625.getD 2 default) (ys4865.getD 0 default) 0) (AV.int 1)) ∧
                          ((AV.inb (ys2625.getD 2 default) (ys4865.getD 0 default)) ∧
                          ((AV.isOne (AV.bin Go.BinOp.add (AV.at (ys2625.getD 2 default) (ys4865.getD 0 default) 0) (AV.int 1))) ∧
                          ((AV.inb (ys2625.getD 2 default) (ys4865.getD 0 default)) ∧
                          ((AV.isSl x2 3) ∧
                          ((AV.inb x2 (ys4865.getD 0 default)) ∧
                          ((AV.isInt (AV.cel (AV.atAgg r2049 (ys2625.getD 0 default) 0 2) 1)) ∧
                          ((AV.isInt (AV.at x2 (ys4865.getD 0 default) 0)) ∧
                          ((AV.isOne (AV.cel (AV.atAgg r2049 (ys2625.getD 0 default) 0 2) 0)) ∧
                          ((AV.isOne x0) ∧
                          ((AV.isOne (AV.mx (AV.cel (AV.atAgg r2049 (ys2625.getD 0 default) 0 2) 1) (AV.at x2 (ys4865.getD 0 default) 0))) ∧
                          ((AV.room (ys2625.getD 1 default) (AV.mk 3 [[(AV.cel (AV.atAgg r2049 (ys2625.getD 0 default) 0 2) 0), x0, (AV.mx (AV.cel (AV.atAgg r2049 (ys2625.getD 0 default) 0 2) 1) (AV.at x2 (ys4865.getD 0 default) 0))]]) 40) ∧
                          ((AV.binOk Go.BinOp.add (ys2625.getD 0 default) (AV.int 1)) ∧
                          (again2625 [(AV.bin Go.BinOp.add (ys2625.getD 0 default) (AV.int 1)), (AV.app 3 (ys2625.getD 1 default) (AV.mk 3 [[(AV.cel (AV.atAgg r2049 (ys2625.getD 0 default) 0 2) 0), x0, (AV.mx (AV.cel (AV.atAgg r2049 (ys2625.getD 0 default) 0 2) 1) (AV.at x2 (ys4865.getD 0 default) 0))]])), (AV.setEl (ys2625.getD 2 default) (ys4865.getD 0 default) 0 [(AV.bin Go.BinOp.add (AV.at (ys2625.getD 2 default) (ys4865.getD 0 default) 0) (AV.int 1))])])))))))))))))))))))))))))))))))))))) ∧
                    ((isF (AV.bin Go.BinOp.geq (ys4865.getD 0 default) (AV.int 0))) →
                      ((AV.isBool (AV.bin Go.BinOp.geq (ys4865.getD 0 default) (AV.int 0))) ∧
                      ((isF (AV.bin Go.BinOp.geq (ys4865.getD 0 default) (AV.int 0))) ∧
                      ((AV.binOk Go.BinOp.lss (ys4865.getD 0 default) (AV.int 0)) ∧
                      ((AV.isBool (AV.bin Go.BinOp.lss (ys4865.getD 0 default) (AV.int 0))) ∧
                      ((isT (AV.bin Go.BinOp.lss (ys4865.getD 0 default) (AV.int 0))) ∧
                      ((AV.isBool (AV.bin Go.BinOp.lss (ys4865.getD 0 default) (AV.int 0))) ∧
                      ((isT (AV.bin Go.BinOp.lss (ys4865.getD 0 default) (AV.int 0))) ∧
                      ((AV.flatS (AV.mk 3 [])) ∧
                      ((AV.flat (AV.int 18)) ∧
                      (fSame (AV.tup [(AV.mk 3 []), (AV.int 18)]) r)))))))))))))))) ∧
                ((isF (AV.bin Go.BinOp.gtr (AV.cel (AV.atAgg x2 (ys3393.getD 0 default) 0 3) 1) (AV.cel (AV.atAgg r2049 (ys2625.getD 0 default) 0 2) 1))) →
                  ((AV.binOk Go.BinOp.add (ys3393.getD 0 default) (AV.int 1)) ∧
                  (again3393 [(AV.bin Go.BinOp.add (ys3393.getD 0 default) (AV.int 1))])))))))))))) ∧
              ((isF (AV.bin Go.BinOp.lss (ys3393.getD 0 default) (AV.len x2))) →
                (fLoop 3649 [(AV.int (-1))] fun ys3649 again3649 =>
                  ((AV.binOk Go.BinOp.geq (ys3649.getD 0 default) (AV.int 0)) ∧
                  ((AV.isBool (AV.bin Go.BinOp.geq (ys3649.getD 0 default) (AV.int 0))) ∧
                  (((isT (AV.bin Go.BinOp.geq (ys3649.getD 0 default) (AV.int 0))) →
                    ((AV.isSl x2 3) ∧
                    ((AV.binOk Go.BinOp.lss (ys3649.getD 0 default) (AV.len x2)) ∧
                    ((AV.isBool (AV.bin Go.BinOp.geq (ys3649.getD 0 default) (AV.int 0))) ∧
                    ((isT (AV.bin Go.BinOp.geq (ys3649.getD 0 default) (AV.int 0))) ∧
                    ((AV.isBool (AV.bin Go.BinOp.lss (ys3649.getD 0 default) (AV.len x2))) ∧
                    (((isT (AV.bin Go.BinOp.lss (ys3649.getD 0 default) (AV.len x2))) →
                      ((AV.inb (ys2625.getD 2 default) (ys3649.getD 0 default)) ∧
                      ((AV.inb (ys2625.getD 2 default) (ys3649.getD 0 default)) ∧
                      ((AV.isSl x2 3) ∧
                      ((AV.inb x2 (ys3649.getD 0 default)) ∧
                      ((AV.binOk Go.BinOp.geq (AV.at (ys2625.getD 2 default) (ys3649.getD 0 default) 0) (AV.at x2 (ys3649.getD 0 default) 2)) ∧
                      ((AV.isBool (AV.bin Go.BinOp.lss (ys3649.getD 0 default) (AV.len x2))) ∧
                      ((isT (AV.bin Go.BinOp.lss (ys3649.getD 0 default) (AV.len x2))) ∧
                      ((AV.isBool (AV.bin Go.BinOp.geq (AV.at (ys2625.getD 2 default) (ys3649.getD 0 default) 0) (AV.at x2 (ys3649.getD 0 default) 2))) ∧
                      (((isT (AV.bin Go.BinOp.geq (AV.at (ys2625.getD 2 default) (ys3649.getD 0 default) 0) (AV.at x2 (ys3649.getD 0 default) 2))) →
                        ((AV.binOk Go.BinOp.add (ys3649.getD 0 default) (AV.int 1)) ∧
                        (again3649 [(AV.bin Go.BinOp.add (ys3649.getD 0 default) (AV.int 1))]))) ∧
                      ((isF (AV.bin Go.BinOp.geq (AV.at (ys2625.getD 2 default) (ys3649.getD 0 default) 0) (AV.at x2 (ys3649.getD 0 default) 2))) →
                        ((AV.binOk Go.BinOp.lss (ys3649.getD 0 default) (AV.int 0)) ∧
                        ((AV.isBool (AV.bin Go.BinOp.lss (ys3649.getD 0 default) (AV.int 0))) ∧
                        ((isF (AV.bin Go.BinOp.lss (ys3649.getD 0 default) (AV.int 0))) ∧
                        ((AV.isSl x2 3) ∧
                        ((AV.binOk Go.BinOp.eql (ys3649.getD 0 default) (AV.len x2)) ∧
                        ((AV.isBool (AV.bin Go.BinOp.lss (ys3649.getD 0 default) (AV.int 0))) ∧
                        ((isF (AV.bin Go.BinOp.lss (ys3649.getD 0 default) (AV.int 0))) ∧
                        ((AV.isBool (AV.bin Go.BinOp.eql (ys3649.getD 0 default) (AV.len x2))) ∧
                        (((isT (AV.bin Go.BinOp.eql (ys3649.getD 0 default) (AV.len x2))) →
                          ((AV.flatS (AV.mk 3 [])) ∧
                          ((AV.flat (AV.int 18)) ∧
                          (fSame (AV.tup [(AV.mk 3 []), (AV.int 18)]) r)))) ∧
                        ((isF (AV.bin Go.BinOp.eql (ys3649.getD 0 default) (AV.len x2))) →
                          ((AV.inb (ys2625.getD 2 default) (ys3649.getD 0 default)) ∧
                          ((AV.inb (ys2625.getD 2 default) (ys3649.getD 0 default)) ∧
                          ((AV.binOk Go.BinOp.add (AV.at (ys2625.getD 2 default) (ys3649.getD 0 default) 0) (AV.int 1)) ∧
                          ((AV.inb (ys2625.getD 2 default) (ys3649.getD 0 default)) ∧
                          ((AV.isOne (AV.bin Go.BinOp.add (AV.at (ys2625.getD 2 default) (ys3649.getD 0 default) 0) (AV.int 1))) ∧
                          ((AV.inb (ys2625.getD 2 default) (ys3649.getD 0 default)) ∧
                          ((AV.isSl x2 3) ∧
                          ((AV.inb x2 (ys3649.getD 0 default)) ∧
                          ((AV.isInt (AV.cel (AV.atAgg r2049 (ys2625.getD 0 default) 0 2) 1)) ∧
                          ((AV.isInt (AV.at x2 (ys3649.getD 0 default) 0)) ∧
                          ((AV.isOne (AV.cel (AV.atAgg r2049 (ys2625.getD 0 default) 0 2) 0)) ∧
                          ((AV.isOne x0) ∧
                          ((AV.isOne (AV.mx (AV.cel (AV.atAgg r2049 (ys2625.getD 0 default) 0 2) 1) (AV.at x2 (ys3649.getD 0 default) 0))) ∧
                          ((AV.room (ys2625.getD 1 default) (AV.mk 3 [[(AV.cel (AV.atAgg r2049 (ys2625.getD 0 default) 0 2) 0), x0, (AV.mx (AV.cel (AV.atAgg r2049 (ys2625.getD 0 default) 0 2) 1) (AV.at x2 (ys3649.getD 0 default) 0))]]) 40) ∧
                          ((AV.binOk Go.BinOp.add (ys2625.getD 0 default) (AV.int 1)) ∧
                          (again2625 [(AV.bin Go.BinOp.add (ys2625.getD 0 default) (AV.int 1)), (AV.app 3 (ys2625.getD 1 default) (AV.mk 3 [[(AV.cel (AV.atAgg r2049 (ys2625.getD 0 default) 0 2) 0), x0, (AV.mx (AV.cel (AV.atAgg r2049 (ys2625.getD 0 default) 0 2) 1) (AV.at x2 (ys3649.getD 0 default) 0))]])), (AV.setEl (ys2625.getD 2 default) (ys3649.getD 0 default) 0 [(AV.bin Go.BinOp.add (AV.at (ys2625.getD 2 default) (ys3649.getD 0 default) 0) (AV.int 1))])]))))))))))))))))))))))))))))))))))))) ∧
                    ((isF (AV.bin Go.BinOp.lss (ys3649.getD 0 default) (AV.len x2))) →
                      ((AV.isBool (AV.bin Go.BinOp.lss (ys3649.getD 0 default) (AV.len x2))) ∧
                      ((isF (AV.bin Go.BinOp.lss (ys3649.getD 0 default) (AV.len x2))) ∧
                      ((AV.binOk Go.BinOp.lss (ys3649.getD 0 default) (AV.int 0)) ∧
                      ((AV.isBool (AV.bin Go.BinOp.lss (ys3649.getD 0 default) (AV.int 0))) ∧
                      ((isF (AV.bin Go.BinOp.lss (ys3649.getD 0 default) (AV.int 0))) ∧
                      ((AV.isSl x2 3) ∧
                      ((AV.binOk Go.BinOp.eql (ys3649.getD 0 default) (AV.len x2)) ∧
                      ((AV.isBool (AV.bin Go.BinOp.lss (ys3649.getD 0 default) (AV.int 0))) ∧
                      ((isF (AV.bin Go.BinOp.lss (ys3649.getD 0 default) (AV.int 0))) ∧
                      ((AV.isBool (AV.bin Go.BinOp.eql (ys3649.getD 0 default) (AV.len x2))) ∧
                      (((isT (AV.bin Go.BinOp.eql (ys3649.getD 0 default) (AV.len x2))) →
                        ((AV.flatS (AV.mk 3 [])) ∧
                        ((AV.flat (AV.int 18)) ∧
                        (fSame (AV.tup [(AV.mk 3 []), (AV.int 18)]) r)))) ∧
                      ((isF (AV.bin Go.BinOp.eql (ys3649.getD 0 default) (AV.len x2))) →
                        ((AV.inb (ys2625.getD 2 default) (ys3649.getD 0 default)) ∧
                        ((AV.inb (ys2625.getD 2 default) (ys3649.getD 0 default)) ∧
                        ((AV.binOk Go.BinOp.add (AV.at (ys2625.getD 2 default) (ys3649.getD 0 default) 0) (AV.int 1)) ∧
                        ((AV.inb (ys2625.getD 2 default) (ys3649.getD 0 default)) ∧
                        ((AV.isOne (AV.bin Go.BinOp.add (AV.at (ys2625.getD 2 default) (ys3649.getD 0 default) 0) (AV.int 1))) ∧
                        ((AV.inb (ys2625.getD 2 default) (ys3649.getD 0 default)) ∧
                        ((AV.isSl x2 3) ∧
                        ((AV.inb x2 (ys3649.getD 0 default)) ∧
                        ((AV.isInt (AV.cel (AV.atAgg r2049 (ys2625.getD 0 default) 0 2) 1)) ∧
                        ((AV.isInt (AV.at x2 (ys3649.getD 0 default) 0)) ∧
                        ((AV.isOne (AV.cel (AV.atAgg r2049 (ys2625.getD 0 default) 0 2) 0)) ∧
                        ((AV.isOne x0) ∧
                        ((AV.isOne (AV.mx (AV.cel (AV.atAgg r2049 (ys2625.getD 0 default) 0 2) 1) (AV.at x2 (ys3649.getD 0 default) 0))) ∧
                        ((AV.room (ys2625.getD 1 default) (AV.mk 3 [[(AV.cel (AV.atAgg r2049 (ys2625.getD 0 default) 0 2) 0), x0, (AV.mx (AV.cel (AV.atAgg r2049 (ys2625.getD 0 default) 0 2) 1) (AV.at x2 (ys3649.getD 0 default) 0))]]) 40) ∧
                        ((AV.binOk Go.BinOp.add (ys2625.getD 0 default) (AV.int 1)) ∧
                        (again2625 [(AV.bin Go.BinOp.add (ys2625.getD 0 default) (AV.int 1)), (AV.app 3 (ys2625.getD 1 default) (AV.mk 3 [[(AV.cel (AV.atAgg r2049 (ys2625.getD 0 default) 0 2) 0), x0, (AV.mx (AV.cel (AV.atAgg r2049 (ys2625.getD 0 default) 0 2) 1) (AV.at x2 (ys3649.getD 0 default) 0))]])), (AV.setEl (ys2625.getD 2 default) (ys3649.getD 0 default) 0 [(AV.bin Go.BinOp.add (AV.at (ys2625.getD 2 default) (ys3649.getD 0 default) 0) (AV.int 1))])])))))))))))))))))))))))))))))))))))) ∧
                  ((isF (AV.bin Go.BinOp.geq (ys3649.getD 0 default) (AV.int 0))) →
                    ((AV.isBool (AV.bin Go.BinOp.geq (ys3649.getD 0 default) (AV.int 0))) ∧
                    ((isF (AV.bin Go.BinOp.geq (ys3649.getD 0 default) (AV.int 0))) ∧
                    ((AV.binOk Go.BinOp.lss (ys3649.getD 0 default) (AV.int 0)) ∧
                    ((AV.isBool (AV.bin Go.BinOp.lss (ys3649.getD 0 default) (AV.int 0))) ∧
                    ((isT (AV.bin Go.BinOp.lss (ys3649.getD 0 default) (AV.int 0))) ∧
                    ((AV.isBool (AV.bin Go.BinOp.lss (ys3649.getD 0 default) (AV.int 0))) ∧
                    ((isT (AV.bin Go.BinOp.lss (ys3649.getD 0 default) (AV.int 0))) ∧
                    ((AV.flatS (AV.mk 3 [])) ∧
                    ((AV.flat (AV.int 18)) ∧
                    (fSame (AV.tup [(AV.mk 3 []), (AV.int 18)]) r))))))))))))))))))))))))))) ∧
          ((isF (AV.bin Go.BinOp.lss (ys2625.getD 0 default) (AV.len r2049))) →
            ((AV.flatS (ys2625.getD 1 default)) ∧
            ((AV.flat (AV.int 0)) ∧
            (fSame (AV.tup [(ys2625.getD 1 default), (AV.int 0)]) r)))))))))))))))))))))))))))))))))))))))) := by kernel_rfl
theorem delays_form (x0 x1 r : AV) : fnF Tryz.prog Γ ann 3 9 Tryz.f9 (Tryz.f9.body.getD .skip) (.nil) [x0, x1] (.tup [.row 3 1 true, .sc]) r = ((∃ r193 : AV, ((Fn Tryz.prog 42 [x0] Sh.sc r193) ∧
((AV.binOk Go.BinOp.neq r193 (AV.int 0)) ∧
((AV.isBool (AV.bin Go.BinOp.neq r193 (AV.int 0))) ∧
(((isT (AV.bin Go.BinOp.neq r193 (AV.int 0))) →
  ((AV.flatS (AV.mk 1 [])) ∧
  ((AV.flat r193) ∧
  (fSame (AV.tup [(AV.mk 1 []), r193]) r)))) ∧
((isF (AV.bin Go.BinOp.neq r193 (AV.int 0))) →
  ((AV.isSl x1 3) ∧
  ((AV.binOk Go.BinOp.gtr (AV.len x1) (AV.int 24)) ∧
  ((AV.isBool (AV.bin Go.BinOp.gtr (AV.len x1) (AV.int 24))) ∧
  (((isT (AV.bin Go.BinOp.gtr (AV.len x1) (AV.int 24))) →
    ((AV.flatS (AV.mk 1 [])) ∧
    ((AV.flat (AV.int 2)) ∧
    (fSame (AV.tup [(AV.mk 1 []), (AV.int 2)]) r)))) ∧
  ((isF (AV.bin Go.BinOp.gtr (AV.len x1) (AV.int 24))) →
    ((AV.isSl x0 2) ∧
    (fLoop 897 [(AV.int 0), (AV.mk 1 [])] fun ys897 again897 =>
      ((AV.binOk Go.BinOp.lss (ys897.getD 0 default) (AV.len x0)) ∧
      ((AV.isBool (AV.bin Go.BinOp.lss (ys897.getD 0 default) (AV.len x0))) ∧
      (((isT (AV.bin Go.BinOp.lss (ys897.getD 0 default) (AV.len x0))) →
        ((AV.isSl x0 2) ∧
        ((AV.inb x0 (ys897.getD 0 default)) ∧
        ((AV.isAgg (AV.atAgg x0 (ys897.getD 0 default) 0 2) 2) ∧
        (∃ r1409 : AV, ((Fn Tryz.prog 50 [x1, (AV.cel (AV.atAgg x0 (ys897.getD 0 default) 0 2) 0)] Sh.sc r1409) ∧
        ((AV.binOk Go.BinOp.lss r1409 (AV.int 0)) ∧
        ((AV.isBool (AV.bin Go.BinOp.lss r1409 (AV.int 0))) ∧
        (((isT (AV.bin Go.BinOp.lss r1409 (AV.int 0))) →
          ((AV.flatS (AV.mk 1 [])) ∧
          ((AV.flat (AV.int 8)) ∧
          (fSame (AV.tup [(AV.mk 1 []), (AV.int 8)]) r)))) ∧
        ((isF (AV.bin Go.BinOp.lss r1409 (AV.int 0))) →
          ((AV.isSl x1 3) ∧
          ((AV.inb x1 r1409) ∧
          ((AV.binOk Go.BinOp.lss (AV.at x1 r1409 2) (AV.cel (AV.atAgg x0 (ys897.getD 0 default) 0 2) 1)) ∧
          ((AV.isBool (AV.bin Go.BinOp.lss (AV.at x1 r1409 2) (AV.cel (AV.atAgg x0 (ys897.getD 0 default) 0 2) 1))) ∧
          (((isT (AV.bin Go.BinOp.lss (AV.at x1 r1409 2) (AV.cel (AV.atAgg x0 (ys897.getD 0 default) 0 2) 1))) →
            ((AV.isBool (AV.bin Go.BinOp.lss (AV.at x1 r1409 2) (AV.cel (AV.atAgg x0 (ys897.getD 0 default) 0 2) 1))) ∧
            ((isT (AV.bin Go.BinOp.lss (AV.at x1 r1409 2) (AV.cel (AV.atAgg x0 (ys897.getD 0 default) 0 2) 1))) ∧
            ((AV.flatS (AV.mk 1 [])) ∧
            ((AV.flat (AV.int 12)) ∧
            (fSame (AV.tup [(AV.mk 1 []), (AV.int 12)]) r)))))) ∧
          ((isF (AV.bin Go.BinOp.lss (AV.at x1 r1409 2) (AV.cel (AV.atAgg x0 (ys897.getD 0 default) 0 2) 1))) →
            ((AV.isSl x1 3) ∧
            ((AV.inb x1 r1409) ∧
            ((AV.binOk Go.BinOp.gtr (AV.at x1 r1409 2) (AV.int 200000)) ∧
            ((AV.isBool (AV.bin Go.BinOp.lss (AV.at x1 r1409 2) (AV.cel (AV.atAgg x0 (ys897.getD 0 default) 0 2) 1))) ∧
            ((isF (AV.bin Go.BinOp.lss (AV.at x1 r1409 2) (AV.cel (AV.atAgg x0 (ys897.getD 0 default) 0 2) 1))) ∧
            ((AV.isBool (AV.bin Go.BinOp.gtr (AV.at x1 r1409 2) (AV.int 200000))) ∧
            (((isT (AV.bin Go.BinOp.gtr (AV.at x1 r1409 2) (AV.int 200000))) →
              ((AV.flatS (AV.mk 1 [])) ∧
              ((AV.flat (AV.int 12)) ∧
              (fSame (AV.tup [(AV.mk 1 []), (AV.int 12)]) r)))) ∧
            ((isF (AV.bin Go.BinOp.gtr (AV.at x1 r1409 2) (AV.int 200000))) →
              ((AV.isSl x1 3) ∧
              ((AV.inb x1 r1409) ∧
              ((AV.binOk Go.BinOp.sub (AV.at x1 r1409 2) (AV.cel (AV.atAgg x0 (ys897.getD 0 default) 0 2) 1)) ∧
              ((AV.isOne (AV.bin Go.BinOp.sub (AV.at x1 r1409 2) (AV.cel (AV.atAgg x0 (ys897.getD 0 default) 0 2) 1))) ∧
              ((AV.room (ys897.getD 1 default) (AV.mk 1 [[(AV.bin Go.BinOp.sub (AV.at x1 r1409 2) (AV.cel (AV.atAgg x0 (ys897.getD 0 default) 0 2) 1))]]) 8) ∧
              ((AV.binOk Go.BinOp.add (ys897.getD 0 default) (AV.int 1)) ∧
              (again897 [(AV.bin Go.BinOp.add (ys897.getD 0 default) (AV.int 1)), (AV.app 1 (ys897.getD 1 default) (AV.mk 1 [[(AV.bin Go.BinOp.sub (AV.at x1 r1409 2) (AV.cel (AV.atAgg x0 (ys897.getD 0 default) 0 2) 1))]]))]))))))))))))))))))))))))))))))) ∧
      ((isF (AV.bin Go.BinOp.lss (ys897.getD 0 default) (AV.len x0))) →
        ((AV.flatS (ys897.getD 1 default)) ∧
        ((AV.flat (AV.int 0)) ∧
        (fSame (AV.tup [(ys897.getD 1 default), (AV.int 0)]) r))))))))))))))))))))) := by kernel_rfl
end SlotF
end Go.Proofs.YtcifjnhpgblnkaaGreatDoor
/- slot: what is checked. -/
namespace Go.Proofs.YtcifjnhpgblnkaaGreatDoor
open Go.RowKit
set_option linter.unusedVariables false
set_option linter.unusedSimpArgs false
set_option maxRecDepth 100000
/-- A demand. -/
structure Dm where
  c : ByteArray
  t : Int
  deriving DecidableEq, Inhabited
def encM (x : Dm) : List AV := [.string x.c, .int x.t]
abbrev dms (l : List Dm) : AV := lst 2 encM l
/-- A capacity. -/
structure Cp where
  f : Int
  t : Int
  m : Int
  deriving DecidableEq, Inhabited
def encC (x : Cp) : List AV := [.int x.f, .int x.t, .int x.m]
abbrev cps (l : List Cp) : AV := lst 3 encC l
/-- A slot. -/
structure So where
  c : ByteArray
  p : ByteArray
  t : Int
  deriving DecidableEq, Inhabited
def encO (x : So) : List AV := [.string x.c, .string x.p, .int x.t]
abbrev sos (l : List So) : AV := lst 3 encO l
theorem flat_sos (l : List So) : (sos l).flatS := lst_flatS fun x _ z hz => by
  simp [encO] at hz; rcases hz with rfl | rfl | rfl <;> exact .lit _
theorem flat_ints (l : List Int) : (ints l).flatS := lst_flatS fun x _ z hz => by
  simp [encI] at hz; rw [hz]; exact .lit _
/-! ### demands -/
def calledM (x : Dm) (y : Dm) : Bool := decide (y.c = x.c)
def dmE : List Dm → List Dm → Int
  | _, [] => 0
  | seen, x :: r => if isName x.c = false then 3 else if x.t < 0 ∨ x.t > 200000 then 12 else if seen.any (calledM x) = true then 7 else dmE (seen ++ [x]) r
def demE (l : List Dm) : Int := if l.length > 24 then 2 else dmE [] l
theorem any_rest {α : Type} {p : α → Bool} {x : α} {r : List α} {b : Bool} (h : b = (x :: r).any p) : (p x = true → b = true) ∧ (p x = false → b = r.any p) := by
  rw [List.any_cons] at h
  exact ⟨fun q => by rw [h, q]; rfl, fun q => by rw [h, q]; rfl⟩
theorem scheck_fn (l : List Dm) : Fn Tryz.prog 42 [dms l] .sc (.int (demE l)) := by
  refine fn_run mixed 3 (Γ := SlotF.Γ) (ann := SlotF.ann) Tryz.func42 rfl Tryz.call42 ((SlotF.check_form _ _).mpr ?_)
  have e1 : Ent Tryz.prog 41 := Tryz.call41
  have e2 : Ent Tryz.prog 111 := Tryz.call111
  have e3 : Ent Tryz.prog 172 := Tryz.call172
  have e4 : Ent Tryz.prog 112 := Tryz.call112
  simp
  refine ⟨fun h => by unfold demE; rw [if_pos (by omega)], fun h => ?_⟩
  have hE : demE l = dmE [] l := by unfold demE; rw [if_neg (by omega)]
  refine loop_list (σ := Unit) l (fun n _ => [.int (n : Nat)]) (fun n rest _ => demE l = dmE (l.take n) rest) () rfl hE ?_ ?_
  · rintro n x rest _ K hx hr hn hg hK
    have hw2 : IntKind.i64.wrap ((n : Int) + 1) = (n : Int) + 1 := wrap64 (by omega) (by omega)
    rw [dmE, ← take_snoc hx] at hg
    have g3 : isName x.c = false → 3 = demE l := fun q => by rw [hg, if_pos q]
    have g4 : isName x.c = true → (x.t < 0 ∨ x.t > 200000) → 12 = demE l := fun q1 q2 => by rw [hg, if_neg (by simp [q1]), if_pos q2]
    have c1 : isName x.c = true → ¬ (x.t < 0 ∨ x.t > 200000) → (l.take n).any (calledM x) = true → 7 = demE l := fun q1 q2 q3 => by rw [hg, if_neg (by simp [q1]), if_neg q2, if_pos q3]
    have c2 : isName x.c = true → ¬ (x.t < 0 ∨ x.t > 200000) → (l.take n).any (calledM x) = false → K [.int ((n : Nat) + 1)] := fun q1 q2 q3 => hK _ () (by simp) (by rw [hg, if_neg (by simp [q1]), if_neg q2, if_neg (by simp [q3])])
    clear hg hK
    have gL : isName x.c = true → ¬ (x.t < 0 ∨ x.t > 200000) → ∀ (body : List AV → (List AV → Prop) → Prop) (i : Nat),
        (∀ (k : Nat) (y : Dm) (K' : List AV → Prop), (l.take n)[k]? = some y → l[k]? = some y → k < n → (y.c = x.c → demE l = 7) → (y.c ≠ x.c → K' [.int ((k : Nat) + 1)]) → body [.int (k : Nat)] K') →
        (∀ K', K [.int ((n : Nat) + 1)] → body [.int (n : Nat)] K') → fLoop i [.int 0] body := fun q1 q2 body i hb he => by
      have hlen : (l.take n).length = n := by rw [List.length_take]; omega
      refine loop_list (σ := Unit) (l.take n) (fun n _ => [.int (n : Nat)]) (fun k rest _ => (l.take n).any (calledM x) = rest.any (calledM x)) () rfl rfl ?_ ?_
      · rintro k y rest' _ K' hy hr' hk hg' hK'
        rw [hlen] at hk
        have hy' : l[k]? = some y := by rw [List.getElem?_take, if_pos hk] at hy; exact hy
        obtain ⟨a1, a2⟩ := any_rest hg'
        exact hb k y K' hy hy' hk (fun e => (c1 q1 q2 (a1 (by simp [calledM, e]))).symm) (fun e => hK' _ () (by simp) (a2 (by simp [calledM, e])))
      · intro _ K' hg'
        rw [hlen]
        exact he K' (c2 q1 q2 (by simpa using hg'))
    clear c1 c2
    simp [hn, lst_atAgg hx, encM]
    (repeat' (first | exact trivial | (with_reducible intro hw; (try simp (disch := omega) only [wrap64] at hw); first | (exfalso; omega; done) | skip) | (with_reducible refine And.intro ?_ ?_) | (refine ⟨_, name_fn _, ?_⟩; (try simp [hw2]); (try simp (disch := omega) only [wrap64])) | omega | assumption))
    all_goals (first | exact e1 | exact e2 | exact e3 | exact e4 | exact (g3 (by simp_all)) | exact (g4 (by simp_all) (by omega)) | skip)
    all_goals (refine gL (by simp_all) (by omega) _ _ ?_ ?_)
    all_goals (clear g3 g4 gL)
    · intro k y K' hy hy' hk h1 h2
      have hw3 : IntKind.i64.wrap ((k : Int) + 1) = (k : Int) + 1 := wrap64 (by omega) (by omega)
      have hm : min n l.length = n := by omega
      simp [lst_atAgg hy, lst_atAgg hy', encM, hw3, hm, hk, show k < l.length by omega, e1, e2, e3, e4]
      exact ⟨fun e => (h1 e).symm, fun e => h2 e⟩
    · intro K' hK
      have hm : min n l.length = n := by omega
      simp [hw2, hm]
      exact hK
  · intro _ K hg
    simp [hg, dmE]
theorem dmE_ok : ∀ {l seen : List Dm}, dmE seen l = 0 → (∀ x ∈ l, 0 ≤ x.t ∧ x.t ≤ 200000 ∧ ∀ y ∈ seen, y.c ≠ x.c) ∧ l.Pairwise fun x y => x.c ≠ y.c
  | [], _, _ => ⟨fun x hx => by simp at hx, .nil⟩
  | x :: d, seen, h => by
    rw [dmE] at h
    split at h
    · cases h
    · split at h
      · cases h
      · split at h
        · cases h
        · rename_i h1 h2 h4
          obtain ⟨q1, q2⟩ := dmE_ok h
          refine ⟨fun z hz => ?_, List.pairwise_cons.2 ⟨fun z hz => ?_, q2⟩⟩
          · rcases List.mem_cons.1 hz with rfl | hz
            · refine ⟨by omega, by omega, fun y hy e => h4 (List.any_eq_true.2 ⟨y, hy, by simp [calledM, e]⟩)⟩
            · obtain ⟨p1, p2, p4⟩ := q1 z hz
              exact ⟨p1, p2, fun y hy => p4 y (List.mem_append_left _ hy)⟩
          · exact (q1 z hz).2.2 x (List.mem_append_right _ (by simp))
structure GoodM (l : List Dm) : Prop where
  len : l.length ≤ 24
  tm : ∀ x ∈ l, 0 ≤ x.t ∧ x.t ≤ 200000
  dist : l.Pairwise fun x y => x.c ≠ y.c
theorem goodM {l : List Dm} (h : demE l = 0) : GoodM l := by
  unfold demE at h
  split at h
  · cases h
  · obtain ⟨h1, h2⟩ := dmE_ok h
    exact ⟨by omega, fun x hx => ⟨(h1 x hx).1, (h1 x hx).2.1⟩, h2⟩
theorem inj_of {α β : Type} {f : α → β} {l : List α} (h : l.Pairwise fun x y => f x ≠ f y) : ∀ x ∈ l, ∀ y ∈ l, f x = f y → x = y := by
  induction l with
  | nil => intro x hx; simp at hx
  | cons z d ih =>
    rw [List.pairwise_cons] at h
    intro x hx y hy e
    rcases List.mem_cons.1 hx with rfl | hx'
    · rcases List.mem_cons.1 hy with rfl | hy'
      · rfl
      · exact absurd e (h.1 y hy')
    · rcases List.mem_cons.1 hy with rfl | hy'
      · exact absurd e.symm (h.1 x hx')
      · exact ih h.2 x hx' y hy' e
/-! ### capacities -/
def cpE : Int → List Cp → Int
  | _, [] => 0
  | e, x :: r => if x.f < 0 ∨ x.t > 200000 ∨ x.t ≤ x.f ∨ x.m < 0 ∨ x.m > 24 then 4 else if x.f < e then 12 else cpE x.t r
def capE (l : List Cp) : Int := if l.length > 256 then 2 else cpE 0 l
theorem fcheck_fn (l : List Cp) : Fn Tryz.prog 8 [cps l] .sc (.int (capE l)) := by
  refine fn_run mixed 3 (Γ := SlotF.Γ) (ann := SlotF.ann) Tryz.func8 rfl Tryz.call8 ((SlotF.fcheck_form _ _).mpr ?_)
  simp
  refine ⟨fun h => by unfold capE; rw [if_pos (by omega)], fun h => ?_⟩
  have hE : capE l = cpE 0 l := by unfold capE; rw [if_neg (by omega)]
  refine loop_list (σ := Int) l (fun n _ => [.int (n : Nat)]) (fun n rest e => capE l = cpE e rest ∧ (n = 0 → e = 0) ∧ (0 < n → ∃ y, l[n - 1]? = some y ∧ e = y.t)) 0 rfl ⟨hE, fun _ => rfl, fun q => absurd q (by omega)⟩ ?_ ?_
  · rintro n x rest e K hx hr hn ⟨hg, hz, hp⟩ hK
    have hw2 : IntKind.i64.wrap ((n : Int) + 1) = (n : Int) + 1 := wrap64 (by omega) (by omega)
    have hw1 : IntKind.i64.wrap ((n : Int) - 1) = (n : Int) - 1 := wrap64 (by omega) (by omega)
    rw [cpE] at hg
    have g4 : (x.f < 0 ∨ x.t > 200000 ∨ x.t ≤ x.f ∨ x.m < 0 ∨ x.m > 24) → 4 = capE l := fun q => by rw [hg, if_pos q]
    have g12 : ¬ (x.f < 0 ∨ x.t > 200000 ∨ x.t ≤ x.f ∨ x.m < 0 ∨ x.m > 24) → x.f < e → 12 = capE l := fun q1 q2 => by rw [hg, if_neg q1, if_pos q2]
    have gK : ¬ (x.f < 0 ∨ x.t > 200000 ∨ x.t ≤ x.f ∨ x.m < 0 ∨ x.m > 24) → ¬ x.f < e → K [.int ((n : Nat) + 1)] := fun q1 q2 => hK _ x.t (by simp) ⟨by rw [hg, if_neg q1, if_neg q2], fun q => absurd q (by omega), fun _ => ⟨x, by simpa using hx, rfl⟩⟩
    clear hg hK
    rcases Nat.eq_zero_or_pos n with hn0 | hn0
    · have he := hz hn0
      have hng : ¬ 0 < n := by omega
      simp [hn, lst_atAgg hx, encC, hng]
      (repeat' (first | exact trivial | (with_reducible intro hw; (try simp (disch := omega) only [wrap64] at hw); first | (exfalso; omega; done) | skip) | (with_reducible refine And.intro ?_ ?_) | omega | assumption))
      all_goals (first | exact g4 (by omega) | exact g12 (by omega) (by omega) | (simp only [hw2]; exact gK (by omega) (by omega)) | exact gK (by omega) (by omega))
    · obtain ⟨y, hy, rfl⟩ := hp hn0
      have hat : AV.at (cps l) (.lit (.int .i64 ((n : Int) - 1))) 1 = .int y.t := by
        rw [lst_atI (by omega) (x := y) (by rw [show ((n : Int) - 1).toNat = n - 1 by omega]; exact hy)]; rfl
      simp [hn, lst_atAgg hx, encC, hn0, hw1, hat]
      (repeat' (first | exact trivial | (with_reducible intro hw; (try simp (disch := omega) only [wrap64] at hw); first | (exfalso; omega; done) | skip) | (with_reducible refine And.intro ?_ ?_) | omega | assumption))
      all_goals (first | exact g4 (by omega) | exact g12 (by omega) (by omega) | (simp only [hw2]; exact gK (by omega) (by omega)) | exact gK (by omega) (by omega))
  · rintro e K ⟨hg, _⟩
    simp [hg, cpE]
theorem cpE_ok : ∀ {l : List Cp} {e : Int}, cpE e l = 0 → (∀ x ∈ l, 0 ≤ x.f ∧ x.f < x.t ∧ x.t ≤ 200000 ∧ 0 ≤ x.m ∧ x.m ≤ 24 ∧ e ≤ x.f) ∧ l.Pairwise fun x y => x.t ≤ y.f
  | [], _, _ => ⟨fun x hx => by simp at hx, .nil⟩
  | x :: d, e, h => by
    rw [cpE] at h
    split at h
    · cases h
    · split at h
      · cases h
      · obtain ⟨q1, q2⟩ := cpE_ok h
        refine ⟨fun z hz => ?_, List.pairwise_cons.2 ⟨fun z hz => (q1 z hz).2.2.2.2.2, q2⟩⟩
        rcases List.mem_cons.1 hz with rfl | hz
        · omega
        · obtain ⟨p1, p2, p3, p4, p5, p6⟩ := q1 z hz
          omega
structure GoodC (l : List Cp) : Prop where
  len : l.length ≤ 256
  bd : ∀ x ∈ l, 0 ≤ x.f ∧ x.f < x.t ∧ x.t ≤ 200000 ∧ 0 ≤ x.m ∧ x.m ≤ 24
  ord : l.Pairwise fun x y => x.t ≤ y.f
theorem goodC {l : List Cp} (h : capE l = 0) : GoodC l := by
  unfold capE at h
  split at h
  · cases h
  · obtain ⟨h1, h2⟩ := cpE_ok h
    exact ⟨by omega, fun x hx => by have := h1 x hx; omega, h2⟩
/-- What is wrong with an assignment's parts. -/
def sltE (p : ByteArray) (l : List Dm) (c : List Cp) : Int := if isName p = false then 3 else if demE l ≠ 0 then demE l else capE c
end Go.Proofs.YtcifjnhpgblnkaaGreatDoor
/- slot.Assign. -/
namespace Go.Proofs.YtcifjnhpgblnkaaGreatDoor
open Go.RowKit
set_option linter.unusedVariables false
set_option linter.unusedSimpArgs false
set_option maxRecDepth 100000
def kM (x : Dm) : Int × List UInt8 := (x.t, key x.c)
def cfM (x y : List AV) : Int := cmpK (x.getD 1 default).num (y.getD 1 default).num (x.getD 0 default).str (y.getD 0 default).str
theorem cfM_lt (a b : Dm) : cfM (encM a) (encM b) < 0 ↔ klt (kM a) (kM b) := cmpK_lt _ _ _ _
theorem less_fn (a b : Dm) (h : 0 ≤ a.t ∧ a.t ≤ 1000000 ∧ 0 ≤ b.t ∧ b.t ≤ 1000000) : Fn Tryz.prog 45 [.agg (encM a), .agg (encM b)] .sc (.int (cfM (encM a) (encM b))) := by
  refine fn_run mixed 2 (Γ := SlotF.Γ) (ann := SlotF.ann) Tryz.func45 rfl Tryz.call45 ((SlotF.less_form _ _ _).mpr ?_)
  simp [encM]
  refine ⟨_, compare_fn _ _, ?_⟩
  simp
  have hw : IntKind.i64.wrap (a.t - b.t) = a.t - b.t := wrap64 (by omega) (by omega)
  rw [hw]
  have q := or_fn [a.t - b.t, cmpS a.c b.c] (by simp)
  rw [orI_cmp _ _ _ a.t b.t rfl] at q
  exact q
theorem GoodM.inj {l : List Dm} (g : GoodM l) : ∀ a ∈ l, ∀ b ∈ l, kM a = kM b → a = b := fun a ha b hb e => by
  refine inj_of (f := Dm.c) g.dist a ha b hb ?_
  have : key a.c = key b.c := congrArg (·.2) e
  exact key_inj this
theorem sortM {l : List Dm} (g : GoodM l) : FnU Tryz.prog 44 34 2 (dms l) [.clo 45 []] false (dms (srtB kM l)) := by
  have hmem : ∀ x ∈ l.map encM, ∃ a ∈ l, x = encM a := fun x hx => by obtain ⟨a, ha, e⟩ := List.mem_map.1 hx; exact ⟨a, ha, e.symm⟩
  refine sortU (P := Tryz.prog) (ρ := sortDm_ren) sortDm Tryz.isAgg34 Tryz.sizeOf34 (cs := []) (cf := cfM) (d := l.map encM) (s := (srtB kM l).map encM) (by omega) Tryz.call45 ?_ ?_ ?_ ?_ ?_ ?_ ?_ ?_
  · intro x hx y hy
    obtain ⟨a, ha, rfl⟩ := hmem x hx
    obtain ⟨b, hb, rfl⟩ := hmem y hy
    have h1 := g.tm a ha
    have h2 := g.tm b hb
    exact less_fn a b (by omega)
  · intro x hx
    obtain ⟨a, ha, rfl⟩ := hmem x hx
    rw [cfM_lt]; exact klt_irr _
  · intro x hx y hy z hz
    obtain ⟨a, ha, rfl⟩ := hmem x hx
    obtain ⟨b, hb, rfl⟩ := hmem y hy
    obtain ⟨c, hc, rfl⟩ := hmem z hz
    rw [cfM_lt, cfM_lt, cfM_lt]; exact klt_tr
  · intro x hx y hy z hz
    obtain ⟨a, ha, rfl⟩ := hmem x hx
    obtain ⟨b, hb, rfl⟩ := hmem y hy
    obtain ⟨c, hc, rfl⟩ := hmem z hz
    rw [cfM_lt, cfM_lt, cfM_lt]; exact klt_ntr
  · intro x hx y hy
    obtain ⟨a, ha, rfl⟩ := hmem x hx
    obtain ⟨b, hb, rfl⟩ := hmem y hy
    rw [cfM_lt, cfM_lt]
    intro h1 h2
    rw [g.inj a ha b hb (klt_tot h1 h2)]
  · have := g.len
    simp; omega
  · exact (srtB_perm kM _).map _
  · rw [List.pairwise_map]
    exact (srtB_sorted kM _).imp fun h => by rw [cfM_lt]; exact h
/-! ### which capacity -/
def lastIn (x : Int) : Int → Nat → List Cp → Int
  | a, _, [] => a
  | a, n, y :: r => lastIn x (if y.f ≤ x ∧ x < y.t then (n : Int) else a) (n + 1) r
def capA (c : List Cp) (x : Int) : Int := lastIn x (-1) 0 c
theorem lastIn_none {x : Int} : ∀ {r : List Cp} {a : Int} {n : Nat}, (∀ y ∈ r, ¬ (y.f ≤ x ∧ x < y.t)) → lastIn x a n r = a
  | [], _, _, _ => rfl
  | y :: r, a, n, h => by
    rw [lastIn, if_neg (h y (by simp))]
    exact lastIn_none fun z hz => h z (List.mem_cons_of_mem _ hz)
theorem lastIn_at {x : Int} : ∀ {l : List Cp} {a : Int} {n k : Nat} {y : Cp}, l[k]? = some y → y.f ≤ x → x < y.t → (l.Pairwise fun x y => x.t ≤ y.f) → lastIn x a n l = ((n + k : Nat) : Int)
  | [], _, _, _, _, h, _, _, _ => by simp at h
  | z :: r, a, n, 0, y, h, h1, h2, hp => by
    simp at h
    subst h
    rw [lastIn, if_pos ⟨h1, h2⟩, lastIn_none]
    · rfl
    · intro w hw q
      have := (List.pairwise_cons.1 hp).1 w hw
      omega
  | z :: r, a, n, k + 1, y, h, h1, h2, hp => by
    rw [lastIn, lastIn_at (k := k) (y := y) (by simpa using h) h1 h2 (List.pairwise_cons.1 hp).2]
    congr 1; omega
/-- How many of the slots lie in a capacity. -/
def usedN (c : List Cp) (o : List So) (k : Nat) : Int := (o.countP (fun s => decide (capA c s.t = (k : Int))) : Nat)
def Cnd (u : Nat → Int) (t : Int) (i : Nat) (y : Cp) : Prop := u i < y.m ∧ t < y.t
instance (u : Nat → Int) (t : Int) (i : Nat) (y : Cp) : Decidable (Cnd u t i y) := inferInstanceAs (Decidable (_ ∧ _))
/-- The first capacity that has room and does not end before a time. -/
def pkN (u : Nat → Int) (t : Int) : Nat → List Cp → Int
  | _, [] => -1
  | n, y :: r => if Cnd u t n y then (n : Int) else pkN u t (n + 1) r
theorem pk_none {u : Nat → Int} {t : Int} : ∀ {l : List Cp} {n : Nat}, (∀ i y, l[i]? = some y → ¬ Cnd u t (n + i) y) → pkN u t n l = -1
  | [], _, _ => rfl
  | y :: r, n, h => by
    rw [pkN, if_neg (show ¬ Cnd u t n y from h 0 y rfl)]
    refine pk_none fun i z hz => ?_
    have := h (i + 1) z (by simpa using hz)
    rwa [show n + (i + 1) = n + 1 + i by omega] at this
theorem pk_first {u : Nat → Int} {t : Int} : ∀ {l : List Cp} {n k : Nat} {x : Cp}, l[k]? = some x → Cnd u t (n + k) x → (∀ i y, i < k → l[i]? = some y → ¬ Cnd u t (n + i) y) → pkN u t n l = ((n + k : Nat) : Int)
  | [], _, _, _, h, _, _ => by simp at h
  | y :: r, n, 0, x, h, hc, _ => by
    simp at h
    subst h
    rw [pkN, if_pos (show Cnd u t n y from hc)]; rfl
  | y :: r, n, k + 1, x, h, hc, hl => by
    rw [pkN, if_neg (show ¬ Cnd u t n y from hl 0 y (by omega) rfl), pk_first (k := k) (x := x) (by simpa using h) (by rwa [show n + 1 + k = n + (k + 1) by omega]) fun i z hi hz => ?_]
    · congr 1; omega
    · have := hl (i + 1) z (by omega) (by simpa using hz)
      rwa [show n + (i + 1) = n + 1 + i by omega] at this
theorem pk_spec {u : Nat → Int} {t : Int} : ∀ (l : List Cp) (n : Nat), (pkN u t n l = -1 ∧ ∀ i y, l[i]? = some y → ¬ Cnd u t (n + i) y) ∨ ∃ k x, pkN u t n l = ((n + k : Nat) : Int) ∧ l[k]? = some x ∧ Cnd u t (n + k) x
  | [], n => .inl ⟨rfl, fun i y h => by simp at h⟩
  | y :: r, n => by
    by_cases h : Cnd u t n y
    · exact .inr ⟨0, y, by rw [pkN, if_pos h]; rfl, rfl, h⟩
    · rcases pk_spec r (n + 1) with ⟨h1, h2⟩ | ⟨k, x, h1, h2, h3⟩
      · refine .inl ⟨by rw [pkN, if_neg h, h1], fun i z hz => ?_⟩
        cases i with
        | zero => simp at hz; subst hz; exact h
        | succ i => rw [show n + (i + 1) = n + 1 + i by omega]; exact h2 i z (by simpa using hz)
      · exact .inr ⟨k + 1, x, by rw [pkN, if_neg h, h1]; congr 1; omega, by simpa using h2, by rw [show n + (k + 1) = n + 1 + k by omega]; exact h3⟩
def mxT (t f : Int) : Int := if f > t then f else t
/-- Slots, one demand after the other. -/
def asg (p : ByteArray) (c : List Cp) : List So → List Dm → Option (List So)
  | o, [] => some o
  | o, d :: r => if pkN (usedN c o) d.t 0 c < 0 then none else asg p c (o ++ [⟨d.c, p, mxT d.t (c.getD (pkN (usedN c o) d.t 0 c).toNat default).f⟩]) r
def asgR (p : ByteArray) (l : List Dm) (c : List Cp) : Option (List So) := asg p c [] (srtB kM l)
def asgE (p : ByteArray) (l : List Dm) (c : List Cp) : Int := if sltE p l c ≠ 0 then sltE p l c else if (asgR p l c).isNone = true then 18 else 0
def asgL (p : ByteArray) (l : List Dm) (c : List Cp) : List So := if asgE p l c = 0 then (asgR p l c).getD [] else []
def asgV (p : ByteArray) (l : List Dm) (c : List Cp) : AV := .tup [sos (asgL p l c), .int (asgE p l c)]
theorem asgV_err {p : ByteArray} {l : List Dm} {c : List Cp} {e : Int} (h : asgE p l c = e) (h0 : e ≠ 0) : asgV p l c = .tup [.sl 3 [], .int e] := by
  unfold asgV asgL; rw [h, if_neg h0]; rfl
theorem asgV_ok {p : ByteArray} {l : List Dm} {c : List Cp} {o : List So} (h : sltE p l c = 0) (h0 : asgR p l c = some o) : asgV p l c = .tup [sos o, .int 0] := by
  have e : asgE p l c = 0 := by unfold asgE; rw [if_neg (by simp [h]), h0]; rfl
  unfold asgV asgL; rw [e, if_pos rfl, h0]; rfl
theorem asgV_no {p : ByteArray} {l : List Dm} {c : List Cp} (h : sltE p l c = 0) (h0 : asgR p l c = none) : asgV p l c = .tup [.sl 3 [], .int 18] :=
  asgV_err (by unfold asgE; rw [if_neg (by simp [h]), h0]; rfl) (by omega)
theorem used_snoc {c : List Cp} (g : GoodC c) {o : List So} {s : So} {k : Nat} {x : Cp} (hx : c[k]? = some x) (h1 : x.f ≤ s.t) (h2 : s.t < x.t) (j : Nat) : usedN c (o ++ [s]) j = usedN c o j + (if k = j then 1 else 0) := by
  have : capA c s.t = (k : Int) := by
    have := lastIn_at (a := -1) (n := 0) hx h1 h2 g.ord
    rw [Nat.zero_add] at this; exact this
  unfold usedN
  rw [List.countP_append, List.countP_singleton, this]
  by_cases e : k = j
  · simp [e]
  · have : ¬ (k : Int) = (j : Int) := by omega
    simp [e, this]
theorem used_nil (c : List Cp) (k : Nat) : usedN c [] k = 0 := rfl
theorem used_bd (c : List Cp) (o : List So) (k : Nat) : 0 ≤ usedN c o k ∧ usedN c o k ≤ o.length := by
  unfold usedN
  have := List.countP_le_length (p := fun s => decide (capA c s.t = (k : Int))) (l := o)
  omega
/-- Ends of later capacities lie later. -/
theorem GoodC.mono {c : List Cp} (g : GoodC c) {i j : Nat} {x y : Cp} (hx : c[i]? = some x) (hy : c[j]? = some y) (h : i ≤ j) : x.t ≤ y.t := by
  rcases Nat.eq_or_lt_of_le h with e | e
  · subst e; rw [hx] at hy; injection hy with hy; subst hy; exact Int.le_refl _
  · obtain ⟨hi, e1⟩ := List.getElem?_eq_some_iff.1 hx
    obtain ⟨hj, e2⟩ := List.getElem?_eq_some_iff.1 hy
    have := List.pairwise_iff_getElem.1 g.ord i j hi hj e
    rw [e1, e2] at this
    have := g.bd y (List.mem_of_getElem? hy)
    omega
theorem rep_ints (n : Nat) : AV.rep 1 (.lit (.int .i64 (n : Nat))) [.lit (.int .i64 0)] = ints (List.replicate n 0) := by
  simp [AV.rep, lst, encI]
theorem sos_snoc (o : List So) (x : So) : AV.app 3 (sos o) (.sl 3 [[.lit (.string x.c), .lit (.string x.p), .lit (.int .i64 x.t)]]) = sos (o ++ [x]) := by
  simp [lst, AV.app, AV.els, encO]
theorem app_dms (l : List Dm) : AV.app 2 (.sl 2 []) (dms l) = dms l := by simp [lst, AV.app, AV.els]
theorem assign_fn (p : ByteArray) (l : List Dm) (c : List Cp) : Fn Tryz.prog 7 [.string p, dms l, cps c] (.tup [.row 32 3 true, .sc]) (asgV p l c) := by
  have e := SlotF.assign_form (.string p) (dms l) (cps c) (asgV p l c)
  have k := fun h => fn_run mixed 3 (Γ := SlotF.Γ) (ann := SlotF.ann) Tryz.func7 rfl Tryz.call7 (e.mpr h)
  refine k ?_
  clear k e
  have e1 : Ent Tryz.prog 41 := Tryz.call41
  have e2 : Ent Tryz.prog 43 := Tryz.call43
  have e3 : Ent Tryz.prog 48 := Tryz.call48
  have e4 : Ent Tryz.prog 49 := Tryz.call49
  refine ⟨e1, fun _ => ⟨_, name_fn p, ?_⟩⟩
  simp
  refine ⟨fun h => by rw [asgV_err (e := 3) (by unfold asgE sltE; simp [h]) (by omega)], fun hp => ⟨_, scheck_fn l, ?_⟩⟩
  simp
  refine ⟨fun h => by rw [asgV_err (e := demE l) (by unfold asgE sltE; simp [hp, h]) h], fun hd => ⟨_, fcheck_fn c, ?_⟩⟩
  simp
  refine ⟨fun h => by rw [asgV_err (e := capE c) (by unfold asgE sltE; simp [hp, hd, h]) h], fun hc => ⟨e2, ?_, ?_⟩⟩
  · intro h0
    subst h0
    have hclen := (goodC hc).len
    have hsl : sltE p [] c = 0 := by unfold sltE; simp [hp, hd, hc]
    have hmk : AV.mkOk (.lit (.int .i64 (c.length : Nat))) 8 := ⟨rfl, by simp, by simp; omega⟩
    have hs : FnU Tryz.prog 44 34 2 (.sl 2 []) [.clo 45 []] false (.sl 2 []) := sortM (goodM hd)
    refine ⟨_, hs, hmk, rfl, ?_⟩
    refine loop_nat (σ := Unit) 0 (fun n _ => [.int (n : Nat), .sl 3 [], AV.rep 1 (.lit (.int .i64 (c.length : Nat))) [.lit (.int .i64 0)]]) (fun n _ => True) () (by simp) trivial (fun n _ K hn => absurd hn (by omega)) ?_
    intro _ K _
    simp
    exact (asgV_ok hsl rfl).symm
  · have g := goodM hd
    have gc := goodC hc
    have hlen := g.len
    have hclen := gc.len
    have hroom : AV.room (.sl 2 []) (dms l) 24 := by unfold AV.room; rw [lst_els]; simp [AV.els]; omega
    have hsl : sltE p l c = 0 := by unfold sltE; simp [hp, hd, hc]
    have hmk : AV.mkOk (.lit (.int .i64 (c.length : Nat))) 8 := ⟨rfl, by simp, by simp; omega⟩
    have hS := srtB_perm kM l
    have hsort := sortM g
    have hR : asgR p l c = asg p c [] (srtB kM l) := rfl
    generalize srtB kM l = S at *
    simp only [app_dms]
    refine ⟨hroom, _, hsort, hmk, rfl, ?_⟩
    rw [rep_ints]
    refine loop_list (σ := List So × List Int) S (fun n s => [.int (n : Nat), sos s.1, ints s.2]) (fun n rest s => s.2.length = c.length ∧ (∀ k, k < c.length → s.2[k]? = some (usedN c s.1 k)) ∧ s.1.length = n ∧ asgR p l c = asg p c s.1 rest) ([], List.replicate c.length 0) (by simp) ⟨by simp, fun k hk => by simp [hk, used_nil], rfl, hR⟩ ?_ ?_
    · rintro n d rest ⟨o, U⟩ K hx hr hn ⟨h1, h2, h3, h4⟩ hK
      simp only at h1 h2 h3 h4
      have hSl : S.length = l.length := hS.length_eq
      have hd2 := g.tm d (hS.mem_iff.1 (List.mem_of_getElem? hx))
      have hw2 : IntKind.i64.wrap ((n : Int) + 1) = (n : Int) + 1 := wrap64 (by omega) (by omega)
      rw [asg] at h4
      have gNo : pkN (usedN c o) d.t 0 c = -1 → .tup [.sl 3 [], .int 18] = asgV p l c := fun q => (asgV_no hsl (by rw [h4, if_pos (by omega)])).symm
      have gK : ∀ (j : Nat) x, c[j]? = some x → d.t < x.t → pkN (usedN c o) d.t 0 c = (j : Int) → K [.int ((n : Nat) + 1), sos (o ++ [⟨d.c, p, mxT d.t x.f⟩]), ints (U.set j (usedN c o j + 1))] := fun j x hj ht hpk => by
        have hxb := gc.bd x (List.mem_of_getElem? hj)
        have hjl := (List.getElem?_eq_some_iff.1 hj).1
        refine hK _ (o ++ [⟨d.c, p, mxT d.t x.f⟩], U.set j (usedN c o j + 1)) (by simp) ⟨by simp [h1], fun k hk => ?_, by simp [h3], ?_⟩
        · rw [used_snoc gc hj (by show x.f ≤ mxT d.t x.f; unfold mxT; split <;> omega) (by show mxT d.t x.f < x.t; unfold mxT; split <;> omega)]
          rw [List.getElem?_set]
          by_cases e : j = k
          · subst e; simp [h1, hjl]
          · simp [e, h2 k hk]
        · rw [h4, if_neg (by omega), hpk]
          have : c.getD (j : Int).toNat default = x := by simp [List.getD_eq_getElem?_getD, hj]
          rw [this]
      clear hK h4
      simp [hn, lst_atAgg hx, encM, e3, e4]
      refine loop_list (σ := Unit) c (fun n _ => [.int (n : Nat)]) (fun k rest _ => ∀ i y, i < k → c[i]? = some y → y.t ≤ d.t) () (by simp) (fun i y h => absurd h (by omega)) ?_ ?_
      · rintro k y rest' _ K' hy hr' hk hg hK'
        have hw3 : IntKind.i64.wrap ((k : Int) + 1) = (k : Int) + 1 := wrap64 (by omega) (by omega)
        simp [hk, lst_atAgg hy, encC, hw3]
        refine ⟨fun hlt => ?_, fun hle => ?_⟩
        · refine loop_from (σ := Unit) c k (by omega) (fun n _ => [.int (n : Nat)]) (fun i rest _ => ∀ j z, j < i → c[j]? = some z → ¬ Cnd (usedN c o) d.t j z) () (by simp) (fun j z hj hz q => ?_) ?_ ?_
          · have := hg j z hj hz
            have := q.2
            omega
          · rintro i z rest2 _ K2 hki hz hr2 hi hG hK2
            have hw4 : IntKind.i64.wrap ((i : Int) + 1) = (i : Int) + 1 := wrap64 (by omega) (by omega)
            have hU := h2 i hi
            have hUl : i < U.length := by omega
            have hub := used_bd c o i
            have hw5 : IntKind.i64.wrap (usedN c o i + 1) = usedN c o i + 1 := wrap64 (by omega) (by omega)
            have hzt : d.t < z.t := by have := gc.mono hy hz hki; omega
            have hat : AV.at (ints U) (.lit (.int .i64 (i : Nat))) 0 = .int (usedN c o i) := by rw [lst_at hU]; rfl
            have hatm : AV.at (cps c) (.lit (.int .i64 (i : Nat))) 2 = .int z.m := by rw [lst_at hz]; rfl
            have hatf : AV.at (cps c) (.lit (.int .i64 (i : Nat))) 0 = .int z.f := by rw [lst_at hz]; rfl
            have hset : AV.setEl (ints U) (.lit (.int .i64 (i : Nat))) 0 [.lit (.int .i64 (usedN c o i + 1))] = ints (U.set i (usedN c o i + 1)) := by
              rw [lst_setEl (x := usedN c o i) (x' := usedN c o i + 1) hU (by simp [encI])]
            have hsn := sos_snoc o ⟨d.c, p, mxT d.t z.f⟩
            have hroom2 : ∀ q : List (List AV), q.length = 1 → AV.room (sos o) (.sl 3 q) 40 := fun q hq => by unfold AV.room; rw [lst_els]; simp [AV.els, hq]; omega
            have gY : z.m ≤ usedN c o i → K2 [.int ((i : Nat) + 1)] := fun q => hK2 _ () (by simp) fun j w hj hw q2 => by
              by_cases hji : j = i
              · subst hji; rw [hz] at hw; injection hw with hw; subst hw; have := q2.1; omega
              · exact hG j w (by omega) hw q2
            have gN : ¬ z.m ≤ usedN c o i → pkN (usedN c o) d.t 0 c = (i : Int) := fun q => by
              have := pk_first (u := usedN c o) (t := d.t) (n := 0) hz (by rw [Nat.zero_add]; exact ⟨by omega, hzt⟩) (fun j w hj hw => by rw [Nat.zero_add]; exact hG j w hj hw)
              rw [Nat.zero_add] at this; exact this
            have gN2 := fun q => gK i z hz hzt (gN q)
            simp [hi, hUl, hat, hatm, hatf, hw4, hw5, hset, show ¬ (i : Int) = (c.length : Int) by omega]
            refine ⟨gY, fun q => ⟨hroom2 _ rfl, ?_⟩⟩
            have hmx : (if d.t < z.f then z.f else d.t) = mxT d.t z.f := rfl
            rw [hmx, hsn, hw2]
            exact gN2 (by omega)
          · rintro _ K2 hG
            have hno := gNo (pk_none fun i y hy => by rw [Nat.zero_add]; exact hG i y (List.getElem?_eq_some_iff.1 hy).1 hy)
            simp
            exact hno
        · exact hK' _ () (by simp) fun i z hi hz => by
            by_cases hik : i = k
            · subst hik; rw [hy] at hz; injection hz with hz; subst hz; exact hle
            · exact hg i z (by omega) hz
      · rintro _ K' hg
        have hno := gNo (pk_none fun i y hy => by
          rw [Nat.zero_add]
          intro q
          have := hg i y (List.getElem?_eq_some_iff.1 hy).1 hy
          have := q.2
          omega)
        simp
        refine loop_nat (σ := Unit) 0 (fun n _ => [.int (-1)]) (fun n _ => True) () rfl trivial (fun n _ K hn => absurd hn (by omega)) ?_
        intro _ K2 _
        simp
        exact hno
    · rintro ⟨o, U⟩ K ⟨h1, h2, h3, h4⟩
      simp [flat_sos]
      exact (asgV_ok hsl (by rw [h4]; rfl)).symm
end Go.Proofs.YtcifjnhpgblnkaaGreatDoor
