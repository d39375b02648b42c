/- Texts of one proof, part 4: plain values, a run over them, contracts of functions. -/
import Derived.Test.YtacfofpbbempaaaGreatDoorM3
import Derived.Test.YtacfofpbbempaaaGreatDoorM1
import Derived.Lib.SmallJoins
import Derived.Deep.Slices
import Derived.Deep.Fields
import Derived.ChangeSame
import Derived.SizedLaws
import Derived.LaidMore
import Derived.OpenShut
import Derived.MakeChecks
import Derived.Laws.FloatArith
/- Calls that hand out values to visitors: the run's word for them is sound. -/
namespace Go.Proofs.YtacfofpbbempaaaGreatDoor
open Go.RowKit
set_option linter.unusedVariables false
set_option linter.unusedSimpArgs false
theorem updB_one (blk : Nat → DB) (b : Nat) (d : DB) : updB blk [(b, d)] b = d := by simp [updB]
theorem updB_ne (blk : Nat → DB) (b : Nat) (d : DB) {c : Nat} (h : c ≠ b) : updB blk [(b, d)] c = blk c := updB_of_not (by simp [h])
section
variable {base : Nat} {w0 : World} {ok0 : Nat → Prop} {ρ : Nat → Value} {a : Act} {w : World}
/-- A block that keeps something beside. -/
theorem sv_add {σ : DS} {ds : List DE} {vs : Array Value} (h : HS base w0 ok0 σ ρ a w) (hsz : vs.size = ds.length) (hrd : ∀ t, RD w (okF base ok0 σ.blk ρ) ρ σ.blk (fun n => n < σ.clk) (ds.getD t .any) (vs.getD t undef)) :
    HS base w0 ok0 ⟨σ.tm, (σ.clk, .sv ds vs) :: σ.bl, σ.clk + 64, σ.orc⟩ ρ a w := by
  have hdead : σ.blk σ.clk = .dead := h.frs σ.clk (fun q => Nat.lt_irrefl _ q)
  have hund : ρ σ.clk = undef := by have := h.blks σ.clk; rw [hdead] at this; exact this
  have hb1 : (DS.mk σ.tm ((σ.clk, .sv ds vs) :: σ.bl) (σ.clk + 64) σ.orc).blk = updB σ.blk [(σ.clk, .sv ds vs)] := blk_app σ [(σ.clk, .sv ds vs)] _ _ _
  show HR base w0 ok0 (fun n => n < σ.clk + 64) σ.tm (DS.mk σ.tm ((σ.clk, .sv ds vs) :: σ.bl) (σ.clk + 64) σ.orc).blk ρ a w
  rw [hb1]
  refine HR.step h (fun b => b = σ.clk) (fun b hc => updB_ne _ _ _ hc) (fun b _ => rfl) (fun b t cs _ _ => rfl) (fun b n x hc e => by rw [hc, hdead] at e; cases e)
    (fun n hn => by have : n < σ.clk := hn; show n < σ.clk + 64; omega) (fun b hc => by show b < σ.clk + 64; rw [hc]; omega) (fun b n hc _ hst => by rw [hc, updB_one] at hst; cases hst) (Nat.le_refl _) (fun _ _ _ => rfl)
    (fun b hc hl => by rw [hc, updB_one] at hl; cases hl) (fun b b' hc _ hl => by rw [hc, updB_one] at hl; cases hl) rfl rfl rfl (fun H1 H5 b hc => ?_) (fun H1 t => .inl ⟨rfl, rfl⟩) h.size rfl
  rw [hc, updB_one]
  exact ⟨hund, hsz, fun t => H5 _ _ (hrd t)⟩
/-- It keeps something else. -/
theorem sv_swap {σ1 σ2 : DS} {b0 : Nat} (htm : σ2.tm = σ1.tm) (hclk : σ2.clk = σ1.clk) (hne : ∀ b, b ≠ b0 → σ2.blk b = σ1.blk b) {ds1 ds2 : List DE} {vs1 vs2 : Array Value} (h1 : σ1.blk b0 = .sv ds1 vs1) (h2 : σ2.blk b0 = .sv ds2 vs2) (hsz : vs2.size = ds2.length)
    (h : HS base w0 ok0 σ1 ρ a w) (hrd : ∀ t, RD w (okF base ok0 σ1.blk ρ) ρ σ1.blk (fun n => n < σ1.clk) (ds2.getD t .any) (vs2.getD t undef)) : HS base w0 ok0 σ2 ρ a w := by
  show HR base w0 ok0 (fun n => n < σ2.clk) σ2.tm σ2.blk ρ a w
  rw [htm, hclk]
  refine HR.step h (fun b => b = b0) (fun b hc => hne b hc) (fun b _ => rfl) (fun b t cs _ _ => rfl) (fun b n x hc e => by rw [hc, h1] at e; cases e)
    (fun n hn => hn) (fun b hc => Classical.byContradiction fun q => by have := h.frs b q; rw [hc, h1] at this; cases this) (fun b n hc _ hst => by rw [hc, h2] at hst; cases hst) (Nat.le_refl _) (fun _ _ _ => rfl)
    (fun b hc hl => by rw [hc, h2] at hl; cases hl) (fun b b' hc _ hl => by rw [hc, h2] at hl; cases hl) rfl rfl rfl (fun H1 H5 b hc => ?_) (fun H1 t => .inl ⟨rfl, rfl⟩) h.size rfl
  have hB := h.blks b0
  rw [h1] at hB
  rw [hc, h2]
  exact ⟨hB.1, hsz, fun t => H5 _ _ (hrd t)⟩
theorem sv_kill {σ : DS} {b0 : Nat} {ds : List DE} {vs : Array Value} (h1 : σ.blk b0 = .sv ds vs) (h : HS base w0 ok0 σ ρ a w) : HS base w0 ok0 ⟨σ.tm, (b0, .dead) :: σ.bl, σ.clk, σ.orc⟩ ρ a w := by
  have hb1 : (DS.mk σ.tm ((b0, .dead) :: σ.bl) σ.clk σ.orc).blk = updB σ.blk [(b0, .dead)] := blk_app σ [(b0, .dead)] _ _ _
  show HR base w0 ok0 (fun n => n < σ.clk) σ.tm (DS.mk σ.tm ((b0, .dead) :: σ.bl) σ.clk σ.orc).blk ρ a w
  rw [hb1]
  refine HR.step h (fun b => b = b0) (fun b hc => updB_ne _ _ _ hc) (fun b _ => rfl) (fun b t cs _ _ => rfl) (fun b n x hc e => by rw [hc, h1] at e; cases e)
    (fun n hn => hn) (fun b hc => Classical.byContradiction fun q => by have := h.frs b q; rw [hc, h1] at this; cases this) (fun b n hc _ hst => by rw [hc, updB_one] at hst; cases hst) (Nat.le_refl _) (fun _ _ _ => rfl)
    (fun b hc hl => by rw [hc, updB_one] at hl; cases hl) (fun b b' hc _ hl => by rw [hc, updB_one] at hl; cases hl) rfl rfl rfl (fun H1 H5 b hc => ?_) (fun H1 t => .inl ⟨rfl, rfl⟩) h.size rfl
  have hB := h.blks b0
  rw [h1] at hB
  rw [hc, updB_one]
  exact hB.1
theorem rowify_sv {b : Nat} {ds : List DE} {vs : Array Value} : ∀ (l : List (Nat × Nat × TypeId × Nat)) {σ : DS} {ρ : Nat → Value}, HS base w0 ok0 σ ρ a w → σ.blk b = .sv ds vs → (rowify l σ).blk b = .sv ds vs
  | [], _, _, _, hb => hb
  | q :: l, σ, ρ, h, hb => by
    obtain ⟨ρ1, h1⟩ := rowify1_ok q h
    refine rowify_sv l h1 ?_
    unfold rowify1
    split
    · rename_i t cs hq
      split
      · have hdead : σ.blk σ.clk = .dead := h.frs σ.clk (fun q => Nat.lt_irrefl _ q)
        have e1 : b ≠ q.1 := fun e => by rw [e, hq] at hb; cases hb
        have e2 : b ≠ σ.clk := fun e => by rw [e, hdead] at hb; cases hb
        have : ∀ (l : List (Nat × DB)) (c : Nat) (o : Orc), (DS.mk σ.tm ((q.1, .cells t (cs.set q.2.1 (.row σ.clk σ.clk))) :: (σ.clk, .row q.2.2.1 q.2.2.2 σ.clk (AV.mk q.2.2.2 [])) :: σ.bl) c o).blk b = σ.blk b := fun _ c o => by
          have := blk_app σ [(q.1, .cells t (cs.set q.2.1 (.row σ.clk σ.clk))), (σ.clk, .row q.2.2.1 q.2.2.2 σ.clk (AV.mk q.2.2.2 []))] σ.tm c o
          have e3 := congrFun this b
          rw [updB_cons, updB_cons, if_neg e1, if_neg e2] at e3
          exact e3
        exact (this [] _ _).trans hb
      · exact hb
    · exact hb
/-- A cell's row is frozen. -/
theorem frzCell1_ok (q : Nat × Nat) {σ : DS} (h : HS base w0 ok0 σ ρ a w) : HS base w0 ok0 (frzCell1 σ q) ρ a w := by
  have key : ∀ (σ : DS) (t : TypeId) (cs : List DE) (b n : Nat) (x : AV), HS base w0 ok0 σ ρ a w → σ.blk q.1 = .cells t cs → cs.getD q.2 .any = .row b n → σ.blk b = .fz n x → HS base w0 ok0 { σ with bl := (q.1, .cells t (cs.set q.2 (.v x))) :: σ.bl } ρ a w := fun σ t cs b n x h hb hc hf => by
    have ho : q.2 < cs.length := Classical.byContradiction fun g => by
      rw [List.getD_eq_getElem?_getD, List.getElem?_eq_none (by omega)] at hc
      cases hc
    have hb1 : (DS.mk σ.tm ((q.1, .cells t (cs.set q.2 (.v x))) :: σ.bl) σ.clk σ.orc).blk = updB σ.blk [(q.1, .cells t (cs.set q.2 (.v x)))] := blk_app σ [(q.1, .cells t (cs.set q.2 (.v x)))] _ _ _
    show HR base w0 ok0 (fun n => n < σ.clk) σ.tm (DS.mk σ.tm ((q.1, .cells t (cs.set q.2 (.v x))) :: σ.bl) σ.clk σ.orc).blk ρ a w
    rw [hb1]
    refine HR.step h (fun b => b = q.1) (fun b hc => updB_ne _ _ _ hc) (fun b _ => rfl) (fun b t cs _ _ => rfl) (fun b n x hc e => by rw [hc, hb] at e; cases e)
      (fun n hn => hn) (fun c hc => Classical.byContradiction fun q => by have := h.frs c q; rw [hc, hb] at this; cases this) (fun b n hc _ hst => by rw [hc, updB_one] at hst; cases hst) (Nat.le_refl _) (fun _ _ _ => rfl)
      (fun c hc hl g hg => .inl ⟨by rw [hc, hb]; rfl, hg⟩) (fun c c' hc hc' _ _ hne => absurd (hc.trans hc'.symm) hne) rfl rfl rfl (fun H1 H5 c hc' => ?_) (fun H1 t => .inl ⟨rfl, rfl⟩) h.size rfl
    have hB := h.blks q.1
    rw [hb] at hB
    obtain ⟨g, vs, e1, e2, e3, e4, e5, e6⟩ := hB
    rw [hc', updB_one]
    refine ⟨g, vs, e1, e2, e3, by rw [List.length_set]; exact e4, fun i hi => e5 i (by rw [List.length_set] at hi; exact hi), fun i hi => ?_⟩
    have hi' : i < cs.length := by rw [List.length_set] at hi; exact hi
    by_cases hio : i = q.2
    · subst hio
      have hv := e6 _ hi'
      rw [hc] at hv
      have e7 : (cs.set q.2 (.v x)).getD q.2 .any = .v x := by
        rw [List.getD_eq_getElem?_getD, List.getElem?_set_self ho]; rfl
      rw [e7]
      refine H5 _ _ ?_
      have hF := h.blks b
      rw [hf] at hF
      generalize vs.getD q.2 undef = u at hv
      cases hv with
      | row _ _ _ hn h1 hs =>
        rw [hs (by rw [hf]; rfl)]
        exact .v _ _ hF.2.1
    · have e7 : (cs.set q.2 (.v x)).getD i .any = cs.getD i .any := by
        rw [List.getD_eq_getElem?_getD, List.getElem?_set_ne (Ne.symm hio), List.getD_eq_getElem?_getD]
      rw [e7]
      exact H5 _ _ (e6 i hi')
  unfold frzCell1
  split
  · rename_i t cs hb
    split
    · rename_i b n hc
      split
      · rename_i e s m x hr
        split
        · rename_i hmn
          obtain ⟨rfl, hne⟩ := hmn
          have hf := HR.freeze (fview_ok σ) h [b]
          have e1 : σ.fview.frz [b] = [(b, .fz m x)] := by
            have hb' : σ.fview.bl b = .row e s m x := hr
            simp [View.frz, hb']
          rw [e1] at hf
          have hbk : (DS.mk σ.tm ((b, .fz m x) :: σ.bl) σ.clk σ.orc).blk = updB σ.blk [(b, .fz m x)] := blk_app σ [(b, .fz m x)] _ _ _
          have h1 : HS base w0 ok0 (DS.mk σ.tm ((b, .fz m x) :: σ.bl) σ.clk σ.orc) ρ a w := by
            show HR base w0 ok0 (fun n => n < σ.clk) σ.tm (DS.mk σ.tm ((b, .fz m x) :: σ.bl) σ.clk σ.orc).blk ρ a w
            rw [hbk]; exact hf
          exact key _ t cs b m x h1 (by rw [hbk, updB_ne _ _ _ (Ne.symm hne)]; exact hb) hc (by rw [hbk, updB_one])
        · exact h
      · rename_i m x hr
        split
        · rename_i hmn
          subst hmn
          exact key σ t cs b m x h hb hc hr
        · exact h
      · exact h
    · exact h
  · exact h
theorem frzCells_ok : ∀ (l : List (Nat × Nat)) {σ : DS}, HS base w0 ok0 σ ρ a w → HS base w0 ok0 (frzCells l σ) ρ a w
  | [], _, h => h
  | q :: l, _, h => frzCells_ok l (frzCell1_ok q h)
theorem frzCell1_fr (σ : DS) (q : Nat × Nat) : FrB σ (frzCell1 σ q) ∧ (frzCell1 σ q).tm = σ.tm := by
  unfold frzCell1
  split
  · split
    · split
      · split
        · exact ⟨⟨⟨[_, _], rfl⟩, rfl, Nat.le_refl _⟩, rfl⟩
        · exact ⟨FrB.refl σ, rfl⟩
      · split
        · exact ⟨⟨⟨[_], rfl⟩, rfl, Nat.le_refl _⟩, rfl⟩
        · exact ⟨FrB.refl σ, rfl⟩
      · exact ⟨FrB.refl σ, rfl⟩
    · exact ⟨FrB.refl σ, rfl⟩
  · exact ⟨FrB.refl σ, rfl⟩
theorem frzCells_fr : ∀ (l : List (Nat × Nat)) (σ : DS), FrB σ (frzCells l σ) ∧ (frzCells l σ).tm = σ.tm
  | [], σ => ⟨FrB.refl σ, rfl⟩
  | q :: l, σ => by
    obtain ⟨h1, h2⟩ := frzCell1_fr σ q
    obtain ⟨h3, h4⟩ := frzCells_fr l (frzCell1 σ q)
    exact ⟨h1.trans h3, h4.trans h2⟩
theorem vis_tm (E : LoopEx) (σ : DS) (ys : List AV) : ((visAnn E).head σ ys).tm = σ.tm := by
  apply List.ext_getElem?
  intro t
  simp only [LoopAnn.head, List.getElem?_map, List.getElem?_zipIdx]
  cases h : σ.tm[t]? with
  | none => rfl
  | some d => simp [LoopAnn.tm, visAnn]
theorem vis_blk (E : LoopEx) (σr : DS) (Y : AV) (vs : Array Value) (ys : List AV) : ((visAnn E).head (visY σr Y vs) ys).blk σr.clk = .sv [.v Y] vs ∧
    ∀ b, b ≠ σr.clk → ((visAnn E).head (visY σr Y vs) ys).blk b = if b ∈ (visAnn E).touched then (visAnn E).blkOf ys b (σr.blk b) else σr.blk b := by
  have e : (visY σr Y vs).blk = updB σr.blk [(σr.clk, .sv [.v Y] vs)] := blk_app σr [(σr.clk, .sv [.v Y] vs)] _ _ _
  refine ⟨?_, fun b hb => ?_⟩
  · rw [head_blk, e, updB_one]
    split <;> rfl
  · rw [head_blk, e, updB_ne _ _ _ hb]
theorem okF_eq {blk blk' : Nat → DB} {b0 : Nat} (hne : ∀ b, b ≠ b0 → blk' b = blk b) (h1 : isLive (blk b0) = false) (h2 : isLive (blk' b0) = false) {g : Nat} (h : okF base ok0 blk ρ g) : okF base ok0 blk' ρ g :=
  ⟨h.1, fun b hl => by
    by_cases hb : b = b0
    · rw [hb, h2] at hl; cases hl
    · rw [hne b hb] at hl; exact h.2 b hl⟩
end
section
variable {P : Program} {inl : Inl}
theorem visEnts_iff : ∀ (l : List DE) (F : Prop), visEnts P l F ↔ (∀ vf caps, DE.fn vf caps ∈ l → Ent P vf) ∧ F
  | [], F => ⟨fun h => ⟨fun _ _ q => (by cases q), h⟩, fun h => h.2⟩
  | d :: l, F => by
    have ih := visEnts_iff l F
    cases d with
    | fn vf caps =>
      refine ⟨fun h => ⟨fun vf' caps' q => ?_, (ih.1 h.2).2⟩, fun h => ⟨h.1 vf caps (List.mem_cons_self ..), ih.2 ⟨fun vf' caps' q => h.1 vf' caps' (List.mem_cons_of_mem _ q), h.2⟩⟩⟩
      rcases List.mem_cons.1 q with e | q
      · injection e with e _; rw [e]; exact h.1
      · exact (ih.1 h.2).1 vf' caps' q
    | _ =>
      refine ⟨fun h => ⟨fun vf' caps' q => ?_, (ih.1 h).2⟩, fun h => ih.2 ⟨fun vf' caps' q => h.1 vf' caps' (List.mem_cons_of_mem _ q), h.2⟩⟩
      rcases List.mem_cons.1 q with e | q
      · cases e
      · exact (ih.1 h).1 vf' caps' q
theorem vis_frB (E : LoopEx) (args : List DE) (us : Array Value) (σ : DS) (Y : AV) (vs : Array Value) (ys : List AV) : FrB σ ((visAnn E).head (visY (rowify E.nils ⟨σ.tm, (σ.clk, .sv args us) :: σ.bl, σ.clk + 64, σ.orc⟩) Y vs) ys) := by
  have h1 : FrB σ ⟨σ.tm, (σ.clk, .sv args us) :: σ.bl, σ.clk + 64, σ.orc⟩ := ⟨⟨[_], rfl⟩, rfl, Nat.le_add_right _ _⟩
  have h2 := (rowify_fr E.nils ⟨σ.tm, (σ.clk, .sv args us) :: σ.bl, σ.clk + 64, σ.orc⟩).1
  generalize rowify E.nils ⟨σ.tm, (σ.clk, .sv args us) :: σ.bl, σ.clk + 64, σ.orc⟩ = σr at *
  have h3 : FrB σr (visY σr Y vs) := ⟨⟨[_], rfl⟩, rfl, Nat.le_add_right _ _⟩
  exact ((h1.trans h2).trans h3).trans (head_frB _ _ _)
theorem visF_fr (E : LoopEx) (rs : List Nat) (f : FuncId) (args : List DE) (σ : DS) (K K' : DE → DS → Prop) (h : visF P E inl rs f args σ K) (hK : ∀ d σ', K d σ' → FrB σ σ' → σ'.tm = σ.tm → K' d σ') : visF P E inl rs f args σ K' := by
  intro us
  have h := h us
  have hfb := fun ys => vis_frB E args us σ (.lit undef) #[undef] ys
  simp only at h ⊢
  generalize rowify E.nils ⟨σ.tm, (σ.clk, .sv args us) :: σ.bl, σ.clk + 64, σ.orc⟩ = σr at *
  split at h
  · rename_i ys0 hys
    split at h
    · rename_i xs hxs
      split at h
      · rename_i hck
        obtain ⟨hen, evs, hvi, Inv, h0, hb, hk⟩ := (visEnts_iff _ _).1 h
        simp only [hxs, hck, if_true]
        refine (visEnts_iff _ _).2 ⟨hen, evs, hvi, Inv, h0, hb, fun ys e1 e2 => hK _ _ (hk ys e1 e2) ?_ rfl⟩
        obtain ⟨⟨pre, h1⟩, h2, h3⟩ := hfb ys
        exact ⟨⟨(σ.clk, .dead) :: (σr.clk, .dead) :: pre, by simp [h1]⟩, rfl, h3⟩
      · exact h.elim
    · exact h.elim
  · exact h.elim
variable {base : Nat} {w0 : World} {ok0 : Nat → Prop} {ρ : Nat → Value} {a : Act} {w : World}
theorem visF_ok (hinl : InlOk P inl) (hfr : InlFr inl) (E : LoopEx) (rs : List Nat) (f : FuncId) (args : List DE) (σ : DS) (K : DE → DS → Prop) (cargs : Array Value) (hent : Ent P f) (h : visF P E inl rs f args σ K) (hs : HS base w0 ok0 σ ρ a w) (hsz : cargs.size = args.length)
    (hargs : ∀ i, i < args.length → RD w (okF base ok0 σ.blk ρ) ρ σ.blk (fun n => n < σ.clk) (args.getD i .any) (cargs.getD i undef)) :
    Calls P f cargs w fun e w' => ∃ v, e = .returned v ∧ ∃ d σ' ρ', K d σ' ∧ HS base w0 ok0 σ' ρ' a w' ∧ RD w' (okF base ok0 σ'.blk ρ') ρ' σ'.blk (fun n => n < σ'.clk) d v := by
  have h := h cargs
  have hfb := fun ys => vis_frB E args cargs σ (.lit undef) #[undef] ys
  simp only at h
  have hsa := sv_add (ds := args) (vs := cargs) hs hsz (fun t => by
    by_cases ht : t < args.length
    · exact hargs t ht
    · rw [List.getD_eq_getElem?_getD, List.getElem?_eq_none (by omega)]
      exact .any _)
  have hba : (DS.mk σ.tm ((σ.clk, .sv args cargs) :: σ.bl) (σ.clk + 64) σ.orc).blk σ.clk = .sv args cargs := (congrFun (blk_app σ [(σ.clk, .sv args cargs)] σ.tm (σ.clk + 64) σ.orc) σ.clk).trans (updB_one _ _ _)
  obtain ⟨ρ1, hr⟩ := rowify_ok E.nils hsa
  have hsv := rowify_sv E.nils hsa hba
  obtain ⟨⟨_, _, hclk⟩, htr⟩ := rowify_fr E.nils ⟨σ.tm, (σ.clk, .sv args cargs) :: σ.bl, σ.clk + 64, σ.orc⟩
  have hclk : σ.clk + 64 ≤ (rowify E.nils ⟨σ.tm, (σ.clk, .sv args cargs) :: σ.bl, σ.clk + 64, σ.orc⟩).clk := hclk
  have htr : (rowify E.nils ⟨σ.tm, (σ.clk, .sv args cargs) :: σ.bl, σ.clk + 64, σ.orc⟩).tm = σ.tm := htr
  clear hba
  generalize rowify E.nils ⟨σ.tm, (σ.clk, .sv args cargs) :: σ.bl, σ.clk + 64, σ.orc⟩ = σr at *
  have rdY : ∀ {okf : Nat → Prop} {ρ : Nat → Value} {blk : Nat → DB} {isd : Nat → Prop} {w : World} (Y : AV) (u : Value), RV w okf Y u → ∀ t, RD w okf ρ blk isd (([DE.v Y] : List DE).getD t .any) ((#[u] : Array Value).getD t undef) := fun Y u hv t => by
    cases t with
    | zero => exact .v _ _ hv
    | succ t => exact .any _
  split at h
  · rename_i ys0 hys
    split at h
    · rename_i xs hxs
      split at h
      · rename_i hck
        simp only [Bool.and_eq_true, decide_eq_true_eq] at hck
        obtain ⟨⟨hck, hkl⟩, hfnall⟩ := hck
        obtain ⟨hen, evs, hvi, Inv, hI0, hIb, hIe⟩ := (visEnts_iff _ _).1 h
        obtain ⟨ρ2, h2⟩ := head_again hck (FrB.refl _) (FrT.refl _ _) hys (sv_add hr rfl (rdY (.lit undef) undef (.lit _)))
        have hne : σ.clk ≠ σr.clk := by omega
        have hbY : ∀ Y vs ys, ((visAnn E).head (visY σr Y vs) ys).blk σr.clk = .sv [.v Y] vs := fun Y vs ys => (vis_blk E σr Y vs ys).1
        have hbA : ∀ Y vs ys, ((visAnn E).head (visY σr Y vs) ys).blk σ.clk = .sv args cargs := fun Y vs ys => by
          rw [(vis_blk E σr Y vs ys).2 _ hne, hsv]
          split <;> rfl
        have hbN : ∀ Y vs Y' vs' ys b, b ≠ σr.clk → ((visAnn E).head (visY σr Y' vs') ys).blk b = ((visAnn E).head (visY σr Y vs) ys).blk b := fun Y vs Y' vs' ys b hb => by
          rw [(vis_blk E σr Y vs ys).2 _ hb, (vis_blk E σr Y' vs' ys).2 _ hb]
        have htm : ∀ Y vs ys, ((visAnn E).head (visY σr Y vs) ys).tm = σ.tm := fun Y vs ys => (vis_tm E _ ys).trans htr
        obtain ⟨m, hm⟩ : ∃ m, m = args.length - rs.length := ⟨_, rfl⟩
        rw [← hm] at hxs hfnall hIb hen
        have hcl : ∀ i, i < rs.length → ∃ (vf : FuncId) (vs : Array Value) (caps : List DE), args.getD (m + i) .any = .fn vf caps ∧ cargs.getD (m + i) undef = .func (.func vf) #[] vs ∧ vs.size = caps.length := fun i hi => by
          have h1 : isFnD (args.getD (m + i) .any) = true := by
            refine List.all_eq_true.1 hfnall _ ?_
            have : (args.drop m)[i]? = some (args.getD (m + i) .any) := by
              rw [List.getElem?_drop, List.getD_eq_getElem?_getD, List.getElem?_eq_getElem (by omega)]; rfl
            exact List.mem_of_getElem? this
          have h3 := hargs (m + i) (by omega)
          generalize args.getD (m + i) .any = d at h1 h3
          generalize cargs.getD (m + i) undef = u at h3
          cases h3 with
          | fn vf caps vs hl _ => exact ⟨vf, vs, caps, rfl, rfl, hl⟩
          | _ => cases h1
        have hF : ∃ F : Nat → FuncId × Array Value, ∀ i, i < rs.length → ∃ caps, args.getD (m + i) .any = .fn (F i).1 caps ∧ cargs.getD (m + i) undef = .func (.func (F i).1) #[] (F i).2 ∧ (F i).2.size = caps.length := by
          refine ⟨fun i => if hi : i < rs.length then ((hcl i hi).choose, (hcl i hi).choose_spec.choose) else (0, #[]), fun i hi => ?_⟩
          simp only [dif_pos hi]
          exact (hcl i hi).choose_spec.choose_spec
        obtain ⟨F, hF⟩ := hF
        have hcargs : cargs = cargs.extract 0 m ++ (((List.range rs.length).map F).map fun q => Value.func (.func q.1) #[] q.2).toArray := by
          apply Array.ext_getElem?
          intro i
          rw [Array.getElem?_append]
          have hes : (cargs.extract 0 m).size = m := by simp; omega
          rw [hes]
          by_cases hi : i < m
          · rw [if_pos hi, Array.getElem?_extract]
            simp; omega
          · rw [if_neg hi]
            by_cases hi2 : i - m < rs.length
            · obtain ⟨_, _, q2, _⟩ := hF (i - m) hi2
              have e : m + (i - m) = i := by omega
              rw [e, Array.getD_eq_getD_getElem?, Array.getElem?_eq_getElem (by omega)] at q2
              rw [Array.getElem?_eq_getElem (by omega)]
              simp only [List.getElem?_toArray, List.getElem?_map, List.getElem?_range hi2, Option.map_some]
              exact congrArg some q2
            · rw [Array.getElem?_eq_none (show cargs.size ≤ i by omega)]
              exact (Array.getElem?_eq_none (by simp; omega)).symm
        rw [hcargs]
        refine (hvi.2.2 ((List.range rs.length).map F) (fun pre o A => ∃ ys ρ, ys.length = ys0.length ∧ Inv pre ys ∧ HS base w0 ok0 ((visAnn E).head (visY σr (.lit undef) #[undef]) ys) ρ a A ∧ o = fun g => okR (okF base ok0 ((visAnn E).head (visY σr (.lit undef) #[undef]) ys).blk ρ) ρ [] g ∧ g < A.heap.size) w _ (cargs.extract 0 m) (by simp) (fun q hq => ?_) ?_ ?_ ?_ ?_ ⟨ys0, ρ2, rfl, hI0, h2, rfl⟩).mono ?_
        · obtain ⟨i, hi, rfl⟩ := List.mem_map.1 hq
          have hi := List.mem_range.1 hi
          obtain ⟨caps, hc1, _⟩ := hF i hi
          refine hen _ caps ?_
          have : (args.drop m)[i]? = some (.fn (F i).1 caps) := by
            rw [List.getElem?_drop, ← hc1, List.getD_eq_getElem?_getD, List.getElem?_eq_getElem (by omega)]; rfl
          exact List.mem_of_getElem? this
        · rintro s o A C ⟨ys, ρ, e1, e2, e3, rfl⟩ hbe hdr
          have hko : KeepsOthers A C := ⟨hbe.size, fun k o hk _ => (hbe.block k (Array.getElem?_eq_some_iff.1 hk).1).trans hk⟩
          have hlow := e3.low
          refine ⟨_, ⟨ys, ρ, e1, e2, HR.conv e3 (Kc.below hbe) e3.gl (e3.bel.trans (hbe.mono e3.low)) (e3.nod.trans hko) (Nat.le_trans e3.drw hdr), rfl⟩, fun g hg => ⟨hg.1, Nat.lt_of_lt_of_le hg.2 hbe.size⟩, fun g h1 h2 => ⟨.inl ⟨fun q => by omega, fun b hl e => ?_⟩, h2⟩⟩
          have := (e3.live_lt hl e).2
          omega
        · rintro s o A ⟨ys, ρ, e1, e2, e3, rfl⟩
          exact ⟨fun g hg => hg.2, e3.glob []⟩
        · rintro pre p rest o A vs Y u hxr ⟨ys, ρ, e1, e2, e3, rfl⟩ hvs hYu
          have hpm : p ∈ evs := by rw [hxr]; simp
          obtain ⟨hp1, hp2⟩ := hvi.2.1 p hpm
          have hb := hIb pre p rest ys hxr e1 e2
          have hbd : (rs.zipIdx.map fun p => visBody P E inl σr p.2 p.1 (args.getD (m + p.2) .any)).getD p.1 (fun _ _ _ => False) = visBody P E inl σr p.1 (rs.getD p.1 0) (args.getD (m + p.1) .any) := by
            rw [List.getD_eq_getElem?_getD, List.getElem?_map, List.getElem?_zipIdx, List.getElem?_eq_getElem hp1]
            simp [List.getD_eq_getElem?_getD, List.getElem?_eq_getElem hp1]
          rw [hbd] at hb
          obtain ⟨caps, hc1, hc2, hc3⟩ := hF p.1 hp1
          rw [hc1] at hb
          have hfi : ((List.range rs.length).map F).getD p.1 default = F p.1 := by
            rw [List.getD_eq_getElem?_getD, List.getElem?_map, List.getElem?_range hp1]; rfl
          rw [hfi]
          have hb2 := hb #[u] Y
          have hent' : Ent P (F p.1).1 := hen _ caps (by
            have : (args.drop m)[p.1]? = some (.fn (F p.1).1 caps) := by
              rw [List.getElem?_drop, ← hc1, List.getD_eq_getElem?_getD, List.getElem?_eq_getElem (by omega)]; rfl
            exact List.mem_of_getElem? this)
          clear hb hbd
          have hok : ∀ g, (okR (okF base ok0 ((visAnn E).head (visY σr (.lit undef) #[undef]) ys).blk ρ) ρ [] g ∧ g < A.heap.size) → okF base ok0 ((visAnn E).head (visY σr (.lit undef) #[undef]) ys).blk ρ g := fun g hg => by
            rcases hg.1 with q | ⟨b, q, _⟩
            · exact q
            · cases q
          have hsY : HS base w0 ok0 ((visAnn E).head (visY σr Y #[u]) ys) ρ a A := sv_swap (σ1 := (visAnn E).head (visY σr (.lit undef) #[undef]) ys) ((htm _ _ _).trans (htm _ _ _).symm) rfl (fun b hb => hbN _ _ _ _ _ b hb) (hbY _ _ _) (hbY _ _ _) rfl e3 (rdY Y u (hYu.mono fun g hg _ => ⟨hok g hg, rfl⟩))
          have hokY : ∀ g, okF base ok0 ((visAnn E).head (visY σr (.lit undef) #[undef]) ys).blk ρ g → okF base ok0 ((visAnn E).head (visY σr Y #[u]) ys).blk ρ g := fun g hg => okF_eq (fun b hb => hbN _ _ _ _ _ b hb) (by rw [hbY]; rfl) (by rw [hbY]; rfl) hg
          have hrdc := hsY.blks σ.clk
          rw [hbA] at hrdc
          have hrdc := hrdc.2.2 (m + p.1)
          rw [hc1, hc2] at hrdc
          have hrdcaps : ∀ i, i < caps.length → RD A (okF base ok0 ((visAnn E).head (visY σr Y #[u]) ys).blk ρ) ρ ((visAnn E).head (visY σr Y #[u]) ys).blk (fun n => n < ((visAnn E).head (visY σr Y #[u]) ys).clk) (caps.getD i .any) ((F p.1).2.getD i undef) := by
            generalize hFv : (F p.1).2 = fv at hrdc
            cases hrdc with
            | fn _ _ _ hl hc => exact hc
          have hvsz : vs.size = rs.getD p.1 0 := hvs.1.trans hp2
          refine (hinl base w0 ok0 (F p.1).1 _ _ _ ρ a A (vs ++ (F p.1).2) hent' (hfr _ _ _ _ _ hb2 (fun d σ' hk q1 q2 => (⟨hk, q1, q2⟩ : _ ∧ FrB _ σ' ∧ σ'.tm = _))) hsY (by simp [hvsz, hc3]) (fun i hi => ?_)).mono ?_
          · rw [List.length_append, List.length_map, List.length_range] at hi
            by_cases hir : i < rs.getD p.1 0
            · have e4 : ((List.range (rs.getD p.1 0)).map (fun j => DE.v (p.2.getD j default)) ++ caps).getD i .any = .v (p.2.getD i default) := by
                rw [List.getD_eq_getElem?_getD, List.getElem?_append_left (by simpa using hir), List.getElem?_map, List.getElem?_range hir]; rfl
              have e5 : (vs ++ (F p.1).2).getD i undef = vs.getD i undef := by
                rw [Array.getD_eq_getD_getElem?, Array.getElem?_append, if_pos (by omega), ← Array.getD_eq_getD_getElem?]
              rw [e4, e5]
              exact .v _ _ ((hvs.2 i (by omega)).mono fun g hg _ => ⟨hokY g (hok g hg), rfl⟩)
            · have e4 : ((List.range (rs.getD p.1 0)).map (fun j => DE.v (p.2.getD j default)) ++ caps).getD i .any = caps.getD (i - rs.getD p.1 0) .any := by
                rw [List.getD_eq_getElem?_getD, List.getElem?_append_right (by rw [List.length_map, List.length_range]; omega), List.length_map, List.length_range, ← List.getD_eq_getElem?_getD]
              have e5 : (vs ++ (F p.1).2).getD i undef = (F p.1).2.getD (i - rs.getD p.1 0) undef := by
                rw [Array.getD_eq_getD_getElem?, Array.getElem?_append, if_neg (by omega), hvsz, ← Array.getD_eq_getD_getElem?]
              rw [e4, e5]
              exact hrdcaps _ (by omega)
          · rintro e A' ⟨v, rfl, d, σ', ρ', ⟨hk', q1, q2⟩, h', _⟩
            refine ⟨⟨v, rfl⟩, ?_⟩
            split at hk'
            · rename_i zs hz
              split at hk'
              · rename_i hck2
                obtain ⟨f1, f2⟩ := frzCells_fr E.cells σ'
                have q1' : FrB ((visAnn E).head (visY σr Y #[u]) ys) σ' := ⟨q1.1, q1.2.1, q1.2.2⟩
                obtain ⟨ρ5, h5⟩ := head_again hck2 (q1'.trans f1) (fun t _ => .inl (by rw [f2, q2])) hz (frzCells_ok E.cells h')
                have h6 := head_head h5
                have h7 : HS base w0 ok0 ((visAnn E).head (visY σr (.lit undef) #[undef]) zs) ρ5 a A' := sv_swap (σ1 := (visAnn E).head (visY σr Y #[u]) zs) ((htm _ _ _).trans (htm _ _ _).symm) rfl (fun b hb => hbN _ _ _ _ _ b hb) (hbY _ _ _) (hbY _ _ _) rfl h6 (rdY (.lit undef) undef (.lit _))
                refine ⟨_, ⟨zs, ρ5, by rw [vals_len hz, vals_len hys], hk', h7, rfl⟩, ?_⟩
                have hB := h6.blks σr.clk
                rw [hbY] at hB
                have hB := hB.2.2 0
                have hB : RD A' (okF base ok0 ((visAnn E).head (visY σr Y #[u]) zs).blk ρ5) ρ5 ((visAnn E).head (visY σr Y #[u]) zs).blk _ (.v Y) u := hB
                cases hB with
                | v _ _ hv => exact hv.mono fun g hg hlt => ⟨⟨.inl (okF_eq (fun b hb => hbN _ _ _ _ _ b hb) (by rw [hbY]; rfl) (by rw [hbY]; rfl) hg), hlt⟩, rfl⟩
              · exact hk'.elim
            · exact hk'.elim
        · obtain ⟨p1, p2⟩ := pls_get hxs
          have hml : (args.take m).length = m := by rw [List.length_take]; omega
          refine ⟨by rw [p1, hml]; simp; omega, fun i hi => ?_⟩
          rw [p1, hml] at hi
          obtain ⟨r', z1, z2⟩ := p2 i (by rw [hml]; exact hi)
          have e4 : (args.take m).getD i .any = args.getD i .any := by
            rw [List.getD_eq_getElem?_getD, List.getElem?_take_of_lt hi, ← List.getD_eq_getElem?_getD]
          have e5 : (cargs.extract 0 m).getD i undef = cargs.getD i undef := by
            rw [Array.getD_eq_getD_getElem?, Array.getElem?_extract, Array.getD_eq_getD_getElem?, if_pos (by omega), Nat.zero_add]
          rw [e4] at z1
          rw [e5]
          have hB := h2.blks σ.clk
          rw [hbA] at hB
          exact (pl_ok (fview_ok _) h2 (hB.2.2 i) z1 z2).mono fun g hg hlt => ⟨⟨hg, hlt⟩, rfl⟩
        · rintro e w' ⟨rfl, o', ys, ρ3, e1, e2, e3, _⟩
          refine ⟨_, rfl, .tup [], _, ρ3, hIe ys e1 e2, ?_, .tup [] #[] rfl (fun i hi => by cases hi)⟩
          have k1 := sv_kill (hbY _ _ _) e3
          have k2 := sv_kill (b0 := σ.clk) (ds := args) (vs := cargs) (by
            exact ((congrFun (blk_app ((visAnn E).head (visY σr (.lit undef) #[undef]) ys) [(σr.clk, .dead)] _ _ _) σ.clk).trans (updB_ne _ _ _ hne)).trans (hbA _ _ _)) k1
          have k3 : HR base w0 ok0 _ _ _ ρ3 a w' := k2
          simp only [htm] at k3
          exact k3
      · exact h.elim
    · exact h.elim
  · exact h.elim
end
end Go.Proofs.YtacfofpbbempaaaGreatDoor
/- Walking into a called function's text. -/
namespace Go.Proofs.YtacfofpbbempaaaGreatDoor
open Go.RowKit
set_option linter.unusedVariables false
set_option linter.unusedSimpArgs false
section
variable {P : Program} {Γ : FuncId → Option Ca} {ann : FuncId → Nat → LoopEx}
theorem inF_fr : ∀ n, InlFr (inF P Γ ann n)
  | 0 => fun f args σ K K' h hK => h.elim
  | n + 1 => fun f args σ K K' h hK => by
    unfold inF at h ⊢
    by_cases hv : (ann f 999999).drop ≠ []
    · rw [if_pos hv] at h ⊢
      exact visF_fr _ _ _ _ _ _ _ h hK
    rw [if_neg hv] at h ⊢
    simp only at h ⊢
    split at h
    · exact h.elim
    · rename_i fn hf
      split at h
      · exact h.elim
      · rename_i c hb
        intro vs
        refine runC_mono (inF_fr n) c _ _ _ (h vs) fun e σ' hk hfb _ _ => ?_
        split at hk
        · rename_i hex
          rw [if_pos hex]
          split at hk
          · rename_i d hd
            split at hk
            · exact hk.elim
            · rename_i hp
              rw [if_neg hp]
              refine hK _ _ hk ?_ rfl
              obtain ⟨⟨p, hp⟩, _, h3⟩ := hfb
              exact ⟨⟨(σ.clk, .dead) :: p ++ [(σ.clk, .sv σ.tm vs)], by simp [hp]⟩, rfl, by have h3' : σ.clk + 64 ≤ σ'.clk := h3; show σ.clk ≤ σ'.clk; omega⟩
          · exact hk.elim
        · exact hk.elim
theorem inF_ok (hm : P.follows .mixedOrders = true) : ∀ n, InlOk P (inF P Γ ann n)
  | 0 => fun base w0 ok0 f args σ K ρ a w cargs hent h _ _ _ => h.elim
  | n + 1 => fun base w0 ok0 f args σ K ρ a w cargs hent h hs hsz hargs => by
    unfold inF at h
    by_cases hv : (ann f 999999).drop ≠ []
    · rw [if_pos hv] at h
      exact visF_ok (inF_ok hm n) (inF_fr n) _ _ f args σ K cargs hent h hs hsz hargs
    rw [if_neg hv] at h
    simp only at h
    split at h
    · exact h.elim
    · rename_i fn hf
      split at h
      · exact h.elim
      · rename_i c hb
        have hs0 := hs
        replace hs : HS base w ok0 σ ρ { tmps := a.tmps, defers := [] } w := HR.fresh hs
        refine calls_marks hf hb ?_
        have hdead : σ.blk σ.clk = .dead := hs.frs σ.clk (fun q => Nat.lt_irrefl _ q)
        have hund : ρ σ.clk = undef := by have := hs.blks σ.clk; rw [hdead] at this; exact this
        let σ1 : DS := ⟨args ++ List.replicate (fn.ntmps - args.length) (DE.c undef), (σ.clk, .sv σ.tm a.tmps) :: σ.bl, σ.clk + 64, σ.orc⟩
        have hb1 : σ1.blk = updB σ.blk [(σ.clk, .sv σ.tm a.tmps)] := blk_app σ [(σ.clk, .sv σ.tm a.tmps)] _ _ _
        have h0 : HS base w ok0 σ1 ρ { tmps := cargs ++ Array.replicate (fn.ntmps - cargs.size) undef, defers := [] } w := by
          show HR base w ok0 (fun n => n < σ.clk + 64) σ1.tm σ1.blk ρ _ w
          rw [hb1]
          refine HR.step hs (fun b => b = σ.clk) (fun b hc => updB_ne _ _ _ hc) (fun b _ => rfl) (fun b t cs _ _ => rfl) (fun b n x hc e => by rw [hc, hdead] at e; cases e)
            (fun n hn => by have : n < σ.clk := hn; show n < σ.clk + 64; omega) (fun b hc => by show b < σ.clk + 64; rw [hc]; omega) (fun b n hc _ hst => by rw [hc, updB_one] at hst; cases hst) (Nat.le_refl _) (fun _ _ _ => rfl)
            (fun b hc hl => by rw [hc, updB_one] at hl; cases hl) (fun b b' hc _ hl => by rw [hc, updB_one] at hl; cases hl) rfl rfl rfl (fun H1 H5 b hc => ?_) (fun H1 t => .inr ?_) (by simp [σ1, hsz]) rfl
          · rw [hc, updB_one]
            exact ⟨hund, hs.size, fun t => H5 _ _ (hs.tms t)⟩
          · by_cases ht : t < args.length
            · have e1 : σ1.tm.getD t .any = args.getD t .any := by
                show (args ++ List.replicate (fn.ntmps - args.length) (DE.c undef)).getD t .any = _
                rw [List.getD_eq_getElem?_getD, List.getElem?_append_left ht, ← List.getD_eq_getElem?_getD]
              have e2 : (cargs ++ Array.replicate (fn.ntmps - cargs.size) undef).getD t undef = cargs.getD t undef := by
                rw [Array.getD_eq_getD_getElem?, Array.getElem?_append, if_pos (by omega), ← Array.getD_eq_getD_getElem?]
              rw [e1]
              show RD _ _ _ _ _ _ ((cargs ++ Array.replicate (fn.ntmps - cargs.size) undef).getD t undef)
              rw [e2]
              refine (hargs t ht).mono H1 (fun _ _ _ => rfl) (fun n hn => by have : n < σ.clk := hn; show n < σ.clk + 64; omega) fun b n hn hst => ?_
              by_cases hc : b = σ.clk
              · rw [hc, updB_one] at hst; cases hst
              · rw [updB_ne _ _ _ hc] at hst; exact ⟨hst, rfl⟩
            · by_cases ht2 : t < fn.ntmps
              · have e1 : σ1.tm.getD t .any = .c undef := by
                  show (args ++ List.replicate (fn.ntmps - args.length) (DE.c undef)).getD t .any = _
                  rw [List.getD_eq_getElem?_getD, List.getElem?_append_right (by omega), List.getElem?_replicate]
                  rw [if_pos (by omega)]; rfl
                have e2 : (cargs ++ Array.replicate (fn.ntmps - cargs.size) undef).getD t undef = undef := by
                  rw [Array.getD_eq_getD_getElem?, Array.getElem?_append, if_neg (by omega), Array.getElem?_replicate]
                  split <;> rfl
                rw [e1]
                show RD _ _ _ _ _ _ ((cargs ++ Array.replicate (fn.ntmps - cargs.size) undef).getD t undef)
                rw [e2]; exact .c _
              · have e1 : σ1.tm.getD t .any = .any := by
                  show (args ++ List.replicate (fn.ntmps - args.length) (DE.c undef)).getD t .any = _
                  rw [List.getD_eq_getElem?_getD, List.getElem?_eq_none (by simp; omega)]; rfl
                rw [e1]; exact .any _
        have hrun := runC_mono (inF_fr n) c σ1 _ (fun e σ' => (if exits e then (match resultD P fn σ' with | some d => if (preOf σ1 σ').contains σ.clk then fStuck "saved slots" else K d { tm := σ.tm, bl := (σ.clk, .dead) :: σ'.bl, clk := σ'.clk, orc := σ'.orc } | none => fStuck "results") else fStuck "exit") ∧ FrB σ1 σ') (h a.tmps) (fun e σ' hk q1 _ _ => ⟨hk, q1⟩)
        refine runC_sound hm (inF_ok hm n) (inF_fr n) c σ1 _ ρ _ w _ hrun h0 fun e σ' ρ' a' w' hk h' => ?_
        obtain ⟨hk, hfb⟩ := hk
        obtain ⟨Ds, hD1, hD2, hD3, h'⟩ := HR.unmark h'
        generalize hwt : turned Ds w' = wt at h'
        split at hk
        · rename_i hex
          split at hk
          · rename_i d hd
            split at hk
            · exact hk.elim
            · rename_i hpre
              obtain ⟨v, hv1, hv2⟩ := resultD_ok h' hd
              obtain ⟨⟨p, hp⟩, _, h3⟩ := hfb
              have h3' : σ.clk + 64 ≤ σ'.clk := h3
              have hsv : σ'.blk σ.clk = .sv σ.tm a.tmps := by
                have hpo : preOf σ1 σ' = p.map (·.1) := by
                  unfold preOf
                  rw [hp, List.length_append, Nat.add_sub_cancel, List.take_left]
                have : σ'.blk = updB σ1.blk p := by
                  obtain ⟨tm, bl, c, oc⟩ := σ'
                  simp only at hp
                  subst hp
                  exact blk_app σ1 p tm c _
                rw [this, updB_of_not (by rw [← hpo]; simpa using hpre), hb1, updB_one]
              have hB := h'.blks σ.clk
              rw [hsv] at hB
              have hfin : (DS.mk σ.tm ((σ.clk, .dead) :: σ'.bl) σ'.clk σ'.orc).blk = updB σ'.blk [(σ.clk, .dead)] := blk_app σ' [(σ.clk, .dead)] _ _ _
              have H4 : ∀ b n, n < σ'.clk → stampOf (updB σ'.blk [(σ.clk, .dead)] b) = some n → stampOf (σ'.blk b) = some n ∧ ρ' b = ρ' b := fun b n _ hst => by
                by_cases hc : b = σ.clk
                · rw [hc, updB_one] at hst; cases hst
                · rw [updB_ne _ _ _ hc] at hst; exact ⟨hst, rfl⟩
              have H1 : ∀ g, okF base ok0 σ'.blk ρ' g → g < wt.heap.size → okF base ok0 (updB σ'.blk [(σ.clk, .dead)]) ρ' g ∧ wt.heap[g]? = wt.heap[g]? := fun g hg _ => ⟨⟨hg.1, fun b hl => by
                by_cases hc : b = σ.clk
                · rw [hc, updB_one] at hl; cases hl
                · rw [updB_ne _ _ _ hc] at hl; exact hg.2 b hl⟩, rfl⟩
              have hend : HS base w0 ok0 ⟨σ.tm, (σ.clk, .dead) :: σ'.bl, σ'.clk, σ'.orc⟩ ρ' a wt := by
                show HR base w0 ok0 (fun n => n < σ'.clk) σ.tm (DS.mk σ.tm ((σ.clk, .dead) :: σ'.bl) σ'.clk σ'.orc).blk ρ' a wt
                rw [hfin]
                refine HR.join (t := a.tmps) hs0 ?_
                refine HR.step h' (fun b => b = σ.clk) (fun b hc => updB_ne _ _ _ hc) (fun b _ => rfl) (fun b t cs _ _ => rfl) (fun b n x hc e => by rw [hc, hsv] at e; cases e)
                  (fun n hn => hn) (fun b hc => by show b < σ'.clk; rw [hc]; omega) (fun b n hc hn hst => H4 b n hn hst) (Nat.le_refl _) (fun _ _ _ => rfl)
                  (fun b hc hl => by rw [hc, updB_one] at hl; cases hl) (fun b b' hc _ hl => by rw [hc, updB_one] at hl; cases hl) rfl rfl rfl (fun _ _ b hc => ?_) (fun _ t => .inr ?_) hs.size rfl
                · rw [hc, updB_one]; exact hB.1
                · exact (hB.2.2 t).mono H1 (fun _ _ _ => rfl) (fun n hn => hn) H4
              have hdv := hv2.mono H1 (fun _ _ _ => rfl) (fun n hn => hn) H4
              rw [← hfin] at hdv
              cases e with
              | normal => exact ⟨Ds, hD1, hD2, hD3, v, by rw [hwt]; exact hv1, v, rfl, d, _, ρ', hk, by rw [hwt]; exact hend, by rw [hwt]; exact hdv⟩
              | ret => exact ⟨Ds, hD1, hD2, hD3, v, by rw [hwt]; exact hv1, v, rfl, d, _, ρ', hk, by rw [hwt]; exact hend, by rw [hwt]; exact hdv⟩
              | exit i => cases hex
              | goto i => cases hex
              | panic i => cases hex
              | outgrown => cases hex
          · exact hk.elim
        · exact hk.elim
/-- **A function's contract out of its run.** -/
theorem fn_run (hm : P.follows .mixedOrders = true) (n : Nat) {f : FuncId} {fn : Func} {c : Code} (hf : P.funcs[f]? = some fn) (hb : fn.body = some c) (hent : Ent P f) {args : List AV} {orc : Orc} {sh : Sh} {r : AV} (h : fnF P Γ ann n f fn c orc args sh r) : Fn P f args sh r :=
  fn_of_run hm (inF_ok hm n) (inF_fr n) hf hb hent h
end
end Go.Proofs.YtacfofpbbempaaaGreatDoor
/- Plain values, reckoned. -/
namespace Go.Proofs.YtacfofpbbempaaaGreatDoor
open Go.RowKit
set_option linter.unusedVariables false
section
variable {a b n : Int} {k k' : IntKind} {s t : ByteArray} {p q : Bool} {L M : List (List AV)} {cs vs : List AV} {i j m sz : Nat} {x y z : AV} {v : Value}
@[simp] theorem av_cel : AV.cel (.agg cs) j = cs.getD j default := rfl
@[simp] theorem av_prj : AV.prj (.tup vs) j = vs.getD j default := rfl
@[simp] theorem av_isAgg : AV.isAgg (.agg cs) m ↔ cs.length = m := ⟨fun ⟨_, e, h⟩ => by cases e; exact h, fun h => ⟨_, rfl, h⟩⟩
@[simp] theorem av_isTup : AV.isTup (.tup cs) m ↔ cs.length = m := ⟨fun ⟨_, e, h⟩ => by cases e; exact h, fun h => ⟨_, rfl, h⟩⟩
@[simp] theorem av_hasPart : hasPart (.tup cs) i ↔ i < cs.length := ⟨fun ⟨m, h, hi⟩ => by rw [av_isTup] at h; omega, fun h => ⟨_, av_isTup.2 rfl, h⟩⟩
@[simp] theorem av_isSl : AV.isSl (.sl i L) j ↔ i = j := ⟨fun h => by have h' : AV.sl i L = .sl j L := h; injection h', fun h => by subst h; rfl⟩
@[simp] theorem av_isInt : AV.isInt (.lit (.int k n)) ↔ True := ⟨fun _ => trivial, fun _ => ⟨_, _, rfl⟩⟩
@[simp] theorem av_isI64 : AV.isI64 (.lit (.int .i64 n)) ↔ True := ⟨fun _ => trivial, fun _ => rfl⟩
@[simp] theorem av_isBool : AV.isBool (.lit (.bool p)) ↔ True := ⟨fun _ => trivial, fun _ => rfl⟩
@[simp] theorem av_isStr : AV.isStr (.lit (.string s)) ↔ True := ⟨fun _ => trivial, fun _ => rfl⟩
@[simp] theorem av_isOne_int : AV.isOne (.lit (.int k n)) ↔ True := ⟨fun _ => trivial, fun _ => rfl⟩
@[simp] theorem av_isOne_bool : AV.isOne (.lit (.bool p)) ↔ True := ⟨fun _ => trivial, fun _ => rfl⟩
@[simp] theorem av_isOne_str : AV.isOne (.lit (.string s)) ↔ True := ⟨fun _ => trivial, fun _ => rfl⟩
@[simp] theorem av_isOne_ni : AV.isOne (.lit .nilIface) ↔ True := ⟨fun _ => trivial, fun _ => rfl⟩
@[simp] theorem av_isNI : AV.isNI (.lit .nilIface) ↔ True := ⟨fun _ => trivial, fun _ => rfl⟩
@[simp] theorem av_isOne_sl : AV.isOne (.sl i L) ↔ True := ⟨fun _ => trivial, fun _ => rfl⟩
@[simp] theorem av_len : AV.len (.sl i L) = .lit (.int .i64 (L.length : Nat)) := rfl
@[simp] theorem av_slen : AV.slen (.lit (.string s)) = .lit (.int .i64 (s.size : Nat)) := rfl
@[simp] theorem av_els : AV.els (.sl i L) = L := rfl
@[simp] theorem av_num : AV.num (.lit (.int k n)) = n := rfl
@[simp] theorem av_tru : AV.tru (.lit (.bool p)) = p := rfl
@[simp] theorem av_str : AV.str (.lit (.string s)) = s := rfl
@[simp] theorem av_kind : AV.kind (.lit (.int k n)) = k := rfl
@[simp] theorem av_mk : AV.mk i L = .sl i L := rfl
@[simp] theorem av_app : AV.app i (.sl j L) (.sl m M) = .sl i (L ++ M) := rfl
@[simp] theorem av_inb : AV.inb (.sl i L) (.lit (.int k n)) ↔ 0 ≤ n ∧ n < L.length := ⟨fun h => h.2, fun h => ⟨⟨_, _, rfl⟩, h⟩⟩
@[simp] theorem av_sinb : AV.sinb (.lit (.string s)) (.lit (.int k n)) ↔ 0 ≤ n ∧ n < s.size := ⟨fun h => h.2, fun h => ⟨⟨_, _, rfl⟩, h⟩⟩
@[simp] theorem av_at : AV.at (.sl i L) (.lit (.int k n)) j = gt2 L n.toNat j := rfl
@[simp] theorem av_subOk : AV.subOk (.sl i L) (.lit (.int k a)) (.lit (.int k' b)) ↔ 0 ≤ a ∧ a ≤ b ∧ b ≤ L.length := ⟨fun h => h.2.2, fun h => ⟨⟨_, _, rfl⟩, ⟨_, _, rfl⟩, h⟩⟩
@[simp] theorem av_sub : AV.sub i (.sl j L) (.lit (.int k a)) (.lit (.int k' b)) = .sl i ((L.take b.toNat).drop a.toNat) := rfl
@[simp] theorem av_binOk_int {op : BinOp} : AV.binOk op (.lit (.int k a)) (.lit (.int k' b)) ↔ k = k' ∧ (match op with | .quo | .rem => b ≠ 0 | .shl | .shr => False | _ => True) := Iff.rfl
@[simp] theorem av_add : AV.bin .add (.lit (.int k a)) (.lit (.int k' b)) = .lit (.int k (k.wrap (a + b))) := rfl
@[simp] theorem av_subt : AV.bin .sub (.lit (.int k a)) (.lit (.int k' b)) = .lit (.int k (k.wrap (a - b))) := rfl
@[simp] theorem av_mul : AV.bin .mul (.lit (.int k a)) (.lit (.int k' b)) = .lit (.int k (k.wrap (a * b))) := rfl
@[simp] theorem av_quo : AV.bin .quo (.lit (.int k a)) (.lit (.int k' b)) = .lit (.int k (k.wrap (a.tdiv b))) := rfl
@[simp] theorem av_rem : AV.bin .rem (.lit (.int k a)) (.lit (.int k' b)) = .lit (.int k (a.tmod b)) := rfl
@[simp] theorem av_eql : AV.bin .eql (.lit (.int k a)) (.lit (.int k' b)) = .lit (.bool (a == b)) := rfl
@[simp] theorem av_neq : AV.bin .neq (.lit (.int k a)) (.lit (.int k' b)) = .lit (.bool (a != b)) := rfl
@[simp] theorem av_lss : AV.bin .lss (.lit (.int k a)) (.lit (.int k' b)) = .lit (.bool (decide (a < b))) := rfl
@[simp] theorem av_leq : AV.bin .leq (.lit (.int k a)) (.lit (.int k' b)) = .lit (.bool (decide (a ≤ b))) := rfl
@[simp] theorem av_gtr : AV.bin .gtr (.lit (.int k a)) (.lit (.int k' b)) = .lit (.bool (decide (a > b))) := rfl
@[simp] theorem av_geq : AV.bin .geq (.lit (.int k a)) (.lit (.int k' b)) = .lit (.bool (decide (a ≥ b))) := rfl
@[simp] theorem av_mx : AV.mx (.lit (.int k a)) (.lit (.int k' b)) = .lit (.int k (if b > a then b else a)) := rfl
@[simp] theorem av_mn : AV.mn (.lit (.int k a)) (.lit (.int k' b)) = .lit (.int k (if b < a then b else a)) := rfl
@[simp] theorem av_isT : isT (.lit (.bool p)) ↔ p = true := Iff.rfl
@[simp] theorem av_isF : isF (.lit (.bool p)) ↔ p = false := Iff.rfl
@[simp] theorem av_flat : AV.flat (.lit v) ↔ True := ⟨fun _ => trivial, fun _ => .lit v⟩
@[simp] theorem av_flat_nil : AV.flat (.sl i []) ↔ True := ⟨fun _ => trivial, fun _ => .nil i⟩
@[simp] theorem av_flat_agg : AV.flat (.agg cs) ↔ ∀ x ∈ cs, x.flat := ⟨fun h => by cases h with | agg _ h => exact h, fun h => .agg cs h⟩
@[simp] theorem av_flatS : AV.flatS (.sl i L) ↔ ∀ y ∈ L, ∀ z ∈ y, z.flat := Iff.rfl
@[simp] theorem f_same : fSame x y ↔ x = y := Iff.rfl
@[simp] theorem f_ent {P : Program} {f : FuncId} : fEnt P f ↔ Ent P f := Iff.rfl
@[simp] theorem f_nil {F G : Prop} : fNil (.sl i L) F G ↔ (L = [] → F) ∧ G := ⟨fun h => h.elim (fun q => q.2) (fun q => by cases q.1), fun h => .inl ⟨⟨_, _, rfl⟩, h⟩⟩
@[simp] theorem f_nil_lit {F G : Prop} : fNil (.lit (.slice none 0 0)) F G ↔ F := ⟨fun h => h.elim (fun q => by obtain ⟨_, _, e⟩ := q.1; cases e) (fun q => q.2), fun h => .inr ⟨rfl, h⟩⟩
@[simp] theorem f_allV {p : Prop} : fAllV (fun _ => p) ↔ p := ⟨fun h => h #[], fun h _ => h⟩
/-- A loop, by what it carries. -/
theorem loop_of {τ : Type} (enc : τ → List AV) (Inv : τ → Prop) (μ : τ → Nat) {xs : List AV} {body : List AV → (List AV → Prop) → Prop} (x0 : τ) (h0 : xs = enc x0) (hI : Inv x0) (hb : ∀ x, Inv x → body (enc x) fun zs => ∃ m', m' < μ x ∧ ∃ y, zs = enc y ∧ Inv y ∧ μ y = m') : fLoop i xs body := by
  subst h0
  refine ⟨fun m ys => ∃ y, ys = enc y ∧ Inv y ∧ μ y = m, μ x0, ⟨x0, rfl, hI, rfl⟩, ?_⟩
  rintro m ys _ ⟨y, rfl, hy, rfl⟩
  exact hb y hy
theorem wrap64 (h1 : -9223372036854775808 ≤ a) (h2 : a ≤ 9223372036854775807) : IntKind.i64.wrap a = a := by
  simp [IntKind.wrap, IntKind.bits, IntKind.signed]; omega
end
theorem mixed : Tryz.prog.follows .mixedOrders = true := by kernel_rfl
end Go.Proofs.YtacfofpbbempaaaGreatDoor
/- What every law's proof closes with. -/
namespace Go.Proofs.YtacfofpbbempaaaGreatDoor
open Go.ChangeShapes Go.WideShapes Go.ChangeAt Go.RowKit

theorem own : ownKnob Tryz.prog.godebug = none := by kernel_rfl
theorem laidOut : laidOutB Tryz.prog = true := by kernel_rfl


theorem law_end {H : Type} {enc : TypeId × Value → H} {f : Func} {s : ChangeSpec} {W W' : World} {args : Array Value} {ds gs : List (DataW H)} {before : List MemPlace} {e : Ending}
    (hts : (f.params.toList.all fun t => Tryz.prog.readableRec t && decide (t < Tryz.prog.types.size)) = true) (hres : f.resultTypes = #[4]) (hv : s.vars = [])
    (hW : DataW.Whole enc Tryz.prog f.params.toList s.vars false W args.toList ds gs before) (h1 : (s.fn H (ds ++ gs)).results = [.lit (.bool true)]) (h2 : (s.fn H (ds ++ gs)).args = ds) (h3 : (s.fn H (ds ++ gs)).vars = [])
    (hr : Ret (.bool true) W e W') : ∃ v, e = .returned v ∧ s.post enc Tryz.prog f false true false false W args v W' := by
  refine ⟨_, hr.1, law_post laidOut (fun t ht => ?_) hres Tryz.underlying4 hv hW h1 h2 h3 hr.below⟩
  have := List.all_eq_true.1 hts t ht
  simp only [Bool.and_eq_true, decide_eq_true_eq] at this
  exact this
end Go.Proofs.YtacfofpbbempaaaGreatDoor
/- Arguments, opened: whatever their types, as plain values; and a law's last step. -/
namespace Go.Proofs.YtacfofpbbempaaaGreatDoor
open Go.ChangeShapes Go.WideShapes Go.ChangeAt Go.RowKit Go.Deep
set_option linter.unusedVariables false
/-! ### the cells of a type -/
def flatFs (P : Program) (fl : TypeId → Option (List TypeId)) : Nat → List Field → Option (List TypeId)
  | _, [] => some []
  | o, f :: fs => if f.offset = o then (match fl f.type, flatFs P fl (o + P.cellsOf f.type) fs with
      | some a, some b => if a.length = P.cellsOf f.type then some (a ++ b) else none
      | _, _ => none) else none
def flatTy (P : Program) : Nat → TypeId → Option (List TypeId)
  | 0, _ => none
  | d + 1, t => match P.underlying t with
    | some (.int _) => some [t]
    | some .string => some [t]
    | some .bool => some [t]
    | some (.slice _) => some [t]
    | some (.struct fs) => match flatFs P (flatTy P d) 0 fs.toList with
        | some l => if l.length = P.cellsOf t then some l else none
        | none => none
    | some (.array n e) => match flatTy P d e with
        | some l => if l.length = P.cellsOf e ∧ n * l.length = P.cellsOf t then some (List.replicate n l).flatten else none
        | none => none
    | _ => none
def CellOk (P : Program) : Nat → TypeId → AV → Prop
  | 0, _, _ => False
  | d + 1, u, x => match P.underlying u with
    | some (.int k) => ∃ n, x = .lit (.int k n) ∧ (Lit.int k n).wf = true
    | some .string => ∃ s : ByteArray, x = .string s ∧ s.size ≤ maxLen
    | some .bool => ∃ b, x = .bool b
    | some (.slice e) => ∃ (L : List (List AV)) (tys : List TypeId), x = .sl (P.cellsOf e) L ∧ L.length ≤ maxLen ∧ flatTy P 8 e = some tys ∧ ∀ y ∈ L, y.length = tys.length ∧ ∀ i u', tys[i]? = some u' → CellOk P d u' (y.getD i default)
    | _ => False
def cellB (P : Program) : Nat → TypeId → Bool
  | 0, _ => false
  | d + 1, u => match P.underlying u with
    | some (.int _) => true
    | some .string => true
    | some .bool => true
    | some (.slice e) => match flatTy P 8 e with
      | some tys => decide (tys.length = P.cellsOf e) && decide (0 < P.cellsOf e) && tys.all (cellB P d)
      | none => false
    | _ => false
section
variable {H : Type} {enc : TypeId × Value → H} {P : Program} {W : World}
theorem fields_of {t : TypeId} {fs : Array Field} {fuel : Nat} {cs : List Value} {x : DataW H × List MemPlace}
    (ht : P.underlying t = some (.struct fs)) (h : DataW.trod enc P W 0 (fun _ => true) true fuel t cs = some x) :
    cs.length = P.cellsOf t ∧ ∃ m, ∀ f ∈ fs.toList, ∃ y, DataW.trod enc P W 0 (fun _ => true) true m f.type ((cs.drop f.offset).take (P.cellsOf f.type)) = some y := by
  obtain ⟨ys, m, _, _, hl, hyl, hf⟩ := DataW.trod_struct ht h
  refine ⟨hl, m, fun f hm => ?_⟩
  obtain ⟨j, hj, e⟩ := List.getElem_of_mem hm
  have hj' : fs[j]? = some f := by rw [← Array.getElem?_toList, List.getElem?_eq_getElem hj, e]
  have hjl : j < ys.length := by rw [hyl]; simpa using hj
  exact ⟨_, (hf j f hj').trans (List.getElem?_eq_getElem hjl)⟩
theorem flatten_get {l : List TypeId} {u : TypeId} : ∀ (n i : Nat), ((List.replicate n l).flatten)[i]? = some u → ∃ k j, k < n ∧ j < l.length ∧ i = k * l.length + j ∧ l[j]? = some u
  | 0, i, h => by simp at h
  | n + 1, i, h => by
    rw [List.replicate_succ, List.flatten_cons, List.getElem?_append] at h
    split at h
    · rename_i hi; exact ⟨0, i, by omega, hi, by omega, h⟩
    · obtain ⟨k, j, hk, hj, e, hl⟩ := flatten_get n _ h
      exact ⟨k + 1, j, by omega, hj, by rw [Nat.add_mul]; omega, hl⟩
theorem seg_at {cs : List Value} {o n i : Nat} {v : Value} (h : ((cs.drop o).take n)[i]? = some v) : cs[o + i]? = some v := by
  rw [List.getElem?_take] at h
  split at h
  · rwa [List.getElem?_drop] at h
  · cases h
theorem flatten_len {l : List TypeId} : ∀ n, ((List.replicate n l).flatten).length = n * l.length
  | 0 => by simp
  | n + 1 => by simp
theorem trod_flat : ∀ (d : Nat) (t : TypeId) (tys : List TypeId), flatTy P d t = some tys → ∀ (fuel : Nat) (vs : List Value) (x : DataW H × List MemPlace), DataW.trod enc P W 0 (fun _ => true) true fuel t vs = some x →
    vs.length = tys.length ∧ ∀ (i : Nat) (u : TypeId), tys[i]? = some u → ∃ v m y, vs[i]? = some v ∧ DataW.trod enc P W 0 (fun _ => true) true m u [v] = some y
  | 0, t, tys, h, _, _, _, _ => by cases h
  | d + 1, t, tys, h, fuel, vs, x, hx => by
    simp only [flatTy] at h
    have one : ∀ v, vs = [v] → some [t] = some tys → vs.length = tys.length ∧ ∀ (i : Nat) (u : TypeId), tys[i]? = some u → ∃ v m y, vs[i]? = some v ∧ DataW.trod enc P W 0 (fun _ => true) true m u [v] = some y := by
      rintro v rfl e
      injection e with e; subst e
      refine ⟨rfl, fun i u hi => ?_⟩
      cases i with
      | zero => simp at hi; subst hi; exact ⟨v, fuel, x, rfl, hx⟩
      | succ i => simp at hi
    split at h
    · rename_i k hu; obtain ⟨n, e, _⟩ := DataW.trod_int hu hx; exact one _ e h
    · rename_i hu; obtain ⟨n, e, _⟩ := DataW.trod_string hu hx; exact one _ e h
    · rename_i hu; obtain ⟨n, e, _⟩ := DataW.trod_bool hu hx; exact one _ e h
    · rename_i e hu
      rcases open_slice hu hx with ⟨e, _⟩ | ⟨a, len, cap, m, fu, D, Pl, e, _⟩
      · exact one _ e h
      · exact one _ e h
    · rename_i fs hu
      split at h
      · rename_i l hl
        split at h
        · rename_i hlen
          injection h with h; subst h
          obtain ⟨hvl, m, hf⟩ := fields_of hu hx
          refine ⟨by omega, ?_⟩
          clear hlen hvl hx
          have key : ∀ (fs : List Field) (o : Nat) (l : List TypeId), flatFs P (flatTy P d) o fs = some l → (∀ f ∈ fs, ∃ y, DataW.trod enc P W 0 (fun _ => true) true m f.type ((vs.drop f.offset).take (P.cellsOf f.type)) = some y) →
              ∀ (i : Nat) (u : TypeId), l[i]? = some u → ∃ v m y, vs[o + i]? = some v ∧ DataW.trod enc P W 0 (fun _ => true) true m u [v] = some y := by
            intro fs
            induction fs with
            | nil => intro o l hl _ i u hi; simp only [flatFs, Option.some.injEq] at hl; subst hl; simp at hi
            | cons f fs ih =>
              intro o l hl hf i u hi
              simp only [flatFs] at hl
              split at hl
              · rename_i ho
                split at hl
                · rename_i a b ha hb
                  split at hl
                  · rename_i hal
                    injection hl with hl; subst hl
                    rw [List.getElem?_append] at hi
                    split at hi
                    · obtain ⟨y, hy⟩ := hf f (by simp)
                      obtain ⟨_, hg⟩ := trod_flat d f.type a ha m _ _ hy
                      obtain ⟨v, m', y', hv, hy'⟩ := hg i u hi
                      exact ⟨v, m', y', ho ▸ seg_at hv, hy'⟩
                    · obtain ⟨v, m', y', hv, hy'⟩ := ih _ _ hb (fun f hf' => hf f (by simp [hf'])) _ _ hi
                      refine ⟨v, m', y', ?_, hy'⟩
                      rw [← hv]; congr 1; omega
                  · cases hl
                · cases hl
              · cases hl
          intro i u hi
          have := key fs.toList 0 l hl hf i u hi
          simpa using this
        · cases h
      · cases h
    · rename_i n e hu
      split at h
      · rename_i l hl
        split at h
        · rename_i hlen
          injection h with h; subst h
          obtain ⟨xs, m, _, _, hvl, hxl, hf⟩ := DataW.trod_array hu hx
          refine ⟨by rw [hvl, flatten_len]; omega, fun i u hi => ?_⟩
          obtain ⟨k, j, hk, hj, rfl, hu'⟩ := flatten_get n i hi
          have h1 := hf k hk
          rw [List.getElem?_eq_getElem (by omega)] at h1
          obtain ⟨_, hg⟩ := trod_flat d e l hl m _ _ h1
          obtain ⟨v, m', y', hv, hy'⟩ := hg j u hu'
          exact ⟨v, m', y', by rw [hlen.1]; exact seg_at hv, hy'⟩
        · cases h
      · cases h
    · cases h
def okAll (W : World) (g : Nat) : Prop := g < W.heap.size
theorem add_none' (b off : Nat) (k : Nat) : (⟨b, off, none⟩ : Addr).add k = ⟨b, off + k, none⟩ := by simp [Addr.add]
theorem cell_open : ∀ (d : Nat) (u : TypeId), cellB P d u = true → ∀ (m : Nat) (v : Value) (y : DataW H × List MemPlace), DataW.trod enc P W 0 (fun _ => true) true m u [v] = some y →
    v.oneCell' = true ∧ ∃ x, CellOk P d u x ∧ RV W (okAll W) x v
  | 0, u, h, _, _, _, _ => by cases h
  | d + 1, u, h, m, v, y, hy => by
    simp only [cellB] at h
    simp only [CellOk]
    split at h
    · rename_i k hu
      obtain ⟨n, e, _, hw⟩ := DataW.trod_int hu hy
      simp only [List.cons.injEq, and_true] at e
      subst e
      exact ⟨rfl, _, ⟨n, rfl, hw⟩, .lit _⟩
    · rename_i hu
      obtain ⟨n, e, _, hw⟩ := DataW.trod_string hu hy
      simp only [List.cons.injEq, and_true] at e
      subst e
      exact ⟨rfl, _, ⟨n, rfl, hw⟩, .lit _⟩
    · rename_i hu
      obtain ⟨n, e, _⟩ := DataW.trod_bool hu hy
      simp only [List.cons.injEq, and_true] at e
      subst e
      exact ⟨rfl, _, ⟨n, rfl⟩, .lit _⟩
    · rename_i e hu
      split at h
      · rename_i tys htys
        simp only [Bool.and_eq_true, decide_eq_true_eq, List.all_eq_true] at h
        obtain ⟨⟨hl, hpos⟩, hall⟩ := h
        rcases open_slice hu hy with ⟨ev, _⟩ | ⟨a, len, cap, m', fu, D, Pl, ev, hb, hlc, hcm, hmm, hx, hi⟩
        · simp only [List.cons.injEq, and_true] at ev
          subst ev
          exact ⟨rfl, _, ⟨[], tys, rfl, by unfold maxLen; simp, htys, fun y hy => by simp at hy⟩, rv_nil _ _⟩
        · simp only [List.cons.injEq, and_true] at ev
          subst ev
          simp only [if_true] at hmm
          have key : ∀ i, ∃ (Y : List AV) (us : Nat → Value), i < len → (Y.length = tys.length ∧ (∀ j u', tys[j]? = some u' → CellOk P d u' (Y.getD j default)) ∧ ∀ j, j < P.cellsOf e → W.cell? (a.add (i * P.cellsOf e + j)) = some (us j) ∧ (us j).oneCell' = true ∧ RV W (okAll W) (Y.getD j default) (us j)) := by
            intro i
            by_cases hlt : i < len
            · obtain ⟨cs', hc, ht'⟩ := hi i (by omega)
              obtain ⟨_, hcl, hat⟩ := World.cells?_some hc
              obtain ⟨q1, q2⟩ := trod_flat 8 e tys htys fu cs' _ ht'
              have step : ∀ j, ∃ (X : AV) (uv : Value), j < tys.length → ((∀ u', tys[j]? = some u' → CellOk P d u' X) ∧ cs'[j]? = some uv ∧ uv.oneCell' = true ∧ RV W (okAll W) X uv) := by
                intro j
                by_cases hj : j < tys.length
                · obtain ⟨v, m2, y2, hv, hy2⟩ := q2 j _ (List.getElem?_eq_getElem hj)
                  obtain ⟨o1, X, hX, hR⟩ := cell_open d tys[j] (hall _ (List.getElem_mem hj)) m2 v y2 hy2
                  exact ⟨X, v, fun _ => ⟨fun u' hu' => by rw [List.getElem?_eq_getElem hj] at hu'; injection hu' with hu'; subst hu'; exact hX, hv, o1, hR⟩⟩
                · exact ⟨default, undef, fun h => absurd h hj⟩
              obtain ⟨fx, step⟩ := Classical.skolem.1 step
              obtain ⟨fv, step⟩ := Classical.skolem.1 step
              refine ⟨(List.range tys.length).map fx, fv, fun _ => ⟨by simp, fun j u' hj => ?_, fun j hj => ?_⟩⟩
              · have hjl : j < tys.length := (List.getElem?_eq_some_iff.1 hj).1
                have := (step j hjl).1 u' hj
                simpa [hjl] using this
              · have hjl : j < tys.length := by omega
                obtain ⟨_, s2, s3, s4⟩ := step j hjl
                refine ⟨?_, s3, by simpa [hjl] using s4⟩
                rw [← Go.Deep.add_add, hat j hj, s2]
            · exact ⟨[], fun _ => undef, fun h => absurd h hlt⟩
          obtain ⟨Y, key⟩ := Classical.skolem.1 key
          obtain ⟨us, key⟩ := Classical.skolem.1 key
          refine ⟨rfl, .sl (P.cellsOf e) ((List.range len).map Y), ⟨_, tys, rfl, by simp; omega, htys, fun y hy => ?_⟩, ?_⟩
          · obtain ⟨i, hi', rfl⟩ := List.mem_map.1 hy
            have := key i (by simpa using hi')
            exact ⟨this.1, this.2.1⟩
          · obtain ⟨b, off, spot⟩ := a
            refine .sl _ _ _ len cap us (by simp) hlc hcm (fun x hx' => ?_) (fun h0 => ?_) (fun i j hi' hj => ((key i hi').2.2 j hj).2.1) (fun i j hi' hj => ?_)
            · obtain ⟨i, hi', rfl⟩ := List.mem_map.1 hx'
              have := key i (by simpa using hi')
              omega
            · have c0 := ((key 0 h0).2.2 0 hpos).1
              have hspot : spot = none := by simpa [Addr.add] using World.cell?_spot c0
              subst hspot
              have hlt : b < W.heap.size := by
                rw [add_none'] at c0
                exact block_lt_of_cell c0
              refine ⟨b, off, rfl, hlt, hlt, fun i j hi' hj => ?_⟩
              have := ((key i hi').2.2 j hj).1
              rw [add_none'] at this
              rw [← this]
              congr 2
              omega
            · have := ((key i hi').2.2 j hj).2.2
              simpa [gt2, hi'] using this
      · cases h
    · cases h
/-- What an argument of type t may be. -/
def ArgOk (P : Program) (t : TypeId) (x : AV) : Prop :=
  match isAggT P t with
  | true => ∃ (cs : List AV) (tys : List TypeId), x = .agg cs ∧ flatTy P 8 t = some tys ∧ cs.length = tys.length ∧ ∀ i u, tys[i]? = some u → CellOk P 8 u (cs.getD i default)
  | false => CellOk P 8 t x
def argB (P : Program) (t : TypeId) : Bool :=
  match isAggT P t with
  | true => match flatTy P 8 t with
    | some tys => tys.all (cellB P 8)
    | none => false
  | false => cellB P 8 t
theorem arg_open {t : TypeId} {v : Value} {base : Nat} {dd : DataW H} {p : List MemPlace} (hb : argB P t = true) (hv : Value.okWide P W .any base t v) (h : DataW.Trod enc P W 0 (fun _ => true) true t v dd p) : ∃ x, ArgOk P t x ∧ RV W (okAll W) x v := by
  obtain ⟨fuel, hf⟩ := h
  unfold argB at hb
  unfold ArgOk
  split at hb
  · rename_i ha
    split at hb
    · rename_i tys htys
      have hagg : ∃ cs, v = .agg cs := by
        unfold isAggT at ha
        split at ha
        · rename_i hu; simp only [Value.okWide, hu] at hv; obtain ⟨cs, e, _⟩ := hv; exact ⟨cs, e⟩
        · rename_i hu; simp only [Value.okWide, hu] at hv; obtain ⟨cs, e, _⟩ := hv; exact ⟨cs, e⟩
        · cases ha
      obtain ⟨vs, rfl⟩ := hagg
      obtain ⟨q1, q2⟩ := trod_flat 8 t tys htys fuel _ _ hf
      have q1 : vs.size = tys.length := by simpa [Value.cells] using q1
      have step : ∀ j, ∃ (X : AV), j < tys.length → ((∀ u', tys[j]? = some u' → CellOk P 8 u' X) ∧ (vs.getD j undef).oneCell' = true ∧ RV W (okAll W) X (vs.getD j undef)) := by
        intro j
        by_cases hj : j < tys.length
        · obtain ⟨v, m2, y2, hv, hy2⟩ := q2 j _ (List.getElem?_eq_getElem hj)
          obtain ⟨o1, X, hX, hR⟩ := cell_open 8 tys[j] (List.all_eq_true.1 hb _ (List.getElem_mem hj)) m2 v y2 hy2
          have e : vs.getD j undef = v := by
            have hv' : vs[j]? = some v := by simpa [Value.cells] using hv
            rw [Array.getD_eq_getD_getElem?, hv']; rfl
          rw [e]
          exact ⟨X, fun _ => ⟨fun u' hu' => by rw [List.getElem?_eq_getElem hj] at hu'; injection hu' with hu'; subst hu'; exact hX, o1, hR⟩⟩
        · exact ⟨default, fun h => absurd h hj⟩
      obtain ⟨fx, step⟩ := Classical.skolem.1 step
      refine ⟨.agg ((List.range tys.length).map fx), ⟨_, tys, rfl, htys, by simp, fun j u' hj => ?_⟩, ?_⟩
      · have hjl : j < tys.length := (List.getElem?_eq_some_iff.1 hj).1
        have := (step j hjl).1 u' hj
        simpa [hjl] using this
      · refine .agg _ _ (by simp [q1]) (fun i hi => ?_) (fun i hi => ?_)
        · exact (step i (by simpa using hi)).2.1
        · have hi' : i < tys.length := by simpa using hi
          have := (step i hi').2.2
          simpa [hi'] using this
    · cases hb
  · rename_i ha
    have h1 : v.cells.toList = [v] := by
      cases v with
      | agg cs =>
        exfalso
        simp only [cellB] at hb
        split at hb
        · rename_i hu; obtain ⟨_, e⟩ := okWide_int hu hv; cases e
        · rename_i hu; obtain ⟨_, e⟩ := okWide_string hu hv; cases e
        · rename_i hu; obtain ⟨_, e⟩ := okWide_bool hu hv; cases e
        · rename_i hu; obtain ⟨_, _, _, e⟩ := okWide_slice hu hv; cases e
        · cases hb
      | _ => rfl
    rw [h1] at hf
    exact (cell_open 8 t hb fuel v _ hf).2
theorem args_open {base : Nat} : ∀ (ts : List TypeId) (vs : List Value) (ds : List (DataW H)) (p : List MemPlace), DataW.TrodAll enc P W 0 (fun _ => true) true ts vs ds p →
    (∀ (j : Nat) t v, ts[j]? = some t → vs[j]? = some v → Value.okWide P W .any base t v) → ts.all (argB P) = true →
    ∃ xs : List AV, xs.length = ts.length ∧ vs.length = ts.length ∧ ∀ i, i < ts.length → ArgOk P (ts.getD i 0) (xs.getD i default) ∧ RV W (okAll W) (xs.getD i default) (vs.getD i undef)
  | [], vs, ds, p, h, _, _ => by
    obtain ⟨rfl, _, _⟩ := trodAll_nil h
    exact ⟨[], rfl, rfl, fun i hi => by simp at hi⟩
  | t :: ts, vs, ds, p, h, hv, hb => by
    obtain ⟨v, vs', d, ds', p', q, rfl, rfl, rfl, h1, h2⟩ := trodAll_cons h
    rw [List.all_cons, Bool.and_eq_true] at hb
    obtain ⟨x, hx, hr⟩ := arg_open hb.1 (hv 0 t v rfl rfl) h1
    obtain ⟨xs, l1, l2, hxs⟩ := args_open ts vs' ds' q h2 (fun j t v h3 h4 => hv (j + 1) t v (by simpa using h3) (by simpa using h4)) hb.2
    refine ⟨x :: xs, by simp [l1], by simp [l2], fun i hi => ?_⟩
    cases i with
    | zero => exact ⟨hx, hr⟩
    | succ i => simpa using hxs i (by simpa using hi)
/-! ### what is known of an opened value -/
theorem cell_int {d : Nat} {u : TypeId} {k : IntKind} {x : AV} (hu : P.underlying u = some (.int k)) (h : CellOk P (d + 1) u x) : ∃ n, x = .lit (.int k n) ∧ (Lit.int k n).wf = true := by
  simpa only [CellOk, hu] using h
theorem cell_str {d : Nat} {u : TypeId} {x : AV} (hu : P.underlying u = some .string) (h : CellOk P (d + 1) u x) : ∃ s : ByteArray, x = .string s ∧ s.size ≤ maxLen := by
  simpa only [CellOk, hu] using h
theorem cell_sl {d : Nat} {u e : TypeId} {x : AV} {tys : List TypeId} {s : Nat} (hu : P.underlying u = some (.slice e)) (ht : flatTy P 8 e = some tys) (hs : P.cellsOf e = s) (h : CellOk P (d + 1) u x) :
    ∃ L : List (List AV), x = .sl s L ∧ L.length ≤ maxLen ∧ ∀ y ∈ L, y.length = tys.length ∧ ∀ i u', tys[i]? = some u' → CellOk P d u' (y.getD i default) := by
  simp only [CellOk, hu] at h
  obtain ⟨L, tys', e1, h1, h2, h3⟩ := h
  rw [ht] at h2
  injection h2 with h2
  subst h2 hs
  exact ⟨L, e1, h1, h3⟩
theorem arg_cell {t : TypeId} {x : AV} (hi : isAggT P t = false) (h : ArgOk P t x) : CellOk P 8 t x := by
  unfold ArgOk at h; rwa [hi] at h
theorem arg_agg {t : TypeId} {x : AV} {tys : List TypeId} (hi : isAggT P t = true) (ht : flatTy P 8 t = some tys) (h : ArgOk P t x) : ∃ cs : List AV, x = .agg cs ∧ cs.length = tys.length ∧ ∀ i u, tys[i]? = some u → CellOk P 8 u (cs.getD i default) := by
  unfold ArgOk at h; rw [hi] at h
  obtain ⟨cs, tys', e1, h2, h3, h4⟩ := h
  rw [ht] at h2
  injection h2 with h2
  subst h2
  exact ⟨cs, e1, h3, h4⟩
theorem list_dec {α : Type} {encA : α → List AV} {Q : α → Prop} : ∀ {L : List (List AV)}, (∀ y ∈ L, ∃ a, y = encA a ∧ Q a) → ∃ l : List α, L = l.map encA ∧ ∀ a ∈ l, Q a
  | [], _ => ⟨[], rfl, fun a ha => by simp at ha⟩
  | y :: L, h => by
    obtain ⟨a, e, hq⟩ := h y (by simp)
    obtain ⟨l, e2, hl⟩ := list_dec (L := L) fun y hy => h y (by simp [hy])
    exact ⟨a :: l, by rw [e, e2]; rfl, fun b hb => by exact (List.mem_cons.1 hb).elim (fun e => e ▸ hq) (fun hb => hl b hb)⟩
end
end Go.Proofs.YtacfofpbbempaaaGreatDoor
/- Lists as plain values; loops over a list. -/
namespace Go.Proofs.YtacfofpbbempaaaGreatDoor
open Go.RowKit
set_option linter.unusedVariables false
/-- A slice whose elements are those of a list, each by its cells. -/
def lst {α : Type} (s : Nat) (enc : α → List AV) (l : List α) : AV := .sl s (l.map enc)
section
variable {α : Type} {s i j m : Nat} {enc : α → List AV} {l l' : List α} {k k' : IntKind} {a b n : Int} {x : α} {y z : AV} {F G : Prop}
@[simp] theorem lst_els : AV.els (lst s enc l) = l.map enc := rfl
@[simp] theorem lst_len : AV.len (lst s enc l) = .lit (.int .i64 (l.length : Nat)) := by simp [lst]
@[simp] theorem lst_isSl : AV.isSl (lst s enc l) j ↔ s = j := by simp [lst]
@[simp] theorem lst_isOne : AV.isOne (lst s enc l) ↔ True := by simp [lst]
@[simp] theorem lst_inb : AV.inb (lst s enc l) (.lit (.int k n)) ↔ 0 ≤ n ∧ n < l.length := by simp [lst]
@[simp] theorem lst_subOk : AV.subOk (lst s enc l) (.lit (.int k a)) (.lit (.int k' b)) ↔ 0 ≤ a ∧ a ≤ b ∧ b ≤ l.length := by simp [lst]
@[simp] theorem lst_sub : AV.sub i (lst i enc l) (.lit (.int k a)) (.lit (.int k' b)) = lst i enc ((l.take b.toNat).drop a.toNat) := by simp [lst, List.map_drop, List.map_take]
@[simp] theorem lst_app : AV.app i (lst j enc l) (lst m enc l') = lst i enc (l ++ l') := by simp [lst]
@[simp] theorem lst_nil : lst s enc [] = .sl s [] := rfl
@[simp] theorem lst_fnil : fNil (lst s enc l) F G ↔ (l = [] → F) ∧ G := by unfold lst; simp
theorem lst_at {n : Nat} (h : l[n]? = some x) : AV.at (lst s enc l) (.lit (.int k (n : Nat))) j = (enc x).getD j default := by
  simp [lst, gt2, List.getD_eq_getElem?_getD, h]
theorem lst_atAgg {n : Nat} (h : l[n]? = some x) : AV.atAgg (lst s enc l) (.lit (.int k (n : Nat))) j m = .agg (((enc x).drop j).take m) := by
  simp [lst, AV.atAgg, List.getD_eq_getElem?_getD, h]
theorem lst_atI (hn : 0 ≤ n) (h : l[n.toNat]? = some x) : AV.at (lst s enc l) (.lit (.int k n)) j = (enc x).getD j default := by
  simp [lst, gt2, List.getD_eq_getElem?_getD, h]
theorem lst_flatS (h : ∀ x ∈ l, ∀ z ∈ enc x, z.flat) : (lst s enc l).flatS := by
  intro y hy z hz
  simp only [lst_els, List.mem_map] at hy
  obtain ⟨x, hx, rfl⟩ := hy
  exact h x hx z hz
theorem lst_setEl {n : Nat} {x' : α} {cs : List AV} (h : l[n]? = some x) (he : (enc x).take j ++ cs ++ (enc x).drop (j + cs.length) = enc x') : AV.setEl (lst s enc l) (.lit (.int k (n : Nat))) j cs = lst s enc (l.set n x') := by
  simp only [lst, AV.setEl, av_num, Int.toNat_natCast]
  congr 1
  rw [List.map_set, ← he]
  simp [List.getD_eq_getElem?_getD, h]
end
/-- **A loop over a list** that it reads from its head on. -/
theorem loop_list {α σ : Type} {i : Nat} (l : List α) (enc : Nat → σ → List AV) (G : Nat → List α → σ → Prop) {xs : List AV} {body : List AV → (List AV → Prop) → Prop} (s0 : σ) (h0 : xs = enc 0 s0) (hG : G 0 l s0)
    (hstep : ∀ n x rest s (K : List AV → Prop), l[n]? = some x → l.drop (n + 1) = rest → n < l.length → G n (x :: rest) s → (∀ zs s', zs = enc (n + 1) s' → G (n + 1) rest s' → K zs) → body (enc n s) K)
    (hend : ∀ s (K : List AV → Prop), G l.length [] s → body (enc l.length s) K) : fLoop i xs body := by
  subst h0
  refine ⟨fun m ys => ∃ n s, ys = enc n s ∧ n ≤ l.length ∧ m = l.length - n ∧ G n (l.drop n) s, l.length, ⟨0, s0, rfl, Nat.zero_le _, rfl, hG⟩, ?_⟩
  rintro m ys _ ⟨n, s, rfl, hn, rfl, hg⟩
  rcases Nat.lt_or_ge n l.length with h | h
  · rw [List.drop_eq_getElem_cons h] at hg
    refine hstep n l[n] (l.drop (n + 1)) s _ (List.getElem?_eq_getElem h) rfl h hg ?_
    rintro zs s' rfl hg'
    exact ⟨l.length - (n + 1), by omega, n + 1, s', rfl, h, rfl, hg'⟩
  · obtain rfl : n = l.length := by omega
    rw [List.drop_length] at hg
    exact hend s _ hg
/-- A loop that counts to a bound. -/
theorem loop_nat {σ : Type} {i : Nat} (N : Nat) (enc : Nat → σ → List AV) (G : Nat → σ → Prop) {xs : List AV} {body : List AV → (List AV → Prop) → Prop} (s0 : σ) (h0 : xs = enc 0 s0) (hG : G 0 s0)
    (hstep : ∀ n s (K : List AV → Prop), n < N → G n s → (∀ zs s', zs = enc (n + 1) s' → G (n + 1) s' → K zs) → body (enc n s) K)
    (hend : ∀ s (K : List AV → Prop), G N s → body (enc N s) K) : fLoop i xs body := by
  subst h0
  refine ⟨fun m ys => ∃ n s, ys = enc n s ∧ n ≤ N ∧ m = N - n ∧ G n s, N, ⟨0, s0, rfl, Nat.zero_le _, rfl, hG⟩, ?_⟩
  rintro m ys _ ⟨n, s, rfl, hn, rfl, hg⟩
  rcases Nat.lt_or_ge n N with h | h
  · refine hstep n s _ h hg ?_
    rintro zs s' rfl hg'
    exact ⟨N - (n + 1), by omega, n + 1, s', rfl, h, rfl, hg'⟩
  · obtain rfl : n = N := by omega
    exact hend s _ hg
/-- Strings. -/
theorem bytes_eq {a b : ByteArray} : (a.toList == b.toList) = decide (a = b) := by
  by_cases h : a = b
  · subst h; simp
  · rw [decide_eq_false h]
    simp only [beq_eq_false_iff_ne, ne_eq]
    intro e
    apply h
    rw [ByteArray.toList_eq, ByteArray.toList_eq] at e
    exact ByteArray.ext (Array.toList_inj.1 e)
theorem less_eq : ∀ (x y : List UInt8), Op.bytesLess x y = decide (x < y)
  | [], [] => by simp [Op.bytesLess]
  | _ :: _, [] => by simp [Op.bytesLess]
  | [], _ :: _ => by simp [Op.bytesLess]
  | a :: x, b :: y => by
    rw [Op.bytesLess, less_eq x y]
    simp only [List.cons_lt_cons_iff]
    by_cases h1 : a < b <;> by_cases h2 : a = b <;> by_cases h3 : x < y <;> simp [h1, h2, h3]
section
variable {a b : ByteArray}
@[simp] theorem av_eql_str : AV.bin .eql (.lit (.string a)) (.lit (.string b)) = .lit (.bool (decide (a = b))) := by
  show AV.bool (a.toList == b.toList) = _; rw [bytes_eq]
@[simp] theorem av_neq_str : AV.bin .neq (.lit (.string a)) (.lit (.string b)) = .lit (.bool (!decide (a = b))) := by
  show AV.bool (!(a.toList == b.toList)) = _; rw [bytes_eq]
@[simp] theorem av_binOk_eqs : AV.binOk .eql (.lit (.string a)) (.lit (.string b)) ↔ True := Iff.rfl
@[simp] theorem av_binOk_nes : AV.binOk .neq (.lit (.string a)) (.lit (.string b)) ↔ True := Iff.rfl
@[simp] theorem av_binOk_lss : AV.binOk .lss (.lit (.string a)) (.lit (.string b)) ↔ True := Iff.rfl
@[simp] theorem av_binOk_leqs : AV.binOk .leq (.lit (.string a)) (.lit (.string b)) ↔ True := Iff.rfl
@[simp] theorem av_binOk_gts : AV.binOk .gtr (.lit (.string a)) (.lit (.string b)) ↔ True := Iff.rfl
@[simp] theorem av_binOk_ges : AV.binOk .geq (.lit (.string a)) (.lit (.string b)) ↔ True := Iff.rfl
/-- The order of strings: that of their bytes. -/
def key (a : ByteArray) : List UInt8 := a.data.toList
theorem lsle_eq : (Op.bytesLess a.toList b.toList || a.toList == b.toList) = decide (key a ≤ key b) := by
  rw [less_eq, ByteArray.toList_eq, ByteArray.toList_eq]
  unfold key
  by_cases h : a.data.toList ≤ b.data.toList
  · rw [decide_eq_true h]
    by_cases h2 : a.data.toList < b.data.toList
    · simp [h2]
    · have : a.data.toList = b.data.toList := List.le_antisymm h (List.not_lt.1 h2)
      simp [this]
  · rw [decide_eq_false h]
    have h3 := List.not_le.1 h
    have h4 : ¬ a.data.toList < b.data.toList := List.not_lt.2 (List.le_of_lt h3)
    have h5 : a.data.toList ≠ b.data.toList := fun e => h (by rw [e]; exact List.le_refl _)
    rw [decide_eq_false h4, Bool.false_or]
    exact beq_eq_false_iff_ne.2 h5
@[simp] theorem av_lss_str : AV.bin .lss (.lit (.string a)) (.lit (.string b)) = .lit (.bool (decide (key a < key b))) := by
  show AV.bool (Op.bytesLess a.toList b.toList) = _; rw [less_eq, ByteArray.toList_eq, ByteArray.toList_eq]; rfl
@[simp] theorem av_leq_str : AV.bin .leq (.lit (.string a)) (.lit (.string b)) = .lit (.bool (decide (key a ≤ key b))) := by
  show AV.bool (Op.bytesLess a.toList b.toList || a.toList == b.toList) = _; rw [lsle_eq]
@[simp] theorem av_gtr_str : AV.bin .gtr (.lit (.string a)) (.lit (.string b)) = .lit (.bool (!decide (key a ≤ key b))) := by
  show AV.bool (!(Op.bytesLess a.toList b.toList || a.toList == b.toList)) = _; rw [lsle_eq]
@[simp] theorem av_geq_str : AV.bin .geq (.lit (.string a)) (.lit (.string b)) = .lit (.bool (!decide (key a < key b))) := by
  show AV.bool (!Op.bytesLess a.toList b.toList) = _; rw [less_eq, ByteArray.toList_eq, ByteArray.toList_eq]; rfl
@[simp] theorem av_un_not {p : Bool} : AV.un .not (.lit (.bool p)) = .lit (.bool (!p)) := rfl
@[simp] theorem av_unOk_not {p : Bool} : AV.unOk .not (.lit (.bool p)) ↔ True := Iff.rfl
@[simp] theorem av_un_neg {k : IntKind} {n : Int} : AV.un .neg (.lit (.int k n)) = .lit (.int k (k.wrap (0 - n))) := rfl
@[simp] theorem av_unOk_neg {k : IntKind} {n : Int} : AV.unOk .neg (.lit (.int k n)) ↔ True := Iff.rfl
@[simp] theorem av_eqB {p q : Bool} : AV.eqB (.lit (.bool p)) (.lit (.bool q)) = .lit (.bool (p == q)) := rfl
@[simp] theorem av_neB {p q : Bool} : AV.neB (.lit (.bool p)) (.lit (.bool q)) = .lit (.bool (!(p == q))) := rfl
@[simp] theorem av_binOk_adds : AV.binOk .add (.lit (.string a)) (.lit (.string b)) ↔ ((a.size + b.size : Nat) : Int) ≤ 9223372036854775807 := Iff.rfl
@[simp] theorem av_adds : AV.bin .add (.lit (.string a)) (.lit (.string b)) = .lit (.string (a ++ b)) := rfl
@[simp] theorem av_eqc_int {k k' : IntKind} {m n : Int} : AV.eqc (.lit (.int k m)) (.lit (.int k' n)) = (m == n) := rfl
@[simp] theorem av_eqc_bool {p q : Bool} : AV.eqc (.lit (.bool p)) (.lit (.bool q)) = (p == q) := rfl
@[simp] theorem av_eqc_str : AV.eqc (.lit (.string a)) (.lit (.string b)) = decide (a = b) := bytes_eq
@[simp] theorem av_okA_int {k k' : IntKind} {n : Int} : okA (.int k) (.lit (.int k' n)) ↔ k' = k := ⟨fun ⟨_, e⟩ => by injection e with e; injection e, fun e => by subst e; exact ⟨_, rfl⟩⟩
@[simp] theorem av_okA_str : okA .str (.lit (.string a)) ↔ True := ⟨fun _ => trivial, fun _ => ⟨_, rfl⟩⟩
@[simp] theorem av_okA_bool {p : Bool} : okA .bool (.lit (.bool p)) ↔ True := ⟨fun _ => trivial, fun _ => ⟨_, rfl⟩⟩
end
@[simp] theorem av_mkRef {cs : List AV} : AV.mkRef cs = .ref cs := rfl
@[simp] theorem av_mkClo {f : FuncId} {cs : List AV} : AV.mkClo f cs = .clo f cs := rfl
@[simp] theorem av_isRef {cs : List AV} {m : Nat} : AV.isRef (.ref cs) m ↔ cs.length = m := ⟨fun ⟨_, e, h⟩ => by injection e with e; rw [e]; exact h, fun h => ⟨cs, rfl, h⟩⟩
@[simp] theorem av_der {x : AV} {cs : List AV} : AV.der (.ref (x :: cs)) = x := rfl
@[simp] theorem av_derA {cs : List AV} : AV.derA (.ref cs) = .agg cs := rfl
/-- The first place at which p holds; -1: none. -/
def idxN {α : Type} (p : α → Bool) : Nat → List α → Int
  | _, [] => -1
  | n, x :: r => if p x = true then (n : Int) else idxN p (n + 1) r
/-- A nil slice that is not named by its type. -/
inductive NL : AV → AV → Prop
  | refl (x : AV) : NL x x
  | nil (s : Nat) : NL (.lit (.slice none 0 0)) (.sl s [])
  | agg (cs ds : List AV) (h : cs.length = ds.length) (hi : ∀ i, i < cs.length → NL (cs.getD i default) (ds.getD i default)) : NL (.agg cs) (.agg ds)
theorem NL.rv {w : World} {ok : Nat → Prop} {x y : AV} {v : Value} (h : NL x y) (hv : RV w ok x v) : RV w ok y v := by
  induction h generalizing v with
  | refl x => exact hv
  | nil s => cases hv; exact .sl s [] none 0 0 (fun _ _ => undef) rfl (Nat.le_refl _) (by unfold maxLen; omega) (by simp) (fun q => absurd q (by omega)) (fun i j hi => absurd hi (by omega)) (fun i j hi => absurd hi (by omega))
  | agg cs ds h hi ih =>
    cases hv with
    | agg _ vs h1 h2 h3 => exact .agg ds vs (h1.trans h) (fun i q => h2 i (h ▸ q)) fun i q => ih i (h ▸ q) (h3 i (h ▸ q))
inductive NLs : List AV → List AV → Prop
  | nil : NLs [] []
  | cons {x y : AV} {l m : List AV} (h : NL x y) (t : NLs l m) : NLs (x :: l) (y :: m)
end Go.Proofs.YtacfofpbbempaaaGreatDoor
/- Arguments of plain types, opened. -/
namespace Go.Proofs.YtacfofpbbempaaaGreatDoor
open Go.RowKit
set_option linter.unusedVariables false
def I64 (n : Int) : Prop := -9223372036854775808 ≤ n ∧ n ≤ 9223372036854775807
theorem i64_of {n : Int} (h : (Lit.int .i64 n).wf = true) : I64 n := by
  have h' : (IntKind.i64.min ≤ n && n ≤ IntKind.i64.max) = true := h
  simp only [Bool.and_eq_true, decide_eq_true_eq] at h'
  have e1 : IntKind.i64.min = -9223372036854775808 := by decide
  have e2 : IntKind.i64.max = 9223372036854775807 := by decide
  rw [e1, e2] at h'
  exact h'
section
variable {P : Program} {u e : TypeId} {x : AV} {d : Nat}
theorem c_int (hu : P.underlying u = some (.int .i64)) (h : CellOk P (d + 1) u x) : ∃ n, x = .int n ∧ I64 n := by
  obtain ⟨n, e, hw⟩ := cell_int hu h
  exact ⟨n, e, i64_of hw⟩
theorem c_str (hu : P.underlying u = some .string) (h : CellOk P (d + 1) u x) : ∃ s : ByteArray, x = .string s ∧ s.size ≤ maxLen := cell_str hu h
/-- A slice whose elements are read by 'encA'. -/
theorem c_lst {α : Type} {encA : α → List AV} {Q : α → Prop} {tys : List TypeId} {s : Nat} (hu : P.underlying u = some (.slice e)) (ht : flatTy P 8 e = some tys) (hs : P.cellsOf e = s)
    (hd : ∀ y : List AV, y.length = tys.length → (∀ i u', tys[i]? = some u' → CellOk P d u' (y.getD i default)) → ∃ a, y = encA a ∧ Q a) (h : CellOk P (d + 1) u x) : ∃ l : List α, x = lst s encA l ∧ l.length ≤ maxLen ∧ ∀ a ∈ l, Q a := by
  obtain ⟨L, e1, h1, h2⟩ := cell_sl hu ht hs h
  obtain ⟨l, e2, h3⟩ := list_dec (L := L) (encA := encA) (Q := Q) fun y hy => hd y (h2 y hy).1 (h2 y hy).2
  subst e2
  exact ⟨l, e1, by simpa using h1, h3⟩
end
end Go.Proofs.YtacfofpbbempaaaGreatDoor
/- Names: what the run ends in. -/
namespace Go.Proofs.YtacfofpbbempaaaGreatDoor
open Go.RowKit
set_option linter.unusedVariables false
set_option maxRecDepth 100000
namespace NameF
--GAMMA
def Γ : FuncId → Option Ca := fun _ => none
def ann : FuncId → Nat → LoopEx := fun _ _ => ⟨[], [], [], []⟩
--END GAMMA
theorem name_form (x0 r : AV) : fnF Tryz.prog Γ ann 0 27 Tryz.f27 (Tryz.f27.body.getD .skip) (.nil) [x0] (.sc) r = (((AV.isStr x0) ∧
((AV.binOk Go.BinOp.lss (AV.slen x0) (AV.int 1)) ∧
((AV.isBool (AV.bin Go.BinOp.lss (AV.slen x0) (AV.int 1))) ∧
(((isT (AV.bin Go.BinOp.lss (AV.slen x0) (AV.int 1))) →
  ((AV.isBool (AV.bin Go.BinOp.lss (AV.slen x0) (AV.int 1))) ∧
  ((isT (AV.bin Go.BinOp.lss (AV.slen x0) (AV.int 1))) ∧
  ((AV.flat (AV.bool false)) ∧
  (fSame (AV.bool false) r))))) ∧
((isF (AV.bin Go.BinOp.lss (AV.slen x0) (AV.int 1))) →
  ((AV.isStr x0) ∧
  ((AV.binOk Go.BinOp.gtr (AV.slen x0) (AV.int 8)) ∧
  ((AV.isBool (AV.bin Go.BinOp.lss (AV.slen x0) (AV.int 1))) ∧
  ((isF (AV.bin Go.BinOp.lss (AV.slen x0) (AV.int 1))) ∧
  ((AV.isBool (AV.bin Go.BinOp.gtr (AV.slen x0) (AV.int 8))) ∧
  (((isT (AV.bin Go.BinOp.gtr (AV.slen x0) (AV.int 8))) →
    ((AV.flat (AV.bool false)) ∧
    (fSame (AV.bool false) r))) ∧
  ((isF (AV.bin Go.BinOp.gtr (AV.slen x0) (AV.int 8))) →
    ((AV.isStr x0) ∧
    ((AV.bytesOk x0) ∧
    ((AV.isSl (AV.bytes x0) 1) ∧
    (fLoop 833 [(AV.int 0)] fun ys833 again833 =>
      ((AV.binOk Go.BinOp.lss (ys833.getD 0 default) (AV.len (AV.bytes x0))) ∧
      ((AV.isBool (AV.bin Go.BinOp.lss (ys833.getD 0 default) (AV.len (AV.bytes x0)))) ∧
      (((isT (AV.bin Go.BinOp.lss (ys833.getD 0 default) (AV.len (AV.bytes x0)))) →
        ((AV.isSl (AV.bytes x0) 1) ∧
        ((AV.inb (AV.bytes x0) (ys833.getD 0 default)) ∧
        ((AV.binOk Go.BinOp.geq (AV.at (AV.bytes x0) (ys833.getD 0 default) 0) (AV.lit (Value.int Go.IntKind.u8 65))) ∧
        ((AV.isBool (AV.bin Go.BinOp.geq (AV.at (AV.bytes x0) (ys833.getD 0 default) 0) (AV.lit (Value.int Go.IntKind.u8 65)))) ∧
        (((isT (AV.bin Go.BinOp.geq (AV.at (AV.bytes x0) (ys833.getD 0 default) 0) (AV.lit (Value.int Go.IntKind.u8 65)))) →
          ((AV.binOk Go.BinOp.leq (AV.at (AV.bytes x0) (ys833.getD 0 default) 0) (AV.lit (Value.int Go.IntKind.u8 90))) ∧
          ((AV.isBool (AV.bin Go.BinOp.geq (AV.at (AV.bytes x0) (ys833.getD 0 default) 0) (AV.lit (Value.int Go.IntKind.u8 65)))) ∧
          ((isT (AV.bin Go.BinOp.geq (AV.at (AV.bytes x0) (ys833.getD 0 default) 0) (AV.lit (Value.int Go.IntKind.u8 65)))) ∧
          ((AV.isBool (AV.bin Go.BinOp.leq (AV.at (AV.bytes x0) (ys833.getD 0 default) 0) (AV.lit (Value.int Go.IntKind.u8 90)))) ∧
          (((isT (AV.bin Go.BinOp.leq (AV.at (AV.bytes x0) (ys833.getD 0 default) 0) (AV.lit (Value.int Go.IntKind.u8 90)))) →
            ((AV.isBool (AV.bin Go.BinOp.leq (AV.at (AV.bytes x0) (ys833.getD 0 default) 0) (AV.lit (Value.int Go.IntKind.u8 90)))) ∧
            ((isT (AV.bin Go.BinOp.leq (AV.at (AV.bytes x0) (ys833.getD 0 default) 0) (AV.lit (Value.int Go.IntKind.u8 90)))) ∧
            ((AV.binOk Go.BinOp.add (ys833.getD 0 default) (AV.int 1)) ∧
            (again833 [(AV.bin Go.BinOp.add (ys833.getD 0 default) (AV.int 1))]))))) ∧
          ((isF (AV.bin Go.BinOp.leq (AV.at (AV.bytes x0) (ys833.getD 0 default) 0) (AV.lit (Value.int Go.IntKind.u8 90)))) →
            ((AV.binOk Go.BinOp.gtr (ys833.getD 0 default) (AV.int 0)) ∧
            ((AV.isBool (AV.bin Go.BinOp.gtr (ys833.getD 0 default) (AV.int 0))) ∧
            (((isT (AV.bin Go.BinOp.gtr (ys833.getD 0 default) (AV.int 0))) →
              ((AV.binOk Go.BinOp.geq (AV.at (AV.bytes x0) (ys833.getD 0 default) 0) (AV.lit (Value.int Go.IntKind.u8 48))) ∧
              ((AV.isBool (AV.bin Go.BinOp.gtr (ys833.getD 0 default) (AV.int 0))) ∧
              ((isT (AV.bin Go.BinOp.gtr (ys833.getD 0 default) (AV.int 0))) ∧
              ((AV.isBool (AV.bin Go.BinOp.geq (AV.at (AV.bytes x0) (ys833.getD 0 default) 0) (AV.lit (Value.int Go.IntKind.u8 48)))) ∧
              (((isT (AV.bin Go.BinOp.geq (AV.at (AV.bytes x0) (ys833.getD 0 default) 0) (AV.lit (Value.int Go.IntKind.u8 48)))) →
                ((AV.binOk Go.BinOp.leq (AV.at (AV.bytes x0) (ys833.getD 0 default) 0) (AV.lit (Value.int Go.IntKind.u8 57))) ∧
                ((AV.isBool (AV.bin Go.BinOp.geq (AV.at (AV.bytes x0) (ys833.getD 0 default) 0) (AV.lit (Value.int Go.IntKind.u8 48)))) ∧
                ((isT (AV.bin Go.BinOp.geq (AV.at (AV.bytes x0) (ys833.getD 0 default) 0) (AV.lit (Value.int Go.IntKind.u8 48)))) ∧
                ((AV.isBool (AV.bin Go.BinOp.leq (AV.at (AV.bytes x0) (ys833.getD 0 default) 0) (AV.lit (Value.int Go.IntKind.u8 90)))) ∧
                ((isF (AV.bin Go.BinOp.leq (AV.at (AV.bytes x0) (ys833.getD 0 default) 0) (AV.lit (Value.int Go.IntKind.u8 90)))) ∧
                ((AV.unOk Go.UnOp.not (AV.bin Go.BinOp.leq (AV.at (AV.bytes x0) (ys833.getD 0 default) 0) (AV.lit (Value.int Go.IntKind.u8 57)))) ∧
                ((AV.isBool (AV.un Go.UnOp.not (AV.bin Go.BinOp.leq (AV.at (AV.bytes x0) (ys833.getD 0 default) 0) (AV.lit (Value.int Go.IntKind.u8 57))))) ∧
                (((isT (AV.un Go.UnOp.not (AV.bin Go.BinOp.leq (AV.at (AV.bytes x0) (ys833.getD 0 default) 0) (AV.lit (Value.int Go.IntKind.u8 57))))) →
                  ((AV.flat (AV.bool false)) ∧
                  (fSame (AV.bool false) r))) ∧
                ((isF (AV.un Go.UnOp.not (AV.bin Go.BinOp.leq (AV.at (AV.bytes x0) (ys833.getD 0 default) 0) (AV.lit (Value.int Go.IntKind.u8 57))))) →
                  ((AV.binOk Go.BinOp.add (ys833.getD 0 default) (AV.int 1)) ∧
                  (again833 [(AV.bin Go.BinOp.add (ys833.getD 0 default) (AV.int 1))])))))))))))) ∧
              ((isF (AV.bin Go.BinOp.geq (AV.at (AV.bytes x0) (ys833.getD 0 default) 0) (AV.lit (Value.int Go.IntKind.u8 48)))) →
                ((AV.isBool (AV.bin Go.BinOp.geq (AV.at (AV.bytes x0) (ys833.getD 0 default) 0) (AV.lit (Value.int Go.IntKind.u8 48)))) ∧
                ((isF (AV.bin Go.BinOp.geq (AV.at (AV.bytes x0) (ys833.getD 0 default) 0) (AV.lit (Value.int Go.IntKind.u8 48)))) ∧
                ((AV.isBool (AV.bin Go.BinOp.leq (AV.at (AV.bytes x0) (ys833.getD 0 default) 0) (AV.lit (Value.int Go.IntKind.u8 90)))) ∧
                ((isF (AV.bin Go.BinOp.leq (AV.at (AV.bytes x0) (ys833.getD 0 default) 0) (AV.lit (Value.int Go.IntKind.u8 90)))) ∧
                ((AV.flat (AV.bool false)) ∧
                (fSame (AV.bool false) r))))))))))))) ∧
            ((isF (AV.bin Go.BinOp.gtr (ys833.getD 0 default) (AV.int 0))) →
              ((AV.isBool (AV.bin Go.BinOp.gtr (ys833.getD 0 default) (AV.int 0))) ∧
              ((isF (AV.bin Go.BinOp.gtr (ys833.getD 0 default) (AV.int 0))) ∧
              ((AV.isBool (AV.bin Go.BinOp.leq (AV.at (AV.bytes x0) (ys833.getD 0 default) 0) (AV.lit (Value.int Go.IntKind.u8 90)))) ∧
              ((isF (AV.bin Go.BinOp.leq (AV.at (AV.bytes x0) (ys833.getD 0 default) 0) (AV.lit (Value.int Go.IntKind.u8 90)))) ∧
              ((AV.flat (AV.bool false)) ∧
              (fSame (AV.bool false) r))))))))))))))))) ∧
        ((isF (AV.bin Go.BinOp.geq (AV.at (AV.bytes x0) (ys833.getD 0 default) 0) (AV.lit (Value.int Go.IntKind.u8 65)))) →
          ((AV.isBool (AV.bin Go.BinOp.geq (AV.at (AV.bytes x0) (ys833.getD 0 default) 0) (AV.lit (Value.int Go.IntKind.u8 65)))) ∧
          ((isF (AV.bin Go.BinOp.geq (AV.at (AV.bytes x0) (ys833.getD 0 default) 0) (AV.lit (Value.int Go.IntKind.u8 65)))) ∧
          ((AV.binOk Go.BinOp.gtr (ys833.getD 0 default) (AV.int 0)) ∧
          ((AV.isBool (AV.bin Go.BinOp.gtr (ys833.getD 0 default) (AV.int 0))) ∧
          (((isT (AV.bin Go.BinOp.gtr (ys833.getD 0 default) (AV.int 0))) →
            ((AV.binOk Go.BinOp.geq (AV.at (AV.bytes x0) (ys833.getD 0 default) 0) (AV.lit (Value.int Go.IntKind.u8 48))) ∧
            ((AV.isBool (AV.bin Go.BinOp.gtr (ys833.getD 0 default) (AV.int 0))) ∧
            ((isT (AV.bin Go.BinOp.gtr (ys833.getD 0 default) (AV.int 0))) ∧
            ((AV.isBool (AV.bin Go.BinOp.geq (AV.at (AV.bytes x0) (ys833.getD 0 default) 0) (AV.lit (Value.int Go.IntKind.u8 48)))) ∧
            (((isT (AV.bin Go.BinOp.geq (AV.at (AV.bytes x0) (ys833.getD 0 default) 0) (AV.lit (Value.int Go.IntKind.u8 48)))) →
              ((AV.binOk Go.BinOp.leq (AV.at (AV.bytes x0) (ys833.getD 0 default) 0) (AV.lit (Value.int Go.IntKind.u8 57))) ∧
              ((AV.isBool (AV.bin Go.BinOp.geq (AV.at (AV.bytes x0) (ys833.getD 0 default) 0) (AV.lit (Value.int Go.IntKind.u8 48)))) ∧
              ((isT (AV.bin Go.BinOp.geq (AV.at (AV.bytes x0) (ys833.getD 0 default) 0) (AV.lit (Value.int Go.IntKind.u8 48)))) ∧
              ((AV.unOk Go.UnOp.not (AV.bin Go.BinOp.leq (AV.at (AV.bytes x0) (ys833.getD 0 default) 0) (AV.lit (Value.int Go.IntKind.u8 57)))) ∧
              ((AV.isBool (AV.un Go.UnOp.not (AV.bin Go.BinOp.leq (AV.at (AV.bytes x0) (ys833.getD 0 default) 0) (AV.lit (Value.int Go.IntKind.u8 57))))) ∧
              (((isT (AV.un Go.UnOp.not (AV.bin Go.BinOp.leq (AV.at (AV.bytes x0) (ys833.getD 0 default) 0) (AV.lit (Value.int Go.IntKind.u8 57))))) →
                ((AV.flat (AV.bool false)) ∧
                (fSame (AV.bool false) r))) ∧
              ((isF (AV.un Go.UnOp.not (AV.bin Go.BinOp.leq (AV.at (AV.bytes x0) (ys833.getD 0 default) 0) (AV.lit (Value.int Go.IntKind.u8 57))))) →
                ((AV.binOk Go.BinOp.add (ys833.getD 0 default) (AV.int 1)) ∧
                (again833 [(AV.bin Go.BinOp.add (ys833.getD 0 default) (AV.int 1))])))))))))) ∧
            ((isF (AV.bin Go.BinOp.geq (AV.at (AV.bytes x0) (ys833.getD 0 default) 0) (AV.lit (Value.int Go.IntKind.u8 48)))) →
              ((AV.isBool (AV.bin Go.BinOp.geq (AV.at (AV.bytes x0) (ys833.getD 0 default) 0) (AV.lit (Value.int Go.IntKind.u8 48)))) ∧
              ((isF (AV.bin Go.BinOp.geq (AV.at (AV.bytes x0) (ys833.getD 0 default) 0) (AV.lit (Value.int Go.IntKind.u8 48)))) ∧
              ((AV.flat (AV.bool false)) ∧
              (fSame (AV.bool false) r))))))))))) ∧
          ((isF (AV.bin Go.BinOp.gtr (ys833.getD 0 default) (AV.int 0))) →
            ((AV.isBool (AV.bin Go.BinOp.gtr (ys833.getD 0 default) (AV.int 0))) ∧
            ((isF (AV.bin Go.BinOp.gtr (ys833.getD 0 default) (AV.int 0))) ∧
            ((AV.flat (AV.bool false)) ∧
            (fSame (AV.bool false) r))))))))))))))))) ∧
      ((isF (AV.bin Go.BinOp.lss (ys833.getD 0 default) (AV.len (AV.bytes x0)))) →
        ((AV.flat (AV.bool true)) ∧
        (fSame (AV.bool true) r))))))))))))))))))))))) := by kernel_rfl
theorem isname_form (x0 r : AV) : fnF Tryz.prog Γ ann 0 43 Tryz.f43 (Tryz.f43.body.getD .skip) (.nil) [x0] (.sc) r = (((AV.binOk Go.BinOp.eql x0 (AV.lit (Value.string ⟨#[]⟩))) ∧
((AV.isBool (AV.bin Go.BinOp.eql x0 (AV.lit (Value.string ⟨#[]⟩)))) ∧
(((isT (AV.bin Go.BinOp.eql x0 (AV.lit (Value.string ⟨#[]⟩)))) →
  ((AV.isBool (AV.bin Go.BinOp.eql x0 (AV.lit (Value.string ⟨#[]⟩)))) ∧
  ((isT (AV.bin Go.BinOp.eql x0 (AV.lit (Value.string ⟨#[]⟩)))) ∧
  ((AV.flat (AV.bool false)) ∧
  (fSame (AV.bool false) r))))) ∧
((isF (AV.bin Go.BinOp.eql x0 (AV.lit (Value.string ⟨#[]⟩)))) →
  ((AV.isStr x0) ∧
  ((AV.binOk Go.BinOp.gtr (AV.slen x0) (AV.int 8)) ∧
  ((AV.isBool (AV.bin Go.BinOp.eql x0 (AV.lit (Value.string ⟨#[]⟩)))) ∧
  ((isF (AV.bin Go.BinOp.eql x0 (AV.lit (Value.string ⟨#[]⟩)))) ∧
  ((AV.isBool (AV.bin Go.BinOp.gtr (AV.slen x0) (AV.int 8))) ∧
  (((isT (AV.bin Go.BinOp.gtr (AV.slen x0) (AV.int 8))) →
    ((AV.isBool (AV.bin Go.BinOp.gtr (AV.slen x0) (AV.int 8))) ∧
    ((isT (AV.bin Go.BinOp.gtr (AV.slen x0) (AV.int 8))) ∧
    ((AV.flat (AV.bool false)) ∧
    (fSame (AV.bool false) r))))) ∧
  ((isF (AV.bin Go.BinOp.gtr (AV.slen x0) (AV.int 8))) →
    ((AV.isStr x0) ∧
    ((AV.sinb x0 (AV.int 0)) ∧
    ((AV.binOk Go.BinOp.geq (AV.sat x0 (AV.int 0)) (AV.lit (Value.int Go.IntKind.u8 48))) ∧
    ((AV.isBool (AV.bin Go.BinOp.geq (AV.sat x0 (AV.int 0)) (AV.lit (Value.int Go.IntKind.u8 48)))) ∧
    (((isT (AV.bin Go.BinOp.geq (AV.sat x0 (AV.int 0)) (AV.lit (Value.int Go.IntKind.u8 48)))) →
      ((AV.isStr x0) ∧
      ((AV.sinb x0 (AV.int 0)) ∧
      ((AV.binOk Go.BinOp.leq (AV.sat x0 (AV.int 0)) (AV.lit (Value.int Go.IntKind.u8 57))) ∧
      ((AV.isBool (AV.bin Go.BinOp.geq (AV.sat x0 (AV.int 0)) (AV.lit (Value.int Go.IntKind.u8 48)))) ∧
      ((isT (AV.bin Go.BinOp.geq (AV.sat x0 (AV.int 0)) (AV.lit (Value.int Go.IntKind.u8 48)))) ∧
      ((AV.isBool (AV.bin Go.BinOp.gtr (AV.slen x0) (AV.int 8))) ∧
      ((isF (AV.bin Go.BinOp.gtr (AV.slen x0) (AV.int 8))) ∧
      ((AV.isBool (AV.bin Go.BinOp.leq (AV.sat x0 (AV.int 0)) (AV.lit (Value.int Go.IntKind.u8 57)))) ∧
      (((isT (AV.bin Go.BinOp.leq (AV.sat x0 (AV.int 0)) (AV.lit (Value.int Go.IntKind.u8 57)))) →
        ((AV.flat (AV.bool false)) ∧
        (fSame (AV.bool false) r))) ∧
      ((isF (AV.bin Go.BinOp.leq (AV.sat x0 (AV.int 0)) (AV.lit (Value.int Go.IntKind.u8 57)))) →
        (fLoop 1217 [(AV.int 0)] fun ys1217 again1217 =>
          ((AV.isStr x0) ∧
          ((AV.binOk Go.BinOp.lss (ys1217.getD 0 default) (AV.slen x0)) ∧
          ((AV.isBool (AV.bin Go.BinOp.lss (ys1217.getD 0 default) (AV.slen x0))) ∧
          (((isT (AV.bin Go.BinOp.lss (ys1217.getD 0 default) (AV.slen x0))) →
            ((AV.isStr x0) ∧
            ((AV.sinb x0 (ys1217.getD 0 default)) ∧
            ((AV.binOk Go.BinOp.lss (AV.sat x0 (ys1217.getD 0 default)) (AV.lit (Value.int Go.IntKind.u8 65))) ∧
            ((AV.isBool (AV.bin Go.BinOp.lss (AV.sat x0 (ys1217.getD 0 default)) (AV.lit (Value.int Go.IntKind.u8 65)))) ∧
            (((isT (AV.bin Go.BinOp.lss (AV.sat x0 (ys1217.getD 0 default)) (AV.lit (Value.int Go.IntKind.u8 65)))) →
              ((AV.isBool (AV.bin Go.BinOp.lss (AV.sat x0 (ys1217.getD 0 default)) (AV.lit (Value.int Go.IntKind.u8 65)))) ∧
              ((isT (AV.bin Go.BinOp.lss (AV.sat x0 (ys1217.getD 0 default)) (AV.lit (Value.int Go.IntKind.u8 65)))) ∧
              ((AV.binOk Go.BinOp.lss (AV.sat x0 (ys1217.getD 0 default)) (AV.lit (Value.int Go.IntKind.u8 48))) ∧
              ((AV.isBool (AV.bin Go.BinOp.lss (AV.sat x0 (ys1217.getD 0 default)) (AV.lit (Value.int Go.IntKind.u8 48)))) ∧
              (((isT (AV.bin Go.BinOp.lss (AV.sat x0 (ys1217.getD 0 default)) (AV.lit (Value.int Go.IntKind.u8 48)))) →
                ((AV.isBool (AV.bin Go.BinOp.lss (AV.sat x0 (ys1217.getD 0 default)) (AV.lit (Value.int Go.IntKind.u8 48)))) ∧
                ((isT (AV.bin Go.BinOp.lss (AV.sat x0 (ys1217.getD 0 default)) (AV.lit (Value.int Go.IntKind.u8 48)))) ∧
                ((AV.flat (AV.bool false)) ∧
                (fSame (AV.bool false) r))))) ∧
              ((isF (AV.bin Go.BinOp.lss (AV.sat x0 (ys1217.getD 0 default)) (AV.lit (Value.int Go.IntKind.u8 48)))) →
                ((AV.binOk Go.BinOp.gtr (AV.sat x0 (ys1217.getD 0 default)) (AV.lit (Value.int Go.IntKind.u8 57))) ∧
                ((AV.isBool (AV.bin Go.BinOp.lss (AV.sat x0 (ys1217.getD 0 default)) (AV.lit (Value.int Go.IntKind.u8 48)))) ∧
                ((isF (AV.bin Go.BinOp.lss (AV.sat x0 (ys1217.getD 0 default)) (AV.lit (Value.int Go.IntKind.u8 48)))) ∧
                ((AV.isBool (AV.bin Go.BinOp.gtr (AV.sat x0 (ys1217.getD 0 default)) (AV.lit (Value.int Go.IntKind.u8 57)))) ∧
                (((isT (AV.bin Go.BinOp.gtr (AV.sat x0 (ys1217.getD 0 default)) (AV.lit (Value.int Go.IntKind.u8 57)))) →
                  ((AV.flat (AV.bool false)) ∧
                  (fSame (AV.bool false) r))) ∧
                ((isF (AV.bin Go.BinOp.gtr (AV.sat x0 (ys1217.getD 0 default)) (AV.lit (Value.int Go.IntKind.u8 57)))) →
                  ((AV.binOk Go.BinOp.add (ys1217.getD 0 default) (AV.int 1)) ∧
                  (again1217 [(AV.bin Go.BinOp.add (ys1217.getD 0 default) (AV.int 1))]))))))))))))))) ∧
            ((isF (AV.bin Go.BinOp.lss (AV.sat x0 (ys1217.getD 0 default)) (AV.lit (Value.int Go.IntKind.u8 65)))) →
              ((AV.binOk Go.BinOp.gtr (AV.sat x0 (ys1217.getD 0 default)) (AV.lit (Value.int Go.IntKind.u8 90))) ∧
              ((AV.isBool (AV.bin Go.BinOp.lss (AV.sat x0 (ys1217.getD 0 default)) (AV.lit (Value.int Go.IntKind.u8 65)))) ∧
              ((isF (AV.bin Go.BinOp.lss (AV.sat x0 (ys1217.getD 0 default)) (AV.lit (Value.int Go.IntKind.u8 65)))) ∧
              ((AV.isBool (AV.bin Go.BinOp.gtr (AV.sat x0 (ys1217.getD 0 default)) (AV.lit (Value.int Go.IntKind.u8 90)))) ∧
              (((isT (AV.bin Go.BinOp.gtr (AV.sat x0 (ys1217.getD 0 default)) (AV.lit (Value.int Go.IntKind.u8 90)))) →
                ((AV.binOk Go.BinOp.lss (AV.sat x0 (ys1217.getD 0 default)) (AV.lit (Value.int Go.IntKind.u8 48))) ∧
                ((AV.isBool (AV.bin Go.BinOp.lss (AV.sat x0 (ys1217.getD 0 default)) (AV.lit (Value.int Go.IntKind.u8 48)))) ∧
                (((isT (AV.bin Go.BinOp.lss (AV.sat x0 (ys1217.getD 0 default)) (AV.lit (Value.int Go.IntKind.u8 48)))) →
                  ((AV.isBool (AV.bin Go.BinOp.lss (AV.sat x0 (ys1217.getD 0 default)) (AV.lit (Value.int Go.IntKind.u8 48)))) ∧
                  ((isT (AV.bin Go.BinOp.lss (AV.sat x0 (ys1217.getD 0 default)) (AV.lit (Value.int Go.IntKind.u8 48)))) ∧
                  ((AV.isBool (AV.bin Go.BinOp.gtr (AV.sat x0 (ys1217.getD 0 default)) (AV.lit (Value.int Go.IntKind.u8 90)))) ∧
                  ((isT (AV.bin Go.BinOp.gtr (AV.sat x0 (ys1217.getD 0 default)) (AV.lit (Value.int Go.IntKind.u8 90)))) ∧
                  ((AV.flat (AV.bool false)) ∧
                  (fSame (AV.bool false) r))))))) ∧
                ((isF (AV.bin Go.BinOp.lss (AV.sat x0 (ys1217.getD 0 default)) (AV.lit (Value.int Go.IntKind.u8 48)))) →
                  ((AV.binOk Go.BinOp.gtr (AV.sat x0 (ys1217.getD 0 default)) (AV.lit (Value.int Go.IntKind.u8 57))) ∧
                  ((AV.isBool (AV.bin Go.BinOp.lss (AV.sat x0 (ys1217.getD 0 default)) (AV.lit (Value.int Go.IntKind.u8 48)))) ∧
                  ((isF (AV.bin Go.BinOp.lss (AV.sat x0 (ys1217.getD 0 default)) (AV.lit (Value.int Go.IntKind.u8 48)))) ∧
                  ((AV.isBool (AV.bin Go.BinOp.gtr (AV.sat x0 (ys1217.getD 0 default)) (AV.lit (Value.int Go.IntKind.u8 90)))) ∧
                  ((isT (AV.bin Go.BinOp.gtr (AV.sat x0 (ys1217.getD 0 default)) (AV.lit (Value.int Go.IntKind.u8 90)))) ∧
                  ((AV.isBool (AV.bin Go.BinOp.gtr (AV.sat x0 (ys1217.getD 0 default)) (AV.lit (Value.int Go.IntKind.u8 57)))) ∧
                  (((isT (AV.bin Go.BinOp.gtr (AV.sat x0 (ys1217.getD 0 default)) (AV.lit (Value.int Go.IntKind.u8 57)))) →
                    ((AV.flat (AV.bool false)) ∧
                    (fSame (AV.bool false) r))) ∧
                  ((isF (AV.bin Go.BinOp.gtr (AV.sat x0 (ys1217.getD 0 default)) (AV.lit (Value.int Go.IntKind.u8 57)))) →
                    ((AV.binOk Go.BinOp.add (ys1217.getD 0 default) (AV.int 1)) ∧
                    (again1217 [(AV.bin Go.BinOp.add (ys1217.getD 0 default) (AV.int 1))]))))))))))))))) ∧
              ((isF (AV.bin Go.BinOp.gtr (AV.sat x0 (ys1217.getD 0 default)) (AV.lit (Value.int Go.IntKind.u8 90)))) →
                ((AV.isBool (AV.bin Go.BinOp.gtr (AV.sat x0 (ys1217.getD 0 default)) (AV.lit (Value.int Go.IntKind.u8 90)))) ∧
                ((isF (AV.bin Go.BinOp.gtr (AV.sat x0 (ys1217.getD 0 default)) (AV.lit (Value.int Go.IntKind.u8 90)))) ∧
                ((AV.binOk Go.BinOp.add (ys1217.getD 0 default) (AV.int 1)) ∧
                (again1217 [(AV.bin Go.BinOp.add (ys1217.getD 0 default) (AV.int 1))]))))))))))))))))) ∧
          ((isF (AV.bin Go.BinOp.lss (ys1217.getD 0 default) (AV.slen x0))) →
            ((AV.flat (AV.bool true)) ∧
            (fSame (AV.bool true) r))))))))))))))))))) ∧
    ((isF (AV.bin Go.BinOp.geq (AV.sat x0 (AV.int 0)) (AV.lit (Value.int Go.IntKind.u8 48)))) →
      ((AV.isBool (AV.bin Go.BinOp.geq (AV.sat x0 (AV.int 0)) (AV.lit (Value.int Go.IntKind.u8 48)))) ∧
      ((isF (AV.bin Go.BinOp.geq (AV.sat x0 (AV.int 0)) (AV.lit (Value.int Go.IntKind.u8 48)))) ∧
      ((AV.isBool (AV.bin Go.BinOp.gtr (AV.slen x0) (AV.int 8))) ∧
      ((isF (AV.bin Go.BinOp.gtr (AV.slen x0) (AV.int 8))) ∧
      (fLoop 1217 [(AV.int 0)] fun ys1217 again1217 =>
        ((AV.isStr x0) ∧
        ((AV.binOk Go.BinOp.lss (ys1217.getD 0 default) (AV.slen x0)) ∧
        ((AV.isBool (AV.bin Go.BinOp.lss (ys1217.getD 0 default) (AV.slen x0))) ∧
        (((isT (AV.bin Go.BinOp.lss (ys1217.getD 0 default) (AV.slen x0))) →
          ((AV.isStr x0) ∧
          ((AV.sinb x0 (ys1217.getD 0 default)) ∧
          ((AV.binOk Go.BinOp.lss (AV.sat x0 (ys1217.getD 0 default)) (AV.lit (Value.int Go.IntKind.u8 65))) ∧
          ((AV.isBool (AV.bin Go.BinOp.lss (AV.sat x0 (ys1217.getD 0 default)) (AV.lit (Value.int Go.IntKind.u8 65)))) ∧
          (((isT (AV.bin Go.BinOp.lss (AV.sat x0 (ys1217.getD 0 default)) (AV.lit (Value.int Go.IntKind.u8 65)))) →
            ((AV.isBool (AV.bin Go.BinOp.lss (AV.sat x0 (ys1217.getD 0 default)) (AV.lit (Value.int Go.IntKind.u8 65)))) ∧
            ((isT (AV.bin Go.BinOp.lss (AV.sat x0 (ys1217.getD 0 default)) (AV.lit (Value.int Go.IntKind.u8 65)))) ∧
            ((AV.binOk Go.BinOp.lss (AV.sat x0 (ys1217.getD 0 default)) (AV.lit (Value.int Go.IntKind.u8 48))) ∧
            ((AV.isBool (AV.bin Go.BinOp.lss (AV.sat x0 (ys1217.getD 0 default)) (AV.lit (Value.int Go.IntKind.u8 48)))) ∧
            (((isT (AV.bin Go.BinOp.lss (AV.sat x0 (ys1217.getD 0 default)) (AV.lit (Value.int Go.IntKind.u8 48)))) →
              ((AV.isBool (AV.bin Go.BinOp.lss (AV.sat x0 (ys1217.getD 0 default)) (AV.lit (Value.int Go.IntKind.u8 48)))) ∧
              ((isT (AV.bin Go.BinOp.lss (AV.sat x0 (ys1217.getD 0 default)) (AV.lit (Value.int Go.IntKind.u8 48)))) ∧
              ((AV.flat (AV.bool false)) ∧
              (fSame (AV.bool false) r))))) ∧
            ((isF (AV.bin Go.BinOp.lss (AV.sat x0 (ys1217.getD 0 default)) (AV.lit (Value.int Go.IntKind.u8 48)))) →
              ((AV.binOk Go.BinOp.gtr (AV.sat x0 (ys1217.getD 0 default)) (AV.lit (Value.int Go.IntKind.u8 57))) ∧
              ((AV.isBool (AV.bin Go.BinOp.lss (AV.sat x0 (ys1217.getD 0 default)) (AV.lit (Value.int Go.IntKind.u8 48)))) ∧
              ((isF (AV.bin Go.BinOp.lss (AV.sat x0 (ys1217.getD 0 default)) (AV.lit (Value.int Go.IntKind.u8 48)))) ∧
              ((AV.isBool (AV.bin Go.BinOp.gtr (AV.sat x0 (ys1217.getD 0 default)) (AV.lit (Value.int Go.IntKind.u8 57)))) ∧
              (((isT (AV.bin Go.BinOp.gtr (AV.sat x0 (ys1217.getD 0 default)) (AV.lit (Value.int Go.IntKind.u8 57)))) →
                ((AV.flat (AV.bool false)) ∧
                (fSame (AV.bool false) r))) ∧
              ((isF (AV.bin Go.BinOp.gtr (AV.sat x0 (ys1217.getD 0 default)) (AV.lit (Value.int Go.IntKind.u8 57)))) →
                ((AV.binOk Go.BinOp.add (ys1217.getD 0 default) (AV.int 1)) ∧
                (again1217 [(AV.bin Go.BinOp.add (ys1217.getD 0 default) (AV.int 1))]))))))))))))))) ∧
          ((isF (AV.bin Go.BinOp.lss (AV.sat x0 (ys1217.getD 0 default)) (AV.lit (Value.int Go.IntKind.u8 65)))) →
            ((AV.binOk Go.BinOp.gtr (AV.sat x0 (ys1217.getD 0 default)) (AV.lit (Value.int Go.IntKind.u8 90))) ∧
            ((AV.isBool (AV.bin Go.BinOp.lss (AV.sat x0 (ys1217.getD 0 default)) (AV.lit (Value.int Go.IntKind.u8 65)))) ∧
            ((isF (AV.bin Go.BinOp.lss (AV.sat x0 (ys1217.getD 0 default)) (AV.lit (Value.int Go.IntKind.u8 65)))) ∧
            ((AV.isBool (AV.bin Go.BinOp.gtr (AV.sat x0 (ys1217.getD 0 default)) (AV.lit (Value.int Go.IntKind.u8 90)))) ∧
            (((isT (AV.bin Go.BinOp.gtr (AV.sat x0 (ys1217.getD 0 default)) (AV.lit (Value.int Go.IntKind.u8 90)))) →
              ((AV.binOk Go.BinOp.lss (AV.sat x0 (ys1217.getD 0 default)) (AV.lit (Value.int Go.IntKind.u8 48))) ∧
              ((AV.isBool (AV.bin Go.BinOp.lss (AV.sat x0 (ys1217.getD 0 default)) (AV.lit (Value.int Go.IntKind.u8 48)))) ∧
              (((isT (AV.bin Go.BinOp.lss (AV.sat x0 (ys1217.getD 0 default)) (AV.lit (Value.int Go.IntKind.u8 48)))) →
                ((AV.isBool (AV.bin Go.BinOp.lss (AV.sat x0 (ys1217.getD 0 default)) (AV.lit (Value.int Go.IntKind.u8 48)))) ∧
                ((isT (AV.bin Go.BinOp.lss (AV.sat x0 (ys1217.getD 0 default)) (AV.lit (Value.int Go.IntKind.u8 48)))) ∧
                ((AV.isBool (AV.bin Go.BinOp.gtr (AV.sat x0 (ys1217.getD 0 default)) (AV.lit (Value.int Go.IntKind.u8 90)))) ∧
                ((isT (AV.bin Go.BinOp.gtr (AV.sat x0 (ys1217.getD 0 default)) (AV.lit (Value.int Go.IntKind.u8 90)))) ∧
                ((AV.flat (AV.bool false)) ∧
                (fSame (AV.bool false) r))))))) ∧
              ((isF (AV.bin Go.BinOp.lss (AV.sat x0 (ys1217.getD 0 default)) (AV.lit (Value.int Go.IntKind.u8 48)))) →
                ((AV.binOk Go.BinOp.gtr (AV.sat x0 (ys1217.getD 0 default)) (AV.lit (Value.int Go.IntKind.u8 57))) ∧
                ((AV.isBool (AV.bin Go.BinOp.lss (AV.sat x0 (ys1217.getD 0 default)) (AV.lit (Value.int Go.IntKind.u8 48)))) ∧
                ((isF (AV.bin Go.BinOp.lss (AV.sat x0 (ys1217.getD 0 default)) (AV.lit (Value.int Go.IntKind.u8 48)))) ∧
                ((AV.isBool (AV.bin Go.BinOp.gtr (AV.sat x0 (ys1217.getD 0 default)) (AV.lit (Value.int Go.IntKind.u8 90)))) ∧
                ((isT (AV.bin Go.BinOp.gtr (AV.sat x0 (ys1217.getD 0 default)) (AV.lit (Value.int Go.IntKind.u8 90)))) ∧
                ((AV.isBool (AV.bin Go.BinOp.gtr (AV.sat x0 (ys1217.getD 0 default)) (AV.lit (Value.int Go.IntKind.u8 57)))) ∧
                (((isT (AV.bin Go.BinOp.gtr (AV.sat x0 (ys1217.getD 0 default)) (AV.lit (Value.int Go.IntKind.u8 57)))) →
                  ((AV.flat (AV.bool false)) ∧
                  (fSame (AV.bool false) r))) ∧
                ((isF (AV.bin Go.BinOp.gtr (AV.sat x0 (ys1217.getD 0 default)) (AV.lit (Value.int Go.IntKind.u8 57)))) →
                  ((AV.binOk Go.BinOp.add (ys1217.getD 0 default) (AV.int 1)) ∧
                  (again1217 [(AV.bin Go.BinOp.add (ys1217.getD 0 default) (AV.int 1))]))))))))))))))) ∧
            ((isF (AV.bin Go.BinOp.gtr (AV.sat x0 (ys1217.getD 0 default)) (AV.lit (Value.int Go.IntKind.u8 90)))) →
              ((AV.isBool (AV.bin Go.BinOp.gtr (AV.sat x0 (ys1217.getD 0 default)) (AV.lit (Value.int Go.IntKind.u8 90)))) ∧
              ((isF (AV.bin Go.BinOp.gtr (AV.sat x0 (ys1217.getD 0 default)) (AV.lit (Value.int Go.IntKind.u8 90)))) ∧
              ((AV.binOk Go.BinOp.add (ys1217.getD 0 default) (AV.int 1)) ∧
              (again1217 [(AV.bin Go.BinOp.add (ys1217.getD 0 default) (AV.int 1))]))))))))))))))))) ∧
        ((isF (AV.bin Go.BinOp.lss (ys1217.getD 0 default) (AV.slen x0))) →
          ((AV.flat (AV.bool true)) ∧
          (fSame (AV.bool true) r)))))))))))))))))))))))))))))) := by kernel_rfl
end NameF
end Go.Proofs.YtacfofpbbempaaaGreatDoor
/- Names. -/
namespace Go.Proofs.YtacfofpbbempaaaGreatDoor
open Go.RowKit
set_option linter.unusedVariables false
set_option linter.unusedSimpArgs false
set_option maxRecDepth 100000
def up (c : UInt8) : Prop := 65 ≤ c.toNat ∧ c.toNat ≤ 90
def dig (c : UInt8) : Prop := 48 ≤ c.toNat ∧ c.toNat ≤ 57
instance (c : UInt8) : Decidable (up c) := inferInstanceAs (Decidable (_ ∧ _))
instance (c : UInt8) : Decidable (dig c) := inferInstanceAs (Decidable (_ ∧ _))
def nameG : Nat → List UInt8 → Bool
  | _, [] => true
  | n, x :: rest => decide (up x ∨ (0 < n ∧ dig x)) && nameG (n + 1) rest
/-- A name: one to eight letters and digits, no digit at its head. -/
def isName (s : ByteArray) : Bool := decide (1 ≤ s.size ∧ s.size ≤ 8) && nameG 0 (key s)
theorem nameG_all : ∀ (n : Nat) (l : List UInt8), nameG (n + 1) l = l.all fun c => decide (up c ∨ dig c)
  | _, [] => rfl
  | n, x :: l => by simp [nameG, nameG_all (n + 1) l]
theorem nameG_head {x : UInt8} {l : List UInt8} (h : ¬ dig x) : nameG 0 (x :: l) = (x :: l).all fun c => decide (up c ∨ dig c) := by
  simp [nameG, nameG_all, h]
@[simp] theorem key_len (s : ByteArray) : (key s).length = s.size := Array.length_toList
def encB (c : UInt8) : List AV := [.lit (.int .u8 c.toNat)]
theorem bytes_lst (s : ByteArray) : AV.bytes (.lit (.string s)) = lst 1 encB (key s) := rfl
theorem sat_at {s : ByteArray} {n : Nat} {c : UInt8} {k : IntKind} (h : (key s)[n]? = some c) : AV.sat (.lit (.string s)) (.lit (.int k (n : Nat))) = .lit (.int .u8 c.toNat) := by
  have hn : n < s.data.size := by have := (List.getElem?_eq_some_iff.1 h).1; rwa [Array.length_toList] at this
  have hc : s.data[n] = c := by have := (List.getElem?_eq_some_iff.1 h).2; simpa [key] using this
  have : s[n]? = some c := by
    rw [getElem?_pos s n hn]
    exact congrArg some hc
  unfold AV.sat
  simp [this]
theorem isName_eq (s : ByteArray) (h1 : 1 ≤ s.size) (h2 : s.size ≤ 8) : isName s = nameG 0 (key s) := by
  unfold isName; rw [decide_eq_true ⟨h1, h2⟩, Bool.true_and]
theorem isName_no (s : ByteArray) (h : ¬ (1 ≤ s.size ∧ s.size ≤ 8)) : isName s = false := by
  unfold isName; rw [decide_eq_false h, Bool.false_and]
theorem name_fn (s : ByteArray) : Fn Tryz.prog 27 [.string s] .sc (.bool (isName s)) := by
  refine fn_run mixed 0 (Γ := NameF.Γ) (ann := NameF.ann) Tryz.func27 rfl Tryz.call27 ((NameF.name_form _ _).mpr ?_)
  simp [bytes_lst, AV.bytesOk]
  refine ⟨fun h => ⟨h, ?_⟩, fun h => ⟨h, fun h2 => ?_, fun h2 => ⟨by omega, ?_⟩⟩⟩
  · exact isName_no s (by omega)
  · exact isName_no s (by omega)
  · have hE := isName_eq s (by omega) (by omega)
    refine loop_list (σ := Unit) (key s) (fun n _ => [.int (n : Nat)]) (fun n rest _ => isName s = nameG n rest) () rfl hE ?_ ?_
    · intro n x rest _ K hx hr hn hg hK
      rw [nameG] at hg
      rw [key_len] at hn
      have bad : ¬ (up x ∨ (0 < n ∧ dig x)) → isName s = false := fun h => by rw [hg, decide_eq_false h]; rfl
      have good : (up x ∨ (0 < n ∧ dig x)) → K [.int ((n : Nat) + 1)] := fun h => hK _ () (by simp) (by rw [hg, decide_eq_true h, Bool.true_and])
      unfold up dig at bad good
      simp [hn, lst_at hx, encB]
      (repeat' (first | exact trivial | (with_reducible intro hw; (try simp (disch := omega) only [wrap64] at hw); first | (exfalso; omega; done) | skip) | (with_reducible refine And.intro ?_ ?_) | omega | assumption))
      all_goals (first | exact bad (by omega) | (rw [wrap64 (by omega) (by omega)]; exact good (by omega)))
    · intro _ K hg
      rw [key_len]
      simp [hg, nameG]
theorem isname_fn (s : ByteArray) : Fn Tryz.prog 43 [.string s] .sc (.bool (isName s)) := by
  refine fn_run mixed 0 (Γ := NameF.Γ) (ann := NameF.ann) Tryz.func43 rfl Tryz.call43 ((NameF.isname_form _ _).mpr ?_)
  have hem : s.size = 0 ↔ s = ⟨#[]⟩ := ⟨fun h => ByteArray.ext (Array.size_eq_zero_iff.1 h), fun h => by rw [h]; rfl⟩
  by_cases h0 : s = ⟨#[]⟩
  · simp [h0]
    exact isName_no _ (by decide)
  · have hs0 : 0 < s.size := by have := mt hem.1 h0; omega
    obtain ⟨x, rest, hk⟩ : ∃ x rest, key s = x :: rest := by
      cases hk : key s with
      | nil => have := key_len s; rw [hk] at this; simp at this; omega
      | cons x rest => exact ⟨x, rest, rfl⟩
    have hx0 : AV.sat (.lit (.string s)) (.lit (.int .i64 0)) = .lit (.int .u8 x.toNat) := sat_at (n := 0) (by rw [hk]; rfl)
    simp [h0, hx0, hs0]
    refine ⟨fun h => ⟨h, isName_no s (by omega)⟩, fun h => ?_⟩
    have hE := isName_eq s hs0 (by omega)
    (repeat' (first | exact trivial | (with_reducible intro hw; (try simp (disch := omega) only [wrap64] at hw); first | (exfalso; omega; done) | skip) | (with_reducible refine And.intro ?_ ?_) | omega | assumption))
    all_goals first
      | (rw [hE, hk, nameG, decide_eq_false (by unfold up dig; omega)]; rfl)
      | (have hnd : ¬ dig x := by unfold dig; omega
         have hE2 : isName s = (key s).all fun c => decide (up c ∨ dig c) := by rw [hE, hk, nameG_head hnd]
         refine loop_list (σ := Unit) (key s) (fun n _ => [.int (n : Nat)]) (fun n rest _ => isName s = rest.all fun c => decide (up c ∨ dig c)) () rfl hE2 ?_ ?_
         · intro n y rest' _ K hy hr hn hg hK
           rw [List.all_cons] at hg
           rw [key_len] at hn
           have bad : ¬ (up y ∨ dig y) → isName s = false := fun h => by rw [hg, decide_eq_false h]; rfl
           have good : (up y ∨ dig y) → K [.int ((n : Nat) + 1)] := fun h => hK _ () (by simp) (by rw [hg, decide_eq_true h, Bool.true_and])
           unfold up dig at bad good
           simp [hn, sat_at hy]
           (repeat' (first | exact trivial | (with_reducible intro hw; (try simp (disch := omega) only [wrap64] at hw); first | (exfalso; omega; done) | skip) | (with_reducible refine And.intro ?_ ?_) | omega | assumption))
           all_goals (first | exact bad (by omega) | (rw [wrap64 (by omega) (by omega)]; exact good (by omega)))
         · intro _ K hg
           rw [key_len]
           simp [hg])
end Go.Proofs.YtacfofpbbempaaaGreatDoor
/- readback: what the run ends in. -/
namespace Go.Proofs.YtacfofpbbempaaaGreatDoor
open Go.RowKit
set_option linter.unusedVariables false
set_option maxRecDepth 100000
namespace RbF
--GAMMA
def Γ : FuncId → Option Ca := fun f =>
  if f = 27 ∨ f = 43 ∨ f = 21 ∨ f = 40 ∨ f = 65 ∨ f = 42 ∨ f = 28 ∨ f = 8 ∨ f = 20 then some (.fn .sc)
  else some .inl
def ann : FuncId → Nat → LoopEx := fun f r => ⟨[], [], [], []⟩
--END GAMMA
theorem climbed_form (x0 r : AV) : fnF Tryz.prog Γ ann 1 20 Tryz.f20 (Tryz.f20.body.getD .skip) (.nil) [x0] (.sc) r = (((AV.isOne x0) ∧
((AV.flat (AV.agg [(AV.lit (Value.string ⟨#[65, 49]⟩)), (AV.int 0), x0, (AV.lit (Value.string ⟨#[]⟩))])) ∧
(fSame (AV.agg [(AV.lit (Value.string ⟨#[65, 49]⟩)), (AV.int 0), x0, (AV.lit (Value.string ⟨#[]⟩))]) r)))) := by kernel_rfl
theorem kind_form (x0 r : AV) : fnF Tryz.prog Γ ann 3 65 Tryz.f65 (Tryz.f65.body.getD .skip) (.nil) [x0] (.sc) r = (((AV.isRef (AV.mkRef [(AV.lit (Value.string ⟨#[72, 69, 73, 71, 72, 84]⟩)), (AV.lit (Value.string ⟨#[72, 69, 65, 68, 73, 78, 71]⟩)), (AV.lit (Value.string ⟨#[83, 80, 69, 69, 68]⟩)), (AV.lit (Value.string ⟨#[68, 73, 82, 69, 67, 84]⟩)), (AV.lit (Value.string ⟨#[72, 79, 76, 68]⟩)), (AV.lit (Value.string ⟨#[67, 79, 78, 84, 65, 67, 84]⟩)), (AV.lit (Value.string ⟨#[76, 65, 78, 68]⟩))]) 7) ∧
((fEnt Tryz.prog 81) ∧
(fAllV fun _ => ((AV.isSl (AV.refSl (AV.mkRef [(AV.lit (Value.string ⟨#[72, 69, 73, 71, 72, 84]⟩)), (AV.lit (Value.string ⟨#[72, 69, 65, 68, 73, 78, 71]⟩)), (AV.lit (Value.string ⟨#[83, 80, 69, 69, 68]⟩)), (AV.lit (Value.string ⟨#[68, 73, 82, 69, 67, 84]⟩)), (AV.lit (Value.string ⟨#[72, 79, 76, 68]⟩)), (AV.lit (Value.string ⟨#[67, 79, 78, 84, 65, 67, 84]⟩)), (AV.lit (Value.string ⟨#[76, 65, 78, 68]⟩))])) 1) ∧
(fLoop 513 [(AV.int 0)] fun ys513 again513 =>
  ((AV.binOk Go.BinOp.lss (ys513.getD 0 default) (AV.len (AV.refSl (AV.mkRef [(AV.lit (Value.string ⟨#[72, 69, 73, 71, 72, 84]⟩)), (AV.lit (Value.string ⟨#[72, 69, 65, 68, 73, 78, 71]⟩)), (AV.lit (Value.string ⟨#[83, 80, 69, 69, 68]⟩)), (AV.lit (Value.string ⟨#[68, 73, 82, 69, 67, 84]⟩)), (AV.lit (Value.string ⟨#[72, 79, 76, 68]⟩)), (AV.lit (Value.string ⟨#[67, 79, 78, 84, 65, 67, 84]⟩)), (AV.lit (Value.string ⟨#[76, 65, 78, 68]⟩))])))) ∧
  ((AV.isBool (AV.bin Go.BinOp.lss (ys513.getD 0 default) (AV.len (AV.refSl (AV.mkRef [(AV.lit (Value.string ⟨#[72, 69, 73, 71, 72, 84]⟩)), (AV.lit (Value.string ⟨#[72, 69, 65, 68, 73, 78, 71]⟩)), (AV.lit (Value.string ⟨#[83, 80, 69, 69, 68]⟩)), (AV.lit (Value.string ⟨#[68, 73, 82, 69, 67, 84]⟩)), (AV.lit (Value.string ⟨#[72, 79, 76, 68]⟩)), (AV.lit (Value.string ⟨#[67, 79, 78, 84, 65, 67, 84]⟩)), (AV.lit (Value.string ⟨#[76, 65, 78, 68]⟩))]))))) ∧
  (((isT (AV.bin Go.BinOp.lss (ys513.getD 0 default) (AV.len (AV.refSl (AV.mkRef [(AV.lit (Value.string ⟨#[72, 69, 73, 71, 72, 84]⟩)), (AV.lit (Value.string ⟨#[72, 69, 65, 68, 73, 78, 71]⟩)), (AV.lit (Value.string ⟨#[83, 80, 69, 69, 68]⟩)), (AV.lit (Value.string ⟨#[68, 73, 82, 69, 67, 84]⟩)), (AV.lit (Value.string ⟨#[72, 79, 76, 68]⟩)), (AV.lit (Value.string ⟨#[67, 79, 78, 84, 65, 67, 84]⟩)), (AV.lit (Value.string ⟨#[76, 65, 78, 68]⟩))]))))) →
    ((AV.isSl (AV.refSl (AV.mkRef [(AV.lit (Value.string ⟨#[72, 69, 73, 71, 72, 84]⟩)), (AV.lit (Value.string ⟨#[72, 69, 65, 68, 73, 78, 71]⟩)), (AV.lit (Value.string ⟨#[83, 80, 69, 69, 68]⟩)), (AV.lit (Value.string ⟨#[68, 73, 82, 69, 67, 84]⟩)), (AV.lit (Value.string ⟨#[72, 79, 76, 68]⟩)), (AV.lit (Value.string ⟨#[67, 79, 78, 84, 65, 67, 84]⟩)), (AV.lit (Value.string ⟨#[76, 65, 78, 68]⟩))])) 1) ∧
    ((AV.inb (AV.refSl (AV.mkRef [(AV.lit (Value.string ⟨#[72, 69, 73, 71, 72, 84]⟩)), (AV.lit (Value.string ⟨#[72, 69, 65, 68, 73, 78, 71]⟩)), (AV.lit (Value.string ⟨#[83, 80, 69, 69, 68]⟩)), (AV.lit (Value.string ⟨#[68, 73, 82, 69, 67, 84]⟩)), (AV.lit (Value.string ⟨#[72, 79, 76, 68]⟩)), (AV.lit (Value.string ⟨#[67, 79, 78, 84, 65, 67, 84]⟩)), (AV.lit (Value.string ⟨#[76, 65, 78, 68]⟩))])) (ys513.getD 0 default)) ∧
    ((AV.binOk Go.BinOp.eql x0 (AV.at (AV.refSl (AV.mkRef [(AV.lit (Value.string ⟨#[72, 69, 73, 71, 72, 84]⟩)), (AV.lit (Value.string ⟨#[72, 69, 65, 68, 73, 78, 71]⟩)), (AV.lit (Value.string ⟨#[83, 80, 69, 69, 68]⟩)), (AV.lit (Value.string ⟨#[68, 73, 82, 69, 67, 84]⟩)), (AV.lit (Value.string ⟨#[72, 79, 76, 68]⟩)), (AV.lit (Value.string ⟨#[67, 79, 78, 84, 65, 67, 84]⟩)), (AV.lit (Value.string ⟨#[76, 65, 78, 68]⟩))])) (ys513.getD 0 default) 0)) ∧
    ((AV.isBool (AV.bin Go.BinOp.eql x0 (AV.at (AV.refSl (AV.mkRef [(AV.lit (Value.string ⟨#[72, 69, 73, 71, 72, 84]⟩)), (AV.lit (Value.string ⟨#[72, 69, 65, 68, 73, 78, 71]⟩)), (AV.lit (Value.string ⟨#[83, 80, 69, 69, 68]⟩)), (AV.lit (Value.string ⟨#[68, 73, 82, 69, 67, 84]⟩)), (AV.lit (Value.string ⟨#[72, 79, 76, 68]⟩)), (AV.lit (Value.string ⟨#[67, 79, 78, 84, 65, 67, 84]⟩)), (AV.lit (Value.string ⟨#[76, 65, 78, 68]⟩))])) (ys513.getD 0 default) 0))) ∧
    (((isT (AV.bin Go.BinOp.eql x0 (AV.at (AV.refSl (AV.mkRef [(AV.lit (Value.string ⟨#[72, 69, 73, 71, 72, 84]⟩)), (AV.lit (Value.string ⟨#[72, 69, 65, 68, 73, 78, 71]⟩)), (AV.lit (Value.string ⟨#[83, 80, 69, 69, 68]⟩)), (AV.lit (Value.string ⟨#[68, 73, 82, 69, 67, 84]⟩)), (AV.lit (Value.string ⟨#[72, 79, 76, 68]⟩)), (AV.lit (Value.string ⟨#[67, 79, 78, 84, 65, 67, 84]⟩)), (AV.lit (Value.string ⟨#[76, 65, 78, 68]⟩))])) (ys513.getD 0 default) 0))) →
      ((AV.flat (ys513.getD 0 default)) ∧
      (fSame (ys513.getD 0 default) r))) ∧
    ((isF (AV.bin Go.BinOp.eql x0 (AV.at (AV.refSl (AV.mkRef [(AV.lit (Value.string ⟨#[72, 69, 73, 71, 72, 84]⟩)), (AV.lit (Value.string ⟨#[72, 69, 65, 68, 73, 78, 71]⟩)), (AV.lit (Value.string ⟨#[83, 80, 69, 69, 68]⟩)), (AV.lit (Value.string ⟨#[68, 73, 82, 69, 67, 84]⟩)), (AV.lit (Value.string ⟨#[72, 79, 76, 68]⟩)), (AV.lit (Value.string ⟨#[67, 79, 78, 84, 65, 67, 84]⟩)), (AV.lit (Value.string ⟨#[76, 65, 78, 68]⟩))])) (ys513.getD 0 default) 0))) →
      ((AV.binOk Go.BinOp.add (ys513.getD 0 default) (AV.int 1)) ∧
      (again513 [(AV.bin Go.BinOp.add (ys513.getD 0 default) (AV.int 1))]))))))))) ∧
  ((isF (AV.bin Go.BinOp.lss (ys513.getD 0 default) (AV.len (AV.refSl (AV.mkRef [(AV.lit (Value.string ⟨#[72, 69, 73, 71, 72, 84]⟩)), (AV.lit (Value.string ⟨#[72, 69, 65, 68, 73, 78, 71]⟩)), (AV.lit (Value.string ⟨#[83, 80, 69, 69, 68]⟩)), (AV.lit (Value.string ⟨#[68, 73, 82, 69, 67, 84]⟩)), (AV.lit (Value.string ⟨#[72, 79, 76, 68]⟩)), (AV.lit (Value.string ⟨#[67, 79, 78, 84, 65, 67, 84]⟩)), (AV.lit (Value.string ⟨#[76, 65, 78, 68]⟩))]))))) →
    ((AV.flat (AV.int (-1))) ∧
    (fSame (AV.int (-1)) r)))))))))))) := by kernel_rfl
theorem name_form (x0 r : AV) : fnF Tryz.prog Γ ann 3 40 Tryz.f40 (Tryz.f40.body.getD .skip) (.nil) [x0] (.sc) r = ((∃ r129 : AV, ((Fn Tryz.prog 27 [x0] Sh.sc r129) ∧
((AV.isBool r129) ∧
(((isT r129) →
  (∃ r321 : AV, ((Fn Tryz.prog 65 [x0] Sh.sc r321) ∧
  ((AV.binOk Go.BinOp.lss r321 (AV.int 0)) ∧
  ((AV.isBool r129) ∧
  ((isT r129) ∧
  ((AV.flat (AV.bin Go.BinOp.lss r321 (AV.int 0))) ∧
  (fSame (AV.bin Go.BinOp.lss r321 (AV.int 0)) r)))))))) ∧
((isF r129) →
  ((AV.isBool r129) ∧
  ((isF r129) ∧
  ((AV.flat (AV.bool false)) ∧
  (fSame (AV.bool false) r)))))))))) := by kernel_rfl
theorem check_form (x0 r : AV) : fnF Tryz.prog Γ ann 3 21 Tryz.f21 (Tryz.f21.body.getD .skip) (.nil) [x0] (.sc) r = (((AV.isAgg x0 4) ∧
(∃ r257 : AV, ((Fn Tryz.prog 40 [(AV.cel x0 0)] Sh.sc r257) ∧
((AV.unOk Go.UnOp.not r257) ∧
((AV.isBool (AV.un Go.UnOp.not r257)) ∧
(((isT (AV.un Go.UnOp.not r257)) →
  ((AV.flat (AV.int 3)) ∧
  (fSame (AV.int 3) r))) ∧
((isF (AV.un Go.UnOp.not r257)) →
  ((AV.binOk Go.BinOp.lss (AV.cel x0 1) (AV.int 0)) ∧
  ((AV.isBool (AV.bin Go.BinOp.lss (AV.cel x0 1) (AV.int 0))) ∧
  (((isT (AV.bin Go.BinOp.lss (AV.cel x0 1) (AV.int 0))) →
    ((AV.isBool (AV.bin Go.BinOp.lss (AV.cel x0 1) (AV.int 0))) ∧
    ((isT (AV.bin Go.BinOp.lss (AV.cel x0 1) (AV.int 0))) ∧
    ((AV.flat (AV.int 1)) ∧
    (fSame (AV.int 1) r))))) ∧
  ((isF (AV.bin Go.BinOp.lss (AV.cel x0 1) (AV.int 0))) →
    ((AV.binOk Go.BinOp.gtr (AV.cel x0 1) (AV.int 6)) ∧
    ((AV.isBool (AV.bin Go.BinOp.lss (AV.cel x0 1) (AV.int 0))) ∧
    ((isF (AV.bin Go.BinOp.lss (AV.cel x0 1) (AV.int 0))) ∧
    ((AV.isBool (AV.bin Go.BinOp.gtr (AV.cel x0 1) (AV.int 6))) ∧
    (((isT (AV.bin Go.BinOp.gtr (AV.cel x0 1) (AV.int 6))) →
      ((AV.flat (AV.int 1)) ∧
      (fSame (AV.int 1) r))) ∧
    ((isF (AV.bin Go.BinOp.gtr (AV.cel x0 1) (AV.int 6))) →
      ((AV.binOk Go.BinOp.gtr (AV.cel x0 1) (AV.int 2)) ∧
      ((AV.isBool (AV.bin Go.BinOp.gtr (AV.cel x0 1) (AV.int 2))) ∧
      (((isT (AV.bin Go.BinOp.gtr (AV.cel x0 1) (AV.int 2))) →
        ((AV.binOk Go.BinOp.neq (AV.cel x0 2) (AV.int 0)) ∧
        ((AV.isBool (AV.bin Go.BinOp.neq (AV.cel x0 2) (AV.int 0))) ∧
        (((isT (AV.bin Go.BinOp.neq (AV.cel x0 2) (AV.int 0))) →
          ((AV.isBool (AV.bin Go.BinOp.neq (AV.cel x0 2) (AV.int 0))) ∧
          ((isT (AV.bin Go.BinOp.neq (AV.cel x0 2) (AV.int 0))) ∧
          ((AV.flat (AV.int 3)) ∧
          (fSame (AV.int 3) r))))) ∧
        ((isF (AV.bin Go.BinOp.neq (AV.cel x0 2) (AV.int 0))) →
          (∃ r1665 : AV, ((Fn Tryz.prog 40 [(AV.cel x0 3)] Sh.sc r1665) ∧
          ((AV.unOk Go.UnOp.not r1665) ∧
          ((AV.isBool (AV.bin Go.BinOp.neq (AV.cel x0 2) (AV.int 0))) ∧
          ((isF (AV.bin Go.BinOp.neq (AV.cel x0 2) (AV.int 0))) ∧
          ((AV.isBool (AV.un Go.UnOp.not r1665)) ∧
          (((isT (AV.un Go.UnOp.not r1665)) →
            ((AV.flat (AV.int 3)) ∧
            (fSame (AV.int 3) r))) ∧
          ((isF (AV.un Go.UnOp.not r1665)) →
            ((AV.flat (AV.int 0)) ∧
            (fSame (AV.int 0) r))))))))))))))) ∧
      ((isF (AV.bin Go.BinOp.gtr (AV.cel x0 1) (AV.int 2))) →
        ((AV.binOk Go.BinOp.neq (AV.cel x0 3) (AV.lit (Value.string ⟨#[]⟩))) ∧
        ((AV.isBool (AV.bin Go.BinOp.neq (AV.cel x0 3) (AV.lit (Value.string ⟨#[]⟩)))) ∧
        (((isT (AV.bin Go.BinOp.neq (AV.cel x0 3) (AV.lit (Value.string ⟨#[]⟩)))) →
          ((AV.flat (AV.int 3)) ∧
          (fSame (AV.int 3) r))) ∧
        ((isF (AV.bin Go.BinOp.neq (AV.cel x0 3) (AV.lit (Value.string ⟨#[]⟩)))) →
          ((AV.binOk Go.BinOp.lss (AV.cel x0 2) (AV.int 0)) ∧
          ((AV.isBool (AV.bin Go.BinOp.lss (AV.cel x0 2) (AV.int 0))) ∧
          (((isT (AV.bin Go.BinOp.lss (AV.cel x0 2) (AV.int 0))) →
            ((AV.isBool (AV.bin Go.BinOp.lss (AV.cel x0 2) (AV.int 0))) ∧
            ((isT (AV.bin Go.BinOp.lss (AV.cel x0 2) (AV.int 0))) ∧
            ((AV.flat (AV.int 4)) ∧
            (fSame (AV.int 4) r))))) ∧
          ((isF (AV.bin Go.BinOp.lss (AV.cel x0 2) (AV.int 0))) →
            ((AV.inl 3 (AV.cel x0 1)) ∧
            ((AV.isRef (AV.mkRef [(AV.int 60000), (AV.int 4095), (AV.int 400)]) 3) ∧
            ((AV.refOk (AV.mkRef [(AV.int 60000), (AV.int 4095), (AV.int 400)]) 3 0 [((AV.cel x0 1), 1)]) ∧
            ((AV.binOk Go.BinOp.gtr (AV.cel x0 2) (AV.refNth (AV.mkRef [(AV.int 60000), (AV.int 4095), (AV.int 400)]) 0 [((AV.cel x0 1), 1)])) ∧
            ((AV.isBool (AV.bin Go.BinOp.lss (AV.cel x0 2) (AV.int 0))) ∧
            ((isF (AV.bin Go.BinOp.lss (AV.cel x0 2) (AV.int 0))) ∧
            ((AV.isBool (AV.bin Go.BinOp.gtr (AV.cel x0 2) (AV.refNth (AV.mkRef [(AV.int 60000), (AV.int 4095), (AV.int 400)]) 0 [((AV.cel x0 1), 1)]))) ∧
            (((isT (AV.bin Go.BinOp.gtr (AV.cel x0 2) (AV.refNth (AV.mkRef [(AV.int 60000), (AV.int 4095), (AV.int 400)]) 0 [((AV.cel x0 1), 1)]))) →
              ((AV.flat (AV.int 4)) ∧
              (fSame (AV.int 4) r))) ∧
            ((isF (AV.bin Go.BinOp.gtr (AV.cel x0 2) (AV.refNth (AV.mkRef [(AV.int 60000), (AV.int 4095), (AV.int 400)]) 0 [((AV.cel x0 1), 1)]))) →
              ((AV.flat (AV.int 0)) ∧
              (fSame (AV.int 0) r))))))))))))))))))))))))))))))))))))))))) := by kernel_rfl
theorem word_form (x0 r : AV) : fnF Tryz.prog Γ ann 3 42 Tryz.f42 (Tryz.f42.body.getD .skip) (.nil) [x0] (.sc) r = (((AV.inb (AV.mk 1 [[(AV.lit (Value.string ⟨#[72, 69, 73, 71, 72, 84]⟩))], [(AV.lit (Value.string ⟨#[72, 69, 65, 68, 73, 78, 71]⟩))], [(AV.lit (Value.string ⟨#[83, 80, 69, 69, 68]⟩))], [(AV.lit (Value.string ⟨#[68, 73, 82, 69, 67, 84]⟩))], [(AV.lit (Value.string ⟨#[72, 79, 76, 68]⟩))], [(AV.lit (Value.string ⟨#[67, 79, 78, 84, 65, 67, 84]⟩))], [(AV.lit (Value.string ⟨#[76, 65, 78, 68]⟩))]]) x0) ∧
((AV.inb (AV.mk 1 [[(AV.lit (Value.string ⟨#[72, 69, 73, 71, 72, 84]⟩))], [(AV.lit (Value.string ⟨#[72, 69, 65, 68, 73, 78, 71]⟩))], [(AV.lit (Value.string ⟨#[83, 80, 69, 69, 68]⟩))], [(AV.lit (Value.string ⟨#[68, 73, 82, 69, 67, 84]⟩))], [(AV.lit (Value.string ⟨#[72, 79, 76, 68]⟩))], [(AV.lit (Value.string ⟨#[67, 79, 78, 84, 65, 67, 84]⟩))], [(AV.lit (Value.string ⟨#[76, 65, 78, 68]⟩))]]) x0) ∧
((AV.flat (AV.at (AV.mk 1 [[(AV.lit (Value.string ⟨#[72, 69, 73, 71, 72, 84]⟩))], [(AV.lit (Value.string ⟨#[72, 69, 65, 68, 73, 78, 71]⟩))], [(AV.lit (Value.string ⟨#[83, 80, 69, 69, 68]⟩))], [(AV.lit (Value.string ⟨#[68, 73, 82, 69, 67, 84]⟩))], [(AV.lit (Value.string ⟨#[72, 79, 76, 68]⟩))], [(AV.lit (Value.string ⟨#[67, 79, 78, 84, 65, 67, 84]⟩))], [(AV.lit (Value.string ⟨#[76, 65, 78, 68]⟩))]]) x0 0)) ∧
(fSame (AV.at (AV.mk 1 [[(AV.lit (Value.string ⟨#[72, 69, 73, 71, 72, 84]⟩))], [(AV.lit (Value.string ⟨#[72, 69, 65, 68, 73, 78, 71]⟩))], [(AV.lit (Value.string ⟨#[83, 80, 69, 69, 68]⟩))], [(AV.lit (Value.string ⟨#[68, 73, 82, 69, 67, 84]⟩))], [(AV.lit (Value.string ⟨#[72, 79, 76, 68]⟩))], [(AV.lit (Value.string ⟨#[67, 79, 78, 84, 65, 67, 84]⟩))], [(AV.lit (Value.string ⟨#[76, 65, 78, 68]⟩))]]) x0 0) r))))) := by kernel_rfl
theorem free_form (x0 r : AV) : fnF Tryz.prog Γ ann 3 28 Tryz.f28 (Tryz.f28.body.getD .skip) (.nil) [x0] (.sc) r = ((fLoop 129 [(AV.int 0)] fun ys129 again129 =>
  ((AV.binOk Go.BinOp.lss (ys129.getD 0 default) (AV.int 7)) ∧
  ((AV.isBool (AV.bin Go.BinOp.lss (ys129.getD 0 default) (AV.int 7))) ∧
  (((isT (AV.bin Go.BinOp.lss (ys129.getD 0 default) (AV.int 7))) →
    (∃ r385 : AV, ((Fn Tryz.prog 42 [(ys129.getD 0 default)] Sh.sc r385) ∧
    ((AV.binOk Go.BinOp.eql r385 x0) ∧
    ((AV.isBool (AV.bin Go.BinOp.eql r385 x0)) ∧
    (((isT (AV.bin Go.BinOp.eql r385 x0)) →
      ((AV.flat (AV.bool false)) ∧
      (fSame (AV.bool false) r))) ∧
    ((isF (AV.bin Go.BinOp.eql r385 x0)) →
      ((AV.binOk Go.BinOp.add (ys129.getD 0 default) (AV.int 1)) ∧
      (again129 [(AV.bin Go.BinOp.add (ys129.getD 0 default) (AV.int 1))]))))))))) ∧
  ((isF (AV.bin Go.BinOp.lss (ys129.getD 0 default) (AV.int 7))) →
    (∃ r257 : AV, ((Fn Tryz.prog 43 [x0] Sh.sc r257) ∧
    ((AV.flat r257) ∧
    (fSame r257 r)))))))))) := by kernel_rfl
theorem cerr_form (x0 r : AV) : fnF Tryz.prog Γ ann 3 8 Tryz.f8 (Tryz.f8.body.getD .skip) ((.both .nil (.both .nil (.both .nil (.both (.both .nil (.both .nil (.f (.f .nil)))) (.t (.both .nil (.t .nil)))))))) [x0] (.sc) r = (((AV.isAgg x0 4) ∧
(∃ r257 : AV, ((Fn Tryz.prog 28 [(AV.cel x0 0)] Sh.sc r257) ∧
((AV.unOk Go.UnOp.not r257) ∧
((AV.isBool (AV.un Go.UnOp.not r257)) ∧
(((isT (AV.un Go.UnOp.not r257)) →
  ((AV.flat (AV.int 3)) ∧
  (fSame (AV.int 3) r))) ∧
((isF (AV.un Go.UnOp.not r257)) →
  ((AV.binOk Go.BinOp.lss (AV.cel x0 1) (AV.int 0)) ∧
  ((AV.isBool (AV.bin Go.BinOp.lss (AV.cel x0 1) (AV.int 0))) ∧
  (((isT (AV.bin Go.BinOp.lss (AV.cel x0 1) (AV.int 0))) →
    ((AV.isBool (AV.bin Go.BinOp.lss (AV.cel x0 1) (AV.int 0))) ∧
    ((isT (AV.bin Go.BinOp.lss (AV.cel x0 1) (AV.int 0))) ∧
    ((AV.flat (AV.int 1)) ∧
    (fSame (AV.int 1) r))))) ∧
  ((isF (AV.bin Go.BinOp.lss (AV.cel x0 1) (AV.int 0))) →
    ((AV.binOk Go.BinOp.gtr (AV.cel x0 1) (AV.int 6)) ∧
    ((AV.isBool (AV.bin Go.BinOp.lss (AV.cel x0 1) (AV.int 0))) ∧
    ((isF (AV.bin Go.BinOp.lss (AV.cel x0 1) (AV.int 0))) ∧
    ((AV.isBool (AV.bin Go.BinOp.gtr (AV.cel x0 1) (AV.int 6))) ∧
    (((isT (AV.bin Go.BinOp.gtr (AV.cel x0 1) (AV.int 6))) →
      ((AV.flat (AV.int 1)) ∧
      (fSame (AV.int 1) r))) ∧
    ((isF (AV.bin Go.BinOp.gtr (AV.cel x0 1) (AV.int 6))) →
      ((AV.inb (AV.mk 1 [[(AV.int 60000)], [(AV.int 4095)], [(AV.int 400)], [(AV.int (-1))], [(AV.int (-1))], [(AV.int (-1))], [(AV.int (-1))]]) (AV.cel x0 1)) ∧
      ((AV.inb (AV.mk 1 [[(AV.int 60000)], [(AV.int 4095)], [(AV.int 400)], [(AV.int (-1))], [(AV.int (-1))], [(AV.int (-1))], [(AV.int (-1))]]) (AV.cel x0 1)) ∧
      ((AV.binOk Go.BinOp.lss (AV.at (AV.mk 1 [[(AV.int 60000)], [(AV.int 4095)], [(AV.int 400)], [(AV.int (-1))], [(AV.int (-1))], [(AV.int (-1))], [(AV.int (-1))]]) (AV.cel x0 1) 0) (AV.int 0)) ∧
      ((AV.isBool (AV.bin Go.BinOp.lss (AV.at (AV.mk 1 [[(AV.int 60000)], [(AV.int 4095)], [(AV.int 400)], [(AV.int (-1))], [(AV.int (-1))], [(AV.int (-1))], [(AV.int (-1))]]) (AV.cel x0 1) 0) (AV.int 0))) ∧
      (((isT (AV.bin Go.BinOp.lss (AV.at (AV.mk 1 [[(AV.int 60000)], [(AV.int 4095)], [(AV.int 400)], [(AV.int (-1))], [(AV.int (-1))], [(AV.int (-1))], [(AV.int (-1))]]) (AV.cel x0 1) 0) (AV.int 0))) →
        ((AV.binOk Go.BinOp.neq (AV.cel x0 2) (AV.int 0)) ∧
        ((AV.isBool (AV.bin Go.BinOp.neq (AV.cel x0 2) (AV.int 0))) ∧
        (((isT (AV.bin Go.BinOp.neq (AV.cel x0 2) (AV.int 0))) →
          ((AV.isBool (AV.bin Go.BinOp.neq (AV.cel x0 2) (AV.int 0))) ∧
          ((isT (AV.bin Go.BinOp.neq (AV.cel x0 2) (AV.int 0))) ∧
          ((AV.isBool (AV.bin Go.BinOp.lss (AV.at (AV.mk 1 [[(AV.int 60000)], [(AV.int 4095)], [(AV.int 400)], [(AV.int (-1))], [(AV.int (-1))], [(AV.int (-1))], [(AV.int (-1))]]) (AV.cel x0 1) 0) (AV.int 0))) ∧
          ((isT (AV.bin Go.BinOp.lss (AV.at (AV.mk 1 [[(AV.int 60000)], [(AV.int 4095)], [(AV.int 400)], [(AV.int (-1))], [(AV.int (-1))], [(AV.int (-1))], [(AV.int (-1))]]) (AV.cel x0 1) 0) (AV.int 0))) ∧
          ((AV.flat (AV.int 3)) ∧
          (fSame (AV.int 3) r))))))) ∧
        ((isF (AV.bin Go.BinOp.neq (AV.cel x0 2) (AV.int 0))) →
          (∃ r1857 : AV, ((Fn Tryz.prog 28 [(AV.cel x0 3)] Sh.sc r1857) ∧
          ((AV.unOk Go.UnOp.not r1857) ∧
          ((AV.isBool (AV.bin Go.BinOp.neq (AV.cel x0 2) (AV.int 0))) ∧
          ((isF (AV.bin Go.BinOp.neq (AV.cel x0 2) (AV.int 0))) ∧
          ((AV.isBool (AV.bin Go.BinOp.lss (AV.at (AV.mk 1 [[(AV.int 60000)], [(AV.int 4095)], [(AV.int 400)], [(AV.int (-1))], [(AV.int (-1))], [(AV.int (-1))], [(AV.int (-1))]]) (AV.cel x0 1) 0) (AV.int 0))) ∧
          ((isT (AV.bin Go.BinOp.lss (AV.at (AV.mk 1 [[(AV.int 60000)], [(AV.int 4095)], [(AV.int 400)], [(AV.int (-1))], [(AV.int (-1))], [(AV.int (-1))], [(AV.int (-1))]]) (AV.cel x0 1) 0) (AV.int 0))) ∧
          ((AV.isBool (AV.un Go.UnOp.not r1857)) ∧
          (((isT (AV.un Go.UnOp.not r1857)) →
            ((AV.isBool (AV.un Go.UnOp.not r1857)) ∧
            ((isT (AV.un Go.UnOp.not r1857)) ∧
            ((AV.flat (AV.int 3)) ∧
            (fSame (AV.int 3) r))))) ∧
          ((isF (AV.un Go.UnOp.not r1857)) →
            ((AV.binOk Go.BinOp.geq (AV.at (AV.mk 1 [[(AV.int 60000)], [(AV.int 4095)], [(AV.int 400)], [(AV.int (-1))], [(AV.int (-1))], [(AV.int (-1))], [(AV.int (-1))]]) (AV.cel x0 1) 0) (AV.int 0)) ∧
            ((AV.isBool (AV.bin Go.BinOp.geq (AV.at (AV.mk 1 [[(AV.int 60000)], [(AV.int 4095)], [(AV.int 400)], [(AV.int (-1))], [(AV.int (-1))], [(AV.int (-1))], [(AV.int (-1))]]) (AV.cel x0 1) 0) (AV.int 0))) ∧
            ((isF (AV.bin Go.BinOp.geq (AV.at (AV.mk 1 [[(AV.int 60000)], [(AV.int 4095)], [(AV.int 400)], [(AV.int (-1))], [(AV.int (-1))], [(AV.int (-1))], [(AV.int (-1))]]) (AV.cel x0 1) 0) (AV.int 0))) ∧
            ((AV.isBool (AV.bin Go.BinOp.geq (AV.at (AV.mk 1 [[(AV.int 60000)], [(AV.int 4095)], [(AV.int 400)], [(AV.int (-1))], [(AV.int (-1))], [(AV.int (-1))], [(AV.int (-1))]]) (AV.cel x0 1) 0) (AV.int 0))) ∧
            ((isF (AV.bin Go.BinOp.geq (AV.at (AV.mk 1 [[(AV.int 60000)], [(AV.int 4095)], [(AV.int 400)], [(AV.int (-1))], [(AV.int (-1))], [(AV.int (-1))], [(AV.int (-1))]]) (AV.cel x0 1) 0) (AV.int 0))) ∧
            ((AV.isBool (AV.un Go.UnOp.not r1857)) ∧
            ((isF (AV.un Go.UnOp.not r1857)) ∧
            ((AV.binOk Go.BinOp.geq (AV.at (AV.mk 1 [[(AV.int 60000)], [(AV.int 4095)], [(AV.int 400)], [(AV.int (-1))], [(AV.int (-1))], [(AV.int (-1))], [(AV.int (-1))]]) (AV.cel x0 1) 0) (AV.int 0)) ∧
            ((AV.isBool (AV.bin Go.BinOp.geq (AV.at (AV.mk 1 [[(AV.int 60000)], [(AV.int 4095)], [(AV.int 400)], [(AV.int (-1))], [(AV.int (-1))], [(AV.int (-1))], [(AV.int (-1))]]) (AV.cel x0 1) 0) (AV.int 0))) ∧
            ((isF (AV.bin Go.BinOp.geq (AV.at (AV.mk 1 [[(AV.int 60000)], [(AV.int 4095)], [(AV.int 400)], [(AV.int (-1))], [(AV.int (-1))], [(AV.int (-1))], [(AV.int (-1))]]) (AV.cel x0 1) 0) (AV.int 0))) ∧
            ((AV.isBool (AV.bin Go.BinOp.geq (AV.at (AV.mk 1 [[(AV.int 60000)], [(AV.int 4095)], [(AV.int 400)], [(AV.int (-1))], [(AV.int (-1))], [(AV.int (-1))], [(AV.int (-1))]]) (AV.cel x0 1) 0) (AV.int 0))) ∧
            ((isF (AV.bin Go.BinOp.geq (AV.at (AV.mk 1 [[(AV.int 60000)], [(AV.int 4095)], [(AV.int 400)], [(AV.int (-1))], [(AV.int (-1))], [(AV.int (-1))], [(AV.int (-1))]]) (AV.cel x0 1) 0) (AV.int 0))) ∧
            ((AV.flat (AV.int 0)) ∧
            (fSame (AV.int 0) r))))))))))))))))))))))))))))) ∧
      ((isF (AV.bin Go.BinOp.lss (AV.at (AV.mk 1 [[(AV.int 60000)], [(AV.int 4095)], [(AV.int 400)], [(AV.int (-1))], [(AV.int (-1))], [(AV.int (-1))], [(AV.int (-1))]]) (AV.cel x0 1) 0) (AV.int 0))) →
        ((AV.isBool (AV.bin Go.BinOp.lss (AV.at (AV.mk 1 [[(AV.int 60000)], [(AV.int 4095)], [(AV.int 400)], [(AV.int (-1))], [(AV.int (-1))], [(AV.int (-1))], [(AV.int (-1))]]) (AV.cel x0 1) 0) (AV.int 0))) ∧
        ((isF (AV.bin Go.BinOp.lss (AV.at (AV.mk 1 [[(AV.int 60000)], [(AV.int 4095)], [(AV.int 400)], [(AV.int (-1))], [(AV.int (-1))], [(AV.int (-1))], [(AV.int (-1))]]) (AV.cel x0 1) 0) (AV.int 0))) ∧
        ((AV.binOk Go.BinOp.geq (AV.at (AV.mk 1 [[(AV.int 60000)], [(AV.int 4095)], [(AV.int 400)], [(AV.int (-1))], [(AV.int (-1))], [(AV.int (-1))], [(AV.int (-1))]]) (AV.cel x0 1) 0) (AV.int 0)) ∧
        ((AV.isBool (AV.bin Go.BinOp.geq (AV.at (AV.mk 1 [[(AV.int 60000)], [(AV.int 4095)], [(AV.int 400)], [(AV.int (-1))], [(AV.int (-1))], [(AV.int (-1))], [(AV.int (-1))]]) (AV.cel x0 1) 0) (AV.int 0))) ∧
        ((isT (AV.bin Go.BinOp.geq (AV.at (AV.mk 1 [[(AV.int 60000)], [(AV.int 4095)], [(AV.int 400)], [(AV.int (-1))], [(AV.int (-1))], [(AV.int (-1))], [(AV.int (-1))]]) (AV.cel x0 1) 0) (AV.int 0))) ∧
        ((AV.binOk Go.BinOp.neq (AV.cel x0 3) (AV.lit (Value.string ⟨#[]⟩))) ∧
        ((AV.isBool (AV.bin Go.BinOp.geq (AV.at (AV.mk 1 [[(AV.int 60000)], [(AV.int 4095)], [(AV.int 400)], [(AV.int (-1))], [(AV.int (-1))], [(AV.int (-1))], [(AV.int (-1))]]) (AV.cel x0 1) 0) (AV.int 0))) ∧
        ((isT (AV.bin Go.BinOp.geq (AV.at (AV.mk 1 [[(AV.int 60000)], [(AV.int 4095)], [(AV.int 400)], [(AV.int (-1))], [(AV.int (-1))], [(AV.int (-1))], [(AV.int (-1))]]) (AV.cel x0 1) 0) (AV.int 0))) ∧
        ((AV.isBool (AV.bin Go.BinOp.neq (AV.cel x0 3) (AV.lit (Value.string ⟨#[]⟩)))) ∧
        (((isT (AV.bin Go.BinOp.neq (AV.cel x0 3) (AV.lit (Value.string ⟨#[]⟩)))) →
          ((AV.flat (AV.int 3)) ∧
          (fSame (AV.int 3) r))) ∧
        ((isF (AV.bin Go.BinOp.neq (AV.cel x0 3) (AV.lit (Value.string ⟨#[]⟩)))) →
          ((AV.binOk Go.BinOp.geq (AV.at (AV.mk 1 [[(AV.int 60000)], [(AV.int 4095)], [(AV.int 400)], [(AV.int (-1))], [(AV.int (-1))], [(AV.int (-1))], [(AV.int (-1))]]) (AV.cel x0 1) 0) (AV.int 0)) ∧
          ((AV.isBool (AV.bin Go.BinOp.geq (AV.at (AV.mk 1 [[(AV.int 60000)], [(AV.int 4095)], [(AV.int 400)], [(AV.int (-1))], [(AV.int (-1))], [(AV.int (-1))], [(AV.int (-1))]]) (AV.cel x0 1) 0) (AV.int 0))) ∧
          ((isT (AV.bin Go.BinOp.geq (AV.at (AV.mk 1 [[(AV.int 60000)], [(AV.int 4095)], [(AV.int 400)], [(AV.int (-1))], [(AV.int (-1))], [(AV.int (-1))], [(AV.int (-1))]]) (AV.cel x0 1) 0) (AV.int 0))) ∧
          ((AV.binOk Go.BinOp.lss (AV.cel x0 2) (AV.int 0)) ∧
          ((AV.isBool (AV.bin Go.BinOp.lss (AV.cel x0 2) (AV.int 0))) ∧
          (((isT (AV.bin Go.BinOp.lss (AV.cel x0 2) (AV.int 0))) →
            ((AV.isBool (AV.bin Go.BinOp.lss (AV.cel x0 2) (AV.int 0))) ∧
            ((isT (AV.bin Go.BinOp.lss (AV.cel x0 2) (AV.int 0))) ∧
            ((AV.isBool (AV.bin Go.BinOp.geq (AV.at (AV.mk 1 [[(AV.int 60000)], [(AV.int 4095)], [(AV.int 400)], [(AV.int (-1))], [(AV.int (-1))], [(AV.int (-1))], [(AV.int (-1))]]) (AV.cel x0 1) 0) (AV.int 0))) ∧
            ((isT (AV.bin Go.BinOp.geq (AV.at (AV.mk 1 [[(AV.int 60000)], [(AV.int 4095)], [(AV.int 400)], [(AV.int (-1))], [(AV.int (-1))], [(AV.int (-1))], [(AV.int (-1))]]) (AV.cel x0 1) 0) (AV.int 0))) ∧
            ((AV.flat (AV.int 4)) ∧
            (fSame (AV.int 4) r))))))) ∧
          ((isF (AV.bin Go.BinOp.lss (AV.cel x0 2) (AV.int 0))) →
            ((AV.binOk Go.BinOp.gtr (AV.cel x0 2) (AV.at (AV.mk 1 [[(AV.int 60000)], [(AV.int 4095)], [(AV.int 400)], [(AV.int (-1))], [(AV.int (-1))], [(AV.int (-1))], [(AV.int (-1))]]) (AV.cel x0 1) 0)) ∧
            ((AV.isBool (AV.bin Go.BinOp.lss (AV.cel x0 2) (AV.int 0))) ∧
            ((isF (AV.bin Go.BinOp.lss (AV.cel x0 2) (AV.int 0))) ∧
            ((AV.isBool (AV.bin Go.BinOp.geq (AV.at (AV.mk 1 [[(AV.int 60000)], [(AV.int 4095)], [(AV.int 400)], [(AV.int (-1))], [(AV.int (-1))], [(AV.int (-1))], [(AV.int (-1))]]) (AV.cel x0 1) 0) (AV.int 0))) ∧
            ((isT (AV.bin Go.BinOp.geq (AV.at (AV.mk 1 [[(AV.int 60000)], [(AV.int 4095)], [(AV.int 400)], [(AV.int (-1))], [(AV.int (-1))], [(AV.int (-1))], [(AV.int (-1))]]) (AV.cel x0 1) 0) (AV.int 0))) ∧
            ((AV.isBool (AV.bin Go.BinOp.gtr (AV.cel x0 2) (AV.at (AV.mk 1 [[(AV.int 60000)], [(AV.int 4095)], [(AV.int 400)], [(AV.int (-1))], [(AV.int (-1))], [(AV.int (-1))], [(AV.int (-1))]]) (AV.cel x0 1) 0))) ∧
            (((isT (AV.bin Go.BinOp.gtr (AV.cel x0 2) (AV.at (AV.mk 1 [[(AV.int 60000)], [(AV.int 4095)], [(AV.int 400)], [(AV.int (-1))], [(AV.int (-1))], [(AV.int (-1))], [(AV.int (-1))]]) (AV.cel x0 1) 0))) →
              ((AV.flat (AV.int 4)) ∧
              (fSame (AV.int 4) r))) ∧
            ((isF (AV.bin Go.BinOp.gtr (AV.cel x0 2) (AV.at (AV.mk 1 [[(AV.int 60000)], [(AV.int 4095)], [(AV.int 400)], [(AV.int (-1))], [(AV.int (-1))], [(AV.int (-1))], [(AV.int (-1))]]) (AV.cel x0 1) 0))) →
              ((AV.flat (AV.int 0)) ∧
              (fSame (AV.int 0) r)))))))))))))))))))))))))))))))))))))))))))))))))))) := by kernel_rfl
end RbF
end Go.Proofs.YtacfofpbbempaaaGreatDoor
/- phrase: what is checked. -/
namespace Go.Proofs.YtacfofpbbempaaaGreatDoor
open Go.RowKit
set_option linter.unusedVariables false
set_option linter.unusedSimpArgs false
set_option maxRecDepth 100000
def wds : List ByteArray := [⟨#[72, 69, 73, 71, 72, 84]⟩, ⟨#[72, 69, 65, 68, 73, 78, 71]⟩, ⟨#[83, 80, 69, 69, 68]⟩, ⟨#[68, 73, 82, 69, 67, 84]⟩, ⟨#[72, 79, 76, 68]⟩, ⟨#[67, 79, 78, 84, 65, 67, 84]⟩, ⟨#[76, 65, 78, 68]⟩]
def encS (x : ByteArray) : List AV := [.string x]
theorem wds_ref : AV.refSl (.ref [.lit (.string ⟨#[72, 69, 73, 71, 72, 84]⟩), .lit (.string ⟨#[72, 69, 65, 68, 73, 78, 71]⟩), .lit (.string ⟨#[83, 80, 69, 69, 68]⟩), .lit (.string ⟨#[68, 73, 82, 69, 67, 84]⟩), .lit (.string ⟨#[72, 79, 76, 68]⟩), .lit (.string ⟨#[67, 79, 78, 84, 65, 67, 84]⟩), .lit (.string ⟨#[76, 65, 78, 68]⟩)]) = lst 1 encS wds := rfl
theorem wds_isref : AV.isRef (.ref [.lit (.string ⟨#[72, 69, 73, 71, 72, 84]⟩), .lit (.string ⟨#[72, 69, 65, 68, 73, 78, 71]⟩), .lit (.string ⟨#[83, 80, 69, 69, 68]⟩), .lit (.string ⟨#[68, 73, 82, 69, 67, 84]⟩), .lit (.string ⟨#[72, 79, 76, 68]⟩), .lit (.string ⟨#[67, 79, 78, 84, 65, 67, 84]⟩), .lit (.string ⟨#[76, 65, 78, 68]⟩)]) 7 := ⟨_, rfl, rfl⟩
theorem wds_sl : AV.sl 1 [[.lit (.string ⟨#[72, 69, 73, 71, 72, 84]⟩)], [.lit (.string ⟨#[72, 69, 65, 68, 73, 78, 71]⟩)], [.lit (.string ⟨#[83, 80, 69, 69, 68]⟩)], [.lit (.string ⟨#[68, 73, 82, 69, 67, 84]⟩)], [.lit (.string ⟨#[72, 79, 76, 68]⟩)], [.lit (.string ⟨#[67, 79, 78, 84, 65, 67, 84]⟩)], [.lit (.string ⟨#[76, 65, 78, 68]⟩)]] = lst 1 encS wds := rfl
theorem wds_len : wds.length = 7 := rfl
def isW (s w : ByteArray) : Bool := decide (s = w)
def kindI (s : ByteArray) : Int := idxN (isW s) 0 wds
theorem kind_fn (s : ByteArray) : Fn Tryz.prog 65 [.string s] .sc (.int (kindI s)) := by
  refine fn_run mixed 3 (Γ := RbF.Γ) (ann := RbF.ann) Tryz.func65 rfl Tryz.call65 ((RbF.kind_form _ _).mpr ?_)
  have e1 : Ent Tryz.prog 81 := Tryz.call81
  simp only [av_mkRef, wds_ref]
  refine ⟨wds_isref, e1, fun _ => ?_⟩
  simp
  refine loop_list (σ := Unit) wds (fun n _ => [.int (n : Nat)]) (fun k rest _ => kindI s = idxN (isW s) k rest) () rfl rfl ?_ ?_
  · rintro k x rest _ K hx hr hn hg hK
    rw [wds_len] at hn
    have hw2 : IntKind.i64.wrap ((k : Int) + 1) = (k : Int) + 1 := wrap64 (by omega) (by omega)
    simp [wds_len, show (k : Int) < 7 by omega, lst_at hx, encS, hw2]
    rw [idxN] at hg
    exact ⟨fun h => by rw [hg, if_pos (by simpa [isW] using h)], fun h => hK _ () (by simp) (by rw [hg, if_neg (by simpa [isW] using h)])⟩
  · intro _ K hg
    simp [hg, idxN]
def frS (s : ByteArray) : Bool := isName s && decide (kindI s < 0)
theorem pname_fn (s : ByteArray) : Fn Tryz.prog 40 [.string s] .sc (.bool (frS s)) := by
  refine fn_run mixed 3 (Γ := RbF.Γ) (ann := RbF.ann) Tryz.func40 rfl Tryz.call40 ((RbF.name_form _ _).mpr ?_)
  refine ⟨_, name_fn s, ?_⟩
  simp
  refine ⟨fun h => ⟨_, kind_fn s, ?_⟩, fun h => ?_⟩
  · simp [frS, h]
  · simp [frS, h]
theorem word_fn {k : Nat} {w : ByteArray} (h : wds[k]? = some w) : Fn Tryz.prog 42 [.int (k : Nat)] .sc (.string w) := by
  refine fn_run mixed 3 (Γ := RbF.Γ) (ann := RbF.ann) Tryz.func42 rfl Tryz.call42 ((RbF.word_form _ _).mpr ?_)
  have hk := (List.getElem?_eq_some_iff.1 h).1
  simp only [av_mk, wds_sl]
  simp [hk, lst_at h, encS]
theorem free_fn (s : ByteArray) : Fn Tryz.prog 28 [.string s] .sc (.bool (frS s)) := by
  refine fn_run mixed 3 (Γ := RbF.Γ) (ann := RbF.ann) Tryz.func28 rfl Tryz.call28 ((RbF.free_form _ _).mpr ?_)
  refine loop_list (σ := Unit) wds (fun n _ => [.int (n : Nat)]) (fun k rest _ => kindI s = idxN (isW s) k rest) () rfl rfl ?_ ?_
  · rintro k x rest _ K hx hr hn hg hK
    rw [wds_len] at hn
    have hw2 : IntKind.i64.wrap ((k : Int) + 1) = (k : Int) + 1 := wrap64 (by omega) (by omega)
    simp [show (k : Int) < 7 by omega]
    refine ⟨_, word_fn hx, ?_⟩
    rw [idxN] at hg
    simp [hw2]
    refine ⟨fun h => ?_, fun h => hK _ () (by simp) (by rw [hg, if_neg (by simpa [isW] using fun e : s = x => h e.symm)])⟩
    rw [if_pos (by simpa [isW] using h.symm)] at hg
    simp [frS, hg]
  · intro _ K hg
    rw [wds_len]
    simp
    rw [idxN] at hg
    have e : frS s = isName s := by simp [frS, hg]
    rw [e]
    exact isname_fn s
/-- A clearance. -/
structure Cl where
  c : ByteArray
  k : Int
  v : Int
  f : ByteArray
  deriving DecidableEq, Inhabited
def encL (x : Cl) : List AV := [.string x.c, .int x.k, .int x.v, .string x.f]
abbrev cl (x : Cl) : AV := .agg (encL x)
abbrev cls (l : List Cl) : AV := lst 4 encL l
def mostI (k : Int) : Int := if k = 0 then 60000 else if k = 1 then 4095 else 400
def clE (x : Cl) : Int := if frS x.c = false then 3 else if x.k < 0 ∨ x.k > 6 then 1 else if x.k > 2 then (if x.v ≠ 0 ∨ frS x.f = false then 3 else 0) else if x.f ≠ ⟨#[]⟩ then 3 else if x.v < 0 ∨ x.v > mostI x.k then 4 else 0
theorem pcheck_fn (x : Cl) : Fn Tryz.prog 21 [cl x] .sc (.int (clE x)) := by
  refine fn_run mixed 3 (Γ := RbF.Γ) (ann := RbF.ann) Tryz.func21 rfl Tryz.call21 ((RbF.check_form _ _).mpr ?_)
  obtain ⟨c, k, v, f⟩ := x
  refine ⟨by simp [encL], _, pname_fn c, ?_⟩
  simp [encL]
  refine ⟨fun h => by simp [clE, h], fun h => ?_⟩
  have hc : clE ⟨c, k, v, f⟩ = if k < 0 ∨ k > 6 then 1 else if k > 2 then (if v ≠ 0 ∨ frS f = false then 3 else 0) else if f ≠ ⟨#[]⟩ then 3 else if v < 0 ∨ v > mostI k then 4 else 0 := by simp [clE, h]
  rw [hc]
  refine ⟨fun h1 => ⟨h1, by rw [if_pos (.inl h1)]⟩, fun h1 => ⟨h1, fun h2 => by rw [if_pos (.inr h2)], fun h2 => ?_⟩⟩
  rw [if_neg (by omega)]
  refine ⟨fun h3 => ?_, fun h3 => ?_⟩
  · rw [if_pos h3]
    refine ⟨fun h4 => ⟨h4, by simp [h4]⟩, fun h4 => ⟨_, pname_fn f, ?_⟩⟩
    simp [h4]
  · rw [if_neg (by omega)]
    refine ⟨fun h4 => by rw [if_pos h4], fun h4 => ?_⟩
    rw [if_neg (by simp [h4])]
    have hk : k = 0 ∨ k = 1 ∨ k = 2 := by omega
    refine ⟨fun h5 => ⟨h5, by rw [if_pos (.inl h5)]⟩, fun h5 => ?_⟩
    rcases hk with rfl | rfl | rfl
    all_goals
      simp [AV.inl, AV.refOk, AV.refNth, AV.rcs, AV.off, mostI, h5]
theorem cerr_fn (x : Cl) : Fn Tryz.prog 8 [cl x] .sc (.int (clE x)) := by
  have e := RbF.cerr_form (cl x) (.int (clE x))
  have k := fun h => fn_run mixed 3 (Γ := RbF.Γ) (ann := RbF.ann) Tryz.func8 rfl Tryz.call8 (e.mpr h)
  refine k ?_
  clear k e
  obtain ⟨c, k, v, f⟩ := x
  refine ⟨by simp [encL], _, free_fn c, ?_⟩
  simp [encL]
  refine ⟨fun h => by simp [clE, h], fun h => ?_⟩
  have hc : clE ⟨c, k, v, f⟩ = if k < 0 ∨ k > 6 then 1 else if k > 2 then (if v ≠ 0 ∨ frS f = false then 3 else 0) else if f ≠ ⟨#[]⟩ then 3 else if v < 0 ∨ v > mostI k then 4 else 0 := by simp [clE, h]
  rw [hc]
  refine ⟨fun h1 => ⟨h1, by rw [if_pos (.inl h1)]⟩, fun h1 => ⟨h1, fun h2 => by rw [if_pos (.inr h2)], fun h2 => ?_⟩⟩
  rw [if_neg (by omega)]
  have hk : k = 0 ∨ k = 1 ∨ k = 2 ∨ k = 3 ∨ k = 4 ∨ k = 5 ∨ k = 6 := by omega
  rcases hk with rfl | rfl | rfl | rfl | rfl | rfl | rfl
  all_goals simp [gt2, mostI]
  · refine ⟨fun q1 q2 => absurd q2 q1, fun q => ?_⟩
    exact ⟨fun r => ⟨r, by rw [if_pos q, if_pos (.inl r)]⟩, fun r => ⟨r, fun r2 => by rw [if_pos q, if_pos (.inr r2)], fun r2 => by rw [if_pos q, if_neg (by omega)]⟩⟩
  · refine ⟨fun q1 q2 => absurd q2 q1, fun q => ?_⟩
    exact ⟨fun r => ⟨r, by rw [if_pos q, if_pos (.inl r)]⟩, fun r => ⟨r, fun r2 => by rw [if_pos q, if_pos (.inr r2)], fun r2 => by rw [if_pos q, if_neg (by omega)]⟩⟩
  · refine ⟨fun q1 q2 => absurd q2 q1, fun q => ?_⟩
    exact ⟨fun r => ⟨r, by rw [if_pos q, if_pos (.inl r)]⟩, fun r => ⟨r, fun r2 => by rw [if_pos q, if_pos (.inr r2)], fun r2 => by rw [if_pos q, if_neg (by omega)]⟩⟩
  all_goals
    refine ⟨fun q => ⟨q, fun q2 => absurd q2 q⟩, fun q => ⟨_, free_fn f, ?_⟩⟩
    simp [q]
end Go.Proofs.YtacfofpbbempaaaGreatDoor
/- A law's walk where the arguments' weights are known (the form's own reach). -/
namespace Go.Proofs.YtacfofpbbempaaaGreatDoor
open Go.ChangeShapes Go.WideShapes Go.ChangeAt Go.RowKit Go.Joins Go.Deep
set_option linter.unusedVariables false
section
variable {H : Type} {enc : TypeId × Value → H} {P : Program} {W : World}
theorem sized_one {t e : TypeId} {v : Value} {dd : DataW H} {p : List MemPlace} {s : Nat} {L : List (List AV)} {ok : Nat → Prop} (hu : P.underlying t = some (.slice e)) (h : DataW.Trod enc P W 0 (fun _ => true) true t v dd p) (hr : RV W ok (.sl s L) v) (hw : ∀ n ∈ dd.weights P t, n ≤ reachBytes) : L.length * P.bytesOf e ≤ reachBytes := by
  obtain ⟨fuel, hf⟩ := h
  cases hr with
  | sl _ _ A n c us hn hnc hc hs hA hone hu' =>
    have h1 : (Value.slice A n c).cells.toList = [.slice A n c] := rfl
    rw [h1] at hf
    rcases open_slice hu hf with ⟨ev, ex⟩ | ⟨a, len, cap, m', fu, D, Pl, ev, hb, hlc, hcm, hmm, hx, hi⟩
    · injection ev with ev _
      injection ev with _ ev _
      rw [hn, ev]
      simp [reachBytes]
    · injection ev with ev _
      injection ev with _ ev _
      injection hx with hx _
      have := hw (((List.range len).map D).length + ((List.range (m' - len)).map fun j => D (len + j)).length |> (· * P.bytesOf e)) (by rw [hx]; simp [DataW.weights, hu])
      simp at this
      rw [hn, ev]
      exact Nat.le_trans (Nat.mul_le_mul_right _ (Nat.le_add_right _ _)) this
theorem trodAll_at : ∀ (ts : List TypeId) (vs : List Value) (ds : List (DataW H)) (p : List MemPlace), DataW.TrodAll enc P W 0 (fun _ => true) true ts vs ds p → ∀ i, i < ts.length → ∃ dd q, ds[i]? = some dd ∧ DataW.Trod enc P W 0 (fun _ => true) true (ts.getD i 0) (vs.getD i undef) dd q
  | [], vs, ds, p, h, i, hi => by simp at hi
  | t :: ts, vs, ds, p, h, i, hi => by
    obtain ⟨v, vs', d, ds', p', q, rfl, rfl, rfl, h1, h2⟩ := trodAll_cons h
    cases i with
    | zero => exact ⟨d, p', rfl, h1⟩
    | succ i =>
      obtain ⟨dd, q', e1, e2⟩ := trodAll_at ts vs' ds' q h2 i (by simpa using hi)
      exact ⟨dd, q', by simpa using e1, by simpa using e2⟩
/-- **A law's walk**, its arguments' weights being within the form's reach. -/
theorem law_calls_sized {f : FuncId} {F : Func} {args : Array Value} {ds gs : List (DataW H)} {us : List TypeId} {p : List MemPlace} {base : Nat} (hb : F.params.toList.all (argB P) = true)
    (hfn : ∀ xs : List AV, xs.length = F.params.toList.length → (∀ i, i < F.params.toList.length → ArgOk P (F.params.toList.getD i 0) (xs.getD i default)) →
      (∀ i s L e, i < F.params.toList.length → xs.getD i default = .sl s L → P.underlying (F.params.toList.getD i 0) = some (.slice e) → L.length * P.bytesOf e ≤ reachBytes) → Fn P f xs .sc (.bool true))
    (hval : ∀ (j : Nat) t v, F.params[j]? = some t → args[j]? = some v → Value.okWide P W .any base t v)
    (hA : DataW.TrodAll enc P W 0 (fun _ => true) true F.params.toList args.toList ds p)
    (hsz : (DataW.weightsEach P (F.params.toList ++ us) (ds ++ gs)).all (· ≤ reachBytes) = true) (hgl : Gl W.heap.size W (okAll W) := by (exact ⟨by (intro p hp; simp [globL] at hp), by (intro g hg; simp [globI] at hg)⟩)) : Calls P f args W (Ret (.bool true) W) := by
  obtain ⟨xs, l1, l2, hxs⟩ := args_open F.params.toList args.toList ds p hA (fun j t v h1 h2 => hval j t v (by simpa using h1) (by simpa using h2)) hb
  refine ((hfn xs l1 (fun i hi => (hxs i hi).1) (fun i s L e hi hx hu => ?_)).2 W (okAll W) args (fun g hg => hg) hgl (by rw [l1, ← l2]; simp) fun i hi => ?_).mono ?_
  · obtain ⟨dd, q, e1, e2⟩ := trodAll_at F.params.toList args.toList ds p hA i hi
    have hr := (hxs i hi).2
    rw [hx] at hr
    refine sized_one hu e2 hr fun n hn => ?_
    have hm := DataW.weights_mem_each (P := P) (ts := F.params.toList ++ us) (ds := ds ++ gs) (j := i) (t := F.params.toList.getD i 0) (d := dd)
      (by rw [List.getElem?_append_left hi, List.getD_eq_getElem?_getD, List.getElem?_eq_getElem hi]; rfl)
      (by
        have hid : i < ds.length := (List.getElem?_eq_some_iff.1 e1).1
        rw [List.getElem?_append_left hid]; exact e1) n hn
    have := List.all_eq_true.1 hsz n hm
    simpa using this
  · have := (hxs i (by omega)).2
    rwa [show args.getD i undef = args.toList.getD i undef by simp [List.getD_eq_getElem?_getD, Array.getD_eq_getD_getElem?]]
  · rintro e W' ⟨v, rfl, hbel, hr, _⟩
    have hr' : RV W' noBlock (.bool true) v := hr
    exact ret_mk (RV.lit_iff.1 hr') hbel
end
end Go.Proofs.YtacfofpbbempaaaGreatDoor
/- Package-level variables that are laid, as known cells. -/
namespace Go.Proofs.YtacfofpbbempaaaGreatDoor
open Go.ChangeShapes Go.WideShapes Go.ChangeAt Go.RowKit
set_option linter.unusedVariables false
section
variable {H : Type} {enc : TypeId × Value → H} {P : Program} {W : World}
def datV {H : Type} : DataW H → Value
  | .lit (.string s) => .string ⟨s.toArray⟩
  | .lit (.int k n) => .int k n
  | .lit (.bool b) => .bool b
  | .lit (.float k b) => .float k b
  | _ => undef
/-- An array of strings or numbers, opened. -/
theorem arr_open {t e : TypeId} {k fuel : Nat} {cs : List Value} {ds : List (DataW H)} {p : List MemPlace} (ht : P.underlying t = some (.array k e)) (hc : P.cellsOf e = 1) (hct : P.cellsOf t = k)
    (he : P.underlying e = some .string ∨ ∃ i, P.underlying e = some (.int i)) (h : DataW.trod enc P W 0 (fun _ => true) false fuel t cs = some (.agg ds, p)) : cs = ds.map datV := by
  obtain ⟨xs, m, rfl, hx, hlen, hn, hel⟩ := DataW.trod_array ht h
  simp only [Prod.mk.injEq, DataW.agg.injEq] at hx
  rw [hct] at hlen
  obtain ⟨rfl, _⟩ := hx
  apply List.ext_getElem?
  intro i
  by_cases hi : i < k
  · have h1 := hel i hi
    rw [hc, Nat.mul_one] at h1
    have h2 : (cs.drop i).take 1 = [cs[i]'(by omega)] := by
      rw [List.drop_eq_getElem_cons (by omega)]; rfl
    rw [h2] at h1
    have h3 : xs[i]? = some (xs[i]'(by omega)) := List.getElem?_eq_getElem (by omega)
    rw [h3] at h1
    rw [List.getElem?_map, List.getElem?_map, h3, List.getElem?_eq_getElem (by omega)]
    simp only [Option.map_some, Option.some.injEq]
    generalize xs[i]'(by omega) = y at h1
    rcases he with he | ⟨q, he⟩
    · obtain ⟨s, e1, e2, _⟩ := DataW.trod_string he h1
      rw [e2]
      simp only [List.cons.injEq, and_true] at e1
      rw [e1]; rfl
    · obtain ⟨n, e1, e2, _⟩ := DataW.trod_int he h1
      rw [e2]
      simp only [List.cons.injEq, and_true] at e1
      rw [e1]; rfl
  · rw [List.getElem?_eq_none (by omega), List.getElem?_eq_none (by simp; omega)]
theorem trod_flt {k : FloatKind} {w : World} {base : Nat} {spare : Nat → Bool} {held : Bool} {fuel : Nat} {t : TypeId} {cs : List Value} {x : DataW H × List MemPlace} (ht : P.underlying t = some (.float k)) (h : DataW.trod enc P w base spare held fuel t cs = some x) : ∃ n, cs = [.float k n] ∧ x = (.lit (.float k n), []) := by
  cases fuel with
  | zero => simp [DataW.trod] at h
  | succ n =>
    unfold DataW.trod at h
    rw [ht] at h
    split at h <;> simp_all
/-- An array of floats, opened. -/
theorem arr_openF {t e : TypeId} {k fuel : Nat} {fk : FloatKind} {cs : List Value} {ds : List (DataW H)} {p : List MemPlace} (ht : P.underlying t = some (.array k e)) (hc : P.cellsOf e = 1) (hct : P.cellsOf t = k)
    (he : P.underlying e = some (.float fk)) (h : DataW.trod enc P W 0 (fun _ => true) false fuel t cs = some (.agg ds, p)) : cs = ds.map datV := by
  obtain ⟨xs, m, rfl, hx, hlen, hn, hel⟩ := DataW.trod_array ht h
  simp only [Prod.mk.injEq, DataW.agg.injEq] at hx
  rw [hct] at hlen
  obtain ⟨rfl, _⟩ := hx
  apply List.ext_getElem?
  intro i
  by_cases hi : i < k
  · have h1 := hel i hi
    rw [hc, Nat.mul_one] at h1
    have h2 : (cs.drop i).take 1 = [cs[i]'(by omega)] := by
      rw [List.drop_eq_getElem_cons (by omega)]; rfl
    rw [h2] at h1
    have h3 : xs[i]? = some (xs[i]'(by omega)) := List.getElem?_eq_getElem (by omega)
    rw [h3] at h1
    rw [List.getElem?_map, List.getElem?_map, h3, List.getElem?_eq_getElem (by omega)]
    simp only [Option.map_some, Option.some.injEq]
    generalize xs[i]'(by omega) = y at h1
    obtain ⟨n, e1, e2⟩ := trod_flt he h1
    rw [e2]
    simp only [List.cons.injEq, and_true] at e1
    rw [e1]; rfl
  · rw [List.getElem?_eq_none (by omega), List.getElem?_eq_none (by simp; omega)]
/-- One variable's cells. -/
theorem var_known {n : String} {g : Nat} {cs : Array Value} {vs : List Value} (hg : P.globalNamed n = some g) (hv : W.var? P n = some cs) (h : cs.toList = vs) (h1 : vs.all (·.oneCell') = true) :
    g < W.heap.size ∧ okAll W g ∧ (∀ i, i < vs.length → W.cell? ⟨g, i, none⟩ = some (vs.getD i undef) ∧ (vs.getD i undef).oneCell' = true) ∧ ∃ x y, W.heap[g]? = some (.cells vs.toArray x y) := by
  have hlt : g < W.heap.size := by
    simp only [World.var?, hg, Option.bind_some] at hv
    split at hv
    · rename_i q; exact (Array.getElem?_eq_some_iff.1 q).1
    · cases hv
  have hblk : ∃ x y, W.heap[g]? = some (.cells vs.toArray x y) := by
    simp only [World.var?, hg, Option.bind_some] at hv
    split at hv
    · rename_i cs' x y q
      injection hv with hv
      subst hv
      subst h
      exact ⟨x, y, by rw [q]⟩
    · cases hv
  refine ⟨hlt, hlt, fun i hi => ?_, hblk⟩
  rw [World.var?_cell hg hv i]
  subst h
  have hi' : i < cs.size := by simpa using hi
  refine ⟨by simp [hi'], ?_⟩
  have := List.all_eq_true.1 h1 (cs.toList.getD i undef) (by simp [List.getD_eq_getElem?_getD, hi'])
  exact this
end
end Go.Proofs.YtacfofpbbempaaaGreatDoor
/- Plain values, reckoned: floats. -/
namespace Go.Proofs.YtacfofpbbempaaaGreatDoor
open Go.RowKit
set_option linter.unusedVariables false
section
variable {k k' : FloatKind} {a b : Nat} {i : IntKind} {n : Int}
@[simp] theorem av_fadd : AV.bin .add (.lit (.float k a)) (.lit (.float k' b)) = .lit (.float k ((floatBits .add k a b).getD 0)) := rfl
@[simp] theorem av_fsub : AV.bin .sub (.lit (.float k a)) (.lit (.float k' b)) = .lit (.float k ((floatBits .sub k a b).getD 0)) := rfl
@[simp] theorem av_fmul : AV.bin .mul (.lit (.float k a)) (.lit (.float k' b)) = .lit (.float k ((floatBits .mul k a b).getD 0)) := rfl
@[simp] theorem av_fquo : AV.bin .quo (.lit (.float k a)) (.lit (.float k' b)) = .lit (.float k ((floatBits .quo k a b).getD 0)) := rfl
@[simp] theorem av_feql : AV.bin .eql (.lit (.float k a)) (.lit (.float k' b)) = .lit (.bool (k.format.order a b == some .eq)) := rfl
@[simp] theorem av_fneq : AV.bin .neq (.lit (.float k a)) (.lit (.float k' b)) = .lit (.bool (k.format.order a b != some .eq)) := rfl
@[simp] theorem av_flss : AV.bin .lss (.lit (.float k a)) (.lit (.float k' b)) = .lit (.bool (k.format.order a b == some .lt)) := rfl
@[simp] theorem av_fleq : AV.bin .leq (.lit (.float k a)) (.lit (.float k' b)) = .lit (.bool (k.format.order a b == some .lt || k.format.order a b == some .eq)) := rfl
@[simp] theorem av_fgtr : AV.bin .gtr (.lit (.float k a)) (.lit (.float k' b)) = .lit (.bool (k.format.order a b == some .gt)) := rfl
@[simp] theorem av_fgeq : AV.bin .geq (.lit (.float k a)) (.lit (.float k' b)) = .lit (.bool (k.format.order a b == some .gt || k.format.order a b == some .eq)) := rfl
@[simp] theorem av_okadd : AV.binOk .add (.lit (.float k a)) (.lit (.float k' b)) ↔ k = k' ∧ (floatBits .add k a b).isSome = true := Iff.rfl
@[simp] theorem av_oksub : AV.binOk .sub (.lit (.float k a)) (.lit (.float k' b)) ↔ k = k' ∧ (floatBits .sub k a b).isSome = true := Iff.rfl
@[simp] theorem av_okmul : AV.binOk .mul (.lit (.float k a)) (.lit (.float k' b)) ↔ k = k' ∧ (floatBits .mul k a b).isSome = true := Iff.rfl
@[simp] theorem av_okquo : AV.binOk .quo (.lit (.float k a)) (.lit (.float k' b)) ↔ k = k' ∧ (floatBits .quo k a b).isSome = true := Iff.rfl
@[simp] theorem av_okeql : AV.binOk .eql (.lit (.float k a)) (.lit (.float k' b)) ↔ k = k' := ⟨fun h => h.1, fun h => ⟨h, trivial⟩⟩
@[simp] theorem av_okneq : AV.binOk .neq (.lit (.float k a)) (.lit (.float k' b)) ↔ k = k' := ⟨fun h => h.1, fun h => ⟨h, trivial⟩⟩
@[simp] theorem av_oklss : AV.binOk .lss (.lit (.float k a)) (.lit (.float k' b)) ↔ k = k' := ⟨fun h => h.1, fun h => ⟨h, trivial⟩⟩
@[simp] theorem av_okgtr : AV.binOk .gtr (.lit (.float k a)) (.lit (.float k' b)) ↔ k = k' := ⟨fun h => h.1, fun h => ⟨h, trivial⟩⟩
@[simp] theorem av_okgeq : AV.binOk .geq (.lit (.float k a)) (.lit (.float k' b)) ↔ k = k' := ⟨fun h => h.1, fun h => ⟨h, trivial⟩⟩
@[simp] theorem av_fneg : AV.un .neg (.lit (.float k a)) = .lit (.float k (Op.negFloat k a)) := rfl
@[simp] theorem av_okneg : AV.unOk .neg (.lit (.float k a)) ↔ True := Iff.rfl
@[simp] theorem av_i2f : AV.i2f k (.lit (.int i n)) = .lit (.float k (k.nearest n)) := rfl
@[simp] theorem av_f2i : AV.f2i k' i (.lit (.float k a)) = .lit (.int i ((floatToIntVal k' a i).getD 0)) := rfl
@[simp] theorem av_f2iOk : AV.f2iOk k' i (.lit (.float k a)) ↔ k = k' ∧ (floatToIntVal k' a i).isSome = true := ⟨fun h => ⟨by have := h.1; simp only [AV.lit.injEq, Value.float.injEq] at this; exact this.1, h.2⟩, fun h => ⟨by rw [h.1]; rfl, h.2⟩⟩
@[simp] theorem av_fb : AV.fb (.lit (.float k a)) = a := rfl
end
/-- A function without a text, of one argument. -/
theorem fnE_of {P : Program} {f : FuncId} {fn : Func} {e : Array Value → Sem Value} (hf : P.funcs[f]? = some fn) (hname : (fn.name == "runtime.NumGoroutine") = false) (hb : fn.body.isNone = true) (hn : Extern.findNext fn = none) (he : Extern.find fn = some e)
    {u v : Value} (hr : ∀ w : World, (e #[u]).run P w = .ok v w) : FnE P f [.lit u] (.lit v) := by
  intro w ok cargs hsz hargs
  have h0 := RV.lit_iff.1 (hargs 0 (by simp))
  have hc : cargs = #[u] := by
    apply Array.ext_getElem?
    intro i
    have hsz' : cargs.size = 1 := hsz
    match i with
    | 0 => simpa [Array.getD, hsz'] using h0
    | n + 1 => rw [Array.getElem?_eq_none (by omega), Array.getElem?_eq_none (by simp)]
  subst hc
  exact ⟨v, by rw [run_callFunc_extern hf hname hb hn he, hr w]; rfl, .lit _⟩
end Go.Proofs.YtacfofpbbempaaaGreatDoor
/- Floats reckoned in plain numbers, so that the kernel is quick; the sine. -/
namespace Go.Proofs.YtacfofpbbempaaaGreatDoor.Flo
open Go
set_option linter.unusedVariables false
/-- k of n's worth (the kernel reckons n first). -/
def frc {α : Type} (n : Nat) (k : Nat → α) : α := match n with | 0 => k 0 | m + 1 => k (m + 1)
theorem frc_eq {α : Type} (n : Nat) (k : Nat → α) : frc n k = k n := by cases n <;> rfl
def finN (x : Nat) : Bool := decide (x % 9223372036854775808 < 9218868437227405312)
def magN (x : Nat) : Nat := frc (x % 9223372036854775808) fun r => if r < 4503599627370496 then r else 4503599627370496 + r % 4503599627370496
def expN (x : Nat) : Nat := x % 9223372036854775808 / 4503599627370496 - 1
def negN (x : Nat) : Bool := x / 9223372036854775808 % 2 == 1
theorem read_fin {x : Nat} (h : finN x = true) : Ieee.double.read x = .number (negN x) (magN x) ((expN x : Nat) - 1074) := by
  have h' : x % 9223372036854775808 < 9218868437227405312 := by simpa [finN] using h
  have e1 : Ieee.double.signWeight = 9223372036854775808 := by decide
  have e2 : Ieee.double.binade = 4503599627370496 := by decide
  have e3 : Ieee.double.infRung = 9218868437227405312 := by decide
  have e4 : Ieee.double.leastPlace = -1074 := by decide
  unfold Ieee.Format.read
  rw [e1, e2, e3, e4]
  simp only [magN, frc_eq, expN, negN]
  generalize x % 9223372036854775808 = r at *
  by_cases h1 : r < 4503599627370496
  · have : r / 4503599627370496 = 0 := Nat.div_eq_of_lt h1
    simp [h1, this]
  · simp only [h1, h', if_false, if_true]
    congr 1
/-- log2, by halves. -/
def lgB : Nat → Nat → Nat
  | 0, _ => 0
  | k + 1, n => frc (2 ^ 2 ^ k) fun p => if p ≤ n then frc (n / p) fun q => 2 ^ k + lgB k q else lgB k n
theorem lgB_spec (k n : Nat) (h0 : n ≠ 0) (h : n < 2 ^ 2 ^ k) : 2 ^ lgB k n ≤ n ∧ n < 2 ^ (lgB k n + 1) := by
  induction k generalizing n with
  | zero => simp only [lgB]; have : n < 2 := by simpa using h
            omega
  | succ k ih =>
    simp only [lgB, frc_eq]
    have e : (2 : Nat) ^ 2 ^ (k + 1) = 2 ^ 2 ^ k * 2 ^ 2 ^ k := by rw [← Nat.pow_add]; congr 1; rw [Nat.pow_succ]; omega
    rw [e] at h
    have hp : 0 < (2 : Nat) ^ 2 ^ k := Nat.two_pow_pos _
    by_cases h1 : 2 ^ 2 ^ k ≤ n
    · rw [if_pos h1]
      obtain ⟨a, b⟩ := ih (n / 2 ^ 2 ^ k) (by have := Nat.div_pos h1 hp; omega) (Nat.div_lt_of_lt_mul h)
      refine ⟨?_, ?_⟩
      · rw [Nat.pow_add, Nat.mul_comm]; exact Nat.le_trans (Nat.mul_le_mul_right _ a) (Nat.div_mul_le_self _ _)
      · rw [Nat.add_assoc, Nat.pow_add, Nat.mul_comm]; exact (Nat.div_lt_iff_lt_mul hp).1 b
    · rw [if_neg h1]
      exact ih n h0 (by omega)
def lgN (n : Nat) : Nat := if n < 340282366920938463463374607431768211456 then lgB 7 n else if n < 2 ^ 2 ^ 12 then lgB 12 n else n.log2
theorem lgN_eq (n : Nat) (h0 : n ≠ 0) : lgN n = n.log2 := by
  unfold lgN
  by_cases h : n < 340282366920938463463374607431768211456
  · rw [if_pos h]
    obtain ⟨a, b⟩ := lgB_spec 7 n h0 h
    exact ((Nat.log2_eq_iff h0).2 ⟨a, b⟩).symm
  · rw [if_neg h]
    by_cases h2 : n < 2 ^ 2 ^ 12
    · rw [if_pos h2]
      obtain ⟨a, b⟩ := lgB_spec 12 n h0 h2
      exact ((Nat.log2_eq_iff h0).2 ⟨a, b⟩).symm
    · rw [if_neg h2]
def cutD (n d : Nat) : Nat := frc (2 ^ d) fun g => frc (n / g) fun low => frc (2 * (n % g)) fun rest => if g < rest ∨ (g = rest ∧ low % 2 = 1) then low + 1 else low
def cutN (n drop : Nat) : Nat := frc (min drop (n.log2 + 2)) fun d => frc (2 ^ d) fun g => frc (n / g) fun low => frc (2 * (n % g)) fun rest => if g < rest ∨ (g = rest ∧ low % 2 = 1) then low + 1 else low
theorem cut_eq (neg : Bool) (n drop : Nat) : Ieee.Toward.even.cut neg n drop = cutN n drop := by
  unfold Ieee.Toward.cut cutN
  simp only [frc_eq, Nat.one_shiftLeft]
  generalize 2 ^ min drop (n.log2 + 2) = g
  by_cases h1 : g < 2 * (n % g)
  · simp [h1]
  · by_cases h2 : g = 2 * (n % g)
    · by_cases h3 : n / g % 2 = 1
      · rw [if_pos (.inr ⟨h2, h3⟩)]
        have e1 : decide (g < 2 * (n % g)) = false := by simpa using h1
        have e2 : (g == 2 * (n % g)) = true := by simpa using h2
        have e3 : (n / g % 2 == 1) = true := by simpa using h3
        rw [e1, e2, e3]; rfl
      · rw [if_neg (by rintro (h | ⟨_, h⟩) <;> contradiction)]
        have e1 : decide (g < 2 * (n % g)) = false := by simpa using h1
        have e3 : (n / g % 2 == 1) = false := by simpa using h3
        rw [e1, e3]; simp
    · rw [if_neg (by rintro (h | ⟨h, _⟩) <;> contradiction)]
      have e1 : decide (g < 2 * (n % g)) = false := by simpa using h1
      have e2 : (g == 2 * (n % g)) = false := by simpa using h2
      rw [e1, e2]; simp
theorem cutD_eq (n d : Nat) (h : d ≤ n.log2 + 2) : cutN n d = cutD n d := by
  unfold cutN cutD
  rw [Nat.min_eq_left h]
  simp only [frc_eq]
def wordN (neg : Bool) (r : Nat) : Nat := frc (min r 9218868437227405312) fun r => match neg with | true => 9223372036854775808 + r | false => r
def nearN (neg : Bool) (mag P : Nat) : Nat :=
  if mag = 0 then wordN neg 0 else frc (lgN mag) fun l =>
  if 1126 ≤ P + l then frc (mag * 2 ^ (52 - l)) fun m => wordN neg ((P + l - 1126) * 4503599627370496 + cutD m (l - 52))
  else frc (mag * 2 ^ (P - 1074)) fun m => wordN neg (cutN m (1074 - P))
theorem near_eq (neg : Bool) (mag P : Nat) : Ieee.double.nearest neg mag ((P : Int) - 2148) = nearN neg mag P := by
  have e1 : Ieee.double.signWeight = 9223372036854775808 := by decide
  have e2 : Ieee.double.binade = 4503599627370496 := by decide
  have e3 : Ieee.double.infRung = 9218868437227405312 := by decide
  have e4 : Ieee.double.leastPlace = -1074 := by decide
  have e5 : (Ieee.double.fractionBits : Int) = 52 := rfl
  have hw : ∀ r, Ieee.double.word neg (min r 9218868437227405312) = wordN neg r := fun r => by
    unfold Ieee.Format.word wordN
    rw [e1]; simp only [frc_eq]
    cases neg <;> simp
  unfold Ieee.Format.nearest nearN
  rw [e2, e3, e4, e5]
  simp only [frc_eq]
  by_cases h0 : mag = 0
  · rw [if_pos h0, if_pos h0]; exact hw 0
  · rw [if_neg h0, if_neg h0]
    rw [lgN_eq mag h0]
    generalize hl : mag.log2 = l
    have hd : cutN (mag * 2 ^ (52 - l)) (l - 52) = cutD (mag * 2 ^ (52 - l)) (l - 52) := cutD_eq _ _ (by
      by_cases h : l ≤ 52
      · omega
      · rw [show 52 - l = 0 by omega, Nat.pow_zero, Nat.mul_one, hl]; omega)
    simp only [cut_eq, Nat.shiftLeft_eq]
    by_cases h1 : 1126 ≤ P + l
    · rw [if_pos h1]
      have q : max ((P : Int) - 2148 + (l : Nat) - 52) (-1074) = (P : Int) - 2148 + l - 52 := by omega
      rw [q, show ((P : Int) - 2148 - (P - 2148 + l - 52)).toNat = 52 - l by omega, show ((P : Int) - 2148 + l - 52 - (P - 2148)).toNat = l - 52 by omega, show ((P : Int) - 2148 + l - 52 - -1074).toNat = P + l - 1126 by omega, hd]
      exact hw _
    · rw [if_neg h1]
      have q : max ((P : Int) - 2148 + (l : Nat) - 52) (-1074) = -1074 := by omega
      rw [q, show ((P : Int) - 2148 - -1074).toNat = P - 1074 by omega, show ((-1074 : Int) - (P - 2148)).toNat = 1074 - P by omega, show ((-1074 : Int) - -1074).toNat = 0 by omega, Nat.zero_mul, Nat.zero_add]
      exact hw _
def mulN (a b : Nat) : Option Nat := match finN a, finN b with
  | true, true => some (frc (magN a * magN b) fun m => frc (expN a + expN b) fun e => nearN (negN a ^^ negN b) m e)
  | _, _ => none
theorem mulN_eq {a b r : Nat} (h : mulN a b = some r) : floatBits .mul .f64 a b = some r := by
  unfold mulN at h
  split at h
  · rename_i h1 h2
    simp only [frc_eq, Option.some.injEq] at h
    subst h
    show Option.map Ieee.double.write _ = _
    show Option.map Ieee.double.write ((Ieee.double.read a).product (Ieee.double.read b)) = _
    rw [read_fin h1, read_fin h2]
    show some (Ieee.double.nearest _ _ _) = _
    rw [← near_eq]
    congr 2
    omega
  · cases h
def addD (s : Bool) (m i : Nat) (t : Bool) (n j : Nat) : Nat :=
  frc (min i j) fun base => frc (m * 2 ^ (i - base)) fun A => frc (n * 2 ^ (j - base)) fun B => frc (base + 1074) fun P =>
  if s = t then nearN s (A + B) P
  else if A = B then nearN false 0 P
  else if B < A then nearN s (A - B) P else nearN t (B - A) P
theorem addD_eq (s : Bool) (m i : Nat) (t : Bool) (n j : Nat) : (Ieee.Datum.sum (.number s m ((i : Nat) - 1074)) (.number t n ((j : Nat) - 1074))).map Ieee.double.write = some (addD s m i t n j) := by
  unfold addD
  simp only [frc_eq]
  show some (Ieee.double.nearest _ _ _) = _
  have hb : min ((i : Int) - 1074) ((j : Int) - 1074) = ((min i j + 1074 : Nat) : Int) - 2148 := by omega
  rw [hb, show ((i : Int) - 1074 - (((min i j + 1074 : Nat) : Int) - 2148)).toNat = i - min i j by omega, show ((j : Int) - 1074 - (((min i j + 1074 : Nat) : Int) - 2148)).toNat = j - min i j by omega, near_eq]
  congr 1
  unfold Ieee.signed
  simp only [Nat.shiftLeft_eq]
  generalize m * 2 ^ (i - min i j) = A
  generalize n * 2 ^ (j - min i j) = B
  generalize min i j + 1074 = P
  cases s <;> cases t <;> simp only [Bool.false_eq_true, Bool.true_eq_false, if_false, if_true, Bool.and_self, Bool.and_false, Bool.false_and]
  · have e1 : ((A : Int) + B).natAbs = A + B := by omega
    rw [e1]
    by_cases h : (A : Int) + B = 0
    · rw [if_pos h]
    · rw [if_neg h, decide_eq_false (by omega)]
  · by_cases h : (A : Int) + -(B : Int) = 0
    · have h2 : A = B := by omega
      rw [if_pos h, if_pos h2, h]; rfl
    · have h2 : ¬ A = B := by omega
      rw [if_neg h, if_neg h2]
      by_cases h3 : B < A
      · rw [if_pos h3, decide_eq_false (by omega), show ((A : Int) + -(B : Int)).natAbs = A - B by omega]
      · rw [if_neg h3, decide_eq_true (by omega), show ((A : Int) + -(B : Int)).natAbs = B - A by omega]
  · by_cases h : -(A : Int) + (B : Int) = 0
    · have h2 : A = B := by omega
      rw [if_pos h, if_pos h2, h]; rfl
    · have h2 : ¬ A = B := by omega
      rw [if_neg h, if_neg h2]
      by_cases h3 : B < A
      · rw [if_pos h3, decide_eq_true (by omega), show (-(A : Int) + (B : Int)).natAbs = A - B by omega]
      · rw [if_neg h3, decide_eq_false (by omega), show (-(A : Int) + (B : Int)).natAbs = B - A by omega]
  · have e1 : (-(A : Int) + -(B : Int)).natAbs = A + B := by omega
    rw [e1]
    by_cases h : -(A : Int) + -(B : Int) = 0
    · rw [if_pos h]
    · rw [if_neg h, decide_eq_true (by omega)]
def addN (a b : Nat) : Option Nat := match finN a, finN b with
  | true, true => some (frc (magN a) fun m => frc (magN b) fun n => frc (expN a) fun i => frc (expN b) fun j => addD (negN a) m i (negN b) n j)
  | _, _ => none
def subN (a b : Nat) : Option Nat := match finN a, finN b with
  | true, true => some (frc (magN a) fun m => frc (magN b) fun n => frc (expN a) fun i => frc (expN b) fun j => addD (negN a) m i (!negN b) n j)
  | _, _ => none
theorem addN_eq {a b r : Nat} (h : addN a b = some r) : floatBits .add .f64 a b = some r := by
  unfold addN at h
  split at h
  · rename_i h1 h2
    simp only [frc_eq, Option.some.injEq] at h
    subst h
    show Option.map Ieee.double.write ((Ieee.double.read a).sum (Ieee.double.read b)) = _
    rw [read_fin h1, read_fin h2]
    exact addD_eq ..
  · cases h
theorem subN_eq {a b r : Nat} (h : subN a b = some r) : floatBits .sub .f64 a b = some r := by
  unfold subN at h
  split at h
  · rename_i h1 h2
    simp only [frc_eq, Option.some.injEq] at h
    subst h
    show Option.map Ieee.double.write ((Ieee.double.read a).sum (Ieee.double.read b).opposite) = _
    rw [read_fin h1, read_fin h2]
    exact addD_eq ..
  · cases h

/-! ### the sine -/
def bnd {α : Type} (x : Option Nat) (f : Nat → Option α) : Option α := match x with | some a => frc a f | none => none
theorem bnd_some {α : Type} {x : Option Nat} {f : Nat → Option α} {r : α} (h : bnd x f = some r) : ∃ a, x = some a ∧ f a = some r := by
  cases x with
  | none => cases h
  | some a => exact ⟨a, rfl, by simpa [bnd, frc_eq] using h⟩
def polyN (zz c0 c1 c2 c3 c4 c5 : Nat) : Option Nat :=
  bnd (mulN c0 zz) fun a => bnd (addN a c1) fun a => bnd (mulN a zz) fun a => bnd (addN a c2) fun a => bnd (mulN a zz) fun a => bnd (addN a c3) fun a => bnd (mulN a zz) fun a => bnd (addN a c4) fun a => bnd (mulN a zz) fun a => addN a c5
def sinN (z zz : Nat) : Option Nat :=
  bnd (mulN z zz) fun u => bnd (polyN zz 4460209587652500685 13716528389658582877 4523617212962785441 13774824197404483331 4575957461383575504 13818544856648471880) fun p => bnd (mulN u p) fun q => addN z q
def cosN (zz : Nat) : Option Nat :=
  bnd (mulN 4602678819172646912 zz) fun h => bnd (subN 4607182418800017408 h) fun o => bnd (mulN zz zz) fun u => bnd (polyN zz 13666448263388469915 4477121864728985349 13732177093698800582 4537941361668146421 13787419979223748497 4586165620538955083) fun p => bnd (mulN u p) fun q => addN o q
def redN (b y : Nat) : Option Nat :=
  bnd (mulN y 4605249456957292544) fun t => bnd (subN b t) fun b => bnd (mulN y 4495793288086814720) fun t => bnd (subN b t) fun b => bnd (mulN y 4388835458085048688) fun t => subN b t
/-- Bits of numbers (as the run has them). -/
def intN (op : BinOp) (k : IntKind) (a b : Int) : Int := k.wrap (match op with
  | .and => (BitVec.ofInt k.bits a &&& BitVec.ofInt k.bits b).toNat
  | .or => (BitVec.ofInt k.bits a ||| BitVec.ofInt k.bits b).toNat
  | .xor => (BitVec.ofInt k.bits a ^^^ BitVec.ofInt k.bits b).toNat
  | _ => (BitVec.ofInt k.bits a &&& ~~~BitVec.ofInt k.bits b).toNat)
def f2uN (m : Nat) : Option Nat := match floatToIntVal .f64 m .u64 with | some (.ofNat n) => some n | _ => none
theorem f2uN_eq {m j : Nat} (h : f2uN m = some j) : floatToIntVal .f64 m .u64 = some (j : Int) := by
  unfold f2uN at h
  split at h
  · rename_i e; cases h; exact e
  · cases h
def octN (z zz : Nat) (o : Int) : Option Nat := if o = 1 then cosN zz else if o = 2 then cosN zz else sinN z zz
def tailN (b y : Nat) (o : Int) : Option Nat :=
  bnd (redN b y) fun z => bnd (mulN z z) fun zz => if 3 < o then bnd (octN z zz (IntKind.u64.wrap (o - 4))) (fun s => some (Op.negFloat .f64 s)) else octN z zz o
def ordN (a b : Nat) : Option Ordering := FloatKind.f64.format.order a b
def chkN (b : Nat) : Bool := !(ordN b 0 == some .eq) && (ordN b b == some .eq) && !(ordN (intN .andNot .u64 b 9223372036854775808).toNat 9218868437227405311 == some .gt) && !(ordN b 0 == some .lt) && !(ordN b 4737786807993761792 == some .gt || ordN b 4737786807993761792 == some .eq)
def msinN (b : Nat) : Option Nat :=
  if b = 0 then some 0 else match chkN b with
  | false => none
  | true =>
  bnd (mulN b 4608412980311869571) fun m => bnd (f2uN m) fun j =>
  frc (FloatKind.f64.nearest (j : Nat)) fun y0 =>
  if intN .and .u64 j 1 = 1 then bnd (addN y0 4607182418800017408) fun y => tailN b y (intN .and .u64 (IntKind.u64.wrap (j + 1)) 7) else tailN b y0 (intN .and .u64 j 7)
/-- The exponent's bits. -/
def rE (b : Nat) : Int := intN .and .u64 ((b : Int).fdiv (2 ^ 52)) 2047
def rndV (b : Nat) : Int :=
  if rE b < 1023 then (if rE b = 1022 then intN .or .u64 (intN .and .u64 b 9223372036854775808) 4607182418800017408 else intN .and .u64 b 9223372036854775808)
  else if rE b < 1075 then intN .andNot .u64 (IntKind.u64.wrap (b + Int.fdiv 2251799813685248 (2 ^ (min (IntKind.u64.wrap (rE b - 1023)).toNat 64)))) (Int.fdiv 4503599627370495 (2 ^ (min (IntKind.u64.wrap (rE b - 1023)).toNat 64)))
  else b
def argN (h : Nat) : Option Nat := bnd (mulN (FloatKind.f64.nearest (h : Nat)) 4614256656552045848) fun a => floatBits .quo .f64 a 4656722014701092864
def sinI (h : Nat) : Option Int := bnd (argN h) fun x => bnd (msinN x) fun s => bnd (mulN 4670232813583204352 s) fun t => frc (rndV t).toNat fun t => floatToIntVal .f64 t .i64
def okH (h : Nat) : Bool := match sinI h with | some n => decide (-16384 ≤ n ∧ n ≤ 16384) | none => false
def allB (f : Nat → Bool) (n : Nat) : Bool := Nat.rec true (fun m ih => match f m with | true => ih | false => false) n
theorem allB_spec {f : Nat → Bool} {n : Nat} (h : allB f n = true) (i : Nat) (hi : i < n) : f i = true := by
  induction n with
  | zero => omega
  | succ n ih =>
    have h' : (match f n with | true => allB f n | false => false) = true := h
    cases hf : f n with
    | false => rw [hf] at h'; cases h'
    | true =>
      rw [hf] at h'
      by_cases e : i = n
      · subst e; exact hf
      · exact ih h' (by omega)
end Go.Proofs.YtacfofpbbempaaaGreatDoor.Flo
/- The sine's worth at each of 4096 angles: small (half 1). -/
namespace Go.Proofs.YtacfofpbbempaaaGreatDoor.Flo
set_option maxRecDepth 100000
theorem ok0 : allB (fun h => okH (0 + h)) 256 = true := by decide +kernel
theorem ok1 : allB (fun h => okH (256 + h)) 256 = true := by decide +kernel
theorem ok2 : allB (fun h => okH (512 + h)) 256 = true := by decide +kernel
theorem ok3 : allB (fun h => okH (768 + h)) 256 = true := by decide +kernel
theorem ok4 : allB (fun h => okH (1024 + h)) 256 = true := by decide +kernel
theorem ok5 : allB (fun h => okH (1280 + h)) 256 = true := by decide +kernel
theorem ok6 : allB (fun h => okH (1536 + h)) 256 = true := by decide +kernel
theorem ok7 : allB (fun h => okH (1792 + h)) 256 = true := by decide +kernel
end Go.Proofs.YtacfofpbbempaaaGreatDoor.Flo
/- The sine's worth at each of 4096 angles: small (half 2). -/
namespace Go.Proofs.YtacfofpbbempaaaGreatDoor.Flo
set_option maxRecDepth 100000
theorem ok8 : allB (fun h => okH (2048 + h)) 256 = true := by decide +kernel
theorem ok9 : allB (fun h => okH (2304 + h)) 256 = true := by decide +kernel
theorem ok10 : allB (fun h => okH (2560 + h)) 256 = true := by decide +kernel
theorem ok11 : allB (fun h => okH (2816 + h)) 256 = true := by decide +kernel
theorem ok12 : allB (fun h => okH (3072 + h)) 256 = true := by decide +kernel
theorem ok13 : allB (fun h => okH (3328 + h)) 256 = true := by decide +kernel
theorem ok14 : allB (fun h => okH (3584 + h)) 256 = true := by decide +kernel
theorem ok15 : allB (fun h => okH (3840 + h)) 256 = true := by decide +kernel
end Go.Proofs.YtacfofpbbempaaaGreatDoor.Flo
/- angles: what the run ends in. -/
namespace Go.Proofs.YtacfofpbbempaaaGreatDoor
open Go.RowKit
set_option linter.unusedVariables false
set_option maxRecDepth 100000
namespace AngF
--GAMMA
def Γ : FuncId → Option Ca := fun f =>
  if f = 85 ∨ f = 84 then some .ext
  else if f = 89 ∨ f = 73 ∨ f = 24 ∨ f = 53 ∨ f = 54 ∨ f = 107 then some (.fn .sc)
  else if f = 102 then none
  else some .inl
def ann : FuncId → Nat → LoopEx := fun f r => ⟨[], [], [], []⟩
--END GAMMA
theorem norm_form (x0 r : AV) : fnF Tryz.prog Γ ann 3 24 Tryz.f24 (Tryz.f24.body.getD .skip) (.nil) [x0] (.sc) r = (((AV.binOk Go.BinOp.rem x0 (AV.int 4096)) ∧
((AV.binOk Go.BinOp.add (AV.bin Go.BinOp.rem x0 (AV.int 4096)) (AV.int 4096)) ∧
((AV.binOk Go.BinOp.rem (AV.bin Go.BinOp.add (AV.bin Go.BinOp.rem x0 (AV.int 4096)) (AV.int 4096)) (AV.int 4096)) ∧
((AV.flat (AV.bin Go.BinOp.rem (AV.bin Go.BinOp.add (AV.bin Go.BinOp.rem x0 (AV.int 4096)) (AV.int 4096)) (AV.int 4096))) ∧
(fSame (AV.bin Go.BinOp.rem (AV.bin Go.BinOp.add (AV.bin Go.BinOp.rem x0 (AV.int 4096)) (AV.int 4096)) (AV.int 4096)) r)))))) := by kernel_rfl
theorem round_form (x0 r : AV) : fnF Tryz.prog Γ ann 3 73 Tryz.f73 (Tryz.f73.body.getD .skip) (.nil) [x0] (.sc) r = ((∃ r129 : AV, ((FnE Tryz.prog 85 [x0] r129) ∧
((AV.shfOk r129 (AV.lit (Value.int Go.IntKind.u64 52))) ∧
((AV.binOk Go.BinOp.and (AV.shf Go.BinOp.shr r129 (AV.lit (Value.int Go.IntKind.u64 52))) (AV.lit (Value.int Go.IntKind.u64 2047))) ∧
((AV.binOk Go.BinOp.lss (AV.bin Go.BinOp.and (AV.shf Go.BinOp.shr r129 (AV.lit (Value.int Go.IntKind.u64 52))) (AV.lit (Value.int Go.IntKind.u64 2047))) (AV.lit (Value.int Go.IntKind.u64 1023))) ∧
((AV.isBool (AV.bin Go.BinOp.lss (AV.bin Go.BinOp.and (AV.shf Go.BinOp.shr r129 (AV.lit (Value.int Go.IntKind.u64 52))) (AV.lit (Value.int Go.IntKind.u64 2047))) (AV.lit (Value.int Go.IntKind.u64 1023)))) ∧
(((isT (AV.bin Go.BinOp.lss (AV.bin Go.BinOp.and (AV.shf Go.BinOp.shr r129 (AV.lit (Value.int Go.IntKind.u64 52))) (AV.lit (Value.int Go.IntKind.u64 2047))) (AV.lit (Value.int Go.IntKind.u64 1023)))) →
  ((AV.binOk Go.BinOp.and r129 (AV.lit (Value.int Go.IntKind.u64 9223372036854775808))) ∧
  ((AV.binOk Go.BinOp.eql (AV.bin Go.BinOp.and (AV.shf Go.BinOp.shr r129 (AV.lit (Value.int Go.IntKind.u64 52))) (AV.lit (Value.int Go.IntKind.u64 2047))) (AV.lit (Value.int Go.IntKind.u64 1022))) ∧
  ((AV.isBool (AV.bin Go.BinOp.eql (AV.bin Go.BinOp.and (AV.shf Go.BinOp.shr r129 (AV.lit (Value.int Go.IntKind.u64 52))) (AV.lit (Value.int Go.IntKind.u64 2047))) (AV.lit (Value.int Go.IntKind.u64 1022)))) ∧
  (((isT (AV.bin Go.BinOp.eql (AV.bin Go.BinOp.and (AV.shf Go.BinOp.shr r129 (AV.lit (Value.int Go.IntKind.u64 52))) (AV.lit (Value.int Go.IntKind.u64 2047))) (AV.lit (Value.int Go.IntKind.u64 1022)))) →
    ((AV.binOk Go.BinOp.or (AV.bin Go.BinOp.and r129 (AV.lit (Value.int Go.IntKind.u64 9223372036854775808))) (AV.lit (Value.int Go.IntKind.u64 4607182418800017408))) ∧
    (∃ r1217 : AV, ((FnE Tryz.prog 84 [(AV.bin Go.BinOp.or (AV.bin Go.BinOp.and r129 (AV.lit (Value.int Go.IntKind.u64 9223372036854775808))) (AV.lit (Value.int Go.IntKind.u64 4607182418800017408)))] r1217) ∧
    ((AV.flat r1217) ∧
    (fSame r1217 r)))))) ∧
  ((isF (AV.bin Go.BinOp.eql (AV.bin Go.BinOp.and (AV.shf Go.BinOp.shr r129 (AV.lit (Value.int Go.IntKind.u64 52))) (AV.lit (Value.int Go.IntKind.u64 2047))) (AV.lit (Value.int Go.IntKind.u64 1022)))) →
    (∃ r1025 : AV, ((FnE Tryz.prog 84 [(AV.bin Go.BinOp.and r129 (AV.lit (Value.int Go.IntKind.u64 9223372036854775808)))] r1025) ∧
    ((AV.flat r1025) ∧
    (fSame r1025 r)))))))))) ∧
((isF (AV.bin Go.BinOp.lss (AV.bin Go.BinOp.and (AV.shf Go.BinOp.shr r129 (AV.lit (Value.int Go.IntKind.u64 52))) (AV.lit (Value.int Go.IntKind.u64 2047))) (AV.lit (Value.int Go.IntKind.u64 1023)))) →
  ((AV.binOk Go.BinOp.lss (AV.bin Go.BinOp.and (AV.shf Go.BinOp.shr r129 (AV.lit (Value.int Go.IntKind.u64 52))) (AV.lit (Value.int Go.IntKind.u64 2047))) (AV.lit (Value.int Go.IntKind.u64 1075))) ∧
  ((AV.isBool (AV.bin Go.BinOp.lss (AV.bin Go.BinOp.and (AV.shf Go.BinOp.shr r129 (AV.lit (Value.int Go.IntKind.u64 52))) (AV.lit (Value.int Go.IntKind.u64 2047))) (AV.lit (Value.int Go.IntKind.u64 1075)))) ∧
  (((isT (AV.bin Go.BinOp.lss (AV.bin Go.BinOp.and (AV.shf Go.BinOp.shr r129 (AV.lit (Value.int Go.IntKind.u64 52))) (AV.lit (Value.int Go.IntKind.u64 2047))) (AV.lit (Value.int Go.IntKind.u64 1075)))) →
    ((AV.binOk Go.BinOp.sub (AV.bin Go.BinOp.and (AV.shf Go.BinOp.shr r129 (AV.lit (Value.int Go.IntKind.u64 52))) (AV.lit (Value.int Go.IntKind.u64 2047))) (AV.lit (Value.int Go.IntKind.u64 1023))) ∧
    ((AV.shfOk (AV.lit (Value.int Go.IntKind.u64 2251799813685248)) (AV.bin Go.BinOp.sub (AV.bin Go.BinOp.and (AV.shf Go.BinOp.shr r129 (AV.lit (Value.int Go.IntKind.u64 52))) (AV.lit (Value.int Go.IntKind.u64 2047))) (AV.lit (Value.int Go.IntKind.u64 1023)))) ∧
    ((AV.binOk Go.BinOp.add r129 (AV.shf Go.BinOp.shr (AV.lit (Value.int Go.IntKind.u64 2251799813685248)) (AV.bin Go.BinOp.sub (AV.bin Go.BinOp.and (AV.shf Go.BinOp.shr r129 (AV.lit (Value.int Go.IntKind.u64 52))) (AV.lit (Value.int Go.IntKind.u64 2047))) (AV.lit (Value.int Go.IntKind.u64 1023))))) ∧
    ((AV.shfOk (AV.lit (Value.int Go.IntKind.u64 4503599627370495)) (AV.bin Go.BinOp.sub (AV.bin Go.BinOp.and (AV.shf Go.BinOp.shr r129 (AV.lit (Value.int Go.IntKind.u64 52))) (AV.lit (Value.int Go.IntKind.u64 2047))) (AV.lit (Value.int Go.IntKind.u64 1023)))) ∧
    ((AV.binOk Go.BinOp.andNot (AV.bin Go.BinOp.add r129 (AV.shf Go.BinOp.shr (AV.lit (Value.int Go.IntKind.u64 2251799813685248)) (AV.bin Go.BinOp.sub (AV.bin Go.BinOp.and (AV.shf Go.BinOp.shr r129 (AV.lit (Value.int Go.IntKind.u64 52))) (AV.lit (Value.int Go.IntKind.u64 2047))) (AV.lit (Value.int Go.IntKind.u64 1023))))) (AV.shf Go.BinOp.shr (AV.lit (Value.int Go.IntKind.u64 4503599627370495)) (AV.bin Go.BinOp.sub (AV.bin Go.BinOp.and (AV.shf Go.BinOp.shr r129 (AV.lit (Value.int Go.IntKind.u64 52))) (AV.lit (Value.int Go.IntKind.u64 2047))) (AV.lit (Value.int Go.IntKind.u64 1023))))) ∧
    (∃ r1665 : AV, ((FnE Tryz.prog 84 [(AV.bin Go.BinOp.andNot (AV.bin Go.BinOp.add r129 (AV.shf Go.BinOp.shr (AV.lit (Value.int Go.IntKind.u64 2251799813685248)) (AV.bin Go.BinOp.sub (AV.bin Go.BinOp.and (AV.shf Go.BinOp.shr r129 (AV.lit (Value.int Go.IntKind.u64 52))) (AV.lit (Value.int Go.IntKind.u64 2047))) (AV.lit (Value.int Go.IntKind.u64 1023))))) (AV.shf Go.BinOp.shr (AV.lit (Value.int Go.IntKind.u64 4503599627370495)) (AV.bin Go.BinOp.sub (AV.bin Go.BinOp.and (AV.shf Go.BinOp.shr r129 (AV.lit (Value.int Go.IntKind.u64 52))) (AV.lit (Value.int Go.IntKind.u64 2047))) (AV.lit (Value.int Go.IntKind.u64 1023)))))] r1665) ∧
    ((AV.flat r1665) ∧
    (fSame r1665 r)))))))))) ∧
  ((isF (AV.bin Go.BinOp.lss (AV.bin Go.BinOp.and (AV.shf Go.BinOp.shr r129 (AV.lit (Value.int Go.IntKind.u64 52))) (AV.lit (Value.int Go.IntKind.u64 2047))) (AV.lit (Value.int Go.IntKind.u64 1075)))) →
    (∃ r833 : AV, ((FnE Tryz.prog 84 [r129] r833) ∧
    ((AV.flat r833) ∧
    (fSame r833 r))))))))))))))))) := by kernel_rfl
set_option maxHeartbeats 4000000 in
theorem msin_form (x0 r t1 t2 t3 t4 t5 t6 t7 t8 t9 t10 t11 t12 t13 t14 t15 t16 t17 t18 t19 t20 t21 t22 t23 t24 t25 t26 t27 t28 t29 t30 t31 t32 t33 t34 t35 t36 t37 t38 t39 t40 t41 t42 t43 t44 t45 t46 t47 t48 t49 t50 t51 t52 t53 t54 t55 t56 t57 t58 t59 t60 t61 t62 t63 t64 t65 t66 t67 t68 t69 t70 t71 t72 t73 t74 t75 t76 t77 t78 t79 t80 t81 t82 t83 t84 t85 t86 t87 t88 t89 t90 t91 t92 t93 t94 t95 t96 t97 t98 t99 t100 t101 t102 t103 t104 t105 t106 t107 t108 t109 t110 t111 t112 t113 : AV) (et1 : t1 = (AV.bin Go.BinOp.eql x0 (AV.lit (Value.float Go.FloatKind.f64 0)))) (et2 : t2 = (AV.bin Go.BinOp.neq x0 x0)) (et3 : t3 = (AV.bin Go.BinOp.lss x0 (AV.lit (Value.float Go.FloatKind.f64 0)))) (et4 : t4 = (AV.bin Go.BinOp.geq x0 (AV.lit (Value.float Go.FloatKind.f64 4737786807993761792)))) (et5 : t5 = (AV.bin Go.BinOp.mul x0 (AV.lit (Value.float Go.FloatKind.f64 4608412980311869571)))) (et6 : t6 = (AV.f2i Go.FloatKind.f64 Go.IntKind.u64 t5)) (et7 : t7 = (AV.bin Go.BinOp.and t6 (AV.lit (Value.int Go.IntKind.u64 1)))) (et8 : t8 = (AV.bin Go.BinOp.eql t7 (AV.lit (Value.int Go.IntKind.u64 1)))) (et9 : t9 = (AV.i2f Go.FloatKind.f64 t6)) (et10 : t10 = (AV.bin Go.BinOp.add t6 (AV.lit (Value.int Go.IntKind.u64 1)))) (et11 : t11 = (AV.bin Go.BinOp.add t9 (AV.lit (Value.float Go.FloatKind.f64 4607182418800017408)))) (et12 : t12 = (AV.bin Go.BinOp.mul t11 (AV.lit (Value.float Go.FloatKind.f64 4605249456957292544)))) (et13 : t13 = (AV.bin Go.BinOp.sub x0 t12)) (et14 : t14 = (AV.bin Go.BinOp.mul t11 (AV.lit (Value.float Go.FloatKind.f64 4495793288086814720)))) (et15 : t15 = (AV.bin Go.BinOp.sub t13 t14)) (et16 : t16 = (AV.bin Go.BinOp.mul t11 (AV.lit (Value.float Go.FloatKind.f64 4388835458085048688)))) (et17 : t17 = (AV.bin Go.BinOp.and t10 (AV.lit (Value.int Go.IntKind.u64 7)))) (et18 : t18 = (AV.bin Go.BinOp.gtr t17 (AV.lit (Value.int Go.IntKind.u64 3)))) (et19 : t19 = (AV.bin Go.BinOp.sub t15 t16)) (et20 : t20 = (AV.bin Go.BinOp.sub t17 (AV.lit (Value.int Go.IntKind.u64 4)))) (et21 : t21 = (AV.bin Go.BinOp.eql t20 (AV.lit (Value.int Go.IntKind.u64 1)))) (et22 : t22 = (AV.bin Go.BinOp.mul t19 t19)) (et23 : t23 = (AV.bin Go.BinOp.mul (AV.lit (Value.float Go.FloatKind.f64 4602678819172646912)) t22)) (et24 : t24 = (AV.mkRef [(AV.lit (Value.float Go.FloatKind.f64 13666448263388469915)), (AV.lit (Value.float Go.FloatKind.f64 4477121864728985349)), (AV.lit (Value.float Go.FloatKind.f64 13732177093698800582)), (AV.lit (Value.float Go.FloatKind.f64 4537941361668146421)), (AV.lit (Value.float Go.FloatKind.f64 13787419979223748497)), (AV.lit (Value.float Go.FloatKind.f64 4586165620538955083))])) (et25 : t25 = (AV.refNth t24 0 [((AV.int 0), 1)])) (et26 : t26 = (AV.bin Go.BinOp.mul t25 t22)) (et27 : t27 = (AV.refNth t24 0 [((AV.int 1), 1)])) (et28 : t28 = (AV.bin Go.BinOp.add t26 t27)) (et29 : t29 = (AV.bin Go.BinOp.mul t28 t22)) (et30 : t30 = (AV.refNth t24 0 [((AV.int 2), 1)])) (et31 : t31 = (AV.bin Go.BinOp.add t29 t30)) (et32 : t32 = (AV.bin Go.BinOp.mul t31 t22)) (et33 : t33 = (AV.refNth t24 0 [((AV.int 3), 1)])) (et34 : t34 = (AV.bin Go.BinOp.add t32 t33)) (et35 : t35 = (AV.bin Go.BinOp.mul t34 t22)) (et36 : t36 = (AV.refNth t24 0 [((AV.int 4), 1)])) (et37 : t37 = (AV.bin Go.BinOp.add t35 t36)) (et38 : t38 = (AV.bin Go.BinOp.mul t37 t22)) (et39 : t39 = (AV.refNth t24 0 [((AV.int 5), 1)])) (et40 : t40 = (AV.bin Go.BinOp.mul t22 t22)) (et41 : t41 = (AV.bin Go.BinOp.add t38 t39)) (et42 : t42 = (AV.bin Go.BinOp.sub (AV.lit (Value.float Go.FloatKind.f64 4607182418800017408)) t23)) (et43 : t43 = (AV.bin Go.BinOp.mul t40 t41)) (et44 : t44 = (AV.bin Go.BinOp.add t42 t43)) (et45 : t45 = (AV.un Go.UnOp.neg t44)) (et46 : t46 = (AV.bin Go.BinOp.eql t20 (AV.lit (Value.int Go.IntKind.u64 2)))) (et47 : t47 = (AV.mkRef [(AV.lit (Value.float Go.FloatKind.f64 4460209587652500685)), (AV.lit (Value.float Go.FloatKind.f64 13716528389658582877)), (AV.lit (Value.float Go.FloatKind.f64 4523617212962785441)), (AV.lit (Value.float Go.FloatKind.f64 13774824197404483331)), (AV.lit (Value.float Go.FloatKind.f64 4575957461383575504)), (AV.lit (Value.float Go.FloatKind.f64 13818544856648471880))])) (et48 : t48 = (AV.refNth t47 0 [((AV.int 0), 1)])) (et49 : t49 = (AV.bin Go.BinOp.mul t48 t22)) (et50 : t50 = (AV.refNth t47 0 [((AV.int 1), 1)])) (et51 : t51 = (AV.bin Go.BinOp.add t49 t50)) (et52 : t52 = (AV.bin Go.BinOp.mul t51 t22)) (et53 : t53 = (AV.refNth t47 0 [((AV.int 2), 1)])) (et54 : t54 = (AV.bin Go.BinOp.add t52 t53)) (et55 : t55 = (AV.bin Go.BinOp.mul t54 t22)) (et56 : t56 = (AV.refNth t47 0 [((AV.int 3), 1)])) (et57 : t57 = (AV.bin Go.BinOp.add t55 t56)) (et58 : t58 = (AV.bin Go.BinOp.mul t57 t22)) (et59 : t59 = (AV.refNth t47 0 [((AV.int 4), 1)])) (et60 : t60 = (AV.bin Go.BinOp.add t58 t59)) (et61 : t61 = (AV.bin Go.BinOp.mul t60 t22)) (et62 : t62 = (AV.refNth t47 0 [((AV.int 5), 1)])) (et63 : t63 = (AV.bin Go.BinOp.mul t19 t22)) (et64 : t64 = (AV.bin Go.BinOp.add t61 t62)) (et65 : t65 = (AV.bin Go.BinOp.mul t63 t64)) (et66 : t66 = (AV.bin Go.BinOp.add t19 t65)) (et67 : t67 = (AV.un Go.UnOp.neg t66)) (et68 : t68 = (AV.bin Go.BinOp.eql t17 (AV.lit (Value.int Go.IntKind.u64 1)))) (et69 : t69 = (AV.bin Go.BinOp.eql t17 (AV.lit (Value.int Go.IntKind.u64 2)))) (et70 : t70 = (AV.bin Go.BinOp.mul t9 (AV.lit (Value.float Go.FloatKind.f64 4605249456957292544)))) (et71 : t71 = (AV.bin Go.BinOp.sub x0 t70)) (et72 : t72 = (AV.bin Go.BinOp.mul t9 (AV.lit (Value.float Go.FloatKind.f64 4495793288086814720)))) (et73 : t73 = (AV.bin Go.BinOp.sub t71 t72)) (et74 : t74 = (AV.bin Go.BinOp.mul t9 (AV.lit (Value.float Go.FloatKind.f64 4388835458085048688)))) (et75 : t75 = (AV.bin Go.BinOp.and t6 (AV.lit (Value.int Go.IntKind.u64 7)))) (et76 : t76 = (AV.bin Go.BinOp.gtr t75 (AV.lit (Value.int Go.IntKind.u64 3)))) (et77 : t77 = (AV.bin Go.BinOp.sub t73 t74)) (et78 : t78 = (AV.bin Go.BinOp.sub t75 (AV.lit (Value.int Go.IntKind.u64 4)))) (et79 : t79 = (AV.bin Go.BinOp.eql t78 (AV.lit (Value.int Go.IntKind.u64 1)))) (et80 : t80 = (AV.bin Go.BinOp.mul t77 t77)) (et81 : t81 = (AV.bin Go.BinOp.mul (AV.lit (Value.float Go.FloatKind.f64 4602678819172646912)) t80)) (et82 : t82 = (AV.bin Go.BinOp.mul t25 t80)) (et83 : t83 = (AV.bin Go.BinOp.add t82 t27)) (et84 : t84 = (AV.bin Go.BinOp.mul t83 t80)) (et85 : t85 = (AV.bin Go.BinOp.add t84 t30)) (et86 : t86 = (AV.bin Go.BinOp.mul t85 t80)) (et87 : t87 = (AV.bin Go.BinOp.add t86 t33)) (et88 : t88 = (AV.bin Go.BinOp.mul t87 t80)) (et89 : t89 = (AV.bin Go.BinOp.add t88 t36)) (et90 : t90 = (AV.bin Go.BinOp.mul t89 t80)) (et91 : t91 = (AV.bin Go.BinOp.mul t80 t80)) (et92 : t92 = (AV.bin Go.BinOp.add t90 t39)) (et93 : t93 = (AV.bin Go.BinOp.sub (AV.lit (Value.float Go.FloatKind.f64 4607182418800017408)) t81)) (et94 : t94 = (AV.bin Go.BinOp.mul t91 t92)) (et95 : t95 = (AV.bin Go.BinOp.add t93 t94)) (et96 : t96 = (AV.un Go.UnOp.neg t95)) (et97 : t97 = (AV.bin Go.BinOp.eql t78 (AV.lit (Value.int Go.IntKind.u64 2)))) (et98 : t98 = (AV.bin Go.BinOp.mul t48 t80)) (et99 : t99 = (AV.bin Go.BinOp.add t98 t50)) (et100 : t100 = (AV.bin Go.BinOp.mul t99 t80)) (et101 : t101 = (AV.bin Go.BinOp.add t100 t53)) (et102 : t102 = (AV.bin Go.BinOp.mul t101 t80)) (et103 : t103 = (AV.bin Go.BinOp.add t102 t56)) (et104 : t104 = (AV.bin Go.BinOp.mul t103 t80)) (et105 : t105 = (AV.bin Go.BinOp.add t104 t59)) (et106 : t106 = (AV.bin Go.BinOp.mul t105 t80)) (et107 : t107 = (AV.bin Go.BinOp.mul t77 t80)) (et108 : t108 = (AV.bin Go.BinOp.add t106 t62)) (et109 : t109 = (AV.bin Go.BinOp.mul t107 t108)) (et110 : t110 = (AV.bin Go.BinOp.add t77 t109)) (et111 : t111 = (AV.un Go.UnOp.neg t110)) (et112 : t112 = (AV.bin Go.BinOp.eql t75 (AV.lit (Value.int Go.IntKind.u64 1)))) (et113 : t113 = (AV.bin Go.BinOp.eql t75 (AV.lit (Value.int Go.IntKind.u64 2)))) : fnF Tryz.prog Γ ann 3 89 Tryz.f89 (Tryz.f89.body.getD .skip) ((.both .nil (.f (.f (.f (.f .nil)))))) [x0] (.sc) r = (((AV.binOk Go.BinOp.eql x0 (AV.lit (Value.float Go.FloatKind.f64 0))) ∧
((AV.isBool t1) ∧
(((isT t1) →
  ((AV.isBool t1) ∧
  ((isT t1) ∧
  ((AV.flat x0) ∧
  (fSame x0 r))))) ∧
((isF t1) →
  ((fEnt Tryz.prog 66) ∧
  (fAllV fun _ => ((AV.binOk Go.BinOp.neq x0 x0) ∧
  ((AV.isBool t1) ∧
  ((isF t1) ∧
  ((AV.isBool t2) ∧
  ((isF t2) ∧
  ((fEnt Tryz.prog 67) ∧
  (fAllV fun _ => ((fEnt Tryz.prog 82) ∧
  (fAllV fun _ => (∃ r1473 : AV, ((FnE Tryz.prog 85 [x0] r1473) ∧
  ((AV.binOk Go.BinOp.andNot r1473 (AV.lit (Value.int Go.IntKind.u64 9223372036854775808))) ∧
  (∃ r1601 : AV, ((FnE Tryz.prog 84 [(AV.bin Go.BinOp.andNot r1473 (AV.lit (Value.int Go.IntKind.u64 9223372036854775808)))] r1601) ∧
  ((AV.binOk Go.BinOp.gtr r1601 (AV.lit (Value.float Go.FloatKind.f64 9218868437227405311))) ∧
  ((AV.isBool (AV.bin Go.BinOp.gtr r1601 (AV.lit (Value.float Go.FloatKind.f64 9218868437227405311)))) ∧
  ((isF (AV.bin Go.BinOp.gtr r1601 (AV.lit (Value.float Go.FloatKind.f64 9218868437227405311)))) ∧
  ((AV.binOk Go.BinOp.lss x0 (AV.lit (Value.float Go.FloatKind.f64 0))) ∧
  ((AV.isBool t3) ∧
  ((isF t3) ∧
  ((AV.binOk Go.BinOp.geq x0 (AV.lit (Value.float Go.FloatKind.f64 4737786807993761792))) ∧
  ((AV.isBool t4) ∧
  ((isF t4) ∧
  ((AV.binOk Go.BinOp.mul x0 (AV.lit (Value.float Go.FloatKind.f64 4608412980311869571))) ∧
  ((AV.f2iOk Go.FloatKind.f64 Go.IntKind.u64 t5) ∧
  ((AV.isInt t6) ∧
  ((AV.binOk Go.BinOp.and t6 (AV.lit (Value.int Go.IntKind.u64 1))) ∧
  ((AV.binOk Go.BinOp.eql t7 (AV.lit (Value.int Go.IntKind.u64 1))) ∧
  ((AV.isBool t8) ∧
  (((isT t8) →
    ((AV.binOk Go.BinOp.add t6 (AV.lit (Value.int Go.IntKind.u64 1))) ∧
    ((AV.binOk Go.BinOp.add t9 (AV.lit (Value.float Go.FloatKind.f64 4607182418800017408))) ∧
    ((AV.binOk Go.BinOp.and t10 (AV.lit (Value.int Go.IntKind.u64 7))) ∧
    ((AV.binOk Go.BinOp.mul t11 (AV.lit (Value.float Go.FloatKind.f64 4605249456957292544))) ∧
    ((AV.binOk Go.BinOp.sub x0 t12) ∧
    ((AV.binOk Go.BinOp.mul t11 (AV.lit (Value.float Go.FloatKind.f64 4495793288086814720))) ∧
    ((AV.binOk Go.BinOp.sub t13 t14) ∧
    ((AV.binOk Go.BinOp.mul t11 (AV.lit (Value.float Go.FloatKind.f64 4388835458085048688))) ∧
    ((AV.binOk Go.BinOp.sub t15 t16) ∧
    ((AV.binOk Go.BinOp.gtr t17 (AV.lit (Value.int Go.IntKind.u64 3))) ∧
    ((AV.isBool t18) ∧
    (((isT t18) →
      ((AV.binOk Go.BinOp.sub t17 (AV.lit (Value.int Go.IntKind.u64 4))) ∧
      ((AV.binOk Go.BinOp.mul t19 t19) ∧
      ((AV.binOk Go.BinOp.eql t20 (AV.lit (Value.int Go.IntKind.u64 1))) ∧
      ((AV.isBool t21) ∧
      (((isT t21) →
        ((AV.isBool t21) ∧
        ((isT t21) ∧
        ((AV.binOk Go.BinOp.mul (AV.lit (Value.float Go.FloatKind.f64 4602678819172646912)) t22) ∧
        ((AV.binOk Go.BinOp.sub (AV.lit (Value.float Go.FloatKind.f64 4607182418800017408)) t23) ∧
        ((AV.binOk Go.BinOp.mul t22 t22) ∧
        ((AV.inl 6 (AV.int 0)) ∧
        ((AV.isRef t24 6) ∧
        ((AV.refOk t24 6 0 [((AV.int 0), 1)]) ∧
        ((AV.binOk Go.BinOp.mul t25 t22) ∧
        ((AV.inl 6 (AV.int 1)) ∧
        ((AV.isRef t24 6) ∧
        ((AV.refOk t24 6 0 [((AV.int 1), 1)]) ∧
        ((AV.binOk Go.BinOp.add t26 t27) ∧
        ((AV.binOk Go.BinOp.mul t28 t22) ∧
        ((AV.inl 6 (AV.int 2)) ∧
        ((AV.isRef t24 6) ∧
        ((AV.refOk t24 6 0 [((AV.int 2), 1)]) ∧
        ((AV.binOk Go.BinOp.add t29 t30) ∧
        ((AV.binOk Go.BinOp.mul t31 t22) ∧
        ((AV.inl 6 (AV.int 3)) ∧
        ((AV.isRef t24 6) ∧
        ((AV.refOk t24 6 0 [((AV.int 3), 1)]) ∧
        ((AV.binOk Go.BinOp.add t32 t33) ∧
        ((AV.binOk Go.BinOp.mul t34 t22) ∧
        ((AV.inl 6 (AV.int 4)) ∧
        ((AV.isRef t24 6) ∧
        ((AV.refOk t24 6 0 [((AV.int 4), 1)]) ∧
        ((AV.binOk Go.BinOp.add t35 t36) ∧
        ((AV.binOk Go.BinOp.mul t37 t22) ∧
        ((AV.inl 6 (AV.int 5)) ∧
        ((AV.isRef t24 6) ∧
        ((AV.refOk t24 6 0 [((AV.int 5), 1)]) ∧
        ((AV.binOk Go.BinOp.add t38 t39) ∧
        ((AV.binOk Go.BinOp.mul t40 t41) ∧
        ((AV.binOk Go.BinOp.add t42 t43) ∧
        ((AV.unOk Go.UnOp.neg t44) ∧
        ((AV.flat t45) ∧
        (fSame t45 r))))))))))))))))))))))))))))))))))))))) ∧
      ((isF t21) →
        ((AV.binOk Go.BinOp.eql t20 (AV.lit (Value.int Go.IntKind.u64 2))) ∧
        ((AV.isBool t21) ∧
        ((isF t21) ∧
        ((AV.isBool t46) ∧
        (((isT t46) →
          ((AV.binOk Go.BinOp.mul (AV.lit (Value.float Go.FloatKind.f64 4602678819172646912)) t22) ∧
          ((AV.binOk Go.BinOp.sub (AV.lit (Value.float Go.FloatKind.f64 4607182418800017408)) t23) ∧
          ((AV.binOk Go.BinOp.mul t22 t22) ∧
          ((AV.inl 6 (AV.int 0)) ∧
          ((AV.isRef t24 6) ∧
          ((AV.refOk t24 6 0 [((AV.int 0), 1)]) ∧
          ((AV.binOk Go.BinOp.mul t25 t22) ∧
          ((AV.inl 6 (AV.int 1)) ∧
          ((AV.isRef t24 6) ∧
          ((AV.refOk t24 6 0 [((AV.int 1), 1)]) ∧
          ((AV.binOk Go.BinOp.add t26 t27) ∧
          ((AV.binOk Go.BinOp.mul t28 t22) ∧
          ((AV.inl 6 (AV.int 2)) ∧
          ((AV.isRef t24 6) ∧
          ((AV.refOk t24 6 0 [((AV.int 2), 1)]) ∧
          ((AV.binOk Go.BinOp.add t29 t30) ∧
          ((AV.binOk Go.BinOp.mul t31 t22) ∧
          ((AV.inl 6 (AV.int 3)) ∧
          ((AV.isRef t24 6) ∧
          ((AV.refOk t24 6 0 [((AV.int 3), 1)]) ∧
          ((AV.binOk Go.BinOp.add t32 t33) ∧
          ((AV.binOk Go.BinOp.mul t34 t22) ∧
          ((AV.inl 6 (AV.int 4)) ∧
          ((AV.isRef t24 6) ∧
          ((AV.refOk t24 6 0 [((AV.int 4), 1)]) ∧
          ((AV.binOk Go.BinOp.add t35 t36) ∧
          ((AV.binOk Go.BinOp.mul t37 t22) ∧
          ((AV.inl 6 (AV.int 5)) ∧
          ((AV.isRef t24 6) ∧
          ((AV.refOk t24 6 0 [((AV.int 5), 1)]) ∧
          ((AV.binOk Go.BinOp.add t38 t39) ∧
          ((AV.binOk Go.BinOp.mul t40 t41) ∧
          ((AV.binOk Go.BinOp.add t42 t43) ∧
          ((AV.unOk Go.UnOp.neg t44) ∧
          ((AV.flat t45) ∧
          (fSame t45 r))))))))))))))))))))))))))))))))))))) ∧
        ((isF t46) →
          ((AV.binOk Go.BinOp.mul t19 t22) ∧
          ((AV.inl 6 (AV.int 0)) ∧
          ((AV.isRef t47 6) ∧
          ((AV.refOk t47 6 0 [((AV.int 0), 1)]) ∧
          ((AV.binOk Go.BinOp.mul t48 t22) ∧
          ((AV.inl 6 (AV.int 1)) ∧
          ((AV.isRef t47 6) ∧
          ((AV.refOk t47 6 0 [((AV.int 1), 1)]) ∧
          ((AV.binOk Go.BinOp.add t49 t50) ∧
          ((AV.binOk Go.BinOp.mul t51 t22) ∧
          ((AV.inl 6 (AV.int 2)) ∧
          ((AV.isRef t47 6) ∧
          ((AV.refOk t47 6 0 [((AV.int 2), 1)]) ∧
          ((AV.binOk Go.BinOp.add t52 t53) ∧
          ((AV.binOk Go.BinOp.mul t54 t22) ∧
          ((AV.inl 6 (AV.int 3)) ∧
          ((AV.isRef t47 6) ∧
          ((AV.refOk t47 6 0 [((AV.int 3), 1)]) ∧
          ((AV.binOk Go.BinOp.add t55 t56) ∧
          ((AV.binOk Go.BinOp.mul t57 t22) ∧
          ((AV.inl 6 (AV.int 4)) ∧
          ((AV.isRef t47 6) ∧
          ((AV.refOk t47 6 0 [((AV.int 4), 1)]) ∧
          ((AV.binOk Go.BinOp.add t58 t59) ∧
          ((AV.binOk Go.BinOp.mul t60 t22) ∧
          ((AV.inl 6 (AV.int 5)) ∧
          ((AV.isRef t47 6) ∧
          ((AV.refOk t47 6 0 [((AV.int 5), 1)]) ∧
          ((AV.binOk Go.BinOp.add t61 t62) ∧
          ((AV.binOk Go.BinOp.mul t63 t64) ∧
          ((AV.binOk Go.BinOp.add t19 t65) ∧
          ((AV.unOk Go.UnOp.neg t66) ∧
          ((AV.flat t67) ∧
          (fSame t67 r))))))))))))))))))))))))))))))))))))))))))))))) ∧
    ((isF t18) →
      ((AV.binOk Go.BinOp.mul t19 t19) ∧
      ((AV.binOk Go.BinOp.eql t17 (AV.lit (Value.int Go.IntKind.u64 1))) ∧
      ((AV.isBool t68) ∧
      (((isT t68) →
        ((AV.isBool t68) ∧
        ((isT t68) ∧
        ((AV.binOk Go.BinOp.mul (AV.lit (Value.float Go.FloatKind.f64 4602678819172646912)) t22) ∧
        ((AV.binOk Go.BinOp.sub (AV.lit (Value.float Go.FloatKind.f64 4607182418800017408)) t23) ∧
        ((AV.binOk Go.BinOp.mul t22 t22) ∧
        ((AV.inl 6 (AV.int 0)) ∧
        ((AV.isRef t24 6) ∧
        ((AV.refOk t24 6 0 [((AV.int 0), 1)]) ∧
        ((AV.binOk Go.BinOp.mul t25 t22) ∧
        ((AV.inl 6 (AV.int 1)) ∧
        ((AV.isRef t24 6) ∧
        ((AV.refOk t24 6 0 [((AV.int 1), 1)]) ∧
        ((AV.binOk Go.BinOp.add t26 t27) ∧
        ((AV.binOk Go.BinOp.mul t28 t22) ∧
        ((AV.inl 6 (AV.int 2)) ∧
        ((AV.isRef t24 6) ∧
        ((AV.refOk t24 6 0 [((AV.int 2), 1)]) ∧
        ((AV.binOk Go.BinOp.add t29 t30) ∧
        ((AV.binOk Go.BinOp.mul t31 t22) ∧
        ((AV.inl 6 (AV.int 3)) ∧
        ((AV.isRef t24 6) ∧
        ((AV.refOk t24 6 0 [((AV.int 3), 1)]) ∧
        ((AV.binOk Go.BinOp.add t32 t33) ∧
        ((AV.binOk Go.BinOp.mul t34 t22) ∧
        ((AV.inl 6 (AV.int 4)) ∧
        ((AV.isRef t24 6) ∧
        ((AV.refOk t24 6 0 [((AV.int 4), 1)]) ∧
        ((AV.binOk Go.BinOp.add t35 t36) ∧
        ((AV.binOk Go.BinOp.mul t37 t22) ∧
        ((AV.inl 6 (AV.int 5)) ∧
        ((AV.isRef t24 6) ∧
        ((AV.refOk t24 6 0 [((AV.int 5), 1)]) ∧
        ((AV.binOk Go.BinOp.add t38 t39) ∧
        ((AV.binOk Go.BinOp.mul t40 t41) ∧
        ((AV.binOk Go.BinOp.add t42 t43) ∧
        ((AV.flat t44) ∧
        (fSame t44 r)))))))))))))))))))))))))))))))))))))) ∧
      ((isF t68) →
        ((AV.binOk Go.BinOp.eql t17 (AV.lit (Value.int Go.IntKind.u64 2))) ∧
        ((AV.isBool t68) ∧
        ((isF t68) ∧
        ((AV.isBool t69) ∧
        (((isT t69) →
          ((AV.binOk Go.BinOp.mul (AV.lit (Value.float Go.FloatKind.f64 4602678819172646912)) t22) ∧
          ((AV.binOk Go.BinOp.sub (AV.lit (Value.float Go.FloatKind.f64 4607182418800017408)) t23) ∧
          ((AV.binOk Go.BinOp.mul t22 t22) ∧
          ((AV.inl 6 (AV.int 0)) ∧
          ((AV.isRef t24 6) ∧
          ((AV.refOk t24 6 0 [((AV.int 0), 1)]) ∧
          ((AV.binOk Go.BinOp.mul t25 t22) ∧
          ((AV.inl 6 (AV.int 1)) ∧
          ((AV.isRef t24 6) ∧
          ((AV.refOk t24 6 0 [((AV.int 1), 1)]) ∧
          ((AV.binOk Go.BinOp.add t26 t27) ∧
          ((AV.binOk Go.BinOp.mul t28 t22) ∧
          ((AV.inl 6 (AV.int 2)) ∧
          ((AV.isRef t24 6) ∧
          ((AV.refOk t24 6 0 [((AV.int 2), 1)]) ∧
          ((AV.binOk Go.BinOp.add t29 t30) ∧
          ((AV.binOk Go.BinOp.mul t31 t22) ∧
          ((AV.inl 6 (AV.int 3)) ∧
          ((AV.isRef t24 6) ∧
          ((AV.refOk t24 6 0 [((AV.int 3), 1)]) ∧
          ((AV.binOk Go.BinOp.add t32 t33) ∧
          ((AV.binOk Go.BinOp.mul t34 t22) ∧
          ((AV.inl 6 (AV.int 4)) ∧
          ((AV.isRef t24 6) ∧
          ((AV.refOk t24 6 0 [((AV.int 4), 1)]) ∧
          ((AV.binOk Go.BinOp.add t35 t36) ∧
          ((AV.binOk Go.BinOp.mul t37 t22) ∧
          ((AV.inl 6 (AV.int 5)) ∧
          ((AV.isRef t24 6) ∧
          ((AV.refOk t24 6 0 [((AV.int 5), 1)]) ∧
          ((AV.binOk Go.BinOp.add t38 t39) ∧
          ((AV.binOk Go.BinOp.mul t40 t41) ∧
          ((AV.binOk Go.BinOp.add t42 t43) ∧
          ((AV.flat t44) ∧
          (fSame t44 r)))))))))))))))))))))))))))))))))))) ∧
        ((isF t69) →
          ((AV.binOk Go.BinOp.mul t19 t22) ∧
          ((AV.inl 6 (AV.int 0)) ∧
          ((AV.isRef t47 6) ∧
          ((AV.refOk t47 6 0 [((AV.int 0), 1)]) ∧
          ((AV.binOk Go.BinOp.mul t48 t22) ∧
          ((AV.inl 6 (AV.int 1)) ∧
          ((AV.isRef t47 6) ∧
          ((AV.refOk t47 6 0 [((AV.int 1), 1)]) ∧
          ((AV.binOk Go.BinOp.add t49 t50) ∧
          ((AV.binOk Go.BinOp.mul t51 t22) ∧
          ((AV.inl 6 (AV.int 2)) ∧
          ((AV.isRef t47 6) ∧
          ((AV.refOk t47 6 0 [((AV.int 2), 1)]) ∧
          ((AV.binOk Go.BinOp.add t52 t53) ∧
          ((AV.binOk Go.BinOp.mul t54 t22) ∧
          ((AV.inl 6 (AV.int 3)) ∧
          ((AV.isRef t47 6) ∧
          ((AV.refOk t47 6 0 [((AV.int 3), 1)]) ∧
          ((AV.binOk Go.BinOp.add t55 t56) ∧
          ((AV.binOk Go.BinOp.mul t57 t22) ∧
          ((AV.inl 6 (AV.int 4)) ∧
          ((AV.isRef t47 6) ∧
          ((AV.refOk t47 6 0 [((AV.int 4), 1)]) ∧
          ((AV.binOk Go.BinOp.add t58 t59) ∧
          ((AV.binOk Go.BinOp.mul t60 t22) ∧
          ((AV.inl 6 (AV.int 5)) ∧
          ((AV.isRef t47 6) ∧
          ((AV.refOk t47 6 0 [((AV.int 5), 1)]) ∧
          ((AV.binOk Go.BinOp.add t61 t62) ∧
          ((AV.binOk Go.BinOp.mul t63 t64) ∧
          ((AV.binOk Go.BinOp.add t19 t65) ∧
          ((AV.flat t66) ∧
          (fSame t66 r)))))))))))))))))))))))))))))))))))))))))))))))))))))))))) ∧
  ((isF t8) →
    ((AV.binOk Go.BinOp.and t6 (AV.lit (Value.int Go.IntKind.u64 7))) ∧
    ((AV.binOk Go.BinOp.mul t9 (AV.lit (Value.float Go.FloatKind.f64 4605249456957292544))) ∧
    ((AV.binOk Go.BinOp.sub x0 t70) ∧
    ((AV.binOk Go.BinOp.mul t9 (AV.lit (Value.float Go.FloatKind.f64 4495793288086814720))) ∧
    ((AV.binOk Go.BinOp.sub t71 t72) ∧
    ((AV.binOk Go.BinOp.mul t9 (AV.lit (Value.float Go.FloatKind.f64 4388835458085048688))) ∧
    ((AV.binOk Go.BinOp.sub t73 t74) ∧
    ((AV.binOk Go.BinOp.gtr t75 (AV.lit (Value.int Go.IntKind.u64 3))) ∧
    ((AV.isBool t76) ∧
    (((isT t76) →
      ((AV.binOk Go.BinOp.sub t75 (AV.lit (Value.int Go.IntKind.u64 4))) ∧
      ((AV.binOk Go.BinOp.mul t77 t77) ∧
      ((AV.binOk Go.BinOp.eql t78 (AV.lit (Value.int Go.IntKind.u64 1))) ∧
      ((AV.isBool t79) ∧
      (((isT t79) →
        ((AV.isBool t79) ∧
        ((isT t79) ∧
        ((AV.binOk Go.BinOp.mul (AV.lit (Value.float Go.FloatKind.f64 4602678819172646912)) t80) ∧
        ((AV.binOk Go.BinOp.sub (AV.lit (Value.float Go.FloatKind.f64 4607182418800017408)) t81) ∧
        ((AV.binOk Go.BinOp.mul t80 t80) ∧
        ((AV.inl 6 (AV.int 0)) ∧
        ((AV.isRef t24 6) ∧
        ((AV.refOk t24 6 0 [((AV.int 0), 1)]) ∧
        ((AV.binOk Go.BinOp.mul t25 t80) ∧
        ((AV.inl 6 (AV.int 1)) ∧
        ((AV.isRef t24 6) ∧
        ((AV.refOk t24 6 0 [((AV.int 1), 1)]) ∧
        ((AV.binOk Go.BinOp.add t82 t27) ∧
        ((AV.binOk Go.BinOp.mul t83 t80) ∧
        ((AV.inl 6 (AV.int 2)) ∧
        ((AV.isRef t24 6) ∧
        ((AV.refOk t24 6 0 [((AV.int 2), 1)]) ∧
        ((AV.binOk Go.BinOp.add t84 t30) ∧
        ((AV.binOk Go.BinOp.mul t85 t80) ∧
        ((AV.inl 6 (AV.int 3)) ∧
        ((AV.isRef t24 6) ∧
        ((AV.refOk t24 6 0 [((AV.int 3), 1)]) ∧
        ((AV.binOk Go.BinOp.add t86 t33) ∧
        ((AV.binOk Go.BinOp.mul t87 t80) ∧
        ((AV.inl 6 (AV.int 4)) ∧
        ((AV.isRef t24 6) ∧
        ((AV.refOk t24 6 0 [((AV.int 4), 1)]) ∧
        ((AV.binOk Go.BinOp.add t88 t36) ∧
        ((AV.binOk Go.BinOp.mul t89 t80) ∧
        ((AV.inl 6 (AV.int 5)) ∧
        ((AV.isRef t24 6) ∧
        ((AV.refOk t24 6 0 [((AV.int 5), 1)]) ∧
        ((AV.binOk Go.BinOp.add t90 t39) ∧
        ((AV.binOk Go.BinOp.mul t91 t92) ∧
        ((AV.binOk Go.BinOp.add t93 t94) ∧
        ((AV.unOk Go.UnOp.neg t95) ∧
        ((AV.flat t96) ∧
        (fSame t96 r))))))))))))))))))))))))))))))))))))))) ∧
      ((isF t79) →
        ((AV.binOk Go.BinOp.eql t78 (AV.lit (Value.int Go.IntKind.u64 2))) ∧
        ((AV.isBool t79) ∧
        ((isF t79) ∧
        ((AV.isBool t97) ∧
        (((isT t97) →
          ((AV.binOk Go.BinOp.mul (AV.lit (Value.float Go.FloatKind.f64 4602678819172646912)) t80) ∧
          ((AV.binOk Go.BinOp.sub (AV.lit (Value.float Go.FloatKind.f64 4607182418800017408)) t81) ∧
          ((AV.binOk Go.BinOp.mul t80 t80) ∧
          ((AV.inl 6 (AV.int 0)) ∧
          ((AV.isRef t24 6) ∧
          ((AV.refOk t24 6 0 [((AV.int 0), 1)]) ∧
          ((AV.binOk Go.BinOp.mul t25 t80) ∧
          ((AV.inl 6 (AV.int 1)) ∧
          ((AV.isRef t24 6) ∧
          ((AV.refOk t24 6 0 [((AV.int 1), 1)]) ∧
          ((AV.binOk Go.BinOp.add t82 t27) ∧
          ((AV.binOk Go.BinOp.mul t83 t80) ∧
          ((AV.inl 6 (AV.int 2)) ∧
          ((AV.isRef t24 6) ∧
          ((AV.refOk t24 6 0 [((AV.int 2), 1)]) ∧
          ((AV.binOk Go.BinOp.add t84 t30) ∧
          ((AV.binOk Go.BinOp.mul t85 t80) ∧
          ((AV.inl 6 (AV.int 3)) ∧
          ((AV.isRef t24 6) ∧
          ((AV.refOk t24 6 0 [((AV.int 3), 1)]) ∧
          ((AV.binOk Go.BinOp.add t86 t33) ∧
          ((AV.binOk Go.BinOp.mul t87 t80) ∧
          ((AV.inl 6 (AV.int 4)) ∧
          ((AV.isRef t24 6) ∧
          ((AV.refOk t24 6 0 [((AV.int 4), 1)]) ∧
          ((AV.binOk Go.BinOp.add t88 t36) ∧
          ((AV.binOk Go.BinOp.mul t89 t80) ∧
          ((AV.inl 6 (AV.int 5)) ∧
          ((AV.isRef t24 6) ∧
          ((AV.refOk t24 6 0 [((AV.int 5), 1)]) ∧
          ((AV.binOk Go.BinOp.add t90 t39) ∧
          ((AV.binOk Go.BinOp.mul t91 t92) ∧
          ((AV.binOk Go.BinOp.add t93 t94) ∧
          ((AV.unOk Go.UnOp.neg t95) ∧
          ((AV.flat t96) ∧
          (fSame t96 r))))))))))))))))))))))))))))))))))))) ∧
        ((isF t97) →
          ((AV.binOk Go.BinOp.mul t77 t80) ∧
          ((AV.inl 6 (AV.int 0)) ∧
          ((AV.isRef t47 6) ∧
          ((AV.refOk t47 6 0 [((AV.int 0), 1)]) ∧
          ((AV.binOk Go.BinOp.mul t48 t80) ∧
          ((AV.inl 6 (AV.int 1)) ∧
          ((AV.isRef t47 6) ∧
          ((AV.refOk t47 6 0 [((AV.int 1), 1)]) ∧
          ((AV.binOk Go.BinOp.add t98 t50) ∧
          ((AV.binOk Go.BinOp.mul t99 t80) ∧
          ((AV.inl 6 (AV.int 2)) ∧
          ((AV.isRef t47 6) ∧
          ((AV.refOk t47 6 0 [((AV.int 2), 1)]) ∧
          ((AV.binOk Go.BinOp.add t100 t53) ∧
          ((AV.binOk Go.BinOp.mul t101 t80) ∧
          ((AV.inl 6 (AV.int 3)) ∧
          ((AV.isRef t47 6) ∧
          ((AV.refOk t47 6 0 [((AV.int 3), 1)]) ∧
          ((AV.binOk Go.BinOp.add t102 t56) ∧
          ((AV.binOk Go.BinOp.mul t103 t80) ∧
          ((AV.inl 6 (AV.int 4)) ∧
          ((AV.isRef t47 6) ∧
          ((AV.refOk t47 6 0 [((AV.int 4), 1)]) ∧
          ((AV.binOk Go.BinOp.add t104 t59) ∧
          ((AV.binOk Go.BinOp.mul t105 t80) ∧
          ((AV.inl 6 (AV.int 5)) ∧
          ((AV.isRef t47 6) ∧
          ((AV.refOk t47 6 0 [((AV.int 5), 1)]) ∧
          ((AV.binOk Go.BinOp.add t106 t62) ∧
          ((AV.binOk Go.BinOp.mul t107 t108) ∧
          ((AV.binOk Go.BinOp.add t77 t109) ∧
          ((AV.unOk Go.UnOp.neg t110) ∧
          ((AV.flat t111) ∧
          (fSame t111 r))))))))))))))))))))))))))))))))))))))))))))))) ∧
    ((isF t76) →
      ((AV.binOk Go.BinOp.mul t77 t77) ∧
      ((AV.binOk Go.BinOp.eql t75 (AV.lit (Value.int Go.IntKind.u64 1))) ∧
      ((AV.isBool t112) ∧
      (((isT t112) →
        ((AV.isBool t112) ∧
        ((isT t112) ∧
        ((AV.binOk Go.BinOp.mul (AV.lit (Value.float Go.FloatKind.f64 4602678819172646912)) t80) ∧
        ((AV.binOk Go.BinOp.sub (AV.lit (Value.float Go.FloatKind.f64 4607182418800017408)) t81) ∧
        ((AV.binOk Go.BinOp.mul t80 t80) ∧
        ((AV.inl 6 (AV.int 0)) ∧
        ((AV.isRef t24 6) ∧
        ((AV.refOk t24 6 0 [((AV.int 0), 1)]) ∧
        ((AV.binOk Go.BinOp.mul t25 t80) ∧
        ((AV.inl 6 (AV.int 1)) ∧
        ((AV.isRef t24 6) ∧
        ((AV.refOk t24 6 0 [((AV.int 1), 1)]) ∧
        ((AV.binOk Go.BinOp.add t82 t27) ∧
        ((AV.binOk Go.BinOp.mul t83 t80) ∧
        ((AV.inl 6 (AV.int 2)) ∧
        ((AV.isRef t24 6) ∧
        ((AV.refOk t24 6 0 [((AV.int 2), 1)]) ∧
        ((AV.binOk Go.BinOp.add t84 t30) ∧
        ((AV.binOk Go.BinOp.mul t85 t80) ∧
        ((AV.inl 6 (AV.int 3)) ∧
        ((AV.isRef t24 6) ∧
        ((AV.refOk t24 6 0 [((AV.int 3), 1)]) ∧
        ((AV.binOk Go.BinOp.add t86 t33) ∧
        ((AV.binOk Go.BinOp.mul t87 t80) ∧
        ((AV.inl 6 (AV.int 4)) ∧
        ((AV.isRef t24 6) ∧
        ((AV.refOk t24 6 0 [((AV.int 4), 1)]) ∧
        ((AV.binOk Go.BinOp.add t88 t36) ∧
        ((AV.binOk Go.BinOp.mul t89 t80) ∧
        ((AV.inl 6 (AV.int 5)) ∧
        ((AV.isRef t24 6) ∧
        ((AV.refOk t24 6 0 [((AV.int 5), 1)]) ∧
        ((AV.binOk Go.BinOp.add t90 t39) ∧
        ((AV.binOk Go.BinOp.mul t91 t92) ∧
        ((AV.binOk Go.BinOp.add t93 t94) ∧
        ((AV.flat t95) ∧
        (fSame t95 r)))))))))))))))))))))))))))))))))))))) ∧
      ((isF t112) →
        ((AV.binOk Go.BinOp.eql t75 (AV.lit (Value.int Go.IntKind.u64 2))) ∧
        ((AV.isBool t112) ∧
        ((isF t112) ∧
        ((AV.isBool t113) ∧
        (((isT t113) →
          ((AV.binOk Go.BinOp.mul (AV.lit (Value.float Go.FloatKind.f64 4602678819172646912)) t80) ∧
          ((AV.binOk Go.BinOp.sub (AV.lit (Value.float Go.FloatKind.f64 4607182418800017408)) t81) ∧
          ((AV.binOk Go.BinOp.mul t80 t80) ∧
          ((AV.inl 6 (AV.int 0)) ∧
          ((AV.isRef t24 6) ∧
          ((AV.refOk t24 6 0 [((AV.int 0), 1)]) ∧
          ((AV.binOk Go.BinOp.mul t25 t80) ∧
          ((AV.inl 6 (AV.int 1)) ∧
          ((AV.isRef t24 6) ∧
          ((AV.refOk t24 6 0 [((AV.int 1), 1)]) ∧
          ((AV.binOk Go.BinOp.add t82 t27) ∧
          ((AV.binOk Go.BinOp.mul t83 t80) ∧
          ((AV.inl 6 (AV.int 2)) ∧
          ((AV.isRef t24 6) ∧
          ((AV.refOk t24 6 0 [((AV.int 2), 1)]) ∧
          ((AV.binOk Go.BinOp.add t84 t30) ∧
          ((AV.binOk Go.BinOp.mul t85 t80) ∧
          ((AV.inl 6 (AV.int 3)) ∧
          ((AV.isRef t24 6) ∧
          ((AV.refOk t24 6 0 [((AV.int 3), 1)]) ∧
          ((AV.binOk Go.BinOp.add t86 t33) ∧
          ((AV.binOk Go.BinOp.mul t87 t80) ∧
          ((AV.inl 6 (AV.int 4)) ∧
          ((AV.isRef t24 6) ∧
          ((AV.refOk t24 6 0 [((AV.int 4), 1)]) ∧
          ((AV.binOk Go.BinOp.add t88 t36) ∧
          ((AV.binOk Go.BinOp.mul t89 t80) ∧
          ((AV.inl 6 (AV.int 5)) ∧
          ((AV.isRef t24 6) ∧
          ((AV.refOk t24 6 0 [((AV.int 5), 1)]) ∧
          ((AV.binOk Go.BinOp.add t90 t39) ∧
          ((AV.binOk Go.BinOp.mul t91 t92) ∧
          ((AV.binOk Go.BinOp.add t93 t94) ∧
          ((AV.flat t95) ∧
          (fSame t95 r)))))))))))))))))))))))))))))))))))) ∧
        ((isF t113) →
          ((AV.binOk Go.BinOp.mul t77 t80) ∧
          ((AV.inl 6 (AV.int 0)) ∧
          ((AV.isRef t47 6) ∧
          ((AV.refOk t47 6 0 [((AV.int 0), 1)]) ∧
          ((AV.binOk Go.BinOp.mul t48 t80) ∧
          ((AV.inl 6 (AV.int 1)) ∧
          ((AV.isRef t47 6) ∧
          ((AV.refOk t47 6 0 [((AV.int 1), 1)]) ∧
          ((AV.binOk Go.BinOp.add t98 t50) ∧
          ((AV.binOk Go.BinOp.mul t99 t80) ∧
          ((AV.inl 6 (AV.int 2)) ∧
          ((AV.isRef t47 6) ∧
          ((AV.refOk t47 6 0 [((AV.int 2), 1)]) ∧
          ((AV.binOk Go.BinOp.add t100 t53) ∧
          ((AV.binOk Go.BinOp.mul t101 t80) ∧
          ((AV.inl 6 (AV.int 3)) ∧
          ((AV.isRef t47 6) ∧
          ((AV.refOk t47 6 0 [((AV.int 3), 1)]) ∧
          ((AV.binOk Go.BinOp.add t102 t56) ∧
          ((AV.binOk Go.BinOp.mul t103 t80) ∧
          ((AV.inl 6 (AV.int 4)) ∧
          ((AV.isRef t47 6) ∧
          ((AV.refOk t47 6 0 [((AV.int 4), 1)]) ∧
          ((AV.binOk Go.BinOp.add t104 t59) ∧
          ((AV.binOk Go.BinOp.mul t105 t80) ∧
          ((AV.inl 6 (AV.int 5)) ∧
          ((AV.isRef t47 6) ∧
          ((AV.refOk t47 6 0 [((AV.int 5), 1)]) ∧
          ((AV.binOk Go.BinOp.add t106 t62) ∧
          ((AV.binOk Go.BinOp.mul t107 t108) ∧
          ((AV.binOk Go.BinOp.add t77 t109) ∧
          ((AV.flat t110) ∧
          (fSame t110 r))))))))))))))))))))))))))))))))))))))))))))))))))))))))))))))))))))))))))))))))))))))))))))) := by
  subst et113 et112 et111 et110 et109 et108 et107 et106 et105 et104 et103 et102 et101 et100 et99 et98 et97 et96 et95 et94 et93 et92 et91 et90 et89 et88 et87 et86 et85 et84 et83 et82 et81 et80 et79 et78 et77 et76 et75 et74 et73 et72 et71 et70 et69 et68 et67 et66 et65 et64 et63 et62 et61 et60 et59 et58 et57 et56 et55 et54 et53 et52 et51 et50 et49 et48 et47 et46 et45 et44 et43 et42 et41 et40 et39 et38 et37 et36 et35 et34 et33 et32 et31 et30 et29 et28 et27 et26 et25 et24 et23 et22 et21 et20 et19 et18 et17 et16 et15 et14 et13 et12 et11 et10 et9 et8 et7 et6 et5 et4 et3 et2 et1
  kernel_rfl
theorem sin_form (x0 r : AV) : fnF Tryz.prog Γ ann 3 53 Tryz.f53 (Tryz.f53.body.getD .skip) (.nil) [x0] (.sc) r = ((∃ r129 : AV, ((Fn Tryz.prog 24 [x0] Sh.sc r129) ∧
((AV.isInt r129) ∧
((AV.binOk Go.BinOp.mul (AV.i2f Go.FloatKind.f64 r129) (AV.lit (Value.float Go.FloatKind.f64 4614256656552045848))) ∧
((AV.binOk Go.BinOp.quo (AV.bin Go.BinOp.mul (AV.i2f Go.FloatKind.f64 r129) (AV.lit (Value.float Go.FloatKind.f64 4614256656552045848))) (AV.lit (Value.float Go.FloatKind.f64 4656722014701092864))) ∧
((fEnt Tryz.prog 74) ∧
(fAllV fun _ => (∃ r577 : AV, ((Fn Tryz.prog 89 [(AV.bin Go.BinOp.quo (AV.bin Go.BinOp.mul (AV.i2f Go.FloatKind.f64 r129) (AV.lit (Value.float Go.FloatKind.f64 4614256656552045848))) (AV.lit (Value.float Go.FloatKind.f64 4656722014701092864)))] Sh.sc r577) ∧
((AV.binOk Go.BinOp.mul (AV.lit (Value.float Go.FloatKind.f64 4670232813583204352)) r577) ∧
(∃ r833 : AV, ((Fn Tryz.prog 73 [(AV.bin Go.BinOp.mul (AV.lit (Value.float Go.FloatKind.f64 4670232813583204352)) r577)] Sh.sc r833) ∧
((AV.f2iOk Go.FloatKind.f64 Go.IntKind.i64 r833) ∧
((AV.flat (AV.f2i Go.FloatKind.f64 Go.IntKind.i64 r833)) ∧
(fSame (AV.f2i Go.FloatKind.f64 Go.IntKind.i64 r833) r)))))))))))))))) := by kernel_rfl
theorem cos_form (x0 r : AV) : fnF Tryz.prog Γ ann 3 54 Tryz.f54 (Tryz.f54.body.getD .skip) (.nil) [x0] (.sc) r = ((∃ r129 : AV, ((Fn Tryz.prog 24 [x0] Sh.sc r129) ∧
((AV.binOk Go.BinOp.add r129 (AV.int 1024)) ∧
(∃ r257 : AV, ((Fn Tryz.prog 53 [(AV.bin Go.BinOp.add r129 (AV.int 1024))] Sh.sc r257) ∧
((AV.flat r257) ∧
(fSame r257 r)))))))) := by kernel_rfl
theorem near_form (x0 x1 r : AV) : fnF Tryz.prog Γ ann 3 107 Tryz.f107 (Tryz.f107.body.getD .skip) (.nil) [x0, x1] (.sc) r = (((AV.binOk Go.BinOp.lss x0 (AV.int 0)) ∧
((AV.isBool (AV.bin Go.BinOp.lss x0 (AV.int 0))) ∧
(((isT (AV.bin Go.BinOp.lss x0 (AV.int 0))) →
  ((AV.unOk Go.UnOp.neg x0) ∧
  (∃ r385 : AV, ((Fn Tryz.prog 107 [(AV.un Go.UnOp.neg x0), x1] Sh.sc r385) ∧
  ((AV.unOk Go.UnOp.neg r385) ∧
  ((AV.flat (AV.un Go.UnOp.neg r385)) ∧
  (fSame (AV.un Go.UnOp.neg r385) r))))))) ∧
((isF (AV.bin Go.BinOp.lss x0 (AV.int 0))) →
  ((AV.binOk Go.BinOp.quo x1 (AV.int 2)) ∧
  ((AV.binOk Go.BinOp.add x0 (AV.bin Go.BinOp.quo x1 (AV.int 2))) ∧
  ((AV.binOk Go.BinOp.quo (AV.bin Go.BinOp.add x0 (AV.bin Go.BinOp.quo x1 (AV.int 2))) x1) ∧
  ((AV.flat (AV.bin Go.BinOp.quo (AV.bin Go.BinOp.add x0 (AV.bin Go.BinOp.quo x1 (AV.int 2))) x1)) ∧
  (fSame (AV.bin Go.BinOp.quo (AV.bin Go.BinOp.add x0 (AV.bin Go.BinOp.quo x1 (AV.int 2))) x1) r)))))))))) := by kernel_rfl
end AngF
end Go.Proofs.YtacfofpbbempaaaGreatDoor
/- angles: the functions of math. -/
namespace Go.Proofs.YtacfofpbbempaaaGreatDoor
open Go.RowKit
set_option linter.unusedVariables false
set_option linter.unusedSimpArgs false
set_option maxRecDepth 100000
abbrev fl (b : Nat) : AV := .lit (.float .f64 b)
abbrev u64 (n : Int) : AV := .lit (.int .u64 n)
theorem bits_fn (b : Nat) : FnE Tryz.prog 85 [fl b] (u64 (b : Nat)) :=
  fnE_of Tryz.func85 (e := Extern.MathFloatBits.float64bits) (by kernel_rfl) (by kernel_rfl) (by kernel_rfl) (by kernel_rfl) fun w => rfl
theorem frombits_fn (n : Int) : FnE Tryz.prog 84 [u64 n] (fl n.toNat) :=
  fnE_of Tryz.func84 (e := Extern.MathFloatBits.float64frombits) (by kernel_rfl) (by kernel_rfl) (by kernel_rfl) (by kernel_rfl) fun w => rfl
theorem norm_fn (h : Int) (h1 : -9223372036854775808 ≤ h) (h2 : h ≤ 9223372036854775807) : Fn Tryz.prog 24 [.int h] .sc (.int (h % 4096)) := by
  refine fn_run mixed 3 (Γ := AngF.Γ) (ann := AngF.ann) Tryz.func24 rfl Tryz.call24 ((AngF.norm_form _ _).mpr ?_)
  have e1 : h.tmod 4096 = if 0 ≤ h then h % 4096 else - (-h % 4096) := by
    split
    · rw [Int.tmod_eq_emod_of_nonneg (by omega)]
    · have : h = -(-h) := by omega
      rw [this, Int.neg_tmod, Int.tmod_eq_emod_of_nonneg (by omega)]; omega
  have e2 : (h.tmod 4096 + 4096).tmod 4096 = h % 4096 := by
    rw [e1, Int.tmod_eq_emod_of_nonneg (by split <;> omega)]; split <;> omega
  have e3 : IntKind.i64.wrap (h.tmod 4096 + 4096) = h.tmod 4096 + 4096 := wrap64 (by rw [e1]; split <;> omega) (by rw [e1]; split <;> omega)
  simp [e3, e2]
theorem round_fn (b : Nat) : Fn Tryz.prog 73 [fl b] .sc (fl (Flo.rndV b).toNat) := by
  refine fn_run mixed 3 (Γ := AngF.Γ) (ann := AngF.ann) Tryz.func73 rfl Tryz.call73 ((AngF.round_form _ _).mpr ?_)
  refine ⟨_, bits_fn b, ?_⟩
  have hE : AV.bin .and (AV.shf .shr (u64 (b : Nat)) (u64 52)) (u64 2047) = u64 (Flo.rE b) := rfl
  rw [hE]
  generalize hR : Flo.rndV b = R
  unfold Flo.rndV at hR
  generalize Flo.rE b = e at *
  have g1 : e < 1023 → e = 1022 → R = intB .or .u64 (intB .and .u64 b 9223372036854775808) 4607182418800017408 := fun h1 h2 => by rw [if_pos h1, if_pos h2] at hR; exact hR.symm
  have g2 : e < 1023 → e ≠ 1022 → R = intB .and .u64 b 9223372036854775808 := fun h1 h2 => by rw [if_pos h1, if_neg h2] at hR; exact hR.symm
  have g3 : ¬ e < 1023 → e < 1075 → R = Flo.intN .andNot .u64 (IntKind.u64.wrap (b + Int.fdiv 2251799813685248 (2 ^ (min (IntKind.u64.wrap (e - 1023)).toNat 64)))) (Int.fdiv 4503599627370495 (2 ^ (min (IntKind.u64.wrap (e - 1023)).toNat 64))) := fun h1 h2 => by rw [if_neg h1, if_pos h2] at hR; exact hR.symm
  have g4 : ¬ e < 1023 → ¬ e < 1075 → R = b := fun h1 h2 => by rw [if_neg h1, if_neg h2] at hR; exact hR.symm
  clear hR
  have hw : 0 ≤ IntKind.u64.wrap (e - 1023) := by simp [IntKind.wrap, IntKind.bits, IntKind.signed]; omega
  refine ⟨⟨⟨_, _, rfl⟩, ⟨_, _, rfl⟩, by show (0 : Int) ≤ 52; decide⟩, ⟨rfl, trivial⟩, ⟨rfl, trivial⟩, by simp, fun h1 => ⟨⟨rfl, trivial⟩, ⟨rfl, trivial⟩, by simp, fun h2 => ?_, fun h2 => ?_⟩, fun h1 => ⟨⟨rfl, trivial⟩, by simp, fun h2 => ?_, fun h2 => ?_⟩⟩
  · refine ⟨⟨rfl, trivial⟩, _, frombits_fn _, by simp, ?_⟩
    rw [g1 (by simpa using h1) (by simpa using h2)]; rfl
  · refine ⟨_, frombits_fn _, by simp, ?_⟩
    rw [g2 (by simpa using h1) (by simpa using h2)]; rfl
  · refine ⟨⟨rfl, trivial⟩, ⟨⟨_, _, rfl⟩, ⟨_, _, rfl⟩, hw⟩, ⟨rfl, trivial⟩, ⟨⟨_, _, rfl⟩, ⟨_, _, rfl⟩, hw⟩, ⟨rfl, trivial⟩, _, frombits_fn _, by simp, ?_⟩
    rw [g3 (by simpa using h1) (by simpa using h2)]; rfl
  · refine ⟨_, frombits_fn _, by simp, ?_⟩
    rw [g4 (by simpa using h1) (by simpa using h2)]; rfl
end Go.Proofs.YtacfofpbbempaaaGreatDoor
