/- Texts of one proof, part 4: plain values, a run over them, contracts of functions. -/
import Derived.Test.YtfemeeffoapemaaGreatDoorM3
import Derived.Test.YtfemeeffoapemaaGreatDoorM1
import Derived.Lib.SmallJoins
import Derived.Deep.Slices
import Derived.Deep.Fields
import Derived.ChangeSame
import Derived.SizedLaws
import Derived.LaidMore
import Derived.OpenShut
import Derived.MakeChecks
import Derived.Shelf.RegionOpenPlain
import Derived.WalkKit
import Derived.Deep.RegionLaw
import Derived.Deep.Upon
import Derived.Lib.Walk
import Derived.Lib.SliceRun
import Derived.Lib.JoinLaws
import Derived.Lib.AppendZerosOnto
import Derived.Laws.Externs
import Derived.Laws.IdiomCopy
import Derived.Laws.NewBlocks
/- Calls that hand out values to visitors: the run's word for them is sound. -/
namespace Go.Proofs.YtfemeeffoapemaaGreatDoor
open Go.RowKit
set_option linter.unusedVariables false
set_option linter.unusedSimpArgs false
theorem updB_one (blk : Nat → DB) (b : Nat) (d : DB) : updB blk [(b, d)] b = d := by simp [updB]
theorem updB_ne (blk : Nat → DB) (b : Nat) (d : DB) {c : Nat} (h : c ≠ b) : updB blk [(b, d)] c = blk c := updB_of_not (by simp [h])
section
variable {base : Nat} {w0 : World} {ok0 : Nat → Prop} {ρ : Nat → Value} {a : Act} {w : World}
/-- A block that keeps something beside. -/
theorem sv_add {σ : DS} {ds : List DE} {vs : Array Value} (h : HS base w0 ok0 σ ρ a w) (hsz : vs.size = ds.length) (hrd : ∀ t, RD w (okF base ok0 σ.blk ρ) ρ σ.blk (fun n => n < σ.clk) (ds.getD t .any) (vs.getD t undef)) :
    HS base w0 ok0 ⟨σ.tm, (σ.clk, .sv ds vs) :: σ.bl, σ.clk + 64, σ.orc⟩ ρ a w := by
  have hdead : σ.blk σ.clk = .dead := h.frs σ.clk (fun q => Nat.lt_irrefl _ q)
  have hund : ρ σ.clk = undef := by have := h.blks σ.clk; rw [hdead] at this; exact this
  have hb1 : (DS.mk σ.tm ((σ.clk, .sv ds vs) :: σ.bl) (σ.clk + 64) σ.orc).blk = updB σ.blk [(σ.clk, .sv ds vs)] := blk_app σ [(σ.clk, .sv ds vs)] _ _ _
  show HR base w0 ok0 (fun n => n < σ.clk + 64) σ.tm (DS.mk σ.tm ((σ.clk, .sv ds vs) :: σ.bl) (σ.clk + 64) σ.orc).blk ρ a w
  rw [hb1]
  refine HR.step h (fun b => b = σ.clk) (fun b hc => updB_ne _ _ _ hc) (fun b _ => rfl) (fun b t cs _ _ => rfl) (fun b n x hc e => by rw [hc, hdead] at e; cases e)
    (fun n hn => by have : n < σ.clk := hn; show n < σ.clk + 64; omega) (fun b hc => by show b < σ.clk + 64; rw [hc]; omega) (fun b n hc _ hst => by rw [hc, updB_one] at hst; cases hst) (Nat.le_refl _) (fun _ _ _ => rfl)
    (fun b hc hl => by rw [hc, updB_one] at hl; cases hl) (fun b b' hc _ hl => by rw [hc, updB_one] at hl; cases hl) rfl rfl rfl (fun H1 H5 b hc => ?_) (fun H1 t => .inl ⟨rfl, rfl⟩) h.size rfl
  rw [hc, updB_one]
  exact ⟨hund, hsz, fun t => H5 _ _ (hrd t)⟩
/-- It keeps something else. -/
theorem sv_swap {σ1 σ2 : DS} {b0 : Nat} (htm : σ2.tm = σ1.tm) (hclk : σ2.clk = σ1.clk) (hne : ∀ b, b ≠ b0 → σ2.blk b = σ1.blk b) {ds1 ds2 : List DE} {vs1 vs2 : Array Value} (h1 : σ1.blk b0 = .sv ds1 vs1) (h2 : σ2.blk b0 = .sv ds2 vs2) (hsz : vs2.size = ds2.length)
    (h : HS base w0 ok0 σ1 ρ a w) (hrd : ∀ t, RD w (okF base ok0 σ1.blk ρ) ρ σ1.blk (fun n => n < σ1.clk) (ds2.getD t .any) (vs2.getD t undef)) : HS base w0 ok0 σ2 ρ a w := by
  show HR base w0 ok0 (fun n => n < σ2.clk) σ2.tm σ2.blk ρ a w
  rw [htm, hclk]
  refine HR.step h (fun b => b = b0) (fun b hc => hne b hc) (fun b _ => rfl) (fun b t cs _ _ => rfl) (fun b n x hc e => by rw [hc, h1] at e; cases e)
    (fun n hn => hn) (fun b hc => Classical.byContradiction fun q => by have := h.frs b q; rw [hc, h1] at this; cases this) (fun b n hc _ hst => by rw [hc, h2] at hst; cases hst) (Nat.le_refl _) (fun _ _ _ => rfl)
    (fun b hc hl => by rw [hc, h2] at hl; cases hl) (fun b b' hc _ hl => by rw [hc, h2] at hl; cases hl) rfl rfl rfl (fun H1 H5 b hc => ?_) (fun H1 t => .inl ⟨rfl, rfl⟩) h.size rfl
  have hB := h.blks b0
  rw [h1] at hB
  rw [hc, h2]
  exact ⟨hB.1, hsz, fun t => H5 _ _ (hrd t)⟩
theorem sv_kill {σ : DS} {b0 : Nat} {ds : List DE} {vs : Array Value} (h1 : σ.blk b0 = .sv ds vs) (h : HS base w0 ok0 σ ρ a w) : HS base w0 ok0 ⟨σ.tm, (b0, .dead) :: σ.bl, σ.clk, σ.orc⟩ ρ a w := by
  have hb1 : (DS.mk σ.tm ((b0, .dead) :: σ.bl) σ.clk σ.orc).blk = updB σ.blk [(b0, .dead)] := blk_app σ [(b0, .dead)] _ _ _
  show HR base w0 ok0 (fun n => n < σ.clk) σ.tm (DS.mk σ.tm ((b0, .dead) :: σ.bl) σ.clk σ.orc).blk ρ a w
  rw [hb1]
  refine HR.step h (fun b => b = b0) (fun b hc => updB_ne _ _ _ hc) (fun b _ => rfl) (fun b t cs _ _ => rfl) (fun b n x hc e => by rw [hc, h1] at e; cases e)
    (fun n hn => hn) (fun b hc => Classical.byContradiction fun q => by have := h.frs b q; rw [hc, h1] at this; cases this) (fun b n hc _ hst => by rw [hc, updB_one] at hst; cases hst) (Nat.le_refl _) (fun _ _ _ => rfl)
    (fun b hc hl => by rw [hc, updB_one] at hl; cases hl) (fun b b' hc _ hl => by rw [hc, updB_one] at hl; cases hl) rfl rfl rfl (fun H1 H5 b hc => ?_) (fun H1 t => .inl ⟨rfl, rfl⟩) h.size rfl
  have hB := h.blks b0
  rw [h1] at hB
  rw [hc, updB_one]
  exact hB.1
theorem rowify_sv {b : Nat} {ds : List DE} {vs : Array Value} : ∀ (l : List (Nat × Nat × TypeId × Nat)) {σ : DS} {ρ : Nat → Value}, HS base w0 ok0 σ ρ a w → σ.blk b = .sv ds vs → (rowify l σ).blk b = .sv ds vs
  | [], _, _, _, hb => hb
  | q :: l, σ, ρ, h, hb => by
    obtain ⟨ρ1, h1⟩ := rowify1_ok q h
    refine rowify_sv l h1 ?_
    unfold rowify1
    split
    · rename_i t cs hq
      split
      · have hdead : σ.blk σ.clk = .dead := h.frs σ.clk (fun q => Nat.lt_irrefl _ q)
        have e1 : b ≠ q.1 := fun e => by rw [e, hq] at hb; cases hb
        have e2 : b ≠ σ.clk := fun e => by rw [e, hdead] at hb; cases hb
        have : ∀ (l : List (Nat × DB)) (c : Nat) (o : Orc), (DS.mk σ.tm ((q.1, .cells t (cs.set q.2.1 (.row σ.clk σ.clk))) :: (σ.clk, .row q.2.2.1 q.2.2.2 σ.clk (AV.mk q.2.2.2 [])) :: σ.bl) c o).blk b = σ.blk b := fun _ c o => by
          have := blk_app σ [(q.1, .cells t (cs.set q.2.1 (.row σ.clk σ.clk))), (σ.clk, .row q.2.2.1 q.2.2.2 σ.clk (AV.mk q.2.2.2 []))] σ.tm c o
          have e3 := congrFun this b
          rw [updB_cons, updB_cons, if_neg e1, if_neg e2] at e3
          exact e3
        exact (this [] _ _).trans hb
      · exact hb
    · exact hb
/-- A cell's row is frozen. -/
theorem frzCell1_ok (q : Nat × Nat) {σ : DS} (h : HS base w0 ok0 σ ρ a w) : HS base w0 ok0 (frzCell1 σ q) ρ a w := by
  have key : ∀ (σ : DS) (t : TypeId) (cs : List DE) (b n : Nat) (x : AV), HS base w0 ok0 σ ρ a w → σ.blk q.1 = .cells t cs → cs.getD q.2 .any = .row b n → σ.blk b = .fz n x → HS base w0 ok0 { σ with bl := (q.1, .cells t (cs.set q.2 (.v x))) :: σ.bl } ρ a w := fun σ t cs b n x h hb hc hf => by
    have ho : q.2 < cs.length := Classical.byContradiction fun g => by
      rw [List.getD_eq_getElem?_getD, List.getElem?_eq_none (by omega)] at hc
      cases hc
    have hb1 : (DS.mk σ.tm ((q.1, .cells t (cs.set q.2 (.v x))) :: σ.bl) σ.clk σ.orc).blk = updB σ.blk [(q.1, .cells t (cs.set q.2 (.v x)))] := blk_app σ [(q.1, .cells t (cs.set q.2 (.v x)))] _ _ _
    show HR base w0 ok0 (fun n => n < σ.clk) σ.tm (DS.mk σ.tm ((q.1, .cells t (cs.set q.2 (.v x))) :: σ.bl) σ.clk σ.orc).blk ρ a w
    rw [hb1]
    refine HR.step h (fun b => b = q.1) (fun b hc => updB_ne _ _ _ hc) (fun b _ => rfl) (fun b t cs _ _ => rfl) (fun b n x hc e => by rw [hc, hb] at e; cases e)
      (fun n hn => hn) (fun c hc => Classical.byContradiction fun q => by have := h.frs c q; rw [hc, hb] at this; cases this) (fun b n hc _ hst => by rw [hc, updB_one] at hst; cases hst) (Nat.le_refl _) (fun _ _ _ => rfl)
      (fun c hc hl g hg => .inl ⟨by rw [hc, hb]; rfl, hg⟩) (fun c c' hc hc' _ _ hne => absurd (hc.trans hc'.symm) hne) rfl rfl rfl (fun H1 H5 c hc' => ?_) (fun H1 t => .inl ⟨rfl, rfl⟩) h.size rfl
    have hB := h.blks q.1
    rw [hb] at hB
    obtain ⟨g, vs, e1, e2, e3, e4, e5, e6⟩ := hB
    rw [hc', updB_one]
    refine ⟨g, vs, e1, e2, e3, by rw [List.length_set]; exact e4, fun i hi => e5 i (by rw [List.length_set] at hi; exact hi), fun i hi => ?_⟩
    have hi' : i < cs.length := by rw [List.length_set] at hi; exact hi
    by_cases hio : i = q.2
    · subst hio
      have hv := e6 _ hi'
      rw [hc] at hv
      have e7 : (cs.set q.2 (.v x)).getD q.2 .any = .v x := by
        rw [List.getD_eq_getElem?_getD, List.getElem?_set_self ho]; rfl
      rw [e7]
      refine H5 _ _ ?_
      have hF := h.blks b
      rw [hf] at hF
      generalize vs.getD q.2 undef = u at hv
      cases hv with
      | row _ _ _ hn h1 hs =>
        rw [hs (by rw [hf]; rfl)]
        exact .v _ _ hF.2.1
    · have e7 : (cs.set q.2 (.v x)).getD i .any = cs.getD i .any := by
        rw [List.getD_eq_getElem?_getD, List.getElem?_set_ne (Ne.symm hio), List.getD_eq_getElem?_getD]
      rw [e7]
      exact H5 _ _ (e6 i hi')
  unfold frzCell1
  split
  · rename_i t cs hb
    split
    · rename_i b n hc
      split
      · rename_i e s m x hr
        split
        · rename_i hmn
          obtain ⟨rfl, hne⟩ := hmn
          have hf := HR.freeze (fview_ok σ) h [b]
          have e1 : σ.fview.frz [b] = [(b, .fz m x)] := by
            have hb' : σ.fview.bl b = .row e s m x := hr
            simp [View.frz, hb']
          rw [e1] at hf
          have hbk : (DS.mk σ.tm ((b, .fz m x) :: σ.bl) σ.clk σ.orc).blk = updB σ.blk [(b, .fz m x)] := blk_app σ [(b, .fz m x)] _ _ _
          have h1 : HS base w0 ok0 (DS.mk σ.tm ((b, .fz m x) :: σ.bl) σ.clk σ.orc) ρ a w := by
            show HR base w0 ok0 (fun n => n < σ.clk) σ.tm (DS.mk σ.tm ((b, .fz m x) :: σ.bl) σ.clk σ.orc).blk ρ a w
            rw [hbk]; exact hf
          exact key _ t cs b m x h1 (by rw [hbk, updB_ne _ _ _ (Ne.symm hne)]; exact hb) hc (by rw [hbk, updB_one])
        · exact h
      · rename_i m x hr
        split
        · rename_i hmn
          subst hmn
          exact key σ t cs b m x h hb hc hr
        · exact h
      · exact h
    · exact h
  · exact h
theorem frzCells_ok : ∀ (l : List (Nat × Nat)) {σ : DS}, HS base w0 ok0 σ ρ a w → HS base w0 ok0 (frzCells l σ) ρ a w
  | [], _, h => h
  | q :: l, _, h => frzCells_ok l (frzCell1_ok q h)
theorem frzCell1_fr (σ : DS) (q : Nat × Nat) : FrB σ (frzCell1 σ q) ∧ (frzCell1 σ q).tm = σ.tm := by
  unfold frzCell1
  split
  · split
    · split
      · split
        · exact ⟨⟨⟨[_, _], rfl⟩, rfl, Nat.le_refl _⟩, rfl⟩
        · exact ⟨FrB.refl σ, rfl⟩
      · split
        · exact ⟨⟨⟨[_], rfl⟩, rfl, Nat.le_refl _⟩, rfl⟩
        · exact ⟨FrB.refl σ, rfl⟩
      · exact ⟨FrB.refl σ, rfl⟩
    · exact ⟨FrB.refl σ, rfl⟩
  · exact ⟨FrB.refl σ, rfl⟩
theorem frzCells_fr : ∀ (l : List (Nat × Nat)) (σ : DS), FrB σ (frzCells l σ) ∧ (frzCells l σ).tm = σ.tm
  | [], σ => ⟨FrB.refl σ, rfl⟩
  | q :: l, σ => by
    obtain ⟨h1, h2⟩ := frzCell1_fr σ q
    obtain ⟨h3, h4⟩ := frzCells_fr l (frzCell1 σ q)
    exact ⟨h1.trans h3, h4.trans h2⟩
theorem vis_tm (E : LoopEx) (σ : DS) (ys : List AV) : ((visAnn E).head σ ys).tm = σ.tm := by
  apply List.ext_getElem?
  intro t
  simp only [LoopAnn.head, List.getElem?_map, List.getElem?_zipIdx]
  cases h : σ.tm[t]? with
  | none => rfl
  | some d => simp [LoopAnn.tm, visAnn]
theorem vis_blk (E : LoopEx) (σr : DS) (Y : AV) (vs : Array Value) (ys : List AV) : ((visAnn E).head (visY σr Y vs) ys).blk σr.clk = .sv [.v Y] vs ∧
    ∀ b, b ≠ σr.clk → ((visAnn E).head (visY σr Y vs) ys).blk b = if b ∈ (visAnn E).touched then (visAnn E).blkOf ys b (σr.blk b) else σr.blk b := by
  have e : (visY σr Y vs).blk = updB σr.blk [(σr.clk, .sv [.v Y] vs)] := blk_app σr [(σr.clk, .sv [.v Y] vs)] _ _ _
  refine ⟨?_, fun b hb => ?_⟩
  · rw [head_blk, e, updB_one]
    split <;> rfl
  · rw [head_blk, e, updB_ne _ _ _ hb]
theorem okF_eq {blk blk' : Nat → DB} {b0 : Nat} (hne : ∀ b, b ≠ b0 → blk' b = blk b) (h1 : isLive (blk b0) = false) (h2 : isLive (blk' b0) = false) {g : Nat} (h : okF base ok0 blk ρ g) : okF base ok0 blk' ρ g :=
  ⟨h.1, fun b hl => by
    by_cases hb : b = b0
    · rw [hb, h2] at hl; cases hl
    · rw [hne b hb] at hl; exact h.2 b hl⟩
end
section
variable {P : Program} {inl : Inl}
theorem visEnts_iff : ∀ (l : List DE) (F : Prop), visEnts P l F ↔ (∀ vf caps, DE.fn vf caps ∈ l → Ent P vf) ∧ F
  | [], F => ⟨fun h => ⟨fun _ _ q => (by cases q), h⟩, fun h => h.2⟩
  | d :: l, F => by
    have ih := visEnts_iff l F
    cases d with
    | fn vf caps =>
      refine ⟨fun h => ⟨fun vf' caps' q => ?_, (ih.1 h.2).2⟩, fun h => ⟨h.1 vf caps (List.mem_cons_self ..), ih.2 ⟨fun vf' caps' q => h.1 vf' caps' (List.mem_cons_of_mem _ q), h.2⟩⟩⟩
      rcases List.mem_cons.1 q with e | q
      · injection e with e _; rw [e]; exact h.1
      · exact (ih.1 h.2).1 vf' caps' q
    | _ =>
      refine ⟨fun h => ⟨fun vf' caps' q => ?_, (ih.1 h).2⟩, fun h => ih.2 ⟨fun vf' caps' q => h.1 vf' caps' (List.mem_cons_of_mem _ q), h.2⟩⟩
      rcases List.mem_cons.1 q with e | q
      · cases e
      · exact (ih.1 h).1 vf' caps' q
theorem vis_frB (E : LoopEx) (args : List DE) (us : Array Value) (σ : DS) (Y : AV) (vs : Array Value) (ys : List AV) : FrB σ ((visAnn E).head (visY (rowify E.nils ⟨σ.tm, (σ.clk, .sv args us) :: σ.bl, σ.clk + 64, σ.orc⟩) Y vs) ys) := by
  have h1 : FrB σ ⟨σ.tm, (σ.clk, .sv args us) :: σ.bl, σ.clk + 64, σ.orc⟩ := ⟨⟨[_], rfl⟩, rfl, Nat.le_add_right _ _⟩
  have h2 := (rowify_fr E.nils ⟨σ.tm, (σ.clk, .sv args us) :: σ.bl, σ.clk + 64, σ.orc⟩).1
  generalize rowify E.nils ⟨σ.tm, (σ.clk, .sv args us) :: σ.bl, σ.clk + 64, σ.orc⟩ = σr at *
  have h3 : FrB σr (visY σr Y vs) := ⟨⟨[_], rfl⟩, rfl, Nat.le_add_right _ _⟩
  exact ((h1.trans h2).trans h3).trans (head_frB _ _ _)
theorem visF_fr (E : LoopEx) (rs : List Nat) (f : FuncId) (args : List DE) (σ : DS) (K K' : DE → DS → Prop) (h : visF P E inl rs f args σ K) (hK : ∀ d σ', K d σ' → FrB σ σ' → σ'.tm = σ.tm → K' d σ') : visF P E inl rs f args σ K' := by
  intro us
  have h := h us
  have hfb := fun ys => vis_frB E args us σ (.lit undef) #[undef] ys
  simp only at h ⊢
  generalize rowify E.nils ⟨σ.tm, (σ.clk, .sv args us) :: σ.bl, σ.clk + 64, σ.orc⟩ = σr at *
  split at h
  · rename_i ys0 hys
    split at h
    · rename_i xs hxs
      split at h
      · rename_i hck
        obtain ⟨hen, evs, hvi, Inv, h0, hb, hk⟩ := (visEnts_iff _ _).1 h
        simp only [hxs, hck, if_true]
        refine (visEnts_iff _ _).2 ⟨hen, evs, hvi, Inv, h0, hb, fun ys e1 e2 => hK _ _ (hk ys e1 e2) ?_ rfl⟩
        obtain ⟨⟨pre, h1⟩, h2, h3⟩ := hfb ys
        exact ⟨⟨(σ.clk, .dead) :: (σr.clk, .dead) :: pre, by simp [h1]⟩, rfl, h3⟩
      · exact h.elim
    · exact h.elim
  · exact h.elim
variable {base : Nat} {w0 : World} {ok0 : Nat → Prop} {ρ : Nat → Value} {a : Act} {w : World}
theorem visF_ok (hinl : InlOk P inl) (hfr : InlFr inl) (E : LoopEx) (rs : List Nat) (f : FuncId) (args : List DE) (σ : DS) (K : DE → DS → Prop) (cargs : Array Value) (hent : Ent P f) (h : visF P E inl rs f args σ K) (hs : HS base w0 ok0 σ ρ a w) (hsz : cargs.size = args.length)
    (hargs : ∀ i, i < args.length → RD w (okF base ok0 σ.blk ρ) ρ σ.blk (fun n => n < σ.clk) (args.getD i .any) (cargs.getD i undef)) :
    Calls P f cargs w fun e w' => ∃ v, e = .returned v ∧ ∃ d σ' ρ', K d σ' ∧ HS base w0 ok0 σ' ρ' a w' ∧ RD w' (okF base ok0 σ'.blk ρ') ρ' σ'.blk (fun n => n < σ'.clk) d v := by
  have h := h cargs
  have hfb := fun ys => vis_frB E args cargs σ (.lit undef) #[undef] ys
  simp only at h
  have hsa := sv_add (ds := args) (vs := cargs) hs hsz (fun t => by
    by_cases ht : t < args.length
    · exact hargs t ht
    · rw [List.getD_eq_getElem?_getD, List.getElem?_eq_none (by omega)]
      exact .any _)
  have hba : (DS.mk σ.tm ((σ.clk, .sv args cargs) :: σ.bl) (σ.clk + 64) σ.orc).blk σ.clk = .sv args cargs := (congrFun (blk_app σ [(σ.clk, .sv args cargs)] σ.tm (σ.clk + 64) σ.orc) σ.clk).trans (updB_one _ _ _)
  obtain ⟨ρ1, hr⟩ := rowify_ok E.nils hsa
  have hsv := rowify_sv E.nils hsa hba
  obtain ⟨⟨_, _, hclk⟩, htr⟩ := rowify_fr E.nils ⟨σ.tm, (σ.clk, .sv args cargs) :: σ.bl, σ.clk + 64, σ.orc⟩
  have hclk : σ.clk + 64 ≤ (rowify E.nils ⟨σ.tm, (σ.clk, .sv args cargs) :: σ.bl, σ.clk + 64, σ.orc⟩).clk := hclk
  have htr : (rowify E.nils ⟨σ.tm, (σ.clk, .sv args cargs) :: σ.bl, σ.clk + 64, σ.orc⟩).tm = σ.tm := htr
  clear hba
  generalize rowify E.nils ⟨σ.tm, (σ.clk, .sv args cargs) :: σ.bl, σ.clk + 64, σ.orc⟩ = σr at *
  have rdY : ∀ {okf : Nat → Prop} {ρ : Nat → Value} {blk : Nat → DB} {isd : Nat → Prop} {w : World} (Y : AV) (u : Value), RV w okf Y u → ∀ t, RD w okf ρ blk isd (([DE.v Y] : List DE).getD t .any) ((#[u] : Array Value).getD t undef) := fun Y u hv t => by
    cases t with
    | zero => exact .v _ _ hv
    | succ t => exact .any _
  split at h
  · rename_i ys0 hys
    split at h
    · rename_i xs hxs
      split at h
      · rename_i hck
        simp only [Bool.and_eq_true, decide_eq_true_eq] at hck
        obtain ⟨⟨hck, hkl⟩, hfnall⟩ := hck
        obtain ⟨hen, evs, hvi, Inv, hI0, hIb, hIe⟩ := (visEnts_iff _ _).1 h
        obtain ⟨ρ2, h2⟩ := head_again hck (FrB.refl _) (FrT.refl _ _) hys (sv_add hr rfl (rdY (.lit undef) undef (.lit _)))
        have hne : σ.clk ≠ σr.clk := by omega
        have hbY : ∀ Y vs ys, ((visAnn E).head (visY σr Y vs) ys).blk σr.clk = .sv [.v Y] vs := fun Y vs ys => (vis_blk E σr Y vs ys).1
        have hbA : ∀ Y vs ys, ((visAnn E).head (visY σr Y vs) ys).blk σ.clk = .sv args cargs := fun Y vs ys => by
          rw [(vis_blk E σr Y vs ys).2 _ hne, hsv]
          split <;> rfl
        have hbN : ∀ Y vs Y' vs' ys b, b ≠ σr.clk → ((visAnn E).head (visY σr Y' vs') ys).blk b = ((visAnn E).head (visY σr Y vs) ys).blk b := fun Y vs Y' vs' ys b hb => by
          rw [(vis_blk E σr Y vs ys).2 _ hb, (vis_blk E σr Y' vs' ys).2 _ hb]
        have htm : ∀ Y vs ys, ((visAnn E).head (visY σr Y vs) ys).tm = σ.tm := fun Y vs ys => (vis_tm E _ ys).trans htr
        obtain ⟨m, hm⟩ : ∃ m, m = args.length - rs.length := ⟨_, rfl⟩
        rw [← hm] at hxs hfnall hIb hen
        have hcl : ∀ i, i < rs.length → ∃ (vf : FuncId) (vs : Array Value) (caps : List DE), args.getD (m + i) .any = .fn vf caps ∧ cargs.getD (m + i) undef = .func (.func vf) #[] vs ∧ vs.size = caps.length := fun i hi => by
          have h1 : isFnD (args.getD (m + i) .any) = true := by
            refine List.all_eq_true.1 hfnall _ ?_
            have : (args.drop m)[i]? = some (args.getD (m + i) .any) := by
              rw [List.getElem?_drop, List.getD_eq_getElem?_getD, List.getElem?_eq_getElem (by omega)]; rfl
            exact List.mem_of_getElem? this
          have h3 := hargs (m + i) (by omega)
          generalize args.getD (m + i) .any = d at h1 h3
          generalize cargs.getD (m + i) undef = u at h3
          cases h3 with
          | fn vf caps vs hl _ => exact ⟨vf, vs, caps, rfl, rfl, hl⟩
          | _ => cases h1
        have hF : ∃ F : Nat → FuncId × Array Value, ∀ i, i < rs.length → ∃ caps, args.getD (m + i) .any = .fn (F i).1 caps ∧ cargs.getD (m + i) undef = .func (.func (F i).1) #[] (F i).2 ∧ (F i).2.size = caps.length := by
          refine ⟨fun i => if hi : i < rs.length then ((hcl i hi).choose, (hcl i hi).choose_spec.choose) else (0, #[]), fun i hi => ?_⟩
          simp only [dif_pos hi]
          exact (hcl i hi).choose_spec.choose_spec
        obtain ⟨F, hF⟩ := hF
        have hcargs : cargs = cargs.extract 0 m ++ (((List.range rs.length).map F).map fun q => Value.func (.func q.1) #[] q.2).toArray := by
          apply Array.ext_getElem?
          intro i
          rw [Array.getElem?_append]
          have hes : (cargs.extract 0 m).size = m := by simp; omega
          rw [hes]
          by_cases hi : i < m
          · rw [if_pos hi, Array.getElem?_extract]
            simp; omega
          · rw [if_neg hi]
            by_cases hi2 : i - m < rs.length
            · obtain ⟨_, _, q2, _⟩ := hF (i - m) hi2
              have e : m + (i - m) = i := by omega
              rw [e, Array.getD_eq_getD_getElem?, Array.getElem?_eq_getElem (by omega)] at q2
              rw [Array.getElem?_eq_getElem (by omega)]
              simp only [List.getElem?_toArray, List.getElem?_map, List.getElem?_range hi2, Option.map_some]
              exact congrArg some q2
            · rw [Array.getElem?_eq_none (show cargs.size ≤ i by omega)]
              exact (Array.getElem?_eq_none (by simp; omega)).symm
        rw [hcargs]
        refine (hvi.2.2 ((List.range rs.length).map F) (fun pre o A => ∃ ys ρ, ys.length = ys0.length ∧ Inv pre ys ∧ HS base w0 ok0 ((visAnn E).head (visY σr (.lit undef) #[undef]) ys) ρ a A ∧ o = fun g => okR (okF base ok0 ((visAnn E).head (visY σr (.lit undef) #[undef]) ys).blk ρ) ρ [] g ∧ g < A.heap.size) w _ (cargs.extract 0 m) (by simp) (fun q hq => ?_) ?_ ?_ ?_ ?_ ⟨ys0, ρ2, rfl, hI0, h2, rfl⟩).mono ?_
        · obtain ⟨i, hi, rfl⟩ := List.mem_map.1 hq
          have hi := List.mem_range.1 hi
          obtain ⟨caps, hc1, _⟩ := hF i hi
          refine hen _ caps ?_
          have : (args.drop m)[i]? = some (.fn (F i).1 caps) := by
            rw [List.getElem?_drop, ← hc1, List.getD_eq_getElem?_getD, List.getElem?_eq_getElem (by omega)]; rfl
          exact List.mem_of_getElem? this
        · rintro s o A C ⟨ys, ρ, e1, e2, e3, rfl⟩ hbe hdr
          have hko : KeepsOthers A C := ⟨hbe.size, fun k o hk _ => (hbe.block k (Array.getElem?_eq_some_iff.1 hk).1).trans hk⟩
          have hlow := e3.low
          refine ⟨_, ⟨ys, ρ, e1, e2, HR.conv e3 (Kc.below hbe) e3.gl (e3.bel.trans (hbe.mono e3.low)) (e3.nod.trans hko) (Nat.le_trans e3.drw hdr), rfl⟩, fun g hg => ⟨hg.1, Nat.lt_of_lt_of_le hg.2 hbe.size⟩, fun g h1 h2 => ⟨.inl ⟨fun q => by omega, fun b hl e => ?_⟩, h2⟩⟩
          have := (e3.live_lt hl e).2
          omega
        · rintro s o A ⟨ys, ρ, e1, e2, e3, rfl⟩
          exact ⟨fun g hg => hg.2, e3.glob []⟩
        · rintro pre p rest o A vs Y u hxr ⟨ys, ρ, e1, e2, e3, rfl⟩ hvs hYu
          have hpm : p ∈ evs := by rw [hxr]; simp
          obtain ⟨hp1, hp2⟩ := hvi.2.1 p hpm
          have hb := hIb pre p rest ys hxr e1 e2
          have hbd : (rs.zipIdx.map fun p => visBody P E inl σr p.2 p.1 (args.getD (m + p.2) .any)).getD p.1 (fun _ _ _ => False) = visBody P E inl σr p.1 (rs.getD p.1 0) (args.getD (m + p.1) .any) := by
            rw [List.getD_eq_getElem?_getD, List.getElem?_map, List.getElem?_zipIdx, List.getElem?_eq_getElem hp1]
            simp [List.getD_eq_getElem?_getD, List.getElem?_eq_getElem hp1]
          rw [hbd] at hb
          obtain ⟨caps, hc1, hc2, hc3⟩ := hF p.1 hp1
          rw [hc1] at hb
          have hfi : ((List.range rs.length).map F).getD p.1 default = F p.1 := by
            rw [List.getD_eq_getElem?_getD, List.getElem?_map, List.getElem?_range hp1]; rfl
          rw [hfi]
          have hb2 := hb #[u] Y
          have hent' : Ent P (F p.1).1 := hen _ caps (by
            have : (args.drop m)[p.1]? = some (.fn (F p.1).1 caps) := by
              rw [List.getElem?_drop, ← hc1, List.getD_eq_getElem?_getD, List.getElem?_eq_getElem (by omega)]; rfl
            exact List.mem_of_getElem? this)
          clear hb hbd
          have hok : ∀ g, (okR (okF base ok0 ((visAnn E).head (visY σr (.lit undef) #[undef]) ys).blk ρ) ρ [] g ∧ g < A.heap.size) → okF base ok0 ((visAnn E).head (visY σr (.lit undef) #[undef]) ys).blk ρ g := fun g hg => by
            rcases hg.1 with q | ⟨b, q, _⟩
            · exact q
            · cases q
          have hsY : HS base w0 ok0 ((visAnn E).head (visY σr Y #[u]) ys) ρ a A := sv_swap (σ1 := (visAnn E).head (visY σr (.lit undef) #[undef]) ys) ((htm _ _ _).trans (htm _ _ _).symm) rfl (fun b hb => hbN _ _ _ _ _ b hb) (hbY _ _ _) (hbY _ _ _) rfl e3 (rdY Y u (hYu.mono fun g hg _ => ⟨hok g hg, rfl⟩))
          have hokY : ∀ g, okF base ok0 ((visAnn E).head (visY σr (.lit undef) #[undef]) ys).blk ρ g → okF base ok0 ((visAnn E).head (visY σr Y #[u]) ys).blk ρ g := fun g hg => okF_eq (fun b hb => hbN _ _ _ _ _ b hb) (by rw [hbY]; rfl) (by rw [hbY]; rfl) hg
          have hrdc := hsY.blks σ.clk
          rw [hbA] at hrdc
          have hrdc := hrdc.2.2 (m + p.1)
          rw [hc1, hc2] at hrdc
          have hrdcaps : ∀ i, i < caps.length → RD A (okF base ok0 ((visAnn E).head (visY σr Y #[u]) ys).blk ρ) ρ ((visAnn E).head (visY σr Y #[u]) ys).blk (fun n => n < ((visAnn E).head (visY σr Y #[u]) ys).clk) (caps.getD i .any) ((F p.1).2.getD i undef) := by
            generalize hFv : (F p.1).2 = fv at hrdc
            cases hrdc with
            | fn _ _ _ hl hc => exact hc
          have hvsz : vs.size = rs.getD p.1 0 := hvs.1.trans hp2
          refine (hinl base w0 ok0 (F p.1).1 _ _ _ ρ a A (vs ++ (F p.1).2) hent' (hfr _ _ _ _ _ hb2 (fun d σ' hk q1 q2 => (⟨hk, q1, q2⟩ : _ ∧ FrB _ σ' ∧ σ'.tm = _))) hsY (by simp [hvsz, hc3]) (fun i hi => ?_)).mono ?_
          · rw [List.length_append, List.length_map, List.length_range] at hi
            by_cases hir : i < rs.getD p.1 0
            · have e4 : ((List.range (rs.getD p.1 0)).map (fun j => DE.v (p.2.getD j default)) ++ caps).getD i .any = .v (p.2.getD i default) := by
                rw [List.getD_eq_getElem?_getD, List.getElem?_append_left (by simpa using hir), List.getElem?_map, List.getElem?_range hir]; rfl
              have e5 : (vs ++ (F p.1).2).getD i undef = vs.getD i undef := by
                rw [Array.getD_eq_getD_getElem?, Array.getElem?_append, if_pos (by omega), ← Array.getD_eq_getD_getElem?]
              rw [e4, e5]
              exact .v _ _ ((hvs.2 i (by omega)).mono fun g hg _ => ⟨hokY g (hok g hg), rfl⟩)
            · have e4 : ((List.range (rs.getD p.1 0)).map (fun j => DE.v (p.2.getD j default)) ++ caps).getD i .any = caps.getD (i - rs.getD p.1 0) .any := by
                rw [List.getD_eq_getElem?_getD, List.getElem?_append_right (by rw [List.length_map, List.length_range]; omega), List.length_map, List.length_range, ← List.getD_eq_getElem?_getD]
              have e5 : (vs ++ (F p.1).2).getD i undef = (F p.1).2.getD (i - rs.getD p.1 0) undef := by
                rw [Array.getD_eq_getD_getElem?, Array.getElem?_append, if_neg (by omega), hvsz, ← Array.getD_eq_getD_getElem?]
              rw [e4, e5]
              exact hrdcaps _ (by omega)
          · rintro e A' ⟨v, rfl, d, σ', ρ', ⟨hk', q1, q2⟩, h', _⟩
            refine ⟨⟨v, rfl⟩, ?_⟩
            split at hk'
            · rename_i zs hz
              split at hk'
              · rename_i hck2
                obtain ⟨f1, f2⟩ := frzCells_fr E.cells σ'
                have q1' : FrB ((visAnn E).head (visY σr Y #[u]) ys) σ' := ⟨q1.1, q1.2.1, q1.2.2⟩
                obtain ⟨ρ5, h5⟩ := head_again hck2 (q1'.trans f1) (fun t _ => .inl (by rw [f2, q2])) hz (frzCells_ok E.cells h')
                have h6 := head_head h5
                have h7 : HS base w0 ok0 ((visAnn E).head (visY σr (.lit undef) #[undef]) zs) ρ5 a A' := sv_swap (σ1 := (visAnn E).head (visY σr Y #[u]) zs) ((htm _ _ _).trans (htm _ _ _).symm) rfl (fun b hb => hbN _ _ _ _ _ b hb) (hbY _ _ _) (hbY _ _ _) rfl h6 (rdY (.lit undef) undef (.lit _))
                refine ⟨_, ⟨zs, ρ5, by rw [vals_len hz, vals_len hys], hk', h7, rfl⟩, ?_⟩
                have hB := h6.blks σr.clk
                rw [hbY] at hB
                have hB := hB.2.2 0
                have hB : RD A' (okF base ok0 ((visAnn E).head (visY σr Y #[u]) zs).blk ρ5) ρ5 ((visAnn E).head (visY σr Y #[u]) zs).blk _ (.v Y) u := hB
                cases hB with
                | v _ _ hv => exact hv.mono fun g hg hlt => ⟨⟨.inl (okF_eq (fun b hb => hbN _ _ _ _ _ b hb) (by rw [hbY]; rfl) (by rw [hbY]; rfl) hg), hlt⟩, rfl⟩
              · exact hk'.elim
            · exact hk'.elim
        · obtain ⟨p1, p2⟩ := pls_get hxs
          have hml : (args.take m).length = m := by rw [List.length_take]; omega
          refine ⟨by rw [p1, hml]; simp; omega, fun i hi => ?_⟩
          rw [p1, hml] at hi
          obtain ⟨r', z1, z2⟩ := p2 i (by rw [hml]; exact hi)
          have e4 : (args.take m).getD i .any = args.getD i .any := by
            rw [List.getD_eq_getElem?_getD, List.getElem?_take_of_lt hi, ← List.getD_eq_getElem?_getD]
          have e5 : (cargs.extract 0 m).getD i undef = cargs.getD i undef := by
            rw [Array.getD_eq_getD_getElem?, Array.getElem?_extract, Array.getD_eq_getD_getElem?, if_pos (by omega), Nat.zero_add]
          rw [e4] at z1
          rw [e5]
          have hB := h2.blks σ.clk
          rw [hbA] at hB
          exact (pl_ok (fview_ok _) h2 (hB.2.2 i) z1 z2).mono fun g hg hlt => ⟨⟨hg, hlt⟩, rfl⟩
        · rintro e w' ⟨rfl, o', ys, ρ3, e1, e2, e3, _⟩
          refine ⟨_, rfl, .tup [], _, ρ3, hIe ys e1 e2, ?_, .tup [] #[] rfl (fun i hi => by cases hi)⟩
          have k1 := sv_kill (hbY _ _ _) e3
          have k2 := sv_kill (b0 := σ.clk) (ds := args) (vs := cargs) (by
            exact ((congrFun (blk_app ((visAnn E).head (visY σr (.lit undef) #[undef]) ys) [(σr.clk, .dead)] _ _ _) σ.clk).trans (updB_ne _ _ _ hne)).trans (hbA _ _ _)) k1
          have k3 : HR base w0 ok0 _ _ _ ρ3 a w' := k2
          simp only [htm] at k3
          exact k3
      · exact h.elim
    · exact h.elim
  · exact h.elim
end
end Go.Proofs.YtfemeeffoapemaaGreatDoor
/- Walking into a called function's text. -/
namespace Go.Proofs.YtfemeeffoapemaaGreatDoor
open Go.RowKit
set_option linter.unusedVariables false
set_option linter.unusedSimpArgs false
section
variable {P : Program} {Γ : FuncId → Option Ca} {ann : FuncId → Nat → LoopEx}
theorem inF_fr : ∀ n, InlFr (inF P Γ ann n)
  | 0 => fun f args σ K K' h hK => h.elim
  | n + 1 => fun f args σ K K' h hK => by
    unfold inF at h ⊢
    by_cases hv : (ann f 999999).drop ≠ []
    · rw [if_pos hv] at h ⊢
      exact visF_fr _ _ _ _ _ _ _ h hK
    rw [if_neg hv] at h ⊢
    simp only at h ⊢
    split at h
    · exact h.elim
    · rename_i fn hf
      split at h
      · exact h.elim
      · rename_i c hb
        intro vs
        refine runC_mono (inF_fr n) c _ _ _ (h vs) fun e σ' hk hfb _ _ => ?_
        split at hk
        · rename_i hex
          rw [if_pos hex]
          split at hk
          · rename_i d hd
            split at hk
            · exact hk.elim
            · rename_i hp
              rw [if_neg hp]
              refine hK _ _ hk ?_ rfl
              obtain ⟨⟨p, hp⟩, _, h3⟩ := hfb
              exact ⟨⟨(σ.clk, .dead) :: p ++ [(σ.clk, .sv σ.tm vs)], by simp [hp]⟩, rfl, by have h3' : σ.clk + 64 ≤ σ'.clk := h3; show σ.clk ≤ σ'.clk; omega⟩
          · exact hk.elim
        · exact hk.elim
theorem inF_ok (hm : P.follows .mixedOrders = true) : ∀ n, InlOk P (inF P Γ ann n)
  | 0 => fun base w0 ok0 f args σ K ρ a w cargs hent h _ _ _ => h.elim
  | n + 1 => fun base w0 ok0 f args σ K ρ a w cargs hent h hs hsz hargs => by
    unfold inF at h
    by_cases hv : (ann f 999999).drop ≠ []
    · rw [if_pos hv] at h
      exact visF_ok (inF_ok hm n) (inF_fr n) _ _ f args σ K cargs hent h hs hsz hargs
    rw [if_neg hv] at h
    simp only at h
    split at h
    · exact h.elim
    · rename_i fn hf
      split at h
      · exact h.elim
      · rename_i c hb
        have hs0 := hs
        replace hs : HS base w ok0 σ ρ { tmps := a.tmps, defers := [] } w := HR.fresh hs
        refine calls_marks hf hb ?_
        have hdead : σ.blk σ.clk = .dead := hs.frs σ.clk (fun q => Nat.lt_irrefl _ q)
        have hund : ρ σ.clk = undef := by have := hs.blks σ.clk; rw [hdead] at this; exact this
        let σ1 : DS := ⟨args ++ List.replicate (fn.ntmps - args.length) (DE.c undef), (σ.clk, .sv σ.tm a.tmps) :: σ.bl, σ.clk + 64, σ.orc⟩
        have hb1 : σ1.blk = updB σ.blk [(σ.clk, .sv σ.tm a.tmps)] := blk_app σ [(σ.clk, .sv σ.tm a.tmps)] _ _ _
        have h0 : HS base w ok0 σ1 ρ { tmps := cargs ++ Array.replicate (fn.ntmps - cargs.size) undef, defers := [] } w := by
          show HR base w ok0 (fun n => n < σ.clk + 64) σ1.tm σ1.blk ρ _ w
          rw [hb1]
          refine HR.step hs (fun b => b = σ.clk) (fun b hc => updB_ne _ _ _ hc) (fun b _ => rfl) (fun b t cs _ _ => rfl) (fun b n x hc e => by rw [hc, hdead] at e; cases e)
            (fun n hn => by have : n < σ.clk := hn; show n < σ.clk + 64; omega) (fun b hc => by show b < σ.clk + 64; rw [hc]; omega) (fun b n hc _ hst => by rw [hc, updB_one] at hst; cases hst) (Nat.le_refl _) (fun _ _ _ => rfl)
            (fun b hc hl => by rw [hc, updB_one] at hl; cases hl) (fun b b' hc _ hl => by rw [hc, updB_one] at hl; cases hl) rfl rfl rfl (fun H1 H5 b hc => ?_) (fun H1 t => .inr ?_) (by simp [σ1, hsz]) rfl
          · rw [hc, updB_one]
            exact ⟨hund, hs.size, fun t => H5 _ _ (hs.tms t)⟩
          · by_cases ht : t < args.length
            · have e1 : σ1.tm.getD t .any = args.getD t .any := by
                show (args ++ List.replicate (fn.ntmps - args.length) (DE.c undef)).getD t .any = _
                rw [List.getD_eq_getElem?_getD, List.getElem?_append_left ht, ← List.getD_eq_getElem?_getD]
              have e2 : (cargs ++ Array.replicate (fn.ntmps - cargs.size) undef).getD t undef = cargs.getD t undef := by
                rw [Array.getD_eq_getD_getElem?, Array.getElem?_append, if_pos (by omega), ← Array.getD_eq_getD_getElem?]
              rw [e1]
              show RD _ _ _ _ _ _ ((cargs ++ Array.replicate (fn.ntmps - cargs.size) undef).getD t undef)
              rw [e2]
              refine (hargs t ht).mono H1 (fun _ _ _ => rfl) (fun n hn => by have : n < σ.clk := hn; show n < σ.clk + 64; omega) fun b n hn hst => ?_
              by_cases hc : b = σ.clk
              · rw [hc, updB_one] at hst; cases hst
              · rw [updB_ne _ _ _ hc] at hst; exact ⟨hst, rfl⟩
            · by_cases ht2 : t < fn.ntmps
              · have e1 : σ1.tm.getD t .any = .c undef := by
                  show (args ++ List.replicate (fn.ntmps - args.length) (DE.c undef)).getD t .any = _
                  rw [List.getD_eq_getElem?_getD, List.getElem?_append_right (by omega), List.getElem?_replicate]
                  rw [if_pos (by omega)]; rfl
                have e2 : (cargs ++ Array.replicate (fn.ntmps - cargs.size) undef).getD t undef = undef := by
                  rw [Array.getD_eq_getD_getElem?, Array.getElem?_append, if_neg (by omega), Array.getElem?_replicate]
                  split <;> rfl
                rw [e1]
                show RD _ _ _ _ _ _ ((cargs ++ Array.replicate (fn.ntmps - cargs.size) undef).getD t undef)
                rw [e2]; exact .c _
              · have e1 : σ1.tm.getD t .any = .any := by
                  show (args ++ List.replicate (fn.ntmps - args.length) (DE.c undef)).getD t .any = _
                  rw [List.getD_eq_getElem?_getD, List.getElem?_eq_none (by simp; omega)]; rfl
                rw [e1]; exact .any _
        have hrun := runC_mono (inF_fr n) c σ1 _ (fun e σ' => (if exits e then (match resultD P fn σ' with | some d => if (preOf σ1 σ').contains σ.clk then fStuck "saved slots" else K d { tm := σ.tm, bl := (σ.clk, .dead) :: σ'.bl, clk := σ'.clk, orc := σ'.orc } | none => fStuck "results") else fStuck "exit") ∧ FrB σ1 σ') (h a.tmps) (fun e σ' hk q1 _ _ => ⟨hk, q1⟩)
        refine runC_sound hm (inF_ok hm n) (inF_fr n) c σ1 _ ρ _ w _ hrun h0 fun e σ' ρ' a' w' hk h' => ?_
        obtain ⟨hk, hfb⟩ := hk
        obtain ⟨Ds, hD1, hD2, hD3, h'⟩ := HR.unmark h'
        generalize hwt : turned Ds w' = wt at h'
        split at hk
        · rename_i hex
          split at hk
          · rename_i d hd
            split at hk
            · exact hk.elim
            · rename_i hpre
              obtain ⟨v, hv1, hv2⟩ := resultD_ok h' hd
              obtain ⟨⟨p, hp⟩, _, h3⟩ := hfb
              have h3' : σ.clk + 64 ≤ σ'.clk := h3
              have hsv : σ'.blk σ.clk = .sv σ.tm a.tmps := by
                have hpo : preOf σ1 σ' = p.map (·.1) := by
                  unfold preOf
                  rw [hp, List.length_append, Nat.add_sub_cancel, List.take_left]
                have : σ'.blk = updB σ1.blk p := by
                  obtain ⟨tm, bl, c, oc⟩ := σ'
                  simp only at hp
                  subst hp
                  exact blk_app σ1 p tm c _
                rw [this, updB_of_not (by rw [← hpo]; simpa using hpre), hb1, updB_one]
              have hB := h'.blks σ.clk
              rw [hsv] at hB
              have hfin : (DS.mk σ.tm ((σ.clk, .dead) :: σ'.bl) σ'.clk σ'.orc).blk = updB σ'.blk [(σ.clk, .dead)] := blk_app σ' [(σ.clk, .dead)] _ _ _
              have H4 : ∀ b n, n < σ'.clk → stampOf (updB σ'.blk [(σ.clk, .dead)] b) = some n → stampOf (σ'.blk b) = some n ∧ ρ' b = ρ' b := fun b n _ hst => by
                by_cases hc : b = σ.clk
                · rw [hc, updB_one] at hst; cases hst
                · rw [updB_ne _ _ _ hc] at hst; exact ⟨hst, rfl⟩
              have H1 : ∀ g, okF base ok0 σ'.blk ρ' g → g < wt.heap.size → okF base ok0 (updB σ'.blk [(σ.clk, .dead)]) ρ' g ∧ wt.heap[g]? = wt.heap[g]? := fun g hg _ => ⟨⟨hg.1, fun b hl => by
                by_cases hc : b = σ.clk
                · rw [hc, updB_one] at hl; cases hl
                · rw [updB_ne _ _ _ hc] at hl; exact hg.2 b hl⟩, rfl⟩
              have hend : HS base w0 ok0 ⟨σ.tm, (σ.clk, .dead) :: σ'.bl, σ'.clk, σ'.orc⟩ ρ' a wt := by
                show HR base w0 ok0 (fun n => n < σ'.clk) σ.tm (DS.mk σ.tm ((σ.clk, .dead) :: σ'.bl) σ'.clk σ'.orc).blk ρ' a wt
                rw [hfin]
                refine HR.join (t := a.tmps) hs0 ?_
                refine HR.step h' (fun b => b = σ.clk) (fun b hc => updB_ne _ _ _ hc) (fun b _ => rfl) (fun b t cs _ _ => rfl) (fun b n x hc e => by rw [hc, hsv] at e; cases e)
                  (fun n hn => hn) (fun b hc => by show b < σ'.clk; rw [hc]; omega) (fun b n hc hn hst => H4 b n hn hst) (Nat.le_refl _) (fun _ _ _ => rfl)
                  (fun b hc hl => by rw [hc, updB_one] at hl; cases hl) (fun b b' hc _ hl => by rw [hc, updB_one] at hl; cases hl) rfl rfl rfl (fun _ _ b hc => ?_) (fun _ t => .inr ?_) hs.size rfl
                · rw [hc, updB_one]; exact hB.1
                · exact (hB.2.2 t).mono H1 (fun _ _ _ => rfl) (fun n hn => hn) H4
              have hdv := hv2.mono H1 (fun _ _ _ => rfl) (fun n hn => hn) H4
              rw [← hfin] at hdv
              cases e with
              | normal => exact ⟨Ds, hD1, hD2, hD3, v, by rw [hwt]; exact hv1, v, rfl, d, _, ρ', hk, by rw [hwt]; exact hend, by rw [hwt]; exact hdv⟩
              | ret => exact ⟨Ds, hD1, hD2, hD3, v, by rw [hwt]; exact hv1, v, rfl, d, _, ρ', hk, by rw [hwt]; exact hend, by rw [hwt]; exact hdv⟩
              | exit i => cases hex
              | goto i => cases hex
              | panic i => cases hex
              | outgrown => cases hex
          · exact hk.elim
        · exact hk.elim
/-- **A function's contract out of its run.** -/
theorem fn_run (hm : P.follows .mixedOrders = true) (n : Nat) {f : FuncId} {fn : Func} {c : Code} (hf : P.funcs[f]? = some fn) (hb : fn.body = some c) (hent : Ent P f) {args : List AV} {orc : Orc} {sh : Sh} {r : AV} (h : fnF P Γ ann n f fn c orc args sh r) : Fn P f args sh r :=
  fn_of_run hm (inF_ok hm n) (inF_fr n) hf hb hent h
end
end Go.Proofs.YtfemeeffoapemaaGreatDoor
/- Plain values, reckoned. -/
namespace Go.Proofs.YtfemeeffoapemaaGreatDoor
open Go.RowKit
set_option linter.unusedVariables false
section
variable {a b n : Int} {k k' : IntKind} {s t : ByteArray} {p q : Bool} {L M : List (List AV)} {cs vs : List AV} {i j m sz : Nat} {x y z : AV} {v : Value}
@[simp] theorem av_cel : AV.cel (.agg cs) j = cs.getD j default := rfl
@[simp] theorem av_prj : AV.prj (.tup vs) j = vs.getD j default := rfl
@[simp] theorem av_isAgg : AV.isAgg (.agg cs) m ↔ cs.length = m := ⟨fun ⟨_, e, h⟩ => by cases e; exact h, fun h => ⟨_, rfl, h⟩⟩
@[simp] theorem av_isTup : AV.isTup (.tup cs) m ↔ cs.length = m := ⟨fun ⟨_, e, h⟩ => by cases e; exact h, fun h => ⟨_, rfl, h⟩⟩
@[simp] theorem av_hasPart : hasPart (.tup cs) i ↔ i < cs.length := ⟨fun ⟨m, h, hi⟩ => by rw [av_isTup] at h; omega, fun h => ⟨_, av_isTup.2 rfl, h⟩⟩
@[simp] theorem av_isSl : AV.isSl (.sl i L) j ↔ i = j := ⟨fun h => by have h' : AV.sl i L = .sl j L := h; injection h', fun h => by subst h; rfl⟩
@[simp] theorem av_isInt : AV.isInt (.lit (.int k n)) ↔ True := ⟨fun _ => trivial, fun _ => ⟨_, _, rfl⟩⟩
@[simp] theorem av_isI64 : AV.isI64 (.lit (.int .i64 n)) ↔ True := ⟨fun _ => trivial, fun _ => rfl⟩
@[simp] theorem av_isBool : AV.isBool (.lit (.bool p)) ↔ True := ⟨fun _ => trivial, fun _ => rfl⟩
@[simp] theorem av_isStr : AV.isStr (.lit (.string s)) ↔ True := ⟨fun _ => trivial, fun _ => rfl⟩
@[simp] theorem av_isOne_int : AV.isOne (.lit (.int k n)) ↔ True := ⟨fun _ => trivial, fun _ => rfl⟩
@[simp] theorem av_isOne_bool : AV.isOne (.lit (.bool p)) ↔ True := ⟨fun _ => trivial, fun _ => rfl⟩
@[simp] theorem av_isOne_str : AV.isOne (.lit (.string s)) ↔ True := ⟨fun _ => trivial, fun _ => rfl⟩
@[simp] theorem av_isOne_ni : AV.isOne (.lit .nilIface) ↔ True := ⟨fun _ => trivial, fun _ => rfl⟩
@[simp] theorem av_isNI : AV.isNI (.lit .nilIface) ↔ True := ⟨fun _ => trivial, fun _ => rfl⟩
@[simp] theorem av_isOne_sl : AV.isOne (.sl i L) ↔ True := ⟨fun _ => trivial, fun _ => rfl⟩
@[simp] theorem av_len : AV.len (.sl i L) = .lit (.int .i64 (L.length : Nat)) := rfl
@[simp] theorem av_slen : AV.slen (.lit (.string s)) = .lit (.int .i64 (s.size : Nat)) := rfl
@[simp] theorem av_els : AV.els (.sl i L) = L := rfl
@[simp] theorem av_num : AV.num (.lit (.int k n)) = n := rfl
@[simp] theorem av_tru : AV.tru (.lit (.bool p)) = p := rfl
@[simp] theorem av_str : AV.str (.lit (.string s)) = s := rfl
@[simp] theorem av_kind : AV.kind (.lit (.int k n)) = k := rfl
@[simp] theorem av_mk : AV.mk i L = .sl i L := rfl
@[simp] theorem av_app : AV.app i (.sl j L) (.sl m M) = .sl i (L ++ M) := rfl
@[simp] theorem av_inb : AV.inb (.sl i L) (.lit (.int k n)) ↔ 0 ≤ n ∧ n < L.length := ⟨fun h => h.2, fun h => ⟨⟨_, _, rfl⟩, h⟩⟩
@[simp] theorem av_sinb : AV.sinb (.lit (.string s)) (.lit (.int k n)) ↔ 0 ≤ n ∧ n < s.size := ⟨fun h => h.2, fun h => ⟨⟨_, _, rfl⟩, h⟩⟩
@[simp] theorem av_at : AV.at (.sl i L) (.lit (.int k n)) j = gt2 L n.toNat j := rfl
@[simp] theorem av_subOk : AV.subOk (.sl i L) (.lit (.int k a)) (.lit (.int k' b)) ↔ 0 ≤ a ∧ a ≤ b ∧ b ≤ L.length := ⟨fun h => h.2.2, fun h => ⟨⟨_, _, rfl⟩, ⟨_, _, rfl⟩, h⟩⟩
@[simp] theorem av_sub : AV.sub i (.sl j L) (.lit (.int k a)) (.lit (.int k' b)) = .sl i ((L.take b.toNat).drop a.toNat) := rfl
@[simp] theorem av_binOk_int {op : BinOp} : AV.binOk op (.lit (.int k a)) (.lit (.int k' b)) ↔ k = k' ∧ (match op with | .quo | .rem => b ≠ 0 | .shl | .shr => False | _ => True) := Iff.rfl
@[simp] theorem av_add : AV.bin .add (.lit (.int k a)) (.lit (.int k' b)) = .lit (.int k (k.wrap (a + b))) := rfl
@[simp] theorem av_subt : AV.bin .sub (.lit (.int k a)) (.lit (.int k' b)) = .lit (.int k (k.wrap (a - b))) := rfl
@[simp] theorem av_mul : AV.bin .mul (.lit (.int k a)) (.lit (.int k' b)) = .lit (.int k (k.wrap (a * b))) := rfl
@[simp] theorem av_quo : AV.bin .quo (.lit (.int k a)) (.lit (.int k' b)) = .lit (.int k (k.wrap (a.tdiv b))) := rfl
@[simp] theorem av_rem : AV.bin .rem (.lit (.int k a)) (.lit (.int k' b)) = .lit (.int k (a.tmod b)) := rfl
@[simp] theorem av_eql : AV.bin .eql (.lit (.int k a)) (.lit (.int k' b)) = .lit (.bool (a == b)) := rfl
@[simp] theorem av_neq : AV.bin .neq (.lit (.int k a)) (.lit (.int k' b)) = .lit (.bool (a != b)) := rfl
@[simp] theorem av_lss : AV.bin .lss (.lit (.int k a)) (.lit (.int k' b)) = .lit (.bool (decide (a < b))) := rfl
@[simp] theorem av_leq : AV.bin .leq (.lit (.int k a)) (.lit (.int k' b)) = .lit (.bool (decide (a ≤ b))) := rfl
@[simp] theorem av_gtr : AV.bin .gtr (.lit (.int k a)) (.lit (.int k' b)) = .lit (.bool (decide (a > b))) := rfl
@[simp] theorem av_geq : AV.bin .geq (.lit (.int k a)) (.lit (.int k' b)) = .lit (.bool (decide (a ≥ b))) := rfl
@[simp] theorem av_mx : AV.mx (.lit (.int k a)) (.lit (.int k' b)) = .lit (.int k (if b > a then b else a)) := rfl
@[simp] theorem av_mn : AV.mn (.lit (.int k a)) (.lit (.int k' b)) = .lit (.int k (if b < a then b else a)) := rfl
@[simp] theorem av_isT : isT (.lit (.bool p)) ↔ p = true := Iff.rfl
@[simp] theorem av_isF : isF (.lit (.bool p)) ↔ p = false := Iff.rfl
@[simp] theorem av_flat : AV.flat (.lit v) ↔ True := ⟨fun _ => trivial, fun _ => .lit v⟩
@[simp] theorem av_flat_nil : AV.flat (.sl i []) ↔ True := ⟨fun _ => trivial, fun _ => .nil i⟩
@[simp] theorem av_flat_agg : AV.flat (.agg cs) ↔ ∀ x ∈ cs, x.flat := ⟨fun h => by cases h with | agg _ h => exact h, fun h => .agg cs h⟩
@[simp] theorem av_flatS : AV.flatS (.sl i L) ↔ ∀ y ∈ L, ∀ z ∈ y, z.flat := Iff.rfl
@[simp] theorem f_same : fSame x y ↔ x = y := Iff.rfl
@[simp] theorem f_ent {P : Program} {f : FuncId} : fEnt P f ↔ Ent P f := Iff.rfl
@[simp] theorem f_nil {F G : Prop} : fNil (.sl i L) F G ↔ (L = [] → F) ∧ G := ⟨fun h => h.elim (fun q => q.2) (fun q => by cases q.1), fun h => .inl ⟨⟨_, _, rfl⟩, h⟩⟩
@[simp] theorem f_nil_lit {F G : Prop} : fNil (.lit (.slice none 0 0)) F G ↔ F := ⟨fun h => h.elim (fun q => by obtain ⟨_, _, e⟩ := q.1; cases e) (fun q => q.2), fun h => .inr ⟨rfl, h⟩⟩
@[simp] theorem f_allV {p : Prop} : fAllV (fun _ => p) ↔ p := ⟨fun h => h #[], fun h _ => h⟩
/-- A loop, by what it carries. -/
theorem loop_of {τ : Type} (enc : τ → List AV) (Inv : τ → Prop) (μ : τ → Nat) {xs : List AV} {body : List AV → (List AV → Prop) → Prop} (x0 : τ) (h0 : xs = enc x0) (hI : Inv x0) (hb : ∀ x, Inv x → body (enc x) fun zs => ∃ m', m' < μ x ∧ ∃ y, zs = enc y ∧ Inv y ∧ μ y = m') : fLoop i xs body := by
  subst h0
  refine ⟨fun m ys => ∃ y, ys = enc y ∧ Inv y ∧ μ y = m, μ x0, ⟨x0, rfl, hI, rfl⟩, ?_⟩
  rintro m ys _ ⟨y, rfl, hy, rfl⟩
  exact hb y hy
theorem wrap64 (h1 : -9223372036854775808 ≤ a) (h2 : a ≤ 9223372036854775807) : IntKind.i64.wrap a = a := by
  simp [IntKind.wrap, IntKind.bits, IntKind.signed]; omega
end
theorem mixed : Tryz.prog.follows .mixedOrders = true := by kernel_rfl
end Go.Proofs.YtfemeeffoapemaaGreatDoor
/- What every law's proof closes with. -/
namespace Go.Proofs.YtfemeeffoapemaaGreatDoor
open Go.ChangeShapes Go.WideShapes Go.ChangeAt Go.RowKit

theorem own : ownKnob Tryz.prog.godebug = none := by kernel_rfl
theorem laidOut : laidOutB Tryz.prog = true := by kernel_rfl


theorem law_end {H : Type} {enc : TypeId × Value → H} {f : Func} {s : ChangeSpec} {W W' : World} {args : Array Value} {ds gs : List (DataW H)} {before : List MemPlace} {e : Ending}
    (hts : (f.params.toList.all fun t => Tryz.prog.readableRec t && decide (t < Tryz.prog.types.size)) = true) (hres : f.resultTypes = #[4]) (hv : s.vars = [])
    (hW : DataW.Whole enc Tryz.prog f.params.toList s.vars false W args.toList ds gs before) (h1 : (s.fn H (ds ++ gs)).results = [.lit (.bool true)]) (h2 : (s.fn H (ds ++ gs)).args = ds) (h3 : (s.fn H (ds ++ gs)).vars = [])
    (hr : Ret (.bool true) W e W') : ∃ v, e = .returned v ∧ s.post enc Tryz.prog f false true false false W args v W' := by
  refine ⟨_, hr.1, law_post laidOut (fun t ht => ?_) hres Tryz.underlying4 hv hW h1 h2 h3 hr.below⟩
  have := List.all_eq_true.1 hts t ht
  simp only [Bool.and_eq_true, decide_eq_true_eq] at this
  exact this
end Go.Proofs.YtfemeeffoapemaaGreatDoor
/- Arguments, opened: whatever their types, as plain values; and a law's last step. -/
namespace Go.Proofs.YtfemeeffoapemaaGreatDoor
open Go.ChangeShapes Go.WideShapes Go.ChangeAt Go.RowKit Go.Deep
set_option linter.unusedVariables false
/-! ### the cells of a type -/
def flatFs (P : Program) (fl : TypeId → Option (List TypeId)) : Nat → List Field → Option (List TypeId)
  | _, [] => some []
  | o, f :: fs => if f.offset = o then (match fl f.type, flatFs P fl (o + P.cellsOf f.type) fs with
      | some a, some b => if a.length = P.cellsOf f.type then some (a ++ b) else none
      | _, _ => none) else none
def flatTy (P : Program) : Nat → TypeId → Option (List TypeId)
  | 0, _ => none
  | d + 1, t => match P.underlying t with
    | some (.int _) => some [t]
    | some .string => some [t]
    | some .bool => some [t]
    | some (.slice _) => some [t]
    | some (.struct fs) => match flatFs P (flatTy P d) 0 fs.toList with
        | some l => if l.length = P.cellsOf t then some l else none
        | none => none
    | some (.array n e) => match flatTy P d e with
        | some l => if l.length = P.cellsOf e ∧ n * l.length = P.cellsOf t then some (List.replicate n l).flatten else none
        | none => none
    | _ => none
def CellOk (P : Program) : Nat → TypeId → AV → Prop
  | 0, _, _ => False
  | d + 1, u, x => match P.underlying u with
    | some (.int k) => ∃ n, x = .lit (.int k n) ∧ (Lit.int k n).wf = true
    | some .string => ∃ s : ByteArray, x = .string s ∧ s.size ≤ maxLen
    | some .bool => ∃ b, x = .bool b
    | some (.slice e) => ∃ (L : List (List AV)) (tys : List TypeId), x = .sl (P.cellsOf e) L ∧ L.length ≤ maxLen ∧ flatTy P 8 e = some tys ∧ ∀ y ∈ L, y.length = tys.length ∧ ∀ i u', tys[i]? = some u' → CellOk P d u' (y.getD i default)
    | _ => False
def cellB (P : Program) : Nat → TypeId → Bool
  | 0, _ => false
  | d + 1, u => match P.underlying u with
    | some (.int _) => true
    | some .string => true
    | some .bool => true
    | some (.slice e) => match flatTy P 8 e with
      | some tys => decide (tys.length = P.cellsOf e) && decide (0 < P.cellsOf e) && tys.all (cellB P d)
      | none => false
    | _ => false
section
variable {H : Type} {enc : TypeId × Value → H} {P : Program} {W : World}
theorem fields_of {t : TypeId} {fs : Array Field} {fuel : Nat} {cs : List Value} {x : DataW H × List MemPlace}
    (ht : P.underlying t = some (.struct fs)) (h : DataW.trod enc P W 0 (fun _ => true) true fuel t cs = some x) :
    cs.length = P.cellsOf t ∧ ∃ m, ∀ f ∈ fs.toList, ∃ y, DataW.trod enc P W 0 (fun _ => true) true m f.type ((cs.drop f.offset).take (P.cellsOf f.type)) = some y := by
  obtain ⟨ys, m, _, _, hl, hyl, hf⟩ := DataW.trod_struct ht h
  refine ⟨hl, m, fun f hm => ?_⟩
  obtain ⟨j, hj, e⟩ := List.getElem_of_mem hm
  have hj' : fs[j]? = some f := by rw [← Array.getElem?_toList, List.getElem?_eq_getElem hj, e]
  have hjl : j < ys.length := by rw [hyl]; simpa using hj
  exact ⟨_, (hf j f hj').trans (List.getElem?_eq_getElem hjl)⟩
theorem flatten_get {l : List TypeId} {u : TypeId} : ∀ (n i : Nat), ((List.replicate n l).flatten)[i]? = some u → ∃ k j, k < n ∧ j < l.length ∧ i = k * l.length + j ∧ l[j]? = some u
  | 0, i, h => by simp at h
  | n + 1, i, h => by
    rw [List.replicate_succ, List.flatten_cons, List.getElem?_append] at h
    split at h
    · rename_i hi; exact ⟨0, i, by omega, hi, by omega, h⟩
    · obtain ⟨k, j, hk, hj, e, hl⟩ := flatten_get n _ h
      exact ⟨k + 1, j, by omega, hj, by rw [Nat.add_mul]; omega, hl⟩
theorem seg_at {cs : List Value} {o n i : Nat} {v : Value} (h : ((cs.drop o).take n)[i]? = some v) : cs[o + i]? = some v := by
  rw [List.getElem?_take] at h
  split at h
  · rwa [List.getElem?_drop] at h
  · cases h
theorem flatten_len {l : List TypeId} : ∀ n, ((List.replicate n l).flatten).length = n * l.length
  | 0 => by simp
  | n + 1 => by simp
theorem trod_flat : ∀ (d : Nat) (t : TypeId) (tys : List TypeId), flatTy P d t = some tys → ∀ (fuel : Nat) (vs : List Value) (x : DataW H × List MemPlace), DataW.trod enc P W 0 (fun _ => true) true fuel t vs = some x →
    vs.length = tys.length ∧ ∀ (i : Nat) (u : TypeId), tys[i]? = some u → ∃ v m y, vs[i]? = some v ∧ DataW.trod enc P W 0 (fun _ => true) true m u [v] = some y
  | 0, t, tys, h, _, _, _, _ => by cases h
  | d + 1, t, tys, h, fuel, vs, x, hx => by
    simp only [flatTy] at h
    have one : ∀ v, vs = [v] → some [t] = some tys → vs.length = tys.length ∧ ∀ (i : Nat) (u : TypeId), tys[i]? = some u → ∃ v m y, vs[i]? = some v ∧ DataW.trod enc P W 0 (fun _ => true) true m u [v] = some y := by
      rintro v rfl e
      injection e with e; subst e
      refine ⟨rfl, fun i u hi => ?_⟩
      cases i with
      | zero => simp at hi; subst hi; exact ⟨v, fuel, x, rfl, hx⟩
      | succ i => simp at hi
    split at h
    · rename_i k hu; obtain ⟨n, e, _⟩ := DataW.trod_int hu hx; exact one _ e h
    · rename_i hu; obtain ⟨n, e, _⟩ := DataW.trod_string hu hx; exact one _ e h
    · rename_i hu; obtain ⟨n, e, _⟩ := DataW.trod_bool hu hx; exact one _ e h
    · rename_i e hu
      rcases open_slice hu hx with ⟨e, _⟩ | ⟨a, len, cap, m, fu, D, Pl, e, _⟩
      · exact one _ e h
      · exact one _ e h
    · rename_i fs hu
      split at h
      · rename_i l hl
        split at h
        · rename_i hlen
          injection h with h; subst h
          obtain ⟨hvl, m, hf⟩ := fields_of hu hx
          refine ⟨by omega, ?_⟩
          clear hlen hvl hx
          have key : ∀ (fs : List Field) (o : Nat) (l : List TypeId), flatFs P (flatTy P d) o fs = some l → (∀ f ∈ fs, ∃ y, DataW.trod enc P W 0 (fun _ => true) true m f.type ((vs.drop f.offset).take (P.cellsOf f.type)) = some y) →
              ∀ (i : Nat) (u : TypeId), l[i]? = some u → ∃ v m y, vs[o + i]? = some v ∧ DataW.trod enc P W 0 (fun _ => true) true m u [v] = some y := by
            intro fs
            induction fs with
            | nil => intro o l hl _ i u hi; simp only [flatFs, Option.some.injEq] at hl; subst hl; simp at hi
            | cons f fs ih =>
              intro o l hl hf i u hi
              simp only [flatFs] at hl
              split at hl
              · rename_i ho
                split at hl
                · rename_i a b ha hb
                  split at hl
                  · rename_i hal
                    injection hl with hl; subst hl
                    rw [List.getElem?_append] at hi
                    split at hi
                    · obtain ⟨y, hy⟩ := hf f (by simp)
                      obtain ⟨_, hg⟩ := trod_flat d f.type a ha m _ _ hy
                      obtain ⟨v, m', y', hv, hy'⟩ := hg i u hi
                      exact ⟨v, m', y', ho ▸ seg_at hv, hy'⟩
                    · obtain ⟨v, m', y', hv, hy'⟩ := ih _ _ hb (fun f hf' => hf f (by simp [hf'])) _ _ hi
                      refine ⟨v, m', y', ?_, hy'⟩
                      rw [← hv]; congr 1; omega
                  · cases hl
                · cases hl
              · cases hl
          intro i u hi
          have := key fs.toList 0 l hl hf i u hi
          simpa using this
        · cases h
      · cases h
    · rename_i n e hu
      split at h
      · rename_i l hl
        split at h
        · rename_i hlen
          injection h with h; subst h
          obtain ⟨xs, m, _, _, hvl, hxl, hf⟩ := DataW.trod_array hu hx
          refine ⟨by rw [hvl, flatten_len]; omega, fun i u hi => ?_⟩
          obtain ⟨k, j, hk, hj, rfl, hu'⟩ := flatten_get n i hi
          have h1 := hf k hk
          rw [List.getElem?_eq_getElem (by omega)] at h1
          obtain ⟨_, hg⟩ := trod_flat d e l hl m _ _ h1
          obtain ⟨v, m', y', hv, hy'⟩ := hg j u hu'
          exact ⟨v, m', y', by rw [hlen.1]; exact seg_at hv, hy'⟩
        · cases h
      · cases h
    · cases h
def okAll (W : World) (g : Nat) : Prop := g < W.heap.size
theorem add_none' (b off : Nat) (k : Nat) : (⟨b, off, none⟩ : Addr).add k = ⟨b, off + k, none⟩ := by simp [Addr.add]
theorem cell_open : ∀ (d : Nat) (u : TypeId), cellB P d u = true → ∀ (m : Nat) (v : Value) (y : DataW H × List MemPlace), DataW.trod enc P W 0 (fun _ => true) true m u [v] = some y →
    v.oneCell' = true ∧ ∃ x, CellOk P d u x ∧ RV W (okAll W) x v
  | 0, u, h, _, _, _, _ => by cases h
  | d + 1, u, h, m, v, y, hy => by
    simp only [cellB] at h
    simp only [CellOk]
    split at h
    · rename_i k hu
      obtain ⟨n, e, _, hw⟩ := DataW.trod_int hu hy
      simp only [List.cons.injEq, and_true] at e
      subst e
      exact ⟨rfl, _, ⟨n, rfl, hw⟩, .lit _⟩
    · rename_i hu
      obtain ⟨n, e, _, hw⟩ := DataW.trod_string hu hy
      simp only [List.cons.injEq, and_true] at e
      subst e
      exact ⟨rfl, _, ⟨n, rfl, hw⟩, .lit _⟩
    · rename_i hu
      obtain ⟨n, e, _⟩ := DataW.trod_bool hu hy
      simp only [List.cons.injEq, and_true] at e
      subst e
      exact ⟨rfl, _, ⟨n, rfl⟩, .lit _⟩
    · rename_i e hu
      split at h
      · rename_i tys htys
        simp only [Bool.and_eq_true, decide_eq_true_eq, List.all_eq_true] at h
        obtain ⟨⟨hl, hpos⟩, hall⟩ := h
        rcases open_slice hu hy with ⟨ev, _⟩ | ⟨a, len, cap, m', fu, D, Pl, ev, hb, hlc, hcm, hmm, hx, hi⟩
        · simp only [List.cons.injEq, and_true] at ev
          subst ev
          exact ⟨rfl, _, ⟨[], tys, rfl, by unfold maxLen; simp, htys, fun y hy => by simp at hy⟩, rv_nil _ _⟩
        · simp only [List.cons.injEq, and_true] at ev
          subst ev
          simp only [if_true] at hmm
          have key : ∀ i, ∃ (Y : List AV) (us : Nat → Value), i < len → (Y.length = tys.length ∧ (∀ j u', tys[j]? = some u' → CellOk P d u' (Y.getD j default)) ∧ ∀ j, j < P.cellsOf e → W.cell? (a.add (i * P.cellsOf e + j)) = some (us j) ∧ (us j).oneCell' = true ∧ RV W (okAll W) (Y.getD j default) (us j)) := by
            intro i
            by_cases hlt : i < len
            · obtain ⟨cs', hc, ht'⟩ := hi i (by omega)
              obtain ⟨_, hcl, hat⟩ := World.cells?_some hc
              obtain ⟨q1, q2⟩ := trod_flat 8 e tys htys fu cs' _ ht'
              have step : ∀ j, ∃ (X : AV) (uv : Value), j < tys.length → ((∀ u', tys[j]? = some u' → CellOk P d u' X) ∧ cs'[j]? = some uv ∧ uv.oneCell' = true ∧ RV W (okAll W) X uv) := by
                intro j
                by_cases hj : j < tys.length
                · obtain ⟨v, m2, y2, hv, hy2⟩ := q2 j _ (List.getElem?_eq_getElem hj)
                  obtain ⟨o1, X, hX, hR⟩ := cell_open d tys[j] (hall _ (List.getElem_mem hj)) m2 v y2 hy2
                  exact ⟨X, v, fun _ => ⟨fun u' hu' => by rw [List.getElem?_eq_getElem hj] at hu'; injection hu' with hu'; subst hu'; exact hX, hv, o1, hR⟩⟩
                · exact ⟨default, undef, fun h => absurd h hj⟩
              obtain ⟨fx, step⟩ := Classical.skolem.1 step
              obtain ⟨fv, step⟩ := Classical.skolem.1 step
              refine ⟨(List.range tys.length).map fx, fv, fun _ => ⟨by simp, fun j u' hj => ?_, fun j hj => ?_⟩⟩
              · have hjl : j < tys.length := (List.getElem?_eq_some_iff.1 hj).1
                have := (step j hjl).1 u' hj
                simpa [hjl] using this
              · have hjl : j < tys.length := by omega
                obtain ⟨_, s2, s3, s4⟩ := step j hjl
                refine ⟨?_, s3, by simpa [hjl] using s4⟩
                rw [← Go.Deep.add_add, hat j hj, s2]
            · exact ⟨[], fun _ => undef, fun h => absurd h hlt⟩
          obtain ⟨Y, key⟩ := Classical.skolem.1 key
          obtain ⟨us, key⟩ := Classical.skolem.1 key
          refine ⟨rfl, .sl (P.cellsOf e) ((List.range len).map Y), ⟨_, tys, rfl, by simp; omega, htys, fun y hy => ?_⟩, ?_⟩
          · obtain ⟨i, hi', rfl⟩ := List.mem_map.1 hy
            have := key i (by simpa using hi')
            exact ⟨this.1, this.2.1⟩
          · obtain ⟨b, off, spot⟩ := a
            refine .sl _ _ _ len cap us (by simp) hlc hcm (fun x hx' => ?_) (fun h0 => ?_) (fun i j hi' hj => ((key i hi').2.2 j hj).2.1) (fun i j hi' hj => ?_)
            · obtain ⟨i, hi', rfl⟩ := List.mem_map.1 hx'
              have := key i (by simpa using hi')
              omega
            · have c0 := ((key 0 h0).2.2 0 hpos).1
              have hspot : spot = none := by simpa [Addr.add] using World.cell?_spot c0
              subst hspot
              have hlt : b < W.heap.size := by
                rw [add_none'] at c0
                exact block_lt_of_cell c0
              refine ⟨b, off, rfl, hlt, hlt, fun i j hi' hj => ?_⟩
              have := ((key i hi').2.2 j hj).1
              rw [add_none'] at this
              rw [← this]
              congr 2
              omega
            · have := ((key i hi').2.2 j hj).2.2
              simpa [gt2, hi'] using this
      · cases h
    · cases h
/-- What an argument of type t may be. -/
def ArgOk (P : Program) (t : TypeId) (x : AV) : Prop :=
  match isAggT P t with
  | true => ∃ (cs : List AV) (tys : List TypeId), x = .agg cs ∧ flatTy P 8 t = some tys ∧ cs.length = tys.length ∧ ∀ i u, tys[i]? = some u → CellOk P 8 u (cs.getD i default)
  | false => CellOk P 8 t x
def argB (P : Program) (t : TypeId) : Bool :=
  match isAggT P t with
  | true => match flatTy P 8 t with
    | some tys => tys.all (cellB P 8)
    | none => false
  | false => cellB P 8 t
theorem arg_open {t : TypeId} {v : Value} {base : Nat} {dd : DataW H} {p : List MemPlace} (hb : argB P t = true) (hv : Value.okWide P W .any base t v) (h : DataW.Trod enc P W 0 (fun _ => true) true t v dd p) : ∃ x, ArgOk P t x ∧ RV W (okAll W) x v := by
  obtain ⟨fuel, hf⟩ := h
  unfold argB at hb
  unfold ArgOk
  split at hb
  · rename_i ha
    split at hb
    · rename_i tys htys
      have hagg : ∃ cs, v = .agg cs := by
        unfold isAggT at ha
        split at ha
        · rename_i hu; simp only [Value.okWide, hu] at hv; obtain ⟨cs, e, _⟩ := hv; exact ⟨cs, e⟩
        · rename_i hu; simp only [Value.okWide, hu] at hv; obtain ⟨cs, e, _⟩ := hv; exact ⟨cs, e⟩
        · cases ha
      obtain ⟨vs, rfl⟩ := hagg
      obtain ⟨q1, q2⟩ := trod_flat 8 t tys htys fuel _ _ hf
      have q1 : vs.size = tys.length := by simpa [Value.cells] using q1
      have step : ∀ j, ∃ (X : AV), j < tys.length → ((∀ u', tys[j]? = some u' → CellOk P 8 u' X) ∧ (vs.getD j undef).oneCell' = true ∧ RV W (okAll W) X (vs.getD j undef)) := by
        intro j
        by_cases hj : j < tys.length
        · obtain ⟨v, m2, y2, hv, hy2⟩ := q2 j _ (List.getElem?_eq_getElem hj)
          obtain ⟨o1, X, hX, hR⟩ := cell_open 8 tys[j] (List.all_eq_true.1 hb _ (List.getElem_mem hj)) m2 v y2 hy2
          have e : vs.getD j undef = v := by
            have hv' : vs[j]? = some v := by simpa [Value.cells] using hv
            rw [Array.getD_eq_getD_getElem?, hv']; rfl
          rw [e]
          exact ⟨X, fun _ => ⟨fun u' hu' => by rw [List.getElem?_eq_getElem hj] at hu'; injection hu' with hu'; subst hu'; exact hX, o1, hR⟩⟩
        · exact ⟨default, fun h => absurd h hj⟩
      obtain ⟨fx, step⟩ := Classical.skolem.1 step
      refine ⟨.agg ((List.range tys.length).map fx), ⟨_, tys, rfl, htys, by simp, fun j u' hj => ?_⟩, ?_⟩
      · have hjl : j < tys.length := (List.getElem?_eq_some_iff.1 hj).1
        have := (step j hjl).1 u' hj
        simpa [hjl] using this
      · refine .agg _ _ (by simp [q1]) (fun i hi => ?_) (fun i hi => ?_)
        · exact (step i (by simpa using hi)).2.1
        · have hi' : i < tys.length := by simpa using hi
          have := (step i hi').2.2
          simpa [hi'] using this
    · cases hb
  · rename_i ha
    have h1 : v.cells.toList = [v] := by
      cases v with
      | agg cs =>
        exfalso
        simp only [cellB] at hb
        split at hb
        · rename_i hu; obtain ⟨_, e⟩ := okWide_int hu hv; cases e
        · rename_i hu; obtain ⟨_, e⟩ := okWide_string hu hv; cases e
        · rename_i hu; obtain ⟨_, e⟩ := okWide_bool hu hv; cases e
        · rename_i hu; obtain ⟨_, _, _, e⟩ := okWide_slice hu hv; cases e
        · cases hb
      | _ => rfl
    rw [h1] at hf
    exact (cell_open 8 t hb fuel v _ hf).2
theorem args_open {base : Nat} : ∀ (ts : List TypeId) (vs : List Value) (ds : List (DataW H)) (p : List MemPlace), DataW.TrodAll enc P W 0 (fun _ => true) true ts vs ds p →
    (∀ (j : Nat) t v, ts[j]? = some t → vs[j]? = some v → Value.okWide P W .any base t v) → ts.all (argB P) = true →
    ∃ xs : List AV, xs.length = ts.length ∧ vs.length = ts.length ∧ ∀ i, i < ts.length → ArgOk P (ts.getD i 0) (xs.getD i default) ∧ RV W (okAll W) (xs.getD i default) (vs.getD i undef)
  | [], vs, ds, p, h, _, _ => by
    obtain ⟨rfl, _, _⟩ := trodAll_nil h
    exact ⟨[], rfl, rfl, fun i hi => by simp at hi⟩
  | t :: ts, vs, ds, p, h, hv, hb => by
    obtain ⟨v, vs', d, ds', p', q, rfl, rfl, rfl, h1, h2⟩ := trodAll_cons h
    rw [List.all_cons, Bool.and_eq_true] at hb
    obtain ⟨x, hx, hr⟩ := arg_open hb.1 (hv 0 t v rfl rfl) h1
    obtain ⟨xs, l1, l2, hxs⟩ := args_open ts vs' ds' q h2 (fun j t v h3 h4 => hv (j + 1) t v (by simpa using h3) (by simpa using h4)) hb.2
    refine ⟨x :: xs, by simp [l1], by simp [l2], fun i hi => ?_⟩
    cases i with
    | zero => exact ⟨hx, hr⟩
    | succ i => simpa using hxs i (by simpa using hi)
/-! ### what is known of an opened value -/
theorem cell_int {d : Nat} {u : TypeId} {k : IntKind} {x : AV} (hu : P.underlying u = some (.int k)) (h : CellOk P (d + 1) u x) : ∃ n, x = .lit (.int k n) ∧ (Lit.int k n).wf = true := by
  simpa only [CellOk, hu] using h
theorem cell_sl {d : Nat} {u e : TypeId} {x : AV} {tys : List TypeId} {s : Nat} (hu : P.underlying u = some (.slice e)) (ht : flatTy P 8 e = some tys) (hs : P.cellsOf e = s) (h : CellOk P (d + 1) u x) :
    ∃ L : List (List AV), x = .sl s L ∧ L.length ≤ maxLen ∧ ∀ y ∈ L, y.length = tys.length ∧ ∀ i u', tys[i]? = some u' → CellOk P d u' (y.getD i default) := by
  simp only [CellOk, hu] at h
  obtain ⟨L, tys', e1, h1, h2, h3⟩ := h
  rw [ht] at h2
  injection h2 with h2
  subst h2 hs
  exact ⟨L, e1, h1, h3⟩
theorem arg_cell {t : TypeId} {x : AV} (hi : isAggT P t = false) (h : ArgOk P t x) : CellOk P 8 t x := by
  unfold ArgOk at h; rwa [hi] at h
theorem arg_agg {t : TypeId} {x : AV} {tys : List TypeId} (hi : isAggT P t = true) (ht : flatTy P 8 t = some tys) (h : ArgOk P t x) : ∃ cs : List AV, x = .agg cs ∧ cs.length = tys.length ∧ ∀ i u, tys[i]? = some u → CellOk P 8 u (cs.getD i default) := by
  unfold ArgOk at h; rw [hi] at h
  obtain ⟨cs, tys', e1, h2, h3, h4⟩ := h
  rw [ht] at h2
  injection h2 with h2
  subst h2
  exact ⟨cs, e1, h3, h4⟩
theorem list_dec {α : Type} {encA : α → List AV} {Q : α → Prop} : ∀ {L : List (List AV)}, (∀ y ∈ L, ∃ a, y = encA a ∧ Q a) → ∃ l : List α, L = l.map encA ∧ ∀ a ∈ l, Q a
  | [], _ => ⟨[], rfl, fun a ha => by simp at ha⟩
  | y :: L, h => by
    obtain ⟨a, e, hq⟩ := h y (by simp)
    obtain ⟨l, e2, hl⟩ := list_dec (L := L) fun y hy => h y (by simp [hy])
    exact ⟨a :: l, by rw [e, e2]; rfl, fun b hb => by exact (List.mem_cons.1 hb).elim (fun e => e ▸ hq) (fun hb => hl b hb)⟩
end
end Go.Proofs.YtfemeeffoapemaaGreatDoor
/- Lists as plain values; loops over a list. -/
namespace Go.Proofs.YtfemeeffoapemaaGreatDoor
open Go.RowKit
set_option linter.unusedVariables false
/-- A slice whose elements are those of a list, each by its cells. -/
def lst {α : Type} (s : Nat) (enc : α → List AV) (l : List α) : AV := .sl s (l.map enc)
section
variable {α : Type} {s i j m : Nat} {enc : α → List AV} {l l' : List α} {k k' : IntKind} {a b n : Int} {x : α} {y z : AV} {F G : Prop}
@[simp] theorem lst_els : AV.els (lst s enc l) = l.map enc := rfl
@[simp] theorem lst_len : AV.len (lst s enc l) = .lit (.int .i64 (l.length : Nat)) := by simp [lst]
@[simp] theorem lst_isSl : AV.isSl (lst s enc l) j ↔ s = j := by simp [lst]
@[simp] theorem lst_isOne : AV.isOne (lst s enc l) ↔ True := by simp [lst]
@[simp] theorem lst_inb : AV.inb (lst s enc l) (.lit (.int k n)) ↔ 0 ≤ n ∧ n < l.length := by simp [lst]
@[simp] theorem lst_subOk : AV.subOk (lst s enc l) (.lit (.int k a)) (.lit (.int k' b)) ↔ 0 ≤ a ∧ a ≤ b ∧ b ≤ l.length := by simp [lst]
@[simp] theorem lst_sub : AV.sub i (lst i enc l) (.lit (.int k a)) (.lit (.int k' b)) = lst i enc ((l.take b.toNat).drop a.toNat) := by simp [lst, List.map_drop, List.map_take]
@[simp] theorem lst_app : AV.app i (lst j enc l) (lst m enc l') = lst i enc (l ++ l') := by simp [lst]
@[simp] theorem lst_nil : lst s enc [] = .sl s [] := rfl
@[simp] theorem lst_fnil : fNil (lst s enc l) F G ↔ (l = [] → F) ∧ G := by unfold lst; simp
theorem lst_at {n : Nat} (h : l[n]? = some x) : AV.at (lst s enc l) (.lit (.int k (n : Nat))) j = (enc x).getD j default := by
  simp [lst, gt2, List.getD_eq_getElem?_getD, h]
theorem lst_atAgg {n : Nat} (h : l[n]? = some x) : AV.atAgg (lst s enc l) (.lit (.int k (n : Nat))) j m = .agg (((enc x).drop j).take m) := by
  simp [lst, AV.atAgg, List.getD_eq_getElem?_getD, h]
theorem lst_atI (hn : 0 ≤ n) (h : l[n.toNat]? = some x) : AV.at (lst s enc l) (.lit (.int k n)) j = (enc x).getD j default := by
  simp [lst, gt2, List.getD_eq_getElem?_getD, h]
theorem lst_flatS (h : ∀ x ∈ l, ∀ z ∈ enc x, z.flat) : (lst s enc l).flatS := by
  intro y hy z hz
  simp only [lst_els, List.mem_map] at hy
  obtain ⟨x, hx, rfl⟩ := hy
  exact h x hx z hz
end
/-- **A loop over a list** that it reads from its head on. -/
theorem loop_list {α σ : Type} {i : Nat} (l : List α) (enc : Nat → σ → List AV) (G : Nat → List α → σ → Prop) {xs : List AV} {body : List AV → (List AV → Prop) → Prop} (s0 : σ) (h0 : xs = enc 0 s0) (hG : G 0 l s0)
    (hstep : ∀ n x rest s (K : List AV → Prop), l[n]? = some x → l.drop (n + 1) = rest → n < l.length → G n (x :: rest) s → (∀ zs s', zs = enc (n + 1) s' → G (n + 1) rest s' → K zs) → body (enc n s) K)
    (hend : ∀ s (K : List AV → Prop), G l.length [] s → body (enc l.length s) K) : fLoop i xs body := by
  subst h0
  refine ⟨fun m ys => ∃ n s, ys = enc n s ∧ n ≤ l.length ∧ m = l.length - n ∧ G n (l.drop n) s, l.length, ⟨0, s0, rfl, Nat.zero_le _, rfl, hG⟩, ?_⟩
  rintro m ys _ ⟨n, s, rfl, hn, rfl, hg⟩
  rcases Nat.lt_or_ge n l.length with h | h
  · rw [List.drop_eq_getElem_cons h] at hg
    refine hstep n l[n] (l.drop (n + 1)) s _ (List.getElem?_eq_getElem h) rfl h hg ?_
    rintro zs s' rfl hg'
    exact ⟨l.length - (n + 1), by omega, n + 1, s', rfl, h, rfl, hg'⟩
  · obtain rfl : n = l.length := by omega
    rw [List.drop_length] at hg
    exact hend s _ hg
/-- Strings. -/
theorem bytes_eq {a b : ByteArray} : (a.toList == b.toList) = decide (a = b) := by
  by_cases h : a = b
  · subst h; simp
  · rw [decide_eq_false h]
    simp only [beq_eq_false_iff_ne, ne_eq]
    intro e
    apply h
    rw [ByteArray.toList_eq, ByteArray.toList_eq] at e
    exact ByteArray.ext (Array.toList_inj.1 e)
theorem less_eq : ∀ (x y : List UInt8), Op.bytesLess x y = decide (x < y)
  | [], [] => by simp [Op.bytesLess]
  | _ :: _, [] => by simp [Op.bytesLess]
  | [], _ :: _ => by simp [Op.bytesLess]
  | a :: x, b :: y => by
    rw [Op.bytesLess, less_eq x y]
    simp only [List.cons_lt_cons_iff]
    by_cases h1 : a < b <;> by_cases h2 : a = b <;> by_cases h3 : x < y <;> simp [h1, h2, h3]
section
variable {a b : ByteArray}
@[simp] theorem av_eql_str : AV.bin .eql (.lit (.string a)) (.lit (.string b)) = .lit (.bool (decide (a = b))) := by
  show AV.bool (a.toList == b.toList) = _; rw [bytes_eq]
@[simp] theorem av_neq_str : AV.bin .neq (.lit (.string a)) (.lit (.string b)) = .lit (.bool (!decide (a = b))) := by
  show AV.bool (!(a.toList == b.toList)) = _; rw [bytes_eq]
@[simp] theorem av_binOk_eqs : AV.binOk .eql (.lit (.string a)) (.lit (.string b)) ↔ True := Iff.rfl
@[simp] theorem av_binOk_nes : AV.binOk .neq (.lit (.string a)) (.lit (.string b)) ↔ True := Iff.rfl
@[simp] theorem av_binOk_lss : AV.binOk .lss (.lit (.string a)) (.lit (.string b)) ↔ True := Iff.rfl
@[simp] theorem av_binOk_leqs : AV.binOk .leq (.lit (.string a)) (.lit (.string b)) ↔ True := Iff.rfl
@[simp] theorem av_binOk_gts : AV.binOk .gtr (.lit (.string a)) (.lit (.string b)) ↔ True := Iff.rfl
@[simp] theorem av_binOk_ges : AV.binOk .geq (.lit (.string a)) (.lit (.string b)) ↔ True := Iff.rfl
/-- The order of strings: that of their bytes. -/
def key (a : ByteArray) : List UInt8 := a.data.toList
theorem lsle_eq : (Op.bytesLess a.toList b.toList || a.toList == b.toList) = decide (key a ≤ key b) := by
  rw [less_eq, ByteArray.toList_eq, ByteArray.toList_eq]
  unfold key
  by_cases h : a.data.toList ≤ b.data.toList
  · rw [decide_eq_true h]
    by_cases h2 : a.data.toList < b.data.toList
    · simp [h2]
    · have : a.data.toList = b.data.toList := List.le_antisymm h (List.not_lt.1 h2)
      simp [this]
  · rw [decide_eq_false h]
    have h3 := List.not_le.1 h
    have h4 : ¬ a.data.toList < b.data.toList := List.not_lt.2 (List.le_of_lt h3)
    have h5 : a.data.toList ≠ b.data.toList := fun e => h (by rw [e]; exact List.le_refl _)
    rw [decide_eq_false h4, Bool.false_or]
    exact beq_eq_false_iff_ne.2 h5
@[simp] theorem av_lss_str : AV.bin .lss (.lit (.string a)) (.lit (.string b)) = .lit (.bool (decide (key a < key b))) := by
  show AV.bool (Op.bytesLess a.toList b.toList) = _; rw [less_eq, ByteArray.toList_eq, ByteArray.toList_eq]; rfl
@[simp] theorem av_leq_str : AV.bin .leq (.lit (.string a)) (.lit (.string b)) = .lit (.bool (decide (key a ≤ key b))) := by
  show AV.bool (Op.bytesLess a.toList b.toList || a.toList == b.toList) = _; rw [lsle_eq]
@[simp] theorem av_gtr_str : AV.bin .gtr (.lit (.string a)) (.lit (.string b)) = .lit (.bool (!decide (key a ≤ key b))) := by
  show AV.bool (!(Op.bytesLess a.toList b.toList || a.toList == b.toList)) = _; rw [lsle_eq]
@[simp] theorem av_geq_str : AV.bin .geq (.lit (.string a)) (.lit (.string b)) = .lit (.bool (!decide (key a < key b))) := by
  show AV.bool (!Op.bytesLess a.toList b.toList) = _; rw [less_eq, ByteArray.toList_eq, ByteArray.toList_eq]; rfl
@[simp] theorem av_un_not {p : Bool} : AV.un .not (.lit (.bool p)) = .lit (.bool (!p)) := rfl
@[simp] theorem av_unOk_not {p : Bool} : AV.unOk .not (.lit (.bool p)) ↔ True := Iff.rfl
@[simp] theorem av_un_neg {k : IntKind} {n : Int} : AV.un .neg (.lit (.int k n)) = .lit (.int k (k.wrap (0 - n))) := rfl
@[simp] theorem av_unOk_neg {k : IntKind} {n : Int} : AV.unOk .neg (.lit (.int k n)) ↔ True := Iff.rfl
@[simp] theorem av_eqB {p q : Bool} : AV.eqB (.lit (.bool p)) (.lit (.bool q)) = .lit (.bool (p == q)) := rfl
@[simp] theorem av_neB {p q : Bool} : AV.neB (.lit (.bool p)) (.lit (.bool q)) = .lit (.bool (!(p == q))) := rfl
@[simp] theorem av_binOk_adds : AV.binOk .add (.lit (.string a)) (.lit (.string b)) ↔ ((a.size + b.size : Nat) : Int) ≤ 9223372036854775807 := Iff.rfl
@[simp] theorem av_adds : AV.bin .add (.lit (.string a)) (.lit (.string b)) = .lit (.string (a ++ b)) := rfl
@[simp] theorem av_eqc_int {k k' : IntKind} {m n : Int} : AV.eqc (.lit (.int k m)) (.lit (.int k' n)) = (m == n) := rfl
@[simp] theorem av_eqc_bool {p q : Bool} : AV.eqc (.lit (.bool p)) (.lit (.bool q)) = (p == q) := rfl
@[simp] theorem av_eqc_str : AV.eqc (.lit (.string a)) (.lit (.string b)) = decide (a = b) := bytes_eq
@[simp] theorem av_okA_int {k k' : IntKind} {n : Int} : okA (.int k) (.lit (.int k' n)) ↔ k' = k := ⟨fun ⟨_, e⟩ => by injection e with e; injection e, fun e => by subst e; exact ⟨_, rfl⟩⟩
@[simp] theorem av_okA_str : okA .str (.lit (.string a)) ↔ True := ⟨fun _ => trivial, fun _ => ⟨_, rfl⟩⟩
@[simp] theorem av_okA_bool {p : Bool} : okA .bool (.lit (.bool p)) ↔ True := ⟨fun _ => trivial, fun _ => ⟨_, rfl⟩⟩
end
@[simp] theorem av_mkRef {cs : List AV} : AV.mkRef cs = .ref cs := rfl
@[simp] theorem av_mkClo {f : FuncId} {cs : List AV} : AV.mkClo f cs = .clo f cs := rfl
@[simp] theorem av_isRef {cs : List AV} {m : Nat} : AV.isRef (.ref cs) m ↔ cs.length = m := ⟨fun ⟨_, e, h⟩ => by injection e with e; rw [e]; exact h, fun h => ⟨cs, rfl, h⟩⟩
@[simp] theorem av_der {x : AV} {cs : List AV} : AV.der (.ref (x :: cs)) = x := rfl
@[simp] theorem av_derA {cs : List AV} : AV.derA (.ref cs) = .agg cs := rfl
/-- The first place at which p holds; -1: none. -/
def idxN {α : Type} (p : α → Bool) : Nat → List α → Int
  | _, [] => -1
  | n, x :: r => if p x = true then (n : Int) else idxN p (n + 1) r
/-- A nil slice that is not named by its type. -/
inductive NL : AV → AV → Prop
  | refl (x : AV) : NL x x
  | nil (s : Nat) : NL (.lit (.slice none 0 0)) (.sl s [])
  | agg (cs ds : List AV) (h : cs.length = ds.length) (hi : ∀ i, i < cs.length → NL (cs.getD i default) (ds.getD i default)) : NL (.agg cs) (.agg ds)
theorem NL.rv {w : World} {ok : Nat → Prop} {x y : AV} {v : Value} (h : NL x y) (hv : RV w ok x v) : RV w ok y v := by
  induction h generalizing v with
  | refl x => exact hv
  | nil s => cases hv; exact .sl s [] none 0 0 (fun _ _ => undef) rfl (Nat.le_refl _) (by unfold maxLen; omega) (by simp) (fun q => absurd q (by omega)) (fun i j hi => absurd hi (by omega)) (fun i j hi => absurd hi (by omega))
  | agg cs ds h hi ih =>
    cases hv with
    | agg _ vs h1 h2 h3 => exact .agg ds vs (h1.trans h) (fun i q => h2 i (h ▸ q)) fun i q => ih i (h ▸ q) (h3 i (h ▸ q))
inductive NLs : List AV → List AV → Prop
  | nil : NLs [] []
  | cons {x y : AV} {l m : List AV} (h : NL x y) (t : NLs l m) : NLs (x :: l) (y :: m)
theorem NLs.get {l m : List AV} (h : NLs l m) : l.length = m.length ∧ ∀ i, i < l.length → NL (l.getD i default) (m.getD i default) := by
  induction h with
  | nil => exact ⟨rfl, fun i h => absurd h (by simp)⟩
  | cons h t ih =>
    refine ⟨by simp [ih.1], fun i hi => ?_⟩
    cases i with
    | zero => exact h
    | succ i => simpa using ih.2 i (by simpa using hi)
theorem NL.aggs {l m : List AV} (h : NLs l m) : NL (.agg l) (.agg m) := .agg _ _ h.get.1 h.get.2
theorem Fn.nl {P : Program} {f : FuncId} {args args' : List AV} {sh : Sh} {r : AV} (h : Fn P f args sh r) (hn : NLs args' args) : Fn P f args' sh r :=
  ⟨h.1, fun w ok cargs h1 hgl h2 h3 => h.2 w ok cargs h1 hgl (h2.trans hn.get.1) fun i hi => (hn.get.2 i (hn.get.1 ▸ hi)).rv (h3 i (hn.get.1 ▸ hi))⟩
end Go.Proofs.YtfemeeffoapemaaGreatDoor
/- Arguments of plain types, opened. -/
namespace Go.Proofs.YtfemeeffoapemaaGreatDoor
open Go.RowKit
set_option linter.unusedVariables false
def I64 (n : Int) : Prop := -9223372036854775808 ≤ n ∧ n ≤ 9223372036854775807
theorem i64_of {n : Int} (h : (Lit.int .i64 n).wf = true) : I64 n := by
  have h' : (IntKind.i64.min ≤ n && n ≤ IntKind.i64.max) = true := h
  simp only [Bool.and_eq_true, decide_eq_true_eq] at h'
  have e1 : IntKind.i64.min = -9223372036854775808 := by decide
  have e2 : IntKind.i64.max = 9223372036854775807 := by decide
  rw [e1, e2] at h'
  exact h'
section
variable {P : Program} {u e : TypeId} {x : AV} {d : Nat}
theorem c_int (hu : P.underlying u = some (.int .i64)) (h : CellOk P (d + 1) u x) : ∃ n, x = .int n ∧ I64 n := by
  obtain ⟨n, e, hw⟩ := cell_int hu h
  exact ⟨n, e, i64_of hw⟩
/-- A slice whose elements are read by 'encA'. -/
theorem c_lst {α : Type} {encA : α → List AV} {Q : α → Prop} {tys : List TypeId} {s : Nat} (hu : P.underlying u = some (.slice e)) (ht : flatTy P 8 e = some tys) (hs : P.cellsOf e = s)
    (hd : ∀ y : List AV, y.length = tys.length → (∀ i u', tys[i]? = some u' → CellOk P d u' (y.getD i default)) → ∃ a, y = encA a ∧ Q a) (h : CellOk P (d + 1) u x) : ∃ l : List α, x = lst s encA l ∧ l.length ≤ maxLen ∧ ∀ a ∈ l, Q a := by
  obtain ⟨L, e1, h1, h2⟩ := cell_sl hu ht hs h
  obtain ⟨l, e2, h3⟩ := list_dec (L := L) (encA := encA) (Q := Q) fun y hy => hd y (h2 y hy).1 (h2 y hy).2
  subst e2
  exact ⟨l, e1, by simpa using h1, h3⟩
end
end Go.Proofs.YtfemeeffoapemaaGreatDoor
/- Names: what the run ends in. -/
namespace Go.Proofs.YtfemeeffoapemaaGreatDoor
open Go.RowKit
set_option linter.unusedVariables false
set_option maxRecDepth 100000
namespace NameF
--GAMMA
def Γ : FuncId → Option Ca := fun _ => none
def ann : FuncId → Nat → LoopEx := fun _ _ => ⟨[], [], [], []⟩
--END GAMMA
end NameF
end Go.Proofs.YtfemeeffoapemaaGreatDoor
/- Names. -/
namespace Go.Proofs.YtfemeeffoapemaaGreatDoor
open Go.RowKit
set_option linter.unusedVariables false
set_option linter.unusedSimpArgs false
set_option maxRecDepth 100000
def up (c : UInt8) : Prop := 65 ≤ c.toNat ∧ c.toNat ≤ 90
def dig (c : UInt8) : Prop := 48 ≤ c.toNat ∧ c.toNat ≤ 57
instance (c : UInt8) : Decidable (up c) := inferInstanceAs (Decidable (_ ∧ _))
instance (c : UInt8) : Decidable (dig c) := inferInstanceAs (Decidable (_ ∧ _))
def nameG : Nat → List UInt8 → Bool
  | _, [] => true
  | n, x :: rest => decide (up x ∨ (0 < n ∧ dig x)) && nameG (n + 1) rest
/-- A name: one to eight letters and digits, no digit at its head. -/
def isName (s : ByteArray) : Bool := decide (1 ≤ s.size ∧ s.size ≤ 8) && nameG 0 (key s)
@[simp] theorem key_len (s : ByteArray) : (key s).length = s.size := Array.length_toList
def encB (c : UInt8) : List AV := [.lit (.int .u8 c.toNat)]
end Go.Proofs.YtfemeeffoapemaaGreatDoor
/- A law's walk where the arguments' weights are known (the form's own reach). -/
namespace Go.Proofs.YtfemeeffoapemaaGreatDoor
open Go.ChangeShapes Go.WideShapes Go.ChangeAt Go.RowKit Go.Joins Go.Deep
set_option linter.unusedVariables false
section
variable {H : Type} {enc : TypeId × Value → H} {P : Program} {W : World}
theorem sized_one {t e : TypeId} {v : Value} {dd : DataW H} {p : List MemPlace} {s : Nat} {L : List (List AV)} {ok : Nat → Prop} (hu : P.underlying t = some (.slice e)) (h : DataW.Trod enc P W 0 (fun _ => true) true t v dd p) (hr : RV W ok (.sl s L) v) (hw : ∀ n ∈ dd.weights P t, n ≤ reachBytes) : L.length * P.bytesOf e ≤ reachBytes := by
  obtain ⟨fuel, hf⟩ := h
  cases hr with
  | sl _ _ A n c us hn hnc hc hs hA hone hu' =>
    have h1 : (Value.slice A n c).cells.toList = [.slice A n c] := rfl
    rw [h1] at hf
    rcases open_slice hu hf with ⟨ev, ex⟩ | ⟨a, len, cap, m', fu, D, Pl, ev, hb, hlc, hcm, hmm, hx, hi⟩
    · injection ev with ev _
      injection ev with _ ev _
      rw [hn, ev]
      simp [reachBytes]
    · injection ev with ev _
      injection ev with _ ev _
      injection hx with hx _
      have := hw (((List.range len).map D).length + ((List.range (m' - len)).map fun j => D (len + j)).length |> (· * P.bytesOf e)) (by rw [hx]; simp [DataW.weights, hu])
      simp at this
      rw [hn, ev]
      exact Nat.le_trans (Nat.mul_le_mul_right _ (Nat.le_add_right _ _)) this
theorem trodAll_at : ∀ (ts : List TypeId) (vs : List Value) (ds : List (DataW H)) (p : List MemPlace), DataW.TrodAll enc P W 0 (fun _ => true) true ts vs ds p → ∀ i, i < ts.length → ∃ dd q, ds[i]? = some dd ∧ DataW.Trod enc P W 0 (fun _ => true) true (ts.getD i 0) (vs.getD i undef) dd q
  | [], vs, ds, p, h, i, hi => by simp at hi
  | t :: ts, vs, ds, p, h, i, hi => by
    obtain ⟨v, vs', d, ds', p', q, rfl, rfl, rfl, h1, h2⟩ := trodAll_cons h
    cases i with
    | zero => exact ⟨d, p', rfl, h1⟩
    | succ i =>
      obtain ⟨dd, q', e1, e2⟩ := trodAll_at ts vs' ds' q h2 i (by simpa using hi)
      exact ⟨dd, q', by simpa using e1, by simpa using e2⟩
/-- **A law's walk**, its arguments' weights being within the form's reach. -/
theorem law_calls_sized {f : FuncId} {F : Func} {args : Array Value} {ds gs : List (DataW H)} {us : List TypeId} {p : List MemPlace} {base : Nat} (hb : F.params.toList.all (argB P) = true)
    (hfn : ∀ xs : List AV, xs.length = F.params.toList.length → (∀ i, i < F.params.toList.length → ArgOk P (F.params.toList.getD i 0) (xs.getD i default)) →
      (∀ i s L e, i < F.params.toList.length → xs.getD i default = .sl s L → P.underlying (F.params.toList.getD i 0) = some (.slice e) → L.length * P.bytesOf e ≤ reachBytes) → Fn P f xs .sc (.bool true))
    (hval : ∀ (j : Nat) t v, F.params[j]? = some t → args[j]? = some v → Value.okWide P W .any base t v)
    (hA : DataW.TrodAll enc P W 0 (fun _ => true) true F.params.toList args.toList ds p)
    (hsz : (DataW.weightsEach P (F.params.toList ++ us) (ds ++ gs)).all (· ≤ reachBytes) = true) (hgl : Gl W.heap.size W (okAll W) := by (exact ⟨by (intro p hp; simp [globL] at hp), by (intro g hg; simp [globI] at hg)⟩)) : Calls P f args W (Ret (.bool true) W) := by
  obtain ⟨xs, l1, l2, hxs⟩ := args_open F.params.toList args.toList ds p hA (fun j t v h1 h2 => hval j t v (by simpa using h1) (by simpa using h2)) hb
  refine ((hfn xs l1 (fun i hi => (hxs i hi).1) (fun i s L e hi hx hu => ?_)).2 W (okAll W) args (fun g hg => hg) hgl (by rw [l1, ← l2]; simp) fun i hi => ?_).mono ?_
  · obtain ⟨dd, q, e1, e2⟩ := trodAll_at F.params.toList args.toList ds p hA i hi
    have hr := (hxs i hi).2
    rw [hx] at hr
    refine sized_one hu e2 hr fun n hn => ?_
    have hm := DataW.weights_mem_each (P := P) (ts := F.params.toList ++ us) (ds := ds ++ gs) (j := i) (t := F.params.toList.getD i 0) (d := dd)
      (by rw [List.getElem?_append_left hi, List.getD_eq_getElem?_getD, List.getElem?_eq_getElem hi]; rfl)
      (by
        have hid : i < ds.length := (List.getElem?_eq_some_iff.1 e1).1
        rw [List.getElem?_append_left hid]; exact e1) n hn
    have := List.all_eq_true.1 hsz n hm
    simpa using this
  · have := (hxs i (by omega)).2
    rwa [show args.getD i undef = args.toList.getD i undef by simp [List.getD_eq_getElem?_getD, Array.getD_eq_getD_getElem?]]
  · rintro e W' ⟨v, rfl, hbel, hr, _⟩
    have hr' : RV W' noBlock (.bool true) v := hr
    exact ret_mk (RV.lit_iff.1 hr') hbel
end
end Go.Proofs.YtfemeeffoapemaaGreatDoor
/- Package-level variables that are laid, as known cells. -/
namespace Go.Proofs.YtfemeeffoapemaaGreatDoor
open Go.ChangeShapes Go.WideShapes Go.ChangeAt Go.RowKit
set_option linter.unusedVariables false
section
variable {H : Type} {enc : TypeId × Value → H} {P : Program} {W : World}
def datV {H : Type} : DataW H → Value
  | .lit (.string s) => .string ⟨s.toArray⟩
  | .lit (.int k n) => .int k n
  | .lit (.bool b) => .bool b
  | .lit (.float k b) => .float k b
  | _ => undef
theorem trod_flt {k : FloatKind} {w : World} {base : Nat} {spare : Nat → Bool} {held : Bool} {fuel : Nat} {t : TypeId} {cs : List Value} {x : DataW H × List MemPlace} (ht : P.underlying t = some (.float k)) (h : DataW.trod enc P w base spare held fuel t cs = some x) : ∃ n, cs = [.float k n] ∧ x = (.lit (.float k n), []) := by
  cases fuel with
  | zero => simp [DataW.trod] at h
  | succ n =>
    unfold DataW.trod at h
    rw [ht] at h
    split at h <;> simp_all
/-- An array of floats, opened. -/
theorem arr_openF {t e : TypeId} {k fuel : Nat} {fk : FloatKind} {cs : List Value} {ds : List (DataW H)} {p : List MemPlace} (ht : P.underlying t = some (.array k e)) (hc : P.cellsOf e = 1) (hct : P.cellsOf t = k)
    (he : P.underlying e = some (.float fk)) (h : DataW.trod enc P W 0 (fun _ => true) false fuel t cs = some (.agg ds, p)) : cs = ds.map datV := by
  obtain ⟨xs, m, rfl, hx, hlen, hn, hel⟩ := DataW.trod_array ht h
  simp only [Prod.mk.injEq, DataW.agg.injEq] at hx
  rw [hct] at hlen
  obtain ⟨rfl, _⟩ := hx
  apply List.ext_getElem?
  intro i
  by_cases hi : i < k
  · have h1 := hel i hi
    rw [hc, Nat.mul_one] at h1
    have h2 : (cs.drop i).take 1 = [cs[i]'(by omega)] := by
      rw [List.drop_eq_getElem_cons (by omega)]; rfl
    rw [h2] at h1
    have h3 : xs[i]? = some (xs[i]'(by omega)) := List.getElem?_eq_getElem (by omega)
    rw [h3] at h1
    rw [List.getElem?_map, List.getElem?_map, h3, List.getElem?_eq_getElem (by omega)]
    simp only [Option.map_some, Option.some.injEq]
    generalize xs[i]'(by omega) = y at h1
    obtain ⟨n, e1, e2⟩ := trod_flt he h1
    rw [e2]
    simp only [List.cons.injEq, and_true] at e1
    rw [e1]; rfl
  · rw [List.getElem?_eq_none (by omega), List.getElem?_eq_none (by simp; omega)]
/-- One variable's cells. -/
theorem var_known {n : String} {g : Nat} {cs : Array Value} {vs : List Value} (hg : P.globalNamed n = some g) (hv : W.var? P n = some cs) (h : cs.toList = vs) (h1 : vs.all (·.oneCell') = true) :
    g < W.heap.size ∧ okAll W g ∧ (∀ i, i < vs.length → W.cell? ⟨g, i, none⟩ = some (vs.getD i undef) ∧ (vs.getD i undef).oneCell' = true) ∧ ∃ x y, W.heap[g]? = some (.cells vs.toArray x y) := by
  have hlt : g < W.heap.size := by
    simp only [World.var?, hg, Option.bind_some] at hv
    split at hv
    · rename_i q; exact (Array.getElem?_eq_some_iff.1 q).1
    · cases hv
  have hblk : ∃ x y, W.heap[g]? = some (.cells vs.toArray x y) := by
    simp only [World.var?, hg, Option.bind_some] at hv
    split at hv
    · rename_i cs' x y q
      injection hv with hv
      subst hv
      subst h
      exact ⟨x, y, by rw [q]⟩
    · cases hv
  refine ⟨hlt, hlt, fun i hi => ?_, hblk⟩
  rw [World.var?_cell hg hv i]
  subst h
  have hi' : i < cs.size := by simpa using hi
  refine ⟨by simp [hi'], ?_⟩
  have := List.all_eq_true.1 h1 (cs.toList.getD i undef) (by simp [List.getD_eq_getElem?_getD, hi'])
  exact this
end
end Go.Proofs.YtfemeeffoapemaaGreatDoor
/- The run at values that are written out: it is reckoned through, call by call. -/
namespace Go.Proofs.YtfemeeffoapemaaGreatDoor
open Go.RowKit
set_option linter.unusedVariables false
set_option linter.unusedSimpArgs false
/-! ### likeness -/
def all2 {α β : Type} (p : α → β → Bool) : List α → List β → Bool
  | [], [] => true
  | a :: l, b :: m => p a b && all2 p l m
  | _, _ => false
theorem all2_ok {α : Type} {p : α → α → Bool} (hp : ∀ a b, p a b = true → a = b) : ∀ (l m : List α), all2 p l m = true → l = m
  | [], [], _ => rfl
  | a :: l, b :: m, h => by
    simp only [all2, Bool.and_eq_true] at h
    rw [hp _ _ h.1, all2_ok hp l m h.2]
  | [], _ :: _, h => by cases h
  | _ :: _, [], h => by cases h
def sameV : Value → Value → Bool
  | .int k n, .int k' n' => decide (k = k') && decide (n = n')
  | .bool b, .bool b' => b == b'
  | .string a, .string b => a.data.toList == b.data.toList
  | .float k n, .float k' n' => decide (k = k') && decide (n = n')
  | .slice none 0 0, .slice none 0 0 => true
  | .nilIface, .nilIface => true
  | _, _ => false
theorem sameV_ok : ∀ (a b : Value), sameV a b = true → a = b := by
  intro a b h
  unfold sameV at h
  split at h
  · simp only [Bool.and_eq_true, decide_eq_true_eq] at h
    rw [h.1, h.2]
  · rename_i b b'
    have : b = b' := by simpa using h
    rw [this]
  · rename_i a b
    have h : a.data.toList = b.data.toList := by simpa using h
    have : a = b := by
      cases a; cases b
      simp only [ByteArray.mk.injEq]
      exact Array.toList_inj.1 h
    rw [this]
  · simp only [Bool.and_eq_true, decide_eq_true_eq] at h
    rw [h.1, h.2]
  · rfl
  · rfl
  · cases h
def AV.same : Nat → AV → AV → Bool
  | 0, _, _ => false
  | n + 1, x, y => match x, y with
    | .lit a, .lit b => sameV a b
    | .sl s L, .sl s' L' => s == s' && all2 (all2 (AV.same n)) L L'
    | .agg l, .agg m => all2 (AV.same n) l m
    | .tup l, .tup m => all2 (AV.same n) l m
    | .ref l, .ref m => all2 (AV.same n) l m
    | .clo f l, .clo g m => f == g && all2 (AV.same n) l m
    | _, _ => false
theorem AV.same_ok : ∀ (n : Nat) (x y : AV), AV.same n x y = true → x = y := by
  intro n
  induction n with
  | zero => intro x y h; cases h
  | succ n ih =>
    intro x y h
    unfold AV.same at h
    split at h
    · rw [sameV_ok _ _ h]
    · simp only [Bool.and_eq_true, beq_iff_eq] at h
      rw [h.1, all2_ok (all2_ok ih) _ _ h.2]
    · rw [all2_ok ih _ _ h]
    · rw [all2_ok ih _ _ h]
    · rw [all2_ok ih _ _ h]
    · simp only [Bool.and_eq_true, beq_iff_eq] at h
      rw [h.1, all2_ok ih _ _ h.2]
    · cases h
def nl1B (x y : AV) : Bool := match x, y with
  | .lit (.slice none 0 0), .sl _ [] => true
  | x, y => AV.same 16 x y
/-- Alike, or nil where the other is an empty slice. -/
def nlB (x y : AV) : Bool := match x, y with
  | .agg cs, .agg ds => all2 nl1B cs ds
  | x, y => nl1B x y
theorem nl1B_ok {x y : AV} (h : nl1B x y = true) : NL x y := by
  unfold nl1B at h
  split at h
  · exact .nil _
  · rw [AV.same_ok 16 _ _ h]; exact .refl _
theorem nls_ok {p : AV → AV → Bool} (hp : ∀ x y, p x y = true → NL x y) : ∀ (l m : List AV), all2 p l m = true → NLs l m
  | [], [], _ => .nil
  | a :: l, b :: m, h => by
    simp only [all2, Bool.and_eq_true] at h
    exact .cons (hp _ _ h.1) (nls_ok hp l m h.2)
  | [], _ :: _, h => by cases h
  | _ :: _, [], h => by cases h
theorem nlB_ok (x y : AV) (h : nlB x y = true) : NL x y := by
  unfold nlB at h
  split at h
  · exact NL.aggs (nls_ok (fun _ _ => nl1B_ok) _ _ h)
  · exact nl1B_ok h
/-! ### what is known of the functions called -/
structure Ct (P : Program) where
  f : FuncId
  sh : Sh
  l : List {q : List AV × AV // Fn P f q.1 sh q.2}
structure Cx (P : Program) where
  f : FuncId
  l : List {q : List AV × AV // FnE P f q.1 q.2}
/-- A function that changes a row of the caller's. -/
structure Uq where
  e : Nat
  s : Nat
  X : AV
  xs : List AV
  r : AV
structure Cu (P : Program) where
  f : FuncId
  ret : Bool
  l : List {q : Uq // FnU P f q.e q.s q.X q.xs ret q.r}
/-- The tables: contracts; functions without a text; functions that change a row; functions that a call enters. -/
structure Tb (P : Program) where
  T : List (Ct P)
  X : List (Cx P)
  U : List (Cu P)
  E : List {f : FuncId // Ent P f}
def Tb.ga {P : Program} (t : Tb P) : FuncId → Option Ca := fun f => match t.T.find? (fun c => c.f == f) with
  | some c => some (.fn c.sh)
  | none => match t.X.find? (fun c => c.f == f) with
    | some _ => some .ext
    | none => match t.U.find? (fun c => c.f == f) with
      | some c => some (.upd c.ret)
      | none => some .inl
def ann0 : FuncId → Nat → LoopEx := fun _ _ => ⟨[], [], [], []⟩
/-- A call by contract: of what, with what. -/
def callOf (o : Op) (V : View) : Option (FuncId × List AV) := match o with
  | .call { callee := .value g, args, .. } => match V.ev g with
    | .fn f caps => match V.pls (args.toList.map V.ev ++ caps) with
      | some (xs, _) => some (f, xs)
      | none => none
    | _ => none
  | _ => none
def Tb.find {P : Program} (t : Tb P) (f : FuncId) (xs : List AV) : Option AV := match t.T.find? (fun c => c.f == f) with
  | some c => (c.l.find? fun q => all2 nlB xs q.1.1).map (·.1.2)
  | none => match t.X.find? (fun c => c.f == f) with
    | some c => (c.l.find? fun q => all2 (AV.same 16) q.1.1 xs).map (·.1.2)
    | none => none
/-- A call that changes a row. -/
def updOf {P : Program} (t : Tb P) (o : Op) (V : View) : Option (FuncId × Nat × Nat × AV × List AV) := match o with
  | .call { callee := .value g, args, .. } => match V.ev g with
    | .fn f caps => match t.ga f with
      | some (.upd _) => match args.toList.map V.ev ++ caps with
        | .row b n :: rest => match V.bl b, V.caps rest with
          | .row e s m X, some (xs, r) => if m = n ∧ ¬ r.contains b then some (f, e, s, X, xs) else none
          | _, _ => none
        | _ => none
      | _ => none
    | _ => none
  | _ => none
def Tb.findU {P : Program} (t : Tb P) (f : FuncId) (e s : Nat) (X : AV) (xs : List AV) : Option AV := match t.U.find? (fun c => c.f == f) with
  | some c => (c.l.find? fun q => (q.1.e == e && q.1.s == s) && (AV.same 16 q.1.X X && all2 (AV.same 16) q.1.xs xs)).map (·.1.r)
  | none => none
theorem Tb.findU_ok {P : Program} (t : Tb P) {o : Oper} {st : Nat} {V : View} {f : FuncId} {e s : Nat} {X : AV} {xs : List AV} {r : AV} {ob : AV → Prop} {δ : AV → Delta} (hc : updOf t o.op V = some (f, e, s, X, xs)) (hf : t.findU f e s X xs = some r) (ho : opD P t.ga o st V = .ex ob δ) : ob r := by
  unfold updOf at hc
  split at hc
  · rename_i g args _ hop
    split at hc
    · rename_i f' caps hev
      split at hc
      · rename_i ret hga
        split at hc
        · rename_i b n rest hargs
          split at hc
          · rename_i e' s' m X' xs' r' hb hcaps
            split at hc
            · rename_i hcond
              simp only [Option.some.injEq, Prod.mk.injEq] at hc
              obtain ⟨rfl, rfl, rfl, rfl, rfl⟩ := hc
              unfold opD at ho
              simp only [hop, hev, hga, hargs, hb, hcaps, if_pos hcond] at ho
              cases ho
              unfold Tb.findU at hf
              split at hf
              · rename_i c hcf
                have hfc : c.f = f' := by simpa using List.find?_some hcf
                have hret : c.ret = ret := by
                  unfold Tb.ga at hga
                  split at hga
                  · cases hga
                  · split at hga
                    · cases hga
                    · rw [hcf] at hga
                      simpa using hga
                obtain ⟨q, hq, rfl⟩ := Option.map_eq_some_iff.1 hf
                have hq := List.find?_some (p := fun (q : {q : Uq // FnU P c.f q.e q.s q.X q.xs c.ret q.r}) => (q.1.e == e' && q.1.s == s') && (AV.same 16 q.1.X X' && all2 (AV.same 16) q.1.xs xs')) hq
                obtain ⟨⟨qe, qs, qX, qx, qr⟩, hqq⟩ := q
                simp only [Bool.and_eq_true, beq_iff_eq] at hq
                obtain ⟨⟨h1, h2⟩, h3, h4⟩ := hq
                have h3 := AV.same_ok 16 _ _ h3
                have h4 := all2_ok (AV.same_ok 16) _ _ h4
                subst h1 h2 h3 h4 hfc hret
                exact hqq
              · cases hf
            · cases hc
          · cases hc
        · cases hc
      · cases hc
    · cases hc
  · cases hc
theorem Tb.nest_none {P : Program} (t : Tb P) (o : Op) (V : View) : nestOf t.ga o V = none := by
  unfold nestOf
  split
  · split
    · split
      · rename_i f _ e s j e' foc he
        unfold Tb.ga at he
        split at he
        · cases he
        · split at he
          · cases he
          · split at he <;> cases he
      · rfl
    · rfl
  · rfl
theorem Tb.find_ok {P : Program} (t : Tb P) {o : Oper} {st : Nat} {V : View} {f : FuncId} {xs : List AV} {r : AV} {ob : AV → Prop} {δ : AV → Delta} (hc : callOf o.op V = some (f, xs)) (hf : t.find f xs = some r) (ho : opD P t.ga o st V = .ex ob δ) : ob r := by
  unfold callOf at hc
  split at hc
  · rename_i g args x hop
    split at hc
    · rename_i f' caps hev
      split at hc
      · rename_i xs' r' hp
        simp only [Option.some.injEq, Prod.mk.injEq] at hc
        obtain ⟨rfl, rfl⟩ := hc
        unfold opD at ho
        simp only [hop, hev] at ho
        unfold Tb.find at hf
        unfold Tb.ga at ho
        split at hf
        · rename_i c hcf
          simp only [hcf, hp] at ho
          have hfc : c.f = f' := by simpa using List.find?_some hcf
          obtain ⟨q, hq, rfl⟩ := Option.map_eq_some_iff.1 hf
          have hx : NLs xs' q.1.1 := nls_ok nlB_ok _ _ (List.find?_some (p := fun (q : {q : List AV × AV // Fn P c.f q.1 c.sh q.2}) => all2 nlB xs' q.1.1) hq)
          split at ho
          · cases ho
            obtain ⟨⟨qx, qr⟩, hqq⟩ := q
            subst hfc
            exact hqq.nl hx
          · cases ho
        · rename_i hcf
          simp only [hcf] at ho
          split at hf
          · rename_i c hcx
            simp only [hcx, hp] at ho
            have hfc : c.f = f' := by simpa using List.find?_some hcx
            obtain ⟨q, hq, rfl⟩ := Option.map_eq_some_iff.1 hf
            have hx : q.1.1 = xs' := all2_ok (AV.same_ok 16) _ _ (List.find?_some (p := fun (q : {q : List AV × AV // FnE P c.f q.1 q.2}) => all2 (AV.same 16) q.1.1 xs') hq)
            split at ho
            · rename_i h1
              cases ho
              simp only [Option.some.injEq, Prod.mk.injEq] at h1
              obtain ⟨⟨qx, qr⟩, hqq⟩ := q
              have hx : qx = xs' := hx
              obtain ⟨h1, _⟩ := h1
              subst hx hfc
              rw [← h1]
              exact hqq
            · cases ho
          · cases hf
      · cases hc
    · cases hc
  · cases hc
/-- Entries of the tables, by their proofs. -/
def en {P : Program} {f : FuncId} {sh : Sh} {xs : List AV} {r : AV} (h : Fn P f xs sh r) : {q : List AV × AV // Fn P f q.1 sh q.2} := ⟨(xs, r), h⟩
def ex {P : Program} {f : FuncId} {xs : List AV} {r : AV} (h : FnE P f xs r) : {q : List AV × AV // FnE P f q.1 q.2} := ⟨(xs, r), h⟩
def eu {P : Program} {f : FuncId} {e s : Nat} {X : AV} {xs : List AV} {ret : Bool} {r : AV} (h : FnU P f e s X xs ret r) : {q : Uq // FnU P f q.e q.s q.X q.xs ret q.r} := ⟨⟨e, s, X, xs, r⟩, h⟩
def Tb.ent {P : Program} (t : Tb P) (f : FuncId) : Bool := t.E.any fun q => q.1 == f
theorem Tb.ent_ok {P : Program} (t : Tb P) {f : FuncId} (h : t.ent f = true) : Ent P f := by
  obtain ⟨q, _, hq⟩ := List.any_eq_true.1 h
  have : q.1 = f := by simpa using hq
  exact this ▸ q.2
--BEGIN EV
/-! ### the run -/
section
variable {R : Type} (allV : (Array Value → R) → R) (no : String → R) (need : FuncId → List AV → R) (P : Program) (t : Tb P)
abbrev InlE (R : Type) := FuncId → List DE → DS → (DE → DS → R) → R
def obAll (l : List Ob) : Bool := l.all (·.b)
def stepE (inl : InlE R) (dr : Bool) (hint : Option Bool) (o : Oper) (σ : DS) (K : List (Nat × DB) → DS → R) : R :=
  match inlOf t.ga o.op (σ.view o.op) with
  | some (f, args) => match dr, t.ent f with
    | false, true => inl f args σ fun d σ' => K [] ({ σ'.put o.dst d with clk := σ'.clk + 64 })
    | true, _ => no "a call to walk into, in a region that draws its order"
    | false, false => need (f + 1000000) []
  | none => match nilOf P o.op (σ.view o.op) with
    | some (x, b) => (match dr with
      | true => no "nil, in a region that draws its order"
      | false => match (σ.view o.op).ev x with
        | .nil => K [] (Delta.app ⟨.c (.bool b), []⟩ o.dst σ)
        | d => match (σ.view o.op).pc d with
          | some (.sl _ (_ :: _), []) => K [] (Delta.app ⟨.c (.bool (!b)), []⟩ o.dst σ)
          | some (.lit (.slice none 0 0), []) => K [] (Delta.app ⟨.c (.bool b), []⟩ o.dst σ)
          | _ => no "a slice compared with nil")
    | none => match updOf t o.op { σ.view o.op with hint := hint } with
     | some (f, e, s, X, xs) => (match t.findU f e s X xs with
        | some r => (match opD P t.ga o σ.clk { σ.view o.op with hint := hint } with
          | .ex _ δ => K (δ r).bs ((δ r).app o.dst σ)
          | .det _ _ => no "a call"
          | .stuck why => no why)
        | none => need (f + 2000000) (X :: xs))
     | none => match callOf o.op { σ.view o.op with hint := hint } with
      | some (f, xs) => (match t.find f xs with
        | some r => (match opD P t.ga o σ.clk { σ.view o.op with hint := hint } with
          | .ex _ δ => K (δ r).bs ((δ r).app o.dst σ)
          | .det _ _ => no "a call"
          | .stuck why => no why)
        | none => need f xs)
      | none => match opD P t.ga o σ.clk { σ.view o.op with hint := hint } with
        | .det obs δ => (match obAll obs with
          | true => K δ.bs (δ.app o.dst σ)
          | false => no "what an operation asks")
        | .ex _ _ => no "a call"
        | .stuck why => no why
def decE (x : AV) (a b : Unit → R) : R := match x with
  | .lit (.bool true) => a ()
  | .lit (.bool false) => b ()
  | _ => no "a choice"
def gateE (ops : List Oper) (dec : List (Nat × Bool)) (o : Oper) (σ : DS) (G : List (Nat × Bool) → Bool → R) : R :=
  match o.guard with
  | none => G dec true
  | some (j, want) => match slotOf ops j with
    | none => no "guard"
    | some t => match dec.lookup j with
      | some b => G dec (b == want)
      | none => match σ.tm.getD t .any with
        | .c (.bool b) => G dec (b == want)
        | .c (.tuple _) => G dec false
        | .v x => decE no x (fun _ => G ((j, true) :: dec) (true == want)) (fun _ => G ((j, false) :: dec) (false == want))
        | _ => no "guard"
def regE (inl : InlE R) (dr : Bool) (ops : List Oper) : List (Nat × Bool) → List Foot → List Oper → DS → (DS → R) → R
  | _, fs, [], σ, K => (match !dr || drawOk ops fs with | true => K σ | false => no "a region that draws its order")
  | dec, fs, o :: rest, σ, K => gateE no ops dec o σ fun dec' run =>
    match run with
    | true => stepE no need P t inl dr (hintOf ops dec' o) o σ (fun bs σ' => regE inl dr ops (stillDec ops o dec') (fs ++ [footOf ops o σ bs]) rest σ' K)
    | false => regE inl dr ops (stillDec ops o dec') (fs ++ [footSkip ops o]) rest (σ.skip o.dst) K
def loopE (run : DS → (Exit → DS → R) → R) : Nat → DS → (Exit → DS → R) → R
  | 0, _, _ => no "too many rounds"
  | n + 1, σ, K => run σ fun e σ' => match e with | .normal => loopE run n σ' K | e => K e σ'
def runE (inl : InlE R) : Code → DS → (Exit → DS → R) → R
  | .skip, σ, K => K .normal σ
  | .region _ ops dr, σ, K => regE no need P t inl dr ops.toList [] [] ops.toList (preFz dr ops.toList σ) (K .normal)
  | .seq a b, σ, K => runE inl a σ fun e σ' => match e with | .normal => runE inl b σ' K | e => K e σ'
  | .cond c a b, σ, K => match σ.fview.ev c with
    | .c (.bool true) => runE inl a σ K
    | .c (.bool false) => runE inl b σ K
    | .v x => decE no x (fun _ => runE inl a σ K) (fun _ => runE inl b σ K)
    | _ => no "cond"
  | .block id a, σ, K => runE inl a σ fun e σ' => match e with | .exit i => (match decide (i = id) with | true => K .normal σ' | false => K (.exit i) σ') | e => K e σ'
  | .exit id, σ, K => K (.exit id) σ
  | .ret, σ, K => K .ret σ
  | .loop a, σ, K => loopE no (fun σ K => runE inl a σ K) 4096 σ K
  | _, _, _ => no "code"
def inE : Nat → InlE R
  | 0, _, _, _, _ => no "too deep"
  | n + 1, f, args, σ, K => match P.funcs[f]? with
    | none => no "no such function"
    | some fn => match fn.body with
      | none => no "no body"
      | some c => allV fun vs =>
        let σ1 : DS := { tm := args ++ List.replicate (fn.ntmps - args.length) (.c undef), bl := (σ.clk, .sv σ.tm vs) :: σ.bl, clk := σ.clk + 64, orc := σ.orc }
        runE no need P t (inE n) c σ1 fun e σ' => match exits e with
          | true => (match resultD P fn σ' with
            | some d => (match (preOf σ1 σ').contains σ.clk with
              | true => no "saved slots"
              | false => K d { tm := σ.tm, bl := (σ.clk, .dead) :: σ'.bl, clk := σ'.clk, orc := σ'.orc })
            | none => no "results")
          | false => no "exit"
def fnE (n : Nat) (fn : Func) (c : Code) (args : List AV) (sh : Sh) (fin : AV → R) : R :=
  runE no need P t (inE allV no need P t n) c { tm := args.map .v ++ List.replicate (fn.ntmps - args.length) (.c undef), bl := [], clk := 1, orc := .ev } fun e σ' =>
    match exits e with
    | true => (match resultD P fn σ' with
      | some d => (match out2 σ'.fview d sh with
        | some (x, obs) => (match decide (rowIds d sh).Nodup && sh.small && obAll obs with
          | true => fin x
          | false => no "one row twice")
        | none => no "what goes out")
      | none => no "results")
    | false => no "exit"
end
--END EV
/-! ### it is a run -/
theorem obAll_ok {l : List Ob} (h : obAll l = true) {F : Prop} (hF : F) : obsF l F := by
  induction l with
  | nil => exact hF
  | cons p l ih =>
    simp only [obAll, List.all_cons, Bool.and_eq_true] at h
    exact ⟨p.ok h.1, ih h.2⟩
def allP (F : Array Value → Prop) : Prop := ∀ vs, F vs
def noP (_ : String) : Prop := False
def needP (_ : FuncId) (_ : List AV) : Prop := False
section
variable {P : Program} {t : Tb P}
def IE (inl : Inl) (inlE : InlE Prop) : Prop := ∀ (f : FuncId) (args : List DE) (σ : DS) (K K' : DE → DS → Prop), σ.orc = .ev → inlE f args σ K → (∀ d σ', σ'.orc = .ev → K d σ' → K' d σ') → inl f args σ K'
theorem stepE_ok {inl : Inl} {inlE : InlE Prop} (hI : IE inl inlE) {dr : Bool} {hint : Option Bool} {o : Oper} {σ : DS} {K K' : List (Nat × DB) → DS → Prop} (ho : σ.orc = .ev)
    (h : stepE noP needP P t inlE dr hint o σ K) (hK : ∀ bs σ', σ'.orc = .ev → K bs σ' → K' bs σ') : stepF P t.ga inl dr hint o σ K' := by
  unfold stepE at h
  unfold stepF
  split at h
  · rename_i f args he
    split at h
    · rename_i _ _ hent
      simp only [he]
      refine ⟨t.ent_ok hent, hI _ _ _ _ _ ho h fun d σ' h1 h2 => hK _ _ ?_ h2⟩
      show ({ σ'.put o.dst d with clk := σ'.clk + 64 } : DS).orc = .ev
      exact h1
    · exact h.elim
    · exact h.elim
  · rename_i he
    simp only [he, t.nest_none]
    split at h
    · rename_i x b hn
      simp only [hn]
      split at h
      · exact h.elim
      · have hl : σ.lft = σ := by unfold DS.lft; cases σ; simp only at ho; subst ho; rfl
        have hr : σ.rgt = σ := by unfold DS.rgt; cases σ; simp only at ho; subst ho; rfl
        simp only [Bool.false_eq_true, if_false, hl, hr]
        split at h
        · rename_i hv
          simp only [hv]
          exact hK _ _ ho h
        · rename_i hv
          split at h
          · rename_i hp
            split
            · rename_i hv2; exact absurd hv2 hv
            · simp only [hp]
              exact .inl ⟨⟨_, _, rfl⟩, (fun q => by cases q), hK _ _ ho h⟩
          · rename_i hp
            split
            · rename_i hv2; exact absurd hv2 hv
            · simp only [hp]
              exact .inr ⟨rfl, hK _ _ ho h⟩
          · exact h.elim
    · rename_i hn
      simp only [hn]
      split at h
      · rename_i f e s X xs hc
        split at h
        · rename_i r hf
          split at h
          · rename_i ob δ hop
            simp only [hop]
            exact ⟨r, t.findU_ok (V := { σ.view o.op with hint := hint }) hc hf hop, hK _ _ ho h⟩
          · exact h.elim
          · exact h.elim
        · exact h.elim
      split at h
      · rename_i f xs hc
        split at h
        · rename_i r hf
          split at h
          · rename_i ob δ hop
            simp only [hop]
            exact ⟨r, t.find_ok (V := { σ.view o.op with hint := hint }) hc hf hop, hK _ _ ho h⟩
          · exact h.elim
          · exact h.elim
        · exact h.elim
      · split at h
        · rename_i obs δ hop
          simp only [hop]
          split at h
          · rename_i hb
            exact obAll_ok hb (hK _ _ ho h)
          · exact h.elim
        · exact h.elim
        · exact h.elim
theorem decE_ok {σ : DS} {x : AV} {a b : Unit → Prop} {A B : DS → Prop} (ho : σ.orc = .ev) (h : decE noP x a b) (ha : a () → A σ) (hb : b () → B σ) : decF σ x A B := by
  unfold decF
  rw [ho]
  unfold decE at h
  split at h
  · exact ⟨rfl, fun _ => ha h, fun q => by cases q⟩
  · exact ⟨rfl, (fun q => by cases q), fun _ => hb h⟩
  · exact h.elim
theorem gateE_ok {ops : List Oper} {dec : List (Nat × Bool)} {o : Oper} {σ : DS} {G : List (Nat × Bool) → Bool → Prop} {G' : DS → List (Nat × Bool) → Bool → Prop} (ho : σ.orc = .ev) (h : gateE noP ops dec o σ G) (hG : ∀ d r, G d r → G' σ d r) : gateF ops dec o σ G' := by
  unfold gateE at h
  unfold gateF
  split at h
  · rename_i hg
    simp only [hg]
    exact hG _ _ h
  · rename_i j want hg
    simp only [hg]
    split at h
    · exact h.elim
    · rename_i t hs
      simp only [hs]
      split at h
      · rename_i b hl
        simp only [hl]
        exact hG _ _ h
      · rename_i hl
        simp only [hl]
        split at h
        · rename_i b hv
          simp only [hv]
          exact hG _ _ h
        · rename_i hv
          simp only [hv]
          exact hG _ _ h
        · rename_i x hv
          simp only [hv]
          exact decE_ok ho h (hG _ _) (hG _ _)
        · exact h.elim
theorem regE_ok {inl : Inl} {inlE : InlE Prop} (hI : IE inl inlE) {dr : Bool} {ops : List Oper} : ∀ (rest : List Oper) (dec : List (Nat × Bool)) (fs : List Foot) (σ : DS) (K K' : DS → Prop), σ.orc = .ev →
    regE noP needP P t inlE dr ops dec fs rest σ K → (∀ σ', σ'.orc = .ev → K σ' → K' σ') → regF P t.ga inl dr ops dec fs rest σ K'
  | [], dec, fs, σ, K, K', ho, h, hK => by
    unfold regE at h
    unfold regF
    split at h
    · rename_i hb
      rw [if_pos hb]
      exact hK _ ho h
    · exact h.elim
  | o :: rest, dec, fs, σ, K, K', ho, h, hK => by
    unfold regE at h
    unfold regF
    refine gateE_ok ho h fun dec' run h => ?_
    split at h
    · simp only [if_true]
      exact stepE_ok hI ho h fun bs σ' ho' h => regE_ok hI rest _ _ _ _ _ ho' h hK
    · simp only [Bool.false_eq_true, if_false]
      exact regE_ok hI rest _ _ _ _ _ ho h hK
theorem frzBox_orc (σ : DS) (t : Nat) : (frzBox σ t).orc = σ.orc := by
  unfold frzBox
  repeat' (split)
  all_goals rfl
theorem preFz_orc (dr : Bool) (ops : List Oper) (σ : DS) : (preFz dr ops σ).orc = σ.orc := by
  unfold preFz
  split
  · rfl
  · induction boxSrc ops generalizing σ with
    | nil => rfl
    | cons t l ih => rw [List.foldl_cons, ih, frzBox_orc]
theorem loopE_ok {rE : DS → (Exit → DS → Prop) → Prop} {rF : DS → (Exit → DS → Prop) → Prop} (hr : ∀ (σ : DS) (K K' : Exit → DS → Prop), σ.orc = .ev → rE σ K → (∀ e σ', σ'.orc = .ev → K e σ' → K' e σ') → rF σ K') :
    ∀ (n : Nat) (σ : DS) (K K' : Exit → DS → Prop), σ.orc = .ev → loopE noP rE n σ K → (∀ e σ', σ'.orc = .ev → K e σ' → K' e σ') → loopN rF n σ K'
  | 0, _, _, _, _, h, _ => h.elim
  | n + 1, σ, K, K', ho, h, hK => by
    unfold loopE at h
    unfold loopN
    refine hr σ _ _ ho h fun e σ1 h1 hk => ?_
    cases e with
    | normal => exact loopE_ok hr n σ1 K K' h1 hk hK
    | exit i => exact hK _ _ h1 hk
    | ret => exact hK _ _ h1 hk
    | goto i => exact hK _ _ h1 hk
    | panic i => exact hK _ _ h1 hk
    | outgrown => exact hK _ _ h1 hk
theorem runE_ok {inl : Inl} {inlE : InlE Prop} (hI : IE inl inlE) (fid : FuncId) : ∀ (c : Code) (σ : DS) (K K' : Exit → DS → Prop), σ.orc = .ev → runE noP needP P t inlE c σ K → (∀ e σ', σ'.orc = .ev → K e σ' → K' e σ') → runC P t.ga inl ann0 fid c σ K'
  | .skip, σ, K, K', ho, h, hK => hK _ _ ho h
  | .region i ops dr, σ, K, K', ho, h, hK => by
    unfold runE at h
    simp only [runC]
    exact regE_ok hI _ _ _ _ _ _ ((preFz_orc _ _ _).trans ho) h fun σ' h1 hk => hK _ _ h1 hk
  | .seq a b, σ, K, K', ho, h, hK => by
    unfold runE at h
    simp only [runC]
    refine runE_ok hI fid a σ _ _ ho h fun e σ1 h1 hk => ?_
    cases e with
    | normal => exact runE_ok hI fid b σ1 K K' h1 hk hK
    | exit i => exact hK _ _ h1 hk
    | ret => exact hK _ _ h1 hk
    | goto i => exact hK _ _ h1 hk
    | panic i => exact hK _ _ h1 hk
    | outgrown => exact hK _ _ h1 hk
  | .cond c a b, σ, K, K', ho, h, hK => by
    unfold runE at h
    simp only [runC]
    split at h
    · rename_i he
      simp only [he]
      exact runE_ok hI fid a σ K K' ho h hK
    · rename_i he
      simp only [he]
      exact runE_ok hI fid b σ K K' ho h hK
    · rename_i x he
      simp only [he]
      have hj : ¬ joinOn (ann0 fid (400000 + Code.reg1 a)) (.cond c a b) = true := by
        unfold joinOn ann0
        simp
      rw [if_neg hj]
      exact decE_ok ho h (fun h => runE_ok hI fid a σ K K' ho h hK) fun h => runE_ok hI fid b σ K K' ho h hK
    · exact h.elim
  | .block id a, σ, K, K', ho, h, hK => by
    unfold runE at h
    simp only [runC]
    refine runE_ok hI fid a σ _ _ ho h fun e σ1 h1 hk => ?_
    cases e with
    | exit i =>
      simp only at hk ⊢
      split at hk
      · rename_i hi
        rw [if_pos (of_decide_eq_true hi)]
        exact hK _ _ h1 hk
      · rename_i hi
        rw [if_neg (of_decide_eq_false hi)]
        exact hK _ _ h1 hk
    | normal => exact hK _ _ h1 hk
    | ret => exact hK _ _ h1 hk
    | goto i => exact hK _ _ h1 hk
    | panic i => exact hK _ _ h1 hk
    | outgrown => exact hK _ _ h1 hk
  | .exit id, σ, K, K', ho, h, hK => hK _ _ ho h
  | .ret, σ, K, K', ho, h, hK => hK _ _ ho h
  | .loop a, σ, K, K', ho, h, hK => by
    unfold runE at h
    simp only [runC]
    have he : σ.evOn = true := by unfold DS.evOn; rw [ho]
    rw [he]
    exact loopE_ok (fun σ K K' ho h hK => runE_ok hI fid a σ K K' ho h hK) _ _ _ _ ho h hK
  | .rangeFunc g ps as_ body, σ, K, K', ho, h, hK => h.elim
  | .scope a, σ, K, K', ho, h, hK => h.elim
  | .label i, σ, K, K', ho, h, hK => h.elim
  | .goto i, σ, K, K', ho, h, hK => h.elim
  | .refuse s, σ, K, K', ho, h, hK => h.elim
theorem inE_ok : ∀ (n : Nat), IE (inF P t.ga ann0 n) (inE allP noP needP P t n)
  | 0 => fun f args σ K K' ho h hK => h.elim
  | n + 1 => fun f args σ K K' ho h hK => by
    unfold inE at h
    unfold inF
    have ha : ¬ (ann0 f 999999).drop ≠ [] := by unfold ann0; simp
    rw [if_neg ha]
    split at h
    · exact h.elim
    · rename_i fn hfn
      simp only [hfn]
      split at h
      · exact h.elim
      · rename_i c hc
        simp only [hc]
        intro vs
        refine runE_ok (inE_ok n) f c _ _ _ ho (h vs) fun e σ' h1 hk => ?_
        split at hk
        · rename_i hx
          simp only [hx, if_true]
          split at hk
          · rename_i d hd
            simp only [hd]
            split at hk
            · exact hk.elim
            · rename_i hp
              rw [if_neg (by rw [hp]; simp)]
              exact hK _ _ h1 hk
          · exact hk.elim
        · exact hk.elim
/-- What a reckoning comes to: it holds, whatever was saved on the way. -/
def allN : Nat → Prop
  | 0 => True
  | n + 1 => Array Value → allN n
theorem allN_ok : ∀ n, allN n
  | 0 => trivial
  | n + 1 => fun _ => allN_ok n
def finP (r x : AV) : Prop := match AV.same 16 x r with | true => True | false => False
/-- **A contract at values that are written out, by reckoning.** -/
theorem ev_run (hm : P.follows .mixedOrders = true) (t : Tb P) (n k : Nat) {f : FuncId} {fn : Func} {c : Code} (hf : P.funcs[f]? = some fn) (hb : fn.body = some c) (hent : Ent P f) {args : List AV} {sh : Sh} {r : AV}
    (h : fnE allP noP needP P t n fn c args sh (finP r) = allN k) : Fn P f args sh r := by
  have h : fnE allP noP needP P t n fn c args sh (finP r) := by rw [h]; exact allN_ok k
  refine fn_run hm n (Γ := t.ga) (ann := ann0) (orc := .ev) hf hb hent ?_
  unfold fnF
  unfold fnE at h
  refine runE_ok (inE_ok n) f c _ _ _ rfl h fun e σ' h1 hk => ?_
  split at hk
  · rename_i hx
    simp only [hx, if_true]
    split at hk
    · rename_i d hd
      simp only [hd]
      split at hk
      · rename_i x obs ho
        simp only [ho]
        split at hk
        · rename_i hb
          simp only [Bool.and_eq_true] at hb
          rw [if_pos (by simp only [Bool.and_eq_true]; exact hb.1)]
          refine obAll_ok hb.2 ?_
          unfold finP at hk
          split at hk
          · rename_i hs
            exact AV.same_ok 16 _ _ hs
          · exact hk.elim
        · exact hk.elim
      · exact hk.elim
    · exact hk.elim
  · exact hk.elim
end
end Go.Proofs.YtfemeeffoapemaaGreatDoor
/- Plain values, reckoned: floats. -/
namespace Go.Proofs.YtfemeeffoapemaaGreatDoor
open Go.RowKit
set_option linter.unusedVariables false
section
variable {k k' : FloatKind} {a b : Nat} {i : IntKind} {n : Int}
@[simp] theorem av_fadd : AV.bin .add (.lit (.float k a)) (.lit (.float k' b)) = .lit (.float k ((floatBits .add k a b).getD 0)) := rfl
@[simp] theorem av_fsub : AV.bin .sub (.lit (.float k a)) (.lit (.float k' b)) = .lit (.float k ((floatBits .sub k a b).getD 0)) := rfl
@[simp] theorem av_fmul : AV.bin .mul (.lit (.float k a)) (.lit (.float k' b)) = .lit (.float k ((floatBits .mul k a b).getD 0)) := rfl
@[simp] theorem av_fquo : AV.bin .quo (.lit (.float k a)) (.lit (.float k' b)) = .lit (.float k ((floatBits .quo k a b).getD 0)) := rfl
@[simp] theorem av_feql : AV.bin .eql (.lit (.float k a)) (.lit (.float k' b)) = .lit (.bool (k.format.order a b == some .eq)) := rfl
@[simp] theorem av_fneq : AV.bin .neq (.lit (.float k a)) (.lit (.float k' b)) = .lit (.bool (k.format.order a b != some .eq)) := rfl
@[simp] theorem av_flss : AV.bin .lss (.lit (.float k a)) (.lit (.float k' b)) = .lit (.bool (k.format.order a b == some .lt)) := rfl
@[simp] theorem av_fleq : AV.bin .leq (.lit (.float k a)) (.lit (.float k' b)) = .lit (.bool (k.format.order a b == some .lt || k.format.order a b == some .eq)) := rfl
@[simp] theorem av_fgtr : AV.bin .gtr (.lit (.float k a)) (.lit (.float k' b)) = .lit (.bool (k.format.order a b == some .gt)) := rfl
@[simp] theorem av_fgeq : AV.bin .geq (.lit (.float k a)) (.lit (.float k' b)) = .lit (.bool (k.format.order a b == some .gt || k.format.order a b == some .eq)) := rfl
@[simp] theorem av_okadd : AV.binOk .add (.lit (.float k a)) (.lit (.float k' b)) ↔ k = k' ∧ (floatBits .add k a b).isSome = true := Iff.rfl
@[simp] theorem av_oksub : AV.binOk .sub (.lit (.float k a)) (.lit (.float k' b)) ↔ k = k' ∧ (floatBits .sub k a b).isSome = true := Iff.rfl
@[simp] theorem av_okmul : AV.binOk .mul (.lit (.float k a)) (.lit (.float k' b)) ↔ k = k' ∧ (floatBits .mul k a b).isSome = true := Iff.rfl
@[simp] theorem av_okquo : AV.binOk .quo (.lit (.float k a)) (.lit (.float k' b)) ↔ k = k' ∧ (floatBits .quo k a b).isSome = true := Iff.rfl
@[simp] theorem av_okeql : AV.binOk .eql (.lit (.float k a)) (.lit (.float k' b)) ↔ k = k' := ⟨fun h => h.1, fun h => ⟨h, trivial⟩⟩
@[simp] theorem av_okneq : AV.binOk .neq (.lit (.float k a)) (.lit (.float k' b)) ↔ k = k' := ⟨fun h => h.1, fun h => ⟨h, trivial⟩⟩
@[simp] theorem av_oklss : AV.binOk .lss (.lit (.float k a)) (.lit (.float k' b)) ↔ k = k' := ⟨fun h => h.1, fun h => ⟨h, trivial⟩⟩
@[simp] theorem av_okgtr : AV.binOk .gtr (.lit (.float k a)) (.lit (.float k' b)) ↔ k = k' := ⟨fun h => h.1, fun h => ⟨h, trivial⟩⟩
@[simp] theorem av_okgeq : AV.binOk .geq (.lit (.float k a)) (.lit (.float k' b)) ↔ k = k' := ⟨fun h => h.1, fun h => ⟨h, trivial⟩⟩
@[simp] theorem av_fneg : AV.un .neg (.lit (.float k a)) = .lit (.float k (Op.negFloat k a)) := rfl
@[simp] theorem av_okneg : AV.unOk .neg (.lit (.float k a)) ↔ True := Iff.rfl
@[simp] theorem av_i2f : AV.i2f k (.lit (.int i n)) = .lit (.float k (k.nearest n)) := rfl
@[simp] theorem av_f2i : AV.f2i k' i (.lit (.float k a)) = .lit (.int i ((floatToIntVal k' a i).getD 0)) := rfl
@[simp] theorem av_f2iOk : AV.f2iOk k' i (.lit (.float k a)) ↔ k = k' ∧ (floatToIntVal k' a i).isSome = true := ⟨fun h => ⟨by have := h.1; simp only [AV.lit.injEq, Value.float.injEq] at this; exact this.1, h.2⟩, fun h => ⟨by rw [h.1]; rfl, h.2⟩⟩
@[simp] theorem av_fb : AV.fb (.lit (.float k a)) = a := rfl
end
/-- A function without a text, of one argument. -/
theorem fnE_of {P : Program} {f : FuncId} {fn : Func} {e : Array Value → Sem Value} (hf : P.funcs[f]? = some fn) (hname : (fn.name == "runtime.NumGoroutine") = false) (hb : fn.body.isNone = true) (hn : Extern.findNext fn = none) (he : Extern.find fn = some e)
    {u v : Value} (hr : ∀ w : World, (e #[u]).run P w = .ok v w) : FnE P f [.lit u] (.lit v) := by
  intro w ok cargs hsz hargs
  have h0 := RV.lit_iff.1 (hargs 0 (by simp))
  have hc : cargs = #[u] := by
    apply Array.ext_getElem?
    intro i
    have hsz' : cargs.size = 1 := hsz
    match i with
    | 0 => simpa [Array.getD, hsz'] using h0
    | n + 1 => rw [Array.getElem?_eq_none (by omega), Array.getElem?_eq_none (by simp)]
  subst hc
  exact ⟨v, by rw [run_callFunc_extern hf hname hb hn he, hr w]; rfl, .lit _⟩
end Go.Proofs.YtfemeeffoapemaaGreatDoor
/- Functions without a text, at values that are written out. -/
namespace Go.Proofs.YtfemeeffoapemaaGreatDoor
open Go.RowKit
set_option linter.unusedVariables false
theorem x_bits (b : Nat) : FnE Tryz.prog 96 [.lit (.float .f64 b)] (.lit (.int .u64 (b : Nat))) :=
  fnE_of Tryz.func96 (e := Extern.MathFloatBits.float64bits) (by kernel_rfl) (by kernel_rfl) (by kernel_rfl) (by kernel_rfl) fun w => rfl
theorem x_from (n : Int) : FnE Tryz.prog 97 [.lit (.int .u64 n)] (.lit (.float .f64 n.toNat)) :=
  fnE_of Tryz.func97 (e := Extern.MathFloatBits.float64frombits) (by kernel_rfl) (by kernel_rfl) (by kernel_rfl) (by kernel_rfl) fun w => rfl
theorem x_floor {b c : Nat} (h : ∀ w : World, (Extern.MathFloor.toIntegral "math.archFloor" .down #[.float .f64 b]).run Tryz.prog w = .ok (.float .f64 c) w) : FnE Tryz.prog 82 [.lit (.float .f64 b)] (.lit (.float .f64 c)) :=
  fnE_of Tryz.func82 (e := Extern.MathFloor.toIntegral "math.archFloor" .down) (by kernel_rfl) (by kernel_rfl) (by kernel_rfl) (by kernel_rfl) h
end Go.Proofs.YtfemeeffoapemaaGreatDoor
/- slices.Delete at a row of the caller's own. -/
namespace Go.Proofs.YtfemeeffoapemaaGreatDoor
open Go.RowKit Go.Lib
set_option linter.unusedVariables false
end Go.Proofs.YtfemeeffoapemaaGreatDoor
/- slices.Insert at a row of the caller's own: what no program needs. -/
namespace Go.Proofs.YtfemeeffoapemaaGreatDoor
open Go.RowKit Go.Lib
set_option linter.unusedVariables false
set_option linter.unusedSimpArgs false
section
variable {P : Program}
theorem wp_copy_run (w : World) {o : Oper} {a : Act} {K : Act → World → Prop} {Q : Exit → Act → World → Prop} (d s : Operand) (t t' : TypeId)
    (ho : o.op = .call { callee := .builtin .copy, args := #[d, s], argTypes := #[t, t'] }) (v u : Value) (hd : a.eval d = v) (hs : a.eval s = u) {v' : Value} {w' : World}
    (hr : (Builtin.copy_ #[t, t'] o.type #[v, u]).run P w = .ok v' w') (h : K (a.put o.dst v') w') : o.wp P a w K Q := by
  unfold Oper.wp execOp
  simp only [ho, resolve, invoke, builtin, Sem.run_bind, Sem.run_pure, Result.andThen_ok, List.map_toArray, List.map_cons, List.map_nil, hd, hs, hr]
  exact h
theorem wpList_copy_run (w : World) {ops : Array Oper} {rest : List Oper} {o : Oper} {a : Act} {Q : Exit → Act → World → Prop} (hgd : o.guard = none) (d s : Operand) (t t' : TypeId)
    (ho : o.op = .call { callee := .builtin .copy, args := #[d, s], argTypes := #[t, t'] }) (v u : Value) (hd : a.eval d = v) (hs : a.eval s = u) {v' : Value} {w' : World}
    (hr : (Builtin.copy_ #[t, t'] o.type #[v, u]).run P w = .ok v' w') (h : wpList P ops Q rest (a.put o.dst v') w') : wpList P ops Q (o :: rest) a w :=
  wpList_plain hgd fun _ hK => wp_copy_run w d s t t' ho v u hd hs hr (hK _ _ h)
theorem step_copy_run {ops : Array Oper} {o : Oper} {a : Act} {w : World} {K : Act → World → Prop} {Q : Exit → Act → World → Prop} {E : Prop}
    (hg : o.guard = none) (d x : Operand) (dT sT : TypeId) (hop : o.op = Op.call { callee := Callee.builtin Builtin.copy, args := #[d, x], argTypes := #[dT, sT] })
    (v u : Value) (hd : a.eval d = v) (hx : a.eval x = u) {v' : Value} {w' : World} (hr : (Builtin.copy_ #[dT, sT] o.type #[v, u]).run P w = .ok v' w') (hK : K (a.put o.dst v') w') :
    if Region.wanted o (yielded ops a.tmps) = true then Oper.wp P o a w K Q else E := by
  have hw : Region.wanted o (yielded ops a.tmps) = true := by simp [Region.wanted, hg]
  rw [if_pos hw]
  unfold Oper.wp
  simp [execOp, hop, resolve, invoke, builtin, hd, hx, hr, Result.andThen]
  exact hK
/-- 'copy' at elements of several cells. -/
theorem run_copy_s (w : World) (dT sT ty elem : TypeId) (s : Nat) (b o dLen dCap : Nat) (a : Addr) (sLen sCap : Nat) (cs : List Value) (n : Nat)
    (hu : P.underlying dT = some (.slice elem)) (hs : (P.info? elem).map (·.size) = some s) (hn : n = Nat.min sLen dLen) (hl : cs.length = n * s)
    (hsrc : ∀ j v, cs[j]? = some v → w.cell? (a.add j) = some v) (hc : ∀ j, j < cs.length → (w.cell? ⟨b, o + j, none⟩).isSome = true) (hf : ∀ j, j < cs.length → w.frozen? ⟨b, o + j, none⟩ = false) (h1 : ∀ v ∈ cs, v.oneCell' = true) :
    (Builtin.copy_ #[dT, sT] ty #[.slice (some ⟨b, o, none⟩) dLen dCap, .slice (some a) sLen sCap]).run P w = .ok (goInt n) (w.setCells b o cs) := by
  have hld := run_loadCells_list (P := P) w a cs hsrc
  rw [hl] at hld
  have hst := run_storeCells_cells (P := P) b o cs 0 w (by simpa using hc) (by simpa using hf) h1
  cases hq : P.info? elem with
  | none => simp [hq] at hs
  | some i =>
    have hi : i.size = s := by simpa [hq] using hs
    simp [Builtin.copy_, run_underlying hu, Builtin.lenOf, Builtin.firstCells, sizeOf, typeInfo, hq, hi, ← hn, hld, hst]
/-- slices.overlaps of what has cells and of a row of one's own. -/
theorem run_overlaps_own (w : World) (tS tR e : TypeId) (ht : P.underlying tS = some (.slice e)) (size : Nat) (hz : ∀ w, (Go.sizeOf e).run P w = .ok size w)
    (a b : Addr) (la ca lb cb : Nat) (hne : a.block ≠ b.block) (csA : Array Value) (tA : TypeId) (fz : Nat × Nat) (hA : w.heap[a.block]? = some (.cells csA tA fz)) (hA0 : csA.size ≠ 0)
    (csB : Array Value) (tB : TypeId) (hB : w.heap[b.block]? = some (.cells csB tB (0, 0))) :
    (Extern.SlicesOverlaps.overlaps #[tS, tS] #[tR] #[.slice (some a) la ca, .slice (some b) lb cb]).run P w = .ok (.bool false) w := by
  have hnb : (a.block != b.block) = true := by simpa using hne
  have hnb' : (a.block == b.block) = false := by simpa using hne
  have hfb : ∀ k, w.frozen? ⟨b.block, k, none⟩ = false := fun k => by simp [World.frozen?, hB]
  have hfb' : w.frozen? b = false := by simp [World.frozen?, hB]
  have hsa : w.shape? a.block = some (tA, csA.size) := by simp [World.shape?, hA]
  have hsb : w.shape? b.block = some (tB, csB.size) := by simp [World.shape?, hB]
  change Sem.run P (α := Value) (do
    let some t := (#[tS, tS] : Array TypeId)[0]? | stuck "slices.overlaps: no parameter types"
    let .slice elem ← underlying t | stuck "slices.overlaps: slice type expected"
    let size ← sizeOf elem
    match (some a : Option Addr), (some b : Option Addr) with
    | some a, some b =>
      if la = 0 ∨ lb = 0 ∨ size = 0 then pure (Value.bool false)
      else if a.block != b.block && (← frozen a) && (← frozen b) then unsupported .addressObserved
      else do
        if a.block != b.block then do
          noView a; noView b
          if ← mayBeOne a b then return Value.bool ((← choose (.extern "sameAddr.stringBytes" 2)) == 1)
        pure (Value.bool (a.block == b.block && a.off < b.off + lb * size && b.off < a.off + la * size))
    | _, _ => pure (Value.bool false)) w = _
  by_cases h0 : la = 0 ∨ lb = 0 ∨ size = 0
  · simp [run_underlying ht, hz, h0]
  · obtain ⟨k, hk⟩ : ∃ k, csA.size = k + 1 := ⟨csA.size - 1, by omega⟩
    rw [hk] at hsa
    cases hfa : w.frozen? a <;> cases hfe : w.frozen? { block := a.block, off := k + 1 } <;>
      simp [run_underlying ht, hz, h0, hnb, hnb', frozen, noView, viewAt, mayBeOne, stringish, shape, Sem.run, hsa, hsb, hfa, hfe, hfb, hfb']
end
/-! ### rows by parts -/
/-- The cells xs are those of the elements L. -/
structure CellsOf (w : World) (okc : Nat → Prop) (s : Nat) (L : List (List AV)) (xs : List Value) : Prop where
  len : xs.length = L.length * s
  each : ∀ y ∈ L, y.length = s
  one : ∀ u ∈ xs, u.oneCell' = true
  val : ∀ i j, i < L.length → j < s → RV w okc (gt2 L i j) (xs.getD (i * s + j) undef)
theorem CellsOf.app {w : World} {okc : Nat → Prop} {s : Nat} {L M : List (List AV)} {xs ys : List Value} (h : CellsOf w okc s L xs) (k : CellsOf w okc s M ys) : CellsOf w okc s (L ++ M) (xs ++ ys) := by
  refine ⟨by rw [List.length_append, List.length_append, h.len, k.len, Nat.add_mul], fun y hy => (List.mem_append.1 hy).elim (h.each y) (k.each y), fun u hu => (List.mem_append.1 hu).elim (h.one u) (k.one u), fun i j hi hj => ?_⟩
  rw [List.length_append] at hi
  by_cases hil : i < L.length
  · have e1 : gt2 (L ++ M) i j = gt2 L i j := by unfold gt2; simp [List.getElem?_append_left hil]
    have hlt : i * s + j < xs.length := by
      rw [h.len]
      have : (i + 1) * s ≤ L.length * s := Nat.mul_le_mul_right _ hil
      rw [Nat.add_mul] at this; omega
    have e2 : (xs ++ ys).getD (i * s + j) undef = xs.getD (i * s + j) undef := by simp [List.getElem?_append_left hlt]
    rw [e1, e2]; exact h.val i j hil hj
  · have hge : L.length ≤ i := by omega
    have e1 : gt2 (L ++ M) i j = gt2 M (i - L.length) j := by unfold gt2; simp [List.getElem?_append_right hge]
    have hge2 : xs.length ≤ i * s + j := by rw [h.len]; have : L.length * s ≤ i * s := Nat.mul_le_mul_right _ hge; omega
    have e3 : i * s + j - xs.length = (i - L.length) * s + j := by rw [h.len, Nat.sub_mul]; have : L.length * s ≤ i * s := Nat.mul_le_mul_right _ hge; omega
    have e2 : (xs ++ ys).getD (i * s + j) undef = ys.getD ((i - L.length) * s + j) undef := by
      rw [List.getD_eq_getElem?_getD, List.getElem?_append_right hge2, e3, List.getD_eq_getElem?_getD]
    rw [e1, e2]; exact k.val _ j (by omega) hj
theorem CellsOf.take {w : World} {okc : Nat → Prop} {s : Nat} {L : List (List AV)} {xs : List Value} (h : CellsOf w okc s L xs) (i : Nat) (hi : i ≤ L.length) : CellsOf w okc s (L.take i) (xs.take (i * s)) := by
  have his : i * s ≤ L.length * s := Nat.mul_le_mul_right _ hi
  refine ⟨by rw [List.length_take, List.length_take, h.len, Nat.min_eq_left hi, Nat.min_eq_left his], fun y hy => h.each y (List.mem_of_mem_take hy), fun u hu => h.one u (List.mem_of_mem_take hu), fun p q hp hq => ?_⟩
  have hp' : p < i := by rw [List.length_take] at hp; omega
  have hlt : p * s + q < i * s := by have : (p + 1) * s ≤ i * s := Nat.mul_le_mul_right _ hp'; rw [Nat.add_mul] at this; omega
  have e1 : gt2 (L.take i) p q = gt2 L p q := by unfold gt2; simp [List.getElem?_take_of_lt hp']
  have e2 : (xs.take (i * s)).getD (p * s + q) undef = xs.getD (p * s + q) undef := by simp [List.getElem?_take_of_lt hlt]
  rw [e1, e2]; exact h.val p q (by omega) hq
theorem CellsOf.drop {w : World} {okc : Nat → Prop} {s : Nat} {L : List (List AV)} {xs : List Value} (h : CellsOf w okc s L xs) (i : Nat) : CellsOf w okc s (L.drop i) (xs.drop (i * s)) := by
  refine ⟨by rw [List.length_drop, List.length_drop, h.len, Nat.sub_mul], fun y hy => h.each y (List.mem_of_mem_drop hy), fun u hu => h.one u (List.mem_of_mem_drop hu), fun p q hp hq => ?_⟩
  have hp' : i + p < L.length := by rw [List.length_drop] at hp; omega
  have e1 : gt2 (L.drop i) p q = gt2 L (i + p) q := by unfold gt2; simp [List.getElem?_drop]
  have e2 : (xs.drop (i * s)).getD (p * s + q) undef = xs.getD ((i + p) * s + q) undef := by
    rw [List.getD_eq_getElem?_getD, List.getElem?_drop, List.getD_eq_getElem?_getD, show i * s + (p * s + q) = (i + p) * s + q by rw [Nat.add_mul]; omega]
  rw [e1, e2]; exact h.val _ q hp' hq
theorem CellsOf.mono {w w' : World} {okc okc' : Nat → Prop} {s : Nat} {L : List (List AV)} {xs : List Value} (h : CellsOf w okc s L xs) (hk : ∀ b, okc b → b < w.heap.size → okc' b ∧ w'.heap[b]? = w.heap[b]?) : CellsOf w' okc' s L xs :=
  ⟨h.len, h.each, h.one, fun i j hi hj => (h.val i j hi hj).mono hk⟩
theorem CellsOf.row {w : World} {B e s : Nat} {okc : Nat → Prop} {L : List (List AV)} {xs : List Value} (h : CellsOf w okc s L xs) (hs : 0 < s) {g cap : Nat} {cur : Array Value} (hB : B ≤ g) (hg : w.heap[g]? = some (.cells cur e (0, 0))) (hm : cap ≤ maxLen) (hcs : cur.size = cap * s) (hnc : L.length ≤ cap)
    (htk : cur.toList.take (L.length * s) = xs) : RRow w B e s okc (.sl s L) (.slice (some ⟨g, 0, none⟩) L.length cap) :=
  ⟨L, xs, rfl, hs, h.each, ⟨h.len, .inr ⟨g, cap, cur, rfl, hB, hg, hnc, hm, hcs, htk⟩⟩, h.one, h.val⟩
/-- The cells of a plain slice whose elements hold no memory. -/
theorem cells_flat {w : World} {ok okc : Nat → Prop} {s : Nat} {Y : List (List AV)} {v : Value} (h : RV w ok (.sl s Y) v) (hf : ∀ y ∈ Y, ∀ z ∈ y, z.flat) (h0 : 0 < Y.length) :
    ∃ (vb vo vc : Nat) (ys : List Value), v = .slice (some ⟨vb, vo, none⟩) Y.length vc ∧ ok vb ∧ vb < w.heap.size ∧ Y.length ≤ vc ∧ vc ≤ maxLen ∧ CellsOf w okc s Y ys ∧ ∀ j u, ys[j]? = some u → w.cell? ⟨vb, vo + j, none⟩ = some u := by
  cases h with
  | sl _ _ A n c us hn hnc hc hs hA hone hu =>
    subst hn
    obtain ⟨b, off, rfl, hok, hlt, hcell⟩ := hA h0
    have hdiv : ∀ k, k < Y.length * s → k / s < Y.length ∧ k % s < s ∧ k / s * s + k % s = k := fun k hk => by
      have hs0 : 0 < s := by rcases Nat.eq_zero_or_pos s with e | e; (subst e; simp at hk); exact e
      exact ⟨Nat.div_lt_of_lt_mul (by rw [Nat.mul_comm]; exact hk), Nat.mod_lt _ hs0, by rw [Nat.mul_comm]; exact Nat.div_add_mod k s⟩
    refine ⟨b, off, c, (List.range (Y.length * s)).map fun k => us (k / s) (k % s), rfl, hok, hlt, hnc, hc, ⟨by simp, hs, fun u hu' => ?_, fun i j hi hj => ?_⟩, fun j u hj => ?_⟩
    · obtain ⟨k, hk, rfl⟩ := List.mem_map.1 hu'
      obtain ⟨q1, q2, _⟩ := hdiv k (by simpa using hk)
      exact hone _ _ q1 q2
    · have hlt' : i * s + j < Y.length * s := by have : (i + 1) * s ≤ Y.length * s := Nat.mul_le_mul_right _ hi; rw [Nat.add_mul] at this; omega
      have hs0 : 0 < s := by omega
      have e4 : (i * s + j) / s = i := by rw [Nat.add_comm, Nat.add_mul_div_right _ _ hs0, Nat.div_eq_of_lt hj]; omega
      have e5 : (i * s + j) % s = j := by rw [Nat.add_comm, Nat.add_mul_mod_self_right, Nat.mod_eq_of_lt hj]
      have e2 : ((List.range (Y.length * s)).map fun k => us (k / s) (k % s)).getD (i * s + j) undef = us i j := by
        rw [List.getD_eq_getElem?_getD, List.getElem?_map, List.getElem?_range hlt']; simp [e4, e5]
      rw [e2]
      have hmem : gt2 Y i j ∈ Y.getD i [] := by
        have hYi : (Y.getD i []) ∈ Y := by rw [List.getD_eq_getElem?_getD, List.getElem?_eq_getElem hi]; exact List.getElem_mem hi
        have hjl : j < (Y.getD i []).length := by rw [hs _ hYi]; exact hj
        unfold gt2
        rw [List.getD_eq_getElem?_getD (l := Y.getD i []), List.getElem?_eq_getElem hjl]
        exact List.getElem_mem hjl
      have hYi : (Y.getD i []) ∈ Y := by rw [List.getD_eq_getElem?_getD, List.getElem?_eq_getElem hi]; exact List.getElem_mem hi
      exact (flat_rv (hu i j hi hj) (hf _ hYi _ hmem)).mono fun g hg _ => hg.elim
    · have hjl : j < Y.length * s := by
        have := (List.getElem?_eq_some_iff.1 hj).1
        simpa using this
      obtain ⟨q1, q2, q3⟩ := hdiv j hjl
      rw [List.getElem?_map, List.getElem?_range hjl] at hj
      simp only [Option.map_some, Option.some.injEq] at hj
      rw [← hj, ← hcell _ _ q1 q2]
      congr 2; omega
end Go.Proofs.YtfemeeffoapemaaGreatDoor
/- slices.Grow of nil at strings. -/
namespace Go.Proofs.YtfemeeffoapemaaGreatDoor
open Go.RowKit Go.Lib
set_option linter.unusedVariables false
set_option linter.unusedSimpArgs false
set_option maxRecDepth 100000
theorem rowsApart_rowS {v : Value} {e s : Nat} {f : Bool} : RowsApart v (.row e s f) := fun j i j' i' hr hr' hne => by
  have hl : ∀ j i, isRow (leafSh j i (.row e s f)) = true → j = 0 ∧ i = 0 := fun j i h => by
    cases j with
    | zero => cases i with
      | zero => exact ⟨rfl, rfl⟩
      | succ i => cases h
    | succ j => cases i <;> cases h
  obtain ⟨rfl, rfl⟩ := hl j i hr
  obtain ⟨rfl, rfl⟩ := hl j' i' hr'
  exact absurd rfl (hne.elim id id)
theorem insS_info : (Tryz.prog.info? 9).map (fun i => (i.zero, i.size, i.bytes)) = some (some (.string ByteArray.empty), 1, 16) := by kernel_rfl
theorem insS_und : Tryz.prog.underlying 40 = some (.slice 9) := by kernel_rfl
theorem growS_fn (n : Nat) (hn : n ≤ 100000) : Fn Tryz.prog 49 [.lit (.slice none 0 0), .int (n : Nat)] (.row 9 1 true) (.sl 1 []) := by
  refine ⟨Tryz.call49, fun w ok cargs hok hgl hsz hargs => ?_⟩
  have mixed : Tryz.prog.follows .mixedOrders = true := by kernel_rfl
  obtain ⟨i0, hi0, hz0, hzs, hzb⟩ : ∃ i0, Tryz.prog.info? 9 = some i0 ∧ i0.zero = some (.string ByteArray.empty) ∧ i0.size = 1 ∧ i0.bytes = 16 := by
    have := insS_info
    cases hq : Tryz.prog.info? 9 with
    | none => rw [hq] at this; cases this
    | some i0 => rw [hq] at this; simp at this; exact ⟨i0, rfl, this.1, this.2.1, this.2.2⟩
  obtain rfl : cargs = #[.slice none 0 0, .int .i64 (n : Nat)] := by
    obtain ⟨l⟩ := cargs
    match l, hsz with
    | [a, b], _ =>
      have h0 := hargs 0 (by simp)
      have h1 := hargs 1 (by simp)
      have e0 : a = .slice none 0 0 := RV.lit_iff.1 (by simpa using h0)
      have e1 : b = .int .i64 (n : Nat) := RV.lit_iff.1 (by simpa using h1)
      rw [e0, e1]
  have hnn : ¬ ((n : Int) < 0) := by omega
  have hw0 : IntKind.i64.wrap 0 = 0 := by decide
  have hwn : IntKind.i64.wrap (n : Int) = (n : Int) := by rw [IntKind.wrap_i64]; omega
  clear hargs hsz
  have hsz : (Tryz.prog.info? 9).map (·.size) = some 1 := by kernel_rfl
  rcases Nat.eq_zero_or_pos n with rfl | hpos
  · go_enter Tryz.func49, Tryz.ntmps49
    go_wp2_with fail
    refine ⟨rfl, _, results_tmp rfl _ _ _, _, rfl, Below.refl _ _, ⟨[], [], rfl, by omega, by simp, ⟨rfl, .inl ⟨rfl, rfl⟩⟩, by simp, fun i j hi => by simp at hi⟩, rowsApart_rowS, Nat.le_refl _⟩
  · have hgt : (0 : Int) < n := by omega
    have hrz : ∀ ty, (Builtin.append_ #[40, 3] ty #[.slice none 0 0, .int .i64 (n : Nat)]).run Tryz.prog w =
      .ok (.slice (some ⟨w.heap.size, 0, none⟩) n (grownCap w n 0 9)) (w.drew.alloc (.cells (Builtin.zeroCells (.string ByteArray.empty : Value).cells n ++ Builtin.zeroCells (.string ByteArray.empty : Value).cells (grownCap w n 0 9 - n)) 9)) := fun ty =>
      Lib.run_append_nil_zeros w 40 3 ty 9 i0 _ .i64 .i64 insS_und (by kernel_rfl) hi0 hz0 n hpos (by omega) (by omega) (by rw [hzb]; omega)
    obtain ⟨G, hG⟩ : ∃ G, G = grownCap w n 0 9 := ⟨_, rfl⟩
    have hGn : n ≤ G := by rw [hG]; exact grownCap_ge w _ _ _
    have hGm : G ≤ maxLen := by rw [hG]; exact grownCap_le_maxLen w n 0 9 (by unfold maxLen; omega)
    rw [← hG] at hrz
    obtain ⟨ROW, hROW⟩ : ∃ ROW : Array Value, ROW = Builtin.zeroCells (.string ByteArray.empty : Value).cells n ++ Builtin.zeroCells (.string ByteArray.empty : Value).cells (G - n) := ⟨_, rfl⟩
    rw [← hROW] at hrz
    have hRl : ROW.size = G * 1 := by
      rw [hROW]
      simp only [Array.size_append, Builtin.zeroCells, Value.cells, Array.size_map, Array.size_range]
      show n * 1 + (G - n) * 1 = G * 1
      rw [← Nat.add_mul]; congr 1; omega
    have hG0 : (0 : Int) ≤ G := by omega
    clear hROW hG
    go_enter Tryz.func49, Tryz.ntmps49
    go_wp2_with (at_builtin; refine Lib.wpList_append_run _ rfl _ _ _ _ rfl _ _ rfl rfl _ _ (hrz _) ?_)
    refine ⟨rfl, _, results_tmp rfl _ _ _, _, rfl, ?_, ⟨[], [], rfl, by omega, by simp, ⟨rfl, .inr ⟨w.heap.size, G, ROW, rfl, Nat.le_refl _, ?_, by simp, hGm, hRl, by simp⟩⟩, by simp, fun i j hi => by simp at hi⟩, rowsApart_rowS, Nat.le_succ _⟩
    · exact Below.alloc (Below.drew (Below.refl _ _)) (Nat.le_refl _) _
    · show (w.heap.push _)[w.heap.size]? = _
      simp
end Go.Proofs.YtfemeeffoapemaaGreatDoor
/- slices.Insert at api.Node. -/
namespace Go.Proofs.YtfemeeffoapemaaGreatDoor
open Go.RowKit Go.Lib
set_option linter.unusedVariables false
set_option linter.unusedSimpArgs false
set_option maxRecDepth 1000000
set_option maxHeartbeats 4000000
theorem insNo_info : (Tryz.prog.info? 33).map (fun i => (i.zero, i.size, i.bytes)) = some (some (.agg #[.int .i64 0, .int .i64 0, .int .i64 0, .int .i64 0]), 4, 32) := by kernel_rfl
theorem insNo_size (w : World) : (Go.sizeOf 33).run Tryz.prog w = .ok 4 w := by kernel_rfl
theorem insNo_und : Tryz.prog.underlying 23 = some (.slice 33) := by kernel_rfl
theorem insNo_und2 : Tryz.prog.underlying 22 = some (.slice 33) := by kernel_rfl
/-- At the end. -/
theorem insNo_end (A : Option Addr) (n c vb vo m vc : Nat) (hm : 0 < m) (hnc : n ≤ c) (hc : c ≤ maxLen) (w w' : World) (v' : Value) (hrun : (Builtin.append_ #[23, 22] 23 #[.slice A n c, .slice (some ⟨vb, vo, none⟩) m vc]).run Tryz.prog w = .ok v' w') :
    Calls Tryz.prog 38 #[.slice A n c, .int .i64 n, .slice (some ⟨vb, vo, none⟩) m vc] w fun e W => e = .returned v' ∧ W = w' := by
  unfold maxLen at hc
  have hz1 : ¬ ((m : Int) = 0) := by omega
  have hb : (n : Int) ≤ 9223372036854775807 := by omega
  go_enter Tryz.func38, Tryz.ntmps38
  cases A with
  | none =>
    go_wp2_with (at_builtin; refine Lib.wpList_append_run _ rfl _ _ _ _ rfl _ _ rfl rfl _ _ hrun ?_)
    all_goals (go_ret; exact ⟨rfl, rfl⟩)
  | some a =>
    obtain ⟨ab, ao, asp⟩ := a
    go_wp2_with (at_builtin; refine Lib.wpList_append_run _ rfl _ _ _ _ rfl _ _ rfl rfl _ _ hrun ?_)
    all_goals (go_ret; exact ⟨rfl, rfl⟩)
/-- In place. -/
theorem insNo_shift (b n c i vb vo m vc : Nat) (xs ys : List Value) (cur : Array Value) (w : World) (hi : i < n) (hm : 0 < m) (hroom : n + m ≤ c) (hc63 : c ≤ 9223372036854775807) (hvb : vb ≠ b)
    (hcl : xs.length = n * 4) (hvl : ys.length = m * 4) (hg : w.heap[b]? = some (.cells cur 33 (0, 0))) (hcs : cur.size = c * 4) (htk : cur.toList.take (n * 4) = xs)
    (hvs : ∀ j v, ys[j]? = some v → w.cell? ⟨vb, vo + j, none⟩ = some v) (h1c : ∀ v ∈ xs, v.oneCell' = true) (h1v : ∀ v ∈ ys, v.oneCell' = true) :
    Calls Tryz.prog 38 #[.slice (some ⟨b, 0, none⟩) n c, .int .i64 i, .slice (some ⟨vb, vo, none⟩) m vc] w fun e w' =>
      e = .returned (.slice (some ⟨b, 0, none⟩) (n + m) c) ∧ w' = (w.drew.setCells b ((i + m) * 4) (xs.drop (i * 4))).setCells b (i * 4) ys := by
  have mixed : Tryz.prog.follows .mixedOrders = true := by kernel_rfl
  have hz1 : ¬ ((m : Int) = 0) := by omega
  have hz2 : ¬ ((i : Int) = (n : Int)) := by omega
  have hsz : (Tryz.prog.info? 33).map (·.size) = some 4 := by kernel_rfl
  have hy0 : ∃ v, w.cell? ⟨vb, vo, none⟩ = some v := by
    have h0 : 0 < ys.length := by rw [hvl]; omega
    exact ⟨ys[0], by simpa using hvs 0 _ (List.getElem?_eq_getElem h0)⟩
  obtain ⟨csA, tA, fz, hA, hA0⟩ : ∃ csA tA fz, w.heap[vb]? = some (.cells csA tA fz) ∧ csA.size ≠ 0 := by
    obtain ⟨v, hv⟩ := hy0
    unfold World.cell? at hv
    cases hq : w.heap[vb]? with
    | none => simp [hq] at hv
    | some o =>
      cases o with
      | cells cs tA fz =>
        refine ⟨cs, tA, fz, rfl, fun e => ?_⟩
        have : cs = #[] := by simpa using e
        subst this
        simp [hq] at hv
      | _ => simp [hq] at hv
  have hov : ∀ lb cb, (callFunc 62 #[.slice (some ⟨vb, vo, none⟩) m vc, .slice (some ⟨b, (i + m) * 4, none⟩) lb cb]).run Tryz.prog w = .ok (.value (.bool false)) w := fun lb cb => by
    rw [run_callFunc_extern Tryz.func62 (by kernel_rfl) (by kernel_rfl) (by kernel_rfl) (e := Extern.SlicesOverlaps.overlaps #[22, 22] #[4]) (by kernel_rfl),
      run_overlaps_own w 22 4 33 insNo_und2 4 insNo_size ⟨vb, vo, none⟩ ⟨b, (i + m) * 4, none⟩ m vc lb cb hvb csA tA fz hA hA0 cur 33 hg]
    rfl
  have hdl : (xs.drop (i * 4)).length = (n - i) * 4 := by rw [List.length_drop, hcl, Nat.sub_mul]
  have hw1 : IntKind.i64.wrap ((i : Int) + (m : Int)) = (i : Int) + (m : Int) := by rw [IntKind.wrap_i64]; omega
  have hb1 : (0 : Int) ≤ (i : Int) + (m : Int) := by omega
  have hin : i ≤ n := by omega
  have htn : ((i : Int) + (m : Int)).toNat = i + m := by omega
  have hb2 : ¬ (c = i + m) := by omega
  have hb3 : (i : Int) ≤ (n : Int) + (m : Int) := by omega
  have hb4 : ¬ (c = i) := by omega
  have hfz : ∀ (W : World) (cs : Array Value), W.heap[b]? = some (.cells cs 33 (0, 0)) → ∀ k, W.frozen? ⟨b, k, none⟩ = false := fun W cs hW k => by simp [World.frozen?, hW]
  have hsp : ∀ (W : World) (cs : Array Value), W.heap[b]? = some (.cells cs 33 (0, 0)) → ∀ k, k < cs.size → (W.cell? ⟨b, k, none⟩).isSome = true := fun W cs hW k hk => by
    rw [cell_of_row W b k cs 33 (0, 0) hW]; simp [hk]
  have hmul : ∀ a b : Nat, a ≤ b → a * 4 ≤ b * 4 := fun a b h => Nat.mul_le_mul_right _ h
  have hg1 : w.drew.heap[b]? = some (.cells cur 33 (0, 0)) := hg
  have hcp1 : ∀ ty dc sc, (Builtin.copy_ #[23, 23] ty #[.slice (some ⟨b, (i + m) * 4, none⟩) (n + m - (i + m)) dc, .slice (some ⟨b, i * 4, none⟩) (n + m - i) sc]).run Tryz.prog w.drew = .ok (goInt ((n - i : Nat) : Int)) (w.drew.setCells b ((i + m) * 4) (xs.drop (i * 4))) := fun ty dc sc =>
    run_copy_s w.drew _ _ ty 33 4 b ((i + m) * 4) (n + m - (i + m)) dc ⟨b, i * 4, none⟩ (n + m - i) sc (xs.drop (i * 4)) (n - i) insNo_und hsz (by simp only [Nat.min_def]; split <;> omega) hdl
      (fun j v hj => by
        rw [Addr.add_lit, cell_of_row _ b _ cur 33 (0, 0) hg1]
        rw [List.getElem?_drop, ← htk, List.getElem?_take] at hj
        split at hj
        · rw [← Array.getElem?_toList]; exact hj
        · cases hj)
      (fun j hj => hsp _ cur hg1 _ (by rw [hdl] at hj; rw [hcs]; have := hmul (n + m) c hroom; rw [Nat.add_mul] at this; rw [Nat.sub_mul] at hj; have := hmul i n hin; rw [Nat.add_mul]; omega)) (fun j hj => hfz _ cur hg1 _) (fun v hv => h1c v (List.mem_of_mem_drop hv))
  obtain ⟨W1, hW1⟩ : ∃ W1, W1 = w.drew.setCells b ((i + m) * 4) (xs.drop (i * 4)) := ⟨_, rfl⟩
  have hg2 : W1.heap[b]? = some (.cells (setR cur ((i + m) * 4) (xs.drop (i * 4))) 33 (0, 0)) := by rw [hW1]; exact setCells_blk _ _ _ _ hg1
  have hcp2 : ∀ (W : World), W.heap = W1.heap → ∀ ty dc, (Builtin.copy_ #[23, 22] ty #[.slice (some ⟨b, i * 4, none⟩) (n + m - i) dc, .slice (some ⟨vb, vo, none⟩) m vc]).run Tryz.prog W = .ok (goInt m) (W.setCells b (i * 4) ys) := fun W hWh ty dc =>
    run_copy_s W _ _ ty 33 4 b (i * 4) (n + m - i) dc ⟨vb, vo, none⟩ m vc ys m insNo_und hsz (by simp only [Nat.min_def]; split <;> omega) hvl
      (fun j v hj => by
        have e1 : W.cell? (({ block := vb, off := vo } : Addr).add j) = W1.cell? (({ block := vb, off := vo } : Addr).add j) := World.cell?_of_block (by rw [hWh])
        rw [e1, hW1, Addr.add_lit, World.cell?_setCells_out b _ _ _ _ (fun h _ => absurd h hvb)]
        exact hvs j v hj)
      (fun j hj => hsp W _ (by rw [hWh]; exact hg2) _ (by rw [setR_size, hcs]; rw [hvl] at hj; have := hmul (i + m) c (by omega); rw [Nat.add_mul] at this; omega)) (fun j hj => hfz W _ (by rw [hWh]; exact hg2) _) h1v
  rw [← hW1] at hcp1
  clear hg2 hg1 hsp hfz hmul htk hcs hg hA hA0 h1c hcl
  go_enter Tryz.func38, Tryz.ntmps38
  go_wp2_with (simp only [hov])
  go_region_law_o (refine step_copy_run rfl _ _ 23 23 rfl _ _ (by simp [Act.eval, Act.put]) (by simp [Act.eval, Act.put]) (hcp1 _ _ _) ?_)
  go_wp2_with (at_builtin; refine wpList_copy_run _ rfl _ _ 23 22 rfl _ _ rfl rfl (hcp2 _ rfl _ _) ?_)
  go_ret
  first | exact ⟨rfl, rfl⟩ | exact ⟨rfl, by rw [hW1]⟩
/-- Into a new row. -/
theorem insNo_grow (b n c i vb vo m vc : Nat) (xs ys : List Value) (cur : Array Value) (w : World) (hi : i < n) (hm : 0 < m) (hnc : n ≤ c) (hroom : c < n + m) (hbig : (n + m) * 32 ≤ 140737488355328)
    (hcl : xs.length = n * 4) (hvl : ys.length = m * 4) (hg : w.heap[b]? = some (.cells cur 33 (0, 0))) (hcs : cur.size = c * 4) (htk : cur.toList.take (n * 4) = xs)
    (hvs : ∀ j v, ys[j]? = some v → w.cell? ⟨vb, vo + j, none⟩ = some v) (h1c : ∀ v ∈ xs, v.oneCell' = true) (h1v : ∀ v ∈ ys, v.oneCell' = true) :
    ∃ (G : Nat) (ROW : Array Value) (W : World), n + m ≤ G ∧ G ≤ maxLen ∧ ROW.size = G * 4 ∧ ROW.toList.take (i * 4) = xs.take (i * 4) ∧ W.heap = (w.alloc (.cells ROW 33)).heap ∧ W.os = w.os ∧ W.tape = w.tape ∧ W.output = w.output ∧ w.drawn ≤ W.drawn ∧
    Calls Tryz.prog 38 #[.slice (some ⟨b, 0, none⟩) n c, .int .i64 i, .slice (some ⟨vb, vo, none⟩) m vc] w fun e w' =>
      e = .returned (.slice (some ⟨w.heap.size, 0, none⟩) (n + m) G) ∧ w' = ((W.setCells w.heap.size (i * 4) ys).drew).setCells w.heap.size ((i + m) * 4) (xs.drop (i * 4)) := by
  have mixed : Tryz.prog.follows .mixedOrders = true := by kernel_rfl
  obtain ⟨i0, hi0, hz0, hzs, hzb⟩ : ∃ i0, Tryz.prog.info? 33 = some i0 ∧ i0.zero = some (.agg #[.int .i64 0, .int .i64 0, .int .i64 0, .int .i64 0]) ∧ i0.size = 4 ∧ i0.bytes = 32 := by
    have := insNo_info
    cases hq : Tryz.prog.info? 33 with
    | none => rw [hq] at this; cases this
    | some i0 => rw [hq] at this; simp at this; exact ⟨i0, rfl, this.1, this.2.1, this.2.2⟩
  have hz1 : ¬ ((m : Int) = 0) := by omega
  have hz2 : ¬ ((i : Int) = (n : Int)) := by omega
  have hz3 : (c : Int) < (n : Int) + (m : Int) := by omega
  have hsz : (Tryz.prog.info? 33).map (·.size) = some 4 := by kernel_rfl
  have hbw : b < w.heap.size := (Array.getElem?_eq_some_iff.1 hg).1
  have hvw : vb < w.heap.size := block_lt_of_cell (hvs 0 _ (List.getElem?_eq_getElem (by omega)))
  have hkk : (n : Int) + (m : Int) - (i : Int) = ((n + m - i : Nat) : Int) := by omega
  have hik : i + (n + m - i) = n + m := by omega
  have hmul : ∀ a b : Nat, a ≤ b → a * 4 ≤ b * 4 := fun a b h => Nat.mul_le_mul_right _ h
  have hget : ∀ (W : World), W.heap = w.heap → ∀ j v, xs[j]? = some v → W.cell? ⟨b, j, none⟩ = some v := fun W hW j v hj => by
    rw [cell_of_row W b j cur 33 (0, 0) (by rw [hW]; exact hg)]
    rw [← htk, List.getElem?_take] at hj
    split at hj
    · rw [← Array.getElem?_toList]; exact hj
    · cases hj
  have hold : (Builtin.firstCells i0.size i (.slice (some ⟨b, 0, none⟩) i c)).run Tryz.prog w.drew = .ok (xs.take (i * 4)).toArray w.drew := by
    rw [hzs]
    exact run_firstCells_some w.drew 4 i ⟨b, 0, none⟩ i c (xs.take (i * 4)) (by rw [List.length_take, hcl]; have := hmul i n (by omega); omega) (fun j v hj => by
      rw [Addr.add_lit, Nat.zero_add]
      rw [List.getElem?_take] at hj
      split at hj
      · exact hget w.drew rfl j v hj
      · cases hj)
  have hrz : ∀ ty, (Builtin.append_ #[23, 3] ty #[.slice (some ⟨b, 0, none⟩) i c, .int .i64 ((n : Int) + (m : Int) - (i : Int))]).run Tryz.prog w =
      .ok (.slice (some ⟨w.heap.size, 0, none⟩) (n + m) (grownCap w (n + m) c 33)) (w.drew.alloc (.cells ((xs.take (i * 4)).toArray ++ Builtin.zeroCells (.agg #[.int .i64 0, .int .i64 0, .int .i64 0, .int .i64 0] : Value).cells (n + m - i) ++ Builtin.zeroCells (.agg #[.int .i64 0, .int .i64 0, .int .i64 0, .int .i64 0] : Value).cells (grownCap w (n + m) c 33 - (n + m))) 33)) := fun ty => by
    have h := Lib.run_append_grow_zeros w 23 3 ty 33 i0 _ .i64 .i64 insNo_und (by kernel_rfl) hi0 hz0 (some ⟨b, 0, none⟩) i c (xs.take (i * 4)) hold (n + m - i) (by omega) (by omega) (by omega) (by omega) (by rw [hzb]; omega) (by rw [hzb, hik]; exact growslice_fits hroom hbig)
    rw [hik] at h
    rw [hkk]
    exact h
  obtain ⟨G, hG⟩ : ∃ G, G = grownCap w (n + m) c 33 := ⟨_, rfl⟩
  obtain ⟨ROW, hROW⟩ : ∃ ROW : Array Value, ROW = (xs.take (i * 4)).toArray ++ Builtin.zeroCells (.agg #[.int .i64 0, .int .i64 0, .int .i64 0, .int .i64 0] : Value).cells (n + m - i) ++ Builtin.zeroCells (.agg #[.int .i64 0, .int .i64 0, .int .i64 0, .int .i64 0] : Value).cells (G - (n + m)) := ⟨_, rfl⟩
  rw [← hG] at hrz
  rw [← hROW] at hrz
  have hGn : n + m ≤ G := by rw [hG]; exact grownCap_ge w _ _ _
  have hGm : G ≤ maxLen := by rw [hG]; exact grownCap_le_maxLen w (n + m) c 33 (by unfold maxLen; omega)
  have htl : (xs.take (i * 4)).length = i * 4 := by rw [List.length_take, hcl]; have := hmul i n (by omega); omega
  have hRl : ROW.size = G * 4 := by
    rw [hROW]
    simp only [Array.size_append, List.size_toArray, htl, Builtin.zeroCells, Value.cells, Array.size_map, Array.size_range]
    show i * 4 + (n + m - i) * 4 + (G - (n + m)) * 4 = G * 4
    rw [← Nat.add_mul, ← Nat.add_mul]; congr 1; omega
  have hRt : ROW.toList.take (i * 4) = xs.take (i * 4) := by
    rw [hROW]
    simp only [Array.toList_append, List.append_assoc]
    exact List.take_left' htl
  obtain ⟨W1, hW1⟩ : ∃ W1, W1 = w.drew.alloc (.cells ROW 33) := ⟨_, rfl⟩
  rw [← hW1] at hrz
  have hN0 : W1.heap[w.heap.size]? = some (.cells ROW 33 (0, 0)) := by rw [hW1]; show (w.heap.push _)[w.heap.size]? = _; simp
  have hold2 : ∀ k, k < w.heap.size → W1.heap[k]? = w.heap[k]? := fun k hk => by rw [hW1]; show (w.heap.push _)[k]? = _; rw [Array.getElem?_push, if_neg (by omega)]
  have hfz : ∀ (W : World) (cs : Array Value), W.heap[w.heap.size]? = some (.cells cs 33 (0, 0)) → ∀ k, W.frozen? ⟨w.heap.size, k, none⟩ = false := fun W cs hW k => by simp [World.frozen?, hW]
  have hsp : ∀ (W : World) (cs : Array Value), W.heap[w.heap.size]? = some (.cells cs 33 (0, 0)) → ∀ k, k < cs.size → (W.cell? ⟨w.heap.size, k, none⟩).isSome = true := fun W cs hW k hk => by
    rw [cell_of_row W w.heap.size k cs 33 (0, 0) hW]; simp [hk]
  have hcpA : ∀ (W : World), W.heap = W1.heap → ∀ ty dc, (Builtin.copy_ #[23, 22] ty #[.slice (some ⟨w.heap.size, i * 4, none⟩) (n + m - i) dc, .slice (some ⟨vb, vo, none⟩) m vc]).run Tryz.prog W = .ok (goInt m) (W.setCells w.heap.size (i * 4) ys) := fun W hWh ty dc =>
    run_copy_s W _ _ ty 33 4 w.heap.size (i * 4) (n + m - i) dc ⟨vb, vo, none⟩ m vc ys m insNo_und hsz (by simp only [Nat.min_def]; split <;> omega) hvl
      (fun j v hj => by
        have e1 : W.cell? (({ block := vb, off := vo } : Addr).add j) = w.cell? (({ block := vb, off := vo } : Addr).add j) := World.cell?_of_block (by rw [hWh, Addr.add_lit]; exact hold2 vb hvw)
        rw [e1, Addr.add_lit]
        exact hvs j v hj)
      (fun j hj => hsp W _ (by rw [hWh]; exact hN0) _ (by rw [hRl]; rw [hvl] at hj; have := hmul (i + m) G (by omega); rw [Nat.add_mul] at this; omega)) (fun j hj => hfz W _ (by rw [hWh]; exact hN0) _) h1v
  have hG63 : G ≤ 9223372036854775807 := hGm
  have hGi : ¬ (G = i) := by omega
  have hGim : ¬ (G = i + m) := by omega
  have hci : ¬ (c = i) := by omega
  have hbN : b ≠ w.heap.size := by omega
  have hdl : (xs.drop (i * 4)).length = (n - i) * 4 := by rw [List.length_drop, hcl, Nat.sub_mul]
  have hN1 : ∀ W : World, W.heap = W1.heap → (W.setCells w.heap.size (i * 4) ys).heap[w.heap.size]? = some (.cells (setR ROW (i * 4) ys) 33 (0, 0)) := fun W hW => setCells_blk _ _ _ _ (by rw [hW]; exact hN0)
  have hcpB : ∀ (W W2 : World), W.heap = W1.heap → W2.heap = (W.setCells w.heap.size (i * 4) ys).heap → ∀ ty dc sc, (Builtin.copy_ #[23, 23] ty #[.slice (some ⟨w.heap.size, (i + m) * 4, none⟩) (n + m - (i + m)) dc, .slice (some ⟨b, i * 4, none⟩) (n - i) sc]).run Tryz.prog W2 = .ok (goInt ((n - i : Nat) : Int)) (W2.setCells w.heap.size ((i + m) * 4) (xs.drop (i * 4))) := fun W W2 hWh hW2 ty dc sc =>
    run_copy_s W2 _ _ ty 33 4 w.heap.size ((i + m) * 4) (n + m - (i + m)) dc ⟨b, i * 4, none⟩ (n - i) sc (xs.drop (i * 4)) (n - i) insNo_und hsz (by simp only [Nat.min_def]; split <;> omega) hdl
      (fun j v hj => by
        have hbS : b < W.heap.size := by rw [hWh, hW1]; show b < (w.heap.push _).size; simp; omega
        have e1 : W2.heap[b]? = w.heap[b]? := by rw [hW2, World.heap_setCells_other W w.heap.size _ _ hbS hbN, hWh]; exact hold2 b hbw
        rw [Addr.add_lit, cell_of_row W2 b _ cur 33 (0, 0) (by rw [e1]; exact hg)]
        rw [List.getElem?_drop, ← htk, List.getElem?_take] at hj
        split at hj
        · rw [← Array.getElem?_toList]; exact hj
        · cases hj)
      (fun j hj => hsp W2 _ (by rw [hW2]; exact hN1 W hWh) _ (by rw [setR_size, hRl]; rw [hdl, Nat.sub_mul] at hj; have := hmul (n + m) G hGn; rw [Nat.add_mul] at this; have := hmul i n (by omega); rw [Nat.add_mul]; omega)) (fun j hj => hfz W2 _ (by rw [hW2]; exact hN1 W hWh) _) (fun v hv => h1c v (List.mem_of_mem_drop hv))
  have hw1 : IntKind.i64.wrap ((i : Int) + (m : Int)) = (i : Int) + (m : Int) := by rw [IntKind.wrap_i64]; omega
  have hb1 : (0 : Int) ≤ (i : Int) + (m : Int) := by omega
  have hin : i ≤ n := by omega
  have htn : ((i : Int) + (m : Int)).toNat = i + m := by omega
  have hb3 : (i : Int) ≤ (n : Int) := by omega
  refine ⟨G, ROW, (w.alloc (.cells ROW 33)).drew, hGn, hGm, hRl, hRt, rfl, rfl, rfl, rfl, Nat.le_succ _, ?_⟩
  subst hW1
  have hE : ((w.alloc (.cells ROW 33)).drew).heap = (w.drew.alloc (.cells ROW 33)).heap := rfl
  have hF : (((w.alloc (.cells ROW 33)).drew.setCells w.heap.size (i * 4) ys).drew).heap = ((w.alloc (.cells ROW 33)).drew.setCells w.heap.size (i * 4) ys).heap := rfl
  clear hkk hik hold hROW hG hRl hRt hN0 hN1 hold2 hfz hsp hmul hget hg htk hcs h1c hcl htl
  go_enter Tryz.func38, Tryz.ntmps38
  go_wp2_with (first
    | (at_builtin; refine Lib.wpList_append_run _ rfl _ _ _ _ rfl _ _ rfl rfl _ _ (hrz _) ?_)
    | (at_builtin; refine wpList_copy_run _ rfl _ _ 23 22 rfl _ _ rfl rfl (hcpA _ hE _ _) ?_))
  go_region_law_o (refine step_copy_run rfl _ _ 23 23 rfl (.slice (some ⟨w.heap.size, (i + m) * 4, none⟩) (n + m - (i + m)) (G - (i + m))) (.slice (some ⟨b, i * 4, none⟩) (n - i) (c - i)) (by simp [Act.eval, Act.put]) (by simp [Act.eval, Act.put]) (hcpB _ _ hE hF 3 (G - (i + m)) (c - i)) ?_)
  go_wp2
  go_ret
  exact ⟨rfl, rfl⟩
theorem insNo (L Y : List (List AV)) (i : Nat) (hi : i ≤ L.length) (hY : 0 < Y.length) (hf : ∀ y ∈ Y, ∀ z ∈ y, z.flat) (hbig : (L.length + Y.length) * 32 ≤ 140737488355328) :
    FnU Tryz.prog 38 33 4 (.sl 4 L) [.int i, .sl 4 Y] true (.sl 4 (L.take i ++ (Y ++ L.drop i))) := by
  refine ⟨Tryz.call38, ?_⟩
  intro w ok B okc v0 cargs hrow hokc hok hB hgl hsz hargs
  have h0 := hargs 0 (by simp)
  have h1 := hargs 1 (by simp)
  obtain ⟨vy, hc0, hvy⟩ : ∃ vy, cargs = #[.int .i64 i, vy] ∧ RV w ok (.sl 4 Y) vy := by
    have hsz2 : cargs.size = 2 := by simpa using hsz
    obtain ⟨l⟩ := cargs
    match l, hsz2 with
    | [a, b], _ =>
      have e0 : a = .int .i64 i := RV.lit_iff.1 (by simpa using h0)
      exact ⟨b, by rw [e0], by simpa using h1⟩
  subst hc0
  clear hargs h0 h1 hsz
  obtain ⟨vb, vo, vc, ys, rfl, hvok, hvlt, hvc, hvcm, hys, hycell⟩ := cells_flat (okc := okc) hvy hf hY
  have hvb := (hok vb hvok).1
  obtain ⟨L', xs, e1, hs, hL, ho, hone, hv⟩ := hrow
  injection e1 with _ e1
  subst e1
  have hC : CellsOf w okc 4 L xs := ⟨ho.1, hL, hone, hv⟩
  by_cases hin : i = L.length
  · subst hin
    obtain ⟨i0, hi0, hz0, hzs, hzb⟩ : ∃ i0, Tryz.prog.info? 33 = some i0 ∧ i0.zero = some (.agg #[.int .i64 0, .int .i64 0, .int .i64 0, .int .i64 0]) ∧ i0.size = 4 ∧ i0.bytes = 32 := by
      have := insNo_info
      cases hq : Tryz.prog.info? 33 with
      | none => rw [hq] at this; cases this
      | some i0 => rw [hq] at this; simp at this; exact ⟨i0, rfl, this.1, this.2.1, this.2.2⟩
    obtain ⟨v', w', hrun, h2, h3, _, h5⟩ := run_append_own_at (P := Tryz.prog) w B 23 22 33 i0 _ 4 32 insNo_und hi0 hz0 hzs hzb (by simp [Value.cells]) hs v0 L.length xs ho ⟨vb, vo, none⟩ Y.length vc ys hys.len (fun j u hj => by rw [Addr.add_lit]; exact hycell j u hj) hys.one (by unfold maxLen; omega) hbig hB
    have hform : ∃ A c, v0 = .slice A L.length c ∧ L.length ≤ c ∧ c ≤ maxLen := by
      rcases ho.2 with ⟨rfl, hn0⟩ | ⟨g, cap, cur, rfl, _, _, hnc, hm, _⟩
      · exact ⟨none, 0, by rw [hn0], by omega, by unfold maxLen; omega⟩
      · exact ⟨_, _, rfl, hnc, hm⟩
    obtain ⟨A, c, rfl, hnc, hcm⟩ := hform
    refine (insNo_end A L.length c vb vo Y.length vc hY hnc hcm w w' v' hrun).mono ?_
    rintro e W ⟨rfl, rfl⟩
    have hC2 : CellsOf W okc 4 (L ++ Y) (xs ++ ys) := (hC.app hys).mono fun b hb hlt => ⟨hb, h3.block b hlt fun e => (hokc b hb).1 e.symm⟩
    refine ⟨v', rfl, h3, ?_, by simp, fun g hg => ?_, run_drawn _ hrun⟩
    · rw [List.take_length, List.drop_length, List.append_nil]
      exact ⟨_, _, rfl, hs, hC2.each, by rw [List.length_append]; exact h2, hC2.one, hC2.val⟩
    · rcases h5 with q | q
      · left; rw [← q]; exact hg
      · right; rw [q] at hg; injection hg with hg; omega
  have hlt : i < L.length := by omega
  rcases ho.2 with ⟨rfl, hn0⟩ | ⟨g, cap, cur, rfl, hBg, hg, hnc, hm, hcs, htk⟩
  · omega
  have hvg : vb ≠ g := fun e => hvb (by rw [e]; rfl)
  have hlen : (L.take i ++ (Y ++ L.drop i)).length = L.length + Y.length := by simp; omega
  have hC2 : CellsOf w okc 4 (L.take i ++ (Y ++ L.drop i)) (xs.take (i * 4) ++ (ys ++ xs.drop (i * 4))) := (hC.take i hi).app (hys.app (hC.drop i))
  have hmul : ∀ a b : Nat, a ≤ b → a * 4 ≤ b * 4 := fun a b h => Nat.mul_le_mul_right _ h
  have his := hmul i L.length hi
  have hxt : (xs.take (i * 4)).length = i * 4 := by rw [List.length_take, ho.1]; omega
  have hxd : (xs.drop (i * 4)).length = (L.length - i) * 4 := by rw [List.length_drop, ho.1, Nat.sub_mul]
  -- what the two writes leave
  have key : ∀ (cap' : Nat) (C : Array Value), C.size = cap' * 4 → L.length + Y.length ≤ cap' → C.toList.take (i * 4) = xs.take (i * 4) →
      (setR (setR C (i * 4) ys) ((i + Y.length) * 4) (xs.drop (i * 4))).toList.take ((L.length + Y.length) * 4) = xs.take (i * 4) ++ (ys ++ xs.drop (i * 4)) := by
    intro cap' C hCs hcap hCt
    have q0 := hmul (L.length + Y.length) cap' hcap
    rw [Nat.add_mul] at q0
    have q2 : (L.length - i) * 4 = L.length * 4 - i * 4 := Nat.sub_mul _ _ _
    rw [setR_list _ _ _ (by rw [setR_size, hCs, hxd, Nat.add_mul]; omega), setR_list _ _ _ (by rw [hCs, hys.len]; omega), hCt, hys.len, Nat.add_mul i Y.length]
    have e1 : ((xs.take (i * 4) ++ ys ++ C.toList.drop (i * 4 + Y.length * 4)).take (i * 4 + Y.length * 4)) = xs.take (i * 4) ++ ys := List.take_left' (by rw [List.length_append, hxt, hys.len])
    rw [e1, List.append_assoc (xs.take (i * 4)) ys]
    exact List.take_left' (by rw [List.length_append, List.length_append, hxt, hys.len, hxd, Nat.add_mul]; omega)
  have key2 : ∀ (cap' : Nat) (C : Array Value), C.size = cap' * 4 → L.length + Y.length ≤ cap' → C.toList.take (i * 4) = xs.take (i * 4) →
      (setR (setR C ((i + Y.length) * 4) (xs.drop (i * 4))) (i * 4) ys).toList.take ((L.length + Y.length) * 4) = xs.take (i * 4) ++ (ys ++ xs.drop (i * 4)) := by
    intro cap' C hCs hcap hCt
    have q0 := hmul (L.length + Y.length) cap' hcap
    rw [Nat.add_mul] at q0
    have q2 : (L.length - i) * 4 = L.length * 4 - i * 4 := Nat.sub_mul _ _ _
    rw [setR_list _ _ _ (by rw [setR_size, hCs, hys.len]; omega), setR_list _ _ _ (by rw [hCs, hxd, Nat.add_mul]; omega), hys.len, Nat.add_mul i Y.length]
    have hl1 : (C.toList.take (i * 4 + Y.length * 4)).length = i * 4 + Y.length * 4 := by rw [List.length_take, show C.toList.length = C.size from Array.length_toList, hCs]; omega
    have e1 : (C.toList.take (i * 4 + Y.length * 4) ++ xs.drop (i * 4) ++ C.toList.drop (i * 4 + Y.length * 4 + (xs.drop (i * 4)).length)).take (i * 4) = xs.take (i * 4) := by
      rw [List.append_assoc, List.take_append_of_le_length (by rw [hl1]; omega), List.take_take, Nat.min_eq_left (by omega), hCt]
    have e2 : (C.toList.take (i * 4 + Y.length * 4) ++ xs.drop (i * 4) ++ C.toList.drop (i * 4 + Y.length * 4 + (xs.drop (i * 4)).length)).drop (i * 4 + Y.length * 4) = xs.drop (i * 4) ++ C.toList.drop (i * 4 + Y.length * 4 + (xs.drop (i * 4)).length) := by
      rw [List.append_assoc]; exact List.drop_left' hl1
    rw [e1, e2, List.append_assoc (xs.take (i * 4)) ys, ← List.append_assoc ys, ← List.append_assoc (xs.take (i * 4))]
    exact List.take_left' (by rw [List.length_append, List.length_append, hxt, hys.len, hxd, Nat.add_mul]; omega)
  have hct : cur.toList.take (i * 4) = xs.take (i * 4) := by rw [← htk, List.take_take, Nat.min_eq_left his]
  by_cases hroom : L.length + Y.length ≤ cap
  · refine (insNo_shift g L.length cap i vb vo Y.length vc xs ys cur w hlt hY hroom hm hvg ho.1 hys.len hg hcs htk hycell hone hys.one).mono ?_
    rintro e w' ⟨rfl, rfl⟩
    have hg2 : ((w.drew.setCells g ((i + Y.length) * 4) (xs.drop (i * 4))).setCells g (i * 4) ys).heap[g]? = some (.cells (setR (setR cur ((i + Y.length) * 4) (xs.drop (i * 4))) (i * 4) ys) 33 (0, 0)) := setCells_blk _ _ _ _ (setCells_blk _ _ _ _ hg)
    have hgr : w.grownBy ((w.drew.setCells g ((i + Y.length) * 4) (xs.drop (i * 4))).setCells g (i * 4) ys) (some g) := grownBy_trans (grownBy_drew w (some g)) (grownBy_trans (grown_setCells _ _ _ _) (grown_setCells _ _ _ _))
    refine ⟨_, rfl, hgr, ?_, by simp, fun g' hg' => .inl hg', by rw [setCells_drawn, setCells_drawn]; exact Nat.le_succ _⟩
    have hC3 := hC2.mono (w' := (w.drew.setCells g ((i + Y.length) * 4) (xs.drop (i * 4))).setCells g (i * 4) ys) (okc' := okc) fun b hb hlt => ⟨hb, hgr.block b hlt fun e => (hokc b hb).1 e.symm⟩
    rw [← hlen]
    exact hC3.row hs hBg hg2 hm (by rw [setR_size, setR_size]; exact hcs) (by rw [hlen]; exact hroom) (by rw [hlen]; exact key2 cap cur hcs hroom hct)
  · obtain ⟨G, ROW, W, hGn, hGm, hRs, hRt, hWh, hWo, hWt, hWp, hWd, hcall⟩ := insNo_grow g L.length cap i vb vo Y.length vc xs ys cur w hlt hY hnc (by omega) hbig ho.1 hys.len hg hcs htk hycell hone hys.one
    refine hcall.mono ?_
    rintro e w' ⟨rfl, rfl⟩
    have hWs : W.heap.size = w.heap.size + 1 := by rw [hWh]; show (w.heap.push _).size = _; simp
    have hW0 : W.heap[w.heap.size]? = some (.cells ROW 33 (0, 0)) := by rw [hWh]; show (w.heap.push _)[w.heap.size]? = _; simp
    have hg2 : (((W.setCells w.heap.size (i * 4) ys).drew).setCells w.heap.size ((i + Y.length) * 4) (xs.drop (i * 4))).heap[w.heap.size]? = some (.cells (setR (setR ROW (i * 4) ys) ((i + Y.length) * 4) (xs.drop (i * 4))) 33 (0, 0)) := setCells_blk _ _ _ _ (setCells_blk _ _ _ _ hW0)
    have hgW : W.grownBy (((W.setCells w.heap.size (i * 4) ys).drew).setCells w.heap.size ((i + Y.length) * 4) (xs.drop (i * 4))) (some w.heap.size) := grownBy_trans (grown_setCells _ _ _ _) (grownBy_trans (grownBy_drew _ _) (grown_setCells _ _ _ _))
    have hblk : ∀ k, k < w.heap.size → (((W.setCells w.heap.size (i * 4) ys).drew).setCells w.heap.size ((i + Y.length) * 4) (xs.drop (i * 4))).heap[k]? = w.heap[k]? := fun k hk => by
      rw [hgW.block k (by omega) (fun e => by injection e with e; omega), hWh]
      show (w.heap.push _)[k]? = _
      rw [Array.getElem?_push, if_neg (by omega)]
    refine ⟨_, rfl, ⟨hgW.os.trans hWo, hgW.tape.trans hWt, hgW.output.trans hWp, Nat.le_trans (by omega) hgW.size, fun k hk _ => hblk k hk⟩, ?_, by simp, fun g' hg' => .inr (by have e : w.heap.size = g' := (by injection hg'); omega), by rw [setCells_drawn]; show w.drawn ≤ (W.setCells w.heap.size _ ys).drawn + 1; rw [setCells_drawn]; omega⟩
    have hC3 := hC2.mono (w' := ((W.setCells w.heap.size (i * 4) ys).drew).setCells w.heap.size ((i + Y.length) * 4) (xs.drop (i * 4))) (okc' := okc) fun b hb hlt => ⟨hb, hblk b hlt⟩
    rw [← hlen]
    exact hC3.row hs hB hg2 hGm (by rw [setR_size, setR_size]; exact hRs) (by rw [hlen]; exact hGn) (by rw [hlen]; exact key G ROW hRs hGn hRt)
end Go.Proofs.YtfemeeffoapemaaGreatDoor
/- planes, polygons, volumes: what the run ends in. -/
namespace Go.Proofs.YtfemeeffoapemaaGreatDoor
open Go.RowKit
set_option linter.unusedVariables false
set_option maxRecDepth 100000
namespace SecF
--GAMMA
def Γ : FuncId → Option Ca := fun f =>
  if f = 16 ∨ f = 42 ∨ f = 43 ∨ f = 25 ∨ f = 44 ∨ f = 20 ∨ f = 22 then some (.fn .sc)
  else if f = 23 ∨ f = 14 ∨ f = 24 ∨ f = 21 ∨ f = 12 then some (.fn (.tup [.sc, .sc]))
  else some .inl
def ann : FuncId → Nat → LoopEx := fun f r => ⟨[], [], [], []⟩
--END GAMMA
theorem pcheck_form (x0 r : AV) : fnF Tryz.prog Γ ann 3 16 Tryz.f16 (Tryz.f16.body.getD .skip) (.nil) [x0] (.sc) r = (((AV.isAgg x0 2) ∧
((AV.binOk Go.BinOp.lss (AV.cel x0 0) (AV.int (-1000000))) ∧
((AV.isBool (AV.bin Go.BinOp.lss (AV.cel x0 0) (AV.int (-1000000)))) ∧
(((isT (AV.bin Go.BinOp.lss (AV.cel x0 0) (AV.int (-1000000)))) →
  ((AV.isBool (AV.bin Go.BinOp.lss (AV.cel x0 0) (AV.int (-1000000)))) ∧
  ((isT (AV.bin Go.BinOp.lss (AV.cel x0 0) (AV.int (-1000000)))) ∧
  ((AV.flat (AV.int 4)) ∧
  (fSame (AV.int 4) r))))) ∧
((isF (AV.bin Go.BinOp.lss (AV.cel x0 0) (AV.int (-1000000)))) →
  ((AV.binOk Go.BinOp.gtr (AV.cel x0 0) (AV.int 1000000)) ∧
  ((AV.isBool (AV.bin Go.BinOp.lss (AV.cel x0 0) (AV.int (-1000000)))) ∧
  ((isF (AV.bin Go.BinOp.lss (AV.cel x0 0) (AV.int (-1000000)))) ∧
  ((AV.isBool (AV.bin Go.BinOp.gtr (AV.cel x0 0) (AV.int 1000000))) ∧
  (((isT (AV.bin Go.BinOp.gtr (AV.cel x0 0) (AV.int 1000000))) →
    ((AV.isBool (AV.bin Go.BinOp.gtr (AV.cel x0 0) (AV.int 1000000))) ∧
    ((isT (AV.bin Go.BinOp.gtr (AV.cel x0 0) (AV.int 1000000))) ∧
    ((AV.flat (AV.int 4)) ∧
    (fSame (AV.int 4) r))))) ∧
  ((isF (AV.bin Go.BinOp.gtr (AV.cel x0 0) (AV.int 1000000))) →
    ((AV.binOk Go.BinOp.lss (AV.cel x0 1) (AV.int (-1000000))) ∧
    ((AV.isBool (AV.bin Go.BinOp.gtr (AV.cel x0 0) (AV.int 1000000))) ∧
    ((isF (AV.bin Go.BinOp.gtr (AV.cel x0 0) (AV.int 1000000))) ∧
    ((AV.isBool (AV.bin Go.BinOp.lss (AV.cel x0 1) (AV.int (-1000000)))) ∧
    (((isT (AV.bin Go.BinOp.lss (AV.cel x0 1) (AV.int (-1000000)))) →
      ((AV.isBool (AV.bin Go.BinOp.lss (AV.cel x0 1) (AV.int (-1000000)))) ∧
      ((isT (AV.bin Go.BinOp.lss (AV.cel x0 1) (AV.int (-1000000)))) ∧
      ((AV.flat (AV.int 4)) ∧
      (fSame (AV.int 4) r))))) ∧
    ((isF (AV.bin Go.BinOp.lss (AV.cel x0 1) (AV.int (-1000000)))) →
      ((AV.binOk Go.BinOp.gtr (AV.cel x0 1) (AV.int 1000000)) ∧
      ((AV.isBool (AV.bin Go.BinOp.lss (AV.cel x0 1) (AV.int (-1000000)))) ∧
      ((isF (AV.bin Go.BinOp.lss (AV.cel x0 1) (AV.int (-1000000)))) ∧
      ((AV.isBool (AV.bin Go.BinOp.gtr (AV.cel x0 1) (AV.int 1000000))) ∧
      (((isT (AV.bin Go.BinOp.gtr (AV.cel x0 1) (AV.int 1000000))) →
        ((AV.flat (AV.int 4)) ∧
        (fSame (AV.int 4) r))) ∧
      ((isF (AV.bin Go.BinOp.gtr (AV.cel x0 1) (AV.int 1000000))) →
        ((AV.flat (AV.int 0)) ∧
        (fSame (AV.int 0) r)))))))))))))))))))))))))) := by kernel_rfl
theorem sub_form (x0 x1 r : AV) : fnF Tryz.prog Γ ann 3 42 Tryz.f42 (Tryz.f42.body.getD .skip) (.nil) [x0, x1] (.sc) r = (((AV.isAgg x0 2) ∧
((AV.isAgg x1 2) ∧
((AV.binOk Go.BinOp.sub (AV.cel x0 0) (AV.cel x1 0)) ∧
((AV.binOk Go.BinOp.sub (AV.cel x0 1) (AV.cel x1 1)) ∧
((AV.isOne (AV.bin Go.BinOp.sub (AV.cel x0 0) (AV.cel x1 0))) ∧
((AV.isOne (AV.bin Go.BinOp.sub (AV.cel x0 1) (AV.cel x1 1))) ∧
((AV.flat (AV.agg [(AV.bin Go.BinOp.sub (AV.cel x0 0) (AV.cel x1 0)), (AV.bin Go.BinOp.sub (AV.cel x0 1) (AV.cel x1 1))])) ∧
(fSame (AV.agg [(AV.bin Go.BinOp.sub (AV.cel x0 0) (AV.cel x1 0)), (AV.bin Go.BinOp.sub (AV.cel x0 1) (AV.cel x1 1))]) r))))))))) := by kernel_rfl
theorem dot_form (x0 x1 r : AV) : fnF Tryz.prog Γ ann 3 43 Tryz.f43 (Tryz.f43.body.getD .skip) (.nil) [x0, x1] (.sc) r = (((AV.isAgg x0 2) ∧
((AV.isAgg x1 2) ∧
((AV.binOk Go.BinOp.mul (AV.cel x0 0) (AV.cel x1 0)) ∧
((AV.binOk Go.BinOp.mul (AV.cel x0 1) (AV.cel x1 1)) ∧
((AV.binOk Go.BinOp.add (AV.bin Go.BinOp.mul (AV.cel x0 0) (AV.cel x1 0)) (AV.bin Go.BinOp.mul (AV.cel x0 1) (AV.cel x1 1))) ∧
((AV.flat (AV.bin Go.BinOp.add (AV.bin Go.BinOp.mul (AV.cel x0 0) (AV.cel x1 0)) (AV.bin Go.BinOp.mul (AV.cel x0 1) (AV.cel x1 1)))) ∧
(fSame (AV.bin Go.BinOp.add (AV.bin Go.BinOp.mul (AV.cel x0 0) (AV.cel x1 0)) (AV.bin Go.BinOp.mul (AV.cel x0 1) (AV.cel x1 1))) r)))))))) := by kernel_rfl
theorem square_form (x0 x1 r : AV) : fnF Tryz.prog Γ ann 3 25 Tryz.f25 (Tryz.f25.body.getD .skip) (.nil) [x0, x1] (.sc) r = (((AV.isAgg x0 2) ∧
((AV.isAgg x1 2) ∧
(∃ r321 : AV, ((Fn Tryz.prog 42 [(AV.agg [(AV.cel x0 0), (AV.cel x0 1)]), (AV.agg [(AV.cel x1 0), (AV.cel x1 1)])] Sh.sc r321) ∧
((AV.isAgg r321 2) ∧
(∃ r641 : AV, ((Fn Tryz.prog 43 [(AV.agg [(AV.cel r321 0), (AV.cel r321 1)]), (AV.agg [(AV.cel r321 0), (AV.cel r321 1)])] Sh.sc r641) ∧
((AV.flat r641) ∧
(fSame r641 r)))))))))) := by kernel_rfl
theorem divd_form (x0 x1 r : AV) : fnF Tryz.prog Γ ann 3 23 Tryz.f23 (Tryz.f23.body.getD .skip) (.nil) [x0, x1] (.tup [.sc, .sc]) r = (((AV.binOk Go.BinOp.eql x1 (AV.int 0)) ∧
((AV.isBool (AV.bin Go.BinOp.eql x1 (AV.int 0))) ∧
(((isT (AV.bin Go.BinOp.eql x1 (AV.int 0))) →
  ((AV.flat (AV.int 0)) ∧
  ((AV.flat (AV.int 10)) ∧
  (fSame (AV.tup [(AV.int 0), (AV.int 10)]) r)))) ∧
((isF (AV.bin Go.BinOp.eql x1 (AV.int 0))) →
  ((AV.binOk Go.BinOp.eql x0 (AV.int (-9223372036854775808))) ∧
  ((AV.isBool (AV.bin Go.BinOp.eql x0 (AV.int (-9223372036854775808)))) ∧
  (((isT (AV.bin Go.BinOp.eql x0 (AV.int (-9223372036854775808)))) →
    ((AV.binOk Go.BinOp.eql x1 (AV.int (-1))) ∧
    ((AV.isBool (AV.bin Go.BinOp.eql x0 (AV.int (-9223372036854775808)))) ∧
    ((isT (AV.bin Go.BinOp.eql x0 (AV.int (-9223372036854775808)))) ∧
    ((AV.isBool (AV.bin Go.BinOp.eql x1 (AV.int (-1)))) ∧
    (((isT (AV.bin Go.BinOp.eql x1 (AV.int (-1)))) →
      ((AV.flat (AV.int 0)) ∧
      ((AV.flat (AV.int 2)) ∧
      (fSame (AV.tup [(AV.int 0), (AV.int 2)]) r)))) ∧
    ((isF (AV.bin Go.BinOp.eql x1 (AV.int (-1)))) →
      ((AV.binOk Go.BinOp.quo x0 x1) ∧
      ((AV.binOk Go.BinOp.rem x0 x1) ∧
      ((AV.binOk Go.BinOp.neq (AV.bin Go.BinOp.rem x0 x1) (AV.int 0)) ∧
      ((AV.isBool (AV.bin Go.BinOp.neq (AV.bin Go.BinOp.rem x0 x1) (AV.int 0))) ∧
      (((isT (AV.bin Go.BinOp.neq (AV.bin Go.BinOp.rem x0 x1) (AV.int 0))) →
        ((AV.binOk Go.BinOp.lss x0 (AV.int 0)) ∧
        ((AV.binOk Go.BinOp.lss x1 (AV.int 0)) ∧
        ((AV.isBool (AV.bin Go.BinOp.lss x0 (AV.int 0))) ∧
        ((AV.isBool (AV.bin Go.BinOp.lss x1 (AV.int 0))) ∧
        ((AV.isBool (AV.bin Go.BinOp.neq (AV.bin Go.BinOp.rem x0 x1) (AV.int 0))) ∧
        ((isT (AV.bin Go.BinOp.neq (AV.bin Go.BinOp.rem x0 x1) (AV.int 0))) ∧
        ((AV.isBool (AV.neB (AV.bin Go.BinOp.lss x0 (AV.int 0)) (AV.bin Go.BinOp.lss x1 (AV.int 0)))) ∧
        (((isT (AV.neB (AV.bin Go.BinOp.lss x0 (AV.int 0)) (AV.bin Go.BinOp.lss x1 (AV.int 0)))) →
          ((AV.binOk Go.BinOp.sub (AV.bin Go.BinOp.quo x0 x1) (AV.int 1)) ∧
          ((AV.flat (AV.bin Go.BinOp.sub (AV.bin Go.BinOp.quo x0 x1) (AV.int 1))) ∧
          ((AV.flat (AV.int 0)) ∧
          (fSame (AV.tup [(AV.bin Go.BinOp.sub (AV.bin Go.BinOp.quo x0 x1) (AV.int 1)), (AV.int 0)]) r))))) ∧
        ((isF (AV.neB (AV.bin Go.BinOp.lss x0 (AV.int 0)) (AV.bin Go.BinOp.lss x1 (AV.int 0)))) →
          ((AV.flat (AV.bin Go.BinOp.quo x0 x1)) ∧
          ((AV.flat (AV.int 0)) ∧
          (fSame (AV.tup [(AV.bin Go.BinOp.quo x0 x1), (AV.int 0)]) r))))))))))))) ∧
      ((isF (AV.bin Go.BinOp.neq (AV.bin Go.BinOp.rem x0 x1) (AV.int 0))) →
        ((AV.isBool (AV.bin Go.BinOp.neq (AV.bin Go.BinOp.rem x0 x1) (AV.int 0))) ∧
        ((isF (AV.bin Go.BinOp.neq (AV.bin Go.BinOp.rem x0 x1) (AV.int 0))) ∧
        ((AV.flat (AV.bin Go.BinOp.quo x0 x1)) ∧
        ((AV.flat (AV.int 0)) ∧
        (fSame (AV.tup [(AV.bin Go.BinOp.quo x0 x1), (AV.int 0)]) r)))))))))))))))))) ∧
  ((isF (AV.bin Go.BinOp.eql x0 (AV.int (-9223372036854775808)))) →
    ((AV.isBool (AV.bin Go.BinOp.eql x0 (AV.int (-9223372036854775808)))) ∧
    ((isF (AV.bin Go.BinOp.eql x0 (AV.int (-9223372036854775808)))) ∧
    ((AV.binOk Go.BinOp.quo x0 x1) ∧
    ((AV.binOk Go.BinOp.rem x0 x1) ∧
    ((AV.binOk Go.BinOp.neq (AV.bin Go.BinOp.rem x0 x1) (AV.int 0)) ∧
    ((AV.isBool (AV.bin Go.BinOp.neq (AV.bin Go.BinOp.rem x0 x1) (AV.int 0))) ∧
    (((isT (AV.bin Go.BinOp.neq (AV.bin Go.BinOp.rem x0 x1) (AV.int 0))) →
      ((AV.binOk Go.BinOp.lss x0 (AV.int 0)) ∧
      ((AV.binOk Go.BinOp.lss x1 (AV.int 0)) ∧
      ((AV.isBool (AV.bin Go.BinOp.lss x0 (AV.int 0))) ∧
      ((AV.isBool (AV.bin Go.BinOp.lss x1 (AV.int 0))) ∧
      ((AV.isBool (AV.bin Go.BinOp.neq (AV.bin Go.BinOp.rem x0 x1) (AV.int 0))) ∧
      ((isT (AV.bin Go.BinOp.neq (AV.bin Go.BinOp.rem x0 x1) (AV.int 0))) ∧
      ((AV.isBool (AV.neB (AV.bin Go.BinOp.lss x0 (AV.int 0)) (AV.bin Go.BinOp.lss x1 (AV.int 0)))) ∧
      (((isT (AV.neB (AV.bin Go.BinOp.lss x0 (AV.int 0)) (AV.bin Go.BinOp.lss x1 (AV.int 0)))) →
        ((AV.binOk Go.BinOp.sub (AV.bin Go.BinOp.quo x0 x1) (AV.int 1)) ∧
        ((AV.flat (AV.bin Go.BinOp.sub (AV.bin Go.BinOp.quo x0 x1) (AV.int 1))) ∧
        ((AV.flat (AV.int 0)) ∧
        (fSame (AV.tup [(AV.bin Go.BinOp.sub (AV.bin Go.BinOp.quo x0 x1) (AV.int 1)), (AV.int 0)]) r))))) ∧
      ((isF (AV.neB (AV.bin Go.BinOp.lss x0 (AV.int 0)) (AV.bin Go.BinOp.lss x1 (AV.int 0)))) →
        ((AV.flat (AV.bin Go.BinOp.quo x0 x1)) ∧
        ((AV.flat (AV.int 0)) ∧
        (fSame (AV.tup [(AV.bin Go.BinOp.quo x0 x1), (AV.int 0)]) r))))))))))))) ∧
    ((isF (AV.bin Go.BinOp.neq (AV.bin Go.BinOp.rem x0 x1) (AV.int 0))) →
      ((AV.isBool (AV.bin Go.BinOp.neq (AV.bin Go.BinOp.rem x0 x1) (AV.int 0))) ∧
      ((isF (AV.bin Go.BinOp.neq (AV.bin Go.BinOp.rem x0 x1) (AV.int 0))) ∧
      ((AV.flat (AV.bin Go.BinOp.quo x0 x1)) ∧
      ((AV.flat (AV.int 0)) ∧
      (fSame (AV.tup [(AV.bin Go.BinOp.quo x0 x1), (AV.int 0)]) r)))))))))))))))))))))) := by kernel_rfl
theorem divu_form (x0 x1 r : AV) : fnF Tryz.prog Γ ann 3 14 Tryz.f14 (Tryz.f14.body.getD .skip) (.nil) [x0, x1] (.tup [.sc, .sc]) r = ((∃ r257 : AV, ((Fn Tryz.prog 23 [x0, x1] (Sh.tup [Sh.sc, Sh.sc]) r257) ∧
((AV.binOk Go.BinOp.eql (AV.prj r257 1) (AV.int 0)) ∧
((AV.isBool (AV.bin Go.BinOp.eql (AV.prj r257 1) (AV.int 0))) ∧
(((isT (AV.bin Go.BinOp.eql (AV.prj r257 1) (AV.int 0))) →
  ((AV.binOk Go.BinOp.rem x0 x1) ∧
  ((AV.binOk Go.BinOp.neq (AV.bin Go.BinOp.rem x0 x1) (AV.int 0)) ∧
  ((AV.isBool (AV.bin Go.BinOp.eql (AV.prj r257 1) (AV.int 0))) ∧
  ((isT (AV.bin Go.BinOp.eql (AV.prj r257 1) (AV.int 0))) ∧
  ((AV.isBool (AV.bin Go.BinOp.neq (AV.bin Go.BinOp.rem x0 x1) (AV.int 0))) ∧
  (((isT (AV.bin Go.BinOp.neq (AV.bin Go.BinOp.rem x0 x1) (AV.int 0))) →
    ((AV.binOk Go.BinOp.add (AV.prj r257 0) (AV.int 1)) ∧
    ((AV.flat (AV.bin Go.BinOp.add (AV.prj r257 0) (AV.int 1))) ∧
    ((AV.flat (AV.prj r257 1)) ∧
    (fSame (AV.tup [(AV.bin Go.BinOp.add (AV.prj r257 0) (AV.int 1)), (AV.prj r257 1)]) r))))) ∧
  ((isF (AV.bin Go.BinOp.neq (AV.bin Go.BinOp.rem x0 x1) (AV.int 0))) →
    ((AV.flat (AV.prj r257 0)) ∧
    ((AV.flat (AV.prj r257 1)) ∧
    (fSame (AV.tup [(AV.prj r257 0), (AV.prj r257 1)]) r))))))))))) ∧
((isF (AV.bin Go.BinOp.eql (AV.prj r257 1) (AV.int 0))) →
  ((AV.isBool (AV.bin Go.BinOp.eql (AV.prj r257 1) (AV.int 0))) ∧
  ((isF (AV.bin Go.BinOp.eql (AV.prj r257 1) (AV.int 0))) ∧
  ((AV.flat (AV.prj r257 0)) ∧
  ((AV.flat (AV.prj r257 1)) ∧
  (fSame (AV.tup [(AV.prj r257 0), (AV.prj r257 1)]) r)))))))))))) := by kernel_rfl
theorem toward_form (x0 x1 x2 x3 r : AV) : fnF Tryz.prog Γ ann 3 24 Tryz.f24 (Tryz.f24.body.getD .skip) (.nil) [x0, x1, x2, x3] (.tup [.sc, .sc]) r = (((AV.isAgg x0 2) ∧
((AV.isAgg x1 2) ∧
((AV.binOk Go.BinOp.leq x3 (AV.int 0)) ∧
((AV.isBool (AV.bin Go.BinOp.leq x3 (AV.int 0))) ∧
(((isT (AV.bin Go.BinOp.leq x3 (AV.int 0))) →
  ((AV.flat (AV.agg [(AV.int 0), (AV.int 0)])) ∧
  ((AV.flat (AV.int 10)) ∧
  (fSame (AV.tup [(AV.agg [(AV.int 0), (AV.int 0)]), (AV.int 10)]) r)))) ∧
((isF (AV.bin Go.BinOp.leq x3 (AV.int 0))) →
  ((AV.binOk Go.BinOp.gtr x3 (AV.int 200000)) ∧
  ((AV.isBool (AV.bin Go.BinOp.gtr x3 (AV.int 200000))) ∧
  (((isT (AV.bin Go.BinOp.gtr x3 (AV.int 200000))) →
    ((AV.isBool (AV.bin Go.BinOp.gtr x3 (AV.int 200000))) ∧
    ((isT (AV.bin Go.BinOp.gtr x3 (AV.int 200000))) ∧
    ((AV.flat (AV.agg [(AV.int 0), (AV.int 0)])) ∧
    ((AV.flat (AV.int 4)) ∧
    (fSame (AV.tup [(AV.agg [(AV.int 0), (AV.int 0)]), (AV.int 4)]) r)))))) ∧
  ((isF (AV.bin Go.BinOp.gtr x3 (AV.int 200000))) →
    ((AV.binOk Go.BinOp.lss x2 (AV.int 0)) ∧
    ((AV.isBool (AV.bin Go.BinOp.gtr x3 (AV.int 200000))) ∧
    ((isF (AV.bin Go.BinOp.gtr x3 (AV.int 200000))) ∧
    ((AV.isBool (AV.bin Go.BinOp.lss x2 (AV.int 0))) ∧
    (((isT (AV.bin Go.BinOp.lss x2 (AV.int 0))) →
      ((AV.isBool (AV.bin Go.BinOp.lss x2 (AV.int 0))) ∧
      ((isT (AV.bin Go.BinOp.lss x2 (AV.int 0))) ∧
      ((AV.flat (AV.agg [(AV.int 0), (AV.int 0)])) ∧
      ((AV.flat (AV.int 4)) ∧
      (fSame (AV.tup [(AV.agg [(AV.int 0), (AV.int 0)]), (AV.int 4)]) r)))))) ∧
    ((isF (AV.bin Go.BinOp.lss x2 (AV.int 0))) →
      ((AV.binOk Go.BinOp.gtr x2 x3) ∧
      ((AV.isBool (AV.bin Go.BinOp.lss x2 (AV.int 0))) ∧
      ((isF (AV.bin Go.BinOp.lss x2 (AV.int 0))) ∧
      ((AV.isBool (AV.bin Go.BinOp.gtr x2 x3)) ∧
      (((isT (AV.bin Go.BinOp.gtr x2 x3)) →
        ((AV.flat (AV.agg [(AV.int 0), (AV.int 0)])) ∧
        ((AV.flat (AV.int 4)) ∧
        (fSame (AV.tup [(AV.agg [(AV.int 0), (AV.int 0)]), (AV.int 4)]) r)))) ∧
      ((isF (AV.bin Go.BinOp.gtr x2 x3)) →
        (∃ r1281 : AV, ((Fn Tryz.prog 16 [(AV.agg [(AV.cel x0 0), (AV.cel x0 1)])] Sh.sc r1281) ∧
        ((AV.binOk Go.BinOp.neq r1281 (AV.int 0)) ∧
        ((AV.isBool (AV.bin Go.BinOp.neq r1281 (AV.int 0))) ∧
        (((isT (AV.bin Go.BinOp.neq r1281 (AV.int 0))) →
          (∃ r1601 : AV, ((Fn Tryz.prog 16 [(AV.agg [(AV.cel x0 0), (AV.cel x0 1)])] Sh.sc r1601) ∧
          ((AV.flat (AV.agg [(AV.int 0), (AV.int 0)])) ∧
          ((AV.flat r1601) ∧
          (fSame (AV.tup [(AV.agg [(AV.int 0), (AV.int 0)]), r1601]) r)))))) ∧
        ((isF (AV.bin Go.BinOp.neq r1281 (AV.int 0))) →
          (∃ r1537 : AV, ((Fn Tryz.prog 16 [(AV.agg [(AV.cel x1 0), (AV.cel x1 1)])] Sh.sc r1537) ∧
          ((AV.binOk Go.BinOp.neq r1537 (AV.int 0)) ∧
          ((AV.isBool (AV.bin Go.BinOp.neq r1537 (AV.int 0))) ∧
          (((isT (AV.bin Go.BinOp.neq r1537 (AV.int 0))) →
            (∃ r1857 : AV, ((Fn Tryz.prog 16 [(AV.agg [(AV.cel x1 0), (AV.cel x1 1)])] Sh.sc r1857) ∧
            ((AV.flat (AV.agg [(AV.int 0), (AV.int 0)])) ∧
            ((AV.flat r1857) ∧
            (fSame (AV.tup [(AV.agg [(AV.int 0), (AV.int 0)]), r1857]) r)))))) ∧
          ((isF (AV.bin Go.BinOp.neq r1537 (AV.int 0))) →
            ((AV.binOk Go.BinOp.sub (AV.cel x1 0) (AV.cel x0 0)) ∧
            ((AV.binOk Go.BinOp.mul (AV.bin Go.BinOp.sub (AV.cel x1 0) (AV.cel x0 0)) x2) ∧
            (∃ r2241 : AV, ((Fn Tryz.prog 23 [(AV.bin Go.BinOp.mul (AV.bin Go.BinOp.sub (AV.cel x1 0) (AV.cel x0 0)) x2), x3] (Sh.tup [Sh.sc, Sh.sc]) r2241) ∧
            ((AV.binOk Go.BinOp.sub (AV.cel x1 1) (AV.cel x0 1)) ∧
            ((AV.binOk Go.BinOp.mul (AV.bin Go.BinOp.sub (AV.cel x1 1) (AV.cel x0 1)) x2) ∧
            (∃ r3137 : AV, ((Fn Tryz.prog 23 [(AV.bin Go.BinOp.mul (AV.bin Go.BinOp.sub (AV.cel x1 1) (AV.cel x0 1)) x2), x3] (Sh.tup [Sh.sc, Sh.sc]) r3137) ∧
            ((AV.binOk Go.BinOp.add (AV.cel x0 0) (AV.prj r2241 0)) ∧
            ((AV.binOk Go.BinOp.add (AV.cel x0 1) (AV.prj r3137 0)) ∧
            ((AV.isOne (AV.bin Go.BinOp.add (AV.cel x0 0) (AV.prj r2241 0))) ∧
            ((AV.isOne (AV.bin Go.BinOp.add (AV.cel x0 1) (AV.prj r3137 0))) ∧
            ((AV.flat (AV.agg [(AV.bin Go.BinOp.add (AV.cel x0 0) (AV.prj r2241 0)), (AV.bin Go.BinOp.add (AV.cel x0 1) (AV.prj r3137 0))])) ∧
            ((AV.flat (AV.int 0)) ∧
            (fSame (AV.tup [(AV.agg [(AV.bin Go.BinOp.add (AV.cel x0 0) (AV.prj r2241 0)), (AV.bin Go.BinOp.add (AV.cel x0 1) (AV.prj r3137 0))]), (AV.int 0)]) r)))))))))))))))))))))))))))))))))))))))))))))))))) := by kernel_rfl
theorem tcheck_form (x0 r : AV) : fnF Tryz.prog Γ ann 3 20 Tryz.f20 (Tryz.f20.body.getD .skip) (.nil) [x0] (.sc) r = (((AV.isSl x0 6) ∧
((AV.binOk Go.BinOp.gtr (AV.len x0) (AV.int 64)) ∧
((AV.isBool (AV.bin Go.BinOp.gtr (AV.len x0) (AV.int 64))) ∧
(((isT (AV.bin Go.BinOp.gtr (AV.len x0) (AV.int 64))) →
  ((AV.flat (AV.int 2)) ∧
  (fSame (AV.int 2) r))) ∧
((isF (AV.bin Go.BinOp.gtr (AV.len x0) (AV.int 64))) →
  ((AV.isSl x0 6) ∧
  ((AV.binOk Go.BinOp.eql (AV.len x0) (AV.int 0)) ∧
  ((AV.isBool (AV.bin Go.BinOp.eql (AV.len x0) (AV.int 0))) ∧
  (((isT (AV.bin Go.BinOp.eql (AV.len x0) (AV.int 0))) →
    ((AV.flat (AV.int 3)) ∧
    (fSame (AV.int 3) r))) ∧
  ((isF (AV.bin Go.BinOp.eql (AV.len x0) (AV.int 0))) →
    ((AV.isSl x0 6) ∧
    (fLoop 769 [(AV.int 0)] fun ys769 again769 =>
      ((AV.binOk Go.BinOp.lss (ys769.getD 0 default) (AV.len x0)) ∧
      ((AV.isBool (AV.bin Go.BinOp.lss (ys769.getD 0 default) (AV.len x0))) ∧
      (((isT (AV.bin Go.BinOp.lss (ys769.getD 0 default) (AV.len x0))) →
        ((AV.isSl x0 6) ∧
        ((AV.inb x0 (ys769.getD 0 default)) ∧
        ((AV.isAgg (AV.atAgg x0 (ys769.getD 0 default) 0 6) 6) ∧
        ((AV.binOk Go.BinOp.lss (AV.cel (AV.atAgg x0 (ys769.getD 0 default) 0 6) 0) (AV.int 0)) ∧
        ((AV.isBool (AV.bin Go.BinOp.lss (AV.cel (AV.atAgg x0 (ys769.getD 0 default) 0 6) 0) (AV.int 0))) ∧
        (((isT (AV.bin Go.BinOp.lss (AV.cel (AV.atAgg x0 (ys769.getD 0 default) 0 6) 0) (AV.int 0))) →
          ((AV.isBool (AV.bin Go.BinOp.lss (AV.cel (AV.atAgg x0 (ys769.getD 0 default) 0 6) 0) (AV.int 0))) ∧
          ((isT (AV.bin Go.BinOp.lss (AV.cel (AV.atAgg x0 (ys769.getD 0 default) 0 6) 0) (AV.int 0))) ∧
          ((AV.flat (AV.int 12)) ∧
          (fSame (AV.int 12) r))))) ∧
        ((isF (AV.bin Go.BinOp.lss (AV.cel (AV.atAgg x0 (ys769.getD 0 default) 0 6) 0) (AV.int 0))) →
          ((AV.binOk Go.BinOp.gtr (AV.cel (AV.atAgg x0 (ys769.getD 0 default) 0 6) 0) (AV.int 200000)) ∧
          ((AV.isBool (AV.bin Go.BinOp.lss (AV.cel (AV.atAgg x0 (ys769.getD 0 default) 0 6) 0) (AV.int 0))) ∧
          ((isF (AV.bin Go.BinOp.lss (AV.cel (AV.atAgg x0 (ys769.getD 0 default) 0 6) 0) (AV.int 0))) ∧
          ((AV.isBool (AV.bin Go.BinOp.gtr (AV.cel (AV.atAgg x0 (ys769.getD 0 default) 0 6) 0) (AV.int 200000))) ∧
          (((isT (AV.bin Go.BinOp.gtr (AV.cel (AV.atAgg x0 (ys769.getD 0 default) 0 6) 0) (AV.int 200000))) →
            ((AV.isBool (AV.bin Go.BinOp.gtr (AV.cel (AV.atAgg x0 (ys769.getD 0 default) 0 6) 0) (AV.int 200000))) ∧
            ((isT (AV.bin Go.BinOp.gtr (AV.cel (AV.atAgg x0 (ys769.getD 0 default) 0 6) 0) (AV.int 200000))) ∧
            ((AV.flat (AV.int 12)) ∧
            (fSame (AV.int 12) r))))) ∧
          ((isF (AV.bin Go.BinOp.gtr (AV.cel (AV.atAgg x0 (ys769.getD 0 default) 0 6) 0) (AV.int 200000))) →
            ((AV.binOk Go.BinOp.gtr (ys769.getD 0 default) (AV.int 0)) ∧
            ((AV.isBool (AV.bin Go.BinOp.gtr (ys769.getD 0 default) (AV.int 0))) ∧
            (((isT (AV.bin Go.BinOp.gtr (ys769.getD 0 default) (AV.int 0))) →
              ((AV.binOk Go.BinOp.sub (ys769.getD 0 default) (AV.int 1)) ∧
              ((AV.isSl x0 6) ∧
              ((AV.inb x0 (AV.bin Go.BinOp.sub (ys769.getD 0 default) (AV.int 1))) ∧
              ((AV.binOk Go.BinOp.leq (AV.cel (AV.atAgg x0 (ys769.getD 0 default) 0 6) 0) (AV.at x0 (AV.bin Go.BinOp.sub (ys769.getD 0 default) (AV.int 1)) 0)) ∧
              ((AV.isBool (AV.bin Go.BinOp.gtr (ys769.getD 0 default) (AV.int 0))) ∧
              ((isT (AV.bin Go.BinOp.gtr (ys769.getD 0 default) (AV.int 0))) ∧
              ((AV.isBool (AV.bin Go.BinOp.gtr (AV.cel (AV.atAgg x0 (ys769.getD 0 default) 0 6) 0) (AV.int 200000))) ∧
              ((isF (AV.bin Go.BinOp.gtr (AV.cel (AV.atAgg x0 (ys769.getD 0 default) 0 6) 0) (AV.int 200000))) ∧
              ((AV.isBool (AV.bin Go.BinOp.leq (AV.cel (AV.atAgg x0 (ys769.getD 0 default) 0 6) 0) (AV.at x0 (AV.bin Go.BinOp.sub (ys769.getD 0 default) (AV.int 1)) 0))) ∧
              (((isT (AV.bin Go.BinOp.leq (AV.cel (AV.atAgg x0 (ys769.getD 0 default) 0 6) 0) (AV.at x0 (AV.bin Go.BinOp.sub (ys769.getD 0 default) (AV.int 1)) 0))) →
                ((AV.flat (AV.int 12)) ∧
                (fSame (AV.int 12) r))) ∧
              ((isF (AV.bin Go.BinOp.leq (AV.cel (AV.atAgg x0 (ys769.getD 0 default) 0 6) 0) (AV.at x0 (AV.bin Go.BinOp.sub (ys769.getD 0 default) (AV.int 1)) 0))) →
                (∃ r3137 : AV, ((Fn Tryz.prog 16 [(AV.agg [(AV.cel (AV.atAgg x0 (ys769.getD 0 default) 0 6) 1), (AV.cel (AV.atAgg x0 (ys769.getD 0 default) 0 6) 2)])] Sh.sc r3137) ∧
                ((AV.binOk Go.BinOp.neq r3137 (AV.int 0)) ∧
                ((AV.isBool (AV.bin Go.BinOp.neq r3137 (AV.int 0))) ∧
                (((isT (AV.bin Go.BinOp.neq r3137 (AV.int 0))) →
                  ((AV.flat r3137) ∧
                  (fSame r3137 r))) ∧
                ((isF (AV.bin Go.BinOp.neq r3137 (AV.int 0))) →
                  ((AV.binOk Go.BinOp.lss (AV.cel (AV.atAgg x0 (ys769.getD 0 default) 0 6) 3) (AV.int 0)) ∧
                  ((AV.isBool (AV.bin Go.BinOp.lss (AV.cel (AV.atAgg x0 (ys769.getD 0 default) 0 6) 3) (AV.int 0))) ∧
                  (((isT (AV.bin Go.BinOp.lss (AV.cel (AV.atAgg x0 (ys769.getD 0 default) 0 6) 3) (AV.int 0))) →
                    ((AV.isBool (AV.bin Go.BinOp.lss (AV.cel (AV.atAgg x0 (ys769.getD 0 default) 0 6) 3) (AV.int 0))) ∧
                    ((isT (AV.bin Go.BinOp.lss (AV.cel (AV.atAgg x0 (ys769.getD 0 default) 0 6) 3) (AV.int 0))) ∧
                    ((AV.flat (AV.int 4)) ∧
                    (fSame (AV.int 4) r))))) ∧
                  ((isF (AV.bin Go.BinOp.lss (AV.cel (AV.atAgg x0 (ys769.getD 0 default) 0 6) 3) (AV.int 0))) →
                    ((AV.binOk Go.BinOp.gtr (AV.cel (AV.atAgg x0 (ys769.getD 0 default) 0 6) 3) (AV.int 60000)) ∧
                    ((AV.isBool (AV.bin Go.BinOp.lss (AV.cel (AV.atAgg x0 (ys769.getD 0 default) 0 6) 3) (AV.int 0))) ∧
                    ((isF (AV.bin Go.BinOp.lss (AV.cel (AV.atAgg x0 (ys769.getD 0 default) 0 6) 3) (AV.int 0))) ∧
                    ((AV.isBool (AV.bin Go.BinOp.gtr (AV.cel (AV.atAgg x0 (ys769.getD 0 default) 0 6) 3) (AV.int 60000))) ∧
                    (((isT (AV.bin Go.BinOp.gtr (AV.cel (AV.atAgg x0 (ys769.getD 0 default) 0 6) 3) (AV.int 60000))) →
                      ((AV.isBool (AV.bin Go.BinOp.gtr (AV.cel (AV.atAgg x0 (ys769.getD 0 default) 0 6) 3) (AV.int 60000))) ∧
                      ((isT (AV.bin Go.BinOp.gtr (AV.cel (AV.atAgg x0 (ys769.getD 0 default) 0 6) 3) (AV.int 60000))) ∧
                      ((AV.flat (AV.int 4)) ∧
                      (fSame (AV.int 4) r))))) ∧
                    ((isF (AV.bin Go.BinOp.gtr (AV.cel (AV.atAgg x0 (ys769.getD 0 default) 0 6) 3) (AV.int 60000))) →
                      ((AV.binOk Go.BinOp.lss (AV.cel (AV.atAgg x0 (ys769.getD 0 default) 0 6) 4) (AV.int 0)) ∧
                      ((AV.isBool (AV.bin Go.BinOp.gtr (AV.cel (AV.atAgg x0 (ys769.getD 0 default) 0 6) 3) (AV.int 60000))) ∧
                      ((isF (AV.bin Go.BinOp.gtr (AV.cel (AV.atAgg x0 (ys769.getD 0 default) 0 6) 3) (AV.int 60000))) ∧
                      ((AV.isBool (AV.bin Go.BinOp.lss (AV.cel (AV.atAgg x0 (ys769.getD 0 default) 0 6) 4) (AV.int 0))) ∧
                      (((isT (AV.bin Go.BinOp.lss (AV.cel (AV.atAgg x0 (ys769.getD 0 default) 0 6) 4) (AV.int 0))) →
                        ((AV.isBool (AV.bin Go.BinOp.lss (AV.cel (AV.atAgg x0 (ys769.getD 0 default) 0 6) 4) (AV.int 0))) ∧
                        ((isT (AV.bin Go.BinOp.lss (AV.cel (AV.atAgg x0 (ys769.getD 0 default) 0 6) 4) (AV.int 0))) ∧
                        ((AV.flat (AV.int 4)) ∧
                        (fSame (AV.int 4) r))))) ∧
                      ((isF (AV.bin Go.BinOp.lss (AV.cel (AV.atAgg x0 (ys769.getD 0 default) 0 6) 4) (AV.int 0))) →
                        ((AV.binOk Go.BinOp.gtr (AV.cel (AV.atAgg x0 (ys769.getD 0 default) 0 6) 4) (AV.int 1000000)) ∧
                        ((AV.isBool (AV.bin Go.BinOp.lss (AV.cel (AV.atAgg x0 (ys769.getD 0 default) 0 6) 4) (AV.int 0))) ∧
                        ((isF (AV.bin Go.BinOp.lss (AV.cel (AV.atAgg x0 (ys769.getD 0 default) 0 6) 4) (AV.int 0))) ∧
                        ((AV.isBool (AV.bin Go.BinOp.gtr (AV.cel (AV.atAgg x0 (ys769.getD 0 default) 0 6) 4) (AV.int 1000000))) ∧
                        (((isT (AV.bin Go.BinOp.gtr (AV.cel (AV.atAgg x0 (ys769.getD 0 default) 0 6) 4) (AV.int 1000000))) →
                          ((AV.isBool (AV.bin Go.BinOp.gtr (AV.cel (AV.atAgg x0 (ys769.getD 0 default) 0 6) 4) (AV.int 1000000))) ∧
                          ((isT (AV.bin Go.BinOp.gtr (AV.cel (AV.atAgg x0 (ys769.getD 0 default) 0 6) 4) (AV.int 1000000))) ∧
                          ((AV.flat (AV.int 4)) ∧
                          (fSame (AV.int 4) r))))) ∧
                        ((isF (AV.bin Go.BinOp.gtr (AV.cel (AV.atAgg x0 (ys769.getD 0 default) 0 6) 4) (AV.int 1000000))) →
                          ((AV.binOk Go.BinOp.lss (AV.cel (AV.atAgg x0 (ys769.getD 0 default) 0 6) 5) (AV.int 0)) ∧
                          ((AV.isBool (AV.bin Go.BinOp.gtr (AV.cel (AV.atAgg x0 (ys769.getD 0 default) 0 6) 4) (AV.int 1000000))) ∧
                          ((isF (AV.bin Go.BinOp.gtr (AV.cel (AV.atAgg x0 (ys769.getD 0 default) 0 6) 4) (AV.int 1000000))) ∧
                          ((AV.isBool (AV.bin Go.BinOp.lss (AV.cel (AV.atAgg x0 (ys769.getD 0 default) 0 6) 5) (AV.int 0))) ∧
                          (((isT (AV.bin Go.BinOp.lss (AV.cel (AV.atAgg x0 (ys769.getD 0 default) 0 6) 5) (AV.int 0))) →
                            ((AV.isBool (AV.bin Go.BinOp.lss (AV.cel (AV.atAgg x0 (ys769.getD 0 default) 0 6) 5) (AV.int 0))) ∧
                            ((isT (AV.bin Go.BinOp.lss (AV.cel (AV.atAgg x0 (ys769.getD 0 default) 0 6) 5) (AV.int 0))) ∧
                            ((AV.flat (AV.int 4)) ∧
                            (fSame (AV.int 4) r))))) ∧
                          ((isF (AV.bin Go.BinOp.lss (AV.cel (AV.atAgg x0 (ys769.getD 0 default) 0 6) 5) (AV.int 0))) →
                            ((AV.binOk Go.BinOp.gtr (AV.cel (AV.atAgg x0 (ys769.getD 0 default) 0 6) 5) (AV.int 60000)) ∧
                            ((AV.isBool (AV.bin Go.BinOp.lss (AV.cel (AV.atAgg x0 (ys769.getD 0 default) 0 6) 5) (AV.int 0))) ∧
                            ((isF (AV.bin Go.BinOp.lss (AV.cel (AV.atAgg x0 (ys769.getD 0 default) 0 6) 5) (AV.int 0))) ∧
                            ((AV.isBool (AV.bin Go.BinOp.gtr (AV.cel (AV.atAgg x0 (ys769.getD 0 default) 0 6) 5) (AV.int 60000))) ∧
                            (((isT (AV.bin Go.BinOp.gtr (AV.cel (AV.atAgg x0 (ys769.getD 0 default) 0 6) 5) (AV.int 60000))) →
                              ((AV.flat (AV.int 4)) ∧
                              (fSame (AV.int 4) r))) ∧
                            ((isF (AV.bin Go.BinOp.gtr (AV.cel (AV.atAgg x0 (ys769.getD 0 default) 0 6) 5) (AV.int 60000))) →
                              ((AV.binOk Go.BinOp.add (ys769.getD 0 default) (AV.int 1)) ∧
                              (again769 [(AV.bin Go.BinOp.add (ys769.getD 0 default) (AV.int 1))])))))))))))))))))))))))))))))))))))))))))))))))))))))) ∧
            ((isF (AV.bin Go.BinOp.gtr (ys769.getD 0 default) (AV.int 0))) →
              ((AV.isBool (AV.bin Go.BinOp.gtr (ys769.getD 0 default) (AV.int 0))) ∧
              ((isF (AV.bin Go.BinOp.gtr (ys769.getD 0 default) (AV.int 0))) ∧
              ((AV.isBool (AV.bin Go.BinOp.gtr (AV.cel (AV.atAgg x0 (ys769.getD 0 default) 0 6) 0) (AV.int 200000))) ∧
              ((isF (AV.bin Go.BinOp.gtr (AV.cel (AV.atAgg x0 (ys769.getD 0 default) 0 6) 0) (AV.int 200000))) ∧
              (∃ r3137 : AV, ((Fn Tryz.prog 16 [(AV.agg [(AV.cel (AV.atAgg x0 (ys769.getD 0 default) 0 6) 1), (AV.cel (AV.atAgg x0 (ys769.getD 0 default) 0 6) 2)])] Sh.sc r3137) ∧
              ((AV.binOk Go.BinOp.neq r3137 (AV.int 0)) ∧
              ((AV.isBool (AV.bin Go.BinOp.neq r3137 (AV.int 0))) ∧
              (((isT (AV.bin Go.BinOp.neq r3137 (AV.int 0))) →
                ((AV.flat r3137) ∧
                (fSame r3137 r))) ∧
              ((isF (AV.bin Go.BinOp.neq r3137 (AV.int 0))) →
                ((AV.binOk Go.BinOp.lss (AV.cel (AV.atAgg x0 (ys769.getD 0 default) 0 6) 3) (AV.int 0)) ∧
                ((AV.isBool (AV.bin Go.BinOp.lss (AV.cel (AV.atAgg x0 (ys769.getD 0 default) 0 6) 3) (AV.int 0))) ∧
                (((isT (AV.bin Go.BinOp.lss (AV.cel (AV.atAgg x0 (ys769.getD 0 default) 0 6) 3) (AV.int 0))) →
                  ((AV.isBool (AV.bin Go.BinOp.lss (AV.cel (AV.atAgg x0 (ys769.getD 0 default) 0 6) 3) (AV.int 0))) ∧
                  ((isT (AV.bin Go.BinOp.lss (AV.cel (AV.atAgg x0 (ys769.getD 0 default) 0 6) 3) (AV.int 0))) ∧
                  ((AV.flat (AV.int 4)) ∧
                  (fSame (AV.int 4) r))))) ∧
                ((isF (AV.bin Go.BinOp.lss (AV.cel (AV.atAgg x0 (ys769.getD 0 default) 0 6) 3) (AV.int 0))) →
                  ((AV.binOk Go.BinOp.gtr (AV.cel (AV.atAgg x0 (ys769.getD 0 default) 0 6) 3) (AV.int 60000)) ∧
                  ((AV.isBool (AV.bin Go.BinOp.lss (AV.cel (AV.atAgg x0 (ys769.getD 0 default) 0 6) 3) (AV.int 0))) ∧
                  ((isF (AV.bin Go.BinOp.lss (AV.cel (AV.atAgg x0 (ys769.getD 0 default) 0 6) 3) (AV.int 0))) ∧
                  ((AV.isBool (AV.bin Go.BinOp.gtr (AV.cel (AV.atAgg x0 (ys769.getD 0 default) 0 6) 3) (AV.int 60000))) ∧
                  (((isT (AV.bin Go.BinOp.gtr (AV.cel (AV.atAgg x0 (ys769.getD 0 default) 0 6) 3) (AV.int 60000))) →
                    ((AV.isBool (AV.bin Go.BinOp.gtr (AV.cel (AV.atAgg x0 (ys769.getD 0 default) 0 6) 3) (AV.int 60000))) ∧
                    ((isT (AV.bin Go.BinOp.gtr (AV.cel (AV.atAgg x0 (ys769.getD 0 default) 0 6) 3) (AV.int 60000))) ∧
                    ((AV.flat (AV.int 4)) ∧
                    (fSame (AV.int 4) r))))) ∧
                  ((isF (AV.bin Go.BinOp.gtr (AV.cel (AV.atAgg x0 (ys769.getD 0 default) 0 6) 3) (AV.int 60000))) →
                    ((AV.binOk Go.BinOp.lss (AV.cel (AV.atAgg x0 (ys769.getD 0 default) 0 6) 4) (AV.int 0)) ∧
                    ((AV.isBool (AV.bin Go.BinOp.gtr (AV.cel (AV.atAgg x0 (ys769.getD 0 default) 0 6) 3) (AV.int 60000))) ∧
                    ((isF (AV.bin Go.BinOp.gtr (AV.cel (AV.atAgg x0 (ys769.getD 0 default) 0 6) 3) (AV.int 60000))) ∧
                    ((AV.isBool (AV.bin Go.BinOp.lss (AV.cel (AV.atAgg x0 (ys769.getD 0 default) 0 6) 4) (AV.int 0))) ∧
                    (((isT (AV.bin Go.BinOp.lss (AV.cel (AV.atAgg x0 (ys769.getD 0 default) 0 6) 4) (AV.int 0))) →
                      ((AV.isBool (AV.bin Go.BinOp.lss (AV.cel (AV.atAgg x0 (ys769.getD 0 default) 0 6) 4) (AV.int 0))) ∧
                      ((isT (AV.bin Go.BinOp.lss (AV.cel (AV.atAgg x0 (ys769.getD 0 default) 0 6) 4) (AV.int 0))) ∧
                      ((AV.flat (AV.int 4)) ∧
                      (fSame (AV.int 4) r))))) ∧
                    ((isF (AV.bin Go.BinOp.lss (AV.cel (AV.atAgg x0 (ys769.getD 0 default) 0 6) 4) (AV.int 0))) →
                      ((AV.binOk Go.BinOp.gtr (AV.cel (AV.atAgg x0 (ys769.getD 0 default) 0 6) 4) (AV.int 1000000)) ∧
                      ((AV.isBool (AV.bin Go.BinOp.lss (AV.cel (AV.atAgg x0 (ys769.getD 0 default) 0 6) 4) (AV.int 0))) ∧
                      ((isF (AV.bin Go.BinOp.lss (AV.cel (AV.atAgg x0 (ys769.getD 0 default) 0 6) 4) (AV.int 0))) ∧
                      ((AV.isBool (AV.bin Go.BinOp.gtr (AV.cel (AV.atAgg x0 (ys769.getD 0 default) 0 6) 4) (AV.int 1000000))) ∧
                      (((isT (AV.bin Go.BinOp.gtr (AV.cel (AV.atAgg x0 (ys769.getD 0 default) 0 6) 4) (AV.int 1000000))) →
                        ((AV.isBool (AV.bin Go.BinOp.gtr (AV.cel (AV.atAgg x0 (ys769.getD 0 default) 0 6) 4) (AV.int 1000000))) ∧
                        ((isT (AV.bin Go.BinOp.gtr (AV.cel (AV.atAgg x0 (ys769.getD 0 default) 0 6) 4) (AV.int 1000000))) ∧
                        ((AV.flat (AV.int 4)) ∧
                        (fSame (AV.int 4) r))))) ∧
                      ((isF (AV.bin Go.BinOp.gtr (AV.cel (AV.atAgg x0 (ys769.getD 0 default) 0 6) 4) (AV.int 1000000))) →
                        ((AV.binOk Go.BinOp.lss (AV.cel (AV.atAgg x0 (ys769.getD 0 default) 0 6) 5) (AV.int 0)) ∧
                        ((AV.isBool (AV.bin Go.BinOp.gtr (AV.cel (AV.atAgg x0 (ys769.getD 0 default) 0 6) 4) (AV.int 1000000))) ∧
                        ((isF (AV.bin Go.BinOp.gtr (AV.cel (AV.atAgg x0 (ys769.getD 0 default) 0 6) 4) (AV.int 1000000))) ∧
                        ((AV.isBool (AV.bin Go.BinOp.lss (AV.cel (AV.atAgg x0 (ys769.getD 0 default) 0 6) 5) (AV.int 0))) ∧
                        (((isT (AV.bin Go.BinOp.lss (AV.cel (AV.atAgg x0 (ys769.getD 0 default) 0 6) 5) (AV.int 0))) →
                          ((AV.isBool (AV.bin Go.BinOp.lss (AV.cel (AV.atAgg x0 (ys769.getD 0 default) 0 6) 5) (AV.int 0))) ∧
                          ((isT (AV.bin Go.BinOp.lss (AV.cel (AV.atAgg x0 (ys769.getD 0 default) 0 6) 5) (AV.int 0))) ∧
                          ((AV.flat (AV.int 4)) ∧
                          (fSame (AV.int 4) r))))) ∧
                        ((isF (AV.bin Go.BinOp.lss (AV.cel (AV.atAgg x0 (ys769.getD 0 default) 0 6) 5) (AV.int 0))) →
                          ((AV.binOk Go.BinOp.gtr (AV.cel (AV.atAgg x0 (ys769.getD 0 default) 0 6) 5) (AV.int 60000)) ∧
                          ((AV.isBool (AV.bin Go.BinOp.lss (AV.cel (AV.atAgg x0 (ys769.getD 0 default) 0 6) 5) (AV.int 0))) ∧
                          ((isF (AV.bin Go.BinOp.lss (AV.cel (AV.atAgg x0 (ys769.getD 0 default) 0 6) 5) (AV.int 0))) ∧
                          ((AV.isBool (AV.bin Go.BinOp.gtr (AV.cel (AV.atAgg x0 (ys769.getD 0 default) 0 6) 5) (AV.int 60000))) ∧
                          (((isT (AV.bin Go.BinOp.gtr (AV.cel (AV.atAgg x0 (ys769.getD 0 default) 0 6) 5) (AV.int 60000))) →
                            ((AV.flat (AV.int 4)) ∧
                            (fSame (AV.int 4) r))) ∧
                          ((isF (AV.bin Go.BinOp.gtr (AV.cel (AV.atAgg x0 (ys769.getD 0 default) 0 6) 5) (AV.int 60000))) →
                            ((AV.binOk Go.BinOp.add (ys769.getD 0 default) (AV.int 1)) ∧
                            (again769 [(AV.bin Go.BinOp.add (ys769.getD 0 default) (AV.int 1))])))))))))))))))))))))))))))))))))))))))))))))))))))))))))))))))) ∧
      ((isF (AV.bin Go.BinOp.lss (ys769.getD 0 default) (AV.len x0))) →
        ((AV.flat (AV.int 0)) ∧
        (fSame (AV.int 0) r))))))))))))))))))) := by kernel_rfl
theorem ends_form (x0 r : AV) : fnF Tryz.prog Γ ann 3 21 Tryz.f21 (Tryz.f21.body.getD .skip) (.nil) [x0] (.tup [.sc, .sc]) r = (((AV.isSl x0 6) ∧
((AV.inb x0 (AV.int 0)) ∧
((AV.isSl x0 6) ∧
((AV.binOk Go.BinOp.sub (AV.len x0) (AV.int 1)) ∧
((AV.isSl x0 6) ∧
((AV.inb x0 (AV.bin Go.BinOp.sub (AV.len x0) (AV.int 1))) ∧
((AV.flat (AV.at x0 (AV.int 0) 0)) ∧
((AV.flat (AV.at x0 (AV.bin Go.BinOp.sub (AV.len x0) (AV.int 1)) 0)) ∧
(fSame (AV.tup [(AV.at x0 (AV.int 0) 0), (AV.at x0 (AV.bin Go.BinOp.sub (AV.len x0) (AV.int 1)) 0)]) r)))))))))) := by kernel_rfl
theorem at_form (x0 x1 r : AV) : fnF Tryz.prog Γ ann 3 22 Tryz.f22 (Tryz.f22.body.getD .skip) (.nil) [x0, x1] (.sc) r = (((fEnt Tryz.prog 40) ∧
(fAllV fun _ => ((AV.isSl x0 6) ∧
(fLoop 769 [(AV.int 0), (AV.len x0)] fun ys769 again769 =>
  ((AV.binOk Go.BinOp.lss (ys769.getD 0 default) (ys769.getD 1 default)) ∧
  ((AV.isBool (AV.bin Go.BinOp.lss (ys769.getD 0 default) (ys769.getD 1 default))) ∧
  (((isT (AV.bin Go.BinOp.lss (ys769.getD 0 default) (ys769.getD 1 default))) →
    ((AV.binOk Go.BinOp.add (ys769.getD 0 default) (ys769.getD 1 default)) ∧
    ((AV.isInt (AV.bin Go.BinOp.add (ys769.getD 0 default) (ys769.getD 1 default))) ∧
    ((AV.shfOk (AV.conv Go.IntKind.u64 (AV.bin Go.BinOp.add (ys769.getD 0 default) (ys769.getD 1 default))) (AV.lit (Value.int Go.IntKind.u64 1))) ∧
    ((AV.isInt (AV.shf Go.BinOp.shr (AV.conv Go.IntKind.u64 (AV.bin Go.BinOp.add (ys769.getD 0 default) (ys769.getD 1 default))) (AV.lit (Value.int Go.IntKind.u64 1)))) ∧
    ((AV.isSl x0 6) ∧
    ((AV.inb x0 (AV.conv Go.IntKind.i64 (AV.shf Go.BinOp.shr (AV.conv Go.IntKind.u64 (AV.bin Go.BinOp.add (ys769.getD 0 default) (ys769.getD 1 default))) (AV.lit (Value.int Go.IntKind.u64 1))))) ∧
    ((fEnt Tryz.prog 41) ∧
    (fAllV fun _ => ((AV.isAgg (AV.atAgg x0 (AV.conv Go.IntKind.i64 (AV.shf Go.BinOp.shr (AV.conv Go.IntKind.u64 (AV.bin Go.BinOp.add (ys769.getD 0 default) (ys769.getD 1 default))) (AV.lit (Value.int Go.IntKind.u64 1)))) 0 6) 6) ∧
    ((AV.binOk Go.BinOp.sub (AV.cel (AV.atAgg x0 (AV.conv Go.IntKind.i64 (AV.shf Go.BinOp.shr (AV.conv Go.IntKind.u64 (AV.bin Go.BinOp.add (ys769.getD 0 default) (ys769.getD 1 default))) (AV.lit (Value.int Go.IntKind.u64 1)))) 0 6) 0) x1) ∧
    ((AV.binOk Go.BinOp.lss (AV.bin Go.BinOp.sub (AV.cel (AV.atAgg x0 (AV.conv Go.IntKind.i64 (AV.shf Go.BinOp.shr (AV.conv Go.IntKind.u64 (AV.bin Go.BinOp.add (ys769.getD 0 default) (ys769.getD 1 default))) (AV.lit (Value.int Go.IntKind.u64 1)))) 0 6) 0) x1) (AV.int 0)) ∧
    ((AV.isBool (AV.bin Go.BinOp.lss (AV.bin Go.BinOp.sub (AV.cel (AV.atAgg x0 (AV.conv Go.IntKind.i64 (AV.shf Go.BinOp.shr (AV.conv Go.IntKind.u64 (AV.bin Go.BinOp.add (ys769.getD 0 default) (ys769.getD 1 default))) (AV.lit (Value.int Go.IntKind.u64 1)))) 0 6) 0) x1) (AV.int 0))) ∧
    (((isT (AV.bin Go.BinOp.lss (AV.bin Go.BinOp.sub (AV.cel (AV.atAgg x0 (AV.conv Go.IntKind.i64 (AV.shf Go.BinOp.shr (AV.conv Go.IntKind.u64 (AV.bin Go.BinOp.add (ys769.getD 0 default) (ys769.getD 1 default))) (AV.lit (Value.int Go.IntKind.u64 1)))) 0 6) 0) x1) (AV.int 0))) →
      ((AV.binOk Go.BinOp.add (AV.conv Go.IntKind.i64 (AV.shf Go.BinOp.shr (AV.conv Go.IntKind.u64 (AV.bin Go.BinOp.add (ys769.getD 0 default) (ys769.getD 1 default))) (AV.lit (Value.int Go.IntKind.u64 1)))) (AV.int 1)) ∧
      (again769 [(AV.bin Go.BinOp.add (AV.conv Go.IntKind.i64 (AV.shf Go.BinOp.shr (AV.conv Go.IntKind.u64 (AV.bin Go.BinOp.add (ys769.getD 0 default) (ys769.getD 1 default))) (AV.lit (Value.int Go.IntKind.u64 1)))) (AV.int 1)), (ys769.getD 1 default)]))) ∧
    ((isF (AV.bin Go.BinOp.lss (AV.bin Go.BinOp.sub (AV.cel (AV.atAgg x0 (AV.conv Go.IntKind.i64 (AV.shf Go.BinOp.shr (AV.conv Go.IntKind.u64 (AV.bin Go.BinOp.add (ys769.getD 0 default) (ys769.getD 1 default))) (AV.lit (Value.int Go.IntKind.u64 1)))) 0 6) 0) x1) (AV.int 0))) →
      (again769 [(ys769.getD 0 default), (AV.conv Go.IntKind.i64 (AV.shf Go.BinOp.shr (AV.conv Go.IntKind.u64 (AV.bin Go.BinOp.add (ys769.getD 0 default) (ys769.getD 1 default))) (AV.lit (Value.int Go.IntKind.u64 1))))])))))))))))))))) ∧
  ((isF (AV.bin Go.BinOp.lss (ys769.getD 0 default) (ys769.getD 1 default))) →
    ((AV.binOk Go.BinOp.lss (ys769.getD 0 default) (AV.len x0)) ∧
    ((AV.isBool (AV.bin Go.BinOp.lss (ys769.getD 0 default) (AV.len x0))) ∧
    (((isT (AV.bin Go.BinOp.lss (ys769.getD 0 default) (AV.len x0))) →
      ((AV.isSl x0 6) ∧
      ((AV.inb x0 (ys769.getD 0 default)) ∧
      ((fEnt Tryz.prog 41) ∧
      (fAllV fun _ => ((AV.isAgg (AV.atAgg x0 (ys769.getD 0 default) 0 6) 6) ∧
      ((AV.binOk Go.BinOp.sub (AV.cel (AV.atAgg x0 (ys769.getD 0 default) 0 6) 0) x1) ∧
      ((AV.binOk Go.BinOp.eql (AV.bin Go.BinOp.sub (AV.cel (AV.atAgg x0 (ys769.getD 0 default) 0 6) 0) x1) (AV.int 0)) ∧
      ((AV.isBool (AV.bin Go.BinOp.lss (ys769.getD 0 default) (AV.len x0))) ∧
      ((isT (AV.bin Go.BinOp.lss (ys769.getD 0 default) (AV.len x0))) ∧
      ((AV.isBool (AV.bin Go.BinOp.eql (AV.bin Go.BinOp.sub (AV.cel (AV.atAgg x0 (ys769.getD 0 default) 0 6) 0) x1) (AV.int 0))) ∧
      (((isT (AV.bin Go.BinOp.eql (AV.bin Go.BinOp.sub (AV.cel (AV.atAgg x0 (ys769.getD 0 default) 0 6) 0) x1) (AV.int 0))) →
        ((AV.isSl x0 6) ∧
        ((AV.inb x0 (ys769.getD 0 default)) ∧
        ((AV.isAgg (AV.atAgg x0 (ys769.getD 0 default) 0 6) 6) ∧
        ((AV.flat (AV.agg [(AV.cel (AV.atAgg x0 (ys769.getD 0 default) 0 6) 0), (AV.cel (AV.atAgg x0 (ys769.getD 0 default) 0 6) 1), (AV.cel (AV.atAgg x0 (ys769.getD 0 default) 0 6) 2), (AV.cel (AV.atAgg x0 (ys769.getD 0 default) 0 6) 3), (AV.cel (AV.atAgg x0 (ys769.getD 0 default) 0 6) 4), (AV.cel (AV.atAgg x0 (ys769.getD 0 default) 0 6) 5)])) ∧
        (fSame (AV.agg [(AV.cel (AV.atAgg x0 (ys769.getD 0 default) 0 6) 0), (AV.cel (AV.atAgg x0 (ys769.getD 0 default) 0 6) 1), (AV.cel (AV.atAgg x0 (ys769.getD 0 default) 0 6) 2), (AV.cel (AV.atAgg x0 (ys769.getD 0 default) 0 6) 3), (AV.cel (AV.atAgg x0 (ys769.getD 0 default) 0 6) 4), (AV.cel (AV.atAgg x0 (ys769.getD 0 default) 0 6) 5)]) r)))))) ∧
      ((isF (AV.bin Go.BinOp.eql (AV.bin Go.BinOp.sub (AV.cel (AV.atAgg x0 (ys769.getD 0 default) 0 6) 0) x1) (AV.int 0))) →
        ((AV.binOk Go.BinOp.sub (ys769.getD 0 default) (AV.int 1)) ∧
        ((AV.isSl x0 6) ∧
        ((AV.inb x0 (AV.bin Go.BinOp.sub (ys769.getD 0 default) (AV.int 1))) ∧
        ((AV.isSl x0 6) ∧
        ((AV.inb x0 (ys769.getD 0 default)) ∧
        ((AV.isAgg (AV.atAgg x0 (AV.bin Go.BinOp.sub (ys769.getD 0 default) (AV.int 1)) 0 6) 6) ∧
        ((AV.isAgg (AV.atAgg x0 (ys769.getD 0 default) 0 6) 6) ∧
        ((AV.binOk Go.BinOp.sub x1 (AV.cel (AV.atAgg x0 (AV.bin Go.BinOp.sub (ys769.getD 0 default) (AV.int 1)) 0 6) 0)) ∧
        ((AV.binOk Go.BinOp.sub (AV.cel (AV.atAgg x0 (ys769.getD 0 default) 0 6) 0) (AV.cel (AV.atAgg x0 (AV.bin Go.BinOp.sub (ys769.getD 0 default) (AV.int 1)) 0 6) 0)) ∧
        (∃ r5249 : AV, ((Fn Tryz.prog 24 [(AV.agg [(AV.cel (AV.atAgg x0 (AV.bin Go.BinOp.sub (ys769.getD 0 default) (AV.int 1)) 0 6) 1), (AV.cel (AV.atAgg x0 (AV.bin Go.BinOp.sub (ys769.getD 0 default) (AV.int 1)) 0 6) 2)]), (AV.agg [(AV.cel (AV.atAgg x0 (ys769.getD 0 default) 0 6) 1), (AV.cel (AV.atAgg x0 (ys769.getD 0 default) 0 6) 2)]), (AV.bin Go.BinOp.sub x1 (AV.cel (AV.atAgg x0 (AV.bin Go.BinOp.sub (ys769.getD 0 default) (AV.int 1)) 0 6) 0)), (AV.bin Go.BinOp.sub (AV.cel (AV.atAgg x0 (ys769.getD 0 default) 0 6) 0) (AV.cel (AV.atAgg x0 (AV.bin Go.BinOp.sub (ys769.getD 0 default) (AV.int 1)) 0 6) 0))] (Sh.tup [Sh.sc, Sh.sc]) r5249) ∧
        ((AV.isAgg (AV.prj r5249 0) 2) ∧
        ((AV.binOk Go.BinOp.sub (AV.cel (AV.atAgg x0 (ys769.getD 0 default) 0 6) 3) (AV.cel (AV.atAgg x0 (AV.bin Go.BinOp.sub (ys769.getD 0 default) (AV.int 1)) 0 6) 3)) ∧
        ((AV.binOk Go.BinOp.mul (AV.bin Go.BinOp.sub (AV.cel (AV.atAgg x0 (ys769.getD 0 default) 0 6) 3) (AV.cel (AV.atAgg x0 (AV.bin Go.BinOp.sub (ys769.getD 0 default) (AV.int 1)) 0 6) 3)) (AV.bin Go.BinOp.sub x1 (AV.cel (AV.atAgg x0 (AV.bin Go.BinOp.sub (ys769.getD 0 default) (AV.int 1)) 0 6) 0))) ∧
        (∃ r6337 : AV, ((Fn Tryz.prog 23 [(AV.bin Go.BinOp.mul (AV.bin Go.BinOp.sub (AV.cel (AV.atAgg x0 (ys769.getD 0 default) 0 6) 3) (AV.cel (AV.atAgg x0 (AV.bin Go.BinOp.sub (ys769.getD 0 default) (AV.int 1)) 0 6) 3)) (AV.bin Go.BinOp.sub x1 (AV.cel (AV.atAgg x0 (AV.bin Go.BinOp.sub (ys769.getD 0 default) (AV.int 1)) 0 6) 0))), (AV.bin Go.BinOp.sub (AV.cel (AV.atAgg x0 (ys769.getD 0 default) 0 6) 0) (AV.cel (AV.atAgg x0 (AV.bin Go.BinOp.sub (ys769.getD 0 default) (AV.int 1)) 0 6) 0))] (Sh.tup [Sh.sc, Sh.sc]) r6337) ∧
        ((AV.binOk Go.BinOp.sub (AV.cel (AV.atAgg x0 (ys769.getD 0 default) 0 6) 4) (AV.cel (AV.atAgg x0 (AV.bin Go.BinOp.sub (ys769.getD 0 default) (AV.int 1)) 0 6) 4)) ∧
        ((AV.binOk Go.BinOp.mul (AV.bin Go.BinOp.sub (AV.cel (AV.atAgg x0 (ys769.getD 0 default) 0 6) 4) (AV.cel (AV.atAgg x0 (AV.bin Go.BinOp.sub (ys769.getD 0 default) (AV.int 1)) 0 6) 4)) (AV.bin Go.BinOp.sub x1 (AV.cel (AV.atAgg x0 (AV.bin Go.BinOp.sub (ys769.getD 0 default) (AV.int 1)) 0 6) 0))) ∧
        (∃ r7233 : AV, ((Fn Tryz.prog 14 [(AV.bin Go.BinOp.mul (AV.bin Go.BinOp.sub (AV.cel (AV.atAgg x0 (ys769.getD 0 default) 0 6) 4) (AV.cel (AV.atAgg x0 (AV.bin Go.BinOp.sub (ys769.getD 0 default) (AV.int 1)) 0 6) 4)) (AV.bin Go.BinOp.sub x1 (AV.cel (AV.atAgg x0 (AV.bin Go.BinOp.sub (ys769.getD 0 default) (AV.int 1)) 0 6) 0))), (AV.bin Go.BinOp.sub (AV.cel (AV.atAgg x0 (ys769.getD 0 default) 0 6) 0) (AV.cel (AV.atAgg x0 (AV.bin Go.BinOp.sub (ys769.getD 0 default) (AV.int 1)) 0 6) 0))] (Sh.tup [Sh.sc, Sh.sc]) r7233) ∧
        ((AV.binOk Go.BinOp.sub (AV.cel (AV.atAgg x0 (ys769.getD 0 default) 0 6) 5) (AV.cel (AV.atAgg x0 (AV.bin Go.BinOp.sub (ys769.getD 0 default) (AV.int 1)) 0 6) 5)) ∧
        ((AV.binOk Go.BinOp.mul (AV.bin Go.BinOp.sub (AV.cel (AV.atAgg x0 (ys769.getD 0 default) 0 6) 5) (AV.cel (AV.atAgg x0 (AV.bin Go.BinOp.sub (ys769.getD 0 default) (AV.int 1)) 0 6) 5)) (AV.bin Go.BinOp.sub x1 (AV.cel (AV.atAgg x0 (AV.bin Go.BinOp.sub (ys769.getD 0 default) (AV.int 1)) 0 6) 0))) ∧
        (∃ r8129 : AV, ((Fn Tryz.prog 14 [(AV.bin Go.BinOp.mul (AV.bin Go.BinOp.sub (AV.cel (AV.atAgg x0 (ys769.getD 0 default) 0 6) 5) (AV.cel (AV.atAgg x0 (AV.bin Go.BinOp.sub (ys769.getD 0 default) (AV.int 1)) 0 6) 5)) (AV.bin Go.BinOp.sub x1 (AV.cel (AV.atAgg x0 (AV.bin Go.BinOp.sub (ys769.getD 0 default) (AV.int 1)) 0 6) 0))), (AV.bin Go.BinOp.sub (AV.cel (AV.atAgg x0 (ys769.getD 0 default) 0 6) 0) (AV.cel (AV.atAgg x0 (AV.bin Go.BinOp.sub (ys769.getD 0 default) (AV.int 1)) 0 6) 0))] (Sh.tup [Sh.sc, Sh.sc]) r8129) ∧
        ((AV.binOk Go.BinOp.add (AV.cel (AV.atAgg x0 (AV.bin Go.BinOp.sub (ys769.getD 0 default) (AV.int 1)) 0 6) 3) (AV.prj r6337 0)) ∧
        ((AV.isOne x1) ∧
        ((AV.isOne (AV.bin Go.BinOp.add (AV.cel (AV.atAgg x0 (AV.bin Go.BinOp.sub (ys769.getD 0 default) (AV.int 1)) 0 6) 3) (AV.prj r6337 0))) ∧
        ((AV.binOk Go.BinOp.add (AV.cel (AV.atAgg x0 (AV.bin Go.BinOp.sub (ys769.getD 0 default) (AV.int 1)) 0 6) 4) (AV.prj r7233 0)) ∧
        ((AV.binOk Go.BinOp.add (AV.cel (AV.atAgg x0 (AV.bin Go.BinOp.sub (ys769.getD 0 default) (AV.int 1)) 0 6) 5) (AV.prj r8129 0)) ∧
        ((AV.isOne (AV.bin Go.BinOp.add (AV.cel (AV.atAgg x0 (AV.bin Go.BinOp.sub (ys769.getD 0 default) (AV.int 1)) 0 6) 4) (AV.prj r7233 0))) ∧
        ((AV.isOne (AV.bin Go.BinOp.add (AV.cel (AV.atAgg x0 (AV.bin Go.BinOp.sub (ys769.getD 0 default) (AV.int 1)) 0 6) 5) (AV.prj r8129 0))) ∧
        ((AV.flat (AV.agg [x1, (AV.cel (AV.prj r5249 0) 0), (AV.cel (AV.prj r5249 0) 1), (AV.bin Go.BinOp.add (AV.cel (AV.atAgg x0 (AV.bin Go.BinOp.sub (ys769.getD 0 default) (AV.int 1)) 0 6) 3) (AV.prj r6337 0)), (AV.bin Go.BinOp.add (AV.cel (AV.atAgg x0 (AV.bin Go.BinOp.sub (ys769.getD 0 default) (AV.int 1)) 0 6) 4) (AV.prj r7233 0)), (AV.bin Go.BinOp.add (AV.cel (AV.atAgg x0 (AV.bin Go.BinOp.sub (ys769.getD 0 default) (AV.int 1)) 0 6) 5) (AV.prj r8129 0))])) ∧
        (fSame (AV.agg [x1, (AV.cel (AV.prj r5249 0) 0), (AV.cel (AV.prj r5249 0) 1), (AV.bin Go.BinOp.add (AV.cel (AV.atAgg x0 (AV.bin Go.BinOp.sub (ys769.getD 0 default) (AV.int 1)) 0 6) 3) (AV.prj r6337 0)), (AV.bin Go.BinOp.add (AV.cel (AV.atAgg x0 (AV.bin Go.BinOp.sub (ys769.getD 0 default) (AV.int 1)) 0 6) 4) (AV.prj r7233 0)), (AV.bin Go.BinOp.add (AV.cel (AV.atAgg x0 (AV.bin Go.BinOp.sub (ys769.getD 0 default) (AV.int 1)) 0 6) 5) (AV.prj r8129 0))]) r)))))))))))))))))))))))))))))))))))))))))))))) ∧
    ((isF (AV.bin Go.BinOp.lss (ys769.getD 0 default) (AV.len x0))) →
      ((AV.isBool (AV.bin Go.BinOp.lss (ys769.getD 0 default) (AV.len x0))) ∧
      ((isF (AV.bin Go.BinOp.lss (ys769.getD 0 default) (AV.len x0))) ∧
      ((AV.binOk Go.BinOp.sub (ys769.getD 0 default) (AV.int 1)) ∧
      ((AV.isSl x0 6) ∧
      ((AV.inb x0 (AV.bin Go.BinOp.sub (ys769.getD 0 default) (AV.int 1))) ∧
      ((AV.isSl x0 6) ∧
      ((AV.inb x0 (ys769.getD 0 default)) ∧
      ((AV.isAgg (AV.atAgg x0 (AV.bin Go.BinOp.sub (ys769.getD 0 default) (AV.int 1)) 0 6) 6) ∧
      ((AV.isAgg (AV.atAgg x0 (ys769.getD 0 default) 0 6) 6) ∧
      ((AV.binOk Go.BinOp.sub x1 (AV.cel (AV.atAgg x0 (AV.bin Go.BinOp.sub (ys769.getD 0 default) (AV.int 1)) 0 6) 0)) ∧
      ((AV.binOk Go.BinOp.sub (AV.cel (AV.atAgg x0 (ys769.getD 0 default) 0 6) 0) (AV.cel (AV.atAgg x0 (AV.bin Go.BinOp.sub (ys769.getD 0 default) (AV.int 1)) 0 6) 0)) ∧
      (∃ r4673 : AV, ((Fn Tryz.prog 24 [(AV.agg [(AV.cel (AV.atAgg x0 (AV.bin Go.BinOp.sub (ys769.getD 0 default) (AV.int 1)) 0 6) 1), (AV.cel (AV.atAgg x0 (AV.bin Go.BinOp.sub (ys769.getD 0 default) (AV.int 1)) 0 6) 2)]), (AV.agg [(AV.cel (AV.atAgg x0 (ys769.getD 0 default) 0 6) 1), (AV.cel (AV.atAgg x0 (ys769.getD 0 default) 0 6) 2)]), (AV.bin Go.BinOp.sub x1 (AV.cel (AV.atAgg x0 (AV.bin Go.BinOp.sub (ys769.getD 0 default) (AV.int 1)) 0 6) 0)), (AV.bin Go.BinOp.sub (AV.cel (AV.atAgg x0 (ys769.getD 0 default) 0 6) 0) (AV.cel (AV.atAgg x0 (AV.bin Go.BinOp.sub (ys769.getD 0 default) (AV.int 1)) 0 6) 0))] (Sh.tup [Sh.sc, Sh.sc]) r4673) ∧
      ((AV.isAgg (AV.prj r4673 0) 2) ∧
      ((AV.binOk Go.BinOp.sub (AV.cel (AV.atAgg x0 (ys769.getD 0 default) 0 6) 3) (AV.cel (AV.atAgg x0 (AV.bin Go.BinOp.sub (ys769.getD 0 default) (AV.int 1)) 0 6) 3)) ∧
      ((AV.binOk Go.BinOp.mul (AV.bin Go.BinOp.sub (AV.cel (AV.atAgg x0 (ys769.getD 0 default) 0 6) 3) (AV.cel (AV.atAgg x0 (AV.bin Go.BinOp.sub (ys769.getD 0 default) (AV.int 1)) 0 6) 3)) (AV.bin Go.BinOp.sub x1 (AV.cel (AV.atAgg x0 (AV.bin Go.BinOp.sub (ys769.getD 0 default) (AV.int 1)) 0 6) 0))) ∧
      (∃ r5761 : AV, ((Fn Tryz.prog 23 [(AV.bin Go.BinOp.mul (AV.bin Go.BinOp.sub (AV.cel (AV.atAgg x0 (ys769.getD 0 default) 0 6) 3) (AV.cel (AV.atAgg x0 (AV.bin Go.BinOp.sub (ys769.getD 0 default) (AV.int 1)) 0 6) 3)) (AV.bin Go.BinOp.sub x1 (AV.cel (AV.atAgg x0 (AV.bin Go.BinOp.sub (ys769.getD 0 default) (AV.int 1)) 0 6) 0))), (AV.bin Go.BinOp.sub (AV.cel (AV.atAgg x0 (ys769.getD 0 default) 0 6) 0) (AV.cel (AV.atAgg x0 (AV.bin Go.BinOp.sub (ys769.getD 0 default) (AV.int 1)) 0 6) 0))] (Sh.tup [Sh.sc, Sh.sc]) r5761) ∧
      ((AV.binOk Go.BinOp.sub (AV.cel (AV.atAgg x0 (ys769.getD 0 default) 0 6) 4) (AV.cel (AV.atAgg x0 (AV.bin Go.BinOp.sub (ys769.getD 0 default) (AV.int 1)) 0 6) 4)) ∧
      ((AV.binOk Go.BinOp.mul (AV.bin Go.BinOp.sub (AV.cel (AV.atAgg x0 (ys769.getD 0 default) 0 6) 4) (AV.cel (AV.atAgg x0 (AV.bin Go.BinOp.sub (ys769.getD 0 default) (AV.int 1)) 0 6) 4)) (AV.bin Go.BinOp.sub x1 (AV.cel (AV.atAgg x0 (AV.bin Go.BinOp.sub (ys769.getD 0 default) (AV.int 1)) 0 6) 0))) ∧
      (∃ r6657 : AV, ((Fn Tryz.prog 14 [(AV.bin Go.BinOp.mul (AV.bin Go.BinOp.sub (AV.cel (AV.atAgg x0 (ys769.getD 0 default) 0 6) 4) (AV.cel (AV.atAgg x0 (AV.bin Go.BinOp.sub (ys769.getD 0 default) (AV.int 1)) 0 6) 4)) (AV.bin Go.BinOp.sub x1 (AV.cel (AV.atAgg x0 (AV.bin Go.BinOp.sub (ys769.getD 0 default) (AV.int 1)) 0 6) 0))), (AV.bin Go.BinOp.sub (AV.cel (AV.atAgg x0 (ys769.getD 0 default) 0 6) 0) (AV.cel (AV.atAgg x0 (AV.bin Go.BinOp.sub (ys769.getD 0 default) (AV.int 1)) 0 6) 0))] (Sh.tup [Sh.sc, Sh.sc]) r6657) ∧
      ((AV.binOk Go.BinOp.sub (AV.cel (AV.atAgg x0 (ys769.getD 0 default) 0 6) 5) (AV.cel (AV.atAgg x0 (AV.bin Go.BinOp.sub (ys769.getD 0 default) (AV.int 1)) 0 6) 5)) ∧
      ((AV.binOk Go.BinOp.mul (AV.bin Go.BinOp.sub (AV.cel (AV.atAgg x0 (ys769.getD 0 default) 0 6) 5) (AV.cel (AV.atAgg x0 (AV.bin Go.BinOp.sub (ys769.getD 0 default) (AV.int 1)) 0 6) 5)) (AV.bin Go.BinOp.sub x1 (AV.cel (AV.atAgg x0 (AV.bin Go.BinOp.sub (ys769.getD 0 default) (AV.int 1)) 0 6) 0))) ∧
      (∃ r7553 : AV, ((Fn Tryz.prog 14 [(AV.bin Go.BinOp.mul (AV.bin Go.BinOp.sub (AV.cel (AV.atAgg x0 (ys769.getD 0 default) 0 6) 5) (AV.cel (AV.atAgg x0 (AV.bin Go.BinOp.sub (ys769.getD 0 default) (AV.int 1)) 0 6) 5)) (AV.bin Go.BinOp.sub x1 (AV.cel (AV.atAgg x0 (AV.bin Go.BinOp.sub (ys769.getD 0 default) (AV.int 1)) 0 6) 0))), (AV.bin Go.BinOp.sub (AV.cel (AV.atAgg x0 (ys769.getD 0 default) 0 6) 0) (AV.cel (AV.atAgg x0 (AV.bin Go.BinOp.sub (ys769.getD 0 default) (AV.int 1)) 0 6) 0))] (Sh.tup [Sh.sc, Sh.sc]) r7553) ∧
      ((AV.binOk Go.BinOp.add (AV.cel (AV.atAgg x0 (AV.bin Go.BinOp.sub (ys769.getD 0 default) (AV.int 1)) 0 6) 3) (AV.prj r5761 0)) ∧
      ((AV.isOne x1) ∧
      ((AV.isOne (AV.bin Go.BinOp.add (AV.cel (AV.atAgg x0 (AV.bin Go.BinOp.sub (ys769.getD 0 default) (AV.int 1)) 0 6) 3) (AV.prj r5761 0))) ∧
      ((AV.binOk Go.BinOp.add (AV.cel (AV.atAgg x0 (AV.bin Go.BinOp.sub (ys769.getD 0 default) (AV.int 1)) 0 6) 4) (AV.prj r6657 0)) ∧
      ((AV.binOk Go.BinOp.add (AV.cel (AV.atAgg x0 (AV.bin Go.BinOp.sub (ys769.getD 0 default) (AV.int 1)) 0 6) 5) (AV.prj r7553 0)) ∧
      ((AV.isOne (AV.bin Go.BinOp.add (AV.cel (AV.atAgg x0 (AV.bin Go.BinOp.sub (ys769.getD 0 default) (AV.int 1)) 0 6) 4) (AV.prj r6657 0))) ∧
      ((AV.isOne (AV.bin Go.BinOp.add (AV.cel (AV.atAgg x0 (AV.bin Go.BinOp.sub (ys769.getD 0 default) (AV.int 1)) 0 6) 5) (AV.prj r7553 0))) ∧
      ((AV.flat (AV.agg [x1, (AV.cel (AV.prj r4673 0) 0), (AV.cel (AV.prj r4673 0) 1), (AV.bin Go.BinOp.add (AV.cel (AV.atAgg x0 (AV.bin Go.BinOp.sub (ys769.getD 0 default) (AV.int 1)) 0 6) 3) (AV.prj r5761 0)), (AV.bin Go.BinOp.add (AV.cel (AV.atAgg x0 (AV.bin Go.BinOp.sub (ys769.getD 0 default) (AV.int 1)) 0 6) 4) (AV.prj r6657 0)), (AV.bin Go.BinOp.add (AV.cel (AV.atAgg x0 (AV.bin Go.BinOp.sub (ys769.getD 0 default) (AV.int 1)) 0 6) 5) (AV.prj r7553 0))])) ∧
      (fSame (AV.agg [x1, (AV.cel (AV.prj r4673 0) 0), (AV.cel (AV.prj r4673 0) 1), (AV.bin Go.BinOp.add (AV.cel (AV.atAgg x0 (AV.bin Go.BinOp.sub (ys769.getD 0 default) (AV.int 1)) 0 6) 3) (AV.prj r5761 0)), (AV.bin Go.BinOp.add (AV.cel (AV.atAgg x0 (AV.bin Go.BinOp.sub (ys769.getD 0 default) (AV.int 1)) 0 6) 4) (AV.prj r6657 0)), (AV.bin Go.BinOp.add (AV.cel (AV.atAgg x0 (AV.bin Go.BinOp.sub (ys769.getD 0 default) (AV.int 1)) 0 6) 5) (AV.prj r7553 0))]) r)))))))))))))))))))))))))))))))))))))))))))))))) := by kernel_rfl
theorem tat_form (x0 x1 r : AV) : fnF Tryz.prog Γ ann 3 12 Tryz.f12 (Tryz.f12.body.getD .skip) (.nil) [x0, x1] (.tup [.sc, .sc]) r = ((∃ r193 : AV, ((Fn Tryz.prog 20 [x0] Sh.sc r193) ∧
((AV.binOk Go.BinOp.neq r193 (AV.int 0)) ∧
((AV.isBool (AV.bin Go.BinOp.neq r193 (AV.int 0))) ∧
(((isT (AV.bin Go.BinOp.neq r193 (AV.int 0))) →
  ((AV.flat (AV.agg [(AV.int 0), (AV.int 0), (AV.int 0), (AV.int 0), (AV.int 0), (AV.int 0)])) ∧
  ((AV.flat r193) ∧
  (fSame (AV.tup [(AV.agg [(AV.int 0), (AV.int 0), (AV.int 0), (AV.int 0), (AV.int 0), (AV.int 0)]), r193]) r)))) ∧
((isF (AV.bin Go.BinOp.neq r193 (AV.int 0))) →
  (∃ r513 : AV, ((Fn Tryz.prog 21 [x0] (Sh.tup [Sh.sc, Sh.sc]) r513) ∧
  ((AV.binOk Go.BinOp.lss x1 (AV.prj r513 0)) ∧
  ((AV.isBool (AV.bin Go.BinOp.lss x1 (AV.prj r513 0))) ∧
  (((isT (AV.bin Go.BinOp.lss x1 (AV.prj r513 0))) →
    ((AV.isBool (AV.bin Go.BinOp.lss x1 (AV.prj r513 0))) ∧
    ((isT (AV.bin Go.BinOp.lss x1 (AV.prj r513 0))) ∧
    ((AV.flat (AV.agg [(AV.int 0), (AV.int 0), (AV.int 0), (AV.int 0), (AV.int 0), (AV.int 0)])) ∧
    ((AV.flat (AV.int 12)) ∧
    (fSame (AV.tup [(AV.agg [(AV.int 0), (AV.int 0), (AV.int 0), (AV.int 0), (AV.int 0), (AV.int 0)]), (AV.int 12)]) r)))))) ∧
  ((isF (AV.bin Go.BinOp.lss x1 (AV.prj r513 0))) →
    ((AV.binOk Go.BinOp.gtr x1 (AV.prj r513 1)) ∧
    ((AV.isBool (AV.bin Go.BinOp.lss x1 (AV.prj r513 0))) ∧
    ((isF (AV.bin Go.BinOp.lss x1 (AV.prj r513 0))) ∧
    ((AV.isBool (AV.bin Go.BinOp.gtr x1 (AV.prj r513 1))) ∧
    (((isT (AV.bin Go.BinOp.gtr x1 (AV.prj r513 1))) →
      ((AV.flat (AV.agg [(AV.int 0), (AV.int 0), (AV.int 0), (AV.int 0), (AV.int 0), (AV.int 0)])) ∧
      ((AV.flat (AV.int 12)) ∧
      (fSame (AV.tup [(AV.agg [(AV.int 0), (AV.int 0), (AV.int 0), (AV.int 0), (AV.int 0), (AV.int 0)]), (AV.int 12)]) r)))) ∧
    ((isF (AV.bin Go.BinOp.gtr x1 (AV.prj r513 1))) →
      (∃ r1537 : AV, ((Fn Tryz.prog 22 [x0, x1] Sh.sc r1537) ∧
      ((AV.isAgg r1537 6) ∧
      ((AV.flat (AV.agg [(AV.cel r1537 0), (AV.cel r1537 1), (AV.cel r1537 2), (AV.cel r1537 3), (AV.cel r1537 4), (AV.cel r1537 5)])) ∧
      ((AV.flat (AV.int 0)) ∧
      (fSame (AV.tup [(AV.agg [(AV.cel r1537 0), (AV.cel r1537 1), (AV.cel r1537 2), (AV.cel r1537 3), (AV.cel r1537 4), (AV.cel r1537 5)]), (AV.int 0)]) r))))))))))))))))))))))))) := by kernel_rfl
end SecF
end Go.Proofs.YtfemeeffoapemaaGreatDoor
