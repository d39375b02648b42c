/- A function's contract out of the run of its text. -/
import Derived.Test.YtfdpbfdhcngfgaaCtl
namespace Go.Proofs.Ytfdpbfdhcngfgaa
open Go.RowKit
set_option linter.unusedVariables false
set_option linter.unusedSimpArgs false
section
variable {P : Program} {Γ : FuncId → Option Ca} {inl : Inl} {base : Nat} {w0 : World} {ok0 : Nat → Prop} {ann : FuncId → Nat → LoopEx}
theorem resD_ok {σ : DS} {ρ : Nat → Value} {a : Act} {w : World} (h : HS base w0 ok0 σ ρ a w) {r : ResultVar} {d : DE} (hd : resD P σ r = some d) :
    ∃ v, (match r with | .tmp t => pure (a.tmps.getD t undef) | .cell x t => do loadVar t (← asAddr (a.tmps.getD x undef)) : Sem Value).run P w = .ok v w ∧ RD w (okF base ok0 σ.blk ρ) ρ σ.blk (fun n => n < σ.clk) d v := by
  cases r with
  | tmp t =>
    simp only [resD, Option.some.injEq] at hd
    subst hd
    exact ⟨_, rfl, h.tms t⟩
  | cell x t =>
    simp only [resD] at hd
    split at hd
    · rename_i b he
      have hx := h.tms x
      rw [he] at hx
      split at hd
      · rename_i t' cs hb
        split at hd
        · cases hd
        · rename_i hu'
          have hu : ¬ (P.underlying t).isNone = true := fun e => hu' (.inl e)
          have hz : P.cellsOf t ≠ 0 := fun e => hu' (.inr e)
          obtain ⟨g, vs, e1, _, e3, e4⟩ := h.cells hb
          generalize hu2 : a.tmps.getD x undef = u at hx
          cases hx with
          | ptr _ _ g' hg' =>
            rw [e1] at hg'
            injection hg' with hg'
            injection hg' with hg'
            injection hg' with hg'
            subst hg'
            obtain ⟨r1, r2, r3⟩ := whole_ok hd e4
            have hcell : ∀ j u, vs[j]? = some u → w.cell? ⟨g, 0 + j, none⟩ = some u := fun j u hj => by rw [cell_of_row w g _ vs t' (0, 0) e3, Nat.zero_add]; exact hj
            have := run_load (P := P) (w := w) hu g 0 vs hcell (fun hA => ⟨r2 hA, hz⟩) r3
            exact ⟨_, by simp only [hu2, asAddr, Sem.run_bind, Sem.run_pure, Result.andThen_ok]; exact this, r1⟩
      · cases hd
    · cases hd
theorem ressD_ok {σ : DS} {ρ : Nat → Value} {a : Act} {w : World} (h : HS base w0 ok0 σ ρ a w) : ∀ {l : List ResultVar} {ds : List DE}, ressD P σ l = some ds →
    ∃ vs : List Value, (l.mapM fun r => (match r with | .tmp t => pure (a.tmps.getD t undef) | .cell x t => do loadVar t (← asAddr (a.tmps.getD x undef)) : Sem Value)).run P w = .ok vs w ∧ vs.length = ds.length ∧ ∀ i, i < ds.length → RD w (okF base ok0 σ.blk ρ) ρ σ.blk (fun n => n < σ.clk) (ds.getD i .any) (vs.getD i undef)
  | [], ds, hd => by
    simp only [ressD, Option.some.injEq] at hd
    subst hd
    exact ⟨[], rfl, rfl, fun i hi => absurd hi (by simp)⟩
  | r :: l, ds, hd => by
    simp only [ressD] at hd
    split at hd
    · rename_i d ds' h1 h2
      simp only [Option.some.injEq] at hd
      subst hd
      obtain ⟨v, q1, q2⟩ := resD_ok h h1
      obtain ⟨vs, q3, q4, q5⟩ := ressD_ok h h2
      refine ⟨v :: vs, ?_, by simp [q4], fun i hi => ?_⟩
      · rw [List.mapM_cons, Sem.run_bind, q1, Result.andThen_ok, Sem.run_bind, q3, Result.andThen_ok, Sem.run_pure]
      · cases i with
        | zero => exact q2
        | succ i => have := q5 i (by simpa using hi); simpa using this
    · cases hd
theorem resultD_ok {σ : DS} {ρ : Nat → Value} {a : Act} {w : World} (h : HS base w0 ok0 σ ρ a w) {fn : Func} {d : DE} (hd : resultD P fn σ = some d) : ∃ v, (results fn a.tmps).run P w = .ok v w ∧ RD w (okF base ok0 σ.blk ρ) ρ σ.blk (fun n => n < σ.clk) d v := by
  unfold resultD at hd
  cases hq : ressD P σ fn.results.toList with
  | none => rw [hq] at hd; cases hd
  | some ds =>
    rw [hq] at hd
    simp only [Option.map_some, Option.some.injEq] at hd
    obtain ⟨vs, q1, q2, q3⟩ := ressD_ok h hq
    have hrun : (results fn a.tmps).run P w = .ok (if hv : vs.toArray.size = 1 then vs.toArray[0] else .tuple vs.toArray) w := by
      unfold results
      rw [Array.mapM_eq_mapM_toList]
      show Sem.run P ((fn.results.toList.mapM _ >>= fun l => pure l.toArray) >>= _) w = _
      rw [Sem.run_bind, Sem.run_bind]
      generalize hM : Sem.run P (List.mapM _ fn.results.toList) w = M
      have hM2 : M = .ok vs w := hM.symm.trans q1
      rw [hM2]
      rfl
    refine ⟨_, hrun, ?_⟩
    split at hd
    · rename_i d'
      subst hd
      have hl : vs.length = 1 := by simpa using q2
      have := q3 0 (by simp)
      rw [dif_pos (by simpa using hl)]
      obtain ⟨v, rfl⟩ : ∃ v, vs = [v] := by
        cases vs with
        | nil => cases hl
        | cons v l => cases l with
          | nil => exact ⟨v, rfl⟩
          | cons _ _ => simp at hl
      exact this
    · rename_i hne
      subst hd
      rw [dif_neg (by
        intro hv
        have hl : ds.length = 1 := by rw [← q2]; simpa using hv
        cases ds with
        | nil => cases hl
        | cons d l => cases l with
          | nil => exact hne d rfl
          | cons _ _ => simp at hl)]
      exact .tup ds vs.toArray (by simp [q2]) fun i hi => by have := q3 i hi; simpa using this
/-- What goes out. -/
theorem flat_rv {w : World} {ok : Nat → Prop} {x : AV} {v : Value} (h : RV w ok x v) (hf : x.flat) : RV w noBlock x v := by
  induction hf generalizing v with
  | lit u => cases h; exact .lit _
  | nil s =>
    cases h with
    | sl _ _ A n c us hn hnc hc hs hA hone hu =>
      subst hn
      exact .sl s [] A 0 c us rfl hnc hc hs (fun q => absurd q (by simp)) (fun i j hi => absurd hi (by simp)) (fun i j hi => absurd hi (by simp))
  | agg cs hall ih =>
    cases h with
    | agg _ vs h1 h2 h3 => exact .agg cs vs h1 h2 fun i hi => ih _ (by
        rw [List.getD_eq_getElem?_getD, List.getElem?_eq_getElem hi]; exact List.getElem_mem hi) (h3 i hi)
variable {σ : DS} {ρ : Nat → Value} {a : Act} {w : World}
theorem out0_ok (h : HS base w0 ok0 σ ρ a w) {okn : Nat → Prop} (hokn : ∀ g, okF base ok0 σ.blk ρ g → okn g) {d : DE} {v : Value} (hd : RD w (okF base ok0 σ.blk ρ) ρ σ.blk (fun n => n < σ.clk) d v) {sh : Sh} {x : AV} {obs : List Prop} (ho : out0 σ.fview d sh = some (x, obs)) (hobs : ∀ p ∈ obs, p) : RS0 w okn base x v sh := by
  have hV := fview_ok σ
  unfold out0 at ho
  split at ho
  · rename_i e s f
    split at ho
    · split at ho
      · cases ho
      · rename_i hs
        simp only [Option.some.injEq, Prod.mk.injEq] at ho
        obtain ⟨rfl, rfl⟩ := ho
        cases hd
        exact RRow.nil w base e s (by omega) _
    · rename_i b n
      split at ho
      · rename_i e' s' m y hb
        split at ho
        · rename_i hc
          obtain ⟨rfl, rfl, rfl⟩ := hc
          simp only [Option.some.injEq, Prod.mk.injEq] at ho
          obtain ⟨rfl, rfl⟩ := ho
          have hrow := h.row hb
          cases hd with
          | row _ _ _ hn h1 hs =>
            have hv := hs (by have hb' : σ.blk b = .row e' s' m y := hb; rw [hb']; rfl)
            subst hv
            show RRow w base e' s' (if f then noBlock else okn) y (ρ b)
            cases f with
            | false => exact hrow.keep (fun _ _ => rfl) fun g hg hlt => ⟨hokn g hg, rfl⟩
            | true =>
              have hfl : y.flatS := hobs _ (by simp)
              obtain ⟨L, xs, rfl, q1, q2, q3, q4, q5⟩ := hrow
              refine ⟨L, xs, rfl, q1, q2, q3, q4, fun i j hi hj => flat_rv (q5 i j hi hj) ?_⟩
              have hLi : (L.getD i []) ∈ L := by rw [List.getD_eq_getElem?_getD, List.getElem?_eq_getElem hi]; exact List.getElem_mem hi
              refine hfl (L.getD i []) hLi _ ?_
              have hlj : j < (L.getD i []).length := by rw [q2 _ hLi]; exact hj
              unfold gt2
              rw [List.getD_eq_getElem?_getD (l := L.getD i []), List.getElem?_eq_getElem hlj]
              exact List.getElem_mem hlj
        · cases ho
      · cases ho
    · cases ho
  · split at ho
    · rename_i y hy
      simp only [Option.some.injEq, Prod.mk.injEq] at ho
      obtain ⟨rfl, rfl⟩ := ho
      exact (pc_ok' hV h hd hy).mono fun g hg _ => ⟨hokn g hg, rfl⟩
    · rename_i y r hne hy
      simp only [Option.some.injEq, Prod.mk.injEq] at ho
      obtain ⟨rfl, rfl⟩ := ho
      have hemp : y.els = [] := hobs _ (List.mem_cons_self ..)
      have key : ∀ {w : World} {B e s : Nat} {okc ok' : Nat → Prop} {x : AV} {v : Value}, RRow w B e s okc x v → x.els = [] → RV w ok' x v := fun {w B e s okc ok' x v} hr he => by
        obtain ⟨A, n, c, rfl, q1, q2, q3⟩ := hr.form
        obtain ⟨L, xs, rfl, _⟩ := hr
        have hL : L = [] := he
        subst hL
        obtain rfl : n = 0 := q1
        exact .sl s [] A 0 c (fun _ _ => undef) rfl q2 q3 (by simp) (fun q => absurd q (by omega)) (fun i j hi => absurd hi (by omega)) (fun i j hi => absurd hi (by omega))
      cases d with
      | row b n =>
        simp only [View.pc] at hy
        split at hy
        · rename_i e s m x hb
          split at hy
          · rename_i hmn
            subst hmn
            simp only [Option.some.injEq, Prod.mk.injEq] at hy
            obtain ⟨rfl, rfl⟩ := hy
            have hrow := h.row hb
            cases hd with
            | row _ _ _ hn h1 hs =>
              have hv := hs (by have hb' : σ.blk b = .row e s m x := hb; rw [hb']; rfl)
              subst hv
              exact key hrow hemp
          · cases hy
        · split at hy
          · simp only [Option.some.injEq, Prod.mk.injEq] at hy
            exact absurd hy.2.symm hne
          · cases hy
        · cases hy
      | v x => simp only [View.pc, Option.some.injEq, Prod.mk.injEq] at hy; exact absurd hy.2.symm hne
      | c x => simp only [View.pc, Option.some.injEq, Prod.mk.injEq] at hy; exact absurd hy.2.symm hne
      | nil => simp only [View.pc, Option.some.injEq, Prod.mk.injEq] at hy; exact absurd hy.2.symm hne
      | _ => simp only [View.pc] at hy; cases hy
    · cases ho
  · split at ho
    · rename_i y hy
      simp only [Option.some.injEq, Prod.mk.injEq] at ho
      obtain ⟨rfl, rfl⟩ := ho
      exact flat_rv (pc_ok' hV h hd hy) (hobs _ (by simp))
    · cases ho
  · cases ho
theorem out0s_ok {V : View} : ∀ {ds : List DE} {shs : List Sh} {xs : List AV} {obs : List Prop}, out0s V ds shs = some (xs, obs) → (∀ p ∈ obs, p) → xs.length = shs.length ∧ ds.length = shs.length ∧ ∀ i, i < shs.length → ∃ o, out0 V (ds.getD i .any) (shs.getD i .sc) = some (xs.getD i default, o) ∧ ∀ p ∈ o, p
  | [], [], xs, obs, h, _ => by
    simp only [out0s, Option.some.injEq, Prod.mk.injEq] at h
    obtain ⟨rfl, rfl⟩ := h
    exact ⟨rfl, rfl, fun i hi => absurd hi (by simp)⟩
  | d :: ds, sh :: l, xs, obs, h, hobs => by
    simp only [out0s] at h
    split at h
    · rename_i x o xs' os h1 h2
      simp only [Option.some.injEq, Prod.mk.injEq] at h
      obtain ⟨rfl, rfl⟩ := h
      obtain ⟨q1, q2, q3⟩ := out0s_ok h2 (fun p hp => hobs p (List.mem_append_right _ hp))
      refine ⟨by simp [q1], by simp [q2], fun i hi => ?_⟩
      cases i with
      | zero => exact ⟨o, h1, fun p hp => hobs p (List.mem_append_left _ hp)⟩
      | succ i =>
        obtain ⟨o', q4, q5⟩ := q3 i (by simpa using hi)
        exact ⟨o', by simpa using q4, q5⟩
    · cases h
  | [], _ :: _, xs, obs, h, _ => by cases h
  | _ :: _, [], xs, obs, h, _ => by cases h
theorem out1s_ok {V : View} : ∀ {ds : List DE} {shs : List Sh} {xs : List AV} {obs : List Prop}, out1s V ds shs = some (xs, obs) → (∀ p ∈ obs, p) → xs.length = shs.length ∧ ds.length = shs.length ∧ ∀ i, i < shs.length → ∃ o, out1 V (ds.getD i .any) (shs.getD i .sc) = some (xs.getD i default, o) ∧ ∀ p ∈ o, p
  | [], [], xs, obs, h, _ => by
    simp only [out1s, Option.some.injEq, Prod.mk.injEq] at h
    obtain ⟨rfl, rfl⟩ := h
    exact ⟨rfl, rfl, fun i hi => absurd hi (by simp)⟩
  | d :: ds, sh :: l, xs, obs, h, hobs => by
    simp only [out1s] at h
    split at h
    · rename_i x o xs' os h1 h2
      simp only [Option.some.injEq, Prod.mk.injEq] at h
      obtain ⟨rfl, rfl⟩ := h
      obtain ⟨q1, q2, q3⟩ := out1s_ok h2 (fun p hp => hobs p (List.mem_append_right _ hp))
      refine ⟨by simp [q1], by simp [q2], fun i hi => ?_⟩
      cases i with
      | zero => exact ⟨o, h1, fun p hp => hobs p (List.mem_append_left _ hp)⟩
      | succ i =>
        obtain ⟨o', q4, q5⟩ := q3 i (by simpa using hi)
        exact ⟨o', by simpa using q4, q5⟩
    · cases h
  | [], _ :: _, xs, obs, h, _ => by cases h
  | _ :: _, [], xs, obs, h, _ => by cases h
/-- The cells are plain. -/
def V0 (σ : DS) (cs : List DE) (xs : List AV) : Prop := σ.fview.pcs cs = some (xs, [])
theorem out1_ok (h : HS base w0 ok0 σ ρ a w) {okn : Nat → Prop} (hokn : ∀ g, okF base ok0 σ.blk ρ g → okn g) {d : DE} {v : Value} (hd : RD w (okF base ok0 σ.blk ρ) ρ σ.blk (fun n => n < σ.clk) d v) {sh : Sh} {x : AV} {obs : List Prop} (ho : out1 σ.fview d sh = some (x, obs)) (hobs : ∀ p ∈ obs, p) : RS1 w okn base x v sh := by
  have hV := fview_ok σ
  have hagg : ∀ cs xs, V0 σ cs xs → ∀ vs : Array Value, vs.size = cs.length → (∀ i, i < cs.length → (vs.getD i undef).oneCell' = true) → (∀ i, i < cs.length → RD w (okF base ok0 σ.blk ρ) ρ σ.blk (fun n => n < σ.clk) (cs.getD i .any) (vs.getD i undef)) → RV w (okF base ok0 σ.blk ρ) (.agg xs) (.agg vs) := fun cs xs hp vs h1 h2 h3 => by
    obtain ⟨p1, p2⟩ := pcs_get hp
    refine .agg xs vs (by rw [h1, p1]) (fun i hi => h2 i (p1 ▸ hi)) fun i hi => ?_
    obtain ⟨r', z1, z2⟩ := p2 i (p1 ▸ hi)
    obtain rfl : r' = [] := by
      cases r' with
      | nil => rfl
      | cons q _ => exact absurd (z2 q (by simp)) (by simp)
    exact pc_ok' hV h (h3 i (p1 ▸ hi)) z1
  cases sh with
  | agg shs =>
    simp only [out1] at ho
    split at ho
    · rename_i cs
      cases hq : out0s σ.fview cs shs with
      | none => rw [hq] at ho; cases ho
      | some q =>
        obtain ⟨xs, o⟩ := q
        rw [hq] at ho
        simp only [Option.map_some, Option.some.injEq, Prod.mk.injEq] at ho
        obtain ⟨rfl, rfl⟩ := ho
        obtain ⟨q1, q2, q3⟩ := out0s_ok hq hobs
        cases hd with
        | agg _ vs h1 h2 h3 =>
          refine ⟨vs, rfl, by rw [h1, q2], ⟨xs, rfl, q1⟩, fun i hi => ⟨h2 i (q2 ▸ hi), ?_⟩⟩
          obtain ⟨o', z1, z2⟩ := q3 i hi
          exact out0_ok h hokn (h3 i (q2 ▸ hi)) z1 z2
    · cases ho
  | sc =>
    simp only [out1] at ho
    split at ho
    · rename_i cs
      split at ho
      · rename_i xs _ hp
        simp only [Option.some.injEq, Prod.mk.injEq] at ho
        obtain ⟨rfl, rfl⟩ := ho
        cases hd with
        | agg _ vs h1 h2 h3 => exact flat_rv (hagg cs xs hp vs h1 h2 h3) (hobs _ (by simp))
      · rename_i hh _; cases hh
      · cases ho
    · exact out0_ok (sh := .sc) h hokn hd ho hobs
  | p =>
    simp only [out1] at ho
    split at ho
    · rename_i cs
      split at ho
      · rename_i hh _; cases hh
      · rename_i xs _ hp
        simp only [Option.some.injEq, Prod.mk.injEq] at ho
        obtain ⟨rfl, rfl⟩ := ho
        cases hd with
        | agg _ vs h1 h2 h3 => exact (hagg cs xs hp vs h1 h2 h3).mono fun g hg _ => ⟨hokn g hg, rfl⟩
      · cases ho
    · exact out0_ok (sh := .p) h hokn hd ho hobs
  | row e s f =>
    simp only [out1] at ho
    split at ho
    · cases ho
    · exact out0_ok (sh := .row e s f) h hokn hd ho hobs
  | tup vs =>
    simp only [out1] at ho
    split at ho
    · cases ho
    · cases ho
theorem out2_ok (h : HS base w0 ok0 σ ρ a w) {okn : Nat → Prop} (hokn : ∀ g, okF base ok0 σ.blk ρ g → okn g) {d : DE} {v : Value} (hd : RD w (okF base ok0 σ.blk ρ) ρ σ.blk (fun n => n < σ.clk) d v) {sh : Sh} {x : AV} {obs : List Prop} (ho : out2 σ.fview d sh = some (x, obs)) (hobs : ∀ p ∈ obs, p) : RS2 w okn base x v sh := by
  cases sh with
  | tup shs =>
    simp only [out2] at ho
    split at ho
    · rename_i ds
      cases hq : out1s σ.fview ds shs with
      | none => rw [hq] at ho; cases ho
      | some q =>
        obtain ⟨xs, o⟩ := q
        rw [hq] at ho
        simp only [Option.map_some, Option.some.injEq, Prod.mk.injEq] at ho
        obtain ⟨rfl, rfl⟩ := ho
        obtain ⟨q1, q2, q3⟩ := out1s_ok hq hobs
        cases hd with
        | tup _ vs h1 h3 =>
          refine ⟨vs, rfl, by rw [h1, q2], ⟨xs, rfl, q1⟩, fun i hi => ?_⟩
          obtain ⟨o', z1, z2⟩ := q3 i hi
          exact out1_ok h hokn (h3 i (q2 ▸ hi)) z1 z2
    · cases ho
  | agg cs => exact out1_ok (sh := .agg cs) h hokn hd ho hobs
  | row e s f => exact out1_ok (sh := .row e s f) h hokn hd ho hobs
  | sc => exact out1_ok (sh := .sc) h hokn hd ho hobs
  | p => exact out1_ok (sh := .p) h hokn hd ho hobs
/-- A row among what goes out. -/
theorem out0_row (h : HS base w0 ok0 σ ρ a w) {d : DE} {v : Value} (hd : RD w (okF base ok0 σ.blk ρ) ρ σ.blk (fun n => n < σ.clk) d v) {e s : Nat} {f : Bool} {x : AV} {obs : List Prop} (ho : out0 σ.fview d (.row e s f) = some (x, obs)) :
    v.ownBlock = none ∨ ∃ b n, d = .row b n ∧ isLive (σ.blk b) = true ∧ v.ownBlock = blkNo (ρ b) := by
  simp only [out0] at ho
  split at ho
  · cases hd; exact .inl rfl
  · rename_i b n
    split at ho
    · rename_i e2 s2 m y hb
      split at ho
      · rename_i hc
        obtain ⟨rfl, rfl, rfl⟩ := hc
        have hb' : σ.blk b = .row e2 s2 m y := hb
        cases hd with
        | row _ _ _ hn h1 hs =>
          have hv := hs (by rw [hb']; rfl)
          subst hv
          exact .inr ⟨b, m, rfl, by rw [hb']; rfl, (h.row hb').blkNo_eq⟩
      · cases ho
    · cases ho
  · cases ho
theorem out1_row (h : HS base w0 ok0 σ ρ a w) {d : DE} {v : Value} (hd : RD w (okF base ok0 σ.blk ρ) ρ σ.blk (fun n => n < σ.clk) d v) {sh : Sh} {x : AV} {obs : List Prop} (ho : out1 σ.fview d sh = some (x, obs)) (hobs : ∀ p ∈ obs, p) {i : Nat} (hr : isRow (leafSh1 i sh) = true) :
    (leafVal1 v i sh).ownBlock = none ∨ ∃ b n, leafDE1 d i sh = .row b n ∧ isLive (σ.blk b) = true ∧ (leafVal1 v i sh).ownBlock = blkNo (ρ b) := by
  cases sh with
  | agg shs =>
    simp only [out1] at ho
    split at ho
    · rename_i cs
      cases hq : out0s σ.fview cs shs with
      | none => rw [hq] at ho; cases ho
      | some q =>
        obtain ⟨xs, o⟩ := q
        rw [hq] at ho
        simp only [Option.map_some, Option.some.injEq, Prod.mk.injEq] at ho
        obtain ⟨rfl, rfl⟩ := ho
        obtain ⟨q1, q2, q3⟩ := out0s_ok hq hobs
        cases hd with
        | agg _ vs h1 h2 h3 =>
          have hi : i < shs.length := by
            rcases Nat.lt_or_ge i shs.length with q | q
            · exact q
            · simp only [leafSh1] at hr
              rw [List.getD_eq_getElem?_getD, List.getElem?_eq_none q] at hr; cases hr
          obtain ⟨o', z1, z2⟩ := q3 i hi
          have hr' : isRow (shs.getD i .sc) = true := hr
          cases hsh : shs.getD i .sc with
          | row e s f =>
            rw [hsh] at z1
            exact out0_row h (h3 i (q2 ▸ hi)) z1
          | _ => rw [hsh] at hr'; cases hr'
    · cases ho
  | row e s f =>
    simp only [out1] at ho
    split at ho
    · cases ho
    · exact out0_row h hd ho
  | sc => simp only [leafSh1] at hr; split at hr <;> cases hr
  | p => simp only [leafSh1] at hr; split at hr <;> cases hr
  | tup vs => simp only [leafSh1] at hr; split at hr <;> cases hr
theorem out2_row (h : HS base w0 ok0 σ ρ a w) {d : DE} {v : Value} (hd : RD w (okF base ok0 σ.blk ρ) ρ σ.blk (fun n => n < σ.clk) d v) {sh : Sh} {x : AV} {obs : List Prop} (ho : out2 σ.fview d sh = some (x, obs)) (hobs : ∀ p ∈ obs, p) {j i : Nat} (hr : isRow (leafSh j i sh) = true) :
    (leafVal v j i sh).ownBlock = none ∨ ∃ b n, leafDE d j i sh = .row b n ∧ isLive (σ.blk b) = true ∧ (leafVal v j i sh).ownBlock = blkNo (ρ b) := by
  have hone : ∀ sh : Sh, out1 σ.fview d sh = some (x, obs) → isRow (if j = 0 then leafSh1 i sh else .sc) = true → (leafVal1 v i sh).ownBlock = none ∨ ∃ b n, leafDE1 d i sh = .row b n ∧ isLive (σ.blk b) = true ∧ (leafVal1 v i sh).ownBlock = blkNo (ρ b) := fun sh h1 h2 => by
    split at h2
    · exact out1_row h hd h1 hobs h2
    · cases h2
  cases sh with
  | tup shs =>
    simp only [out2] at ho
    split at ho
    · rename_i ds
      cases hq : out1s σ.fview ds shs with
      | none => rw [hq] at ho; cases ho
      | some q =>
        obtain ⟨xs, o⟩ := q
        rw [hq] at ho
        simp only [Option.map_some, Option.some.injEq, Prod.mk.injEq] at ho
        obtain ⟨rfl, rfl⟩ := ho
        obtain ⟨q1, q2, q3⟩ := out1s_ok hq hobs
        cases hd with
        | tup _ vs h1 h3 =>
          have hr' : isRow (leafSh1 i (shs.getD j .sc)) = true := hr
          have hj : j < shs.length := by
            cases hsh : leafSh1 i (shs.getD j .sc) with
            | row e s f => exact leaf_lt hsh
            | _ => rw [hsh] at hr'; cases hr'
          obtain ⟨o', z1, z2⟩ := q3 j hj
          exact out1_row h (h3 j (q2 ▸ hj)) z1 z2 hr'
    · cases ho
  | agg cs => exact hone (.agg cs) ho hr
  | row e s f => exact hone (.row e s f) ho hr
  | sc => exact hone .sc ho hr
  | p => exact hone .p ho hr
theorem filterMap_inj {α : Type} {f : α → Option Nat} : ∀ {l : List α}, (l.filterMap f).Nodup → ∀ {p q : α}, p ∈ l → q ∈ l → ∀ {b : Nat}, f p = some b → f q = some b → l.Nodup → p = q
  | [], _, p, q, hp, _, _, _, _, _ => by cases hp
  | x :: l, hn, p, q, hp, hq, b, h1, h2, hl => by
    have hmem : ∀ y, y ∈ l → f y = some b → b ∈ l.filterMap f := fun y hy hb => List.mem_filterMap.2 ⟨y, hy, hb⟩
    rw [List.filterMap_cons] at hn
    rcases List.mem_cons.1 hp with rfl | hp'
    · rcases List.mem_cons.1 hq with rfl | hq'
      · rfl
      · rw [h1] at hn
        exact absurd (hmem q hq' h2) (List.nodup_cons.1 hn).1
    · rcases List.mem_cons.1 hq with rfl | hq'
      · rw [h2] at hn
        exact absurd (hmem p hp' h1) (List.nodup_cons.1 hn).1
      · have hn' : (l.filterMap f).Nodup := by
          split at hn
          · exact hn
          · exact (List.nodup_cons.1 hn).2
        exact filterMap_inj hn' hp' hq' h1 h2 (List.nodup_cons.1 hl).2
theorem paths_mem {j i : Nat} (hj : j < 8) (hi : i < 8) : (j, i) ∈ paths := List.mem_flatMap.2 ⟨j, by simpa using hj, List.mem_map.2 ⟨i, by simpa using hi, rfl⟩⟩
theorem paths_nodup : paths.Nodup := by decide
/-- **A function's contract**: the run of its text is all that it takes. -/
theorem fn_of_run (hm : P.follows .mixedOrders = true) {n : Nat} (hinl : InlOk P (inF P Γ ann n)) (hfr : InlFr (inF P Γ ann n)) {f : FuncId} {fn : Func} {c : Code} (hf : P.funcs[f]? = some fn) (hb : fn.body = some c) (hent : Ent P f) {args : List AV} {orc : Orc} {sh : Sh} {r : AV} (h : fnF P Γ ann n f fn c orc args sh r) : Fn P f args sh r := by
  refine ⟨hent, fun w ok cargs hokl hgl hsz hargs => calls_marks hf hb ?_⟩
  have hlen : (args.map DE.v ++ List.replicate (fn.ntmps - args.length) (DE.c undef)).length = (cargs ++ Array.replicate (fn.ntmps - cargs.size) undef).size := by simp [hsz]
  have hblk0 : ∀ b, (DS.mk (args.map DE.v ++ List.replicate (fn.ntmps - args.length) (DE.c undef)) [] 1 orc).blk b = .dead := fun b => rfl
  have h0 : HS w.heap.size w ok (DS.mk (args.map DE.v ++ List.replicate (fn.ntmps - args.length) (DE.c undef)) [] 1 orc) (fun _ => undef) { tmps := cargs ++ Array.replicate (fn.ntmps - cargs.size) undef, defers := [] } w := by
    refine ⟨fun t => ?_, fun b => rfl, fun b b' hl => (by cases hl), fun b _ => rfl, hlen.symm, NoD.nil _ _, Below.refl _ _, Nat.le_refl _, Nat.le_refl _, hgl⟩
    by_cases ht : t < args.length
    · have e1 : (args.map DE.v ++ List.replicate (fn.ntmps - args.length) (DE.c undef)).getD t .any = .v (args.getD t default) := by
        rw [List.getD_eq_getElem?_getD, List.getElem?_append_left (by simpa using ht), List.getElem?_map, List.getElem?_eq_getElem ht, List.getD_eq_getElem?_getD, List.getElem?_eq_getElem ht]; rfl
      have e2 : (cargs ++ Array.replicate (fn.ntmps - cargs.size) undef).getD t undef = cargs.getD t undef := by
        rw [Array.getD_eq_getD_getElem?, Array.getElem?_append, if_pos (by omega), ← Array.getD_eq_getD_getElem?]
      show RD _ _ _ _ _ ((args.map DE.v ++ List.replicate (fn.ntmps - args.length) (DE.c undef)).getD t .any) ((cargs ++ Array.replicate (fn.ntmps - cargs.size) undef).getD t undef)
      rw [e1, e2]
      exact .v _ _ ((hargs t ht).mono fun g hg hlt => ⟨⟨fun _ => hg, fun b hl => by cases hl⟩, rfl⟩)
    · by_cases ht2 : t < fn.ntmps
      · have e1 : (args.map DE.v ++ List.replicate (fn.ntmps - args.length) (DE.c undef)).getD t .any = .c undef := by
          rw [List.getD_eq_getElem?_getD, List.getElem?_append_right (by simpa using ht), List.getElem?_replicate]
          rw [if_pos (by simp; omega)]; rfl
        have e2 : (cargs ++ Array.replicate (fn.ntmps - cargs.size) undef).getD t undef = undef := by
          rw [Array.getD_eq_getD_getElem?, Array.getElem?_append, if_neg (by omega), Array.getElem?_replicate]
          split <;> rfl
        show RD _ _ _ _ _ ((args.map DE.v ++ List.replicate (fn.ntmps - args.length) (DE.c undef)).getD t .any) ((cargs ++ Array.replicate (fn.ntmps - cargs.size) undef).getD t undef)
        rw [e1, e2]; exact .c _
      · have e1 : (args.map DE.v ++ List.replicate (fn.ntmps - args.length) (DE.c undef)).getD t .any = .any := by
          rw [List.getD_eq_getElem?_getD, List.getElem?_eq_none (by simp; omega)]; rfl
        show RD _ _ _ _ _ ((args.map DE.v ++ List.replicate (fn.ntmps - args.length) (DE.c undef)).getD t .any) _
        rw [e1]; exact .any _
  refine runC_sound hm hinl hfr c _ _ _ _ w _ h h0 fun e σ' ρ' a' w' hk h' => ?_
  obtain ⟨Ds, hD1, hD2, hD3, h'⟩ := HR.unmark h'
  split at hk
  · rename_i hex
    split at hk
    · rename_i d hd
      split at hk
      · rename_i x obs hout
        split at hk
        · rename_i hck
          rw [Bool.and_eq_true] at hck
          have hnd : (rowIds d sh).Nodup := of_decide_eq_true hck.1
          obtain ⟨hobs, hxr⟩ := obsF_iff hk
          have hxr : x = r := hxr
          subst hxr
          obtain ⟨v, hv1, hv2⟩ := resultD_ok h' hd
          have hp : Below w.heap.size w (turned Ds w') ∧ RS2 (turned Ds w') (okNew ok w.heap.size v sh) w.heap.size x v sh ∧ RowsApart v sh ∧ w.drawn ≤ (turned Ds w').drawn := by
            refine ⟨h'.bel, out2_ok h' (fun g hg => ?_) hv2 hout hobs, ?_, h'.drw⟩
            · rcases Nat.lt_or_ge g w.heap.size with q | q
              · exact .inl (hg.1 q)
              · refine .inr ⟨q, ?_⟩
                rintro ⟨j, i, hr, he⟩
                rcases out2_row h' hv2 hout hobs hr with z | ⟨b, n, _, hl, z⟩
                · rw [z] at he; cases he
                · rw [z] at he; exact hg.2 b hl he
            · intro j i j' i' hr hr' hne g hg hg'
              rcases out2_row h' hv2 hout hobs hr with z | ⟨b, n, hd1, hl, z⟩
              · rw [z] at hg; cases hg
              · rcases out2_row h' hv2 hout hobs hr' with z' | ⟨b', n', hd1', hl', z'⟩
                · rw [z'] at hg'; cases hg'
                · rw [z] at hg
                  rw [z'] at hg'
                  have hbb : b = b' := Classical.byContradiction fun q => h'.inj b b' hl hl' q g hg hg'
                  subst hbb
                  have hlt : ∀ j i, isRow (leafSh j i sh) = true → j < 8 ∧ i < 8 := fun j i hr => by
                    cases hk : leafSh j i sh with
                    | row e s f => exact small_leaf hck.2 hk
                    | _ => rw [hk] at hr; cases hr
                  have r1 : rowId d sh (j, i) = some b := by unfold rowId; simp only [hr, if_true, hd1]
                  have r2 : rowId d sh (j', i') = some b := by unfold rowId; simp only [hr', if_true, hd1']
                  have := filterMap_inj hnd (paths_mem (hlt j i hr).1 (hlt j i hr).2) (paths_mem (hlt j' i' hr').1 (hlt j' i' hr').2) r1 r2 paths_nodup
                  injection this with q1 q2
                  rcases hne with q | q
                  · exact q q1
                  · exact q q2
          cases e with
          | normal => exact ⟨Ds, hD1, hD2, hD3, v, hv1, v, rfl, hp⟩
          | ret => exact ⟨Ds, hD1, hD2, hD3, v, hv1, v, rfl, hp⟩
          | exit i => cases hex
          | goto i => cases hex
          | panic i => cases hex
          | outgrown => cases hex
        · exact hk.elim
      · exact hk.elim
    · exact hk.elim
  · exact hk.elim
end
end Go.Proofs.Ytfdpbfdhcngfgaa
