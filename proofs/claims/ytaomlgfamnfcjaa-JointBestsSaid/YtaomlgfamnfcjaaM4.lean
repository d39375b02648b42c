/- Texts of one proof, part 4: plain values, a run over them, contracts of functions. -/
import Derived.Test.YtaomlgfamnfcjaaM3
import Derived.Test.YtaomlgfamnfcjaaM1
import Derived.Lib.SmallJoins
import Derived.Deep.Slices
import Derived.Deep.Fields
import Derived.ChangeSame
/- A function's contract out of the run of its text. -/
namespace Go.Proofs.Ytaomlgfamnfcjaa
open Go.RowKit
set_option linter.unusedVariables false
set_option linter.unusedSimpArgs false
section
variable {P : Program} {Γ : FuncId → Option Ca} {inl : Inl} {base : Nat} {w0 : World} {ok0 : Nat → Prop} {ann : FuncId → Nat → LoopEx}
theorem resD_ok {σ : DS} {ρ : Nat → Value} {a : Act} {w : World} (h : HS base w0 ok0 σ ρ a w) {r : ResultVar} {d : DE} (hd : resD P σ r = some d) :
    ∃ v, (match r with | .tmp t => pure (a.tmps.getD t undef) | .cell x t => do loadVar t (← asAddr (a.tmps.getD x undef)) : Sem Value).run P w = .ok v w ∧ RD w (okF base ok0 σ.blk ρ) ρ σ.blk (fun n => n < σ.clk) d v := by
  cases r with
  | tmp t =>
    simp only [resD, Option.some.injEq] at hd
    subst hd
    exact ⟨_, rfl, h.tms t⟩
  | cell x t =>
    simp only [resD] at hd
    split at hd
    · rename_i b he
      have hx := h.tms x
      rw [he] at hx
      split at hd
      · rename_i t' cs hb
        split at hd
        · cases hd
        · rename_i hu'
          have hu : ¬ (P.underlying t).isNone = true := fun e => hu' (.inl e)
          have hz : P.cellsOf t ≠ 0 := fun e => hu' (.inr e)
          obtain ⟨g, vs, e1, _, e3, e4⟩ := h.cells hb
          generalize hu2 : a.tmps.getD x undef = u at hx
          cases hx with
          | ptr _ _ g' hg' =>
            rw [e1] at hg'
            injection hg' with hg'
            injection hg' with hg'
            injection hg' with hg'
            subst hg'
            obtain ⟨r1, r2, r3⟩ := whole_ok hd e4
            have hcell : ∀ j u, vs[j]? = some u → w.cell? ⟨g, 0 + j, none⟩ = some u := fun j u hj => by rw [cell_of_row w g _ vs t' (0, 0) e3, Nat.zero_add]; exact hj
            have := run_load (P := P) (w := w) hu g 0 vs hcell (fun hA => ⟨r2 hA, hz⟩) r3
            exact ⟨_, by simp only [hu2, asAddr, Sem.run_bind, Sem.run_pure, Result.andThen_ok]; exact this, r1⟩
      · cases hd
    · cases hd
theorem ressD_ok {σ : DS} {ρ : Nat → Value} {a : Act} {w : World} (h : HS base w0 ok0 σ ρ a w) : ∀ {l : List ResultVar} {ds : List DE}, ressD P σ l = some ds →
    ∃ vs : List Value, (l.mapM fun r => (match r with | .tmp t => pure (a.tmps.getD t undef) | .cell x t => do loadVar t (← asAddr (a.tmps.getD x undef)) : Sem Value)).run P w = .ok vs w ∧ vs.length = ds.length ∧ ∀ i, i < ds.length → RD w (okF base ok0 σ.blk ρ) ρ σ.blk (fun n => n < σ.clk) (ds.getD i .any) (vs.getD i undef)
  | [], ds, hd => by
    simp only [ressD, Option.some.injEq] at hd
    subst hd
    exact ⟨[], rfl, rfl, fun i hi => absurd hi (by simp)⟩
  | r :: l, ds, hd => by
    simp only [ressD] at hd
    split at hd
    · rename_i d ds' h1 h2
      simp only [Option.some.injEq] at hd
      subst hd
      obtain ⟨v, q1, q2⟩ := resD_ok h h1
      obtain ⟨vs, q3, q4, q5⟩ := ressD_ok h h2
      refine ⟨v :: vs, ?_, by simp [q4], fun i hi => ?_⟩
      · rw [List.mapM_cons, Sem.run_bind, q1, Result.andThen_ok, Sem.run_bind, q3, Result.andThen_ok, Sem.run_pure]
      · cases i with
        | zero => exact q2
        | succ i => have := q5 i (by simpa using hi); simpa using this
    · cases hd
theorem resultD_ok {σ : DS} {ρ : Nat → Value} {a : Act} {w : World} (h : HS base w0 ok0 σ ρ a w) {fn : Func} {d : DE} (hd : resultD P fn σ = some d) : ∃ v, (results fn a.tmps).run P w = .ok v w ∧ RD w (okF base ok0 σ.blk ρ) ρ σ.blk (fun n => n < σ.clk) d v := by
  unfold resultD at hd
  cases hq : ressD P σ fn.results.toList with
  | none => rw [hq] at hd; cases hd
  | some ds =>
    rw [hq] at hd
    simp only [Option.map_some, Option.some.injEq] at hd
    obtain ⟨vs, q1, q2, q3⟩ := ressD_ok h hq
    have hrun : (results fn a.tmps).run P w = .ok (if hv : vs.toArray.size = 1 then vs.toArray[0] else .tuple vs.toArray) w := by
      unfold results
      rw [Array.mapM_eq_mapM_toList]
      show Sem.run P ((fn.results.toList.mapM _ >>= fun l => pure l.toArray) >>= _) w = _
      rw [Sem.run_bind, Sem.run_bind]
      generalize hM : Sem.run P (List.mapM _ fn.results.toList) w = M
      have hM2 : M = .ok vs w := hM.symm.trans q1
      rw [hM2]
      rfl
    refine ⟨_, hrun, ?_⟩
    split at hd
    · rename_i d'
      subst hd
      have hl : vs.length = 1 := by simpa using q2
      have := q3 0 (by simp)
      rw [dif_pos (by simpa using hl)]
      obtain ⟨v, rfl⟩ : ∃ v, vs = [v] := by
        cases vs with
        | nil => cases hl
        | cons v l => cases l with
          | nil => exact ⟨v, rfl⟩
          | cons _ _ => simp at hl
      exact this
    · rename_i hne
      subst hd
      rw [dif_neg (by
        intro hv
        have hl : ds.length = 1 := by rw [← q2]; simpa using hv
        cases ds with
        | nil => cases hl
        | cons d l => cases l with
          | nil => exact hne d rfl
          | cons _ _ => simp at hl)]
      exact .tup ds vs.toArray (by simp [q2]) fun i hi => by have := q3 i hi; simpa using this
/-- What goes out. -/
theorem flat_rv {w : World} {ok : Nat → Prop} {x : AV} {v : Value} (h : RV w ok x v) (hf : x.flat) : RV w noBlock x v := by
  induction hf generalizing v with
  | lit u => cases h; exact .lit _
  | nil s =>
    cases h with
    | sl _ _ A n c us hn hnc hc hs hA hone hu =>
      subst hn
      exact .sl s [] A 0 c us rfl hnc hc hs (fun q => absurd q (by simp)) (fun i j hi => absurd hi (by simp)) (fun i j hi => absurd hi (by simp))
  | agg cs hall ih =>
    cases h with
    | agg _ vs h1 h2 h3 => exact .agg cs vs h1 h2 fun i hi => ih _ (by
        rw [List.getD_eq_getElem?_getD, List.getElem?_eq_getElem hi]; exact List.getElem_mem hi) (h3 i hi)
variable {σ : DS} {ρ : Nat → Value} {a : Act} {w : World}
theorem out0_ok (h : HS base w0 ok0 σ ρ a w) {okn : Nat → Prop} (hokn : ∀ g, okF base ok0 σ.blk ρ g → okn g) {d : DE} {v : Value} (hd : RD w (okF base ok0 σ.blk ρ) ρ σ.blk (fun n => n < σ.clk) d v) {sh : Sh} {x : AV} {obs : List Ob} (ho : out0 σ.fview d sh = some (x, obs)) (hobs : ∀ p ∈ obs, p.p) : RS0 w okn base x v sh := by
  have hV := fview_ok σ
  unfold out0 at ho
  split at ho
  · rename_i e s f
    split at ho
    · split at ho
      · cases ho
      · rename_i hs
        simp only [Option.some.injEq, Prod.mk.injEq] at ho
        obtain ⟨rfl, rfl⟩ := ho
        cases hd
        exact RRow.nil w base e s (by omega) _
    · rename_i b n
      split at ho
      · rename_i e' s' m y hb
        split at ho
        · rename_i hc
          obtain ⟨rfl, rfl, rfl⟩ := hc
          simp only [Option.some.injEq, Prod.mk.injEq] at ho
          obtain ⟨rfl, rfl⟩ := ho
          have hrow := h.row hb
          cases hd with
          | row _ _ _ hn h1 hs =>
            have hv := hs (by have hb' : σ.blk b = .row e' s' m y := hb; rw [hb']; rfl)
            subst hv
            show RRow w base e' s' (if f then noBlock else okn) y (ρ b)
            cases f with
            | false => exact hrow.keep (fun _ _ => rfl) fun g hg hlt => ⟨hokn g hg, rfl⟩
            | true =>
              have hfl : y.flatS := hobs (ob (y.flatS)) (by simp)
              obtain ⟨L, xs, rfl, q1, q2, q3, q4, q5⟩ := hrow
              refine ⟨L, xs, rfl, q1, q2, q3, q4, fun i j hi hj => flat_rv (q5 i j hi hj) ?_⟩
              have hLi : (L.getD i []) ∈ L := by rw [List.getD_eq_getElem?_getD, List.getElem?_eq_getElem hi]; exact List.getElem_mem hi
              refine hfl (L.getD i []) hLi _ ?_
              have hlj : j < (L.getD i []).length := by rw [q2 _ hLi]; exact hj
              unfold gt2
              rw [List.getD_eq_getElem?_getD (l := L.getD i []), List.getElem?_eq_getElem hlj]
              exact List.getElem_mem hlj
        · cases ho
      · cases ho
    · cases ho
  · split at ho
    · rename_i y hy
      simp only [Option.some.injEq, Prod.mk.injEq] at ho
      obtain ⟨rfl, rfl⟩ := ho
      exact (pc_ok' hV h hd hy).mono fun g hg _ => ⟨hokn g hg, rfl⟩
    · rename_i y r hne hy
      simp only [Option.some.injEq, Prod.mk.injEq] at ho
      obtain ⟨rfl, rfl⟩ := ho
      have hemp : y.els = [] := ob1 hobs
      have key : ∀ {w : World} {B e s : Nat} {okc ok' : Nat → Prop} {x : AV} {v : Value}, RRow w B e s okc x v → x.els = [] → RV w ok' x v := fun {w B e s okc ok' x v} hr he => by
        obtain ⟨A, n, c, rfl, q1, q2, q3⟩ := hr.form
        obtain ⟨L, xs, rfl, _⟩ := hr
        have hL : L = [] := he
        subst hL
        obtain rfl : n = 0 := q1
        exact .sl s [] A 0 c (fun _ _ => undef) rfl q2 q3 (by simp) (fun q => absurd q (by omega)) (fun i j hi => absurd hi (by omega)) (fun i j hi => absurd hi (by omega))
      cases d with
      | row b n =>
        simp only [View.pc] at hy
        split at hy
        · rename_i e s m x hb
          split at hy
          · rename_i hmn
            subst hmn
            simp only [Option.some.injEq, Prod.mk.injEq] at hy
            obtain ⟨rfl, rfl⟩ := hy
            have hrow := h.row hb
            cases hd with
            | row _ _ _ hn h1 hs =>
              have hv := hs (by have hb' : σ.blk b = .row e s m x := hb; rw [hb']; rfl)
              subst hv
              exact key hrow hemp
          · cases hy
        · split at hy
          · simp only [Option.some.injEq, Prod.mk.injEq] at hy
            exact absurd hy.2.symm hne
          · cases hy
        · cases hy
      | v x => simp only [View.pc, Option.some.injEq, Prod.mk.injEq] at hy; exact absurd hy.2.symm hne
      | c x => simp only [View.pc, Option.some.injEq, Prod.mk.injEq] at hy; exact absurd hy.2.symm hne
      | nil => simp only [View.pc, Option.some.injEq, Prod.mk.injEq] at hy; exact absurd hy.2.symm hne
      | _ => simp only [View.pc] at hy; cases hy
    · cases ho
  · split at ho
    · rename_i y hy
      simp only [Option.some.injEq, Prod.mk.injEq] at ho
      obtain ⟨rfl, rfl⟩ := ho
      exact flat_rv (pc_ok' hV h hd hy) (ob1 hobs)
    · cases ho
  · cases ho
theorem out0s_ok {V : View} : ∀ {ds : List DE} {shs : List Sh} {xs : List AV} {obs : List Ob}, out0s V ds shs = some (xs, obs) → (∀ p ∈ obs, p.p) → xs.length = shs.length ∧ ds.length = shs.length ∧ ∀ i, i < shs.length → ∃ o, out0 V (ds.getD i .any) (shs.getD i .sc) = some (xs.getD i default, o) ∧ ∀ p ∈ o, p.p
  | [], [], xs, obs, h, _ => by
    simp only [out0s, Option.some.injEq, Prod.mk.injEq] at h
    obtain ⟨rfl, rfl⟩ := h
    exact ⟨rfl, rfl, fun i hi => absurd hi (by simp)⟩
  | d :: ds, sh :: l, xs, obs, h, hobs => by
    simp only [out0s] at h
    split at h
    · rename_i x o xs' os h1 h2
      simp only [Option.some.injEq, Prod.mk.injEq] at h
      obtain ⟨rfl, rfl⟩ := h
      obtain ⟨q1, q2, q3⟩ := out0s_ok h2 (fun p hp => hobs p (List.mem_append_right _ hp))
      refine ⟨by simp [q1], by simp [q2], fun i hi => ?_⟩
      cases i with
      | zero => exact ⟨o, h1, fun p hp => hobs p (List.mem_append_left _ hp)⟩
      | succ i =>
        obtain ⟨o', q4, q5⟩ := q3 i (by simpa using hi)
        exact ⟨o', by simpa using q4, q5⟩
    · cases h
  | [], _ :: _, xs, obs, h, _ => by cases h
  | _ :: _, [], xs, obs, h, _ => by cases h
theorem out1s_ok {V : View} : ∀ {ds : List DE} {shs : List Sh} {xs : List AV} {obs : List Ob}, out1s V ds shs = some (xs, obs) → (∀ p ∈ obs, p.p) → xs.length = shs.length ∧ ds.length = shs.length ∧ ∀ i, i < shs.length → ∃ o, out1 V (ds.getD i .any) (shs.getD i .sc) = some (xs.getD i default, o) ∧ ∀ p ∈ o, p.p
  | [], [], xs, obs, h, _ => by
    simp only [out1s, Option.some.injEq, Prod.mk.injEq] at h
    obtain ⟨rfl, rfl⟩ := h
    exact ⟨rfl, rfl, fun i hi => absurd hi (by simp)⟩
  | d :: ds, sh :: l, xs, obs, h, hobs => by
    simp only [out1s] at h
    split at h
    · rename_i x o xs' os h1 h2
      simp only [Option.some.injEq, Prod.mk.injEq] at h
      obtain ⟨rfl, rfl⟩ := h
      obtain ⟨q1, q2, q3⟩ := out1s_ok h2 (fun p hp => hobs p (List.mem_append_right _ hp))
      refine ⟨by simp [q1], by simp [q2], fun i hi => ?_⟩
      cases i with
      | zero => exact ⟨o, h1, fun p hp => hobs p (List.mem_append_left _ hp)⟩
      | succ i =>
        obtain ⟨o', q4, q5⟩ := q3 i (by simpa using hi)
        exact ⟨o', by simpa using q4, q5⟩
    · cases h
  | [], _ :: _, xs, obs, h, _ => by cases h
  | _ :: _, [], xs, obs, h, _ => by cases h
/-- The cells are plain. -/
def V0 (σ : DS) (cs : List DE) (xs : List AV) : Prop := σ.fview.pcs cs = some (xs, [])
theorem out1_ok (h : HS base w0 ok0 σ ρ a w) {okn : Nat → Prop} (hokn : ∀ g, okF base ok0 σ.blk ρ g → okn g) {d : DE} {v : Value} (hd : RD w (okF base ok0 σ.blk ρ) ρ σ.blk (fun n => n < σ.clk) d v) {sh : Sh} {x : AV} {obs : List Ob} (ho : out1 σ.fview d sh = some (x, obs)) (hobs : ∀ p ∈ obs, p.p) : RS1 w okn base x v sh := by
  have hV := fview_ok σ
  have hagg : ∀ cs xs, V0 σ cs xs → ∀ vs : Array Value, vs.size = cs.length → (∀ i, i < cs.length → (vs.getD i undef).oneCell' = true) → (∀ i, i < cs.length → RD w (okF base ok0 σ.blk ρ) ρ σ.blk (fun n => n < σ.clk) (cs.getD i .any) (vs.getD i undef)) → RV w (okF base ok0 σ.blk ρ) (.agg xs) (.agg vs) := fun cs xs hp vs h1 h2 h3 => by
    obtain ⟨p1, p2⟩ := pcs_get hp
    refine .agg xs vs (by rw [h1, p1]) (fun i hi => h2 i (p1 ▸ hi)) fun i hi => ?_
    obtain ⟨r', z1, z2⟩ := p2 i (p1 ▸ hi)
    obtain rfl : r' = [] := by
      cases r' with
      | nil => rfl
      | cons q _ => exact absurd (z2 q (by simp)) (by simp)
    exact pc_ok' hV h (h3 i (p1 ▸ hi)) z1
  cases sh with
  | agg shs =>
    simp only [out1] at ho
    split at ho
    · rename_i cs
      cases hq : out0s σ.fview cs shs with
      | none => rw [hq] at ho; cases ho
      | some q =>
        obtain ⟨xs, o⟩ := q
        rw [hq] at ho
        simp only [Option.map_some, Option.some.injEq, Prod.mk.injEq] at ho
        obtain ⟨rfl, rfl⟩ := ho
        obtain ⟨q1, q2, q3⟩ := out0s_ok hq hobs
        cases hd with
        | agg _ vs h1 h2 h3 =>
          refine ⟨vs, rfl, by rw [h1, q2], ⟨xs, rfl, q1⟩, fun i hi => ⟨h2 i (q2 ▸ hi), ?_⟩⟩
          obtain ⟨o', z1, z2⟩ := q3 i hi
          exact out0_ok h hokn (h3 i (q2 ▸ hi)) z1 z2
    · cases ho
  | sc =>
    simp only [out1] at ho
    split at ho
    · rename_i cs
      split at ho
      · rename_i xs _ hp
        simp only [Option.some.injEq, Prod.mk.injEq] at ho
        obtain ⟨rfl, rfl⟩ := ho
        cases hd with
        | agg _ vs h1 h2 h3 => exact flat_rv (hagg cs xs hp vs h1 h2 h3) (ob1 hobs)
      · rename_i hh _; cases hh
      · cases ho
    · exact out0_ok (sh := .sc) h hokn hd ho hobs
  | p =>
    simp only [out1] at ho
    split at ho
    · rename_i cs
      split at ho
      · rename_i hh _; cases hh
      · rename_i xs _ hp
        simp only [Option.some.injEq, Prod.mk.injEq] at ho
        obtain ⟨rfl, rfl⟩ := ho
        cases hd with
        | agg _ vs h1 h2 h3 => exact (hagg cs xs hp vs h1 h2 h3).mono fun g hg _ => ⟨hokn g hg, rfl⟩
      · cases ho
    · exact out0_ok (sh := .p) h hokn hd ho hobs
  | row e s f =>
    simp only [out1] at ho
    split at ho
    · cases ho
    · exact out0_ok (sh := .row e s f) h hokn hd ho hobs
  | tup vs =>
    simp only [out1] at ho
    split at ho
    · cases ho
    · cases ho
theorem out2_ok (h : HS base w0 ok0 σ ρ a w) {okn : Nat → Prop} (hokn : ∀ g, okF base ok0 σ.blk ρ g → okn g) {d : DE} {v : Value} (hd : RD w (okF base ok0 σ.blk ρ) ρ σ.blk (fun n => n < σ.clk) d v) {sh : Sh} {x : AV} {obs : List Ob} (ho : out2 σ.fview d sh = some (x, obs)) (hobs : ∀ p ∈ obs, p.p) : RS2 w okn base x v sh := by
  cases sh with
  | tup shs =>
    simp only [out2] at ho
    split at ho
    · rename_i ds
      cases hq : out1s σ.fview ds shs with
      | none => rw [hq] at ho; cases ho
      | some q =>
        obtain ⟨xs, o⟩ := q
        rw [hq] at ho
        simp only [Option.map_some, Option.some.injEq, Prod.mk.injEq] at ho
        obtain ⟨rfl, rfl⟩ := ho
        obtain ⟨q1, q2, q3⟩ := out1s_ok hq hobs
        cases hd with
        | tup _ vs h1 h3 =>
          refine ⟨vs, rfl, by rw [h1, q2], ⟨xs, rfl, q1⟩, fun i hi => ?_⟩
          obtain ⟨o', z1, z2⟩ := q3 i hi
          exact out1_ok h hokn (h3 i (q2 ▸ hi)) z1 z2
    · cases ho
  | agg cs => exact out1_ok (sh := .agg cs) h hokn hd ho hobs
  | row e s f => exact out1_ok (sh := .row e s f) h hokn hd ho hobs
  | sc => exact out1_ok (sh := .sc) h hokn hd ho hobs
  | p => exact out1_ok (sh := .p) h hokn hd ho hobs
/-- A row among what goes out. -/
theorem out0_row (h : HS base w0 ok0 σ ρ a w) {d : DE} {v : Value} (hd : RD w (okF base ok0 σ.blk ρ) ρ σ.blk (fun n => n < σ.clk) d v) {e s : Nat} {f : Bool} {x : AV} {obs : List Ob} (ho : out0 σ.fview d (.row e s f) = some (x, obs)) :
    v.ownBlock = none ∨ ∃ b n, d = .row b n ∧ isLive (σ.blk b) = true ∧ v.ownBlock = blkNo (ρ b) := by
  simp only [out0] at ho
  split at ho
  · cases hd; exact .inl rfl
  · rename_i b n
    split at ho
    · rename_i e2 s2 m y hb
      split at ho
      · rename_i hc
        obtain ⟨rfl, rfl, rfl⟩ := hc
        have hb' : σ.blk b = .row e2 s2 m y := hb
        cases hd with
        | row _ _ _ hn h1 hs =>
          have hv := hs (by rw [hb']; rfl)
          subst hv
          exact .inr ⟨b, m, rfl, by rw [hb']; rfl, (h.row hb').blkNo_eq⟩
      · cases ho
    · cases ho
  · cases ho
theorem out1_row (h : HS base w0 ok0 σ ρ a w) {d : DE} {v : Value} (hd : RD w (okF base ok0 σ.blk ρ) ρ σ.blk (fun n => n < σ.clk) d v) {sh : Sh} {x : AV} {obs : List Ob} (ho : out1 σ.fview d sh = some (x, obs)) (hobs : ∀ p ∈ obs, p.p) {i : Nat} (hr : isRow (leafSh1 i sh) = true) :
    (leafVal1 v i sh).ownBlock = none ∨ ∃ b n, leafDE1 d i sh = .row b n ∧ isLive (σ.blk b) = true ∧ (leafVal1 v i sh).ownBlock = blkNo (ρ b) := by
  cases sh with
  | agg shs =>
    simp only [out1] at ho
    split at ho
    · rename_i cs
      cases hq : out0s σ.fview cs shs with
      | none => rw [hq] at ho; cases ho
      | some q =>
        obtain ⟨xs, o⟩ := q
        rw [hq] at ho
        simp only [Option.map_some, Option.some.injEq, Prod.mk.injEq] at ho
        obtain ⟨rfl, rfl⟩ := ho
        obtain ⟨q1, q2, q3⟩ := out0s_ok hq hobs
        cases hd with
        | agg _ vs h1 h2 h3 =>
          have hi : i < shs.length := by
            rcases Nat.lt_or_ge i shs.length with q | q
            · exact q
            · simp only [leafSh1] at hr
              rw [List.getD_eq_getElem?_getD, List.getElem?_eq_none q] at hr; cases hr
          obtain ⟨o', z1, z2⟩ := q3 i hi
          have hr' : isRow (shs.getD i .sc) = true := hr
          cases hsh : shs.getD i .sc with
          | row e s f =>
            rw [hsh] at z1
            exact out0_row h (h3 i (q2 ▸ hi)) z1
          | _ => rw [hsh] at hr'; cases hr'
    · cases ho
  | row e s f =>
    simp only [out1] at ho
    split at ho
    · cases ho
    · exact out0_row h hd ho
  | sc => simp only [leafSh1] at hr; split at hr <;> cases hr
  | p => simp only [leafSh1] at hr; split at hr <;> cases hr
  | tup vs => simp only [leafSh1] at hr; split at hr <;> cases hr
theorem out2_row (h : HS base w0 ok0 σ ρ a w) {d : DE} {v : Value} (hd : RD w (okF base ok0 σ.blk ρ) ρ σ.blk (fun n => n < σ.clk) d v) {sh : Sh} {x : AV} {obs : List Ob} (ho : out2 σ.fview d sh = some (x, obs)) (hobs : ∀ p ∈ obs, p.p) {j i : Nat} (hr : isRow (leafSh j i sh) = true) :
    (leafVal v j i sh).ownBlock = none ∨ ∃ b n, leafDE d j i sh = .row b n ∧ isLive (σ.blk b) = true ∧ (leafVal v j i sh).ownBlock = blkNo (ρ b) := by
  have hone : ∀ sh : Sh, out1 σ.fview d sh = some (x, obs) → isRow (if j = 0 then leafSh1 i sh else .sc) = true → (leafVal1 v i sh).ownBlock = none ∨ ∃ b n, leafDE1 d i sh = .row b n ∧ isLive (σ.blk b) = true ∧ (leafVal1 v i sh).ownBlock = blkNo (ρ b) := fun sh h1 h2 => by
    split at h2
    · exact out1_row h hd h1 hobs h2
    · cases h2
  cases sh with
  | tup shs =>
    simp only [out2] at ho
    split at ho
    · rename_i ds
      cases hq : out1s σ.fview ds shs with
      | none => rw [hq] at ho; cases ho
      | some q =>
        obtain ⟨xs, o⟩ := q
        rw [hq] at ho
        simp only [Option.map_some, Option.some.injEq, Prod.mk.injEq] at ho
        obtain ⟨rfl, rfl⟩ := ho
        obtain ⟨q1, q2, q3⟩ := out1s_ok hq hobs
        cases hd with
        | tup _ vs h1 h3 =>
          have hr' : isRow (leafSh1 i (shs.getD j .sc)) = true := hr
          have hj : j < shs.length := by
            cases hsh : leafSh1 i (shs.getD j .sc) with
            | row e s f => exact leaf_lt hsh
            | _ => rw [hsh] at hr'; cases hr'
          obtain ⟨o', z1, z2⟩ := q3 j hj
          exact out1_row h (h3 j (q2 ▸ hj)) z1 z2 hr'
    · cases ho
  | agg cs => exact hone (.agg cs) ho hr
  | row e s f => exact hone (.row e s f) ho hr
  | sc => exact hone .sc ho hr
  | p => exact hone .p ho hr
theorem filterMap_inj {α : Type} {f : α → Option Nat} : ∀ {l : List α}, (l.filterMap f).Nodup → ∀ {p q : α}, p ∈ l → q ∈ l → ∀ {b : Nat}, f p = some b → f q = some b → l.Nodup → p = q
  | [], _, p, q, hp, _, _, _, _, _ => by cases hp
  | x :: l, hn, p, q, hp, hq, b, h1, h2, hl => by
    have hmem : ∀ y, y ∈ l → f y = some b → b ∈ l.filterMap f := fun y hy hb => List.mem_filterMap.2 ⟨y, hy, hb⟩
    rw [List.filterMap_cons] at hn
    rcases List.mem_cons.1 hp with rfl | hp'
    · rcases List.mem_cons.1 hq with rfl | hq'
      · rfl
      · rw [h1] at hn
        exact absurd (hmem q hq' h2) (List.nodup_cons.1 hn).1
    · rcases List.mem_cons.1 hq with rfl | hq'
      · rw [h2] at hn
        exact absurd (hmem p hp' h1) (List.nodup_cons.1 hn).1
      · have hn' : (l.filterMap f).Nodup := by
          split at hn
          · exact hn
          · exact (List.nodup_cons.1 hn).2
        exact filterMap_inj hn' hp' hq' h1 h2 (List.nodup_cons.1 hl).2
theorem paths_mem {j i : Nat} (hj : j < 8) (hi : i < 8) : (j, i) ∈ paths := List.mem_flatMap.2 ⟨j, by simpa using hj, List.mem_map.2 ⟨i, by simpa using hi, rfl⟩⟩
theorem paths_nodup : paths.Nodup := by decide
/-- **A function's contract**: the run of its text is all that it takes. -/
theorem fn_of_run (hm : P.follows .mixedOrders = true) {n : Nat} (hinl : InlOk P (inF P Γ ann n)) (hfr : InlFr (inF P Γ ann n)) {f : FuncId} {fn : Func} {c : Code} (hf : P.funcs[f]? = some fn) (hb : fn.body = some c) (hent : Ent P f) {args : List AV} {orc : Orc} {sh : Sh} {r : AV} (h : fnF P Γ ann n f fn c orc args sh r) : Fn P f args sh r := by
  refine ⟨hent, fun w ok cargs hokl hgl hsz hargs => calls_marks hf hb ?_⟩
  have hlen : (args.map DE.v ++ List.replicate (fn.ntmps - args.length) (DE.c undef)).length = (cargs ++ Array.replicate (fn.ntmps - cargs.size) undef).size := by simp [hsz]
  have hblk0 : ∀ b, (DS.mk (args.map DE.v ++ List.replicate (fn.ntmps - args.length) (DE.c undef)) [] 1 orc).blk b = .dead := fun b => rfl
  have h0 : HS w.heap.size w ok (DS.mk (args.map DE.v ++ List.replicate (fn.ntmps - args.length) (DE.c undef)) [] 1 orc) (fun _ => undef) { tmps := cargs ++ Array.replicate (fn.ntmps - cargs.size) undef, defers := [] } w := by
    refine ⟨fun t => ?_, fun b => rfl, fun b b' hl => (by cases hl), fun b _ => rfl, hlen.symm, NoD.nil _ _, Below.refl _ _, Nat.le_refl _, Nat.le_refl _, hgl⟩
    by_cases ht : t < args.length
    · have e1 : (args.map DE.v ++ List.replicate (fn.ntmps - args.length) (DE.c undef)).getD t .any = .v (args.getD t default) := by
        rw [List.getD_eq_getElem?_getD, List.getElem?_append_left (by simpa using ht), List.getElem?_map, List.getElem?_eq_getElem ht, List.getD_eq_getElem?_getD, List.getElem?_eq_getElem ht]; rfl
      have e2 : (cargs ++ Array.replicate (fn.ntmps - cargs.size) undef).getD t undef = cargs.getD t undef := by
        rw [Array.getD_eq_getD_getElem?, Array.getElem?_append, if_pos (by omega), ← Array.getD_eq_getD_getElem?]
      show RD _ _ _ _ _ ((args.map DE.v ++ List.replicate (fn.ntmps - args.length) (DE.c undef)).getD t .any) ((cargs ++ Array.replicate (fn.ntmps - cargs.size) undef).getD t undef)
      rw [e1, e2]
      exact .v _ _ ((hargs t ht).mono fun g hg hlt => ⟨⟨fun _ => hg, fun b hl => by cases hl⟩, rfl⟩)
    · by_cases ht2 : t < fn.ntmps
      · have e1 : (args.map DE.v ++ List.replicate (fn.ntmps - args.length) (DE.c undef)).getD t .any = .c undef := by
          rw [List.getD_eq_getElem?_getD, List.getElem?_append_right (by simpa using ht), List.getElem?_replicate]
          rw [if_pos (by simp; omega)]; rfl
        have e2 : (cargs ++ Array.replicate (fn.ntmps - cargs.size) undef).getD t undef = undef := by
          rw [Array.getD_eq_getD_getElem?, Array.getElem?_append, if_neg (by omega), Array.getElem?_replicate]
          split <;> rfl
        show RD _ _ _ _ _ ((args.map DE.v ++ List.replicate (fn.ntmps - args.length) (DE.c undef)).getD t .any) ((cargs ++ Array.replicate (fn.ntmps - cargs.size) undef).getD t undef)
        rw [e1, e2]; exact .c _
      · have e1 : (args.map DE.v ++ List.replicate (fn.ntmps - args.length) (DE.c undef)).getD t .any = .any := by
          rw [List.getD_eq_getElem?_getD, List.getElem?_eq_none (by simp; omega)]; rfl
        show RD _ _ _ _ _ ((args.map DE.v ++ List.replicate (fn.ntmps - args.length) (DE.c undef)).getD t .any) _
        rw [e1]; exact .any _
  refine runC_sound hm hinl hfr c _ _ _ _ w _ h h0 fun e σ' ρ' a' w' hk h' => ?_
  obtain ⟨Ds, hD1, hD2, hD3, h'⟩ := HR.unmark h'
  split at hk
  · rename_i hex
    split at hk
    · rename_i d hd
      split at hk
      · rename_i x obs hout
        split at hk
        · rename_i hck
          rw [Bool.and_eq_true] at hck
          have hnd : (rowIds d sh).Nodup := of_decide_eq_true hck.1
          obtain ⟨hobs, hxr⟩ := obsF_iff hk
          have hxr : x = r := hxr
          subst hxr
          obtain ⟨v, hv1, hv2⟩ := resultD_ok h' hd
          have hp : Below w.heap.size w (turned Ds w') ∧ RS2 (turned Ds w') (okNew ok w.heap.size v sh) w.heap.size x v sh ∧ RowsApart v sh ∧ w.drawn ≤ (turned Ds w').drawn := by
            refine ⟨h'.bel, out2_ok h' (fun g hg => ?_) hv2 hout hobs, ?_, h'.drw⟩
            · rcases Nat.lt_or_ge g w.heap.size with q | q
              · exact .inl (hg.1 q)
              · refine .inr ⟨q, ?_⟩
                rintro ⟨j, i, hr, he⟩
                rcases out2_row h' hv2 hout hobs hr with z | ⟨b, n, _, hl, z⟩
                · rw [z] at he; cases he
                · rw [z] at he; exact hg.2 b hl he
            · intro j i j' i' hr hr' hne g hg hg'
              rcases out2_row h' hv2 hout hobs hr with z | ⟨b, n, hd1, hl, z⟩
              · rw [z] at hg; cases hg
              · rcases out2_row h' hv2 hout hobs hr' with z' | ⟨b', n', hd1', hl', z'⟩
                · rw [z'] at hg'; cases hg'
                · rw [z] at hg
                  rw [z'] at hg'
                  have hbb : b = b' := Classical.byContradiction fun q => h'.inj b b' hl hl' q g hg hg'
                  subst hbb
                  have hlt : ∀ j i, isRow (leafSh j i sh) = true → j < 8 ∧ i < 8 := fun j i hr => by
                    cases hk : leafSh j i sh with
                    | row e s f => exact small_leaf hck.2 hk
                    | _ => rw [hk] at hr; cases hr
                  have r1 : rowId d sh (j, i) = some b := by unfold rowId; simp only [hr, if_true, hd1]
                  have r2 : rowId d sh (j', i') = some b := by unfold rowId; simp only [hr', if_true, hd1']
                  have := filterMap_inj hnd (paths_mem (hlt j i hr).1 (hlt j i hr).2) (paths_mem (hlt j' i' hr').1 (hlt j' i' hr').2) r1 r2 paths_nodup
                  injection this with q1 q2
                  rcases hne with q | q
                  · exact q q1
                  · exact q q2
          cases e with
          | normal => exact ⟨Ds, hD1, hD2, hD3, v, hv1, v, rfl, hp⟩
          | ret => exact ⟨Ds, hD1, hD2, hD3, v, hv1, v, rfl, hp⟩
          | exit i => cases hex
          | goto i => cases hex
          | panic i => cases hex
          | outgrown => cases hex
        · exact hk.elim
      · exact hk.elim
    · exact hk.elim
  · exact hk.elim
end
end Go.Proofs.Ytaomlgfamnfcjaa
/- Calls that hand out values to visitors: the run's word for them is sound. -/
namespace Go.Proofs.Ytaomlgfamnfcjaa
open Go.RowKit
set_option linter.unusedVariables false
set_option linter.unusedSimpArgs false
theorem updB_one (blk : Nat → DB) (b : Nat) (d : DB) : updB blk [(b, d)] b = d := by simp [updB]
theorem updB_ne (blk : Nat → DB) (b : Nat) (d : DB) {c : Nat} (h : c ≠ b) : updB blk [(b, d)] c = blk c := updB_of_not (by simp [h])
section
variable {base : Nat} {w0 : World} {ok0 : Nat → Prop} {ρ : Nat → Value} {a : Act} {w : World}
/-- A block that keeps something beside. -/
theorem sv_add {σ : DS} {ds : List DE} {vs : Array Value} (h : HS base w0 ok0 σ ρ a w) (hsz : vs.size = ds.length) (hrd : ∀ t, RD w (okF base ok0 σ.blk ρ) ρ σ.blk (fun n => n < σ.clk) (ds.getD t .any) (vs.getD t undef)) :
    HS base w0 ok0 ⟨σ.tm, (σ.clk, .sv ds vs) :: σ.bl, σ.clk + 64, σ.orc⟩ ρ a w := by
  have hdead : σ.blk σ.clk = .dead := h.frs σ.clk (fun q => Nat.lt_irrefl _ q)
  have hund : ρ σ.clk = undef := by have := h.blks σ.clk; rw [hdead] at this; exact this
  have hb1 : (DS.mk σ.tm ((σ.clk, .sv ds vs) :: σ.bl) (σ.clk + 64) σ.orc).blk = updB σ.blk [(σ.clk, .sv ds vs)] := blk_app σ [(σ.clk, .sv ds vs)] _ _ _
  show HR base w0 ok0 (fun n => n < σ.clk + 64) σ.tm (DS.mk σ.tm ((σ.clk, .sv ds vs) :: σ.bl) (σ.clk + 64) σ.orc).blk ρ a w
  rw [hb1]
  refine HR.step h (fun b => b = σ.clk) (fun b hc => updB_ne _ _ _ hc) (fun b _ => rfl) (fun b t cs _ _ => rfl) (fun b n x hc e => by rw [hc, hdead] at e; cases e)
    (fun n hn => by have : n < σ.clk := hn; show n < σ.clk + 64; omega) (fun b hc => by show b < σ.clk + 64; rw [hc]; omega) (fun b n hc _ hst => by rw [hc, updB_one] at hst; cases hst) (Nat.le_refl _) (fun _ _ _ => rfl)
    (fun b hc hl => by rw [hc, updB_one] at hl; cases hl) (fun b b' hc _ hl => by rw [hc, updB_one] at hl; cases hl) rfl rfl rfl (fun H1 H5 b hc => ?_) (fun H1 t => .inl ⟨rfl, rfl⟩) h.size rfl
  rw [hc, updB_one]
  exact ⟨hund, hsz, fun t => H5 _ _ (hrd t)⟩
/-- It keeps something else. -/
theorem sv_swap {σ1 σ2 : DS} {b0 : Nat} (htm : σ2.tm = σ1.tm) (hclk : σ2.clk = σ1.clk) (hne : ∀ b, b ≠ b0 → σ2.blk b = σ1.blk b) {ds1 ds2 : List DE} {vs1 vs2 : Array Value} (h1 : σ1.blk b0 = .sv ds1 vs1) (h2 : σ2.blk b0 = .sv ds2 vs2) (hsz : vs2.size = ds2.length)
    (h : HS base w0 ok0 σ1 ρ a w) (hrd : ∀ t, RD w (okF base ok0 σ1.blk ρ) ρ σ1.blk (fun n => n < σ1.clk) (ds2.getD t .any) (vs2.getD t undef)) : HS base w0 ok0 σ2 ρ a w := by
  show HR base w0 ok0 (fun n => n < σ2.clk) σ2.tm σ2.blk ρ a w
  rw [htm, hclk]
  refine HR.step h (fun b => b = b0) (fun b hc => hne b hc) (fun b _ => rfl) (fun b t cs _ _ => rfl) (fun b n x hc e => by rw [hc, h1] at e; cases e)
    (fun n hn => hn) (fun b hc => Classical.byContradiction fun q => by have := h.frs b q; rw [hc, h1] at this; cases this) (fun b n hc _ hst => by rw [hc, h2] at hst; cases hst) (Nat.le_refl _) (fun _ _ _ => rfl)
    (fun b hc hl => by rw [hc, h2] at hl; cases hl) (fun b b' hc _ hl => by rw [hc, h2] at hl; cases hl) rfl rfl rfl (fun H1 H5 b hc => ?_) (fun H1 t => .inl ⟨rfl, rfl⟩) h.size rfl
  have hB := h.blks b0
  rw [h1] at hB
  rw [hc, h2]
  exact ⟨hB.1, hsz, fun t => H5 _ _ (hrd t)⟩
theorem sv_kill {σ : DS} {b0 : Nat} {ds : List DE} {vs : Array Value} (h1 : σ.blk b0 = .sv ds vs) (h : HS base w0 ok0 σ ρ a w) : HS base w0 ok0 ⟨σ.tm, (b0, .dead) :: σ.bl, σ.clk, σ.orc⟩ ρ a w := by
  have hb1 : (DS.mk σ.tm ((b0, .dead) :: σ.bl) σ.clk σ.orc).blk = updB σ.blk [(b0, .dead)] := blk_app σ [(b0, .dead)] _ _ _
  show HR base w0 ok0 (fun n => n < σ.clk) σ.tm (DS.mk σ.tm ((b0, .dead) :: σ.bl) σ.clk σ.orc).blk ρ a w
  rw [hb1]
  refine HR.step h (fun b => b = b0) (fun b hc => updB_ne _ _ _ hc) (fun b _ => rfl) (fun b t cs _ _ => rfl) (fun b n x hc e => by rw [hc, h1] at e; cases e)
    (fun n hn => hn) (fun b hc => Classical.byContradiction fun q => by have := h.frs b q; rw [hc, h1] at this; cases this) (fun b n hc _ hst => by rw [hc, updB_one] at hst; cases hst) (Nat.le_refl _) (fun _ _ _ => rfl)
    (fun b hc hl => by rw [hc, updB_one] at hl; cases hl) (fun b b' hc _ hl => by rw [hc, updB_one] at hl; cases hl) rfl rfl rfl (fun H1 H5 b hc => ?_) (fun H1 t => .inl ⟨rfl, rfl⟩) h.size rfl
  have hB := h.blks b0
  rw [h1] at hB
  rw [hc, updB_one]
  exact hB.1
theorem rowify_sv {b : Nat} {ds : List DE} {vs : Array Value} : ∀ (l : List (Nat × Nat × TypeId × Nat)) {σ : DS} {ρ : Nat → Value}, HS base w0 ok0 σ ρ a w → σ.blk b = .sv ds vs → (rowify l σ).blk b = .sv ds vs
  | [], _, _, _, hb => hb
  | q :: l, σ, ρ, h, hb => by
    obtain ⟨ρ1, h1⟩ := rowify1_ok q h
    refine rowify_sv l h1 ?_
    unfold rowify1
    split
    · rename_i t cs hq
      split
      · have hdead : σ.blk σ.clk = .dead := h.frs σ.clk (fun q => Nat.lt_irrefl _ q)
        have e1 : b ≠ q.1 := fun e => by rw [e, hq] at hb; cases hb
        have e2 : b ≠ σ.clk := fun e => by rw [e, hdead] at hb; cases hb
        have : ∀ (l : List (Nat × DB)) (c : Nat) (o : Orc), (DS.mk σ.tm ((q.1, .cells t (cs.set q.2.1 (.row σ.clk σ.clk))) :: (σ.clk, .row q.2.2.1 q.2.2.2 σ.clk (AV.mk q.2.2.2 [])) :: σ.bl) c o).blk b = σ.blk b := fun _ c o => by
          have := blk_app σ [(q.1, .cells t (cs.set q.2.1 (.row σ.clk σ.clk))), (σ.clk, .row q.2.2.1 q.2.2.2 σ.clk (AV.mk q.2.2.2 []))] σ.tm c o
          have e3 := congrFun this b
          rw [updB_cons, updB_cons, if_neg e1, if_neg e2] at e3
          exact e3
        exact (this [] _ _).trans hb
      · exact hb
    · exact hb
/-- A cell's row is frozen. -/
theorem frzCell1_ok (q : Nat × Nat) {σ : DS} (h : HS base w0 ok0 σ ρ a w) : HS base w0 ok0 (frzCell1 σ q) ρ a w := by
  have key : ∀ (σ : DS) (t : TypeId) (cs : List DE) (b n : Nat) (x : AV), HS base w0 ok0 σ ρ a w → σ.blk q.1 = .cells t cs → cs.getD q.2 .any = .row b n → σ.blk b = .fz n x → HS base w0 ok0 { σ with bl := (q.1, .cells t (cs.set q.2 (.v x))) :: σ.bl } ρ a w := fun σ t cs b n x h hb hc hf => by
    have ho : q.2 < cs.length := Classical.byContradiction fun g => by
      rw [List.getD_eq_getElem?_getD, List.getElem?_eq_none (by omega)] at hc
      cases hc
    have hb1 : (DS.mk σ.tm ((q.1, .cells t (cs.set q.2 (.v x))) :: σ.bl) σ.clk σ.orc).blk = updB σ.blk [(q.1, .cells t (cs.set q.2 (.v x)))] := blk_app σ [(q.1, .cells t (cs.set q.2 (.v x)))] _ _ _
    show HR base w0 ok0 (fun n => n < σ.clk) σ.tm (DS.mk σ.tm ((q.1, .cells t (cs.set q.2 (.v x))) :: σ.bl) σ.clk σ.orc).blk ρ a w
    rw [hb1]
    refine HR.step h (fun b => b = q.1) (fun b hc => updB_ne _ _ _ hc) (fun b _ => rfl) (fun b t cs _ _ => rfl) (fun b n x hc e => by rw [hc, hb] at e; cases e)
      (fun n hn => hn) (fun c hc => Classical.byContradiction fun q => by have := h.frs c q; rw [hc, hb] at this; cases this) (fun b n hc _ hst => by rw [hc, updB_one] at hst; cases hst) (Nat.le_refl _) (fun _ _ _ => rfl)
      (fun c hc hl g hg => .inl ⟨by rw [hc, hb]; rfl, hg⟩) (fun c c' hc hc' _ _ hne => absurd (hc.trans hc'.symm) hne) rfl rfl rfl (fun H1 H5 c hc' => ?_) (fun H1 t => .inl ⟨rfl, rfl⟩) h.size rfl
    have hB := h.blks q.1
    rw [hb] at hB
    obtain ⟨g, vs, e1, e2, e3, e4, e5, e6⟩ := hB
    rw [hc', updB_one]
    refine ⟨g, vs, e1, e2, e3, by rw [List.length_set]; exact e4, fun i hi => e5 i (by rw [List.length_set] at hi; exact hi), fun i hi => ?_⟩
    have hi' : i < cs.length := by rw [List.length_set] at hi; exact hi
    by_cases hio : i = q.2
    · subst hio
      have hv := e6 _ hi'
      rw [hc] at hv
      have e7 : (cs.set q.2 (.v x)).getD q.2 .any = .v x := by
        rw [List.getD_eq_getElem?_getD, List.getElem?_set_self ho]; rfl
      rw [e7]
      refine H5 _ _ ?_
      have hF := h.blks b
      rw [hf] at hF
      generalize vs.getD q.2 undef = u at hv
      cases hv with
      | row _ _ _ hn h1 hs =>
        rw [hs (by rw [hf]; rfl)]
        exact .v _ _ hF.2.1
    · have e7 : (cs.set q.2 (.v x)).getD i .any = cs.getD i .any := by
        rw [List.getD_eq_getElem?_getD, List.getElem?_set_ne (Ne.symm hio), List.getD_eq_getElem?_getD]
      rw [e7]
      exact H5 _ _ (e6 i hi')
  unfold frzCell1
  split
  · rename_i t cs hb
    split
    · rename_i b n hc
      split
      · rename_i e s m x hr
        split
        · rename_i hmn
          obtain ⟨rfl, hne⟩ := hmn
          have hf := HR.freeze (fview_ok σ) h [b]
          have e1 : σ.fview.frz [b] = [(b, .fz m x)] := by
            have hb' : σ.fview.bl b = .row e s m x := hr
            simp [View.frz, hb']
          rw [e1] at hf
          have hbk : (DS.mk σ.tm ((b, .fz m x) :: σ.bl) σ.clk σ.orc).blk = updB σ.blk [(b, .fz m x)] := blk_app σ [(b, .fz m x)] _ _ _
          have h1 : HS base w0 ok0 (DS.mk σ.tm ((b, .fz m x) :: σ.bl) σ.clk σ.orc) ρ a w := by
            show HR base w0 ok0 (fun n => n < σ.clk) σ.tm (DS.mk σ.tm ((b, .fz m x) :: σ.bl) σ.clk σ.orc).blk ρ a w
            rw [hbk]; exact hf
          exact key _ t cs b m x h1 (by rw [hbk, updB_ne _ _ _ (Ne.symm hne)]; exact hb) hc (by rw [hbk, updB_one])
        · exact h
      · rename_i m x hr
        split
        · rename_i hmn
          subst hmn
          exact key σ t cs b m x h hb hc hr
        · exact h
      · exact h
    · exact h
  · exact h
theorem frzCells_ok : ∀ (l : List (Nat × Nat)) {σ : DS}, HS base w0 ok0 σ ρ a w → HS base w0 ok0 (frzCells l σ) ρ a w
  | [], _, h => h
  | q :: l, _, h => frzCells_ok l (frzCell1_ok q h)
theorem frzCell1_fr (σ : DS) (q : Nat × Nat) : FrB σ (frzCell1 σ q) ∧ (frzCell1 σ q).tm = σ.tm := by
  unfold frzCell1
  split
  · split
    · split
      · split
        · exact ⟨⟨⟨[_, _], rfl⟩, rfl, Nat.le_refl _⟩, rfl⟩
        · exact ⟨FrB.refl σ, rfl⟩
      · split
        · exact ⟨⟨⟨[_], rfl⟩, rfl, Nat.le_refl _⟩, rfl⟩
        · exact ⟨FrB.refl σ, rfl⟩
      · exact ⟨FrB.refl σ, rfl⟩
    · exact ⟨FrB.refl σ, rfl⟩
  · exact ⟨FrB.refl σ, rfl⟩
theorem frzCells_fr : ∀ (l : List (Nat × Nat)) (σ : DS), FrB σ (frzCells l σ) ∧ (frzCells l σ).tm = σ.tm
  | [], σ => ⟨FrB.refl σ, rfl⟩
  | q :: l, σ => by
    obtain ⟨h1, h2⟩ := frzCell1_fr σ q
    obtain ⟨h3, h4⟩ := frzCells_fr l (frzCell1 σ q)
    exact ⟨h1.trans h3, h4.trans h2⟩
theorem vis_tm (E : LoopEx) (σ : DS) (ys : List AV) : ((visAnn E).head σ ys).tm = σ.tm := by
  apply List.ext_getElem?
  intro t
  simp only [LoopAnn.head, List.getElem?_map, List.getElem?_zipIdx]
  cases h : σ.tm[t]? with
  | none => rfl
  | some d => simp [LoopAnn.tm, visAnn]
theorem vis_blk (E : LoopEx) (σr : DS) (Y : AV) (vs : Array Value) (ys : List AV) : ((visAnn E).head (visY σr Y vs) ys).blk σr.clk = .sv [.v Y] vs ∧
    ∀ b, b ≠ σr.clk → ((visAnn E).head (visY σr Y vs) ys).blk b = if b ∈ (visAnn E).touched then (visAnn E).blkOf ys b (σr.blk b) else σr.blk b := by
  have e : (visY σr Y vs).blk = updB σr.blk [(σr.clk, .sv [.v Y] vs)] := blk_app σr [(σr.clk, .sv [.v Y] vs)] _ _ _
  refine ⟨?_, fun b hb => ?_⟩
  · rw [head_blk, e, updB_one]
    split <;> rfl
  · rw [head_blk, e, updB_ne _ _ _ hb]
theorem okF_eq {blk blk' : Nat → DB} {b0 : Nat} (hne : ∀ b, b ≠ b0 → blk' b = blk b) (h1 : isLive (blk b0) = false) (h2 : isLive (blk' b0) = false) {g : Nat} (h : okF base ok0 blk ρ g) : okF base ok0 blk' ρ g :=
  ⟨h.1, fun b hl => by
    by_cases hb : b = b0
    · rw [hb, h2] at hl; cases hl
    · rw [hne b hb] at hl; exact h.2 b hl⟩
end
section
variable {P : Program} {inl : Inl}
theorem visEnts_iff : ∀ (l : List DE) (F : Prop), visEnts P l F ↔ (∀ vf caps, DE.fn vf caps ∈ l → Ent P vf) ∧ F
  | [], F => ⟨fun h => ⟨fun _ _ q => (by cases q), h⟩, fun h => h.2⟩
  | d :: l, F => by
    have ih := visEnts_iff l F
    cases d with
    | fn vf caps =>
      refine ⟨fun h => ⟨fun vf' caps' q => ?_, (ih.1 h.2).2⟩, fun h => ⟨h.1 vf caps (List.mem_cons_self ..), ih.2 ⟨fun vf' caps' q => h.1 vf' caps' (List.mem_cons_of_mem _ q), h.2⟩⟩⟩
      rcases List.mem_cons.1 q with e | q
      · injection e with e _; rw [e]; exact h.1
      · exact (ih.1 h.2).1 vf' caps' q
    | _ =>
      refine ⟨fun h => ⟨fun vf' caps' q => ?_, (ih.1 h).2⟩, fun h => ih.2 ⟨fun vf' caps' q => h.1 vf' caps' (List.mem_cons_of_mem _ q), h.2⟩⟩
      rcases List.mem_cons.1 q with e | q
      · cases e
      · exact (ih.1 h).1 vf' caps' q
theorem vis_frB (E : LoopEx) (args : List DE) (us : Array Value) (σ : DS) (Y : AV) (vs : Array Value) (ys : List AV) : FrB σ ((visAnn E).head (visY (rowify E.nils ⟨σ.tm, (σ.clk, .sv args us) :: σ.bl, σ.clk + 64, σ.orc⟩) Y vs) ys) := by
  have h1 : FrB σ ⟨σ.tm, (σ.clk, .sv args us) :: σ.bl, σ.clk + 64, σ.orc⟩ := ⟨⟨[_], rfl⟩, rfl, Nat.le_add_right _ _⟩
  have h2 := (rowify_fr E.nils ⟨σ.tm, (σ.clk, .sv args us) :: σ.bl, σ.clk + 64, σ.orc⟩).1
  generalize rowify E.nils ⟨σ.tm, (σ.clk, .sv args us) :: σ.bl, σ.clk + 64, σ.orc⟩ = σr at *
  have h3 : FrB σr (visY σr Y vs) := ⟨⟨[_], rfl⟩, rfl, Nat.le_add_right _ _⟩
  exact ((h1.trans h2).trans h3).trans (head_frB _ _ _)
theorem visF_fr (E : LoopEx) (rs : List Nat) (f : FuncId) (args : List DE) (σ : DS) (K K' : DE → DS → Prop) (h : visF P E inl rs f args σ K) (hK : ∀ d σ', K d σ' → FrB σ σ' → σ'.tm = σ.tm → K' d σ') : visF P E inl rs f args σ K' := by
  intro us
  have h := h us
  have hfb := fun ys => vis_frB E args us σ (.lit undef) #[undef] ys
  simp only at h ⊢
  generalize rowify E.nils ⟨σ.tm, (σ.clk, .sv args us) :: σ.bl, σ.clk + 64, σ.orc⟩ = σr at *
  split at h
  · rename_i ys0 hys
    split at h
    · rename_i xs hxs
      split at h
      · rename_i hck
        obtain ⟨hen, evs, hvi, Inv, h0, hb, hk⟩ := (visEnts_iff _ _).1 h
        simp only [hxs, hck, if_true]
        refine (visEnts_iff _ _).2 ⟨hen, evs, hvi, Inv, h0, hb, fun ys e1 e2 => hK _ _ (hk ys e1 e2) ?_ rfl⟩
        obtain ⟨⟨pre, h1⟩, h2, h3⟩ := hfb ys
        exact ⟨⟨(σ.clk, .dead) :: (σr.clk, .dead) :: pre, by simp [h1]⟩, rfl, h3⟩
      · exact h.elim
    · exact h.elim
  · exact h.elim
variable {base : Nat} {w0 : World} {ok0 : Nat → Prop} {ρ : Nat → Value} {a : Act} {w : World}
theorem visF_ok (hinl : InlOk P inl) (hfr : InlFr inl) (E : LoopEx) (rs : List Nat) (f : FuncId) (args : List DE) (σ : DS) (K : DE → DS → Prop) (cargs : Array Value) (hent : Ent P f) (h : visF P E inl rs f args σ K) (hs : HS base w0 ok0 σ ρ a w) (hsz : cargs.size = args.length)
    (hargs : ∀ i, i < args.length → RD w (okF base ok0 σ.blk ρ) ρ σ.blk (fun n => n < σ.clk) (args.getD i .any) (cargs.getD i undef)) :
    Calls P f cargs w fun e w' => ∃ v, e = .returned v ∧ ∃ d σ' ρ', K d σ' ∧ HS base w0 ok0 σ' ρ' a w' ∧ RD w' (okF base ok0 σ'.blk ρ') ρ' σ'.blk (fun n => n < σ'.clk) d v := by
  have h := h cargs
  have hfb := fun ys => vis_frB E args cargs σ (.lit undef) #[undef] ys
  simp only at h
  have hsa := sv_add (ds := args) (vs := cargs) hs hsz (fun t => by
    by_cases ht : t < args.length
    · exact hargs t ht
    · rw [List.getD_eq_getElem?_getD, List.getElem?_eq_none (by omega)]
      exact .any _)
  have hba : (DS.mk σ.tm ((σ.clk, .sv args cargs) :: σ.bl) (σ.clk + 64) σ.orc).blk σ.clk = .sv args cargs := (congrFun (blk_app σ [(σ.clk, .sv args cargs)] σ.tm (σ.clk + 64) σ.orc) σ.clk).trans (updB_one _ _ _)
  obtain ⟨ρ1, hr⟩ := rowify_ok E.nils hsa
  have hsv := rowify_sv E.nils hsa hba
  obtain ⟨⟨_, _, hclk⟩, htr⟩ := rowify_fr E.nils ⟨σ.tm, (σ.clk, .sv args cargs) :: σ.bl, σ.clk + 64, σ.orc⟩
  have hclk : σ.clk + 64 ≤ (rowify E.nils ⟨σ.tm, (σ.clk, .sv args cargs) :: σ.bl, σ.clk + 64, σ.orc⟩).clk := hclk
  have htr : (rowify E.nils ⟨σ.tm, (σ.clk, .sv args cargs) :: σ.bl, σ.clk + 64, σ.orc⟩).tm = σ.tm := htr
  clear hba
  generalize rowify E.nils ⟨σ.tm, (σ.clk, .sv args cargs) :: σ.bl, σ.clk + 64, σ.orc⟩ = σr at *
  have rdY : ∀ {okf : Nat → Prop} {ρ : Nat → Value} {blk : Nat → DB} {isd : Nat → Prop} {w : World} (Y : AV) (u : Value), RV w okf Y u → ∀ t, RD w okf ρ blk isd (([DE.v Y] : List DE).getD t .any) ((#[u] : Array Value).getD t undef) := fun Y u hv t => by
    cases t with
    | zero => exact .v _ _ hv
    | succ t => exact .any _
  split at h
  · rename_i ys0 hys
    split at h
    · rename_i xs hxs
      split at h
      · rename_i hck
        simp only [Bool.and_eq_true, decide_eq_true_eq] at hck
        obtain ⟨⟨hck, hkl⟩, hfnall⟩ := hck
        obtain ⟨hen, evs, hvi, Inv, hI0, hIb, hIe⟩ := (visEnts_iff _ _).1 h
        obtain ⟨ρ2, h2⟩ := head_again hck (FrB.refl _) (FrT.refl _ _) hys (sv_add hr rfl (rdY (.lit undef) undef (.lit _)))
        have hne : σ.clk ≠ σr.clk := by omega
        have hbY : ∀ Y vs ys, ((visAnn E).head (visY σr Y vs) ys).blk σr.clk = .sv [.v Y] vs := fun Y vs ys => (vis_blk E σr Y vs ys).1
        have hbA : ∀ Y vs ys, ((visAnn E).head (visY σr Y vs) ys).blk σ.clk = .sv args cargs := fun Y vs ys => by
          rw [(vis_blk E σr Y vs ys).2 _ hne, hsv]
          split <;> rfl
        have hbN : ∀ Y vs Y' vs' ys b, b ≠ σr.clk → ((visAnn E).head (visY σr Y' vs') ys).blk b = ((visAnn E).head (visY σr Y vs) ys).blk b := fun Y vs Y' vs' ys b hb => by
          rw [(vis_blk E σr Y vs ys).2 _ hb, (vis_blk E σr Y' vs' ys).2 _ hb]
        have htm : ∀ Y vs ys, ((visAnn E).head (visY σr Y vs) ys).tm = σ.tm := fun Y vs ys => (vis_tm E _ ys).trans htr
        obtain ⟨m, hm⟩ : ∃ m, m = args.length - rs.length := ⟨_, rfl⟩
        rw [← hm] at hxs hfnall hIb hen
        have hcl : ∀ i, i < rs.length → ∃ (vf : FuncId) (vs : Array Value) (caps : List DE), args.getD (m + i) .any = .fn vf caps ∧ cargs.getD (m + i) undef = .func (.func vf) #[] vs ∧ vs.size = caps.length := fun i hi => by
          have h1 : isFnD (args.getD (m + i) .any) = true := by
            refine List.all_eq_true.1 hfnall _ ?_
            have : (args.drop m)[i]? = some (args.getD (m + i) .any) := by
              rw [List.getElem?_drop, List.getD_eq_getElem?_getD, List.getElem?_eq_getElem (by omega)]; rfl
            exact List.mem_of_getElem? this
          have h3 := hargs (m + i) (by omega)
          generalize args.getD (m + i) .any = d at h1 h3
          generalize cargs.getD (m + i) undef = u at h3
          cases h3 with
          | fn vf caps vs hl _ => exact ⟨vf, vs, caps, rfl, rfl, hl⟩
          | _ => cases h1
        have hF : ∃ F : Nat → FuncId × Array Value, ∀ i, i < rs.length → ∃ caps, args.getD (m + i) .any = .fn (F i).1 caps ∧ cargs.getD (m + i) undef = .func (.func (F i).1) #[] (F i).2 ∧ (F i).2.size = caps.length := by
          refine ⟨fun i => if hi : i < rs.length then ((hcl i hi).choose, (hcl i hi).choose_spec.choose) else (0, #[]), fun i hi => ?_⟩
          simp only [dif_pos hi]
          exact (hcl i hi).choose_spec.choose_spec
        obtain ⟨F, hF⟩ := hF
        have hcargs : cargs = cargs.extract 0 m ++ (((List.range rs.length).map F).map fun q => Value.func (.func q.1) #[] q.2).toArray := by
          apply Array.ext_getElem?
          intro i
          rw [Array.getElem?_append]
          have hes : (cargs.extract 0 m).size = m := by simp; omega
          rw [hes]
          by_cases hi : i < m
          · rw [if_pos hi, Array.getElem?_extract]
            simp; omega
          · rw [if_neg hi]
            by_cases hi2 : i - m < rs.length
            · obtain ⟨_, _, q2, _⟩ := hF (i - m) hi2
              have e : m + (i - m) = i := by omega
              rw [e, Array.getD_eq_getD_getElem?, Array.getElem?_eq_getElem (by omega)] at q2
              rw [Array.getElem?_eq_getElem (by omega)]
              simp only [List.getElem?_toArray, List.getElem?_map, List.getElem?_range hi2, Option.map_some]
              exact congrArg some q2
            · rw [Array.getElem?_eq_none (show cargs.size ≤ i by omega)]
              exact (Array.getElem?_eq_none (by simp; omega)).symm
        rw [hcargs]
        refine (hvi.2.2 ((List.range rs.length).map F) (fun pre o A => ∃ ys ρ, ys.length = ys0.length ∧ Inv pre ys ∧ HS base w0 ok0 ((visAnn E).head (visY σr (.lit undef) #[undef]) ys) ρ a A ∧ o = fun g => okR (okF base ok0 ((visAnn E).head (visY σr (.lit undef) #[undef]) ys).blk ρ) ρ [] g ∧ g < A.heap.size) w _ (cargs.extract 0 m) (by simp) (fun q hq => ?_) ?_ ?_ ?_ ?_ ⟨ys0, ρ2, rfl, hI0, h2, rfl⟩).mono ?_
        · obtain ⟨i, hi, rfl⟩ := List.mem_map.1 hq
          have hi := List.mem_range.1 hi
          obtain ⟨caps, hc1, _⟩ := hF i hi
          refine hen _ caps ?_
          have : (args.drop m)[i]? = some (.fn (F i).1 caps) := by
            rw [List.getElem?_drop, ← hc1, List.getD_eq_getElem?_getD, List.getElem?_eq_getElem (by omega)]; rfl
          exact List.mem_of_getElem? this
        · rintro s o A C ⟨ys, ρ, e1, e2, e3, rfl⟩ hbe hdr
          have hko : KeepsOthers A C := ⟨hbe.size, fun k o hk _ => (hbe.block k (Array.getElem?_eq_some_iff.1 hk).1).trans hk⟩
          have hlow := e3.low
          refine ⟨_, ⟨ys, ρ, e1, e2, HR.conv e3 (Kc.below hbe) e3.gl (e3.bel.trans (hbe.mono e3.low)) (e3.nod.trans hko) (Nat.le_trans e3.drw hdr), rfl⟩, fun g hg => ⟨hg.1, Nat.lt_of_lt_of_le hg.2 hbe.size⟩, fun g h1 h2 => ⟨.inl ⟨fun q => by omega, fun b hl e => ?_⟩, h2⟩⟩
          have := (e3.live_lt hl e).2
          omega
        · rintro s o A ⟨ys, ρ, e1, e2, e3, rfl⟩
          exact ⟨fun g hg => hg.2, e3.glob []⟩
        · rintro pre p rest o A vs Y u hxr ⟨ys, ρ, e1, e2, e3, rfl⟩ hvs hYu
          have hpm : p ∈ evs := by rw [hxr]; simp
          obtain ⟨hp1, hp2⟩ := hvi.2.1 p hpm
          have hb := hIb pre p rest ys hxr e1 e2
          have hbd : (rs.zipIdx.map fun p => visBody P E inl σr p.2 p.1 (args.getD (m + p.2) .any)).getD p.1 (fun _ _ _ => False) = visBody P E inl σr p.1 (rs.getD p.1 0) (args.getD (m + p.1) .any) := by
            rw [List.getD_eq_getElem?_getD, List.getElem?_map, List.getElem?_zipIdx, List.getElem?_eq_getElem hp1]
            simp [List.getD_eq_getElem?_getD, List.getElem?_eq_getElem hp1]
          rw [hbd] at hb
          obtain ⟨caps, hc1, hc2, hc3⟩ := hF p.1 hp1
          rw [hc1] at hb
          have hfi : ((List.range rs.length).map F).getD p.1 default = F p.1 := by
            rw [List.getD_eq_getElem?_getD, List.getElem?_map, List.getElem?_range hp1]; rfl
          rw [hfi]
          have hb2 := hb #[u] Y
          have hent' : Ent P (F p.1).1 := hen _ caps (by
            have : (args.drop m)[p.1]? = some (.fn (F p.1).1 caps) := by
              rw [List.getElem?_drop, ← hc1, List.getD_eq_getElem?_getD, List.getElem?_eq_getElem (by omega)]; rfl
            exact List.mem_of_getElem? this)
          clear hb hbd
          have hok : ∀ g, (okR (okF base ok0 ((visAnn E).head (visY σr (.lit undef) #[undef]) ys).blk ρ) ρ [] g ∧ g < A.heap.size) → okF base ok0 ((visAnn E).head (visY σr (.lit undef) #[undef]) ys).blk ρ g := fun g hg => by
            rcases hg.1 with q | ⟨b, q, _⟩
            · exact q
            · cases q
          have hsY : HS base w0 ok0 ((visAnn E).head (visY σr Y #[u]) ys) ρ a A := sv_swap (σ1 := (visAnn E).head (visY σr (.lit undef) #[undef]) ys) ((htm _ _ _).trans (htm _ _ _).symm) rfl (fun b hb => hbN _ _ _ _ _ b hb) (hbY _ _ _) (hbY _ _ _) rfl e3 (rdY Y u (hYu.mono fun g hg _ => ⟨hok g hg, rfl⟩))
          have hokY : ∀ g, okF base ok0 ((visAnn E).head (visY σr (.lit undef) #[undef]) ys).blk ρ g → okF base ok0 ((visAnn E).head (visY σr Y #[u]) ys).blk ρ g := fun g hg => okF_eq (fun b hb => hbN _ _ _ _ _ b hb) (by rw [hbY]; rfl) (by rw [hbY]; rfl) hg
          have hrdc := hsY.blks σ.clk
          rw [hbA] at hrdc
          have hrdc := hrdc.2.2 (m + p.1)
          rw [hc1, hc2] at hrdc
          have hrdcaps : ∀ i, i < caps.length → RD A (okF base ok0 ((visAnn E).head (visY σr Y #[u]) ys).blk ρ) ρ ((visAnn E).head (visY σr Y #[u]) ys).blk (fun n => n < ((visAnn E).head (visY σr Y #[u]) ys).clk) (caps.getD i .any) ((F p.1).2.getD i undef) := by
            generalize hFv : (F p.1).2 = fv at hrdc
            cases hrdc with
            | fn _ _ _ hl hc => exact hc
          have hvsz : vs.size = rs.getD p.1 0 := hvs.1.trans hp2
          refine (hinl base w0 ok0 (F p.1).1 _ _ _ ρ a A (vs ++ (F p.1).2) hent' (hfr _ _ _ _ _ hb2 (fun d σ' hk q1 q2 => (⟨hk, q1, q2⟩ : _ ∧ FrB _ σ' ∧ σ'.tm = _))) hsY (by simp [hvsz, hc3]) (fun i hi => ?_)).mono ?_
          · rw [List.length_append, List.length_map, List.length_range] at hi
            by_cases hir : i < rs.getD p.1 0
            · have e4 : ((List.range (rs.getD p.1 0)).map (fun j => DE.v (p.2.getD j default)) ++ caps).getD i .any = .v (p.2.getD i default) := by
                rw [List.getD_eq_getElem?_getD, List.getElem?_append_left (by simpa using hir), List.getElem?_map, List.getElem?_range hir]; rfl
              have e5 : (vs ++ (F p.1).2).getD i undef = vs.getD i undef := by
                rw [Array.getD_eq_getD_getElem?, Array.getElem?_append, if_pos (by omega), ← Array.getD_eq_getD_getElem?]
              rw [e4, e5]
              exact .v _ _ ((hvs.2 i (by omega)).mono fun g hg _ => ⟨hokY g (hok g hg), rfl⟩)
            · have e4 : ((List.range (rs.getD p.1 0)).map (fun j => DE.v (p.2.getD j default)) ++ caps).getD i .any = caps.getD (i - rs.getD p.1 0) .any := by
                rw [List.getD_eq_getElem?_getD, List.getElem?_append_right (by rw [List.length_map, List.length_range]; omega), List.length_map, List.length_range, ← List.getD_eq_getElem?_getD]
              have e5 : (vs ++ (F p.1).2).getD i undef = (F p.1).2.getD (i - rs.getD p.1 0) undef := by
                rw [Array.getD_eq_getD_getElem?, Array.getElem?_append, if_neg (by omega), hvsz, ← Array.getD_eq_getD_getElem?]
              rw [e4, e5]
              exact hrdcaps _ (by omega)
          · rintro e A' ⟨v, rfl, d, σ', ρ', ⟨hk', q1, q2⟩, h', _⟩
            refine ⟨⟨v, rfl⟩, ?_⟩
            split at hk'
            · rename_i zs hz
              split at hk'
              · rename_i hck2
                obtain ⟨f1, f2⟩ := frzCells_fr E.cells σ'
                have q1' : FrB ((visAnn E).head (visY σr Y #[u]) ys) σ' := ⟨q1.1, q1.2.1, q1.2.2⟩
                obtain ⟨ρ5, h5⟩ := head_again hck2 (q1'.trans f1) (fun t _ => .inl (by rw [f2, q2])) hz (frzCells_ok E.cells h')
                have h6 := head_head h5
                have h7 : HS base w0 ok0 ((visAnn E).head (visY σr (.lit undef) #[undef]) zs) ρ5 a A' := sv_swap (σ1 := (visAnn E).head (visY σr Y #[u]) zs) ((htm _ _ _).trans (htm _ _ _).symm) rfl (fun b hb => hbN _ _ _ _ _ b hb) (hbY _ _ _) (hbY _ _ _) rfl h6 (rdY (.lit undef) undef (.lit _))
                refine ⟨_, ⟨zs, ρ5, by rw [vals_len hz, vals_len hys], hk', h7, rfl⟩, ?_⟩
                have hB := h6.blks σr.clk
                rw [hbY] at hB
                have hB := hB.2.2 0
                have hB : RD A' (okF base ok0 ((visAnn E).head (visY σr Y #[u]) zs).blk ρ5) ρ5 ((visAnn E).head (visY σr Y #[u]) zs).blk _ (.v Y) u := hB
                cases hB with
                | v _ _ hv => exact hv.mono fun g hg hlt => ⟨⟨.inl (okF_eq (fun b hb => hbN _ _ _ _ _ b hb) (by rw [hbY]; rfl) (by rw [hbY]; rfl) hg), hlt⟩, rfl⟩
              · exact hk'.elim
            · exact hk'.elim
        · obtain ⟨p1, p2⟩ := pls_get hxs
          have hml : (args.take m).length = m := by rw [List.length_take]; omega
          refine ⟨by rw [p1, hml]; simp; omega, fun i hi => ?_⟩
          rw [p1, hml] at hi
          obtain ⟨r', z1, z2⟩ := p2 i (by rw [hml]; exact hi)
          have e4 : (args.take m).getD i .any = args.getD i .any := by
            rw [List.getD_eq_getElem?_getD, List.getElem?_take_of_lt hi, ← List.getD_eq_getElem?_getD]
          have e5 : (cargs.extract 0 m).getD i undef = cargs.getD i undef := by
            rw [Array.getD_eq_getD_getElem?, Array.getElem?_extract, Array.getD_eq_getD_getElem?, if_pos (by omega), Nat.zero_add]
          rw [e4] at z1
          rw [e5]
          have hB := h2.blks σ.clk
          rw [hbA] at hB
          exact (pl_ok (fview_ok _) h2 (hB.2.2 i) z1 z2).mono fun g hg hlt => ⟨⟨hg, hlt⟩, rfl⟩
        · rintro e w' ⟨rfl, o', ys, ρ3, e1, e2, e3, _⟩
          refine ⟨_, rfl, .tup [], _, ρ3, hIe ys e1 e2, ?_, .tup [] #[] rfl (fun i hi => by cases hi)⟩
          have k1 := sv_kill (hbY _ _ _) e3
          have k2 := sv_kill (b0 := σ.clk) (ds := args) (vs := cargs) (by
            exact ((congrFun (blk_app ((visAnn E).head (visY σr (.lit undef) #[undef]) ys) [(σr.clk, .dead)] _ _ _) σ.clk).trans (updB_ne _ _ _ hne)).trans (hbA _ _ _)) k1
          have k3 : HR base w0 ok0 _ _ _ ρ3 a w' := k2
          simp only [htm] at k3
          exact k3
      · exact h.elim
    · exact h.elim
  · exact h.elim
end
end Go.Proofs.Ytaomlgfamnfcjaa
/- Walking into a called function's text. -/
namespace Go.Proofs.Ytaomlgfamnfcjaa
open Go.RowKit
set_option linter.unusedVariables false
set_option linter.unusedSimpArgs false
section
variable {P : Program} {Γ : FuncId → Option Ca} {ann : FuncId → Nat → LoopEx}
theorem inF_fr : ∀ n, InlFr (inF P Γ ann n)
  | 0 => fun f args σ K K' h hK => h.elim
  | n + 1 => fun f args σ K K' h hK => by
    unfold inF at h ⊢
    by_cases hv : (ann f 999999).drop ≠ []
    · rw [if_pos hv] at h ⊢
      exact visF_fr _ _ _ _ _ _ _ h hK
    rw [if_neg hv] at h ⊢
    simp only at h ⊢
    split at h
    · exact h.elim
    · rename_i fn hf
      split at h
      · exact h.elim
      · rename_i c hb
        intro vs
        refine runC_mono (inF_fr n) c _ _ _ (h vs) fun e σ' hk hfb _ _ => ?_
        split at hk
        · rename_i hex
          rw [if_pos hex]
          split at hk
          · rename_i d hd
            split at hk
            · exact hk.elim
            · rename_i hp
              rw [if_neg hp]
              refine hK _ _ hk ?_ rfl
              obtain ⟨⟨p, hp⟩, _, h3⟩ := hfb
              exact ⟨⟨(σ.clk, .dead) :: p ++ [(σ.clk, .sv σ.tm vs)], by simp [hp]⟩, rfl, by have h3' : σ.clk + 64 ≤ σ'.clk := h3; show σ.clk ≤ σ'.clk; omega⟩
          · exact hk.elim
        · exact hk.elim
theorem inF_ok (hm : P.follows .mixedOrders = true) : ∀ n, InlOk P (inF P Γ ann n)
  | 0 => fun base w0 ok0 f args σ K ρ a w cargs hent h _ _ _ => h.elim
  | n + 1 => fun base w0 ok0 f args σ K ρ a w cargs hent h hs hsz hargs => by
    unfold inF at h
    by_cases hv : (ann f 999999).drop ≠ []
    · rw [if_pos hv] at h
      exact visF_ok (inF_ok hm n) (inF_fr n) _ _ f args σ K cargs hent h hs hsz hargs
    rw [if_neg hv] at h
    simp only at h
    split at h
    · exact h.elim
    · rename_i fn hf
      split at h
      · exact h.elim
      · rename_i c hb
        have hs0 := hs
        replace hs : HS base w ok0 σ ρ { tmps := a.tmps, defers := [] } w := HR.fresh hs
        refine calls_marks hf hb ?_
        have hdead : σ.blk σ.clk = .dead := hs.frs σ.clk (fun q => Nat.lt_irrefl _ q)
        have hund : ρ σ.clk = undef := by have := hs.blks σ.clk; rw [hdead] at this; exact this
        let σ1 : DS := ⟨args ++ List.replicate (fn.ntmps - args.length) (DE.c undef), (σ.clk, .sv σ.tm a.tmps) :: σ.bl, σ.clk + 64, σ.orc⟩
        have hb1 : σ1.blk = updB σ.blk [(σ.clk, .sv σ.tm a.tmps)] := blk_app σ [(σ.clk, .sv σ.tm a.tmps)] _ _ _
        have h0 : HS base w ok0 σ1 ρ { tmps := cargs ++ Array.replicate (fn.ntmps - cargs.size) undef, defers := [] } w := by
          show HR base w ok0 (fun n => n < σ.clk + 64) σ1.tm σ1.blk ρ _ w
          rw [hb1]
          refine HR.step hs (fun b => b = σ.clk) (fun b hc => updB_ne _ _ _ hc) (fun b _ => rfl) (fun b t cs _ _ => rfl) (fun b n x hc e => by rw [hc, hdead] at e; cases e)
            (fun n hn => by have : n < σ.clk := hn; show n < σ.clk + 64; omega) (fun b hc => by show b < σ.clk + 64; rw [hc]; omega) (fun b n hc _ hst => by rw [hc, updB_one] at hst; cases hst) (Nat.le_refl _) (fun _ _ _ => rfl)
            (fun b hc hl => by rw [hc, updB_one] at hl; cases hl) (fun b b' hc _ hl => by rw [hc, updB_one] at hl; cases hl) rfl rfl rfl (fun H1 H5 b hc => ?_) (fun H1 t => .inr ?_) (by simp [σ1, hsz]) rfl
          · rw [hc, updB_one]
            exact ⟨hund, hs.size, fun t => H5 _ _ (hs.tms t)⟩
          · by_cases ht : t < args.length
            · have e1 : σ1.tm.getD t .any = args.getD t .any := by
                show (args ++ List.replicate (fn.ntmps - args.length) (DE.c undef)).getD t .any = _
                rw [List.getD_eq_getElem?_getD, List.getElem?_append_left ht, ← List.getD_eq_getElem?_getD]
              have e2 : (cargs ++ Array.replicate (fn.ntmps - cargs.size) undef).getD t undef = cargs.getD t undef := by
                rw [Array.getD_eq_getD_getElem?, Array.getElem?_append, if_pos (by omega), ← Array.getD_eq_getD_getElem?]
              rw [e1]
              show RD _ _ _ _ _ _ ((cargs ++ Array.replicate (fn.ntmps - cargs.size) undef).getD t undef)
              rw [e2]
              refine (hargs t ht).mono H1 (fun _ _ _ => rfl) (fun n hn => by have : n < σ.clk := hn; show n < σ.clk + 64; omega) fun b n hn hst => ?_
              by_cases hc : b = σ.clk
              · rw [hc, updB_one] at hst; cases hst
              · rw [updB_ne _ _ _ hc] at hst; exact ⟨hst, rfl⟩
            · by_cases ht2 : t < fn.ntmps
              · have e1 : σ1.tm.getD t .any = .c undef := by
                  show (args ++ List.replicate (fn.ntmps - args.length) (DE.c undef)).getD t .any = _
                  rw [List.getD_eq_getElem?_getD, List.getElem?_append_right (by omega), List.getElem?_replicate]
                  rw [if_pos (by omega)]; rfl
                have e2 : (cargs ++ Array.replicate (fn.ntmps - cargs.size) undef).getD t undef = undef := by
                  rw [Array.getD_eq_getD_getElem?, Array.getElem?_append, if_neg (by omega), Array.getElem?_replicate]
                  split <;> rfl
                rw [e1]
                show RD _ _ _ _ _ _ ((cargs ++ Array.replicate (fn.ntmps - cargs.size) undef).getD t undef)
                rw [e2]; exact .c _
              · have e1 : σ1.tm.getD t .any = .any := by
                  show (args ++ List.replicate (fn.ntmps - args.length) (DE.c undef)).getD t .any = _
                  rw [List.getD_eq_getElem?_getD, List.getElem?_eq_none (by simp; omega)]; rfl
                rw [e1]; exact .any _
        have hrun := runC_mono (inF_fr n) c σ1 _ (fun e σ' => (if exits e then (match resultD P fn σ' with | some d => if (preOf σ1 σ').contains σ.clk then fStuck "saved slots" else K d { tm := σ.tm, bl := (σ.clk, .dead) :: σ'.bl, clk := σ'.clk, orc := σ'.orc } | none => fStuck "results") else fStuck "exit") ∧ FrB σ1 σ') (h a.tmps) (fun e σ' hk q1 _ _ => ⟨hk, q1⟩)
        refine runC_sound hm (inF_ok hm n) (inF_fr n) c σ1 _ ρ _ w _ hrun h0 fun e σ' ρ' a' w' hk h' => ?_
        obtain ⟨hk, hfb⟩ := hk
        obtain ⟨Ds, hD1, hD2, hD3, h'⟩ := HR.unmark h'
        generalize hwt : turned Ds w' = wt at h'
        split at hk
        · rename_i hex
          split at hk
          · rename_i d hd
            split at hk
            · exact hk.elim
            · rename_i hpre
              obtain ⟨v, hv1, hv2⟩ := resultD_ok h' hd
              obtain ⟨⟨p, hp⟩, _, h3⟩ := hfb
              have h3' : σ.clk + 64 ≤ σ'.clk := h3
              have hsv : σ'.blk σ.clk = .sv σ.tm a.tmps := by
                have hpo : preOf σ1 σ' = p.map (·.1) := by
                  unfold preOf
                  rw [hp, List.length_append, Nat.add_sub_cancel, List.take_left]
                have : σ'.blk = updB σ1.blk p := by
                  obtain ⟨tm, bl, c, oc⟩ := σ'
                  simp only at hp
                  subst hp
                  exact blk_app σ1 p tm c _
                rw [this, updB_of_not (by rw [← hpo]; simpa using hpre), hb1, updB_one]
              have hB := h'.blks σ.clk
              rw [hsv] at hB
              have hfin : (DS.mk σ.tm ((σ.clk, .dead) :: σ'.bl) σ'.clk σ'.orc).blk = updB σ'.blk [(σ.clk, .dead)] := blk_app σ' [(σ.clk, .dead)] _ _ _
              have H4 : ∀ b n, n < σ'.clk → stampOf (updB σ'.blk [(σ.clk, .dead)] b) = some n → stampOf (σ'.blk b) = some n ∧ ρ' b = ρ' b := fun b n _ hst => by
                by_cases hc : b = σ.clk
                · rw [hc, updB_one] at hst; cases hst
                · rw [updB_ne _ _ _ hc] at hst; exact ⟨hst, rfl⟩
              have H1 : ∀ g, okF base ok0 σ'.blk ρ' g → g < wt.heap.size → okF base ok0 (updB σ'.blk [(σ.clk, .dead)]) ρ' g ∧ wt.heap[g]? = wt.heap[g]? := fun g hg _ => ⟨⟨hg.1, fun b hl => by
                by_cases hc : b = σ.clk
                · rw [hc, updB_one] at hl; cases hl
                · rw [updB_ne _ _ _ hc] at hl; exact hg.2 b hl⟩, rfl⟩
              have hend : HS base w0 ok0 ⟨σ.tm, (σ.clk, .dead) :: σ'.bl, σ'.clk, σ'.orc⟩ ρ' a wt := by
                show HR base w0 ok0 (fun n => n < σ'.clk) σ.tm (DS.mk σ.tm ((σ.clk, .dead) :: σ'.bl) σ'.clk σ'.orc).blk ρ' a wt
                rw [hfin]
                refine HR.join (t := a.tmps) hs0 ?_
                refine HR.step h' (fun b => b = σ.clk) (fun b hc => updB_ne _ _ _ hc) (fun b _ => rfl) (fun b t cs _ _ => rfl) (fun b n x hc e => by rw [hc, hsv] at e; cases e)
                  (fun n hn => hn) (fun b hc => by show b < σ'.clk; rw [hc]; omega) (fun b n hc hn hst => H4 b n hn hst) (Nat.le_refl _) (fun _ _ _ => rfl)
                  (fun b hc hl => by rw [hc, updB_one] at hl; cases hl) (fun b b' hc _ hl => by rw [hc, updB_one] at hl; cases hl) rfl rfl rfl (fun _ _ b hc => ?_) (fun _ t => .inr ?_) hs.size rfl
                · rw [hc, updB_one]; exact hB.1
                · exact (hB.2.2 t).mono H1 (fun _ _ _ => rfl) (fun n hn => hn) H4
              have hdv := hv2.mono H1 (fun _ _ _ => rfl) (fun n hn => hn) H4
              rw [← hfin] at hdv
              cases e with
              | normal => exact ⟨Ds, hD1, hD2, hD3, v, by rw [hwt]; exact hv1, v, rfl, d, _, ρ', hk, by rw [hwt]; exact hend, by rw [hwt]; exact hdv⟩
              | ret => exact ⟨Ds, hD1, hD2, hD3, v, by rw [hwt]; exact hv1, v, rfl, d, _, ρ', hk, by rw [hwt]; exact hend, by rw [hwt]; exact hdv⟩
              | exit i => cases hex
              | goto i => cases hex
              | panic i => cases hex
              | outgrown => cases hex
          · exact hk.elim
        · exact hk.elim
/-- **A function's contract out of its run.** -/
theorem fn_run (hm : P.follows .mixedOrders = true) (n : Nat) {f : FuncId} {fn : Func} {c : Code} (hf : P.funcs[f]? = some fn) (hb : fn.body = some c) (hent : Ent P f) {args : List AV} {orc : Orc} {sh : Sh} {r : AV} (h : fnF P Γ ann n f fn c orc args sh r) : Fn P f args sh r :=
  fn_of_run hm (inF_ok hm n) (inF_fr n) hf hb hent h
end
end Go.Proofs.Ytaomlgfamnfcjaa
/- Plain values, reckoned. -/
namespace Go.Proofs.Ytaomlgfamnfcjaa
open Go.RowKit
set_option linter.unusedVariables false
section
variable {a b n : Int} {k k' : IntKind} {s t : ByteArray} {p q : Bool} {L M : List (List AV)} {cs vs : List AV} {i j m sz : Nat} {x y z : AV} {v : Value}
@[simp] theorem av_cel : AV.cel (.agg cs) j = cs.getD j default := rfl
@[simp] theorem av_prj : AV.prj (.tup vs) j = vs.getD j default := rfl
@[simp] theorem av_isAgg : AV.isAgg (.agg cs) m ↔ cs.length = m := ⟨fun ⟨_, e, h⟩ => by cases e; exact h, fun h => ⟨_, rfl, h⟩⟩
@[simp] theorem av_isTup : AV.isTup (.tup cs) m ↔ cs.length = m := ⟨fun ⟨_, e, h⟩ => by cases e; exact h, fun h => ⟨_, rfl, h⟩⟩
@[simp] theorem av_hasPart : hasPart (.tup cs) i ↔ i < cs.length := ⟨fun ⟨m, h, hi⟩ => by rw [av_isTup] at h; omega, fun h => ⟨_, av_isTup.2 rfl, h⟩⟩
@[simp] theorem av_isSl : AV.isSl (.sl i L) j ↔ i = j := ⟨fun h => by have h' : AV.sl i L = .sl j L := h; injection h', fun h => by subst h; rfl⟩
@[simp] theorem av_isInt : AV.isInt (.lit (.int k n)) ↔ True := ⟨fun _ => trivial, fun _ => ⟨_, _, rfl⟩⟩
@[simp] theorem av_isI64 : AV.isI64 (.lit (.int .i64 n)) ↔ True := ⟨fun _ => trivial, fun _ => rfl⟩
@[simp] theorem av_isBool : AV.isBool (.lit (.bool p)) ↔ True := ⟨fun _ => trivial, fun _ => rfl⟩
@[simp] theorem av_isStr : AV.isStr (.lit (.string s)) ↔ True := ⟨fun _ => trivial, fun _ => rfl⟩
@[simp] theorem av_isOne_int : AV.isOne (.lit (.int k n)) ↔ True := ⟨fun _ => trivial, fun _ => rfl⟩
@[simp] theorem av_isOne_bool : AV.isOne (.lit (.bool p)) ↔ True := ⟨fun _ => trivial, fun _ => rfl⟩
@[simp] theorem av_isOne_str : AV.isOne (.lit (.string s)) ↔ True := ⟨fun _ => trivial, fun _ => rfl⟩
@[simp] theorem av_isOne_ni : AV.isOne (.lit .nilIface) ↔ True := ⟨fun _ => trivial, fun _ => rfl⟩
@[simp] theorem av_isNI : AV.isNI (.lit .nilIface) ↔ True := ⟨fun _ => trivial, fun _ => rfl⟩
@[simp] theorem av_isOne_sl : AV.isOne (.sl i L) ↔ True := ⟨fun _ => trivial, fun _ => rfl⟩
@[simp] theorem av_len : AV.len (.sl i L) = .lit (.int .i64 (L.length : Nat)) := rfl
@[simp] theorem av_slen : AV.slen (.lit (.string s)) = .lit (.int .i64 (s.size : Nat)) := rfl
@[simp] theorem av_els : AV.els (.sl i L) = L := rfl
@[simp] theorem av_num : AV.num (.lit (.int k n)) = n := rfl
@[simp] theorem av_tru : AV.tru (.lit (.bool p)) = p := rfl
@[simp] theorem av_str : AV.str (.lit (.string s)) = s := rfl
@[simp] theorem av_kind : AV.kind (.lit (.int k n)) = k := rfl
@[simp] theorem av_mk : AV.mk i L = .sl i L := rfl
@[simp] theorem av_app : AV.app i (.sl j L) (.sl m M) = .sl i (L ++ M) := rfl
@[simp] theorem av_inb : AV.inb (.sl i L) (.lit (.int k n)) ↔ 0 ≤ n ∧ n < L.length := ⟨fun h => h.2, fun h => ⟨⟨_, _, rfl⟩, h⟩⟩
@[simp] theorem av_sinb : AV.sinb (.lit (.string s)) (.lit (.int k n)) ↔ 0 ≤ n ∧ n < s.size := ⟨fun h => h.2, fun h => ⟨⟨_, _, rfl⟩, h⟩⟩
@[simp] theorem av_at : AV.at (.sl i L) (.lit (.int k n)) j = gt2 L n.toNat j := rfl
@[simp] theorem av_subOk : AV.subOk (.sl i L) (.lit (.int k a)) (.lit (.int k' b)) ↔ 0 ≤ a ∧ a ≤ b ∧ b ≤ L.length := ⟨fun h => h.2.2, fun h => ⟨⟨_, _, rfl⟩, ⟨_, _, rfl⟩, h⟩⟩
@[simp] theorem av_sub : AV.sub i (.sl j L) (.lit (.int k a)) (.lit (.int k' b)) = .sl i ((L.take b.toNat).drop a.toNat) := rfl
@[simp] theorem av_binOk_int {op : BinOp} : AV.binOk op (.lit (.int k a)) (.lit (.int k' b)) ↔ k = k' ∧ (match op with | .quo | .rem => b ≠ 0 | .shl | .shr => False | _ => True) := Iff.rfl
@[simp] theorem av_add : AV.bin .add (.lit (.int k a)) (.lit (.int k' b)) = .lit (.int k (k.wrap (a + b))) := rfl
@[simp] theorem av_subt : AV.bin .sub (.lit (.int k a)) (.lit (.int k' b)) = .lit (.int k (k.wrap (a - b))) := rfl
@[simp] theorem av_mul : AV.bin .mul (.lit (.int k a)) (.lit (.int k' b)) = .lit (.int k (k.wrap (a * b))) := rfl
@[simp] theorem av_quo : AV.bin .quo (.lit (.int k a)) (.lit (.int k' b)) = .lit (.int k (k.wrap (a.tdiv b))) := rfl
@[simp] theorem av_rem : AV.bin .rem (.lit (.int k a)) (.lit (.int k' b)) = .lit (.int k (a.tmod b)) := rfl
@[simp] theorem av_eql : AV.bin .eql (.lit (.int k a)) (.lit (.int k' b)) = .lit (.bool (a == b)) := rfl
@[simp] theorem av_neq : AV.bin .neq (.lit (.int k a)) (.lit (.int k' b)) = .lit (.bool (a != b)) := rfl
@[simp] theorem av_lss : AV.bin .lss (.lit (.int k a)) (.lit (.int k' b)) = .lit (.bool (decide (a < b))) := rfl
@[simp] theorem av_leq : AV.bin .leq (.lit (.int k a)) (.lit (.int k' b)) = .lit (.bool (decide (a ≤ b))) := rfl
@[simp] theorem av_gtr : AV.bin .gtr (.lit (.int k a)) (.lit (.int k' b)) = .lit (.bool (decide (a > b))) := rfl
@[simp] theorem av_geq : AV.bin .geq (.lit (.int k a)) (.lit (.int k' b)) = .lit (.bool (decide (a ≥ b))) := rfl
@[simp] theorem av_mx : AV.mx (.lit (.int k a)) (.lit (.int k' b)) = .lit (.int k (if b > a then b else a)) := rfl
@[simp] theorem av_mn : AV.mn (.lit (.int k a)) (.lit (.int k' b)) = .lit (.int k (if b < a then b else a)) := rfl
@[simp] theorem av_isT : isT (.lit (.bool p)) ↔ p = true := Iff.rfl
@[simp] theorem av_isF : isF (.lit (.bool p)) ↔ p = false := Iff.rfl
@[simp] theorem av_flat : AV.flat (.lit v) ↔ True := ⟨fun _ => trivial, fun _ => .lit v⟩
@[simp] theorem av_flat_nil : AV.flat (.sl i []) ↔ True := ⟨fun _ => trivial, fun _ => .nil i⟩
@[simp] theorem av_flat_agg : AV.flat (.agg cs) ↔ ∀ x ∈ cs, x.flat := ⟨fun h => by cases h with | agg _ h => exact h, fun h => .agg cs h⟩
@[simp] theorem av_flatS : AV.flatS (.sl i L) ↔ ∀ y ∈ L, ∀ z ∈ y, z.flat := Iff.rfl
@[simp] theorem f_same : fSame x y ↔ x = y := Iff.rfl
@[simp] theorem f_ent {P : Program} {f : FuncId} : fEnt P f ↔ Ent P f := Iff.rfl
@[simp] theorem f_nil {F G : Prop} : fNil (.sl i L) F G ↔ (L = [] → F) ∧ G := ⟨fun h => h.elim (fun q => q.2) (fun q => by cases q.1), fun h => .inl ⟨⟨_, _, rfl⟩, h⟩⟩
@[simp] theorem f_nil_lit {F G : Prop} : fNil (.lit (.slice none 0 0)) F G ↔ F := ⟨fun h => h.elim (fun q => by obtain ⟨_, _, e⟩ := q.1; cases e) (fun q => q.2), fun h => .inr ⟨rfl, h⟩⟩
@[simp] theorem f_allV {p : Prop} : fAllV (fun _ => p) ↔ p := ⟨fun h => h #[], fun h _ => h⟩
/-- A loop, by what it carries. -/
theorem loop_of {τ : Type} (enc : τ → List AV) (Inv : τ → Prop) (μ : τ → Nat) {xs : List AV} {body : List AV → (List AV → Prop) → Prop} (x0 : τ) (h0 : xs = enc x0) (hI : Inv x0) (hb : ∀ x, Inv x → body (enc x) fun zs => ∃ m', m' < μ x ∧ ∃ y, zs = enc y ∧ Inv y ∧ μ y = m') : fLoop i xs body := by
  subst h0
  refine ⟨fun m ys => ∃ y, ys = enc y ∧ Inv y ∧ μ y = m, μ x0, ⟨x0, rfl, hI, rfl⟩, ?_⟩
  rintro m ys _ ⟨y, rfl, hy, rfl⟩
  exact hb y hy
theorem wrap64 (h1 : -9223372036854775808 ≤ a) (h2 : a ≤ 9223372036854775807) : IntKind.i64.wrap a = a := by
  simp [IntKind.wrap, IntKind.bits, IntKind.signed]; omega
end
theorem mixed : Try.prog.follows .mixedOrders = true := by kernel_rfl
end Go.Proofs.Ytaomlgfamnfcjaa
/- What every law's proof closes with. -/
namespace Go.Proofs.Ytaomlgfamnfcjaa
open Go.ChangeShapes Go.WideShapes Go.ChangeAt Go.RowKit

theorem own : ownKnob Try.prog.godebug = none := by kernel_rfl
theorem laidOut : laidOutB Try.prog = true := by kernel_rfl


theorem law_end {H : Type} {enc : TypeId × Value → H} {f : Func} {s : ChangeSpec} {W W' : World} {args : Array Value} {ds gs : List (DataW H)} {before : List MemPlace} {e : Ending}
    (hts : (f.params.toList.all fun t => Try.prog.readableRec t && decide (t < Try.prog.types.size)) = true) (hres : f.resultTypes = #[4]) (hv : s.vars = [])
    (hW : DataW.Whole enc Try.prog f.params.toList s.vars false W args.toList ds gs before) (h1 : (s.fn H (ds ++ gs)).results = [.lit (.bool true)]) (h2 : (s.fn H (ds ++ gs)).args = ds) (h3 : (s.fn H (ds ++ gs)).vars = [])
    (hr : Ret (.bool true) W e W') : ∃ v, e = .returned v ∧ s.post enc Try.prog f false true false false W args v W' := by
  refine ⟨_, hr.1, law_post laidOut (fun t ht => ?_) hres Try.underlying4 hv hW h1 h2 h3 hr.below⟩
  have := List.all_eq_true.1 hts t ht
  simp only [Bool.and_eq_true, decide_eq_true_eq] at this
  exact this
end Go.Proofs.Ytaomlgfamnfcjaa
/- Arguments, opened: whatever their types, as plain values; and a law's last step. -/
namespace Go.Proofs.Ytaomlgfamnfcjaa
open Go.ChangeShapes Go.WideShapes Go.ChangeAt Go.RowKit Go.Deep
set_option linter.unusedVariables false
/-! ### the cells of a type -/
def flatFs (P : Program) (fl : TypeId → Option (List TypeId)) : Nat → List Field → Option (List TypeId)
  | _, [] => some []
  | o, f :: fs => if f.offset = o then (match fl f.type, flatFs P fl (o + P.cellsOf f.type) fs with
      | some a, some b => if a.length = P.cellsOf f.type then some (a ++ b) else none
      | _, _ => none) else none
def flatTy (P : Program) : Nat → TypeId → Option (List TypeId)
  | 0, _ => none
  | d + 1, t => match P.underlying t with
    | some (.int _) => some [t]
    | some .string => some [t]
    | some .bool => some [t]
    | some (.slice _) => some [t]
    | some (.struct fs) => match flatFs P (flatTy P d) 0 fs.toList with
        | some l => if l.length = P.cellsOf t then some l else none
        | none => none
    | some (.array n e) => match flatTy P d e with
        | some l => if l.length = P.cellsOf e ∧ n * l.length = P.cellsOf t then some (List.replicate n l).flatten else none
        | none => none
    | _ => none
def CellOk (P : Program) : Nat → TypeId → AV → Prop
  | 0, _, _ => False
  | d + 1, u, x => match P.underlying u with
    | some (.int k) => ∃ n, x = .lit (.int k n) ∧ (Lit.int k n).wf = true
    | some .string => ∃ s : ByteArray, x = .string s ∧ s.size ≤ maxLen
    | some .bool => ∃ b, x = .bool b
    | some (.slice e) => ∃ (L : List (List AV)) (tys : List TypeId), x = .sl (P.cellsOf e) L ∧ L.length ≤ maxLen ∧ flatTy P 8 e = some tys ∧ ∀ y ∈ L, y.length = tys.length ∧ ∀ i u', tys[i]? = some u' → CellOk P d u' (y.getD i default)
    | _ => False
def cellB (P : Program) : Nat → TypeId → Bool
  | 0, _ => false
  | d + 1, u => match P.underlying u with
    | some (.int _) => true
    | some .string => true
    | some .bool => true
    | some (.slice e) => match flatTy P 8 e with
      | some tys => decide (tys.length = P.cellsOf e) && decide (0 < P.cellsOf e) && tys.all (cellB P d)
      | none => false
    | _ => false
section
variable {H : Type} {enc : TypeId × Value → H} {P : Program} {W : World}
theorem fields_of {t : TypeId} {fs : Array Field} {fuel : Nat} {cs : List Value} {x : DataW H × List MemPlace}
    (ht : P.underlying t = some (.struct fs)) (h : DataW.trod enc P W 0 (fun _ => true) true fuel t cs = some x) :
    cs.length = P.cellsOf t ∧ ∃ m, ∀ f ∈ fs.toList, ∃ y, DataW.trod enc P W 0 (fun _ => true) true m f.type ((cs.drop f.offset).take (P.cellsOf f.type)) = some y := by
  obtain ⟨ys, m, _, _, hl, hyl, hf⟩ := DataW.trod_struct ht h
  refine ⟨hl, m, fun f hm => ?_⟩
  obtain ⟨j, hj, e⟩ := List.getElem_of_mem hm
  have hj' : fs[j]? = some f := by rw [← Array.getElem?_toList, List.getElem?_eq_getElem hj, e]
  have hjl : j < ys.length := by rw [hyl]; simpa using hj
  exact ⟨_, (hf j f hj').trans (List.getElem?_eq_getElem hjl)⟩
theorem flatten_get {l : List TypeId} {u : TypeId} : ∀ (n i : Nat), ((List.replicate n l).flatten)[i]? = some u → ∃ k j, k < n ∧ j < l.length ∧ i = k * l.length + j ∧ l[j]? = some u
  | 0, i, h => by simp at h
  | n + 1, i, h => by
    rw [List.replicate_succ, List.flatten_cons, List.getElem?_append] at h
    split at h
    · rename_i hi; exact ⟨0, i, by omega, hi, by omega, h⟩
    · obtain ⟨k, j, hk, hj, e, hl⟩ := flatten_get n _ h
      exact ⟨k + 1, j, by omega, hj, by rw [Nat.add_mul]; omega, hl⟩
theorem seg_at {cs : List Value} {o n i : Nat} {v : Value} (h : ((cs.drop o).take n)[i]? = some v) : cs[o + i]? = some v := by
  rw [List.getElem?_take] at h
  split at h
  · rwa [List.getElem?_drop] at h
  · cases h
theorem flatten_len {l : List TypeId} : ∀ n, ((List.replicate n l).flatten).length = n * l.length
  | 0 => by simp
  | n + 1 => by simp
theorem trod_flat : ∀ (d : Nat) (t : TypeId) (tys : List TypeId), flatTy P d t = some tys → ∀ (fuel : Nat) (vs : List Value) (x : DataW H × List MemPlace), DataW.trod enc P W 0 (fun _ => true) true fuel t vs = some x →
    vs.length = tys.length ∧ ∀ (i : Nat) (u : TypeId), tys[i]? = some u → ∃ v m y, vs[i]? = some v ∧ DataW.trod enc P W 0 (fun _ => true) true m u [v] = some y
  | 0, t, tys, h, _, _, _, _ => by cases h
  | d + 1, t, tys, h, fuel, vs, x, hx => by
    simp only [flatTy] at h
    have one : ∀ v, vs = [v] → some [t] = some tys → vs.length = tys.length ∧ ∀ (i : Nat) (u : TypeId), tys[i]? = some u → ∃ v m y, vs[i]? = some v ∧ DataW.trod enc P W 0 (fun _ => true) true m u [v] = some y := by
      rintro v rfl e
      injection e with e; subst e
      refine ⟨rfl, fun i u hi => ?_⟩
      cases i with
      | zero => simp at hi; subst hi; exact ⟨v, fuel, x, rfl, hx⟩
      | succ i => simp at hi
    split at h
    · rename_i k hu; obtain ⟨n, e, _⟩ := DataW.trod_int hu hx; exact one _ e h
    · rename_i hu; obtain ⟨n, e, _⟩ := DataW.trod_string hu hx; exact one _ e h
    · rename_i hu; obtain ⟨n, e, _⟩ := DataW.trod_bool hu hx; exact one _ e h
    · rename_i e hu
      rcases open_slice hu hx with ⟨e, _⟩ | ⟨a, len, cap, m, fu, D, Pl, e, _⟩
      · exact one _ e h
      · exact one _ e h
    · rename_i fs hu
      split at h
      · rename_i l hl
        split at h
        · rename_i hlen
          injection h with h; subst h
          obtain ⟨hvl, m, hf⟩ := fields_of hu hx
          refine ⟨by omega, ?_⟩
          clear hlen hvl hx
          have key : ∀ (fs : List Field) (o : Nat) (l : List TypeId), flatFs P (flatTy P d) o fs = some l → (∀ f ∈ fs, ∃ y, DataW.trod enc P W 0 (fun _ => true) true m f.type ((vs.drop f.offset).take (P.cellsOf f.type)) = some y) →
              ∀ (i : Nat) (u : TypeId), l[i]? = some u → ∃ v m y, vs[o + i]? = some v ∧ DataW.trod enc P W 0 (fun _ => true) true m u [v] = some y := by
            intro fs
            induction fs with
            | nil => intro o l hl _ i u hi; simp only [flatFs, Option.some.injEq] at hl; subst hl; simp at hi
            | cons f fs ih =>
              intro o l hl hf i u hi
              simp only [flatFs] at hl
              split at hl
              · rename_i ho
                split at hl
                · rename_i a b ha hb
                  split at hl
                  · rename_i hal
                    injection hl with hl; subst hl
                    rw [List.getElem?_append] at hi
                    split at hi
                    · obtain ⟨y, hy⟩ := hf f (by simp)
                      obtain ⟨_, hg⟩ := trod_flat d f.type a ha m _ _ hy
                      obtain ⟨v, m', y', hv, hy'⟩ := hg i u hi
                      exact ⟨v, m', y', ho ▸ seg_at hv, hy'⟩
                    · obtain ⟨v, m', y', hv, hy'⟩ := ih _ _ hb (fun f hf' => hf f (by simp [hf'])) _ _ hi
                      refine ⟨v, m', y', ?_, hy'⟩
                      rw [← hv]; congr 1; omega
                  · cases hl
                · cases hl
              · cases hl
          intro i u hi
          have := key fs.toList 0 l hl hf i u hi
          simpa using this
        · cases h
      · cases h
    · rename_i n e hu
      split at h
      · rename_i l hl
        split at h
        · rename_i hlen
          injection h with h; subst h
          obtain ⟨xs, m, _, _, hvl, hxl, hf⟩ := DataW.trod_array hu hx
          refine ⟨by rw [hvl, flatten_len]; omega, fun i u hi => ?_⟩
          obtain ⟨k, j, hk, hj, rfl, hu'⟩ := flatten_get n i hi
          have h1 := hf k hk
          rw [List.getElem?_eq_getElem (by omega)] at h1
          obtain ⟨_, hg⟩ := trod_flat d e l hl m _ _ h1
          obtain ⟨v, m', y', hv, hy'⟩ := hg j u hu'
          exact ⟨v, m', y', by rw [hlen.1]; exact seg_at hv, hy'⟩
        · cases h
      · cases h
    · cases h
def okAll (W : World) (g : Nat) : Prop := g < W.heap.size
theorem add_none' (b off : Nat) (k : Nat) : (⟨b, off, none⟩ : Addr).add k = ⟨b, off + k, none⟩ := by simp [Addr.add]
theorem cell_open : ∀ (d : Nat) (u : TypeId), cellB P d u = true → ∀ (m : Nat) (v : Value) (y : DataW H × List MemPlace), DataW.trod enc P W 0 (fun _ => true) true m u [v] = some y →
    v.oneCell' = true ∧ ∃ x, CellOk P d u x ∧ RV W (okAll W) x v
  | 0, u, h, _, _, _, _ => by cases h
  | d + 1, u, h, m, v, y, hy => by
    simp only [cellB] at h
    simp only [CellOk]
    split at h
    · rename_i k hu
      obtain ⟨n, e, _, hw⟩ := DataW.trod_int hu hy
      simp only [List.cons.injEq, and_true] at e
      subst e
      exact ⟨rfl, _, ⟨n, rfl, hw⟩, .lit _⟩
    · rename_i hu
      obtain ⟨n, e, _, hw⟩ := DataW.trod_string hu hy
      simp only [List.cons.injEq, and_true] at e
      subst e
      exact ⟨rfl, _, ⟨n, rfl, hw⟩, .lit _⟩
    · rename_i hu
      obtain ⟨n, e, _⟩ := DataW.trod_bool hu hy
      simp only [List.cons.injEq, and_true] at e
      subst e
      exact ⟨rfl, _, ⟨n, rfl⟩, .lit _⟩
    · rename_i e hu
      split at h
      · rename_i tys htys
        simp only [Bool.and_eq_true, decide_eq_true_eq, List.all_eq_true] at h
        obtain ⟨⟨hl, hpos⟩, hall⟩ := h
        rcases open_slice hu hy with ⟨ev, _⟩ | ⟨a, len, cap, m', fu, D, Pl, ev, hb, hlc, hcm, hmm, hx, hi⟩
        · simp only [List.cons.injEq, and_true] at ev
          subst ev
          exact ⟨rfl, _, ⟨[], tys, rfl, by unfold maxLen; simp, htys, fun y hy => by simp at hy⟩, rv_nil _ _⟩
        · simp only [List.cons.injEq, and_true] at ev
          subst ev
          simp only [if_true] at hmm
          have key : ∀ i, ∃ (Y : List AV) (us : Nat → Value), i < len → (Y.length = tys.length ∧ (∀ j u', tys[j]? = some u' → CellOk P d u' (Y.getD j default)) ∧ ∀ j, j < P.cellsOf e → W.cell? (a.add (i * P.cellsOf e + j)) = some (us j) ∧ (us j).oneCell' = true ∧ RV W (okAll W) (Y.getD j default) (us j)) := by
            intro i
            by_cases hlt : i < len
            · obtain ⟨cs', hc, ht'⟩ := hi i (by omega)
              obtain ⟨_, hcl, hat⟩ := World.cells?_some hc
              obtain ⟨q1, q2⟩ := trod_flat 8 e tys htys fu cs' _ ht'
              have step : ∀ j, ∃ (X : AV) (uv : Value), j < tys.length → ((∀ u', tys[j]? = some u' → CellOk P d u' X) ∧ cs'[j]? = some uv ∧ uv.oneCell' = true ∧ RV W (okAll W) X uv) := by
                intro j
                by_cases hj : j < tys.length
                · obtain ⟨v, m2, y2, hv, hy2⟩ := q2 j _ (List.getElem?_eq_getElem hj)
                  obtain ⟨o1, X, hX, hR⟩ := cell_open d tys[j] (hall _ (List.getElem_mem hj)) m2 v y2 hy2
                  exact ⟨X, v, fun _ => ⟨fun u' hu' => by rw [List.getElem?_eq_getElem hj] at hu'; injection hu' with hu'; subst hu'; exact hX, hv, o1, hR⟩⟩
                · exact ⟨default, undef, fun h => absurd h hj⟩
              obtain ⟨fx, step⟩ := Classical.skolem.1 step
              obtain ⟨fv, step⟩ := Classical.skolem.1 step
              refine ⟨(List.range tys.length).map fx, fv, fun _ => ⟨by simp, fun j u' hj => ?_, fun j hj => ?_⟩⟩
              · have hjl : j < tys.length := (List.getElem?_eq_some_iff.1 hj).1
                have := (step j hjl).1 u' hj
                simpa [hjl] using this
              · have hjl : j < tys.length := by omega
                obtain ⟨_, s2, s3, s4⟩ := step j hjl
                refine ⟨?_, s3, by simpa [hjl] using s4⟩
                rw [← Go.Deep.add_add, hat j hj, s2]
            · exact ⟨[], fun _ => undef, fun h => absurd h hlt⟩
          obtain ⟨Y, key⟩ := Classical.skolem.1 key
          obtain ⟨us, key⟩ := Classical.skolem.1 key
          refine ⟨rfl, .sl (P.cellsOf e) ((List.range len).map Y), ⟨_, tys, rfl, by simp; omega, htys, fun y hy => ?_⟩, ?_⟩
          · obtain ⟨i, hi', rfl⟩ := List.mem_map.1 hy
            have := key i (by simpa using hi')
            exact ⟨this.1, this.2.1⟩
          · obtain ⟨b, off, spot⟩ := a
            refine .sl _ _ _ len cap us (by simp) hlc hcm (fun x hx' => ?_) (fun h0 => ?_) (fun i j hi' hj => ((key i hi').2.2 j hj).2.1) (fun i j hi' hj => ?_)
            · obtain ⟨i, hi', rfl⟩ := List.mem_map.1 hx'
              have := key i (by simpa using hi')
              omega
            · have c0 := ((key 0 h0).2.2 0 hpos).1
              have hspot : spot = none := by simpa [Addr.add] using World.cell?_spot c0
              subst hspot
              have hlt : b < W.heap.size := by
                rw [add_none'] at c0
                exact block_lt_of_cell c0
              refine ⟨b, off, rfl, hlt, hlt, fun i j hi' hj => ?_⟩
              have := ((key i hi').2.2 j hj).1
              rw [add_none'] at this
              rw [← this]
              congr 2
              omega
            · have := ((key i hi').2.2 j hj).2.2
              simpa [gt2, hi'] using this
      · cases h
    · cases h
/-- What an argument of type t may be. -/
def ArgOk (P : Program) (t : TypeId) (x : AV) : Prop :=
  match isAggT P t with
  | true => ∃ (cs : List AV) (tys : List TypeId), x = .agg cs ∧ flatTy P 8 t = some tys ∧ cs.length = tys.length ∧ ∀ i u, tys[i]? = some u → CellOk P 8 u (cs.getD i default)
  | false => CellOk P 8 t x
def argB (P : Program) (t : TypeId) : Bool :=
  match isAggT P t with
  | true => match flatTy P 8 t with
    | some tys => tys.all (cellB P 8)
    | none => false
  | false => cellB P 8 t
theorem arg_open {t : TypeId} {v : Value} {base : Nat} {dd : DataW H} {p : List MemPlace} (hb : argB P t = true) (hv : Value.okWide P W .any base t v) (h : DataW.Trod enc P W 0 (fun _ => true) true t v dd p) : ∃ x, ArgOk P t x ∧ RV W (okAll W) x v := by
  obtain ⟨fuel, hf⟩ := h
  unfold argB at hb
  unfold ArgOk
  split at hb
  · rename_i ha
    split at hb
    · rename_i tys htys
      have hagg : ∃ cs, v = .agg cs := by
        unfold isAggT at ha
        split at ha
        · rename_i hu; simp only [Value.okWide, hu] at hv; obtain ⟨cs, e, _⟩ := hv; exact ⟨cs, e⟩
        · rename_i hu; simp only [Value.okWide, hu] at hv; obtain ⟨cs, e, _⟩ := hv; exact ⟨cs, e⟩
        · cases ha
      obtain ⟨vs, rfl⟩ := hagg
      obtain ⟨q1, q2⟩ := trod_flat 8 t tys htys fuel _ _ hf
      have q1 : vs.size = tys.length := by simpa [Value.cells] using q1
      have step : ∀ j, ∃ (X : AV), j < tys.length → ((∀ u', tys[j]? = some u' → CellOk P 8 u' X) ∧ (vs.getD j undef).oneCell' = true ∧ RV W (okAll W) X (vs.getD j undef)) := by
        intro j
        by_cases hj : j < tys.length
        · obtain ⟨v, m2, y2, hv, hy2⟩ := q2 j _ (List.getElem?_eq_getElem hj)
          obtain ⟨o1, X, hX, hR⟩ := cell_open 8 tys[j] (List.all_eq_true.1 hb _ (List.getElem_mem hj)) m2 v y2 hy2
          have e : vs.getD j undef = v := by
            have hv' : vs[j]? = some v := by simpa [Value.cells] using hv
            rw [Array.getD_eq_getD_getElem?, hv']; rfl
          rw [e]
          exact ⟨X, fun _ => ⟨fun u' hu' => by rw [List.getElem?_eq_getElem hj] at hu'; injection hu' with hu'; subst hu'; exact hX, o1, hR⟩⟩
        · exact ⟨default, fun h => absurd h hj⟩
      obtain ⟨fx, step⟩ := Classical.skolem.1 step
      refine ⟨.agg ((List.range tys.length).map fx), ⟨_, tys, rfl, htys, by simp, fun j u' hj => ?_⟩, ?_⟩
      · have hjl : j < tys.length := (List.getElem?_eq_some_iff.1 hj).1
        have := (step j hjl).1 u' hj
        simpa [hjl] using this
      · refine .agg _ _ (by simp [q1]) (fun i hi => ?_) (fun i hi => ?_)
        · exact (step i (by simpa using hi)).2.1
        · have hi' : i < tys.length := by simpa using hi
          have := (step i hi').2.2
          simpa [hi'] using this
    · cases hb
  · rename_i ha
    have h1 : v.cells.toList = [v] := by
      cases v with
      | agg cs =>
        exfalso
        simp only [cellB] at hb
        split at hb
        · rename_i hu; obtain ⟨_, e⟩ := okWide_int hu hv; cases e
        · rename_i hu; obtain ⟨_, e⟩ := okWide_string hu hv; cases e
        · rename_i hu; obtain ⟨_, e⟩ := okWide_bool hu hv; cases e
        · rename_i hu; obtain ⟨_, _, _, e⟩ := okWide_slice hu hv; cases e
        · cases hb
      | _ => rfl
    rw [h1] at hf
    exact (cell_open 8 t hb fuel v _ hf).2
theorem args_open {base : Nat} : ∀ (ts : List TypeId) (vs : List Value) (ds : List (DataW H)) (p : List MemPlace), DataW.TrodAll enc P W 0 (fun _ => true) true ts vs ds p →
    (∀ (j : Nat) t v, ts[j]? = some t → vs[j]? = some v → Value.okWide P W .any base t v) → ts.all (argB P) = true →
    ∃ xs : List AV, xs.length = ts.length ∧ vs.length = ts.length ∧ ∀ i, i < ts.length → ArgOk P (ts.getD i 0) (xs.getD i default) ∧ RV W (okAll W) (xs.getD i default) (vs.getD i undef)
  | [], vs, ds, p, h, _, _ => by
    obtain ⟨rfl, _, _⟩ := trodAll_nil h
    exact ⟨[], rfl, rfl, fun i hi => by simp at hi⟩
  | t :: ts, vs, ds, p, h, hv, hb => by
    obtain ⟨v, vs', d, ds', p', q, rfl, rfl, rfl, h1, h2⟩ := trodAll_cons h
    rw [List.all_cons, Bool.and_eq_true] at hb
    obtain ⟨x, hx, hr⟩ := arg_open hb.1 (hv 0 t v rfl rfl) h1
    obtain ⟨xs, l1, l2, hxs⟩ := args_open ts vs' ds' q h2 (fun j t v h3 h4 => hv (j + 1) t v (by simpa using h3) (by simpa using h4)) hb.2
    refine ⟨x :: xs, by simp [l1], by simp [l2], fun i hi => ?_⟩
    cases i with
    | zero => exact ⟨hx, hr⟩
    | succ i => simpa using hxs i (by simpa using hi)
/-- **A law's walk**: the function returns true at all plain values of its parameters' types. -/
theorem law_calls {f : FuncId} {F : Func} {args : Array Value} {ds : List (DataW H)} {p : List MemPlace} {base : Nat} (hb : F.params.toList.all (argB P) = true)
    (hfn : ∀ xs : List AV, xs.length = F.params.toList.length → (∀ i, i < F.params.toList.length → ArgOk P (F.params.toList.getD i 0) (xs.getD i default)) → Fn P f xs .sc (.bool true))
    (hval : ∀ (j : Nat) t v, F.params[j]? = some t → args[j]? = some v → Value.okWide P W .any base t v)
    (hA : DataW.TrodAll enc P W 0 (fun _ => true) true F.params.toList args.toList ds p) (hgl : Gl W.heap.size W (okAll W) := by (exact ⟨by (intro p hp; simp [globL] at hp), by (intro g hg; simp [globI] at hg)⟩)) : Calls P f args W (Ret (.bool true) W) := by
  obtain ⟨xs, l1, l2, hxs⟩ := args_open F.params.toList args.toList ds p hA (fun j t v h1 h2 => hval j t v (by simpa using h1) (by simpa using h2)) hb
  refine ((hfn xs l1 fun i hi => (hxs i hi).1).2 W (okAll W) args (fun g hg => hg) hgl (by rw [l1, ← l2]; simp) fun i hi => ?_).mono ?_
  · have := (hxs i (by omega)).2
    rwa [show args.getD i undef = args.toList.getD i undef by simp [List.getD_eq_getElem?_getD, Array.getD_eq_getD_getElem?]]
  · rintro e W' ⟨v, rfl, hbel, hr, _⟩
    have hr' : RV W' noBlock (.bool true) v := hr
    exact ret_mk (RV.lit_iff.1 hr') hbel
/-! ### what is known of an opened value -/
theorem cell_int {d : Nat} {u : TypeId} {k : IntKind} {x : AV} (hu : P.underlying u = some (.int k)) (h : CellOk P (d + 1) u x) : ∃ n, x = .lit (.int k n) ∧ (Lit.int k n).wf = true := by
  simpa only [CellOk, hu] using h
theorem cell_sl {d : Nat} {u e : TypeId} {x : AV} {tys : List TypeId} {s : Nat} (hu : P.underlying u = some (.slice e)) (ht : flatTy P 8 e = some tys) (hs : P.cellsOf e = s) (h : CellOk P (d + 1) u x) :
    ∃ L : List (List AV), x = .sl s L ∧ L.length ≤ maxLen ∧ ∀ y ∈ L, y.length = tys.length ∧ ∀ i u', tys[i]? = some u' → CellOk P d u' (y.getD i default) := by
  simp only [CellOk, hu] at h
  obtain ⟨L, tys', e1, h1, h2, h3⟩ := h
  rw [ht] at h2
  injection h2 with h2
  subst h2 hs
  exact ⟨L, e1, h1, h3⟩
theorem arg_cell {t : TypeId} {x : AV} (hi : isAggT P t = false) (h : ArgOk P t x) : CellOk P 8 t x := by
  unfold ArgOk at h; rwa [hi] at h
theorem arg_agg {t : TypeId} {x : AV} {tys : List TypeId} (hi : isAggT P t = true) (ht : flatTy P 8 t = some tys) (h : ArgOk P t x) : ∃ cs : List AV, x = .agg cs ∧ cs.length = tys.length ∧ ∀ i u, tys[i]? = some u → CellOk P 8 u (cs.getD i default) := by
  unfold ArgOk at h; rw [hi] at h
  obtain ⟨cs, tys', e1, h2, h3, h4⟩ := h
  rw [ht] at h2
  injection h2 with h2
  subst h2
  exact ⟨cs, e1, h3, h4⟩
theorem list_dec {α : Type} {encA : α → List AV} {Q : α → Prop} : ∀ {L : List (List AV)}, (∀ y ∈ L, ∃ a, y = encA a ∧ Q a) → ∃ l : List α, L = l.map encA ∧ ∀ a ∈ l, Q a
  | [], _ => ⟨[], rfl, fun a ha => by simp at ha⟩
  | y :: L, h => by
    obtain ⟨a, e, hq⟩ := h y (by simp)
    obtain ⟨l, e2, hl⟩ := list_dec (L := L) fun y hy => h y (by simp [hy])
    exact ⟨a :: l, by rw [e, e2]; rfl, fun b hb => by exact (List.mem_cons.1 hb).elim (fun e => e ▸ hq) (fun hb => hl b hb)⟩
theorem lst1 {α : Type} {l : List α} (h : l.length = 1) : ∃ a, l = [a] := by match l, h with | [a], _ => exact ⟨a, rfl⟩
theorem lst2 {α : Type} {l : List α} (h : l.length = 2) : ∃ a b, l = [a, b] := by match l, h with | [a, b], _ => exact ⟨a, b, rfl⟩
theorem lst6 {α : Type} {l : List α} (h : l.length = 6) : ∃ a b c d e f, l = [a, b, c, d, e, f] := by match l, h with | [a, b, c, d, e, f], _ => exact ⟨a, b, c, d, e, f, rfl⟩
end
end Go.Proofs.Ytaomlgfamnfcjaa
/- Lists as plain values; loops over a list. -/
namespace Go.Proofs.Ytaomlgfamnfcjaa
open Go.RowKit
set_option linter.unusedVariables false
/-- A slice whose elements are those of a list, each by its cells. -/
def lst {α : Type} (s : Nat) (enc : α → List AV) (l : List α) : AV := .sl s (l.map enc)
section
variable {α : Type} {s i j m : Nat} {enc : α → List AV} {l l' : List α} {k k' : IntKind} {a b n : Int} {x : α} {y z : AV} {F G : Prop}
@[simp] theorem lst_els : AV.els (lst s enc l) = l.map enc := rfl
@[simp] theorem lst_len : AV.len (lst s enc l) = .lit (.int .i64 (l.length : Nat)) := by simp [lst]
@[simp] theorem lst_isSl : AV.isSl (lst s enc l) j ↔ s = j := by simp [lst]
@[simp] theorem lst_isOne : AV.isOne (lst s enc l) ↔ True := by simp [lst]
@[simp] theorem lst_inb : AV.inb (lst s enc l) (.lit (.int k n)) ↔ 0 ≤ n ∧ n < l.length := by simp [lst]
@[simp] theorem lst_subOk : AV.subOk (lst s enc l) (.lit (.int k a)) (.lit (.int k' b)) ↔ 0 ≤ a ∧ a ≤ b ∧ b ≤ l.length := by simp [lst]
@[simp] theorem lst_sub : AV.sub i (lst i enc l) (.lit (.int k a)) (.lit (.int k' b)) = lst i enc ((l.take b.toNat).drop a.toNat) := by simp [lst, List.map_drop, List.map_take]
@[simp] theorem lst_app : AV.app i (lst j enc l) (lst m enc l') = lst i enc (l ++ l') := by simp [lst]
@[simp] theorem lst_nil : lst s enc [] = .sl s [] := rfl
@[simp] theorem lst_fnil : fNil (lst s enc l) F G ↔ (l = [] → F) ∧ G := by unfold lst; simp
theorem lst_at {n : Nat} (h : l[n]? = some x) : AV.at (lst s enc l) (.lit (.int k (n : Nat))) j = (enc x).getD j default := by
  simp [lst, gt2, List.getD_eq_getElem?_getD, h]
theorem lst_atAgg {n : Nat} (h : l[n]? = some x) : AV.atAgg (lst s enc l) (.lit (.int k (n : Nat))) j m = .agg (((enc x).drop j).take m) := by
  simp [lst, AV.atAgg, List.getD_eq_getElem?_getD, h]
theorem lst_atI (hn : 0 ≤ n) (h : l[n.toNat]? = some x) : AV.at (lst s enc l) (.lit (.int k n)) j = (enc x).getD j default := by
  simp [lst, gt2, List.getD_eq_getElem?_getD, h]
theorem lst_flatS (h : ∀ x ∈ l, ∀ z ∈ enc x, z.flat) : (lst s enc l).flatS := by
  intro y hy z hz
  simp only [lst_els, List.mem_map] at hy
  obtain ⟨x, hx, rfl⟩ := hy
  exact h x hx z hz
theorem lst_setEl {n : Nat} {x' : α} {cs : List AV} (h : l[n]? = some x) (he : (enc x).take j ++ cs ++ (enc x).drop (j + cs.length) = enc x') : AV.setEl (lst s enc l) (.lit (.int k (n : Nat))) j cs = lst s enc (l.set n x') := by
  simp only [lst, AV.setEl, av_num, Int.toNat_natCast]
  congr 1
  rw [List.map_set, ← he]
  simp [List.getD_eq_getElem?_getD, h]
end
/-- **A loop over a list** that it reads from its head on. -/
theorem loop_list {α σ : Type} {i : Nat} (l : List α) (enc : Nat → σ → List AV) (G : Nat → List α → σ → Prop) {xs : List AV} {body : List AV → (List AV → Prop) → Prop} (s0 : σ) (h0 : xs = enc 0 s0) (hG : G 0 l s0)
    (hstep : ∀ n x rest s (K : List AV → Prop), l[n]? = some x → l.drop (n + 1) = rest → n < l.length → G n (x :: rest) s → (∀ zs s', zs = enc (n + 1) s' → G (n + 1) rest s' → K zs) → body (enc n s) K)
    (hend : ∀ s (K : List AV → Prop), G l.length [] s → body (enc l.length s) K) : fLoop i xs body := by
  subst h0
  refine ⟨fun m ys => ∃ n s, ys = enc n s ∧ n ≤ l.length ∧ m = l.length - n ∧ G n (l.drop n) s, l.length, ⟨0, s0, rfl, Nat.zero_le _, rfl, hG⟩, ?_⟩
  rintro m ys _ ⟨n, s, rfl, hn, rfl, hg⟩
  rcases Nat.lt_or_ge n l.length with h | h
  · rw [List.drop_eq_getElem_cons h] at hg
    refine hstep n l[n] (l.drop (n + 1)) s _ (List.getElem?_eq_getElem h) rfl h hg ?_
    rintro zs s' rfl hg'
    exact ⟨l.length - (n + 1), by omega, n + 1, s', rfl, h, rfl, hg'⟩
  · obtain rfl : n = l.length := by omega
    rw [List.drop_length] at hg
    exact hend s _ hg
/-- A loop that counts to a bound. -/
theorem loop_nat {σ : Type} {i : Nat} (N : Nat) (enc : Nat → σ → List AV) (G : Nat → σ → Prop) {xs : List AV} {body : List AV → (List AV → Prop) → Prop} (s0 : σ) (h0 : xs = enc 0 s0) (hG : G 0 s0)
    (hstep : ∀ n s (K : List AV → Prop), n < N → G n s → (∀ zs s', zs = enc (n + 1) s' → G (n + 1) s' → K zs) → body (enc n s) K)
    (hend : ∀ s (K : List AV → Prop), G N s → body (enc N s) K) : fLoop i xs body := by
  subst h0
  refine ⟨fun m ys => ∃ n s, ys = enc n s ∧ n ≤ N ∧ m = N - n ∧ G n s, N, ⟨0, s0, rfl, Nat.zero_le _, rfl, hG⟩, ?_⟩
  rintro m ys _ ⟨n, s, rfl, hn, rfl, hg⟩
  rcases Nat.lt_or_ge n N with h | h
  · refine hstep n s _ h hg ?_
    rintro zs s' rfl hg'
    exact ⟨N - (n + 1), by omega, n + 1, s', rfl, h, rfl, hg'⟩
  · obtain rfl : n = N := by omega
    exact hend s _ hg
/-- Strings. -/
theorem bytes_eq {a b : ByteArray} : (a.toList == b.toList) = decide (a = b) := by
  by_cases h : a = b
  · subst h; simp
  · rw [decide_eq_false h]
    simp only [beq_eq_false_iff_ne, ne_eq]
    intro e
    apply h
    rw [ByteArray.toList_eq, ByteArray.toList_eq] at e
    exact ByteArray.ext (Array.toList_inj.1 e)
theorem less_eq : ∀ (x y : List UInt8), Op.bytesLess x y = decide (x < y)
  | [], [] => by simp [Op.bytesLess]
  | _ :: _, [] => by simp [Op.bytesLess]
  | [], _ :: _ => by simp [Op.bytesLess]
  | a :: x, b :: y => by
    rw [Op.bytesLess, less_eq x y]
    simp only [List.cons_lt_cons_iff]
    by_cases h1 : a < b <;> by_cases h2 : a = b <;> by_cases h3 : x < y <;> simp [h1, h2, h3]
section
variable {a b : ByteArray}
@[simp] theorem av_eql_str : AV.bin .eql (.lit (.string a)) (.lit (.string b)) = .lit (.bool (decide (a = b))) := by
  show AV.bool (a.toList == b.toList) = _; rw [bytes_eq]
@[simp] theorem av_neq_str : AV.bin .neq (.lit (.string a)) (.lit (.string b)) = .lit (.bool (!decide (a = b))) := by
  show AV.bool (!(a.toList == b.toList)) = _; rw [bytes_eq]
@[simp] theorem av_binOk_eqs : AV.binOk .eql (.lit (.string a)) (.lit (.string b)) ↔ True := Iff.rfl
@[simp] theorem av_binOk_nes : AV.binOk .neq (.lit (.string a)) (.lit (.string b)) ↔ True := Iff.rfl
@[simp] theorem av_binOk_lss : AV.binOk .lss (.lit (.string a)) (.lit (.string b)) ↔ True := Iff.rfl
@[simp] theorem av_binOk_leqs : AV.binOk .leq (.lit (.string a)) (.lit (.string b)) ↔ True := Iff.rfl
@[simp] theorem av_binOk_gts : AV.binOk .gtr (.lit (.string a)) (.lit (.string b)) ↔ True := Iff.rfl
@[simp] theorem av_binOk_ges : AV.binOk .geq (.lit (.string a)) (.lit (.string b)) ↔ True := Iff.rfl
/-- The order of strings: that of their bytes. -/
def key (a : ByteArray) : List UInt8 := a.data.toList
theorem lsle_eq : (Op.bytesLess a.toList b.toList || a.toList == b.toList) = decide (key a ≤ key b) := by
  rw [less_eq, ByteArray.toList_eq, ByteArray.toList_eq]
  unfold key
  by_cases h : a.data.toList ≤ b.data.toList
  · rw [decide_eq_true h]
    by_cases h2 : a.data.toList < b.data.toList
    · simp [h2]
    · have : a.data.toList = b.data.toList := List.le_antisymm h (List.not_lt.1 h2)
      simp [this]
  · rw [decide_eq_false h]
    have h3 := List.not_le.1 h
    have h4 : ¬ a.data.toList < b.data.toList := List.not_lt.2 (List.le_of_lt h3)
    have h5 : a.data.toList ≠ b.data.toList := fun e => h (by rw [e]; exact List.le_refl _)
    rw [decide_eq_false h4, Bool.false_or]
    exact beq_eq_false_iff_ne.2 h5
@[simp] theorem av_lss_str : AV.bin .lss (.lit (.string a)) (.lit (.string b)) = .lit (.bool (decide (key a < key b))) := by
  show AV.bool (Op.bytesLess a.toList b.toList) = _; rw [less_eq, ByteArray.toList_eq, ByteArray.toList_eq]; rfl
@[simp] theorem av_leq_str : AV.bin .leq (.lit (.string a)) (.lit (.string b)) = .lit (.bool (decide (key a ≤ key b))) := by
  show AV.bool (Op.bytesLess a.toList b.toList || a.toList == b.toList) = _; rw [lsle_eq]
@[simp] theorem av_gtr_str : AV.bin .gtr (.lit (.string a)) (.lit (.string b)) = .lit (.bool (!decide (key a ≤ key b))) := by
  show AV.bool (!(Op.bytesLess a.toList b.toList || a.toList == b.toList)) = _; rw [lsle_eq]
@[simp] theorem av_geq_str : AV.bin .geq (.lit (.string a)) (.lit (.string b)) = .lit (.bool (!decide (key a < key b))) := by
  show AV.bool (!Op.bytesLess a.toList b.toList) = _; rw [less_eq, ByteArray.toList_eq, ByteArray.toList_eq]; rfl
@[simp] theorem av_un_not {p : Bool} : AV.un .not (.lit (.bool p)) = .lit (.bool (!p)) := rfl
@[simp] theorem av_unOk_not {p : Bool} : AV.unOk .not (.lit (.bool p)) ↔ True := Iff.rfl
@[simp] theorem av_un_neg {k : IntKind} {n : Int} : AV.un .neg (.lit (.int k n)) = .lit (.int k (k.wrap (0 - n))) := rfl
@[simp] theorem av_unOk_neg {k : IntKind} {n : Int} : AV.unOk .neg (.lit (.int k n)) ↔ True := Iff.rfl
@[simp] theorem av_eqB {p q : Bool} : AV.eqB (.lit (.bool p)) (.lit (.bool q)) = .lit (.bool (p == q)) := rfl
@[simp] theorem av_neB {p q : Bool} : AV.neB (.lit (.bool p)) (.lit (.bool q)) = .lit (.bool (!(p == q))) := rfl
@[simp] theorem av_binOk_adds : AV.binOk .add (.lit (.string a)) (.lit (.string b)) ↔ ((a.size + b.size : Nat) : Int) ≤ 9223372036854775807 := Iff.rfl
@[simp] theorem av_adds : AV.bin .add (.lit (.string a)) (.lit (.string b)) = .lit (.string (a ++ b)) := rfl
@[simp] theorem av_eqc_int {k k' : IntKind} {m n : Int} : AV.eqc (.lit (.int k m)) (.lit (.int k' n)) = (m == n) := rfl
@[simp] theorem av_eqc_bool {p q : Bool} : AV.eqc (.lit (.bool p)) (.lit (.bool q)) = (p == q) := rfl
@[simp] theorem av_eqc_str : AV.eqc (.lit (.string a)) (.lit (.string b)) = decide (a = b) := bytes_eq
@[simp] theorem av_okA_int {k k' : IntKind} {n : Int} : okA (.int k) (.lit (.int k' n)) ↔ k' = k := ⟨fun ⟨_, e⟩ => by injection e with e; injection e, fun e => by subst e; exact ⟨_, rfl⟩⟩
@[simp] theorem av_okA_str : okA .str (.lit (.string a)) ↔ True := ⟨fun _ => trivial, fun _ => ⟨_, rfl⟩⟩
@[simp] theorem av_okA_bool {p : Bool} : okA .bool (.lit (.bool p)) ↔ True := ⟨fun _ => trivial, fun _ => ⟨_, rfl⟩⟩
end
@[simp] theorem av_mkRef {cs : List AV} : AV.mkRef cs = .ref cs := rfl
@[simp] theorem av_mkClo {f : FuncId} {cs : List AV} : AV.mkClo f cs = .clo f cs := rfl
@[simp] theorem av_isRef {cs : List AV} {m : Nat} : AV.isRef (.ref cs) m ↔ cs.length = m := ⟨fun ⟨_, e, h⟩ => by injection e with e; rw [e]; exact h, fun h => ⟨cs, rfl, h⟩⟩
@[simp] theorem av_der {x : AV} {cs : List AV} : AV.der (.ref (x :: cs)) = x := rfl
@[simp] theorem av_derA {cs : List AV} : AV.derA (.ref cs) = .agg cs := rfl
/-- The first place at which p holds; -1: none. -/
def idxN {α : Type} (p : α → Bool) : Nat → List α → Int
  | _, [] => -1
  | n, x :: r => if p x = true then (n : Int) else idxN p (n + 1) r
/-- A nil slice that is not named by its type. -/
inductive NL : AV → AV → Prop
  | refl (x : AV) : NL x x
  | nil (s : Nat) : NL (.lit (.slice none 0 0)) (.sl s [])
  | agg (cs ds : List AV) (h : cs.length = ds.length) (hi : ∀ i, i < cs.length → NL (cs.getD i default) (ds.getD i default)) : NL (.agg cs) (.agg ds)
  | sl (s : Nat) (L L' : List (List AV)) (hl : L.length = L'.length) (hs : ∀ x ∈ L', x.length = s) (hc : ∀ i j, i < L.length → j < s → NL (gt2 L i j) (gt2 L' i j)) : NL (.sl s L) (.sl s L')
theorem NL.rv {w : World} {ok : Nat → Prop} {x y : AV} {v : Value} (h : NL x y) (hv : RV w ok x v) : RV w ok y v := by
  induction h generalizing v with
  | refl x => exact hv
  | nil s => cases hv; exact .sl s [] none 0 0 (fun _ _ => undef) rfl (Nat.le_refl _) (by unfold maxLen; omega) (by simp) (fun q => absurd q (by omega)) (fun i j hi => absurd hi (by omega)) (fun i j hi => absurd hi (by omega))
  | agg cs ds h hi ih =>
    cases hv with
    | agg _ vs h1 h2 h3 => exact .agg ds vs (h1.trans h) (fun i q => h2 i (h ▸ q)) fun i q => ih i (h ▸ q) (h3 i (h ▸ q))
  | sl s L L' hl hs hc ih =>
    cases hv with
    | sl _ _ A n c us hn hnc hcm hs0 hA hone hu => exact .sl s L' A n c us (hl ▸ hn) hnc hcm hs hA hone fun i j hi hj => ih i j (by omega) hj (hu i j hi hj)
inductive NLs : List AV → List AV → Prop
  | nil : NLs [] []
  | cons {x y : AV} {l m : List AV} (h : NL x y) (t : NLs l m) : NLs (x :: l) (y :: m)
theorem NLs.get {l m : List AV} (h : NLs l m) : l.length = m.length ∧ ∀ i, i < l.length → NL (l.getD i default) (m.getD i default) := by
  induction h with
  | nil => exact ⟨rfl, fun i h => absurd h (by simp)⟩
  | cons h t ih =>
    refine ⟨by simp [ih.1], fun i hi => ?_⟩
    cases i with
    | zero => exact h
    | succ i => simpa using ih.2 i (by simpa using hi)
theorem Fn.nl {P : Program} {f : FuncId} {args args' : List AV} {sh : Sh} {r : AV} (h : Fn P f args sh r) (hn : NLs args' args) : Fn P f args' sh r :=
  ⟨h.1, fun w ok cargs h1 hgl h2 h3 => h.2 w ok cargs h1 hgl (h2.trans hn.get.1) fun i hi => (hn.get.2 i (hn.get.1 ▸ hi)).rv (h3 i (hn.get.1 ▸ hi))⟩
end Go.Proofs.Ytaomlgfamnfcjaa
/- Arguments of plain types, opened. -/
namespace Go.Proofs.Ytaomlgfamnfcjaa
open Go.RowKit
set_option linter.unusedVariables false
def I64 (n : Int) : Prop := -9223372036854775808 ≤ n ∧ n ≤ 9223372036854775807
theorem i64_of {n : Int} (h : (Lit.int .i64 n).wf = true) : I64 n := by
  have h' : (IntKind.i64.min ≤ n && n ≤ IntKind.i64.max) = true := h
  simp only [Bool.and_eq_true, decide_eq_true_eq] at h'
  have e1 : IntKind.i64.min = -9223372036854775808 := by decide
  have e2 : IntKind.i64.max = 9223372036854775807 := by decide
  rw [e1, e2] at h'
  exact h'
section
variable {P : Program} {u e : TypeId} {x : AV} {d : Nat}
theorem c_int (hu : P.underlying u = some (.int .i64)) (h : CellOk P (d + 1) u x) : ∃ n, x = .int n ∧ I64 n := by
  obtain ⟨n, e, hw⟩ := cell_int hu h
  exact ⟨n, e, i64_of hw⟩
/-- A slice whose elements are read by 'encA'. -/
theorem c_lst {α : Type} {encA : α → List AV} {Q : α → Prop} {tys : List TypeId} {s : Nat} (hu : P.underlying u = some (.slice e)) (ht : flatTy P 8 e = some tys) (hs : P.cellsOf e = s)
    (hd : ∀ y : List AV, y.length = tys.length → (∀ i u', tys[i]? = some u' → CellOk P d u' (y.getD i default)) → ∃ a, y = encA a ∧ Q a) (h : CellOk P (d + 1) u x) : ∃ l : List α, x = lst s encA l ∧ l.length ≤ maxLen ∧ ∀ a ∈ l, Q a := by
  obtain ⟨L, e1, h1, h2⟩ := cell_sl hu ht hs h
  obtain ⟨l, e2, h3⟩ := list_dec (L := L) (encA := encA) (Q := Q) fun y hy => hd y (h2 y hy).1 (h2 y hy).2
  subst e2
  exact ⟨l, e1, by simpa using h1, h3⟩
end
end Go.Proofs.Ytaomlgfamnfcjaa
/- joint resolutions: what the runs end in. -/
namespace Go.Proofs.Ytaomlgfamnfcjaa
open Go.RowKit
set_option linter.unusedVariables false
set_option maxRecDepth 100000
namespace JtF
--GAMMA
def Γ : FuncId → Option Ca := fun f =>
  if f = 19 ∨ f = 8 ∨ f = 7 ∨ f = 9 ∨ f = 6 ∨ f = 12 ∨ f = 4 ∨ f = 10 ∨ f = 25 ∨ f = 26 ∨ f = 24 ∨ f = 14 then some (.fn .sc)
  else if f = 20 then some (.fn (.tup [.sc, .sc]))
  else if f = 11 then some (.fn (.row 64 6 true))
  else if f = 15 then some (.fn (.tup [.agg [.p, .p], .sc]))
  else if f = 23 then some (.fn (.row 3 1 true))
  else if f = 5 then some (.fn (.tup [.p, .sc, .sc]))
  else if f = 13 then some (.fn (.tup [.p, .sc]))
  else some .inl
def ann : FuncId → Nat → LoopEx := fun f r =>
  if f = 16 then ⟨[1, 2], [], [(1025, 0), (1089, 0)], []⟩
  else if f = 3 ∧ r = 23 then ⟨[], [], [], [(13, 0, 0, 0)]⟩
  else if f = 3 ∧ r = 27 then ⟨[], [3137], [], []⟩
  else ⟨[], [], [], []⟩
--END GAMMA
theorem check_form (x0 r : AV) : fnF Try.prog Γ ann 3 7 Try.f7 (Try.f7.body.getD .skip) (.nil) [x0] (.sc) r = (((AV.isSl x0 1) ∧
((AV.binOk Go.BinOp.gtr (AV.len x0) (AV.int 6)) ∧
((AV.isBool (AV.bin Go.BinOp.gtr (AV.len x0) (AV.int 6))) ∧
(((isT (AV.bin Go.BinOp.gtr (AV.len x0) (AV.int 6))) →
  ((AV.flat (AV.int 2)) ∧
  (fSame (AV.int 2) r))) ∧
((isF (AV.bin Go.BinOp.gtr (AV.len x0) (AV.int 6))) →
  ((AV.isSl x0 1) ∧
  (fLoop 513 [(AV.int 1), (AV.int 0)] fun ys513 again513 =>
    ((AV.binOk Go.BinOp.lss (ys513.getD 1 default) (AV.len x0)) ∧
    ((AV.isBool (AV.bin Go.BinOp.lss (ys513.getD 1 default) (AV.len x0))) ∧
    (((isT (AV.bin Go.BinOp.lss (ys513.getD 1 default) (AV.len x0))) →
      ((AV.isSl x0 1) ∧
      ((AV.inb x0 (ys513.getD 1 default)) ∧
      ((AV.isSl (AV.at x0 (ys513.getD 1 default) 0) 2) ∧
      ((AV.binOk Go.BinOp.eql (AV.len (AV.at x0 (ys513.getD 1 default) 0)) (AV.int 0)) ∧
      ((AV.isBool (AV.bin Go.BinOp.eql (AV.len (AV.at x0 (ys513.getD 1 default) 0)) (AV.int 0))) ∧
      (((isT (AV.bin Go.BinOp.eql (AV.len (AV.at x0 (ys513.getD 1 default) 0)) (AV.int 0))) →
        ((AV.flat (AV.int 8)) ∧
        (fSame (AV.int 8) r))) ∧
      ((isF (AV.bin Go.BinOp.eql (AV.len (AV.at x0 (ys513.getD 1 default) 0)) (AV.int 0))) →
        ((AV.isSl (AV.at x0 (ys513.getD 1 default) 0) 2) ∧
        ((AV.binOk Go.BinOp.gtr (AV.len (AV.at x0 (ys513.getD 1 default) 0)) (AV.int 8)) ∧
        ((AV.isBool (AV.bin Go.BinOp.gtr (AV.len (AV.at x0 (ys513.getD 1 default) 0)) (AV.int 8))) ∧
        (((isT (AV.bin Go.BinOp.gtr (AV.len (AV.at x0 (ys513.getD 1 default) 0)) (AV.int 8))) →
          ((AV.flat (AV.int 2)) ∧
          (fSame (AV.int 2) r))) ∧
        ((isF (AV.bin Go.BinOp.gtr (AV.len (AV.at x0 (ys513.getD 1 default) 0)) (AV.int 8))) →
          ((AV.isSl (AV.at x0 (ys513.getD 1 default) 0) 2) ∧
          ((AV.binOk Go.BinOp.mul (ys513.getD 0 default) (AV.len (AV.at x0 (ys513.getD 1 default) 0))) ∧
          ((AV.binOk Go.BinOp.gtr (AV.bin Go.BinOp.mul (ys513.getD 0 default) (AV.len (AV.at x0 (ys513.getD 1 default) 0))) (AV.int 5000)) ∧
          ((AV.isBool (AV.bin Go.BinOp.gtr (AV.bin Go.BinOp.mul (ys513.getD 0 default) (AV.len (AV.at x0 (ys513.getD 1 default) 0))) (AV.int 5000))) ∧
          (((isT (AV.bin Go.BinOp.gtr (AV.bin Go.BinOp.mul (ys513.getD 0 default) (AV.len (AV.at x0 (ys513.getD 1 default) 0))) (AV.int 5000))) →
            ((AV.flat (AV.int 2)) ∧
            (fSame (AV.int 2) r))) ∧
          ((isF (AV.bin Go.BinOp.gtr (AV.bin Go.BinOp.mul (ys513.getD 0 default) (AV.len (AV.at x0 (ys513.getD 1 default) 0))) (AV.int 5000))) →
            ((AV.isSl (AV.at x0 (ys513.getD 1 default) 0) 2) ∧
            (fLoop 1921 [(AV.int 0)] fun ys1921 again1921 =>
              ((AV.binOk Go.BinOp.lss (ys1921.getD 0 default) (AV.len (AV.at x0 (ys513.getD 1 default) 0))) ∧
              ((AV.isBool (AV.bin Go.BinOp.lss (ys1921.getD 0 default) (AV.len (AV.at x0 (ys513.getD 1 default) 0)))) ∧
              (((isT (AV.bin Go.BinOp.lss (ys1921.getD 0 default) (AV.len (AV.at x0 (ys513.getD 1 default) 0)))) →
                ((AV.isSl (AV.at x0 (ys513.getD 1 default) 0) 2) ∧
                ((AV.inb (AV.at x0 (ys513.getD 1 default) 0) (ys1921.getD 0 default)) ∧
                ((AV.isAgg (AV.atAgg (AV.at x0 (ys513.getD 1 default) 0) (ys1921.getD 0 default) 0 2) 2) ∧
                ((AV.binOk Go.BinOp.lss (AV.cel (AV.atAgg (AV.at x0 (ys513.getD 1 default) 0) (ys1921.getD 0 default) 0 2) 0) (AV.int 0)) ∧
                ((AV.isBool (AV.bin Go.BinOp.lss (AV.cel (AV.atAgg (AV.at x0 (ys513.getD 1 default) 0) (ys1921.getD 0 default) 0 2) 0) (AV.int 0))) ∧
                (((isT (AV.bin Go.BinOp.lss (AV.cel (AV.atAgg (AV.at x0 (ys513.getD 1 default) 0) (ys1921.getD 0 default) 0 2) 0) (AV.int 0))) →
                  ((AV.isBool (AV.bin Go.BinOp.lss (AV.cel (AV.atAgg (AV.at x0 (ys513.getD 1 default) 0) (ys1921.getD 0 default) 0 2) 0) (AV.int 0))) ∧
                  ((isT (AV.bin Go.BinOp.lss (AV.cel (AV.atAgg (AV.at x0 (ys513.getD 1 default) 0) (ys1921.getD 0 default) 0 2) 0) (AV.int 0))) ∧
                  ((AV.flat (AV.int 4)) ∧
                  (fSame (AV.int 4) r))))) ∧
                ((isF (AV.bin Go.BinOp.lss (AV.cel (AV.atAgg (AV.at x0 (ys513.getD 1 default) 0) (ys1921.getD 0 default) 0 2) 0) (AV.int 0))) →
                  ((AV.binOk Go.BinOp.gtr (AV.cel (AV.atAgg (AV.at x0 (ys513.getD 1 default) 0) (ys1921.getD 0 default) 0 2) 0) (AV.int 1000000)) ∧
                  ((AV.isBool (AV.bin Go.BinOp.lss (AV.cel (AV.atAgg (AV.at x0 (ys513.getD 1 default) 0) (ys1921.getD 0 default) 0 2) 0) (AV.int 0))) ∧
                  ((isF (AV.bin Go.BinOp.lss (AV.cel (AV.atAgg (AV.at x0 (ys513.getD 1 default) 0) (ys1921.getD 0 default) 0 2) 0) (AV.int 0))) ∧
                  ((AV.isBool (AV.bin Go.BinOp.gtr (AV.cel (AV.atAgg (AV.at x0 (ys513.getD 1 default) 0) (ys1921.getD 0 default) 0 2) 0) (AV.int 1000000))) ∧
                  (((isT (AV.bin Go.BinOp.gtr (AV.cel (AV.atAgg (AV.at x0 (ys513.getD 1 default) 0) (ys1921.getD 0 default) 0 2) 0) (AV.int 1000000))) →
                    ((AV.flat (AV.int 4)) ∧
                    (fSame (AV.int 4) r))) ∧
                  ((isF (AV.bin Go.BinOp.gtr (AV.cel (AV.atAgg (AV.at x0 (ys513.getD 1 default) 0) (ys1921.getD 0 default) 0 2) 0) (AV.int 1000000))) →
                    (∃ r2881 : AV, ((Fn Try.prog 19 [(AV.cel (AV.atAgg (AV.at x0 (ys513.getD 1 default) 0) (ys1921.getD 0 default) 0 2) 1)] Sh.sc r2881) ∧
                    ((AV.binOk Go.BinOp.neq r2881 (AV.int 0)) ∧
                    ((AV.isBool (AV.bin Go.BinOp.neq r2881 (AV.int 0))) ∧
                    (((isT (AV.bin Go.BinOp.neq r2881 (AV.int 0))) →
                      ((AV.flat r2881) ∧
                      (fSame r2881 r))) ∧
                    ((isF (AV.bin Go.BinOp.neq r2881 (AV.int 0))) →
                      ((AV.binOk Go.BinOp.add (ys1921.getD 0 default) (AV.int 1)) ∧
                      (again1921 [(AV.bin Go.BinOp.add (ys1921.getD 0 default) (AV.int 1))])))))))))))))))))))))) ∧
              ((isF (AV.bin Go.BinOp.lss (ys1921.getD 0 default) (AV.len (AV.at x0 (ys513.getD 1 default) 0)))) →
                ((AV.binOk Go.BinOp.add (ys513.getD 1 default) (AV.int 1)) ∧
                (again513 [(AV.bin Go.BinOp.mul (ys513.getD 0 default) (AV.len (AV.at x0 (ys513.getD 1 default) 0))), (AV.bin Go.BinOp.add (ys513.getD 1 default) (AV.int 1))]))))))))))))))))))))))))))) ∧
    ((isF (AV.bin Go.BinOp.lss (ys513.getD 1 default) (AV.len x0))) →
      ((AV.flat (AV.int 0)) ∧
      (fSame (AV.int 0) r)))))))))))))) := by kernel_rfl
theorem with_form (x0 x1 r : AV) : fnF Try.prog Γ ann 3 26 Try.f26 (Try.f26.body.getD .skip) (.nil) [x0, x1] (.sc) r = (((AV.isAgg x0 2) ∧
((AV.isSl x1 1) ∧
((AV.binOk Go.BinOp.sub (AV.len x1) (AV.int 1)) ∧
(fLoop 513 [(AV.int 0)] fun ys513 again513 =>
  ((AV.binOk Go.BinOp.lss (ys513.getD 0 default) (AV.bin Go.BinOp.sub (AV.len x1) (AV.int 1))) ∧
  ((AV.isBool (AV.bin Go.BinOp.lss (ys513.getD 0 default) (AV.bin Go.BinOp.sub (AV.len x1) (AV.int 1)))) ∧
  (((isT (AV.bin Go.BinOp.lss (ys513.getD 0 default) (AV.bin Go.BinOp.sub (AV.len x1) (AV.int 1)))) →
    ((AV.isSl x1 1) ∧
    ((AV.inb x1 (ys513.getD 0 default)) ∧
    ((AV.isSl x1 1) ∧
    ((AV.inb x1 (AV.bin Go.BinOp.sub (AV.len x1) (AV.int 1))) ∧
    ((AV.isOne (ys513.getD 0 default)) ∧
    ((AV.isOne (AV.bin Go.BinOp.sub (AV.len x1) (AV.int 1))) ∧
    ((AV.isOne (AV.at x1 (ys513.getD 0 default) 0)) ∧
    ((AV.isOne (AV.at x1 (AV.bin Go.BinOp.sub (AV.len x1) (AV.int 1)) 0)) ∧
    ((AV.isMp (AV.cel x0 1) 4) ∧
    ((AV.mkey [(ys513.getD 0 default), (AV.bin Go.BinOp.sub (AV.len x1) (AV.int 1)), (AV.at x1 (ys513.getD 0 default) 0), (AV.at x1 (AV.bin Go.BinOp.sub (AV.len x1) (AV.int 1)) 0)]) ∧
    ((AV.isBool (AV.mget (AV.cel x0 1) [(ys513.getD 0 default), (AV.bin Go.BinOp.sub (AV.len x1) (AV.int 1)), (AV.at x1 (ys513.getD 0 default) 0), (AV.at x1 (AV.bin Go.BinOp.sub (AV.len x1) (AV.int 1)) 0)])) ∧
    (((isT (AV.mget (AV.cel x0 1) [(ys513.getD 0 default), (AV.bin Go.BinOp.sub (AV.len x1) (AV.int 1)), (AV.at x1 (ys513.getD 0 default) 0), (AV.at x1 (AV.bin Go.BinOp.sub (AV.len x1) (AV.int 1)) 0)])) →
      ((AV.flat (ys513.getD 0 default)) ∧
      (fSame (ys513.getD 0 default) r))) ∧
    ((isF (AV.mget (AV.cel x0 1) [(ys513.getD 0 default), (AV.bin Go.BinOp.sub (AV.len x1) (AV.int 1)), (AV.at x1 (ys513.getD 0 default) 0), (AV.at x1 (AV.bin Go.BinOp.sub (AV.len x1) (AV.int 1)) 0)])) →
      ((AV.binOk Go.BinOp.add (ys513.getD 0 default) (AV.int 1)) ∧
      (again513 [(AV.bin Go.BinOp.add (ys513.getD 0 default) (AV.int 1))])))))))))))))))) ∧
  ((isF (AV.bin Go.BinOp.lss (ys513.getD 0 default) (AV.bin Go.BinOp.sub (AV.len x1) (AV.int 1)))) →
    ((AV.flat (AV.int (-1))) ∧
    (fSame (AV.int (-1)) r))))))))))) := by kernel_rfl
theorem good_form (x0 x1 r : AV) : fnF Try.prog Γ ann 3 24 Try.f24 (Try.f24.body.getD .skip) (.nil) [x0, x1] (.sc) r = (((AV.isAgg x0 2) ∧
((AV.isAgg x1 2) ∧
((AV.isSl (AV.cel x1 0) 1) ∧
((AV.binOk Go.BinOp.lss (AV.len (AV.cel x1 0)) (AV.int 2)) ∧
((AV.isBool (AV.bin Go.BinOp.lss (AV.len (AV.cel x1 0)) (AV.int 2))) ∧
(((isT (AV.bin Go.BinOp.lss (AV.len (AV.cel x1 0)) (AV.int 2))) →
  ((AV.isBool (AV.bin Go.BinOp.lss (AV.len (AV.cel x1 0)) (AV.int 2))) ∧
  ((isT (AV.bin Go.BinOp.lss (AV.len (AV.cel x1 0)) (AV.int 2))) ∧
  ((AV.flat (AV.bool false)) ∧
  (fSame (AV.bool false) r))))) ∧
((isF (AV.bin Go.BinOp.lss (AV.len (AV.cel x1 0)) (AV.int 2))) →
  ((AV.isSl (AV.cel x0 0) 1) ∧
  ((AV.binOk Go.BinOp.gtr (AV.len (AV.cel x1 0)) (AV.len (AV.cel x0 0))) ∧
  ((AV.isBool (AV.bin Go.BinOp.lss (AV.len (AV.cel x1 0)) (AV.int 2))) ∧
  ((isF (AV.bin Go.BinOp.lss (AV.len (AV.cel x1 0)) (AV.int 2))) ∧
  ((AV.isBool (AV.bin Go.BinOp.gtr (AV.len (AV.cel x1 0)) (AV.len (AV.cel x0 0)))) ∧
  (((isT (AV.bin Go.BinOp.gtr (AV.len (AV.cel x1 0)) (AV.len (AV.cel x0 0)))) →
    ((AV.isBool (AV.bin Go.BinOp.gtr (AV.len (AV.cel x1 0)) (AV.len (AV.cel x0 0)))) ∧
    ((isT (AV.bin Go.BinOp.gtr (AV.len (AV.cel x1 0)) (AV.len (AV.cel x0 0)))) ∧
    ((AV.flat (AV.bool false)) ∧
    (fSame (AV.bool false) r))))) ∧
  ((isF (AV.bin Go.BinOp.gtr (AV.len (AV.cel x1 0)) (AV.len (AV.cel x0 0)))) →
    ((AV.binOk Go.BinOp.lss (AV.cel x1 1) (AV.int 0)) ∧
    ((AV.isBool (AV.bin Go.BinOp.gtr (AV.len (AV.cel x1 0)) (AV.len (AV.cel x0 0)))) ∧
    ((isF (AV.bin Go.BinOp.gtr (AV.len (AV.cel x1 0)) (AV.len (AV.cel x0 0)))) ∧
    ((AV.isBool (AV.bin Go.BinOp.lss (AV.cel x1 1) (AV.int 0))) ∧
    (((isT (AV.bin Go.BinOp.lss (AV.cel x1 1) (AV.int 0))) →
      ((AV.isBool (AV.bin Go.BinOp.lss (AV.cel x1 1) (AV.int 0))) ∧
      ((isT (AV.bin Go.BinOp.lss (AV.cel x1 1) (AV.int 0))) ∧
      ((AV.flat (AV.bool false)) ∧
      (fSame (AV.bool false) r))))) ∧
    ((isF (AV.bin Go.BinOp.lss (AV.cel x1 1) (AV.int 0))) →
      ((AV.binOk Go.BinOp.sub (AV.len (AV.cel x1 0)) (AV.int 1)) ∧
      ((AV.binOk Go.BinOp.geq (AV.cel x1 1) (AV.bin Go.BinOp.sub (AV.len (AV.cel x1 0)) (AV.int 1))) ∧
      ((AV.isBool (AV.bin Go.BinOp.lss (AV.cel x1 1) (AV.int 0))) ∧
      ((isF (AV.bin Go.BinOp.lss (AV.cel x1 1) (AV.int 0))) ∧
      ((AV.isBool (AV.bin Go.BinOp.geq (AV.cel x1 1) (AV.bin Go.BinOp.sub (AV.len (AV.cel x1 0)) (AV.int 1)))) ∧
      (((isT (AV.bin Go.BinOp.geq (AV.cel x1 1) (AV.bin Go.BinOp.sub (AV.len (AV.cel x1 0)) (AV.int 1)))) →
        ((AV.flat (AV.bool false)) ∧
        (fSame (AV.bool false) r))) ∧
      ((isF (AV.bin Go.BinOp.geq (AV.cel x1 1) (AV.bin Go.BinOp.sub (AV.len (AV.cel x1 0)) (AV.int 1)))) →
        ((AV.isSl (AV.cel x1 0) 1) ∧
        (fLoop 2049 [(AV.int 0)] fun ys2049 again2049 =>
          ((AV.binOk Go.BinOp.lss (ys2049.getD 0 default) (AV.len (AV.cel x1 0))) ∧
          ((AV.isBool (AV.bin Go.BinOp.lss (ys2049.getD 0 default) (AV.len (AV.cel x1 0)))) ∧
          (((isT (AV.bin Go.BinOp.lss (ys2049.getD 0 default) (AV.len (AV.cel x1 0)))) →
            ((AV.isSl (AV.cel x1 0) 1) ∧
            ((AV.inb (AV.cel x1 0) (ys2049.getD 0 default)) ∧
            ((AV.binOk Go.BinOp.lss (AV.at (AV.cel x1 0) (ys2049.getD 0 default) 0) (AV.int 0)) ∧
            ((AV.isBool (AV.bin Go.BinOp.lss (AV.at (AV.cel x1 0) (ys2049.getD 0 default) 0) (AV.int 0))) ∧
            (((isT (AV.bin Go.BinOp.lss (AV.at (AV.cel x1 0) (ys2049.getD 0 default) 0) (AV.int 0))) →
              ((AV.isBool (AV.bin Go.BinOp.lss (AV.at (AV.cel x1 0) (ys2049.getD 0 default) 0) (AV.int 0))) ∧
              ((isT (AV.bin Go.BinOp.lss (AV.at (AV.cel x1 0) (ys2049.getD 0 default) 0) (AV.int 0))) ∧
              ((AV.flat (AV.bool false)) ∧
              (fSame (AV.bool false) r))))) ∧
            ((isF (AV.bin Go.BinOp.lss (AV.at (AV.cel x1 0) (ys2049.getD 0 default) 0) (AV.int 0))) →
              ((AV.isSl (AV.cel x0 0) 1) ∧
              ((AV.inb (AV.cel x0 0) (ys2049.getD 0 default)) ∧
              ((AV.isSl (AV.at (AV.cel x0 0) (ys2049.getD 0 default) 0) 2) ∧
              ((AV.binOk Go.BinOp.geq (AV.at (AV.cel x1 0) (ys2049.getD 0 default) 0) (AV.len (AV.at (AV.cel x0 0) (ys2049.getD 0 default) 0))) ∧
              ((AV.isBool (AV.bin Go.BinOp.lss (AV.at (AV.cel x1 0) (ys2049.getD 0 default) 0) (AV.int 0))) ∧
              ((isF (AV.bin Go.BinOp.lss (AV.at (AV.cel x1 0) (ys2049.getD 0 default) 0) (AV.int 0))) ∧
              ((AV.isBool (AV.bin Go.BinOp.geq (AV.at (AV.cel x1 0) (ys2049.getD 0 default) 0) (AV.len (AV.at (AV.cel x0 0) (ys2049.getD 0 default) 0)))) ∧
              (((isT (AV.bin Go.BinOp.geq (AV.at (AV.cel x1 0) (ys2049.getD 0 default) 0) (AV.len (AV.at (AV.cel x0 0) (ys2049.getD 0 default) 0)))) →
                ((AV.flat (AV.bool false)) ∧
                (fSame (AV.bool false) r))) ∧
              ((isF (AV.bin Go.BinOp.geq (AV.at (AV.cel x1 0) (ys2049.getD 0 default) 0) (AV.len (AV.at (AV.cel x0 0) (ys2049.getD 0 default) 0)))) →
                ((AV.binOk Go.BinOp.add (ys2049.getD 0 default) (AV.int 1)) ∧
                (again2049 [(AV.bin Go.BinOp.add (ys2049.getD 0 default) (AV.int 1))])))))))))))))))))) ∧
          ((isF (AV.bin Go.BinOp.lss (ys2049.getD 0 default) (AV.len (AV.cel x1 0)))) →
            ((AV.binOk Go.BinOp.sub (AV.len (AV.cel x1 0)) (AV.int 1)) ∧
            ((AV.isSl (AV.cel x1 0) 1) ∧
            ((AV.inb (AV.cel x1 0) (AV.cel x1 1)) ∧
            ((AV.binOk Go.BinOp.sub (AV.len (AV.cel x1 0)) (AV.int 1)) ∧
            ((AV.isSl (AV.cel x1 0) 1) ∧
            ((AV.inb (AV.cel x1 0) (AV.bin Go.BinOp.sub (AV.len (AV.cel x1 0)) (AV.int 1))) ∧
            ((AV.isOne (AV.cel x1 1)) ∧
            ((AV.isOne (AV.bin Go.BinOp.sub (AV.len (AV.cel x1 0)) (AV.int 1))) ∧
            ((AV.isOne (AV.at (AV.cel x1 0) (AV.cel x1 1) 0)) ∧
            ((AV.isOne (AV.at (AV.cel x1 0) (AV.bin Go.BinOp.sub (AV.len (AV.cel x1 0)) (AV.int 1)) 0)) ∧
            ((AV.isMp (AV.cel x0 1) 4) ∧
            ((AV.mkey [(AV.cel x1 1), (AV.bin Go.BinOp.sub (AV.len (AV.cel x1 0)) (AV.int 1)), (AV.at (AV.cel x1 0) (AV.cel x1 1) 0), (AV.at (AV.cel x1 0) (AV.bin Go.BinOp.sub (AV.len (AV.cel x1 0)) (AV.int 1)) 0)]) ∧
            ((AV.flat (AV.mget (AV.cel x0 1) [(AV.cel x1 1), (AV.bin Go.BinOp.sub (AV.len (AV.cel x1 0)) (AV.int 1)), (AV.at (AV.cel x1 0) (AV.cel x1 1) 0), (AV.at (AV.cel x1 0) (AV.bin Go.BinOp.sub (AV.len (AV.cel x1 0)) (AV.int 1)) 0)])) ∧
            (fSame (AV.mget (AV.cel x0 1) [(AV.cel x1 1), (AV.bin Go.BinOp.sub (AV.len (AV.cel x1 0)) (AV.int 1)), (AV.at (AV.cel x1 0) (AV.cel x1 1) 0), (AV.at (AV.cel x1 0) (AV.bin Go.BinOp.sub (AV.len (AV.cel x1 0)) (AV.int 1)) 0)]) r)))))))))))))))))))))))))))))))))))))))))))))))) := by kernel_rfl
theorem clone_form (x0 r : AV) : fnF Try.prog Γ ann 3 23 Try.f23 (Try.f23.body.getD .skip) (.nil) [x0] (.row 3 1 true) r = ((fNil x0
  ((AV.flatS (AV.mk 1 [])) ∧
  (fSame (AV.mk 1 []) r))
  ((AV.isSl x0 1) ∧
  ((AV.room (AV.mk 1 []) x0 8) ∧
  ((AV.flatS (AV.app 1 (AV.mk 1 []) x0)) ∧
  (fSame (AV.app 1 (AV.mk 1 []) x0) r)))))) := by kernel_rfl
theorem equal_form (x0 x1 r : AV) : fnF Try.prog Γ ann 3 10 Try.f10 (Try.f10.body.getD .skip) (.nil) [x0, x1] (.sc) r = (((AV.isSl x0 1) ∧
((AV.isSl x1 1) ∧
((AV.binOk Go.BinOp.neq (AV.len x0) (AV.len x1)) ∧
((AV.isBool (AV.bin Go.BinOp.neq (AV.len x0) (AV.len x1))) ∧
(((isT (AV.bin Go.BinOp.neq (AV.len x0) (AV.len x1))) →
  ((AV.flat (AV.bool false)) ∧
  (fSame (AV.bool false) r))) ∧
((isF (AV.bin Go.BinOp.neq (AV.len x0) (AV.len x1))) →
  ((AV.isSl x0 1) ∧
  (fLoop 577 [(AV.int 0)] fun ys577 again577 =>
    ((AV.binOk Go.BinOp.lss (ys577.getD 0 default) (AV.len x0)) ∧
    ((AV.isBool (AV.bin Go.BinOp.lss (ys577.getD 0 default) (AV.len x0))) ∧
    (((isT (AV.bin Go.BinOp.lss (ys577.getD 0 default) (AV.len x0))) →
      ((AV.isSl x0 1) ∧
      ((AV.inb x0 (ys577.getD 0 default)) ∧
      ((AV.isSl x1 1) ∧
      ((AV.inb x1 (ys577.getD 0 default)) ∧
      ((AV.binOk Go.BinOp.neq (AV.at x0 (ys577.getD 0 default) 0) (AV.at x1 (ys577.getD 0 default) 0)) ∧
      ((AV.isBool (AV.bin Go.BinOp.neq (AV.at x0 (ys577.getD 0 default) 0) (AV.at x1 (ys577.getD 0 default) 0))) ∧
      (((isT (AV.bin Go.BinOp.neq (AV.at x0 (ys577.getD 0 default) 0) (AV.at x1 (ys577.getD 0 default) 0))) →
        ((AV.flat (AV.bool false)) ∧
        (fSame (AV.bool false) r))) ∧
      ((isF (AV.bin Go.BinOp.neq (AV.at x0 (ys577.getD 0 default) 0) (AV.at x1 (ys577.getD 0 default) 0))) →
        ((AV.binOk Go.BinOp.add (ys577.getD 0 default) (AV.int 1)) ∧
        (again577 [(AV.bin Go.BinOp.add (ys577.getD 0 default) (AV.int 1))]))))))))))) ∧
    ((isF (AV.bin Go.BinOp.lss (ys577.getD 0 default) (AV.len x0))) →
      ((AV.flat (AV.bool true)) ∧
      (fSame (AV.bool true) r))))))))))))))) := by kernel_rfl
theorem oerr_form (x0 r : AV) : fnF Try.prog Γ ann 3 6 Try.f6 (Try.f6.body.getD .skip) (.nil) [x0] (.sc) r = (((AV.isSl x0 1) ∧
((AV.binOk Go.BinOp.gtr (AV.len x0) (AV.int 6)) ∧
((AV.isBool (AV.bin Go.BinOp.gtr (AV.len x0) (AV.int 6))) ∧
(((isT (AV.bin Go.BinOp.gtr (AV.len x0) (AV.int 6))) →
  ((AV.flat (AV.int 2)) ∧
  (fSame (AV.int 2) r))) ∧
((isF (AV.bin Go.BinOp.gtr (AV.len x0) (AV.int 6))) →
  ((AV.isSl x0 1) ∧
  (fLoop 513 [(AV.int 1), (AV.int 0)] fun ys513 again513 =>
    ((AV.binOk Go.BinOp.lss (ys513.getD 1 default) (AV.len x0)) ∧
    ((AV.isBool (AV.bin Go.BinOp.lss (ys513.getD 1 default) (AV.len x0))) ∧
    (((isT (AV.bin Go.BinOp.lss (ys513.getD 1 default) (AV.len x0))) →
      ((AV.isSl x0 1) ∧
      ((AV.inb x0 (ys513.getD 1 default)) ∧
      ((AV.isSl (AV.at x0 (ys513.getD 1 default) 0) 2) ∧
      ((AV.binOk Go.BinOp.eql (AV.len (AV.at x0 (ys513.getD 1 default) 0)) (AV.int 0)) ∧
      ((AV.isBool (AV.bin Go.BinOp.eql (AV.len (AV.at x0 (ys513.getD 1 default) 0)) (AV.int 0))) ∧
      (((isT (AV.bin Go.BinOp.eql (AV.len (AV.at x0 (ys513.getD 1 default) 0)) (AV.int 0))) →
        ((AV.flat (AV.int 8)) ∧
        (fSame (AV.int 8) r))) ∧
      ((isF (AV.bin Go.BinOp.eql (AV.len (AV.at x0 (ys513.getD 1 default) 0)) (AV.int 0))) →
        ((AV.isSl (AV.at x0 (ys513.getD 1 default) 0) 2) ∧
        ((AV.binOk Go.BinOp.gtr (AV.len (AV.at x0 (ys513.getD 1 default) 0)) (AV.int 8)) ∧
        ((AV.isBool (AV.bin Go.BinOp.gtr (AV.len (AV.at x0 (ys513.getD 1 default) 0)) (AV.int 8))) ∧
        (((isT (AV.bin Go.BinOp.gtr (AV.len (AV.at x0 (ys513.getD 1 default) 0)) (AV.int 8))) →
          ((AV.isBool (AV.bin Go.BinOp.gtr (AV.len (AV.at x0 (ys513.getD 1 default) 0)) (AV.int 8))) ∧
          ((isT (AV.bin Go.BinOp.gtr (AV.len (AV.at x0 (ys513.getD 1 default) 0)) (AV.int 8))) ∧
          ((AV.flat (AV.int 2)) ∧
          (fSame (AV.int 2) r))))) ∧
        ((isF (AV.bin Go.BinOp.gtr (AV.len (AV.at x0 (ys513.getD 1 default) 0)) (AV.int 8))) →
          ((AV.isSl (AV.at x0 (ys513.getD 1 default) 0) 2) ∧
          ((AV.binOk Go.BinOp.mul (ys513.getD 0 default) (AV.len (AV.at x0 (ys513.getD 1 default) 0))) ∧
          ((AV.binOk Go.BinOp.gtr (AV.bin Go.BinOp.mul (ys513.getD 0 default) (AV.len (AV.at x0 (ys513.getD 1 default) 0))) (AV.int 5000)) ∧
          ((AV.isBool (AV.bin Go.BinOp.gtr (AV.len (AV.at x0 (ys513.getD 1 default) 0)) (AV.int 8))) ∧
          ((isF (AV.bin Go.BinOp.gtr (AV.len (AV.at x0 (ys513.getD 1 default) 0)) (AV.int 8))) ∧
          ((AV.isBool (AV.bin Go.BinOp.gtr (AV.bin Go.BinOp.mul (ys513.getD 0 default) (AV.len (AV.at x0 (ys513.getD 1 default) 0))) (AV.int 5000))) ∧
          (((isT (AV.bin Go.BinOp.gtr (AV.bin Go.BinOp.mul (ys513.getD 0 default) (AV.len (AV.at x0 (ys513.getD 1 default) 0))) (AV.int 5000))) →
            ((AV.flat (AV.int 2)) ∧
            (fSame (AV.int 2) r))) ∧
          ((isF (AV.bin Go.BinOp.gtr (AV.bin Go.BinOp.mul (ys513.getD 0 default) (AV.len (AV.at x0 (ys513.getD 1 default) 0))) (AV.int 5000))) →
            ((AV.isSl (AV.at x0 (ys513.getD 1 default) 0) 2) ∧
            ((AV.binOk Go.BinOp.mul (ys513.getD 0 default) (AV.len (AV.at x0 (ys513.getD 1 default) 0))) ∧
            ((AV.isSl (AV.at x0 (ys513.getD 1 default) 0) 2) ∧
            (fLoop 2113 [(AV.int 0)] fun ys2113 again2113 =>
              ((AV.binOk Go.BinOp.lss (ys2113.getD 0 default) (AV.len (AV.at x0 (ys513.getD 1 default) 0))) ∧
              ((AV.isBool (AV.bin Go.BinOp.lss (ys2113.getD 0 default) (AV.len (AV.at x0 (ys513.getD 1 default) 0)))) ∧
              (((isT (AV.bin Go.BinOp.lss (ys2113.getD 0 default) (AV.len (AV.at x0 (ys513.getD 1 default) 0)))) →
                ((AV.isSl (AV.at x0 (ys513.getD 1 default) 0) 2) ∧
                ((AV.inb (AV.at x0 (ys513.getD 1 default) 0) (ys2113.getD 0 default)) ∧
                ((AV.isAgg (AV.atAgg (AV.at x0 (ys513.getD 1 default) 0) (ys2113.getD 0 default) 0 2) 2) ∧
                ((AV.binOk Go.BinOp.lss (AV.cel (AV.atAgg (AV.at x0 (ys513.getD 1 default) 0) (ys2113.getD 0 default) 0 2) 0) (AV.int 0)) ∧
                ((AV.isBool (AV.bin Go.BinOp.lss (AV.cel (AV.atAgg (AV.at x0 (ys513.getD 1 default) 0) (ys2113.getD 0 default) 0 2) 0) (AV.int 0))) ∧
                (((isT (AV.bin Go.BinOp.lss (AV.cel (AV.atAgg (AV.at x0 (ys513.getD 1 default) 0) (ys2113.getD 0 default) 0 2) 0) (AV.int 0))) →
                  ((AV.isBool (AV.bin Go.BinOp.lss (AV.cel (AV.atAgg (AV.at x0 (ys513.getD 1 default) 0) (ys2113.getD 0 default) 0 2) 0) (AV.int 0))) ∧
                  ((isT (AV.bin Go.BinOp.lss (AV.cel (AV.atAgg (AV.at x0 (ys513.getD 1 default) 0) (ys2113.getD 0 default) 0 2) 0) (AV.int 0))) ∧
                  ((AV.flat (AV.int 4)) ∧
                  (fSame (AV.int 4) r))))) ∧
                ((isF (AV.bin Go.BinOp.lss (AV.cel (AV.atAgg (AV.at x0 (ys513.getD 1 default) 0) (ys2113.getD 0 default) 0 2) 0) (AV.int 0))) →
                  ((AV.binOk Go.BinOp.gtr (AV.cel (AV.atAgg (AV.at x0 (ys513.getD 1 default) 0) (ys2113.getD 0 default) 0 2) 0) (AV.int 1000000)) ∧
                  ((AV.isBool (AV.bin Go.BinOp.lss (AV.cel (AV.atAgg (AV.at x0 (ys513.getD 1 default) 0) (ys2113.getD 0 default) 0 2) 0) (AV.int 0))) ∧
                  ((isF (AV.bin Go.BinOp.lss (AV.cel (AV.atAgg (AV.at x0 (ys513.getD 1 default) 0) (ys2113.getD 0 default) 0 2) 0) (AV.int 0))) ∧
                  ((AV.isBool (AV.bin Go.BinOp.gtr (AV.cel (AV.atAgg (AV.at x0 (ys513.getD 1 default) 0) (ys2113.getD 0 default) 0 2) 0) (AV.int 1000000))) ∧
                  (((isT (AV.bin Go.BinOp.gtr (AV.cel (AV.atAgg (AV.at x0 (ys513.getD 1 default) 0) (ys2113.getD 0 default) 0 2) 0) (AV.int 1000000))) →
                    ((AV.flat (AV.int 4)) ∧
                    (fSame (AV.int 4) r))) ∧
                  ((isF (AV.bin Go.BinOp.gtr (AV.cel (AV.atAgg (AV.at x0 (ys513.getD 1 default) 0) (ys2113.getD 0 default) 0 2) 0) (AV.int 1000000))) →
                    (∃ r3073 : AV, ((Fn Try.prog 19 [(AV.cel (AV.atAgg (AV.at x0 (ys513.getD 1 default) 0) (ys2113.getD 0 default) 0 2) 1)] Sh.sc r3073) ∧
                    ((AV.binOk Go.BinOp.neq r3073 (AV.int 0)) ∧
                    ((AV.isBool (AV.bin Go.BinOp.neq r3073 (AV.int 0))) ∧
                    (((isT (AV.bin Go.BinOp.neq r3073 (AV.int 0))) →
                      ((AV.flat r3073) ∧
                      (fSame r3073 r))) ∧
                    ((isF (AV.bin Go.BinOp.neq r3073 (AV.int 0))) →
                      ((AV.binOk Go.BinOp.add (ys2113.getD 0 default) (AV.int 1)) ∧
                      (again2113 [(AV.bin Go.BinOp.add (ys2113.getD 0 default) (AV.int 1))])))))))))))))))))))))) ∧
              ((isF (AV.bin Go.BinOp.lss (ys2113.getD 0 default) (AV.len (AV.at x0 (ys513.getD 1 default) 0)))) →
                ((AV.binOk Go.BinOp.add (ys513.getD 1 default) (AV.int 1)) ∧
                (again513 [(AV.bin Go.BinOp.mul (ys513.getD 0 default) (AV.len (AV.at x0 (ys513.getD 1 default) 0))), (AV.bin Go.BinOp.add (ys513.getD 1 default) (AV.int 1))]))))))))))))))))))))))))))))))) ∧
    ((isF (AV.bin Go.BinOp.lss (ys513.getD 1 default) (AV.len x0))) →
      ((AV.flat (AV.int 0)) ∧
      (fSame (AV.int 0) r)))))))))))))) := by kernel_rfl
theorem best_form (x0 x1 r : AV) : fnF Try.prog Γ ann 3 5 Try.f5 (Try.f5.body.getD .skip) (.nil) [x0, x1] (.tup [.p, .sc, .sc]) r = (((AV.isOne x0) ∧
((AV.isAgg x1 2) ∧
(∃ r449 : AV, ((Fn Try.prog 15 [x0, (AV.agg [(AV.cel x1 0), (AV.cel x1 1)])] (Sh.tup [(Sh.agg [Sh.p, Sh.p]), Sh.sc]) r449) ∧
((AV.binOk Go.BinOp.neq (AV.prj r449 1) (AV.int 0)) ∧
((AV.isBool (AV.bin Go.BinOp.neq (AV.prj r449 1) (AV.int 0))) ∧
(((isT (AV.bin Go.BinOp.neq (AV.prj r449 1) (AV.int 0))) →
  ((AV.isEmp (AV.mk 1 [])) ∧
  ((AV.flat (AV.int 0)) ∧
  ((AV.flat (AV.prj r449 1)) ∧
  (fSame (AV.tup [(AV.mk 1 []), (AV.int 0), (AV.prj r449 1)]) r))))) ∧
((isF (AV.bin Go.BinOp.neq (AV.prj r449 1) (AV.int 0))) →
  ((fEnt Try.prog 16) ∧
  (fAllV fun _ => ((fEnt Try.prog 17) ∧
  ((fEnt Try.prog 18) ∧
  (fVis Try.prog 16 [(AV.agg [(AV.cel (AV.prj r449 0) 0), (AV.cel (AV.prj r449 0) 1)]), (AV.lit (Value.slice none 0 0))] [1, 2] 1409 [(AV.lit (Value.slice none 0 0)), (AV.int (-1))] [(fun ws1409 ys1409 again1409 =>
    (fAllV fun _ => (fAllY 1409 fun _ => (fAllV fun _ => ((AV.isSl (ws1409.getD 0 default) 1) ∧
    (fLoop 1793 [(AV.int 0), (AV.int 0)] fun ys1793 again1793 =>
      ((AV.binOk Go.BinOp.lss (ys1793.getD 1 default) (AV.len (ws1409.getD 0 default))) ∧
      ((AV.isBool (AV.bin Go.BinOp.lss (ys1793.getD 1 default) (AV.len (ws1409.getD 0 default)))) ∧
      (((isT (AV.bin Go.BinOp.lss (ys1793.getD 1 default) (AV.len (ws1409.getD 0 default)))) →
        ((AV.isSl (ws1409.getD 0 default) 1) ∧
        ((AV.inb (ws1409.getD 0 default) (ys1793.getD 1 default)) ∧
        ((AV.isSl x0 1) ∧
        ((AV.inb x0 (ys1793.getD 1 default)) ∧
        ((AV.isSl (AV.at x0 (ys1793.getD 1 default) 0) 2) ∧
        ((AV.inb (AV.at x0 (ys1793.getD 1 default) 0) (AV.at (ws1409.getD 0 default) (ys1793.getD 1 default) 0)) ∧
        ((AV.binOk Go.BinOp.add (ys1793.getD 0 default) (AV.at (AV.at x0 (ys1793.getD 1 default) 0) (AV.at (ws1409.getD 0 default) (ys1793.getD 1 default) 0) 0)) ∧
        ((AV.binOk Go.BinOp.add (ys1793.getD 1 default) (AV.int 1)) ∧
        (again1793 [(AV.bin Go.BinOp.add (ys1793.getD 0 default) (AV.at (AV.at x0 (ys1793.getD 1 default) 0) (AV.at (ws1409.getD 0 default) (ys1793.getD 1 default) 0) 0)), (AV.bin Go.BinOp.add (ys1793.getD 1 default) (AV.int 1))])))))))))) ∧
      ((isF (AV.bin Go.BinOp.lss (ys1793.getD 1 default) (AV.len (ws1409.getD 0 default)))) →
        ((AV.binOk Go.BinOp.lss (ys1409.getD 1 default) (AV.int 0)) ∧
        ((AV.isBool (AV.bin Go.BinOp.lss (ys1409.getD 1 default) (AV.int 0))) ∧
        (((isT (AV.bin Go.BinOp.lss (ys1409.getD 1 default) (AV.int 0))) →
          ((AV.isBool (AV.bin Go.BinOp.lss (ys1409.getD 1 default) (AV.int 0))) ∧
          ((isT (AV.bin Go.BinOp.lss (ys1409.getD 1 default) (AV.int 0))) ∧
          ((AV.isOne (ws1409.getD 0 default)) ∧
          ((AV.isOne (ys1793.getD 0 default)) ∧
          (again1409 [(ws1409.getD 0 default), (ys1793.getD 0 default)])))))) ∧
        ((isF (AV.bin Go.BinOp.lss (ys1409.getD 1 default) (AV.int 0))) →
          ((AV.binOk Go.BinOp.lss (ys1793.getD 0 default) (ys1409.getD 1 default)) ∧
          ((AV.isBool (AV.bin Go.BinOp.lss (ys1409.getD 1 default) (AV.int 0))) ∧
          ((isF (AV.bin Go.BinOp.lss (ys1409.getD 1 default) (AV.int 0))) ∧
          ((AV.isBool (AV.bin Go.BinOp.lss (ys1793.getD 0 default) (ys1409.getD 1 default))) ∧
          (((isT (AV.bin Go.BinOp.lss (ys1793.getD 0 default) (ys1409.getD 1 default))) →
            ((AV.isOne (ws1409.getD 0 default)) ∧
            ((AV.isOne (ys1793.getD 0 default)) ∧
            (again1409 [(ws1409.getD 0 default), (ys1793.getD 0 default)])))) ∧
          ((isF (AV.bin Go.BinOp.lss (ys1793.getD 0 default) (ys1409.getD 1 default))) →
            (again1409 [(ys1409.getD 0 default), (ys1409.getD 1 default)]))))))))))))))))))))), (fun ws1409 ys1409 again1409 =>
    (fAllV fun _ => (fAllY 1409 fun _ => (fAllV fun _ => (again1409 [(ys1409.getD 0 default), (ys1409.getD 1 default)])))))] (fun zs1409 =>
    ((AV.binOk Go.BinOp.lss (zs1409.getD 1 default) (AV.int 0)) ∧
    ((AV.isBool (AV.bin Go.BinOp.lss (zs1409.getD 1 default) (AV.int 0))) ∧
    (((isT (AV.bin Go.BinOp.lss (zs1409.getD 1 default) (AV.int 0))) →
      ((AV.isEmp (AV.mk 1 [])) ∧
      ((AV.flat (AV.int 0)) ∧
      ((AV.flat (AV.int 8)) ∧
      (fSame (AV.tup [(AV.mk 1 []), (AV.int 0), (AV.int 8)]) r))))) ∧
    ((isF (AV.bin Go.BinOp.lss (zs1409.getD 1 default) (AV.int 0))) →
      ((AV.flat (zs1409.getD 1 default)) ∧
      ((AV.flat (AV.int 0)) ∧
      (fSame (AV.tup [(zs1409.getD 0 default), (zs1409.getD 1 default), (AV.int 0)]) r)))))))))))))))))))))) := by kernel_rfl
theorem refuted_form (x0 x1 x2 r : AV) : fnF Try.prog Γ ann 3 14 Try.f14 (Try.f14.body.getD .skip) (.nil) [x0, x1, x2] (.sc) r = (((AV.isAgg x1 2) ∧
(∃ r257 : AV, ((Fn Try.prog 15 [x0, (AV.agg [(AV.cel x1 0), (AV.cel x1 1)])] (Sh.tup [(Sh.agg [Sh.p, Sh.p]), Sh.sc]) r257) ∧
((AV.binOk Go.BinOp.neq (AV.prj r257 1) (AV.int 0)) ∧
((AV.isBool (AV.bin Go.BinOp.neq (AV.prj r257 1) (AV.int 0))) ∧
(((isT (AV.bin Go.BinOp.neq (AV.prj r257 1) (AV.int 0))) →
  ((AV.flat (AV.prj r257 1)) ∧
  (fSame (AV.prj r257 1) r))) ∧
((isF (AV.bin Go.BinOp.neq (AV.prj r257 1) (AV.int 0))) →
  ((AV.isSl x2 2) ∧
  ((AV.binOk Go.BinOp.gtr (AV.len x2) (AV.int 5000)) ∧
  ((AV.isBool (AV.bin Go.BinOp.gtr (AV.len x2) (AV.int 5000))) ∧
  (((isT (AV.bin Go.BinOp.gtr (AV.len x2) (AV.int 5000))) →
    ((AV.flat (AV.int 2)) ∧
    (fSame (AV.int 2) r))) ∧
  ((isF (AV.bin Go.BinOp.gtr (AV.len x2) (AV.int 5000))) →
    ((AV.isSl x0 1) ∧
    (fLoop 1409 [(AV.int 1), (AV.int 0)] fun ys1409 again1409 =>
      ((AV.binOk Go.BinOp.lss (ys1409.getD 1 default) (AV.len x0)) ∧
      ((AV.isBool (AV.bin Go.BinOp.lss (ys1409.getD 1 default) (AV.len x0))) ∧
      (((isT (AV.bin Go.BinOp.lss (ys1409.getD 1 default) (AV.len x0))) →
        ((AV.isSl x0 1) ∧
        ((AV.inb x0 (ys1409.getD 1 default)) ∧
        ((AV.isSl (AV.at x0 (ys1409.getD 1 default) 0) 2) ∧
        ((AV.binOk Go.BinOp.mul (ys1409.getD 0 default) (AV.len (AV.at x0 (ys1409.getD 1 default) 0))) ∧
        ((AV.binOk Go.BinOp.add (ys1409.getD 1 default) (AV.int 1)) ∧
        (again1409 [(AV.bin Go.BinOp.mul (ys1409.getD 0 default) (AV.len (AV.at x0 (ys1409.getD 1 default) 0))), (AV.bin Go.BinOp.add (ys1409.getD 1 default) (AV.int 1))]))))))) ∧
      ((isF (AV.bin Go.BinOp.lss (ys1409.getD 1 default) (AV.len x0))) →
        ((AV.isSl x2 2) ∧
        (fLoop 1665 [(ys1409.getD 0 default), (AV.int 0)] fun ys1665 again1665 =>
          ((AV.binOk Go.BinOp.lss (ys1665.getD 1 default) (AV.len x2)) ∧
          ((AV.isBool (AV.bin Go.BinOp.lss (ys1665.getD 1 default) (AV.len x2))) ∧
          (((isT (AV.bin Go.BinOp.lss (ys1665.getD 1 default) (AV.len x2))) →
            ((AV.isSl x2 2) ∧
            ((AV.inb x2 (ys1665.getD 1 default)) ∧
            ((AV.isAgg (AV.atAgg x2 (ys1665.getD 1 default) 0 2) 2) ∧
            (∃ r2241 : AV, ((Fn Try.prog 24 [(AV.agg [(AV.cel (AV.prj r257 0) 0), (AV.cel (AV.prj r257 0) 1)]), (AV.agg [(AV.cel (AV.atAgg x2 (ys1665.getD 1 default) 0 2) 0), (AV.cel (AV.atAgg x2 (ys1665.getD 1 default) 0 2) 1)])] Sh.sc r2241) ∧
            ((AV.unOk Go.UnOp.not r2241) ∧
            ((AV.isBool (AV.un Go.UnOp.not r2241)) ∧
            (((isT (AV.un Go.UnOp.not r2241)) →
              ((AV.flat (AV.int 1)) ∧
              (fSame (AV.int 1) r))) ∧
            ((isF (AV.un Go.UnOp.not r2241)) →
              ((AV.binOk Go.BinOp.gtr (ys1665.getD 1 default) (AV.int 0)) ∧
              ((AV.isBool (AV.bin Go.BinOp.gtr (ys1665.getD 1 default) (AV.int 0))) ∧
              (((isT (AV.bin Go.BinOp.gtr (ys1665.getD 1 default) (AV.int 0))) →
                ((AV.binOk Go.BinOp.sub (ys1665.getD 1 default) (AV.int 1)) ∧
                ((AV.isSl x2 2) ∧
                ((AV.inb x2 (AV.bin Go.BinOp.sub (ys1665.getD 1 default) (AV.int 1))) ∧
                (∃ r3137 : AV, ((Fn Try.prog 25 [(AV.at x2 (AV.bin Go.BinOp.sub (ys1665.getD 1 default) (AV.int 1)) 0), (AV.cel (AV.atAgg x2 (ys1665.getD 1 default) 0 2) 0)] Sh.sc r3137) ∧
                ((AV.binOk Go.BinOp.geq r3137 (AV.int 0)) ∧
                ((AV.isBool (AV.bin Go.BinOp.geq r3137 (AV.int 0))) ∧
                (((isT (AV.bin Go.BinOp.geq r3137 (AV.int 0))) →
                  ((AV.isBool (AV.bin Go.BinOp.geq r3137 (AV.int 0))) ∧
                  ((isT (AV.bin Go.BinOp.geq r3137 (AV.int 0))) ∧
                  ((AV.flat (AV.int 1)) ∧
                  (fSame (AV.int 1) r))))) ∧
                ((isF (AV.bin Go.BinOp.geq r3137 (AV.int 0))) →
                  ((AV.isSl (AV.at x2 (AV.bin Go.BinOp.sub (ys1665.getD 1 default) (AV.int 1)) 0) 1) ∧
                  ((AV.isSl (AV.cel (AV.atAgg x2 (ys1665.getD 1 default) 0 2) 0) 1) ∧
                  ((AV.binOk Go.BinOp.leq (AV.len (AV.at x2 (AV.bin Go.BinOp.sub (ys1665.getD 1 default) (AV.int 1)) 0)) (AV.len (AV.cel (AV.atAgg x2 (ys1665.getD 1 default) 0 2) 0))) ∧
                  ((AV.isBool (AV.bin Go.BinOp.leq (AV.len (AV.at x2 (AV.bin Go.BinOp.sub (ys1665.getD 1 default) (AV.int 1)) 0)) (AV.len (AV.cel (AV.atAgg x2 (ys1665.getD 1 default) 0 2) 0)))) ∧
                  (((isT (AV.bin Go.BinOp.leq (AV.len (AV.at x2 (AV.bin Go.BinOp.sub (ys1665.getD 1 default) (AV.int 1)) 0)) (AV.len (AV.cel (AV.atAgg x2 (ys1665.getD 1 default) 0 2) 0)))) →
                    ((AV.isSl (AV.at x2 (AV.bin Go.BinOp.sub (ys1665.getD 1 default) (AV.int 1)) 0) 1) ∧
                    ((AV.isSl (AV.cel (AV.atAgg x2 (ys1665.getD 1 default) 0 2) 0) 1) ∧
                    ((AV.subOk (AV.cel (AV.atAgg x2 (ys1665.getD 1 default) 0 2) 0) (AV.int 0) (AV.len (AV.at x2 (AV.bin Go.BinOp.sub (ys1665.getD 1 default) (AV.int 1)) 0))) ∧
                    (∃ r4161 : AV, ((Fn Try.prog 10 [(AV.at x2 (AV.bin Go.BinOp.sub (ys1665.getD 1 default) (AV.int 1)) 0), (AV.sub 1 (AV.cel (AV.atAgg x2 (ys1665.getD 1 default) 0 2) 0) (AV.int 0) (AV.len (AV.at x2 (AV.bin Go.BinOp.sub (ys1665.getD 1 default) (AV.int 1)) 0)))] Sh.sc r4161) ∧
                    ((AV.isBool (AV.bin Go.BinOp.leq (AV.len (AV.at x2 (AV.bin Go.BinOp.sub (ys1665.getD 1 default) (AV.int 1)) 0)) (AV.len (AV.cel (AV.atAgg x2 (ys1665.getD 1 default) 0 2) 0)))) ∧
                    ((isT (AV.bin Go.BinOp.leq (AV.len (AV.at x2 (AV.bin Go.BinOp.sub (ys1665.getD 1 default) (AV.int 1)) 0)) (AV.len (AV.cel (AV.atAgg x2 (ys1665.getD 1 default) 0 2) 0)))) ∧
                    ((AV.isBool (AV.bin Go.BinOp.geq r3137 (AV.int 0))) ∧
                    ((isF (AV.bin Go.BinOp.geq r3137 (AV.int 0))) ∧
                    ((AV.isBool r4161) ∧
                    (((isT r4161) →
                      ((AV.flat (AV.int 1)) ∧
                      (fSame (AV.int 1) r))) ∧
                    ((isF r4161) →
                      ((AV.isSl (AV.cel (AV.atAgg x2 (ys1665.getD 1 default) 0 2) 0) 1) ∧
                      ((AV.isSl x0 1) ∧
                      ((AV.subOk x0 (AV.len (AV.cel (AV.atAgg x2 (ys1665.getD 1 default) 0 2) 0)) (AV.len x0)) ∧
                      ((AV.isSl (AV.sub 1 x0 (AV.len (AV.cel (AV.atAgg x2 (ys1665.getD 1 default) 0 2) 0)) (AV.len x0)) 1) ∧
                      (fLoop 4865 [(AV.int 1), (AV.int 0)] fun ys4865 again4865 =>
                        ((AV.binOk Go.BinOp.lss (ys4865.getD 1 default) (AV.len (AV.sub 1 x0 (AV.len (AV.cel (AV.atAgg x2 (ys1665.getD 1 default) 0 2) 0)) (AV.len x0)))) ∧
                        ((AV.isBool (AV.bin Go.BinOp.lss (ys4865.getD 1 default) (AV.len (AV.sub 1 x0 (AV.len (AV.cel (AV.atAgg x2 (ys1665.getD 1 default) 0 2) 0)) (AV.len x0))))) ∧
                        (((isT (AV.bin Go.BinOp.lss (ys4865.getD 1 default) (AV.len (AV.sub 1 x0 (AV.len (AV.cel (AV.atAgg x2 (ys1665.getD 1 default) 0 2) 0)) (AV.len x0))))) →
                          ((AV.isSl (AV.sub 1 x0 (AV.len (AV.cel (AV.atAgg x2 (ys1665.getD 1 default) 0 2) 0)) (AV.len x0)) 1) ∧
                          ((AV.inb (AV.sub 1 x0 (AV.len (AV.cel (AV.atAgg x2 (ys1665.getD 1 default) 0 2) 0)) (AV.len x0)) (ys4865.getD 1 default)) ∧
                          ((AV.isSl (AV.at (AV.sub 1 x0 (AV.len (AV.cel (AV.atAgg x2 (ys1665.getD 1 default) 0 2) 0)) (AV.len x0)) (ys4865.getD 1 default) 0) 2) ∧
                          ((AV.binOk Go.BinOp.mul (ys4865.getD 0 default) (AV.len (AV.at (AV.sub 1 x0 (AV.len (AV.cel (AV.atAgg x2 (ys1665.getD 1 default) 0 2) 0)) (AV.len x0)) (ys4865.getD 1 default) 0))) ∧
                          ((AV.binOk Go.BinOp.add (ys4865.getD 1 default) (AV.int 1)) ∧
                          (again4865 [(AV.bin Go.BinOp.mul (ys4865.getD 0 default) (AV.len (AV.at (AV.sub 1 x0 (AV.len (AV.cel (AV.atAgg x2 (ys1665.getD 1 default) 0 2) 0)) (AV.len x0)) (ys4865.getD 1 default) 0))), (AV.bin Go.BinOp.add (ys4865.getD 1 default) (AV.int 1))]))))))) ∧
                        ((isF (AV.bin Go.BinOp.lss (ys4865.getD 1 default) (AV.len (AV.sub 1 x0 (AV.len (AV.cel (AV.atAgg x2 (ys1665.getD 1 default) 0 2) 0)) (AV.len x0))))) →
                          ((AV.binOk Go.BinOp.sub (ys1665.getD 0 default) (ys4865.getD 0 default)) ∧
                          ((AV.binOk Go.BinOp.add (ys1665.getD 1 default) (AV.int 1)) ∧
                          (again1665 [(AV.bin Go.BinOp.sub (ys1665.getD 0 default) (ys4865.getD 0 default)), (AV.bin Go.BinOp.add (ys1665.getD 1 default) (AV.int 1))]))))))))))))))))))))))))) ∧
                  ((isF (AV.bin Go.BinOp.leq (AV.len (AV.at x2 (AV.bin Go.BinOp.sub (ys1665.getD 1 default) (AV.int 1)) 0)) (AV.len (AV.cel (AV.atAgg x2 (ys1665.getD 1 default) 0 2) 0)))) →
                    ((AV.isBool (AV.bin Go.BinOp.leq (AV.len (AV.at x2 (AV.bin Go.BinOp.sub (ys1665.getD 1 default) (AV.int 1)) 0)) (AV.len (AV.cel (AV.atAgg x2 (ys1665.getD 1 default) 0 2) 0)))) ∧
                    ((isF (AV.bin Go.BinOp.leq (AV.len (AV.at x2 (AV.bin Go.BinOp.sub (ys1665.getD 1 default) (AV.int 1)) 0)) (AV.len (AV.cel (AV.atAgg x2 (ys1665.getD 1 default) 0 2) 0)))) ∧
                    ((AV.isBool (AV.bin Go.BinOp.geq r3137 (AV.int 0))) ∧
                    ((isF (AV.bin Go.BinOp.geq r3137 (AV.int 0))) ∧
                    ((AV.isSl (AV.cel (AV.atAgg x2 (ys1665.getD 1 default) 0 2) 0) 1) ∧
                    ((AV.isSl x0 1) ∧
                    ((AV.subOk x0 (AV.len (AV.cel (AV.atAgg x2 (ys1665.getD 1 default) 0 2) 0)) (AV.len x0)) ∧
                    ((AV.isSl (AV.sub 1 x0 (AV.len (AV.cel (AV.atAgg x2 (ys1665.getD 1 default) 0 2) 0)) (AV.len x0)) 1) ∧
                    (fLoop 4865 [(AV.int 1), (AV.int 0)] fun ys4865 again4865 =>
                      ((AV.binOk Go.BinOp.lss (ys4865.getD 1 default) (AV.len (AV.sub 1 x0 (AV.len (AV.cel (AV.atAgg x2 (ys1665.getD 1 default) 0 2) 0)) (AV.len x0)))) ∧
                      ((AV.isBool (AV.bin Go.BinOp.lss (ys4865.getD 1 default) (AV.len (AV.sub 1 x0 (AV.len (AV.cel (AV.atAgg x2 (ys1665.getD 1 default) 0 2) 0)) (AV.len x0))))) ∧
                      (((isT (AV.bin Go.BinOp.lss (ys4865.getD 1 default) (AV.len (AV.sub 1 x0 (AV.len (AV.cel (AV.atAgg x2 (ys1665.getD 1 default) 0 2) 0)) (AV.len x0))))) →
                        ((AV.isSl (AV.sub 1 x0 (AV.len (AV.cel (AV.atAgg x2 (ys1665.getD 1 default) 0 2) 0)) (AV.len x0)) 1) ∧
                        ((AV.inb (AV.sub 1 x0 (AV.len (AV.cel (AV.atAgg x2 (ys1665.getD 1 default) 0 2) 0)) (AV.len x0)) (ys4865.getD 1 default)) ∧
                        ((AV.isSl (AV.at (AV.sub 1 x0 (AV.len (AV.cel (AV.atAgg x2 (ys1665.getD 1 default) 0 2) 0)) (AV.len x0)) (ys4865.getD 1 default) 0) 2) ∧
                        ((AV.binOk Go.BinOp.mul (ys4865.getD 0 default) (AV.len (AV.at (AV.sub 1 x0 (AV.len (AV.cel (AV.atAgg x2 (ys1665.getD 1 default) 0 2) 0)) (AV.len x0)) (ys4865.getD 1 default) 0))) ∧
                        ((AV.binOk Go.BinOp.add (ys4865.getD 1 default) (AV.int 1)) ∧
                        (again4865 [(AV.bin Go.BinOp.mul (ys4865.getD 0 default) (AV.len (AV.at (AV.sub 1 x0 (AV.len (AV.cel (AV.atAgg x2 (ys1665.getD 1 default) 0 2) 0)) (AV.len x0)) (ys4865.getD 1 default) 0))), (AV.bin Go.BinOp.add (ys4865.getD 1 default) (AV.int 1))]))))))) ∧
                      ((isF (AV.bin Go.BinOp.lss (ys4865.getD 1 default) (AV.len (AV.sub 1 x0 (AV.len (AV.cel (AV.atAgg x2 (ys1665.getD 1 default) 0 2) 0)) (AV.len x0))))) →
                        ((AV.binOk Go.BinOp.sub (ys1665.getD 0 default) (ys4865.getD 0 default)) ∧
                        ((AV.binOk Go.BinOp.add (ys1665.getD 1 default) (AV.int 1)) ∧
                        (again1665 [(AV.bin Go.BinOp.sub (ys1665.getD 0 default) (ys4865.getD 0 default)), (AV.bin Go.BinOp.add (ys1665.getD 1 default) (AV.int 1))])))))))))))))))))))))))))))))))) ∧
              ((isF (AV.bin Go.BinOp.gtr (ys1665.getD 1 default) (AV.int 0))) →
                ((AV.isSl (AV.cel (AV.atAgg x2 (ys1665.getD 1 default) 0 2) 0) 1) ∧
                ((AV.isSl x0 1) ∧
                ((AV.subOk x0 (AV.len (AV.cel (AV.atAgg x2 (ys1665.getD 1 default) 0 2) 0)) (AV.len x0)) ∧
                ((AV.isSl (AV.sub 1 x0 (AV.len (AV.cel (AV.atAgg x2 (ys1665.getD 1 default) 0 2) 0)) (AV.len x0)) 1) ∧
                (fLoop 3009 [(AV.int 1), (AV.int 0)] fun ys3009 again3009 =>
                  ((AV.binOk Go.BinOp.lss (ys3009.getD 1 default) (AV.len (AV.sub 1 x0 (AV.len (AV.cel (AV.atAgg x2 (ys1665.getD 1 default) 0 2) 0)) (AV.len x0)))) ∧
                  ((AV.isBool (AV.bin Go.BinOp.lss (ys3009.getD 1 default) (AV.len (AV.sub 1 x0 (AV.len (AV.cel (AV.atAgg x2 (ys1665.getD 1 default) 0 2) 0)) (AV.len x0))))) ∧
                  (((isT (AV.bin Go.BinOp.lss (ys3009.getD 1 default) (AV.len (AV.sub 1 x0 (AV.len (AV.cel (AV.atAgg x2 (ys1665.getD 1 default) 0 2) 0)) (AV.len x0))))) →
                    ((AV.isSl (AV.sub 1 x0 (AV.len (AV.cel (AV.atAgg x2 (ys1665.getD 1 default) 0 2) 0)) (AV.len x0)) 1) ∧
                    ((AV.inb (AV.sub 1 x0 (AV.len (AV.cel (AV.atAgg x2 (ys1665.getD 1 default) 0 2) 0)) (AV.len x0)) (ys3009.getD 1 default)) ∧
                    ((AV.isSl (AV.at (AV.sub 1 x0 (AV.len (AV.cel (AV.atAgg x2 (ys1665.getD 1 default) 0 2) 0)) (AV.len x0)) (ys3009.getD 1 default) 0) 2) ∧
                    ((AV.binOk Go.BinOp.mul (ys3009.getD 0 default) (AV.len (AV.at (AV.sub 1 x0 (AV.len (AV.cel (AV.atAgg x2 (ys1665.getD 1 default) 0 2) 0)) (AV.len x0)) (ys3009.getD 1 default) 0))) ∧
                    ((AV.binOk Go.BinOp.add (ys3009.getD 1 default) (AV.int 1)) ∧
                    (again3009 [(AV.bin Go.BinOp.mul (ys3009.getD 0 default) (AV.len (AV.at (AV.sub 1 x0 (AV.len (AV.cel (AV.atAgg x2 (ys1665.getD 1 default) 0 2) 0)) (AV.len x0)) (ys3009.getD 1 default) 0))), (AV.bin Go.BinOp.add (ys3009.getD 1 default) (AV.int 1))]))))))) ∧
                  ((isF (AV.bin Go.BinOp.lss (ys3009.getD 1 default) (AV.len (AV.sub 1 x0 (AV.len (AV.cel (AV.atAgg x2 (ys1665.getD 1 default) 0 2) 0)) (AV.len x0))))) →
                    ((AV.binOk Go.BinOp.sub (ys1665.getD 0 default) (ys3009.getD 0 default)) ∧
                    ((AV.binOk Go.BinOp.add (ys1665.getD 1 default) (AV.int 1)) ∧
                    (again1665 [(AV.bin Go.BinOp.sub (ys1665.getD 0 default) (ys3009.getD 0 default)), (AV.bin Go.BinOp.add (ys1665.getD 1 default) (AV.int 1))])))))))))))))))))))))))))) ∧
          ((isF (AV.bin Go.BinOp.lss (ys1665.getD 1 default) (AV.len x2))) →
            ((AV.binOk Go.BinOp.neq (ys1665.getD 0 default) (AV.int 0)) ∧
            ((AV.isBool (AV.bin Go.BinOp.neq (ys1665.getD 0 default) (AV.int 0))) ∧
            (((isT (AV.bin Go.BinOp.neq (ys1665.getD 0 default) (AV.int 0))) →
              ((AV.flat (AV.int 1)) ∧
              (fSame (AV.int 1) r))) ∧
            ((isF (AV.bin Go.BinOp.neq (ys1665.getD 0 default) (AV.int 0))) →
              ((AV.flat (AV.int 0)) ∧
              (fSame (AV.int 0) r))))))))))))))))))))))))))))))) := by kernel_rfl
theorem law_form (x0 x1 r : AV) : fnF Try.prog Γ ann 3 3 Try.f3 (Try.f3.body.getD .skip) ((.f (.both .nil (.both .nil (.both .nil (.f (.both (.t (.t (.t .nil))) (.both (.t (.t .nil)) (.both .nil (.both (.t (.t .nil)) (.t (.t .nil)))))))))))) [x0, x1] (.sc) r = (((AV.isAgg x1 2) ∧
(∃ r129 : AV, ((Fn Try.prog 4 [] Sh.sc r129) ∧
((AV.unOk Go.UnOp.not r129) ∧
((AV.isBool (AV.un Go.UnOp.not r129)) ∧
((isF (AV.un Go.UnOp.not r129)) ∧
((AV.isSl x0 1) ∧
(fLoop 513 [(AV.int 1), (AV.int 0)] fun ys513 again513 =>
  ((AV.binOk Go.BinOp.lss (ys513.getD 1 default) (AV.len x0)) ∧
  ((AV.isBool (AV.bin Go.BinOp.lss (ys513.getD 1 default) (AV.len x0))) ∧
  (((isT (AV.bin Go.BinOp.lss (ys513.getD 1 default) (AV.len x0))) →
    ((AV.isSl x0 1) ∧
    ((AV.inb x0 (ys513.getD 1 default)) ∧
    ((AV.isSl (AV.at x0 (ys513.getD 1 default) 0) 2) ∧
    ((AV.isInt (AV.len (AV.at x0 (ys513.getD 1 default) 0))) ∧
    ((AV.isInt (AV.int 10)) ∧
    ((AV.isInt (AV.int 1)) ∧
    ((AV.isInt (AV.mn (AV.len (AV.at x0 (ys513.getD 1 default) 0)) (AV.int 10))) ∧
    ((AV.binOk Go.BinOp.mul (ys513.getD 0 default) (AV.mx (AV.int 1) (AV.mn (AV.len (AV.at x0 (ys513.getD 1 default) 0)) (AV.int 10)))) ∧
    ((AV.binOk Go.BinOp.add (ys513.getD 1 default) (AV.int 1)) ∧
    (again513 [(AV.bin Go.BinOp.mul (ys513.getD 0 default) (AV.mx (AV.int 1) (AV.mn (AV.len (AV.at x0 (ys513.getD 1 default) 0)) (AV.int 10)))), (AV.bin Go.BinOp.add (ys513.getD 1 default) (AV.int 1))]))))))))))) ∧
  ((isF (AV.bin Go.BinOp.lss (ys513.getD 1 default) (AV.len x0))) →
    ((AV.isSl x0 1) ∧
    ((AV.binOk Go.BinOp.gtr (AV.len x0) (AV.int 8)) ∧
    ((AV.isBool (AV.bin Go.BinOp.gtr (AV.len x0) (AV.int 8))) ∧
    (((isT (AV.bin Go.BinOp.gtr (AV.len x0) (AV.int 8))) →
      ((AV.isBool (AV.bin Go.BinOp.gtr (AV.len x0) (AV.int 8))) ∧
      ((isT (AV.bin Go.BinOp.gtr (AV.len x0) (AV.int 8))) ∧
      ((AV.flat (AV.bool true)) ∧
      (fSame (AV.bool true) r))))) ∧
    ((isF (AV.bin Go.BinOp.gtr (AV.len x0) (AV.int 8))) →
      ((AV.binOk Go.BinOp.gtr (ys513.getD 0 default) (AV.int 200)) ∧
      ((AV.isBool (AV.bin Go.BinOp.gtr (AV.len x0) (AV.int 8))) ∧
      ((isF (AV.bin Go.BinOp.gtr (AV.len x0) (AV.int 8))) ∧
      ((AV.isBool (AV.bin Go.BinOp.gtr (ys513.getD 0 default) (AV.int 200))) ∧
      (((isT (AV.bin Go.BinOp.gtr (ys513.getD 0 default) (AV.int 200))) →
        ((AV.flat (AV.bool true)) ∧
        (fSame (AV.bool true) r))) ∧
      ((isF (AV.bin Go.BinOp.gtr (ys513.getD 0 default) (AV.int 200))) →
        (∃ r1153 : AV, ((Fn Try.prog 5 [x0, (AV.agg [(AV.cel x1 0), (AV.cel x1 1)])] (Sh.tup [Sh.p, Sh.sc, Sh.sc]) r1153) ∧
        (∃ r1729 : AV, ((Fn Try.prog 6 [x0] Sh.sc r1729) ∧
        (∃ r1921 : AV, ((Fn Try.prog 7 [x0] Sh.sc r1921) ∧
        ((AV.binOk Go.BinOp.neq r1921 r1729) ∧
        ((AV.isBool (AV.bin Go.BinOp.neq r1921 r1729)) ∧
        ((isF (AV.bin Go.BinOp.neq r1921 r1729)) ∧
        (∃ r2177 : AV, ((Fn Try.prog 8 [(AV.agg [(AV.cel x1 0), (AV.cel x1 1)])] Sh.sc r2177) ∧
        ((AV.binOk Go.BinOp.neq r2177 (AV.int 0)) ∧
        ((AV.isBool (AV.bin Go.BinOp.neq r2177 (AV.int 0))) ∧
        (((isT (AV.bin Go.BinOp.neq r2177 (AV.int 0))) →
          ((AV.binOk Go.BinOp.neq r2177 (AV.int 0)) ∧
          ((AV.isBool (AV.bin Go.BinOp.neq r2177 (AV.int 0))) ∧
          ((isT (AV.bin Go.BinOp.neq r2177 (AV.int 0))) ∧
          ((AV.binOk Go.BinOp.eql (AV.prj r1153 2) r2177) ∧
          ((AV.isBool (AV.bin Go.BinOp.eql (AV.prj r1153 2) r2177)) ∧
          ((isT (AV.bin Go.BinOp.eql (AV.prj r1153 2) r2177)) ∧
          ((AV.isSl (AV.prj r1153 0) 1) ∧
          ((AV.binOk Go.BinOp.eql (AV.len (AV.prj r1153 0)) (AV.int 0)) ∧
          ((AV.isBool (AV.bin Go.BinOp.eql (AV.prj r1153 2) r2177)) ∧
          ((isT (AV.bin Go.BinOp.eql (AV.prj r1153 2) r2177)) ∧
          ((AV.isBool (AV.bin Go.BinOp.eql (AV.len (AV.prj r1153 0)) (AV.int 0))) ∧
          ((isT (AV.bin Go.BinOp.eql (AV.len (AV.prj r1153 0)) (AV.int 0))) ∧
          ((AV.binOk Go.BinOp.eql (AV.prj r1153 1) (AV.int 0)) ∧
          ((AV.isBool (AV.bin Go.BinOp.eql (AV.len (AV.prj r1153 0)) (AV.int 0))) ∧
          ((isT (AV.bin Go.BinOp.eql (AV.len (AV.prj r1153 0)) (AV.int 0))) ∧
          ((AV.flat (AV.bin Go.BinOp.eql (AV.prj r1153 1) (AV.int 0))) ∧
          (fSame (AV.bin Go.BinOp.eql (AV.prj r1153 1) (AV.int 0)) r)))))))))))))))))) ∧
        ((isF (AV.bin Go.BinOp.neq r2177 (AV.int 0))) →
          ((AV.binOk Go.BinOp.neq r1729 (AV.int 0)) ∧
          ((AV.isBool (AV.bin Go.BinOp.neq r1729 (AV.int 0))) ∧
          (((isT (AV.bin Go.BinOp.neq r1729 (AV.int 0))) →
            ((AV.binOk Go.BinOp.eql (AV.prj r1153 2) r1729) ∧
            ((AV.isBool (AV.bin Go.BinOp.eql (AV.prj r1153 2) r1729)) ∧
            ((isT (AV.bin Go.BinOp.eql (AV.prj r1153 2) r1729)) ∧
            ((AV.isSl (AV.prj r1153 0) 1) ∧
            ((AV.binOk Go.BinOp.eql (AV.len (AV.prj r1153 0)) (AV.int 0)) ∧
            ((AV.isBool (AV.bin Go.BinOp.eql (AV.prj r1153 2) r1729)) ∧
            ((isT (AV.bin Go.BinOp.eql (AV.prj r1153 2) r1729)) ∧
            ((AV.isBool (AV.bin Go.BinOp.eql (AV.len (AV.prj r1153 0)) (AV.int 0))) ∧
            ((isT (AV.bin Go.BinOp.eql (AV.len (AV.prj r1153 0)) (AV.int 0))) ∧
            ((AV.binOk Go.BinOp.eql (AV.prj r1153 1) (AV.int 0)) ∧
            ((AV.isBool (AV.bin Go.BinOp.eql (AV.len (AV.prj r1153 0)) (AV.int 0))) ∧
            ((isT (AV.bin Go.BinOp.eql (AV.len (AV.prj r1153 0)) (AV.int 0))) ∧
            ((AV.flat (AV.bin Go.BinOp.eql (AV.prj r1153 1) (AV.int 0))) ∧
            (fSame (AV.bin Go.BinOp.eql (AV.prj r1153 1) (AV.int 0)) r))))))))))))))) ∧
          ((isF (AV.bin Go.BinOp.neq r1729 (AV.int 0))) →
            (fLoop 2817 [(AV.mk 1 []), (AV.int (-1)), (AV.int 0)] fun ys2817 again2817 =>
              ((AV.binOk Go.BinOp.lss (ys2817.getD 2 default) (ys513.getD 0 default)) ∧
              ((AV.isBool (AV.bin Go.BinOp.lss (ys2817.getD 2 default) (ys513.getD 0 default))) ∧
              (((isT (AV.bin Go.BinOp.lss (ys2817.getD 2 default) (ys513.getD 0 default))) →
                ((AV.isSl x0 1) ∧
                ((AV.mkOk (AV.len x0) 8) ∧
                ((AV.isI64 (AV.len x0)) ∧
                ((sameNum (AV.len x0) (AV.len x0)) ∧
                ((AV.isSl x0 1) ∧
                ((AV.binOk Go.BinOp.sub (AV.len x0) (AV.int 1)) ∧
                (fLoop 3521 [(ys2817.getD 2 default), (AV.bin Go.BinOp.sub (AV.len x0) (AV.int 1)), (AV.rep 1 (AV.len x0) [(AV.int 0)])] fun ys3521 again3521 =>
                  ((AV.binOk Go.BinOp.geq (ys3521.getD 1 default) (AV.int 0)) ∧
                  ((AV.isBool (AV.bin Go.BinOp.geq (ys3521.getD 1 default) (AV.int 0))) ∧
                  (((isT (AV.bin Go.BinOp.geq (ys3521.getD 1 default) (AV.int 0))) →
                    ((AV.isSl x0 1) ∧
                    ((AV.inb x0 (ys3521.getD 1 default)) ∧
                    ((AV.isSl (AV.at x0 (ys3521.getD 1 default) 0) 2) ∧
                    ((AV.binOk Go.BinOp.rem (ys3521.getD 0 default) (AV.len (AV.at x0 (ys3521.getD 1 default) 0))) ∧
                    ((AV.inb (ys3521.getD 2 default) (ys3521.getD 1 default)) ∧
                    ((AV.isOne (AV.bin Go.BinOp.rem (ys3521.getD 0 default) (AV.len (AV.at x0 (ys3521.getD 1 default) 0)))) ∧
                    ((AV.inb (ys3521.getD 2 default) (ys3521.getD 1 default)) ∧
                    ((AV.isSl x0 1) ∧
                    ((AV.inb x0 (ys3521.getD 1 default)) ∧
                    ((AV.isSl (AV.at x0 (ys3521.getD 1 default) 0) 2) ∧
                    ((AV.binOk Go.BinOp.quo (ys3521.getD 0 default) (AV.len (AV.at x0 (ys3521.getD 1 default) 0))) ∧
                    ((AV.binOk Go.BinOp.sub (ys3521.getD 1 default) (AV.int 1)) ∧
                    (again3521 [(AV.bin Go.BinOp.quo (ys3521.getD 0 default) (AV.len (AV.at x0 (ys3521.getD 1 default) 0))), (AV.bin Go.BinOp.sub (ys3521.getD 1 default) (AV.int 1)), (AV.setEl (ys3521.getD 2 default) (ys3521.getD 1 default) 0 [(AV.bin Go.BinOp.rem (ys3521.getD 0 default) (AV.len (AV.at x0 (ys3521.getD 1 default) 0)))])])))))))))))))) ∧
                  ((isF (AV.bin Go.BinOp.geq (ys3521.getD 1 default) (AV.int 0))) →
                    (fLoop 3969 [(AV.int 0), (AV.bool true), (AV.int 0)] fun ys3969 again3969 =>
                      ((AV.binOk Go.BinOp.lss (ys3969.getD 2 default) (AV.len (ys3521.getD 2 default))) ∧
                      ((AV.isBool (AV.bin Go.BinOp.lss (ys3969.getD 2 default) (AV.len (ys3521.getD 2 default)))) ∧
                      (((isT (AV.bin Go.BinOp.lss (ys3969.getD 2 default) (AV.len (ys3521.getD 2 default)))) →
                        ((AV.inb (ys3521.getD 2 default) (ys3969.getD 2 default)) ∧
                        ((AV.inb (ys3521.getD 2 default) (ys3969.getD 2 default)) ∧
                        ((AV.isSl x0 1) ∧
                        ((AV.inb x0 (ys3969.getD 2 default)) ∧
                        ((AV.isSl (AV.at x0 (ys3969.getD 2 default) 0) 2) ∧
                        ((AV.inb (AV.at x0 (ys3969.getD 2 default) 0) (AV.at (ys3521.getD 2 default) (ys3969.getD 2 default) 0)) ∧
                        ((AV.binOk Go.BinOp.add (ys3969.getD 0 default) (AV.at (AV.at x0 (ys3969.getD 2 default) 0) (AV.at (ys3521.getD 2 default) (ys3969.getD 2 default) 0) 0)) ∧
                        (fLoop 5185 [(ys3969.getD 1 default), (AV.int 0)] fun ys5185 again5185 =>
                          ((AV.binOk Go.BinOp.lss (ys5185.getD 1 default) (ys3969.getD 2 default)) ∧
                          ((AV.isBool (AV.bin Go.BinOp.lss (ys5185.getD 1 default) (ys3969.getD 2 default))) ∧
                          (((isT (AV.bin Go.BinOp.lss (ys5185.getD 1 default) (ys3969.getD 2 default))) →
                            ((AV.isBool (ys5185.getD 0 default)) ∧
                            (((isT (ys5185.getD 0 default)) →
                              ((AV.isSl x0 1) ∧
                              ((AV.inb x0 (ys3969.getD 2 default)) ∧
                              ((AV.isSl (AV.at x0 (ys3969.getD 2 default) 0) 2) ∧
                              ((AV.inb (AV.at x0 (ys3969.getD 2 default) 0) (AV.at (ys3521.getD 2 default) (ys3969.getD 2 default) 0)) ∧
                              ((AV.isSl x0 1) ∧
                              ((AV.inb x0 (ys5185.getD 1 default)) ∧
                              ((AV.inb (ys3521.getD 2 default) (ys5185.getD 1 default)) ∧
                              ((AV.inb (ys3521.getD 2 default) (ys5185.getD 1 default)) ∧
                              ((AV.isSl (AV.at x0 (ys5185.getD 1 default) 0) 2) ∧
                              ((AV.inb (AV.at x0 (ys5185.getD 1 default) 0) (AV.at (ys3521.getD 2 default) (ys5185.getD 1 default) 0)) ∧
                              (∃ r6785 : AV, ((Fn Try.prog 9 [(AV.at (AV.at x0 (ys3969.getD 2 default) 0) (AV.at (ys3521.getD 2 default) (ys3969.getD 2 default) 0) 1), (AV.at (AV.at x0 (ys5185.getD 1 default) 0) (AV.at (ys3521.getD 2 default) (ys5185.getD 1 default) 0) 1), (AV.agg [(AV.cel x1 0), (AV.cel x1 1)])] Sh.sc r6785) ∧
                              ((AV.unOk Go.UnOp.not r6785) ∧
                              ((AV.isBool (ys5185.getD 0 default)) ∧
                              ((isT (ys5185.getD 0 default)) ∧
                              ((AV.binOk Go.BinOp.add (ys5185.getD 1 default) (AV.int 1)) ∧
                              (again5185 [(AV.un Go.UnOp.not r6785), (AV.bin Go.BinOp.add (ys5185.getD 1 default) (AV.int 1))])))))))))))))))))) ∧
                            ((isF (ys5185.getD 0 default)) →
                              ((AV.isBool (ys5185.getD 0 default)) ∧
                              ((isF (ys5185.getD 0 default)) ∧
                              ((AV.binOk Go.BinOp.add (ys5185.getD 1 default) (AV.int 1)) ∧
                              (again5185 [(AV.bool false), (AV.bin Go.BinOp.add (ys5185.getD 1 default) (AV.int 1))])))))))) ∧
                          ((isF (AV.bin Go.BinOp.lss (ys5185.getD 1 default) (ys3969.getD 2 default))) →
                            ((AV.binOk Go.BinOp.add (ys3969.getD 2 default) (AV.int 1)) ∧
                            (again3969 [(AV.bin Go.BinOp.add (ys3969.getD 0 default) (AV.at (AV.at x0 (ys3969.getD 2 default) 0) (AV.at (ys3521.getD 2 default) (ys3969.getD 2 default) 0) 0)), (ys5185.getD 0 default), (AV.bin Go.BinOp.add (ys3969.getD 2 default) (AV.int 1))]))))))))))))))) ∧
                      ((isF (AV.bin Go.BinOp.lss (ys3969.getD 2 default) (AV.len (ys3521.getD 2 default)))) →
                        ((AV.isBool (ys3969.getD 1 default)) ∧
                        (((isT (ys3969.getD 1 default)) →
                          ((AV.binOk Go.BinOp.lss (ys2817.getD 1 default) (AV.int 0)) ∧
                          ((AV.isBool (AV.bin Go.BinOp.lss (ys2817.getD 1 default) (AV.int 0))) ∧
                          (((isT (AV.bin Go.BinOp.lss (ys2817.getD 1 default) (AV.int 0))) →
                            ((AV.isBool (AV.bin Go.BinOp.lss (ys2817.getD 1 default) (AV.int 0))) ∧
                            ((isT (AV.bin Go.BinOp.lss (ys2817.getD 1 default) (AV.int 0))) ∧
                            ((AV.isBool (ys3969.getD 1 default)) ∧
                            ((isT (ys3969.getD 1 default)) ∧
                            ((AV.binOk Go.BinOp.add (ys2817.getD 2 default) (AV.int 1)) ∧
                            (again2817 [(ys3521.getD 2 default), (ys3969.getD 0 default), (AV.bin Go.BinOp.add (ys2817.getD 2 default) (AV.int 1))]))))))) ∧
                          ((isF (AV.bin Go.BinOp.lss (ys2817.getD 1 default) (AV.int 0))) →
                            ((AV.binOk Go.BinOp.lss (ys3969.getD 0 default) (ys2817.getD 1 default)) ∧
                            ((AV.isBool (AV.bin Go.BinOp.lss (ys2817.getD 1 default) (AV.int 0))) ∧
                            ((isF (AV.bin Go.BinOp.lss (ys2817.getD 1 default) (AV.int 0))) ∧
                            ((AV.isBool (ys3969.getD 1 default)) ∧
                            ((isT (ys3969.getD 1 default)) ∧
                            ((AV.isBool (AV.bin Go.BinOp.lss (ys3969.getD 0 default) (ys2817.getD 1 default))) ∧
                            (((isT (AV.bin Go.BinOp.lss (ys3969.getD 0 default) (ys2817.getD 1 default))) →
                              ((AV.binOk Go.BinOp.add (ys2817.getD 2 default) (AV.int 1)) ∧
                              (again2817 [(ys3521.getD 2 default), (ys3969.getD 0 default), (AV.bin Go.BinOp.add (ys2817.getD 2 default) (AV.int 1))]))) ∧
                            ((isF (AV.bin Go.BinOp.lss (ys3969.getD 0 default) (ys2817.getD 1 default))) →
                              ((AV.binOk Go.BinOp.add (ys2817.getD 2 default) (AV.int 1)) ∧
                              (again2817 [(ys2817.getD 0 default), (ys2817.getD 1 default), (AV.bin Go.BinOp.add (ys2817.getD 2 default) (AV.int 1))]))))))))))))))) ∧
                        ((isF (ys3969.getD 1 default)) →
                          ((AV.isBool (ys3969.getD 1 default)) ∧
                          ((isF (ys3969.getD 1 default)) ∧
                          ((AV.binOk Go.BinOp.add (ys2817.getD 2 default) (AV.int 1)) ∧
                          (again2817 [(ys2817.getD 0 default), (ys2817.getD 1 default), (AV.bin Go.BinOp.add (ys2817.getD 2 default) (AV.int 1))])))))))))))))))))))))))) ∧
              ((isF (AV.bin Go.BinOp.lss (ys2817.getD 2 default) (ys513.getD 0 default))) →
                ((AV.binOk Go.BinOp.lss (ys2817.getD 1 default) (AV.int 0)) ∧
                ((AV.isBool (AV.bin Go.BinOp.lss (ys2817.getD 1 default) (AV.int 0))) ∧
                (((isT (AV.bin Go.BinOp.lss (ys2817.getD 1 default) (AV.int 0))) →
                  ((AV.binOk Go.BinOp.eql (AV.prj r1153 2) (AV.int 8)) ∧
                  ((AV.isBool (AV.bin Go.BinOp.eql (AV.prj r1153 2) (AV.int 8))) ∧
                  ((isT (AV.bin Go.BinOp.eql (AV.prj r1153 2) (AV.int 8))) ∧
                  ((AV.isSl (AV.prj r1153 0) 1) ∧
                  ((AV.binOk Go.BinOp.eql (AV.len (AV.prj r1153 0)) (AV.int 0)) ∧
                  ((AV.isBool (AV.bin Go.BinOp.eql (AV.prj r1153 2) (AV.int 8))) ∧
                  ((isT (AV.bin Go.BinOp.eql (AV.prj r1153 2) (AV.int 8))) ∧
                  ((AV.isBool (AV.bin Go.BinOp.eql (AV.len (AV.prj r1153 0)) (AV.int 0))) ∧
                  ((isT (AV.bin Go.BinOp.eql (AV.len (AV.prj r1153 0)) (AV.int 0))) ∧
                  ((AV.binOk Go.BinOp.eql (AV.prj r1153 1) (AV.int 0)) ∧
                  ((AV.isBool (AV.bin Go.BinOp.eql (AV.len (AV.prj r1153 0)) (AV.int 0))) ∧
                  ((isT (AV.bin Go.BinOp.eql (AV.len (AV.prj r1153 0)) (AV.int 0))) ∧
                  ((AV.flat (AV.bin Go.BinOp.eql (AV.prj r1153 1) (AV.int 0))) ∧
                  (fSame (AV.bin Go.BinOp.eql (AV.prj r1153 1) (AV.int 0)) r))))))))))))))) ∧
                ((isF (AV.bin Go.BinOp.lss (ys2817.getD 1 default) (AV.int 0))) →
                  ((AV.binOk Go.BinOp.eql (AV.prj r1153 2) (AV.int 0)) ∧
                  ((AV.isBool (AV.bin Go.BinOp.eql (AV.prj r1153 2) (AV.int 0))) ∧
                  ((isT (AV.bin Go.BinOp.eql (AV.prj r1153 2) (AV.int 0))) ∧
                  (∃ r3329 : AV, ((Fn Try.prog 10 [(AV.prj r1153 0), (ys2817.getD 0 default)] Sh.sc r3329) ∧
                  ((AV.isBool (AV.bin Go.BinOp.eql (AV.prj r1153 2) (AV.int 0))) ∧
                  ((isT (AV.bin Go.BinOp.eql (AV.prj r1153 2) (AV.int 0))) ∧
                  ((AV.isBool r3329) ∧
                  ((isT r3329) ∧
                  ((AV.binOk Go.BinOp.eql (AV.prj r1153 1) (ys2817.getD 1 default)) ∧
                  ((AV.isBool r3329) ∧
                  ((isT r3329) ∧
                  ((AV.flat (AV.bin Go.BinOp.eql (AV.prj r1153 1) (ys2817.getD 1 default))) ∧
                  (fSame (AV.bin Go.BinOp.eql (AV.prj r1153 1) (ys2817.getD 1 default)) r)))))))))))))))))))))))))))))))))))))))))))))))))))))))))))))))))) := by kernel_rfl
end JtF
end Go.Proofs.Ytaomlgfamnfcjaa
/- resolve: what the run ends in. -/
namespace Go.Proofs.Ytaomlgfamnfcjaa
open Go.RowKit
set_option linter.unusedVariables false
set_option maxRecDepth 100000
namespace ResF
--GAMMA
def Γ : FuncId → Option Ca := fun f =>
  if f = 19 ∨ f = 27 ∨ f = 12 ∨ f = 8 ∨ f = 35 ∨ f = 9 ∨ f = 45 ∨ f = 44 ∨ f = 46 then some (.fn .sc)
  else if f = 34 ∨ f = 42 ∨ f = 43 ∨ f = 38 ∨ f = 33 ∨ f = 20 then some (.fn (.tup [.sc, .sc]))
  else if f = 11 then some (.fn (.row 64 6 true))
  else if f = 31 then some (.fn (.row 75 2 true))
  else if f = 28 then some (.fn (.tup [.row 75 2 true, .sc]))
  else some .inl
def ann : FuncId → Nat → LoopEx := fun f r => ⟨[], [], [], []⟩
--END GAMMA
theorem still_form (x0 r : AV) : fnF Try.prog Γ ann 3 11 Try.f11 (Try.f11.body.getD .skip) (.nil) [x0] (.row 64 6 true) r = (((AV.isOne x0) ∧
((AV.flatS (AV.mk 6 [[(AV.int 0), x0, (AV.int 0), (AV.int 0), (AV.int 0), (AV.int 0)], [(AV.int 10), x0, (AV.int 0), (AV.int 0), (AV.int 0), (AV.int 0)]])) ∧
(fSame (AV.mk 6 [[(AV.int 0), x0, (AV.int 0), (AV.int 0), (AV.int 0), (AV.int 0)], [(AV.int 10), x0, (AV.int 0), (AV.int 0), (AV.int 0), (AV.int 0)]]) r)))) := by kernel_rfl
theorem near_form ( r : AV) : fnF Try.prog Γ ann 3 12 Try.f12 (Try.f12.body.getD .skip) (.nil) [] (.sc) r = (((AV.flat (AV.agg [(AV.int 100), (AV.int 1000)])) ∧
(fSame (AV.agg [(AV.int 100), (AV.int 1000)]) r))) := by kernel_rfl
theorem root_form (x0 r : AV) : fnF Try.prog Γ ann 3 45 Try.f45 (Try.f45.body.getD .skip) (.nil) [x0] (.sc) r = (((AV.binOk Go.BinOp.leq x0 (AV.int 0)) ∧
((AV.isBool (AV.bin Go.BinOp.leq x0 (AV.int 0))) ∧
(((isT (AV.bin Go.BinOp.leq x0 (AV.int 0))) →
  ((AV.flat (AV.int 0)) ∧
  (fSame (AV.int 0) r))) ∧
((isF (AV.bin Go.BinOp.leq x0 (AV.int 0))) →
  (fLoop 321 [(AV.int 0), (AV.int 3037000499)] fun ys321 again321 =>
    ((AV.binOk Go.BinOp.lss (ys321.getD 0 default) (ys321.getD 1 default)) ∧
    ((AV.isBool (AV.bin Go.BinOp.lss (ys321.getD 0 default) (ys321.getD 1 default))) ∧
    (((isT (AV.bin Go.BinOp.lss (ys321.getD 0 default) (ys321.getD 1 default))) →
      ((AV.binOk Go.BinOp.sub (ys321.getD 1 default) (ys321.getD 0 default)) ∧
      ((AV.binOk Go.BinOp.add (AV.bin Go.BinOp.sub (ys321.getD 1 default) (ys321.getD 0 default)) (AV.int 1)) ∧
      ((AV.binOk Go.BinOp.quo (AV.bin Go.BinOp.add (AV.bin Go.BinOp.sub (ys321.getD 1 default) (ys321.getD 0 default)) (AV.int 1)) (AV.int 2)) ∧
      ((AV.binOk Go.BinOp.add (ys321.getD 0 default) (AV.bin Go.BinOp.quo (AV.bin Go.BinOp.add (AV.bin Go.BinOp.sub (ys321.getD 1 default) (ys321.getD 0 default)) (AV.int 1)) (AV.int 2))) ∧
      ((AV.binOk Go.BinOp.mul (AV.bin Go.BinOp.add (ys321.getD 0 default) (AV.bin Go.BinOp.quo (AV.bin Go.BinOp.add (AV.bin Go.BinOp.sub (ys321.getD 1 default) (ys321.getD 0 default)) (AV.int 1)) (AV.int 2))) (AV.bin Go.BinOp.add (ys321.getD 0 default) (AV.bin Go.BinOp.quo (AV.bin Go.BinOp.add (AV.bin Go.BinOp.sub (ys321.getD 1 default) (ys321.getD 0 default)) (AV.int 1)) (AV.int 2)))) ∧
      ((AV.binOk Go.BinOp.leq (AV.bin Go.BinOp.mul (AV.bin Go.BinOp.add (ys321.getD 0 default) (AV.bin Go.BinOp.quo (AV.bin Go.BinOp.add (AV.bin Go.BinOp.sub (ys321.getD 1 default) (ys321.getD 0 default)) (AV.int 1)) (AV.int 2))) (AV.bin Go.BinOp.add (ys321.getD 0 default) (AV.bin Go.BinOp.quo (AV.bin Go.BinOp.add (AV.bin Go.BinOp.sub (ys321.getD 1 default) (ys321.getD 0 default)) (AV.int 1)) (AV.int 2)))) x0) ∧
      ((AV.isBool (AV.bin Go.BinOp.leq (AV.bin Go.BinOp.mul (AV.bin Go.BinOp.add (ys321.getD 0 default) (AV.bin Go.BinOp.quo (AV.bin Go.BinOp.add (AV.bin Go.BinOp.sub (ys321.getD 1 default) (ys321.getD 0 default)) (AV.int 1)) (AV.int 2))) (AV.bin Go.BinOp.add (ys321.getD 0 default) (AV.bin Go.BinOp.quo (AV.bin Go.BinOp.add (AV.bin Go.BinOp.sub (ys321.getD 1 default) (ys321.getD 0 default)) (AV.int 1)) (AV.int 2)))) x0)) ∧
      (((isT (AV.bin Go.BinOp.leq (AV.bin Go.BinOp.mul (AV.bin Go.BinOp.add (ys321.getD 0 default) (AV.bin Go.BinOp.quo (AV.bin Go.BinOp.add (AV.bin Go.BinOp.sub (ys321.getD 1 default) (ys321.getD 0 default)) (AV.int 1)) (AV.int 2))) (AV.bin Go.BinOp.add (ys321.getD 0 default) (AV.bin Go.BinOp.quo (AV.bin Go.BinOp.add (AV.bin Go.BinOp.sub (ys321.getD 1 default) (ys321.getD 0 default)) (AV.int 1)) (AV.int 2)))) x0)) →
        (again321 [(AV.bin Go.BinOp.add (ys321.getD 0 default) (AV.bin Go.BinOp.quo (AV.bin Go.BinOp.add (AV.bin Go.BinOp.sub (ys321.getD 1 default) (ys321.getD 0 default)) (AV.int 1)) (AV.int 2))), (ys321.getD 1 default)])) ∧
      ((isF (AV.bin Go.BinOp.leq (AV.bin Go.BinOp.mul (AV.bin Go.BinOp.add (ys321.getD 0 default) (AV.bin Go.BinOp.quo (AV.bin Go.BinOp.add (AV.bin Go.BinOp.sub (ys321.getD 1 default) (ys321.getD 0 default)) (AV.int 1)) (AV.int 2))) (AV.bin Go.BinOp.add (ys321.getD 0 default) (AV.bin Go.BinOp.quo (AV.bin Go.BinOp.add (AV.bin Go.BinOp.sub (ys321.getD 1 default) (ys321.getD 0 default)) (AV.int 1)) (AV.int 2)))) x0)) →
        ((AV.binOk Go.BinOp.sub (AV.bin Go.BinOp.add (ys321.getD 0 default) (AV.bin Go.BinOp.quo (AV.bin Go.BinOp.add (AV.bin Go.BinOp.sub (ys321.getD 1 default) (ys321.getD 0 default)) (AV.int 1)) (AV.int 2))) (AV.int 1)) ∧
        (again321 [(ys321.getD 0 default), (AV.bin Go.BinOp.sub (AV.bin Go.BinOp.add (ys321.getD 0 default) (AV.bin Go.BinOp.quo (AV.bin Go.BinOp.add (AV.bin Go.BinOp.sub (ys321.getD 1 default) (ys321.getD 0 default)) (AV.int 1)) (AV.int 2))) (AV.int 1))])))))))))))) ∧
    ((isF (AV.bin Go.BinOp.lss (ys321.getD 0 default) (ys321.getD 1 default))) →
      ((AV.flat (ys321.getD 0 default)) ∧
      (fSame (ys321.getD 0 default) r)))))))))))) := by kernel_rfl
theorem dist_form (x0 x1 r : AV) : fnF Try.prog Γ ann 3 38 Try.f38 (Try.f38.body.getD .skip) (.nil) [x0, x1] (.tup [.sc, .sc]) r = (((AV.isAgg x0 2) ∧
((AV.isAgg x1 2) ∧
(∃ r385 : AV, ((Fn Try.prog 44 [(AV.agg [(AV.cel x0 0), (AV.cel x0 1)]), (AV.agg [(AV.cel x1 0), (AV.cel x1 1)])] Sh.sc r385) ∧
(∃ r577 : AV, ((Fn Try.prog 45 [r385] Sh.sc r577) ∧
((AV.binOk Go.BinOp.mul r577 r577) ∧
((AV.binOk Go.BinOp.lss (AV.bin Go.BinOp.mul r577 r577) r385) ∧
((AV.isBool (AV.bin Go.BinOp.lss (AV.bin Go.BinOp.mul r577 r577) r385)) ∧
(((isT (AV.bin Go.BinOp.lss (AV.bin Go.BinOp.mul r577 r577) r385)) →
  ((AV.binOk Go.BinOp.add r577 (AV.int 1)) ∧
  ((AV.flat r577) ∧
  ((AV.flat (AV.bin Go.BinOp.add r577 (AV.int 1))) ∧
  (fSame (AV.tup [r577, (AV.bin Go.BinOp.add r577 (AV.int 1))]) r))))) ∧
((isF (AV.bin Go.BinOp.lss (AV.bin Go.BinOp.mul r577 r577) r385)) →
  ((AV.flat r577) ∧
  ((AV.flat r577) ∧
  (fSame (AV.tup [r577, r577]) r))))))))))))))) := by kernel_rfl
theorem csep_form (x0 r : AV) : fnF Try.prog Γ ann 3 8 Try.f8 (Try.f8.body.getD .skip) (.nil) [x0] (.sc) r = (((AV.isAgg x0 2) ∧
((AV.binOk Go.BinOp.lss (AV.cel x0 0) (AV.int 0)) ∧
((AV.isBool (AV.bin Go.BinOp.lss (AV.cel x0 0) (AV.int 0))) ∧
(((isT (AV.bin Go.BinOp.lss (AV.cel x0 0) (AV.int 0))) →
  ((AV.isBool (AV.bin Go.BinOp.lss (AV.cel x0 0) (AV.int 0))) ∧
  ((isT (AV.bin Go.BinOp.lss (AV.cel x0 0) (AV.int 0))) ∧
  ((AV.flat (AV.int 4)) ∧
  (fSame (AV.int 4) r))))) ∧
((isF (AV.bin Go.BinOp.lss (AV.cel x0 0) (AV.int 0))) →
  ((AV.binOk Go.BinOp.gtr (AV.cel x0 0) (AV.int 1000000)) ∧
  ((AV.isBool (AV.bin Go.BinOp.lss (AV.cel x0 0) (AV.int 0))) ∧
  ((isF (AV.bin Go.BinOp.lss (AV.cel x0 0) (AV.int 0))) ∧
  ((AV.isBool (AV.bin Go.BinOp.gtr (AV.cel x0 0) (AV.int 1000000))) ∧
  (((isT (AV.bin Go.BinOp.gtr (AV.cel x0 0) (AV.int 1000000))) →
    ((AV.isBool (AV.bin Go.BinOp.gtr (AV.cel x0 0) (AV.int 1000000))) ∧
    ((isT (AV.bin Go.BinOp.gtr (AV.cel x0 0) (AV.int 1000000))) ∧
    ((AV.flat (AV.int 4)) ∧
    (fSame (AV.int 4) r))))) ∧
  ((isF (AV.bin Go.BinOp.gtr (AV.cel x0 0) (AV.int 1000000))) →
    ((AV.binOk Go.BinOp.lss (AV.cel x0 1) (AV.int 0)) ∧
    ((AV.isBool (AV.bin Go.BinOp.gtr (AV.cel x0 0) (AV.int 1000000))) ∧
    ((isF (AV.bin Go.BinOp.gtr (AV.cel x0 0) (AV.int 1000000))) ∧
    ((AV.isBool (AV.bin Go.BinOp.lss (AV.cel x0 1) (AV.int 0))) ∧
    (((isT (AV.bin Go.BinOp.lss (AV.cel x0 1) (AV.int 0))) →
      ((AV.isBool (AV.bin Go.BinOp.lss (AV.cel x0 1) (AV.int 0))) ∧
      ((isT (AV.bin Go.BinOp.lss (AV.cel x0 1) (AV.int 0))) ∧
      ((AV.flat (AV.int 4)) ∧
      (fSame (AV.int 4) r))))) ∧
    ((isF (AV.bin Go.BinOp.lss (AV.cel x0 1) (AV.int 0))) →
      ((AV.binOk Go.BinOp.gtr (AV.cel x0 1) (AV.int 60000)) ∧
      ((AV.isBool (AV.bin Go.BinOp.lss (AV.cel x0 1) (AV.int 0))) ∧
      ((isF (AV.bin Go.BinOp.lss (AV.cel x0 1) (AV.int 0))) ∧
      ((AV.isBool (AV.bin Go.BinOp.gtr (AV.cel x0 1) (AV.int 60000))) ∧
      (((isT (AV.bin Go.BinOp.gtr (AV.cel x0 1) (AV.int 60000))) →
        ((AV.flat (AV.int 4)) ∧
        (fSame (AV.int 4) r))) ∧
      ((isF (AV.bin Go.BinOp.gtr (AV.cel x0 1) (AV.int 60000))) →
        ((AV.flat (AV.int 0)) ∧
        (fSame (AV.int 0) r)))))))))))))))))))))))))) := by kernel_rfl
theorem sep_form (x0 x1 x2 r : AV) : fnF Try.prog Γ ann 3 35 Try.f35 (Try.f35.body.getD .skip) (.nil) [x0, x1, x2] (.sc) r = (((AV.isAgg x0 6) ∧
((AV.isAgg x1 6) ∧
((AV.isAgg x2 2) ∧
(∃ r641 : AV, ((Fn Try.prog 38 [(AV.agg [(AV.cel x0 1), (AV.cel x0 2)]), (AV.agg [(AV.cel x1 1), (AV.cel x1 2)])] (Sh.tup [Sh.sc, Sh.sc]) r641) ∧
((AV.binOk Go.BinOp.sub (AV.prj r641 0) (AV.cel x0 4)) ∧
((AV.binOk Go.BinOp.sub (AV.bin Go.BinOp.sub (AV.prj r641 0) (AV.cel x0 4)) (AV.cel x1 4)) ∧
((AV.binOk Go.BinOp.geq (AV.bin Go.BinOp.sub (AV.bin Go.BinOp.sub (AV.prj r641 0) (AV.cel x0 4)) (AV.cel x1 4)) (AV.cel x2 0)) ∧
((AV.isBool (AV.bin Go.BinOp.geq (AV.bin Go.BinOp.sub (AV.bin Go.BinOp.sub (AV.prj r641 0) (AV.cel x0 4)) (AV.cel x1 4)) (AV.cel x2 0))) ∧
(((isT (AV.bin Go.BinOp.geq (AV.bin Go.BinOp.sub (AV.bin Go.BinOp.sub (AV.prj r641 0) (AV.cel x0 4)) (AV.cel x1 4)) (AV.cel x2 0))) →
  ((AV.isBool (AV.bin Go.BinOp.geq (AV.bin Go.BinOp.sub (AV.bin Go.BinOp.sub (AV.prj r641 0) (AV.cel x0 4)) (AV.cel x1 4)) (AV.cel x2 0))) ∧
  ((isT (AV.bin Go.BinOp.geq (AV.bin Go.BinOp.sub (AV.bin Go.BinOp.sub (AV.prj r641 0) (AV.cel x0 4)) (AV.cel x1 4)) (AV.cel x2 0))) ∧
  ((AV.flat (AV.bool true)) ∧
  (fSame (AV.bool true) r))))) ∧
((isF (AV.bin Go.BinOp.geq (AV.bin Go.BinOp.sub (AV.bin Go.BinOp.sub (AV.prj r641 0) (AV.cel x0 4)) (AV.cel x1 4)) (AV.cel x2 0))) →
  ((AV.binOk Go.BinOp.sub (AV.cel x0 3) (AV.cel x1 3)) ∧
  ((AV.binOk Go.BinOp.sub (AV.cel x1 3) (AV.cel x0 3)) ∧
  ((AV.isInt (AV.bin Go.BinOp.sub (AV.cel x0 3) (AV.cel x1 3))) ∧
  ((AV.isInt (AV.bin Go.BinOp.sub (AV.cel x1 3) (AV.cel x0 3))) ∧
  ((AV.binOk Go.BinOp.sub (AV.mx (AV.bin Go.BinOp.sub (AV.cel x0 3) (AV.cel x1 3)) (AV.bin Go.BinOp.sub (AV.cel x1 3) (AV.cel x0 3))) (AV.cel x0 5)) ∧
  ((AV.binOk Go.BinOp.sub (AV.bin Go.BinOp.sub (AV.mx (AV.bin Go.BinOp.sub (AV.cel x0 3) (AV.cel x1 3)) (AV.bin Go.BinOp.sub (AV.cel x1 3) (AV.cel x0 3))) (AV.cel x0 5)) (AV.cel x1 5)) ∧
  ((AV.binOk Go.BinOp.geq (AV.bin Go.BinOp.sub (AV.bin Go.BinOp.sub (AV.mx (AV.bin Go.BinOp.sub (AV.cel x0 3) (AV.cel x1 3)) (AV.bin Go.BinOp.sub (AV.cel x1 3) (AV.cel x0 3))) (AV.cel x0 5)) (AV.cel x1 5)) (AV.cel x2 1)) ∧
  ((AV.isBool (AV.bin Go.BinOp.geq (AV.bin Go.BinOp.sub (AV.bin Go.BinOp.sub (AV.prj r641 0) (AV.cel x0 4)) (AV.cel x1 4)) (AV.cel x2 0))) ∧
  ((isF (AV.bin Go.BinOp.geq (AV.bin Go.BinOp.sub (AV.bin Go.BinOp.sub (AV.prj r641 0) (AV.cel x0 4)) (AV.cel x1 4)) (AV.cel x2 0))) ∧
  ((AV.flat (AV.bin Go.BinOp.geq (AV.bin Go.BinOp.sub (AV.bin Go.BinOp.sub (AV.mx (AV.bin Go.BinOp.sub (AV.cel x0 3) (AV.cel x1 3)) (AV.bin Go.BinOp.sub (AV.cel x1 3) (AV.cel x0 3))) (AV.cel x0 5)) (AV.cel x1 5)) (AV.cel x2 1))) ∧
  (fSame (AV.bin Go.BinOp.geq (AV.bin Go.BinOp.sub (AV.bin Go.BinOp.sub (AV.mx (AV.bin Go.BinOp.sub (AV.cel x0 3) (AV.cel x1 3)) (AV.bin Go.BinOp.sub (AV.cel x1 3) (AV.cel x0 3))) (AV.cel x0 5)) (AV.cel x1 5)) (AV.cel x2 1)) r))))))))))))))))))))))) := by kernel_rfl
theorem common_form (x0 x1 r : AV) : fnF Try.prog Γ ann 3 33 Try.f33 (Try.f33.body.getD .skip) (.nil) [x0, x1] (.tup [.sc, .sc]) r = (((AV.isSl x0 6) ∧
((AV.inb x0 (AV.int 0)) ∧
((AV.isSl x1 6) ∧
((AV.inb x1 (AV.int 0)) ∧
((AV.isInt (AV.at x0 (AV.int 0) 0)) ∧
((AV.isInt (AV.at x1 (AV.int 0) 0)) ∧
((AV.isSl x0 6) ∧
((AV.binOk Go.BinOp.sub (AV.len x0) (AV.int 1)) ∧
((AV.isSl x0 6) ∧
((AV.inb x0 (AV.bin Go.BinOp.sub (AV.len x0) (AV.int 1))) ∧
((AV.isSl x1 6) ∧
((AV.binOk Go.BinOp.sub (AV.len x1) (AV.int 1)) ∧
((AV.isSl x1 6) ∧
((AV.inb x1 (AV.bin Go.BinOp.sub (AV.len x1) (AV.int 1))) ∧
((AV.isInt (AV.at x0 (AV.bin Go.BinOp.sub (AV.len x0) (AV.int 1)) 0)) ∧
((AV.isInt (AV.at x1 (AV.bin Go.BinOp.sub (AV.len x1) (AV.int 1)) 0)) ∧
((AV.flat (AV.mx (AV.at x0 (AV.int 0) 0) (AV.at x1 (AV.int 0) 0))) ∧
((AV.flat (AV.mn (AV.at x0 (AV.bin Go.BinOp.sub (AV.len x0) (AV.int 1)) 0) (AV.at x1 (AV.bin Go.BinOp.sub (AV.len x1) (AV.int 1)) 0))) ∧
(fSame (AV.tup [(AV.mx (AV.at x0 (AV.int 0) 0) (AV.at x1 (AV.int 0) 0)), (AV.mn (AV.at x0 (AV.bin Go.BinOp.sub (AV.len x0) (AV.int 1)) 0) (AV.at x1 (AV.bin Go.BinOp.sub (AV.len x1) (AV.int 1)) 0))]) r)))))))))))))))))))) := by kernel_rfl
theorem spans_form (x0 x1 x2 r : AV) : fnF Try.prog Γ ann 3 31 Try.f31 (Try.f31.body.getD .skip) (.nil) [x0, x1, x2] (.row 75 2 true) r = (((AV.isAgg x2 2) ∧
(∃ r321 : AV, ((Fn Try.prog 33 [x0, x1] (Sh.tup [Sh.sc, Sh.sc]) r321) ∧
(fLoop 833 [(AV.prj r321 0), (AV.mk 2 [])] fun ys833 again833 =>
  ((AV.binOk Go.BinOp.leq (ys833.getD 0 default) (AV.prj r321 1)) ∧
  ((AV.isBool (AV.bin Go.BinOp.leq (ys833.getD 0 default) (AV.prj r321 1))) ∧
  (((isT (AV.bin Go.BinOp.leq (ys833.getD 0 default) (AV.prj r321 1))) →
    (∃ r1153 : AV, ((Fn Try.prog 34 [x0, (ys833.getD 0 default)] (Sh.tup [Sh.sc, Sh.sc]) r1153) ∧
    ((AV.isAgg (AV.prj r1153 0) 6) ∧
    (∃ r1729 : AV, ((Fn Try.prog 34 [x1, (ys833.getD 0 default)] (Sh.tup [Sh.sc, Sh.sc]) r1729) ∧
    ((AV.isAgg (AV.prj r1729 0) 6) ∧
    (∃ r2369 : AV, ((Fn Try.prog 35 [(AV.agg [(AV.cel (AV.prj r1153 0) 0), (AV.cel (AV.prj r1153 0) 1), (AV.cel (AV.prj r1153 0) 2), (AV.cel (AV.prj r1153 0) 3), (AV.cel (AV.prj r1153 0) 4), (AV.cel (AV.prj r1153 0) 5)]), (AV.agg [(AV.cel (AV.prj r1729 0) 0), (AV.cel (AV.prj r1729 0) 1), (AV.cel (AV.prj r1729 0) 2), (AV.cel (AV.prj r1729 0) 3), (AV.cel (AV.prj r1729 0) 4), (AV.cel (AV.prj r1729 0) 5)]), (AV.agg [(AV.cel x2 0), (AV.cel x2 1)])] Sh.sc r2369) ∧
    ((AV.isBool r2369) ∧
    (((isT r2369) →
      ((AV.binOk Go.BinOp.add (ys833.getD 0 default) (AV.int 1)) ∧
      (again833 [(AV.bin Go.BinOp.add (ys833.getD 0 default) (AV.int 1)), (ys833.getD 1 default)]))) ∧
    ((isF r2369) →
      ((AV.binOk Go.BinOp.gtr (AV.len (ys833.getD 1 default)) (AV.int 0)) ∧
      ((AV.isBool (AV.bin Go.BinOp.gtr (AV.len (ys833.getD 1 default)) (AV.int 0))) ∧
      (((isT (AV.bin Go.BinOp.gtr (AV.len (ys833.getD 1 default)) (AV.int 0))) →
        ((AV.binOk Go.BinOp.sub (AV.len (ys833.getD 1 default)) (AV.int 1)) ∧
        ((AV.inb (ys833.getD 1 default) (AV.bin Go.BinOp.sub (AV.len (ys833.getD 1 default)) (AV.int 1))) ∧
        ((AV.inb (ys833.getD 1 default) (AV.bin Go.BinOp.sub (AV.len (ys833.getD 1 default)) (AV.int 1))) ∧
        ((AV.binOk Go.BinOp.eql (AV.at (ys833.getD 1 default) (AV.bin Go.BinOp.sub (AV.len (ys833.getD 1 default)) (AV.int 1)) 1) (ys833.getD 0 default)) ∧
        ((AV.isBool (AV.bin Go.BinOp.gtr (AV.len (ys833.getD 1 default)) (AV.int 0))) ∧
        ((isT (AV.bin Go.BinOp.gtr (AV.len (ys833.getD 1 default)) (AV.int 0))) ∧
        ((AV.isBool (AV.bin Go.BinOp.eql (AV.at (ys833.getD 1 default) (AV.bin Go.BinOp.sub (AV.len (ys833.getD 1 default)) (AV.int 1)) 1) (ys833.getD 0 default))) ∧
        (((isT (AV.bin Go.BinOp.eql (AV.at (ys833.getD 1 default) (AV.bin Go.BinOp.sub (AV.len (ys833.getD 1 default)) (AV.int 1)) 1) (ys833.getD 0 default))) →
          ((AV.binOk Go.BinOp.sub (AV.len (ys833.getD 1 default)) (AV.int 1)) ∧
          ((AV.binOk Go.BinOp.add (ys833.getD 0 default) (AV.int 1)) ∧
          ((AV.inb (ys833.getD 1 default) (AV.bin Go.BinOp.sub (AV.len (ys833.getD 1 default)) (AV.int 1))) ∧
          ((AV.isOne (AV.bin Go.BinOp.add (ys833.getD 0 default) (AV.int 1))) ∧
          ((AV.inb (ys833.getD 1 default) (AV.bin Go.BinOp.sub (AV.len (ys833.getD 1 default)) (AV.int 1))) ∧
          ((AV.binOk Go.BinOp.add (ys833.getD 0 default) (AV.int 1)) ∧
          (again833 [(AV.bin Go.BinOp.add (ys833.getD 0 default) (AV.int 1)), (AV.setEl (ys833.getD 1 default) (AV.bin Go.BinOp.sub (AV.len (ys833.getD 1 default)) (AV.int 1)) 1 [(AV.bin Go.BinOp.add (ys833.getD 0 default) (AV.int 1))])])))))))) ∧
        ((isF (AV.bin Go.BinOp.eql (AV.at (ys833.getD 1 default) (AV.bin Go.BinOp.sub (AV.len (ys833.getD 1 default)) (AV.int 1)) 1) (ys833.getD 0 default))) →
          ((AV.binOk Go.BinOp.add (ys833.getD 0 default) (AV.int 1)) ∧
          ((AV.isOne (ys833.getD 0 default)) ∧
          ((AV.isOne (AV.bin Go.BinOp.add (ys833.getD 0 default) (AV.int 1))) ∧
          ((AV.room (ys833.getD 1 default) (AV.mk 2 [[(ys833.getD 0 default), (AV.bin Go.BinOp.add (ys833.getD 0 default) (AV.int 1))]]) 16) ∧
          ((AV.binOk Go.BinOp.add (ys833.getD 0 default) (AV.int 1)) ∧
          (again833 [(AV.bin Go.BinOp.add (ys833.getD 0 default) (AV.int 1)), (AV.app 2 (ys833.getD 1 default) (AV.mk 2 [[(ys833.getD 0 default), (AV.bin Go.BinOp.add (ys833.getD 0 default) (AV.int 1))]]))])))))))))))))))) ∧
      ((isF (AV.bin Go.BinOp.gtr (AV.len (ys833.getD 1 default)) (AV.int 0))) →
        ((AV.isBool (AV.bin Go.BinOp.gtr (AV.len (ys833.getD 1 default)) (AV.int 0))) ∧
        ((isF (AV.bin Go.BinOp.gtr (AV.len (ys833.getD 1 default)) (AV.int 0))) ∧
        ((AV.binOk Go.BinOp.add (ys833.getD 0 default) (AV.int 1)) ∧
        ((AV.isOne (ys833.getD 0 default)) ∧
        ((AV.isOne (AV.bin Go.BinOp.add (ys833.getD 0 default) (AV.int 1))) ∧
        ((AV.room (ys833.getD 1 default) (AV.mk 2 [[(ys833.getD 0 default), (AV.bin Go.BinOp.add (ys833.getD 0 default) (AV.int 1))]]) 16) ∧
        ((AV.binOk Go.BinOp.add (ys833.getD 0 default) (AV.int 1)) ∧
        (again833 [(AV.bin Go.BinOp.add (ys833.getD 0 default) (AV.int 1)), (AV.app 2 (ys833.getD 1 default) (AV.mk 2 [[(ys833.getD 0 default), (AV.bin Go.BinOp.add (ys833.getD 0 default) (AV.int 1))]]))])))))))))))))))))))))))) ∧
  ((isF (AV.bin Go.BinOp.leq (ys833.getD 0 default) (AV.prj r321 1))) →
    ((AV.flatS (ys833.getD 1 default)) ∧
    (fSame (ys833.getD 1 default) r))))))))))) := by kernel_rfl
theorem pair_form (x0 x1 x2 r : AV) : fnF Try.prog Γ ann 3 28 Try.f28 (Try.f28.body.getD .skip) ((.both (.t .nil) (.both (.both (.t .nil) .nil) .nil))) [x0, x1, x2] (.tup [.row 75 2 true, .sc]) r = (((AV.isAgg x2 2) ∧
((AV.isOne x0) ∧
((AV.isOne x1) ∧
((fEnt Try.prog 30) ∧
(fAllV fun _ => (∃ r705 : AV, ((Fn Try.prog 8 [(AV.agg [(AV.cel x2 0), (AV.cel x2 1)])] Sh.sc r705) ∧
((AV.binOk Go.BinOp.neq r705 (AV.int 0)) ∧
((AV.isBool (AV.bin Go.BinOp.neq r705 (AV.int 0))) ∧
(((isT (AV.bin Go.BinOp.neq r705 (AV.int 0))) →
  ((AV.binOk Go.BinOp.neq r705 (AV.int 0)) ∧
  ((AV.isBool (AV.bin Go.BinOp.neq r705 (AV.int 0))) ∧
  ((isT (AV.bin Go.BinOp.neq r705 (AV.int 0))) ∧
  ((AV.flatS (AV.mk 2 [])) ∧
  ((AV.flat r705) ∧
  (fSame (AV.tup [(AV.mk 2 []), r705]) r))))))) ∧
((isF (AV.bin Go.BinOp.neq r705 (AV.int 0))) →
  (fLoop 1153 [(AV.int 0)] fun ys1153 again1153 =>
    ((AV.binOk Go.BinOp.lss (ys1153.getD 0 default) (AV.len (AV.mk 1 [[x0], [x1]]))) ∧
    ((AV.isBool (AV.bin Go.BinOp.lss (ys1153.getD 0 default) (AV.len (AV.mk 1 [[x0], [x1]])))) ∧
    (((isT (AV.bin Go.BinOp.lss (ys1153.getD 0 default) (AV.len (AV.mk 1 [[x0], [x1]])))) →
      ((AV.inb (AV.mk 1 [[x0], [x1]]) (ys1153.getD 0 default)) ∧
      ((AV.inb (AV.mk 1 [[x0], [x1]]) (ys1153.getD 0 default)) ∧
      (∃ r1473 : AV, ((Fn Try.prog 19 [(AV.at (AV.mk 1 [[x0], [x1]]) (ys1153.getD 0 default) 0)] Sh.sc r1473) ∧
      ((AV.binOk Go.BinOp.neq r1473 (AV.int 0)) ∧
      ((AV.isBool (AV.bin Go.BinOp.neq r1473 (AV.int 0))) ∧
      (((isT (AV.bin Go.BinOp.neq r1473 (AV.int 0))) →
        ((AV.binOk Go.BinOp.neq r1473 (AV.int 0)) ∧
        ((AV.isBool (AV.bin Go.BinOp.neq r1473 (AV.int 0))) ∧
        ((isT (AV.bin Go.BinOp.neq r1473 (AV.int 0))) ∧
        ((AV.flatS (AV.mk 2 [])) ∧
        ((AV.flat r1473) ∧
        (fSame (AV.tup [(AV.mk 2 []), r1473]) r))))))) ∧
      ((isF (AV.bin Go.BinOp.neq r1473 (AV.int 0))) →
        ((AV.binOk Go.BinOp.add (ys1153.getD 0 default) (AV.int 1)) ∧
        (again1153 [(AV.bin Go.BinOp.add (ys1153.getD 0 default) (AV.int 1))]))))))))))) ∧
    ((isF (AV.bin Go.BinOp.lss (ys1153.getD 0 default) (AV.len (AV.mk 1 [[x0], [x1]])))) →
      (∃ r1729 : AV, ((Fn Try.prog 31 [x0, x1, (AV.agg [(AV.cel x2 0), (AV.cel x2 1)])] (Sh.row 75 2 true) r1729) ∧
      ((AV.flatS r1729) ∧
      ((AV.flat (AV.int 0)) ∧
      (fSame (AV.tup [r1729, (AV.int 0)]) r)))))))))))))))))))))) := by kernel_rfl
theorem first_form (x0 x1 x2 r : AV) : fnF Try.prog Γ ann 3 20 Try.f20 (Try.f20.body.getD .skip) (.nil) [x0, x1, x2] (.tup [.sc, .sc]) r = (((AV.isAgg x2 2) ∧
(∃ r385 : AV, ((Fn Try.prog 28 [x0, x1, (AV.agg [(AV.cel x2 0), (AV.cel x2 1)])] (Sh.tup [(Sh.row 75 2 true), Sh.sc]) r385) ∧
((AV.binOk Go.BinOp.neq (AV.prj r385 1) (AV.int 0)) ∧
((AV.isBool (AV.bin Go.BinOp.neq (AV.prj r385 1) (AV.int 0))) ∧
(((isT (AV.bin Go.BinOp.neq (AV.prj r385 1) (AV.int 0))) →
  ((AV.flat (AV.int 0)) ∧
  ((AV.flat (AV.prj r385 1)) ∧
  (fSame (AV.tup [(AV.int 0), (AV.prj r385 1)]) r)))) ∧
((isF (AV.bin Go.BinOp.neq (AV.prj r385 1) (AV.int 0))) →
  ((AV.binOk Go.BinOp.eql (AV.len (AV.prj r385 0)) (AV.int 0)) ∧
  ((AV.isBool (AV.bin Go.BinOp.eql (AV.len (AV.prj r385 0)) (AV.int 0))) ∧
  (((isT (AV.bin Go.BinOp.eql (AV.len (AV.prj r385 0)) (AV.int 0))) →
    ((AV.flat (AV.int 0)) ∧
    ((AV.flat (AV.int 8)) ∧
    (fSame (AV.tup [(AV.int 0), (AV.int 8)]) r)))) ∧
  ((isF (AV.bin Go.BinOp.eql (AV.len (AV.prj r385 0)) (AV.int 0))) →
    ((AV.inb (AV.prj r385 0) (AV.int 0)) ∧
    ((AV.inb (AV.prj r385 0) (AV.int 0)) ∧
    ((AV.flat (AV.at (AV.prj r385 0) (AV.int 0) 0)) ∧
    ((AV.flat (AV.int 0)) ∧
    (fSame (AV.tup [(AV.at (AV.prj r385 0) (AV.int 0) 0), (AV.int 0)]) r))))))))))))))))) := by kernel_rfl
theorem clash_form (x0 x1 x2 r : AV) : fnF Try.prog Γ ann 3 9 Try.f9 (Try.f9.body.getD .skip) (.nil) [x0, x1, x2] (.sc) r = (((AV.isAgg x2 2) ∧
(∃ r321 : AV, ((Fn Try.prog 20 [x0, x1, (AV.agg [(AV.cel x2 0), (AV.cel x2 1)])] (Sh.tup [Sh.sc, Sh.sc]) r321) ∧
((AV.binOk Go.BinOp.eql (AV.prj r321 1) (AV.int 0)) ∧
((AV.flat (AV.bin Go.BinOp.eql (AV.prj r321 1) (AV.int 0))) ∧
(fSame (AV.bin Go.BinOp.eql (AV.prj r321 1) (AV.int 0)) r))))))) := by kernel_rfl
end ResF
end Go.Proofs.Ytaomlgfamnfcjaa
