/- Each operation does what the run says: cells, loads, addresses of elements. -/
import Derived.Test.YtfdpbfdhcngfgaaOps2
namespace Go.Proofs.Ytfdpbfdhcngfgaa
open Go.RowKit
set_option linter.unusedVariables false
theorem cells_one {v : Value} (h : v.oneCell' = true) : v.cells = #[v] := by cases v <;> first | rfl | cases h
section
variable {P : Program} {base : Nat} {w0 : World} {ok0 isd : Nat → Prop} {tm : List DE} {blk : Nat → DB} {ρ : Nat → Value} {a : Act} {w : World} {V : View} {st : Nat} {o : Oper} {Γ : FuncId → Option Ca}
/-- These cells hold that. -/
def RCells (w : World) (ok : Nat → Prop) (ρ : Nat → Value) (blk : Nat → DB) (isd : Nat → Prop) (cs : List DE) (vs : Array Value) : Prop :=
  vs.size = cs.length ∧ (∀ i, i < cs.length → (vs.getD i undef).oneCell' = true) ∧ ∀ i, i < cs.length → RD w ok ρ blk isd (cs.getD i .any) (vs.getD i undef)
theorem rcells_one {ok : Nat → Prop} {d : DE} {v : Value} (h1 : v.oneCell' = true) (h : RD w ok ρ blk isd d v) : RCells w ok ρ blk isd [d] v.cells := by
  rw [cells_one h1]
  refine ⟨rfl, fun i hi => ?_, fun i hi => ?_⟩
  · obtain rfl : i = 0 := by simpa using hi
    exact h1
  · obtain rfl : i = 0 := by simpa using hi
    exact h
theorem split_ok {ok : Nat → Prop} {t : TypeId} {d : DE} {v : Value} {cs : List DE} {obs : List Prop} (hs : split P t d = some (cs, obs)) (hobs : ∀ p ∈ obs, p) (hd : RD w ok ρ blk isd d v) :
    RCells w ok ρ blk isd cs v.cells ∧ cs.length = P.cellsOf t := by
  unfold split at hs
  split at hs
  · split at hs
    · split at hs
      · rename_i hl
        simp only [Option.some.injEq, Prod.mk.injEq] at hs
        obtain ⟨rfl, rfl⟩ := hs
        cases hd with | agg _ vs h1 h2 h3 => exact ⟨⟨h1, h2, h3⟩, hl⟩
      · cases hs
    · rename_i x
      simp only [Option.some.injEq, Prod.mk.injEq] at hs
      obtain ⟨rfl, rfl⟩ := hs
      obtain ⟨ys, rfl, hl⟩ := hobs (x.isAgg (P.cellsOf t)) (by simp)
      cases hd with
      | v _ _ hr =>
        cases hr with
        | agg _ vs h1 h2 h3 =>
          refine ⟨⟨?_, fun i hi => ?_, fun i hi => ?_⟩, by simp⟩
          · show vs.size = _
            simp [h1, hl]
          · exact h2 i (by simp at hi; omega)
          · have hi' : i < P.cellsOf t := by simpa using hi
            have := h3 i (by omega)
            simp only [List.getD_eq_getElem?_getD, List.getElem?_map, List.getElem?_range hi', Option.map_some, Option.getD_some]
            exact .v _ _ this
    · cases hs
  · split at hs
    · rename_i hsz
      split at hs
      · rename_i x
        simp only [Option.some.injEq, Prod.mk.injEq] at hs
        obtain ⟨rfl, rfl⟩ := hs
        have h1 : x.one = true := hobs x.isOne (by simp)
        cases hd with
        | v _ _ hr =>
          refine ⟨rcells_one ?_ (.v _ _ hr), hsz.symm⟩
          rw [hr.one]; exact h1
      · rename_i u
        split at hs
        · rename_i h1
          simp only [Option.some.injEq, Prod.mk.injEq] at hs
          obtain ⟨rfl, rfl⟩ := hs
          cases hd
          exact ⟨rcells_one h1 (.c _), hsz.symm⟩
        · cases hs
      · cases hs
      · cases hs
      · cases hs
      · rename_i n1 n2 n3 n4 n5
        simp only [Option.some.injEq, Prod.mk.injEq] at hs
        obtain ⟨rfl, rfl⟩ := hs
        refine ⟨rcells_one ?_ hd, hsz.symm⟩
        cases hd with
        | any => exact absurd rfl n3
        | v x => exact absurd rfl (n1 x)
        | c => exact absurd rfl (n2 _)
        | agg cs => exact absurd rfl (n4 cs)
        | tup cs => exact absurd rfl (n5 cs)
        | row _ _ _ _ h1 _ => exact h1
        | rp _ _ _ _ _ _ _ h1 _ => exact h1
        | rt _ _ _ _ _ _ h1 _ => exact h1
        | _ => rfl
    · cases hs
theorem RCells.agg {ok : Nat → Prop} {cs : List DE} {vs : Array Value} (h : RCells w ok ρ blk isd cs vs) : RD w ok ρ blk isd (.agg cs) (.agg vs) := .agg cs vs h.1 h.2.1 h.2.2
theorem RCells.seg {ok : Nat → Prop} {cs : List DE} {vs : Array Value} (h : RCells w ok ρ blk isd cs vs) (k m : Nat) : RCells w ok ρ blk isd ((cs.drop k).take m) (vs.extract k (k + m)) := by
  refine ⟨by simp [h.1]; omega, fun i hi => ?_, fun i hi => ?_⟩
  · have hi' : k + i < cs.length ∧ i < m := by simp at hi; omega
    have := h.2.1 (k + i) hi'.1
    have hv : k + i < vs.size := by rw [h.1]; exact hi'.1
    have e : (vs.extract k (k + m)).getD i undef = vs.getD (k + i) undef := by
      simp only [Array.getD_eq_getD_getElem?, Array.getElem?_extract]
      rw [if_pos (by omega)]
    rw [e]; exact this
  · have hi' : k + i < cs.length ∧ i < m := by simp at hi; omega
    have := h.2.2 (k + i) hi'.1
    have hv : k + i < vs.size := by rw [h.1]; exact hi'.1
    have e : (vs.extract k (k + m)).getD i undef = vs.getD (k + i) undef := by
      simp only [Array.getD_eq_getD_getElem?, Array.getElem?_extract]
      rw [if_pos (by omega)]
    have e2 : ((cs.drop k).take m).getD i .any = cs.getD (k + i) .any := by
      simp only [List.getD_eq_getElem?_getD, List.getElem?_take, List.getElem?_drop]
      rw [if_pos hi'.2]
    rw [e, e2]; exact this
theorem whole_ok {ok : Nat → Prop} {t : TypeId} {cs : List DE} {d : DE} {vs : Array Value} (hw : whole P t cs = some d) (h : RCells w ok ρ blk isd cs vs) :
    RD w ok ρ blk isd d (if isAggT P t then .agg vs else vs.getD 0 undef) ∧ (isAggT P t = true → vs.size = P.cellsOf t) ∧ (isAggT P t = false → vs.size = 1) := by
  unfold whole at hw
  split at hw
  · rename_i hi
    split at hw
    · rename_i hl
      simp only [Option.some.injEq] at hw
      subst hw
      rw [if_pos hi]
      exact ⟨h.agg, fun _ => h.1.trans hl, fun e => by rw [hi] at e; cases e⟩
    · cases hw
  · rename_i hi
    split at hw
    · rename_i d'
      simp only [Option.some.injEq] at hw
      subst hw
      rw [if_neg hi]
      exact ⟨h.2.2 0 (by simp), fun e => absurd e hi, fun _ => h.1⟩
    · cases hw
theorem isAgg_run {t : TypeId} (h : ¬ (P.underlying t).isNone = true) : (isAgg t).run P w = .ok (isAggT P t) w := by
  cases hu : P.underlying t with
  | none => rw [hu] at h; exact absurd rfl h
  | some d => unfold isAggT; rw [hu]; cases d <;> simp [isAgg, run_underlying hu]
theorem run_loadCells (ad : Addr) (cs : List Value) (h : ∀ j u, cs[j]? = some u → w.cell? (ad.add j) = some u) : (loadCells ad cs.length).run P w = .ok cs.toArray w := by
  have := run_firstCells_some (P := P) w 1 cs.length ad 0 0 cs (by omega) h
  simpa [Builtin.firstCells] using this
/-- A load of what lies there. -/
theorem run_load {t : TypeId} (hu : ¬ (P.underlying t).isNone = true) (g k : Nat) (vs : Array Value) (hvs : ∀ j u, vs[j]? = some u → w.cell? ⟨g, k + j, none⟩ = some u) (h1 : isAggT P t = true → vs.size = P.cellsOf t ∧ P.cellsOf t ≠ 0) (h2 : isAggT P t = false → vs.size = 1) :
    (loadVar t ⟨g, k, none⟩).run P w = .ok (if isAggT P t then .agg vs else vs.getD 0 undef) w := by
  unfold loadVar
  simp only [Sem.run_bind, isAgg_run (w := w) hu, Result.andThen_ok]
  cases hA : isAggT P t with
  | true =>
    obtain ⟨e1, e2⟩ := h1 hA
    have hc : ∀ j u, vs.toList[j]? = some u → w.cell? ((⟨g, k, none⟩ : Addr).add j) = some u := fun j u hj => by
      have : (⟨g, k, none⟩ : Addr).add j = ⟨g, k + j, none⟩ := by unfold Addr.add; split <;> simp_all
      rw [this]; exact hvs j u (by simpa using hj)
    have := run_loadCells (P := P) (w := w) ⟨g, k, none⟩ vs.toList hc
    simp only [Array.length_toList, e1, Array.toArray_toList] at this
    simp [sizeOf_run (w := w) e2, this]
  | false =>
    have hs := h2 hA
    have : w.cell? ⟨g, k, none⟩ = some vs[0] := hvs 0 _ (by simp [hs])
    simp [load, Sem.run, this, hs]
theorem cells_at {g k m : Nat} {vs : Array Value} {t : TypeId} (hg : w.heap[g]? = some (.cells vs t (0, 0))) : ∀ j u, (vs.extract k (k + m))[j]? = some u → w.cell? ⟨g, k + j, none⟩ = some u := fun j u hj => by
  rw [cell_of_row w g _ vs t (0, 0) hg]
  simp only [Array.getElem?_extract] at hj
  split at hj
  · exact hj
  · cases hj
/-- The cells of a slice's element. -/
theorem rv_el {ok : Nat → Prop} {x : AV} {A : Option Addr} {n c s : Nat} (h : RV w ok x (.slice A n c)) (hx : x.isSl s) (i : Nat) (hi : i < n) :
    ∃ (g off : Nat) (us : Nat → Value), A = some ⟨g, off, none⟩ ∧ (∀ j, j < s → w.cell? ⟨g, off + i * s + j, none⟩ = some (us j)) ∧ (∀ j, j < s → (us j).oneCell' = true) ∧ (∀ j, j < s → RV w ok (gt2 x.els i j) (us j)) ∧ (x.els.getD i []).length = s := by
  rw [hx] at h
  cases h with
  | sl _ _ _ _ _ us hn hnc hc hs hA hone hu =>
    obtain ⟨g, off, rfl, _, _, hcell⟩ := hA (by omega)
    refine ⟨g, off, us i, rfl, fun j hj => hcell i j hi hj, fun j hj => hone i j hi hj, fun j hj => hu i j hi hj, ?_⟩
    have hi' : i < x.els.length := by omega
    rw [List.getD_eq_getElem?_getD, List.getElem?_eq_getElem hi']
    exact hs _ (List.getElem_mem hi')
theorem rv_atAgg {ok : Nat → Prop} {x i : AV} {s : Nat} (j m : Nat) (hjm : j + m ≤ s) (us : Nat → Value) (hone : ∀ j, j < s → (us j).oneCell' = true) (hu : ∀ j, j < s → RV w ok (gt2 x.els i.num.toNat j) (us j)) (hlen : (x.els.getD i.num.toNat []).length = s) :
    RV w ok (x.atAgg i j m) (.agg ((Array.range m).map fun k => us (j + k))) := by
  rw [List.getD_eq_getElem?_getD] at hlen
  refine .agg _ _ (by simp [hlen]; omega) (fun k hk => ?_) (fun k hk => ?_)
  · have hk' : k < m := by simp [hlen] at hk; omega
    simp [hk', hone (j + k) (by omega)]
  · have hk' : k < m := by simp [hlen] at hk; omega
    have := hu (j + k) (by omega)
    simp only [gt2] at this
    simp only [List.getD_eq_getElem?_getD, List.getElem?_take, List.getElem?_drop, hk', if_true, Array.getD_eq_getD_getElem?, Array.getElem?_map, Array.getElem?_range, Option.map_some, Option.getD_some]
    simpa using this
/-- A load of (a part of) an element. -/
theorem run_load_us {ok : Nat → Prop} {t : TypeId} (hu : ¬ (P.underlying t).isNone = true) {x i : AV} {s g off : Nat} (us : Nat → Value) (hc : ∀ j, j < s → w.cell? ⟨g, off + i.num.toNat * s + j, none⟩ = some (us j)) (hone : ∀ j, j < s → (us j).oneCell' = true) (hv : ∀ j, j < s → RV w ok (gt2 x.els i.num.toNat j) (us j)) (hlen : (x.els.getD i.num.toNat []).length = s)
    (j : Nat) (hj : j + P.cellsOf t ≤ s) (h0 : P.cellsOf t ≠ 0) (hsz : isAggT P t = true ∨ P.cellsOf t = 1) :
    ∃ v, (loadVar t ⟨g, off + i.num.toNat * s + j, none⟩).run P w = .ok v w ∧ RV w ok (if isAggT P t then x.atAgg i j (P.cellsOf t) else x.at i j) v := by
  have hsz' : isAggT P t = false → P.cellsOf t = 1 := fun e => hsz.resolve_left (by rw [e]; simp)
  have hcell : ∀ (k : Nat) (u : Value), ((Array.range (P.cellsOf t)).map fun k => us (j + k))[k]? = some u → w.cell? ⟨g, off + i.num.toNat * s + j + k, none⟩ = some u := fun k u hk => by
    simp only [Array.getElem?_map] at hk
    by_cases hlt : k < P.cellsOf t
    · simp only [Array.getElem?_range, hlt, if_true, Option.map_some, Option.some.injEq] at hk
      rw [← hk, ← hc (j + k) (by omega)]
      congr 2; omega
    · simp [hlt] at hk
  have hr := run_load (P := P) (w := w) hu g _ _ hcell (fun _ => ⟨by simp, by omega⟩) (fun hA => by simp [hsz' hA])
  cases hA : isAggT P t with
  | true =>
    rw [hA] at hr
    exact ⟨_, hr, rv_atAgg j _ hj us hone hv hlen⟩
  | false =>
    rw [hA] at hr
    refine ⟨_, hr, ?_⟩
    have := hv j (by omega)
    simp only [hsz' hA, Bool.false_eq_true, if_false]
    simpa [hsz' hA, AV.at] using this
/-- The cells of a row's element. -/
theorem RRow.el {B e s : Nat} {okc : Nat → Prop} {x : AV} {g m c : Nat} (h : RRow w B e s okc x (.slice (some ⟨g, 0, none⟩) m c)) (i : Nat) (hi : i < x.els.length) :
    ∃ us : Nat → Value, (∀ j, j < s → w.cell? ⟨g, 0 + i * s + j, none⟩ = some (us j)) ∧ (∀ j, j < s → (us j).oneCell' = true) ∧ (∀ j, j < s → RV w okc (gt2 x.els i j) (us j)) ∧ (x.els.getD i []).length = s := by
  have hr := h.rv (ok' := fun _ => True) (fun _ _ _ => trivial) (fun _ _ => trivial)
  obtain ⟨L, xs, rfl, hs, hL, ho, hone, hv⟩ := h
  obtain ⟨g', off', us, e1, hc, ho1, _, hlen⟩ := rv_el (s := s) hr rfl i (by cases hr; simp_all [AV.els])
  injection e1 with e1
  injection e1 with e1 e2
  subst e1 e2
  refine ⟨us, hc, ho1, fun j hj => ?_, hlen⟩
  have hi' : i < L.length := hi
  have hl : i * s + j < xs.length := by
    rw [ho.1]
    have : (i + 1) * s ≤ L.length * s := Nat.mul_le_mul_right _ hi'
    rw [Nat.add_mul] at this; omega
  have h1 := hv i j hi' hj
  rcases ho.2 with ⟨e, _⟩ | ⟨g2, cap, cur, e, hb, hg, hn, hm, hsz, htk⟩
  · cases e
  · injection e with e3 e4 e5
    injection e3 with e3
    injection e3 with e3
    subst e3
    have h2 := hc j hj
    rw [cell_of_row w g _ cur _ (0, 0) hg] at h2
    have h3 : (cur.toList.take (L.length * s))[i * s + j]? = xs[i * s + j]? := by rw [htk]
    rw [List.getElem?_take, if_pos (by rw [← ho.1]; exact hl)] at h3
    rw [Nat.zero_add, ← Array.getElem?_toList, h3] at h2
    rw [List.getD_eq_getElem?_getD, h2] at h1
    exact h1
end
end Go.Proofs.Ytfdpbfdhcngfgaa
