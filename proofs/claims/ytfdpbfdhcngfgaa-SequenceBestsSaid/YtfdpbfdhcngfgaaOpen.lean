/- Arguments, opened: whatever their types, as plain values; and a law's last step. -/
import Derived.Test.YtfdpbfdhcngfgaaVal
import Derived.Test.YtfdpbfdhcngfgaaShell
import Derived.Deep.Slices
import Derived.Deep.Fields
import Derived.ChangeSame
namespace Go.Proofs.Ytfdpbfdhcngfgaa
open Go.ChangeShapes Go.WideShapes Go.ChangeAt Go.RowKit Go.Deep
set_option linter.unusedVariables false
/-! ### the cells of a type -/
def flatFs (P : Program) (fl : TypeId → Option (List TypeId)) : Nat → List Field → Option (List TypeId)
  | _, [] => some []
  | o, f :: fs => if f.offset = o then (match fl f.type, flatFs P fl (o + P.cellsOf f.type) fs with
      | some a, some b => if a.length = P.cellsOf f.type then some (a ++ b) else none
      | _, _ => none) else none
def flatTy (P : Program) : Nat → TypeId → Option (List TypeId)
  | 0, _ => none
  | d + 1, t => match P.underlying t with
    | some (.int _) => some [t]
    | some .string => some [t]
    | some .bool => some [t]
    | some (.slice _) => some [t]
    | some (.struct fs) => match flatFs P (flatTy P d) 0 fs.toList with
        | some l => if l.length = P.cellsOf t then some l else none
        | none => none
    | some (.array n e) => match flatTy P d e with
        | some l => if l.length = P.cellsOf e ∧ n * l.length = P.cellsOf t then some (List.replicate n l).flatten else none
        | none => none
    | _ => none
def CellOk (P : Program) : Nat → TypeId → AV → Prop
  | 0, _, _ => False
  | d + 1, u, x => match P.underlying u with
    | some (.int k) => ∃ n, x = .lit (.int k n) ∧ (Lit.int k n).wf = true
    | some .string => ∃ s : ByteArray, x = .string s ∧ s.size ≤ maxLen
    | some .bool => ∃ b, x = .bool b
    | some (.slice e) => ∃ (L : List (List AV)) (tys : List TypeId), x = .sl (P.cellsOf e) L ∧ L.length ≤ maxLen ∧ flatTy P 8 e = some tys ∧ ∀ y ∈ L, y.length = tys.length ∧ ∀ i u', tys[i]? = some u' → CellOk P d u' (y.getD i default)
    | _ => False
def cellB (P : Program) : Nat → TypeId → Bool
  | 0, _ => false
  | d + 1, u => match P.underlying u with
    | some (.int _) => true
    | some .string => true
    | some .bool => true
    | some (.slice e) => match flatTy P 8 e with
      | some tys => decide (tys.length = P.cellsOf e) && decide (0 < P.cellsOf e) && tys.all (cellB P d)
      | none => false
    | _ => false
section
variable {H : Type} {enc : TypeId × Value → H} {P : Program} {W : World}
theorem fields_of {t : TypeId} {fs : Array Field} {fuel : Nat} {cs : List Value} {x : DataW H × List MemPlace}
    (ht : P.underlying t = some (.struct fs)) (h : DataW.trod enc P W 0 (fun _ => true) true fuel t cs = some x) :
    cs.length = P.cellsOf t ∧ ∃ m, ∀ f ∈ fs.toList, ∃ y, DataW.trod enc P W 0 (fun _ => true) true m f.type ((cs.drop f.offset).take (P.cellsOf f.type)) = some y := by
  obtain ⟨ys, m, _, _, hl, hyl, hf⟩ := DataW.trod_struct ht h
  refine ⟨hl, m, fun f hm => ?_⟩
  obtain ⟨j, hj, e⟩ := List.getElem_of_mem hm
  have hj' : fs[j]? = some f := by rw [← Array.getElem?_toList, List.getElem?_eq_getElem hj, e]
  have hjl : j < ys.length := by rw [hyl]; simpa using hj
  exact ⟨_, (hf j f hj').trans (List.getElem?_eq_getElem hjl)⟩
theorem flatten_get {l : List TypeId} {u : TypeId} : ∀ (n i : Nat), ((List.replicate n l).flatten)[i]? = some u → ∃ k j, k < n ∧ j < l.length ∧ i = k * l.length + j ∧ l[j]? = some u
  | 0, i, h => by simp at h
  | n + 1, i, h => by
    rw [List.replicate_succ, List.flatten_cons, List.getElem?_append] at h
    split at h
    · rename_i hi; exact ⟨0, i, by omega, hi, by omega, h⟩
    · obtain ⟨k, j, hk, hj, e, hl⟩ := flatten_get n _ h
      exact ⟨k + 1, j, by omega, hj, by rw [Nat.add_mul]; omega, hl⟩
theorem seg_at {cs : List Value} {o n i : Nat} {v : Value} (h : ((cs.drop o).take n)[i]? = some v) : cs[o + i]? = some v := by
  rw [List.getElem?_take] at h
  split at h
  · rwa [List.getElem?_drop] at h
  · cases h
theorem flatten_len {l : List TypeId} : ∀ n, ((List.replicate n l).flatten).length = n * l.length
  | 0 => by simp
  | n + 1 => by simp
theorem trod_flat : ∀ (d : Nat) (t : TypeId) (tys : List TypeId), flatTy P d t = some tys → ∀ (fuel : Nat) (vs : List Value) (x : DataW H × List MemPlace), DataW.trod enc P W 0 (fun _ => true) true fuel t vs = some x →
    vs.length = tys.length ∧ ∀ (i : Nat) (u : TypeId), tys[i]? = some u → ∃ v m y, vs[i]? = some v ∧ DataW.trod enc P W 0 (fun _ => true) true m u [v] = some y
  | 0, t, tys, h, _, _, _, _ => by cases h
  | d + 1, t, tys, h, fuel, vs, x, hx => by
    simp only [flatTy] at h
    have one : ∀ v, vs = [v] → some [t] = some tys → vs.length = tys.length ∧ ∀ (i : Nat) (u : TypeId), tys[i]? = some u → ∃ v m y, vs[i]? = some v ∧ DataW.trod enc P W 0 (fun _ => true) true m u [v] = some y := by
      rintro v rfl e
      injection e with e; subst e
      refine ⟨rfl, fun i u hi => ?_⟩
      cases i with
      | zero => simp at hi; subst hi; exact ⟨v, fuel, x, rfl, hx⟩
      | succ i => simp at hi
    split at h
    · rename_i k hu; obtain ⟨n, e, _⟩ := DataW.trod_int hu hx; exact one _ e h
    · rename_i hu; obtain ⟨n, e, _⟩ := DataW.trod_string hu hx; exact one _ e h
    · rename_i hu; obtain ⟨n, e, _⟩ := DataW.trod_bool hu hx; exact one _ e h
    · rename_i e hu
      rcases open_slice hu hx with ⟨e, _⟩ | ⟨a, len, cap, m, fu, D, Pl, e, _⟩
      · exact one _ e h
      · exact one _ e h
    · rename_i fs hu
      split at h
      · rename_i l hl
        split at h
        · rename_i hlen
          injection h with h; subst h
          obtain ⟨hvl, m, hf⟩ := fields_of hu hx
          refine ⟨by omega, ?_⟩
          clear hlen hvl hx
          have key : ∀ (fs : List Field) (o : Nat) (l : List TypeId), flatFs P (flatTy P d) o fs = some l → (∀ f ∈ fs, ∃ y, DataW.trod enc P W 0 (fun _ => true) true m f.type ((vs.drop f.offset).take (P.cellsOf f.type)) = some y) →
              ∀ (i : Nat) (u : TypeId), l[i]? = some u → ∃ v m y, vs[o + i]? = some v ∧ DataW.trod enc P W 0 (fun _ => true) true m u [v] = some y := by
            intro fs
            induction fs with
            | nil => intro o l hl _ i u hi; simp only [flatFs, Option.some.injEq] at hl; subst hl; simp at hi
            | cons f fs ih =>
              intro o l hl hf i u hi
              simp only [flatFs] at hl
              split at hl
              · rename_i ho
                split at hl
                · rename_i a b ha hb
                  split at hl
                  · rename_i hal
                    injection hl with hl; subst hl
                    rw [List.getElem?_append] at hi
                    split at hi
                    · obtain ⟨y, hy⟩ := hf f (by simp)
                      obtain ⟨_, hg⟩ := trod_flat d f.type a ha m _ _ hy
                      obtain ⟨v, m', y', hv, hy'⟩ := hg i u hi
                      exact ⟨v, m', y', ho ▸ seg_at hv, hy'⟩
                    · obtain ⟨v, m', y', hv, hy'⟩ := ih _ _ hb (fun f hf' => hf f (by simp [hf'])) _ _ hi
                      refine ⟨v, m', y', ?_, hy'⟩
                      rw [← hv]; congr 1; omega
                  · cases hl
                · cases hl
              · cases hl
          intro i u hi
          have := key fs.toList 0 l hl hf i u hi
          simpa using this
        · cases h
      · cases h
    · rename_i n e hu
      split at h
      · rename_i l hl
        split at h
        · rename_i hlen
          injection h with h; subst h
          obtain ⟨xs, m, _, _, hvl, hxl, hf⟩ := DataW.trod_array hu hx
          refine ⟨by rw [hvl, flatten_len]; omega, fun i u hi => ?_⟩
          obtain ⟨k, j, hk, hj, rfl, hu'⟩ := flatten_get n i hi
          have h1 := hf k hk
          rw [List.getElem?_eq_getElem (by omega)] at h1
          obtain ⟨_, hg⟩ := trod_flat d e l hl m _ _ h1
          obtain ⟨v, m', y', hv, hy'⟩ := hg j u hu'
          exact ⟨v, m', y', by rw [hlen.1]; exact seg_at hv, hy'⟩
        · cases h
      · cases h
    · cases h
def okAll (W : World) (g : Nat) : Prop := g < W.heap.size
theorem add_none' (b off : Nat) (k : Nat) : (⟨b, off, none⟩ : Addr).add k = ⟨b, off + k, none⟩ := by simp [Addr.add]
theorem cell_open : ∀ (d : Nat) (u : TypeId), cellB P d u = true → ∀ (m : Nat) (v : Value) (y : DataW H × List MemPlace), DataW.trod enc P W 0 (fun _ => true) true m u [v] = some y →
    v.oneCell' = true ∧ ∃ x, CellOk P d u x ∧ RV W (okAll W) x v
  | 0, u, h, _, _, _, _ => by cases h
  | d + 1, u, h, m, v, y, hy => by
    simp only [cellB] at h
    simp only [CellOk]
    split at h
    · rename_i k hu
      obtain ⟨n, e, _, hw⟩ := DataW.trod_int hu hy
      simp only [List.cons.injEq, and_true] at e
      subst e
      exact ⟨rfl, _, ⟨n, rfl, hw⟩, .lit _⟩
    · rename_i hu
      obtain ⟨n, e, _, hw⟩ := DataW.trod_string hu hy
      simp only [List.cons.injEq, and_true] at e
      subst e
      exact ⟨rfl, _, ⟨n, rfl, hw⟩, .lit _⟩
    · rename_i hu
      obtain ⟨n, e, _⟩ := DataW.trod_bool hu hy
      simp only [List.cons.injEq, and_true] at e
      subst e
      exact ⟨rfl, _, ⟨n, rfl⟩, .lit _⟩
    · rename_i e hu
      split at h
      · rename_i tys htys
        simp only [Bool.and_eq_true, decide_eq_true_eq, List.all_eq_true] at h
        obtain ⟨⟨hl, hpos⟩, hall⟩ := h
        rcases open_slice hu hy with ⟨ev, _⟩ | ⟨a, len, cap, m', fu, D, Pl, ev, hb, hlc, hcm, hmm, hx, hi⟩
        · simp only [List.cons.injEq, and_true] at ev
          subst ev
          exact ⟨rfl, _, ⟨[], tys, rfl, by unfold maxLen; simp, htys, fun y hy => by simp at hy⟩, rv_nil _ _⟩
        · simp only [List.cons.injEq, and_true] at ev
          subst ev
          simp only [if_true] at hmm
          have key : ∀ i, ∃ (Y : List AV) (us : Nat → Value), i < len → (Y.length = tys.length ∧ (∀ j u', tys[j]? = some u' → CellOk P d u' (Y.getD j default)) ∧ ∀ j, j < P.cellsOf e → W.cell? (a.add (i * P.cellsOf e + j)) = some (us j) ∧ (us j).oneCell' = true ∧ RV W (okAll W) (Y.getD j default) (us j)) := by
            intro i
            by_cases hlt : i < len
            · obtain ⟨cs', hc, ht'⟩ := hi i (by omega)
              obtain ⟨_, hcl, hat⟩ := World.cells?_some hc
              obtain ⟨q1, q2⟩ := trod_flat 8 e tys htys fu cs' _ ht'
              have step : ∀ j, ∃ (X : AV) (uv : Value), j < tys.length → ((∀ u', tys[j]? = some u' → CellOk P d u' X) ∧ cs'[j]? = some uv ∧ uv.oneCell' = true ∧ RV W (okAll W) X uv) := by
                intro j
                by_cases hj : j < tys.length
                · obtain ⟨v, m2, y2, hv, hy2⟩ := q2 j _ (List.getElem?_eq_getElem hj)
                  obtain ⟨o1, X, hX, hR⟩ := cell_open d tys[j] (hall _ (List.getElem_mem hj)) m2 v y2 hy2
                  exact ⟨X, v, fun _ => ⟨fun u' hu' => by rw [List.getElem?_eq_getElem hj] at hu'; injection hu' with hu'; subst hu'; exact hX, hv, o1, hR⟩⟩
                · exact ⟨default, undef, fun h => absurd h hj⟩
              obtain ⟨fx, step⟩ := Classical.skolem.1 step
              obtain ⟨fv, step⟩ := Classical.skolem.1 step
              refine ⟨(List.range tys.length).map fx, fv, fun _ => ⟨by simp, fun j u' hj => ?_, fun j hj => ?_⟩⟩
              · have hjl : j < tys.length := (List.getElem?_eq_some_iff.1 hj).1
                have := (step j hjl).1 u' hj
                simpa [hjl] using this
              · have hjl : j < tys.length := by omega
                obtain ⟨_, s2, s3, s4⟩ := step j hjl
                refine ⟨?_, s3, by simpa [hjl] using s4⟩
                rw [← Go.Deep.add_add, hat j hj, s2]
            · exact ⟨[], fun _ => undef, fun h => absurd h hlt⟩
          obtain ⟨Y, key⟩ := Classical.skolem.1 key
          obtain ⟨us, key⟩ := Classical.skolem.1 key
          refine ⟨rfl, .sl (P.cellsOf e) ((List.range len).map Y), ⟨_, tys, rfl, by simp; omega, htys, fun y hy => ?_⟩, ?_⟩
          · obtain ⟨i, hi', rfl⟩ := List.mem_map.1 hy
            have := key i (by simpa using hi')
            exact ⟨this.1, this.2.1⟩
          · obtain ⟨b, off, spot⟩ := a
            refine .sl _ _ _ len cap us (by simp) hlc hcm (fun x hx' => ?_) (fun h0 => ?_) (fun i j hi' hj => ((key i hi').2.2 j hj).2.1) (fun i j hi' hj => ?_)
            · obtain ⟨i, hi', rfl⟩ := List.mem_map.1 hx'
              have := key i (by simpa using hi')
              omega
            · have c0 := ((key 0 h0).2.2 0 hpos).1
              have hspot : spot = none := by simpa [Addr.add] using World.cell?_spot c0
              subst hspot
              have hlt : b < W.heap.size := by
                rw [add_none'] at c0
                exact block_lt_of_cell c0
              refine ⟨b, off, rfl, hlt, hlt, fun i j hi' hj => ?_⟩
              have := ((key i hi').2.2 j hj).1
              rw [add_none'] at this
              rw [← this]
              congr 2
              omega
            · have := ((key i hi').2.2 j hj).2.2
              simpa [gt2, hi'] using this
      · cases h
    · cases h
/-- What an argument of type t may be. -/
def ArgOk (P : Program) (t : TypeId) (x : AV) : Prop :=
  match isAggT P t with
  | true => ∃ (cs : List AV) (tys : List TypeId), x = .agg cs ∧ flatTy P 8 t = some tys ∧ cs.length = tys.length ∧ ∀ i u, tys[i]? = some u → CellOk P 8 u (cs.getD i default)
  | false => CellOk P 8 t x
def argB (P : Program) (t : TypeId) : Bool :=
  match isAggT P t with
  | true => match flatTy P 8 t with
    | some tys => tys.all (cellB P 8)
    | none => false
  | false => cellB P 8 t
theorem arg_open {t : TypeId} {v : Value} {base : Nat} {dd : DataW H} {p : List MemPlace} (hb : argB P t = true) (hv : Value.okWide P W .any base t v) (h : DataW.Trod enc P W 0 (fun _ => true) true t v dd p) : ∃ x, ArgOk P t x ∧ RV W (okAll W) x v := by
  obtain ⟨fuel, hf⟩ := h
  unfold argB at hb
  unfold ArgOk
  split at hb
  · rename_i ha
    split at hb
    · rename_i tys htys
      have hagg : ∃ cs, v = .agg cs := by
        unfold isAggT at ha
        split at ha
        · rename_i hu; simp only [Value.okWide, hu] at hv; obtain ⟨cs, e, _⟩ := hv; exact ⟨cs, e⟩
        · rename_i hu; simp only [Value.okWide, hu] at hv; obtain ⟨cs, e, _⟩ := hv; exact ⟨cs, e⟩
        · cases ha
      obtain ⟨vs, rfl⟩ := hagg
      obtain ⟨q1, q2⟩ := trod_flat 8 t tys htys fuel _ _ hf
      have q1 : vs.size = tys.length := by simpa [Value.cells] using q1
      have step : ∀ j, ∃ (X : AV), j < tys.length → ((∀ u', tys[j]? = some u' → CellOk P 8 u' X) ∧ (vs.getD j undef).oneCell' = true ∧ RV W (okAll W) X (vs.getD j undef)) := by
        intro j
        by_cases hj : j < tys.length
        · obtain ⟨v, m2, y2, hv, hy2⟩ := q2 j _ (List.getElem?_eq_getElem hj)
          obtain ⟨o1, X, hX, hR⟩ := cell_open 8 tys[j] (List.all_eq_true.1 hb _ (List.getElem_mem hj)) m2 v y2 hy2
          have e : vs.getD j undef = v := by
            have hv' : vs[j]? = some v := by simpa [Value.cells] using hv
            rw [Array.getD_eq_getD_getElem?, hv']; rfl
          rw [e]
          exact ⟨X, fun _ => ⟨fun u' hu' => by rw [List.getElem?_eq_getElem hj] at hu'; injection hu' with hu'; subst hu'; exact hX, o1, hR⟩⟩
        · exact ⟨default, fun h => absurd h hj⟩
      obtain ⟨fx, step⟩ := Classical.skolem.1 step
      refine ⟨.agg ((List.range tys.length).map fx), ⟨_, tys, rfl, htys, by simp, fun j u' hj => ?_⟩, ?_⟩
      · have hjl : j < tys.length := (List.getElem?_eq_some_iff.1 hj).1
        have := (step j hjl).1 u' hj
        simpa [hjl] using this
      · refine .agg _ _ (by simp [q1]) (fun i hi => ?_) (fun i hi => ?_)
        · exact (step i (by simpa using hi)).2.1
        · have hi' : i < tys.length := by simpa using hi
          have := (step i hi').2.2
          simpa [hi'] using this
    · cases hb
  · rename_i ha
    have h1 : v.cells.toList = [v] := by
      cases v with
      | agg cs =>
        exfalso
        simp only [cellB] at hb
        split at hb
        · rename_i hu; obtain ⟨_, e⟩ := okWide_int hu hv; cases e
        · rename_i hu; obtain ⟨_, e⟩ := okWide_string hu hv; cases e
        · rename_i hu; obtain ⟨_, e⟩ := okWide_bool hu hv; cases e
        · rename_i hu; obtain ⟨_, _, _, e⟩ := okWide_slice hu hv; cases e
        · cases hb
      | _ => rfl
    rw [h1] at hf
    exact (cell_open 8 t hb fuel v _ hf).2
theorem args_open {base : Nat} : ∀ (ts : List TypeId) (vs : List Value) (ds : List (DataW H)) (p : List MemPlace), DataW.TrodAll enc P W 0 (fun _ => true) true ts vs ds p →
    (∀ (j : Nat) t v, ts[j]? = some t → vs[j]? = some v → Value.okWide P W .any base t v) → ts.all (argB P) = true →
    ∃ xs : List AV, xs.length = ts.length ∧ vs.length = ts.length ∧ ∀ i, i < ts.length → ArgOk P (ts.getD i 0) (xs.getD i default) ∧ RV W (okAll W) (xs.getD i default) (vs.getD i undef)
  | [], vs, ds, p, h, _, _ => by
    obtain ⟨rfl, _, _⟩ := trodAll_nil h
    exact ⟨[], rfl, rfl, fun i hi => by simp at hi⟩
  | t :: ts, vs, ds, p, h, hv, hb => by
    obtain ⟨v, vs', d, ds', p', q, rfl, rfl, rfl, h1, h2⟩ := trodAll_cons h
    rw [List.all_cons, Bool.and_eq_true] at hb
    obtain ⟨x, hx, hr⟩ := arg_open hb.1 (hv 0 t v rfl rfl) h1
    obtain ⟨xs, l1, l2, hxs⟩ := args_open ts vs' ds' q h2 (fun j t v h3 h4 => hv (j + 1) t v (by simpa using h3) (by simpa using h4)) hb.2
    refine ⟨x :: xs, by simp [l1], by simp [l2], fun i hi => ?_⟩
    cases i with
    | zero => exact ⟨hx, hr⟩
    | succ i => simpa using hxs i (by simpa using hi)
/-- **A law's walk**: the function returns true at all plain values of its parameters' types. -/
theorem law_calls {f : FuncId} {F : Func} {args : Array Value} {ds : List (DataW H)} {p : List MemPlace} {base : Nat} (hb : F.params.toList.all (argB P) = true)
    (hfn : ∀ xs : List AV, xs.length = F.params.toList.length → (∀ i, i < F.params.toList.length → ArgOk P (F.params.toList.getD i 0) (xs.getD i default)) → Fn P f xs .sc (.bool true))
    (hval : ∀ (j : Nat) t v, F.params[j]? = some t → args[j]? = some v → Value.okWide P W .any base t v)
    (hA : DataW.TrodAll enc P W 0 (fun _ => true) true F.params.toList args.toList ds p) (hgl : Gl W.heap.size W (okAll W) := by (exact ⟨by (intro p hp; simp [globL] at hp), by (intro g hg; simp [globI] at hg)⟩)) : Calls P f args W (Ret (.bool true) W) := by
  obtain ⟨xs, l1, l2, hxs⟩ := args_open F.params.toList args.toList ds p hA (fun j t v h1 h2 => hval j t v (by simpa using h1) (by simpa using h2)) hb
  refine ((hfn xs l1 fun i hi => (hxs i hi).1).2 W (okAll W) args (fun g hg => hg) hgl (by rw [l1, ← l2]; simp) fun i hi => ?_).mono ?_
  · have := (hxs i (by omega)).2
    rwa [show args.getD i undef = args.toList.getD i undef by simp [List.getD_eq_getElem?_getD, Array.getD_eq_getD_getElem?]]
  · rintro e W' ⟨v, rfl, hbel, hr, _⟩
    have hr' : RV W' noBlock (.bool true) v := hr
    exact ret_mk (RV.lit_iff.1 hr') hbel
/-! ### what is known of an opened value -/
theorem cell_int {d : Nat} {u : TypeId} {k : IntKind} {x : AV} (hu : P.underlying u = some (.int k)) (h : CellOk P (d + 1) u x) : ∃ n, x = .lit (.int k n) ∧ (Lit.int k n).wf = true := by
  simpa only [CellOk, hu] using h
theorem cell_str {d : Nat} {u : TypeId} {x : AV} (hu : P.underlying u = some .string) (h : CellOk P (d + 1) u x) : ∃ s : ByteArray, x = .string s ∧ s.size ≤ maxLen := by
  simpa only [CellOk, hu] using h
theorem cell_bool {d : Nat} {u : TypeId} {x : AV} (hu : P.underlying u = some .bool) (h : CellOk P (d + 1) u x) : ∃ b, x = .bool b := by
  simpa only [CellOk, hu] using h
theorem cell_sl {d : Nat} {u e : TypeId} {x : AV} {tys : List TypeId} {s : Nat} (hu : P.underlying u = some (.slice e)) (ht : flatTy P 8 e = some tys) (hs : P.cellsOf e = s) (h : CellOk P (d + 1) u x) :
    ∃ L : List (List AV), x = .sl s L ∧ L.length ≤ maxLen ∧ ∀ y ∈ L, y.length = tys.length ∧ ∀ i u', tys[i]? = some u' → CellOk P d u' (y.getD i default) := by
  simp only [CellOk, hu] at h
  obtain ⟨L, tys', e1, h1, h2, h3⟩ := h
  rw [ht] at h2
  injection h2 with h2
  subst h2 hs
  exact ⟨L, e1, h1, h3⟩
theorem arg_cell {t : TypeId} {x : AV} (hi : isAggT P t = false) (h : ArgOk P t x) : CellOk P 8 t x := by
  unfold ArgOk at h; rwa [hi] at h
theorem arg_agg {t : TypeId} {x : AV} {tys : List TypeId} (hi : isAggT P t = true) (ht : flatTy P 8 t = some tys) (h : ArgOk P t x) : ∃ cs : List AV, x = .agg cs ∧ cs.length = tys.length ∧ ∀ i u, tys[i]? = some u → CellOk P 8 u (cs.getD i default) := by
  unfold ArgOk at h; rw [hi] at h
  obtain ⟨cs, tys', e1, h2, h3, h4⟩ := h
  rw [ht] at h2
  injection h2 with h2
  subst h2
  exact ⟨cs, e1, h3, h4⟩
theorem list_dec {α : Type} {encA : α → List AV} {Q : α → Prop} : ∀ {L : List (List AV)}, (∀ y ∈ L, ∃ a, y = encA a ∧ Q a) → ∃ l : List α, L = l.map encA ∧ ∀ a ∈ l, Q a
  | [], _ => ⟨[], rfl, fun a ha => by simp at ha⟩
  | y :: L, h => by
    obtain ⟨a, e, hq⟩ := h y (by simp)
    obtain ⟨l, e2, hl⟩ := list_dec (L := L) fun y hy => h y (by simp [hy])
    exact ⟨a :: l, by rw [e, e2]; rfl, fun b hb => by exact (List.mem_cons.1 hb).elim (fun e => e ▸ hq) (fun hb => hl b hb)⟩
theorem lst1 {α : Type} {l : List α} (h : l.length = 1) : ∃ a, l = [a] := by match l, h with | [a], _ => exact ⟨a, rfl⟩
theorem lst2 {α : Type} {l : List α} (h : l.length = 2) : ∃ a b, l = [a, b] := by match l, h with | [a, b], _ => exact ⟨a, b, rfl⟩
theorem lst3 {α : Type} {l : List α} (h : l.length = 3) : ∃ a b c, l = [a, b, c] := by match l, h with | [a, b, c], _ => exact ⟨a, b, c, rfl⟩
theorem lst4 {α : Type} {l : List α} (h : l.length = 4) : ∃ a b c d, l = [a, b, c, d] := by match l, h with | [a, b, c, d], _ => exact ⟨a, b, c, d, rfl⟩
theorem lst5 {α : Type} {l : List α} (h : l.length = 5) : ∃ a b c d e, l = [a, b, c, d, e] := by match l, h with | [a, b, c, d, e], _ => exact ⟨a, b, c, d, e, rfl⟩
theorem lst6 {α : Type} {l : List α} (h : l.length = 6) : ∃ a b c d e f, l = [a, b, c, d, e, f] := by match l, h with | [a, b, c, d, e, f], _ => exact ⟨a, b, c, d, e, f, rfl⟩
end
end Go.Proofs.Ytfdpbfdhcngfgaa
