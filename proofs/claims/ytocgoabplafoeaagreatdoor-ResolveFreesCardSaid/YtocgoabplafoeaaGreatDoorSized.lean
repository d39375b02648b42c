/- A law's walk where the arguments' weights are known (the form's own reach). -/
import Derived.Test.YtocgoabplafoeaaGreatDoorOpen
import Derived.SizedLaws
namespace Go.Proofs.YtocgoabplafoeaaGreatDoor
open Go.ChangeShapes Go.WideShapes Go.ChangeAt Go.RowKit Go.Joins Go.Deep
set_option linter.unusedVariables false
section
variable {H : Type} {enc : TypeId × Value → H} {P : Program} {W : World}
theorem sized_one {t e : TypeId} {v : Value} {dd : DataW H} {p : List MemPlace} {s : Nat} {L : List (List AV)} {ok : Nat → Prop} (hu : P.underlying t = some (.slice e)) (h : DataW.Trod enc P W 0 (fun _ => true) true t v dd p) (hr : RV W ok (.sl s L) v) (hw : ∀ n ∈ dd.weights P t, n ≤ reachBytes) : L.length * P.bytesOf e ≤ reachBytes := by
  obtain ⟨fuel, hf⟩ := h
  cases hr with
  | sl _ _ A n c us hn hnc hc hs hA hone hu' =>
    have h1 : (Value.slice A n c).cells.toList = [.slice A n c] := rfl
    rw [h1] at hf
    rcases open_slice hu hf with ⟨ev, ex⟩ | ⟨a, len, cap, m', fu, D, Pl, ev, hb, hlc, hcm, hmm, hx, hi⟩
    · injection ev with ev _
      injection ev with _ ev _
      rw [hn, ev]
      simp [reachBytes]
    · injection ev with ev _
      injection ev with _ ev _
      injection hx with hx _
      have := hw (((List.range len).map D).length + ((List.range (m' - len)).map fun j => D (len + j)).length |> (· * P.bytesOf e)) (by rw [hx]; simp [DataW.weights, hu])
      simp at this
      rw [hn, ev]
      exact Nat.le_trans (Nat.mul_le_mul_right _ (Nat.le_add_right _ _)) this
theorem trodAll_at : ∀ (ts : List TypeId) (vs : List Value) (ds : List (DataW H)) (p : List MemPlace), DataW.TrodAll enc P W 0 (fun _ => true) true ts vs ds p → ∀ i, i < ts.length → ∃ dd q, ds[i]? = some dd ∧ DataW.Trod enc P W 0 (fun _ => true) true (ts.getD i 0) (vs.getD i undef) dd q
  | [], vs, ds, p, h, i, hi => by simp at hi
  | t :: ts, vs, ds, p, h, i, hi => by
    obtain ⟨v, vs', d, ds', p', q, rfl, rfl, rfl, h1, h2⟩ := trodAll_cons h
    cases i with
    | zero => exact ⟨d, p', rfl, h1⟩
    | succ i =>
      obtain ⟨dd, q', e1, e2⟩ := trodAll_at ts vs' ds' q h2 i (by simpa using hi)
      exact ⟨dd, q', by simpa using e1, by simpa using e2⟩
/-- **A law's walk**, its arguments' weights being within the form's reach. -/
theorem law_calls_sized {f : FuncId} {F : Func} {args : Array Value} {ds gs : List (DataW H)} {us : List TypeId} {p : List MemPlace} {base : Nat} (hb : F.params.toList.all (argB P) = true)
    (hfn : ∀ xs : List AV, xs.length = F.params.toList.length → (∀ i, i < F.params.toList.length → ArgOk P (F.params.toList.getD i 0) (xs.getD i default)) →
      (∀ i s L e, i < F.params.toList.length → xs.getD i default = .sl s L → P.underlying (F.params.toList.getD i 0) = some (.slice e) → L.length * P.bytesOf e ≤ reachBytes) → Fn P f xs .sc (.bool true))
    (hval : ∀ (j : Nat) t v, F.params[j]? = some t → args[j]? = some v → Value.okWide P W .any base t v)
    (hA : DataW.TrodAll enc P W 0 (fun _ => true) true F.params.toList args.toList ds p)
    (hsz : (DataW.weightsEach P (F.params.toList ++ us) (ds ++ gs)).all (· ≤ reachBytes) = true) (hgl : Gl W.heap.size W (okAll W) := by (exact ⟨by (intro p hp; simp [globL] at hp), by (intro g hg; simp [globI] at hg)⟩)) : Calls P f args W (Ret (.bool true) W) := by
  obtain ⟨xs, l1, l2, hxs⟩ := args_open F.params.toList args.toList ds p hA (fun j t v h1 h2 => hval j t v (by simpa using h1) (by simpa using h2)) hb
  refine ((hfn xs l1 (fun i hi => (hxs i hi).1) (fun i s L e hi hx hu => ?_)).2 W (okAll W) args (fun g hg => hg) hgl (by rw [l1, ← l2]; simp) fun i hi => ?_).mono ?_
  · obtain ⟨dd, q, e1, e2⟩ := trodAll_at F.params.toList args.toList ds p hA i hi
    have hr := (hxs i hi).2
    rw [hx] at hr
    refine sized_one hu e2 hr fun n hn => ?_
    have hm := DataW.weights_mem_each (P := P) (ts := F.params.toList ++ us) (ds := ds ++ gs) (j := i) (t := F.params.toList.getD i 0) (d := dd)
      (by rw [List.getElem?_append_left hi, List.getD_eq_getElem?_getD, List.getElem?_eq_getElem hi]; rfl)
      (by
        have hid : i < ds.length := (List.getElem?_eq_some_iff.1 e1).1
        rw [List.getElem?_append_left hid]; exact e1) n hn
    have := List.all_eq_true.1 hsz n hm
    simpa using this
  · have := (hxs i (by omega)).2
    rwa [show args.getD i undef = args.toList.getD i undef by simp [List.getD_eq_getElem?_getD, Array.getD_eq_getD_getElem?]]
  · rintro e W' ⟨v, rfl, hbel, hr, _⟩
    have hr' : RV W' noBlock (.bool true) v := hr
    exact ret_mk (RV.lit_iff.1 hr') hbel
end
end Go.Proofs.YtocgoabplafoeaaGreatDoor
