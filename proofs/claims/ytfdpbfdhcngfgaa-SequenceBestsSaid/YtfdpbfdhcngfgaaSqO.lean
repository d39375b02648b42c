/- sequences: all orders, by visits. -/
import Derived.Test.YtfdpbfdhcngfgaaSq6
import Derived.Deep.RegionLaw
import Derived.Deep.OwnRows
import Derived.Lib.AppendZeros
namespace Go.Proofs.Ytfdpbfdhcngfgaa
open Go.RowKit
set_option linter.unusedVariables false
set_option linter.unusedSimpArgs false
set_option maxRecDepth 100000
set_option maxHeartbeats 2000000
/-- All orders that begin so, in lexicographic order. -/
def ords (n : Nat) : Nat → List Int → List (List Int)
  | 0, o => [o]
  | m + 1, o => (List.range n).flatMap fun i : Nat => if (i : Int) ∈ o then [] else ords n m (o ++ [(i : Int)])
theorem info_int : (Try.prog.info? 3).map (fun i => (i.zero, i.size, i.bytes)) = some (some (.int .i64 0), 1, 8) := by kernel_rfl
theorem inf_int : ∃ inf, Try.prog.info? 3 = some inf ∧ inf.zero = some (.int .i64 0) ∧ inf.size = 1 ∧ inf.bytes = 8 := by
  have h := info_int
  cases q : Try.prog.info? 3 with
  | none => rw [q] at h; cases h
  | some inf =>
    rw [q] at h
    have h' : (inf.zero, inf.size, inf.bytes) = (some (.int .i64 0), 1, 8) := by injection h
    exact ⟨inf, rfl, congrArg (·.1) h', congrArg (·.2.1) h', congrArg (·.2.2) h'⟩
def evs (os : List (List Int)) : List (Nat × List AV) := os.map fun o => (0, [ints o])
theorem orders_vi (n : Nat) (hn : n ≤ 1000) : ∀ (m : Nat) (o : List Int), o.length + m = n → Vi Try.prog 33 [.int (n : Nat), ints o] [1] (evs (ords n m o)) := by
  intro m
  induction m with
  | zero =>
    intro o ho
    refine ⟨Try.call33, fun p hp => ?_, fun fs J w ok cargs hfs hent hJ hG hV hargs h0 => ?_⟩
    · obtain ⟨q, hq, rfl⟩ := List.mem_map.1 hp
      exact ⟨by simp, rfl⟩
    obtain ⟨q, rfl⟩ : ∃ q, fs = [q] := by
      match fs, hfs with
      | [q], _ => exact ⟨q, rfl⟩
    obtain ⟨q, cs⟩ := q
    have hq : Ent Try.prog q := hent (q, cs) (by simp)
    obtain ⟨hsz, hargs⟩ := hargs
    obtain ⟨u0, u1, rfl⟩ : ∃ u0 u1, cargs = #[u0, u1] := by
      obtain ⟨c⟩ := cargs
      match c, hsz with
      | [a, b], _ => exact ⟨a, b, rfl⟩
    have hu0 : RV w ok (.int (n : Nat)) u0 := hargs 0 (by simp)
    have hu1 : RV w ok (ints o) u1 := hargs 1 (by simp)
    obtain rfl := RV.lit_iff.1 hu0
    obtain ⟨A, c, rfl⟩ : ∃ A c, u1 = .slice A o.length c := by
      obtain ⟨A, c, us, e, _⟩ := src_rv hu1 (s := 1) (by simp)
      exact ⟨A, c, by rw [e, lst_els]; simp⟩
    refine calls_of_wp Try.func33 rfl ?_
    simp only [Try.ntmps33, List.map_cons, List.map_nil, List.size_toArray, List.length_cons, List.length_nil, Nat.reduceAdd, Nat.reduceSub, Array.replicate_succ, Array.replicate_zero, List.push_toArray, List.append_toArray, List.nil_append, List.cons_append]
    have hd : ((o.length : Int) == (n : Int)) = true := by simp; omega
    go_wp2_with fail
    rw [hq, Oper.upon_enter]
    refine (hV [] (0, [ints o]) [] ok w #[.slice A o.length c] (.lit undef) undef rfl h0 ⟨rfl, fun i hi => ?_⟩ (.lit _)).mono ?_
    · obtain rfl : i = 0 := by simpa using hi
      exact hu1
    rintro e w1 ⟨⟨v, rfl⟩, o1, h1, _⟩
    go_wp2_with fail
    exact ⟨rfl, _, results_none rfl _ _ _, rfl, o1, h1⟩
  | succ m ih =>
    intro o ho
    refine ⟨Try.call33, fun p hp => ?_, fun fs J w ok cargs hfs hent hJ hG hV hargs h0 => ?_⟩
    · obtain ⟨q, hq, rfl⟩ := List.mem_map.1 hp
      exact ⟨by simp, rfl⟩
    obtain ⟨q, rfl⟩ : ∃ q, fs = [q] := by
      match fs, hfs with
      | [q], _ => exact ⟨q, rfl⟩
    obtain ⟨q, cs⟩ := q
    have hq : Ent Try.prog q := hent (q, cs) (by simp)
    obtain ⟨hsz, hargs⟩ := hargs
    obtain ⟨u0, u1, rfl⟩ : ∃ u0 u1, cargs = #[u0, u1] := by
      obtain ⟨c⟩ := cargs
      match c, hsz with
      | [a, b], _ => exact ⟨a, b, rfl⟩
    have hu0 : RV w ok (.int (n : Nat)) u0 := hargs 0 (by simp)
    have hu1 : RV w ok (ints o) u1 := hargs 1 (by simp)
    obtain rfl := RV.lit_iff.1 hu0
    obtain ⟨A, c, rfl⟩ : ∃ A c, u1 = .slice A o.length c := by
      obtain ⟨A, c, us, e, _⟩ := src_rv hu1 (s := 1) (by simp)
      exact ⟨A, c, by rw [e, lst_els]; simp⟩
    refine calls_of_wp Try.func33 rfl ?_
    simp only [Try.ntmps33, List.map_cons, List.map_nil, List.size_toArray, List.length_cons, List.length_nil, Nat.reduceAdd, Nat.reduceSub, Array.replicate_succ, Array.replicate_zero, List.push_toArray, List.append_toArray, List.nil_append, List.cons_append]
    have hd : ((o.length : Int) == (n : Int)) = false := by simp; omega
    let F : Nat → List (List Int) := fun i => if (i : Int) ∈ o then [] else ords n m (o ++ [(i : Int)])
    have hF : ∀ i, F i = if (i : Int) ∈ o then [] else ords n m (o ++ [(i : Int)]) := fun i => rfl
    have hO : ords n (m + 1) o = (List.range n).flatMap F := rfl
    clear_value F
    go_wp2_with fail
    go_loopg [15] n (fun g i wr => ∃ k : Nat, g = n - k ∧ k ≤ n ∧ i = .int .i64 k ∧ ∃ o', J (evs ((List.range k).flatMap F)) o' wr ∧ RV wr o' (ints o) (.slice A o.length c))
    case atStart => exact ⟨0, rfl, by omega, rfl, ok, h0, hu1⟩
    case round =>
      obtain ⟨k, rfl, hk, rfl, o1, h1, hv1⟩ := hrel
      by_cases hlt : k < n
      · have hd2 : decide ((k : Int) < n) = true := by simp; omega
        obtain ⟨g1, g2⟩ := hG _ _ _ h1
        go_wp2_with fail
        refine ((contains_fn o (k : Nat) (by omega)).2 wr o1 #[.slice A o.length c, .int .i64 k] g1 g2 rfl (fun i hi => ?_)).mono ?_
        · have : i = 0 ∨ i = 1 := by have : i < 2 := by simpa using hi
                                     omega
          rcases this with rfl | rfl
          · exact hv1
          · exact .lit _
        rintro e w2 ⟨v2, rfl, hb2, hv2, _, hd2⟩
        obtain rfl := RV.lit_iff.1 hv2
        obtain ⟨o2, h2, hs2, hn2⟩ := hJ _ _ _ _ h1 hb2 hd2
        have hv2 : RV w2 o2 (ints o) (.slice A o.length c) := hv1.mono fun b hb hl => ⟨hs2 b hb, hb2.block b hl⟩
        by_cases hm : (k : Int) ∈ o
        · have hdm : decide ((k : Int) ∈ o) = true := decide_eq_true hm
          go_wp2_with fail
          go_roundg (n - (k + 1))
          case measure => omega
          case rel => exact ⟨k + 1, rfl, by omega, by simp, o2, by rw [List.range_succ, List.flatMap_append]; simpa [hF, hm] using h2, hv2⟩
        · have hdm : decide ((k : Int) ∈ o) = false := decide_eq_false hm
          obtain ⟨g3, g4⟩ := hG _ _ _ h2
          go_wp2_with fail
          refine ((clone_fn o (by omega)).2 w2 o2 #[.slice A o.length c] g3 g4 rfl (fun i hi => ?_)).mono ?_
          · obtain rfl : i = 0 := by simpa using hi
            exact hv2
          rintro e w3 ⟨v3, rfl, hb3, hrow, _, hd3⟩
          have hrow : RRow w3 w2.heap.size 3 1 noBlock (ints o) v3 := hrow
          obtain ⟨A3, c3, rfl⟩ : ∃ A3 c3, v3 = .slice A3 o.length c3 := by
            obtain ⟨A3, n3, c3, e, hn3, _⟩ := hrow.form
            exact ⟨A3, c3, by rw [e, hn3, lst_els]; simp⟩
          obtain ⟨w4, hw4⟩ : ∃ w4, w4 = w3.alloc (.cells #[.int .i64 (k : Nat)] 3) := ⟨_, rfl⟩
          have hsz4 : w4.heap.size = w3.heap.size + 1 := by rw [hw4]; simp
          have hb4 : Below w3.heap.size w3 w4 := by rw [hw4]; exact (Below.refl _ w3).alloc (Nat.le_refl _) _
          have hd4 : w4.drawn = w3.drawn := by rw [hw4]; rfl
          have hrow4 : RRow w4 w2.heap.size 3 1 noBlock (ints o) (.slice A3 o.length c3) := hrow.keep (fun g hg => hb4.block g (hrow.lt hg).2) (fun g hg => hg.elim)
          have hh4 : w4.heap[w3.heap.size]? = some (.cells #[.int .i64 (k : Nat)] 3 (0, 0)) := by rw [hw4]; exact World.alloc_heap_new w3 _
          have hsrc : Src w4 noBlock 1 (ints [(k : Int)]) (.slice (some ⟨w3.heap.size, 0, none⟩) 1 1) := by
            refine ⟨some ⟨w3.heap.size, 0, none⟩, 1, fun _ _ => .int .i64 (k : Nat), rfl, by simp [lst, encI, AV.els], by simp [lst, encI, AV.els, maxLen], fun _ => ⟨_, _, rfl, fun i j hi hj => ?_⟩, fun i j hi hj => rfl, fun i j hi hj => ?_⟩
            · have hi : i < 1 := by simpa [lst, encI, AV.els] using hi
              obtain rfl : i = 0 := by omega
              obtain rfl : j = 0 := by omega
              rw [cell_of_row w4 _ _ _ _ _ hh4]; rfl
            · have hi : i < 1 := by simpa [lst, encI, AV.els] using hi
              obtain rfl : i = 0 := by omega
              obtain rfl : j = 0 := by omega
              exact .lit _
          obtain ⟨inf, hi0, hz0, hz1, hz2⟩ : ∃ inf, Try.prog.info? 3 = some inf ∧ inf.zero = some (.int .i64 0) ∧ inf.size = 1 ∧ inf.bytes = 8 := inf_int
          obtain ⟨v5, w5, hrun, hgr, hown, hres⟩ := run_append_av (ty := 23) (B := w2.heap.size) (t := 23) Try.underlying23 hi0 hz0 hz1 rfl (by omega) hrow4 hsrc (by have := hb3.size; omega) (by omega) (by unfold AV.room; rw [lst_els, hz2]; simp [lst, AV.els]; omega)
          obtain ⟨hrow5, _⟩ := hres noBlock (fun g hg => hg.elim)
          rw [lst_app] at hrow5
          rw [hw4] at hrun
          have hdr5 : w2.drawn ≤ w5.drawn := by have := run_drawn _ hrun; have : w4.drawn = (w3.alloc (.cells #[.int .i64 (k : Nat)] 3)).drawn := by rw [hw4]
                                                omega
          have hb5 : Below w2.heap.size w2 w5 := (hb3.trans (hb4.mono hb3.size)).grown hgr (by have := hb3.size; omega) (fun g e => (hrow4.lt e).1)
          obtain ⟨o5, h5, hs5, hn5⟩ := hJ _ _ _ _ h2 hb5 hdr5
          have hv5 : RV w5 o5 (ints o) (.slice A o.length c) := hv2.mono fun b hb hl => ⟨hs5 b hb, hb5.block b hl⟩
          have hr5 : RV w5 o5 (ints (o ++ [(k : Int)])) v5 := hrow5.rv (fun g hg => hg.elim) (fun g hg => hn5 g (hrow5.lt hg).1 (hrow5.lt hg).2)
          have hFk : F k = ords n m (o ++ [(k : Int)]) := by rw [hF, if_neg hm]
          obtain ⟨_, _, hI⟩ := ih (o ++ [(k : Int)]) (by simp; omega)
          have hcut : List.range n = List.range k ++ k :: (List.range n).drop (k + 1) := by
            have := cut_at (l := List.range n) (b := k) (x := k) (by rw [List.getElem?_range hlt])
            rwa [List.take_range, Nat.min_eq_left (by omega)] at this
          have hev : evs (ords n (m + 1) o) = evs ((List.range k).flatMap F) ++ evs (ords n m (o ++ [(k : Int)])) ++ evs (((List.range n).drop (k + 1)).flatMap F) := by
            rw [hO]
            conv => lhs; rw [hcut]
            rw [List.flatMap_append, List.flatMap_cons, hFk]
            simp [evs]
          have hcall := hI [(q, cs)] (fun s o' W => J (evs ((List.range k).flatMap F) ++ s) o' W ∧ RV W o' (ints o) (.slice A o.length c)) w5 o5 #[.int .i64 (n : Nat), v5] rfl hent
            (fun s o' X C hs hb hd => by
              obtain ⟨o'', a1, a2, a3⟩ := hJ _ _ _ _ hs.1 hb hd
              exact ⟨o'', ⟨a1, hs.2.mono fun b hb' hl => ⟨a2 b hb', hb.block b hl⟩⟩, a2, a3⟩)
            (fun s o' X hs => hG _ _ _ hs.1)
            (fun pre p rest o' X vs Y u he hs hvs hY => by
              refine (hV (evs ((List.range k).flatMap F) ++ pre) p (rest ++ evs (((List.range n).drop (k + 1)).flatMap F)) o' X vs (.tup [Y, ints o]) (.tuple #[u, .slice A o.length c]) (by rw [hev, he]; simp) hs.1 hvs (.tup _ _ rfl fun i hi => ?_)).mono ?_
              · have : i = 0 ∨ i = 1 := by have : i < 2 := by simpa using hi
                                           omega
                rcases this with rfl | rfl
                · exact hY
                · exact hs.2
              · rintro e X' ⟨hv, o'', hj, ht⟩
                cases ht with
                | tup _ _ hl ht =>
                exact ⟨hv, o'', ⟨by rw [← List.append_assoc]; exact hj, ht 1 (by simp)⟩, ht 0 (by simp)⟩)
            ⟨rfl, fun i hi => by
              have : i = 0 ∨ i = 1 := by have : i < 2 := by simpa using hi
                                         omega
              rcases this with rfl | rfl
              · exact .lit _
              · exact hr5⟩
            ⟨by rw [List.append_nil]; exact h5, hv5⟩
          go_wp2_with (at_builtin; refine Lib.wpList_append_run _ rfl _ _ _ _ rfl _ _ rfl rfl _ _ hrun ?_)
          refine hcall.mono ?_
          rintro e w6 ⟨rfl, o6, h6, hv6⟩
          go_wp2_with fail
          go_roundg (n - (k + 1))
          case measure => omega
          case rel => exact ⟨k + 1, rfl, by omega, by simp, o6, by rw [List.range_succ, List.flatMap_append]; simpa [hFk, evs] using h6, hv6⟩
      · obtain rfl : k = n := by omega
        have hd2 : decide ((k : Int) < k) = false := by simp
        go_wp2_with fail
        go_end0
        exact ⟨rfl, o1, by rw [hO]; exact h1⟩
end Go.Proofs.Ytfdpbfdhcngfgaa
