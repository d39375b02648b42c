/- sequences: all orders, by visits: the reference. -/
import Derived.Test.YtfdpbfdhcngfgaaSqO
namespace Go.Proofs.Ytfdpbfdhcngfgaa
open Go.RowKit
set_option linter.unusedVariables false
set_option linter.unusedSimpArgs false
set_option maxRecDepth 100000
set_option maxHeartbeats 2000000
theorem src_ints {w : World} {ok ok' : Nat → Prop} {o : List Int} {u : Value} (h : Src w ok 1 (ints o) u) : Src w ok' 1 (ints o) u := by
  obtain ⟨A, c, us, e, h1, h2, h3, h4, h5⟩ := h
  refine ⟨A, c, us, e, h1, h2, h3, h4, fun i j hi hj => ?_⟩
  have hi' : i < o.length := by simpa using hi
  obtain rfl : j = 0 := by omega
  have e1 : gt2 (ints o).els i 0 = .int o[i] := by unfold gt2; simp [lst, AV.els, encI, List.getD_eq_getElem?_getD, hi']
  have := h5 i 0 hi hj
  rw [e1] at this ⊢
  rw [RV.lit_iff.1 this]
  exact .lit _
theorem int_cell {w : World} {ok : Nat → Prop} {o : List Int} {A : Option Addr} {n c j : Nat} (h : RV w ok (ints o) (.slice A n c)) (hj : j < o.length) : ∃ b off, A = some ⟨b, off, none⟩ ∧ w.cell? ⟨b, off + j, none⟩ = some (.int .i64 o[j]) := by
  obtain ⟨A', c', us, e, h1, h2, h3, h4, h5⟩ := src_rv h (s := 1) (by simp)
  injection e with e _ _
  subst e
  have hl : (ints o).els.length = o.length := by simp
  obtain ⟨b, off, e, hc⟩ := h3 (by omega)
  refine ⟨b, off, e, ?_⟩
  have h6 := hc j 0 (by omega) (by omega)
  have e1 : gt2 (ints o).els j 0 = .int o[j] := by unfold gt2; simp [lst, AV.els, encI, List.getD_eq_getElem?_getD, hj]
  have h7 := h5 j 0 (by omega) (by omega)
  rw [e1] at h7
  rw [RV.lit_iff.1 h7] at h6
  simpa using h6
theorem rorders_vi (n : Nat) (hn : n ≤ 1000) : ∀ (m : Nat) (o : List Int), o.length + m = n → Vi Try.prog 35 [.int (n : Nat), ints o] [1] (evs (ords n m o)) := by
  intro m
  induction m with
  | zero =>
    intro o ho
    refine ⟨Try.call35, fun p hp => ?_, fun fs J w ok cargs hfs hent hJ hG hV hargs h0 => ?_⟩
    · obtain ⟨q, hq, rfl⟩ := List.mem_map.1 hp
      exact ⟨by simp, rfl⟩
    obtain ⟨q, rfl⟩ : ∃ q, fs = [q] := by
      match fs, hfs with
      | [q], _ => exact ⟨q, rfl⟩
    obtain ⟨q, cs⟩ := q
    have hq : Ent Try.prog q := hent (q, cs) (by simp)
    obtain ⟨hsz, hargs⟩ := hargs
    obtain ⟨u0, u1, rfl⟩ : ∃ u0 u1, cargs = #[u0, u1] := by
      obtain ⟨c⟩ := cargs
      match c, hsz with
      | [a, b], _ => exact ⟨a, b, rfl⟩
    have hu0 : RV w ok (.int (n : Nat)) u0 := hargs 0 (by simp)
    have hu1 : RV w ok (ints o) u1 := hargs 1 (by simp)
    obtain rfl := RV.lit_iff.1 hu0
    obtain ⟨A, c, rfl⟩ : ∃ A c, u1 = .slice A o.length c := by
      obtain ⟨A, c, us, e, _⟩ := src_rv hu1 (s := 1) (by simp)
      exact ⟨A, c, by rw [e, lst_els]; simp⟩
    refine calls_of_wp Try.func35 rfl ?_
    simp only [Try.ntmps35, List.map_cons, List.map_nil, List.size_toArray, List.length_cons, List.length_nil, Nat.reduceAdd, Nat.reduceSub, Array.replicate_succ, Array.replicate_zero, List.push_toArray, List.append_toArray, List.nil_append, List.cons_append]
    have hd : ((o.length : Int) == (n : Int)) = true := by simp; omega
    go_wp2_with fail
    rw [hq, Oper.upon_enter]
    refine (hV [] (0, [ints o]) [] ok w #[.slice A o.length c] (.lit undef) undef rfl h0 ⟨rfl, fun i hi => ?_⟩ (.lit _)).mono ?_
    · obtain rfl : i = 0 := by simpa using hi
      exact hu1
    rintro e w1 ⟨⟨v, rfl⟩, o1, h1, _⟩
    go_wp2_with fail
    exact ⟨rfl, _, results_none rfl _ _ _, rfl, o1, h1⟩
  | succ m ih =>
    intro o ho
    refine ⟨Try.call35, fun p hp => ?_, fun fs J w ok cargs hfs hent hJ hG hV hargs h0 => ?_⟩
    · obtain ⟨q, hq, rfl⟩ := List.mem_map.1 hp
      exact ⟨by simp, rfl⟩
    obtain ⟨q, rfl⟩ : ∃ q, fs = [q] := by
      match fs, hfs with
      | [q], _ => exact ⟨q, rfl⟩
    obtain ⟨q, cs⟩ := q
    have hq : Ent Try.prog q := hent (q, cs) (by simp)
    obtain ⟨hsz, hargs⟩ := hargs
    obtain ⟨u0, u1, rfl⟩ : ∃ u0 u1, cargs = #[u0, u1] := by
      obtain ⟨c⟩ := cargs
      match c, hsz with
      | [a, b], _ => exact ⟨a, b, rfl⟩
    have hu0 : RV w ok (.int (n : Nat)) u0 := hargs 0 (by simp)
    have hu1 : RV w ok (ints o) u1 := hargs 1 (by simp)
    obtain rfl := RV.lit_iff.1 hu0
    obtain ⟨A, c, rfl⟩ : ∃ A c, u1 = .slice A o.length c := by
      obtain ⟨A, c, us, e, _⟩ := src_rv hu1 (s := 1) (by simp)
      exact ⟨A, c, by rw [e, lst_els]; simp⟩
    refine calls_of_wp Try.func35 rfl ?_
    simp only [Try.ntmps35, List.map_cons, List.map_nil, List.size_toArray, List.length_cons, List.length_nil, Nat.reduceAdd, Nat.reduceSub, Array.replicate_succ, Array.replicate_zero, List.push_toArray, List.append_toArray, List.nil_append, List.cons_append]
    have hd : ((o.length : Int) == (n : Int)) = false := by simp; omega
    let F : Nat → List (List Int) := fun i => if (i : Int) ∈ o then [] else ords n m (o ++ [(i : Int)])
    have hF : ∀ i, F i = if (i : Int) ∈ o then [] else ords n m (o ++ [(i : Int)]) := fun i => rfl
    have hO : ords n (m + 1) o = (List.range n).flatMap F := rfl
    clear_value F
    go_wp2_with fail
    go_loopg [18] n (fun g i wr => ∃ k : Nat, g = n - k ∧ k ≤ n ∧ i = .int .i64 k ∧ ∃ o', J (evs ((List.range k).flatMap F)) o' wr ∧ RV wr o' (ints o) (.slice A o.length c))
    case atStart => exact ⟨0, rfl, by omega, rfl, ok, h0, hu1⟩
    case round =>
      obtain ⟨k, rfl, hk, rfl, o1, h1, hv1⟩ := hrel
      by_cases hlt : k < n
      · have hd2 : decide ((k : Int) < n) = true := by simp; omega
        obtain ⟨g1, g2⟩ := hG _ _ _ h1
        go_wp2_with fail
        go_loopg [7, 23] o.length (fun g u j w' => ∃ m : Nat, g = o.length - m ∧ m ≤ o.length ∧ j = .int .i64 m ∧ u = .bool (decide ((k : Int) ∈ o.take m)) ∧ w' = wr)
        case atStart => exact ⟨0, rfl, by omega, rfl, by simp, rfl⟩
        case round =>
          obtain ⟨j, rfl, hj, rfl, rfl, rfl⟩ := hrel
          by_cases hjl : j < o.length
          · have hd3 : decide ((j : Int) < o.length) = true := by simp; omega
            obtain ⟨b, off, rfl, hcell⟩ := int_cell hv1 hjl
            have hto : decide ((k : Int) ∈ o.take (j + 1)) = (decide ((k : Int) ∈ o.take j) || ((o[j] : Int) == (k : Int))) := by
              rw [take_snoc (List.getElem?_eq_getElem hjl), Bool.eq_iff_iff, decide_eq_true_iff, List.mem_append, Bool.or_eq_true, decide_eq_true_iff, List.mem_singleton, beq_iff_eq]; exact ⟨fun h => h.imp id Eq.symm, fun h => h.imp id Eq.symm⟩
            cases hu : decide ((k : Int) ∈ o.take j)
            · rw [hu, Bool.false_or] at hto
              cases he : ((o[j] : Int) == (k : Int))
              · rw [he] at hto
                go_wp2_with fail
                go_roundg (o.length - (j + 1))
                case measure => omega
                case rel => exact ⟨j + 1, rfl, by omega, by simp, by rw [hto], rfl⟩
              · rw [he] at hto
                go_wp2_with fail
                go_roundg (o.length - (j + 1))
                case measure => omega
                case rel => exact ⟨j + 1, rfl, by omega, by simp, by rw [hto], rfl⟩
            · rw [hu, Bool.true_or] at hto
              go_wp2_with fail
              go_roundg (o.length - (j + 1))
              case measure => omega
              case rel => exact ⟨j + 1, rfl, by omega, by simp, by rw [hto], rfl⟩
          · obtain rfl : j = o.length := by omega
            have hd3 : decide ((o.length : Int) < o.length) = false := by simp
            by_cases hm : (k : Int) ∈ o
            · have hdm : decide ((k : Int) ∈ o.take o.length) = true := by rw [List.take_length]; exact decide_eq_true hm
              go_wp2_with fail
              go_roundg (n - (k + 1))
              case measure => omega
              case rel => exact ⟨k + 1, rfl, by omega, by simp, o1, by rw [List.range_succ, List.flatMap_append]; simpa [hF, hm] using h1, hv1⟩
            · have hdm : decide ((k : Int) ∈ o.take o.length) = false := by rw [List.take_length]; exact decide_eq_false hm
              obtain ⟨inf1, hj0, hjz0, hjz1, hjz2⟩ := inf_int
              obtain ⟨v3, w3, hrun1, hgr1, hown1, hres1⟩ := run_append_av (ty := 23) (B := wr.heap.size) (t := 23) Try.underlying23 hj0 hjz0 hjz1 rfl (by omega) (RRow.nil wr wr.heap.size 3 1 (by omega) noBlock) (src_ints (src_rv hv1 (s := 1) (by simp))) (Nat.le_refl _) (by omega) (by unfold AV.room; rw [lst_els, hjz2]; simp [AV.els]; omega)
              obtain ⟨hrow, _⟩ := hres1 noBlock (fun g hg => hg.elim)
              rw [app_ints] at hrow
              have hb3 : Below wr.heap.size wr w3 := (Below.refl _ wr).grown hgr1 (Nat.le_refl _) (fun g e => by cases e)
              obtain ⟨A3, c3, rfl⟩ : ∃ A3 c3, v3 = .slice A3 o.length c3 := by
                obtain ⟨A3, n3, c3, e, hn3, _⟩ := hrow.form
                exact ⟨A3, c3, by rw [e, hn3, lst_els]; simp⟩
              obtain ⟨w4, hw4⟩ : ∃ w4, w4 = w3.alloc (.cells #[.int .i64 (k : Nat)] 3) := ⟨_, rfl⟩
              have hsz4 : w4.heap.size = w3.heap.size + 1 := by rw [hw4]; simp
              have hb4 : Below w3.heap.size w3 w4 := by rw [hw4]; exact (Below.refl _ w3).alloc (Nat.le_refl _) _
              have hd4 : w4.drawn = w3.drawn := by rw [hw4]; rfl
              have hrow4 : RRow w4 wr.heap.size 3 1 noBlock (ints o) (.slice A3 o.length c3) := hrow.keep (fun g hg => hb4.block g (hrow.lt hg).2) (fun g hg => hg.elim)
              have hh4 : w4.heap[w3.heap.size]? = some (.cells #[.int .i64 (k : Nat)] 3 (0, 0)) := by rw [hw4]; exact World.alloc_heap_new w3 _
              have hsrc : Src w4 noBlock 1 (ints [(k : Int)]) (.slice (some ⟨w3.heap.size, 0, none⟩) 1 1) := by
                refine ⟨some ⟨w3.heap.size, 0, none⟩, 1, fun _ _ => .int .i64 (k : Nat), rfl, by simp [lst, encI, AV.els], by simp [lst, encI, AV.els, maxLen], fun _ => ⟨_, _, rfl, fun i j hi hj => ?_⟩, fun i j hi hj => rfl, fun i j hi hj => ?_⟩
                · have hi : i < 1 := by simpa [lst, encI, AV.els] using hi
                  obtain rfl : i = 0 := by omega
                  obtain rfl : j = 0 := by omega
                  rw [cell_of_row w4 _ _ _ _ _ hh4]; rfl
                · have hi : i < 1 := by simpa [lst, encI, AV.els] using hi
                  obtain rfl : i = 0 := by omega
                  obtain rfl : j = 0 := by omega
                  exact .lit _
              obtain ⟨inf, hi0, hz0, hz1, hz2⟩ : ∃ inf, Try.prog.info? 3 = some inf ∧ inf.zero = some (.int .i64 0) ∧ inf.size = 1 ∧ inf.bytes = 8 := inf_int
              obtain ⟨v5, w5, hrun, hgr, hown, hres⟩ := run_append_av (ty := 23) (B := wr.heap.size) (t := 23) Try.underlying23 hi0 hz0 hz1 rfl (by omega) hrow4 hsrc (by have := hb3.size; omega) (by omega) (by unfold AV.room; rw [lst_els, hz2]; simp [lst, AV.els]; omega)
              obtain ⟨hrow5, _⟩ := hres noBlock (fun g hg => hg.elim)
              rw [lst_app] at hrow5
              rw [hw4] at hrun
              have hdr5 : wr.drawn ≤ w5.drawn := by have := run_drawn _ hrun; have := run_drawn _ hrun1; have : w4.drawn = (w3.alloc (.cells #[.int .i64 (k : Nat)] 3)).drawn := by rw [hw4]
                                                    omega
              have hb5 : Below wr.heap.size wr w5 := (hb3.trans (hb4.mono hb3.size)).grown hgr (by have := hb3.size; omega) (fun g e => (hrow4.lt e).1)
              obtain ⟨o5, h5, hs5, hn5⟩ := hJ _ _ _ _ h1 hb5 hdr5
              have hv5 : RV w5 o5 (ints o) (.slice A o.length c) := hv1.mono fun b hb hl => ⟨hs5 b hb, hb5.block b hl⟩
              have hr5 : RV w5 o5 (ints (o ++ [(k : Int)])) v5 := hrow5.rv (fun g hg => hg.elim) (fun g hg => hn5 g (hrow5.lt hg).1 (hrow5.lt hg).2)
              have hFk : F k = ords n m (o ++ [(k : Int)]) := by rw [hF, if_neg hm]
              obtain ⟨_, _, hI⟩ := ih (o ++ [(k : Int)]) (by simp; omega)
              have hcut : List.range n = List.range k ++ k :: (List.range n).drop (k + 1) := by
                have := cut_at (l := List.range n) (b := k) (x := k) (by rw [List.getElem?_range hlt])
                rwa [List.take_range, Nat.min_eq_left (by omega)] at this
              have hev : evs (ords n (m + 1) o) = evs ((List.range k).flatMap F) ++ evs (ords n m (o ++ [(k : Int)])) ++ evs (((List.range n).drop (k + 1)).flatMap F) := by
                rw [hO]
                conv => lhs; rw [hcut]
                rw [List.flatMap_append, List.flatMap_cons, hFk]
                simp [evs]
              have hcall := hI [(q, cs)] (fun s o' W => J (evs ((List.range k).flatMap F) ++ s) o' W ∧ RV W o' (ints o) (.slice A o.length c)) w5 o5 #[.int .i64 (n : Nat), v5] rfl hent
                (fun s o' X C hs hb hd => by
                  obtain ⟨o'', a1, a2, a3⟩ := hJ _ _ _ _ hs.1 hb hd
                  exact ⟨o'', ⟨a1, hs.2.mono fun b hb' hl => ⟨a2 b hb', hb.block b hl⟩⟩, a2, a3⟩)
                (fun s o' X hs => hG _ _ _ hs.1)
                (fun pre p rest o' X vs Y u he hs hvs hY => by
                  refine (hV (evs ((List.range k).flatMap F) ++ pre) p (rest ++ evs (((List.range n).drop (k + 1)).flatMap F)) o' X vs (.tup [Y, ints o]) (.tuple #[u, .slice A o.length c]) (by rw [hev, he]; simp) hs.1 hvs (.tup _ _ rfl fun i hi => ?_)).mono ?_
                  · have : i = 0 ∨ i = 1 := by have : i < 2 := by simpa using hi
                                               omega
                    rcases this with rfl | rfl
                    · exact hY
                    · exact hs.2
                  · rintro e X' ⟨hv, o'', hj, ht⟩
                    cases ht with
                    | tup _ _ hl ht =>
                    exact ⟨hv, o'', ⟨by rw [← List.append_assoc]; exact hj, ht 1 (by simp)⟩, ht 0 (by simp)⟩)
                ⟨rfl, fun i hi => by
                  have : i = 0 ∨ i = 1 := by have : i < 2 := by simpa using hi
                                             omega
                  rcases this with rfl | rfl
                  · exact .lit _
                  · exact hr5⟩
                ⟨by rw [List.append_nil]; exact h5, hv5⟩
              go_wp2_with (at_builtin; first | refine Lib.wpList_append_run _ rfl _ _ _ _ rfl _ _ rfl rfl _ _ hrun1 ?_ | refine Lib.wpList_append_run _ rfl _ _ _ _ rfl _ _ rfl rfl _ _ hrun ?_)
              refine hcall.mono ?_
              rintro e w6 ⟨rfl, o6, h6, hv6⟩
              go_wp2_with fail
              go_roundg (n - (k + 1))
              case measure => omega
              case rel => exact ⟨k + 1, rfl, by omega, by simp, o6, by rw [List.range_succ, List.flatMap_append]; simpa [hFk, evs] using h6, hv6⟩
      · obtain rfl : k = n := by omega
        have hd2 : decide ((k : Int) < k) = false := by simp
        go_wp2_with fail
        go_end0
        exact ⟨rfl, o1, by rw [hO]; exact h1⟩
end Go.Proofs.Ytfdpbfdhcngfgaa
