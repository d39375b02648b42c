/- Texts of one proof, part 6: plain values, a run over them, contracts of functions. -/
import Derived.Test.YtcifjnhpgblnkaaGreatDoorM5
import Derived.Test.YtcifjnhpgblnkaaGreatDoorM4
import Derived.Deep.RegionLaw
import Derived.Deep.OwnRows
import Derived.Shelf.Lays
import Derived.Shelf.LaysM
import Derived.Test.YtcifjnhpgblnkaaGreatDoorChecked
import Derived.Shelf.Strconv.Itoa3
import Derived.Shelf.Strconv.Atoi
import Derived.LaidMore
import Derived.OpenShut
import Derived.MakeChecks
import Derived.SizedLaws
/- slices.Insert at api.TubeNode. -/
namespace Go.Proofs.YtcifjnhpgblnkaaGreatDoor
open Go.RowKit Go.Lib
set_option linter.unusedVariables false
set_option linter.unusedSimpArgs false
set_option maxRecDepth 1000000
set_option maxHeartbeats 4000000
theorem insNd_info : (Tryz.prog.info? 54).map (fun i => (i.zero, i.size, i.bytes)) = some (some (.agg #[.int .i64 0, .int .i64 0, .int .i64 0, .int .i64 0, .int .i64 0, .int .i64 0]), 6, 48) := by kernel_rfl
theorem insNd_size (w : World) : (Go.sizeOf 54).run Tryz.prog w = .ok 6 w := by kernel_rfl
theorem insNd_und : Tryz.prog.underlying 43 = some (.slice 54) := by kernel_rfl
theorem insNd_und2 : Tryz.prog.underlying 42 = some (.slice 54) := by kernel_rfl
/-- At the end. -/
theorem insNd_end (A : Option Addr) (n c vb vo m vc : Nat) (hm : 0 < m) (hnc : n ≤ c) (hc : c ≤ maxLen) (w w' : World) (v' : Value) (hrun : (Builtin.append_ #[43, 42] 43 #[.slice A n c, .slice (some ⟨vb, vo, none⟩) m vc]).run Tryz.prog w = .ok v' w') :
    Calls Tryz.prog 198 #[.slice A n c, .int .i64 n, .slice (some ⟨vb, vo, none⟩) m vc] w fun e W => e = .returned v' ∧ W = w' := by
  unfold maxLen at hc
  have hz1 : ¬ ((m : Int) = 0) := by omega
  have hb : (n : Int) ≤ 9223372036854775807 := by omega
  go_enter Tryz.func198, Tryz.ntmps198
  cases A with
  | none =>
    go_wp2_with (at_builtin; refine Lib.wpList_append_run _ rfl _ _ _ _ rfl _ _ rfl rfl _ _ hrun ?_)
    all_goals (go_ret; exact ⟨rfl, rfl⟩)
  | some a =>
    obtain ⟨ab, ao, asp⟩ := a
    go_wp2_with (at_builtin; refine Lib.wpList_append_run _ rfl _ _ _ _ rfl _ _ rfl rfl _ _ hrun ?_)
    all_goals (go_ret; exact ⟨rfl, rfl⟩)
/-- In place. -/
theorem insNd_shift (b n c i vb vo m vc : Nat) (xs ys : List Value) (cur : Array Value) (w : World) (hi : i < n) (hm : 0 < m) (hroom : n + m ≤ c) (hc63 : c ≤ 9223372036854775807) (hvb : vb ≠ b)
    (hcl : xs.length = n * 6) (hvl : ys.length = m * 6) (hg : w.heap[b]? = some (.cells cur 54 (0, 0))) (hcs : cur.size = c * 6) (htk : cur.toList.take (n * 6) = xs)
    (hvs : ∀ j v, ys[j]? = some v → w.cell? ⟨vb, vo + j, none⟩ = some v) (h1c : ∀ v ∈ xs, v.oneCell' = true) (h1v : ∀ v ∈ ys, v.oneCell' = true) :
    Calls Tryz.prog 198 #[.slice (some ⟨b, 0, none⟩) n c, .int .i64 i, .slice (some ⟨vb, vo, none⟩) m vc] w fun e w' =>
      e = .returned (.slice (some ⟨b, 0, none⟩) (n + m) c) ∧ w' = (w.drew.setCells b ((i + m) * 6) (xs.drop (i * 6))).setCells b (i * 6) ys := by
  have mixed : Tryz.prog.follows .mixedOrders = true := by kernel_rfl
  have hz1 : ¬ ((m : Int) = 0) := by omega
  have hz2 : ¬ ((i : Int) = (n : Int)) := by omega
  have hsz : (Tryz.prog.info? 54).map (·.size) = some 6 := by kernel_rfl
  have hy0 : ∃ v, w.cell? ⟨vb, vo, none⟩ = some v := by
    have h0 : 0 < ys.length := by rw [hvl]; omega
    exact ⟨ys[0], by simpa using hvs 0 _ (List.getElem?_eq_getElem h0)⟩
  obtain ⟨csA, tA, fz, hA, hA0⟩ : ∃ csA tA fz, w.heap[vb]? = some (.cells csA tA fz) ∧ csA.size ≠ 0 := by
    obtain ⟨v, hv⟩ := hy0
    unfold World.cell? at hv
    cases hq : w.heap[vb]? with
    | none => simp [hq] at hv
    | some o =>
      cases o with
      | cells cs tA fz =>
        refine ⟨cs, tA, fz, rfl, fun e => ?_⟩
        have : cs = #[] := by simpa using e
        subst this
        simp [hq] at hv
      | _ => simp [hq] at hv
  have hov : ∀ lb cb, (callFunc 246 #[.slice (some ⟨vb, vo, none⟩) m vc, .slice (some ⟨b, (i + m) * 6, none⟩) lb cb]).run Tryz.prog w = .ok (.value (.bool false)) w := fun lb cb => by
    rw [run_callFunc_extern Tryz.func246 (by kernel_rfl) (by kernel_rfl) (by kernel_rfl) (e := Extern.SlicesOverlaps.overlaps #[42, 42] #[4]) (by kernel_rfl),
      run_overlaps_own w 42 4 54 insNd_und2 6 insNd_size ⟨vb, vo, none⟩ ⟨b, (i + m) * 6, none⟩ m vc lb cb hvb csA tA fz hA hA0 cur 54 hg]
    rfl
  have hdl : (xs.drop (i * 6)).length = (n - i) * 6 := by rw [List.length_drop, hcl, Nat.sub_mul]
  have hw1 : IntKind.i64.wrap ((i : Int) + (m : Int)) = (i : Int) + (m : Int) := by rw [IntKind.wrap_i64]; omega
  have hb1 : (0 : Int) ≤ (i : Int) + (m : Int) := by omega
  have hin : i ≤ n := by omega
  have htn : ((i : Int) + (m : Int)).toNat = i + m := by omega
  have hb2 : ¬ (c = i + m) := by omega
  have hb3 : (i : Int) ≤ (n : Int) + (m : Int) := by omega
  have hb4 : ¬ (c = i) := by omega
  have hfz : ∀ (W : World) (cs : Array Value), W.heap[b]? = some (.cells cs 54 (0, 0)) → ∀ k, W.frozen? ⟨b, k, none⟩ = false := fun W cs hW k => by simp [World.frozen?, hW]
  have hsp : ∀ (W : World) (cs : Array Value), W.heap[b]? = some (.cells cs 54 (0, 0)) → ∀ k, k < cs.size → (W.cell? ⟨b, k, none⟩).isSome = true := fun W cs hW k hk => by
    rw [cell_of_row W b k cs 54 (0, 0) hW]; simp [hk]
  have hmul : ∀ a b : Nat, a ≤ b → a * 6 ≤ b * 6 := fun a b h => Nat.mul_le_mul_right _ h
  have hg1 : w.drew.heap[b]? = some (.cells cur 54 (0, 0)) := hg
  have hcp1 : ∀ ty dc sc, (Builtin.copy_ #[43, 43] ty #[.slice (some ⟨b, (i + m) * 6, none⟩) (n + m - (i + m)) dc, .slice (some ⟨b, i * 6, none⟩) (n + m - i) sc]).run Tryz.prog w.drew = .ok (goInt ((n - i : Nat) : Int)) (w.drew.setCells b ((i + m) * 6) (xs.drop (i * 6))) := fun ty dc sc =>
    run_copy_s w.drew _ _ ty 54 6 b ((i + m) * 6) (n + m - (i + m)) dc ⟨b, i * 6, none⟩ (n + m - i) sc (xs.drop (i * 6)) (n - i) insNd_und hsz (by simp only [Nat.min_def]; split <;> omega) hdl
      (fun j v hj => by
        rw [Addr.add_lit, cell_of_row _ b _ cur 54 (0, 0) hg1]
        rw [List.getElem?_drop, ← htk, List.getElem?_take] at hj
        split at hj
        · rw [← Array.getElem?_toList]; exact hj
        · cases hj)
      (fun j hj => hsp _ cur hg1 _ (by rw [hdl] at hj; rw [hcs]; have := hmul (n + m) c hroom; rw [Nat.add_mul] at this; rw [Nat.sub_mul] at hj; have := hmul i n hin; rw [Nat.add_mul]; omega)) (fun j hj => hfz _ cur hg1 _) (fun v hv => h1c v (List.mem_of_mem_drop hv))
  obtain ⟨W1, hW1⟩ : ∃ W1, W1 = w.drew.setCells b ((i + m) * 6) (xs.drop (i * 6)) := ⟨_, rfl⟩
  have hg2 : W1.heap[b]? = some (.cells (setR cur ((i + m) * 6) (xs.drop (i * 6))) 54 (0, 0)) := by rw [hW1]; exact setCells_blk _ _ _ _ hg1
  have hcp2 : ∀ (W : World), W.heap = W1.heap → ∀ ty dc, (Builtin.copy_ #[43, 42] ty #[.slice (some ⟨b, i * 6, none⟩) (n + m - i) dc, .slice (some ⟨vb, vo, none⟩) m vc]).run Tryz.prog W = .ok (goInt m) (W.setCells b (i * 6) ys) := fun W hWh ty dc =>
    run_copy_s W _ _ ty 54 6 b (i * 6) (n + m - i) dc ⟨vb, vo, none⟩ m vc ys m insNd_und hsz (by simp only [Nat.min_def]; split <;> omega) hvl
      (fun j v hj => by
        have e1 : W.cell? (({ block := vb, off := vo } : Addr).add j) = W1.cell? (({ block := vb, off := vo } : Addr).add j) := World.cell?_of_block (by rw [hWh])
        rw [e1, hW1, Addr.add_lit, World.cell?_setCells_out b _ _ _ _ (fun h _ => absurd h hvb)]
        exact hvs j v hj)
      (fun j hj => hsp W _ (by rw [hWh]; exact hg2) _ (by rw [setR_size, hcs]; rw [hvl] at hj; have := hmul (i + m) c (by omega); rw [Nat.add_mul] at this; omega)) (fun j hj => hfz W _ (by rw [hWh]; exact hg2) _) h1v
  rw [← hW1] at hcp1
  clear hg2 hg1 hsp hfz hmul htk hcs hg hA hA0 h1c hcl
  go_enter Tryz.func198, Tryz.ntmps198
  go_wp2_with (simp only [hov])
  go_region_law_o (refine step_copy_run rfl _ _ 43 43 rfl _ _ (by simp [Act.eval, Act.put]) (by simp [Act.eval, Act.put]) (hcp1 _ _ _) ?_)
  go_wp2_with (at_builtin; refine wpList_copy_run _ rfl _ _ 43 42 rfl _ _ rfl rfl (hcp2 _ rfl _ _) ?_)
  go_ret
  first | exact ⟨rfl, rfl⟩ | exact ⟨rfl, by rw [hW1]⟩
/-- Into a new row. -/
theorem insNd_grow (b n c i vb vo m vc : Nat) (xs ys : List Value) (cur : Array Value) (w : World) (hi : i < n) (hm : 0 < m) (hnc : n ≤ c) (hroom : c < n + m) (hbig : (n + m) * 48 ≤ 140737488355328)
    (hcl : xs.length = n * 6) (hvl : ys.length = m * 6) (hg : w.heap[b]? = some (.cells cur 54 (0, 0))) (hcs : cur.size = c * 6) (htk : cur.toList.take (n * 6) = xs)
    (hvs : ∀ j v, ys[j]? = some v → w.cell? ⟨vb, vo + j, none⟩ = some v) (h1c : ∀ v ∈ xs, v.oneCell' = true) (h1v : ∀ v ∈ ys, v.oneCell' = true) :
    ∃ (G : Nat) (ROW : Array Value) (W : World), n + m ≤ G ∧ G ≤ maxLen ∧ ROW.size = G * 6 ∧ ROW.toList.take (i * 6) = xs.take (i * 6) ∧ W.heap = (w.alloc (.cells ROW 54)).heap ∧ W.os = w.os ∧ W.tape = w.tape ∧ W.output = w.output ∧ w.drawn ≤ W.drawn ∧
    Calls Tryz.prog 198 #[.slice (some ⟨b, 0, none⟩) n c, .int .i64 i, .slice (some ⟨vb, vo, none⟩) m vc] w fun e w' =>
      e = .returned (.slice (some ⟨w.heap.size, 0, none⟩) (n + m) G) ∧ w' = ((W.setCells w.heap.size (i * 6) ys).drew).setCells w.heap.size ((i + m) * 6) (xs.drop (i * 6)) := by
  have mixed : Tryz.prog.follows .mixedOrders = true := by kernel_rfl
  obtain ⟨i0, hi0, hz0, hzs, hzb⟩ : ∃ i0, Tryz.prog.info? 54 = some i0 ∧ i0.zero = some (.agg #[.int .i64 0, .int .i64 0, .int .i64 0, .int .i64 0, .int .i64 0, .int .i64 0]) ∧ i0.size = 6 ∧ i0.bytes = 48 := by
    have := insNd_info
    cases hq : Tryz.prog.info? 54 with
    | none => rw [hq] at this; cases this
    | some i0 => rw [hq] at this; simp at this; exact ⟨i0, rfl, this.1, this.2.1, this.2.2⟩
  have hz1 : ¬ ((m : Int) = 0) := by omega
  have hz2 : ¬ ((i : Int) = (n : Int)) := by omega
  have hz3 : (c : Int) < (n : Int) + (m : Int) := by omega
  have hsz : (Tryz.prog.info? 54).map (·.size) = some 6 := by kernel_rfl
  have hbw : b < w.heap.size := (Array.getElem?_eq_some_iff.1 hg).1
  have hvw : vb < w.heap.size := block_lt_of_cell (hvs 0 _ (List.getElem?_eq_getElem (by omega)))
  have hkk : (n : Int) + (m : Int) - (i : Int) = ((n + m - i : Nat) : Int) := by omega
  have hik : i + (n + m - i) = n + m := by omega
  have hmul : ∀ a b : Nat, a ≤ b → a * 6 ≤ b * 6 := fun a b h => Nat.mul_le_mul_right _ h
  have hget : ∀ (W : World), W.heap = w.heap → ∀ j v, xs[j]? = some v → W.cell? ⟨b, j, none⟩ = some v := fun W hW j v hj => by
    rw [cell_of_row W b j cur 54 (0, 0) (by rw [hW]; exact hg)]
    rw [← htk, List.getElem?_take] at hj
    split at hj
    · rw [← Array.getElem?_toList]; exact hj
    · cases hj
  have hold : (Builtin.firstCells i0.size i (.slice (some ⟨b, 0, none⟩) i c)).run Tryz.prog w.drew = .ok (xs.take (i * 6)).toArray w.drew := by
    rw [hzs]
    exact run_firstCells_some w.drew 6 i ⟨b, 0, none⟩ i c (xs.take (i * 6)) (by rw [List.length_take, hcl]; have := hmul i n (by omega); omega) (fun j v hj => by
      rw [Addr.add_lit, Nat.zero_add]
      rw [List.getElem?_take] at hj
      split at hj
      · exact hget w.drew rfl j v hj
      · cases hj)
  have hrz : ∀ ty, (Builtin.append_ #[43, 3] ty #[.slice (some ⟨b, 0, none⟩) i c, .int .i64 ((n : Int) + (m : Int) - (i : Int))]).run Tryz.prog w =
      .ok (.slice (some ⟨w.heap.size, 0, none⟩) (n + m) (grownCap w (n + m) c 54)) (w.drew.alloc (.cells ((xs.take (i * 6)).toArray ++ Builtin.zeroCells (.agg #[.int .i64 0, .int .i64 0, .int .i64 0, .int .i64 0, .int .i64 0, .int .i64 0] : Value).cells (n + m - i) ++ Builtin.zeroCells (.agg #[.int .i64 0, .int .i64 0, .int .i64 0, .int .i64 0, .int .i64 0, .int .i64 0] : Value).cells (grownCap w (n + m) c 54 - (n + m))) 54)) := fun ty => by
    have h := Lib.run_append_grow_zeros w 43 3 ty 54 i0 _ .i64 .i64 insNd_und (by kernel_rfl) hi0 hz0 (some ⟨b, 0, none⟩) i c (xs.take (i * 6)) hold (n + m - i) (by omega) (by omega) (by omega) (by omega) (by rw [hzb]; omega) (by rw [hzb, hik]; exact growslice_fits hroom hbig)
    rw [hik] at h
    rw [hkk]
    exact h
  obtain ⟨G, hG⟩ : ∃ G, G = grownCap w (n + m) c 54 := ⟨_, rfl⟩
  obtain ⟨ROW, hROW⟩ : ∃ ROW : Array Value, ROW = (xs.take (i * 6)).toArray ++ Builtin.zeroCells (.agg #[.int .i64 0, .int .i64 0, .int .i64 0, .int .i64 0, .int .i64 0, .int .i64 0] : Value).cells (n + m - i) ++ Builtin.zeroCells (.agg #[.int .i64 0, .int .i64 0, .int .i64 0, .int .i64 0, .int .i64 0, .int .i64 0] : Value).cells (G - (n + m)) := ⟨_, rfl⟩
  rw [← hG] at hrz
  rw [← hROW] at hrz
  have hGn : n + m ≤ G := by rw [hG]; exact grownCap_ge w _ _ _
  have hGm : G ≤ maxLen := by rw [hG]; exact grownCap_le_maxLen w (n + m) c 54 (by unfold maxLen; omega)
  have htl : (xs.take (i * 6)).length = i * 6 := by rw [List.length_take, hcl]; have := hmul i n (by omega); omega
  have hRl : ROW.size = G * 6 := by
    rw [hROW]
    simp only [Array.size_append, List.size_toArray, htl, Builtin.zeroCells, Value.cells, Array.size_map, Array.size_range]
    show i * 6 + (n + m - i) * 6 + (G - (n + m)) * 6 = G * 6
    rw [← Nat.add_mul, ← Nat.add_mul]; congr 1; omega
  have hRt : ROW.toList.take (i * 6) = xs.take (i * 6) := by
    rw [hROW]
    simp only [Array.toList_append, List.append_assoc]
    exact List.take_left' htl
  obtain ⟨W1, hW1⟩ : ∃ W1, W1 = w.drew.alloc (.cells ROW 54) := ⟨_, rfl⟩
  rw [← hW1] at hrz
  have hN0 : W1.heap[w.heap.size]? = some (.cells ROW 54 (0, 0)) := by rw [hW1]; show (w.heap.push _)[w.heap.size]? = _; simp
  have hold2 : ∀ k, k < w.heap.size → W1.heap[k]? = w.heap[k]? := fun k hk => by rw [hW1]; show (w.heap.push _)[k]? = _; rw [Array.getElem?_push, if_neg (by omega)]
  have hfz : ∀ (W : World) (cs : Array Value), W.heap[w.heap.size]? = some (.cells cs 54 (0, 0)) → ∀ k, W.frozen? ⟨w.heap.size, k, none⟩ = false := fun W cs hW k => by simp [World.frozen?, hW]
  have hsp : ∀ (W : World) (cs : Array Value), W.heap[w.heap.size]? = some (.cells cs 54 (0, 0)) → ∀ k, k < cs.size → (W.cell? ⟨w.heap.size, k, none⟩).isSome = true := fun W cs hW k hk => by
    rw [cell_of_row W w.heap.size k cs 54 (0, 0) hW]; simp [hk]
  have hcpA : ∀ (W : World), W.heap = W1.heap → ∀ ty dc, (Builtin.copy_ #[43, 42] ty #[.slice (some ⟨w.heap.size, i * 6, none⟩) (n + m - i) dc, .slice (some ⟨vb, vo, none⟩) m vc]).run Tryz.prog W = .ok (goInt m) (W.setCells w.heap.size (i * 6) ys) := fun W hWh ty dc =>
    run_copy_s W _ _ ty 54 6 w.heap.size (i * 6) (n + m - i) dc ⟨vb, vo, none⟩ m vc ys m insNd_und hsz (by simp only [Nat.min_def]; split <;> omega) hvl
      (fun j v hj => by
        have e1 : W.cell? (({ block := vb, off := vo } : Addr).add j) = w.cell? (({ block := vb, off := vo } : Addr).add j) := World.cell?_of_block (by rw [hWh, Addr.add_lit]; exact hold2 vb hvw)
        rw [e1, Addr.add_lit]
        exact hvs j v hj)
      (fun j hj => hsp W _ (by rw [hWh]; exact hN0) _ (by rw [hRl]; rw [hvl] at hj; have := hmul (i + m) G (by omega); rw [Nat.add_mul] at this; omega)) (fun j hj => hfz W _ (by rw [hWh]; exact hN0) _) h1v
  have hG63 : G ≤ 9223372036854775807 := hGm
  have hGi : ¬ (G = i) := by omega
  have hGim : ¬ (G = i + m) := by omega
  have hci : ¬ (c = i) := by omega
  have hbN : b ≠ w.heap.size := by omega
  have hdl : (xs.drop (i * 6)).length = (n - i) * 6 := by rw [List.length_drop, hcl, Nat.sub_mul]
  have hN1 : ∀ W : World, W.heap = W1.heap → (W.setCells w.heap.size (i * 6) ys).heap[w.heap.size]? = some (.cells (setR ROW (i * 6) ys) 54 (0, 0)) := fun W hW => setCells_blk _ _ _ _ (by rw [hW]; exact hN0)
  have hcpB : ∀ (W W2 : World), W.heap = W1.heap → W2.heap = (W.setCells w.heap.size (i * 6) ys).heap → ∀ ty dc sc, (Builtin.copy_ #[43, 43] ty #[.slice (some ⟨w.heap.size, (i + m) * 6, none⟩) (n + m - (i + m)) dc, .slice (some ⟨b, i * 6, none⟩) (n - i) sc]).run Tryz.prog W2 = .ok (goInt ((n - i : Nat) : Int)) (W2.setCells w.heap.size ((i + m) * 6) (xs.drop (i * 6))) := fun W W2 hWh hW2 ty dc sc =>
    run_copy_s W2 _ _ ty 54 6 w.heap.size ((i + m) * 6) (n + m - (i + m)) dc ⟨b, i * 6, none⟩ (n - i) sc (xs.drop (i * 6)) (n - i) insNd_und hsz (by simp only [Nat.min_def]; split <;> omega) hdl
      (fun j v hj => by
        have hbS : b < W.heap.size := by rw [hWh, hW1]; show b < (w.heap.push _).size; simp; omega
        have e1 : W2.heap[b]? = w.heap[b]? := by rw [hW2, World.heap_setCells_other W w.heap.size _ _ hbS hbN, hWh]; exact hold2 b hbw
        rw [Addr.add_lit, cell_of_row W2 b _ cur 54 (0, 0) (by rw [e1]; exact hg)]
        rw [List.getElem?_drop, ← htk, List.getElem?_take] at hj
        split at hj
        · rw [← Array.getElem?_toList]; exact hj
        · cases hj)
      (fun j hj => hsp W2 _ (by rw [hW2]; exact hN1 W hWh) _ (by rw [setR_size, hRl]; rw [hdl, Nat.sub_mul] at hj; have := hmul (n + m) G hGn; rw [Nat.add_mul] at this; have := hmul i n (by omega); rw [Nat.add_mul]; omega)) (fun j hj => hfz W2 _ (by rw [hW2]; exact hN1 W hWh) _) (fun v hv => h1c v (List.mem_of_mem_drop hv))
  have hw1 : IntKind.i64.wrap ((i : Int) + (m : Int)) = (i : Int) + (m : Int) := by rw [IntKind.wrap_i64]; omega
  have hb1 : (0 : Int) ≤ (i : Int) + (m : Int) := by omega
  have hin : i ≤ n := by omega
  have htn : ((i : Int) + (m : Int)).toNat = i + m := by omega
  have hb3 : (i : Int) ≤ (n : Int) := by omega
  refine ⟨G, ROW, (w.alloc (.cells ROW 54)).drew, hGn, hGm, hRl, hRt, rfl, rfl, rfl, rfl, Nat.le_succ _, ?_⟩
  subst hW1
  have hE : ((w.alloc (.cells ROW 54)).drew).heap = (w.drew.alloc (.cells ROW 54)).heap := rfl
  have hF : (((w.alloc (.cells ROW 54)).drew.setCells w.heap.size (i * 6) ys).drew).heap = ((w.alloc (.cells ROW 54)).drew.setCells w.heap.size (i * 6) ys).heap := rfl
  clear hkk hik hold hROW hG hRl hRt hN0 hN1 hold2 hfz hsp hmul hget hg htk hcs h1c hcl htl
  go_enter Tryz.func198, Tryz.ntmps198
  go_wp2_with (first
    | (at_builtin; refine Lib.wpList_append_run _ rfl _ _ _ _ rfl _ _ rfl rfl _ _ (hrz _) ?_)
    | (at_builtin; refine wpList_copy_run _ rfl _ _ 43 42 rfl _ _ rfl rfl (hcpA _ hE _ _) ?_))
  go_region_law_o (refine step_copy_run rfl _ _ 43 43 rfl (.slice (some ⟨w.heap.size, (i + m) * 6, none⟩) (n + m - (i + m)) (G - (i + m))) (.slice (some ⟨b, i * 6, none⟩) (n - i) (c - i)) (by simp [Act.eval, Act.put]) (by simp [Act.eval, Act.put]) (hcpB _ _ hE hF 3 (G - (i + m)) (c - i)) ?_)
  go_wp2
  go_ret
  exact ⟨rfl, rfl⟩
theorem insNd (L Y : List (List AV)) (i : Nat) (hi : i ≤ L.length) (hY : 0 < Y.length) (hf : ∀ y ∈ Y, ∀ z ∈ y, z.flat) (hbig : (L.length + Y.length) * 48 ≤ 140737488355328) :
    FnU Tryz.prog 198 54 6 (.sl 6 L) [.int i, .sl 6 Y] true (.sl 6 (L.take i ++ (Y ++ L.drop i))) := by
  refine ⟨Tryz.call198, ?_⟩
  intro w ok B okc v0 cargs hrow hokc hok hB hgl hsz hargs
  have h0 := hargs 0 (by simp)
  have h1 := hargs 1 (by simp)
  obtain ⟨vy, hc0, hvy⟩ : ∃ vy, cargs = #[.int .i64 i, vy] ∧ RV w ok (.sl 6 Y) vy := by
    have hsz2 : cargs.size = 2 := by simpa using hsz
    obtain ⟨l⟩ := cargs
    match l, hsz2 with
    | [a, b], _ =>
      have e0 : a = .int .i64 i := RV.lit_iff.1 (by simpa using h0)
      exact ⟨b, by rw [e0], by simpa using h1⟩
  subst hc0
  clear hargs h0 h1 hsz
  obtain ⟨vb, vo, vc, ys, rfl, hvok, hvlt, hvc, hvcm, hys, hycell⟩ := cells_flat (okc := okc) hvy hf hY
  have hvb := (hok vb hvok).1
  obtain ⟨L', xs, e1, hs, hL, ho, hone, hv⟩ := hrow
  injection e1 with _ e1
  subst e1
  have hC : CellsOf w okc 6 L xs := ⟨ho.1, hL, hone, hv⟩
  by_cases hin : i = L.length
  · subst hin
    obtain ⟨i0, hi0, hz0, hzs, hzb⟩ : ∃ i0, Tryz.prog.info? 54 = some i0 ∧ i0.zero = some (.agg #[.int .i64 0, .int .i64 0, .int .i64 0, .int .i64 0, .int .i64 0, .int .i64 0]) ∧ i0.size = 6 ∧ i0.bytes = 48 := by
      have := insNd_info
      cases hq : Tryz.prog.info? 54 with
      | none => rw [hq] at this; cases this
      | some i0 => rw [hq] at this; simp at this; exact ⟨i0, rfl, this.1, this.2.1, this.2.2⟩
    obtain ⟨v', w', hrun, h2, h3, _, h5⟩ := run_append_own_at (P := Tryz.prog) w B 43 42 54 i0 _ 6 48 insNd_und hi0 hz0 hzs hzb (by simp [Value.cells]) hs v0 L.length xs ho ⟨vb, vo, none⟩ Y.length vc ys hys.len (fun j u hj => by rw [Addr.add_lit]; exact hycell j u hj) hys.one (by unfold maxLen; omega) hbig hB
    have hform : ∃ A c, v0 = .slice A L.length c ∧ L.length ≤ c ∧ c ≤ maxLen := by
      rcases ho.2 with ⟨rfl, hn0⟩ | ⟨g, cap, cur, rfl, _, _, hnc, hm, _⟩
      · exact ⟨none, 0, by rw [hn0], by omega, by unfold maxLen; omega⟩
      · exact ⟨_, _, rfl, hnc, hm⟩
    obtain ⟨A, c, rfl, hnc, hcm⟩ := hform
    refine (insNd_end A L.length c vb vo Y.length vc hY hnc hcm w w' v' hrun).mono ?_
    rintro e W ⟨rfl, rfl⟩
    have hC2 : CellsOf W okc 6 (L ++ Y) (xs ++ ys) := (hC.app hys).mono fun b hb hlt => ⟨hb, h3.block b hlt fun e => (hokc b hb).1 e.symm⟩
    refine ⟨v', rfl, h3, ?_, by simp, fun g hg => ?_, run_drawn _ hrun⟩
    · rw [List.take_length, List.drop_length, List.append_nil]
      exact ⟨_, _, rfl, hs, hC2.each, by rw [List.length_append]; exact h2, hC2.one, hC2.val⟩
    · rcases h5 with q | q
      · left; rw [← q]; exact hg
      · right; rw [q] at hg; injection hg with hg; omega
  have hlt : i < L.length := by omega
  rcases ho.2 with ⟨rfl, hn0⟩ | ⟨g, cap, cur, rfl, hBg, hg, hnc, hm, hcs, htk⟩
  · omega
  have hvg : vb ≠ g := fun e => hvb (by rw [e]; rfl)
  have hlen : (L.take i ++ (Y ++ L.drop i)).length = L.length + Y.length := by simp; omega
  have hC2 : CellsOf w okc 6 (L.take i ++ (Y ++ L.drop i)) (xs.take (i * 6) ++ (ys ++ xs.drop (i * 6))) := (hC.take i hi).app (hys.app (hC.drop i))
  have hmul : ∀ a b : Nat, a ≤ b → a * 6 ≤ b * 6 := fun a b h => Nat.mul_le_mul_right _ h
  have his := hmul i L.length hi
  have hxt : (xs.take (i * 6)).length = i * 6 := by rw [List.length_take, ho.1]; omega
  have hxd : (xs.drop (i * 6)).length = (L.length - i) * 6 := by rw [List.length_drop, ho.1, Nat.sub_mul]
  -- what the two writes leave
  have key : ∀ (cap' : Nat) (C : Array Value), C.size = cap' * 6 → L.length + Y.length ≤ cap' → C.toList.take (i * 6) = xs.take (i * 6) →
      (setR (setR C (i * 6) ys) ((i + Y.length) * 6) (xs.drop (i * 6))).toList.take ((L.length + Y.length) * 6) = xs.take (i * 6) ++ (ys ++ xs.drop (i * 6)) := by
    intro cap' C hCs hcap hCt
    have q0 := hmul (L.length + Y.length) cap' hcap
    rw [Nat.add_mul] at q0
    have q2 : (L.length - i) * 6 = L.length * 6 - i * 6 := Nat.sub_mul _ _ _
    rw [setR_list _ _ _ (by rw [setR_size, hCs, hxd, Nat.add_mul]; omega), setR_list _ _ _ (by rw [hCs, hys.len]; omega), hCt, hys.len, Nat.add_mul i Y.length]
    have e1 : ((xs.take (i * 6) ++ ys ++ C.toList.drop (i * 6 + Y.length * 6)).take (i * 6 + Y.length * 6)) = xs.take (i * 6) ++ ys := List.take_left' (by rw [List.length_append, hxt, hys.len])
    rw [e1, List.append_assoc (xs.take (i * 6)) ys]
    exact List.take_left' (by rw [List.length_append, List.length_append, hxt, hys.len, hxd, Nat.add_mul]; omega)
  have key2 : ∀ (cap' : Nat) (C : Array Value), C.size = cap' * 6 → L.length + Y.length ≤ cap' → C.toList.take (i * 6) = xs.take (i * 6) →
      (setR (setR C ((i + Y.length) * 6) (xs.drop (i * 6))) (i * 6) ys).toList.take ((L.length + Y.length) * 6) = xs.take (i * 6) ++ (ys ++ xs.drop (i * 6)) := by
    intro cap' C hCs hcap hCt
    have q0 := hmul (L.length + Y.length) cap' hcap
    rw [Nat.add_mul] at q0
    have q2 : (L.length - i) * 6 = L.length * 6 - i * 6 := Nat.sub_mul _ _ _
    rw [setR_list _ _ _ (by rw [setR_size, hCs, hys.len]; omega), setR_list _ _ _ (by rw [hCs, hxd, Nat.add_mul]; omega), hys.len, Nat.add_mul i Y.length]
    have hl1 : (C.toList.take (i * 6 + Y.length * 6)).length = i * 6 + Y.length * 6 := by rw [List.length_take, show C.toList.length = C.size from Array.length_toList, hCs]; omega
    have e1 : (C.toList.take (i * 6 + Y.length * 6) ++ xs.drop (i * 6) ++ C.toList.drop (i * 6 + Y.length * 6 + (xs.drop (i * 6)).length)).take (i * 6) = xs.take (i * 6) := by
      rw [List.append_assoc, List.take_append_of_le_length (by rw [hl1]; omega), List.take_take, Nat.min_eq_left (by omega), hCt]
    have e2 : (C.toList.take (i * 6 + Y.length * 6) ++ xs.drop (i * 6) ++ C.toList.drop (i * 6 + Y.length * 6 + (xs.drop (i * 6)).length)).drop (i * 6 + Y.length * 6) = xs.drop (i * 6) ++ C.toList.drop (i * 6 + Y.length * 6 + (xs.drop (i * 6)).length) := by
      rw [List.append_assoc]; exact List.drop_left' hl1
    rw [e1, e2, List.append_assoc (xs.take (i * 6)) ys, ← List.append_assoc ys, ← List.append_assoc (xs.take (i * 6))]
    exact List.take_left' (by rw [List.length_append, List.length_append, hxt, hys.len, hxd, Nat.add_mul]; omega)
  have hct : cur.toList.take (i * 6) = xs.take (i * 6) := by rw [← htk, List.take_take, Nat.min_eq_left his]
  by_cases hroom : L.length + Y.length ≤ cap
  · refine (insNd_shift g L.length cap i vb vo Y.length vc xs ys cur w hlt hY hroom hm hvg ho.1 hys.len hg hcs htk hycell hone hys.one).mono ?_
    rintro e w' ⟨rfl, rfl⟩
    have hg2 : ((w.drew.setCells g ((i + Y.length) * 6) (xs.drop (i * 6))).setCells g (i * 6) ys).heap[g]? = some (.cells (setR (setR cur ((i + Y.length) * 6) (xs.drop (i * 6))) (i * 6) ys) 54 (0, 0)) := setCells_blk _ _ _ _ (setCells_blk _ _ _ _ hg)
    have hgr : w.grownBy ((w.drew.setCells g ((i + Y.length) * 6) (xs.drop (i * 6))).setCells g (i * 6) ys) (some g) := grownBy_trans (grownBy_drew w (some g)) (grownBy_trans (grown_setCells _ _ _ _) (grown_setCells _ _ _ _))
    refine ⟨_, rfl, hgr, ?_, by simp, fun g' hg' => .inl hg', by rw [setCells_drawn, setCells_drawn]; exact Nat.le_succ _⟩
    have hC3 := hC2.mono (w' := (w.drew.setCells g ((i + Y.length) * 6) (xs.drop (i * 6))).setCells g (i * 6) ys) (okc' := okc) fun b hb hlt => ⟨hb, hgr.block b hlt fun e => (hokc b hb).1 e.symm⟩
    rw [← hlen]
    exact hC3.row hs hBg hg2 hm (by rw [setR_size, setR_size]; exact hcs) (by rw [hlen]; exact hroom) (by rw [hlen]; exact key2 cap cur hcs hroom hct)
  · obtain ⟨G, ROW, W, hGn, hGm, hRs, hRt, hWh, hWo, hWt, hWp, hWd, hcall⟩ := insNd_grow g L.length cap i vb vo Y.length vc xs ys cur w hlt hY hnc (by omega) hbig ho.1 hys.len hg hcs htk hycell hone hys.one
    refine hcall.mono ?_
    rintro e w' ⟨rfl, rfl⟩
    have hWs : W.heap.size = w.heap.size + 1 := by rw [hWh]; show (w.heap.push _).size = _; simp
    have hW0 : W.heap[w.heap.size]? = some (.cells ROW 54 (0, 0)) := by rw [hWh]; show (w.heap.push _)[w.heap.size]? = _; simp
    have hg2 : (((W.setCells w.heap.size (i * 6) ys).drew).setCells w.heap.size ((i + Y.length) * 6) (xs.drop (i * 6))).heap[w.heap.size]? = some (.cells (setR (setR ROW (i * 6) ys) ((i + Y.length) * 6) (xs.drop (i * 6))) 54 (0, 0)) := setCells_blk _ _ _ _ (setCells_blk _ _ _ _ hW0)
    have hgW : W.grownBy (((W.setCells w.heap.size (i * 6) ys).drew).setCells w.heap.size ((i + Y.length) * 6) (xs.drop (i * 6))) (some w.heap.size) := grownBy_trans (grown_setCells _ _ _ _) (grownBy_trans (grownBy_drew _ _) (grown_setCells _ _ _ _))
    have hblk : ∀ k, k < w.heap.size → (((W.setCells w.heap.size (i * 6) ys).drew).setCells w.heap.size ((i + Y.length) * 6) (xs.drop (i * 6))).heap[k]? = w.heap[k]? := fun k hk => by
      rw [hgW.block k (by omega) (fun e => by injection e with e; omega), hWh]
      show (w.heap.push _)[k]? = _
      rw [Array.getElem?_push, if_neg (by omega)]
    refine ⟨_, rfl, ⟨hgW.os.trans hWo, hgW.tape.trans hWt, hgW.output.trans hWp, Nat.le_trans (by omega) hgW.size, fun k hk _ => hblk k hk⟩, ?_, by simp, fun g' hg' => .inr (by have e : w.heap.size = g' := (by injection hg'); omega), by rw [setCells_drawn]; show w.drawn ≤ (W.setCells w.heap.size _ ys).drawn + 1; rw [setCells_drawn]; omega⟩
    have hC3 := hC2.mono (w' := ((W.setCells w.heap.size (i * 6) ys).drew).setCells w.heap.size ((i + Y.length) * 6) (xs.drop (i * 6))) (okc' := okc) fun b hb hlt => ⟨hb, hblk b hlt⟩
    rw [← hlen]
    exact hC3.row hs hB hg2 hGm (by rw [setR_size, setR_size]; exact hRs) (by rw [hlen]; exact hGn) (by rw [hlen]; exact key G ROW hRs hGn hRt)
end Go.Proofs.YtcifjnhpgblnkaaGreatDoor
/- slices.Grow of nil at nodes of tubes; slices.Concat of three tubes. -/
namespace Go.Proofs.YtcifjnhpgblnkaaGreatDoor
open Go.RowKit Go.Lib
set_option linter.unusedVariables false
set_option linter.unusedSimpArgs false
set_option maxRecDepth 100000
theorem rowsApart_row {v : Value} {e s : Nat} {f : Bool} : RowsApart v (.row e s f) := fun j i j' i' hr hr' hne => by
  have hl : ∀ j i, isRow (leafSh j i (.row e s f)) = true → j = 0 ∧ i = 0 := fun j i h => by
    cases j with
    | zero => cases i with
      | zero => exact ⟨rfl, rfl⟩
      | succ i => cases h
    | succ j => cases i <;> cases h
  obtain ⟨rfl, rfl⟩ := hl j i hr
  obtain ⟨rfl, rfl⟩ := hl j' i' hr'
  exact absurd rfl (hne.elim id id)
theorem grow_fn (n : Nat) (hn : n ≤ 100000) : Fn Tryz.prog 135 [.lit (.slice none 0 0), .int (n : Nat)] (.row 54 6 true) (.sl 6 []) := by
  refine ⟨Tryz.call135, fun w ok cargs hok hgl hsz hargs => ?_⟩
  have mixed : Tryz.prog.follows .mixedOrders = true := by kernel_rfl
  obtain ⟨i0, hi0, hz0, hzs, hzb⟩ : ∃ i0, Tryz.prog.info? 54 = some i0 ∧ i0.zero = some (.agg #[.int .i64 0, .int .i64 0, .int .i64 0, .int .i64 0, .int .i64 0, .int .i64 0]) ∧ i0.size = 6 ∧ i0.bytes = 48 := by
    have := insNd_info
    cases hq : Tryz.prog.info? 54 with
    | none => rw [hq] at this; cases this
    | some i0 => rw [hq] at this; simp at this; exact ⟨i0, rfl, this.1, this.2.1, this.2.2⟩
  obtain rfl : cargs = #[.slice none 0 0, .int .i64 (n : Nat)] := by
    obtain ⟨l⟩ := cargs
    match l, hsz with
    | [a, b], _ =>
      have h0 := hargs 0 (by simp)
      have h1 := hargs 1 (by simp)
      have e0 : a = .slice none 0 0 := RV.lit_iff.1 (by simpa using h0)
      have e1 : b = .int .i64 (n : Nat) := RV.lit_iff.1 (by simpa using h1)
      rw [e0, e1]
  have hnn : ¬ ((n : Int) < 0) := by omega
  have hw0 : IntKind.i64.wrap 0 = 0 := by decide
  have hwn : IntKind.i64.wrap (n : Int) = (n : Int) := by rw [IntKind.wrap_i64]; omega
  clear hargs hsz
  have hsz : (Tryz.prog.info? 54).map (·.size) = some 6 := by kernel_rfl
  rcases Nat.eq_zero_or_pos n with rfl | hpos
  · go_enter Tryz.func135, Tryz.ntmps135
    go_wp2_with fail
    refine ⟨rfl, _, results_tmp rfl _ _ _, _, rfl, Below.refl _ _, ⟨[], [], rfl, by omega, by simp, ⟨rfl, .inl ⟨rfl, rfl⟩⟩, by simp, fun i j hi => by simp at hi⟩, rowsApart_row, Nat.le_refl _⟩
  · have hgt : (0 : Int) < n := by omega
    have hrz : ∀ ty, (Builtin.append_ #[43, 3] ty #[.slice none 0 0, .int .i64 (n : Nat)]).run Tryz.prog w =
      .ok (.slice (some ⟨w.heap.size, 0, none⟩) n (grownCap w n 0 54)) (w.drew.alloc (.cells (Builtin.zeroCells (.agg #[.int .i64 0, .int .i64 0, .int .i64 0, .int .i64 0, .int .i64 0, .int .i64 0] : Value).cells n ++ Builtin.zeroCells (.agg #[.int .i64 0, .int .i64 0, .int .i64 0, .int .i64 0, .int .i64 0, .int .i64 0] : Value).cells (grownCap w n 0 54 - n)) 54)) := fun ty =>
      Lib.run_append_nil_zeros w 43 3 ty 54 i0 _ .i64 .i64 insNd_und (by kernel_rfl) hi0 hz0 n hpos (by omega) (by omega) (by rw [hzb]; omega)
    obtain ⟨G, hG⟩ : ∃ G, G = grownCap w n 0 54 := ⟨_, rfl⟩
    have hGn : n ≤ G := by rw [hG]; exact grownCap_ge w _ _ _
    have hGm : G ≤ maxLen := by rw [hG]; exact grownCap_le_maxLen w n 0 54 (by unfold maxLen; omega)
    rw [← hG] at hrz
    obtain ⟨ROW, hROW⟩ : ∃ ROW : Array Value, ROW = Builtin.zeroCells (.agg #[.int .i64 0, .int .i64 0, .int .i64 0, .int .i64 0, .int .i64 0, .int .i64 0] : Value).cells n ++ Builtin.zeroCells (.agg #[.int .i64 0, .int .i64 0, .int .i64 0, .int .i64 0, .int .i64 0, .int .i64 0] : Value).cells (G - n) := ⟨_, rfl⟩
    rw [← hROW] at hrz
    have hRl : ROW.size = G * 6 := by
      rw [hROW]
      simp only [Array.size_append, Builtin.zeroCells, Value.cells, Array.size_map, Array.size_range]
      show n * 6 + (G - n) * 6 = G * 6
      rw [← Nat.add_mul]; congr 1; omega
    have hG0 : (0 : Int) ≤ G := by omega
    clear hROW hG
    go_enter Tryz.func135, Tryz.ntmps135
    go_wp2_with (at_builtin; refine Lib.wpList_append_run _ rfl _ _ _ _ rfl _ _ rfl rfl _ _ (hrz _) ?_)
    refine ⟨rfl, _, results_tmp rfl _ _ _, _, rfl, ?_, ⟨[], [], rfl, by omega, by simp, ⟨rfl, .inr ⟨w.heap.size, G, ROW, rfl, Nat.le_refl _, ?_, by simp, hGm, hRl, by simp⟩⟩, by simp, fun i j hi => by simp at hi⟩, rowsApart_row, Nat.le_succ _⟩
    · exact Below.alloc (Below.drew (Below.refl _ _)) (Nat.le_refl _) _
    · show (w.heap.push _)[w.heap.size]? = _
      simp
end Go.Proofs.YtcifjnhpgblnkaaGreatDoor
/- slices.Delete at api.ConfigGroup. -/
namespace Go.Proofs.YtcifjnhpgblnkaaGreatDoor
open Go.RowKit Go.Lib
set_option linter.unusedVariables false
set_option maxRecDepth 1000000
set_option maxHeartbeats 4000000
theorem delCg_zero (w : World) : (zeroValue 136).run Tryz.prog w = .ok (.agg #[.string ByteArray.empty, .slice none 0 0]) w := by kernel_rfl
theorem delCg_info : (Tryz.prog.info? 136).map (fun i => (i.size, i.bytes)) = some (Tryz.prog.cellsOf 136, Tryz.prog.bytesOf 136) := by kernel_rfl
theorem delCg_cells : Tryz.prog.cellsOf 136 = 2 := by kernel_rfl
theorem delCg_same (a : Value) (ha : ∃ A n c, a = .slice A n c ∧ n ≤ c ∧ c ≤ maxLen) (i n c : Nat) (A : Option Addr) (e1 : a = .slice A n c) (hi : i ≤ n) (hnc : n ≤ c) (hc : c ≤ maxLen) (w : World) :
    Calls Tryz.prog 85 #[.slice A n c, .int .i64 i, .int .i64 i] w fun e w' => e = .returned (.slice A n c) ∧ w' = w := by
  unfold maxLen at hc
  go_enter Tryz.func85, Tryz.ntmps85
  go_wp2
  all_goals (go_ret; exact ⟨rfl, rfl⟩)
theorem delCg (L : List (List AV)) (i j : Nat) (hij : i ≤ j) (hj : j ≤ L.length) : FnU Tryz.prog 85 136 2 (.sl 2 L) [.int i, .int j] true (.sl 2 (L.take i ++ L.drop j)) := by
  refine ⟨Tryz.call85, ?_⟩
  intro w ok B okc v0 cargs hrow hokc hok hB hgl hsz hargs
  have h0 := hargs 0 (by simp)
  have h1 := hargs 1 (by simp)
  have hc0 : cargs = #[.int .i64 i, .int .i64 j] := by
    have hsz2 : cargs.size = 2 := by simpa using hsz
    obtain ⟨l⟩ := cargs
    match l, hsz2 with
    | [a, b], _ =>
      have e0 : a = .int .i64 i := RV.lit_iff.1 (by simpa using h0)
      have e1 : b = .int .i64 j := RV.lit_iff.1 (by simpa using h1)
      rw [e0, e1]
  subst hc0
  clear hargs h0 h1 hsz
  obtain ⟨L', xs, e1, hs, hL, ho, hone, hv⟩ := hrow
  injection e1 with _ e1
  subst e1
  have hxl := ho.1
  rcases ho.2 with ⟨rfl, hn0⟩ | ⟨g, cap, cur, rfl, hBg, hg, hnc, hm, hcs, htk⟩
  · have hL0 : L = [] := List.length_eq_zero_iff.1 hn0
    subst hL0
    obtain rfl : j = 0 := by simpa using hj
    obtain rfl : i = 0 := by omega
    refine (delCg_same _ ⟨none, 0, 0, rfl, by omega, by unfold maxLen; omega⟩ 0 0 0 none rfl (by omega) (by omega) (by unfold maxLen; omega) w).mono ?_
    rintro e w' ⟨rfl, rfl⟩
    exact ⟨_, rfl, grownBy_refl _ _, ⟨_, xs, rfl, hs, by simp, ⟨by simpa using hxl, .inl ⟨rfl, rfl⟩⟩, hone, by simp⟩, by simp, fun g hg => (by cases hg), Nat.le_refl _⟩
  by_cases heq : i = j
  · subst heq
    refine (delCg_same _ ⟨_, _, _, rfl, hnc, hm⟩ i _ _ _ rfl hj hnc hm w).mono ?_
    rintro e w' ⟨rfl, rfl⟩
    refine ⟨_, rfl, grownBy_refl _ _, ?_, by simp, fun g hg => .inl hg, Nat.le_refl _⟩
    rw [List.take_append_drop]
    exact ⟨L, xs, rfl, hs, hL, ho, hone, hv⟩
  have hlt : i < j := by omega
  obtain ⟨news, hnews⟩ : ∃ news, news = xs.drop (j * 2) := ⟨_, rfl⟩
  have hlen : news.length = (L.length - j) * 2 := by rw [hnews, List.length_drop, hxl, Nat.sub_mul]
  have hget : ∀ t, t < (L.length - j) * 2 → news[t]? = cur[j * 2 + t]? := by
    intro t ht
    rw [hnews, List.getElem?_drop, ← htk, List.getElem?_take, if_pos (by rw [Nat.sub_mul] at ht; omega), Array.getElem?_toList]
  have hone' : ∀ u ∈ news, u.oneCell' = true := fun u hu => hone u (List.mem_of_mem_drop (hnews ▸ hu))
  have hcell : ∀ (W : World), W.heap = w.heap → ∀ k, W.cell? ⟨g, k, none⟩ = cur[k]? := fun W hW k => cell_of_row W g k cur 136 (0, 0) (by rw [hW]; exact hg)
  have hfroz : ∀ (W : World) (cs : Array Value), W.heap[g]? = some (.cells cs 136 (0, 0)) → ∀ k, W.frozen? ⟨g, k, none⟩ = false := fun W cs hW k => by simp [World.frozen?, hW]
  have hisS : ∀ (W : World) (cs : Array Value), W.heap[g]? = some (.cells cs 136 (0, 0)) → ∀ k, k < cs.size → (W.cell? ⟨g, k, none⟩).isSome = true := fun W cs hW k hk => by
    rw [cell_of_row W g k cs 136 (0, 0) hW]; simp [hk]
  obtain ⟨A, hA, hsrc⟩ : ∃ A : Addr, (if cap = j then some (⟨g, 0, none⟩ : Addr) else some ⟨g, j * 2, none⟩) = some A ∧ Hid (∀ t u, news[t]? = some u → w.drew.cell? (A.add t) = some u) := by
    by_cases h : cap = j
    · refine ⟨⟨g, 0, none⟩, by simp [h], fun t u hu => ?_⟩
      have h0 : news.length = 0 := by rw [hlen, show L.length - j = 0 by omega, Nat.zero_mul]
      rw [List.length_eq_zero_iff.1 h0] at hu
      simp at hu
    · refine ⟨⟨g, j * 2, none⟩, by simp [h], fun t u hu => ?_⟩
      have ht : t < (L.length - j) * 2 := by
        have := (List.getElem?_eq_some_iff.1 hu).1
        rwa [hlen] at this
      rw [hget t ht] at hu
      rw [Addr.add_lit]
      exact (hcell w.drew rfl _).trans hu
  have hroom : i * 2 + (L.length - j) * 2 ≤ cap * 2 := by rw [← Nat.add_mul]; exact Nat.mul_le_mul_right _ (by omega)
  have s1 : Hid (news.length = (L.length - j) * 2) := hlen
  have s2 : Hid (∀ u ∈ news, u.oneCell' = true) := hone'
  have s3 : Hid (∀ t, t < news.length → (w.drew.cell? ⟨g, 0 + i * 2 + t, none⟩).isSome = true ∧ w.drew.frozen? ⟨g, 0 + i * 2 + t, none⟩ = false) := by
    intro t ht
    rw [hlen] at ht
    exact ⟨hisS w.drew cur hg _ (by rw [hcs]; omega), hfroz w.drew cur hg _⟩
  obtain ⟨W1, hW1⟩ : ∃ W1, W1 = w.drew.setCells g (0 + i * 2) news := ⟨_, rfl⟩
  have hg1 : W1.heap[g]? = some (.cells (setR cur (0 + i * 2) news) 136 (0, 0)) := by rw [hW1]; exact setCells_blk _ _ _ _ hg
  obtain ⟨zs, hzs⟩ : ∃ zs, zs = (Builtin.zeroCells (.agg #[.string ByteArray.empty, .slice none 0 0] : Value).cells (L.length - (i + (L.length - j)))).toList := ⟨_, rfl⟩
  have hzl : zs.length = (L.length - (i + (L.length - j))) * 2 := by rw [hzs]; simp [Builtin.zeroCells, Value.cells]
  have hroom2 : (i + (L.length - j)) * 2 + (L.length - (i + (L.length - j))) * 2 ≤ cap * 2 := by rw [← Nat.add_mul]; exact Nat.mul_le_mul_right _ (by omega)
  have hcl : ∀ ty, (Builtin.clear_ #[82] ty #[.slice (some ⟨g, (i + (L.length - j)) * 2, none⟩) (L.length - (i + (L.length - j))) (cap - (i + (L.length - j)))]).run Tryz.prog W1 = .ok (.tuple #[]) (W1.setCells g ((i + (L.length - j)) * 2) zs) := by
    intro ty
    rw [hzs]
    refine run_clear W1 _ _ ty _ (by kernel_rfl) delCg_zero (by simp [Value.cells]) (by simp [Value.cells, Value.oneCell']) g _ _ _ (by omega) (fun t ht => hisS W1 _ hg1 _ ?_) (fun t ht => hfroz W1 _ hg1 _)
    rw [setR_size, hcs]
    have : t < (L.length - (i + (L.length - j))) * 2 := by simpa [Value.cells] using ht
    omega
  have hW : Hid (W1 = w.drew.setCells g (0 + i * 2) news) := hW1
  have hic : i ≤ cap := by omega
  have hjc : j ≤ cap := by omega
  have hm' : cap ≤ 9223372036854775807 := hm
  have key : Calls Tryz.prog 85 #[.slice (some ⟨g, 0, none⟩) L.length cap, .int .i64 i, .int .i64 j] w fun e w' => e = .returned (.slice (some ⟨g, 0, none⟩) (i + (L.length - j)) cap) ∧ w' = W1.setCells g ((i + (L.length - j)) * 2) zs := by
    obtain ⟨i0, hi0, hz1⟩ : ∃ i0, Tryz.prog.info? 136 = some i0 ∧ i0.size = 2 := by
      have := delCg_info
      cases hq : Tryz.prog.info? 136 with
      | none => rw [hq] at this; cases this
      | some i0 => rw [hq, delCg_cells] at this; simp at this; exact ⟨i0, rfl, this.1⟩
    have mixed : Tryz.prog.follows .mixedOrders = true := by kernel_rfl
    have hA' : (if cap = j then some (⟨g, 0, none⟩ : Addr) else some ⟨g, j * 2, none⟩) = some A := by simpa using hA
    have hcl' : ∀ ty, (Builtin.clear_ #[82] ty #[.slice (some ⟨g, (i + (L.length - j)) * 2, none⟩) (L.length - (i + (L.length - j))) (cap - (i + (L.length - j)))]).run Tryz.prog W1 = .ok (.tuple #[]) (W1.setCells g ((i + (L.length - j)) * 2) zs) := by simpa using hcl
    clear hA hcl
    have ht2 : Tryz.prog.underlying 82 = some (.slice 136) := by kernel_rfl
    clear hv hone hxl ho htk hcell hget hnews hone' hroom hroom2 hzl hzs hlen hg1 hW1 hfroz hisS hg hL hokc hok
    go_enter Tryz.func85, Tryz.ntmps85
    go_wp2_with fail
    go_region_law_o (refine step_append_room rfl (.tmp 22) (.tmp 25) 82 rfl 136 i0 2 ht2 hi0 hz1 g 0 i cap (by simp [Act.eval, Act.put]) A (L.length - j) (cap - j) news (by simp [Act.eval, Act.put]) s1.out hsrc.out s2.out (by omega) s3.out ?_; rw [← hW.out])
    go_wp2
    go_ret
    exact ⟨rfl, by simp⟩
  refine key.mono ?_
  rintro e w' ⟨rfl, rfl⟩
  have hg2 : (W1.setCells g ((i + (L.length - j)) * 2) zs).heap[g]? = some (.cells (setR (setR cur (0 + i * 2) news) ((i + (L.length - j)) * 2) zs) 136 (0, 0)) := setCells_blk _ _ _ _ hg1
  have hgr : w.grownBy (W1.setCells g ((i + (L.length - j)) * 2) zs) (some g) := by
    refine grownBy_trans (grownBy_drew w (some g)) (grownBy_trans ?_ (grown_setCells _ _ _ _))
    rw [hW1]; exact grown_setCells _ _ _ _
  refine ⟨_, rfl, hgr, ?_, by simp, fun g' hg' => .inl hg', by rw [setCells_drawn, hW1, setCells_drawn]; exact Nat.le_succ _⟩
  refine del_row i j hs hL hxl hone hv hij hj hBg hg2 hm (by rw [setR_size, setR_size]; exact hcs) hnc ?_ (fun b hb hlt => hgr.block b hlt fun e => (hokc b hb).1 e.symm)
  rw [setR_list _ _ _ (by rw [setR_size, hcs, hzl]; exact hroom2), setR_list _ _ _ (by rw [hcs, hlen]; omega), Nat.zero_add, Nat.add_mul, del_list _ _ _ _ _ (by rw [Array.length_toList, hcs]; omega) hlen, hnews]
  congr 1
  rw [← htk, List.take_take, Nat.min_eq_left (Nat.mul_le_mul_right _ (by omega))]
end Go.Proofs.YtcifjnhpgblnkaaGreatDoor
/- slices.Delete at api.ReadbackOpen. -/
namespace Go.Proofs.YtcifjnhpgblnkaaGreatDoor
open Go.RowKit Go.Lib
set_option linter.unusedVariables false
set_option maxRecDepth 1000000
set_option maxHeartbeats 4000000
end Go.Proofs.YtcifjnhpgblnkaaGreatDoor
/- slices.Clone at positions, at strings: what the run ends in. -/
namespace Go.Proofs.YtcifjnhpgblnkaaGreatDoor
open Go.RowKit
set_option linter.unusedVariables false
set_option maxRecDepth 100000
namespace ConF
--GAMMA
def Γ : FuncId → Option Ca := fun f => some .inl
def ann : FuncId → Nat → LoopEx := fun f r => ⟨[], [], [], []⟩
--END GAMMA
theorem clg_form (x0 r : AV) : fnF Tryz.prog Γ ann 3 146 Tryz.f146 (Tryz.f146.body.getD .skip) (.nil) [x0] (.row 136 2 false) r = ((fNil x0
  (fSame (AV.mk 2 []) r)
  ((AV.isSl x0 2) ∧
  ((AV.room (AV.mk 2 []) x0 40) ∧
  (fSame (AV.app 2 (AV.mk 2 []) x0) r))))) := by kernel_rfl
theorem cls_form (x0 r : AV) : fnF Tryz.prog Γ ann 3 147 Tryz.f147 (Tryz.f147.body.getD .skip) (.nil) [x0] (.row 9 1 true) r = ((fNil x0
  ((AV.flatS (AV.mk 1 [])) ∧
  (fSame (AV.mk 1 []) r))
  ((AV.isSl x0 1) ∧
  ((AV.room (AV.mk 1 []) x0 16) ∧
  ((AV.flatS (AV.app 1 (AV.mk 1 []) x0)) ∧
  (fSame (AV.app 1 (AV.mk 1 []) x0) r)))))) := by kernel_rfl
end ConF
end Go.Proofs.YtcifjnhpgblnkaaGreatDoor
/- Positions of controllers: a copy of them, all its own. -/
namespace Go.Proofs.YtcifjnhpgblnkaaGreatDoor
open Go.RowKit Go.Shelf
set_option linter.unusedVariables false
set_option linter.unusedSimpArgs false
set_option maxRecDepth 100000
structure Cg where
  p : ByteArray
  s : List ByteArray
deriving DecidableEq
def encB1 (s : ByteArray) : List AV := [.lit (.string s)]
def bs (l : List ByteArray) : AV := lst 1 encB1 l
def encG (g : Cg) : List AV := [.lit (.string g.p), bs g.s]
def cgs (l : List Cg) : AV := lst 2 encG l
theorem bs_flat (l : List ByteArray) : (bs l).flatS := lst_flatS fun x _ z hz => by simp [encB1] at hz; rw [hz]; exact .lit _
def Small (l : List Cg) : Prop := l.length ≤ 1000000 ∧ ∀ g ∈ l, g.s.length ≤ 1000000
theorem Small.at {l : List Cg} (h : Small l) {n : Nat} {g : Cg} (hg : l[n]? = some g) : g.s.length ≤ 1000000 := h.2 g (List.mem_of_getElem? hg)
theorem clg_fn (l : List Cg) (hl : l.length ≤ 1000000) : Fn Tryz.prog 146 [cgs l] (.row 136 2 false) (cgs l) := by
  refine fn_run mixed 3 (Γ := ConF.Γ) (ann := ConF.ann) Tryz.func146 rfl Tryz.call146 ((ConF.clg_form _ _).mpr ?_)
  simp [cgs, AV.room]
  simp [lst]
  omega
theorem cls_fn (l : List ByteArray) (hl : l.length ≤ 1000000) : Fn Tryz.prog 147 [bs l] (.row 9 1 true) (bs l) := by
  refine fn_run mixed 3 (Γ := ConF.Γ) (ann := ConF.ann) Tryz.func147 rfl Tryz.call147 ((ConF.cls_form _ _).mpr ?_)
  have hf := bs_flat l
  simp [bs, AV.room] at hf ⊢
  simp [lst] at hf ⊢
  exact ⟨by omega, hf⟩
/-- What lies there in the loop: the row's cells, those that are new. -/
structure CpJ (l : List Cg) (w w1 : World) (v : Value) (okp : Nat → Prop) (k : Nat) (wr : World) (xs : List Value) : Prop where
  own : wr.ownsRow w.heap.size 136 2 v l.length xs
  one : ∀ u ∈ xs, u.oneCell' = true
  pos : ∀ i g, l[i]? = some g → xs.getD (i * 2) undef = .string g.p
  old : ∀ i g, l[i]? = some g → k ≤ i → RV wr okp (bs g.s) (xs.getD (i * 2 + 1) undef)
  new : ∀ i g, l[i]? = some g → i < k → RRow wr w1.heap.size 9 1 noBlock (bs g.s) (xs.getD (i * 2 + 1) undef)
  apart : ∀ i i' g, i < k → i' < k → i ≠ i' → (xs.getD (i * 2 + 1) undef).ownBlock = some g → (xs.getD (i' * 2 + 1) undef).ownBlock ≠ some g
  bel : Below w.heap.size w wr
  low : w1.heap.size ≤ wr.heap.size
  drw : w.drawn ≤ wr.drawn
theorem getD_set_ne {ys : List Value} {j m : Nat} (u : Value) (h : m ≠ j) : (ys.set j u).getD m undef = ys.getD m undef := by
  simp only [List.getD_eq_getElem?_getD]
  rw [List.getElem?_set_ne (fun e => h e.symm)]
theorem getD_set_eq {ys : List Value} {j : Nat} (u : Value) (h : j < ys.length) : (ys.set j u).getD j undef = u := by
  simp only [List.getD_eq_getElem?_getD]
  rw [List.getElem?_set_self h]; rfl
theorem CpJ.step {l : List Cg} {w w1 wr w2 : World} {g c k : Nat} {okp : Nat → Prop} {ys : List Value} {x : Cg} {v2 : Value} (J : CpJ l w w1 (.slice (some ⟨g, 0, none⟩) l.length c) okp k wr ys) (hokp : ∀ b, okp b → g ≠ b ∧ b < w1.heap.size) (hgw : g < w1.heap.size) (hx : l[k]? = some x)
    (hb2 : Below wr.heap.size wr w2) (hR2 : RRow w2 wr.heap.size 9 1 noBlock (bs x.s) v2) (hd2 : wr.drawn ≤ w2.drawn) : CpJ l w w1 (.slice (some ⟨g, 0, none⟩) l.length c) okp (k + 1) (w2.setCell ⟨g, k * 2 + 1, none⟩ v2) (ys.set (k * 2 + 1) v2) := by
  have hk : k < l.length := (List.getElem?_eq_some_iff.1 hx).1
  have hyl : ys.length = l.length * 2 := J.own.1
  have hgr : g < wr.heap.size := Nat.lt_of_lt_of_le hgw J.low
  have hBg : w.heap.size ≤ g := (World.ownsRow.lt J.own g rfl).1
  have hown2 : w2.ownsRow w.heap.size 136 2 (.slice (some ⟨g, 0, none⟩) l.length c) l.length ys := ownsRow_keep J.own fun b hb => by
    injection hb with hb
    subst hb
    exact hb2.block _ hgr
  obtain ⟨s1, s2⟩ := hown2.stored (k * 2 + 1) v2
  have hother : ∀ b, b ≠ g → (w2.setCell ⟨g, k * 2 + 1, none⟩ v2).heap[b]? = w2.heap[b]? := fun b hb => heap_setCell_other w2 ⟨g, k * 2 + 1, none⟩ b v2 hb
  have hsz : (w2.setCell ⟨g, k * 2 + 1, none⟩ v2).heap.size = w2.heap.size := by simp [World.setCell]
  have hlow := J.low
  have hnewge : ∀ i y b, l[i]? = some y → i < k → (ys.getD (i * 2 + 1) undef).ownBlock = some b → w1.heap.size ≤ b ∧ b < wr.heap.size := fun i y b hy hi hb => (J.new i y hy hi).lt hb
  refine ⟨s1, fun u hu => ?_, fun i y hy => ?_, fun i y hy hi => ?_, fun i y hy hi => ?_, fun i i' b hi hi' hne hb => ?_, ?_, ?_, ?_⟩
  · rcases List.mem_or_eq_of_mem_set hu with q | q
    · exact J.one u q
    · rw [q]; obtain ⟨A, n, c', rfl, _⟩ := hR2.form; rfl
  · rw [getD_set_ne _ (by omega)]; exact J.pos i y hy
  · rw [getD_set_ne _ (by omega)]
    refine (J.old i y hy (by omega)).mono fun b hb _ => ⟨hb, ?_⟩
    obtain ⟨q1, q2⟩ := hokp b hb
    rw [hother b (fun e => q1 e.symm)]
    exact hb2.block b (by omega)
  · by_cases q : i = k
    · subst q
      have : x = y := by rw [hx] at hy; injection hy
      subst this
      rw [getD_set_eq _ (by omega)]
      refine (hR2.keep (fun b hb => ?_) (fun b hb => hb.elim)).base hlow
      have := (hR2.lt hb).1
      exact hother b (by omega)
    · rw [getD_set_ne _ (by omega)]
      refine (J.new i y hy (by omega)).keep (fun b hb => ?_) (fun b hb => hb.elim)
      have := hnewge i y b hy (by omega) hb
      rw [hother b (by omega)]
      exact hb2.block b (by omega)
  · have hge : ∀ m, m < k → ∀ b, (ys.getD (m * 2 + 1) undef).ownBlock = some b → b < wr.heap.size := fun m hm b hb => by
      obtain ⟨y, hy⟩ : ∃ y, l[m]? = some y := ⟨_, List.getElem?_eq_getElem (by omega)⟩
      exact (hnewge m y b hy hm hb).2
    by_cases q : i = k
    · subst q
      rw [getD_set_eq _ (by omega)] at hb
      rw [getD_set_ne _ (by omega)]
      intro hb'
      have h1 := (hR2.lt hb).1
      have h2 := hge i' (by omega) b hb'
      omega
    · rw [getD_set_ne _ (by omega)] at hb
      by_cases q' : i' = k
      · subst q'
        rw [getD_set_eq _ (by omega)]
        intro hb'
        have h1 := (hR2.lt hb').1
        have h2 := hge i (by omega) b hb
        omega
      · rw [getD_set_ne _ (by omega)]
        exact J.apart i i' b (by omega) (by omega) hne hb
  · have : Below w.heap.size wr w2 := ⟨hb2.os, hb2.tape, hb2.output, hb2.size, fun b hb => hb2.block b (by have := J.bel.size; omega)⟩
    exact (J.bel.trans this).setCell hBg v2
  · rw [hsz]; exact Nat.le_trans hlow hb2.size
  · exact Nat.le_trans J.drw hd2
theorem CpJ.done {l : List Cg} {w w1 wr : World} {v : Value} {okp : Nat → Prop} {ys : List Value} (J : CpJ l w w1 v okp l.length wr ys) (hle : w.heap.size ≤ w1.heap.size) (hv : ∀ g, v.ownBlock = some g → g < w1.heap.size) :
    Below w.heap.size w wr ∧ cgs l = AV.sl 2 (l.map encG) ∧ 0 < 2 ∧ 1 < 2 ∧ (∀ y ∈ l.map encG, y.length = 2) ∧ wr.ownsRow w.heap.size 136 2 v (l.map encG).length ys ∧ (∀ u ∈ ys, u.oneCell' = true) ∧
      (∀ i j', i < (l.map encG).length → j' < 2 → j' ≠ 1 → RV wr noBlock (gt2 (l.map encG) i j') (ys.getD (i * 2 + j') undef)) ∧ InnerOwn wr w.heap.size 9 2 1 v (l.map encG) ys ∧ w.drawn ≤ wr.drawn := by
  have hget : ∀ i, i < (l.map encG).length → ∃ y, l[i]? = some y := fun i hi => ⟨_, List.getElem?_eq_getElem (by simpa using hi)⟩
  have hgt : ∀ i y j, l[i]? = some y → gt2 (l.map encG) i j = (encG y).getD j default := fun i y j hy => by
    unfold gt2; simp [List.getD_eq_getElem?_getD, hy]
  refine ⟨J.bel, rfl, by omega, by omega, fun y hy => ?_, by rw [List.length_map]; exact J.own, J.one, fun i j' hi hj hne => ?_, ⟨fun i hi => ?_, fun i g hi hg e => ?_, fun i i' g hi hi' hne hg => ?_⟩, J.drw⟩
  · obtain ⟨x, _, rfl⟩ := List.mem_map.1 hy; rfl
  · obtain rfl : j' = 0 := by omega
    obtain ⟨y, hy⟩ := hget i hi
    rw [hgt i y 0 hy, Nat.add_zero, J.pos i y hy]
    exact .lit _
  · obtain ⟨y, hy⟩ := hget i hi
    rw [hgt i y 1 hy]
    exact (J.new i y hy (by simpa using hi)).base hle
  · obtain ⟨y, hy⟩ := hget i hi
    have h1 := ((J.new i y hy (by simpa using hi)).lt hg).1
    have h2 := hv g e
    omega
  · exact J.apart i i' g (by simpa using hi) (by simpa using hi') hne hg
theorem gl_to {w w' : World} {ok ok' : Nat → Prop} (h : Gl w.heap.size w ok) (hb : Below w.heap.size w w') (hk : ∀ g, ok g → g < w.heap.size → ok' g) : Gl w'.heap.size w' ok' :=
  ⟨fun p hp => by
    obtain ⟨a, b, c, d⟩ := (Gl.later h hb).1 p hp
    exact ⟨Nat.lt_of_lt_of_le a hb.size, hk _ b a, c, d⟩, fun g hg => by
    obtain ⟨a, m⟩ := (Gl.later h hb).2 g hg
    exact ⟨Nat.lt_of_lt_of_le a hb.size, m⟩⟩
theorem copied_fn (l : List Cg) (hl : Small l) : FnN Tryz.prog 83 [cgs l] 136 2 1 9 (cgs l) := by
  refine ⟨Tryz.call83, fun w ok cargs hok hgl hsz hargs => calls_of_wp Tryz.func83 rfl ?_⟩
  obtain ⟨c0, rfl⟩ : ∃ c0, cargs = #[c0] := by
    obtain ⟨c⟩ := cargs
    match c, hsz with
    | [a], _ => exact ⟨a, rfl⟩
  have h0 : RV w ok (cgs l) c0 := hargs 0 (by simp)
  simp only [Tryz.ntmps83, List.size_toArray, List.length_cons, List.length_nil, Nat.reduceAdd, Nat.reduceSub, Array.replicate_succ, Array.replicate_zero, List.push_toArray, List.append_toArray, List.nil_append, List.cons_append]
  go_wp2_with fail
  refine ((clg_fn l hl.1).2 w ok #[c0] hok hgl rfl (fun i hi => by
    have : i = 0 := by simpa using hi
    subst this
    exact h0)).mono ?_
  rintro e w1 ⟨v, rfl, hb1, hR, _, hd1⟩
  obtain ⟨L, xs, eL, hs, hL, ho, hone, hv⟩ := hR
  obtain rfl : L = l.map encG := by injection eL with _ e; exact e.symm
  have hlen : (l.map encG).length = l.length := by simp
  rw [hlen] at ho
  have hcell0 : ∀ i g j, l[i]? = some g → j < 2 → RV w1 (okNew ok w.heap.size v (.row 136 2 false)) ((encG g).getD j default) (xs.getD (i * 2 + j) undef) := fun i g j hg hj => by
    have hi : i < l.length := (List.getElem?_eq_some_iff.1 hg).1
    have := hv i j (by simpa using hi) hj
    have e1 : gt2 (l.map encG) i j = (encG g).getD j default := by unfold gt2; simp [List.getD_eq_getElem?_getD, hg]
    rw [e1] at this
    exact this
  obtain ⟨okp, hokp⟩ : ∃ okp : Nat → Prop, okp = fun g => okNew ok w.heap.size v (.row 136 2 false) g ∧ g < w1.heap.size := ⟨_, rfl⟩
  have hokv : ∀ g, okp g → v.ownBlock ≠ some g ∧ g < w1.heap.size := fun g hg => by
    subst hokp
    refine ⟨fun e => ?_, hg.2⟩
    rcases hg.1 with q | ⟨q1, q2⟩
    · have := hok g q
      have := (World.ownsRow.lt ho g e).1
      omega
    · exact q2 ⟨0, 0, rfl, e⟩
  have J0 : CpJ l w w1 v okp 0 w1 xs := {
    own := ho
    one := hone
    pos := fun i g hg => RV.lit_iff.1 (hcell0 i g 0 hg (by omega))
    old := fun i g hg _ => (hcell0 i g 1 hg (by omega)).mono fun b hb hlt => ⟨by rw [hokp]; exact ⟨hb, hlt⟩, rfl⟩
    new := fun i g hg h => absurd h (by omega)
    apart := fun i i' g h => absurd h (by omega)
    bel := hb1
    low := Nat.le_refl _
    drw := hd1 }
  obtain ⟨A, c, hvf⟩ : ∃ A c, v = .slice A l.length c := by
    rcases ho.2 with ⟨e, h⟩ | ⟨g, cap, cur, e, _⟩
    · exact ⟨none, 0, by rw [e, h]⟩
    · exact ⟨_, _, e⟩
  have hl1 := hl.1
  have HL := Lib.hid hl
  have HO := Lib.hid hokv
  clear hargs h0 hcell0 hv hone ho hL hs eL hokv hl
  subst hvf
  go_wp2
  go_loopg [9] l.length (fun g i wr => ∃ k : Nat, g = l.length - k ∧ k ≤ l.length ∧ i = .int .i64 k ∧ ∃ xs', CpJ l w w1 (.slice A l.length c) okp k wr xs')
  case atStart => exact ⟨0, rfl, by omega, rfl, xs, J0⟩
  case round =>
    obtain ⟨k, rfl, hk, rfl, ys, J⟩ := hrel
    by_cases hlt : k < l.length
    · have hlt' : (k : Int) < l.length := by omega
      obtain ⟨x, hx⟩ : ∃ x, l[k]? = some x := ⟨_, List.getElem?_eq_getElem hlt⟩
      obtain ⟨g, cap, cur, e, hBg, hg, hnc, hcm, hsz2, htk⟩ : ∃ g cap cur, Value.slice A l.length c = .slice (some ⟨g, 0, none⟩) l.length cap ∧ w.heap.size ≤ g ∧ wr.heap[g]? = some (.cells cur 136 (0, 0)) ∧ l.length ≤ cap ∧ cap ≤ maxLen ∧ cur.size = cap * 2 ∧ cur.toList.take (l.length * 2) = ys := by
        rcases J.own.2 with ⟨_, h⟩ | h
        · omega
        · exact h
      injection e with e1 _ e2
      subst e1 e2
      have hcc : ∀ j, j < 2 → wr.cell? ⟨g, k * 2 + j, none⟩ = some (ys.getD (k * 2 + j) undef) := fun j hj => by
        rw [cell_of_row wr g _ cur 136 (0, 0) hg]
        have h1 : k * 2 + j < l.length * 2 := by omega
        have h2 : k * 2 + j < cur.size := by omega
        rw [← htk, List.getD_eq_getElem?_getD, List.getElem?_take, if_pos h1, Array.getElem?_toList, Array.getElem?_eq_getElem h2]
        rfl
      have hc1 := hcc 1 (by omega)
      have hokw : ∀ b, okp b → b < wr.heap.size := fun b hb => Nat.lt_of_lt_of_le (HO.out b hb).2 J.low
      have hu := J.old k x hx (Nat.le_refl _)
      have hgw : g < w1.heap.size := (World.ownsRow.lt J0.own g rfl).2
      have hokg : ∀ b, okp b → g ≠ b ∧ b < w1.heap.size := fun b hb => ⟨fun e => (HO.out b hb).1 (by rw [e]; rfl), (HO.out b hb).2⟩
      have HK := Lib.hid hokg
      have HU := Lib.hid hu
      have HW := Lib.hid hokw
      have HG : Hid (Gl wr.heap.size wr okp) := Lib.hid (gl_to hgl J.bel fun b hb hlt => by rw [hokp]; exact ⟨.inl hb, Nat.lt_of_lt_of_le hlt hb1.size⟩)
      clear hokg hu hokw
      go_wp2_with fail
      refine ((cls_fn x.s (HL.out.at hx)).2 wr okp #[ys[k * 2 + 1]?.getD undef] HW.out HG.out rfl (fun i hi => by
        have : i = 0 := by simpa using hi
        subst this
        exact HU.out)).mono ?_
      rintro e w2 ⟨v2, rfl, hb2, hR2, _, hd2⟩
      have hR2' : RRow w2 wr.heap.size 9 1 noBlock (bs x.s) v2 := hR2
      obtain ⟨A2, n2, c2, e2⟩ : ∃ A2 n2 c2, v2 = .slice A2 n2 c2 := by obtain ⟨A2, n2, c2, e2, _⟩ := hR2'.form; exact ⟨A2, n2, c2, e2⟩
      have J2 := J.step HK.out hgw hx hb2 hR2' hd2
      subst e2
      have hg2 : w2.heap[g]? = some (.cells cur 136 (0, 0)) := (hb2.block g (Nat.lt_of_lt_of_le hgw J.low)).trans hg
      have hks : k * 2 + 1 < cur.size := by omega
      have hc2 : w2.cell? ⟨g, k * 2 + 1, none⟩ = some cur[k * 2 + 1] := by
        rw [cell_of_row w2 g _ cur 136 (0, 0) hg2, Array.getElem?_eq_getElem hks]
      have hf2 : w2.frozen? ⟨g, k * 2 + 1, none⟩ = false := frozen_of_row w2 g _ cur 136 hg2
      have HJ := Lib.hid J2
      clear J2 hR2 hR2' hb2
      go_wp2
      go_roundg (l.length - (k + 1))
      case measure => omega
      case rel => exact ⟨k + 1, rfl, by omega, by go_num, _, HJ.out⟩
    · have hkk : k = l.length := by omega
      subst hkk
      have hfin := Lib.hid (J.done hb1.size fun g hg => (World.ownsRow.lt J0.own g hg).2)
      go_wp2
      go_ret
      exact ⟨_, _, _, rfl, hfin.out⟩
end Go.Proofs.YtcifjnhpgblnkaaGreatDoor
/-
  DERIVED: THE SHELF's CONTRACTS AT THIS DUMP, IN PLAIN WORDS (tools/lay-plain.mjs out of 'YtcifjnhpgblnkaaGreatDoorShelfTry.lean', which tools/lay-shelf.mjs wrote): THE SAME DECLARATIONS UNDER THE SAME NAMES: 'import', 'namespace', 'open', 'def', 'theorem' AND NOTHING ELSE: no command of the shelf's: FOR A HAND-IN. Each laying: the table of numbers ('.._ren') and one theorem, a field a fact of the dump's own or the kernel's comparison; each contract: ONE APPLICATION.
-/
namespace Go.Proofs.YtcifjnhpgblnkaaGreatDoor
open Go.Shelf
def lays171_ren : Go.Shelf.Ren := ⟨fun | 171 => 124 | 243 => 184 | 246 => 236 | 283 => 284 | 284 => 285 | 285 => 286 | 286 => 287 | 129 => 182 | 317 => 312 | 318 => 313 | 319 => 314 | 320 => 315 | 337 => 334 | 338 => 335 | n => n, fun | 3 => 3 | 9 => 9 | 2 => 2 | 4 => 4 | 171 => 374 | 0 => 0 | 53 => 297 | 37 => 254 | 5 => 5 | 173 => 376 | 212 => 391 | 51 => 295 | 20 => 20 | 213 => 392 | 46 => 142 | 232 => 417 | 233 => 418 | n => n, fun | 17 => 6 | 18 => 11 | 19 => 12 | n => n⟩
theorem lays171 : Go.Proofs.LaysM.n171 Tryz.prog lays171_ren := {
  mixed := by kernel_rfl
  f129 := Tryz.func182.trans (congrArg some (by kernel_rfl))
  f171 := Tryz.func124.trans (congrArg some (by kernel_rfl))
  f243 := Tryz.func184.trans (congrArg some (by kernel_rfl))
  f246 := Tryz.func236.trans (congrArg some (by kernel_rfl))
  f283 := Tryz.func284.trans (congrArg some (by kernel_rfl))
  f284 := Tryz.func285.trans (congrArg some (by kernel_rfl))
  f285 := Tryz.func286.trans (congrArg some (by kernel_rfl))
  f286 := Tryz.func287.trans (congrArg some (by kernel_rfl))
  f317 := Tryz.func312.trans (congrArg some (by kernel_rfl))
  f318 := Tryz.func313.trans (congrArg some (by kernel_rfl))
  f319 := Tryz.func314.trans (congrArg some (by kernel_rfl))
  f320 := Tryz.func315.trans (congrArg some (by kernel_rfl))
  f337 := Tryz.func334.trans (congrArg some (by kernel_rfl))
  f338 := Tryz.func335.trans (congrArg some (by kernel_rfl))
  t0 := Tryz.underlying0
  a0 := Tryz.isAgg0
  z0 := Tryz.sizeOf0
  v0 := Tryz.zeroValue0
  t2 := Tryz.underlying2
  a2 := Tryz.isAgg2
  z2 := Tryz.sizeOf2
  v2 := Tryz.zeroValue2
  t3 := Tryz.underlying3
  a3 := Tryz.isAgg3
  z3 := Tryz.sizeOf3
  v3 := Tryz.zeroValue3
  t4 := Tryz.underlying4
  a4 := Tryz.isAgg4
  z4 := Tryz.sizeOf4
  v4 := Tryz.zeroValue4
  t5 := Tryz.underlying5
  a5 := Tryz.isAgg5
  z5 := Tryz.sizeOf5
  v5 := Tryz.zeroValue5
  t9 := Tryz.underlying9
  a9 := Tryz.isAgg9
  z9 := Tryz.sizeOf9
  v9 := Tryz.zeroValue9
  t20 := Tryz.underlying20
  a20 := Tryz.isAgg20
  z20 := Tryz.sizeOf20
  v20 := Tryz.zeroValue20
  t37 := Tryz.underlying254
  a37 := Tryz.isAgg254
  z37 := Tryz.sizeOf254
  v37 := Tryz.zeroValue254
  t46 := Tryz.underlying142
  a46 := Tryz.isAgg142
  z46 := Tryz.sizeOf142
  v46 := Tryz.zeroValue142
  t51 := Tryz.underlying295
  a51 := Tryz.isAgg295
  z51 := Tryz.sizeOf295
  v51 := Tryz.zeroValue295
  t53 := Tryz.underlying297
  a53 := Tryz.isAgg297
  z53 := Tryz.sizeOf297
  v53 := Tryz.zeroValue297
  t171 := Tryz.underlying374
  a171 := Tryz.isAgg374
  z171 := Tryz.sizeOf374
  v171 := Tryz.zeroValue374
  t173 := Tryz.underlying376
  a173 := Tryz.isAgg376
  z173 := Tryz.sizeOf376
  v173 := Tryz.zeroValue376
  t212 := Tryz.underlying391
  a212 := Tryz.isAgg391
  z212 := Tryz.sizeOf391
  v212 := Tryz.zeroValue391
  t213 := Tryz.underlying392
  a213 := Tryz.isAgg392
  z213 := Tryz.sizeOf392
  t232 := Tryz.underlying417
  a232 := Tryz.isAgg417
  z232 := Tryz.sizeOf417
  v232 := Tryz.zeroValue417
  t233 := Tryz.underlying418
  a233 := Tryz.isAgg418
  z233 := Tryz.sizeOf418
  v233 := Tryz.zeroValue418
  g17 := by kernel_rfl
  g18 := by kernel_rfl
  g19 := by kernel_rfl
  i0 := by kernel_rfl
  i2 := by kernel_rfl
  i3 := by kernel_rfl
  i4 := by kernel_rfl
  i5 := by kernel_rfl
  i9 := by kernel_rfl
  i20 := by kernel_rfl
  i37 := by kernel_rfl
  i46 := by kernel_rfl
  i51 := by kernel_rfl
  i53 := by kernel_rfl
  i171 := by kernel_rfl
  i173 := by kernel_rfl
  i212 := by kernel_rfl
  i232 := by kernel_rfl
  i233 := by kernel_rfl
  m17 := by kernel_rfl
  m18 := by kernel_rfl
  m19 := by kernel_rfl }
def lays172_ren : Go.Shelf.Ren := ⟨fun | 172 => 127 | 244 => 188 | 245 => 189 | 247 => 241 | 279 => 242 | 280 => 243 | 281 => 244 | 282 => 245 | 287 => 293 | 316 => 294 | 171 => 124 | 205 => 295 | 321 => 318 | 322 => 319 | 243 => 184 | 246 => 236 | 283 => 284 | 284 => 285 | 285 => 286 | 286 => 287 | 129 => 182 | 317 => 312 | 318 => 313 | 319 => 314 | 320 => 315 | 337 => 334 | 338 => 335 | n => n, fun | 9 => 9 | 3 => 3 | 75 => 241 | 76 => 242 | 4 => 4 | 5 => 5 | 167 => 342 | 37 => 254 | 0 => 0 | 85 => 343 | 2 => 2 | 168 => 345 | 53 => 297 | 175 => 378 | 46 => 142 | 210 => 382 | 127 => 400 | 145 => 403 | 143 => 401 | 21 => 21 | 171 => 374 | 173 => 376 | 212 => 391 | 51 => 295 | 20 => 20 | 213 => 392 | 232 => 417 | 233 => 418 | 80 => 422 | n => n, fun | 15 => 3 | 16 => 4 | 17 => 6 | 18 => 11 | 19 => 12 | n => n⟩
def lays146_ren : Go.Shelf.Ren := ⟨fun | 146 => 60 | 221 => 125 | 268 => 185 | 138 => 186 | 143 => 187 | 195 => 237 | 197 => 238 | 218 => 239 | 219 => 240 | 260 => 288 | 217 => 289 | 225 => 290 | 224 => 291 | 267 => 292 | 266 => 316 | 314 => 317 | n => n, fun | 9 => 9 | 31 => 85 | 3 => 3 | 4 => 4 | 0 => 0 | 105 => 339 | 21 => 21 | 5 => 5 | 46 => 142 | 119 => 393 | 139 => 396 | 138 => 395 | 146 => 397 | 51 => 295 | n => n, fun | 1 => 2 | 3 => 7 | 4 => 8 | n => n⟩
end Go.Proofs.YtcifjnhpgblnkaaGreatDoor
/- strconv.Itoa and strconv.Atoi, out of the shelf. -/
namespace Go.Proofs.YtcifjnhpgblnkaaGreatDoor
open Go.RowKit
set_option linter.unusedVariables false
set_option linter.unusedSimpArgs false
set_option maxRecDepth 100000
theorem args_one {w : World} {ok : Nat → Prop} {u : Value} {cargs : Array Value} (hsz : cargs.size = 1) (h : RV w ok (.lit u) (cargs.getD 0 undef)) : cargs = #[u] := by
  have := RV.lit_iff.1 h
  apply Array.ext
  · exact hsz
  · intro i h1 h2
    obtain rfl : i = 0 := by simp at h2; omega
    rw [Array.getD_eq_getD_getElem?, Array.getElem?_eq_getElem h1] at this
    exact this
theorem grow_below (w : World) (k : Nat) (os : Array Obj) : Below w.heap.size w (Sort.grow (w.drewN k) os) :=
  ⟨rfl, rfl, rfl, by show w.heap.size ≤ (w.heap ++ os).size; rw [Array.size_append]; omega, fun j hj => by
    show (w.heap ++ os)[j]? = _
    rw [Array.getElem?_append_left hj]⟩
theorem apart_sc {v : Value} {sh : Sh} (h : ∀ j i, isRow (leafSh j i sh) = false) : RowsApart v sh := fun j i j' i' hr => by rw [h] at hr; cases hr
def itoaS (n : Int) : ByteArray := ⟨(Lib.itoa n).toArray⟩
theorem itoa_fn (n : Int) (h0 : -9223372036854775808 ≤ n) (h1 : n ≤ 9223372036854775807) : Fn Tryz.prog 124 [.int n] .sc (.string (itoaS n)) := by
  refine ⟨Tryz.call124, fun w ok cargs hok hgl hsz hargs => ?_⟩
  obtain rfl := args_one hsz (hargs 0 (by simp))
  have htab : Lib.TabIs Tryz.prog w "internal/strconv.uint64pow10" .u64 Lib.pow10Tab := by
    obtain ⟨_, _, _, x, y, hb⟩ := hgl.1 (6, _) (.tail _ (.tail _ (.tail _ (.tail _ (.head _)))))
    show (Tryz.prog.globalNamed "internal/strconv.uint64pow10").bind _ = _
    rw [show Tryz.prog.globalNamed "internal/strconv.uint64pow10" = some 6 by kernel_rfl, Option.bind_some, hb]
    exact congrArg (fun l : List Value => some l.toArray) (by kernel_rfl)
  refine (Any.strconv_Itoa lays171 n h0 h1 w htab).mono ?_
  rintro e w' ⟨rfl, k, os, rfl⟩
  exact ⟨_, rfl, grow_below w k os, .lit _, apart_sc (fun j i => by cases j <;> cases i <;> rfl), Nat.le_add_right _ _⟩
theorem itoa_eq (n : Int) (h0 : -9223372036854775808 ≤ n) (h1 : n ≤ 9223372036854775807) {s : ByteArray} (h : itoaS n = s) : Fn Tryz.prog 124 [.int n] .sc (.string s) := h ▸ itoa_fn n h0 h1
end Go.Proofs.YtcifjnhpgblnkaaGreatDoor
/- Package-level variables that are laid, as known cells. -/
namespace Go.Proofs.YtcifjnhpgblnkaaGreatDoor
open Go.ChangeShapes Go.WideShapes Go.ChangeAt Go.RowKit
set_option linter.unusedVariables false
section
variable {H : Type} {enc : TypeId × Value → H} {P : Program} {W : World}
def datV {H : Type} : DataW H → Value
  | .lit (.string s) => .string ⟨s.toArray⟩
  | .lit (.int k n) => .int k n
  | .lit (.bool b) => .bool b
  | .lit (.float k b) => .float k b
  | _ => undef
/-- An array of strings or numbers, opened. -/
theorem arr_open {t e : TypeId} {k fuel : Nat} {cs : List Value} {ds : List (DataW H)} {p : List MemPlace} (ht : P.underlying t = some (.array k e)) (hc : P.cellsOf e = 1) (hct : P.cellsOf t = k)
    (he : P.underlying e = some .string ∨ ∃ i, P.underlying e = some (.int i)) (h : DataW.trod enc P W 0 (fun _ => true) false fuel t cs = some (.agg ds, p)) : cs = ds.map datV := by
  obtain ⟨xs, m, rfl, hx, hlen, hn, hel⟩ := DataW.trod_array ht h
  simp only [Prod.mk.injEq, DataW.agg.injEq] at hx
  rw [hct] at hlen
  obtain ⟨rfl, _⟩ := hx
  apply List.ext_getElem?
  intro i
  by_cases hi : i < k
  · have h1 := hel i hi
    rw [hc, Nat.mul_one] at h1
    have h2 : (cs.drop i).take 1 = [cs[i]'(by omega)] := by
      rw [List.drop_eq_getElem_cons (by omega)]; rfl
    rw [h2] at h1
    have h3 : xs[i]? = some (xs[i]'(by omega)) := List.getElem?_eq_getElem (by omega)
    rw [h3] at h1
    rw [List.getElem?_map, List.getElem?_map, h3, List.getElem?_eq_getElem (by omega)]
    simp only [Option.map_some, Option.some.injEq]
    generalize xs[i]'(by omega) = y at h1
    rcases he with he | ⟨q, he⟩
    · obtain ⟨s, e1, e2, _⟩ := DataW.trod_string he h1
      rw [e2]
      simp only [List.cons.injEq, and_true] at e1
      rw [e1]; rfl
    · obtain ⟨n, e1, e2, _⟩ := DataW.trod_int he h1
      rw [e2]
      simp only [List.cons.injEq, and_true] at e1
      rw [e1]; rfl
  · rw [List.getElem?_eq_none (by omega), List.getElem?_eq_none (by simp; omega)]
theorem trod_flt {k : FloatKind} {w : World} {base : Nat} {spare : Nat → Bool} {held : Bool} {fuel : Nat} {t : TypeId} {cs : List Value} {x : DataW H × List MemPlace} (ht : P.underlying t = some (.float k)) (h : DataW.trod enc P w base spare held fuel t cs = some x) : ∃ n, cs = [.float k n] ∧ x = (.lit (.float k n), []) := by
  cases fuel with
  | zero => simp [DataW.trod] at h
  | succ n =>
    unfold DataW.trod at h
    rw [ht] at h
    split at h <;> simp_all
/-- An array of floats, opened. -/
theorem arr_openF {t e : TypeId} {k fuel : Nat} {fk : FloatKind} {cs : List Value} {ds : List (DataW H)} {p : List MemPlace} (ht : P.underlying t = some (.array k e)) (hc : P.cellsOf e = 1) (hct : P.cellsOf t = k)
    (he : P.underlying e = some (.float fk)) (h : DataW.trod enc P W 0 (fun _ => true) false fuel t cs = some (.agg ds, p)) : cs = ds.map datV := by
  obtain ⟨xs, m, rfl, hx, hlen, hn, hel⟩ := DataW.trod_array ht h
  simp only [Prod.mk.injEq, DataW.agg.injEq] at hx
  rw [hct] at hlen
  obtain ⟨rfl, _⟩ := hx
  apply List.ext_getElem?
  intro i
  by_cases hi : i < k
  · have h1 := hel i hi
    rw [hc, Nat.mul_one] at h1
    have h2 : (cs.drop i).take 1 = [cs[i]'(by omega)] := by
      rw [List.drop_eq_getElem_cons (by omega)]; rfl
    rw [h2] at h1
    have h3 : xs[i]? = some (xs[i]'(by omega)) := List.getElem?_eq_getElem (by omega)
    rw [h3] at h1
    rw [List.getElem?_map, List.getElem?_map, h3, List.getElem?_eq_getElem (by omega)]
    simp only [Option.map_some, Option.some.injEq]
    generalize xs[i]'(by omega) = y at h1
    obtain ⟨n, e1, e2⟩ := trod_flt he h1
    rw [e2]
    simp only [List.cons.injEq, and_true] at e1
    rw [e1]; rfl
  · rw [List.getElem?_eq_none (by omega), List.getElem?_eq_none (by simp; omega)]
/-- One variable's cells. -/
theorem var_known {n : String} {g : Nat} {cs : Array Value} {vs : List Value} (hg : P.globalNamed n = some g) (hv : W.var? P n = some cs) (h : cs.toList = vs) (h1 : vs.all (·.oneCell') = true) :
    g < W.heap.size ∧ okAll W g ∧ (∀ i, i < vs.length → W.cell? ⟨g, i, none⟩ = some (vs.getD i undef) ∧ (vs.getD i undef).oneCell' = true) ∧ ∃ x y, W.heap[g]? = some (.cells vs.toArray x y) := by
  have hlt : g < W.heap.size := by
    simp only [World.var?, hg, Option.bind_some] at hv
    split at hv
    · rename_i q; exact (Array.getElem?_eq_some_iff.1 q).1
    · cases hv
  have hblk : ∃ x y, W.heap[g]? = some (.cells vs.toArray x y) := by
    simp only [World.var?, hg, Option.bind_some] at hv
    split at hv
    · rename_i cs' x y q
      injection hv with hv
      subst hv
      subst h
      exact ⟨x, y, by rw [q]⟩
    · cases hv
  refine ⟨hlt, hlt, fun i hi => ?_, hblk⟩
  rw [World.var?_cell hg hv i]
  subst h
  have hi' : i < cs.size := by simpa using hi
  refine ⟨by simp [hi'], ?_⟩
  have := List.all_eq_true.1 h1 (cs.toList.getD i undef) (by simp [List.getD_eq_getElem?_getD, hi'])
  exact this
end
end Go.Proofs.YtcifjnhpgblnkaaGreatDoor
/- A law's walk where the arguments' weights are known (the form's own reach). -/
namespace Go.Proofs.YtcifjnhpgblnkaaGreatDoor
open Go.ChangeShapes Go.WideShapes Go.ChangeAt Go.RowKit Go.Joins Go.Deep
set_option linter.unusedVariables false
section
variable {H : Type} {enc : TypeId × Value → H} {P : Program} {W : World}
theorem sized_one {t e : TypeId} {v : Value} {dd : DataW H} {p : List MemPlace} {s : Nat} {L : List (List AV)} {ok : Nat → Prop} (hu : P.underlying t = some (.slice e)) (h : DataW.Trod enc P W 0 (fun _ => true) true t v dd p) (hr : RV W ok (.sl s L) v) (hw : ∀ n ∈ dd.weights P t, n ≤ reachBytes) : L.length * P.bytesOf e ≤ reachBytes := by
  obtain ⟨fuel, hf⟩ := h
  cases hr with
  | sl _ _ A n c us hn hnc hc hs hA hone hu' =>
    have h1 : (Value.slice A n c).cells.toList = [.slice A n c] := rfl
    rw [h1] at hf
    rcases open_slice hu hf with ⟨ev, ex⟩ | ⟨a, len, cap, m', fu, D, Pl, ev, hb, hlc, hcm, hmm, hx, hi⟩
    · injection ev with ev _
      injection ev with _ ev _
      rw [hn, ev]
      simp [reachBytes]
    · injection ev with ev _
      injection ev with _ ev _
      injection hx with hx _
      have := hw (((List.range len).map D).length + ((List.range (m' - len)).map fun j => D (len + j)).length |> (· * P.bytesOf e)) (by rw [hx]; simp [DataW.weights, hu])
      simp at this
      rw [hn, ev]
      exact Nat.le_trans (Nat.mul_le_mul_right _ (Nat.le_add_right _ _)) this
theorem trodAll_at : ∀ (ts : List TypeId) (vs : List Value) (ds : List (DataW H)) (p : List MemPlace), DataW.TrodAll enc P W 0 (fun _ => true) true ts vs ds p → ∀ i, i < ts.length → ∃ dd q, ds[i]? = some dd ∧ DataW.Trod enc P W 0 (fun _ => true) true (ts.getD i 0) (vs.getD i undef) dd q
  | [], vs, ds, p, h, i, hi => by simp at hi
  | t :: ts, vs, ds, p, h, i, hi => by
    obtain ⟨v, vs', d, ds', p', q, rfl, rfl, rfl, h1, h2⟩ := trodAll_cons h
    cases i with
    | zero => exact ⟨d, p', rfl, h1⟩
    | succ i =>
      obtain ⟨dd, q', e1, e2⟩ := trodAll_at ts vs' ds' q h2 i (by simpa using hi)
      exact ⟨dd, q', by simpa using e1, by simpa using e2⟩
/-- **A law's walk**, its arguments' weights being within the form's reach. -/
theorem law_calls_sized {f : FuncId} {F : Func} {args : Array Value} {ds gs : List (DataW H)} {us : List TypeId} {p : List MemPlace} {base : Nat} (hb : F.params.toList.all (argB P) = true)
    (hfn : ∀ xs : List AV, xs.length = F.params.toList.length → (∀ i, i < F.params.toList.length → ArgOk P (F.params.toList.getD i 0) (xs.getD i default)) →
      (∀ i s L e, i < F.params.toList.length → xs.getD i default = .sl s L → P.underlying (F.params.toList.getD i 0) = some (.slice e) → L.length * P.bytesOf e ≤ reachBytes) → Fn P f xs .sc (.bool true))
    (hval : ∀ (j : Nat) t v, F.params[j]? = some t → args[j]? = some v → Value.okWide P W .any base t v)
    (hA : DataW.TrodAll enc P W 0 (fun _ => true) true F.params.toList args.toList ds p)
    (hsz : (DataW.weightsEach P (F.params.toList ++ us) (ds ++ gs)).all (· ≤ reachBytes) = true) (hgl : Gl W.heap.size W (okAll W) := by (exact ⟨by (intro p hp; simp [globL] at hp), by (intro g hg; simp [globI] at hg)⟩)) : Calls P f args W (Ret (.bool true) W) := by
  obtain ⟨xs, l1, l2, hxs⟩ := args_open F.params.toList args.toList ds p hA (fun j t v h1 h2 => hval j t v (by simpa using h1) (by simpa using h2)) hb
  refine ((hfn xs l1 (fun i hi => (hxs i hi).1) (fun i s L e hi hx hu => ?_)).2 W (okAll W) args (fun g hg => hg) hgl (by rw [l1, ← l2]; simp) fun i hi => ?_).mono ?_
  · obtain ⟨dd, q, e1, e2⟩ := trodAll_at F.params.toList args.toList ds p hA i hi
    have hr := (hxs i hi).2
    rw [hx] at hr
    refine sized_one hu e2 hr fun n hn => ?_
    have hm := DataW.weights_mem_each (P := P) (ts := F.params.toList ++ us) (ds := ds ++ gs) (j := i) (t := F.params.toList.getD i 0) (d := dd)
      (by rw [List.getElem?_append_left hi, List.getD_eq_getElem?_getD, List.getElem?_eq_getElem hi]; rfl)
      (by
        have hid : i < ds.length := (List.getElem?_eq_some_iff.1 e1).1
        rw [List.getElem?_append_left hid]; exact e1) n hn
    have := List.all_eq_true.1 hsz n hm
    simpa using this
  · have := (hxs i (by omega)).2
    rwa [show args.getD i undef = args.toList.getD i undef by simp [List.getD_eq_getElem?_getD, Array.getD_eq_getD_getElem?]]
  · rintro e W' ⟨v, rfl, hbel, hr, _⟩
    have hr' : RV W' noBlock (.bool true) v := hr
    exact ret_mk (RV.lit_iff.1 hr') hbel
end
end Go.Proofs.YtcifjnhpgblnkaaGreatDoor
/- probe: what the run ends in. -/
namespace Go.Proofs.YtcifjnhpgblnkaaGreatDoor
open Go.RowKit
set_option linter.unusedVariables false
set_option maxRecDepth 100000
namespace SepF
--GAMMA
def Γ : FuncId → Option Ca := fun f =>
  if f = 201 then some (.fn (.tup [.sc, .sc]))
  else some .inl
def ann : FuncId → Nat → LoopEx := fun f r => ⟨[], [], [], []⟩
--END GAMMA
theorem sep_form (x0 x1 x2 r : AV) : fnF Tryz.prog Γ ann 3 215 Tryz.f215 (Tryz.f215.body.getD .skip) (.nil) [x0, x1, x2] (.sc) r = (((AV.isAgg x0 6) ∧
((AV.isAgg x1 6) ∧
((AV.isAgg x2 2) ∧
(∃ r641 : AV, ((Fn Tryz.prog 201 [(AV.agg [(AV.cel x0 1), (AV.cel x0 2)]), (AV.agg [(AV.cel x1 1), (AV.cel x1 2)])] (Sh.tup [Sh.sc, Sh.sc]) r641) ∧
((AV.binOk Go.BinOp.sub (AV.prj r641 0) (AV.cel x0 4)) ∧
((AV.binOk Go.BinOp.sub (AV.bin Go.BinOp.sub (AV.prj r641 0) (AV.cel x0 4)) (AV.cel x1 4)) ∧
((AV.binOk Go.BinOp.geq (AV.bin Go.BinOp.sub (AV.bin Go.BinOp.sub (AV.prj r641 0) (AV.cel x0 4)) (AV.cel x1 4)) (AV.cel x2 0)) ∧
((AV.isBool (AV.bin Go.BinOp.geq (AV.bin Go.BinOp.sub (AV.bin Go.BinOp.sub (AV.prj r641 0) (AV.cel x0 4)) (AV.cel x1 4)) (AV.cel x2 0))) ∧
(((isT (AV.bin Go.BinOp.geq (AV.bin Go.BinOp.sub (AV.bin Go.BinOp.sub (AV.prj r641 0) (AV.cel x0 4)) (AV.cel x1 4)) (AV.cel x2 0))) →
  ((AV.isBool (AV.bin Go.BinOp.geq (AV.bin Go.BinOp.sub (AV.bin Go.BinOp.sub (AV.prj r641 0) (AV.cel x0 4)) (AV.cel x1 4)) (AV.cel x2 0))) ∧
  ((isT (AV.bin Go.BinOp.geq (AV.bin Go.BinOp.sub (AV.bin Go.BinOp.sub (AV.prj r641 0) (AV.cel x0 4)) (AV.cel x1 4)) (AV.cel x2 0))) ∧
  ((AV.flat (AV.bool true)) ∧
  (fSame (AV.bool true) r))))) ∧
((isF (AV.bin Go.BinOp.geq (AV.bin Go.BinOp.sub (AV.bin Go.BinOp.sub (AV.prj r641 0) (AV.cel x0 4)) (AV.cel x1 4)) (AV.cel x2 0))) →
  ((AV.binOk Go.BinOp.sub (AV.cel x0 3) (AV.cel x1 3)) ∧
  ((AV.binOk Go.BinOp.sub (AV.cel x1 3) (AV.cel x0 3)) ∧
  ((AV.isInt (AV.bin Go.BinOp.sub (AV.cel x0 3) (AV.cel x1 3))) ∧
  ((AV.isInt (AV.bin Go.BinOp.sub (AV.cel x1 3) (AV.cel x0 3))) ∧
  ((AV.binOk Go.BinOp.sub (AV.mx (AV.bin Go.BinOp.sub (AV.cel x0 3) (AV.cel x1 3)) (AV.bin Go.BinOp.sub (AV.cel x1 3) (AV.cel x0 3))) (AV.cel x0 5)) ∧
  ((AV.binOk Go.BinOp.sub (AV.bin Go.BinOp.sub (AV.mx (AV.bin Go.BinOp.sub (AV.cel x0 3) (AV.cel x1 3)) (AV.bin Go.BinOp.sub (AV.cel x1 3) (AV.cel x0 3))) (AV.cel x0 5)) (AV.cel x1 5)) ∧
  ((AV.binOk Go.BinOp.geq (AV.bin Go.BinOp.sub (AV.bin Go.BinOp.sub (AV.mx (AV.bin Go.BinOp.sub (AV.cel x0 3) (AV.cel x1 3)) (AV.bin Go.BinOp.sub (AV.cel x1 3) (AV.cel x0 3))) (AV.cel x0 5)) (AV.cel x1 5)) (AV.cel x2 1)) ∧
  ((AV.isBool (AV.bin Go.BinOp.geq (AV.bin Go.BinOp.sub (AV.bin Go.BinOp.sub (AV.prj r641 0) (AV.cel x0 4)) (AV.cel x1 4)) (AV.cel x2 0))) ∧
  ((isF (AV.bin Go.BinOp.geq (AV.bin Go.BinOp.sub (AV.bin Go.BinOp.sub (AV.prj r641 0) (AV.cel x0 4)) (AV.cel x1 4)) (AV.cel x2 0))) ∧
  ((AV.flat (AV.bin Go.BinOp.geq (AV.bin Go.BinOp.sub (AV.bin Go.BinOp.sub (AV.mx (AV.bin Go.BinOp.sub (AV.cel x0 3) (AV.cel x1 3)) (AV.bin Go.BinOp.sub (AV.cel x1 3) (AV.cel x0 3))) (AV.cel x0 5)) (AV.cel x1 5)) (AV.cel x2 1))) ∧
  (fSame (AV.bin Go.BinOp.geq (AV.bin Go.BinOp.sub (AV.bin Go.BinOp.sub (AV.mx (AV.bin Go.BinOp.sub (AV.cel x0 3) (AV.cel x1 3)) (AV.bin Go.BinOp.sub (AV.cel x1 3) (AV.cel x0 3))) (AV.cel x0 5)) (AV.cel x1 5)) (AV.cel x2 1)) r))))))))))))))))))))))) := by kernel_rfl
end SepF
end Go.Proofs.YtcifjnhpgblnkaaGreatDoor
/- plane: distances: what the run ends in. -/
namespace Go.Proofs.YtcifjnhpgblnkaaGreatDoor
open Go.RowKit
set_option linter.unusedVariables false
set_option maxRecDepth 100000
namespace DisF
--GAMMA
def Γ : FuncId → Option Ca := fun f =>
  if f = 251 ∨ f = 252 then some (.fn .sc)
  else if f = 201 then some (.fn (.tup [.sc, .sc]))
  else some .inl
def ann : FuncId → Nat → LoopEx := fun f r => ⟨[], [], [], []⟩
--END GAMMA
theorem root_form (x0 r : AV) : fnF Tryz.prog Γ ann 3 252 Tryz.f252 (Tryz.f252.body.getD .skip) (.nil) [x0] (.sc) r = (((AV.binOk Go.BinOp.leq x0 (AV.int 0)) ∧
((AV.isBool (AV.bin Go.BinOp.leq x0 (AV.int 0))) ∧
(((isT (AV.bin Go.BinOp.leq x0 (AV.int 0))) →
  ((AV.flat (AV.int 0)) ∧
  (fSame (AV.int 0) r))) ∧
((isF (AV.bin Go.BinOp.leq x0 (AV.int 0))) →
  (fLoop 321 [(AV.int 0), (AV.int 3037000499)] fun ys321 again321 =>
    ((AV.binOk Go.BinOp.lss (ys321.getD 0 default) (ys321.getD 1 default)) ∧
    ((AV.isBool (AV.bin Go.BinOp.lss (ys321.getD 0 default) (ys321.getD 1 default))) ∧
    (((isT (AV.bin Go.BinOp.lss (ys321.getD 0 default) (ys321.getD 1 default))) →
      ((AV.binOk Go.BinOp.sub (ys321.getD 1 default) (ys321.getD 0 default)) ∧
      ((AV.binOk Go.BinOp.add (AV.bin Go.BinOp.sub (ys321.getD 1 default) (ys321.getD 0 default)) (AV.int 1)) ∧
      ((AV.binOk Go.BinOp.quo (AV.bin Go.BinOp.add (AV.bin Go.BinOp.sub (ys321.getD 1 default) (ys321.getD 0 default)) (AV.int 1)) (AV.int 2)) ∧
      ((AV.binOk Go.BinOp.add (ys321.getD 0 default) (AV.bin Go.BinOp.quo (AV.bin Go.BinOp.add (AV.bin Go.BinOp.sub (ys321.getD 1 default) (ys321.getD 0 default)) (AV.int 1)) (AV.int 2))) ∧
      ((AV.binOk Go.BinOp.mul (AV.bin Go.BinOp.add (ys321.getD 0 default) (AV.bin Go.BinOp.quo (AV.bin Go.BinOp.add (AV.bin Go.BinOp.sub (ys321.getD 1 default) (ys321.getD 0 default)) (AV.int 1)) (AV.int 2))) (AV.bin Go.BinOp.add (ys321.getD 0 default) (AV.bin Go.BinOp.quo (AV.bin Go.BinOp.add (AV.bin Go.BinOp.sub (ys321.getD 1 default) (ys321.getD 0 default)) (AV.int 1)) (AV.int 2)))) ∧
      ((AV.binOk Go.BinOp.leq (AV.bin Go.BinOp.mul (AV.bin Go.BinOp.add (ys321.getD 0 default) (AV.bin Go.BinOp.quo (AV.bin Go.BinOp.add (AV.bin Go.BinOp.sub (ys321.getD 1 default) (ys321.getD 0 default)) (AV.int 1)) (AV.int 2))) (AV.bin Go.BinOp.add (ys321.getD 0 default) (AV.bin Go.BinOp.quo (AV.bin Go.BinOp.add (AV.bin Go.BinOp.sub (ys321.getD 1 default) (ys321.getD 0 default)) (AV.int 1)) (AV.int 2)))) x0) ∧
      ((AV.isBool (AV.bin Go.BinOp.leq (AV.bin Go.BinOp.mul (AV.bin Go.BinOp.add (ys321.getD 0 default) (AV.bin Go.BinOp.quo (AV.bin Go.BinOp.add (AV.bin Go.BinOp.sub (ys321.getD 1 default) (ys321.getD 0 default)) (AV.int 1)) (AV.int 2))) (AV.bin Go.BinOp.add (ys321.getD 0 default) (AV.bin Go.BinOp.quo (AV.bin Go.BinOp.add (AV.bin Go.BinOp.sub (ys321.getD 1 default) (ys321.getD 0 default)) (AV.int 1)) (AV.int 2)))) x0)) ∧
      (((isT (AV.bin Go.BinOp.leq (AV.bin Go.BinOp.mul (AV.bin Go.BinOp.add (ys321.getD 0 default) (AV.bin Go.BinOp.quo (AV.bin Go.BinOp.add (AV.bin Go.BinOp.sub (ys321.getD 1 default) (ys321.getD 0 default)) (AV.int 1)) (AV.int 2))) (AV.bin Go.BinOp.add (ys321.getD 0 default) (AV.bin Go.BinOp.quo (AV.bin Go.BinOp.add (AV.bin Go.BinOp.sub (ys321.getD 1 default) (ys321.getD 0 default)) (AV.int 1)) (AV.int 2)))) x0)) →
        (again321 [(AV.bin Go.BinOp.add (ys321.getD 0 default) (AV.bin Go.BinOp.quo (AV.bin Go.BinOp.add (AV.bin Go.BinOp.sub (ys321.getD 1 default) (ys321.getD 0 default)) (AV.int 1)) (AV.int 2))), (ys321.getD 1 default)])) ∧
      ((isF (AV.bin Go.BinOp.leq (AV.bin Go.BinOp.mul (AV.bin Go.BinOp.add (ys321.getD 0 default) (AV.bin Go.BinOp.quo (AV.bin Go.BinOp.add (AV.bin Go.BinOp.sub (ys321.getD 1 default) (ys321.getD 0 default)) (AV.int 1)) (AV.int 2))) (AV.bin Go.BinOp.add (ys321.getD 0 default) (AV.bin Go.BinOp.quo (AV.bin Go.BinOp.add (AV.bin Go.BinOp.sub (ys321.getD 1 default) (ys321.getD 0 default)) (AV.int 1)) (AV.int 2)))) x0)) →
        ((AV.binOk Go.BinOp.sub (AV.bin Go.BinOp.add (ys321.getD 0 default) (AV.bin Go.BinOp.quo (AV.bin Go.BinOp.add (AV.bin Go.BinOp.sub (ys321.getD 1 default) (ys321.getD 0 default)) (AV.int 1)) (AV.int 2))) (AV.int 1)) ∧
        (again321 [(ys321.getD 0 default), (AV.bin Go.BinOp.sub (AV.bin Go.BinOp.add (ys321.getD 0 default) (AV.bin Go.BinOp.quo (AV.bin Go.BinOp.add (AV.bin Go.BinOp.sub (ys321.getD 1 default) (ys321.getD 0 default)) (AV.int 1)) (AV.int 2))) (AV.int 1))])))))))))))) ∧
    ((isF (AV.bin Go.BinOp.lss (ys321.getD 0 default) (ys321.getD 1 default))) →
      ((AV.flat (ys321.getD 0 default)) ∧
      (fSame (ys321.getD 0 default) r)))))))))))) := by kernel_rfl
theorem dist_form (x0 x1 r : AV) : fnF Tryz.prog Γ ann 3 201 Tryz.f201 (Tryz.f201.body.getD .skip) (.nil) [x0, x1] (.tup [.sc, .sc]) r = (((AV.isAgg x0 2) ∧
((AV.isAgg x1 2) ∧
(∃ r385 : AV, ((Fn Tryz.prog 251 [(AV.agg [(AV.cel x0 0), (AV.cel x0 1)]), (AV.agg [(AV.cel x1 0), (AV.cel x1 1)])] Sh.sc r385) ∧
(∃ r577 : AV, ((Fn Tryz.prog 252 [r385] Sh.sc r577) ∧
((AV.binOk Go.BinOp.mul r577 r577) ∧
((AV.binOk Go.BinOp.lss (AV.bin Go.BinOp.mul r577 r577) r385) ∧
((AV.isBool (AV.bin Go.BinOp.lss (AV.bin Go.BinOp.mul r577 r577) r385)) ∧
(((isT (AV.bin Go.BinOp.lss (AV.bin Go.BinOp.mul r577 r577) r385)) →
  ((AV.binOk Go.BinOp.add r577 (AV.int 1)) ∧
  ((AV.flat r577) ∧
  ((AV.flat (AV.bin Go.BinOp.add r577 (AV.int 1))) ∧
  (fSame (AV.tup [r577, (AV.bin Go.BinOp.add r577 (AV.int 1))]) r))))) ∧
((isF (AV.bin Go.BinOp.lss (AV.bin Go.BinOp.mul r577 r577) r385)) →
  ((AV.flat r577) ∧
  ((AV.flat r577) ∧
  (fSame (AV.tup [r577, r577]) r))))))))))))))) := by kernel_rfl
end DisF
end Go.Proofs.YtcifjnhpgblnkaaGreatDoor
/- planes, polygons, volumes: what the run ends in. -/
namespace Go.Proofs.YtcifjnhpgblnkaaGreatDoor
open Go.RowKit
set_option linter.unusedVariables false
set_option maxRecDepth 100000
namespace SecF
--GAMMA
def Γ : FuncId → Option Ca := fun f =>
  if f = 67 ∨ f = 230 ∨ f = 299 ∨ f = 251 ∨ f = 78 ∨ f = 20 ∨ f = 130 then some (.fn .sc)
  else if f = 193 ∨ f = 194 ∨ f = 192 ∨ f = 129 ∨ f = 68 then some (.fn (.tup [.sc, .sc]))
  else some .inl
def ann : FuncId → Nat → LoopEx := fun f r => ⟨[], [], [], []⟩
--END GAMMA
theorem pcheck_form (x0 r : AV) : fnF Tryz.prog Γ ann 3 67 Tryz.f67 (Tryz.f67.body.getD .skip) (.nil) [x0] (.sc) r = (((AV.isAgg x0 2) ∧
((AV.binOk Go.BinOp.lss (AV.cel x0 0) (AV.int (-1000000))) ∧
((AV.isBool (AV.bin Go.BinOp.lss (AV.cel x0 0) (AV.int (-1000000)))) ∧
(((isT (AV.bin Go.BinOp.lss (AV.cel x0 0) (AV.int (-1000000)))) →
  ((AV.isBool (AV.bin Go.BinOp.lss (AV.cel x0 0) (AV.int (-1000000)))) ∧
  ((isT (AV.bin Go.BinOp.lss (AV.cel x0 0) (AV.int (-1000000)))) ∧
  ((AV.flat (AV.int 4)) ∧
  (fSame (AV.int 4) r))))) ∧
((isF (AV.bin Go.BinOp.lss (AV.cel x0 0) (AV.int (-1000000)))) →
  ((AV.binOk Go.BinOp.gtr (AV.cel x0 0) (AV.int 1000000)) ∧
  ((AV.isBool (AV.bin Go.BinOp.lss (AV.cel x0 0) (AV.int (-1000000)))) ∧
  ((isF (AV.bin Go.BinOp.lss (AV.cel x0 0) (AV.int (-1000000)))) ∧
  ((AV.isBool (AV.bin Go.BinOp.gtr (AV.cel x0 0) (AV.int 1000000))) ∧
  (((isT (AV.bin Go.BinOp.gtr (AV.cel x0 0) (AV.int 1000000))) →
    ((AV.isBool (AV.bin Go.BinOp.gtr (AV.cel x0 0) (AV.int 1000000))) ∧
    ((isT (AV.bin Go.BinOp.gtr (AV.cel x0 0) (AV.int 1000000))) ∧
    ((AV.flat (AV.int 4)) ∧
    (fSame (AV.int 4) r))))) ∧
  ((isF (AV.bin Go.BinOp.gtr (AV.cel x0 0) (AV.int 1000000))) →
    ((AV.binOk Go.BinOp.lss (AV.cel x0 1) (AV.int (-1000000))) ∧
    ((AV.isBool (AV.bin Go.BinOp.gtr (AV.cel x0 0) (AV.int 1000000))) ∧
    ((isF (AV.bin Go.BinOp.gtr (AV.cel x0 0) (AV.int 1000000))) ∧
    ((AV.isBool (AV.bin Go.BinOp.lss (AV.cel x0 1) (AV.int (-1000000)))) ∧
    (((isT (AV.bin Go.BinOp.lss (AV.cel x0 1) (AV.int (-1000000)))) →
      ((AV.isBool (AV.bin Go.BinOp.lss (AV.cel x0 1) (AV.int (-1000000)))) ∧
      ((isT (AV.bin Go.BinOp.lss (AV.cel x0 1) (AV.int (-1000000)))) ∧
      ((AV.flat (AV.int 4)) ∧
      (fSame (AV.int 4) r))))) ∧
    ((isF (AV.bin Go.BinOp.lss (AV.cel x0 1) (AV.int (-1000000)))) →
      ((AV.binOk Go.BinOp.gtr (AV.cel x0 1) (AV.int 1000000)) ∧
      ((AV.isBool (AV.bin Go.BinOp.lss (AV.cel x0 1) (AV.int (-1000000)))) ∧
      ((isF (AV.bin Go.BinOp.lss (AV.cel x0 1) (AV.int (-1000000)))) ∧
      ((AV.isBool (AV.bin Go.BinOp.gtr (AV.cel x0 1) (AV.int 1000000))) ∧
      (((isT (AV.bin Go.BinOp.gtr (AV.cel x0 1) (AV.int 1000000))) →
        ((AV.flat (AV.int 4)) ∧
        (fSame (AV.int 4) r))) ∧
      ((isF (AV.bin Go.BinOp.gtr (AV.cel x0 1) (AV.int 1000000))) →
        ((AV.flat (AV.int 0)) ∧
        (fSame (AV.int 0) r)))))))))))))))))))))))))) := by kernel_rfl
theorem sub_form (x0 x1 r : AV) : fnF Tryz.prog Γ ann 3 230 Tryz.f230 (Tryz.f230.body.getD .skip) (.nil) [x0, x1] (.sc) r = (((AV.isAgg x0 2) ∧
((AV.isAgg x1 2) ∧
((AV.binOk Go.BinOp.sub (AV.cel x0 0) (AV.cel x1 0)) ∧
((AV.binOk Go.BinOp.sub (AV.cel x0 1) (AV.cel x1 1)) ∧
((AV.isOne (AV.bin Go.BinOp.sub (AV.cel x0 0) (AV.cel x1 0))) ∧
((AV.isOne (AV.bin Go.BinOp.sub (AV.cel x0 1) (AV.cel x1 1))) ∧
((AV.flat (AV.agg [(AV.bin Go.BinOp.sub (AV.cel x0 0) (AV.cel x1 0)), (AV.bin Go.BinOp.sub (AV.cel x0 1) (AV.cel x1 1))])) ∧
(fSame (AV.agg [(AV.bin Go.BinOp.sub (AV.cel x0 0) (AV.cel x1 0)), (AV.bin Go.BinOp.sub (AV.cel x0 1) (AV.cel x1 1))]) r))))))))) := by kernel_rfl
theorem dot_form (x0 x1 r : AV) : fnF Tryz.prog Γ ann 3 299 Tryz.f299 (Tryz.f299.body.getD .skip) (.nil) [x0, x1] (.sc) r = (((AV.isAgg x0 2) ∧
((AV.isAgg x1 2) ∧
((AV.binOk Go.BinOp.mul (AV.cel x0 0) (AV.cel x1 0)) ∧
((AV.binOk Go.BinOp.mul (AV.cel x0 1) (AV.cel x1 1)) ∧
((AV.binOk Go.BinOp.add (AV.bin Go.BinOp.mul (AV.cel x0 0) (AV.cel x1 0)) (AV.bin Go.BinOp.mul (AV.cel x0 1) (AV.cel x1 1))) ∧
((AV.flat (AV.bin Go.BinOp.add (AV.bin Go.BinOp.mul (AV.cel x0 0) (AV.cel x1 0)) (AV.bin Go.BinOp.mul (AV.cel x0 1) (AV.cel x1 1)))) ∧
(fSame (AV.bin Go.BinOp.add (AV.bin Go.BinOp.mul (AV.cel x0 0) (AV.cel x1 0)) (AV.bin Go.BinOp.mul (AV.cel x0 1) (AV.cel x1 1))) r)))))))) := by kernel_rfl
theorem square_form (x0 x1 r : AV) : fnF Tryz.prog Γ ann 3 251 Tryz.f251 (Tryz.f251.body.getD .skip) (.nil) [x0, x1] (.sc) r = (((AV.isAgg x0 2) ∧
((AV.isAgg x1 2) ∧
(∃ r321 : AV, ((Fn Tryz.prog 230 [(AV.agg [(AV.cel x0 0), (AV.cel x0 1)]), (AV.agg [(AV.cel x1 0), (AV.cel x1 1)])] Sh.sc r321) ∧
((AV.isAgg r321 2) ∧
(∃ r641 : AV, ((Fn Tryz.prog 299 [(AV.agg [(AV.cel r321 0), (AV.cel r321 1)]), (AV.agg [(AV.cel r321 0), (AV.cel r321 1)])] Sh.sc r641) ∧
((AV.flat r641) ∧
(fSame r641 r)))))))))) := by kernel_rfl
theorem divd_form (x0 x1 r : AV) : fnF Tryz.prog Γ ann 3 193 Tryz.f193 (Tryz.f193.body.getD .skip) (.nil) [x0, x1] (.tup [.sc, .sc]) r = (((AV.binOk Go.BinOp.eql x1 (AV.int 0)) ∧
((AV.isBool (AV.bin Go.BinOp.eql x1 (AV.int 0))) ∧
(((isT (AV.bin Go.BinOp.eql x1 (AV.int 0))) →
  ((AV.flat (AV.int 0)) ∧
  ((AV.flat (AV.int 10)) ∧
  (fSame (AV.tup [(AV.int 0), (AV.int 10)]) r)))) ∧
((isF (AV.bin Go.BinOp.eql x1 (AV.int 0))) →
  ((AV.binOk Go.BinOp.eql x0 (AV.int (-9223372036854775808))) ∧
  ((AV.isBool (AV.bin Go.BinOp.eql x0 (AV.int (-9223372036854775808)))) ∧
  (((isT (AV.bin Go.BinOp.eql x0 (AV.int (-9223372036854775808)))) →
    ((AV.binOk Go.BinOp.eql x1 (AV.int (-1))) ∧
    ((AV.isBool (AV.bin Go.BinOp.eql x0 (AV.int (-9223372036854775808)))) ∧
    ((isT (AV.bin Go.BinOp.eql x0 (AV.int (-9223372036854775808)))) ∧
    ((AV.isBool (AV.bin Go.BinOp.eql x1 (AV.int (-1)))) ∧
    (((isT (AV.bin Go.BinOp.eql x1 (AV.int (-1)))) →
      ((AV.flat (AV.int 0)) ∧
      ((AV.flat (AV.int 2)) ∧
      (fSame (AV.tup [(AV.int 0), (AV.int 2)]) r)))) ∧
    ((isF (AV.bin Go.BinOp.eql x1 (AV.int (-1)))) →
      ((AV.binOk Go.BinOp.quo x0 x1) ∧
      ((AV.binOk Go.BinOp.rem x0 x1) ∧
      ((AV.binOk Go.BinOp.neq (AV.bin Go.BinOp.rem x0 x1) (AV.int 0)) ∧
      ((AV.isBool (AV.bin Go.BinOp.neq (AV.bin Go.BinOp.rem x0 x1) (AV.int 0))) ∧
      (((isT (AV.bin Go.BinOp.neq (AV.bin Go.BinOp.rem x0 x1) (AV.int 0))) →
        ((AV.binOk Go.BinOp.lss x0 (AV.int 0)) ∧
        ((AV.binOk Go.BinOp.lss x1 (AV.int 0)) ∧
        ((AV.isBool (AV.bin Go.BinOp.lss x0 (AV.int 0))) ∧
        ((AV.isBool (AV.bin Go.BinOp.lss x1 (AV.int 0))) ∧
        ((AV.isBool (AV.bin Go.BinOp.neq (AV.bin Go.BinOp.rem x0 x1) (AV.int 0))) ∧
        ((isT (AV.bin Go.BinOp.neq (AV.bin Go.BinOp.rem x0 x1) (AV.int 0))) ∧
        ((AV.isBool (AV.neB (AV.bin Go.BinOp.lss x0 (AV.int 0)) (AV.bin Go.BinOp.lss x1 (AV.int 0)))) ∧
        (((isT (AV.neB (AV.bin Go.BinOp.lss x0 (AV.int 0)) (AV.bin Go.BinOp.lss x1 (AV.int 0)))) →
          ((AV.binOk Go.BinOp.sub (AV.bin Go.BinOp.quo x0 x1) (AV.int 1)) ∧
          ((AV.flat (AV.bin Go.BinOp.sub (AV.bin Go.BinOp.quo x0 x1) (AV.int 1))) ∧
          ((AV.flat (AV.int 0)) ∧
          (fSame (AV.tup [(AV.bin Go.BinOp.sub (AV.bin Go.BinOp.quo x0 x1) (AV.int 1)), (AV.int 0)]) r))))) ∧
        ((isF (AV.neB (AV.bin Go.BinOp.lss x0 (AV.int 0)) (AV.bin Go.BinOp.lss x1 (AV.int 0)))) →
          ((AV.flat (AV.bin Go.BinOp.quo x0 x1)) ∧
          ((AV.flat (AV.int 0)) ∧
          (fSame (AV.tup [(AV.bin Go.BinOp.quo x0 x1), (AV.int 0)]) r))))))))))))) ∧
      ((isF (AV.bin Go.BinOp.neq (AV.bin Go.BinOp.rem x0 x1) (AV.int 0))) →
        ((AV.isBool (AV.bin Go.BinOp.neq (AV.bin Go.BinOp.rem x0 x1) (AV.int 0))) ∧
        ((isF (AV.bin Go.BinOp.neq (AV.bin Go.BinOp.rem x0 x1) (AV.int 0))) ∧
        ((AV.flat (AV.bin Go.BinOp.quo x0 x1)) ∧
        ((AV.flat (AV.int 0)) ∧
        (fSame (AV.tup [(AV.bin Go.BinOp.quo x0 x1), (AV.int 0)]) r)))))))))))))))))) ∧
  ((isF (AV.bin Go.BinOp.eql x0 (AV.int (-9223372036854775808)))) →
    ((AV.isBool (AV.bin Go.BinOp.eql x0 (AV.int (-9223372036854775808)))) ∧
    ((isF (AV.bin Go.BinOp.eql x0 (AV.int (-9223372036854775808)))) ∧
    ((AV.binOk Go.BinOp.quo x0 x1) ∧
    ((AV.binOk Go.BinOp.rem x0 x1) ∧
    ((AV.binOk Go.BinOp.neq (AV.bin Go.BinOp.rem x0 x1) (AV.int 0)) ∧
    ((AV.isBool (AV.bin Go.BinOp.neq (AV.bin Go.BinOp.rem x0 x1) (AV.int 0))) ∧
    (((isT (AV.bin Go.BinOp.neq (AV.bin Go.BinOp.rem x0 x1) (AV.int 0))) →
      ((AV.binOk Go.BinOp.lss x0 (AV.int 0)) ∧
      ((AV.binOk Go.BinOp.lss x1 (AV.int 0)) ∧
      ((AV.isBool (AV.bin Go.BinOp.lss x0 (AV.int 0))) ∧
      ((AV.isBool (AV.bin Go.BinOp.lss x1 (AV.int 0))) ∧
      ((AV.isBool (AV.bin Go.BinOp.neq (AV.bin Go.BinOp.rem x0 x1) (AV.int 0))) ∧
      ((isT (AV.bin Go.BinOp.neq (AV.bin Go.BinOp.rem x0 x1) (AV.int 0))) ∧
      ((AV.isBool (AV.neB (AV.bin Go.BinOp.lss x0 (AV.int 0)) (AV.bin Go.BinOp.lss x1 (AV.int 0)))) ∧
      (((isT (AV.neB (AV.bin Go.BinOp.lss x0 (AV.int 0)) (AV.bin Go.BinOp.lss x1 (AV.int 0)))) →
        ((AV.binOk Go.BinOp.sub (AV.bin Go.BinOp.quo x0 x1) (AV.int 1)) ∧
        ((AV.flat (AV.bin Go.BinOp.sub (AV.bin Go.BinOp.quo x0 x1) (AV.int 1))) ∧
        ((AV.flat (AV.int 0)) ∧
        (fSame (AV.tup [(AV.bin Go.BinOp.sub (AV.bin Go.BinOp.quo x0 x1) (AV.int 1)), (AV.int 0)]) r))))) ∧
      ((isF (AV.neB (AV.bin Go.BinOp.lss x0 (AV.int 0)) (AV.bin Go.BinOp.lss x1 (AV.int 0)))) →
        ((AV.flat (AV.bin Go.BinOp.quo x0 x1)) ∧
        ((AV.flat (AV.int 0)) ∧
        (fSame (AV.tup [(AV.bin Go.BinOp.quo x0 x1), (AV.int 0)]) r))))))))))))) ∧
    ((isF (AV.bin Go.BinOp.neq (AV.bin Go.BinOp.rem x0 x1) (AV.int 0))) →
      ((AV.isBool (AV.bin Go.BinOp.neq (AV.bin Go.BinOp.rem x0 x1) (AV.int 0))) ∧
      ((isF (AV.bin Go.BinOp.neq (AV.bin Go.BinOp.rem x0 x1) (AV.int 0))) ∧
      ((AV.flat (AV.bin Go.BinOp.quo x0 x1)) ∧
      ((AV.flat (AV.int 0)) ∧
      (fSame (AV.tup [(AV.bin Go.BinOp.quo x0 x1), (AV.int 0)]) r)))))))))))))))))))))) := by kernel_rfl
theorem divu_form (x0 x1 r : AV) : fnF Tryz.prog Γ ann 3 194 Tryz.f194 (Tryz.f194.body.getD .skip) (.nil) [x0, x1] (.tup [.sc, .sc]) r = ((∃ r257 : AV, ((Fn Tryz.prog 193 [x0, x1] (Sh.tup [Sh.sc, Sh.sc]) r257) ∧
((AV.binOk Go.BinOp.eql (AV.prj r257 1) (AV.int 0)) ∧
((AV.isBool (AV.bin Go.BinOp.eql (AV.prj r257 1) (AV.int 0))) ∧
(((isT (AV.bin Go.BinOp.eql (AV.prj r257 1) (AV.int 0))) →
  ((AV.binOk Go.BinOp.rem x0 x1) ∧
  ((AV.binOk Go.BinOp.neq (AV.bin Go.BinOp.rem x0 x1) (AV.int 0)) ∧
  ((AV.isBool (AV.bin Go.BinOp.eql (AV.prj r257 1) (AV.int 0))) ∧
  ((isT (AV.bin Go.BinOp.eql (AV.prj r257 1) (AV.int 0))) ∧
  ((AV.isBool (AV.bin Go.BinOp.neq (AV.bin Go.BinOp.rem x0 x1) (AV.int 0))) ∧
  (((isT (AV.bin Go.BinOp.neq (AV.bin Go.BinOp.rem x0 x1) (AV.int 0))) →
    ((AV.binOk Go.BinOp.add (AV.prj r257 0) (AV.int 1)) ∧
    ((AV.flat (AV.bin Go.BinOp.add (AV.prj r257 0) (AV.int 1))) ∧
    ((AV.flat (AV.prj r257 1)) ∧
    (fSame (AV.tup [(AV.bin Go.BinOp.add (AV.prj r257 0) (AV.int 1)), (AV.prj r257 1)]) r))))) ∧
  ((isF (AV.bin Go.BinOp.neq (AV.bin Go.BinOp.rem x0 x1) (AV.int 0))) →
    ((AV.flat (AV.prj r257 0)) ∧
    ((AV.flat (AV.prj r257 1)) ∧
    (fSame (AV.tup [(AV.prj r257 0), (AV.prj r257 1)]) r))))))))))) ∧
((isF (AV.bin Go.BinOp.eql (AV.prj r257 1) (AV.int 0))) →
  ((AV.isBool (AV.bin Go.BinOp.eql (AV.prj r257 1) (AV.int 0))) ∧
  ((isF (AV.bin Go.BinOp.eql (AV.prj r257 1) (AV.int 0))) ∧
  ((AV.flat (AV.prj r257 0)) ∧
  ((AV.flat (AV.prj r257 1)) ∧
  (fSame (AV.tup [(AV.prj r257 0), (AV.prj r257 1)]) r)))))))))))) := by kernel_rfl
theorem toward_form (x0 x1 x2 x3 r : AV) : fnF Tryz.prog Γ ann 3 192 Tryz.f192 (Tryz.f192.body.getD .skip) (.nil) [x0, x1, x2, x3] (.tup [.sc, .sc]) r = (((AV.isAgg x0 2) ∧
((AV.isAgg x1 2) ∧
((AV.binOk Go.BinOp.leq x3 (AV.int 0)) ∧
((AV.isBool (AV.bin Go.BinOp.leq x3 (AV.int 0))) ∧
(((isT (AV.bin Go.BinOp.leq x3 (AV.int 0))) →
  ((AV.flat (AV.agg [(AV.int 0), (AV.int 0)])) ∧
  ((AV.flat (AV.int 10)) ∧
  (fSame (AV.tup [(AV.agg [(AV.int 0), (AV.int 0)]), (AV.int 10)]) r)))) ∧
((isF (AV.bin Go.BinOp.leq x3 (AV.int 0))) →
  ((AV.binOk Go.BinOp.gtr x3 (AV.int 200000)) ∧
  ((AV.isBool (AV.bin Go.BinOp.gtr x3 (AV.int 200000))) ∧
  (((isT (AV.bin Go.BinOp.gtr x3 (AV.int 200000))) →
    ((AV.isBool (AV.bin Go.BinOp.gtr x3 (AV.int 200000))) ∧
    ((isT (AV.bin Go.BinOp.gtr x3 (AV.int 200000))) ∧
    ((AV.flat (AV.agg [(AV.int 0), (AV.int 0)])) ∧
    ((AV.flat (AV.int 4)) ∧
    (fSame (AV.tup [(AV.agg [(AV.int 0), (AV.int 0)]), (AV.int 4)]) r)))))) ∧
  ((isF (AV.bin Go.BinOp.gtr x3 (AV.int 200000))) →
    ((AV.binOk Go.BinOp.lss x2 (AV.int 0)) ∧
    ((AV.isBool (AV.bin Go.BinOp.gtr x3 (AV.int 200000))) ∧
    ((isF (AV.bin Go.BinOp.gtr x3 (AV.int 200000))) ∧
    ((AV.isBool (AV.bin Go.BinOp.lss x2 (AV.int 0))) ∧
    (((isT (AV.bin Go.BinOp.lss x2 (AV.int 0))) →
      ((AV.isBool (AV.bin Go.BinOp.lss x2 (AV.int 0))) ∧
      ((isT (AV.bin Go.BinOp.lss x2 (AV.int 0))) ∧
      ((AV.flat (AV.agg [(AV.int 0), (AV.int 0)])) ∧
      ((AV.flat (AV.int 4)) ∧
      (fSame (AV.tup [(AV.agg [(AV.int 0), (AV.int 0)]), (AV.int 4)]) r)))))) ∧
    ((isF (AV.bin Go.BinOp.lss x2 (AV.int 0))) →
      ((AV.binOk Go.BinOp.gtr x2 x3) ∧
      ((AV.isBool (AV.bin Go.BinOp.lss x2 (AV.int 0))) ∧
      ((isF (AV.bin Go.BinOp.lss x2 (AV.int 0))) ∧
      ((AV.isBool (AV.bin Go.BinOp.gtr x2 x3)) ∧
      (((isT (AV.bin Go.BinOp.gtr x2 x3)) →
        ((AV.flat (AV.agg [(AV.int 0), (AV.int 0)])) ∧
        ((AV.flat (AV.int 4)) ∧
        (fSame (AV.tup [(AV.agg [(AV.int 0), (AV.int 0)]), (AV.int 4)]) r)))) ∧
      ((isF (AV.bin Go.BinOp.gtr x2 x3)) →
        (∃ r1281 : AV, ((Fn Tryz.prog 67 [(AV.agg [(AV.cel x0 0), (AV.cel x0 1)])] Sh.sc r1281) ∧
        ((AV.binOk Go.BinOp.neq r1281 (AV.int 0)) ∧
        ((AV.isBool (AV.bin Go.BinOp.neq r1281 (AV.int 0))) ∧
        (((isT (AV.bin Go.BinOp.neq r1281 (AV.int 0))) →
          (∃ r1601 : AV, ((Fn Tryz.prog 67 [(AV.agg [(AV.cel x0 0), (AV.cel x0 1)])] Sh.sc r1601) ∧
          ((AV.flat (AV.agg [(AV.int 0), (AV.int 0)])) ∧
          ((AV.flat r1601) ∧
          (fSame (AV.tup [(AV.agg [(AV.int 0), (AV.int 0)]), r1601]) r)))))) ∧
        ((isF (AV.bin Go.BinOp.neq r1281 (AV.int 0))) →
          (∃ r1537 : AV, ((Fn Tryz.prog 67 [(AV.agg [(AV.cel x1 0), (AV.cel x1 1)])] Sh.sc r1537) ∧
          ((AV.binOk Go.BinOp.neq r1537 (AV.int 0)) ∧
          ((AV.isBool (AV.bin Go.BinOp.neq r1537 (AV.int 0))) ∧
          (((isT (AV.bin Go.BinOp.neq r1537 (AV.int 0))) →
            (∃ r1857 : AV, ((Fn Tryz.prog 67 [(AV.agg [(AV.cel x1 0), (AV.cel x1 1)])] Sh.sc r1857) ∧
            ((AV.flat (AV.agg [(AV.int 0), (AV.int 0)])) ∧
            ((AV.flat r1857) ∧
            (fSame (AV.tup [(AV.agg [(AV.int 0), (AV.int 0)]), r1857]) r)))))) ∧
          ((isF (AV.bin Go.BinOp.neq r1537 (AV.int 0))) →
            ((AV.binOk Go.BinOp.sub (AV.cel x1 0) (AV.cel x0 0)) ∧
            ((AV.binOk Go.BinOp.mul (AV.bin Go.BinOp.sub (AV.cel x1 0) (AV.cel x0 0)) x2) ∧
            (∃ r2241 : AV, ((Fn Tryz.prog 193 [(AV.bin Go.BinOp.mul (AV.bin Go.BinOp.sub (AV.cel x1 0) (AV.cel x0 0)) x2), x3] (Sh.tup [Sh.sc, Sh.sc]) r2241) ∧
            ((AV.binOk Go.BinOp.sub (AV.cel x1 1) (AV.cel x0 1)) ∧
            ((AV.binOk Go.BinOp.mul (AV.bin Go.BinOp.sub (AV.cel x1 1) (AV.cel x0 1)) x2) ∧
            (∃ r3137 : AV, ((Fn Tryz.prog 193 [(AV.bin Go.BinOp.mul (AV.bin Go.BinOp.sub (AV.cel x1 1) (AV.cel x0 1)) x2), x3] (Sh.tup [Sh.sc, Sh.sc]) r3137) ∧
            ((AV.binOk Go.BinOp.add (AV.cel x0 0) (AV.prj r2241 0)) ∧
            ((AV.binOk Go.BinOp.add (AV.cel x0 1) (AV.prj r3137 0)) ∧
            ((AV.isOne (AV.bin Go.BinOp.add (AV.cel x0 0) (AV.prj r2241 0))) ∧
            ((AV.isOne (AV.bin Go.BinOp.add (AV.cel x0 1) (AV.prj r3137 0))) ∧
            ((AV.flat (AV.agg [(AV.bin Go.BinOp.add (AV.cel x0 0) (AV.prj r2241 0)), (AV.bin Go.BinOp.add (AV.cel x0 1) (AV.prj r3137 0))])) ∧
            ((AV.flat (AV.int 0)) ∧
            (fSame (AV.tup [(AV.agg [(AV.bin Go.BinOp.add (AV.cel x0 0) (AV.prj r2241 0)), (AV.bin Go.BinOp.add (AV.cel x0 1) (AV.prj r3137 0))]), (AV.int 0)]) r)))))))))))))))))))))))))))))))))))))))))))))))))) := by kernel_rfl
theorem tcheck_form (x0 r : AV) : fnF Tryz.prog Γ ann 3 20 Tryz.f20 (Tryz.f20.body.getD .skip) (.nil) [x0] (.sc) r = (((AV.isSl x0 6) ∧
((AV.binOk Go.BinOp.gtr (AV.len x0) (AV.int 64)) ∧
((AV.isBool (AV.bin Go.BinOp.gtr (AV.len x0) (AV.int 64))) ∧
(((isT (AV.bin Go.BinOp.gtr (AV.len x0) (AV.int 64))) →
  ((AV.flat (AV.int 2)) ∧
  (fSame (AV.int 2) r))) ∧
((isF (AV.bin Go.BinOp.gtr (AV.len x0) (AV.int 64))) →
  ((AV.isSl x0 6) ∧
  ((AV.binOk Go.BinOp.eql (AV.len x0) (AV.int 0)) ∧
  ((AV.isBool (AV.bin Go.BinOp.eql (AV.len x0) (AV.int 0))) ∧
  (((isT (AV.bin Go.BinOp.eql (AV.len x0) (AV.int 0))) →
    ((AV.flat (AV.int 3)) ∧
    (fSame (AV.int 3) r))) ∧
  ((isF (AV.bin Go.BinOp.eql (AV.len x0) (AV.int 0))) →
    ((AV.isSl x0 6) ∧
    (fLoop 769 [(AV.int 0)] fun ys769 again769 =>
      ((AV.binOk Go.BinOp.lss (ys769.getD 0 default) (AV.len x0)) ∧
      ((AV.isBool (AV.bin Go.BinOp.lss (ys769.getD 0 default) (AV.len x0))) ∧
      (((isT (AV.bin Go.BinOp.lss (ys769.getD 0 default) (AV.len x0))) →
        ((AV.isSl x0 6) ∧
        ((AV.inb x0 (ys769.getD 0 default)) ∧
        ((AV.isAgg (AV.atAgg x0 (ys769.getD 0 default) 0 6) 6) ∧
        ((AV.binOk Go.BinOp.lss (AV.cel (AV.atAgg x0 (ys769.getD 0 default) 0 6) 0) (AV.int 0)) ∧
        ((AV.isBool (AV.bin Go.BinOp.lss (AV.cel (AV.atAgg x0 (ys769.getD 0 default) 0 6) 0) (AV.int 0))) ∧
        (((isT (AV.bin Go.BinOp.lss (AV.cel (AV.atAgg x0 (ys769.getD 0 default) 0 6) 0) (AV.int 0))) →
          ((AV.isBool (AV.bin Go.BinOp.lss (AV.cel (AV.atAgg x0 (ys769.getD 0 default) 0 6) 0) (AV.int 0))) ∧
          ((isT (AV.bin Go.BinOp.lss (AV.cel (AV.atAgg x0 (ys769.getD 0 default) 0 6) 0) (AV.int 0))) ∧
          ((AV.flat (AV.int 12)) ∧
          (fSame (AV.int 12) r))))) ∧
        ((isF (AV.bin Go.BinOp.lss (AV.cel (AV.atAgg x0 (ys769.getD 0 default) 0 6) 0) (AV.int 0))) →
          ((AV.binOk Go.BinOp.gtr (AV.cel (AV.atAgg x0 (ys769.getD 0 default) 0 6) 0) (AV.int 200000)) ∧
          ((AV.isBool (AV.bin Go.BinOp.lss (AV.cel (AV.atAgg x0 (ys769.getD 0 default) 0 6) 0) (AV.int 0))) ∧
          ((isF (AV.bin Go.BinOp.lss (AV.cel (AV.atAgg x0 (ys769.getD 0 default) 0 6) 0) (AV.int 0))) ∧
          ((AV.isBool (AV.bin Go.BinOp.gtr (AV.cel (AV.atAgg x0 (ys769.getD 0 default) 0 6) 0) (AV.int 200000))) ∧
          (((isT (AV.bin Go.BinOp.gtr (AV.cel (AV.atAgg x0 (ys769.getD 0 default) 0 6) 0) (AV.int 200000))) →
            ((AV.isBool (AV.bin Go.BinOp.gtr (AV.cel (AV.atAgg x0 (ys769.getD 0 default) 0 6) 0) (AV.int 200000))) ∧
            ((isT (AV.bin Go.BinOp.gtr (AV.cel (AV.atAgg x0 (ys769.getD 0 default) 0 6) 0) (AV.int 200000))) ∧
            ((AV.flat (AV.int 12)) ∧
            (fSame (AV.int 12) r))))) ∧
          ((isF (AV.bin Go.BinOp.gtr (AV.cel (AV.atAgg x0 (ys769.getD 0 default) 0 6) 0) (AV.int 200000))) →
            ((AV.binOk Go.BinOp.gtr (ys769.getD 0 default) (AV.int 0)) ∧
            ((AV.isBool (AV.bin Go.BinOp.gtr (ys769.getD 0 default) (AV.int 0))) ∧
            (((isT (AV.bin Go.BinOp.gtr (ys769.getD 0 default) (AV.int 0))) →
              ((AV.binOk Go.BinOp.sub (ys769.getD 0 default) (AV.int 1)) ∧
              ((AV.isSl x0 6) ∧
              ((AV.inb x0 (AV.bin Go.BinOp.sub (ys769.getD 0 default) (AV.int 1))) ∧
              ((AV.binOk Go.BinOp.leq (AV.cel (AV.atAgg x0 (ys769.getD 0 default) 0 6) 0) (AV.at x0 (AV.bin Go.BinOp.sub (ys769.getD 0 default) (AV.int 1)) 0)) ∧
              ((AV.isBool (AV.bin Go.BinOp.gtr (ys769.getD 0 default) (AV.int 0))) ∧
              ((isT (AV.bin Go.BinOp.gtr (ys769.getD 0 default) (AV.int 0))) ∧
              ((AV.isBool (AV.bin Go.BinOp.gtr (AV.cel (AV.atAgg x0 (ys769.getD 0 default) 0 6) 0) (AV.int 200000))) ∧
              ((isF (AV.bin Go.BinOp.gtr (AV.cel (AV.atAgg x0 (ys769.getD 0 default) 0 6) 0) (AV.int 200000))) ∧
              ((AV.isBool (AV.bin Go.BinOp.leq (AV.cel (AV.atAgg x0 (ys769.getD 0 default) 0 6) 0) (AV.at x0 (AV.bin Go.BinOp.sub (ys769.getD 0 default) (AV.int 1)) 0))) ∧
              (((isT (AV.bin Go.BinOp.leq (AV.cel (AV.atAgg x0 (ys769.getD 0 default) 0 6) 0) (AV.at x0 (AV.bin Go.BinOp.sub (ys769.getD 0 default) (AV.int 1)) 0))) →
                ((AV.flat (AV.int 12)) ∧
                (fSame (AV.int 12) r))) ∧
              ((isF (AV.bin Go.BinOp.leq (AV.cel (AV.atAgg x0 (ys769.getD 0 default) 0 6) 0) (AV.at x0 (AV.bin Go.BinOp.sub (ys769.getD 0 default) (AV.int 1)) 0))) →
                (∃ r3137 : AV, ((Fn Tryz.prog 67 [(AV.agg [(AV.cel (AV.atAgg x0 (ys769.getD 0 default) 0 6) 1), (AV.cel (AV.atAgg x0 (ys769.getD 0 default) 0 6) 2)])] Sh.sc r3137) ∧
                ((AV.binOk Go.BinOp.neq r3137 (AV.int 0)) ∧
                ((AV.isBool (AV.bin Go.BinOp.neq r3137 (AV.int 0))) ∧
                (((isT (AV.bin Go.BinOp.neq r3137 (AV.int 0))) →
                  ((AV.flat r3137) ∧
                  (fSame r3137 r))) ∧
                ((isF (AV.bin Go.BinOp.neq r3137 (AV.int 0))) →
                  ((AV.binOk Go.BinOp.lss (AV.cel (AV.atAgg x0 (ys769.getD 0 default) 0 6) 3) (AV.int 0)) ∧
                  ((AV.isBool (AV.bin Go.BinOp.lss (AV.cel (AV.atAgg x0 (ys769.getD 0 default) 0 6) 3) (AV.int 0))) ∧
                  (((isT (AV.bin Go.BinOp.lss (AV.cel (AV.atAgg x0 (ys769.getD 0 default) 0 6) 3) (AV.int 0))) →
                    ((AV.isBool (AV.bin Go.BinOp.lss (AV.cel (AV.atAgg x0 (ys769.getD 0 default) 0 6) 3) (AV.int 0))) ∧
                    ((isT (AV.bin Go.BinOp.lss (AV.cel (AV.atAgg x0 (ys769.getD 0 default) 0 6) 3) (AV.int 0))) ∧
                    ((AV.flat (AV.int 4)) ∧
                    (fSame (AV.int 4) r))))) ∧
                  ((isF (AV.bin Go.BinOp.lss (AV.cel (AV.atAgg x0 (ys769.getD 0 default) 0 6) 3) (AV.int 0))) →
                    ((AV.binOk Go.BinOp.gtr (AV.cel (AV.atAgg x0 (ys769.getD 0 default) 0 6) 3) (AV.int 60000)) ∧
                    ((AV.isBool (AV.bin Go.BinOp.lss (AV.cel (AV.atAgg x0 (ys769.getD 0 default) 0 6) 3) (AV.int 0))) ∧
                    ((isF (AV.bin Go.BinOp.lss (AV.cel (AV.atAgg x0 (ys769.getD 0 default) 0 6) 3) (AV.int 0))) ∧
                    ((AV.isBool (AV.bin Go.BinOp.gtr (AV.cel (AV.atAgg x0 (ys769.getD 0 default) 0 6) 3) (AV.int 60000))) ∧
                    (((isT (AV.bin Go.BinOp.gtr (AV.cel (AV.atAgg x0 (ys769.getD 0 default) 0 6) 3) (AV.int 60000))) →
                      ((AV.isBool (AV.bin Go.BinOp.gtr (AV.cel (AV.atAgg x0 (ys769.getD 0 default) 0 6) 3) (AV.int 60000))) ∧
                      ((isT (AV.bin Go.BinOp.gtr (AV.cel (AV.atAgg x0 (ys769.getD 0 default) 0 6) 3) (AV.int 60000))) ∧
                      ((AV.flat (AV.int 4)) ∧
                      (fSame (AV.int 4) r))))) ∧
                    ((isF (AV.bin Go.BinOp.gtr (AV.cel (AV.atAgg x0 (ys769.getD 0 default) 0 6) 3) (AV.int 60000))) →
                      ((AV.binOk Go.BinOp.lss (AV.cel (AV.atAgg x0 (ys769.getD 0 default) 0 6) 4) (AV.int 0)) ∧
                      ((AV.isBool (AV.bin Go.BinOp.gtr (AV.cel (AV.atAgg x0 (ys769.getD 0 default) 0 6) 3) (AV.int 60000))) ∧
                      ((isF (AV.bin Go.BinOp.gtr (AV.cel (AV.atAgg x0 (ys769.getD 0 default) 0 6) 3) (AV.int 60000))) ∧
                      ((AV.isBool (AV.bin Go.BinOp.lss (AV.cel (AV.atAgg x0 (ys769.getD 0 default) 0 6) 4) (AV.int 0))) ∧
                      (((isT (AV.bin Go.BinOp.lss (AV.cel (AV.atAgg x0 (ys769.getD 0 default) 0 6) 4) (AV.int 0))) →
                        ((AV.isBool (AV.bin Go.BinOp.lss (AV.cel (AV.atAgg x0 (ys769.getD 0 default) 0 6) 4) (AV.int 0))) ∧
                        ((isT (AV.bin Go.BinOp.lss (AV.cel (AV.atAgg x0 (ys769.getD 0 default) 0 6) 4) (AV.int 0))) ∧
                        ((AV.flat (AV.int 4)) ∧
                        (fSame (AV.int 4) r))))) ∧
                      ((isF (AV.bin Go.BinOp.lss (AV.cel (AV.atAgg x0 (ys769.getD 0 default) 0 6) 4) (AV.int 0))) →
                        ((AV.binOk Go.BinOp.gtr (AV.cel (AV.atAgg x0 (ys769.getD 0 default) 0 6) 4) (AV.int 1000000)) ∧
                        ((AV.isBool (AV.bin Go.BinOp.lss (AV.cel (AV.atAgg x0 (ys769.getD 0 default) 0 6) 4) (AV.int 0))) ∧
                        ((isF (AV.bin Go.BinOp.lss (AV.cel (AV.atAgg x0 (ys769.getD 0 default) 0 6) 4) (AV.int 0))) ∧
                        ((AV.isBool (AV.bin Go.BinOp.gtr (AV.cel (AV.atAgg x0 (ys769.getD 0 default) 0 6) 4) (AV.int 1000000))) ∧
                        (((isT (AV.bin Go.BinOp.gtr (AV.cel (AV.atAgg x0 (ys769.getD 0 default) 0 6) 4) (AV.int 1000000))) →
                          ((AV.isBool (AV.bin Go.BinOp.gtr (AV.cel (AV.atAgg x0 (ys769.getD 0 default) 0 6) 4) (AV.int 1000000))) ∧
                          ((isT (AV.bin Go.BinOp.gtr (AV.cel (AV.atAgg x0 (ys769.getD 0 default) 0 6) 4) (AV.int 1000000))) ∧
                          ((AV.flat (AV.int 4)) ∧
                          (fSame (AV.int 4) r))))) ∧
                        ((isF (AV.bin Go.BinOp.gtr (AV.cel (AV.atAgg x0 (ys769.getD 0 default) 0 6) 4) (AV.int 1000000))) →
                          ((AV.binOk Go.BinOp.lss (AV.cel (AV.atAgg x0 (ys769.getD 0 default) 0 6) 5) (AV.int 0)) ∧
                          ((AV.isBool (AV.bin Go.BinOp.gtr (AV.cel (AV.atAgg x0 (ys769.getD 0 default) 0 6) 4) (AV.int 1000000))) ∧
                          ((isF (AV.bin Go.BinOp.gtr (AV.cel (AV.atAgg x0 (ys769.getD 0 default) 0 6) 4) (AV.int 1000000))) ∧
                          ((AV.isBool (AV.bin Go.BinOp.lss (AV.cel (AV.atAgg x0 (ys769.getD 0 default) 0 6) 5) (AV.int 0))) ∧
                          (((isT (AV.bin Go.BinOp.lss (AV.cel (AV.atAgg x0 (ys769.getD 0 default) 0 6) 5) (AV.int 0))) →
                            ((AV.isBool (AV.bin Go.BinOp.lss (AV.cel (AV.atAgg x0 (ys769.getD 0 default) 0 6) 5) (AV.int 0))) ∧
                            ((isT (AV.bin Go.BinOp.lss (AV.cel (AV.atAgg x0 (ys769.getD 0 default) 0 6) 5) (AV.int 0))) ∧
                            ((AV.flat (AV.int 4)) ∧
                            (fSame (AV.int 4) r))))) ∧
                          ((isF (AV.bin Go.BinOp.lss (AV.cel (AV.atAgg x0 (ys769.getD 0 default) 0 6) 5) (AV.int 0))) →
                            ((AV.binOk Go.BinOp.gtr (AV.cel (AV.atAgg x0 (ys769.getD 0 default) 0 6) 5) (AV.int 60000)) ∧
                            ((AV.isBool (AV.bin Go.BinOp.lss (AV.cel (AV.atAgg x0 (ys769.getD 0 default) 0 6) 5) (AV.int 0))) ∧
                            ((isF (AV.bin Go.BinOp.lss (AV.cel (AV.atAgg x0 (ys769.getD 0 default) 0 6) 5) (AV.int 0))) ∧
                            ((AV.isBool (AV.bin Go.BinOp.gtr (AV.cel (AV.atAgg x0 (ys769.getD 0 default) 0 6) 5) (AV.int 60000))) ∧
                            (((isT (AV.bin Go.BinOp.gtr (AV.cel (AV.atAgg x0 (ys769.getD 0 default) 0 6) 5) (AV.int 60000))) →
                              ((AV.flat (AV.int 4)) ∧
                              (fSame (AV.int 4) r))) ∧
                            ((isF (AV.bin Go.BinOp.gtr (AV.cel (AV.atAgg x0 (ys769.getD 0 default) 0 6) 5) (AV.int 60000))) →
                              ((AV.binOk Go.BinOp.add (ys769.getD 0 default) (AV.int 1)) ∧
                              (again769 [(AV.bin Go.BinOp.add (ys769.getD 0 default) (AV.int 1))])))))))))))))))))))))))))))))))))))))))))))))))))))))) ∧
            ((isF (AV.bin Go.BinOp.gtr (ys769.getD 0 default) (AV.int 0))) →
              ((AV.isBool (AV.bin Go.BinOp.gtr (ys769.getD 0 default) (AV.int 0))) ∧
              ((isF (AV.bin Go.BinOp.gtr (ys769.getD 0 default) (AV.int 0))) ∧
              ((AV.isBool (AV.bin Go.BinOp.gtr (AV.cel (AV.atAgg x0 (ys769.getD 0 default) 0 6) 0) (AV.int 200000))) ∧
              ((isF (AV.bin Go.BinOp.gtr (AV.cel (AV.atAgg x0 (ys769.getD 0 default) 0 6) 0) (AV.int 200000))) ∧
              (∃ r3137 : AV, ((Fn Tryz.prog 67 [(AV.agg [(AV.cel (AV.atAgg x0 (ys769.getD 0 default) 0 6) 1), (AV.cel (AV.atAgg x0 (ys769.getD 0 default) 0 6) 2)])] Sh.sc r3137) ∧
              ((AV.binOk Go.BinOp.neq r3137 (AV.int 0)) ∧
              ((AV.isBool (AV.bin Go.BinOp.neq r3137 (AV.int 0))) ∧
              (((isT (AV.bin Go.BinOp.neq r3137 (AV.int 0))) →
                ((AV.flat r3137) ∧
                (fSame r3137 r))) ∧
              ((isF (AV.bin Go.BinOp.neq r3137 (AV.int 0))) →
                ((AV.binOk Go.BinOp.lss (AV.cel (AV.atAgg x0 (ys769.getD 0 default) 0 6) 3) (AV.int 0)) ∧
                ((AV.isBool (AV.bin Go.BinOp.lss (AV.cel (AV.atAgg x0 (ys769.getD 0 default) 0 6) 3) (AV.int 0))) ∧
                (((isT (AV.bin Go.BinOp.lss (AV.cel (AV.atAgg x0 (ys769.getD 0 default) 0 6) 3) (AV.int 0))) →
                  ((AV.isBool (AV.bin Go.BinOp.lss (AV.cel (AV.atAgg x0 (ys769.getD 0 default) 0 6) 3) (AV.int 0))) ∧
                  ((isT (AV.bin Go.BinOp.lss (AV.cel (AV.atAgg x0 (ys769.getD 0 default) 0 6) 3) (AV.int 0))) ∧
                  ((AV.flat (AV.int 4)) ∧
                  (fSame (AV.int 4) r))))) ∧
                ((isF (AV.bin Go.BinOp.lss (AV.cel (AV.atAgg x0 (ys769.getD 0 default) 0 6) 3) (AV.int 0))) →
                  ((AV.binOk Go.BinOp.gtr (AV.cel (AV.atAgg x0 (ys769.getD 0 default) 0 6) 3) (AV.int 60000)) ∧
                  ((AV.isBool (AV.bin Go.BinOp.lss (AV.cel (AV.atAgg x0 (ys769.getD 0 default) 0 6) 3) (AV.int 0))) ∧
                  ((isF (AV.bin Go.BinOp.lss (AV.cel (AV.atAgg x0 (ys769.getD 0 default) 0 6) 3) (AV.int 0))) ∧
                  ((AV.isBool (AV.bin Go.BinOp.gtr (AV.cel (AV.atAgg x0 (ys769.getD 0 default) 0 6) 3) (AV.int 60000))) ∧
                  (((isT (AV.bin Go.BinOp.gtr (AV.cel (AV.atAgg x0 (ys769.getD 0 default) 0 6) 3) (AV.int 60000))) →
                    ((AV.isBool (AV.bin Go.BinOp.gtr (AV.cel (AV.atAgg x0 (ys769.getD 0 default) 0 6) 3) (AV.int 60000))) ∧
                    ((isT (AV.bin Go.BinOp.gtr (AV.cel (AV.atAgg x0 (ys769.getD 0 default) 0 6) 3) (AV.int 60000))) ∧
                    ((AV.flat (AV.int 4)) ∧
                    (fSame (AV.int 4) r))))) ∧
                  ((isF (AV.bin Go.BinOp.gtr (AV.cel (AV.atAgg x0 (ys769.getD 0 default) 0 6) 3) (AV.int 60000))) →
                    ((AV.binOk Go.BinOp.lss (AV.cel (AV.atAgg x0 (ys769.getD 0 default) 0 6) 4) (AV.int 0)) ∧
                    ((AV.isBool (AV.bin Go.BinOp.gtr (AV.cel (AV.atAgg x0 (ys769.getD 0 default) 0 6) 3) (AV.int 60000))) ∧
                    ((isF (AV.bin Go.BinOp.gtr (AV.cel (AV.atAgg x0 (ys769.getD 0 default) 0 6) 3) (AV.int 60000))) ∧
                    ((AV.isBool (AV.bin Go.BinOp.lss (AV.cel (AV.atAgg x0 (ys769.getD 0 default) 0 6) 4) (AV.int 0))) ∧
                    (((isT (AV.bin Go.BinOp.lss (AV.cel (AV.atAgg x0 (ys769.getD 0 default) 0 6) 4) (AV.int 0))) →
                      ((AV.isBool (AV.bin Go.BinOp.lss (AV.cel (AV.atAgg x0 (ys769.getD 0 default) 0 6) 4) (AV.int 0))) ∧
                      ((isT (AV.bin Go.BinOp.lss (AV.cel (AV.atAgg x0 (ys769.getD 0 default) 0 6) 4) (AV.int 0))) ∧
                      ((AV.flat (AV.int 4)) ∧
                      (fSame (AV.int 4) r))))) ∧
                    ((isF (AV.bin Go.BinOp.lss (AV.cel (AV.atAgg x0 (ys769.getD 0 default) 0 6) 4) (AV.int 0))) →
                      ((AV.binOk Go.BinOp.gtr (AV.cel (AV.atAgg x0 (ys769.getD 0 default) 0 6) 4) (AV.int 1000000)) ∧
                      ((AV.isBool (AV.bin Go.BinOp.lss (AV.cel (AV.atAgg x0 (ys769.getD 0 default) 0 6) 4) (AV.int 0))) ∧
                      ((isF (AV.bin Go.BinOp.lss (AV.cel (AV.atAgg x0 (ys769.getD 0 default) 0 6) 4) (AV.int 0))) ∧
                      ((AV.isBool (AV.bin Go.BinOp.gtr (AV.cel (AV.atAgg x0 (ys769.getD 0 default) 0 6) 4) (AV.int 1000000))) ∧
                      (((isT (AV.bin Go.BinOp.gtr (AV.cel (AV.atAgg x0 (ys769.getD 0 default) 0 6) 4) (AV.int 1000000))) →
                        ((AV.isBool (AV.bin Go.BinOp.gtr (AV.cel (AV.atAgg x0 (ys769.getD 0 default) 0 6) 4) (AV.int 1000000))) ∧
                        ((isT (AV.bin Go.BinOp.gtr (AV.cel (AV.atAgg x0 (ys769.getD 0 default) 0 6) 4) (AV.int 1000000))) ∧
                        ((AV.flat (AV.int 4)) ∧
                        (fSame (AV.int 4) r))))) ∧
                      ((isF (AV.bin Go.BinOp.gtr (AV.cel (AV.atAgg x0 (ys769.getD 0 default) 0 6) 4) (AV.int 1000000))) →
                        ((AV.binOk Go.BinOp.lss (AV.cel (AV.atAgg x0 (ys769.getD 0 default) 0 6) 5) (AV.int 0)) ∧
                        ((AV.isBool (AV.bin Go.BinOp.gtr (AV.cel (AV.atAgg x0 (ys769.getD 0 default) 0 6) 4) (AV.int 1000000))) ∧
                        ((isF (AV.bin Go.BinOp.gtr (AV.cel (AV.atAgg x0 (ys769.getD 0 default) 0 6) 4) (AV.int 1000000))) ∧
                        ((AV.isBool (AV.bin Go.BinOp.lss (AV.cel (AV.atAgg x0 (ys769.getD 0 default) 0 6) 5) (AV.int 0))) ∧
                        (((isT (AV.bin Go.BinOp.lss (AV.cel (AV.atAgg x0 (ys769.getD 0 default) 0 6) 5) (AV.int 0))) →
                          ((AV.isBool (AV.bin Go.BinOp.lss (AV.cel (AV.atAgg x0 (ys769.getD 0 default) 0 6) 5) (AV.int 0))) ∧
                          ((isT (AV.bin Go.BinOp.lss (AV.cel (AV.atAgg x0 (ys769.getD 0 default) 0 6) 5) (AV.int 0))) ∧
                          ((AV.flat (AV.int 4)) ∧
                          (fSame (AV.int 4) r))))) ∧
                        ((isF (AV.bin Go.BinOp.lss (AV.cel (AV.atAgg x0 (ys769.getD 0 default) 0 6) 5) (AV.int 0))) →
                          ((AV.binOk Go.BinOp.gtr (AV.cel (AV.atAgg x0 (ys769.getD 0 default) 0 6) 5) (AV.int 60000)) ∧
                          ((AV.isBool (AV.bin Go.BinOp.lss (AV.cel (AV.atAgg x0 (ys769.getD 0 default) 0 6) 5) (AV.int 0))) ∧
                          ((isF (AV.bin Go.BinOp.lss (AV.cel (AV.atAgg x0 (ys769.getD 0 default) 0 6) 5) (AV.int 0))) ∧
                          ((AV.isBool (AV.bin Go.BinOp.gtr (AV.cel (AV.atAgg x0 (ys769.getD 0 default) 0 6) 5) (AV.int 60000))) ∧
                          (((isT (AV.bin Go.BinOp.gtr (AV.cel (AV.atAgg x0 (ys769.getD 0 default) 0 6) 5) (AV.int 60000))) →
                            ((AV.flat (AV.int 4)) ∧
                            (fSame (AV.int 4) r))) ∧
                          ((isF (AV.bin Go.BinOp.gtr (AV.cel (AV.atAgg x0 (ys769.getD 0 default) 0 6) 5) (AV.int 60000))) →
                            ((AV.binOk Go.BinOp.add (ys769.getD 0 default) (AV.int 1)) ∧
                            (again769 [(AV.bin Go.BinOp.add (ys769.getD 0 default) (AV.int 1))])))))))))))))))))))))))))))))))))))))))))))))))))))))))))))))))) ∧
      ((isF (AV.bin Go.BinOp.lss (ys769.getD 0 default) (AV.len x0))) →
        ((AV.flat (AV.int 0)) ∧
        (fSame (AV.int 0) r))))))))))))))))))) := by kernel_rfl
theorem ends_form (x0 r : AV) : fnF Tryz.prog Γ ann 3 129 Tryz.f129 (Tryz.f129.body.getD .skip) (.nil) [x0] (.tup [.sc, .sc]) r = (((AV.isSl x0 6) ∧
((AV.inb x0 (AV.int 0)) ∧
((AV.isSl x0 6) ∧
((AV.binOk Go.BinOp.sub (AV.len x0) (AV.int 1)) ∧
((AV.isSl x0 6) ∧
((AV.inb x0 (AV.bin Go.BinOp.sub (AV.len x0) (AV.int 1))) ∧
((AV.flat (AV.at x0 (AV.int 0) 0)) ∧
((AV.flat (AV.at x0 (AV.bin Go.BinOp.sub (AV.len x0) (AV.int 1)) 0)) ∧
(fSame (AV.tup [(AV.at x0 (AV.int 0) 0), (AV.at x0 (AV.bin Go.BinOp.sub (AV.len x0) (AV.int 1)) 0)]) r)))))))))) := by kernel_rfl
theorem at_form (x0 x1 r : AV) : fnF Tryz.prog Γ ann 3 130 Tryz.f130 (Tryz.f130.body.getD .skip) (.nil) [x0, x1] (.sc) r = (((fEnt Tryz.prog 190) ∧
(fAllV fun _ => ((AV.isSl x0 6) ∧
(fLoop 769 [(AV.int 0), (AV.len x0)] fun ys769 again769 =>
  ((AV.binOk Go.BinOp.lss (ys769.getD 0 default) (ys769.getD 1 default)) ∧
  ((AV.isBool (AV.bin Go.BinOp.lss (ys769.getD 0 default) (ys769.getD 1 default))) ∧
  (((isT (AV.bin Go.BinOp.lss (ys769.getD 0 default) (ys769.getD 1 default))) →
    ((AV.binOk Go.BinOp.add (ys769.getD 0 default) (ys769.getD 1 default)) ∧
    ((AV.isInt (AV.bin Go.BinOp.add (ys769.getD 0 default) (ys769.getD 1 default))) ∧
    ((AV.shfOk (AV.conv Go.IntKind.u64 (AV.bin Go.BinOp.add (ys769.getD 0 default) (ys769.getD 1 default))) (AV.lit (Value.int Go.IntKind.u64 1))) ∧
    ((AV.isInt (AV.shf Go.BinOp.shr (AV.conv Go.IntKind.u64 (AV.bin Go.BinOp.add (ys769.getD 0 default) (ys769.getD 1 default))) (AV.lit (Value.int Go.IntKind.u64 1)))) ∧
    ((AV.isSl x0 6) ∧
    ((AV.inb x0 (AV.conv Go.IntKind.i64 (AV.shf Go.BinOp.shr (AV.conv Go.IntKind.u64 (AV.bin Go.BinOp.add (ys769.getD 0 default) (ys769.getD 1 default))) (AV.lit (Value.int Go.IntKind.u64 1))))) ∧
    ((fEnt Tryz.prog 191) ∧
    (fAllV fun _ => ((AV.isAgg (AV.atAgg x0 (AV.conv Go.IntKind.i64 (AV.shf Go.BinOp.shr (AV.conv Go.IntKind.u64 (AV.bin Go.BinOp.add (ys769.getD 0 default) (ys769.getD 1 default))) (AV.lit (Value.int Go.IntKind.u64 1)))) 0 6) 6) ∧
    ((AV.binOk Go.BinOp.sub (AV.cel (AV.atAgg x0 (AV.conv Go.IntKind.i64 (AV.shf Go.BinOp.shr (AV.conv Go.IntKind.u64 (AV.bin Go.BinOp.add (ys769.getD 0 default) (ys769.getD 1 default))) (AV.lit (Value.int Go.IntKind.u64 1)))) 0 6) 0) x1) ∧
    ((AV.binOk Go.BinOp.lss (AV.bin Go.BinOp.sub (AV.cel (AV.atAgg x0 (AV.conv Go.IntKind.i64 (AV.shf Go.BinOp.shr (AV.conv Go.IntKind.u64 (AV.bin Go.BinOp.add (ys769.getD 0 default) (ys769.getD 1 default))) (AV.lit (Value.int Go.IntKind.u64 1)))) 0 6) 0) x1) (AV.int 0)) ∧
    ((AV.isBool (AV.bin Go.BinOp.lss (AV.bin Go.BinOp.sub (AV.cel (AV.atAgg x0 (AV.conv Go.IntKind.i64 (AV.shf Go.BinOp.shr (AV.conv Go.IntKind.u64 (AV.bin Go.BinOp.add (ys769.getD 0 default) (ys769.getD 1 default))) (AV.lit (Value.int Go.IntKind.u64 1)))) 0 6) 0) x1) (AV.int 0))) ∧
    (((isT (AV.bin Go.BinOp.lss (AV.bin Go.BinOp.sub (AV.cel (AV.atAgg x0 (AV.conv Go.IntKind.i64 (AV.shf Go.BinOp.shr (AV.conv Go.IntKind.u64 (AV.bin Go.BinOp.add (ys769.getD 0 default) (ys769.getD 1 default))) (AV.lit (Value.int Go.IntKind.u64 1)))) 0 6) 0) x1) (AV.int 0))) →
      ((AV.binOk Go.BinOp.add (AV.conv Go.IntKind.i64 (AV.shf Go.BinOp.shr (AV.conv Go.IntKind.u64 (AV.bin Go.BinOp.add (ys769.getD 0 default) (ys769.getD 1 default))) (AV.lit (Value.int Go.IntKind.u64 1)))) (AV.int 1)) ∧
      (again769 [(AV.bin Go.BinOp.add (AV.conv Go.IntKind.i64 (AV.shf Go.BinOp.shr (AV.conv Go.IntKind.u64 (AV.bin Go.BinOp.add (ys769.getD 0 default) (ys769.getD 1 default))) (AV.lit (Value.int Go.IntKind.u64 1)))) (AV.int 1)), (ys769.getD 1 default)]))) ∧
    ((isF (AV.bin Go.BinOp.lss (AV.bin Go.BinOp.sub (AV.cel (AV.atAgg x0 (AV.conv Go.IntKind.i64 (AV.shf Go.BinOp.shr (AV.conv Go.IntKind.u64 (AV.bin Go.BinOp.add (ys769.getD 0 default) (ys769.getD 1 default))) (AV.lit (Value.int Go.IntKind.u64 1)))) 0 6) 0) x1) (AV.int 0))) →
      (again769 [(ys769.getD 0 default), (AV.conv Go.IntKind.i64 (AV.shf Go.BinOp.shr (AV.conv Go.IntKind.u64 (AV.bin Go.BinOp.add (ys769.getD 0 default) (ys769.getD 1 default))) (AV.lit (Value.int Go.IntKind.u64 1))))])))))))))))))))) ∧
  ((isF (AV.bin Go.BinOp.lss (ys769.getD 0 default) (ys769.getD 1 default))) →
    ((AV.binOk Go.BinOp.lss (ys769.getD 0 default) (AV.len x0)) ∧
    ((AV.isBool (AV.bin Go.BinOp.lss (ys769.getD 0 default) (AV.len x0))) ∧
    (((isT (AV.bin Go.BinOp.lss (ys769.getD 0 default) (AV.len x0))) →
      ((AV.isSl x0 6) ∧
      ((AV.inb x0 (ys769.getD 0 default)) ∧
      ((fEnt Tryz.prog 191) ∧
      (fAllV fun _ => ((AV.isAgg (AV.atAgg x0 (ys769.getD 0 default) 0 6) 6) ∧
      ((AV.binOk Go.BinOp.sub (AV.cel (AV.atAgg x0 (ys769.getD 0 default) 0 6) 0) x1) ∧
      ((AV.binOk Go.BinOp.eql (AV.bin Go.BinOp.sub (AV.cel (AV.atAgg x0 (ys769.getD 0 default) 0 6) 0) x1) (AV.int 0)) ∧
      ((AV.isBool (AV.bin Go.BinOp.lss (ys769.getD 0 default) (AV.len x0))) ∧
      ((isT (AV.bin Go.BinOp.lss (ys769.getD 0 default) (AV.len x0))) ∧
      ((AV.isBool (AV.bin Go.BinOp.eql (AV.bin Go.BinOp.sub (AV.cel (AV.atAgg x0 (ys769.getD 0 default) 0 6) 0) x1) (AV.int 0))) ∧
      (((isT (AV.bin Go.BinOp.eql (AV.bin Go.BinOp.sub (AV.cel (AV.atAgg x0 (ys769.getD 0 default) 0 6) 0) x1) (AV.int 0))) →
        ((AV.isSl x0 6) ∧
        ((AV.inb x0 (ys769.getD 0 default)) ∧
        ((AV.isAgg (AV.atAgg x0 (ys769.getD 0 default) 0 6) 6) ∧
        ((AV.flat (AV.agg [(AV.cel (AV.atAgg x0 (ys769.getD 0 default) 0 6) 0), (AV.cel (AV.atAgg x0 (ys769.getD 0 default) 0 6) 1), (AV.cel (AV.atAgg x0 (ys769.getD 0 default) 0 6) 2), (AV.cel (AV.atAgg x0 (ys769.getD 0 default) 0 6) 3), (AV.cel (AV.atAgg x0 (ys769.getD 0 default) 0 6) 4), (AV.cel (AV.atAgg x0 (ys769.getD 0 default) 0 6) 5)])) ∧
        (fSame (AV.agg [(AV.cel (AV.atAgg x0 (ys769.getD 0 default) 0 6) 0), (AV.cel (AV.atAgg x0 (ys769.getD 0 default) 0 6) 1), (AV.cel (AV.atAgg x0 (ys769.getD 0 default) 0 6) 2), (AV.cel (AV.atAgg x0 (ys769.getD 0 default) 0 6) 3), (AV.cel (AV.atAgg x0 (ys769.getD 0 default) 0 6) 4), (AV.cel (AV.atAgg x0 (ys769.getD 0 default) 0 6) 5)]) r)))))) ∧
      ((isF (AV.bin Go.BinOp.eql (AV.bin Go.BinOp.sub (AV.cel (AV.atAgg x0 (ys769.getD 0 default) 0 6) 0) x1) (AV.int 0))) →
        ((AV.binOk Go.BinOp.sub (ys769.getD 0 default) (AV.int 1)) ∧
        ((AV.isSl x0 6) ∧
        ((AV.inb x0 (AV.bin Go.BinOp.sub (ys769.getD 0 default) (AV.int 1))) ∧
        ((AV.isSl x0 6) ∧
        ((AV.inb x0 (ys769.getD 0 default)) ∧
        ((AV.isAgg (AV.atAgg x0 (AV.bin Go.BinOp.sub (ys769.getD 0 default) (AV.int 1)) 0 6) 6) ∧
        ((AV.isAgg (AV.atAgg x0 (ys769.getD 0 default) 0 6) 6) ∧
        ((AV.binOk Go.BinOp.sub x1 (AV.cel (AV.atAgg x0 (AV.bin Go.BinOp.sub (ys769.getD 0 default) (AV.int 1)) 0 6) 0)) ∧
        ((AV.binOk Go.BinOp.sub (AV.cel (AV.atAgg x0 (ys769.getD 0 default) 0 6) 0) (AV.cel (AV.atAgg x0 (AV.bin Go.BinOp.sub (ys769.getD 0 default) (AV.int 1)) 0 6) 0)) ∧
        (∃ r5249 : AV, ((Fn Tryz.prog 192 [(AV.agg [(AV.cel (AV.atAgg x0 (AV.bin Go.BinOp.sub (ys769.getD 0 default) (AV.int 1)) 0 6) 1), (AV.cel (AV.atAgg x0 (AV.bin Go.BinOp.sub (ys769.getD 0 default) (AV.int 1)) 0 6) 2)]), (AV.agg [(AV.cel (AV.atAgg x0 (ys769.getD 0 default) 0 6) 1), (AV.cel (AV.atAgg x0 (ys769.getD 0 default) 0 6) 2)]), (AV.bin Go.BinOp.sub x1 (AV.cel (AV.atAgg x0 (AV.bin Go.BinOp.sub (ys769.getD 0 default) (AV.int 1)) 0 6) 0)), (AV.bin Go.BinOp.sub (AV.cel (AV.atAgg x0 (ys769.getD 0 default) 0 6) 0) (AV.cel (AV.atAgg x0 (AV.bin Go.BinOp.sub (ys769.getD 0 default) (AV.int 1)) 0 6) 0))] (Sh.tup [Sh.sc, Sh.sc]) r5249) ∧
        ((AV.isAgg (AV.prj r5249 0) 2) ∧
        ((AV.binOk Go.BinOp.sub (AV.cel (AV.atAgg x0 (ys769.getD 0 default) 0 6) 3) (AV.cel (AV.atAgg x0 (AV.bin Go.BinOp.sub (ys769.getD 0 default) (AV.int 1)) 0 6) 3)) ∧
        ((AV.binOk Go.BinOp.mul (AV.bin Go.BinOp.sub (AV.cel (AV.atAgg x0 (ys769.getD 0 default) 0 6) 3) (AV.cel (AV.atAgg x0 (AV.bin Go.BinOp.sub (ys769.getD 0 default) (AV.int 1)) 0 6) 3)) (AV.bin Go.BinOp.sub x1 (AV.cel (AV.atAgg x0 (AV.bin Go.BinOp.sub (ys769.getD 0 default) (AV.int 1)) 0 6) 0))) ∧
        (∃ r6337 : AV, ((Fn Tryz.prog 193 [(AV.bin Go.BinOp.mul (AV.bin Go.BinOp.sub (AV.cel (AV.atAgg x0 (ys769.getD 0 default) 0 6) 3) (AV.cel (AV.atAgg x0 (AV.bin Go.BinOp.sub (ys769.getD 0 default) (AV.int 1)) 0 6) 3)) (AV.bin Go.BinOp.sub x1 (AV.cel (AV.atAgg x0 (AV.bin Go.BinOp.sub (ys769.getD 0 default) (AV.int 1)) 0 6) 0))), (AV.bin Go.BinOp.sub (AV.cel (AV.atAgg x0 (ys769.getD 0 default) 0 6) 0) (AV.cel (AV.atAgg x0 (AV.bin Go.BinOp.sub (ys769.getD 0 default) (AV.int 1)) 0 6) 0))] (Sh.tup [Sh.sc, Sh.sc]) r6337) ∧
        ((AV.binOk Go.BinOp.sub (AV.cel (AV.atAgg x0 (ys769.getD 0 default) 0 6) 4) (AV.cel (AV.atAgg x0 (AV.bin Go.BinOp.sub (ys769.getD 0 default) (AV.int 1)) 0 6) 4)) ∧
        ((AV.binOk Go.BinOp.mul (AV.bin Go.BinOp.sub (AV.cel (AV.atAgg x0 (ys769.getD 0 default) 0 6) 4) (AV.cel (AV.atAgg x0 (AV.bin Go.BinOp.sub (ys769.getD 0 default) (AV.int 1)) 0 6) 4)) (AV.bin Go.BinOp.sub x1 (AV.cel (AV.atAgg x0 (AV.bin Go.BinOp.sub (ys769.getD 0 default) (AV.int 1)) 0 6) 0))) ∧
        (∃ r7233 : AV, ((Fn Tryz.prog 194 [(AV.bin Go.BinOp.mul (AV.bin Go.BinOp.sub (AV.cel (AV.atAgg x0 (ys769.getD 0 default) 0 6) 4) (AV.cel (AV.atAgg x0 (AV.bin Go.BinOp.sub (ys769.getD 0 default) (AV.int 1)) 0 6) 4)) (AV.bin Go.BinOp.sub x1 (AV.cel (AV.atAgg x0 (AV.bin Go.BinOp.sub (ys769.getD 0 default) (AV.int 1)) 0 6) 0))), (AV.bin Go.BinOp.sub (AV.cel (AV.atAgg x0 (ys769.getD 0 default) 0 6) 0) (AV.cel (AV.atAgg x0 (AV.bin Go.BinOp.sub (ys769.getD 0 default) (AV.int 1)) 0 6) 0))] (Sh.tup [Sh.sc, Sh.sc]) r7233) ∧
        ((AV.binOk Go.BinOp.sub (AV.cel (AV.atAgg x0 (ys769.getD 0 default) 0 6) 5) (AV.cel (AV.atAgg x0 (AV.bin Go.BinOp.sub (ys769.getD 0 default) (AV.int 1)) 0 6) 5)) ∧
        ((AV.binOk Go.BinOp.mul (AV.bin Go.BinOp.sub (AV.cel (AV.atAgg x0 (ys769.getD 0 default) 0 6) 5) (AV.cel (AV.atAgg x0 (AV.bin Go.BinOp.sub (ys769.getD 0 default) (AV.int 1)) 0 6) 5)) (AV.bin Go.BinOp.sub x1 (AV.cel (AV.atAgg x0 (AV.bin Go.BinOp.sub (ys769.getD 0 default) (AV.int 1)) 0 6) 0))) ∧
        (∃ r8129 : AV, ((Fn Tryz.prog 194 [(AV.bin Go.BinOp.mul (AV.bin Go.BinOp.sub (AV.cel (AV.atAgg x0 (ys769.getD 0 default) 0 6) 5) (AV.cel (AV.atAgg x0 (AV.bin Go.BinOp.sub (ys769.getD 0 default) (AV.int 1)) 0 6) 5)) (AV.bin Go.BinOp.sub x1 (AV.cel (AV.atAgg x0 (AV.bin Go.BinOp.sub (ys769.getD 0 default) (AV.int 1)) 0 6) 0))), (AV.bin Go.BinOp.sub (AV.cel (AV.atAgg x0 (ys769.getD 0 default) 0 6) 0) (AV.cel (AV.atAgg x0 (AV.bin Go.BinOp.sub (ys769.getD 0 default) (AV.int 1)) 0 6) 0))] (Sh.tup [Sh.sc, Sh.sc]) r8129) ∧
        ((AV.binOk Go.BinOp.add (AV.cel (AV.atAgg x0 (AV.bin Go.BinOp.sub (ys769.getD 0 default) (AV.int 1)) 0 6) 3) (AV.prj r6337 0)) ∧
        ((AV.isOne x1) ∧
        ((AV.isOne (AV.bin Go.BinOp.add (AV.cel (AV.atAgg x0 (AV.bin Go.BinOp.sub (ys769.getD 0 default) (AV.int 1)) 0 6) 3) (AV.prj r6337 0))) ∧
        ((AV.binOk Go.BinOp.add (AV.cel (AV.atAgg x0 (AV.bin Go.BinOp.sub (ys769.getD 0 default) (AV.int 1)) 0 6) 4) (AV.prj r7233 0)) ∧
        ((AV.binOk Go.BinOp.add (AV.cel (AV.atAgg x0 (AV.bin Go.BinOp.sub (ys769.getD 0 default) (AV.int 1)) 0 6) 5) (AV.prj r8129 0)) ∧
        ((AV.isOne (AV.bin Go.BinOp.add (AV.cel (AV.atAgg x0 (AV.bin Go.BinOp.sub (ys769.getD 0 default) (AV.int 1)) 0 6) 4) (AV.prj r7233 0))) ∧
        ((AV.isOne (AV.bin Go.BinOp.add (AV.cel (AV.atAgg x0 (AV.bin Go.BinOp.sub (ys769.getD 0 default) (AV.int 1)) 0 6) 5) (AV.prj r8129 0))) ∧
        ((AV.flat (AV.agg [x1, (AV.cel (AV.prj r5249 0) 0), (AV.cel (AV.prj r5249 0) 1), (AV.bin Go.BinOp.add (AV.cel (AV.atAgg x0 (AV.bin Go.BinOp.sub (ys769.getD 0 default) (AV.int 1)) 0 6) 3) (AV.prj r6337 0)), (AV.bin Go.BinOp.add (AV.cel (AV.atAgg x0 (AV.bin Go.BinOp.sub (ys769.getD 0 default) (AV.int 1)) 0 6) 4) (AV.prj r7233 0)), (AV.bin Go.BinOp.add (AV.cel (AV.atAgg x0 (AV.bin Go.BinOp.sub (ys769.getD 0 default) (AV.int 1)) 0 6) 5) (AV.prj r8129 0))])) ∧
        (fSame (AV.agg [x1, (AV.cel (AV.prj r5249 0) 0), (AV.cel (AV.prj r5249 0) 1), (AV.bin Go.BinOp.add (AV.cel (AV.atAgg x0 (AV.bin Go.BinOp.sub (ys769.getD 0 default) (AV.int 1)) 0 6) 3) (AV.prj r6337 0)), (AV.bin Go.BinOp.add (AV.cel (AV.atAgg x0 (AV.bin Go.BinOp.sub (ys769.getD 0 default) (AV.int 1)) 0 6) 4) (AV.prj r7233 0)), (AV.bin Go.BinOp.add (AV.cel (AV.atAgg x0 (AV.bin Go.BinOp.sub (ys769.getD 0 default) (AV.int 1)) 0 6) 5) (AV.prj r8129 0))]) r)))))))))))))))))))))))))))))))))))))))))))))) ∧
    ((isF (AV.bin Go.BinOp.lss (ys769.getD 0 default) (AV.len x0))) →
      ((AV.isBool (AV.bin Go.BinOp.lss (ys769.getD 0 default) (AV.len x0))) ∧
      ((isF (AV.bin Go.BinOp.lss (ys769.getD 0 default) (AV.len x0))) ∧
      ((AV.binOk Go.BinOp.sub (ys769.getD 0 default) (AV.int 1)) ∧
      ((AV.isSl x0 6) ∧
      ((AV.inb x0 (AV.bin Go.BinOp.sub (ys769.getD 0 default) (AV.int 1))) ∧
      ((AV.isSl x0 6) ∧
      ((AV.inb x0 (ys769.getD 0 default)) ∧
      ((AV.isAgg (AV.atAgg x0 (AV.bin Go.BinOp.sub (ys769.getD 0 default) (AV.int 1)) 0 6) 6) ∧
      ((AV.isAgg (AV.atAgg x0 (ys769.getD 0 default) 0 6) 6) ∧
      ((AV.binOk Go.BinOp.sub x1 (AV.cel (AV.atAgg x0 (AV.bin Go.BinOp.sub (ys769.getD 0 default) (AV.int 1)) 0 6) 0)) ∧
      ((AV.binOk Go.BinOp.sub (AV.cel (AV.atAgg x0 (ys769.getD 0 default) 0 6) 0) (AV.cel (AV.atAgg x0 (AV.bin Go.BinOp.sub (ys769.getD 0 default) (AV.int 1)) 0 6) 0)) ∧
      (∃ r4673 : AV, ((Fn Tryz.prog 192 [(AV.agg [(AV.cel (AV.atAgg x0 (AV.bin Go.BinOp.sub (ys769.getD 0 default) (AV.int 1)) 0 6) 1), (AV.cel (AV.atAgg x0 (AV.bin Go.BinOp.sub (ys769.getD 0 default) (AV.int 1)) 0 6) 2)]), (AV.agg [(AV.cel (AV.atAgg x0 (ys769.getD 0 default) 0 6) 1), (AV.cel (AV.atAgg x0 (ys769.getD 0 default) 0 6) 2)]), (AV.bin Go.BinOp.sub x1 (AV.cel (AV.atAgg x0 (AV.bin Go.BinOp.sub (ys769.getD 0 default) (AV.int 1)) 0 6) 0)), (AV.bin Go.BinOp.sub (AV.cel (AV.atAgg x0 (ys769.getD 0 default) 0 6) 0) (AV.cel (AV.atAgg x0 (AV.bin Go.BinOp.sub (ys769.getD 0 default) (AV.int 1)) 0 6) 0))] (Sh.tup [Sh.sc, Sh.sc]) r4673) ∧
      ((AV.isAgg (AV.prj r4673 0) 2) ∧
      ((AV.binOk Go.BinOp.sub (AV.cel (AV.atAgg x0 (ys769.getD 0 default) 0 6) 3) (AV.cel (AV.atAgg x0 (AV.bin Go.BinOp.sub (ys769.getD 0 default) (AV.int 1)) 0 6) 3)) ∧
      ((AV.binOk Go.BinOp.mul (AV.bin Go.BinOp.sub (AV.cel (AV.atAgg x0 (ys769.getD 0 default) 0 6) 3) (AV.cel (AV.atAgg x0 (AV.bin Go.BinOp.sub (ys769.getD 0 default) (AV.int 1)) 0 6) 3)) (AV.bin Go.BinOp.sub x1 (AV.cel (AV.atAgg x0 (AV.bin Go.BinOp.sub (ys769.getD 0 default) (AV.int 1)) 0 6) 0))) ∧
      (∃ r5761 : AV, ((Fn Tryz.prog 193 [(AV.bin Go.BinOp.mul (AV.bin Go.BinOp.sub (AV.cel (AV.atAgg x0 (ys769.getD 0 default) 0 6) 3) (AV.cel (AV.atAgg x0 (AV.bin Go.BinOp.sub (ys769.getD 0 default) (AV.int 1)) 0 6) 3)) (AV.bin Go.BinOp.sub x1 (AV.cel (AV.atAgg x0 (AV.bin Go.BinOp.sub (ys769.getD 0 default) (AV.int 1)) 0 6) 0))), (AV.bin Go.BinOp.sub (AV.cel (AV.atAgg x0 (ys769.getD 0 default) 0 6) 0) (AV.cel (AV.atAgg x0 (AV.bin Go.BinOp.sub (ys769.getD 0 default) (AV.int 1)) 0 6) 0))] (Sh.tup [Sh.sc, Sh.sc]) r5761) ∧
      ((AV.binOk Go.BinOp.sub (AV.cel (AV.atAgg x0 (ys769.getD 0 default) 0 6) 4) (AV.cel (AV.atAgg x0 (AV.bin Go.BinOp.sub (ys769.getD 0 default) (AV.int 1)) 0 6) 4)) ∧
      ((AV.binOk Go.BinOp.mul (AV.bin Go.BinOp.sub (AV.cel (AV.atAgg x0 (ys769.getD 0 default) 0 6) 4) (AV.cel (AV.atAgg x0 (AV.bin Go.BinOp.sub (ys769.getD 0 default) (AV.int 1)) 0 6) 4)) (AV.bin Go.BinOp.sub x1 (AV.cel (AV.atAgg x0 (AV.bin Go.BinOp.sub (ys769.getD 0 default) (AV.int 1)) 0 6) 0))) ∧
      (∃ r6657 : AV, ((Fn Tryz.prog 194 [(AV.bin Go.BinOp.mul (AV.bin Go.BinOp.sub (AV.cel (AV.atAgg x0 (ys769.getD 0 default) 0 6) 4) (AV.cel (AV.atAgg x0 (AV.bin Go.BinOp.sub (ys769.getD 0 default) (AV.int 1)) 0 6) 4)) (AV.bin Go.BinOp.sub x1 (AV.cel (AV.atAgg x0 (AV.bin Go.BinOp.sub (ys769.getD 0 default) (AV.int 1)) 0 6) 0))), (AV.bin Go.BinOp.sub (AV.cel (AV.atAgg x0 (ys769.getD 0 default) 0 6) 0) (AV.cel (AV.atAgg x0 (AV.bin Go.BinOp.sub (ys769.getD 0 default) (AV.int 1)) 0 6) 0))] (Sh.tup [Sh.sc, Sh.sc]) r6657) ∧
      ((AV.binOk Go.BinOp.sub (AV.cel (AV.atAgg x0 (ys769.getD 0 default) 0 6) 5) (AV.cel (AV.atAgg x0 (AV.bin Go.BinOp.sub (ys769.getD 0 default) (AV.int 1)) 0 6) 5)) ∧
      ((AV.binOk Go.BinOp.mul (AV.bin Go.BinOp.sub (AV.cel (AV.atAgg x0 (ys769.getD 0 default) 0 6) 5) (AV.cel (AV.atAgg x0 (AV.bin Go.BinOp.sub (ys769.getD 0 default) (AV.int 1)) 0 6) 5)) (AV.bin Go.BinOp.sub x1 (AV.cel (AV.atAgg x0 (AV.bin Go.BinOp.sub (ys769.getD 0 default) (AV.int 1)) 0 6) 0))) ∧
      (∃ r7553 : AV, ((Fn Tryz.prog 194 [(AV.bin Go.BinOp.mul (AV.bin Go.BinOp.sub (AV.cel (AV.atAgg x0 (ys769.getD 0 default) 0 6) 5) (AV.cel (AV.atAgg x0 (AV.bin Go.BinOp.sub (ys769.getD 0 default) (AV.int 1)) 0 6) 5)) (AV.bin Go.BinOp.sub x1 (AV.cel (AV.atAgg x0 (AV.bin Go.BinOp.sub (ys769.getD 0 default) (AV.int 1)) 0 6) 0))), (AV.bin Go.BinOp.sub (AV.cel (AV.atAgg x0 (ys769.getD 0 default) 0 6) 0) (AV.cel (AV.atAgg x0 (AV.bin Go.BinOp.sub (ys769.getD 0 default) (AV.int 1)) 0 6) 0))] (Sh.tup [Sh.sc, Sh.sc]) r7553) ∧
      ((AV.binOk Go.BinOp.add (AV.cel (AV.atAgg x0 (AV.bin Go.BinOp.sub (ys769.getD 0 default) (AV.int 1)) 0 6) 3) (AV.prj r5761 0)) ∧
      ((AV.isOne x1) ∧
      ((AV.isOne (AV.bin Go.BinOp.add (AV.cel (AV.atAgg x0 (AV.bin Go.BinOp.sub (ys769.getD 0 default) (AV.int 1)) 0 6) 3) (AV.prj r5761 0))) ∧
      ((AV.binOk Go.BinOp.add (AV.cel (AV.atAgg x0 (AV.bin Go.BinOp.sub (ys769.getD 0 default) (AV.int 1)) 0 6) 4) (AV.prj r6657 0)) ∧
      ((AV.binOk Go.BinOp.add (AV.cel (AV.atAgg x0 (AV.bin Go.BinOp.sub (ys769.getD 0 default) (AV.int 1)) 0 6) 5) (AV.prj r7553 0)) ∧
      ((AV.isOne (AV.bin Go.BinOp.add (AV.cel (AV.atAgg x0 (AV.bin Go.BinOp.sub (ys769.getD 0 default) (AV.int 1)) 0 6) 4) (AV.prj r6657 0))) ∧
      ((AV.isOne (AV.bin Go.BinOp.add (AV.cel (AV.atAgg x0 (AV.bin Go.BinOp.sub (ys769.getD 0 default) (AV.int 1)) 0 6) 5) (AV.prj r7553 0))) ∧
      ((AV.flat (AV.agg [x1, (AV.cel (AV.prj r4673 0) 0), (AV.cel (AV.prj r4673 0) 1), (AV.bin Go.BinOp.add (AV.cel (AV.atAgg x0 (AV.bin Go.BinOp.sub (ys769.getD 0 default) (AV.int 1)) 0 6) 3) (AV.prj r5761 0)), (AV.bin Go.BinOp.add (AV.cel (AV.atAgg x0 (AV.bin Go.BinOp.sub (ys769.getD 0 default) (AV.int 1)) 0 6) 4) (AV.prj r6657 0)), (AV.bin Go.BinOp.add (AV.cel (AV.atAgg x0 (AV.bin Go.BinOp.sub (ys769.getD 0 default) (AV.int 1)) 0 6) 5) (AV.prj r7553 0))])) ∧
      (fSame (AV.agg [x1, (AV.cel (AV.prj r4673 0) 0), (AV.cel (AV.prj r4673 0) 1), (AV.bin Go.BinOp.add (AV.cel (AV.atAgg x0 (AV.bin Go.BinOp.sub (ys769.getD 0 default) (AV.int 1)) 0 6) 3) (AV.prj r5761 0)), (AV.bin Go.BinOp.add (AV.cel (AV.atAgg x0 (AV.bin Go.BinOp.sub (ys769.getD 0 default) (AV.int 1)) 0 6) 4) (AV.prj r6657 0)), (AV.bin Go.BinOp.add (AV.cel (AV.atAgg x0 (AV.bin Go.BinOp.sub (ys769.getD 0 default) (AV.int 1)) 0 6) 5) (AV.prj r7553 0))]) r)))))))))))))))))))))))))))))))))))))))))))))))) := by kernel_rfl
theorem tat_form (x0 x1 r : AV) : fnF Tryz.prog Γ ann 3 68 Tryz.f68 (Tryz.f68.body.getD .skip) (.nil) [x0, x1] (.tup [.sc, .sc]) r = ((∃ r193 : AV, ((Fn Tryz.prog 20 [x0] Sh.sc r193) ∧
((AV.binOk Go.BinOp.neq r193 (AV.int 0)) ∧
((AV.isBool (AV.bin Go.BinOp.neq r193 (AV.int 0))) ∧
(((isT (AV.bin Go.BinOp.neq r193 (AV.int 0))) →
  ((AV.flat (AV.agg [(AV.int 0), (AV.int 0), (AV.int 0), (AV.int 0), (AV.int 0), (AV.int 0)])) ∧
  ((AV.flat r193) ∧
  (fSame (AV.tup [(AV.agg [(AV.int 0), (AV.int 0), (AV.int 0), (AV.int 0), (AV.int 0), (AV.int 0)]), r193]) r)))) ∧
((isF (AV.bin Go.BinOp.neq r193 (AV.int 0))) →
  (∃ r513 : AV, ((Fn Tryz.prog 129 [x0] (Sh.tup [Sh.sc, Sh.sc]) r513) ∧
  ((AV.binOk Go.BinOp.lss x1 (AV.prj r513 0)) ∧
  ((AV.isBool (AV.bin Go.BinOp.lss x1 (AV.prj r513 0))) ∧
  (((isT (AV.bin Go.BinOp.lss x1 (AV.prj r513 0))) →
    ((AV.isBool (AV.bin Go.BinOp.lss x1 (AV.prj r513 0))) ∧
    ((isT (AV.bin Go.BinOp.lss x1 (AV.prj r513 0))) ∧
    ((AV.flat (AV.agg [(AV.int 0), (AV.int 0), (AV.int 0), (AV.int 0), (AV.int 0), (AV.int 0)])) ∧
    ((AV.flat (AV.int 12)) ∧
    (fSame (AV.tup [(AV.agg [(AV.int 0), (AV.int 0), (AV.int 0), (AV.int 0), (AV.int 0), (AV.int 0)]), (AV.int 12)]) r)))))) ∧
  ((isF (AV.bin Go.BinOp.lss x1 (AV.prj r513 0))) →
    ((AV.binOk Go.BinOp.gtr x1 (AV.prj r513 1)) ∧
    ((AV.isBool (AV.bin Go.BinOp.lss x1 (AV.prj r513 0))) ∧
    ((isF (AV.bin Go.BinOp.lss x1 (AV.prj r513 0))) ∧
    ((AV.isBool (AV.bin Go.BinOp.gtr x1 (AV.prj r513 1))) ∧
    (((isT (AV.bin Go.BinOp.gtr x1 (AV.prj r513 1))) →
      ((AV.flat (AV.agg [(AV.int 0), (AV.int 0), (AV.int 0), (AV.int 0), (AV.int 0), (AV.int 0)])) ∧
      ((AV.flat (AV.int 12)) ∧
      (fSame (AV.tup [(AV.agg [(AV.int 0), (AV.int 0), (AV.int 0), (AV.int 0), (AV.int 0), (AV.int 0)]), (AV.int 12)]) r)))) ∧
    ((isF (AV.bin Go.BinOp.gtr x1 (AV.prj r513 1))) →
      (∃ r1537 : AV, ((Fn Tryz.prog 130 [x0, x1] Sh.sc r1537) ∧
      ((AV.isAgg r1537 6) ∧
      ((AV.flat (AV.agg [(AV.cel r1537 0), (AV.cel r1537 1), (AV.cel r1537 2), (AV.cel r1537 3), (AV.cel r1537 4), (AV.cel r1537 5)])) ∧
      ((AV.flat (AV.int 0)) ∧
      (fSame (AV.tup [(AV.agg [(AV.cel r1537 0), (AV.cel r1537 1), (AV.cel r1537 2), (AV.cel r1537 3), (AV.cel r1537 4), (AV.cel r1537 5)]), (AV.int 0)]) r))))))))))))))))))))))))) := by kernel_rfl
end SecF
end Go.Proofs.YtcifjnhpgblnkaaGreatDoor
/- planes and segments. -/
namespace Go.Proofs.YtcifjnhpgblnkaaGreatDoor
open Go.RowKit
set_option linter.unusedVariables false
set_option linter.unusedSimpArgs false
set_option maxRecDepth 100000
structure Pt where
  x : Int
  y : Int
  deriving DecidableEq, Inhabited
def encP (p : Pt) : List AV := [.int p.x, .int p.y]
abbrev pt (p : Pt) : AV := .agg (encP p)
abbrev pts (l : List Pt) : AV := lst 2 encP l
def wr (n : Int) : Int := IntKind.i64.wrap n
@[simp] theorem wr_eq (n : Int) : IntKind.i64.wrap n = wr n := rfl
theorem wr_id {n : Int} (h1 : -9223372036854775808 ≤ n) (h2 : n ≤ 9223372036854775807) : wr n = n := wrap64 h1 h2
def subP (a b : Pt) : Pt := ⟨wr (a.x - b.x), wr (a.y - b.y)⟩
def dotP (a b : Pt) : Int := wr (wr (a.x * b.x) + wr (a.y * b.y))
def crossP (a b : Pt) : Int := wr (wr (a.x * b.y) - wr (a.y * b.x))
def turnP (a b c : Pt) : Int := if 0 < crossP (subP b a) (subP c a) then 1 else if crossP (subP b a) (subP c a) < 0 then -1 else 0
def sqrP (a b : Pt) : Int := dotP (subP a b) (subP a b)
def pE (p : Pt) : Int := if p.x < -1000000 ∨ p.x > 1000000 ∨ p.y < -1000000 ∨ p.y > 1000000 then 4 else 0
theorem pE_ok {p : Pt} (h : pE p = 0) : -1000000 ≤ p.x ∧ p.x ≤ 1000000 ∧ -1000000 ≤ p.y ∧ p.y ≤ 1000000 := by
  unfold pE at h
  split at h
  · cases h
  · omega
theorem pe_fn (p : Pt) : Fn Tryz.prog 67 [pt p] .sc (.int (pE p)) := by
  refine fn_run mixed 3 (Γ := SecF.Γ) (ann := SecF.ann) Tryz.func67 rfl Tryz.call67 ((SecF.pcheck_form _ _).mpr ?_)
  obtain ⟨x, y⟩ := p
  simp [encP]
  have h4 : (x < -1000000 ∨ x > 1000000 ∨ y < -1000000 ∨ y > 1000000) → 4 = pE ⟨x, y⟩ := fun h => by unfold pE; rw [if_pos h]
  have h0 : ¬ (x < -1000000 ∨ x > 1000000 ∨ y < -1000000 ∨ y > 1000000) → 0 = pE ⟨x, y⟩ := fun h => by unfold pE; rw [if_neg h]
  refine ⟨fun a => ⟨a, h4 (by omega)⟩, fun a => ⟨a, fun b => ⟨b, h4 (by omega)⟩, fun b => ⟨b, fun c => ⟨c, h4 (by omega)⟩, fun c => ⟨c, fun d => h4 (by omega), fun d => h0 (by omega)⟩⟩⟩⟩
theorem sub_fn (a b : Pt) : Fn Tryz.prog 230 [pt a, pt b] .sc (pt (subP a b)) := by
  refine fn_run mixed 3 (Γ := SecF.Γ) (ann := SecF.ann) Tryz.func230 rfl Tryz.call230 ((SecF.sub_form _ _ _).mpr ?_)
  simp [encP, subP]
theorem dot_fn (a b : Pt) : Fn Tryz.prog 299 [pt a, pt b] .sc (.int (dotP a b)) := by
  refine fn_run mixed 3 (Γ := SecF.Γ) (ann := SecF.ann) Tryz.func299 rfl Tryz.call299 ((SecF.dot_form _ _ _).mpr ?_)
  simp [encP, dotP]
theorem sqr_fn (a b : Pt) : Fn Tryz.prog 251 [pt a, pt b] .sc (.int (sqrP a b)) := by
  refine fn_run mixed 3 (Γ := SecF.Γ) (ann := SecF.ann) Tryz.func251 rfl Tryz.call251 ((SecF.square_form _ _ _).mpr ?_)
  refine ⟨by simp [encP], by simp [encP], _, sub_fn a b, by simp [encP], _, dot_fn _ _, ?_⟩
  simp [sqrP]
def nextP (l : List Pt) (i : Nat) : Pt := l.getD ((i + 1) % l.length) default
def mnI (a b : Int) : Int := if b < a then b else a
def mxI (a b : Int) : Int := if a < b then b else a
def betw (a b c : Pt) : Bool := decide (mnI a.x b.x ≤ c.x) && decide (c.x ≤ mxI a.x b.x) && decide (mnI a.y b.y ≤ c.y) && decide (c.y ≤ mxI a.y b.y)
def onS (a b c : Pt) : Bool := decide (turnP a b c = 0) && betw a b c
def crs (a b c d : Pt) : Bool := decide (wr (turnP a b c * turnP a b d) < 0) && decide (wr (turnP c d a * turnP c d b) < 0)
def comS (a b c d : Pt) : Bool := crs a b c d || onS a b c || onS a b d || onS c d a || onS c d b
end Go.Proofs.YtcifjnhpgblnkaaGreatDoor
/- tubes: quotients, points on the way, what is checked. -/
namespace Go.Proofs.YtcifjnhpgblnkaaGreatDoor
open Go.RowKit
set_option linter.unusedVariables false
set_option linter.unusedSimpArgs false
set_option maxRecDepth 100000
theorem quo_of (a b : Int) (hb : 0 < b) : (¬ a.tmod b = 0 → a < 0 → a.tdiv b - 1 = a / b) ∧ (¬ (¬ a.tmod b = 0 ∧ a < 0) → a.tdiv b = a / b) := by
  have h1 := Int.tdiv_eq_ediv (a := a) (b := b)
  have h2 := Int.tmod_eq_emod (a := a) (b := b)
  have h3 : b.sign = 1 := Int.sign_eq_one_of_pos hb
  have h4 : (b ∣ a) ↔ a % b = 0 := Int.dvd_iff_emod_eq_zero
  by_cases h : 0 ≤ a ∨ b ∣ a
  · rw [if_pos h] at h1 h2
    refine ⟨fun q1 q2 => ?_, fun _ => by omega⟩
    rcases h with h | h
    · omega
    · have := h4.1 h; omega
  · rw [if_neg h, h3] at h1
    rw [if_neg h] at h2
    have h5 : ¬ 0 ≤ a := fun q => h (.inl q)
    have h6 : ¬ b ∣ a := fun q => h (.inr q)
    have h7 : ¬ a % b = 0 := fun q => h6 (h4.2 q)
    have h8 : ¬ a.tmod b = 0 := by
      have l1 := Int.emod_nonneg a (show b ≠ 0 by omega)
      have l2 := Int.emod_lt_of_pos a hb
      omega
    exact ⟨fun _ _ => by omega, fun q => absurd ⟨h8, by omega⟩ q⟩
theorem quo_bd {a b : Int} (hb : 0 < b) (h1 : -1000000000000 ≤ a) (h2 : a ≤ 1000000000000) : -1000000000000 ≤ a / b ∧ a / b ≤ 1000000000000 ∧ -1000000000000 ≤ a.tdiv b ∧ a.tdiv b ≤ 1000000000000 := by
  have e1 : a / b ≤ 1000000000000 := by
    rcases Int.lt_or_le a 0 with h | h
    · have := Int.ediv_neg_of_neg_of_pos h hb; omega
    · have := Int.ediv_le_self b h; omega
  have e2 : -1000000000000 ≤ a / b := by
    refine (Int.le_ediv_iff_mul_le hb).2 ?_
    have := Int.mul_le_mul_of_nonneg_left (show (1 : Int) ≤ b by omega) (show (0 : Int) ≤ 1000000000000 by omega)
    omega
  obtain ⟨q1, q2⟩ := quo_of a b hb
  refine ⟨e2, e1, ?_, ?_⟩
  · by_cases h : ¬ a.tmod b = 0 ∧ a < 0
    · have := q1 h.1 h.2; omega
    · have := q2 h; omega
  · have h3 := Int.tdiv_eq_ediv (a := a) (b := b)
    have h4 : b.sign = 1 := Int.sign_eq_one_of_pos hb
    rcases Int.lt_or_le a 0 with h | h
    · have := Int.ediv_neg_of_neg_of_pos h hb
      split at h3 <;> omega
    · rw [if_pos (.inl h)] at h3; omega
theorem divd_fn (a b : Int) (hb : 0 < b) (h1 : -1000000000000 ≤ a) (h2 : a ≤ 1000000000000) : Fn Tryz.prog 193 [.int a, .int b] (.tup [.sc, .sc]) (.tup [.int (a / b), .int 0]) := by
  refine fn_run mixed 3 (Γ := SecF.Γ) (ann := SecF.ann) Tryz.func193 rfl Tryz.call193 ((SecF.divd_form _ _ _).mpr ?_)
  obtain ⟨q1, q2⟩ := quo_of a b hb
  obtain ⟨b1, b2, b3, b4⟩ := quo_bd hb h1 h2
  have hw : wr (a.tdiv b) = a.tdiv b := wr_id (by omega) (by omega)
  have hw2 : wr (a.tdiv b - 1) = a.tdiv b - 1 := wr_id (by omega) (by omega)
  have hm : (a == -9223372036854775808) = false := by simp; omega
  have hb0 : (b == 0) = false := by simp; omega
  have hlt : decide (b < 0) = false := by simp; omega
  simp [hb0, hm, hw, hw2, hlt, show ¬ b = 0 by omega]
  generalize a.tmod b = m at *
  generalize a.tdiv b = q at *
  refine ⟨fun h => ⟨h, fun h2 => q1 h h2, fun h2 => q2 (by omega)⟩, fun h => ⟨h, q2 (by omega)⟩⟩
def dvu (a b : Int) : Int := if a.tmod b = 0 then a / b else a / b + 1
theorem dvu_bd {a b : Int} (hb : 0 < b) (h1 : -1000000000000 ≤ a) (h2 : a ≤ 1000000000000) : -1000000000001 ≤ dvu a b ∧ dvu a b ≤ 1000000000001 := by
  obtain ⟨b1, b2, _, _⟩ := quo_bd hb h1 h2
  unfold dvu
  split <;> omega
theorem divu_fn (a b : Int) (hb : 0 < b) (h1 : -1000000000000 ≤ a) (h2 : a ≤ 1000000000000) : Fn Tryz.prog 194 [.int a, .int b] (.tup [.sc, .sc]) (.tup [.int (dvu a b), .int 0]) := by
  refine fn_run mixed 3 (Γ := SecF.Γ) (ann := SecF.ann) Tryz.func194 rfl Tryz.call194 ((SecF.divu_form _ _ _).mpr ?_)
  refine ⟨_, divd_fn a b hb h1 h2, ?_⟩
  obtain ⟨b1, b2, _, _⟩ := quo_bd hb h1 h2
  have hw : wr (a / b + 1) = a / b + 1 := wr_id (by omega) (by omega)
  have u1 : ¬ a.tmod b = 0 → a / b + 1 = dvu a b := fun h => by unfold dvu; rw [if_neg h]
  have u2 : a.tmod b = 0 → a / b = dvu a b := fun h => by unfold dvu; rw [if_pos h]
  simp [hw, show ¬ b = 0 by omega]
  exact ⟨u1, u2⟩
theorem mulb {p n : Int} (h1 : -2000000 ≤ p) (h2 : p ≤ 2000000) (h3 : 0 ≤ n) (h4 : n ≤ 200000) : -400000000000 ≤ p * n ∧ p * n ≤ 400000000000 := by
  have e1 := Int.mul_le_mul_of_nonneg_right h2 h3
  have e2 := Int.mul_le_mul_of_nonneg_right h1 h3
  omega
/-- A point on the way lies between the ends. -/
theorem way {p n d : Int} (hd : 0 < d) (h0 : 0 ≤ n) (h1 : n ≤ d) : (0 ≤ p → 0 ≤ p * n / d ∧ p * n / d ≤ p) ∧ (p ≤ 0 → p ≤ p * n / d ∧ p * n / d ≤ 0) := by
  have hc := Int.mul_ediv_cancel p (show d ≠ 0 by omega)
  refine ⟨fun hp => ⟨Int.ediv_nonneg (Int.mul_nonneg hp h0) (by omega), ?_⟩, fun hp => ⟨?_, ?_⟩⟩
  · have := Int.ediv_le_ediv hd (Int.mul_le_mul_of_nonneg_left h1 hp)
    omega
  · have h2 : p * d ≤ p * n := Int.mul_le_mul_of_nonpos_left hp h1
    have := Int.ediv_le_ediv hd h2
    omega
  · have h2 : p * n ≤ p * 0 := Int.mul_le_mul_of_nonpos_left hp h0
    have := Int.ediv_le_ediv hd h2
    simpa using this
def towP (a b : Pt) (n d : Int) : Pt := ⟨a.x + (b.x - a.x) * n / d, a.y + (b.y - a.y) * n / d⟩
theorem tow_ok {a b : Pt} {n d : Int} (ha : pE a = 0) (hb : pE b = 0) (hd : 0 < d) (h0 : 0 ≤ n) (h1 : n ≤ d) : pE (towP a b n d) = 0 := by
  obtain ⟨a1, a2, a3, a4⟩ := pE_ok ha
  obtain ⟨b1, b2, b3, b4⟩ := pE_ok hb
  obtain ⟨x1, x2⟩ := way (p := b.x - a.x) hd h0 h1
  obtain ⟨y1, y2⟩ := way (p := b.y - a.y) hd h0 h1
  unfold pE towP
  rw [if_neg]
  simp only
  omega
theorem toward_fn (a b : Pt) (n d : Int) (ha : pE a = 0) (hb : pE b = 0) (hd : 0 < d) (hd2 : d ≤ 200000) (h0 : 0 ≤ n) (h1 : n ≤ d) : Fn Tryz.prog 192 [pt a, pt b, .int n, .int d] (.tup [.sc, .sc]) (.tup [pt (towP a b n d), .int 0]) := by
  refine fn_run mixed 3 (Γ := SecF.Γ) (ann := SecF.ann) Tryz.func192 rfl Tryz.call192 ((SecF.toward_form _ _ _ _ _).mpr ?_)
  have pa := pe_fn a
  have pb := pe_fn b
  have ht := pE_ok (tow_ok ha hb hd h0 h1)
  rw [ha] at pa
  rw [hb] at pb
  obtain ⟨a1, a2, a3, a4⟩ := pE_ok ha
  obtain ⟨b1, b2, b3, b4⟩ := pE_ok hb
  obtain ⟨ax, ay⟩ := a; obtain ⟨bx, b_⟩ := b
  simp only at a1 a2 a3 a4 b1 b2 b3 b4
  have mx := mulb (p := bx - ax) (n := n) (by omega) (by omega) h0 (by omega)
  have my := mulb (p := b_ - ay) (n := n) (by omega) (by omega) h0 (by omega)
  have w1 : wr (bx - ax) = bx - ax := wr_id (by omega) (by omega)
  have w2 : wr (b_ - ay) = b_ - ay := wr_id (by omega) (by omega)
  have w3 : wr ((bx - ax) * n) = (bx - ax) * n := wr_id (by omega) (by omega)
  have w4 : wr ((b_ - ay) * n) = (b_ - ay) * n := wr_id (by omega) (by omega)
  have d1 := divd_fn ((bx - ax) * n) d hd (by omega) (by omega)
  have d2 := divd_fn ((b_ - ay) * n) d hd (by omega) (by omega)
  have w5 : wr (ax + (bx - ax) * n / d) = ax + (bx - ax) * n / d := wr_id (by simp only [towP] at ht; omega) (by simp only [towP] at ht; omega)
  have w6 : wr (ay + (b_ - ay) * n / d) = ay + (b_ - ay) * n / d := wr_id (by simp only [towP] at ht; omega) (by simp only [towP] at ht; omega)
  refine ⟨by simp [encP], by simp [encP], ?_⟩
  simp [show ¬ d ≤ 0 by omega, show ¬ 200000 < d by omega, show ¬ n < 0 by omega, show ¬ d < n by omega]
  refine ⟨_, pa, ?_⟩
  simp
  refine ⟨_, pb, ?_⟩
  simp [encP, w1, w2, w3, w4]
  refine ⟨_, d1, _, d2, ?_⟩
  simp [w5, w6, towP]
structure Nd where
  t : Int
  x : Int
  y : Int
  h : Int
  r : Int
  b : Int
  deriving DecidableEq, Inhabited
def Nd.p (n : Nd) : Pt := ⟨n.x, n.y⟩
def encN (n : Nd) : List AV := [.int n.t, .int n.x, .int n.y, .int n.h, .int n.r, .int n.b]
abbrev nd (n : Nd) : AV := .agg (encN n)
abbrev tube (l : List Nd) : AV := lst 6 encN l
/-- The error of a node behind one of time p. -/
def nE (p : Int) (n : Nd) : Int := if n.t < 0 ∨ n.t > 200000 ∨ n.t ≤ p then 12 else if pE n.p ≠ 0 then pE n.p else if n.h < 0 ∨ n.h > 60000 ∨ n.r < 0 ∨ n.r > 1000000 ∨ n.b < 0 ∨ n.b > 60000 then 4 else 0
theorem nE_ok {p : Int} {n : Nd} (h : nE p n = 0) : 0 ≤ n.t ∧ n.t ≤ 200000 ∧ p < n.t ∧ pE n.p = 0 ∧ 0 ≤ n.h ∧ n.h ≤ 60000 ∧ 0 ≤ n.r ∧ n.r ≤ 1000000 ∧ 0 ≤ n.b ∧ n.b ≤ 60000 := by
  unfold nE at h
  split at h
  · cases h
  · split at h
    · rename_i q; exact absurd h q
    · rename_i q
      split at h
      · cases h
      · exact ⟨by omega, by omega, by omega, by simpa using q, by omega, by omega, by omega, by omega, by omega, by omega⟩
def tG : Int → List Nd → Int
  | _, [] => 0
  | p, n :: r => if nE p n ≠ 0 then nE p n else tG n.t r
def tE (l : List Nd) : Int := if l.length > 64 then 2 else if l.length = 0 then 3 else tG (-1) l
theorem tcheck_fn (l : List Nd) : Fn Tryz.prog 20 [tube l] .sc (.int (tE l)) := by
  have e := SecF.tcheck_form (tube l) (.int (tE l))
  have k := fun h => fn_run mixed 3 (Γ := SecF.Γ) (ann := SecF.ann) Tryz.func20 rfl Tryz.call20 (e.mpr h)
  refine k ?_
  clear k e
  simp
  refine ⟨fun h => by unfold tE; rw [if_pos (by omega)], fun h64 => ⟨fun h => by unfold tE; rw [if_neg (by omega), if_pos (by simp [h])], fun h0 => ?_⟩⟩
  have hE : tE l = tG (-1) l := by
    unfold tE
    rw [if_neg (by omega), if_neg (by simpa using h0)]
  have hl64 : l.length ≤ 64 := by omega
  generalize tE l = E at hE ⊢
  refine loop_list (σ := Int) l (fun n _ => [.int (n : Nat)]) (fun n rest p => E = tG p rest ∧ ((n = 0 ∧ p = -1) ∨ ∃ y, 0 < n ∧ l[n - 1]? = some y ∧ y.t = p ∧ 0 ≤ p)) (-1) rfl ⟨hE, .inl ⟨rfl, rfl⟩⟩ ?_ ?_
  · rintro n x rest p K hx hr hn ⟨hg, hp⟩ hK
    have hw : wr ((n : Int) + 1) = (n : Int) + 1 := wr_id (by omega) (by omega)
    have hw1 : wr ((n : Int) - 1) = (n : Int) - 1 := wr_id (by omega) (by omega)
    rw [tG] at hg
    have g1 : nE p x ≠ 0 → nE p x = E := fun h => by rw [hg, if_pos h]
    have g2 : nE p x = 0 → K [.int ((n : Nat) + 1)] := fun h => hK _ x.t (by simp) ⟨by rw [hg, if_neg (by simp [h])], .inr ⟨x, by omega, by simpa using hx, rfl, (nE_ok h).1⟩⟩
    clear hg hK
    obtain ⟨xt, xx, xy, xh, xr, xb⟩ := x
    have f1 : (xt < 0 ∨ xt > 200000 ∨ xt ≤ p) → 12 = E := fun h => by
      have : nE p ⟨xt, xx, xy, xh, xr, xb⟩ = 12 := by unfold nE; rw [if_pos h]
      rw [this] at g1; exact g1 (by decide)
    have f2 : ¬ (xt < 0 ∨ xt > 200000 ∨ xt ≤ p) → pE ⟨xx, xy⟩ ≠ 0 → pE ⟨xx, xy⟩ = E := fun h h2 => by
      have : nE p ⟨xt, xx, xy, xh, xr, xb⟩ = pE ⟨xx, xy⟩ := by unfold nE; rw [if_neg h]; exact if_pos h2
      rw [this] at g1; exact g1 h2
    have f3 : ¬ (xt < 0 ∨ xt > 200000 ∨ xt ≤ p) → pE ⟨xx, xy⟩ = 0 → (xh < 0 ∨ xh > 60000 ∨ xr < 0 ∨ xr > 1000000 ∨ xb < 0 ∨ xb > 60000) → 4 = E := fun h h2 h3 => by
      have : nE p ⟨xt, xx, xy, xh, xr, xb⟩ = 4 := by unfold nE; rw [if_neg h, if_neg (by simp [Nd.p, h2]), if_pos h3]
      rw [this] at g1; exact g1 (by decide)
    have f4 : ¬ (xt < 0 ∨ xt > 200000 ∨ xt ≤ p) → pE ⟨xx, xy⟩ = 0 → ¬ (xh < 0 ∨ xh > 60000 ∨ xr < 0 ∨ xr > 1000000 ∨ xb < 0 ∨ xb > 60000) → K [.int ((n : Nat) + 1)] := fun h h2 h3 => g2 (by unfold nE; rw [if_neg h, if_neg (by simp [Nd.p, h2]), if_neg h3])
    clear g1 g2
    have hpe := pe_fn ⟨xx, xy⟩
    generalize pE ⟨xx, xy⟩ = e at *
    have tail : ¬ (xt < 0 ∨ xt > 200000 ∨ xt ≤ p) → (e = 0 → xh < 0 → 4 = E) ∧ (e = 0 → 60000 < xh → 4 = E) ∧ (e = 0 → xr < 0 → 4 = E) ∧ (e = 0 → 1000000 < xr → 4 = E) ∧ (e = 0 → xb < 0 → 4 = E) ∧ (e = 0 → 60000 < xb → 4 = E) ∧ (e = 0 → 0 ≤ xh → xh ≤ 60000 → 0 ≤ xr → xr ≤ 1000000 → 0 ≤ xb → xb ≤ 60000 → K [.int ((n : Nat) + 1)]) := fun h =>
      ⟨fun a b => f3 h a (by omega), fun a b => f3 h a (by omega), fun a b => f3 h a (by omega), fun a b => f3 h a (by omega), fun a b => f3 h a (by omega), fun a b => f3 h a (by omega), fun a b c d f g i => f4 h a (by omega)⟩
    simp [hn, lst_atAgg hx, encN, hw, hw1]
    refine ⟨fun a => ⟨a, f1 (by omega)⟩, fun a => ⟨a, fun b => ⟨b, f1 (by omega)⟩, fun b => ⟨?_, ?_⟩⟩⟩
    · intro hn0
      rcases hp with ⟨hp1, _⟩ | ⟨y, hp1, hp2, hp3, hp4⟩
      · omega
      · have hat : AV.at (tube l) (.lit (.int .i64 ((n : Int) - 1))) 0 = .int p := by
          have h1 : ((n : Int) - 1).toNat = n - 1 := by omega
          rw [lst_atI (by omega) (by rw [h1]; exact hp2)]
          simp [encN, hp3]
        have hin : (0 : Int) ≤ (n : Int) - 1 ∧ (n : Int) - 1 < l.length := ⟨by omega, by omega⟩
        simp only [hat]
        refine ⟨by omega, by simp, hn0, b, by simp, fun q => ?_, fun q => ?_⟩
        · have : xt ≤ p := by simpa using q
          exact f1 (by omega)
        have hq : p < xt := by simpa using q
        obtain ⟨t1, t2, t3, t4, t5, t6, t7⟩ := tail (by omega)
        refine ⟨_, hpe, ?_⟩
        simp
        exact ⟨fun z => f2 (by omega) z, fun z => ⟨fun a => ⟨a, t1 z a⟩, fun a1 => ⟨a1, fun a => ⟨a, t2 z a⟩, fun a2 => ⟨a2, fun a => ⟨a, t3 z a⟩, fun a3 => ⟨a3, fun a => ⟨a, t4 z a⟩, fun a4 => ⟨a4, fun a => ⟨a, t5 z a⟩, fun a5 => ⟨a5, fun a => t6 z a, fun a6 => t7 z a1 a2 a3 a4 a5 a6⟩⟩⟩⟩⟩⟩⟩
    · intro hn0
      refine ⟨hn0, b, ?_⟩
      have hp1 : p = -1 := by
        rcases hp with ⟨_, h⟩ | ⟨y, h, _⟩
        · exact h
        · omega
      obtain ⟨t1, t2, t3, t4, t5, t6, t7⟩ := tail (by omega)
      refine ⟨_, hpe, ?_⟩
      simp
      exact ⟨fun z => f2 (by omega) z, fun z => ⟨fun a => ⟨a, t1 z a⟩, fun a1 => ⟨a1, fun a => ⟨a, t2 z a⟩, fun a2 => ⟨a2, fun a => ⟨a, t3 z a⟩, fun a3 => ⟨a3, fun a => ⟨a, t4 z a⟩, fun a4 => ⟨a4, fun a => ⟨a, t5 z a⟩, fun a5 => ⟨a5, fun a => t6 z a, fun a6 => t7 z a1 a2 a3 a4 a5 a6⟩⟩⟩⟩⟩⟩⟩
  · rintro _ K ⟨hg, _⟩
    rw [tG] at hg
    simp [hg]
theorem ends_fn (l : List Nd) (a b : Nd) (h0 : l[0]? = some a) (h1 : l[l.length - 1]? = some b) (hl : l.length ≤ 1000) : Fn Tryz.prog 129 [tube l] (.tup [.sc, .sc]) (.tup [.int a.t, .int b.t]) := by
  refine fn_run mixed 3 (Γ := SecF.Γ) (ann := SecF.ann) Tryz.func129 rfl Tryz.call129 ((SecF.ends_form _ _).mpr ?_)
  have hpos : 0 < l.length := (List.getElem?_eq_some_iff.1 h0).1
  have hw1 : wr ((l.length : Int) - 1) = (l.length : Int) - 1 := wr_id (by omega) (by omega)
  have e0 : AV.at (tube l) (.lit (.int .i64 0)) 0 = .int a.t := by
    rw [lst_atI (by omega) (by simpa using h0)]; simp [encN]
  have e1 : AV.at (tube l) (.lit (.int .i64 ((l.length : Int) - 1))) 0 = .int b.t := by
    have q : ((l.length : Int) - 1).toNat = l.length - 1 := by omega
    rw [lst_atI (by omega) (by rw [q]; exact h1)]; simp [encN]
  simp [hw1, e0, e1]
  omega
end Go.Proofs.YtcifjnhpgblnkaaGreatDoor
/- tubes: the node at a time. -/
namespace Go.Proofs.YtcifjnhpgblnkaaGreatDoor
open Go.RowKit
set_option linter.unusedVariables false
set_option linter.unusedSimpArgs false
set_option maxRecDepth 100000
/-- The nodes ahead of a time. -/
def ixF (t : Int) : List Nd → Nat
  | [] => 0
  | n :: r => if n.t < t then ixF t r + 1 else 0
theorem ixF_is {t : Int} : ∀ {l : List Nd} {k : Nat}, k ≤ l.length → (∀ j x, j < k → l[j]? = some x → x.t < t) → (∀ x, l[k]? = some x → ¬ x.t < t) → ixF t l = k
  | [], k, h, _, _ => by simp at h; simp [ixF, h]
  | n :: r, k, h, h1, h2 => by
    rw [ixF]
    cases k with
    | zero => rw [if_neg (h2 n rfl)]
    | succ k =>
      rw [if_pos (h1 0 n (by omega) rfl), ixF_is (k := k) (by simpa using h) (fun j x hj hx => h1 (j + 1) x (by omega) (by simpa using hx)) (fun x hx => h2 x (by simpa using hx))]
def okN (x : Nd) : Prop := 0 ≤ x.t ∧ x.t ≤ 200000 ∧ pE x.p = 0 ∧ 0 ≤ x.h ∧ x.h ≤ 60000 ∧ 0 ≤ x.r ∧ x.r ≤ 1000000 ∧ 0 ≤ x.b ∧ x.b ≤ 60000
/-- Valid nodes: each behind the one ahead. -/
theorem tG_get : ∀ {l : List Nd} {p : Int}, tG p l = 0 → ∀ {j : Nat} {x : Nd}, l[j]? = some x → p < x.t ∧ okN x ∧ ∀ k y, j < k → l[k]? = some y → x.t < y.t
  | [], p, _, j, x, hx => by simp at hx
  | n :: r, p, h, j, x, hx => by
    rw [tG] at h
    split at h
    · rename_i q; exact absurd h q
    · rename_i q
      have q : nE p n = 0 := by simpa using q
      have qo := nE_ok q
      cases j with
      | zero =>
        simp at hx
        subst hx
        refine ⟨qo.2.2.1, ⟨qo.1, qo.2.1, qo.2.2.2.1, qo.2.2.2.2.1, qo.2.2.2.2.2.1, qo.2.2.2.2.2.2.1, qo.2.2.2.2.2.2.2.1, qo.2.2.2.2.2.2.2.2.1, qo.2.2.2.2.2.2.2.2.2⟩, fun k y hk hy => ?_⟩
        obtain ⟨k, rfl⟩ : ∃ k', k = k' + 1 := ⟨k - 1, by omega⟩
        exact (tG_get h (j := k) (by simpa using hy)).1
      | succ j =>
        have ih := tG_get h (j := j) (by simpa using hx)
        refine ⟨by have := ih.1; omega, ih.2.1, fun k y hk hy => ?_⟩
        obtain ⟨k, rfl⟩ : ∃ k', k = k' + 1 := ⟨k - 1, by omega⟩
        exact ih.2.2 k y (by omega) (by simpa using hy)
theorem tE_ok {l : List Nd} (h : tE l = 0) : 0 < l.length ∧ l.length ≤ 64 ∧ tG (-1) l = 0 := by
  unfold tE at h
  split at h
  · cases h
  · split at h
    · cases h
    · exact ⟨by omega, by omega, h⟩
def interp (a b : Nd) (t : Int) : Nd :=
  ⟨t, (towP a.p b.p (t - a.t) (b.t - a.t)).x, (towP a.p b.p (t - a.t) (b.t - a.t)).y, a.h + (b.h - a.h) * (t - a.t) / (b.t - a.t), a.r + dvu ((b.r - a.r) * (t - a.t)) (b.t - a.t), a.b + dvu ((b.b - a.b) * (t - a.t)) (b.t - a.t)⟩
def atN (l : List Nd) (t : Int) : Nd := if (l.getD (ixF t l) default).t = t then l.getD (ixF t l) default else interp (l.getD (ixF t l - 1) default) (l.getD (ixF t l) default) t
theorem half_u (n : Nat) (h : n ≤ 1000) : AV.shfOk (.lit (.int .u64 (n : Nat))) (.lit (.int .u64 1)) ∧ AV.conv .i64 (AV.shf .shr (.lit (.int .u64 (n : Nat))) (.lit (.int .u64 1))) = .int ((n / 2 : Nat) : Int) ∧ AV.isInt (AV.shf .shr (.lit (.int .u64 (n : Nat))) (.lit (.int .u64 1))) := by
  refine ⟨⟨⟨_, _, rfl⟩, ⟨_, _, rfl⟩, by simp⟩, ?_, ⟨_, _, rfl⟩⟩
  have e : AV.shf .shr (.lit (.int .u64 (n : Nat))) (.lit (.int .u64 1)) = .lit (.int .u64 ((n : Int).fdiv 2)) := by
    show AV.lit (.int .u64 ((n : Int).fdiv (2 ^ 1))) = _
    simp
  rw [e, Int.fdiv_eq_ediv_of_nonneg _ (by omega)]
  show AV.lit (.int .i64 (IntKind.i64.wrap ((n : Int) / 2))) = _
  rw [wrap64 (by omega) (by omega)]
  congr 2
theorem u64_id (n : Nat) (h : n ≤ 1000) : IntKind.u64.wrap (n : Int) = (n : Int) := by
  simp [IntKind.wrap, IntKind.bits, IntKind.signed]; omega
theorem at_fn (l : List Nd) (t : Int) (hv : tE l = 0) (h0 : ∀ x, l[0]? = some x → x.t ≤ t) (h1 : ∀ x, l[l.length - 1]? = some x → t ≤ x.t) : Fn Tryz.prog 130 [tube l, .int t] .sc (nd (atN l t)) := by
  have e := SecF.at_form (tube l) (.int t) (nd (atN l t))
  have k := fun h => fn_run mixed 3 (Γ := SecF.Γ) (ann := SecF.ann) Tryz.func130 rfl Tryz.call130 (e.mpr h)
  refine k ?_
  clear k e
  obtain ⟨hp, h64, hG⟩ := tE_ok hv
  have en1 : Ent Tryz.prog 191 := Tryz.call191
  refine ⟨Tryz.call190, fun _ => ⟨by simp, ?_⟩⟩
  refine loop_of (τ := Nat × Nat) (fun s => [.int (s.1 : Nat), .int (s.2 : Nat)]) (fun s => s.1 ≤ s.2 ∧ s.2 ≤ l.length ∧ (∀ j x, j < s.1 → l[j]? = some x → x.t < t) ∧ ∀ j x, s.2 ≤ j → l[j]? = some x → ¬ x.t < t) (fun s => s.2 - s.1) (0, l.length) (by simp)
    ⟨by omega, Nat.le_refl _, fun j x hj => by simp at hj, fun j x hj hx => by have hj : l.length ≤ j := hj; rw [List.getElem?_eq_none hj] at hx; cases hx⟩ ?_
  rintro ⟨lo, hi⟩ ⟨i1, i2, i3, i4⟩
  simp only at i1 i2 i3 i4
  obtain ⟨S, hS⟩ : ∃ S, S = lo + hi := ⟨_, rfl⟩
  have w1 : wr ((lo : Int) + (hi : Int)) = (S : Int) := by rw [wr_id (by omega) (by omega)]; omega
  have w2 : AV.conv .u64 (.lit (.int .i64 (S : Int))) = .lit (.int .u64 (S : Int)) := by
    show AV.lit (.int .u64 (IntKind.u64.wrap (S : Int))) = _
    rw [u64_id S (by omega)]
  obtain ⟨s1, s2, s3⟩ := half_u S (by omega)
  refine ⟨by simp, by simp, fun hlt => ?_, fun hge => ?_⟩
  · have hlt : lo < hi := by simpa using hlt
    generalize hm : S / 2 = m at s2
    have hmb : lo ≤ m ∧ m < hi := by omega
    obtain ⟨x, hx⟩ : ∃ x, l[m]? = some x := ⟨_, List.getElem?_eq_getElem (by omega)⟩
    have hxo := (tG_get hG hx).2.1
    have g1 : x.t < t → (fun zs : List AV => ∃ m', m' < hi - lo ∧ ∃ y : Nat × Nat, zs = [.int (y.1 : Nat), .int (y.2 : Nat)] ∧ (y.1 ≤ y.2 ∧ y.2 ≤ l.length ∧ (∀ j x, j < y.1 → l[j]? = some x → x.t < t) ∧ ∀ j x, y.2 ≤ j → l[j]? = some x → ¬ x.t < t) ∧ y.2 - y.1 = m') [.int ((m : Nat) + 1), .int (hi : Nat)] := fun q =>
      ⟨_, by omega, (m + 1, hi), by simp, ⟨by simp; omega, i2, fun j y hj hy => ?_, i4⟩, rfl⟩
    have g2 : ¬ x.t < t → (fun zs : List AV => ∃ m', m' < hi - lo ∧ ∃ y : Nat × Nat, zs = [.int (y.1 : Nat), .int (y.2 : Nat)] ∧ (y.1 ≤ y.2 ∧ y.2 ≤ l.length ∧ (∀ j x, j < y.1 → l[j]? = some x → x.t < t) ∧ ∀ j x, y.2 ≤ j → l[j]? = some x → ¬ x.t < t) ∧ y.2 - y.1 = m') [.int (lo : Nat), .int (m : Nat)] := fun q =>
      ⟨_, by omega, (lo, m), by simp, ⟨by simp; omega, by simp; omega, i3, fun j y hj hy => ?_⟩, rfl⟩
    rotate_left
    · have hj : m ≤ j := hj
      rcases Nat.eq_or_lt_of_le hj with q2 | q2
      · subst q2
        rw [hx] at hy; injection hy with hy; rw [← hy]; exact q
      · have := (tG_get hG hx).2.2 j y q2 hy; omega
    · have hj : j < m + 1 := hj
      rcases Nat.lt_or_ge j m with q2 | q2
      · have := (tG_get hG hy).2.2 m x q2 hx; omega
      · obtain rfl : j = m := by omega
        rw [hx] at hy; injection hy with hy; rw [← hy]; exact q
    obtain ⟨q1, q2, _⟩ := hxo
    obtain ⟨x0, hx0⟩ : ∃ x0, l[0]? = some x0 := ⟨_, List.getElem?_eq_getElem (by omega)⟩
    have t0 : 0 ≤ t := by have := h0 x0 hx0; have := (tG_get hG hx0).2.1.1; omega
    obtain ⟨x1, hx1⟩ : ∃ x1, l[l.length - 1]? = some x1 := ⟨_, List.getElem?_eq_getElem (by omega)⟩
    have t1 : t ≤ 200000 := by have := h1 x1 hx1; have := (tG_get hG hx1).2.1.2.1; omega
    have wd : wr (x.t - t) = x.t - t := wr_id (by omega) (by omega)
    have wm : wr ((m : Int) + 1) = (m : Int) + 1 := wr_id (by omega) (by omega)
    generalize hKK : (fun zs : List AV => ∃ m', m' < hi - lo ∧ ∃ y : Nat × Nat, zs = [.int (y.1 : Nat), .int (y.2 : Nat)] ∧ (y.1 ≤ y.2 ∧ y.2 ≤ l.length ∧ (∀ j x, j < y.1 → l[j]? = some x → x.t < t) ∧ ∀ j x, y.2 ≤ j → l[j]? = some x → ¬ x.t < t) ∧ y.2 - y.1 = m') = KK at *
    clear hKK i3 i4 h0 h1
    obtain ⟨xt, xx, xy, xh, xr, xb⟩ := x
    simp [w1, w2, s1, s2, s3, lst_atAgg hx, encN, wd, wm, en1, show m < l.length by omega]
    exact ⟨fun q => g1 (by show xt < t; omega), fun q => g2 (by show ¬ xt < t; omega)⟩
  · have hge : hi ≤ lo := by simpa using hge
    obtain rfl : hi = lo := by omega
    have hlo : hi < l.length := by
      refine Nat.lt_of_le_of_ne i2 fun q => ?_
      obtain ⟨z, hz⟩ : ∃ z, l[l.length - 1]? = some z := ⟨_, List.getElem?_eq_getElem (by omega)⟩
      have := h1 z hz
      have := i3 (l.length - 1) z (by omega) hz
      omega
    have hix : ixF t l = hi := ixF_is i2 i3 (fun x hx => i4 hi x (Nat.le_refl _) hx)
    obtain ⟨b, hb⟩ : ∃ b, l[hi]? = some b := ⟨_, List.getElem?_eq_getElem hlo⟩
    have hbd : l.getD (ixF t l) default = b := by rw [hix, List.getD_eq_getElem?_getD, hb]; rfl
    have hbo := (tG_get hG hb).2.1
    have hbt := i4 hi b (Nat.le_refl _) hb
    have hat : atN l t = if b.t = t then b else interp (l.getD (hi - 1) default) b t := by unfold atN; rw [hbd, hix]
    obtain ⟨x0, hx0⟩ : ∃ x0, l[0]? = some x0 := ⟨_, List.getElem?_eq_getElem (by omega)⟩
    have t0 : 0 ≤ t := by have := h0 x0 hx0; have := (tG_get hG hx0).2.1.1; omega
    obtain ⟨x1, hx1⟩ : ∃ x1, l[l.length - 1]? = some x1 := ⟨_, List.getElem?_eq_getElem (by omega)⟩
    have t1 : t ≤ 200000 := by have := h1 x1 hx1; have := (tG_get hG hx1).2.1.2.1; omega
    have e1 : b.t = t → nd (atN l t) = nd b := fun q => by rw [hat, if_pos q]
    have e2 : b.t ≠ t → ∃ a, l[hi - 1]? = some a ∧ 0 < hi ∧ okN a ∧ a.t < t ∧ t < b.t ∧ nd (atN l t) = nd (interp a b t) := fun q => by
      have hpos : 0 < hi := by
        refine Nat.pos_of_ne_zero fun z => ?_
        subst z
        have := h0 b hb
        omega
      obtain ⟨a, ha⟩ : ∃ a, l[hi - 1]? = some a := ⟨_, List.getElem?_eq_getElem (by omega)⟩
      have had : l.getD (hi - 1) default = a := by rw [List.getD_eq_getElem?_getD, ha]; rfl
      exact ⟨a, ha, hpos, (tG_get hG ha).2.1, i3 (hi - 1) a (by omega) ha, by omega, by rw [hat, if_neg q, had]⟩
    generalize nd (atN l t) = R at *
    have wd : wr (b.t - t) = b.t - t := by obtain ⟨q1, q2, _⟩ := hbo; exact wr_id (by omega) (by omega)
    clear hat hbd hix i3 i4 h1
    have hbo' := hbo
    obtain ⟨bt, bx, b_, bh, br, bb⟩ := b
    simp only at wd
    by_cases hbt0 : bt = t
    · have hz : bt - t = 0 := by omega
      have hw0 : wr (bt - t) = 0 := by rw [wd, hz]
      simp [hlo, lst_atAgg hb, encN, hw0, en1]
      exact (e1 hbt0).symm
    · obtain ⟨a, ha, hpos, hao, hat1, hat2, hR⟩ := e2 hbt0
      obtain ⟨k, rfl⟩ : ∃ k, hi = k + 1 := ⟨hi - 1, by omega⟩
      have wk : wr (k : Int) = (k : Int) := wr_id (by omega) (by omega)
      have ha : l[k]? = some a := ha
      have hz : ¬ bt - t = 0 := by omega
      have hao' := hao
      obtain ⟨at_, ax, ay, ah, ar, ab⟩ := a
      simp only [okN, Nd.p] at hbo hao hat1 hat2
      obtain ⟨a1, a2, a3, a4, a5, a6, a7, a8, a9⟩ := hao
      obtain ⟨b1, b2, b3, b4, b5, b6, b7, b8, b9⟩ := hbo
      have v1 : wr (t - at_) = t - at_ := wr_id (by omega) (by omega)
      have v2 : wr (bt - at_) = bt - at_ := wr_id (by omega) (by omega)
      have v3 : wr (bh - ah) = bh - ah := wr_id (by omega) (by omega)
      have v4 : wr (br - ar) = br - ar := wr_id (by omega) (by omega)
      have v5 : wr (bb - ab) = bb - ab := wr_id (by omega) (by omega)
      have m1 := mulb (p := bh - ah) (n := t - at_) (by omega) (by omega) (by omega) (by omega)
      have m2 := mulb (p := br - ar) (n := t - at_) (by omega) (by omega) (by omega) (by omega)
      have m3 := mulb (p := bb - ab) (n := t - at_) (by omega) (by omega) (by omega) (by omega)
      have v6 : wr ((bh - ah) * (t - at_)) = (bh - ah) * (t - at_) := wr_id (by omega) (by omega)
      have v7 : wr ((br - ar) * (t - at_)) = (br - ar) * (t - at_) := wr_id (by omega) (by omega)
      have v8 : wr ((bb - ab) * (t - at_)) = (bb - ab) * (t - at_) := wr_id (by omega) (by omega)
      have hd : 0 < bt - at_ := by omega
      have c1 := toward_fn ⟨ax, ay⟩ ⟨bx, b_⟩ (t - at_) (bt - at_) a3 b3 hd (by omega) (by omega) (by omega)
      have c2 := divd_fn ((bh - ah) * (t - at_)) (bt - at_) hd (by omega) (by omega)
      have c3 := divu_fn ((br - ar) * (t - at_)) (bt - at_) hd (by omega) (by omega)
      have c4 := divu_fn ((bb - ab) * (t - at_)) (bt - at_) hd (by omega) (by omega)
      have d2 := quo_bd hd (a := (bh - ah) * (t - at_)) (by omega) (by omega)
      have d3 := dvu_bd hd (a := (br - ar) * (t - at_)) (by omega) (by omega)
      have d4 := dvu_bd hd (a := (bb - ab) * (t - at_)) (by omega) (by omega)
      have v9 : wr (ah + (bh - ah) * (t - at_) / (bt - at_)) = ah + (bh - ah) * (t - at_) / (bt - at_) := wr_id (by omega) (by omega)
      have v10 : wr (ar + dvu ((br - ar) * (t - at_)) (bt - at_)) = ar + dvu ((br - ar) * (t - at_)) (bt - at_) := wr_id (by omega) (by omega)
      have v11 : wr (ab + dvu ((bb - ab) * (t - at_)) (bt - at_)) = ab + dvu ((bb - ab) * (t - at_)) (bt - at_) := wr_id (by omega) (by omega)
      have hlo' : (k : Int) + 1 < l.length := by omega
      have hlo2 : (k : Int) < l.length := by omega
      have hbz : AV.atAgg (tube l) (.lit (.int .i64 ((k : Int) + 1))) 0 6 = .agg [.int bt, .int bx, .int b_, .int bh, .int br, .int bb] := by
        have := lst_atAgg (s := 6) (enc := encN) (k := .i64) (j := 0) (m := 6) hb
        simpa [encN] using this
      rw [hR]
      simp [hlo', hlo2, hbz, lst_atAgg ha, encN, wd, en1, hz, wk, v1, v2]
      refine ⟨by omega, _, c1, ?_⟩
      simp [encP, v3, v6]
      refine ⟨_, c2, ?_⟩
      simp [v4, v7]
      refine ⟨_, c3, ?_⟩
      simp [v5, v8]
      refine ⟨_, c4, ?_⟩
      simp [v9, v10, v11, interp, Nd.p]
def tatE (l : List Nd) (t : Int) : Int := if tE l ≠ 0 then tE l else if t < (l.getD 0 default).t ∨ t > (l.getD (l.length - 1) default).t then 12 else 0
def nd0 : Nd := ⟨0, 0, 0, 0, 0, 0⟩
def tatV (l : List Nd) (t : Int) : AV := if tatE l t = 0 then .tup [nd (atN l t), .int 0] else .tup [nd nd0, .int (tatE l t)]
theorem tat_fn (l : List Nd) (t : Int) : Fn Tryz.prog 68 [tube l, .int t] (.tup [.sc, .sc]) (tatV l t) := by
  refine fn_run mixed 3 (Γ := SecF.Γ) (ann := SecF.ann) Tryz.func68 rfl Tryz.call68 ((SecF.tat_form _ _ _).mpr ?_)
  refine ⟨_, tcheck_fn l, ?_⟩
  have hV1 : tE l ≠ 0 → tatV l t = .tup [nd nd0, .int (tE l)] := fun g => by
    have : tatE l t = tE l := by unfold tatE; rw [if_pos g]
    unfold tatV; rw [this, if_neg g]
  simp
  refine ⟨fun g => (hV1 g).symm, fun g => ?_⟩
  obtain ⟨hp, h64, hG⟩ := tE_ok g
  obtain ⟨a, ha⟩ : ∃ a, l[0]? = some a := ⟨_, List.getElem?_eq_getElem hp⟩
  obtain ⟨b, hb⟩ : ∃ b, l[l.length - 1]? = some b := ⟨_, List.getElem?_eq_getElem (by omega)⟩
  have had : l.getD 0 default = a := by rw [List.getD_eq_getElem?_getD, ha]; rfl
  have hbd : l.getD (l.length - 1) default = b := by rw [List.getD_eq_getElem?_getD, hb]; rfl
  have hV2 : (t < a.t ∨ t > b.t) → tatV l t = .tup [nd nd0, .int 12] := fun q => by
    have : tatE l t = 12 := by unfold tatE; rw [if_neg (by simp [g]), had, hbd, if_pos q]
    unfold tatV; rw [this, if_neg (by decide)]
  have hV3 : ¬ (t < a.t ∨ t > b.t) → tatV l t = .tup [nd (atN l t), .int 0] := fun q => by
    have : tatE l t = 0 := by unfold tatE; rw [if_neg (by simp [g]), had, hbd, if_neg q]
    unfold tatV; rw [if_pos this]
  refine ⟨_, ends_fn l a b ha hb (by omega), ?_⟩
  simp
  refine ⟨fun q => ⟨q, (hV2 (by omega)).symm⟩, fun q => ⟨q, fun q2 => (hV2 (by omega)).symm, fun q2 => ?_⟩⟩
  rw [hV3 (by omega)]
  refine ⟨_, at_fn l t g (fun x hx => by rw [ha] at hx; injection hx with hx; rw [← hx]; exact q) (fun x hx => by rw [hb] at hx; injection hx with hx; rw [← hx]; exact q2), ?_⟩
  simp [encN]
end Go.Proofs.YtcifjnhpgblnkaaGreatDoor
/- plane: distances. -/
namespace Go.Proofs.YtcifjnhpgblnkaaGreatDoor
open Go.RowKit
set_option linter.unusedVariables false
set_option linter.unusedSimpArgs false
set_option maxRecDepth 100000
def rbin (n : Int) : Nat → Int → Int → Int
  | 0, lo, _ => lo
  | f + 1, lo, hi => if lo < hi then (if (lo + (hi - lo + 1) / 2) * (lo + (hi - lo + 1) / 2) ≤ n then rbin n f (lo + (hi - lo + 1) / 2) hi else rbin n f lo (lo + (hi - lo + 1) / 2 - 1)) else lo
def rootI (n : Int) : Int := if n ≤ 0 then 0 else rbin n 40 0 3037000499
theorem rbin_bd (n : Int) : ∀ (f : Nat) (lo hi : Int), lo ≤ hi → lo ≤ rbin n f lo hi ∧ rbin n f lo hi ≤ hi
  | 0, lo, hi, h => ⟨Int.le_refl _, h⟩
  | f + 1, lo, hi, h => by
    rw [rbin]
    split
    · split
      · have := rbin_bd n f (lo + (hi - lo + 1) / 2) hi (by omega); omega
      · have := rbin_bd n f lo (lo + (hi - lo + 1) / 2 - 1) (by omega); omega
    · omega
theorem rootI_bd (n : Int) : 0 ≤ rootI n ∧ rootI n ≤ 3037000499 := by
  unfold rootI
  split
  · omega
  · exact rbin_bd n 40 0 3037000499 (by omega)
theorem sq_bd {r : Int} (h0 : 0 ≤ r) (h1 : r ≤ 3037000499) : 0 ≤ r * r ∧ r * r ≤ 9223372030926249001 := by
  have a1 := Int.mul_le_mul h1 h1 h0 (by omega)
  have a2 := Int.mul_nonneg h0 h0
  exact ⟨a2, by simpa using a1⟩
theorem root_fn (n : Int) : Fn Tryz.prog 252 [.int n] .sc (.int (rootI n)) := by
  have e := DisF.root_form (.int n) (.int (rootI n))
  have k := fun h => fn_run mixed 3 (Γ := DisF.Γ) (ann := DisF.ann) Tryz.func252 rfl Tryz.call252 (e.mpr h)
  refine k ?_
  clear k e
  refine ⟨by simp, by simp, fun h => ?_, fun h => ?_⟩
  · have h : n ≤ 0 := by simpa using h
    unfold rootI
    rw [if_pos h]
    simp
  · have h : ¬ n ≤ 0 := by simpa using h
    have hR : rootI n = rbin n 40 0 3037000499 := by unfold rootI; rw [if_neg h]
    rw [hR]
    generalize hr : rbin n 40 0 3037000499 = R
    refine loop_of (τ := Int × Int × Nat) (fun s => [.int s.1, .int s.2.1]) (fun s => 0 ≤ s.1 ∧ s.1 ≤ s.2.1 ∧ s.2.1 ≤ 3037000499 ∧ s.2.1 - s.1 < (2 ^ s.2.2 : Nat) ∧ rbin n s.2.2 s.1 s.2.1 = R) (fun s => (s.2.1 - s.1).toNat) (0, 3037000499, 40) rfl ⟨by simp, by simp, by simp, by simp, hr⟩ ?_
    rintro ⟨lo, hi, f⟩ ⟨i1, i2, i3, i4, i5⟩
    simp only at i1 i2 i3 i4 i5
    by_cases hlt : lo < hi
    · obtain ⟨g, rfl⟩ : ∃ g, f = g + 1 := ⟨f - 1, by
        rcases Nat.eq_zero_or_pos f with z | z
        · subst z; simp at i4; omega
        · omega⟩
      rw [Nat.pow_succ] at i4
      generalize hP : 2 ^ g = P at i4
      have hP' : (2 : Int) ^ g = (P : Int) := by rw [← hP]; simp
      rw [rbin, if_pos hlt] at i5
      have e1 : (hi - lo + 1).tdiv 2 = (hi - lo + 1) / 2 := Int.tdiv_eq_ediv_of_nonneg (by omega)
      have w1 : wr (hi - lo) = hi - lo := wr_id (by omega) (by omega)
      have w2 : wr (hi - lo + 1) = hi - lo + 1 := wr_id (by omega) (by omega)
      have w3 : wr ((hi - lo + 1) / 2) = (hi - lo + 1) / 2 := wr_id (by omega) (by omega)
      have w4 : wr (lo + (hi - lo + 1) / 2) = lo + (hi - lo + 1) / 2 := wr_id (by omega) (by omega)
      generalize hm : lo + (hi - lo + 1) / 2 = m at *
      have hmb : lo < m ∧ m ≤ hi ∧ 2 * (hi - m) ≤ hi - lo ∧ 2 * (m - 1 - lo) ≤ hi - lo := by omega
      have hsq := sq_bd (r := m) (by omega) (by omega)
      have w5 : wr (m * m) = m * m := wr_id (by omega) (by omega)
      have w6 : wr (m - 1) = m - 1 := wr_id (by omega) (by omega)
      simp [hlt, w1, w2, w3, hm, w4, w5, w6, e1]
      refine ⟨fun q => ?_, fun q => ?_⟩
      · rw [if_pos q] at i5
        exact ⟨_, by omega, m, hi, ⟨rfl, rfl⟩, ⟨⟨by omega, by omega, i3, g, by rw [hP']; omega, i5⟩, rfl⟩⟩
      · rw [if_neg (by omega)] at i5
        exact ⟨_, by omega, lo, m - 1, ⟨rfl, rfl⟩, ⟨⟨by omega, by omega, by omega, g, by rw [hP']; omega, i5⟩, rfl⟩⟩
    · have : rbin n f lo hi = lo := by cases f <;> simp [rbin, hlt]
      rw [this] at i5
      subst i5
      simp [hlt]
def disA (a b : Pt) : Int := rootI (sqrP a b)
def disB (a b : Pt) : Int := if disA a b * disA a b < sqrP a b then disA a b + 1 else disA a b
theorem dist_fn (a b : Pt) : Fn Tryz.prog 201 [pt a, pt b] (.tup [.sc, .sc]) (.tup [.int (disA a b), .int (disB a b)]) := by
  have e := DisF.dist_form (pt a) (pt b) (.tup [.int (disA a b), .int (disB a b)])
  have k := fun h => fn_run mixed 3 (Γ := DisF.Γ) (ann := DisF.ann) Tryz.func201 rfl Tryz.call201 (e.mpr h)
  refine k ?_
  clear k e
  have hb := rootI_bd (sqrP a b)
  have hsq := sq_bd hb.1 hb.2
  have hB : disB a b = if disA a b * disA a b < sqrP a b then disA a b + 1 else disA a b := rfl
  have hA : disA a b = rootI (sqrP a b) := rfl
  rw [hB, hA]
  refine ⟨by simp [encP], by simp [encP], _, sqr_fn a b, _, root_fn _, ?_⟩
  generalize sqrP a b = n at *
  generalize rootI n = R at *
  have w1 : wr (R * R) = R * R := wr_id (by omega) (by omega)
  have w2 : wr (R + 1) = R + 1 := wr_id (by omega) (by omega)
  simp [w1, w2]
  exact ⟨fun q q2 => by omega, fun q q2 => by omega⟩
end Go.Proofs.YtcifjnhpgblnkaaGreatDoor
/- probe.separated; what tube.At and it give at written-out values. -/
namespace Go.Proofs.YtcifjnhpgblnkaaGreatDoor
open Go.RowKit
set_option linter.unusedVariables false
set_option linter.unusedSimpArgs false
set_option maxRecDepth 100000
structure Sp where
  la : Int
  ve : Int
def encSp (s : Sp) : List AV := [.int s.la, .int s.ve]
abbrev sp (s : Sp) : AV := .agg (encSp s)
def mxJ (a b : Int) : Int := if b > a then b else a
def sepB (a b : Nd) (s : Sp) : Bool := decide (wr (wr (disA a.p b.p - a.r) - b.r) ≥ s.la) || decide (wr (wr (mxJ (wr (a.h - b.h)) (wr (b.h - a.h)) - a.b) - b.b) ≥ s.ve)
theorem sep_fn (a b : Nd) (s : Sp) : Fn Tryz.prog 215 [nd a, nd b, sp s] .sc (.bool (sepB a b s)) := by
  have e := SepF.sep_form (nd a) (nd b) (sp s) (.bool (sepB a b s))
  have k := fun h => fn_run mixed 3 (Γ := SepF.Γ) (ann := SepF.ann) Tryz.func215 rfl Tryz.call215 (e.mpr h)
  refine k ?_
  clear k e
  have hd := dist_fn a.p b.p
  have hS : sepB a b s = (decide (wr (wr (disA a.p b.p - a.r) - b.r) ≥ s.la) || decide (wr (wr (mxJ (wr (a.h - b.h)) (wr (b.h - a.h)) - a.b) - b.b) ≥ s.ve)) := rfl
  rw [hS]
  generalize disA a.p b.p = D at *
  generalize disB a.p b.p = D2 at *
  obtain ⟨at_, ax, ay, ah, ar, ab⟩ := a
  obtain ⟨bt, bx, b_, bh, br, bb⟩ := b
  obtain ⟨la, ve⟩ := s
  refine ⟨by simp [encN], by simp [encN], by simp [encSp], _, hd, ?_⟩
  simp [encN, encSp]
  refine ⟨fun h => ⟨h, .inl h⟩, fun h => ⟨h, ?_⟩⟩
  have : ¬ la ≤ wr (wr (D - ar) - br) := by omega
  simp [this, mxJ]
theorem tat_eq (l : List Nd) (t : Int) {r : AV} (h : tatV l t = r) : Fn Tryz.prog 68 [tube l, .int t] (.tup [.sc, .sc]) r := h ▸ tat_fn l t
theorem sep_eq (a b : Nd) (s : Sp) {c : Bool} (h : sepB a b s = c) : Fn Tryz.prog 215 [nd a, nd b, sp s] .sc (.bool c) := h ▸ sep_fn a b s
end Go.Proofs.YtcifjnhpgblnkaaGreatDoor
