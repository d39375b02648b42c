/- slices.Insert at api.OwnerEntry. -/
import Derived.Test.YtalfopommofdfaaIns
namespace Go.Proofs.Ytalfopommofdfaa
open Go.RowKit Go.Lib
set_option linter.unusedVariables false
set_option linter.unusedSimpArgs false
set_option maxRecDepth 1000000
set_option maxHeartbeats 4000000
theorem insOwn_info : (Try.prog.info? 44).map (fun i => (i.zero, i.size, i.bytes)) = some (some (.agg #[.string ByteArray.empty, .string ByteArray.empty, .string ByteArray.empty]), 3, 48) := by kernel_rfl
theorem insOwn_size (w : World) : (Go.sizeOf 44).run Try.prog w = .ok 3 w := by kernel_rfl
theorem insOwn_und : Try.prog.underlying 37 = some (.slice 44) := by kernel_rfl
/-- At the end. -/
theorem insOwn_end (A : Option Addr) (n c vb vo m vc : Nat) (hm : 0 < m) (hnc : n ≤ c) (hc : c ≤ maxLen) (w w' : World) (v' : Value) (hrun : (Builtin.append_ #[37, 37] 37 #[.slice A n c, .slice (some ⟨vb, vo, none⟩) m vc]).run Try.prog w = .ok v' w') :
    Calls Try.prog 43 #[.slice A n c, .int .i64 n, .slice (some ⟨vb, vo, none⟩) m vc] w fun e W => e = .returned v' ∧ W = w' := by
  unfold maxLen at hc
  have hz1 : ¬ ((m : Int) = 0) := by omega
  have hb : (n : Int) ≤ 9223372036854775807 := by omega
  go_enter Try.func43, Try.ntmps43
  cases A with
  | none =>
    go_wp2_with (at_builtin; refine Lib.wpList_append_run _ rfl _ _ _ _ rfl _ _ rfl rfl _ _ hrun ?_)
    all_goals (go_ret; exact ⟨rfl, rfl⟩)
  | some a =>
    obtain ⟨ab, ao, asp⟩ := a
    go_wp2_with (at_builtin; refine Lib.wpList_append_run _ rfl _ _ _ _ rfl _ _ rfl rfl _ _ hrun ?_)
    all_goals (go_ret; exact ⟨rfl, rfl⟩)
/-- In place. -/
theorem insOwn_shift (b n c i vb vo m vc : Nat) (xs ys : List Value) (cur : Array Value) (w : World) (hi : i < n) (hm : 0 < m) (hroom : n + m ≤ c) (hc63 : c ≤ 9223372036854775807) (hvb : vb ≠ b)
    (hcl : xs.length = n * 3) (hvl : ys.length = m * 3) (hg : w.heap[b]? = some (.cells cur 44 (0, 0))) (hcs : cur.size = c * 3) (htk : cur.toList.take (n * 3) = xs)
    (hvs : ∀ j v, ys[j]? = some v → w.cell? ⟨vb, vo + j, none⟩ = some v) (h1c : ∀ v ∈ xs, v.oneCell' = true) (h1v : ∀ v ∈ ys, v.oneCell' = true) :
    Calls Try.prog 43 #[.slice (some ⟨b, 0, none⟩) n c, .int .i64 i, .slice (some ⟨vb, vo, none⟩) m vc] w fun e w' =>
      e = .returned (.slice (some ⟨b, 0, none⟩) (n + m) c) ∧ w' = (w.drew.setCells b ((i + m) * 3) (xs.drop (i * 3))).setCells b (i * 3) ys := by
  have mixed : Try.prog.follows .mixedOrders = true := by kernel_rfl
  have hz1 : ¬ ((m : Int) = 0) := by omega
  have hz2 : ¬ ((i : Int) = (n : Int)) := by omega
  have hsz : (Try.prog.info? 44).map (·.size) = some 3 := by kernel_rfl
  have hy0 : ∃ v, w.cell? ⟨vb, vo, none⟩ = some v := by
    have h0 : 0 < ys.length := by rw [hvl]; omega
    exact ⟨ys[0], by simpa using hvs 0 _ (List.getElem?_eq_getElem h0)⟩
  obtain ⟨csA, tA, fz, hA, hA0⟩ : ∃ csA tA fz, w.heap[vb]? = some (.cells csA tA fz) ∧ csA.size ≠ 0 := by
    obtain ⟨v, hv⟩ := hy0
    unfold World.cell? at hv
    cases hq : w.heap[vb]? with
    | none => simp [hq] at hv
    | some o =>
      cases o with
      | cells cs tA fz =>
        refine ⟨cs, tA, fz, rfl, fun e => ?_⟩
        have : cs = #[] := by simpa using e
        subst this
        simp [hq] at hv
      | _ => simp [hq] at hv
  have hov : ∀ lb cb, (callFunc 53 #[.slice (some ⟨vb, vo, none⟩) m vc, .slice (some ⟨b, (i + m) * 3, none⟩) lb cb]).run Try.prog w = .ok (.value (.bool false)) w := fun lb cb => by
    rw [run_callFunc_extern Try.func53 (by kernel_rfl) (by kernel_rfl) (by kernel_rfl) (e := Extern.SlicesOverlaps.overlaps #[37, 37] #[4]) (by kernel_rfl),
      run_overlaps_own w 37 4 44 insOwn_und 3 insOwn_size ⟨vb, vo, none⟩ ⟨b, (i + m) * 3, none⟩ m vc lb cb hvb csA tA fz hA hA0 cur 44 hg]
    rfl
  have hdl : (xs.drop (i * 3)).length = (n - i) * 3 := by rw [List.length_drop, hcl, Nat.sub_mul]
  have hw1 : IntKind.i64.wrap ((i : Int) + (m : Int)) = (i : Int) + (m : Int) := by rw [IntKind.wrap_i64]; omega
  have hb1 : (0 : Int) ≤ (i : Int) + (m : Int) := by omega
  have hin : i ≤ n := by omega
  have htn : ((i : Int) + (m : Int)).toNat = i + m := by omega
  have hb2 : ¬ (c = i + m) := by omega
  have hb3 : (i : Int) ≤ (n : Int) + (m : Int) := by omega
  have hb4 : ¬ (c = i) := by omega
  have hfz : ∀ (W : World) (cs : Array Value), W.heap[b]? = some (.cells cs 44 (0, 0)) → ∀ k, W.frozen? ⟨b, k, none⟩ = false := fun W cs hW k => by simp [World.frozen?, hW]
  have hsp : ∀ (W : World) (cs : Array Value), W.heap[b]? = some (.cells cs 44 (0, 0)) → ∀ k, k < cs.size → (W.cell? ⟨b, k, none⟩).isSome = true := fun W cs hW k hk => by
    rw [cell_of_row W b k cs 44 (0, 0) hW]; simp [hk]
  have hmul : ∀ a b : Nat, a ≤ b → a * 3 ≤ b * 3 := fun a b h => Nat.mul_le_mul_right _ h
  have hg1 : w.drew.heap[b]? = some (.cells cur 44 (0, 0)) := hg
  have hcp1 : ∀ ty dc sc, (Builtin.copy_ #[37, 37] ty #[.slice (some ⟨b, (i + m) * 3, none⟩) (n + m - (i + m)) dc, .slice (some ⟨b, i * 3, none⟩) (n + m - i) sc]).run Try.prog w.drew = .ok (goInt ((n - i : Nat) : Int)) (w.drew.setCells b ((i + m) * 3) (xs.drop (i * 3))) := fun ty dc sc =>
    run_copy_s w.drew _ _ ty 44 3 b ((i + m) * 3) (n + m - (i + m)) dc ⟨b, i * 3, none⟩ (n + m - i) sc (xs.drop (i * 3)) (n - i) insOwn_und hsz (by simp only [Nat.min_def]; split <;> omega) hdl
      (fun j v hj => by
        rw [Addr.add_lit, cell_of_row _ b _ cur 44 (0, 0) hg1]
        rw [List.getElem?_drop, ← htk, List.getElem?_take] at hj
        split at hj
        · rw [← Array.getElem?_toList]; exact hj
        · cases hj)
      (fun j hj => hsp _ cur hg1 _ (by rw [hdl] at hj; rw [hcs]; have := hmul (n + m) c hroom; rw [Nat.add_mul] at this; rw [Nat.sub_mul] at hj; have := hmul i n hin; rw [Nat.add_mul]; omega)) (fun j hj => hfz _ cur hg1 _) (fun v hv => h1c v (List.mem_of_mem_drop hv))
  obtain ⟨W1, hW1⟩ : ∃ W1, W1 = w.drew.setCells b ((i + m) * 3) (xs.drop (i * 3)) := ⟨_, rfl⟩
  have hg2 : W1.heap[b]? = some (.cells (setR cur ((i + m) * 3) (xs.drop (i * 3))) 44 (0, 0)) := by rw [hW1]; exact setCells_blk _ _ _ _ hg1
  have hcp2 : ∀ (W : World), W.heap = W1.heap → ∀ ty dc, (Builtin.copy_ #[37, 37] ty #[.slice (some ⟨b, i * 3, none⟩) (n + m - i) dc, .slice (some ⟨vb, vo, none⟩) m vc]).run Try.prog W = .ok (goInt m) (W.setCells b (i * 3) ys) := fun W hWh ty dc =>
    run_copy_s W _ _ ty 44 3 b (i * 3) (n + m - i) dc ⟨vb, vo, none⟩ m vc ys m insOwn_und hsz (by simp only [Nat.min_def]; split <;> omega) hvl
      (fun j v hj => by
        have e1 : W.cell? (({ block := vb, off := vo } : Addr).add j) = W1.cell? (({ block := vb, off := vo } : Addr).add j) := World.cell?_of_block (by rw [hWh])
        rw [e1, hW1, Addr.add_lit, World.cell?_setCells_out b _ _ _ _ (fun h _ => absurd h hvb)]
        exact hvs j v hj)
      (fun j hj => hsp W _ (by rw [hWh]; exact hg2) _ (by rw [setR_size, hcs]; rw [hvl] at hj; have := hmul (i + m) c (by omega); rw [Nat.add_mul] at this; omega)) (fun j hj => hfz W _ (by rw [hWh]; exact hg2) _) h1v
  rw [← hW1] at hcp1
  clear hg2 hg1 hsp hfz hmul htk hcs hg hA hA0 h1c hcl
  go_enter Try.func43, Try.ntmps43
  go_wp2_with (simp only [hov])
  go_region_law_o (refine step_copy_run rfl _ _ 37 37 rfl _ _ (by simp [Act.eval, Act.put]) (by simp [Act.eval, Act.put]) (hcp1 _ _ _) ?_)
  go_wp2_with (at_builtin; refine wpList_copy_run _ rfl _ _ 37 37 rfl _ _ rfl rfl (hcp2 _ rfl _ _) ?_)
  go_ret
  first | exact ⟨rfl, rfl⟩ | exact ⟨rfl, by rw [hW1]⟩
/-- Into a new row. -/
theorem insOwn_grow (b n c i vb vo m vc : Nat) (xs ys : List Value) (cur : Array Value) (w : World) (hi : i < n) (hm : 0 < m) (hnc : n ≤ c) (hroom : c < n + m) (hbig : (n + m) * 48 ≤ 140737488355328)
    (hcl : xs.length = n * 3) (hvl : ys.length = m * 3) (hg : w.heap[b]? = some (.cells cur 44 (0, 0))) (hcs : cur.size = c * 3) (htk : cur.toList.take (n * 3) = xs)
    (hvs : ∀ j v, ys[j]? = some v → w.cell? ⟨vb, vo + j, none⟩ = some v) (h1c : ∀ v ∈ xs, v.oneCell' = true) (h1v : ∀ v ∈ ys, v.oneCell' = true) :
    ∃ (G : Nat) (ROW : Array Value) (W : World), n + m ≤ G ∧ G ≤ maxLen ∧ ROW.size = G * 3 ∧ ROW.toList.take (i * 3) = xs.take (i * 3) ∧ W.heap = (w.alloc (.cells ROW 44)).heap ∧ W.os = w.os ∧ W.tape = w.tape ∧ W.output = w.output ∧ w.drawn ≤ W.drawn ∧
    Calls Try.prog 43 #[.slice (some ⟨b, 0, none⟩) n c, .int .i64 i, .slice (some ⟨vb, vo, none⟩) m vc] w fun e w' =>
      e = .returned (.slice (some ⟨w.heap.size, 0, none⟩) (n + m) G) ∧ w' = ((W.setCells w.heap.size (i * 3) ys).drew).setCells w.heap.size ((i + m) * 3) (xs.drop (i * 3)) := by
  have mixed : Try.prog.follows .mixedOrders = true := by kernel_rfl
  obtain ⟨i0, hi0, hz0, hzs, hzb⟩ : ∃ i0, Try.prog.info? 44 = some i0 ∧ i0.zero = some (.agg #[.string ByteArray.empty, .string ByteArray.empty, .string ByteArray.empty]) ∧ i0.size = 3 ∧ i0.bytes = 48 := by
    have := insOwn_info
    cases hq : Try.prog.info? 44 with
    | none => rw [hq] at this; cases this
    | some i0 => rw [hq] at this; simp at this; exact ⟨i0, rfl, this.1, this.2.1, this.2.2⟩
  have hz1 : ¬ ((m : Int) = 0) := by omega
  have hz2 : ¬ ((i : Int) = (n : Int)) := by omega
  have hz3 : (c : Int) < (n : Int) + (m : Int) := by omega
  have hsz : (Try.prog.info? 44).map (·.size) = some 3 := by kernel_rfl
  have hbw : b < w.heap.size := (Array.getElem?_eq_some_iff.1 hg).1
  have hvw : vb < w.heap.size := block_lt_of_cell (hvs 0 _ (List.getElem?_eq_getElem (by omega)))
  have hkk : (n : Int) + (m : Int) - (i : Int) = ((n + m - i : Nat) : Int) := by omega
  have hik : i + (n + m - i) = n + m := by omega
  have hmul : ∀ a b : Nat, a ≤ b → a * 3 ≤ b * 3 := fun a b h => Nat.mul_le_mul_right _ h
  have hget : ∀ (W : World), W.heap = w.heap → ∀ j v, xs[j]? = some v → W.cell? ⟨b, j, none⟩ = some v := fun W hW j v hj => by
    rw [cell_of_row W b j cur 44 (0, 0) (by rw [hW]; exact hg)]
    rw [← htk, List.getElem?_take] at hj
    split at hj
    · rw [← Array.getElem?_toList]; exact hj
    · cases hj
  have hold : (Builtin.firstCells i0.size i (.slice (some ⟨b, 0, none⟩) i c)).run Try.prog w.drew = .ok (xs.take (i * 3)).toArray w.drew := by
    rw [hzs]
    exact run_firstCells_some w.drew 3 i ⟨b, 0, none⟩ i c (xs.take (i * 3)) (by rw [List.length_take, hcl]; have := hmul i n (by omega); omega) (fun j v hj => by
      rw [Addr.add_lit, Nat.zero_add]
      rw [List.getElem?_take] at hj
      split at hj
      · exact hget w.drew rfl j v hj
      · cases hj)
  have hrz : ∀ ty, (Builtin.append_ #[37, 3] ty #[.slice (some ⟨b, 0, none⟩) i c, .int .i64 ((n : Int) + (m : Int) - (i : Int))]).run Try.prog w =
      .ok (.slice (some ⟨w.heap.size, 0, none⟩) (n + m) (grownCap w (n + m) c 44)) (w.drew.alloc (.cells ((xs.take (i * 3)).toArray ++ Builtin.zeroCells (.agg #[.string ByteArray.empty, .string ByteArray.empty, .string ByteArray.empty] : Value).cells (n + m - i) ++ Builtin.zeroCells (.agg #[.string ByteArray.empty, .string ByteArray.empty, .string ByteArray.empty] : Value).cells (grownCap w (n + m) c 44 - (n + m))) 44)) := fun ty => by
    have h := Lib.run_append_grow_zeros w 37 3 ty 44 i0 _ .i64 .i64 insOwn_und (by kernel_rfl) hi0 hz0 (some ⟨b, 0, none⟩) i c (xs.take (i * 3)) hold (n + m - i) (by omega) (by omega) (by omega) (by omega) (by rw [hzb]; omega) (by rw [hzb, hik]; exact growslice_fits hroom hbig)
    rw [hik] at h
    rw [hkk]
    exact h
  obtain ⟨G, hG⟩ : ∃ G, G = grownCap w (n + m) c 44 := ⟨_, rfl⟩
  obtain ⟨ROW, hROW⟩ : ∃ ROW : Array Value, ROW = (xs.take (i * 3)).toArray ++ Builtin.zeroCells (.agg #[.string ByteArray.empty, .string ByteArray.empty, .string ByteArray.empty] : Value).cells (n + m - i) ++ Builtin.zeroCells (.agg #[.string ByteArray.empty, .string ByteArray.empty, .string ByteArray.empty] : Value).cells (G - (n + m)) := ⟨_, rfl⟩
  rw [← hG] at hrz
  rw [← hROW] at hrz
  have hGn : n + m ≤ G := by rw [hG]; exact grownCap_ge w _ _ _
  have hGm : G ≤ maxLen := by rw [hG]; exact grownCap_le_maxLen w (n + m) c 44 (by unfold maxLen; omega)
  have htl : (xs.take (i * 3)).length = i * 3 := by rw [List.length_take, hcl]; have := hmul i n (by omega); omega
  have hRl : ROW.size = G * 3 := by
    rw [hROW]
    simp only [Array.size_append, List.size_toArray, htl, Builtin.zeroCells, Value.cells, Array.size_map, Array.size_range]
    show i * 3 + (n + m - i) * 3 + (G - (n + m)) * 3 = G * 3
    rw [← Nat.add_mul, ← Nat.add_mul]; congr 1; omega
  have hRt : ROW.toList.take (i * 3) = xs.take (i * 3) := by
    rw [hROW]
    simp only [Array.toList_append, List.append_assoc]
    exact List.take_left' htl
  obtain ⟨W1, hW1⟩ : ∃ W1, W1 = w.drew.alloc (.cells ROW 44) := ⟨_, rfl⟩
  rw [← hW1] at hrz
  have hN0 : W1.heap[w.heap.size]? = some (.cells ROW 44 (0, 0)) := by rw [hW1]; show (w.heap.push _)[w.heap.size]? = _; simp
  have hold2 : ∀ k, k < w.heap.size → W1.heap[k]? = w.heap[k]? := fun k hk => by rw [hW1]; show (w.heap.push _)[k]? = _; rw [Array.getElem?_push, if_neg (by omega)]
  have hfz : ∀ (W : World) (cs : Array Value), W.heap[w.heap.size]? = some (.cells cs 44 (0, 0)) → ∀ k, W.frozen? ⟨w.heap.size, k, none⟩ = false := fun W cs hW k => by simp [World.frozen?, hW]
  have hsp : ∀ (W : World) (cs : Array Value), W.heap[w.heap.size]? = some (.cells cs 44 (0, 0)) → ∀ k, k < cs.size → (W.cell? ⟨w.heap.size, k, none⟩).isSome = true := fun W cs hW k hk => by
    rw [cell_of_row W w.heap.size k cs 44 (0, 0) hW]; simp [hk]
  have hcpA : ∀ (W : World), W.heap = W1.heap → ∀ ty dc, (Builtin.copy_ #[37, 37] ty #[.slice (some ⟨w.heap.size, i * 3, none⟩) (n + m - i) dc, .slice (some ⟨vb, vo, none⟩) m vc]).run Try.prog W = .ok (goInt m) (W.setCells w.heap.size (i * 3) ys) := fun W hWh ty dc =>
    run_copy_s W _ _ ty 44 3 w.heap.size (i * 3) (n + m - i) dc ⟨vb, vo, none⟩ m vc ys m insOwn_und hsz (by simp only [Nat.min_def]; split <;> omega) hvl
      (fun j v hj => by
        have e1 : W.cell? (({ block := vb, off := vo } : Addr).add j) = w.cell? (({ block := vb, off := vo } : Addr).add j) := World.cell?_of_block (by rw [hWh, Addr.add_lit]; exact hold2 vb hvw)
        rw [e1, Addr.add_lit]
        exact hvs j v hj)
      (fun j hj => hsp W _ (by rw [hWh]; exact hN0) _ (by rw [hRl]; rw [hvl] at hj; have := hmul (i + m) G (by omega); rw [Nat.add_mul] at this; omega)) (fun j hj => hfz W _ (by rw [hWh]; exact hN0) _) h1v
  have hG63 : G ≤ 9223372036854775807 := hGm
  have hGi : ¬ (G = i) := by omega
  have hGim : ¬ (G = i + m) := by omega
  have hci : ¬ (c = i) := by omega
  have hbN : b ≠ w.heap.size := by omega
  have hdl : (xs.drop (i * 3)).length = (n - i) * 3 := by rw [List.length_drop, hcl, Nat.sub_mul]
  have hN1 : ∀ W : World, W.heap = W1.heap → (W.setCells w.heap.size (i * 3) ys).heap[w.heap.size]? = some (.cells (setR ROW (i * 3) ys) 44 (0, 0)) := fun W hW => setCells_blk _ _ _ _ (by rw [hW]; exact hN0)
  have hcpB : ∀ (W W2 : World), W.heap = W1.heap → W2.heap = (W.setCells w.heap.size (i * 3) ys).heap → ∀ ty dc sc, (Builtin.copy_ #[37, 37] ty #[.slice (some ⟨w.heap.size, (i + m) * 3, none⟩) (n + m - (i + m)) dc, .slice (some ⟨b, i * 3, none⟩) (n - i) sc]).run Try.prog W2 = .ok (goInt ((n - i : Nat) : Int)) (W2.setCells w.heap.size ((i + m) * 3) (xs.drop (i * 3))) := fun W W2 hWh hW2 ty dc sc =>
    run_copy_s W2 _ _ ty 44 3 w.heap.size ((i + m) * 3) (n + m - (i + m)) dc ⟨b, i * 3, none⟩ (n - i) sc (xs.drop (i * 3)) (n - i) insOwn_und hsz (by simp only [Nat.min_def]; split <;> omega) hdl
      (fun j v hj => by
        have hbS : b < W.heap.size := by rw [hWh, hW1]; show b < (w.heap.push _).size; simp; omega
        have e1 : W2.heap[b]? = w.heap[b]? := by rw [hW2, World.heap_setCells_other W w.heap.size _ _ hbS hbN, hWh]; exact hold2 b hbw
        rw [Addr.add_lit, cell_of_row W2 b _ cur 44 (0, 0) (by rw [e1]; exact hg)]
        rw [List.getElem?_drop, ← htk, List.getElem?_take] at hj
        split at hj
        · rw [← Array.getElem?_toList]; exact hj
        · cases hj)
      (fun j hj => hsp W2 _ (by rw [hW2]; exact hN1 W hWh) _ (by rw [setR_size, hRl]; rw [hdl, Nat.sub_mul] at hj; have := hmul (n + m) G hGn; rw [Nat.add_mul] at this; have := hmul i n (by omega); rw [Nat.add_mul]; omega)) (fun j hj => hfz W2 _ (by rw [hW2]; exact hN1 W hWh) _) (fun v hv => h1c v (List.mem_of_mem_drop hv))
  have hw1 : IntKind.i64.wrap ((i : Int) + (m : Int)) = (i : Int) + (m : Int) := by rw [IntKind.wrap_i64]; omega
  have hb1 : (0 : Int) ≤ (i : Int) + (m : Int) := by omega
  have hin : i ≤ n := by omega
  have htn : ((i : Int) + (m : Int)).toNat = i + m := by omega
  have hb3 : (i : Int) ≤ (n : Int) := by omega
  refine ⟨G, ROW, (w.alloc (.cells ROW 44)).drew, hGn, hGm, hRl, hRt, rfl, rfl, rfl, rfl, Nat.le_succ _, ?_⟩
  subst hW1
  have hE : ((w.alloc (.cells ROW 44)).drew).heap = (w.drew.alloc (.cells ROW 44)).heap := rfl
  have hF : (((w.alloc (.cells ROW 44)).drew.setCells w.heap.size (i * 3) ys).drew).heap = ((w.alloc (.cells ROW 44)).drew.setCells w.heap.size (i * 3) ys).heap := rfl
  clear hkk hik hold hROW hG hRl hRt hN0 hN1 hold2 hfz hsp hmul hget hg htk hcs h1c hcl htl
  go_enter Try.func43, Try.ntmps43
  go_wp2_with (first
    | (at_builtin; refine Lib.wpList_append_run _ rfl _ _ _ _ rfl _ _ rfl rfl _ _ (hrz _) ?_)
    | (at_builtin; refine wpList_copy_run _ rfl _ _ 37 37 rfl _ _ rfl rfl (hcpA _ hE _ _) ?_))
  go_region_law_o (refine step_copy_run rfl _ _ 37 37 rfl (.slice (some ⟨w.heap.size, (i + m) * 3, none⟩) (n + m - (i + m)) (G - (i + m))) (.slice (some ⟨b, i * 3, none⟩) (n - i) (c - i)) (by simp [Act.eval, Act.put]) (by simp [Act.eval, Act.put]) (hcpB _ _ hE hF 3 (G - (i + m)) (c - i)) ?_)
  go_wp2
  go_ret
  exact ⟨rfl, rfl⟩
theorem insOwn (L Y : List (List AV)) (i : Nat) (hi : i ≤ L.length) (hY : 0 < Y.length) (hf : ∀ y ∈ Y, ∀ z ∈ y, z.flat) (hbig : (L.length + Y.length) * 48 ≤ 140737488355328) :
    FnU Try.prog 43 44 3 (.sl 3 L) [.int i, .sl 3 Y] true (.sl 3 (L.take i ++ (Y ++ L.drop i))) := by
  refine ⟨Try.call43, ?_⟩
  intro w ok B okc v0 cargs hrow hokc hok hB hsz hargs
  have h0 := hargs 0 (by simp)
  have h1 := hargs 1 (by simp)
  obtain ⟨vy, hc0, hvy⟩ : ∃ vy, cargs = #[.int .i64 i, vy] ∧ RV w ok (.sl 3 Y) vy := by
    have hsz2 : cargs.size = 2 := by simpa using hsz
    obtain ⟨l⟩ := cargs
    match l, hsz2 with
    | [a, b], _ =>
      have e0 : a = .int .i64 i := RV.lit_iff.1 (by simpa using h0)
      exact ⟨b, by rw [e0], by simpa using h1⟩
  subst hc0
  clear hargs h0 h1 hsz
  obtain ⟨vb, vo, vc, ys, rfl, hvok, hvlt, hvc, hvcm, hys, hycell⟩ := cells_flat (okc := okc) hvy hf hY
  have hvb := (hok vb hvok).1
  obtain ⟨L', xs, e1, hs, hL, ho, hone, hv⟩ := hrow
  injection e1 with _ e1
  subst e1
  have hC : CellsOf w okc 3 L xs := ⟨ho.1, hL, hone, hv⟩
  by_cases hin : i = L.length
  · subst hin
    obtain ⟨i0, hi0, hz0, hzs, hzb⟩ : ∃ i0, Try.prog.info? 44 = some i0 ∧ i0.zero = some (.agg #[.string ByteArray.empty, .string ByteArray.empty, .string ByteArray.empty]) ∧ i0.size = 3 ∧ i0.bytes = 48 := by
      have := insOwn_info
      cases hq : Try.prog.info? 44 with
      | none => rw [hq] at this; cases this
      | some i0 => rw [hq] at this; simp at this; exact ⟨i0, rfl, this.1, this.2.1, this.2.2⟩
    obtain ⟨v', w', hrun, h2, h3, _, h5⟩ := run_append_own_at (P := Try.prog) w B 37 37 44 i0 _ 3 48 insOwn_und hi0 hz0 hzs hzb (by simp [Value.cells]) hs v0 L.length xs ho ⟨vb, vo, none⟩ Y.length vc ys hys.len (fun j u hj => by rw [Addr.add_lit]; exact hycell j u hj) hys.one (by unfold maxLen; omega) hbig hB
    have hform : ∃ A c, v0 = .slice A L.length c ∧ L.length ≤ c ∧ c ≤ maxLen := by
      rcases ho.2 with ⟨rfl, hn0⟩ | ⟨g, cap, cur, rfl, _, _, hnc, hm, _⟩
      · exact ⟨none, 0, by rw [hn0], by omega, by unfold maxLen; omega⟩
      · exact ⟨_, _, rfl, hnc, hm⟩
    obtain ⟨A, c, rfl, hnc, hcm⟩ := hform
    refine (insOwn_end A L.length c vb vo Y.length vc hY hnc hcm w w' v' hrun).mono ?_
    rintro e W ⟨rfl, rfl⟩
    have hC2 : CellsOf W okc 3 (L ++ Y) (xs ++ ys) := (hC.app hys).mono fun b hb hlt => ⟨hb, h3.block b hlt fun e => (hokc b hb).1 e.symm⟩
    refine ⟨v', rfl, h3, ?_, by simp, fun g hg => ?_, run_drawn _ hrun⟩
    · rw [List.take_length, List.drop_length, List.append_nil]
      exact ⟨_, _, rfl, hs, hC2.each, by rw [List.length_append]; exact h2, hC2.one, hC2.val⟩
    · rcases h5 with q | q
      · left; rw [← q]; exact hg
      · right; rw [q] at hg; injection hg with hg; omega
  have hlt : i < L.length := by omega
  rcases ho.2 with ⟨rfl, hn0⟩ | ⟨g, cap, cur, rfl, hBg, hg, hnc, hm, hcs, htk⟩
  · omega
  have hvg : vb ≠ g := fun e => hvb (by rw [e]; rfl)
  have hlen : (L.take i ++ (Y ++ L.drop i)).length = L.length + Y.length := by simp; omega
  have hC2 : CellsOf w okc 3 (L.take i ++ (Y ++ L.drop i)) (xs.take (i * 3) ++ (ys ++ xs.drop (i * 3))) := (hC.take i hi).app (hys.app (hC.drop i))
  have hmul : ∀ a b : Nat, a ≤ b → a * 3 ≤ b * 3 := fun a b h => Nat.mul_le_mul_right _ h
  have his := hmul i L.length hi
  have hxt : (xs.take (i * 3)).length = i * 3 := by rw [List.length_take, ho.1]; omega
  have hxd : (xs.drop (i * 3)).length = (L.length - i) * 3 := by rw [List.length_drop, ho.1, Nat.sub_mul]
  -- what the two writes leave
  have key : ∀ (cap' : Nat) (C : Array Value), C.size = cap' * 3 → L.length + Y.length ≤ cap' → C.toList.take (i * 3) = xs.take (i * 3) →
      (setR (setR C (i * 3) ys) ((i + Y.length) * 3) (xs.drop (i * 3))).toList.take ((L.length + Y.length) * 3) = xs.take (i * 3) ++ (ys ++ xs.drop (i * 3)) := by
    intro cap' C hCs hcap hCt
    have q0 := hmul (L.length + Y.length) cap' hcap
    rw [Nat.add_mul] at q0
    have q2 : (L.length - i) * 3 = L.length * 3 - i * 3 := Nat.sub_mul _ _ _
    rw [setR_list _ _ _ (by rw [setR_size, hCs, hxd, Nat.add_mul]; omega), setR_list _ _ _ (by rw [hCs, hys.len]; omega), hCt, hys.len, Nat.add_mul i Y.length]
    have e1 : ((xs.take (i * 3) ++ ys ++ C.toList.drop (i * 3 + Y.length * 3)).take (i * 3 + Y.length * 3)) = xs.take (i * 3) ++ ys := List.take_left' (by rw [List.length_append, hxt, hys.len])
    rw [e1, List.append_assoc (xs.take (i * 3)) ys]
    exact List.take_left' (by rw [List.length_append, List.length_append, hxt, hys.len, hxd, Nat.add_mul]; omega)
  have key2 : ∀ (cap' : Nat) (C : Array Value), C.size = cap' * 3 → L.length + Y.length ≤ cap' → C.toList.take (i * 3) = xs.take (i * 3) →
      (setR (setR C ((i + Y.length) * 3) (xs.drop (i * 3))) (i * 3) ys).toList.take ((L.length + Y.length) * 3) = xs.take (i * 3) ++ (ys ++ xs.drop (i * 3)) := by
    intro cap' C hCs hcap hCt
    have q0 := hmul (L.length + Y.length) cap' hcap
    rw [Nat.add_mul] at q0
    have q2 : (L.length - i) * 3 = L.length * 3 - i * 3 := Nat.sub_mul _ _ _
    rw [setR_list _ _ _ (by rw [setR_size, hCs, hys.len]; omega), setR_list _ _ _ (by rw [hCs, hxd, Nat.add_mul]; omega), hys.len, Nat.add_mul i Y.length]
    have hl1 : (C.toList.take (i * 3 + Y.length * 3)).length = i * 3 + Y.length * 3 := by rw [List.length_take, show C.toList.length = C.size from Array.length_toList, hCs]; omega
    have e1 : (C.toList.take (i * 3 + Y.length * 3) ++ xs.drop (i * 3) ++ C.toList.drop (i * 3 + Y.length * 3 + (xs.drop (i * 3)).length)).take (i * 3) = xs.take (i * 3) := by
      rw [List.append_assoc, List.take_append_of_le_length (by rw [hl1]; omega), List.take_take, Nat.min_eq_left (by omega), hCt]
    have e2 : (C.toList.take (i * 3 + Y.length * 3) ++ xs.drop (i * 3) ++ C.toList.drop (i * 3 + Y.length * 3 + (xs.drop (i * 3)).length)).drop (i * 3 + Y.length * 3) = xs.drop (i * 3) ++ C.toList.drop (i * 3 + Y.length * 3 + (xs.drop (i * 3)).length) := by
      rw [List.append_assoc]; exact List.drop_left' hl1
    rw [e1, e2, List.append_assoc (xs.take (i * 3)) ys, ← List.append_assoc ys, ← List.append_assoc (xs.take (i * 3))]
    exact List.take_left' (by rw [List.length_append, List.length_append, hxt, hys.len, hxd, Nat.add_mul]; omega)
  have hct : cur.toList.take (i * 3) = xs.take (i * 3) := by rw [← htk, List.take_take, Nat.min_eq_left his]
  by_cases hroom : L.length + Y.length ≤ cap
  · refine (insOwn_shift g L.length cap i vb vo Y.length vc xs ys cur w hlt hY hroom hm hvg ho.1 hys.len hg hcs htk hycell hone hys.one).mono ?_
    rintro e w' ⟨rfl, rfl⟩
    have hg2 : ((w.drew.setCells g ((i + Y.length) * 3) (xs.drop (i * 3))).setCells g (i * 3) ys).heap[g]? = some (.cells (setR (setR cur ((i + Y.length) * 3) (xs.drop (i * 3))) (i * 3) ys) 44 (0, 0)) := setCells_blk _ _ _ _ (setCells_blk _ _ _ _ hg)
    have hgr : w.grownBy ((w.drew.setCells g ((i + Y.length) * 3) (xs.drop (i * 3))).setCells g (i * 3) ys) (some g) := grownBy_trans (grownBy_drew w (some g)) (grownBy_trans (grown_setCells _ _ _ _) (grown_setCells _ _ _ _))
    refine ⟨_, rfl, hgr, ?_, by simp, fun g' hg' => .inl hg', by rw [setCells_drawn, setCells_drawn]; exact Nat.le_succ _⟩
    have hC3 := hC2.mono (w' := (w.drew.setCells g ((i + Y.length) * 3) (xs.drop (i * 3))).setCells g (i * 3) ys) (okc' := okc) fun b hb hlt => ⟨hb, hgr.block b hlt fun e => (hokc b hb).1 e.symm⟩
    rw [← hlen]
    exact hC3.row hs hBg hg2 hm (by rw [setR_size, setR_size]; exact hcs) (by rw [hlen]; exact hroom) (by rw [hlen]; exact key2 cap cur hcs hroom hct)
  · obtain ⟨G, ROW, W, hGn, hGm, hRs, hRt, hWh, hWo, hWt, hWp, hWd, hcall⟩ := insOwn_grow g L.length cap i vb vo Y.length vc xs ys cur w hlt hY hnc (by omega) hbig ho.1 hys.len hg hcs htk hycell hone hys.one
    refine hcall.mono ?_
    rintro e w' ⟨rfl, rfl⟩
    have hWs : W.heap.size = w.heap.size + 1 := by rw [hWh]; show (w.heap.push _).size = _; simp
    have hW0 : W.heap[w.heap.size]? = some (.cells ROW 44 (0, 0)) := by rw [hWh]; show (w.heap.push _)[w.heap.size]? = _; simp
    have hg2 : (((W.setCells w.heap.size (i * 3) ys).drew).setCells w.heap.size ((i + Y.length) * 3) (xs.drop (i * 3))).heap[w.heap.size]? = some (.cells (setR (setR ROW (i * 3) ys) ((i + Y.length) * 3) (xs.drop (i * 3))) 44 (0, 0)) := setCells_blk _ _ _ _ (setCells_blk _ _ _ _ hW0)
    have hgW : W.grownBy (((W.setCells w.heap.size (i * 3) ys).drew).setCells w.heap.size ((i + Y.length) * 3) (xs.drop (i * 3))) (some w.heap.size) := grownBy_trans (grown_setCells _ _ _ _) (grownBy_trans (grownBy_drew _ _) (grown_setCells _ _ _ _))
    have hblk : ∀ k, k < w.heap.size → (((W.setCells w.heap.size (i * 3) ys).drew).setCells w.heap.size ((i + Y.length) * 3) (xs.drop (i * 3))).heap[k]? = w.heap[k]? := fun k hk => by
      rw [hgW.block k (by omega) (fun e => by injection e with e; omega), hWh]
      show (w.heap.push _)[k]? = _
      rw [Array.getElem?_push, if_neg (by omega)]
    refine ⟨_, rfl, ⟨hgW.os.trans hWo, hgW.tape.trans hWt, hgW.output.trans hWp, Nat.le_trans (by omega) hgW.size, fun k hk _ => hblk k hk⟩, ?_, by simp, fun g' hg' => .inr (by have e : w.heap.size = g' := (by injection hg'); omega), by rw [setCells_drawn]; show w.drawn ≤ (W.setCells w.heap.size _ ys).drawn + 1; rw [setCells_drawn]; omega⟩
    have hC3 := hC2.mono (w' := ((W.setCells w.heap.size (i * 3) ys).drew).setCells w.heap.size ((i + Y.length) * 3) (xs.drop (i * 3))) (okc' := okc) fun b hb hlt => ⟨hb, hblk b hlt⟩
    rw [← hlen]
    exact hC3.row hs hB hg2 hGm (by rw [setR_size, setR_size]; exact hRs) (by rw [hlen]; exact hGn) (by rw [hlen]; exact key G ROW hRs hGn hRt)
end Go.Proofs.Ytalfopommofdfaa
