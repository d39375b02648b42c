/- Texts of one proof, part 7: plain values, a run over them, contracts of functions. -/
import Derived.Test.YtacfofpbbempaaaGreatDoorM6
import Derived.Test.YtacfofpbbempaaaGreatDoorM4
/- resolve.Candidates: the candidates. -/
namespace Go.Proofs.YtacfofpbbempaaaGreatDoor
open Go.RowKit
set_option linter.unusedVariables false
set_option linter.unusedSimpArgs false
set_option maxRecDepth 100000
theorem csV_bd (now : Nd) : ∀ (l : List Nd), (∀ x ∈ l, 0 ≤ x.t ∧ x.t ≤ 200000) → 0 ≤ (csV now l).1 ∧ (csV now l).1 < 4096 ∧ 0 ≤ (csV now l).2.1 ∧ (csV now l).2.1 ≤ 3037000499
  | [], _ => ⟨Int.le_refl 0, (by decide : (0 : Int) < 4096), Int.le_refl 0, (by decide : (0 : Int) ≤ 3037000499)⟩
  | x :: r, h => by
    have e : csV now (x :: r) = if now.t < x.t then cs1 now x else csV now r := rfl
    rw [e]
    split
    · rename_i hlt
      have hdb := disA_bd now.p x.p
      have ha := ang_bd (wr (x.x - now.x)) (wr (x.y - now.y))
      exact ⟨ha.1, ha.2, Int.ediv_nonneg hdb.1 (by omega), Int.le_trans (Int.ediv_le_self _ hdb.1) hdb.2⟩
    · exact csV_bd now r fun y hy => h y (List.mem_cons_of_mem _ hy)
def cndE (c : ByteArray) (l : List Nd) (t : Int) (k : Kd) : Int := if tE l ≠ 0 then tE l else if kE k ≠ 0 then kE k else if tatE l t ≠ 0 then tatE l t else clE ⟨c, 0, 0, ⟨#[]⟩⟩
noncomputable def cndL (c : ByteArray) (l : List Nd) (t : Int) (k : Kd) : List Cl := outL c (atN l t).h k (csV (atN l t) l) 3
noncomputable def cndV (c : ByteArray) (l : List Nd) (t : Int) (k : Kd) : AV := if cndE c l t k = 0 then .tup [clr (cndL c l t k), .int 0] else .tup [.sl 4 [], .int (cndE c l t k)]
theorem cnd_fn (c : ByteArray) (l : List Nd) (t : Int) (k : Kd) : Fn Tryz.prog 5 [.string c, tube l, .int t, kd k] (.tup [.row 41 4 true, .sc]) (cndV c l t k) := by
  have e := RlF.cand_form (.string c) (tube l) (.int t) (kd k) (cndV c l t k)
  have kk := fun h => fn_run mixed 4 (Γ := RlF.Γ) (ann := RlF.ann) Tryz.func5 rfl Tryz.call5 (e.mpr h)
  refine kk ?_
  clear kk e
  have h1 := tcheck_fn l
  have h2 := acheck_fn k
  have h3 := tat_fn l t
  have h4 := pcheck_fn ⟨c, 0, 0, ⟨#[]⟩⟩
  have hbad : ∀ n : Int, n ≠ 0 → cndE c l t k = n → cndV c l t k = .tup [.sl 4 [], .int n] := fun n hn he => by unfold cndV; rw [he, if_neg hn]
  refine ⟨by simp, by simp [encKd], _, h1, by simp, by simp, fun h => ?_, fun h => ⟨_, h2, by simp, by simp, fun h => ?_, fun h => ?_⟩⟩
  · have g : tE l ≠ 0 := by simpa using h
    rw [hbad (tE l) g (by unfold cndE; rw [if_pos g])]
    exact ⟨by simp [AV.flatS], .lit _, rfl⟩
  · rename_i g1
    have g1 : tE l = 0 := by simpa using g1
    have g : kE k ≠ 0 := by simpa using h
    rw [hbad (kE k) g (by unfold cndE; rw [if_neg (by simp [g1]), if_pos g])]
    exact ⟨by simp [AV.flatS], .lit _, rfl⟩
  · rename_i g1
    have g1 : tE l = 0 := by simpa using g1
    have g2 : kE k = 0 := by simpa using h
    by_cases g3 : tatE l t = 0
    · have hV : tatV l t = .tup [nd (atN l t), .int 0] := by unfold tatV; rw [if_pos g3]
      rw [hV] at h3
      refine ⟨_, h3, by simp [encN], by simp, by simp, fun q => absurd q (by simp), fun _ => ⟨by simp, _, h4, by simp, by simp, fun q => ?_, fun q => ?_⟩⟩
      · have g : clE ⟨c, 0, 0, ⟨#[]⟩⟩ ≠ 0 := by simpa using q
        rw [hbad _ g (by unfold cndE; rw [if_neg (by simp [g1]), if_neg (by simp [g2]), if_neg (by simp [g3])])]
        exact ⟨by simp [AV.flatS], .lit _, rfl⟩
      · have g4 : clE ⟨c, 0, 0, ⟨#[]⟩⟩ = 0 := by simpa using q
        have hgood : cndV c l t k = .tup [clr (cndL c l t k), .int 0] := by
          have : cndE c l t k = 0 := by unfold cndE; rw [if_neg (by simp [g1]), if_neg (by simp [g2]), if_neg (by simp [g3]), g4]
          unfold cndV; rw [if_pos this]
        rw [hgood]
        clear hbad hgood h1 h2 h3 h4
        obtain ⟨hpos, h64, hG⟩ := tE_ok g1
        obtain ⟨_, hlo, hhi⟩ := tatE_ok g3
        obtain ⟨_, hH0, hH1⟩ := atN_ok g1 hlo hhi
        have htm : ∀ x ∈ l, 0 ≤ x.t ∧ x.t ≤ 200000 := fun x hx => by
          obtain ⟨j, hj⟩ := List.getElem?_of_mem hx
          have := (tG_get hG hj).2.1
          exact ⟨this.1, this.2.1⟩
        have hnt := atN_time l t
        have ht0 : 0 ≤ t := by
          have hx := List.getElem?_eq_getElem hpos
          have := hlo _ hx
          have := (htm _ (List.mem_of_getElem? hx)).1
          omega
        have ht1 : t ≤ 200000 := by
          have hx : l[l.length - 1]? = some l[l.length - 1] := List.getElem?_eq_getElem (by omega)
          have := hhi _ hx
          have := (htm _ (List.mem_of_getElem? hx)).2
          omega
        have hcrs := crs_fn l (atN l t) h64 (by rw [hnt]; exact ht0) htm (by rw [hnt]; exact ht1)
        obtain ⟨hc1, hc2, hc3, hc4⟩ := csV_bd (atN l t) l htm
        have hcl1 : 1 ≤ k.cl ∧ k.cl ≤ 60000 := by
          unfold kE at g2
          split at g2
          · cases g2
          · split at g2
            · cases g2
            · split at g2
              · cases g2
              · omega
        refine ⟨_, hcrs, ?_⟩
        unfold cndL
        generalize hH : (atN l t).h = H at *
        generalize hcs : csV (atN l t) l = cs at *
        have hk2 : AV.cel (kd k) 2 = .int k.cl := rfl
        have hk5 : AV.cel (kd k) 5 = .int k.sl := rfl
        have hk6 : AV.cel (kd k) 6 = .int k.fa := rfl
        have hp0 : AV.prj (.tup [.int cs.1, .int cs.2.1, .bool cs.2.2]) 0 = .int cs.1 := rfl
        have hp1 : AV.prj (.tup [.int cs.1, .int cs.2.1, .bool cs.2.2]) 1 = .int cs.2.1 := rfl
        have hp2 : AV.prj (.tup [.int cs.1, .int cs.2.1, .bool cs.2.2]) 2 = .bool cs.2.2 := rfl
        have hh3 : AV.cel (AV.prj (.tup [nd (atN l t), .int 0]) 0) 3 = .int H := by rw [← hH]; rfl
        refine loop_nat (σ := Unit) 3 (fun n _ => [.int ((n : Int) + 1), clr (outL c H k cs n)]) (fun _ _ => True) () rfl trivial ?_ ?_
        · rintro n _ K hn _ hK
          have hK' := hK [.int ((n : Int) + 1 + 1), clr (outL c H k cs (n + 1))] () (by simp) trivial
          clear hK
          have hlen := outL_len c H k cs n
          have eO : outL c H k cs (n + 1) = rdL c H k cs ((n : Int) + 1) (outL c H k cs n) := rfl
          rw [eO] at hK'
          generalize hA : outL c H k cs n = A at *
          have hn3 : (n : Int) + 1 ≤ 3 := by omega
          have w1 : wr ((n : Int) + 1 + 1) = (n : Int) + 1 + 1 := wr_id (by omega) (by omega)
          have m1 : AV.bin Go.BinOp.mul (AV.int 1000) (AV.int ((n : Int) + 1)) = .int (1000 * ((n : Int) + 1)) := by rw [av_mul, wr_eq, wr_id (by omega) (by omega)]
          have m2 : AV.bin Go.BinOp.mul (AV.int 15) (AV.int ((n : Int) + 1)) = .int (15 * ((n : Int) + 1)) := by rw [av_mul, wr_eq, wr_id (by omega) (by omega)]
          have m3 : AV.bin Go.BinOp.mul (AV.int 171) (AV.int ((n : Int) + 1)) = .int (171 * ((n : Int) + 1)) := by rw [av_mul, wr_eq, wr_id (by omega) (by omega)]
          unfold rdL at hK'
          generalize hr : (n : Int) + 1 = r at *
          have a1 : AV.bin Go.BinOp.add (AV.int H) (AV.int (1000 * r)) = .int (H + 1000 * r) := by rw [av_add, wr_eq, wr_id (by omega) (by omega)]
          have a2 : AV.bin Go.BinOp.sub (AV.int H) (AV.int (1000 * r)) = .int (H - 1000 * r) := by rw [av_subt, wr_eq, wr_id (by omega) (by omega)]
          have a3 : AV.bin Go.BinOp.add (AV.int cs.2.1) (AV.int (15 * r)) = .int (cs.2.1 + 15 * r) := by rw [av_add, wr_eq, wr_id (by omega) (by omega)]
          have a4 : AV.bin Go.BinOp.sub (AV.int cs.2.1) (AV.int (15 * r)) = .int (cs.2.1 - 15 * r) := by rw [av_subt, wr_eq, wr_id (by omega) (by omega)]
          have a5 : AV.bin Go.BinOp.add (AV.int cs.1) (AV.int (171 * r)) = .int (cs.1 + 171 * r) := by rw [av_add, wr_eq, wr_id (by omega) (by omega)]
          have a6 : AV.bin Go.BinOp.sub (AV.int cs.1) (AV.int (171 * r)) = .int (cs.1 - 171 * r) := by rw [av_subt, wr_eq, wr_id (by omega) (by omega)]
          have an : AV.bin Go.BinOp.add (AV.int r) (AV.int 1) = .int (r + 1) := by rw [av_add, wr_eq, w1]
          -- the lists on the way
          obtain ⟨B, hB⟩ : ∃ B, B = ad c A (decide (H + 1000 * r ≤ k.cl)) 0 (H + 1000 * r) := ⟨_, rfl⟩
          obtain ⟨C, hC⟩ : ∃ C, C = ad c B (decide (1000 * r ≤ H) && decide (H - 1000 * r ≤ k.cl)) 0 (H - 1000 * r) := ⟨_, rfl⟩
          have lB := ad_len c A (decide (H + 1000 * r ≤ k.cl)) 0 (H + 1000 * r)
          rw [← hB] at lB
          have lC := ad_len c B (decide (1000 * r ≤ H) && decide (H - 1000 * r ≤ k.cl)) 0 (H - 1000 * r)
          rw [← hC] at lC
          rw [← hB, ← hC] at hK'
          have n0 : ∀ a b : AV, AV.nth [a, b] 0 [(.int ((0 : Nat) : Int), 1)] = a := fun a b => rfl
          have n1 : ∀ a b : AV, AV.nth [a, b] 0 [(.int ((1 : Nat) : Int), 1)] = b := fun a b => rfl
          have j0 : AV.bin Go.BinOp.add (AV.int ((0 : Nat) : Int)) (AV.int 1) = .int ((0 + 1 : Nat) : Int) := rfl
          have j1 : AV.bin Go.BinOp.add (AV.int ((1 : Nat) : Int)) (AV.int 1) = .int ((1 + 1 : Nat) : Int) := rfl
          have i0 : AV.inl 2 (.int ((0 : Nat) : Int)) := by simp [AV.inl]
          have i1 : AV.inl 2 (.int ((1 : Nat) : Int)) := by simp [AV.inl]
          simp only [List.getD_cons_zero, List.getD_cons_succ, hk2, hk5, hk6, hp0, hp1, hp2, hh3, m1, m2, m3, a1, a2, a3, a4, a5, a6, an]
          refine ⟨by simp, by simp, fun _ => ⟨by simp, by simp, by simp, by simp, by simp, by simp, ?_⟩, fun h => absurd h (by simp; omega)⟩
          refine loop_nat (σ := Unit) 2 (fun j _ => [.int (j : Nat), if j = 0 then clr A else if j = 1 then clr B else clr C]) (fun _ _ => True) () rfl trivial ?_ ?_
          · rintro j _ K2 hj _ hK2
            have hK2' := hK2 [.int ((j + 1 : Nat) : Int), if j + 1 = 0 then clr A else if j + 1 = 1 then clr B else clr C] () rfl trivial
            clear hK2
            have hjj : j = 0 ∨ j = 1 := by omega
            rcases hjj with rfl | rfl
            · have hKB : K2 [.int ((0 + 1 : Nat) : Int), clr B] := hK2'
              simp only [List.getD_cons_zero, List.getD_cons_succ, n0, j0, if_true, av_mk, cl_app]
              refine ⟨by simp, by simp, fun _ => ⟨i0, by simp, by simp, fun p => ?_, fun p => absurd p (by simp; omega)⟩, fun h => absurd h (by simp)⟩
              refine ⟨by simp, by simp, p, by simp, fun q => ⟨Tryz.call23, fun _ => ⟨by simp, by simp, cl_room _ _ (by omega), by simp, ?_⟩⟩, fun q => ⟨by simp, ?_⟩⟩
              · have q : H + 1000 * r ≤ k.cl := by simpa using q
                have : B = A ++ [⟨c, 0, H + 1000 * r, ⟨#[]⟩⟩] := by rw [hB]; simp [ad, q]
                rw [← this]; exact hKB
              · have q : ¬ H + 1000 * r ≤ k.cl := by simpa using q
                have : B = A := by rw [hB]; simp [ad, q]
                rw [← this]; exact hKB
            · have hKC : K2 [.int ((1 + 1 : Nat) : Int), clr C] := hK2'
              simp only [List.getD_cons_zero, List.getD_cons_succ, n1, j1, show ¬ (1 : Nat) = 0 by omega, if_false, if_true, av_mk, cl_app]
              refine ⟨by simp, by simp, fun _ => ⟨i1, by simp, by simp, fun p => ?_, fun p => ?_⟩, fun h => absurd h (by simp)⟩
              · have p' : 1000 * r ≤ H := by simp at p; omega
                refine ⟨by simp, by simp, p, by simp, fun q => ⟨Tryz.call23, fun _ => ⟨by simp, by simp, cl_room _ _ (by omega), by simp, ?_⟩⟩, fun q => ⟨by simp, ?_⟩⟩
                · have q : H - 1000 * r ≤ k.cl := by simpa using q
                  have : C = B ++ [⟨c, 0, H - 1000 * r, ⟨#[]⟩⟩] := by rw [hC]; simp [ad, q, p']
                  rw [← this]; exact hKC
                · have q : ¬ H - 1000 * r ≤ k.cl := by simpa using q
                  have : C = B := by rw [hC]; simp [ad, q, p']
                  rw [← this]; exact hKC
              · have p' : ¬ 1000 * r ≤ H := by simp at p; omega
                have : C = B := by rw [hC]; simp [ad, p']
                refine ⟨by simp, p, by simp, ?_⟩
                rw [← this]; exact hKC
          · rintro _ K2 _
            simp only [List.getD_cons_zero, List.getD_cons_succ, show ¬ (2 : Nat) = 0 by omega, show ¬ (2 : Nat) = 1 by omega, if_false]
            refine ⟨by simp, by simp, fun h => absurd h (by simp), fun _ => ⟨by simp, by simp, fun p => ⟨by simp, ?_⟩, fun p => ?_⟩⟩
            · have p : cs.2.2 = false := by simpa using p
              simp only [p, Bool.false_and] at hK'
              simpa [ad] using hK'
            · have p : cs.2.2 = true := by simpa using p
              simp only [p, Bool.true_and] at hK'
              obtain ⟨D, hD⟩ : ∃ D, D = ad c C (decide (k.sl ≤ cs.2.1 + 15 * r) && decide (cs.2.1 + 15 * r ≤ k.fa)) 2 (cs.2.1 + 15 * r) := ⟨_, rfl⟩
              obtain ⟨E, hE⟩ : ∃ E, E = ad c D (decide (k.sl ≤ cs.2.1 - 15 * r) && decide (cs.2.1 - 15 * r ≤ k.fa)) 2 (cs.2.1 - 15 * r) := ⟨_, rfl⟩
              have lD := ad_len c C (decide (k.sl ≤ cs.2.1 + 15 * r) && decide (cs.2.1 + 15 * r ≤ k.fa)) 2 (cs.2.1 + 15 * r)
              rw [← hD] at lD
              have lE := ad_len c D (decide (k.sl ≤ cs.2.1 - 15 * r) && decide (cs.2.1 - 15 * r ≤ k.fa)) 2 (cs.2.1 - 15 * r)
              rw [← hE] at lE
              rw [← hD, ← hE] at hK'
              have hK' : K [.int (r + 1), clr (E ++ [⟨c, 1, (cs.1 + 171 * r) % 4096, ⟨#[]⟩⟩] ++ [⟨c, 1, (cs.1 - 171 * r) % 4096, ⟨#[]⟩⟩])] := hK'
              refine ⟨by simp, by simp, by simp, by simp, by simp, by simp, ?_⟩
              refine loop_nat (σ := Unit) 2 (fun j _ => [.int (j : Nat), if j = 0 then clr C else if j = 1 then clr D else clr E]) (fun _ _ => True) () rfl trivial ?_ ?_
              · rintro j _ K3 hj _ hK3
                have hK3' := hK3 [.int ((j + 1 : Nat) : Int), if j + 1 = 0 then clr C else if j + 1 = 1 then clr D else clr E] () rfl trivial
                clear hK3
                have hjj : j = 0 ∨ j = 1 := by omega
                rcases hjj with rfl | rfl
                · have hKz : K3 [.int ((0 + 1 : Nat) : Int), clr D] := hK3'
                  simp only [List.getD_cons_zero, List.getD_cons_succ, n0, j0, if_true, av_mk, cl_app]
                  refine ⟨by simp, by simp, fun _ => ⟨i0, by simp, by simp, fun p => ?_, fun p => ?_⟩, fun h => absurd h (by simp)⟩
                  · have p' : k.sl ≤ cs.2.1 + 15 * r := by simpa using p
                    refine ⟨by simp, by simp, p, by simp, fun q => ⟨Tryz.call23, fun _ => ⟨by simp, by simp, cl_room _ _ (by omega), by simp, ?_⟩⟩, fun q => ⟨by simp, ?_⟩⟩
                    · have q : cs.2.1 + 15 * r ≤ k.fa := by simpa using q
                      have : D = C ++ [⟨c, 2, cs.2.1 + 15 * r, ⟨#[]⟩⟩] := by rw [hD]; simp [ad, q, p']
                      rw [← this]; exact hKz
                    · have q : ¬ cs.2.1 + 15 * r ≤ k.fa := by simpa using q
                      have : D = C := by rw [hD]; simp [ad, q, p']
                      rw [← this]; exact hKz
                  · have p' : ¬ k.sl ≤ cs.2.1 + 15 * r := by simpa using p
                    have : D = C := by rw [hD]; simp [ad, p']
                    refine ⟨by simp, p, by simp, ?_⟩
                    rw [← this]; exact hKz
                · have hKz : K3 [.int ((1 + 1 : Nat) : Int), clr E] := hK3'
                  simp only [List.getD_cons_zero, List.getD_cons_succ, n1, j1, show ¬ (1 : Nat) = 0 by omega, if_false, if_true, av_mk, cl_app]
                  refine ⟨by simp, by simp, fun _ => ⟨i1, by simp, by simp, fun p => ?_, fun p => ?_⟩, fun h => absurd h (by simp)⟩
                  · have p' : k.sl ≤ cs.2.1 - 15 * r := by simpa using p
                    refine ⟨by simp, by simp, p, by simp, fun q => ⟨Tryz.call23, fun _ => ⟨by simp, by simp, cl_room _ _ (by omega), by simp, ?_⟩⟩, fun q => ⟨by simp, ?_⟩⟩
                    · have q : cs.2.1 - 15 * r ≤ k.fa := by simpa using q
                      have : E = D ++ [⟨c, 2, cs.2.1 - 15 * r, ⟨#[]⟩⟩] := by rw [hE]; simp [ad, q, p']
                      rw [← this]; exact hKz
                    · have q : ¬ cs.2.1 - 15 * r ≤ k.fa := by simpa using q
                      have : E = D := by rw [hE]; simp [ad, q, p']
                      rw [← this]; exact hKz
                  · have p' : ¬ k.sl ≤ cs.2.1 - 15 * r := by simpa using p
                    have : E = D := by rw [hE]; simp [ad, p']
                    refine ⟨by simp, p, by simp, ?_⟩
                    rw [← this]; exact hKz
              · rintro _ K3 _
                simp only [List.getD_cons_zero, List.getD_cons_succ, show ¬ (2 : Nat) = 0 by omega, show ¬ (2 : Nat) = 1 by omega, if_false]
                refine ⟨by simp, by simp, fun h => absurd h (by simp), fun _ => ⟨by simp, by simp, by simp, by simp, by simp, by simp, ?_⟩⟩
                refine loop_nat (σ := Unit) 2 (fun j _ => [.int (j : Nat), if j = 0 then clr E else if j = 1 then clr (E ++ [⟨c, 1, (cs.1 + 171 * r) % 4096, ⟨#[]⟩⟩]) else clr (E ++ [⟨c, 1, (cs.1 + 171 * r) % 4096, ⟨#[]⟩⟩] ++ [⟨c, 1, (cs.1 - 171 * r) % 4096, ⟨#[]⟩⟩])]) (fun _ _ => True) () rfl trivial ?_ ?_
                · rintro j _ K4 hj _ hK4
                  have hK4' := hK4 [.int ((j + 1 : Nat) : Int), if j + 1 = 0 then clr E else if j + 1 = 1 then clr (E ++ [⟨c, 1, (cs.1 + 171 * r) % 4096, ⟨#[]⟩⟩]) else clr (E ++ [⟨c, 1, (cs.1 + 171 * r) % 4096, ⟨#[]⟩⟩] ++ [⟨c, 1, (cs.1 - 171 * r) % 4096, ⟨#[]⟩⟩])] () rfl trivial
                  clear hK4
                  have hjj : j = 0 ∨ j = 1 := by omega
                  rcases hjj with rfl | rfl
                  · have hn := norm_fn (cs.1 + 171 * r) (by omega) (by omega)
                    simp only [List.getD_cons_zero, List.getD_cons_succ, n0, j0, if_true]
                    refine ⟨by simp, by simp, fun _ => ⟨i0, _, hn, Tryz.call23, fun _ => ⟨by simp, by simp, cl_room _ _ (by omega), by simp, ?_⟩⟩, fun h => absurd h (by simp)⟩
                    rw [av_mk, cl_app]
                    exact hK4'
                  · have hn := norm_fn (cs.1 - 171 * r) (by omega) (by omega)
                    simp only [List.getD_cons_zero, List.getD_cons_succ, n1, j1, show ¬ (1 : Nat) = 0 by omega, if_false, if_true]
                    refine ⟨by simp, by simp, fun _ => ⟨i1, _, hn, Tryz.call23, fun _ => ⟨by simp, by simp, cl_room _ _ (by simp; omega), by simp, ?_⟩⟩, fun h => absurd h (by simp)⟩
                    rw [av_mk, cl_app]
                    exact hK4'
                · rintro _ K4 _
                  simp only [List.getD_cons_zero, List.getD_cons_succ, show ¬ (2 : Nat) = 0 by omega, show ¬ (2 : Nat) = 1 by omega, if_false]
                  exact ⟨by simp, by simp, fun h => absurd h (by simp), fun _ => ⟨by simp, hK'⟩⟩
        · rintro _ K _
          simp only [List.getD_cons_zero, List.getD_cons_succ]
          refine ⟨by simp, by simp, fun h => absurd h (by simp), fun _ => ?_⟩
          exact ⟨flat_clr _, .lit _, rfl⟩
    · have hV : tatV l t = .tup [nd nd0, .int (tatE l t)] := by unfold tatV; rw [if_neg g3]
      rw [hV] at h3
      rw [hbad _ g3 (by unfold cndE; rw [if_neg (by simp [g1]), if_neg (by simp [g2]), if_pos g3])]
      refine ⟨_, h3, by simp [encN], by simp, by simp, fun q => ⟨by simp [AV.flatS], .lit _, rfl⟩, fun q => absurd q (by simpa using g3)⟩
end Go.Proofs.YtacfofpbbempaaaGreatDoor
/- The law ResolveLists: what the run ends in. -/
namespace Go.Proofs.YtacfofpbbempaaaGreatDoor
open Go.RowKit
set_option linter.unusedVariables false
set_option maxRecDepth 100000
namespace RlT
--GAMMA
def Γ : FuncId → Option Ca := fun f =>
  if f = 6 ∨ f = 7 ∨ f = 21 ∨ f = 8 ∨ f = 24 ∨ f = 4 ∨ f = 13 then some (.fn .sc)
  else if f = 10 ∨ f = 11 then some (.fn (.tup [.sc, .sc]))
  else if f = 9 then some (.fn (.tup [.sc, .sc]))
  else if f = 5 then some (.fn (.tup [.row 41 4 true, .sc]))
  else some .inl
def ann : FuncId → Nat → LoopEx := fun f r =>
  if f = 3 ∧ r = 24 then ⟨[], [5505], [], [(5249, 0, 41, 4)]⟩
  else if f = 12 then ⟨[], [5505], [], []⟩
  else ⟨[], [], [], []⟩
--END GAMMA
theorem listsT_form (x0 x1 x2 x3 r : AV) : fnF Tryz.prog Γ ann 3 3 Tryz.f3 (Tryz.f3.body.getD .skip) ((.f (.both (.both (.both (.t .nil) (.both (.t .nil) (.t (.both (.t .nil) (.t (.both .nil (.both (.both (.t (.both (.t .nil) (.t .nil))) (.t (.both (.t .nil) (.t .nil)))) (.t .nil)))))))) (.f (.t (.t .nil)))) (.f (.f (.t (.t .nil))))))) [x0, x1, x2, x3] (.sc) r = (((AV.isOne x0) ∧
((AV.isAgg x3 7) ∧
(∃ r193 : AV, ((Fn Tryz.prog 4 [] Sh.sc r193) ∧
((AV.unOk Go.UnOp.not r193) ∧
((AV.isBool (AV.un Go.UnOp.not r193)) ∧
((isF (AV.un Go.UnOp.not r193)) ∧
(∃ r577 : AV, ((Fn Tryz.prog 5 [x0, x1, x2, (AV.agg [(AV.cel x3 0), (AV.cel x3 1), (AV.cel x3 2), (AV.cel x3 3), (AV.cel x3 4), (AV.cel x3 5), (AV.cel x3 6)])] (Sh.tup [(Sh.row 41 4 true), Sh.sc]) r577) ∧
(∃ r1025 : AV, ((Fn Tryz.prog 6 [x1] Sh.sc r1025) ∧
((AV.binOk Go.BinOp.eql r1025 (AV.int 0)) ∧
((AV.isBool (AV.bin Go.BinOp.eql r1025 (AV.int 0))) ∧
(((isT (AV.bin Go.BinOp.eql r1025 (AV.int 0))) →
  (∃ r1345 : AV, ((Fn Tryz.prog 7 [(AV.agg [(AV.cel x3 0), (AV.cel x3 1), (AV.cel x3 2), (AV.cel x3 3), (AV.cel x3 4), (AV.cel x3 5), (AV.cel x3 6)])] Sh.sc r1345) ∧
  ((AV.binOk Go.BinOp.eql r1345 (AV.int 0)) ∧
  ((AV.isBool (AV.bin Go.BinOp.eql r1345 (AV.int 0))) ∧
  (((isT (AV.bin Go.BinOp.eql r1345 (AV.int 0))) →
    ((AV.isSl x1 6) ∧
    ((AV.inb x1 (AV.int 0)) ∧
    ((AV.binOk Go.BinOp.lss x2 (AV.at x1 (AV.int 0) 0)) ∧
    ((AV.isBool (AV.bin Go.BinOp.lss x2 (AV.at x1 (AV.int 0) 0))) ∧
    (((isT (AV.bin Go.BinOp.lss x2 (AV.at x1 (AV.int 0) 0))) →
      ((AV.isBool (AV.bin Go.BinOp.lss x2 (AV.at x1 (AV.int 0) 0))) ∧
      ((isT (AV.bin Go.BinOp.lss x2 (AV.at x1 (AV.int 0) 0))) ∧
      ((AV.isBool (AV.bin Go.BinOp.eql r1345 (AV.int 0))) ∧
      ((isT (AV.bin Go.BinOp.eql r1345 (AV.int 0))) ∧
      ((AV.binOk Go.BinOp.eql (AV.prj r577 1) (AV.int 12)) ∧
      ((AV.isBool (AV.bin Go.BinOp.eql (AV.prj r577 1) (AV.int 12))) ∧
      ((isT (AV.bin Go.BinOp.eql (AV.prj r577 1) (AV.int 12))) ∧
      ((AV.binOk Go.BinOp.eql (AV.len (AV.prj r577 0)) (AV.int 0)) ∧
      ((AV.isBool (AV.bin Go.BinOp.eql (AV.prj r577 1) (AV.int 12))) ∧
      ((isT (AV.bin Go.BinOp.eql (AV.prj r577 1) (AV.int 12))) ∧
      ((AV.flat (AV.bin Go.BinOp.eql (AV.len (AV.prj r577 0)) (AV.int 0))) ∧
      (fSame (AV.bin Go.BinOp.eql (AV.len (AV.prj r577 0)) (AV.int 0)) r))))))))))))) ∧
    ((isF (AV.bin Go.BinOp.lss x2 (AV.at x1 (AV.int 0) 0))) →
      ((AV.isSl x1 6) ∧
      ((AV.binOk Go.BinOp.sub (AV.len x1) (AV.int 1)) ∧
      ((AV.isSl x1 6) ∧
      ((AV.inb x1 (AV.bin Go.BinOp.sub (AV.len x1) (AV.int 1))) ∧
      ((AV.binOk Go.BinOp.gtr x2 (AV.at x1 (AV.bin Go.BinOp.sub (AV.len x1) (AV.int 1)) 0)) ∧
      ((AV.isBool (AV.bin Go.BinOp.lss x2 (AV.at x1 (AV.int 0) 0))) ∧
      ((isF (AV.bin Go.BinOp.lss x2 (AV.at x1 (AV.int 0) 0))) ∧
      ((AV.isBool (AV.bin Go.BinOp.eql r1345 (AV.int 0))) ∧
      ((isT (AV.bin Go.BinOp.eql r1345 (AV.int 0))) ∧
      ((AV.isBool (AV.bin Go.BinOp.gtr x2 (AV.at x1 (AV.bin Go.BinOp.sub (AV.len x1) (AV.int 1)) 0))) ∧
      (((isT (AV.bin Go.BinOp.gtr x2 (AV.at x1 (AV.bin Go.BinOp.sub (AV.len x1) (AV.int 1)) 0))) →
        ((AV.binOk Go.BinOp.eql (AV.prj r577 1) (AV.int 12)) ∧
        ((AV.isBool (AV.bin Go.BinOp.eql (AV.prj r577 1) (AV.int 12))) ∧
        ((isT (AV.bin Go.BinOp.eql (AV.prj r577 1) (AV.int 12))) ∧
        ((AV.binOk Go.BinOp.eql (AV.len (AV.prj r577 0)) (AV.int 0)) ∧
        ((AV.isBool (AV.bin Go.BinOp.eql (AV.prj r577 1) (AV.int 12))) ∧
        ((isT (AV.bin Go.BinOp.eql (AV.prj r577 1) (AV.int 12))) ∧
        ((AV.flat (AV.bin Go.BinOp.eql (AV.len (AV.prj r577 0)) (AV.int 0))) ∧
        (fSame (AV.bin Go.BinOp.eql (AV.len (AV.prj r577 0)) (AV.int 0)) r))))))))) ∧
      ((isF (AV.bin Go.BinOp.gtr x2 (AV.at x1 (AV.bin Go.BinOp.sub (AV.len x1) (AV.int 1)) 0))) →
        ((AV.binOk Go.BinOp.eql r1345 (AV.int 0)) ∧
        ((AV.isBool (AV.bin Go.BinOp.eql r1345 (AV.int 0))) ∧
        ((isT (AV.bin Go.BinOp.eql r1345 (AV.int 0))) ∧
        ((AV.isOne x0) ∧
        (∃ r3201 : AV, ((Fn Tryz.prog 8 [(AV.agg [x0, (AV.int 0), (AV.int 0), (AV.lit (Value.string ⟨#[]⟩))])] Sh.sc r3201) ∧
        ((AV.binOk Go.BinOp.neq r3201 (AV.int 0)) ∧
        ((AV.isBool (AV.bin Go.BinOp.neq r3201 (AV.int 0))) ∧
        (((isT (AV.bin Go.BinOp.neq r3201 (AV.int 0))) →
          ((AV.binOk Go.BinOp.eql (AV.prj r577 1) r3201) ∧
          ((AV.isBool (AV.bin Go.BinOp.eql (AV.prj r577 1) r3201)) ∧
          ((isT (AV.bin Go.BinOp.eql (AV.prj r577 1) r3201)) ∧
          ((AV.binOk Go.BinOp.eql (AV.len (AV.prj r577 0)) (AV.int 0)) ∧
          ((AV.isBool (AV.bin Go.BinOp.eql (AV.prj r577 1) r3201)) ∧
          ((isT (AV.bin Go.BinOp.eql (AV.prj r577 1) r3201)) ∧
          ((AV.flat (AV.bin Go.BinOp.eql (AV.len (AV.prj r577 0)) (AV.int 0))) ∧
          (fSame (AV.bin Go.BinOp.eql (AV.len (AV.prj r577 0)) (AV.int 0)) r))))))))) ∧
        ((isF (AV.bin Go.BinOp.neq r3201 (AV.int 0))) →
          (∃ r3585 : AV, ((Fn Tryz.prog 9 [x1, x2] (Sh.tup [Sh.sc, Sh.sc]) r3585) ∧
          ((AV.isAgg (AV.prj r3585 0) 6) ∧
          ((AV.isSl x1 6) ∧
          ((AV.binOk Go.BinOp.sub (AV.len x1) (AV.int 1)) ∧
          (fLoop 4481 [(AV.int 0), (AV.int 0), (AV.bool false), (AV.bin Go.BinOp.sub (AV.len x1) (AV.int 1))] fun ys4481 again4481 =>
            ((AV.binOk Go.BinOp.geq (ys4481.getD 3 default) (AV.int 0)) ∧
            ((AV.isBool (AV.bin Go.BinOp.geq (ys4481.getD 3 default) (AV.int 0))) ∧
            ((isT (AV.bin Go.BinOp.geq (ys4481.getD 3 default) (AV.int 0))) ∧
            ((AV.isSl x1 6) ∧
            ((AV.inb x1 (ys4481.getD 3 default)) ∧
            ((AV.binOk Go.BinOp.gtr (AV.at x1 (ys4481.getD 3 default) 0) x2) ∧
            ((AV.isBool (AV.bin Go.BinOp.geq (ys4481.getD 3 default) (AV.int 0))) ∧
            ((isT (AV.bin Go.BinOp.geq (ys4481.getD 3 default) (AV.int 0))) ∧
            ((AV.isBool (AV.bin Go.BinOp.gtr (AV.at x1 (ys4481.getD 3 default) 0) x2)) ∧
            (((isT (AV.bin Go.BinOp.gtr (AV.at x1 (ys4481.getD 3 default) 0) x2)) →
              ((AV.isSl x1 6) ∧
              ((AV.inb x1 (ys4481.getD 3 default)) ∧
              ((AV.binOk Go.BinOp.sub (AV.at x1 (ys4481.getD 3 default) 1) (AV.cel (AV.prj r3585 0) 1)) ∧
              ((AV.isSl x1 6) ∧
              ((AV.inb x1 (ys4481.getD 3 default)) ∧
              ((AV.binOk Go.BinOp.sub (AV.at x1 (ys4481.getD 3 default) 2) (AV.cel (AV.prj r3585 0) 2)) ∧
              ((AV.isOne (AV.bin Go.BinOp.sub (AV.at x1 (ys4481.getD 3 default) 1) (AV.cel (AV.prj r3585 0) 1))) ∧
              ((AV.isOne (AV.bin Go.BinOp.sub (AV.at x1 (ys4481.getD 3 default) 2) (AV.cel (AV.prj r3585 0) 2))) ∧
              (∃ r6849 : AV, ((Fn Tryz.prog 10 [(AV.agg [(AV.bin Go.BinOp.sub (AV.at x1 (ys4481.getD 3 default) 1) (AV.cel (AV.prj r3585 0) 1)), (AV.bin Go.BinOp.sub (AV.at x1 (ys4481.getD 3 default) 2) (AV.cel (AV.prj r3585 0) 2))])] (Sh.tup [Sh.sc, Sh.sc]) r6849) ∧
              ((AV.isSl x1 6) ∧
              ((AV.inb x1 (ys4481.getD 3 default)) ∧
              (∃ r7809 : AV, ((Fn Tryz.prog 11 [(AV.agg [(AV.cel (AV.prj r3585 0) 1), (AV.cel (AV.prj r3585 0) 2)]), (AV.atAgg x1 (ys4481.getD 3 default) 1 2)] (Sh.tup [Sh.sc, Sh.sc]) r7809) ∧
              ((AV.isSl x1 6) ∧
              ((AV.inb x1 (ys4481.getD 3 default)) ∧
              ((AV.binOk Go.BinOp.sub (AV.at x1 (ys4481.getD 3 default) 0) x2) ∧
              ((AV.binOk Go.BinOp.quo (AV.prj r7809 0) (AV.bin Go.BinOp.sub (AV.at x1 (ys4481.getD 3 default) 0) x2)) ∧
              ((AV.binOk Go.BinOp.eql (AV.prj r6849 1) (AV.int 0)) ∧
              ((AV.binOk Go.BinOp.sub (ys4481.getD 3 default) (AV.int 1)) ∧
              (again4481 [(AV.prj r6849 0), (AV.bin Go.BinOp.quo (AV.prj r7809 0) (AV.bin Go.BinOp.sub (AV.at x1 (ys4481.getD 3 default) 0) x2)), (AV.bin Go.BinOp.eql (AV.prj r6849 1) (AV.int 0)), (AV.bin Go.BinOp.sub (ys4481.getD 3 default) (AV.int 1))])))))))))))))))))))))) ∧
            ((isF (AV.bin Go.BinOp.gtr (AV.at x1 (ys4481.getD 3 default) 0) x2)) →
              (fLoop 5569 [(AV.int 1), (AV.mk 4 [])] fun ys5569 again5569 =>
                ((AV.binOk Go.BinOp.lss (ys5569.getD 0 default) (AV.int 4)) ∧
                ((AV.isBool (AV.bin Go.BinOp.lss (ys5569.getD 0 default) (AV.int 4))) ∧
                (((isT (AV.bin Go.BinOp.lss (ys5569.getD 0 default) (AV.int 4))) →
                  ((AV.binOk Go.BinOp.mul (AV.int 1000) (ys5569.getD 0 default)) ∧
                  ((AV.binOk Go.BinOp.add (AV.cel (AV.prj r3585 0) 3) (AV.bin Go.BinOp.mul (AV.int 1000) (ys5569.getD 0 default))) ∧
                  ((AV.binOk Go.BinOp.leq (AV.bin Go.BinOp.add (AV.cel (AV.prj r3585 0) 3) (AV.bin Go.BinOp.mul (AV.int 1000) (ys5569.getD 0 default))) (AV.cel x3 2)) ∧
                  ((AV.binOk Go.BinOp.mul (AV.int 1000) (ys5569.getD 0 default)) ∧
                  ((AV.binOk Go.BinOp.add (AV.cel (AV.prj r3585 0) 3) (AV.bin Go.BinOp.mul (AV.int 1000) (ys5569.getD 0 default))) ∧
                  ((fEnt Tryz.prog 12) ∧
                  (fAllV fun _ => (fJoin 6849 [(ys5569.getD 1 default)] (fun again6849 =>
                    ((AV.isBool (AV.bin Go.BinOp.leq (AV.bin Go.BinOp.add (AV.cel (AV.prj r3585 0) 3) (AV.bin Go.BinOp.mul (AV.int 1000) (ys5569.getD 0 default))) (AV.cel x3 2))) ∧
                    (((isT (AV.bin Go.BinOp.leq (AV.bin Go.BinOp.add (AV.cel (AV.prj r3585 0) 3) (AV.bin Go.BinOp.mul (AV.int 1000) (ys5569.getD 0 default))) (AV.cel x3 2))) →
                      ((AV.isOne x0) ∧
                      ((AV.isOne (AV.bin Go.BinOp.add (AV.cel (AV.prj r3585 0) 3) (AV.bin Go.BinOp.mul (AV.int 1000) (ys5569.getD 0 default)))) ∧
                      ((AV.room (ys5569.getD 1 default) (AV.mk 4 [[x0, (AV.int 0), (AV.bin Go.BinOp.add (AV.cel (AV.prj r3585 0) 3) (AV.bin Go.BinOp.mul (AV.int 1000) (ys5569.getD 0 default))), (AV.lit (Value.string ⟨#[]⟩))]]) 48) ∧
                      (again6849 [(AV.app 4 (ys5569.getD 1 default) (AV.mk 4 [[x0, (AV.int 0), (AV.bin Go.BinOp.add (AV.cel (AV.prj r3585 0) 3) (AV.bin Go.BinOp.mul (AV.int 1000) (ys5569.getD 0 default))), (AV.lit (Value.string ⟨#[]⟩))]]))]))))) ∧
                    ((isF (AV.bin Go.BinOp.leq (AV.bin Go.BinOp.add (AV.cel (AV.prj r3585 0) 3) (AV.bin Go.BinOp.mul (AV.int 1000) (ys5569.getD 0 default))) (AV.cel x3 2))) →
                      (again6849 [(ys5569.getD 1 default)]))))) (fun ys6849 =>
                    ((AV.binOk Go.BinOp.mul (AV.int 1000) (ys5569.getD 0 default)) ∧
                    ((AV.binOk Go.BinOp.geq (AV.cel (AV.prj r3585 0) 3) (AV.bin Go.BinOp.mul (AV.int 1000) (ys5569.getD 0 default))) ∧
                    ((AV.isBool (AV.bin Go.BinOp.geq (AV.cel (AV.prj r3585 0) 3) (AV.bin Go.BinOp.mul (AV.int 1000) (ys5569.getD 0 default)))) ∧
                    (((isT (AV.bin Go.BinOp.geq (AV.cel (AV.prj r3585 0) 3) (AV.bin Go.BinOp.mul (AV.int 1000) (ys5569.getD 0 default)))) →
                      ((AV.binOk Go.BinOp.mul (AV.int 1000) (ys5569.getD 0 default)) ∧
                      ((AV.binOk Go.BinOp.sub (AV.cel (AV.prj r3585 0) 3) (AV.bin Go.BinOp.mul (AV.int 1000) (ys5569.getD 0 default))) ∧
                      ((AV.binOk Go.BinOp.leq (AV.bin Go.BinOp.sub (AV.cel (AV.prj r3585 0) 3) (AV.bin Go.BinOp.mul (AV.int 1000) (ys5569.getD 0 default))) (AV.cel x3 2)) ∧
                      ((AV.isBool (AV.bin Go.BinOp.geq (AV.cel (AV.prj r3585 0) 3) (AV.bin Go.BinOp.mul (AV.int 1000) (ys5569.getD 0 default)))) ∧
                      ((isT (AV.bin Go.BinOp.geq (AV.cel (AV.prj r3585 0) 3) (AV.bin Go.BinOp.mul (AV.int 1000) (ys5569.getD 0 default)))) ∧
                      ((AV.binOk Go.BinOp.mul (AV.int 1000) (ys5569.getD 0 default)) ∧
                      ((AV.binOk Go.BinOp.sub (AV.cel (AV.prj r3585 0) 3) (AV.bin Go.BinOp.mul (AV.int 1000) (ys5569.getD 0 default))) ∧
                      ((fEnt Tryz.prog 12) ∧
                      (fAllV fun _ => (fJoin 8577 [(ys6849.getD 0 default)] (fun again8577 =>
                        ((AV.isBool (AV.bin Go.BinOp.leq (AV.bin Go.BinOp.sub (AV.cel (AV.prj r3585 0) 3) (AV.bin Go.BinOp.mul (AV.int 1000) (ys5569.getD 0 default))) (AV.cel x3 2))) ∧
                        (((isT (AV.bin Go.BinOp.leq (AV.bin Go.BinOp.sub (AV.cel (AV.prj r3585 0) 3) (AV.bin Go.BinOp.mul (AV.int 1000) (ys5569.getD 0 default))) (AV.cel x3 2))) →
                          ((AV.isOne x0) ∧
                          ((AV.isOne (AV.bin Go.BinOp.sub (AV.cel (AV.prj r3585 0) 3) (AV.bin Go.BinOp.mul (AV.int 1000) (ys5569.getD 0 default)))) ∧
                          ((AV.room (ys6849.getD 0 default) (AV.mk 4 [[x0, (AV.int 0), (AV.bin Go.BinOp.sub (AV.cel (AV.prj r3585 0) 3) (AV.bin Go.BinOp.mul (AV.int 1000) (ys5569.getD 0 default))), (AV.lit (Value.string ⟨#[]⟩))]]) 48) ∧
                          (again8577 [(AV.app 4 (ys6849.getD 0 default) (AV.mk 4 [[x0, (AV.int 0), (AV.bin Go.BinOp.sub (AV.cel (AV.prj r3585 0) 3) (AV.bin Go.BinOp.mul (AV.int 1000) (ys5569.getD 0 default))), (AV.lit (Value.string ⟨#[]⟩))]]))]))))) ∧
                        ((isF (AV.bin Go.BinOp.leq (AV.bin Go.BinOp.sub (AV.cel (AV.prj r3585 0) 3) (AV.bin Go.BinOp.mul (AV.int 1000) (ys5569.getD 0 default))) (AV.cel x3 2))) →
                          (again8577 [(ys6849.getD 0 default)]))))) (fun ys8577 =>
                        ((AV.isBool (ys4481.getD 2 default)) ∧
                        ((isT (ys4481.getD 2 default)) ∧
                        ((AV.binOk Go.BinOp.mul (AV.int 15) (ys5569.getD 0 default)) ∧
                        ((AV.binOk Go.BinOp.add (ys4481.getD 1 default) (AV.bin Go.BinOp.mul (AV.int 15) (ys5569.getD 0 default))) ∧
                        ((AV.binOk Go.BinOp.geq (AV.bin Go.BinOp.add (ys4481.getD 1 default) (AV.bin Go.BinOp.mul (AV.int 15) (ys5569.getD 0 default))) (AV.cel x3 5)) ∧
                        ((AV.isBool (ys4481.getD 2 default)) ∧
                        ((isT (ys4481.getD 2 default)) ∧
                        ((AV.isBool (AV.bin Go.BinOp.geq (AV.bin Go.BinOp.add (ys4481.getD 1 default) (AV.bin Go.BinOp.mul (AV.int 15) (ys5569.getD 0 default))) (AV.cel x3 5))) ∧
                        (((isT (AV.bin Go.BinOp.geq (AV.bin Go.BinOp.add (ys4481.getD 1 default) (AV.bin Go.BinOp.mul (AV.int 15) (ys5569.getD 0 default))) (AV.cel x3 5))) →
                          ((AV.binOk Go.BinOp.mul (AV.int 15) (ys5569.getD 0 default)) ∧
                          ((AV.binOk Go.BinOp.add (ys4481.getD 1 default) (AV.bin Go.BinOp.mul (AV.int 15) (ys5569.getD 0 default))) ∧
                          ((AV.binOk Go.BinOp.leq (AV.bin Go.BinOp.add (ys4481.getD 1 default) (AV.bin Go.BinOp.mul (AV.int 15) (ys5569.getD 0 default))) (AV.cel x3 6)) ∧
                          ((AV.isBool (AV.bin Go.BinOp.geq (AV.bin Go.BinOp.add (ys4481.getD 1 default) (AV.bin Go.BinOp.mul (AV.int 15) (ys5569.getD 0 default))) (AV.cel x3 5))) ∧
                          ((isT (AV.bin Go.BinOp.geq (AV.bin Go.BinOp.add (ys4481.getD 1 default) (AV.bin Go.BinOp.mul (AV.int 15) (ys5569.getD 0 default))) (AV.cel x3 5))) ∧
                          ((AV.binOk Go.BinOp.mul (AV.int 15) (ys5569.getD 0 default)) ∧
                          ((AV.binOk Go.BinOp.add (ys4481.getD 1 default) (AV.bin Go.BinOp.mul (AV.int 15) (ys5569.getD 0 default))) ∧
                          ((fEnt Tryz.prog 12) ∧
                          (fAllV fun _ => (fJoin 10305 [(ys8577.getD 0 default)] (fun again10305 =>
                            ((AV.isBool (AV.bin Go.BinOp.leq (AV.bin Go.BinOp.add (ys4481.getD 1 default) (AV.bin Go.BinOp.mul (AV.int 15) (ys5569.getD 0 default))) (AV.cel x3 6))) ∧
                            (((isT (AV.bin Go.BinOp.leq (AV.bin Go.BinOp.add (ys4481.getD 1 default) (AV.bin Go.BinOp.mul (AV.int 15) (ys5569.getD 0 default))) (AV.cel x3 6))) →
                              ((AV.isOne x0) ∧
                              ((AV.isOne (AV.bin Go.BinOp.add (ys4481.getD 1 default) (AV.bin Go.BinOp.mul (AV.int 15) (ys5569.getD 0 default)))) ∧
                              ((AV.room (ys8577.getD 0 default) (AV.mk 4 [[x0, (AV.int 2), (AV.bin Go.BinOp.add (ys4481.getD 1 default) (AV.bin Go.BinOp.mul (AV.int 15) (ys5569.getD 0 default))), (AV.lit (Value.string ⟨#[]⟩))]]) 48) ∧
                              (again10305 [(AV.app 4 (ys8577.getD 0 default) (AV.mk 4 [[x0, (AV.int 2), (AV.bin Go.BinOp.add (ys4481.getD 1 default) (AV.bin Go.BinOp.mul (AV.int 15) (ys5569.getD 0 default))), (AV.lit (Value.string ⟨#[]⟩))]]))]))))) ∧
                            ((isF (AV.bin Go.BinOp.leq (AV.bin Go.BinOp.add (ys4481.getD 1 default) (AV.bin Go.BinOp.mul (AV.int 15) (ys5569.getD 0 default))) (AV.cel x3 6))) →
                              (again10305 [(ys8577.getD 0 default)]))))) (fun ys10305 =>
                            ((AV.isBool (ys4481.getD 2 default)) ∧
                            ((isT (ys4481.getD 2 default)) ∧
                            ((AV.binOk Go.BinOp.mul (AV.int 15) (ys5569.getD 0 default)) ∧
                            ((AV.binOk Go.BinOp.sub (ys4481.getD 1 default) (AV.bin Go.BinOp.mul (AV.int 15) (ys5569.getD 0 default))) ∧
                            ((AV.binOk Go.BinOp.geq (AV.bin Go.BinOp.sub (ys4481.getD 1 default) (AV.bin Go.BinOp.mul (AV.int 15) (ys5569.getD 0 default))) (AV.cel x3 5)) ∧
                            ((AV.isBool (ys4481.getD 2 default)) ∧
                            ((isT (ys4481.getD 2 default)) ∧
                            ((AV.isBool (AV.bin Go.BinOp.geq (AV.bin Go.BinOp.sub (ys4481.getD 1 default) (AV.bin Go.BinOp.mul (AV.int 15) (ys5569.getD 0 default))) (AV.cel x3 5))) ∧
                            (((isT (AV.bin Go.BinOp.geq (AV.bin Go.BinOp.sub (ys4481.getD 1 default) (AV.bin Go.BinOp.mul (AV.int 15) (ys5569.getD 0 default))) (AV.cel x3 5))) →
                              ((AV.binOk Go.BinOp.mul (AV.int 15) (ys5569.getD 0 default)) ∧
                              ((AV.binOk Go.BinOp.sub (ys4481.getD 1 default) (AV.bin Go.BinOp.mul (AV.int 15) (ys5569.getD 0 default))) ∧
                              ((AV.binOk Go.BinOp.leq (AV.bin Go.BinOp.sub (ys4481.getD 1 default) (AV.bin Go.BinOp.mul (AV.int 15) (ys5569.getD 0 default))) (AV.cel x3 6)) ∧
                              ((AV.isBool (AV.bin Go.BinOp.geq (AV.bin Go.BinOp.sub (ys4481.getD 1 default) (AV.bin Go.BinOp.mul (AV.int 15) (ys5569.getD 0 default))) (AV.cel x3 5))) ∧
                              ((isT (AV.bin Go.BinOp.geq (AV.bin Go.BinOp.sub (ys4481.getD 1 default) (AV.bin Go.BinOp.mul (AV.int 15) (ys5569.getD 0 default))) (AV.cel x3 5))) ∧
                              ((AV.binOk Go.BinOp.mul (AV.int 15) (ys5569.getD 0 default)) ∧
                              ((AV.binOk Go.BinOp.sub (ys4481.getD 1 default) (AV.bin Go.BinOp.mul (AV.int 15) (ys5569.getD 0 default))) ∧
                              ((fEnt Tryz.prog 12) ∧
                              (fAllV fun _ => (fJoin 12033 [(ys10305.getD 0 default)] (fun again12033 =>
                                ((AV.isBool (AV.bin Go.BinOp.leq (AV.bin Go.BinOp.sub (ys4481.getD 1 default) (AV.bin Go.BinOp.mul (AV.int 15) (ys5569.getD 0 default))) (AV.cel x3 6))) ∧
                                (((isT (AV.bin Go.BinOp.leq (AV.bin Go.BinOp.sub (ys4481.getD 1 default) (AV.bin Go.BinOp.mul (AV.int 15) (ys5569.getD 0 default))) (AV.cel x3 6))) →
                                  ((AV.isOne x0) ∧
                                  ((AV.isOne (AV.bin Go.BinOp.sub (ys4481.getD 1 default) (AV.bin Go.BinOp.mul (AV.int 15) (ys5569.getD 0 default)))) ∧
                                  ((AV.room (ys10305.getD 0 default) (AV.mk 4 [[x0, (AV.int 2), (AV.bin Go.BinOp.sub (ys4481.getD 1 default) (AV.bin Go.BinOp.mul (AV.int 15) (ys5569.getD 0 default))), (AV.lit (Value.string ⟨#[]⟩))]]) 48) ∧
                                  (again12033 [(AV.app 4 (ys10305.getD 0 default) (AV.mk 4 [[x0, (AV.int 2), (AV.bin Go.BinOp.sub (ys4481.getD 1 default) (AV.bin Go.BinOp.mul (AV.int 15) (ys5569.getD 0 default))), (AV.lit (Value.string ⟨#[]⟩))]]))]))))) ∧
                                ((isF (AV.bin Go.BinOp.leq (AV.bin Go.BinOp.sub (ys4481.getD 1 default) (AV.bin Go.BinOp.mul (AV.int 15) (ys5569.getD 0 default))) (AV.cel x3 6))) →
                                  (again12033 [(ys10305.getD 0 default)]))))) (fun ys12033 =>
                                ((AV.binOk Go.BinOp.mul (AV.int 171) (ys5569.getD 0 default)) ∧
                                ((AV.binOk Go.BinOp.add (ys4481.getD 0 default) (AV.bin Go.BinOp.mul (AV.int 171) (ys5569.getD 0 default))) ∧
                                ((AV.binOk Go.BinOp.rem (AV.bin Go.BinOp.add (ys4481.getD 0 default) (AV.bin Go.BinOp.mul (AV.int 171) (ys5569.getD 0 default))) (AV.int 4096)) ∧
                                ((fEnt Tryz.prog 12) ∧
                                (fAllV fun _ => (fJoin 12673 [(ys12033.getD 0 default)] (fun again12673 =>
                                  ((AV.isBool (ys4481.getD 2 default)) ∧
                                  (((isT (ys4481.getD 2 default)) →
                                    ((AV.isOne x0) ∧
                                    ((AV.isOne (AV.bin Go.BinOp.rem (AV.bin Go.BinOp.add (ys4481.getD 0 default) (AV.bin Go.BinOp.mul (AV.int 171) (ys5569.getD 0 default))) (AV.int 4096))) ∧
                                    ((AV.room (ys12033.getD 0 default) (AV.mk 4 [[x0, (AV.int 1), (AV.bin Go.BinOp.rem (AV.bin Go.BinOp.add (ys4481.getD 0 default) (AV.bin Go.BinOp.mul (AV.int 171) (ys5569.getD 0 default))) (AV.int 4096)), (AV.lit (Value.string ⟨#[]⟩))]]) 48) ∧
                                    (again12673 [(AV.app 4 (ys12033.getD 0 default) (AV.mk 4 [[x0, (AV.int 1), (AV.bin Go.BinOp.rem (AV.bin Go.BinOp.add (ys4481.getD 0 default) (AV.bin Go.BinOp.mul (AV.int 171) (ys5569.getD 0 default))) (AV.int 4096)), (AV.lit (Value.string ⟨#[]⟩))]]))]))))) ∧
                                  ((isF (ys4481.getD 2 default)) →
                                    (again12673 [(ys12033.getD 0 default)]))))) (fun ys12673 =>
                                  ((AV.binOk Go.BinOp.add (ys4481.getD 0 default) (AV.int 4096)) ∧
                                  ((AV.binOk Go.BinOp.mul (AV.int 171) (ys5569.getD 0 default)) ∧
                                  ((AV.binOk Go.BinOp.sub (AV.bin Go.BinOp.add (ys4481.getD 0 default) (AV.int 4096)) (AV.bin Go.BinOp.mul (AV.int 171) (ys5569.getD 0 default))) ∧
                                  ((AV.binOk Go.BinOp.rem (AV.bin Go.BinOp.sub (AV.bin Go.BinOp.add (ys4481.getD 0 default) (AV.int 4096)) (AV.bin Go.BinOp.mul (AV.int 171) (ys5569.getD 0 default))) (AV.int 4096)) ∧
                                  ((fEnt Tryz.prog 12) ∧
                                  (fAllV fun _ => (fJoin 13377 [(ys12673.getD 0 default)] (fun again13377 =>
                                    ((AV.isBool (ys4481.getD 2 default)) ∧
                                    (((isT (ys4481.getD 2 default)) →
                                      ((AV.isOne x0) ∧
                                      ((AV.isOne (AV.bin Go.BinOp.rem (AV.bin Go.BinOp.sub (AV.bin Go.BinOp.add (ys4481.getD 0 default) (AV.int 4096)) (AV.bin Go.BinOp.mul (AV.int 171) (ys5569.getD 0 default))) (AV.int 4096))) ∧
                                      ((AV.room (ys12673.getD 0 default) (AV.mk 4 [[x0, (AV.int 1), (AV.bin Go.BinOp.rem (AV.bin Go.BinOp.sub (AV.bin Go.BinOp.add (ys4481.getD 0 default) (AV.int 4096)) (AV.bin Go.BinOp.mul (AV.int 171) (ys5569.getD 0 default))) (AV.int 4096)), (AV.lit (Value.string ⟨#[]⟩))]]) 48) ∧
                                      (again13377 [(AV.app 4 (ys12673.getD 0 default) (AV.mk 4 [[x0, (AV.int 1), (AV.bin Go.BinOp.rem (AV.bin Go.BinOp.sub (AV.bin Go.BinOp.add (ys4481.getD 0 default) (AV.int 4096)) (AV.bin Go.BinOp.mul (AV.int 171) (ys5569.getD 0 default))) (AV.int 4096)), (AV.lit (Value.string ⟨#[]⟩))]]))]))))) ∧
                                    ((isF (ys4481.getD 2 default)) →
                                      (again13377 [(ys12673.getD 0 default)]))))) (fun ys13377 =>
                                    ((AV.binOk Go.BinOp.add (ys5569.getD 0 default) (AV.int 1)) ∧
                                    (again5569 [(AV.bin Go.BinOp.add (ys5569.getD 0 default) (AV.int 1)), (ys13377.getD 0 default)]))))))))))))))))))))))))))))) ∧
                            ((isF (AV.bin Go.BinOp.geq (AV.bin Go.BinOp.sub (ys4481.getD 1 default) (AV.bin Go.BinOp.mul (AV.int 15) (ys5569.getD 0 default))) (AV.cel x3 5))) →
                              ((AV.isBool (AV.bin Go.BinOp.geq (AV.bin Go.BinOp.sub (ys4481.getD 1 default) (AV.bin Go.BinOp.mul (AV.int 15) (ys5569.getD 0 default))) (AV.cel x3 5))) ∧
                              ((isF (AV.bin Go.BinOp.geq (AV.bin Go.BinOp.sub (ys4481.getD 1 default) (AV.bin Go.BinOp.mul (AV.int 15) (ys5569.getD 0 default))) (AV.cel x3 5))) ∧
                              ((AV.binOk Go.BinOp.mul (AV.int 15) (ys5569.getD 0 default)) ∧
                              ((AV.binOk Go.BinOp.sub (ys4481.getD 1 default) (AV.bin Go.BinOp.mul (AV.int 15) (ys5569.getD 0 default))) ∧
                              ((fEnt Tryz.prog 12) ∧
                              (fAllV fun _ => ((AV.binOk Go.BinOp.mul (AV.int 171) (ys5569.getD 0 default)) ∧
                              ((AV.binOk Go.BinOp.add (ys4481.getD 0 default) (AV.bin Go.BinOp.mul (AV.int 171) (ys5569.getD 0 default))) ∧
                              ((AV.binOk Go.BinOp.rem (AV.bin Go.BinOp.add (ys4481.getD 0 default) (AV.bin Go.BinOp.mul (AV.int 171) (ys5569.getD 0 default))) (AV.int 4096)) ∧
                              ((fEnt Tryz.prog 12) ∧
                              (fAllV fun _ => (fJoin 12673 [(ys10305.getD 0 default)] (fun again12673 =>
                                ((AV.isBool (ys4481.getD 2 default)) ∧
                                (((isT (ys4481.getD 2 default)) →
                                  ((AV.isOne x0) ∧
                                  ((AV.isOne (AV.bin Go.BinOp.rem (AV.bin Go.BinOp.add (ys4481.getD 0 default) (AV.bin Go.BinOp.mul (AV.int 171) (ys5569.getD 0 default))) (AV.int 4096))) ∧
                                  ((AV.room (ys10305.getD 0 default) (AV.mk 4 [[x0, (AV.int 1), (AV.bin Go.BinOp.rem (AV.bin Go.BinOp.add (ys4481.getD 0 default) (AV.bin Go.BinOp.mul (AV.int 171) (ys5569.getD 0 default))) (AV.int 4096)), (AV.lit (Value.string ⟨#[]⟩))]]) 48) ∧
                                  (again12673 [(AV.app 4 (ys10305.getD 0 default) (AV.mk 4 [[x0, (AV.int 1), (AV.bin Go.BinOp.rem (AV.bin Go.BinOp.add (ys4481.getD 0 default) (AV.bin Go.BinOp.mul (AV.int 171) (ys5569.getD 0 default))) (AV.int 4096)), (AV.lit (Value.string ⟨#[]⟩))]]))]))))) ∧
                                ((isF (ys4481.getD 2 default)) →
                                  (again12673 [(ys10305.getD 0 default)]))))) (fun ys12673 =>
                                ((AV.binOk Go.BinOp.add (ys4481.getD 0 default) (AV.int 4096)) ∧
                                ((AV.binOk Go.BinOp.mul (AV.int 171) (ys5569.getD 0 default)) ∧
                                ((AV.binOk Go.BinOp.sub (AV.bin Go.BinOp.add (ys4481.getD 0 default) (AV.int 4096)) (AV.bin Go.BinOp.mul (AV.int 171) (ys5569.getD 0 default))) ∧
                                ((AV.binOk Go.BinOp.rem (AV.bin Go.BinOp.sub (AV.bin Go.BinOp.add (ys4481.getD 0 default) (AV.int 4096)) (AV.bin Go.BinOp.mul (AV.int 171) (ys5569.getD 0 default))) (AV.int 4096)) ∧
                                ((fEnt Tryz.prog 12) ∧
                                (fAllV fun _ => (fJoin 13377 [(ys12673.getD 0 default)] (fun again13377 =>
                                  ((AV.isBool (ys4481.getD 2 default)) ∧
                                  (((isT (ys4481.getD 2 default)) →
                                    ((AV.isOne x0) ∧
                                    ((AV.isOne (AV.bin Go.BinOp.rem (AV.bin Go.BinOp.sub (AV.bin Go.BinOp.add (ys4481.getD 0 default) (AV.int 4096)) (AV.bin Go.BinOp.mul (AV.int 171) (ys5569.getD 0 default))) (AV.int 4096))) ∧
                                    ((AV.room (ys12673.getD 0 default) (AV.mk 4 [[x0, (AV.int 1), (AV.bin Go.BinOp.rem (AV.bin Go.BinOp.sub (AV.bin Go.BinOp.add (ys4481.getD 0 default) (AV.int 4096)) (AV.bin Go.BinOp.mul (AV.int 171) (ys5569.getD 0 default))) (AV.int 4096)), (AV.lit (Value.string ⟨#[]⟩))]]) 48) ∧
                                    (again13377 [(AV.app 4 (ys12673.getD 0 default) (AV.mk 4 [[x0, (AV.int 1), (AV.bin Go.BinOp.rem (AV.bin Go.BinOp.sub (AV.bin Go.BinOp.add (ys4481.getD 0 default) (AV.int 4096)) (AV.bin Go.BinOp.mul (AV.int 171) (ys5569.getD 0 default))) (AV.int 4096)), (AV.lit (Value.string ⟨#[]⟩))]]))]))))) ∧
                                  ((isF (ys4481.getD 2 default)) →
                                    (again13377 [(ys12673.getD 0 default)]))))) (fun ys13377 =>
                                  ((AV.binOk Go.BinOp.add (ys5569.getD 0 default) (AV.int 1)) ∧
                                  (again5569 [(AV.bin Go.BinOp.add (ys5569.getD 0 default) (AV.int 1)), (ys13377.getD 0 default)]))))))))))))))))))))))))))))))))))))))))))))) ∧
                        ((isF (AV.bin Go.BinOp.geq (AV.bin Go.BinOp.add (ys4481.getD 1 default) (AV.bin Go.BinOp.mul (AV.int 15) (ys5569.getD 0 default))) (AV.cel x3 5))) →
                          ((AV.isBool (AV.bin Go.BinOp.geq (AV.bin Go.BinOp.add (ys4481.getD 1 default) (AV.bin Go.BinOp.mul (AV.int 15) (ys5569.getD 0 default))) (AV.cel x3 5))) ∧
                          ((isF (AV.bin Go.BinOp.geq (AV.bin Go.BinOp.add (ys4481.getD 1 default) (AV.bin Go.BinOp.mul (AV.int 15) (ys5569.getD 0 default))) (AV.cel x3 5))) ∧
                          ((AV.binOk Go.BinOp.mul (AV.int 15) (ys5569.getD 0 default)) ∧
                          ((AV.binOk Go.BinOp.add (ys4481.getD 1 default) (AV.bin Go.BinOp.mul (AV.int 15) (ys5569.getD 0 default))) ∧
                          ((fEnt Tryz.prog 12) ∧
                          (fAllV fun _ => ((AV.isBool (ys4481.getD 2 default)) ∧
                          ((isT (ys4481.getD 2 default)) ∧
                          ((AV.binOk Go.BinOp.mul (AV.int 15) (ys5569.getD 0 default)) ∧
                          ((AV.binOk Go.BinOp.sub (ys4481.getD 1 default) (AV.bin Go.BinOp.mul (AV.int 15) (ys5569.getD 0 default))) ∧
                          ((AV.binOk Go.BinOp.geq (AV.bin Go.BinOp.sub (ys4481.getD 1 default) (AV.bin Go.BinOp.mul (AV.int 15) (ys5569.getD 0 default))) (AV.cel x3 5)) ∧
                          ((AV.isBool (ys4481.getD 2 default)) ∧
                          ((isT (ys4481.getD 2 default)) ∧
                          ((AV.isBool (AV.bin Go.BinOp.geq (AV.bin Go.BinOp.sub (ys4481.getD 1 default) (AV.bin Go.BinOp.mul (AV.int 15) (ys5569.getD 0 default))) (AV.cel x3 5))) ∧
                          (((isT (AV.bin Go.BinOp.geq (AV.bin Go.BinOp.sub (ys4481.getD 1 default) (AV.bin Go.BinOp.mul (AV.int 15) (ys5569.getD 0 default))) (AV.cel x3 5))) →
                            ((AV.binOk Go.BinOp.mul (AV.int 15) (ys5569.getD 0 default)) ∧
                            ((AV.binOk Go.BinOp.sub (ys4481.getD 1 default) (AV.bin Go.BinOp.mul (AV.int 15) (ys5569.getD 0 default))) ∧
                            ((AV.binOk Go.BinOp.leq (AV.bin Go.BinOp.sub (ys4481.getD 1 default) (AV.bin Go.BinOp.mul (AV.int 15) (ys5569.getD 0 default))) (AV.cel x3 6)) ∧
                            ((AV.isBool (AV.bin Go.BinOp.geq (AV.bin Go.BinOp.sub (ys4481.getD 1 default) (AV.bin Go.BinOp.mul (AV.int 15) (ys5569.getD 0 default))) (AV.cel x3 5))) ∧
                            ((isT (AV.bin Go.BinOp.geq (AV.bin Go.BinOp.sub (ys4481.getD 1 default) (AV.bin Go.BinOp.mul (AV.int 15) (ys5569.getD 0 default))) (AV.cel x3 5))) ∧
                            ((AV.binOk Go.BinOp.mul (AV.int 15) (ys5569.getD 0 default)) ∧
                            ((AV.binOk Go.BinOp.sub (ys4481.getD 1 default) (AV.bin Go.BinOp.mul (AV.int 15) (ys5569.getD 0 default))) ∧
                            ((fEnt Tryz.prog 12) ∧
                            (fAllV fun _ => (fJoin 12033 [(ys8577.getD 0 default)] (fun again12033 =>
                              ((AV.isBool (AV.bin Go.BinOp.leq (AV.bin Go.BinOp.sub (ys4481.getD 1 default) (AV.bin Go.BinOp.mul (AV.int 15) (ys5569.getD 0 default))) (AV.cel x3 6))) ∧
                              (((isT (AV.bin Go.BinOp.leq (AV.bin Go.BinOp.sub (ys4481.getD 1 default) (AV.bin Go.BinOp.mul (AV.int 15) (ys5569.getD 0 default))) (AV.cel x3 6))) →
                                ((AV.isOne x0) ∧
                                ((AV.isOne (AV.bin Go.BinOp.sub (ys4481.getD 1 default) (AV.bin Go.BinOp.mul (AV.int 15) (ys5569.getD 0 default)))) ∧
                                ((AV.room (ys8577.getD 0 default) (AV.mk 4 [[x0, (AV.int 2), (AV.bin Go.BinOp.sub (ys4481.getD 1 default) (AV.bin Go.BinOp.mul (AV.int 15) (ys5569.getD 0 default))), (AV.lit (Value.string ⟨#[]⟩))]]) 48) ∧
                                (again12033 [(AV.app 4 (ys8577.getD 0 default) (AV.mk 4 [[x0, (AV.int 2), (AV.bin Go.BinOp.sub (ys4481.getD 1 default) (AV.bin Go.BinOp.mul (AV.int 15) (ys5569.getD 0 default))), (AV.lit (Value.string ⟨#[]⟩))]]))]))))) ∧
                              ((isF (AV.bin Go.BinOp.leq (AV.bin Go.BinOp.sub (ys4481.getD 1 default) (AV.bin Go.BinOp.mul (AV.int 15) (ys5569.getD 0 default))) (AV.cel x3 6))) →
                                (again12033 [(ys8577.getD 0 default)]))))) (fun ys12033 =>
                              ((AV.binOk Go.BinOp.mul (AV.int 171) (ys5569.getD 0 default)) ∧
                              ((AV.binOk Go.BinOp.add (ys4481.getD 0 default) (AV.bin Go.BinOp.mul (AV.int 171) (ys5569.getD 0 default))) ∧
                              ((AV.binOk Go.BinOp.rem (AV.bin Go.BinOp.add (ys4481.getD 0 default) (AV.bin Go.BinOp.mul (AV.int 171) (ys5569.getD 0 default))) (AV.int 4096)) ∧
                              ((fEnt Tryz.prog 12) ∧
                              (fAllV fun _ => (fJoin 12673 [(ys12033.getD 0 default)] (fun again12673 =>
                                ((AV.isBool (ys4481.getD 2 default)) ∧
                                (((isT (ys4481.getD 2 default)) →
                                  ((AV.isOne x0) ∧
                                  ((AV.isOne (AV.bin Go.BinOp.rem (AV.bin Go.BinOp.add (ys4481.getD 0 default) (AV.bin Go.BinOp.mul (AV.int 171) (ys5569.getD 0 default))) (AV.int 4096))) ∧
                                  ((AV.room (ys12033.getD 0 default) (AV.mk 4 [[x0, (AV.int 1), (AV.bin Go.BinOp.rem (AV.bin Go.BinOp.add (ys4481.getD 0 default) (AV.bin Go.BinOp.mul (AV.int 171) (ys5569.getD 0 default))) (AV.int 4096)), (AV.lit (Value.string ⟨#[]⟩))]]) 48) ∧
                                  (again12673 [(AV.app 4 (ys12033.getD 0 default) (AV.mk 4 [[x0, (AV.int 1), (AV.bin Go.BinOp.rem (AV.bin Go.BinOp.add (ys4481.getD 0 default) (AV.bin Go.BinOp.mul (AV.int 171) (ys5569.getD 0 default))) (AV.int 4096)), (AV.lit (Value.string ⟨#[]⟩))]]))]))))) ∧
                                ((isF (ys4481.getD 2 default)) →
                                  (again12673 [(ys12033.getD 0 default)]))))) (fun ys12673 =>
                                ((AV.binOk Go.BinOp.add (ys4481.getD 0 default) (AV.int 4096)) ∧
                                ((AV.binOk Go.BinOp.mul (AV.int 171) (ys5569.getD 0 default)) ∧
                                ((AV.binOk Go.BinOp.sub (AV.bin Go.BinOp.add (ys4481.getD 0 default) (AV.int 4096)) (AV.bin Go.BinOp.mul (AV.int 171) (ys5569.getD 0 default))) ∧
                                ((AV.binOk Go.BinOp.rem (AV.bin Go.BinOp.sub (AV.bin Go.BinOp.add (ys4481.getD 0 default) (AV.int 4096)) (AV.bin Go.BinOp.mul (AV.int 171) (ys5569.getD 0 default))) (AV.int 4096)) ∧
                                ((fEnt Tryz.prog 12) ∧
                                (fAllV fun _ => (fJoin 13377 [(ys12673.getD 0 default)] (fun again13377 =>
                                  ((AV.isBool (ys4481.getD 2 default)) ∧
                                  (((isT (ys4481.getD 2 default)) →
                                    ((AV.isOne x0) ∧
                                    ((AV.isOne (AV.bin Go.BinOp.rem (AV.bin Go.BinOp.sub (AV.bin Go.BinOp.add (ys4481.getD 0 default) (AV.int 4096)) (AV.bin Go.BinOp.mul (AV.int 171) (ys5569.getD 0 default))) (AV.int 4096))) ∧
                                    ((AV.room (ys12673.getD 0 default) (AV.mk 4 [[x0, (AV.int 1), (AV.bin Go.BinOp.rem (AV.bin Go.BinOp.sub (AV.bin Go.BinOp.add (ys4481.getD 0 default) (AV.int 4096)) (AV.bin Go.BinOp.mul (AV.int 171) (ys5569.getD 0 default))) (AV.int 4096)), (AV.lit (Value.string ⟨#[]⟩))]]) 48) ∧
                                    (again13377 [(AV.app 4 (ys12673.getD 0 default) (AV.mk 4 [[x0, (AV.int 1), (AV.bin Go.BinOp.rem (AV.bin Go.BinOp.sub (AV.bin Go.BinOp.add (ys4481.getD 0 default) (AV.int 4096)) (AV.bin Go.BinOp.mul (AV.int 171) (ys5569.getD 0 default))) (AV.int 4096)), (AV.lit (Value.string ⟨#[]⟩))]]))]))))) ∧
                                  ((isF (ys4481.getD 2 default)) →
                                    (again13377 [(ys12673.getD 0 default)]))))) (fun ys13377 =>
                                  ((AV.binOk Go.BinOp.add (ys5569.getD 0 default) (AV.int 1)) ∧
                                  (again5569 [(AV.bin Go.BinOp.add (ys5569.getD 0 default) (AV.int 1)), (ys13377.getD 0 default)]))))))))))))))))))))))))))))) ∧
                          ((isF (AV.bin Go.BinOp.geq (AV.bin Go.BinOp.sub (ys4481.getD 1 default) (AV.bin Go.BinOp.mul (AV.int 15) (ys5569.getD 0 default))) (AV.cel x3 5))) →
                            ((AV.isBool (AV.bin Go.BinOp.geq (AV.bin Go.BinOp.sub (ys4481.getD 1 default) (AV.bin Go.BinOp.mul (AV.int 15) (ys5569.getD 0 default))) (AV.cel x3 5))) ∧
                            ((isF (AV.bin Go.BinOp.geq (AV.bin Go.BinOp.sub (ys4481.getD 1 default) (AV.bin Go.BinOp.mul (AV.int 15) (ys5569.getD 0 default))) (AV.cel x3 5))) ∧
                            ((AV.binOk Go.BinOp.mul (AV.int 15) (ys5569.getD 0 default)) ∧
                            ((AV.binOk Go.BinOp.sub (ys4481.getD 1 default) (AV.bin Go.BinOp.mul (AV.int 15) (ys5569.getD 0 default))) ∧
                            ((fEnt Tryz.prog 12) ∧
                            (fAllV fun _ => ((AV.binOk Go.BinOp.mul (AV.int 171) (ys5569.getD 0 default)) ∧
                            ((AV.binOk Go.BinOp.add (ys4481.getD 0 default) (AV.bin Go.BinOp.mul (AV.int 171) (ys5569.getD 0 default))) ∧
                            ((AV.binOk Go.BinOp.rem (AV.bin Go.BinOp.add (ys4481.getD 0 default) (AV.bin Go.BinOp.mul (AV.int 171) (ys5569.getD 0 default))) (AV.int 4096)) ∧
                            ((fEnt Tryz.prog 12) ∧
                            (fAllV fun _ => (fJoin 12673 [(ys8577.getD 0 default)] (fun again12673 =>
                              ((AV.isBool (ys4481.getD 2 default)) ∧
                              (((isT (ys4481.getD 2 default)) →
                                ((AV.isOne x0) ∧
                                ((AV.isOne (AV.bin Go.BinOp.rem (AV.bin Go.BinOp.add (ys4481.getD 0 default) (AV.bin Go.BinOp.mul (AV.int 171) (ys5569.getD 0 default))) (AV.int 4096))) ∧
                                ((AV.room (ys8577.getD 0 default) (AV.mk 4 [[x0, (AV.int 1), (AV.bin Go.BinOp.rem (AV.bin Go.BinOp.add (ys4481.getD 0 default) (AV.bin Go.BinOp.mul (AV.int 171) (ys5569.getD 0 default))) (AV.int 4096)), (AV.lit (Value.string ⟨#[]⟩))]]) 48) ∧
                                (again12673 [(AV.app 4 (ys8577.getD 0 default) (AV.mk 4 [[x0, (AV.int 1), (AV.bin Go.BinOp.rem (AV.bin Go.BinOp.add (ys4481.getD 0 default) (AV.bin Go.BinOp.mul (AV.int 171) (ys5569.getD 0 default))) (AV.int 4096)), (AV.lit (Value.string ⟨#[]⟩))]]))]))))) ∧
                              ((isF (ys4481.getD 2 default)) →
                                (again12673 [(ys8577.getD 0 default)]))))) (fun ys12673 =>
                              ((AV.binOk Go.BinOp.add (ys4481.getD 0 default) (AV.int 4096)) ∧
                              ((AV.binOk Go.BinOp.mul (AV.int 171) (ys5569.getD 0 default)) ∧
                              ((AV.binOk Go.BinOp.sub (AV.bin Go.BinOp.add (ys4481.getD 0 default) (AV.int 4096)) (AV.bin Go.BinOp.mul (AV.int 171) (ys5569.getD 0 default))) ∧
                              ((AV.binOk Go.BinOp.rem (AV.bin Go.BinOp.sub (AV.bin Go.BinOp.add (ys4481.getD 0 default) (AV.int 4096)) (AV.bin Go.BinOp.mul (AV.int 171) (ys5569.getD 0 default))) (AV.int 4096)) ∧
                              ((fEnt Tryz.prog 12) ∧
                              (fAllV fun _ => (fJoin 13377 [(ys12673.getD 0 default)] (fun again13377 =>
                                ((AV.isBool (ys4481.getD 2 default)) ∧
                                (((isT (ys4481.getD 2 default)) →
                                  ((AV.isOne x0) ∧
                                  ((AV.isOne (AV.bin Go.BinOp.rem (AV.bin Go.BinOp.sub (AV.bin Go.BinOp.add (ys4481.getD 0 default) (AV.int 4096)) (AV.bin Go.BinOp.mul (AV.int 171) (ys5569.getD 0 default))) (AV.int 4096))) ∧
                                  ((AV.room (ys12673.getD 0 default) (AV.mk 4 [[x0, (AV.int 1), (AV.bin Go.BinOp.rem (AV.bin Go.BinOp.sub (AV.bin Go.BinOp.add (ys4481.getD 0 default) (AV.int 4096)) (AV.bin Go.BinOp.mul (AV.int 171) (ys5569.getD 0 default))) (AV.int 4096)), (AV.lit (Value.string ⟨#[]⟩))]]) 48) ∧
                                  (again13377 [(AV.app 4 (ys12673.getD 0 default) (AV.mk 4 [[x0, (AV.int 1), (AV.bin Go.BinOp.rem (AV.bin Go.BinOp.sub (AV.bin Go.BinOp.add (ys4481.getD 0 default) (AV.int 4096)) (AV.bin Go.BinOp.mul (AV.int 171) (ys5569.getD 0 default))) (AV.int 4096)), (AV.lit (Value.string ⟨#[]⟩))]]))]))))) ∧
                                ((isF (ys4481.getD 2 default)) →
                                  (again13377 [(ys12673.getD 0 default)]))))) (fun ys13377 =>
                                ((AV.binOk Go.BinOp.add (ys5569.getD 0 default) (AV.int 1)) ∧
                                (again5569 [(AV.bin Go.BinOp.add (ys5569.getD 0 default) (AV.int 1)), (ys13377.getD 0 default)]))))))))))))))))))))))))))))))))))))))))))))))))))))))))))))) ∧
                    ((isF (AV.bin Go.BinOp.geq (AV.cel (AV.prj r3585 0) 3) (AV.bin Go.BinOp.mul (AV.int 1000) (ys5569.getD 0 default)))) →
                      ((AV.isBool (AV.bin Go.BinOp.geq (AV.cel (AV.prj r3585 0) 3) (AV.bin Go.BinOp.mul (AV.int 1000) (ys5569.getD 0 default)))) ∧
                      ((isF (AV.bin Go.BinOp.geq (AV.cel (AV.prj r3585 0) 3) (AV.bin Go.BinOp.mul (AV.int 1000) (ys5569.getD 0 default)))) ∧
                      ((AV.binOk Go.BinOp.mul (AV.int 1000) (ys5569.getD 0 default)) ∧
                      ((AV.binOk Go.BinOp.sub (AV.cel (AV.prj r3585 0) 3) (AV.bin Go.BinOp.mul (AV.int 1000) (ys5569.getD 0 default))) ∧
                      ((fEnt Tryz.prog 12) ∧
                      (fAllV fun _ => ((AV.isBool (ys4481.getD 2 default)) ∧
                      ((isT (ys4481.getD 2 default)) ∧
                      ((AV.binOk Go.BinOp.mul (AV.int 15) (ys5569.getD 0 default)) ∧
                      ((AV.binOk Go.BinOp.add (ys4481.getD 1 default) (AV.bin Go.BinOp.mul (AV.int 15) (ys5569.getD 0 default))) ∧
                      ((AV.binOk Go.BinOp.geq (AV.bin Go.BinOp.add (ys4481.getD 1 default) (AV.bin Go.BinOp.mul (AV.int 15) (ys5569.getD 0 default))) (AV.cel x3 5)) ∧
                      ((AV.isBool (ys4481.getD 2 default)) ∧
                      ((isT (ys4481.getD 2 default)) ∧
                      ((AV.isBool (AV.bin Go.BinOp.geq (AV.bin Go.BinOp.add (ys4481.getD 1 default) (AV.bin Go.BinOp.mul (AV.int 15) (ys5569.getD 0 default))) (AV.cel x3 5))) ∧
                      (((isT (AV.bin Go.BinOp.geq (AV.bin Go.BinOp.add (ys4481.getD 1 default) (AV.bin Go.BinOp.mul (AV.int 15) (ys5569.getD 0 default))) (AV.cel x3 5))) →
                        ((AV.binOk Go.BinOp.mul (AV.int 15) (ys5569.getD 0 default)) ∧
                        ((AV.binOk Go.BinOp.add (ys4481.getD 1 default) (AV.bin Go.BinOp.mul (AV.int 15) (ys5569.getD 0 default))) ∧
                        ((AV.binOk Go.BinOp.leq (AV.bin Go.BinOp.add (ys4481.getD 1 default) (AV.bin Go.BinOp.mul (AV.int 15) (ys5569.getD 0 default))) (AV.cel x3 6)) ∧
                        ((AV.isBool (AV.bin Go.BinOp.geq (AV.bin Go.BinOp.add (ys4481.getD 1 default) (AV.bin Go.BinOp.mul (AV.int 15) (ys5569.getD 0 default))) (AV.cel x3 5))) ∧
                        ((isT (AV.bin Go.BinOp.geq (AV.bin Go.BinOp.add (ys4481.getD 1 default) (AV.bin Go.BinOp.mul (AV.int 15) (ys5569.getD 0 default))) (AV.cel x3 5))) ∧
                        ((AV.binOk Go.BinOp.mul (AV.int 15) (ys5569.getD 0 default)) ∧
                        ((AV.binOk Go.BinOp.add (ys4481.getD 1 default) (AV.bin Go.BinOp.mul (AV.int 15) (ys5569.getD 0 default))) ∧
                        ((fEnt Tryz.prog 12) ∧
                        (fAllV fun _ => (fJoin 10305 [(ys6849.getD 0 default)] (fun again10305 =>
                          ((AV.isBool (AV.bin Go.BinOp.leq (AV.bin Go.BinOp.add (ys4481.getD 1 default) (AV.bin Go.BinOp.mul (AV.int 15) (ys5569.getD 0 default))) (AV.cel x3 6))) ∧
                          (((isT (AV.bin Go.BinOp.leq (AV.bin Go.BinOp.add (ys4481.getD 1 default) (AV.bin Go.BinOp.mul (AV.int 15) (ys5569.getD 0 default))) (AV.cel x3 6))) →
                            ((AV.isOne x0) ∧
                            ((AV.isOne (AV.bin Go.BinOp.add (ys4481.getD 1 default) (AV.bin Go.BinOp.mul (AV.int 15) (ys5569.getD 0 default)))) ∧
                            ((AV.room (ys6849.getD 0 default) (AV.mk 4 [[x0, (AV.int 2), (AV.bin Go.BinOp.add (ys4481.getD 1 default) (AV.bin Go.BinOp.mul (AV.int 15) (ys5569.getD 0 default))), (AV.lit (Value.string ⟨#[]⟩))]]) 48) ∧
                            (again10305 [(AV.app 4 (ys6849.getD 0 default) (AV.mk 4 [[x0, (AV.int 2), (AV.bin Go.BinOp.add (ys4481.getD 1 default) (AV.bin Go.BinOp.mul (AV.int 15) (ys5569.getD 0 default))), (AV.lit (Value.string ⟨#[]⟩))]]))]))))) ∧
                          ((isF (AV.bin Go.BinOp.leq (AV.bin Go.BinOp.add (ys4481.getD 1 default) (AV.bin Go.BinOp.mul (AV.int 15) (ys5569.getD 0 default))) (AV.cel x3 6))) →
                            (again10305 [(ys6849.getD 0 default)]))))) (fun ys10305 =>
                          ((AV.isBool (ys4481.getD 2 default)) ∧
                          ((isT (ys4481.getD 2 default)) ∧
                          ((AV.binOk Go.BinOp.mul (AV.int 15) (ys5569.getD 0 default)) ∧
                          ((AV.binOk Go.BinOp.sub (ys4481.getD 1 default) (AV.bin Go.BinOp.mul (AV.int 15) (ys5569.getD 0 default))) ∧
                          ((AV.binOk Go.BinOp.geq (AV.bin Go.BinOp.sub (ys4481.getD 1 default) (AV.bin Go.BinOp.mul (AV.int 15) (ys5569.getD 0 default))) (AV.cel x3 5)) ∧
                          ((AV.isBool (ys4481.getD 2 default)) ∧
                          ((isT (ys4481.getD 2 default)) ∧
                          ((AV.isBool (AV.bin Go.BinOp.geq (AV.bin Go.BinOp.sub (ys4481.getD 1 default) (AV.bin Go.BinOp.mul (AV.int 15) (ys5569.getD 0 default))) (AV.cel x3 5))) ∧
                          (((isT (AV.bin Go.BinOp.geq (AV.bin Go.BinOp.sub (ys4481.getD 1 default) (AV.bin Go.BinOp.mul (AV.int 15) (ys5569.getD 0 default))) (AV.cel x3 5))) →
                            ((AV.binOk Go.BinOp.mul (AV.int 15) (ys5569.getD 0 default)) ∧
                            ((AV.binOk Go.BinOp.sub (ys4481.getD 1 default) (AV.bin Go.BinOp.mul (AV.int 15) (ys5569.getD 0 default))) ∧
                            ((AV.binOk Go.BinOp.leq (AV.bin Go.BinOp.sub (ys4481.getD 1 default) (AV.bin Go.BinOp.mul (AV.int 15) (ys5569.getD 0 default))) (AV.cel x3 6)) ∧
                            ((AV.isBool (AV.bin Go.BinOp.geq (AV.bin Go.BinOp.sub (ys4481.getD 1 default) (AV.bin Go.BinOp.mul (AV.int 15) (ys5569.getD 0 default))) (AV.cel x3 5))) ∧
                            ((isT (AV.bin Go.BinOp.geq (AV.bin Go.BinOp.sub (ys4481.getD 1 default) (AV.bin Go.BinOp.mul (AV.int 15) (ys5569.getD 0 default))) (AV.cel x3 5))) ∧
                            ((AV.binOk Go.BinOp.mul (AV.int 15) (ys5569.getD 0 default)) ∧
                            ((AV.binOk Go.BinOp.sub (ys4481.getD 1 default) (AV.bin Go.BinOp.mul (AV.int 15) (ys5569.getD 0 default))) ∧
                            ((fEnt Tryz.prog 12) ∧
                            (fAllV fun _ => (fJoin 12033 [(ys10305.getD 0 default)] (fun again12033 =>
                              ((AV.isBool (AV.bin Go.BinOp.leq (AV.bin Go.BinOp.sub (ys4481.getD 1 default) (AV.bin Go.BinOp.mul (AV.int 15) (ys5569.getD 0 default))) (AV.cel x3 6))) ∧
                              (((isT (AV.bin Go.BinOp.leq (AV.bin Go.BinOp.sub (ys4481.getD 1 default) (AV.bin Go.BinOp.mul (AV.int 15) (ys5569.getD 0 default))) (AV.cel x3 6))) →
                                ((AV.isOne x0) ∧
                                ((AV.isOne (AV.bin Go.BinOp.sub (ys4481.getD 1 default) (AV.bin Go.BinOp.mul (AV.int 15) (ys5569.getD 0 default)))) ∧
                                ((AV.room (ys10305.getD 0 default) (AV.mk 4 [[x0, (AV.int 2), (AV.bin Go.BinOp.sub (ys4481.getD 1 default) (AV.bin Go.BinOp.mul (AV.int 15) (ys5569.getD 0 default))), (AV.lit (Value.string ⟨#[]⟩))]]) 48) ∧
                                (again12033 [(AV.app 4 (ys10305.getD 0 default) (AV.mk 4 [[x0, (AV.int 2), (AV.bin Go.BinOp.sub (ys4481.getD 1 default) (AV.bin Go.BinOp.mul (AV.int 15) (ys5569.getD 0 default))), (AV.lit (Value.string ⟨#[]⟩))]]))]))))) ∧
                              ((isF (AV.bin Go.BinOp.leq (AV.bin Go.BinOp.sub (ys4481.getD 1 default) (AV.bin Go.BinOp.mul (AV.int 15) (ys5569.getD 0 default))) (AV.cel x3 6))) →
                                (again12033 [(ys10305.getD 0 default)]))))) (fun ys12033 =>
                              ((AV.binOk Go.BinOp.mul (AV.int 171) (ys5569.getD 0 default)) ∧
                              ((AV.binOk Go.BinOp.add (ys4481.getD 0 default) (AV.bin Go.BinOp.mul (AV.int 171) (ys5569.getD 0 default))) ∧
                              ((AV.binOk Go.BinOp.rem (AV.bin Go.BinOp.add (ys4481.getD 0 default) (AV.bin Go.BinOp.mul (AV.int 171) (ys5569.getD 0 default))) (AV.int 4096)) ∧
                              ((fEnt Tryz.prog 12) ∧
                              (fAllV fun _ => (fJoin 12673 [(ys12033.getD 0 default)] (fun again12673 =>
                                ((AV.isBool (ys4481.getD 2 default)) ∧
                                (((isT (ys4481.getD 2 default)) →
                                  ((AV.isOne x0) ∧
                                  ((AV.isOne (AV.bin Go.BinOp.rem (AV.bin Go.BinOp.add (ys4481.getD 0 default) (AV.bin Go.BinOp.mul (AV.int 171) (ys5569.getD 0 default))) (AV.int 4096))) ∧
                                  ((AV.room (ys12033.getD 0 default) (AV.mk 4 [[x0, (AV.int 1), (AV.bin Go.BinOp.rem (AV.bin Go.BinOp.add (ys4481.getD 0 default) (AV.bin Go.BinOp.mul (AV.int 171) (ys5569.getD 0 default))) (AV.int 4096)), (AV.lit (Value.string ⟨#[]⟩))]]) 48) ∧
                                  (again12673 [(AV.app 4 (ys12033.getD 0 default) (AV.mk 4 [[x0, (AV.int 1), (AV.bin Go.BinOp.rem (AV.bin Go.BinOp.add (ys4481.getD 0 default) (AV.bin Go.BinOp.mul (AV.int 171) (ys5569.getD 0 default))) (AV.int 4096)), (AV.lit (Value.string ⟨#[]⟩))]]))]))))) ∧
                                ((isF (ys4481.getD 2 default)) →
                                  (again12673 [(ys12033.getD 0 default)]))))) (fun ys12673 =>
                                ((AV.binOk Go.BinOp.add (ys4481.getD 0 default) (AV.int 4096)) ∧
                                ((AV.binOk Go.BinOp.mul (AV.int 171) (ys5569.getD 0 default)) ∧
                                ((AV.binOk Go.BinOp.sub (AV.bin Go.BinOp.add (ys4481.getD 0 default) (AV.int 4096)) (AV.bin Go.BinOp.mul (AV.int 171) (ys5569.getD 0 default))) ∧
                                ((AV.binOk Go.BinOp.rem (AV.bin Go.BinOp.sub (AV.bin Go.BinOp.add (ys4481.getD 0 default) (AV.int 4096)) (AV.bin Go.BinOp.mul (AV.int 171) (ys5569.getD 0 default))) (AV.int 4096)) ∧
                                ((fEnt Tryz.prog 12) ∧
                                (fAllV fun _ => (fJoin 13377 [(ys12673.getD 0 default)] (fun again13377 =>
                                  ((AV.isBool (ys4481.getD 2 default)) ∧
                                  (((isT (ys4481.getD 2 default)) →
                                    ((AV.isOne x0) ∧
                                    ((AV.isOne (AV.bin Go.BinOp.rem (AV.bin Go.BinOp.sub (AV.bin Go.BinOp.add (ys4481.getD 0 default) (AV.int 4096)) (AV.bin Go.BinOp.mul (AV.int 171) (ys5569.getD 0 default))) (AV.int 4096))) ∧
                                    ((AV.room (ys12673.getD 0 default) (AV.mk 4 [[x0, (AV.int 1), (AV.bin Go.BinOp.rem (AV.bin Go.BinOp.sub (AV.bin Go.BinOp.add (ys4481.getD 0 default) (AV.int 4096)) (AV.bin Go.BinOp.mul (AV.int 171) (ys5569.getD 0 default))) (AV.int 4096)), (AV.lit (Value.string ⟨#[]⟩))]]) 48) ∧
                                    (again13377 [(AV.app 4 (ys12673.getD 0 default) (AV.mk 4 [[x0, (AV.int 1), (AV.bin Go.BinOp.rem (AV.bin Go.BinOp.sub (AV.bin Go.BinOp.add (ys4481.getD 0 default) (AV.int 4096)) (AV.bin Go.BinOp.mul (AV.int 171) (ys5569.getD 0 default))) (AV.int 4096)), (AV.lit (Value.string ⟨#[]⟩))]]))]))))) ∧
                                  ((isF (ys4481.getD 2 default)) →
                                    (again13377 [(ys12673.getD 0 default)]))))) (fun ys13377 =>
                                  ((AV.binOk Go.BinOp.add (ys5569.getD 0 default) (AV.int 1)) ∧
                                  (again5569 [(AV.bin Go.BinOp.add (ys5569.getD 0 default) (AV.int 1)), (ys13377.getD 0 default)]))))))))))))))))))))))))))))) ∧
                          ((isF (AV.bin Go.BinOp.geq (AV.bin Go.BinOp.sub (ys4481.getD 1 default) (AV.bin Go.BinOp.mul (AV.int 15) (ys5569.getD 0 default))) (AV.cel x3 5))) →
                            ((AV.isBool (AV.bin Go.BinOp.geq (AV.bin Go.BinOp.sub (ys4481.getD 1 default) (AV.bin Go.BinOp.mul (AV.int 15) (ys5569.getD 0 default))) (AV.cel x3 5))) ∧
                            ((isF (AV.bin Go.BinOp.geq (AV.bin Go.BinOp.sub (ys4481.getD 1 default) (AV.bin Go.BinOp.mul (AV.int 15) (ys5569.getD 0 default))) (AV.cel x3 5))) ∧
                            ((AV.binOk Go.BinOp.mul (AV.int 15) (ys5569.getD 0 default)) ∧
                            ((AV.binOk Go.BinOp.sub (ys4481.getD 1 default) (AV.bin Go.BinOp.mul (AV.int 15) (ys5569.getD 0 default))) ∧
                            ((fEnt Tryz.prog 12) ∧
                            (fAllV fun _ => ((AV.binOk Go.BinOp.mul (AV.int 171) (ys5569.getD 0 default)) ∧
                            ((AV.binOk Go.BinOp.add (ys4481.getD 0 default) (AV.bin Go.BinOp.mul (AV.int 171) (ys5569.getD 0 default))) ∧
                            ((AV.binOk Go.BinOp.rem (AV.bin Go.BinOp.add (ys4481.getD 0 default) (AV.bin Go.BinOp.mul (AV.int 171) (ys5569.getD 0 default))) (AV.int 4096)) ∧
                            ((fEnt Tryz.prog 12) ∧
                            (fAllV fun _ => (fJoin 12673 [(ys10305.getD 0 default)] (fun again12673 =>
                              ((AV.isBool (ys4481.getD 2 default)) ∧
                              (((isT (ys4481.getD 2 default)) →
                                ((AV.isOne x0) ∧
                                ((AV.isOne (AV.bin Go.BinOp.rem (AV.bin Go.BinOp.add (ys4481.getD 0 default) (AV.bin Go.BinOp.mul (AV.int 171) (ys5569.getD 0 default))) (AV.int 4096))) ∧
                                ((AV.room (ys10305.getD 0 default) (AV.mk 4 [[x0, (AV.int 1), (AV.bin Go.BinOp.rem (AV.bin Go.BinOp.add (ys4481.getD 0 default) (AV.bin Go.BinOp.mul (AV.int 171) (ys5569.getD 0 default))) (AV.int 4096)), (AV.lit (Value.string ⟨#[]⟩))]]) 48) ∧
                                (again12673 [(AV.app 4 (ys10305.getD 0 default) (AV.mk 4 [[x0, (AV.int 1), (AV.bin Go.BinOp.rem (AV.bin Go.BinOp.add (ys4481.getD 0 default) (AV.bin Go.BinOp.mul (AV.int 171) (ys5569.getD 0 default))) (AV.int 4096)), (AV.lit (Value.string ⟨#[]⟩))]]))]))))) ∧
                              ((isF (ys4481.getD 2 default)) →
                                (again12673 [(ys10305.getD 0 default)]))))) (fun ys12673 =>
                              ((AV.binOk Go.BinOp.add (ys4481.getD 0 default) (AV.int 4096)) ∧
                              ((AV.binOk Go.BinOp.mul (AV.int 171) (ys5569.getD 0 default)) ∧
                              ((AV.binOk Go.BinOp.sub (AV.bin Go.BinOp.add (ys4481.getD 0 default) (AV.int 4096)) (AV.bin Go.BinOp.mul (AV.int 171) (ys5569.getD 0 default))) ∧
                              ((AV.binOk Go.BinOp.rem (AV.bin Go.BinOp.sub (AV.bin Go.BinOp.add (ys4481.getD 0 default) (AV.int 4096)) (AV.bin Go.BinOp.mul (AV.int 171) (ys5569.getD 0 default))) (AV.int 4096)) ∧
                              ((fEnt Tryz.prog 12) ∧
                              (fAllV fun _ => (fJoin 13377 [(ys12673.getD 0 default)] (fun again13377 =>
                                ((AV.isBool (ys4481.getD 2 default)) ∧
                                (((isT (ys4481.getD 2 default)) →
                                  ((AV.isOne x0) ∧
                                  ((AV.isOne (AV.bin Go.BinOp.rem (AV.bin Go.BinOp.sub (AV.bin Go.BinOp.add (ys4481.getD 0 default) (AV.int 4096)) (AV.bin Go.BinOp.mul (AV.int 171) (ys5569.getD 0 default))) (AV.int 4096))) ∧
                                  ((AV.room (ys12673.getD 0 default) (AV.mk 4 [[x0, (AV.int 1), (AV.bin Go.BinOp.rem (AV.bin Go.BinOp.sub (AV.bin Go.BinOp.add (ys4481.getD 0 default) (AV.int 4096)) (AV.bin Go.BinOp.mul (AV.int 171) (ys5569.getD 0 default))) (AV.int 4096)), (AV.lit (Value.string ⟨#[]⟩))]]) 48) ∧
                                  (again13377 [(AV.app 4 (ys12673.getD 0 default) (AV.mk 4 [[x0, (AV.int 1), (AV.bin Go.BinOp.rem (AV.bin Go.BinOp.sub (AV.bin Go.BinOp.add (ys4481.getD 0 default) (AV.int 4096)) (AV.bin Go.BinOp.mul (AV.int 171) (ys5569.getD 0 default))) (AV.int 4096)), (AV.lit (Value.string ⟨#[]⟩))]]))]))))) ∧
                                ((isF (ys4481.getD 2 default)) →
                                  (again13377 [(ys12673.getD 0 default)]))))) (fun ys13377 =>
                                ((AV.binOk Go.BinOp.add (ys5569.getD 0 default) (AV.int 1)) ∧
                                (again5569 [(AV.bin Go.BinOp.add (ys5569.getD 0 default) (AV.int 1)), (ys13377.getD 0 default)]))))))))))))))))))))))))))))))))))))))))))))) ∧
                      ((isF (AV.bin Go.BinOp.geq (AV.bin Go.BinOp.add (ys4481.getD 1 default) (AV.bin Go.BinOp.mul (AV.int 15) (ys5569.getD 0 default))) (AV.cel x3 5))) →
                        ((AV.isBool (AV.bin Go.BinOp.geq (AV.bin Go.BinOp.add (ys4481.getD 1 default) (AV.bin Go.BinOp.mul (AV.int 15) (ys5569.getD 0 default))) (AV.cel x3 5))) ∧
                        ((isF (AV.bin Go.BinOp.geq (AV.bin Go.BinOp.add (ys4481.getD 1 default) (AV.bin Go.BinOp.mul (AV.int 15) (ys5569.getD 0 default))) (AV.cel x3 5))) ∧
                        ((AV.binOk Go.BinOp.mul (AV.int 15) (ys5569.getD 0 default)) ∧
                        ((AV.binOk Go.BinOp.add (ys4481.getD 1 default) (AV.bin Go.BinOp.mul (AV.int 15) (ys5569.getD 0 default))) ∧
                        ((fEnt Tryz.prog 12) ∧
                        (fAllV fun _ => ((AV.isBool (ys4481.getD 2 default)) ∧
                        ((isT (ys4481.getD 2 default)) ∧
                        ((AV.binOk Go.BinOp.mul (AV.int 15) (ys5569.getD 0 default)) ∧
                        ((AV.binOk Go.BinOp.sub (ys4481.getD 1 default) (AV.bin Go.BinOp.mul (AV.int 15) (ys5569.getD 0 default))) ∧
                        ((AV.binOk Go.BinOp.geq (AV.bin Go.BinOp.sub (ys4481.getD 1 default) (AV.bin Go.BinOp.mul (AV.int 15) (ys5569.getD 0 default))) (AV.cel x3 5)) ∧
                        ((AV.isBool (ys4481.getD 2 default)) ∧
                        ((isT (ys4481.getD 2 default)) ∧
                        ((AV.isBool (AV.bin Go.BinOp.geq (AV.bin Go.BinOp.sub (ys4481.getD 1 default) (AV.bin Go.BinOp.mul (AV.int 15) (ys5569.getD 0 default))) (AV.cel x3 5))) ∧
                        (((isT (AV.bin Go.BinOp.geq (AV.bin Go.BinOp.sub (ys4481.getD 1 default) (AV.bin Go.BinOp.mul (AV.int 15) (ys5569.getD 0 default))) (AV.cel x3 5))) →
                          ((AV.binOk Go.BinOp.mul (AV.int 15) (ys5569.getD 0 default)) ∧
                          ((AV.binOk Go.BinOp.sub (ys4481.getD 1 default) (AV.bin Go.BinOp.mul (AV.int 15) (ys5569.getD 0 default))) ∧
                          ((AV.binOk Go.BinOp.leq (AV.bin Go.BinOp.sub (ys4481.getD 1 default) (AV.bin Go.BinOp.mul (AV.int 15) (ys5569.getD 0 default))) (AV.cel x3 6)) ∧
                          ((AV.isBool (AV.bin Go.BinOp.geq (AV.bin Go.BinOp.sub (ys4481.getD 1 default) (AV.bin Go.BinOp.mul (AV.int 15) (ys5569.getD 0 default))) (AV.cel x3 5))) ∧
                          ((isT (AV.bin Go.BinOp.geq (AV.bin Go.BinOp.sub (ys4481.getD 1 default) (AV.bin Go.BinOp.mul (AV.int 15) (ys5569.getD 0 default))) (AV.cel x3 5))) ∧
                          ((AV.binOk Go.BinOp.mul (AV.int 15) (ys5569.getD 0 default)) ∧
                          ((AV.binOk Go.BinOp.sub (ys4481.getD 1 default) (AV.bin Go.BinOp.mul (AV.int 15) (ys5569.getD 0 default))) ∧
                          ((fEnt Tryz.prog 12) ∧
                          (fAllV fun _ => (fJoin 12033 [(ys6849.getD 0 default)] (fun again12033 =>
                            ((AV.isBool (AV.bin Go.BinOp.leq (AV.bin Go.BinOp.sub (ys4481.getD 1 default) (AV.bin Go.BinOp.mul (AV.int 15) (ys5569.getD 0 default))) (AV.cel x3 6))) ∧
                            (((isT (AV.bin Go.BinOp.leq (AV.bin Go.BinOp.sub (ys4481.getD 1 default) (AV.bin Go.BinOp.mul (AV.int 15) (ys5569.getD 0 default))) (AV.cel x3 6))) →
                              ((AV.isOne x0) ∧
                              ((AV.isOne (AV.bin Go.BinOp.sub (ys4481.getD 1 default) (AV.bin Go.BinOp.mul (AV.int 15) (ys5569.getD 0 default)))) ∧
                              ((AV.room (ys6849.getD 0 default) (AV.mk 4 [[x0, (AV.int 2), (AV.bin Go.BinOp.sub (ys4481.getD 1 default) (AV.bin Go.BinOp.mul (AV.int 15) (ys5569.getD 0 default))), (AV.lit (Value.string ⟨#[]⟩))]]) 48) ∧
                              (again12033 [(AV.app 4 (ys6849.getD 0 default) (AV.mk 4 [[x0, (AV.int 2), (AV.bin Go.BinOp.sub (ys4481.getD 1 default) (AV.bin Go.BinOp.mul (AV.int 15) (ys5569.getD 0 default))), (AV.lit (Value.string ⟨#[]⟩))]]))]))))) ∧
                            ((isF (AV.bin Go.BinOp.leq (AV.bin Go.BinOp.sub (ys4481.getD 1 default) (AV.bin Go.BinOp.mul (AV.int 15) (ys5569.getD 0 default))) (AV.cel x3 6))) →
                              (again12033 [(ys6849.getD 0 default)]))))) (fun ys12033 =>
                            ((AV.binOk Go.BinOp.mul (AV.int 171) (ys5569.getD 0 default)) ∧
                            ((AV.binOk Go.BinOp.add (ys4481.getD 0 default) (AV.bin Go.BinOp.mul (AV.int 171) (ys5569.getD 0 default))) ∧
                            ((AV.binOk Go.BinOp.rem (AV.bin Go.BinOp.add (ys4481.getD 0 default) (AV.bin Go.BinOp.mul (AV.int 171) (ys5569.getD 0 default))) (AV.int 4096)) ∧
                            ((fEnt Tryz.prog 12) ∧
                            (fAllV fun _ => (fJoin 12673 [(ys12033.getD 0 default)] (fun again12673 =>
                              ((AV.isBool (ys4481.getD 2 default)) ∧
                              (((isT (ys4481.getD 2 default)) →
                                ((AV.isOne x0) ∧
                                ((AV.isOne (AV.bin Go.BinOp.rem (AV.bin Go.BinOp.add (ys4481.getD 0 default) (AV.bin Go.BinOp.mul (AV.int 171) (ys5569.getD 0 default))) (AV.int 4096))) ∧
                                ((AV.room (ys12033.getD 0 default) (AV.mk 4 [[x0, (AV.int 1), (AV.bin Go.BinOp.rem (AV.bin Go.BinOp.add (ys4481.getD 0 default) (AV.bin Go.BinOp.mul (AV.int 171) (ys5569.getD 0 default))) (AV.int 4096)), (AV.lit (Value.string ⟨#[]⟩))]]) 48) ∧
                                (again12673 [(AV.app 4 (ys12033.getD 0 default) (AV.mk 4 [[x0, (AV.int 1), (AV.bin Go.BinOp.rem (AV.bin Go.BinOp.add (ys4481.getD 0 default) (AV.bin Go.BinOp.mul (AV.int 171) (ys5569.getD 0 default))) (AV.int 4096)), (AV.lit (Value.string ⟨#[]⟩))]]))]))))) ∧
                              ((isF (ys4481.getD 2 default)) →
                                (again12673 [(ys12033.getD 0 default)]))))) (fun ys12673 =>
                              ((AV.binOk Go.BinOp.add (ys4481.getD 0 default) (AV.int 4096)) ∧
                              ((AV.binOk Go.BinOp.mul (AV.int 171) (ys5569.getD 0 default)) ∧
                              ((AV.binOk Go.BinOp.sub (AV.bin Go.BinOp.add (ys4481.getD 0 default) (AV.int 4096)) (AV.bin Go.BinOp.mul (AV.int 171) (ys5569.getD 0 default))) ∧
                              ((AV.binOk Go.BinOp.rem (AV.bin Go.BinOp.sub (AV.bin Go.BinOp.add (ys4481.getD 0 default) (AV.int 4096)) (AV.bin Go.BinOp.mul (AV.int 171) (ys5569.getD 0 default))) (AV.int 4096)) ∧
                              ((fEnt Tryz.prog 12) ∧
                              (fAllV fun _ => (fJoin 13377 [(ys12673.getD 0 default)] (fun again13377 =>
                                ((AV.isBool (ys4481.getD 2 default)) ∧
                                (((isT (ys4481.getD 2 default)) →
                                  ((AV.isOne x0) ∧
                                  ((AV.isOne (AV.bin Go.BinOp.rem (AV.bin Go.BinOp.sub (AV.bin Go.BinOp.add (ys4481.getD 0 default) (AV.int 4096)) (AV.bin Go.BinOp.mul (AV.int 171) (ys5569.getD 0 default))) (AV.int 4096))) ∧
                                  ((AV.room (ys12673.getD 0 default) (AV.mk 4 [[x0, (AV.int 1), (AV.bin Go.BinOp.rem (AV.bin Go.BinOp.sub (AV.bin Go.BinOp.add (ys4481.getD 0 default) (AV.int 4096)) (AV.bin Go.BinOp.mul (AV.int 171) (ys5569.getD 0 default))) (AV.int 4096)), (AV.lit (Value.string ⟨#[]⟩))]]) 48) ∧
                                  (again13377 [(AV.app 4 (ys12673.getD 0 default) (AV.mk 4 [[x0, (AV.int 1), (AV.bin Go.BinOp.rem (AV.bin Go.BinOp.sub (AV.bin Go.BinOp.add (ys4481.getD 0 default) (AV.int 4096)) (AV.bin Go.BinOp.mul (AV.int 171) (ys5569.getD 0 default))) (AV.int 4096)), (AV.lit (Value.string ⟨#[]⟩))]]))]))))) ∧
                                ((isF (ys4481.getD 2 default)) →
                                  (again13377 [(ys12673.getD 0 default)]))))) (fun ys13377 =>
                                ((AV.binOk Go.BinOp.add (ys5569.getD 0 default) (AV.int 1)) ∧
                                (again5569 [(AV.bin Go.BinOp.add (ys5569.getD 0 default) (AV.int 1)), (ys13377.getD 0 default)]))))))))))))))))))))))))))))) ∧
                        ((isF (AV.bin Go.BinOp.geq (AV.bin Go.BinOp.sub (ys4481.getD 1 default) (AV.bin Go.BinOp.mul (AV.int 15) (ys5569.getD 0 default))) (AV.cel x3 5))) →
                          ((AV.isBool (AV.bin Go.BinOp.geq (AV.bin Go.BinOp.sub (ys4481.getD 1 default) (AV.bin Go.BinOp.mul (AV.int 15) (ys5569.getD 0 default))) (AV.cel x3 5))) ∧
                          ((isF (AV.bin Go.BinOp.geq (AV.bin Go.BinOp.sub (ys4481.getD 1 default) (AV.bin Go.BinOp.mul (AV.int 15) (ys5569.getD 0 default))) (AV.cel x3 5))) ∧
                          ((AV.binOk Go.BinOp.mul (AV.int 15) (ys5569.getD 0 default)) ∧
                          ((AV.binOk Go.BinOp.sub (ys4481.getD 1 default) (AV.bin Go.BinOp.mul (AV.int 15) (ys5569.getD 0 default))) ∧
                          ((fEnt Tryz.prog 12) ∧
                          (fAllV fun _ => ((AV.binOk Go.BinOp.mul (AV.int 171) (ys5569.getD 0 default)) ∧
                          ((AV.binOk Go.BinOp.add (ys4481.getD 0 default) (AV.bin Go.BinOp.mul (AV.int 171) (ys5569.getD 0 default))) ∧
                          ((AV.binOk Go.BinOp.rem (AV.bin Go.BinOp.add (ys4481.getD 0 default) (AV.bin Go.BinOp.mul (AV.int 171) (ys5569.getD 0 default))) (AV.int 4096)) ∧
                          ((fEnt Tryz.prog 12) ∧
                          (fAllV fun _ => (fJoin 12673 [(ys6849.getD 0 default)] (fun again12673 =>
                            ((AV.isBool (ys4481.getD 2 default)) ∧
                            (((isT (ys4481.getD 2 default)) →
                              ((AV.isOne x0) ∧
                              ((AV.isOne (AV.bin Go.BinOp.rem (AV.bin Go.BinOp.add (ys4481.getD 0 default) (AV.bin Go.BinOp.mul (AV.int 171) (ys5569.getD 0 default))) (AV.int 4096))) ∧
                              ((AV.room (ys6849.getD 0 default) (AV.mk 4 [[x0, (AV.int 1), (AV.bin Go.BinOp.rem (AV.bin Go.BinOp.add (ys4481.getD 0 default) (AV.bin Go.BinOp.mul (AV.int 171) (ys5569.getD 0 default))) (AV.int 4096)), (AV.lit (Value.string ⟨#[]⟩))]]) 48) ∧
                              (again12673 [(AV.app 4 (ys6849.getD 0 default) (AV.mk 4 [[x0, (AV.int 1), (AV.bin Go.BinOp.rem (AV.bin Go.BinOp.add (ys4481.getD 0 default) (AV.bin Go.BinOp.mul (AV.int 171) (ys5569.getD 0 default))) (AV.int 4096)), (AV.lit (Value.string ⟨#[]⟩))]]))]))))) ∧
                            ((isF (ys4481.getD 2 default)) →
                              (again12673 [(ys6849.getD 0 default)]))))) (fun ys12673 =>
                            ((AV.binOk Go.BinOp.add (ys4481.getD 0 default) (AV.int 4096)) ∧
                            ((AV.binOk Go.BinOp.mul (AV.int 171) (ys5569.getD 0 default)) ∧
                            ((AV.binOk Go.BinOp.sub (AV.bin Go.BinOp.add (ys4481.getD 0 default) (AV.int 4096)) (AV.bin Go.BinOp.mul (AV.int 171) (ys5569.getD 0 default))) ∧
                            ((AV.binOk Go.BinOp.rem (AV.bin Go.BinOp.sub (AV.bin Go.BinOp.add (ys4481.getD 0 default) (AV.int 4096)) (AV.bin Go.BinOp.mul (AV.int 171) (ys5569.getD 0 default))) (AV.int 4096)) ∧
                            ((fEnt Tryz.prog 12) ∧
                            (fAllV fun _ => (fJoin 13377 [(ys12673.getD 0 default)] (fun again13377 =>
                              ((AV.isBool (ys4481.getD 2 default)) ∧
                              (((isT (ys4481.getD 2 default)) →
                                ((AV.isOne x0) ∧
                                ((AV.isOne (AV.bin Go.BinOp.rem (AV.bin Go.BinOp.sub (AV.bin Go.BinOp.add (ys4481.getD 0 default) (AV.int 4096)) (AV.bin Go.BinOp.mul (AV.int 171) (ys5569.getD 0 default))) (AV.int 4096))) ∧
                                ((AV.room (ys12673.getD 0 default) (AV.mk 4 [[x0, (AV.int 1), (AV.bin Go.BinOp.rem (AV.bin Go.BinOp.sub (AV.bin Go.BinOp.add (ys4481.getD 0 default) (AV.int 4096)) (AV.bin Go.BinOp.mul (AV.int 171) (ys5569.getD 0 default))) (AV.int 4096)), (AV.lit (Value.string ⟨#[]⟩))]]) 48) ∧
                                (again13377 [(AV.app 4 (ys12673.getD 0 default) (AV.mk 4 [[x0, (AV.int 1), (AV.bin Go.BinOp.rem (AV.bin Go.BinOp.sub (AV.bin Go.BinOp.add (ys4481.getD 0 default) (AV.int 4096)) (AV.bin Go.BinOp.mul (AV.int 171) (ys5569.getD 0 default))) (AV.int 4096)), (AV.lit (Value.string ⟨#[]⟩))]]))]))))) ∧
                              ((isF (ys4481.getD 2 default)) →
                                (again13377 [(ys12673.getD 0 default)]))))) (fun ys13377 =>
                              ((AV.binOk Go.BinOp.add (ys5569.getD 0 default) (AV.int 1)) ∧
                              (again5569 [(AV.bin Go.BinOp.add (ys5569.getD 0 default) (AV.int 1)), (ys13377.getD 0 default)])))))))))))))))))))))))))))))))))))))))))))))))))))))))))))))))))))))) ∧
                ((isF (AV.bin Go.BinOp.lss (ys5569.getD 0 default) (AV.int 4))) →
                  ((AV.binOk Go.BinOp.eql (AV.prj r577 1) (AV.int 0)) ∧
                  ((AV.isBool (AV.bin Go.BinOp.eql (AV.prj r577 1) (AV.int 0))) ∧
                  ((isT (AV.bin Go.BinOp.eql (AV.prj r577 1) (AV.int 0))) ∧
                  (∃ r6017 : AV, ((Fn Tryz.prog 13 [(AV.prj r577 0), (ys5569.getD 1 default)] Sh.sc r6017) ∧
                  ((AV.isBool (AV.bin Go.BinOp.eql (AV.prj r577 1) (AV.int 0))) ∧
                  ((isT (AV.bin Go.BinOp.eql (AV.prj r577 1) (AV.int 0))) ∧
                  ((AV.flat r6017) ∧
                  (fSame r6017 r)))))))))))))))))))))))))))))))))))))))))))))))))))))))))))) ∧
  ((isF (AV.bin Go.BinOp.eql r1345 (AV.int 0))) →
    ((AV.isBool (AV.bin Go.BinOp.eql r1345 (AV.int 0))) ∧
    ((isF (AV.bin Go.BinOp.eql r1345 (AV.int 0))) ∧
    ((AV.binOk Go.BinOp.eql r1345 (AV.int 0)) ∧
    ((AV.isBool (AV.bin Go.BinOp.eql r1345 (AV.int 0))) ∧
    ((isF (AV.bin Go.BinOp.eql r1345 (AV.int 0))) ∧
    ((AV.binOk Go.BinOp.neq r1345 (AV.int 0)) ∧
    ((AV.isBool (AV.bin Go.BinOp.neq r1345 (AV.int 0))) ∧
    ((isT (AV.bin Go.BinOp.neq r1345 (AV.int 0))) ∧
    ((AV.binOk Go.BinOp.eql (AV.prj r577 1) r1345) ∧
    ((AV.isBool (AV.bin Go.BinOp.eql (AV.prj r577 1) r1345)) ∧
    ((isT (AV.bin Go.BinOp.eql (AV.prj r577 1) r1345)) ∧
    ((AV.binOk Go.BinOp.eql (AV.len (AV.prj r577 0)) (AV.int 0)) ∧
    ((AV.isBool (AV.bin Go.BinOp.eql (AV.prj r577 1) r1345)) ∧
    ((isT (AV.bin Go.BinOp.eql (AV.prj r577 1) r1345)) ∧
    ((AV.flat (AV.bin Go.BinOp.eql (AV.len (AV.prj r577 0)) (AV.int 0))) ∧
    (fSame (AV.bin Go.BinOp.eql (AV.len (AV.prj r577 0)) (AV.int 0)) r))))))))))))))))))))))) ∧
((isF (AV.bin Go.BinOp.eql r1025 (AV.int 0))) →
  ((AV.binOk Go.BinOp.eql r1025 (AV.int 0)) ∧
  ((AV.isBool (AV.bin Go.BinOp.eql r1025 (AV.int 0))) ∧
  ((isF (AV.bin Go.BinOp.eql r1025 (AV.int 0))) ∧
  ((AV.isBool (AV.bin Go.BinOp.eql r1025 (AV.int 0))) ∧
  ((isF (AV.bin Go.BinOp.eql r1025 (AV.int 0))) ∧
  ((AV.binOk Go.BinOp.eql r1025 (AV.int 0)) ∧
  ((AV.isBool (AV.bin Go.BinOp.eql r1025 (AV.int 0))) ∧
  ((isF (AV.bin Go.BinOp.eql r1025 (AV.int 0))) ∧
  ((AV.binOk Go.BinOp.neq r1025 (AV.int 0)) ∧
  ((AV.isBool (AV.bin Go.BinOp.neq r1025 (AV.int 0))) ∧
  ((isT (AV.bin Go.BinOp.neq r1025 (AV.int 0))) ∧
  ((AV.binOk Go.BinOp.eql (AV.prj r577 1) r1025) ∧
  ((AV.isBool (AV.bin Go.BinOp.eql (AV.prj r577 1) r1025)) ∧
  ((isT (AV.bin Go.BinOp.eql (AV.prj r577 1) r1025)) ∧
  ((AV.binOk Go.BinOp.eql (AV.len (AV.prj r577 0)) (AV.int 0)) ∧
  ((AV.isBool (AV.bin Go.BinOp.eql (AV.prj r577 1) r1025)) ∧
  ((isT (AV.bin Go.BinOp.eql (AV.prj r577 1) r1025)) ∧
  ((AV.flat (AV.bin Go.BinOp.eql (AV.len (AV.prj r577 0)) (AV.int 0))) ∧
  (fSame (AV.bin Go.BinOp.eql (AV.len (AV.prj r577 0)) (AV.int 0)) r))))))))))))))))))))))))))))))))))) := by kernel_rfl
end RlT
end Go.Proofs.YtacfofpbbempaaaGreatDoor
/- The law ResolveLists: what the run ends in. -/
namespace Go.Proofs.YtacfofpbbempaaaGreatDoor
open Go.RowKit
set_option linter.unusedVariables false
set_option maxRecDepth 100000
namespace RlU
--GAMMA
def Γ : FuncId → Option Ca := fun f =>
  if f = 6 ∨ f = 7 ∨ f = 21 ∨ f = 8 ∨ f = 24 ∨ f = 4 ∨ f = 13 then some (.fn .sc)
  else if f = 10 ∨ f = 11 then some (.fn (.tup [.sc, .sc]))
  else if f = 9 then some (.fn (.tup [.sc, .sc]))
  else if f = 5 then some (.fn (.tup [.row 41 4 true, .sc]))
  else some .inl
def ann : FuncId → Nat → LoopEx := fun f r =>
  if f = 3 ∧ r = 24 then ⟨[], [5505], [], [(5249, 0, 41, 4)]⟩
  else if f = 12 then ⟨[], [5505], [], []⟩
  else ⟨[], [], [], []⟩
--END GAMMA
theorem listsF_form (x0 x1 x2 x3 r : AV) : fnF Tryz.prog Γ ann 3 3 Tryz.f3 (Tryz.f3.body.getD .skip) ((.f (.both (.both (.both (.t .nil) (.both (.t .nil) (.t (.both (.t .nil) (.t (.both .nil (.both (.both (.f (.f .nil)) (.f (.f .nil))) (.t .nil)))))))) (.f (.t (.t .nil)))) (.f (.f (.t (.t .nil))))))) [x0, x1, x2, x3] (.sc) r = (((AV.isOne x0) ∧
((AV.isAgg x3 7) ∧
(∃ r193 : AV, ((Fn Tryz.prog 4 [] Sh.sc r193) ∧
((AV.unOk Go.UnOp.not r193) ∧
((AV.isBool (AV.un Go.UnOp.not r193)) ∧
((isF (AV.un Go.UnOp.not r193)) ∧
(∃ r577 : AV, ((Fn Tryz.prog 5 [x0, x1, x2, (AV.agg [(AV.cel x3 0), (AV.cel x3 1), (AV.cel x3 2), (AV.cel x3 3), (AV.cel x3 4), (AV.cel x3 5), (AV.cel x3 6)])] (Sh.tup [(Sh.row 41 4 true), Sh.sc]) r577) ∧
(∃ r1025 : AV, ((Fn Tryz.prog 6 [x1] Sh.sc r1025) ∧
((AV.binOk Go.BinOp.eql r1025 (AV.int 0)) ∧
((AV.isBool (AV.bin Go.BinOp.eql r1025 (AV.int 0))) ∧
(((isT (AV.bin Go.BinOp.eql r1025 (AV.int 0))) →
  (∃ r1345 : AV, ((Fn Tryz.prog 7 [(AV.agg [(AV.cel x3 0), (AV.cel x3 1), (AV.cel x3 2), (AV.cel x3 3), (AV.cel x3 4), (AV.cel x3 5), (AV.cel x3 6)])] Sh.sc r1345) ∧
  ((AV.binOk Go.BinOp.eql r1345 (AV.int 0)) ∧
  ((AV.isBool (AV.bin Go.BinOp.eql r1345 (AV.int 0))) ∧
  (((isT (AV.bin Go.BinOp.eql r1345 (AV.int 0))) →
    ((AV.isSl x1 6) ∧
    ((AV.inb x1 (AV.int 0)) ∧
    ((AV.binOk Go.BinOp.lss x2 (AV.at x1 (AV.int 0) 0)) ∧
    ((AV.isBool (AV.bin Go.BinOp.lss x2 (AV.at x1 (AV.int 0) 0))) ∧
    (((isT (AV.bin Go.BinOp.lss x2 (AV.at x1 (AV.int 0) 0))) →
      ((AV.isBool (AV.bin Go.BinOp.lss x2 (AV.at x1 (AV.int 0) 0))) ∧
      ((isT (AV.bin Go.BinOp.lss x2 (AV.at x1 (AV.int 0) 0))) ∧
      ((AV.isBool (AV.bin Go.BinOp.eql r1345 (AV.int 0))) ∧
      ((isT (AV.bin Go.BinOp.eql r1345 (AV.int 0))) ∧
      ((AV.binOk Go.BinOp.eql (AV.prj r577 1) (AV.int 12)) ∧
      ((AV.isBool (AV.bin Go.BinOp.eql (AV.prj r577 1) (AV.int 12))) ∧
      ((isT (AV.bin Go.BinOp.eql (AV.prj r577 1) (AV.int 12))) ∧
      ((AV.binOk Go.BinOp.eql (AV.len (AV.prj r577 0)) (AV.int 0)) ∧
      ((AV.isBool (AV.bin Go.BinOp.eql (AV.prj r577 1) (AV.int 12))) ∧
      ((isT (AV.bin Go.BinOp.eql (AV.prj r577 1) (AV.int 12))) ∧
      ((AV.flat (AV.bin Go.BinOp.eql (AV.len (AV.prj r577 0)) (AV.int 0))) ∧
      (fSame (AV.bin Go.BinOp.eql (AV.len (AV.prj r577 0)) (AV.int 0)) r))))))))))))) ∧
    ((isF (AV.bin Go.BinOp.lss x2 (AV.at x1 (AV.int 0) 0))) →
      ((AV.isSl x1 6) ∧
      ((AV.binOk Go.BinOp.sub (AV.len x1) (AV.int 1)) ∧
      ((AV.isSl x1 6) ∧
      ((AV.inb x1 (AV.bin Go.BinOp.sub (AV.len x1) (AV.int 1))) ∧
      ((AV.binOk Go.BinOp.gtr x2 (AV.at x1 (AV.bin Go.BinOp.sub (AV.len x1) (AV.int 1)) 0)) ∧
      ((AV.isBool (AV.bin Go.BinOp.lss x2 (AV.at x1 (AV.int 0) 0))) ∧
      ((isF (AV.bin Go.BinOp.lss x2 (AV.at x1 (AV.int 0) 0))) ∧
      ((AV.isBool (AV.bin Go.BinOp.eql r1345 (AV.int 0))) ∧
      ((isT (AV.bin Go.BinOp.eql r1345 (AV.int 0))) ∧
      ((AV.isBool (AV.bin Go.BinOp.gtr x2 (AV.at x1 (AV.bin Go.BinOp.sub (AV.len x1) (AV.int 1)) 0))) ∧
      (((isT (AV.bin Go.BinOp.gtr x2 (AV.at x1 (AV.bin Go.BinOp.sub (AV.len x1) (AV.int 1)) 0))) →
        ((AV.binOk Go.BinOp.eql (AV.prj r577 1) (AV.int 12)) ∧
        ((AV.isBool (AV.bin Go.BinOp.eql (AV.prj r577 1) (AV.int 12))) ∧
        ((isT (AV.bin Go.BinOp.eql (AV.prj r577 1) (AV.int 12))) ∧
        ((AV.binOk Go.BinOp.eql (AV.len (AV.prj r577 0)) (AV.int 0)) ∧
        ((AV.isBool (AV.bin Go.BinOp.eql (AV.prj r577 1) (AV.int 12))) ∧
        ((isT (AV.bin Go.BinOp.eql (AV.prj r577 1) (AV.int 12))) ∧
        ((AV.flat (AV.bin Go.BinOp.eql (AV.len (AV.prj r577 0)) (AV.int 0))) ∧
        (fSame (AV.bin Go.BinOp.eql (AV.len (AV.prj r577 0)) (AV.int 0)) r))))))))) ∧
      ((isF (AV.bin Go.BinOp.gtr x2 (AV.at x1 (AV.bin Go.BinOp.sub (AV.len x1) (AV.int 1)) 0))) →
        ((AV.binOk Go.BinOp.eql r1345 (AV.int 0)) ∧
        ((AV.isBool (AV.bin Go.BinOp.eql r1345 (AV.int 0))) ∧
        ((isT (AV.bin Go.BinOp.eql r1345 (AV.int 0))) ∧
        ((AV.isOne x0) ∧
        (∃ r3201 : AV, ((Fn Tryz.prog 8 [(AV.agg [x0, (AV.int 0), (AV.int 0), (AV.lit (Value.string ⟨#[]⟩))])] Sh.sc r3201) ∧
        ((AV.binOk Go.BinOp.neq r3201 (AV.int 0)) ∧
        ((AV.isBool (AV.bin Go.BinOp.neq r3201 (AV.int 0))) ∧
        (((isT (AV.bin Go.BinOp.neq r3201 (AV.int 0))) →
          ((AV.binOk Go.BinOp.eql (AV.prj r577 1) r3201) ∧
          ((AV.isBool (AV.bin Go.BinOp.eql (AV.prj r577 1) r3201)) ∧
          ((isT (AV.bin Go.BinOp.eql (AV.prj r577 1) r3201)) ∧
          ((AV.binOk Go.BinOp.eql (AV.len (AV.prj r577 0)) (AV.int 0)) ∧
          ((AV.isBool (AV.bin Go.BinOp.eql (AV.prj r577 1) r3201)) ∧
          ((isT (AV.bin Go.BinOp.eql (AV.prj r577 1) r3201)) ∧
          ((AV.flat (AV.bin Go.BinOp.eql (AV.len (AV.prj r577 0)) (AV.int 0))) ∧
          (fSame (AV.bin Go.BinOp.eql (AV.len (AV.prj r577 0)) (AV.int 0)) r))))))))) ∧
        ((isF (AV.bin Go.BinOp.neq r3201 (AV.int 0))) →
          (∃ r3585 : AV, ((Fn Tryz.prog 9 [x1, x2] (Sh.tup [Sh.sc, Sh.sc]) r3585) ∧
          ((AV.isAgg (AV.prj r3585 0) 6) ∧
          ((AV.isSl x1 6) ∧
          ((AV.binOk Go.BinOp.sub (AV.len x1) (AV.int 1)) ∧
          (fLoop 4481 [(AV.int 0), (AV.int 0), (AV.bool false), (AV.bin Go.BinOp.sub (AV.len x1) (AV.int 1))] fun ys4481 again4481 =>
            ((AV.binOk Go.BinOp.geq (ys4481.getD 3 default) (AV.int 0)) ∧
            ((AV.isBool (AV.bin Go.BinOp.geq (ys4481.getD 3 default) (AV.int 0))) ∧
            ((isT (AV.bin Go.BinOp.geq (ys4481.getD 3 default) (AV.int 0))) ∧
            ((AV.isSl x1 6) ∧
            ((AV.inb x1 (ys4481.getD 3 default)) ∧
            ((AV.binOk Go.BinOp.gtr (AV.at x1 (ys4481.getD 3 default) 0) x2) ∧
            ((AV.isBool (AV.bin Go.BinOp.geq (ys4481.getD 3 default) (AV.int 0))) ∧
            ((isT (AV.bin Go.BinOp.geq (ys4481.getD 3 default) (AV.int 0))) ∧
            ((AV.isBool (AV.bin Go.BinOp.gtr (AV.at x1 (ys4481.getD 3 default) 0) x2)) ∧
            (((isT (AV.bin Go.BinOp.gtr (AV.at x1 (ys4481.getD 3 default) 0) x2)) →
              ((AV.isSl x1 6) ∧
              ((AV.inb x1 (ys4481.getD 3 default)) ∧
              ((AV.binOk Go.BinOp.sub (AV.at x1 (ys4481.getD 3 default) 1) (AV.cel (AV.prj r3585 0) 1)) ∧
              ((AV.isSl x1 6) ∧
              ((AV.inb x1 (ys4481.getD 3 default)) ∧
              ((AV.binOk Go.BinOp.sub (AV.at x1 (ys4481.getD 3 default) 2) (AV.cel (AV.prj r3585 0) 2)) ∧
              ((AV.isOne (AV.bin Go.BinOp.sub (AV.at x1 (ys4481.getD 3 default) 1) (AV.cel (AV.prj r3585 0) 1))) ∧
              ((AV.isOne (AV.bin Go.BinOp.sub (AV.at x1 (ys4481.getD 3 default) 2) (AV.cel (AV.prj r3585 0) 2))) ∧
              (∃ r6849 : AV, ((Fn Tryz.prog 10 [(AV.agg [(AV.bin Go.BinOp.sub (AV.at x1 (ys4481.getD 3 default) 1) (AV.cel (AV.prj r3585 0) 1)), (AV.bin Go.BinOp.sub (AV.at x1 (ys4481.getD 3 default) 2) (AV.cel (AV.prj r3585 0) 2))])] (Sh.tup [Sh.sc, Sh.sc]) r6849) ∧
              ((AV.isSl x1 6) ∧
              ((AV.inb x1 (ys4481.getD 3 default)) ∧
              (∃ r7809 : AV, ((Fn Tryz.prog 11 [(AV.agg [(AV.cel (AV.prj r3585 0) 1), (AV.cel (AV.prj r3585 0) 2)]), (AV.atAgg x1 (ys4481.getD 3 default) 1 2)] (Sh.tup [Sh.sc, Sh.sc]) r7809) ∧
              ((AV.isSl x1 6) ∧
              ((AV.inb x1 (ys4481.getD 3 default)) ∧
              ((AV.binOk Go.BinOp.sub (AV.at x1 (ys4481.getD 3 default) 0) x2) ∧
              ((AV.binOk Go.BinOp.quo (AV.prj r7809 0) (AV.bin Go.BinOp.sub (AV.at x1 (ys4481.getD 3 default) 0) x2)) ∧
              ((AV.binOk Go.BinOp.eql (AV.prj r6849 1) (AV.int 0)) ∧
              ((AV.binOk Go.BinOp.sub (ys4481.getD 3 default) (AV.int 1)) ∧
              (again4481 [(AV.prj r6849 0), (AV.bin Go.BinOp.quo (AV.prj r7809 0) (AV.bin Go.BinOp.sub (AV.at x1 (ys4481.getD 3 default) 0) x2)), (AV.bin Go.BinOp.eql (AV.prj r6849 1) (AV.int 0)), (AV.bin Go.BinOp.sub (ys4481.getD 3 default) (AV.int 1))])))))))))))))))))))))) ∧
            ((isF (AV.bin Go.BinOp.gtr (AV.at x1 (ys4481.getD 3 default) 0) x2)) →
              (fLoop 5569 [(AV.int 1), (AV.mk 4 [])] fun ys5569 again5569 =>
                ((AV.binOk Go.BinOp.lss (ys5569.getD 0 default) (AV.int 4)) ∧
                ((AV.isBool (AV.bin Go.BinOp.lss (ys5569.getD 0 default) (AV.int 4))) ∧
                (((isT (AV.bin Go.BinOp.lss (ys5569.getD 0 default) (AV.int 4))) →
                  ((AV.binOk Go.BinOp.mul (AV.int 1000) (ys5569.getD 0 default)) ∧
                  ((AV.binOk Go.BinOp.add (AV.cel (AV.prj r3585 0) 3) (AV.bin Go.BinOp.mul (AV.int 1000) (ys5569.getD 0 default))) ∧
                  ((AV.binOk Go.BinOp.leq (AV.bin Go.BinOp.add (AV.cel (AV.prj r3585 0) 3) (AV.bin Go.BinOp.mul (AV.int 1000) (ys5569.getD 0 default))) (AV.cel x3 2)) ∧
                  ((AV.binOk Go.BinOp.mul (AV.int 1000) (ys5569.getD 0 default)) ∧
                  ((AV.binOk Go.BinOp.add (AV.cel (AV.prj r3585 0) 3) (AV.bin Go.BinOp.mul (AV.int 1000) (ys5569.getD 0 default))) ∧
                  ((fEnt Tryz.prog 12) ∧
                  (fAllV fun _ => (fJoin 6849 [(ys5569.getD 1 default)] (fun again6849 =>
                    ((AV.isBool (AV.bin Go.BinOp.leq (AV.bin Go.BinOp.add (AV.cel (AV.prj r3585 0) 3) (AV.bin Go.BinOp.mul (AV.int 1000) (ys5569.getD 0 default))) (AV.cel x3 2))) ∧
                    (((isT (AV.bin Go.BinOp.leq (AV.bin Go.BinOp.add (AV.cel (AV.prj r3585 0) 3) (AV.bin Go.BinOp.mul (AV.int 1000) (ys5569.getD 0 default))) (AV.cel x3 2))) →
                      ((AV.isOne x0) ∧
                      ((AV.isOne (AV.bin Go.BinOp.add (AV.cel (AV.prj r3585 0) 3) (AV.bin Go.BinOp.mul (AV.int 1000) (ys5569.getD 0 default)))) ∧
                      ((AV.room (ys5569.getD 1 default) (AV.mk 4 [[x0, (AV.int 0), (AV.bin Go.BinOp.add (AV.cel (AV.prj r3585 0) 3) (AV.bin Go.BinOp.mul (AV.int 1000) (ys5569.getD 0 default))), (AV.lit (Value.string ⟨#[]⟩))]]) 48) ∧
                      (again6849 [(AV.app 4 (ys5569.getD 1 default) (AV.mk 4 [[x0, (AV.int 0), (AV.bin Go.BinOp.add (AV.cel (AV.prj r3585 0) 3) (AV.bin Go.BinOp.mul (AV.int 1000) (ys5569.getD 0 default))), (AV.lit (Value.string ⟨#[]⟩))]]))]))))) ∧
                    ((isF (AV.bin Go.BinOp.leq (AV.bin Go.BinOp.add (AV.cel (AV.prj r3585 0) 3) (AV.bin Go.BinOp.mul (AV.int 1000) (ys5569.getD 0 default))) (AV.cel x3 2))) →
                      (again6849 [(ys5569.getD 1 default)]))))) (fun ys6849 =>
                    ((AV.binOk Go.BinOp.mul (AV.int 1000) (ys5569.getD 0 default)) ∧
                    ((AV.binOk Go.BinOp.geq (AV.cel (AV.prj r3585 0) 3) (AV.bin Go.BinOp.mul (AV.int 1000) (ys5569.getD 0 default))) ∧
                    ((AV.isBool (AV.bin Go.BinOp.geq (AV.cel (AV.prj r3585 0) 3) (AV.bin Go.BinOp.mul (AV.int 1000) (ys5569.getD 0 default)))) ∧
                    (((isT (AV.bin Go.BinOp.geq (AV.cel (AV.prj r3585 0) 3) (AV.bin Go.BinOp.mul (AV.int 1000) (ys5569.getD 0 default)))) →
                      ((AV.binOk Go.BinOp.mul (AV.int 1000) (ys5569.getD 0 default)) ∧
                      ((AV.binOk Go.BinOp.sub (AV.cel (AV.prj r3585 0) 3) (AV.bin Go.BinOp.mul (AV.int 1000) (ys5569.getD 0 default))) ∧
                      ((AV.binOk Go.BinOp.leq (AV.bin Go.BinOp.sub (AV.cel (AV.prj r3585 0) 3) (AV.bin Go.BinOp.mul (AV.int 1000) (ys5569.getD 0 default))) (AV.cel x3 2)) ∧
                      ((AV.isBool (AV.bin Go.BinOp.geq (AV.cel (AV.prj r3585 0) 3) (AV.bin Go.BinOp.mul (AV.int 1000) (ys5569.getD 0 default)))) ∧
                      ((isT (AV.bin Go.BinOp.geq (AV.cel (AV.prj r3585 0) 3) (AV.bin Go.BinOp.mul (AV.int 1000) (ys5569.getD 0 default)))) ∧
                      ((AV.binOk Go.BinOp.mul (AV.int 1000) (ys5569.getD 0 default)) ∧
                      ((AV.binOk Go.BinOp.sub (AV.cel (AV.prj r3585 0) 3) (AV.bin Go.BinOp.mul (AV.int 1000) (ys5569.getD 0 default))) ∧
                      ((fEnt Tryz.prog 12) ∧
                      (fAllV fun _ => (fJoin 8577 [(ys6849.getD 0 default)] (fun again8577 =>
                        ((AV.isBool (AV.bin Go.BinOp.leq (AV.bin Go.BinOp.sub (AV.cel (AV.prj r3585 0) 3) (AV.bin Go.BinOp.mul (AV.int 1000) (ys5569.getD 0 default))) (AV.cel x3 2))) ∧
                        (((isT (AV.bin Go.BinOp.leq (AV.bin Go.BinOp.sub (AV.cel (AV.prj r3585 0) 3) (AV.bin Go.BinOp.mul (AV.int 1000) (ys5569.getD 0 default))) (AV.cel x3 2))) →
                          ((AV.isOne x0) ∧
                          ((AV.isOne (AV.bin Go.BinOp.sub (AV.cel (AV.prj r3585 0) 3) (AV.bin Go.BinOp.mul (AV.int 1000) (ys5569.getD 0 default)))) ∧
                          ((AV.room (ys6849.getD 0 default) (AV.mk 4 [[x0, (AV.int 0), (AV.bin Go.BinOp.sub (AV.cel (AV.prj r3585 0) 3) (AV.bin Go.BinOp.mul (AV.int 1000) (ys5569.getD 0 default))), (AV.lit (Value.string ⟨#[]⟩))]]) 48) ∧
                          (again8577 [(AV.app 4 (ys6849.getD 0 default) (AV.mk 4 [[x0, (AV.int 0), (AV.bin Go.BinOp.sub (AV.cel (AV.prj r3585 0) 3) (AV.bin Go.BinOp.mul (AV.int 1000) (ys5569.getD 0 default))), (AV.lit (Value.string ⟨#[]⟩))]]))]))))) ∧
                        ((isF (AV.bin Go.BinOp.leq (AV.bin Go.BinOp.sub (AV.cel (AV.prj r3585 0) 3) (AV.bin Go.BinOp.mul (AV.int 1000) (ys5569.getD 0 default))) (AV.cel x3 2))) →
                          (again8577 [(ys6849.getD 0 default)]))))) (fun ys8577 =>
                        ((AV.isBool (ys4481.getD 2 default)) ∧
                        ((isF (ys4481.getD 2 default)) ∧
                        ((AV.isBool (ys4481.getD 2 default)) ∧
                        ((isF (ys4481.getD 2 default)) ∧
                        ((AV.binOk Go.BinOp.mul (AV.int 15) (ys5569.getD 0 default)) ∧
                        ((AV.binOk Go.BinOp.add (ys4481.getD 1 default) (AV.bin Go.BinOp.mul (AV.int 15) (ys5569.getD 0 default))) ∧
                        ((fEnt Tryz.prog 12) ∧
                        (fAllV fun _ => ((AV.isBool (ys4481.getD 2 default)) ∧
                        ((isF (ys4481.getD 2 default)) ∧
                        ((AV.isBool (ys4481.getD 2 default)) ∧
                        ((isF (ys4481.getD 2 default)) ∧
                        ((AV.binOk Go.BinOp.mul (AV.int 15) (ys5569.getD 0 default)) ∧
                        ((AV.binOk Go.BinOp.sub (ys4481.getD 1 default) (AV.bin Go.BinOp.mul (AV.int 15) (ys5569.getD 0 default))) ∧
                        ((fEnt Tryz.prog 12) ∧
                        (fAllV fun _ => ((AV.binOk Go.BinOp.mul (AV.int 171) (ys5569.getD 0 default)) ∧
                        ((AV.binOk Go.BinOp.add (ys4481.getD 0 default) (AV.bin Go.BinOp.mul (AV.int 171) (ys5569.getD 0 default))) ∧
                        ((AV.binOk Go.BinOp.rem (AV.bin Go.BinOp.add (ys4481.getD 0 default) (AV.bin Go.BinOp.mul (AV.int 171) (ys5569.getD 0 default))) (AV.int 4096)) ∧
                        ((fEnt Tryz.prog 12) ∧
                        (fAllV fun _ => (fJoin 12673 [(ys8577.getD 0 default)] (fun again12673 =>
                          ((AV.isBool (ys4481.getD 2 default)) ∧
                          (((isT (ys4481.getD 2 default)) →
                            ((AV.isOne x0) ∧
                            ((AV.isOne (AV.bin Go.BinOp.rem (AV.bin Go.BinOp.add (ys4481.getD 0 default) (AV.bin Go.BinOp.mul (AV.int 171) (ys5569.getD 0 default))) (AV.int 4096))) ∧
                            ((AV.room (ys8577.getD 0 default) (AV.mk 4 [[x0, (AV.int 1), (AV.bin Go.BinOp.rem (AV.bin Go.BinOp.add (ys4481.getD 0 default) (AV.bin Go.BinOp.mul (AV.int 171) (ys5569.getD 0 default))) (AV.int 4096)), (AV.lit (Value.string ⟨#[]⟩))]]) 48) ∧
                            (again12673 [(AV.app 4 (ys8577.getD 0 default) (AV.mk 4 [[x0, (AV.int 1), (AV.bin Go.BinOp.rem (AV.bin Go.BinOp.add (ys4481.getD 0 default) (AV.bin Go.BinOp.mul (AV.int 171) (ys5569.getD 0 default))) (AV.int 4096)), (AV.lit (Value.string ⟨#[]⟩))]]))]))))) ∧
                          ((isF (ys4481.getD 2 default)) →
                            (again12673 [(ys8577.getD 0 default)]))))) (fun ys12673 =>
                          ((AV.binOk Go.BinOp.add (ys4481.getD 0 default) (AV.int 4096)) ∧
                          ((AV.binOk Go.BinOp.mul (AV.int 171) (ys5569.getD 0 default)) ∧
                          ((AV.binOk Go.BinOp.sub (AV.bin Go.BinOp.add (ys4481.getD 0 default) (AV.int 4096)) (AV.bin Go.BinOp.mul (AV.int 171) (ys5569.getD 0 default))) ∧
                          ((AV.binOk Go.BinOp.rem (AV.bin Go.BinOp.sub (AV.bin Go.BinOp.add (ys4481.getD 0 default) (AV.int 4096)) (AV.bin Go.BinOp.mul (AV.int 171) (ys5569.getD 0 default))) (AV.int 4096)) ∧
                          ((fEnt Tryz.prog 12) ∧
                          (fAllV fun _ => (fJoin 13377 [(ys12673.getD 0 default)] (fun again13377 =>
                            ((AV.isBool (ys4481.getD 2 default)) ∧
                            (((isT (ys4481.getD 2 default)) →
                              ((AV.isOne x0) ∧
                              ((AV.isOne (AV.bin Go.BinOp.rem (AV.bin Go.BinOp.sub (AV.bin Go.BinOp.add (ys4481.getD 0 default) (AV.int 4096)) (AV.bin Go.BinOp.mul (AV.int 171) (ys5569.getD 0 default))) (AV.int 4096))) ∧
                              ((AV.room (ys12673.getD 0 default) (AV.mk 4 [[x0, (AV.int 1), (AV.bin Go.BinOp.rem (AV.bin Go.BinOp.sub (AV.bin Go.BinOp.add (ys4481.getD 0 default) (AV.int 4096)) (AV.bin Go.BinOp.mul (AV.int 171) (ys5569.getD 0 default))) (AV.int 4096)), (AV.lit (Value.string ⟨#[]⟩))]]) 48) ∧
                              (again13377 [(AV.app 4 (ys12673.getD 0 default) (AV.mk 4 [[x0, (AV.int 1), (AV.bin Go.BinOp.rem (AV.bin Go.BinOp.sub (AV.bin Go.BinOp.add (ys4481.getD 0 default) (AV.int 4096)) (AV.bin Go.BinOp.mul (AV.int 171) (ys5569.getD 0 default))) (AV.int 4096)), (AV.lit (Value.string ⟨#[]⟩))]]))]))))) ∧
                            ((isF (ys4481.getD 2 default)) →
                              (again13377 [(ys12673.getD 0 default)]))))) (fun ys13377 =>
                            ((AV.binOk Go.BinOp.add (ys5569.getD 0 default) (AV.int 1)) ∧
                            (again5569 [(AV.bin Go.BinOp.add (ys5569.getD 0 default) (AV.int 1)), (ys13377.getD 0 default)]))))))))))))))))))))))))))))))))))))))))))))) ∧
                    ((isF (AV.bin Go.BinOp.geq (AV.cel (AV.prj r3585 0) 3) (AV.bin Go.BinOp.mul (AV.int 1000) (ys5569.getD 0 default)))) →
                      ((AV.isBool (AV.bin Go.BinOp.geq (AV.cel (AV.prj r3585 0) 3) (AV.bin Go.BinOp.mul (AV.int 1000) (ys5569.getD 0 default)))) ∧
                      ((isF (AV.bin Go.BinOp.geq (AV.cel (AV.prj r3585 0) 3) (AV.bin Go.BinOp.mul (AV.int 1000) (ys5569.getD 0 default)))) ∧
                      ((AV.binOk Go.BinOp.mul (AV.int 1000) (ys5569.getD 0 default)) ∧
                      ((AV.binOk Go.BinOp.sub (AV.cel (AV.prj r3585 0) 3) (AV.bin Go.BinOp.mul (AV.int 1000) (ys5569.getD 0 default))) ∧
                      ((fEnt Tryz.prog 12) ∧
                      (fAllV fun _ => ((AV.isBool (ys4481.getD 2 default)) ∧
                      ((isF (ys4481.getD 2 default)) ∧
                      ((AV.isBool (ys4481.getD 2 default)) ∧
                      ((isF (ys4481.getD 2 default)) ∧
                      ((AV.binOk Go.BinOp.mul (AV.int 15) (ys5569.getD 0 default)) ∧
                      ((AV.binOk Go.BinOp.add (ys4481.getD 1 default) (AV.bin Go.BinOp.mul (AV.int 15) (ys5569.getD 0 default))) ∧
                      ((fEnt Tryz.prog 12) ∧
                      (fAllV fun _ => ((AV.isBool (ys4481.getD 2 default)) ∧
                      ((isF (ys4481.getD 2 default)) ∧
                      ((AV.isBool (ys4481.getD 2 default)) ∧
                      ((isF (ys4481.getD 2 default)) ∧
                      ((AV.binOk Go.BinOp.mul (AV.int 15) (ys5569.getD 0 default)) ∧
                      ((AV.binOk Go.BinOp.sub (ys4481.getD 1 default) (AV.bin Go.BinOp.mul (AV.int 15) (ys5569.getD 0 default))) ∧
                      ((fEnt Tryz.prog 12) ∧
                      (fAllV fun _ => ((AV.binOk Go.BinOp.mul (AV.int 171) (ys5569.getD 0 default)) ∧
                      ((AV.binOk Go.BinOp.add (ys4481.getD 0 default) (AV.bin Go.BinOp.mul (AV.int 171) (ys5569.getD 0 default))) ∧
                      ((AV.binOk Go.BinOp.rem (AV.bin Go.BinOp.add (ys4481.getD 0 default) (AV.bin Go.BinOp.mul (AV.int 171) (ys5569.getD 0 default))) (AV.int 4096)) ∧
                      ((fEnt Tryz.prog 12) ∧
                      (fAllV fun _ => (fJoin 12673 [(ys6849.getD 0 default)] (fun again12673 =>
                        ((AV.isBool (ys4481.getD 2 default)) ∧
                        (((isT (ys4481.getD 2 default)) →
                          ((AV.isOne x0) ∧
                          ((AV.isOne (AV.bin Go.BinOp.rem (AV.bin Go.BinOp.add (ys4481.getD 0 default) (AV.bin Go.BinOp.mul (AV.int 171) (ys5569.getD 0 default))) (AV.int 4096))) ∧
                          ((AV.room (ys6849.getD 0 default) (AV.mk 4 [[x0, (AV.int 1), (AV.bin Go.BinOp.rem (AV.bin Go.BinOp.add (ys4481.getD 0 default) (AV.bin Go.BinOp.mul (AV.int 171) (ys5569.getD 0 default))) (AV.int 4096)), (AV.lit (Value.string ⟨#[]⟩))]]) 48) ∧
                          (again12673 [(AV.app 4 (ys6849.getD 0 default) (AV.mk 4 [[x0, (AV.int 1), (AV.bin Go.BinOp.rem (AV.bin Go.BinOp.add (ys4481.getD 0 default) (AV.bin Go.BinOp.mul (AV.int 171) (ys5569.getD 0 default))) (AV.int 4096)), (AV.lit (Value.string ⟨#[]⟩))]]))]))))) ∧
                        ((isF (ys4481.getD 2 default)) →
                          (again12673 [(ys6849.getD 0 default)]))))) (fun ys12673 =>
                        ((AV.binOk Go.BinOp.add (ys4481.getD 0 default) (AV.int 4096)) ∧
                        ((AV.binOk Go.BinOp.mul (AV.int 171) (ys5569.getD 0 default)) ∧
                        ((AV.binOk Go.BinOp.sub (AV.bin Go.BinOp.add (ys4481.getD 0 default) (AV.int 4096)) (AV.bin Go.BinOp.mul (AV.int 171) (ys5569.getD 0 default))) ∧
                        ((AV.binOk Go.BinOp.rem (AV.bin Go.BinOp.sub (AV.bin Go.BinOp.add (ys4481.getD 0 default) (AV.int 4096)) (AV.bin Go.BinOp.mul (AV.int 171) (ys5569.getD 0 default))) (AV.int 4096)) ∧
                        ((fEnt Tryz.prog 12) ∧
                        (fAllV fun _ => (fJoin 13377 [(ys12673.getD 0 default)] (fun again13377 =>
                          ((AV.isBool (ys4481.getD 2 default)) ∧
                          (((isT (ys4481.getD 2 default)) →
                            ((AV.isOne x0) ∧
                            ((AV.isOne (AV.bin Go.BinOp.rem (AV.bin Go.BinOp.sub (AV.bin Go.BinOp.add (ys4481.getD 0 default) (AV.int 4096)) (AV.bin Go.BinOp.mul (AV.int 171) (ys5569.getD 0 default))) (AV.int 4096))) ∧
                            ((AV.room (ys12673.getD 0 default) (AV.mk 4 [[x0, (AV.int 1), (AV.bin Go.BinOp.rem (AV.bin Go.BinOp.sub (AV.bin Go.BinOp.add (ys4481.getD 0 default) (AV.int 4096)) (AV.bin Go.BinOp.mul (AV.int 171) (ys5569.getD 0 default))) (AV.int 4096)), (AV.lit (Value.string ⟨#[]⟩))]]) 48) ∧
                            (again13377 [(AV.app 4 (ys12673.getD 0 default) (AV.mk 4 [[x0, (AV.int 1), (AV.bin Go.BinOp.rem (AV.bin Go.BinOp.sub (AV.bin Go.BinOp.add (ys4481.getD 0 default) (AV.int 4096)) (AV.bin Go.BinOp.mul (AV.int 171) (ys5569.getD 0 default))) (AV.int 4096)), (AV.lit (Value.string ⟨#[]⟩))]]))]))))) ∧
                          ((isF (ys4481.getD 2 default)) →
                            (again13377 [(ys12673.getD 0 default)]))))) (fun ys13377 =>
                          ((AV.binOk Go.BinOp.add (ys5569.getD 0 default) (AV.int 1)) ∧
                          (again5569 [(AV.bin Go.BinOp.add (ys5569.getD 0 default) (AV.int 1)), (ys13377.getD 0 default)])))))))))))))))))))))))))))))))))))))))))))))))))))))) ∧
                ((isF (AV.bin Go.BinOp.lss (ys5569.getD 0 default) (AV.int 4))) →
                  ((AV.binOk Go.BinOp.eql (AV.prj r577 1) (AV.int 0)) ∧
                  ((AV.isBool (AV.bin Go.BinOp.eql (AV.prj r577 1) (AV.int 0))) ∧
                  ((isT (AV.bin Go.BinOp.eql (AV.prj r577 1) (AV.int 0))) ∧
                  (∃ r6017 : AV, ((Fn Tryz.prog 13 [(AV.prj r577 0), (ys5569.getD 1 default)] Sh.sc r6017) ∧
                  ((AV.isBool (AV.bin Go.BinOp.eql (AV.prj r577 1) (AV.int 0))) ∧
                  ((isT (AV.bin Go.BinOp.eql (AV.prj r577 1) (AV.int 0))) ∧
                  ((AV.flat r6017) ∧
                  (fSame r6017 r)))))))))))))))))))))))))))))))))))))))))))))))))))))))))))) ∧
  ((isF (AV.bin Go.BinOp.eql r1345 (AV.int 0))) →
    ((AV.isBool (AV.bin Go.BinOp.eql r1345 (AV.int 0))) ∧
    ((isF (AV.bin Go.BinOp.eql r1345 (AV.int 0))) ∧
    ((AV.binOk Go.BinOp.eql r1345 (AV.int 0)) ∧
    ((AV.isBool (AV.bin Go.BinOp.eql r1345 (AV.int 0))) ∧
    ((isF (AV.bin Go.BinOp.eql r1345 (AV.int 0))) ∧
    ((AV.binOk Go.BinOp.neq r1345 (AV.int 0)) ∧
    ((AV.isBool (AV.bin Go.BinOp.neq r1345 (AV.int 0))) ∧
    ((isT (AV.bin Go.BinOp.neq r1345 (AV.int 0))) ∧
    ((AV.binOk Go.BinOp.eql (AV.prj r577 1) r1345) ∧
    ((AV.isBool (AV.bin Go.BinOp.eql (AV.prj r577 1) r1345)) ∧
    ((isT (AV.bin Go.BinOp.eql (AV.prj r577 1) r1345)) ∧
    ((AV.binOk Go.BinOp.eql (AV.len (AV.prj r577 0)) (AV.int 0)) ∧
    ((AV.isBool (AV.bin Go.BinOp.eql (AV.prj r577 1) r1345)) ∧
    ((isT (AV.bin Go.BinOp.eql (AV.prj r577 1) r1345)) ∧
    ((AV.flat (AV.bin Go.BinOp.eql (AV.len (AV.prj r577 0)) (AV.int 0))) ∧
    (fSame (AV.bin Go.BinOp.eql (AV.len (AV.prj r577 0)) (AV.int 0)) r))))))))))))))))))))))) ∧
((isF (AV.bin Go.BinOp.eql r1025 (AV.int 0))) →
  ((AV.binOk Go.BinOp.eql r1025 (AV.int 0)) ∧
  ((AV.isBool (AV.bin Go.BinOp.eql r1025 (AV.int 0))) ∧
  ((isF (AV.bin Go.BinOp.eql r1025 (AV.int 0))) ∧
  ((AV.isBool (AV.bin Go.BinOp.eql r1025 (AV.int 0))) ∧
  ((isF (AV.bin Go.BinOp.eql r1025 (AV.int 0))) ∧
  ((AV.binOk Go.BinOp.eql r1025 (AV.int 0)) ∧
  ((AV.isBool (AV.bin Go.BinOp.eql r1025 (AV.int 0))) ∧
  ((isF (AV.bin Go.BinOp.eql r1025 (AV.int 0))) ∧
  ((AV.binOk Go.BinOp.neq r1025 (AV.int 0)) ∧
  ((AV.isBool (AV.bin Go.BinOp.neq r1025 (AV.int 0))) ∧
  ((isT (AV.bin Go.BinOp.neq r1025 (AV.int 0))) ∧
  ((AV.binOk Go.BinOp.eql (AV.prj r577 1) r1025) ∧
  ((AV.isBool (AV.bin Go.BinOp.eql (AV.prj r577 1) r1025)) ∧
  ((isT (AV.bin Go.BinOp.eql (AV.prj r577 1) r1025)) ∧
  ((AV.binOk Go.BinOp.eql (AV.len (AV.prj r577 0)) (AV.int 0)) ∧
  ((AV.isBool (AV.bin Go.BinOp.eql (AV.prj r577 1) r1025)) ∧
  ((isT (AV.bin Go.BinOp.eql (AV.prj r577 1) r1025)) ∧
  ((AV.flat (AV.bin Go.BinOp.eql (AV.len (AV.prj r577 0)) (AV.int 0))) ∧
  (fSame (AV.bin Go.BinOp.eql (AV.len (AV.prj r577 0)) (AV.int 0)) r))))))))))))))))))))))))))))))))))) := by kernel_rfl
end RlU
end Go.Proofs.YtacfofpbbempaaaGreatDoor
/- slices.Equal at clearances: what the run ends in. -/
namespace Go.Proofs.YtacfofpbbempaaaGreatDoor
open Go.RowKit
set_option linter.unusedVariables false
set_option maxRecDepth 100000
namespace RlH
--GAMMA
def Γ : FuncId → Option Ca := fun f => some .inl
def ann : FuncId → Nat → LoopEx := fun f r => ⟨[], [], [], []⟩
--END GAMMA
theorem equal_form (x0 x1 r : AV) : fnF Tryz.prog Γ ann 3 13 Tryz.f13 (Tryz.f13.body.getD .skip) (.nil) [x0, x1] (.sc) r = (((AV.isSl x0 4) ∧
((AV.isSl x1 4) ∧
((AV.binOk Go.BinOp.neq (AV.len x0) (AV.len x1)) ∧
((AV.isBool (AV.bin Go.BinOp.neq (AV.len x0) (AV.len x1))) ∧
(((isT (AV.bin Go.BinOp.neq (AV.len x0) (AV.len x1))) →
  ((AV.flat (AV.bool false)) ∧
  (fSame (AV.bool false) r))) ∧
((isF (AV.bin Go.BinOp.neq (AV.len x0) (AV.len x1))) →
  ((AV.isSl x0 4) ∧
  (fLoop 577 [(AV.int 0)] fun ys577 again577 =>
    ((AV.binOk Go.BinOp.lss (ys577.getD 0 default) (AV.len x0)) ∧
    ((AV.isBool (AV.bin Go.BinOp.lss (ys577.getD 0 default) (AV.len x0))) ∧
    (((isT (AV.bin Go.BinOp.lss (ys577.getD 0 default) (AV.len x0))) →
      ((AV.isSl x0 4) ∧
      ((AV.inb x0 (ys577.getD 0 default)) ∧
      ((AV.isSl x1 4) ∧
      ((AV.inb x1 (ys577.getD 0 default)) ∧
      ((AV.eqPlOk [(0, EK.str), (1, (EK.int Go.IntKind.i64)), (2, (EK.int Go.IntKind.i64)), (3, EK.str)] [(AV.cel (AV.atAgg x0 (ys577.getD 0 default) 0 4) 0), (AV.cel (AV.atAgg x0 (ys577.getD 0 default) 0 4) 1), (AV.cel (AV.atAgg x0 (ys577.getD 0 default) 0 4) 2), (AV.cel (AV.atAgg x0 (ys577.getD 0 default) 0 4) 3)] [(AV.cel (AV.atAgg x1 (ys577.getD 0 default) 0 4) 0), (AV.cel (AV.atAgg x1 (ys577.getD 0 default) 0 4) 1), (AV.cel (AV.atAgg x1 (ys577.getD 0 default) 0 4) 2), (AV.cel (AV.atAgg x1 (ys577.getD 0 default) 0 4) 3)]) ∧
      ((AV.isAgg (AV.atAgg x0 (ys577.getD 0 default) 0 4) 4) ∧
      ((AV.isAgg (AV.atAgg x1 (ys577.getD 0 default) 0 4) 4) ∧
      ((AV.isBool (AV.nePl [(0, EK.str), (1, (EK.int Go.IntKind.i64)), (2, (EK.int Go.IntKind.i64)), (3, EK.str)] [(AV.cel (AV.atAgg x0 (ys577.getD 0 default) 0 4) 0), (AV.cel (AV.atAgg x0 (ys577.getD 0 default) 0 4) 1), (AV.cel (AV.atAgg x0 (ys577.getD 0 default) 0 4) 2), (AV.cel (AV.atAgg x0 (ys577.getD 0 default) 0 4) 3)] [(AV.cel (AV.atAgg x1 (ys577.getD 0 default) 0 4) 0), (AV.cel (AV.atAgg x1 (ys577.getD 0 default) 0 4) 1), (AV.cel (AV.atAgg x1 (ys577.getD 0 default) 0 4) 2), (AV.cel (AV.atAgg x1 (ys577.getD 0 default) 0 4) 3)])) ∧
      (((isT (AV.nePl [(0, EK.str), (1, (EK.int Go.IntKind.i64)), (2, (EK.int Go.IntKind.i64)), (3, EK.str)] [(AV.cel (AV.atAgg x0 (ys577.getD 0 default) 0 4) 0), (AV.cel (AV.atAgg x0 (ys577.getD 0 default) 0 4) 1), (AV.cel (AV.atAgg x0 (ys577.getD 0 default) 0 4) 2), (AV.cel (AV.atAgg x0 (ys577.getD 0 default) 0 4) 3)] [(AV.cel (AV.atAgg x1 (ys577.getD 0 default) 0 4) 0), (AV.cel (AV.atAgg x1 (ys577.getD 0 default) 0 4) 1), (AV.cel (AV.atAgg x1 (ys577.getD 0 default) 0 4) 2), (AV.cel (AV.atAgg x1 (ys577.getD 0 default) 0 4) 3)])) →
        ((AV.flat (AV.bool false)) ∧
        (fSame (AV.bool false) r))) ∧
      ((isF (AV.nePl [(0, EK.str), (1, (EK.int Go.IntKind.i64)), (2, (EK.int Go.IntKind.i64)), (3, EK.str)] [(AV.cel (AV.atAgg x0 (ys577.getD 0 default) 0 4) 0), (AV.cel (AV.atAgg x0 (ys577.getD 0 default) 0 4) 1), (AV.cel (AV.atAgg x0 (ys577.getD 0 default) 0 4) 2), (AV.cel (AV.atAgg x0 (ys577.getD 0 default) 0 4) 3)] [(AV.cel (AV.atAgg x1 (ys577.getD 0 default) 0 4) 0), (AV.cel (AV.atAgg x1 (ys577.getD 0 default) 0 4) 1), (AV.cel (AV.atAgg x1 (ys577.getD 0 default) 0 4) 2), (AV.cel (AV.atAgg x1 (ys577.getD 0 default) 0 4) 3)])) →
        ((AV.binOk Go.BinOp.add (ys577.getD 0 default) (AV.int 1)) ∧
        (again577 [(AV.bin Go.BinOp.add (ys577.getD 0 default) (AV.int 1))]))))))))))))) ∧
    ((isF (AV.bin Go.BinOp.lss (ys577.getD 0 default) (AV.len x0))) →
      ((AV.flat (AV.bool true)) ∧
      (fSame (AV.bool true) r))))))))))))))) := by kernel_rfl
end RlH
end Go.Proofs.YtacfofpbbempaaaGreatDoor
/- The law ResolveLists over plain values. -/
namespace Go.Proofs.YtacfofpbbempaaaGreatDoor
open Go.RowKit
set_option linter.unusedVariables false
set_option linter.unusedSimpArgs false
set_option maxRecDepth 100000
theorem eqc_fn (l : List Cl) (hl : l.length ≤ 1000) : Fn Tryz.prog 13 [clr l, clr l] .sc (.bool true) := by
  have e := RlH.equal_form (clr l) (clr l) (.bool true)
  have kk := fun h => fn_run mixed 3 (Γ := RlH.Γ) (ann := RlH.ann) Tryz.func13 rfl Tryz.call13 (e.mpr h)
  refine kk ?_
  clear kk e
  refine ⟨by simp, by simp, by simp, by simp, fun q => absurd q (by simp), fun _ => ⟨by simp, ?_⟩⟩
  refine loop_list (σ := Unit) l (fun i _ => [.int (i : Nat)]) (fun _ _ _ => True) () rfl trivial ?_ ?_
  · rintro i x rest _ K hx hrest hi _ hK
    have hil : (i : Int) < l.length := by omega
    have w2 : wr ((i : Int) + 1) = (i : Int) + 1 := wr_id (by omega) (by omega)
    have hK' := hK [.int ((i : Int) + 1)] () (by simp) trivial
    have hat := lst_atAgg (k := .i64) (s := 4) (enc := encL) (j := 0) (m := 4) hx
    simp [hat, encL, hil, AV.eqPlOk, AV.nePl, AV.eqc, okA, w2]
    exact hK'
  · rintro _ K _
    refine ⟨by simp, by simp, fun q => absurd q (by simp), fun _ => ⟨by simp, by simp⟩⟩
def Sm (n : Nat) (l : List Cl) : Prop := l.length ≤ 100 + n
theorem sm_ad {n : Nat} {l : List Cl} {c : ByteArray} {b : Bool} {k v : Int} (h : Sm n l) : Sm (n + 1) (ad c l b k v) := by
  have := ad_len c l b k v
  unfold Sm at *
  omega
theorem join_ad {i : Nat} {l : List Cl} {c : ByteArray} {k v : Int} {x : AV} {b : Bool} {A1 A2 : Prop} {rest : List AV → Prop} (hx : x = .bool b) (h1 : A1) (h2 : A2) (hl : ∃ n, n ≤ 20 ∧ Sm n l) (hr : rest [clr (ad c l b k v)]) :
    fJoin i [clr l] (fun again => AV.isBool x ∧ ((isT x → A1 ∧ A2 ∧ AV.room (clr l) (.sl 4 [[.string c, .int k, .int v, .lit (.string ⟨#[]⟩)]]) 48 ∧ again [clr (l ++ [⟨c, k, v, ⟨#[]⟩⟩])]) ∧ (isF x → again [clr l]))) rest := by
  have hl : l.length ≤ 1000 := by
    obtain ⟨n, h1, h2⟩ := hl
    unfold Sm at h2
    omega
  refine ⟨fun ys => ys = [clr (ad c l b k v)], ?_, fun ys _ h => h ▸ hr⟩
  subst hx
  refine ⟨rfl, fun p => ⟨h1, h2, cl_room _ _ hl, ?_⟩, fun p => ?_⟩
  · have p : b = true := p
    rw [p]; rfl
  · have p : b = false := p
    rw [p]; rfl
theorem ad_f (c : ByteArray) (l : List Cl) (k v : Int) : ad c l false k v = l := rfl
theorem csV_drop (now : Nd) (l : List Nd) : ∀ n : Nat, (∀ i x, i < n → l[i]? = some x → x.t ≤ now.t) → csV now l = csV now (l.drop n) := by
  intro n
  induction n with
  | zero => intro _; rw [List.drop_zero]
  | succ n ih =>
    intro h
    rw [ih fun i x hi hx => h i x (by omega) hx]
    rcases Nat.lt_or_ge n l.length with hn | hn
    · rw [List.drop_eq_getElem_cons hn]
      have := h n _ (by omega) (List.getElem?_eq_getElem hn)
      show (if now.t < l[n].t then _ else _) = _
      rw [if_neg (by omega)]
    · rw [List.drop_eq_nil_of_le hn, List.drop_eq_nil_of_le (by omega)]
theorem llistsT_fn (c : ByteArray) (l : List Nd) (t : Int) (k : Kd) (hmv : (csV (atN l t) l).2.2 = true) : Fn Tryz.prog 3 [.string c, tube l, .int t, kd k] .sc (.bool true) := by
  have e := RlT.listsT_form (.string c) (tube l) (.int t) (kd k) (.bool true)
  have kk := fun h => fn_run mixed 3 (Γ := RlT.Γ) (ann := RlT.ann) Tryz.func3 rfl Tryz.call3 (e.mpr h)
  refine kk ?_
  clear kk e
  have hbad : ∀ n : Int, n ≠ 0 → cndE c l t k = n → cndV c l t k = .tup [.sl 4 [], .int n] := fun n hn he => by unfold cndV; rw [he, if_neg hn]
  refine ⟨by simp, by simp [encKd], _, rfact_fn, by simp, by simp, by simp, _, cnd_fn c l t k, _, tcheck_fn l, by simp, by simp, fun h => ?_, fun h => ?_⟩
  rotate_left
  · have g : tE l ≠ 0 := by simpa using h
    rw [hbad (tE l) g (by unfold cndE; rw [if_pos g])]
    simp [g, fSame]
  have g1 : tE l = 0 := by simpa using h
  refine ⟨_, acheck_fn k, by simp, by simp, fun h => ?_, fun h => ?_⟩
  rotate_left
  · have g : kE k ≠ 0 := by simpa using h
    rw [hbad (kE k) g (by unfold cndE; rw [if_neg (by simp [g1]), if_pos g])]
    simp [g, fSame]
  have g2 : kE k = 0 := by simpa using h
  obtain ⟨hpos, h64, hG⟩ := tE_ok g1
  obtain ⟨a, ha⟩ : ∃ a, l[0]? = some a := ⟨_, List.getElem?_eq_getElem hpos⟩
  obtain ⟨b, hb⟩ : ∃ b, l[l.length - 1]? = some b := ⟨_, List.getElem?_eq_getElem (by omega)⟩
  have had : l.getD 0 default = a := by rw [List.getD_eq_getElem?_getD, ha]; rfl
  have hbd : l.getD (l.length - 1) default = b := by rw [List.getD_eq_getElem?_getD, hb]; rfl
  have hat0 : AV.at (tube l) (.int 0) 0 = .int a.t := by rw [lst_atI (by omega) (by simpa using ha)]; rfl
  have hat1 : AV.at (tube l) (.int ((l.length : Int) - 1)) 0 = .int b.t := by rw [lst_atI (by omega) (by rw [show ((l.length : Int) - 1).toNat = l.length - 1 by omega]; exact hb)]; rfl
  have hsub : AV.bin Go.BinOp.sub (AV.len (tube l)) (.int 1) = .int ((l.length : Int) - 1) := by
    have : wr ((l.length : Int) - 1) = (l.length : Int) - 1 := wr_id (by omega) (by omega)
    simp [this]
  have h12 : t < a.t ∨ t > b.t → cndV c l t k = .tup [.sl 4 [], .int 12] := fun q => by
    have : tatE l t = 12 := by unfold tatE; rw [if_neg (by simp [g1]), had, hbd, if_pos q]
    exact hbad 12 (by decide) (by unfold cndE; rw [if_neg (by simp [g1]), if_neg (by simp [g2]), this, if_pos (by decide)])
  simp only [hat0, hat1, hsub]
  refine ⟨by simp, by simp; omega, by simp, by simp, fun h => ?_, fun h => ?_⟩
  · have g : t < a.t := by simpa using h
    rw [h12 (.inl g)]
    simp [g, g2, fSame]
  have g3 : a.t ≤ t := by simpa using h
  refine ⟨by simp, by simp, by simp, by simp; omega, by simp, by simp, h, by simp [g2], by simp [g2], by simp, fun h => ?_, fun h => ?_⟩
  · have g : b.t < t := by simpa using h
    rw [h12 (.inr g)]
    simp [g2, fSame]
  have g4 : t ≤ b.t := by simpa using h
  have g5 : tatE l t = 0 := by unfold tatE; rw [if_neg (by simp [g1]), had, hbd, if_neg (by omega)]
  refine ⟨by simp, by simp, by simp [g2], by simp, _, cerr_fn ⟨c, 0, 0, ⟨#[]⟩⟩, by simp, by simp, fun h => ?_, fun h => ?_⟩
  · have g : clE ⟨c, 0, 0, ⟨#[]⟩⟩ ≠ 0 := by simpa using h
    rw [hbad _ g (by unfold cndE; rw [if_neg (by simp [g1]), if_neg (by simp [g2]), if_neg (by simp [g5])])]
    simp [g, fSame]
  have g6 : clE ⟨c, 0, 0, ⟨#[]⟩⟩ = 0 := by simpa using h
  have hV : cndV c l t k = .tup [clr (cndL c l t k), .int 0] := by
    have : cndE c l t k = 0 := by unfold cndE; rw [if_neg (by simp [g1]), if_neg (by simp [g2]), if_neg (by simp [g5]), g6]
    unfold cndV; rw [if_pos this]
  rw [hV]
  clear hbad hV h12 h
  have h3 := tat_fn l t
  rw [show tatV l t = .tup [nd (atN l t), .int 0] by unfold tatV; rw [if_pos g5]] at h3
  obtain ⟨_, hlo, hhi⟩ := tatE_ok g5
  obtain ⟨_, hH0, hH1⟩ := atN_ok g1 hlo hhi
  have htm : ∀ x ∈ l, 0 ≤ x.t ∧ x.t ≤ 200000 := fun x hx => by
    obtain ⟨j, hj⟩ := List.getElem?_of_mem hx
    have := (tG_get hG hj).2.1
    exact ⟨this.1, this.2.1⟩
  have hat := htm a (List.mem_of_getElem? ha)
  have hbt := htm b (List.mem_of_getElem? hb)
  have hnt := atN_time l t
  have hcl1 : 1 ≤ k.cl ∧ k.cl ≤ 60000 := by
    unfold kE at g2
    split at g2
    · cases g2
    · split at g2
      · cases g2
      · split at g2
        · cases g2
        · omega
  refine ⟨_, h3, by simp [encN], by simp, by simp, ?_⟩
  have hn1 : AV.cel (AV.prj (.tup [nd (atN l t), .int 0]) 0) 1 = .int (atN l t).x := rfl
  have hn2 : AV.cel (AV.prj (.tup [nd (atN l t), .int 0]) 0) 2 = .int (atN l t).y := rfl
  have hn3 : AV.cel (AV.prj (.tup [nd (atN l t), .int 0]) 0) 3 = .int (atN l t).h := rfl
  have hk2 : AV.cel (kd k) 2 = .int k.cl := rfl
  have hk5 : AV.cel (kd k) 5 = .int k.sl := rfl
  have hk6 : AV.cel (kd k) 6 = .int k.fa := rfl
  refine ⟨fun m ys => ∃ n : Nat, ys = [.int (csV (atN l t) (l.drop n)).1, .int (csV (atN l t) (l.drop n)).2.1, .bool (csV (atN l t) (l.drop n)).2.2, .int ((n : Int) - 1)] ∧ n ≤ l.length ∧ m = n ∧ ∀ x ∈ l.drop n, t < x.t, l.length, ⟨l.length, by rw [List.drop_length]; rfl, Nat.le_refl _, rfl, by simp⟩, ?_⟩
  rintro n ys _ ⟨n', rfl, hn, rfl, hall⟩
  have hn0 : n ≠ 0 := fun z => by
    subst z
    have := hall a (by rw [List.drop_zero]; exact List.mem_of_getElem? ha)
    omega
  obtain ⟨i, rfl⟩ : ∃ i, n = i + 1 := ⟨n - 1, by omega⟩
  have hi' : (((i + 1 : Nat) : Int) - 1) = (i : Int) := by omega
  obtain ⟨x, hx⟩ : ∃ x, l[i]? = some x := ⟨_, List.getElem?_eq_getElem (by omega)⟩
  have hxt := htm x (List.mem_of_getElem? hx)
  have ht0 : AV.at (tube l) (.int (i : Int)) 0 = .int x.t := by rw [lst_at hx]; rfl
  have ht1 : AV.at (tube l) (.int (i : Int)) 1 = .int x.x := by rw [lst_at hx]; rfl
  have ht2 : AV.at (tube l) (.int (i : Int)) 2 = .int x.y := by rw [lst_at hx]; rfl
  have ht3 : AV.atAgg (tube l) (.int (i : Int)) 1 2 = .agg [.int x.x, .int x.y] := by rw [lst_atAgg hx]; rfl
  have sx : AV.bin Go.BinOp.sub (.int x.x) (.int (atN l t).x) = .int (wr (x.x - (atN l t).x)) := rfl
  have sy : AV.bin Go.BinOp.sub (.int x.y) (.int (atN l t).y) = .int (wr (x.y - (atN l t).y)) := rfl
  have st : AV.bin Go.BinOp.sub (.int x.t) (.int t) = .int (x.t - t) := by rw [av_subt, wr_eq, wr_id (by omega) (by omega)]
  have si : AV.bin Go.BinOp.sub (.int (i : Int)) (.int 1) = .int ((i : Int) - 1) := by rw [av_subt, wr_eq, wr_id (by omega) (by omega)]
  have hdr : l.drop i = x :: l.drop (i + 1) := by
    have hil : i < l.length := by omega
    rw [List.drop_eq_getElem_cons hil]
    rw [List.getElem?_eq_getElem hil] at hx
    injection hx with hx
    rw [hx]
  have hin : AV.inb (tube l) (.int (i : Int)) := by simp; omega
  simp only [List.getD_cons_zero, List.getD_cons_succ, hi', ht0, ht1, ht2, ht3, hn1, hn2, hn3, hk2, hk5, hk6, sx, sy, st, si]
  refine ⟨by simp, by simp, by simp, by simp, hin, by simp, by simp, by simp, by simp, fun p => ?_, fun p => ?_⟩
  · have p : t < x.t := by simpa using p
    have hda := ang_fn (wr (x.x - (atN l t).x)) (wr (x.y - (atN l t).y))
    have hdd := dist_fn (atN l t).p x.p
    have hdb := disA_bd (atN l t).p x.p
    have hq : (disA (atN l t).p x.p).tdiv (x.t - t) = disA (atN l t).p x.p / (x.t - t) := Int.tdiv_eq_ediv_of_nonneg hdb.1
    have hqb : 0 ≤ disA (atN l t).p x.p / (x.t - t) ∧ disA (atN l t).p x.p / (x.t - t) ≤ 3037000499 := ⟨Int.ediv_nonneg hdb.1 (by omega), Int.le_trans (Int.ediv_le_self _ hdb.1) hdb.2⟩
    have w3 : wr (disA (atN l t).p x.p / (x.t - t)) = disA (atN l t).p x.p / (x.t - t) := wr_id (by omega) (by omega)
    have hcs : csV (atN l t) (l.drop i) = cs1 (atN l t) x := by
      rw [hdr]
      show (if (atN l t).t < x.t then _ else _) = _
      rw [if_pos (by rw [hnt]; exact p)]
    refine ⟨by simp, hin, by simp, by simp, hin, by simp, by simp, by simp, _, hda, by simp, hin, _, hdd, by simp, hin, by simp, by simp; omega, by simp, by simp, i, by omega, i, ?_, by omega, rfl, ?_⟩
    · rw [hcs]
      unfold cs1
      simp [hq, w3, hnt]
      rfl
    · rw [hdr]
      intro y hy
      rcases List.mem_cons.1 hy with rfl | hy
      · exact p
      · exact hall y hy
  · have p : x.t ≤ t := by simpa using p
    have hcsE : csV (atN l t) l = csV (atN l t) (l.drop (i + 1)) := csV_drop _ _ _ fun j y hj hy => by
      rw [hnt]
      rcases Nat.lt_or_ge j i with q | q
      · have := (tG_get hG hy).2.2 i x q hx
        omega
      · obtain rfl : j = i := by omega
        rw [hx] at hy
        injection hy with hy
        rw [← hy]; exact p
    have hbdC := csV_bd (atN l t) (l.drop (i + 1)) fun y hy => htm y (List.mem_of_mem_drop hy)
    unfold cndL
    rw [hcsE] at hmv ⊢
    clear hcsE hall ht0 ht1 ht2 ht3 sx sy st si hdr hin h3 hn1 hn2 hn3
    generalize csV (atN l t) (l.drop (i + 1)) = cs at *
    generalize (atN l t).h = H at *
    obtain ⟨hc1, hc2, hc3, hc4⟩ := hbdC
    refine loop_nat (σ := Unit) 3 (fun n _ => [.int ((n : Int) + 1), clr (outL c H k cs n)]) (fun _ _ => True) () rfl trivial ?_ ?_
    · rintro n _ K hn _ hK
      have hK' := hK [.int ((n : Int) + 1 + 1), clr (outL c H k cs (n + 1))] () (by simp) trivial
      clear hK
      have hlen := outL_len c H k cs n
      have eO : outL c H k cs (n + 1) = rdL c H k cs ((n : Int) + 1) (outL c H k cs n) := rfl
      rw [eO] at hK'
      generalize outL c H k cs n = A at *
      have w1 : wr ((n : Int) + 1 + 1) = (n : Int) + 1 + 1 := wr_id (by omega) (by omega)
      have hr1 : 1 ≤ (n : Int) + 1 := by omega
      have hr3 : (n : Int) + 1 ≤ 3 := by omega
      have hlA : A.length ≤ 100 := by omega
      clear hlen eO
      generalize (n : Int) + 1 = r at *
      have m1 : AV.bin Go.BinOp.mul (AV.int 1000) (AV.int r) = .int (1000 * r) := by rw [av_mul, wr_eq, wr_id (by omega) (by omega)]
      have m2 : AV.bin Go.BinOp.mul (AV.int 15) (AV.int r) = .int (15 * r) := by rw [av_mul, wr_eq, wr_id (by omega) (by omega)]
      have m3 : AV.bin Go.BinOp.mul (AV.int 171) (AV.int r) = .int (171 * r) := by rw [av_mul, wr_eq, wr_id (by omega) (by omega)]
      have a1 : AV.bin Go.BinOp.add (AV.int H) (AV.int (1000 * r)) = .int (H + 1000 * r) := by rw [av_add, wr_eq, wr_id (by omega) (by omega)]
      have a2 : AV.bin Go.BinOp.sub (AV.int H) (AV.int (1000 * r)) = .int (H - 1000 * r) := by rw [av_subt, wr_eq, wr_id (by omega) (by omega)]
      have a3 : AV.bin Go.BinOp.add (AV.int cs.2.1) (AV.int (15 * r)) = .int (cs.2.1 + 15 * r) := by rw [av_add, wr_eq, wr_id (by omega) (by omega)]
      have a4 : AV.bin Go.BinOp.sub (AV.int cs.2.1) (AV.int (15 * r)) = .int (cs.2.1 - 15 * r) := by rw [av_subt, wr_eq, wr_id (by omega) (by omega)]
      have a5 : AV.bin Go.BinOp.add (AV.int cs.1) (AV.int (171 * r)) = .int (cs.1 + 171 * r) := by rw [av_add, wr_eq, wr_id (by omega) (by omega)]
      have a6 : AV.bin Go.BinOp.add (AV.int cs.1) (AV.int 4096) = .int (cs.1 + 4096) := by rw [av_add, wr_eq, wr_id (by omega) (by omega)]
      have a7 : AV.bin Go.BinOp.sub (AV.int (cs.1 + 4096)) (AV.int (171 * r)) = .int (cs.1 + 4096 - 171 * r) := by rw [av_subt, wr_eq, wr_id (by omega) (by omega)]
      have a8 : AV.bin Go.BinOp.rem (AV.int (cs.1 + 171 * r)) (AV.int 4096) = .int ((cs.1 + 171 * r) % 4096) := by rw [av_rem, Int.tmod_eq_emod_of_nonneg (by omega)]
      have a9 : AV.bin Go.BinOp.rem (AV.int (cs.1 + 4096 - 171 * r)) (AV.int 4096) = .int ((cs.1 - 171 * r) % 4096) := by rw [av_rem, Int.tmod_eq_emod_of_nonneg (by omega), show cs.1 + 4096 - 171 * r = cs.1 - 171 * r + 4096 by omega, Int.add_emod_right]
      have an : AV.bin Go.BinOp.add (AV.int r) (AV.int 1) = .int (r + 1) := by rw [av_add, wr_eq, w1]
      have hb1 : AV.binOk Go.BinOp.rem (AV.int (cs.1 + 171 * r)) (AV.int 4096) := by simp
      have hb2 : AV.binOk Go.BinOp.rem (AV.int (cs.1 + 4096 - 171 * r)) (AV.int 4096) := by simp
      have hent : fEnt Tryz.prog 12 := Tryz.call12
      simp only [List.getD_cons_zero, List.getD_cons_succ, m1, m2, m3, a1, a2, a3, a4, a5, a6, a7, a8, a9, an, av_mk, cl_app]
      refine ⟨by simp, by simp, fun _ => ?_, fun h => absurd h (by simp; omega)⟩
      unfold rdL at hK'
      have hA0 : Sm 0 A := hlA
      have hmv' : isT (AV.bool cs.2.2) := hmv
      repeat' (first
        | exact hent
        | assumption
        | exact rfl
        | exact ⟨0, by decide, hA0⟩
        | exact ⟨1, by decide, sm_ad hA0⟩
        | exact ⟨2, by decide, sm_ad (sm_ad hA0)⟩
        | exact ⟨3, by decide, sm_ad (sm_ad (sm_ad hA0))⟩
        | exact ⟨4, by decide, sm_ad (sm_ad (sm_ad (sm_ad hA0)))⟩
        | exact ⟨5, by decide, sm_ad (sm_ad (sm_ad (sm_ad (sm_ad hA0))))⟩
        | (apply And.intro; · (first | exact hent | exact hb1 | exact hb2 | exact rfl | exact hmv' | assumption | (simp; done)))
        | (apply And.intro <;> intro p)
        | (refine join_ad rfl ?_ ?_ ?_ ?_)
        | (simp only [List.getD_cons_zero, cl_app])
        | intro vs)
      all_goals (first
        | (have e2 : decide (1000 * r ≤ H) = true := ‹isT (AV.bin Go.BinOp.geq (AV.int H) (AV.int (1000 * r)))›; rw [e2] at hK')
        | (have e2 : decide (1000 * r ≤ H) = false := ‹isF (AV.bin Go.BinOp.geq (AV.int H) (AV.int (1000 * r)))›; rw [e2] at hK'))
      all_goals (first
        | (have e3 : decide (k.sl ≤ cs.2.1 + 15 * r) = true := ‹isT (AV.bin Go.BinOp.geq (AV.int (cs.2.1 + 15 * r)) (AV.int k.sl))›; rw [e3] at hK')
        | (have e3 : decide (k.sl ≤ cs.2.1 + 15 * r) = false := ‹isF (AV.bin Go.BinOp.geq (AV.int (cs.2.1 + 15 * r)) (AV.int k.sl))›; rw [e3] at hK'))
      all_goals (first
        | (have e4 : decide (k.sl ≤ cs.2.1 - 15 * r) = true := ‹isT (AV.bin Go.BinOp.geq (AV.int (cs.2.1 - 15 * r)) (AV.int k.sl))›; rw [e4] at hK')
        | (have e4 : decide (k.sl ≤ cs.2.1 - 15 * r) = false := ‹isF (AV.bin Go.BinOp.geq (AV.int (cs.2.1 - 15 * r)) (AV.int k.sl))›; rw [e4] at hK'))
      all_goals simp only [hmv, Bool.true_and, Bool.false_and, ad_f, List.getD_cons_zero, List.getD_cons_succ] at hK' ⊢
      all_goals exact hK'
    · rintro _ K _
      simp only [List.getD_cons_zero, List.getD_cons_succ]
      refine ⟨by simp, by simp, fun h => absurd h (by simp), fun _ => ?_⟩
      have hlen := outL_len c H k cs 3
      exact ⟨by simp, by simp, by simp, _, eqc_fn _ (by omega), by simp, by simp, .lit _, rfl⟩
theorem llistsF_fn (c : ByteArray) (l : List Nd) (t : Int) (k : Kd) (hmv : (csV (atN l t) l).2.2 = false) : Fn Tryz.prog 3 [.string c, tube l, .int t, kd k] .sc (.bool true) := by
  have e := RlU.listsF_form (.string c) (tube l) (.int t) (kd k) (.bool true)
  have kk := fun h => fn_run mixed 3 (Γ := RlU.Γ) (ann := RlU.ann) Tryz.func3 rfl Tryz.call3 (e.mpr h)
  refine kk ?_
  clear kk e
  have hbad : ∀ n : Int, n ≠ 0 → cndE c l t k = n → cndV c l t k = .tup [.sl 4 [], .int n] := fun n hn he => by unfold cndV; rw [he, if_neg hn]
  refine ⟨by simp, by simp [encKd], _, rfact_fn, by simp, by simp, by simp, _, cnd_fn c l t k, _, tcheck_fn l, by simp, by simp, fun h => ?_, fun h => ?_⟩
  rotate_left
  · have g : tE l ≠ 0 := by simpa using h
    rw [hbad (tE l) g (by unfold cndE; rw [if_pos g])]
    simp [g, fSame]
  have g1 : tE l = 0 := by simpa using h
  refine ⟨_, acheck_fn k, by simp, by simp, fun h => ?_, fun h => ?_⟩
  rotate_left
  · have g : kE k ≠ 0 := by simpa using h
    rw [hbad (kE k) g (by unfold cndE; rw [if_neg (by simp [g1]), if_pos g])]
    simp [g, fSame]
  have g2 : kE k = 0 := by simpa using h
  obtain ⟨hpos, h64, hG⟩ := tE_ok g1
  obtain ⟨a, ha⟩ : ∃ a, l[0]? = some a := ⟨_, List.getElem?_eq_getElem hpos⟩
  obtain ⟨b, hb⟩ : ∃ b, l[l.length - 1]? = some b := ⟨_, List.getElem?_eq_getElem (by omega)⟩
  have had : l.getD 0 default = a := by rw [List.getD_eq_getElem?_getD, ha]; rfl
  have hbd : l.getD (l.length - 1) default = b := by rw [List.getD_eq_getElem?_getD, hb]; rfl
  have hat0 : AV.at (tube l) (.int 0) 0 = .int a.t := by rw [lst_atI (by omega) (by simpa using ha)]; rfl
  have hat1 : AV.at (tube l) (.int ((l.length : Int) - 1)) 0 = .int b.t := by rw [lst_atI (by omega) (by rw [show ((l.length : Int) - 1).toNat = l.length - 1 by omega]; exact hb)]; rfl
  have hsub : AV.bin Go.BinOp.sub (AV.len (tube l)) (.int 1) = .int ((l.length : Int) - 1) := by
    have : wr ((l.length : Int) - 1) = (l.length : Int) - 1 := wr_id (by omega) (by omega)
    simp [this]
  have h12 : t < a.t ∨ t > b.t → cndV c l t k = .tup [.sl 4 [], .int 12] := fun q => by
    have : tatE l t = 12 := by unfold tatE; rw [if_neg (by simp [g1]), had, hbd, if_pos q]
    exact hbad 12 (by decide) (by unfold cndE; rw [if_neg (by simp [g1]), if_neg (by simp [g2]), this, if_pos (by decide)])
  simp only [hat0, hat1, hsub]
  refine ⟨by simp, by simp; omega, by simp, by simp, fun h => ?_, fun h => ?_⟩
  · have g : t < a.t := by simpa using h
    rw [h12 (.inl g)]
    simp [g, g2, fSame]
  have g3 : a.t ≤ t := by simpa using h
  refine ⟨by simp, by simp, by simp, by simp; omega, by simp, by simp, h, by simp [g2], by simp [g2], by simp, fun h => ?_, fun h => ?_⟩
  · have g : b.t < t := by simpa using h
    rw [h12 (.inr g)]
    simp [g2, fSame]
  have g4 : t ≤ b.t := by simpa using h
  have g5 : tatE l t = 0 := by unfold tatE; rw [if_neg (by simp [g1]), had, hbd, if_neg (by omega)]
  refine ⟨by simp, by simp, by simp [g2], by simp, _, cerr_fn ⟨c, 0, 0, ⟨#[]⟩⟩, by simp, by simp, fun h => ?_, fun h => ?_⟩
  · have g : clE ⟨c, 0, 0, ⟨#[]⟩⟩ ≠ 0 := by simpa using h
    rw [hbad _ g (by unfold cndE; rw [if_neg (by simp [g1]), if_neg (by simp [g2]), if_neg (by simp [g5])])]
    simp [g, fSame]
  have g6 : clE ⟨c, 0, 0, ⟨#[]⟩⟩ = 0 := by simpa using h
  have hV : cndV c l t k = .tup [clr (cndL c l t k), .int 0] := by
    have : cndE c l t k = 0 := by unfold cndE; rw [if_neg (by simp [g1]), if_neg (by simp [g2]), if_neg (by simp [g5]), g6]
    unfold cndV; rw [if_pos this]
  rw [hV]
  clear hbad hV h12 h
  have h3 := tat_fn l t
  rw [show tatV l t = .tup [nd (atN l t), .int 0] by unfold tatV; rw [if_pos g5]] at h3
  obtain ⟨_, hlo, hhi⟩ := tatE_ok g5
  obtain ⟨_, hH0, hH1⟩ := atN_ok g1 hlo hhi
  have htm : ∀ x ∈ l, 0 ≤ x.t ∧ x.t ≤ 200000 := fun x hx => by
    obtain ⟨j, hj⟩ := List.getElem?_of_mem hx
    have := (tG_get hG hj).2.1
    exact ⟨this.1, this.2.1⟩
  have hat := htm a (List.mem_of_getElem? ha)
  have hbt := htm b (List.mem_of_getElem? hb)
  have hnt := atN_time l t
  have hcl1 : 1 ≤ k.cl ∧ k.cl ≤ 60000 := by
    unfold kE at g2
    split at g2
    · cases g2
    · split at g2
      · cases g2
      · split at g2
        · cases g2
        · omega
  refine ⟨_, h3, by simp [encN], by simp, by simp, ?_⟩
  have hn1 : AV.cel (AV.prj (.tup [nd (atN l t), .int 0]) 0) 1 = .int (atN l t).x := rfl
  have hn2 : AV.cel (AV.prj (.tup [nd (atN l t), .int 0]) 0) 2 = .int (atN l t).y := rfl
  have hn3 : AV.cel (AV.prj (.tup [nd (atN l t), .int 0]) 0) 3 = .int (atN l t).h := rfl
  have hk2 : AV.cel (kd k) 2 = .int k.cl := rfl
  have hk5 : AV.cel (kd k) 5 = .int k.sl := rfl
  have hk6 : AV.cel (kd k) 6 = .int k.fa := rfl
  refine ⟨fun m ys => ∃ n : Nat, ys = [.int (csV (atN l t) (l.drop n)).1, .int (csV (atN l t) (l.drop n)).2.1, .bool (csV (atN l t) (l.drop n)).2.2, .int ((n : Int) - 1)] ∧ n ≤ l.length ∧ m = n ∧ ∀ x ∈ l.drop n, t < x.t, l.length, ⟨l.length, by rw [List.drop_length]; rfl, Nat.le_refl _, rfl, by simp⟩, ?_⟩
  rintro n ys _ ⟨n', rfl, hn, rfl, hall⟩
  have hn0 : n ≠ 0 := fun z => by
    subst z
    have := hall a (by rw [List.drop_zero]; exact List.mem_of_getElem? ha)
    omega
  obtain ⟨i, rfl⟩ : ∃ i, n = i + 1 := ⟨n - 1, by omega⟩
  have hi' : (((i + 1 : Nat) : Int) - 1) = (i : Int) := by omega
  obtain ⟨x, hx⟩ : ∃ x, l[i]? = some x := ⟨_, List.getElem?_eq_getElem (by omega)⟩
  have hxt := htm x (List.mem_of_getElem? hx)
  have ht0 : AV.at (tube l) (.int (i : Int)) 0 = .int x.t := by rw [lst_at hx]; rfl
  have ht1 : AV.at (tube l) (.int (i : Int)) 1 = .int x.x := by rw [lst_at hx]; rfl
  have ht2 : AV.at (tube l) (.int (i : Int)) 2 = .int x.y := by rw [lst_at hx]; rfl
  have ht3 : AV.atAgg (tube l) (.int (i : Int)) 1 2 = .agg [.int x.x, .int x.y] := by rw [lst_atAgg hx]; rfl
  have sx : AV.bin Go.BinOp.sub (.int x.x) (.int (atN l t).x) = .int (wr (x.x - (atN l t).x)) := rfl
  have sy : AV.bin Go.BinOp.sub (.int x.y) (.int (atN l t).y) = .int (wr (x.y - (atN l t).y)) := rfl
  have st : AV.bin Go.BinOp.sub (.int x.t) (.int t) = .int (x.t - t) := by rw [av_subt, wr_eq, wr_id (by omega) (by omega)]
  have si : AV.bin Go.BinOp.sub (.int (i : Int)) (.int 1) = .int ((i : Int) - 1) := by rw [av_subt, wr_eq, wr_id (by omega) (by omega)]
  have hdr : l.drop i = x :: l.drop (i + 1) := by
    have hil : i < l.length := by omega
    rw [List.drop_eq_getElem_cons hil]
    rw [List.getElem?_eq_getElem hil] at hx
    injection hx with hx
    rw [hx]
  have hin : AV.inb (tube l) (.int (i : Int)) := by simp; omega
  simp only [List.getD_cons_zero, List.getD_cons_succ, hi', ht0, ht1, ht2, ht3, hn1, hn2, hn3, hk2, hk5, hk6, sx, sy, st, si]
  refine ⟨by simp, by simp, by simp, by simp, hin, by simp, by simp, by simp, by simp, fun p => ?_, fun p => ?_⟩
  · have p : t < x.t := by simpa using p
    have hda := ang_fn (wr (x.x - (atN l t).x)) (wr (x.y - (atN l t).y))
    have hdd := dist_fn (atN l t).p x.p
    have hdb := disA_bd (atN l t).p x.p
    have hq : (disA (atN l t).p x.p).tdiv (x.t - t) = disA (atN l t).p x.p / (x.t - t) := Int.tdiv_eq_ediv_of_nonneg hdb.1
    have hqb : 0 ≤ disA (atN l t).p x.p / (x.t - t) ∧ disA (atN l t).p x.p / (x.t - t) ≤ 3037000499 := ⟨Int.ediv_nonneg hdb.1 (by omega), Int.le_trans (Int.ediv_le_self _ hdb.1) hdb.2⟩
    have w3 : wr (disA (atN l t).p x.p / (x.t - t)) = disA (atN l t).p x.p / (x.t - t) := wr_id (by omega) (by omega)
    have hcs : csV (atN l t) (l.drop i) = cs1 (atN l t) x := by
      rw [hdr]
      show (if (atN l t).t < x.t then _ else _) = _
      rw [if_pos (by rw [hnt]; exact p)]
    refine ⟨by simp, hin, by simp, by simp, hin, by simp, by simp, by simp, _, hda, by simp, hin, _, hdd, by simp, hin, by simp, by simp; omega, by simp, by simp, i, by omega, i, ?_, by omega, rfl, ?_⟩
    · rw [hcs]
      unfold cs1
      simp [hq, w3, hnt]
      rfl
    · rw [hdr]
      intro y hy
      rcases List.mem_cons.1 hy with rfl | hy
      · exact p
      · exact hall y hy
  · have p : x.t ≤ t := by simpa using p
    have hcsE : csV (atN l t) l = csV (atN l t) (l.drop (i + 1)) := csV_drop _ _ _ fun j y hj hy => by
      rw [hnt]
      rcases Nat.lt_or_ge j i with q | q
      · have := (tG_get hG hy).2.2 i x q hx
        omega
      · obtain rfl : j = i := by omega
        rw [hx] at hy
        injection hy with hy
        rw [← hy]; exact p
    have hbdC := csV_bd (atN l t) (l.drop (i + 1)) fun y hy => htm y (List.mem_of_mem_drop hy)
    unfold cndL
    rw [hcsE] at hmv ⊢
    clear hcsE hall ht0 ht1 ht2 ht3 sx sy st si hdr hin h3 hn1 hn2 hn3
    generalize csV (atN l t) (l.drop (i + 1)) = cs at *
    generalize (atN l t).h = H at *
    obtain ⟨hc1, hc2, hc3, hc4⟩ := hbdC
    refine loop_nat (σ := Unit) 3 (fun n _ => [.int ((n : Int) + 1), clr (outL c H k cs n)]) (fun _ _ => True) () rfl trivial ?_ ?_
    · rintro n _ K hn _ hK
      have hK' := hK [.int ((n : Int) + 1 + 1), clr (outL c H k cs (n + 1))] () (by simp) trivial
      clear hK
      have hlen := outL_len c H k cs n
      have eO : outL c H k cs (n + 1) = rdL c H k cs ((n : Int) + 1) (outL c H k cs n) := rfl
      rw [eO] at hK'
      generalize outL c H k cs n = A at *
      have w1 : wr ((n : Int) + 1 + 1) = (n : Int) + 1 + 1 := wr_id (by omega) (by omega)
      have hr1 : 1 ≤ (n : Int) + 1 := by omega
      have hr3 : (n : Int) + 1 ≤ 3 := by omega
      have hlA : A.length ≤ 100 := by omega
      clear hlen eO
      generalize (n : Int) + 1 = r at *
      have m1 : AV.bin Go.BinOp.mul (AV.int 1000) (AV.int r) = .int (1000 * r) := by rw [av_mul, wr_eq, wr_id (by omega) (by omega)]
      have m2 : AV.bin Go.BinOp.mul (AV.int 15) (AV.int r) = .int (15 * r) := by rw [av_mul, wr_eq, wr_id (by omega) (by omega)]
      have m3 : AV.bin Go.BinOp.mul (AV.int 171) (AV.int r) = .int (171 * r) := by rw [av_mul, wr_eq, wr_id (by omega) (by omega)]
      have a1 : AV.bin Go.BinOp.add (AV.int H) (AV.int (1000 * r)) = .int (H + 1000 * r) := by rw [av_add, wr_eq, wr_id (by omega) (by omega)]
      have a2 : AV.bin Go.BinOp.sub (AV.int H) (AV.int (1000 * r)) = .int (H - 1000 * r) := by rw [av_subt, wr_eq, wr_id (by omega) (by omega)]
      have a3 : AV.bin Go.BinOp.add (AV.int cs.2.1) (AV.int (15 * r)) = .int (cs.2.1 + 15 * r) := by rw [av_add, wr_eq, wr_id (by omega) (by omega)]
      have a4 : AV.bin Go.BinOp.sub (AV.int cs.2.1) (AV.int (15 * r)) = .int (cs.2.1 - 15 * r) := by rw [av_subt, wr_eq, wr_id (by omega) (by omega)]
      have a5 : AV.bin Go.BinOp.add (AV.int cs.1) (AV.int (171 * r)) = .int (cs.1 + 171 * r) := by rw [av_add, wr_eq, wr_id (by omega) (by omega)]
      have a6 : AV.bin Go.BinOp.add (AV.int cs.1) (AV.int 4096) = .int (cs.1 + 4096) := by rw [av_add, wr_eq, wr_id (by omega) (by omega)]
      have a7 : AV.bin Go.BinOp.sub (AV.int (cs.1 + 4096)) (AV.int (171 * r)) = .int (cs.1 + 4096 - 171 * r) := by rw [av_subt, wr_eq, wr_id (by omega) (by omega)]
      have a8 : AV.bin Go.BinOp.rem (AV.int (cs.1 + 171 * r)) (AV.int 4096) = .int ((cs.1 + 171 * r) % 4096) := by rw [av_rem, Int.tmod_eq_emod_of_nonneg (by omega)]
      have a9 : AV.bin Go.BinOp.rem (AV.int (cs.1 + 4096 - 171 * r)) (AV.int 4096) = .int ((cs.1 - 171 * r) % 4096) := by rw [av_rem, Int.tmod_eq_emod_of_nonneg (by omega), show cs.1 + 4096 - 171 * r = cs.1 - 171 * r + 4096 by omega, Int.add_emod_right]
      have an : AV.bin Go.BinOp.add (AV.int r) (AV.int 1) = .int (r + 1) := by rw [av_add, wr_eq, w1]
      have hb1 : AV.binOk Go.BinOp.rem (AV.int (cs.1 + 171 * r)) (AV.int 4096) := by simp
      have hb2 : AV.binOk Go.BinOp.rem (AV.int (cs.1 + 4096 - 171 * r)) (AV.int 4096) := by simp
      have hent : fEnt Tryz.prog 12 := Tryz.call12
      simp only [List.getD_cons_zero, List.getD_cons_succ, m1, m2, m3, a1, a2, a3, a4, a5, a6, a7, a8, a9, an, av_mk, cl_app]
      refine ⟨by simp, by simp, fun _ => ?_, fun h => absurd h (by simp; omega)⟩
      unfold rdL at hK'
      have hA0 : Sm 0 A := hlA
      have hmv' : isF (AV.bool cs.2.2) := hmv
      repeat' (first
        | exact hent
        | assumption
        | exact rfl
        | exact ⟨0, by decide, hA0⟩
        | exact ⟨1, by decide, sm_ad hA0⟩
        | exact ⟨2, by decide, sm_ad (sm_ad hA0)⟩
        | exact ⟨3, by decide, sm_ad (sm_ad (sm_ad hA0))⟩
        | exact ⟨4, by decide, sm_ad (sm_ad (sm_ad (sm_ad hA0)))⟩
        | exact ⟨5, by decide, sm_ad (sm_ad (sm_ad (sm_ad (sm_ad hA0))))⟩
        | (apply And.intro; · (first | exact hent | exact hb1 | exact hb2 | exact rfl | exact hmv' | assumption | (simp; done)))
        | (apply And.intro <;> intro p)
        | (refine join_ad rfl ?_ ?_ ?_ ?_)
        | (simp only [List.getD_cons_zero, cl_app])
        | intro vs)
      all_goals (first
        | (have e2 : decide (1000 * r ≤ H) = true := ‹isT (AV.bin Go.BinOp.geq (AV.int H) (AV.int (1000 * r)))›; rw [e2] at hK')
        | (have e2 : decide (1000 * r ≤ H) = false := ‹isF (AV.bin Go.BinOp.geq (AV.int H) (AV.int (1000 * r)))›; rw [e2] at hK'))
      all_goals simp only [hmv, Bool.true_and, Bool.false_and, ad_f, List.getD_cons_zero, List.getD_cons_succ] at hK' ⊢
      all_goals exact hK'
    · rintro _ K _
      simp only [List.getD_cons_zero, List.getD_cons_succ]
      refine ⟨by simp, by simp, fun h => absurd h (by simp), fun _ => ?_⟩
      have hlen := outL_len c H k cs 3
      exact ⟨by simp, by simp, by simp, _, eqc_fn _ (by omega), by simp, by simp, .lit _, rfl⟩
theorem llists_fn (c : ByteArray) (l : List Nd) (t : Int) (k : Kd) : Fn Tryz.prog 3 [.string c, tube l, .int t, kd k] .sc (.bool true) := by
  cases h : (csV (atN l t) l).2.2 with
  | true => exact llistsT_fn c l t k h
  | false => exact llistsF_fn c l t k h
end Go.Proofs.YtacfofpbbempaaaGreatDoor
/- resolve: the arguments of ResolveLists. -/
namespace Go.Proofs.YtacfofpbbempaaaGreatDoor
open Go.RowKit
set_option linter.unusedVariables false
set_option linter.unusedSimpArgs false
set_option maxRecDepth 100000
theorem of4 {α : Type} {l : List α} (h : l.length = 4) : ∃ a b c d, l = [a, b, c, d] := by
  match l, h with
  | [a, b, c, d], _ => exact ⟨a, b, c, d, rfl⟩
theorem of6 {α : Type} {l : List α} (h : l.length = 6) : ∃ a b c d e f, l = [a, b, c, d, e, f] := by
  match l, h with
  | [a, b, c, d, e, f], _ => exact ⟨a, b, c, d, e, f, rfl⟩
theorem of7 {α : Type} {l : List α} (h : l.length = 7) : ∃ a b c d e f g, l = [a, b, c, d, e, f, g] := by
  match l, h with
  | [a, b, c, d, e, f, g], _ => exact ⟨a, b, c, d, e, f, g, rfl⟩
theorem arg_tube {x : AV} (h : ArgOk Tryz.prog 23 x) : ∃ l, x = tube l ∧ l.length ≤ maxLen := by
  obtain ⟨l, e, h1, _⟩ := c_lst (P := Tryz.prog) (encA := encN) (Q := fun _ => True) (tys := [3, 3, 3, 3, 3, 3]) (s := 6) (e := 38) (by kernel_rfl) (by kernel_rfl) (by kernel_rfl) (fun y hy hc => by
    obtain ⟨a, b, c, d, e, f, rfl⟩ := of6 hy
    obtain ⟨s1, e1, _⟩ := c_int (by kernel_rfl) (hc 0 3 rfl)
    obtain ⟨s2, e2, _⟩ := c_int (by kernel_rfl) (hc 1 3 rfl)
    obtain ⟨s3, e3, _⟩ := c_int (by kernel_rfl) (hc 2 3 rfl)
    obtain ⟨s4, e4, _⟩ := c_int (by kernel_rfl) (hc 3 3 rfl)
    obtain ⟨s5, e5, _⟩ := c_int (by kernel_rfl) (hc 4 3 rfl)
    obtain ⟨s6, e6, _⟩ := c_int (by kernel_rfl) (hc 5 3 rfl)
    simp at e1 e2 e3 e4 e5 e6
    exact ⟨⟨s1, s2, s3, s4, s5, s6⟩, by rw [e1, e2, e3, e4, e5, e6]; rfl, trivial⟩) (arg_cell (by kernel_rfl) h)
  exact ⟨l, e, h1⟩
theorem arg_kd {x : AV} (h : ArgOk Tryz.prog 25 x) : ∃ k, x = kd k := by
  obtain ⟨cs, rfl, hl, hc⟩ := arg_agg (P := Tryz.prog) (t := 25) (tys := [9, 3, 3, 3, 3, 3, 3]) (by kernel_rfl) (by kernel_rfl) h
  obtain ⟨a, b, c, d, e, f, g, rfl⟩ := of7 hl
  obtain ⟨s1, e1, _⟩ := c_str (by kernel_rfl) (hc 0 9 rfl)
  obtain ⟨s2, e2, _⟩ := c_int (by kernel_rfl) (hc 1 3 rfl)
  obtain ⟨s3, e3, _⟩ := c_int (by kernel_rfl) (hc 2 3 rfl)
  obtain ⟨s4, e4, _⟩ := c_int (by kernel_rfl) (hc 3 3 rfl)
  obtain ⟨s5, e5, _⟩ := c_int (by kernel_rfl) (hc 4 3 rfl)
  obtain ⟨s6, e6, _⟩ := c_int (by kernel_rfl) (hc 5 3 rfl)
  obtain ⟨s7, e7, _⟩ := c_int (by kernel_rfl) (hc 6 3 rfl)
  simp at e1 e2 e3 e4 e5 e6 e7
  exact ⟨⟨s1, s2, s3, s4, s5, s6, s7⟩, by rw [e1, e2, e3, e4, e5, e6, e7]; rfl⟩
theorem arg_intT {x : AV} (h : ArgOk Tryz.prog 3 x) : ∃ n, x = .int n ∧ I64 n := c_int (by kernel_rfl) (arg_cell (by kernel_rfl) h)
theorem arg_strT {x : AV} (h : ArgOk Tryz.prog 9 x) : ∃ s, x = .string s ∧ s.size ≤ maxLen := c_str (by kernel_rfl) (arg_cell (by kernel_rfl) h)
theorem resolveLists_all (xs : List AV) (h1 : xs.length = 4) (h2 : ∀ i, i < 4 → ArgOk Tryz.prog ([9, 23, 3, 25].getD i 0) (xs.getD i default))
    (h3 : ∀ i s L e, i < 4 → xs.getD i default = .sl s L → Tryz.prog.underlying ([9, 23, 3, 25].getD i 0) = some (.slice e) → L.length * Tryz.prog.bytesOf e ≤ reachBytes) : Fn Tryz.prog 3 xs .sc (.bool true) := by
  obtain ⟨a, b, c, d, rfl⟩ := of4 h1
  obtain ⟨s, e1, _⟩ := arg_strT (h2 0 (by omega))
  obtain ⟨l, e2, _⟩ := arg_tube (h2 1 (by omega))
  obtain ⟨n, e3, _⟩ := arg_intT (h2 2 (by omega))
  obtain ⟨k, e4⟩ := arg_kd (h2 3 (by omega))
  simp at e1 e2 e3 e4
  subst e1 e2 e3 e4
  exact llists_fn s l n k
end Go.Proofs.YtacfofpbbempaaaGreatDoor
