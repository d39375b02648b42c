/- taxi.Queue and taxi.Late. -/
import Derived.Test.YtlhhdonpoglfkaaTaxi3
namespace Go.Proofs.Ytlhhdonpoglfkaa
open Go.RowKit
set_option linter.unusedVariables false
set_option linter.unusedSimpArgs false
set_option maxRecDepth 100000
/-- When a movement leaves, behind one that left. -/
def lvT (gap : Int) : Option Int → Tx → Int
  | none, m => m.h
  | some p, m => if p + gap > m.h then p + gap else m.h
def leave (m : Tx) (t : Int) : Tx := { m with l := t }
@[simp] theorem leave_l (m : Tx) (t : Int) : (leave m t).l = t := rfl
@[simp] theorem leave_h (m : Tx) (t : Int) : (leave m t).h = m.h := rfl
def passT (gap : Int) : Option Int → List Tx → List Tx
  | _, [] => []
  | p, m :: r => leave m (lvT gap p m) :: passT gap (some (lvT gap p m)) r
def overT (gap : Int) : Option Int → List Tx → Bool
  | _, [] => false
  | p, m :: r => decide (lvT gap p m > 200000) || overT gap (some (lvT gap p m)) r
def queL (l : List Sd) (d : List Ak) (gap : Int) : List Tx := passT gap none (srtT (d.map (mkT l)))
def queE (l : List Sd) (d : List Ak) (gap : Int) : Int := if askE l d ≠ 0 then askE l d else if gap < 0 ∨ gap > 1800 then 4 else if overT gap none (srtT (d.map (mkT l))) = true then 12 else 0
def queR (l : List Sd) (d : List Ak) (gap : Int) : List Tx := if queE l d gap = 0 then queL l d gap else []
def queV (l : List Sd) (d : List Ak) (gap : Int) : AV := .tup [txs (queR l d gap), .int (queE l d gap)]
theorem queV_err {l : List Sd} {d : List Ak} {gap e : Int} (h : queE l d gap = e) (h0 : e ≠ 0) : queV l d gap = .tup [.sl 4 [], .int e] := by
  unfold queV queR; rw [h, if_neg h0]; rfl
theorem queV_ok {l : List Sd} {d : List Ak} {gap : Int} (h : queE l d gap = 0) : queV l d gap = .tup [txs (queL l d gap), .int 0] := by
  unfold queV queR; rw [h, if_pos rfl]
theorem txs_snoc (o : List Tx) (x : Tx) : AV.app 4 (txs o) (.sl 4 [[.lit (.string x.c), .lit (.int .i64 x.p), .lit (.int .i64 x.h), .lit (.int .i64 x.l)]]) = txs (o ++ [x]) := by
  simp [lst, AV.app, AV.els, encT]
theorem set_mid {α : Type} (a : List α) (x y : α) (r : List α) : (a ++ x :: r).set a.length y = a ++ y :: r := by simp
theorem get_mid {α : Type} (a : List α) (x : α) (r : List α) : (a ++ x :: r)[a.length]? = some x := by simp
theorem get_last {α : Type} (a : List α) (q : α) (x : α) (r : List α) (h : a[a.length - 1]? = some q) (h0 : 0 < a.length) : (a ++ x :: r)[a.length - 1]? = some q := by
  rw [List.getElem?_append_left (by omega)]; exact h
theorem queue_fn (l : List Sd) (d : List Ak) (gap : Int) : Fn Try.prog 39 [sds l, aks d, .int gap] (.tup [.row 76 4 true, .sc]) (queV l d gap) := by
  refine fn_run mixed 3 (Γ := TaxiF.Γ) (ann := TaxiF.ann) Try.func39 rfl Try.call39 ((TaxiF.queue_form _ _ _ _).mpr ?_)
  refine ⟨_, tcheck_fn l d, ?_⟩
  simp
  have hE1 : askE l d ≠ 0 → queE l d gap = askE l d := fun h => by unfold queE; rw [if_pos h]
  have hE2 : askE l d = 0 → (gap < 0 ∨ gap > 1800) → queE l d gap = 4 := fun h h2 => by unfold queE; rw [if_neg (by simp [h]), if_pos h2]
  refine ⟨fun h => by rw [queV_err (hE1 h) h], fun h => ⟨fun h2 => ⟨h2, by rw [queV_err (hE2 h (.inl h2)) (by omega)]⟩, fun h2 => ⟨h2, fun h3 => by rw [queV_err (hE2 h (.inr h3)) (by omega)], fun h3 => ?_⟩⟩⟩
  have g := good_of h
  have hE3 : overT gap none (srtT (d.map (mkT l))) = true → queE l d gap = 12 := fun q => by unfold queE; rw [if_neg (by simp [h]), if_neg (by omega), if_pos q]
  have hE4 : overT gap none (srtT (d.map (mkT l))) = false → queE l d gap = 0 := fun q => by unfold queE; rw [if_neg (by simp [h]), if_neg (by omega), if_neg (by simp [q])]
  have gl := g.len
  have gd := g.lend
  refine loop_list (σ := Unit) d (fun n _ => [.int (n : Nat), txs ((d.map (mkT l)).take n)]) (fun n rest _ => True) () (by simp) trivial ?_ ?_
  · rintro n x rest _ K hx hr hn _ hK
    have hw2 : IntKind.i64.wrap ((n : Int) + 1) = (n : Int) + 1 := wrap64 (by omega) (by omega)
    have hxm : x ∈ d := List.mem_of_getElem? hx
    obtain ⟨s1, s2⟩ := g.st x hxm
    have hr2 := g.r x hxm
    have ht2 := g.tm x hxm
    obtain ⟨sd, hsd⟩ : ∃ sd, l[(stI l x.s).toNat]? = some sd := ⟨_, List.getElem?_eq_getElem (by omega)⟩
    have htm : tmeI l x.s = sd.t := by unfold tmeI; rw [hsd]; rfl
    have hw3 : IntKind.i64.wrap (x.r + sd.t) = x.r + sd.t := by rw [htm] at ht2; exact wrap64 (by omega) (by omega)
    have hat : AV.at (sds l) (.lit (.int .i64 (stI l x.s))) 1 = .int sd.t := by rw [lst_atI s1 hsd]; rfl
    simp [hn, lst_atAgg hx, encK]
    refine ⟨_, stand_fn l x.s (by omega), ?_⟩
    have hsn := txs_snoc ((d.map (mkT l)).take n) (mkT l x)
    have hmk : (mkT l x) = ⟨x.c, x.r, x.r + sd.t, 0⟩ := by unfold mkT; rw [htm]
    rw [hmk] at hsn
    have hroom : AV.room (txs ((d.map (mkT l)).take n)) (.sl 4 [[.lit (.string x.c), .lit (.int .i64 x.r), .lit (.int .i64 (x.r + sd.t)), .lit (.int .i64 0)]]) 40 := by
      unfold AV.room; rw [lst_els]; simp [AV.els]; omega
    have hK2 := hK [.int ((n : Nat) + 1), txs ((d.map (mkT l)).take (n + 1))] () (by simp) trivial
    rw [take_snoc (x := mkT l x) (by rw [List.getElem?_map, hx]; rfl), hmk] at hK2
    simp [s1, s2, hat, hw3, hw2, hsn, hroom]
    exact hK2
  · rintro _ K _
    rw [show d.length = (d.map (mkT l)).length by simp, List.take_length]
    simp
    refine ⟨_, sortq g, ?_⟩
    have hS := srtT_perm (d.map (mkT l))
    have hSl : (srtT (d.map (mkT l))).length = d.length := by rw [hS.length_eq]; simp
    have hSb : ∀ m ∈ srtT (d.map (mkT l)), 0 ≤ m.p ∧ m.p ≤ 200000 ∧ 0 ≤ m.h ∧ m.h ≤ 201800 := fun m hm => g.bnd m (hS.mem_iff.1 hm)
    have hql : queL l d gap = passT gap none (srtT (d.map (mkT l))) := rfl
    generalize srtT (d.map (mkT l)) = S at *
    simp
    refine loop_list (σ := List Tx × Option Int) S (fun n s => [.int (n : Nat), txs (s.1 ++ S.drop n)]) (fun n rest s => s.1.length = n ∧ passT gap none S = s.1 ++ passT gap s.2 rest ∧ overT gap none S = overT gap s.2 rest ∧ (n = 0 → s.2 = none) ∧ (0 < n → ∃ q, s.1[n - 1]? = some q ∧ s.2 = some q.l ∧ 0 ≤ q.l ∧ q.l ≤ 200000)) ([], none) (by simp) ⟨rfl, rfl, rfl, fun _ => rfl, fun q => absurd q (by omega)⟩ ?_ ?_
    · rintro n x rest ⟨dn, p⟩ K hx hr hn ⟨hdl, hp1, hp2, hz, hq⟩ hK
      simp only at hdl hp1 hp2 hz hq
      have hw2 : IntKind.i64.wrap ((n : Int) + 1) = (n : Int) + 1 := wrap64 (by omega) (by omega)
      have hw1 : IntKind.i64.wrap ((n : Int) - 1) = (n : Int) - 1 := wrap64 (by omega) (by omega)
      have hxb := hSb x (List.mem_of_getElem? hx)
      have hdr : S.drop n = x :: rest := by rw [List.drop_eq_getElem_cons hn, hr]; congr 1; exact (List.getElem?_eq_some_iff.1 hx).2
      rw [passT] at hp1
      rw [overT] at hp2
      have hm : (dn ++ x :: rest)[n]? = some x := by rw [← hdl]; exact get_mid _ _ _
      have hset : ∀ (y : Tx) (t : Int), y.c = x.c → y.p = x.p → y.h = x.h → AV.setEl (txs (dn ++ y :: rest)) (.lit (.int .i64 (n : Nat))) 3 [.lit (.int .i64 t)] = txs (dn ++ leave x t :: rest) := fun y t e1 e2 e3 => by
        rw [lst_setEl (x := y) (x' := leave x t) (by rw [← hdl]; exact get_mid _ _ _) (by simp [encT, leave, e1, e2, e3]), ← hdl, set_mid]
      have hgl : ∀ (y : Tx), (dn ++ y :: rest)[n]? = some y := fun y => by rw [← hdl]; exact get_mid _ _ _
      have hlen : n < (dn ++ x :: rest).length := by simp; omega
      have hlen2 : ∀ y : Tx, (dn ++ y :: rest).length = dn.length + (rest.length + 1) := fun y => by simp
      have hnl : (n : Int) < ((dn.length + (rest.length + 1) : Nat) : Int) := by omega
      have hfin : ∀ t : Int, t = lvT gap p x → (t > 200000 → queV l d gap = .tup [.sl 4 [], .int 12]) ∧ (t ≤ 200000 → 0 ≤ t → K [.int ((n : Nat) + 1), txs (dn ++ leave x t :: rest)]) := fun t ht => by
        refine ⟨fun q => queV_err (hE3 (by rw [hp2, ← ht]; simp [q])) (by omega), fun q q0 => ?_⟩
        refine hK _ (dn ++ [leave x t], some t) (by simp [hr]) ⟨by simp [hdl], by rw [hp1, ← ht]; simp, by rw [hp2, ← ht]; simp; omega, fun q => absurd q (by omega), fun _ => ⟨leave x t, by simp [← hdl], rfl, q0, q⟩⟩
      clear hK
      have hat3 : ∀ y : Tx, AV.at (txs (dn ++ y :: rest)) (.lit (.int .i64 (n : Nat))) 3 = .int y.l := fun y => by rw [lst_at (hgl y)]; rfl
      have hat2 : ∀ y : Tx, AV.at (txs (dn ++ y :: rest)) (.lit (.int .i64 (n : Nat))) 2 = .int y.h := fun y => by rw [lst_at (hgl y)]; rfl
      have hs1 := hset x x.h rfl rfl rfl
      have hs2 := fun t => hset (leave x x.h) t rfl rfl rfl
      clear hgl hm hset hlen hlen2 hnl hx hr hp1 hp2
      rcases Nat.eq_zero_or_pos n with hn0 | hn0
      · have hp0 := hz hn0
        obtain ⟨f1, f2⟩ := hfin x.h (by rw [hp0]; rfl)
        have hng : ¬ 0 < n := by omega
        clear hfin
        simp [hdr, hn, hdl, hat2, hat3, hs1, hw2, hng]
        (repeat' (first | exact trivial | (with_reducible intro hw; (try simp (disch := omega) only [wrap64] at hw); first | (exfalso; omega; done) | skip) | (with_reducible refine And.intro ?_ ?_) | omega | assumption))
        all_goals (first | (rw [f1 (by omega)]) | exact f2 (by omega) (by omega))
      · obtain ⟨q, hq1, hq2, hq3, hq4⟩ := hq hn0
        have hatp : ∀ y : Tx, AV.at (txs (dn ++ y :: rest)) (.lit (.int .i64 ((n : Int) - 1))) 3 = .int q.l := fun y => by
          rw [lst_atI (by omega) (x := q)]
          · rfl
          · rw [show ((n : Int) - 1).toNat = n - 1 by omega, List.getElem?_append_left (by omega)]; exact hq1
        obtain ⟨f1, f2⟩ := hfin (if q.l + gap > x.h then q.l + gap else x.h) (by rw [hq2]; rfl)
        have hwg : IntKind.i64.wrap (q.l + gap) = q.l + gap := wrap64 (by omega) (by omega)
        clear hfin
        have hmx : AV.mx (.lit (.int .i64 x.h)) (.lit (.int .i64 (q.l + gap))) = .int (if q.l + gap > x.h then q.l + gap else x.h) := rfl
        generalize hT : (if q.l + gap > x.h then q.l + gap else x.h) = T at *
        have hT0 : 0 ≤ T := by rw [← hT]; split <;> omega
        clear hT
        simp [hdr, hn, hdl, hat2, hat3, hs1, hw1, hw2, hn0, hatp, hwg, hmx, hs2]
        (repeat' (first | exact trivial | (with_reducible intro hw; (try simp (disch := omega) only [wrap64] at hw); first | (exfalso; omega; done) | skip) | (with_reducible refine And.intro ?_ ?_) | omega | assumption))
        all_goals (first | (rw [f1 (by omega)]) | exact f2 (by omega) (by omega))
    · rintro ⟨dn, p⟩ K ⟨hdl, hp1, hp2, _⟩
      simp at hp1 hp2
      have e : queE l d gap = 0 := hE4 (by rw [hp2]; rfl)
      simp [queV_ok e, hql, hp1, passT]
      exact flat_txs _
end Go.Proofs.Ytlhhdonpoglfkaa
