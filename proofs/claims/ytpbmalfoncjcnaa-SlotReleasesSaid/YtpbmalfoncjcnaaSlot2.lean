/- slot.Assign. -/
import Derived.Test.YtpbmalfoncjcnaaSlot
namespace Go.Proofs.Ytpbmalfoncjcnaa
open Go.RowKit
set_option linter.unusedVariables false
set_option linter.unusedSimpArgs false
set_option maxRecDepth 100000
def kM (x : Dm) : Int × List UInt8 := (x.t, key x.c)
def cfM (x y : List AV) : Int := cmpK (x.getD 1 default).num (y.getD 1 default).num (x.getD 0 default).str (y.getD 0 default).str
theorem cfM_lt (a b : Dm) : cfM (encM a) (encM b) < 0 ↔ klt (kM a) (kM b) := cmpK_lt _ _ _ _
theorem less_fn (a b : Dm) (h : 0 ≤ a.t ∧ a.t ≤ 1000000 ∧ 0 ≤ b.t ∧ b.t ≤ 1000000) : Fn Try.prog 43 [.agg (encM a), .agg (encM b)] .sc (.int (cfM (encM a) (encM b))) := by
  refine fn_run mixed 2 (Γ := SlotF.Γ) (ann := SlotF.ann) Try.func43 rfl Try.call43 ((SlotF.less_form _ _ _).mpr ?_)
  simp [encM]
  refine ⟨_, compare_fn _ _, ?_⟩
  simp
  have hw : IntKind.i64.wrap (a.t - b.t) = a.t - b.t := wrap64 (by omega) (by omega)
  rw [hw]
  have q := or_fn [a.t - b.t, cmpS a.c b.c] (by simp)
  rw [orI_cmp _ _ _ a.t b.t rfl] at q
  exact q
theorem GoodM.inj {l : List Dm} (g : GoodM l) : ∀ a ∈ l, ∀ b ∈ l, kM a = kM b → a = b := fun a ha b hb e => by
  refine inj_of (f := Dm.c) g.dist a ha b hb ?_
  have : key a.c = key b.c := congrArg (·.2) e
  exact key_inj this
theorem sortM {l : List Dm} (g : GoodM l) : FnU Try.prog 42 47 2 (dms l) [.clo 43 []] false (dms (srtB kM l)) := by
  have hmem : ∀ x ∈ l.map encM, ∃ a ∈ l, x = encM a := fun x hx => by obtain ⟨a, ha, e⟩ := List.mem_map.1 hx; exact ⟨a, ha, e.symm⟩
  refine sortU (P := Try.prog) (ρ := sortDm_ren) sortDm Try.isAgg47 Try.sizeOf47 (cs := []) (cf := cfM) (d := l.map encM) (s := (srtB kM l).map encM) (by omega) Try.call43 ?_ ?_ ?_ ?_ ?_ ?_ ?_ ?_
  · intro x hx y hy
    obtain ⟨a, ha, rfl⟩ := hmem x hx
    obtain ⟨b, hb, rfl⟩ := hmem y hy
    have h1 := g.tm a ha
    have h2 := g.tm b hb
    exact less_fn a b (by omega)
  · intro x hx
    obtain ⟨a, ha, rfl⟩ := hmem x hx
    rw [cfM_lt]; exact klt_irr _
  · intro x hx y hy z hz
    obtain ⟨a, ha, rfl⟩ := hmem x hx
    obtain ⟨b, hb, rfl⟩ := hmem y hy
    obtain ⟨c, hc, rfl⟩ := hmem z hz
    rw [cfM_lt, cfM_lt, cfM_lt]; exact klt_tr
  · intro x hx y hy z hz
    obtain ⟨a, ha, rfl⟩ := hmem x hx
    obtain ⟨b, hb, rfl⟩ := hmem y hy
    obtain ⟨c, hc, rfl⟩ := hmem z hz
    rw [cfM_lt, cfM_lt, cfM_lt]; exact klt_ntr
  · intro x hx y hy
    obtain ⟨a, ha, rfl⟩ := hmem x hx
    obtain ⟨b, hb, rfl⟩ := hmem y hy
    rw [cfM_lt, cfM_lt]
    intro h1 h2
    rw [g.inj a ha b hb (klt_tot h1 h2)]
  · have := g.len
    simp; omega
  · exact (srtB_perm kM _).map _
  · rw [List.pairwise_map]
    exact (srtB_sorted kM _).imp fun h => by rw [cfM_lt]; exact h
/-! ### which capacity -/
def lastIn (x : Int) : Int → Nat → List Cp → Int
  | a, _, [] => a
  | a, n, y :: r => lastIn x (if y.f ≤ x ∧ x < y.t then (n : Int) else a) (n + 1) r
def capA (c : List Cp) (x : Int) : Int := lastIn x (-1) 0 c
theorem capat_fn (c : List Cp) (x : Int) (hc : c.length ≤ 1000) : Fn Try.prog 53 [cps c, .int x] .sc (.int (capA c x)) := by
  refine fn_run mixed 3 (Γ := SlotF.Γ) (ann := SlotF.ann) Try.func53 rfl Try.call53 ((SlotF.capat_form _ _ _).mpr ?_)
  simp
  refine loop_list (σ := Int) c (fun n a => [.int a, .int (n : Nat)]) (fun n rest a => capA c x = lastIn x a n rest) (-1) rfl rfl ?_ ?_
  · rintro n y rest a K hy hr hn hg hK
    have hw2 : IntKind.i64.wrap ((n : Int) + 1) = (n : Int) + 1 := wrap64 (by omega) (by omega)
    rw [lastIn] at hg
    have gY : y.f ≤ x → x < y.t → K [.int (n : Nat), .int ((n : Nat) + 1)] := fun q1 q2 => hK _ (n : Int) (by simp) (by rw [hg, if_pos ⟨q1, q2⟩])
    have gN : ¬ (y.f ≤ x ∧ x < y.t) → K [.int a, .int ((n : Nat) + 1)] := fun q => hK _ a (by simp) (by rw [hg, if_neg q])
    clear hg hK
    simp [hn, lst_atAgg hy, encC, hw2]
    (repeat' (first | exact trivial | (with_reducible intro hw; (try simp (disch := omega) only [wrap64] at hw); first | (exfalso; omega; done) | skip) | (with_reducible refine And.intro ?_ ?_) | omega | assumption))
    all_goals (first | exact gY (by omega) (by omega) | exact gN (by omega))
  · intro a K hg
    simp [hg, lastIn]
theorem lastIn_none {x : Int} : ∀ {r : List Cp} {a : Int} {n : Nat}, (∀ y ∈ r, ¬ (y.f ≤ x ∧ x < y.t)) → lastIn x a n r = a
  | [], _, _, _ => rfl
  | y :: r, a, n, h => by
    rw [lastIn, if_neg (h y (by simp))]
    exact lastIn_none fun z hz => h z (List.mem_cons_of_mem _ hz)
theorem lastIn_at {x : Int} : ∀ {l : List Cp} {a : Int} {n k : Nat} {y : Cp}, l[k]? = some y → y.f ≤ x → x < y.t → (l.Pairwise fun x y => x.t ≤ y.f) → lastIn x a n l = ((n + k : Nat) : Int)
  | [], _, _, _, _, h, _, _, _ => by simp at h
  | z :: r, a, n, 0, y, h, h1, h2, hp => by
    simp at h
    subst h
    rw [lastIn, if_pos ⟨h1, h2⟩, lastIn_none]
    · rfl
    · intro w hw q
      have := (List.pairwise_cons.1 hp).1 w hw
      omega
  | z :: r, a, n, k + 1, y, h, h1, h2, hp => by
    rw [lastIn, lastIn_at (k := k) (y := y) (by simpa using h) h1 h2 (List.pairwise_cons.1 hp).2]
    congr 1; omega
/-- How many of the slots lie in a capacity. -/
def usedN (c : List Cp) (o : List So) (k : Nat) : Int := (o.countP (fun s => decide (capA c s.t = (k : Int))) : Nat)
def Cnd (u : Nat → Int) (t : Int) (i : Nat) (y : Cp) : Prop := u i < y.m ∧ t < y.t
instance (u : Nat → Int) (t : Int) (i : Nat) (y : Cp) : Decidable (Cnd u t i y) := inferInstanceAs (Decidable (_ ∧ _))
/-- The first capacity that has room and does not end before a time. -/
def pkN (u : Nat → Int) (t : Int) : Nat → List Cp → Int
  | _, [] => -1
  | n, y :: r => if Cnd u t n y then (n : Int) else pkN u t (n + 1) r
theorem pk_none {u : Nat → Int} {t : Int} : ∀ {l : List Cp} {n : Nat}, (∀ i y, l[i]? = some y → ¬ Cnd u t (n + i) y) → pkN u t n l = -1
  | [], _, _ => rfl
  | y :: r, n, h => by
    rw [pkN, if_neg (show ¬ Cnd u t n y from h 0 y rfl)]
    refine pk_none fun i z hz => ?_
    have := h (i + 1) z (by simpa using hz)
    rwa [show n + (i + 1) = n + 1 + i by omega] at this
theorem pk_first {u : Nat → Int} {t : Int} : ∀ {l : List Cp} {n k : Nat} {x : Cp}, l[k]? = some x → Cnd u t (n + k) x → (∀ i y, i < k → l[i]? = some y → ¬ Cnd u t (n + i) y) → pkN u t n l = ((n + k : Nat) : Int)
  | [], _, _, _, h, _, _ => by simp at h
  | y :: r, n, 0, x, h, hc, _ => by
    simp at h
    subst h
    rw [pkN, if_pos (show Cnd u t n y from hc)]; rfl
  | y :: r, n, k + 1, x, h, hc, hl => by
    rw [pkN, if_neg (show ¬ Cnd u t n y from hl 0 y (by omega) rfl), pk_first (k := k) (x := x) (by simpa using h) (by rwa [show n + 1 + k = n + (k + 1) by omega]) fun i z hi hz => ?_]
    · congr 1; omega
    · have := hl (i + 1) z (by omega) (by simpa using hz)
      rwa [show n + (i + 1) = n + 1 + i by omega] at this
theorem pk_spec {u : Nat → Int} {t : Int} : ∀ (l : List Cp) (n : Nat), (pkN u t n l = -1 ∧ ∀ i y, l[i]? = some y → ¬ Cnd u t (n + i) y) ∨ ∃ k x, pkN u t n l = ((n + k : Nat) : Int) ∧ l[k]? = some x ∧ Cnd u t (n + k) x
  | [], n => .inl ⟨rfl, fun i y h => by simp at h⟩
  | y :: r, n => by
    by_cases h : Cnd u t n y
    · exact .inr ⟨0, y, by rw [pkN, if_pos h]; rfl, rfl, h⟩
    · rcases pk_spec r (n + 1) with ⟨h1, h2⟩ | ⟨k, x, h1, h2, h3⟩
      · refine .inl ⟨by rw [pkN, if_neg h, h1], fun i z hz => ?_⟩
        cases i with
        | zero => simp at hz; subst hz; exact h
        | succ i => rw [show n + (i + 1) = n + 1 + i by omega]; exact h2 i z (by simpa using hz)
      · exact .inr ⟨k + 1, x, by rw [pkN, if_neg h, h1]; congr 1; omega, by simpa using h2, by rw [show n + (k + 1) = n + 1 + k by omega]; exact h3⟩
def mxT (t f : Int) : Int := if f > t then f else t
/-- Slots, one demand after the other. -/
def asg (p : ByteArray) (c : List Cp) : List So → List Dm → Option (List So)
  | o, [] => some o
  | o, d :: r => if pkN (usedN c o) d.t 0 c < 0 then none else asg p c (o ++ [⟨d.c, p, mxT d.t (c.getD (pkN (usedN c o) d.t 0 c).toNat default).f⟩]) r
def asgR (p : ByteArray) (l : List Dm) (c : List Cp) : Option (List So) := asg p c [] (srtB kM l)
def asgE (p : ByteArray) (l : List Dm) (c : List Cp) : Int := if sltE p l c ≠ 0 then sltE p l c else if (asgR p l c).isNone = true then 18 else 0
def asgL (p : ByteArray) (l : List Dm) (c : List Cp) : List So := if asgE p l c = 0 then (asgR p l c).getD [] else []
def asgV (p : ByteArray) (l : List Dm) (c : List Cp) : AV := .tup [sos (asgL p l c), .int (asgE p l c)]
theorem asgV_err {p : ByteArray} {l : List Dm} {c : List Cp} {e : Int} (h : asgE p l c = e) (h0 : e ≠ 0) : asgV p l c = .tup [.sl 3 [], .int e] := by
  unfold asgV asgL; rw [h, if_neg h0]; rfl
theorem asgV_ok {p : ByteArray} {l : List Dm} {c : List Cp} {o : List So} (h : sltE p l c = 0) (h0 : asgR p l c = some o) : asgV p l c = .tup [sos o, .int 0] := by
  have e : asgE p l c = 0 := by unfold asgE; rw [if_neg (by simp [h]), h0]; rfl
  unfold asgV asgL; rw [e, if_pos rfl, h0]; rfl
theorem asgV_no {p : ByteArray} {l : List Dm} {c : List Cp} (h : sltE p l c = 0) (h0 : asgR p l c = none) : asgV p l c = .tup [.sl 3 [], .int 18] :=
  asgV_err (by unfold asgE; rw [if_neg (by simp [h]), h0]; rfl) (by omega)
theorem asgV_slt {p : ByteArray} {l : List Dm} {c : List Cp} (h : sltE p l c ≠ 0) : asgV p l c = .tup [.sl 3 [], .int (sltE p l c)] :=
  asgV_err (by unfold asgE; rw [if_pos h]) h
theorem used_snoc {c : List Cp} (g : GoodC c) {o : List So} {s : So} {k : Nat} {x : Cp} (hx : c[k]? = some x) (h1 : x.f ≤ s.t) (h2 : s.t < x.t) (j : Nat) : usedN c (o ++ [s]) j = usedN c o j + (if k = j then 1 else 0) := by
  have : capA c s.t = (k : Int) := by
    have := lastIn_at (a := -1) (n := 0) hx h1 h2 g.ord
    rw [Nat.zero_add] at this; exact this
  unfold usedN
  rw [List.countP_append, List.countP_singleton, this]
  by_cases e : k = j
  · simp [e]
  · have : ¬ (k : Int) = (j : Int) := by omega
    simp [e, this]
theorem used_nil (c : List Cp) (k : Nat) : usedN c [] k = 0 := rfl
theorem used_bd (c : List Cp) (o : List So) (k : Nat) : 0 ≤ usedN c o k ∧ usedN c o k ≤ o.length := by
  unfold usedN
  have := List.countP_le_length (p := fun s => decide (capA c s.t = (k : Int))) (l := o)
  omega
/-- Ends of later capacities lie later. -/
theorem GoodC.mono {c : List Cp} (g : GoodC c) {i j : Nat} {x y : Cp} (hx : c[i]? = some x) (hy : c[j]? = some y) (h : i ≤ j) : x.t ≤ y.t := by
  rcases Nat.eq_or_lt_of_le h with e | e
  · subst e; rw [hx] at hy; injection hy with hy; subst hy; exact Int.le_refl _
  · obtain ⟨hi, e1⟩ := List.getElem?_eq_some_iff.1 hx
    obtain ⟨hj, e2⟩ := List.getElem?_eq_some_iff.1 hy
    have := List.pairwise_iff_getElem.1 g.ord i j hi hj e
    rw [e1, e2] at this
    have := g.bd y (List.mem_of_getElem? hy)
    omega
theorem rep_ints (n : Nat) : AV.rep 1 (.lit (.int .i64 (n : Nat))) [.lit (.int .i64 0)] = ints (List.replicate n 0) := by
  simp [AV.rep, lst, encI]
theorem sos_snoc (o : List So) (x : So) : AV.app 3 (sos o) (.sl 3 [[.lit (.string x.c), .lit (.string x.p), .lit (.int .i64 x.t)]]) = sos (o ++ [x]) := by
  simp [lst, AV.app, AV.els, encO]
theorem app_dms (l : List Dm) : AV.app 2 (.sl 2 []) (dms l) = dms l := by simp [lst, AV.app, AV.els]
theorem assign_fn (p : ByteArray) (l : List Dm) (c : List Cp) : Fn Try.prog 9 [.string p, dms l, cps c] (.tup [.row 34 3 true, .sc]) (asgV p l c) := by
  have e := SlotF.assign_form (.string p) (dms l) (cps c) (asgV p l c)
  have k := fun h => fn_run mixed 3 (Γ := SlotF.Γ) (ann := SlotF.ann) Try.func9 rfl Try.call9 (e.mpr h)
  refine k ?_
  clear k e
  have e1 : Ent Try.prog 12 := Try.call12
  have e2 : Ent Try.prog 41 := Try.call41
  have e3 : Ent Try.prog 46 := Try.call46
  have e4 : Ent Try.prog 47 := Try.call47
  refine ⟨e1, fun _ => ⟨_, name_fn p, ?_⟩⟩
  simp
  refine ⟨fun h => by rw [asgV_err (e := 3) (by unfold asgE sltE; simp [h]) (by omega)], fun hp => ⟨_, scheck_fn l, ?_⟩⟩
  simp
  refine ⟨fun h => by rw [asgV_err (e := demE l) (by unfold asgE sltE; simp [hp, h]) h], fun hd => ⟨_, fcheck_fn c, ?_⟩⟩
  simp
  refine ⟨fun h => by rw [asgV_err (e := capE c) (by unfold asgE sltE; simp [hp, hd, h]) h], fun hc => ⟨e2, ?_, ?_⟩⟩
  · intro h0
    subst h0
    have hclen := (goodC hc).len
    have hsl : sltE p [] c = 0 := by unfold sltE; simp [hp, hd, hc]
    have hmk : AV.mkOk (.lit (.int .i64 (c.length : Nat))) 8 := ⟨rfl, by simp, by simp; omega⟩
    have hs : FnU Try.prog 42 47 2 (.sl 2 []) [.clo 43 []] false (.sl 2 []) := sortM (goodM hd)
    refine ⟨_, hs, hmk, rfl, ?_⟩
    refine loop_nat (σ := Unit) 0 (fun n _ => [.int (n : Nat), .sl 3 [], AV.rep 1 (.lit (.int .i64 (c.length : Nat))) [.lit (.int .i64 0)]]) (fun n _ => True) () (by simp) trivial (fun n _ K hn => absurd hn (by omega)) ?_
    intro _ K _
    simp
    exact (asgV_ok hsl rfl).symm
  · have g := goodM hd
    have gc := goodC hc
    have hlen := g.len
    have hclen := gc.len
    have hroom : AV.room (.sl 2 []) (dms l) 24 := by unfold AV.room; rw [lst_els]; simp [AV.els]; omega
    have hsl : sltE p l c = 0 := by unfold sltE; simp [hp, hd, hc]
    have hmk : AV.mkOk (.lit (.int .i64 (c.length : Nat))) 8 := ⟨rfl, by simp, by simp; omega⟩
    have hS := srtB_perm kM l
    have hsort := sortM g
    have hR : asgR p l c = asg p c [] (srtB kM l) := rfl
    generalize srtB kM l = S at *
    simp only [app_dms]
    refine ⟨hroom, _, hsort, hmk, rfl, ?_⟩
    rw [rep_ints]
    refine loop_list (σ := List So × List Int) S (fun n s => [.int (n : Nat), sos s.1, ints s.2]) (fun n rest s => s.2.length = c.length ∧ (∀ k, k < c.length → s.2[k]? = some (usedN c s.1 k)) ∧ s.1.length = n ∧ asgR p l c = asg p c s.1 rest) ([], List.replicate c.length 0) (by simp) ⟨by simp, fun k hk => by simp [hk, used_nil], rfl, hR⟩ ?_ ?_
    · rintro n d rest ⟨o, U⟩ K hx hr hn ⟨h1, h2, h3, h4⟩ hK
      simp only at h1 h2 h3 h4
      have hSl : S.length = l.length := hS.length_eq
      have hd2 := g.tm d (hS.mem_iff.1 (List.mem_of_getElem? hx))
      have hw2 : IntKind.i64.wrap ((n : Int) + 1) = (n : Int) + 1 := wrap64 (by omega) (by omega)
      rw [asg] at h4
      have gNo : pkN (usedN c o) d.t 0 c = -1 → .tup [.sl 3 [], .int 18] = asgV p l c := fun q => (asgV_no hsl (by rw [h4, if_pos (by omega)])).symm
      have gK : ∀ (j : Nat) x, c[j]? = some x → d.t < x.t → pkN (usedN c o) d.t 0 c = (j : Int) → K [.int ((n : Nat) + 1), sos (o ++ [⟨d.c, p, mxT d.t x.f⟩]), ints (U.set j (usedN c o j + 1))] := fun j x hj ht hpk => by
        have hxb := gc.bd x (List.mem_of_getElem? hj)
        have hjl := (List.getElem?_eq_some_iff.1 hj).1
        refine hK _ (o ++ [⟨d.c, p, mxT d.t x.f⟩], U.set j (usedN c o j + 1)) (by simp) ⟨by simp [h1], fun k hk => ?_, by simp [h3], ?_⟩
        · rw [used_snoc gc hj (by show x.f ≤ mxT d.t x.f; unfold mxT; split <;> omega) (by show mxT d.t x.f < x.t; unfold mxT; split <;> omega)]
          rw [List.getElem?_set]
          by_cases e : j = k
          · subst e; simp [h1, hjl]
          · simp [e, h2 k hk]
        · rw [h4, if_neg (by omega), hpk]
          have : c.getD (j : Int).toNat default = x := by simp [List.getD_eq_getElem?_getD, hj]
          rw [this]
      clear hK h4
      simp [hn, lst_atAgg hx, encM, e3, e4]
      refine loop_list (σ := Unit) c (fun n _ => [.int (n : Nat)]) (fun k rest _ => ∀ i y, i < k → c[i]? = some y → y.t ≤ d.t) () (by simp) (fun i y h => absurd h (by omega)) ?_ ?_
      · rintro k y rest' _ K' hy hr' hk hg hK'
        have hw3 : IntKind.i64.wrap ((k : Int) + 1) = (k : Int) + 1 := wrap64 (by omega) (by omega)
        simp [hk, lst_atAgg hy, encC, hw3]
        refine ⟨fun hlt => ?_, fun hle => ?_⟩
        · refine loop_from (σ := Unit) c k (by omega) (fun n _ => [.int (n : Nat)]) (fun i rest _ => ∀ j z, j < i → c[j]? = some z → ¬ Cnd (usedN c o) d.t j z) () (by simp) (fun j z hj hz q => ?_) ?_ ?_
          · have := hg j z hj hz
            have := q.2
            omega
          · rintro i z rest2 _ K2 hki hz hr2 hi hG hK2
            have hw4 : IntKind.i64.wrap ((i : Int) + 1) = (i : Int) + 1 := wrap64 (by omega) (by omega)
            have hU := h2 i hi
            have hUl : i < U.length := by omega
            have hub := used_bd c o i
            have hw5 : IntKind.i64.wrap (usedN c o i + 1) = usedN c o i + 1 := wrap64 (by omega) (by omega)
            have hzt : d.t < z.t := by have := gc.mono hy hz hki; omega
            have hat : AV.at (ints U) (.lit (.int .i64 (i : Nat))) 0 = .int (usedN c o i) := by rw [lst_at hU]; rfl
            have hatm : AV.at (cps c) (.lit (.int .i64 (i : Nat))) 2 = .int z.m := by rw [lst_at hz]; rfl
            have hatf : AV.at (cps c) (.lit (.int .i64 (i : Nat))) 0 = .int z.f := by rw [lst_at hz]; rfl
            have hset : AV.setEl (ints U) (.lit (.int .i64 (i : Nat))) 0 [.lit (.int .i64 (usedN c o i + 1))] = ints (U.set i (usedN c o i + 1)) := by
              rw [lst_setEl (x := usedN c o i) (x' := usedN c o i + 1) hU (by simp [encI])]
            have hsn := sos_snoc o ⟨d.c, p, mxT d.t z.f⟩
            have hroom2 : ∀ q : List (List AV), q.length = 1 → AV.room (sos o) (.sl 3 q) 40 := fun q hq => by unfold AV.room; rw [lst_els]; simp [AV.els, hq]; omega
            have gY : z.m ≤ usedN c o i → K2 [.int ((i : Nat) + 1)] := fun q => hK2 _ () (by simp) fun j w hj hw q2 => by
              by_cases hji : j = i
              · subst hji; rw [hz] at hw; injection hw with hw; subst hw; have := q2.1; omega
              · exact hG j w (by omega) hw q2
            have gN : ¬ z.m ≤ usedN c o i → pkN (usedN c o) d.t 0 c = (i : Int) := fun q => by
              have := pk_first (u := usedN c o) (t := d.t) (n := 0) hz (by rw [Nat.zero_add]; exact ⟨by omega, hzt⟩) (fun j w hj hw => by rw [Nat.zero_add]; exact hG j w hj hw)
              rw [Nat.zero_add] at this; exact this
            have gN2 := fun q => gK i z hz hzt (gN q)
            simp [hi, hUl, hat, hatm, hatf, hw4, hw5, hset, show ¬ (i : Int) = (c.length : Int) by omega]
            refine ⟨gY, fun q => ⟨hroom2 _ rfl, ?_⟩⟩
            have hmx : (if d.t < z.f then z.f else d.t) = mxT d.t z.f := rfl
            rw [hmx, hsn, hw2]
            exact gN2 (by omega)
          · rintro _ K2 hG
            have hno := gNo (pk_none fun i y hy => by rw [Nat.zero_add]; exact hG i y (List.getElem?_eq_some_iff.1 hy).1 hy)
            simp
            exact hno
        · exact hK' _ () (by simp) fun i z hi hz => by
            by_cases hik : i = k
            · subst hik; rw [hy] at hz; injection hz with hz; subst hz; exact hle
            · exact hg i z (by omega) hz
      · rintro _ K' hg
        have hno := gNo (pk_none fun i y hy => by
          rw [Nat.zero_add]
          intro q
          have := hg i y (List.getElem?_eq_some_iff.1 hy).1 hy
          have := q.2
          omega)
        simp
        refine loop_nat (σ := Unit) 0 (fun n _ => [.int (-1)]) (fun n _ => True) () rfl trivial (fun n _ K hn => absurd hn (by omega)) ?_
        intro _ K2 _
        simp
        exact hno
    · rintro ⟨o, U⟩ K ⟨h1, h2, h3, h4⟩
      simp [flat_sos]
      exact (asgV_ok hsl (by rw [h4]; rfl)).symm
end Go.Proofs.Ytpbmalfoncjcnaa
