/- slot.Delays and slot.Swap. -/
import Derived.Test.YtpbmalfoncjcnaaSlot3
namespace Go.Proofs.Ytpbmalfoncjcnaa
open Go.RowKit
set_option linter.unusedVariables false
set_option linter.unusedSimpArgs false
set_option maxRecDepth 100000
def hasC (c : ByteArray) (x : So) : Bool := decide (x.c = c)
def sidx (s : List So) (c : ByteArray) : Int := idxN (hasC c) 0 s
theorem index_fn (s : List So) (c : ByteArray) (hl : s.length ≤ 1000) : Fn Try.prog 54 [sos s, .string c] .sc (.int (sidx s c)) := by
  refine fn_run mixed 3 (Γ := SlotF.Γ) (ann := SlotF.ann) Try.func54 rfl Try.call54 ((SlotF.index_form _ _ _).mpr ?_)
  have e1 : Ent Try.prog 21 := Try.call21
  have e2 : Ent Try.prog 75 := Try.call75
  simp [e1, e2]
  refine loop_list (σ := Unit) s (fun n _ => [.int (n : Nat)]) (fun k rest _ => sidx s c = idxN (hasC c) k rest) () rfl rfl ?_ ?_
  · rintro k x rest _ K hx hr hn hg hK
    have hw2 : IntKind.i64.wrap ((k : Int) + 1) = (k : Int) + 1 := wrap64 (by omega) (by omega)
    simp [hn, lst_atAgg hx, encO, hw2]
    rw [idxN] at hg
    exact ⟨fun h => by rw [hg, if_pos (by simpa [hasC] using h)], fun h => hK _ () (by simp) (by rw [hg, if_neg (by simpa [hasC] using h)])⟩
  · intro _ K hg
    simp [hg, idxN]
theorem sidx_at {s : List So} {c : ByteArray} (h : ¬ sidx s c < 0) : ∃ i x, sidx s c = ((i : Nat) : Int) ∧ s[i]? = some x ∧ x.c = c := by
  rcases idxN_spec (hasC c) s 0 with ⟨h1, _⟩ | ⟨i, x, h1, h2, h3⟩
  · unfold sidx at h; omega
  · exact ⟨i, x, by unfold sidx; rw [h1, Nat.zero_add], h2, by simpa [hasC] using h3⟩
def dlyG (s : List So) : List Dm → List Int → Int × List Int
  | [], o => (0, o)
  | d :: r, o => if sidx s d.c < 0 then (8, []) else if (s.getD (sidx s d.c).toNat default).t < d.t ∨ (s.getD (sidx s d.c).toNat default).t > 200000 then (12, []) else dlyG s r (o ++ [(s.getD (sidx s d.c).toNat default).t - d.t])
def dly (l : List Dm) (s : List So) : Int × List Int := if demE l ≠ 0 then (demE l, []) else if s.length > 24 then (2, []) else dlyG s l []
def dlyV (l : List Dm) (s : List So) : AV := .tup [ints (dly l s).2, .int (dly l s).1]
theorem dlyV_of {l : List Dm} {s : List So} {p : Int × List Int} (h : dly l s = p) : dlyV l s = .tup [ints p.2, .int p.1] := by unfold dlyV; rw [h]
theorem ints_snoc (o : List Int) (x : Int) : AV.app 1 (ints o) (.sl 1 [[.lit (.int .i64 x)]]) = ints (o ++ [x]) := by
  simp [lst, AV.app, AV.els, encI]
theorem delays_fn (l : List Dm) (s : List So) : Fn Try.prog 17 [dms l, sos s] (.tup [.row 3 1 true, .sc]) (dlyV l s) := by
  have e := SlotF.delays_form (dms l) (sos s) (dlyV l s)
  have k := fun h => fn_run mixed 3 (Γ := SlotF.Γ) (ann := SlotF.ann) Try.func17 rfl Try.call17 (e.mpr h)
  refine k ?_
  clear k e
  refine ⟨_, scheck_fn l, ?_⟩
  simp
  refine ⟨fun h => by rw [dlyV_of (p := (demE l, [])) (by unfold dly; rw [if_pos h])]; rfl, fun h => ⟨fun h2 => by rw [dlyV_of (p := (2, [])) (by unfold dly; rw [if_neg (by simp [h]), if_pos (by omega)])]; rfl, fun h2 => ?_⟩⟩
  have g := goodM h
  have gl := g.len
  have hE : dly l s = dlyG s l [] := by unfold dly; rw [if_neg (by simp [h]), if_neg (by omega)]
  refine loop_list (σ := List Int) l (fun n o => [.int (n : Nat), ints o]) (fun n rest o => dly l s = dlyG s rest o ∧ o.length = n) [] (by simp) ⟨hE, rfl⟩ ?_ ?_
  · rintro n x rest o K hx hr hn ⟨hg, ho⟩ hK
    have hw2 : IntKind.i64.wrap ((n : Int) + 1) = (n : Int) + 1 := wrap64 (by omega) (by omega)
    have hxt := g.tm x (List.mem_of_getElem? hx)
    rw [dlyG] at hg
    simp [hn, lst_atAgg hx, encM]
    refine ⟨_, index_fn s x.c (by omega), ?_⟩
    simp
    refine ⟨fun q => by rw [dlyV_of (p := (8, [])) (by rw [hg, if_pos q])]; rfl, fun q => ?_⟩
    obtain ⟨i, y, hi, hy, _⟩ := sidx_at (s := s) (c := x.c) (by omega)
    have hyd : s.getD (sidx s x.c).toNat default = y := by rw [hi]; simp [List.getD_eq_getElem?_getD, hy]
    have hil := (List.getElem?_eq_some_iff.1 hy).1
    rw [hyd, if_neg (by omega)] at hg
    have hat : AV.at (sos s) (.lit (.int .i64 (i : Nat))) 2 = .int y.t := by rw [lst_at hy]; rfl
    have g12 : (y.t < x.t ∨ y.t > 200000) → .tup [.sl 1 [], .int 12] = dlyV l s := fun q => by rw [dlyV_of (p := (12, [])) (by rw [hg, if_pos q])]; rfl
    have gK : ¬ (y.t < x.t ∨ y.t > 200000) → K [.int ((n : Nat) + 1), ints (o ++ [y.t - x.t])] := fun q => hK _ (o ++ [y.t - x.t]) (by simp) ⟨by rw [hg, if_neg q], by simp [ho]⟩
    have hroom2 : ∀ q : List (List AV), q.length = 1 → AV.room (ints o) (.sl 1 q) 8 := fun q hq => by unfold AV.room; rw [lst_els]; simp [AV.els, hq]; omega
    clear hK hg
    simp [hi, hil, hat]
    refine ⟨fun q => ⟨q, g12 (.inl q)⟩, fun q1 => ⟨q1, fun q => g12 (.inr q), fun q2 => ⟨hroom2 _ rfl, ?_⟩⟩⟩
    have hw3 : IntKind.i64.wrap (y.t - x.t) = y.t - x.t := wrap64 (by omega) (by omega)
    rw [hw3, hw2, ints_snoc]
    exact gK (by omega)
  · rintro o K ⟨hg, _⟩
    simp [flat_ints]
    rw [dlyV_of hg]; rfl
theorem ldelays_fn (l : List Dm) (s : List So) (hs : s.length ≤ maxLen) : Fn Try.prog 19 [dms l, sos s] (.tup [.row 3 1 true, .sc]) (dlyV l s) := by
  have e := SlotF.ldelays_form (dms l) (sos s) (dlyV l s)
  have k := fun h => fn_run mixed 3 (Γ := SlotF.Γ) (ann := SlotF.ann) Try.func19 rfl Try.call19 (e.mpr h)
  refine k ?_
  clear k e
  refine ⟨_, derr_fn l, ?_⟩
  simp
  refine ⟨fun h => by rw [dlyV_of (p := (demE l, [])) (by unfold dly; rw [if_pos h])]; rfl, fun h => ⟨fun h2 => by rw [dlyV_of (p := (2, [])) (by unfold dly; rw [if_neg (by simp [h]), if_pos (by omega)])]; rfl, fun h2 => ?_⟩⟩
  have g := goodM h
  have gl := g.len
  have hE : dly l s = dlyG s l [] := by unfold dly; rw [if_neg (by simp [h]), if_neg (by omega)]
  refine loop_list (σ := List Int) l (fun n o => [.int (n : Nat), ints o]) (fun n rest o => dly l s = dlyG s rest o ∧ o.length = n) [] (by simp) ⟨hE, rfl⟩ ?_ ?_
  · rintro n x rest o K hx hr hn ⟨hg, ho⟩ hK
    have hw2 : IntKind.i64.wrap ((n : Int) + 1) = (n : Int) + 1 := wrap64 (by omega) (by omega)
    have hw1 : IntKind.i64.wrap ((s.length : Int) - 1) = (s.length : Int) - 1 := wrap64 (by omega) (by omega)
    have hxt := g.tm x (List.mem_of_getElem? hx)
    rw [dlyG] at hg
    simp [hn, lst_atAgg hx, encM, hw1]
    refine loop_nat (σ := Int) s.length (fun m a => [.int a, .int ((s.length : Int) - 1 - (m : Nat))]) (fun m a => a = idxN (hasC x.c) (s.length - m) (s.drop (s.length - m))) (-1) (by simp) (by simp [idxN]) ?_ ?_
    · rintro m a K' hm ha hK'
      obtain ⟨y, hy⟩ : ∃ y, s[s.length - 1 - m]? = some y := ⟨_, List.getElem?_eq_getElem (by omega)⟩
      have hi : ((s.length : Int) - 1 - (m : Nat)) = ((s.length - 1 - m : Nat) : Int) := by omega
      have hw3 : IntKind.i64.wrap (((s.length - 1 - m : Nat) : Int) - 1) = (s.length : Int) - 1 - ((m : Nat) + 1) := by rw [wrap64 (by omega) (by omega)]; omega
      have hdr : s.drop (s.length - (m + 1)) = y :: s.drop (s.length - m) := by
        have := drop_cons (l := s) (n := s.length - 1 - m) hy rfl
        rw [show s.length - 1 - m + 1 = s.length - m by omega] at this
        rw [show s.length - (m + 1) = s.length - 1 - m by omega]; exact this
      have hat : AV.at (sos s) (.lit (.int .i64 ((s.length - 1 - m : Nat) : Int))) 0 = .string y.c := by rw [lst_at hy]; rfl
      have hstep : idxN (hasC x.c) (s.length - (m + 1)) (s.drop (s.length - (m + 1))) = if hasC x.c y = true then ((s.length - 1 - m : Nat) : Int) else a := by
        rw [hdr, idxN, ha, show s.length - (m + 1) = s.length - 1 - m by omega, show s.length - 1 - m + 1 = s.length - m by omega]
      have gY : y.c = x.c → K' [.int ((s.length - 1 - m : Nat) : Int), .int ((s.length : Int) - 1 - ((m : Nat) + 1))] := fun q => hK' _ ((s.length - 1 - m : Nat) : Int) (by simp) (by rw [hstep, if_pos (by simpa [hasC] using q)])
      have gN : y.c ≠ x.c → K' [.int a, .int ((s.length : Int) - 1 - ((m : Nat) + 1))] := fun q => hK' _ a (by simp) (by rw [hstep, if_neg (by simpa [hasC] using q)])
      rw [hi]
      simp [hat, hw3, show s.length - 1 - m < s.length by omega]
      exact ⟨gY, gN⟩
    · intro a K' ha
      rw [Nat.sub_self, List.drop_zero] at ha
      have ha : a = sidx s x.c := ha
      subst ha
      simp [show ¬ (0 : Int) ≤ (s.length : Int) - 1 - (s.length : Int) by omega, show (s.length : Int) - 1 - (s.length : Int) < 0 by omega]
      refine ⟨by omega, fun _ => ⟨fun q => by rw [dlyV_of (p := (8, [])) (by rw [hg, if_pos q])]; rfl, fun q => ?_⟩⟩
      obtain ⟨i, y, hi, hy, _⟩ := sidx_at (s := s) (c := x.c) (by omega)
      have hyd : s.getD (sidx s x.c).toNat default = y := by rw [hi]; simp [List.getD_eq_getElem?_getD, hy]
      have hil := (List.getElem?_eq_some_iff.1 hy).1
      rw [hyd, if_neg (by omega)] at hg
      have hat : AV.at (sos s) (.lit (.int .i64 (i : Nat))) 2 = .int y.t := by rw [lst_at hy]; rfl
      have g12 : (y.t < x.t ∨ y.t > 200000) → .tup [.sl 1 [], .int 12] = dlyV l s := fun q => by rw [dlyV_of (p := (12, [])) (by rw [hg, if_pos q])]; rfl
      have gK : ¬ (y.t < x.t ∨ y.t > 200000) → K [.int ((n : Nat) + 1), ints (o ++ [y.t - x.t])] := fun q => hK _ (o ++ [y.t - x.t]) (by simp) ⟨by rw [hg, if_neg q], by simp [ho]⟩
      have hroom2 : ∀ q : List (List AV), q.length = 1 → AV.room (ints o) (.sl 1 q) 8 := fun q hq => by unfold AV.room; rw [lst_els]; simp [AV.els, hq]; omega
      clear hK hg
      simp [hi, hil, hat]
      refine ⟨fun q => ⟨q, g12 (.inl q)⟩, fun q1 => ⟨q1, fun q => g12 (.inr q), fun q2 => ⟨hroom2 _ rfl, ?_⟩⟩⟩
      have hw3 : IntKind.i64.wrap (y.t - x.t) = y.t - x.t := wrap64 (by omega) (by omega)
      rw [hw3, hw2, ints_snoc]
      exact gK (by omega)
  · rintro o K ⟨hg, _⟩
    simp [flat_ints]
    rw [dlyV_of hg]; rfl
/-! ### Swap -/
def swp (s : List So) (i k : Nat) : List So := (s.set i ⟨(s.getD i default).c, (s.getD i default).p, (s.getD k default).t⟩).set k ⟨(s.getD k default).c, (s.getD k default).p, (s.getD i default).t⟩
theorem swap_set {s : List So} {i k : Nat} {x y : So} (hx : s[i]? = some x) (hy : s[k]? = some y) :
    AV.setEl (AV.setEl (sos s) (.lit (.int .i64 (i : Nat))) 2 [.lit (.int .i64 y.t)]) (.lit (.int .i64 (k : Nat))) 2 [.lit (.int .i64 x.t)] = sos (swp s i k) := by
  have gx : s.getD i default = x := by rw [List.getD_eq_getElem?_getD, hx]; rfl
  have gy : s.getD k default = y := by rw [List.getD_eq_getElem?_getD, hy]; rfl
  have hil := (List.getElem?_eq_some_iff.1 hx).1
  rw [lst_setEl (x := x) (x' := ⟨x.c, x.p, y.t⟩) hx (by simp [encO])]
  unfold swp
  rw [gx, gy]
  by_cases e : i = k
  · subst e
    rw [hx] at hy; injection hy with hy; subst hy
    rw [lst_setEl (x := ⟨x.c, x.p, x.t⟩) (x' := ⟨x.c, x.p, x.t⟩) (by simp [hil]) (by simp [encO])]
  · rw [lst_setEl (x := y) (x' := ⟨y.c, y.p, x.t⟩) (by rw [List.getElem?_set_ne e]; exact hy) (by simp [encO])]
def swpE (l : List Dm) (s : List So) (a b : ByteArray) : Int := if (dly l s).1 ≠ 0 then (dly l s).1 else if sidx s a < 0 ∨ sidx s b < 0 then 8 else if (dly l (swp s (sidx s a).toNat (sidx s b).toNat)).1 ≠ 0 then 12 else 0
def swpL (l : List Dm) (s : List So) (a b : ByteArray) : List So := if swpE l s a b = 0 then swp s (sidx s a).toNat (sidx s b).toNat else []
def swpV (l : List Dm) (s : List So) (a b : ByteArray) : AV := .tup [sos (swpL l s a b), .int (swpE l s a b)]
theorem swpV_err {l : List Dm} {s : List So} {a b : ByteArray} {e : Int} (h : swpE l s a b = e) (h0 : e ≠ 0) : swpV l s a b = .tup [.sl 3 [], .int e] := by
  unfold swpV swpL; rw [h, if_neg h0]; rfl
theorem swpV_ok {l : List Dm} {s : List So} {a b : ByteArray} (h : swpE l s a b = 0) : swpV l s a b = .tup [sos (swp s (sidx s a).toNat (sidx s b).toNat), .int 0] := by
  unfold swpV swpL; rw [h, if_pos rfl]
theorem dly_len {l : List Dm} {s : List So} (h : (dly l s).1 = 0) : s.length ≤ 24 ∧ demE l = 0 := by
  unfold dly at h
  split at h
  · rename_i q; exact absurd h q
  · rename_i q
    split at h
    · exact absurd h (by show ¬ (2 : Int) = 0; omega)
    · exact ⟨by omega, by simpa using q⟩
theorem app_sos (s : List So) : AV.app 3 (.sl 3 []) (sos s) = sos s := by simp [lst, AV.app, AV.els]
theorem swap_fn (l : List Dm) (s : List So) (a b : ByteArray) : Fn Try.prog 18 [dms l, sos s, .string a, .string b] (.tup [.row 34 3 true, .sc]) (swpV l s a b) := by
  have e := SlotF.swap_form (dms l) (sos s) (.string a) (.string b) (swpV l s a b)
  have k := fun h => fn_run mixed 3 (Γ := SlotF.Γ) (ann := SlotF.ann) Try.func18 rfl Try.call18 (e.mpr h)
  refine k ?_
  clear k e
  have e1 : Ent Try.prog 24 := Try.call24
  refine ⟨_, delays_fn l s, ?_⟩
  simp [dlyV]
  refine ⟨fun h => by rw [swpV_err (e := (dly l s).1) (by unfold swpE; rw [if_pos h]) h], fun h => ?_⟩
  obtain ⟨hl, _⟩ := dly_len h
  refine ⟨_, index_fn s a (by omega), _, index_fn s b (by omega), ?_⟩
  simp
  have g8 : (sidx s a < 0 ∨ sidx s b < 0) → .tup [.sl 3 [], .int 8] = swpV l s a b := fun q => (swpV_err (by unfold swpE; rw [if_neg (by simp [h]), if_pos q]) (by omega)).symm
  refine ⟨fun q => ⟨q, g8 (.inl q)⟩, fun q1 => ⟨q1, fun q => g8 (.inr q), fun q2 => ⟨e1, ?_, ?_⟩⟩⟩
  all_goals
    obtain ⟨i, x, hi, hx, _⟩ := sidx_at (s := s) (c := a) (by omega)
    obtain ⟨j, y, hj, hy, _⟩ := sidx_at (s := s) (c := b) (by omega)
    have hil := (List.getElem?_eq_some_iff.1 hx).1
    have hjl := (List.getElem?_eq_some_iff.1 hy).1
  · intro h0
    subst h0
    simp at hil
  · have hroom : AV.room (.sl 3 []) (sos s) 40 := by unfold AV.room; rw [lst_els]; simp [AV.els]; omega
    have hatx : AV.at (sos s) (.lit (.int .i64 (i : Nat))) 2 = .int x.t := by rw [lst_at hx]; rfl
    have haty : AV.at (sos s) (.lit (.int .i64 (j : Nat))) 2 = .int y.t := by rw [lst_at hy]; rfl
    have hsw := swap_set hx hy
    have hsw1 : AV.setEl (sos s) (.lit (.int .i64 (i : Nat))) 2 [.lit (.int .i64 y.t)] = sos (s.set i ⟨x.c, x.p, y.t⟩) := lst_setEl (x := x) (x' := ⟨x.c, x.p, y.t⟩) hx (by simp [encO])
    have hd := delays_fn l (swp s i j)
    simp only [app_sos, hi, hj, hatx, haty, hsw]
    rw [hsw1]
    simp [hil, hjl, hroom]
    refine ⟨_, hd, ?_⟩
    simp [dlyV, flat_sos]
    have hE : swpE l s a b = if (dly l (swp s i j)).1 ≠ 0 then 12 else 0 := by unfold swpE; rw [if_neg (by simp [h]), if_neg (by omega), hi, hj]; rfl
    refine ⟨fun q => (swpV_err (by rw [hE, if_pos q]) (by omega)).symm, fun q => ?_⟩
    rw [swpV_ok (by rw [hE, if_neg (by simp [q])]), hi, hj]; rfl
theorem eqs_fn (l m : List So) (hl : l.length ≤ maxLen) : Fn Try.prog 16 [sos l, sos m] .sc (.bool (decide (l = m))) := by
  refine fn_run mixed 0 (Γ := SlotF.Γ) (ann := SlotF.ann) Try.func16 rfl Try.call16 ((SlotF.eqs_form _ _ _).mpr ?_)
  unfold maxLen at hl
  simp
  refine ⟨fun h => fun e => h (by rw [e]), fun h => equal_loop l m (by omega) rfl ?_ ?_⟩
  · rintro n ⟨x1, x2, x3⟩ ⟨y1, y2, y3⟩ K hx hy hn h1 h2
    simp [hn, show n < m.length by omega, lst_atAgg hx, lst_atAgg hy, encO, AV.eqPlOk, AV.nePl]
    rw [wrap64 (by omega) (by omega)]
    refine ⟨fun h => by simpa using h1 (by rintro ⟨⟩; simp at h), fun e1 e2 e3 => h2 (by rw [e1, e2, e3])⟩
  · intro K h1
    simpa using h1
theorem eqi_fn (l m : List Int) (hl : l.length ≤ maxLen) : Fn Try.prog 20 [ints l, ints m] .sc (.bool (decide (l = m))) := by
  refine fn_run mixed 0 (Γ := SlotF.Γ) (ann := SlotF.ann) Try.func20 rfl Try.call20 ((SlotF.eqi_form _ _ _).mpr ?_)
  unfold maxLen at hl
  simp
  refine ⟨fun h => fun e => h (by rw [e]), fun h => equal_loop l m (by omega) rfl ?_ ?_⟩
  · rintro n x y K hx hy hn h1 h2
    simp [hn, show n < m.length by omega, lst_at hx, lst_at hy, encI]
    rw [wrap64 (by omega) (by omega)]
    refine ⟨fun h => by simpa using h1 h, fun e1 => h2 e1⟩
  · intro K h1
    simpa using h1
end Go.Proofs.Ytpbmalfoncjcnaa
