/- Texts of one proof, part 5: plain values, a run over them, contracts of functions. -/
import Derived.Test.YtcifjnhpgblnkaaGreatDoorM4
import Derived.Shelf.RegionOpenPlain
import Derived.WalkKit
import Derived.Deep.RegionLaw
import Derived.Deep.Upon
import Derived.Lib.Walk
import Derived.Lib.SliceRun
import Derived.Lib.JoinLaws
import Derived.Lib.AppendZerosOnto
import Derived.Laws.Externs
import Derived.Laws.IdiomCopy
import Derived.Laws.NewBlocks
/- slot.Delays and slot.Swap. -/
namespace Go.Proofs.YtcifjnhpgblnkaaGreatDoor
open Go.RowKit
set_option linter.unusedVariables false
set_option linter.unusedSimpArgs false
set_option maxRecDepth 100000
def hasC (c : ByteArray) (x : So) : Bool := decide (x.c = c)
def sidx (s : List So) (c : ByteArray) : Int := idxN (hasC c) 0 s
theorem index_fn (s : List So) (c : ByteArray) (hl : s.length ≤ 1000) : Fn Tryz.prog 50 [sos s, .string c] .sc (.int (sidx s c)) := by
  refine fn_run mixed 3 (Γ := SlotF.Γ) (ann := SlotF.ann) Tryz.func50 rfl Tryz.call50 ((SlotF.index_form _ _ _).mpr ?_)
  have e1 : Ent Tryz.prog 11 := Tryz.call11
  have e2 : Ent Tryz.prog 116 := Tryz.call116
  simp [e1, e2]
  refine loop_list (σ := Unit) s (fun n _ => [.int (n : Nat)]) (fun k rest _ => sidx s c = idxN (hasC c) k rest) () rfl rfl ?_ ?_
  · rintro k x rest _ K hx hr hn hg hK
    have hw2 : IntKind.i64.wrap ((k : Int) + 1) = (k : Int) + 1 := wrap64 (by omega) (by omega)
    simp [hn, lst_atAgg hx, encO, hw2]
    rw [idxN] at hg
    exact ⟨fun h => by rw [hg, if_pos (by simpa [hasC] using h)], fun h => hK _ () (by simp) (by rw [hg, if_neg (by simpa [hasC] using h)])⟩
  · intro _ K hg
    simp [hg, idxN]
theorem sidx_at {s : List So} {c : ByteArray} (h : ¬ sidx s c < 0) : ∃ i x, sidx s c = ((i : Nat) : Int) ∧ s[i]? = some x ∧ x.c = c := by
  rcases idxN_spec (hasC c) s 0 with ⟨h1, _⟩ | ⟨i, x, h1, h2, h3⟩
  · unfold sidx at h; omega
  · exact ⟨i, x, by unfold sidx; rw [h1, Nat.zero_add], h2, by simpa [hasC] using h3⟩
def dlyG (s : List So) : List Dm → List Int → Int × List Int
  | [], o => (0, o)
  | d :: r, o => if sidx s d.c < 0 then (8, []) else if (s.getD (sidx s d.c).toNat default).t < d.t ∨ (s.getD (sidx s d.c).toNat default).t > 200000 then (12, []) else dlyG s r (o ++ [(s.getD (sidx s d.c).toNat default).t - d.t])
def dly (l : List Dm) (s : List So) : Int × List Int := if demE l ≠ 0 then (demE l, []) else if s.length > 24 then (2, []) else dlyG s l []
def dlyV (l : List Dm) (s : List So) : AV := .tup [ints (dly l s).2, .int (dly l s).1]
theorem dlyV_of {l : List Dm} {s : List So} {p : Int × List Int} (h : dly l s = p) : dlyV l s = .tup [ints p.2, .int p.1] := by unfold dlyV; rw [h]
theorem ints_snoc (o : List Int) (x : Int) : AV.app 1 (ints o) (.sl 1 [[.lit (.int .i64 x)]]) = ints (o ++ [x]) := by
  simp [lst, AV.app, AV.els, encI]
theorem delays_fn (l : List Dm) (s : List So) : Fn Tryz.prog 9 [dms l, sos s] (.tup [.row 3 1 true, .sc]) (dlyV l s) := by
  have e := SlotF.delays_form (dms l) (sos s) (dlyV l s)
  have k := fun h => fn_run mixed 3 (Γ := SlotF.Γ) (ann := SlotF.ann) Tryz.func9 rfl Tryz.call9 (e.mpr h)
  refine k ?_
  clear k e
  refine ⟨_, scheck_fn l, ?_⟩
  simp
  refine ⟨fun h => by rw [dlyV_of (p := (demE l, [])) (by unfold dly; rw [if_pos h])]; rfl, fun h => ⟨fun h2 => by rw [dlyV_of (p := (2, [])) (by unfold dly; rw [if_neg (by simp [h]), if_pos (by omega)])]; rfl, fun h2 => ?_⟩⟩
  have g := goodM h
  have gl := g.len
  have hE : dly l s = dlyG s l [] := by unfold dly; rw [if_neg (by simp [h]), if_neg (by omega)]
  refine loop_list (σ := List Int) l (fun n o => [.int (n : Nat), ints o]) (fun n rest o => dly l s = dlyG s rest o ∧ o.length = n) [] (by simp) ⟨hE, rfl⟩ ?_ ?_
  · rintro n x rest o K hx hr hn ⟨hg, ho⟩ hK
    have hw2 : IntKind.i64.wrap ((n : Int) + 1) = (n : Int) + 1 := wrap64 (by omega) (by omega)
    have hxt := g.tm x (List.mem_of_getElem? hx)
    rw [dlyG] at hg
    simp [hn, lst_atAgg hx, encM]
    refine ⟨_, index_fn s x.c (by omega), ?_⟩
    simp
    refine ⟨fun q => by rw [dlyV_of (p := (8, [])) (by rw [hg, if_pos q])]; rfl, fun q => ?_⟩
    obtain ⟨i, y, hi, hy, _⟩ := sidx_at (s := s) (c := x.c) (by omega)
    have hyd : s.getD (sidx s x.c).toNat default = y := by rw [hi]; simp [List.getD_eq_getElem?_getD, hy]
    have hil := (List.getElem?_eq_some_iff.1 hy).1
    rw [hyd, if_neg (by omega)] at hg
    have hat : AV.at (sos s) (.lit (.int .i64 (i : Nat))) 2 = .int y.t := by rw [lst_at hy]; rfl
    have g12 : (y.t < x.t ∨ y.t > 200000) → .tup [.sl 1 [], .int 12] = dlyV l s := fun q => by rw [dlyV_of (p := (12, [])) (by rw [hg, if_pos q])]; rfl
    have gK : ¬ (y.t < x.t ∨ y.t > 200000) → K [.int ((n : Nat) + 1), ints (o ++ [y.t - x.t])] := fun q => hK _ (o ++ [y.t - x.t]) (by simp) ⟨by rw [hg, if_neg q], by simp [ho]⟩
    have hroom2 : ∀ q : List (List AV), q.length = 1 → AV.room (ints o) (.sl 1 q) 8 := fun q hq => by unfold AV.room; rw [lst_els]; simp [AV.els, hq]; omega
    clear hK hg
    simp [hi, hil, hat]
    refine ⟨fun q => ⟨q, g12 (.inl q)⟩, fun q1 => ⟨q1, fun q => g12 (.inr q), fun q2 => ⟨hroom2 _ rfl, ?_⟩⟩⟩
    have hw3 : IntKind.i64.wrap (y.t - x.t) = y.t - x.t := wrap64 (by omega) (by omega)
    rw [hw3, hw2, ints_snoc]
    exact gK (by omega)
  · rintro o K ⟨hg, _⟩
    simp [flat_ints]
    rw [dlyV_of hg]; rfl
/-! ### Swap -/
def swp (s : List So) (i k : Nat) : List So := (s.set i ⟨(s.getD i default).c, (s.getD i default).p, (s.getD k default).t⟩).set k ⟨(s.getD k default).c, (s.getD k default).p, (s.getD i default).t⟩
end Go.Proofs.YtcifjnhpgblnkaaGreatDoor
/- Slots at two places: plain. -/
namespace Go.Proofs.YtcifjnhpgblnkaaGreatDoor
set_option linter.unusedVariables false
set_option linter.unusedSimpArgs false
--PLAIN
/-- A slot serves its demand. -/
structure Srv (p : ByteArray) (cs : List Cp) (d : Dm) (s : So) : Prop where
  call : s.c = d.c
  place : s.p = p
  lo : d.t ≤ s.t
  hi : s.t ≤ 200000
  at_ : ∃ (k : Nat) (x : Cp), cs[k]? = some x ∧ x.f ≤ s.t ∧ s.t < x.t
theorem mxT_ge (t f : Int) : t ≤ mxT t f ∧ f ≤ mxT t f ∧ (mxT t f = t ∨ mxT t f = f) := by
  unfold mxT
  split
  · exact ⟨by omega, by omega, .inr rfl⟩
  · exact ⟨by omega, by omega, .inl rfl⟩
/-- One demand's slot. -/
theorem pk_slot {c : List Cp} (g : GoodC c) {u : Nat → Int} {t : Int} (h : ¬ pkN u t 0 c < 0) : ∃ k x, pkN u t 0 c = (k : Nat) ∧ c[k]? = some x ∧ u k < x.m ∧ t < x.t ∧ c.getD (pkN u t 0 c).toNat default = x := by
  rcases pk_spec (u := u) (t := t) c 0 with ⟨h1, _⟩ | ⟨k, x, h1, h2, h3⟩
  · omega
  · rw [Nat.zero_add] at h1 h3
    refine ⟨k, x, h1, h2, h3.1, h3.2, ?_⟩
    rw [h1, List.getD_eq_getElem?_getD, show ((k : Nat) : Int).toNat = k by omega, h2]; rfl
theorem pk_le {c : List Cp} {u : Nat → Int} {t : Int} {k : Nat} {x : Cp} (hx : c[k]? = some x) (h : u k < x.m) (ht : t < x.t) : ∃ k' x', pkN u t 0 c = (k' : Nat) ∧ k' ≤ k ∧ c[k']? = some x' ∧ u k' < x'.m ∧ t < x'.t := by
  rcases pk_spec (u := u) (t := t) c 0 with ⟨_, h2⟩ | ⟨k', x', h1, h2, h3⟩
  · exact absurd ⟨by rw [Nat.zero_add]; exact h, ht⟩ (h2 k x hx)
  · rw [Nat.zero_add] at h1 h3
    refine ⟨k', x', h1, ?_, h2, h3.1, h3.2⟩
    refine Nat.le_of_not_lt fun q => ?_
    -- the first one lies ahead
    have key : ∀ (l : List Cp) (n i : Nat) (y : Cp), l[i]? = some y → Cnd u t (n + i) y → pkN u t n l ≤ ((n + i : Nat) : Int) := by
      intro l
      induction l with
      | nil => intro n i y h; simp at h
      | cons z l ih =>
        intro n i y h hc
        rw [pkN]
        split
        · omega
        · rename_i hn
          cases i with
          | zero => simp at h; subst h; exact absurd hc hn
          | succ i =>
            have := ih (n + 1) i y (by simpa using h) (by rwa [show n + 1 + i = n + (i + 1) by omega])
            omega
    have := key c 0 k x hx ⟨by rw [Nat.zero_add]; exact h, ht⟩
    omega
theorem asg_srv {p : ByteArray} {c : List Cp} (g : GoodC c) : ∀ (S : List Dm) (o o' : List So), asg p c o S = some o' → ∃ ns : List So, o' = o ++ ns ∧ ns.length = S.length ∧ ∀ (i : Nat) (d : Dm), S[i]? = some d → ∃ s, ns[i]? = some s ∧ Srv p c d s
  | [], o, o', h => by
    simp only [asg, Option.some.injEq] at h
    exact ⟨[], by simp [h], rfl, fun i d hd => by simp at hd⟩
  | d :: S, o, o', h => by
    rw [asg] at h
    split at h
    · cases h
    · rename_i hn
      obtain ⟨k, x, h1, h2, h3, h4, h5⟩ := pk_slot g hn
      obtain ⟨ns, e, hl, hs⟩ := asg_srv g S _ _ h
      have hx := g.bd x (List.mem_of_getElem? h2)
      obtain ⟨m1, m2, m3⟩ := mxT_ge d.t x.f
      refine ⟨_ :: ns, by rw [e, List.append_assoc]; rfl, by simp [hl], fun i d' hd => ?_⟩
      cases i with
      | zero =>
        simp at hd
        subst hd
        refine ⟨_, rfl, rfl, rfl, by simp only [h5]; exact m1, by simp only [h5]; rcases m3 with q | q <;> omega, k, x, h2, by simp only [h5]; exact m2, by simp only [h5]; rcases m3 with q | q <;> omega⟩
      | succ i => exact hs i d' (by simpa using hd)
/-- No capacity is exceeded. -/
theorem asg_cap {p : ByteArray} {c : List Cp} (g : GoodC c) : ∀ (S : List Dm) (o o' : List So), asg p c o S = some o' → (∀ k x, c[k]? = some x → usedN c o k ≤ x.m) → ∀ k x, c[k]? = some x → usedN c o' k ≤ x.m
  | [], o, o', h, hu => by
    simp only [asg, Option.some.injEq] at h
    exact h ▸ hu
  | d :: S, o, o', h, hu => by
    rw [asg] at h
    split at h
    · cases h
    · rename_i hn
      obtain ⟨k, x, h1, h2, h3, h4, h5⟩ := pk_slot g hn
      have hx := g.bd x (List.mem_of_getElem? h2)
      obtain ⟨m1, m2, m3⟩ := mxT_ge d.t x.f
      refine asg_cap g S _ _ h fun j y hy => ?_
      have hus := used_snoc g (o := o) (s := ⟨d.c, p, mxT d.t (c.getD (pkN (usedN c o) d.t 0 c).toNat default).f⟩) h2 (by simp only [h5]; exact m2) (by simp only [h5]; rcases m3 with q | q <;> omega) j
      rw [hus]
      split
      · rename_i e
        subst e
        rw [h2] at hy; injection hy with hy
        subst hy
        omega
      · have := hu j y hy; omega
/-- With fewer demands nobody has a later slot. -/
theorem asg_sub {p : ByteArray} {c : List Cp} (g : GoodC c) {T S : List Dm} (hT : T.Sublist S) : ∀ (o1 o2 o' : List So), (∀ k, usedN c o1 k ≤ usedN c o2 k) → asg p c o2 S = some o' →
    ∃ ns1 ns2 : List So, o' = o2 ++ ns2 ∧ asg p c o1 T = some (o1 ++ ns1) ∧ ∀ z ∈ ns1, ∃ w ∈ ns2, w.c = z.c ∧ z.t ≤ w.t := by
  induction hT with
  | slnil =>
    intro o1 o2 o' hu h
    simp only [asg, Option.some.injEq] at h
    exact ⟨[], [], by simp [h], by simp [asg], by simp⟩
  | cons d hT ih =>
    intro o1 o2 o' hu h
    rw [asg] at h
    split at h
    · cases h
    · rename_i hn
      obtain ⟨k, x, h1, h2, h3, h4, h5⟩ := pk_slot g hn
      have hx := g.bd x (List.mem_of_getElem? h2)
      obtain ⟨m1, m2, m3⟩ := mxT_ge d.t x.f
      obtain ⟨ns1, ns2, e1, e2, e3⟩ := ih o1 _ _ (fun j => by
        have hus := used_snoc g (o := o2) (s := ⟨d.c, p, mxT d.t (c.getD (pkN (usedN c o2) d.t 0 c).toNat default).f⟩) h2 (by simp only [h5]; exact m2) (by simp only [h5]; rcases m3 with q | q <;> omega) j
        rw [hus]
        have := hu j
        split <;> omega) h
      refine ⟨ns1, _ :: ns2, by rw [e1, List.append_assoc]; rfl, e2, fun z hz => ?_⟩
      obtain ⟨w, hw, q⟩ := e3 z hz
      exact ⟨w, List.mem_cons_of_mem _ hw, q⟩
  | cons_cons d hT ih =>
    intro o1 o2 o' hu h
    rw [asg] at h
    split at h
    · cases h
    · rename_i hn
      obtain ⟨k, x, h1, h2, h3, h4, h5⟩ := pk_slot g hn
      have hx := g.bd x (List.mem_of_getElem? h2)
      obtain ⟨m1, m2, m3⟩ := mxT_ge d.t x.f
      obtain ⟨k', x', q1, q2, q3, q4, q5⟩ := pk_le (u := usedN c o1) h2 (by have := hu k; omega) h4
      have hx' := g.bd x' (List.mem_of_getElem? q3)
      obtain ⟨n1, n2, n3⟩ := mxT_ge d.t x'.f
      have hff : x'.f ≤ x.f := by
        rcases Nat.eq_or_lt_of_le q2 with e | e
        · subst e; rw [h2] at q3; injection q3 with q3; rw [q3]; exact Int.le_refl _
        · obtain ⟨hi, e1⟩ := List.getElem?_eq_some_iff.1 q3
          obtain ⟨hj, e2⟩ := List.getElem?_eq_some_iff.1 h2
          have := List.pairwise_iff_getElem.1 g.ord k' k hi hj e
          rw [e1, e2] at this
          omega
      have gd' : c.getD (pkN (usedN c o1) d.t 0 c).toNat default = x' := by
        rw [q1, List.getD_eq_getElem?_getD, show ((k' : Nat) : Int).toNat = k' by omega, q3]; rfl
      have hle : mxT d.t x'.f ≤ mxT d.t x.f := by rcases n3 with q | q <;> omega
      obtain ⟨ns1, ns2, e1, e2, e3⟩ := ih (o1 ++ [⟨d.c, p, mxT d.t x'.f⟩]) _ _ (fun j => by
        have hus := used_snoc g (o := o2) (s := ⟨d.c, p, mxT d.t (c.getD (pkN (usedN c o2) d.t 0 c).toNat default).f⟩) h2 (by simp only [h5]; exact m2) (by simp only [h5]; rcases m3 with q | q <;> omega) j
        have hus' := used_snoc g (o := o1) (s := ⟨d.c, p, mxT d.t x'.f⟩) q3 n2 (by show mxT d.t x'.f < x'.t; rcases n3 with q | q <;> omega) j
        rw [hus, hus']
        have hj := hu j
        by_cases e : k' = j
        · subst e
          by_cases e2 : k = k'
          · rw [if_pos rfl, if_pos e2]; omega
          · rw [if_pos rfl, if_neg e2]
            -- k' was full at the second
            have hfull : ¬ usedN c o2 k' < x'.m := fun q => by
              obtain ⟨k'', x'', r1, r2, _⟩ := pk_le (u := usedN c o2) q3 q q5
              omega
            omega
        · rw [if_neg e]
          split <;> omega) h
      refine ⟨⟨d.c, p, mxT d.t x'.f⟩ :: ns1, ⟨d.c, p, mxT d.t (c.getD (pkN (usedN c o2) d.t 0 c).toNat default).f⟩ :: ns2, by rw [e1, List.append_assoc]; rfl, ?_, fun z hz => ?_⟩
      · rw [asg, if_neg (by omega), gd', e2, List.append_assoc]; rfl
      · rcases List.mem_cons.1 hz with rfl | hz
        · exact ⟨_, List.mem_cons_self .., rfl, by simp only [h5]; exact hle⟩
        · obtain ⟨w, hw, q⟩ := e3 z hz
          exact ⟨w, List.mem_cons_of_mem _ hw, q⟩
/-- A sorted list has one form. -/
theorem sorted_uniq {α : Type} {f : α → Int × List UInt8} : ∀ (l m : List α), l.Perm m → (∀ x ∈ l, ∀ y ∈ l, f x = f y → x = y) → l.Pairwise (fun a b => ¬ klt (f b) (f a)) → m.Pairwise (fun a b => ¬ klt (f b) (f a)) → l = m
  | [], m, hp, _, _, _ => (List.nil_perm.1 hp).symm
  | x :: l, [], hp, _, _, _ => by have := hp.length_eq; simp at this
  | x :: l, y :: m, hp, hi, hl, hm => by
    have hxm : x ∈ y :: m := hp.mem_iff.1 (List.mem_cons_self ..)
    have hyl : y ∈ x :: l := hp.mem_iff.2 (List.mem_cons_self ..)
    have h1 : ¬ klt (f y) (f x) := by
      rcases List.mem_cons.1 hyl with e | q
      · rw [e]; exact klt_irr _
      · exact (List.pairwise_cons.1 hl).1 y q
    have h2 : ¬ klt (f x) (f y) := by
      rcases List.mem_cons.1 hxm with e | q
      · rw [e]; exact klt_irr _
      · exact (List.pairwise_cons.1 hm).1 x q
    have e : x = y := hi x (List.mem_cons_self ..) y hyl (klt_tot h2 h1)
    subst e
    rw [sorted_uniq l m (List.Perm.cons_inv hp) (fun a ha b hb => hi a (List.mem_cons_of_mem _ ha) b (List.mem_cons_of_mem _ hb)) (List.pairwise_cons.1 hl).2 (List.pairwise_cons.1 hm).2]
theorem take_srt {l : List Dm} (g : l.Pairwise fun x y => x.c ≠ y.c) (n : Nat) : (srtB kM (l.take n)).Sublist (srtB kM l) := by
  have hinj : ∀ x ∈ l, ∀ y ∈ l, kM x = kM y → x = y := fun x hx y hy e => by
    have : x.c = y.c := key_inj (by have := congrArg Prod.snd e; exact this)
    exact inj_of g x hx y hy this
  have hin : ∀ x ∈ l.take n, x ∈ l := fun x hx => List.mem_of_mem_take hx
  have hdis : ∀ x ∈ l.drop n, ¬ x ∈ l.take n := fun x hx hx' => by
    have hp : (l.take n ++ l.drop n).Pairwise fun x y => x.c ≠ y.c := by rw [List.take_append_drop]; exact g
    exact (List.pairwise_append.1 hp).2.2 x hx' x hx rfl
  have hf : l.filter (fun x => decide (x ∈ l.take n)) = l.take n := by
    conv => lhs; rw [← List.take_append_drop n l]
    rw [List.filter_append, List.filter_eq_self.2 (fun x hx => by simpa using hx), List.filter_eq_nil_iff.2 (fun x hx => by simpa using hdis x hx), List.append_nil]
  have e : srtB kM (l.take n) = (srtB kM l).filter (fun x => decide (x ∈ l.take n)) := by
    refine sorted_uniq (f := kM) _ _ ?_ ?_ (srtB_sorted kM _) ((srtB_sorted kM l).sublist List.filter_sublist)
    · refine (srtB_perm kM _).trans ?_
      conv => lhs; rw [← hf]
      exact ((srtB_perm kM l).filter _).symm
    · intro x hx y hy e
      exact hinj x (hin x ((srtB_perm kM _).mem_iff.1 hx)) y (hin y ((srtB_perm kM _).mem_iff.1 hy)) e
  rw [e]
  exact List.filter_sublist
/-! ### the next demands; their delays -/
theorem dmE_nm : ∀ {l seen : List Dm}, dmE seen l = 0 → ∀ x ∈ l, isName x.c = true
  | [], _, _ => fun x hx => by simp at hx
  | x :: d, seen, h => by
    rw [dmE] at h
    split at h
    · cases h
    · split at h
      · cases h
      · split at h
        · cases h
        · rename_i h1 _ _
          intro z hz
          rcases List.mem_cons.1 hz with rfl | hz
          · simpa using h1
          · exact dmE_nm h z hz
theorem dmE_of : ∀ (l seen : List Dm), (∀ x ∈ l, isName x.c = true ∧ 0 ≤ x.t ∧ x.t ≤ 200000 ∧ ∀ y ∈ seen, y.c ≠ x.c) → (l.Pairwise fun x y => x.c ≠ y.c) → dmE seen l = 0
  | [], _, _, _ => rfl
  | x :: d, seen, h, hp => by
    obtain ⟨h1, h2, h3, h4⟩ := h x (List.mem_cons_self ..)
    rw [dmE, if_neg (by simp [h1]), if_neg (by omega), if_neg]
    · refine dmE_of d _ (fun z hz => ?_) (List.pairwise_cons.1 hp).2
      obtain ⟨q1, q2, q3, q4⟩ := h z (List.mem_cons_of_mem _ hz)
      refine ⟨q1, q2, q3, fun y hy => ?_⟩
      rcases List.mem_append.1 hy with hy | hy
      · exact q4 y hy
      · simp at hy
        subst hy
        exact (List.pairwise_cons.1 hp).1 z hz
    · intro q
      obtain ⟨y, hy, hc⟩ := List.any_eq_true.1 q
      exact h4 y hy (by simpa [calledM] using hc)
def nxD (long : Int) (z : So) : Dm := ⟨z.c, z.t + long⟩
/-- Slots serve the demands, in the order of the sorted ones. -/
def Srvs (p : ByteArray) (c : List Cp) (S : List Dm) (ns : List So) : Prop := ns.length = S.length ∧ ∀ (i : Nat) (d : Dm), S[i]? = some d → ∃ s, ns[i]? = some s ∧ Srv p c d s
theorem Srvs.calls {p : ByteArray} {c : List Cp} : ∀ {S : List Dm} {ns : List So}, Srvs p c S ns → ns.map (·.c) = S.map (·.c)
  | [], [], _ => rfl
  | [], _ :: _, h => by have := h.1; simp at this
  | _ :: _, [], h => by have := h.1; simp at this
  | d :: S, s :: ns, h => by
    obtain ⟨s', e, hs⟩ := h.2 0 d rfl
    simp at e
    subst e
    have ih : ns.map (·.c) = S.map (·.c) := Srvs.calls (p := p) (c := c) ⟨by have := h.1; simpa using this, fun i d' hd => by
      obtain ⟨s', e, q⟩ := h.2 (i + 1) d' (by simpa using hd)
      exact ⟨s', by simpa using e, q⟩⟩
    rw [List.map_cons, List.map_cons, ih, hs.call]
theorem Srvs.get {p : ByteArray} {c : List Cp} {S : List Dm} {ns : List So} (h : Srvs p c S ns) {i : Nat} {s : So} (hs : ns[i]? = some s) : ∃ d, S[i]? = some d ∧ Srv p c d s := by
  have hlt : i < S.length := by rw [← h.1]; exact (List.getElem?_eq_some_iff.1 hs).1
  obtain ⟨s', e, q⟩ := h.2 i S[i] (List.getElem?_eq_getElem hlt)
  rw [hs] at e
  injection e with e
  subst e
  exact ⟨S[i], List.getElem?_eq_getElem hlt, q⟩
theorem pw_map {α β γ : Type} {f : α → γ} {g : β → γ} : ∀ {l : List α} {m : List β}, l.map f = m.map g → (m.Pairwise fun x y => g x ≠ g y) → l.Pairwise fun x y => f x ≠ f y := fun {l m} e h => by
  have h1 : (m.map g).Pairwise (· ≠ ·) := List.pairwise_map.2 h
  rw [← e] at h1
  exact List.pairwise_map.1 h1
theorem dist_perm {l m : List Dm} (h : l.Pairwise fun x y => x.c ≠ y.c) (hp : m.Perm l) : m.Pairwise fun x y => x.c ≠ y.c :=
  hp.symm.pairwise h fun hxy => Ne.symm hxy
/-- The next demands are in order. -/
theorem nxD_ok {p : ByteArray} {c : List Cp} {l : List Dm} {ns : List So} {long : Int} (h : demE l = 0) (hs : Srvs p c (srtB kM l) ns) (h0 : 0 ≤ long) (hl : ∀ z ∈ ns, z.t ≤ 200000 - long) : demE (ns.map (nxD long)) = 0 := by
  have g := goodM h
  have hdm : dmE [] l = 0 := by
    unfold demE at h
    split at h
    · cases h
    · exact h
  have hlen : ns.length = l.length := by rw [hs.1, srtB_len]
  unfold demE
  rw [List.length_map, hlen, if_neg (by have := g.len; omega)]
  refine dmE_of _ _ (fun x hx => ?_) ?_
  · obtain ⟨z, hz, rfl⟩ := List.mem_map.1 hx
    obtain ⟨i, hi⟩ := List.getElem?_of_mem hz
    obtain ⟨d, hd, q⟩ := hs.get hi
    have hdl : d ∈ l := (srtB_perm kM l).mem_iff.1 (List.mem_of_getElem? hd)
    refine ⟨by show isName z.c = true; rw [q.call]; exact dmE_nm hdm d hdl, ?_, ?_, fun y hy => by simp at hy⟩
    · show 0 ≤ z.t + long
      have := g.tm d hdl; have := q.lo; omega
    · show z.t + long ≤ 200000
      have := hl z hz; omega
  · rw [List.pairwise_map]
    exact pw_map (f := fun z : So => z.c) (g := fun d : Dm => d.c) hs.calls (dist_perm g.dist (srtB_perm kM l))
/-- A demand's slot is found. -/
theorem find_srv {p : ByteArray} {c : List Cp} {l : List Dm} {ts : List So} (g : l.Pairwise fun x y => x.c ≠ y.c) (hs : Srvs p c (srtB kM l) ts) {d : Dm} (hd : d ∈ l) : ¬ sidx ts d.c < 0 ∧ d.t ≤ (ts.getD (sidx ts d.c).toNat default).t ∧ (ts.getD (sidx ts d.c).toNat default).t ≤ 200000 := by
  have hdS : d ∈ srtB kM l := (srtB_perm kM l).mem_iff.2 hd
  obtain ⟨j, hj⟩ := List.getElem?_of_mem hdS
  obtain ⟨s, hsj, q⟩ := hs.2 j d hj
  have hn : ¬ sidx ts d.c < 0 := by
    rcases idxN_spec (hasC d.c) ts 0 with ⟨_, h2⟩ | ⟨i, x, h1, _, _⟩
    · have := h2 s (List.mem_of_getElem? hsj)
      simp [hasC, q.call] at this
    · unfold sidx; omega
  obtain ⟨i, x, e1, e2, e3⟩ := sidx_at hn
  obtain ⟨d', hd', q'⟩ := hs.get e2
  have hdd : d' = d := inj_of g d' ((srtB_perm kM l).mem_iff.1 (List.mem_of_getElem? hd')) d hd (by rw [← q'.call, e3])
  subst hdd
  have hx : ts.getD (sidx ts d'.c).toNat default = x := by rw [e1, List.getD_eq_getElem?_getD, show ((i : Nat) : Int).toNat = i by omega, e2]; rfl
  rw [hx]
  exact ⟨hn, q'.lo, q'.hi⟩
theorem dlyG_ok (s : List So) : ∀ (r : List Dm) (o : List Int), (∀ d ∈ r, ¬ sidx s d.c < 0 ∧ d.t ≤ (s.getD (sidx s d.c).toNat default).t ∧ (s.getD (sidx s d.c).toNat default).t ≤ 200000) → dlyG s r o = (0, o ++ r.map fun d => (s.getD (sidx s d.c).toNat default).t - d.t)
  | [], o, _ => by simp [dlyG]
  | d :: r, o, h => by
    obtain ⟨h1, h2, h3⟩ := h d (List.mem_cons_self ..)
    rw [dlyG, if_neg h1, if_neg (by omega), dlyG_ok s r _ fun x hx => h x (List.mem_cons_of_mem _ hx)]
    simp
/-! ### which capacities are exceeded -/
def inC (t : Int) (y : Cp) : Bool := decide (t ≥ y.f) && decide (t < y.t)
def fidx (c : List Cp) (t : Int) : Int := idxN (inC t) 0 c
def cntI (c : List Cp) (ts : List Int) (k : Nat) : Int := (ts.countP (fun t => decide (fidx c t = (k : Int))) : Nat)
theorem fidx_at {c : List Cp} (g : GoodC c) {t : Int} {k : Nat} {x : Cp} (hx : c[k]? = some x) (h1 : x.f ≤ t) (h2 : t < x.t) : fidx c t = (k : Nat) ∧ capA c t = (k : Nat) := by
  refine ⟨?_, by have := lastIn_at (a := -1) (n := 0) hx h1 h2 g.ord; rw [Nat.zero_add] at this; exact this⟩
  unfold fidx
  rcases idxN_spec (inC t) c 0 with ⟨_, q⟩ | ⟨i, y, q1, q2, q3⟩
  · have := q x (List.mem_of_getElem? hx)
    simp [inC, h1, h2] at this
  · rw [q1, Nat.zero_add]
    simp [inC] at q3
    rcases Nat.lt_trichotomy i k with e | e | e
    · obtain ⟨hi, e1⟩ := List.getElem?_eq_some_iff.1 q2
      obtain ⟨hj, e2⟩ := List.getElem?_eq_some_iff.1 hx
      have := List.pairwise_iff_getElem.1 g.ord i k hi hj e
      rw [e1, e2] at this
      omega
    · rw [e]
    · obtain ⟨hi, e1⟩ := List.getElem?_eq_some_iff.1 q2
      obtain ⟨hj, e2⟩ := List.getElem?_eq_some_iff.1 hx
      have := List.pairwise_iff_getElem.1 g.ord k i hj hi e
      rw [e1, e2] at this
      omega
theorem cnt_used {p : ByteArray} {c : List Cp} (g : GoodC c) {S : List Dm} {ns : List So} (hs : Srvs p c S ns) (k : Nat) : cntI c (ns.map (·.t)) k = usedN c ns k := by
  unfold cntI usedN
  rw [List.countP_map]
  congr 1
  refine List.countP_congr fun z hz => ?_
  obtain ⟨i, hi⟩ := List.getElem?_of_mem hz
  obtain ⟨d, _, q⟩ := hs.get hi
  obtain ⟨j, x, h1, h2, h3⟩ := q.at_
  obtain ⟨e1, e2⟩ := fidx_at g h1 h2 h3
  simp [e1, e2]
/-- All that the law asks of slots at one place. -/
theorem asg_all {p : ByteArray} {c : List Cp} {l : List Dm} {o : List So} (gc : GoodC c) (h : asgR p l c = some o) : Srvs p c (srtB kM l) o ∧ ∀ k x, c[k]? = some x → cntI c (o.map (·.t)) k ≤ x.m := by
  obtain ⟨ns, e, hl, hs⟩ := asg_srv gc _ _ _ h
  rw [List.nil_append] at e
  subst e
  have hS : Srvs p c (srtB kM l) o := ⟨hl, hs⟩
  refine ⟨hS, fun k x hx => ?_⟩
  rw [cnt_used gc hS]
  exact asg_cap gc _ _ _ h (fun k x hx => by rw [used_nil]; exact (gc.bd x (List.mem_of_getElem? hx)).2.2.2.1) k x hx
/-- The first half of the demands. -/
theorem half_ok {p : ByteArray} {c : List Cp} {l : List Dm} {o : List So} (gc : GoodC c) (g : l.Pairwise fun x y => x.c ≠ y.c) (h : asgR p l c = some o) (n : Nat) : ∃ o', asgR p (l.take n) c = some o' ∧ ∀ z ∈ o', ∃ w ∈ o, w.c = z.c ∧ z.t ≤ w.t := by
  obtain ⟨ns1, ns2, e1, e2, e3⟩ := asg_sub gc (take_srt g n) [] [] o (fun k => Int.le_refl _) h
  rw [List.nil_append] at e1
  subst e1
  exact ⟨ns1, e2, e3⟩
--END PLAIN
end Go.Proofs.YtcifjnhpgblnkaaGreatDoor
/- TopSlots: what the runs end in. -/
namespace Go.Proofs.YtcifjnhpgblnkaaGreatDoor
open Go.RowKit
set_option linter.unusedVariables false
set_option maxRecDepth 100000
namespace TsF
--GAMMA
def Γ : FuncId → Option Ca := fun f =>
  if f = 8 ∨ f = 117 ∨ f = 5 ∨ f = 6 then some (.fn .sc)
  else if f = 51 then some (.fn (.tup [.row 3 1 true, .sc, .sc]))
  else if f = 10 ∨ f = 9 then some (.fn (.tup [.row 3 1 true, .sc]))
  else if f = 7 then some (.fn (.tup [.row 32 3 true, .sc]))
  else some .inl
def ann : FuncId → Nat → LoopEx := fun f r => if f = 51 ∧ r < 400000 then ⟨[], [833], [], []⟩ else ⟨[], [], [], []⟩
--END GAMMA
theorem index_form (x0 x1 r : AV) : fnF Tryz.prog Γ ann 4 117 Tryz.f117 (Tryz.f117.body.getD .skip) (.nil) [x0, x1] (.sc) r = (((AV.isOne x1) ∧
((fEnt Tryz.prog 48) ∧
(fAllV fun _ => ((AV.isSl x0 3) ∧
(fLoop 577 [(AV.int 0)] fun ys577 again577 =>
  ((AV.binOk Go.BinOp.lss (ys577.getD 0 default) (AV.len x0)) ∧
  ((AV.isBool (AV.bin Go.BinOp.lss (ys577.getD 0 default) (AV.len x0))) ∧
  (((isT (AV.bin Go.BinOp.lss (ys577.getD 0 default) (AV.len x0))) →
    ((AV.isSl x0 3) ∧
    ((AV.inb x0 (ys577.getD 0 default)) ∧
    ((fEnt Tryz.prog 183) ∧
    (fAllV fun _ => ((AV.isAgg (AV.atAgg x0 (ys577.getD 0 default) 0 3) 3) ∧
    ((AV.binOk Go.BinOp.geq x1 (AV.cel (AV.atAgg x0 (ys577.getD 0 default) 0 3) 0)) ∧
    ((AV.isBool (AV.bin Go.BinOp.geq x1 (AV.cel (AV.atAgg x0 (ys577.getD 0 default) 0 3) 0))) ∧
    (((isT (AV.bin Go.BinOp.geq x1 (AV.cel (AV.atAgg x0 (ys577.getD 0 default) 0 3) 0))) →
      ((AV.binOk Go.BinOp.lss x1 (AV.cel (AV.atAgg x0 (ys577.getD 0 default) 0 3) 1)) ∧
      ((AV.isBool (AV.bin Go.BinOp.geq x1 (AV.cel (AV.atAgg x0 (ys577.getD 0 default) 0 3) 0))) ∧
      ((isT (AV.bin Go.BinOp.geq x1 (AV.cel (AV.atAgg x0 (ys577.getD 0 default) 0 3) 0))) ∧
      ((AV.isBool (AV.bin Go.BinOp.lss x1 (AV.cel (AV.atAgg x0 (ys577.getD 0 default) 0 3) 1))) ∧
      (((isT (AV.bin Go.BinOp.lss x1 (AV.cel (AV.atAgg x0 (ys577.getD 0 default) 0 3) 1))) →
        ((AV.flat (ys577.getD 0 default)) ∧
        (fSame (ys577.getD 0 default) r))) ∧
      ((isF (AV.bin Go.BinOp.lss x1 (AV.cel (AV.atAgg x0 (ys577.getD 0 default) 0 3) 1))) →
        ((AV.binOk Go.BinOp.add (ys577.getD 0 default) (AV.int 1)) ∧
        (again577 [(AV.bin Go.BinOp.add (ys577.getD 0 default) (AV.int 1))]))))))))) ∧
    ((isF (AV.bin Go.BinOp.geq x1 (AV.cel (AV.atAgg x0 (ys577.getD 0 default) 0 3) 0))) →
      ((AV.isBool (AV.bin Go.BinOp.geq x1 (AV.cel (AV.atAgg x0 (ys577.getD 0 default) 0 3) 0))) ∧
      ((isF (AV.bin Go.BinOp.geq x1 (AV.cel (AV.atAgg x0 (ys577.getD 0 default) 0 3) 0))) ∧
      ((AV.binOk Go.BinOp.add (ys577.getD 0 default) (AV.int 1)) ∧
      (again577 [(AV.bin Go.BinOp.add (ys577.getD 0 default) (AV.int 1))])))))))))))))) ∧
  ((isF (AV.bin Go.BinOp.lss (ys577.getD 0 default) (AV.len x0))) →
    ((AV.flat (AV.int (-1))) ∧
    (fSame (AV.int (-1)) r)))))))))))) := by kernel_rfl
theorem demand_form (x0 x1 r : AV) : fnF Tryz.prog Γ ann 3 51 Tryz.f51 (Tryz.f51.body.getD .skip) (.nil) [x0, x1] (.tup [.row 3 1 true, .sc, .sc]) r = ((∃ r257 : AV, ((Fn Tryz.prog 8 [x0] Sh.sc r257) ∧
((AV.binOk Go.BinOp.neq r257 (AV.int 0)) ∧
((AV.isBool (AV.bin Go.BinOp.neq r257 (AV.int 0))) ∧
(((isT (AV.bin Go.BinOp.neq r257 (AV.int 0))) →
  ((AV.flatS (AV.mk 1 [])) ∧
  ((AV.flat (AV.int 0)) ∧
  ((AV.flat r257) ∧
  (fSame (AV.tup [(AV.mk 1 []), (AV.int 0), r257]) r))))) ∧
((isF (AV.bin Go.BinOp.neq r257 (AV.int 0))) →
  ((AV.isSl x1 1) ∧
  ((AV.binOk Go.BinOp.gtr (AV.len x1) (AV.int 256)) ∧
  ((AV.isBool (AV.bin Go.BinOp.gtr (AV.len x1) (AV.int 256))) ∧
  (((isT (AV.bin Go.BinOp.gtr (AV.len x1) (AV.int 256))) →
    ((AV.flatS (AV.mk 1 [])) ∧
    ((AV.flat (AV.int 0)) ∧
    ((AV.flat (AV.int 2)) ∧
    (fSame (AV.tup [(AV.mk 1 []), (AV.int 0), (AV.int 2)]) r))))) ∧
  ((isF (AV.bin Go.BinOp.gtr (AV.len x1) (AV.int 256))) →
    ((AV.isSl x0 3) ∧
    ((AV.mkOk (AV.len x0) 8) ∧
    ((AV.isI64 (AV.len x0)) ∧
    ((sameNum (AV.len x0) (AV.len x0)) ∧
    ((AV.isSl x1 1) ∧
    (fLoop 1217 [(AV.int 0), (AV.int 0), (AV.rep 1 (AV.len x0) [(AV.int 0)])] fun ys1217 again1217 =>
      ((AV.binOk Go.BinOp.lss (ys1217.getD 1 default) (AV.len x1)) ∧
      ((AV.isBool (AV.bin Go.BinOp.lss (ys1217.getD 1 default) (AV.len x1))) ∧
      (((isT (AV.bin Go.BinOp.lss (ys1217.getD 1 default) (AV.len x1))) →
        ((AV.isSl x1 1) ∧
        ((AV.inb x1 (ys1217.getD 1 default)) ∧
        ((AV.binOk Go.BinOp.lss (AV.at x1 (ys1217.getD 1 default) 0) (AV.int 0)) ∧
        ((AV.isBool (AV.bin Go.BinOp.lss (AV.at x1 (ys1217.getD 1 default) 0) (AV.int 0))) ∧
        (((isT (AV.bin Go.BinOp.lss (AV.at x1 (ys1217.getD 1 default) 0) (AV.int 0))) →
          ((AV.isBool (AV.bin Go.BinOp.lss (AV.at x1 (ys1217.getD 1 default) 0) (AV.int 0))) ∧
          ((isT (AV.bin Go.BinOp.lss (AV.at x1 (ys1217.getD 1 default) 0) (AV.int 0))) ∧
          ((AV.flatS (AV.mk 1 [])) ∧
          ((AV.flat (AV.int 0)) ∧
          ((AV.flat (AV.int 12)) ∧
          (fSame (AV.tup [(AV.mk 1 []), (AV.int 0), (AV.int 12)]) r))))))) ∧
        ((isF (AV.bin Go.BinOp.lss (AV.at x1 (ys1217.getD 1 default) 0) (AV.int 0))) →
          ((AV.binOk Go.BinOp.gtr (AV.at x1 (ys1217.getD 1 default) 0) (AV.int 200000)) ∧
          ((AV.isBool (AV.bin Go.BinOp.lss (AV.at x1 (ys1217.getD 1 default) 0) (AV.int 0))) ∧
          ((isF (AV.bin Go.BinOp.lss (AV.at x1 (ys1217.getD 1 default) 0) (AV.int 0))) ∧
          ((AV.isBool (AV.bin Go.BinOp.gtr (AV.at x1 (ys1217.getD 1 default) 0) (AV.int 200000))) ∧
          (((isT (AV.bin Go.BinOp.gtr (AV.at x1 (ys1217.getD 1 default) 0) (AV.int 200000))) →
            ((AV.flatS (AV.mk 1 [])) ∧
            ((AV.flat (AV.int 0)) ∧
            ((AV.flat (AV.int 12)) ∧
            (fSame (AV.tup [(AV.mk 1 []), (AV.int 0), (AV.int 12)]) r))))) ∧
          ((isF (AV.bin Go.BinOp.gtr (AV.at x1 (ys1217.getD 1 default) 0) (AV.int 200000))) →
            (∃ r1985 : AV, ((Fn Tryz.prog 117 [x0, (AV.at x1 (ys1217.getD 1 default) 0)] Sh.sc r1985) ∧
            ((AV.binOk Go.BinOp.geq r1985 (AV.int 0)) ∧
            ((AV.isBool (AV.bin Go.BinOp.geq r1985 (AV.int 0))) ∧
            (((isT (AV.bin Go.BinOp.geq r1985 (AV.int 0))) →
              ((AV.inb (ys1217.getD 2 default) r1985) ∧
              ((AV.inb (ys1217.getD 2 default) r1985) ∧
              ((AV.binOk Go.BinOp.add (AV.at (ys1217.getD 2 default) r1985 0) (AV.int 1)) ∧
              ((AV.inb (ys1217.getD 2 default) r1985) ∧
              ((AV.isOne (AV.bin Go.BinOp.add (AV.at (ys1217.getD 2 default) r1985 0) (AV.int 1))) ∧
              ((AV.inb (ys1217.getD 2 default) r1985) ∧
              ((AV.binOk Go.BinOp.add (ys1217.getD 1 default) (AV.int 1)) ∧
              (again1217 [(ys1217.getD 0 default), (AV.bin Go.BinOp.add (ys1217.getD 1 default) (AV.int 1)), (AV.setEl (ys1217.getD 2 default) r1985 0 [(AV.bin Go.BinOp.add (AV.at (ys1217.getD 2 default) r1985 0) (AV.int 1))])]))))))))) ∧
            ((isF (AV.bin Go.BinOp.geq r1985 (AV.int 0))) →
              ((AV.binOk Go.BinOp.add (ys1217.getD 0 default) (AV.int 1)) ∧
              ((AV.binOk Go.BinOp.add (ys1217.getD 1 default) (AV.int 1)) ∧
              (again1217 [(AV.bin Go.BinOp.add (ys1217.getD 0 default) (AV.int 1)), (AV.bin Go.BinOp.add (ys1217.getD 1 default) (AV.int 1)), (ys1217.getD 2 default)])))))))))))))))))))))) ∧
      ((isF (AV.bin Go.BinOp.lss (ys1217.getD 1 default) (AV.len x1))) →
        ((AV.flatS (ys1217.getD 2 default)) ∧
        ((AV.flat (ys1217.getD 0 default)) ∧
        ((AV.flat (AV.int 0)) ∧
        (fSame (AV.tup [(ys1217.getD 2 default), (ys1217.getD 0 default), (AV.int 0)]) r)))))))))))))))))))))))))) := by kernel_rfl
theorem over_form (x0 x1 r : AV) : fnF Tryz.prog Γ ann 3 10 Tryz.f10 (Tryz.f10.body.getD .skip) (.nil) [x0, x1] (.tup [.row 3 1 true, .sc]) r = ((∃ r257 : AV, ((Fn Tryz.prog 51 [x0, x1] (Sh.tup [(Sh.row 3 1 true), Sh.sc, Sh.sc]) r257) ∧
((AV.binOk Go.BinOp.neq (AV.prj r257 2) (AV.int 0)) ∧
((AV.isBool (AV.bin Go.BinOp.neq (AV.prj r257 2) (AV.int 0))) ∧
(((isT (AV.bin Go.BinOp.neq (AV.prj r257 2) (AV.int 0))) →
  ((AV.flatS (AV.mk 1 [])) ∧
  ((AV.flat (AV.prj r257 2)) ∧
  (fSame (AV.tup [(AV.mk 1 []), (AV.prj r257 2)]) r)))) ∧
((isF (AV.bin Go.BinOp.neq (AV.prj r257 2) (AV.int 0))) →
  ((AV.isSl x0 3) ∧
  (fLoop 1153 [(AV.int 0), (AV.mk 1 [])] fun ys1153 again1153 =>
    ((AV.binOk Go.BinOp.lss (ys1153.getD 0 default) (AV.len x0)) ∧
    ((AV.isBool (AV.bin Go.BinOp.lss (ys1153.getD 0 default) (AV.len x0))) ∧
    (((isT (AV.bin Go.BinOp.lss (ys1153.getD 0 default) (AV.len x0))) →
      ((AV.isSl x0 3) ∧
      ((AV.inb x0 (ys1153.getD 0 default)) ∧
      ((AV.isAgg (AV.atAgg x0 (ys1153.getD 0 default) 0 3) 3) ∧
      ((AV.inb (AV.prj r257 0) (ys1153.getD 0 default)) ∧
      ((AV.inb (AV.prj r257 0) (ys1153.getD 0 default)) ∧
      ((AV.binOk Go.BinOp.gtr (AV.at (AV.prj r257 0) (ys1153.getD 0 default) 0) (AV.cel (AV.atAgg x0 (ys1153.getD 0 default) 0 3) 2)) ∧
      ((AV.isBool (AV.bin Go.BinOp.gtr (AV.at (AV.prj r257 0) (ys1153.getD 0 default) 0) (AV.cel (AV.atAgg x0 (ys1153.getD 0 default) 0 3) 2))) ∧
      (((isT (AV.bin Go.BinOp.gtr (AV.at (AV.prj r257 0) (ys1153.getD 0 default) 0) (AV.cel (AV.atAgg x0 (ys1153.getD 0 default) 0 3) 2))) →
        ((AV.isOne (ys1153.getD 0 default)) ∧
        ((AV.room (ys1153.getD 1 default) (AV.mk 1 [[(ys1153.getD 0 default)]]) 8) ∧
        ((AV.binOk Go.BinOp.add (ys1153.getD 0 default) (AV.int 1)) ∧
        (again1153 [(AV.bin Go.BinOp.add (ys1153.getD 0 default) (AV.int 1)), (AV.app 1 (ys1153.getD 1 default) (AV.mk 1 [[(ys1153.getD 0 default)]]))]))))) ∧
      ((isF (AV.bin Go.BinOp.gtr (AV.at (AV.prj r257 0) (ys1153.getD 0 default) 0) (AV.cel (AV.atAgg x0 (ys1153.getD 0 default) 0 3) 2))) →
        ((AV.binOk Go.BinOp.add (ys1153.getD 0 default) (AV.int 1)) ∧
        (again1153 [(AV.bin Go.BinOp.add (ys1153.getD 0 default) (AV.int 1)), (ys1153.getD 1 default)])))))))))))) ∧
    ((isF (AV.bin Go.BinOp.lss (ys1153.getD 0 default) (AV.len x0))) →
      ((AV.flatS (ys1153.getD 1 default)) ∧
      ((AV.flat (AV.int 0)) ∧
      (fSame (AV.tup [(ys1153.getD 1 default), (AV.int 0)]) r)))))))))))))))) := by kernel_rfl
theorem pick_form (x0 x1 r : AV) : fnF Tryz.prog Γ ann 2 6 Tryz.f6 (Tryz.f6.body.getD .skip) (.nil) [x0, x1] (.sc) r = (((AV.isInt x0) ∧
((AV.isInt x1) ∧
((AV.binOk Go.BinOp.rem (AV.conv Go.IntKind.u64 x0) (AV.conv Go.IntKind.u64 x1)) ∧
((AV.isInt (AV.bin Go.BinOp.rem (AV.conv Go.IntKind.u64 x0) (AV.conv Go.IntKind.u64 x1))) ∧
((AV.flat (AV.conv Go.IntKind.i64 (AV.bin Go.BinOp.rem (AV.conv Go.IntKind.u64 x0) (AV.conv Go.IntKind.u64 x1)))) ∧
(fSame (AV.conv Go.IntKind.i64 (AV.bin Go.BinOp.rem (AV.conv Go.IntKind.u64 x0) (AV.conv Go.IntKind.u64 x1))) r))))))) := by kernel_rfl
theorem law_form (x0 x1 x2 x3 r : AV) : fnF Tryz.prog Γ ann 4 3 Tryz.f3 (Tryz.f3.body.getD .skip) ((.f (.both .nil (.both .nil (.both (.t .nil) (.both .nil (.f (.f (.f (.f (.f (.f (.f (.both (.f (.f .nil)) (.both (.t (.both (.f (.f .nil)) .nil)) .nil))))))))))))))) [x0, x1, x2, x3] (.sc) r = ((∃ r65 : AV, ((Fn Tryz.prog 5 [] Sh.sc r65) ∧
((AV.unOk Go.UnOp.not r65) ∧
((AV.isBool (AV.un Go.UnOp.not r65)) ∧
((isF (AV.un Go.UnOp.not r65)) ∧
(∃ r257 : AV, ((Fn Tryz.prog 6 [x3, (AV.int 300)] Sh.sc r257) ∧
(∃ r513 : AV, ((Fn Tryz.prog 7 [(AV.lit (Value.string ⟨#[70, 73, 82, 83, 84]⟩)), x0, x1] (Sh.tup [(Sh.row 32 3 true), Sh.sc]) r513) ∧
((AV.binOk Go.BinOp.neq (AV.prj r513 1) (AV.int 0)) ∧
((AV.isBool (AV.bin Go.BinOp.neq (AV.prj r513 1) (AV.int 0))) ∧
(((isT (AV.bin Go.BinOp.neq (AV.prj r513 1) (AV.int 0))) →
  ((AV.binOk Go.BinOp.eql (AV.len (AV.prj r513 0)) (AV.int 0)) ∧
  ((AV.flat (AV.bin Go.BinOp.eql (AV.len (AV.prj r513 0)) (AV.int 0))) ∧
  (fSame (AV.bin Go.BinOp.eql (AV.len (AV.prj r513 0)) (AV.int 0)) r)))) ∧
((isF (AV.bin Go.BinOp.neq (AV.prj r513 1) (AV.int 0))) →
  (fLoop 1409 [(AV.int 0), (AV.mk 2 []), (AV.mk 1 [])] fun ys1409 again1409 =>
    ((AV.binOk Go.BinOp.lss (ys1409.getD 0 default) (AV.len (AV.prj r513 0))) ∧
    ((AV.isBool (AV.bin Go.BinOp.lss (ys1409.getD 0 default) (AV.len (AV.prj r513 0)))) ∧
    (((isT (AV.bin Go.BinOp.lss (ys1409.getD 0 default) (AV.len (AV.prj r513 0)))) →
      ((AV.inb (AV.prj r513 0) (ys1409.getD 0 default)) ∧
      ((AV.inb (AV.prj r513 0) (ys1409.getD 0 default)) ∧
      ((AV.isAgg (AV.atAgg (AV.prj r513 0) (ys1409.getD 0 default) 0 3) 3) ∧
      ((AV.binOk Go.BinOp.sub (AV.int 200000) r257) ∧
      ((AV.binOk Go.BinOp.gtr (AV.cel (AV.atAgg (AV.prj r513 0) (ys1409.getD 0 default) 0 3) 2) (AV.bin Go.BinOp.sub (AV.int 200000) r257)) ∧
      ((AV.isBool (AV.bin Go.BinOp.gtr (AV.cel (AV.atAgg (AV.prj r513 0) (ys1409.getD 0 default) 0 3) 2) (AV.bin Go.BinOp.sub (AV.int 200000) r257))) ∧
      (((isT (AV.bin Go.BinOp.gtr (AV.cel (AV.atAgg (AV.prj r513 0) (ys1409.getD 0 default) 0 3) 2) (AV.bin Go.BinOp.sub (AV.int 200000) r257))) →
        ((AV.flat (AV.bool true)) ∧
        (fSame (AV.bool true) r))) ∧
      ((isF (AV.bin Go.BinOp.gtr (AV.cel (AV.atAgg (AV.prj r513 0) (ys1409.getD 0 default) 0 3) 2) (AV.bin Go.BinOp.sub (AV.int 200000) r257))) →
        ((AV.binOk Go.BinOp.add (AV.cel (AV.atAgg (AV.prj r513 0) (ys1409.getD 0 default) 0 3) 2) r257) ∧
        ((AV.isOne (AV.cel (AV.atAgg (AV.prj r513 0) (ys1409.getD 0 default) 0 3) 0)) ∧
        ((AV.isOne (AV.bin Go.BinOp.add (AV.cel (AV.atAgg (AV.prj r513 0) (ys1409.getD 0 default) 0 3) 2) r257)) ∧
        ((AV.room (ys1409.getD 1 default) (AV.mk 2 [[(AV.cel (AV.atAgg (AV.prj r513 0) (ys1409.getD 0 default) 0 3) 0), (AV.bin Go.BinOp.add (AV.cel (AV.atAgg (AV.prj r513 0) (ys1409.getD 0 default) 0 3) 2) r257)]]) 24) ∧
        ((AV.isOne (AV.cel (AV.atAgg (AV.prj r513 0) (ys1409.getD 0 default) 0 3) 2)) ∧
        ((AV.room (ys1409.getD 2 default) (AV.mk 1 [[(AV.cel (AV.atAgg (AV.prj r513 0) (ys1409.getD 0 default) 0 3) 2)]]) 8) ∧
        ((AV.binOk Go.BinOp.add (ys1409.getD 0 default) (AV.int 1)) ∧
        (again1409 [(AV.bin Go.BinOp.add (ys1409.getD 0 default) (AV.int 1)), (AV.app 2 (ys1409.getD 1 default) (AV.mk 2 [[(AV.cel (AV.atAgg (AV.prj r513 0) (ys1409.getD 0 default) 0 3) 0), (AV.bin Go.BinOp.add (AV.cel (AV.atAgg (AV.prj r513 0) (ys1409.getD 0 default) 0 3) 2) r257)]])), (AV.app 1 (ys1409.getD 2 default) (AV.mk 1 [[(AV.cel (AV.atAgg (AV.prj r513 0) (ys1409.getD 0 default) 0 3) 2)]]))]))))))))))))))))) ∧
    ((isF (AV.bin Go.BinOp.lss (ys1409.getD 0 default) (AV.len (AV.prj r513 0)))) →
      (∃ r1601 : AV, ((Fn Tryz.prog 7 [(AV.lit (Value.string ⟨#[83, 69, 67, 79, 78, 68]⟩)), (ys1409.getD 1 default), x2] (Sh.tup [(Sh.row 32 3 true), Sh.sc]) r1601) ∧
      ((AV.binOk Go.BinOp.neq (AV.prj r1601 1) (AV.int 0)) ∧
      ((AV.isBool (AV.bin Go.BinOp.neq (AV.prj r1601 1) (AV.int 0))) ∧
      (((isT (AV.bin Go.BinOp.neq (AV.prj r1601 1) (AV.int 0))) →
        ((AV.binOk Go.BinOp.eql (AV.len (AV.prj r1601 0)) (AV.int 0)) ∧
        ((AV.isBool (AV.bin Go.BinOp.eql (AV.len (AV.prj r1601 0)) (AV.int 0))) ∧
        ((isT (AV.bin Go.BinOp.eql (AV.len (AV.prj r1601 0)) (AV.int 0))) ∧
        ((AV.binOk Go.BinOp.eql (AV.prj r1601 1) (AV.int 18)) ∧
        ((AV.isBool (AV.bin Go.BinOp.eql (AV.prj r1601 1) (AV.int 18))) ∧
        (((isT (AV.bin Go.BinOp.eql (AV.prj r1601 1) (AV.int 18))) →
          ((AV.isBool (AV.bin Go.BinOp.eql (AV.prj r1601 1) (AV.int 18))) ∧
          ((isT (AV.bin Go.BinOp.eql (AV.prj r1601 1) (AV.int 18))) ∧
          ((AV.isBool (AV.bin Go.BinOp.eql (AV.len (AV.prj r1601 0)) (AV.int 0))) ∧
          ((isT (AV.bin Go.BinOp.eql (AV.len (AV.prj r1601 0)) (AV.int 0))) ∧
          ((AV.flat (AV.bool true)) ∧
          (fSame (AV.bool true) r))))))) ∧
        ((isF (AV.bin Go.BinOp.eql (AV.prj r1601 1) (AV.int 18))) →
          (∃ r2689 : AV, ((Fn Tryz.prog 8 [x2] Sh.sc r2689) ∧
          ((AV.binOk Go.BinOp.eql (AV.prj r1601 1) r2689) ∧
          ((AV.isBool (AV.bin Go.BinOp.eql (AV.prj r1601 1) (AV.int 18))) ∧
          ((isF (AV.bin Go.BinOp.eql (AV.prj r1601 1) (AV.int 18))) ∧
          ((AV.isBool (AV.bin Go.BinOp.eql (AV.len (AV.prj r1601 0)) (AV.int 0))) ∧
          ((isT (AV.bin Go.BinOp.eql (AV.len (AV.prj r1601 0)) (AV.int 0))) ∧
          ((AV.flat (AV.bin Go.BinOp.eql (AV.prj r1601 1) r2689)) ∧
          (fSame (AV.bin Go.BinOp.eql (AV.prj r1601 1) r2689) r))))))))))))))))) ∧
      ((isF (AV.bin Go.BinOp.neq (AV.prj r1601 1) (AV.int 0))) →
        (fLoop 2305 [(AV.int 0), (AV.mk 1 [])] fun ys2305 again2305 =>
          ((AV.binOk Go.BinOp.lss (ys2305.getD 0 default) (AV.len (AV.prj r1601 0))) ∧
          ((AV.isBool (AV.bin Go.BinOp.lss (ys2305.getD 0 default) (AV.len (AV.prj r1601 0)))) ∧
          (((isT (AV.bin Go.BinOp.lss (ys2305.getD 0 default) (AV.len (AV.prj r1601 0)))) →
            ((AV.inb (AV.prj r1601 0) (ys2305.getD 0 default)) ∧
            ((AV.inb (AV.prj r1601 0) (ys2305.getD 0 default)) ∧
            ((AV.isAgg (AV.atAgg (AV.prj r1601 0) (ys2305.getD 0 default) 0 3) 3) ∧
            ((AV.isOne (AV.cel (AV.atAgg (AV.prj r1601 0) (ys2305.getD 0 default) 0 3) 2)) ∧
            ((AV.room (ys2305.getD 1 default) (AV.mk 1 [[(AV.cel (AV.atAgg (AV.prj r1601 0) (ys2305.getD 0 default) 0 3) 2)]]) 8) ∧
            ((AV.binOk Go.BinOp.add (ys2305.getD 0 default) (AV.int 1)) ∧
            (again2305 [(AV.bin Go.BinOp.add (ys2305.getD 0 default) (AV.int 1)), (AV.app 1 (ys2305.getD 1 default) (AV.mk 1 [[(AV.cel (AV.atAgg (AV.prj r1601 0) (ys2305.getD 0 default) 0 3) 2)]]))])))))))) ∧
          ((isF (AV.bin Go.BinOp.lss (ys2305.getD 0 default) (AV.len (AV.prj r1601 0)))) →
            (∃ r2497 : AV, ((Fn Tryz.prog 9 [(ys1409.getD 1 default), (AV.prj r1601 0)] (Sh.tup [(Sh.row 3 1 true), Sh.sc]) r2497) ∧
            (∃ r3009 : AV, ((Fn Tryz.prog 10 [x1, (ys1409.getD 2 default)] (Sh.tup [(Sh.row 3 1 true), Sh.sc]) r3009) ∧
            (∃ r3521 : AV, ((Fn Tryz.prog 10 [x2, (ys2305.getD 1 default)] (Sh.tup [(Sh.row 3 1 true), Sh.sc]) r3521) ∧
            ((AV.binOk Go.BinOp.neq (AV.prj r2497 1) (AV.int 0)) ∧
            ((AV.isBool (AV.bin Go.BinOp.neq (AV.prj r2497 1) (AV.int 0))) ∧
            ((isF (AV.bin Go.BinOp.neq (AV.prj r2497 1) (AV.int 0))) ∧
            ((AV.binOk Go.BinOp.neq (AV.prj r3009 1) (AV.int 0)) ∧
            ((AV.isBool (AV.bin Go.BinOp.neq (AV.prj r2497 1) (AV.int 0))) ∧
            ((isF (AV.bin Go.BinOp.neq (AV.prj r2497 1) (AV.int 0))) ∧
            ((AV.isBool (AV.bin Go.BinOp.neq (AV.prj r3009 1) (AV.int 0))) ∧
            ((isF (AV.bin Go.BinOp.neq (AV.prj r3009 1) (AV.int 0))) ∧
            ((AV.binOk Go.BinOp.neq (AV.prj r3521 1) (AV.int 0)) ∧
            ((AV.isBool (AV.bin Go.BinOp.neq (AV.prj r3009 1) (AV.int 0))) ∧
            ((isF (AV.bin Go.BinOp.neq (AV.prj r3009 1) (AV.int 0))) ∧
            ((AV.isBool (AV.bin Go.BinOp.neq (AV.prj r3521 1) (AV.int 0))) ∧
            ((isF (AV.bin Go.BinOp.neq (AV.prj r3521 1) (AV.int 0))) ∧
            ((AV.binOk Go.BinOp.add (AV.len (AV.prj r3009 0)) (AV.len (AV.prj r3521 0))) ∧
            ((AV.binOk Go.BinOp.gtr (AV.bin Go.BinOp.add (AV.len (AV.prj r3009 0)) (AV.len (AV.prj r3521 0))) (AV.int 0)) ∧
            ((AV.isBool (AV.bin Go.BinOp.neq (AV.prj r3521 1) (AV.int 0))) ∧
            ((isF (AV.bin Go.BinOp.neq (AV.prj r3521 1) (AV.int 0))) ∧
            ((AV.isBool (AV.bin Go.BinOp.gtr (AV.bin Go.BinOp.add (AV.len (AV.prj r3009 0)) (AV.len (AV.prj r3521 0))) (AV.int 0))) ∧
            ((isF (AV.bin Go.BinOp.gtr (AV.bin Go.BinOp.add (AV.len (AV.prj r3009 0)) (AV.len (AV.prj r3521 0))) (AV.int 0))) ∧
            ((AV.binOk Go.BinOp.neq (AV.len (AV.prj r2497 0)) (AV.len (ys1409.getD 1 default))) ∧
            ((AV.isBool (AV.bin Go.BinOp.gtr (AV.bin Go.BinOp.add (AV.len (AV.prj r3009 0)) (AV.len (AV.prj r3521 0))) (AV.int 0))) ∧
            ((isF (AV.bin Go.BinOp.gtr (AV.bin Go.BinOp.add (AV.len (AV.prj r3009 0)) (AV.len (AV.prj r3521 0))) (AV.int 0))) ∧
            ((AV.isBool (AV.bin Go.BinOp.neq (AV.len (AV.prj r2497 0)) (AV.len (ys1409.getD 1 default)))) ∧
            ((isF (AV.bin Go.BinOp.neq (AV.len (AV.prj r2497 0)) (AV.len (ys1409.getD 1 default)))) ∧
            ((AV.isSl x0 2) ∧
            ((AV.binOk Go.BinOp.quo (AV.len x0) (AV.int 2)) ∧
            ((AV.isSl x0 2) ∧
            ((AV.subOk x0 (AV.int 0) (AV.bin Go.BinOp.quo (AV.len x0) (AV.int 2))) ∧
            (∃ r5889 : AV, ((Fn Tryz.prog 7 [(AV.lit (Value.string ⟨#[70, 73, 82, 83, 84]⟩)), (AV.sub 2 x0 (AV.int 0) (AV.bin Go.BinOp.quo (AV.len x0) (AV.int 2))), x1] (Sh.tup [(Sh.row 32 3 true), Sh.sc]) r5889) ∧
            ((AV.binOk Go.BinOp.neq (AV.prj r5889 1) (AV.int 0)) ∧
            ((AV.isBool (AV.bin Go.BinOp.neq (AV.prj r5889 1) (AV.int 0))) ∧
            ((isF (AV.bin Go.BinOp.neq (AV.prj r5889 1) (AV.int 0))) ∧
            ((AV.isSl x0 2) ∧
            ((AV.binOk Go.BinOp.quo (AV.len x0) (AV.int 2)) ∧
            ((AV.binOk Go.BinOp.neq (AV.len (AV.prj r5889 0)) (AV.bin Go.BinOp.quo (AV.len x0) (AV.int 2))) ∧
            ((AV.isBool (AV.bin Go.BinOp.neq (AV.prj r5889 1) (AV.int 0))) ∧
            ((isF (AV.bin Go.BinOp.neq (AV.prj r5889 1) (AV.int 0))) ∧
            ((AV.isBool (AV.bin Go.BinOp.neq (AV.len (AV.prj r5889 0)) (AV.bin Go.BinOp.quo (AV.len x0) (AV.int 2)))) ∧
            ((isF (AV.bin Go.BinOp.neq (AV.len (AV.prj r5889 0)) (AV.bin Go.BinOp.quo (AV.len x0) (AV.int 2)))) ∧
            (fLoop 7105 [(AV.int 0)] fun ys7105 again7105 =>
              ((AV.binOk Go.BinOp.lss (ys7105.getD 0 default) (AV.len (AV.prj r2497 0))) ∧
              ((AV.isBool (AV.bin Go.BinOp.lss (ys7105.getD 0 default) (AV.len (AV.prj r2497 0)))) ∧
              (((isT (AV.bin Go.BinOp.lss (ys7105.getD 0 default) (AV.len (AV.prj r2497 0)))) →
                ((AV.inb (AV.prj r2497 0) (ys7105.getD 0 default)) ∧
                ((AV.inb (AV.prj r2497 0) (ys7105.getD 0 default)) ∧
                ((AV.binOk Go.BinOp.lss (AV.at (AV.prj r2497 0) (ys7105.getD 0 default) 0) (AV.int 0)) ∧
                ((AV.isBool (AV.bin Go.BinOp.lss (AV.at (AV.prj r2497 0) (ys7105.getD 0 default) 0) (AV.int 0))) ∧
                ((isF (AV.bin Go.BinOp.lss (AV.at (AV.prj r2497 0) (ys7105.getD 0 default) 0) (AV.int 0))) ∧
                ((AV.inb (ys1409.getD 2 default) (ys7105.getD 0 default)) ∧
                ((AV.inb (ys1409.getD 2 default) (ys7105.getD 0 default)) ∧
                ((AV.binOk Go.BinOp.add (AV.at (ys1409.getD 2 default) (ys7105.getD 0 default) 0) r257) ∧
                ((AV.binOk Go.BinOp.add (AV.bin Go.BinOp.add (AV.at (ys1409.getD 2 default) (ys7105.getD 0 default) 0) r257) (AV.at (AV.prj r2497 0) (ys7105.getD 0 default) 0)) ∧
                ((AV.binOk Go.BinOp.gtr (AV.bin Go.BinOp.add (AV.bin Go.BinOp.add (AV.at (ys1409.getD 2 default) (ys7105.getD 0 default) 0) r257) (AV.at (AV.prj r2497 0) (ys7105.getD 0 default) 0)) (AV.int 200000)) ∧
                ((AV.isBool (AV.bin Go.BinOp.lss (AV.at (AV.prj r2497 0) (ys7105.getD 0 default) 0) (AV.int 0))) ∧
                ((isF (AV.bin Go.BinOp.lss (AV.at (AV.prj r2497 0) (ys7105.getD 0 default) 0) (AV.int 0))) ∧
                ((AV.isBool (AV.bin Go.BinOp.gtr (AV.bin Go.BinOp.add (AV.bin Go.BinOp.add (AV.at (ys1409.getD 2 default) (ys7105.getD 0 default) 0) r257) (AV.at (AV.prj r2497 0) (ys7105.getD 0 default) 0)) (AV.int 200000))) ∧
                ((isF (AV.bin Go.BinOp.gtr (AV.bin Go.BinOp.add (AV.bin Go.BinOp.add (AV.at (ys1409.getD 2 default) (ys7105.getD 0 default) 0) r257) (AV.at (AV.prj r2497 0) (ys7105.getD 0 default) 0)) (AV.int 200000))) ∧
                ((AV.binOk Go.BinOp.add (ys7105.getD 0 default) (AV.int 1)) ∧
                (again7105 [(AV.bin Go.BinOp.add (ys7105.getD 0 default) (AV.int 1))]))))))))))))))))) ∧
              ((isF (AV.bin Go.BinOp.lss (ys7105.getD 0 default) (AV.len (AV.prj r2497 0)))) →
                (fLoop 7361 [(AV.int 0)] fun ys7361 again7361 =>
                  ((AV.binOk Go.BinOp.lss (ys7361.getD 0 default) (AV.len (AV.prj r5889 0))) ∧
                  ((AV.isBool (AV.bin Go.BinOp.lss (ys7361.getD 0 default) (AV.len (AV.prj r5889 0)))) ∧
                  (((isT (AV.bin Go.BinOp.lss (ys7361.getD 0 default) (AV.len (AV.prj r5889 0)))) →
                    ((AV.inb (AV.prj r5889 0) (ys7361.getD 0 default)) ∧
                    ((AV.inb (AV.prj r5889 0) (ys7361.getD 0 default)) ∧
                    ((AV.isAgg (AV.atAgg (AV.prj r5889 0) (ys7361.getD 0 default) 0 3) 3) ∧
                    ((fEnt Tryz.prog 11) ∧
                    (fAllV fun _ => (fLoop 8129 [(AV.int 0)] fun ys8129 again8129 =>
                      ((AV.binOk Go.BinOp.lss (ys8129.getD 0 default) (AV.len (AV.prj r513 0))) ∧
                      ((AV.isBool (AV.bin Go.BinOp.lss (ys8129.getD 0 default) (AV.len (AV.prj r513 0)))) ∧
                      ((isT (AV.bin Go.BinOp.lss (ys8129.getD 0 default) (AV.len (AV.prj r513 0)))) ∧
                      ((AV.inb (AV.prj r513 0) (ys8129.getD 0 default)) ∧
                      ((AV.inb (AV.prj r513 0) (ys8129.getD 0 default)) ∧
                      ((fEnt Tryz.prog 12) ∧
                      (fAllV fun _ => ((AV.isAgg (AV.atAgg (AV.prj r513 0) (ys8129.getD 0 default) 0 3) 3) ∧
                      ((AV.binOk Go.BinOp.eql (AV.cel (AV.atAgg (AV.prj r513 0) (ys8129.getD 0 default) 0 3) 0) (AV.cel (AV.atAgg (AV.prj r5889 0) (ys7361.getD 0 default) 0 3) 0)) ∧
                      ((AV.isBool (AV.bin Go.BinOp.eql (AV.cel (AV.atAgg (AV.prj r513 0) (ys8129.getD 0 default) 0 3) 0) (AV.cel (AV.atAgg (AV.prj r5889 0) (ys7361.getD 0 default) 0 3) 0))) ∧
                      (((isT (AV.bin Go.BinOp.eql (AV.cel (AV.atAgg (AV.prj r513 0) (ys8129.getD 0 default) 0 3) 0) (AV.cel (AV.atAgg (AV.prj r5889 0) (ys7361.getD 0 default) 0 3) 0))) →
                        ((AV.binOk Go.BinOp.lss (ys8129.getD 0 default) (AV.int 0)) ∧
                        ((AV.isBool (AV.bin Go.BinOp.lss (ys8129.getD 0 default) (AV.int 0))) ∧
                        ((isF (AV.bin Go.BinOp.lss (ys8129.getD 0 default) (AV.int 0))) ∧
                        ((AV.inb (AV.prj r513 0) (ys8129.getD 0 default)) ∧
                        ((AV.inb (AV.prj r513 0) (ys8129.getD 0 default)) ∧
                        ((AV.binOk Go.BinOp.gtr (AV.cel (AV.atAgg (AV.prj r5889 0) (ys7361.getD 0 default) 0 3) 2) (AV.at (AV.prj r513 0) (ys8129.getD 0 default) 2)) ∧
                        ((AV.isBool (AV.bin Go.BinOp.lss (ys8129.getD 0 default) (AV.int 0))) ∧
                        ((isF (AV.bin Go.BinOp.lss (ys8129.getD 0 default) (AV.int 0))) ∧
                        ((AV.isBool (AV.bin Go.BinOp.gtr (AV.cel (AV.atAgg (AV.prj r5889 0) (ys7361.getD 0 default) 0 3) 2) (AV.at (AV.prj r513 0) (ys8129.getD 0 default) 2))) ∧
                        ((isF (AV.bin Go.BinOp.gtr (AV.cel (AV.atAgg (AV.prj r5889 0) (ys7361.getD 0 default) 0 3) 2) (AV.at (AV.prj r513 0) (ys8129.getD 0 default) 2))) ∧
                        ((AV.binOk Go.BinOp.add (ys7361.getD 0 default) (AV.int 1)) ∧
                        (again7361 [(AV.bin Go.BinOp.add (ys7361.getD 0 default) (AV.int 1))]))))))))))))) ∧
                      ((isF (AV.bin Go.BinOp.eql (AV.cel (AV.atAgg (AV.prj r513 0) (ys8129.getD 0 default) 0 3) 0) (AV.cel (AV.atAgg (AV.prj r5889 0) (ys7361.getD 0 default) 0 3) 0))) →
                        ((AV.binOk Go.BinOp.add (ys8129.getD 0 default) (AV.int 1)) ∧
                        (again8129 [(AV.bin Go.BinOp.add (ys8129.getD 0 default) (AV.int 1))]))))))))))))))))))))) ∧
                  ((isF (AV.bin Go.BinOp.lss (ys7361.getD 0 default) (AV.len (AV.prj r5889 0)))) →
                    ((AV.flat (AV.bool true)) ∧
                    (fSame (AV.bool true) r)))))))))))))))))))))))))))))))))))))))))))))))))))))))))))))))))))))))))))))))))))))))) := by kernel_rfl
end TsF
end Go.Proofs.YtcifjnhpgblnkaaGreatDoor
/- flow.index, flow.Demand, flow.Over. -/
namespace Go.Proofs.YtcifjnhpgblnkaaGreatDoor
open Go.RowKit
set_option linter.unusedVariables false
set_option linter.unusedSimpArgs false
set_option maxRecDepth 100000
theorem findex_fn (c : List Cp) (t : Int) (hc : c.length ≤ 1000) : Fn Tryz.prog 117 [cps c, .int t] .sc (.int (fidx c t)) := by
  refine fn_run mixed 4 (Γ := TsF.Γ) (ann := TsF.ann) Tryz.func117 rfl Tryz.call117 ((TsF.index_form _ _ _).mpr ?_)
  refine ⟨by simp, Tryz.call48, fun _ => ⟨by simp, ?_⟩⟩
  refine loop_list (σ := Unit) c (fun n _ => [.int (n : Nat)]) (fun n rest _ => fidx c t = idxN (inC t) n rest) () rfl rfl ?_ ?_
  · rintro n y rest _ K hy hr hn hg hK
    have an : AV.bin Go.BinOp.add (.int (n : Int)) (.int 1) = .int ((n : Int) + 1) := by rw [av_add]; exact congrArg (fun z => AV.lit (.int .i64 z)) (wrap64 (by omega) (by omega))
    have ha : AV.atAgg (cps c) (.int (n : Int)) 0 3 = .agg (encC y) := by rw [lst_atAgg hy]; rfl
    have c0 : AV.cel (.agg (encC y)) 0 = .int y.f := rfl
    have c1 : AV.cel (.agg (encC y)) 1 = .int y.t := rfl
    rw [idxN] at hg
    have gN : inC t y = false → K [.int ((n : Int) + 1)] := fun q => hK _ () (by simp) (by rw [hg, if_neg (by simp [q])])
    simp only [List.getD_cons_zero, an, ha, c0, c1]
    refine ⟨by simp, by simp, fun _ => ⟨by simp, by simp; omega, Tryz.call183, fun _ => ⟨by simp [encC], by simp, by simp, fun p => ⟨by simp, by simp, p, by simp, fun q => ?_, fun q => ?_⟩, fun p => ?_⟩⟩, fun p => absurd p (by simp; omega)⟩
    · have p : y.f ≤ t := by simpa using p
      have q : t < y.t := by simpa using q
      refine ⟨by simp, ?_⟩
      rw [hg, if_pos (by simp [inC, p, q])]; rfl
    · have q : ¬ t < y.t := by simpa using q
      exact ⟨by simp, gN (by simp [inC]; omega)⟩
    · have p' : ¬ y.f ≤ t := by simpa using p
      exact ⟨by simp, p, by simp, gN (by simp [inC]; omega)⟩
  · rintro _ K hg
    rw [idxN] at hg
    rw [hg]
    exact ⟨by simp, by simp, fun q => absurd q (by simp), fun _ => ⟨by simp, rfl⟩⟩
def cntL (c : List Cp) (ts : List Int) : List Int := (List.range c.length).map fun k => cntI c ts k
def cntNo (c : List Cp) (ts : List Int) : Int := (ts.countP (fun t => decide (fidx c t < 0)) : Nat)
theorem cnt_snoc (c : List Cp) (ts : List Int) (x : Int) (k : Nat) : cntI c (ts ++ [x]) k = cntI c ts k + (if fidx c x = (k : Int) then 1 else 0) := by
  unfold cntI
  rw [List.countP_append, List.countP_singleton]
  by_cases e : fidx c x = (k : Int)
  · simp [e]
  · simp [e]
theorem no_snoc (c : List Cp) (ts : List Int) (x : Int) : cntNo c (ts ++ [x]) = cntNo c ts + (if fidx c x < 0 then 1 else 0) := by
  unfold cntNo
  rw [List.countP_append, List.countP_singleton]
  by_cases e : fidx c x < 0
  · simp [e]
  · simp [e]
theorem cntL_at {c : List Cp} {ts : List Int} {k : Nat} (h : k < c.length) : (cntL c ts)[k]? = some (cntI c ts k) := by
  unfold cntL
  rw [List.getElem?_map, List.getElem?_range h]; rfl
theorem cntL_len (c : List Cp) (ts : List Int) : (cntL c ts).length = c.length := by simp [cntL]
theorem cntL_hit {c : List Cp} {ts : List Int} {x : Int} {k : Nat} (e : fidx c x = (k : Int)) : (cntL c ts).set k (cntI c ts k + 1) = cntL c (ts ++ [x]) := by
  apply List.ext_getElem?
  intro j
  rw [List.getElem?_set, cntL_len]
  by_cases hj : j < c.length
  · rw [cntL_at hj, cntL_at hj, cnt_snoc, e]
    by_cases q : k = j
    · subst q; simp [hj]
    · have : ¬ (k : Int) = (j : Int) := by omega
      simp [q, this]
  · have h1 : (cntL c ts)[j]? = none := List.getElem?_eq_none (by rw [cntL_len]; omega)
    have h2 : (cntL c (ts ++ [x]))[j]? = none := List.getElem?_eq_none (by rw [cntL_len]; omega)
    rw [h1, h2]
    split
    · rename_i q; subst q; rw [if_neg hj]
    · rfl
theorem cntL_miss {c : List Cp} {ts : List Int} {x : Int} (e : fidx c x < 0) : cntL c (ts ++ [x]) = cntL c ts := by
  unfold cntL
  refine List.map_congr_left fun k _ => ?_
  rw [cnt_snoc, if_neg (by omega)]
  omega
theorem cnt_bd (c : List Cp) (ts : List Int) (k : Nat) : 0 ≤ cntI c ts k ∧ cntI c ts k ≤ ts.length := by
  unfold cntI
  have := List.countP_le_length (p := fun t => decide (fidx c t = (k : Int))) (l := ts)
  omega
theorem no_bd (c : List Cp) (ts : List Int) : 0 ≤ cntNo c ts ∧ cntNo c ts ≤ ts.length := by
  unfold cntNo
  have := List.countP_le_length (p := fun t => decide (fidx c t < 0)) (l := ts)
  omega
theorem fidx_lt {c : List Cp} {t : Int} (h : ¬ fidx c t < 0) : ∃ k : Nat, fidx c t = (k : Int) ∧ k < c.length := by
  rcases idxN_spec (inC t) c 0 with ⟨h1, _⟩ | ⟨i, x, h1, h2, _⟩
  · unfold fidx at h; omega
  · exact ⟨i, by unfold fidx; rw [h1, Nat.zero_add], (List.getElem?_eq_some_iff.1 h2).1⟩
theorem cntL_nil (c : List Cp) : cntL c [] = List.replicate c.length 0 := by
  apply List.ext_getElem?
  intro j
  by_cases hj : j < c.length
  · rw [cntL_at hj, List.getElem?_replicate, if_pos hj]; rfl
  · rw [List.getElem?_eq_none (by rw [cntL_len]; omega), List.getElem?_eq_none (by simp; omega)]
theorem dem_fn (c : List Cp) (ts : List Int) (hc : capE c = 0) (hl : ts.length ≤ 256) (ht : ∀ t ∈ ts, 0 ≤ t ∧ t ≤ 200000) : Fn Tryz.prog 51 [cps c, ints ts] (.tup [.row 3 1 true, .sc, .sc]) (.tup [ints (cntL c ts), .int (cntNo c ts), .int 0]) := by
  have e := TsF.demand_form (cps c) (ints ts) (.tup [ints (cntL c ts), .int (cntNo c ts), .int 0])
  have k := fun h => fn_run mixed 3 (Γ := TsF.Γ) (ann := TsF.ann) Tryz.func51 rfl Tryz.call51 (e.mpr h)
  refine k ?_
  clear k e
  have gc := goodC hc
  have hcl := gc.len
  have hf := fcheck_fn c
  rw [hc] at hf
  refine ⟨_, hf, by simp, by simp, fun q => absurd q (by simp), fun _ => ⟨by simp, by simp, by simp, fun q => absurd q (by simp; omega), fun _ => ⟨by simp, ?_, by simp, rfl, by simp, ?_⟩⟩⟩
  · exact ⟨by simp, by simp, by simp; omega⟩
  refine loop_list (σ := Unit) ts (fun n _ => [.int (cntNo c (ts.take n)), .int (n : Nat), ints (cntL c (ts.take n))]) (fun _ _ _ => True) () ?_ trivial ?_ ?_
  · rw [List.take_zero, cntL_nil]
    have := rep_ints c.length
    have hlen : AV.len (cps c) = .lit (.int .i64 (c.length : Nat)) := by simp
    rw [hlen]
    exact congrArg (fun z => [AV.int 0, AV.int 0, z]) this
  · rintro n x rest _ K hx hr hn _ hK
    have hxt := ht x (List.mem_of_getElem? hx)
    have hK' := hK [.int (cntNo c (ts.take (n + 1))), .int ((n : Int) + 1), ints (cntL c (ts.take (n + 1)))] () (by simp) trivial
    have htk : ts.take (n + 1) = ts.take n ++ [x] := take_snoc hx
    rw [htk, no_snoc] at hK'
    have an : AV.bin Go.BinOp.add (.int (n : Int)) (.int 1) = .int ((n : Int) + 1) := by rw [av_add]; exact congrArg (fun z => AV.lit (.int .i64 z)) (wrap64 (by omega) (by omega))
    have ha : AV.at (ints ts) (.int (n : Int)) 0 = .int x := by rw [lst_at hx]; rfl
    have hlt : (ts.take n).length ≤ 256 := by simp; omega
    generalize ts.take n = A at *
    have hnb := no_bd c A
    have as_ : AV.bin Go.BinOp.add (.int (cntNo c A)) (.int 1) = .int (cntNo c A + 1) := by rw [av_add]; exact congrArg (fun z => AV.lit (.int .i64 z)) (wrap64 (by omega) (by omega))
    have hfi := findex_fn c x (by omega)
    simp only [List.getD_cons_zero, List.getD_cons_succ, an, ha, as_]
    refine ⟨by simp, by simp, fun _ => ⟨by simp, by simp; omega, by simp, by simp, fun q => absurd q (by simp; omega), fun q1 => ⟨by simp, by simp, q1, by simp, fun q => absurd q (by simp; omega), fun _ => ⟨_, hfi, by simp, by simp, fun p => ?_, fun p => ?_⟩⟩⟩, fun q => absurd q (by simp; omega)⟩
    · have p : ¬ fidx c x < 0 := by simpa using p
      obtain ⟨i, hi, hic⟩ := fidx_lt p
      have hcb := cnt_bd c A i
      have hat := cntL_at (ts := A) hic
      have hain : AV.inb (ints (cntL c A)) (.int (i : Int)) := by simp [cntL_len]; omega
      have hai : AV.at (ints (cntL c A)) (.int (i : Int)) 0 = .int (cntI c A i) := by rw [lst_at hat]; rfl
      have aa : AV.bin Go.BinOp.add (.int (cntI c A i)) (.int 1) = .int (cntI c A i + 1) := by rw [av_add]; exact congrArg (fun z => AV.lit (.int .i64 z)) (wrap64 (by omega) (by omega))
      have hset : AV.setEl (ints (cntL c A)) (.int (i : Int)) 0 [.int (cntI c A i + 1)] = ints (cntL c (A ++ [x])) := by
        rw [← cntL_hit hi]
        exact lst_setEl hat (by simp [encI])
      rw [if_neg (by omega), Int.add_zero] at hK'
      rw [hi]
      simp only [hai, aa, hset]
      exact ⟨hain, hain, by simp, hain, by simp, hain, by simp, hK'⟩
    · have p : fidx c x < 0 := by simpa using p
      rw [if_pos p, cntL_miss p] at hK'
      exact ⟨by simp, by simp, hK'⟩
  · rintro _ K _
    rw [List.take_length]
    simp only [List.getD_cons_zero, List.getD_cons_succ]
    exact ⟨by simp, by simp, fun q => absurd q (by simp), fun _ => ⟨flat_ints _, .lit _, .lit _, rfl⟩⟩
theorem over_fn (c : List Cp) (ts : List Int) (hc : capE c = 0) (hl : ts.length ≤ 256) (ht : ∀ t ∈ ts, 0 ≤ t ∧ t ≤ 200000) (hno : ∀ k x, c[k]? = some x → cntI c ts k ≤ x.m) : Fn Tryz.prog 10 [cps c, ints ts] (.tup [.row 3 1 true, .sc]) (.tup [.sl 1 [], .int 0]) := by
  have e := TsF.over_form (cps c) (ints ts) (.tup [.sl 1 [], .int 0])
  have k := fun h => fn_run mixed 3 (Γ := TsF.Γ) (ann := TsF.ann) Tryz.func10 rfl Tryz.call10 (e.mpr h)
  refine k ?_
  clear k e
  have hcl := (goodC hc).len
  refine ⟨_, dem_fn c ts hc hl ht, by simp, by simp, fun q => absurd q (by simp), fun _ => ⟨by simp, ?_⟩⟩
  refine loop_list (σ := Unit) c (fun n _ => [.int (n : Nat), .sl 1 []]) (fun _ _ _ => True) () rfl trivial ?_ ?_
  · rintro n x rest _ K hx hr hn _ hK
    have hK' := hK [.int ((n : Int) + 1), .sl 1 []] () (by simp) trivial
    have an : AV.bin Go.BinOp.add (.int (n : Int)) (.int 1) = .int ((n : Int) + 1) := by rw [av_add]; exact congrArg (fun z => AV.lit (.int .i64 z)) (wrap64 (by omega) (by omega))
    have ha : AV.atAgg (cps c) (.int (n : Int)) 0 3 = .agg (encC x) := by rw [lst_atAgg hx]; rfl
    have c2 : AV.cel (.agg (encC x)) 2 = .int x.m := rfl
    have hp : AV.prj (.tup [ints (cntL c ts), .int (cntNo c ts), .int 0]) 0 = ints (cntL c ts) := rfl
    have hain : AV.inb (ints (cntL c ts)) (.int (n : Int)) := by simp [cntL_len]; omega
    have hai : AV.at (ints (cntL c ts)) (.int (n : Int)) 0 = .int (cntI c ts n) := by rw [lst_at (cntL_at hn)]; rfl
    have hle := hno n x hx
    simp only [List.getD_cons_zero, List.getD_cons_succ, an, ha, c2, hp, hai]
    exact ⟨by simp, by simp, fun _ => ⟨by simp, by simp; omega, by simp [encC], hain, hain, by simp, by simp, fun q => absurd q (by simp; omega), fun _ => ⟨by simp, hK'⟩⟩, fun q => absurd q (by simp; omega)⟩
  · rintro _ K _
    exact ⟨by simp, by simp, fun q => absurd q (by simp), fun _ => ⟨by simp [AV.flatS], .lit _, rfl⟩⟩
end Go.Proofs.YtcifjnhpgblnkaaGreatDoor
/- The law TopSlots over plain values, from its fact. -/
namespace Go.Proofs.YtcifjnhpgblnkaaGreatDoor
open Go.RowKit
set_option linter.unusedVariables false
set_option linter.unusedSimpArgs false
set_option maxRecDepth 100000
def pickN (a : Int) : Int := IntKind.i64.wrap ((IntKind.u64.wrap a).tmod 300)
theorem pickN_bd (a : Int) : 0 ≤ pickN a ∧ pickN a < 300 := by
  have h0 : 0 ≤ IntKind.u64.wrap a := by
    have : IntKind.u64.wrap a = a % 18446744073709551616 := by first | rfl | (unfold IntKind.wrap; rfl)
    rw [this]; omega
  unfold pickN
  rw [Int.tmod_eq_emod_of_nonneg h0]
  generalize IntKind.u64.wrap a = u at *
  rw [show IntKind.i64.wrap (u % 300) = u % 300 from wrap64 (by omega) (by omega)]
  omega
theorem pick_fn (a : Int) : Fn Tryz.prog 6 [.int a, .int 300] .sc (.int (pickN a)) := by
  refine fn_run mixed 2 (Γ := TsF.Γ) (ann := TsF.ann) Tryz.func6 rfl Tryz.call6 ((TsF.pick_form _ _ _).mpr ?_)
  have h3 : IntKind.u64.wrap 300 = 300 := by decide
  refine ⟨by simp, by simp, ?_, by simp [AV.conv], by simp [AV.conv], ?_⟩
  · simp [AV.conv, h3]
  · show AV.lit (.int .i64 _) = _
    simp [AV.conv, h3, pickN]
def bF : ByteArray := ⟨#[70, 73, 82, 83, 84]⟩
def bS : ByteArray := ⟨#[83, 69, 67, 79, 78, 68]⟩
theorem demE_take {l : List Dm} (h : demE l = 0) (n : Nat) : demE (l.take n) = 0 := by
  have g := goodM h
  have hdm : dmE [] l = 0 := by
    unfold demE at h
    split at h
    · cases h
    · exact h
  unfold demE
  rw [if_neg (by have := g.len; simp; omega)]
  refine dmE_of _ _ (fun x hx => ?_) (g.dist.sublist (List.take_sublist n l))
  have hx := List.mem_of_mem_take hx
  exact ⟨dmE_nm hdm x hx, (g.tm x hx).1, (g.tm x hx).2, fun y hy => by simp at hy⟩
theorem asg_cases (p : ByteArray) (l : List Dm) (c : List Cp) : (asgE p l c ≠ 0 ∧ asgV p l c = .tup [.sl 3 [], .int (asgE p l c)]) ∨ ∃ o, sltE p l c = 0 ∧ asgR p l c = some o ∧ asgE p l c = 0 ∧ asgV p l c = .tup [sos o, .int 0] := by
  by_cases h : asgE p l c = 0
  · right
    have hs : sltE p l c = 0 := by
      unfold asgE at h
      split at h
      · rename_i q; exact absurd h q
      · rename_i q; simpa using q
    cases ho : asgR p l c with
    | none =>
      unfold asgE at h
      rw [if_neg (by simp [hs]), ho] at h
      simp at h
    | some o => exact ⟨o, hs, rfl, h, asgV_ok hs ho⟩
  · exact .inl ⟨h, asgV_err rfl h⟩
theorem slt_ok {p : ByteArray} {l : List Dm} {c : List Cp} (h : sltE p l c = 0) : demE l = 0 ∧ capE c = 0 := by
  unfold sltE at h
  split at h
  · cases h
  · split at h
    · rename_i q; exact absurd h q
    · rename_i q; exact ⟨by simpa using q, h⟩
theorem sub_dms (l : List Dm) (n : Nat) : AV.sub 2 (dms l) (.int 0) (.int (n : Nat)) = dms (l.take n) := by
  simp [AV.sub, lst, List.map_take]
theorem ltopslots_fn (hfact : Fn Tryz.prog 5 [] .sc (.bool true)) (l : List Dm) (a b : List Cp) (long : Int) : Fn Tryz.prog 3 [dms l, cps a, cps b, .int long] .sc (.bool true) := by
  have e := TsF.law_form (dms l) (cps a) (cps b) (.int long) (.bool true)
  have k := fun h => fn_run mixed 4 (Γ := TsF.Γ) (ann := TsF.ann) Tryz.func3 rfl Tryz.call3 (e.mpr h)
  refine k ?_
  clear k e
  obtain ⟨L, hL⟩ : ∃ L, L = pickN long := ⟨_, rfl⟩
  have hLb := pickN_bd long
  rw [← hL] at hLb
  have hpk := pick_fn long
  rw [← hL] at hpk
  clear hL
  have has := assign_fn bF l a
  refine ⟨_, hfact, by simp, by simp, by simp, _, hpk, _, has, ?_⟩
  rcases asg_cases bF l a with ⟨h1, h2⟩ | ⟨o, h1, h2, h3, h4⟩
  · rw [h2]
    exact ⟨by simp, by simp, fun _ => ⟨by simp, by simp, by simp⟩, fun q => absurd q (by simpa using h1)⟩
  rw [h4]
  clear has h3 h4
  obtain ⟨hd, hca⟩ := slt_ok h1
  have gM := goodM hd
  have gA := goodC hca
  obtain ⟨hS, hCap⟩ := asg_all gA h2
  have hol : o.length = l.length := by rw [hS.1, srtB_len]
  have hll := gM.len
  have hoT : ∀ z ∈ o, 0 ≤ z.t ∧ z.t ≤ 200000 := fun z hz => by
    obtain ⟨i, hi⟩ := List.getElem?_of_mem hz
    obtain ⟨d, hdS, q⟩ := hS.get hi
    have := gM.tm d ((srtB_perm kM l).mem_iff.1 (List.mem_of_getElem? hdS))
    have := q.lo
    exact ⟨by omega, q.hi⟩
  have hp0 : AV.prj (.tup [sos o, .int 0]) 0 = sos o := rfl
  have hp1 : AV.prj (.tup [sos o, .int 0]) 1 = .int 0 := rfl
  have hsb : AV.bin Go.BinOp.sub (.int 200000) (.int L) = .int (200000 - L) := by rw [av_subt]; exact congrArg (fun z => AV.lit (.int .i64 z)) (wrap64 (by omega) (by omega))
  simp only [hp0, hp1, hsb]
  refine ⟨by simp, by simp, fun q => absurd q (by simp), fun _ => ?_⟩
  refine loop_list (σ := Unit) o (fun n _ => [.int (n : Nat), dms ((o.take n).map (nxD L)), ints ((o.take n).map (·.t))]) (fun n rest _ => ∀ z ∈ o.take n, z.t ≤ 200000 - L) () rfl (by simp) ?_ ?_
  · rintro n z rest _ K hz hr hn hall hK
    have hzt := hoT z (List.mem_of_getElem? hz)
    have htk : o.take (n + 1) = o.take n ++ [z] := take_snoc hz
    have an : AV.bin Go.BinOp.add (.int (n : Int)) (.int 1) = .int ((n : Int) + 1) := by rw [av_add]; exact congrArg (fun z => AV.lit (.int .i64 z)) (wrap64 (by omega) (by omega))
    have ha : AV.atAgg (sos o) (.int (n : Int)) 0 3 = .agg (encO z) := by rw [lst_atAgg hz]; rfl
    have c0 : AV.cel (.agg (encO z)) 0 = .string z.c := rfl
    have c2 : AV.cel (.agg (encO z)) 2 = .int z.t := rfl
    have hin : AV.inb (sos o) (.int (n : Int)) := by simp; omega
    have az : AV.bin Go.BinOp.add (.int z.t) (.int L) = .int (z.t + L) := by rw [av_add]; exact congrArg (fun z => AV.lit (.int .i64 z)) (wrap64 (by omega) (by omega))
    have hK' : z.t ≤ 200000 - L → K [.int ((n : Int) + 1), dms ((o.take (n + 1)).map (nxD L)), ints ((o.take (n + 1)).map (·.t))] := fun q => hK _ () (by simp) (by
      rw [htk]; intro w hw
      rcases List.mem_append.1 hw with hw | hw
      · exact hall w hw
      · simp at hw; subst hw; exact q)
    rw [htk] at hK'
    have e1 : AV.app 2 (dms ((o.take n).map (nxD L))) (.sl 2 [[.string z.c, .int (z.t + L)]]) = dms ((o.take n ++ [z]).map (nxD L)) := by simp [lst, AV.app, AV.els, encM, nxD]
    have e2 : AV.app 1 (ints ((o.take n).map (·.t))) (.sl 1 [[.int z.t]]) = ints ((o.take n ++ [z]).map (·.t)) := by simp [lst, AV.app, AV.els, encI]
    have hr1 : AV.room (dms ((o.take n).map (nxD L))) (.sl 2 [[.string z.c, .int (z.t + L)]]) 24 := by
      unfold AV.room
      simp only [lst_els, List.length_map, av_els, List.length_cons, List.length_nil, List.length_take]
      omega
    have hr2 : AV.room (ints ((o.take n).map (·.t))) (.sl 1 [[.int z.t]]) 8 := by
      unfold AV.room
      simp only [lst_els, List.length_map, av_els, List.length_cons, List.length_nil, List.length_take]
      omega
    simp only [List.getD_cons_zero, List.getD_cons_succ, an, ha, c0, c2, az, av_mk, e1, e2]
    refine ⟨by simp, by simp, fun _ => ⟨hin, hin, by simp [encO], by simp, by simp, by simp, fun q => ⟨.lit _, rfl⟩, fun q => ⟨by simp, by simp, by simp, hr1, by simp, hr2, by simp, hK' (by simpa using q)⟩⟩, fun q => absurd q (by simp; omega)⟩
  rintro _ K hall
  rw [List.take_length] at hall ⊢
  clear hp0 hp1 hsb
  refine ⟨by simp, by simp, fun q => absurd q (by simp), fun _ => ?_⟩
  have hdn := nxD_ok hd hS (by omega) hall
  obtain ⟨N, hN⟩ : ∃ N, N = o.map (nxD L) := ⟨_, rfl⟩
  obtain ⟨X, hX⟩ : ∃ X : List Int, X = o.map (·.t) := ⟨_, rfl⟩
  have hNl : N.length = l.length := by rw [hN, List.length_map, hol]
  have hXl : X.length = l.length := by rw [hX, List.length_map, hol]
  simp only [List.getD_cons_zero, List.getD_cons_succ]
  rw [← hN, ← hX]
  rw [← hN] at hdn
  have has2 := assign_fn bS N b
  refine ⟨_, has2, ?_⟩
  have hbS : isName bS = true := by kernel_rfl
  have hslt : sltE bS N b = capE b := by unfold sltE; rw [if_neg (by simp [hbS]), if_neg (by simp [hdn])]
  rcases asg_cases bS N b with ⟨h3, h4⟩ | ⟨o2, h3, h4, h5, h6⟩
  · rw [h4]
    have h5 : asgE bS N b = 18 ∨ asgE bS N b = capE b := by
      unfold asgE
      rw [hslt]
      split
      · exact .inr rfl
      · rename_i q
        split
        · exact .inl rfl
        · right
          have q : capE b = 0 := by simpa using q
          exact q.symm
    refine ⟨by simp, by simp, fun _ => ⟨by simp, by simp, by simp, by simp, by simp, fun q => ⟨by simp, q, by simp, by simp, .lit _, rfl⟩, fun q => ⟨_, fcheck_fn b, by simp, by simp, q, by simp, by simp, by simp, ?_⟩⟩, fun q => absurd q (by simpa using h3)⟩
    have q' : ¬ asgE bS N b = 18 := by simpa using q
    rcases h5 with h5 | h5
    · exact absurd h5 q'
    · simp [h5, fSame]
  rw [h6]
  clear has2 h5 h6
  obtain ⟨_, hcb⟩ := slt_ok h3
  have gB := goodC hcb
  have gN := goodM hdn
  obtain ⟨hS2, hCap2⟩ := asg_all gB h4
  have ho2l : o2.length = l.length := by rw [hS2.1, srtB_len, hNl]
  have hp0 : AV.prj (.tup [sos o2, .int 0]) 0 = sos o2 := rfl
  have hp1 : AV.prj (.tup [sos o2, .int 0]) 1 = .int 0 := rfl
  simp only [hp0, hp1]
  refine ⟨by simp, by simp, fun q => absurd q (by simp), fun _ => ?_⟩
  refine loop_list (σ := Unit) o2 (fun n _ => [.int (n : Nat), ints ((o2.take n).map (·.t))]) (fun _ _ _ => True) () rfl trivial ?_ ?_
  · rintro n z rest _ K2 hz hr hn _ hK
    have htk : o2.take (n + 1) = o2.take n ++ [z] := take_snoc hz
    have an : AV.bin Go.BinOp.add (.int (n : Int)) (.int 1) = .int ((n : Int) + 1) := by rw [av_add]; exact congrArg (fun z => AV.lit (.int .i64 z)) (wrap64 (by omega) (by omega))
    have ha : AV.atAgg (sos o2) (.int (n : Int)) 0 3 = .agg (encO z) := by rw [lst_atAgg hz]; rfl
    have c2 : AV.cel (.agg (encO z)) 2 = .int z.t := rfl
    have hin : AV.inb (sos o2) (.int (n : Int)) := by simp; omega
    have hK' := hK [.int ((n : Int) + 1), ints ((o2.take (n + 1)).map (·.t))] () (by simp) trivial
    rw [htk] at hK'
    have e2 : AV.app 1 (ints ((o2.take n).map (·.t))) (.sl 1 [[.int z.t]]) = ints ((o2.take n ++ [z]).map (·.t)) := by simp [lst, AV.app, AV.els, encI]
    have hr2 : AV.room (ints ((o2.take n).map (·.t))) (.sl 1 [[.int z.t]]) 8 := by
      unfold AV.room
      simp only [lst_els, List.length_map, av_els, List.length_cons, List.length_nil, List.length_take]
      omega
    simp only [List.getD_cons_zero, List.getD_cons_succ, an, ha, c2, av_mk, e2]
    exact ⟨by simp, by simp, fun _ => ⟨hin, hin, by simp [encO], by simp, hr2, by simp, hK'⟩, fun q => absurd q (by simp; omega)⟩
  rintro _ K2 _
  rw [List.take_length]
  refine ⟨by simp, by simp, fun q => absurd q (by simp), fun _ => ?_⟩
  simp only [List.getD_cons_zero, List.getD_cons_succ]
  -- delays
  have hfind : ∀ d ∈ N, ¬ sidx o2 d.c < 0 ∧ d.t ≤ (o2.getD (sidx o2 d.c).toNat default).t ∧ (o2.getD (sidx o2 d.c).toNat default).t ≤ 200000 := fun d hd' => find_srv gN.dist hS2 hd'
  obtain ⟨D, hD⟩ : ∃ D : List Int, D = N.map fun d => (o2.getD (sidx o2 d.c).toNat default).t - d.t := ⟨_, rfl⟩
  have hdly : dlyV N o2 = .tup [ints D, .int 0] := by
    refine dlyV_of (p := ((0 : Int), D)) ?_
    unfold dly
    rw [if_neg (by simp [hdn]), if_neg (by omega), dlyG_ok o2 N [] hfind, List.nil_append, ← hD]
  have hdl := delays_fn N o2
  rw [hdly] at hdl
  have hDl : D.length = l.length := by rw [hD, List.length_map, hNl]
  have ho2T : ∀ z ∈ o2, 0 ≤ z.t ∧ z.t ≤ 200000 := fun z hz => by
    obtain ⟨i, hi⟩ := List.getElem?_of_mem hz
    obtain ⟨d, hdS, q⟩ := hS2.get hi
    have := gN.tm d ((srtB_perm kM N).mem_iff.1 (List.mem_of_getElem? hdS))
    have := q.lo
    exact ⟨by omega, q.hi⟩
  have hov1 := over_fn a X hca (by omega) (fun t ht => by rw [hX] at ht; obtain ⟨z, hz, rfl⟩ := List.mem_map.1 ht; exact hoT z hz) (by rw [hX]; exact hCap)
  have hov2 := over_fn b (o2.map (·.t)) hcb (by simp; omega) (fun t ht => by obtain ⟨z, hz, rfl⟩ := List.mem_map.1 ht; exact ho2T z hz) hCap2
  have hq : AV.bin Go.BinOp.quo (AV.len (dms l)) (.int 2) = .int ((l.length / 2 : Nat) : Int) := by
    have h1 : AV.len (dms l) = .int (l.length : Nat) := by simp
    rw [h1, av_quo]
    have : ((l.length : Nat) : Int).tdiv 2 = ((l.length / 2 : Nat) : Int) := by rw [Int.tdiv_eq_ediv_of_nonneg (by omega)]; omega
    rw [this]
    exact congrArg (fun z => AV.lit (.int .i64 z)) (wrap64 (by omega) (by omega))
  -- the half
  obtain ⟨o', hh1, hh2⟩ := half_ok gA gM.dist h2 (l.length / 2)
  have hhs : sltE bF (l.take (l.length / 2)) a = 0 := by
    have hbF : isName bF = true := by kernel_rfl
    unfold sltE
    rw [if_neg (by simp [hbF]), if_neg (by simp [demE_take hd]), hca]
  have hhV := asgV_ok hhs hh1
  have hha := assign_fn bF (l.take (l.length / 2)) a
  rw [hhV] at hha
  have ho'l : o'.length = l.length / 2 := by
    have := (asg_all gA hh1).1.1
    rw [this, srtB_len, List.length_take]
    omega
  have q0 : AV.prj (.tup [ints D, .int 0]) 0 = ints D := rfl
  have q1 : AV.prj (.tup [ints D, .int 0]) 1 = .int 0 := rfl
  have q2 : AV.prj (.tup [.sl 1 [], .int 0]) 0 = .sl 1 [] := rfl
  have q3 : AV.prj (.tup [.sl 1 [], .int 0]) 1 = .int 0 := rfl
  have q4 : AV.prj (.tup [sos o', .int 0]) 0 = sos o' := rfl
  have q5 : AV.prj (.tup [sos o', .int 0]) 1 = .int 0 := rfl
  have hsubok : AV.subOk (dms l) (.int 0) (.int ((l.length / 2 : Nat) : Int)) := by simp; omega
  have hle : AV.len (ints D) = .int (l.length : Nat) := by simp [hDl]
  have hlN : AV.len (dms N) = .int (l.length : Nat) := by simp [hNl]
  have hlo : AV.len (sos o') = .int ((l.length / 2 : Nat) : Int) := by simp [ho'l]
  refine ⟨_, hdl, _, hov1, _, hov2, ?_⟩
  simp only [q0, q1, q2, q3, hq, sub_dms, hle, hlN]
  refine ⟨by simp, by simp, by simp, by simp, by simp, by simp, by simp, by simp, by simp, by simp, by simp, by simp, by simp, by simp, by simp, by simp, by simp, by simp, (by simp; decide), by simp, by simp, (by simp; decide), by simp, by simp, by simp, by simp, by simp, hsubok, _, hha, ?_⟩
  simp only [q4, q5, hlo]
  refine ⟨by simp, by simp, by simp, by simp, by simp, by simp, by simp, by simp, by simp, by simp, ?_⟩
  have hcalls : o.Pairwise fun x y => x.c ≠ y.c := pw_map (f := fun z : So => z.c) (g := fun d : Dm => d.c) hS.calls (dist_perm gM.dist (srtB_perm kM l))
  refine loop_list (σ := Unit) D (fun n _ => [.int (n : Nat)]) (fun _ _ _ => True) () rfl trivial ?_ ?_
  · rintro n x rest _ K3 hx hr hn _ hK
    have hno : n < o.length := by omega
    obtain ⟨z, hz⟩ : ∃ z, o[n]? = some z := ⟨_, List.getElem?_eq_getElem hno⟩
    have hNn : N[n]? = some (nxD L z) := by rw [hN, List.getElem?_map, hz]; rfl
    have hXn : X[n]? = some z.t := by rw [hX, List.getElem?_map, hz]; rfl
    have hxe : x = (o2.getD (sidx o2 (nxD L z).c).toNat default).t - (nxD L z).t := by
      rw [hD, List.getElem?_map, hNn] at hx
      simpa using hx.symm
    obtain ⟨_, f2, f3⟩ := hfind (nxD L z) (List.mem_of_getElem? hNn)
    have hzt : (nxD L z).t = z.t + L := rfl
    have hzb := hoT z (List.mem_of_getElem? hz)
    have an : AV.bin Go.BinOp.add (.int (n : Int)) (.int 1) = .int ((n : Int) + 1) := by rw [av_add]; exact congrArg (fun z => AV.lit (.int .i64 z)) (wrap64 (by omega) (by omega))
    have hK' := hK [.int ((n : Int) + 1)] () (by simp) trivial
    have ha : AV.at (ints D) (.int (n : Int)) 0 = .int x := by rw [lst_at hx]; rfl
    have hb' : AV.at (ints X) (.int (n : Int)) 0 = .int z.t := by rw [lst_at hXn]; rfl
    have hi1 : AV.inb (ints D) (.int (n : Int)) := by simp; omega
    have hi2 : AV.inb (ints X) (.int (n : Int)) := by simp; omega
    have a1 : AV.bin Go.BinOp.add (.int z.t) (.int L) = .int (z.t + L) := by rw [av_add]; exact congrArg (fun z => AV.lit (.int .i64 z)) (wrap64 (by omega) (by omega))
    have a2 : AV.bin Go.BinOp.add (.int (z.t + L)) (.int x) = .int (z.t + L + x) := by rw [av_add]; exact congrArg (fun z => AV.lit (.int .i64 z)) (wrap64 (by omega) (by omega))
    have hlt : (n : Int) < (l.length : Nat) := by omega
    simp only [List.getD_cons_zero, an, ha, hb', a1, a2]
    exact ⟨by simp, by simp, fun _ => ⟨hi1, hi1, by simp, by simp, by simp; omega, hi2, hi2, by simp, by simp, by simp, by simp, by simp; omega, by simp, by simp; omega, by simp, hK'⟩, fun q => absurd q (by simp; omega)⟩
  rintro _ K3 _
  refine ⟨by simp, by simp, fun q => absurd q (by simp; omega), fun _ => ?_⟩
  refine loop_list (σ := Unit) o' (fun n _ => [.int (n : Nat)]) (fun _ _ _ => True) () rfl trivial ?_ ?_
  · rintro n z rest _ K4 hz hr hn _ hK
    have hK' := hK [.int ((n : Int) + 1)] () (by simp) trivial
    have an : AV.bin Go.BinOp.add (.int (n : Int)) (.int 1) = .int ((n : Int) + 1) := by rw [av_add]; exact congrArg (fun z => AV.lit (.int .i64 z)) (wrap64 (by omega) (by omega))
    have ha : AV.atAgg (sos o') (.int (n : Int)) 0 3 = .agg (encO z) := by rw [lst_atAgg hz]; rfl
    have c0 : AV.cel (.agg (encO z)) 0 = .string z.c := rfl
    have c2 : AV.cel (.agg (encO z)) 2 = .int z.t := rfl
    have hi1 : AV.inb (sos o') (.int (n : Int)) := by simp; omega
    obtain ⟨w, hw, hwc, hwt⟩ := hh2 z (List.mem_of_getElem? hz)
    obtain ⟨iw, hiw⟩ := List.getElem?_of_mem hw
    have hiwl : iw < o.length := (List.getElem?_eq_some_iff.1 hiw).1
    simp only [List.getD_cons_zero, an, ha, c0, c2]
    refine ⟨by simp, by simp, fun _ => ⟨hi1, hi1, by simp [encO], Tryz.call11, fun _ => ?_⟩, fun q => absurd q (by simp; omega)⟩
    refine ⟨fun m ys => ∃ j : Nat, ys = [.int (j : Int)] ∧ j ≤ iw ∧ m = o.length - j ∧ ∀ i x, i < j → o[i]? = some x → x.c ≠ z.c, o.length, ⟨0, rfl, Nat.zero_le _, rfl, fun i x h => by omega⟩, ?_⟩
    rintro m ys _ ⟨j, rfl, hj, rfl, hbe⟩
    obtain ⟨x, hx⟩ : ∃ x, o[j]? = some x := ⟨_, List.getElem?_eq_getElem (by omega)⟩
    have aj : AV.bin Go.BinOp.add (.int (j : Int)) (.int 1) = .int (((j + 1 : Nat)) : Int) := by rw [av_add]; exact congrArg (fun z => AV.lit (.int .i64 z)) (by rw [wrap64 (by omega) (by omega)]; rfl)
    have hax : AV.atAgg (sos o) (.int (j : Int)) 0 3 = .agg (encO x) := by rw [lst_atAgg hx]; rfl
    have d0 : AV.cel (.agg (encO x)) 0 = .string x.c := rfl
    have hxt : AV.at (sos o) (.int (j : Int)) 2 = .int x.t := by rw [lst_at hx]; rfl
    have hij : AV.inb (sos o) (.int (j : Int)) := by simp; omega
    simp only [List.getD_cons_zero, aj, hax, d0, hxt]
    refine ⟨by simp, by simp, by simp; omega, hij, hij, Tryz.call12, fun _ => ⟨by simp [encO], by simp, by simp, fun q => ?_, fun q => ⟨by simp, ?_⟩⟩⟩
    · have q : x.c = z.c := by simpa using q
      have hxw : x = w := inj_of hcalls x (List.mem_of_getElem? hx) w hw (by rw [q, hwc])
      subst hxw
      exact ⟨by simp, by simp, by simp, hij, hij, by simp, by simp, by simp, by simp, by simp; omega, by simp, hK'⟩
    · have q : ¬ x.c = z.c := by simpa using q
      have hne : j ≠ iw := fun e => by
        subst e
        rw [hiw] at hx; injection hx with hx
        exact q (by rw [← hx, hwc])
      refine ⟨o.length - (j + 1), by omega, j + 1, rfl, by omega, rfl, fun i y hi hy => ?_⟩
      rcases Nat.lt_or_ge i j with r | r
      · exact hbe i y r hy
      · obtain rfl : i = j := by omega
        rw [hx] at hy; injection hy with hy
        rw [← hy]; exact q
  · rintro _ K4 _
    exact ⟨by simp, by simp, fun q => absurd q (by simp; omega), fun _ => ⟨.lit _, rfl⟩⟩
end Go.Proofs.YtcifjnhpgblnkaaGreatDoor
/- Plain values, reckoned: floats. -/
namespace Go.Proofs.YtcifjnhpgblnkaaGreatDoor
open Go.RowKit
set_option linter.unusedVariables false
section
variable {k k' : FloatKind} {a b : Nat} {i : IntKind} {n : Int}
@[simp] theorem av_fadd : AV.bin .add (.lit (.float k a)) (.lit (.float k' b)) = .lit (.float k ((floatBits .add k a b).getD 0)) := rfl
@[simp] theorem av_fsub : AV.bin .sub (.lit (.float k a)) (.lit (.float k' b)) = .lit (.float k ((floatBits .sub k a b).getD 0)) := rfl
@[simp] theorem av_fmul : AV.bin .mul (.lit (.float k a)) (.lit (.float k' b)) = .lit (.float k ((floatBits .mul k a b).getD 0)) := rfl
@[simp] theorem av_fquo : AV.bin .quo (.lit (.float k a)) (.lit (.float k' b)) = .lit (.float k ((floatBits .quo k a b).getD 0)) := rfl
@[simp] theorem av_feql : AV.bin .eql (.lit (.float k a)) (.lit (.float k' b)) = .lit (.bool (k.format.order a b == some .eq)) := rfl
@[simp] theorem av_fneq : AV.bin .neq (.lit (.float k a)) (.lit (.float k' b)) = .lit (.bool (k.format.order a b != some .eq)) := rfl
@[simp] theorem av_flss : AV.bin .lss (.lit (.float k a)) (.lit (.float k' b)) = .lit (.bool (k.format.order a b == some .lt)) := rfl
@[simp] theorem av_fleq : AV.bin .leq (.lit (.float k a)) (.lit (.float k' b)) = .lit (.bool (k.format.order a b == some .lt || k.format.order a b == some .eq)) := rfl
@[simp] theorem av_fgtr : AV.bin .gtr (.lit (.float k a)) (.lit (.float k' b)) = .lit (.bool (k.format.order a b == some .gt)) := rfl
@[simp] theorem av_fgeq : AV.bin .geq (.lit (.float k a)) (.lit (.float k' b)) = .lit (.bool (k.format.order a b == some .gt || k.format.order a b == some .eq)) := rfl
@[simp] theorem av_okadd : AV.binOk .add (.lit (.float k a)) (.lit (.float k' b)) ↔ k = k' ∧ (floatBits .add k a b).isSome = true := Iff.rfl
@[simp] theorem av_oksub : AV.binOk .sub (.lit (.float k a)) (.lit (.float k' b)) ↔ k = k' ∧ (floatBits .sub k a b).isSome = true := Iff.rfl
@[simp] theorem av_okmul : AV.binOk .mul (.lit (.float k a)) (.lit (.float k' b)) ↔ k = k' ∧ (floatBits .mul k a b).isSome = true := Iff.rfl
@[simp] theorem av_okquo : AV.binOk .quo (.lit (.float k a)) (.lit (.float k' b)) ↔ k = k' ∧ (floatBits .quo k a b).isSome = true := Iff.rfl
@[simp] theorem av_okeql : AV.binOk .eql (.lit (.float k a)) (.lit (.float k' b)) ↔ k = k' := ⟨fun h => h.1, fun h => ⟨h, trivial⟩⟩
@[simp] theorem av_okneq : AV.binOk .neq (.lit (.float k a)) (.lit (.float k' b)) ↔ k = k' := ⟨fun h => h.1, fun h => ⟨h, trivial⟩⟩
@[simp] theorem av_oklss : AV.binOk .lss (.lit (.float k a)) (.lit (.float k' b)) ↔ k = k' := ⟨fun h => h.1, fun h => ⟨h, trivial⟩⟩
@[simp] theorem av_okgtr : AV.binOk .gtr (.lit (.float k a)) (.lit (.float k' b)) ↔ k = k' := ⟨fun h => h.1, fun h => ⟨h, trivial⟩⟩
@[simp] theorem av_okgeq : AV.binOk .geq (.lit (.float k a)) (.lit (.float k' b)) ↔ k = k' := ⟨fun h => h.1, fun h => ⟨h, trivial⟩⟩
@[simp] theorem av_fneg : AV.un .neg (.lit (.float k a)) = .lit (.float k (Op.negFloat k a)) := rfl
@[simp] theorem av_okneg : AV.unOk .neg (.lit (.float k a)) ↔ True := Iff.rfl
@[simp] theorem av_i2f : AV.i2f k (.lit (.int i n)) = .lit (.float k (k.nearest n)) := rfl
@[simp] theorem av_f2i : AV.f2i k' i (.lit (.float k a)) = .lit (.int i ((floatToIntVal k' a i).getD 0)) := rfl
@[simp] theorem av_f2iOk : AV.f2iOk k' i (.lit (.float k a)) ↔ k = k' ∧ (floatToIntVal k' a i).isSome = true := ⟨fun h => ⟨by have := h.1; simp only [AV.lit.injEq, Value.float.injEq] at this; exact this.1, h.2⟩, fun h => ⟨by rw [h.1]; rfl, h.2⟩⟩
@[simp] theorem av_fb : AV.fb (.lit (.float k a)) = a := rfl
end
/-- A function without a text, of one argument. -/
theorem fnE_of {P : Program} {f : FuncId} {fn : Func} {e : Array Value → Sem Value} (hf : P.funcs[f]? = some fn) (hname : (fn.name == "runtime.NumGoroutine") = false) (hb : fn.body.isNone = true) (hn : Extern.findNext fn = none) (he : Extern.find fn = some e)
    {u v : Value} (hr : ∀ w : World, (e #[u]).run P w = .ok v w) : FnE P f [.lit u] (.lit v) := by
  intro w ok cargs hsz hargs
  have h0 := RV.lit_iff.1 (hargs 0 (by simp))
  have hc : cargs = #[u] := by
    apply Array.ext_getElem?
    intro i
    have hsz' : cargs.size = 1 := hsz
    match i with
    | 0 => simpa [Array.getD, hsz'] using h0
    | n + 1 => rw [Array.getElem?_eq_none (by omega), Array.getElem?_eq_none (by simp)]
  subst hc
  exact ⟨v, by rw [run_callFunc_extern hf hname hb hn he, hr w]; rfl, .lit _⟩
end Go.Proofs.YtcifjnhpgblnkaaGreatDoor
/- The run at values that are written out: it is reckoned through, call by call. -/
namespace Go.Proofs.YtcifjnhpgblnkaaGreatDoor
open Go.RowKit
set_option linter.unusedVariables false
set_option linter.unusedSimpArgs false
/-! ### likeness -/
def all2 {α β : Type} (p : α → β → Bool) : List α → List β → Bool
  | [], [] => true
  | a :: l, b :: m => p a b && all2 p l m
  | _, _ => false
theorem all2_ok {α : Type} {p : α → α → Bool} (hp : ∀ a b, p a b = true → a = b) : ∀ (l m : List α), all2 p l m = true → l = m
  | [], [], _ => rfl
  | a :: l, b :: m, h => by
    simp only [all2, Bool.and_eq_true] at h
    rw [hp _ _ h.1, all2_ok hp l m h.2]
  | [], _ :: _, h => by cases h
  | _ :: _, [], h => by cases h
def sameV : Value → Value → Bool
  | .int k n, .int k' n' => decide (k = k') && decide (n = n')
  | .bool b, .bool b' => b == b'
  | .string a, .string b => a.data.toList == b.data.toList
  | .float k n, .float k' n' => decide (k = k') && decide (n = n')
  | .slice none 0 0, .slice none 0 0 => true
  | .nilIface, .nilIface => true
  | _, _ => false
theorem sameV_ok : ∀ (a b : Value), sameV a b = true → a = b := by
  intro a b h
  unfold sameV at h
  split at h
  · simp only [Bool.and_eq_true, decide_eq_true_eq] at h
    rw [h.1, h.2]
  · rename_i b b'
    have : b = b' := by simpa using h
    rw [this]
  · rename_i a b
    have h : a.data.toList = b.data.toList := by simpa using h
    have : a = b := by
      cases a; cases b
      simp only [ByteArray.mk.injEq]
      exact Array.toList_inj.1 h
    rw [this]
  · simp only [Bool.and_eq_true, decide_eq_true_eq] at h
    rw [h.1, h.2]
  · rfl
  · rfl
  · cases h
def AV.same : Nat → AV → AV → Bool
  | 0, _, _ => false
  | n + 1, x, y => match x, y with
    | .lit a, .lit b => sameV a b
    | .sl s L, .sl s' L' => s == s' && all2 (all2 (AV.same n)) L L'
    | .agg l, .agg m => all2 (AV.same n) l m
    | .tup l, .tup m => all2 (AV.same n) l m
    | .ref l, .ref m => all2 (AV.same n) l m
    | .clo f l, .clo g m => f == g && all2 (AV.same n) l m
    | _, _ => false
theorem AV.same_ok : ∀ (n : Nat) (x y : AV), AV.same n x y = true → x = y := by
  intro n
  induction n with
  | zero => intro x y h; cases h
  | succ n ih =>
    intro x y h
    unfold AV.same at h
    split at h
    · rw [sameV_ok _ _ h]
    · simp only [Bool.and_eq_true, beq_iff_eq] at h
      rw [h.1, all2_ok (all2_ok ih) _ _ h.2]
    · rw [all2_ok ih _ _ h]
    · rw [all2_ok ih _ _ h]
    · rw [all2_ok ih _ _ h]
    · simp only [Bool.and_eq_true, beq_iff_eq] at h
      rw [h.1, all2_ok ih _ _ h.2]
    · cases h
def nl1B (x y : AV) : Bool := match x, y with
  | .lit (.slice none 0 0), .sl _ [] => true
  | x, y => AV.same 16 x y
/-- Alike, or nil where the other is an empty slice. -/
def nlB (x y : AV) : Bool := match x, y with
  | .agg cs, .agg ds => all2 nl1B cs ds
  | .sl s L, .sl s' L' => AV.same 16 (.sl s L) (.sl s' L') || (s == s' && (L'.all fun l => l.length == s) && all2 (all2 nl1B) L L')
  | x, y => nl1B x y
theorem nl1B_ok {x y : AV} (h : nl1B x y = true) : NL x y := by
  unfold nl1B at h
  split at h
  · exact .nil _
  · rw [AV.same_ok 16 _ _ h]; exact .refl _
theorem nls_ok {p : AV → AV → Bool} (hp : ∀ x y, p x y = true → NL x y) : ∀ (l m : List AV), all2 p l m = true → NLs l m
  | [], [], _ => .nil
  | a :: l, b :: m, h => by
    simp only [all2, Bool.and_eq_true] at h
    exact .cons (hp _ _ h.1) (nls_ok hp l m h.2)
  | [], _ :: _, h => by cases h
  | _ :: _, [], h => by cases h
theorem all2_get {α β : Type} {p : α → β → Bool} (a0 : α) (b0 : β) : ∀ (l : List α) (m : List β), all2 p l m = true → l.length = m.length ∧ ∀ i, i < l.length → p (l.getD i a0) (m.getD i b0) = true
  | [], [], _ => ⟨rfl, fun i h => absurd h (by simp)⟩
  | a :: l, b :: m, h => by
    simp only [all2, Bool.and_eq_true] at h
    obtain ⟨h1, h2⟩ := all2_get a0 b0 l m h.2
    refine ⟨by simp [h1], fun i hi => ?_⟩
    cases i with
    | zero => exact h.1
    | succ i => simpa using h2 i (by simpa using hi)
  | [], _ :: _, h => by cases h
  | _ :: _, [], h => by cases h
theorem nlB_ok (x y : AV) (h : nlB x y = true) : NL x y := by
  unfold nlB at h
  split at h
  · exact NL.aggs (nls_ok (fun _ _ => nl1B_ok) _ _ h)
  · rename_i s L s' L'
    rw [Bool.or_eq_true] at h
    rcases h with h | h
    · rw [AV.same_ok 16 _ _ h]; exact .refl _
    · simp only [Bool.and_eq_true, beq_iff_eq] at h
      obtain ⟨⟨rfl, h2⟩, h3⟩ := h
      have q := all2_get [] [] _ _ h3
      have hs : ∀ x ∈ L', x.length = s := fun x hx => by simpa using (List.all_eq_true.1 h2) x hx
      refine .sl s L L' q.1 hs fun i j hi hj => nl1B_ok ?_
      have g := all2_get default default _ _ (q.2 i hi)
      have hm : (L'.getD i []).length = s := by
        rw [List.getD_eq_getElem?_getD, List.getElem?_eq_getElem (by omega)]
        exact hs _ (List.getElem_mem _)
      exact g.2 j (by omega)
  · exact nl1B_ok h
/-! ### what is known of the functions called -/
structure Ct (P : Program) where
  f : FuncId
  sh : Sh
  l : List {q : List AV × AV // Fn P f q.1 sh q.2}
structure Cx (P : Program) where
  f : FuncId
  l : List {q : List AV × AV // FnE P f q.1 q.2}
/-- A function that changes a row of the caller's. -/
structure Uq where
  e : Nat
  s : Nat
  X : AV
  xs : List AV
  r : AV
structure Cu (P : Program) where
  f : FuncId
  ret : Bool
  l : List {q : Uq // FnU P f q.e q.s q.X q.xs ret q.r}
/-- A function that gives back a row of rows. -/
structure Nq where
  xs : List AV
  r : AV
structure Cn (P : Program) where
  f : FuncId
  e : Nat
  s : Nat
  j : Nat
  e' : Nat
  foc : Nat
  l : List {q : Nq // FnN P f q.xs e s j e' q.r}
/-- The tables: contracts; functions without a text; functions that change a row; functions that a call enters. -/
structure Tb (P : Program) where
  T : List (Ct P)
  X : List (Cx P)
  U : List (Cu P)
  N : List (Cn P)
  C : List (FuncId × Nat × List Nat)
  E : List {f : FuncId // Ent P f}
def Tb.ga {P : Program} (t : Tb P) : FuncId → Option Ca := fun f => match t.T.find? (fun c => c.f == f) with
  | some c => some (.fn c.sh)
  | none => match t.X.find? (fun c => c.f == f) with
    | some _ => some .ext
    | none => match t.U.find? (fun c => c.f == f) with
      | some c => some (.upd c.ret)
      | none => match t.N.find? (fun c => c.f == f) with
        | some c => some (.nest c.e c.s c.j c.e' c.foc)
        | none => some .inl
/-- Ahead of which regions which rows of rows are closed. -/
def Tb.an {P : Program} (t : Tb P) : FuncId → Nat → LoopEx := fun f r => if 300000 ≤ r ∧ r < 400000 then ⟨[], ((t.C.find? fun c => c.1 == f && c.2.1 == r).map (·.2.2)).getD [], [], []⟩ else ⟨[], [], [], []⟩
def Tb.findN {P : Program} (t : Tb P) (f : FuncId) (e s j e' : Nat) (xs : List AV) : Option AV := match t.N.find? (fun c => c.f == f && (c.e == e && c.s == s && c.j == j && c.e' == e')) with
  | some c => (c.l.find? fun q => all2 (AV.same 16) q.1.xs xs).map (·.1.r)
  | none => none
theorem Tb.findN_ok {P : Program} (t : Tb P) {f : FuncId} {e s j e' : Nat} {xs : List AV} {r : AV} (h : t.findN f e s j e' xs = some r) : FnN P f xs e s j e' r := by
  unfold Tb.findN at h
  split at h
  · rename_i c hc
    have hc := List.find?_some hc
    simp only [Bool.and_eq_true, beq_iff_eq] at hc
    obtain ⟨h1, ⟨⟨h2, h3⟩, h4⟩, h5⟩ := hc
    obtain ⟨q, hq, rfl⟩ := Option.map_eq_some_iff.1 h
    have hx := all2_ok (AV.same_ok 16) _ _ (List.find?_some (p := fun (q : {q : Nq // FnN P c.f q.xs c.e c.s c.j c.e' q.r}) => all2 (AV.same 16) q.1.xs xs) hq)
    obtain ⟨⟨qx, qr⟩, hqq⟩ := q
    have hx : qx = xs := hx
    subst h1 h2 h3 h4 h5 hx
    exact hqq
  · cases h
/-- A call by contract: of what, with what. -/
def callOf (o : Op) (V : View) : Option (FuncId × List AV) := match o with
  | .call { callee := .value g, args, .. } => match V.ev g with
    | .fn f caps => match V.pls (args.toList.map V.ev ++ caps) with
      | some (xs, _) => some (f, xs)
      | none => none
    | _ => none
  | _ => none
def Tb.find {P : Program} (t : Tb P) (f : FuncId) (xs : List AV) : Option AV := match t.T.find? (fun c => c.f == f) with
  | some c => (c.l.find? fun q => all2 nlB xs q.1.1).map (·.1.2)
  | none => match t.X.find? (fun c => c.f == f) with
    | some c => (c.l.find? fun q => all2 (AV.same 16) q.1.1 xs).map (·.1.2)
    | none => none
/-- A call that changes a row. -/
def updOf {P : Program} (t : Tb P) (o : Op) (V : View) : Option (FuncId × Nat × Nat × AV × List AV) := match o with
  | .call { callee := .value g, args, .. } => match V.ev g with
    | .fn f caps => match t.ga f with
      | some (.upd _) => match args.toList.map V.ev ++ caps with
        | .row b n :: rest => match V.bl b, V.caps rest with
          | .row e s m X, some (xs, r) => if m = n ∧ ¬ r.contains b then some (f, e, s, X, xs) else none
          | _, _ => none
        | _ => none
      | _ => none
    | _ => none
  | _ => none
def Tb.findU {P : Program} (t : Tb P) (f : FuncId) (e s : Nat) (X : AV) (xs : List AV) : Option AV := match t.U.find? (fun c => c.f == f) with
  | some c => (c.l.find? fun q => (q.1.e == e && q.1.s == s) && (AV.same 16 q.1.X X && all2 (AV.same 16) q.1.xs xs)).map (·.1.r)
  | none => none
theorem Tb.findU_ok {P : Program} (t : Tb P) {o : Oper} {st : Nat} {V : View} {f : FuncId} {e s : Nat} {X : AV} {xs : List AV} {r : AV} {ob : AV → Prop} {δ : AV → Delta} (hc : updOf t o.op V = some (f, e, s, X, xs)) (hf : t.findU f e s X xs = some r) (ho : opD P t.ga o st V = .ex ob δ) : ob r := by
  unfold updOf at hc
  split at hc
  · rename_i g args _ hop
    split at hc
    · rename_i f' caps hev
      split at hc
      · rename_i ret hga
        split at hc
        · rename_i b n rest hargs
          split at hc
          · rename_i e' s' m X' xs' r' hb hcaps
            split at hc
            · rename_i hcond
              simp only [Option.some.injEq, Prod.mk.injEq] at hc
              obtain ⟨rfl, rfl, rfl, rfl, rfl⟩ := hc
              unfold opD at ho
              simp only [hop, hev, hga, hargs, hb, hcaps, if_pos hcond] at ho
              cases ho
              unfold Tb.findU at hf
              split at hf
              · rename_i c hcf
                have hfc : c.f = f' := by simpa using List.find?_some hcf
                have hret : c.ret = ret := by
                  unfold Tb.ga at hga
                  split at hga
                  · cases hga
                  · split at hga
                    · cases hga
                    · rw [hcf] at hga
                      simpa using hga
                obtain ⟨q, hq, rfl⟩ := Option.map_eq_some_iff.1 hf
                have hq := List.find?_some (p := fun (q : {q : Uq // FnU P c.f q.e q.s q.X q.xs c.ret q.r}) => (q.1.e == e' && q.1.s == s') && (AV.same 16 q.1.X X' && all2 (AV.same 16) q.1.xs xs')) hq
                obtain ⟨⟨qe, qs, qX, qx, qr⟩, hqq⟩ := q
                simp only [Bool.and_eq_true, beq_iff_eq] at hq
                obtain ⟨⟨h1, h2⟩, h3, h4⟩ := hq
                have h3 := AV.same_ok 16 _ _ h3
                have h4 := all2_ok (AV.same_ok 16) _ _ h4
                subst h1 h2 h3 h4 hfc hret
                exact hqq
              · cases hf
            · cases hc
          · cases hc
        · cases hc
      · cases hc
    · cases hc
  · cases hc
theorem Tb.find_ok {P : Program} (t : Tb P) {o : Oper} {st : Nat} {V : View} {f : FuncId} {xs : List AV} {r : AV} {ob : AV → Prop} {δ : AV → Delta} (hc : callOf o.op V = some (f, xs)) (hf : t.find f xs = some r) (ho : opD P t.ga o st V = .ex ob δ) : ob r := by
  unfold callOf at hc
  split at hc
  · rename_i g args x hop
    split at hc
    · rename_i f' caps hev
      split at hc
      · rename_i xs' r' hp
        simp only [Option.some.injEq, Prod.mk.injEq] at hc
        obtain ⟨rfl, rfl⟩ := hc
        unfold opD at ho
        simp only [hop, hev] at ho
        unfold Tb.find at hf
        unfold Tb.ga at ho
        split at hf
        · rename_i c hcf
          simp only [hcf, hp] at ho
          have hfc : c.f = f' := by simpa using List.find?_some hcf
          obtain ⟨q, hq, rfl⟩ := Option.map_eq_some_iff.1 hf
          have hx : NLs xs' q.1.1 := nls_ok nlB_ok _ _ (List.find?_some (p := fun (q : {q : List AV × AV // Fn P c.f q.1 c.sh q.2}) => all2 nlB xs' q.1.1) hq)
          split at ho
          · cases ho
            obtain ⟨⟨qx, qr⟩, hqq⟩ := q
            subst hfc
            exact hqq.nl hx
          · cases ho
        · rename_i hcf
          simp only [hcf] at ho
          split at hf
          · rename_i c hcx
            simp only [hcx, hp] at ho
            have hfc : c.f = f' := by simpa using List.find?_some hcx
            obtain ⟨q, hq, rfl⟩ := Option.map_eq_some_iff.1 hf
            have hx : q.1.1 = xs' := all2_ok (AV.same_ok 16) _ _ (List.find?_some (p := fun (q : {q : List AV × AV // FnE P c.f q.1 q.2}) => all2 (AV.same 16) q.1.1 xs') hq)
            split at ho
            · rename_i h1
              cases ho
              simp only [Option.some.injEq, Prod.mk.injEq] at h1
              obtain ⟨⟨qx, qr⟩, hqq⟩ := q
              have hx : qx = xs' := hx
              obtain ⟨h1, _⟩ := h1
              subst hx hfc
              rw [← h1]
              exact hqq
            · cases ho
          · cases hf
      · cases hc
    · cases hc
  · cases hc
/-- A call of a function that is a plain value: of what, with what. -/
def clcOf (o : Op) (V : View) : Option (FuncId × List AV) := match o with
  | .call { callee := .value g, args, .. } => match V.ev g with
    | .v (.clo f cs) => match V.pls (args.toList.map V.ev) with
      | some (xs, []) => some (f, xs ++ cs)
      | _ => none
    | _ => none
  | _ => none
def Sh.isSc : Sh → Bool
  | .sc => true
  | _ => false
def Tb.findC {P : Program} (t : Tb P) (f : FuncId) (xs : List AV) : Option AV := match t.T.find? (fun c => c.f == f && c.sh.isSc) with
  | some c => (c.l.find? fun q => all2 (AV.same 16) q.1.1 xs).map (·.1.2)
  | none => none
theorem Tb.findC_ok {P : Program} (t : Tb P) {o : Oper} {st : Nat} {V : View} {f : FuncId} {xs : List AV} {r : AV} {ob : AV → Prop} {δ : AV → Delta} (hc : clcOf o.op V = some (f, xs)) (hf : t.findC f xs = some r) (ho : opD P t.ga o st V = .ex ob δ) : ob r := by
  unfold clcOf at hc
  split at hc
  · rename_i g args x hop
    split at hc
    · rename_i f' cs hev
      split at hc
      · rename_i xs' hp
        simp only [Option.some.injEq, Prod.mk.injEq] at hc
        obtain ⟨rfl, rfl⟩ := hc
        unfold opD at ho
        simp only [hop, hev, hp] at ho
        cases ho
        unfold Tb.findC at hf
        split at hf
        · rename_i c hcf
          have hcc := List.find?_some hcf
          simp only [Bool.and_eq_true, beq_iff_eq] at hcc
          obtain ⟨hfc, hsh⟩ := hcc
          obtain ⟨q, hq, rfl⟩ := Option.map_eq_some_iff.1 hf
          have hx := all2_ok (AV.same_ok 16) _ _ (List.find?_some (p := fun (q : {q : List AV × AV // Fn P c.f q.1 c.sh q.2}) => all2 (AV.same 16) q.1.1 (xs' ++ cs)) hq)
          obtain ⟨⟨qx, qr⟩, hqq⟩ := q
          have hx : qx = xs' ++ cs := hx
          obtain ⟨cf, csh, cl⟩ := c
          simp only at hfc hsh hqq
          subst hfc hx
          cases csh <;> first | exact ⟨_, _, rfl, hqq⟩ | cases hsh
        · cases hf
      · cases hc
    · cases hc
  · cases hc
/-- Entries of the tables, by their proofs. -/
def eq_ {P : Program} {f : FuncId} {e s j e' : Nat} {xs : List AV} {r : AV} (h : FnN P f xs e s j e' r) : {q : Nq // FnN P f q.xs e s j e' q.r} := ⟨⟨xs, r⟩, h⟩
def en {P : Program} {f : FuncId} {sh : Sh} {xs : List AV} {r : AV} (h : Fn P f xs sh r) : {q : List AV × AV // Fn P f q.1 sh q.2} := ⟨(xs, r), h⟩
def ex {P : Program} {f : FuncId} {xs : List AV} {r : AV} (h : FnE P f xs r) : {q : List AV × AV // FnE P f q.1 q.2} := ⟨(xs, r), h⟩
def eu {P : Program} {f : FuncId} {e s : Nat} {X : AV} {xs : List AV} {ret : Bool} {r : AV} (h : FnU P f e s X xs ret r) : {q : Uq // FnU P f q.e q.s q.X q.xs ret q.r} := ⟨⟨e, s, X, xs, r⟩, h⟩
def Tb.ent {P : Program} (t : Tb P) (f : FuncId) : Bool := t.E.any fun q => q.1 == f
theorem Tb.ent_ok {P : Program} (t : Tb P) {f : FuncId} (h : t.ent f = true) : Ent P f := by
  obtain ⟨q, _, hq⟩ := List.any_eq_true.1 h
  have : q.1 = f := by simpa using hq
  exact this ▸ q.2
--BEGIN EV
/-! ### the run -/
section
variable {R : Type} (allV : (Array Value → R) → R) (both : R → R → R) (no : String → R) (need : FuncId → List AV → R) (P : Program) (t : Tb P)
abbrev InlE (R : Type) := FuncId → List DE → DS → (DE → DS → R) → R
def obAll (l : List Ob) : Bool := l.all (·.b)
def stepE (inl : InlE R) (dr : Bool) (hint : Option Bool) (o : Oper) (σ : DS) (K : List (Nat × DB) → DS → R) : R :=
  match inlOf t.ga o.op (σ.view o.op) with
  | some (f, args) => match dr, t.ent f with
    | false, true => inl f args σ fun d σ' => K [] ({ σ'.put o.dst d with clk := σ'.clk + 64 })
    | true, _ => no "a call to walk into, in a region that draws its order"
    | false, false => need (f + 1000000) []
  | none => match nestOf t.ga o.op (σ.view o.op) with
   | some (f, xs, e, s, j, e', foc) => (match dr with
      | true => no "a nested row, in a region that draws its order"
      | false => match plain1 σ.fview (σ.tm.getD foc .any) with
        | some i => (match t.findN f e s j e' xs with
          | some y => (match (ob (y.inb i)).b with
            | true => K (nestD e s j e' σ.clk y i).bs ((nestD e s j e' σ.clk y i).app o.dst σ)
            | false => no "a nested row: out of range")
          | none => need (f + 3000000) (.int σ.clk :: xs))
        | none => no "a nested row: which one")
   | none => match nilOf P o.op (σ.view o.op) with
    | some (x, b) => (match dr with
      | true => no "nil, in a region that draws its order"
      | false => match (σ.view o.op).ev x with
        | .nil => K [] (Delta.app ⟨.c (.bool b), []⟩ o.dst σ)
        | d => match (σ.view o.op).pc d with
          | some (.sl _ (_ :: _), _) => K [] (Delta.app ⟨.c (.bool (!b)), []⟩ o.dst σ)
          | some (.sl _ [], _) => both (K [] (Delta.app ⟨.c (.bool b), []⟩ o.dst σ)) (K [] (Delta.app ⟨.c (.bool (!b)), []⟩ o.dst σ))
          | some (.lit (.slice none 0 0), _) => K [] (Delta.app ⟨.c (.bool b), []⟩ o.dst σ)
          | _ => no "a slice compared with nil")
    | none => match updOf t o.op { σ.view o.op with hint := hint } with
     | some (f, e, s, X, xs) => (match t.findU f e s X xs with
        | some r => (match opD P t.ga o σ.clk { σ.view o.op with hint := hint } with
          | .ex _ δ => K (δ r).bs ((δ r).app o.dst σ)
          | .det _ _ => no "a call"
          | .stuck why => no why)
        | none => need (f + 2000000) (X :: xs))
     | none => match callOf o.op { σ.view o.op with hint := hint } with
      | some (f, xs) => (match t.find f xs with
        | some r => (match opD P t.ga o σ.clk { σ.view o.op with hint := hint } with
          | .ex _ δ => K (δ r).bs ((δ r).app o.dst σ)
          | .det _ _ => no "a call"
          | .stuck why => no why)
        | none => need f xs)
      | none => match clcOf o.op { σ.view o.op with hint := hint } with
       | some (f, xs) => (match t.findC f xs with
         | some r => (match opD P t.ga o σ.clk { σ.view o.op with hint := hint } with
           | .ex _ δ => K (δ r).bs ((δ r).app o.dst σ)
           | .det _ _ => no "a call"
           | .stuck why => no why)
         | none => need f xs)
       | none => match opD P t.ga o σ.clk { σ.view o.op with hint := hint } with
        | .det obs δ => (match obAll obs with
          | true => K δ.bs (δ.app o.dst σ)
          | false => no "what an operation asks")
        | .ex _ _ => no "a call"
        | .stuck why => no why
def decE (x : AV) (a b : Unit → R) : R := match x with
  | .lit (.bool true) => a ()
  | .lit (.bool false) => b ()
  | _ => no "a choice"
def gateE (ops : List Oper) (dec : List (Nat × Bool)) (o : Oper) (σ : DS) (G : List (Nat × Bool) → Bool → R) : R :=
  match o.guard with
  | none => G dec true
  | some (j, want) => match slotOf ops j with
    | none => no "guard"
    | some t => match dec.lookup j with
      | some b => G dec (b == want)
      | none => match σ.tm.getD t .any with
        | .c (.bool b) => G dec (b == want)
        | .c (.tuple _) => G dec false
        | .v x => decE no x (fun _ => G ((j, true) :: dec) (true == want)) (fun _ => G ((j, false) :: dec) (false == want))
        | _ => no "guard"
def regE (inl : InlE R) (dr : Bool) (ops : List Oper) : List (Nat × Bool) → List Foot → List Oper → DS → (DS → R) → R
  | _, fs, [], σ, K => (match !dr || drawOk ops fs with | true => K σ | false => no "a region that draws its order")
  | dec, fs, o :: rest, σ, K => gateE no ops dec o σ fun dec' run =>
    match run with
    | true => stepE both no need P t inl dr (hintOf ops dec' o) o σ (fun bs σ' => regE inl dr ops (stillDec ops o dec') (fs ++ [footOf ops o σ bs]) rest σ' K)
    | false => regE inl dr ops (stillDec ops o dec') (fs ++ [footSkip ops o]) rest (σ.skip o.dst) K
def loopE (run : DS → (Exit → DS → R) → R) : Nat → DS → (Exit → DS → R) → R
  | 0, _, _ => no "too many rounds"
  | n + 1, σ, K => run σ fun e σ' => match e with | .normal => loopE run n σ' K | e => K e σ'
def runE (inl : InlE R) (fid : FuncId) : Code → DS → (Exit → DS → R) → R
  | .skip, σ, K => K .normal σ
  | .region i ops dr, σ, K => regE both no need P t inl dr ops.toList [] [] ops.toList (preFz dr ops.toList ((t.an fid (300000 + i)).rows.foldl closeH σ)) (K .normal)
  | .seq a b, σ, K => runE inl fid a σ fun e σ' => match e with | .normal => runE inl fid b σ' K | e => K e σ'
  | .cond c a b, σ, K => match σ.fview.ev c with
    | .c (.bool true) => runE inl fid a σ K
    | .c (.bool false) => runE inl fid b σ K
    | .v x => decE no x (fun _ => runE inl fid a σ K) (fun _ => runE inl fid b σ K)
    | _ => no "cond"
  | .block id a, σ, K => runE inl fid a σ fun e σ' => match e with | .exit i => (match decide (i = id) with | true => K .normal σ' | false => K (.exit i) σ') | e => K e σ'
  | .exit id, σ, K => K (.exit id) σ
  | .ret, σ, K => K .ret σ
  | .loop a, σ, K => loopE no (fun σ K => runE inl fid a σ K) 4096 σ K
  | _, _, _ => no "code"
def inE : Nat → InlE R
  | 0, _, _, _, _ => no "too deep"
  | n + 1, f, args, σ, K => match P.funcs[f]? with
    | none => no "no such function"
    | some fn => match fn.body with
      | none => no "no body"
      | some c => allV fun vs =>
        let σ1 : DS := { tm := args ++ List.replicate (fn.ntmps - args.length) (.c undef), bl := (σ.clk, .sv σ.tm vs) :: σ.bl, clk := σ.clk + 64, orc := σ.orc }
        runE both no need P t (inE n) f c σ1 fun e σ' => match exits e with
          | true => (match resultD P fn σ' with
            | some d => (match (preOf σ1 σ').contains σ.clk with
              | true => no "saved slots"
              | false => K d { tm := σ.tm, bl := (σ.clk, .dead) :: σ'.bl, clk := σ'.clk, orc := σ'.orc })
            | none => no "results")
          | false => no "exit"
def fnE (n : Nat) (f : FuncId) (fn : Func) (c : Code) (args : List AV) (sh : Sh) (fin : AV → R) : R :=
  runE both no need P t (inE allV both no need P t n) f c { tm := args.map .v ++ List.replicate (fn.ntmps - args.length) (.c undef), bl := [], clk := 1, orc := .ev } fun e σ' =>
    match exits e with
    | true => (match resultD P fn σ' with
      | some d => (match out2 σ'.fview d sh with
        | some (x, obs) => (match decide (rowIds d sh).Nodup && sh.small && obAll obs with
          | true => fin x
          | false => no "one row twice")
        | none => no "what goes out")
      | none => no "results")
    | false => no "exit"
end
--END EV
/-! ### it is a run -/
theorem obAll_ok {l : List Ob} (h : obAll l = true) {F : Prop} (hF : F) : obsF l F := by
  induction l with
  | nil => exact hF
  | cons p l ih =>
    simp only [obAll, List.all_cons, Bool.and_eq_true] at h
    exact ⟨p.ok h.1, ih h.2⟩
def allP (F : Array Value → Prop) : Prop := ∀ vs, F vs
def noP (_ : String) : Prop := False
def needP (_ : FuncId) (_ : List AV) : Prop := False
section
variable {P : Program} {t : Tb P}
def IE (inl : Inl) (inlE : InlE Prop) : Prop := ∀ (f : FuncId) (args : List DE) (σ : DS) (K K' : DE → DS → Prop), σ.orc = .ev → inlE f args σ K → (∀ d σ', σ'.orc = .ev → K d σ' → K' d σ') → inl f args σ K'
theorem stepE_ok {inl : Inl} {inlE : InlE Prop} (hI : IE inl inlE) {dr : Bool} {hint : Option Bool} {o : Oper} {σ : DS} {K K' : List (Nat × DB) → DS → Prop} (ho : σ.orc = .ev)
    (h : stepE And noP needP P t inlE dr hint o σ K) (hK : ∀ bs σ', σ'.orc = .ev → K bs σ' → K' bs σ') : stepF P t.ga inl dr hint o σ K' := by
  unfold stepE at h
  unfold stepF
  split at h
  · rename_i f args he
    split at h
    · rename_i _ _ hent
      simp only [he]
      refine ⟨t.ent_ok hent, hI _ _ _ _ _ ho h fun d σ' h1 h2 => hK _ _ ?_ h2⟩
      show ({ σ'.put o.dst d with clk := σ'.clk + 64 } : DS).orc = .ev
      exact h1
    · exact h.elim
    · exact h.elim
  · rename_i he
    simp only [he]
    split at h
    · rename_i f xs e s j e' foc hne
      simp only [hne]
      split at h
      · exact h.elim
      · simp only [Bool.false_eq_true, if_false]
        split at h
        · rename_i i hi
          simp only [hi]
          split at h
          · rename_i y hy
            split at h
            · rename_i hb
              exact ⟨y, t.findN_ok hy, (ob (y.inb i)).ok hb, hK _ _ ho h⟩
            · exact h.elim
          · exact h.elim
        · exact h.elim
    rename_i hne
    simp only [hne]
    split at h
    · rename_i x b hn
      simp only [hn]
      split at h
      · exact h.elim
      · have hl : σ.lft = σ := by unfold DS.lft; cases σ; simp only at ho; subst ho; rfl
        have hr : σ.rgt = σ := by unfold DS.rgt; cases σ; simp only at ho; subst ho; rfl
        simp only [Bool.false_eq_true, if_false, hl, hr]
        split at h
        · rename_i hv
          simp only [hv]
          exact hK _ _ ho h
        · rename_i hv
          split at h
          · rename_i hp
            split
            · rename_i hv2; exact absurd hv2 hv
            · simp only [hp]
              exact .inl ⟨⟨_, _, rfl⟩, (fun q => by cases q), hK _ _ ho h⟩
          · rename_i hp
            split
            · rename_i hv2; exact absurd hv2 hv
            · simp only [hp]
              exact .inl ⟨⟨_, _, rfl⟩, (fun _ => hK _ _ ho h.1), hK _ _ ho h.2⟩
          · rename_i hp
            split
            · rename_i hv2; exact absurd hv2 hv
            · simp only [hp]
              exact .inr ⟨rfl, hK _ _ ho h⟩
          · exact h.elim
    · rename_i hn
      simp only [hn]
      split at h
      · rename_i f e s X xs hc
        split at h
        · rename_i r hf
          split at h
          · rename_i ob δ hop
            simp only [hop]
            exact ⟨r, t.findU_ok (V := { σ.view o.op with hint := hint }) hc hf hop, hK _ _ ho h⟩
          · exact h.elim
          · exact h.elim
        · exact h.elim
      split at h
      · rename_i f xs hc
        split at h
        · rename_i r hf
          split at h
          · rename_i ob δ hop
            simp only [hop]
            exact ⟨r, t.find_ok (V := { σ.view o.op with hint := hint }) hc hf hop, hK _ _ ho h⟩
          · exact h.elim
          · exact h.elim
        · exact h.elim
      split at h
      · rename_i f xs hc
        split at h
        · rename_i r hf
          split at h
          · rename_i ob δ hop
            simp only [hop]
            exact ⟨r, t.findC_ok (V := { σ.view o.op with hint := hint }) hc hf hop, hK _ _ ho h⟩
          · exact h.elim
          · exact h.elim
        · exact h.elim
      · split at h
        · rename_i obs δ hop
          simp only [hop]
          split at h
          · rename_i hb
            exact obAll_ok hb (hK _ _ ho h)
          · exact h.elim
        · exact h.elim
        · exact h.elim
theorem decE_ok {σ : DS} {x : AV} {a b : Unit → Prop} {A B : DS → Prop} (ho : σ.orc = .ev) (h : decE noP x a b) (ha : a () → A σ) (hb : b () → B σ) : decF σ x A B := by
  unfold decF
  rw [ho]
  unfold decE at h
  split at h
  · exact ⟨rfl, fun _ => ha h, fun q => by cases q⟩
  · exact ⟨rfl, (fun q => by cases q), fun _ => hb h⟩
  · exact h.elim
theorem gateE_ok {ops : List Oper} {dec : List (Nat × Bool)} {o : Oper} {σ : DS} {G : List (Nat × Bool) → Bool → Prop} {G' : DS → List (Nat × Bool) → Bool → Prop} (ho : σ.orc = .ev) (h : gateE noP ops dec o σ G) (hG : ∀ d r, G d r → G' σ d r) : gateF ops dec o σ G' := by
  unfold gateE at h
  unfold gateF
  split at h
  · rename_i hg
    simp only [hg]
    exact hG _ _ h
  · rename_i j want hg
    simp only [hg]
    split at h
    · exact h.elim
    · rename_i t hs
      simp only [hs]
      split at h
      · rename_i b hl
        simp only [hl]
        exact hG _ _ h
      · rename_i hl
        simp only [hl]
        split at h
        · rename_i b hv
          simp only [hv]
          exact hG _ _ h
        · rename_i hv
          simp only [hv]
          exact hG _ _ h
        · rename_i x hv
          simp only [hv]
          exact decE_ok ho h (hG _ _) (hG _ _)
        · exact h.elim
theorem regE_ok {inl : Inl} {inlE : InlE Prop} (hI : IE inl inlE) {dr : Bool} {ops : List Oper} : ∀ (rest : List Oper) (dec : List (Nat × Bool)) (fs : List Foot) (σ : DS) (K K' : DS → Prop), σ.orc = .ev →
    regE And noP needP P t inlE dr ops dec fs rest σ K → (∀ σ', σ'.orc = .ev → K σ' → K' σ') → regF P t.ga inl dr ops dec fs rest σ K'
  | [], dec, fs, σ, K, K', ho, h, hK => by
    unfold regE at h
    unfold regF
    split at h
    · rename_i hb
      rw [if_pos hb]
      exact hK _ ho h
    · exact h.elim
  | o :: rest, dec, fs, σ, K, K', ho, h, hK => by
    unfold regE at h
    unfold regF
    refine gateE_ok ho h fun dec' run h => ?_
    split at h
    · simp only [if_true]
      exact stepE_ok hI ho h fun bs σ' ho' h => regE_ok hI rest _ _ _ _ _ ho' h hK
    · simp only [Bool.false_eq_true, if_false]
      exact regE_ok hI rest _ _ _ _ _ ho h hK
theorem frzBox_orc (σ : DS) (t : Nat) : (frzBox σ t).orc = σ.orc := by
  unfold frzBox
  repeat' (split)
  all_goals rfl
theorem preFz_orc (dr : Bool) (ops : List Oper) (σ : DS) : (preFz dr ops σ).orc = σ.orc := by
  unfold preFz
  split
  · rfl
  · induction boxSrc ops generalizing σ with
    | nil => rfl
    | cons t l ih => rw [List.foldl_cons, ih, frzBox_orc]
theorem closeH_orc (σ : DS) (b : Nat) : (closeH σ b).orc = σ.orc := by
  unfold closeH
  repeat' (split)
  all_goals rfl
theorem closeHs_orc (l : List Nat) (σ : DS) : (l.foldl closeH σ).orc = σ.orc := by
  induction l generalizing σ with
  | nil => rfl
  | cons b l ih => rw [List.foldl_cons, ih, closeH_orc]
theorem loopE_ok {rE : DS → (Exit → DS → Prop) → Prop} {rF : DS → (Exit → DS → Prop) → Prop} (hr : ∀ (σ : DS) (K K' : Exit → DS → Prop), σ.orc = .ev → rE σ K → (∀ e σ', σ'.orc = .ev → K e σ' → K' e σ') → rF σ K') :
    ∀ (n : Nat) (σ : DS) (K K' : Exit → DS → Prop), σ.orc = .ev → loopE noP rE n σ K → (∀ e σ', σ'.orc = .ev → K e σ' → K' e σ') → loopN rF n σ K'
  | 0, _, _, _, _, h, _ => h.elim
  | n + 1, σ, K, K', ho, h, hK => by
    unfold loopE at h
    unfold loopN
    refine hr σ _ _ ho h fun e σ1 h1 hk => ?_
    cases e with
    | normal => exact loopE_ok hr n σ1 K K' h1 hk hK
    | exit i => exact hK _ _ h1 hk
    | ret => exact hK _ _ h1 hk
    | goto i => exact hK _ _ h1 hk
    | panic i => exact hK _ _ h1 hk
    | outgrown => exact hK _ _ h1 hk
theorem runE_ok {inl : Inl} {inlE : InlE Prop} (hI : IE inl inlE) (fid : FuncId) : ∀ (c : Code) (σ : DS) (K K' : Exit → DS → Prop), σ.orc = .ev → runE And noP needP P t inlE fid c σ K → (∀ e σ', σ'.orc = .ev → K e σ' → K' e σ') → runC P t.ga inl t.an fid c σ K'
  | .skip, σ, K, K', ho, h, hK => hK _ _ ho h
  | .region i ops dr, σ, K, K', ho, h, hK => by
    unfold runE at h
    simp only [runC]
    exact regE_ok hI _ _ _ _ _ _ ((preFz_orc _ _ _).trans ((closeHs_orc _ _).trans ho)) h fun σ' h1 hk => hK _ _ h1 hk
  | .seq a b, σ, K, K', ho, h, hK => by
    unfold runE at h
    simp only [runC]
    refine runE_ok hI fid a σ _ _ ho h fun e σ1 h1 hk => ?_
    cases e with
    | normal => exact runE_ok hI fid b σ1 K K' h1 hk hK
    | exit i => exact hK _ _ h1 hk
    | ret => exact hK _ _ h1 hk
    | goto i => exact hK _ _ h1 hk
    | panic i => exact hK _ _ h1 hk
    | outgrown => exact hK _ _ h1 hk
  | .cond c a b, σ, K, K', ho, h, hK => by
    unfold runE at h
    simp only [runC]
    split at h
    · rename_i he
      simp only [he]
      exact runE_ok hI fid a σ K K' ho h hK
    · rename_i he
      simp only [he]
      exact runE_ok hI fid b σ K K' ho h hK
    · rename_i x he
      simp only [he]
      have hj : ¬ joinOn (t.an fid (400000 + Code.reg1 a)) (.cond c a b) = true := by
        unfold joinOn Tb.an
        rw [if_neg (by omega)]
        simp
      rw [if_neg hj]
      exact decE_ok ho h (fun h => runE_ok hI fid a σ K K' ho h hK) fun h => runE_ok hI fid b σ K K' ho h hK
    · exact h.elim
  | .block id a, σ, K, K', ho, h, hK => by
    unfold runE at h
    simp only [runC]
    refine runE_ok hI fid a σ _ _ ho h fun e σ1 h1 hk => ?_
    cases e with
    | exit i =>
      simp only at hk ⊢
      split at hk
      · rename_i hi
        rw [if_pos (of_decide_eq_true hi)]
        exact hK _ _ h1 hk
      · rename_i hi
        rw [if_neg (of_decide_eq_false hi)]
        exact hK _ _ h1 hk
    | normal => exact hK _ _ h1 hk
    | ret => exact hK _ _ h1 hk
    | goto i => exact hK _ _ h1 hk
    | panic i => exact hK _ _ h1 hk
    | outgrown => exact hK _ _ h1 hk
  | .exit id, σ, K, K', ho, h, hK => hK _ _ ho h
  | .ret, σ, K, K', ho, h, hK => hK _ _ ho h
  | .loop a, σ, K, K', ho, h, hK => by
    unfold runE at h
    simp only [runC]
    have he : σ.evOn = true := by unfold DS.evOn; rw [ho]
    rw [he]
    exact loopE_ok (fun σ K K' ho h hK => runE_ok hI fid a σ K K' ho h hK) _ _ _ _ ho h hK
  | .rangeFunc g ps as_ body, σ, K, K', ho, h, hK => h.elim
  | .scope a, σ, K, K', ho, h, hK => h.elim
  | .label i, σ, K, K', ho, h, hK => h.elim
  | .goto i, σ, K, K', ho, h, hK => h.elim
  | .refuse s, σ, K, K', ho, h, hK => h.elim
theorem inE_ok : ∀ (n : Nat), IE (inF P t.ga t.an n) (inE allP And noP needP P t n)
  | 0 => fun f args σ K K' ho h hK => h.elim
  | n + 1 => fun f args σ K K' ho h hK => by
    unfold inE at h
    unfold inF
    have ha : ¬ (t.an f 999999).drop ≠ [] := by unfold Tb.an; rw [if_neg (by omega)]; simp
    rw [if_neg ha]
    split at h
    · exact h.elim
    · rename_i fn hfn
      simp only [hfn]
      split at h
      · exact h.elim
      · rename_i c hc
        simp only [hc]
        intro vs
        refine runE_ok (inE_ok n) f c _ _ _ ho (h vs) fun e σ' h1 hk => ?_
        split at hk
        · rename_i hx
          simp only [hx, if_true]
          split at hk
          · rename_i d hd
            simp only [hd]
            split at hk
            · exact hk.elim
            · rename_i hp
              rw [if_neg (by rw [hp]; simp)]
              exact hK _ _ h1 hk
          · exact hk.elim
        · exact hk.elim
/-- What a reckoning comes to: it holds, whatever was saved on the way. -/
def allM : Nat → Prop → Prop
  | 0, p => p
  | n + 1, p => Array Value → allM n p
inductive Tr where
  | n (k : Nat)
  | b (k : Nat) (l r : Tr)
def allT : Tr → Prop
  | .n k => allM k True
  | .b k l r => allM k (allT l ∧ allT r)
theorem allM_ok {p : Prop} (h : p) : ∀ n, allM n p
  | 0 => h
  | n + 1 => fun _ => allM_ok h n
theorem allT_ok : ∀ t, allT t
  | .n k => allM_ok trivial k
  | .b k l r => allM_ok ⟨allT_ok l, allT_ok r⟩ k
def finP (r x : AV) : Prop := match AV.same 16 x r with | true => True | false => False
/-- **A contract at values that are written out, by reckoning.** -/
theorem ev_run (hm : P.follows .mixedOrders = true) (t : Tb P) (n : Nat) (k : Tr) {f : FuncId} {fn : Func} {c : Code} (hf : P.funcs[f]? = some fn) (hb : fn.body = some c) (hent : Ent P f) {args : List AV} {sh : Sh} {r : AV}
    (h : fnE allP And noP needP P t n f fn c args sh (finP r) = allT k) : Fn P f args sh r := by
  have h : fnE allP And noP needP P t n f fn c args sh (finP r) := by rw [h]; exact allT_ok k
  refine fn_run hm n (Γ := t.ga) (ann := t.an) (orc := .ev) hf hb hent ?_
  unfold fnF
  unfold fnE at h
  refine runE_ok (inE_ok n) f c _ _ _ rfl h fun e σ' h1 hk => ?_
  split at hk
  · rename_i hx
    simp only [hx, if_true]
    split at hk
    · rename_i d hd
      simp only [hd]
      split at hk
      · rename_i x obs ho
        simp only [ho]
        split at hk
        · rename_i hb
          simp only [Bool.and_eq_true] at hb
          rw [if_pos (by simp only [Bool.and_eq_true]; exact hb.1)]
          refine obAll_ok hb.2 ?_
          unfold finP at hk
          split at hk
          · rename_i hs
            exact AV.same_ok 16 _ _ hs
          · exact hk.elim
        · exact hk.elim
      · exact hk.elim
    · exact hk.elim
  · exact hk.elim
end
end Go.Proofs.YtcifjnhpgblnkaaGreatDoor
/- Functions without a text, at values that are written out. -/
namespace Go.Proofs.YtcifjnhpgblnkaaGreatDoor
open Go.RowKit
set_option linter.unusedVariables false
theorem x_bits (b : Nat) : FnE Tryz.prog 321 [.lit (.float .f64 b)] (.lit (.int .u64 (b : Nat))) :=
  fnE_of Tryz.func321 (e := Extern.MathFloatBits.float64bits) (by kernel_rfl) (by kernel_rfl) (by kernel_rfl) (by kernel_rfl) fun w => rfl
theorem x_from (n : Int) : FnE Tryz.prog 322 [.lit (.int .u64 n)] (.lit (.float .f64 n.toNat)) :=
  fnE_of Tryz.func322 (e := Extern.MathFloatBits.float64frombits) (by kernel_rfl) (by kernel_rfl) (by kernel_rfl) (by kernel_rfl) fun w => rfl
theorem x_floor {b c : Nat} (h : ∀ w : World, (Extern.MathFloor.toIntegral "math.archFloor" .down #[.float .f64 b]).run Tryz.prog w = .ok (.float .f64 c) w) : FnE Tryz.prog 308 [.lit (.float .f64 b)] (.lit (.float .f64 c)) :=
  fnE_of Tryz.func308 (e := Extern.MathFloor.toIntegral "math.archFloor" .down) (by kernel_rfl) (by kernel_rfl) (by kernel_rfl) (by kernel_rfl) h
end Go.Proofs.YtcifjnhpgblnkaaGreatDoor
/- Functions without a text, of two arguments, at values that are written out. -/
namespace Go.Proofs.YtcifjnhpgblnkaaGreatDoor
open Go.RowKit
set_option linter.unusedVariables false
theorem fnE_of2 {P : Program} {f : FuncId} {fn : Func} {e : Array Value → Sem Value} (hf : P.funcs[f]? = some fn) (hname : (fn.name == "runtime.NumGoroutine") = false) (hb : fn.body.isNone = true) (hn : Extern.findNext fn = none) (he : Extern.find fn = some e)
    {u1 u2 v : Value} (hr : ∀ w : World, (e #[u1, u2]).run P w = .ok v w) : FnE P f [.lit u1, .lit u2] (.lit v) := by
  intro w ok cargs hsz hargs
  have h0 := RV.lit_iff.1 (hargs 0 (by simp))
  have h1 := RV.lit_iff.1 (hargs 1 (by simp))
  have hc : cargs = #[u1, u2] := by
    apply Array.ext_getElem?
    intro i
    have hsz' : cargs.size = 2 := hsz
    match i with
    | 0 => simpa [Array.getD, hsz'] using h0
    | 1 => simpa [Array.getD, hsz'] using h1
    | n + 2 => rw [Array.getElem?_eq_none (by omega), Array.getElem?_eq_none (by simp)]
  subst hc
  exact ⟨v, by rw [run_callFunc_extern hf hname hb hn he, hr w]; rfl, .lit _⟩
theorem x_cmp {a b : ByteArray} {n : Int} (h : ∀ w : World, (Extern.BytealgCompare.compare #[.string a, .string b]).run Tryz.prog w = .ok (.int .i64 n) w) : FnE Tryz.prog 262 [.string a, .string b] (.int n) :=
  fnE_of2 Tryz.func262 (e := Extern.BytealgCompare.compare) (by kernel_rfl) (by kernel_rfl) (by kernel_rfl) (by kernel_rfl) h
theorem x_count {a : ByteArray} {c n : Int} (h : ∀ w : World, (Extern.BytealgCount.count #[.string a, .int .u8 c]).run Tryz.prog w = .ok (.int .i64 n) w) : FnE Tryz.prog 239 [.string a, .lit (.int .u8 c)] (.int n) :=
  fnE_of2 Tryz.func239 (e := Extern.BytealgCount.count) (by kernel_rfl) (by kernel_rfl) (by kernel_rfl) (by kernel_rfl) h
theorem x_idx {a : ByteArray} {c n : Int} (h : ∀ w : World, (Extern.BytealgIndexByte.indexByte #[.string a, .int .u8 c]).run Tryz.prog w = .ok (.int .i64 n) w) : FnE Tryz.prog 316 [.string a, .lit (.int .u8 c)] (.int n) :=
  fnE_of2 Tryz.func316 (e := Extern.BytealgIndexByte.indexByte) (by kernel_rfl) (by kernel_rfl) (by kernel_rfl) (by kernel_rfl) h
end Go.Proofs.YtcifjnhpgblnkaaGreatDoor
/- slices.Delete at a row of the caller's own. -/
namespace Go.Proofs.YtcifjnhpgblnkaaGreatDoor
open Go.RowKit Go.Lib
set_option linter.unusedVariables false
theorem del_list (cur news zs : List Value) (a b : Nat) (ha : a ≤ cur.length) (hb : news.length = b) :
    (((cur.take a ++ news ++ cur.drop (a + news.length)).take (a + b)) ++ zs ++ (cur.take a ++ news ++ cur.drop (a + news.length)).drop (a + b + zs.length)).take (a + b) = cur.take a ++ news := by
  have h1 : (cur.take a ++ news).length = a + b := by simp; omega
  have h2 : (cur.take a ++ news ++ cur.drop (a + news.length)).take (a + b) = cur.take a ++ news := List.take_left' h1
  rw [h2, List.append_assoc]
  exact List.take_left' h1
/-- What is left of a row. -/
theorem del_row {w w' : World} {B e s : Nat} {okc : Nat → Prop} {L : List (List AV)} {xs : List Value} {g cap : Nat} {cur' : Array Value} (i j : Nat) (hs : 0 < s) (hL : ∀ y ∈ L, y.length = s) (hxl : xs.length = L.length * s) (hone : ∀ u ∈ xs, u.oneCell' = true)
    (hv : ∀ p q, p < L.length → q < s → RV w okc (gt2 L p q) (xs.getD (p * s + q) undef)) (hij : i ≤ j) (hj : j ≤ L.length) (hB : B ≤ g) (hg : w'.heap[g]? = some (.cells cur' e (0, 0))) (hm : cap ≤ maxLen) (hcs : cur'.size = cap * s) (hnc : L.length ≤ cap)
    (htk : cur'.toList.take ((i + (L.length - j)) * s) = xs.take (i * s) ++ xs.drop (j * s)) (hk : ∀ b, okc b → b < w.heap.size → w'.heap[b]? = w.heap[b]?) :
    RRow w' B e s okc (.sl s (L.take i ++ L.drop j)) (.slice (some ⟨g, 0, none⟩) (i + (L.length - j)) cap) := by
  have hn : (L.take i ++ L.drop j).length = i + (L.length - j) := by simp; omega
  have hmul : ∀ a b : Nat, a ≤ b → a * s ≤ b * s := fun a b h => Nat.mul_le_mul_right s h
  have hjs := hmul j L.length hj
  have his := hmul i L.length (Nat.le_trans hij hj)
  refine ⟨_, xs.take (i * s) ++ xs.drop (j * s), rfl, hs, fun y hy => ?_, ⟨?_, .inr ⟨g, cap, cur', by rw [hn], hB, hg, by omega, hm, hcs, by rw [hn]; exact htk⟩⟩, fun u hu => ?_, fun p q hp hq => ?_⟩
  · rcases List.mem_append.1 hy with h | h
    · exact hL y (List.mem_of_mem_take h)
    · exact hL y (List.mem_of_mem_drop h)
  · simp only [List.length_append, List.length_take, List.length_drop, hxl, Nat.add_mul, Nat.sub_mul]
    rw [Nat.min_eq_left his, Nat.min_eq_left (by omega)]
  · rcases List.mem_append.1 hu with h | h
    · exact hone u (List.mem_of_mem_take h)
    · exact hone u (List.mem_of_mem_drop h)
  · rw [hn] at hp
    by_cases hpi : p < i
    · have := hv p q (by omega) hq
      have e1 : gt2 (L.take i ++ L.drop j) p q = gt2 L p q := by
        unfold gt2
        congr 1
        rw [List.getD_eq_getElem?_getD, List.getD_eq_getElem?_getD, List.getElem?_append_left (by simp; omega), List.getElem?_take_of_lt hpi]
      have hlt : p * s + q < i * s := by have := hmul (p + 1) i hpi; rw [Nat.add_mul] at this; omega
      have e2 : (xs.take (i * s) ++ xs.drop (j * s)).getD (p * s + q) undef = xs.getD (p * s + q) undef := by
        rw [List.getD_eq_getElem?_getD, List.getD_eq_getElem?_getD, List.getElem?_append_left (by simp; omega), List.getElem?_take_of_lt hlt]
      rw [e1, e2]
      exact this.mono fun b hb hlt => ⟨hb, hk b hb hlt⟩
    · have := hv (j + (p - i)) q (by omega) hq
      have e1 : gt2 (L.take i ++ L.drop j) p q = gt2 L (j + (p - i)) q := by
        unfold gt2
        congr 1
        rw [List.getD_eq_getElem?_getD, List.getD_eq_getElem?_getD, List.getElem?_append_right (by simp; omega), List.getElem?_drop]
        congr 3
        simp; omega
      have hge : i * s ≤ p * s := hmul i p (by omega)
      have e2 : (xs.take (i * s) ++ xs.drop (j * s)).getD (p * s + q) undef = xs.getD ((j + (p - i)) * s + q) undef := by
        rw [List.getD_eq_getElem?_getD, List.getD_eq_getElem?_getD, List.getElem?_append_right (by simp; omega), List.getElem?_drop]
        have : j * s + (p * s + q - (xs.take (i * s)).length) = (j + (p - i)) * s + q := by
          simp only [List.length_take, hxl, Nat.add_mul, Nat.sub_mul]
          rw [Nat.min_eq_left his]
          omega
        rw [this]
      rw [e1, e2]
      exact this.mono fun b hb hlt => ⟨hb, hk b hb hlt⟩
end Go.Proofs.YtcifjnhpgblnkaaGreatDoor
/- slices.Insert at a row of the caller's own: what no program needs. -/
namespace Go.Proofs.YtcifjnhpgblnkaaGreatDoor
open Go.RowKit Go.Lib
set_option linter.unusedVariables false
set_option linter.unusedSimpArgs false
section
variable {P : Program}
theorem wp_copy_run (w : World) {o : Oper} {a : Act} {K : Act → World → Prop} {Q : Exit → Act → World → Prop} (d s : Operand) (t t' : TypeId)
    (ho : o.op = .call { callee := .builtin .copy, args := #[d, s], argTypes := #[t, t'] }) (v u : Value) (hd : a.eval d = v) (hs : a.eval s = u) {v' : Value} {w' : World}
    (hr : (Builtin.copy_ #[t, t'] o.type #[v, u]).run P w = .ok v' w') (h : K (a.put o.dst v') w') : o.wp P a w K Q := by
  unfold Oper.wp execOp
  simp only [ho, resolve, invoke, builtin, Sem.run_bind, Sem.run_pure, Result.andThen_ok, List.map_toArray, List.map_cons, List.map_nil, hd, hs, hr]
  exact h
theorem wpList_copy_run (w : World) {ops : Array Oper} {rest : List Oper} {o : Oper} {a : Act} {Q : Exit → Act → World → Prop} (hgd : o.guard = none) (d s : Operand) (t t' : TypeId)
    (ho : o.op = .call { callee := .builtin .copy, args := #[d, s], argTypes := #[t, t'] }) (v u : Value) (hd : a.eval d = v) (hs : a.eval s = u) {v' : Value} {w' : World}
    (hr : (Builtin.copy_ #[t, t'] o.type #[v, u]).run P w = .ok v' w') (h : wpList P ops Q rest (a.put o.dst v') w') : wpList P ops Q (o :: rest) a w :=
  wpList_plain hgd fun _ hK => wp_copy_run w d s t t' ho v u hd hs hr (hK _ _ h)
theorem step_copy_run {ops : Array Oper} {o : Oper} {a : Act} {w : World} {K : Act → World → Prop} {Q : Exit → Act → World → Prop} {E : Prop}
    (hg : o.guard = none) (d x : Operand) (dT sT : TypeId) (hop : o.op = Op.call { callee := Callee.builtin Builtin.copy, args := #[d, x], argTypes := #[dT, sT] })
    (v u : Value) (hd : a.eval d = v) (hx : a.eval x = u) {v' : Value} {w' : World} (hr : (Builtin.copy_ #[dT, sT] o.type #[v, u]).run P w = .ok v' w') (hK : K (a.put o.dst v') w') :
    if Region.wanted o (yielded ops a.tmps) = true then Oper.wp P o a w K Q else E := by
  have hw : Region.wanted o (yielded ops a.tmps) = true := by simp [Region.wanted, hg]
  rw [if_pos hw]
  unfold Oper.wp
  simp [execOp, hop, resolve, invoke, builtin, hd, hx, hr, Result.andThen]
  exact hK
/-- 'copy' at elements of several cells. -/
theorem run_copy_s (w : World) (dT sT ty elem : TypeId) (s : Nat) (b o dLen dCap : Nat) (a : Addr) (sLen sCap : Nat) (cs : List Value) (n : Nat)
    (hu : P.underlying dT = some (.slice elem)) (hs : (P.info? elem).map (·.size) = some s) (hn : n = Nat.min sLen dLen) (hl : cs.length = n * s)
    (hsrc : ∀ j v, cs[j]? = some v → w.cell? (a.add j) = some v) (hc : ∀ j, j < cs.length → (w.cell? ⟨b, o + j, none⟩).isSome = true) (hf : ∀ j, j < cs.length → w.frozen? ⟨b, o + j, none⟩ = false) (h1 : ∀ v ∈ cs, v.oneCell' = true) :
    (Builtin.copy_ #[dT, sT] ty #[.slice (some ⟨b, o, none⟩) dLen dCap, .slice (some a) sLen sCap]).run P w = .ok (goInt n) (w.setCells b o cs) := by
  have hld := run_loadCells_list (P := P) w a cs hsrc
  rw [hl] at hld
  have hst := run_storeCells_cells (P := P) b o cs 0 w (by simpa using hc) (by simpa using hf) h1
  cases hq : P.info? elem with
  | none => simp [hq] at hs
  | some i =>
    have hi : i.size = s := by simpa [hq] using hs
    simp [Builtin.copy_, run_underlying hu, Builtin.lenOf, Builtin.firstCells, sizeOf, typeInfo, hq, hi, ← hn, hld, hst]
/-- slices.overlaps of what has cells and of a row of one's own. -/
theorem run_overlaps_own (w : World) (tS tR e : TypeId) (ht : P.underlying tS = some (.slice e)) (size : Nat) (hz : ∀ w, (Go.sizeOf e).run P w = .ok size w)
    (a b : Addr) (la ca lb cb : Nat) (hne : a.block ≠ b.block) (csA : Array Value) (tA : TypeId) (fz : Nat × Nat) (hA : w.heap[a.block]? = some (.cells csA tA fz)) (hA0 : csA.size ≠ 0)
    (csB : Array Value) (tB : TypeId) (hB : w.heap[b.block]? = some (.cells csB tB (0, 0))) :
    (Extern.SlicesOverlaps.overlaps #[tS, tS] #[tR] #[.slice (some a) la ca, .slice (some b) lb cb]).run P w = .ok (.bool false) w := by
  have hnb : (a.block != b.block) = true := by simpa using hne
  have hnb' : (a.block == b.block) = false := by simpa using hne
  have hfb : ∀ k, w.frozen? ⟨b.block, k, none⟩ = false := fun k => by simp [World.frozen?, hB]
  have hfb' : w.frozen? b = false := by simp [World.frozen?, hB]
  have hsa : w.shape? a.block = some (tA, csA.size) := by simp [World.shape?, hA]
  have hsb : w.shape? b.block = some (tB, csB.size) := by simp [World.shape?, hB]
  change Sem.run P (α := Value) (do
    let some t := (#[tS, tS] : Array TypeId)[0]? | stuck "slices.overlaps: no parameter types"
    let .slice elem ← underlying t | stuck "slices.overlaps: slice type expected"
    let size ← sizeOf elem
    match (some a : Option Addr), (some b : Option Addr) with
    | some a, some b =>
      if la = 0 ∨ lb = 0 ∨ size = 0 then pure (Value.bool false)
      else if a.block != b.block && (← frozen a) && (← frozen b) then unsupported .addressObserved
      else do
        if a.block != b.block then do
          noView a; noView b
          if ← mayBeOne a b then return Value.bool ((← choose (.extern "sameAddr.stringBytes" 2)) == 1)
        pure (Value.bool (a.block == b.block && a.off < b.off + lb * size && b.off < a.off + la * size))
    | _, _ => pure (Value.bool false)) w = _
  by_cases h0 : la = 0 ∨ lb = 0 ∨ size = 0
  · simp [run_underlying ht, hz, h0]
  · obtain ⟨k, hk⟩ : ∃ k, csA.size = k + 1 := ⟨csA.size - 1, by omega⟩
    rw [hk] at hsa
    cases hfa : w.frozen? a <;> cases hfe : w.frozen? { block := a.block, off := k + 1 } <;>
      simp [run_underlying ht, hz, h0, hnb, hnb', frozen, noView, viewAt, mayBeOne, stringish, shape, Sem.run, hsa, hsb, hfa, hfe, hfb, hfb']
end
/-! ### rows by parts -/
/-- The cells xs are those of the elements L. -/
structure CellsOf (w : World) (okc : Nat → Prop) (s : Nat) (L : List (List AV)) (xs : List Value) : Prop where
  len : xs.length = L.length * s
  each : ∀ y ∈ L, y.length = s
  one : ∀ u ∈ xs, u.oneCell' = true
  val : ∀ i j, i < L.length → j < s → RV w okc (gt2 L i j) (xs.getD (i * s + j) undef)
theorem CellsOf.app {w : World} {okc : Nat → Prop} {s : Nat} {L M : List (List AV)} {xs ys : List Value} (h : CellsOf w okc s L xs) (k : CellsOf w okc s M ys) : CellsOf w okc s (L ++ M) (xs ++ ys) := by
  refine ⟨by rw [List.length_append, List.length_append, h.len, k.len, Nat.add_mul], fun y hy => (List.mem_append.1 hy).elim (h.each y) (k.each y), fun u hu => (List.mem_append.1 hu).elim (h.one u) (k.one u), fun i j hi hj => ?_⟩
  rw [List.length_append] at hi
  by_cases hil : i < L.length
  · have e1 : gt2 (L ++ M) i j = gt2 L i j := by unfold gt2; simp [List.getElem?_append_left hil]
    have hlt : i * s + j < xs.length := by
      rw [h.len]
      have : (i + 1) * s ≤ L.length * s := Nat.mul_le_mul_right _ hil
      rw [Nat.add_mul] at this; omega
    have e2 : (xs ++ ys).getD (i * s + j) undef = xs.getD (i * s + j) undef := by simp [List.getElem?_append_left hlt]
    rw [e1, e2]; exact h.val i j hil hj
  · have hge : L.length ≤ i := by omega
    have e1 : gt2 (L ++ M) i j = gt2 M (i - L.length) j := by unfold gt2; simp [List.getElem?_append_right hge]
    have hge2 : xs.length ≤ i * s + j := by rw [h.len]; have : L.length * s ≤ i * s := Nat.mul_le_mul_right _ hge; omega
    have e3 : i * s + j - xs.length = (i - L.length) * s + j := by rw [h.len, Nat.sub_mul]; have : L.length * s ≤ i * s := Nat.mul_le_mul_right _ hge; omega
    have e2 : (xs ++ ys).getD (i * s + j) undef = ys.getD ((i - L.length) * s + j) undef := by
      rw [List.getD_eq_getElem?_getD, List.getElem?_append_right hge2, e3, List.getD_eq_getElem?_getD]
    rw [e1, e2]; exact k.val _ j (by omega) hj
theorem CellsOf.take {w : World} {okc : Nat → Prop} {s : Nat} {L : List (List AV)} {xs : List Value} (h : CellsOf w okc s L xs) (i : Nat) (hi : i ≤ L.length) : CellsOf w okc s (L.take i) (xs.take (i * s)) := by
  have his : i * s ≤ L.length * s := Nat.mul_le_mul_right _ hi
  refine ⟨by rw [List.length_take, List.length_take, h.len, Nat.min_eq_left hi, Nat.min_eq_left his], fun y hy => h.each y (List.mem_of_mem_take hy), fun u hu => h.one u (List.mem_of_mem_take hu), fun p q hp hq => ?_⟩
  have hp' : p < i := by rw [List.length_take] at hp; omega
  have hlt : p * s + q < i * s := by have : (p + 1) * s ≤ i * s := Nat.mul_le_mul_right _ hp'; rw [Nat.add_mul] at this; omega
  have e1 : gt2 (L.take i) p q = gt2 L p q := by unfold gt2; simp [List.getElem?_take_of_lt hp']
  have e2 : (xs.take (i * s)).getD (p * s + q) undef = xs.getD (p * s + q) undef := by simp [List.getElem?_take_of_lt hlt]
  rw [e1, e2]; exact h.val p q (by omega) hq
theorem CellsOf.drop {w : World} {okc : Nat → Prop} {s : Nat} {L : List (List AV)} {xs : List Value} (h : CellsOf w okc s L xs) (i : Nat) : CellsOf w okc s (L.drop i) (xs.drop (i * s)) := by
  refine ⟨by rw [List.length_drop, List.length_drop, h.len, Nat.sub_mul], fun y hy => h.each y (List.mem_of_mem_drop hy), fun u hu => h.one u (List.mem_of_mem_drop hu), fun p q hp hq => ?_⟩
  have hp' : i + p < L.length := by rw [List.length_drop] at hp; omega
  have e1 : gt2 (L.drop i) p q = gt2 L (i + p) q := by unfold gt2; simp [List.getElem?_drop]
  have e2 : (xs.drop (i * s)).getD (p * s + q) undef = xs.getD ((i + p) * s + q) undef := by
    rw [List.getD_eq_getElem?_getD, List.getElem?_drop, List.getD_eq_getElem?_getD, show i * s + (p * s + q) = (i + p) * s + q by rw [Nat.add_mul]; omega]
  rw [e1, e2]; exact h.val _ q hp' hq
theorem CellsOf.mono {w w' : World} {okc okc' : Nat → Prop} {s : Nat} {L : List (List AV)} {xs : List Value} (h : CellsOf w okc s L xs) (hk : ∀ b, okc b → b < w.heap.size → okc' b ∧ w'.heap[b]? = w.heap[b]?) : CellsOf w' okc' s L xs :=
  ⟨h.len, h.each, h.one, fun i j hi hj => (h.val i j hi hj).mono hk⟩
theorem CellsOf.row {w : World} {B e s : Nat} {okc : Nat → Prop} {L : List (List AV)} {xs : List Value} (h : CellsOf w okc s L xs) (hs : 0 < s) {g cap : Nat} {cur : Array Value} (hB : B ≤ g) (hg : w.heap[g]? = some (.cells cur e (0, 0))) (hm : cap ≤ maxLen) (hcs : cur.size = cap * s) (hnc : L.length ≤ cap)
    (htk : cur.toList.take (L.length * s) = xs) : RRow w B e s okc (.sl s L) (.slice (some ⟨g, 0, none⟩) L.length cap) :=
  ⟨L, xs, rfl, hs, h.each, ⟨h.len, .inr ⟨g, cap, cur, rfl, hB, hg, hnc, hm, hcs, htk⟩⟩, h.one, h.val⟩
/-- The cells of a plain slice whose elements hold no memory. -/
theorem cells_flat {w : World} {ok okc : Nat → Prop} {s : Nat} {Y : List (List AV)} {v : Value} (h : RV w ok (.sl s Y) v) (hf : ∀ y ∈ Y, ∀ z ∈ y, z.flat) (h0 : 0 < Y.length) :
    ∃ (vb vo vc : Nat) (ys : List Value), v = .slice (some ⟨vb, vo, none⟩) Y.length vc ∧ ok vb ∧ vb < w.heap.size ∧ Y.length ≤ vc ∧ vc ≤ maxLen ∧ CellsOf w okc s Y ys ∧ ∀ j u, ys[j]? = some u → w.cell? ⟨vb, vo + j, none⟩ = some u := by
  cases h with
  | sl _ _ A n c us hn hnc hc hs hA hone hu =>
    subst hn
    obtain ⟨b, off, rfl, hok, hlt, hcell⟩ := hA h0
    have hdiv : ∀ k, k < Y.length * s → k / s < Y.length ∧ k % s < s ∧ k / s * s + k % s = k := fun k hk => by
      have hs0 : 0 < s := by rcases Nat.eq_zero_or_pos s with e | e; (subst e; simp at hk); exact e
      exact ⟨Nat.div_lt_of_lt_mul (by rw [Nat.mul_comm]; exact hk), Nat.mod_lt _ hs0, by rw [Nat.mul_comm]; exact Nat.div_add_mod k s⟩
    refine ⟨b, off, c, (List.range (Y.length * s)).map fun k => us (k / s) (k % s), rfl, hok, hlt, hnc, hc, ⟨by simp, hs, fun u hu' => ?_, fun i j hi hj => ?_⟩, fun j u hj => ?_⟩
    · obtain ⟨k, hk, rfl⟩ := List.mem_map.1 hu'
      obtain ⟨q1, q2, _⟩ := hdiv k (by simpa using hk)
      exact hone _ _ q1 q2
    · have hlt' : i * s + j < Y.length * s := by have : (i + 1) * s ≤ Y.length * s := Nat.mul_le_mul_right _ hi; rw [Nat.add_mul] at this; omega
      have hs0 : 0 < s := by omega
      have e4 : (i * s + j) / s = i := by rw [Nat.add_comm, Nat.add_mul_div_right _ _ hs0, Nat.div_eq_of_lt hj]; omega
      have e5 : (i * s + j) % s = j := by rw [Nat.add_comm, Nat.add_mul_mod_self_right, Nat.mod_eq_of_lt hj]
      have e2 : ((List.range (Y.length * s)).map fun k => us (k / s) (k % s)).getD (i * s + j) undef = us i j := by
        rw [List.getD_eq_getElem?_getD, List.getElem?_map, List.getElem?_range hlt']; simp [e4, e5]
      rw [e2]
      have hmem : gt2 Y i j ∈ Y.getD i [] := by
        have hYi : (Y.getD i []) ∈ Y := by rw [List.getD_eq_getElem?_getD, List.getElem?_eq_getElem hi]; exact List.getElem_mem hi
        have hjl : j < (Y.getD i []).length := by rw [hs _ hYi]; exact hj
        unfold gt2
        rw [List.getD_eq_getElem?_getD (l := Y.getD i []), List.getElem?_eq_getElem hjl]
        exact List.getElem_mem hjl
      have hYi : (Y.getD i []) ∈ Y := by rw [List.getD_eq_getElem?_getD, List.getElem?_eq_getElem hi]; exact List.getElem_mem hi
      exact (flat_rv (hu i j hi hj) (hf _ hYi _ hmem)).mono fun g hg _ => hg.elim
    · have hjl : j < Y.length * s := by
        have := (List.getElem?_eq_some_iff.1 hj).1
        simpa using this
      obtain ⟨q1, q2, q3⟩ := hdiv j hjl
      rw [List.getElem?_map, List.getElem?_range hjl] at hj
      simp only [Option.map_some, Option.some.injEq] at hj
      rw [← hj, ← hcell _ _ q1 q2]
      congr 2; omega
end Go.Proofs.YtcifjnhpgblnkaaGreatDoor
/- slices.Insert at api.OwnerEntry. -/
namespace Go.Proofs.YtcifjnhpgblnkaaGreatDoor
open Go.RowKit Go.Lib
set_option linter.unusedVariables false
set_option linter.unusedSimpArgs false
set_option maxRecDepth 1000000
set_option maxHeartbeats 4000000
theorem insOwn_info : (Tryz.prog.info? 134).map (fun i => (i.zero, i.size, i.bytes)) = some (some (.agg #[.string ByteArray.empty, .string ByteArray.empty, .string ByteArray.empty]), 3, 48) := by kernel_rfl
theorem insOwn_size (w : World) : (Go.sizeOf 134).run Tryz.prog w = .ok 3 w := by kernel_rfl
theorem insOwn_und : Tryz.prog.underlying 79 = some (.slice 134) := by kernel_rfl
/-- At the end. -/
theorem insOwn_end (A : Option Addr) (n c vb vo m vc : Nat) (hm : 0 < m) (hnc : n ≤ c) (hc : c ≤ maxLen) (w w' : World) (v' : Value) (hrun : (Builtin.append_ #[79, 79] 79 #[.slice A n c, .slice (some ⟨vb, vo, none⟩) m vc]).run Tryz.prog w = .ok v' w') :
    Calls Tryz.prog 76 #[.slice A n c, .int .i64 n, .slice (some ⟨vb, vo, none⟩) m vc] w fun e W => e = .returned v' ∧ W = w' := by
  unfold maxLen at hc
  have hz1 : ¬ ((m : Int) = 0) := by omega
  have hb : (n : Int) ≤ 9223372036854775807 := by omega
  go_enter Tryz.func76, Tryz.ntmps76
  cases A with
  | none =>
    go_wp2_with (at_builtin; refine Lib.wpList_append_run _ rfl _ _ _ _ rfl _ _ rfl rfl _ _ hrun ?_)
    all_goals (go_ret; exact ⟨rfl, rfl⟩)
  | some a =>
    obtain ⟨ab, ao, asp⟩ := a
    go_wp2_with (at_builtin; refine Lib.wpList_append_run _ rfl _ _ _ _ rfl _ _ rfl rfl _ _ hrun ?_)
    all_goals (go_ret; exact ⟨rfl, rfl⟩)
/-- In place. -/
theorem insOwn_shift (b n c i vb vo m vc : Nat) (xs ys : List Value) (cur : Array Value) (w : World) (hi : i < n) (hm : 0 < m) (hroom : n + m ≤ c) (hc63 : c ≤ 9223372036854775807) (hvb : vb ≠ b)
    (hcl : xs.length = n * 3) (hvl : ys.length = m * 3) (hg : w.heap[b]? = some (.cells cur 134 (0, 0))) (hcs : cur.size = c * 3) (htk : cur.toList.take (n * 3) = xs)
    (hvs : ∀ j v, ys[j]? = some v → w.cell? ⟨vb, vo + j, none⟩ = some v) (h1c : ∀ v ∈ xs, v.oneCell' = true) (h1v : ∀ v ∈ ys, v.oneCell' = true) :
    Calls Tryz.prog 76 #[.slice (some ⟨b, 0, none⟩) n c, .int .i64 i, .slice (some ⟨vb, vo, none⟩) m vc] w fun e w' =>
      e = .returned (.slice (some ⟨b, 0, none⟩) (n + m) c) ∧ w' = (w.drew.setCells b ((i + m) * 3) (xs.drop (i * 3))).setCells b (i * 3) ys := by
  have mixed : Tryz.prog.follows .mixedOrders = true := by kernel_rfl
  have hz1 : ¬ ((m : Int) = 0) := by omega
  have hz2 : ¬ ((i : Int) = (n : Int)) := by omega
  have hsz : (Tryz.prog.info? 134).map (·.size) = some 3 := by kernel_rfl
  have hy0 : ∃ v, w.cell? ⟨vb, vo, none⟩ = some v := by
    have h0 : 0 < ys.length := by rw [hvl]; omega
    exact ⟨ys[0], by simpa using hvs 0 _ (List.getElem?_eq_getElem h0)⟩
  obtain ⟨csA, tA, fz, hA, hA0⟩ : ∃ csA tA fz, w.heap[vb]? = some (.cells csA tA fz) ∧ csA.size ≠ 0 := by
    obtain ⟨v, hv⟩ := hy0
    unfold World.cell? at hv
    cases hq : w.heap[vb]? with
    | none => simp [hq] at hv
    | some o =>
      cases o with
      | cells cs tA fz =>
        refine ⟨cs, tA, fz, rfl, fun e => ?_⟩
        have : cs = #[] := by simpa using e
        subst this
        simp [hq] at hv
      | _ => simp [hq] at hv
  have hov : ∀ lb cb, (callFunc 138 #[.slice (some ⟨vb, vo, none⟩) m vc, .slice (some ⟨b, (i + m) * 3, none⟩) lb cb]).run Tryz.prog w = .ok (.value (.bool false)) w := fun lb cb => by
    rw [run_callFunc_extern Tryz.func138 (by kernel_rfl) (by kernel_rfl) (by kernel_rfl) (e := Extern.SlicesOverlaps.overlaps #[79, 79] #[4]) (by kernel_rfl),
      run_overlaps_own w 79 4 134 insOwn_und 3 insOwn_size ⟨vb, vo, none⟩ ⟨b, (i + m) * 3, none⟩ m vc lb cb hvb csA tA fz hA hA0 cur 134 hg]
    rfl
  have hdl : (xs.drop (i * 3)).length = (n - i) * 3 := by rw [List.length_drop, hcl, Nat.sub_mul]
  have hw1 : IntKind.i64.wrap ((i : Int) + (m : Int)) = (i : Int) + (m : Int) := by rw [IntKind.wrap_i64]; omega
  have hb1 : (0 : Int) ≤ (i : Int) + (m : Int) := by omega
  have hin : i ≤ n := by omega
  have htn : ((i : Int) + (m : Int)).toNat = i + m := by omega
  have hb2 : ¬ (c = i + m) := by omega
  have hb3 : (i : Int) ≤ (n : Int) + (m : Int) := by omega
  have hb4 : ¬ (c = i) := by omega
  have hfz : ∀ (W : World) (cs : Array Value), W.heap[b]? = some (.cells cs 134 (0, 0)) → ∀ k, W.frozen? ⟨b, k, none⟩ = false := fun W cs hW k => by simp [World.frozen?, hW]
  have hsp : ∀ (W : World) (cs : Array Value), W.heap[b]? = some (.cells cs 134 (0, 0)) → ∀ k, k < cs.size → (W.cell? ⟨b, k, none⟩).isSome = true := fun W cs hW k hk => by
    rw [cell_of_row W b k cs 134 (0, 0) hW]; simp [hk]
  have hmul : ∀ a b : Nat, a ≤ b → a * 3 ≤ b * 3 := fun a b h => Nat.mul_le_mul_right _ h
  have hg1 : w.drew.heap[b]? = some (.cells cur 134 (0, 0)) := hg
  have hcp1 : ∀ ty dc sc, (Builtin.copy_ #[79, 79] ty #[.slice (some ⟨b, (i + m) * 3, none⟩) (n + m - (i + m)) dc, .slice (some ⟨b, i * 3, none⟩) (n + m - i) sc]).run Tryz.prog w.drew = .ok (goInt ((n - i : Nat) : Int)) (w.drew.setCells b ((i + m) * 3) (xs.drop (i * 3))) := fun ty dc sc =>
    run_copy_s w.drew _ _ ty 134 3 b ((i + m) * 3) (n + m - (i + m)) dc ⟨b, i * 3, none⟩ (n + m - i) sc (xs.drop (i * 3)) (n - i) insOwn_und hsz (by simp only [Nat.min_def]; split <;> omega) hdl
      (fun j v hj => by
        rw [Addr.add_lit, cell_of_row _ b _ cur 134 (0, 0) hg1]
        rw [List.getElem?_drop, ← htk, List.getElem?_take] at hj
        split at hj
        · rw [← Array.getElem?_toList]; exact hj
        · cases hj)
      (fun j hj => hsp _ cur hg1 _ (by rw [hdl] at hj; rw [hcs]; have := hmul (n + m) c hroom; rw [Nat.add_mul] at this; rw [Nat.sub_mul] at hj; have := hmul i n hin; rw [Nat.add_mul]; omega)) (fun j hj => hfz _ cur hg1 _) (fun v hv => h1c v (List.mem_of_mem_drop hv))
  obtain ⟨W1, hW1⟩ : ∃ W1, W1 = w.drew.setCells b ((i + m) * 3) (xs.drop (i * 3)) := ⟨_, rfl⟩
  have hg2 : W1.heap[b]? = some (.cells (setR cur ((i + m) * 3) (xs.drop (i * 3))) 134 (0, 0)) := by rw [hW1]; exact setCells_blk _ _ _ _ hg1
  have hcp2 : ∀ (W : World), W.heap = W1.heap → ∀ ty dc, (Builtin.copy_ #[79, 79] ty #[.slice (some ⟨b, i * 3, none⟩) (n + m - i) dc, .slice (some ⟨vb, vo, none⟩) m vc]).run Tryz.prog W = .ok (goInt m) (W.setCells b (i * 3) ys) := fun W hWh ty dc =>
    run_copy_s W _ _ ty 134 3 b (i * 3) (n + m - i) dc ⟨vb, vo, none⟩ m vc ys m insOwn_und hsz (by simp only [Nat.min_def]; split <;> omega) hvl
      (fun j v hj => by
        have e1 : W.cell? (({ block := vb, off := vo } : Addr).add j) = W1.cell? (({ block := vb, off := vo } : Addr).add j) := World.cell?_of_block (by rw [hWh])
        rw [e1, hW1, Addr.add_lit, World.cell?_setCells_out b _ _ _ _ (fun h _ => absurd h hvb)]
        exact hvs j v hj)
      (fun j hj => hsp W _ (by rw [hWh]; exact hg2) _ (by rw [setR_size, hcs]; rw [hvl] at hj; have := hmul (i + m) c (by omega); rw [Nat.add_mul] at this; omega)) (fun j hj => hfz W _ (by rw [hWh]; exact hg2) _) h1v
  rw [← hW1] at hcp1
  clear hg2 hg1 hsp hfz hmul htk hcs hg hA hA0 h1c hcl
  go_enter Tryz.func76, Tryz.ntmps76
  go_wp2_with (simp only [hov])
  go_region_law_o (refine step_copy_run rfl _ _ 79 79 rfl _ _ (by simp [Act.eval, Act.put]) (by simp [Act.eval, Act.put]) (hcp1 _ _ _) ?_)
  go_wp2_with (at_builtin; refine wpList_copy_run _ rfl _ _ 79 79 rfl _ _ rfl rfl (hcp2 _ rfl _ _) ?_)
  go_ret
  first | exact ⟨rfl, rfl⟩ | exact ⟨rfl, by rw [hW1]⟩
/-- Into a new row. -/
theorem insOwn_grow (b n c i vb vo m vc : Nat) (xs ys : List Value) (cur : Array Value) (w : World) (hi : i < n) (hm : 0 < m) (hnc : n ≤ c) (hroom : c < n + m) (hbig : (n + m) * 48 ≤ 140737488355328)
    (hcl : xs.length = n * 3) (hvl : ys.length = m * 3) (hg : w.heap[b]? = some (.cells cur 134 (0, 0))) (hcs : cur.size = c * 3) (htk : cur.toList.take (n * 3) = xs)
    (hvs : ∀ j v, ys[j]? = some v → w.cell? ⟨vb, vo + j, none⟩ = some v) (h1c : ∀ v ∈ xs, v.oneCell' = true) (h1v : ∀ v ∈ ys, v.oneCell' = true) :
    ∃ (G : Nat) (ROW : Array Value) (W : World), n + m ≤ G ∧ G ≤ maxLen ∧ ROW.size = G * 3 ∧ ROW.toList.take (i * 3) = xs.take (i * 3) ∧ W.heap = (w.alloc (.cells ROW 134)).heap ∧ W.os = w.os ∧ W.tape = w.tape ∧ W.output = w.output ∧ w.drawn ≤ W.drawn ∧
    Calls Tryz.prog 76 #[.slice (some ⟨b, 0, none⟩) n c, .int .i64 i, .slice (some ⟨vb, vo, none⟩) m vc] w fun e w' =>
      e = .returned (.slice (some ⟨w.heap.size, 0, none⟩) (n + m) G) ∧ w' = ((W.setCells w.heap.size (i * 3) ys).drew).setCells w.heap.size ((i + m) * 3) (xs.drop (i * 3)) := by
  have mixed : Tryz.prog.follows .mixedOrders = true := by kernel_rfl
  obtain ⟨i0, hi0, hz0, hzs, hzb⟩ : ∃ i0, Tryz.prog.info? 134 = some i0 ∧ i0.zero = some (.agg #[.string ByteArray.empty, .string ByteArray.empty, .string ByteArray.empty]) ∧ i0.size = 3 ∧ i0.bytes = 48 := by
    have := insOwn_info
    cases hq : Tryz.prog.info? 134 with
    | none => rw [hq] at this; cases this
    | some i0 => rw [hq] at this; simp at this; exact ⟨i0, rfl, this.1, this.2.1, this.2.2⟩
  have hz1 : ¬ ((m : Int) = 0) := by omega
  have hz2 : ¬ ((i : Int) = (n : Int)) := by omega
  have hz3 : (c : Int) < (n : Int) + (m : Int) := by omega
  have hsz : (Tryz.prog.info? 134).map (·.size) = some 3 := by kernel_rfl
  have hbw : b < w.heap.size := (Array.getElem?_eq_some_iff.1 hg).1
  have hvw : vb < w.heap.size := block_lt_of_cell (hvs 0 _ (List.getElem?_eq_getElem (by omega)))
  have hkk : (n : Int) + (m : Int) - (i : Int) = ((n + m - i : Nat) : Int) := by omega
  have hik : i + (n + m - i) = n + m := by omega
  have hmul : ∀ a b : Nat, a ≤ b → a * 3 ≤ b * 3 := fun a b h => Nat.mul_le_mul_right _ h
  have hget : ∀ (W : World), W.heap = w.heap → ∀ j v, xs[j]? = some v → W.cell? ⟨b, j, none⟩ = some v := fun W hW j v hj => by
    rw [cell_of_row W b j cur 134 (0, 0) (by rw [hW]; exact hg)]
    rw [← htk, List.getElem?_take] at hj
    split at hj
    · rw [← Array.getElem?_toList]; exact hj
    · cases hj
  have hold : (Builtin.firstCells i0.size i (.slice (some ⟨b, 0, none⟩) i c)).run Tryz.prog w.drew = .ok (xs.take (i * 3)).toArray w.drew := by
    rw [hzs]
    exact run_firstCells_some w.drew 3 i ⟨b, 0, none⟩ i c (xs.take (i * 3)) (by rw [List.length_take, hcl]; have := hmul i n (by omega); omega) (fun j v hj => by
      rw [Addr.add_lit, Nat.zero_add]
      rw [List.getElem?_take] at hj
      split at hj
      · exact hget w.drew rfl j v hj
      · cases hj)
  have hrz : ∀ ty, (Builtin.append_ #[79, 3] ty #[.slice (some ⟨b, 0, none⟩) i c, .int .i64 ((n : Int) + (m : Int) - (i : Int))]).run Tryz.prog w =
      .ok (.slice (some ⟨w.heap.size, 0, none⟩) (n + m) (grownCap w (n + m) c 134)) (w.drew.alloc (.cells ((xs.take (i * 3)).toArray ++ Builtin.zeroCells (.agg #[.string ByteArray.empty, .string ByteArray.empty, .string ByteArray.empty] : Value).cells (n + m - i) ++ Builtin.zeroCells (.agg #[.string ByteArray.empty, .string ByteArray.empty, .string ByteArray.empty] : Value).cells (grownCap w (n + m) c 134 - (n + m))) 134)) := fun ty => by
    have h := Lib.run_append_grow_zeros w 79 3 ty 134 i0 _ .i64 .i64 insOwn_und (by kernel_rfl) hi0 hz0 (some ⟨b, 0, none⟩) i c (xs.take (i * 3)) hold (n + m - i) (by omega) (by omega) (by omega) (by omega) (by rw [hzb]; omega) (by rw [hzb, hik]; exact growslice_fits hroom hbig)
    rw [hik] at h
    rw [hkk]
    exact h
  obtain ⟨G, hG⟩ : ∃ G, G = grownCap w (n + m) c 134 := ⟨_, rfl⟩
  obtain ⟨ROW, hROW⟩ : ∃ ROW : Array Value, ROW = (xs.take (i * 3)).toArray ++ Builtin.zeroCells (.agg #[.string ByteArray.empty, .string ByteArray.empty, .string ByteArray.empty] : Value).cells (n + m - i) ++ Builtin.zeroCells (.agg #[.string ByteArray.empty, .string ByteArray.empty, .string ByteArray.empty] : Value).cells (G - (n + m)) := ⟨_, rfl⟩
  rw [← hG] at hrz
  rw [← hROW] at hrz
  have hGn : n + m ≤ G := by rw [hG]; exact grownCap_ge w _ _ _
  have hGm : G ≤ maxLen := by rw [hG]; exact grownCap_le_maxLen w (n + m) c 134 (by unfold maxLen; omega)
  have htl : (xs.take (i * 3)).length = i * 3 := by rw [List.length_take, hcl]; have := hmul i n (by omega); omega
  have hRl : ROW.size = G * 3 := by
    rw [hROW]
    simp only [Array.size_append, List.size_toArray, htl, Builtin.zeroCells, Value.cells, Array.size_map, Array.size_range]
    show i * 3 + (n + m - i) * 3 + (G - (n + m)) * 3 = G * 3
    rw [← Nat.add_mul, ← Nat.add_mul]; congr 1; omega
  have hRt : ROW.toList.take (i * 3) = xs.take (i * 3) := by
    rw [hROW]
    simp only [Array.toList_append, List.append_assoc]
    exact List.take_left' htl
  obtain ⟨W1, hW1⟩ : ∃ W1, W1 = w.drew.alloc (.cells ROW 134) := ⟨_, rfl⟩
  rw [← hW1] at hrz
  have hN0 : W1.heap[w.heap.size]? = some (.cells ROW 134 (0, 0)) := by rw [hW1]; show (w.heap.push _)[w.heap.size]? = _; simp
  have hold2 : ∀ k, k < w.heap.size → W1.heap[k]? = w.heap[k]? := fun k hk => by rw [hW1]; show (w.heap.push _)[k]? = _; rw [Array.getElem?_push, if_neg (by omega)]
  have hfz : ∀ (W : World) (cs : Array Value), W.heap[w.heap.size]? = some (.cells cs 134 (0, 0)) → ∀ k, W.frozen? ⟨w.heap.size, k, none⟩ = false := fun W cs hW k => by simp [World.frozen?, hW]
  have hsp : ∀ (W : World) (cs : Array Value), W.heap[w.heap.size]? = some (.cells cs 134 (0, 0)) → ∀ k, k < cs.size → (W.cell? ⟨w.heap.size, k, none⟩).isSome = true := fun W cs hW k hk => by
    rw [cell_of_row W w.heap.size k cs 134 (0, 0) hW]; simp [hk]
  have hcpA : ∀ (W : World), W.heap = W1.heap → ∀ ty dc, (Builtin.copy_ #[79, 79] ty #[.slice (some ⟨w.heap.size, i * 3, none⟩) (n + m - i) dc, .slice (some ⟨vb, vo, none⟩) m vc]).run Tryz.prog W = .ok (goInt m) (W.setCells w.heap.size (i * 3) ys) := fun W hWh ty dc =>
    run_copy_s W _ _ ty 134 3 w.heap.size (i * 3) (n + m - i) dc ⟨vb, vo, none⟩ m vc ys m insOwn_und hsz (by simp only [Nat.min_def]; split <;> omega) hvl
      (fun j v hj => by
        have e1 : W.cell? (({ block := vb, off := vo } : Addr).add j) = w.cell? (({ block := vb, off := vo } : Addr).add j) := World.cell?_of_block (by rw [hWh, Addr.add_lit]; exact hold2 vb hvw)
        rw [e1, Addr.add_lit]
        exact hvs j v hj)
      (fun j hj => hsp W _ (by rw [hWh]; exact hN0) _ (by rw [hRl]; rw [hvl] at hj; have := hmul (i + m) G (by omega); rw [Nat.add_mul] at this; omega)) (fun j hj => hfz W _ (by rw [hWh]; exact hN0) _) h1v
  have hG63 : G ≤ 9223372036854775807 := hGm
  have hGi : ¬ (G = i) := by omega
  have hGim : ¬ (G = i + m) := by omega
  have hci : ¬ (c = i) := by omega
  have hbN : b ≠ w.heap.size := by omega
  have hdl : (xs.drop (i * 3)).length = (n - i) * 3 := by rw [List.length_drop, hcl, Nat.sub_mul]
  have hN1 : ∀ W : World, W.heap = W1.heap → (W.setCells w.heap.size (i * 3) ys).heap[w.heap.size]? = some (.cells (setR ROW (i * 3) ys) 134 (0, 0)) := fun W hW => setCells_blk _ _ _ _ (by rw [hW]; exact hN0)
  have hcpB : ∀ (W W2 : World), W.heap = W1.heap → W2.heap = (W.setCells w.heap.size (i * 3) ys).heap → ∀ ty dc sc, (Builtin.copy_ #[79, 79] ty #[.slice (some ⟨w.heap.size, (i + m) * 3, none⟩) (n + m - (i + m)) dc, .slice (some ⟨b, i * 3, none⟩) (n - i) sc]).run Tryz.prog W2 = .ok (goInt ((n - i : Nat) : Int)) (W2.setCells w.heap.size ((i + m) * 3) (xs.drop (i * 3))) := fun W W2 hWh hW2 ty dc sc =>
    run_copy_s W2 _ _ ty 134 3 w.heap.size ((i + m) * 3) (n + m - (i + m)) dc ⟨b, i * 3, none⟩ (n - i) sc (xs.drop (i * 3)) (n - i) insOwn_und hsz (by simp only [Nat.min_def]; split <;> omega) hdl
      (fun j v hj => by
        have hbS : b < W.heap.size := by rw [hWh, hW1]; show b < (w.heap.push _).size; simp; omega
        have e1 : W2.heap[b]? = w.heap[b]? := by rw [hW2, World.heap_setCells_other W w.heap.size _ _ hbS hbN, hWh]; exact hold2 b hbw
        rw [Addr.add_lit, cell_of_row W2 b _ cur 134 (0, 0) (by rw [e1]; exact hg)]
        rw [List.getElem?_drop, ← htk, List.getElem?_take] at hj
        split at hj
        · rw [← Array.getElem?_toList]; exact hj
        · cases hj)
      (fun j hj => hsp W2 _ (by rw [hW2]; exact hN1 W hWh) _ (by rw [setR_size, hRl]; rw [hdl, Nat.sub_mul] at hj; have := hmul (n + m) G hGn; rw [Nat.add_mul] at this; have := hmul i n (by omega); rw [Nat.add_mul]; omega)) (fun j hj => hfz W2 _ (by rw [hW2]; exact hN1 W hWh) _) (fun v hv => h1c v (List.mem_of_mem_drop hv))
  have hw1 : IntKind.i64.wrap ((i : Int) + (m : Int)) = (i : Int) + (m : Int) := by rw [IntKind.wrap_i64]; omega
  have hb1 : (0 : Int) ≤ (i : Int) + (m : Int) := by omega
  have hin : i ≤ n := by omega
  have htn : ((i : Int) + (m : Int)).toNat = i + m := by omega
  have hb3 : (i : Int) ≤ (n : Int) := by omega
  refine ⟨G, ROW, (w.alloc (.cells ROW 134)).drew, hGn, hGm, hRl, hRt, rfl, rfl, rfl, rfl, Nat.le_succ _, ?_⟩
  subst hW1
  have hE : ((w.alloc (.cells ROW 134)).drew).heap = (w.drew.alloc (.cells ROW 134)).heap := rfl
  have hF : (((w.alloc (.cells ROW 134)).drew.setCells w.heap.size (i * 3) ys).drew).heap = ((w.alloc (.cells ROW 134)).drew.setCells w.heap.size (i * 3) ys).heap := rfl
  clear hkk hik hold hROW hG hRl hRt hN0 hN1 hold2 hfz hsp hmul hget hg htk hcs h1c hcl htl
  go_enter Tryz.func76, Tryz.ntmps76
  go_wp2_with (first
    | (at_builtin; refine Lib.wpList_append_run _ rfl _ _ _ _ rfl _ _ rfl rfl _ _ (hrz _) ?_)
    | (at_builtin; refine wpList_copy_run _ rfl _ _ 79 79 rfl _ _ rfl rfl (hcpA _ hE _ _) ?_))
  go_region_law_o (refine step_copy_run rfl _ _ 79 79 rfl (.slice (some ⟨w.heap.size, (i + m) * 3, none⟩) (n + m - (i + m)) (G - (i + m))) (.slice (some ⟨b, i * 3, none⟩) (n - i) (c - i)) (by simp [Act.eval, Act.put]) (by simp [Act.eval, Act.put]) (hcpB _ _ hE hF 3 (G - (i + m)) (c - i)) ?_)
  go_wp2
  go_ret
  exact ⟨rfl, rfl⟩
theorem insOwn (L Y : List (List AV)) (i : Nat) (hi : i ≤ L.length) (hY : 0 < Y.length) (hf : ∀ y ∈ Y, ∀ z ∈ y, z.flat) (hbig : (L.length + Y.length) * 48 ≤ 140737488355328) :
    FnU Tryz.prog 76 134 3 (.sl 3 L) [.int i, .sl 3 Y] true (.sl 3 (L.take i ++ (Y ++ L.drop i))) := by
  refine ⟨Tryz.call76, ?_⟩
  intro w ok B okc v0 cargs hrow hokc hok hB hgl hsz hargs
  have h0 := hargs 0 (by simp)
  have h1 := hargs 1 (by simp)
  obtain ⟨vy, hc0, hvy⟩ : ∃ vy, cargs = #[.int .i64 i, vy] ∧ RV w ok (.sl 3 Y) vy := by
    have hsz2 : cargs.size = 2 := by simpa using hsz
    obtain ⟨l⟩ := cargs
    match l, hsz2 with
    | [a, b], _ =>
      have e0 : a = .int .i64 i := RV.lit_iff.1 (by simpa using h0)
      exact ⟨b, by rw [e0], by simpa using h1⟩
  subst hc0
  clear hargs h0 h1 hsz
  obtain ⟨vb, vo, vc, ys, rfl, hvok, hvlt, hvc, hvcm, hys, hycell⟩ := cells_flat (okc := okc) hvy hf hY
  have hvb := (hok vb hvok).1
  obtain ⟨L', xs, e1, hs, hL, ho, hone, hv⟩ := hrow
  injection e1 with _ e1
  subst e1
  have hC : CellsOf w okc 3 L xs := ⟨ho.1, hL, hone, hv⟩
  by_cases hin : i = L.length
  · subst hin
    obtain ⟨i0, hi0, hz0, hzs, hzb⟩ : ∃ i0, Tryz.prog.info? 134 = some i0 ∧ i0.zero = some (.agg #[.string ByteArray.empty, .string ByteArray.empty, .string ByteArray.empty]) ∧ i0.size = 3 ∧ i0.bytes = 48 := by
      have := insOwn_info
      cases hq : Tryz.prog.info? 134 with
      | none => rw [hq] at this; cases this
      | some i0 => rw [hq] at this; simp at this; exact ⟨i0, rfl, this.1, this.2.1, this.2.2⟩
    obtain ⟨v', w', hrun, h2, h3, _, h5⟩ := run_append_own_at (P := Tryz.prog) w B 79 79 134 i0 _ 3 48 insOwn_und hi0 hz0 hzs hzb (by simp [Value.cells]) hs v0 L.length xs ho ⟨vb, vo, none⟩ Y.length vc ys hys.len (fun j u hj => by rw [Addr.add_lit]; exact hycell j u hj) hys.one (by unfold maxLen; omega) hbig hB
    have hform : ∃ A c, v0 = .slice A L.length c ∧ L.length ≤ c ∧ c ≤ maxLen := by
      rcases ho.2 with ⟨rfl, hn0⟩ | ⟨g, cap, cur, rfl, _, _, hnc, hm, _⟩
      · exact ⟨none, 0, by rw [hn0], by omega, by unfold maxLen; omega⟩
      · exact ⟨_, _, rfl, hnc, hm⟩
    obtain ⟨A, c, rfl, hnc, hcm⟩ := hform
    refine (insOwn_end A L.length c vb vo Y.length vc hY hnc hcm w w' v' hrun).mono ?_
    rintro e W ⟨rfl, rfl⟩
    have hC2 : CellsOf W okc 3 (L ++ Y) (xs ++ ys) := (hC.app hys).mono fun b hb hlt => ⟨hb, h3.block b hlt fun e => (hokc b hb).1 e.symm⟩
    refine ⟨v', rfl, h3, ?_, by simp, fun g hg => ?_, run_drawn _ hrun⟩
    · rw [List.take_length, List.drop_length, List.append_nil]
      exact ⟨_, _, rfl, hs, hC2.each, by rw [List.length_append]; exact h2, hC2.one, hC2.val⟩
    · rcases h5 with q | q
      · left; rw [← q]; exact hg
      · right; rw [q] at hg; injection hg with hg; omega
  have hlt : i < L.length := by omega
  rcases ho.2 with ⟨rfl, hn0⟩ | ⟨g, cap, cur, rfl, hBg, hg, hnc, hm, hcs, htk⟩
  · omega
  have hvg : vb ≠ g := fun e => hvb (by rw [e]; rfl)
  have hlen : (L.take i ++ (Y ++ L.drop i)).length = L.length + Y.length := by simp; omega
  have hC2 : CellsOf w okc 3 (L.take i ++ (Y ++ L.drop i)) (xs.take (i * 3) ++ (ys ++ xs.drop (i * 3))) := (hC.take i hi).app (hys.app (hC.drop i))
  have hmul : ∀ a b : Nat, a ≤ b → a * 3 ≤ b * 3 := fun a b h => Nat.mul_le_mul_right _ h
  have his := hmul i L.length hi
  have hxt : (xs.take (i * 3)).length = i * 3 := by rw [List.length_take, ho.1]; omega
  have hxd : (xs.drop (i * 3)).length = (L.length - i) * 3 := by rw [List.length_drop, ho.1, Nat.sub_mul]
  -- what the two writes leave
  have key : ∀ (cap' : Nat) (C : Array Value), C.size = cap' * 3 → L.length + Y.length ≤ cap' → C.toList.take (i * 3) = xs.take (i * 3) →
      (setR (setR C (i * 3) ys) ((i + Y.length) * 3) (xs.drop (i * 3))).toList.take ((L.length + Y.length) * 3) = xs.take (i * 3) ++ (ys ++ xs.drop (i * 3)) := by
    intro cap' C hCs hcap hCt
    have q0 := hmul (L.length + Y.length) cap' hcap
    rw [Nat.add_mul] at q0
    have q2 : (L.length - i) * 3 = L.length * 3 - i * 3 := Nat.sub_mul _ _ _
    rw [setR_list _ _ _ (by rw [setR_size, hCs, hxd, Nat.add_mul]; omega), setR_list _ _ _ (by rw [hCs, hys.len]; omega), hCt, hys.len, Nat.add_mul i Y.length]
    have e1 : ((xs.take (i * 3) ++ ys ++ C.toList.drop (i * 3 + Y.length * 3)).take (i * 3 + Y.length * 3)) = xs.take (i * 3) ++ ys := List.take_left' (by rw [List.length_append, hxt, hys.len])
    rw [e1, List.append_assoc (xs.take (i * 3)) ys]
    exact List.take_left' (by rw [List.length_append, List.length_append, hxt, hys.len, hxd, Nat.add_mul]; omega)
  have key2 : ∀ (cap' : Nat) (C : Array Value), C.size = cap' * 3 → L.length + Y.length ≤ cap' → C.toList.take (i * 3) = xs.take (i * 3) →
      (setR (setR C ((i + Y.length) * 3) (xs.drop (i * 3))) (i * 3) ys).toList.take ((L.length + Y.length) * 3) = xs.take (i * 3) ++ (ys ++ xs.drop (i * 3)) := by
    intro cap' C hCs hcap hCt
    have q0 := hmul (L.length + Y.length) cap' hcap
    rw [Nat.add_mul] at q0
    have q2 : (L.length - i) * 3 = L.length * 3 - i * 3 := Nat.sub_mul _ _ _
    rw [setR_list _ _ _ (by rw [setR_size, hCs, hys.len]; omega), setR_list _ _ _ (by rw [hCs, hxd, Nat.add_mul]; omega), hys.len, Nat.add_mul i Y.length]
    have hl1 : (C.toList.take (i * 3 + Y.length * 3)).length = i * 3 + Y.length * 3 := by rw [List.length_take, show C.toList.length = C.size from Array.length_toList, hCs]; omega
    have e1 : (C.toList.take (i * 3 + Y.length * 3) ++ xs.drop (i * 3) ++ C.toList.drop (i * 3 + Y.length * 3 + (xs.drop (i * 3)).length)).take (i * 3) = xs.take (i * 3) := by
      rw [List.append_assoc, List.take_append_of_le_length (by rw [hl1]; omega), List.take_take, Nat.min_eq_left (by omega), hCt]
    have e2 : (C.toList.take (i * 3 + Y.length * 3) ++ xs.drop (i * 3) ++ C.toList.drop (i * 3 + Y.length * 3 + (xs.drop (i * 3)).length)).drop (i * 3 + Y.length * 3) = xs.drop (i * 3) ++ C.toList.drop (i * 3 + Y.length * 3 + (xs.drop (i * 3)).length) := by
      rw [List.append_assoc]; exact List.drop_left' hl1
    rw [e1, e2, List.append_assoc (xs.take (i * 3)) ys, ← List.append_assoc ys, ← List.append_assoc (xs.take (i * 3))]
    exact List.take_left' (by rw [List.length_append, List.length_append, hxt, hys.len, hxd, Nat.add_mul]; omega)
  have hct : cur.toList.take (i * 3) = xs.take (i * 3) := by rw [← htk, List.take_take, Nat.min_eq_left his]
  by_cases hroom : L.length + Y.length ≤ cap
  · refine (insOwn_shift g L.length cap i vb vo Y.length vc xs ys cur w hlt hY hroom hm hvg ho.1 hys.len hg hcs htk hycell hone hys.one).mono ?_
    rintro e w' ⟨rfl, rfl⟩
    have hg2 : ((w.drew.setCells g ((i + Y.length) * 3) (xs.drop (i * 3))).setCells g (i * 3) ys).heap[g]? = some (.cells (setR (setR cur ((i + Y.length) * 3) (xs.drop (i * 3))) (i * 3) ys) 134 (0, 0)) := setCells_blk _ _ _ _ (setCells_blk _ _ _ _ hg)
    have hgr : w.grownBy ((w.drew.setCells g ((i + Y.length) * 3) (xs.drop (i * 3))).setCells g (i * 3) ys) (some g) := grownBy_trans (grownBy_drew w (some g)) (grownBy_trans (grown_setCells _ _ _ _) (grown_setCells _ _ _ _))
    refine ⟨_, rfl, hgr, ?_, by simp, fun g' hg' => .inl hg', by rw [setCells_drawn, setCells_drawn]; exact Nat.le_succ _⟩
    have hC3 := hC2.mono (w' := (w.drew.setCells g ((i + Y.length) * 3) (xs.drop (i * 3))).setCells g (i * 3) ys) (okc' := okc) fun b hb hlt => ⟨hb, hgr.block b hlt fun e => (hokc b hb).1 e.symm⟩
    rw [← hlen]
    exact hC3.row hs hBg hg2 hm (by rw [setR_size, setR_size]; exact hcs) (by rw [hlen]; exact hroom) (by rw [hlen]; exact key2 cap cur hcs hroom hct)
  · obtain ⟨G, ROW, W, hGn, hGm, hRs, hRt, hWh, hWo, hWt, hWp, hWd, hcall⟩ := insOwn_grow g L.length cap i vb vo Y.length vc xs ys cur w hlt hY hnc (by omega) hbig ho.1 hys.len hg hcs htk hycell hone hys.one
    refine hcall.mono ?_
    rintro e w' ⟨rfl, rfl⟩
    have hWs : W.heap.size = w.heap.size + 1 := by rw [hWh]; show (w.heap.push _).size = _; simp
    have hW0 : W.heap[w.heap.size]? = some (.cells ROW 134 (0, 0)) := by rw [hWh]; show (w.heap.push _)[w.heap.size]? = _; simp
    have hg2 : (((W.setCells w.heap.size (i * 3) ys).drew).setCells w.heap.size ((i + Y.length) * 3) (xs.drop (i * 3))).heap[w.heap.size]? = some (.cells (setR (setR ROW (i * 3) ys) ((i + Y.length) * 3) (xs.drop (i * 3))) 134 (0, 0)) := setCells_blk _ _ _ _ (setCells_blk _ _ _ _ hW0)
    have hgW : W.grownBy (((W.setCells w.heap.size (i * 3) ys).drew).setCells w.heap.size ((i + Y.length) * 3) (xs.drop (i * 3))) (some w.heap.size) := grownBy_trans (grown_setCells _ _ _ _) (grownBy_trans (grownBy_drew _ _) (grown_setCells _ _ _ _))
    have hblk : ∀ k, k < w.heap.size → (((W.setCells w.heap.size (i * 3) ys).drew).setCells w.heap.size ((i + Y.length) * 3) (xs.drop (i * 3))).heap[k]? = w.heap[k]? := fun k hk => by
      rw [hgW.block k (by omega) (fun e => by injection e with e; omega), hWh]
      show (w.heap.push _)[k]? = _
      rw [Array.getElem?_push, if_neg (by omega)]
    refine ⟨_, rfl, ⟨hgW.os.trans hWo, hgW.tape.trans hWt, hgW.output.trans hWp, Nat.le_trans (by omega) hgW.size, fun k hk _ => hblk k hk⟩, ?_, by simp, fun g' hg' => .inr (by have e : w.heap.size = g' := (by injection hg'); omega), by rw [setCells_drawn]; show w.drawn ≤ (W.setCells w.heap.size _ ys).drawn + 1; rw [setCells_drawn]; omega⟩
    have hC3 := hC2.mono (w' := ((W.setCells w.heap.size (i * 3) ys).drew).setCells w.heap.size ((i + Y.length) * 3) (xs.drop (i * 3))) (okc' := okc) fun b hb hlt => ⟨hb, hblk b hlt⟩
    rw [← hlen]
    exact hC3.row hs hB hg2 hGm (by rw [setR_size, setR_size]; exact hRs) (by rw [hlen]; exact hGn) (by rw [hlen]; exact key G ROW hRs hGn hRt)
end Go.Proofs.YtcifjnhpgblnkaaGreatDoor
/- slices.Insert at api.RunwayMove. -/
namespace Go.Proofs.YtcifjnhpgblnkaaGreatDoor
open Go.RowKit Go.Lib
set_option linter.unusedVariables false
set_option linter.unusedSimpArgs false
set_option maxRecDepth 1000000
set_option maxHeartbeats 4000000
theorem insMv_info : (Tryz.prog.info? 139).map (fun i => (i.zero, i.size, i.bytes)) = some (some (.agg #[.int .i64 0, .int .i64 0, .bool false, .int .i64 0]), 4, 32) := by kernel_rfl
theorem insMv_size (w : World) : (Go.sizeOf 139).run Tryz.prog w = .ok 4 w := by kernel_rfl
theorem insMv_und : Tryz.prog.underlying 108 = some (.slice 139) := by kernel_rfl
/-- At the end. -/
theorem insMv_end (A : Option Addr) (n c vb vo m vc : Nat) (hm : 0 < m) (hnc : n ≤ c) (hc : c ≤ maxLen) (w w' : World) (v' : Value) (hrun : (Builtin.append_ #[108, 108] 108 #[.slice A n c, .slice (some ⟨vb, vo, none⟩) m vc]).run Tryz.prog w = .ok v' w') :
    Calls Tryz.prog 101 #[.slice A n c, .int .i64 n, .slice (some ⟨vb, vo, none⟩) m vc] w fun e W => e = .returned v' ∧ W = w' := by
  unfold maxLen at hc
  have hz1 : ¬ ((m : Int) = 0) := by omega
  have hb : (n : Int) ≤ 9223372036854775807 := by omega
  go_enter Tryz.func101, Tryz.ntmps101
  cases A with
  | none =>
    go_wp2_with (at_builtin; refine Lib.wpList_append_run _ rfl _ _ _ _ rfl _ _ rfl rfl _ _ hrun ?_)
    all_goals (go_ret; exact ⟨rfl, rfl⟩)
  | some a =>
    obtain ⟨ab, ao, asp⟩ := a
    go_wp2_with (at_builtin; refine Lib.wpList_append_run _ rfl _ _ _ _ rfl _ _ rfl rfl _ _ hrun ?_)
    all_goals (go_ret; exact ⟨rfl, rfl⟩)
/-- In place. -/
theorem insMv_shift (b n c i vb vo m vc : Nat) (xs ys : List Value) (cur : Array Value) (w : World) (hi : i < n) (hm : 0 < m) (hroom : n + m ≤ c) (hc63 : c ≤ 9223372036854775807) (hvb : vb ≠ b)
    (hcl : xs.length = n * 4) (hvl : ys.length = m * 4) (hg : w.heap[b]? = some (.cells cur 139 (0, 0))) (hcs : cur.size = c * 4) (htk : cur.toList.take (n * 4) = xs)
    (hvs : ∀ j v, ys[j]? = some v → w.cell? ⟨vb, vo + j, none⟩ = some v) (h1c : ∀ v ∈ xs, v.oneCell' = true) (h1v : ∀ v ∈ ys, v.oneCell' = true) :
    Calls Tryz.prog 101 #[.slice (some ⟨b, 0, none⟩) n c, .int .i64 i, .slice (some ⟨vb, vo, none⟩) m vc] w fun e w' =>
      e = .returned (.slice (some ⟨b, 0, none⟩) (n + m) c) ∧ w' = (w.drew.setCells b ((i + m) * 4) (xs.drop (i * 4))).setCells b (i * 4) ys := by
  have mixed : Tryz.prog.follows .mixedOrders = true := by kernel_rfl
  have hz1 : ¬ ((m : Int) = 0) := by omega
  have hz2 : ¬ ((i : Int) = (n : Int)) := by omega
  have hsz : (Tryz.prog.info? 139).map (·.size) = some 4 := by kernel_rfl
  have hy0 : ∃ v, w.cell? ⟨vb, vo, none⟩ = some v := by
    have h0 : 0 < ys.length := by rw [hvl]; omega
    exact ⟨ys[0], by simpa using hvs 0 _ (List.getElem?_eq_getElem h0)⟩
  obtain ⟨csA, tA, fz, hA, hA0⟩ : ∃ csA tA fz, w.heap[vb]? = some (.cells csA tA fz) ∧ csA.size ≠ 0 := by
    obtain ⟨v, hv⟩ := hy0
    unfold World.cell? at hv
    cases hq : w.heap[vb]? with
    | none => simp [hq] at hv
    | some o =>
      cases o with
      | cells cs tA fz =>
        refine ⟨cs, tA, fz, rfl, fun e => ?_⟩
        have : cs = #[] := by simpa using e
        subst this
        simp [hq] at hv
      | _ => simp [hq] at hv
  have hov : ∀ lb cb, (callFunc 160 #[.slice (some ⟨vb, vo, none⟩) m vc, .slice (some ⟨b, (i + m) * 4, none⟩) lb cb]).run Tryz.prog w = .ok (.value (.bool false)) w := fun lb cb => by
    rw [run_callFunc_extern Tryz.func160 (by kernel_rfl) (by kernel_rfl) (by kernel_rfl) (e := Extern.SlicesOverlaps.overlaps #[108, 108] #[4]) (by kernel_rfl),
      run_overlaps_own w 108 4 139 insMv_und 4 insMv_size ⟨vb, vo, none⟩ ⟨b, (i + m) * 4, none⟩ m vc lb cb hvb csA tA fz hA hA0 cur 139 hg]
    rfl
  have hdl : (xs.drop (i * 4)).length = (n - i) * 4 := by rw [List.length_drop, hcl, Nat.sub_mul]
  have hw1 : IntKind.i64.wrap ((i : Int) + (m : Int)) = (i : Int) + (m : Int) := by rw [IntKind.wrap_i64]; omega
  have hb1 : (0 : Int) ≤ (i : Int) + (m : Int) := by omega
  have hin : i ≤ n := by omega
  have htn : ((i : Int) + (m : Int)).toNat = i + m := by omega
  have hb2 : ¬ (c = i + m) := by omega
  have hb3 : (i : Int) ≤ (n : Int) + (m : Int) := by omega
  have hb4 : ¬ (c = i) := by omega
  have hfz : ∀ (W : World) (cs : Array Value), W.heap[b]? = some (.cells cs 139 (0, 0)) → ∀ k, W.frozen? ⟨b, k, none⟩ = false := fun W cs hW k => by simp [World.frozen?, hW]
  have hsp : ∀ (W : World) (cs : Array Value), W.heap[b]? = some (.cells cs 139 (0, 0)) → ∀ k, k < cs.size → (W.cell? ⟨b, k, none⟩).isSome = true := fun W cs hW k hk => by
    rw [cell_of_row W b k cs 139 (0, 0) hW]; simp [hk]
  have hmul : ∀ a b : Nat, a ≤ b → a * 4 ≤ b * 4 := fun a b h => Nat.mul_le_mul_right _ h
  have hg1 : w.drew.heap[b]? = some (.cells cur 139 (0, 0)) := hg
  have hcp1 : ∀ ty dc sc, (Builtin.copy_ #[108, 108] ty #[.slice (some ⟨b, (i + m) * 4, none⟩) (n + m - (i + m)) dc, .slice (some ⟨b, i * 4, none⟩) (n + m - i) sc]).run Tryz.prog w.drew = .ok (goInt ((n - i : Nat) : Int)) (w.drew.setCells b ((i + m) * 4) (xs.drop (i * 4))) := fun ty dc sc =>
    run_copy_s w.drew _ _ ty 139 4 b ((i + m) * 4) (n + m - (i + m)) dc ⟨b, i * 4, none⟩ (n + m - i) sc (xs.drop (i * 4)) (n - i) insMv_und hsz (by simp only [Nat.min_def]; split <;> omega) hdl
      (fun j v hj => by
        rw [Addr.add_lit, cell_of_row _ b _ cur 139 (0, 0) hg1]
        rw [List.getElem?_drop, ← htk, List.getElem?_take] at hj
        split at hj
        · rw [← Array.getElem?_toList]; exact hj
        · cases hj)
      (fun j hj => hsp _ cur hg1 _ (by rw [hdl] at hj; rw [hcs]; have := hmul (n + m) c hroom; rw [Nat.add_mul] at this; rw [Nat.sub_mul] at hj; have := hmul i n hin; rw [Nat.add_mul]; omega)) (fun j hj => hfz _ cur hg1 _) (fun v hv => h1c v (List.mem_of_mem_drop hv))
  obtain ⟨W1, hW1⟩ : ∃ W1, W1 = w.drew.setCells b ((i + m) * 4) (xs.drop (i * 4)) := ⟨_, rfl⟩
  have hg2 : W1.heap[b]? = some (.cells (setR cur ((i + m) * 4) (xs.drop (i * 4))) 139 (0, 0)) := by rw [hW1]; exact setCells_blk _ _ _ _ hg1
  have hcp2 : ∀ (W : World), W.heap = W1.heap → ∀ ty dc, (Builtin.copy_ #[108, 108] ty #[.slice (some ⟨b, i * 4, none⟩) (n + m - i) dc, .slice (some ⟨vb, vo, none⟩) m vc]).run Tryz.prog W = .ok (goInt m) (W.setCells b (i * 4) ys) := fun W hWh ty dc =>
    run_copy_s W _ _ ty 139 4 b (i * 4) (n + m - i) dc ⟨vb, vo, none⟩ m vc ys m insMv_und hsz (by simp only [Nat.min_def]; split <;> omega) hvl
      (fun j v hj => by
        have e1 : W.cell? (({ block := vb, off := vo } : Addr).add j) = W1.cell? (({ block := vb, off := vo } : Addr).add j) := World.cell?_of_block (by rw [hWh])
        rw [e1, hW1, Addr.add_lit, World.cell?_setCells_out b _ _ _ _ (fun h _ => absurd h hvb)]
        exact hvs j v hj)
      (fun j hj => hsp W _ (by rw [hWh]; exact hg2) _ (by rw [setR_size, hcs]; rw [hvl] at hj; have := hmul (i + m) c (by omega); rw [Nat.add_mul] at this; omega)) (fun j hj => hfz W _ (by rw [hWh]; exact hg2) _) h1v
  rw [← hW1] at hcp1
  clear hg2 hg1 hsp hfz hmul htk hcs hg hA hA0 h1c hcl
  go_enter Tryz.func101, Tryz.ntmps101
  go_wp2_with (simp only [hov])
  go_region_law_o (refine step_copy_run rfl _ _ 108 108 rfl _ _ (by simp [Act.eval, Act.put]) (by simp [Act.eval, Act.put]) (hcp1 _ _ _) ?_)
  go_wp2_with (at_builtin; refine wpList_copy_run _ rfl _ _ 108 108 rfl _ _ rfl rfl (hcp2 _ rfl _ _) ?_)
  go_ret
  first | exact ⟨rfl, rfl⟩ | exact ⟨rfl, by rw [hW1]⟩
/-- Into a new row. -/
theorem insMv_grow (b n c i vb vo m vc : Nat) (xs ys : List Value) (cur : Array Value) (w : World) (hi : i < n) (hm : 0 < m) (hnc : n ≤ c) (hroom : c < n + m) (hbig : (n + m) * 32 ≤ 140737488355328)
    (hcl : xs.length = n * 4) (hvl : ys.length = m * 4) (hg : w.heap[b]? = some (.cells cur 139 (0, 0))) (hcs : cur.size = c * 4) (htk : cur.toList.take (n * 4) = xs)
    (hvs : ∀ j v, ys[j]? = some v → w.cell? ⟨vb, vo + j, none⟩ = some v) (h1c : ∀ v ∈ xs, v.oneCell' = true) (h1v : ∀ v ∈ ys, v.oneCell' = true) :
    ∃ (G : Nat) (ROW : Array Value) (W : World), n + m ≤ G ∧ G ≤ maxLen ∧ ROW.size = G * 4 ∧ ROW.toList.take (i * 4) = xs.take (i * 4) ∧ W.heap = (w.alloc (.cells ROW 139)).heap ∧ W.os = w.os ∧ W.tape = w.tape ∧ W.output = w.output ∧ w.drawn ≤ W.drawn ∧
    Calls Tryz.prog 101 #[.slice (some ⟨b, 0, none⟩) n c, .int .i64 i, .slice (some ⟨vb, vo, none⟩) m vc] w fun e w' =>
      e = .returned (.slice (some ⟨w.heap.size, 0, none⟩) (n + m) G) ∧ w' = ((W.setCells w.heap.size (i * 4) ys).drew).setCells w.heap.size ((i + m) * 4) (xs.drop (i * 4)) := by
  have mixed : Tryz.prog.follows .mixedOrders = true := by kernel_rfl
  obtain ⟨i0, hi0, hz0, hzs, hzb⟩ : ∃ i0, Tryz.prog.info? 139 = some i0 ∧ i0.zero = some (.agg #[.int .i64 0, .int .i64 0, .bool false, .int .i64 0]) ∧ i0.size = 4 ∧ i0.bytes = 32 := by
    have := insMv_info
    cases hq : Tryz.prog.info? 139 with
    | none => rw [hq] at this; cases this
    | some i0 => rw [hq] at this; simp at this; exact ⟨i0, rfl, this.1, this.2.1, this.2.2⟩
  have hz1 : ¬ ((m : Int) = 0) := by omega
  have hz2 : ¬ ((i : Int) = (n : Int)) := by omega
  have hz3 : (c : Int) < (n : Int) + (m : Int) := by omega
  have hsz : (Tryz.prog.info? 139).map (·.size) = some 4 := by kernel_rfl
  have hbw : b < w.heap.size := (Array.getElem?_eq_some_iff.1 hg).1
  have hvw : vb < w.heap.size := block_lt_of_cell (hvs 0 _ (List.getElem?_eq_getElem (by omega)))
  have hkk : (n : Int) + (m : Int) - (i : Int) = ((n + m - i : Nat) : Int) := by omega
  have hik : i + (n + m - i) = n + m := by omega
  have hmul : ∀ a b : Nat, a ≤ b → a * 4 ≤ b * 4 := fun a b h => Nat.mul_le_mul_right _ h
  have hget : ∀ (W : World), W.heap = w.heap → ∀ j v, xs[j]? = some v → W.cell? ⟨b, j, none⟩ = some v := fun W hW j v hj => by
    rw [cell_of_row W b j cur 139 (0, 0) (by rw [hW]; exact hg)]
    rw [← htk, List.getElem?_take] at hj
    split at hj
    · rw [← Array.getElem?_toList]; exact hj
    · cases hj
  have hold : (Builtin.firstCells i0.size i (.slice (some ⟨b, 0, none⟩) i c)).run Tryz.prog w.drew = .ok (xs.take (i * 4)).toArray w.drew := by
    rw [hzs]
    exact run_firstCells_some w.drew 4 i ⟨b, 0, none⟩ i c (xs.take (i * 4)) (by rw [List.length_take, hcl]; have := hmul i n (by omega); omega) (fun j v hj => by
      rw [Addr.add_lit, Nat.zero_add]
      rw [List.getElem?_take] at hj
      split at hj
      · exact hget w.drew rfl j v hj
      · cases hj)
  have hrz : ∀ ty, (Builtin.append_ #[108, 3] ty #[.slice (some ⟨b, 0, none⟩) i c, .int .i64 ((n : Int) + (m : Int) - (i : Int))]).run Tryz.prog w =
      .ok (.slice (some ⟨w.heap.size, 0, none⟩) (n + m) (grownCap w (n + m) c 139)) (w.drew.alloc (.cells ((xs.take (i * 4)).toArray ++ Builtin.zeroCells (.agg #[.int .i64 0, .int .i64 0, .bool false, .int .i64 0] : Value).cells (n + m - i) ++ Builtin.zeroCells (.agg #[.int .i64 0, .int .i64 0, .bool false, .int .i64 0] : Value).cells (grownCap w (n + m) c 139 - (n + m))) 139)) := fun ty => by
    have h := Lib.run_append_grow_zeros w 108 3 ty 139 i0 _ .i64 .i64 insMv_und (by kernel_rfl) hi0 hz0 (some ⟨b, 0, none⟩) i c (xs.take (i * 4)) hold (n + m - i) (by omega) (by omega) (by omega) (by omega) (by rw [hzb]; omega) (by rw [hzb, hik]; exact growslice_fits hroom hbig)
    rw [hik] at h
    rw [hkk]
    exact h
  obtain ⟨G, hG⟩ : ∃ G, G = grownCap w (n + m) c 139 := ⟨_, rfl⟩
  obtain ⟨ROW, hROW⟩ : ∃ ROW : Array Value, ROW = (xs.take (i * 4)).toArray ++ Builtin.zeroCells (.agg #[.int .i64 0, .int .i64 0, .bool false, .int .i64 0] : Value).cells (n + m - i) ++ Builtin.zeroCells (.agg #[.int .i64 0, .int .i64 0, .bool false, .int .i64 0] : Value).cells (G - (n + m)) := ⟨_, rfl⟩
  rw [← hG] at hrz
  rw [← hROW] at hrz
  have hGn : n + m ≤ G := by rw [hG]; exact grownCap_ge w _ _ _
  have hGm : G ≤ maxLen := by rw [hG]; exact grownCap_le_maxLen w (n + m) c 139 (by unfold maxLen; omega)
  have htl : (xs.take (i * 4)).length = i * 4 := by rw [List.length_take, hcl]; have := hmul i n (by omega); omega
  have hRl : ROW.size = G * 4 := by
    rw [hROW]
    simp only [Array.size_append, List.size_toArray, htl, Builtin.zeroCells, Value.cells, Array.size_map, Array.size_range]
    show i * 4 + (n + m - i) * 4 + (G - (n + m)) * 4 = G * 4
    rw [← Nat.add_mul, ← Nat.add_mul]; congr 1; omega
  have hRt : ROW.toList.take (i * 4) = xs.take (i * 4) := by
    rw [hROW]
    simp only [Array.toList_append, List.append_assoc]
    exact List.take_left' htl
  obtain ⟨W1, hW1⟩ : ∃ W1, W1 = w.drew.alloc (.cells ROW 139) := ⟨_, rfl⟩
  rw [← hW1] at hrz
  have hN0 : W1.heap[w.heap.size]? = some (.cells ROW 139 (0, 0)) := by rw [hW1]; show (w.heap.push _)[w.heap.size]? = _; simp
  have hold2 : ∀ k, k < w.heap.size → W1.heap[k]? = w.heap[k]? := fun k hk => by rw [hW1]; show (w.heap.push _)[k]? = _; rw [Array.getElem?_push, if_neg (by omega)]
  have hfz : ∀ (W : World) (cs : Array Value), W.heap[w.heap.size]? = some (.cells cs 139 (0, 0)) → ∀ k, W.frozen? ⟨w.heap.size, k, none⟩ = false := fun W cs hW k => by simp [World.frozen?, hW]
  have hsp : ∀ (W : World) (cs : Array Value), W.heap[w.heap.size]? = some (.cells cs 139 (0, 0)) → ∀ k, k < cs.size → (W.cell? ⟨w.heap.size, k, none⟩).isSome = true := fun W cs hW k hk => by
    rw [cell_of_row W w.heap.size k cs 139 (0, 0) hW]; simp [hk]
  have hcpA : ∀ (W : World), W.heap = W1.heap → ∀ ty dc, (Builtin.copy_ #[108, 108] ty #[.slice (some ⟨w.heap.size, i * 4, none⟩) (n + m - i) dc, .slice (some ⟨vb, vo, none⟩) m vc]).run Tryz.prog W = .ok (goInt m) (W.setCells w.heap.size (i * 4) ys) := fun W hWh ty dc =>
    run_copy_s W _ _ ty 139 4 w.heap.size (i * 4) (n + m - i) dc ⟨vb, vo, none⟩ m vc ys m insMv_und hsz (by simp only [Nat.min_def]; split <;> omega) hvl
      (fun j v hj => by
        have e1 : W.cell? (({ block := vb, off := vo } : Addr).add j) = w.cell? (({ block := vb, off := vo } : Addr).add j) := World.cell?_of_block (by rw [hWh, Addr.add_lit]; exact hold2 vb hvw)
        rw [e1, Addr.add_lit]
        exact hvs j v hj)
      (fun j hj => hsp W _ (by rw [hWh]; exact hN0) _ (by rw [hRl]; rw [hvl] at hj; have := hmul (i + m) G (by omega); rw [Nat.add_mul] at this; omega)) (fun j hj => hfz W _ (by rw [hWh]; exact hN0) _) h1v
  have hG63 : G ≤ 9223372036854775807 := hGm
  have hGi : ¬ (G = i) := by omega
  have hGim : ¬ (G = i + m) := by omega
  have hci : ¬ (c = i) := by omega
  have hbN : b ≠ w.heap.size := by omega
  have hdl : (xs.drop (i * 4)).length = (n - i) * 4 := by rw [List.length_drop, hcl, Nat.sub_mul]
  have hN1 : ∀ W : World, W.heap = W1.heap → (W.setCells w.heap.size (i * 4) ys).heap[w.heap.size]? = some (.cells (setR ROW (i * 4) ys) 139 (0, 0)) := fun W hW => setCells_blk _ _ _ _ (by rw [hW]; exact hN0)
  have hcpB : ∀ (W W2 : World), W.heap = W1.heap → W2.heap = (W.setCells w.heap.size (i * 4) ys).heap → ∀ ty dc sc, (Builtin.copy_ #[108, 108] ty #[.slice (some ⟨w.heap.size, (i + m) * 4, none⟩) (n + m - (i + m)) dc, .slice (some ⟨b, i * 4, none⟩) (n - i) sc]).run Tryz.prog W2 = .ok (goInt ((n - i : Nat) : Int)) (W2.setCells w.heap.size ((i + m) * 4) (xs.drop (i * 4))) := fun W W2 hWh hW2 ty dc sc =>
    run_copy_s W2 _ _ ty 139 4 w.heap.size ((i + m) * 4) (n + m - (i + m)) dc ⟨b, i * 4, none⟩ (n - i) sc (xs.drop (i * 4)) (n - i) insMv_und hsz (by simp only [Nat.min_def]; split <;> omega) hdl
      (fun j v hj => by
        have hbS : b < W.heap.size := by rw [hWh, hW1]; show b < (w.heap.push _).size; simp; omega
        have e1 : W2.heap[b]? = w.heap[b]? := by rw [hW2, World.heap_setCells_other W w.heap.size _ _ hbS hbN, hWh]; exact hold2 b hbw
        rw [Addr.add_lit, cell_of_row W2 b _ cur 139 (0, 0) (by rw [e1]; exact hg)]
        rw [List.getElem?_drop, ← htk, List.getElem?_take] at hj
        split at hj
        · rw [← Array.getElem?_toList]; exact hj
        · cases hj)
      (fun j hj => hsp W2 _ (by rw [hW2]; exact hN1 W hWh) _ (by rw [setR_size, hRl]; rw [hdl, Nat.sub_mul] at hj; have := hmul (n + m) G hGn; rw [Nat.add_mul] at this; have := hmul i n (by omega); rw [Nat.add_mul]; omega)) (fun j hj => hfz W2 _ (by rw [hW2]; exact hN1 W hWh) _) (fun v hv => h1c v (List.mem_of_mem_drop hv))
  have hw1 : IntKind.i64.wrap ((i : Int) + (m : Int)) = (i : Int) + (m : Int) := by rw [IntKind.wrap_i64]; omega
  have hb1 : (0 : Int) ≤ (i : Int) + (m : Int) := by omega
  have hin : i ≤ n := by omega
  have htn : ((i : Int) + (m : Int)).toNat = i + m := by omega
  have hb3 : (i : Int) ≤ (n : Int) := by omega
  refine ⟨G, ROW, (w.alloc (.cells ROW 139)).drew, hGn, hGm, hRl, hRt, rfl, rfl, rfl, rfl, Nat.le_succ _, ?_⟩
  subst hW1
  have hE : ((w.alloc (.cells ROW 139)).drew).heap = (w.drew.alloc (.cells ROW 139)).heap := rfl
  have hF : (((w.alloc (.cells ROW 139)).drew.setCells w.heap.size (i * 4) ys).drew).heap = ((w.alloc (.cells ROW 139)).drew.setCells w.heap.size (i * 4) ys).heap := rfl
  clear hkk hik hold hROW hG hRl hRt hN0 hN1 hold2 hfz hsp hmul hget hg htk hcs h1c hcl htl
  go_enter Tryz.func101, Tryz.ntmps101
  go_wp2_with (first
    | (at_builtin; refine Lib.wpList_append_run _ rfl _ _ _ _ rfl _ _ rfl rfl _ _ (hrz _) ?_)
    | (at_builtin; refine wpList_copy_run _ rfl _ _ 108 108 rfl _ _ rfl rfl (hcpA _ hE _ _) ?_))
  go_region_law_o (refine step_copy_run rfl _ _ 108 108 rfl (.slice (some ⟨w.heap.size, (i + m) * 4, none⟩) (n + m - (i + m)) (G - (i + m))) (.slice (some ⟨b, i * 4, none⟩) (n - i) (c - i)) (by simp [Act.eval, Act.put]) (by simp [Act.eval, Act.put]) (hcpB _ _ hE hF 3 (G - (i + m)) (c - i)) ?_)
  go_wp2
  go_ret
  exact ⟨rfl, rfl⟩
theorem insMv (L Y : List (List AV)) (i : Nat) (hi : i ≤ L.length) (hY : 0 < Y.length) (hf : ∀ y ∈ Y, ∀ z ∈ y, z.flat) (hbig : (L.length + Y.length) * 32 ≤ 140737488355328) :
    FnU Tryz.prog 101 139 4 (.sl 4 L) [.int i, .sl 4 Y] true (.sl 4 (L.take i ++ (Y ++ L.drop i))) := by
  refine ⟨Tryz.call101, ?_⟩
  intro w ok B okc v0 cargs hrow hokc hok hB hgl hsz hargs
  have h0 := hargs 0 (by simp)
  have h1 := hargs 1 (by simp)
  obtain ⟨vy, hc0, hvy⟩ : ∃ vy, cargs = #[.int .i64 i, vy] ∧ RV w ok (.sl 4 Y) vy := by
    have hsz2 : cargs.size = 2 := by simpa using hsz
    obtain ⟨l⟩ := cargs
    match l, hsz2 with
    | [a, b], _ =>
      have e0 : a = .int .i64 i := RV.lit_iff.1 (by simpa using h0)
      exact ⟨b, by rw [e0], by simpa using h1⟩
  subst hc0
  clear hargs h0 h1 hsz
  obtain ⟨vb, vo, vc, ys, rfl, hvok, hvlt, hvc, hvcm, hys, hycell⟩ := cells_flat (okc := okc) hvy hf hY
  have hvb := (hok vb hvok).1
  obtain ⟨L', xs, e1, hs, hL, ho, hone, hv⟩ := hrow
  injection e1 with _ e1
  subst e1
  have hC : CellsOf w okc 4 L xs := ⟨ho.1, hL, hone, hv⟩
  by_cases hin : i = L.length
  · subst hin
    obtain ⟨i0, hi0, hz0, hzs, hzb⟩ : ∃ i0, Tryz.prog.info? 139 = some i0 ∧ i0.zero = some (.agg #[.int .i64 0, .int .i64 0, .bool false, .int .i64 0]) ∧ i0.size = 4 ∧ i0.bytes = 32 := by
      have := insMv_info
      cases hq : Tryz.prog.info? 139 with
      | none => rw [hq] at this; cases this
      | some i0 => rw [hq] at this; simp at this; exact ⟨i0, rfl, this.1, this.2.1, this.2.2⟩
    obtain ⟨v', w', hrun, h2, h3, _, h5⟩ := run_append_own_at (P := Tryz.prog) w B 108 108 139 i0 _ 4 32 insMv_und hi0 hz0 hzs hzb (by simp [Value.cells]) hs v0 L.length xs ho ⟨vb, vo, none⟩ Y.length vc ys hys.len (fun j u hj => by rw [Addr.add_lit]; exact hycell j u hj) hys.one (by unfold maxLen; omega) hbig hB
    have hform : ∃ A c, v0 = .slice A L.length c ∧ L.length ≤ c ∧ c ≤ maxLen := by
      rcases ho.2 with ⟨rfl, hn0⟩ | ⟨g, cap, cur, rfl, _, _, hnc, hm, _⟩
      · exact ⟨none, 0, by rw [hn0], by omega, by unfold maxLen; omega⟩
      · exact ⟨_, _, rfl, hnc, hm⟩
    obtain ⟨A, c, rfl, hnc, hcm⟩ := hform
    refine (insMv_end A L.length c vb vo Y.length vc hY hnc hcm w w' v' hrun).mono ?_
    rintro e W ⟨rfl, rfl⟩
    have hC2 : CellsOf W okc 4 (L ++ Y) (xs ++ ys) := (hC.app hys).mono fun b hb hlt => ⟨hb, h3.block b hlt fun e => (hokc b hb).1 e.symm⟩
    refine ⟨v', rfl, h3, ?_, by simp, fun g hg => ?_, run_drawn _ hrun⟩
    · rw [List.take_length, List.drop_length, List.append_nil]
      exact ⟨_, _, rfl, hs, hC2.each, by rw [List.length_append]; exact h2, hC2.one, hC2.val⟩
    · rcases h5 with q | q
      · left; rw [← q]; exact hg
      · right; rw [q] at hg; injection hg with hg; omega
  have hlt : i < L.length := by omega
  rcases ho.2 with ⟨rfl, hn0⟩ | ⟨g, cap, cur, rfl, hBg, hg, hnc, hm, hcs, htk⟩
  · omega
  have hvg : vb ≠ g := fun e => hvb (by rw [e]; rfl)
  have hlen : (L.take i ++ (Y ++ L.drop i)).length = L.length + Y.length := by simp; omega
  have hC2 : CellsOf w okc 4 (L.take i ++ (Y ++ L.drop i)) (xs.take (i * 4) ++ (ys ++ xs.drop (i * 4))) := (hC.take i hi).app (hys.app (hC.drop i))
  have hmul : ∀ a b : Nat, a ≤ b → a * 4 ≤ b * 4 := fun a b h => Nat.mul_le_mul_right _ h
  have his := hmul i L.length hi
  have hxt : (xs.take (i * 4)).length = i * 4 := by rw [List.length_take, ho.1]; omega
  have hxd : (xs.drop (i * 4)).length = (L.length - i) * 4 := by rw [List.length_drop, ho.1, Nat.sub_mul]
  -- what the two writes leave
  have key : ∀ (cap' : Nat) (C : Array Value), C.size = cap' * 4 → L.length + Y.length ≤ cap' → C.toList.take (i * 4) = xs.take (i * 4) →
      (setR (setR C (i * 4) ys) ((i + Y.length) * 4) (xs.drop (i * 4))).toList.take ((L.length + Y.length) * 4) = xs.take (i * 4) ++ (ys ++ xs.drop (i * 4)) := by
    intro cap' C hCs hcap hCt
    have q0 := hmul (L.length + Y.length) cap' hcap
    rw [Nat.add_mul] at q0
    have q2 : (L.length - i) * 4 = L.length * 4 - i * 4 := Nat.sub_mul _ _ _
    rw [setR_list _ _ _ (by rw [setR_size, hCs, hxd, Nat.add_mul]; omega), setR_list _ _ _ (by rw [hCs, hys.len]; omega), hCt, hys.len, Nat.add_mul i Y.length]
    have e1 : ((xs.take (i * 4) ++ ys ++ C.toList.drop (i * 4 + Y.length * 4)).take (i * 4 + Y.length * 4)) = xs.take (i * 4) ++ ys := List.take_left' (by rw [List.length_append, hxt, hys.len])
    rw [e1, List.append_assoc (xs.take (i * 4)) ys]
    exact List.take_left' (by rw [List.length_append, List.length_append, hxt, hys.len, hxd, Nat.add_mul]; omega)
  have key2 : ∀ (cap' : Nat) (C : Array Value), C.size = cap' * 4 → L.length + Y.length ≤ cap' → C.toList.take (i * 4) = xs.take (i * 4) →
      (setR (setR C ((i + Y.length) * 4) (xs.drop (i * 4))) (i * 4) ys).toList.take ((L.length + Y.length) * 4) = xs.take (i * 4) ++ (ys ++ xs.drop (i * 4)) := by
    intro cap' C hCs hcap hCt
    have q0 := hmul (L.length + Y.length) cap' hcap
    rw [Nat.add_mul] at q0
    have q2 : (L.length - i) * 4 = L.length * 4 - i * 4 := Nat.sub_mul _ _ _
    rw [setR_list _ _ _ (by rw [setR_size, hCs, hys.len]; omega), setR_list _ _ _ (by rw [hCs, hxd, Nat.add_mul]; omega), hys.len, Nat.add_mul i Y.length]
    have hl1 : (C.toList.take (i * 4 + Y.length * 4)).length = i * 4 + Y.length * 4 := by rw [List.length_take, show C.toList.length = C.size from Array.length_toList, hCs]; omega
    have e1 : (C.toList.take (i * 4 + Y.length * 4) ++ xs.drop (i * 4) ++ C.toList.drop (i * 4 + Y.length * 4 + (xs.drop (i * 4)).length)).take (i * 4) = xs.take (i * 4) := by
      rw [List.append_assoc, List.take_append_of_le_length (by rw [hl1]; omega), List.take_take, Nat.min_eq_left (by omega), hCt]
    have e2 : (C.toList.take (i * 4 + Y.length * 4) ++ xs.drop (i * 4) ++ C.toList.drop (i * 4 + Y.length * 4 + (xs.drop (i * 4)).length)).drop (i * 4 + Y.length * 4) = xs.drop (i * 4) ++ C.toList.drop (i * 4 + Y.length * 4 + (xs.drop (i * 4)).length) := by
      rw [List.append_assoc]; exact List.drop_left' hl1
    rw [e1, e2, List.append_assoc (xs.take (i * 4)) ys, ← List.append_assoc ys, ← List.append_assoc (xs.take (i * 4))]
    exact List.take_left' (by rw [List.length_append, List.length_append, hxt, hys.len, hxd, Nat.add_mul]; omega)
  have hct : cur.toList.take (i * 4) = xs.take (i * 4) := by rw [← htk, List.take_take, Nat.min_eq_left his]
  by_cases hroom : L.length + Y.length ≤ cap
  · refine (insMv_shift g L.length cap i vb vo Y.length vc xs ys cur w hlt hY hroom hm hvg ho.1 hys.len hg hcs htk hycell hone hys.one).mono ?_
    rintro e w' ⟨rfl, rfl⟩
    have hg2 : ((w.drew.setCells g ((i + Y.length) * 4) (xs.drop (i * 4))).setCells g (i * 4) ys).heap[g]? = some (.cells (setR (setR cur ((i + Y.length) * 4) (xs.drop (i * 4))) (i * 4) ys) 139 (0, 0)) := setCells_blk _ _ _ _ (setCells_blk _ _ _ _ hg)
    have hgr : w.grownBy ((w.drew.setCells g ((i + Y.length) * 4) (xs.drop (i * 4))).setCells g (i * 4) ys) (some g) := grownBy_trans (grownBy_drew w (some g)) (grownBy_trans (grown_setCells _ _ _ _) (grown_setCells _ _ _ _))
    refine ⟨_, rfl, hgr, ?_, by simp, fun g' hg' => .inl hg', by rw [setCells_drawn, setCells_drawn]; exact Nat.le_succ _⟩
    have hC3 := hC2.mono (w' := (w.drew.setCells g ((i + Y.length) * 4) (xs.drop (i * 4))).setCells g (i * 4) ys) (okc' := okc) fun b hb hlt => ⟨hb, hgr.block b hlt fun e => (hokc b hb).1 e.symm⟩
    rw [← hlen]
    exact hC3.row hs hBg hg2 hm (by rw [setR_size, setR_size]; exact hcs) (by rw [hlen]; exact hroom) (by rw [hlen]; exact key2 cap cur hcs hroom hct)
  · obtain ⟨G, ROW, W, hGn, hGm, hRs, hRt, hWh, hWo, hWt, hWp, hWd, hcall⟩ := insMv_grow g L.length cap i vb vo Y.length vc xs ys cur w hlt hY hnc (by omega) hbig ho.1 hys.len hg hcs htk hycell hone hys.one
    refine hcall.mono ?_
    rintro e w' ⟨rfl, rfl⟩
    have hWs : W.heap.size = w.heap.size + 1 := by rw [hWh]; show (w.heap.push _).size = _; simp
    have hW0 : W.heap[w.heap.size]? = some (.cells ROW 139 (0, 0)) := by rw [hWh]; show (w.heap.push _)[w.heap.size]? = _; simp
    have hg2 : (((W.setCells w.heap.size (i * 4) ys).drew).setCells w.heap.size ((i + Y.length) * 4) (xs.drop (i * 4))).heap[w.heap.size]? = some (.cells (setR (setR ROW (i * 4) ys) ((i + Y.length) * 4) (xs.drop (i * 4))) 139 (0, 0)) := setCells_blk _ _ _ _ (setCells_blk _ _ _ _ hW0)
    have hgW : W.grownBy (((W.setCells w.heap.size (i * 4) ys).drew).setCells w.heap.size ((i + Y.length) * 4) (xs.drop (i * 4))) (some w.heap.size) := grownBy_trans (grown_setCells _ _ _ _) (grownBy_trans (grownBy_drew _ _) (grown_setCells _ _ _ _))
    have hblk : ∀ k, k < w.heap.size → (((W.setCells w.heap.size (i * 4) ys).drew).setCells w.heap.size ((i + Y.length) * 4) (xs.drop (i * 4))).heap[k]? = w.heap[k]? := fun k hk => by
      rw [hgW.block k (by omega) (fun e => by injection e with e; omega), hWh]
      show (w.heap.push _)[k]? = _
      rw [Array.getElem?_push, if_neg (by omega)]
    refine ⟨_, rfl, ⟨hgW.os.trans hWo, hgW.tape.trans hWt, hgW.output.trans hWp, Nat.le_trans (by omega) hgW.size, fun k hk _ => hblk k hk⟩, ?_, by simp, fun g' hg' => .inr (by have e : w.heap.size = g' := (by injection hg'); omega), by rw [setCells_drawn]; show w.drawn ≤ (W.setCells w.heap.size _ ys).drawn + 1; rw [setCells_drawn]; omega⟩
    have hC3 := hC2.mono (w' := ((W.setCells w.heap.size (i * 4) ys).drew).setCells w.heap.size ((i + Y.length) * 4) (xs.drop (i * 4))) (okc' := okc) fun b hb hlt => ⟨hb, hblk b hlt⟩
    rw [← hlen]
    exact hC3.row hs hB hg2 hGm (by rw [setR_size, setR_size]; exact hRs) (by rw [hlen]; exact hGn) (by rw [hlen]; exact key G ROW hRs hGn hRt)
end Go.Proofs.YtcifjnhpgblnkaaGreatDoor
