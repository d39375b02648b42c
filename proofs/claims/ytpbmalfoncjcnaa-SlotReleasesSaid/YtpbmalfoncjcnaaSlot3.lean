/- The specified slots. -/
import Derived.Test.YtpbmalfoncjcnaaSlot2
namespace Go.Proofs.Ytpbmalfoncjcnaa
open Go.RowKit
set_option linter.unusedVariables false
set_option linter.unusedSimpArgs false
set_option maxRecDepth 100000
def srvG (l : List Dm) : Nat → Nat → List Dm → Nat
  | b, _, [] => b
  | b, n, x :: r => srvG l (if klt (kM x) (kM (l.getD b default)) then n else b) (n + 1) r
def srv (l : List Dm) : Nat := srvG l 0 0 l
theorem srvG_spec {l : List Dm} : ∀ {rest : List Dm} {b n : Nat}, l.drop n = rest → b < l.length → (∀ k x, k < n → l[k]? = some x → ¬ klt (kM x) (kM (l.getD b default))) → srvG l b n rest < l.length ∧ ∀ x ∈ l, ¬ klt (kM x) (kM (l.getD (srvG l b n rest) default))
  | [], b, n, hd, hb, hm => by
    refine ⟨hb, fun x hx => ?_⟩
    obtain ⟨k, hk, e⟩ := List.mem_iff_getElem.1 hx
    have : l.length ≤ n := by have := congrArg List.length hd; simp at this; omega
    exact hm k x (by omega) (by rw [List.getElem?_eq_getElem hk, e])
  | x :: r, b, n, hd, hb, hm => by
    have hn : n < l.length := by have := congrArg List.length hd; simp at this; omega
    have hx : l[n]? = some x := by
      have h1 : (l.drop n)[0]? = some x := by rw [hd]; rfl
      simpa using h1
    have hr : l.drop (n + 1) = r := by
      have h1 := congrArg List.tail hd
      simpa [List.tail_drop] using h1
    have hg : l.getD n default = x := by rw [List.getD_eq_getElem?_getD, hx]; rfl
    rw [srvG]
    refine srvG_spec hr (by split <;> omega) fun k y hk hy => ?_
    by_cases q : klt (kM x) (kM (l.getD b default))
    · rw [if_pos q, hg]
      by_cases e : k = n
      · subst e; rw [hx] at hy; injection hy with hy; subst hy; exact klt_irr _
      · exact fun q2 => hm k y (by omega) hy (klt_tr q2 q)
    · rw [if_neg q]
      by_cases e : k = n
      · subst e; rw [hx] at hy; injection hy with hy; subst hy; exact q
      · exact hm k y (by omega) hy
theorem srv_spec {l : List Dm} (h : 0 < l.length) : ∃ x, l[srv l]? = some x ∧ ∀ z ∈ l, ¬ klt (kM z) (kM x) := by
  obtain ⟨h1, h2⟩ := srvG_spec (l := l) (rest := l) (b := 0) (n := 0) rfl h (fun k x hk => absurd hk (by omega))
  refine ⟨l.getD (srv l) default, ?_, h2⟩
  have h1' : srv l < l.length := h1
  rw [List.getD_eq_getElem?_getD, List.getElem?_eq_getElem h1']; rfl
theorem served_fn (l : List Dm) (hl : l.length ≤ 1000) : Fn Try.prog 52 [dms l] .sc (.int (srv l : Nat)) := by
  refine fn_run mixed 3 (Γ := SlotF.Γ) (ann := SlotF.ann) Try.func52 rfl Try.call52 ((SlotF.served_form _ _).mpr ?_)
  simp
  refine loop_list (σ := Nat) l (fun n b => [.int (b : Nat), .int (n : Nat)]) (fun n rest b => srv l = srvG l b n rest ∧ (0 < l.length → b < l.length)) 0 rfl ⟨rfl, fun h => h⟩ ?_ ?_
  · rintro n x rest b K hx hr hn ⟨hg, hb⟩ hK
    have hb := hb (by omega)
    have hw2 : IntKind.i64.wrap ((n : Int) + 1) = (n : Int) + 1 := wrap64 (by omega) (by omega)
    obtain ⟨y, hy⟩ : ∃ y, l[b]? = some y := ⟨_, List.getElem?_eq_getElem hb⟩
    have hgb : l.getD b default = y := by rw [List.getD_eq_getElem?_getD, hy]; rfl
    rw [srvG, hgb] at hg
    have gY : klt (kM x) (kM y) → K [.int (n : Nat), .int ((n : Nat) + 1)] := fun q => hK _ n (by simp) ⟨by rw [hg, if_pos q], fun _ => hn⟩
    have gN : ¬ klt (kM x) (kM y) → K [.int (b : Nat), .int ((n : Nat) + 1)] := fun q => hK _ b (by simp) ⟨by rw [hg, if_neg q], fun _ => hb⟩
    unfold klt kM at gY gN
    simp only at gY gN
    clear hg hK hgb
    simp [hn, hb, lst_atAgg hx, lst_atAgg hy, encM, hw2]
    (repeat' (first | exact trivial | (with_reducible intro hw; (try simp (disch := omega) only [wrap64] at hw); first | (exfalso; omega; done) | skip) | (with_reducible refine And.intro ?_ ?_) | omega | assumption))
    all_goals first
      | exact gY (.inl (by omega))
      | exact gY (.inr ⟨by omega, by assumption⟩)
      | exact gN (fun q => by rcases q with q | ⟨q1, q2⟩ <;> first | omega | exact absurd q2 (by assumption) | exact absurd q2 (List.not_lt.2 (by assumption)))
  · rintro b K ⟨hg, _⟩
    simp [hg, srvG]
/-! ### the search for a capacity -/
def scanG (u : Nat → Int) (t : Int) : Int → Nat → List Cp → Int
  | a, _, [] => a
  | a, n, x :: r => scanG u t (if a < 0 ∧ Cnd u t n x then mxT t x.f else a) (n + 1) r
theorem scan_keep {u : Nat → Int} {t : Int} : ∀ {l : List Cp} {a : Int} {n : Nat}, 0 ≤ a → scanG u t a n l = a
  | [], _, _, _ => rfl
  | x :: r, a, n, h => by rw [scanG, if_neg (fun q => by have := q.1; omega)]; exact scan_keep h
theorem scan_none {u : Nat → Int} {t : Int} : ∀ {l : List Cp} {n : Nat}, pkN u t n l = -1 → scanG u t (-1) n l = -1
  | [], _, _ => rfl
  | x :: r, n, h => by
    rw [pkN] at h
    split at h
    · omega
    · rename_i q
      rw [scanG, if_neg (fun q2 => q q2.2)]
      exact scan_none h
theorem scan_at {u : Nat → Int} {t : Int} (ht : 0 ≤ t) : ∀ {l : List Cp} {n : Nat}, ¬ pkN u t n l < 0 → ∃ k x, pkN u t n l = ((n + k : Nat) : Int) ∧ l[k]? = some x ∧ Cnd u t (n + k) x ∧ scanG u t (-1) n l = mxT t x.f
  | [], _, h => absurd (by show (-1 : Int) < 0; omega) h
  | x :: r, n, h => by
    by_cases q : Cnd u t n x
    · have hm : 0 ≤ mxT t x.f := by unfold mxT; split <;> omega
      exact ⟨0, x, by rw [pkN, if_pos q]; rfl, rfl, q, by rw [scanG, if_pos ⟨by omega, q⟩]; exact scan_keep hm⟩
    · rw [pkN, if_neg q] at h
      obtain ⟨k, y, h1, h2, h3, h4⟩ := scan_at ht h
      refine ⟨k + 1, y, by rw [pkN, if_neg q, h1]; congr 1; omega, by simpa using h2, by rw [show n + (k + 1) = n + 1 + k by omega]; exact h3, by rw [scanG, if_neg (fun q2 => q q2.2)]; exact h4⟩
def slV (p : ByteArray) (l : List Dm) (c : List Cp) : AV := match asgR p l c with
  | none => .tup [.sl 3 [], .int 18]
  | some o => .tup [sos o, .int 0]
theorem slV_no {p : ByteArray} {l : List Dm} {c : List Cp} (h : asgR p l c = none) : slV p l c = .tup [.sl 3 [], .int 18] := by unfold slV; rw [h]
theorem slV_ok {p : ByteArray} {l : List Dm} {c : List Cp} {o : List So} (h : asgR p l c = some o) : slV p l c = .tup [sos o, .int 0] := by unfold slV; rw [h]
theorem slV_asg {p : ByteArray} {l : List Dm} {c : List Cp} (h : sltE p l c = 0) : asgV p l c = slV p l c := by
  cases h0 : asgR p l c with
  | none => rw [asgV_no h h0, slV_no h0]
  | some o => rw [asgV_ok h h0, slV_ok h0]
theorem dms_cut (A B : List Dm) : AV.app 2 (AV.app 2 (.sl 2 []) (dms A)) (dms B) = dms (A ++ B) := by simp [lst, AV.app, AV.els]
theorem slots_fn (p : ByteArray) {l : List Dm} {c : List Cp} (g : GoodM l) (gc : GoodC c) : Fn Try.prog 15 [.string p, dms l, cps c] (.tup [.row 34 3 true, .sc]) (slV p l c) := by
  have e := SlotF.slots_form (.string p) (dms l) (cps c) (slV p l c)
  have k := fun h => fn_run mixed 3 (Γ := SlotF.Γ) (ann := SlotF.ann) Try.func15 rfl Try.call15 (e.mpr h)
  refine k ?_
  clear k e
  have gl := g.len
  have gcl := gc.len
  have hS := srtB_perm kM l
  have hSs := srtB_sorted kM l
  have hR : asgR p l c = asg p c [] (srtB kM l) := rfl
  have hSl : (srtB kM l).length = l.length := hS.length_eq
  generalize srtB kM l = S at *
  have hroom0 : AV.room (.sl 2 []) (dms l) 24 := by unfold AV.room; rw [lst_els]; simp [AV.els]; omega
  simp [hroom0, app_dms]
  refine loop_list (σ := List Dm × List So) S (fun n s => [dms s.1, sos s.2]) (fun n rest s => s.1.Perm rest ∧ (∀ x ∈ s.1, x ∈ l) ∧ asgR p l c = asg p c s.2 rest ∧ s.2.length = n) (l, []) (by simp) ⟨hS.symm, fun _ h => h, hR, rfl⟩ ?_ ?_
  · rintro n y rest ⟨left, o⟩ K hy hr hn ⟨hp, hin, hq, hol⟩ hK
    simp only at hp hin hq hol
    have hll : left.length = rest.length + 1 := hp.length_eq
    have hrl : rest.length + (n + 1) = S.length := by rw [← hr, List.length_drop]; omega
    have hll2 : left.length ≤ 24 := by omega
    have hpos : 0 < left.length := by omega
    obtain ⟨xb, hxb, hmin⟩ := srv_spec hpos
    have hb := (List.getElem?_eq_some_iff.1 hxb).1
    have hxm : xb ∈ left := List.mem_of_getElem? hxb
    have hyr : (y :: rest).Pairwise (fun a b => ¬ klt (kM b) (kM a)) := by
      rw [← drop_cons hy hr]; exact hSs.drop
    have hym : xb = y := least_head kM hp hyr hxm hmin fun a ha b hb e => g.inj a (hin a ha) b (hin b hb) e
    subst hym
    have hp' := cut_perm hxb hp
    have hxt := g.tm xb (hin xb hxm)
    have hw1 : IntKind.i64.wrap (((srv left : Nat) : Int) + 1) = ((srv left : Nat) : Int) + 1 := wrap64 (by omega) (by omega)
    have hroom1 : AV.room (.sl 2 []) (dms (left.take (srv left))) 24 := by unfold AV.room; rw [lst_els]; simp [AV.els]; omega
    have hroom2 : ∀ A B : List Dm, A.length ≤ 24 → B.length ≤ 24 → AV.room (AV.app 2 (.sl 2 []) (dms A)) (dms B) 24 := fun A B h1 h2 => by unfold AV.room; simp [AV.app, AV.els, lst]; omega
    have hroom3 : ∀ q : List (List AV), q.length = 1 → AV.room (sos o) (.sl 3 q) 40 := fun q hq => by unfold AV.room; rw [lst_els]; simp [AV.els, hq]; omega
    have hlen : ((left.length : Nat) : Int).toNat = left.length := by omega
    rw [asg] at hq
    have gNo : scanG (usedN c o) xb.t (-1) 0 c < 0 → .tup [.sl 3 [], .int 18] = slV p l c := fun q => by
      refine (slV_no ?_).symm
      by_cases h : pkN (usedN c o) xb.t 0 c < 0
      · rw [hq, if_pos h]
      · obtain ⟨k, x, _, hx, _, h4⟩ := scan_at hxt.1 h
        rw [h4] at q
        unfold mxT at q
        split at q <;> omega
    have gK : ¬ scanG (usedN c o) xb.t (-1) 0 c < 0 → K [dms (left.take (srv left) ++ left.drop (srv left + 1)), sos (o ++ [⟨xb.c, p, scanG (usedN c o) xb.t (-1) 0 c⟩])] := fun q => by
      by_cases h : pkN (usedN c o) xb.t 0 c < 0
      · rcases pk_spec (u := usedN c o) (t := xb.t) c 0 with ⟨h1, _⟩ | ⟨k, x, h1, _⟩
        · rw [scan_none h1] at q; omega
        · omega
      · obtain ⟨k, x, h1, hx, _, h4⟩ := scan_at hxt.1 h
        rw [if_neg h, h1] at hq
        have : c.getD ((0 + k : Nat) : Int).toNat default = x := by simp [List.getD_eq_getElem?_getD, hx]
        rw [this, ← h4] at hq
        refine hK _ (left.take (srv left) ++ left.drop (srv left + 1), o ++ [⟨xb.c, p, scanG (usedN c o) xb.t (-1) 0 c⟩]) rfl ⟨hp', fun z hz => hin z ?_, hq, by simp [hol]⟩
        rcases List.mem_append.1 hz with q | q
        · exact List.mem_of_mem_take q
        · exact List.mem_of_mem_drop q
    clear hK hq
    simp [hpos]
    refine ⟨_, served_fn left (by omega), ?_⟩
    simp [hb, lst_atAgg hxb, encM, hw1, hroom1, hroom2, hlen]
    refine ⟨by omega, ⟨by omega, by omega⟩, hroom2 _ _ (by simp; omega) (by simp; omega), ?_⟩
    rw [show lst 2 encM (left.take (srv left)) = dms (left.take (srv left)) from rfl, show lst 2 encM (left.drop (srv left + 1)) = dms (left.drop (srv left + 1)) from rfl, dms_cut]
    refine loop_list (σ := Int) c (fun n a => [.int a, .int (n : Nat)]) (fun n rest a => scanG (usedN c o) xb.t (-1) 0 c = scanG (usedN c o) xb.t a n rest) (-1) (by simp) rfl ?_ ?_
    · rintro m x rest' a K' hx hr' hm hg hK'
      have hw2 : IntKind.i64.wrap ((m : Int) + 1) = (m : Int) + 1 := wrap64 (by omega) (by omega)
      rw [scanG] at hg
      have gY1 : a < 0 → usedN c o m < x.m → xb.t < x.t → xb.t < x.f → K' [.int x.f, .int ((m : Nat) + 1)] := fun q1 q2 q3 q4 => hK' _ x.f (by simp) (by rw [hg, if_pos ⟨q1, q2, q3⟩]; unfold mxT; rw [if_pos (by omega)])
      have gY2 : a < 0 → usedN c o m < x.m → xb.t < x.t → ¬ xb.t < x.f → K' [.int xb.t, .int ((m : Nat) + 1)] := fun q1 q2 q3 q4 => hK' _ xb.t (by simp) (by rw [hg, if_pos ⟨q1, q2, q3⟩]; unfold mxT; rw [if_neg (by omega)])
      have gN : ¬ (a < 0 ∧ usedN c o m < x.m ∧ xb.t < x.t) → K' [.int a, .int ((m : Nat) + 1)] := fun q => hK' _ a (by simp) (by rw [hg, if_neg (show ¬ (a < 0 ∧ Cnd (usedN c o) xb.t m x) from q)])
      clear hg hK'
      simp [hm, lst_atAgg hx, encC]
      refine loop_list (σ := Nat) o (fun n a => [.int (a : Nat), .int (n : Nat)]) (fun n rest a => a ≤ n ∧ usedN c o m = ((a + rest.countP (fun s => decide (capA c s.t = (m : Int))) : Nat) : Int)) 0 (by simp) ⟨by omega, by simp [usedN]⟩ ?_ ?_
      · rintro i s rest2 q K2 hs hr2 hi ⟨hq, hg⟩ hK2
        have hw3 : IntKind.i64.wrap ((i : Int) + 1) = (i : Int) + 1 := wrap64 (by omega) (by omega)
        have hw4 : IntKind.i64.wrap ((q : Int) + 1) = (q : Int) + 1 := wrap64 (by omega) (by omega)
        rw [List.countP_cons] at hg
        have kY : capA c s.t = (m : Int) → K2 [.int ((q : Nat) + 1), .int ((i : Nat) + 1)] := fun e => hK2 _ (q + 1) (by simp) ⟨by omega, by rw [hg]; simp [e]; omega⟩
        have kN : ¬ capA c s.t = (m : Int) → K2 [.int (q : Nat), .int ((i : Nat) + 1)] := fun e => hK2 _ q (by simp) ⟨by omega, by rw [hg]; simp [e]⟩
        have hcap := capat_fn c s.t (by omega)
        clear hg hK2
        simp [hi, lst_atAgg hs, encO]
        refine ⟨_, hcap, ?_⟩
        simp [hw3, hw4]
        exact ⟨kY, kN⟩
      · rintro q K2 ⟨_, hg⟩
        simp at hg
        rw [hg] at gY1 gY2 gN
        simp
        (repeat' (first | exact trivial | (with_reducible intro hw; (try simp (disch := omega) only [wrap64] at hw); first | (exfalso; omega; done) | skip) | (with_reducible refine And.intro ?_ ?_) | omega | assumption))
        all_goals (try simp only [hw2])
        all_goals (first | exact gY1 (by omega) (by omega) (by omega) (by omega) | exact gY2 (by omega) (by omega) (by omega) (by omega) | exact gN (by omega))
    · intro a K' hg
      rw [scanG] at hg
      rw [hg] at gNo gK
      simp
      refine ⟨gNo, fun q => ⟨hroom3 _ rfl, ?_⟩⟩
      have hsn := sos_snoc o ⟨xb.c, p, a⟩
      rw [hsn]
      exact gK (by omega)
  · rintro ⟨left, o⟩ K ⟨hp, _, hq, _⟩
    have hl0 : left = [] := by have := hp.length_eq; simpa using this
    simp only at hq
    simp [hl0, flat_sos]
    exact (slV_ok (by rw [hq]; rfl)).symm
end Go.Proofs.Ytpbmalfoncjcnaa
