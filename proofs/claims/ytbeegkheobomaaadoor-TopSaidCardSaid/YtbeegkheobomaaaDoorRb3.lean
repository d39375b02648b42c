/- readback's functions. -/
import Derived.Test.YtbeegkheobomaaaDoorRb2
import Derived.Test.YtbeegkheobomaaaDoorDelRo
namespace Go.Proofs.YtbeegkheobomaaaDoor
open Go.RowKit
set_option linter.unusedVariables false
set_option linter.unusedSimpArgs false
set_option maxRecDepth 100000
def woN : Nat → Int → List Ro → List Ro
  | _, _, [] => []
  | n, i, x :: r => if (n : Int) ≠ i then x :: woN (n + 1) i r else woN (n + 1) i r
def wo (l : List Ro) (i : Int) : List Ro := woN 0 i l
theorem woN_all : ∀ {l : List Ro} {n : Nat} {i : Int}, i < n → woN n i l = l
  | [], _, _, _ => rfl
  | x :: r, n, i, h => by rw [woN, if_pos (by omega), woN_all (by omega)]
theorem woN_at : ∀ {l : List Ro} {n k : Nat}, k < l.length → woN n ((n + k : Nat) : Int) l = l.take k ++ l.drop (k + 1)
  | [], _, _, h => by simp at h
  | x :: r, n, 0, h => by rw [woN, if_neg (by simp), woN_all (by omega)]; simp
  | x :: r, n, k + 1, h => by
    rw [woN, if_pos (by omega), show ((n + (k + 1) : Nat) : Int) = ((n + 1 + k : Nat) : Int) by omega, woN_at (by simpa using h)]
    simp
theorem wo_no (l : List Ro) : wo l (-1) = l := woN_all (by omega)
theorem wo_at {l : List Ro} {k : Nat} (h : k < l.length) : wo l (k : Int) = l.take k ++ l.drop (k + 1) := by
  have := woN_at (n := 0) h
  rw [Nat.zero_add] at this; exact this
theorem woN_len : ∀ (l : List Ro) (n : Nat) (i : Int), (woN n i l).length ≤ l.length
  | [], _, _ => by simp [woN]
  | x :: r, n, i => by
    rw [woN]
    have := woN_len r (n + 1) i
    split <;> simp <;> omega
theorem ros_snoc (o : List Ro) (x : Ro) : AV.app 5 (ros o) (.sl 5 [[.lit (.string x.c.c), .lit (.int .i64 x.c.k), .lit (.int .i64 x.c.v), .lit (.string x.c.f), .lit (.int .i64 x.t)]]) = ros (o ++ [x]) := by
  simp [lst, AV.app, AV.els, encR]
theorem cls_snoc (o : List Cl) (x : Cl) : AV.app 4 (cls o) (.sl 4 [[.lit (.string x.c), .lit (.int .i64 x.k), .lit (.int .i64 x.v), .lit (.string x.f)]]) = cls (o ++ [x]) := by
  simp [lst, AV.app, AV.els, encL]
theorem app_ros (l : List Ro) : AV.app 5 (.sl 5 []) (ros l) = ros l := by simp [lst, AV.app, AV.els]
def chk2 (l : List Ro) (c : Cl) (t : Int) : Int := if chkE l ≠ 0 then chkE l else if clE c ≠ 0 then clE c else if wrg l t = true then 12 else 0
theorem chk2_ok {l : List Ro} {c : Cl} {t : Int} (h : chk2 l c t = 0) : chkE l = 0 ∧ clE c = 0 ∧ wrg l t = false := by
  unfold chk2 at h
  split at h
  · rename_i q; exact absurd h q
  · rename_i q
    split at h
    · rename_i q2; exact absurd h q2
    · rename_i q2
      split at h
      · cases h
      · rename_i q3; exact ⟨by simpa using q, by simpa using q2, by simpa using q3⟩
theorem chk2_wrg {l : List Ro} {c : Cl} {t : Int} (h : wrg l t = false) : 0 ≤ t ∧ t ≤ 200000 := by
  unfold wrg at h
  simp at h
  omega
def sayE (l : List Ro) (c : Cl) (t : Int) : Int := if chk2 l c t ≠ 0 then chk2 l c t else if (wo l (rIdx l c)).length = 12 then 9 else 0
def sayL (l : List Ro) (c : Cl) (t : Int) : List Ro := if sayE l c t = 0 then wo l (rIdx l c) ++ [⟨c, t⟩] else []
def sayV (l : List Ro) (c : Cl) (t : Int) : AV := .tup [ros (sayL l c t), .int (sayE l c t)]
theorem sayV_err {l : List Ro} {c : Cl} {t e : Int} (h : sayE l c t = e) (h0 : e ≠ 0) : sayV l c t = .tup [.sl 5 [], .int e] := by
  unfold sayV sayL; rw [h, if_neg h0]; rfl
theorem sayV_ok {l : List Ro} {c : Cl} {t : Int} (h : sayE l c t = 0) : sayV l c t = .tup [ros (wo l (rIdx l c) ++ [⟨c, t⟩]), .int 0] := by
  unfold sayV sayL; rw [h, if_pos rfl]
theorem del_ros (l : List Ro) (i : Nat) (h : i < l.length) : FnU Tryd.prog 30 59 5 (ros l) [.int (i : Nat), .int ((i : Nat) + 1)] true (ros (wo l (i : Int))) := by
  have := delRo (l.map encR) i (i + 1) (by omega) (by simp; omega)
  rw [wo_at h]
  simpa [lst, List.map_take, List.map_drop] using this
theorem say_fn (l : List Ro) (c : Cl) (t : Int) : Fn Tryd.prog 14 [ros l, cl c, .int t] (.tup [.row 59 5 true, .sc]) (sayV l c t) := by
  have e := RbF.say_form (ros l) (cl c) (.int t) (sayV l c t)
  have k := fun h => fn_run mixed 3 (Γ := RbF.Γ) (ann := RbF.ann) Tryd.func14 rfl Tryd.call14 (e.mpr h)
  refine k ?_
  clear k e
  have e1 : Ent Tryd.prog 28 := Tryd.call28
  refine ⟨by simp [encL], _, check2_fn l c t, ?_⟩
  rw [show (if chkE l ≠ 0 then chkE l else if clE c ≠ 0 then clE c else if wrg l t = true then 12 else 0) = chk2 l c t from rfl]
  simp [encL]
  refine ⟨fun h => by rw [sayV_err (e := chk2 l c t) (by unfold sayE; rw [if_pos h]) h], fun h => ⟨e1, ?_, ?_⟩⟩
  · intro h0
    subst h0
    have hi : rIdx [] c = -1 := rfl
    have hE : sayE [] c t = 0 := by unfold sayE; rw [if_neg (by simp [h]), hi]; rfl
    refine ⟨_, rindex_fn [] c (by simp), ?_⟩
    rw [hi]
    simp
    rw [sayV_ok hE, hi]
    exact ⟨by simp [AV.room, AV.els], rfl⟩
  · obtain ⟨hc, _, hw⟩ := chk2_ok h
    have g := goodR hc
    have gl := g.len
    have hroom : AV.room (.sl 5 []) (ros l) 56 := by unfold AV.room; rw [lst_els]; simp [AV.els]; omega
    have hroom2 : ∀ (m : List Ro) (q : List (List AV)), m.length ≤ 12 → q.length = 1 → AV.room (ros m) (.sl 5 q) 56 := fun m q hm hq => by unfold AV.room; rw [lst_els]; simp [AV.els, hq]; omega
    have hwl : (wo l (rIdx l c)).length ≤ 12 := Nat.le_trans (woN_len _ _ _) gl
    have hsn := ros_snoc (wo l (rIdx l c)) ⟨c, t⟩
    have g9 : (wo l (rIdx l c)).length = 12 → .tup [.sl 5 [], .int 9] = sayV l c t := fun q => (sayV_err (by unfold sayE; rw [if_neg (by simp [h]), if_pos q]) (by omega)).symm
    have gok : (wo l (rIdx l c)).length ≠ 12 → .tup [ros (wo l (rIdx l c) ++ [⟨c, t⟩]), .int 0] = sayV l c t := fun q => (sayV_ok (by unfold sayE; rw [if_neg (by simp [h]), if_neg q])).symm
    simp only [app_ros]
    refine ⟨hroom, _, rindex_fn l c (by omega), ?_⟩
    simp
    refine ⟨fun hi => ?_, fun hi => ?_⟩
    · obtain ⟨i, x, hix, hx⟩ := rIdx_at hi
      have hil := (List.getElem?_eq_some_iff.1 hx).1
      have hd := del_ros l i hil
      rw [← hix] at hd
      have hw2 : IntKind.i64.wrap (rIdx l c + 1) = rIdx l c + 1 := wrap64 (by omega) (by omega)
      rw [hw2]
      refine ⟨_, hd, ?_⟩
      simp
      refine ⟨fun q => g9 (by omega), fun q => ⟨hroom2 _ _ hwl rfl, ?_⟩⟩
      rw [hsn]
      exact ⟨flat_ros _, gok (by omega)⟩
    · have hw := rIdx_no (l := l) (c := c) (by omega)
      rw [hw, wo_no] at g9 gok hsn hwl
      refine ⟨fun q => g9 (by omega), fun q => ⟨hroom2 _ _ hwl rfl, ?_⟩⟩
      rw [hsn]
      exact ⟨flat_ros _, gok (by omega)⟩
def heaE (l : List Ro) (c : Cl) (t : Int) : Int := if chk2 l c t ≠ 0 then chk2 l c t else if rIdx l c < 0 then 8 else if t - (l.getD (rIdx l c).toNat default).t > 40 then 21 else if (l.getD (rIdx l c).toNat default).c ≠ c then 17 else 0
def heaL (l : List Ro) (c : Cl) (t : Int) : List Ro := if heaE l c t = 0 then wo l (rIdx l c) else []
def heaV (l : List Ro) (c : Cl) (t : Int) : AV := .tup [ros (heaL l c t), .int (heaE l c t)]
theorem heaV_err {l : List Ro} {c : Cl} {t e : Int} (h : heaE l c t = e) (h0 : e ≠ 0) : heaV l c t = .tup [.sl 5 [], .int e] := by
  unfold heaV heaL; rw [h, if_neg h0]; rfl
theorem heaV_ok {l : List Ro} {c : Cl} {t : Int} (h : heaE l c t = 0) : heaV l c t = .tup [ros (wo l (rIdx l c)), .int 0] := by
  unfold heaV heaL; rw [h, if_pos rfl]
theorem hear_fn (l : List Ro) (c : Cl) (t : Int) : Fn Tryd.prog 16 [ros l, cl c, .int t] (.tup [.row 59 5 true, .sc]) (heaV l c t) := by
  have e := RbF.hear_form (ros l) (cl c) (.int t) (heaV l c t)
  have k := fun h => fn_run mixed 3 (Γ := RbF.Γ) (ann := RbF.ann) Tryd.func16 rfl Tryd.call16 (e.mpr h)
  refine k ?_
  clear k e
  have e1 : Ent Tryd.prog 28 := Tryd.call28
  refine ⟨by simp [encL], _, check2_fn l c t, ?_⟩
  rw [show (if chkE l ≠ 0 then chkE l else if clE c ≠ 0 then clE c else if wrg l t = true then 12 else 0) = chk2 l c t from rfl]
  simp [encL]
  refine ⟨fun h => by rw [heaV_err (e := chk2 l c t) (by unfold heaE; rw [if_pos h]) h], fun h => ?_⟩
  obtain ⟨hc, _, hw⟩ := chk2_ok h
  have ht := chk2_wrg (c := c) hw
  have g := goodR hc
  have gl := g.len
  refine ⟨_, rindex_fn l c (by omega), ?_⟩
  simp
  refine ⟨fun hi => (heaV_err (by unfold heaE; rw [if_neg (by simp [h]), if_pos hi]) (by omega)).symm, fun hi => ?_⟩
  obtain ⟨i, x, hix, hx⟩ := rIdx_at hi
  have hil := (List.getElem?_eq_some_iff.1 hx).1
  have hxb := g.bd x (List.mem_of_getElem? hx)
  have hgd : l.getD (rIdx l c).toNat default = x := by rw [hix]; simp [List.getD_eq_getElem?_getD, hx]
  have hE : heaE l c t = if t - x.t > 40 then 21 else if x.c ≠ c then 17 else 0 := by unfold heaE; rw [if_neg (by simp [h]), if_neg (by omega), hgd]
  have hat : AV.at (ros l) (.lit (.int .i64 (i : Nat))) 4 = .int x.t := by rw [lst_at hx]; rfl
  have hwt : IntKind.i64.wrap (t - x.t) = t - x.t := wrap64 (by omega) (by omega)
  have hw2 : IntKind.i64.wrap ((i : Int) + 1) = (i : Int) + 1 := wrap64 (by omega) (by omega)
  have hd := del_ros l i hil
  have hatA : AV.atAgg (ros l) (.lit (.int .i64 (i : Nat))) 0 4 = cl x.c := by rw [lst_atAgg hx]; rfl
  have hroom : AV.room (.sl 5 []) (ros l) 56 := by unfold AV.room; rw [lst_els]; simp [AV.els]; omega
  simp only [app_ros, hix, hat, hatA]
  simp [hil, hwt, encL, AV.eqPlOk, AV.nePl, hw2, e1, hroom]
  refine ⟨fun q => (heaV_err (by rw [hE, if_pos q]) (by omega)).symm, fun q => ⟨fun q2 => ?_, fun q2 q3 q4 q5 => ?_⟩⟩
  · have hne : x.c ≠ c := by rintro rfl; simp at q2
    exact (heaV_err (by rw [hE, if_neg (by omega), if_pos hne]) (by omega)).symm
  · have hxc : x.c = c := by
      obtain ⟨⟨a1, a2, a3, a4⟩, b⟩ := x
      obtain ⟨c1, c2, c3, c4⟩ := c
      simp at q2 q3 q4 q5
      simp [q2, q3, q4, q5]
    refine ⟨fun h0 => by subst h0; simp at hil, _, hd, flat_ros _, ?_⟩
    rw [heaV_ok (by rw [hE, if_neg (by omega), if_neg (by simp [hxc])]), hix]
end Go.Proofs.YtbeegkheobomaaaDoor
