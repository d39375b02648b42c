/- readback's fact and laws. -/
import Derived.Test.YtdneccmpojidmaaDoorRb4
import Derived.Test.YtdneccmpojidmaaDoorArgs
namespace Go.Proofs.YtdneccmpojidmaaDoor
open Go.RowKit
set_option linter.unusedVariables false
set_option linter.unusedSimpArgs false
set_option maxRecDepth 100000
def fA : ByteArray := ⟨#[65, 49]⟩
def fX (n : Int) : Cl := ⟨fA, 0, n, ⟨#[]⟩⟩
def fO : List Ro := [⟨fX 9000, 5⟩]
theorem rq1 : cmpV (fX 9000) (fX 8000) = .tup [.int 4, .int 0] := by kernel_rfl
theorem rq2 : sayV [] (fX 9000) 5 = .tup [ros fO, .int 0] := by kernel_rfl
theorem rq3 : heaV fO (fX 8000) 6 = .tup [.sl 5 [], .int 17] := by kernel_rfl
theorem rq4 : heaV fO (fX 9000) 6 = .tup [.sl 5 [], .int 0] := by kernel_rfl
theorem rq5 : lpV fO 46 = .tup [.sl 5 [], cls [fX 9000], .int 0] := by kernel_rfl
theorem rq6 : ofV fO fA = .tup [cls [fX 9000], .int 0] := by kernel_rfl
theorem rq7 : chkE (fO ++ fO) = 7 := by kernel_rfl
theorem rfact_fn : Fn Tryd.prog 7 [] .sc (.bool true) := by
  have e := RbG.fact_form (.bool true)
  have k := fun h => fn_run mixed 3 (Γ := RbG.Γ) (ann := RbG.ann) Tryd.func7 rfl Tryd.call7 (e.mpr h)
  refine k ?_
  clear k e
  have h1 := compare_fn (fX 9000) (fX 8000)
  rw [rq1] at h1
  have h2 := say_fn [] (fX 9000) 5
  rw [rq2] at h2
  have h2' := h2.nl (.cons (.nil 5) (.cons (.refl _) (.cons (.refl _) .nil)))
  have h3 := hear_fn fO (fX 8000) 6
  rw [rq3] at h3
  have h4 := hear_fn fO (fX 9000) 6
  rw [rq4] at h4
  have h5 := lapse_fn fO 46
  rw [rq5] at h5
  have h6 := of_fn fO fA
  rw [rq6] at h6
  have h7 := rcheck_fn (fO ++ fO)
  rw [rq7] at h7
  have h8 := eqo_fn fO fO (by simp [maxLen, fO])
  rw [decide_eq_true rfl] at h8
  have h9 := eqc_fn [fX 9000] [fX 9000] (by simp [maxLen])
  rw [decide_eq_true rfl] at h9
  refine ⟨_, climbed_fn 9000, _, climbed_fn 8000, _, h1, _, climbed_fn 9000, _, h2', _, climbed_fn 8000, _, h3, _, climbed_fn 9000, _, h4, _, h5, _, h6, ?_⟩
  simp [encL]
  refine ⟨_, climbed_fn 9000, ?_⟩
  simp [encL]
  refine ⟨_, h8, ?_⟩
  simp
  refine ⟨wrap64 (by omega) (by omega), _, climbed_fn 9000, ?_⟩
  have hat : AV.atAgg (cls [fX 9000]) (.int 0) 0 4 = cl (fX 9000) := rfl
  simp only [hat]
  simp [encL, fX, fA, AV.eqPlOk, AV.eqPl]
  refine ⟨_, h9, ?_⟩
  simp
  refine ⟨by unfold AV.room; rw [lst_els]; simp [fO], _, h7, ?_⟩
  simp
def sumB : Nat → List Bool → Int
  | _, [] => 0
  | n, b :: r => (if b = true then 2 ^ n else 0) + sumB (n + 1) r
def difB (c r : Cl) : List Bool := [!decide (c.c = r.c), c.k != r.k, c.v != r.v, !decide (c.f = r.f)]
def encB1 (x : Bool) : List AV := [.bool x]
theorem sum_dif (c r : Cl) : sumB 0 (difB c r) = sumP (difP c r) := by
  simp [sumB, sumP, difB, difP]
theorem shl1 {n : Nat} (h : n < 4) : AV.shf .shl (.lit (.int .i64 1)) (.lit (.int .i64 (n : Nat))) = .int (2 ^ n) := by
  have : n = 0 ∨ n = 1 ∨ n = 2 ∨ n = 3 := by omega
  rcases this with rfl | rfl | rfl | rfl <;> (show _ = _; kernel_rfl)
theorem tdiffers_fn (c r : Cl) : Fn Tryd.prog 3 [cl c, cl r] .sc (.bool true) := by
  have e := RbG.differs_form (cl c) (cl r) (.bool true)
  have k := fun h => fn_run mixed 3 (Γ := RbG.Γ) (ann := RbG.ann) Tryd.func3 rfl Tryd.call3 (e.mpr h)
  refine k ?_
  clear k e
  have h2 : AV.sl 1 [[.lit (.bool (!decide (c.c = r.c)))], [.lit (.bool (c.k != r.k))], [.lit (.bool (c.v != r.v))], [.lit (.bool (!decide (c.f = r.f)))]] = lst 1 encB1 (difB c r) := rfl
  simp only [av_mk, encL, av_cel, List.getD_cons_zero, List.getD_cons_succ, av_neq_str, av_neq, h2]
  refine ⟨by simp [encL], by simp [encL], _, rfact_fn, ?_⟩
  simp only [av_unOk_not, av_un_not, av_isBool, av_isF]
  refine ⟨trivial, trivial, rfl, _, compare_fn c r, _, cerr_fn c, ?_⟩
  simp
  have hcE : clE c ≠ 0 → cmpV c r = .tup [.int 0, .int (clE c)] := fun q => by unfold cmpV; rw [if_pos q]
  refine ⟨fun h => ⟨_, cerr_fn r, ?_⟩, fun h => ?_⟩
  · simp
    have hrE : clE r ≠ 0 → cmpV c r = .tup [.int 0, .int (clE r)] := fun q => by unfold cmpV; rw [if_neg (by simp [h]), if_pos q]
    refine ⟨fun q => by simp [hrE q], fun q => ?_⟩
    have hV : cmpV c r = .tup [.int (sumP (difP c r)), .int 0] := by unfold cmpV; rw [if_neg (by simp [h]), if_neg (by simp [q])]
    refine loop_list (σ := Int) (difB c r) (fun n s => [.int s, .int (n : Nat)]) (fun n rest s => sumP (difP c r) = s + sumB n rest ∧ 0 ≤ s ∧ s ≤ 8 * n) 0 (by simp) ⟨by rw [sum_dif]; omega, by omega, by omega⟩ ?_ ?_
    · rintro n x rest s K hx hr hn ⟨hg, hs, hs2⟩ hK
      have hn' : n < 4 := hn
      have hw2 : IntKind.i64.wrap ((n : Int) + 1) = (n : Int) + 1 := wrap64 (by omega) (by omega)
      have hpb : (0 : Int) ≤ 2 ^ n ∧ (2 : Int) ^ n ≤ 8 := by
        have : n = 0 ∨ n = 1 ∨ n = 2 ∨ n = 3 := by omega
        rcases this with rfl | rfl | rfl | rfl <;> decide
      have hw3 : IntKind.i64.wrap (s + 2 ^ n) = s + 2 ^ n := wrap64 (by omega) (by omega)
      rw [sumB] at hg
      have gY : x = true → K [.int (s + 2 ^ n), .int ((n : Nat) + 1)] := fun q => hK _ (s + 2 ^ n) (by simp) ⟨by rw [hg, if_pos q]; omega, by omega, by omega⟩
      have gN : x = false → K [.int s, .int ((n : Nat) + 1)] := fun q => hK _ s (by simp) ⟨by rw [hg, if_neg (by simp [q])]; omega, by omega, by omega⟩
      clear hK
      have hlen : (difB c r).length = 4 := rfl
      have hsh := shl1 hn'
      have hso : AV.shfOk (.lit (.int .i64 1)) (.lit (.int .i64 (n : Nat))) := ⟨⟨_, _, rfl⟩, ⟨_, _, rfl⟩, by simp⟩
      simp [hlen, show (n : Int) < 4 by omega, lst_at hx, encB1, hw2, hsh, hso, hw3]
      exact ⟨gY, gN⟩
    · rintro s K ⟨hg, _⟩
      rw [sumB] at hg
      simp [hV, hg]
  · simp [hcE h, h]
theorem nil_eqo : Fn Tryd.prog 16 [.sl 5 [], .sl 5 []] .sc (.bool true) := by
  have := eqo_fn [] [] (by simp)
  simpa using this
theorem tsays_fn (l : List Ro) (c : Cl) (t : Int) (hl : l.length * 56 ≤ 140737488351232) : Fn Tryd.prog 4 [ros l, cl c, .int t] .sc (.bool true) := by
  have e := RbG.says_form (ros l) (cl c) (.int t) (.bool true)
  have k := fun h => fn_run mixed 3 (Γ := RbG.Γ) (ann := RbG.ann) Tryd.func4 rfl Tryd.call4 (e.mpr h)
  refine k ?_
  clear k e
  have hl2 : l.length ≤ maxLen := by unfold maxLen; omega
  have hoat := oat_fn l c hl2
  have hwo := without_fn l (rIdx l c) hl
  simp only [encL, av_cel, List.getD_cons_zero, List.getD_cons_succ]
  refine ⟨by simp [encL], _, rfact_fn, ?_⟩
  simp only [av_unOk_not, av_un_not, av_isBool, av_isF]
  refine ⟨trivial, trivial, rfl, _, say_fn l c t, _, oerr_fn l, _, rcheck_fn l, ?_⟩
  simp
  have hE1 : chk2 l c t ≠ 0 → sayV l c t = .tup [.sl 5 [], .int (chk2 l c t)] := fun q => sayV_err (by unfold sayE; rw [if_pos q]) q
  refine ⟨fun h => ⟨_, cerr_fn c, ?_⟩, fun h => ?_⟩
  · simp
    refine ⟨fun h2 => ⟨_, terr_fn (goodR h) t, _, hoat, _, hwo, ?_⟩, fun h2 => ⟨_, hoat, ⟨_, hwo⟩, ?_⟩⟩
    · have g := goodR h
      have hwl : (wo l (rIdx l c)).length ≤ 12 := Nat.le_trans (woN_len _ _ _) g.len
      cases hw : wrg l t with
      | true =>
        have hk : chk2 l c t = 12 := by unfold chk2; rw [if_neg (by simp [h]), if_neg (by simp [h2]), if_pos hw]
        rw [hE1 (by omega), hk]
        simp
      | false =>
        have hk : chk2 l c t = 0 := by unfold chk2; rw [if_neg (by simp [h]), if_neg (by simp [h2]), if_neg (by simp [hw])]
        simp
        refine ⟨fun q => ?_, fun q => ?_⟩
        · rw [sayV_err (e := 9) (by unfold sayE; rw [if_neg (by simp [hk]), if_pos (by omega)]) (by omega)]
          simp
        · rw [sayV_ok (by unfold sayE; rw [if_neg (by simp [hk]), if_neg (by omega)])]
          have hsn := ros_snoc (wo l (rIdx l c)) ⟨c, t⟩
          have hq := eqo_fn (wo l (rIdx l c) ++ [⟨c, t⟩]) (wo l (rIdx l c) ++ [⟨c, t⟩]) (by unfold maxLen; simp; omega)
          rw [decide_eq_true rfl] at hq
          simp
          refine ⟨by unfold AV.room; rw [lst_els]; simp [AV.els]; omega, ?_⟩
          rw [hsn]
          exact hq
    · have hk : chk2 l c t = clE c := by unfold chk2; rw [if_neg (by simp [h]), if_pos h2]
      rw [hE1 (by omega), hk]
      simp [h2]
  · have hk : chk2 l c t = chkE l := by unfold chk2; rw [if_pos h]
    refine ⟨h, _, hoat, ⟨_, hwo⟩, ?_⟩
    rw [hE1 (by omega), hk]
    simp [h]
theorem thears_fn (l : List Ro) (c : Cl) (t : Int) (hl : l.length * 56 ≤ 140737488351232) : Fn Tryd.prog 5 [ros l, cl c, .int t] .sc (.bool true) := by
  have e := RbG.hears_form (ros l) (cl c) (.int t) (.bool true)
  have k := fun h => fn_run mixed 3 (Γ := RbG.Γ) (ann := RbG.ann) Tryd.func5 rfl Tryd.call5 (e.mpr h)
  refine k ?_
  clear k e
  have hl2 : l.length ≤ maxLen := by unfold maxLen; omega
  have hoat := oat_fn l c hl2
  have hwo := without_fn l (rIdx l c) hl
  simp only [encL, av_cel, List.getD_cons_zero, List.getD_cons_succ]
  refine ⟨by simp [encL], _, rfact_fn, ?_⟩
  simp only [av_unOk_not, av_un_not, av_isBool, av_isF]
  refine ⟨trivial, trivial, rfl, _, hear_fn l c t, _, oerr_fn l, ?_⟩
  simp
  have hE1 : chk2 l c t ≠ 0 → heaV l c t = .tup [.sl 5 [], .int (chk2 l c t)] := fun q => heaV_err (by unfold heaE; rw [if_pos q]) q
  refine ⟨fun h => ⟨_, cerr_fn c, ?_⟩, fun h => ?_⟩
  · simp
    refine ⟨fun h2 => ⟨_, terr_fn (goodR h) t, _, hoat, ?_⟩, fun h2 => ⟨⟨_, hoat⟩, ?_⟩⟩
    · have g := goodR h
      cases hw : wrg l t with
      | true =>
        have hk : chk2 l c t = 12 := by unfold chk2; rw [if_neg (by simp [h]), if_neg (by simp [h2]), if_pos hw]
        rw [hE1 (by omega), hk]
        simp
      | false =>
        have hk : chk2 l c t = 0 := by unfold chk2; rw [if_neg (by simp [h]), if_neg (by simp [h2]), if_neg (by simp [hw])]
        have ht := chk2_wrg (c := c) hw
        simp
        refine ⟨fun q => ?_, fun q => ?_⟩
        · rw [heaV_err (e := 8) (by unfold heaE; rw [if_neg (by simp [hk]), if_pos q]) (by omega)]
          simp
        · obtain ⟨i, x, hix, hx⟩ := rIdx_at q
          have hil := (List.getElem?_eq_some_iff.1 hx).1
          have hxb := g.bd x (List.mem_of_getElem? hx)
          have hgd : l.getD (rIdx l c).toNat default = x := by rw [hix]; simp [List.getD_eq_getElem?_getD, hx]
          have hE : heaE l c t = if t - x.t > 40 then 21 else if x.c ≠ c then 17 else 0 := by unfold heaE; rw [if_neg (by simp [hk]), if_neg (by omega), hgd]
          have hat : AV.at (ros l) (.lit (.int .i64 (i : Nat))) 4 = .int x.t := by rw [lst_at hx]; rfl
          have hwt : IntKind.i64.wrap (x.t + 40) = x.t + 40 := wrap64 (by omega) (by omega)
          have hatA : AV.atAgg (ros l) (.lit (.int .i64 (i : Nat))) 0 4 = cl x.c := by rw [lst_atAgg hx]; rfl
          have hwol : (wo l (rIdx l c)).length ≤ 12 := Nat.le_trans (woN_len _ _ _) g.len
          have hq := eqo_fn (wo l (rIdx l c)) (wo l (rIdx l c)) (by unfold maxLen; omega)
          rw [decide_eq_true rfl] at hq
          rw [hix] at hwo hq
          simp only [hix, hat, hatA]
          simp [hil, hwt, encL, AV.eqPlOk, AV.nePl]
          refine ⟨fun q => ?_, fun q => ⟨fun q2 => ?_, fun q2 q3 q4 q5 => ?_⟩⟩
          · rw [heaV_err (e := 21) (by rw [hE, if_pos (by omega)]) (by omega)]
            simp
          · have hne : x.c ≠ c := by rintro rfl; simp at q2
            rw [heaV_err (e := 17) (by rw [hE, if_neg (by omega), if_pos hne]) (by omega)]
            simp
          · have hxc : x.c = c := by
              obtain ⟨⟨a1, a2, a3, a4⟩, b⟩ := x
              obtain ⟨c1, c2, c3, c4⟩ := c
              simp at q2 q3 q4 q5
              simp [q2, q3, q4, q5]
            rw [heaV_ok (by rw [hE, if_neg (by omega), if_neg (by simp [hxc])]), hix]
            simp
            exact ⟨_, hwo, hq⟩
    · have hk : chk2 l c t = clE c := by unfold chk2; rw [if_neg (by simp [h]), if_pos h2]
      rw [hE1 (by omega), hk]
      simp [h2]
  · have hk : chk2 l c t = chkE l := by unfold chk2; rw [if_pos h]
    refine ⟨h, ⟨_, hoat⟩, ?_⟩
    rw [hE1 (by omega), hk]
    simp [h]
theorem nil_eqc : Fn Tryd.prog 20 [.sl 4 [], .sl 4 []] .sc (.bool true) := by
  have := eqc_fn [] [] (by simp)
  simpa using this
theorem tlapses_fn (l : List Ro) (t : Int) (c : ByteArray) : Fn Tryd.prog 6 [ros l, .int t, .string c] .sc (.bool true) := by
  have e := RbG.lapses_form (ros l) (.int t) (.string c) (.bool true)
  have k := fun h => fn_run mixed 3 (Γ := RbG.Γ) (ann := RbG.ann) Tryd.func6 rfl Tryd.call6 (e.mpr h)
  refine k ?_
  clear k e
  refine ⟨_, rfact_fn, ?_⟩
  simp only [av_unOk_not, av_un_not, av_isBool, av_isF]
  refine ⟨trivial, trivial, rfl, _, lapse_fn l t, _, of_fn l c, _, oerr_fn l, ?_⟩
  have hO : ofV l c = .tup [cls (if chkE l ≠ 0 then [] else ofL l c), .int (chkE l)] := by
    unfold ofV
    split
    · rfl
    · rename_i q
      have : chkE l = 0 := by simpa using q
      rw [this]
  rw [hO]
  simp
  refine ⟨fun h => ?_, fun h => ?_⟩
  · have hk : lpE l t = chkE l := by unfold lpE; rw [if_pos h]
    rw [lpV_err hk h]
    have hw0 : IntKind.i64.wrap 0 = 0 := wrap64 (by omega) (by omega)
    simp [h, lst_nil, hw0]
  · have g := goodR h
    have gl := g.len
    simp [h]
    refine loop_list (σ := List Cl) l (fun n o => [.int (n : Nat), cls o]) (fun n rest o => ofL l c = o ++ (rest.filter (fun x => decide (x.c.c = c))).map (·.c) ∧ o.length ≤ n) [] (by simp) ⟨by simp [ofL], by simp⟩ ?_ ?_
    · rintro n x rest o K hx hr hn ⟨hg, ho⟩ hK
      have hw2 : IntKind.i64.wrap ((n : Int) + 1) = (n : Int) + 1 := wrap64 (by omega) (by omega)
      have hr1 : ∀ q : List (List AV), q.length = 1 → AV.room (cls o) (.sl 4 q) 48 := fun q hq => by unfold AV.room; rw [lst_els]; simp [AV.els, hq]; omega
      have hs1 := cls_snoc o x.c
      have gY : x.c.c = c → K [.int ((n : Nat) + 1), cls (o ++ [x.c])] := fun q => hK _ (o ++ [x.c]) (by simp) ⟨by rw [hg, List.filter_cons, if_pos (by simp [q])]; simp, by simp; omega⟩
      have gN : x.c.c ≠ c → K [.int ((n : Nat) + 1), cls o] := fun q => hK _ o (by simp) ⟨by rw [hg, List.filter_cons, if_neg (by simp [q])], by omega⟩
      clear hK
      simp [hn, lst_atAgg hx, encR, hw2]
      refine ⟨fun q => ⟨hr1 _ rfl, ?_⟩, gN⟩
      have := gY q
      rw [← hs1] at this
      simpa [q] using this
    · rintro o K ⟨hg, ho⟩
      simp at hg
      rw [← hg] at ho ⊢
      have hq := eqc_fn (ofL l c) (ofL l c) (by unfold maxLen; omega)
      rw [decide_eq_true rfl] at hq
      simp
      refine ⟨_, hq, ?_⟩
      simp
      refine ⟨_, terr_fn g t, ?_⟩
      cases hw : wrg l t with
      | true =>
        have hk : lpE l t = 12 := by unfold lpE; rw [if_neg (by simp [h]), if_pos hw]
        have hw0 : IntKind.i64.wrap 0 = 0 := wrap64 (by omega) (by omega)
        rw [lpV_err hk (by omega)]
        simp [hw0]
      | false =>
        have hk : lpE l t = 0 := by unfold lpE; rw [if_neg (by simp [h]), if_neg (by simp [hw])]
        have ht := chk2_wrg (c := default) hw
        rw [lpV_ok hk]
        simp
        refine loop_list (σ := List Cl × List Ro) l (fun n s => [.int (n : Nat), cls s.1, ros s.2]) (fun n rest s => (l.filter (old t)).map (·.c) = s.1 ++ (rest.filter (old t)).map (·.c) ∧ l.filter (fun x => !old t x) = s.2 ++ rest.filter (fun x => !old t x) ∧ s.1.length ≤ n ∧ s.2.length ≤ n) ([], []) (by simp) ⟨by simp, by simp, by simp, by simp⟩ ?_ ?_
        · rintro n x rest ⟨o1, o2⟩ K hx hr hn ⟨hg1, hg2, ho1, ho2⟩ hK
          simp only at hg1 hg2 ho1 ho2
          have hxb := g.bd x (List.mem_of_getElem? hx)
          have hw2 : IntKind.i64.wrap ((n : Int) + 1) = (n : Int) + 1 := wrap64 (by omega) (by omega)
          have hwt : IntKind.i64.wrap (x.t + 40) = x.t + 40 := wrap64 (by omega) (by omega)
          have hr1 : ∀ q : List (List AV), q.length = 1 → AV.room (cls o1) (.sl 4 q) 48 := fun q hq => by unfold AV.room; rw [lst_els]; simp [AV.els, hq]; omega
          have hr2 : ∀ q : List (List AV), q.length = 1 → AV.room (ros o2) (.sl 5 q) 56 := fun q hq => by unfold AV.room; rw [lst_els]; simp [AV.els, hq]; omega
          have hs1 := cls_snoc o1 x.c
          have hs2 := ros_snoc o2 x
          have gY : t - x.t > 40 → K [.int ((n : Nat) + 1), cls (o1 ++ [x.c]), ros o2] := fun q => hK _ (o1 ++ [x.c], o2) (by simp) ⟨by rw [hg1, List.filter_cons, if_pos (by simp [old]; omega)]; simp, by rw [hg2, List.filter_cons, if_neg (by simp [old]; omega)], by simp; omega, by simp; omega⟩
          have gN : ¬ t - x.t > 40 → K [.int ((n : Nat) + 1), cls o1, ros (o2 ++ [x])] := fun q => hK _ (o1, o2 ++ [x]) (by simp) ⟨by rw [hg1, List.filter_cons, if_neg (by simp [old]; omega)], by rw [hg2, List.filter_cons, if_pos (by simp [old]; omega)]; simp, by simp; omega, by simp; omega⟩
          clear hK
          simp [hn, lst_atAgg hx, encR, hwt, hw2, hs1, hs2]
          exact ⟨fun q => ⟨hr1 _ rfl, gY (by omega)⟩, fun q => ⟨hr2 _ rfl, gN (by omega)⟩⟩
        · rintro ⟨o1, o2⟩ K ⟨hg1, hg2, ho1, ho2⟩
          simp only at ho1 ho2
          simp at hg1 hg2
          rw [hg1, hg2]
          have hq1 := eqo_fn o2 o2 (by unfold maxLen; omega)
          have hq2 := eqc_fn o1 o1 (by unfold maxLen; omega)
          rw [decide_eq_true rfl] at hq1 hq2
          simp
          refine ⟨_, hq1, ?_⟩
          simp
          exact hq2
theorem arg_intT {x : AV} (h : ArgOk Tryd.prog 3 x) : ∃ n, x = .int n ∧ I64 n := c_int (by kernel_rfl) (arg_cell (by kernel_rfl) h)
theorem arg_strT {x : AV} (h : ArgOk Tryd.prog 9 x) : ∃ s : ByteArray, x = .string s ∧ s.size ≤ maxLen := c_str (by kernel_rfl) (arg_cell (by kernel_rfl) h)
theorem arg_ros {x : AV} (h : ArgOk Tryd.prog 31 x) : ∃ l, x = ros l ∧ l.length ≤ maxLen := by
  obtain ⟨l, e, h1, _⟩ := c_lst (P := Tryd.prog) (encA := encR) (Q := fun _ => True) (tys := [9, 3, 3, 9, 3]) (s := 5) (e := 40) (by kernel_rfl) (by kernel_rfl) (by kernel_rfl) (fun y hy hc => by
    obtain ⟨a, b, c, d, f, rfl⟩ := lst5 hy
    obtain ⟨s1, e1, _⟩ := c_str (by kernel_rfl) (hc 0 9 rfl)
    obtain ⟨s2, e2, _⟩ := c_int (by kernel_rfl) (hc 1 3 rfl)
    obtain ⟨s3, e3, _⟩ := c_int (by kernel_rfl) (hc 2 3 rfl)
    obtain ⟨s4, e4, _⟩ := c_str (by kernel_rfl) (hc 3 9 rfl)
    obtain ⟨s5, e5, _⟩ := c_int (by kernel_rfl) (hc 4 3 rfl)
    simp at e1 e2 e3 e4 e5
    exact ⟨⟨⟨s1, s2, s3, s4⟩, s5⟩, by rw [e1, e2, e3, e4, e5]; rfl, trivial⟩) (arg_cell (by kernel_rfl) h)
  exact ⟨l, e, h1⟩
end Go.Proofs.YtdneccmpojidmaaDoor
