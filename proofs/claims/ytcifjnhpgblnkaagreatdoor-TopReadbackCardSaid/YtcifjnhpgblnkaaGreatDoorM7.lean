/- Texts of one proof, part 7: plain values, a run over them, contracts of functions. -/
import Derived.Test.YtcifjnhpgblnkaaGreatDoorM5
import Derived.Test.YtcifjnhpgblnkaaGreatDoorM6
import Derived.Test.YtcifjnhpgblnkaaGreatDoorM3
import Derived.Test.YtcifjnhpgblnkaaGreatDoorM4
namespace Go.Proofs.YtcifjnhpgblnkaaGreatDoor
open Go.RowKit
set_option linter.unusedVariables false
set_option linter.unusedSimpArgs false
set_option maxRecDepth 100000
def pickM (m a : Int) : Int := IntKind.i64.wrap ((IntKind.u64.wrap a).tmod m)
theorem pickM_bd {m a : Int} (h : 0 < m ∧ m ≤ 1000) : 0 ≤ pickM m a ∧ pickM m a < m := by
 have h0 : 0 ≤ IntKind.u64.wrap a := by
  have : IntKind.u64.wrap a = a % 18446744073709551616 := by first | rfl | (unfold IntKind.wrap; rfl)
  rw [this]; omega
 unfold pickM
 rw [Int.tmod_eq_emod_of_nonneg h0]
 generalize IntKind.u64.wrap a = u at *
 have h1 := Int.emod_nonneg u (show m ≠ 0 by omega)
 have h2 := Int.emod_lt_of_pos u h.1
 rw [show IntKind.i64.wrap (u % m) = u % m from wrap64 (by omega) (by omega)]
 omega
theorem pickm_fn {m : Int} (a : Int) (h : 0 < m ∧ m ≤ 1000) : Fn Tryz.prog 6 [.int a, .int m] .sc (.int (pickM m a)) := by
 refine fn_run mixed 2 (Γ := RdF.Γ) (ann := RdF.ann) Tryz.func6 rfl Tryz.call6 ((RdF.pick_form _ _ _).mpr ?_)
 have h3 : IntKind.u64.wrap m = m := by
  have : IntKind.u64.wrap m = m % 18446744073709551616 := by first | rfl | (unfold IntKind.wrap; rfl)
  rw [this]; omega
 refine ⟨by simp, by simp, ?_, by simp [AV.conv], by simp [AV.conv], ?_⟩
 ·simp [AV.conv, h3]; omega
 ·show AV.lit (.int .i64 _) = _
  simp [AV.conv, h3, pickM]
def smB (l : List Nd) : Bool := decide (tE l = 0 ∧ (l.getD (l.length - 1) default).t - (l.getD 0 default).t ≤ 400)
def encTb (l : List Nd) : List AV := [tube l]
theorem small_fn (l : List Nd) : Fn Tryz.prog 13 [.sl 1 [[tube l]], .int 1, .int 400] .sc (.bool (smB l)) := by
 refine fn_run mixed 3 (Γ := RdF.Γ) (ann := RdF.ann) Tryz.func13 rfl Tryz.call13 ((RdF.small_form _ _ _ _).mpr ?_)
 have hl1 : AV.sl 1 [[tube l]] = lst 1 encTb [l] := rfl
 rw [hl1]
 refine ⟨by simp, by simp, by simp, by simp, fun _ => ⟨Tryz.call52, fun _ => ⟨Tryz.call118, fun _ => ⟨by simp, ?_⟩⟩⟩, fun q => absurd q (by simp)⟩
 refine loop_list (σ := Unit) [l] (fun n _ => [.int (n : Nat)]) (fun n rest _ => rest = [] → smB l = true) () rfl (fun h => by cases h) ?_ ?_
 ·rintro n x rest _ K hx hr hn _ hK
  obtain ⟨rfl, rfl⟩ : n = 0 ∧ x = l := by
   have : n < 1 := by simpa using hn
   obtain rfl : n = 0 := by omega
   exact ⟨rfl, by simpa using hx.symm⟩
  have an : AV.bin Go.BinOp.add (.int ((0 : Nat) : Int)) (.int 1) = .int 1 := rfl
  have ha : AV.at (lst 1 encTb [x]) (.int ((0 : Nat) : Int)) 0 = tube x := rfl
  simp only [List.getD_cons_zero, an, ha]
  refine ⟨by simp, by simp, fun _ => ⟨by simp, by simp, Tryz.call53, fun _ => ⟨_, tcheck_fn x, by simp, by simp, fun q => ?_, fun q => ?_⟩⟩, fun q => absurd q (by simp)⟩
  ·have q : tE x ≠ 0 := by simpa using q
   have e : smB x = false := by unfold smB; simp [q]
   rw [e]
   simp [q]
  ·have q : tE x = 0 := by simpa using q
   obtain ⟨h0, h64, hG⟩ := tE_ok q
   obtain ⟨u, hu⟩ : ∃ u, x[0]? = some u := ⟨_, List.getElem?_eq_getElem (by omega)⟩
   obtain ⟨z, hz⟩ : ∃ z, x[x.length - 1]? = some z := ⟨_, List.getElem?_eq_getElem (by omega)⟩
   have ku := (tG_get hG hu).2.1
   have kz := (tG_get hG hz).2.1
   unfold okN at ku kz
   have hud : x.getD 0 default = u := by rw [List.getD_eq_getElem?_getD, hu]; rfl
   have hzd : x.getD (x.length - 1) default = z := by rw [List.getD_eq_getElem?_getD, hz]; rfl
   have wa : AV.bin Go.BinOp.sub (AV.len (tube x)) (.int 1) = .int ((x.length - 1 : Nat) : Int) := by
    rw [lst_len, av_subt]
    exact congrArg (fun z => AV.lit (.int .i64 z)) (by rw [wrap64 (by omega) (by omega)]; omega)
   have a1 : AV.at (tube x) (.int ((x.length - 1 : Nat) : Int)) 0 = .int z.t := by rw [lst_at hz]; rfl
   have a2 : AV.at (tube x) (.int 0) 0 = .int u.t := by have := lst_at (s := 6) (enc := encN) (k := .i64) (j := 0) hu; simpa [encN] using this
   have a3 : AV.bin Go.BinOp.sub (.int z.t) (.int u.t) = .int (z.t - u.t) := by rw [av_subt]; exact congrArg (fun z => AV.lit (.int .i64 z)) (wrap64 (by omega) (by omega))
   simp only [wa, a1, a2, a3]
   refine ⟨by simp, by simp, by simp, by simp; omega, by simp, by simp; omega, by simp, by simp, by simp, by simp [q], by simp, fun g => ?_, fun g => ?_⟩
   ·have g : z.t - u.t > 400 := by simpa using g
    have e : smB x = false := by unfold smB; rw [hud, hzd]; simp; omega
    rw [e]
    simp
   ·have g : ¬ z.t - u.t > 400 := by simpa using g
    have e : smB x = true := by unfold smB; rw [hud, hzd]; simp [q]; omega
    exact ⟨by simp, hK [.int 1] () rfl fun _ => e⟩
 ·rintro _ K hg
  have e := hg rfl
  rw [e]
  exact ⟨by simp, by simp, fun q => absurd q (by simp), fun _ => ⟨by simp, by simp, .lit _, rfl⟩⟩
structure RSt where
 O : List Ro
 now : List Nd
 ch : Nat
 t : Int
def A1B : ByteArray := ⟨#[65, 49]⟩
def encIx (n : Int) : List AV := [.int n]
abbrev its (l : List Int) : AV := lst 1 encIx l
theorem eqD (s : ByteArray) : (s.toList == s.toList) = true := by simp
theorem treadback_fn (hfact : Fn Tryz.prog 5 [] .sc (.bool true)) (l : List Nd) (k : Kd) (cs : List Cl) (sc : List Int) (hcv : ∀ x ∈ cs, -9223372036854775808 ≤ x.v ∧ x.v ≤ 9223372036854775807) : Fn Tryz.prog 4 [tube l, kd k, cls cs, its sc] .sc (.bool true) := by
  have e := RdF.law_form (tube l) (kd k) (cls cs) (its sc) (.bool true)
  have kk := fun h => fn_run mixed 4 (Γ := RdF.Γ) (ann := RdF.ann) Tryz.func4 rfl Tryz.call4 (e.mpr h)
  refine kk ?_
  clear kk e
  refine ⟨by simp [encKd], _, hfact, by simp, by simp, by simp, by simp, _, small_fn l, by simp, by simp, fun q => ?_, fun q => ?_⟩
  · exact ⟨by simp, q, .lit _, rfl⟩
  have q : smB l = true := by simpa using q
  obtain ⟨hE, _⟩ : tE l = 0 ∧ _ := of_decide_eq_true q
  obtain ⟨h0, h64, hG⟩ := tE_ok hE
  obtain ⟨u, hu⟩ : ∃ u, l[0]? = some u := ⟨_, List.getElem?_eq_getElem (by omega)⟩
  have ku := (tG_get hG hu).2.1
  unfold okN at ku
  have a2 : AV.at (tube l) (.int 0) 0 = .int u.t := by have := lst_at (s := 6) (enc := encN) (k := .i64) (j := 0) hu; simpa [encN] using this
  simp only [a2]
  refine ⟨by simp, by simp, by simp, by simp [q], by simp, fun p => ⟨by simp, p, .lit _, rfl⟩, fun p => ⟨by simp, by simp, by simp, by simp, p, by simp, fun _ => ⟨.lit _, rfl⟩, fun p2 => ⟨by simp, by simp; omega, by simp, ?_⟩⟩⟩
  have hc8 : cs.length ≤ 8 := by have : ¬ (cs.length : Int) > 8 := by simpa using p
                                 omega
  have hlen : cs.length = sc.length := by have : (cs.length : Int) = sc.length := by simpa using p2
                                          omega
  refine loop_list (σ := RSt) cs (fun n s => [ros s.O, tube s.now, .int (s.ch : Nat), .int s.t, .int (n : Nat)]) (fun n rest s => tE s.now = 0 ∧ (s.ch = 0 → s.now = l) ∧ 0 ≤ s.t ∧ s.t ≤ 200000 ∧ s.ch ≤ n) ⟨[], l, 0, u.t⟩ rfl ⟨hE, fun _ => rfl, ku.1, ku.2.1, Nat.le_refl _⟩ ?_ ?_
  · rintro n x rest s K hx hr hn ⟨g1, g2, g3, g4, g5⟩ hK
    obtain ⟨z, hz⟩ : ∃ z, sc[n]? = some z := ⟨_, List.getElem?_eq_getElem (by omega)⟩
    have hxv := hcv x (List.mem_of_getElem? hx)
    have an : AV.bin Go.BinOp.add (.int (n : Int)) (.int 1) = .int ((n : Int) + 1) := by rw [av_add]; exact congrArg (fun z => AV.lit (.int .i64 z)) (wrap64 (by omega) (by omega))
    have hA : ∀ s' : RSt, (tE s'.now = 0 ∧ (s'.ch = 0 → s'.now = l) ∧ 0 ≤ s'.t ∧ s'.t ≤ 200000 ∧ s'.ch ≤ n + 1) → K [ros s'.O, tube s'.now, .int (s'.ch : Nat), .int s'.t, .int ((n : Int) + 1)] := fun s' h => hK _ s' (by simp) h
    have ha : AV.atAgg (cls cs) (.int (n : Int)) 0 4 = cl x := by rw [lst_atAgg hx]; rfl
    have hb : AV.at (its sc) (.int (n : Int)) 0 = .int z := by rw [lst_at hz]; rfl
    have c1 : AV.cel (cl x) 1 = .int x.k := rfl
    have c2 : AV.cel (cl x) 2 = .int x.v := rfl
    have c3 : AV.cel (cl x) 3 = .string x.f := rfl
    simp only [List.getD_cons_zero, List.getD_cons_succ, an, ha, hb, c1, c2, c3]
    have hsay := say_fn s.O ⟨A1B, x.k, x.v, x.f⟩ s.t
    have hp0 : AV.prj (sayV s.O ⟨A1B, x.k, x.v, x.f⟩ s.t) 0 = ros (sayL s.O ⟨A1B, x.k, x.v, x.f⟩ s.t) := rfl
    have hp1 : AV.prj (sayV s.O ⟨A1B, x.k, x.v, x.f⟩ s.t) 1 = .int (sayE s.O ⟨A1B, x.k, x.v, x.f⟩ s.t) := rfl
    refine ⟨by simp, by simp, fun _ => ⟨by simp, by simp; omega, by simp [encL], _, hsay, ?_⟩, fun q => absurd q (by simp; omega)⟩
    simp only [hp0, hp1]
    refine ⟨by simp, by simp, fun q => ⟨by simp, hA s ⟨g1, g2, g3, g4, by omega⟩⟩, fun q => ?_⟩
    have q : sayE s.O ⟨A1B, x.k, x.v, x.f⟩ s.t = 0 := by simpa using q
    refine ⟨by simp, by simp; omega, _, pickm_fn z ⟨by omega, by omega⟩, by simp, by simp, fun m => ⟨by simp, by simp, m, by simp, fun m2 => ⟨by simp, rfl, ?_⟩, fun m2 => ?_⟩, fun m => ⟨by simp, m, ?_⟩⟩
    · have ex : AV.bin Go.BinOp.xor (.int x.v) (.int 1) = .int (intB .xor .i64 x.v 1) := rfl
      simp only [ex]
      refine ⟨_, back_fn ⟨A1B, x.k, intB .xor .i64 x.v 1, x.f⟩, by simp [bkV], by simp [bkV], fun p => ⟨by simp, hA ⟨sayL s.O ⟨A1B, x.k, x.v, x.f⟩ s.t, s.now, s.ch, s.t⟩ ⟨g1, g2, g3, g4, by simp only; omega⟩⟩, fun p => ?_⟩
      have p : clE ⟨A1B, x.k, intB .xor .i64 x.v 1, x.f⟩ = 0 := by simpa [bkV] using p
      have hb0 : AV.prj (bkV ⟨A1B, x.k, intB .xor .i64 x.v 1, x.f⟩) 0 = .string (whatS ⟨A1B, x.k, intB .xor .i64 x.v 1, x.f⟩ ++ spB ++ A1B) := by unfold bkV; rw [if_pos p]; rfl
      simp only [hb0]
      refine ⟨_, parse_back p, by simp [encL], by simp, by simp, by simp, by simp, by simp, by simp, by simp, by simp, by simp, ?_⟩
      have e0 : AV.cel (AV.prj (.tup [cl ⟨A1B, x.k, intB .xor .i64 x.v 1, x.f⟩, .bool true, .int 0]) 0) 0 = .string A1B := rfl
      have e1 : AV.cel (AV.prj (.tup [cl ⟨A1B, x.k, intB .xor .i64 x.v 1, x.f⟩, .bool true, .int 0]) 0) 1 = .int x.k := rfl
      have e2 : AV.cel (AV.prj (.tup [cl ⟨A1B, x.k, intB .xor .i64 x.v 1, x.f⟩, .bool true, .int 0]) 0) 2 = .int (intB .xor .i64 x.v 1) := rfl
      have e3 : AV.cel (AV.prj (.tup [cl ⟨A1B, x.k, intB .xor .i64 x.v 1, x.f⟩, .bool true, .int 0]) 0) 3 = .string x.f := rfl
      simp only [av_quo, e0, e1, e2, e3]
      refine ⟨_, pickm_fn _ ⟨by omega, by omega⟩, by simp, ?_⟩
      have hdb := pickM_bd (m := 80) (a := IntKind.i64.wrap (z.tdiv 3)) ⟨by omega, by omega⟩
      generalize pickM 80 (IntKind.i64.wrap (z.tdiv 3)) = d at *
      have aT : AV.bin Go.BinOp.add (.int s.t) (.int d) = .int (s.t + d) := by rw [av_add]; exact congrArg (fun z => AV.lit (.int .i64 z)) (wrap64 (by omega) (by omega))
      have eP : AV.eqPl [(0, EK.str), (1, (EK.int Go.IntKind.i64)), (2, (EK.int Go.IntKind.i64)), (3, EK.str)] [.string A1B, .int x.k, .int (intB .xor .i64 x.v 1), .string x.f] [.lit (.string ⟨#[65, 49]⟩), .int x.k, .int x.v, .string x.f] = .bool (decide ((intB .xor .i64 x.v 1) = x.v)) := by simp [AV.eqPl, AV.eqc, eqD, A1B] <;> rfl
      have hE := said_then (r := ⟨A1B, x.k, intB .xor .i64 x.v 1, x.f⟩) (d := d) q rfl rfl p hdb.1
      have hh := hear_fn (sayL s.O ⟨A1B, x.k, x.v, x.f⟩ s.t) ⟨A1B, x.k, intB .xor .i64 x.v 1, x.f⟩ (s.t + d)
      have hh1 : AV.prj (heaV (sayL s.O ⟨A1B, x.k, x.v, x.f⟩ s.t) ⟨A1B, x.k, intB .xor .i64 x.v 1, x.f⟩ (s.t + d)) 1 = .int (heaE (sayL s.O ⟨A1B, x.k, x.v, x.f⟩ s.t) ⟨A1B, x.k, intB .xor .i64 x.v 1, x.f⟩ (s.t + d)) := rfl
      have hh0 : AV.prj (heaV (sayL s.O ⟨A1B, x.k, x.v, x.f⟩ s.t) ⟨A1B, x.k, intB .xor .i64 x.v 1, x.f⟩ (s.t + d)) 0 = ros (heaL (sayL s.O ⟨A1B, x.k, x.v, x.f⟩ s.t) ⟨A1B, x.k, intB .xor .i64 x.v 1, x.f⟩ (s.t + d)) := rfl
      simp only [aT]
      refine ⟨_, hh, ?_⟩
      simp only [hh1, hh0]
      refine ⟨by simp [AV.eqPlOk, okA], by rw [eP]; simp, ?_⟩
      rw [eP]
      generalize heaL (sayL s.O ⟨A1B, x.k, x.v, x.f⟩ s.t) ⟨A1B, x.k, intB .xor .i64 x.v 1, x.f⟩ (s.t + d) = O2 at *
      generalize heaE (sayL s.O ⟨A1B, x.k, x.v, x.f⟩ s.t) ⟨A1B, x.k, intB .xor .i64 x.v 1, x.f⟩ (s.t + d) = E at *
      clear hh hh0 hh1 eP hb0
      refine ⟨fun w => ?_, fun w => ?_⟩
      · have w : (intB .xor .i64 x.v 1) = x.v := by simpa using w
        have hE' : E = if s.t + d > 200000 then 12 else if d > 40 then 21 else 0 := by rw [hE]; simp [w]
        clear hE
        refine ⟨by simp, by simp, by simp [w], by simp, by simp, by simp, rfl, fun u => ?_, fun u => ?_⟩
        · have hT : s.t + d > 200000 := Classical.byContradiction fun hT => by
            rw [if_neg hT] at hE'
            by_cases h40 : d > 40
            · rw [if_pos h40] at hE'; subst hE'; simp [AV.neB, isT] at u; omega
            · rw [if_neg h40] at hE'; subst hE'; simp [AV.neB, isT] at u; omega
          rw [if_pos hT] at hE'
          subst hE'
          exact ⟨by simp, by simp, rfl, u, by simp, by simp; omega, by simp, by simp, fun _ => ⟨by simp, hA ⟨sayL s.O ⟨A1B, x.k, x.v, x.f⟩ s.t, s.now, s.ch, s.t⟩ ⟨g1, g2, g3, g4, by simp only; omega⟩⟩, fun v => absurd v (by simp)⟩
        · refine ⟨rfl, u, by simp, by simp, fun _ => ⟨by simp, hA ⟨sayL s.O ⟨A1B, x.k, x.v, x.f⟩ s.t, s.now, s.ch, s.t⟩ ⟨g1, g2, g3, g4, by simp only; omega⟩⟩, fun v => ?_⟩
          have v : E = 0 := by simpa using v
          subst v
          have hT : ¬ s.t + d > 200000 := fun hT => by rw [if_pos hT] at hE'; cases hE'
          obtain ⟨o, eo, hof, ho1, ho2⟩ := eff_fn s.now ⟨A1B, x.k, x.v, x.f⟩ (s.t + d) k ⟨0, 0⟩ hxv.1 hxv.2
          have hol : o.length ≤ 1000 := by
            by_cases z0 : eo = 0
            · have := tE_ok (ho1 z0); omega
            · rw [ho2 z0]; simp
          have p0 : AV.prj (.tup [tube o, .int eo]) 0 = tube o := rfl
          have p1 : AV.prj (.tup [tube o, .int eo]) 1 = .int eo := rfl
          have hmn : AV.mn (.int (s.t + d)) (.int 200000) = .int (s.t + d) := by
            show AV.lit (.int .i64 (if (200000 : Int) < s.t + d then 200000 else s.t + d)) = _
            rw [if_neg (by omega)]
          have hch : AV.bin Go.BinOp.add (.int (s.ch : Nat)) (.int 1) = .int ((s.ch + 1 : Nat) : Int) := by rw [av_add]; exact congrArg (fun z => AV.lit (.int .i64 z)) (by rw [wrap64 (by omega) (by omega)]; omega)
          rw [w]
          refine ⟨by simp, _, hof, by simp, _, hof, ?_⟩
          simp only [p0, p1, hmn, hch]
          refine ⟨by simp, by simp, by simp, _, equal_fn o hol, by simp, by simp, by simp, by simp, by simp, by simp, by simp, fun a => ?_, fun a => ?_⟩
          · have a : eo = 0 := by simpa using a
            exact ⟨by simp, by simp, by simp, by simp, by simp, hA ⟨O2, o, s.ch + 1, s.t + d⟩ ⟨ho1 a, fun h => by simp at h, by simp only; omega, by simp only; omega, by simp only; omega⟩⟩
          · exact ⟨by simp, by simp, by simp, by simp, hA ⟨O2, s.now, s.ch, s.t + d⟩ ⟨g1, g2, by simp only; omega, by simp only; omega, by simp only; omega⟩⟩
      · have w : ¬ (intB .xor .i64 x.v 1) = x.v := by simpa using w
        have hE' : E ≠ 0 := by
          rw [hE]
          split
          · decide
          · split
            · decide
            · rw [if_pos (fun h => w (congrArg Cl.v h).symm)]; decide
        clear hE
        refine ⟨by simp, by simp [w], by simp, by simp, by simp, rfl, fun u => ?_, fun u => ?_⟩
        · exfalso
          simp [AV.neB, isT, hE'] at u
        · exact ⟨rfl, u, by simp, by simp, fun _ => ⟨by simp, hA ⟨sayL s.O ⟨A1B, x.k, x.v, x.f⟩ s.t, s.now, s.ch, s.t⟩ ⟨g1, g2, g3, g4, by simp only; omega⟩⟩, fun v => absurd (show E = 0 by simpa using v) hE'⟩
    · skip
      refine ⟨_, back_fn ⟨A1B, x.k, x.v, x.f⟩, by simp [bkV], by simp [bkV], fun p => ⟨by simp, hA ⟨sayL s.O ⟨A1B, x.k, x.v, x.f⟩ s.t, s.now, s.ch, s.t⟩ ⟨g1, g2, g3, g4, by simp only; omega⟩⟩, fun p => ?_⟩
      have p : clE ⟨A1B, x.k, x.v, x.f⟩ = 0 := by simpa [bkV] using p
      have hb0 : AV.prj (bkV ⟨A1B, x.k, x.v, x.f⟩) 0 = .string (whatS ⟨A1B, x.k, x.v, x.f⟩ ++ spB ++ A1B) := by unfold bkV; rw [if_pos p]; rfl
      simp only [hb0]
      refine ⟨_, parse_back p, by simp [encL], by simp, by simp, by simp, by simp, by simp, by simp, by simp, by simp, by simp, ?_⟩
      have e0 : AV.cel (AV.prj (.tup [cl ⟨A1B, x.k, x.v, x.f⟩, .bool true, .int 0]) 0) 0 = .string A1B := rfl
      have e1 : AV.cel (AV.prj (.tup [cl ⟨A1B, x.k, x.v, x.f⟩, .bool true, .int 0]) 0) 1 = .int x.k := rfl
      have e2 : AV.cel (AV.prj (.tup [cl ⟨A1B, x.k, x.v, x.f⟩, .bool true, .int 0]) 0) 2 = .int x.v := rfl
      have e3 : AV.cel (AV.prj (.tup [cl ⟨A1B, x.k, x.v, x.f⟩, .bool true, .int 0]) 0) 3 = .string x.f := rfl
      simp only [av_quo, e0, e1, e2, e3]
      refine ⟨_, pickm_fn _ ⟨by omega, by omega⟩, by simp, ?_⟩
      have hdb := pickM_bd (m := 80) (a := IntKind.i64.wrap (z.tdiv 3)) ⟨by omega, by omega⟩
      generalize pickM 80 (IntKind.i64.wrap (z.tdiv 3)) = d at *
      have aT : AV.bin Go.BinOp.add (.int s.t) (.int d) = .int (s.t + d) := by rw [av_add]; exact congrArg (fun z => AV.lit (.int .i64 z)) (wrap64 (by omega) (by omega))
      have eP : AV.eqPl [(0, EK.str), (1, (EK.int Go.IntKind.i64)), (2, (EK.int Go.IntKind.i64)), (3, EK.str)] [.string A1B, .int x.k, .int x.v, .string x.f] [.lit (.string ⟨#[65, 49]⟩), .int x.k, .int x.v, .string x.f] = .bool (decide (x.v = x.v)) := by simp [AV.eqPl, AV.eqc, eqD, A1B] <;> rfl
      have hE := said_then (r := ⟨A1B, x.k, x.v, x.f⟩) (d := d) q rfl rfl p hdb.1
      have hh := hear_fn (sayL s.O ⟨A1B, x.k, x.v, x.f⟩ s.t) ⟨A1B, x.k, x.v, x.f⟩ (s.t + d)
      have hh1 : AV.prj (heaV (sayL s.O ⟨A1B, x.k, x.v, x.f⟩ s.t) ⟨A1B, x.k, x.v, x.f⟩ (s.t + d)) 1 = .int (heaE (sayL s.O ⟨A1B, x.k, x.v, x.f⟩ s.t) ⟨A1B, x.k, x.v, x.f⟩ (s.t + d)) := rfl
      have hh0 : AV.prj (heaV (sayL s.O ⟨A1B, x.k, x.v, x.f⟩ s.t) ⟨A1B, x.k, x.v, x.f⟩ (s.t + d)) 0 = ros (heaL (sayL s.O ⟨A1B, x.k, x.v, x.f⟩ s.t) ⟨A1B, x.k, x.v, x.f⟩ (s.t + d)) := rfl
      simp only [aT]
      refine ⟨_, hh, ?_⟩
      simp only [hh1, hh0]
      refine ⟨by simp [AV.eqPlOk, okA], by rw [eP]; simp, ?_⟩
      rw [eP]
      generalize heaL (sayL s.O ⟨A1B, x.k, x.v, x.f⟩ s.t) ⟨A1B, x.k, x.v, x.f⟩ (s.t + d) = O2 at *
      generalize heaE (sayL s.O ⟨A1B, x.k, x.v, x.f⟩ s.t) ⟨A1B, x.k, x.v, x.f⟩ (s.t + d) = E at *
      clear hh hh0 hh1 eP hb0
      refine ⟨fun w => ?_, fun w => ?_⟩
      · have w : x.v = x.v := rfl
        have hE' : E = if s.t + d > 200000 then 12 else if d > 40 then 21 else 0 := by rw [hE]; simp [w]
        clear hE
        refine ⟨by simp, by simp, by simp [w], by simp, by simp, by simp, rfl, fun u => ?_, fun u => ?_⟩
        · have hT : s.t + d > 200000 := Classical.byContradiction fun hT => by
            rw [if_neg hT] at hE'
            by_cases h40 : d > 40
            · rw [if_pos h40] at hE'; subst hE'; simp [AV.neB, isT] at u; omega
            · rw [if_neg h40] at hE'; subst hE'; simp [AV.neB, isT] at u; omega
          rw [if_pos hT] at hE'
          subst hE'
          exact ⟨by simp, by simp, rfl, u, by simp, by simp; omega, by simp, by simp, fun _ => ⟨by simp, hA ⟨sayL s.O ⟨A1B, x.k, x.v, x.f⟩ s.t, s.now, s.ch, s.t⟩ ⟨g1, g2, g3, g4, by simp only; omega⟩⟩, fun v => absurd v (by simp)⟩
        · refine ⟨rfl, u, by simp, by simp, fun _ => ⟨by simp, hA ⟨sayL s.O ⟨A1B, x.k, x.v, x.f⟩ s.t, s.now, s.ch, s.t⟩ ⟨g1, g2, g3, g4, by simp only; omega⟩⟩, fun v => ?_⟩
          have v : E = 0 := by simpa using v
          subst v
          have hT : ¬ s.t + d > 200000 := fun hT => by rw [if_pos hT] at hE'; cases hE'
          obtain ⟨o, eo, hof, ho1, ho2⟩ := eff_fn s.now ⟨A1B, x.k, x.v, x.f⟩ (s.t + d) k ⟨0, 0⟩ hxv.1 hxv.2
          have hol : o.length ≤ 1000 := by
            by_cases z0 : eo = 0
            · have := tE_ok (ho1 z0); omega
            · rw [ho2 z0]; simp
          have p0 : AV.prj (.tup [tube o, .int eo]) 0 = tube o := rfl
          have p1 : AV.prj (.tup [tube o, .int eo]) 1 = .int eo := rfl
          have hmn : AV.mn (.int (s.t + d)) (.int 200000) = .int (s.t + d) := by
            show AV.lit (.int .i64 (if (200000 : Int) < s.t + d then 200000 else s.t + d)) = _
            rw [if_neg (by omega)]
          have hch : AV.bin Go.BinOp.add (.int (s.ch : Nat)) (.int 1) = .int ((s.ch + 1 : Nat) : Int) := by rw [av_add]; exact congrArg (fun z => AV.lit (.int .i64 z)) (by rw [wrap64 (by omega) (by omega)]; omega)
          skip
          refine ⟨by simp, _, hof, by simp, _, hof, ?_⟩
          simp only [p0, p1, hmn, hch]
          refine ⟨by simp, by simp, by simp, _, equal_fn o hol, by simp, by simp, by simp, by simp, by simp, by simp, by simp, fun a => ?_, fun a => ?_⟩
          · have a : eo = 0 := by simpa using a
            exact ⟨by simp, by simp, by simp, by simp, by simp, hA ⟨O2, o, s.ch + 1, s.t + d⟩ ⟨ho1 a, fun h => by simp at h, by simp only; omega, by simp only; omega, by simp only; omega⟩⟩
          · exact ⟨by simp, by simp, by simp, by simp, hA ⟨O2, s.now, s.ch, s.t + d⟩ ⟨g1, g2, by simp only; omega, by simp only; omega, by simp only; omega⟩⟩
      · exact absurd w (by simp)
    · skip
      refine ⟨_, back_fn ⟨A1B, x.k, x.v, x.f⟩, by simp [bkV], by simp [bkV], fun p => ⟨by simp, hA ⟨sayL s.O ⟨A1B, x.k, x.v, x.f⟩ s.t, s.now, s.ch, s.t⟩ ⟨g1, g2, g3, g4, by simp only; omega⟩⟩, fun p => ?_⟩
      have p : clE ⟨A1B, x.k, x.v, x.f⟩ = 0 := by simpa [bkV] using p
      have hb0 : AV.prj (bkV ⟨A1B, x.k, x.v, x.f⟩) 0 = .string (whatS ⟨A1B, x.k, x.v, x.f⟩ ++ spB ++ A1B) := by unfold bkV; rw [if_pos p]; rfl
      simp only [hb0]
      refine ⟨_, parse_back p, by simp [encL], by simp, by simp, by simp, by simp, by simp, by simp, by simp, by simp, by simp, ?_⟩
      have e0 : AV.cel (AV.prj (.tup [cl ⟨A1B, x.k, x.v, x.f⟩, .bool true, .int 0]) 0) 0 = .string A1B := rfl
      have e1 : AV.cel (AV.prj (.tup [cl ⟨A1B, x.k, x.v, x.f⟩, .bool true, .int 0]) 0) 1 = .int x.k := rfl
      have e2 : AV.cel (AV.prj (.tup [cl ⟨A1B, x.k, x.v, x.f⟩, .bool true, .int 0]) 0) 2 = .int x.v := rfl
      have e3 : AV.cel (AV.prj (.tup [cl ⟨A1B, x.k, x.v, x.f⟩, .bool true, .int 0]) 0) 3 = .string x.f := rfl
      simp only [av_quo, e0, e1, e2, e3]
      refine ⟨_, pickm_fn _ ⟨by omega, by omega⟩, by simp, ?_⟩
      have hdb := pickM_bd (m := 80) (a := IntKind.i64.wrap (z.tdiv 3)) ⟨by omega, by omega⟩
      generalize pickM 80 (IntKind.i64.wrap (z.tdiv 3)) = d at *
      have aT : AV.bin Go.BinOp.add (.int s.t) (.int d) = .int (s.t + d) := by rw [av_add]; exact congrArg (fun z => AV.lit (.int .i64 z)) (wrap64 (by omega) (by omega))
      have eP : AV.eqPl [(0, EK.str), (1, (EK.int Go.IntKind.i64)), (2, (EK.int Go.IntKind.i64)), (3, EK.str)] [.string A1B, .int x.k, .int x.v, .string x.f] [.lit (.string ⟨#[65, 49]⟩), .int x.k, .int x.v, .string x.f] = .bool (decide (x.v = x.v)) := by simp [AV.eqPl, AV.eqc, eqD, A1B] <;> rfl
      have hE := said_then (r := ⟨A1B, x.k, x.v, x.f⟩) (d := d) q rfl rfl p hdb.1
      have hh := hear_fn (sayL s.O ⟨A1B, x.k, x.v, x.f⟩ s.t) ⟨A1B, x.k, x.v, x.f⟩ (s.t + d)
      have hh1 : AV.prj (heaV (sayL s.O ⟨A1B, x.k, x.v, x.f⟩ s.t) ⟨A1B, x.k, x.v, x.f⟩ (s.t + d)) 1 = .int (heaE (sayL s.O ⟨A1B, x.k, x.v, x.f⟩ s.t) ⟨A1B, x.k, x.v, x.f⟩ (s.t + d)) := rfl
      have hh0 : AV.prj (heaV (sayL s.O ⟨A1B, x.k, x.v, x.f⟩ s.t) ⟨A1B, x.k, x.v, x.f⟩ (s.t + d)) 0 = ros (heaL (sayL s.O ⟨A1B, x.k, x.v, x.f⟩ s.t) ⟨A1B, x.k, x.v, x.f⟩ (s.t + d)) := rfl
      simp only [aT]
      refine ⟨_, hh, ?_⟩
      simp only [hh1, hh0]
      refine ⟨by simp [AV.eqPlOk, okA], by rw [eP]; simp, ?_⟩
      rw [eP]
      generalize heaL (sayL s.O ⟨A1B, x.k, x.v, x.f⟩ s.t) ⟨A1B, x.k, x.v, x.f⟩ (s.t + d) = O2 at *
      generalize heaE (sayL s.O ⟨A1B, x.k, x.v, x.f⟩ s.t) ⟨A1B, x.k, x.v, x.f⟩ (s.t + d) = E at *
      clear hh hh0 hh1 eP hb0
      refine ⟨fun w => ?_, fun w => ?_⟩
      · have w : x.v = x.v := rfl
        have hE' : E = if s.t + d > 200000 then 12 else if d > 40 then 21 else 0 := by rw [hE]; simp [w]
        clear hE
        refine ⟨by simp, by simp, by simp [w], by simp, by simp, by simp, rfl, fun u => ?_, fun u => ?_⟩
        · have hT : s.t + d > 200000 := Classical.byContradiction fun hT => by
            rw [if_neg hT] at hE'
            by_cases h40 : d > 40
            · rw [if_pos h40] at hE'; subst hE'; simp [AV.neB, isT] at u; omega
            · rw [if_neg h40] at hE'; subst hE'; simp [AV.neB, isT] at u; omega
          rw [if_pos hT] at hE'
          subst hE'
          exact ⟨by simp, by simp, rfl, u, by simp, by simp; omega, by simp, by simp, fun _ => ⟨by simp, hA ⟨sayL s.O ⟨A1B, x.k, x.v, x.f⟩ s.t, s.now, s.ch, s.t⟩ ⟨g1, g2, g3, g4, by simp only; omega⟩⟩, fun v => absurd v (by simp)⟩
        · refine ⟨rfl, u, by simp, by simp, fun _ => ⟨by simp, hA ⟨sayL s.O ⟨A1B, x.k, x.v, x.f⟩ s.t, s.now, s.ch, s.t⟩ ⟨g1, g2, g3, g4, by simp only; omega⟩⟩, fun v => ?_⟩
          have v : E = 0 := by simpa using v
          subst v
          have hT : ¬ s.t + d > 200000 := fun hT => by rw [if_pos hT] at hE'; cases hE'
          obtain ⟨o, eo, hof, ho1, ho2⟩ := eff_fn s.now ⟨A1B, x.k, x.v, x.f⟩ (s.t + d) k ⟨0, 0⟩ hxv.1 hxv.2
          have hol : o.length ≤ 1000 := by
            by_cases z0 : eo = 0
            · have := tE_ok (ho1 z0); omega
            · rw [ho2 z0]; simp
          have p0 : AV.prj (.tup [tube o, .int eo]) 0 = tube o := rfl
          have p1 : AV.prj (.tup [tube o, .int eo]) 1 = .int eo := rfl
          have hmn : AV.mn (.int (s.t + d)) (.int 200000) = .int (s.t + d) := by
            show AV.lit (.int .i64 (if (200000 : Int) < s.t + d then 200000 else s.t + d)) = _
            rw [if_neg (by omega)]
          have hch : AV.bin Go.BinOp.add (.int (s.ch : Nat)) (.int 1) = .int ((s.ch + 1 : Nat) : Int) := by rw [av_add]; exact congrArg (fun z => AV.lit (.int .i64 z)) (by rw [wrap64 (by omega) (by omega)]; omega)
          skip
          refine ⟨by simp, _, hof, by simp, _, hof, ?_⟩
          simp only [p0, p1, hmn, hch]
          refine ⟨by simp, by simp, by simp, _, equal_fn o hol, by simp, by simp, by simp, by simp, by simp, by simp, by simp, fun a => ?_, fun a => ?_⟩
          · have a : eo = 0 := by simpa using a
            exact ⟨by simp, by simp, by simp, by simp, by simp, hA ⟨O2, o, s.ch + 1, s.t + d⟩ ⟨ho1 a, fun h => by simp at h, by simp only; omega, by simp only; omega, by simp only; omega⟩⟩
          · exact ⟨by simp, by simp, by simp, by simp, hA ⟨O2, s.now, s.ch, s.t + d⟩ ⟨g1, g2, by simp only; omega, by simp only; omega, by simp only; omega⟩⟩
      · exact absurd w (by simp)
  · rintro s K ⟨g1, g2, g3, g4, g5⟩
    simp only [List.getD_cons_zero, List.getD_cons_succ]
    refine ⟨by simp, by simp, fun q => absurd q (by simp), fun _ => ⟨_, tcheck_fn s.now, by simp, by simp, by simp [g1], by simp, by simp, fun m => ⟨by simp, m, by simp, by simp [g1], .lit _, rfl⟩, fun m => ?_⟩⟩
    have m0 : s.ch = 0 := by have : ¬ (s.ch : Int) > 0 := by simpa using m
                             omega
    rw [g2 m0]
    exact ⟨_, equal_fn l (by omega), by simp, m, by simp, by simp [hE], .lit _, rfl⟩
end Go.Proofs.YtcifjnhpgblnkaaGreatDoor
namespace Go.Proofs.YtcifjnhpgblnkaaGreatDoor
open Go.RowKit
set_option linter.unusedVariables false
set_option maxRecDepth 100000
namespace SepF
def Γ : FuncId → Option Ca := fun f =>
 if f = 201 then some (.fn (.tup [.sc, .sc]))
 else some .inl
def ann : FuncId → Nat → LoopEx := fun f r => ⟨[], [], [], []⟩
theorem sep_form (x0 x1 x2 r : AV) : fnF Tryz.prog Γ ann 3 215 Tryz.f215 (Tryz.f215.body.getD .skip) (.nil) [x0, x1, x2] (.sc) r = (((AV.isAgg x0 6) ∧
((AV.isAgg x1 6) ∧
((AV.isAgg x2 2) ∧
(∃ r641 : AV, ((Fn Tryz.prog 201 [(AV.agg [(AV.cel x0 1), (AV.cel x0 2)]), (AV.agg [(AV.cel x1 1), (AV.cel x1 2)])] (Sh.tup [Sh.sc, Sh.sc]) r641) ∧
((AV.binOk Go.BinOp.sub (AV.prj r641 0) (AV.cel x0 4)) ∧
(let +zeta σ4 := (AV.bin Go.BinOp.sub (AV.prj r641 0) (AV.cel x0 4))
((AV.binOk Go.BinOp.sub σ4 (AV.cel x1 4)) ∧
(let +zeta σ5 := (AV.bin Go.BinOp.sub σ4 (AV.cel x1 4))
((AV.binOk Go.BinOp.geq σ5 (AV.cel x2 0)) ∧
(let +zeta σ7 := (AV.bin Go.BinOp.geq σ5 (AV.cel x2 0))
 let +zeta σ10 := (AV.isBool σ7)
(σ10 ∧
((let +zeta σ8 := (isT σ7)
(σ8 →
(σ10 ∧
(σ8 ∧
((AV.flat (AV.bool true)) ∧
(fSame (AV.bool true) r)))))) ∧
(let +zeta σ9 := (isF σ7)
(σ9 →
(let +zeta σ0 := (AV.cel x0 3)
 let +zeta σ1 := (AV.cel x1 3)
((AV.binOk Go.BinOp.sub σ0 σ1) ∧
((AV.binOk Go.BinOp.sub σ1 σ0) ∧
(let +zeta σ2 := (AV.bin Go.BinOp.sub σ0 σ1)
((AV.isInt σ2) ∧
(let +zeta σ3 := (AV.bin Go.BinOp.sub σ1 σ0)
((AV.isInt σ3) ∧
(let +zeta σ6 := (AV.mx σ2 σ3)
((AV.binOk Go.BinOp.sub σ6 (AV.cel x0 5)) ∧
(let +zeta σ11 := (AV.bin Go.BinOp.sub σ6 (AV.cel x0 5))
((AV.binOk Go.BinOp.sub σ11 (AV.cel x1 5)) ∧
(let +zeta σ12 := (AV.bin Go.BinOp.sub σ11 (AV.cel x1 5))
((AV.binOk Go.BinOp.geq σ12 (AV.cel x2 1)) ∧
(σ10 ∧
(σ9 ∧
(let +zeta σ13 := (AV.bin Go.BinOp.geq σ12 (AV.cel x2 1))
((AV.flat σ13) ∧
(fSame σ13 r)))))))))))))))))))))))))))))))))) := by kernel_rfl
end SepF
end Go.Proofs.YtcifjnhpgblnkaaGreatDoor
namespace Go.Proofs.YtcifjnhpgblnkaaGreatDoor
open Go.RowKit
set_option linter.unusedVariables false
set_option linter.unusedSimpArgs false
set_option maxRecDepth 100000
structure Sp where
 la : Int
 ve : Int
def encSp (s : Sp) : List AV := [.int s.la, .int s.ve]
abbrev sp (s : Sp) : AV := .agg (encSp s)
def mxJ (a b : Int) : Int := if b > a then b else a
def sepB (a b : Nd) (s : Sp) : Bool := decide (wr (wr (disA a.p b.p - a.r) - b.r) ≥ s.la) || decide (wr (wr (mxJ (wr (a.h - b.h)) (wr (b.h - a.h)) - a.b) - b.b) ≥ s.ve)
theorem sep_fn (a b : Nd) (s : Sp) : Fn Tryz.prog 215 [nd a, nd b, sp s] .sc (.bool (sepB a b s)) := by
 have e := SepF.sep_form (nd a) (nd b) (sp s) (.bool (sepB a b s))
 have k := fun h => fn_run mixed 3 (Γ := SepF.Γ) (ann := SepF.ann) Tryz.func215 rfl Tryz.call215 (e.mpr h)
 refine k ?_
 clear k e
 have hd := dist_fn a.p b.p
 have hS : sepB a b s = (decide (wr (wr (disA a.p b.p - a.r) - b.r) ≥ s.la) || decide (wr (wr (mxJ (wr (a.h - b.h)) (wr (b.h - a.h)) - a.b) - b.b) ≥ s.ve)) := rfl
 rw [hS]
 generalize disA a.p b.p = D at *
 generalize disB a.p b.p = D2 at *
 obtain ⟨at_, ax, ay, ah, ar, ab⟩ := a
 obtain ⟨bt, bx, b_, bh, br, bb⟩ := b
 obtain ⟨la, ve⟩ := s
 refine ⟨by simp [encN], by simp [encN], by simp [encSp], _, hd, ?_⟩
 simp [encN, encSp]
 refine ⟨fun h => ⟨h, .inl h⟩, fun h => ⟨h, ?_⟩⟩
 have : ¬ la ≤ wr (wr (D - ar) - br) := by omega
 simp [this, mxJ]
theorem tat_eq (l : List Nd) (t : Int) {r : AV} (h : tatV l t = r) : Fn Tryz.prog 68 [tube l, .int t] (.tup [.sc, .sc]) r := h ▸ tat_fn l t
theorem sep_eq (a b : Nd) (s : Sp) {c : Bool} (h : sepB a b s = c) : Fn Tryz.prog 215 [nd a, nd b, sp s] .sc (.bool c) := h ▸ sep_fn a b s
end Go.Proofs.YtcifjnhpgblnkaaGreatDoor
namespace Go.Proofs.YtcifjnhpgblnkaaGreatDoor
open Go.RowKit
set_option linter.unusedVariables false
set_option maxRecDepth 100000
abbrev ν0 : AV := .int 1
abbrev ν1 : AV := .int 0
abbrev ν2 : AV := .int 2
abbrev ν3 : AV := .int 5
abbrev ν4 : AV := .int 50
abbrev ν5 : AV := .int 10
abbrev ν6 : AV := .int 60
abbrev ν7 : AV := .sl 1 []
abbrev ν8 : AV := .sl 5 []
abbrev ν9 : AV := .int 100
abbrev ν10 : AV := .int 300
abbrev ν11 : AV := .sl 4 []
abbrev ν12 : AV := .int (-1)
abbrev ν13 : AV := .int 9500
abbrev ν14 : AV := .int 9000
abbrev ν15 : AV := .int 1000
abbrev ν16 : AV := .int 1024
abbrev ν17 : AV := .bool true
abbrev ν18 : AV := .int 10000
abbrev ν19 : AV := .bool false
abbrev ν20 : AV := .string ⟨#[]⟩
abbrev ν21 : AV := .string ⟨#[65]⟩
abbrev ν22 : AV := .string ⟨#[66]⟩
abbrev ν23 : AV := .string ⟨#[32]⟩
abbrev ν24 : AV := .string ⟨#[82]⟩
abbrev ν25 : AV := .string ⟨#[83]⟩
abbrev ν26 : AV := .lit (.int .u8 32)
abbrev ν27 : AV := .sl 1 [[ν1]]
abbrev ν28 : AV := .sl 1 [[(.int 7)]]
abbrev ν29 : AV := .string ⟨#[65, 49]⟩
abbrev ν30 : AV := .lit (.float .f64 0)
abbrev ν31 : AV := .string ⟨#[74, 69, 84]⟩
abbrev ν32 : AV := .agg [ν0, ν1]
abbrev ν33 : AV := .agg [ν1, ν1]
abbrev ν34 : AV := .agg [ν0, ν0]
abbrev ν35 : AV := .string ⟨#[69, 65, 83, 84]⟩
abbrev ν36 : AV := .sl 1 [[ν21]]
abbrev ν37 : AV := .sl 1 [[ν22]]
abbrev ν38 : AV := .string ⟨#[57, 53, 48, 48]⟩
abbrev ν39 : AV := .sl 2 [[ν1, ν1]]
abbrev ν40 : AV := .agg [ν18, ν1]
abbrev ν41 : AV := .agg [ν9, (.int 500)]
abbrev ν42 : AV := .sl 2 [[ν1, ν5]]
abbrev ν43 : AV := .agg [(.int 16384), ν1]
abbrev ν44 : AV := .agg [ν19, ν0]
abbrev ν45 : AV := .agg [(.int (-10000)), ν1]
abbrev ν46 : AV := .agg [(.int 16384), (.int (-25))]
abbrev ν47 : AV := .string ⟨#[72, 69, 73, 71, 72, 84]⟩
abbrev ν48 : AV := .lit (.int .u64 4609753056924675352)
abbrev ν49 : AV := .lit (.int .u64 4670232813583204352)
abbrev ν50 : AV := .lit (.int .u64 4614256656552045848)
abbrev ν51 : AV := .lit (.int .u64 4609759965359980067)
abbrev ν52 : AV := .lit (.int .u64 4614260110769698206)
abbrev ν53 : AV := .sl 2 [[ν25, (.int 4)]]
abbrev ν54 : AV := .lit (.float .f64 4666723172467343360)
abbrev ν55 : AV := .lit (.float .f64 4609753056924675352)
abbrev ν56 : AV := .lit (.float .f64 4652218415073722368)
abbrev ν57 : AV := .lit (.float .f64 4607182418800017408)
abbrev ν58 : AV := .lit (.float .f64 4670232813583204352)
abbrev ν59 : AV := .lit (.float .f64 4614256656552045848)
abbrev ν60 : AV := .lit (.float .f64 4368955796522032128)
abbrev ν61 : AV := .lit (.float .f64 4432006191305219072)
abbrev ν62 : AV := .lit (.float .f64 4609759965359980067)
abbrev ν63 : AV := .lit (.float .f64 4607182408202612454)
abbrev ν64 : AV := .lit (.float .f64 4670232802985799398)
abbrev ν65 : AV := .lit (.float .f64 4614260110769698206)
abbrev ν66 : AV := .string ⟨#[57, 53, 48, 48, 32, 65, 49]⟩
abbrev ν67 : AV := .sl 3 [[ν1, ν5, ν0]]
abbrev ν68 : AV := .sl 3 [[ν1, ν5, ν1]]
abbrev ν69 : AV := .lit (.float .f64 13788089094731352032)
abbrev ν70 : AV := .lit (.float .f64 13851139489514538976)
abbrev ν71 : AV := .lit (.float .f64 13851102128954671104)
abbrev ν72 : AV := .sl 2 [[ν29, (.int 3)]]
abbrev ν73 : AV := .sl 1 [[ν21], [ν22]]
abbrev ν74 : AV := .sl 4 [[ν3, ν1, ν17, ν1]]
abbrev ν75 : AV := .sl 3 [[ν21, ν25, ν2]]
abbrev ν76 : AV := .sl 4 [[ν21, ν1, (.int 7), (.int 9)]]
abbrev ν77 : AV := .string ⟨#[72, 69, 73, 71, 72, 84, 32, 57, 53, 48, 48, 32, 65, 49]⟩
abbrev ν78 : AV := .agg [ν29, ν1, ν13, ν20]
abbrev ν79 : AV := .agg [ν1, ν1, ν1, ν14, ν1, ν1]
abbrev ν80 : AV := .agg [ν5, ν15, ν1, ν14, ν1, ν1]
abbrev ν81 : AV := .sl 6 [[ν9, ν18, ν1, ν14, ν1, ν1]]
abbrev ν82 : AV := .sl 3 [[ν29, ν35, ν20]]
abbrev ν83 : AV := .agg [ν31, ν0, (.int 40000), ν4, (.int 40), ν4, ν10]
abbrev ν84 : AV := .sl 2 [[ν21, ν36], [ν22, ν37]]
abbrev ν85 : AV := .sl 6 [[ν1, ν1, ν1, ν14, ν1, ν1], [ν9, ν18, ν1, ν14, ν1, ν1]]
abbrev ν86 : AV := .sl 6 [[ν3, ν1, ν1, ν14, ν1, ν1], [(.int 105), ν18, ν1, ν14, ν1, ν1]]
abbrev ν87 : AV := .sl 6 [[ν5, ν15, ν1, ν13, ν1, ν1], [ν9, ν18, ν1, ν13, ν1, ν1]]
abbrev ν88 : AV := .sl 1 [[ν85]]
abbrev ν89 : AV := .agg [ν6, ν6, ν6, ν6, (.int 120), ν6, ν6, ν6, (.int 180), (.int 120), (.int 90), ν6, (.int 240), (.int 180), (.int 120), (.int 120)]
abbrev ν90 : AV := .sl 6 [[ν1, ν1, ν1, ν14, ν1, ν1], [ν5, ν15, ν1, ν13, ν1, ν1], [ν9, ν18, ν1, ν13, ν1, ν1]]
abbrev ν91 : AV := .sl 1 [[ν47], [(.string ⟨#[72, 69, 65, 68, 73, 78, 71]⟩)], [(.string ⟨#[83, 80, 69, 69, 68]⟩)], [(.string ⟨#[68, 73, 82, 69, 67, 84]⟩)], [(.string ⟨#[72, 79, 76, 68]⟩)], [(.string ⟨#[67, 79, 78, 84, 65, 67, 84]⟩)], [(.string ⟨#[76, 65, 78, 68]⟩)]]
abbrev ν92 : AV := .agg [ν29, ν1, ν13, ν20, (.sl 6 []), ν81, ν1, ν1, ν1, ν14, ν1, ν1, ν31, ν0, (.int 40000), ν4, (.int 40), ν4, ν10, ν1, ν1, ν85]
theorem w0 : Fn Tryz.prog 21 [] (.tup [.sc, .sc]) (.tup [ν32, ν33]) := ev_run mixed ⟨[], [], [], [], [], []⟩ 24 (.n 0) Tryz.func21 rfl Tryz.call21 (by kernel_rfl)
theorem w1 : Fn Tryz.prog 72 [ν32] .sc ν1 := ev_run mixed ⟨[], [], [], [], [], []⟩ 24 (.n 0) Tryz.func72 rfl Tryz.call72 (by kernel_rfl)
theorem w2 : Fn Tryz.prog 22 [ν32] (.tup [.sc, .sc, .sc]) (.tup [(.agg [ν2, ν1]), ν44, ν1]) := ev_run mixed ⟨[⟨72, .sc, [en w1]⟩], [], [], [], [], []⟩ 24 (.n 0) Tryz.func22 rfl Tryz.call22 (by kernel_rfl)
theorem w3 : Fn Tryz.prog 72 [ν33] .sc ν1 := ev_run mixed ⟨[], [], [], [], [], []⟩ 24 (.n 0) Tryz.func72 rfl Tryz.call72 (by kernel_rfl)
theorem w4 : Fn Tryz.prog 23 [ν33, ν44] (.tup [.sc, .sc, .sc, .sc]) (.tup [ν34, (.agg [ν17, ν0]), ν17, ν1]) := ev_run mixed ⟨[⟨72, .sc, [en w3]⟩], [], [], [], [], []⟩ 24 (.n 0) Tryz.func23 rfl Tryz.call23 (by kernel_rfl)
theorem w5 : Fn Tryz.prog 73 [(.sl 3 [])] .sc ν1 := ev_run mixed ⟨[], [], [], [], [], []⟩ 24 (.n 0) Tryz.func73 rfl Tryz.call73 (by kernel_rfl)
theorem w6 : Fn Tryz.prog 74 [(.sl 3 []), ν29] (.tup [.sc, .sc]) (.tup [ν1, ν19]) := ev_run mixed ⟨[], [], [], [], [], [⟨136, Tryz.call136⟩]⟩ 24 (.n 1) Tryz.func74 rfl Tryz.call74 (by kernel_rfl)
theorem w7 : Fn Tryz.prog 78 [ν29] .sc ν17 := ev_run mixed ⟨[], [], [], [], [], []⟩ 24 (.n 0) Tryz.func78 rfl Tryz.call78 (by kernel_rfl)
theorem w8 : Fn Tryz.prog 75 [ν29] .sc ν17 := ev_run mixed ⟨[⟨78, .sc, [en w7]⟩], [], [], [], [], []⟩ 24 (.n 0) Tryz.func75 rfl Tryz.call75 (by kernel_rfl)
theorem w9 : Fn Tryz.prog 78 [ν35] .sc ν17 := ev_run mixed ⟨[], [], [], [], [], []⟩ 24 (.n 0) Tryz.func78 rfl Tryz.call78 (by kernel_rfl)
theorem w10 : Fn Tryz.prog 75 [ν35] .sc ν17 := ev_run mixed ⟨[⟨78, .sc, [en w9]⟩], [], [], [], [], []⟩ 24 (.n 0) Tryz.func75 rfl Tryz.call75 (by kernel_rfl)
theorem w11 : Fn Tryz.prog 77 [(.sl 3 [])] (.row 134 3 true) (.sl 3 []) := ev_run mixed ⟨[], [], [], [], [], []⟩ 24 (.b 0 (.n 0) (.n 0)) Tryz.func77 rfl Tryz.call77 (by kernel_rfl)
theorem w12 : Fn Tryz.prog 24 [(.sl 3 []), ν29, ν35] (.tup [(.row 134 3 true), .sc]) (.tup [ν82, ν1]) := ev_run mixed ⟨[⟨73, .sc, [en w5]⟩, ⟨74, (.tup [.sc, .sc]), [en w6]⟩, ⟨75, .sc, [en w8, en w10]⟩, ⟨77, (.row 134 3 true), [en w11]⟩], [], [⟨76, true, [eu (insOwn [] [[ν29, ν35, ν20]] 0 (by decide) (by decide) ((default : Chk (AV.flatS ν82)).ok rfl) (by decide))]⟩], [], [], []⟩ 24 (.n 0) Tryz.func24 rfl Tryz.call24 (by kernel_rfl)
theorem w13 : Fn Tryz.prog 78 [ν21] .sc ν17 := ev_run mixed ⟨[], [], [], [], [], []⟩ 24 (.n 0) Tryz.func78 rfl Tryz.call78 (by kernel_rfl)
theorem w14 : Fn Tryz.prog 140 [ν7, ν21] .sc ν12 := ev_run mixed ⟨[], [], [], [], [], []⟩ 24 (.n 0) Tryz.func140 rfl Tryz.call140 (by kernel_rfl)
theorem w15 : Fn Tryz.prog 79 [ν7, ν21] .sc ν19 := ev_run mixed ⟨[⟨140, .sc, [en w14]⟩], [], [], [], [], []⟩ 24 (.n 0) Tryz.func79 rfl Tryz.call79 (by kernel_rfl)
theorem w16 : Fn Tryz.prog 78 [ν22] .sc ν17 := ev_run mixed ⟨[], [], [], [], [], []⟩ 24 (.n 0) Tryz.func78 rfl Tryz.call78 (by kernel_rfl)
theorem w17 : Fn Tryz.prog 140 [ν36, ν22] .sc ν12 := ev_run mixed ⟨[], [], [], [], [], []⟩ 24 (.n 0) Tryz.func140 rfl Tryz.call140 (by kernel_rfl)
theorem w18 : Fn Tryz.prog 79 [ν36, ν22] .sc ν19 := ev_run mixed ⟨[⟨140, .sc, [en w17]⟩], [], [], [], [], []⟩ 24 (.n 0) Tryz.func79 rfl Tryz.call79 (by kernel_rfl)
theorem w19 : Fn Tryz.prog 182 [(.lit (.int .u64 2))] .sc ν2 := ev_run mixed ⟨[], [], [], [], [], []⟩ 24 (.n 0) Tryz.func182 rfl Tryz.call182 (by kernel_rfl)
theorem w20 : Fn Tryz.prog 114 [(.lit (.int .u64 2))] .sc ν2 := ev_run mixed ⟨[⟨182, .sc, [en w19]⟩], [], [], [], [], []⟩ 24 (.n 0) Tryz.func114 rfl Tryz.call114 (by kernel_rfl)
theorem w21 : Fn Tryz.prog 204 [ν22, ν21] .sc ν0 := ev_run mixed ⟨[], [⟨262, [ex (show FnE Tryz.prog 262 [ν22, ν21] ν0 from x_cmp (fun w => by kernel_rfl))]⟩], [], [], [], []⟩ 24 (.n 0) Tryz.func204 rfl Tryz.call204 (by kernel_rfl)
theorem w22 : Fn Tryz.prog 143 [ν22, ν21] .sc ν0 := ev_run mixed ⟨[⟨204, .sc, [en w21]⟩], [], [], [], [], []⟩ 24 (.n 0) Tryz.func143 rfl Tryz.call143 (by kernel_rfl)
theorem w23 : Fn Tryz.prog 142 [(.agg [ν22, ν37]), (.agg [ν21, ν36])] .sc ν0 := ev_run mixed ⟨[⟨143, .sc, [en w22]⟩], [], [], [], [], []⟩ 24 (.n 0) Tryz.func142 rfl Tryz.call142 (by kernel_rfl)
theorem w24 : Fn Tryz.prog 25 [ν73] (.tup [(.row 136 2 false), .sc]) (.tup [ν84, ν1]) := ev_run mixed ⟨[⟨78, .sc, [en w13, en w16]⟩, ⟨79, .sc, [en w15, en w18]⟩, ⟨114, .sc, [en w20]⟩, ⟨142, .sc, [en w23]⟩], [], [], [], [], [⟨254, Tryz.call254⟩, ⟨203, Tryz.call203⟩, ⟨141, Tryz.call141⟩, ⟨80, Tryz.call80⟩]⟩ 24 (.n 4) Tryz.func25 rfl Tryz.call25 (by kernel_rfl)
theorem w25 : Fn Tryz.prog 81 [ν84] .sc ν1 := ev_run mixed ⟨[⟨78, .sc, [en w13, en w16]⟩, ⟨79, .sc, [en w15, en w18]⟩], [], [], [], [], []⟩ 24 (.n 0) Tryz.func81 rfl Tryz.call81 (by kernel_rfl)
theorem w26 : Fn Tryz.prog 82 [ν84, ν21] .sc ν1 := ev_run mixed ⟨[], [], [], [], [], [⟨145, Tryz.call145⟩, ⟨144, Tryz.call144⟩]⟩ 24 (.n 2) Tryz.func82 rfl Tryz.call82 (by kernel_rfl)
theorem w27 : Fn Tryz.prog 82 [ν84, ν22] .sc ν0 := ev_run mixed ⟨[], [], [], [], [], [⟨145, Tryz.call145⟩, ⟨144, Tryz.call144⟩]⟩ 24 (.n 3) Tryz.func82 rfl Tryz.call82 (by kernel_rfl)
theorem w28 : Fn Tryz.prog 115 [ν22] .sc ν19 := ev_run mixed ⟨[], [], [], [], [], []⟩ 24 (.n 0) Tryz.func115 rfl Tryz.call115 (by kernel_rfl)
theorem w29 : Fn Tryz.prog 211 [ν22, ν21] .sc ν19 := ev_run mixed ⟨[⟨115, .sc, [en w28]⟩], [], [], [], [], []⟩ 24 (.n 0) Tryz.func211 rfl Tryz.call211 (by kernel_rfl)
theorem w30 : Fn Tryz.prog 26 [ν84, ν21, ν22] (.tup [(.row 136 2 false), .sc]) (.tup [(.sl 2 [[ν21, ν73]]), ν1]) := ev_run mixed ⟨[⟨81, .sc, [en w25]⟩, ⟨82, .sc, [en w26, en w27]⟩, ⟨114, .sc, [en w20]⟩, ⟨211, .sc, [en w29]⟩], [], [⟨85, true, [eu (delCg [[ν21, ν73], [ν22, ν37]] 1 2 (by decide) (by decide))]⟩], [⟨83, 136, 2, 1, 9, 9, [eq_ (copied_fn [⟨⟨#[65]⟩, [⟨#[65]⟩]⟩, ⟨⟨#[66]⟩, [⟨#[66]⟩]⟩] (by unfold Small; decide))]⟩], [(26, 300012, [1729])], [⟨205, Tryz.call205⟩, ⟨148, Tryz.call148⟩, ⟨84, Tryz.call84⟩]⟩ 24 (.n 3) Tryz.func26 rfl Tryz.call26 (by kernel_rfl)
theorem w31 : Fn Tryz.prog 140 [ν91, ν29] .sc ν12 := ev_run mixed ⟨[], [], [], [], [], []⟩ 24 (.n 0) Tryz.func140 rfl Tryz.call140 (by kernel_rfl)
theorem w32 : Fn Tryz.prog 126 [ν29] .sc ν12 := ev_run mixed ⟨[⟨140, .sc, [en w31]⟩], [], [], [], [], []⟩ 24 (.n 0) Tryz.func126 rfl Tryz.call126 (by kernel_rfl)
theorem w33 : Fn Tryz.prog 123 [ν29] .sc ν17 := ev_run mixed ⟨[⟨78, .sc, [en w7]⟩, ⟨126, .sc, [en w32]⟩], [], [], [], [], []⟩ 24 (.n 0) Tryz.func123 rfl Tryz.call123 (by kernel_rfl)
theorem w34 : Fn Tryz.prog 58 [ν78] .sc ν1 := ev_run mixed ⟨[⟨123, .sc, [en w33]⟩], [], [], [], [], []⟩ 24 (.n 0) Tryz.func58 rfl Tryz.call58 (by kernel_rfl)
theorem w35 : Fn Tryz.prog 59 [ν78] .sc (.string ⟨#[72, 69, 73, 71, 72, 84, 32, 57, 53, 48, 48]⟩) := ev_run mixed ⟨[⟨124, .sc, [en (itoa_eq 9500 (by decide) (by decide) (s := ⟨#[57, 53, 48, 48]⟩) (by kernel_rfl))]⟩], [], [], [], [], []⟩ 24 (.n 0) Tryz.func59 rfl Tryz.call59 (by kernel_rfl)
theorem w36 : Fn Tryz.prog 15 [ν78] (.tup [.sc, .sc]) (.tup [ν77, ν1]) := ev_run mixed ⟨[⟨58, .sc, [en w34]⟩, ⟨59, .sc, [en w35]⟩], [], [], [], [], []⟩ 24 (.n 0) Tryz.func15 rfl Tryz.call15 (by kernel_rfl)
theorem w37 : Fn Tryz.prog 186 [ν77, ν23] .sc ν2 := ev_run mixed ⟨[], [⟨239, [ex (show FnE Tryz.prog 239 [ν77, ν26] ν2 from x_count (fun w => by kernel_rfl))]⟩], [], [], [], []⟩ 24 (.n 0) Tryz.func186 rfl Tryz.call186 (by kernel_rfl)
theorem w38 : Fn Tryz.prog 289 [ν77, ν26] .sc (.int 6) := ev_run mixed ⟨[], [⟨316, [ex (show FnE Tryz.prog 316 [ν77, ν26] (.int 6) from x_idx (fun w => by kernel_rfl))]⟩], [], [], [], []⟩ 24 (.n 0) Tryz.func289 rfl Tryz.call289 (by kernel_rfl)
theorem w39 : Fn Tryz.prog 240 [ν77, ν23] .sc (.int 6) := ev_run mixed ⟨[⟨289, .sc, [en w38]⟩], [], [], [], [], []⟩ 24 (.n 0) Tryz.func240 rfl Tryz.call240 (by kernel_rfl)
theorem w40 : Fn Tryz.prog 187 [ν77, ν23] .sc (.int 6) := ev_run mixed ⟨[⟨240, .sc, [en w39]⟩], [], [], [], [], []⟩ 24 (.n 0) Tryz.func187 rfl Tryz.call187 (by kernel_rfl)
theorem w41 : Fn Tryz.prog 289 [ν66, ν26] .sc (.int 4) := ev_run mixed ⟨[], [⟨316, [ex (show FnE Tryz.prog 316 [ν66, ν26] (.int 4) from x_idx (fun w => by kernel_rfl))]⟩], [], [], [], []⟩ 24 (.n 0) Tryz.func289 rfl Tryz.call289 (by kernel_rfl)
theorem w42 : Fn Tryz.prog 240 [ν66, ν23] .sc (.int 4) := ev_run mixed ⟨[⟨289, .sc, [en w41]⟩], [], [], [], [], []⟩ 24 (.n 0) Tryz.func240 rfl Tryz.call240 (by kernel_rfl)
theorem w43 : Fn Tryz.prog 187 [ν66, ν23] .sc (.int 4) := ev_run mixed ⟨[⟨240, .sc, [en w42]⟩], [], [], [], [], []⟩ 24 (.n 0) Tryz.func187 rfl Tryz.call187 (by kernel_rfl)
theorem w44 : Fn Tryz.prog 140 [ν91, ν38] .sc ν12 := ev_run mixed ⟨[], [], [], [], [], []⟩ 24 (.n 0) Tryz.func140 rfl Tryz.call140 (by kernel_rfl)
theorem w45 : Fn Tryz.prog 126 [ν38] .sc ν12 := ev_run mixed ⟨[⟨140, .sc, [en w44]⟩], [], [], [], [], []⟩ 24 (.n 0) Tryz.func126 rfl Tryz.call126 (by kernel_rfl)
theorem w46 : Fn Tryz.prog 61 [ν47, ν38, ν29] (.tup [.sc, .sc]) (.tup [(.agg [ν47, ν12, ν1, ν20]), ν19]) := ev_run mixed ⟨[⟨126, .sc, [en w45]⟩], [], [], [], [], []⟩ 24 (.n 0) Tryz.func61 rfl Tryz.call61 (by kernel_rfl)
theorem w47 : Fn Tryz.prog 140 [ν91, ν47] .sc ν1 := ev_run mixed ⟨[], [], [], [], [], []⟩ 24 (.n 0) Tryz.func140 rfl Tryz.call140 (by kernel_rfl)
theorem w48 : Fn Tryz.prog 126 [ν47] .sc ν1 := ev_run mixed ⟨[⟨140, .sc, [en w47]⟩], [], [], [], [], []⟩ 24 (.n 0) Tryz.func126 rfl Tryz.call126 (by kernel_rfl)
theorem w49 : Fn Tryz.prog 61 [ν29, ν47, ν38] (.tup [.sc, .sc]) (.tup [ν78, ν17]) := ev_run mixed ⟨[⟨126, .sc, [en w48]⟩, ⟨124, .sc, [en (itoa_eq 9500 (by decide) (by decide) (s := ⟨#[57, 53, 48, 48]⟩) (by kernel_rfl))]⟩], [], [], [], [], [⟨188, Tryz.call188⟩, ⟨127, Tryz.call127⟩]⟩ 24 (.n 2) Tryz.func61 rfl Tryz.call61 (by kernel_rfl)
theorem w50 : Fn Tryz.prog 16 [ν77] (.tup [.sc, .sc, .sc]) (.tup [ν78, ν17, ν1]) := ev_run mixed ⟨[⟨186, .sc, [en w37]⟩, ⟨187, .sc, [en w40, en w43]⟩, ⟨61, (.tup [.sc, .sc]), [en w46, en w49]⟩, ⟨58, .sc, [en w34]⟩], [], [], [], [], [⟨125, Tryz.call125⟩, ⟨60, Tryz.call60⟩]⟩ 24 (.n 2) Tryz.func16 rfl Tryz.call16 (by kernel_rfl)
theorem w51 : Fn Tryz.prog 119 [ν8] .sc ν1 := ev_run mixed ⟨[], [], [], [], [], []⟩ 24 (.n 0) Tryz.func119 rfl Tryz.call119 (by kernel_rfl)
theorem w52 : Fn Tryz.prog 120 [ν8, ν1] .sc ν19 := ev_run mixed ⟨[], [], [], [], [], []⟩ 24 (.n 0) Tryz.func120 rfl Tryz.call120 (by kernel_rfl)
theorem w53 : Fn Tryz.prog 54 [ν8, ν78, ν1] .sc ν1 := ev_run mixed ⟨[⟨119, .sc, [en w51]⟩, ⟨58, .sc, [en w34]⟩, ⟨120, .sc, [en w52]⟩], [], [], [], [], []⟩ 24 (.n 0) Tryz.func54 rfl Tryz.call54 (by kernel_rfl)
theorem w54 : Fn Tryz.prog 55 [ν8] (.row 160 5 true) ν8 := ev_run mixed ⟨[], [], [], [], [], []⟩ 24 (.b 0 (.n 0) (.n 0)) Tryz.func55 rfl Tryz.call55 (by kernel_rfl)
theorem w55 : Fn Tryz.prog 56 [ν8, ν78] .sc ν12 := ev_run mixed ⟨[], [], [], [], [], [⟨121, Tryz.call121⟩]⟩ 24 (.n 1) Tryz.func56 rfl Tryz.call56 (by kernel_rfl)
theorem w56 : Fn Tryz.prog 14 [ν8, ν78, ν1] (.tup [(.row 160 5 true), .sc]) (.tup [(.sl 5 [[ν29, ν1, ν13, ν20, ν1]]), ν1]) := ev_run mixed ⟨[⟨54, .sc, [en w53]⟩, ⟨55, (.row 160 5 true), [en w54]⟩, ⟨56, .sc, [en w55]⟩], [], [], [], [], []⟩ 24 (.n 0) Tryz.func14 rfl Tryz.call14 (by kernel_rfl)
theorem w57 : Fn Tryz.prog 27 [ν1] (.row 54 6 true) ν85 := ev_run mixed ⟨[], [], [], [], [], []⟩ 24 (.n 0) Tryz.func27 rfl Tryz.call27 (by kernel_rfl)
theorem w58 : Fn Tryz.prog 28 [] .sc ν83 := ev_run mixed ⟨[], [], [], [], [], []⟩ 24 (.n 0) Tryz.func28 rfl Tryz.call28 (by kernel_rfl)
theorem w59 : Fn Tryz.prog 67 [ν33] .sc ν1 := ev_run mixed ⟨[], [], [], [], [], []⟩ 24 (.n 0) Tryz.func67 rfl Tryz.call67 (by kernel_rfl)
theorem w60 : Fn Tryz.prog 67 [ν40] .sc ν1 := ev_run mixed ⟨[], [], [], [], [], []⟩ 24 (.n 0) Tryz.func67 rfl Tryz.call67 (by kernel_rfl)
theorem w61 : Fn Tryz.prog 20 [ν85] .sc ν1 := ev_run mixed ⟨[⟨67, .sc, [en w59, en w60]⟩], [], [], [], [], []⟩ 24 (.n 0) Tryz.func20 rfl Tryz.call20 (by kernel_rfl)
theorem w62 : Fn Tryz.prog 62 [(.ref [ν85])] .sc ν1 := ev_run mixed ⟨[⟨20, .sc, [en w61]⟩], [], [], [], [], []⟩ 24 (.n 0) Tryz.func62 rfl Tryz.call62 (by kernel_rfl)
theorem w63 : Fn Tryz.prog 63 [(.ref [ν29, ν1, ν13, ν20])] .sc ν1 := ev_run mixed ⟨[⟨58, .sc, [en w34]⟩], [], [], [], [], []⟩ 24 (.n 0) Tryz.func63 rfl Tryz.call63 (by kernel_rfl)
theorem w64 : Fn Tryz.prog 78 [ν31] .sc ν17 := ev_run mixed ⟨[], [], [], [], [], []⟩ 24 (.n 0) Tryz.func78 rfl Tryz.call78 (by kernel_rfl)
theorem w65 : Fn Tryz.prog 128 [(.int 40000), (.int 60000)] .sc ν19 := ev_run mixed ⟨[], [], [], [], [], []⟩ 24 (.n 0) Tryz.func128 rfl Tryz.call128 (by kernel_rfl)
theorem w66 : Fn Tryz.prog 128 [ν4, (.int 200)] .sc ν19 := ev_run mixed ⟨[], [], [], [], [], []⟩ 24 (.n 0) Tryz.func128 rfl Tryz.call128 (by kernel_rfl)
theorem w67 : Fn Tryz.prog 128 [(.int 40), (.int 200)] .sc ν19 := ev_run mixed ⟨[], [], [], [], [], []⟩ 24 (.n 0) Tryz.func128 rfl Tryz.call128 (by kernel_rfl)
theorem w68 : Fn Tryz.prog 128 [ν4, (.int 400)] .sc ν19 := ev_run mixed ⟨[], [], [], [], [], []⟩ 24 (.n 0) Tryz.func128 rfl Tryz.call128 (by kernel_rfl)
theorem w69 : Fn Tryz.prog 128 [ν10, (.int 400)] .sc ν19 := ev_run mixed ⟨[], [], [], [], [], []⟩ 24 (.n 0) Tryz.func128 rfl Tryz.call128 (by kernel_rfl)
theorem w70 : Fn Tryz.prog 65 [ν83] .sc ν1 := ev_run mixed ⟨[⟨78, .sc, [en w64]⟩, ⟨128, .sc, [en w65, en w66, en w67, en w68, en w69]⟩], [], [], [], [], []⟩ 24 (.n 0) Tryz.func65 rfl Tryz.call65 (by kernel_rfl)
theorem w71 : Fn Tryz.prog 64 [(.ref [ν31, ν0, (.int 40000), ν4, (.int 40), ν4, ν10])] .sc ν1 := ev_run mixed ⟨[⟨65, .sc, [en w70]⟩], [], [], [], [], []⟩ 24 (.n 0) Tryz.func64 rfl Tryz.call64 (by kernel_rfl)
theorem w72 : Fn Tryz.prog 66 [(.ref [ν1, ν1])] .sc ν1 := ev_run mixed ⟨[⟨67, .sc, [en w59]⟩], [], [], [], [], []⟩ 24 (.n 0) Tryz.func66 rfl Tryz.call66 (by kernel_rfl)
theorem w73 : Fn Tryz.prog 193 [(.int 500), ν4] (.tup [.sc, .sc]) (.tup [ν5, ν1]) := ev_run mixed ⟨[], [], [], [], [], []⟩ 24 (.n 0) Tryz.func193 rfl Tryz.call193 (by kernel_rfl)
theorem w74 : Fn Tryz.prog 194 [(.int 500), ν4] (.tup [.sc, .sc]) (.tup [ν5, ν1]) := ev_run mixed ⟨[⟨193, (.tup [.sc, .sc]), [en w73]⟩], [], [], [], [], []⟩ 24 (.n 0) Tryz.func194 rfl Tryz.call194 (by kernel_rfl)
theorem w75 : Fn Tryz.prog 195 [ν83, ν14, ν13] (.tup [.sc, .sc]) (.tup [ν5, ν1]) := ev_run mixed ⟨[⟨65, .sc, [en w70]⟩, ⟨194, (.tup [.sc, .sc]), [en w74]⟩], [], [], [], [], []⟩ 24 (.n 0) Tryz.func195 rfl Tryz.call195 (by kernel_rfl)
theorem w76 : Fn Tryz.prog 70 [ν81] (.row 54 6 true) ν81 := ev_run mixed ⟨[], [], [], [], [], []⟩ 24 (.n 0) Tryz.func70 rfl Tryz.call70 (by kernel_rfl)
theorem w77 : Fn Tryz.prog 131 [ν92] (.tup [(.row 54 6 true), .sc]) (.tup [ν87, ν1]) := ev_run mixed ⟨[⟨195, (.tup [.sc, .sc]), [en w75]⟩, ⟨70, (.row 54 6 true), [en w76]⟩, ⟨68, (.tup [.sc, .sc]), [en (tat_eq [⟨0, 0, 0, 9000, 0, 0⟩, ⟨100, 10000, 0, 9000, 0, 0⟩] 10 (r := (.tup [ν80, ν1])) (by kernel_rfl))]⟩], [], [⟨198, true, [eu (insNd [[ν9, ν18, ν1, ν14, ν1, ν1]] [[ν5, ν15, ν1, ν14, ν1, ν1]] 0 (by decide) (by decide) ((default : Chk (AV.flatS (.sl 6 [[ν5, ν15, ν1, ν14, ν1, ν1]]))).ok rfl) (by decide))]⟩], [], [], [⟨197, Tryz.call197⟩, ⟨196, Tryz.call196⟩]⟩ 24 (.n 2) Tryz.func131 rfl Tryz.call131 (by kernel_rfl)
theorem w78 : Fn Tryz.prog 69 [ν92] (.tup [(.row 54 6 true), .sc, .sc]) (.tup [ν87, ν19, ν1]) := ev_run mixed ⟨[⟨131, (.tup [(.row 54 6 true), .sc]), [en w77]⟩], [], [], [], [], []⟩ 24 (.n 0) Tryz.func69 rfl Tryz.call69 (by kernel_rfl)
theorem w79 : Fn Tryz.prog 71 [(.sl 1 [[(.sl 6 [])], [(.sl 6 [[ν1, ν1, ν1, ν14, ν1, ν1]])], [ν87]])] (.row 54 6 true) ν90 := ev_run mixed ⟨[⟨135, (.row 54 6 true), [en (grow_fn 3 (by decide))]⟩], [], [], [], [], []⟩ 24 (.n 0) Tryz.func71 rfl Tryz.call71 (by kernel_rfl)
theorem w80 : Fn Tryz.prog 18 [ν85, ν78, ν1, ν83, ν33] (.tup [(.row 54 6 true), .sc]) (.tup [ν90, ν1]) := ev_run mixed ⟨[⟨62, .sc, [en w62]⟩, ⟨63, .sc, [en w63]⟩, ⟨64, .sc, [en w71]⟩, ⟨66, .sc, [en w72]⟩, ⟨68, (.tup [.sc, .sc]), [en (tat_eq [⟨0, 0, 0, 9000, 0, 0⟩, ⟨100, 10000, 0, 9000, 0, 0⟩] 0 (r := (.tup [ν79, ν1])) (by kernel_rfl))]⟩, ⟨69, (.tup [(.row 54 6 true), .sc, .sc]), [en w78]⟩, ⟨71, (.row 54 6 true), [en w79]⟩], [], [], [], [], []⟩ 24 (.n 0) Tryz.func18 rfl Tryz.call18 (by kernel_rfl)
theorem w81 : Fn Tryz.prog 168 [ν41] .sc ν1 := ev_run mixed ⟨[], [], [], [], [], []⟩ 24 (.n 0) Tryz.func168 rfl Tryz.call168 (by kernel_rfl)
theorem w82 : Fn Tryz.prog 67 [(.agg [ν15, ν1])] .sc ν1 := ev_run mixed ⟨[], [], [], [], [], []⟩ 24 (.n 0) Tryz.func67 rfl Tryz.call67 (by kernel_rfl)
theorem w83 : Fn Tryz.prog 20 [ν90] .sc ν1 := ev_run mixed ⟨[⟨67, .sc, [en w59, en w82, en w60]⟩], [], [], [], [], []⟩ 24 (.n 0) Tryz.func20 rfl Tryz.call20 (by kernel_rfl)
theorem w84 : Fn Tryz.prog 149 [ν41, (.sl 1 [[ν85], [ν90]])] .sc ν1 := ev_run mixed ⟨[⟨168, .sc, [en w81]⟩, ⟨20, .sc, [en w61, en w83]⟩], [], [], [], [], []⟩ 24 (.n 0) Tryz.func149 rfl Tryz.call149 (by kernel_rfl)
theorem w85 : Fn Tryz.prog 214 [ν85, ν90] (.tup [.sc, .sc]) (.tup [ν1, ν9]) := ev_run mixed ⟨[], [], [], [], [], []⟩ 24 (.n 0) Tryz.func214 rfl Tryz.call214 (by kernel_rfl)
theorem w86 : Fn Tryz.prog 150 [ν85, ν90, ν41] (.row 96 2 true) ν42 := ev_run mixed ⟨[⟨214, (.tup [.sc, .sc]), [en w85]⟩, ⟨68, (.tup [.sc, .sc]), [en (tat_eq [⟨0, 0, 0, 9000, 0, 0⟩, ⟨100, 10000, 0, 9000, 0, 0⟩] 0 (r := (.tup [ν79, ν1])) (by kernel_rfl)), en (tat_eq [⟨0, 0, 0, 9000, 0, 0⟩, ⟨10, 1000, 0, 9500, 0, 0⟩, ⟨100, 10000, 0, 9500, 0, 0⟩] 0 (r := (.tup [ν79, ν1])) (by kernel_rfl)), en (tat_eq [⟨0, 0, 0, 9000, 0, 0⟩, ⟨100, 10000, 0, 9000, 0, 0⟩] 1 (r := (.tup [(.agg [ν0, ν9, ν1, ν14, ν1, ν1]), ν1])) (by kernel_rfl)), en (tat_eq [⟨0, 0, 0, 9000, 0, 0⟩, ⟨10, 1000, 0, 9500, 0, 0⟩, ⟨100, 10000, 0, 9500, 0, 0⟩] 1 (r := (.tup [(.agg [ν0, ν9, ν1, (.int 9050), ν1, ν1]), ν1])) (by kernel_rfl)), en (tat_eq [⟨0, 0, 0, 9000, 0, 0⟩, ⟨100, 10000, 0, 9000, 0, 0⟩] 2 (r := (.tup [(.agg [ν2, (.int 200), ν1, ν14, ν1, ν1]), ν1])) (by kernel_rfl)), en (tat_eq [⟨0, 0, 0, 9000, 0, 0⟩, ⟨10, 1000, 0, 9500, 0, 0⟩, ⟨100, 10000, 0, 9500, 0, 0⟩] 2 (r := (.tup [(.agg [ν2, (.int 200), ν1, (.int 9100), ν1, ν1]), ν1])) (by kernel_rfl)), en (tat_eq [⟨0, 0, 0, 9000, 0, 0⟩, ⟨100, 10000, 0, 9000, 0, 0⟩] 3 (r := (.tup [(.agg [(.int 3), ν10, ν1, ν14, ν1, ν1]), ν1])) (by kernel_rfl)), en (tat_eq [⟨0, 0, 0, 9000, 0, 0⟩, ⟨10, 1000, 0, 9500, 0, 0⟩, ⟨100, 10000, 0, 9500, 0, 0⟩] 3 (r := (.tup [(.agg [(.int 3), ν10, ν1, (.int 9150), ν1, ν1]), ν1])) (by kernel_rfl)), en (tat_eq [⟨0, 0, 0, 9000, 0, 0⟩, ⟨100, 10000, 0, 9000, 0, 0⟩] 4 (r := (.tup [(.agg [(.int 4), (.int 400), ν1, ν14, ν1, ν1]), ν1])) (by kernel_rfl)), en (tat_eq [⟨0, 0, 0, 9000, 0, 0⟩, ⟨10, 1000, 0, 9500, 0, 0⟩, ⟨100, 10000, 0, 9500, 0, 0⟩] 4 (r := (.tup [(.agg [(.int 4), (.int 400), ν1, (.int 9200), ν1, ν1]), ν1])) (by kernel_rfl)), en (tat_eq [⟨0, 0, 0, 9000, 0, 0⟩, ⟨100, 10000, 0, 9000, 0, 0⟩] 5 (r := (.tup [(.agg [ν3, (.int 500), ν1, ν14, ν1, ν1]), ν1])) (by kernel_rfl)), en (tat_eq [⟨0, 0, 0, 9000, 0, 0⟩, ⟨10, 1000, 0, 9500, 0, 0⟩, ⟨100, 10000, 0, 9500, 0, 0⟩] 5 (r := (.tup [(.agg [ν3, (.int 500), ν1, (.int 9250), ν1, ν1]), ν1])) (by kernel_rfl)), en (tat_eq [⟨0, 0, 0, 9000, 0, 0⟩, ⟨100, 10000, 0, 9000, 0, 0⟩] 6 (r := (.tup [(.agg [(.int 6), (.int 600), ν1, ν14, ν1, ν1]), ν1])) (by kernel_rfl)), en (tat_eq [⟨0, 0, 0, 9000, 0, 0⟩, ⟨10, 1000, 0, 9500, 0, 0⟩, ⟨100, 10000, 0, 9500, 0, 0⟩] 6 (r := (.tup [(.agg [(.int 6), (.int 600), ν1, (.int 9300), ν1, ν1]), ν1])) (by kernel_rfl)), en (tat_eq [⟨0, 0, 0, 9000, 0, 0⟩, ⟨100, 10000, 0, 9000, 0, 0⟩] 7 (r := (.tup [(.agg [(.int 7), (.int 700), ν1, ν14, ν1, ν1]), ν1])) (by kernel_rfl)), en (tat_eq [⟨0, 0, 0, 9000, 0, 0⟩, ⟨10, 1000, 0, 9500, 0, 0⟩, ⟨100, 10000, 0, 9500, 0, 0⟩] 7 (r := (.tup [(.agg [(.int 7), (.int 700), ν1, (.int 9350), ν1, ν1]), ν1])) (by kernel_rfl)), en (tat_eq [⟨0, 0, 0, 9000, 0, 0⟩, ⟨100, 10000, 0, 9000, 0, 0⟩] 8 (r := (.tup [(.agg [(.int 8), (.int 800), ν1, ν14, ν1, ν1]), ν1])) (by kernel_rfl)), en (tat_eq [⟨0, 0, 0, 9000, 0, 0⟩, ⟨10, 1000, 0, 9500, 0, 0⟩, ⟨100, 10000, 0, 9500, 0, 0⟩] 8 (r := (.tup [(.agg [(.int 8), (.int 800), ν1, (.int 9400), ν1, ν1]), ν1])) (by kernel_rfl)), en (tat_eq [⟨0, 0, 0, 9000, 0, 0⟩, ⟨100, 10000, 0, 9000, 0, 0⟩] 9 (r := (.tup [(.agg [(.int 9), (.int 900), ν1, ν14, ν1, ν1]), ν1])) (by kernel_rfl)), en (tat_eq [⟨0, 0, 0, 9000, 0, 0⟩, ⟨10, 1000, 0, 9500, 0, 0⟩, ⟨100, 10000, 0, 9500, 0, 0⟩] 9 (r := (.tup [(.agg [(.int 9), (.int 900), ν1, (.int 9450), ν1, ν1]), ν1])) (by kernel_rfl)), en (tat_eq [⟨0, 0, 0, 9000, 0, 0⟩, ⟨100, 10000, 0, 9000, 0, 0⟩] 10 (r := (.tup [ν80, ν1])) (by kernel_rfl)), en (tat_eq [⟨0, 0, 0, 9000, 0, 0⟩, ⟨10, 1000, 0, 9500, 0, 0⟩, ⟨100, 10000, 0, 9500, 0, 0⟩] 10 (r := (.tup [(.agg [ν5, ν15, ν1, ν13, ν1, ν1]), ν1])) (by kernel_rfl)), en (tat_eq [⟨0, 0, 0, 9000, 0, 0⟩, ⟨100, 10000, 0, 9000, 0, 0⟩] 11 (r := (.tup [(.agg [(.int 11), (.int 1100), ν1, ν14, ν1, ν1]), ν1])) (by kernel_rfl)), en (tat_eq [⟨0, 0, 0, 9000, 0, 0⟩, ⟨10, 1000, 0, 9500, 0, 0⟩, ⟨100, 10000, 0, 9500, 0, 0⟩] 11 (r := (.tup [(.agg [(.int 11), (.int 1100), ν1, ν13, ν1, ν1]), ν1])) (by kernel_rfl)), en (tat_eq [⟨0, 0, 0, 9000, 0, 0⟩, ⟨100, 10000, 0, 9000, 0, 0⟩] 12 (r := (.tup [(.agg [(.int 12), (.int 1200), ν1, ν14, ν1, ν1]), ν1])) (by kernel_rfl)), en (tat_eq [⟨0, 0, 0, 9000, 0, 0⟩, ⟨10, 1000, 0, 9500, 0, 0⟩, ⟨100, 10000, 0, 9500, 0, 0⟩] 12 (r := (.tup [(.agg [(.int 12), (.int 1200), ν1, ν13, ν1, ν1]), ν1])) (by kernel_rfl)), en (tat_eq [⟨0, 0, 0, 9000, 0, 0⟩, ⟨100, 10000, 0, 9000, 0, 0⟩] 13 (r := (.tup [(.agg [(.int 13), (.int 1300), ν1, ν14, ν1, ν1]), ν1])) (by kernel_rfl)), en (tat_eq [⟨0, 0, 0, 9000, 0, 0⟩, ⟨10, 1000, 0, 9500, 0, 0⟩, ⟨100, 10000, 0, 9500, 0, 0⟩] 13 (r := (.tup [(.agg [(.int 13), (.int 1300), ν1, ν13, ν1, ν1]), ν1])) (by kernel_rfl)), en (tat_eq [⟨0, 0, 0, 9000, 0, 0⟩, ⟨100, 10000, 0, 9000, 0, 0⟩] 14 (r := (.tup [(.agg [(.int 14), (.int 1400), ν1, ν14, ν1, ν1]), ν1])) (by kernel_rfl)), en (tat_eq [⟨0, 0, 0, 9000, 0, 0⟩, ⟨10, 1000, 0, 9500, 0, 0⟩, ⟨100, 10000, 0, 9500, 0, 0⟩] 14 (r := (.tup [(.agg [(.int 14), (.int 1400), ν1, ν13, ν1, ν1]), ν1])) (by kernel_rfl)), en (tat_eq [⟨0, 0, 0, 9000, 0, 0⟩, ⟨100, 10000, 0, 9000, 0, 0⟩] 15 (r := (.tup [(.agg [(.int 15), (.int 1500), ν1, ν14, ν1, ν1]), ν1])) (by kernel_rfl)), en (tat_eq [⟨0, 0, 0, 9000, 0, 0⟩, ⟨10, 1000, 0, 9500, 0, 0⟩, ⟨100, 10000, 0, 9500, 0, 0⟩] 15 (r := (.tup [(.agg [(.int 15), (.int 1500), ν1, ν13, ν1, ν1]), ν1])) (by kernel_rfl)), en (tat_eq [⟨0, 0, 0, 9000, 0, 0⟩, ⟨100, 10000, 0, 9000, 0, 0⟩] 16 (r := (.tup [(.agg [(.int 16), (.int 1600), ν1, ν14, ν1, ν1]), ν1])) (by kernel_rfl)), en (tat_eq [⟨0, 0, 0, 9000, 0, 0⟩, ⟨10, 1000, 0, 9500, 0, 0⟩, ⟨100, 10000, 0, 9500, 0, 0⟩] 16 (r := (.tup [(.agg [(.int 16), (.int 1600), ν1, ν13, ν1, ν1]), ν1])) (by kernel_rfl)), en (tat_eq [⟨0, 0, 0, 9000, 0, 0⟩, ⟨100, 10000, 0, 9000, 0, 0⟩] 17 (r := (.tup [(.agg [(.int 17), (.int 1700), ν1, ν14, ν1, ν1]), ν1])) (by kernel_rfl)), en (tat_eq [⟨0, 0, 0, 9000, 0, 0⟩, ⟨10, 1000, 0, 9500, 0, 0⟩, ⟨100, 10000, 0, 9500, 0, 0⟩] 17 (r := (.tup [(.agg [(.int 17), (.int 1700), ν1, ν13, ν1, ν1]), ν1])) (by kernel_rfl)), en (tat_eq [⟨0, 0, 0, 9000, 0, 0⟩, ⟨100, 10000, 0, 9000, 0, 0⟩] 18 (r := (.tup [(.agg [(.int 18), (.int 1800), ν1, ν14, ν1, ν1]), ν1])) (by kernel_rfl)), en (tat_eq [⟨0, 0, 0, 9000, 0, 0⟩, ⟨10, 1000, 0, 9500, 0, 0⟩, ⟨100, 10000, 0, 9500, 0, 0⟩] 18 (r := (.tup [(.agg [(.int 18), (.int 1800), ν1, ν13, ν1, ν1]), ν1])) (by kernel_rfl)), en (tat_eq [⟨0, 0, 0, 9000, 0, 0⟩, ⟨100, 10000, 0, 9000, 0, 0⟩] 19 (r := (.tup [(.agg [(.int 19), (.int 1900), ν1, ν14, ν1, ν1]), ν1])) (by kernel_rfl)), en (tat_eq [⟨0, 0, 0, 9000, 0, 0⟩, ⟨10, 1000, 0, 9500, 0, 0⟩, ⟨100, 10000, 0, 9500, 0, 0⟩] 19 (r := (.tup [(.agg [(.int 19), (.int 1900), ν1, ν13, ν1, ν1]), ν1])) (by kernel_rfl)), en (tat_eq [⟨0, 0, 0, 9000, 0, 0⟩, ⟨100, 10000, 0, 9000, 0, 0⟩] 20 (r := (.tup [(.agg [(.int 20), (.int 2000), ν1, ν14, ν1, ν1]), ν1])) (by kernel_rfl)), en (tat_eq [⟨0, 0, 0, 9000, 0, 0⟩, ⟨10, 1000, 0, 9500, 0, 0⟩, ⟨100, 10000, 0, 9500, 0, 0⟩] 20 (r := (.tup [(.agg [(.int 20), (.int 2000), ν1, ν13, ν1, ν1]), ν1])) (by kernel_rfl)), en (tat_eq [⟨0, 0, 0, 9000, 0, 0⟩, ⟨100, 10000, 0, 9000, 0, 0⟩] 21 (r := (.tup [(.agg [(.int 21), (.int 2100), ν1, ν14, ν1, ν1]), ν1])) (by kernel_rfl)), en (tat_eq [⟨0, 0, 0, 9000, 0, 0⟩, ⟨10, 1000, 0, 9500, 0, 0⟩, ⟨100, 10000, 0, 9500, 0, 0⟩] 21 (r := (.tup [(.agg [(.int 21), (.int 2100), ν1, ν13, ν1, ν1]), ν1])) (by kernel_rfl)), en (tat_eq [⟨0, 0, 0, 9000, 0, 0⟩, ⟨100, 10000, 0, 9000, 0, 0⟩] 22 (r := (.tup [(.agg [(.int 22), (.int 2200), ν1, ν14, ν1, ν1]), ν1])) (by kernel_rfl)), en (tat_eq [⟨0, 0, 0, 9000, 0, 0⟩, ⟨10, 1000, 0, 9500, 0, 0⟩, ⟨100, 10000, 0, 9500, 0, 0⟩] 22 (r := (.tup [(.agg [(.int 22), (.int 2200), ν1, ν13, ν1, ν1]), ν1])) (by kernel_rfl)), en (tat_eq [⟨0, 0, 0, 9000, 0, 0⟩, ⟨100, 10000, 0, 9000, 0, 0⟩] 23 (r := (.tup [(.agg [(.int 23), (.int 2300), ν1, ν14, ν1, ν1]), ν1])) (by kernel_rfl)), en (tat_eq [⟨0, 0, 0, 9000, 0, 0⟩, ⟨10, 1000, 0, 9500, 0, 0⟩, ⟨100, 10000, 0, 9500, 0, 0⟩] 23 (r := (.tup [(.agg [(.int 23), (.int 2300), ν1, ν13, ν1, ν1]), ν1])) (by kernel_rfl)), en (tat_eq [⟨0, 0, 0, 9000, 0, 0⟩, ⟨100, 10000, 0, 9000, 0, 0⟩] 24 (r := (.tup [(.agg [(.int 24), (.int 2400), ν1, ν14, ν1, ν1]), ν1])) (by kernel_rfl)), en (tat_eq [⟨0, 0, 0, 9000, 0, 0⟩, ⟨10, 1000, 0, 9500, 0, 0⟩, ⟨100, 10000, 0, 9500, 0, 0⟩] 24 (r := (.tup [(.agg [(.int 24), (.int 2400), ν1, ν13, ν1, ν1]), ν1])) (by kernel_rfl)), en (tat_eq [⟨0, 0, 0, 9000, 0, 0⟩, ⟨100, 10000, 0, 9000, 0, 0⟩] 25 (r := (.tup [(.agg [(.int 25), (.int 2500), ν1, ν14, ν1, ν1]), ν1])) (by kernel_rfl)), en (tat_eq [⟨0, 0, 0, 9000, 0, 0⟩, ⟨10, 1000, 0, 9500, 0, 0⟩, ⟨100, 10000, 0, 9500, 0, 0⟩] 25 (r := (.tup [(.agg [(.int 25), (.int 2500), ν1, ν13, ν1, ν1]), ν1])) (by kernel_rfl)), en (tat_eq [⟨0, 0, 0, 9000, 0, 0⟩, ⟨100, 10000, 0, 9000, 0, 0⟩] 26 (r := (.tup [(.agg [(.int 26), (.int 2600), ν1, ν14, ν1, ν1]), ν1])) (by kernel_rfl)), en (tat_eq [⟨0, 0, 0, 9000, 0, 0⟩, ⟨10, 1000, 0, 9500, 0, 0⟩, ⟨100, 10000, 0, 9500, 0, 0⟩] 26 (r := (.tup [(.agg [(.int 26), (.int 2600), ν1, ν13, ν1, ν1]), ν1])) (by kernel_rfl)), en (tat_eq [⟨0, 0, 0, 9000, 0, 0⟩, ⟨100, 10000, 0, 9000, 0, 0⟩] 27 (r := (.tup [(.agg [(.int 27), (.int 2700), ν1, ν14, ν1, ν1]), ν1])) (by kernel_rfl)), en (tat_eq [⟨0, 0, 0, 9000, 0, 0⟩, ⟨10, 1000, 0, 9500, 0, 0⟩, ⟨100, 10000, 0, 9500, 0, 0⟩] 27 (r := (.tup [(.agg [(.int 27), (.int 2700), ν1, ν13, ν1, ν1]), ν1])) (by kernel_rfl)), en (tat_eq [⟨0, 0, 0, 9000, 0, 0⟩, ⟨100, 10000, 0, 9000, 0, 0⟩] 28 (r := (.tup [(.agg [(.int 28), (.int 2800), ν1, ν14, ν1, ν1]), ν1])) (by kernel_rfl)), en (tat_eq [⟨0, 0, 0, 9000, 0, 0⟩, ⟨10, 1000, 0, 9500, 0, 0⟩, ⟨100, 10000, 0, 9500, 0, 0⟩] 28 (r := (.tup [(.agg [(.int 28), (.int 2800), ν1, ν13, ν1, ν1]), ν1])) (by kernel_rfl)), en (tat_eq [⟨0, 0, 0, 9000, 0, 0⟩, ⟨100, 10000, 0, 9000, 0, 0⟩] 29 (r := (.tup [(.agg [(.int 29), (.int 2900), ν1, ν14, ν1, ν1]), ν1])) (by kernel_rfl)), en (tat_eq [⟨0, 0, 0, 9000, 0, 0⟩, ⟨10, 1000, 0, 9500, 0, 0⟩, ⟨100, 10000, 0, 9500, 0, 0⟩] 29 (r := (.tup [(.agg [(.int 29), (.int 2900), ν1, ν13, ν1, ν1]), ν1])) (by kernel_rfl)), en (tat_eq [⟨0, 0, 0, 9000, 0, 0⟩, ⟨100, 10000, 0, 9000, 0, 0⟩] 30 (r := (.tup [(.agg [(.int 30), (.int 3000), ν1, ν14, ν1, ν1]), ν1])) (by kernel_rfl)), en (tat_eq [⟨0, 0, 0, 9000, 0, 0⟩, ⟨10, 1000, 0, 9500, 0, 0⟩, ⟨100, 10000, 0, 9500, 0, 0⟩] 30 (r := (.tup [(.agg [(.int 30), (.int 3000), ν1, ν13, ν1, ν1]), ν1])) (by kernel_rfl)), en (tat_eq [⟨0, 0, 0, 9000, 0, 0⟩, ⟨100, 10000, 0, 9000, 0, 0⟩] 31 (r := (.tup [(.agg [(.int 31), (.int 3100), ν1, ν14, ν1, ν1]), ν1])) (by kernel_rfl)), en (tat_eq [⟨0, 0, 0, 9000, 0, 0⟩, ⟨10, 1000, 0, 9500, 0, 0⟩, ⟨100, 10000, 0, 9500, 0, 0⟩] 31 (r := (.tup [(.agg [(.int 31), (.int 3100), ν1, ν13, ν1, ν1]), ν1])) (by kernel_rfl)), en (tat_eq [⟨0, 0, 0, 9000, 0, 0⟩, ⟨100, 10000, 0, 9000, 0, 0⟩] 32 (r := (.tup [(.agg [(.int 32), (.int 3200), ν1, ν14, ν1, ν1]), ν1])) (by kernel_rfl)), en (tat_eq [⟨0, 0, 0, 9000, 0, 0⟩, ⟨10, 1000, 0, 9500, 0, 0⟩, ⟨100, 10000, 0, 9500, 0, 0⟩] 32 (r := (.tup [(.agg [(.int 32), (.int 3200), ν1, ν13, ν1, ν1]), ν1])) (by kernel_rfl)), en (tat_eq [⟨0, 0, 0, 9000, 0, 0⟩, ⟨100, 10000, 0, 9000, 0, 0⟩] 33 (r := (.tup [(.agg [(.int 33), (.int 3300), ν1, ν14, ν1, ν1]), ν1])) (by kernel_rfl)), en (tat_eq [⟨0, 0, 0, 9000, 0, 0⟩, ⟨10, 1000, 0, 9500, 0, 0⟩, ⟨100, 10000, 0, 9500, 0, 0⟩] 33 (r := (.tup [(.agg [(.int 33), (.int 3300), ν1, ν13, ν1, ν1]), ν1])) (by kernel_rfl)), en (tat_eq [⟨0, 0, 0, 9000, 0, 0⟩, ⟨100, 10000, 0, 9000, 0, 0⟩] 34 (r := (.tup [(.agg [(.int 34), (.int 3400), ν1, ν14, ν1, ν1]), ν1])) (by kernel_rfl)), en (tat_eq [⟨0, 0, 0, 9000, 0, 0⟩, ⟨10, 1000, 0, 9500, 0, 0⟩, ⟨100, 10000, 0, 9500, 0, 0⟩] 34 (r := (.tup [(.agg [(.int 34), (.int 3400), ν1, ν13, ν1, ν1]), ν1])) (by kernel_rfl)), en (tat_eq [⟨0, 0, 0, 9000, 0, 0⟩, ⟨100, 10000, 0, 9000, 0, 0⟩] 35 (r := (.tup [(.agg [(.int 35), (.int 3500), ν1, ν14, ν1, ν1]), ν1])) (by kernel_rfl)), en (tat_eq [⟨0, 0, 0, 9000, 0, 0⟩, ⟨10, 1000, 0, 9500, 0, 0⟩, ⟨100, 10000, 0, 9500, 0, 0⟩] 35 (r := (.tup [(.agg [(.int 35), (.int 3500), ν1, ν13, ν1, ν1]), ν1])) (by kernel_rfl)), en (tat_eq [⟨0, 0, 0, 9000, 0, 0⟩, ⟨100, 10000, 0, 9000, 0, 0⟩] 36 (r := (.tup [(.agg [(.int 36), (.int 3600), ν1, ν14, ν1, ν1]), ν1])) (by kernel_rfl)), en (tat_eq [⟨0, 0, 0, 9000, 0, 0⟩, ⟨10, 1000, 0, 9500, 0, 0⟩, ⟨100, 10000, 0, 9500, 0, 0⟩] 36 (r := (.tup [(.agg [(.int 36), (.int 3600), ν1, ν13, ν1, ν1]), ν1])) (by kernel_rfl)), en (tat_eq [⟨0, 0, 0, 9000, 0, 0⟩, ⟨100, 10000, 0, 9000, 0, 0⟩] 37 (r := (.tup [(.agg [(.int 37), (.int 3700), ν1, ν14, ν1, ν1]), ν1])) (by kernel_rfl)), en (tat_eq [⟨0, 0, 0, 9000, 0, 0⟩, ⟨10, 1000, 0, 9500, 0, 0⟩, ⟨100, 10000, 0, 9500, 0, 0⟩] 37 (r := (.tup [(.agg [(.int 37), (.int 3700), ν1, ν13, ν1, ν1]), ν1])) (by kernel_rfl)), en (tat_eq [⟨0, 0, 0, 9000, 0, 0⟩, ⟨100, 10000, 0, 9000, 0, 0⟩] 38 (r := (.tup [(.agg [(.int 38), (.int 3800), ν1, ν14, ν1, ν1]), ν1])) (by kernel_rfl)), en (tat_eq [⟨0, 0, 0, 9000, 0, 0⟩, ⟨10, 1000, 0, 9500, 0, 0⟩, ⟨100, 10000, 0, 9500, 0, 0⟩] 38 (r := (.tup [(.agg [(.int 38), (.int 3800), ν1, ν13, ν1, ν1]), ν1])) (by kernel_rfl)), en (tat_eq [⟨0, 0, 0, 9000, 0, 0⟩, ⟨100, 10000, 0, 9000, 0, 0⟩] 39 (r := (.tup [(.agg [(.int 39), (.int 3900), ν1, ν14, ν1, ν1]), ν1])) (by kernel_rfl)), en (tat_eq [⟨0, 0, 0, 9000, 0, 0⟩, ⟨10, 1000, 0, 9500, 0, 0⟩, ⟨100, 10000, 0, 9500, 0, 0⟩] 39 (r := (.tup [(.agg [(.int 39), (.int 3900), ν1, ν13, ν1, ν1]), ν1])) (by kernel_rfl)), en (tat_eq [⟨0, 0, 0, 9000, 0, 0⟩, ⟨100, 10000, 0, 9000, 0, 0⟩] 40 (r := (.tup [(.agg [(.int 40), (.int 4000), ν1, ν14, ν1, ν1]), ν1])) (by kernel_rfl)), en (tat_eq [⟨0, 0, 0, 9000, 0, 0⟩, ⟨10, 1000, 0, 9500, 0, 0⟩, ⟨100, 10000, 0, 9500, 0, 0⟩] 40 (r := (.tup [(.agg [(.int 40), (.int 4000), ν1, ν13, ν1, ν1]), ν1])) (by kernel_rfl)), en (tat_eq [⟨0, 0, 0, 9000, 0, 0⟩, ⟨100, 10000, 0, 9000, 0, 0⟩] 41 (r := (.tup [(.agg [(.int 41), (.int 4100), ν1, ν14, ν1, ν1]), ν1])) (by kernel_rfl)), en (tat_eq [⟨0, 0, 0, 9000, 0, 0⟩, ⟨10, 1000, 0, 9500, 0, 0⟩, ⟨100, 10000, 0, 9500, 0, 0⟩] 41 (r := (.tup [(.agg [(.int 41), (.int 4100), ν1, ν13, ν1, ν1]), ν1])) (by kernel_rfl)), en (tat_eq [⟨0, 0, 0, 9000, 0, 0⟩, ⟨100, 10000, 0, 9000, 0, 0⟩] 42 (r := (.tup [(.agg [(.int 42), (.int 4200), ν1, ν14, ν1, ν1]), ν1])) (by kernel_rfl)), en (tat_eq [⟨0, 0, 0, 9000, 0, 0⟩, ⟨10, 1000, 0, 9500, 0, 0⟩, ⟨100, 10000, 0, 9500, 0, 0⟩] 42 (r := (.tup [(.agg [(.int 42), (.int 4200), ν1, ν13, ν1, ν1]), ν1])) (by kernel_rfl)), en (tat_eq [⟨0, 0, 0, 9000, 0, 0⟩, ⟨100, 10000, 0, 9000, 0, 0⟩] 43 (r := (.tup [(.agg [(.int 43), (.int 4300), ν1, ν14, ν1, ν1]), ν1])) (by kernel_rfl)), en (tat_eq [⟨0, 0, 0, 9000, 0, 0⟩, ⟨10, 1000, 0, 9500, 0, 0⟩, ⟨100, 10000, 0, 9500, 0, 0⟩] 43 (r := (.tup [(.agg [(.int 43), (.int 4300), ν1, ν13, ν1, ν1]), ν1])) (by kernel_rfl)), en (tat_eq [⟨0, 0, 0, 9000, 0, 0⟩, ⟨100, 10000, 0, 9000, 0, 0⟩] 44 (r := (.tup [(.agg [(.int 44), (.int 4400), ν1, ν14, ν1, ν1]), ν1])) (by kernel_rfl)), en (tat_eq [⟨0, 0, 0, 9000, 0, 0⟩, ⟨10, 1000, 0, 9500, 0, 0⟩, ⟨100, 10000, 0, 9500, 0, 0⟩] 44 (r := (.tup [(.agg [(.int 44), (.int 4400), ν1, ν13, ν1, ν1]), ν1])) (by kernel_rfl)), en (tat_eq [⟨0, 0, 0, 9000, 0, 0⟩, ⟨100, 10000, 0, 9000, 0, 0⟩] 45 (r := (.tup [(.agg [(.int 45), (.int 4500), ν1, ν14, ν1, ν1]), ν1])) (by kernel_rfl)), en (tat_eq [⟨0, 0, 0, 9000, 0, 0⟩, ⟨10, 1000, 0, 9500, 0, 0⟩, ⟨100, 10000, 0, 9500, 0, 0⟩] 45 (r := (.tup [(.agg [(.int 45), (.int 4500), ν1, ν13, ν1, ν1]), ν1])) (by kernel_rfl)), en (tat_eq [⟨0, 0, 0, 9000, 0, 0⟩, ⟨100, 10000, 0, 9000, 0, 0⟩] 46 (r := (.tup [(.agg [(.int 46), (.int 4600), ν1, ν14, ν1, ν1]), ν1])) (by kernel_rfl)), en (tat_eq [⟨0, 0, 0, 9000, 0, 0⟩, ⟨10, 1000, 0, 9500, 0, 0⟩, ⟨100, 10000, 0, 9500, 0, 0⟩] 46 (r := (.tup [(.agg [(.int 46), (.int 4600), ν1, ν13, ν1, ν1]), ν1])) (by kernel_rfl)), en (tat_eq [⟨0, 0, 0, 9000, 0, 0⟩, ⟨100, 10000, 0, 9000, 0, 0⟩] 47 (r := (.tup [(.agg [(.int 47), (.int 4700), ν1, ν14, ν1, ν1]), ν1])) (by kernel_rfl)), en (tat_eq [⟨0, 0, 0, 9000, 0, 0⟩, ⟨10, 1000, 0, 9500, 0, 0⟩, ⟨100, 10000, 0, 9500, 0, 0⟩] 47 (r := (.tup [(.agg [(.int 47), (.int 4700), ν1, ν13, ν1, ν1]), ν1])) (by kernel_rfl)), en (tat_eq [⟨0, 0, 0, 9000, 0, 0⟩, ⟨100, 10000, 0, 9000, 0, 0⟩] 48 (r := (.tup [(.agg [(.int 48), (.int 4800), ν1, ν14, ν1, ν1]), ν1])) (by kernel_rfl)), en (tat_eq [⟨0, 0, 0, 9000, 0, 0⟩, ⟨10, 1000, 0, 9500, 0, 0⟩, ⟨100, 10000, 0, 9500, 0, 0⟩] 48 (r := (.tup [(.agg [(.int 48), (.int 4800), ν1, ν13, ν1, ν1]), ν1])) (by kernel_rfl)), en (tat_eq [⟨0, 0, 0, 9000, 0, 0⟩, ⟨100, 10000, 0, 9000, 0, 0⟩] 49 (r := (.tup [(.agg [(.int 49), (.int 4900), ν1, ν14, ν1, ν1]), ν1])) (by kernel_rfl)), en (tat_eq [⟨0, 0, 0, 9000, 0, 0⟩, ⟨10, 1000, 0, 9500, 0, 0⟩, ⟨100, 10000, 0, 9500, 0, 0⟩] 49 (r := (.tup [(.agg [(.int 49), (.int 4900), ν1, ν13, ν1, ν1]), ν1])) (by kernel_rfl)), en (tat_eq [⟨0, 0, 0, 9000, 0, 0⟩, ⟨100, 10000, 0, 9000, 0, 0⟩] 50 (r := (.tup [(.agg [ν4, (.int 5000), ν1, ν14, ν1, ν1]), ν1])) (by kernel_rfl)), en (tat_eq [⟨0, 0, 0, 9000, 0, 0⟩, ⟨10, 1000, 0, 9500, 0, 0⟩, ⟨100, 10000, 0, 9500, 0, 0⟩] 50 (r := (.tup [(.agg [ν4, (.int 5000), ν1, ν13, ν1, ν1]), ν1])) (by kernel_rfl)), en (tat_eq [⟨0, 0, 0, 9000, 0, 0⟩, ⟨100, 10000, 0, 9000, 0, 0⟩] 51 (r := (.tup [(.agg [(.int 51), (.int 5100), ν1, ν14, ν1, ν1]), ν1])) (by kernel_rfl)), en (tat_eq [⟨0, 0, 0, 9000, 0, 0⟩, ⟨10, 1000, 0, 9500, 0, 0⟩, ⟨100, 10000, 0, 9500, 0, 0⟩] 51 (r := (.tup [(.agg [(.int 51), (.int 5100), ν1, ν13, ν1, ν1]), ν1])) (by kernel_rfl)), en (tat_eq [⟨0, 0, 0, 9000, 0, 0⟩, ⟨100, 10000, 0, 9000, 0, 0⟩] 52 (r := (.tup [(.agg [(.int 52), (.int 5200), ν1, ν14, ν1, ν1]), ν1])) (by kernel_rfl)), en (tat_eq [⟨0, 0, 0, 9000, 0, 0⟩, ⟨10, 1000, 0, 9500, 0, 0⟩, ⟨100, 10000, 0, 9500, 0, 0⟩] 52 (r := (.tup [(.agg [(.int 52), (.int 5200), ν1, ν13, ν1, ν1]), ν1])) (by kernel_rfl)), en (tat_eq [⟨0, 0, 0, 9000, 0, 0⟩, ⟨100, 10000, 0, 9000, 0, 0⟩] 53 (r := (.tup [(.agg [(.int 53), (.int 5300), ν1, ν14, ν1, ν1]), ν1])) (by kernel_rfl)), en (tat_eq [⟨0, 0, 0, 9000, 0, 0⟩, ⟨10, 1000, 0, 9500, 0, 0⟩, ⟨100, 10000, 0, 9500, 0, 0⟩] 53 (r := (.tup [(.agg [(.int 53), (.int 5300), ν1, ν13, ν1, ν1]), ν1])) (by kernel_rfl)), en (tat_eq [⟨0, 0, 0, 9000, 0, 0⟩, ⟨100, 10000, 0, 9000, 0, 0⟩] 54 (r := (.tup [(.agg [(.int 54), (.int 5400), ν1, ν14, ν1, ν1]), ν1])) (by kernel_rfl)), en (tat_eq [⟨0, 0, 0, 9000, 0, 0⟩, ⟨10, 1000, 0, 9500, 0, 0⟩, ⟨100, 10000, 0, 9500, 0, 0⟩] 54 (r := (.tup [(.agg [(.int 54), (.int 5400), ν1, ν13, ν1, ν1]), ν1])) (by kernel_rfl)), en (tat_eq [⟨0, 0, 0, 9000, 0, 0⟩, ⟨100, 10000, 0, 9000, 0, 0⟩] 55 (r := (.tup [(.agg [(.int 55), (.int 5500), ν1, ν14, ν1, ν1]), ν1])) (by kernel_rfl)), en (tat_eq [⟨0, 0, 0, 9000, 0, 0⟩, ⟨10, 1000, 0, 9500, 0, 0⟩, ⟨100, 10000, 0, 9500, 0, 0⟩] 55 (r := (.tup [(.agg [(.int 55), (.int 5500), ν1, ν13, ν1, ν1]), ν1])) (by kernel_rfl)), en (tat_eq [⟨0, 0, 0, 9000, 0, 0⟩, ⟨100, 10000, 0, 9000, 0, 0⟩] 56 (r := (.tup [(.agg [(.int 56), (.int 5600), ν1, ν14, ν1, ν1]), ν1])) (by kernel_rfl)), en (tat_eq [⟨0, 0, 0, 9000, 0, 0⟩, ⟨10, 1000, 0, 9500, 0, 0⟩, ⟨100, 10000, 0, 9500, 0, 0⟩] 56 (r := (.tup [(.agg [(.int 56), (.int 5600), ν1, ν13, ν1, ν1]), ν1])) (by kernel_rfl)), en (tat_eq [⟨0, 0, 0, 9000, 0, 0⟩, ⟨100, 10000, 0, 9000, 0, 0⟩] 57 (r := (.tup [(.agg [(.int 57), (.int 5700), ν1, ν14, ν1, ν1]), ν1])) (by kernel_rfl)), en (tat_eq [⟨0, 0, 0, 9000, 0, 0⟩, ⟨10, 1000, 0, 9500, 0, 0⟩, ⟨100, 10000, 0, 9500, 0, 0⟩] 57 (r := (.tup [(.agg [(.int 57), (.int 5700), ν1, ν13, ν1, ν1]), ν1])) (by kernel_rfl)), en (tat_eq [⟨0, 0, 0, 9000, 0, 0⟩, ⟨100, 10000, 0, 9000, 0, 0⟩] 58 (r := (.tup [(.agg [(.int 58), (.int 5800), ν1, ν14, ν1, ν1]), ν1])) (by kernel_rfl)), en (tat_eq [⟨0, 0, 0, 9000, 0, 0⟩, ⟨10, 1000, 0, 9500, 0, 0⟩, ⟨100, 10000, 0, 9500, 0, 0⟩] 58 (r := (.tup [(.agg [(.int 58), (.int 5800), ν1, ν13, ν1, ν1]), ν1])) (by kernel_rfl)), en (tat_eq [⟨0, 0, 0, 9000, 0, 0⟩, ⟨100, 10000, 0, 9000, 0, 0⟩] 59 (r := (.tup [(.agg [(.int 59), (.int 5900), ν1, ν14, ν1, ν1]), ν1])) (by kernel_rfl)), en (tat_eq [⟨0, 0, 0, 9000, 0, 0⟩, ⟨10, 1000, 0, 9500, 0, 0⟩, ⟨100, 10000, 0, 9500, 0, 0⟩] 59 (r := (.tup [(.agg [(.int 59), (.int 5900), ν1, ν13, ν1, ν1]), ν1])) (by kernel_rfl)), en (tat_eq [⟨0, 0, 0, 9000, 0, 0⟩, ⟨100, 10000, 0, 9000, 0, 0⟩] 60 (r := (.tup [(.agg [ν6, (.int 6000), ν1, ν14, ν1, ν1]), ν1])) (by kernel_rfl)), en (tat_eq [⟨0, 0, 0, 9000, 0, 0⟩, ⟨10, 1000, 0, 9500, 0, 0⟩, ⟨100, 10000, 0, 9500, 0, 0⟩] 60 (r := (.tup [(.agg [ν6, (.int 6000), ν1, ν13, ν1, ν1]), ν1])) (by kernel_rfl)), en (tat_eq [⟨0, 0, 0, 9000, 0, 0⟩, ⟨100, 10000, 0, 9000, 0, 0⟩] 61 (r := (.tup [(.agg [(.int 61), (.int 6100), ν1, ν14, ν1, ν1]), ν1])) (by kernel_rfl)), en (tat_eq [⟨0, 0, 0, 9000, 0, 0⟩, ⟨10, 1000, 0, 9500, 0, 0⟩, ⟨100, 10000, 0, 9500, 0, 0⟩] 61 (r := (.tup [(.agg [(.int 61), (.int 6100), ν1, ν13, ν1, ν1]), ν1])) (by kernel_rfl)), en (tat_eq [⟨0, 0, 0, 9000, 0, 0⟩, ⟨100, 10000, 0, 9000, 0, 0⟩] 62 (r := (.tup [(.agg [(.int 62), (.int 6200), ν1, ν14, ν1, ν1]), ν1])) (by kernel_rfl)), en (tat_eq [⟨0, 0, 0, 9000, 0, 0⟩, ⟨10, 1000, 0, 9500, 0, 0⟩, ⟨100, 10000, 0, 9500, 0, 0⟩] 62 (r := (.tup [(.agg [(.int 62), (.int 6200), ν1, ν13, ν1, ν1]), ν1])) (by kernel_rfl)), en (tat_eq [⟨0, 0, 0, 9000, 0, 0⟩, ⟨100, 10000, 0, 9000, 0, 0⟩] 63 (r := (.tup [(.agg [(.int 63), (.int 6300), ν1, ν14, ν1, ν1]), ν1])) (by kernel_rfl)), en (tat_eq [⟨0, 0, 0, 9000, 0, 0⟩, ⟨10, 1000, 0, 9500, 0, 0⟩, ⟨100, 10000, 0, 9500, 0, 0⟩] 63 (r := (.tup [(.agg [(.int 63), (.int 6300), ν1, ν13, ν1, ν1]), ν1])) (by kernel_rfl)), en (tat_eq [⟨0, 0, 0, 9000, 0, 0⟩, ⟨100, 10000, 0, 9000, 0, 0⟩] 64 (r := (.tup [(.agg [(.int 64), (.int 6400), ν1, ν14, ν1, ν1]), ν1])) (by kernel_rfl)), en (tat_eq [⟨0, 0, 0, 9000, 0, 0⟩, ⟨10, 1000, 0, 9500, 0, 0⟩, ⟨100, 10000, 0, 9500, 0, 0⟩] 64 (r := (.tup [(.agg [(.int 64), (.int 6400), ν1, ν13, ν1, ν1]), ν1])) (by kernel_rfl)), en (tat_eq [⟨0, 0, 0, 9000, 0, 0⟩, ⟨100, 10000, 0, 9000, 0, 0⟩] 65 (r := (.tup [(.agg [(.int 65), (.int 6500), ν1, ν14, ν1, ν1]), ν1])) (by kernel_rfl)), en (tat_eq [⟨0, 0, 0, 9000, 0, 0⟩, ⟨10, 1000, 0, 9500, 0, 0⟩, ⟨100, 10000, 0, 9500, 0, 0⟩] 65 (r := (.tup [(.agg [(.int 65), (.int 6500), ν1, ν13, ν1, ν1]), ν1])) (by kernel_rfl)), en (tat_eq [⟨0, 0, 0, 9000, 0, 0⟩, ⟨100, 10000, 0, 9000, 0, 0⟩] 66 (r := (.tup [(.agg [(.int 66), (.int 6600), ν1, ν14, ν1, ν1]), ν1])) (by kernel_rfl)), en (tat_eq [⟨0, 0, 0, 9000, 0, 0⟩, ⟨10, 1000, 0, 9500, 0, 0⟩, ⟨100, 10000, 0, 9500, 0, 0⟩] 66 (r := (.tup [(.agg [(.int 66), (.int 6600), ν1, ν13, ν1, ν1]), ν1])) (by kernel_rfl)), en (tat_eq [⟨0, 0, 0, 9000, 0, 0⟩, ⟨100, 10000, 0, 9000, 0, 0⟩] 67 (r := (.tup [(.agg [(.int 67), (.int 6700), ν1, ν14, ν1, ν1]), ν1])) (by kernel_rfl)), en (tat_eq [⟨0, 0, 0, 9000, 0, 0⟩, ⟨10, 1000, 0, 9500, 0, 0⟩, ⟨100, 10000, 0, 9500, 0, 0⟩] 67 (r := (.tup [(.agg [(.int 67), (.int 6700), ν1, ν13, ν1, ν1]), ν1])) (by kernel_rfl)), en (tat_eq [⟨0, 0, 0, 9000, 0, 0⟩, ⟨100, 10000, 0, 9000, 0, 0⟩] 68 (r := (.tup [(.agg [(.int 68), (.int 6800), ν1, ν14, ν1, ν1]), ν1])) (by kernel_rfl)), en (tat_eq [⟨0, 0, 0, 9000, 0, 0⟩, ⟨10, 1000, 0, 9500, 0, 0⟩, ⟨100, 10000, 0, 9500, 0, 0⟩] 68 (r := (.tup [(.agg [(.int 68), (.int 6800), ν1, ν13, ν1, ν1]), ν1])) (by kernel_rfl)), en (tat_eq [⟨0, 0, 0, 9000, 0, 0⟩, ⟨100, 10000, 0, 9000, 0, 0⟩] 69 (r := (.tup [(.agg [(.int 69), (.int 6900), ν1, ν14, ν1, ν1]), ν1])) (by kernel_rfl)), en (tat_eq [⟨0, 0, 0, 9000, 0, 0⟩, ⟨10, 1000, 0, 9500, 0, 0⟩, ⟨100, 10000, 0, 9500, 0, 0⟩] 69 (r := (.tup [(.agg [(.int 69), (.int 6900), ν1, ν13, ν1, ν1]), ν1])) (by kernel_rfl)), en (tat_eq [⟨0, 0, 0, 9000, 0, 0⟩, ⟨100, 10000, 0, 9000, 0, 0⟩] 70 (r := (.tup [(.agg [(.int 70), (.int 7000), ν1, ν14, ν1, ν1]), ν1])) (by kernel_rfl)), en (tat_eq [⟨0, 0, 0, 9000, 0, 0⟩, ⟨10, 1000, 0, 9500, 0, 0⟩, ⟨100, 10000, 0, 9500, 0, 0⟩] 70 (r := (.tup [(.agg [(.int 70), (.int 7000), ν1, ν13, ν1, ν1]), ν1])) (by kernel_rfl)), en (tat_eq [⟨0, 0, 0, 9000, 0, 0⟩, ⟨100, 10000, 0, 9000, 0, 0⟩] 71 (r := (.tup [(.agg [(.int 71), (.int 7100), ν1, ν14, ν1, ν1]), ν1])) (by kernel_rfl)), en (tat_eq [⟨0, 0, 0, 9000, 0, 0⟩, ⟨10, 1000, 0, 9500, 0, 0⟩, ⟨100, 10000, 0, 9500, 0, 0⟩] 71 (r := (.tup [(.agg [(.int 71), (.int 7100), ν1, ν13, ν1, ν1]), ν1])) (by kernel_rfl)), en (tat_eq [⟨0, 0, 0, 9000, 0, 0⟩, ⟨100, 10000, 0, 9000, 0, 0⟩] 72 (r := (.tup [(.agg [(.int 72), (.int 7200), ν1, ν14, ν1, ν1]), ν1])) (by kernel_rfl)), en (tat_eq [⟨0, 0, 0, 9000, 0, 0⟩, ⟨10, 1000, 0, 9500, 0, 0⟩, ⟨100, 10000, 0, 9500, 0, 0⟩] 72 (r := (.tup [(.agg [(.int 72), (.int 7200), ν1, ν13, ν1, ν1]), ν1])) (by kernel_rfl)), en (tat_eq [⟨0, 0, 0, 9000, 0, 0⟩, ⟨100, 10000, 0, 9000, 0, 0⟩] 73 (r := (.tup [(.agg [(.int 73), (.int 7300), ν1, ν14, ν1, ν1]), ν1])) (by kernel_rfl)), en (tat_eq [⟨0, 0, 0, 9000, 0, 0⟩, ⟨10, 1000, 0, 9500, 0, 0⟩, ⟨100, 10000, 0, 9500, 0, 0⟩] 73 (r := (.tup [(.agg [(.int 73), (.int 7300), ν1, ν13, ν1, ν1]), ν1])) (by kernel_rfl)), en (tat_eq [⟨0, 0, 0, 9000, 0, 0⟩, ⟨100, 10000, 0, 9000, 0, 0⟩] 74 (r := (.tup [(.agg [(.int 74), (.int 7400), ν1, ν14, ν1, ν1]), ν1])) (by kernel_rfl)), en (tat_eq [⟨0, 0, 0, 9000, 0, 0⟩, ⟨10, 1000, 0, 9500, 0, 0⟩, ⟨100, 10000, 0, 9500, 0, 0⟩] 74 (r := (.tup [(.agg [(.int 74), (.int 7400), ν1, ν13, ν1, ν1]), ν1])) (by kernel_rfl)), en (tat_eq [⟨0, 0, 0, 9000, 0, 0⟩, ⟨100, 10000, 0, 9000, 0, 0⟩] 75 (r := (.tup [(.agg [(.int 75), (.int 7500), ν1, ν14, ν1, ν1]), ν1])) (by kernel_rfl)), en (tat_eq [⟨0, 0, 0, 9000, 0, 0⟩, ⟨10, 1000, 0, 9500, 0, 0⟩, ⟨100, 10000, 0, 9500, 0, 0⟩] 75 (r := (.tup [(.agg [(.int 75), (.int 7500), ν1, ν13, ν1, ν1]), ν1])) (by kernel_rfl)), en (tat_eq [⟨0, 0, 0, 9000, 0, 0⟩, ⟨100, 10000, 0, 9000, 0, 0⟩] 76 (r := (.tup [(.agg [(.int 76), (.int 7600), ν1, ν14, ν1, ν1]), ν1])) (by kernel_rfl)), en (tat_eq [⟨0, 0, 0, 9000, 0, 0⟩, ⟨10, 1000, 0, 9500, 0, 0⟩, ⟨100, 10000, 0, 9500, 0, 0⟩] 76 (r := (.tup [(.agg [(.int 76), (.int 7600), ν1, ν13, ν1, ν1]), ν1])) (by kernel_rfl)), en (tat_eq [⟨0, 0, 0, 9000, 0, 0⟩, ⟨100, 10000, 0, 9000, 0, 0⟩] 77 (r := (.tup [(.agg [(.int 77), (.int 7700), ν1, ν14, ν1, ν1]), ν1])) (by kernel_rfl)), en (tat_eq [⟨0, 0, 0, 9000, 0, 0⟩, ⟨10, 1000, 0, 9500, 0, 0⟩, ⟨100, 10000, 0, 9500, 0, 0⟩] 77 (r := (.tup [(.agg [(.int 77), (.int 7700), ν1, ν13, ν1, ν1]), ν1])) (by kernel_rfl)), en (tat_eq [⟨0, 0, 0, 9000, 0, 0⟩, ⟨100, 10000, 0, 9000, 0, 0⟩] 78 (r := (.tup [(.agg [(.int 78), (.int 7800), ν1, ν14, ν1, ν1]), ν1])) (by kernel_rfl)), en (tat_eq [⟨0, 0, 0, 9000, 0, 0⟩, ⟨10, 1000, 0, 9500, 0, 0⟩, ⟨100, 10000, 0, 9500, 0, 0⟩] 78 (r := (.tup [(.agg [(.int 78), (.int 7800), ν1, ν13, ν1, ν1]), ν1])) (by kernel_rfl)), en (tat_eq [⟨0, 0, 0, 9000, 0, 0⟩, ⟨100, 10000, 0, 9000, 0, 0⟩] 79 (r := (.tup [(.agg [(.int 79), (.int 7900), ν1, ν14, ν1, ν1]), ν1])) (by kernel_rfl)), en (tat_eq [⟨0, 0, 0, 9000, 0, 0⟩, ⟨10, 1000, 0, 9500, 0, 0⟩, ⟨100, 10000, 0, 9500, 0, 0⟩] 79 (r := (.tup [(.agg [(.int 79), (.int 7900), ν1, ν13, ν1, ν1]), ν1])) (by kernel_rfl)), en (tat_eq [⟨0, 0, 0, 9000, 0, 0⟩, ⟨100, 10000, 0, 9000, 0, 0⟩] 80 (r := (.tup [(.agg [(.int 80), (.int 8000), ν1, ν14, ν1, ν1]), ν1])) (by kernel_rfl)), en (tat_eq [⟨0, 0, 0, 9000, 0, 0⟩, ⟨10, 1000, 0, 9500, 0, 0⟩, ⟨100, 10000, 0, 9500, 0, 0⟩] 80 (r := (.tup [(.agg [(.int 80), (.int 8000), ν1, ν13, ν1, ν1]), ν1])) (by kernel_rfl)), en (tat_eq [⟨0, 0, 0, 9000, 0, 0⟩, ⟨100, 10000, 0, 9000, 0, 0⟩] 81 (r := (.tup [(.agg [(.int 81), (.int 8100), ν1, ν14, ν1, ν1]), ν1])) (by kernel_rfl)), en (tat_eq [⟨0, 0, 0, 9000, 0, 0⟩, ⟨10, 1000, 0, 9500, 0, 0⟩, ⟨100, 10000, 0, 9500, 0, 0⟩] 81 (r := (.tup [(.agg [(.int 81), (.int 8100), ν1, ν13, ν1, ν1]), ν1])) (by kernel_rfl)), en (tat_eq [⟨0, 0, 0, 9000, 0, 0⟩, ⟨100, 10000, 0, 9000, 0, 0⟩] 82 (r := (.tup [(.agg [(.int 82), (.int 8200), ν1, ν14, ν1, ν1]), ν1])) (by kernel_rfl)), en (tat_eq [⟨0, 0, 0, 9000, 0, 0⟩, ⟨10, 1000, 0, 9500, 0, 0⟩, ⟨100, 10000, 0, 9500, 0, 0⟩] 82 (r := (.tup [(.agg [(.int 82), (.int 8200), ν1, ν13, ν1, ν1]), ν1])) (by kernel_rfl)), en (tat_eq [⟨0, 0, 0, 9000, 0, 0⟩, ⟨100, 10000, 0, 9000, 0, 0⟩] 83 (r := (.tup [(.agg [(.int 83), (.int 8300), ν1, ν14, ν1, ν1]), ν1])) (by kernel_rfl)), en (tat_eq [⟨0, 0, 0, 9000, 0, 0⟩, ⟨10, 1000, 0, 9500, 0, 0⟩, ⟨100, 10000, 0, 9500, 0, 0⟩] 83 (r := (.tup [(.agg [(.int 83), (.int 8300), ν1, ν13, ν1, ν1]), ν1])) (by kernel_rfl)), en (tat_eq [⟨0, 0, 0, 9000, 0, 0⟩, ⟨100, 10000, 0, 9000, 0, 0⟩] 84 (r := (.tup [(.agg [(.int 84), (.int 8400), ν1, ν14, ν1, ν1]), ν1])) (by kernel_rfl)), en (tat_eq [⟨0, 0, 0, 9000, 0, 0⟩, ⟨10, 1000, 0, 9500, 0, 0⟩, ⟨100, 10000, 0, 9500, 0, 0⟩] 84 (r := (.tup [(.agg [(.int 84), (.int 8400), ν1, ν13, ν1, ν1]), ν1])) (by kernel_rfl)), en (tat_eq [⟨0, 0, 0, 9000, 0, 0⟩, ⟨100, 10000, 0, 9000, 0, 0⟩] 85 (r := (.tup [(.agg [(.int 85), (.int 8500), ν1, ν14, ν1, ν1]), ν1])) (by kernel_rfl)), en (tat_eq [⟨0, 0, 0, 9000, 0, 0⟩, ⟨10, 1000, 0, 9500, 0, 0⟩, ⟨100, 10000, 0, 9500, 0, 0⟩] 85 (r := (.tup [(.agg [(.int 85), (.int 8500), ν1, ν13, ν1, ν1]), ν1])) (by kernel_rfl)), en (tat_eq [⟨0, 0, 0, 9000, 0, 0⟩, ⟨100, 10000, 0, 9000, 0, 0⟩] 86 (r := (.tup [(.agg [(.int 86), (.int 8600), ν1, ν14, ν1, ν1]), ν1])) (by kernel_rfl)), en (tat_eq [⟨0, 0, 0, 9000, 0, 0⟩, ⟨10, 1000, 0, 9500, 0, 0⟩, ⟨100, 10000, 0, 9500, 0, 0⟩] 86 (r := (.tup [(.agg [(.int 86), (.int 8600), ν1, ν13, ν1, ν1]), ν1])) (by kernel_rfl)), en (tat_eq [⟨0, 0, 0, 9000, 0, 0⟩, ⟨100, 10000, 0, 9000, 0, 0⟩] 87 (r := (.tup [(.agg [(.int 87), (.int 8700), ν1, ν14, ν1, ν1]), ν1])) (by kernel_rfl)), en (tat_eq [⟨0, 0, 0, 9000, 0, 0⟩, ⟨10, 1000, 0, 9500, 0, 0⟩, ⟨100, 10000, 0, 9500, 0, 0⟩] 87 (r := (.tup [(.agg [(.int 87), (.int 8700), ν1, ν13, ν1, ν1]), ν1])) (by kernel_rfl)), en (tat_eq [⟨0, 0, 0, 9000, 0, 0⟩, ⟨100, 10000, 0, 9000, 0, 0⟩] 88 (r := (.tup [(.agg [(.int 88), (.int 8800), ν1, ν14, ν1, ν1]), ν1])) (by kernel_rfl)), en (tat_eq [⟨0, 0, 0, 9000, 0, 0⟩, ⟨10, 1000, 0, 9500, 0, 0⟩, ⟨100, 10000, 0, 9500, 0, 0⟩] 88 (r := (.tup [(.agg [(.int 88), (.int 8800), ν1, ν13, ν1, ν1]), ν1])) (by kernel_rfl)), en (tat_eq [⟨0, 0, 0, 9000, 0, 0⟩, ⟨100, 10000, 0, 9000, 0, 0⟩] 89 (r := (.tup [(.agg [(.int 89), (.int 8900), ν1, ν14, ν1, ν1]), ν1])) (by kernel_rfl)), en (tat_eq [⟨0, 0, 0, 9000, 0, 0⟩, ⟨10, 1000, 0, 9500, 0, 0⟩, ⟨100, 10000, 0, 9500, 0, 0⟩] 89 (r := (.tup [(.agg [(.int 89), (.int 8900), ν1, ν13, ν1, ν1]), ν1])) (by kernel_rfl)), en (tat_eq [⟨0, 0, 0, 9000, 0, 0⟩, ⟨100, 10000, 0, 9000, 0, 0⟩] 90 (r := (.tup [(.agg [(.int 90), ν14, ν1, ν14, ν1, ν1]), ν1])) (by kernel_rfl)), en (tat_eq [⟨0, 0, 0, 9000, 0, 0⟩, ⟨10, 1000, 0, 9500, 0, 0⟩, ⟨100, 10000, 0, 9500, 0, 0⟩] 90 (r := (.tup [(.agg [(.int 90), ν14, ν1, ν13, ν1, ν1]), ν1])) (by kernel_rfl)), en (tat_eq [⟨0, 0, 0, 9000, 0, 0⟩, ⟨100, 10000, 0, 9000, 0, 0⟩] 91 (r := (.tup [(.agg [(.int 91), (.int 9100), ν1, ν14, ν1, ν1]), ν1])) (by kernel_rfl)), en (tat_eq [⟨0, 0, 0, 9000, 0, 0⟩, ⟨10, 1000, 0, 9500, 0, 0⟩, ⟨100, 10000, 0, 9500, 0, 0⟩] 91 (r := (.tup [(.agg [(.int 91), (.int 9100), ν1, ν13, ν1, ν1]), ν1])) (by kernel_rfl)), en (tat_eq [⟨0, 0, 0, 9000, 0, 0⟩, ⟨100, 10000, 0, 9000, 0, 0⟩] 92 (r := (.tup [(.agg [(.int 92), (.int 9200), ν1, ν14, ν1, ν1]), ν1])) (by kernel_rfl)), en (tat_eq [⟨0, 0, 0, 9000, 0, 0⟩, ⟨10, 1000, 0, 9500, 0, 0⟩, ⟨100, 10000, 0, 9500, 0, 0⟩] 92 (r := (.tup [(.agg [(.int 92), (.int 9200), ν1, ν13, ν1, ν1]), ν1])) (by kernel_rfl)), en (tat_eq [⟨0, 0, 0, 9000, 0, 0⟩, ⟨100, 10000, 0, 9000, 0, 0⟩] 93 (r := (.tup [(.agg [(.int 93), (.int 9300), ν1, ν14, ν1, ν1]), ν1])) (by kernel_rfl)), en (tat_eq [⟨0, 0, 0, 9000, 0, 0⟩, ⟨10, 1000, 0, 9500, 0, 0⟩, ⟨100, 10000, 0, 9500, 0, 0⟩] 93 (r := (.tup [(.agg [(.int 93), (.int 9300), ν1, ν13, ν1, ν1]), ν1])) (by kernel_rfl)), en (tat_eq [⟨0, 0, 0, 9000, 0, 0⟩, ⟨100, 10000, 0, 9000, 0, 0⟩] 94 (r := (.tup [(.agg [(.int 94), (.int 9400), ν1, ν14, ν1, ν1]), ν1])) (by kernel_rfl)), en (tat_eq [⟨0, 0, 0, 9000, 0, 0⟩, ⟨10, 1000, 0, 9500, 0, 0⟩, ⟨100, 10000, 0, 9500, 0, 0⟩] 94 (r := (.tup [(.agg [(.int 94), (.int 9400), ν1, ν13, ν1, ν1]), ν1])) (by kernel_rfl)), en (tat_eq [⟨0, 0, 0, 9000, 0, 0⟩, ⟨100, 10000, 0, 9000, 0, 0⟩] 95 (r := (.tup [(.agg [(.int 95), ν13, ν1, ν14, ν1, ν1]), ν1])) (by kernel_rfl)), en (tat_eq [⟨0, 0, 0, 9000, 0, 0⟩, ⟨10, 1000, 0, 9500, 0, 0⟩, ⟨100, 10000, 0, 9500, 0, 0⟩] 95 (r := (.tup [(.agg [(.int 95), ν13, ν1, ν13, ν1, ν1]), ν1])) (by kernel_rfl)), en (tat_eq [⟨0, 0, 0, 9000, 0, 0⟩, ⟨100, 10000, 0, 9000, 0, 0⟩] 96 (r := (.tup [(.agg [(.int 96), (.int 9600), ν1, ν14, ν1, ν1]), ν1])) (by kernel_rfl)), en (tat_eq [⟨0, 0, 0, 9000, 0, 0⟩, ⟨10, 1000, 0, 9500, 0, 0⟩, ⟨100, 10000, 0, 9500, 0, 0⟩] 96 (r := (.tup [(.agg [(.int 96), (.int 9600), ν1, ν13, ν1, ν1]), ν1])) (by kernel_rfl)), en (tat_eq [⟨0, 0, 0, 9000, 0, 0⟩, ⟨100, 10000, 0, 9000, 0, 0⟩] 97 (r := (.tup [(.agg [(.int 97), (.int 9700), ν1, ν14, ν1, ν1]), ν1])) (by kernel_rfl)), en (tat_eq [⟨0, 0, 0, 9000, 0, 0⟩, ⟨10, 1000, 0, 9500, 0, 0⟩, ⟨100, 10000, 0, 9500, 0, 0⟩] 97 (r := (.tup [(.agg [(.int 97), (.int 9700), ν1, ν13, ν1, ν1]), ν1])) (by kernel_rfl)), en (tat_eq [⟨0, 0, 0, 9000, 0, 0⟩, ⟨100, 10000, 0, 9000, 0, 0⟩] 98 (r := (.tup [(.agg [(.int 98), (.int 9800), ν1, ν14, ν1, ν1]), ν1])) (by kernel_rfl)), en (tat_eq [⟨0, 0, 0, 9000, 0, 0⟩, ⟨10, 1000, 0, 9500, 0, 0⟩, ⟨100, 10000, 0, 9500, 0, 0⟩] 98 (r := (.tup [(.agg [(.int 98), (.int 9800), ν1, ν13, ν1, ν1]), ν1])) (by kernel_rfl)), en (tat_eq [⟨0, 0, 0, 9000, 0, 0⟩, ⟨100, 10000, 0, 9000, 0, 0⟩] 99 (r := (.tup [(.agg [(.int 99), (.int 9900), ν1, ν14, ν1, ν1]), ν1])) (by kernel_rfl)), en (tat_eq [⟨0, 0, 0, 9000, 0, 0⟩, ⟨10, 1000, 0, 9500, 0, 0⟩, ⟨100, 10000, 0, 9500, 0, 0⟩] 99 (r := (.tup [(.agg [(.int 99), (.int 9900), ν1, ν13, ν1, ν1]), ν1])) (by kernel_rfl)), en (tat_eq [⟨0, 0, 0, 9000, 0, 0⟩, ⟨100, 10000, 0, 9000, 0, 0⟩] 100 (r := (.tup [(.agg [ν9, ν18, ν1, ν14, ν1, ν1]), ν1])) (by kernel_rfl)), en (tat_eq [⟨0, 0, 0, 9000, 0, 0⟩, ⟨10, 1000, 0, 9500, 0, 0⟩, ⟨100, 10000, 0, 9500, 0, 0⟩] 100 (r := (.tup [(.agg [ν9, ν18, ν1, ν13, ν1, ν1]), ν1])) (by kernel_rfl))]⟩, ⟨215, .sc, [en (sep_eq ⟨0, 0, 0, 9000, 0, 0⟩ ⟨0, 0, 0, 9000, 0, 0⟩ ⟨100, 500⟩ (c := false) (by kernel_rfl)), en (sep_eq ⟨1, 100, 0, 9000, 0, 0⟩ ⟨1, 100, 0, 9050, 0, 0⟩ ⟨100, 500⟩ (c := false) (by kernel_rfl)), en (sep_eq ⟨2, 200, 0, 9000, 0, 0⟩ ⟨2, 200, 0, 9100, 0, 0⟩ ⟨100, 500⟩ (c := false) (by kernel_rfl)), en (sep_eq ⟨3, 300, 0, 9000, 0, 0⟩ ⟨3, 300, 0, 9150, 0, 0⟩ ⟨100, 500⟩ (c := false) (by kernel_rfl)), en (sep_eq ⟨4, 400, 0, 9000, 0, 0⟩ ⟨4, 400, 0, 9200, 0, 0⟩ ⟨100, 500⟩ (c := false) (by kernel_rfl)), en (sep_eq ⟨5, 500, 0, 9000, 0, 0⟩ ⟨5, 500, 0, 9250, 0, 0⟩ ⟨100, 500⟩ (c := false) (by kernel_rfl)), en (sep_eq ⟨6, 600, 0, 9000, 0, 0⟩ ⟨6, 600, 0, 9300, 0, 0⟩ ⟨100, 500⟩ (c := false) (by kernel_rfl)), en (sep_eq ⟨7, 700, 0, 9000, 0, 0⟩ ⟨7, 700, 0, 9350, 0, 0⟩ ⟨100, 500⟩ (c := false) (by kernel_rfl)), en (sep_eq ⟨8, 800, 0, 9000, 0, 0⟩ ⟨8, 800, 0, 9400, 0, 0⟩ ⟨100, 500⟩ (c := false) (by kernel_rfl)), en (sep_eq ⟨9, 900, 0, 9000, 0, 0⟩ ⟨9, 900, 0, 9450, 0, 0⟩ ⟨100, 500⟩ (c := false) (by kernel_rfl)), en (sep_eq ⟨10, 1000, 0, 9000, 0, 0⟩ ⟨10, 1000, 0, 9500, 0, 0⟩ ⟨100, 500⟩ (c := true) (by kernel_rfl)), en (sep_eq ⟨11, 1100, 0, 9000, 0, 0⟩ ⟨11, 1100, 0, 9500, 0, 0⟩ ⟨100, 500⟩ (c := true) (by kernel_rfl)), en (sep_eq ⟨12, 1200, 0, 9000, 0, 0⟩ ⟨12, 1200, 0, 9500, 0, 0⟩ ⟨100, 500⟩ (c := true) (by kernel_rfl)), en (sep_eq ⟨13, 1300, 0, 9000, 0, 0⟩ ⟨13, 1300, 0, 9500, 0, 0⟩ ⟨100, 500⟩ (c := true) (by kernel_rfl)), en (sep_eq ⟨14, 1400, 0, 9000, 0, 0⟩ ⟨14, 1400, 0, 9500, 0, 0⟩ ⟨100, 500⟩ (c := true) (by kernel_rfl)), en (sep_eq ⟨15, 1500, 0, 9000, 0, 0⟩ ⟨15, 1500, 0, 9500, 0, 0⟩ ⟨100, 500⟩ (c := true) (by kernel_rfl)), en (sep_eq ⟨16, 1600, 0, 9000, 0, 0⟩ ⟨16, 1600, 0, 9500, 0, 0⟩ ⟨100, 500⟩ (c := true) (by kernel_rfl)), en (sep_eq ⟨17, 1700, 0, 9000, 0, 0⟩ ⟨17, 1700, 0, 9500, 0, 0⟩ ⟨100, 500⟩ (c := true) (by kernel_rfl)), en (sep_eq ⟨18, 1800, 0, 9000, 0, 0⟩ ⟨18, 1800, 0, 9500, 0, 0⟩ ⟨100, 500⟩ (c := true) (by kernel_rfl)), en (sep_eq ⟨19, 1900, 0, 9000, 0, 0⟩ ⟨19, 1900, 0, 9500, 0, 0⟩ ⟨100, 500⟩ (c := true) (by kernel_rfl)), en (sep_eq ⟨20, 2000, 0, 9000, 0, 0⟩ ⟨20, 2000, 0, 9500, 0, 0⟩ ⟨100, 500⟩ (c := true) (by kernel_rfl)), en (sep_eq ⟨21, 2100, 0, 9000, 0, 0⟩ ⟨21, 2100, 0, 9500, 0, 0⟩ ⟨100, 500⟩ (c := true) (by kernel_rfl)), en (sep_eq ⟨22, 2200, 0, 9000, 0, 0⟩ ⟨22, 2200, 0, 9500, 0, 0⟩ ⟨100, 500⟩ (c := true) (by kernel_rfl)), en (sep_eq ⟨23, 2300, 0, 9000, 0, 0⟩ ⟨23, 2300, 0, 9500, 0, 0⟩ ⟨100, 500⟩ (c := true) (by kernel_rfl)), en (sep_eq ⟨24, 2400, 0, 9000, 0, 0⟩ ⟨24, 2400, 0, 9500, 0, 0⟩ ⟨100, 500⟩ (c := true) (by kernel_rfl)), en (sep_eq ⟨25, 2500, 0, 9000, 0, 0⟩ ⟨25, 2500, 0, 9500, 0, 0⟩ ⟨100, 500⟩ (c := true) (by kernel_rfl)), en (sep_eq ⟨26, 2600, 0, 9000, 0, 0⟩ ⟨26, 2600, 0, 9500, 0, 0⟩ ⟨100, 500⟩ (c := true) (by kernel_rfl)), en (sep_eq ⟨27, 2700, 0, 9000, 0, 0⟩ ⟨27, 2700, 0, 9500, 0, 0⟩ ⟨100, 500⟩ (c := true) (by kernel_rfl)), en (sep_eq ⟨28, 2800, 0, 9000, 0, 0⟩ ⟨28, 2800, 0, 9500, 0, 0⟩ ⟨100, 500⟩ (c := true) (by kernel_rfl)), en (sep_eq ⟨29, 2900, 0, 9000, 0, 0⟩ ⟨29, 2900, 0, 9500, 0, 0⟩ ⟨100, 500⟩ (c := true) (by kernel_rfl)), en (sep_eq ⟨30, 3000, 0, 9000, 0, 0⟩ ⟨30, 3000, 0, 9500, 0, 0⟩ ⟨100, 500⟩ (c := true) (by kernel_rfl)), en (sep_eq ⟨31, 3100, 0, 9000, 0, 0⟩ ⟨31, 3100, 0, 9500, 0, 0⟩ ⟨100, 500⟩ (c := true) (by kernel_rfl)), en (sep_eq ⟨32, 3200, 0, 9000, 0, 0⟩ ⟨32, 3200, 0, 9500, 0, 0⟩ ⟨100, 500⟩ (c := true) (by kernel_rfl)), en (sep_eq ⟨33, 3300, 0, 9000, 0, 0⟩ ⟨33, 3300, 0, 9500, 0, 0⟩ ⟨100, 500⟩ (c := true) (by kernel_rfl)), en (sep_eq ⟨34, 3400, 0, 9000, 0, 0⟩ ⟨34, 3400, 0, 9500, 0, 0⟩ ⟨100, 500⟩ (c := true) (by kernel_rfl)), en (sep_eq ⟨35, 3500, 0, 9000, 0, 0⟩ ⟨35, 3500, 0, 9500, 0, 0⟩ ⟨100, 500⟩ (c := true) (by kernel_rfl)), en (sep_eq ⟨36, 3600, 0, 9000, 0, 0⟩ ⟨36, 3600, 0, 9500, 0, 0⟩ ⟨100, 500⟩ (c := true) (by kernel_rfl)), en (sep_eq ⟨37, 3700, 0, 9000, 0, 0⟩ ⟨37, 3700, 0, 9500, 0, 0⟩ ⟨100, 500⟩ (c := true) (by kernel_rfl)), en (sep_eq ⟨38, 3800, 0, 9000, 0, 0⟩ ⟨38, 3800, 0, 9500, 0, 0⟩ ⟨100, 500⟩ (c := true) (by kernel_rfl)), en (sep_eq ⟨39, 3900, 0, 9000, 0, 0⟩ ⟨39, 3900, 0, 9500, 0, 0⟩ ⟨100, 500⟩ (c := true) (by kernel_rfl)), en (sep_eq ⟨40, 4000, 0, 9000, 0, 0⟩ ⟨40, 4000, 0, 9500, 0, 0⟩ ⟨100, 500⟩ (c := true) (by kernel_rfl)), en (sep_eq ⟨41, 4100, 0, 9000, 0, 0⟩ ⟨41, 4100, 0, 9500, 0, 0⟩ ⟨100, 500⟩ (c := true) (by kernel_rfl)), en (sep_eq ⟨42, 4200, 0, 9000, 0, 0⟩ ⟨42, 4200, 0, 9500, 0, 0⟩ ⟨100, 500⟩ (c := true) (by kernel_rfl)), en (sep_eq ⟨43, 4300, 0, 9000, 0, 0⟩ ⟨43, 4300, 0, 9500, 0, 0⟩ ⟨100, 500⟩ (c := true) (by kernel_rfl)), en (sep_eq ⟨44, 4400, 0, 9000, 0, 0⟩ ⟨44, 4400, 0, 9500, 0, 0⟩ ⟨100, 500⟩ (c := true) (by kernel_rfl)), en (sep_eq ⟨45, 4500, 0, 9000, 0, 0⟩ ⟨45, 4500, 0, 9500, 0, 0⟩ ⟨100, 500⟩ (c := true) (by kernel_rfl)), en (sep_eq ⟨46, 4600, 0, 9000, 0, 0⟩ ⟨46, 4600, 0, 9500, 0, 0⟩ ⟨100, 500⟩ (c := true) (by kernel_rfl)), en (sep_eq ⟨47, 4700, 0, 9000, 0, 0⟩ ⟨47, 4700, 0, 9500, 0, 0⟩ ⟨100, 500⟩ (c := true) (by kernel_rfl)), en (sep_eq ⟨48, 4800, 0, 9000, 0, 0⟩ ⟨48, 4800, 0, 9500, 0, 0⟩ ⟨100, 500⟩ (c := true) (by kernel_rfl)), en (sep_eq ⟨49, 4900, 0, 9000, 0, 0⟩ ⟨49, 4900, 0, 9500, 0, 0⟩ ⟨100, 500⟩ (c := true) (by kernel_rfl)), en (sep_eq ⟨50, 5000, 0, 9000, 0, 0⟩ ⟨50, 5000, 0, 9500, 0, 0⟩ ⟨100, 500⟩ (c := true) (by kernel_rfl)), en (sep_eq ⟨51, 5100, 0, 9000, 0, 0⟩ ⟨51, 5100, 0, 9500, 0, 0⟩ ⟨100, 500⟩ (c := true) (by kernel_rfl)), en (sep_eq ⟨52, 5200, 0, 9000, 0, 0⟩ ⟨52, 5200, 0, 9500, 0, 0⟩ ⟨100, 500⟩ (c := true) (by kernel_rfl)), en (sep_eq ⟨53, 5300, 0, 9000, 0, 0⟩ ⟨53, 5300, 0, 9500, 0, 0⟩ ⟨100, 500⟩ (c := true) (by kernel_rfl)), en (sep_eq ⟨54, 5400, 0, 9000, 0, 0⟩ ⟨54, 5400, 0, 9500, 0, 0⟩ ⟨100, 500⟩ (c := true) (by kernel_rfl)), en (sep_eq ⟨55, 5500, 0, 9000, 0, 0⟩ ⟨55, 5500, 0, 9500, 0, 0⟩ ⟨100, 500⟩ (c := true) (by kernel_rfl)), en (sep_eq ⟨56, 5600, 0, 9000, 0, 0⟩ ⟨56, 5600, 0, 9500, 0, 0⟩ ⟨100, 500⟩ (c := true) (by kernel_rfl)), en (sep_eq ⟨57, 5700, 0, 9000, 0, 0⟩ ⟨57, 5700, 0, 9500, 0, 0⟩ ⟨100, 500⟩ (c := true) (by kernel_rfl)), en (sep_eq ⟨58, 5800, 0, 9000, 0, 0⟩ ⟨58, 5800, 0, 9500, 0, 0⟩ ⟨100, 500⟩ (c := true) (by kernel_rfl)), en (sep_eq ⟨59, 5900, 0, 9000, 0, 0⟩ ⟨59, 5900, 0, 9500, 0, 0⟩ ⟨100, 500⟩ (c := true) (by kernel_rfl)), en (sep_eq ⟨60, 6000, 0, 9000, 0, 0⟩ ⟨60, 6000, 0, 9500, 0, 0⟩ ⟨100, 500⟩ (c := true) (by kernel_rfl)), en (sep_eq ⟨61, 6100, 0, 9000, 0, 0⟩ ⟨61, 6100, 0, 9500, 0, 0⟩ ⟨100, 500⟩ (c := true) (by kernel_rfl)), en (sep_eq ⟨62, 6200, 0, 9000, 0, 0⟩ ⟨62, 6200, 0, 9500, 0, 0⟩ ⟨100, 500⟩ (c := true) (by kernel_rfl)), en (sep_eq ⟨63, 6300, 0, 9000, 0, 0⟩ ⟨63, 6300, 0, 9500, 0, 0⟩ ⟨100, 500⟩ (c := true) (by kernel_rfl)), en (sep_eq ⟨64, 6400, 0, 9000, 0, 0⟩ ⟨64, 6400, 0, 9500, 0, 0⟩ ⟨100, 500⟩ (c := true) (by kernel_rfl)), en (sep_eq ⟨65, 6500, 0, 9000, 0, 0⟩ ⟨65, 6500, 0, 9500, 0, 0⟩ ⟨100, 500⟩ (c := true) (by kernel_rfl)), en (sep_eq ⟨66, 6600, 0, 9000, 0, 0⟩ ⟨66, 6600, 0, 9500, 0, 0⟩ ⟨100, 500⟩ (c := true) (by kernel_rfl)), en (sep_eq ⟨67, 6700, 0, 9000, 0, 0⟩ ⟨67, 6700, 0, 9500, 0, 0⟩ ⟨100, 500⟩ (c := true) (by kernel_rfl)), en (sep_eq ⟨68, 6800, 0, 9000, 0, 0⟩ ⟨68, 6800, 0, 9500, 0, 0⟩ ⟨100, 500⟩ (c := true) (by kernel_rfl)), en (sep_eq ⟨69, 6900, 0, 9000, 0, 0⟩ ⟨69, 6900, 0, 9500, 0, 0⟩ ⟨100, 500⟩ (c := true) (by kernel_rfl)), en (sep_eq ⟨70, 7000, 0, 9000, 0, 0⟩ ⟨70, 7000, 0, 9500, 0, 0⟩ ⟨100, 500⟩ (c := true) (by kernel_rfl)), en (sep_eq ⟨71, 7100, 0, 9000, 0, 0⟩ ⟨71, 7100, 0, 9500, 0, 0⟩ ⟨100, 500⟩ (c := true) (by kernel_rfl)), en (sep_eq ⟨72, 7200, 0, 9000, 0, 0⟩ ⟨72, 7200, 0, 9500, 0, 0⟩ ⟨100, 500⟩ (c := true) (by kernel_rfl)), en (sep_eq ⟨73, 7300, 0, 9000, 0, 0⟩ ⟨73, 7300, 0, 9500, 0, 0⟩ ⟨100, 500⟩ (c := true) (by kernel_rfl)), en (sep_eq ⟨74, 7400, 0, 9000, 0, 0⟩ ⟨74, 7400, 0, 9500, 0, 0⟩ ⟨100, 500⟩ (c := true) (by kernel_rfl)), en (sep_eq ⟨75, 7500, 0, 9000, 0, 0⟩ ⟨75, 7500, 0, 9500, 0, 0⟩ ⟨100, 500⟩ (c := true) (by kernel_rfl)), en (sep_eq ⟨76, 7600, 0, 9000, 0, 0⟩ ⟨76, 7600, 0, 9500, 0, 0⟩ ⟨100, 500⟩ (c := true) (by kernel_rfl)), en (sep_eq ⟨77, 7700, 0, 9000, 0, 0⟩ ⟨77, 7700, 0, 9500, 0, 0⟩ ⟨100, 500⟩ (c := true) (by kernel_rfl)), en (sep_eq ⟨78, 7800, 0, 9000, 0, 0⟩ ⟨78, 7800, 0, 9500, 0, 0⟩ ⟨100, 500⟩ (c := true) (by kernel_rfl)), en (sep_eq ⟨79, 7900, 0, 9000, 0, 0⟩ ⟨79, 7900, 0, 9500, 0, 0⟩ ⟨100, 500⟩ (c := true) (by kernel_rfl)), en (sep_eq ⟨80, 8000, 0, 9000, 0, 0⟩ ⟨80, 8000, 0, 9500, 0, 0⟩ ⟨100, 500⟩ (c := true) (by kernel_rfl)), en (sep_eq ⟨81, 8100, 0, 9000, 0, 0⟩ ⟨81, 8100, 0, 9500, 0, 0⟩ ⟨100, 500⟩ (c := true) (by kernel_rfl)), en (sep_eq ⟨82, 8200, 0, 9000, 0, 0⟩ ⟨82, 8200, 0, 9500, 0, 0⟩ ⟨100, 500⟩ (c := true) (by kernel_rfl)), en (sep_eq ⟨83, 8300, 0, 9000, 0, 0⟩ ⟨83, 8300, 0, 9500, 0, 0⟩ ⟨100, 500⟩ (c := true) (by kernel_rfl)), en (sep_eq ⟨84, 8400, 0, 9000, 0, 0⟩ ⟨84, 8400, 0, 9500, 0, 0⟩ ⟨100, 500⟩ (c := true) (by kernel_rfl)), en (sep_eq ⟨85, 8500, 0, 9000, 0, 0⟩ ⟨85, 8500, 0, 9500, 0, 0⟩ ⟨100, 500⟩ (c := true) (by kernel_rfl)), en (sep_eq ⟨86, 8600, 0, 9000, 0, 0⟩ ⟨86, 8600, 0, 9500, 0, 0⟩ ⟨100, 500⟩ (c := true) (by kernel_rfl)), en (sep_eq ⟨87, 8700, 0, 9000, 0, 0⟩ ⟨87, 8700, 0, 9500, 0, 0⟩ ⟨100, 500⟩ (c := true) (by kernel_rfl)), en (sep_eq ⟨88, 8800, 0, 9000, 0, 0⟩ ⟨88, 8800, 0, 9500, 0, 0⟩ ⟨100, 500⟩ (c := true) (by kernel_rfl)), en (sep_eq ⟨89, 8900, 0, 9000, 0, 0⟩ ⟨89, 8900, 0, 9500, 0, 0⟩ ⟨100, 500⟩ (c := true) (by kernel_rfl)), en (sep_eq ⟨90, 9000, 0, 9000, 0, 0⟩ ⟨90, 9000, 0, 9500, 0, 0⟩ ⟨100, 500⟩ (c := true) (by kernel_rfl)), en (sep_eq ⟨91, 9100, 0, 9000, 0, 0⟩ ⟨91, 9100, 0, 9500, 0, 0⟩ ⟨100, 500⟩ (c := true) (by kernel_rfl)), en (sep_eq ⟨92, 9200, 0, 9000, 0, 0⟩ ⟨92, 9200, 0, 9500, 0, 0⟩ ⟨100, 500⟩ (c := true) (by kernel_rfl)), en (sep_eq ⟨93, 9300, 0, 9000, 0, 0⟩ ⟨93, 9300, 0, 9500, 0, 0⟩ ⟨100, 500⟩ (c := true) (by kernel_rfl)), en (sep_eq ⟨94, 9400, 0, 9000, 0, 0⟩ ⟨94, 9400, 0, 9500, 0, 0⟩ ⟨100, 500⟩ (c := true) (by kernel_rfl)), en (sep_eq ⟨95, 9500, 0, 9000, 0, 0⟩ ⟨95, 9500, 0, 9500, 0, 0⟩ ⟨100, 500⟩ (c := true) (by kernel_rfl)), en (sep_eq ⟨96, 9600, 0, 9000, 0, 0⟩ ⟨96, 9600, 0, 9500, 0, 0⟩ ⟨100, 500⟩ (c := true) (by kernel_rfl)), en (sep_eq ⟨97, 9700, 0, 9000, 0, 0⟩ ⟨97, 9700, 0, 9500, 0, 0⟩ ⟨100, 500⟩ (c := true) (by kernel_rfl)), en (sep_eq ⟨98, 9800, 0, 9000, 0, 0⟩ ⟨98, 9800, 0, 9500, 0, 0⟩ ⟨100, 500⟩ (c := true) (by kernel_rfl)), en (sep_eq ⟨99, 9900, 0, 9000, 0, 0⟩ ⟨99, 9900, 0, 9500, 0, 0⟩ ⟨100, 500⟩ (c := true) (by kernel_rfl)), en (sep_eq ⟨100, 10000, 0, 9000, 0, 0⟩ ⟨100, 10000, 0, 9500, 0, 0⟩ ⟨100, 500⟩ (c := true) (by kernel_rfl))]⟩], [], [], [], [], []⟩ 24 (.n 0) Tryz.func150 rfl Tryz.call150 (by kernel_rfl)
theorem w87 : Fn Tryz.prog 86 [ν85, ν90, ν41] (.tup [(.row 96 2 true), .sc]) (.tup [ν42, ν1]) := ev_run mixed ⟨[⟨149, .sc, [en w84]⟩, ⟨150, (.row 96 2 true), [en w86]⟩], [], [], [], [], []⟩ 24 (.n 0) Tryz.func86 rfl Tryz.call86 (by kernel_rfl)
theorem w88 : Fn Tryz.prog 30 [ν85, ν90, ν41] (.tup [.sc, .sc]) (.tup [ν1, ν1]) := ev_run mixed ⟨[⟨86, (.tup [(.row 96 2 true), .sc]), [en w87]⟩], [], [], [], [], []⟩ 24 (.n 0) Tryz.func30 rfl Tryz.call30 (by kernel_rfl)
theorem w89 : Fn Tryz.prog 78 [ν24] .sc ν17 := ev_run mixed ⟨[], [], [], [], [], []⟩ 24 (.n 0) Tryz.func78 rfl Tryz.call78 (by kernel_rfl)
theorem w90 : Fn Tryz.prog 41 [ν24] .sc ν17 := ev_run mixed ⟨[⟨78, .sc, [en w89]⟩], [], [], [], [], []⟩ 24 (.n 0) Tryz.func41 rfl Tryz.call41 (by kernel_rfl)
theorem w91 : Fn Tryz.prog 41 [ν29] .sc ν17 := ev_run mixed ⟨[⟨78, .sc, [en w7]⟩], [], [], [], [], []⟩ 24 (.n 0) Tryz.func41 rfl Tryz.call41 (by kernel_rfl)
theorem w92 : Fn Tryz.prog 42 [ν72] .sc ν1 := ev_run mixed ⟨[⟨41, .sc, [en w91]⟩], [], [], [], [], [⟨172, Tryz.call172⟩, ⟨111, Tryz.call111⟩]⟩ 24 (.n 2) Tryz.func42 rfl Tryz.call42 (by kernel_rfl)
theorem w93 : Fn Tryz.prog 8 [ν67] .sc ν1 := ev_run mixed ⟨[], [], [], [], [], []⟩ 24 (.n 0) Tryz.func8 rfl Tryz.call8 (by kernel_rfl)
theorem w94 : Fn Tryz.prog 43 [ν72] (.row 34 2 true) ν72 := ev_run mixed ⟨[], [], [], [], [], []⟩ 24 (.n 0) Tryz.func43 rfl Tryz.call43 (by kernel_rfl)
theorem w95 : Fn Tryz.prog 182 [(.lit (.int .u64 1))] .sc ν0 := ev_run mixed ⟨[], [], [], [], [], []⟩ 24 (.n 0) Tryz.func182 rfl Tryz.call182 (by kernel_rfl)
theorem w96 : Fn Tryz.prog 114 [(.lit (.int .u64 1))] .sc ν0 := ev_run mixed ⟨[⟨182, .sc, [en w95]⟩], [], [], [], [], []⟩ 24 (.n 0) Tryz.func114 rfl Tryz.call114 (by kernel_rfl)
theorem w97 : Fn Tryz.prog 7 [ν24, ν72, ν67] (.tup [(.row 32 3 true), .sc]) (.tup [(.sl 3 [[ν29, ν24, (.int 3)]]), ν1]) := ev_run mixed ⟨[⟨41, .sc, [en w90]⟩, ⟨42, .sc, [en w92]⟩, ⟨8, .sc, [en w93]⟩, ⟨43, (.row 34 2 true), [en w94]⟩, ⟨114, .sc, [en w96]⟩], [], [], [], [], [⟨49, Tryz.call49⟩, ⟨48, Tryz.call48⟩, ⟨173, Tryz.call173⟩, ⟨113, Tryz.call113⟩, ⟨44, Tryz.call44⟩]⟩ 24 (.n 5) Tryz.func7 rfl Tryz.call7 (by kernel_rfl)
theorem w98 : Fn Tryz.prog 32 [] .sc ν89 := ev_run mixed ⟨[], [], [], [], [], []⟩ 24 (.n 0) Tryz.func32 rfl Tryz.call32 (by kernel_rfl)
theorem w99 : Fn Tryz.prog 96 [ν1] .sc ν1 := ev_run mixed ⟨[], [], [], [], [], []⟩ 24 (.n 0) Tryz.func96 rfl Tryz.call96 (by kernel_rfl)
theorem w100 : Fn Tryz.prog 151 [ν76] .sc ν1 := ev_run mixed ⟨[⟨78, .sc, [en w13]⟩, ⟨96, .sc, [en w99]⟩], [], [], [], [], [⟨266, Tryz.call266⟩, ⟨216, Tryz.call216⟩]⟩ 24 (.n 2) Tryz.func151 rfl Tryz.call151 (by kernel_rfl)
theorem w101 : Fn Tryz.prog 87 [ν76] (.tup [(.row 3 1 true), .sc]) (.tup [ν27, ν1]) := ev_run mixed ⟨[⟨151, .sc, [en w100]⟩, ⟨114, .sc, [en w96]⟩], [], [], [], [], [⟨267, Tryz.call267⟩, ⟨218, Tryz.call218⟩, ⟨152, Tryz.call152⟩]⟩ 24 (.n 3) Tryz.func87 rfl Tryz.call87 (by kernel_rfl)
theorem w102 : Fn Tryz.prog 88 [ν89] .sc ν1 := ev_run mixed ⟨[], [], [], [], [], []⟩ 24 (.n 0) Tryz.func88 rfl Tryz.call88 (by kernel_rfl)
theorem w103 : Fn Tryz.prog 156 [ν7, ν1] .sc ν12 := ev_run mixed ⟨[], [], [], [], [], []⟩ 24 (.n 0) Tryz.func156 rfl Tryz.call156 (by kernel_rfl)
theorem w104 : Fn Tryz.prog 154 [ν7, ν1] .sc ν19 := ev_run mixed ⟨[⟨156, .sc, [en w103]⟩], [], [], [], [], []⟩ 24 (.n 0) Tryz.func154 rfl Tryz.call154 (by kernel_rfl)
theorem w105 : Fn Tryz.prog 155 [ν7] (.row 3 1 true) ν7 := ev_run mixed ⟨[], [], [], [], [], []⟩ 24 (.b 0 (.n 0) (.n 0)) Tryz.func155 rfl Tryz.call155 (by kernel_rfl)
theorem w106 : Fn Tryz.prog 91 [ν76, ν27, ν89] (.tup [(.row 3 1 true), .sc]) (.tup [ν28, ν17]) := ev_run mixed ⟨[], [], [], [], [], []⟩ 24 (.n 0) Tryz.func91 rfl Tryz.call91 (by kernel_rfl)
theorem w107 : Fn Tryz.prog 156 [ν27, ν1] .sc ν1 := ev_run mixed ⟨[], [], [], [], [], []⟩ 24 (.n 0) Tryz.func156 rfl Tryz.call156 (by kernel_rfl)
theorem w108 : Fn Tryz.prog 92 [ν27, ν27] .sc ν1 := ev_run mixed ⟨[⟨156, .sc, [en w107]⟩], [], [], [], [], []⟩ 24 (.n 0) Tryz.func92 rfl Tryz.call92 (by kernel_rfl)
theorem w109 : Fn Tryz.prog 31 [ν76, ν89, ν1] (.tup [(.row 3 1 true), (.row 3 1 true), .sc]) (.tup [ν27, ν28, ν1]) := ev_run mixed ⟨[⟨87, (.tup [(.row 3 1 true), .sc]), [en w101]⟩, ⟨88, .sc, [en w102]⟩, ⟨154, .sc, [en w104]⟩, ⟨155, (.row 3 1 true), [en w105]⟩, ⟨91, (.tup [(.row 3 1 true), .sc]), [en w106]⟩, ⟨92, .sc, [en w108]⟩], [], [], [], [], [⟨90, Tryz.call90⟩, ⟨89, Tryz.call89⟩]⟩ 24 (.n 3) Tryz.func31 rfl Tryz.call31 (by kernel_rfl)
theorem w110 : Fn Tryz.prog 157 [ν11] .sc ν1 := ev_run mixed ⟨[], [], [], [], [], []⟩ 24 (.n 0) Tryz.func157 rfl Tryz.call157 (by kernel_rfl)
theorem w111 : Fn Tryz.prog 95 [ν1] .sc ν19 := ev_run mixed ⟨[], [], [], [], [], []⟩ 24 (.n 0) Tryz.func95 rfl Tryz.call95 (by kernel_rfl)
theorem w112 : Fn Tryz.prog 158 [ν39] .sc ν1 := ev_run mixed ⟨[⟨95, .sc, [en w111]⟩], [], [], [], [], []⟩ 24 (.n 0) Tryz.func158 rfl Tryz.call158 (by kernel_rfl)
theorem w113 : Fn Tryz.prog 93 [ν11, ν39, ν89] (.tup [.sc, .sc, .sc]) (.tup [ν1, ν1, ν1]) := ev_run mixed ⟨[⟨157, .sc, [en w110]⟩, ⟨158, .sc, [en w112]⟩, ⟨88, .sc, [en w102]⟩], [], [], [], [], []⟩ 24 (.n 0) Tryz.func93 rfl Tryz.call93 (by kernel_rfl)
theorem w114 : Fn Tryz.prog 94 [ν11] (.row 139 4 true) ν11 := ev_run mixed ⟨[], [], [], [], [], []⟩ 24 (.b 0 (.n 0) (.n 0)) Tryz.func94 rfl Tryz.call94 (by kernel_rfl)
theorem w115 : Fn Tryz.prog 95 [ν3] .sc ν19 := ev_run mixed ⟨[], [], [], [], [], []⟩ 24 (.n 0) Tryz.func95 rfl Tryz.call95 (by kernel_rfl)
theorem w116 : Fn Tryz.prog 97 [ν39, ν3] (.tup [.sc, .sc]) (.tup [ν1, ν17]) := ev_run mixed ⟨[], [], [], [], [], []⟩ 24 (.n 0) Tryz.func97 rfl Tryz.call97 (by kernel_rfl)
theorem w117 : Fn Tryz.prog 98 [ν11, (.agg [ν3, ν1, ν17, ν1]), ν89] .sc ν17 := ev_run mixed ⟨[], [], [], [], [], []⟩ 24 (.n 0) Tryz.func98 rfl Tryz.call98 (by kernel_rfl)
theorem w118 : Fn Tryz.prog 33 [ν11, ν39, ν89, (.sl 2 [[ν3, ν1]])] (.tup [(.row 139 4 true), .sc]) (.tup [ν74, ν1]) := ev_run mixed ⟨[⟨93, (.tup [.sc, .sc, .sc]), [en w113]⟩, ⟨94, (.row 139 4 true), [en w114]⟩, ⟨95, .sc, [en w115]⟩, ⟨96, .sc, [en w99]⟩, ⟨97, (.tup [.sc, .sc]), [en w116]⟩, ⟨98, .sc, [en w117]⟩], [], [⟨101, true, [eu (insMv [] [[ν3, ν1, ν17, ν1]] 0 (by decide) (by decide) ((default : Chk (AV.flatS ν74)).ok rfl) (by decide))]⟩], [], [], [⟨99, Tryz.call99⟩]⟩ 24 (.n 1) Tryz.func33 rfl Tryz.call33 (by kernel_rfl)
theorem w119 : Fn Tryz.prog 78 [ν25] .sc ν17 := ev_run mixed ⟨[], [], [], [], [], []⟩ 24 (.n 0) Tryz.func78 rfl Tryz.call78 (by kernel_rfl)
theorem w120 : Fn Tryz.prog 103 [(.sl 2 []), ν25] .sc ν12 := ev_run mixed ⟨[], [], [], [], [], [⟨165, Tryz.call165⟩]⟩ 24 (.n 1) Tryz.func103 rfl Tryz.call103 (by kernel_rfl)
theorem w121 : Fn Tryz.prog 162 [ν53] .sc ν1 := ev_run mixed ⟨[⟨78, .sc, [en w119]⟩, ⟨103, .sc, [en w120]⟩], [], [], [], [], []⟩ 24 (.n 0) Tryz.func162 rfl Tryz.call162 (by kernel_rfl)
theorem w122 : Fn Tryz.prog 103 [ν53, ν25] .sc ν1 := ev_run mixed ⟨[], [], [], [], [], [⟨166, Tryz.call166⟩, ⟨165, Tryz.call165⟩]⟩ 24 (.n 2) Tryz.func103 rfl Tryz.call103 (by kernel_rfl)
theorem w123 : Fn Tryz.prog 102 [ν53, ν75] .sc ν1 := ev_run mixed ⟨[⟨162, .sc, [en w121]⟩, ⟨78, .sc, [en w13]⟩, ⟨103, .sc, [en w122]⟩], [], [], [], [], [⟨220, Tryz.call220⟩, ⟨163, Tryz.call163⟩]⟩ 24 (.n 2) Tryz.func102 rfl Tryz.call102 (by kernel_rfl)
theorem w124 : Fn Tryz.prog 34 [ν53, ν75, (.int 9)] (.tup [(.row 141 4 true), .sc]) (.tup [(.sl 4 [[ν21, ν2, (.int 6), (.int 6)]]), ν1]) := ev_run mixed ⟨[⟨102, .sc, [en w123]⟩, ⟨103, .sc, [en w122]⟩, ⟨114, .sc, [en w96]⟩], [], [], [], [], [⟨221, Tryz.call221⟩, ⟨167, Tryz.call167⟩, ⟨104, Tryz.call104⟩]⟩ 24 (.n 3) Tryz.func34 rfl Tryz.call34 (by kernel_rfl)
theorem w125 : Fn Tryz.prog 8 [ν68] .sc ν1 := ev_run mixed ⟨[], [], [], [], [], []⟩ 24 (.n 0) Tryz.func8 rfl Tryz.call8 (by kernel_rfl)
theorem w126 : Fn Tryz.prog 117 [ν68, (.int 3)] .sc ν1 := ev_run mixed ⟨[], [], [], [], [], [⟨183, Tryz.call183⟩, ⟨48, Tryz.call48⟩]⟩ 24 (.n 2) Tryz.func117 rfl Tryz.call117 (by kernel_rfl)
theorem w127 : Fn Tryz.prog 51 [ν68, (.sl 1 [[(.int 3)]])] (.tup [(.row 3 1 true), .sc, .sc]) (.tup [(.sl 1 [[ν0]]), ν1, ν1]) := ev_run mixed ⟨[⟨8, .sc, [en w125]⟩, ⟨117, .sc, [en w126]⟩], [], [], [], [], []⟩ 24 (.n 0) Tryz.func51 rfl Tryz.call51 (by kernel_rfl)
theorem w128 : Fn Tryz.prog 10 [ν68, (.sl 1 [[(.int 3)]])] (.tup [(.row 3 1 true), .sc]) (.tup [ν27, ν1]) := ev_run mixed ⟨[⟨51, (.tup [(.row 3 1 true), .sc, .sc]), [en w127]⟩], [], [], [], [], []⟩ 24 (.n 0) Tryz.func10 rfl Tryz.call10 (by kernel_rfl)
theorem w129 : Fn Tryz.prog 168 [ν33] .sc ν1 := ev_run mixed ⟨[], [], [], [], [], []⟩ 24 (.n 0) Tryz.func168 rfl Tryz.call168 (by kernel_rfl)
theorem w130 : Fn Tryz.prog 106 [ν88, ν1, ν33] .sc ν1 := ev_run mixed ⟨[⟨168, .sc, [en w129]⟩, ⟨20, .sc, [en w61]⟩], [], [], [], [], []⟩ 24 (.n 0) Tryz.func106 rfl Tryz.call106 (by kernel_rfl)
theorem w131 : Fn Tryz.prog 58 [(.agg [ν29, ν1, ν1, ν20])] .sc ν1 := ev_run mixed ⟨[⟨123, .sc, [en w33]⟩], [], [], [], [], []⟩ 24 (.n 0) Tryz.func58 rfl Tryz.call58 (by kernel_rfl)
theorem w132 : Fn Tryz.prog 230 [ν40, ν33] .sc ν40 := ev_run mixed ⟨[], [], [], [], [], []⟩ 24 (.n 0) Tryz.func230 rfl Tryz.call230 (by kernel_rfl)
theorem w133 : Fn Tryz.prog 327 [ν54] .sc ν19 := ev_run mixed ⟨[], [], [], [], [], []⟩ 24 (.n 0) Tryz.func327 rfl Tryz.call327 (by kernel_rfl)
theorem w134 : Fn Tryz.prog 327 [ν30] .sc ν19 := ev_run mixed ⟨[], [], [], [], [], []⟩ 24 (.n 0) Tryz.func327 rfl Tryz.call327 (by kernel_rfl)
theorem w135 : Fn Tryz.prog 332 [ν55, ν54] .sc ν55 := ev_run mixed ⟨[], [⟨321, [ex (show FnE Tryz.prog 321 [ν55] ν48 from x_bits 4609753056924675352), ex (show FnE Tryz.prog 321 [ν54] (.lit (.int .u64 4666723172467343360)) from x_bits 4666723172467343360)]⟩, ⟨322, [ex (show FnE Tryz.prog 322 [ν48] ν55 from x_from 4609753056924675352)]⟩], [], [], [], []⟩ 24 (.n 0) Tryz.func332 rfl Tryz.call332 (by kernel_rfl)
theorem w136 : Fn Tryz.prog 311 [ν54, ν30] .sc ν55 := ev_run mixed ⟨[⟨327, .sc, [en w133, en w134]⟩, ⟨332, .sc, [en w135]⟩], [], [], [], [], []⟩ 24 (.n 0) Tryz.func311 rfl Tryz.call311 (by kernel_rfl)
theorem w137 : Fn Tryz.prog 280 [ν54, ν30] .sc ν55 := ev_run mixed ⟨[⟨311, .sc, [en w136]⟩], [], [], [], [], []⟩ 24 (.n 0) Tryz.func280 rfl Tryz.call280 (by kernel_rfl)
theorem w138 : Fn Tryz.prog 279 [ν56] .sc ν56 := ev_run mixed ⟨[], [⟨308, [ex (show FnE Tryz.prog 308 [ν56] ν56 from x_floor (fun w => by kernel_rfl))]⟩], [], [], [], []⟩ 24 (.n 0) Tryz.func279 rfl Tryz.call279 (by kernel_rfl)
theorem w139 : Fn Tryz.prog 171 [ν16] .sc ν16 := ev_run mixed ⟨[], [], [], [], [], []⟩ 24 (.n 0) Tryz.func171 rfl Tryz.call171 (by kernel_rfl)
theorem w140 : Fn Tryz.prog 327 [ν55] .sc ν19 := ev_run mixed ⟨[], [], [], [], [], []⟩ 24 (.n 0) Tryz.func327 rfl Tryz.call327 (by kernel_rfl)
theorem w141 : Fn Tryz.prog 337 [ν55] .sc ν55 := ev_run mixed ⟨[], [⟨321, [ex (show FnE Tryz.prog 321 [ν55] ν48 from x_bits 4609753056924675352)]⟩, ⟨322, [ex (show FnE Tryz.prog 322 [ν48] ν55 from x_from 4609753056924675352)]⟩], [], [], [], []⟩ 24 (.n 0) Tryz.func337 rfl Tryz.call337 (by kernel_rfl)
theorem w142 : Fn Tryz.prog 328 [ν55, ν1] .sc ν19 := ev_run mixed ⟨[⟨337, .sc, [en w141]⟩], [], [], [], [], []⟩ 24 (.n 0) Tryz.func328 rfl Tryz.call328 (by kernel_rfl)
theorem w143 : Fn Tryz.prog 324 [ν55] .sc ν57 := ev_run mixed ⟨[⟨327, .sc, [en w140]⟩, ⟨328, .sc, [en w142]⟩], [], [], [], [], []⟩ 24 (.n 0) Tryz.func324 rfl Tryz.call324 (by kernel_rfl)
theorem w144 : Fn Tryz.prog 298 [ν55] .sc ν57 := ev_run mixed ⟨[⟨324, .sc, [en w143]⟩], [], [], [], [], []⟩ 24 (.n 0) Tryz.func298 rfl Tryz.call298 (by kernel_rfl)
theorem w145 : Fn Tryz.prog 297 [ν58] .sc ν58 := ev_run mixed ⟨[], [⟨321, [ex (show FnE Tryz.prog 321 [ν58] ν49 from x_bits 4670232813583204352)]⟩, ⟨322, [ex (show FnE Tryz.prog 322 [ν49] ν58 from x_from 4670232813583204352)]⟩], [], [], [], []⟩ 24 (.n 0) Tryz.func297 rfl Tryz.call297 (by kernel_rfl)
theorem w146 : Fn Tryz.prog 249 [ν16] .sc (.int 16384) := ev_run mixed ⟨[⟨171, .sc, [en w139]⟩, ⟨298, .sc, [en w144]⟩, ⟨297, .sc, [en w145]⟩], [], [], [], [], []⟩ 24 (.n 0) Tryz.func249 rfl Tryz.call249 (by kernel_rfl)
theorem w147 : Fn Tryz.prog 171 [(.int 2048)] .sc (.int 2048) := ev_run mixed ⟨[], [], [], [], [], []⟩ 24 (.n 0) Tryz.func171 rfl Tryz.call171 (by kernel_rfl)
theorem w148 : Fn Tryz.prog 327 [ν59] .sc ν19 := ev_run mixed ⟨[], [], [], [], [], []⟩ 24 (.n 0) Tryz.func327 rfl Tryz.call327 (by kernel_rfl)
theorem w149 : Fn Tryz.prog 337 [ν59] .sc ν59 := ev_run mixed ⟨[], [⟨321, [ex (show FnE Tryz.prog 321 [ν59] ν50 from x_bits 4614256656552045848)]⟩, ⟨322, [ex (show FnE Tryz.prog 322 [ν50] ν59 from x_from 4614256656552045848)]⟩], [], [], [], []⟩ 24 (.n 0) Tryz.func337 rfl Tryz.call337 (by kernel_rfl)
theorem w150 : Fn Tryz.prog 328 [ν59, ν1] .sc ν19 := ev_run mixed ⟨[⟨337, .sc, [en w149]⟩], [], [], [], [], []⟩ 24 (.n 0) Tryz.func328 rfl Tryz.call328 (by kernel_rfl)
theorem w151 : Fn Tryz.prog 324 [ν59] .sc ν60 := ev_run mixed ⟨[⟨327, .sc, [en w148]⟩, ⟨328, .sc, [en w150]⟩], [], [], [], [], []⟩ 24 (.n 0) Tryz.func324 rfl Tryz.call324 (by kernel_rfl)
theorem w152 : Fn Tryz.prog 298 [ν59] .sc ν60 := ev_run mixed ⟨[⟨324, .sc, [en w151]⟩], [], [], [], [], []⟩ 24 (.n 0) Tryz.func298 rfl Tryz.call298 (by kernel_rfl)
theorem w153 : Fn Tryz.prog 297 [ν61] .sc ν30 := ev_run mixed ⟨[], [⟨321, [ex (show FnE Tryz.prog 321 [ν61] (.lit (.int .u64 4432006191305219072)) from x_bits 4432006191305219072)]⟩, ⟨322, [ex (show FnE Tryz.prog 322 [(.lit (.int .u64 0))] ν30 from x_from 0)]⟩], [], [], [], []⟩ 24 (.n 0) Tryz.func297 rfl Tryz.call297 (by kernel_rfl)
theorem w154 : Fn Tryz.prog 249 [(.int 2048)] .sc ν1 := ev_run mixed ⟨[⟨171, .sc, [en w147]⟩, ⟨298, .sc, [en w152]⟩, ⟨297, .sc, [en w153]⟩], [], [], [], [], []⟩ 24 (.n 0) Tryz.func249 rfl Tryz.call249 (by kernel_rfl)
theorem w155 : Fn Tryz.prog 250 [ν16] .sc ν1 := ev_run mixed ⟨[⟨171, .sc, [en w139]⟩, ⟨249, .sc, [en w154]⟩], [], [], [], [], []⟩ 24 (.n 0) Tryz.func250 rfl Tryz.call250 (by kernel_rfl)
theorem w156 : Fn Tryz.prog 281 [ν16] .sc ν43 := ev_run mixed ⟨[⟨249, .sc, [en w146]⟩, ⟨250, .sc, [en w155]⟩], [], [], [], [], []⟩ 24 (.n 0) Tryz.func281 rfl Tryz.call281 (by kernel_rfl)
theorem w157 : Fn Tryz.prog 171 [(.int 1025)] .sc (.int 1025) := ev_run mixed ⟨[], [], [], [], [], []⟩ 24 (.n 0) Tryz.func171 rfl Tryz.call171 (by kernel_rfl)
theorem w158 : Fn Tryz.prog 327 [ν62] .sc ν19 := ev_run mixed ⟨[], [], [], [], [], []⟩ 24 (.n 0) Tryz.func327 rfl Tryz.call327 (by kernel_rfl)
theorem w159 : Fn Tryz.prog 337 [ν62] .sc ν62 := ev_run mixed ⟨[], [⟨321, [ex (show FnE Tryz.prog 321 [ν62] ν51 from x_bits 4609759965359980067)]⟩, ⟨322, [ex (show FnE Tryz.prog 322 [ν51] ν62 from x_from 4609759965359980067)]⟩], [], [], [], []⟩ 24 (.n 0) Tryz.func337 rfl Tryz.call337 (by kernel_rfl)
theorem w160 : Fn Tryz.prog 328 [ν62, ν1] .sc ν19 := ev_run mixed ⟨[⟨337, .sc, [en w159]⟩], [], [], [], [], []⟩ 24 (.n 0) Tryz.func328 rfl Tryz.call328 (by kernel_rfl)
theorem w161 : Fn Tryz.prog 324 [ν62] .sc ν63 := ev_run mixed ⟨[⟨327, .sc, [en w158]⟩, ⟨328, .sc, [en w160]⟩], [], [], [], [], []⟩ 24 (.n 0) Tryz.func324 rfl Tryz.call324 (by kernel_rfl)
theorem w162 : Fn Tryz.prog 298 [ν62] .sc ν63 := ev_run mixed ⟨[⟨324, .sc, [en w161]⟩], [], [], [], [], []⟩ 24 (.n 0) Tryz.func298 rfl Tryz.call298 (by kernel_rfl)
theorem w163 : Fn Tryz.prog 297 [ν64] .sc ν58 := ev_run mixed ⟨[], [⟨321, [ex (show FnE Tryz.prog 321 [ν64] (.lit (.int .u64 4670232802985799398)) from x_bits 4670232802985799398)]⟩, ⟨322, [ex (show FnE Tryz.prog 322 [ν49] ν58 from x_from 4670232813583204352)]⟩], [], [], [], []⟩ 24 (.n 0) Tryz.func297 rfl Tryz.call297 (by kernel_rfl)
theorem w164 : Fn Tryz.prog 249 [(.int 1025)] .sc (.int 16384) := ev_run mixed ⟨[⟨171, .sc, [en w157]⟩, ⟨298, .sc, [en w162]⟩, ⟨297, .sc, [en w163]⟩], [], [], [], [], []⟩ 24 (.n 0) Tryz.func249 rfl Tryz.call249 (by kernel_rfl)
theorem w165 : Fn Tryz.prog 171 [(.int 2049)] .sc (.int 2049) := ev_run mixed ⟨[], [], [], [], [], []⟩ 24 (.n 0) Tryz.func171 rfl Tryz.call171 (by kernel_rfl)
theorem w166 : Fn Tryz.prog 327 [ν65] .sc ν19 := ev_run mixed ⟨[], [], [], [], [], []⟩ 24 (.n 0) Tryz.func327 rfl Tryz.call327 (by kernel_rfl)
theorem w167 : Fn Tryz.prog 337 [ν65] .sc ν65 := ev_run mixed ⟨[], [⟨321, [ex (show FnE Tryz.prog 321 [ν65] ν52 from x_bits 4614260110769698206)]⟩, ⟨322, [ex (show FnE Tryz.prog 322 [ν52] ν65 from x_from 4614260110769698206)]⟩], [], [], [], []⟩ 24 (.n 0) Tryz.func337 rfl Tryz.call337 (by kernel_rfl)
theorem w168 : Fn Tryz.prog 328 [ν65, ν1] .sc ν19 := ev_run mixed ⟨[⟨337, .sc, [en w167]⟩], [], [], [], [], []⟩ 24 (.n 0) Tryz.func328 rfl Tryz.call328 (by kernel_rfl)
theorem w169 : Fn Tryz.prog 324 [ν65] .sc ν69 := ev_run mixed ⟨[⟨327, .sc, [en w166]⟩, ⟨328, .sc, [en w168]⟩], [], [], [], [], []⟩ 24 (.n 0) Tryz.func324 rfl Tryz.call324 (by kernel_rfl)
theorem w170 : Fn Tryz.prog 298 [ν65] .sc ν69 := ev_run mixed ⟨[⟨324, .sc, [en w169]⟩], [], [], [], [], []⟩ 24 (.n 0) Tryz.func298 rfl Tryz.call298 (by kernel_rfl)
theorem w171 : Fn Tryz.prog 297 [ν70] .sc ν71 := ev_run mixed ⟨[], [⟨321, [ex (show FnE Tryz.prog 321 [ν70] (.lit (.int .u64 13851139489514538976)) from x_bits 13851139489514538976)]⟩, ⟨322, [ex (show FnE Tryz.prog 322 [(.lit (.int .u64 13851102128954671104))] ν71 from x_from 13851102128954671104)]⟩], [], [], [], []⟩ 24 (.n 0) Tryz.func297 rfl Tryz.call297 (by kernel_rfl)
theorem w172 : Fn Tryz.prog 249 [(.int 2049)] .sc (.int (-25)) := ev_run mixed ⟨[⟨171, .sc, [en w165]⟩, ⟨298, .sc, [en w170]⟩, ⟨297, .sc, [en w171]⟩], [], [], [], [], []⟩ 24 (.n 0) Tryz.func249 rfl Tryz.call249 (by kernel_rfl)
theorem w173 : Fn Tryz.prog 250 [(.int 1025)] .sc (.int (-25)) := ev_run mixed ⟨[⟨171, .sc, [en w157]⟩, ⟨249, .sc, [en w172]⟩], [], [], [], [], []⟩ 24 (.n 0) Tryz.func250 rfl Tryz.call250 (by kernel_rfl)
theorem w174 : Fn Tryz.prog 281 [(.int 1025)] .sc ν46 := ev_run mixed ⟨[⟨249, .sc, [en w164]⟩, ⟨250, .sc, [en w173]⟩], [], [], [], [], []⟩ 24 (.n 0) Tryz.func281 rfl Tryz.call281 (by kernel_rfl)
theorem w175 : Fn Tryz.prog 282 [ν43, ν40] .sc ν1 := ev_run mixed ⟨[], [], [], [], [], []⟩ 24 (.n 0) Tryz.func282 rfl Tryz.call282 (by kernel_rfl)
theorem w176 : Fn Tryz.prog 282 [ν40, ν46] .sc (.int 250000) := ev_run mixed ⟨[], [], [], [], [], []⟩ 24 (.n 0) Tryz.func282 rfl Tryz.call282 (by kernel_rfl)
theorem w177 : Fn Tryz.prog 229 [ν40] (.tup [.sc, .sc]) (.tup [ν16, ν1]) := ev_run mixed ⟨[⟨280, .sc, [en w137]⟩, ⟨279, .sc, [en w138]⟩, ⟨171, .sc, [en w139]⟩, ⟨281, .sc, [en w156, en w174]⟩, ⟨282, .sc, [en w175, en w176]⟩], [], [], [], [], []⟩ 24 (.n 0) Tryz.func229 rfl Tryz.call229 (by kernel_rfl)
theorem w178 : Fn Tryz.prog 230 [ν33, ν40] .sc ν45 := ev_run mixed ⟨[], [], [], [], [], []⟩ 24 (.n 0) Tryz.func230 rfl Tryz.call230 (by kernel_rfl)
theorem w179 : Fn Tryz.prog 299 [ν45, ν45] .sc (.int 100000000) := ev_run mixed ⟨[], [], [], [], [], []⟩ 24 (.n 0) Tryz.func299 rfl Tryz.call299 (by kernel_rfl)
theorem w180 : Fn Tryz.prog 251 [ν33, ν40] .sc (.int 100000000) := ev_run mixed ⟨[⟨230, .sc, [en w178]⟩, ⟨299, .sc, [en w179]⟩], [], [], [], [], []⟩ 24 (.n 0) Tryz.func251 rfl Tryz.call251 (by kernel_rfl)
theorem w181 : Fn Tryz.prog 252 [(.int 100000000)] .sc ν18 := ev_run mixed ⟨[], [], [], [], [], []⟩ 24 (.n 0) Tryz.func252 rfl Tryz.call252 (by kernel_rfl)
theorem w182 : Fn Tryz.prog 201 [ν33, ν40] (.tup [.sc, .sc]) (.tup [ν18, ν18]) := ev_run mixed ⟨[⟨251, .sc, [en w180]⟩, ⟨252, .sc, [en w181]⟩], [], [], [], [], []⟩ 24 (.n 0) Tryz.func201 rfl Tryz.call201 (by kernel_rfl)
theorem w183 : Fn Tryz.prog 169 [ν85, ν79] (.tup [.sc, .sc, .sc]) (.tup [ν16, ν9, ν17]) := ev_run mixed ⟨[⟨230, .sc, [en w132]⟩, ⟨229, (.tup [.sc, .sc]), [en w177]⟩, ⟨201, (.tup [.sc, .sc]), [en w182]⟩], [], [], [], [], []⟩ 24 (.n 0) Tryz.func169 rfl Tryz.call169 (by kernel_rfl)
theorem w184 : Fn Tryz.prog 171 [(.int 1195)] .sc (.int 1195) := ev_run mixed ⟨[], [], [], [], [], []⟩ 24 (.n 0) Tryz.func171 rfl Tryz.call171 (by kernel_rfl)
theorem w185 : Fn Tryz.prog 171 [(.int 853)] .sc (.int 853) := ev_run mixed ⟨[], [], [], [], [], []⟩ 24 (.n 0) Tryz.func171 rfl Tryz.call171 (by kernel_rfl)
theorem w186 : Fn Tryz.prog 171 [(.int 1366)] .sc (.int 1366) := ev_run mixed ⟨[], [], [], [], [], []⟩ 24 (.n 0) Tryz.func171 rfl Tryz.call171 (by kernel_rfl)
theorem w187 : Fn Tryz.prog 171 [(.int 682)] .sc (.int 682) := ev_run mixed ⟨[], [], [], [], [], []⟩ 24 (.n 0) Tryz.func171 rfl Tryz.call171 (by kernel_rfl)
theorem w188 : Fn Tryz.prog 171 [(.int 1537)] .sc (.int 1537) := ev_run mixed ⟨[], [], [], [], [], []⟩ 24 (.n 0) Tryz.func171 rfl Tryz.call171 (by kernel_rfl)
theorem w189 : Fn Tryz.prog 171 [(.int 511)] .sc (.int 511) := ev_run mixed ⟨[], [], [], [], [], []⟩ 24 (.n 0) Tryz.func171 rfl Tryz.call171 (by kernel_rfl)
theorem w190 : Fn Tryz.prog 107 [ν29, ν85, ν1, ν83] (.tup [(.row 57 4 true), .sc]) (.tup [(.sl 4 [[ν29, ν1, ν18, ν20], [ν29, ν1, (.int 8000), ν20], [ν29, ν2, (.int 115), ν20], [ν29, ν2, (.int 85), ν20], [ν29, ν0, (.int 1195), ν20], [ν29, ν0, (.int 853), ν20], [ν29, ν1, (.int 11000), ν20], [ν29, ν1, (.int 7000), ν20], [ν29, ν2, (.int 130), ν20], [ν29, ν2, (.int 70), ν20], [ν29, ν0, (.int 1366), ν20], [ν29, ν0, (.int 682), ν20], [ν29, ν1, (.int 12000), ν20], [ν29, ν1, (.int 6000), ν20], [ν29, ν2, (.int 145), ν20], [ν29, ν2, (.int 55), ν20], [ν29, ν0, (.int 1537), ν20], [ν29, ν0, (.int 511), ν20]]), ν1]) := ev_run mixed ⟨[⟨20, .sc, [en w61]⟩, ⟨65, .sc, [en w70]⟩, ⟨68, (.tup [.sc, .sc]), [en (tat_eq [⟨0, 0, 0, 9000, 0, 0⟩, ⟨100, 10000, 0, 9000, 0, 0⟩] 0 (r := (.tup [ν79, ν1])) (by kernel_rfl))]⟩, ⟨58, .sc, [en w131]⟩, ⟨169, (.tup [.sc, .sc, .sc]), [en w183]⟩, ⟨171, .sc, [en w184, en w185, en w186, en w187, en w188, en w189]⟩], [], [], [], [], [⟨170, Tryz.call170⟩]⟩ 24 (.n 18) Tryz.func107 rfl Tryz.call107 (by kernel_rfl)
theorem w191 : Fn Tryz.prog 108 [ν88, ν1, ν85, ν33] .sc ν17 := ev_run mixed ⟨[], [], [], [], [], []⟩ 24 (.n 0) Tryz.func108 rfl Tryz.call108 (by kernel_rfl)
theorem w192 : Fn Tryz.prog 35 [ν88, ν1, ν33, ν29, ν1, ν83] (.tup [.sc, (.row 54 6 true), .sc]) (.tup [(.agg [ν20, ν1, ν1, ν20]), (.sl 6 []), (.int 11)]) := ev_run mixed ⟨[⟨106, .sc, [en w130]⟩, ⟨107, (.tup [(.row 57 4 true), .sc]), [en w190]⟩, ⟨108, .sc, [en w191]⟩], [], [], [], [], []⟩ 24 (.n 0) Tryz.func35 rfl Tryz.call35 (by kernel_rfl)
theorem w193 : Fn Tryz.prog 70 [ν85] (.row 54 6 true) ν85 := ev_run mixed ⟨[], [], [], [], [], []⟩ 24 (.n 0) Tryz.func70 rfl Tryz.call70 (by kernel_rfl)
theorem w194 : Fn Tryz.prog 109 [ν33, ν33] .sc ν33 := ev_run mixed ⟨[], [], [], [], [], []⟩ 24 (.n 0) Tryz.func109 rfl Tryz.call109 (by kernel_rfl)
theorem w195 : Fn Tryz.prog 109 [ν40, ν33] .sc ν40 := ev_run mixed ⟨[], [], [], [], [], []⟩ 24 (.n 0) Tryz.func109 rfl Tryz.call109 (by kernel_rfl)
theorem w196 : Fn Tryz.prog 20 [ν86] .sc ν1 := ev_run mixed ⟨[⟨67, .sc, [en w59, en w60]⟩], [], [], [], [], []⟩ 24 (.n 0) Tryz.func20 rfl Tryz.call20 (by kernel_rfl)
theorem w197 : Fn Tryz.prog 36 [ν85, ν33, ν3] (.tup [(.row 54 6 true), .sc]) (.tup [ν86, ν1]) := ev_run mixed ⟨[⟨20, .sc, [en w61, en w196]⟩, ⟨70, (.row 54 6 true), [en w193]⟩, ⟨109, .sc, [en w194, en w195]⟩], [], [], [], [], []⟩ 24 (.n 0) Tryz.func36 rfl Tryz.call36 (by kernel_rfl)
theorem w198 : Fn Tryz.prog 38 [ν1] .sc ν19 := ev_run mixed ⟨[], [], [], [], [], []⟩ 24 (.n 0) Tryz.func38 rfl Tryz.call38 (by kernel_rfl)
theorem w199 : Fn Tryz.prog 72 [ν34] .sc ν1 := ev_run mixed ⟨[], [], [], [], [], []⟩ 24 (.n 0) Tryz.func72 rfl Tryz.call72 (by kernel_rfl)
theorem w200 : Fn Tryz.prog 39 [ν34] .sc ν17 := ev_run mixed ⟨[⟨72, .sc, [en w199]⟩], [], [], [], [], []⟩ 24 (.n 0) Tryz.func39 rfl Tryz.call39 (by kernel_rfl)
theorem w201 : Fn Tryz.prog 40 [ν28, ν28] .sc ν17 := ev_run mixed ⟨[], [], [], [], [], []⟩ 24 (.n 0) Tryz.func40 rfl Tryz.call40 (by kernel_rfl)
theorem w202 : Fn Tryz.prog 40 [ν27, ν27] .sc ν17 := ev_run mixed ⟨[], [], [], [], [], []⟩ 24 (.n 0) Tryz.func40 rfl Tryz.call40 (by kernel_rfl)
theorem w203 : Fn Tryz.prog 5 [] .sc ν17 := ev_run mixed ⟨[⟨21, (.tup [.sc, .sc]), [en w0]⟩, ⟨22, (.tup [.sc, .sc, .sc]), [en w2]⟩, ⟨23, (.tup [.sc, .sc, .sc, .sc]), [en w4]⟩, ⟨24, (.tup [(.row 134 3 true), .sc]), [en w12]⟩, ⟨25, (.tup [(.row 136 2 false), .sc]), [en w24]⟩, ⟨26, (.tup [(.row 136 2 false), .sc]), [en w30]⟩, ⟨15, (.tup [.sc, .sc]), [en w36]⟩, ⟨16, (.tup [.sc, .sc, .sc]), [en w50]⟩, ⟨14, (.tup [(.row 160 5 true), .sc]), [en w56]⟩, ⟨27, (.row 54 6 true), [en w57]⟩, ⟨28, .sc, [en w58]⟩, ⟨18, (.tup [(.row 54 6 true), .sc]), [en w80]⟩, ⟨30, (.tup [.sc, .sc]), [en w88]⟩, ⟨7, (.tup [(.row 32 3 true), .sc]), [en w97]⟩, ⟨32, .sc, [en w98]⟩, ⟨31, (.tup [(.row 3 1 true), (.row 3 1 true), .sc]), [en w109]⟩, ⟨33, (.tup [(.row 139 4 true), .sc]), [en w118]⟩, ⟨34, (.tup [(.row 141 4 true), .sc]), [en w124]⟩, ⟨10, (.tup [(.row 3 1 true), .sc]), [en w128]⟩, ⟨35, (.tup [.sc, (.row 54 6 true), .sc]), [en w192]⟩, ⟨36, (.tup [(.row 54 6 true), .sc]), [en w197]⟩, ⟨38, .sc, [en w198]⟩, ⟨39, .sc, [en w200]⟩, ⟨40, .sc, [en w201, en w202]⟩], [], [], [], [], [⟨110, Tryz.call110⟩, ⟨37, Tryz.call37⟩, ⟨29, Tryz.call29⟩]⟩ 24 (.n 3) Tryz.func5 rfl Tryz.call5 (by kernel_rfl)
theorem shown_fact : Fn Tryz.prog 5 [] .sc ν17 := w203
end Go.Proofs.YtcifjnhpgblnkaaGreatDoor
namespace Go.Proofs.YtcifjnhpgblnkaaGreatDoor
open Go.RowKit
set_option linter.unusedVariables false
set_option linter.unusedSimpArgs false
set_option maxRecDepth 100000
theorem of4 {α : Type} {l : List α} (h : l.length = 4) : ∃ a b c d, l = [a, b, c, d] := by
 match l, h with
 | [a, b, c, d], _ => exact ⟨a, b, c, d, rfl⟩
theorem of6 {α : Type} {l : List α} (h : l.length = 6) : ∃ a b c d e f, l = [a, b, c, d, e, f] := by
 match l, h with
 | [a, b, c, d, e, f], _ => exact ⟨a, b, c, d, e, f, rfl⟩
theorem of7 {α : Type} {l : List α} (h : l.length = 7) : ∃ a b c d e f g, l = [a, b, c, d, e, f, g] := by
 match l, h with
 | [a, b, c, d, e, f, g], _ => exact ⟨a, b, c, d, e, f, g, rfl⟩
theorem arg_tube {x : AV} (h : ArgOk Tryz.prog 43 x) : ∃ l, x = tube l ∧ l.length ≤ maxLen := by
 obtain ⟨l, e, h1, _⟩ := c_lst (P := Tryz.prog) (encA := encN) (Q := fun _ => True) (tys := [3, 3, 3, 3, 3, 3]) (s := 6) (e := 54) (by kernel_rfl) (by kernel_rfl) (by kernel_rfl) (fun y hy hc => by
  obtain ⟨a, b, c, d, e, f, rfl⟩ := of6 hy
  obtain ⟨s1, e1, _⟩ := c_int (by kernel_rfl) (hc 0 3 rfl)
  obtain ⟨s2, e2, _⟩ := c_int (by kernel_rfl) (hc 1 3 rfl)
  obtain ⟨s3, e3, _⟩ := c_int (by kernel_rfl) (hc 2 3 rfl)
  obtain ⟨s4, e4, _⟩ := c_int (by kernel_rfl) (hc 3 3 rfl)
  obtain ⟨s5, e5, _⟩ := c_int (by kernel_rfl) (hc 4 3 rfl)
  obtain ⟨s6, e6, _⟩ := c_int (by kernel_rfl) (hc 5 3 rfl)
  simp at e1 e2 e3 e4 e5 e6
  exact ⟨⟨s1, s2, s3, s4, s5, s6⟩, by rw [e1, e2, e3, e4, e5, e6]; rfl, trivial⟩) (arg_cell (by kernel_rfl) h)
 exact ⟨l, e, h1⟩
theorem arg_cls {x : AV} (h : ArgOk Tryz.prog 46 x) : ∃ l, x = cls l ∧ ∀ c ∈ l, I64 c.v := by
 obtain ⟨l, e, _, h2⟩ := c_lst (P := Tryz.prog) (encA := encL) (Q := fun c => I64 c.v) (tys := [9, 3, 3, 9]) (s := 4) (e := 57) (by kernel_rfl) (by kernel_rfl) (by kernel_rfl) (fun y hy hc => by
  obtain ⟨a, b, c, d, rfl⟩ := of4 hy
  obtain ⟨s1, e1, _⟩ := c_str (by kernel_rfl) (hc 0 9 rfl)
  obtain ⟨s2, e2, _⟩ := c_int (by kernel_rfl) (hc 1 3 rfl)
  obtain ⟨s3, e3, h3⟩ := c_int (by kernel_rfl) (hc 2 3 rfl)
  obtain ⟨s4, e4, _⟩ := c_str (by kernel_rfl) (hc 3 9 rfl)
  simp at e1 e2 e3 e4
  exact ⟨⟨s1, s2, s3, s4⟩, by rw [e1, e2, e3, e4]; rfl, h3⟩) (arg_cell (by kernel_rfl) h)
 exact ⟨l, e, h2⟩
theorem arg_kd {x : AV} (h : ArgOk Tryz.prog 45 x) : ∃ k, x = kd k := by
 obtain ⟨cs, rfl, hl, hc⟩ := arg_agg (P := Tryz.prog) (t := 45) (tys := [9, 3, 3, 3, 3, 3, 3]) (by kernel_rfl) (by kernel_rfl) h
 obtain ⟨a, b, c, d, e, f, g, rfl⟩ := of7 hl
 obtain ⟨s1, e1, _⟩ := c_str (by kernel_rfl) (hc 0 9 rfl)
 obtain ⟨s2, e2, _⟩ := c_int (by kernel_rfl) (hc 1 3 rfl)
 obtain ⟨s3, e3, _⟩ := c_int (by kernel_rfl) (hc 2 3 rfl)
 obtain ⟨s4, e4, _⟩ := c_int (by kernel_rfl) (hc 3 3 rfl)
 obtain ⟨s5, e5, _⟩ := c_int (by kernel_rfl) (hc 4 3 rfl)
 obtain ⟨s6, e6, _⟩ := c_int (by kernel_rfl) (hc 5 3 rfl)
 obtain ⟨s7, e7, _⟩ := c_int (by kernel_rfl) (hc 6 3 rfl)
 simp at e1 e2 e3 e4 e5 e6 e7
 exact ⟨⟨s1, s2, s3, s4, s5, s6, s7⟩, by rw [e1, e2, e3, e4, e5, e6, e7]; rfl⟩
theorem arg_its {x : AV} (h : ArgOk Tryz.prog 30 x) : ∃ l, x = its l := by
 obtain ⟨l, e, _, _⟩ := c_lst (P := Tryz.prog) (encA := encIx) (Q := fun _ => True) (tys := [3]) (s := 1) (e := 3) (by kernel_rfl) (by kernel_rfl) (by kernel_rfl) (fun y hy hc => by
  match y, hy with
  | [a], _ =>
   obtain ⟨s1, e1, _⟩ := c_int (by kernel_rfl) (hc 0 3 rfl)
   simp at e1
   exact ⟨s1, by rw [e1]; rfl, trivial⟩) (arg_cell (by kernel_rfl) h)
 exact ⟨l, e⟩
theorem topReadback_all (xs : List AV) (h1 : xs.length = 4) (h2 : ∀ i, i < 4 → ArgOk Tryz.prog ([43, 45, 46, 30].getD i 0) (xs.getD i default))
  (h3 : ∀ i s L e, i < 4 → xs.getD i default = .sl s L → Tryz.prog.underlying ([43, 45, 46, 30].getD i 0) = some (.slice e) → L.length * Tryz.prog.bytesOf e ≤ reachBytes) : Fn Tryz.prog 4 xs .sc (.bool true) := by
 obtain ⟨a, b, c, d, rfl⟩ := of4 h1
 obtain ⟨l, e1, _⟩ := arg_tube (h2 0 (by omega))
 obtain ⟨k, e2⟩ := arg_kd (h2 1 (by omega))
 obtain ⟨m, e3, hm⟩ := arg_cls (h2 2 (by omega))
 obtain ⟨n, e4⟩ := arg_its (h2 3 (by omega))
 simp at e1 e2 e3 e4
 subst e1 e2 e3 e4
 exact treadback_fn shown_fact l k m n fun x hx => ⟨(hm x hx).1, (hm x hx).2⟩
end Go.Proofs.YtcifjnhpgblnkaaGreatDoor
