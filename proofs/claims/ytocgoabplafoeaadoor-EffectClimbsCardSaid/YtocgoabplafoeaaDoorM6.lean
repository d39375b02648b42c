/- Texts of one proof, part 6: plain values, a run over them, contracts of functions. -/
import Derived.Test.YtocgoabplafoeaaDoorM5
import Derived.Test.YtocgoabplafoeaaDoorM3
/- effects: the first second at which two tubes differ. -/
namespace Go.Proofs.YtocgoabplafoeaaDoor
open Go.RowKit
set_option linter.unusedVariables false
set_option linter.unusedSimpArgs false
set_option maxRecDepth 100000
/-- The node at a time; the zero node where there is none. -/
def ndA (l : List Nd) (s : Int) : Nd := if tatE l s = 0 then atN l s else nd0
theorem tatV_nd (l : List Nd) (s : Int) : tatV l s = .tup [nd (ndA l s), .int (tatE l s)] := by
  unfold tatV ndA
  by_cases h : tatE l s = 0
  · rw [if_pos h, if_pos h, h]
  · rw [if_neg h, if_neg h]
def difP (a b : List Nd) (s : Int) : Prop := tatE a s ≠ tatE b s ∨ (ndA a s).x ≠ (ndA b s).x ∨ (ndA a s).y ≠ (ndA b s).y ∨ (ndA a s).h ≠ (ndA b s).h
instance (a b : List Nd) (s : Int) : Decidable (difP a b s) := by unfold difP; infer_instance
def fstD (a b : List Nd) : Int → Nat → Option Int
  | _, 0 => none
  | s, n + 1 => if difP a b s then some s else fstD a b (s + 1) n
def dFirst (a b : List Nd) : Int := if (b.getD 0 default).t < (a.getD 0 default).t then (b.getD 0 default).t else (a.getD 0 default).t
def dLast (a b : List Nd) : Int := if (b.getD (b.length - 1) default).t > (a.getD (a.length - 1) default).t then (b.getD (b.length - 1) default).t else (a.getD (a.length - 1) default).t
def difS (a b : List Nd) : Option Int := fstD a b (dFirst a b) (dLast a b - dFirst a b + 1).toNat
def difV (a b : List Nd) : AV :=
  if tE a ≠ 0 then .tup [.int 0, .int (tE a)] else if tE b ≠ 0 then .tup [.int 0, .int (tE b)]
  else if 20000 < dLast a b - dFirst a b then .tup [.int 0, .int 2]
  else match difS a b with
    | some s => .tup [.int s, .int 0]
    | none => .tup [.int 0, .int 8]
theorem ends_of {a : List Nd} (h : tE a = 0) : ∃ x y, a[0]? = some x ∧ a[a.length - 1]? = some y ∧ a.getD 0 default = x ∧ a.getD (a.length - 1) default = y ∧ 0 ≤ x.t ∧ x.t ≤ 200000 ∧ 0 ≤ y.t ∧ y.t ≤ 200000 ∧ 0 < a.length ∧ a.length ≤ 64 := by
  obtain ⟨hp, h64, hG⟩ := tE_ok h
  obtain ⟨x, hx⟩ : ∃ x, a[0]? = some x := ⟨_, List.getElem?_eq_getElem (by omega)⟩
  obtain ⟨y, hy⟩ : ∃ y, a[a.length - 1]? = some y := ⟨_, List.getElem?_eq_getElem (by omega)⟩
  have h1 := (tG_get hG hx).2.1
  have h2 := (tG_get hG hy).2.1
  exact ⟨x, y, hx, hy, by rw [List.getD_eq_getElem?_getD, hx]; rfl, by rw [List.getD_eq_getElem?_getD, hy]; rfl, h1.1, h1.2.1, h2.1, h2.2.1, hp, h64⟩
theorem differs_fn (a b : List Nd) : Fn Tryd.prog 6 [tube a, tube b] (.tup [.sc, .sc]) (difV a b) := by
  have q := EffF.differs_form (tube a) (tube b) (difV a b)
  have kk := fun h => fn_run mixed 3 (Γ := EffF.Γ) (ann := EffF.ann) Tryd.func6 rfl Tryd.call6 (q.mpr h)
  refine kk ?_
  clear kk q
  refine ⟨by simp, by simp, ?_⟩
  rw [show AV.mk 1 [[tube a], [tube b]] = lst 1 encT [a, b] from rfl]
  refine loop_list (σ := Unit) [a, b] (fun i _ => [.int (i : Nat)]) (fun i rest _ => (rest = [a, b] ∨ (tE a = 0 ∧ rest = [b]) ∨ (tE a = 0 ∧ tE b = 0 ∧ rest = []))) () rfl (.inl rfl) ?_ ?_
  · rintro i x rest _ K hx hrest hi hG hK
    have hi2 : (i : Int) < 2 := by have : i < 2 := hi; omega
    have hwi : wr ((i : Int) + 1) = (i : Int) + 1 := wr_id (by omega) (by omega)
    have hK' := hK [.int ((i : Int) + 1)] () (by simp)
    simp [hi2, lst_at hx, encT]
    refine ⟨_, tcheck_fn x, ?_⟩
    simp [hwi]
    refine ⟨fun h => ?_, fun h => hK' ?_⟩
    · rcases hG with g | ⟨g0, g⟩ | ⟨_, _, g⟩
      · injection g with g1 g2
        subst g1
        unfold difV
        rw [if_pos h]
      · injection g with g1 g2
        subst g1
        unfold difV
        rw [if_neg (by simp [g0]), if_pos h]
      · cases g
    · rcases hG with g | ⟨g0, g⟩ | ⟨_, _, g⟩
      · injection g with g1 g2
        subst g1
        exact .inr (.inl ⟨h, g2⟩)
      · injection g with g1 g2
        subst g1
        exact .inr (.inr ⟨g0, h, g2⟩)
      · cases g
  · rintro _ K hG
    obtain ⟨ha, hb⟩ : tE a = 0 ∧ tE b = 0 := by
      rcases hG with g | ⟨g0, g⟩ | ⟨g1, g2, g⟩
      · cases g
      · cases g
      · exact ⟨g1, g2⟩
    obtain ⟨x, y, hx, hy, hxd, hyd, x1, x2, y1, y2, la, la2⟩ := ends_of ha
    obtain ⟨z, u, hz, hu, hzd, hud, z1, z2, u1, u2, lb, lb2⟩ := ends_of hb
    have wa : wr ((a.length : Int) - 1) = ((a.length - 1 : Nat) : Int) := by rw [wr_id (by omega) (by omega)]; omega
    have wb : wr ((b.length : Int) - 1) = ((b.length - 1 : Nat) : Int) := by rw [wr_id (by omega) (by omega)]; omega
    have hza : AV.at (tube a) (.lit (.int .i64 0)) 0 = .int x.t := by have := lst_at (s := 6) (enc := encN) (k := .i64) (j := 0) hx; simpa [encN] using this
    have hzb : AV.at (tube b) (.lit (.int .i64 0)) 0 = .int z.t := by have := lst_at (s := 6) (enc := encN) (k := .i64) (j := 0) hz; simpa [encN] using this
    have hF : dFirst a b = if z.t < x.t then z.t else x.t := by unfold dFirst; rw [hxd, hzd]
    have hL : dLast a b = if u.t > y.t then u.t else y.t := by unfold dLast; rw [hyd, hud]
    have hV : difV a b = if 20000 < dLast a b - dFirst a b then .tup [.int 0, .int 2] else match fstD a b (dFirst a b) (dLast a b - dFirst a b + 1).toNat with
      | some s => .tup [.int s, .int 0]
      | none => .tup [.int 0, .int 8] := by
      unfold difV difS
      rw [if_neg (by simp [ha]), if_neg (by simp [hb])]
    have hFb : 0 ≤ dFirst a b ∧ dFirst a b ≤ 200000 := by rw [hF]; split <;> omega
    have hLb : 0 ≤ dLast a b ∧ dLast a b ≤ 200000 := by rw [hL]; split <;> omega
    have hal : ((a.length - 1 : Nat) : Int) < a.length := by omega
    have hbl : ((b.length - 1 : Nat) : Int) < b.length := by omega
    have m1 : AV.mn (.int x.t) (.int z.t) = .int (dFirst a b) := by rw [hF]; rfl
    have m2 : AV.mx (.int y.t) (.int u.t) = .int (dLast a b) := by rw [hL]; rfl
    rw [hV]
    clear hV hF hL hG
    generalize dFirst a b = F at *
    generalize dLast a b = L at *
    have wd : wr (L - F) = L - F := wr_id (by omega) (by omega)
    simp only [hza, hzb, lst_len, av_subt, wr_eq, wa, wb, m1, m2, lst_at hy, lst_at hu, encN, List.getD_cons_zero, wd, List.length_cons, List.length_nil]
    have hal0 : 0 < a.length := la
    refine ⟨by simp, by simp, fun h => absurd h (by simp), fun _ => ⟨by simp, by simp; omega, by simp, by simp; omega, by simp, by simp, by simp, by simp, by simp, by simp; omega, by simp, by simp, by simp, by simp; omega, by simp, by simp, by simp, by simp [wd], by simp [wd], fun h => ?_, fun h => ?_⟩⟩
    · have h : 20000 < L - F := by simpa [wd] using h
      rw [if_pos h]
      simp
    · have h : ¬ 20000 < L - F := by simp [wd] at h; omega
      rw [if_neg h]
      clear m1 m2 hza hzb
      generalize hR : (match fstD a b F (L - F + 1).toNat with
      | some s => AV.tup [.int s, .int 0]
      | none => AV.tup [.int 0, .int 8]) = R
      have g1 : ∀ s, fstD a b F (L - F + 1).toNat = some s → R = .tup [.int s, .int 0] := fun s h => by rw [← hR, h]
      have g0 : fstD a b F (L - F + 1).toNat = none → R = .tup [.int 0, .int 8] := fun h => by rw [← hR, h]
      clear hR
      refine loop_of (τ := Int) (fun s => [.int s]) (fun s => F ≤ s ∧ s ≤ 200001 ∧ fstD a b F (L - F + 1).toNat = fstD a b s (L - s + 1).toNat) (fun s => (L - s + 1).toNat) F rfl ⟨Int.le_refl _, by omega, rfl⟩ ?_
      rintro s ⟨hs1, hs2, hs3⟩
      have hta := tat_fn a s
      have htb := tat_fn b s
      rw [tatV_nd] at hta htb
      by_cases hle : s ≤ L
      · obtain ⟨n, hn⟩ : ∃ n, (L - s + 1).toNat = n + 1 := ⟨(L - s).toNat, by omega⟩
        have hn2 : (L - (s + 1) + 1).toNat = n := by omega
        rw [hn, fstD] at hs3
        have hy : difP a b s → R = .tup [.int s, .int 0] := fun h => g1 s (by rw [hs3, if_pos h])
        have hnn : ¬ difP a b s → fstD a b F (L - F + 1).toNat = fstD a b (s + 1) (L - (s + 1) + 1).toNat := fun h => by rw [hs3, if_neg h, hn2]
        unfold difP at hy hnn
        have ws : wr (s + 1) = s + 1 := wr_id (by omega) (by omega)
        clear g0 g1 hs3
        generalize hA : ndA a s = A at *
        generalize hB : ndA b s = B at *
        obtain ⟨at_, ax, ay, ah, ar, ab⟩ := A
        obtain ⟨bt, bx, b_, bh, br, bb⟩ := B
        simp only at hy hnn
        refine ⟨by simp, by simp, fun _ => ⟨_, hta, by simp [encN], _, htb, by simp [encN], ?_⟩, fun h => absurd h (by simp; omega)⟩
        have p1 : AV.eqPlOk [(0, EK.int .i64), (1, EK.int .i64)] [.int ax, .int ay] [.int bx, .int b_] := fun p hp => by
          simp at hp
          rcases hp with rfl | rfl <;> simp
        have p2 : AV.nePl [(0, EK.int .i64), (1, EK.int .i64)] [.int ax, .int ay] [.int bx, .int b_] = .bool (!(ax == bx && ay == b_)) := by simp [AV.nePl]
        simp [encN, ws, p1, p2]
        refine ⟨fun h => ⟨h, (hy (.inl h)).symm⟩, fun h0 => ⟨h0, fun h => ⟨h, (hy (h.elim (fun q => .inr (.inl q)) fun q => .inr (.inr (.inl q)))).symm⟩, fun h1 h2 => ⟨⟨h1, h2⟩, fun h => (hy (.inr (.inr (.inr h)))).symm, fun h => ⟨by omega, by omega, by omega, hnn (by simp [h0, h1, h2, h])⟩⟩⟩⟩
      · have e : (L - s + 1).toNat = 0 := by omega
        rw [e, fstD] at hs3
        rw [g0 hs3]
        refine ⟨by simp, by simp, fun h => absurd h (by simp; omega), fun _ => ⟨.lit _, .lit _, rfl⟩⟩
end Go.Proofs.YtocgoabplafoeaaDoor
/- effects: the fact; Differs returns the first second at which tubes differ. -/
namespace Go.Proofs.YtocgoabplafoeaaDoor
open Go.RowKit
set_option linter.unusedVariables false
set_option linter.unusedSimpArgs false
set_option maxRecDepth 100000
theorem climbed_fn (n : Int) : Fn Tryd.prog 15 [.int n] .sc (cl ⟨⟨#[65, 49]⟩, 0, n, ⟨#[]⟩⟩) := by
  have e := EffF.climbed_form (.int n) (cl ⟨⟨#[65, 49]⟩, 0, n, ⟨#[]⟩⟩)
  have k := fun h => fn_run mixed 3 (Γ := EffF.Γ) (ann := EffF.ann) Tryd.func15 rfl Tryd.call15 (e.mpr h)
  refine k ?_
  clear k e
  simp [encL]
def outC : List Nd := [⟨0, 0, 0, 9000, 100, 50⟩, ⟨10, 1000, 0, 9500, 100, 50⟩, ⟨100, 10000, 0, 9500, 100, 50⟩]
theorem fact_of : ofV levT ⟨⟨#[65, 49]⟩, 0, 9500, ⟨#[]⟩⟩ 0 jetK ⟨0, 0⟩ = .tup [tube outC, .int 0] := by kernel_rfl
theorem fact_dif : difV levT outC = .tup [.int 1, .int 0] := by kernel_rfl
theorem efact_fn : Fn Tryd.prog 5 [] .sc (.bool true) := by
  have e := EffF.efact_form (.bool true)
  have k := fun h => fn_run mixed 3 (Γ := EffF.Γ) (ann := EffF.ann) Tryd.func5 rfl Tryd.call5 (e.mpr h)
  refine k ?_
  clear k e
  have h1 := of_fn levT ⟨⟨#[65, 49]⟩, 0, 9500, ⟨#[]⟩⟩ 0 jetK ⟨0, 0⟩ rfl
  have h2 := differs_fn levT outC
  rw [fact_of] at h1
  rw [fact_dif] at h2
  refine ⟨_, level_fn, _, climbed_fn 9500, _, jet_fn, _, h1, _, level_fn, _, h2, ?_⟩
  simp [outC, encN, lst, gt2]
theorem ldiffers_fn (a b : List Nd) : Fn Tryd.prog 3 [tube a, tube b] .sc (.bool true) := by
  have q := EffF.ldiffers_form (tube a) (tube b) (.bool true)
  have kk := fun h => fn_run mixed 3 (Γ := EffF.Γ) (ann := EffF.ann) Tryd.func3 rfl Tryd.call3 (q.mpr h)
  refine kk ?_
  clear kk q
  have hd := differs_fn a b
  refine ⟨_, efact_fn, by simp, by simp, by simp, _, hd, _, tcheck_fn a, by simp, by simp, fun h => ?_, fun h => ?_⟩
  · have ha : tE a = 0 := by simpa using h
    refine ⟨_, tcheck_fn b, by simp, by simp, fun h => ?_, fun h => ?_⟩
    · have hb : tE b ≠ 0 := by simpa using h
      have hV : difV a b = .tup [.int 0, .int (tE b)] := by unfold difV; rw [if_neg (by simp [ha]), if_pos hb]
      rw [hV]
      simp
    · have hb : tE b = 0 := by simpa using h
      obtain ⟨x, y, hx, hy, hxd, hyd, x1, x2, y1, y2, la, la2⟩ := ends_of ha
      obtain ⟨z, u, hz, hu, hzd, hud, z1, z2, u1, u2, lb, lb2⟩ := ends_of hb
      have wa : wr ((a.length : Int) - 1) = ((a.length - 1 : Nat) : Int) := by rw [wr_id (by omega) (by omega)]; omega
      have wb : wr ((b.length : Int) - 1) = ((b.length - 1 : Nat) : Int) := by rw [wr_id (by omega) (by omega)]; omega
      have hza : AV.at (tube a) (.lit (.int .i64 0)) 0 = .int x.t := by have := lst_at (s := 6) (enc := encN) (k := .i64) (j := 0) hx; simpa [encN] using this
      have hzb : AV.at (tube b) (.lit (.int .i64 0)) 0 = .int z.t := by have := lst_at (s := 6) (enc := encN) (k := .i64) (j := 0) hz; simpa [encN] using this
      have hF : dFirst a b = if z.t < x.t then z.t else x.t := by unfold dFirst; rw [hxd, hzd]
      have hL : dLast a b = if u.t > y.t then u.t else y.t := by unfold dLast; rw [hyd, hud]
      have hV : difV a b = if 20000 < dLast a b - dFirst a b then .tup [.int 0, .int 2] else match fstD a b (dFirst a b) (dLast a b - dFirst a b + 1).toNat with
        | some s => .tup [.int s, .int 0]
        | none => .tup [.int 0, .int 8] := by
        unfold difV difS
        rw [if_neg (by simp [ha]), if_neg (by simp [hb])]
        all_goals rfl
      have hFb : 0 ≤ dFirst a b ∧ dFirst a b ≤ 200000 := by rw [hF]; split <;> omega
      have hLb : 0 ≤ dLast a b ∧ dLast a b ≤ 200000 := by rw [hL]; split <;> omega
      have hal : ((a.length - 1 : Nat) : Int) < a.length := by omega
      have hbl : ((b.length - 1 : Nat) : Int) < b.length := by omega
      have m1 : AV.mn (.int x.t) (.int z.t) = .int (dFirst a b) := by rw [hF]; rfl
      have m2 : AV.mx (.int y.t) (.int u.t) = .int (dLast a b) := by rw [hL]; rfl
      rw [hV]
      clear hV hF hL hd
      generalize dFirst a b = F at *
      generalize dLast a b = L at *
      have wd : wr (L - F) = L - F := wr_id (by omega) (by omega)
      simp only [hza, hzb, lst_len, av_subt, wr_eq, wa, wb, m1, m2, lst_at hy, lst_at hu, encN, List.getD_cons_zero, wd, List.length_cons, List.length_nil]
      refine ⟨by simp, by simp; omega, by simp, by simp; omega, by simp, by simp, by simp, by simp, by simp, by simp; omega, by simp, by simp, by simp, by simp; omega, by simp, by simp, by simp, by simp, by simp, fun h => ?_, fun h => ?_⟩
      · have h : 20000 < L - F := by simpa [wd] using h
        rw [if_pos h]
        simp
      · have h : ¬ 20000 < L - F := by simp [wd] at h; omega
        rw [if_neg h]
        clear m1 m2 hza hzb
        refine ⟨by simp, by simp, by simp, fun _ => by simp, fun _ => ?_⟩
        generalize hR : (match fstD a b F (L - F + 1).toNat with
        | some s => AV.tup [.int s, .int 0]
        | none => AV.tup [.int 0, .int 8]) = R
        have g1 : ∀ s, fstD a b F (L - F + 1).toNat = some s → R = .tup [.int s, .int 0] := fun s h => by rw [← hR, h]
        have g0 : fstD a b F (L - F + 1).toNat = none → R = .tup [.int 0, .int 8] := fun h => by rw [← hR, h]
        clear hR
        refine loop_of (τ := Int) (fun s => [.int s]) (fun s => F ≤ s ∧ s ≤ 200001 ∧ fstD a b F (L - F + 1).toNat = fstD a b s (L - s + 1).toNat) (fun s => (L - s + 1).toNat) F rfl ⟨Int.le_refl _, by omega, rfl⟩ ?_
        rintro s ⟨hs1, hs2, hs3⟩
        have hta := tat_fn a s
        have htb := tat_fn b s
        rw [tatV_nd] at hta htb
        by_cases hle : s ≤ L
        · obtain ⟨n, hn⟩ : ∃ n, (L - s + 1).toNat = n + 1 := ⟨(L - s).toNat, by omega⟩
          have hn2 : (L - (s + 1) + 1).toNat = n := by omega
          rw [hn, fstD] at hs3
          have hy : difP a b s → R = .tup [.int s, .int 0] := fun h => g1 s (by rw [hs3, if_pos h])
          have hnn : ¬ difP a b s → fstD a b F (L - F + 1).toNat = fstD a b (s + 1) (L - (s + 1) + 1).toNat := fun h => by rw [hs3, if_neg h, hn2]
          unfold difP at hy hnn
          have hzz : tatE a s = tatE b s → tatE a s ≠ 0 → ndA a s = ndA b s := fun q1 q2 => by unfold ndA; rw [if_neg q2, if_neg (by rw [← q1]; exact q2)]
          have ws : wr (s + 1) = s + 1 := wr_id (by omega) (by omega)
          clear g0 g1 hs3
          generalize hA : ndA a s = A at *
          generalize hB : ndA b s = B at *
          obtain ⟨at_, ax, ay, ah, ar, ab⟩ := A
          obtain ⟨bt, bx, b_, bh, br, bb⟩ := B
          simp only at hy hnn
          refine ⟨by simp, by simp, fun _ => ⟨_, hta, by simp [encN], _, htb, by simp [encN], ?_⟩, fun h => absurd h (by simp; omega)⟩
          have p1 : AV.eqPlOk [(0, EK.int .i64), (1, EK.int .i64)] [.int ax, .int ay] [.int bx, .int b_] := fun p hp => by
            simp at hp
            rcases hp with rfl | rfl <;> simp
          have p2 : AV.nePl [(0, EK.int .i64), (1, EK.int .i64)] [.int ax, .int ay] [.int bx, .int b_] = .bool (!(ax == bx && ay == b_)) := by simp [AV.nePl]
          simp [encN, ws, p1, p2]
          refine ⟨fun h => ?_, fun h0 => ⟨fun h00 => ⟨fun h => ?_, fun h1 h2 => ⟨⟨h1, h2⟩, h00, h0, fun h => ?_, fun h => ⟨by omega, by omega, by omega, hnn (by simp [h0, h1, h2, h])⟩⟩⟩, fun h00 => ?_⟩⟩
          · have := hy (.inl h)
            subst this
            simp [h]
          · have := hy (h.elim (fun q => .inr (.inl q)) fun q => .inr (.inr (.inl q)))
            subst this
            simp [h, ← h0, h00]
          · have := hy (.inr (.inr (.inr h)))
            subst this
            simp
          · have := hzz h0 h00
            simp only [Nd.mk.injEq] at this
            refine ⟨h00, h0, by omega, by omega, by omega, hnn (by simp [h0, this])⟩
        · have e : (L - s + 1).toNat = 0 := by omega
          rw [e, fstD] at hs3
          rw [g0 hs3]
          refine ⟨by simp, by simp, fun h => absurd h (by simp; omega), fun _ => by simp⟩
  · have ha : tE a ≠ 0 := by simpa using h
    have hV : difV a b = .tup [.int 0, .int (tE a)] := by unfold difV; rw [if_pos ha]
    rw [hV]
    simp [ha]
end Go.Proofs.YtocgoabplafoeaaDoor
/- effects: the nodes behind a clearance to a height, in plain lists. -/
namespace Go.Proofs.YtocgoabplafoeaaDoor
open Go.RowKit
set_option linter.unusedVariables false
set_option linter.unusedSimpArgs false
set_option maxRecDepth 100000
abbrev Up (l : List Nd) : Prop := l.Pairwise fun x y => x.t < y.t
theorem up_of {l : List Nd} (h : tE l = 0) : Up l := by
  obtain ⟨_, _, hG⟩ := tE_ok h
  rw [Up, List.pairwise_iff_getElem]
  intro i j hi hj hij
  exact (tG_get hG (List.getElem?_eq_getElem hi)).2.2 j _ hij (List.getElem?_eq_getElem hj)
theorem up_get {l : List Nd} (h : Up l) {i j : Nat} {x y : Nd} (hi : l[i]? = some x) (hj : l[j]? = some y) (hij : i < j) : x.t < y.t := by
  rw [Up, List.pairwise_iff_getElem] at h
  obtain ⟨h1, rfl⟩ := List.getElem?_eq_some_iff.1 hi
  obtain ⟨h2, rfl⟩ := List.getElem?_eq_some_iff.1 hj
  exact h i j h1 h2 hij
theorem ix_mem {l : List Nd} (h : Up l) {j : Nat} {x : Nd} (hj : l[j]? = some x) : ixF x.t l = j :=
  ixF_snoc (fun i y hi hy => up_get h hy hj hi) hj (by omega)
theorem atN_mem {l : List Nd} (h : Up l) {x : Nd} (hx : x ∈ l) : atN l x.t = x := by
  obtain ⟨j, hj⟩ := List.getElem?_of_mem hx
  have e : l.getD (ixF x.t l) default = x := by rw [ix_mem h hj, List.getD_eq_getElem?_getD, hj]; rfl
  unfold atN
  rw [e, if_pos rfl]
theorem last_mem {l : List Nd} (h : 0 < l.length) : l.getD (l.length - 1) default ∈ l := by
  rw [List.getD_eq_getElem?_getD, List.getElem?_eq_getElem (by omega)]
  exact List.getElem_mem _
theorem last_max {l : List Nd} (h : Up l) {x : Nd} (hx : x ∈ l) : x.t ≤ (l.getD (l.length - 1) default).t := by
  obtain ⟨j, hj⟩ := List.getElem?_of_mem hx
  have hl := (List.getElem?_eq_some_iff.1 hj).1
  have hz : l[l.length - 1]? = some (l.getD (l.length - 1) default) := by
    rw [List.getD_eq_getElem?_getD, List.getElem?_eq_getElem (by omega)]; rfl
  rcases Nat.lt_or_ge j (l.length - 1) with g | g
  · exact Int.le_of_lt (up_get h hj hz g)
  · obtain rfl : j = l.length - 1 := by omega
    rw [hz] at hj; injection hj with hj; rw [hj]; exact Int.le_refl _
theorem first_min {l : List Nd} (h : Up l) {x : Nd} (hx : x ∈ l) : (l.getD 0 default).t ≤ x.t := by
  obtain ⟨j, hj⟩ := List.getElem?_of_mem hx
  have hl := (List.getElem?_eq_some_iff.1 hj).1
  have hz : l[0]? = some (l.getD 0 default) := by
    rw [List.getD_eq_getElem?_getD, List.getElem?_eq_getElem (by omega)]; rfl
  rcases Nat.eq_zero_or_pos j with g | g
  · subst g; rw [hz] at hj; injection hj with hj; rw [hj]; exact Int.le_refl _
  · exact Int.le_of_lt (up_get h hz hj g)
theorem tatE_in {l : List Nd} (h : tE l = 0) {t : Int} (h1 : (l.getD 0 default).t ≤ t) (h2 : t ≤ (l.getD (l.length - 1) default).t) : tatE l t = 0 := by
  unfold tatE
  rw [if_neg (by simp [h]), if_neg (by omega)]
theorem tatE_rng {l : List Nd} {t : Int} (h : tatE l t = 0) : (l.getD 0 default).t ≤ t ∧ t ≤ (l.getD (l.length - 1) default).t := by
  have h0 := (tatE_ok h).1
  unfold tatE at h
  rw [if_neg (by simp [h0])] at h
  split at h
  · cases h
  · omega
theorem filt_perm (a : Int) : ∀ l : List Nd, (befT a l ++ latT a l).Perm (l.filter fun n => decide (n.t ≠ a))
  | [] => .nil
  | x :: l => by
    have ih := filt_perm a l
    unfold befT latT at *
    rcases Int.lt_trichotomy x.t a with h | h | h
    · simp only [List.filter_cons, h, decide_true, if_true, show ¬ a < x.t by omega, decide_false, Bool.false_eq_true, if_false, show x.t ≠ a by omega, ne_eq, not_false_eq_true, List.cons_append]
      exact ih.cons x
    · simp only [List.filter_cons, show ¬ x.t < a by omega, show ¬ a < x.t by omega, h, decide_false, Bool.false_eq_true, if_false, ne_eq, not_true_eq_false, Int.lt_irrefl]
      exact ih
    · simp only [List.filter_cons, h, decide_true, if_true, show ¬ x.t < a by omega, decide_false, Bool.false_eq_true, if_false, show x.t ≠ a by omega, ne_eq, not_false_eq_true]
      exact List.perm_middle.trans (ih.cons x)
/-- The times of the nodes behind it. -/
def TL (l : List Nd) (a : Int) : List Int := (l.filter fun n => decide (n.t ≠ a)).map (·.t) ++ [a]
def timesT (l : List Nd) (a e : Int) : List Int := if e < (l.getD (l.length - 1) default).t ∧ e ∉ TL l a then TL l a ++ [e] else TL l a
/-- Within the sorted nodes: ahead of a time, and from it on. -/
theorem ix_split {e : Int} {L : List Nd} (h : Up L) : (∀ x ∈ L.take (ixF e L), x.t < e) ∧ ∀ x ∈ L.drop (ixF e L), e ≤ x.t := by
  refine ⟨fun x hx => ?_, fun x hx => ?_⟩
  · obtain ⟨j, hj⟩ := List.getElem?_of_mem hx
    rw [List.getElem?_take] at hj
    split at hj
    · rename_i g; exact ixF_lt g hj
    · cases hj
  · obtain ⟨j, hj⟩ := List.getElem?_of_mem hx
    rw [List.getElem?_drop] at hj
    obtain ⟨y, hy⟩ : ∃ y, L[ixF e L]? = some y := ⟨_, List.getElem?_eq_getElem (by have := (List.getElem?_eq_some_iff.1 hj).1; omega)⟩
    have h1 := ixF_ge hy
    rcases Nat.eq_zero_or_pos j with g | g
    · subst g
      rw [Nat.add_zero, hy] at hj
      injection hj with hj; rw [← hj]; omega
    · have := up_get h hy hj (by omega)
      omega
theorem insT_spec {w L : List Nd} {e : Int} (h : Up L) (hlt : ∃ x ∈ L, e < x.t) : Up (insT w e L) ∧ ((e ∈ L.map (·.t) ∧ insT w e L = L) ∨ (e ∉ L.map (·.t) ∧ ((insT w e L).map (·.t)).Perm (L.map (·.t) ++ [e]) ∧ ∀ x ∈ insT w e L, x ∈ L ∨ x = atN w e)) := by
  obtain ⟨s1, s2⟩ := ix_split (e := e) h
  have hil : ixF e L < L.length := by
    rcases Nat.lt_or_ge (ixF e L) L.length with g | g
    · exact g
    · obtain ⟨x, hx, hxe⟩ := hlt
      rw [List.take_of_length_le g] at s1
      have := s1 x hx; omega
  have hg : L[ixF e L]? = some (L.getD (ixF e L) default) := by rw [List.getD_eq_getElem?_getD, List.getElem?_eq_getElem hil]; rfl
  have hat := atN_t w e
  unfold insT
  split
  · rename_i q
    exact ⟨h, .inl ⟨List.mem_map.2 ⟨_, List.mem_of_getElem? hg, q⟩, rfl⟩⟩
  · rename_i q
    have hge := ixF_ge hg
    have s3 : ∀ x ∈ L.drop (ixF e L), e < x.t := fun x hx => by
      obtain ⟨j, hj⟩ := List.getElem?_of_mem hx
      rw [List.getElem?_drop] at hj
      rcases Nat.eq_zero_or_pos j with g | g
      · subst g
        rw [Nat.add_zero, hg] at hj
        injection hj with hj; rw [← hj]; omega
      · have := up_get h hg hj (by omega); omega
    refine ⟨?_, .inr ⟨fun hm => ?_, ?_, fun x hx => ?_⟩⟩
    · have h' := h
      rw [Up, ← List.take_append_drop (ixF e L) L, List.pairwise_append] at h'
      obtain ⟨p1, p2, p3⟩ := h'
      rw [Up, List.pairwise_append]
      refine ⟨p1, List.pairwise_cons.2 ⟨fun y hy => by rw [hat]; exact s3 y hy, p2⟩, fun x hx y hy => ?_⟩
      rcases List.mem_cons.1 hy with g | g
      · rw [g, hat]; exact s1 x hx
      · exact p3 x hx y g
    · obtain ⟨x, hx, hxe⟩ := List.mem_map.1 hm
      rw [← List.take_append_drop (ixF e L) L] at hx
      rcases List.mem_append.1 hx with g | g
      · have := s1 x g; omega
      · have := s3 x g; omega
    · rw [List.map_append, List.map_cons, hat]
      refine List.perm_middle.trans ?_
      rw [← List.map_append, List.take_append_drop]
      exact (List.perm_append_singleton _ _).symm
    · rcases List.mem_append.1 hx with g | g
      · exact .inl (List.mem_of_mem_take g)
      · rcases List.mem_cons.1 g with g | g
        · exact .inr g
        · exact .inl (List.mem_of_mem_drop g)
theorem hgt_t (nt nh v n : Int) (x : Nd) : (hgt nt nh v n x).t = x.t := rfl
theorem hgt_map (nt nh v n : Int) (L : List Nd) : (L.map (hgt nt nh v n)).map (·.t) = L.map (·.t) := by
  rw [List.map_map]; rfl
theorem midT_spec {l : List Nd} {a n : Int} (hv : tE l = 0) (hE : tatE l a = 0) (hn : 0 ≤ n) :
    Up (midT l (latT a l) a n) ∧ (∀ x ∈ midT l (latT a l) a n, a < x.t ∧ tatE l x.t = 0 ∧ x = atN l x.t) ∧
    (befT a l ++ [atN l a] ++ midT l (latT a l) a n |>.map (·.t)).Perm (timesT l a (a + n)) := by
  have hu := up_of hv
  obtain ⟨r1, r2⟩ := tatE_rng hE
  have hul : Up (latT a l) := hu.filter _
  have hml : ∀ x ∈ latT a l, x ∈ l ∧ a < x.t := fun x hx => by
    obtain ⟨h1, h2⟩ := List.mem_filter.1 hx
    exact ⟨h1, by simpa using h2⟩
  have hinl : ∀ x ∈ l, tatE l x.t = 0 ∧ x = atN l x.t := fun x hx => ⟨tatE_in hv (first_min hu hx) (last_max hu hx), (atN_mem hu hx).symm⟩
  have hlp : 0 < l.length := (tE_ok hv).1
  have hlm := last_mem hlp
  have hTL : ((befT a l ++ [atN l a] ++ latT a l).map (·.t)).Perm (TL l a) := by
    unfold TL
    have p := (filt_perm a l).map (·.t)
    rw [List.map_append, List.map_append, List.map_cons, List.map_nil, atN_t]
    refine List.Perm.trans ?_ (p.append_right [a])
    rw [List.map_append, List.append_assoc, List.append_assoc]
    exact List.perm_append_comm.append_left _
  have hTLm : ∀ e, e ∈ TL l a ↔ (∃ x ∈ l, x.t = e) ∨ e = a := fun e => by
    unfold TL
    rw [List.mem_append, List.mem_singleton, List.mem_map]
    constructor
    · rintro (⟨x, hx, rfl⟩ | h)
      · exact .inl ⟨x, (List.mem_filter.1 hx).1, rfl⟩
      · exact .inr h
    · rintro (⟨x, hx, rfl⟩ | h)
      · by_cases q : x.t = a
        · exact .inr q
        · exact .inl ⟨x, List.mem_filter.2 ⟨hx, by simpa using q⟩, rfl⟩
      · exact .inr h
  by_cases hc : 0 < n ∧ 0 < (latT a l).length ∧ a + n < ((latT a l).getD ((latT a l).length - 1) default).t
  · have hm : midT l (latT a l) a n = insT l (a + n) (latT a l) := by unfold midT; rw [if_pos hc]
    rw [hm]
    obtain ⟨hn0, hl0, hlast⟩ := hc
    have hlm2 := last_mem hl0
    obtain ⟨hz1, hz2⟩ := hml _ hlm2
    have hmax := last_max hu hz1
    obtain ⟨g1, g2⟩ := insT_spec (w := l) (e := a + n) hul ⟨_, hlm2, hlast⟩
    rcases g2 with ⟨g2, g3⟩ | ⟨g2, g3, g4⟩
    · refine ⟨g1, fun x hx => ?_, ?_⟩
      · rw [g3] at hx
        exact ⟨(hml x hx).2, hinl x (hml x hx).1⟩
      · obtain ⟨x, hx, hxe⟩ := List.mem_map.1 g2
        have : timesT l a (a + n) = TL l a := by
          unfold timesT
          rw [if_neg]
          rintro ⟨_, q⟩
          exact q ((hTLm _).2 (.inl ⟨x, (hml x hx).1, hxe⟩))
        rw [this, g3]
        exact hTL
    · refine ⟨g1, fun x hx => ?_, ?_⟩
      · rcases g4 x hx with g | g
        · exact ⟨(hml x g).2, hinl x (hml x g).1⟩
        · have hxt : x.t = a + n := by rw [g]; exact atN_t _ _
          exact ⟨by omega, by rw [hxt]; exact tatE_in hv (by omega) (by omega), by rw [hxt]; exact g⟩
      · have hne : a + n ∉ TL l a := fun q => by
          rcases (hTLm _).1 q with ⟨x, hx, hxe⟩ | q
          · exact g2 (List.mem_map.2 ⟨x, List.mem_filter.2 ⟨hx, by simp; omega⟩, hxe⟩)
          · omega
        have : timesT l a (a + n) = TL l a ++ [a + n] := by
          unfold timesT
          rw [if_pos ⟨by omega, hne⟩]
        rw [this]
        have p := hTL.append_right [a + n]
        refine List.Perm.trans ?_ p
        rw [List.map_append (l₁ := befT a l ++ [atN l a]), List.map_append (l₁ := befT a l ++ [atN l a]), List.append_assoc]
        exact g3.append_left _
  · have hm : midT l (latT a l) a n = latT a l := by unfold midT; rw [if_neg hc]
    rw [hm]
    refine ⟨hul, fun x hx => ⟨(hml x hx).2, hinl x (hml x hx).1⟩, ?_⟩
    have : timesT l a (a + n) = TL l a := by
      unfold timesT
      rw [if_neg]
      rintro ⟨q1, q2⟩
      have hn0 : 0 < n := by
        rcases Int.lt_or_eq_of_le hn with g | g
        · exact g
        · exact absurd ((hTLm (a + n)).2 (.inr (by omega))) q2
      have hin : l.getD (l.length - 1) default ∈ latT a l := List.mem_filter.2 ⟨hlm, by simp only [decide_eq_true_eq]; omega⟩
      have hl0 : 0 < (latT a l).length := List.length_pos_of_mem hin
      have := last_max hul hin
      exact hc ⟨hn0, hl0, by omega⟩
    rw [this]
    exact hTL
/-- The node that the law asks for at a time. -/
def expN (l : List Nd) (a v n t : Int) : Nd := if a < t then hgt a (atN l a).h v n (atN l t) else atN l t
theorem outT_spec {l : List Nd} {a v : Int} {k : Kd} (hv : tE l = 0) (hE : tatE l a = 0) (hn : 0 ≤ clN k (atN l a).h v) :
    Up (outT l v a k) ∧ (∀ x ∈ outT l v a k, tatE l x.t = 0 ∧ x = expN l a v (clN k (atN l a).h v) x.t) ∧ ((outT l v a k).map (·.t)).Perm (timesT l a (a + clN k (atN l a).h v)) := by
  have hu := up_of hv
  have hO : outT l v a k = befT a l ++ atN l a :: (midT l (latT a l) a (clN k (atN l a).h v)).map (hgt a (atN l a).h v (clN k (atN l a).h v)) := rfl
  generalize clN k (atN l a).h v = n at *
  obtain ⟨m1, m2, m3⟩ := midT_spec hv hE hn
  have hb : ∀ x ∈ befT a l, x ∈ l ∧ x.t < a := fun x hx => by
    obtain ⟨h1, h2⟩ := List.mem_filter.1 hx
    exact ⟨h1, by simpa using h2⟩
  rw [hO]
  refine ⟨?_, fun x hx => ?_, ?_⟩
  · rw [Up, List.pairwise_append]
    refine ⟨hu.filter _, List.pairwise_cons.2 ⟨fun y hy => ?_, ?_⟩, fun x hx y hy => ?_⟩
    · obtain ⟨z, hz, rfl⟩ := List.mem_map.1 hy
      rw [atN_t, hgt_t]
      exact (m2 z hz).1
    · rw [List.pairwise_map]
      exact m1
    · have := (hb x hx).2
      rcases List.mem_cons.1 hy with g | g
      · rw [g, atN_t]; exact this
      · obtain ⟨z, hz, rfl⟩ := List.mem_map.1 g
        have := (m2 z hz).1
        rw [hgt_t]; omega
  · rcases List.mem_append.1 hx with g | g
    · obtain ⟨h1, h2⟩ := hb x g
      refine ⟨tatE_in hv (first_min hu h1) (last_max hu h1), ?_⟩
      unfold expN
      rw [if_neg (by omega), atN_mem hu h1]
    · rcases List.mem_cons.1 g with g | g
      · rw [g, atN_t]
        refine ⟨hE, ?_⟩
        unfold expN
        rw [if_neg (by omega)]
      · obtain ⟨z, hz, rfl⟩ := List.mem_map.1 g
        obtain ⟨q1, q2, q3⟩ := m2 z hz
        rw [hgt_t]
        refine ⟨q2, ?_⟩
        unfold expN
        rw [if_pos q1, ← q3]
  · rw [List.map_append, List.map_cons, hgt_map]
    rw [List.append_assoc, List.map_append, List.map_append, List.map_cons, List.map_nil] at m3
    exact m3
theorem sort_uniq {l m : List Int} (hs : l.Pairwise (· < ·)) (hp : l.Perm m) : m.mergeSort (fun x y => decide (x ≤ y)) = l := by
  refine List.Perm.eq_of_pairwise (le := fun x y => x ≤ y) ?_ ?_ (hs.imp fun h => Int.le_of_lt h) ((List.mergeSort_perm m _).trans hp.symm)
  · intro a b _ _ h1 h2; exact Int.le_antisymm h1 h2
  · have := List.pairwise_mergeSort (le := fun x y : Int => decide (x ≤ y)) (fun a b c h1 h2 => by simp at *; omega) (fun a b => by simp; omega) m
    exact this.imp fun h => of_decide_eq_true h
theorem outT_sorted {l : List Nd} {a v : Int} {k : Kd} (hv : tE l = 0) (hE : tatE l a = 0) (hn : 0 ≤ clN k (atN l a).h v) :
    (timesT l a (a + clN k (atN l a).h v)).mergeSort (fun x y => decide (x ≤ y)) = (outT l v a k).map (·.t) := by
  obtain ⟨h1, _, h3⟩ := outT_spec (v := v) (k := k) hv hE hn
  exact sort_uniq (List.pairwise_map.2 h1) h3
end Go.Proofs.YtocgoabplafoeaaDoor
/- effects: the heights after a clearance to a height. -/
namespace Go.Proofs.YtocgoabplafoeaaDoor
open Go.RowKit
set_option linter.unusedVariables false
set_option linter.unusedSimpArgs false
set_option maxRecDepth 100000
def encI (n : Int) : List AV := [.int n]
abbrev ints (l : List Int) : AV := lst 1 encI l
theorem int_snoc (l : List Int) (x : Int) : AV.app 1 (ints l) (.sl 1 [[.int x]]) = ints (l ++ [x]) := by simp [lst, encI]
theorem eerr_fn (l : List Nd) (c : Cl) (a : Int) (k : Kd) (fix : Pt) : Fn Tryd.prog 10 [tube l, cl c, .int a, kd k, pt fix] .sc (.int (ofE l c a k fix)) := by
  have q := EffH.eerr_form (tube l) (cl c) (.int a) (kd k) (pt fix) (.int (ofE l c a k fix))
  have kk := fun h => fn_run mixed 3 (Γ := EffH.Γ) (ann := EffH.ann) Tryd.func10 rfl Tryd.call10 (q.mpr h)
  refine kk ?_
  clear kk q
  have hO : ofE l c a k fix = if tE l ≠ 0 then tE l else if clE c ≠ 0 then clE c else if kE k ≠ 0 then kE k else if pE fix ≠ 0 then pE fix else tatE l a := rfl
  rw [hO]
  refine ⟨by simp [encL], by simp [encKd], by simp [encP], _, tcheck_fn l, by simp, by simp, fun h => ?_, fun h => ?_⟩
  · have h : tE l ≠ 0 := by simpa using h
    rw [if_pos h]
    exact ⟨.lit _, rfl⟩
  have h0 : tE l = 0 := by simpa using h
  rw [if_neg (by simp [h0])]
  refine ⟨_, cerr_fn c, by simp, by simp, fun h => ?_, fun h => ?_⟩
  · have h : clE c ≠ 0 := by simpa using h
    rw [if_pos h]
    exact ⟨.lit _, rfl⟩
  have h1 : clE c = 0 := by simpa using h
  rw [if_neg (by simp [h1])]
  refine ⟨_, acheck_fn k, by simp, by simp, fun h => ?_, fun h => ?_⟩
  · have h : kE k ≠ 0 := by simpa using h
    rw [if_pos h]
    exact ⟨.lit _, rfl⟩
  have h2 : kE k = 0 := by simpa using h
  rw [if_neg (by simp [h2])]
  refine ⟨_, pe_fn fix, by simp, by simp, fun h => ?_, fun h => ?_⟩
  · have h : pE fix ≠ 0 := by simpa using h
    rw [if_pos h]
    exact ⟨.lit _, rfl⟩
  have h3 : pE fix = 0 := by simpa using h
  rw [if_neg (by simp [h3])]
  obtain ⟨x, y, hx, hy, hxd, hyd, x1, x2, y1, y2, la, la2⟩ := ends_of h0
  have wa : wr ((l.length : Int) - 1) = ((l.length - 1 : Nat) : Int) := by rw [wr_id (by omega) (by omega)]; omega
  have hza : AV.at (tube l) (.lit (.int .i64 0)) 0 = .int x.t := by have := lst_at (s := 6) (enc := encN) (k := .i64) (j := 0) hx; simpa [encN] using this
  have hal : ((l.length - 1 : Nat) : Int) < l.length := by omega
  have hT : tatE l a = if a < x.t ∨ a > y.t then 12 else 0 := by unfold tatE; rw [if_neg (by simp [h0]), hxd, hyd]
  rw [hT]
  simp only [hza, lst_len, av_subt, wr_eq, wa, lst_at hy, encN, List.getD_cons_zero]
  refine ⟨by simp, by simp; omega, by simp, by simp, fun h => ?_, fun h => ?_⟩
  · have h : a < x.t := by simpa using h
    rw [if_pos (.inl h)]
    simp [h]
  · have h : ¬ a < x.t := by simpa using h
    refine ⟨by simp, by simp, by simp, by simp; omega, by simp, by simp, by simp; omega, by simp, fun g => ?_, fun g => ?_⟩
    · have g : a > y.t := by simpa using g
      rw [if_pos (.inr g)]
      simp
    · have g : ¬ a > y.t := by simpa using g
      rw [if_neg (by omega)]
      simp
theorem eq6 (a b c d e f : Int) : AV.eqPlOk [(0, EK.int .i64), (1, EK.int .i64), (2, EK.int .i64), (3, EK.int .i64), (4, EK.int .i64), (5, EK.int .i64)] [.int a, .int b, .int c, .int d, .int e, .int f] [.int a, .int b, .int c, .int d, .int e, .int f] := fun p hp => by
  simp at hp
  rcases hp with rfl | rfl | rfl | rfl | rfl | rfl <;> simp
theorem ne6 (a b c d e f : Int) : AV.bool false = AV.nePl [(0, EK.int .i64), (1, EK.int .i64), (2, EK.int .i64), (3, EK.int .i64), (4, EK.int .i64), (5, EK.int .i64)] [.int a, .int b, .int c, .int d, .int e, .int f] [.int a, .int b, .int c, .int d, .int e, .int f] := by
  simp [AV.nePl]
/-- The greatest height that is not above the line. -/
theorem up_loop (i : Nat) (nh v n d : Int) {body : List AV → (List AV → Prop) → Prop} (hn : 0 < n) (h0 : (if v < nh then v else nh) - nh ≤ (v - nh) * d / n)
    (hb : ∀ h (K : List AV → Prop), (if v < nh then v else nh) ≤ h → h - nh ≤ (v - nh) * d / n → ((h + 1 - nh) * n ≤ (v - nh) * d → K [.int (h + 1)]) → (¬ (h + 1 - nh) * n ≤ (v - nh) * d → h = nh + (v - nh) * d / n) → body [.int h] K) :
    fLoop i [.int (if v < nh then v else nh)] body := by
  refine loop_of (τ := Int) (fun h => [.int h]) (fun h => (if v < nh then v else nh) ≤ h ∧ h - nh ≤ (v - nh) * d / n) (fun h => (nh + (v - nh) * d / n - h).toNat) _ rfl ⟨Int.le_refl _, h0⟩ ?_
  rintro h ⟨i1, i2⟩
  have key : (h + 1 - nh) * n ≤ (v - nh) * d ↔ h + 1 - nh ≤ (v - nh) * d / n := (Int.le_ediv_iff_mul_le hn).symm
  refine hb h _ i1 i2 (fun q => ?_) (fun q => ?_)
  · have := key.1 q
    exact ⟨_, by omega, h + 1, rfl, ⟨by omega, by omega⟩, rfl⟩
  · rw [key] at q
    omega
theorem ltail (x0 x1 x2 rM rA rN r : AV) (l : List Nd) (cc cf : ByteArray) (v a : Int) (k : Kd) (L : List Int) (ia ib : Nat) (hx0 : x0 = tube l) (hx1 : x1 = cl ⟨cc, 0, v, cf⟩) (hx2 : x2 = .int a) (hrA : rA = .tup [nd (atN l a), .int 0]) (hrN : rN = .tup [.int (clN k (atN l a).h v), .int 0])
    (hrM : rM = if 64 < (outT l v a k).length then .tup [.sl 6 [], .int 2] else .tup [tube (outT l v a k), .int 0]) (hr : r = .bool true) (hv : tE l = 0) (hE : tatE l a = 0) (hE2 : clE2 k (atN l a).h v = 0)
    (hL : L = timesT l a (a + clN k (atN l a).h v)) (hS : FnU Tryd.prog 13 3 1 (ints L) [] false (ints (L.mergeSort fun x y => decide (x ≤ y)))) :
    (∃ r5 : AV, ((FnU Tryd.prog 13 3 1 (ints L) [] false r5) ∧
            ((AV.binOk Go.BinOp.gtr (AV.len r5) (AV.int 64)) ∧
            ((AV.isBool (AV.bin Go.BinOp.gtr (AV.len r5) (AV.int 64))) ∧
            (((isT (AV.bin Go.BinOp.gtr (AV.len r5) (AV.int 64))) →
              ((AV.binOk Go.BinOp.eql (AV.prj rM 1) (AV.int 2)) ∧
              ((AV.isBool (AV.bin Go.BinOp.eql (AV.prj rM 1) (AV.int 2))) ∧
              ((isT (AV.bin Go.BinOp.eql (AV.prj rM 1) (AV.int 2))) ∧
              ((AV.binOk Go.BinOp.eql (AV.len (AV.prj rM 0)) (AV.int 0)) ∧
              ((AV.isBool (AV.bin Go.BinOp.eql (AV.prj rM 1) (AV.int 2))) ∧
              ((isT (AV.bin Go.BinOp.eql (AV.prj rM 1) (AV.int 2))) ∧
              ((AV.flat (AV.bin Go.BinOp.eql (AV.len (AV.prj rM 0)) (AV.int 0))) ∧
              (fSame (AV.bin Go.BinOp.eql (AV.len (AV.prj rM 0)) (AV.int 0)) r))))))))) ∧
            ((isF (AV.bin Go.BinOp.gtr (AV.len r5) (AV.int 64))) →
              ((AV.binOk Go.BinOp.neq (AV.prj rM 1) (AV.int 0)) ∧
              ((AV.isBool (AV.bin Go.BinOp.neq (AV.prj rM 1) (AV.int 0))) ∧
              ((isF (AV.bin Go.BinOp.neq (AV.prj rM 1) (AV.int 0))) ∧
              ((AV.binOk Go.BinOp.neq (AV.len (AV.prj rM 0)) (AV.len r5)) ∧
              ((AV.isBool (AV.bin Go.BinOp.neq (AV.prj rM 1) (AV.int 0))) ∧
              ((isF (AV.bin Go.BinOp.neq (AV.prj rM 1) (AV.int 0))) ∧
              ((AV.isBool (AV.bin Go.BinOp.neq (AV.len (AV.prj rM 0)) (AV.len r5))) ∧
              ((isF (AV.bin Go.BinOp.neq (AV.len (AV.prj rM 0)) (AV.len r5))) ∧
              (fLoop ia [(AV.int 0)] fun ys_0 again_0 =>
                ((AV.binOk Go.BinOp.lss (ys_0.getD 0 default) (AV.len r5)) ∧
                ((AV.isBool (AV.bin Go.BinOp.lss (ys_0.getD 0 default) (AV.len r5))) ∧
                (((isT (AV.bin Go.BinOp.lss (ys_0.getD 0 default) (AV.len r5))) →
                  ((AV.inb r5 (ys_0.getD 0 default)) ∧
                  ((AV.inb r5 (ys_0.getD 0 default)) ∧
                  (∃ r_1 : AV, ((Fn Tryd.prog 8 [x0, (AV.at r5 (ys_0.getD 0 default) 0)] (Sh.tup [Sh.sc, Sh.sc]) r_1) ∧
                  ((AV.isAgg (AV.prj r_1 0) 6) ∧
                  ((AV.binOk Go.BinOp.sub (AV.cel x1 2) (AV.cel (AV.prj rA 0) 3)) ∧
                  ((AV.binOk Go.BinOp.gtr (AV.at r5 (ys_0.getD 0 default) 0) x2) ∧
                  ((AV.isBool (AV.bin Go.BinOp.gtr (AV.at r5 (ys_0.getD 0 default) 0) x2)) ∧
                  (((isT (AV.bin Go.BinOp.gtr (AV.at r5 (ys_0.getD 0 default) 0) x2)) →
                    ((AV.binOk Go.BinOp.geq (AV.at r5 (ys_0.getD 0 default) 0) (AV.bin Go.BinOp.add x2 (AV.prj rN 0))) ∧
                    ((AV.isBool (AV.bin Go.BinOp.gtr (AV.at r5 (ys_0.getD 0 default) 0) x2)) ∧
                    ((isT (AV.bin Go.BinOp.gtr (AV.at r5 (ys_0.getD 0 default) 0) x2)) ∧
                    ((AV.isBool (AV.bin Go.BinOp.geq (AV.at r5 (ys_0.getD 0 default) 0) (AV.bin Go.BinOp.add x2 (AV.prj rN 0)))) ∧
                    (((isT (AV.bin Go.BinOp.geq (AV.at r5 (ys_0.getD 0 default) 0) (AV.bin Go.BinOp.add x2 (AV.prj rN 0)))) →
                      ((AV.isOne (AV.cel x1 2)) ∧
                      ((AV.inb (AV.prj rM 0) (ys_0.getD 0 default)) ∧
                      ((AV.inb (AV.prj rM 0) (ys_0.getD 0 default)) ∧
                      ((AV.eqPlOk [(0, (EK.int Go.IntKind.i64)), (1, (EK.int Go.IntKind.i64)), (2, (EK.int Go.IntKind.i64)), (3, (EK.int Go.IntKind.i64)), (4, (EK.int Go.IntKind.i64)), (5, (EK.int Go.IntKind.i64))] [(AV.cel (AV.atAgg (AV.prj rM 0) (ys_0.getD 0 default) 0 6) 0), (AV.cel (AV.atAgg (AV.prj rM 0) (ys_0.getD 0 default) 0 6) 1), (AV.cel (AV.atAgg (AV.prj rM 0) (ys_0.getD 0 default) 0 6) 2), (AV.cel (AV.atAgg (AV.prj rM 0) (ys_0.getD 0 default) 0 6) 3), (AV.cel (AV.atAgg (AV.prj rM 0) (ys_0.getD 0 default) 0 6) 4), (AV.cel (AV.atAgg (AV.prj rM 0) (ys_0.getD 0 default) 0 6) 5)] [(AV.cel (AV.prj r_1 0) 0), (AV.cel (AV.prj r_1 0) 1), (AV.cel (AV.prj r_1 0) 2), (AV.cel x1 2), (AV.cel (AV.prj r_1 0) 4), (AV.cel (AV.prj r_1 0) 5)]) ∧
                      ((AV.isAgg (AV.atAgg (AV.prj rM 0) (ys_0.getD 0 default) 0 6) 6) ∧
                      ((AV.isBool (AV.nePl [(0, (EK.int Go.IntKind.i64)), (1, (EK.int Go.IntKind.i64)), (2, (EK.int Go.IntKind.i64)), (3, (EK.int Go.IntKind.i64)), (4, (EK.int Go.IntKind.i64)), (5, (EK.int Go.IntKind.i64))] [(AV.cel (AV.atAgg (AV.prj rM 0) (ys_0.getD 0 default) 0 6) 0), (AV.cel (AV.atAgg (AV.prj rM 0) (ys_0.getD 0 default) 0 6) 1), (AV.cel (AV.atAgg (AV.prj rM 0) (ys_0.getD 0 default) 0 6) 2), (AV.cel (AV.atAgg (AV.prj rM 0) (ys_0.getD 0 default) 0 6) 3), (AV.cel (AV.atAgg (AV.prj rM 0) (ys_0.getD 0 default) 0 6) 4), (AV.cel (AV.atAgg (AV.prj rM 0) (ys_0.getD 0 default) 0 6) 5)] [(AV.cel (AV.prj r_1 0) 0), (AV.cel (AV.prj r_1 0) 1), (AV.cel (AV.prj r_1 0) 2), (AV.cel x1 2), (AV.cel (AV.prj r_1 0) 4), (AV.cel (AV.prj r_1 0) 5)])) ∧
                      ((isF (AV.nePl [(0, (EK.int Go.IntKind.i64)), (1, (EK.int Go.IntKind.i64)), (2, (EK.int Go.IntKind.i64)), (3, (EK.int Go.IntKind.i64)), (4, (EK.int Go.IntKind.i64)), (5, (EK.int Go.IntKind.i64))] [(AV.cel (AV.atAgg (AV.prj rM 0) (ys_0.getD 0 default) 0 6) 0), (AV.cel (AV.atAgg (AV.prj rM 0) (ys_0.getD 0 default) 0 6) 1), (AV.cel (AV.atAgg (AV.prj rM 0) (ys_0.getD 0 default) 0 6) 2), (AV.cel (AV.atAgg (AV.prj rM 0) (ys_0.getD 0 default) 0 6) 3), (AV.cel (AV.atAgg (AV.prj rM 0) (ys_0.getD 0 default) 0 6) 4), (AV.cel (AV.atAgg (AV.prj rM 0) (ys_0.getD 0 default) 0 6) 5)] [(AV.cel (AV.prj r_1 0) 0), (AV.cel (AV.prj r_1 0) 1), (AV.cel (AV.prj r_1 0) 2), (AV.cel x1 2), (AV.cel (AV.prj r_1 0) 4), (AV.cel (AV.prj r_1 0) 5)])) ∧
                      ((AV.binOk Go.BinOp.add (ys_0.getD 0 default) (AV.int 1)) ∧
                      (again_0 [(AV.bin Go.BinOp.add (ys_0.getD 0 default) (AV.int 1))])))))))))) ∧
                    ((isF (AV.bin Go.BinOp.geq (AV.at r5 (ys_0.getD 0 default) 0) (AV.bin Go.BinOp.add x2 (AV.prj rN 0)))) →
                      ((AV.binOk Go.BinOp.gtr (AV.at r5 (ys_0.getD 0 default) 0) x2) ∧
                      ((AV.isBool (AV.bin Go.BinOp.gtr (AV.at r5 (ys_0.getD 0 default) 0) x2)) ∧
                      ((isT (AV.bin Go.BinOp.gtr (AV.at r5 (ys_0.getD 0 default) 0) x2)) ∧
                      ((AV.isInt (AV.cel (AV.prj rA 0) 3)) ∧
                      ((AV.isInt (AV.cel x1 2)) ∧
                      (fLoop ib [(AV.mn (AV.cel (AV.prj rA 0) 3) (AV.cel x1 2))] fun ys_2 again_2 =>
                        ((AV.binOk Go.BinOp.add (ys_2.getD 0 default) (AV.int 1)) ∧
                        ((AV.binOk Go.BinOp.sub (AV.bin Go.BinOp.add (ys_2.getD 0 default) (AV.int 1)) (AV.cel (AV.prj rA 0) 3)) ∧
                        ((AV.binOk Go.BinOp.mul (AV.bin Go.BinOp.sub (AV.bin Go.BinOp.add (ys_2.getD 0 default) (AV.int 1)) (AV.cel (AV.prj rA 0) 3)) (AV.prj rN 0)) ∧
                        ((AV.binOk Go.BinOp.sub (AV.at r5 (ys_0.getD 0 default) 0) x2) ∧
                        ((AV.binOk Go.BinOp.mul (AV.bin Go.BinOp.sub (AV.cel x1 2) (AV.cel (AV.prj rA 0) 3)) (AV.bin Go.BinOp.sub (AV.at r5 (ys_0.getD 0 default) 0) x2)) ∧
                        ((AV.binOk Go.BinOp.leq (AV.bin Go.BinOp.mul (AV.bin Go.BinOp.sub (AV.bin Go.BinOp.add (ys_2.getD 0 default) (AV.int 1)) (AV.cel (AV.prj rA 0) 3)) (AV.prj rN 0)) (AV.bin Go.BinOp.mul (AV.bin Go.BinOp.sub (AV.cel x1 2) (AV.cel (AV.prj rA 0) 3)) (AV.bin Go.BinOp.sub (AV.at r5 (ys_0.getD 0 default) 0) x2))) ∧
                        ((AV.isBool (AV.bin Go.BinOp.leq (AV.bin Go.BinOp.mul (AV.bin Go.BinOp.sub (AV.bin Go.BinOp.add (ys_2.getD 0 default) (AV.int 1)) (AV.cel (AV.prj rA 0) 3)) (AV.prj rN 0)) (AV.bin Go.BinOp.mul (AV.bin Go.BinOp.sub (AV.cel x1 2) (AV.cel (AV.prj rA 0) 3)) (AV.bin Go.BinOp.sub (AV.at r5 (ys_0.getD 0 default) 0) x2)))) ∧
                        (((isT (AV.bin Go.BinOp.leq (AV.bin Go.BinOp.mul (AV.bin Go.BinOp.sub (AV.bin Go.BinOp.add (ys_2.getD 0 default) (AV.int 1)) (AV.cel (AV.prj rA 0) 3)) (AV.prj rN 0)) (AV.bin Go.BinOp.mul (AV.bin Go.BinOp.sub (AV.cel x1 2) (AV.cel (AV.prj rA 0) 3)) (AV.bin Go.BinOp.sub (AV.at r5 (ys_0.getD 0 default) 0) x2)))) →
                          ((AV.binOk Go.BinOp.add (ys_2.getD 0 default) (AV.int 1)) ∧
                          (again_2 [(AV.bin Go.BinOp.add (ys_2.getD 0 default) (AV.int 1))]))) ∧
                        ((isF (AV.bin Go.BinOp.leq (AV.bin Go.BinOp.mul (AV.bin Go.BinOp.sub (AV.bin Go.BinOp.add (ys_2.getD 0 default) (AV.int 1)) (AV.cel (AV.prj rA 0) 3)) (AV.prj rN 0)) (AV.bin Go.BinOp.mul (AV.bin Go.BinOp.sub (AV.cel x1 2) (AV.cel (AV.prj rA 0) 3)) (AV.bin Go.BinOp.sub (AV.at r5 (ys_0.getD 0 default) 0) x2)))) →
                          ((AV.isOne (ys_2.getD 0 default)) ∧
                          ((AV.inb (AV.prj rM 0) (ys_0.getD 0 default)) ∧
                          ((AV.inb (AV.prj rM 0) (ys_0.getD 0 default)) ∧
                          ((AV.eqPlOk [(0, (EK.int Go.IntKind.i64)), (1, (EK.int Go.IntKind.i64)), (2, (EK.int Go.IntKind.i64)), (3, (EK.int Go.IntKind.i64)), (4, (EK.int Go.IntKind.i64)), (5, (EK.int Go.IntKind.i64))] [(AV.cel (AV.atAgg (AV.prj rM 0) (ys_0.getD 0 default) 0 6) 0), (AV.cel (AV.atAgg (AV.prj rM 0) (ys_0.getD 0 default) 0 6) 1), (AV.cel (AV.atAgg (AV.prj rM 0) (ys_0.getD 0 default) 0 6) 2), (AV.cel (AV.atAgg (AV.prj rM 0) (ys_0.getD 0 default) 0 6) 3), (AV.cel (AV.atAgg (AV.prj rM 0) (ys_0.getD 0 default) 0 6) 4), (AV.cel (AV.atAgg (AV.prj rM 0) (ys_0.getD 0 default) 0 6) 5)] [(AV.cel (AV.prj r_1 0) 0), (AV.cel (AV.prj r_1 0) 1), (AV.cel (AV.prj r_1 0) 2), (ys_2.getD 0 default), (AV.cel (AV.prj r_1 0) 4), (AV.cel (AV.prj r_1 0) 5)]) ∧
                          ((AV.isAgg (AV.atAgg (AV.prj rM 0) (ys_0.getD 0 default) 0 6) 6) ∧
                          ((AV.isBool (AV.nePl [(0, (EK.int Go.IntKind.i64)), (1, (EK.int Go.IntKind.i64)), (2, (EK.int Go.IntKind.i64)), (3, (EK.int Go.IntKind.i64)), (4, (EK.int Go.IntKind.i64)), (5, (EK.int Go.IntKind.i64))] [(AV.cel (AV.atAgg (AV.prj rM 0) (ys_0.getD 0 default) 0 6) 0), (AV.cel (AV.atAgg (AV.prj rM 0) (ys_0.getD 0 default) 0 6) 1), (AV.cel (AV.atAgg (AV.prj rM 0) (ys_0.getD 0 default) 0 6) 2), (AV.cel (AV.atAgg (AV.prj rM 0) (ys_0.getD 0 default) 0 6) 3), (AV.cel (AV.atAgg (AV.prj rM 0) (ys_0.getD 0 default) 0 6) 4), (AV.cel (AV.atAgg (AV.prj rM 0) (ys_0.getD 0 default) 0 6) 5)] [(AV.cel (AV.prj r_1 0) 0), (AV.cel (AV.prj r_1 0) 1), (AV.cel (AV.prj r_1 0) 2), (ys_2.getD 0 default), (AV.cel (AV.prj r_1 0) 4), (AV.cel (AV.prj r_1 0) 5)])) ∧
                          ((isF (AV.nePl [(0, (EK.int Go.IntKind.i64)), (1, (EK.int Go.IntKind.i64)), (2, (EK.int Go.IntKind.i64)), (3, (EK.int Go.IntKind.i64)), (4, (EK.int Go.IntKind.i64)), (5, (EK.int Go.IntKind.i64))] [(AV.cel (AV.atAgg (AV.prj rM 0) (ys_0.getD 0 default) 0 6) 0), (AV.cel (AV.atAgg (AV.prj rM 0) (ys_0.getD 0 default) 0 6) 1), (AV.cel (AV.atAgg (AV.prj rM 0) (ys_0.getD 0 default) 0 6) 2), (AV.cel (AV.atAgg (AV.prj rM 0) (ys_0.getD 0 default) 0 6) 3), (AV.cel (AV.atAgg (AV.prj rM 0) (ys_0.getD 0 default) 0 6) 4), (AV.cel (AV.atAgg (AV.prj rM 0) (ys_0.getD 0 default) 0 6) 5)] [(AV.cel (AV.prj r_1 0) 0), (AV.cel (AV.prj r_1 0) 1), (AV.cel (AV.prj r_1 0) 2), (ys_2.getD 0 default), (AV.cel (AV.prj r_1 0) 4), (AV.cel (AV.prj r_1 0) 5)])) ∧
                          ((AV.binOk Go.BinOp.add (ys_0.getD 0 default) (AV.int 1)) ∧
                          (again_0 [(AV.bin Go.BinOp.add (ys_0.getD 0 default) (AV.int 1))]))))))))))))))))))))))))))))))) ∧
                  ((isF (AV.bin Go.BinOp.gtr (AV.at r5 (ys_0.getD 0 default) 0) x2)) →
                    ((AV.isBool (AV.bin Go.BinOp.gtr (AV.at r5 (ys_0.getD 0 default) 0) x2)) ∧
                    ((isF (AV.bin Go.BinOp.gtr (AV.at r5 (ys_0.getD 0 default) 0) x2)) ∧
                    ((AV.binOk Go.BinOp.gtr (AV.at r5 (ys_0.getD 0 default) 0) x2) ∧
                    ((AV.isBool (AV.bin Go.BinOp.gtr (AV.at r5 (ys_0.getD 0 default) 0) x2)) ∧
                    ((isF (AV.bin Go.BinOp.gtr (AV.at r5 (ys_0.getD 0 default) 0) x2)) ∧
                    ((AV.inb (AV.prj rM 0) (ys_0.getD 0 default)) ∧
                    ((AV.inb (AV.prj rM 0) (ys_0.getD 0 default)) ∧
                    ((AV.eqPlOk [(0, (EK.int Go.IntKind.i64)), (1, (EK.int Go.IntKind.i64)), (2, (EK.int Go.IntKind.i64)), (3, (EK.int Go.IntKind.i64)), (4, (EK.int Go.IntKind.i64)), (5, (EK.int Go.IntKind.i64))] [(AV.cel (AV.atAgg (AV.prj rM 0) (ys_0.getD 0 default) 0 6) 0), (AV.cel (AV.atAgg (AV.prj rM 0) (ys_0.getD 0 default) 0 6) 1), (AV.cel (AV.atAgg (AV.prj rM 0) (ys_0.getD 0 default) 0 6) 2), (AV.cel (AV.atAgg (AV.prj rM 0) (ys_0.getD 0 default) 0 6) 3), (AV.cel (AV.atAgg (AV.prj rM 0) (ys_0.getD 0 default) 0 6) 4), (AV.cel (AV.atAgg (AV.prj rM 0) (ys_0.getD 0 default) 0 6) 5)] [(AV.cel (AV.prj r_1 0) 0), (AV.cel (AV.prj r_1 0) 1), (AV.cel (AV.prj r_1 0) 2), (AV.cel (AV.prj r_1 0) 3), (AV.cel (AV.prj r_1 0) 4), (AV.cel (AV.prj r_1 0) 5)]) ∧
                    ((AV.isAgg (AV.atAgg (AV.prj rM 0) (ys_0.getD 0 default) 0 6) 6) ∧
                    ((AV.isBool (AV.nePl [(0, (EK.int Go.IntKind.i64)), (1, (EK.int Go.IntKind.i64)), (2, (EK.int Go.IntKind.i64)), (3, (EK.int Go.IntKind.i64)), (4, (EK.int Go.IntKind.i64)), (5, (EK.int Go.IntKind.i64))] [(AV.cel (AV.atAgg (AV.prj rM 0) (ys_0.getD 0 default) 0 6) 0), (AV.cel (AV.atAgg (AV.prj rM 0) (ys_0.getD 0 default) 0 6) 1), (AV.cel (AV.atAgg (AV.prj rM 0) (ys_0.getD 0 default) 0 6) 2), (AV.cel (AV.atAgg (AV.prj rM 0) (ys_0.getD 0 default) 0 6) 3), (AV.cel (AV.atAgg (AV.prj rM 0) (ys_0.getD 0 default) 0 6) 4), (AV.cel (AV.atAgg (AV.prj rM 0) (ys_0.getD 0 default) 0 6) 5)] [(AV.cel (AV.prj r_1 0) 0), (AV.cel (AV.prj r_1 0) 1), (AV.cel (AV.prj r_1 0) 2), (AV.cel (AV.prj r_1 0) 3), (AV.cel (AV.prj r_1 0) 4), (AV.cel (AV.prj r_1 0) 5)])) ∧
                    ((isF (AV.nePl [(0, (EK.int Go.IntKind.i64)), (1, (EK.int Go.IntKind.i64)), (2, (EK.int Go.IntKind.i64)), (3, (EK.int Go.IntKind.i64)), (4, (EK.int Go.IntKind.i64)), (5, (EK.int Go.IntKind.i64))] [(AV.cel (AV.atAgg (AV.prj rM 0) (ys_0.getD 0 default) 0 6) 0), (AV.cel (AV.atAgg (AV.prj rM 0) (ys_0.getD 0 default) 0 6) 1), (AV.cel (AV.atAgg (AV.prj rM 0) (ys_0.getD 0 default) 0 6) 2), (AV.cel (AV.atAgg (AV.prj rM 0) (ys_0.getD 0 default) 0 6) 3), (AV.cel (AV.atAgg (AV.prj rM 0) (ys_0.getD 0 default) 0 6) 4), (AV.cel (AV.atAgg (AV.prj rM 0) (ys_0.getD 0 default) 0 6) 5)] [(AV.cel (AV.prj r_1 0) 0), (AV.cel (AV.prj r_1 0) 1), (AV.cel (AV.prj r_1 0) 2), (AV.cel (AV.prj r_1 0) 3), (AV.cel (AV.prj r_1 0) 4), (AV.cel (AV.prj r_1 0) 5)])) ∧
                    ((AV.binOk Go.BinOp.add (ys_0.getD 0 default) (AV.int 1)) ∧
                    (again_0 [(AV.bin Go.BinOp.add (ys_0.getD 0 default) (AV.int 1))])))))))))))))))))))))))) ∧
                ((isF (AV.bin Go.BinOp.lss (ys_0.getD 0 default) (AV.len r5))) →
                  ((AV.flat (AV.bool true)) ∧
                  (fSame (AV.bool true) r))))))))))))))))))))) := by
  obtain ⟨hk, hnh1, hnh2, hv1, hv2, hn1, hn2⟩ := clN_bd hE2
  obtain ⟨o1, o2, o3⟩ := outT_spec (v := v) (k := k) hv hE hn1
  have hsrt := outT_sorted (v := v) (k := k) hv hE hn1
  rw [← hL] at hsrt
  obtain ⟨_, hfi, hla⟩ := tatE_ok hE
  obtain ⟨t1, t2, _⟩ := atN_okN hv hfi hla
  rw [hsrt] at hS
  have hexp : ∀ t, expN l a v (clN k (atN l a).h v) t = if a < t then hgt a (atN l a).h v (clN k (atN l a).h v) (atN l t) else atN l t := fun t => rfl
  generalize clN k (atN l a).h v = n at *
  generalize outT l v a k = O at *
  generalize hA : atN l a = A at *
  subst hx0 hx1 hx2 hrA hrN hrM hr
  refine ⟨_, hS, by simp, by simp, fun h => ?_, fun h => ?_⟩
  · have h : 64 < O.length := by simp at h; omega
    rw [if_pos h]
    simp
  have h64 : ¬ 64 < O.length := by simp at h; omega
  rw [if_neg h64]
  refine ⟨by simp, by simp, by simp, by simp, by simp, by simp, by simp, by simp, ?_⟩
  have hlm : (O.map (·.t)).length = O.length := by simp
  refine loop_list (σ := Unit) O (fun i _ => [.int (i : Nat)]) (fun _ _ _ => True) () rfl trivial ?_ ?_
  · rintro i x rest _ K hx hrest hi _ hK
    have hxm := List.mem_of_getElem? hx
    obtain ⟨e1, e2⟩ := o2 x hxm
    have hti : (O.map (·.t))[i]? = some x.t := by simp [hx]
    have hta := tat_fn l x.t
    have htv : tatV l x.t = .tup [nd (atN l x.t), .int 0] := by unfold tatV; rw [if_pos e1]
    rw [htv] at hta
    have hwi : wr ((i : Int) + 1) = (i : Int) + 1 := wr_id (by omega) (by omega)
    have hiO : (i : Int) < O.length := by omega
    rw [hexp] at e2
    generalize hB : atN l x.t = B at *
    have hBt : B.t = x.t := by rw [← hB]; exact atN_t _ _
    have hK' := hK [.int ((i : Int) + 1)] () (by simp) trivial
    clear hK hS hsrt hexp o1 o2 o3
    have hw1 : wr (a + n) = a + n := wr_id (by omega) (by omega)
    have hw2 : wr (v - A.h) = v - A.h := wr_id (by omega) (by omega)
    obtain ⟨xt, xx, xy, xh, xr, xb⟩ := x
    obtain ⟨bt, bx, b_, bh, br, bb⟩ := B
    simp only at hBt hti hta e2
    subst hBt
    have hex : ∀ z : Int, (⟨bt, bx, b_, z, br, bb⟩ : Nd) = ⟨bt, xx, xy, xh, xr, xb⟩ → bx = xx ∧ b_ = xy ∧ z = xh ∧ br = xr ∧ bb = xb := fun z q => by
      simp only [Nd.mk.injEq] at q
      exact ⟨q.2.1, q.2.2.1, q.2.2.2.1, q.2.2.2.2.1, q.2.2.2.2.2⟩
    have hai := lst_atAgg (s := 6) (enc := encN) (k := .i64) (j := 0) (m := 6) hx
    have hat := lst_at (s := 1) (enc := encI) (k := .i64) (j := 0) hti
    simp only [encN, List.drop_zero, List.take_succ_cons, List.take_zero, List.take_nil] at hai
    simp only [encI, List.getD_cons_zero] at hat
    have hlt : ((O.map (·.t)).length : Int) = O.length := by simp
    clear hx hB hfi hla hti htv e1 hxm
    refine ⟨by simp, by simp, fun _ => ⟨by simp; omega, by simp; omega, _, by rw [show AV.at (ints (O.map (·.t))) ([AV.int (i : Nat)].getD 0 default) 0 = .int bt from hat]; exact hta, by simp [encN], ?_⟩, fun h => absurd h (by simp; omega)⟩
    simp only [List.getD_cons_zero, hat, hai, av_prj, List.getD_cons_zero, List.getD_cons_succ, av_cel, encN, encL, av_add, av_subt, wr_eq, hw1, hw2, hwi, av_gtr, av_geq]
    by_cases g : a < bt
    · rw [if_pos g] at e2
      by_cases g2 : a + n ≤ bt
      · obtain ⟨rfl, rfl, rfl, rfl, rfl⟩ := hex v (by rw [e2]; simp [hgt, g2])
        refine ⟨by simp, by simp, by simp, fun _ => ⟨by simp, by simp, by simp [g], by simp, fun _ => ⟨by simp, by simp; omega, by simp; omega, eq6 _ _ _ _ _ _, by simp, ne6 _ _ _ _ _ _ ▸ rfl, ne6 _ _ _ _ _ _ ▸ rfl, by simp, hK'⟩, fun h => absurd h (by simp; omega)⟩, fun h => absurd h (by simp; omega)⟩
      · have hn0 : 0 < n := by omega
        obtain ⟨rfl, rfl, hh, rfl, rfl⟩ := hex (A.h + (v - A.h) * (bt - a) / n) (by rw [e2]; simp [hgt, g2])
        have hw3 : wr (bt - a) = bt - a := wr_id (by omega) (by omega)
        have m1 := mulb (p := v - A.h) (n := bt - a) (by omega) (by omega) (by omega) (by omega)
        have hw4 : wr ((v - A.h) * (bt - a)) = (v - A.h) * (bt - a) := wr_id (by omega) (by omega)
        obtain ⟨q1, q2⟩ := way (p := v - A.h) (n := bt - a) (d := n) hn0 (by omega) (by omega)
        have hst : (if v < A.h then v else A.h) - A.h ≤ (v - A.h) * (bt - a) / n := by
          split
          · exact (q2 (by omega)).1
          · have := (q1 (by omega)).1; omega
        have hub : A.h + (v - A.h) * (bt - a) / n ≤ 60000 := by
          rcases Int.le_total 0 (v - A.h) with g | g
          · have := (q1 g).2; omega
          · have := (q2 g).2; omega
        refine ⟨by simp, by simp, by simp, fun _ => ⟨by simp, by simp, by simp [g], by simp, fun h => absurd h (by simp; omega), fun _ => ⟨by simp, by simp, by simp [g], by simp, by simp, ?_⟩⟩, fun h => absurd h (by simp; omega)⟩
        refine up_loop ib A.h v n (bt - a) hn0 hst ?_
        rintro z K2 z1 z2 zy zn
        have z0 : 0 ≤ z := by
          split at z1 <;> omega
        have hw5 : wr (z + 1) = z + 1 := wr_id (by omega) (by omega)
        have hw6 : wr (z + 1 - A.h) = z + 1 - A.h := wr_id (by omega) (by omega)
        have m2 := mulb (p := z + 1 - A.h) (n := n) (by omega) (by omega) (by omega) (by omega)
        have hw7 : wr ((z + 1 - A.h) * n) = (z + 1 - A.h) * n := wr_id (by omega) (by omega)
        simp only [List.getD_cons_zero, av_add, av_subt, av_mul, wr_eq, hw2, hw3, hw4, hw5, hw6, hw7, av_leq]
        refine ⟨by simp, by simp, by simp, by simp, by simp, by simp, by simp, fun h => ⟨by simp, zy (by simpa using h)⟩, fun h => ?_⟩
        have hz := zn (by simpa using h)
        rw [hh] at hz
        subst hz
        exact ⟨by simp, by simp; omega, by simp; omega, eq6 _ _ _ _ _ _, by simp, ne6 _ _ _ _ _ _ ▸ rfl, ne6 _ _ _ _ _ _ ▸ rfl, by simp, hK'⟩
    · rw [if_neg g] at e2
      obtain ⟨rfl, rfl, rfl, rfl, rfl⟩ := hex bh e2.symm
      refine ⟨by simp, by simp, by simp, fun h => absurd h (by simp; omega), fun _ => ⟨by simp, by simp; omega, by simp, by simp, by simp; omega, by simp; omega, by simp; omega, eq6 _ _ _ _ _ _, by simp, ne6 _ _ _ _ _ _ ▸ rfl, ne6 _ _ _ _ _ _ ▸ rfl, by simp, hK'⟩⟩
  · rintro _ K _
    refine ⟨by simp, by simp, fun h => absurd h (by simp), fun _ => ⟨.lit _, rfl⟩⟩
end Go.Proofs.YtocgoabplafoeaaDoor
/- effects: the arguments of EffectDiffers. -/
namespace Go.Proofs.YtocgoabplafoeaaDoor
open Go.RowKit
set_option linter.unusedVariables false
set_option linter.unusedSimpArgs false
set_option maxRecDepth 100000
theorem of6 {α : Type} {l : List α} (h : l.length = 6) : ∃ a b c d e f, l = [a, b, c, d, e, f] := by
  match l, h with
  | [a, b, c, d, e, f], _ => exact ⟨a, b, c, d, e, f, rfl⟩
theorem arg_tube {x : AV} (h : ArgOk Tryd.prog 23 x) : ∃ l, x = tube l ∧ l.length ≤ maxLen := by
  obtain ⟨l, e, h1, _⟩ := c_lst (P := Tryd.prog) (encA := encN) (Q := fun _ => True) (tys := [3, 3, 3, 3, 3, 3]) (s := 6) (e := 34) (by kernel_rfl) (by kernel_rfl) (by kernel_rfl) (fun y hy hc => by
    obtain ⟨a, b, c, d, e, f, rfl⟩ := of6 hy
    obtain ⟨s1, e1, _⟩ := c_int (by kernel_rfl) (hc 0 3 rfl)
    obtain ⟨s2, e2, _⟩ := c_int (by kernel_rfl) (hc 1 3 rfl)
    obtain ⟨s3, e3, _⟩ := c_int (by kernel_rfl) (hc 2 3 rfl)
    obtain ⟨s4, e4, _⟩ := c_int (by kernel_rfl) (hc 3 3 rfl)
    obtain ⟨s5, e5, _⟩ := c_int (by kernel_rfl) (hc 4 3 rfl)
    obtain ⟨s6, e6, _⟩ := c_int (by kernel_rfl) (hc 5 3 rfl)
    simp at e1 e2 e3 e4 e5 e6
    exact ⟨⟨s1, s2, s3, s4, s5, s6⟩, by rw [e1, e2, e3, e4, e5, e6]; rfl, trivial⟩) (arg_cell (by kernel_rfl) h)
  exact ⟨l, e, h1⟩
theorem effectDiffers_all (xs : List AV) (h1 : xs.length = 2) (h2 : ∀ i, i < 2 → ArgOk Tryd.prog ([23, 23].getD i 0) (xs.getD i default))
    (h3 : ∀ i s L e, i < 2 → xs.getD i default = .sl s L → Tryd.prog.underlying ([23, 23].getD i 0) = some (.slice e) → L.length * Tryd.prog.bytesOf e ≤ reachBytes) : Fn Tryd.prog 3 xs .sc (.bool true) := by
  obtain ⟨a, b, rfl⟩ := lst2 h1
  obtain ⟨l, e1, _⟩ := arg_tube (h2 0 (by omega))
  obtain ⟨m, e2, _⟩ := arg_tube (h2 1 (by omega))
  simp at e1 e2
  subst e1 e2
  exact ldiffers_fn l m
end Go.Proofs.YtocgoabplafoeaaDoor
/- effects: the heights after a clearance to a height: the law. -/
namespace Go.Proofs.YtocgoabplafoeaaDoor
open Go.RowKit Go.Shelf
set_option linter.unusedVariables false
set_option linter.unusedSimpArgs false
set_option maxRecDepth 100000
theorem sortI_fn (l : List Int) (h0 : l ≠ []) (hl : l.length ≤ 1000000) : FnU Tryd.prog 13 3 1 (ints l) [] false (ints (l.mergeSort fun x y => decide (x ≤ y))) :=
  srtU Tryd.call13 (Value.int .i64) (fun _ => rfl) l _ h0 (List.length_mergeSort _) fun w G cap hH hG => Any.slices_Sort_int sortI G 0 cap l w hH hG (by omega)
theorem contains_fn (l : List Int) (e : Int) (hl : l.length ≤ 1000000) : Fn Tryd.prog 12 [ints l, .int e] .sc (.bool (decide (e ∈ l))) := by
  have q := EffH.contains_form (ints l) (.int e) (.bool (decide (e ∈ l)))
  have kk := fun h => fn_run mixed 3 (Γ := EffH.Γ) (ann := EffH.ann) Tryd.func12 rfl Tryd.call12 (q.mpr h)
  refine kk ?_
  clear kk q
  refine ⟨Tryd.call31, fun _ => ⟨by simp, ?_⟩⟩
  refine loop_list (σ := Unit) l (fun i _ => [.int (i : Nat)]) (fun i rest _ => (e ∈ l ↔ e ∈ rest)) () rfl Iff.rfl ?_ ?_
  · rintro i x rest _ K hx hrest hi hG hK
    have hwi : wr ((i : Int) + 1) = (i : Int) + 1 := wr_id (by omega) (by omega)
    have hil : (i : Int) < l.length := by omega
    simp [hil, lst_at hx, encI, hwi]
    refine ⟨fun h => ?_, fun h => hK _ () (by simp) ?_⟩
    · exact hG.2 (by simp [h])
    · rw [hG]; simp [h]
  · rintro _ K hG
    simp [hG]
theorem lclimbs_fn (l : List Nd) (c : Cl) (a : Int) (k : Kd) : Fn Tryd.prog 4 [tube l, cl c, .int a, kd k] .sc (.bool true) := by
  have q := EffH.lclimbs_form (tube l) (cl c) (.int a) (kd k) (.bool true)
  have kk := fun h => fn_run mixed 3 (Γ := EffH.Γ) (ann := EffH.ann) Tryd.func4 rfl Tryd.call4 (q.mpr h)
  refine kk ?_
  clear kk q
  refine ⟨by simp [encL], by simp [encKd], _, efact_fn, by simp, by simp, by simp, by simp [encL], by simp [encL], fun _ => ⟨.lit _, rfl⟩, fun h => ?_⟩
  have hc : c.k = 0 := by simpa [encL] using h
  obtain ⟨cc, ck, v, cf⟩ := c
  simp only at hc
  subst hc
  have hof := of_fn l ⟨cc, 0, v, cf⟩ a k ⟨0, 0⟩ rfl
  refine ⟨_, hof, _, eerr_fn l ⟨cc, 0, v, cf⟩ a k ⟨0, 0⟩, by simp, by simp, fun h => ?_, fun h => ?_⟩
  · have hE0 : ofE l ⟨cc, 0, v, cf⟩ a k ⟨0, 0⟩ = 0 := by simpa using h
    have hE : tatE l a = 0 ∧ kE k = 0 := by
      unfold ofE at hE0
      split at hE0
      · rename_i g; exact absurd hE0 g
      · split at hE0
        · rename_i g; exact absurd hE0 g
        · split at hE0
          · rename_i g; exact absurd hE0 g
          · rename_i g2
            split at hE0
            · rename_i g; exact absurd hE0 g
            · exact ⟨hE0, by simpa using g2⟩
    obtain ⟨hE, hk⟩ := hE
    obtain ⟨hv, hfi, hla⟩ := tatE_ok hE
    have hta := tat_fn l a
    have htv : tatV l a = .tup [nd (atN l a), .int 0] := by unfold tatV; rw [if_pos hE]
    rw [htv] at hta
    refine ⟨_, hta, by simp [encN], _, climb_fn k (atN l a).h v, ?_⟩
    have hM : ofV l ⟨cc, 0, v, cf⟩ a k ⟨0, 0⟩ = if clE2 k (atN l a).h v ≠ 0 then .tup [.sl 6 [], .int (clE2 k (atN l a).h v)] else if 64 < (outT l v a k).length then .tup [.sl 6 [], .int 2] else .tup [tube (outT l v a k), .int 0] := by
      unfold ofV
      rw [if_neg (by simp [hE0])]
    by_cases hE2 : clE2 k (atN l a).h v = 0
    · have hVc : clV k (atN l a).h v = .tup [.int (clN k (atN l a).h v), .int 0] := by unfold clV; rw [if_pos hE2]
      rw [if_neg (by simp [hE2])] at hM
      rw [hVc]
      obtain ⟨_, _, _, _, _, hn1, hn2⟩ := clN_bd hE2
      refine ⟨by simp, by simp, fun h => absurd h (by simp), fun _ => ⟨by simp, by simp, ?_⟩⟩
      obtain ⟨x, y, hx, hy, hxd, hyd, x1, x2, y1, y2, la, la2⟩ := ends_of hv
      obtain ⟨t1, t2, _⟩ := atN_okN hv hfi hla
      refine loop_list (σ := List Int) l (fun i s => [.int (i : Nat), ints s]) (fun i _ s => s = ((l.take i).filter fun n => decide (n.t ≠ a)).map (·.t)) [] rfl rfl ?_ ?_
      · rintro i z rest s K hz hrest hi hG hK
        have hwi : wr ((i : Int) + 1) = (i : Int) + 1 := wr_id (by omega) (by omega)
        have hil : (i : Int) < l.length := by omega
        have e1 : l.take (i + 1) = l.take i ++ [z] := by rw [List.take_add_one, hz]; rfl
        have hsl : s.length ≤ 64 := by
          rw [hG, List.length_map]
          refine Nat.le_trans (List.length_filter_le _ _) ?_
          rw [List.length_take]; omega
        have hr : AV.room (ints s) (.sl 1 [[.int z.t]]) 8 := by
          unfold AV.room
          simp only [lst_els, List.length_map, av_els, List.length_cons, List.length_nil]
          omega
        have ha1 := int_snoc s z.t
        have hK1 : z.t ≠ a → K [.int ((i : Int) + 1), ints (s ++ [z.t])] := fun g => hK _ (s ++ [z.t]) (by simp) (by rw [e1, hG]; simp [g])
        have hK0 : z.t = a → K [.int ((i : Int) + 1), ints s] := fun g => hK _ s (by simp) (by rw [e1, hG]; simp [g])
        clear hK hG
        obtain ⟨zt, zx, zy, zh, zr, zb⟩ := z
        simp only at hr ha1 hK1 hK0
        have hai := lst_atAgg (s := 6) (enc := encN) (k := .i64) (j := 0) (m := 6) hz
        simp only [encN, List.drop_zero, List.take_succ_cons, List.take_zero, List.take_nil] at hai
        simp only [List.getD_cons_zero, List.getD_cons_succ, hai, av_cel, av_mk, ha1, av_add, wr_eq, hwi]
        refine ⟨by simp, by simp, fun _ => ⟨by simp, by simp; omega, by simp, by simp, by simp, fun g => ⟨by simp, hr, by simp, hK1 (by simpa using g)⟩, fun g => ⟨by simp, hK0 (by simpa using g)⟩⟩, fun g => absurd g (by simp; omega)⟩
      · rintro s K hG
        rw [List.take_length] at hG
        have hsl : s.length ≤ 64 := by
          rw [hG, List.length_map]
          exact Nat.le_trans (List.length_filter_le _ _) la2
        have hr : AV.room (ints s) (.sl 1 [[.int a]]) 8 := by
          unfold AV.room
          simp only [lst_els, List.length_map, av_els, List.length_cons, List.length_nil]
          omega
        have ha1 : AV.app 1 (ints s) (.sl 1 [[.int a]]) = ints (TL l a) := by rw [int_snoc, hG]; rfl
        have hTl : (TL l a).length ≤ 65 := by
          unfold TL
          rw [List.length_append, ← hG]
          simp; omega
        have hw1 : wr (a + clN k (atN l a).h v) = a + clN k (atN l a).h v := wr_id (by omega) (by omega)
        have hw2 : wr ((l.length : Int) - 1) = ((l.length - 1 : Nat) : Int) := by rw [wr_id (by omega) (by omega)]; omega
        have hr2 : AV.room (ints (TL l a)) (.sl 1 [[.int (a + clN k (atN l a).h v)]]) 8 := by
          unfold AV.room
          simp only [lst_els, List.length_map, av_els, List.length_cons, List.length_nil]
          omega
        have ha2 := int_snoc (TL l a) (a + clN k (atN l a).h v)
        have hcn := contains_fn (TL l a) (a + clN k (atN l a).h v) (by omega)
        have hTn : TL l a ≠ [] := by unfold TL; simp
        have hal : ((l.length - 1 : Nat) : Int) < l.length := by omega
        have hyy := lst_at (s := 6) (enc := encN) (k := .i64) (j := 0) hy
        simp only [encN, List.getD_cons_zero] at hyy
        have hti : timesT l a (a + clN k (atN l a).h v) = if a + clN k (atN l a).h v < y.t ∧ a + clN k (atN l a).h v ∉ TL l a then TL l a ++ [a + clN k (atN l a).h v] else TL l a := by unfold timesT; rw [hyd]
        have htail := fun L ia ib hL hS => ltail (tube l) (cl ⟨cc, 0, v, cf⟩) (.int a) (ofV l ⟨cc, 0, v, cf⟩ a k ⟨0, 0⟩) (.tup [nd (atN l a), .int 0]) (.tup [.int (clN k (atN l a).h v), .int 0]) (.bool true) l cc cf v a k L ia ib rfl rfl rfl rfl rfl hM rfl hv hE hE2 hL hS
        clear hof hM hta htv
        have hb1 : AV.bin .add (.int a) (AV.prj (.tup [.int (clN k (atN l a).h v), .int 0]) 0) = .int (a + clN k (atN l a).h v) := by simp [hw1]
        have ha1' : AV.app 1 (ints s) (AV.mk 1 [[.int a]]) = ints (TL l a) := ha1
        have ha2' : AV.app 1 (ints (TL l a)) (AV.mk 1 [[AV.bin .add (.int a) (AV.prj (.tup [.int (clN k (atN l a).h v), .int 0]) 0)]]) = ints (TL l a ++ [a + clN k (atN l a).h v]) := by rw [hb1]; exact ha2
        have hr2' : AV.room (ints (TL l a)) (AV.mk 1 [[AV.bin .add (.int a) (AV.prj (.tup [.int (clN k (atN l a).h v), .int 0]) 0)]]) 8 := by rw [hb1]; exact hr2
        have hcn' : Fn Tryd.prog 12 [ints (TL l a), AV.bin .add (.int a) (AV.prj (.tup [.int (clN k (atN l a).h v), .int 0]) 0)] .sc (.bool (decide (a + clN k (atN l a).h v ∈ TL l a))) := by rw [hb1]; exact hcn
        have e2 : [AV.int (l.length : Nat), ints s].getD 1 default = ints s := rfl
        rw [e2, ha1']
        refine ⟨by simp, by simp, fun h => absurd h (by simp), fun _ => ⟨by simp, hr, by simp, by simp, by simp, by simp [hw2]; omega, by simp [hw1, hw2, hyy], by simp [hw1, hw2, hyy], fun g => ?_, fun g => ?_⟩⟩
        · have g1 : a + clN k (atN l a).h v < y.t := by simpa [hw1, hw2, hyy] using g
          refine ⟨_, hcn', by simp, by simp [hw1, hw2, hyy], g, by simp, fun g2 => ?_, fun g2 => ?_⟩
          · have g2 : a + clN k (atN l a).h v ∉ TL l a := by simpa using g2
            rw [ha2']
            refine ⟨by simp [hw1], hr2', ?_⟩
            exact htail _ _ _ (by rw [hti, if_pos ⟨g1, g2⟩]) (sortI_fn _ (by simp) (by simp; omega))
          · have g2 : a + clN k (atN l a).h v ∈ TL l a := by simpa using g2
            exact htail _ _ _ (by rw [hti, if_neg fun q => q.2 g2]) (sortI_fn _ hTn (by omega))
        · have g1 : ¬ a + clN k (atN l a).h v < y.t := by simp [hw1, hw2, hyy] at g; omega
          refine ⟨by simp [hw1, hw2, hyy], g, ?_⟩
          exact htail _ _ _ (by rw [hti, if_neg fun q => g1 q.1]) (sortI_fn _ hTn (by omega))
    · have hVc : clV k (atN l a).h v = .tup [.int 0, .int (clE2 k (atN l a).h v)] := by unfold clV; rw [if_neg hE2]
      rw [if_pos hE2] at hM
      rw [hVc, hM]
      refine ⟨by simp, by simp, fun _ => by simp, fun h => absurd h (by simp [hE2])⟩
  · have hE0 : ofE l ⟨cc, 0, v, cf⟩ a k ⟨0, 0⟩ ≠ 0 := by simpa using h
    have hM : ofV l ⟨cc, 0, v, cf⟩ a k ⟨0, 0⟩ = .tup [.sl 6 [], .int (ofE l ⟨cc, 0, v, cf⟩ a k ⟨0, 0⟩)] := by unfold ofV; rw [if_pos hE0]
    rw [hM]
    simp [hE0]
end Go.Proofs.YtocgoabplafoeaaDoor
/- effects: the arguments of EffectClimbs. -/
namespace Go.Proofs.YtocgoabplafoeaaDoor
open Go.RowKit
set_option linter.unusedVariables false
set_option linter.unusedSimpArgs false
set_option maxRecDepth 100000
theorem of4 {α : Type} {l : List α} (h : l.length = 4) : ∃ a b c d, l = [a, b, c, d] := by
  match l, h with
  | [a, b, c, d], _ => exact ⟨a, b, c, d, rfl⟩
theorem of7 {α : Type} {l : List α} (h : l.length = 7) : ∃ a b c d e f g, l = [a, b, c, d, e, f, g] := by
  match l, h with
  | [a, b, c, d, e, f, g], _ => exact ⟨a, b, c, d, e, f, g, rfl⟩
theorem arg_cl {x : AV} (h : ArgOk Tryd.prog 39 x) : ∃ c, x = cl c := by
  obtain ⟨cs, rfl, hl, hc⟩ := arg_agg (P := Tryd.prog) (t := 39) (tys := [9, 3, 3, 9]) (by kernel_rfl) (by kernel_rfl) h
  obtain ⟨a, b, c, d, rfl⟩ := of4 hl
  obtain ⟨s1, e1, _⟩ := c_str (by kernel_rfl) (hc 0 9 rfl)
  obtain ⟨s2, e2, _⟩ := c_int (by kernel_rfl) (hc 1 3 rfl)
  obtain ⟨s3, e3, _⟩ := c_int (by kernel_rfl) (hc 2 3 rfl)
  obtain ⟨s4, e4, _⟩ := c_str (by kernel_rfl) (hc 3 9 rfl)
  simp at e1 e2 e3 e4
  exact ⟨⟨s1, s2, s3, s4⟩, by rw [e1, e2, e3, e4]; rfl⟩
theorem arg_kd {x : AV} (h : ArgOk Tryd.prog 41 x) : ∃ k, x = kd k := by
  obtain ⟨cs, rfl, hl, hc⟩ := arg_agg (P := Tryd.prog) (t := 41) (tys := [9, 3, 3, 3, 3, 3, 3]) (by kernel_rfl) (by kernel_rfl) h
  obtain ⟨a, b, c, d, e, f, g, rfl⟩ := of7 hl
  obtain ⟨s1, e1, _⟩ := c_str (by kernel_rfl) (hc 0 9 rfl)
  obtain ⟨s2, e2, _⟩ := c_int (by kernel_rfl) (hc 1 3 rfl)
  obtain ⟨s3, e3, _⟩ := c_int (by kernel_rfl) (hc 2 3 rfl)
  obtain ⟨s4, e4, _⟩ := c_int (by kernel_rfl) (hc 3 3 rfl)
  obtain ⟨s5, e5, _⟩ := c_int (by kernel_rfl) (hc 4 3 rfl)
  obtain ⟨s6, e6, _⟩ := c_int (by kernel_rfl) (hc 5 3 rfl)
  obtain ⟨s7, e7, _⟩ := c_int (by kernel_rfl) (hc 6 3 rfl)
  simp at e1 e2 e3 e4 e5 e6 e7
  exact ⟨⟨s1, s2, s3, s4, s5, s6, s7⟩, by rw [e1, e2, e3, e4, e5, e6, e7]; rfl⟩
theorem arg_intT {x : AV} (h : ArgOk Tryd.prog 3 x) : ∃ n, x = .int n ∧ I64 n := c_int (by kernel_rfl) (arg_cell (by kernel_rfl) h)
theorem effectClimbs_all (xs : List AV) (h1 : xs.length = 4) (h2 : ∀ i, i < 4 → ArgOk Tryd.prog ([23, 39, 3, 41].getD i 0) (xs.getD i default))
    (h3 : ∀ i s L e, i < 4 → xs.getD i default = .sl s L → Tryd.prog.underlying ([23, 39, 3, 41].getD i 0) = some (.slice e) → L.length * Tryd.prog.bytesOf e ≤ reachBytes) : Fn Tryd.prog 4 xs .sc (.bool true) := by
  obtain ⟨a, b, c, d, rfl⟩ := of4 h1
  obtain ⟨l, e1, _⟩ := arg_tube (h2 0 (by omega))
  obtain ⟨m, e2⟩ := arg_cl (h2 1 (by omega))
  obtain ⟨n, e3, _⟩ := arg_intT (h2 2 (by omega))
  obtain ⟨k, e4⟩ := arg_kd (h2 3 (by omega))
  simp at e1 e2 e3 e4
  subst e1 e2 e3 e4
  exact lclimbs_fn l m n k
end Go.Proofs.YtocgoabplafoeaaDoor
