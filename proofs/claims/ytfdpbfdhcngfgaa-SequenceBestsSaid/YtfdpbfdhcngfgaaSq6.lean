/- sequences: landing times. -/
import Derived.Test.YtfdpbfdhcngfgaaSq4
namespace Go.Proofs.Ytfdpbfdhcngfgaa
open Go.RowKit
set_option linter.unusedVariables false
set_option linter.unusedSimpArgs false
set_option maxRecDepth 100000
theorem tab_ok0 {T : Nat → Int} (h : tabErr T = 0) : (∀ n, n < 16 → okAt T n) ∧ ∀ i, i < 64 → triAt T i := by
  unfold tabErr at h
  split at h
  · rename_i h1
    split at h
    · rename_i h2; exact ⟨h1, h2⟩
    · cases h
  · cases h
def wn (l : List Ar) (i : Nat) : Nat := (arA l i).w.toNat
def gp (l : List Ar) (T : Nat → Int) (j i : Nat) : Int := T (4 * wn l j + wn l i)
theorem GoodA.wn {l : List Ar} (g : GoodA l) {i : Nat} (h : i < l.length) : wn l i < 4 ∧ (arA l i).w = (wn l i : Nat) := by
  have := g.at h
  unfold Go.Proofs.Ytfdpbfdhcngfgaa.wn; omega
theorem gp_bd {l : List Ar} (g : GoodA l) {T : Nat → Int} (hT : tabErr T = 0) {j i : Nat} (hj : j < l.length) (hi : i < l.length) : 30 ≤ gp l T j i ∧ gp l T j i ≤ 600 := by
  have h1 := (g.wn hj).1
  have h2 := (g.wn hi).1
  exact (tab_ok0 hT).1 _ (by omega)
theorem gp_tri {l : List Ar} (g : GoodA l) {T : Nat → Int} (hT : tabErr T = 0) {j k i : Nat} (hj : j < l.length) (hk : k < l.length) (hi : i < l.length) : gp l T j i ≤ gp l T j k + gp l T k i := by
  have h1 := (g.wn hj).1
  have h2 := (g.wn hi).1
  have h3 := (g.wn hk).1
  have h := (tab_ok0 hT).2 (16 * wn l j + 4 * wn l k + wn l i) (by omega)
  unfold triAt at h
  rwa [show (16 * wn l j + 4 * wn l k + wn l i) / 16 = wn l j by omega, show (16 * wn l j + 4 * wn l k + wn l i) / 4 % 4 = wn l k by omega, show (16 * wn l j + 4 * wn l k + wn l i) % 4 = wn l i by omega] at h
/-- The landing time behind these. -/
def nx (l : List Ar) (T : Nat → Int) (zs : List (Nat × Int)) (i : Nat) : Int := match zs.getLast? with
  | none => (arA l i).t
  | some z => if z.2 + gp l T z.1 i > (arA l i).t then z.2 + gp l T z.1 i else (arA l i).t
def zl (l : List Ar) (T : Nat → Int) : List (Nat × Int) → List Nat → List (Nat × Int)
  | zs, [] => zs
  | zs, i :: r => zl l T (zs ++ [(i, nx l T zs i)]) r
def fitz (l : List Ar) (zs : List (Nat × Int)) : Bool := zs.all fun z => decide (z.2 ≤ (arA l z.1).u)
theorem fitz_snoc (l : List Ar) (zs : List (Nat × Int)) (z : Nat × Int) : fitz l (zs ++ [z]) = (fitz l zs && decide (z.2 ≤ (arA l z.1).u)) := by
  simp [fitz]
theorem zl_unfit (l : List Ar) (T : Nat → Int) : ∀ (r : List Nat) (zs : List (Nat × Int)), fitz l zs = false → fitz l (zl l T zs r) = false
  | [], zs, h => h
  | i :: r, zs, h => by
    rw [zl]
    exact zl_unfit l T r _ (by rw [fitz_snoc, h]; rfl)
def tms (zs : List (Nat × Int)) : List Int := zs.map (·.2)
theorem tms_snoc (zs : List (Nat × Int)) (z : Nat × Int) : tms (zs ++ [z]) = tms zs ++ [z.2] := by simp [tms]
theorem ints_snoc (o : List Int) (x : Int) : AV.app 1 (ints o) (.sl 1 [[.lit (.int .i64 x)]]) = ints (o ++ [x]) := by
  simp [lst, AV.app, AV.els, encI]
theorem last_of {zs : List (Nat × Int)} {o : List Nat} {n : Nat} (h : zs.map (·.1) = o.take n) (hn : n ≤ o.length) (h0 : 0 < n) : ∃ z, zs.getLast? = some z ∧ o[n - 1]? = some z.1 ∧ (tms zs)[n - 1]? = some z.2 ∧ z ∈ zs := by
  have hl : zs.length = n := by have := congrArg List.length h; rw [List.length_map, List.length_take] at this; omega
  have h1 : n - 1 < zs.length := by omega
  refine ⟨zs[n - 1], ?_, ?_, ?_, List.getElem_mem _⟩
  · rw [List.getLast?_eq_getElem?, hl, List.getElem?_eq_getElem h1]
  · have : (zs.map (·.1))[n - 1]? = (o.take n)[n - 1]? := by rw [h]
    rw [List.getElem?_map, List.getElem?_eq_getElem h1, List.getElem?_take, if_pos (by omega)] at this
    exact this.symm
  · unfold tms; rw [List.getElem?_map, List.getElem?_eq_getElem h1]; rfl
def tmV (l : List Ar) (T : Nat → Int) (o : List Nat) : AV := if fitz l (zl l T [] o) = true then .tup [ints (tms (zl l T [] o)), .bool true] else .tup [.sl 1 [], .bool false]
theorem nx_bd {l : List Ar} (g : GoodA l) {T : Nat → Int} (hT : tabErr T = 0) {zs : List (Nat × Int)} {i : Nat} {B : Int} (hi : i < l.length) (hB : 200000 ≤ B) (hz : ∀ z ∈ zs, z.1 < l.length ∧ 0 ≤ z.2 ∧ z.2 ≤ B) : 0 ≤ nx l T zs i ∧ nx l T zs i ≤ B + 600 := by
  have h1 := g.at hi
  unfold nx
  split
  · omega
  · rename_i z hz'
    have hm := List.mem_of_getLast? hz'
    have h2 := hz z hm
    have h3 := gp_bd g hT h2.1 hi
    split <;> omega
theorem times1_fn {l : List Ar} (g : GoodA l) {T : Nat → Int} (hT : tabErr T = 0) {o : List Nat} (ho : ∀ i ∈ o, i < l.length) (hlo : o.length ≤ 1000) : Fn Try.prog 26 [ars l, nts o, tabA T] (.tup [.row 3 1 true, .sc]) (tmV l T o) := by
  refine fn_run mixed 3 (Γ := SqF.Γ) (ann := SqF.ann) Try.func26 rfl Try.call26 ((SqF.times1_form _ _ _ _).mpr ?_)
  simp only [cels]
  refine ⟨⟨_, rfl, rfl⟩, by simp, ?_⟩
  refine loop_list (σ := List (Nat × Int)) o (fun n zs => [.int (n : Nat), ints (tms zs)]) (fun n rest zs => zs.map (·.1) = o.take n ∧ fitz l zs = true ∧ zl l T [] o = zl l T zs rest ∧ ∀ z ∈ zs, z.1 < l.length ∧ 0 ≤ z.2 ∧ z.2 ≤ 200000) [] (by simp [tms, lst]) ⟨rfl, rfl, rfl, by simp⟩ ?_ ?_
  · rintro n i rest zs K hx hr hn ⟨hm, hf, hz, hb⟩ hK
    have hi : i < l.length := ho i (List.mem_of_getElem? hx)
    have hb' := nx_bd g hT hi (B := 200000) (by omega) hb
    rw [zl] at hz
    have hg := g.at hi
    have k1 : nx l T zs i > (arA l i).u → AV.tup [.sl 1 [], .bool false] = tmV l T o := fun q => by
      unfold tmV
      rw [hz, zl_unfit l T rest _ (by rw [fitz_snoc, hf]; simp; omega)]; rfl
    have k2 : nx l T zs i ≤ (arA l i).u → K [.int ((n : Nat) + 1), ints (tms zs ++ [nx l T zs i])] := fun q =>
      hK _ (zs ++ [(i, nx l T zs i)]) (by simp [tms_snoc]) ⟨by rw [List.map_append, hm, take_snoc hx]; rfl, by rw [fitz_snoc, hf]; simpa using q, hz, fun z hz' => by
        rcases List.mem_append.1 hz' with h | h
        · exact hb z h
        · rw [List.mem_singleton] at h
          subst h
          exact ⟨hi, by simp only; omega, by simp only; omega⟩⟩
    clear hK hz
    have hw : IntKind.i64.wrap ((n : Int) + 1) = (n : Int) + 1 := wrap64 (by omega) (by omega)
    have a1 : AV.at (nts o) (.lit (.int .i64 (n : Nat))) 0 = .int (i : Nat) := nts_at hx
    have a2 : AV.at (ars l) (.lit (.int .i64 (i : Nat))) 1 = .int (wn l i : Nat) := by rw [lst_at (arA_at hi), ← (g.wn hi).2]; rfl
    have a3 : AV.at (ars l) (.lit (.int .i64 (i : Nat))) 2 = .int (arA l i).t := by rw [lst_at (arA_at hi)]; rfl
    have a4 : AV.at (ars l) (.lit (.int .i64 (i : Nat))) 3 = .int (arA l i).u := by rw [lst_at (arA_at hi)]; rfl
    have hzl : (tms zs).length = n := by have := congrArg List.length hm; rw [List.length_map, List.length_take] at this; unfold tms; rw [List.length_map]; omega
    have hroom : ∀ q : List (List AV), q.length = 1 → AV.room (ints (tms zs)) (.sl 1 q) 8 := fun q hq => by unfold AV.room; rw [lst_els]; simp [AV.els, hq, hzl]; omega
    simp only [List.getD_cons_zero, List.getD_cons_succ, a1, a2, a3, a4]
    by_cases h0 : n = 0
    · subst h0
      have hz0 : zs = [] := by simpa using hm
      have hnx : nx l T zs i = (arA l i).t := by rw [hz0]; rfl
      rw [hnx] at k1 k2
      simp [hn, hi, ints_snoc]
      refine ⟨fun q => ?_, fun q => ⟨hroom _ rfl, ?_⟩⟩
      · omega
      · have hw10 : IntKind.i64.wrap 1 = 1 := wrap64 (by omega) (by omega)
        rw [hw10]
        simpa using k2 (by omega)
    · obtain ⟨z, z1, z2, z3, z4⟩ := last_of hm (by omega) (by omega)
      obtain ⟨j, a⟩ := z
      simp only at z2 z3
      obtain ⟨hj, ha0, ha1⟩ := hb _ z4
      simp only at hj ha0 ha1
      have hgp := gp_bd g hT hj hi
      have hnx : nx l T zs i = if a + gp l T j i > (arA l i).t then a + gp l T j i else (arA l i).t := by unfold nx; rw [z1]
      have hw1 : IntKind.i64.wrap ((n : Int) - 1) = ((n - 1 : Nat) : Int) := by rw [wrap64 (by omega) (by omega)]; omega
      have b1 : AV.at (nts o) (.lit (.int .i64 ((n - 1 : Nat) : Int))) 0 = .int (j : Nat) := nts_at z2
      have b2 : AV.at (ars l) (.lit (.int .i64 (j : Nat))) 1 = .int (wn l j : Nat) := by rw [lst_at (arA_at hj), ← (g.wn hj).2]; rfl
      have b3 : AV.at (ints (tms zs)) (.lit (.int .i64 ((n - 1 : Nat) : Int))) 0 = .int a := by rw [lst_at z3]; rfl
      have c1 := tab_nth16 T (k := .i64) (k' := .i64) (g.wn hj).1 (g.wn hi).1
      have c2 := tab_ok (k := .i64) (k' := .i64) (g.wn hj).1 (g.wn hi).1
      have c3 : AV.inl 4 (.int (wn l j : Nat)) := inl_nat (g.wn hj).1
      have c4 : AV.inl 4 (.int (wn l i : Nat)) := inl_nat (g.wn hi).1
      rw [show T (4 * wn l j + wn l i) = gp l T j i from rfl] at c1
      have hw2 : IntKind.i64.wrap (a + gp l T j i) = a + gp l T j i := wrap64 (by omega) (by omega)
      rw [hnx] at k1 k2
      generalize hN : n - 1 = n1 at *
      have hn1 : n1 < n := by omega
      clear hb hb' hnx hx a1 hN hr
      simp [hw1, b1, b2, b3, hn, hi, hj, ints_snoc, c1, c2, c3, c4, hw2, hw, hzl, hn1, show n1 < o.length by omega, show ¬ n = 0 from h0, show 0 < n by omega]
      exact ⟨k1, fun q => ⟨hroom _ rfl, k2 q⟩⟩
  · rintro zs K ⟨hm, hf, hz, hb⟩
    rw [zl] at hz
    have hV : tmV l T o = .tup [ints (tms zs), .bool true] := by unfold tmV; rw [hz, if_pos hf]
    rw [hV]
    have := flat_ints (tms zs)
    simp
    simpa [AV.flatS] using this
/-! ### Landings: from all earlier ones -/
def mxG (l : List Ar) (T : Nat → Int) (i : Nat) : List (Nat × Int) → Int → Int
  | [], m => m
  | z :: r, m => mxG l T i r (if z.2 + gp l T z.1 i > m then z.2 + gp l T z.1 i else m)
theorem mxG_ge (l : List Ar) (T : Nat → Int) (i : Nat) : ∀ (zs : List (Nat × Int)) (m : Int), m ≤ mxG l T i zs m ∧ ∀ z ∈ zs, z.2 + gp l T z.1 i ≤ mxG l T i zs m
  | [], m => ⟨Int.le_refl _, by simp⟩
  | z :: r, m => by
    rw [mxG]
    obtain ⟨M, hM⟩ : ∃ M, M = if z.2 + gp l T z.1 i > m then z.2 + gp l T z.1 i else m := ⟨_, rfl⟩
    rw [← hM]
    have hq : m ≤ M ∧ z.2 + gp l T z.1 i ≤ M := by rw [hM]; split <;> omega
    obtain ⟨h1, h2⟩ := mxG_ge l T i r M
    refine ⟨by omega, fun y hy => ?_⟩
    rcases List.mem_cons.1 hy with rfl | hy
    · omega
    · exact h2 y hy
theorem mxG_le (l : List Ar) (T : Nat → Int) (i : Nat) : ∀ (zs : List (Nat × Int)) (m B : Int), m ≤ B → (∀ z ∈ zs, z.2 + gp l T z.1 i ≤ B) → mxG l T i zs m ≤ B
  | [], m, B, h, _ => h
  | z :: r, m, B, h, h' => by
    rw [mxG]
    refine mxG_le l T i r _ B ?_ fun y hy => h' y (by simp [hy])
    have := h' z (by simp)
    split <;> omega
theorem mxG_snoc (l : List Ar) (T : Nat → Int) (i : Nat) (z : Nat × Int) : ∀ (zs : List (Nat × Int)) (m : Int), mxG l T i (zs ++ [z]) m = if z.2 + gp l T z.1 i > mxG l T i zs m then z.2 + gp l T z.1 i else mxG l T i zs m
  | [], m => rfl
  | y :: r, m => by rw [List.cons_append, mxG, mxG, mxG_snoc l T i z r]
/-- Each is at least as late as the gap to each earlier one asks for. -/
def Chn (l : List Ar) (T : Nat → Int) (zs : List (Nat × Int)) : Prop := zs.Pairwise fun y z => y.2 + gp l T y.1 z.1 ≤ z.2
theorem mx_nx {l : List Ar} (g : GoodA l) {T : Nat → Int} (hT : tabErr T = 0) {zs : List (Nat × Int)} {i : Nat} (hi : i < l.length) (hz : ∀ z ∈ zs, z.1 < l.length) (hc : Chn l T zs) : mxG l T i zs (arA l i).t = nx l T zs i := by
  rcases List.eq_nil_or_concat zs with rfl | ⟨ys, z, rfl⟩
  · rfl
  · rw [List.concat_eq_append] at *
    have e : nx l T (ys ++ [z]) i = if z.2 + gp l T z.1 i > (arA l i).t then z.2 + gp l T z.1 i else (arA l i).t := by
      unfold nx; rw [List.getLast?_append]; rfl
    rw [mxG_snoc, e]
    obtain ⟨_, _, h3⟩ := List.pairwise_append.1 hc
    have hzl : z.1 < l.length := hz z (by simp)
    have hle : ∀ y ∈ ys, y.2 + gp l T y.1 i ≤ z.2 + gp l T z.1 i := fun y hy => by
      have h4 := h3 y hy z (by simp)
      have h5 := gp_tri g hT (hz y (by simp [hy])) hzl hi
      omega
    have h6 := (mxG_ge l T i ys (arA l i).t).1
    by_cases q : z.2 + gp l T z.1 i > (arA l i).t
    · have h7 := mxG_le l T i ys (arA l i).t (z.2 + gp l T z.1 i) (by omega) hle
      rw [if_pos q]
      split <;> omega
    · have h7 := mxG_le l T i ys (arA l i).t (arA l i).t (Int.le_refl _) fun y hy => by have := hle y hy; omega
      rw [if_neg q, if_neg (by omega)]
      omega
theorem chn_snoc {l : List Ar} (g : GoodA l) {T : Nat → Int} (hT : tabErr T = 0) {zs : List (Nat × Int)} {i : Nat} (hi : i < l.length) (hz : ∀ z ∈ zs, z.1 < l.length) (hc : Chn l T zs) : Chn l T (zs ++ [(i, nx l T zs i)]) := by
  refine List.pairwise_append.2 ⟨hc, List.pairwise_singleton _ _, fun y hy z hz' => ?_⟩
  rw [List.mem_singleton] at hz'
  subst hz'
  rw [← mx_nx g hT hi hz hc]
  exact (mxG_ge l T i zs (arA l i).t).2 y hy
def ldV (l : List Ar) (T : Nat → Int) (o : List Nat) : AV := .tup [ints (tms (zl l T [] o)), .bool (fitz l (zl l T [] o))]
theorem land_fn {l : List Ar} (g : GoodA l) {T : Nat → Int} (hT : tabErr T = 0) {o : List Nat} (ho : ∀ i ∈ o, i < l.length) (hlo : o.length ≤ 1000) : Fn Try.prog 15 [ars l, nts o, tabA T] (.tup [.row 3 1 true, .sc]) (ldV l T o) := by
  refine fn_run mixed 3 (Γ := SqF.Γ) (ann := SqF.ann) Try.func15 rfl Try.call15 ((SqF.land_form _ _ _ _).mpr ?_)
  simp only [cels]
  refine ⟨⟨_, rfl, rfl⟩, by simp, ?_⟩
  refine loop_list (σ := List (Nat × Int)) o (fun n zs => [.bool (fitz l zs), .int (n : Nat), ints (tms zs)]) (fun n rest zs => zs.map (·.1) = o.take n ∧ zl l T [] o = zl l T zs rest ∧ Chn l T zs ∧ ∀ z ∈ zs, z.1 < l.length ∧ 0 ≤ z.2 ∧ z.2 ≤ 200000 + 600 * n) [] (by simp [tms, lst, fitz]) ⟨rfl, rfl, List.Pairwise.nil, by simp⟩ ?_ ?_
  · rintro n i rest zs K hx hr hn ⟨hm, hz, hc, hb⟩ hK
    have hi : i < l.length := ho i (List.mem_of_getElem? hx)
    have hb' := nx_bd g hT hi (B := 200000 + 600 * n) (by omega) hb
    have hmx := mx_nx g hT hi (fun z hz => (hb z hz).1) hc
    rw [zl] at hz
    have hg := g.at hi
    have k2 : K [.bool (fitz l zs && decide (nx l T zs i ≤ (arA l i).u)), .int ((n : Nat) + 1), ints (tms zs ++ [nx l T zs i])] :=
      hK _ (zs ++ [(i, nx l T zs i)]) (by simp [tms_snoc, fitz_snoc]) ⟨by rw [List.map_append, hm, take_snoc hx]; rfl, hz, chn_snoc g hT hi (fun z hz => (hb z hz).1) hc, fun z hz' => by
        rcases List.mem_append.1 hz' with h | h
        · have := hb z h
          exact ⟨this.1, this.2.1, by omega⟩
        · rw [List.mem_singleton] at h
          subst h
          exact ⟨hi, by simp only; omega, by simp only; omega⟩⟩
    clear hK hz
    have hw : IntKind.i64.wrap ((n : Int) + 1) = (n : Int) + 1 := wrap64 (by omega) (by omega)
    have a1 : AV.at (nts o) (.lit (.int .i64 (n : Nat))) 0 = .int (i : Nat) := nts_at hx
    have a2 : AV.at (ars l) (.lit (.int .i64 (i : Nat))) 1 = .int (wn l i : Nat) := by rw [lst_at (arA_at hi), ← (g.wn hi).2]; rfl
    have a3 : AV.at (ars l) (.lit (.int .i64 (i : Nat))) 2 = .int (arA l i).t := by rw [lst_at (arA_at hi)]; rfl
    have a4 : AV.at (ars l) (.lit (.int .i64 (i : Nat))) 3 = .int (arA l i).u := by rw [lst_at (arA_at hi)]; rfl
    have hzn : zs.length = n := by have := congrArg List.length hm; rw [List.length_map, List.length_take] at this; omega
    have hzl : (tms zs).length = n := by unfold tms; rw [List.length_map, hzn]
    have hroom : ∀ q : List (List AV), q.length = 1 → AV.room (ints (tms zs)) (.sl 1 q) 8 := fun q hq => by unfold AV.room; rw [lst_els]; simp [AV.els, hq, hzl]; omega
    simp only [List.getD_cons_zero, List.getD_cons_succ, a1, a2, a3, a4]
    have gL : ∀ (body : List AV → (List AV → Prop) → Prop) (L : Nat),
        (∀ (q : Nat) (z : Nat × Int) (m : Int) (K' : List AV → Prop), z.1 < l.length → 0 ≤ z.2 → z.2 ≤ 200000 + 600 * n → o[q]? = some z.1 → (tms zs)[q]? = some z.2 → q < n → (z.2 + gp l T z.1 i > m → K' [.int (z.2 + gp l T z.1 i), .int ((q : Nat) + 1)]) → (¬ z.2 + gp l T z.1 i > m → K' [.int m, .int ((q : Nat) + 1)]) → body [.int m, .int (q : Nat)] K') →
        (∀ K', body [.int (nx l T zs i), .int (n : Nat)] K') → fLoop L [.int (arA l i).t, .int 0] body := fun body L hbd he => by
      refine loop_list (σ := Int) zs (fun q m => [.int m, .int (q : Nat)]) (fun q rest m => nx l T zs i = mxG l T i rest m) (arA l i).t rfl hmx.symm ?_ ?_
      · rintro q z rest' m K' hzq hr' hq hg' hK'
        rw [mxG] at hg'
        rw [hzn] at hq
        have e1 : o[q]? = some z.1 := by
          have : (zs.map (·.1))[q]? = (o.take n)[q]? := by rw [hm]
          rw [List.getElem?_map, hzq, List.getElem?_take, if_pos hq] at this
          exact this.symm
        have e2 : (tms zs)[q]? = some z.2 := by unfold tms; rw [List.getElem?_map, hzq]; rfl
        obtain ⟨b1, b2, b3⟩ := hb z (List.mem_of_getElem? hzq)
        exact hbd q z m K' b1 b2 b3 e1 e2 hq (fun h => hK' _ _ rfl (by rw [if_pos h] at hg'; exact hg')) (fun h => hK' _ _ rfl (by rw [if_neg h] at hg'; exact hg'))
      · intro m K' hg'
        rw [mxG] at hg'
        rw [hzn, ← hg']
        exact he K'
    simp [hn, hi]
    refine gL _ _ ?_ ?_
    · rintro q ⟨j, a⟩ m K' hj ha0 ha1 z2 z3 hq h1 h2
      simp only at hj ha0 ha1 z2 z3 h1 h2
      have hgp := gp_bd g hT hj hi
      have hwq : IntKind.i64.wrap ((q : Int) + 1) = (q : Int) + 1 := wrap64 (by omega) (by omega)
      have b1 : AV.at (nts o) (.lit (.int .i64 (q : Nat))) 0 = .int (j : Nat) := nts_at z2
      have b2 : AV.at (ars l) (.lit (.int .i64 (j : Nat))) 1 = .int (wn l j : Nat) := by rw [lst_at (arA_at hj), ← (g.wn hj).2]; rfl
      have b3 : AV.at (ints (tms zs)) (.lit (.int .i64 (q : Nat))) 0 = .int a := by rw [lst_at z3]; rfl
      have c1 := tab_nth16 T (k := .i64) (k' := .i64) (g.wn hj).1 (g.wn hi).1
      have c2 := tab_ok (k := .i64) (k' := .i64) (g.wn hj).1 (g.wn hi).1
      have c3 : AV.inl 4 (.int (wn l j : Nat)) := inl_nat (g.wn hj).1
      have c4 : AV.inl 4 (.int (wn l i : Nat)) := inl_nat (g.wn hi).1
      rw [show T (4 * wn l j + wn l i) = gp l T j i from rfl] at c1
      have hw2 : IntKind.i64.wrap (a + gp l T j i) = a + gp l T j i := wrap64 (by omega) (by omega)
      clear hb hb' hmx gL k2 hx a1 hr
      simp [b1, b2, b3, hj, c1, c2, c3, c4, hw2, hwq, hzl, hq, show q < o.length by omega]
      exact ⟨fun h => h1 h, fun h => h2 (by omega)⟩
    · intro K'
      simp [hw, ints_snoc]
      refine ⟨fun q => ⟨q, hroom _ rfl, ?_⟩, fun q => ⟨q, hroom _ rfl, ?_⟩⟩
      · rw [q, Bool.true_and] at k2
        simpa using k2
      · rw [q, Bool.false_and] at k2
        simpa using k2
  · rintro zs K ⟨hm, hz, hc, hb⟩
    rw [zl] at hz
    have hV : ldV l T o = .tup [ints (tms zs), .bool (fitz l zs)] := by unfold ldV; rw [hz]
    rw [hV]
    have := flat_ints (tms zs)
    simp
    simpa [AV.flatS] using this
def nat (o : List Int) : List Nat := o.map Int.toNat
theorem okO_nts {o : List Int} {n : Nat} (h : okO o n = true) : nts (nat o) = ints o ∧ (nat o).Perm (List.range n) := by
  obtain ⟨p, rfl, hp⟩ := okO_nat h
  have : nat (p.map fun k : Nat => (k : Int)) = p := by simp [nat, Function.comp_def]
  rw [this]
  exact ⟨nts_ints p, hp⟩
noncomputable def tsV (l : List Ar) (o : List Int) (T : Nat → Int) : AV :=
  if arrE l ≠ 0 then .tup [.sl 1 [], .int (arrE l)] else if tabErr T ≠ 0 then .tup [.sl 1 [], .int (tabErr T)] else if okO o l.length = false then .tup [.sl 1 [], .int 3]
  else if fitz l (zl l T [] (nat o)) = true then .tup [ints (tms (zl l T [] (nat o))), .int 0] else .tup [.sl 1 [], .int 8]
theorem times_fn (l : List Ar) (o : List Int) (T : Nat → Int) (ho : o.length ≤ maxLen) : Fn Try.prog 7 [ars l, ints o, tabA T] (.tup [.row 3 1 true, .sc]) (tsV l o T) := by
  refine fn_run mixed 3 (Γ := SqF.Γ) (ann := SqF.ann) Try.func7 rfl Try.call7 ((SqF.times_form _ _ _ _).mpr ?_)
  simp only [cels]
  refine ⟨⟨_, rfl, rfl⟩, _, scheck_fn l, ?_⟩
  by_cases h1 : arrE l = 0
  · have g := goodA h1
    have hll := g.len
    simp [h1]
    refine ⟨_, wcheck_fn T, ?_⟩
    by_cases h2 : tabErr T = 0
    · simp [h2]
      refine ⟨_, isord_fn o l.length (by omega) ho, ?_⟩
      cases h3 : okO o l.length
      · simp
        unfold tsV
        rw [if_neg (by simp [h1]), if_neg (by simp [h2]), if_pos h3]
      · simp
        obtain ⟨e1, e2⟩ := okO_nts h3
        have hm : ∀ i ∈ nat o, i < l.length := fun i hi => List.mem_range.1 (e2.mem_iff.1 hi)
        have hlen : (nat o).length ≤ 1000 := by rw [e2.length_eq, List.length_range]; omega
        have ht := times1_fn g h2 hm hlen
        rw [e1] at ht
        refine ⟨_, ht, ?_⟩
        have hV : tsV l o T = if fitz l (zl l T [] (nat o)) = true then .tup [ints (tms (zl l T [] (nat o))), .int 0] else .tup [.sl 1 [], .int 8] := by
          unfold tsV
          rw [if_neg (by simp [h1]), if_neg (by simp [h2]), if_neg (by simp [h3])]
        rw [hV]
        unfold tmV
        have hfl := flat_ints (tms (zl l T [] (nat o)))
        by_cases h4 : fitz l (zl l T [] (nat o)) = true
        · rw [if_pos h4, if_pos h4]
          simp
          simpa [AV.flatS] using hfl
        · rw [if_neg h4, if_neg h4]
          simp
    · simp [h2]
      unfold tsV
      rw [if_neg (by simp [h1]), if_pos h2]
  · simp [h1]
    unfold tsV
    rw [if_pos h1]
def sfV (l : List Ar) (o : List Int) : AV :=
  if arrE l ≠ 0 then .tup [.int 0, .int (arrE l)] else if okO o l.length = false then .tup [.int 0, .int 3] else .tup [.int (shf l (nat o)), .int 0]
theorem shift_fn (l : List Ar) (o : List Int) (ho : o.length ≤ maxLen) : Fn Try.prog 8 [ars l, ints o] (.tup [.sc, .sc]) (sfV l o) := by
  refine fn_run mixed 3 (Γ := SqF.Γ) (ann := SqF.ann) Try.func8 rfl Try.call8 ((SqF.shift_form _ _ _).mpr ?_)
  refine ⟨_, natural_fn l, ?_⟩
  unfold natV
  by_cases h1 : arrE l = 0
  · have g := goodA h1
    have hll := g.len
    simp [h1]
    refine ⟨_, isord_fn o l.length (by omega) ho, ?_⟩
    cases h3 : okO o l.length
    · simp
      unfold sfV
      rw [if_neg (by simp [h1]), if_pos h3]
    · simp
      obtain ⟨e1, e2⟩ := okO_nts h3
      have hm : ∀ i ∈ nat o, i < l.length := fun i hi => List.mem_range.1 (e2.mem_iff.1 hi)
      have hlen : (nat o).length ≤ 1000 := by rw [e2.length_eq, List.length_range]; omega
      have ht := shift1_fn g hm hlen
      rw [e1] at ht
      refine ⟨_, ht, ?_⟩
      unfold sfV
      rw [if_neg (by simp [h1]), if_neg (by simp [h3])]
      simp
  · simp [h1]
    unfold sfV
    rw [if_pos h1]
end Go.Proofs.Ytfdpbfdhcngfgaa
