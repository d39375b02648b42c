/- Texts of one proof, part 5: plain values, a run over them, contracts of functions. -/
import Derived.Test.YtocgoabplafoeaaDoorM4
import Derived.Test.YtocgoabplafoeaaDoorM3
import Derived.Shelf.RegionOpenPlain
import Derived.WalkKit
import Derived.Deep.RegionLaw
import Derived.Deep.Upon
import Derived.Lib.Walk
import Derived.Lib.SliceRun
import Derived.Lib.JoinLaws
import Derived.Lib.AppendZerosOnto
import Derived.Laws.Externs
import Derived.Laws.IdiomCopy
import Derived.Laws.NewBlocks
import Derived.SizedLaws
import Derived.LaidMore
import Derived.OpenShut
import Derived.MakeChecks
import Derived.Shelf.Sort.Plain
import Derived.Shelf.Lays
import Derived.Shelf.LaysM
import Derived.Test.YtocgoabplafoeaaDoorChecked
/- phrase: what is checked. -/
namespace Go.Proofs.YtocgoabplafoeaaDoor
open Go.RowKit
set_option linter.unusedVariables false
set_option linter.unusedSimpArgs false
set_option maxRecDepth 100000
def wds : List ByteArray := [⟨#[72, 69, 73, 71, 72, 84]⟩, ⟨#[72, 69, 65, 68, 73, 78, 71]⟩, ⟨#[83, 80, 69, 69, 68]⟩, ⟨#[68, 73, 82, 69, 67, 84]⟩, ⟨#[72, 79, 76, 68]⟩, ⟨#[67, 79, 78, 84, 65, 67, 84]⟩, ⟨#[76, 65, 78, 68]⟩]
def encS (x : ByteArray) : List AV := [.string x]
theorem wds_ref : AV.refSl (.ref [.lit (.string ⟨#[72, 69, 73, 71, 72, 84]⟩), .lit (.string ⟨#[72, 69, 65, 68, 73, 78, 71]⟩), .lit (.string ⟨#[83, 80, 69, 69, 68]⟩), .lit (.string ⟨#[68, 73, 82, 69, 67, 84]⟩), .lit (.string ⟨#[72, 79, 76, 68]⟩), .lit (.string ⟨#[67, 79, 78, 84, 65, 67, 84]⟩), .lit (.string ⟨#[76, 65, 78, 68]⟩)]) = lst 1 encS wds := rfl
theorem wds_isref : AV.isRef (.ref [.lit (.string ⟨#[72, 69, 73, 71, 72, 84]⟩), .lit (.string ⟨#[72, 69, 65, 68, 73, 78, 71]⟩), .lit (.string ⟨#[83, 80, 69, 69, 68]⟩), .lit (.string ⟨#[68, 73, 82, 69, 67, 84]⟩), .lit (.string ⟨#[72, 79, 76, 68]⟩), .lit (.string ⟨#[67, 79, 78, 84, 65, 67, 84]⟩), .lit (.string ⟨#[76, 65, 78, 68]⟩)]) 7 := ⟨_, rfl, rfl⟩
theorem wds_sl : AV.sl 1 [[.lit (.string ⟨#[72, 69, 73, 71, 72, 84]⟩)], [.lit (.string ⟨#[72, 69, 65, 68, 73, 78, 71]⟩)], [.lit (.string ⟨#[83, 80, 69, 69, 68]⟩)], [.lit (.string ⟨#[68, 73, 82, 69, 67, 84]⟩)], [.lit (.string ⟨#[72, 79, 76, 68]⟩)], [.lit (.string ⟨#[67, 79, 78, 84, 65, 67, 84]⟩)], [.lit (.string ⟨#[76, 65, 78, 68]⟩)]] = lst 1 encS wds := rfl
theorem wds_len : wds.length = 7 := rfl
def isW (s w : ByteArray) : Bool := decide (s = w)
def kindI (s : ByteArray) : Int := idxN (isW s) 0 wds
theorem kind_fn (s : ByteArray) : Fn Tryd.prog 58 [.string s] .sc (.int (kindI s)) := by
  refine fn_run mixed 3 (Γ := RbF.Γ) (ann := RbF.ann) Tryd.func58 rfl Tryd.call58 ((RbF.kind_form _ _).mpr ?_)
  have e1 : Ent Tryd.prog 74 := Tryd.call74
  simp only [av_mkRef, wds_ref]
  refine ⟨wds_isref, e1, fun _ => ?_⟩
  simp
  refine loop_list (σ := Unit) wds (fun n _ => [.int (n : Nat)]) (fun k rest _ => kindI s = idxN (isW s) k rest) () rfl rfl ?_ ?_
  · rintro k x rest _ K hx hr hn hg hK
    rw [wds_len] at hn
    have hw2 : IntKind.i64.wrap ((k : Int) + 1) = (k : Int) + 1 := wrap64 (by omega) (by omega)
    simp [wds_len, show (k : Int) < 7 by omega, lst_at hx, encS, hw2]
    rw [idxN] at hg
    exact ⟨fun h => by rw [hg, if_pos (by simpa [isW] using h)], fun h => hK _ () (by simp) (by rw [hg, if_neg (by simpa [isW] using h)])⟩
  · intro _ K hg
    simp [hg, idxN]
def frS (s : ByteArray) : Bool := isName s && decide (kindI s < 0)
theorem pname_fn (s : ByteArray) : Fn Tryd.prog 38 [.string s] .sc (.bool (frS s)) := by
  refine fn_run mixed 3 (Γ := RbF.Γ) (ann := RbF.ann) Tryd.func38 rfl Tryd.call38 ((RbF.name_form _ _).mpr ?_)
  refine ⟨_, name_fn s, ?_⟩
  simp
  refine ⟨fun h => ⟨_, kind_fn s, ?_⟩, fun h => ?_⟩
  · simp [frS, h]
  · simp [frS, h]
theorem word_fn {k : Nat} {w : ByteArray} (h : wds[k]? = some w) : Fn Tryd.prog 66 [.int (k : Nat)] .sc (.string w) := by
  refine fn_run mixed 3 (Γ := RbF.Γ) (ann := RbF.ann) Tryd.func66 rfl Tryd.call66 ((RbF.word_form _ _).mpr ?_)
  have hk := (List.getElem?_eq_some_iff.1 h).1
  simp only [av_mk, wds_sl]
  simp [hk, lst_at h, encS]
theorem free_fn (s : ByteArray) : Fn Tryd.prog 46 [.string s] .sc (.bool (frS s)) := by
  refine fn_run mixed 3 (Γ := RbF.Γ) (ann := RbF.ann) Tryd.func46 rfl Tryd.call46 ((RbF.free_form _ _).mpr ?_)
  refine loop_list (σ := Unit) wds (fun n _ => [.int (n : Nat)]) (fun k rest _ => kindI s = idxN (isW s) k rest) () rfl rfl ?_ ?_
  · rintro k x rest _ K hx hr hn hg hK
    rw [wds_len] at hn
    have hw2 : IntKind.i64.wrap ((k : Int) + 1) = (k : Int) + 1 := wrap64 (by omega) (by omega)
    simp [show (k : Int) < 7 by omega]
    refine ⟨_, word_fn hx, ?_⟩
    rw [idxN] at hg
    simp [hw2]
    refine ⟨fun h => ?_, fun h => hK _ () (by simp) (by rw [hg, if_neg (by simpa [isW] using fun e : s = x => h e.symm)])⟩
    rw [if_pos (by simpa [isW] using h.symm)] at hg
    simp [frS, hg]
  · intro _ K hg
    rw [wds_len]
    simp
    rw [idxN] at hg
    have e : frS s = isName s := by simp [frS, hg]
    rw [e]
    exact isname_fn s
/-- A clearance. -/
structure Cl where
  c : ByteArray
  k : Int
  v : Int
  f : ByteArray
  deriving DecidableEq, Inhabited
def encL (x : Cl) : List AV := [.string x.c, .int x.k, .int x.v, .string x.f]
abbrev cl (x : Cl) : AV := .agg (encL x)
abbrev cls (l : List Cl) : AV := lst 4 encL l
def mostI (k : Int) : Int := if k = 0 then 60000 else if k = 1 then 4095 else 400
def clE (x : Cl) : Int := if frS x.c = false then 3 else if x.k < 0 ∨ x.k > 6 then 1 else if x.k > 2 then (if x.v ≠ 0 ∨ frS x.f = false then 3 else 0) else if x.f ≠ ⟨#[]⟩ then 3 else if x.v < 0 ∨ x.v > mostI x.k then 4 else 0
theorem pcheck_fn (x : Cl) : Fn Tryd.prog 22 [cl x] .sc (.int (clE x)) := by
  refine fn_run mixed 3 (Γ := RbF.Γ) (ann := RbF.ann) Tryd.func22 rfl Tryd.call22 ((RbF.check_form _ _).mpr ?_)
  obtain ⟨c, k, v, f⟩ := x
  refine ⟨by simp [encL], _, pname_fn c, ?_⟩
  simp [encL]
  refine ⟨fun h => by simp [clE, h], fun h => ?_⟩
  have hc : clE ⟨c, k, v, f⟩ = if k < 0 ∨ k > 6 then 1 else if k > 2 then (if v ≠ 0 ∨ frS f = false then 3 else 0) else if f ≠ ⟨#[]⟩ then 3 else if v < 0 ∨ v > mostI k then 4 else 0 := by simp [clE, h]
  rw [hc]
  refine ⟨fun h1 => ⟨h1, by rw [if_pos (.inl h1)]⟩, fun h1 => ⟨h1, fun h2 => by rw [if_pos (.inr h2)], fun h2 => ?_⟩⟩
  rw [if_neg (by omega)]
  refine ⟨fun h3 => ?_, fun h3 => ?_⟩
  · rw [if_pos h3]
    refine ⟨fun h4 => ⟨h4, by simp [h4]⟩, fun h4 => ⟨_, pname_fn f, ?_⟩⟩
    simp [h4]
  · rw [if_neg (by omega)]
    refine ⟨fun h4 => by rw [if_pos h4], fun h4 => ?_⟩
    rw [if_neg (by simp [h4])]
    have hk : k = 0 ∨ k = 1 ∨ k = 2 := by omega
    refine ⟨fun h5 => ⟨h5, by rw [if_pos (.inl h5)]⟩, fun h5 => ?_⟩
    rcases hk with rfl | rfl | rfl
    all_goals
      simp [AV.inl, AV.refOk, AV.refNth, AV.rcs, AV.off, mostI, h5]
theorem cerr_fn (x : Cl) : Fn Tryd.prog 29 [cl x] .sc (.int (clE x)) := by
  have e := RbF.cerr_form (cl x) (.int (clE x))
  have k := fun h => fn_run mixed 3 (Γ := RbF.Γ) (ann := RbF.ann) Tryd.func29 rfl Tryd.call29 (e.mpr h)
  refine k ?_
  clear k e
  obtain ⟨c, k, v, f⟩ := x
  refine ⟨by simp [encL], _, free_fn c, ?_⟩
  simp [encL]
  refine ⟨fun h => by simp [clE, h], fun h => ?_⟩
  have hc : clE ⟨c, k, v, f⟩ = if k < 0 ∨ k > 6 then 1 else if k > 2 then (if v ≠ 0 ∨ frS f = false then 3 else 0) else if f ≠ ⟨#[]⟩ then 3 else if v < 0 ∨ v > mostI k then 4 else 0 := by simp [clE, h]
  rw [hc]
  refine ⟨fun h1 => ⟨h1, by rw [if_pos (.inl h1)]⟩, fun h1 => ⟨h1, fun h2 => by rw [if_pos (.inr h2)], fun h2 => ?_⟩⟩
  rw [if_neg (by omega)]
  have hk : k = 0 ∨ k = 1 ∨ k = 2 ∨ k = 3 ∨ k = 4 ∨ k = 5 ∨ k = 6 := by omega
  rcases hk with rfl | rfl | rfl | rfl | rfl | rfl | rfl
  all_goals simp [gt2, mostI]
  · refine ⟨fun q1 q2 => absurd q2 q1, fun q => ?_⟩
    exact ⟨fun r => ⟨r, by rw [if_pos q, if_pos (.inl r)]⟩, fun r => ⟨r, fun r2 => by rw [if_pos q, if_pos (.inr r2)], fun r2 => by rw [if_pos q, if_neg (by omega)]⟩⟩
  · refine ⟨fun q1 q2 => absurd q2 q1, fun q => ?_⟩
    exact ⟨fun r => ⟨r, by rw [if_pos q, if_pos (.inl r)]⟩, fun r => ⟨r, fun r2 => by rw [if_pos q, if_pos (.inr r2)], fun r2 => by rw [if_pos q, if_neg (by omega)]⟩⟩
  · refine ⟨fun q1 q2 => absurd q2 q1, fun q => ?_⟩
    exact ⟨fun r => ⟨r, by rw [if_pos q, if_pos (.inl r)]⟩, fun r => ⟨r, fun r2 => by rw [if_pos q, if_pos (.inr r2)], fun r2 => by rw [if_pos q, if_neg (by omega)]⟩⟩
  all_goals
    refine ⟨fun q => ⟨q, fun q2 => absurd q2 q⟩, fun q => ⟨_, free_fn f, ?_⟩⟩
    simp [q]
end Go.Proofs.YtocgoabplafoeaaDoor
/- slices.Delete at a row of the caller's own. -/
namespace Go.Proofs.YtocgoabplafoeaaDoor
open Go.RowKit Go.Lib
set_option linter.unusedVariables false
theorem del_list (cur news zs : List Value) (a b : Nat) (ha : a ≤ cur.length) (hb : news.length = b) :
    (((cur.take a ++ news ++ cur.drop (a + news.length)).take (a + b)) ++ zs ++ (cur.take a ++ news ++ cur.drop (a + news.length)).drop (a + b + zs.length)).take (a + b) = cur.take a ++ news := by
  have h1 : (cur.take a ++ news).length = a + b := by simp; omega
  have h2 : (cur.take a ++ news ++ cur.drop (a + news.length)).take (a + b) = cur.take a ++ news := List.take_left' h1
  rw [h2, List.append_assoc]
  exact List.take_left' h1
/-- What is left of a row. -/
theorem del_row {w w' : World} {B e s : Nat} {okc : Nat → Prop} {L : List (List AV)} {xs : List Value} {g cap : Nat} {cur' : Array Value} (i j : Nat) (hs : 0 < s) (hL : ∀ y ∈ L, y.length = s) (hxl : xs.length = L.length * s) (hone : ∀ u ∈ xs, u.oneCell' = true)
    (hv : ∀ p q, p < L.length → q < s → RV w okc (gt2 L p q) (xs.getD (p * s + q) undef)) (hij : i ≤ j) (hj : j ≤ L.length) (hB : B ≤ g) (hg : w'.heap[g]? = some (.cells cur' e (0, 0))) (hm : cap ≤ maxLen) (hcs : cur'.size = cap * s) (hnc : L.length ≤ cap)
    (htk : cur'.toList.take ((i + (L.length - j)) * s) = xs.take (i * s) ++ xs.drop (j * s)) (hk : ∀ b, okc b → b < w.heap.size → w'.heap[b]? = w.heap[b]?) :
    RRow w' B e s okc (.sl s (L.take i ++ L.drop j)) (.slice (some ⟨g, 0, none⟩) (i + (L.length - j)) cap) := by
  have hn : (L.take i ++ L.drop j).length = i + (L.length - j) := by simp; omega
  have hmul : ∀ a b : Nat, a ≤ b → a * s ≤ b * s := fun a b h => Nat.mul_le_mul_right s h
  have hjs := hmul j L.length hj
  have his := hmul i L.length (Nat.le_trans hij hj)
  refine ⟨_, xs.take (i * s) ++ xs.drop (j * s), rfl, hs, fun y hy => ?_, ⟨?_, .inr ⟨g, cap, cur', by rw [hn], hB, hg, by omega, hm, hcs, by rw [hn]; exact htk⟩⟩, fun u hu => ?_, fun p q hp hq => ?_⟩
  · rcases List.mem_append.1 hy with h | h
    · exact hL y (List.mem_of_mem_take h)
    · exact hL y (List.mem_of_mem_drop h)
  · simp only [List.length_append, List.length_take, List.length_drop, hxl, Nat.add_mul, Nat.sub_mul]
    rw [Nat.min_eq_left his, Nat.min_eq_left (by omega)]
  · rcases List.mem_append.1 hu with h | h
    · exact hone u (List.mem_of_mem_take h)
    · exact hone u (List.mem_of_mem_drop h)
  · rw [hn] at hp
    by_cases hpi : p < i
    · have := hv p q (by omega) hq
      have e1 : gt2 (L.take i ++ L.drop j) p q = gt2 L p q := by
        unfold gt2
        congr 1
        rw [List.getD_eq_getElem?_getD, List.getD_eq_getElem?_getD, List.getElem?_append_left (by simp; omega), List.getElem?_take_of_lt hpi]
      have hlt : p * s + q < i * s := by have := hmul (p + 1) i hpi; rw [Nat.add_mul] at this; omega
      have e2 : (xs.take (i * s) ++ xs.drop (j * s)).getD (p * s + q) undef = xs.getD (p * s + q) undef := by
        rw [List.getD_eq_getElem?_getD, List.getD_eq_getElem?_getD, List.getElem?_append_left (by simp; omega), List.getElem?_take_of_lt hlt]
      rw [e1, e2]
      exact this.mono fun b hb hlt => ⟨hb, hk b hb hlt⟩
    · have := hv (j + (p - i)) q (by omega) hq
      have e1 : gt2 (L.take i ++ L.drop j) p q = gt2 L (j + (p - i)) q := by
        unfold gt2
        congr 1
        rw [List.getD_eq_getElem?_getD, List.getD_eq_getElem?_getD, List.getElem?_append_right (by simp; omega), List.getElem?_drop]
        congr 3
        simp; omega
      have hge : i * s ≤ p * s := hmul i p (by omega)
      have e2 : (xs.take (i * s) ++ xs.drop (j * s)).getD (p * s + q) undef = xs.getD ((j + (p - i)) * s + q) undef := by
        rw [List.getD_eq_getElem?_getD, List.getD_eq_getElem?_getD, List.getElem?_append_right (by simp; omega), List.getElem?_drop]
        have : j * s + (p * s + q - (xs.take (i * s)).length) = (j + (p - i)) * s + q := by
          simp only [List.length_take, hxl, Nat.add_mul, Nat.sub_mul]
          rw [Nat.min_eq_left his]
          omega
        rw [this]
      rw [e1, e2]
      exact this.mono fun b hb hlt => ⟨hb, hk b hb hlt⟩
end Go.Proofs.YtocgoabplafoeaaDoor
/- slices.Insert at a row of the caller's own: what no program needs. -/
namespace Go.Proofs.YtocgoabplafoeaaDoor
open Go.RowKit Go.Lib
set_option linter.unusedVariables false
set_option linter.unusedSimpArgs false
section
variable {P : Program}
theorem wp_copy_run (w : World) {o : Oper} {a : Act} {K : Act → World → Prop} {Q : Exit → Act → World → Prop} (d s : Operand) (t t' : TypeId)
    (ho : o.op = .call { callee := .builtin .copy, args := #[d, s], argTypes := #[t, t'] }) (v u : Value) (hd : a.eval d = v) (hs : a.eval s = u) {v' : Value} {w' : World}
    (hr : (Builtin.copy_ #[t, t'] o.type #[v, u]).run P w = .ok v' w') (h : K (a.put o.dst v') w') : o.wp P a w K Q := by
  unfold Oper.wp execOp
  simp only [ho, resolve, invoke, builtin, Sem.run_bind, Sem.run_pure, Result.andThen_ok, List.map_toArray, List.map_cons, List.map_nil, hd, hs, hr]
  exact h
theorem wpList_copy_run (w : World) {ops : Array Oper} {rest : List Oper} {o : Oper} {a : Act} {Q : Exit → Act → World → Prop} (hgd : o.guard = none) (d s : Operand) (t t' : TypeId)
    (ho : o.op = .call { callee := .builtin .copy, args := #[d, s], argTypes := #[t, t'] }) (v u : Value) (hd : a.eval d = v) (hs : a.eval s = u) {v' : Value} {w' : World}
    (hr : (Builtin.copy_ #[t, t'] o.type #[v, u]).run P w = .ok v' w') (h : wpList P ops Q rest (a.put o.dst v') w') : wpList P ops Q (o :: rest) a w :=
  wpList_plain hgd fun _ hK => wp_copy_run w d s t t' ho v u hd hs hr (hK _ _ h)
theorem step_copy_run {ops : Array Oper} {o : Oper} {a : Act} {w : World} {K : Act → World → Prop} {Q : Exit → Act → World → Prop} {E : Prop}
    (hg : o.guard = none) (d x : Operand) (dT sT : TypeId) (hop : o.op = Op.call { callee := Callee.builtin Builtin.copy, args := #[d, x], argTypes := #[dT, sT] })
    (v u : Value) (hd : a.eval d = v) (hx : a.eval x = u) {v' : Value} {w' : World} (hr : (Builtin.copy_ #[dT, sT] o.type #[v, u]).run P w = .ok v' w') (hK : K (a.put o.dst v') w') :
    if Region.wanted o (yielded ops a.tmps) = true then Oper.wp P o a w K Q else E := by
  have hw : Region.wanted o (yielded ops a.tmps) = true := by simp [Region.wanted, hg]
  rw [if_pos hw]
  unfold Oper.wp
  simp [execOp, hop, resolve, invoke, builtin, hd, hx, hr, Result.andThen]
  exact hK
/-- 'copy' at elements of several cells. -/
theorem run_copy_s (w : World) (dT sT ty elem : TypeId) (s : Nat) (b o dLen dCap : Nat) (a : Addr) (sLen sCap : Nat) (cs : List Value) (n : Nat)
    (hu : P.underlying dT = some (.slice elem)) (hs : (P.info? elem).map (·.size) = some s) (hn : n = Nat.min sLen dLen) (hl : cs.length = n * s)
    (hsrc : ∀ j v, cs[j]? = some v → w.cell? (a.add j) = some v) (hc : ∀ j, j < cs.length → (w.cell? ⟨b, o + j, none⟩).isSome = true) (hf : ∀ j, j < cs.length → w.frozen? ⟨b, o + j, none⟩ = false) (h1 : ∀ v ∈ cs, v.oneCell' = true) :
    (Builtin.copy_ #[dT, sT] ty #[.slice (some ⟨b, o, none⟩) dLen dCap, .slice (some a) sLen sCap]).run P w = .ok (goInt n) (w.setCells b o cs) := by
  have hld := run_loadCells_list (P := P) w a cs hsrc
  rw [hl] at hld
  have hst := run_storeCells_cells (P := P) b o cs 0 w (by simpa using hc) (by simpa using hf) h1
  cases hq : P.info? elem with
  | none => simp [hq] at hs
  | some i =>
    have hi : i.size = s := by simpa [hq] using hs
    simp [Builtin.copy_, run_underlying hu, Builtin.lenOf, Builtin.firstCells, sizeOf, typeInfo, hq, hi, ← hn, hld, hst]
/-- slices.overlaps of what has cells and of a row of one's own. -/
theorem run_overlaps_own (w : World) (tS tR e : TypeId) (ht : P.underlying tS = some (.slice e)) (size : Nat) (hz : ∀ w, (Go.sizeOf e).run P w = .ok size w)
    (a b : Addr) (la ca lb cb : Nat) (hne : a.block ≠ b.block) (csA : Array Value) (tA : TypeId) (fz : Nat × Nat) (hA : w.heap[a.block]? = some (.cells csA tA fz)) (hA0 : csA.size ≠ 0)
    (csB : Array Value) (tB : TypeId) (hB : w.heap[b.block]? = some (.cells csB tB (0, 0))) :
    (Extern.SlicesOverlaps.overlaps #[tS, tS] #[tR] #[.slice (some a) la ca, .slice (some b) lb cb]).run P w = .ok (.bool false) w := by
  have hnb : (a.block != b.block) = true := by simpa using hne
  have hnb' : (a.block == b.block) = false := by simpa using hne
  have hfb : ∀ k, w.frozen? ⟨b.block, k, none⟩ = false := fun k => by simp [World.frozen?, hB]
  have hfb' : w.frozen? b = false := by simp [World.frozen?, hB]
  have hsa : w.shape? a.block = some (tA, csA.size) := by simp [World.shape?, hA]
  have hsb : w.shape? b.block = some (tB, csB.size) := by simp [World.shape?, hB]
  change Sem.run P (α := Value) (do
    let some t := (#[tS, tS] : Array TypeId)[0]? | stuck "slices.overlaps: no parameter types"
    let .slice elem ← underlying t | stuck "slices.overlaps: slice type expected"
    let size ← sizeOf elem
    match (some a : Option Addr), (some b : Option Addr) with
    | some a, some b =>
      if la = 0 ∨ lb = 0 ∨ size = 0 then pure (Value.bool false)
      else if a.block != b.block && (← frozen a) && (← frozen b) then unsupported .addressObserved
      else do
        if a.block != b.block then do
          noView a; noView b
          if ← mayBeOne a b then return Value.bool ((← choose (.extern "sameAddr.stringBytes" 2)) == 1)
        pure (Value.bool (a.block == b.block && a.off < b.off + lb * size && b.off < a.off + la * size))
    | _, _ => pure (Value.bool false)) w = _
  by_cases h0 : la = 0 ∨ lb = 0 ∨ size = 0
  · simp [run_underlying ht, hz, h0]
  · obtain ⟨k, hk⟩ : ∃ k, csA.size = k + 1 := ⟨csA.size - 1, by omega⟩
    rw [hk] at hsa
    cases hfa : w.frozen? a <;> cases hfe : w.frozen? { block := a.block, off := k + 1 } <;>
      simp [run_underlying ht, hz, h0, hnb, hnb', frozen, noView, viewAt, mayBeOne, stringish, shape, Sem.run, hsa, hsb, hfa, hfe, hfb, hfb']
end
/-! ### rows by parts -/
/-- The cells xs are those of the elements L. -/
structure CellsOf (w : World) (okc : Nat → Prop) (s : Nat) (L : List (List AV)) (xs : List Value) : Prop where
  len : xs.length = L.length * s
  each : ∀ y ∈ L, y.length = s
  one : ∀ u ∈ xs, u.oneCell' = true
  val : ∀ i j, i < L.length → j < s → RV w okc (gt2 L i j) (xs.getD (i * s + j) undef)
theorem CellsOf.app {w : World} {okc : Nat → Prop} {s : Nat} {L M : List (List AV)} {xs ys : List Value} (h : CellsOf w okc s L xs) (k : CellsOf w okc s M ys) : CellsOf w okc s (L ++ M) (xs ++ ys) := by
  refine ⟨by rw [List.length_append, List.length_append, h.len, k.len, Nat.add_mul], fun y hy => (List.mem_append.1 hy).elim (h.each y) (k.each y), fun u hu => (List.mem_append.1 hu).elim (h.one u) (k.one u), fun i j hi hj => ?_⟩
  rw [List.length_append] at hi
  by_cases hil : i < L.length
  · have e1 : gt2 (L ++ M) i j = gt2 L i j := by unfold gt2; simp [List.getElem?_append_left hil]
    have hlt : i * s + j < xs.length := by
      rw [h.len]
      have : (i + 1) * s ≤ L.length * s := Nat.mul_le_mul_right _ hil
      rw [Nat.add_mul] at this; omega
    have e2 : (xs ++ ys).getD (i * s + j) undef = xs.getD (i * s + j) undef := by simp [List.getElem?_append_left hlt]
    rw [e1, e2]; exact h.val i j hil hj
  · have hge : L.length ≤ i := by omega
    have e1 : gt2 (L ++ M) i j = gt2 M (i - L.length) j := by unfold gt2; simp [List.getElem?_append_right hge]
    have hge2 : xs.length ≤ i * s + j := by rw [h.len]; have : L.length * s ≤ i * s := Nat.mul_le_mul_right _ hge; omega
    have e3 : i * s + j - xs.length = (i - L.length) * s + j := by rw [h.len, Nat.sub_mul]; have : L.length * s ≤ i * s := Nat.mul_le_mul_right _ hge; omega
    have e2 : (xs ++ ys).getD (i * s + j) undef = ys.getD ((i - L.length) * s + j) undef := by
      rw [List.getD_eq_getElem?_getD, List.getElem?_append_right hge2, e3, List.getD_eq_getElem?_getD]
    rw [e1, e2]; exact k.val _ j (by omega) hj
theorem CellsOf.take {w : World} {okc : Nat → Prop} {s : Nat} {L : List (List AV)} {xs : List Value} (h : CellsOf w okc s L xs) (i : Nat) (hi : i ≤ L.length) : CellsOf w okc s (L.take i) (xs.take (i * s)) := by
  have his : i * s ≤ L.length * s := Nat.mul_le_mul_right _ hi
  refine ⟨by rw [List.length_take, List.length_take, h.len, Nat.min_eq_left hi, Nat.min_eq_left his], fun y hy => h.each y (List.mem_of_mem_take hy), fun u hu => h.one u (List.mem_of_mem_take hu), fun p q hp hq => ?_⟩
  have hp' : p < i := by rw [List.length_take] at hp; omega
  have hlt : p * s + q < i * s := by have : (p + 1) * s ≤ i * s := Nat.mul_le_mul_right _ hp'; rw [Nat.add_mul] at this; omega
  have e1 : gt2 (L.take i) p q = gt2 L p q := by unfold gt2; simp [List.getElem?_take_of_lt hp']
  have e2 : (xs.take (i * s)).getD (p * s + q) undef = xs.getD (p * s + q) undef := by simp [List.getElem?_take_of_lt hlt]
  rw [e1, e2]; exact h.val p q (by omega) hq
theorem CellsOf.drop {w : World} {okc : Nat → Prop} {s : Nat} {L : List (List AV)} {xs : List Value} (h : CellsOf w okc s L xs) (i : Nat) : CellsOf w okc s (L.drop i) (xs.drop (i * s)) := by
  refine ⟨by rw [List.length_drop, List.length_drop, h.len, Nat.sub_mul], fun y hy => h.each y (List.mem_of_mem_drop hy), fun u hu => h.one u (List.mem_of_mem_drop hu), fun p q hp hq => ?_⟩
  have hp' : i + p < L.length := by rw [List.length_drop] at hp; omega
  have e1 : gt2 (L.drop i) p q = gt2 L (i + p) q := by unfold gt2; simp [List.getElem?_drop]
  have e2 : (xs.drop (i * s)).getD (p * s + q) undef = xs.getD ((i + p) * s + q) undef := by
    rw [List.getD_eq_getElem?_getD, List.getElem?_drop, List.getD_eq_getElem?_getD, show i * s + (p * s + q) = (i + p) * s + q by rw [Nat.add_mul]; omega]
  rw [e1, e2]; exact h.val _ q hp' hq
theorem CellsOf.mono {w w' : World} {okc okc' : Nat → Prop} {s : Nat} {L : List (List AV)} {xs : List Value} (h : CellsOf w okc s L xs) (hk : ∀ b, okc b → b < w.heap.size → okc' b ∧ w'.heap[b]? = w.heap[b]?) : CellsOf w' okc' s L xs :=
  ⟨h.len, h.each, h.one, fun i j hi hj => (h.val i j hi hj).mono hk⟩
theorem CellsOf.row {w : World} {B e s : Nat} {okc : Nat → Prop} {L : List (List AV)} {xs : List Value} (h : CellsOf w okc s L xs) (hs : 0 < s) {g cap : Nat} {cur : Array Value} (hB : B ≤ g) (hg : w.heap[g]? = some (.cells cur e (0, 0))) (hm : cap ≤ maxLen) (hcs : cur.size = cap * s) (hnc : L.length ≤ cap)
    (htk : cur.toList.take (L.length * s) = xs) : RRow w B e s okc (.sl s L) (.slice (some ⟨g, 0, none⟩) L.length cap) :=
  ⟨L, xs, rfl, hs, h.each, ⟨h.len, .inr ⟨g, cap, cur, rfl, hB, hg, hnc, hm, hcs, htk⟩⟩, h.one, h.val⟩
/-- The cells of a plain slice whose elements hold no memory. -/
theorem cells_flat {w : World} {ok okc : Nat → Prop} {s : Nat} {Y : List (List AV)} {v : Value} (h : RV w ok (.sl s Y) v) (hf : ∀ y ∈ Y, ∀ z ∈ y, z.flat) (h0 : 0 < Y.length) :
    ∃ (vb vo vc : Nat) (ys : List Value), v = .slice (some ⟨vb, vo, none⟩) Y.length vc ∧ ok vb ∧ vb < w.heap.size ∧ Y.length ≤ vc ∧ vc ≤ maxLen ∧ CellsOf w okc s Y ys ∧ ∀ j u, ys[j]? = some u → w.cell? ⟨vb, vo + j, none⟩ = some u := by
  cases h with
  | sl _ _ A n c us hn hnc hc hs hA hone hu =>
    subst hn
    obtain ⟨b, off, rfl, hok, hlt, hcell⟩ := hA h0
    have hdiv : ∀ k, k < Y.length * s → k / s < Y.length ∧ k % s < s ∧ k / s * s + k % s = k := fun k hk => by
      have hs0 : 0 < s := by rcases Nat.eq_zero_or_pos s with e | e; (subst e; simp at hk); exact e
      exact ⟨Nat.div_lt_of_lt_mul (by rw [Nat.mul_comm]; exact hk), Nat.mod_lt _ hs0, by rw [Nat.mul_comm]; exact Nat.div_add_mod k s⟩
    refine ⟨b, off, c, (List.range (Y.length * s)).map fun k => us (k / s) (k % s), rfl, hok, hlt, hnc, hc, ⟨by simp, hs, fun u hu' => ?_, fun i j hi hj => ?_⟩, fun j u hj => ?_⟩
    · obtain ⟨k, hk, rfl⟩ := List.mem_map.1 hu'
      obtain ⟨q1, q2, _⟩ := hdiv k (by simpa using hk)
      exact hone _ _ q1 q2
    · have hlt' : i * s + j < Y.length * s := by have : (i + 1) * s ≤ Y.length * s := Nat.mul_le_mul_right _ hi; rw [Nat.add_mul] at this; omega
      have hs0 : 0 < s := by omega
      have e4 : (i * s + j) / s = i := by rw [Nat.add_comm, Nat.add_mul_div_right _ _ hs0, Nat.div_eq_of_lt hj]; omega
      have e5 : (i * s + j) % s = j := by rw [Nat.add_comm, Nat.add_mul_mod_self_right, Nat.mod_eq_of_lt hj]
      have e2 : ((List.range (Y.length * s)).map fun k => us (k / s) (k % s)).getD (i * s + j) undef = us i j := by
        rw [List.getD_eq_getElem?_getD, List.getElem?_map, List.getElem?_range hlt']; simp [e4, e5]
      rw [e2]
      have hmem : gt2 Y i j ∈ Y.getD i [] := by
        have hYi : (Y.getD i []) ∈ Y := by rw [List.getD_eq_getElem?_getD, List.getElem?_eq_getElem hi]; exact List.getElem_mem hi
        have hjl : j < (Y.getD i []).length := by rw [hs _ hYi]; exact hj
        unfold gt2
        rw [List.getD_eq_getElem?_getD (l := Y.getD i []), List.getElem?_eq_getElem hjl]
        exact List.getElem_mem hjl
      have hYi : (Y.getD i []) ∈ Y := by rw [List.getD_eq_getElem?_getD, List.getElem?_eq_getElem hi]; exact List.getElem_mem hi
      exact (flat_rv (hu i j hi hj) (hf _ hYi _ hmem)).mono fun g hg _ => hg.elim
    · have hjl : j < Y.length * s := by
        have := (List.getElem?_eq_some_iff.1 hj).1
        simpa using this
      obtain ⟨q1, q2, q3⟩ := hdiv j hjl
      rw [List.getElem?_map, List.getElem?_range hjl] at hj
      simp only [Option.map_some, Option.some.injEq] at hj
      rw [← hj, ← hcell _ _ q1 q2]
      congr 2; omega
end Go.Proofs.YtocgoabplafoeaaDoor
/- slices.Insert at api.TubeNode. -/
namespace Go.Proofs.YtocgoabplafoeaaDoor
open Go.RowKit Go.Lib
set_option linter.unusedVariables false
set_option linter.unusedSimpArgs false
set_option maxRecDepth 1000000
set_option maxHeartbeats 4000000
theorem insNd_info : (Tryd.prog.info? 34).map (fun i => (i.zero, i.size, i.bytes)) = some (some (.agg #[.int .i64 0, .int .i64 0, .int .i64 0, .int .i64 0, .int .i64 0, .int .i64 0]), 6, 48) := by kernel_rfl
theorem insNd_size (w : World) : (Go.sizeOf 34).run Tryd.prog w = .ok 6 w := by kernel_rfl
theorem insNd_und : Tryd.prog.underlying 23 = some (.slice 34) := by kernel_rfl
theorem insNd_und2 : Tryd.prog.underlying 22 = some (.slice 34) := by kernel_rfl
/-- At the end. -/
theorem insNd_end (A : Option Addr) (n c vb vo m vc : Nat) (hm : 0 < m) (hnc : n ≤ c) (hc : c ≤ maxLen) (w w' : World) (v' : Value) (hrun : (Builtin.append_ #[23, 22] 23 #[.slice A n c, .slice (some ⟨vb, vo, none⟩) m vc]).run Tryd.prog w = .ok v' w') :
    Calls Tryd.prog 61 #[.slice A n c, .int .i64 n, .slice (some ⟨vb, vo, none⟩) m vc] w fun e W => e = .returned v' ∧ W = w' := by
  unfold maxLen at hc
  have hz1 : ¬ ((m : Int) = 0) := by omega
  have hb : (n : Int) ≤ 9223372036854775807 := by omega
  go_enter Tryd.func61, Tryd.ntmps61
  cases A with
  | none =>
    go_wp2_with (at_builtin; refine Lib.wpList_append_run _ rfl _ _ _ _ rfl _ _ rfl rfl _ _ hrun ?_)
    all_goals (go_ret; exact ⟨rfl, rfl⟩)
  | some a =>
    obtain ⟨ab, ao, asp⟩ := a
    go_wp2_with (at_builtin; refine Lib.wpList_append_run _ rfl _ _ _ _ rfl _ _ rfl rfl _ _ hrun ?_)
    all_goals (go_ret; exact ⟨rfl, rfl⟩)
/-- In place. -/
theorem insNd_shift (b n c i vb vo m vc : Nat) (xs ys : List Value) (cur : Array Value) (w : World) (hi : i < n) (hm : 0 < m) (hroom : n + m ≤ c) (hc63 : c ≤ 9223372036854775807) (hvb : vb ≠ b)
    (hcl : xs.length = n * 6) (hvl : ys.length = m * 6) (hg : w.heap[b]? = some (.cells cur 34 (0, 0))) (hcs : cur.size = c * 6) (htk : cur.toList.take (n * 6) = xs)
    (hvs : ∀ j v, ys[j]? = some v → w.cell? ⟨vb, vo + j, none⟩ = some v) (h1c : ∀ v ∈ xs, v.oneCell' = true) (h1v : ∀ v ∈ ys, v.oneCell' = true) :
    Calls Tryd.prog 61 #[.slice (some ⟨b, 0, none⟩) n c, .int .i64 i, .slice (some ⟨vb, vo, none⟩) m vc] w fun e w' =>
      e = .returned (.slice (some ⟨b, 0, none⟩) (n + m) c) ∧ w' = (w.drew.setCells b ((i + m) * 6) (xs.drop (i * 6))).setCells b (i * 6) ys := by
  have mixed : Tryd.prog.follows .mixedOrders = true := by kernel_rfl
  have hz1 : ¬ ((m : Int) = 0) := by omega
  have hz2 : ¬ ((i : Int) = (n : Int)) := by omega
  have hsz : (Tryd.prog.info? 34).map (·.size) = some 6 := by kernel_rfl
  have hy0 : ∃ v, w.cell? ⟨vb, vo, none⟩ = some v := by
    have h0 : 0 < ys.length := by rw [hvl]; omega
    exact ⟨ys[0], by simpa using hvs 0 _ (List.getElem?_eq_getElem h0)⟩
  obtain ⟨csA, tA, fz, hA, hA0⟩ : ∃ csA tA fz, w.heap[vb]? = some (.cells csA tA fz) ∧ csA.size ≠ 0 := by
    obtain ⟨v, hv⟩ := hy0
    unfold World.cell? at hv
    cases hq : w.heap[vb]? with
    | none => simp [hq] at hv
    | some o =>
      cases o with
      | cells cs tA fz =>
        refine ⟨cs, tA, fz, rfl, fun e => ?_⟩
        have : cs = #[] := by simpa using e
        subst this
        simp [hq] at hv
      | _ => simp [hq] at hv
  have hov : ∀ lb cb, (callFunc 75 #[.slice (some ⟨vb, vo, none⟩) m vc, .slice (some ⟨b, (i + m) * 6, none⟩) lb cb]).run Tryd.prog w = .ok (.value (.bool false)) w := fun lb cb => by
    rw [run_callFunc_extern Tryd.func75 (by kernel_rfl) (by kernel_rfl) (by kernel_rfl) (e := Extern.SlicesOverlaps.overlaps #[22, 22] #[4]) (by kernel_rfl),
      run_overlaps_own w 22 4 34 insNd_und2 6 insNd_size ⟨vb, vo, none⟩ ⟨b, (i + m) * 6, none⟩ m vc lb cb hvb csA tA fz hA hA0 cur 34 hg]
    rfl
  have hdl : (xs.drop (i * 6)).length = (n - i) * 6 := by rw [List.length_drop, hcl, Nat.sub_mul]
  have hw1 : IntKind.i64.wrap ((i : Int) + (m : Int)) = (i : Int) + (m : Int) := by rw [IntKind.wrap_i64]; omega
  have hb1 : (0 : Int) ≤ (i : Int) + (m : Int) := by omega
  have hin : i ≤ n := by omega
  have htn : ((i : Int) + (m : Int)).toNat = i + m := by omega
  have hb2 : ¬ (c = i + m) := by omega
  have hb3 : (i : Int) ≤ (n : Int) + (m : Int) := by omega
  have hb4 : ¬ (c = i) := by omega
  have hfz : ∀ (W : World) (cs : Array Value), W.heap[b]? = some (.cells cs 34 (0, 0)) → ∀ k, W.frozen? ⟨b, k, none⟩ = false := fun W cs hW k => by simp [World.frozen?, hW]
  have hsp : ∀ (W : World) (cs : Array Value), W.heap[b]? = some (.cells cs 34 (0, 0)) → ∀ k, k < cs.size → (W.cell? ⟨b, k, none⟩).isSome = true := fun W cs hW k hk => by
    rw [cell_of_row W b k cs 34 (0, 0) hW]; simp [hk]
  have hmul : ∀ a b : Nat, a ≤ b → a * 6 ≤ b * 6 := fun a b h => Nat.mul_le_mul_right _ h
  have hg1 : w.drew.heap[b]? = some (.cells cur 34 (0, 0)) := hg
  have hcp1 : ∀ ty dc sc, (Builtin.copy_ #[23, 23] ty #[.slice (some ⟨b, (i + m) * 6, none⟩) (n + m - (i + m)) dc, .slice (some ⟨b, i * 6, none⟩) (n + m - i) sc]).run Tryd.prog w.drew = .ok (goInt ((n - i : Nat) : Int)) (w.drew.setCells b ((i + m) * 6) (xs.drop (i * 6))) := fun ty dc sc =>
    run_copy_s w.drew _ _ ty 34 6 b ((i + m) * 6) (n + m - (i + m)) dc ⟨b, i * 6, none⟩ (n + m - i) sc (xs.drop (i * 6)) (n - i) insNd_und hsz (by simp only [Nat.min_def]; split <;> omega) hdl
      (fun j v hj => by
        rw [Addr.add_lit, cell_of_row _ b _ cur 34 (0, 0) hg1]
        rw [List.getElem?_drop, ← htk, List.getElem?_take] at hj
        split at hj
        · rw [← Array.getElem?_toList]; exact hj
        · cases hj)
      (fun j hj => hsp _ cur hg1 _ (by rw [hdl] at hj; rw [hcs]; have := hmul (n + m) c hroom; rw [Nat.add_mul] at this; rw [Nat.sub_mul] at hj; have := hmul i n hin; rw [Nat.add_mul]; omega)) (fun j hj => hfz _ cur hg1 _) (fun v hv => h1c v (List.mem_of_mem_drop hv))
  obtain ⟨W1, hW1⟩ : ∃ W1, W1 = w.drew.setCells b ((i + m) * 6) (xs.drop (i * 6)) := ⟨_, rfl⟩
  have hg2 : W1.heap[b]? = some (.cells (setR cur ((i + m) * 6) (xs.drop (i * 6))) 34 (0, 0)) := by rw [hW1]; exact setCells_blk _ _ _ _ hg1
  have hcp2 : ∀ (W : World), W.heap = W1.heap → ∀ ty dc, (Builtin.copy_ #[23, 22] ty #[.slice (some ⟨b, i * 6, none⟩) (n + m - i) dc, .slice (some ⟨vb, vo, none⟩) m vc]).run Tryd.prog W = .ok (goInt m) (W.setCells b (i * 6) ys) := fun W hWh ty dc =>
    run_copy_s W _ _ ty 34 6 b (i * 6) (n + m - i) dc ⟨vb, vo, none⟩ m vc ys m insNd_und hsz (by simp only [Nat.min_def]; split <;> omega) hvl
      (fun j v hj => by
        have e1 : W.cell? (({ block := vb, off := vo } : Addr).add j) = W1.cell? (({ block := vb, off := vo } : Addr).add j) := World.cell?_of_block (by rw [hWh])
        rw [e1, hW1, Addr.add_lit, World.cell?_setCells_out b _ _ _ _ (fun h _ => absurd h hvb)]
        exact hvs j v hj)
      (fun j hj => hsp W _ (by rw [hWh]; exact hg2) _ (by rw [setR_size, hcs]; rw [hvl] at hj; have := hmul (i + m) c (by omega); rw [Nat.add_mul] at this; omega)) (fun j hj => hfz W _ (by rw [hWh]; exact hg2) _) h1v
  rw [← hW1] at hcp1
  clear hg2 hg1 hsp hfz hmul htk hcs hg hA hA0 h1c hcl
  go_enter Tryd.func61, Tryd.ntmps61
  go_wp2_with (simp only [hov])
  go_region_law_o (refine step_copy_run rfl _ _ 23 23 rfl _ _ (by simp [Act.eval, Act.put]) (by simp [Act.eval, Act.put]) (hcp1 _ _ _) ?_)
  go_wp2_with (at_builtin; refine wpList_copy_run _ rfl _ _ 23 22 rfl _ _ rfl rfl (hcp2 _ rfl _ _) ?_)
  go_ret
  first | exact ⟨rfl, rfl⟩ | exact ⟨rfl, by rw [hW1]⟩
/-- Into a new row. -/
theorem insNd_grow (b n c i vb vo m vc : Nat) (xs ys : List Value) (cur : Array Value) (w : World) (hi : i < n) (hm : 0 < m) (hnc : n ≤ c) (hroom : c < n + m) (hbig : (n + m) * 48 ≤ 140737488355328)
    (hcl : xs.length = n * 6) (hvl : ys.length = m * 6) (hg : w.heap[b]? = some (.cells cur 34 (0, 0))) (hcs : cur.size = c * 6) (htk : cur.toList.take (n * 6) = xs)
    (hvs : ∀ j v, ys[j]? = some v → w.cell? ⟨vb, vo + j, none⟩ = some v) (h1c : ∀ v ∈ xs, v.oneCell' = true) (h1v : ∀ v ∈ ys, v.oneCell' = true) :
    ∃ (G : Nat) (ROW : Array Value) (W : World), n + m ≤ G ∧ G ≤ maxLen ∧ ROW.size = G * 6 ∧ ROW.toList.take (i * 6) = xs.take (i * 6) ∧ W.heap = (w.alloc (.cells ROW 34)).heap ∧ W.os = w.os ∧ W.tape = w.tape ∧ W.output = w.output ∧ w.drawn ≤ W.drawn ∧
    Calls Tryd.prog 61 #[.slice (some ⟨b, 0, none⟩) n c, .int .i64 i, .slice (some ⟨vb, vo, none⟩) m vc] w fun e w' =>
      e = .returned (.slice (some ⟨w.heap.size, 0, none⟩) (n + m) G) ∧ w' = ((W.setCells w.heap.size (i * 6) ys).drew).setCells w.heap.size ((i + m) * 6) (xs.drop (i * 6)) := by
  have mixed : Tryd.prog.follows .mixedOrders = true := by kernel_rfl
  obtain ⟨i0, hi0, hz0, hzs, hzb⟩ : ∃ i0, Tryd.prog.info? 34 = some i0 ∧ i0.zero = some (.agg #[.int .i64 0, .int .i64 0, .int .i64 0, .int .i64 0, .int .i64 0, .int .i64 0]) ∧ i0.size = 6 ∧ i0.bytes = 48 := by
    have := insNd_info
    cases hq : Tryd.prog.info? 34 with
    | none => rw [hq] at this; cases this
    | some i0 => rw [hq] at this; simp at this; exact ⟨i0, rfl, this.1, this.2.1, this.2.2⟩
  have hz1 : ¬ ((m : Int) = 0) := by omega
  have hz2 : ¬ ((i : Int) = (n : Int)) := by omega
  have hz3 : (c : Int) < (n : Int) + (m : Int) := by omega
  have hsz : (Tryd.prog.info? 34).map (·.size) = some 6 := by kernel_rfl
  have hbw : b < w.heap.size := (Array.getElem?_eq_some_iff.1 hg).1
  have hvw : vb < w.heap.size := block_lt_of_cell (hvs 0 _ (List.getElem?_eq_getElem (by omega)))
  have hkk : (n : Int) + (m : Int) - (i : Int) = ((n + m - i : Nat) : Int) := by omega
  have hik : i + (n + m - i) = n + m := by omega
  have hmul : ∀ a b : Nat, a ≤ b → a * 6 ≤ b * 6 := fun a b h => Nat.mul_le_mul_right _ h
  have hget : ∀ (W : World), W.heap = w.heap → ∀ j v, xs[j]? = some v → W.cell? ⟨b, j, none⟩ = some v := fun W hW j v hj => by
    rw [cell_of_row W b j cur 34 (0, 0) (by rw [hW]; exact hg)]
    rw [← htk, List.getElem?_take] at hj
    split at hj
    · rw [← Array.getElem?_toList]; exact hj
    · cases hj
  have hold : (Builtin.firstCells i0.size i (.slice (some ⟨b, 0, none⟩) i c)).run Tryd.prog w.drew = .ok (xs.take (i * 6)).toArray w.drew := by
    rw [hzs]
    exact run_firstCells_some w.drew 6 i ⟨b, 0, none⟩ i c (xs.take (i * 6)) (by rw [List.length_take, hcl]; have := hmul i n (by omega); omega) (fun j v hj => by
      rw [Addr.add_lit, Nat.zero_add]
      rw [List.getElem?_take] at hj
      split at hj
      · exact hget w.drew rfl j v hj
      · cases hj)
  have hrz : ∀ ty, (Builtin.append_ #[23, 3] ty #[.slice (some ⟨b, 0, none⟩) i c, .int .i64 ((n : Int) + (m : Int) - (i : Int))]).run Tryd.prog w =
      .ok (.slice (some ⟨w.heap.size, 0, none⟩) (n + m) (grownCap w (n + m) c 34)) (w.drew.alloc (.cells ((xs.take (i * 6)).toArray ++ Builtin.zeroCells (.agg #[.int .i64 0, .int .i64 0, .int .i64 0, .int .i64 0, .int .i64 0, .int .i64 0] : Value).cells (n + m - i) ++ Builtin.zeroCells (.agg #[.int .i64 0, .int .i64 0, .int .i64 0, .int .i64 0, .int .i64 0, .int .i64 0] : Value).cells (grownCap w (n + m) c 34 - (n + m))) 34)) := fun ty => by
    have h := Lib.run_append_grow_zeros w 23 3 ty 34 i0 _ .i64 .i64 insNd_und (by kernel_rfl) hi0 hz0 (some ⟨b, 0, none⟩) i c (xs.take (i * 6)) hold (n + m - i) (by omega) (by omega) (by omega) (by omega) (by rw [hzb]; omega) (by rw [hzb, hik]; exact growslice_fits hroom hbig)
    rw [hik] at h
    rw [hkk]
    exact h
  obtain ⟨G, hG⟩ : ∃ G, G = grownCap w (n + m) c 34 := ⟨_, rfl⟩
  obtain ⟨ROW, hROW⟩ : ∃ ROW : Array Value, ROW = (xs.take (i * 6)).toArray ++ Builtin.zeroCells (.agg #[.int .i64 0, .int .i64 0, .int .i64 0, .int .i64 0, .int .i64 0, .int .i64 0] : Value).cells (n + m - i) ++ Builtin.zeroCells (.agg #[.int .i64 0, .int .i64 0, .int .i64 0, .int .i64 0, .int .i64 0, .int .i64 0] : Value).cells (G - (n + m)) := ⟨_, rfl⟩
  rw [← hG] at hrz
  rw [← hROW] at hrz
  have hGn : n + m ≤ G := by rw [hG]; exact grownCap_ge w _ _ _
  have hGm : G ≤ maxLen := by rw [hG]; exact grownCap_le_maxLen w (n + m) c 34 (by unfold maxLen; omega)
  have htl : (xs.take (i * 6)).length = i * 6 := by rw [List.length_take, hcl]; have := hmul i n (by omega); omega
  have hRl : ROW.size = G * 6 := by
    rw [hROW]
    simp only [Array.size_append, List.size_toArray, htl, Builtin.zeroCells, Value.cells, Array.size_map, Array.size_range]
    show i * 6 + (n + m - i) * 6 + (G - (n + m)) * 6 = G * 6
    rw [← Nat.add_mul, ← Nat.add_mul]; congr 1; omega
  have hRt : ROW.toList.take (i * 6) = xs.take (i * 6) := by
    rw [hROW]
    simp only [Array.toList_append, List.append_assoc]
    exact List.take_left' htl
  obtain ⟨W1, hW1⟩ : ∃ W1, W1 = w.drew.alloc (.cells ROW 34) := ⟨_, rfl⟩
  rw [← hW1] at hrz
  have hN0 : W1.heap[w.heap.size]? = some (.cells ROW 34 (0, 0)) := by rw [hW1]; show (w.heap.push _)[w.heap.size]? = _; simp
  have hold2 : ∀ k, k < w.heap.size → W1.heap[k]? = w.heap[k]? := fun k hk => by rw [hW1]; show (w.heap.push _)[k]? = _; rw [Array.getElem?_push, if_neg (by omega)]
  have hfz : ∀ (W : World) (cs : Array Value), W.heap[w.heap.size]? = some (.cells cs 34 (0, 0)) → ∀ k, W.frozen? ⟨w.heap.size, k, none⟩ = false := fun W cs hW k => by simp [World.frozen?, hW]
  have hsp : ∀ (W : World) (cs : Array Value), W.heap[w.heap.size]? = some (.cells cs 34 (0, 0)) → ∀ k, k < cs.size → (W.cell? ⟨w.heap.size, k, none⟩).isSome = true := fun W cs hW k hk => by
    rw [cell_of_row W w.heap.size k cs 34 (0, 0) hW]; simp [hk]
  have hcpA : ∀ (W : World), W.heap = W1.heap → ∀ ty dc, (Builtin.copy_ #[23, 22] ty #[.slice (some ⟨w.heap.size, i * 6, none⟩) (n + m - i) dc, .slice (some ⟨vb, vo, none⟩) m vc]).run Tryd.prog W = .ok (goInt m) (W.setCells w.heap.size (i * 6) ys) := fun W hWh ty dc =>
    run_copy_s W _ _ ty 34 6 w.heap.size (i * 6) (n + m - i) dc ⟨vb, vo, none⟩ m vc ys m insNd_und hsz (by simp only [Nat.min_def]; split <;> omega) hvl
      (fun j v hj => by
        have e1 : W.cell? (({ block := vb, off := vo } : Addr).add j) = w.cell? (({ block := vb, off := vo } : Addr).add j) := World.cell?_of_block (by rw [hWh, Addr.add_lit]; exact hold2 vb hvw)
        rw [e1, Addr.add_lit]
        exact hvs j v hj)
      (fun j hj => hsp W _ (by rw [hWh]; exact hN0) _ (by rw [hRl]; rw [hvl] at hj; have := hmul (i + m) G (by omega); rw [Nat.add_mul] at this; omega)) (fun j hj => hfz W _ (by rw [hWh]; exact hN0) _) h1v
  have hG63 : G ≤ 9223372036854775807 := hGm
  have hGi : ¬ (G = i) := by omega
  have hGim : ¬ (G = i + m) := by omega
  have hci : ¬ (c = i) := by omega
  have hbN : b ≠ w.heap.size := by omega
  have hdl : (xs.drop (i * 6)).length = (n - i) * 6 := by rw [List.length_drop, hcl, Nat.sub_mul]
  have hN1 : ∀ W : World, W.heap = W1.heap → (W.setCells w.heap.size (i * 6) ys).heap[w.heap.size]? = some (.cells (setR ROW (i * 6) ys) 34 (0, 0)) := fun W hW => setCells_blk _ _ _ _ (by rw [hW]; exact hN0)
  have hcpB : ∀ (W W2 : World), W.heap = W1.heap → W2.heap = (W.setCells w.heap.size (i * 6) ys).heap → ∀ ty dc sc, (Builtin.copy_ #[23, 23] ty #[.slice (some ⟨w.heap.size, (i + m) * 6, none⟩) (n + m - (i + m)) dc, .slice (some ⟨b, i * 6, none⟩) (n - i) sc]).run Tryd.prog W2 = .ok (goInt ((n - i : Nat) : Int)) (W2.setCells w.heap.size ((i + m) * 6) (xs.drop (i * 6))) := fun W W2 hWh hW2 ty dc sc =>
    run_copy_s W2 _ _ ty 34 6 w.heap.size ((i + m) * 6) (n + m - (i + m)) dc ⟨b, i * 6, none⟩ (n - i) sc (xs.drop (i * 6)) (n - i) insNd_und hsz (by simp only [Nat.min_def]; split <;> omega) hdl
      (fun j v hj => by
        have hbS : b < W.heap.size := by rw [hWh, hW1]; show b < (w.heap.push _).size; simp; omega
        have e1 : W2.heap[b]? = w.heap[b]? := by rw [hW2, World.heap_setCells_other W w.heap.size _ _ hbS hbN, hWh]; exact hold2 b hbw
        rw [Addr.add_lit, cell_of_row W2 b _ cur 34 (0, 0) (by rw [e1]; exact hg)]
        rw [List.getElem?_drop, ← htk, List.getElem?_take] at hj
        split at hj
        · rw [← Array.getElem?_toList]; exact hj
        · cases hj)
      (fun j hj => hsp W2 _ (by rw [hW2]; exact hN1 W hWh) _ (by rw [setR_size, hRl]; rw [hdl, Nat.sub_mul] at hj; have := hmul (n + m) G hGn; rw [Nat.add_mul] at this; have := hmul i n (by omega); rw [Nat.add_mul]; omega)) (fun j hj => hfz W2 _ (by rw [hW2]; exact hN1 W hWh) _) (fun v hv => h1c v (List.mem_of_mem_drop hv))
  have hw1 : IntKind.i64.wrap ((i : Int) + (m : Int)) = (i : Int) + (m : Int) := by rw [IntKind.wrap_i64]; omega
  have hb1 : (0 : Int) ≤ (i : Int) + (m : Int) := by omega
  have hin : i ≤ n := by omega
  have htn : ((i : Int) + (m : Int)).toNat = i + m := by omega
  have hb3 : (i : Int) ≤ (n : Int) := by omega
  refine ⟨G, ROW, (w.alloc (.cells ROW 34)).drew, hGn, hGm, hRl, hRt, rfl, rfl, rfl, rfl, Nat.le_succ _, ?_⟩
  subst hW1
  have hE : ((w.alloc (.cells ROW 34)).drew).heap = (w.drew.alloc (.cells ROW 34)).heap := rfl
  have hF : (((w.alloc (.cells ROW 34)).drew.setCells w.heap.size (i * 6) ys).drew).heap = ((w.alloc (.cells ROW 34)).drew.setCells w.heap.size (i * 6) ys).heap := rfl
  clear hkk hik hold hROW hG hRl hRt hN0 hN1 hold2 hfz hsp hmul hget hg htk hcs h1c hcl htl
  go_enter Tryd.func61, Tryd.ntmps61
  go_wp2_with (first
    | (at_builtin; refine Lib.wpList_append_run _ rfl _ _ _ _ rfl _ _ rfl rfl _ _ (hrz _) ?_)
    | (at_builtin; refine wpList_copy_run _ rfl _ _ 23 22 rfl _ _ rfl rfl (hcpA _ hE _ _) ?_))
  go_region_law_o (refine step_copy_run rfl _ _ 23 23 rfl (.slice (some ⟨w.heap.size, (i + m) * 6, none⟩) (n + m - (i + m)) (G - (i + m))) (.slice (some ⟨b, i * 6, none⟩) (n - i) (c - i)) (by simp [Act.eval, Act.put]) (by simp [Act.eval, Act.put]) (hcpB _ _ hE hF 3 (G - (i + m)) (c - i)) ?_)
  go_wp2
  go_ret
  exact ⟨rfl, rfl⟩
theorem insNd (L Y : List (List AV)) (i : Nat) (hi : i ≤ L.length) (hY : 0 < Y.length) (hf : ∀ y ∈ Y, ∀ z ∈ y, z.flat) (hbig : (L.length + Y.length) * 48 ≤ 140737488355328) :
    FnU Tryd.prog 61 34 6 (.sl 6 L) [.int i, .sl 6 Y] true (.sl 6 (L.take i ++ (Y ++ L.drop i))) := by
  refine ⟨Tryd.call61, ?_⟩
  intro w ok B okc v0 cargs hrow hokc hok hB hgl hsz hargs
  have h0 := hargs 0 (by simp)
  have h1 := hargs 1 (by simp)
  obtain ⟨vy, hc0, hvy⟩ : ∃ vy, cargs = #[.int .i64 i, vy] ∧ RV w ok (.sl 6 Y) vy := by
    have hsz2 : cargs.size = 2 := by simpa using hsz
    obtain ⟨l⟩ := cargs
    match l, hsz2 with
    | [a, b], _ =>
      have e0 : a = .int .i64 i := RV.lit_iff.1 (by simpa using h0)
      exact ⟨b, by rw [e0], by simpa using h1⟩
  subst hc0
  clear hargs h0 h1 hsz
  obtain ⟨vb, vo, vc, ys, rfl, hvok, hvlt, hvc, hvcm, hys, hycell⟩ := cells_flat (okc := okc) hvy hf hY
  have hvb := (hok vb hvok).1
  obtain ⟨L', xs, e1, hs, hL, ho, hone, hv⟩ := hrow
  injection e1 with _ e1
  subst e1
  have hC : CellsOf w okc 6 L xs := ⟨ho.1, hL, hone, hv⟩
  by_cases hin : i = L.length
  · subst hin
    obtain ⟨i0, hi0, hz0, hzs, hzb⟩ : ∃ i0, Tryd.prog.info? 34 = some i0 ∧ i0.zero = some (.agg #[.int .i64 0, .int .i64 0, .int .i64 0, .int .i64 0, .int .i64 0, .int .i64 0]) ∧ i0.size = 6 ∧ i0.bytes = 48 := by
      have := insNd_info
      cases hq : Tryd.prog.info? 34 with
      | none => rw [hq] at this; cases this
      | some i0 => rw [hq] at this; simp at this; exact ⟨i0, rfl, this.1, this.2.1, this.2.2⟩
    obtain ⟨v', w', hrun, h2, h3, _, h5⟩ := run_append_own_at (P := Tryd.prog) w B 23 22 34 i0 _ 6 48 insNd_und hi0 hz0 hzs hzb (by simp [Value.cells]) hs v0 L.length xs ho ⟨vb, vo, none⟩ Y.length vc ys hys.len (fun j u hj => by rw [Addr.add_lit]; exact hycell j u hj) hys.one (by unfold maxLen; omega) hbig hB
    have hform : ∃ A c, v0 = .slice A L.length c ∧ L.length ≤ c ∧ c ≤ maxLen := by
      rcases ho.2 with ⟨rfl, hn0⟩ | ⟨g, cap, cur, rfl, _, _, hnc, hm, _⟩
      · exact ⟨none, 0, by rw [hn0], by omega, by unfold maxLen; omega⟩
      · exact ⟨_, _, rfl, hnc, hm⟩
    obtain ⟨A, c, rfl, hnc, hcm⟩ := hform
    refine (insNd_end A L.length c vb vo Y.length vc hY hnc hcm w w' v' hrun).mono ?_
    rintro e W ⟨rfl, rfl⟩
    have hC2 : CellsOf W okc 6 (L ++ Y) (xs ++ ys) := (hC.app hys).mono fun b hb hlt => ⟨hb, h3.block b hlt fun e => (hokc b hb).1 e.symm⟩
    refine ⟨v', rfl, h3, ?_, by simp, fun g hg => ?_, run_drawn _ hrun⟩
    · rw [List.take_length, List.drop_length, List.append_nil]
      exact ⟨_, _, rfl, hs, hC2.each, by rw [List.length_append]; exact h2, hC2.one, hC2.val⟩
    · rcases h5 with q | q
      · left; rw [← q]; exact hg
      · right; rw [q] at hg; injection hg with hg; omega
  have hlt : i < L.length := by omega
  rcases ho.2 with ⟨rfl, hn0⟩ | ⟨g, cap, cur, rfl, hBg, hg, hnc, hm, hcs, htk⟩
  · omega
  have hvg : vb ≠ g := fun e => hvb (by rw [e]; rfl)
  have hlen : (L.take i ++ (Y ++ L.drop i)).length = L.length + Y.length := by simp; omega
  have hC2 : CellsOf w okc 6 (L.take i ++ (Y ++ L.drop i)) (xs.take (i * 6) ++ (ys ++ xs.drop (i * 6))) := (hC.take i hi).app (hys.app (hC.drop i))
  have hmul : ∀ a b : Nat, a ≤ b → a * 6 ≤ b * 6 := fun a b h => Nat.mul_le_mul_right _ h
  have his := hmul i L.length hi
  have hxt : (xs.take (i * 6)).length = i * 6 := by rw [List.length_take, ho.1]; omega
  have hxd : (xs.drop (i * 6)).length = (L.length - i) * 6 := by rw [List.length_drop, ho.1, Nat.sub_mul]
  -- what the two writes leave
  have key : ∀ (cap' : Nat) (C : Array Value), C.size = cap' * 6 → L.length + Y.length ≤ cap' → C.toList.take (i * 6) = xs.take (i * 6) →
      (setR (setR C (i * 6) ys) ((i + Y.length) * 6) (xs.drop (i * 6))).toList.take ((L.length + Y.length) * 6) = xs.take (i * 6) ++ (ys ++ xs.drop (i * 6)) := by
    intro cap' C hCs hcap hCt
    have q0 := hmul (L.length + Y.length) cap' hcap
    rw [Nat.add_mul] at q0
    have q2 : (L.length - i) * 6 = L.length * 6 - i * 6 := Nat.sub_mul _ _ _
    rw [setR_list _ _ _ (by rw [setR_size, hCs, hxd, Nat.add_mul]; omega), setR_list _ _ _ (by rw [hCs, hys.len]; omega), hCt, hys.len, Nat.add_mul i Y.length]
    have e1 : ((xs.take (i * 6) ++ ys ++ C.toList.drop (i * 6 + Y.length * 6)).take (i * 6 + Y.length * 6)) = xs.take (i * 6) ++ ys := List.take_left' (by rw [List.length_append, hxt, hys.len])
    rw [e1, List.append_assoc (xs.take (i * 6)) ys]
    exact List.take_left' (by rw [List.length_append, List.length_append, hxt, hys.len, hxd, Nat.add_mul]; omega)
  have key2 : ∀ (cap' : Nat) (C : Array Value), C.size = cap' * 6 → L.length + Y.length ≤ cap' → C.toList.take (i * 6) = xs.take (i * 6) →
      (setR (setR C ((i + Y.length) * 6) (xs.drop (i * 6))) (i * 6) ys).toList.take ((L.length + Y.length) * 6) = xs.take (i * 6) ++ (ys ++ xs.drop (i * 6)) := by
    intro cap' C hCs hcap hCt
    have q0 := hmul (L.length + Y.length) cap' hcap
    rw [Nat.add_mul] at q0
    have q2 : (L.length - i) * 6 = L.length * 6 - i * 6 := Nat.sub_mul _ _ _
    rw [setR_list _ _ _ (by rw [setR_size, hCs, hys.len]; omega), setR_list _ _ _ (by rw [hCs, hxd, Nat.add_mul]; omega), hys.len, Nat.add_mul i Y.length]
    have hl1 : (C.toList.take (i * 6 + Y.length * 6)).length = i * 6 + Y.length * 6 := by rw [List.length_take, show C.toList.length = C.size from Array.length_toList, hCs]; omega
    have e1 : (C.toList.take (i * 6 + Y.length * 6) ++ xs.drop (i * 6) ++ C.toList.drop (i * 6 + Y.length * 6 + (xs.drop (i * 6)).length)).take (i * 6) = xs.take (i * 6) := by
      rw [List.append_assoc, List.take_append_of_le_length (by rw [hl1]; omega), List.take_take, Nat.min_eq_left (by omega), hCt]
    have e2 : (C.toList.take (i * 6 + Y.length * 6) ++ xs.drop (i * 6) ++ C.toList.drop (i * 6 + Y.length * 6 + (xs.drop (i * 6)).length)).drop (i * 6 + Y.length * 6) = xs.drop (i * 6) ++ C.toList.drop (i * 6 + Y.length * 6 + (xs.drop (i * 6)).length) := by
      rw [List.append_assoc]; exact List.drop_left' hl1
    rw [e1, e2, List.append_assoc (xs.take (i * 6)) ys, ← List.append_assoc ys, ← List.append_assoc (xs.take (i * 6))]
    exact List.take_left' (by rw [List.length_append, List.length_append, hxt, hys.len, hxd, Nat.add_mul]; omega)
  have hct : cur.toList.take (i * 6) = xs.take (i * 6) := by rw [← htk, List.take_take, Nat.min_eq_left his]
  by_cases hroom : L.length + Y.length ≤ cap
  · refine (insNd_shift g L.length cap i vb vo Y.length vc xs ys cur w hlt hY hroom hm hvg ho.1 hys.len hg hcs htk hycell hone hys.one).mono ?_
    rintro e w' ⟨rfl, rfl⟩
    have hg2 : ((w.drew.setCells g ((i + Y.length) * 6) (xs.drop (i * 6))).setCells g (i * 6) ys).heap[g]? = some (.cells (setR (setR cur ((i + Y.length) * 6) (xs.drop (i * 6))) (i * 6) ys) 34 (0, 0)) := setCells_blk _ _ _ _ (setCells_blk _ _ _ _ hg)
    have hgr : w.grownBy ((w.drew.setCells g ((i + Y.length) * 6) (xs.drop (i * 6))).setCells g (i * 6) ys) (some g) := grownBy_trans (grownBy_drew w (some g)) (grownBy_trans (grown_setCells _ _ _ _) (grown_setCells _ _ _ _))
    refine ⟨_, rfl, hgr, ?_, by simp, fun g' hg' => .inl hg', by rw [setCells_drawn, setCells_drawn]; exact Nat.le_succ _⟩
    have hC3 := hC2.mono (w' := (w.drew.setCells g ((i + Y.length) * 6) (xs.drop (i * 6))).setCells g (i * 6) ys) (okc' := okc) fun b hb hlt => ⟨hb, hgr.block b hlt fun e => (hokc b hb).1 e.symm⟩
    rw [← hlen]
    exact hC3.row hs hBg hg2 hm (by rw [setR_size, setR_size]; exact hcs) (by rw [hlen]; exact hroom) (by rw [hlen]; exact key2 cap cur hcs hroom hct)
  · obtain ⟨G, ROW, W, hGn, hGm, hRs, hRt, hWh, hWo, hWt, hWp, hWd, hcall⟩ := insNd_grow g L.length cap i vb vo Y.length vc xs ys cur w hlt hY hnc (by omega) hbig ho.1 hys.len hg hcs htk hycell hone hys.one
    refine hcall.mono ?_
    rintro e w' ⟨rfl, rfl⟩
    have hWs : W.heap.size = w.heap.size + 1 := by rw [hWh]; show (w.heap.push _).size = _; simp
    have hW0 : W.heap[w.heap.size]? = some (.cells ROW 34 (0, 0)) := by rw [hWh]; show (w.heap.push _)[w.heap.size]? = _; simp
    have hg2 : (((W.setCells w.heap.size (i * 6) ys).drew).setCells w.heap.size ((i + Y.length) * 6) (xs.drop (i * 6))).heap[w.heap.size]? = some (.cells (setR (setR ROW (i * 6) ys) ((i + Y.length) * 6) (xs.drop (i * 6))) 34 (0, 0)) := setCells_blk _ _ _ _ (setCells_blk _ _ _ _ hW0)
    have hgW : W.grownBy (((W.setCells w.heap.size (i * 6) ys).drew).setCells w.heap.size ((i + Y.length) * 6) (xs.drop (i * 6))) (some w.heap.size) := grownBy_trans (grown_setCells _ _ _ _) (grownBy_trans (grownBy_drew _ _) (grown_setCells _ _ _ _))
    have hblk : ∀ k, k < w.heap.size → (((W.setCells w.heap.size (i * 6) ys).drew).setCells w.heap.size ((i + Y.length) * 6) (xs.drop (i * 6))).heap[k]? = w.heap[k]? := fun k hk => by
      rw [hgW.block k (by omega) (fun e => by injection e with e; omega), hWh]
      show (w.heap.push _)[k]? = _
      rw [Array.getElem?_push, if_neg (by omega)]
    refine ⟨_, rfl, ⟨hgW.os.trans hWo, hgW.tape.trans hWt, hgW.output.trans hWp, Nat.le_trans (by omega) hgW.size, fun k hk _ => hblk k hk⟩, ?_, by simp, fun g' hg' => .inr (by have e : w.heap.size = g' := (by injection hg'); omega), by rw [setCells_drawn]; show w.drawn ≤ (W.setCells w.heap.size _ ys).drawn + 1; rw [setCells_drawn]; omega⟩
    have hC3 := hC2.mono (w' := ((W.setCells w.heap.size (i * 6) ys).drew).setCells w.heap.size ((i + Y.length) * 6) (xs.drop (i * 6))) (okc' := okc) fun b hb hlt => ⟨hb, hblk b hlt⟩
    rw [← hlen]
    exact hC3.row hs hB hg2 hGm (by rw [setR_size, setR_size]; exact hRs) (by rw [hlen]; exact hGn) (by rw [hlen]; exact key G ROW hRs hGn hRt)
end Go.Proofs.YtocgoabplafoeaaDoor
/- slices.Grow of nil at nodes of tubes; slices.Concat of three tubes. -/
namespace Go.Proofs.YtocgoabplafoeaaDoor
open Go.RowKit Go.Lib
set_option linter.unusedVariables false
set_option linter.unusedSimpArgs false
set_option maxRecDepth 100000
theorem rowsApart_row {v : Value} {e s : Nat} {f : Bool} : RowsApart v (.row e s f) := fun j i j' i' hr hr' hne => by
  have hl : ∀ j i, isRow (leafSh j i (.row e s f)) = true → j = 0 ∧ i = 0 := fun j i h => by
    cases j with
    | zero => cases i with
      | zero => exact ⟨rfl, rfl⟩
      | succ i => cases h
    | succ j => cases i <;> cases h
  obtain ⟨rfl, rfl⟩ := hl j i hr
  obtain ⟨rfl, rfl⟩ := hl j' i' hr'
  exact absurd rfl (hne.elim id id)
theorem grow_fn (n : Nat) (hn : n ≤ 100000) : Fn Tryd.prog 45 [.lit (.slice none 0 0), .int (n : Nat)] (.row 34 6 false) (.sl 6 []) := by
  refine ⟨Tryd.call45, fun w ok cargs hok hgl hsz hargs => ?_⟩
  have mixed : Tryd.prog.follows .mixedOrders = true := by kernel_rfl
  obtain ⟨i0, hi0, hz0, hzs, hzb⟩ : ∃ i0, Tryd.prog.info? 34 = some i0 ∧ i0.zero = some (.agg #[.int .i64 0, .int .i64 0, .int .i64 0, .int .i64 0, .int .i64 0, .int .i64 0]) ∧ i0.size = 6 ∧ i0.bytes = 48 := by
    have := insNd_info
    cases hq : Tryd.prog.info? 34 with
    | none => rw [hq] at this; cases this
    | some i0 => rw [hq] at this; simp at this; exact ⟨i0, rfl, this.1, this.2.1, this.2.2⟩
  obtain rfl : cargs = #[.slice none 0 0, .int .i64 (n : Nat)] := by
    obtain ⟨l⟩ := cargs
    match l, hsz with
    | [a, b], _ =>
      have h0 := hargs 0 (by simp)
      have h1 := hargs 1 (by simp)
      have e0 : a = .slice none 0 0 := RV.lit_iff.1 (by simpa using h0)
      have e1 : b = .int .i64 (n : Nat) := RV.lit_iff.1 (by simpa using h1)
      rw [e0, e1]
  have hnn : ¬ ((n : Int) < 0) := by omega
  have hw0 : IntKind.i64.wrap 0 = 0 := by decide
  have hwn : IntKind.i64.wrap (n : Int) = (n : Int) := by rw [IntKind.wrap_i64]; omega
  clear hargs hsz
  have hsz : (Tryd.prog.info? 34).map (·.size) = some 6 := by kernel_rfl
  rcases Nat.eq_zero_or_pos n with rfl | hpos
  · go_enter Tryd.func45, Tryd.ntmps45
    go_wp2_with fail
    refine ⟨rfl, _, results_tmp rfl _ _ _, _, rfl, Below.refl _ _, ⟨[], [], rfl, by omega, by simp, ⟨rfl, .inl ⟨rfl, rfl⟩⟩, by simp, fun i j hi => by simp at hi⟩, rowsApart_row, Nat.le_refl _⟩
  · have hgt : (0 : Int) < n := by omega
    have hrz : ∀ ty, (Builtin.append_ #[23, 3] ty #[.slice none 0 0, .int .i64 (n : Nat)]).run Tryd.prog w =
      .ok (.slice (some ⟨w.heap.size, 0, none⟩) n (grownCap w n 0 34)) (w.drew.alloc (.cells (Builtin.zeroCells (.agg #[.int .i64 0, .int .i64 0, .int .i64 0, .int .i64 0, .int .i64 0, .int .i64 0] : Value).cells n ++ Builtin.zeroCells (.agg #[.int .i64 0, .int .i64 0, .int .i64 0, .int .i64 0, .int .i64 0, .int .i64 0] : Value).cells (grownCap w n 0 34 - n)) 34)) := fun ty =>
      Lib.run_append_nil_zeros w 23 3 ty 34 i0 _ .i64 .i64 insNd_und (by kernel_rfl) hi0 hz0 n hpos (by omega) (by omega) (by rw [hzb]; omega)
    obtain ⟨G, hG⟩ : ∃ G, G = grownCap w n 0 34 := ⟨_, rfl⟩
    have hGn : n ≤ G := by rw [hG]; exact grownCap_ge w _ _ _
    have hGm : G ≤ maxLen := by rw [hG]; exact grownCap_le_maxLen w n 0 34 (by unfold maxLen; omega)
    rw [← hG] at hrz
    obtain ⟨ROW, hROW⟩ : ∃ ROW : Array Value, ROW = Builtin.zeroCells (.agg #[.int .i64 0, .int .i64 0, .int .i64 0, .int .i64 0, .int .i64 0, .int .i64 0] : Value).cells n ++ Builtin.zeroCells (.agg #[.int .i64 0, .int .i64 0, .int .i64 0, .int .i64 0, .int .i64 0, .int .i64 0] : Value).cells (G - n) := ⟨_, rfl⟩
    rw [← hROW] at hrz
    have hRl : ROW.size = G * 6 := by
      rw [hROW]
      simp only [Array.size_append, Builtin.zeroCells, Value.cells, Array.size_map, Array.size_range]
      show n * 6 + (G - n) * 6 = G * 6
      rw [← Nat.add_mul]; congr 1; omega
    have hG0 : (0 : Int) ≤ G := by omega
    clear hROW hG
    go_enter Tryd.func45, Tryd.ntmps45
    go_wp2_with (at_builtin; refine Lib.wpList_append_run _ rfl _ _ _ _ rfl _ _ rfl rfl _ _ (hrz _) ?_)
    refine ⟨rfl, _, results_tmp rfl _ _ _, _, rfl, ?_, ⟨[], [], rfl, by omega, by simp, ⟨rfl, .inr ⟨w.heap.size, G, ROW, rfl, Nat.le_refl _, ?_, by simp, hGm, hRl, by simp⟩⟩, by simp, fun i j hi => by simp at hi⟩, rowsApart_row, Nat.le_succ _⟩
    · exact Below.alloc (Below.drew (Below.refl _ _)) (Nat.le_refl _) _
    · show (w.heap.push _)[w.heap.size]? = _
      simp
end Go.Proofs.YtocgoabplafoeaaDoor
/- A law's walk where the arguments' weights are known (the form's own reach). -/
namespace Go.Proofs.YtocgoabplafoeaaDoor
open Go.ChangeShapes Go.WideShapes Go.ChangeAt Go.RowKit Go.Joins Go.Deep
set_option linter.unusedVariables false
section
variable {H : Type} {enc : TypeId × Value → H} {P : Program} {W : World}
theorem sized_one {t e : TypeId} {v : Value} {dd : DataW H} {p : List MemPlace} {s : Nat} {L : List (List AV)} {ok : Nat → Prop} (hu : P.underlying t = some (.slice e)) (h : DataW.Trod enc P W 0 (fun _ => true) true t v dd p) (hr : RV W ok (.sl s L) v) (hw : ∀ n ∈ dd.weights P t, n ≤ reachBytes) : L.length * P.bytesOf e ≤ reachBytes := by
  obtain ⟨fuel, hf⟩ := h
  cases hr with
  | sl _ _ A n c us hn hnc hc hs hA hone hu' =>
    have h1 : (Value.slice A n c).cells.toList = [.slice A n c] := rfl
    rw [h1] at hf
    rcases open_slice hu hf with ⟨ev, ex⟩ | ⟨a, len, cap, m', fu, D, Pl, ev, hb, hlc, hcm, hmm, hx, hi⟩
    · injection ev with ev _
      injection ev with _ ev _
      rw [hn, ev]
      simp [reachBytes]
    · injection ev with ev _
      injection ev with _ ev _
      injection hx with hx _
      have := hw (((List.range len).map D).length + ((List.range (m' - len)).map fun j => D (len + j)).length |> (· * P.bytesOf e)) (by rw [hx]; simp [DataW.weights, hu])
      simp at this
      rw [hn, ev]
      exact Nat.le_trans (Nat.mul_le_mul_right _ (Nat.le_add_right _ _)) this
theorem trodAll_at : ∀ (ts : List TypeId) (vs : List Value) (ds : List (DataW H)) (p : List MemPlace), DataW.TrodAll enc P W 0 (fun _ => true) true ts vs ds p → ∀ i, i < ts.length → ∃ dd q, ds[i]? = some dd ∧ DataW.Trod enc P W 0 (fun _ => true) true (ts.getD i 0) (vs.getD i undef) dd q
  | [], vs, ds, p, h, i, hi => by simp at hi
  | t :: ts, vs, ds, p, h, i, hi => by
    obtain ⟨v, vs', d, ds', p', q, rfl, rfl, rfl, h1, h2⟩ := trodAll_cons h
    cases i with
    | zero => exact ⟨d, p', rfl, h1⟩
    | succ i =>
      obtain ⟨dd, q', e1, e2⟩ := trodAll_at ts vs' ds' q h2 i (by simpa using hi)
      exact ⟨dd, q', by simpa using e1, by simpa using e2⟩
/-- **A law's walk**, its arguments' weights being within the form's reach. -/
theorem law_calls_sized {f : FuncId} {F : Func} {args : Array Value} {ds gs : List (DataW H)} {us : List TypeId} {p : List MemPlace} {base : Nat} (hb : F.params.toList.all (argB P) = true)
    (hfn : ∀ xs : List AV, xs.length = F.params.toList.length → (∀ i, i < F.params.toList.length → ArgOk P (F.params.toList.getD i 0) (xs.getD i default)) →
      (∀ i s L e, i < F.params.toList.length → xs.getD i default = .sl s L → P.underlying (F.params.toList.getD i 0) = some (.slice e) → L.length * P.bytesOf e ≤ reachBytes) → Fn P f xs .sc (.bool true))
    (hval : ∀ (j : Nat) t v, F.params[j]? = some t → args[j]? = some v → Value.okWide P W .any base t v)
    (hA : DataW.TrodAll enc P W 0 (fun _ => true) true F.params.toList args.toList ds p)
    (hsz : (DataW.weightsEach P (F.params.toList ++ us) (ds ++ gs)).all (· ≤ reachBytes) = true) (hgl : Gl W.heap.size W (okAll W) := by (exact ⟨by (intro p hp; simp [globL] at hp), by (intro g hg; simp [globI] at hg)⟩)) : Calls P f args W (Ret (.bool true) W) := by
  obtain ⟨xs, l1, l2, hxs⟩ := args_open F.params.toList args.toList ds p hA (fun j t v h1 h2 => hval j t v (by simpa using h1) (by simpa using h2)) hb
  refine ((hfn xs l1 (fun i hi => (hxs i hi).1) (fun i s L e hi hx hu => ?_)).2 W (okAll W) args (fun g hg => hg) hgl (by rw [l1, ← l2]; simp) fun i hi => ?_).mono ?_
  · obtain ⟨dd, q, e1, e2⟩ := trodAll_at F.params.toList args.toList ds p hA i hi
    have hr := (hxs i hi).2
    rw [hx] at hr
    refine sized_one hu e2 hr fun n hn => ?_
    have hm := DataW.weights_mem_each (P := P) (ts := F.params.toList ++ us) (ds := ds ++ gs) (j := i) (t := F.params.toList.getD i 0) (d := dd)
      (by rw [List.getElem?_append_left hi, List.getD_eq_getElem?_getD, List.getElem?_eq_getElem hi]; rfl)
      (by
        have hid : i < ds.length := (List.getElem?_eq_some_iff.1 e1).1
        rw [List.getElem?_append_left hid]; exact e1) n hn
    have := List.all_eq_true.1 hsz n hm
    simpa using this
  · have := (hxs i (by omega)).2
    rwa [show args.getD i undef = args.toList.getD i undef by simp [List.getD_eq_getElem?_getD, Array.getD_eq_getD_getElem?]]
  · rintro e W' ⟨v, rfl, hbel, hr, _⟩
    have hr' : RV W' noBlock (.bool true) v := hr
    exact ret_mk (RV.lit_iff.1 hr') hbel
end
end Go.Proofs.YtocgoabplafoeaaDoor
/- Package-level variables that are laid, as known cells. -/
namespace Go.Proofs.YtocgoabplafoeaaDoor
open Go.ChangeShapes Go.WideShapes Go.ChangeAt Go.RowKit
set_option linter.unusedVariables false
section
variable {H : Type} {enc : TypeId × Value → H} {P : Program} {W : World}
def datV {H : Type} : DataW H → Value
  | .lit (.string s) => .string ⟨s.toArray⟩
  | .lit (.int k n) => .int k n
  | .lit (.bool b) => .bool b
  | _ => undef
/-- An array of strings or numbers, opened. -/
theorem arr_open {t e : TypeId} {k fuel : Nat} {cs : List Value} {ds : List (DataW H)} {p : List MemPlace} (ht : P.underlying t = some (.array k e)) (hc : P.cellsOf e = 1) (hct : P.cellsOf t = k)
    (he : P.underlying e = some .string ∨ ∃ i, P.underlying e = some (.int i)) (h : DataW.trod enc P W 0 (fun _ => true) false fuel t cs = some (.agg ds, p)) : cs = ds.map datV := by
  obtain ⟨xs, m, rfl, hx, hlen, hn, hel⟩ := DataW.trod_array ht h
  simp only [Prod.mk.injEq, DataW.agg.injEq] at hx
  rw [hct] at hlen
  obtain ⟨rfl, _⟩ := hx
  apply List.ext_getElem?
  intro i
  by_cases hi : i < k
  · have h1 := hel i hi
    rw [hc, Nat.mul_one] at h1
    have h2 : (cs.drop i).take 1 = [cs[i]'(by omega)] := by
      rw [List.drop_eq_getElem_cons (by omega)]; rfl
    rw [h2] at h1
    have h3 : xs[i]? = some (xs[i]'(by omega)) := List.getElem?_eq_getElem (by omega)
    rw [h3] at h1
    rw [List.getElem?_map, List.getElem?_map, h3, List.getElem?_eq_getElem (by omega)]
    simp only [Option.map_some, Option.some.injEq]
    generalize xs[i]'(by omega) = y at h1
    rcases he with he | ⟨q, he⟩
    · obtain ⟨s, e1, e2, _⟩ := DataW.trod_string he h1
      rw [e2]
      simp only [List.cons.injEq, and_true] at e1
      rw [e1]; rfl
    · obtain ⟨n, e1, e2, _⟩ := DataW.trod_int he h1
      rw [e2]
      simp only [List.cons.injEq, and_true] at e1
      rw [e1]; rfl
  · rw [List.getElem?_eq_none (by omega), List.getElem?_eq_none (by simp; omega)]
/-- One variable's cells. -/
theorem var_known {n : String} {g : Nat} {cs : Array Value} {vs : List Value} (hg : P.globalNamed n = some g) (hv : W.var? P n = some cs) (h : cs.toList = vs) (h1 : vs.all (·.oneCell') = true) :
    g < W.heap.size ∧ okAll W g ∧ (∀ i, i < vs.length → W.cell? ⟨g, i, none⟩ = some (vs.getD i undef) ∧ (vs.getD i undef).oneCell' = true) ∧ ∃ x y, W.heap[g]? = some (.cells vs.toArray x y) := by
  have hlt : g < W.heap.size := by
    simp only [World.var?, hg, Option.bind_some] at hv
    split at hv
    · rename_i q; exact (Array.getElem?_eq_some_iff.1 q).1
    · cases hv
  have hblk : ∃ x y, W.heap[g]? = some (.cells vs.toArray x y) := by
    simp only [World.var?, hg, Option.bind_some] at hv
    split at hv
    · rename_i cs' x y q
      injection hv with hv
      subst hv
      subst h
      exact ⟨x, y, by rw [q]⟩
    · cases hv
  refine ⟨hlt, hlt, fun i hi => ?_, hblk⟩
  rw [World.var?_cell hg hv i]
  subst h
  have hi' : i < cs.size := by simpa using hi
  refine ⟨by simp [hi'], ?_⟩
  have := List.all_eq_true.1 h1 (cs.toList.getD i undef) (by simp [List.getD_eq_getElem?_getD, hi'])
  exact this
end
end Go.Proofs.YtocgoabplafoeaaDoor
/- slices.Sort of a row of the caller's own, of one cell an element. -/
namespace Go.Proofs.YtocgoabplafoeaaDoor
open Go.RowKit Go.Shelf Go.Sort
set_option linter.unusedVariables false
set_option linter.unusedSimpArgs false
section
variable {P : Program} {α : Type}
theorem srt_block (enc : α → Value) (w : World) (G m : Nat) (D : Array α) (os : Array Obj) [Inhabited α] {b : Nat} (hb : b ≠ G) (hlt : b < w.heap.size) : (grow (putRow enc (Go.Sort.ahead w m) G 0 D) os).heap[b]? = w.heap[b]? := by
  unfold grow
  have hsz : (putRow enc (Go.Sort.ahead w m) G 0 D).heap.size = w.heap.size := size_putRow enc _ G 0 _
  simp only [Array.getElem?_append]
  rw [if_pos (by rw [hsz]; exact hlt)]
  unfold putRow mapBlock
  simp only [Array.getElem?_modify]
  rw [if_neg (fun e => hb e.symm)]
  rfl
theorem srt_at (enc : α → Value) (w : World) (G m : Nat) (D : Array α) (os : Array Obj) [Inhabited α] {c : Array Value} {e : TypeId} {fr : Nat × Nat} (h : w.heap[G]? = some (.cells c e fr)) : (grow (putRow enc (Go.Sort.ahead w m) G 0 D) os).heap[G]? = some (.cells (putCells enc 0 D c) e fr) := by
  unfold grow
  have hsz : (putRow enc (Go.Sort.ahead w m) G 0 D).heap.size = w.heap.size := size_putRow enc _ G 0 _
  simp only [Array.getElem?_append]
  rw [if_pos (by rw [hsz]; exact (Array.getElem?_eq_some_iff.1 h).1)]
  unfold putRow mapBlock
  have h' : (Go.Sort.ahead w m).heap[G]? = some (.cells c e fr) := h
  simp only [Array.getElem?_modify, if_true, h', Option.map_some, onCells]
theorem srt_size (enc : α → Value) (w : World) (G m : Nat) (D : Array α) (os : Array Obj) [Inhabited α] : w.heap.size ≤ (grow (putRow enc (Go.Sort.ahead w m) G 0 D) os).heap.size := by
  have hsz : (putRow enc (Go.Sort.ahead w m) G 0 D).heap.size = w.heap.size := size_putRow enc _ G 0 _
  unfold grow
  simp only [Array.size_append]
  omega
/-- A contract of the shelf's: the row's elements l are those of s behind the call. -/
theorem srtU [Inhabited α] {f : FuncId} {e : TypeId} (hent : Ent P f) (enc : α → Value) (h1 : ∀ x, (enc x).oneCell' = true) (l s : List α) (hl0 : l ≠ []) (hsl : s.length = l.length)
    (hcon : ∀ (w : World) (G cap : Nat), Holds enc w G 0 l.toArray → G < w.heap.size → Calls P f #[.slice (some ⟨G, 0, none⟩) l.length cap] w fun e' w' => e' = .returned (.tuple #[]) ∧ ∃ n os, w' = grow (putRow enc (Go.Sort.ahead w n) G 0 s.toArray) os) :
    FnU P f e 1 (.sl 1 (l.map fun x => [.lit (enc x)])) [] false (.sl 1 (s.map fun x => [.lit (enc x)])) := by
  refine ⟨hent, ?_⟩
  intro w ok B okc v0 cargs hrow hokc hok hB hgl hsz hargs
  obtain ⟨L', xs, hL', _, hlen, ho, hone, hv⟩ := hrow
  injection hL' with _ hL'
  subst hL'
  obtain rfl : cargs = #[] := Array.eq_empty_of_size_eq_zero hsz
  have hxl : xs.length = l.length := by have := ho.1; simpa using this
  have hx : ∀ i (hi : i < l.length), xs[i]? = some (enc l[i]) := fun i hi => by
    have := hv i 0 (by simpa using hi) (by omega)
    have e1 : gt2 (l.map fun x => [AV.lit (enc x)]) i 0 = .lit (enc l[i]) := by unfold gt2; simp [List.getD_eq_getElem?_getD, hi]
    rw [e1] at this
    have e2 := RV.lit_iff.1 this
    rw [Nat.mul_one, Nat.add_zero, List.getD_eq_getElem?_getD, List.getElem?_eq_getElem (by omega)] at e2
    rw [List.getElem?_eq_getElem (by omega)]
    exact congrArg some e2
  rcases ho.2 with ⟨e0, h0⟩ | ⟨G, cap, cur, e0, hBG, hG, hnc, hcm, hcs, htk⟩
  · exact absurd (List.eq_nil_of_length_eq_zero (by simpa using h0)) hl0
  rw [List.length_map] at e0 hnc htk
  rw [Nat.mul_one] at htk hcs
  subst e0
  have hcur : ∀ i (hi : i < l.length), cur[i]? = some (enc l[i]) := fun i hi => by
    rw [← Array.getElem?_toList]
    have := hx i hi
    rw [← htk, List.getElem?_take, if_pos hi] at this
    exact this
  have hGs : G < w.heap.size := (Array.getElem?_eq_some_iff.1 hG).1
  refine (hcon w G cap (fun j hj => ?_) hGs).mono ?_
  · have hj : j < l.length := by simpa using hj
    rw [Nat.zero_add]
    refine ⟨?_, by simp [World.frozen?, hG]⟩
    rw [cell_of_row w G j cur _ _ hG, hcur j hj, getElem!_pos _ _ (by simpa using hj)]
    simp
  · rintro e' w' ⟨rfl, n, os, rfl⟩
    have hat := srt_at enc w G n s.toArray os hG
    have hbl : ∀ b, b ≠ G → b < w.heap.size → (grow (putRow enc (Go.Sort.ahead w n) G 0 s.toArray) os).heap[b]? = w.heap[b]? := fun b h1 h2 => srt_block enc w G n s.toArray os h1 h2
    have hszz := srt_size enc w G n s.toArray os
    refine ⟨.slice (some ⟨G, 0, none⟩) l.length cap, rfl, ⟨rfl, rfl, rfl, hszz, fun b hb hne => hbl b (fun q => hne (by rw [q]; rfl)) hb⟩, ?_, fun _ => rfl, fun g hg => .inl hg, Nat.le_add_right _ _⟩
    refine ⟨_, s.map enc, rfl, by omega, fun y hy => by obtain ⟨x, _, rfl⟩ := List.mem_map.1 hy; rfl, ⟨by simp, .inr ⟨G, cap, _, by simp [hsl], hBG, hat, by simpa [hsl] using hnc, hcm, by simp [putCells, hcs], ?_⟩⟩, fun u hu => by obtain ⟨x, _, rfl⟩ := List.mem_map.1 hu; exact h1 x, fun i j hi hj => ?_⟩
    · rw [List.length_map, Nat.mul_one]
      apply List.ext_getElem?
      intro t
      rw [List.getElem?_take, hsl]
      split
      · rename_i ht
        have hlt : t < cur.size := by have := hcur t ht; exact (Array.getElem?_eq_some_iff.1 this).1
        rw [Array.getElem?_toList]
        simp only [putCells, Array.getElem?_mapIdx, Array.getElem?_eq_getElem hlt, Option.map_some]
        rw [if_pos ⟨Nat.zero_le _, by simp; omega⟩, Nat.sub_zero, getElem!_pos _ _ (by simp; omega)]
        simp [List.getElem?_eq_getElem (show t < s.length by omega)]
      · rename_i ht
        rw [List.getElem?_eq_none]
        simp; omega
    · have hi : i < s.length := by simpa using hi
      obtain rfl : j = 0 := by omega
      have e1 : gt2 (s.map fun x => [AV.lit (enc x)]) i 0 = .lit (enc s[i]) := by unfold gt2; simp [List.getD_eq_getElem?_getD, hi]
      have e2 : (s.map enc).getD (i * 1 + 0) undef = enc s[i] := by simp [List.getD_eq_getElem?_getD, hi]
      rw [e1, e2]
      exact .lit _
end
end Go.Proofs.YtocgoabplafoeaaDoor
/-
  DERIVED: THE SHELF's CONTRACTS AT THIS DUMP, IN PLAIN WORDS (tools/lay-plain.mjs out of 'YtocgoabplafoeaaDoorShelfTry.lean', which tools/lay-shelf.mjs wrote): THE SAME DECLARATIONS UNDER THE SAME NAMES: 'import', 'namespace', 'open', 'def', 'theorem' AND NOTHING ELSE: no command of the shelf's: FOR A HAND-IN. Each laying: the table of numbers ('.._ren') and one theorem, a field a fact of the dump's own or the kernel's comparison; each contract: ONE APPLICATION.
-/
namespace Go.Proofs.YtocgoabplafoeaaDoor
open Go.Shelf
def sortI_ren : Go.Shelf.Ren := ⟨fun | 189 => 13 | 125 => 33 | 257 => 32 | 128 => 56 | 129 => 57 | 294 => 47 | 295 => 48 | 296 => 49 | 297 => 50 | 298 => 51 | 299 => 52 | 216 => 53 | 300 => 54 | 301 => 55 | 328 => 68 | 329 => 69 | 330 => 70 | 331 => 71 | 332 => 72 | 215 => 73 | 343 => 82 | n => n, fun | 28 => 46 | 3 => 3 | 46 => 72 | 0 => 0 | 51 => 91 | 53 => 93 | 4 => 4 | 183 => 85 | 182 => 84 | 131 => 73 | 5 => 5 | 9 => 9 | 218 => 105 | 222 => 109 | 228 => 120 | 229 => 55 | n => n, fun | n => n⟩
theorem sortI : Go.Proofs.Lays.n189 Tryd.prog sortI_ren := {
  mixed := by kernel_rfl
  f125 := Tryd.func33.trans (congrArg some (by kernel_rfl))
  f128 := Tryd.func56.trans (congrArg some (by kernel_rfl))
  f129 := Tryd.func57.trans (congrArg some (by kernel_rfl))
  f189 := Tryd.func13.trans (congrArg some (by kernel_rfl))
  f215 := Tryd.func73.trans (congrArg some (by kernel_rfl))
  f216 := Tryd.func53.trans (congrArg some (by kernel_rfl))
  f257 := Tryd.func32.trans (congrArg some (by kernel_rfl))
  f294 := Tryd.func47.trans (congrArg some (by kernel_rfl))
  f295 := Tryd.func48.trans (congrArg some (by kernel_rfl))
  f296 := Tryd.func49.trans (congrArg some (by kernel_rfl))
  f297 := Tryd.func50.trans (congrArg some (by kernel_rfl))
  f298 := Tryd.func51.trans (congrArg some (by kernel_rfl))
  f299 := Tryd.func52.trans (congrArg some (by kernel_rfl))
  f300 := Tryd.func54.trans (congrArg some (by kernel_rfl))
  f301 := Tryd.func55.trans (congrArg some (by kernel_rfl))
  f328 := Tryd.func68.trans (congrArg some (by kernel_rfl))
  f329 := Tryd.func69.trans (congrArg some (by kernel_rfl))
  f330 := Tryd.func70.trans (congrArg some (by kernel_rfl))
  f331 := Tryd.func71.trans (congrArg some (by kernel_rfl))
  f332 := Tryd.func72.trans (congrArg some (by kernel_rfl))
  f343 := Tryd.func82.trans (congrArg some (by kernel_rfl))
  t0 := Tryd.underlying0
  a0 := Tryd.isAgg0
  z0 := Tryd.sizeOf0
  v0 := Tryd.zeroValue0
  t3 := Tryd.underlying3
  a3 := Tryd.isAgg3
  z3 := Tryd.sizeOf3
  v3 := Tryd.zeroValue3
  t4 := Tryd.underlying4
  a4 := Tryd.isAgg4
  z4 := Tryd.sizeOf4
  v4 := Tryd.zeroValue4
  t5 := Tryd.underlying5
  a5 := Tryd.isAgg5
  z5 := Tryd.sizeOf5
  v5 := Tryd.zeroValue5
  t9 := Tryd.underlying9
  a9 := Tryd.isAgg9
  z9 := Tryd.sizeOf9
  v9 := Tryd.zeroValue9
  t28 := Tryd.underlying46
  a28 := Tryd.isAgg46
  z28 := Tryd.sizeOf46
  v28 := Tryd.zeroValue46
  t46 := Tryd.underlying72
  a46 := Tryd.isAgg72
  z46 := Tryd.sizeOf72
  v46 := Tryd.zeroValue72
  t51 := Tryd.underlying91
  a51 := Tryd.isAgg91
  z51 := Tryd.sizeOf91
  v51 := Tryd.zeroValue91
  t53 := Tryd.underlying93
  a53 := Tryd.isAgg93
  z53 := Tryd.sizeOf93
  v53 := Tryd.zeroValue93
  t131 := Tryd.underlying73
  a131 := Tryd.isAgg73
  z131 := Tryd.sizeOf73
  v131 := Tryd.zeroValue73
  t182 := Tryd.underlying84
  a182 := Tryd.isAgg84
  z182 := Tryd.sizeOf84
  v182 := Tryd.zeroValue84
  t183 := Tryd.underlying85
  a183 := Tryd.isAgg85
  z183 := Tryd.sizeOf85
  v183 := Tryd.zeroValue85
  t218 := Tryd.underlying105
  a218 := Tryd.isAgg105
  z218 := Tryd.sizeOf105
  v218 := Tryd.zeroValue105
  t222 := Tryd.underlying109
  a222 := Tryd.isAgg109
  z222 := Tryd.sizeOf109
  v222 := Tryd.zeroValue109
  t228 := Tryd.underlying120
  a228 := Tryd.isAgg120
  z228 := Tryd.sizeOf120
  v228 := Tryd.zeroValue120
  t229 := Tryd.underlying55
  a229 := Tryd.isAgg55
  z229 := Tryd.sizeOf55
  v229 := Tryd.zeroValue55 }
end Go.Proofs.YtocgoabplafoeaaDoor
/- effects: what the run ends in. -/
namespace Go.Proofs.YtocgoabplafoeaaDoor
open Go.RowKit
set_option linter.unusedVariables false
set_option maxRecDepth 100000
namespace EffH
--GAMMA
def Γ : FuncId → Option Ca := fun f =>
  if f = 7 ∨ f = 17 ∨ f = 22 ∨ f = 24 ∨ f = 40 ∨ f = 38 ∨ f = 16 ∨ f = 15 ∨ f = 5 ∨ f = 10 ∨ f = 29 ∨ f = 20 ∨ f = 21 ∨ f = 23 ∨ f = 25 ∨ f = 12 then some (.fn .sc)
  else if f = 8 ∨ f = 37 ∨ f = 30 ∨ f = 11 ∨ f = 6 then some (.fn (.tup [.sc, .sc]))
  else if f = 14 ∨ f = 27 ∨ f = 28 then some (.fn (.row 34 6 true))
  else if f = 9 ∨ f = 41 ∨ f = 42 ∨ f = 43 ∨ f = 44 then some (.fn (.tup [.row 34 6 true, .sc]))
  else if f = 26 then some (.fn (.tup [.row 34 6 true, .sc, .sc]))
  else if f = 45 then some (.fn (.row 34 6 false))
  else if f = 61 then some (.upd true)
  else if f = 13 then some (.upd false)
  else some .inl
def ann : FuncId → Nat → LoopEx := fun f r =>
  if f = 41 then ⟨[], [1000007], [], []⟩
  else if f = 9 ∧ r = 13 then ⟨[], [2305, 2369], [(1985, 0), (1985, 1), (1985, 2), (1985, 3), (1985, 6), (1985, 7), (1985, 8), (1985, 9), (1985, 10), (1985, 11), (1985, 12), (1985, 13), (1985, 14), (1985, 15), (1985, 16), (1985, 17), (1985, 18), (1985, 19), (1985, 20), (1985, 21)], [(1985, 4, 34, 6), (1985, 5, 34, 6)]⟩
  else ⟨[], [], [], []⟩
--END GAMMA
theorem eerr_form (x0 x1 x2 x3 x4 r : AV) : fnF Tryd.prog Γ ann 3 10 Tryd.f10 (Tryd.f10.body.getD .skip) (.nil) [x0, x1, x2, x3, x4] (.sc) r = (((AV.isAgg x1 4) ∧
((AV.isAgg x3 7) ∧
((AV.isAgg x4 2) ∧
(∃ r321 : AV, ((Fn Tryd.prog 7 [x0] Sh.sc r321) ∧
((AV.binOk Go.BinOp.neq r321 (AV.int 0)) ∧
((AV.isBool (AV.bin Go.BinOp.neq r321 (AV.int 0))) ∧
(((isT (AV.bin Go.BinOp.neq r321 (AV.int 0))) →
  ((AV.flat r321) ∧
  (fSame r321 r))) ∧
((isF (AV.bin Go.BinOp.neq r321 (AV.int 0))) →
  (∃ r641 : AV, ((Fn Tryd.prog 29 [(AV.agg [(AV.cel x1 0), (AV.cel x1 1), (AV.cel x1 2), (AV.cel x1 3)])] Sh.sc r641) ∧
  ((AV.binOk Go.BinOp.neq r641 (AV.int 0)) ∧
  ((AV.isBool (AV.bin Go.BinOp.neq r641 (AV.int 0))) ∧
  (((isT (AV.bin Go.BinOp.neq r641 (AV.int 0))) →
    ((AV.flat r641) ∧
    (fSame r641 r))) ∧
  ((isF (AV.bin Go.BinOp.neq r641 (AV.int 0))) →
    (∃ r961 : AV, ((Fn Tryd.prog 24 [(AV.agg [(AV.cel x3 0), (AV.cel x3 1), (AV.cel x3 2), (AV.cel x3 3), (AV.cel x3 4), (AV.cel x3 5), (AV.cel x3 6)])] Sh.sc r961) ∧
    ((AV.binOk Go.BinOp.neq r961 (AV.int 0)) ∧
    ((AV.isBool (AV.bin Go.BinOp.neq r961 (AV.int 0))) ∧
    (((isT (AV.bin Go.BinOp.neq r961 (AV.int 0))) →
      ((AV.flat r961) ∧
      (fSame r961 r))) ∧
    ((isF (AV.bin Go.BinOp.neq r961 (AV.int 0))) →
      (∃ r1281 : AV, ((Fn Tryd.prog 17 [(AV.agg [(AV.cel x4 0), (AV.cel x4 1)])] Sh.sc r1281) ∧
      ((AV.binOk Go.BinOp.neq r1281 (AV.int 0)) ∧
      ((AV.isBool (AV.bin Go.BinOp.neq r1281 (AV.int 0))) ∧
      (((isT (AV.bin Go.BinOp.neq r1281 (AV.int 0))) →
        ((AV.flat r1281) ∧
        (fSame r1281 r))) ∧
      ((isF (AV.bin Go.BinOp.neq r1281 (AV.int 0))) →
        ((AV.isSl x0 6) ∧
        ((AV.inb x0 (AV.int 0)) ∧
        ((AV.binOk Go.BinOp.lss x2 (AV.at x0 (AV.int 0) 0)) ∧
        ((AV.isBool (AV.bin Go.BinOp.lss x2 (AV.at x0 (AV.int 0) 0))) ∧
        (((isT (AV.bin Go.BinOp.lss x2 (AV.at x0 (AV.int 0) 0))) →
          ((AV.isBool (AV.bin Go.BinOp.lss x2 (AV.at x0 (AV.int 0) 0))) ∧
          ((isT (AV.bin Go.BinOp.lss x2 (AV.at x0 (AV.int 0) 0))) ∧
          ((AV.flat (AV.int 12)) ∧
          (fSame (AV.int 12) r))))) ∧
        ((isF (AV.bin Go.BinOp.lss x2 (AV.at x0 (AV.int 0) 0))) →
          ((AV.isSl x0 6) ∧
          ((AV.binOk Go.BinOp.sub (AV.len x0) (AV.int 1)) ∧
          ((AV.isSl x0 6) ∧
          ((AV.inb x0 (AV.bin Go.BinOp.sub (AV.len x0) (AV.int 1))) ∧
          ((AV.binOk Go.BinOp.gtr x2 (AV.at x0 (AV.bin Go.BinOp.sub (AV.len x0) (AV.int 1)) 0)) ∧
          ((AV.isBool (AV.bin Go.BinOp.lss x2 (AV.at x0 (AV.int 0) 0))) ∧
          ((isF (AV.bin Go.BinOp.lss x2 (AV.at x0 (AV.int 0) 0))) ∧
          ((AV.isBool (AV.bin Go.BinOp.gtr x2 (AV.at x0 (AV.bin Go.BinOp.sub (AV.len x0) (AV.int 1)) 0))) ∧
          (((isT (AV.bin Go.BinOp.gtr x2 (AV.at x0 (AV.bin Go.BinOp.sub (AV.len x0) (AV.int 1)) 0))) →
            ((AV.flat (AV.int 12)) ∧
            (fSame (AV.int 12) r))) ∧
          ((isF (AV.bin Go.BinOp.gtr x2 (AV.at x0 (AV.bin Go.BinOp.sub (AV.len x0) (AV.int 1)) 0))) →
            ((AV.flat (AV.int 0)) ∧
            (fSame (AV.int 0) r)))))))))))))))))))))))))))))))))))))))))))))) := by kernel_rfl
theorem contains_form (x0 x1 r : AV) : fnF Tryd.prog Γ ann 3 12 Tryd.f12 (Tryd.f12.body.getD .skip) (.nil) [x0, x1] (.sc) r = (((fEnt Tryd.prog 31) ∧
(fAllV fun _ => ((AV.isSl x0 1) ∧
(fLoop 513 [(AV.int 0)] fun ys513 again513 =>
  ((AV.binOk Go.BinOp.lss (ys513.getD 0 default) (AV.len x0)) ∧
  ((AV.isBool (AV.bin Go.BinOp.lss (ys513.getD 0 default) (AV.len x0))) ∧
  (((isT (AV.bin Go.BinOp.lss (ys513.getD 0 default) (AV.len x0))) →
    ((AV.isSl x0 1) ∧
    ((AV.inb x0 (ys513.getD 0 default)) ∧
    ((AV.binOk Go.BinOp.eql x1 (AV.at x0 (ys513.getD 0 default) 0)) ∧
    ((AV.isBool (AV.bin Go.BinOp.eql x1 (AV.at x0 (ys513.getD 0 default) 0))) ∧
    (((isT (AV.bin Go.BinOp.eql x1 (AV.at x0 (ys513.getD 0 default) 0))) →
      ((AV.binOk Go.BinOp.geq (ys513.getD 0 default) (AV.int 0)) ∧
      ((AV.flat (AV.bin Go.BinOp.geq (ys513.getD 0 default) (AV.int 0))) ∧
      (fSame (AV.bin Go.BinOp.geq (ys513.getD 0 default) (AV.int 0)) r)))) ∧
    ((isF (AV.bin Go.BinOp.eql x1 (AV.at x0 (ys513.getD 0 default) 0))) →
      ((AV.binOk Go.BinOp.add (ys513.getD 0 default) (AV.int 1)) ∧
      (again513 [(AV.bin Go.BinOp.add (ys513.getD 0 default) (AV.int 1))]))))))))) ∧
  ((isF (AV.bin Go.BinOp.lss (ys513.getD 0 default) (AV.len x0))) →
    ((AV.flat (AV.bool false)) ∧
    (fSame (AV.bool false) r))))))))))) := by kernel_rfl
theorem lclimbs_form (x0 x1 x2 x3 r : AV) : fnF Tryd.prog Γ ann 3 4 Tryd.f4 (Tryd.f4.body.getD .skip) ((.f (.both .nil (.both (.both (.t .nil) (.both .nil (.both (.both (.both (.t .nil) (.f (.f (.both (.both (.both (.f .nil) (.t (.both .nil (.f .nil)))) (.f (.f .nil))) .nil)))) (.both (.t .nil) (.f (.f (.both (.both (.both (.f .nil) (.t (.both .nil (.f .nil)))) (.f (.f .nil))) .nil))))) (.both (.t .nil) (.f (.f (.both (.both (.both (.f .nil) (.t (.both .nil (.f .nil)))) (.f (.f .nil))) .nil))))))) (.t (.t .nil)))))) [x0, x1, x2, x3] (.sc) r = (((AV.isAgg x1 4) ∧
((AV.isAgg x3 7) ∧
(∃ r193 : AV, ((Fn Tryd.prog 5 [] Sh.sc r193) ∧
((AV.unOk Go.UnOp.not r193) ∧
((AV.isBool (AV.un Go.UnOp.not r193)) ∧
((isF (AV.un Go.UnOp.not r193)) ∧
((AV.binOk Go.BinOp.neq (AV.cel x1 1) (AV.int 0)) ∧
((AV.isBool (AV.bin Go.BinOp.neq (AV.cel x1 1) (AV.int 0))) ∧
(((isT (AV.bin Go.BinOp.neq (AV.cel x1 1) (AV.int 0))) →
  ((AV.flat (AV.bool true)) ∧
  (fSame (AV.bool true) r))) ∧
((isF (AV.bin Go.BinOp.neq (AV.cel x1 1) (AV.int 0))) →
  (∃ r833 : AV, ((Fn Tryd.prog 9 [x0, (AV.agg [(AV.cel x1 0), (AV.cel x1 1), (AV.cel x1 2), (AV.cel x1 3)]), x2, (AV.agg [(AV.cel x3 0), (AV.cel x3 1), (AV.cel x3 2), (AV.cel x3 3), (AV.cel x3 4), (AV.cel x3 5), (AV.cel x3 6)]), (AV.agg [(AV.int 0), (AV.int 0)])] (Sh.tup [(Sh.row 34 6 true), Sh.sc]) r833) ∧
  (∃ r1537 : AV, ((Fn Tryd.prog 10 [x0, (AV.agg [(AV.cel x1 0), (AV.cel x1 1), (AV.cel x1 2), (AV.cel x1 3)]), x2, (AV.agg [(AV.cel x3 0), (AV.cel x3 1), (AV.cel x3 2), (AV.cel x3 3), (AV.cel x3 4), (AV.cel x3 5), (AV.cel x3 6)]), (AV.agg [(AV.int 0), (AV.int 0)])] Sh.sc r1537) ∧
  ((AV.binOk Go.BinOp.eql r1537 (AV.int 0)) ∧
  ((AV.isBool (AV.bin Go.BinOp.eql r1537 (AV.int 0))) ∧
  (((isT (AV.bin Go.BinOp.eql r1537 (AV.int 0))) →
    (∃ r2177 : AV, ((Fn Tryd.prog 8 [x0, x2] (Sh.tup [Sh.sc, Sh.sc]) r2177) ∧
    ((AV.isAgg (AV.prj r2177 0) 6) ∧
    (∃ r2881 : AV, ((Fn Tryd.prog 11 [(AV.agg [(AV.cel x3 0), (AV.cel x3 1), (AV.cel x3 2), (AV.cel x3 3), (AV.cel x3 4), (AV.cel x3 5), (AV.cel x3 6)]), (AV.cel (AV.prj r2177 0) 3), (AV.cel x1 2)] (Sh.tup [Sh.sc, Sh.sc]) r2881) ∧
    ((AV.binOk Go.BinOp.neq (AV.prj r2881 1) (AV.int 0)) ∧
    ((AV.isBool (AV.bin Go.BinOp.neq (AV.prj r2881 1) (AV.int 0))) ∧
    (((isT (AV.bin Go.BinOp.neq (AV.prj r2881 1) (AV.int 0))) →
      ((AV.binOk Go.BinOp.eql (AV.prj r833 1) (AV.prj r2881 1)) ∧
      ((AV.isBool (AV.bin Go.BinOp.eql (AV.prj r833 1) (AV.prj r2881 1))) ∧
      ((isT (AV.bin Go.BinOp.eql (AV.prj r833 1) (AV.prj r2881 1))) ∧
      ((AV.binOk Go.BinOp.eql (AV.len (AV.prj r833 0)) (AV.int 0)) ∧
      ((AV.isBool (AV.bin Go.BinOp.eql (AV.prj r833 1) (AV.prj r2881 1))) ∧
      ((isT (AV.bin Go.BinOp.eql (AV.prj r833 1) (AV.prj r2881 1))) ∧
      ((AV.flat (AV.bin Go.BinOp.eql (AV.len (AV.prj r833 0)) (AV.int 0))) ∧
      (fSame (AV.bin Go.BinOp.eql (AV.len (AV.prj r833 0)) (AV.int 0)) r))))))))) ∧
    ((isF (AV.bin Go.BinOp.neq (AV.prj r2881 1) (AV.int 0))) →
      ((AV.binOk Go.BinOp.add x2 (AV.prj r2881 0)) ∧
      ((AV.isSl x0 6) ∧
      (fLoop 3905 [(AV.int 0), (AV.mk 1 [])] fun ys3905 again3905 =>
        ((AV.binOk Go.BinOp.lss (ys3905.getD 0 default) (AV.len x0)) ∧
        ((AV.isBool (AV.bin Go.BinOp.lss (ys3905.getD 0 default) (AV.len x0))) ∧
        (((isT (AV.bin Go.BinOp.lss (ys3905.getD 0 default) (AV.len x0))) →
          ((AV.isSl x0 6) ∧
          ((AV.inb x0 (ys3905.getD 0 default)) ∧
          ((AV.isAgg (AV.atAgg x0 (ys3905.getD 0 default) 0 6) 6) ∧
          ((AV.binOk Go.BinOp.neq (AV.cel (AV.atAgg x0 (ys3905.getD 0 default) 0 6) 0) x2) ∧
          ((AV.isBool (AV.bin Go.BinOp.neq (AV.cel (AV.atAgg x0 (ys3905.getD 0 default) 0 6) 0) x2)) ∧
          (((isT (AV.bin Go.BinOp.neq (AV.cel (AV.atAgg x0 (ys3905.getD 0 default) 0 6) 0) x2)) →
            ((AV.isOne (AV.cel (AV.atAgg x0 (ys3905.getD 0 default) 0 6) 0)) ∧
            ((AV.room (ys3905.getD 1 default) (AV.mk 1 [[(AV.cel (AV.atAgg x0 (ys3905.getD 0 default) 0 6) 0)]]) 8) ∧
            ((AV.binOk Go.BinOp.add (ys3905.getD 0 default) (AV.int 1)) ∧
            (again3905 [(AV.bin Go.BinOp.add (ys3905.getD 0 default) (AV.int 1)), (AV.app 1 (ys3905.getD 1 default) (AV.mk 1 [[(AV.cel (AV.atAgg x0 (ys3905.getD 0 default) 0 6) 0)]]))]))))) ∧
          ((isF (AV.bin Go.BinOp.neq (AV.cel (AV.atAgg x0 (ys3905.getD 0 default) 0 6) 0) x2)) →
            ((AV.binOk Go.BinOp.add (ys3905.getD 0 default) (AV.int 1)) ∧
            (again3905 [(AV.bin Go.BinOp.add (ys3905.getD 0 default) (AV.int 1)), (ys3905.getD 1 default)])))))))))) ∧
        ((isF (AV.bin Go.BinOp.lss (ys3905.getD 0 default) (AV.len x0))) →
          ((AV.isOne x2) ∧
          ((AV.room (ys3905.getD 1 default) (AV.mk 1 [[x2]]) 8) ∧
          ((AV.isSl x0 6) ∧
          ((AV.binOk Go.BinOp.sub (AV.len x0) (AV.int 1)) ∧
          ((AV.isSl x0 6) ∧
          ((AV.inb x0 (AV.bin Go.BinOp.sub (AV.len x0) (AV.int 1))) ∧
          ((AV.binOk Go.BinOp.lss (AV.bin Go.BinOp.add x2 (AV.prj r2881 0)) (AV.at x0 (AV.bin Go.BinOp.sub (AV.len x0) (AV.int 1)) 0)) ∧
          ((AV.isBool (AV.bin Go.BinOp.lss (AV.bin Go.BinOp.add x2 (AV.prj r2881 0)) (AV.at x0 (AV.bin Go.BinOp.sub (AV.len x0) (AV.int 1)) 0))) ∧
          (((isT (AV.bin Go.BinOp.lss (AV.bin Go.BinOp.add x2 (AV.prj r2881 0)) (AV.at x0 (AV.bin Go.BinOp.sub (AV.len x0) (AV.int 1)) 0))) →
            (∃ r5121 : AV, ((Fn Tryd.prog 12 [(AV.app 1 (ys3905.getD 1 default) (AV.mk 1 [[x2]])), (AV.bin Go.BinOp.add x2 (AV.prj r2881 0))] Sh.sc r5121) ∧
            ((AV.unOk Go.UnOp.not r5121) ∧
            ((AV.isBool (AV.bin Go.BinOp.lss (AV.bin Go.BinOp.add x2 (AV.prj r2881 0)) (AV.at x0 (AV.bin Go.BinOp.sub (AV.len x0) (AV.int 1)) 0))) ∧
            ((isT (AV.bin Go.BinOp.lss (AV.bin Go.BinOp.add x2 (AV.prj r2881 0)) (AV.at x0 (AV.bin Go.BinOp.sub (AV.len x0) (AV.int 1)) 0))) ∧
            ((AV.isBool (AV.un Go.UnOp.not r5121)) ∧
            (((isT (AV.un Go.UnOp.not r5121)) →
              ((AV.isOne (AV.bin Go.BinOp.add x2 (AV.prj r2881 0))) ∧
              ((AV.room (AV.app 1 (ys3905.getD 1 default) (AV.mk 1 [[x2]])) (AV.mk 1 [[(AV.bin Go.BinOp.add x2 (AV.prj r2881 0))]]) 8) ∧
              (∃ r5697 : AV, ((FnU Tryd.prog 13 3 1 (AV.app 1 (AV.app 1 (ys3905.getD 1 default) (AV.mk 1 [[x2]])) (AV.mk 1 [[(AV.bin Go.BinOp.add x2 (AV.prj r2881 0))]])) [] false r5697) ∧
              ((AV.binOk Go.BinOp.gtr (AV.len r5697) (AV.int 64)) ∧
              ((AV.isBool (AV.bin Go.BinOp.gtr (AV.len r5697) (AV.int 64))) ∧
              (((isT (AV.bin Go.BinOp.gtr (AV.len r5697) (AV.int 64))) →
                ((AV.binOk Go.BinOp.eql (AV.prj r833 1) (AV.int 2)) ∧
                ((AV.isBool (AV.bin Go.BinOp.eql (AV.prj r833 1) (AV.int 2))) ∧
                ((isT (AV.bin Go.BinOp.eql (AV.prj r833 1) (AV.int 2))) ∧
                ((AV.binOk Go.BinOp.eql (AV.len (AV.prj r833 0)) (AV.int 0)) ∧
                ((AV.isBool (AV.bin Go.BinOp.eql (AV.prj r833 1) (AV.int 2))) ∧
                ((isT (AV.bin Go.BinOp.eql (AV.prj r833 1) (AV.int 2))) ∧
                ((AV.flat (AV.bin Go.BinOp.eql (AV.len (AV.prj r833 0)) (AV.int 0))) ∧
                (fSame (AV.bin Go.BinOp.eql (AV.len (AV.prj r833 0)) (AV.int 0)) r))))))))) ∧
              ((isF (AV.bin Go.BinOp.gtr (AV.len r5697) (AV.int 64))) →
                ((AV.binOk Go.BinOp.neq (AV.prj r833 1) (AV.int 0)) ∧
                ((AV.isBool (AV.bin Go.BinOp.neq (AV.prj r833 1) (AV.int 0))) ∧
                ((isF (AV.bin Go.BinOp.neq (AV.prj r833 1) (AV.int 0))) ∧
                ((AV.binOk Go.BinOp.neq (AV.len (AV.prj r833 0)) (AV.len r5697)) ∧
                ((AV.isBool (AV.bin Go.BinOp.neq (AV.prj r833 1) (AV.int 0))) ∧
                ((isF (AV.bin Go.BinOp.neq (AV.prj r833 1) (AV.int 0))) ∧
                ((AV.isBool (AV.bin Go.BinOp.neq (AV.len (AV.prj r833 0)) (AV.len r5697))) ∧
                ((isF (AV.bin Go.BinOp.neq (AV.len (AV.prj r833 0)) (AV.len r5697))) ∧
                (fLoop 6721 [(AV.int 0)] fun ys6721 again6721 =>
                  ((AV.binOk Go.BinOp.lss (ys6721.getD 0 default) (AV.len r5697)) ∧
                  ((AV.isBool (AV.bin Go.BinOp.lss (ys6721.getD 0 default) (AV.len r5697))) ∧
                  (((isT (AV.bin Go.BinOp.lss (ys6721.getD 0 default) (AV.len r5697))) →
                    ((AV.inb r5697 (ys6721.getD 0 default)) ∧
                    ((AV.inb r5697 (ys6721.getD 0 default)) ∧
                    (∃ r7233 : AV, ((Fn Tryd.prog 8 [x0, (AV.at r5697 (ys6721.getD 0 default) 0)] (Sh.tup [Sh.sc, Sh.sc]) r7233) ∧
                    ((AV.isAgg (AV.prj r7233 0) 6) ∧
                    ((AV.binOk Go.BinOp.sub (AV.cel x1 2) (AV.cel (AV.prj r2177 0) 3)) ∧
                    ((AV.binOk Go.BinOp.gtr (AV.at r5697 (ys6721.getD 0 default) 0) x2) ∧
                    ((AV.isBool (AV.bin Go.BinOp.gtr (AV.at r5697 (ys6721.getD 0 default) 0) x2)) ∧
                    (((isT (AV.bin Go.BinOp.gtr (AV.at r5697 (ys6721.getD 0 default) 0) x2)) →
                      ((AV.binOk Go.BinOp.geq (AV.at r5697 (ys6721.getD 0 default) 0) (AV.bin Go.BinOp.add x2 (AV.prj r2881 0))) ∧
                      ((AV.isBool (AV.bin Go.BinOp.gtr (AV.at r5697 (ys6721.getD 0 default) 0) x2)) ∧
                      ((isT (AV.bin Go.BinOp.gtr (AV.at r5697 (ys6721.getD 0 default) 0) x2)) ∧
                      ((AV.isBool (AV.bin Go.BinOp.geq (AV.at r5697 (ys6721.getD 0 default) 0) (AV.bin Go.BinOp.add x2 (AV.prj r2881 0)))) ∧
                      (((isT (AV.bin Go.BinOp.geq (AV.at r5697 (ys6721.getD 0 default) 0) (AV.bin Go.BinOp.add x2 (AV.prj r2881 0)))) →
                        ((AV.isOne (AV.cel x1 2)) ∧
                        ((AV.inb (AV.prj r833 0) (ys6721.getD 0 default)) ∧
                        ((AV.inb (AV.prj r833 0) (ys6721.getD 0 default)) ∧
                        ((AV.eqPlOk [(0, (EK.int Go.IntKind.i64)), (1, (EK.int Go.IntKind.i64)), (2, (EK.int Go.IntKind.i64)), (3, (EK.int Go.IntKind.i64)), (4, (EK.int Go.IntKind.i64)), (5, (EK.int Go.IntKind.i64))] [(AV.cel (AV.atAgg (AV.prj r833 0) (ys6721.getD 0 default) 0 6) 0), (AV.cel (AV.atAgg (AV.prj r833 0) (ys6721.getD 0 default) 0 6) 1), (AV.cel (AV.atAgg (AV.prj r833 0) (ys6721.getD 0 default) 0 6) 2), (AV.cel (AV.atAgg (AV.prj r833 0) (ys6721.getD 0 default) 0 6) 3), (AV.cel (AV.atAgg (AV.prj r833 0) (ys6721.getD 0 default) 0 6) 4), (AV.cel (AV.atAgg (AV.prj r833 0) (ys6721.getD 0 default) 0 6) 5)] [(AV.cel (AV.prj r7233 0) 0), (AV.cel (AV.prj r7233 0) 1), (AV.cel (AV.prj r7233 0) 2), (AV.cel x1 2), (AV.cel (AV.prj r7233 0) 4), (AV.cel (AV.prj r7233 0) 5)]) ∧
                        ((AV.isAgg (AV.atAgg (AV.prj r833 0) (ys6721.getD 0 default) 0 6) 6) ∧
                        ((AV.isBool (AV.nePl [(0, (EK.int Go.IntKind.i64)), (1, (EK.int Go.IntKind.i64)), (2, (EK.int Go.IntKind.i64)), (3, (EK.int Go.IntKind.i64)), (4, (EK.int Go.IntKind.i64)), (5, (EK.int Go.IntKind.i64))] [(AV.cel (AV.atAgg (AV.prj r833 0) (ys6721.getD 0 default) 0 6) 0), (AV.cel (AV.atAgg (AV.prj r833 0) (ys6721.getD 0 default) 0 6) 1), (AV.cel (AV.atAgg (AV.prj r833 0) (ys6721.getD 0 default) 0 6) 2), (AV.cel (AV.atAgg (AV.prj r833 0) (ys6721.getD 0 default) 0 6) 3), (AV.cel (AV.atAgg (AV.prj r833 0) (ys6721.getD 0 default) 0 6) 4), (AV.cel (AV.atAgg (AV.prj r833 0) (ys6721.getD 0 default) 0 6) 5)] [(AV.cel (AV.prj r7233 0) 0), (AV.cel (AV.prj r7233 0) 1), (AV.cel (AV.prj r7233 0) 2), (AV.cel x1 2), (AV.cel (AV.prj r7233 0) 4), (AV.cel (AV.prj r7233 0) 5)])) ∧
                        ((isF (AV.nePl [(0, (EK.int Go.IntKind.i64)), (1, (EK.int Go.IntKind.i64)), (2, (EK.int Go.IntKind.i64)), (3, (EK.int Go.IntKind.i64)), (4, (EK.int Go.IntKind.i64)), (5, (EK.int Go.IntKind.i64))] [(AV.cel (AV.atAgg (AV.prj r833 0) (ys6721.getD 0 default) 0 6) 0), (AV.cel (AV.atAgg (AV.prj r833 0) (ys6721.getD 0 default) 0 6) 1), (AV.cel (AV.atAgg (AV.prj r833 0) (ys6721.getD 0 default) 0 6) 2), (AV.cel (AV.atAgg (AV.prj r833 0) (ys6721.getD 0 default) 0 6) 3), (AV.cel (AV.atAgg (AV.prj r833 0) (ys6721.getD 0 default) 0 6) 4), (AV.cel (AV.atAgg (AV.prj r833 0) (ys6721.getD 0 default) 0 6) 5)] [(AV.cel (AV.prj r7233 0) 0), (AV.cel (AV.prj r7233 0) 1), (AV.cel (AV.prj r7233 0) 2), (AV.cel x1 2), (AV.cel (AV.prj r7233 0) 4), (AV.cel (AV.prj r7233 0) 5)])) ∧
                        ((AV.binOk Go.BinOp.add (ys6721.getD 0 default) (AV.int 1)) ∧
                        (again6721 [(AV.bin Go.BinOp.add (ys6721.getD 0 default) (AV.int 1))])))))))))) ∧
                      ((isF (AV.bin Go.BinOp.geq (AV.at r5697 (ys6721.getD 0 default) 0) (AV.bin Go.BinOp.add x2 (AV.prj r2881 0)))) →
                        ((AV.binOk Go.BinOp.gtr (AV.at r5697 (ys6721.getD 0 default) 0) x2) ∧
                        ((AV.isBool (AV.bin Go.BinOp.gtr (AV.at r5697 (ys6721.getD 0 default) 0) x2)) ∧
                        ((isT (AV.bin Go.BinOp.gtr (AV.at r5697 (ys6721.getD 0 default) 0) x2)) ∧
                        ((AV.isInt (AV.cel (AV.prj r2177 0) 3)) ∧
                        ((AV.isInt (AV.cel x1 2)) ∧
                        (fLoop 9409 [(AV.mn (AV.cel (AV.prj r2177 0) 3) (AV.cel x1 2))] fun ys9409 again9409 =>
                          ((AV.binOk Go.BinOp.add (ys9409.getD 0 default) (AV.int 1)) ∧
                          ((AV.binOk Go.BinOp.sub (AV.bin Go.BinOp.add (ys9409.getD 0 default) (AV.int 1)) (AV.cel (AV.prj r2177 0) 3)) ∧
                          ((AV.binOk Go.BinOp.mul (AV.bin Go.BinOp.sub (AV.bin Go.BinOp.add (ys9409.getD 0 default) (AV.int 1)) (AV.cel (AV.prj r2177 0) 3)) (AV.prj r2881 0)) ∧
                          ((AV.binOk Go.BinOp.sub (AV.at r5697 (ys6721.getD 0 default) 0) x2) ∧
                          ((AV.binOk Go.BinOp.mul (AV.bin Go.BinOp.sub (AV.cel x1 2) (AV.cel (AV.prj r2177 0) 3)) (AV.bin Go.BinOp.sub (AV.at r5697 (ys6721.getD 0 default) 0) x2)) ∧
                          ((AV.binOk Go.BinOp.leq (AV.bin Go.BinOp.mul (AV.bin Go.BinOp.sub (AV.bin Go.BinOp.add (ys9409.getD 0 default) (AV.int 1)) (AV.cel (AV.prj r2177 0) 3)) (AV.prj r2881 0)) (AV.bin Go.BinOp.mul (AV.bin Go.BinOp.sub (AV.cel x1 2) (AV.cel (AV.prj r2177 0) 3)) (AV.bin Go.BinOp.sub (AV.at r5697 (ys6721.getD 0 default) 0) x2))) ∧
                          ((AV.isBool (AV.bin Go.BinOp.leq (AV.bin Go.BinOp.mul (AV.bin Go.BinOp.sub (AV.bin Go.BinOp.add (ys9409.getD 0 default) (AV.int 1)) (AV.cel (AV.prj r2177 0) 3)) (AV.prj r2881 0)) (AV.bin Go.BinOp.mul (AV.bin Go.BinOp.sub (AV.cel x1 2) (AV.cel (AV.prj r2177 0) 3)) (AV.bin Go.BinOp.sub (AV.at r5697 (ys6721.getD 0 default) 0) x2)))) ∧
                          (((isT (AV.bin Go.BinOp.leq (AV.bin Go.BinOp.mul (AV.bin Go.BinOp.sub (AV.bin Go.BinOp.add (ys9409.getD 0 default) (AV.int 1)) (AV.cel (AV.prj r2177 0) 3)) (AV.prj r2881 0)) (AV.bin Go.BinOp.mul (AV.bin Go.BinOp.sub (AV.cel x1 2) (AV.cel (AV.prj r2177 0) 3)) (AV.bin Go.BinOp.sub (AV.at r5697 (ys6721.getD 0 default) 0) x2)))) →
                            ((AV.binOk Go.BinOp.add (ys9409.getD 0 default) (AV.int 1)) ∧
                            (again9409 [(AV.bin Go.BinOp.add (ys9409.getD 0 default) (AV.int 1))]))) ∧
                          ((isF (AV.bin Go.BinOp.leq (AV.bin Go.BinOp.mul (AV.bin Go.BinOp.sub (AV.bin Go.BinOp.add (ys9409.getD 0 default) (AV.int 1)) (AV.cel (AV.prj r2177 0) 3)) (AV.prj r2881 0)) (AV.bin Go.BinOp.mul (AV.bin Go.BinOp.sub (AV.cel x1 2) (AV.cel (AV.prj r2177 0) 3)) (AV.bin Go.BinOp.sub (AV.at r5697 (ys6721.getD 0 default) 0) x2)))) →
                            ((AV.isOne (ys9409.getD 0 default)) ∧
                            ((AV.inb (AV.prj r833 0) (ys6721.getD 0 default)) ∧
                            ((AV.inb (AV.prj r833 0) (ys6721.getD 0 default)) ∧
                            ((AV.eqPlOk [(0, (EK.int Go.IntKind.i64)), (1, (EK.int Go.IntKind.i64)), (2, (EK.int Go.IntKind.i64)), (3, (EK.int Go.IntKind.i64)), (4, (EK.int Go.IntKind.i64)), (5, (EK.int Go.IntKind.i64))] [(AV.cel (AV.atAgg (AV.prj r833 0) (ys6721.getD 0 default) 0 6) 0), (AV.cel (AV.atAgg (AV.prj r833 0) (ys6721.getD 0 default) 0 6) 1), (AV.cel (AV.atAgg (AV.prj r833 0) (ys6721.getD 0 default) 0 6) 2), (AV.cel (AV.atAgg (AV.prj r833 0) (ys6721.getD 0 default) 0 6) 3), (AV.cel (AV.atAgg (AV.prj r833 0) (ys6721.getD 0 default) 0 6) 4), (AV.cel (AV.atAgg (AV.prj r833 0) (ys6721.getD 0 default) 0 6) 5)] [(AV.cel (AV.prj r7233 0) 0), (AV.cel (AV.prj r7233 0) 1), (AV.cel (AV.prj r7233 0) 2), (ys9409.getD 0 default), (AV.cel (AV.prj r7233 0) 4), (AV.cel (AV.prj r7233 0) 5)]) ∧
                            ((AV.isAgg (AV.atAgg (AV.prj r833 0) (ys6721.getD 0 default) 0 6) 6) ∧
                            ((AV.isBool (AV.nePl [(0, (EK.int Go.IntKind.i64)), (1, (EK.int Go.IntKind.i64)), (2, (EK.int Go.IntKind.i64)), (3, (EK.int Go.IntKind.i64)), (4, (EK.int Go.IntKind.i64)), (5, (EK.int Go.IntKind.i64))] [(AV.cel (AV.atAgg (AV.prj r833 0) (ys6721.getD 0 default) 0 6) 0), (AV.cel (AV.atAgg (AV.prj r833 0) (ys6721.getD 0 default) 0 6) 1), (AV.cel (AV.atAgg (AV.prj r833 0) (ys6721.getD 0 default) 0 6) 2), (AV.cel (AV.atAgg (AV.prj r833 0) (ys6721.getD 0 default) 0 6) 3), (AV.cel (AV.atAgg (AV.prj r833 0) (ys6721.getD 0 default) 0 6) 4), (AV.cel (AV.atAgg (AV.prj r833 0) (ys6721.getD 0 default) 0 6) 5)] [(AV.cel (AV.prj r7233 0) 0), (AV.cel (AV.prj r7233 0) 1), (AV.cel (AV.prj r7233 0) 2), (ys9409.getD 0 default), (AV.cel (AV.prj r7233 0) 4), (AV.cel (AV.prj r7233 0) 5)])) ∧
                            ((isF (AV.nePl [(0, (EK.int Go.IntKind.i64)), (1, (EK.int Go.IntKind.i64)), (2, (EK.int Go.IntKind.i64)), (3, (EK.int Go.IntKind.i64)), (4, (EK.int Go.IntKind.i64)), (5, (EK.int Go.IntKind.i64))] [(AV.cel (AV.atAgg (AV.prj r833 0) (ys6721.getD 0 default) 0 6) 0), (AV.cel (AV.atAgg (AV.prj r833 0) (ys6721.getD 0 default) 0 6) 1), (AV.cel (AV.atAgg (AV.prj r833 0) (ys6721.getD 0 default) 0 6) 2), (AV.cel (AV.atAgg (AV.prj r833 0) (ys6721.getD 0 default) 0 6) 3), (AV.cel (AV.atAgg (AV.prj r833 0) (ys6721.getD 0 default) 0 6) 4), (AV.cel (AV.atAgg (AV.prj r833 0) (ys6721.getD 0 default) 0 6) 5)] [(AV.cel (AV.prj r7233 0) 0), (AV.cel (AV.prj r7233 0) 1), (AV.cel (AV.prj r7233 0) 2), (ys9409.getD 0 default), (AV.cel (AV.prj r7233 0) 4), (AV.cel (AV.prj r7233 0) 5)])) ∧
                            ((AV.binOk Go.BinOp.add (ys6721.getD 0 default) (AV.int 1)) ∧
                            (again6721 [(AV.bin Go.BinOp.add (ys6721.getD 0 default) (AV.int 1))]))))))))))))))))))))))))))))))) ∧
                    ((isF (AV.bin Go.BinOp.gtr (AV.at r5697 (ys6721.getD 0 default) 0) x2)) →
                      ((AV.isBool (AV.bin Go.BinOp.gtr (AV.at r5697 (ys6721.getD 0 default) 0) x2)) ∧
                      ((isF (AV.bin Go.BinOp.gtr (AV.at r5697 (ys6721.getD 0 default) 0) x2)) ∧
                      ((AV.binOk Go.BinOp.gtr (AV.at r5697 (ys6721.getD 0 default) 0) x2) ∧
                      ((AV.isBool (AV.bin Go.BinOp.gtr (AV.at r5697 (ys6721.getD 0 default) 0) x2)) ∧
                      ((isF (AV.bin Go.BinOp.gtr (AV.at r5697 (ys6721.getD 0 default) 0) x2)) ∧
                      ((AV.inb (AV.prj r833 0) (ys6721.getD 0 default)) ∧
                      ((AV.inb (AV.prj r833 0) (ys6721.getD 0 default)) ∧
                      ((AV.eqPlOk [(0, (EK.int Go.IntKind.i64)), (1, (EK.int Go.IntKind.i64)), (2, (EK.int Go.IntKind.i64)), (3, (EK.int Go.IntKind.i64)), (4, (EK.int Go.IntKind.i64)), (5, (EK.int Go.IntKind.i64))] [(AV.cel (AV.atAgg (AV.prj r833 0) (ys6721.getD 0 default) 0 6) 0), (AV.cel (AV.atAgg (AV.prj r833 0) (ys6721.getD 0 default) 0 6) 1), (AV.cel (AV.atAgg (AV.prj r833 0) (ys6721.getD 0 default) 0 6) 2), (AV.cel (AV.atAgg (AV.prj r833 0) (ys6721.getD 0 default) 0 6) 3), (AV.cel (AV.atAgg (AV.prj r833 0) (ys6721.getD 0 default) 0 6) 4), (AV.cel (AV.atAgg (AV.prj r833 0) (ys6721.getD 0 default) 0 6) 5)] [(AV.cel (AV.prj r7233 0) 0), (AV.cel (AV.prj r7233 0) 1), (AV.cel (AV.prj r7233 0) 2), (AV.cel (AV.prj r7233 0) 3), (AV.cel (AV.prj r7233 0) 4), (AV.cel (AV.prj r7233 0) 5)]) ∧
                      ((AV.isAgg (AV.atAgg (AV.prj r833 0) (ys6721.getD 0 default) 0 6) 6) ∧
                      ((AV.isBool (AV.nePl [(0, (EK.int Go.IntKind.i64)), (1, (EK.int Go.IntKind.i64)), (2, (EK.int Go.IntKind.i64)), (3, (EK.int Go.IntKind.i64)), (4, (EK.int Go.IntKind.i64)), (5, (EK.int Go.IntKind.i64))] [(AV.cel (AV.atAgg (AV.prj r833 0) (ys6721.getD 0 default) 0 6) 0), (AV.cel (AV.atAgg (AV.prj r833 0) (ys6721.getD 0 default) 0 6) 1), (AV.cel (AV.atAgg (AV.prj r833 0) (ys6721.getD 0 default) 0 6) 2), (AV.cel (AV.atAgg (AV.prj r833 0) (ys6721.getD 0 default) 0 6) 3), (AV.cel (AV.atAgg (AV.prj r833 0) (ys6721.getD 0 default) 0 6) 4), (AV.cel (AV.atAgg (AV.prj r833 0) (ys6721.getD 0 default) 0 6) 5)] [(AV.cel (AV.prj r7233 0) 0), (AV.cel (AV.prj r7233 0) 1), (AV.cel (AV.prj r7233 0) 2), (AV.cel (AV.prj r7233 0) 3), (AV.cel (AV.prj r7233 0) 4), (AV.cel (AV.prj r7233 0) 5)])) ∧
                      ((isF (AV.nePl [(0, (EK.int Go.IntKind.i64)), (1, (EK.int Go.IntKind.i64)), (2, (EK.int Go.IntKind.i64)), (3, (EK.int Go.IntKind.i64)), (4, (EK.int Go.IntKind.i64)), (5, (EK.int Go.IntKind.i64))] [(AV.cel (AV.atAgg (AV.prj r833 0) (ys6721.getD 0 default) 0 6) 0), (AV.cel (AV.atAgg (AV.prj r833 0) (ys6721.getD 0 default) 0 6) 1), (AV.cel (AV.atAgg (AV.prj r833 0) (ys6721.getD 0 default) 0 6) 2), (AV.cel (AV.atAgg (AV.prj r833 0) (ys6721.getD 0 default) 0 6) 3), (AV.cel (AV.atAgg (AV.prj r833 0) (ys6721.getD 0 default) 0 6) 4), (AV.cel (AV.atAgg (AV.prj r833 0) (ys6721.getD 0 default) 0 6) 5)] [(AV.cel (AV.prj r7233 0) 0), (AV.cel (AV.prj r7233 0) 1), (AV.cel (AV.prj r7233 0) 2), (AV.cel (AV.prj r7233 0) 3), (AV.cel (AV.prj r7233 0) 4), (AV.cel (AV.prj r7233 0) 5)])) ∧
                      ((AV.binOk Go.BinOp.add (ys6721.getD 0 default) (AV.int 1)) ∧
                      (again6721 [(AV.bin Go.BinOp.add (ys6721.getD 0 default) (AV.int 1))])))))))))))))))))))))))) ∧
                  ((isF (AV.bin Go.BinOp.lss (ys6721.getD 0 default) (AV.len r5697))) →
                    ((AV.flat (AV.bool true)) ∧
                    (fSame (AV.bool true) r)))))))))))))))))))))))) ∧
            ((isF (AV.un Go.UnOp.not r5121)) →
              (∃ r5377 : AV, ((FnU Tryd.prog 13 3 1 (AV.app 1 (ys3905.getD 1 default) (AV.mk 1 [[x2]])) [] false r5377) ∧
              ((AV.binOk Go.BinOp.gtr (AV.len r5377) (AV.int 64)) ∧
              ((AV.isBool (AV.bin Go.BinOp.gtr (AV.len r5377) (AV.int 64))) ∧
              (((isT (AV.bin Go.BinOp.gtr (AV.len r5377) (AV.int 64))) →
                ((AV.binOk Go.BinOp.eql (AV.prj r833 1) (AV.int 2)) ∧
                ((AV.isBool (AV.bin Go.BinOp.eql (AV.prj r833 1) (AV.int 2))) ∧
                ((isT (AV.bin Go.BinOp.eql (AV.prj r833 1) (AV.int 2))) ∧
                ((AV.binOk Go.BinOp.eql (AV.len (AV.prj r833 0)) (AV.int 0)) ∧
                ((AV.isBool (AV.bin Go.BinOp.eql (AV.prj r833 1) (AV.int 2))) ∧
                ((isT (AV.bin Go.BinOp.eql (AV.prj r833 1) (AV.int 2))) ∧
                ((AV.flat (AV.bin Go.BinOp.eql (AV.len (AV.prj r833 0)) (AV.int 0))) ∧
                (fSame (AV.bin Go.BinOp.eql (AV.len (AV.prj r833 0)) (AV.int 0)) r))))))))) ∧
              ((isF (AV.bin Go.BinOp.gtr (AV.len r5377) (AV.int 64))) →
                ((AV.binOk Go.BinOp.neq (AV.prj r833 1) (AV.int 0)) ∧
                ((AV.isBool (AV.bin Go.BinOp.neq (AV.prj r833 1) (AV.int 0))) ∧
                ((isF (AV.bin Go.BinOp.neq (AV.prj r833 1) (AV.int 0))) ∧
                ((AV.binOk Go.BinOp.neq (AV.len (AV.prj r833 0)) (AV.len r5377)) ∧
                ((AV.isBool (AV.bin Go.BinOp.neq (AV.prj r833 1) (AV.int 0))) ∧
                ((isF (AV.bin Go.BinOp.neq (AV.prj r833 1) (AV.int 0))) ∧
                ((AV.isBool (AV.bin Go.BinOp.neq (AV.len (AV.prj r833 0)) (AV.len r5377))) ∧
                ((isF (AV.bin Go.BinOp.neq (AV.len (AV.prj r833 0)) (AV.len r5377))) ∧
                (fLoop 6401 [(AV.int 0)] fun ys6401 again6401 =>
                  ((AV.binOk Go.BinOp.lss (ys6401.getD 0 default) (AV.len r5377)) ∧
                  ((AV.isBool (AV.bin Go.BinOp.lss (ys6401.getD 0 default) (AV.len r5377))) ∧
                  (((isT (AV.bin Go.BinOp.lss (ys6401.getD 0 default) (AV.len r5377))) →
                    ((AV.inb r5377 (ys6401.getD 0 default)) ∧
                    ((AV.inb r5377 (ys6401.getD 0 default)) ∧
                    (∃ r6913 : AV, ((Fn Tryd.prog 8 [x0, (AV.at r5377 (ys6401.getD 0 default) 0)] (Sh.tup [Sh.sc, Sh.sc]) r6913) ∧
                    ((AV.isAgg (AV.prj r6913 0) 6) ∧
                    ((AV.binOk Go.BinOp.sub (AV.cel x1 2) (AV.cel (AV.prj r2177 0) 3)) ∧
                    ((AV.binOk Go.BinOp.gtr (AV.at r5377 (ys6401.getD 0 default) 0) x2) ∧
                    ((AV.isBool (AV.bin Go.BinOp.gtr (AV.at r5377 (ys6401.getD 0 default) 0) x2)) ∧
                    (((isT (AV.bin Go.BinOp.gtr (AV.at r5377 (ys6401.getD 0 default) 0) x2)) →
                      ((AV.binOk Go.BinOp.geq (AV.at r5377 (ys6401.getD 0 default) 0) (AV.bin Go.BinOp.add x2 (AV.prj r2881 0))) ∧
                      ((AV.isBool (AV.bin Go.BinOp.gtr (AV.at r5377 (ys6401.getD 0 default) 0) x2)) ∧
                      ((isT (AV.bin Go.BinOp.gtr (AV.at r5377 (ys6401.getD 0 default) 0) x2)) ∧
                      ((AV.isBool (AV.bin Go.BinOp.geq (AV.at r5377 (ys6401.getD 0 default) 0) (AV.bin Go.BinOp.add x2 (AV.prj r2881 0)))) ∧
                      (((isT (AV.bin Go.BinOp.geq (AV.at r5377 (ys6401.getD 0 default) 0) (AV.bin Go.BinOp.add x2 (AV.prj r2881 0)))) →
                        ((AV.isOne (AV.cel x1 2)) ∧
                        ((AV.inb (AV.prj r833 0) (ys6401.getD 0 default)) ∧
                        ((AV.inb (AV.prj r833 0) (ys6401.getD 0 default)) ∧
                        ((AV.eqPlOk [(0, (EK.int Go.IntKind.i64)), (1, (EK.int Go.IntKind.i64)), (2, (EK.int Go.IntKind.i64)), (3, (EK.int Go.IntKind.i64)), (4, (EK.int Go.IntKind.i64)), (5, (EK.int Go.IntKind.i64))] [(AV.cel (AV.atAgg (AV.prj r833 0) (ys6401.getD 0 default) 0 6) 0), (AV.cel (AV.atAgg (AV.prj r833 0) (ys6401.getD 0 default) 0 6) 1), (AV.cel (AV.atAgg (AV.prj r833 0) (ys6401.getD 0 default) 0 6) 2), (AV.cel (AV.atAgg (AV.prj r833 0) (ys6401.getD 0 default) 0 6) 3), (AV.cel (AV.atAgg (AV.prj r833 0) (ys6401.getD 0 default) 0 6) 4), (AV.cel (AV.atAgg (AV.prj r833 0) (ys6401.getD 0 default) 0 6) 5)] [(AV.cel (AV.prj r6913 0) 0), (AV.cel (AV.prj r6913 0) 1), (AV.cel (AV.prj r6913 0) 2), (AV.cel x1 2), (AV.cel (AV.prj r6913 0) 4), (AV.cel (AV.prj r6913 0) 5)]) ∧
                        ((AV.isAgg (AV.atAgg (AV.prj r833 0) (ys6401.getD 0 default) 0 6) 6) ∧
                        ((AV.isBool (AV.nePl [(0, (EK.int Go.IntKind.i64)), (1, (EK.int Go.IntKind.i64)), (2, (EK.int Go.IntKind.i64)), (3, (EK.int Go.IntKind.i64)), (4, (EK.int Go.IntKind.i64)), (5, (EK.int Go.IntKind.i64))] [(AV.cel (AV.atAgg (AV.prj r833 0) (ys6401.getD 0 default) 0 6) 0), (AV.cel (AV.atAgg (AV.prj r833 0) (ys6401.getD 0 default) 0 6) 1), (AV.cel (AV.atAgg (AV.prj r833 0) (ys6401.getD 0 default) 0 6) 2), (AV.cel (AV.atAgg (AV.prj r833 0) (ys6401.getD 0 default) 0 6) 3), (AV.cel (AV.atAgg (AV.prj r833 0) (ys6401.getD 0 default) 0 6) 4), (AV.cel (AV.atAgg (AV.prj r833 0) (ys6401.getD 0 default) 0 6) 5)] [(AV.cel (AV.prj r6913 0) 0), (AV.cel (AV.prj r6913 0) 1), (AV.cel (AV.prj r6913 0) 2), (AV.cel x1 2), (AV.cel (AV.prj r6913 0) 4), (AV.cel (AV.prj r6913 0) 5)])) ∧
                        ((isF (AV.nePl [(0, (EK.int Go.IntKind.i64)), (1, (EK.int Go.IntKind.i64)), (2, (EK.int Go.IntKind.i64)), (3, (EK.int Go.IntKind.i64)), (4, (EK.int Go.IntKind.i64)), (5, (EK.int Go.IntKind.i64))] [(AV.cel (AV.atAgg (AV.prj r833 0) (ys6401.getD 0 default) 0 6) 0), (AV.cel (AV.atAgg (AV.prj r833 0) (ys6401.getD 0 default) 0 6) 1), (AV.cel (AV.atAgg (AV.prj r833 0) (ys6401.getD 0 default) 0 6) 2), (AV.cel (AV.atAgg (AV.prj r833 0) (ys6401.getD 0 default) 0 6) 3), (AV.cel (AV.atAgg (AV.prj r833 0) (ys6401.getD 0 default) 0 6) 4), (AV.cel (AV.atAgg (AV.prj r833 0) (ys6401.getD 0 default) 0 6) 5)] [(AV.cel (AV.prj r6913 0) 0), (AV.cel (AV.prj r6913 0) 1), (AV.cel (AV.prj r6913 0) 2), (AV.cel x1 2), (AV.cel (AV.prj r6913 0) 4), (AV.cel (AV.prj r6913 0) 5)])) ∧
                        ((AV.binOk Go.BinOp.add (ys6401.getD 0 default) (AV.int 1)) ∧
                        (again6401 [(AV.bin Go.BinOp.add (ys6401.getD 0 default) (AV.int 1))])))))))))) ∧
                      ((isF (AV.bin Go.BinOp.geq (AV.at r5377 (ys6401.getD 0 default) 0) (AV.bin Go.BinOp.add x2 (AV.prj r2881 0)))) →
                        ((AV.binOk Go.BinOp.gtr (AV.at r5377 (ys6401.getD 0 default) 0) x2) ∧
                        ((AV.isBool (AV.bin Go.BinOp.gtr (AV.at r5377 (ys6401.getD 0 default) 0) x2)) ∧
                        ((isT (AV.bin Go.BinOp.gtr (AV.at r5377 (ys6401.getD 0 default) 0) x2)) ∧
                        ((AV.isInt (AV.cel (AV.prj r2177 0) 3)) ∧
                        ((AV.isInt (AV.cel x1 2)) ∧
                        (fLoop 9089 [(AV.mn (AV.cel (AV.prj r2177 0) 3) (AV.cel x1 2))] fun ys9089 again9089 =>
                          ((AV.binOk Go.BinOp.add (ys9089.getD 0 default) (AV.int 1)) ∧
                          ((AV.binOk Go.BinOp.sub (AV.bin Go.BinOp.add (ys9089.getD 0 default) (AV.int 1)) (AV.cel (AV.prj r2177 0) 3)) ∧
                          ((AV.binOk Go.BinOp.mul (AV.bin Go.BinOp.sub (AV.bin Go.BinOp.add (ys9089.getD 0 default) (AV.int 1)) (AV.cel (AV.prj r2177 0) 3)) (AV.prj r2881 0)) ∧
                          ((AV.binOk Go.BinOp.sub (AV.at r5377 (ys6401.getD 0 default) 0) x2) ∧
                          ((AV.binOk Go.BinOp.mul (AV.bin Go.BinOp.sub (AV.cel x1 2) (AV.cel (AV.prj r2177 0) 3)) (AV.bin Go.BinOp.sub (AV.at r5377 (ys6401.getD 0 default) 0) x2)) ∧
                          ((AV.binOk Go.BinOp.leq (AV.bin Go.BinOp.mul (AV.bin Go.BinOp.sub (AV.bin Go.BinOp.add (ys9089.getD 0 default) (AV.int 1)) (AV.cel (AV.prj r2177 0) 3)) (AV.prj r2881 0)) (AV.bin Go.BinOp.mul (AV.bin Go.BinOp.sub (AV.cel x1 2) (AV.cel (AV.prj r2177 0) 3)) (AV.bin Go.BinOp.sub (AV.at r5377 (ys6401.getD 0 default) 0) x2))) ∧
                          ((AV.isBool (AV.bin Go.BinOp.leq (AV.bin Go.BinOp.mul (AV.bin Go.BinOp.sub (AV.bin Go.BinOp.add (ys9089.getD 0 default) (AV.int 1)) (AV.cel (AV.prj r2177 0) 3)) (AV.prj r2881 0)) (AV.bin Go.BinOp.mul (AV.bin Go.BinOp.sub (AV.cel x1 2) (AV.cel (AV.prj r2177 0) 3)) (AV.bin Go.BinOp.sub (AV.at r5377 (ys6401.getD 0 default) 0) x2)))) ∧
                          (((isT (AV.bin Go.BinOp.leq (AV.bin Go.BinOp.mul (AV.bin Go.BinOp.sub (AV.bin Go.BinOp.add (ys9089.getD 0 default) (AV.int 1)) (AV.cel (AV.prj r2177 0) 3)) (AV.prj r2881 0)) (AV.bin Go.BinOp.mul (AV.bin Go.BinOp.sub (AV.cel x1 2) (AV.cel (AV.prj r2177 0) 3)) (AV.bin Go.BinOp.sub (AV.at r5377 (ys6401.getD 0 default) 0) x2)))) →
                            ((AV.binOk Go.BinOp.add (ys9089.getD 0 default) (AV.int 1)) ∧
                            (again9089 [(AV.bin Go.BinOp.add (ys9089.getD 0 default) (AV.int 1))]))) ∧
                          ((isF (AV.bin Go.BinOp.leq (AV.bin Go.BinOp.mul (AV.bin Go.BinOp.sub (AV.bin Go.BinOp.add (ys9089.getD 0 default) (AV.int 1)) (AV.cel (AV.prj r2177 0) 3)) (AV.prj r2881 0)) (AV.bin Go.BinOp.mul (AV.bin Go.BinOp.sub (AV.cel x1 2) (AV.cel (AV.prj r2177 0) 3)) (AV.bin Go.BinOp.sub (AV.at r5377 (ys6401.getD 0 default) 0) x2)))) →
                            ((AV.isOne (ys9089.getD 0 default)) ∧
                            ((AV.inb (AV.prj r833 0) (ys6401.getD 0 default)) ∧
                            ((AV.inb (AV.prj r833 0) (ys6401.getD 0 default)) ∧
                            ((AV.eqPlOk [(0, (EK.int Go.IntKind.i64)), (1, (EK.int Go.IntKind.i64)), (2, (EK.int Go.IntKind.i64)), (3, (EK.int Go.IntKind.i64)), (4, (EK.int Go.IntKind.i64)), (5, (EK.int Go.IntKind.i64))] [(AV.cel (AV.atAgg (AV.prj r833 0) (ys6401.getD 0 default) 0 6) 0), (AV.cel (AV.atAgg (AV.prj r833 0) (ys6401.getD 0 default) 0 6) 1), (AV.cel (AV.atAgg (AV.prj r833 0) (ys6401.getD 0 default) 0 6) 2), (AV.cel (AV.atAgg (AV.prj r833 0) (ys6401.getD 0 default) 0 6) 3), (AV.cel (AV.atAgg (AV.prj r833 0) (ys6401.getD 0 default) 0 6) 4), (AV.cel (AV.atAgg (AV.prj r833 0) (ys6401.getD 0 default) 0 6) 5)] [(AV.cel (AV.prj r6913 0) 0), (AV.cel (AV.prj r6913 0) 1), (AV.cel (AV.prj r6913 0) 2), (ys9089.getD 0 default), (AV.cel (AV.prj r6913 0) 4), (AV.cel (AV.prj r6913 0) 5)]) ∧
                            ((AV.isAgg (AV.atAgg (AV.prj r833 0) (ys6401.getD 0 default) 0 6) 6) ∧
                            ((AV.isBool (AV.nePl [(0, (EK.int Go.IntKind.i64)), (1, (EK.int Go.IntKind.i64)), (2, (EK.int Go.IntKind.i64)), (3, (EK.int Go.IntKind.i64)), (4, (EK.int Go.IntKind.i64)), (5, (EK.int Go.IntKind.i64))] [(AV.cel (AV.atAgg (AV.prj r833 0) (ys6401.getD 0 default) 0 6) 0), (AV.cel (AV.atAgg (AV.prj r833 0) (ys6401.getD 0 default) 0 6) 1), (AV.cel (AV.atAgg (AV.prj r833 0) (ys6401.getD 0 default) 0 6) 2), (AV.cel (AV.atAgg (AV.prj r833 0) (ys6401.getD 0 default) 0 6) 3), (AV.cel (AV.atAgg (AV.prj r833 0) (ys6401.getD 0 default) 0 6) 4), (AV.cel (AV.atAgg (AV.prj r833 0) (ys6401.getD 0 default) 0 6) 5)] [(AV.cel (AV.prj r6913 0) 0), (AV.cel (AV.prj r6913 0) 1), (AV.cel (AV.prj r6913 0) 2), (ys9089.getD 0 default), (AV.cel (AV.prj r6913 0) 4), (AV.cel (AV.prj r6913 0) 5)])) ∧
                            ((isF (AV.nePl [(0, (EK.int Go.IntKind.i64)), (1, (EK.int Go.IntKind.i64)), (2, (EK.int Go.IntKind.i64)), (3, (EK.int Go.IntKind.i64)), (4, (EK.int Go.IntKind.i64)), (5, (EK.int Go.IntKind.i64))] [(AV.cel (AV.atAgg (AV.prj r833 0) (ys6401.getD 0 default) 0 6) 0), (AV.cel (AV.atAgg (AV.prj r833 0) (ys6401.getD 0 default) 0 6) 1), (AV.cel (AV.atAgg (AV.prj r833 0) (ys6401.getD 0 default) 0 6) 2), (AV.cel (AV.atAgg (AV.prj r833 0) (ys6401.getD 0 default) 0 6) 3), (AV.cel (AV.atAgg (AV.prj r833 0) (ys6401.getD 0 default) 0 6) 4), (AV.cel (AV.atAgg (AV.prj r833 0) (ys6401.getD 0 default) 0 6) 5)] [(AV.cel (AV.prj r6913 0) 0), (AV.cel (AV.prj r6913 0) 1), (AV.cel (AV.prj r6913 0) 2), (ys9089.getD 0 default), (AV.cel (AV.prj r6913 0) 4), (AV.cel (AV.prj r6913 0) 5)])) ∧
                            ((AV.binOk Go.BinOp.add (ys6401.getD 0 default) (AV.int 1)) ∧
                            (again6401 [(AV.bin Go.BinOp.add (ys6401.getD 0 default) (AV.int 1))]))))))))))))))))))))))))))))))) ∧
                    ((isF (AV.bin Go.BinOp.gtr (AV.at r5377 (ys6401.getD 0 default) 0) x2)) →
                      ((AV.isBool (AV.bin Go.BinOp.gtr (AV.at r5377 (ys6401.getD 0 default) 0) x2)) ∧
                      ((isF (AV.bin Go.BinOp.gtr (AV.at r5377 (ys6401.getD 0 default) 0) x2)) ∧
                      ((AV.binOk Go.BinOp.gtr (AV.at r5377 (ys6401.getD 0 default) 0) x2) ∧
                      ((AV.isBool (AV.bin Go.BinOp.gtr (AV.at r5377 (ys6401.getD 0 default) 0) x2)) ∧
                      ((isF (AV.bin Go.BinOp.gtr (AV.at r5377 (ys6401.getD 0 default) 0) x2)) ∧
                      ((AV.inb (AV.prj r833 0) (ys6401.getD 0 default)) ∧
                      ((AV.inb (AV.prj r833 0) (ys6401.getD 0 default)) ∧
                      ((AV.eqPlOk [(0, (EK.int Go.IntKind.i64)), (1, (EK.int Go.IntKind.i64)), (2, (EK.int Go.IntKind.i64)), (3, (EK.int Go.IntKind.i64)), (4, (EK.int Go.IntKind.i64)), (5, (EK.int Go.IntKind.i64))] [(AV.cel (AV.atAgg (AV.prj r833 0) (ys6401.getD 0 default) 0 6) 0), (AV.cel (AV.atAgg (AV.prj r833 0) (ys6401.getD 0 default) 0 6) 1), (AV.cel (AV.atAgg (AV.prj r833 0) (ys6401.getD 0 default) 0 6) 2), (AV.cel (AV.atAgg (AV.prj r833 0) (ys6401.getD 0 default) 0 6) 3), (AV.cel (AV.atAgg (AV.prj r833 0) (ys6401.getD 0 default) 0 6) 4), (AV.cel (AV.atAgg (AV.prj r833 0) (ys6401.getD 0 default) 0 6) 5)] [(AV.cel (AV.prj r6913 0) 0), (AV.cel (AV.prj r6913 0) 1), (AV.cel (AV.prj r6913 0) 2), (AV.cel (AV.prj r6913 0) 3), (AV.cel (AV.prj r6913 0) 4), (AV.cel (AV.prj r6913 0) 5)]) ∧
                      ((AV.isAgg (AV.atAgg (AV.prj r833 0) (ys6401.getD 0 default) 0 6) 6) ∧
                      ((AV.isBool (AV.nePl [(0, (EK.int Go.IntKind.i64)), (1, (EK.int Go.IntKind.i64)), (2, (EK.int Go.IntKind.i64)), (3, (EK.int Go.IntKind.i64)), (4, (EK.int Go.IntKind.i64)), (5, (EK.int Go.IntKind.i64))] [(AV.cel (AV.atAgg (AV.prj r833 0) (ys6401.getD 0 default) 0 6) 0), (AV.cel (AV.atAgg (AV.prj r833 0) (ys6401.getD 0 default) 0 6) 1), (AV.cel (AV.atAgg (AV.prj r833 0) (ys6401.getD 0 default) 0 6) 2), (AV.cel (AV.atAgg (AV.prj r833 0) (ys6401.getD 0 default) 0 6) 3), (AV.cel (AV.atAgg (AV.prj r833 0) (ys6401.getD 0 default) 0 6) 4), (AV.cel (AV.atAgg (AV.prj r833 0) (ys6401.getD 0 default) 0 6) 5)] [(AV.cel (AV.prj r6913 0) 0), (AV.cel (AV.prj r6913 0) 1), (AV.cel (AV.prj r6913 0) 2), (AV.cel (AV.prj r6913 0) 3), (AV.cel (AV.prj r6913 0) 4), (AV.cel (AV.prj r6913 0) 5)])) ∧
                      ((isF (AV.nePl [(0, (EK.int Go.IntKind.i64)), (1, (EK.int Go.IntKind.i64)), (2, (EK.int Go.IntKind.i64)), (3, (EK.int Go.IntKind.i64)), (4, (EK.int Go.IntKind.i64)), (5, (EK.int Go.IntKind.i64))] [(AV.cel (AV.atAgg (AV.prj r833 0) (ys6401.getD 0 default) 0 6) 0), (AV.cel (AV.atAgg (AV.prj r833 0) (ys6401.getD 0 default) 0 6) 1), (AV.cel (AV.atAgg (AV.prj r833 0) (ys6401.getD 0 default) 0 6) 2), (AV.cel (AV.atAgg (AV.prj r833 0) (ys6401.getD 0 default) 0 6) 3), (AV.cel (AV.atAgg (AV.prj r833 0) (ys6401.getD 0 default) 0 6) 4), (AV.cel (AV.atAgg (AV.prj r833 0) (ys6401.getD 0 default) 0 6) 5)] [(AV.cel (AV.prj r6913 0) 0), (AV.cel (AV.prj r6913 0) 1), (AV.cel (AV.prj r6913 0) 2), (AV.cel (AV.prj r6913 0) 3), (AV.cel (AV.prj r6913 0) 4), (AV.cel (AV.prj r6913 0) 5)])) ∧
                      ((AV.binOk Go.BinOp.add (ys6401.getD 0 default) (AV.int 1)) ∧
                      (again6401 [(AV.bin Go.BinOp.add (ys6401.getD 0 default) (AV.int 1))])))))))))))))))))))))))) ∧
                  ((isF (AV.bin Go.BinOp.lss (ys6401.getD 0 default) (AV.len r5377))) →
                    ((AV.flat (AV.bool true)) ∧
                    (fSame (AV.bool true) r)))))))))))))))))))))))))))))) ∧
          ((isF (AV.bin Go.BinOp.lss (AV.bin Go.BinOp.add x2 (AV.prj r2881 0)) (AV.at x0 (AV.bin Go.BinOp.sub (AV.len x0) (AV.int 1)) 0))) →
            ((AV.isBool (AV.bin Go.BinOp.lss (AV.bin Go.BinOp.add x2 (AV.prj r2881 0)) (AV.at x0 (AV.bin Go.BinOp.sub (AV.len x0) (AV.int 1)) 0))) ∧
            ((isF (AV.bin Go.BinOp.lss (AV.bin Go.BinOp.add x2 (AV.prj r2881 0)) (AV.at x0 (AV.bin Go.BinOp.sub (AV.len x0) (AV.int 1)) 0))) ∧
            (∃ r5377 : AV, ((FnU Tryd.prog 13 3 1 (AV.app 1 (ys3905.getD 1 default) (AV.mk 1 [[x2]])) [] false r5377) ∧
            ((AV.binOk Go.BinOp.gtr (AV.len r5377) (AV.int 64)) ∧
            ((AV.isBool (AV.bin Go.BinOp.gtr (AV.len r5377) (AV.int 64))) ∧
            (((isT (AV.bin Go.BinOp.gtr (AV.len r5377) (AV.int 64))) →
              ((AV.binOk Go.BinOp.eql (AV.prj r833 1) (AV.int 2)) ∧
              ((AV.isBool (AV.bin Go.BinOp.eql (AV.prj r833 1) (AV.int 2))) ∧
              ((isT (AV.bin Go.BinOp.eql (AV.prj r833 1) (AV.int 2))) ∧
              ((AV.binOk Go.BinOp.eql (AV.len (AV.prj r833 0)) (AV.int 0)) ∧
              ((AV.isBool (AV.bin Go.BinOp.eql (AV.prj r833 1) (AV.int 2))) ∧
              ((isT (AV.bin Go.BinOp.eql (AV.prj r833 1) (AV.int 2))) ∧
              ((AV.flat (AV.bin Go.BinOp.eql (AV.len (AV.prj r833 0)) (AV.int 0))) ∧
              (fSame (AV.bin Go.BinOp.eql (AV.len (AV.prj r833 0)) (AV.int 0)) r))))))))) ∧
            ((isF (AV.bin Go.BinOp.gtr (AV.len r5377) (AV.int 64))) →
              ((AV.binOk Go.BinOp.neq (AV.prj r833 1) (AV.int 0)) ∧
              ((AV.isBool (AV.bin Go.BinOp.neq (AV.prj r833 1) (AV.int 0))) ∧
              ((isF (AV.bin Go.BinOp.neq (AV.prj r833 1) (AV.int 0))) ∧
              ((AV.binOk Go.BinOp.neq (AV.len (AV.prj r833 0)) (AV.len r5377)) ∧
              ((AV.isBool (AV.bin Go.BinOp.neq (AV.prj r833 1) (AV.int 0))) ∧
              ((isF (AV.bin Go.BinOp.neq (AV.prj r833 1) (AV.int 0))) ∧
              ((AV.isBool (AV.bin Go.BinOp.neq (AV.len (AV.prj r833 0)) (AV.len r5377))) ∧
              ((isF (AV.bin Go.BinOp.neq (AV.len (AV.prj r833 0)) (AV.len r5377))) ∧
              (fLoop 6401 [(AV.int 0)] fun ys6401 again6401 =>
                ((AV.binOk Go.BinOp.lss (ys6401.getD 0 default) (AV.len r5377)) ∧
                ((AV.isBool (AV.bin Go.BinOp.lss (ys6401.getD 0 default) (AV.len r5377))) ∧
                (((isT (AV.bin Go.BinOp.lss (ys6401.getD 0 default) (AV.len r5377))) →
                  ((AV.inb r5377 (ys6401.getD 0 default)) ∧
                  ((AV.inb r5377 (ys6401.getD 0 default)) ∧
                  (∃ r6913 : AV, ((Fn Tryd.prog 8 [x0, (AV.at r5377 (ys6401.getD 0 default) 0)] (Sh.tup [Sh.sc, Sh.sc]) r6913) ∧
                  ((AV.isAgg (AV.prj r6913 0) 6) ∧
                  ((AV.binOk Go.BinOp.sub (AV.cel x1 2) (AV.cel (AV.prj r2177 0) 3)) ∧
                  ((AV.binOk Go.BinOp.gtr (AV.at r5377 (ys6401.getD 0 default) 0) x2) ∧
                  ((AV.isBool (AV.bin Go.BinOp.gtr (AV.at r5377 (ys6401.getD 0 default) 0) x2)) ∧
                  (((isT (AV.bin Go.BinOp.gtr (AV.at r5377 (ys6401.getD 0 default) 0) x2)) →
                    ((AV.binOk Go.BinOp.geq (AV.at r5377 (ys6401.getD 0 default) 0) (AV.bin Go.BinOp.add x2 (AV.prj r2881 0))) ∧
                    ((AV.isBool (AV.bin Go.BinOp.gtr (AV.at r5377 (ys6401.getD 0 default) 0) x2)) ∧
                    ((isT (AV.bin Go.BinOp.gtr (AV.at r5377 (ys6401.getD 0 default) 0) x2)) ∧
                    ((AV.isBool (AV.bin Go.BinOp.geq (AV.at r5377 (ys6401.getD 0 default) 0) (AV.bin Go.BinOp.add x2 (AV.prj r2881 0)))) ∧
                    (((isT (AV.bin Go.BinOp.geq (AV.at r5377 (ys6401.getD 0 default) 0) (AV.bin Go.BinOp.add x2 (AV.prj r2881 0)))) →
                      ((AV.isOne (AV.cel x1 2)) ∧
                      ((AV.inb (AV.prj r833 0) (ys6401.getD 0 default)) ∧
                      ((AV.inb (AV.prj r833 0) (ys6401.getD 0 default)) ∧
                      ((AV.eqPlOk [(0, (EK.int Go.IntKind.i64)), (1, (EK.int Go.IntKind.i64)), (2, (EK.int Go.IntKind.i64)), (3, (EK.int Go.IntKind.i64)), (4, (EK.int Go.IntKind.i64)), (5, (EK.int Go.IntKind.i64))] [(AV.cel (AV.atAgg (AV.prj r833 0) (ys6401.getD 0 default) 0 6) 0), (AV.cel (AV.atAgg (AV.prj r833 0) (ys6401.getD 0 default) 0 6) 1), (AV.cel (AV.atAgg (AV.prj r833 0) (ys6401.getD 0 default) 0 6) 2), (AV.cel (AV.atAgg (AV.prj r833 0) (ys6401.getD 0 default) 0 6) 3), (AV.cel (AV.atAgg (AV.prj r833 0) (ys6401.getD 0 default) 0 6) 4), (AV.cel (AV.atAgg (AV.prj r833 0) (ys6401.getD 0 default) 0 6) 5)] [(AV.cel (AV.prj r6913 0) 0), (AV.cel (AV.prj r6913 0) 1), (AV.cel (AV.prj r6913 0) 2), (AV.cel x1 2), (AV.cel (AV.prj r6913 0) 4), (AV.cel (AV.prj r6913 0) 5)]) ∧
                      ((AV.isAgg (AV.atAgg (AV.prj r833 0) (ys6401.getD 0 default) 0 6) 6) ∧
                      ((AV.isBool (AV.nePl [(0, (EK.int Go.IntKind.i64)), (1, (EK.int Go.IntKind.i64)), (2, (EK.int Go.IntKind.i64)), (3, (EK.int Go.IntKind.i64)), (4, (EK.int Go.IntKind.i64)), (5, (EK.int Go.IntKind.i64))] [(AV.cel (AV.atAgg (AV.prj r833 0) (ys6401.getD 0 default) 0 6) 0), (AV.cel (AV.atAgg (AV.prj r833 0) (ys6401.getD 0 default) 0 6) 1), (AV.cel (AV.atAgg (AV.prj r833 0) (ys6401.getD 0 default) 0 6) 2), (AV.cel (AV.atAgg (AV.prj r833 0) (ys6401.getD 0 default) 0 6) 3), (AV.cel (AV.atAgg (AV.prj r833 0) (ys6401.getD 0 default) 0 6) 4), (AV.cel (AV.atAgg (AV.prj r833 0) (ys6401.getD 0 default) 0 6) 5)] [(AV.cel (AV.prj r6913 0) 0), (AV.cel (AV.prj r6913 0) 1), (AV.cel (AV.prj r6913 0) 2), (AV.cel x1 2), (AV.cel (AV.prj r6913 0) 4), (AV.cel (AV.prj r6913 0) 5)])) ∧
                      ((isF (AV.nePl [(0, (EK.int Go.IntKind.i64)), (1, (EK.int Go.IntKind.i64)), (2, (EK.int Go.IntKind.i64)), (3, (EK.int Go.IntKind.i64)), (4, (EK.int Go.IntKind.i64)), (5, (EK.int Go.IntKind.i64))] [(AV.cel (AV.atAgg (AV.prj r833 0) (ys6401.getD 0 default) 0 6) 0), (AV.cel (AV.atAgg (AV.prj r833 0) (ys6401.getD 0 default) 0 6) 1), (AV.cel (AV.atAgg (AV.prj r833 0) (ys6401.getD 0 default) 0 6) 2), (AV.cel (AV.atAgg (AV.prj r833 0) (ys6401.getD 0 default) 0 6) 3), (AV.cel (AV.atAgg (AV.prj r833 0) (ys6401.getD 0 default) 0 6) 4), (AV.cel (AV.atAgg (AV.prj r833 0) (ys6401.getD 0 default) 0 6) 5)] [(AV.cel (AV.prj r6913 0) 0), (AV.cel (AV.prj r6913 0) 1), (AV.cel (AV.prj r6913 0) 2), (AV.cel x1 2), (AV.cel (AV.prj r6913 0) 4), (AV.cel (AV.prj r6913 0) 5)])) ∧
                      ((AV.binOk Go.BinOp.add (ys6401.getD 0 default) (AV.int 1)) ∧
                      (again6401 [(AV.bin Go.BinOp.add (ys6401.getD 0 default) (AV.int 1))])))))))))) ∧
                    ((isF (AV.bin Go.BinOp.geq (AV.at r5377 (ys6401.getD 0 default) 0) (AV.bin Go.BinOp.add x2 (AV.prj r2881 0)))) →
                      ((AV.binOk Go.BinOp.gtr (AV.at r5377 (ys6401.getD 0 default) 0) x2) ∧
                      ((AV.isBool (AV.bin Go.BinOp.gtr (AV.at r5377 (ys6401.getD 0 default) 0) x2)) ∧
                      ((isT (AV.bin Go.BinOp.gtr (AV.at r5377 (ys6401.getD 0 default) 0) x2)) ∧
                      ((AV.isInt (AV.cel (AV.prj r2177 0) 3)) ∧
                      ((AV.isInt (AV.cel x1 2)) ∧
                      (fLoop 9089 [(AV.mn (AV.cel (AV.prj r2177 0) 3) (AV.cel x1 2))] fun ys9089 again9089 =>
                        ((AV.binOk Go.BinOp.add (ys9089.getD 0 default) (AV.int 1)) ∧
                        ((AV.binOk Go.BinOp.sub (AV.bin Go.BinOp.add (ys9089.getD 0 default) (AV.int 1)) (AV.cel (AV.prj r2177 0) 3)) ∧
                        ((AV.binOk Go.BinOp.mul (AV.bin Go.BinOp.sub (AV.bin Go.BinOp.add (ys9089.getD 0 default) (AV.int 1)) (AV.cel (AV.prj r2177 0) 3)) (AV.prj r2881 0)) ∧
                        ((AV.binOk Go.BinOp.sub (AV.at r5377 (ys6401.getD 0 default) 0) x2) ∧
                        ((AV.binOk Go.BinOp.mul (AV.bin Go.BinOp.sub (AV.cel x1 2) (AV.cel (AV.prj r2177 0) 3)) (AV.bin Go.BinOp.sub (AV.at r5377 (ys6401.getD 0 default) 0) x2)) ∧
                        ((AV.binOk Go.BinOp.leq (AV.bin Go.BinOp.mul (AV.bin Go.BinOp.sub (AV.bin Go.BinOp.add (ys9089.getD 0 default) (AV.int 1)) (AV.cel (AV.prj r2177 0) 3)) (AV.prj r2881 0)) (AV.bin Go.BinOp.mul (AV.bin Go.BinOp.sub (AV.cel x1 2) (AV.cel (AV.prj r2177 0) 3)) (AV.bin Go.BinOp.sub (AV.at r5377 (ys6401.getD 0 default) 0) x2))) ∧
                        ((AV.isBool (AV.bin Go.BinOp.leq (AV.bin Go.BinOp.mul (AV.bin Go.BinOp.sub (AV.bin Go.BinOp.add (ys9089.getD 0 default) (AV.int 1)) (AV.cel (AV.prj r2177 0) 3)) (AV.prj r2881 0)) (AV.bin Go.BinOp.mul (AV.bin Go.BinOp.sub (AV.cel x1 2) (AV.cel (AV.prj r2177 0) 3)) (AV.bin Go.BinOp.sub (AV.at r5377 (ys6401.getD 0 default) 0) x2)))) ∧
                        (((isT (AV.bin Go.BinOp.leq (AV.bin Go.BinOp.mul (AV.bin Go.BinOp.sub (AV.bin Go.BinOp.add (ys9089.getD 0 default) (AV.int 1)) (AV.cel (AV.prj r2177 0) 3)) (AV.prj r2881 0)) (AV.bin Go.BinOp.mul (AV.bin Go.BinOp.sub (AV.cel x1 2) (AV.cel (AV.prj r2177 0) 3)) (AV.bin Go.BinOp.sub (AV.at r5377 (ys6401.getD 0 default) 0) x2)))) →
                          ((AV.binOk Go.BinOp.add (ys9089.getD 0 default) (AV.int 1)) ∧
                          (again9089 [(AV.bin Go.BinOp.add (ys9089.getD 0 default) (AV.int 1))]))) ∧
                        ((isF (AV.bin Go.BinOp.leq (AV.bin Go.BinOp.mul (AV.bin Go.BinOp.sub (AV.bin Go.BinOp.add (ys9089.getD 0 default) (AV.int 1)) (AV.cel (AV.prj r2177 0) 3)) (AV.prj r2881 0)) (AV.bin Go.BinOp.mul (AV.bin Go.BinOp.sub (AV.cel x1 2) (AV.cel (AV.prj r2177 0) 3)) (AV.bin Go.BinOp.sub (AV.at r5377 (ys6401.getD 0 default) 0) x2)))) →
                          ((AV.isOne (ys9089.getD 0 default)) ∧
                          ((AV.inb (AV.prj r833 0) (ys6401.getD 0 default)) ∧
                          ((AV.inb (AV.prj r833 0) (ys6401.getD 0 default)) ∧
                          ((AV.eqPlOk [(0, (EK.int Go.IntKind.i64)), (1, (EK.int Go.IntKind.i64)), (2, (EK.int Go.IntKind.i64)), (3, (EK.int Go.IntKind.i64)), (4, (EK.int Go.IntKind.i64)), (5, (EK.int Go.IntKind.i64))] [(AV.cel (AV.atAgg (AV.prj r833 0) (ys6401.getD 0 default) 0 6) 0), (AV.cel (AV.atAgg (AV.prj r833 0) (ys6401.getD 0 default) 0 6) 1), (AV.cel (AV.atAgg (AV.prj r833 0) (ys6401.getD 0 default) 0 6) 2), (AV.cel (AV.atAgg (AV.prj r833 0) (ys6401.getD 0 default) 0 6) 3), (AV.cel (AV.atAgg (AV.prj r833 0) (ys6401.getD 0 default) 0 6) 4), (AV.cel (AV.atAgg (AV.prj r833 0) (ys6401.getD 0 default) 0 6) 5)] [(AV.cel (AV.prj r6913 0) 0), (AV.cel (AV.prj r6913 0) 1), (AV.cel (AV.prj r6913 0) 2), (ys9089.getD 0 default), (AV.cel (AV.prj r6913 0) 4), (AV.cel (AV.prj r6913 0) 5)]) ∧
                          ((AV.isAgg (AV.atAgg (AV.prj r833 0) (ys6401.getD 0 default) 0 6) 6) ∧
                          ((AV.isBool (AV.nePl [(0, (EK.int Go.IntKind.i64)), (1, (EK.int Go.IntKind.i64)), (2, (EK.int Go.IntKind.i64)), (3, (EK.int Go.IntKind.i64)), (4, (EK.int Go.IntKind.i64)), (5, (EK.int Go.IntKind.i64))] [(AV.cel (AV.atAgg (AV.prj r833 0) (ys6401.getD 0 default) 0 6) 0), (AV.cel (AV.atAgg (AV.prj r833 0) (ys6401.getD 0 default) 0 6) 1), (AV.cel (AV.atAgg (AV.prj r833 0) (ys6401.getD 0 default) 0 6) 2), (AV.cel (AV.atAgg (AV.prj r833 0) (ys6401.getD 0 default) 0 6) 3), (AV.cel (AV.atAgg (AV.prj r833 0) (ys6401.getD 0 default) 0 6) 4), (AV.cel (AV.atAgg (AV.prj r833 0) (ys6401.getD 0 default) 0 6) 5)] [(AV.cel (AV.prj r6913 0) 0), (AV.cel (AV.prj r6913 0) 1), (AV.cel (AV.prj r6913 0) 2), (ys9089.getD 0 default), (AV.cel (AV.prj r6913 0) 4), (AV.cel (AV.prj r6913 0) 5)])) ∧
                          ((isF (AV.nePl [(0, (EK.int Go.IntKind.i64)), (1, (EK.int Go.IntKind.i64)), (2, (EK.int Go.IntKind.i64)), (3, (EK.int Go.IntKind.i64)), (4, (EK.int Go.IntKind.i64)), (5, (EK.int Go.IntKind.i64))] [(AV.cel (AV.atAgg (AV.prj r833 0) (ys6401.getD 0 default) 0 6) 0), (AV.cel (AV.atAgg (AV.prj r833 0) (ys6401.getD 0 default) 0 6) 1), (AV.cel (AV.atAgg (AV.prj r833 0) (ys6401.getD 0 default) 0 6) 2), (AV.cel (AV.atAgg (AV.prj r833 0) (ys6401.getD 0 default) 0 6) 3), (AV.cel (AV.atAgg (AV.prj r833 0) (ys6401.getD 0 default) 0 6) 4), (AV.cel (AV.atAgg (AV.prj r833 0) (ys6401.getD 0 default) 0 6) 5)] [(AV.cel (AV.prj r6913 0) 0), (AV.cel (AV.prj r6913 0) 1), (AV.cel (AV.prj r6913 0) 2), (ys9089.getD 0 default), (AV.cel (AV.prj r6913 0) 4), (AV.cel (AV.prj r6913 0) 5)])) ∧
                          ((AV.binOk Go.BinOp.add (ys6401.getD 0 default) (AV.int 1)) ∧
                          (again6401 [(AV.bin Go.BinOp.add (ys6401.getD 0 default) (AV.int 1))]))))))))))))))))))))))))))))))) ∧
                  ((isF (AV.bin Go.BinOp.gtr (AV.at r5377 (ys6401.getD 0 default) 0) x2)) →
                    ((AV.isBool (AV.bin Go.BinOp.gtr (AV.at r5377 (ys6401.getD 0 default) 0) x2)) ∧
                    ((isF (AV.bin Go.BinOp.gtr (AV.at r5377 (ys6401.getD 0 default) 0) x2)) ∧
                    ((AV.binOk Go.BinOp.gtr (AV.at r5377 (ys6401.getD 0 default) 0) x2) ∧
                    ((AV.isBool (AV.bin Go.BinOp.gtr (AV.at r5377 (ys6401.getD 0 default) 0) x2)) ∧
                    ((isF (AV.bin Go.BinOp.gtr (AV.at r5377 (ys6401.getD 0 default) 0) x2)) ∧
                    ((AV.inb (AV.prj r833 0) (ys6401.getD 0 default)) ∧
                    ((AV.inb (AV.prj r833 0) (ys6401.getD 0 default)) ∧
                    ((AV.eqPlOk [(0, (EK.int Go.IntKind.i64)), (1, (EK.int Go.IntKind.i64)), (2, (EK.int Go.IntKind.i64)), (3, (EK.int Go.IntKind.i64)), (4, (EK.int Go.IntKind.i64)), (5, (EK.int Go.IntKind.i64))] [(AV.cel (AV.atAgg (AV.prj r833 0) (ys6401.getD 0 default) 0 6) 0), (AV.cel (AV.atAgg (AV.prj r833 0) (ys6401.getD 0 default) 0 6) 1), (AV.cel (AV.atAgg (AV.prj r833 0) (ys6401.getD 0 default) 0 6) 2), (AV.cel (AV.atAgg (AV.prj r833 0) (ys6401.getD 0 default) 0 6) 3), (AV.cel (AV.atAgg (AV.prj r833 0) (ys6401.getD 0 default) 0 6) 4), (AV.cel (AV.atAgg (AV.prj r833 0) (ys6401.getD 0 default) 0 6) 5)] [(AV.cel (AV.prj r6913 0) 0), (AV.cel (AV.prj r6913 0) 1), (AV.cel (AV.prj r6913 0) 2), (AV.cel (AV.prj r6913 0) 3), (AV.cel (AV.prj r6913 0) 4), (AV.cel (AV.prj r6913 0) 5)]) ∧
                    ((AV.isAgg (AV.atAgg (AV.prj r833 0) (ys6401.getD 0 default) 0 6) 6) ∧
                    ((AV.isBool (AV.nePl [(0, (EK.int Go.IntKind.i64)), (1, (EK.int Go.IntKind.i64)), (2, (EK.int Go.IntKind.i64)), (3, (EK.int Go.IntKind.i64)), (4, (EK.int Go.IntKind.i64)), (5, (EK.int Go.IntKind.i64))] [(AV.cel (AV.atAgg (AV.prj r833 0) (ys6401.getD 0 default) 0 6) 0), (AV.cel (AV.atAgg (AV.prj r833 0) (ys6401.getD 0 default) 0 6) 1), (AV.cel (AV.atAgg (AV.prj r833 0) (ys6401.getD 0 default) 0 6) 2), (AV.cel (AV.atAgg (AV.prj r833 0) (ys6401.getD 0 default) 0 6) 3), (AV.cel (AV.atAgg (AV.prj r833 0) (ys6401.getD 0 default) 0 6) 4), (AV.cel (AV.atAgg (AV.prj r833 0) (ys6401.getD 0 default) 0 6) 5)] [(AV.cel (AV.prj r6913 0) 0), (AV.cel (AV.prj r6913 0) 1), (AV.cel (AV.prj r6913 0) 2), (AV.cel (AV.prj r6913 0) 3), (AV.cel (AV.prj r6913 0) 4), (AV.cel (AV.prj r6913 0) 5)])) ∧
                    ((isF (AV.nePl [(0, (EK.int Go.IntKind.i64)), (1, (EK.int Go.IntKind.i64)), (2, (EK.int Go.IntKind.i64)), (3, (EK.int Go.IntKind.i64)), (4, (EK.int Go.IntKind.i64)), (5, (EK.int Go.IntKind.i64))] [(AV.cel (AV.atAgg (AV.prj r833 0) (ys6401.getD 0 default) 0 6) 0), (AV.cel (AV.atAgg (AV.prj r833 0) (ys6401.getD 0 default) 0 6) 1), (AV.cel (AV.atAgg (AV.prj r833 0) (ys6401.getD 0 default) 0 6) 2), (AV.cel (AV.atAgg (AV.prj r833 0) (ys6401.getD 0 default) 0 6) 3), (AV.cel (AV.atAgg (AV.prj r833 0) (ys6401.getD 0 default) 0 6) 4), (AV.cel (AV.atAgg (AV.prj r833 0) (ys6401.getD 0 default) 0 6) 5)] [(AV.cel (AV.prj r6913 0) 0), (AV.cel (AV.prj r6913 0) 1), (AV.cel (AV.prj r6913 0) 2), (AV.cel (AV.prj r6913 0) 3), (AV.cel (AV.prj r6913 0) 4), (AV.cel (AV.prj r6913 0) 5)])) ∧
                    ((AV.binOk Go.BinOp.add (ys6401.getD 0 default) (AV.int 1)) ∧
                    (again6401 [(AV.bin Go.BinOp.add (ys6401.getD 0 default) (AV.int 1))])))))))))))))))))))))))) ∧
                ((isF (AV.bin Go.BinOp.lss (ys6401.getD 0 default) (AV.len r5377))) →
                  ((AV.flat (AV.bool true)) ∧
                  (fSame (AV.bool true) r)))))))))))))))))))))))))))))))))))))))))))))))))) ∧
  ((isF (AV.bin Go.BinOp.eql r1537 (AV.int 0))) →
    ((AV.binOk Go.BinOp.neq r1537 (AV.int 0)) ∧
    ((AV.isBool (AV.bin Go.BinOp.neq r1537 (AV.int 0))) ∧
    ((isT (AV.bin Go.BinOp.neq r1537 (AV.int 0))) ∧
    ((AV.binOk Go.BinOp.eql (AV.prj r833 1) r1537) ∧
    ((AV.isBool (AV.bin Go.BinOp.eql (AV.prj r833 1) r1537)) ∧
    ((isT (AV.bin Go.BinOp.eql (AV.prj r833 1) r1537)) ∧
    ((AV.binOk Go.BinOp.eql (AV.len (AV.prj r833 0)) (AV.int 0)) ∧
    ((AV.isBool (AV.bin Go.BinOp.eql (AV.prj r833 1) r1537)) ∧
    ((isT (AV.bin Go.BinOp.eql (AV.prj r833 1) r1537)) ∧
    ((AV.flat (AV.bin Go.BinOp.eql (AV.len (AV.prj r833 0)) (AV.int 0))) ∧
    (fSame (AV.bin Go.BinOp.eql (AV.len (AV.prj r833 0)) (AV.int 0)) r))))))))))))))))))))))))))))))) := by kernel_rfl
end EffH
end Go.Proofs.YtocgoabplafoeaaDoor
/- planes and segments. -/
namespace Go.Proofs.YtocgoabplafoeaaDoor
open Go.RowKit
set_option linter.unusedVariables false
set_option linter.unusedSimpArgs false
set_option maxRecDepth 100000
structure Pt where
  x : Int
  y : Int
  deriving DecidableEq, Inhabited
def encP (p : Pt) : List AV := [.int p.x, .int p.y]
abbrev pt (p : Pt) : AV := .agg (encP p)
abbrev pts (l : List Pt) : AV := lst 2 encP l
theorem flat_pts (l : List Pt) : (pts l).flatS := lst_flatS fun x _ z hz => by
  simp [encP] at hz; rcases hz with rfl | rfl <;> exact .lit _
def wr (n : Int) : Int := IntKind.i64.wrap n
@[simp] theorem wr_eq (n : Int) : IntKind.i64.wrap n = wr n := rfl
theorem wr_id {n : Int} (h1 : -9223372036854775808 ≤ n) (h2 : n ≤ 9223372036854775807) : wr n = n := wrap64 h1 h2
def subP (a b : Pt) : Pt := ⟨wr (a.x - b.x), wr (a.y - b.y)⟩
def dotP (a b : Pt) : Int := wr (wr (a.x * b.x) + wr (a.y * b.y))
def crossP (a b : Pt) : Int := wr (wr (a.x * b.y) - wr (a.y * b.x))
def turnP (a b c : Pt) : Int := if 0 < crossP (subP b a) (subP c a) then 1 else if crossP (subP b a) (subP c a) < 0 then -1 else 0
def sqrP (a b : Pt) : Int := dotP (subP a b) (subP a b)
def pE (p : Pt) : Int := if p.x < -1000000 ∨ p.x > 1000000 ∨ p.y < -1000000 ∨ p.y > 1000000 then 4 else 0
theorem pE_ok {p : Pt} (h : pE p = 0) : -1000000 ≤ p.x ∧ p.x ≤ 1000000 ∧ -1000000 ≤ p.y ∧ p.y ≤ 1000000 := by
  unfold pE at h
  split at h
  · cases h
  · omega
theorem pe_fn (p : Pt) : Fn Tryd.prog 17 [pt p] .sc (.int (pE p)) := by
  refine fn_run mixed 3 (Γ := SecF.Γ) (ann := SecF.ann) Tryd.func17 rfl Tryd.call17 ((SecF.pcheck_form _ _).mpr ?_)
  obtain ⟨x, y⟩ := p
  simp [encP]
  have h4 : (x < -1000000 ∨ x > 1000000 ∨ y < -1000000 ∨ y > 1000000) → 4 = pE ⟨x, y⟩ := fun h => by unfold pE; rw [if_pos h]
  have h0 : ¬ (x < -1000000 ∨ x > 1000000 ∨ y < -1000000 ∨ y > 1000000) → 0 = pE ⟨x, y⟩ := fun h => by unfold pE; rw [if_neg h]
  refine ⟨fun a => ⟨a, h4 (by omega)⟩, fun a => ⟨a, fun b => ⟨b, h4 (by omega)⟩, fun b => ⟨b, fun c => ⟨c, h4 (by omega)⟩, fun c => ⟨c, fun d => h4 (by omega), fun d => h0 (by omega)⟩⟩⟩⟩
theorem sub_fn (a b : Pt) : Fn Tryd.prog 87 [pt a, pt b] .sc (pt (subP a b)) := by
  refine fn_run mixed 3 (Γ := SecF.Γ) (ann := SecF.ann) Tryd.func87 rfl Tryd.call87 ((SecF.sub_form _ _ _).mpr ?_)
  simp [encP, subP]
theorem dot_fn (a b : Pt) : Fn Tryd.prog 88 [pt a, pt b] .sc (.int (dotP a b)) := by
  refine fn_run mixed 3 (Γ := SecF.Γ) (ann := SecF.ann) Tryd.func88 rfl Tryd.call88 ((SecF.dot_form _ _ _).mpr ?_)
  simp [encP, dotP]
theorem sqr_fn (a b : Pt) : Fn Tryd.prog 80 [pt a, pt b] .sc (.int (sqrP a b)) := by
  refine fn_run mixed 3 (Γ := SecF.Γ) (ann := SecF.ann) Tryd.func80 rfl Tryd.call80 ((SecF.square_form _ _ _).mpr ?_)
  refine ⟨by simp [encP], by simp [encP], _, sub_fn a b, by simp [encP], _, dot_fn _ _, ?_⟩
  simp [sqrP]
def nextP (l : List Pt) (i : Nat) : Pt := l.getD ((i + 1) % l.length) default
theorem tmod_nat (a b : Nat) : ((a : Int) + 1).tmod (b : Nat) = (((a + 1) % b : Nat) : Int) := by
  rw [show (a : Int) + 1 = ((a + 1 : Nat) : Int) by omega]
  rfl
theorem nextP_at {l : List Pt} {i : Nat} (h : 0 < l.length) : l[(i + 1) % l.length]? = some (nextP l i) := by
  have := Nat.mod_lt (i + 1) h
  unfold nextP
  rw [List.getD_eq_getElem?_getD, List.getElem?_eq_getElem this]
  rfl
def mnI (a b : Int) : Int := if b < a then b else a
def mxI (a b : Int) : Int := if a < b then b else a
def betw (a b c : Pt) : Bool := decide (mnI a.x b.x ≤ c.x) && decide (c.x ≤ mxI a.x b.x) && decide (mnI a.y b.y ≤ c.y) && decide (c.y ≤ mxI a.y b.y)
def onS (a b c : Pt) : Bool := decide (turnP a b c = 0) && betw a b c
def crs (a b c d : Pt) : Bool := decide (wr (turnP a b c * turnP a b d) < 0) && decide (wr (turnP c d a * turnP c d b) < 0)
theorem crs_symm (a b c d : Pt) : crs c d a b = crs a b c d := by simp [crs, Bool.and_comm]
def comS (a b c d : Pt) : Bool := crs a b c d || onS a b c || onS a b d || onS c d a || onS c d b
end Go.Proofs.YtocgoabplafoeaaDoor
/- tubes: quotients, points on the way, what is checked. -/
namespace Go.Proofs.YtocgoabplafoeaaDoor
open Go.RowKit
set_option linter.unusedVariables false
set_option linter.unusedSimpArgs false
set_option maxRecDepth 100000
theorem quo_of (a b : Int) (hb : 0 < b) : (¬ a.tmod b = 0 → a < 0 → a.tdiv b - 1 = a / b) ∧ (¬ (¬ a.tmod b = 0 ∧ a < 0) → a.tdiv b = a / b) := by
  have h1 := Int.tdiv_eq_ediv (a := a) (b := b)
  have h2 := Int.tmod_eq_emod (a := a) (b := b)
  have h3 : b.sign = 1 := Int.sign_eq_one_of_pos hb
  have h4 : (b ∣ a) ↔ a % b = 0 := Int.dvd_iff_emod_eq_zero
  by_cases h : 0 ≤ a ∨ b ∣ a
  · rw [if_pos h] at h1 h2
    refine ⟨fun q1 q2 => ?_, fun _ => by omega⟩
    rcases h with h | h
    · omega
    · have := h4.1 h; omega
  · rw [if_neg h, h3] at h1
    rw [if_neg h] at h2
    have h5 : ¬ 0 ≤ a := fun q => h (.inl q)
    have h6 : ¬ b ∣ a := fun q => h (.inr q)
    have h7 : ¬ a % b = 0 := fun q => h6 (h4.2 q)
    have h8 : ¬ a.tmod b = 0 := by
      have l1 := Int.emod_nonneg a (show b ≠ 0 by omega)
      have l2 := Int.emod_lt_of_pos a hb
      omega
    exact ⟨fun _ _ => by omega, fun q => absurd ⟨h8, by omega⟩ q⟩
theorem quo_bd {a b : Int} (hb : 0 < b) (h1 : -1000000000000 ≤ a) (h2 : a ≤ 1000000000000) : -1000000000000 ≤ a / b ∧ a / b ≤ 1000000000000 ∧ -1000000000000 ≤ a.tdiv b ∧ a.tdiv b ≤ 1000000000000 := by
  have e1 : a / b ≤ 1000000000000 := by
    rcases Int.lt_or_le a 0 with h | h
    · have := Int.ediv_neg_of_neg_of_pos h hb; omega
    · have := Int.ediv_le_self b h; omega
  have e2 : -1000000000000 ≤ a / b := by
    refine (Int.le_ediv_iff_mul_le hb).2 ?_
    have := Int.mul_le_mul_of_nonneg_left (show (1 : Int) ≤ b by omega) (show (0 : Int) ≤ 1000000000000 by omega)
    omega
  obtain ⟨q1, q2⟩ := quo_of a b hb
  refine ⟨e2, e1, ?_, ?_⟩
  · by_cases h : ¬ a.tmod b = 0 ∧ a < 0
    · have := q1 h.1 h.2; omega
    · have := q2 h; omega
  · have h3 := Int.tdiv_eq_ediv (a := a) (b := b)
    have h4 : b.sign = 1 := Int.sign_eq_one_of_pos hb
    rcases Int.lt_or_le a 0 with h | h
    · have := Int.ediv_neg_of_neg_of_pos h hb
      split at h3 <;> omega
    · rw [if_pos (.inl h)] at h3; omega
theorem divd_fn (a b : Int) (hb : 0 < b) (h1 : -1000000000000 ≤ a) (h2 : a ≤ 1000000000000) : Fn Tryd.prog 37 [.int a, .int b] (.tup [.sc, .sc]) (.tup [.int (a / b), .int 0]) := by
  refine fn_run mixed 3 (Γ := SecF.Γ) (ann := SecF.ann) Tryd.func37 rfl Tryd.call37 ((SecF.divd_form _ _ _).mpr ?_)
  obtain ⟨q1, q2⟩ := quo_of a b hb
  obtain ⟨b1, b2, b3, b4⟩ := quo_bd hb h1 h2
  have hw : wr (a.tdiv b) = a.tdiv b := wr_id (by omega) (by omega)
  have hw2 : wr (a.tdiv b - 1) = a.tdiv b - 1 := wr_id (by omega) (by omega)
  have hm : (a == -9223372036854775808) = false := by simp; omega
  have hb0 : (b == 0) = false := by simp; omega
  have hlt : decide (b < 0) = false := by simp; omega
  simp [hb0, hm, hw, hw2, hlt, show ¬ b = 0 by omega]
  generalize a.tmod b = m at *
  generalize a.tdiv b = q at *
  refine ⟨fun h => ⟨h, fun h2 => q1 h h2, fun h2 => q2 (by omega)⟩, fun h => ⟨h, q2 (by omega)⟩⟩
def dvu (a b : Int) : Int := if a.tmod b = 0 then a / b else a / b + 1
theorem dvu_bd {a b : Int} (hb : 0 < b) (h1 : -1000000000000 ≤ a) (h2 : a ≤ 1000000000000) : -1000000000001 ≤ dvu a b ∧ dvu a b ≤ 1000000000001 := by
  obtain ⟨b1, b2, _, _⟩ := quo_bd hb h1 h2
  unfold dvu
  split <;> omega
theorem divu_fn (a b : Int) (hb : 0 < b) (h1 : -1000000000000 ≤ a) (h2 : a ≤ 1000000000000) : Fn Tryd.prog 30 [.int a, .int b] (.tup [.sc, .sc]) (.tup [.int (dvu a b), .int 0]) := by
  refine fn_run mixed 3 (Γ := SecF.Γ) (ann := SecF.ann) Tryd.func30 rfl Tryd.call30 ((SecF.divu_form _ _ _).mpr ?_)
  refine ⟨_, divd_fn a b hb h1 h2, ?_⟩
  obtain ⟨b1, b2, _, _⟩ := quo_bd hb h1 h2
  have hw : wr (a / b + 1) = a / b + 1 := wr_id (by omega) (by omega)
  have u1 : ¬ a.tmod b = 0 → a / b + 1 = dvu a b := fun h => by unfold dvu; rw [if_neg h]
  have u2 : a.tmod b = 0 → a / b = dvu a b := fun h => by unfold dvu; rw [if_pos h]
  simp [hw, show ¬ b = 0 by omega]
  exact ⟨u1, u2⟩
theorem mulb {p n : Int} (h1 : -2000000 ≤ p) (h2 : p ≤ 2000000) (h3 : 0 ≤ n) (h4 : n ≤ 200000) : -400000000000 ≤ p * n ∧ p * n ≤ 400000000000 := by
  have e1 := Int.mul_le_mul_of_nonneg_right h2 h3
  have e2 := Int.mul_le_mul_of_nonneg_right h1 h3
  omega
/-- A point on the way lies between the ends. -/
theorem way {p n d : Int} (hd : 0 < d) (h0 : 0 ≤ n) (h1 : n ≤ d) : (0 ≤ p → 0 ≤ p * n / d ∧ p * n / d ≤ p) ∧ (p ≤ 0 → p ≤ p * n / d ∧ p * n / d ≤ 0) := by
  have hc := Int.mul_ediv_cancel p (show d ≠ 0 by omega)
  refine ⟨fun hp => ⟨Int.ediv_nonneg (Int.mul_nonneg hp h0) (by omega), ?_⟩, fun hp => ⟨?_, ?_⟩⟩
  · have := Int.ediv_le_ediv hd (Int.mul_le_mul_of_nonneg_left h1 hp)
    omega
  · have h2 : p * d ≤ p * n := Int.mul_le_mul_of_nonpos_left hp h1
    have := Int.ediv_le_ediv hd h2
    omega
  · have h2 : p * n ≤ p * 0 := Int.mul_le_mul_of_nonpos_left hp h0
    have := Int.ediv_le_ediv hd h2
    simpa using this
def towP (a b : Pt) (n d : Int) : Pt := ⟨a.x + (b.x - a.x) * n / d, a.y + (b.y - a.y) * n / d⟩
theorem tow_ok {a b : Pt} {n d : Int} (ha : pE a = 0) (hb : pE b = 0) (hd : 0 < d) (h0 : 0 ≤ n) (h1 : n ≤ d) : pE (towP a b n d) = 0 := by
  obtain ⟨a1, a2, a3, a4⟩ := pE_ok ha
  obtain ⟨b1, b2, b3, b4⟩ := pE_ok hb
  obtain ⟨x1, x2⟩ := way (p := b.x - a.x) hd h0 h1
  obtain ⟨y1, y2⟩ := way (p := b.y - a.y) hd h0 h1
  unfold pE towP
  rw [if_neg]
  simp only
  omega
theorem toward_fn (a b : Pt) (n d : Int) (ha : pE a = 0) (hb : pE b = 0) (hd : 0 < d) (hd2 : d ≤ 200000) (h0 : 0 ≤ n) (h1 : n ≤ d) : Fn Tryd.prog 36 [pt a, pt b, .int n, .int d] (.tup [.sc, .sc]) (.tup [pt (towP a b n d), .int 0]) := by
  refine fn_run mixed 3 (Γ := SecF.Γ) (ann := SecF.ann) Tryd.func36 rfl Tryd.call36 ((SecF.toward_form _ _ _ _ _).mpr ?_)
  have pa := pe_fn a
  have pb := pe_fn b
  have ht := pE_ok (tow_ok ha hb hd h0 h1)
  rw [ha] at pa
  rw [hb] at pb
  obtain ⟨a1, a2, a3, a4⟩ := pE_ok ha
  obtain ⟨b1, b2, b3, b4⟩ := pE_ok hb
  obtain ⟨ax, ay⟩ := a; obtain ⟨bx, b_⟩ := b
  simp only at a1 a2 a3 a4 b1 b2 b3 b4
  have mx := mulb (p := bx - ax) (n := n) (by omega) (by omega) h0 (by omega)
  have my := mulb (p := b_ - ay) (n := n) (by omega) (by omega) h0 (by omega)
  have w1 : wr (bx - ax) = bx - ax := wr_id (by omega) (by omega)
  have w2 : wr (b_ - ay) = b_ - ay := wr_id (by omega) (by omega)
  have w3 : wr ((bx - ax) * n) = (bx - ax) * n := wr_id (by omega) (by omega)
  have w4 : wr ((b_ - ay) * n) = (b_ - ay) * n := wr_id (by omega) (by omega)
  have d1 := divd_fn ((bx - ax) * n) d hd (by omega) (by omega)
  have d2 := divd_fn ((b_ - ay) * n) d hd (by omega) (by omega)
  have w5 : wr (ax + (bx - ax) * n / d) = ax + (bx - ax) * n / d := wr_id (by simp only [towP] at ht; omega) (by simp only [towP] at ht; omega)
  have w6 : wr (ay + (b_ - ay) * n / d) = ay + (b_ - ay) * n / d := wr_id (by simp only [towP] at ht; omega) (by simp only [towP] at ht; omega)
  refine ⟨by simp [encP], by simp [encP], ?_⟩
  simp [show ¬ d ≤ 0 by omega, show ¬ 200000 < d by omega, show ¬ n < 0 by omega, show ¬ d < n by omega]
  refine ⟨_, pa, ?_⟩
  simp
  refine ⟨_, pb, ?_⟩
  simp [encP, w1, w2, w3, w4]
  refine ⟨_, d1, _, d2, ?_⟩
  simp [w5, w6, towP]
structure Nd where
  t : Int
  x : Int
  y : Int
  h : Int
  r : Int
  b : Int
  deriving DecidableEq, Inhabited
def Nd.p (n : Nd) : Pt := ⟨n.x, n.y⟩
def encN (n : Nd) : List AV := [.int n.t, .int n.x, .int n.y, .int n.h, .int n.r, .int n.b]
abbrev nd (n : Nd) : AV := .agg (encN n)
abbrev tube (l : List Nd) : AV := lst 6 encN l
theorem flat_tube (l : List Nd) : (tube l).flatS := lst_flatS fun x _ z hz => by
  simp [encN] at hz; rcases hz with rfl | rfl | rfl | rfl | rfl | rfl <;> exact .lit _
/-- The error of a node behind one of time p. -/
def nE (p : Int) (n : Nd) : Int := if n.t < 0 ∨ n.t > 200000 ∨ n.t ≤ p then 12 else if pE n.p ≠ 0 then pE n.p else if n.h < 0 ∨ n.h > 60000 ∨ n.r < 0 ∨ n.r > 1000000 ∨ n.b < 0 ∨ n.b > 60000 then 4 else 0
theorem nE_ok {p : Int} {n : Nd} (h : nE p n = 0) : 0 ≤ n.t ∧ n.t ≤ 200000 ∧ p < n.t ∧ pE n.p = 0 ∧ 0 ≤ n.h ∧ n.h ≤ 60000 ∧ 0 ≤ n.r ∧ n.r ≤ 1000000 ∧ 0 ≤ n.b ∧ n.b ≤ 60000 := by
  unfold nE at h
  split at h
  · cases h
  · split at h
    · rename_i q; exact absurd h q
    · rename_i q
      split at h
      · cases h
      · exact ⟨by omega, by omega, by omega, by simpa using q, by omega, by omega, by omega, by omega, by omega, by omega⟩
def tG : Int → List Nd → Int
  | _, [] => 0
  | p, n :: r => if nE p n ≠ 0 then nE p n else tG n.t r
def tE (l : List Nd) : Int := if l.length > 64 then 2 else if l.length = 0 then 3 else tG (-1) l
theorem tcheck_fn (l : List Nd) : Fn Tryd.prog 7 [tube l] .sc (.int (tE l)) := by
  have e := SecF.tcheck_form (tube l) (.int (tE l))
  have k := fun h => fn_run mixed 3 (Γ := SecF.Γ) (ann := SecF.ann) Tryd.func7 rfl Tryd.call7 (e.mpr h)
  refine k ?_
  clear k e
  simp
  refine ⟨fun h => by unfold tE; rw [if_pos (by omega)], fun h64 => ⟨fun h => by unfold tE; rw [if_neg (by omega), if_pos (by simp [h])], fun h0 => ?_⟩⟩
  have hE : tE l = tG (-1) l := by
    unfold tE
    rw [if_neg (by omega), if_neg (by simpa using h0)]
  have hl64 : l.length ≤ 64 := by omega
  generalize tE l = E at hE ⊢
  refine loop_list (σ := Int) l (fun n _ => [.int (n : Nat)]) (fun n rest p => E = tG p rest ∧ ((n = 0 ∧ p = -1) ∨ ∃ y, 0 < n ∧ l[n - 1]? = some y ∧ y.t = p ∧ 0 ≤ p)) (-1) rfl ⟨hE, .inl ⟨rfl, rfl⟩⟩ ?_ ?_
  · rintro n x rest p K hx hr hn ⟨hg, hp⟩ hK
    have hw : wr ((n : Int) + 1) = (n : Int) + 1 := wr_id (by omega) (by omega)
    have hw1 : wr ((n : Int) - 1) = (n : Int) - 1 := wr_id (by omega) (by omega)
    rw [tG] at hg
    have g1 : nE p x ≠ 0 → nE p x = E := fun h => by rw [hg, if_pos h]
    have g2 : nE p x = 0 → K [.int ((n : Nat) + 1)] := fun h => hK _ x.t (by simp) ⟨by rw [hg, if_neg (by simp [h])], .inr ⟨x, by omega, by simpa using hx, rfl, (nE_ok h).1⟩⟩
    clear hg hK
    obtain ⟨xt, xx, xy, xh, xr, xb⟩ := x
    have f1 : (xt < 0 ∨ xt > 200000 ∨ xt ≤ p) → 12 = E := fun h => by
      have : nE p ⟨xt, xx, xy, xh, xr, xb⟩ = 12 := by unfold nE; rw [if_pos h]
      rw [this] at g1; exact g1 (by decide)
    have f2 : ¬ (xt < 0 ∨ xt > 200000 ∨ xt ≤ p) → pE ⟨xx, xy⟩ ≠ 0 → pE ⟨xx, xy⟩ = E := fun h h2 => by
      have : nE p ⟨xt, xx, xy, xh, xr, xb⟩ = pE ⟨xx, xy⟩ := by unfold nE; rw [if_neg h]; exact if_pos h2
      rw [this] at g1; exact g1 h2
    have f3 : ¬ (xt < 0 ∨ xt > 200000 ∨ xt ≤ p) → pE ⟨xx, xy⟩ = 0 → (xh < 0 ∨ xh > 60000 ∨ xr < 0 ∨ xr > 1000000 ∨ xb < 0 ∨ xb > 60000) → 4 = E := fun h h2 h3 => by
      have : nE p ⟨xt, xx, xy, xh, xr, xb⟩ = 4 := by unfold nE; rw [if_neg h, if_neg (by simp [Nd.p, h2]), if_pos h3]
      rw [this] at g1; exact g1 (by decide)
    have f4 : ¬ (xt < 0 ∨ xt > 200000 ∨ xt ≤ p) → pE ⟨xx, xy⟩ = 0 → ¬ (xh < 0 ∨ xh > 60000 ∨ xr < 0 ∨ xr > 1000000 ∨ xb < 0 ∨ xb > 60000) → K [.int ((n : Nat) + 1)] := fun h h2 h3 => g2 (by unfold nE; rw [if_neg h, if_neg (by simp [Nd.p, h2]), if_neg h3])
    clear g1 g2
    have hpe := pe_fn ⟨xx, xy⟩
    generalize pE ⟨xx, xy⟩ = e at *
    have tail : ¬ (xt < 0 ∨ xt > 200000 ∨ xt ≤ p) → (e = 0 → xh < 0 → 4 = E) ∧ (e = 0 → 60000 < xh → 4 = E) ∧ (e = 0 → xr < 0 → 4 = E) ∧ (e = 0 → 1000000 < xr → 4 = E) ∧ (e = 0 → xb < 0 → 4 = E) ∧ (e = 0 → 60000 < xb → 4 = E) ∧ (e = 0 → 0 ≤ xh → xh ≤ 60000 → 0 ≤ xr → xr ≤ 1000000 → 0 ≤ xb → xb ≤ 60000 → K [.int ((n : Nat) + 1)]) := fun h =>
      ⟨fun a b => f3 h a (by omega), fun a b => f3 h a (by omega), fun a b => f3 h a (by omega), fun a b => f3 h a (by omega), fun a b => f3 h a (by omega), fun a b => f3 h a (by omega), fun a b c d f g i => f4 h a (by omega)⟩
    simp [hn, lst_atAgg hx, encN, hw, hw1]
    refine ⟨fun a => ⟨a, f1 (by omega)⟩, fun a => ⟨a, fun b => ⟨b, f1 (by omega)⟩, fun b => ⟨?_, ?_⟩⟩⟩
    · intro hn0
      rcases hp with ⟨hp1, _⟩ | ⟨y, hp1, hp2, hp3, hp4⟩
      · omega
      · have hat : AV.at (tube l) (.lit (.int .i64 ((n : Int) - 1))) 0 = .int p := by
          have h1 : ((n : Int) - 1).toNat = n - 1 := by omega
          rw [lst_atI (by omega) (by rw [h1]; exact hp2)]
          simp [encN, hp3]
        have hin : (0 : Int) ≤ (n : Int) - 1 ∧ (n : Int) - 1 < l.length := ⟨by omega, by omega⟩
        simp only [hat]
        refine ⟨by omega, by simp, hn0, b, by simp, fun q => ?_, fun q => ?_⟩
        · have : xt ≤ p := by simpa using q
          exact f1 (by omega)
        have hq : p < xt := by simpa using q
        obtain ⟨t1, t2, t3, t4, t5, t6, t7⟩ := tail (by omega)
        refine ⟨_, hpe, ?_⟩
        simp
        exact ⟨fun z => f2 (by omega) z, fun z => ⟨fun a => ⟨a, t1 z a⟩, fun a1 => ⟨a1, fun a => ⟨a, t2 z a⟩, fun a2 => ⟨a2, fun a => ⟨a, t3 z a⟩, fun a3 => ⟨a3, fun a => ⟨a, t4 z a⟩, fun a4 => ⟨a4, fun a => ⟨a, t5 z a⟩, fun a5 => ⟨a5, fun a => t6 z a, fun a6 => t7 z a1 a2 a3 a4 a5 a6⟩⟩⟩⟩⟩⟩⟩
    · intro hn0
      refine ⟨hn0, b, ?_⟩
      have hp1 : p = -1 := by
        rcases hp with ⟨_, h⟩ | ⟨y, h, _⟩
        · exact h
        · omega
      obtain ⟨t1, t2, t3, t4, t5, t6, t7⟩ := tail (by omega)
      refine ⟨_, hpe, ?_⟩
      simp
      exact ⟨fun z => f2 (by omega) z, fun z => ⟨fun a => ⟨a, t1 z a⟩, fun a1 => ⟨a1, fun a => ⟨a, t2 z a⟩, fun a2 => ⟨a2, fun a => ⟨a, t3 z a⟩, fun a3 => ⟨a3, fun a => ⟨a, t4 z a⟩, fun a4 => ⟨a4, fun a => ⟨a, t5 z a⟩, fun a5 => ⟨a5, fun a => t6 z a, fun a6 => t7 z a1 a2 a3 a4 a5 a6⟩⟩⟩⟩⟩⟩⟩
  · rintro _ K ⟨hg, _⟩
    rw [tG] at hg
    simp [hg]
theorem ends_fn (l : List Nd) (a b : Nd) (h0 : l[0]? = some a) (h1 : l[l.length - 1]? = some b) (hl : l.length ≤ 1000) : Fn Tryd.prog 18 [tube l] (.tup [.sc, .sc]) (.tup [.int a.t, .int b.t]) := by
  refine fn_run mixed 3 (Γ := SecF.Γ) (ann := SecF.ann) Tryd.func18 rfl Tryd.call18 ((SecF.ends_form _ _).mpr ?_)
  have hpos : 0 < l.length := (List.getElem?_eq_some_iff.1 h0).1
  have hw1 : wr ((l.length : Int) - 1) = (l.length : Int) - 1 := wr_id (by omega) (by omega)
  have e0 : AV.at (tube l) (.lit (.int .i64 0)) 0 = .int a.t := by
    rw [lst_atI (by omega) (by simpa using h0)]; simp [encN]
  have e1 : AV.at (tube l) (.lit (.int .i64 ((l.length : Int) - 1))) 0 = .int b.t := by
    have q : ((l.length : Int) - 1).toNat = l.length - 1 := by omega
    rw [lst_atI (by omega) (by rw [q]; exact h1)]; simp [encN]
  simp [hw1, e0, e1]
  omega
end Go.Proofs.YtocgoabplafoeaaDoor
/- tubes: the node at a time. -/
namespace Go.Proofs.YtocgoabplafoeaaDoor
open Go.RowKit
set_option linter.unusedVariables false
set_option linter.unusedSimpArgs false
set_option maxRecDepth 100000
/-- The nodes ahead of a time. -/
def ixF (t : Int) : List Nd → Nat
  | [] => 0
  | n :: r => if n.t < t then ixF t r + 1 else 0
theorem ixF_is {t : Int} : ∀ {l : List Nd} {k : Nat}, k ≤ l.length → (∀ j x, j < k → l[j]? = some x → x.t < t) → (∀ x, l[k]? = some x → ¬ x.t < t) → ixF t l = k
  | [], k, h, _, _ => by simp at h; simp [ixF, h]
  | n :: r, k, h, h1, h2 => by
    rw [ixF]
    cases k with
    | zero => rw [if_neg (h2 n rfl)]
    | succ k =>
      rw [if_pos (h1 0 n (by omega) rfl), ixF_is (k := k) (by simpa using h) (fun j x hj hx => h1 (j + 1) x (by omega) (by simpa using hx)) (fun x hx => h2 x (by simpa using hx))]
theorem ixF_le (t : Int) : ∀ l : List Nd, ixF t l ≤ l.length
  | [] => Nat.le_refl _
  | n :: r => by
    rw [ixF]
    have := ixF_le t r
    split <;> simp <;> omega
theorem ixF_lt {t : Int} : ∀ {l : List Nd} {j : Nat} {x : Nd}, j < ixF t l → l[j]? = some x → x.t < t
  | [], j, x, h, _ => by simp [ixF] at h
  | n :: r, j, x, h, hx => by
    rw [ixF] at h
    split at h
    · rename_i hn
      cases j with
      | zero => simp at hx; rw [← hx]; exact hn
      | succ j => exact ixF_lt (l := r) (j := j) (by omega) (by simpa using hx)
    · omega
theorem ixF_ge {t : Int} : ∀ {l : List Nd} {x : Nd}, l[ixF t l]? = some x → ¬ x.t < t
  | [], x, h => by simp [ixF] at h
  | n :: r, x, h => by
    rw [ixF] at h
    split at h
    · exact ixF_ge (by simpa using h)
    · rename_i hn
      simp at h; rw [← h]; exact hn
def okN (x : Nd) : Prop := 0 ≤ x.t ∧ x.t ≤ 200000 ∧ pE x.p = 0 ∧ 0 ≤ x.h ∧ x.h ≤ 60000 ∧ 0 ≤ x.r ∧ x.r ≤ 1000000 ∧ 0 ≤ x.b ∧ x.b ≤ 60000
/-- Valid nodes: each behind the one ahead. -/
theorem tG_get : ∀ {l : List Nd} {p : Int}, tG p l = 0 → ∀ {j : Nat} {x : Nd}, l[j]? = some x → p < x.t ∧ okN x ∧ ∀ k y, j < k → l[k]? = some y → x.t < y.t
  | [], p, _, j, x, hx => by simp at hx
  | n :: r, p, h, j, x, hx => by
    rw [tG] at h
    split at h
    · rename_i q; exact absurd h q
    · rename_i q
      have q : nE p n = 0 := by simpa using q
      have qo := nE_ok q
      cases j with
      | zero =>
        simp at hx
        subst hx
        refine ⟨qo.2.2.1, ⟨qo.1, qo.2.1, qo.2.2.2.1, qo.2.2.2.2.1, qo.2.2.2.2.2.1, qo.2.2.2.2.2.2.1, qo.2.2.2.2.2.2.2.1, qo.2.2.2.2.2.2.2.2.1, qo.2.2.2.2.2.2.2.2.2⟩, fun k y hk hy => ?_⟩
        obtain ⟨k, rfl⟩ : ∃ k', k = k' + 1 := ⟨k - 1, by omega⟩
        exact (tG_get h (j := k) (by simpa using hy)).1
      | succ j =>
        have ih := tG_get h (j := j) (by simpa using hx)
        refine ⟨by have := ih.1; omega, ih.2.1, fun k y hk hy => ?_⟩
        obtain ⟨k, rfl⟩ : ∃ k', k = k' + 1 := ⟨k - 1, by omega⟩
        exact ih.2.2 k y (by omega) (by simpa using hy)
theorem tE_ok {l : List Nd} (h : tE l = 0) : 0 < l.length ∧ l.length ≤ 64 ∧ tG (-1) l = 0 := by
  unfold tE at h
  split at h
  · cases h
  · split at h
    · cases h
    · exact ⟨by omega, by omega, h⟩
def interp (a b : Nd) (t : Int) : Nd :=
  ⟨t, (towP a.p b.p (t - a.t) (b.t - a.t)).x, (towP a.p b.p (t - a.t) (b.t - a.t)).y, a.h + (b.h - a.h) * (t - a.t) / (b.t - a.t), a.r + dvu ((b.r - a.r) * (t - a.t)) (b.t - a.t), a.b + dvu ((b.b - a.b) * (t - a.t)) (b.t - a.t)⟩
def atN (l : List Nd) (t : Int) : Nd := if (l.getD (ixF t l) default).t = t then l.getD (ixF t l) default else interp (l.getD (ixF t l - 1) default) (l.getD (ixF t l) default) t
theorem half_u (n : Nat) (h : n ≤ 1000) : AV.shfOk (.lit (.int .u64 (n : Nat))) (.lit (.int .u64 1)) ∧ AV.conv .i64 (AV.shf .shr (.lit (.int .u64 (n : Nat))) (.lit (.int .u64 1))) = .int ((n / 2 : Nat) : Int) ∧ AV.isInt (AV.shf .shr (.lit (.int .u64 (n : Nat))) (.lit (.int .u64 1))) := by
  refine ⟨⟨⟨_, _, rfl⟩, ⟨_, _, rfl⟩, by simp⟩, ?_, ⟨_, _, rfl⟩⟩
  have e : AV.shf .shr (.lit (.int .u64 (n : Nat))) (.lit (.int .u64 1)) = .lit (.int .u64 ((n : Int).fdiv 2)) := by
    show AV.lit (.int .u64 ((n : Int).fdiv (2 ^ 1))) = _
    simp
  rw [e, Int.fdiv_eq_ediv_of_nonneg _ (by omega)]
  show AV.lit (.int .i64 (IntKind.i64.wrap ((n : Int) / 2))) = _
  rw [wrap64 (by omega) (by omega)]
  congr 2
theorem u64_id (n : Nat) (h : n ≤ 1000) : IntKind.u64.wrap (n : Int) = (n : Int) := by
  simp [IntKind.wrap, IntKind.bits, IntKind.signed]; omega
/-- Between two valid nodes. -/
theorem interp_ok {a b : Nd} {t : Int} (ha : okN a) (hb : okN b) (h1 : a.t < t) (h2 : t < b.t) : pE (interp a b t).p = 0 ∧ 0 ≤ (interp a b t).h ∧ (interp a b t).h ≤ 60000 := by
  refine ⟨tow_ok ha.2.2.1 hb.2.2.1 (by omega) (by omega) (by omega), ?_⟩
  obtain ⟨q1, q2⟩ := way (p := b.h - a.h) (n := t - a.t) (d := b.t - a.t) (by omega) (by omega) (by omega)
  unfold okN at ha hb
  simp only [interp]
  omega
theorem at_fn (l : List Nd) (t : Int) (hv : tE l = 0) (h0 : ∀ x, l[0]? = some x → x.t ≤ t) (h1 : ∀ x, l[l.length - 1]? = some x → t ≤ x.t) : Fn Tryd.prog 19 [tube l, .int t] .sc (nd (atN l t)) := by
  have e := SecF.at_form (tube l) (.int t) (nd (atN l t))
  have k := fun h => fn_run mixed 3 (Γ := SecF.Γ) (ann := SecF.ann) Tryd.func19 rfl Tryd.call19 (e.mpr h)
  refine k ?_
  clear k e
  obtain ⟨hp, h64, hG⟩ := tE_ok hv
  have en1 : Ent Tryd.prog 35 := Tryd.call35
  refine ⟨Tryd.call34, fun _ => ⟨by simp, ?_⟩⟩
  refine loop_of (τ := Nat × Nat) (fun s => [.int (s.1 : Nat), .int (s.2 : Nat)]) (fun s => s.1 ≤ s.2 ∧ s.2 ≤ l.length ∧ (∀ j x, j < s.1 → l[j]? = some x → x.t < t) ∧ ∀ j x, s.2 ≤ j → l[j]? = some x → ¬ x.t < t) (fun s => s.2 - s.1) (0, l.length) (by simp)
    ⟨by omega, Nat.le_refl _, fun j x hj => by simp at hj, fun j x hj hx => by have hj : l.length ≤ j := hj; rw [List.getElem?_eq_none hj] at hx; cases hx⟩ ?_
  rintro ⟨lo, hi⟩ ⟨i1, i2, i3, i4⟩
  simp only at i1 i2 i3 i4
  obtain ⟨S, hS⟩ : ∃ S, S = lo + hi := ⟨_, rfl⟩
  have w1 : wr ((lo : Int) + (hi : Int)) = (S : Int) := by rw [wr_id (by omega) (by omega)]; omega
  have w2 : AV.conv .u64 (.lit (.int .i64 (S : Int))) = .lit (.int .u64 (S : Int)) := by
    show AV.lit (.int .u64 (IntKind.u64.wrap (S : Int))) = _
    rw [u64_id S (by omega)]
  obtain ⟨s1, s2, s3⟩ := half_u S (by omega)
  refine ⟨by simp, by simp, fun hlt => ?_, fun hge => ?_⟩
  · have hlt : lo < hi := by simpa using hlt
    generalize hm : S / 2 = m at s2
    have hmb : lo ≤ m ∧ m < hi := by omega
    obtain ⟨x, hx⟩ : ∃ x, l[m]? = some x := ⟨_, List.getElem?_eq_getElem (by omega)⟩
    have hxo := (tG_get hG hx).2.1
    have g1 : x.t < t → (fun zs : List AV => ∃ m', m' < hi - lo ∧ ∃ y : Nat × Nat, zs = [.int (y.1 : Nat), .int (y.2 : Nat)] ∧ (y.1 ≤ y.2 ∧ y.2 ≤ l.length ∧ (∀ j x, j < y.1 → l[j]? = some x → x.t < t) ∧ ∀ j x, y.2 ≤ j → l[j]? = some x → ¬ x.t < t) ∧ y.2 - y.1 = m') [.int ((m : Nat) + 1), .int (hi : Nat)] := fun q =>
      ⟨_, by omega, (m + 1, hi), by simp, ⟨by simp; omega, i2, fun j y hj hy => ?_, i4⟩, rfl⟩
    have g2 : ¬ x.t < t → (fun zs : List AV => ∃ m', m' < hi - lo ∧ ∃ y : Nat × Nat, zs = [.int (y.1 : Nat), .int (y.2 : Nat)] ∧ (y.1 ≤ y.2 ∧ y.2 ≤ l.length ∧ (∀ j x, j < y.1 → l[j]? = some x → x.t < t) ∧ ∀ j x, y.2 ≤ j → l[j]? = some x → ¬ x.t < t) ∧ y.2 - y.1 = m') [.int (lo : Nat), .int (m : Nat)] := fun q =>
      ⟨_, by omega, (lo, m), by simp, ⟨by simp; omega, by simp; omega, i3, fun j y hj hy => ?_⟩, rfl⟩
    rotate_left
    · have hj : m ≤ j := hj
      rcases Nat.eq_or_lt_of_le hj with q2 | q2
      · subst q2
        rw [hx] at hy; injection hy with hy; rw [← hy]; exact q
      · have := (tG_get hG hx).2.2 j y q2 hy; omega
    · have hj : j < m + 1 := hj
      rcases Nat.lt_or_ge j m with q2 | q2
      · have := (tG_get hG hy).2.2 m x q2 hx; omega
      · obtain rfl : j = m := by omega
        rw [hx] at hy; injection hy with hy; rw [← hy]; exact q
    obtain ⟨q1, q2, _⟩ := hxo
    obtain ⟨x0, hx0⟩ : ∃ x0, l[0]? = some x0 := ⟨_, List.getElem?_eq_getElem (by omega)⟩
    have t0 : 0 ≤ t := by have := h0 x0 hx0; have := (tG_get hG hx0).2.1.1; omega
    obtain ⟨x1, hx1⟩ : ∃ x1, l[l.length - 1]? = some x1 := ⟨_, List.getElem?_eq_getElem (by omega)⟩
    have t1 : t ≤ 200000 := by have := h1 x1 hx1; have := (tG_get hG hx1).2.1.2.1; omega
    have wd : wr (x.t - t) = x.t - t := wr_id (by omega) (by omega)
    have wm : wr ((m : Int) + 1) = (m : Int) + 1 := wr_id (by omega) (by omega)
    generalize hKK : (fun zs : List AV => ∃ m', m' < hi - lo ∧ ∃ y : Nat × Nat, zs = [.int (y.1 : Nat), .int (y.2 : Nat)] ∧ (y.1 ≤ y.2 ∧ y.2 ≤ l.length ∧ (∀ j x, j < y.1 → l[j]? = some x → x.t < t) ∧ ∀ j x, y.2 ≤ j → l[j]? = some x → ¬ x.t < t) ∧ y.2 - y.1 = m') = KK at *
    clear hKK i3 i4 h0 h1
    obtain ⟨xt, xx, xy, xh, xr, xb⟩ := x
    simp [w1, w2, s1, s2, s3, lst_atAgg hx, encN, wd, wm, en1, show m < l.length by omega]
    exact ⟨fun q => g1 (by show xt < t; omega), fun q => g2 (by show ¬ xt < t; omega)⟩
  · have hge : hi ≤ lo := by simpa using hge
    obtain rfl : hi = lo := by omega
    have hlo : hi < l.length := by
      refine Nat.lt_of_le_of_ne i2 fun q => ?_
      obtain ⟨z, hz⟩ : ∃ z, l[l.length - 1]? = some z := ⟨_, List.getElem?_eq_getElem (by omega)⟩
      have := h1 z hz
      have := i3 (l.length - 1) z (by omega) hz
      omega
    have hix : ixF t l = hi := ixF_is i2 i3 (fun x hx => i4 hi x (Nat.le_refl _) hx)
    obtain ⟨b, hb⟩ : ∃ b, l[hi]? = some b := ⟨_, List.getElem?_eq_getElem hlo⟩
    have hbd : l.getD (ixF t l) default = b := by rw [hix, List.getD_eq_getElem?_getD, hb]; rfl
    have hbo := (tG_get hG hb).2.1
    have hbt := i4 hi b (Nat.le_refl _) hb
    have hat : atN l t = if b.t = t then b else interp (l.getD (hi - 1) default) b t := by unfold atN; rw [hbd, hix]
    obtain ⟨x0, hx0⟩ : ∃ x0, l[0]? = some x0 := ⟨_, List.getElem?_eq_getElem (by omega)⟩
    have t0 : 0 ≤ t := by have := h0 x0 hx0; have := (tG_get hG hx0).2.1.1; omega
    obtain ⟨x1, hx1⟩ : ∃ x1, l[l.length - 1]? = some x1 := ⟨_, List.getElem?_eq_getElem (by omega)⟩
    have t1 : t ≤ 200000 := by have := h1 x1 hx1; have := (tG_get hG hx1).2.1.2.1; omega
    have e1 : b.t = t → nd (atN l t) = nd b := fun q => by rw [hat, if_pos q]
    have e2 : b.t ≠ t → ∃ a, l[hi - 1]? = some a ∧ 0 < hi ∧ okN a ∧ a.t < t ∧ t < b.t ∧ nd (atN l t) = nd (interp a b t) := fun q => by
      have hpos : 0 < hi := by
        refine Nat.pos_of_ne_zero fun z => ?_
        subst z
        have := h0 b hb
        omega
      obtain ⟨a, ha⟩ : ∃ a, l[hi - 1]? = some a := ⟨_, List.getElem?_eq_getElem (by omega)⟩
      have had : l.getD (hi - 1) default = a := by rw [List.getD_eq_getElem?_getD, ha]; rfl
      exact ⟨a, ha, hpos, (tG_get hG ha).2.1, i3 (hi - 1) a (by omega) ha, by omega, by rw [hat, if_neg q, had]⟩
    generalize nd (atN l t) = R at *
    have wd : wr (b.t - t) = b.t - t := by obtain ⟨q1, q2, _⟩ := hbo; exact wr_id (by omega) (by omega)
    clear hat hbd hix i3 i4 h1
    have hbo' := hbo
    obtain ⟨bt, bx, b_, bh, br, bb⟩ := b
    simp only at wd
    by_cases hbt0 : bt = t
    · have hz : bt - t = 0 := by omega
      have hw0 : wr (bt - t) = 0 := by rw [wd, hz]
      simp [hlo, lst_atAgg hb, encN, hw0, en1]
      exact (e1 hbt0).symm
    · obtain ⟨a, ha, hpos, hao, hat1, hat2, hR⟩ := e2 hbt0
      obtain ⟨k, rfl⟩ : ∃ k, hi = k + 1 := ⟨hi - 1, by omega⟩
      have wk : wr (k : Int) = (k : Int) := wr_id (by omega) (by omega)
      have ha : l[k]? = some a := ha
      have hz : ¬ bt - t = 0 := by omega
      have hao' := hao
      obtain ⟨at_, ax, ay, ah, ar, ab⟩ := a
      simp only [okN, Nd.p] at hbo hao hat1 hat2
      obtain ⟨a1, a2, a3, a4, a5, a6, a7, a8, a9⟩ := hao
      obtain ⟨b1, b2, b3, b4, b5, b6, b7, b8, b9⟩ := hbo
      have v1 : wr (t - at_) = t - at_ := wr_id (by omega) (by omega)
      have v2 : wr (bt - at_) = bt - at_ := wr_id (by omega) (by omega)
      have v3 : wr (bh - ah) = bh - ah := wr_id (by omega) (by omega)
      have v4 : wr (br - ar) = br - ar := wr_id (by omega) (by omega)
      have v5 : wr (bb - ab) = bb - ab := wr_id (by omega) (by omega)
      have m1 := mulb (p := bh - ah) (n := t - at_) (by omega) (by omega) (by omega) (by omega)
      have m2 := mulb (p := br - ar) (n := t - at_) (by omega) (by omega) (by omega) (by omega)
      have m3 := mulb (p := bb - ab) (n := t - at_) (by omega) (by omega) (by omega) (by omega)
      have v6 : wr ((bh - ah) * (t - at_)) = (bh - ah) * (t - at_) := wr_id (by omega) (by omega)
      have v7 : wr ((br - ar) * (t - at_)) = (br - ar) * (t - at_) := wr_id (by omega) (by omega)
      have v8 : wr ((bb - ab) * (t - at_)) = (bb - ab) * (t - at_) := wr_id (by omega) (by omega)
      have hd : 0 < bt - at_ := by omega
      have c1 := toward_fn ⟨ax, ay⟩ ⟨bx, b_⟩ (t - at_) (bt - at_) a3 b3 hd (by omega) (by omega) (by omega)
      have c2 := divd_fn ((bh - ah) * (t - at_)) (bt - at_) hd (by omega) (by omega)
      have c3 := divu_fn ((br - ar) * (t - at_)) (bt - at_) hd (by omega) (by omega)
      have c4 := divu_fn ((bb - ab) * (t - at_)) (bt - at_) hd (by omega) (by omega)
      have d2 := quo_bd hd (a := (bh - ah) * (t - at_)) (by omega) (by omega)
      have d3 := dvu_bd hd (a := (br - ar) * (t - at_)) (by omega) (by omega)
      have d4 := dvu_bd hd (a := (bb - ab) * (t - at_)) (by omega) (by omega)
      have v9 : wr (ah + (bh - ah) * (t - at_) / (bt - at_)) = ah + (bh - ah) * (t - at_) / (bt - at_) := wr_id (by omega) (by omega)
      have v10 : wr (ar + dvu ((br - ar) * (t - at_)) (bt - at_)) = ar + dvu ((br - ar) * (t - at_)) (bt - at_) := wr_id (by omega) (by omega)
      have v11 : wr (ab + dvu ((bb - ab) * (t - at_)) (bt - at_)) = ab + dvu ((bb - ab) * (t - at_)) (bt - at_) := wr_id (by omega) (by omega)
      have hlo' : (k : Int) + 1 < l.length := by omega
      have hlo2 : (k : Int) < l.length := by omega
      have hbz : AV.atAgg (tube l) (.lit (.int .i64 ((k : Int) + 1))) 0 6 = .agg [.int bt, .int bx, .int b_, .int bh, .int br, .int bb] := by
        have := lst_atAgg (s := 6) (enc := encN) (k := .i64) (j := 0) (m := 6) hb
        simpa [encN] using this
      rw [hR]
      simp [hlo', hlo2, hbz, lst_atAgg ha, encN, wd, en1, hz, wk, v1, v2]
      refine ⟨by omega, _, c1, ?_⟩
      simp [encP, v3, v6]
      refine ⟨_, c2, ?_⟩
      simp [v4, v7]
      refine ⟨_, c3, ?_⟩
      simp [v5, v8]
      refine ⟨_, c4, ?_⟩
      simp [v9, v10, v11, interp, Nd.p]
def tatE (l : List Nd) (t : Int) : Int := if tE l ≠ 0 then tE l else if t < (l.getD 0 default).t ∨ t > (l.getD (l.length - 1) default).t then 12 else 0
def nd0 : Nd := ⟨0, 0, 0, 0, 0, 0⟩
def tatV (l : List Nd) (t : Int) : AV := if tatE l t = 0 then .tup [nd (atN l t), .int 0] else .tup [nd nd0, .int (tatE l t)]
theorem tatE_ok {l : List Nd} {t : Int} (h : tatE l t = 0) : tE l = 0 ∧ (∀ x, l[0]? = some x → x.t ≤ t) ∧ ∀ x, l[l.length - 1]? = some x → t ≤ x.t := by
  unfold tatE at h
  split at h
  · rename_i q; exact absurd h q
  · rename_i q
    split at h
    · cases h
    · refine ⟨by simpa using q, fun x hx => ?_, fun x hx => ?_⟩
      · have : (l.getD 0 default).t = x.t := by rw [List.getD_eq_getElem?_getD, hx]; rfl
        omega
      · have : (l.getD (l.length - 1) default).t = x.t := by rw [List.getD_eq_getElem?_getD, hx]; rfl
        omega
/-- The node at a time is valid. -/
theorem atN_ok {l : List Nd} {t : Int} (hv : tE l = 0) (h0 : ∀ x, l[0]? = some x → x.t ≤ t) (h1 : ∀ x, l[l.length - 1]? = some x → t ≤ x.t) : pE (atN l t).p = 0 ∧ 0 ≤ (atN l t).h ∧ (atN l t).h ≤ 60000 := by
  obtain ⟨hp, h64, hG⟩ := tE_ok hv
  have hlt : ixF t l < l.length := by
    refine Nat.lt_of_le_of_ne (ixF_le t l) fun q => ?_
    obtain ⟨z, hz⟩ : ∃ z, l[l.length - 1]? = some z := ⟨_, List.getElem?_eq_getElem (by omega)⟩
    have := h1 z hz
    have := ixF_lt (t := t) (l := l) (j := l.length - 1) (by omega) hz
    omega
  obtain ⟨b, hb⟩ : ∃ b, l[ixF t l]? = some b := ⟨_, List.getElem?_eq_getElem hlt⟩
  have hbd : l.getD (ixF t l) default = b := by rw [List.getD_eq_getElem?_getD, hb]; rfl
  have hbo := (tG_get hG hb).2.1
  have hbt := ixF_ge hb
  unfold atN
  rw [hbd]
  split
  · exact ⟨hbo.2.2.1, hbo.2.2.2.1, hbo.2.2.2.2.1⟩
  · rename_i hne
    have hpos : 0 < ixF t l := by
      refine Nat.pos_of_ne_zero fun z => ?_
      rw [z] at hb
      have := h0 b hb
      omega
    obtain ⟨a, ha⟩ : ∃ a, l[ixF t l - 1]? = some a := ⟨_, List.getElem?_eq_getElem (by omega)⟩
    have had : l.getD (ixF t l - 1) default = a := by rw [List.getD_eq_getElem?_getD, ha]; rfl
    rw [had]
    exact interp_ok (tG_get hG ha).2.1 hbo (ixF_lt (by omega) ha) (by omega)
theorem tat_fn (l : List Nd) (t : Int) : Fn Tryd.prog 8 [tube l, .int t] (.tup [.sc, .sc]) (tatV l t) := by
  refine fn_run mixed 3 (Γ := SecF.Γ) (ann := SecF.ann) Tryd.func8 rfl Tryd.call8 ((SecF.tat_form _ _ _).mpr ?_)
  refine ⟨_, tcheck_fn l, ?_⟩
  have hV1 : tE l ≠ 0 → tatV l t = .tup [nd nd0, .int (tE l)] := fun g => by
    have : tatE l t = tE l := by unfold tatE; rw [if_pos g]
    unfold tatV; rw [this, if_neg g]
  simp
  refine ⟨fun g => (hV1 g).symm, fun g => ?_⟩
  obtain ⟨hp, h64, hG⟩ := tE_ok g
  obtain ⟨a, ha⟩ : ∃ a, l[0]? = some a := ⟨_, List.getElem?_eq_getElem hp⟩
  obtain ⟨b, hb⟩ : ∃ b, l[l.length - 1]? = some b := ⟨_, List.getElem?_eq_getElem (by omega)⟩
  have had : l.getD 0 default = a := by rw [List.getD_eq_getElem?_getD, ha]; rfl
  have hbd : l.getD (l.length - 1) default = b := by rw [List.getD_eq_getElem?_getD, hb]; rfl
  have hV2 : (t < a.t ∨ t > b.t) → tatV l t = .tup [nd nd0, .int 12] := fun q => by
    have : tatE l t = 12 := by unfold tatE; rw [if_neg (by simp [g]), had, hbd, if_pos q]
    unfold tatV; rw [this, if_neg (by decide)]
  have hV3 : ¬ (t < a.t ∨ t > b.t) → tatV l t = .tup [nd (atN l t), .int 0] := fun q => by
    have : tatE l t = 0 := by unfold tatE; rw [if_neg (by simp [g]), had, hbd, if_neg q]
    unfold tatV; rw [if_pos this]
  refine ⟨_, ends_fn l a b ha hb (by omega), ?_⟩
  simp
  refine ⟨fun q => ⟨q, (hV2 (by omega)).symm⟩, fun q => ⟨q, fun q2 => (hV2 (by omega)).symm, fun q2 => ?_⟩⟩
  rw [hV3 (by omega)]
  refine ⟨_, at_fn l t g (fun x hx => by rw [ha] at hx; injection hx with hx; rw [← hx]; exact q) (fun x hx => by rw [hb] at hx; injection hx with hx; rw [← hx]; exact q2), ?_⟩
  simp [encN]
end Go.Proofs.YtocgoabplafoeaaDoor
/- effects: what kinds of aircraft are; the tubes of the fact. -/
namespace Go.Proofs.YtocgoabplafoeaaDoor
open Go.RowKit
set_option linter.unusedVariables false
set_option linter.unusedSimpArgs false
set_option maxRecDepth 100000
structure Kd where
  nm : ByteArray
  wk : Int
  cl : Int
  up : Int
  dn : Int
  sl : Int
  fa : Int
def encKd (k : Kd) : List AV := [.string k.nm, .int k.wk, .int k.cl, .int k.up, .int k.dn, .int k.sl, .int k.fa]
abbrev kd (k : Kd) : AV := .agg (encKd k)
def kE (k : Kd) : Int :=
  if isName k.nm = false then 5
  else if k.wk < 0 ∨ k.wk > 3 then 1
  else if k.cl < 1 ∨ k.cl > 60000 ∨ k.up < 1 ∨ k.up > 200 ∨ k.dn < 1 ∨ k.dn > 200 ∨ k.sl < 1 ∨ k.sl > 400 ∨ k.fa < 1 ∨ k.fa > 400 then 4
  else if k.sl > k.fa then 3 else 0
theorem acheck_fn (k : Kd) : Fn Tryd.prog 24 [kd k] .sc (.int (kE k)) := by
  refine fn_run mixed 3 (Γ := EffF.Γ) (ann := EffF.ann) Tryd.func24 rfl Tryd.call24 ((EffF.acheck_form _ _).mpr ?_)
  have e1 : Ent Tryd.prog 39 := Tryd.call39
  have hn := name_fn k.nm
  obtain ⟨E, hE⟩ : ∃ E, E = kE k := ⟨_, rfl⟩
  rw [← hE]
  unfold kE at hE
  obtain ⟨nm, wk, cl, up, dn, sl, fa⟩ := k
  simp only at hn hE
  generalize isName nm = b at *
  refine ⟨by simp [encKd], _, hn, ?_⟩
  have g5 : b = false → E = 5 := fun h => by rw [hE, if_pos h]
  have g1 : b = true → (wk < 0 ∨ wk > 3) → E = 1 := fun h h1 => by rw [hE, if_neg (by simp [h]), if_pos h1]
  have g4 : b = true → 0 ≤ wk → wk ≤ 3 → (cl < 1 ∨ cl > 60000 ∨ up < 1 ∨ up > 200 ∨ dn < 1 ∨ dn > 200 ∨ sl < 1 ∨ sl > 400 ∨ fa < 1 ∨ fa > 400) → E = 4 := fun h h1 h2 h3 => by rw [hE, if_neg (by simp [h]), if_neg (by omega), if_pos h3]
  have g3 : b = true → 0 ≤ wk → wk ≤ 3 → ¬ (cl < 1 ∨ cl > 60000 ∨ up < 1 ∨ up > 200 ∨ dn < 1 ∨ dn > 200 ∨ sl < 1 ∨ sl > 400 ∨ fa < 1 ∨ fa > 400) → sl > fa → E = 3 := fun h h1 h2 h3 h4 => by rw [hE, if_neg (by simp [h]), if_neg (by omega), if_neg h3, if_pos h4]
  have g0 : b = true → 0 ≤ wk → wk ≤ 3 → ¬ (cl < 1 ∨ cl > 60000 ∨ up < 1 ∨ up > 200 ∨ dn < 1 ∨ dn > 200 ∨ sl < 1 ∨ sl > 400 ∨ fa < 1 ∨ fa > 400) → ¬ sl > fa → E = 0 := fun h h1 h2 h3 h4 => by rw [hE, if_neg (by simp [h]), if_neg (by omega), if_neg h3, if_neg h4]
  clear hE
  cases b
  · have := g5 rfl
    simp [this]
  · simp [encKd, e1]
    clear g5
    replace g1 := g1 rfl
    replace g4 := g4 rfl
    replace g3 := g3 rfl
    replace g0 := g0 rfl
    repeat' (first | refine And.intro ?_ ?_ | intro _)
    all_goals (first | assumption | omega)
def levT : List Nd := [⟨0, 0, 0, 9000, 100, 50⟩, ⟨100, 10000, 0, 9000, 100, 50⟩]
def jetK : Kd := ⟨⟨#[74, 69, 84]⟩, 1, 40000, 50, 40, 50, 300⟩
theorem level_fn : Fn Tryd.prog 14 [] (.row 34 6 true) (tube levT) := by
  have e := EffF.level_form (tube levT)
  have k := fun h => fn_run mixed 3 (Γ := EffF.Γ) (ann := EffF.ann) Tryd.func14 rfl Tryd.call14 (e.mpr h)
  refine k ?_
  clear k e
  exact ⟨flat_tube levT, rfl⟩
theorem jet_fn : Fn Tryd.prog 16 [] .sc (kd jetK) := by
  have e := EffF.jet_form (kd jetK)
  have k := fun h => fn_run mixed 3 (Γ := EffF.Γ) (ann := EffF.ann) Tryd.func16 rfl Tryd.call16 (e.mpr h)
  refine k ?_
  clear k e
  simp [jetK, encKd]
theorem jet_ok : kE jetK = 0 := by kernel_rfl
end Go.Proofs.YtocgoabplafoeaaDoor
/- effects: climbing; what is checked ahead. -/
namespace Go.Proofs.YtocgoabplafoeaaDoor
open Go.RowKit
set_option linter.unusedVariables false
set_option linter.unusedSimpArgs false
set_option maxRecDepth 100000
theorem kE_ok {k : Kd} (h : kE k = 0) : 1 ≤ k.cl ∧ k.cl ≤ 60000 ∧ 1 ≤ k.up ∧ k.up ≤ 200 ∧ 1 ≤ k.dn ∧ k.dn ≤ 200 := by
  unfold kE at h
  split at h
  · cases h
  · split at h
    · cases h
    · split at h
      · cases h
      · omega
def clE2 (k : Kd) (a b : Int) : Int := if kE k ≠ 0 then kE k else if a < 0 ∨ a > 60000 ∨ b < 0 ∨ b > 60000 then 4 else if a > k.cl ∨ b > k.cl then 20 else 0
def clN (k : Kd) (a b : Int) : Int := if a ≤ b then dvu (b - a) k.up else dvu (a - b) k.dn
def clV (k : Kd) (a b : Int) : AV := if clE2 k a b = 0 then .tup [.int (clN k a b), .int 0] else .tup [.int 0, .int (clE2 k a b)]
theorem climb_fn (k : Kd) (a b : Int) : Fn Tryd.prog 11 [kd k, .int a, .int b] (.tup [.sc, .sc]) (clV k a b) := by
  have e := EffF.climb_form (kd k) (.int a) (.int b) (clV k a b)
  have kk := fun h => fn_run mixed 3 (Γ := EffF.Γ) (ann := EffF.ann) Tryd.func11 rfl Tryd.call11 (e.mpr h)
  refine kk ?_
  clear kk e
  have hc := acheck_fn k
  have hk := kE_ok (k := k)
  have hV : clV k a b = if clE2 k a b = 0 then .tup [.int (clN k a b), .int 0] else .tup [.int 0, .int (clE2 k a b)] := rfl
  have hE : clE2 k a b = if kE k ≠ 0 then kE k else if a < 0 ∨ a > 60000 ∨ b < 0 ∨ b > 60000 then 4 else if a > k.cl ∨ b > k.cl then 20 else 0 := rfl
  have hN : clN k a b = if a ≤ b then dvu (b - a) k.up else dvu (a - b) k.dn := rfl
  generalize clV k a b = V at *
  generalize clE2 k a b = E at *
  generalize clN k a b = N at *
  generalize kE k = e at *
  obtain ⟨nm, wk, cl, up, dn, sl, fa⟩ := k
  simp only at hk hE hN
  have hV0 : ∀ e', e' ≠ 0 → E = e' → V = .tup [.int 0, .int e'] := fun e' h1 h2 => by rw [hV, h2, if_neg h1]
  have v0 : e ≠ 0 → V = .tup [.int 0, .int e] := fun h => hV0 _ h (by rw [hE, if_pos h])
  have v4 : e = 0 → (a < 0 ∨ a > 60000 ∨ b < 0 ∨ b > 60000) → V = .tup [.int 0, .int 4] := fun h h2 => hV0 _ (by decide) (by rw [hE, if_neg (by simp [h]), if_pos h2])
  have v20 : e = 0 → ¬ (a < 0 ∨ a > 60000 ∨ b < 0 ∨ b > 60000) → (a > cl ∨ b > cl) → V = .tup [.int 0, .int 20] := fun h h2 h3 => hV0 _ (by decide) (by rw [hE, if_neg (by simp [h]), if_neg h2, if_pos h3])
  have vN : e = 0 → ¬ (a < 0 ∨ a > 60000 ∨ b < 0 ∨ b > 60000) → ¬ (a > cl ∨ b > cl) → V = .tup [.int N, .int 0] := fun h h2 h3 => by
    have h0 : E = 0 := by rw [hE, if_neg (by simp [h]), if_neg h2, if_neg h3]
    rw [hV, if_pos h0]
  clear hV hE
  refine ⟨by simp [encKd], _, hc, ?_⟩
  simp [encKd]
  refine ⟨fun z => (v0 z).symm, fun z => ?_⟩
  obtain ⟨k1, k2, k3, k4, k5, k6⟩ := hk z
  replace v4 := v4 z
  replace v20 := v20 z
  replace vN := vN z
  refine ⟨fun a1 => ⟨a1, (v4 (by omega)).symm⟩, fun a1 => ⟨a1, fun a2 => ⟨a2, (v4 (by omega)).symm⟩, fun a2 => ⟨a2, fun b1 => ⟨b1, (v4 (by omega)).symm⟩, fun b1 => ⟨b1, fun b2 => (v4 (by omega)).symm, fun b2 => ?_⟩⟩⟩⟩
  refine ⟨fun c1 => ⟨c1, (v20 (by omega) (by omega)).symm⟩, fun c1 => ⟨c1, fun c2 => (v20 (by omega) (by omega)).symm, fun c2 => ?_⟩⟩
  have hv := vN (by omega) (by omega)
  have hw1 : wr (b - a) = b - a := wr_id (by omega) (by omega)
  have hw2 : wr (a - b) = a - b := wr_id (by omega) (by omega)
  rw [hv]
  refine ⟨fun q => ?_, fun q => ?_⟩
  · have hd := divu_fn (b - a) up (by omega) (by omega) (by omega)
    rw [hN, if_pos q, hw1]
    exact ⟨_, hd, by simp⟩
  · have hd := divu_fn (a - b) dn (by omega) (by omega) (by omega)
    rw [hN, if_neg (by omega), hw2]
    exact ⟨_, hd, by simp⟩
theorem of1_fn (l : List Nd) : Fn Tryd.prog 20 [.ref [tube l]] .sc (.int (tE l)) := by
  refine fn_run mixed 3 (Γ := EffF.Γ) (ann := EffF.ann) Tryd.func20 rfl Tryd.call20 ((EffF.of1_form _ _).mpr ?_)
  exact ⟨⟨_, rfl, rfl⟩, _, tcheck_fn l, by simp⟩
theorem tclone_fn (l : List Nd) (hl : l.length ≤ 1000000) : Fn Tryd.prog 27 [tube l] (.row 34 6 true) (tube l) := by
  refine fn_run mixed 3 (Γ := EffG.Γ) (ann := EffG.ann) Tryd.func27 rfl Tryd.call27 ((EffG.clone_form _ _).mpr ?_)
  have hf := flat_tube l
  simp [AV.room]
  simp [lst] at hf ⊢
  exact ⟨by omega, hf⟩
theorem of3_fn (k : Kd) : Fn Tryd.prog 23 [.ref (encKd k)] .sc (.int (kE k)) := by
  refine fn_run mixed 3 (Γ := EffG.Γ) (ann := EffG.ann) Tryd.func23 rfl Tryd.call23 ((EffG.of3_form _ _).mpr ?_)
  have hc := acheck_fn k
  exact ⟨⟨_, rfl, by simp [encKd]⟩, _, hc, by simp⟩
theorem of4_fn (q : Pt) : Fn Tryd.prog 25 [.ref (encP q)] .sc (.int (pE q)) := by
  refine fn_run mixed 3 (Γ := EffG.Γ) (ann := EffG.ann) Tryd.func25 rfl Tryd.call25 ((EffG.of4_form _ _).mpr ?_)
  have hc := pe_fn q
  exact ⟨⟨_, rfl, by simp [encP]⟩, _, hc, by simp⟩
end Go.Proofs.YtocgoabplafoeaaDoor
/- effects: carrying out a clearance to a height. -/
namespace Go.Proofs.YtocgoabplafoeaaDoor
open Go.RowKit
set_option linter.unusedVariables false
set_option linter.unusedSimpArgs false
set_option maxRecDepth 100000
theorem carried0 (a0 a2 a3 a4 a5 a6 a7 a8 a9 a10 a11 a12 a13 a14 a15 a16 a17 a18 a19 a20 a21 : AV) (o : List Nd) (e : Int) (hh : Fn Tryd.prog 41 [.agg [a0, .int 0, a2, a3, a4, a5, a6, a7, a8, a9, a10, a11, a12, a13, a14, a15, a16, a17, a18, a19, a20, a21]] (.tup [.row 34 6 true, .sc]) (.tup [tube o, .int e])) :
    Fn Tryd.prog 26 [.agg [a0, .int 0, a2, a3, a4, a5, a6, a7, a8, a9, a10, a11, a12, a13, a14, a15, a16, a17, a18, a19, a20, a21]] (.tup [.row 34 6 true, .sc, .sc]) (.tup [tube o, .bool false, .int e]) := by
  have q := EffF.carried_form (.agg [a0, .int 0, a2, a3, a4, a5, a6, a7, a8, a9, a10, a11, a12, a13, a14, a15, a16, a17, a18, a19, a20, a21]) (.tup [tube o, .bool false, .int e])
  have k := fun h => fn_run mixed 3 (Γ := EffF.Γ) (ann := EffF.ann) Tryd.func26 rfl Tryd.call26 (q.mpr h)
  refine k ?_
  clear k q
  have hf := flat_tube o
  simp
  refine ⟨_, hh, ?_⟩
  simp
  exact hf
end Go.Proofs.YtocgoabplafoeaaDoor
/- effects: the clearance is checked; climbed. -/
namespace Go.Proofs.YtocgoabplafoeaaDoor
open Go.RowKit
set_option linter.unusedVariables false
set_option linter.unusedSimpArgs false
set_option maxRecDepth 100000
theorem of2_fn (x : Cl) : Fn Tryd.prog 21 [.ref (encL x)] .sc (.int (clE x)) := by
  refine fn_run mixed 3 (Γ := EffG.Γ) (ann := EffG.ann) Tryd.func21 rfl Tryd.call21 ((EffG.of2_form _ _).mpr ?_)
  have hc := pcheck_fn x
  exact ⟨⟨_, rfl, by simp [encL]⟩, _, hc, by simp⟩
end Go.Proofs.YtocgoabplafoeaaDoor
/- slices.Concat at tubes. -/
namespace Go.Proofs.YtocgoabplafoeaaDoor
open Go.RowKit
set_option linter.unusedVariables false
set_option linter.unusedSimpArgs false
set_option maxRecDepth 100000
def encT (l : List Nd) : List AV := [tube l]
theorem flat_len_take : ∀ (LL : List (List Nd)) (n : Nat) (x : List Nd), LL[n]? = some x → (LL.take (n + 1)).flatten = (LL.take n).flatten ++ x
  | [], n, x, h => by simp at h
  | l :: LL, 0, x, h => by simp at h; simp [h]
  | l :: LL, n + 1, x, h => by
    have := flat_len_take LL n x (by simpa using h)
    simp only [List.take_succ_cons, List.flatten_cons, this, List.append_assoc]
theorem flat_le (LL : List (List Nd)) (n : Nat) : (LL.take n).flatten.length ≤ LL.flatten.length := by
  have := List.take_append_drop n LL
  conv => rhs; rw [← this]
  rw [List.flatten_append, List.length_append]
  omega
theorem concat_fn (LL : List (List Nd)) (h : LL.flatten.length ≤ 100000) (hl : LL.length ≤ 1000) : Fn Tryd.prog 28 [lst 1 encT LL] (.row 34 6 true) (tube LL.flatten) := by
  refine fn_run mixed 3 (Γ := EffG.Γ) (ann := EffG.ann) Tryd.func28 rfl Tryd.call28 ((EffG.concat_form _ _).mpr ?_)
  refine ⟨by simp, ?_⟩
  refine loop_list (σ := Nat) LL (fun n s => [.int (s : Nat), .int (n : Nat)]) (fun n _ s => s = (LL.take n).flatten.length) 0 rfl rfl ?_ ?_
  · rintro n x rest s K hx hr hn rfl hK
    have h1 := flat_len_take LL n x hx
    have h2 := flat_le LL (n + 1)
    have h3 : ((LL.take (n + 1)).flatten.length) = (LL.take n).flatten.length + x.length := by rw [h1, List.length_append]
    have w1 : wr (((LL.take n).flatten.length : Int) + (x.length : Int)) = (((LL.take (n + 1)).flatten.length : Nat) : Int) := by rw [wr_id (by omega) (by omega)]; omega
    have w2 : wr ((n : Int) + 1) = (n : Int) + 1 := wr_id (by omega) (by omega)
    generalize (LL.take n).flatten.length = a at *
    generalize (LL.take (n + 1)).flatten.length = b at *
    simp [hn, lst_at hx, encT, w1, w2]
    exact ⟨fun q => by omega, hK [.int (b : Nat), .int ((n : Int) + 1)] b (by simp) rfl⟩
  · rintro s K rfl
    rw [List.take_length]
    simp
    refine ⟨_, by simpa using grow_fn LL.flatten.length h, ?_⟩
    refine loop_list (σ := List Nd) LL (fun n s => [.int (n : Nat), tube s]) (fun n _ s => s = (LL.take n).flatten) [] rfl rfl ?_ ?_
    · rintro n x rest s K hx hr hn rfl hK
      have h1 := flat_len_take LL n x hx
      have h2 := flat_le LL (n + 1)
      have h3 : ((LL.take (n + 1)).flatten.length) = (LL.take n).flatten.length + x.length := by rw [h1, List.length_append]
      have w2 : wr ((n : Int) + 1) = (n : Int) + 1 := wr_id (by omega) (by omega)
      generalize (LL.take n).flatten = A at *
      generalize (LL.take (n + 1)).flatten = B at *
      have hr : AV.room (tube A) (tube x) 48 := by
        unfold AV.room
        simp only [lst_els, List.length_map]
        omega
      simp [hn, lst_at hx, encT, w2, hr]
      exact hK [.int ((n : Int) + 1), tube (A ++ x)] B (by simp [h1]) rfl
    · rintro s K rfl
      have hf := flat_tube LL.flatten
      rw [List.take_length]
      simp
      simp [lst] at hf ⊢
      exact hf
end Go.Proofs.YtocgoabplafoeaaDoor
/- effects: the heights of a climb. -/
namespace Go.Proofs.YtocgoabplafoeaaDoor
open Go.RowKit
set_option linter.unusedVariables false
set_option linter.unusedSimpArgs false
set_option maxRecDepth 100000
/-- A node, at the height it has on the way. -/
def hgt (nt nh v n : Int) (x : Nd) : Nd := { x with h := if nt + n ≤ x.t then v else nh + (v - nh) * (x.t - nt) / n }
theorem hloop (x0 r7 a0 a1 a3 a4 a5 a7 a8 a10 a11 a12 a13 a14 a15 a16 a17 a18 a19 a20 a21 : AV) (v nt nh n : Int) (hx0 : x0 = .agg [a0, a1, .int v, a3, a4, a5, .int nt, a7, a8, .int nh, a10, a11, a12, a13, a14, a15, a16, a17, a18, a19, a20, a21]) (hr7 : r7 = .tup [.int n, .int 0])
    (L : List Nd) (r : AV) (i : Nat) (hr : r = .tup [tube (L.map (hgt nt nh v n)), .int 0]) (hL : L.length ≤ 1000) (hv : 0 ≤ v ∧ v ≤ 60000) (hnh : 0 ≤ nh ∧ nh ≤ 60000) (hnt : 0 ≤ nt ∧ nt ≤ 200000) (hn : 0 ≤ n ∧ n ≤ 60000)
    (hb : ∀ x ∈ L, 0 ≤ x.t ∧ x.t ≤ 200000 ∧ (x.t < nt + n → nt ≤ x.t)) :
    (fLoop i [(AV.int 0), (tube L)] fun ys again =>
                  ((AV.binOk Go.BinOp.lss (ys.getD 0 default) (AV.len (tube L))) ∧
                  ((AV.isBool (AV.bin Go.BinOp.lss (ys.getD 0 default) (AV.len (tube L)))) ∧
                  (((isT (AV.bin Go.BinOp.lss (ys.getD 0 default) (AV.len (tube L)))) →
                    ((AV.inb (ys.getD 1 default) (ys.getD 0 default)) ∧
                    ((AV.inb (ys.getD 1 default) (ys.getD 0 default)) ∧
                    ((AV.binOk Go.BinOp.geq (AV.at (ys.getD 1 default) (ys.getD 0 default) 0) (AV.bin Go.BinOp.add (AV.cel x0 6) (AV.prj r7 0))) ∧
                    ((AV.isBool (AV.bin Go.BinOp.geq (AV.at (ys.getD 1 default) (ys.getD 0 default) 0) (AV.bin Go.BinOp.add (AV.cel x0 6) (AV.prj r7 0)))) ∧
                    (((isT (AV.bin Go.BinOp.geq (AV.at (ys.getD 1 default) (ys.getD 0 default) 0) (AV.bin Go.BinOp.add (AV.cel x0 6) (AV.prj r7 0)))) →
                      ((AV.isOne (AV.cel x0 2)) ∧
                      ((AV.inb (ys.getD 1 default) (ys.getD 0 default)) ∧
                      ((AV.binOk Go.BinOp.add (ys.getD 0 default) (AV.int 1)) ∧
                      (again [(AV.bin Go.BinOp.add (ys.getD 0 default) (AV.int 1)), (AV.setEl (ys.getD 1 default) (ys.getD 0 default) 3 [(AV.cel x0 2)])]))))) ∧
                    ((isF (AV.bin Go.BinOp.geq (AV.at (ys.getD 1 default) (ys.getD 0 default) 0) (AV.bin Go.BinOp.add (AV.cel x0 6) (AV.prj r7 0)))) →
                      ((AV.binOk Go.BinOp.sub (AV.cel x0 2) (AV.cel x0 9)) ∧
                      ((AV.inb (ys.getD 1 default) (ys.getD 0 default)) ∧
                      ((AV.binOk Go.BinOp.sub (AV.at (ys.getD 1 default) (ys.getD 0 default) 0) (AV.cel x0 6)) ∧
                      ((AV.binOk Go.BinOp.mul (AV.bin Go.BinOp.sub (AV.cel x0 2) (AV.cel x0 9)) (AV.bin Go.BinOp.sub (AV.at (ys.getD 1 default) (ys.getD 0 default) 0) (AV.cel x0 6))) ∧
                      (∃ r8 : AV, ((Fn Tryd.prog 37 [(AV.bin Go.BinOp.mul (AV.bin Go.BinOp.sub (AV.cel x0 2) (AV.cel x0 9)) (AV.bin Go.BinOp.sub (AV.at (ys.getD 1 default) (ys.getD 0 default) 0) (AV.cel x0 6))), (AV.prj r7 0)] (Sh.tup [Sh.sc, Sh.sc]) r8) ∧
                      ((AV.binOk Go.BinOp.add (AV.cel x0 9) (AV.prj r8 0)) ∧
                      ((AV.isOne (AV.bin Go.BinOp.add (AV.cel x0 9) (AV.prj r8 0))) ∧
                      ((AV.inb (ys.getD 1 default) (ys.getD 0 default)) ∧
                      ((AV.binOk Go.BinOp.add (ys.getD 0 default) (AV.int 1)) ∧
                      (again [(AV.bin Go.BinOp.add (ys.getD 0 default) (AV.int 1)), (AV.setEl (ys.getD 1 default) (ys.getD 0 default) 3 [(AV.bin Go.BinOp.add (AV.cel x0 9) (AV.prj r8 0))])])))))))))))))))))) ∧
                  ((isF (AV.bin Go.BinOp.lss (ys.getD 0 default) (AV.len (tube L)))) →
                    ((AV.flatS (ys.getD 1 default)) ∧
                    ((AV.flat (AV.int 0)) ∧
                    (fSame (AV.tup [(ys.getD 1 default), (AV.int 0)]) r)))))))) := by
  subst hx0 hr7 hr
  refine loop_list (σ := List Nd) L (fun k s => [.int (k : Nat), tube s]) (fun k rest s => s = (L.take k).map (hgt nt nh v n) ++ rest) L rfl (by simp) ?_ ?_
  · rintro k x rest s K hx hrest hk hG hK
    have hs : s[k]? = some x := by
      rw [hG, List.getElem?_append_right (by simp; omega)]
      simp [show min k L.length = k by omega]
    have hsl : s.length = L.length := by
      have : (x :: rest).length = L.length - k := by
        rw [← hrest]; simp; omega
      rw [hG, List.length_append, this]; simp; omega
    have hset : s.set k (hgt nt nh v n x) = (L.take (k + 1)).map (hgt nt nh v n) ++ rest := by
      rw [hG, List.set_append_right _ _ (by simp; omega)]
      simp only [List.length_map, List.length_take, show min k L.length = k by omega, Nat.sub_self, List.set_cons_zero]
      have e : L.take (k + 1) = L.take k ++ [x] := by
        rw [List.take_add_one, hx]; rfl
      rw [e]; simp
    have hx' := hb x (List.mem_of_getElem? hx)
    have hKK := fun z hz => hK [.int ((k : Int) + 1), tube (s.set k z)] _ (by simp; exact hz) hset
    clear hK hG hb
    have w2 : wr ((k : Int) + 1) = (k : Int) + 1 := wr_id (by omega) (by omega)
    have w3 : wr (nt + n) = nt + n := wr_id (by omega) (by omega)
    have w4 : wr (v - nh) = v - nh := wr_id (by omega) (by omega)
    have hks : (k : Int) < s.length := by omega
    have hkL : (k : Int) < L.length := by omega
    obtain ⟨xt, xx, xy, xh, xr, xb⟩ := x
    simp only at hx'
    have hse : ∀ z : Int, AV.setEl (tube s) (.lit (.int .i64 (k : Nat))) 3 [.int z] = tube (s.set k ⟨xt, xx, xy, z, xr, xb⟩) := fun z => lst_setEl hs (by simp [encN])
    simp [hkL, hks, lst_at hs, encN, w2, w3, w4, hse]
    refine ⟨fun q => hKK _ (by simp [hgt, q]), fun q => ?_⟩
    have w5 : wr (xt - nt) = xt - nt := wr_id (by omega) (by omega)
    have m1 := mulb (p := v - nh) (n := xt - nt) (by omega) (by omega) (by omega) (by omega)
    have w6 : wr ((v - nh) * (xt - nt)) = (v - nh) * (xt - nt) := wr_id (by omega) (by omega)
    have hpos : 0 < n := by omega
    have c2 := divd_fn ((v - nh) * (xt - nt)) n hpos (by omega) (by omega)
    obtain ⟨q1, q2⟩ := way (p := v - nh) (n := xt - nt) (d := n) hpos (by omega) (by omega)
    have w7 : wr (nh + (v - nh) * (xt - nt) / n) = nh + (v - nh) * (xt - nt) / n := by
      rcases Int.le_total 0 (v - nh) with g | g
      · have := q1 g; exact wr_id (by omega) (by omega)
      · have := q2 g; exact wr_id (by omega) (by omega)
    rw [w5, w6]
    refine ⟨_, c2, ?_⟩
    simp [w7, hse]
    exact hKK _ (by simp [hgt, show ¬ nt + n ≤ xt by omega])
  · rintro s K hG
    have hf := flat_tube s
    have e : s = L.map (hgt nt nh v n) := by rw [hG]; simp
    rw [← e]
    simp
    exact hf
end Go.Proofs.YtocgoabplafoeaaDoor
/- effects: a clearance to a height, carried out. -/
namespace Go.Proofs.YtocgoabplafoeaaDoor
open Go.RowKit
set_option linter.unusedVariables false
set_option linter.unusedSimpArgs false
set_option maxRecDepth 100000
/-- The nodes, with one of the time e. -/
def insT (w : List Nd) (e : Int) (l : List Nd) : List Nd := if (l.getD (ixF e l) default).t = e then l else l.take (ixF e l) ++ atN w e :: l.drop (ixF e l)
def midT (w l : List Nd) (nt n : Int) : List Nd := if 0 < n ∧ 0 < l.length ∧ nt + n < (l.getD (l.length - 1) default).t then insT w (nt + n) l else l
def hgtV (k : Kd) (now : Nd) (v : Int) (w l : List Nd) : AV := if clE2 k now.h v = 0 then .tup [tube ((midT w l now.t (clN k now.h v)).map (hgt now.t now.h v (clN k now.h v))), .int 0] else .tup [.sl 6 [], .int (clE2 k now.h v)]
theorem ixF_snoc {t : Int} : ∀ {l : List Nd} {k : Nat} {x : Nd}, (∀ j y, j < k → l[j]? = some y → y.t < t) → l[k]? = some x → ¬ x.t < t → ixF t l = k
  | [], k, x, _, h, _ => by simp at h
  | n :: r, 0, x, h0, h, hx => by simp at h; subst h; rw [ixF, if_neg hx]
  | n :: r, k + 1, x, h0, h, hx => by
    rw [ixF, if_pos (h0 0 n (by omega) rfl), ixF_snoc (k := k) (fun j y hj hy => h0 (j + 1) y (by omega) (by simpa using hy)) (by simpa using h) hx]
theorem clN_bd {k : Kd} {a b : Int} (h : clE2 k a b = 0) : kE k = 0 ∧ 0 ≤ a ∧ a ≤ 60000 ∧ 0 ≤ b ∧ b ≤ 60000 ∧ 0 ≤ clN k a b ∧ clN k a b ≤ 60000 := by
  unfold clE2 at h
  split at h
  · rename_i q; exact absurd h q
  · rename_i q
    have hk : kE k = 0 := by simpa using q
    obtain ⟨k1, k2, k3, k4, k5, k6⟩ := kE_ok hk
    split at h
    · cases h
    · have hd : ∀ x d : Int, 0 ≤ x → x ≤ 60000 → 1 ≤ d → 0 ≤ dvu x d ∧ dvu x d ≤ 60000 := fun x d h1 h2 h3 => by
        have e1 : 0 ≤ x / d := Int.ediv_nonneg h1 (by omega)
        have e2 : x / d * d ≤ x := Int.ediv_mul_le x (by omega)
        have e3 : x / d ≤ x / d * d := by
          have := Int.mul_le_mul_of_nonneg_left h3 e1
          simpa using this
        unfold dvu
        rw [Int.tmod_eq_emod_of_nonneg h1]
        by_cases hz : x % d = 0
        · rw [if_pos hz]; omega
        · rw [if_neg hz]
          have h4 := Int.emod_lt_of_pos x (show 0 < d by omega)
          have h5 := Int.emod_nonneg x (show d ≠ 0 by omega)
          have h6 := Int.mul_ediv_add_emod x d
          have h7 : d * (x / d) = x / d * d := Int.mul_comm _ _
          omega
      refine ⟨hk, by omega, by omega, by omega, by omega, ?_⟩
      unfold clN
      split
      · exact hd _ _ (by omega) (by omega) (by omega)
      · exact hd _ _ (by omega) (by omega) (by omega)
theorem height_fn (a0 a1 a3 a4 a19 a20 : AV) (k : Kd) (now : Nd) (v : Int) (w l : List Nd) (hnow : 0 ≤ now.t ∧ now.t ≤ 200000 ∧ 0 ≤ now.h ∧ now.h ≤ 60000) (hl : l.length ≤ 64) (hlo : ∀ x ∈ l, okN x ∧ now.t < x.t)
    (hat : ∀ e x, x ∈ l → now.t ≤ e → e < x.t → tatE w e = 0) :
    Fn Tryd.prog 41 [.agg [a0, a1, .int v, a3, a4, tube l, .int now.t, .int now.x, .int now.y, .int now.h, .int now.r, .int now.b, .string k.nm, .int k.wk, .int k.cl, .int k.up, .int k.dn, .int k.sl, .int k.fa, a19, a20, tube w]] (.tup [.row 34 6 true, .sc]) (hgtV k now v w l) := by
  have q := EffF.height_form (.agg [a0, a1, .int v, a3, a4, tube l, .int now.t, .int now.x, .int now.y, .int now.h, .int now.r, .int now.b, .string k.nm, .int k.wk, .int k.cl, .int k.up, .int k.dn, .int k.sl, .int k.fa, a19, a20, tube w]) (hgtV k now v w l)
  have kk := fun h => fn_run mixed 3 (Γ := EffF.Γ) (ann := EffF.ann) Tryd.func41 rfl Tryd.call41 (q.mpr h)
  refine kk ?_
  clear kk q
  have hc := climb_fn k now.h v
  by_cases hE : clE2 k now.h v = 0
  · obtain ⟨hk, hnh1, hnh2, hv1, hv2, hn1, hn2⟩ := clN_bd hE
    have hVc : clV k now.h v = .tup [.int (clN k now.h v), .int 0] := by unfold clV; rw [if_pos hE]
    rw [hVc] at hc
    have hV : hgtV k now v w l = .tup [tube ((midT w l now.t (clN k now.h v)).map (hgt now.t now.h v (clN k now.h v))), .int 0] := by unfold hgtV; rw [if_pos hE]
    generalize clN k now.h v = n at *
    rw [hV]
    obtain ⟨nt1, nt2, nh1, nh2⟩ := hnow
    have hbl : ∀ x ∈ l, 0 ≤ x.t ∧ x.t ≤ 200000 ∧ (x.t < now.t + n → now.t ≤ x.t) := fun x hx => by
      have := hlo x hx
      exact ⟨this.1.1, this.1.2.1, fun _ => by omega⟩
    have hm0 : ¬ (0 < n ∧ 0 < l.length ∧ now.t + n < (l.getD (l.length - 1) default).t) → midT w l now.t n = l := fun h => by unfold midT; rw [if_neg h]
    refine ⟨by simp, _, hc, ⟨by simp, by simp, fun q => absurd q (by simp), fun _ => ⟨by simp, by simp, _, tclone_fn l (by omega), by simp, by simp, fun q1 => ?_, fun q1 => ⟨by simp, q1, ?_⟩⟩⟩⟩
    · have hn0 : 0 < n := by simpa using q1
      refine ⟨by simp, by simp, q1, by simp, fun q2 => ?_, fun q2 => ⟨by simp, q2, ?_⟩⟩
      · have hl0 : 0 < l.length := by simpa using q2
        obtain ⟨z, hz⟩ : ∃ z, l[l.length - 1]? = some z := ⟨_, List.getElem?_eq_getElem (by omega)⟩
        have hzd : l.getD (l.length - 1) default = z := by rw [List.getD_eq_getElem?_getD, hz]; rfl
        have hwl : wr ((l.length : Int) - 1) = ((l.length - 1 : Nat) : Int) := by rw [wr_id (by omega) (by omega)]; omega
        have hwn : wr (now.t + n) = now.t + n := wr_id (by omega) (by omega)
        have hlt : ((l.length - 1 : Nat) : Int) < l.length := by omega
        have hzo := hlo z (List.mem_of_getElem? hz)
        refine ⟨by simp, by simp [hwl]; omega, by simp [hwl]; omega, by simp [hwl, lst_at hz, encN], by simp, q2, by simp [hwl, lst_at hz, encN], fun q3 => ?_, fun q3 => ?_⟩
        · have hend : now.t + n < z.t := by simpa [hwl, lst_at hz, encN, hwn] using q3
          refine ⟨Tryd.call59, fun _ => ?_⟩
          have hmid : midT w l now.t n = insT w (now.t + n) l := by unfold midT; rw [if_pos ⟨hn0, hl0, by rw [hzd]; exact hend⟩]
          rw [hmid]
          refine loop_list (σ := Unit) l (fun i _ => [.int (i : Nat)]) (fun i _ _ => ∀ j y, j < i → l[j]? = some y → y.t < now.t + n) () rfl (fun j y hj => by omega) ?_ ?_
          · rintro i x rest _ K hx hrest hi hG hK
            have hwi : wr ((i : Int) + 1) = (i : Int) + 1 := wr_id (by omega) (by omega)
            refine ⟨by simp, by simp, fun _ => ⟨by simp; omega, by simp; omega, Tryd.call60, fun _ => ⟨by simp [lst_atAgg hx, encN], by simp [lst_atAgg hx, encN], by simp [lst_atAgg hx, encN], fun q5 => ?_, fun q5 => ⟨by simp, ?_⟩⟩⟩, fun q4 => ?_⟩
            · have hxe : now.t + n ≤ x.t := by simpa [lst_atAgg hx, encN, hwn] using q5
              have hix : ixF (now.t + n) l = i := ixF_snoc hG hx (by omega)
              have hxd : l.getD i default = x := by rw [List.getD_eq_getElem?_getD, hx]; rfl
              refine ⟨by simp; omega, by simp; omega, by simp [lst_at hx, encN], by simp [lst_at hx, encN], fun q6 => ?_, fun q6 => ?_⟩
              · have hne : x.t ≠ now.t + n := by simpa [lst_at hx, encN, hwn] using q6
                have hins : insT w (now.t + n) l = l.take i ++ atN w (now.t + n) :: l.drop i := by unfold insT; rw [hix, hxd, if_neg hne]
                rw [hins]
                have hte := hat (now.t + n) z (List.mem_of_getElem? hz) (by omega) hend
                have htv : tatV w (now.t + n) = .tup [nd (atN w (now.t + n)), .int 0] := by unfold tatV; rw [if_pos hte]
                have hta := tat_fn w (now.t + n)
                rw [htv] at hta
                obtain ⟨hv0, hv1', hv2'⟩ := tatE_ok hte
                have hatt : (atN w (now.t + n)).t = now.t + n := by
                  unfold atN
                  split
                  · rename_i g; exact g
                  · rfl
                generalize atN w (now.t + n) = A at *
                refine ⟨_, by simpa [hwn] using hta, by simp [encN], ?_⟩
                have hi2 := insNd (l.map encN) [encN A] i (by simp; omega) (by simp) (fun y hy z hz => by simp [encN] at hy; subst hy; simp at hz; rcases hz with rfl | rfl | rfl | rfl | rfl | rfl <;> exact .lit _) (by simp; omega)
                have e2 : AV.sl 6 ((l.map encN).take i ++ ([encN A] ++ (l.map encN).drop i)) = tube (l.take i ++ A :: l.drop i) := by simp [lst, List.map_take, List.map_drop]
                rw [e2] at hi2
                refine ⟨tube (l.take i ++ A :: l.drop i), by simpa [encN, lst] using hi2, ?_⟩
                refine hloop _ _ a0 a1 a3 a4 (tube l) (.int now.x) (.int now.y) (.int now.r) (.int now.b) (.string k.nm) (.int k.wk) (.int k.cl) (.int k.up) (.int k.dn) (.int k.sl) (.int k.fa) a19 a20 (tube w) v now.t now.h n rfl rfl (l.take i ++ A :: l.drop i) _ _ rfl (by rw [List.length_append, List.length_cons, List.length_take, List.length_drop]; omega) ⟨hv1, hv2⟩ ⟨nh1, nh2⟩ ⟨nt1, nt2⟩ ⟨hn1, hn2⟩ (fun y hy => ?_)
                rcases List.mem_append.1 hy with g | g
                · exact hbl y (List.mem_of_mem_take g)
                · rcases List.mem_cons.1 g with g | g
                  · rw [g, hatt]
                    have := hzo.1.2.1
                    exact ⟨by omega, by omega, fun _ => by omega⟩
                  · exact hbl y (List.mem_of_mem_drop g)
              · have heq : x.t = now.t + n := by simpa [lst_at hx, encN, hwn] using q6
                have hins : insT w (now.t + n) l = l := by unfold insT; rw [hix, hxd, if_pos heq]
                rw [hins]
                exact hloop _ _ a0 a1 a3 a4 (tube l) (.int now.x) (.int now.y) (.int now.r) (.int now.b) (.string k.nm) (.int k.wk) (.int k.cl) (.int k.up) (.int k.dn) (.int k.sl) (.int k.fa) a19 a20 (tube w) v now.t now.h n rfl rfl _ _ _ rfl (by omega) ⟨hv1, hv2⟩ ⟨nh1, nh2⟩ ⟨nt1, nt2⟩ ⟨hn1, hn2⟩ hbl
            · refine hK _ () (by simp [hwi]) fun j y hj hy => ?_
              rcases Nat.lt_or_ge j i with g | g
              · exact hG j y g hy
              · obtain rfl : j = i := by omega
                rw [hx] at hy; injection hy with hy; subst hy
                have : ¬ now.t + n ≤ x.t := by simpa [lst_atAgg hx, encN, hwn] using q5
                omega
            · exact absurd q4 (by simp; omega)
          · rintro _ K hG
            have := hG (l.length - 1) z (by omega) hz
            omega
        · have hend : ¬ now.t + n < z.t := by simpa [hwl, lst_at hz, encN, hwn] using q3
          rw [hm0 (by rw [hzd]; omega)]
          exact hloop _ _ a0 a1 a3 a4 (tube l) (.int now.x) (.int now.y) (.int now.r) (.int now.b) (.string k.nm) (.int k.wk) (.int k.cl) (.int k.up) (.int k.dn) (.int k.sl) (.int k.fa) a19 a20 (tube w) v now.t now.h n rfl rfl _ _ _ rfl (by omega) ⟨hv1, hv2⟩ ⟨nh1, nh2⟩ ⟨nt1, nt2⟩ ⟨hn1, hn2⟩ hbl
      · have hl0 : l = [] := by simpa using q2
        rw [hm0 (by simp [hl0])]
        exact hloop _ _ a0 a1 a3 a4 (tube l) (.int now.x) (.int now.y) (.int now.r) (.int now.b) (.string k.nm) (.int k.wk) (.int k.cl) (.int k.up) (.int k.dn) (.int k.sl) (.int k.fa) a19 a20 (tube w) v now.t now.h n rfl rfl _ _ _ rfl (by omega) ⟨hv1, hv2⟩ ⟨nh1, nh2⟩ ⟨nt1, nt2⟩ ⟨hn1, hn2⟩ hbl
    · have hn0 : ¬ 0 < n := by simpa using q1
      rw [hm0 (by omega)]
      exact hloop _ _ a0 a1 a3 a4 (tube l) (.int now.x) (.int now.y) (.int now.r) (.int now.b) (.string k.nm) (.int k.wk) (.int k.cl) (.int k.up) (.int k.dn) (.int k.sl) (.int k.fa) a19 a20 (tube w) v now.t now.h n rfl rfl _ _ _ rfl (by omega) ⟨hv1, hv2⟩ ⟨nh1, nh2⟩ ⟨nt1, nt2⟩ ⟨hn1, hn2⟩ hbl
  · have hVc : clV k now.h v = .tup [.int 0, .int (clE2 k now.h v)] := by unfold clV; rw [if_neg hE]
    rw [hVc] at hc
    have hV : hgtV k now v w l = .tup [.sl 6 [], .int (clE2 k now.h v)] := by unfold hgtV; rw [if_neg hE]
    rw [hV]
    refine ⟨by simp, _, hc, ⟨by simp, by simp, fun q => ?_, fun q => absurd q (by simp [hE])⟩⟩
    simp
end Go.Proofs.YtocgoabplafoeaaDoor
/- effects: effect.Of at a clearance to a height. -/
namespace Go.Proofs.YtocgoabplafoeaaDoor
open Go.RowKit
set_option linter.unusedVariables false
set_option linter.unusedSimpArgs false
set_option maxRecDepth 100000
def befT (a : Int) (l : List Nd) : List Nd := l.filter fun n => decide (n.t < a)
def latT (a : Int) (l : List Nd) : List Nd := l.filter fun n => decide (a < n.t)
def ofE (l : List Nd) (c : Cl) (a : Int) (k : Kd) (fix : Pt) : Int := if tE l ≠ 0 then tE l else if clE c ≠ 0 then clE c else if kE k ≠ 0 then kE k else if pE fix ≠ 0 then pE fix else tatE l a
def outT (l : List Nd) (v : Int) (a : Int) (k : Kd) : List Nd := befT a l ++ atN l a :: (midT l (latT a l) a (clN k (atN l a).h v)).map (hgt a (atN l a).h v (clN k (atN l a).h v))
def ofV (l : List Nd) (c : Cl) (a : Int) (k : Kd) (fix : Pt) : AV :=
  if ofE l c a k fix ≠ 0 then .tup [.sl 6 [], .int (ofE l c a k fix)]
  else if clE2 k (atN l a).h c.v ≠ 0 then .tup [.sl 6 [], .int (clE2 k (atN l a).h c.v)]
  else if 64 < (outT l c.v a k).length then .tup [.sl 6 [], .int 2] else .tup [tube (outT l c.v a k), .int 0]
/-- The first error of several. -/
def feE : List (AV × Int) → Int
  | [] => 0
  | x :: r => if x.2 ≠ 0 then x.2 else feE r
def encC (x : AV × Int) : List AV := [x.1]
theorem midT_len (w l : List Nd) (nt n : Int) : (midT w l nt n).length ≤ l.length + 1 := by
  unfold midT insT
  split
  · split
    · omega
    · simp; omega
  · omega
theorem befT_snoc (a : Int) (l : List Nd) (x : Nd) : befT a (l ++ [x]) = if x.t < a then befT a l ++ [x] else befT a l := by
  unfold befT
  rw [List.filter_append]
  by_cases h : x.t < a
  · simp [h]
  · simp [h]
theorem latT_snoc (a : Int) (l : List Nd) (x : Nd) : latT a (l ++ [x]) = if a < x.t then latT a l ++ [x] else latT a l := by
  unfold latT
  rw [List.filter_append]
  by_cases h : a < x.t
  · simp [h]
  · simp [h]
theorem befT_len (a : Int) (l : List Nd) : (befT a l).length ≤ l.length := List.length_filter_le _ _
theorem latT_len (a : Int) (l : List Nd) : (latT a l).length ≤ l.length := List.length_filter_le _ _
theorem nd_snoc (l : List Nd) (x : Nd) : AV.app 6 (tube l) (.sl 6 [encN x]) = tube (l ++ [x]) := by simp [lst]
theorem nd_room (l : List Nd) (x : Nd) (h : l.length ≤ 1000) : AV.room (tube l) (.sl 6 [encN x]) 48 := by
  unfold AV.room
  simp only [lst_els, List.length_map, av_els, List.length_cons, List.length_nil]
  omega
theorem atN_t (l : List Nd) (t : Int) : (atN l t).t = t := by
  unfold atN
  split
  · rename_i g; exact g
  · rfl
theorem atN_okN {l : List Nd} {t : Int} (hv : tE l = 0) (h0 : ∀ x, l[0]? = some x → x.t ≤ t) (h1 : ∀ x, l[l.length - 1]? = some x → t ≤ x.t) : 0 ≤ t ∧ t ≤ 200000 ∧ 0 ≤ (atN l t).h ∧ (atN l t).h ≤ 60000 := by
  obtain ⟨hp, h64, hG⟩ := tE_ok hv
  obtain ⟨x0, hx0⟩ : ∃ x0, l[0]? = some x0 := ⟨_, List.getElem?_eq_getElem (by omega)⟩
  have t0 : 0 ≤ t := by have := h0 x0 hx0; have := (tG_get hG hx0).2.1.1; omega
  obtain ⟨x1, hx1⟩ : ∃ x1, l[l.length - 1]? = some x1 := ⟨_, List.getElem?_eq_getElem (by omega)⟩
  have t1 : t ≤ 200000 := by have := h1 x1 hx1; have := (tG_get hG hx1).2.1.2.1; omega
  exact ⟨t0, t1, (atN_ok hv h0 h1).2⟩
theorem of_fn (l : List Nd) (c : Cl) (a : Int) (k : Kd) (fix : Pt) (hc : c.k = 0) : Fn Tryd.prog 9 [tube l, cl c, .int a, kd k, pt fix] (.tup [.row 34 6 true, .sc]) (ofV l c a k fix) := by
  have q := EffF.of_form (tube l) (cl c) (.int a) (kd k) (pt fix) (ofV l c a k fix)
  have kk := fun h => fn_run mixed 3 (Γ := EffF.Γ) (ann := EffF.ann) Tryd.func9 rfl Tryd.call9 (q.mpr h)
  refine kk ?_
  clear kk q
  refine ⟨by simp, by simp [encL], by simp [encKd], by simp [encP], ?_⟩
  obtain ⟨CL, hCL⟩ : ∃ CL : List (AV × Int), CL = [(AV.clo 20 [.ref [tube l]], tE l), (AV.clo 21 [.ref (encL c)], clE c), (AV.clo 23 [.ref (encKd k)], kE k), (AV.clo 25 [.ref (encP fix)], pE fix)] := ⟨_, rfl⟩
  have hls : AV.mk 1 [[(AV.mkClo 20 [(AV.mkRef [tube l])])], [(AV.mkClo 21 [(AV.mkRef [(AV.cel (cl c) 0), (AV.cel (cl c) 1), (AV.cel (cl c) 2), (AV.cel (cl c) 3)])])], [(AV.mkClo 23 [(AV.mkRef [(AV.cel (kd k) 0), (AV.cel (kd k) 1), (AV.cel (kd k) 2), (AV.cel (kd k) 3), (AV.cel (kd k) 4), (AV.cel (kd k) 5), (AV.cel (kd k) 6)])])], [(AV.mkClo 25 [(AV.mkRef [(AV.cel (pt fix) 0), (AV.cel (pt fix) 1)])])]] = lst 1 encC CL := by rw [hCL]; rfl
  rw [hls]
  have hfe : feE CL = if tE l ≠ 0 then tE l else if clE c ≠ 0 then clE c else if kE k ≠ 0 then kE k else pE fix := by
    rw [hCL]
    simp only [feE]
    split
    · rfl
    · split
      · rfl
      · split
        · rfl
        · split
          · rfl
          · rename_i h; simpa using (Eq.symm (by simpa using h))
  have hFC : ∀ x ∈ CL, FnC Tryd.prog x.1 [] .sc (.int x.2) := by
    intro x hx
    rw [hCL] at hx
    simp only [List.mem_cons, List.mem_nil_iff, or_false] at hx
    rcases hx with rfl | rfl | rfl | rfl
    · exact ⟨_, _, rfl, of1_fn l⟩
    · exact ⟨_, _, rfl, of2_fn c⟩
    · exact ⟨_, _, rfl, of3_fn k⟩
    · exact ⟨_, _, rfl, of4_fn fix⟩
  have hl4 : CL.length = 4 := by rw [hCL]; rfl
  have hV1 : feE CL ≠ 0 → ofV l c a k fix = .tup [.sl 6 [], .int (feE CL)] := fun h => by
    have e : ofE l c a k fix = feE CL := by
      rw [hfe] at h ⊢
      unfold ofE
      split
      · rfl
      · rename_i h1
        rw [if_neg h1] at h
        split
        · rfl
        · rename_i h2
          rw [if_neg h2] at h
          split
          · rfl
          · rename_i h3
            rw [if_neg h3] at h
            rw [if_pos h]
    unfold ofV
    rw [e, if_pos h]
  have hE0 : feE CL = 0 → tE l = 0 ∧ kE k = 0 ∧ ofE l c a k fix = tatE l a := fun h => by
    rw [hfe] at h
    unfold ofE
    by_cases h1 : tE l = 0
    · by_cases h2 : clE c = 0
      · by_cases h3 : kE k = 0
        · simp [h1, h2, h3] at h ⊢
          simp [h]
        · simp [h1, h2, h3] at h
      · simp [h1, h2] at h
    · simp [h1] at h
  clear hls hCL hfe
  refine loop_list (σ := Unit) CL (fun i _ => [.int (i : Nat)]) (fun i rest _ => feE CL = feE rest) () rfl rfl ?_ ?_
  · rintro i x rest _ K hx hrest hi hG hK
    have hi4 : (i : Int) < 4 := by omega
    have hwi : wr ((i : Int) + 1) = (i : Int) + 1 := wr_id (by omega) (by omega)
    have hF := hFC x (List.mem_of_getElem? hx)
    refine ⟨by simp, by simp, fun _ => ⟨by simp; omega, by simp; omega, .int x.2, ?_, by simp, by simp, fun h => ?_, fun h => ⟨by simp, ?_⟩⟩, fun h => absurd h (by simp; omega)⟩
    · rw [show AV.at (lst 1 encC CL) ([AV.int (i : Nat)].getD 0 default) 0 = x.1 from lst_at hx]
      exact hF
    · have hx2 : x.2 ≠ 0 := by simpa using h
      rw [feE, if_pos hx2] at hG
      rw [hV1 (by rw [hG]; exact hx2), hG]
      simp
    · have hx2 : x.2 = 0 := by simpa using h
      rw [feE, if_neg (by simp [hx2])] at hG
      exact hK _ () (by simp [hwi]) hG
  · rintro _ K hG
    obtain ⟨hl0, hk0, hOE⟩ := hE0 hG
    clear hE0 hV1 hFC
    refine ⟨by simp, by simp [hl4], fun h => absurd h (by simp [hl4]), fun _ => ?_⟩
    obtain ⟨hp, h64, hGt⟩ := tE_ok hl0
    have hta := tat_fn l a
    by_cases hE : tatE l a = 0
    · have htv : tatV l a = .tup [nd (atN l a), .int 0] := by unfold tatV; rw [if_pos hE]
      rw [htv] at hta
      have hOE' : ofE l c a k fix = 0 := by rw [hOE, hE]
      obtain ⟨_, hfi, hla⟩ := tatE_ok hE
      obtain ⟨cc, ck, cv, cf⟩ := c
      simp only at hc
      subst hc
      have hV : ofV l ⟨cc, 0, cv, cf⟩ a k fix = if clE2 k (atN l a).h cv ≠ 0 then .tup [.sl 6 [], .int (clE2 k (atN l a).h cv)] else if 64 < (outT l cv a k).length then .tup [.sl 6 [], .int 2] else .tup [tube (outT l cv a k), .int 0] := by
        unfold ofV
        rw [if_neg (by rw [hOE']; simp)]
      have hO : outT l cv a k = befT a l ++ atN l a :: (midT l (latT a l) a (clN k (atN l a).h cv)).map (hgt a (atN l a).h cv (clN k (atN l a).h cv)) := rfl
      have hok := atN_okN hl0 hfi hla
      have htt := atN_t l a
      generalize atN l a = A at *
      subst htt
      rw [hV]
      clear hV hOE hOE'
      refine ⟨by simp, _, hta, by simp [encN], by simp, by simp, fun h => absurd h (by simp), fun _ => ⟨by simp, by simp, by simp, by simp, by simp, by simp, by simp, by simp, by simp, by simp, ?_⟩⟩
      refine loop_list (σ := Unit) l (fun i _ => [.int (i : Nat), tube (befT A.t (l.take i)), tube (latT A.t (l.take i)), .string cc, .int 0, .int cv, .string cf, .int A.t, .int A.x, .int A.y, .int A.h, .int A.r, .int A.b, .string k.nm, .int k.wk, .int k.cl, .int k.up, .int k.dn, .int k.sl, .int k.fa, .int fix.x, .int fix.y, tube l]) (fun _ _ _ => True) () rfl trivial ?_ ?_
      · rintro i x rest _ K hx hrest hi _ hK
        have hwi : wr ((i : Int) + 1) = (i : Int) + 1 := wr_id (by omega) (by omega)
        have hil : (i : Int) < l.length := by omega
        have e1 : l.take (i + 1) = l.take i ++ [x] := by rw [List.take_add_one, hx]; rfl
        have e2 := befT_snoc A.t (l.take i) x
        have e3 := latT_snoc A.t (l.take i) x
        rw [← e1] at e2 e3
        have b1 := befT_len A.t (l.take i)
        have b2 := latT_len A.t (l.take i)
        have b3 : (l.take i).length ≤ 1000 := by rw [List.length_take]; omega
        have r1 := nd_room (befT A.t (l.take i)) x (by omega)
        have r2 := nd_room (latT A.t (l.take i)) x (by omega)
        have a1 := nd_snoc (befT A.t (l.take i)) x
        have a2 := nd_snoc (latT A.t (l.take i)) x
        have hK' := hK [.int ((i : Int) + 1), tube (befT A.t (l.take (i + 1))), tube (latT A.t (l.take (i + 1))), .string cc, .int 0, .int cv, .string cf, .int A.t, .int A.x, .int A.y, .int A.h, .int A.r, .int A.b, .string k.nm, .int k.wk, .int k.cl, .int k.up, .int k.dn, .int k.sl, .int k.fa, .int fix.x, .int fix.y, tube l] () (by simp) trivial
        rw [e2, e3] at hK'
        clear hK e2 e3 e1 b1 b2 b3
        generalize befT A.t (l.take i) = B at *
        generalize latT A.t (l.take i) = D at *
        obtain ⟨xt, xx, xy, xh, xr, xb⟩ := x
        simp [encN] at r1 r2 a1 a2 hK'
        simp [hil, lst_atAgg hx, encN, hwi]
        refine ⟨fun g1 => ⟨r1, fun g2 => absurd g2 (by omega), fun g2 => ?_⟩, fun g1 => ⟨fun g2 => ⟨r2, ?_⟩, fun g2 => ?_⟩⟩
        · rw [if_pos g1, if_neg (by omega)] at hK'
          rw [a1]; exact hK'
        · rw [if_neg (by omega), if_pos g2] at hK'
          rw [a2]; exact hK'
        · rw [if_neg (by omega), if_neg (by omega)] at hK'
          exact hK'
      · rintro _ K _
        rw [List.take_length]
        have b1 := befT_len A.t l
        have b2 := latT_len A.t l
        have hlo : ∀ x ∈ latT A.t l, okN x ∧ A.t < x.t := fun x hx => by
          obtain ⟨h1, h2⟩ := List.mem_filter.1 hx
          obtain ⟨j, hj⟩ := List.getElem?_of_mem h1
          exact ⟨(tG_get hGt hj).2.1, by simpa using h2⟩
        have hat : ∀ e x, x ∈ latT A.t l → A.t ≤ e → e < x.t → tatE l e = 0 := fun e x hx h1 h2 => by
          obtain ⟨h3, _⟩ := List.mem_filter.1 hx
          obtain ⟨j, hj⟩ := List.getElem?_of_mem h3
          obtain ⟨z, hz⟩ : ∃ z, l[l.length - 1]? = some z := ⟨_, List.getElem?_eq_getElem (by omega)⟩
          obtain ⟨y, hy⟩ : ∃ y, l[0]? = some y := ⟨_, List.getElem?_eq_getElem (by omega)⟩
          have hjl := (List.getElem?_eq_some_iff.1 hj).1
          have hxz : x.t ≤ z.t := by
            rcases Nat.lt_or_ge j (l.length - 1) with g | g
            · exact Int.le_of_lt ((tG_get hGt hj).2.2 _ z g hz)
            · obtain rfl : j = l.length - 1 := by omega
              rw [hz] at hj; injection hj with hj; rw [hj]; exact Int.le_refl _
          have hyf := hfi y hy
          unfold tatE
          rw [if_neg (by simp [hl0]), if_neg]
          rw [List.getD_eq_getElem?_getD, hy, List.getD_eq_getElem?_getD, hz]
          simp only [Option.getD_some]
          omega
        have hh := height_fn (.string cc) (.int 0) (.string cf) (tube (befT A.t l)) (.int fix.x) (.int fix.y) k A cv l (latT A.t l) hok (by omega) hlo hat
        have hmid := midT_len l (latT A.t l) A.t (clN k A.h cv)
        by_cases hE2 : clE2 k A.h cv = 0
        · have hHV : hgtV k A cv l (latT A.t l) = .tup [tube ((midT l (latT A.t l) A.t (clN k A.h cv)).map (hgt A.t A.h cv (clN k A.h cv))), .int 0] := by unfold hgtV; rw [if_pos hE2]
          rw [hHV] at hh
          have hca := carried0 _ _ _ _ _ _ _ _ _ _ _ _ _ _ _ _ _ _ _ _ _ _ _ hh
          rw [if_neg (by simp [hE2])]
          have hfl : outT l cv A.t k = [befT A.t l, [A], (midT l (latT A.t l) A.t (clN k A.h cv)).map (hgt A.t A.h cv (clN k A.h cv))].flatten := by rw [hO]; simp
          have hlen : (outT l cv A.t k).length ≤ 1000 := by
            rw [hO, List.length_append, List.length_cons, List.length_map]
            omega
          have hcc := concat_fn [befT A.t l, [A], (midT l (latT A.t l) A.t (clN k A.h cv)).map (hgt A.t A.h cv (clN k A.h cv))] (by rw [← hfl]; omega) (by simp)
          rw [← hfl] at hcc
          have hf := flat_tube (outT l cv A.t k)
          generalize outT l cv A.t k = O at *
          generalize (midT l (latT A.t l) A.t (clN k A.h cv)).map (hgt A.t A.h cv (clN k A.h cv)) = M at *
          refine ⟨by simp, by simp, fun h => absurd h (by simp), fun _ => ⟨_, hca, by simp, by simp, fun h => absurd h (by simp), fun _ => ⟨by simp, fun h => absurd h (by simp), fun _ => ⟨tube O, hcc, by simp, by simp, fun h => ?_, fun h => ?_⟩⟩⟩⟩
          · have h : 64 < O.length := by simp at h; omega
            rw [if_pos h]
            simp
          · have h : ¬ 64 < O.length := by simp at h; omega
            rw [if_neg h]
            exact ⟨hf, .lit _, rfl⟩
        · have hHV : hgtV k A cv l (latT A.t l) = .tup [tube [], .int (clE2 k A.h cv)] := by unfold hgtV; rw [if_neg hE2]; rfl
          rw [hHV] at hh
          have hca := carried0 _ _ _ _ _ _ _ _ _ _ _ _ _ _ _ _ _ _ _ _ _ [] _ hh
          rw [if_pos hE2]
          refine ⟨by simp, by simp, fun h => absurd h (by simp), fun _ => ⟨_, hca, by simp, by simp, fun _ => by simp, fun h => absurd h (by simp [hE2])⟩⟩
    · have htv : tatV l a = .tup [nd nd0, .int (tatE l a)] := by unfold tatV; rw [if_neg hE]
      rw [htv] at hta
      have hV : ofV l c a k fix = .tup [.sl 6 [], .int (tatE l a)] := by unfold ofV; rw [hOE, if_pos hE]
      rw [hV]
      refine ⟨by simp, _, hta, by simp [encN], by simp, by simp, fun h => by simp, fun h => absurd h (by simp [hE])⟩
end Go.Proofs.YtocgoabplafoeaaDoor
