/- phrase: what is checked. -/
import Derived.Test.YtocgoabplafoeaaGreatDoorRbF
import Derived.Test.YtocgoabplafoeaaGreatDoorName
import Derived.Test.YtocgoabplafoeaaGreatDoorLst
namespace Go.Proofs.YtocgoabplafoeaaGreatDoor
open Go.RowKit
set_option linter.unusedVariables false
set_option linter.unusedSimpArgs false
set_option maxRecDepth 100000
def wds : List ByteArray := [⟨#[72, 69, 73, 71, 72, 84]⟩, ⟨#[72, 69, 65, 68, 73, 78, 71]⟩, ⟨#[83, 80, 69, 69, 68]⟩, ⟨#[68, 73, 82, 69, 67, 84]⟩, ⟨#[72, 79, 76, 68]⟩, ⟨#[67, 79, 78, 84, 65, 67, 84]⟩, ⟨#[76, 65, 78, 68]⟩]
def encS (x : ByteArray) : List AV := [.string x]
theorem wds_ref : AV.refSl (.ref [.lit (.string ⟨#[72, 69, 73, 71, 72, 84]⟩), .lit (.string ⟨#[72, 69, 65, 68, 73, 78, 71]⟩), .lit (.string ⟨#[83, 80, 69, 69, 68]⟩), .lit (.string ⟨#[68, 73, 82, 69, 67, 84]⟩), .lit (.string ⟨#[72, 79, 76, 68]⟩), .lit (.string ⟨#[67, 79, 78, 84, 65, 67, 84]⟩), .lit (.string ⟨#[76, 65, 78, 68]⟩)]) = lst 1 encS wds := rfl
theorem wds_isref : AV.isRef (.ref [.lit (.string ⟨#[72, 69, 73, 71, 72, 84]⟩), .lit (.string ⟨#[72, 69, 65, 68, 73, 78, 71]⟩), .lit (.string ⟨#[83, 80, 69, 69, 68]⟩), .lit (.string ⟨#[68, 73, 82, 69, 67, 84]⟩), .lit (.string ⟨#[72, 79, 76, 68]⟩), .lit (.string ⟨#[67, 79, 78, 84, 65, 67, 84]⟩), .lit (.string ⟨#[76, 65, 78, 68]⟩)]) 7 := ⟨_, rfl, rfl⟩
theorem wds_sl : AV.sl 1 [[.lit (.string ⟨#[72, 69, 73, 71, 72, 84]⟩)], [.lit (.string ⟨#[72, 69, 65, 68, 73, 78, 71]⟩)], [.lit (.string ⟨#[83, 80, 69, 69, 68]⟩)], [.lit (.string ⟨#[68, 73, 82, 69, 67, 84]⟩)], [.lit (.string ⟨#[72, 79, 76, 68]⟩)], [.lit (.string ⟨#[67, 79, 78, 84, 65, 67, 84]⟩)], [.lit (.string ⟨#[76, 65, 78, 68]⟩)]] = lst 1 encS wds := rfl
theorem wds_len : wds.length = 7 := rfl
def isW (s w : ByteArray) : Bool := decide (s = w)
def kindI (s : ByteArray) : Int := idxN (isW s) 0 wds
theorem kind_fn (s : ByteArray) : Fn Tryz.prog 51 [.string s] .sc (.int (kindI s)) := by
  refine fn_run mixed 3 (Γ := RbF.Γ) (ann := RbF.ann) Tryz.func51 rfl Tryz.call51 ((RbF.kind_form _ _).mpr ?_)
  have e1 : Ent Tryz.prog 65 := Tryz.call65
  simp only [av_mkRef, wds_ref]
  refine ⟨wds_isref, e1, fun _ => ?_⟩
  simp
  refine loop_list (σ := Unit) wds (fun n _ => [.int (n : Nat)]) (fun k rest _ => kindI s = idxN (isW s) k rest) () rfl rfl ?_ ?_
  · rintro k x rest _ K hx hr hn hg hK
    rw [wds_len] at hn
    have hw2 : IntKind.i64.wrap ((k : Int) + 1) = (k : Int) + 1 := wrap64 (by omega) (by omega)
    simp [wds_len, show (k : Int) < 7 by omega, lst_at hx, encS, hw2]
    rw [idxN] at hg
    exact ⟨fun h => by rw [hg, if_pos (by simpa [isW] using h)], fun h => hK _ () (by simp) (by rw [hg, if_neg (by simpa [isW] using h)])⟩
  · intro _ K hg
    simp [hg, idxN]
def frS (s : ByteArray) : Bool := isName s && decide (kindI s < 0)
theorem pname_fn (s : ByteArray) : Fn Tryz.prog 33 [.string s] .sc (.bool (frS s)) := by
  refine fn_run mixed 3 (Γ := RbF.Γ) (ann := RbF.ann) Tryz.func33 rfl Tryz.call33 ((RbF.name_form _ _).mpr ?_)
  refine ⟨_, name_fn s, ?_⟩
  simp
  refine ⟨fun h => ⟨_, kind_fn s, ?_⟩, fun h => ?_⟩
  · simp [frS, h]
  · simp [frS, h]
/-- A clearance. -/
structure Cl where
  c : ByteArray
  k : Int
  v : Int
  f : ByteArray
  deriving DecidableEq, Inhabited
def encL (x : Cl) : List AV := [.string x.c, .int x.k, .int x.v, .string x.f]
abbrev cl (x : Cl) : AV := .agg (encL x)
abbrev cls (l : List Cl) : AV := lst 4 encL l
def mostI (k : Int) : Int := if k = 0 then 60000 else if k = 1 then 4095 else 400
def clE (x : Cl) : Int := if frS x.c = false then 3 else if x.k < 0 ∨ x.k > 6 then 1 else if x.k > 2 then (if x.v ≠ 0 ∨ frS x.f = false then 3 else 0) else if x.f ≠ ⟨#[]⟩ then 3 else if x.v < 0 ∨ x.v > mostI x.k then 4 else 0
theorem pcheck_fn (x : Cl) : Fn Tryz.prog 22 [cl x] .sc (.int (clE x)) := by
  refine fn_run mixed 3 (Γ := RbF.Γ) (ann := RbF.ann) Tryz.func22 rfl Tryz.call22 ((RbF.check_form _ _).mpr ?_)
  obtain ⟨c, k, v, f⟩ := x
  refine ⟨by simp [encL], _, pname_fn c, ?_⟩
  simp [encL]
  refine ⟨fun h => by simp [clE, h], fun h => ?_⟩
  have hc : clE ⟨c, k, v, f⟩ = if k < 0 ∨ k > 6 then 1 else if k > 2 then (if v ≠ 0 ∨ frS f = false then 3 else 0) else if f ≠ ⟨#[]⟩ then 3 else if v < 0 ∨ v > mostI k then 4 else 0 := by simp [clE, h]
  rw [hc]
  refine ⟨fun h1 => ⟨h1, by rw [if_pos (.inl h1)]⟩, fun h1 => ⟨h1, fun h2 => by rw [if_pos (.inr h2)], fun h2 => ?_⟩⟩
  rw [if_neg (by omega)]
  refine ⟨fun h3 => ?_, fun h3 => ?_⟩
  · rw [if_pos h3]
    refine ⟨fun h4 => ⟨h4, by simp [h4]⟩, fun h4 => ⟨_, pname_fn f, ?_⟩⟩
    simp [h4]
  · rw [if_neg (by omega)]
    refine ⟨fun h4 => by rw [if_pos h4], fun h4 => ?_⟩
    rw [if_neg (by simp [h4])]
    have hk : k = 0 ∨ k = 1 ∨ k = 2 := by omega
    refine ⟨fun h5 => ⟨h5, by rw [if_pos (.inl h5)]⟩, fun h5 => ?_⟩
    rcases hk with rfl | rfl | rfl
    all_goals
      simp [AV.inl, AV.refOk, AV.refNth, AV.rcs, AV.off, mostI, h5]
end Go.Proofs.YtocgoabplafoeaaGreatDoor
