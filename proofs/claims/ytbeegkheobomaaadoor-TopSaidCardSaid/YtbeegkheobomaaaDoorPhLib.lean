/- strconv.Itoa, strconv.Atoi and strings.Split, out of the shelf. -/
import Derived.Test.YtbeegkheobomaaaDoorShelfLay
import Derived.Shelf.Strconv.Itoa3
import Derived.Shelf.Strconv.Atoi
import Derived.Shelf.Strings.Split
import Derived.Test.YtbeegkheobomaaaDoorLst
import Derived.Test.YtbeegkheobomaaaDoorOpen
import Derived.Test.YtbeegkheobomaaaDoorRb
namespace Go.Proofs.YtbeegkheobomaaaDoor
open Go.RowKit
set_option linter.unusedVariables false
set_option linter.unusedSimpArgs false
set_option maxRecDepth 100000
theorem args_one {w : World} {ok : Nat → Prop} {u : Value} {cargs : Array Value} (hsz : cargs.size = 1) (h : RV w ok (.lit u) (cargs.getD 0 undef)) : cargs = #[u] := by
  have := RV.lit_iff.1 h
  apply Array.ext
  · exact hsz
  · intro i h1 h2
    obtain rfl : i = 0 := by simp at h2; omega
    rw [Array.getD_eq_getD_getElem?, Array.getElem?_eq_getElem h1] at this
    exact this
theorem args_two {w : World} {ok : Nat → Prop} {u v : Value} {cargs : Array Value} (hsz : cargs.size = 2) (h : RV w ok (.lit u) (cargs.getD 0 undef)) (h' : RV w ok (.lit v) (cargs.getD 1 undef)) : cargs = #[u, v] := by
  have e1 := RV.lit_iff.1 h
  have e2 := RV.lit_iff.1 h'
  apply Array.ext
  · exact hsz
  · intro i h1 h2
    have : i = 0 ∨ i = 1 := by simp at h2; omega
    rcases this with rfl | rfl
    · rw [Array.getD_eq_getD_getElem?, Array.getElem?_eq_getElem h1] at e1
      exact e1
    · rw [Array.getD_eq_getD_getElem?, Array.getElem?_eq_getElem h1] at e2
      exact e2
theorem grow_below (w : World) (k : Nat) (os : Array Obj) : Below w.heap.size w (Sort.grow (w.drewN k) os) :=
  ⟨rfl, rfl, rfl, by show w.heap.size ≤ (w.heap ++ os).size; rw [Array.size_append]; omega, fun j hj => by
    show (w.heap ++ os)[j]? = _
    rw [Array.getElem?_append_left hj]⟩
theorem apart_sc {v : Value} {sh : Sh} (h : ∀ j i, isRow (leafSh j i sh) = false) : RowsApart v sh := fun j i j' i' hr => by rw [h] at hr; cases hr
def itoaS (n : Int) : ByteArray := ⟨(Lib.itoa n).toArray⟩
theorem itoa_fn (n : Int) (h0 : -9223372036854775808 ≤ n) (h1 : n ≤ 9223372036854775807) : Fn Tryd.prog 31 [.int n] .sc (.string (itoaS n)) := by
  refine ⟨Tryd.call31, fun w ok cargs hok hgl hsz hargs => ?_⟩
  obtain rfl := args_one hsz (hargs 0 (by simp))
  have htab : Lib.TabIs Tryd.prog w "internal/strconv.uint64pow10" .u64 Lib.pow10Tab := by
    obtain ⟨_, _, _, x, y, hb⟩ := hgl.1 (5, _) (.tail _ (.tail _ (.head _)))
    show (Tryd.prog.globalNamed "internal/strconv.uint64pow10").bind _ = _
    rw [show Tryd.prog.globalNamed "internal/strconv.uint64pow10" = some 5 by kernel_rfl, Option.bind_some, hb]
    exact congrArg (fun l : List Value => some l.toArray) (by kernel_rfl)
  refine (Any.strconv_Itoa lays171 n h0 h1 w htab).mono ?_
  rintro e w' ⟨rfl, k, os, rfl⟩
  exact ⟨_, rfl, grow_below w k os, .lit _, apart_sc (fun j i => by cases j <;> cases i <;> rfl), Nat.le_add_right _ _⟩
theorem bw_below (w : World) (e : TypeId) (s : ByteArray) : Below w.heap.size w (Lib.bytesWorld w e s) :=
  ⟨rfl, rfl, rfl, by rw [Lib.bytesWorld_size]; omega, fun j hj => Lib.bytesWorld_at_old w e s j hj⟩
theorem atoi_fn {s : ByteArray} {n : Int} (hl : s.size ≤ 18) (h : Lib.atoi s.data.toList = some n) : Fn Tryd.prog 40 [.string s] (.tup [.sc, .sc]) (.tup [.int n, .lit .nilIface]) := by
  refine ⟨Tryd.call40, fun w ok cargs hok hgl hsz hargs => ?_⟩
  obtain rfl := args_one hsz (hargs 0 (by simp))
  refine (Any.strconv_Atoi lays172 s n hl h w).mono ?_
  rintro e w' ⟨rfl, t, rfl⟩
  refine ⟨_, rfl, bw_below w _ t, ⟨_, rfl, rfl, ⟨_, rfl, rfl⟩, fun i hi => ?_⟩, apart_sc (fun j i => ?_), Nat.le_succ _⟩
  · have : i = 0 ∨ i = 1 := by simp at hi; omega
    rcases this with rfl | rfl <;> exact .lit _
  · rcases j with _ | _ | j <;> cases i <;> rfl
def parts (s : ByteArray) : List ByteArray := Lib.splitB ⟨#[32]⟩ 0 (Lib.countB s ⟨#[32]⟩) s
theorem split_fn {s : ByteArray} (hs : s.size ≤ 120) : Fn Tryd.prog 25 [.string s, .string ⟨#[32]⟩] (.row 9 1 true) (lst 1 encS (parts s)) := by
  refine ⟨Tryd.call25, fun w ok cargs hok hgl hsz hargs => ?_⟩
  obtain rfl := args_two hsz (hargs 0 (by simp)) (hargs 1 (by simp))
  obtain ⟨_, m, hm⟩ := hgl.2 2 (.head _)
  refine (Any.strings_Split lays146 (by kernel_rfl) s ⟨#[32]⟩ m w (by omega) hm (by decide)).mono ?_
  rintro e w' ⟨rfl, rfl⟩
  have hcnt : (parts s).length = Lib.countB s ⟨#[32]⟩ + 1 := Lib.splitB_all _ (by decide) 0 _ s rfl
  have hle : Lib.countB s ⟨#[32]⟩ ≤ s.size := Lib.countB_le _ (by decide) s.size s (Nat.le_refl _)
  refine ⟨_, rfl, ⟨rfl, rfl, rfl, by show w.heap.size ≤ (w.heap.push _).size; rw [Array.size_push]; omega, fun j hj => by show (w.heap.push _)[j]? = _; rw [Array.getElem?_push_lt hj, Array.getElem?_eq_getElem hj]⟩, ?_, fun j i j' i' hr hr' hne => ?_, Nat.le_refl _⟩
  · refine ⟨(parts s).map encS, (parts s).map Value.string, rfl, by decide, fun y hy => ?_, ⟨by simp, .inr ⟨w.heap.size, Lib.countB s ⟨#[32]⟩ + 1, ((parts s).map Value.string).toArray, by rw [List.length_map, hcnt], Nat.le_refl _, by show (w.heap.push _)[w.heap.size]? = _; rw [Array.getElem?_push_size]; rfl, by simp [hcnt], by unfold maxLen; omega, by rw [List.size_toArray, List.length_map, hcnt]; omega, by simp; exact List.take_of_length_le (by simp)⟩⟩, fun u hu => ?_, fun i j hi hj => ?_⟩
    · obtain ⟨x, _, rfl⟩ := List.mem_map.1 hy; rfl
    · obtain ⟨x, _, rfl⟩ := List.mem_map.1 hu; rfl
    · obtain rfl : j = 0 := by omega
      have hi' : i < (parts s).length := by simpa using hi
      simp [gt2, hi', encS]
      exact .lit _
  · have hz : ∀ j i, isRow (leafSh j i (Sh.row 9 1 true)) = true → j = 0 ∧ i = 0 := fun j i h => by
      rcases j with _ | j <;> rcases i with _ | i <;> first | exact ⟨rfl, rfl⟩ | (exfalso; cases h)
    have q1 := hz _ _ hr
    have q2 := hz _ _ hr'
    omega
end Go.Proofs.YtbeegkheobomaaaDoor
