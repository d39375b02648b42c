/- Plain values: what a run of a function is reckoned over ('AV'), and how such a value lies in a world ('RV'). -/
import Derived.Test.YtfdpbfdhcngfgaaKit
import Derived.Maps.AppendAt
import Derived.OwnWalk
import Derived.Laws.Rows
import Derived.RangeFuncLeaves
import Derived.RangeFuncRecord
import Derived.RangeFuncGives
import Derived.RangeFuncOwn
namespace Go.Proofs.Ytfdpbfdhcngfgaa
open Go.RowKit

/-- A plain value: a value that holds no memory; a slice, by its elements' cells; a struct or an array, by its cells; several results; the address of cells; a function with what it captures. -/
inductive AV where
  | lit (v : Value)
  | sl (s : Nat) (L : List (List AV))
  | agg (cs : List AV)
  | tup (vs : List AV)
  | ref (cs : List AV)
  | clo (f : FuncId) (cs : List AV)

instance : Inhabited AV := ⟨.lit undef⟩

/-- Cell j of element i. -/
def gt2 (L : List (List AV)) (i j : Nat) : AV := (L.getD i []).getD j default

/-- The value v of the world w is the plain value; its memory lies in blocks of which 'ok' holds. -/
inductive RV (w : World) (ok : Nat → Prop) : AV → Value → Prop
  | lit (v : Value) : RV w ok (.lit v) v
  | sl (s : Nat) (L : List (List AV)) (A : Option Addr) (n c : Nat) (us : Nat → Nat → Value) (hn : L.length = n) (hnc : n ≤ c) (hc : c ≤ maxLen) (hs : ∀ x ∈ L, x.length = s)
      (hA : 0 < n → ∃ b off, A = some ⟨b, off, none⟩ ∧ ok b ∧ b < w.heap.size ∧ ∀ i j, i < n → j < s → w.cell? ⟨b, off + i * s + j, none⟩ = some (us i j))
      (hone : ∀ i j, i < n → j < s → (us i j).oneCell' = true)
      (hu : ∀ i j, i < n → j < s → RV w ok (gt2 L i j) (us i j)) : RV w ok (.sl s L) (.slice A n c)
  | agg (cs : List AV) (vs : Array Value) (hl : vs.size = cs.length) (h1 : ∀ i, i < cs.length → (vs.getD i undef).oneCell' = true) (h : ∀ i, i < cs.length → RV w ok (cs.getD i default) (vs.getD i undef)) : RV w ok (.agg cs) (.agg vs)
  | tup (cs : List AV) (vs : Array Value) (hl : vs.size = cs.length) (h : ∀ i, i < cs.length → RV w ok (cs.getD i default) (vs.getD i undef)) : RV w ok (.tup cs) (.tuple vs)
  | ref (cs : List AV) (g : Nat) (us : Nat → Value) (hok : ok g) (hg : g < w.heap.size) (hc : ∀ i, i < cs.length → w.cell? ⟨g, i, none⟩ = some (us i)) (h1 : ∀ i, i < cs.length → (us i).oneCell' = true) (h : ∀ i, i < cs.length → RV w ok (cs.getD i default) (us i)) : RV w ok (.ref cs) (.pointer (some ⟨g, 0, none⟩))
  | clo (f : FuncId) (cs : List AV) (vs : Array Value) (hl : vs.size = cs.length) (h : ∀ i, i < cs.length → RV w ok (cs.getD i default) (vs.getD i undef)) : RV w ok (.clo f cs) (.func (.func f) #[] vs)

/-- A value stays what it is where its memory stays what it is. -/
theorem RV.mono {w w' : World} {ok ok' : Nat → Prop} {x : AV} {v : Value} (h : RV w ok x v) (hk : ∀ b, ok b → b < w.heap.size → ok' b ∧ w'.heap[b]? = w.heap[b]?) : RV w' ok' x v := by
  induction h with
  | lit v => exact .lit v
  | sl s L A n c us hn hnc hc hs hA hone hu ih =>
    refine .sl s L A n c us hn hnc hc hs (fun h0 => ?_) hone ih
    obtain ⟨b, off, e, hok, hlt, hcell⟩ := hA h0
    obtain ⟨h1, h2⟩ := hk b hok hlt
    refine ⟨b, off, e, h1, ?_, fun i j hi hj => (World.cell?_of_block (a := ⟨b, off + i * s + j, none⟩) h2).trans (hcell i j hi hj)⟩
    have h3 : w'.heap[b]? = some w.heap[b] := by rw [h2]; exact Array.getElem?_eq_getElem hlt
    exact (Array.getElem?_eq_some_iff.1 h3).1
  | agg cs vs hl h1 h ih => exact .agg cs vs hl h1 ih
  | tup cs vs hl h ih => exact .tup cs vs hl ih
  | ref cs g us hok hg hc h1 h ih =>
    obtain ⟨h2, h3⟩ := hk g hok hg
    refine .ref cs g us h2 ?_ (fun i hi => (World.cell?_of_block (a := ⟨g, i, none⟩) h3).trans (hc i hi)) h1 ih
    have h4 : w'.heap[g]? = some w.heap[g] := by rw [h3]; exact Array.getElem?_eq_getElem hg
    exact (Array.getElem?_eq_some_iff.1 h4).1
  | clo f cs vs hl h ih => exact .clo f cs vs hl ih

theorem RV.lit_iff {w : World} {ok : Nat → Prop} {u v : Value} : RV w ok (.lit u) v ↔ v = u := ⟨fun h => by cases h; rfl, fun h => h ▸ .lit _⟩

/-! ### what is reckoned with plain values -/
/-- The elements of a slice. -/
def AV.els : AV → List (List AV)
  | .sl _ L => L
  | _ => []
def AV.cls : AV → List AV
  | .agg cs => cs
  | _ => []
/-- A number's worth. -/
def AV.num : AV → Int
  | .lit (.int _ n) => n
  | _ => 0
def AV.tru : AV → Bool
  | .lit (.bool b) => b
  | _ => false
def AV.str : AV → ByteArray
  | .lit (.string s) => s
  | _ => ByteArray.empty
def AV.kind : AV → IntKind
  | .lit (.int k _) => k
  | _ => .i64
/-- One cell's worth: no struct, no several results. -/
def AV.one : AV → Bool
  | .lit v => v.oneCell'
  | .sl _ _ => true
  | .ref _ => true
  | .clo _ _ => true
  | _ => false
theorem RV.one {w : World} {ok : Nat → Prop} {x : AV} {v : Value} (h : RV w ok x v) : v.oneCell' = x.one := by cases h <;> rfl
abbrev AV.int (n : Int) : AV := .lit (.int .i64 n)
abbrev AV.bool (b : Bool) : AV := .lit (.bool b)
abbrev AV.string (s : ByteArray) : AV := .lit (.string s)
end Go.Proofs.Ytfdpbfdhcngfgaa
