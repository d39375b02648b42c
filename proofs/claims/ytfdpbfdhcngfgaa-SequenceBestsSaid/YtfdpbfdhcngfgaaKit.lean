/- The words of this seat's contracts: a world that has grown ('xt w z'), a call that returns a value and touches nothing that lay there ('Ret'), and the rules by which a walk reads through them. -/
import Derived.Test.YtfdpbfdhcngfgaaRows
import Derived.WalkKit
import Derived.ProofKit
import Derived.OpenShut
import Derived.WalkSpells
import Derived.WalkLawsBesides
import Derived.BigQuiet
import Derived.Lib.Hide
namespace Go.Proofs.Ytfdpbfdhcngfgaa
open Go.ChangeShapes Go.WideShapes Go.ChangeAt Go.RowKit

/-- What a call has added: its new blocks, and how many draws there are in all. -/
structure More where
  blocks : Array Obj
  draws : Nat

instance : Inhabited More := ⟨⟨#[], 0⟩⟩

/-- The world w, grown. -/
def xt (w : World) (z : More) : World := { w with heap := w.heap ++ z.blocks, drawn := z.draws }
def cellNew (w : World) (a : Addr) : Option Value := w.cell? a
def frozenNew (w : World) (a : Addr) : Bool := w.frozen? a
def setNew (w : World) (a : Addr) (v : Value) : World := w.setCell a v

@[simp] theorem xt_size (w : World) (z : More) : (xt w z).heap.size = w.heap.size + z.blocks.size := by simp [xt]
theorem xt_heap (w : World) (z : More) (k : Nat) (h : k < w.heap.size) : (xt w z).heap[k]? = w.heap[k]? := by simp [xt, Array.getElem?_append, h]
theorem xt_below (w : World) (z : More) : Below w.heap.size w (xt w z) := ⟨rfl, rfl, rfl, by simp, fun k hk => xt_heap w z k hk⟩
theorem xt_cell (w : World) (z : More) (b o : Nat) : (xt w z).cell? ⟨b, o, none⟩ = if b < w.heap.size then w.cell? ⟨b, o, none⟩ else cellNew (xt w z) ⟨b, o, none⟩ := by
  split
  · rename_i h; exact (xt_below w z).cell (p := ⟨b, o, none⟩) h
  · rfl
theorem xt_frozen (w : World) (z : More) (b o : Nat) : (xt w z).frozen? ⟨b, o, none⟩ = if b < w.heap.size then w.frozen? ⟨b, o, none⟩ else frozenNew (xt w z) ⟨b, o, none⟩ := by
  split
  · rename_i h; exact (xt_below w z).frozen (p := ⟨b, o, none⟩) h
  · rfl
theorem xt_setCell (w : World) (z : More) (b o : Nat) (v : Value) : (xt w z).setCell ⟨b, o, none⟩ v = if b < w.heap.size then xt (w.setCell ⟨b, o, none⟩ v) z else setNew (xt w z) ⟨b, o, none⟩ v := by
  split
  · rename_i h
    unfold xt World.setCell
    congr 1
    apply Array.ext_getElem?
    intro k
    simp only [Array.getElem?_modify, Array.getElem?_append, Array.size_modify]
    by_cases hk : k < w.heap.size
    · simp [hk]
    · have : b ≠ k := by omega
      simp [hk, this]
  · rfl
theorem xt_drew (w : World) (z : More) : xt w.drew z = xt w z := rfl
theorem xt_drewN (w : World) (n : Nat) (z : More) : xt (w.drewN n) z = xt w z := rfl
theorem cell_alloc_ite (w : World) (c : Array Value) (t : TypeId) (n i : Nat) : (w.alloc (.cells c t)).cell? ⟨n, i, none⟩ = if n = w.heap.size then c[i]? else w.cell? ⟨n, i, none⟩ := by
  split
  · rename_i h; exact World.cell?_alloc_at c t n i h
  · rename_i h
    rcases Nat.lt_or_ge n w.heap.size with hl | hl
    · exact World.cell?_alloc_past _ n i hl
    · have h1 : (w.alloc (.cells c t)).heap[n]? = none := by
        show (w.heap.push _)[n]? = none
        rw [Array.getElem?_push, if_neg h]; exact Array.getElem?_eq_none hl
      have h2 : w.heap[n]? = none := Array.getElem?_eq_none hl
      simp [World.cell?, h1, h2]
theorem frozen_alloc_ite (w : World) (c : Array Value) (t : TypeId) (n i : Nat) : (w.alloc (.cells c t)).frozen? ⟨n, i, none⟩ = if n = w.heap.size then false else w.frozen? ⟨n, i, none⟩ := by
  split
  · rename_i h; exact World.frozen?_alloc_at c t n i h
  · rename_i h
    exact World.frozen?_alloc_old w _ ⟨n, i, none⟩ h
theorem setCell_alloc_ite (w : World) (c : Array Value) (t : TypeId) (n i : Nat) (v : Value) : (w.alloc (.cells c t)).setCell ⟨n, i, none⟩ v = if n = w.heap.size then w.alloc (.cells (c.setIfInBounds i v) t) else (w.setCell ⟨n, i, none⟩ v).alloc (.cells c t) := by
  split
  · rename_i h; exact World.setCell_alloc_at c t n i v h
  · rename_i h
    unfold World.setCell World.alloc
    congr 1
    apply Array.ext_getElem?
    intro k
    simp only [Array.getElem?_modify, Array.getElem?_push, Array.size_modify]
    by_cases hk : k = w.heap.size
    · subst hk
      simp [h]
    · simp [hk]

/-- It returns v, and has touched nothing that lay there. -/
def Ret (v : Value) (w : World) (e : Ending) (w' : World) : Prop := e = .returned v ∧ ∃ z : More, w' = xt w z

theorem ext_of_below {w w' : World} (h : Below w.heap.size w w') : ∃ z : More, w' = xt w z := by
  refine ⟨⟨w'.heap.extract w.heap.size, w'.drawn⟩, ?_⟩
  obtain ⟨heap, tape, drawn, os, output⟩ := w'
  obtain ⟨h1, h2, h3, h4, h5⟩ := h
  simp only at h1 h2 h3 h4 h5
  unfold xt
  subst h1 h2 h3
  congr 1
  apply Array.ext_getElem?
  intro k
  rw [Array.getElem?_append]
  by_cases hk : k < w.heap.size
  · rw [if_pos hk]; exact h5 k hk
  · rw [if_neg hk]
    simp only [Array.getElem?_extract]
    by_cases hk2 : k < heap.size
    · rw [if_pos (by omega)]
      congr 1; omega
    · rw [if_neg (by omega)]
      exact Array.getElem?_eq_none (by omega)
theorem Ret.below {v : Value} {w : World} {e : Ending} {w' : World} (h : Ret v w e w') : Below w.heap.size w w' := by
  obtain ⟨_, z, rfl⟩ := h; exact xt_below w z
theorem below_xt {B : Nat} {a w : World} (h : Below B a w) (hB : B ≤ w.heap.size) (z : More) : Below B a (xt w z) := h.trans ((xt_below w z).mono hB)
theorem below_setNew {B : Nat} {a w : World} (h : Below B a w) {p : Addr} (hp : B ≤ p.block) (u : Value) : Below B a (setNew w p u) := h.setCell hp u
theorem below_drewN {B : Nat} {a w : World} (h : Below B a w) (n : Nat) : Below B a (w.drewN n) := ⟨h.os, h.tape, h.output, h.size, h.block⟩
theorem ret_mk {v u : Value} {w w' : World} (hv : u = v) (h : Below w.heap.size w w') : Ret v w (.returned u) w' := ⟨by rw [hv], ext_of_below h⟩
theorem fin {P : Program} {fn : Func} {a : Act} {v : Value} {w w' : World} (hr : (results fn a.tmps).run P w' = .ok v w') (hd : a.defers = []) (hb : Below w.heap.size w w') : bodyPost P fn (Ret v w) .ret a w' :=
  bodyPost_ret hr hd ⟨rfl, ext_of_below hb⟩
theorem fin2 {P : Program} {fn : Func} {a : Act} {u v : Value} {w w' : World} (hr : (results fn a.tmps).run P w' = .ok u w') (hv : u = v) (hd : a.defers = []) (hb : Below w.heap.size w w') : bodyPost P fn (Ret v w) .ret a w' :=
  bodyPost_ret hr hd ⟨by rw [hv], ext_of_below hb⟩

/-- A region that draws its order, whose operations read what lay there and whose calls return values and touch nothing: one walk of the text's order. -/
theorem wp_region_ext {P : Program} {id : Nat} {Q : Exit → Act → World → Prop} {a : Act} {w : World} {l : List Oper} (hm : P.follows .mixedOrders = true) (hB : Region.lexB .any l.toArray = true)
    (h : wpQuiet P l.toArray (fun w' => ∃ z : More, w' = xt w z) (fun a' => ∀ w', (∃ z : More, w' = xt w z) → Q .normal a' w') l a) : (Code.region id l.toArray true).wp P Q a w :=
  wp_region_quiet (C := fun w' => ∃ z : More, w' = xt w z) hm hB (ext_of_below (Below.refl _ _).drew) (by simpa using h)

theorem quiet_ext {P : Program} {f : FuncId} {args : Array Value} {w : World} {z : More} {v : Value} (h : Calls P f args (xt w z) (Ret v (xt w z))) :
    Calls P f args (xt w z) fun e w'' => e = .returned v ∧ ∃ z : More, w'' = xt w z :=
  h.mono fun e w' hr => ⟨hr.1, ext_of_below (below_xt (Below.refl _ _) (Nat.le_refl _) z |>.trans (hr.below.mono (by rw [xt_size]; omega)))⟩

/-- The arguments read behind the call as they did. -/
theorem trodAll_below {H : Type} {enc : TypeId × Value → H} {P : Program} (hl : laidOutB P = true) {W W' : World} (hb : Below W.heap.size W W') :
    ∀ (ts : List TypeId) (vs : List Value) (ds : List (DataW H)) (p : List MemPlace), (∀ t ∈ ts, P.readableRec t = true ∧ t < P.types.size) →
      DataW.TrodAll enc P W 0 (fun _ => true) true ts vs ds p → DataW.TrodAll enc P W' 0 (fun b => decide (b < W.heap.size)) true ts vs ds p
  | [], [], [], _, _, h => h
  | t :: ts, v :: vs, d :: ds, ps, ht, h => by
    obtain ⟨p, q, h1, h2, rfl⟩ := h
    have lt1 : ∀ x ∈ p, x.block < W.heap.size := by obtain ⟨m, hm⟩ := h1; exact DataW.trod_lt m _ _ _ hm
    exact ⟨p, q, Below.trod hl (ht t (by simp)).1 (ht t (by simp)).2 h1 hb lt1, trodAll_below hl hb ts vs ds q (fun u hu => ht u (by simp [hu])) h2, rfl⟩
  | [], [], _ :: _, _, _, h => h.elim
  | [], _ :: _, _, _, _, h => h.elim
  | _ :: _, [], _, _, _, h => h.elim
  | _ :: _, _ :: _, [], _, _, h => h.elim

/-- A law's last step: it returned true and touched nothing that lay there. -/
theorem law_post {H : Type} {enc : TypeId × Value → H} {P : Program} {f : Func} {s : ChangeSpec} {W W' : World} {args : Array Value} {ds gs : List (DataW H)} {before : List MemPlace} {tb : TypeId}
    (hl : laidOutB P = true) (hts : ∀ t ∈ f.params.toList, P.readableRec t = true ∧ t < P.types.size) (hres : f.resultTypes = #[tb]) (htb : P.underlying tb = some .bool) (hv : s.vars = [])
    (hW : DataW.Whole enc P f.params.toList s.vars false W args.toList ds gs before) (h1 : (s.fn H (ds ++ gs)).results = [.lit (.bool true)]) (h2 : (s.fn H (ds ++ gs)).args = ds) (h3 : (s.fn H (ds ++ gs)).vars = [])
    (bel : Below W.heap.size W W') : s.post enc P f false true false false W args (.bool true) W' := by
  have hW' := hW
  obtain ⟨p, q, hA, hV, rfl, hfz, hnd⟩ := hW
  refine ⟨ds, gs, p ++ q, [], p, [], hW', ?_, ?_, ?_, bel.frame _, fun h => by cases h⟩
  · rw [h1, hres]
    exact trodAll_mk1 (shut_bool htb _)
  · rw [h2]
    exact trodAll_below hl bel _ _ _ _ hts hA
  · rw [h3, hv]; exact rfl

end Go.Proofs.Ytfdpbfdhcngfgaa
