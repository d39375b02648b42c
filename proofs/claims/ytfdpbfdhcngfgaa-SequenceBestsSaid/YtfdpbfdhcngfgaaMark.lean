/- A state of the run, carried to another world in which its cells lie as they lay. -/
import Derived.Test.YtfdpbfdhcngfgaaHold
import Derived.DefersIn
namespace Go.Proofs.Ytfdpbfdhcngfgaa
open Go.RowKit
set_option linter.unusedVariables false
/-- All cells lie as they lay. -/
structure Kc (w w' : World) : Prop where
  size : w.heap.size ≤ w'.heap.size
  same : ∀ (k : Nat) (o : Obj), w.heap[k]? = some o → o.isCells = true → w'.heap[k]? = some o
theorem Kc.refl (w : World) : Kc w w := ⟨Nat.le_refl _, fun _ _ h _ => h⟩
theorem Kc.trans {a b c : World} (h : Kc a b) (k : Kc b c) : Kc a c := ⟨Nat.le_trans h.size k.size, fun i o hi ho => k.same i o (h.same i o hi ho) ho⟩
theorem Kc.below {w w' : World} (h : Below w.heap.size w w') : Kc w w' := ⟨h.size, fun k o hk _ => (h.block k (Array.getElem?_eq_some_iff.1 hk).1).trans hk⟩
theorem Kc.alloc (w : World) (o : Obj) : Kc w (w.alloc o) := Kc.below ((Below.refl _ w).alloc (Nat.le_refl _) o)
theorem Kc.putObj {w : World} {D : Nat} {o : Obj} (o' : Obj) (h : w.heap[D]? = some o) (ho : o.isCells = false) : Kc w (w.putObj D o') :=
  ⟨by simp, fun k o2 hk h2 => (World.putObj_heap_other (fun e => by rw [e, h] at hk; injection hk with hk; rw [← hk, ho] at h2; cases h2)).trans hk⟩
section
variable {w w' : World} {ok : Nat → Prop}
theorem Kc.cell (h : Kc w w') {a : Addr} {v : Value} (hc : w.cell? a = some v) : w'.cell? a = some v := by
  obtain ⟨o, ho, hi⟩ := cells_of_cell hc
  exact (World.cell?_of_block ((h.same _ _ ho hi).trans ho.symm)).trans hc
theorem RV.kc (hk : Kc w w') {x : AV} {v : Value} (h : RV w ok x v) : RV w' ok x v := by
  induction h with
  | lit v => exact .lit v
  | sl s L A n c us hn hnc hc hs hA hone hu ih =>
    refine .sl s L A n c us hn hnc hc hs (fun h0 => ?_) hone ih
    obtain ⟨b, off, e, hok, hlt, hcell⟩ := hA h0
    exact ⟨b, off, e, hok, Nat.lt_of_lt_of_le hlt hk.size, fun i j hi hj => hk.cell (hcell i j hi hj)⟩
  | agg cs vs hl h1 h ih => exact .agg cs vs hl h1 ih
  | tup cs vs hl h ih => exact .tup cs vs hl ih
  | ref cs g us hok hg hc h1 h ih => exact .ref cs g us hok (Nat.lt_of_lt_of_le hg hk.size) (fun i hi => hk.cell (hc i hi)) h1 ih
  | clo f cs vs hl h ih => exact .clo f cs vs hl ih
variable {ρ : Nat → Value} {blk : Nat → DB} {isd : Nat → Prop}
theorem RD.kc (hk : Kc w w') {d : DE} {v : Value} (h : RD w ok ρ blk isd d v) : RD w' ok ρ blk isd d v := by
  induction h with
  | any v => exact .any v
  | v x v h => exact .v x v (h.kc hk)
  | c v => exact .c v
  | nil => exact .nil
  | ptr b o g h => exact .ptr b o g h
  | row b n v hn h1' h => exact .row b n v hn h1' h
  | rp b n s i j v hn h1' h => exact .rp b n s i j v hn h1' h
  | ip x i s j g off m c hx h hi => exact .ip x i s j g off m c hx (h.kc hk) hi
  | sp b o ix g h => exact .sp b o ix g h
  | rt b n s l v hn h1' h => exact .rt b n s l v hn h1' h
  | gp x m o ix g hx h => exact .gp x m o ix g hx (h.kc hk)
  | agg cs vs hl h1' h ih => exact .agg cs vs hl h1' ih
  | tup cs vs hl h ih => exact .tup cs vs hl ih
  | fn f cs vs hl h ih => exact .fn f cs vs hl ih
theorem RRow.kc (hk : Kc w w') {B e s : Nat} {r : AV} {v : Value} (h : RRow w B e s ok r v) : RRow w' B e s ok r v := by
  obtain ⟨L, xs, e1, hs, hL, ho, hone, hv⟩ := h
  refine ⟨L, xs, e1, hs, hL, ⟨ho.1, ?_⟩, hone, fun i j hi hj => (hv i j hi hj).kc hk⟩
  rcases ho.2 with h2 | ⟨g, cap, cur, e, hb, hg, r⟩
  · exact .inl h2
  · exact .inr ⟨g, cap, cur, e, hb, hk.same _ _ hg rfl, r⟩
theorem RB.kc (hk : Kc w w') {base b : Nat} {d : DB} (h : RB w ok ρ blk isd base b d) : RB w' ok ρ blk isd base b d := by
  cases d with
  | dead => exact h
  | cells t cs =>
    obtain ⟨g, vs, e, h1, h2, h3, h4, h5⟩ := h
    exact ⟨g, vs, e, h1, hk.same _ _ h2 rfl, h3, h4, fun i hi => (h5 i hi).kc hk⟩
  | row e s n x => exact ⟨h.1, h.2.kc hk⟩
  | fz n x => exact ⟨h.1, h.2.1.kc hk, h.2.2⟩
  | sv ds vs => exact ⟨h.1, h.2.1, fun t => (h.2.2 t).kc hk⟩
end
section
variable {base : Nat} {w0 w0' w w' : World} {ok0 isd : Nat → Prop} {tm : List DE} {blk : Nat → DB} {ρ : Nat → Value} {a : Act}
/-- The known variables, in a later world. -/
theorem Gl.later (h : Gl base w ok0) (hb : Below base w w') : Gl base w' ok0 :=
  ⟨fun p hp => by
    obtain ⟨h1, h2, h3, x, y, h4⟩ := h.1 p hp
    refine ⟨h1, h2, fun i hi => ⟨?_, (h3 i hi).2⟩, x, y, (hb.block _ h1).trans h4⟩
    rw [← (h3 i hi).1]
    exact World.cell?_of_block (hb.block p.1 h1), fun g hg => by
    obtain ⟨h1, m, h2⟩ := h.2 g hg
    exact ⟨h1, m, by rw [← h2]; exact World.cell?_of_block (hb.block g h1)⟩⟩
/-- **The state, in another world, told from another one on.** -/
theorem HR.conv (h : HR base w0 ok0 isd tm blk ρ a w) (hk : Kc w w') {ds : List Deferred} (gl : Gl base w0' ok0) (bel : Below base w0' w') (nod : NoD base w0' w' ds) (drw : w0'.drawn ≤ w'.drawn) : HR base w0' ok0 isd tm blk ρ { tmps := a.tmps, defers := ds } w' :=
  ⟨fun t => (h.tms t).kc hk, fun b => (h.blks b).kc hk, h.inj, h.frs, h.size, nod, bel, Nat.le_trans h.low hk.size, drw, gl⟩
/-- Told anew from here on. -/
theorem HR.fresh (h : HR base w0 ok0 isd tm blk ρ a w) : HR base w ok0 isd tm blk ρ { tmps := a.tmps, defers := [] } w :=
  h.conv (Kc.refl w) (h.gl.later h.bel) (Below.refl _ _) (NoD.nil _ _) (Nat.le_refl _)
theorem NoD.trans {ds : List Deferred} (h : NoD base w0 w ds) (hk : KeepsOthers w w') : NoD base w0 w' ds := by
  obtain ⟨q1, Ds, q2, q3, q4⟩ := h
  exact ⟨q1.trans hk, Ds, q2, q3, fun D hD => ⟨(q4 D hD).1, (q4 D hD).2.1, hk.same D _ (q4 D hD).2.2 rfl⟩⟩
/-- Told from the start again. -/
theorem HR.join {isd0 : Nat → Prop} {tm0 : List DE} {blk0 : Nat → DB} {ρ0 : Nat → Value} {t : Array Value} (h0 : HR base w0 ok0 isd0 tm0 blk0 ρ0 a w) (h : HR base w ok0 isd tm blk ρ { tmps := t, defers := [] } w') : HR base w0 ok0 isd tm blk ρ { tmps := t, defers := a.defers } w' :=
  h.conv (Kc.refl _) h0.gl (h0.bel.trans h.bel) (h0.nod.trans h.nod.1) (Nat.le_trans h0.drw h.drw)
/-- The marks are taken. -/
def turned : List Nat → World → World
  | [], w => w
  | D :: Ds, w => turned Ds (w.putObj D (.deferred none))
theorem turned_of : ∀ (Ds : List Nat) (w : World), (∀ D ∈ Ds, base ≤ D ∧ w0.heap.size ≤ D ∧ w.heap[D]? = some (.deferred (some []))) → Ds.Nodup → KeepsOthers w0 w → Below base w0 w →
    Kc w (turned Ds w) ∧ KeepsOthers w0 (turned Ds w) ∧ Below base w0 (turned Ds w) ∧ (turned Ds w).drawn = w.drawn
  | [], w, _, _, h1, h2 => ⟨Kc.refl w, h1, h2, rfl⟩
  | D :: Ds, w, h, hn, h1, h2 => by
    obtain ⟨q1, q2, q3⟩ := h D (by simp)
    have hlt : D < w.heap.size := (Array.getElem?_eq_some_iff.1 q3).1
    have hn' := List.nodup_cons.1 hn
    have k1 : KeepsOthers w0 (w.putObj D (.deferred none)) := ⟨by simpa using h1.size, fun k o hk ho => by
      have hk2 := (Array.getElem?_eq_some_iff.1 hk).1
      exact (World.putObj_heap_other (by omega)).trans (h1.same k o hk ho)⟩
    have k2 : Below base w0 (w.putObj D (.deferred none)) := h2.grown (grownBy_putObj' w D _) (Nat.le_trans (by omega) (Nat.le_refl w.heap.size)) (fun k e => by injection e with e; omega)
    obtain ⟨r1, r2, r3, r4⟩ := turned_of Ds (w.putObj D (.deferred none)) (fun E hE => ⟨(h E (by simp [hE])).1, (h E (by simp [hE])).2.1, (World.putObj_heap_other (fun e => hn'.1 (by rw [← e]; exact hE))).trans (h E (by simp [hE])).2.2⟩) hn'.2 k1 k2
    exact ⟨(Kc.putObj _ q3 rfl).trans r1, r2, r3, r4⟩
/-- **Behind the marks.** -/
theorem HR.unmark (h : HR base w0 ok0 isd tm blk ρ a w) : ∃ Ds : List Nat, a.defers = Ds.map mark ∧ Ds.Nodup ∧ (∀ D ∈ Ds, w.heap[D]? = some (.deferred (some []))) ∧ HR base w0 ok0 isd tm blk ρ { tmps := a.tmps, defers := [] } (turned Ds w) := by
  obtain ⟨q1, Ds, q2, q3, q4⟩ := h.nod
  obtain ⟨r1, r2, r3, r4⟩ := turned_of Ds w q4 q3 q1 h.bel
  exact ⟨Ds, q2, q3, fun D hD => (q4 D hD).2.2, h.conv r1 h.gl r3 ⟨r2, [], rfl, List.nodup_nil, fun D h => by cases h⟩ (by rw [r4]; exact h.drw)⟩
end
theorem leaves_marks {n : Nat} {P : Program} {fn : Func} {tmps : Array Value} {R : Ending → World → Prop} : ∀ (Ds : List Nat) (w : World), Ds.Nodup → (∀ D ∈ Ds, w.heap[D]? = some (.deferred (some []))) →
    (∃ v, (results fn tmps).run P (turned Ds w) = .ok v (turned Ds w) ∧ R (.returned v) (turned Ds w)) → LeavesInM Fence.wide n P fn tmps R (Ds.map mark) .returning w
  | [], w, _, _, h => h
  | D :: Ds, w, hn, hD, h => by
    have hn' := List.nodup_cons.1 hn
    refine ⟨by simp, .inl ⟨D, _, rfl, run_takeDeferred (hD D (by simp)), leaves_marks Ds _ hn'.2 (fun E hE => (World.putObj_heap_other (fun e => hn'.1 (by rw [← e]; exact hE))).trans (hD E (by simp [hE]))) h⟩⟩
/-- What the body of a function must achieve: its marks taken, it hands back its results. -/
def markPost (P : Program) (fn : Func) (R : Ending → World → Prop) : Exit → Act → World → Prop
  | .normal, a, w | .ret, a, w => ∃ Ds : List Nat, a.defers = Ds.map mark ∧ Ds.Nodup ∧ (∀ D ∈ Ds, w.heap[D]? = some (.deferred (some []))) ∧ ∃ v, (results fn a.tmps).run P (turned Ds w) = .ok v (turned Ds w) ∧ R (.returned v) (turned Ds w)
  | _, _, _ => False
/-- **A function's calls, from its body.** -/
theorem calls_marks {P : Program} {f : FuncId} {fn : Func} {c : Code} {args : Array Value} {w : World} {R : Ending → World → Prop} (hf : P.funcs[f]? = some fn) (hb : fn.body = some c)
    (h : c.wp P (markPost P fn R) { tmps := args ++ Array.replicate (fn.ntmps - args.size) undef, defers := [] } w) : Calls P f args w R := by
  refine (callsIn_wide (n := 0)).1 (callsIn_of_wp_marks hf hb trivial ?_)
  refine wpIn_mono (wpIn_wide.2 h) fun e a w hp => ?_
  have key : (∃ Ds : List Nat, a.defers = Ds.map mark ∧ Ds.Nodup ∧ (∀ D ∈ Ds, w.heap[D]? = some (.deferred (some []))) ∧ ∃ v, (results fn a.tmps).run P (turned Ds w) = .ok v (turned Ds w) ∧ R (.returned v) (turned Ds w)) → LeavesInM Fence.wide 0 P fn a.tmps R a.defers .returning w := by
    rintro ⟨Ds, e1, e2, e3, e4⟩
    rw [e1]
    exact leaves_marks Ds w e2 e3 e4
  cases e with
  | normal => exact key hp
  | ret => exact key hp
  | exit i => exact hp.elim
  | goto i => exact hp.elim
  | panic i => exact hp.elim
  | outgrown => exact hp.elim
end Go.Proofs.Ytfdpbfdhcngfgaa
