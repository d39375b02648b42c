/- Each operation does what the run says: those that make no memory. -/
import Derived.Test.YtfdpbfdhcngfgaaMark
import Derived.Laws.Small
import Derived.Laws.IdiomStrings
namespace Go.Proofs.Ytfdpbfdhcngfgaa
open Go.RowKit

def setD (tm : List DE) (dst : Option Nat) (d : DE) : List DE := match dst with | some t => tm.set t d | none => tm
def updB (blk : Nat → DB) (bs : List (Nat × DB)) (b : Nat) : DB := match bs.find? (·.1 == b) with | some (_, d) => d | none => blk b
def NewI (isd : Nat → Prop) (st : Nat) (n : Nat) : Prop := isd n ∨ (st ≤ n ∧ n < st + 64)
/-- The operation goes through, and leaves the state that the change makes. -/
def Goes (P : Program) (base : Nat) (w0 : World) (ok0 isd : Nat → Prop) (tm : List DE) (blk : Nat → DB) (st : Nat) (a : Act) (w : World) (o : Oper) (δ : Delta) : Prop :=
  ∀ (K : Act → World → Prop) (Q : Exit → Act → World → Prop), (∀ ρ' v w', HR base w0 ok0 (NewI isd st) (setD tm o.dst δ.d) (updB blk δ.bs) ρ' (a.put o.dst v) w' → K (a.put o.dst v) w') → o.wp P a w K Q
/-- The view is of this state. -/
structure VOk (V : View) (tm : List DE) (blk : Nat → DB) : Prop where
  t : ∀ t, V.tm t = tm.getD t .any ∨ V.tm t = .any
  b : ∀ b, V.bl b = blk b ∨ V.bl b = .dead

theorem updB_nil (blk : Nat → DB) : updB blk [] = blk := rfl
theorem setD_get {tm : List DE} {a : Act} (hs : a.tmps.size = tm.length) (dst : Option Nat) (d : DE) (v : Value) (t : Nat) :
    ((setD tm dst d).getD t .any = tm.getD t .any ∧ (a.put dst v).tmps.getD t undef = a.tmps.getD t undef) ∨ ((setD tm dst d).getD t .any = d ∧ (a.put dst v).tmps.getD t undef = v) := by
  cases dst with
  | none => exact .inl ⟨rfl, rfl⟩
  | some k =>
    by_cases e : k = t
    · subst e
      by_cases hk : k < tm.length
      · right
        simp [setD, Act.put, hk, hs]
      · left
        simp [setD, Act.put, hs, hk]
    · left
      simp [setD, Act.put, Array.getElem?_setIfInBounds_ne e, List.getElem?_set_ne e]
theorem setD_len (tm : List DE) (dst : Option Nat) (d : DE) : (setD tm dst d).length = tm.length := by cases dst <;> simp [setD]
theorem put_size (a : Act) (dst : Option Nat) (v : Value) : (a.put dst v).tmps.size = a.tmps.size := by cases dst <;> simp [Act.put]
theorem put_defers (a : Act) (dst : Option Nat) (v : Value) : (a.put dst v).defers = a.defers := by cases dst <;> rfl

section
variable {P : Program} {base : Nat} {w0 : World} {ok0 isd : Nat → Prop} {tm : List DE} {blk : Nat → DB} {ρ : Nat → Value} {a : Act} {w : World} {V : View} {st : Nat} {o : Oper}
/-- Nothing but a slot, and the count of draws, changes. -/
theorem HR.put (h : HR base w0 ok0 isd tm blk ρ a w) (dst : Option Nat) {d : DE} {v : Value} (hd : RD w (okF base ok0 blk ρ) ρ blk isd d v) (st : Nat) (w' : World) (hw : w'.heap = w.heap) (h1 : w'.os = w.os) (h2 : w'.tape = w.tape) (h3 : w'.output = w.output) (hdrn : w.drawn ≤ w'.drawn := by first | exact Nat.le_refl _ | exact Nat.le_succ _ | assumption) :
    HR base w0 ok0 (NewI isd st) (setD tm dst d) blk ρ (a.put dst v) w' := by
  refine h.step (fun _ => False) (fun _ _ => rfl) (fun _ _ => rfl) (fun _ _ _ h => h.elim) (fun _ _ _ h => h.elim) (fun n hn => .inl hn) (fun _ h => h.elim) (fun _ _ h => h.elim) (by rw [hw]; exact Nat.le_refl _) (fun g _ _ => by rw [hw]) (fun _ h => h.elim) (fun _ _ h => h.elim) h1 h2 h3 (fun _ _ _ h => h.elim) (fun H1 t => ?_) ?_ ?_
  · rcases setD_get h.size dst d v t with ⟨e1, e2⟩ | ⟨e1, e2⟩
    · exact .inl ⟨e1, e2⟩
    · right; rw [e1, e2]
      exact hd.mono (fun g hg _ => ⟨hg, by rw [hw]⟩) (fun _ _ _ => rfl) (fun n hn => .inl hn) (fun _ _ _ hs => ⟨hs, rfl⟩)
  · rw [put_size, setD_len, h.size]
  · exact put_defers _ _ _
theorem HR.same (h : HR base w0 ok0 isd tm blk ρ a w) {isd' : Nat → Prop} (hI : ∀ n, isd n → isd' n) (w' : World) (hw : w'.heap = w.heap) (h1 : w'.os = w.os) (h2 : w'.tape = w.tape) (h3 : w'.output = w.output) (hdrn : w.drawn ≤ w'.drawn := by first | exact Nat.le_refl _ | exact Nat.le_succ _ | assumption) : HR base w0 ok0 isd' tm blk ρ a w' :=
  h.step (fun _ => False) (fun _ _ => rfl) (fun _ _ => rfl) (fun _ _ _ h => h.elim) (fun _ _ _ h => h.elim) hI (fun _ h => h.elim) (fun _ _ h => h.elim) (by rw [hw]; exact Nat.le_refl _) (fun g _ _ => by rw [hw]) (fun _ h => h.elim) (fun _ _ h => h.elim) h1 h2 h3 (fun _ _ _ h => h.elim) (fun _ _ => .inl ⟨rfl, rfl⟩) h.size rfl

theorem goes_val (h : HR base w0 ok0 isd tm blk ρ a w) {d : DE} {v : Value} (hrun : (execOp a.eval o).run P w = .ok (.value v) w) (hd : RD w (okF base ok0 blk ρ) ρ blk isd d v) : Goes P base w0 ok0 isd tm blk st a w o ⟨d, []⟩ := by
  intro K Q hK
  unfold Oper.wp
  rw [hrun, Oper.upon_value]
  exact hK ρ v w (h.put o.dst hd st w rfl rfl rfl rfl)
theorem goes_run {δ : Delta} {v : Value} {w' : World} {ρ' : Nat → Value} (hrun : (execOp a.eval o).run P w = .ok (.value v) w') (h' : HR base w0 ok0 (NewI isd st) (setD tm o.dst δ.d) (updB blk δ.bs) ρ' (a.put o.dst v) w') : Goes P base w0 ok0 isd tm blk st a w o δ := by
  intro K Q hK
  unfold Oper.wp
  rw [hrun, Oper.upon_value]
  exact hK ρ' v w' h'
theorem goes_skip {δ : Delta} {w' : World} {ρ' : Nat → Value} (hrun : (execOp a.eval o).run P w = .ok .skip w') (h' : HR base w0 ok0 (NewI isd st) (setD tm o.dst δ.d) (updB blk δ.bs) ρ' (a.put o.dst undef) w') : Goes P base w0 ok0 isd tm blk st a w o δ := by
  intro K Q hK
  unfold Oper.wp
  rw [hrun, Oper.upon_skip]
  exact hK ρ' undef w' h'

theorem lookup_mem2 {β : Type} {j : Nat} {b : β} : ∀ {l : List (Nat × β)}, l.lookup j = some b → (j, b) ∈ l
  | [], h => by cases h
  | (i, c) :: l, h => by
    rw [List.lookup_cons] at h
    split at h
    · rename_i q
      injection h with h
      rw [eq_of_beq q, h]; simp
    · exact List.mem_cons_of_mem _ (lookup_mem2 h)
theorem ev_ok (hV : VOk V tm blk) (h : HR base w0 ok0 isd tm blk ρ a w) (x : Operand) : RD w (okF base ok0 blk ρ) ρ blk isd (V.ev x) (a.eval x) := by
  cases x with
  | tmp t =>
    show RD _ _ _ _ _ (V.tm t) (a.tmps.getD t undef)
    rcases hV.t t with e | e
    · rw [e]; exact h.tms t
    · rw [e]; exact .any _
  | const c =>
    show RD _ _ _ _ _ (cst c) c
    unfold cst
    split
    · exact .nil
    · exact .c _
  | global g =>
    show RD _ _ _ _ _ (match globL.lookup g with | some cs => .v (AV.mkRef (cs.map .lit)) | none => .any) (.pointer (some ⟨g, 0, none⟩))
    split
    · rename_i cs hl
      obtain ⟨h1, h2, h3, _⟩ := h.gl.1 _ (lookup_mem2 hl)
      have hlow := h.low
      have hlen : (cs.map AV.lit).length = cs.length := List.length_map _
      refine .v _ _ (.ref _ g (fun i => cs.getD i undef) ⟨fun _ => h2, fun b hl e => absurd (h.live_lt hl e).1 (by simp only at h1; omega)⟩ (by simp only at h1; omega) (fun i hi => ?_) (fun i hi => (h3 i (hlen ▸ hi)).2) (fun i hi => ?_))
      · rw [← (h3 i (hlen ▸ hi)).1]
        exact World.cell?_of_block (h.bel.block g h1)
      · rw [hlen] at hi
        rw [List.getD_eq_getElem?_getD, List.getD_eq_getElem?_getD, List.getElem?_map, List.getElem?_eq_getElem hi]
        exact .lit _
    · exact .any _
  | func f => exact .fn f [] #[] rfl (fun i hi => absurd hi (by simp))

/-- The blocks of the rows r. -/
def okR (ok : Nat → Prop) (ρ : Nat → Value) (r : List Nat) (g : Nat) : Prop := ok g ∨ ∃ b, b ∈ r ∧ blkNo (ρ b) = some g
/-- The known variables, at a call. -/
theorem HR.glob (h : HR base w0 ok0 isd tm blk ρ a w) (r : List Nat) : Gl w.heap.size w (fun g => okR (okF base ok0 blk ρ) ρ r g ∧ g < w.heap.size) := ⟨fun p hp => by
  obtain ⟨h1, h2, h3, x, y, h4⟩ := h.gl.1 p hp
  have hlow := h.low
  refine ⟨by omega, ⟨.inl ⟨fun _ => h2, fun b hl e => absurd (h.live_lt hl e).1 (by omega)⟩, by omega⟩, fun i hi => ⟨?_, (h3 i hi).2⟩, x, y, ?_⟩
  · rw [← (h3 i hi).1]
    exact World.cell?_of_block (h.bel.block _ h1)
  · rw [← h4]
    exact h.bel.block _ h1, fun g hg => by
  obtain ⟨h1, m, h2⟩ := h.gl.2 g hg
  have hlow := h.low
  exact ⟨by omega, m, by rw [← h2]; exact World.cell?_of_block (h.bel.block g h1)⟩⟩
theorem okR_nil {ok : Nat → Prop} {ρ : Nat → Value} {g : Nat} (h : okR ok ρ [] g) : ok g := h.elim id fun ⟨_, hb, _⟩ => absurd hb (by simp)
theorem rv_okR_nil {ok : Nat → Prop} {x : AV} {v : Value} (h : RV w (okR ok ρ []) x v) : RV w ok x v := h.mono fun _ hg _ => ⟨okR_nil hg, rfl⟩
theorem pc_ok (hV : VOk V tm blk) (h : HR base w0 ok0 isd tm blk ρ a w) {d : DE} {v : Value} (hd : RD w (okF base ok0 blk ρ) ρ blk isd d v) {x : AV} {r : List Nat} (hp : V.pc d = some (x, r)) :
    RV w (okR (okF base ok0 blk ρ) ρ r) x v := by
  cases d with
  | v y =>
    simp only [View.pc, Option.some.injEq, Prod.mk.injEq] at hp
    obtain ⟨rfl, rfl⟩ := hp
    cases hd with | v _ _ hh => exact hh.mono fun g hg _ => ⟨.inl hg, rfl⟩
  | c y =>
    simp only [View.pc, Option.some.injEq, Prod.mk.injEq] at hp
    obtain ⟨rfl, rfl⟩ := hp
    cases hd; exact .lit _
  | nil =>
    simp only [View.pc, Option.some.injEq, Prod.mk.injEq] at hp
    obtain ⟨rfl, rfl⟩ := hp
    cases hd; exact .lit _
  | row b n =>
    simp only [View.pc] at hp
    cases hd with
    | row _ _ _ hn _ hs =>
      have hb := h.blks b
      rcases hV.b b with e | e
      · rw [e] at hp
        cases hk : blk b with
        | row e' s m y =>
          rw [hk] at hp hb hs
          simp only at hp
          split at hp
          · rename_i hmn
            simp only [Option.some.injEq, Prod.mk.injEq] at hp
            obtain ⟨rfl, rfl⟩ := hp
            rw [hs (by rw [← hmn]; rfl)]
            exact hb.2.rv (fun g hg _ => .inl hg) (fun g hg => .inr ⟨b, by simp, hb.2.blkNo_eq ▸ hg⟩)
          · cases hp
        | fz m y =>
          rw [hk] at hp hb hs
          simp only at hp
          split at hp
          · rename_i hmn
            simp only [Option.some.injEq, Prod.mk.injEq] at hp
            obtain ⟨rfl, rfl⟩ := hp
            rw [hs (by rw [← hmn]; rfl)]
            exact hb.2.1.mono fun g hg _ => ⟨.inl hg, rfl⟩
          · cases hp
        | dead => rw [hk] at hp; cases hp
        | cells t cs => rw [hk] at hp; cases hp
        | sv ds vs => rw [hk] at hp; cases hp
      · rw [e] at hp; cases hp
  | _ => simp only [View.pc] at hp; cases hp
theorem pc_ok' (hV : VOk V tm blk) (h : HR base w0 ok0 isd tm blk ρ a w) {d : DE} {v : Value} (hd : RD w (okF base ok0 blk ρ) ρ blk isd d v) {x : AV} (hp : V.pc d = some (x, [])) :
    RV w (okF base ok0 blk ρ) x v := rv_okR_nil (pc_ok hV h hd hp)
theorem rv_int {ok : Nat → Prop} {x : AV} {v : Value} (h : RV w ok x v) (hi : x.isInt) : v = .int x.kind x.num := by
  obtain ⟨k, n, rfl⟩ := hi
  cases h; rfl
theorem rv_i64 {ok : Nat → Prop} {x : AV} {v : Value} (h : RV w ok x v) (hi : x.isI64) : v = .int .i64 x.num := by
  rw [hi] at h; cases h; rfl
theorem rv_bool {ok : Nat → Prop} {x : AV} {v : Value} (h : RV w ok x v) (hi : x.isBool) : v = .bool x.tru := by
  rw [hi] at h; cases h; rfl
theorem rv_str {ok : Nat → Prop} {x : AV} {v : Value} (h : RV w ok x v) (hi : x.isStr) : v = .string x.str := by
  rw [hi] at h; cases h; rfl
theorem rv_sl {ok : Nat → Prop} {x : AV} {v : Value} {s : Nat} (h : RV w ok x v) (hi : x.isSl s) : ∃ A c, v = .slice A x.els.length c ∧ x.els.length ≤ c ∧ c ≤ maxLen := by
  rw [hi] at h
  cases h with | sl _ _ A n c us hn hnc hc _ _ _ _ => subst hn; exact ⟨A, c, rfl, hnc, hc⟩

/-! ### operations that only reckon -/
theorem run_bin {op : BinOp} {t : TypeId} {x y : AV} {u v : Value} {ok ok' : Nat → Prop} (hx : RV w ok x u) (hy : RV w ok' y v) (h : AV.binOk op x y) (p q : Operand) (qt : TypeId) (dst : Option Nat) (ty : TypeId) (pos : String) (af : Array Edge) (gd : Option (Nat × Bool)) (ev : Operand → Value) (hp : ev p = u) (hq : ev q = v) :
    ∃ r, AV.bin op x y = .lit r ∧ (execOp ev ⟨dst, .binOp op t p q qt, ty, pos, af, gd⟩).run P w = .ok (.value r) w := by
  cases x with
  | lit a =>
    cases y with
    | lit b =>
      obtain rfl := RV.lit_iff.1 hx
      obtain rfl := RV.lit_iff.1 hy
      clear hx hy
      cases u with
      | int k m =>
        cases v with
        | int k' n =>
          obtain ⟨rfl, h⟩ := h
          cases op <;> first | exact h.elim | (refine ⟨_, rfl, ?_⟩; simp [execOp, eqGuard, binOp, Op.intArith, Op.intDiv, Op.intCmp, Op.intBits, intB, hp, hq, h])
        | _ => exact absurd h (by simp [AV.binOk])
      | string m =>
        cases v with
        | string n =>
          cases op <;> first | exact h.elim | (refine ⟨_, rfl, ?_⟩; simp [execOp, eqGuard, binOp, Op.stringOp, hp, hq]; done) | (refine ⟨_, rfl, ?_⟩; simp [execOp, eqGuard, binOp, Op.stringOp, hp, hq]; simpa [AV.binOk] using h)
        | _ => exact absurd h (by simp [AV.binOk])
      | _ => exact absurd h (by simp [AV.binOk])
    | _ => exact absurd h (by cases a <;> simp [AV.binOk])
  | _ => exact absurd h (by simp [AV.binOk])

/-- What the run asks of an operation. -/
def VR (r : Res) (δ : Delta) : Prop := match r with
  | .det obs δ' => (∀ p ∈ obs, p) ∧ δ = δ'
  | .ex ob δ' => ∃ r, ob r ∧ δ = δ' r
  | _ => False
def Valid (P : Program) (Γ : FuncId → Option Ca) (o : Oper) (st : Nat) (V : View) (δ : Delta) : Prop := VR (opD P Γ o st V) δ
theorem VR.pure1 {d : DE} {δ : Delta} (h : VR (pure1 d) δ) : δ = ⟨d, []⟩ := h.2
theorem VR.det0 {δ δ' : Delta} (h : VR (.det [] δ') δ) : δ = δ' := h.2
theorem VR.det1 {δ δ' : Delta} {p : Prop} (h : VR (.det [p] δ') δ) : p ∧ δ = δ' := ⟨h.1 p (by simp), h.2⟩
theorem VR.det2 {δ δ' : Delta} {p q : Prop} (h : VR (.det [p, q] δ') δ) : p ∧ q ∧ δ = δ' := ⟨h.1 p (by simp), h.1 q (by simp), h.2⟩
theorem VR.det3 {δ δ' : Delta} {p q r : Prop} (h : VR (.det [p, q, r] δ') δ) : p ∧ q ∧ r ∧ δ = δ' := ⟨h.1 p (by simp), h.1 q (by simp), h.1 r (by simp), h.2⟩

variable {Γ : FuncId → Option Ca}

theorem op_move {x : Operand} (ho : o.op = .move x) (hV : VOk V tm blk) (h : HR base w0 ok0 isd tm blk ρ a w) {δ : Delta} (hv : Valid P Γ o st V δ) : Goes P base w0 ok0 isd tm blk st a w o δ := by
  simp only [Valid, opD, ho] at hv
  obtain rfl := hv.pure1
  exact goes_val h (v := a.eval x) (by simp [execOp, ho]) (ev_ok hV h x)
/-- A new row, that lies anew (or is nil). -/
theorem HR.newRow (h : HR base w0 ok0 isd tm blk ρ a w) (hst : ¬ isd st) (dst : Option Nat) (e s : Nat) (x : AV) (v : Value) (w' : World) (hg : w.grownBy w' none) (hR : ∀ ok' : Nat → Prop, (∀ g, okF base ok0 blk ρ g → g < w.heap.size → ok' g ∧ w'.heap[g]? = w.heap[g]?) → RRow w' base e s ok' x v)
    (hnew : ∀ g, v.ownBlock = some g → w.heap.size ≤ g) (d : DE) (u : Value) (hd : (d = .row st st ∧ u = v)) (hdrn : w.drawn ≤ w'.drawn := by first | exact Nat.le_refl _ | exact Nat.le_succ _ | assumption) :
    HR base w0 ok0 (NewI isd st) (setD tm dst d) (updB blk [(st, .row e s st x)]) (fun b => if b = st then v else ρ b) (a.put dst u) w' := by
  obtain ⟨rfl, rfl⟩ := hd
  have hdead := h.frs st hst
  have hbv : u.ownBlock = blkNo u := (hR (fun _ => True) (fun g _ hlt => ⟨trivial, hg.block g hlt (by simp)⟩)).blkNo_eq
  have hb : ∀ b, updB blk [(st, .row e s st x)] b = if b = st then .row e s st x else blk b := fun b => by
    unfold updB
    by_cases e : b = st
    · subst e; simp
    · have : (st == b) = false := by simpa using fun x => e x.symm
      simp [this, e]
  refine h.step (fun b => b = st) (fun b hc => ?_) (fun b hc => ?_) (fun b t cs hc hk => ?_) (fun b n y hc hk => ?_) (fun n hn => .inl hn) (fun b hc => .inr (by omega)) (fun b n hc hn hs => ?_) hg.size (fun g hlt _ => hg.block g hlt (by simp)) (fun b hc _ g hg' => ?_) (fun b b' hc hc' _ _ hne => absurd (hc.trans hc'.symm) hne) hg.os hg.tape hg.output (fun H1 H5 b hc => ?_) (fun H1 t => ?_) ?_ ?_
  · rw [hb, if_neg hc]
  · show (if b = st then u else ρ b) = ρ b
    rw [if_neg hc]
  · subst hc; rw [hdead] at hk; cases hk
  · subst hc; rw [hdead] at hk; cases hk
  · subst hc
    rw [hb, if_pos rfl] at hs
    injection hs with hs
    subst hs
    exact absurd hn hst
  · subst hc
    right
    simp only [if_true] at hg'
    exact hnew g (hbv ▸ hg')
  · subst hc
    rw [hb, if_pos rfl]
    refine ⟨.inr (by omega), ?_⟩
    show RRow w' base e s _ x (if b = b then u else ρ b)
    rw [if_pos rfl]
    exact hR _ H1
  · rcases setD_get h.size dst (.row st st) u t with ⟨e1, e2⟩ | ⟨e1, e2⟩
    · exact .inl ⟨e1, e2⟩
    · right; rw [e1, e2]
      refine .row st st u (.inr (by omega)) ?_ fun _ => by simp
      obtain ⟨A, n, c, rfl, _⟩ := (hR _ H1).form
      rfl
  · rw [put_size, setD_len, h.size]
  · exact put_defers _ _ _
theorem RRow.nil (w : World) (B e s : Nat) (hs : 0 < s) (okc : Nat → Prop) : RRow w B e s okc (.sl s []) (.slice none 0 0) :=
  ⟨[], [], rfl, hs, by simp, World.ownsRow_nil w B e s, by simp, fun i j hi => absurd hi (by simp)⟩
theorem slT_spec {t : TypeId} {e s b : Nat} (h : slT P t = some (e, s, b)) : P.underlying t = some (.slice e) ∧ s = P.cellsOf e ∧ b = P.bytesOf e := by
  unfold slT at h
  split at h
  · rename_i e' he
    simp only [Option.some.injEq, Prod.mk.injEq] at h
    obtain ⟨rfl, rfl, rfl⟩ := h
    exact ⟨he, rfl, rfl⟩
  · cases h
theorem grown_refl (w : World) : w.grownBy w none := ⟨rfl, rfl, rfl, Nat.le_refl _, fun _ _ _ => rfl⟩
theorem op_assign {x : Operand} (ho : o.op = .assign x) (hV : VOk V tm blk) (h : HR base w0 ok0 isd tm blk ρ a w) (hst : ¬ isd st) {δ : Delta} (hv : Valid P Γ o st V δ) : Goes P base w0 ok0 isd tm blk st a w o δ := by
  have hx := ev_ok hV h x
  have hrun : (execOp a.eval o).run P w = .ok (.value (a.eval x)) w := by simp [execOp, ho]
  simp only [Valid, opD, ho] at hv
  split at hv
  · rename_i e s by_ he hs
    rw [he] at hx
    split at hv
    · obtain rfl := hv.pure1
      exact goes_val h hrun hx
    · rename_i hs0
      obtain rfl := hv.det0
      generalize hu : a.eval x = u at hx hrun
      cases hx
      exact goes_run hrun (h.newRow hst o.dst e s (.sl s []) _ w (grown_refl w) (fun ok' _ => RRow.nil w base e s (by omega) ok') (fun g hg => by cases hg) (.row st st) _ ⟨rfl, rfl⟩)
  · obtain rfl := hv.pure1
    exact goes_val h hrun hx
theorem op_pick {c x y : Operand} (ho : o.op = .pick c x y) (hV : VOk V tm blk) (h : HR base w0 ok0 isd tm blk ρ a w) {δ : Delta} (hv : Valid P Γ o st V δ) : Goes P base w0 ok0 isd tm blk st a w o δ := by
  have hc := ev_ok hV h c
  have hx := ev_ok hV h x
  have hy := ev_ok hV h y
  simp only [Valid, opD, ho] at hv
  split at hv
  · rename_i he
    rw [he] at hc
    obtain rfl := hv.pure1
    have hb : a.eval c = .bool true := by generalize a.eval c = u at hc; cases hc; rfl
    exact goes_val h (v := a.eval x) (by simp [execOp, ho, hb, asBool]) hx
  · rename_i he
    rw [he] at hc
    obtain rfl := hv.pure1
    have hb : a.eval c = .bool false := by generalize a.eval c = u at hc; cases hc; rfl
    exact goes_val h (v := a.eval y) (by simp [execOp, ho, hb, asBool]) hy
  split at hv
  · rename_i cx hcx
    have hcb := pc_ok' hV h hc hcx
    have hyes : cx.isBool → isT cx → δ = ⟨V.ev x, []⟩ → Goes P base w0 ok0 isd tm blk st a w o δ := fun h1 h2 e => by
      subst e
      have := rv_bool hcb h1
      exact goes_val h (v := a.eval x) (by rw [h2] at this; simp [execOp, ho, this, asBool]) hx
    have hno : cx.isBool → isF cx → δ = ⟨V.ev y, []⟩ → Goes P base w0 ok0 isd tm blk st a w o δ := fun h1 h2 e => by
      subst e
      have := rv_bool hcb h1
      exact goes_val h (v := a.eval y) (by rw [h2] at this; simp [execOp, ho, this, asBool]) hy
    split at hv
    · obtain ⟨h1, h2, e⟩ := hv.det2
      exact hyes h1 h2 e
    split at hv
    · obtain ⟨h1, h2, e⟩ := hv.det2
      exact hno h1 h2 e
    split at hv
    · obtain ⟨h1, h2, e⟩ := hv.det2
      exact hno h1 h2 e
    · split at hv
      · obtain ⟨h1, h2, e⟩ := hv.det2
        exact hyes h1 h2 e
      · split at hv
        · rename_i yx zx hyx hzx
          obtain ⟨h1, rfl⟩ := hv.det1
          have hb := rv_bool hcb h1
          refine goes_val h (v := if cx.tru then a.eval x else a.eval y) (by simp [execOp, ho, hb, asBool]) (.v _ _ ?_)
          unfold AV.pick
          cases cx.tru
          · exact pc_ok' hV h hy hzx
          · exact pc_ok' hV h hx hyx
        · exact hv.elim
  · exact hv.elim
theorem run_un {op : UnOp} {y : AV} {u : Value} {ok : Nat → Prop} (hr : RV w ok y u) (h1 : AV.unOk op y) : ∃ r, AV.un op y = .lit r ∧ (Op.unary op u).run P w = .ok r w := by
  cases y with
  | lit z =>
    obtain rfl := RV.lit_iff.1 hr
    cases op <;> cases u <;> first | (exfalso; simp [AV.unOk] at h1; done) | exact ⟨_, rfl, by simp [Op.unary, Op.intArith]⟩
  | _ => exact absurd h1 (by cases op <;> simp [AV.unOk])
theorem op_un {op : UnOp} {t : TypeId} {x : Operand} (ho : o.op = .unOp op t x) (hV : VOk V tm blk) (h : HR base w0 ok0 isd tm blk ρ a w) {δ : Delta} (hv : Valid P Γ o st V δ) : Goes P base w0 ok0 isd tm blk st a w o δ := by
  have hx := ev_ok hV h x
  simp only [Valid, opD, ho] at hv
  split at hv
  · rename_i b he
    obtain rfl := hv.pure1
    rw [he] at hx
    generalize hu : a.eval x = u at hx
    cases hx
    exact goes_val h (v := .bool (!b)) (by simp [execOp, ho, hu, Op.unary]) (.c _)
  · split at hv
    · rename_i y hy
      obtain ⟨h1, rfl⟩ := hv.det1
      obtain ⟨r, er, hrun⟩ := run_un (P := P) (pc_ok' hV h hx hy) h1
      exact goes_val h (v := r) (by simp [execOp, ho, hrun]) (.v _ _ (er ▸ .lit _))
    · exact hv.elim
theorem isU8_iff {e : TypeId} (h : isU8 P e = true) : P.underlying e = some (.int .u8) := by
  unfold isU8 at h
  split at h
  · assumption
  · cases h
/-- The new row of '[]byte(s)'. -/
theorem rv_bytes (w : World) (s : ByteArray) (e : TypeId) (cap : Nat) (fz : Nat × Nat) (ok : Nat → Prop) (hok : ok w.heap.size) (hs : s.size ≤ cap) (hm : cap ≤ maxLen) :
    RV (w.drew.alloc (.cells (bytesRow s cap) e fz)) ok (AV.bytes (.string s)) (.slice (some ⟨w.heap.size, 0, none⟩) s.size cap) := by
  have hg : (w.drew.alloc (.cells (bytesRow s cap) e fz)).heap[w.heap.size]? = some (.cells (bytesRow s cap) e fz) := by
    show (w.heap.push _)[w.heap.size]? = _
    simp
  have hlen : s.data.toList.length = s.size := Array.length_toList
  refine .sl 1 _ _ s.size cap (fun i _ => .int .u8 ((s.data.toList.getD i 0).toNat : Nat)) (by show (List.map _ s.data.toList).length = _; rw [List.length_map]; exact hlen) hs hm (fun x hx => ?_) (fun _ => ⟨w.heap.size, 0, rfl, hok, by show w.heap.size < (w.heap.push _).size; simp, fun i j hi hj => ?_⟩) (fun i j hi hj => rfl) (fun i j hi hj => ?_)
  · obtain ⟨b, _, rfl⟩ := List.mem_map.1 hx; rfl
  · have hj0 : j = 0 := by omega
    subst hj0
    rw [cell_of_row _ _ _ _ e fz hg]
    have hi' : i < s.data.size := hi
    have hsz : (s.data.map fun b => Value.int .u8 (b.toNat : Nat)).size = s.data.size := by simp
    show (bytesRow s cap)[0 + i * 1 + 0]? = _
    rw [show 0 + i * 1 + 0 = i by omega]
    unfold bytesRow
    rw [Array.getElem?_append, if_pos (by rw [hsz]; exact hi'), Array.getElem?_map, Array.getElem?_eq_getElem hi', List.getD_eq_getElem?_getD, Array.getElem?_toList, Array.getElem?_eq_getElem hi']
    rfl
  · have hj0 : j = 0 := by omega
    subst hj0
    have hi' : i < s.data.toList.length := by omega
    have : gt2 (s.data.toList.map fun b => [AV.lit (.int .u8 b.toNat)]) i 0 = .lit (.int .u8 ((s.data.toList.getD i 0).toNat : Nat)) := by
      unfold gt2
      rw [List.getD_eq_getElem?_getD (l := List.map _ _), List.getElem?_map, List.getElem?_eq_getElem hi', List.getD_eq_getElem?_getD (l := s.data.toList), List.getElem?_eq_getElem hi']
      rfl
    show RV _ ok (gt2 (s.data.toList.map fun b => [AV.lit (.int .u8 b.toNat)]) i 0) _
    rw [this]
    exact .lit _
theorem op_conv {s t : TypeId} {x : Operand} (ho : o.op = .convert s t x) (hV : VOk V tm blk) (h : HR base w0 ok0 isd tm blk ρ a w) {δ : Delta} (hv : Valid P Γ o st V δ) : Goes P base w0 ok0 isd tm blk st a w o δ := by
  have hx := ev_ok hV h x
  simp only [Valid, opD, ho] at hv
  split at hv
  · rename_i d k y hd ht hy
    obtain ⟨h1, rfl⟩ := hv.det1
    have hr := rv_int (pc_ok' hV h hx hy) h1
    exact goes_val h (by simp [execOp, ho, convert, run_underlying hd, run_underlying ht, hr, Conv.intToInt]) (.v _ _ (.lit _))
  · rename_i d y hd ht hy
    obtain ⟨h1, rfl⟩ := hv.det1
    have hrv := pc_ok' hV h hx hy
    have hr := rv_str hrv h1
    exact goes_val h (v := a.eval x) (by simp [execOp, ho, convert, run_underlying hd, run_underlying ht, hr]) (.v _ _ hrv)
  · rename_i e y hd ht hy
    split at hv
    · rename_i hu
      obtain ⟨hobs, rfl⟩ := hv
      have h1 : y.isStr := hobs _ (by simp)
      have h2 : y.bytesOk := hobs _ (by simp)
      have hrv := pc_ok' hV h hx hy
      have hr := rv_str hrv h1
      have hm : y.str.size ≤ maxLen := by have h2' : (y.str.size : Int) ≤ 9223372036854775807 := h2; unfold maxLen; omega
      have hrun := run_bytes_of_string (P := P) w s t e y.str hd ht (isU8_iff hu)
      have hrun' : (execOp a.eval o).run P w = .ok (.value (.slice (some ⟨w.heap.size, 0, none⟩) y.str.size (grownCap w y.str.size 0 e))) (w.drew.alloc (.cells (bytesRow y.str (grownCap w y.str.size 0 e)) e ((bytesRow y.str (grownCap w y.str.size 0 e)).size, (bytesRow y.str (grownCap w y.str.size 0 e)).size + 1))) := by simp [execOp, ho, hr, hrun]
      refine goes_run (ρ' := ρ) hrun' ?_
      have hy' : AV.bytes y = AV.bytes (.string y.str) := rfl
      have hnew : okF base ok0 blk ρ w.heap.size := ⟨fun q => absurd q (by have := h.low; omega), fun b hl e' => by have := (h.live_lt hl e').2; omega⟩
      have hR := rv_bytes w y.str e (grownCap w y.str.size 0 e) ((bytesRow y.str (grownCap w y.str.size 0 e)).size, (bytesRow y.str (grownCap w y.str.size 0 e)).size + 1) (okF base ok0 blk ρ) hnew (grownCap_ge _ _ _ _) (grownCap_le_maxLen _ _ _ _ hm)
      rw [updB_nil]
      refine h.step (fun _ => False) (fun _ _ => rfl) (fun _ _ => rfl) (fun _ _ _ h => h.elim) (fun _ _ _ h => h.elim) (fun n hn => .inl hn) (fun _ h => h.elim) (fun _ _ h => h.elim) (by show w.heap.size ≤ (w.heap.push _).size; simp) (fun g hg _ => by show (w.heap.push _)[g]? = _; rw [Array.getElem?_push, if_neg (by omega)]) (fun _ h => h.elim) (fun _ _ h => h.elim) rfl rfl rfl (fun _ _ _ h => h.elim) (fun H1 t' => ?_) ?_ ?_
      · rcases setD_get h.size o.dst (.v (AV.bytes y)) (.slice (some ⟨w.heap.size, 0, none⟩) y.str.size (grownCap w y.str.size 0 e)) t' with ⟨e1, e2⟩ | ⟨e1, e2⟩
        · exact .inl ⟨e1, e2⟩
        · right; rw [e1, e2]
          exact .v _ _ hR
      · rw [put_size, setD_len, h.size]
      · exact put_defers _ _ _
    · exact hv.elim
  · exact hv.elim
theorem op_makeFunc {fn : Go.Fn} {fi cs : Array Operand} (ho : o.op = .makeFunc fn fi cs) (hV : VOk V tm blk) (h : HR base w0 ok0 isd tm blk ρ a w) {δ : Delta} (hv : Valid P Γ o st V δ) : Goes P base w0 ok0 isd tm blk st a w o δ := by
  cases fn with
  | func f =>
    simp only [Valid, opD, ho] at hv
    split at hv
    · rename_i hf
      obtain rfl := hv.pure1
      obtain rfl : fi = #[] := by simpa using hf
      refine goes_val h (v := .func (.func f) #[] (cs.map a.eval)) (by simp [execOp, ho, Instr.makeFunc]) (.fn f _ _ (by simp) fun i hi => ?_)
      have hi' : i < cs.size := by simpa using hi
      have := ev_ok hV h cs[i]
      simpa [hi'] using this
    · exact hv.elim
  | _ => simp only [Valid, opD, ho] at hv; exact hv.elim
theorem VOk.stamp (hV : VOk V tm blk) {b n : Nat} (h : stampOf (V.bl b) = some n) : stampOf (blk b) = some n := by
  rcases hV.b b with e | e
  · rw [← e]; exact h
  · rw [e] at h; cases h
theorem isPtr_spec (hV : VOk V tm blk) {d : DE} {v : Value} {ok : Nat → Prop} (hd : RD w ok ρ blk isd d v) (h : V.isPtr d = true) : ∃ ad, v = .pointer (some ad) := by
  cases d with
  | ptr b n => cases hd; exact ⟨_, rfl⟩
  | ip x i s j => cases hd; exact ⟨_, rfl⟩
  | sp b n ix => cases hd; exact ⟨_, rfl⟩
  | rp b n s i j =>
    simp only [View.isPtr, beq_iff_eq] at h
    cases hd with
    | rp _ _ _ _ _ _ hn _ hh =>
      obtain ⟨g, m, c, _, e⟩ := hh (hV.stamp h)
      exact ⟨_, e⟩
  | _ => simp [View.isPtr] at h
theorem op_nilCheck {x : Operand} (ho : o.op = .nilCheck x) (hV : VOk V tm blk) (h : HR base w0 ok0 isd tm blk ρ a w) {δ : Delta} (hv : Valid P Γ o st V δ) : Goes P base w0 ok0 isd tm blk st a w o δ := by
  have hx := ev_ok hV h x
  simp only [Valid, opD, ho] at hv
  split at hv
  · rename_i hp
    obtain rfl := hv.pure1
    obtain ⟨ad, e⟩ := isPtr_spec hV hx hp
    exact goes_val h (v := a.eval x) (by simp [execOp, ho, e]) hx
  · split at hv
    · rename_i f cs he
      obtain rfl := hv.pure1
      rw [he] at hx
      refine goes_val h (v := a.eval x) ?_ hx
      generalize hu : a.eval x = u at hx
      cases hx
      simp [execOp, ho, hu]
    · exact hv.elim
end
end Go.Proofs.Ytfdpbfdhcngfgaa
