/- What a state of the run says of the machine. -/
import Derived.Test.YtfdpbfdhcngfgaaRun
namespace Go.Proofs.Ytfdpbfdhcngfgaa
open Go.RowKit

/-! ### draws only go on -/
theorem ask_drawn {α : Type} : ∀ (x : Ask α) (w : World), w.drawn ≤ (w.ask x).2.drawn
  | .done a, w => Nat.le_refl _
  | .ask what range k, w => by
    simp only [World.ask]
    split
    · exact ask_drawn (k 0) w
    · exact Nat.le_trans (Nat.le_succ _) (ask_drawn (k _) { w with drawn := w.drawn + 1 })
theorem sys_drawn (w : World) (c : Sys) : w.drawn ≤ (w.sys c).2.drawn := by
  have h := ask_drawn (Kernel.perform c w.os) w
  unfold World.sys
  split
  · exact Nat.le_refl _
  · rename_i r os w' hr he
    rw [he] at h
    exact h
theorem viewStore_drawn {P : Program} {w w' : World} {at_ k : Addr} {u : TypeId} {v : Value} {at2 : Bool} {l : List Addr} (h : w.viewStore P at_ u k v at2 = .ok (w', l)) : w'.drawn = w.drawn := by
  unfold World.viewStore at h
  simp only [bind, Except.bind, pure, Except.pure] at h
  repeat' split at h
  all_goals first | cases h; done | (injection h with h; injection h with h1 h2; rw [← h1])
theorem run_drawn {α : Type} {P : Program} : ∀ (x : Sem α) {w w' : World} {r : α}, x.run P w = .ok r w' → w.drawn ≤ w'.drawn := by
  intro x
  induction x with
  | pure a => intro w w' r h; simp only [Sem.run, Result.ok.injEq] at h; rw [h.2]; exact Nat.le_refl _
  | load m a k ih =>
    intro w w' r h
    simp only [Sem.run] at h
    repeat' split at h
    all_goals first | exact ih _ h | cases h
  | store m a v k ih =>
    intro w w' r h
    have key : (match w.cell? a with
      | some _ => if w.frozen? a then Result.halt (.unsupported (.unsafePointer "a write to bytes that a string shares")) w else k.run P (w.setCell a v)
      | none => match w.farStore P a v (m == Mode.atomic) with
        | .ok (w, _) => k.run P w
        | .error h => .halt h w) = .ok r w' → w.drawn ≤ w'.drawn := fun h => by
      split at h
      · split at h
        · cases h
        · have := ih h
          exact this
      · split at h
        · rename_i hf
          refine Nat.le_trans ?_ (ih h)
          unfold World.farStore at hf
          split at hf
          · split at hf
            · rename_i hq
              injection hf with hf
              subst hf
              rw [viewStore_drawn hq]; exact Nat.le_refl _
            · cases hf
          · cases hf
        · cases h
    cases v with
    | agg vs => simp only [Sem.run] at h; cases h
    | tuple vs => simp only [Sem.run] at h; cases h
    | _ => exact key h
  | new o k ih =>
    intro w w' r h
    have h' : (k w.heap.size).run P { w with heap := w.heap.push o } = .ok r w' := h
    have := ih _ h'
    exact this
  | shape r k ih => intro w w' r h; exact ih _ h
  | freeze a n k ih =>
    intro w w' r h
    have := ih h
    have e : (w.freeze a n).drawn = w.drawn := by unfold World.freeze; repeat' split <;> rfl
    omega
  | frozen a k ih => intro w w' r h; exact ih _ h
  | getObj q k ih =>
    intro w w' r h
    simp only [Sem.run] at h
    repeat' split at h
    all_goals first | exact ih _ h | cases h
  | setObj q o k ih =>
    intro w w' r h
    simp only [Sem.run] at h
    split at h
    · cases h
    · have := ih h
      exact this
    · cases h
  | choose q k ih =>
    intro w w' r h
    simp only [Sem.run] at h
    split at h
    · exact ih _ h
    · exact Nat.le_trans (Nat.le_succ _) (ih _ h)
  | sys c k ih => intro w w' r h; exact Nat.le_trans (sys_drawn w c) (ih _ h)
  | program k ih => intro w w' r h; exact ih _ h
  | mark m k ih => intro w w' r h; exact ih h
  | halt q => intro w w' r h; cases h
def blkNo : Value → Option Nat
  | .pointer (some a) => some a.block
  | .slice (some a) _ _ => some a.block
  | _ => none
def isLive : DB → Bool
  | .cells _ _ => true
  | .row _ _ _ _ => true
  | _ => false

section
variable (w : World) (ok : Nat → Prop) (ρ : Nat → Value) (blk : Nat → DB) (isd : Nat → Prop)
/-- A slot's worth, and what it holds. -/
inductive RD : DE → Value → Prop
  | any (v : Value) : RD .any v
  | v (x : AV) (v : Value) (h : RV w ok x v) : RD (.v x) v
  | c (v : Value) : RD (.c v) v
  | nil : RD .nil (.slice none 0 0)
  | ptr (b o g : Nat) (h : ρ b = .pointer (some ⟨g, 0, none⟩)) : RD (.ptr b o) (.pointer (some ⟨g, o, none⟩))
  | row (b n : Nat) (v : Value) (hn : isd n) (h1 : v.oneCell' = true) (h : stampOf (blk b) = some n → v = ρ b) : RD (.row b n) v
  | rp (b n s : Nat) (i : AV) (j : Nat) (v : Value) (hn : isd n) (h1 : v.oneCell' = true) (h : stampOf (blk b) = some n → ∃ g m c, ρ b = .slice (some ⟨g, 0, none⟩) m c ∧ v = .pointer (some ⟨g, i.num.toNat * s + j, none⟩)) : RD (.rp b n s i j) v
  | ip (x i : AV) (s j g off m c : Nat) (hx : x.isSl s) (h : RV w ok x (.slice (some ⟨g, off, none⟩) m c)) (hi : 0 ≤ i.num ∧ i.num < m) : RD (.ip x i s j) (.pointer (some ⟨g, off + i.num.toNat * s + j, none⟩))
  | sp (b o : Nat) (ix : List (AV × Nat)) (g : Nat) (h : ρ b = .pointer (some ⟨g, 0, none⟩)) : RD (.sp b o ix) (.pointer (some ⟨g, AV.off o ix, none⟩))
  | rt (b n s : Nat) (l : AV) (v : Value) (hn : isd n) (h1 : v.oneCell' = true) (h : stampOf (blk b) = some n → ∃ A m c, ρ b = .slice A m c ∧ 0 ≤ l.num ∧ l.num ≤ m ∧ v = .slice (if c = l.num.toNat then A else A.map (·.add (l.num.toNat * s))) (m - l.num.toNat) (c - l.num.toNat)) : RD (.rt b n s l) v
  | gp (x : AV) (m o : Nat) (ix : List (AV × Nat)) (g : Nat) (hx : x.isRef m) (h : RV w ok x (.pointer (some ⟨g, 0, none⟩))) : RD (.gp x m o ix) (.pointer (some ⟨g, AV.off o ix, none⟩))
  | agg (cs : List DE) (vs : Array Value) (hl : vs.size = cs.length) (h1 : ∀ i, i < cs.length → (vs.getD i undef).oneCell' = true) (h : ∀ i, i < cs.length → RD (cs.getD i .any) (vs.getD i undef)) : RD (.agg cs) (.agg vs)
  | tup (cs : List DE) (vs : Array Value) (hl : vs.size = cs.length) (h : ∀ i, i < cs.length → RD (cs.getD i .any) (vs.getD i undef)) : RD (.tup cs) (.tuple vs)
  | fn (f : FuncId) (cs : List DE) (vs : Array Value) (hl : vs.size = cs.length) (h : ∀ i, i < cs.length → RD (cs.getD i .any) (vs.getD i undef)) : RD (.fn f cs) (.func (.func f) #[] vs)
/-- A tracked block. -/
def RB (base b : Nat) : DB → Prop
  | .dead => ρ b = undef
  | .cells t cs => ∃ (g : Nat) (vs : Array Value), ρ b = .pointer (some ⟨g, 0, none⟩) ∧ base ≤ g ∧ w.heap[g]? = some (.cells vs t (0, 0)) ∧ vs.size = cs.length ∧ (∀ i, i < cs.length → (vs.getD i undef).oneCell' = true) ∧ ∀ i, i < cs.length → RD w ok ρ blk isd (cs.getD i .any) (vs.getD i undef)
  | .row e s n x => isd n ∧ RRow w base e s ok x (ρ b)
  | .fz n x => isd n ∧ RV w ok x (ρ b) ∧ ∀ g, ρ b ≠ .pointer (some ⟨g, 0, none⟩)
  | .sv ds vs => ρ b = undef ∧ vs.size = ds.length ∧ ∀ t, RD w ok ρ blk isd (ds.getD t .any) (vs.getD t undef)
end
/-- The blocks in which memory of plain values may lie. -/
def okF (base : Nat) (ok0 : Nat → Prop) (blk : Nat → DB) (ρ : Nat → Value) (g : Nat) : Prop := (g < base → ok0 g) ∧ ∀ b, isLive (blk b) = true → blkNo (ρ b) ≠ some g

theorem RD.mono {w w' : World} {ok ok' : Nat → Prop} {ρ ρ' : Nat → Value} {blk blk' : Nat → DB} {isd isd' : Nat → Prop} {d : DE} {v : Value} (h : RD w ok ρ blk isd d v)
    (h1 : ∀ g, ok g → g < w.heap.size → ok' g ∧ w'.heap[g]? = w.heap[g]?) (h2 : ∀ b g, ρ b = .pointer (some ⟨g, 0, none⟩) → ρ' b = ρ b) (h3 : ∀ n, isd n → isd' n)
    (h4 : ∀ b n, isd n → stampOf (blk' b) = some n → stampOf (blk b) = some n ∧ ρ' b = ρ b) : RD w' ok' ρ' blk' isd' d v := by
  induction h with
  | any v => exact .any v
  | v x v h => exact .v x v (h.mono h1)
  | c v => exact .c v
  | nil => exact .nil
  | ptr b o g h => exact .ptr b o g (by rw [h2 b g h]; exact h)
  | row b n v hn h1' h => exact .row b n v (h3 n hn) h1' fun hs => by obtain ⟨e1, e2⟩ := h4 b n hn hs; rw [e2]; exact h e1
  | rp b n s i j v hn h1' h => exact .rp b n s i j v (h3 n hn) h1' fun hs => by obtain ⟨e1, e2⟩ := h4 b n hn hs; rw [e2]; exact h e1
  | ip x i s j g off m c hx h hi => exact .ip x i s j g off m c hx (h.mono h1) hi
  | sp b o ix g h => exact .sp b o ix g (by rw [h2 b g h]; exact h)
  | rt b n s l v hn h1' h => exact .rt b n s l v (h3 n hn) h1' fun hs => by obtain ⟨e1, e2⟩ := h4 b n hn hs; rw [e2]; exact h e1
  | gp x m o ix g hx h => exact .gp x m o ix g hx (h.mono h1)
  | agg cs vs hl h1' h ih => exact .agg cs vs hl h1' ih
  | tup cs vs hl h ih => exact .tup cs vs hl ih
  | fn f cs vs hl h ih => exact .fn f cs vs hl ih

theorem ownsRow_keep {w w' : World} {B e s : Nat} {v : Value} {n : Nat} {xs : List Value} (h : w.ownsRow B e s v n xs) (hk : ∀ g, v.ownBlock = some g → w'.heap[g]? = w.heap[g]?) : w'.ownsRow B e s v n xs := by
  refine ⟨h.1, ?_⟩
  rcases h.2 with h2 | ⟨g, cap, cur, rfl, hb, hg, r⟩
  · exact .inl h2
  · exact .inr ⟨g, cap, cur, rfl, hb, (hk g rfl).trans hg, r⟩
theorem RRow.keep {w w' : World} {B e s : Nat} {okc okc' : Nat → Prop} {r : AV} {v : Value} (h : RRow w B e s okc r v) (hk : ∀ g, v.ownBlock = some g → w'.heap[g]? = w.heap[g]?)
    (h1 : ∀ g, okc g → g < w.heap.size → okc' g ∧ w'.heap[g]? = w.heap[g]?) : RRow w' B e s okc' r v := by
  obtain ⟨L, xs, e1, hs, hL, ho, hone, hv⟩ := h
  exact ⟨L, xs, e1, hs, hL, ownsRow_keep ho hk, hone, fun i j hi hj => (hv i j hi hj).mono h1⟩
theorem RRow.form {w : World} {B e s : Nat} {okc : Nat → Prop} {r : AV} {v : Value} (h : RRow w B e s okc r v) : ∃ A n c, v = .slice A n c ∧ n = r.els.length ∧ n ≤ c ∧ c ≤ maxLen := by
  obtain ⟨L, xs, rfl, hs, hL, ho, hone, hv⟩ := h
  rcases ho.2 with ⟨e, h0⟩ | ⟨g, cap, cur, e, _, _, hn, hm, _, _⟩
  · exact ⟨none, 0, 0, e, h0.symm, Nat.le_refl _, by unfold maxLen; omega⟩
  · exact ⟨_, _, _, e, rfl, hn, hm⟩
theorem RRow.lt {w : World} {B e s : Nat} {okc : Nat → Prop} {r : AV} {v : Value} (h : RRow w B e s okc r v) {g : Nat} (hg : v.ownBlock = some g) : B ≤ g ∧ g < w.heap.size := by
  obtain ⟨L, xs, rfl, hs, hL, ho, hone, hv⟩ := h
  exact World.ownsRow.lt ho g hg
theorem RRow.notPtr {w : World} {B e s : Nat} {okc : Nat → Prop} {r : AV} {v : Value} (h : RRow w B e s okc r v) (a : Option Addr) : v ≠ .pointer a := by
  obtain ⟨A, n, c, rfl, _⟩ := h.form
  exact fun e => by cases e
theorem ownBlock_blkNo {A : Option Addr} {n c : Nat} : (Value.slice A n c).ownBlock = blkNo (.slice A n c) := by cases A <;> rfl
theorem RRow.blkNo_eq {w : World} {B e s : Nat} {okc : Nat → Prop} {r : AV} {v : Value} (h : RRow w B e s okc r v) : v.ownBlock = blkNo v := by
  obtain ⟨A, n, c, rfl, _⟩ := h.form
  exact ownBlock_blkNo
/-- A row, read as a plain value. -/
theorem RRow.rv {w : World} {B e s : Nat} {okc ok' : Nat → Prop} {r : AV} {v : Value} (h : RRow w B e s okc r v) (h1 : ∀ g, okc g → g < w.heap.size → ok' g) (h2 : ∀ g, v.ownBlock = some g → ok' g) : RV w ok' r v := by
  obtain ⟨L, xs, rfl, hs, hL, ho, hone, hv⟩ := h
  have hget : ∀ i j, i < L.length → j < s → i * s + j < xs.length := fun i j hi hj => by
    rw [ho.1]
    have : (i + 1) * s ≤ L.length * s := Nat.mul_le_mul_right _ hi
    rw [Nat.add_mul] at this; omega
  rcases ho.2 with ⟨rfl, h0⟩ | ⟨g, cap, cur, rfl, hb, hg, hn, hm, hsz, htk⟩
  · exact .sl s L none 0 0 (fun _ _ => undef) h0 (Nat.le_refl _) (by unfold maxLen; omega) hL (fun h => absurd h (by omega)) (fun i j hi => absurd hi (by omega)) (fun i j hi => absurd hi (by omega))
  · refine .sl s L _ L.length cap (fun i j => xs.getD (i * s + j) undef) rfl hn hm hL (fun h0 => ⟨g, 0, rfl, h2 g rfl, (Array.getElem?_eq_some_iff.1 hg).1, fun i j hi hj => ?_⟩) (fun i j hi hj => ?_) (fun i j hi hj => (hv i j hi hj).mono fun g hg hlt => ⟨h1 g hg hlt, rfl⟩)
    · have hl := hget i j hi hj
      rw [cell_of_row w g _ cur e (0, 0) hg]
      have : (cur.toList.take (L.length * s))[i * s + j]? = xs[i * s + j]? := by rw [htk]
      rw [List.getElem?_take, if_pos (by rw [← ho.1]; exact hl)] at this
      simp only [Nat.zero_add]
      rw [← Array.getElem?_toList, this, List.getD_eq_getElem?_getD, List.getElem?_eq_getElem hl]
      rfl
    · have hl := hget i j hi hj
      rw [List.getD_eq_getElem?_getD, List.getElem?_eq_getElem hl]
      exact hone _ (List.getElem_mem hl)

/-- The mark of a loop over a function. -/
def mark (D : Nat) : Deferred := { target := .collected D, args := #[] }
/-- Its deferred calls: none but the marks of loops over functions, whose blocks hold none; whatever is no cells lies as it lay. -/
def NoD (base : Nat) (w0 w : World) (ds : List Deferred) : Prop :=
  KeepsOthers w0 w ∧ ∃ Ds : List Nat, ds = Ds.map mark ∧ Ds.Nodup ∧ ∀ D ∈ Ds, base ≤ D ∧ w0.heap.size ≤ D ∧ w.heap[D]? = some (.deferred (some []))
theorem NoD.nil (base : Nat) (w : World) : NoD base w w [] := ⟨KeepsOthers.refl _, [], rfl, List.nodup_nil, fun D h => by cases h⟩
/-- **What a state says**: base: the heap's size at the start; w0: the world there; ok0: the blocks of the arguments; isd: the stamps that are out. -/
structure HR (base : Nat) (w0 : World) (ok0 : Nat → Prop) (isd : Nat → Prop) (tm : List DE) (blk : Nat → DB) (ρ : Nat → Value) (a : Act) (w : World) : Prop where
  tms : ∀ t, RD w (okF base ok0 blk ρ) ρ blk isd (tm.getD t .any) (a.tmps.getD t undef)
  blks : ∀ b, RB w (okF base ok0 blk ρ) ρ blk isd base b (blk b)
  inj : ∀ b b', isLive (blk b) = true → isLive (blk b') = true → b ≠ b' → ∀ g, blkNo (ρ b) = some g → blkNo (ρ b') ≠ some g
  frs : ∀ b, ¬ isd b → blk b = .dead
  size : a.tmps.size = tm.length
  nod : NoD base w0 w a.defers
  bel : Below base w0 w
  low : base ≤ w.heap.size
  drw : w0.drawn ≤ w.drawn
  gl : Gl base w0 ok0

section
variable {base : Nat} {w0 : World} {ok0 isd : Nat → Prop} {tm : List DE} {blk : Nat → DB} {ρ : Nat → Value} {a : Act} {w : World}
theorem HR.live_lt (h : HR base w0 ok0 isd tm blk ρ a w) {b g : Nat} (hl : isLive (blk b) = true) (hg : blkNo (ρ b) = some g) : base ≤ g ∧ g < w.heap.size := by
  have := h.blks b
  cases hb : blk b with
  | dead => rw [hb] at hl; cases hl
  | fz n x => rw [hb] at hl; cases hl
  | sv ds vs => rw [hb] at hl; cases hl
  | cells t cs =>
    rw [hb] at this
    obtain ⟨g', vs, e, h1, h2, _⟩ := this
    rw [e] at hg
    injection hg with hg
    subst hg
    exact ⟨h1, (Array.getElem?_eq_some_iff.1 h2).1⟩
  | row e s n x =>
    rw [hb] at this
    obtain ⟨_, h1⟩ := this
    exact h1.lt (h1.blkNo_eq.trans hg)
theorem HR.live_cells (h : HR base w0 ok0 isd tm blk ρ a w) {b g : Nat} (hl : isLive (blk b) = true) (hg : blkNo (ρ b) = some g) : ∃ o : Obj, w.heap[g]? = some o ∧ o.isCells = true := by
  have := h.blks b
  cases hb : blk b with
  | dead => rw [hb] at hl; cases hl
  | fz n x => rw [hb] at hl; cases hl
  | sv ds vs => rw [hb] at hl; cases hl
  | cells t cs =>
    rw [hb] at this
    obtain ⟨g', vs, e, h1, h2, _⟩ := this
    rw [e] at hg
    injection hg with hg
    subst hg
    exact ⟨_, h2, rfl⟩
  | row e s n x =>
    rw [hb] at this
    obtain ⟨_, h1⟩ := this
    have hg' := h1.blkNo_eq.trans hg
    obtain ⟨L, xs, e1, hs, hL, ho, hone, hv⟩ := h1
    rcases ho.2 with ⟨e, h0⟩ | ⟨g', cap, cur, e, _, h2, _⟩
    · rw [e] at hg'; cases hg'
    · rw [e] at hg'
      injection hg' with hg'
      subst hg'
      exact ⟨_, h2, rfl⟩
/-- **One step**: the blocks 'chg' change; only they are touched; what is new lies anew. -/
theorem HR.step2 (h : HR base w0 ok0 isd tm blk ρ a w) {isd' : Nat → Prop} {tm' : List DE} {blk' : Nat → DB} {ρ' : Nat → Value} {a' : Act} {w' : World} (chg : Nat → Prop)
    (hblk : ∀ b, ¬ chg b → blk' b = blk b) (hρ : ∀ b, ¬ chg b → ρ' b = ρ b) (hcell : ∀ b t cs, chg b → blk b = .cells t cs → ρ' b = ρ b)
    (hI : ∀ n, isd n → isd' n) (hfr : ∀ b, chg b → isd' b) (hstamp : ∀ b n, chg b → isd n → stampOf (blk' b) = some n → stampOf (blk b) = some n ∧ ρ' b = ρ b)
    (hgrow : w.heap.size ≤ w'.heap.size) (hheap : ∀ g, g < w.heap.size → (∀ b, chg b → isLive (blk b) = true → blkNo (ρ b) ≠ some g) → w'.heap[g]? = w.heap[g]?)
    (hlive : ∀ b, chg b → isLive (blk' b) = true → ∀ g, blkNo (ρ' b) = some g → (∃ c, chg c ∧ isLive (blk c) = true ∧ blkNo (ρ c) = some g) ∨ w.heap.size ≤ g)
    (hinj : ∀ b b', chg b → chg b' → isLive (blk' b) = true → isLive (blk' b') = true → b ≠ b' → ∀ g, blkNo (ρ' b) = some g → blkNo (ρ' b') ≠ some g)
    (hos : w'.os = w.os) (htape : w'.tape = w.tape) (hout : w'.output = w.output)
    (hRB : ((∀ g, okF base ok0 blk ρ g → g < w.heap.size → okF base ok0 blk' ρ' g ∧ w'.heap[g]? = w.heap[g]?)) → (∀ d v, RD w (okF base ok0 blk ρ) ρ blk isd d v → RD w' (okF base ok0 blk' ρ') ρ' blk' isd' d v) → ∀ b, chg b → RB w' (okF base ok0 blk' ρ') ρ' blk' isd' base b (blk' b))
    (htm : ((∀ g, okF base ok0 blk ρ g → g < w.heap.size → okF base ok0 blk' ρ' g ∧ w'.heap[g]? = w.heap[g]?)) → ∀ t, (tm'.getD t .any = tm.getD t .any ∧ a'.tmps.getD t undef = a.tmps.getD t undef) ∨ RD w' (okF base ok0 blk' ρ') ρ' blk' isd' (tm'.getD t .any) (a'.tmps.getD t undef))
    (hsize : a'.tmps.size = tm'.length) (hnod : a'.defers = a.defers) (hdrw : w.drawn ≤ w'.drawn := by first | exact Nat.le_refl _ | exact Nat.le_succ _ | assumption) : HR base w0 ok0 isd' tm' blk' ρ' a' w' := by
  have H1 : ∀ g, okF base ok0 blk ρ g → g < w.heap.size → okF base ok0 blk' ρ' g ∧ w'.heap[g]? = w.heap[g]? := by
    intro g hg hlt
    refine ⟨⟨hg.1, fun b hl e => ?_⟩, hheap g hlt fun b _ hl => hg.2 b hl⟩
    by_cases hc : chg b
    · rcases hlive b hc hl g e with ⟨c, _, h1, h2⟩ | h1
      · exact hg.2 c h1 h2
      · omega
    · rw [hblk b hc] at hl; rw [hρ b hc] at e; exact hg.2 b hl e
  have H2 : ∀ b g, ρ b = .pointer (some ⟨g, 0, none⟩) → ρ' b = ρ b := by
    intro b g e
    by_cases hc : chg b
    · have hb := h.blks b
      cases hk : blk b with
      | dead => rw [hk] at hb; have hb' : ρ b = undef := hb; rw [e] at hb'; cases hb'
      | cells t cs => exact hcell b t cs hc hk
      | row e' s n x => rw [hk] at hb; exact absurd e (hb.2.notPtr _)
      | fz n x => rw [hk] at hb; exact absurd e (hb.2.2 g)
      | sv ds vs => rw [hk] at hb; have hb' : ρ b = undef := hb.1; rw [e] at hb'; cases hb'
    · exact hρ b hc
  have H4 : ∀ b n, isd n → stampOf (blk' b) = some n → stampOf (blk b) = some n ∧ ρ' b = ρ b := by
    intro b n hn hs
    by_cases hc : chg b
    · exact hstamp b n hc hn hs
    · rw [hblk b hc] at hs; exact ⟨hs, hρ b hc⟩
  have H5 : ∀ d v, RD w (okF base ok0 blk ρ) ρ blk isd d v → RD w' (okF base ok0 blk' ρ') ρ' blk' isd' d v := fun d v hd => hd.mono H1 H2 hI H4
  have hkeep : ∀ b, ¬ chg b → isLive (blk b) = true → ∀ g, blkNo (ρ b) = some g → w'.heap[g]? = w.heap[g]? := fun b hc hl g e =>
    hheap g (h.live_lt hl e).2 fun b' hc' hl' e' => h.inj b b' hl hl' (fun x => hc (x ▸ hc')) g e e'
  have hkeepO : KeepsOthers w w' := ⟨hgrow, fun k o hk ho => (hheap k (Array.getElem?_eq_some_iff.1 hk).1 fun b _ hl e => by
    obtain ⟨o', h1, h2⟩ := h.live_cells hl e
    rw [hk] at h1
    injection h1 with h1
    rw [h1, h2] at ho; cases ho).trans hk⟩
  have hnod' : NoD base w0 w' a'.defers := by
    obtain ⟨q1, Ds, q2, q3, q4⟩ := h.nod
    exact ⟨q1.trans hkeepO, Ds, hnod.trans q2, q3, fun D hD => ⟨(q4 D hD).1, (q4 D hD).2.1, hkeepO.same D _ (q4 D hD).2.2 rfl⟩⟩
  refine ⟨fun t => ?_, fun b => ?_, ?_, fun b hb => ?_, hsize, hnod', ?_, Nat.le_trans h.low hgrow, Nat.le_trans h.drw hdrw, h.gl⟩
  · rcases htm H1 t with ⟨e1, e2⟩ | hr
    · rw [e1, e2]; exact H5 _ _ (h.tms t)
    · exact hr
  · by_cases hc : chg b
    · exact hRB H1 H5 b hc
    · rw [hblk b hc]
      have hb := h.blks b
      have hk := hkeep b hc
      cases hkb : blk b with
      | dead => rw [hkb] at hb; exact (hρ b hc).trans hb
      | cells t cs =>
        rw [hkb] at hb hk
        obtain ⟨g, vs, e, h1, h2, h3, h3', h4⟩ := hb
        exact ⟨g, vs, (hρ b hc).trans e, h1, (hk rfl g (by rw [e]; rfl)).trans h2, h3, h3', fun i hi => H5 _ _ (h4 i hi)⟩
      | row e s n x =>
        rw [hkb] at hb hk
        refine ⟨hI n hb.1, ?_⟩
        rw [hρ b hc]
        exact hb.2.keep (fun g hg => hk rfl g (hb.2.blkNo_eq ▸ hg)) H1
      | fz n x =>
        rw [hkb] at hb
        refine ⟨hI n hb.1, ?_, ?_⟩
        · rw [hρ b hc]; exact hb.2.1.mono H1
        · rw [hρ b hc]; exact hb.2.2
      | sv ds vs =>
        rw [hkb] at hb
        exact ⟨(hρ b hc).trans hb.1, hb.2.1, fun t => H5 _ _ (hb.2.2 t)⟩
  · intro b b' hl hl' hne g hg hg'
    by_cases hc : chg b
    · by_cases hc' : chg b'
      · exact hinj b b' hc hc' hl hl' hne g hg hg'
      · rw [hblk b' hc'] at hl'; rw [hρ b' hc'] at hg'
        rcases hlive b hc hl g hg with ⟨c, hcc, h1, h2⟩ | h1
        · exact h.inj c b' h1 hl' (fun e => hc' (e ▸ hcc)) g h2 hg'
        · have := (h.live_lt hl' hg').2; omega
    · rw [hblk b hc] at hl; rw [hρ b hc] at hg
      by_cases hc' : chg b'
      · rcases hlive b' hc' hl' g hg' with ⟨c, hcc, h1, h2⟩ | h1
        · exact h.inj b c hl h1 (fun e => hc (e ▸ hcc)) g hg h2
        · have := (h.live_lt hl hg).2; omega
      · rw [hblk b' hc'] at hl'; rw [hρ b' hc'] at hg'
        exact h.inj b b' hl hl' hne g hg hg'
  · have hc : ¬ chg b := fun hc => hb (hfr b hc)
    rw [hblk b hc]
    exact h.frs b fun x => hb (hI b x)
  · refine h.bel.trans ⟨hos, htape, hout, hgrow, fun g hg => hheap g (Nat.lt_of_lt_of_le hg h.low) fun b _ hl e => ?_⟩
    have := (h.live_lt hl e).1; omega
theorem HR.step (h : HR base w0 ok0 isd tm blk ρ a w) {isd' : Nat → Prop} {tm' : List DE} {blk' : Nat → DB} {ρ' : Nat → Value} {a' : Act} {w' : World} (chg : Nat → Prop)
    (hblk : ∀ b, ¬ chg b → blk' b = blk b) (hρ : ∀ b, ¬ chg b → ρ' b = ρ b) (hcell : ∀ b t cs, chg b → blk b = .cells t cs → ρ' b = ρ b) (_hfz : ∀ b n x, chg b → blk b ≠ .fz n x)
    (hI : ∀ n, isd n → isd' n) (hfr : ∀ b, chg b → isd' b) (hstamp : ∀ b n, chg b → isd n → stampOf (blk' b) = some n → stampOf (blk b) = some n ∧ ρ' b = ρ b)
    (hgrow : w.heap.size ≤ w'.heap.size) (hheap : ∀ g, g < w.heap.size → (∀ b, chg b → isLive (blk b) = true → blkNo (ρ b) ≠ some g) → w'.heap[g]? = w.heap[g]?)
    (hlive : ∀ b, chg b → isLive (blk' b) = true → ∀ g, blkNo (ρ' b) = some g → (isLive (blk b) = true ∧ blkNo (ρ b) = some g) ∨ w.heap.size ≤ g)
    (hinj : ∀ b b', chg b → chg b' → isLive (blk' b) = true → isLive (blk' b') = true → b ≠ b' → ∀ g, blkNo (ρ' b) = some g → blkNo (ρ' b') ≠ some g)
    (hos : w'.os = w.os) (htape : w'.tape = w.tape) (hout : w'.output = w.output)
    (hRB : ((∀ g, okF base ok0 blk ρ g → g < w.heap.size → okF base ok0 blk' ρ' g ∧ w'.heap[g]? = w.heap[g]?)) → (∀ d v, RD w (okF base ok0 blk ρ) ρ blk isd d v → RD w' (okF base ok0 blk' ρ') ρ' blk' isd' d v) → ∀ b, chg b → RB w' (okF base ok0 blk' ρ') ρ' blk' isd' base b (blk' b))
    (htm : ((∀ g, okF base ok0 blk ρ g → g < w.heap.size → okF base ok0 blk' ρ' g ∧ w'.heap[g]? = w.heap[g]?)) → ∀ t, (tm'.getD t .any = tm.getD t .any ∧ a'.tmps.getD t undef = a.tmps.getD t undef) ∨ RD w' (okF base ok0 blk' ρ') ρ' blk' isd' (tm'.getD t .any) (a'.tmps.getD t undef))
    (hsize : a'.tmps.size = tm'.length) (hnod : a'.defers = a.defers) (hdrw : w.drawn ≤ w'.drawn := by first | exact Nat.le_refl _ | exact Nat.le_succ _ | assumption) : HR base w0 ok0 isd' tm' blk' ρ' a' w' :=
  h.step2 chg hblk hρ hcell hI hfr hstamp hgrow hheap (fun b hc hl g e => (hlive b hc hl g e).imp (fun q => ⟨b, hc, q.1, q.2⟩) id) hinj hos htape hout hRB htm hsize hnod hdrw
end
end Go.Proofs.Ytfdpbfdhcngfgaa
