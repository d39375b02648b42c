/- Texts of one proof, part 3: plain values, a run over them, contracts of functions. -/
import Derived.Test.YtcifjnhpgblnkaaGreatDoorM2
import Derived.Deep.LoopGhost
import Derived.LoopN
import Derived.RangeFuncCalls
import Derived.Test.YtcifjnhpgblnkaaGreatDoorM1
import Derived.Lib.SmallJoins
namespace Go.Proofs.YtcifjnhpgblnkaaGreatDoor
open Go.RowKit
set_option linter.unusedVariables false
set_option linter.unusedSimpArgs false
def DCl (ops : List Oper) (S : Nat → Bool) : Prop := ∀ k o, ops[k]? = some o → S k = true → ∀ e ∈ o.after, Region.binds .any e = true → S e.on = true
theorem mask_bit (acc : List Nat) (i : Nat) : ∀ (es : List Edge) (s : Nat), (es.foldl (fun s e => if Region.binds .any e then s ||| 2 ^ e.on ||| acc.getD e.on 0 else s) s).testBit i = true →
  s.testBit i = true ∨ ∃ e ∈ es, Region.binds .any e = true ∧ (i = e.on ∨ (acc.getD e.on 0).testBit i = true)
 | [], s, h => .inl h
 | e :: es, s, h => by
  rw [List.foldl_cons] at h
  rcases mask_bit acc i es _ h with q | ⟨e', h1, h2, h3⟩
  ·split at q
   ·rename_i hb
    rw [Nat.testBit_or, Nat.testBit_or, Bool.or_eq_true, Bool.or_eq_true, Nat.testBit_two_pow] at q
    rcases q with (q | q) | q
    ·exact .inl q
    ·exact .inr ⟨e, by simp, hb, .inl (by simpa using (of_decide_eq_true q).symm)⟩
    ·exact .inr ⟨e, by simp, hb, .inr q⟩
   ·exact .inl q
  ·exact .inr ⟨e', by simp [h1], h2, h3⟩
theorem waits_acc {ops : List Oper} {S : Nat → Bool} (hS : DCl ops S) : ∀ (rest : List Oper) (acc : List Nat), (∀ i, rest[i]? = ops[acc.length + i]?) → (∀ k i, (acc.getD k 0).testBit i = true → S k = true → S i = true) →
  ∀ k i, ((rest.foldl (fun acc o => acc ++ [o.after.toList.foldl (fun s e => if Region.binds .any e then s ||| 2 ^ e.on ||| acc.getD e.on 0 else s) 0]) acc).getD k 0).testBit i = true → S k = true → S i = true
 | [], acc, _, h => h
 | o :: rest, acc, hr, h => by
  rw [List.foldl_cons]
  refine waits_acc hS rest _ (fun i => ?_) (fun k i hb hk => ?_)
  ·have := hr (i + 1)
   simpa [Nat.add_assoc, Nat.add_comm 1 i] using this
  ·rcases Nat.lt_trichotomy k acc.length with q | q | q
   ·rw [List.getD_eq_getElem?_getD, List.getElem?_append_left q, ← List.getD_eq_getElem?_getD] at hb
    exact h k i hb hk
   ·subst q
    rw [List.getD_eq_getElem?_getD, List.getElem?_append_right (Nat.le_refl _)] at hb
    simp only [Nat.sub_self, List.getElem?_cons_zero, Option.getD_some] at hb
    have ho : ops[acc.length]? = some o := by have := hr 0; simpa using this.symm
    rcases mask_bit acc i _ _ hb with z | ⟨e, he1, he2, he3⟩
    ·simp at z
    ·have hs := hS acc.length o ho hk e (by simpa using he1) he2
     rcases he3 with rfl | he3
     ·exact hs
     ·exact h e.on i he3 hs
   ·rw [List.getD_eq_getElem?_getD, List.getElem?_eq_none (by simp; omega)] at hb
    simp at hb
theorem waits_closed {ops : List Oper} {S : Nat → Bool} (hS : DCl ops S) {k i : Nat} (h : ((waits ops).getD k 0).testBit i = true) (hk : S k = true) : S i = true :=
 waits_acc hS ops [] (fun i => by simp) (fun k i hb => by simp at hb) k i h hk
theorem clash_spec {ws : List Nat} {fs : List Foot} (h : clashOk ws fs = true) {i k : Nat} {a b : Foot} (hik : i < k) (hi : fs[i]? = some a) (hk : fs[k]? = some b) (hc : clash a b = true) : (ws.getD k 0).testBit i = true := by
 unfold clashOk at h
 have hkl : k < fs.length := (List.getElem?_eq_some_iff.1 hk).1
 have h1 := List.all_eq_true.1 h k (by simpa using hkl)
 have h2 := List.all_eq_true.1 h1 i (by simpa using hik)
 rw [hi, hk] at h2
 simpa [hc] using h2
theorem meets_of {a b : List Nat} {x : Nat} (h1 : x ∈ a) (h2 : x ∈ b) : meets a b = true := by
 unfold meets
 exact List.any_eq_true.2 ⟨x, h1, by simpa using h2⟩
theorem HR.congr {base : Nat} {w0 : World} {ok0 isd isd' : Nat → Prop} {tm tm' : List DE} {blk blk' : Nat → DB} {ρ : Nat → Value} {a : Act} {w : World} (h : HR base w0 ok0 isd tm blk ρ a w) (h1 : ∀ t, tm'.getD t .any = tm.getD t .any) (h2 : tm'.length = tm.length) (h3 : ∀ b, blk' b = blk b) (h4 : ∀ n, isd n → isd' n) :
  HR base w0 ok0 isd' tm' blk' ρ a w := by
 obtain rfl : blk' = blk := funext h3
 have h' := h.same h4 w rfl rfl rfl rfl
 exact ⟨fun t => by rw [h1]; exact h'.tms t, h'.blks, h'.inj, h'.frs, by rw [h2]; exact h'.size, h'.nod, h'.bel, h'.low, h'.drw, h'.gl⟩
def viewOf (tm : List DE) (blk : Nat → DB) (o : Op) : View :=
  { tm := fun t => if (opTmps o).contains t then tm.getD t .any else .any
    bl := fun b => if (opBlks o fun t => tm.getD t .any).contains b then blk b else .dead }
theorem viewOf_ok (tm : List DE) (blk : Nat → DB) (o : Op) : VOk (viewOf tm blk o) tm blk := by
 refine ⟨fun t => ?_, fun b => ?_⟩
 ·simp only [viewOf]; split
  ·exact .inl rfl
  ·exact .inr rfl
 ·simp only [viewOf]; split
  ·exact .inl rfl
  ·exact .inr rfl
theorem viewOf_eq {tm tm' : List DE} {blk blk' : Nat → DB} {o : Op} (h1 : ∀ t, t ∈ opTmps o → tm.getD t .any = tm'.getD t .any) (h2 : ∀ b, b ∈ (opBlks o fun t => tm'.getD t .any) → blk b = blk' b) : viewOf tm blk o = viewOf tm' blk' o := by
 have hids : (opBlks o fun t => tm.getD t .any) = (opBlks o fun t => tm'.getD t .any) := by
  have : ((opTmps o).flatMap fun t => (tm.getD t .any).ids) = ((opTmps o).flatMap fun t => (tm'.getD t .any).ids) := by
   rw [List.flatMap_def, List.flatMap_def]
   congr 1
   exact List.map_congr_left fun t ht => by rw [h1 t ht]
  unfold opBlks
  split
  ·rfl
  ·exact this
 unfold viewOf
 congr 1
 ·funext t
  split
  ·rename_i hc; exact h1 t (by simpa using hc)
  ·rfl
 ·funext b
  rw [hids]
  split
  ·rename_i hc; exact h2 b (by simpa using hc)
  ·rfl
section
variable {P : Program} {Γ : FuncId → Option Ca} {base : Nat} {w0 : World} {ok0 : Nat → Prop} {ops : List Oper} {l : List (Oper × Rec)} {σ0 : DS}
def isdS (c : Nat) (S : Nat → Bool) (n : Nat) : Prop := n < c ∨ ∃ k, S k = true ∧ c + 64 * k ≤ n ∧ n < c + 64 * k + 64
theorem draw_step (hTr : TrOk P Γ ops l σ0) (hl : l.map (·.1) = ops) (hcl : clashOk (waits ops) (feet ops l σ0) = true) {S : Nat → Bool} (hS : DCl ops S) {i : Nat} {o : Oper} (ho : ops[i]? = some o) (hi : S i = false) (hrd : ∀ e ∈ o.after, Region.binds .any e = true → S e.on = true)
  {ρ : Nat → Value} {a : Act} {w : World} (h : HR base w0 ok0 (isdS σ0.clk S) (ov l S (σ0.tm, σ0.blk) l.length).1 (ov l S (σ0.tm, σ0.blk) l.length).2 ρ a w) {K : Act → World → Prop} {Q : Exit → Act → World → Prop}
  (hK : ∀ ρ' a' w', HR base w0 ok0 (isdS σ0.clk (fun k => S k || k == i)) (ov l (fun k => S k || k == i) (σ0.tm, σ0.blk) l.length).1 (ov l (fun k => S k || k == i) (σ0.tm, σ0.blk) l.length).2 ρ' a' w' → K a' w') : wpOp P ops.toArray Q i K a w := by
 obtain ⟨rc, hli⟩ : ∃ rc, l[i]? = some (o, rc) := by
  have : (l.map (·.1))[i]? = some o := by rw [hl]; exact ho
  rw [List.getElem?_map] at this
  cases hq : l[i]? with
  | none => rw [hq] at this; cases this
  | some q => rw [hq] at this; simp only [Option.map_some, Option.some.injEq] at this; exact ⟨q.2, by rw [← this]⟩
 have hil : i < l.length := (List.getElem?_eq_some_iff.1 hli).1
 obtain ⟨σi, e1, e2, hgate, hval, hfi⟩ := tr_at l σ0 hTr i o rc hli
 have hS2 : DCl ops (fun k => S k || k == i) := by
  intro k o' ho' hk e he hb
  simp only [Bool.or_eq_true, beq_iff_eq] at hk ⊢
  rcases hk with hk | hk
  ·exact .inl (hS k o' ho' hk e he hb)
  ·subst hk
   rw [ho] at ho'
   injection ho' with ho'
   subst ho'
   exact .inl (hrd e he hb)
 have below : ∀ k o' rc', l[k]? = some (o', rc') → k < i → (∀ σk, clash (footAt ops o' rc' σk) (footAt ops o rc σi) = true) → S k = true := by
  intro k o' rc' hlk hki hc
  obtain ⟨σk, _, _, _, _, hfk⟩ := tr_at l σ0 hTr k o' rc' hlk
  have hb := clash_spec hcl hki hfk hfi (hc σk)
  have := waits_closed hS2 hb (by simp)
  simp only [Bool.or_eq_true, beq_iff_eq] at this
  exact this.resolve_right (by omega)
 have above : ∀ k o' rc', l[k]? = some (o', rc') → i < k → (∀ σk, clash (footAt ops o rc σi) (footAt ops o' rc' σk) = true) → S k = false := by
  intro k o' rc' hlk hki hc
  obtain ⟨σk, _, _, _, _, hfk⟩ := tr_at l σ0 hTr k o' rc' hlk
  have hb := clash_spec hcl hki hfi hfk (hc σk)
  cases hk : S k with
  | false => rfl
  | true =>
   have := waits_closed hS hb hk
   rw [hi] at this; cases this
 have wt_foot : ∀ (o' : Oper) (rc' : Rec) (σk : DS), (footAt ops o' rc' σk).wt = o'.dst.toList := fun o' rc' σk => by
  unfold footAt; split <;> rfl
 have wb_foot : ∀ (o' : Oper) (rc' : Rec) (σk : DS), (footAt ops o' rc' σk).wb = rc'.bs.map (·.1) := fun o' rc' σk => by
  unfold footAt Rec.bs; split <;> rfl
 have ovlt : ov l (fun k => decide (k < i)) (σ0.tm, σ0.blk) l.length = (σi.tm, σi.blk) := by
  rw [ov_stop i l.length (by omega) (fun k h1 h2 => by simp; omega), e1]
  exact ov_congr i fun k hk => by simp [hk]
 have hslot : ∀ t, t ∈ (footAt ops o rc σi).rt → (ov l S (σ0.tm, σ0.blk) l.length).1.getD t .any = σi.tm.getD t .any := by
  intro t ht
  have := ov_slot (l := l) (S := S) (S' := fun k => decide (k < i)) (s0 := (σ0.tm, σ0.blk)) (t := t) l.length (fun k hk o' rc' hlk hd => ?_)
  ·rw [this, ovlt]
  ·rcases Nat.lt_trichotomy k i with q | q | q
   ·rw [below k o' rc' hlk q fun σk => ?_]
    ·simp [q]
    ·unfold clash
     rw [meets_of (x := t) (by rw [wt_foot, hd]; simp) ht]; rfl
   ·subst q; simp [hi]
   ·rw [above k o' rc' hlk q fun σk => ?_]
    ·simp; omega
    ·unfold clash
     have : meets (footAt ops o rc σi).rt (footAt ops o' rc' σk).wt = true := meets_of (x := t) ht (by rw [wt_foot, hd]; simp)
     simp [this]
 have hblock : ∀ b, b ∈ (footAt ops o rc σi).rb → (ov l S (σ0.tm, σ0.blk) l.length).2 b = σi.blk b := by
  intro b hb
  have := ov_block (l := l) (S := S) (S' := fun k => decide (k < i)) (s0 := (σ0.tm, σ0.blk)) (b := b) l.length (fun k hk o' rc' hlk hd => ?_)
  ·rw [this, ovlt]
  ·rcases Nat.lt_trichotomy k i with q | q | q
   ·rw [below k o' rc' hlk q fun σk => ?_]
    ·simp [q]
    ·unfold clash
     have : meets (footAt ops o' rc' σk).wb (footAt ops o rc σi).rb = true := meets_of (x := b) (by rw [wb_foot]; exact hd) hb
     simp [this]
   ·subst q; simp [hi]
   ·rw [above k o' rc' hlk q fun σk => ?_]
    ·simp; omega
    ·unfold clash
     have : meets (footAt ops o rc σi).rb (footAt ops o' rc' σk).wb = true := meets_of (x := b) hb (by rw [wb_foot]; exact hd)
     simp [this]
 have hnewT : ∀ t, (ov l (fun k => S k || k == i) (σ0.tm, σ0.blk) l.length).1.getD t .any = (setD (ov l S (σ0.tm, σ0.blk) l.length).1 o.dst rc.d).getD t .any := by
  intro t
  rw [setD_getD, ov_len]
  split
  ·rename_i hc
   have := ov_slot (l := l) (S := fun k => S k || k == i) (S' := fun k => decide (k ≤ i)) (s0 := (σ0.tm, σ0.blk)) (t := t) l.length (fun k hk o' rc' hlk hd => ?_)
   ·rw [this, ov_stop (i + 1) l.length (by omega) (fun k h1 h2 => by simp; omega)]
    simp only [ov, Nat.le_refl, decide_true, hli, app2, setD_getD, ov_len]
    rw [if_pos hc]
   ·rcases Nat.lt_trichotomy k i with q | q | q
    ·have : S k = true := below k o' rc' hlk q fun σk => by
      unfold clash
      have : meets (footAt ops o' rc' σk).wt (footAt ops o rc σi).wt = true := meets_of (x := t) (by rw [wt_foot, hd]; simp) (by rw [wt_foot, hc.1]; simp)
      simp [this]
     simp [this]; omega
    ·subst q; simp
    ·have : S k = false := above k o' rc' hlk q fun σk => by
      unfold clash
      have : meets (footAt ops o rc σi).wt (footAt ops o' rc' σk).wt = true := meets_of (x := t) (by rw [wt_foot, hc.1]; simp) (by rw [wt_foot, hd]; simp)
      simp [this]
     have q1 : ¬ k = i := by omega
     have q2 : ¬ k ≤ i := by omega
     simp [this, q1, q2]
  ·rename_i hc
   by_cases htl : t < σ0.tm.length
   ·exact ov_slot l.length fun k hk o' rc' hlk hd => by
     have hki : k ≠ i := fun e => by
      subst e
      rw [hli] at hlk
      injection hlk with hlk
      injection hlk with q1 q2
      subst q1
      exact hc ⟨hd, htl⟩
     simp [hki]
   ·have hlen : ∀ T : Nat → Bool, (ov l T (σ0.tm, σ0.blk) l.length).1.getD t .any = .any := fun T => by
     have := ov_len (l := l) (S := T) (s0 := (σ0.tm, σ0.blk)) l.length
     rw [List.getD_eq_getElem?_getD, List.getElem?_eq_none (by rw [this]; simpa using htl)]; rfl
    rw [hlen, hlen]
 have hnewB : ∀ b, (ov l (fun k => S k || k == i) (σ0.tm, σ0.blk) l.length).2 b = updB (ov l S (σ0.tm, σ0.blk) l.length).2 rc.bs b := by
  intro b
  by_cases hc : b ∈ rc.bs.map (·.1)
  ·have := ov_block (l := l) (S := fun k => S k || k == i) (S' := fun k => decide (k ≤ i)) (s0 := (σ0.tm, σ0.blk)) (b := b) l.length (fun k hk o' rc' hlk hd => ?_)
   ·rw [this, ov_stop (i + 1) l.length (by omega) (fun k h1 h2 => by simp; omega)]
    simp only [ov, Nat.le_refl, decide_true, hli, app2]
    exact updB_of_mem hc
   ·rcases Nat.lt_trichotomy k i with q | q | q
    ·have : S k = true := below k o' rc' hlk q fun σk => by
      unfold clash
      have : meets (footAt ops o' rc' σk).wb (footAt ops o rc σi).wb = true := meets_of (x := b) (by rw [wb_foot]; exact hd) (by rw [wb_foot]; exact hc)
      simp [this]
     simp [this]; omega
    ·subst q; simp
    ·have : S k = false := above k o' rc' hlk q fun σk => by
      unfold clash
      have : meets (footAt ops o rc σi).wb (footAt ops o' rc' σk).wb = true := meets_of (x := b) (by rw [wb_foot]; exact hc) (by rw [wb_foot]; exact hd)
      simp [this]
     have q1 : ¬ k = i := by omega
     have q2 : ¬ k ≤ i := by omega
     simp [this, q1, q2]
  ·rw [updB_of_not hc]
   exact ov_block l.length fun k hk o' rc' hlk hd => by
    have hki : k ≠ i := fun e => by
     subst e
     rw [hli] at hlk
     injection hlk with hlk
     injection hlk with q1 q2
     subst q2
     exact hc hd
    simp [hki]
 have hnewI : ∀ n, NewI (isdS σ0.clk S) (σ0.clk + 64 * i) n → isdS σ0.clk (fun k => S k || k == i) n := by
  intro n hn
  rcases hn with (hn | ⟨k, h1, h2⟩) | hn
  ·exact .inl hn
  ·exact .inr ⟨k, by simp [h1], h2⟩
  ·exact .inr ⟨i, by simp, hn.1, by omega⟩
 have hfresh : ∀ n, σ0.clk + 64 * i ≤ n → n < σ0.clk + 64 * i + 64 → ¬ isdS σ0.clk S n := by
  rintro n h1 h2 (h3 | ⟨k, h4, h5, h6⟩)
  ·omega
  ·obtain rfl : k = i := by omega
   rw [hi] at h4; cases h4
 have hwant : Region.wanted o (yielded ops.toArray a.tmps) = rc.run := by
  unfold Region.wanted
  unfold GateOk at hgate
  split at hgate
  ·rename_i hg; rw [hg]; exact hgate.symm
  ·rename_i j want hg
   rw [hg]
   obtain ⟨t, ht, hall⟩ := hgate
   simp only
   rw [yielded_slot ht]
   have hrt : t ∈ (footAt ops o rc σi).rt := by
    have : t ∈ gdSlot ops o := by
     unfold gdSlot
     rw [hg]
     simp only
     have : ((ops[j]?).bind (·.dst)) = some t := ht
     rw [this]; simp
    unfold footAt
    split
    ·exact List.mem_append_right _ this
    ·exact this
   have hr := h.tms t
   rw [hslot t hrt] at hr
   have := hall _ _ _ _ _ _ hr
   rw [← this]
   rw [Array.getD_eq_getD_getElem?]
   cases hq : a.tmps[t]? with
   | none => simp [undef]
   | some v => cases v <;> rfl
 unfold wpOp
 have ho2 : ops.toArray[i]? = some o := by simpa using ho
 rw [ho2]
 simp only [hwant]
 cases hrun : rc.run with
 | true =>
  simp only [if_true]
  left
  have hfoot : footAt ops o rc σi = footOf ops o σi rc.δ.bs := by unfold footAt; rw [hrun]; rfl
  have hview : viewOf (ov l S (σ0.tm, σ0.blk) l.length).1 (ov l S (σ0.tm, σ0.blk) l.length).2 o.op = σi.view o.op :=
   viewOf_eq (fun t ht => hslot t (by rw [hfoot]; exact List.mem_append_left _ ht)) (fun b hb => hblock b (by rw [hfoot]; exact hb))
  have hv := hval hrun
  rw [← hview, e2] at hv
  refine op_sound1 (viewOf_ok _ _ _) h hfresh hv K Q fun ρ' v w' h' => hK ρ' _ w' ?_
  refine h'.congr (fun t => ?_) ?_ (fun b => ?_) hnewI
  ·rw [hnewT]; unfold Rec.d; rw [hrun]; rfl
  ·rw [ov_len, setD_len, ov_len]
  ·rw [hnewB]; unfold Rec.bs; rw [hrun]; rfl
 | false =>
  simp only [Bool.false_eq_true, if_false]
  have h' := h.put o.dst (d := .c undef) (.c undef) (σ0.clk + 64 * i) w rfl rfl rfl rfl
  refine hK ρ _ w (h'.congr (fun t => ?_) ?_ (fun b => ?_) hnewI)
  ·rw [hnewT]; unfold Rec.d; rw [hrun]; rfl
  ·rw [ov_len, setD_len, ov_len]
  ·rw [hnewB]; unfold Rec.bs; rw [hrun]; rfl
theorem count_set {n : Nat} {listed : Array Bool} (hn : listed.size = n) {i : Nat} (hi : i < n) (hf : listed.getD i true = false) :
  (List.range n).countP (fun k => !(listed.setIfInBounds i true).getD k false) + 1 = (List.range n).countP (fun k => !listed.getD k false) := by
 subst hn
 have key : ∀ m, m ≤ listed.size → (List.range m).countP (fun k => !(listed.setIfInBounds i true).getD k false) + (if i < m then 1 else 0) = (List.range m).countP (fun k => !listed.getD k false) := by
  intro m
  induction m with
  | zero => intro _; rfl
  | succ m ih =>
   intro hm
   have ih' := ih (by omega)
   rw [List.range_succ, List.countP_append, List.countP_append, List.countP_singleton, List.countP_singleton]
   by_cases e : i = m
   ·subst e
    have e1 : (listed.setIfInBounds i true).getD i false = true := by simp [hi]
    have e2 : listed.getD i false = false := by
     have : listed.getD i true = listed.getD i false := by simp [hi]
     rw [← this]; exact hf
    rw [e1, e2]
    simp only [Nat.lt_irrefl, if_false, Nat.add_zero] at ih'
    simp only [Bool.not_true, Bool.not_false, Bool.false_eq_true, if_false, if_true, Nat.lt_succ_self]
    omega
   ·have e1 : (listed.setIfInBounds i true).getD m false = listed.getD m false := by
     simp [Array.getElem?_setIfInBounds_ne e]
    rw [e1]
    generalize (if (!listed.getD m false) = true then 1 else 0) = c
    by_cases q : i < m
    ·rw [if_pos q] at ih'
     rw [if_pos (show i < m + 1 by omega)]
     omega
    ·rw [if_neg q] at ih'
     rw [if_neg (show ¬ i < m + 1 by omega)]
     omega
 have := key listed.size (Nat.le_refl _)
 rw [if_pos hi] at this
 exact this
theorem draw_sound (hm : P.follows .mixedOrders = true) (hTr : TrOk P Γ ops l σ0) (hl : l.map (·.1) = ops) (hdr : drawOk ops (feet ops l σ0) = true) {Q : Exit → Act → World → Prop} {ρ : Nat → Value} {a : Act} {w : World} (h : HS base w0 ok0 σ0 ρ a w)
  (hQ : ∀ ρ' a' w', HS base w0 ok0 (finS l σ0) ρ' a' w' → Q .normal a' w') (id : Nat) : (Code.region id ops.toArray true).wp P Q a w := by
 have hlen : l.length = ops.length := by rw [← hl]; simp
 unfold drawOk at hdr
 rw [Bool.and_eq_true, Bool.and_eq_true] at hdr
 obtain ⟨⟨hback, _⟩, hcl⟩ := hdr
 have hback' : ∀ i o, ops[i]? = some o → ∀ e ∈ o.after, Region.binds .any e = true → e.on < i := by
  intro i o ho e he hb
  unfold backOk at hback
  have h1 := List.all_eq_true.1 hback (o, i) (by rw [List.mk_mem_zipIdx_iff_getElem?]; exact ho)
  have h2 := List.all_eq_true.1 h1 e (by simpa using he)
  simpa [hb] using h2
 refine wp_region_any hm ?_
 have key : ∀ (fuel : Nat) (listed : Array Bool) (ρ : Nat → Value) (a : Act) (w : World), listed.size = ops.length → (List.range ops.length).countP (fun k => !listed.getD k false) = fuel → DCl ops (fun k => listed.getD k false) →
   HR base w0 ok0 (isdS σ0.clk (fun k => listed.getD k false)) (ov l (fun k => listed.getD k false) (σ0.tm, σ0.blk) l.length).1 (ov l (fun k => listed.getD k false) (σ0.tm, σ0.blk) l.length).2 ρ a w → wpAny P .any ops.toArray Q fuel listed a w := by
  intro fuel
  induction fuel with
  | zero =>
   intro listed ρ a w hsz hcnt hS h
   have hall : ∀ k, k < ops.length → listed.getD k false = true := fun k hk => by
    have := List.countP_eq_zero.1 hcnt k (by simpa using hk)
    simpa using this
   refine ⟨?_, ?_⟩
   ·apply List.eq_nil_iff_forall_not_mem.2
    intro j hj
    obtain ⟨h1, o, h2, _⟩ := mem_ready.1 hj
    have hj' : j < ops.length := by have := (Array.getElem?_eq_some_iff.1 h2).1; simpa using this
    have h3 := hall j hj'
    have : listed.getD j true = listed.getD j false := by simp [hsz, hj']
    rw [this, h3] at h1; cases h1
   ·obtain ⟨f1, f2⟩ := fin_s2 l σ0
    have e1 : ov l (fun k => listed.getD k false) (σ0.tm, σ0.blk) l.length = ((finS l σ0).tm, (finS l σ0).blk) := by
     rw [f1]; exact ov_congr _ fun k hk => hall k (hlen ▸ hk)
    rw [e1] at h
    refine hQ ρ a w (HR.same h (fun n hn => ?_) w rfl rfl rfl rfl)
    show n < (finS l σ0).clk
    rw [f2]
    rcases hn with hn | ⟨k, hk, h1, h2⟩
    ·omega
    ·have : k < ops.length := by
      rcases Nat.lt_or_ge k ops.length with q | q
      ·exact q
      ·have : listed.getD k false = false := by simp [hsz, q]
       have hk' : listed.getD k false = true := hk
       rw [this] at hk'; cases hk'
     omega
  | succ fuel ih =>
   intro listed ρ a w hsz hcnt hS h
   refine ⟨fun hr => ?_, fun i hi => ?_⟩
   · -- some operation is ready
    exfalso
    obtain ⟨k, hk1, hk2⟩ : ∃ k, k < ops.length ∧ listed.getD k false = false := by
     have hpos : 0 < (List.range ops.length).countP (fun k => !listed.getD k false) := by omega
     obtain ⟨k, h1, h2⟩ := List.countP_pos_iff.1 hpos
     exact ⟨k, by simpa using h1, by simpa using h2⟩
    have least : ∀ k, k < ops.length → listed.getD k false = false → False := by
     intro k
     induction k using Nat.strongRecOn with
     | _ k ihk =>
      intro hk1 hk2
      have ho : ops.toArray[k]? = some ops[k] := by simp [hk1]
      have : k ∈ Region.ready .any ops.toArray listed := mem_ready.2 ⟨by
       have : listed.getD k true = listed.getD k false := by simp [hsz, hk1]
       rw [this]; exact hk2, ops[k], ho, fun e he hb => by
       have hlt := hback' k ops[k] (by simp [hk1]) e he hb
       cases hq : listed.getD e.on false with
       | true => rfl
       | false => exact (ihk e.on hlt (by omega) hq).elim⟩
      rw [hr] at this
      cases this
    exact least k hk1 hk2
   ·obtain ⟨h1, o, h2, h3⟩ := mem_ready.1 hi
    have hi' : i < ops.length := by have := (Array.getElem?_eq_some_iff.1 h2).1; simpa using this
    have hi2 : listed.getD i false = false := by
     have : listed.getD i true = listed.getD i false := by simp [hsz, hi']
     rw [← this]; exact h1
    have ho : ops[i]? = some o := by simpa using h2
    have hset : ∀ k, (listed.setIfInBounds i true).getD k false = (listed.getD k false || k == i) := by
     intro k
     by_cases e : i = k
     ·subst e; simp [hsz, hi']
     ·have : (k == i) = false := by simpa using fun q => e q.symm
      simp [Array.getElem?_setIfInBounds_ne e, this]
    refine draw_step (S := fun k => listed.getD k false) hTr hl hcl hS ho hi2 (fun e he hb => h3 e he hb) h fun ρ' a' w' h' => ?_
    refine ih _ ρ' a' w' (by simpa using hsz) ?_ ?_ ?_
    ·have := count_set hsz hi' h1
     omega
    ·intro k o' ho' hk e he hb
     simp only [hset, Bool.or_eq_true, beq_iff_eq] at hk ⊢
     rcases hk with hk | hk
     ·exact .inl (hS k o' ho' hk e he hb)
     ·subst hk
      rw [ho] at ho'
      injection ho' with ho'
      subst ho'
      exact .inl (h3 e he hb)
    ·have e : (fun k => (listed.setIfInBounds i true).getD k false) = (fun k => listed.getD k false || k == i) := funext hset
     rw [e]; exact h'
 have h0 : ∀ k, (Array.replicate ops.toArray.size false).getD k false = false := fun k => by
  by_cases q : k < ops.length <;> simp [q]
 have e0 : (fun k => (Array.replicate ops.toArray.size false).getD k false) = fun _ => false := funext h0
 refine key ops.toArray.size (Array.replicate ops.toArray.size false) ρ a _ (by simp) ?_ ?_ ?_
 ·simp only [h0]
  simp
 ·intro k o ho hk
  have hk' : (Array.replicate ops.toArray.size false).getD k false = true := hk
  rw [h0] at hk'; cases hk'
 ·rw [e0, ov_stop 0 l.length (by omega) (fun _ _ _ => rfl)]
  exact HR.same h (fun n hn => .inl hn) _ rfl rfl rfl rfl
end
end Go.Proofs.YtcifjnhpgblnkaaGreatDoor
namespace Go.Proofs.YtcifjnhpgblnkaaGreatDoor
open Go.RowKit
set_option linter.unusedVariables false
set_option linter.unusedSimpArgs false
def FrB (σ σ' : DS) : Prop := (∃ pre, σ'.bl = pre ++ σ.bl) ∧ σ'.tm.length = σ.tm.length ∧ σ.clk ≤ σ'.clk
def FrT (W : List Nat) (σ σ' : DS) : Prop := ∀ t, t ∉ W → σ'.tm.getD t .any = σ.tm.getD t .any ∨ σ'.tm.getD t .any = .any
theorem FrB.refl (σ : DS) : FrB σ σ := ⟨⟨[], rfl⟩, rfl, Nat.le_refl _⟩
theorem FrB.trans {a b c : DS} (h : FrB a b) (k : FrB b c) : FrB a c := by
 obtain ⟨⟨p, hp⟩, h2, h3⟩ := h
 obtain ⟨⟨q, hq⟩, k2, k3⟩ := k
 exact ⟨⟨q ++ p, by rw [hq, hp, List.append_assoc]⟩, k2.trans h2, Nat.le_trans h3 k3⟩
theorem FrT.refl (W : List Nat) (σ : DS) : FrT W σ σ := fun _ _ => .inl rfl
theorem FrT.trans {W W' : List Nat} {a b c : DS} (h : FrT W a b) (k : FrT W' b c) : FrT (W ++ W') a c := fun t ht => by
 have h1 : t ∉ W := fun x => ht (List.mem_append_left _ x)
 have h2 : t ∉ W' := fun x => ht (List.mem_append_right _ x)
 rcases k t h2 with q | q
 ·rw [q]; exact h t h1
 ·exact .inr q
theorem FrT.mono {W W' : List Nat} {a b : DS} (h : FrT W a b) (hw : ∀ t ∈ W, t ∈ W') : FrT W' a b := fun t ht => h t fun x => ht (hw t x)
theorem frT_set (σ : DS) (dst : Option Nat) (d : DE) (bl : List (Nat × DB)) (c : Nat) (oc : Orc) : FrT dst.toList σ ⟨setD σ.tm dst d, bl, c, oc⟩ := fun t ht => by
 left
 show (setD σ.tm dst d).getD t .any = _
 rw [setD_getD, if_neg fun q => ht (by rw [q.1]; simp)]
theorem app_set (δ : Delta) (dst : Option Nat) (σ : DS) : δ.app dst σ = ⟨setD σ.tm dst δ.d, δ.bs ++ σ.bl, σ.clk + 64, σ.orc⟩ := by cases dst <;> rfl
theorem skip_set (dst : Option Nat) (σ : DS) : σ.skip dst = ⟨setD σ.tm dst (.c undef), σ.bl, σ.clk + 64, σ.orc⟩ := by cases dst <;> rfl
def InlFr (inl : Inl) : Prop := ∀ (f : FuncId) (args : List DE) (σ : DS) (K K' : DE → DS → Prop), inl f args σ K → (∀ d σ', K d σ' → FrB σ σ' → σ'.tm = σ.tm → K' d σ') → inl f args σ K'
section
variable {P : Program} {Γ : FuncId → Option Ca} {inl : Inl}
theorem obsF_mono {obs : List Ob} {F F' : Prop} (h : obsF obs F) (hf : F → F') : obsF obs F' := by
 induction obs with
 | nil => exact hf h
 | cons p l ih => exact ⟨h.1, ih h.2⟩
theorem stepF_mono (hinl : InlFr inl) {dr : Bool} {hint : Option Bool} {o : Oper} {σ : DS} {K K' : List (Nat × DB) → DS → Prop} (h : stepF P Γ inl dr hint o σ K) (hK : ∀ bs σ', K bs σ' → FrB σ σ' → FrT o.dst.toList σ σ' → K' bs σ') : stepF P Γ inl dr hint o σ K' := by
 unfold stepF at h ⊢
 split at h
 ·rename_i f args he
  split at h
  ·exact h.elim
  ·rename_i hd
   rw [if_neg hd]
   refine ⟨h.1, hinl _ _ _ _ _ h.2 fun d σ' hk hb ht => hK _ _ hk ?_ ?_⟩
   ·obtain ⟨⟨p, hp⟩, h2, h3⟩ := hb
    refine ⟨⟨p, hp⟩, ?_, by show σ.clk ≤ σ'.clk + 64; omega⟩
    show (match o.dst with | some t => σ'.tm.set t d | none => σ'.tm).length = _
    cases o.dst <;> simp [h2]
   ·have : ({ σ'.put o.dst d with clk := σ'.clk + 64 } : DS) = ⟨setD σ.tm o.dst d, σ'.bl, σ'.clk + 64, σ'.orc⟩ := by
     cases hdst : o.dst <;> simp [DS.put, setD, ht]
    rw [this]
    exact frT_set σ o.dst d _ _ _
 ·have happ0 : ∀ (oc : Orc) (δ : Delta), FrB σ (δ.app o.dst { σ with orc := oc }) ∧ FrT o.dst.toList σ (δ.app o.dst { σ with orc := oc }) := fun oc δ => by
   rw [app_set]
   exact ⟨⟨⟨δ.bs, rfl⟩, setD_len _ _ _, by show σ.clk ≤ σ.clk + 64; omega⟩, frT_set σ o.dst δ.d _ _ _⟩
  have happ := happ0 σ.orc
  split at h
  ·split at h
   ·exact h.elim
   ·rename_i hd
    rw [if_neg hd]
    split at h
    ·obtain ⟨y, h1, h2, h3⟩ := h
     exact ⟨y, h1, h2, hK _ _ h3 (happ _).1 (happ _).2⟩
    ·exact h.elim
  split at h
  ·split at h
   ·exact h.elim
   ·rename_i hd
    rw [if_neg hd]
    split at h
    ·exact hK _ _ h (happ _).1 (happ _).2
    ·split at h
     ·exact h.elim (fun h => .inl ⟨h.1, fun q => hK _ _ (h.2.1 q) (happ0 _ _).1 (happ0 _ _).2, hK _ _ h.2.2 (happ0 _ _).1 (happ0 _ _).2⟩) fun h => .inr ⟨h.1, hK _ _ h.2 (happ0 _ _).1 (happ0 _ _).2⟩
     ·exact h.elim
  split at h
  ·exact h.elim
  ·rename_i obs δ he
   exact obsF_mono h fun hk => hK _ _ hk (happ δ).1 (happ δ).2
  ·rename_i ob δ he
   obtain ⟨r, h1, h2⟩ := h
   exact ⟨r, h1, hK _ _ h2 (happ (δ r)).1 (happ (δ r)).2⟩
theorem decF_mono {σ : DS} {x : AV} {A B A' B' : DS → Prop} (h : decF σ x A B) (hA : ∀ oc, A { σ with orc := oc } → A' { σ with orc := oc }) (hB : ∀ oc, B { σ with orc := oc } → B' { σ with orc := oc }) : decF σ x A' B' := by
 unfold decF at h ⊢
 split at h
 ·exact ⟨h.1, h.2.1, hA _ h.2.2⟩
 ·exact ⟨h.1, h.2.1, hB _ h.2.2⟩
 ·exact ⟨h.1, fun e => hA _ (h.2.1 e), fun e => hB _ (h.2.2 e)⟩
 ·exact ⟨h.1, fun e => hA σ.orc (h.2.1 e), fun e => hB σ.orc (h.2.2 e)⟩
 ·exact ⟨h.1, fun e => hA σ.orc (h.2.1 e), fun e => hB σ.orc (h.2.2 e)⟩
theorem gateF_mono {ops : List Oper} {dec : List (Nat × Bool)} {o : Oper} {σ : DS} {G G' : DS → List (Nat × Bool) → Bool → Prop} (h : gateF ops dec o σ G) (hG : ∀ oc d r, G { σ with orc := oc } d r → G' { σ with orc := oc } d r) : gateF ops dec o σ G' := by
 unfold gateF at h ⊢
 split at h
 ·exact hG σ.orc _ _ h
 ·split at h
  ·exact h
  ·split at h
   ·exact hG σ.orc _ _ h
   ·split at h
    ·exact hG σ.orc _ _ h
    ·exact hG σ.orc _ _ h
    ·exact decF_mono h (fun oc q => hG oc _ _ q) (fun oc q => hG oc _ _ q)
    ·exact h
theorem regF_mono (hinl : InlFr inl) {dr : Bool} {ops : List Oper} {K K' : DS → Prop} : ∀ (rest : List Oper) (dec : List (Nat × Bool)) (fs : List Foot) (σ : DS), regF P Γ inl dr ops dec fs rest σ K → (∀ σ', K σ' → FrB σ σ' → FrT (rest.filterMap (·.dst)) σ σ' → K' σ') → regF P Γ inl dr ops dec fs rest σ K'
 | [], dec, fs, σ, h, hK => by
  simp only [regF] at h ⊢
  split at h
  ·rename_i hc; rw [if_pos hc]; exact hK σ h (FrB.refl σ) (FrT.refl _ σ)
  ·exact h.elim
 | o :: rest, dec, fs, σ, h, hK => by
  have hmem : ∀ t ∈ o.dst.toList ++ rest.filterMap (·.dst), t ∈ (o :: rest).filterMap (·.dst) := fun t ht => by
   rw [List.filterMap_cons]
   cases hd : o.dst with
   | none => rw [hd] at ht; simpa using ht
   | some k => rw [hd] at ht; simpa using ht
  simp only [regF] at h ⊢
  refine gateF_mono h fun oc d r hg => ?_
  split at hg
  ·rename_i hr
   rw [if_pos hr]
   exact stepF_mono hinl hg fun bs σ' hk hb ht => regF_mono hinl rest _ _ σ' hk fun σ2 hk2 hb2 ht2 => hK σ2 hk2 (hb.trans hb2) ((ht.trans ht2).mono hmem)
  ·rename_i hr
   rw [if_neg hr]
   refine regF_mono hinl rest _ _ _ hg fun σ2 hk2 hb2 ht2 => hK σ2 hk2 (FrB.trans ?_ hb2) ((FrT.trans ?_ ht2).mono hmem)
   ·rw [skip_set]; exact ⟨⟨[], rfl⟩, setD_len _ _ _, by show σ.clk ≤ σ.clk + 64; omega⟩
   ·rw [skip_set]; exact frT_set σ o.dst _ _ _ _
def Ends (c : Code) (e : Exit) : Prop := (Code.noExit c = true → e = .normal ∨ e = .ret) ∧ (Code.noExit c = true → Code.rets c = true → e = .ret)
theorem head_frB (A : LoopAnn) (σ : DS) (ys : List AV) : FrB σ (A.head σ ys) := ⟨⟨_, rfl⟩, by simp [LoopAnn.head], Nat.le_refl _⟩
theorem head_tm (A : LoopAnn) (σ : DS) (ys : List AV) (t : Nat) (ht : t < σ.tm.length) : (A.head σ ys).tm.getD t .any = A.tm ys t (σ.tm.getD t .any) := by
 simp only [LoopAnn.head, List.getD_eq_getElem?_getD, List.getElem?_map, List.getElem?_zipIdx, List.getElem?_eq_getElem ht]
 simp
theorem auto_vs {ex : LoopEx} {W : List Nat} {σ : DS} {t : Nat} (h : t ∈ (autoAnn ex W σ).vs) : t ∈ W := by
 have := (List.mem_filter.1 h).1
 exact List.mem_eraseDups.1 this
theorem rowify1_fr (σ : DS) (q : Nat × Nat × TypeId × Nat) : FrB σ (rowify1 σ q) ∧ (rowify1 σ q).tm = σ.tm := by
 unfold rowify1
 split
 ·split
  ·exact ⟨⟨⟨[_, _], rfl⟩, rfl, by show σ.clk ≤ σ.clk + 64; omega⟩, rfl⟩
  ·exact ⟨FrB.refl σ, rfl⟩
 ·exact ⟨FrB.refl σ, rfl⟩
theorem rowify_fr : ∀ (l : List (Nat × Nat × TypeId × Nat)) (σ : DS), FrB σ (rowify l σ) ∧ (rowify l σ).tm = σ.tm
 | [], σ => ⟨FrB.refl σ, rfl⟩
 | q :: l, σ => by
  obtain ⟨h1, h2⟩ := rowify1_fr σ q
  obtain ⟨h3, h4⟩ := rowify_fr l (rowify1 σ q)
  exact ⟨h1.trans h3, h4.trans h2⟩
theorem frzSlot_fr (σ : DS) (t : Nat) : FrB σ (frzSlot σ t) ∧ ∀ t', t' ≠ t → (frzSlot σ t).tm.getD t' .any = σ.tm.getD t' .any := by
 have hset : ∀ d, ∀ t', t' ≠ t → (σ.tm.set t d).getD t' .any = σ.tm.getD t' .any := fun d t' h => by
  simp only [List.getD_eq_getElem?_getD]
  rw [List.getElem?_set_ne (fun e => h e.symm)]
 unfold frzSlot
 split
 ·split
  ·split
   ·exact ⟨⟨⟨[_], rfl⟩, by simp, Nat.le_refl _⟩, hset _⟩
   ·exact ⟨FrB.refl σ, fun _ _ => rfl⟩
  ·split
   ·exact ⟨⟨⟨[], rfl⟩, by simp, Nat.le_refl _⟩, hset _⟩
   ·exact ⟨FrB.refl σ, fun _ _ => rfl⟩
  ·exact ⟨FrB.refl σ, fun _ _ => rfl⟩
 ·exact ⟨FrB.refl σ, fun _ _ => rfl⟩
theorem frzBlk_fr (σ : DS) (t : Nat) : FrB σ (frzBlk σ t) ∧ (frzBlk σ t).tm = σ.tm := by
 unfold frzBlk
 split
 ·exact ⟨⟨⟨_, rfl⟩, rfl, Nat.le_refl _⟩, rfl⟩
 ·exact ⟨FrB.refl σ, rfl⟩
theorem rebind_fr (σ : DS) (t b0 : Nat) : FrB σ (rebind σ t b0) ∧ ∀ t', t' ≠ t → (rebind σ t b0).tm.getD t' .any = σ.tm.getD t' .any := by
 unfold rebind
 split
 ·split
  ·exact ⟨FrB.refl σ, fun _ _ => rfl⟩
  ·split
   ·split
    ·refine ⟨⟨⟨[_, _], rfl⟩, by simp, by show σ.clk ≤ σ.clk + 64; omega⟩, fun t' h => ?_⟩
     simp only [List.getD_eq_getElem?_getD]
     rw [List.getElem?_set_ne (fun e => h e.symm)]
    ·exact ⟨FrB.refl σ, fun _ _ => rfl⟩
   ·exact ⟨FrB.refl σ, fun _ _ => rfl⟩
 ·exact ⟨FrB.refl σ, fun _ _ => rfl⟩
theorem map_drop (l : List DE) (b c t : Nat) : (l.map (dropB b c)).getD t .any = dropB b c (l.getD t .any) := by
 rw [List.getD_eq_getElem?_getD, List.getD_eq_getElem?_getD, List.getElem?_map]
 cases l[t]? with
 | none => rfl
 | some d => rfl
theorem rebindP_fr (σ : DS) (t b0 : Nat) : FrB σ (rebindP σ t b0) ∧ ∀ t', t' ≠ t → (rebindP σ t b0).tm.getD t' .any = σ.tm.getD t' .any ∨ (rebindP σ t b0).tm.getD t' .any = .any := by
 unfold rebindP
 split
 ·split
  ·split
   ·rename_i b o _ _ _ _ _ _
    refine ⟨⟨⟨[_, _], rfl⟩, by simp, Nat.le_refl _⟩, fun t' h => ?_⟩
    have e : ((σ.tm.map (dropB b b0)).set t (.ptr b0 o)).getD t' .any = dropB b b0 (σ.tm.getD t' .any) := by
     rw [← map_drop]
     simp only [List.getD_eq_getElem?_getD]
     rw [List.getElem?_set_ne (fun e => h e.symm)]
    show ((σ.tm.map (dropB b b0)).set t (.ptr b0 o)).getD t' .any = _ ∨ ((σ.tm.map (dropB b b0)).set t (.ptr b0 o)).getD t' .any = _
    rw [e]
    unfold dropB
    split
    ·exact .inl rfl
    ·exact .inr rfl
   ·exact ⟨FrB.refl σ, fun _ _ => .inl rfl⟩
  ·exact ⟨FrB.refl σ, fun _ _ => .inl rfl⟩
 ·exact ⟨FrB.refl σ, fun _ _ => .inl rfl⟩
theorem frzQ_fr (W : List Nat) (σ : DS) (q : Nat × Nat × TypeId × Nat) : FrB σ (frzQ W σ q) ∧ FrT W σ (frzQ W σ q) := by
 unfold frzQ
 split
 ·split
  ·exact ⟨(frzBlk_fr σ q.1).1, fun t _ => .inl (by rw [(frzBlk_fr σ q.1).2])⟩
  ·split
   ·rename_i hc
    split
    ·exact ⟨(rebind_fr σ q.1 _).1, fun t ht => .inl ((rebind_fr σ q.1 _).2 t fun e => ht (by rw [e]; simpa using hc))⟩
    ·split
     ·exact ⟨(rebindP_fr σ q.1 _).1, fun t ht => (rebindP_fr σ q.1 _).2 t fun e => ht (by rw [e]; simpa using hc)⟩
     ·exact ⟨(frzSlot_fr σ q.1).1, fun t ht => .inl ((frzSlot_fr σ q.1).2 t fun e => ht (by rw [e]; simpa using hc))⟩
   ·exact ⟨FrB.refl σ, FrT.refl _ σ⟩
 ·exact ⟨FrB.refl σ, FrT.refl _ σ⟩
theorem frzSlots_fr (W : List Nat) : ∀ (l : List (Nat × Nat × TypeId × Nat)) (σ : DS), FrB σ (frzSlots W l σ) ∧ FrT W σ (frzSlots W l σ)
 | [], σ => ⟨FrB.refl σ, FrT.refl _ σ⟩
 | q :: l, σ => by
  have h1 := frzQ_fr W σ q
  obtain ⟨h3, h4⟩ := frzSlots_fr W l (frzQ W σ q)
  exact ⟨h1.1.trans h3, (h1.2.trans h4).mono fun t ht => by simpa using ht⟩
theorem frzBox_fr (σ : DS) (t : Nat) : FrB σ (frzBox σ t) ∧ ∀ t', t' ≠ t → (frzBox σ t).tm.getD t' .any = σ.tm.getD t' .any ∨ (frzBox σ t).tm.getD t' .any = .any := by
 unfold frzBox
 split
 ·rename_i b ht
  split
  ·rename_i ty cs hb
   split
   ·rename_i xs hp
    split
    ·refine ⟨⟨⟨[_], rfl⟩, by simp, Nat.le_refl _⟩, fun t' h => ?_⟩
     have e : ((σ.tm.map (dropB b b)).set t (.v (AV.mkRef xs))).getD t' .any = dropB b b (σ.tm.getD t' .any) := by
      rw [← map_drop]
      simp only [List.getD_eq_getElem?_getD]
      rw [List.getElem?_set_ne (fun e => h e.symm)]
     show ((σ.tm.map (dropB b b)).set t (.v (AV.mkRef xs))).getD t' .any = _ ∨ ((σ.tm.map (dropB b b)).set t (.v (AV.mkRef xs))).getD t' .any = _
     rw [e]
     unfold dropB
     split
     ·exact .inl rfl
     ·exact .inr rfl
    ·exact ⟨FrB.refl σ, fun _ _ => .inl rfl⟩
   ·exact ⟨FrB.refl σ, fun _ _ => .inl rfl⟩
  ·exact ⟨FrB.refl σ, fun _ _ => .inl rfl⟩
 ·exact ⟨FrB.refl σ, fun _ _ => .inl rfl⟩
theorem boxes_fr : ∀ (l : List Nat) (σ : DS), FrB σ (l.foldl frzBox σ) ∧ FrT l σ (l.foldl frzBox σ)
 | [], σ => ⟨FrB.refl σ, FrT.refl _ σ⟩
 | t :: l, σ => by
  have h1 := frzBox_fr σ t
  obtain ⟨h3, h4⟩ := boxes_fr l (frzBox σ t)
  have h2 : FrT [t] σ (frzBox σ t) := fun t' ht => h1.2 t' (by simpa using ht)
  exact ⟨h1.1.trans h3, (h2.trans h4).mono fun t' ht => by simpa using ht⟩
theorem preFz_fr (dr : Bool) (ops : List Oper) (σ : DS) : FrB σ (preFz dr ops σ) ∧ FrT (boxSrc ops) σ (preFz dr ops σ) := by
 unfold preFz
 split
 ·exact ⟨⟨⟨_, rfl⟩, rfl, Nat.le_refl _⟩, fun _ _ => .inl rfl⟩
 ·exact boxes_fr _ _
theorem closeH_fr (σ : DS) (b : Nat) : FrB σ (closeH σ b) ∧ (closeH σ b).tm = σ.tm := by
 unfold closeH
 split
 ·split
  ·split
   ·exact ⟨⟨⟨[_, _], rfl⟩, rfl, Nat.le_refl _⟩, rfl⟩
   ·exact ⟨FrB.refl σ, rfl⟩
  ·exact ⟨FrB.refl σ, rfl⟩
 ·exact ⟨⟨⟨[_], rfl⟩, rfl, Nat.le_refl _⟩, rfl⟩
 ·exact ⟨FrB.refl σ, rfl⟩
theorem closes_fr : ∀ (l : List Nat) (σ : DS), FrB σ (l.foldl closeH σ) ∧ (l.foldl closeH σ).tm = σ.tm
 | [], σ => ⟨FrB.refl σ, rfl⟩
 | b :: l, σ => by
  obtain ⟨h1, h2⟩ := closeH_fr σ b
  obtain ⟨h3, h4⟩ := closes_fr l (closeH σ b)
  exact ⟨h1.trans h3, h4.trans h2⟩
theorem preCl_fr (l : List Nat) (dr : Bool) (ops : List Oper) (σ : DS) : FrB σ (preFz dr ops (l.foldl closeH σ)) ∧ FrT (boxSrc ops) σ (preFz dr ops (l.foldl closeH σ)) := by
 obtain ⟨h1, h2⟩ := closes_fr l σ
 obtain ⟨h3, h4⟩ := preFz_fr dr ops (l.foldl closeH σ)
 exact ⟨h1.trans h3, fun t ht => by rw [← h2]; exact h4 t ht⟩
theorem fIter_mono {n : Nat} {X : AV} {ys0 : List AV} {body : AV → List AV → (List AV → Prop) → Prop} {K K' : List AV → Prop} (h : fIter P n X ys0 body K) (hK : ∀ ys, K ys → K' ys) : fIter P n X ys0 body K' := by
 obtain ⟨f, cs, xs, h1, h2, Inv, h3, h4, h5⟩ := h
 exact ⟨f, cs, xs, h1, h2, Inv, h3, h4, fun ys hl hi => hK ys (h5 ys hl hi)⟩
theorem head_frT {ex : LoopEx} {W : List Nat} (σ : DS) (ys : List AV) : FrT W σ ((autoAnn ex W σ).head σ ys) := fun t ht => by
 by_cases hlt : t < σ.tm.length
 ·rw [head_tm _ _ _ _ hlt]
  unfold LoopAnn.tm
  split
  ·exact .inr rfl
  ·split
   ·rename_i k hk2
    have hmem : t ∈ (autoAnn ex W σ).vs := by
     have := List.isSome_idxOf?.1 (by rw [hk2]; rfl)
     exact this
    exact absurd (auto_vs hmem) ht
   ·exact .inl rfl
 ·right
  rw [List.getD_eq_getElem?_getD, List.getElem?_eq_none (by rw [(head_frB _ σ ys).2.1]; omega)]; rfl
theorem loopN_mono {run : DS → (Exit → DS → Prop) → Prop} {W : List Nat} (hrun : ∀ (σ : DS) (K K' : Exit → DS → Prop), run σ K → (∀ e σ', K e σ' → FrB σ σ' → (e ≠ .ret → FrT W σ σ') → K' e σ') → run σ K') : ∀ (n : Nat) (σ : DS) (K K' : Exit → DS → Prop), loopN run n σ K → (∀ e σ', K e σ' → FrB σ σ' → (e ≠ .ret → FrT W σ σ') → K' e σ') → loopN run n σ K'
 | 0, _, _, _, h, _ => h.elim
 | n + 1, σ, K, K', h, hK => by
  unfold loopN at h ⊢
  refine hrun _ _ _ h fun e σ1 hk hb ht => ?_
  cases e with
  | normal => exact loopN_mono hrun n σ1 K K' hk fun e2 σ2 hk2 hb2 ht2 => hK e2 σ2 hk2 (hb.trans hb2) fun hne => ((ht (by simp)).trans (ht2 hne)).mono fun t q => by simpa using q
  | exit i => exact hK _ _ hk hb ht
  | ret => exact hK _ _ hk hb ht
  | goto i => exact hK _ _ hk hb ht
  | panic i => exact hK _ _ hk hb ht
  | outgrown => exact hK _ _ hk hb ht
theorem runC_mono (hinl : InlFr inl) {ann : FuncId → Nat → LoopEx} {fid : FuncId} : ∀ (c : Code) (σ : DS) (K K' : Exit → DS → Prop), runC P Γ inl ann fid c σ K → (∀ e σ', K e σ' → FrB σ σ' → (e ≠ .ret → FrT (Code.wr c) σ σ') → Ends c e → K' e σ') → runC P Γ inl ann fid c σ K'
 | .skip, σ, K, K', h, hK => hK _ _ h (FrB.refl σ) (fun _ => FrT.refl _ σ) ⟨fun _ => .inl rfl, fun _ q => (by cases q)⟩
 | .region id ops dr, σ, K, K', h, hK => regF_mono hinl _ _ _ _ h fun σ' hk hb ht => hK _ _ hk ((preCl_fr _ dr ops.toList σ).1.trans hb) (fun _ => ((preCl_fr _ dr ops.toList σ).2.trans ht).mono fun t q => by rcases List.mem_append.1 q with q | q; exact List.mem_append_right _ q; exact List.mem_append_left _ q) ⟨fun _ => .inl rfl, fun _ q => (by cases q)⟩
 | .seq a b, σ, K, K', h, hK => by
  refine runC_mono hinl a σ _ _ h fun e σ1 hk hb ht he => ?_
  have hfr : ∀ (e' : Exit) (σ2 : DS), FrT (Code.wr a ++ Code.wr b) σ σ2 → ((Code.rets b && Code.noExit a && Code.noExit b) = true → e' = .ret) → e' ≠ .ret → FrT (Code.wr (.seq a b)) σ σ2 := fun e' σ2 h1 h2 h3 => by
   unfold Code.wr
   split
   ·rename_i hc; exact absurd (h2 hc) h3
   ·exact h1
  cases e with
  | normal =>
   refine runC_mono hinl b σ1 K K' hk fun e2 σ2 hk2 hb2 ht2 he2 => hK e2 σ2 hk2 (hb.trans hb2) (fun hne => hfr e2 σ2 ((ht (by simp)).trans (ht2 hne)) (fun hc => ?_) hne) ⟨fun hn => ?_, fun hn hr => ?_⟩
   ·simp only [Bool.and_eq_true] at hc
    exact he2.2 hc.2 hc.1.1
   ·simp only [Code.noExit, Bool.and_eq_true] at hn
    exact he2.1 hn.2
   ·simp only [Code.noExit, Bool.and_eq_true] at hn
    simp only [Code.rets, Bool.or_eq_true] at hr
    rcases hr with hr | hr
    ·have := he.2 hn.1 hr; cases this
    ·exact he2.2 hn.2 hr
  | ret =>
   exact hK _ _ hk hb (fun hne => absurd rfl hne) ⟨fun _ => .inr rfl, fun _ _ => rfl⟩
  | exit i =>
   refine hK _ _ hk hb (fun hne => hfr _ σ1 ((ht hne).mono fun t q => List.mem_append_left _ q) (fun hc => ?_) hne) ⟨fun hn => ?_, fun hn _ => ?_⟩
   ·simp only [Bool.and_eq_true] at hc
    rcases he.1 hc.1.2 with q | q <;> cases q
   ·simp only [Code.noExit, Bool.and_eq_true] at hn
    rcases he.1 hn.1 with q | q <;> cases q
   ·simp only [Code.noExit, Bool.and_eq_true] at hn
    rcases he.1 hn.1 with q | q <;> cases q
  | goto i =>
   refine hK _ _ hk hb (fun hne => hfr _ σ1 ((ht hne).mono fun t q => List.mem_append_left _ q) (fun hc => ?_) hne) ⟨fun hn => ?_, fun hn _ => ?_⟩
   ·simp only [Bool.and_eq_true] at hc
    rcases he.1 hc.1.2 with q | q <;> cases q
   ·simp only [Code.noExit, Bool.and_eq_true] at hn
    rcases he.1 hn.1 with q | q <;> cases q
   ·simp only [Code.noExit, Bool.and_eq_true] at hn
    rcases he.1 hn.1 with q | q <;> cases q
  | panic i =>
   refine hK _ _ hk hb (fun hne => hfr _ σ1 ((ht hne).mono fun t q => List.mem_append_left _ q) (fun hc => ?_) hne) ⟨fun hn => ?_, fun hn _ => ?_⟩
   ·simp only [Bool.and_eq_true] at hc
    rcases he.1 hc.1.2 with q | q <;> cases q
   ·simp only [Code.noExit, Bool.and_eq_true] at hn
    rcases he.1 hn.1 with q | q <;> cases q
   ·simp only [Code.noExit, Bool.and_eq_true] at hn
    rcases he.1 hn.1 with q | q <;> cases q
  | outgrown =>
   refine hK _ _ hk hb (fun hne => hfr _ σ1 ((ht hne).mono fun t q => List.mem_append_left _ q) (fun hc => ?_) hne) ⟨fun hn => ?_, fun hn _ => ?_⟩
   ·simp only [Bool.and_eq_true] at hc
    rcases he.1 hc.1.2 with q | q <;> cases q
   ·simp only [Code.noExit, Bool.and_eq_true] at hn
    rcases he.1 hn.1 with q | q <;> cases q
   ·simp only [Code.noExit, Bool.and_eq_true] at hn
    rcases he.1 hn.1 with q | q <;> cases q
 | .cond cc a b, σ, K, K', h, hK => by
  have ha : ∀ e σ', K e σ' → FrB σ σ' → (e ≠ .ret → FrT (Code.wr a) σ σ') → Ends a e → K' e σ' := fun e σ' hk hb ht he => hK e σ' hk hb (fun hne => (ht hne).mono fun t q => List.mem_append_left _ q) ⟨fun hn => by simp only [Code.noExit, Bool.and_eq_true] at hn; exact he.1 hn.1, fun hn hr => by simp only [Code.noExit, Code.rets, Bool.and_eq_true] at hn hr; exact he.2 hn.1 hr.1⟩
  have hb' : ∀ e σ', K e σ' → FrB σ σ' → (e ≠ .ret → FrT (Code.wr b) σ σ') → Ends b e → K' e σ' := fun e σ' hk hb ht he => hK e σ' hk hb (fun hne => (ht hne).mono fun t q => List.mem_append_right _ q) ⟨fun hn => by simp only [Code.noExit, Bool.and_eq_true] at hn; exact he.1 hn.2, fun hn hr => by simp only [Code.noExit, Code.rets, Bool.and_eq_true] at hn hr; exact he.2 hn.2 hr.2⟩
  simp only [runC] at h ⊢
  split at h
  ·exact runC_mono hinl a σ K K' h ha
  ·exact runC_mono hinl b σ K K' h hb'
  ·rename_i x he
   split at h
   ·rename_i hj
    rw [if_pos hj]
    have hre : Code.rets (.cond cc a b) = false := by
     unfold joinOn at hj
     simp only [Bool.and_eq_true, Bool.not_eq_true'] at hj
     exact hj.2
    unfold joinF at h ⊢
    split at h
    ·exact h.elim
    ·rename_i xs hx
     obtain ⟨Q, h1, h2⟩ := h
     refine ⟨Q, decF_mono h1 (fun oc q => runC_mono hinl a _ _ _ q fun e σ' hk hb ht he => ?_) (fun oc q => runC_mono hinl b _ _ _ q fun e σ' hk hb ht he => ?_), fun ys hl hq => hK .normal _ (h2 ys hl hq) (head_frB _ σ ys) (fun _ => head_frT σ ys) ⟨fun _ => .inl rfl, fun _ hr => by rw [hre] at hr; cases hr⟩⟩
     ·cases e with
      | normal => exact hk
      | exit i => exact ha _ _ hk hb ht he
      | ret => exact ha _ _ hk hb ht he
      | goto i => exact ha _ _ hk hb ht he
      | panic i => exact ha _ _ hk hb ht he
      | outgrown => exact ha _ _ hk hb ht he
     ·cases e with
      | normal => exact hk
      | exit i => exact hb' _ _ hk hb ht he
      | ret => exact hb' _ _ hk hb ht he
      | goto i => exact hb' _ _ hk hb ht he
      | panic i => exact hb' _ _ hk hb ht he
      | outgrown => exact hb' _ _ hk hb ht he
   ·rename_i hj
    rw [if_neg hj]
    exact decF_mono h (fun oc q => runC_mono hinl a _ K K' q ha) (fun oc q => runC_mono hinl b _ K K' q hb')
  ·exact h.elim
 | .block id a, σ, K, K', h, hK => by
  simp only [runC] at h ⊢
  refine runC_mono hinl a σ _ _ h fun e σ' hk hb ht he => ?_
  have hnE : ∀ e', Ends (.block id a) e' := fun e' => ⟨fun q => (by cases q), fun q => (by cases q)⟩
  cases e with
  | exit i =>
   simp only at hk ⊢
   split at hk
   ·rename_i hi; rw [if_pos hi]; exact hK _ _ hk hb (fun _ => ht (by simp)) (hnE _)
   ·rename_i hi; rw [if_neg hi]; exact hK _ _ hk hb (fun _ => ht (by simp)) (hnE _)
  | normal => exact hK _ _ hk hb (fun _ => ht (by simp)) (hnE _)
  | ret => exact hK _ _ hk hb (fun q => absurd rfl q) (hnE _)
  | goto i => exact hK _ _ hk hb (fun _ => ht (by simp)) (hnE _)
  | panic i => exact hK _ _ hk hb (fun _ => ht (by simp)) (hnE _)
  | outgrown => exact hK _ _ hk hb (fun _ => ht (by simp)) (hnE _)
 | .exit id, σ, K, K', h, hK => hK _ _ h (FrB.refl σ) (fun _ => FrT.refl _ σ) ⟨fun q => (by cases q), fun q => (by cases q)⟩
 | .ret, σ, K, K', h, hK => hK _ _ h (FrB.refl σ) (fun _ => FrT.refl _ σ) ⟨fun _ => .inr rfl, fun _ _ => rfl⟩
 | .loop a, σ0, K, K', h, hK0 => by
  simp only [runC] at h ⊢
  cases hev : σ0.evOn with
  | true =>
   rw [hev] at h
   exact loopN_mono (W := Code.wr a) (fun σ K K' q hq => runC_mono hinl a σ K K' q fun e σ' hk hb ht _ => hq e σ' hk hb ht) _ _ _ _ h fun e σ' hk hb ht => hK0 e σ' hk hb ht ⟨fun q => (by cases q), fun q => (by cases q)⟩
  | false =>
   rw [hev] at h
   simp only at h ⊢
   obtain ⟨hr0, ht0⟩ := rowify_fr (ann fid (Code.reg1 a)).nils σ0
   generalize rowify (ann fid (Code.reg1 a)).nils σ0 = σ1 at h hr0 ht0 ⊢
   obtain ⟨hr1, ht1⟩ := frzSlots_fr (Code.wr a) (ann fid (Code.reg1 a)).nils σ1
   generalize frzSlots (Code.wr a) (ann fid (Code.reg1 a)).nils σ1 = σ at h hr1 ht1 ⊢
   have hK : ∀ e σ', K e σ' → FrB σ σ' → (e ≠ .ret → FrT (Code.wr (.loop a)) σ σ') → Ends (.loop a) e → K' e σ' := fun e σ' hk hb ht he => hK0 e σ' hk ((hr0.trans hr1).trans hb) (fun hne t htn => by
    rcases ht hne t htn with q | q
    ·rcases ht1 t htn with q1 | q1
     ·left; rw [q, q1, ht0]
     ·right; rw [q, q1]
    ·exact .inr q) he
   split at h
   ·exact h.elim
   ·rename_i xs hx
    split at h
    ·rename_i hc
     rw [if_pos hc]
     obtain ⟨Inv, μ, h1, h2⟩ := h
     refine ⟨Inv, μ, h1, fun m ys hl hy => runC_mono hinl a _ _ _ (h2 m ys hl hy) fun e σ' hk hb ht he => ?_⟩
     have hnE : ∀ e', Ends (.loop a) e' := fun e' => ⟨fun q => (by cases q), fun q => (by cases q)⟩
     have hfb : FrB σ σ' := (head_frB _ σ ys).trans hb
     have hft : e ≠ .ret → FrT (Code.wr (.loop a)) σ σ' := fun hne t htn => by
      have htn' : t ∉ Code.wr a := htn
      rcases ht hne t htn' with q | q
      ·by_cases hlt : t < σ.tm.length
       ·rw [head_tm _ _ _ _ hlt] at q
        unfold LoopAnn.tm at q
        split at q
        ·exact .inr q
        ·split at q
         ·rename_i k hk2
          have hmem : t ∈ (autoAnn (ann fid (Code.reg1 a)) (Code.wr a) σ).vs := by
           have := List.isSome_idxOf?.1 (by rw [hk2]; rfl)
           exact this
          exact absurd (auto_vs hmem) htn'
         ·exact .inl q
       ·right
        rw [List.getD_eq_getElem?_getD, List.getElem?_eq_none (by rw [hfb.2.1]; omega)]; rfl
      ·exact .inr q
     cases e with
     | normal => exact hk
     | exit i => exact hK _ _ hk hfb hft (hnE _)
     | ret => exact hK _ _ hk hfb hft (hnE _)
     | goto i => exact hK _ _ hk hfb hft (hnE _)
     | panic i => exact hK _ _ hk hfb hft (hnE _)
     | outgrown => exact hK _ _ hk hfb hft (hnE _)
    ·exact h.elim
 | .rangeFunc g ps as_ body, σ0, K, K', h, hK0 => by
  simp only [runC] at h ⊢
  obtain ⟨hr0, ht0⟩ := rowify_fr (ann fid (Code.reg1 body)).nils σ0
  generalize rowify (ann fid (Code.reg1 body)).nils σ0 = σ at h hr0 ht0 ⊢
  split at h
  ·split at h
   ·split at h
    ·exact h.elim
    ·split at h
     ·rename_i hc
      rw [if_pos hc]
      refine fIter_mono h fun ys hk => hK0 .normal _ hk (hr0.trans (head_frB _ σ ys)) (fun _ t _ => ?_) ⟨fun q => (by cases q), fun q => (by cases q)⟩
      by_cases hlt : t < σ.tm.length
      ·left
       show (LoopAnn.head _ σ ys).tm.getD t .any = _
       rw [head_tm _ _ _ _ hlt, ht0]
       unfold LoopAnn.tm
       simp
      ·right
       show (LoopAnn.head _ σ ys).tm.getD t .any = _
       rw [List.getD_eq_getElem?_getD, List.getElem?_eq_none (by rw [(head_frB _ σ ys).2.1]; omega)]; rfl
     ·exact h.elim
   ·exact h.elim
  ·exact h.elim
 | .scope a, σ, K, K', h, hK => h.elim
 | .label i, σ, K, K', h, hK => h.elim
 | .goto i, σ, K, K', h, hK => h.elim
 | .refuse s, σ, K, K', h, hK => h.elim
end
end Go.Proofs.YtcifjnhpgblnkaaGreatDoor
namespace Go.Proofs.YtcifjnhpgblnkaaGreatDoor
open Go.RowKit
set_option linter.unusedVariables false
set_option linter.unusedSimpArgs false
theorem slotsV_get {σ : DS} : ∀ {l : List Nat} {as0 : List AV}, σ.slotsV l = some as0 → as0.length = l.length ∧ ∀ (k t : Nat), l[k]? = some t → ∃ x, as0[k]? = some x ∧ plain1 σ.fview (σ.tm.getD t .any) = some x
 | [], as0, h => by
  simp only [DS.slotsV, Option.some.injEq] at h
  subst h
  exact ⟨rfl, fun k t hk => by simp at hk⟩
 | t :: l, as0, h => by
  simp only [DS.slotsV] at h
  split at h
  ·rename_i x xs h1 h2
   simp only [Option.some.injEq] at h
   subst h
   obtain ⟨e1, e2⟩ := slotsV_get h2
   refine ⟨by simp [e1], fun k t' hk => ?_⟩
   cases k with
   | zero =>
    simp only [List.getElem?_cons_zero, Option.some.injEq] at hk
    subst hk
    exact ⟨x, rfl, h1⟩
   | succ k =>
    obtain ⟨x', q1, q2⟩ := e2 k t' (by simpa using hk)
    exact ⟨x', by simpa using q1, q2⟩
  ·cases h
theorem rowsV_get {σ : DS} : ∀ {l : List Nat} {as0 : List AV}, σ.rowsV l = some as0 → as0.length = l.length ∧ ∀ (k b : Nat), l[k]? = some b → ∃ e s n x, as0[k]? = some x ∧ σ.blk b = .row e s n x
 | [], as0, h => by
  simp only [DS.rowsV, Option.some.injEq] at h
  subst h
  exact ⟨rfl, fun k t hk => by simp at hk⟩
 | b :: l, as0, h => by
  simp only [DS.rowsV] at h
  split at h
  ·rename_i e s n x xs h1 h2
   simp only [Option.some.injEq] at h
   subst h
   obtain ⟨e1, e2⟩ := rowsV_get h2
   refine ⟨by simp [e1], fun k t' hk => ?_⟩
   cases k with
   | zero =>
    simp only [List.getElem?_cons_zero, Option.some.injEq] at hk
    subst hk
    exact ⟨e, s, n, x, rfl, h1⟩
   | succ k =>
    obtain ⟨e', s', n', x', q1, q2⟩ := e2 k t' (by simpa using hk)
    exact ⟨e', s', n', x', by simpa using q1, q2⟩
  ·cases h
theorem cellsV_get {σ : DS} : ∀ {l : List (Nat × Nat)} {as0 : List AV}, σ.cellsV l = some as0 → as0.length = l.length ∧ ∀ (k b o : Nat), l[k]? = some (b, o) → ∃ x t cs d, as0[k]? = some x ∧ σ.blk b = .cells t cs ∧ cs[o]? = some d ∧ plain1 σ.fview d = some x
 | [], as0, h => by
  simp only [DS.cellsV, Option.some.injEq] at h
  subst h
  exact ⟨rfl, fun k b o hk => by simp at hk⟩
 | (b, o) :: l, as0, h => by
  simp only [DS.cellsV] at h
  split at h
  ·rename_i t cs h0
   split at h
   ·rename_i d hd
    split at h
    ·rename_i x xs h1 h2
     simp only [Option.some.injEq] at h
     subst h
     obtain ⟨e1, e2⟩ := cellsV_get h2
     refine ⟨by simp [e1], fun k b' o' hk => ?_⟩
     cases k with
     | zero =>
      simp only [List.getElem?_cons_zero, Option.some.injEq, Prod.mk.injEq] at hk
      obtain ⟨rfl, rfl⟩ := hk
      exact ⟨x, t, cs, d, rfl, h0, hd, h1⟩
     | succ k =>
      obtain ⟨x', t', cs', d', q1, q2⟩ := e2 k b' o' (by simpa using hk)
      exact ⟨x', t', cs', d', by simpa using q1, q2⟩
    ·cases h
   ·cases h
  ·cases h
theorem head_blk (A : LoopAnn) (σ : DS) (ys : List AV) (b : Nat) : (A.head σ ys).blk b = if b ∈ A.touched then A.blkOf ys b (σ.blk b) else σ.blk b := by
 have h1 : (A.head σ ys).blk = updB σ.blk (A.touched.map fun b => (b, A.blkOf ys b (σ.blk b))) := by
  unfold LoopAnn.head
  exact blk_app σ _ _ _ _
 rw [h1]
 by_cases hb : b ∈ A.touched
 ·rw [if_pos hb]
  unfold updB
  cases hf : (A.touched.map fun b => (b, A.blkOf ys b (σ.blk b))).find? (·.1 == b) with
  | none =>
   have := List.find?_eq_none.1 hf (b, A.blkOf ys b (σ.blk b)) (List.mem_map.2 ⟨b, hb, rfl⟩)
   simp at this
  | some q =>
   have e1 : q.1 = b := by simpa using List.find?_some hf
   obtain ⟨b', _, e2⟩ := List.mem_map.1 (List.mem_of_find?_eq_some hf)
   rw [← e2] at e1
   simp only at e1
   subst e1
   rw [← e2]
 ·rw [if_neg hb]
  exact updB_of_not (by
   intro hm
   obtain ⟨q, hq, e⟩ := List.mem_map.1 hm
   obtain ⟨b', hb', e2⟩ := List.mem_map.1 hq
   rw [← e2] at e
   exact hb (e ▸ hb'))
theorem blkOf_dead {A : LoopAnn} {ys : List AV} {b : Nat} {d : DB} : isDead (A.blkOf ys b d) = isDead d ∧ isLive (A.blkOf ys b d) = isLive d ∧ stampOf (A.blkOf ys b d) = stampOf d := by
 unfold LoopAnn.blkOf
 cases d with
 | row e s n x => simp only; split <;> exact ⟨rfl, rfl, rfl⟩
 | _ => exact ⟨rfl, rfl, rfl⟩
theorem head_blk_is (A : LoopAnn) (σ : DS) (ys : List AV) (b : Nat) : isDead ((A.head σ ys).blk b) = isDead (σ.blk b) ∧ isLive ((A.head σ ys).blk b) = isLive (σ.blk b) ∧ stampOf ((A.head σ ys).blk b) = stampOf (σ.blk b) := by
 rw [head_blk]
 split
 ·exact blkOf_dead
 ·exact ⟨rfl, rfl, rfl⟩
theorem blk_dead {σ : DS} {b : Nat} (h : b ∉ σ.bl.map (·.1)) : σ.blk b = .dead := by
 unfold DS.blk
 cases hf : σ.bl.find? (·.1 == b) with
 | none => rfl
 | some q =>
  have e1 : q.1 = b := by simpa using List.find?_some hf
  exact absurd (List.mem_map.2 ⟨q, List.mem_of_find?_eq_some hf, e1⟩) h
theorem live_notDead {d : DB} (h : isLive d = true) : isDead d = false := by cases d <;> first | rfl | cases h
theorem stamp_notDead {d : DB} {n : Nat} (h : stampOf d = some n) : isDead d = false := by cases d <;> first | rfl | cases h
section
variable {base : Nat} {w0 : World} {ok0 : Nat → Prop}
theorem head_again {A : LoopAnn} {W : List Nat} {σ σ' : DS} (hc : chk A W σ σ' = true) (hb : FrB σ σ') (ht : FrT W σ σ') {zs : List AV} (hz : A.vals σ' = some zs) {ρ : Nat → Value} {a : Act} {w : World} (h : HS base w0 ok0 σ' ρ a w) : ∃ ρ', HS base w0 ok0 (A.head σ zs) ρ' a w := by
 obtain ⟨⟨pre, hpre⟩, htl, hclk⟩ := hb
 have hpreOf : preOf σ σ' = pre.map (·.1) := by
  unfold preOf
  rw [hpre, List.length_append, Nat.add_sub_cancel, List.take_left]
 have hblk' : ∀ b, b ∉ preOf σ σ' → σ'.blk b = σ.blk b := fun b hb => by
  have : σ'.blk = updB σ.blk pre := by
   obtain ⟨tm, bl, c, oc⟩ := σ'
   simp only at hpre
   subst hpre
   exact blk_app σ pre tm c _
  rw [this]
  exact updB_of_not (hpreOf ▸ hb)
 unfold chk at hc
 rw [Bool.and_eq_true, Bool.and_eq_true, Bool.and_eq_true] at hc
 obtain ⟨⟨⟨c1, c2⟩, c3⟩, c4⟩ := hc
 have c1' : ∀ t, t < σ.tm.length → slotOk A W σ σ' t = true := fun t htl => List.all_eq_true.1 c1 t (by simpa using htl)
 have c2' : ∀ b, σ.blk b ≠ .dead → blkOk A (preOf σ σ') σ σ' b = true := fun b hb => List.all_eq_true.1 c2 b (List.mem_append_left _ (Classical.byContradiction fun hn => hb (blk_dead hn)))
 have c3' : ∀ b, σ.blk b ≠ .dead → b < σ.clk := fun b hb => by
  have hm : b ∈ σ.bl.map (·.1) := Classical.byContradiction fun hn => hb (blk_dead hn)
  exact of_decide_eq_true (List.all_eq_true.1 c3 b hm)
 have hdd : ∀ d : DB, isDead d = false → d ≠ .dead := fun d hd e => by rw [e] at hd; cases hd
 unfold LoopAnn.vals at hz
 split at hz
 ·rename_i as0 bs cs0 hv1 hv2 hv3
  simp only [Option.some.injEq] at hz
  subst hz
  obtain ⟨l1, g1⟩ := slotsV_get hv1
  obtain ⟨l2, g2⟩ := rowsV_get hv2
  obtain ⟨l3, g3⟩ := cellsV_get hv3
  have idx1 : ∀ k t, A.vs.idxOf? t = some k → ∃ x, ((as0 ++ bs ++ cs0).getD k default) = x ∧ plain1 σ'.fview (σ'.tm.getD t .any) = some x := fun k t hk => by
   obtain ⟨x, q1, q2⟩ := g1 k t (by
    have := List.findIdx?_eq_some_iff_getElem.1 hk
    obtain ⟨hkl, e, _⟩ := this
    rw [List.getElem?_eq_getElem hkl]
    simpa using e)
   have hkl : k < as0.length := (List.getElem?_eq_some_iff.1 q1).1
   refine ⟨x, ?_, q2⟩
   rw [List.append_assoc, List.getD_eq_getElem?_getD, List.getElem?_append_left hkl, q1]; rfl
  have idx2 : ∀ k b, A.rows.idxOf? b = some k → ∃ e s n x, ((as0 ++ bs ++ cs0).getD (A.vs.length + k) default) = x ∧ σ'.blk b = .row e s n x := fun k b hk => by
   obtain ⟨e, s, n, x, q1, q2⟩ := g2 k b (by
    have := List.findIdx?_eq_some_iff_getElem.1 hk
    obtain ⟨hkl, e, _⟩ := this
    rw [List.getElem?_eq_getElem hkl]
    simpa using e)
   have hkl : k < bs.length := (List.getElem?_eq_some_iff.1 q1).1
   refine ⟨e, s, n, x, ?_, q2⟩
   rw [List.append_assoc, List.getD_eq_getElem?_getD, List.getElem?_append_right (by omega), List.getElem?_append_left (by omega)]
   rw [show A.vs.length + k - as0.length = k by omega, q1]; rfl
  have idx3 : ∀ k b o, A.cells.idxOf? (b, o) = some k → ∃ x t cs d, ((as0 ++ bs ++ cs0).getD (A.vs.length + A.rows.length + k) default) = x ∧ σ'.blk b = .cells t cs ∧ cs[o]? = some d ∧ plain1 σ'.fview d = some x := fun k b o hk => by
   obtain ⟨x, t, cs, d, q1, q2⟩ := g3 k b o (by
    have := List.findIdx?_eq_some_iff_getElem.1 hk
    obtain ⟨hkl, e, _⟩ := this
    rw [List.getElem?_eq_getElem hkl]
    simpa using e)
   have hkl : k < cs0.length := (List.getElem?_eq_some_iff.1 q1).1
   refine ⟨x, t, cs, d, ?_, q2⟩
   rw [List.getD_eq_getElem?_getD, List.getElem?_append_right (by simp; omega)]
   rw [show A.vs.length + A.rows.length + k - (as0 ++ bs).length = k by simp; omega, q1]; rfl
  generalize hzs : as0 ++ bs ++ cs0 = zs at *
  have hH : ∀ b, isDead ((A.head σ zs).blk b) = isDead (σ.blk b) ∧ isLive ((A.head σ zs).blk b) = isLive (σ.blk b) ∧ stampOf ((A.head σ zs).blk b) = stampOf (σ.blk b) := head_blk_is A σ zs
  have hlive : ∀ b, isLive (σ.blk b) = true → isLive (σ'.blk b) = true := fun b hl => by
   have hk := c2' b (hdd _ (live_notDead hl))
   unfold blkOk at hk
   split at hk
   ·split at hk
    ·rename_i q; rw [q]; rfl
    ·cases hk
   ·split at hk
    ·split at hk
     ·rename_i q; rw [q]; rfl
     ·exfalso; simp_all [isLive]
     ·cases hk
    ·rename_i hp
     rw [hblk' b (by simpa using hp)]; exact hl
  let ρ' : Nat → Value := fun b => if isDead (σ.blk b) then undef else ρ b
  have hρ' : ∀ b, isDead (σ.blk b) = false → ρ' b = ρ b := fun b hd => by show (if isDead (σ.blk b) then undef else ρ b) = ρ b; rw [hd]; rfl
  have okm : ∀ g, okF base ok0 σ'.blk ρ g → g < w.heap.size → okF base ok0 (A.head σ zs).blk ρ' g ∧ w.heap[g]? = w.heap[g]? := fun g hg _ => ⟨⟨hg.1, fun b hl => by
   rw [(hH b).2.1] at hl
   rw [hρ' b (live_notDead hl)]
   exact hg.2 b (hlive b hl)⟩, rfl⟩
  have plainRV : ∀ d v x, RD w (okF base ok0 σ'.blk ρ) ρ σ'.blk (fun n => n < σ'.clk) d v → plain1 σ'.fview d = some x → RV w (okF base ok0 (A.head σ zs).blk ρ') x v := fun d v x hd hp => by
   unfold plain1 at hp
   split at hp
   ·rename_i y hy
    simp only [Option.some.injEq] at hp
    subst hp
    exact (pc_ok' (fview_ok σ') h hd hy).mono okm
   ·cases hp
  have lift0 : ∀ d v, RD w (okF base ok0 σ'.blk ρ) ρ σ'.blk (fun n => n < σ'.clk) d v → ref0 σ σ' d = true → RD w (okF base ok0 (A.head σ zs).blk ρ') ρ' (A.head σ zs).blk (fun n => n < σ.clk) d v := fun d v hd hr => by
   cases hd with
   | any => exact .any _
   | v x _ hv => exact .v _ _ (hv.mono okm)
   | c => exact .c _
   | nil => exact .nil
   | ptr b o g hg => exact .ptr b o g ((hρ' b (by simpa [ref0] using hr)).trans hg)
   | sp b o ix g hg => exact .sp b o ix g ((hρ' b (by simpa [ref0] using hr)).trans hg)
   | ip x i s j g off m c h1 h2 h3 => exact .ip x i s j g off m c h1 (h2.mono okm) h3
   | row b n _ hn h1 hs =>
    simp only [ref0, Bool.and_eq_true, decide_eq_true_eq, Bool.or_eq_true, bne_iff_ne, beq_iff_eq] at hr
    refine .row b n v hr.1 h1 fun hst => ?_
    rw [(hH b).2.2] at hst
    rw [hρ' b (stamp_notDead hst)]
    exact hs (hr.2.resolve_left fun q => q hst)
   | rp b n s i j _ hn h1 hs =>
    simp only [ref0, Bool.and_eq_true, decide_eq_true_eq, Bool.or_eq_true, bne_iff_ne, beq_iff_eq] at hr
    refine .rp b n s i j v hr.1 h1 fun hst => ?_
    rw [(hH b).2.2] at hst
    rw [hρ' b (stamp_notDead hst)]
    exact hs (hr.2.resolve_left fun q => q hst)
   | rt b n s l _ hn h1 hs =>
    simp only [ref0, Bool.and_eq_true, decide_eq_true_eq, Bool.or_eq_true, bne_iff_ne, beq_iff_eq] at hr
    refine .rt b n s l v hr.1 h1 fun hst => ?_
    rw [(hH b).2.2] at hst
    rw [hρ' b (stamp_notDead hst)]
    exact hs (hr.2.resolve_left fun q => q hst)
   | rk b n s l _ hn h1 hs =>
    simp only [ref0, Bool.and_eq_true, decide_eq_true_eq, Bool.or_eq_true, bne_iff_ne, beq_iff_eq] at hr
    refine .rk b n s l v hr.1 h1 fun hst => ?_
    rw [(hH b).2.2] at hst
    rw [hρ' b (stamp_notDead hst)]
    exact hs (hr.2.resolve_left fun q => q hst)
   | gp x m o ix g hx h => exact .gp x m o ix g hx (h.mono okm)
   | agg => cases hr
   | tup => cases hr
   | fn => cases hr
  have lift1 : ∀ d v, RD w (okF base ok0 σ'.blk ρ) ρ σ'.blk (fun n => n < σ'.clk) d v → ref1 σ σ' d = true → RD w (okF base ok0 (A.head σ zs).blk ρ') ρ' (A.head σ zs).blk (fun n => n < σ.clk) d v := fun d v hd hr => by
   have hall : ∀ cs : List DE, cs.all (ref0 σ σ') = true → ∀ i, i < cs.length → ref0 σ σ' (cs.getD i .any) = true := fun cs hall i hi => by
    rw [List.getD_eq_getElem?_getD, List.getElem?_eq_getElem hi]
    exact List.all_eq_true.1 hall _ (List.getElem_mem hi)
   cases d with
   | agg cs =>
    cases hd with
    | agg _ vs h1 h2 h3 => exact .agg cs vs h1 h2 fun i hi => lift0 _ _ (h3 i hi) (hall cs hr i hi)
   | fn f cs =>
    cases hd with
    | fn _ _ vs h1 h3 => exact .fn f cs vs h1 fun i hi => lift0 _ _ (h3 i hi) (hall cs hr i hi)
   | _ => exact lift0 _ v hd hr
  have lift2 : ∀ d v, RD w (okF base ok0 σ'.blk ρ) ρ σ'.blk (fun n => n < σ'.clk) d v → ref2 σ σ' d = true → RD w (okF base ok0 (A.head σ zs).blk ρ') ρ' (A.head σ zs).blk (fun n => n < σ.clk) d v := fun d v hd hr => by
   have hall : ∀ cs : List DE, cs.all (ref1 σ σ') = true → ∀ i, i < cs.length → ref1 σ σ' (cs.getD i .any) = true := fun cs hall i hi => by
    rw [List.getD_eq_getElem?_getD, List.getElem?_eq_getElem hi]
    exact List.all_eq_true.1 hall _ (List.getElem_mem hi)
   cases d with
   | agg cs =>
    cases hd with
    | agg _ vs h1 h2 h3 => exact .agg cs vs h1 h2 fun i hi => lift1 _ _ (h3 i hi) (hall cs hr i hi)
   | tup cs =>
    cases hd with
    | tup _ vs h1 h3 => exact .tup cs vs h1 fun i hi => lift1 _ _ (h3 i hi) (hall cs hr i hi)
   | fn f cs =>
    cases hd with
    | fn _ _ vs h1 h3 => exact .fn f cs vs h1 fun i hi => lift1 _ _ (h3 i hi) (hall cs hr i hi)
   | _ => exact lift0 _ v hd hr
  have liftR : ∀ d d' v, RD w (okF base ok0 σ'.blk ρ) ρ σ'.blk (fun n => n < σ'.clk) d' v → sameRow σ σ' d d' = true → RD w (okF base ok0 (A.head σ zs).blk ρ') ρ' (A.head σ zs).blk (fun n => n < σ.clk) d v := fun d d' v hd hr => by
   unfold sameRow at hr
   split at hr
   ·rename_i b n b' n'
    simp only [Bool.and_eq_true, beq_iff_eq, decide_eq_true_eq] at hr
    obtain ⟨⟨⟨rfl, hn⟩, hs1⟩, hs2⟩ := hr
    cases hd with
    | row _ _ _ hn' h1 hs =>
     refine .row b n v hn h1 fun _ => ?_
     rw [hρ' b (stamp_notDead hs1)]
     exact hs hs2
   ·rename_i b o b' o'
    simp only [Bool.and_eq_true, beq_iff_eq, Bool.not_eq_true'] at hr
    obtain ⟨⟨rfl, rfl⟩, hd1⟩ := hr
    cases hd with
    | ptr _ _ g hg => exact .ptr b o g ((hρ' b hd1).trans hg)
   ·exact .any _
   ·cases hr
  refine ⟨ρ', ⟨fun t => ?_, fun b => ?_, fun b b' hl hl' hne g hg => ?_, fun b hb => ?_, ?_, h.nod, h.bel, h.low, h.drw, h.gl⟩⟩
  · -- slots
   by_cases htl' : t < σ.tm.length
   ·rw [head_tm A σ zs t htl']
    have hk := c1' t htl'
    have hr := h.tms t
    unfold LoopAnn.tm
    split
    ·exact .any _
    ·rename_i hnd
     split
     ·rename_i k hk2
      obtain ⟨x, q1, q2⟩ := idx1 k t hk2
      rw [q1]
      exact .v _ _ (plainRV _ _ _ hr q2)
     ·rename_i hk2
      have hnv : A.vs.contains t = false := by
       cases hq : A.vs.contains t with
       | false => rfl
       | true =>
        have := List.isSome_idxOf?.2 (by simpa using hq)
        rw [hk2] at this; cases this
      have hnd' : A.drop.contains t = false := by simpa using hnd
      unfold slotOk at hk
      rw [hnd', hnv, Bool.false_or, Bool.false_or] at hk
      split at hk
      ·exact liftR _ _ _ hr hk
      ·rename_i hw
       rw [Bool.or_eq_true] at hk
       rcases hk with hk | hk
       ·cases hq : σ.tm.getD t .any <;> rw [hq] at hk <;> first | exact .any _ | cases hk
       ·rw [Bool.and_eq_true] at hk
        rcases ht t (by simpa using hw) with q | q
        ·rw [q] at hr
         exact lift2 _ _ hr hk.2
        ·rw [q] at hk; exact absurd hk.1 (by simp [isAny])
   ·have : (A.head σ zs).tm.getD t .any = .any := by
     rw [List.getD_eq_getElem?_getD, List.getElem?_eq_none (by rw [(head_frB A σ zs).2.1]; omega)]; rfl
    rw [this]; exact .any _
  · -- blocks
   by_cases hdead : isDead (σ.blk b) = true
   ·have hk : (A.head σ zs).blk b = .dead := by
     have := (hH b).1
     rw [hdead] at this
     cases hq : (A.head σ zs).blk b <;> rw [hq] at this <;> first | rfl | cases this
    rw [hk]
    show (if isDead (σ.blk b) then undef else ρ b) = undef
    rw [hdead]; rfl
   ·have hdead' : isDead (σ.blk b) = false := by simpa using hdead
    have hk := c2' b (hdd _ hdead')
    have hρb := hρ' b hdead'
    have hB := h.blks b
    have hcellk : ∀ o, A.cells.contains (b, o) = true → ∃ k, A.cells.idxOf? (b, o) = some k := fun o ho => by
     have := List.isSome_idxOf?.2 (show (b, o) ∈ A.cells by simpa using ho)
     cases hq : A.cells.idxOf? (b, o) with
     | none => rw [hq] at this; cases this
     | some k => exact ⟨k, rfl⟩
    rw [head_blk]
    unfold blkOk at hk
    split at hk
    · -- a row that is written
     rename_i hrow
     have hmem : b ∈ A.rows := by simpa using hrow
     have hti : b ∈ A.touched := List.mem_append_left _ hmem
     rw [if_pos hti]
     obtain ⟨k, hk2⟩ : ∃ k, A.rows.idxOf? b = some k := by
      have := List.isSome_idxOf?.2 hmem
      cases hq : A.rows.idxOf? b with
      | none => rw [hq] at this; cases this
      | some k => exact ⟨k, rfl⟩
     obtain ⟨e', s', n', x', q1, q2⟩ := idx2 k b hk2
     split at hk
     ·rename_i e s n x e2 s2 n2 x2 hb1 hb2
      simp only [Bool.and_eq_true, beq_iff_eq, decide_eq_true_eq] at hk
      obtain ⟨⟨rfl, rfl⟩, hn⟩ := hk
      rw [hb1]
      simp only [LoopAnn.blkOf, hk2]
      rw [hb2] at q2 hB
      injection q2 with _ _ _ q3
      subst q3
      refine ⟨hn, ?_⟩
      rw [hρb, q1]
      exact hB.2.keep (fun _ _ => rfl) okm
     ·cases hk
    ·rename_i hnrow
     have hnr : A.rows.idxOf? b = none := by
      cases hq : A.rows.idxOf? b with
      | none => rfl
      | some k => exact absurd (by simpa using List.isSome_idxOf?.1 (by rw [hq]; rfl)) hnrow
     have hsame : (if b ∈ A.touched then A.blkOf zs b (σ.blk b) else σ.blk b) = A.blkOf zs b (σ.blk b) := by
      split
      ·rfl
      ·rename_i hnt
       cases hq : σ.blk b with
       | cells t cs =>
        simp only [LoopAnn.blkOf]
        congr 1
        apply List.ext_getElem?
        intro o
        rw [List.getElem?_map, List.getElem?_zipIdx]
        cases hcs : cs[o]? with
        | none => rfl
        | some d =>
         simp only [Option.map_some]
         unfold LoopAnn.cell
         have : A.cells.idxOf? (b, 0 + o) = none := by
          cases hq2 : A.cells.idxOf? (b, 0 + o) with
          | none => rfl
          | some k =>
           have hm := List.isSome_idxOf?.1 (show (A.cells.idxOf? (b, 0 + o)).isSome = true by rw [hq2]; rfl)
           exact absurd (List.mem_append_right _ (List.mem_map.2 ⟨_, hm, rfl⟩)) hnt
         rw [this]
       | row e s n x => simp only [LoopAnn.blkOf, hnr]
       | dead => rfl
       | rowh e1 s1 n1 x1 i1 j1 d1 => rfl
       | fz n x => rfl
       | sv ds vs => rfl
     rw [hsame]
     have cellGet : ∀ (cs : List DE) o, o < cs.length → (cs.zipIdx.map fun (p : DE × Nat) => A.cell zs b p.2 p.1).getD o .any = A.cell zs b o (cs.getD o .any) := fun cs o ho => by
      rw [List.getD_eq_getElem?_getD, List.getElem?_map, List.getElem?_zipIdx, List.getElem?_eq_getElem ho, List.getD_eq_getElem?_getD, List.getElem?_eq_getElem ho]
      simp
     split at hk
     · -- cells that are written
      split at hk
      ·rename_i t cs t' cs' hb1 hb2
       simp only [Bool.and_eq_true, beq_iff_eq] at hk
       obtain ⟨⟨rfl, hlen⟩, hcl⟩ := hk
       rw [hb1]
       rw [hb2] at hB
       obtain ⟨g, vs, e1, e2, e3, e4, e5, e6⟩ := hB
       refine ⟨g, vs, hρb.trans e1, e2, e3, by simp [e4, hlen], fun i hi => e5 i (by simpa [hlen] using hi), fun i hi => ?_⟩
       have hi' : i < cs.length := by simpa using hi
       rw [cellGet cs i hi']
       have h6 := e6 i (hlen ▸ hi')
       unfold LoopAnn.cell
       split
       ·rename_i k hk2
        obtain ⟨x, t2, cs2, d, q1, q2, q3, q4⟩ := idx3 k b i hk2
        rw [hb2] at q2
        injection q2 with _ q2
        subst q2
        rw [q1]
        rw [List.getD_eq_getElem?_getD, q3] at h6
        exact .v _ _ (plainRV _ _ _ h6 q4)
       ·rename_i hk2
        have hcc := List.all_eq_true.1 hcl i (by simpa using hi')
        rw [Bool.or_eq_true] at hcc
        rcases hcc with hcc | hcc
        ·obtain ⟨k, hk3⟩ := hcellk i hcc
         rw [hk2] at hk3; cases hk3
        ·exact liftR _ _ _ h6 hcc
      ·exfalso; simp_all [isDead]
      ·cases hk
     · -- untouched
      rename_i hnp
      rw [hblk' b (by simpa using hnp)] at hB
      cases hq : σ.blk b with
      | cells t cs =>
       rw [hq] at hB hk
       obtain ⟨g, vs, e1, e2, e3, e4, e5, e6⟩ := hB
       refine ⟨g, vs, hρb.trans e1, e2, e3, by simp [e4], fun i hi => e5 i (by simpa using hi), fun i hi => ?_⟩
       have hi' : i < cs.length := by simpa using hi
       rw [cellGet cs i hi']
       have h6 := e6 i hi'
       unfold LoopAnn.cell
       split
       ·rename_i k hk2
        obtain ⟨x, t2, cs2, d, q1, q2, q3, q4⟩ := idx3 k b i hk2
        rw [hblk' b (by simpa using hnp), hq] at q2
        injection q2 with _ q2
        subst q2
        rw [q1]
        rw [List.getD_eq_getElem?_getD, q3] at h6
        exact .v _ _ (plainRV _ _ _ h6 q4)
       ·rename_i hk2
        have hcc := List.all_eq_true.1 hk i (by simpa using hi')
        rw [Bool.or_eq_true] at hcc
        rcases hcc with hcc | hcc
        ·obtain ⟨k, hk3⟩ := hcellk i hcc
         rw [hk2] at hk3; cases hk3
        ·exact lift2 _ _ h6 hcc
      | row e s n x =>
       rw [hq] at hB hk
       simp only [LoopAnn.blkOf, hnr]
       refine ⟨of_decide_eq_true hk, ?_⟩
       rw [hρb]
       exact hB.2.keep (fun _ _ => rfl) okm
      | rowh e1 s1 n1 x1 i1 j1 d1 =>
       rw [hq] at hB hk
       obtain ⟨c1, c2, c2', c3, c4, u, c5, c6, c7⟩ := hB
       have hk' := hk
       simp only [Bool.and_eq_true] at hk'
       refine ⟨of_decide_eq_true hk'.1, c2, c2', c3, c4, u, c5, lift2 _ _ c6 hk'.2, ?_⟩
       rw [hρb]
       exact c7.keep (fun _ _ => rfl) okm
      | fz n x =>
       rw [hq] at hB hk
       refine ⟨of_decide_eq_true hk, ?_, ?_⟩
       ·rw [hρb]; exact hB.2.1.mono okm
       ·rw [hρb]; exact hB.2.2
      | sv ds vs =>
       rw [hq] at hB hk
       refine ⟨hρb.trans hB.1, hB.2.1, fun t => ?_⟩
       by_cases ht' : t < ds.length
       ·refine lift2 _ _ (hB.2.2 t) ?_
        rw [List.getD_eq_getElem?_getD, List.getElem?_eq_getElem ht']
        exact List.all_eq_true.1 hk _ (List.getElem_mem ht')
       ·rw [List.getD_eq_getElem?_getD, List.getElem?_eq_none (by omega)]; exact .any _
      | dead => rw [hq] at hdead'; cases hdead'
  ·rw [(hH b).2.1] at hl
   rw [(hH b').2.1] at hl'
   rw [hρ' b (live_notDead hl)] at hg
   rw [hρ' b' (live_notDead hl')]
   exact h.inj b b' (hlive b hl) (hlive b' hl') hne g hg
  ·have hd : σ.blk b = .dead := Classical.byContradiction fun hn => hb (c3' b hn)
   have := (hH b).1
   rw [hd] at this
   cases hq : (A.head σ zs).blk b <;> rw [hq] at this <;> first | rfl | cases this
  ·rw [(head_frB A σ zs).2.1, ← htl]; exact h.size
 ·cases hz
end
end Go.Proofs.YtcifjnhpgblnkaaGreatDoor
namespace Go.Proofs.YtcifjnhpgblnkaaGreatDoor
open Go.RowKit
set_option linter.unusedVariables false
set_option linter.unusedSimpArgs false
theorem vals_len {A : LoopAnn} {σ : DS} {zs : List AV} (h : A.vals σ = some zs) : zs.length = A.vs.length + A.rows.length + A.cells.length := by
 unfold LoopAnn.vals at h
 split at h
 ·rename_i a b c h1 h2 h3
  simp only [Option.some.injEq] at h
  subst h
  simp only [List.length_append, (slotsV_get h1).1, (rowsV_get h2).1, (cellsV_get h3).1]
 ·cases h
theorem cell_cell (A : LoopAnn) (ys zs : List AV) (b o : Nat) (d : DE) : A.cell zs b o (A.cell ys b o d) = A.cell zs b o d := by
 unfold LoopAnn.cell
 split <;> rfl
theorem blkOf_blkOf (A : LoopAnn) (ys zs : List AV) (b : Nat) (d : DB) : A.blkOf zs b (A.blkOf ys b d) = A.blkOf zs b d := by
 cases d with
 | row e s n x =>
  cases hq : A.rows.idxOf? b with
  | none => simp only [LoopAnn.blkOf, hq]
  | some k => simp only [LoopAnn.blkOf, hq]
 | cells t cs =>
  simp only [LoopAnn.blkOf]
  congr 1
  apply List.ext_getElem?
  intro o
  simp only [List.getElem?_map, List.getElem?_zipIdx]
  cases cs[o]? with
  | none => rfl
  | some d => simp only [Option.map_some, Nat.zero_add, cell_cell]
 | dead => rfl
 | rowh e1 s1 n1 x1 i1 j1 d1 => rfl
 | fz n x => rfl
 | sv ds vs => rfl
section
variable {P : Program} {Γ : FuncId → Option Ca} {inl : Inl} {base : Nat} {w0 : World} {ok0 : Nat → Prop} {ann : FuncId → Nat → LoopEx} {fid : FuncId}
theorem rowify1_ok (q : Nat × Nat × TypeId × Nat) {σ : DS} {ρ : Nat → Value} {a : Act} {w : World} (h : HS base w0 ok0 σ ρ a w) : ∃ ρ', HS base w0 ok0 (rowify1 σ q) ρ' a w := by
 obtain ⟨b, o, e, s⟩ := q
 unfold rowify1
 split
 ·rename_i t cs hb
  simp only at hb ⊢
  split
  ·rename_i hc
   simp only [Bool.and_eq_true, decide_eq_true_eq] at hc
   obtain ⟨hnil, hs⟩ := hc
   have hnil' : cs.getD o .any = .nil := by
    revert hnil
    generalize cs.getD o .any = d
    cases d <;> simp [isNilD]
   have ho : o < cs.length := by
    apply Classical.byContradiction
    intro hh
    rw [List.getD_eq_getElem?_getD, List.getElem?_eq_none (by omega)] at hnil'
    cases hnil'
   have hdead : σ.blk σ.clk = .dead := h.frs σ.clk (by show ¬ σ.clk < σ.clk; omega)
   have hne : b ≠ σ.clk := fun x => by rw [x, hdead] at hb; cases hb
   have hblt : b < σ.clk := Classical.byContradiction fun x => by have := h.frs b x; rw [hb] at this; cases this
   have hblk : ∀ c, (DS.mk σ.tm ((b, .cells t (cs.set o (.row σ.clk σ.clk))) :: (σ.clk, .row e s σ.clk (AV.mk s [])) :: σ.bl) (σ.clk + 64) σ.orc).blk c = if c = b then .cells t (cs.set o (.row σ.clk σ.clk)) else if c = σ.clk then .row e s σ.clk (AV.mk s []) else σ.blk c := fun c => by
    have : (DS.mk σ.tm ((b, .cells t (cs.set o (.row σ.clk σ.clk))) :: (σ.clk, .row e s σ.clk (AV.mk s [])) :: σ.bl) (σ.clk + 64) σ.orc).blk = updB σ.blk [(b, .cells t (cs.set o (.row σ.clk σ.clk))), (σ.clk, .row e s σ.clk (AV.mk s []))] := blk_app σ [(b, .cells t (cs.set o (.row σ.clk σ.clk))), (σ.clk, .row e s σ.clk (AV.mk s []))] _ _ _
    rw [this, updB_cons, updB_cons]; rfl
   refine ⟨fun c => if c = σ.clk then .slice none 0 0 else ρ c, ?_⟩
   refine HR.step h (fun c => c = b ∨ c = σ.clk) (fun c hc => ?_) (fun c hc => ?_) (fun c t' cs' hc hk => ?_) (fun c n x hc hk => ?_) (fun n hn => ?_) (fun c hc => ?_) (fun c n hc hn hst => ?_) (Nat.le_refl _) (fun _ _ _ => rfl) (fun c hc hl g hg => ?_) (fun c c' hc hc' hl hl' hcc g hg hg' => ?_) rfl rfl rfl (fun H1 H5 c hc => ?_) (fun _ t => .inl ⟨rfl, rfl⟩) h.size rfl
   ·rw [hblk, if_neg (fun x => hc (.inl x)), if_neg (fun x => hc (.inr x))]
   ·show (if c = σ.clk then _ else ρ c) = ρ c
    rw [if_neg (fun x => hc (.inr x))]
   ·show (if c = σ.clk then _ else ρ c) = ρ c
    rw [if_neg (fun x => by rw [x, hdead] at hk; cases hk)]
   ·rcases hc with rfl | rfl
    ·rw [hb] at hk; cases hk
    ·rw [hdead] at hk; cases hk
   ·have : n < σ.clk := hn
    show n < σ.clk + 64; omega
   ·show c < σ.clk + 64
    rcases hc with rfl | rfl <;> omega
   ·rw [hblk] at hst
    rcases hc with rfl | rfl
    ·rw [if_pos rfl] at hst; cases hst
    ·rw [if_neg (Ne.symm hne), if_pos rfl] at hst
     injection hst with hst
     have : n < σ.clk := hn
     omega
   ·rcases hc with rfl | rfl
    ·left
     refine ⟨by rw [hb]; rfl, ?_⟩
     simp only [if_neg hne] at hg
     exact hg
    ·simp only [if_true, blkNo] at hg
     cases hg
   ·rcases hc with rfl | rfl
    ·rcases hc' with rfl | rfl
     ·exact hcc rfl
     ·simp only [if_true, blkNo] at hg'; cases hg'
    ·simp only [if_true, blkNo] at hg; cases hg
   ·rw [hblk]
    rcases hc with rfl | rfl
    ·rw [if_pos rfl]
     obtain ⟨g, vs, e1, e2, e3, e4, e5, e6⟩ := (show RB w (okF base ok0 σ.blk ρ) ρ σ.blk (fun n => n < σ.clk) base c (.cells t cs) from hb ▸ h.blks c)
     refine ⟨g, vs, by show (if c = σ.clk then _ else ρ c) = _; rw [if_neg hne]; exact e1, e2, e3, by rw [List.length_set]; exact e4, fun i hi => e5 i (by rw [List.length_set] at hi; exact hi), fun i hi => ?_⟩
     have hi' : i < cs.length := by rw [List.length_set] at hi; exact hi
     by_cases hio : i = o
     ·subst hio
      have hv := e6 i hi'
      rw [hnil'] at hv
      have e7 : (cs.set i (.row σ.clk σ.clk)).getD i .any = .row σ.clk σ.clk := by
       rw [List.getD_eq_getElem?_getD, List.getElem?_set_self ho]; rfl
      rw [e7]
      generalize vs.getD i undef = u at hv
      cases hv
      exact .row _ _ _ (by show σ.clk < σ.clk + 64; omega) rfl fun _ => by simp
     ·have e7 : (cs.set o (.row σ.clk σ.clk)).getD i .any = cs.getD i .any := by
       rw [List.getD_eq_getElem?_getD, List.getElem?_set_ne (Ne.symm hio), List.getD_eq_getElem?_getD]
      rw [e7]
      exact H5 _ _ (e6 i hi')
    ·rw [if_neg (Ne.symm hne), if_pos rfl]
     refine ⟨by show σ.clk < σ.clk + 64; omega, ?_⟩
     show RRow w base e s _ (AV.mk s []) (if σ.clk = σ.clk then _ else _)
     rw [if_pos rfl]
     exact RRow.nil w base e s (by omega) _
  ·exact ⟨ρ, h⟩
 ·exact ⟨ρ, h⟩
theorem rowify_ok : ∀ (l : List (Nat × Nat × TypeId × Nat)) {σ : DS} {ρ : Nat → Value} {a : Act} {w : World}, HS base w0 ok0 σ ρ a w → ∃ ρ', HS base w0 ok0 (rowify l σ) ρ' a w
 | [], _, ρ, _, _, h => ⟨ρ, h⟩
 | q :: l, _, _, _, _, h => by
  obtain ⟨ρ1, h1⟩ := rowify1_ok q h
  exact rowify_ok l h1
theorem head_head {A : LoopAnn} {σ : DS} {ys zs : List AV} {ρ : Nat → Value} {a : Act} {w : World} (h : HS base w0 ok0 (A.head (A.head σ ys) zs) ρ a w) : HS base w0 ok0 (A.head σ zs) ρ a w := by
 have hl1 := (head_frB A σ zs).2.1
 have hl2 := (head_frB A (A.head σ ys) zs).2.1
 have hl3 := (head_frB A σ ys).2.1
 refine HR.congr h (fun t => ?_) (by rw [hl1, hl2, hl3]) (fun b => ?_) (fun n hn => hn)
 ·by_cases ht : t < σ.tm.length
  ·rw [head_tm A σ zs t ht, head_tm A (A.head σ ys) zs t (by omega), head_tm A σ ys t ht]
   unfold LoopAnn.tm
   split
   ·rfl
   ·split <;> rfl
  ·rw [List.getD_eq_getElem?_getD, List.getElem?_eq_none (by omega), List.getD_eq_getElem?_getD, List.getElem?_eq_none (by omega)]
 ·rw [head_blk, head_blk, head_blk]
  split
  ·rw [blkOf_blkOf]
  ·rfl
theorem frzSlot_ok {ρ : Nat → Value} {a : Act} {w : World} {σ : DS} (t : Nat) (h : HS base w0 ok0 σ ρ a w) : HS base w0 ok0 (frzSlot σ t) ρ a w := by
 have key : ∀ (σ : DS) (b n : Nat) (x : AV), HS base w0 ok0 σ ρ a w → σ.tm.getD t .any = .row b n → σ.blk b = .fz n x → HS base w0 ok0 { σ with tm := σ.tm.set t (.v x) } ρ a w := fun σ b n x h ht hb => by
  have hB := h.blks b
  rw [hb] at hB
  refine ⟨fun t' => ?_, h.blks, h.inj, h.frs, by rw [h.size]; simp, h.nod, h.bel, h.low, h.drw, h.gl⟩
  have h1 := h.tms t'
  show RD w _ ρ _ _ ((σ.tm.set t (.v x)).getD t' .any) _
  by_cases e : t' = t
  ·subst e
   have hlt : t' < σ.tm.length := Classical.byContradiction fun q => by rw [List.getD_eq_getElem?_getD, List.getElem?_eq_none (by omega)] at ht; cases ht
   have e2 : (σ.tm.set t' (.v x)).getD t' .any = .v x := by simp [List.getD_eq_getElem?_getD, hlt]
   rw [e2]
   rw [ht] at h1
   generalize a.tmps.getD t' undef = v at h1
   cases h1 with
   | row _ _ _ hn h1' hs =>
    rw [hs (by rw [hb]; rfl)]
    exact .v _ _ hB.2.1
  ·have e2 : (σ.tm.set t (.v x)).getD t' .any = σ.tm.getD t' .any := by
    simp only [List.getD_eq_getElem?_getD]
    rw [List.getElem?_set_ne (fun q => e q.symm)]
   rw [e2]; exact h1
 unfold frzSlot
 split
 ·rename_i b n ht
  split
  ·rename_i e s m x hb
   split
   ·rename_i hmn
    subst hmn
    have hf := HR.freeze (fview_ok σ) h [b]
    have e1 : σ.fview.frz [b] = [(b, .fz m x)] := by
     have hb' : σ.fview.bl b = .row e s m x := hb
     simp [View.frz, hb']
    rw [e1] at hf
    have h1 : HS base w0 ok0 (DS.mk σ.tm ((b, .fz m x) :: σ.bl) σ.clk σ.orc) ρ a w := by
     unfold HS
     rw [show (DS.mk σ.tm ((b, .fz m x) :: σ.bl) σ.clk σ.orc).blk = updB σ.blk [(b, .fz m x)] from blk_app σ [(b, .fz m x)] _ _ _]
     exact hf
    exact key _ b m x h1 ht (by simp [DS.blk])
   ·exact h
  ·rename_i m x hb
   split
   ·rename_i hmn
    subst hmn
    exact key σ b m x h ht hb
   ·exact h
  ·exact h
 ·exact h
theorem frzBlk_ok {ρ : Nat → Value} {a : Act} {w : World} {σ : DS} (t : Nat) (h : HS base w0 ok0 σ ρ a w) : HS base w0 ok0 (frzBlk σ t) ρ a w := by
 unfold frzBlk
 split
 ·rename_i b n ht
  have hf := HR.freeze (fview_ok σ) h [b]
  unfold HS
  rw [show (DS.mk σ.tm (σ.fview.frz [b] ++ σ.bl) σ.clk σ.orc).blk = updB σ.blk (σ.fview.frz [b]) from blk_app σ _ _ _ _]
  exact hf
 ·exact h
theorem rebind_ok {ρ : Nat → Value} {a : Act} {w : World} {σ : DS} (t b0 : Nat) (h : HS base w0 ok0 σ ρ a w) : ∃ ρ', HS base w0 ok0 (rebind σ t b0) ρ' a w := by
 unfold rebind
 split
 ·rename_i b n ht
  split
  ·exact ⟨ρ, h⟩
  ·rename_i hbb
   split
   ·rename_i e s m x hb
    split
    ·rename_i hc
     obtain ⟨rfl, hlt, hnc⟩ := hc
     have hB := h.blks b
     rw [hb] at hB
     have hbl : (DS.mk (σ.tm.set t (.row b0 σ.clk)) ((b0, .row e s σ.clk x) :: (b, .dead) :: σ.bl) (σ.clk + 64) σ.orc).blk = updB σ.blk [(b0, .row e s σ.clk x), (b, .dead)] := blk_app σ [(b0, .row e s σ.clk x), (b, .dead)] _ _ _
     have u0 : updB σ.blk [(b0, .row e s σ.clk x), (b, .dead)] b0 = .row e s σ.clk x := by simp [updB]
     have u1 : updB σ.blk [(b0, .row e s σ.clk x), (b, .dead)] b = .dead := by
      simp [updB, List.find?_cons, show ¬ (b0 == b) = true by simpa using fun q => hbb q.symm]
     have u2 : ∀ c, c ≠ b0 → c ≠ b → updB σ.blk [(b0, .row e s σ.clk x), (b, .dead)] c = σ.blk c := fun c h1 h2 => updB_of_not (by simp [h1, h2])
     refine ⟨fun c => if c = b0 then ρ b else if c = b then undef else ρ c, ?_⟩
     show HR base w0 ok0 (fun n => n < σ.clk + 64) (σ.tm.set t (.row b0 σ.clk)) (DS.mk (σ.tm.set t (.row b0 σ.clk)) ((b0, .row e s σ.clk x) :: (b, .dead) :: σ.bl) (σ.clk + 64) σ.orc).blk _ a w
     rw [hbl]
     have hisb : b < σ.clk := Classical.byContradiction fun q => by
      have := h.frs b q
      rw [hb] at this; cases this
     refine HR.step2 h (fun c => c = b0 ∨ c = b) (fun c hc => u2 c (fun q => hc (.inl q)) (fun q => hc (.inr q))) (fun c hc => ?_) (fun c t' cs hc hk => ?_)
      (fun n hn => by have : n < σ.clk := hn; show n < σ.clk + 64; omega) (fun c hc => by show c < σ.clk + 64; rcases hc with rfl | rfl <;> omega) (fun c n' hc hn' hst => ?_) (Nat.le_refl _) (fun _ _ _ => rfl)
      (fun c hc hl g hg => ?_) (fun c c' hc hc' hl hl' hne => ?_) rfl rfl rfl (fun H1 H5 c hc => ?_) (fun H1 t' => ?_) (by rw [h.size]; simp) rfl
     ·simp [show c ≠ b0 from fun q => hc (.inl q), show c ≠ b from fun q => hc (.inr q)]
     ·rcases hc with rfl | rfl
      ·rw [hk] at hnc; cases hnc
      ·rw [hb] at hk; cases hk
     ·rcases hc with rfl | rfl
      ·rw [u0] at hst
       have : σ.clk = n' := by simpa [stampOf] using hst
       have hn2 : n' < σ.clk := hn'
       omega
      ·rw [u1] at hst; cases hst
     ·rcases hc with rfl | rfl
      ·simp only [if_true] at hg
       exact .inl ⟨b, .inr rfl, by rw [hb]; rfl, hg⟩
      ·rw [u1] at hl; cases hl
     ·rcases hc with rfl | rfl
      ·rcases hc' with rfl | rfl
       ·exact absurd rfl hne
       ·rw [u1] at hl'; cases hl'
      ·rw [u1] at hl; cases hl
     ·rcases hc with rfl | rfl
      ·rw [u0]
       refine ⟨by show σ.clk < σ.clk + 64; omega, ?_⟩
       simp only [if_true]
       exact hB.2.keep (fun _ _ => rfl) H1
      ·rw [u1]
       show (if c = b0 then ρ c else if c = c then undef else ρ c) = undef
       rw [if_neg hbb, if_pos rfl]
     ·by_cases e2 : t' = t
      ·right
       subst e2
       have hlt' : t' < σ.tm.length := Classical.byContradiction fun q => by rw [List.getD_eq_getElem?_getD, List.getElem?_eq_none (by omega)] at ht; cases ht
       have e3 : (σ.tm.set t' (.row b0 σ.clk)).getD t' .any = .row b0 σ.clk := by simp [List.getD_eq_getElem?_getD, hlt']
       rw [e3]
       have h1 := h.tms t'
       rw [ht] at h1
       generalize a.tmps.getD t' undef = v at h1
       cases h1 with
       | row _ _ _ hn h1' hs =>
        refine .row _ _ _ (by show σ.clk < σ.clk + 64; omega) h1' fun _ => ?_
        simp only [if_true]
        exact hs (by rw [hb]; rfl)
      ·left
       refine ⟨?_, rfl⟩
       simp only [List.getD_eq_getElem?_getD]
       rw [List.getElem?_set_ne (fun q => e2 q.symm)]
    ·exact ⟨ρ, h⟩
   ·exact ⟨ρ, h⟩
 ·exact ⟨ρ, h⟩
theorem RD.ren {w : World} {ok ok' : Nat → Prop} {ρ ρ' : Nat → Value} {blk blk' : Nat → DB} {isd : Nat → Prop} {d : DE} {v : Value} (h : RD w ok ρ blk isd d v) {b c : Nat} (hn : d.noB b c = true)
  (h1 : ∀ g, ok g → g < w.heap.size → ok' g ∧ w.heap[g]? = w.heap[g]?) (h2 : ∀ k, k ≠ b → k ≠ c → ρ' k = ρ k ∧ blk' k = blk k) : RD w ok' ρ' blk' isd d v := by
 cases h with
 | any v => exact .any v
 | v x _ h => exact .v x v (h.mono h1)
 | c => exact .c v
 | nil => exact .nil
 | ip x i s j g off m c hx h hi => exact .ip x i s j g off m c hx (h.mono h1) hi
 | gp x m o ix g hx h => exact .gp x m o ix g hx (h.mono h1)
 | agg => cases hn
 | tup => cases hn
 | fn => cases hn
 | ptr k o g h =>
  simp only [DE.noB, Bool.and_eq_true, bne_iff_ne] at hn
  obtain ⟨e1, e2⟩ := h2 k hn.1 hn.2
  exact .ptr k o g (e1.trans h)
 | sp k o ix g h =>
  simp only [DE.noB, Bool.and_eq_true, bne_iff_ne] at hn
  obtain ⟨e1, e2⟩ := h2 k hn.1 hn.2
  exact .sp k o ix g (e1.trans h)
 | row k n _ hn' h1' h =>
  simp only [DE.noB, Bool.and_eq_true, bne_iff_ne] at hn
  obtain ⟨e1, e2⟩ := h2 k hn.1 hn.2
  exact .row k n v hn' h1' fun hs => by rw [e1]; exact h (by rw [← e2]; exact hs)
 | rp k n s i j _ hn' h1' h =>
  simp only [DE.noB, Bool.and_eq_true, bne_iff_ne] at hn
  obtain ⟨e1, e2⟩ := h2 k hn.1 hn.2
  exact .rp k n s i j v hn' h1' fun hs => by rw [e1]; exact h (by rw [← e2]; exact hs)
 | rk k n s l _ hn' h1' h =>
  simp only [DE.noB, Bool.and_eq_true, bne_iff_ne] at hn
  obtain ⟨e1, e2⟩ := h2 k hn.1 hn.2
  exact .rk k n s l v hn' h1' fun hs => by rw [e1]; exact h (by rw [← e2]; exact hs)
 | rt k n s l _ hn' h1' h =>
  simp only [DE.noB, Bool.and_eq_true, bne_iff_ne] at hn
  obtain ⟨e1, e2⟩ := h2 k hn.1 hn.2
  exact .rt k n s l v hn' h1' fun hs => by rw [e1]; exact h (by rw [← e2]; exact hs)
theorem RD.drop {w : World} {ok ok' : Nat → Prop} {ρ ρ' : Nat → Value} {blk blk' : Nat → DB} {isd : Nat → Prop} {d : DE} {v : Value} (h : RD w ok ρ blk isd d v) (b c : Nat)
  (h1 : ∀ g, ok g → g < w.heap.size → ok' g ∧ w.heap[g]? = w.heap[g]?) (h2 : ∀ k, k ≠ b → k ≠ c → ρ' k = ρ k ∧ blk' k = blk k) : RD w ok' ρ' blk' isd (dropB b c d) v := by
 unfold dropB
 split
 ·rename_i hn; exact h.ren hn h1 h2
 ·exact .any v
theorem all_getD {l : List DE} {p : DE → Bool} (h : l.all p = true) (hp : p .any = true) (i : Nat) : p (l.getD i .any) = true := by
 rw [List.getD_eq_getElem?_getD]
 cases hl : l[i]? with
 | none => exact hp
 | some d => exact List.all_eq_true.1 h d (List.mem_of_getElem? hl)
theorem rebindP_ok {ρ : Nat → Value} {a : Act} {w : World} {σ : DS} (t b0 : Nat) (h : HS base w0 ok0 σ ρ a w) : ∃ ρ', HS base w0 ok0 (rebindP σ t b0) ρ' a w := by
 unfold rebindP
 split
 ·rename_i b o ht
  split
  ·rename_i ty cs hb
   split
   ·rename_i hc
    rw [Bool.and_eq_true, Bool.and_eq_true] at hc
    obtain ⟨⟨hcs, hall⟩, hlt⟩ := hc
    replace hlt : b0 < σ.clk := of_decide_eq_true hlt
    have hall' : ∀ k, k ≠ b → k ≠ b0 → (σ.blk k).noB b b0 = true := fun k h1 h2 => by
     by_cases hm : k ∈ σ.bl.map (·.1)
     ·have := List.all_eq_true.1 hall k hm
      simp only [Bool.or_eq_true, beq_iff_eq] at this
      rcases this with (q | q) | q
      ·exact absurd q h1
      ·exact absurd q h2
      ·exact q
     ·rw [blk_dead hm]; rfl
    have hB := h.blks b
    rw [hb] at hB
    obtain ⟨g, vs, hg, hge, hhe, hsz, hone, hRD⟩ := hB
    have hbl : (DS.mk ((σ.tm.map (dropB b b0)).set t (.ptr b0 o)) ((b0, .cells ty cs) :: (b, .dead) :: σ.bl) σ.clk σ.orc).blk = updB σ.blk [(b0, .cells ty cs), (b, .dead)] := blk_app σ [(b0, .cells ty cs), (b, .dead)] _ _ _
    have u0 : updB σ.blk [(b0, .cells ty cs), (b, .dead)] b0 = .cells ty cs := by simp [updB]
    have u1 : b ≠ b0 → updB σ.blk [(b0, .cells ty cs), (b, .dead)] b = .dead := fun hbb => by
     simp [updB, List.find?_cons, show ¬ (b0 == b) = true by simpa using fun q => hbb q.symm]
    have u2 : ∀ k, k ≠ b → k ≠ b0 → updB σ.blk [(b0, .cells ty cs), (b, .dead)] k = σ.blk k := fun k h1 h2 => updB_of_not (by simp [h1, h2])
    refine ⟨fun k => if k = b0 then ρ b else if k = b then undef else ρ k, ?_⟩
    show HR base w0 ok0 (fun n => n < σ.clk) ((σ.tm.map (dropB b b0)).set t (.ptr b0 o)) (DS.mk ((σ.tm.map (dropB b b0)).set t (.ptr b0 o)) ((b0, .cells ty cs) :: (b, .dead) :: σ.bl) σ.clk σ.orc).blk _ a w
    rw [hbl]
    generalize updB σ.blk [(b0, .cells ty cs), (b, .dead)] = B at u0 u1 u2
    have r0 : (fun k => if k = b0 then ρ b else if k = b then undef else ρ k) b0 = ρ b := by simp
    have r1 : b ≠ b0 → (fun k => if k = b0 then ρ b else if k = b then undef else ρ k) b = undef := fun q => by simp [q]
    have r2 : ∀ k, k ≠ b → k ≠ b0 → (fun k => if k = b0 then ρ b else if k = b then undef else ρ k) k = ρ k := fun k h1 h2 => by simp [h1, h2]
    generalize (fun k => if k = b0 then ρ b else if k = b then undef else ρ k) = R at r0 r1 r2
    have hnew : ∀ k, isLive (B k) = true → ∃ k0, σ.blk k0 = B k ∧ R k = ρ k0 ∧ (k0 = b ↔ k = b0) ∧ (k ≠ b0 → k0 = k) := fun k hl => by
     by_cases q0 : k = b0
     ·subst q0
      exact ⟨b, by rw [hb, u0], r0, by simp, fun q => absurd rfl q⟩
     ·by_cases q1 : k = b
      ·subst q1
       rw [u1 q0] at hl; cases hl
      ·exact ⟨k, (u2 k q1 q0).symm, r2 k q1 q0, by simp [q0, q1], fun _ => rfl⟩
    have okm : ∀ g, okF base ok0 σ.blk ρ g → g < w.heap.size → okF base ok0 B R g ∧ w.heap[g]? = w.heap[g]? := fun g hg _ => ⟨⟨hg.1, fun k hl => by
     obtain ⟨k0, e1, e2, _⟩ := hnew k hl
     rw [e2]
     exact hg.2 k0 (by rw [e1]; exact hl)⟩, rfl⟩
    have h2 : ∀ k, k ≠ b → k ≠ b0 → R k = ρ k ∧ B k = σ.blk k := fun k q1 q2 => ⟨r2 k q1 q2, u2 k q1 q2⟩
    refine ⟨fun t' => ?_, fun k => ?_, fun k k' hl hl' hne g' hg' => ?_, fun k hk => ?_, by rw [h.size]; simp, h.nod, h.bel, h.low, h.drw, h.gl⟩
    ·have hr := h.tms t'
     by_cases e : t' = t
     ·subst e
      have hlt' : t' < σ.tm.length := Classical.byContradiction fun q => by rw [List.getD_eq_getElem?_getD, List.getElem?_eq_none (by omega)] at ht; cases ht
      have e2 : ((σ.tm.map (dropB b b0)).set t' (.ptr b0 o)).getD t' .any = .ptr b0 o := by simp [List.getD_eq_getElem?_getD, hlt']
      rw [e2]
      rw [ht] at hr
      generalize a.tmps.getD t' undef = v at hr
      cases hr with
      | ptr _ _ g1 hg1 => exact .ptr b0 o g1 (r0.trans hg1)
     ·have e2 : ((σ.tm.map (dropB b b0)).set t (.ptr b0 o)).getD t' .any = dropB b b0 (σ.tm.getD t' .any) := by
       rw [← map_drop]
       simp only [List.getD_eq_getElem?_getD]
       rw [List.getElem?_set_ne (fun q => e q.symm)]
      rw [e2]
      exact hr.drop b b0 okm h2
    ·by_cases q0 : k = b0
     ·subst q0
      rw [u0]
      exact ⟨g, vs, r0.trans hg, hge, hhe, hsz, hone, fun i hi => (hRD i hi).ren (all_getD hcs rfl i) okm h2⟩
     ·by_cases q1 : k = b
      ·subst q1
       rw [u1 q0]
       exact r1 q0
      ·rw [u2 k q1 q0]
       have hk := h.blks k
       have hno := hall' k q1 q0
       cases hkb : σ.blk k with
       | dead => rw [hkb] at hk; exact (r2 k q1 q0).trans hk
       | cells t1 cs1 =>
        rw [hkb] at hk hno
        obtain ⟨g1, vs1, e1, e2, e3, e4, e5, e6⟩ := hk
        exact ⟨g1, vs1, (r2 k q1 q0).trans e1, e2, e3, e4, e5, fun i hi => (e6 i hi).ren (all_getD hno rfl i) okm h2⟩
       | row e1 s1 n1 x1 =>
        rw [hkb] at hk
        refine ⟨hk.1, ?_⟩
        rw [r2 k q1 q0]
        exact hk.2.keep (fun _ _ => rfl) okm
       | rowh e1 s1 n1 x1 i1 j1 d1 =>
        rw [hkb] at hk hno
        obtain ⟨c1, c2, c2', c3, c4, u, c5, c6, c7⟩ := hk
        refine ⟨c1, c2, c2', c3, c4, u, c5, c6.ren hno okm h2, ?_⟩
        rw [r2 k q1 q0]
        exact c7.keep (fun _ _ => rfl) okm
       | fz n1 x1 =>
        rw [hkb] at hk
        refine ⟨hk.1, ?_, ?_⟩
        ·rw [r2 k q1 q0]; exact hk.2.1.mono okm
        ·rw [r2 k q1 q0]; exact hk.2.2
       | sv ds1 vs1 =>
        rw [hkb] at hk hno
        exact ⟨(r2 k q1 q0).trans hk.1, hk.2.1, fun t1 => (hk.2.2 t1).ren (all_getD hno rfl t1) okm h2⟩
    ·obtain ⟨k0, e1, e2, e3, e4⟩ := hnew k hl
     obtain ⟨k1, f1, f2, f3, f4⟩ := hnew k' hl'
     rw [f2]
     rw [e2] at hg'
     refine h.inj k0 k1 (by rw [e1]; exact hl) (by rw [f1]; exact hl') (fun q => hne ?_) g' hg'
     by_cases z0 : k = b0
     ·have z1 := e3.2 z0
      have z2 := f3.1 (by rw [← q]; exact z1)
      rw [z0, z2]
     ·have z1 := e4 z0
      have z2 : k' ≠ b0 := fun z => z0 (e3.1 (by rw [q]; exact f3.2 z))
      rw [← z1, q, f4 z2]
    ·have hk' : ¬ k < σ.clk := hk
     have q0 : k ≠ b0 := fun q => hk' (by rw [q]; exact hlt)
     have q1 : k ≠ b := fun q => by
      have := h.frs b (by rw [← q]; exact hk)
      rw [hb] at this; cases this
     rw [u2 k q1 q0]
     exact h.frs k hk
   ·exact ⟨ρ, h⟩
  ·exact ⟨ρ, h⟩
 ·exact ⟨ρ, h⟩
theorem frzBox_ok {ρ : Nat → Value} {a : Act} {w : World} {σ : DS} (t : Nat) (h : HS base w0 ok0 σ ρ a w) : ∃ ρ', HS base w0 ok0 (frzBox σ t) ρ' a w := by
 unfold frzBox
 split
 ·rename_i b ht
  split
  ·rename_i ty cs hb
   split
   ·rename_i xs hpc
    split
    ·rename_i hall
     have hall' : ∀ k, k ≠ b → (σ.blk k).noB b b = true := fun k h1 => by
      by_cases hm : k ∈ σ.bl.map (·.1)
      ·have := List.all_eq_true.1 hall k hm
       simp only [Bool.or_eq_true, beq_iff_eq] at this
       rcases this with q | q
       ·exact absurd q h1
       ·exact q
      ·rw [blk_dead hm]; rfl
     have hB := h.blks b
     rw [hb] at hB
     obtain ⟨g, vs, hg, hge, hhe, hsz, hone, hRD⟩ := hB
     have hlb : isLive (σ.blk b) = true := by rw [hb]; rfl
     have hbl : (DS.mk ((σ.tm.map (dropB b b)).set t (.v (AV.mkRef xs))) ((b, .dead) :: σ.bl) σ.clk σ.orc).blk = updB σ.blk [(b, .dead)] := blk_app σ [(b, .dead)] _ _ _
     have u1 : updB σ.blk [(b, .dead)] b = .dead := by simp [updB]
     have u2 : ∀ k, k ≠ b → updB σ.blk [(b, .dead)] k = σ.blk k := fun k h1 => updB_of_not (by simp [h1])
     refine ⟨fun k => if k = b then undef else ρ k, ?_⟩
     show HR base w0 ok0 (fun n => n < σ.clk) ((σ.tm.map (dropB b b)).set t (.v (AV.mkRef xs))) (DS.mk ((σ.tm.map (dropB b b)).set t (.v (AV.mkRef xs))) ((b, .dead) :: σ.bl) σ.clk σ.orc).blk _ a w
     rw [hbl]
     generalize updB σ.blk [(b, .dead)] = B at u1 u2
     have r1 : (fun k => if k = b then undef else ρ k) b = undef := by simp
     have r2 : ∀ k, k ≠ b → (fun k => if k = b then undef else ρ k) k = ρ k := fun k h1 => by simp [h1]
     generalize (fun k => if k = b then undef else ρ k) = R at r1 r2
     have hnew : ∀ k, isLive (B k) = true → k ≠ b := fun k hl q => by subst q; rw [u1] at hl; cases hl
     have okm : ∀ g, okF base ok0 σ.blk ρ g → g < w.heap.size → okF base ok0 B R g ∧ w.heap[g]? = w.heap[g]? := fun g hg _ => ⟨⟨hg.1, fun k hl => by
      have hk := hnew k hl
      rw [u2 k hk] at hl
      rw [r2 k hk]
      exact hg.2 k hl⟩, rfl⟩
     have h2 : ∀ k, k ≠ b → k ≠ b → R k = ρ k ∧ B k = σ.blk k := fun k q1 _ => ⟨r2 k q1, u2 k q1⟩
     have hgok : okF base ok0 B R g := ⟨fun q => absurd q (by omega), fun k hl => by
      have hk := hnew k hl
      rw [u2 k hk] at hl
      rw [r2 k hk]
      exact h.inj b k hlb hl (fun q => hk q.symm) g (by rw [hg]; rfl)⟩
     have href : RV w (okF base ok0 B R) (AV.mkRef xs) (.pointer (some ⟨g, 0, none⟩)) := by
      obtain ⟨p1, p2⟩ := pcs_get hpc
      refine .ref xs g (fun i => vs.getD i undef) hgok (Array.getElem?_eq_some_iff.1 hhe).1 (fun i hi => ?_) (fun i hi => hone i (by omega)) (fun i hi => ?_)
      ·have hiv : i < vs.size := by omega
       have := cell_of_row w g i vs ty (0, 0) hhe
       rw [this]
       simp [hiv]
      ·obtain ⟨r', z1, z2⟩ := p2 i (by omega)
       have hr0 : r' = [] := by
        cases r' with
        | nil => rfl
        | cons c l => exact absurd (z2 c (by simp)) (by simp)
       subst hr0
       exact (pc_ok' (fview_ok σ) h (hRD i (by omega)) z1).mono okm
     refine ⟨fun t' => ?_, fun k => ?_, fun k k' hl hl' hne g' hg' => ?_, fun k hk => ?_, by rw [h.size]; simp, h.nod, h.bel, h.low, h.drw, h.gl⟩
     ·have hr := h.tms t'
      by_cases e : t' = t
      ·subst e
       have hlt' : t' < σ.tm.length := Classical.byContradiction fun q => by rw [List.getD_eq_getElem?_getD, List.getElem?_eq_none (by omega)] at ht; cases ht
       have e2 : ((σ.tm.map (dropB b b)).set t' (.v (AV.mkRef xs))).getD t' .any = .v (AV.mkRef xs) := by simp [List.getD_eq_getElem?_getD, hlt']
       rw [e2]
       rw [ht] at hr
       generalize a.tmps.getD t' undef = v at hr
       cases hr with
       | ptr _ _ g1 hg1 =>
        rw [hg] at hg1
        injection hg1 with hg1
        injection hg1 with hg1
        injection hg1 with hg1
        subst hg1
        exact .v _ _ href
      ·have e2 : ((σ.tm.map (dropB b b)).set t (.v (AV.mkRef xs))).getD t' .any = dropB b b (σ.tm.getD t' .any) := by
        rw [← map_drop]
        simp only [List.getD_eq_getElem?_getD]
        rw [List.getElem?_set_ne (fun q => e q.symm)]
       rw [e2]
       exact hr.drop b b okm h2
     ·by_cases q1 : k = b
      ·subst q1
       rw [u1]
       exact r1
      ·rw [u2 k q1]
       have hk := h.blks k
       have hno := hall' k q1
       cases hkb : σ.blk k with
       | dead => rw [hkb] at hk; exact (r2 k q1).trans hk
       | cells t1 cs1 =>
        rw [hkb] at hk hno
        obtain ⟨g1, vs1, e1, e2, e3, e4, e5, e6⟩ := hk
        exact ⟨g1, vs1, (r2 k q1).trans e1, e2, e3, e4, e5, fun i hi => (e6 i hi).ren (all_getD hno rfl i) okm h2⟩
       | row e1 s1 n1 x1 =>
        rw [hkb] at hk
        refine ⟨hk.1, ?_⟩
        rw [r2 k q1]
        exact hk.2.keep (fun _ _ => rfl) okm
       | rowh e1 s1 n1 x1 i1 j1 d1 =>
        rw [hkb] at hk hno
        obtain ⟨c1, c2, c2', c3, c4, u, c5, c6, c7⟩ := hk
        refine ⟨c1, c2, c2', c3, c4, u, c5, c6.ren hno okm h2, ?_⟩
        rw [r2 k q1]
        exact c7.keep (fun _ _ => rfl) okm
       | fz n1 x1 =>
        rw [hkb] at hk
        refine ⟨hk.1, ?_, ?_⟩
        ·rw [r2 k q1]; exact hk.2.1.mono okm
        ·rw [r2 k q1]; exact hk.2.2
       | sv ds1 vs1 =>
        rw [hkb] at hk hno
        exact ⟨(r2 k q1).trans hk.1, hk.2.1, fun t1 => (hk.2.2 t1).ren (all_getD hno rfl t1) okm h2⟩
     ·have q1 := hnew k hl
      have q2 := hnew k' hl'
      rw [u2 k q1] at hl
      rw [u2 k' q2] at hl'
      rw [r2 k q1] at hg'
      rw [r2 k' q2]
      exact h.inj k k' hl hl' hne g' hg'
     ·have hk' : ¬ k < σ.clk := hk
      by_cases q1 : k = b
      ·subst q1; exact u1
      ·rw [u2 k q1]
       exact h.frs k hk
    ·exact ⟨ρ, h⟩
   ·exact ⟨ρ, h⟩
  ·exact ⟨ρ, h⟩
 ·exact ⟨ρ, h⟩
theorem boxes_ok {a : Act} {w : World} : ∀ (l : List Nat) {σ : DS} {ρ : Nat → Value}, HS base w0 ok0 σ ρ a w → ∃ ρ', HS base w0 ok0 (l.foldl frzBox σ) ρ' a w
 | [], σ, ρ, h => ⟨ρ, h⟩
 | t :: l, σ, ρ, h => by
  obtain ⟨ρ1, h1⟩ := frzBox_ok t h
  exact boxes_ok l h1
theorem RRow.fill {w : World} {B e s j : Nat} {okc okc' : Nat → Prop} {x i y : AV} {u v : Value} (hx : x.isSl s) (hl : ∀ y ∈ x.els, y.length = s) (hi : i.num.toNat < x.els.length) (hj : j < s) (h : RRow w B e s okc (x.setEl i j [.lit u]) v) (hy : RV w okc' y u) (hk : ∀ g, okc g → okc' g) : RRow w B e s okc' (x.setEl i j [y]) v := by
 obtain ⟨L, xs, e1, hs, hL, ho, hone, hv⟩ := h
 have eL : L = (x.setEl i j [.lit u]).els := by rw [e1]; rfl
 have hll : L.length = x.els.length := by rw [eL, setEl_len hx]
 refine ⟨(x.setEl i j [y]).els, xs, setEl_isSl hx i j [y], hs, fun z hz => ?_, by rw [setEl_len hx, ← hll]; exact ho, hone, fun k l hk' hl' => ?_⟩
 ·rw [setEl_els hx] at hz
  rcases List.mem_or_eq_of_mem_set hz with q | q
  ·exact hl _ q
  ·have hlI : (x.els.getD i.num.toNat []).length = s := by
    rw [List.getD_eq_getElem?_getD, List.getElem?_eq_getElem hi]; exact hl _ (List.getElem_mem hi)
   rw [q]
   simp only [List.length_append, List.length_take, List.length_drop, List.length_cons, List.length_nil, hlI]
   omega
 ·rw [setEl_len hx] at hk'
  have := hv k l (by rw [hll]; exact hk') hl'
  rw [eL, setEl_gt2 hx hl hi hj] at this
  rw [setEl_gt2 hx hl hi hj]
  by_cases q : k = i.num.toNat ∧ l = j
  ·rw [if_pos q] at this ⊢
   rw [RV.lit_iff.1 this]; exact hy
  ·rw [if_neg q] at this ⊢
   exact this.mono fun g hg _ => ⟨hk g hg, rfl⟩
theorem closeH_ok {ρ : Nat → Value} {a : Act} {w : World} {σ : DS} (b : Nat) (h : HS base w0 ok0 σ ρ a w) : HS base w0 ok0 (closeH σ b) ρ a w := by
 unfold closeH
 split
 ·rename_i e s n X i j b' n' hb
  split
  ·rename_i e' s' m Y hb'
   split
   ·rename_i hc
    obtain ⟨rfl, hne⟩ := hc
    obtain ⟨c1, c2, c2', ⟨_, c3, c3'⟩, c4, u, c5, c6, c7⟩ := HR.rowh h hb
    have hrow := HR.row h hb'
    have hm : m < σ.clk := by have := h.blks b'; rw [hb'] at this; exact this.1
    have hu : u = ρ b' := by cases c6 with | row _ _ _ _ _ hh => exact hh (by rw [hb']; rfl)
    have hlb : isLive (σ.blk b) = true := by rw [hb]; rfl
    have hlb' : isLive (σ.blk b') = true := by rw [hb']; rfl
    have hisd : ∀ c, isLive (σ.blk c) = true → c < σ.clk := fun c hc => Classical.byContradiction fun hn => by
     have := h.frs c hn
     rw [this] at hc; cases hc
    show HR base w0 ok0 (fun n => n < σ.clk) σ.tm (DS.mk σ.tm ((b, .row e s n (X.setEl i j [Y])) :: (b', .fz m Y) :: σ.bl) σ.clk σ.orc).blk ρ a w
    rw [show (DS.mk σ.tm ((b, .row e s n (X.setEl i j [Y])) :: (b', .fz m Y) :: σ.bl) σ.clk σ.orc).blk = updB σ.blk [(b, .row e s n (X.setEl i j [Y])), (b', .fz m Y)] from blk_app σ [(b, .row e s n (X.setEl i j [Y])), (b', .fz m Y)] _ _ _]
    have hbb : ∀ c, updB σ.blk [(b, .row e s n (X.setEl i j [Y])), (b', .fz m Y)] c = if c = b then .row e s n (X.setEl i j [Y]) else if c = b' then .fz m Y else σ.blk c := fun c => by
     rw [updB_cons, updB_cons]; rfl
    have hokb' : ∀ g, (ρ b').ownBlock = some g → okF base ok0 (updB σ.blk [(b, .row e s n (X.setEl i j [Y])), (b', .fz m Y)]) ρ g := fun g hg => by
     have hge := (hrow.lt hg).1
     refine ⟨fun hlt => by omega, fun c hl => ?_⟩
     rw [hbb] at hl
     by_cases q1 : c = b
     ·subst q1; exact h.inj b' c hlb' hlb hne g (hrow.blkNo_eq ▸ hg)
     ·rw [if_neg q1] at hl
      by_cases q2 : c = b'
      ·rw [if_pos q2] at hl; cases hl
      ·rw [if_neg q2] at hl
       exact h.inj b' c hlb' hl (fun q => q2 q.symm) g (hrow.blkNo_eq ▸ hg)
    refine HR.step h (fun c => c = b ∨ c = b') (fun c hc => ?_) (fun c hc => rfl) (fun c t cs hc hk => rfl) (fun c n y hc hk => ?_) (fun n hn => hn) (fun c hc => ?_) (fun c n2 hc hn hs => ⟨?_, rfl⟩) (Nat.le_refl _) (fun g _ _ => rfl) (fun c hc hl g hg => ?_) (fun c c' hc hc' hl hl' hne' => ?_) rfl rfl rfl (fun H1 H5 c hc => ?_) (fun H1 t => .inl ⟨rfl, rfl⟩) h.size rfl
    ·rw [hbb, if_neg (fun q => hc (.inl q)), if_neg (fun q => hc (.inr q))]
    ·rcases hc with rfl | rfl
     ·rw [hb] at hk; cases hk
     ·rw [hb'] at hk; cases hk
    ·rcases hc with rfl | rfl
     ·exact hisd _ hlb
     ·exact hisd _ hlb'
    ·rw [hbb] at hs
     rcases hc with rfl | rfl
     ·rw [if_pos rfl] at hs; rw [hb]; exact hs
     ·rw [if_neg hne, if_pos rfl] at hs; rw [hb']; exact hs
    ·rcases hc with rfl | rfl
     ·exact .inl ⟨hlb, hg⟩
     ·rw [hbb, if_neg hne, if_pos rfl] at hl; cases hl
    ·have hnl : ¬ isLive (updB σ.blk [(b, .row e s n (X.setEl i j [Y])), (b', .fz m Y)] b') = true := by
      rw [hbb, if_neg hne, if_pos rfl]; exact fun q => by cases q
     rcases hc with rfl | rfl
     ·rcases hc' with rfl | rfl
      ·exact absurd rfl hne'
      ·exact absurd hl' hnl
     ·exact absurd hl hnl
    ·have hY : RV w (okF base ok0 (updB σ.blk [(b, .row e s n (X.setEl i j [Y])), (b', .fz m Y)]) ρ) Y (ρ b') := hrow.rv (fun g hg hlt => (H1 g hg hlt).1) hokb'
     rw [hbb]
     by_cases q1 : c = b
     ·subst q1
      rw [if_pos rfl]
      refine ⟨c1, ?_⟩
      have c7' : RRow w base e s (fun g => okF base ok0 σ.blk ρ g ∧ g < w.heap.size) (X.setEl i j [.lit u]) (ρ c) := c7.keep (fun _ _ => rfl) fun g hg hlt => ⟨⟨hg, hlt⟩, rfl⟩
      exact c7'.fill c2 c2' (by omega) c4 (hu ▸ hY) fun g hg => (H1 g hg.1 hg.2).1
     ·have q2 : c = b' := hc.resolve_left q1
      subst q2
      rw [if_neg q1, if_pos rfl]
      exact ⟨hm, hY, fun g => hrow.notPtr _⟩
   ·exact h
  ·exact h
 ·rename_i e s n X i j y hb
  obtain ⟨c1, c2, c2', ⟨_, c3, c3'⟩, c4, u, c5, c6, c7⟩ := HR.rowh h hb
  have hlb : isLive (σ.blk b) = true := by rw [hb]; rfl
  have hisd : b < σ.clk := Classical.byContradiction fun hn => by
   have := h.frs b hn
   rw [this] at hlb; cases hlb
  have hy : RV w (okF base ok0 σ.blk ρ) y u := by cases c6 with | v _ _ hh => exact hh
  show HR base w0 ok0 (fun n => n < σ.clk) σ.tm (DS.mk σ.tm ((b, .row e s n (X.setEl i j [y])) :: σ.bl) σ.clk σ.orc).blk ρ a w
  rw [show (DS.mk σ.tm ((b, .row e s n (X.setEl i j [y])) :: σ.bl) σ.clk σ.orc).blk = updB σ.blk [(b, .row e s n (X.setEl i j [y]))] from blk_app σ [(b, .row e s n (X.setEl i j [y]))] _ _ _]
  have hbb : ∀ c, updB σ.blk [(b, .row e s n (X.setEl i j [y]))] c = if c = b then .row e s n (X.setEl i j [y]) else σ.blk c := fun c => by rw [updB_cons]; rfl
  refine HR.step h (fun c => c = b) (fun c hc => ?_) (fun c hc => rfl) (fun c t cs hc hk => rfl) (fun c n y hc hk => ?_) (fun n hn => hn) (fun c hc => ?_) (fun c n2 hc hn hs => ⟨?_, rfl⟩) (Nat.le_refl _) (fun g _ _ => rfl) (fun c hc hl g hg => ?_) (fun c c' hc hc' _ _ hne' => absurd (hc.trans hc'.symm) hne') rfl rfl rfl (fun H1 H5 c hc => ?_) (fun H1 t => .inl ⟨rfl, rfl⟩) h.size rfl
  ·rw [hbb, if_neg hc]
  ·subst hc; rw [hb] at hk; cases hk
  ·subst hc; exact hisd
  ·subst hc; rw [hbb, if_pos rfl] at hs; rw [hb]; exact hs
  ·subst hc; exact .inl ⟨hlb, hg⟩
  ·subst hc
   rw [hbb, if_pos rfl]
   refine ⟨c1, ?_⟩
   have c7' : RRow w base e s (fun g => okF base ok0 σ.blk ρ g ∧ g < w.heap.size) (X.setEl i j [.lit u]) (ρ c) := c7.keep (fun _ _ => rfl) fun g hg hlt => ⟨⟨hg, hlt⟩, rfl⟩
   exact c7'.fill c2 c2' (by omega) c4 (hy.mono H1) fun g hg => (H1 g hg.1 hg.2).1
 ·exact h
theorem closes_ok {ρ : Nat → Value} {a : Act} {w : World} : ∀ (l : List Nat) {σ : DS}, HS base w0 ok0 σ ρ a w → HS base w0 ok0 (l.foldl closeH σ) ρ a w
 | [], σ, h => h
 | b :: l, σ, h => closes_ok l (closeH_ok b h)
theorem frzQ_ok {ρ : Nat → Value} {a : Act} {w : World} {σ : DS} (W : List Nat) (q : Nat × Nat × TypeId × Nat) (h : HS base w0 ok0 σ ρ a w) : ∃ ρ', HS base w0 ok0 (frzQ W σ q) ρ' a w := by
 unfold frzQ
 split
 ·split
  ·exact ⟨ρ, frzBlk_ok _ h⟩
  ·split
   ·split
    ·exact rebind_ok _ _ h
    ·split
     ·exact rebindP_ok _ _ h
     ·exact ⟨ρ, frzSlot_ok _ h⟩
   ·exact ⟨ρ, h⟩
 ·exact ⟨ρ, h⟩
theorem frzSlots_ok {a : Act} {w : World} (W : List Nat) : ∀ (l : List (Nat × Nat × TypeId × Nat)) {σ : DS} {ρ : Nat → Value}, HS base w0 ok0 σ ρ a w → ∃ ρ', HS base w0 ok0 (frzSlots W l σ) ρ' a w
 | [], σ, ρ, h => ⟨ρ, h⟩
 | q :: l, σ, ρ, h => by
  obtain ⟨ρ1, h1⟩ := frzQ_ok W q h
  exact frzSlots_ok W l h1
/-! ### in a round -/
theorem upon_round {l n : Nat} {o : Oper} {a : Act} {w : World} {K K' : Act → World → Prop} {Q : Exit → Act → World → Prop} (ho : ∀ c, o.op ≠ .defer c) (hK : ∀ a w, K a w → K' a w) (h : o.wp P a w K Q) (hQ : ¬ LetsOut Q) : o.wpIn (Fence.wide.inRound l) n P a w K' Q := by
 refine ⟨fun _ _ => trivial, ?_⟩
 rw [Oper.semAt_eq _ _ _ ho]
 unfold Oper.wp at h
 generalize (execOp a.eval o).run P w = r at h
 cases r with
 | ok x w' =>
  cases x with
  | value v => exact hK _ _ h
  | skip => exact hK _ _ h
  | defer d => exact hK _ _ h
  | enter f args =>
   refine ⟨fun q => (by cases q), CallsIn.inRound l (callsIn_wide.2 (Calls.mono h fun e w'' hr => ?_))⟩
   cases e with
   | returned v => exact hK _ _ hr
   | panicked chain => exact hr
   | outgrown => exact hr
  | row row args => exact ⟨fun q => (by cases q), fun c cs _ => by obtain ⟨v, w'', r, s⟩ := h c cs; exact ⟨v, w'', hK _ _ r, stepsIn_wide.2 s⟩⟩
  | _ => exact h.elim
 | halt q w' =>
  cases q with
  | panic v => exact h
  | _ => exact h.elim
theorem ops_round {l n : Nat} {ops : Array Oper} {Q : Exit → Act → World → Prop} (hQ : ¬ LetsOut Q) (ho : ∀ o ∈ ops.toList, ∀ c, o.op ≠ .defer c) : ∀ (ks : List Nat) (a : Act) (w : World), wpOps P ops Q ks a w → wpOpsIn (Fence.wide.inRound l) n P ops Q ks a w
 | [], a, w, h => h
 | k :: ks, a, w, h => by
  simp only [wpOps, wpOpsIn] at h ⊢
  split at h
  ·rename_i hk
   simp only [hk]
   exact ops_round hQ ho ks a w h
  ·rename_i o hk
   simp only [hk]
   split at h
   ·rename_i hw
    rw [if_pos hw]
    rcases h with h | h
    ·exact upon_round (ho o (Array.mem_toList_iff.2 (Array.mem_of_getElem? hk))) (fun a w q => ops_round hQ ho ks a w q) h hQ
    ·exact absurd h.2 hQ
   ·rename_i hw
    rw [if_neg hw]
    exact ⟨fun _ _ => trivial, ops_round hQ ho ks _ w h⟩
theorem runC_round (hm : P.follows .mixedOrders = true) (hinl : InlOk P inl) (hfr : InlFr inl) (l n : Nat) : ∀ (c : Code) (σ : DS) (K : Exit → DS → Prop) (ρ : Nat → Value) (a : Act) (w : World) (Q : Exit → Act → World → Prop), Code.flatR c = true → runC P Γ inl ann fid c σ K → HS base w0 ok0 σ ρ a w → (∀ e σ' ρ' a' w', K e σ' → HS base w0 ok0 σ' ρ' a' w' → Q e a' w') → ¬ LetsOut Q → c.wpIn (Fence.wide.inRound l) n P Q a w
 | .skip, σ, K, ρ, a, w, Q, _, hr, h, hQ, _ => wpIn_skip (hQ _ _ _ _ _ hr h)
 | .region id ops dr, σ, K, ρ, a, w, Q, hfl, hr, h, hQ, hL => by
  simp only [Code.flatR, Bool.and_eq_true, Bool.not_eq_true'] at hfl
  obtain ⟨⟨rfl, hfl⟩, hbx⟩ := hfl
  have hbx' : boxSrc ops.toList = [] := by simpa using hbx
  replace h := closes_ok (ann fid (300000 + id)).rows h
  have hr' : regF P Γ inl false ops.toList [] [] ops.toList ((ann fid (300000 + id)).rows.foldl closeH σ) (K .normal) := by
   have hr1 : regF P Γ inl false ops.toList [] [] ops.toList ((boxSrc ops.toList).foldl frzBox ((ann fid (300000 + id)).rows.foldl closeH σ)) (K .normal) := hr
   rw [hbx'] at hr1
   exact hr1
  generalize (ann fid (300000 + id)).rows.foldl closeH σ = σ at hr' h
  refine wpIn_region (ops_round hL (fun o ho c e => ?_) _ _ _ ?_)
  ·have := List.all_eq_true.1 hfl o ho
   rw [e] at this; cases this
  ·have := regF_sound (Q := Q) hinl (fun σ' ρ' a' w' hk h' => hQ .normal σ' ρ' a' w' hk h') ops.toList 0 [] [] σ ρ a w (fun i => by simp) hr' h (fun j b hj => by cases hj)
   simpa using this
 | .seq x y, σ, K, ρ, a, w, Q, hfl, hr, h, hQ, hL => by
  simp only [Code.flatR, Bool.and_eq_true] at hfl
  refine wpIn_seq (runC_round hm hinl hfr l n x σ _ ρ a w _ hfl.1 hr h (fun e σ' ρ' a' w' hk h' => ?_) (fun ⟨a, w, q⟩ => hL ⟨a, w, q⟩))
  cases e with
  | normal => exact runC_round hm hinl hfr l n y σ' K ρ' a' w' Q hfl.2 hk h' hQ hL
  | exit i => exact hQ _ _ _ _ _ hk h'
  | goto i => exact hQ _ _ _ _ _ hk h'
  | ret => exact hQ _ _ _ _ _ hk h'
  | panic i => exact hQ _ _ _ _ _ hk h'
  | outgrown => exact hQ _ _ _ _ _ hk h'
 | .cond c x y, σ, K, ρ, a, w, Q, hfl, hr, h, hQ, hL => by
  simp only [Code.flatR, Bool.and_eq_true] at hfl
  have hc := ev_ok (fview_ok σ) h c
  simp only [runC] at hr
  split at hr
  ·rename_i he
   rw [he] at hc
   refine wpIn_cond_true (by generalize a.eval c = u at hc; cases hc; rfl) (runC_round hm hinl hfr l n x σ K ρ a w Q hfl.1 hr h hQ hL)
  ·rename_i he
   rw [he] at hc
   refine wpIn_cond_false (by generalize a.eval c = u at hc; cases hc; rfl) (runC_round hm hinl hfr l n y σ K ρ a w Q hfl.2 hr h hQ hL)
  ·rename_i z he
   rw [he] at hc
   split at hr
   ·have hcw : Code.wr (.cond c x y) = Code.wr x ++ Code.wr y := rfl
    unfold joinF at hr
    split at hr
    ·exact hr.elim
    ·rename_i xs hx
     obtain ⟨Q1, g1, g2⟩ := hr
     generalize autoAnn (ann fid (400000 + Code.reg1 x)) (Code.wr (.cond c x y)) σ = A at *
     obtain ⟨h1, h2, h3⟩ := decF_both g1
     have hb : a.eval c = .bool z.tru := by
      generalize a.eval c = u at hc
      cases hc with | v _ _ hv => exact rv_bool hv h1
     have fin : ∀ (e : Exit) (σ' : DS) (ρ' : Nat → Value) (a' : Act) (w' : World), (match e with
       | .normal => (match A.vals σ' with
        | some zs => if chk A (Code.wr (.cond c x y)) σ σ' then Q1 zs else fStuckL "a join: its end" σ σ'
        | none => fStuckL "a join: what it carries, behind it" σ σ')
       | e => K e σ') → FrB σ σ' → (e ≠ .ret → FrT (Code.wr (.cond c x y)) σ σ') → HS base w0 ok0 σ' ρ' a' w' → Q e a' w' := fun e σ' ρ' a' w' hk hfb hft h' => by
      cases e with
      | normal =>
       simp only at hk
       split at hk
       ·rename_i zs hz
        split at hk
        ·rename_i hck
         obtain ⟨ρ2, h4⟩ := head_again hck hfb (hft (by simp)) hz h'
         exact hQ _ _ _ _ _ (g2 zs (by rw [vals_len hz, vals_len hx]) hk) h4
        ·exact hk.elim
       ·exact hk.elim
      | exit i => exact hQ _ _ _ _ _ hk h'
      | goto i => exact hQ _ _ _ _ _ hk h'
      | ret => exact hQ _ _ _ _ _ hk h'
      | panic i => exact hQ _ _ _ _ _ hk h'
      | outgrown => exact hQ _ _ _ _ _ hk h'
     refine wpIn_cond_split hb (fun ht => by
      obtain ⟨oc, q⟩ := h2 ht
      have q' := runC_mono hfr x _ _ (fun e σ' => ((fun e σ' => (match e with
       | .normal => (match A.vals σ' with
        | some zs => if chk A (Code.wr (.cond c x y)) σ σ' then Q1 zs else fStuckL "a join: its end" σ σ'
        | none => fStuckL "a join: what it carries, behind it" σ σ')
       | e => K e σ')) e σ') ∧ FrB σ σ' ∧ (e ≠ .ret → FrT (Code.wr x) σ σ')) q (fun e σ' hk q1 q2 _ => ⟨hk, q1, q2⟩)
      exact runC_round hm hinl hfr l n x { σ with orc := oc } _ ρ a w Q hfl.1 q' h (fun e σ' ρ' a' w' hk h' => fin e σ' ρ' a' w' hk.1 hk.2.1 (fun hne => (hk.2.2 hne).mono fun t q => List.mem_append_left _ q) h') hL) (fun ht => by
      obtain ⟨oc, q⟩ := h3 ht
      have q' := runC_mono hfr y _ _ (fun e σ' => ((fun e σ' => (match e with
       | .normal => (match A.vals σ' with
        | some zs => if chk A (Code.wr (.cond c x y)) σ σ' then Q1 zs else fStuckL "a join: its end" σ σ'
        | none => fStuckL "a join: what it carries, behind it" σ σ')
       | e => K e σ')) e σ') ∧ FrB σ σ' ∧ (e ≠ .ret → FrT (Code.wr y) σ σ')) q (fun e σ' hk q1 q2 _ => ⟨hk, q1, q2⟩)
      exact runC_round hm hinl hfr l n y { σ with orc := oc } _ ρ a w Q hfl.2 q' h (fun e σ' ρ' a' w' hk h' => fin e σ' ρ' a' w' hk.1 hk.2.1 (fun hne => (hk.2.2 hne).mono fun t q => List.mem_append_right _ q) h') hL)
   ·obtain ⟨h1, h2, h3⟩ := decF_both hr
    have hb : a.eval c = .bool z.tru := by
     generalize a.eval c = u at hc
     cases hc with | v _ _ hv => exact rv_bool hv h1
    exact wpIn_cond_split hb (fun ht => by obtain ⟨oc, q⟩ := h2 ht; exact runC_round hm hinl hfr l n x { σ with orc := oc } K ρ a w Q hfl.1 q h hQ hL) (fun ht => by obtain ⟨oc, q⟩ := h3 ht; exact runC_round hm hinl hfr l n y { σ with orc := oc } K ρ a w Q hfl.2 q h hQ hL)
  ·exact hr.elim
 | .block id c, σ, K, ρ, a, w, Q, hfl, hr, h, hQ, hL => by
  simp only [Code.flatR] at hfl
  refine wpIn_block (runC_round hm hinl hfr l n c σ _ ρ a w _ hfl hr h (fun e σ' ρ' a' w' hk h' => ?_) (fun ⟨a, w, q⟩ => hL ⟨a, w, q⟩))
  cases e with
  | exit i =>
   simp only at hk
   simp only [Exit.inBlock]
   split at hk
   ·rename_i hi; rw [if_pos hi]; exact hQ _ _ _ _ _ hk h'
   ·rename_i hi; rw [if_neg hi]; exact hQ _ _ _ _ _ hk h'
  | normal => exact hQ _ _ _ _ _ hk h'
  | goto i => exact hQ _ _ _ _ _ hk h'
  | ret => exact hQ _ _ _ _ _ hk h'
  | panic i => exact hQ _ _ _ _ _ hk h'
  | outgrown => exact hQ _ _ _ _ _ hk h'
 | .exit id, σ, K, ρ, a, w, Q, _, hr, h, hQ, _ => wpIn_exit (hQ _ _ _ _ _ hr h)
 | .ret, σ, K, ρ, a, w, Q, _, hr, h, hQ, _ => wpIn_ret (hQ _ _ _ _ _ hr h)
 | .loop c, σ, K, ρ, a, w, Q, hfl, _, _, _, _ => by cases hfl
 | .rangeFunc f ps x y, σ, K, ρ, a, w, Q, hfl, _, _, _, _ => by cases hfl
 | .scope x, σ, K, ρ, a, w, Q, hfl, _, _, _, _ => by cases hfl
 | .label i, σ, K, ρ, a, w, Q, hfl, _, _, _, _ => by cases hfl
 | .goto i, σ, K, ρ, a, w, Q, hfl, _, _, _, _ => by cases hfl
 | .refuse s, σ, K, ρ, a, w, Q, hfl, _, _, _, _ => by cases hfl
theorem updB_at (blk : Nat → DB) (b : Nat) (d : DB) : updB blk [(b, d)] b = d := by simp [updB]
theorem updB_off (blk : Nat → DB) (b : Nat) (d : DB) {c : Nat} (h : c ≠ b) : updB blk [(b, d)] c = blk c := updB_of_not (by simp [h])
theorem round_start {σ : DS} {ρ : Nat → Value} {a : Act} {w : World} (hs : HS base w0 ok0 σ ρ a w) {x : AV} {v : Value} (hv : RV w noBlock x v) (p : Nat) :
  HS base w0 ok0 ⟨σ.tm.set p (.v x), (σ.clk, .sv σ.tm a.tmps) :: σ.bl, σ.clk + 64, σ.lft.orc⟩ ρ { tmps := a.tmps.setIfInBounds p v, defers := a.defers } w := by
 have hdead : σ.blk σ.clk = .dead := hs.frs σ.clk (fun q => Nat.lt_irrefl _ q)
 have hund : ρ σ.clk = undef := by have := hs.blks σ.clk; rw [hdead] at this; exact this
 have hb1 : (DS.mk (σ.tm.set p (.v x)) ((σ.clk, .sv σ.tm a.tmps) :: σ.bl) (σ.clk + 64) σ.lft.orc).blk = updB σ.blk [(σ.clk, .sv σ.tm a.tmps)] := blk_app σ [(σ.clk, .sv σ.tm a.tmps)] _ _ _
 show HR base w0 ok0 (fun n => n < σ.clk + 64) (σ.tm.set p (.v x)) (DS.mk (σ.tm.set p (.v x)) ((σ.clk, .sv σ.tm a.tmps) :: σ.bl) (σ.clk + 64) σ.lft.orc).blk ρ _ w
 rw [hb1]
 refine HR.step hs (fun b => b = σ.clk) (fun b hc => updB_off _ _ _ hc) (fun b _ => rfl) (fun b t cs _ _ => rfl) (fun b n x hc e => by rw [hc, hdead] at e; cases e)
  (fun n hn => by have : n < σ.clk := hn; show n < σ.clk + 64; omega) (fun b hc => by show b < σ.clk + 64; rw [hc]; omega) (fun b n hc _ hst => by rw [hc, updB_at] at hst; cases hst) (Nat.le_refl _) (fun _ _ _ => rfl)
  (fun b hc hl => by rw [hc, updB_at] at hl; cases hl) (fun b b' hc _ hl => by rw [hc, updB_at] at hl; cases hl) rfl rfl rfl (fun H1 H5 b hc => ?_) (fun H1 t => ?_) (by simp [hs.size]) rfl
 ·rw [hc, updB_at]
  exact ⟨hund, hs.size, fun t => H5 _ _ (hs.tms t)⟩
 ·by_cases ht : t = p
  ·subst ht
   by_cases hlt : t < σ.tm.length
   ·right
    have e1 : (σ.tm.set t (.v x)).getD t .any = .v x := by simp [List.getD_eq_getElem?_getD, hlt]
    have e2 : (a.tmps.setIfInBounds t v).getD t undef = v := by simp [hs.size, hlt]
    rw [e1, e2]
    exact .v _ _ (hv.mono fun g hg _ => hg.elim)
   ·left
    refine ⟨by rw [List.set_eq_of_length_le (by omega)], ?_⟩
    rw [Array.setIfInBounds_eq_of_size_le (by rw [hs.size]; omega)]
  ·left
   refine ⟨?_, ?_⟩
   ·simp only [List.getD_eq_getElem?_getD]
    rw [List.getElem?_set_ne (fun q => ht q.symm)]
   ·simp only [Array.getD_eq_getD_getElem?]
    rw [Array.getElem?_setIfInBounds_ne (fun q => ht q.symm)]
theorem round_end {σh σ' : DS} {ρ' : Nat → Value} {a a' : Act} {w w' : World} (p : Nat) (x : AV) {oc : Orc} (hsz : a.tmps.size = σh.tm.length) (h' : HS base w ok0 σ' ρ' a' w') (hfb : FrB ⟨σh.tm.set p (.v x), (σh.clk, .sv σh.tm a.tmps) :: σh.bl, σh.clk + 64, oc⟩ σ')
  (hdead : σh.blk σh.clk = .dead) (hpre : ¬ (preOf ⟨σh.tm.set p (.v x), (σh.clk, .sv σh.tm a.tmps) :: σh.bl, σh.clk + 64, oc⟩ σ').contains σh.clk = true) (ds : List Deferred) (hds : a'.defers = ds) :
  HS base w ok0 ⟨σh.tm, (σh.clk, .dead) :: σ'.bl, σ'.clk, σ'.orc⟩ ρ' { tmps := a.tmps, defers := ds } w' ∧ FrB σh ⟨σh.tm, (σh.clk, .dead) :: σ'.bl, σ'.clk, σ'.orc⟩ := by
 obtain ⟨⟨q, hq⟩, _, h3⟩ := hfb
 have h3' : σh.clk + 64 ≤ σ'.clk := h3
 have hsv : σ'.blk σh.clk = .sv σh.tm a.tmps := by
  have hpo : preOf ⟨σh.tm.set p (.v x), (σh.clk, .sv σh.tm a.tmps) :: σh.bl, σh.clk + 64, oc⟩ σ' = q.map (·.1) := by
   unfold preOf
   rw [hq, List.length_append, Nat.add_sub_cancel, List.take_left]
  have : σ'.blk = updB (DS.mk (σh.tm.set p (.v x)) ((σh.clk, .sv σh.tm a.tmps) :: σh.bl) (σh.clk + 64) oc).blk q := by
   obtain ⟨tm, bl, c, oc'⟩ := σ'
   simp only at hq
   subst hq
   exact blk_app (DS.mk (σh.tm.set p (.v x)) ((σh.clk, .sv σh.tm a.tmps) :: σh.bl) (σh.clk + 64) oc) q tm c _
  rw [this, updB_of_not (by rw [← hpo]; simpa using hpre)]
  show (DS.mk (σh.tm.set p (.v x)) ((σh.clk, .sv σh.tm a.tmps) :: σh.bl) (σh.clk + 64) oc).blk σh.clk = _
  rw [show (DS.mk (σh.tm.set p (.v x)) ((σh.clk, .sv σh.tm a.tmps) :: σh.bl) (σh.clk + 64) oc).blk = updB σh.blk [(σh.clk, .sv σh.tm a.tmps)] from blk_app σh [(σh.clk, .sv σh.tm a.tmps)] _ _ _, updB_at]
 have hB := h'.blks σh.clk
 rw [hsv] at hB
 have hfin : (DS.mk σh.tm ((σh.clk, .dead) :: σ'.bl) σ'.clk σ'.orc).blk = updB σ'.blk [(σh.clk, .dead)] := blk_app σ' [(σh.clk, .dead)] _ _ _
 have H4 : ∀ b n, n < σ'.clk → stampOf (updB σ'.blk [(σh.clk, .dead)] b) = some n → stampOf (σ'.blk b) = some n ∧ ρ' b = ρ' b := fun b n _ hst => by
  by_cases hc : b = σh.clk
  ·rw [hc, updB_at] at hst; cases hst
  ·rw [updB_off _ _ _ hc] at hst; exact ⟨hst, rfl⟩
 have H1 : ∀ g, okF base ok0 σ'.blk ρ' g → g < w'.heap.size → okF base ok0 (updB σ'.blk [(σh.clk, .dead)]) ρ' g ∧ w'.heap[g]? = w'.heap[g]? := fun g hg _ => ⟨⟨hg.1, fun b hl => by
  by_cases hc : b = σh.clk
  ·rw [hc, updB_at] at hl; cases hl
  ·rw [updB_off _ _ _ hc] at hl; exact hg.2 b hl⟩, rfl⟩
 refine ⟨?_, ⟨(σh.clk, .dead) :: q ++ [(σh.clk, .sv σh.tm a.tmps)], by simp [hq]⟩, rfl, by show σh.clk ≤ σ'.clk; omega⟩
 show HR base w ok0 (fun n => n < σ'.clk) σh.tm (DS.mk σh.tm ((σh.clk, .dead) :: σ'.bl) σ'.clk σ'.orc).blk ρ' _ w'
 rw [hfin]
 refine HR.step h' (fun b => b = σh.clk) (fun b hc => updB_off _ _ _ hc) (fun b _ => rfl) (fun b t cs _ _ => rfl) (fun b n x hc e => by rw [hc, hsv] at e; cases e)
  (fun n hn => hn) (fun b hc => by show b < σ'.clk; rw [hc]; omega) (fun b n hc hn hst => H4 b n hn hst) (Nat.le_refl _) (fun _ _ _ => rfl)
  (fun b hc hl => by rw [hc, updB_at] at hl; cases hl) (fun b b' hc _ hl => by rw [hc, updB_at] at hl; cases hl) rfl rfl rfl (fun _ _ b hc => ?_) (fun _ t => .inr ?_) hsz hds.symm
 ·rw [hc, updB_at]; exact hB.1
 ·exact (hB.2.2 t).mono H1 (fun _ _ _ => rfl) (fun n hn => hn) H4
theorem loopN_sound {c : Code} {run : DS → (Exit → DS → Prop) → Prop} (hrun : ∀ (σ : DS) (K : Exit → DS → Prop) (ρ : Nat → Value) (a : Act) (w : World) (Q : Exit → Act → World → Prop), run σ K → HS base w0 ok0 σ ρ a w → (∀ e σ' ρ' a' w', K e σ' → HS base w0 ok0 σ' ρ' a' w' → Q e a' w') → c.wp P Q a w) :
  ∀ (n : Nat) (σ : DS) (K : Exit → DS → Prop) (ρ : Nat → Value) (a : Act) (w : World) (Q : Exit → Act → World → Prop), loopN run n σ K → HS base w0 ok0 σ ρ a w → (∀ e σ' ρ' a' w', K e σ' → HS base w0 ok0 σ' ρ' a' w' → Q e a' w') → Code.rounds P c Q n a w
 | 0, _, _, _, _, _, _, h, _, _ => h.elim
 | n + 1, σ, K, ρ, a, w, Q, h, hs, hQ => by
  rw [rounds_succ]
  refine hrun σ _ ρ a w _ h hs fun e σ1 ρ1 a1 w1 hk h1 => ?_
  cases e with
  | normal => exact loopN_sound hrun n σ1 K ρ1 a1 w1 Q hk h1 hQ
  | exit i => exact hQ _ _ _ _ _ hk h1
  | ret => exact hQ _ _ _ _ _ hk h1
  | goto i => exact hQ _ _ _ _ _ hk h1
  | panic i => exact hQ _ _ _ _ _ hk h1
  | outgrown => exact hQ _ _ _ _ _ hk h1
theorem runC_sound (hm : P.follows .mixedOrders = true) (hinl : InlOk P inl) (hfr : InlFr inl) : ∀ (c : Code) (σ : DS) (K : Exit → DS → Prop) (ρ : Nat → Value) (a : Act) (w : World) (Q : Exit → Act → World → Prop), runC P Γ inl ann fid c σ K → HS base w0 ok0 σ ρ a w → (∀ e σ' ρ' a' w', K e σ' → HS base w0 ok0 σ' ρ' a' w' → Q e a' w') → c.wp P Q a w
  | .skip, σ, K, ρ, a, w, Q, hr, h, hQ => wp_skip (hQ _ _ _ _ _ hr h)
  | .region id ops dr, σ, K, ρ, a, w, Q, hr, h, hQ => by
    have hr' : regF P Γ inl dr ops.toList [] [] ops.toList (preFz dr ops.toList ((ann fid (300000 + id)).rows.foldl closeH σ)) (K .normal) := hr
    replace h := closes_ok (ann fid (300000 + id)).rows h
    clear hr
    generalize (ann fid (300000 + id)).rows.foldl closeH σ = σ at hr' h
    replace h : ∃ ρ, HS base w0 ok0 (preFz dr ops.toList σ) ρ a w := by
      unfold preFz
      split
      · refine ⟨ρ, ?_⟩
        have hf := HR.freeze (fview_ok σ) h (preRows ops.toList σ)
        unfold HS
        rw [show (DS.mk σ.tm (σ.fview.frz (preRows ops.toList σ) ++ σ.bl) σ.clk σ.orc).blk = updB σ.blk (σ.fview.frz (preRows ops.toList σ)) from blk_app σ _ _ _ _]
        exact hf
      · exact boxes_ok _ h
    obtain ⟨ρ, h⟩ := h
    generalize preFz dr ops.toList σ = σ at hr' h
    cases dr with
    | false =>
      refine wp_region ?_
      have := regF_sound (Q := Q) hinl (fun σ' ρ' a' w' hk h' => hQ .normal σ' ρ' a' w' hk h') ops.toList 0 [] [] σ ρ a w (fun i => by simp) hr' h (fun j b hj => by cases hj)
      simpa using this
    | true =>
      obtain ⟨l, oc, e1, e2, e3, e4⟩ := regF_trace ops.toList [] [] σ hr' (fun j b hj => by cases hj)
      have := draw_sound (Q := Q) hm e2 e1 (by simpa using e3) h (fun ρ' a' w' h' => hQ .normal _ ρ' a' w' e4 h') id
      simpa using this
  | .seq x y, σ, K, ρ, a, w, Q, hr, h, hQ => by
    refine wp_seq (runC_sound hm hinl hfr x σ _ ρ a w _ hr h fun e σ' ρ' a' w' hk h' => ?_)
    cases e with
    | normal => exact runC_sound hm hinl hfr y σ' K ρ' a' w' Q hk h' hQ
    | exit i => exact hQ _ _ _ _ _ hk h'
    | goto i => exact hQ _ _ _ _ _ hk h'
    | ret => exact hQ _ _ _ _ _ hk h'
    | panic i => exact hQ _ _ _ _ _ hk h'
    | outgrown => exact hQ _ _ _ _ _ hk h'
  | .cond c x y, σ, K, ρ, a, w, Q, hr, h, hQ => by
    have hc := ev_ok (fview_ok σ) h c
    simp only [runC] at hr
    split at hr
    · rename_i he
      rw [he] at hc
      refine wp_cond_true (by generalize a.eval c = u at hc; cases hc; rfl) (runC_sound hm hinl hfr x σ K ρ a w Q hr h hQ)
    · rename_i he
      rw [he] at hc
      refine wp_cond_false (by generalize a.eval c = u at hc; cases hc; rfl) (runC_sound hm hinl hfr y σ K ρ a w Q hr h hQ)
    · rename_i z he
      rw [he] at hc
      split at hr
      · have hcw : Code.wr (.cond c x y) = Code.wr x ++ Code.wr y := rfl
        unfold joinF at hr
        split at hr
        · exact hr.elim
        · rename_i xs hx
          obtain ⟨Q1, g1, g2⟩ := hr
          generalize autoAnn (ann fid (400000 + Code.reg1 x)) (Code.wr (.cond c x y)) σ = A at *
          obtain ⟨h1, h2, h3⟩ := decF_both g1
          have hb : a.eval c = .bool z.tru := by
            generalize a.eval c = u at hc
            cases hc with | v _ _ hv => exact rv_bool hv h1
          have fin : ∀ (e : Exit) (σ' : DS) (ρ' : Nat → Value) (a' : Act) (w' : World), (match e with
              | .normal => (match A.vals σ' with
                | some zs => if chk A (Code.wr (.cond c x y)) σ σ' then Q1 zs else fStuckL "a join: its end" σ σ'
                | none => fStuckL "a join: what it carries, behind it" σ σ')
              | e => K e σ') → FrB σ σ' → (e ≠ .ret → FrT (Code.wr (.cond c x y)) σ σ') → HS base w0 ok0 σ' ρ' a' w' → Q e a' w' := fun e σ' ρ' a' w' hk hfb hft h' => by
            cases e with
            | normal =>
              simp only at hk
              split at hk
              · rename_i zs hz
                split at hk
                · rename_i hck
                  obtain ⟨ρ2, h4⟩ := head_again hck hfb (hft (by simp)) hz h'
                  exact hQ _ _ _ _ _ (g2 zs (by rw [vals_len hz, vals_len hx]) hk) h4
                · exact hk.elim
              · exact hk.elim
            | exit i => exact hQ _ _ _ _ _ hk h'
            | goto i => exact hQ _ _ _ _ _ hk h'
            | ret => exact hQ _ _ _ _ _ hk h'
            | panic i => exact hQ _ _ _ _ _ hk h'
            | outgrown => exact hQ _ _ _ _ _ hk h'
          refine wp_cond_split hb (fun ht => by
            obtain ⟨oc, q⟩ := h2 ht
            have q' := runC_mono hfr x _ _ (fun e σ' => ((fun e σ' => (match e with
              | .normal => (match A.vals σ' with
                | some zs => if chk A (Code.wr (.cond c x y)) σ σ' then Q1 zs else fStuckL "a join: its end" σ σ'
                | none => fStuckL "a join: what it carries, behind it" σ σ')
              | e => K e σ')) e σ') ∧ FrB σ σ' ∧ (e ≠ .ret → FrT (Code.wr x) σ σ')) q (fun e σ' hk q1 q2 _ => ⟨hk, q1, q2⟩)
            exact runC_sound hm hinl hfr x { σ with orc := oc } _ ρ a w Q q' h (fun e σ' ρ' a' w' hk h' => fin e σ' ρ' a' w' hk.1 hk.2.1 (fun hne => (hk.2.2 hne).mono fun t q => List.mem_append_left _ q) h')) (fun ht => by
            obtain ⟨oc, q⟩ := h3 ht
            have q' := runC_mono hfr y _ _ (fun e σ' => ((fun e σ' => (match e with
              | .normal => (match A.vals σ' with
                | some zs => if chk A (Code.wr (.cond c x y)) σ σ' then Q1 zs else fStuckL "a join: its end" σ σ'
                | none => fStuckL "a join: what it carries, behind it" σ σ')
              | e => K e σ')) e σ') ∧ FrB σ σ' ∧ (e ≠ .ret → FrT (Code.wr y) σ σ')) q (fun e σ' hk q1 q2 _ => ⟨hk, q1, q2⟩)
            exact runC_sound hm hinl hfr y { σ with orc := oc } _ ρ a w Q q' h (fun e σ' ρ' a' w' hk h' => fin e σ' ρ' a' w' hk.1 hk.2.1 (fun hne => (hk.2.2 hne).mono fun t q => List.mem_append_right _ q) h'))
      · obtain ⟨h1, h2, h3⟩ := decF_both hr
        have hb : a.eval c = .bool z.tru := by
          generalize a.eval c = u at hc
          cases hc with | v _ _ hv => exact rv_bool hv h1
        exact wp_cond_split hb (fun ht => by obtain ⟨oc, q⟩ := h2 ht; exact runC_sound hm hinl hfr x { σ with orc := oc } K ρ a w Q q h hQ) (fun ht => by obtain ⟨oc, q⟩ := h3 ht; exact runC_sound hm hinl hfr y { σ with orc := oc } K ρ a w Q q h hQ)
    · exact hr.elim
  | .block id c, σ, K, ρ, a, w, Q, hr, h, hQ => by
    refine wp_block (runC_sound hm hinl hfr c σ _ ρ a w _ hr h fun e σ' ρ' a' w' hk h' => ?_)
    cases e with
    | exit i =>
      simp only at hk
      simp only [Exit.inBlock]
      split at hk
      · rename_i hi; rw [if_pos hi]; exact hQ _ _ _ _ _ hk h'
      · rename_i hi; rw [if_neg hi]; exact hQ _ _ _ _ _ hk h'
    | normal => exact hQ _ _ _ _ _ hk h'
    | goto i => exact hQ _ _ _ _ _ hk h'
    | ret => exact hQ _ _ _ _ _ hk h'
    | panic i => exact hQ _ _ _ _ _ hk h'
    | outgrown => exact hQ _ _ _ _ _ hk h'
  | .exit id, σ, K, ρ, a, w, Q, hr, h, hQ => wp_exit (hQ _ _ _ _ _ hr h)
  | .ret, σ, K, ρ, a, w, Q, hr, h, hQ => wp_ret (hQ _ _ _ _ _ hr h)
  | .loop c, σ0, K, ρ0', a, w, Q, hr, h0', hQ => by
    simp only [runC] at hr
    cases hev : σ0.evOn with
    | true =>
      rw [hev] at hr
      exact wp_loop_rounds 4096 (loopN_sound (fun σ K ρ a w Q q hq hk => runC_sound hm hinl hfr c σ K ρ a w Q q hq hk) _ _ _ _ _ _ _ hr h0' hQ)
    | false =>
      rw [hev] at hr
      simp only at hr
      obtain ⟨ρ, h⟩ := rowify_ok (ann fid (Code.reg1 c)).nils h0'
      generalize rowify (ann fid (Code.reg1 c)).nils σ0 = σ1 at hr h
      obtain ⟨ρ, h⟩ := frzSlots_ok (Code.wr c) (ann fid (Code.reg1 c)).nils h
      generalize frzSlots (Code.wr c) (ann fid (Code.reg1 c)).nils σ1 = σ at hr h
      split at hr
      · exact hr.elim
      · rename_i xs hx
        split at hr
        · rename_i hck
          obtain ⟨Inv, μ, h1, h2⟩ := hr
          generalize hA : autoAnn (ann fid (Code.reg1 c)) (Code.wr c) σ = A at *
          obtain ⟨ρ0, h0⟩ := head_again hck (FrB.refl σ) (FrT.refl _ σ) hx h
          refine wp_loop_ghost (fun m a w => ∃ ys ρ, ys.length = xs.length ∧ Inv m ys ∧ HS base w0 ok0 (A.head σ ys) ρ a w) μ ⟨xs, ρ0, rfl, h1, h0⟩ ?_
          rintro m a w ⟨ys, ρ, hl, hy, hh⟩
          have hb := h2 m ys hl hy
          have hb' := runC_mono hfr c _ _ (fun e σ' => (match e with
              | .normal => match A.vals (frzSlots (Code.wr c) (ann fid (Code.reg1 c)).nils σ') with
                | some zs => if chk A (Code.wr c) (A.head σ ys) (frzSlots (Code.wr c) (ann fid (Code.reg1 c)).nils σ') then (fun zs => ∃ m', m' < m ∧ Inv m' zs) zs else fStuckL "a loop: its head does not come again" (A.head σ ys) σ'
                | none => fStuckL "a loop: what it carries, behind a round" (A.head σ ys) σ'
              | e => K e σ') ∧ FrB (A.head σ ys) σ' ∧ (e ≠ .ret → FrT (Code.wr c) (A.head σ ys) σ')) hb (fun e σ' hk q1 q2 _ => ⟨hk, q1, q2⟩)
          refine runC_sound hm hinl hfr c _ _ ρ a w _ hb' hh fun e σ' ρ' a' w' hk h' => ?_
          obtain ⟨hk, hfb, hft⟩ := hk
          cases e with
          | normal =>
            simp only at hk
            split at hk
            · rename_i zs hz
              split at hk
              · rename_i hck2
                have hzf := frzSlots_fr (Code.wr c) (ann fid (Code.reg1 c)).nils σ'
                obtain ⟨ρ4, h4⟩ := frzSlots_ok (Code.wr c) (ann fid (Code.reg1 c)).nils h'
                obtain ⟨ρ2, h3⟩ := head_again hck2 (hfb.trans hzf.1) (((hft (by simp)).trans hzf.2).mono fun t ht => by simpa using ht) hz h4
                obtain ⟨m', hlt, hI⟩ := hk
                exact ⟨m', hlt, zs, ρ2, by rw [vals_len hz, vals_len hx], hI, head_head h3⟩
              · exact hk.elim
            · exact hk.elim
          | exit i => exact hQ _ _ _ _ _ hk h'
          | goto i => exact hQ _ _ _ _ _ hk h'
          | ret => exact hQ _ _ _ _ _ hk h'
          | panic i => exact hQ _ _ _ _ _ hk h'
          | outgrown => exact hQ _ _ _ _ _ hk h'
        · exact hr.elim
  | .rangeFunc g ps as_ body, σ0, K, ρ0', a, w, Q, hr, h0', hQ => by
    simp only [runC] at hr
    obtain ⟨ρ, h⟩ := rowify_ok (ann fid (Code.reg1 body)).nils h0'
    generalize rowify (ann fid (Code.reg1 body)).nils σ0 = σ at hr h
    split at hr
    · rename_i t p hps
      split at hr
      · rename_i X hX
        split at hr
        · exact hr.elim
        · rename_i xs hxs
          split at hr
          · rename_i hck
            simp only [Bool.and_eq_true] at hck
            generalize hA : ({ drop := [], vs := [], rows := (ann fid (Code.reg1 body)).rows, cells := (ann fid (Code.reg1 body)).cells } : LoopAnn) = A at *
            obtain ⟨hf, cs, els, hXc, hIt, Inv, hI0, hIb, hIe⟩ := hr
            subst hXc
            obtain ⟨ρ0, h0⟩ := head_again hck.1.1 (FrB.refl σ) (FrT.refl _ σ) hxs h
            have hAt : ∀ ys, (A.head σ ys).tm.getD t .any = .v (.clo hf cs) := fun ys => by
              have hlt : t < σ.tm.length := by
                rcases Nat.lt_or_ge t σ.tm.length with q | q
                · exact q
                · exfalso
                  rw [List.getD_eq_getElem?_getD, List.getElem?_eq_none q] at hX
                  cases hX
              rw [head_tm _ _ _ _ hlt]
              unfold LoopAnn.tm
              rw [← hA]
              simpa using hX
            have hev : ∃ lb : Array Value, a.tmps.getD t undef = .func (.func hf) #[] lb ∧ lb.size = cs.length := by
              have := h.tms t
              rw [hX] at this
              generalize a.tmps.getD t undef = u at this
              cases this with
              | v _ _ hv =>
                cases hv with
                | clo _ _ vs hl h => exact ⟨vs, rfl, hl⟩
            obtain ⟨lb, hlb, hlbs⟩ := hev
            have hps' : ps = #[p] := by
              obtain ⟨ps⟩ := ps
              simp at hps; rw [hps]
            subst hps'
            obtain ⟨D, hD⟩ : ∃ D, D = w.heap.size := ⟨_, rfl⟩
            refine (wpIn_wide (n := 0)).1 (wpIn_rangeFunc fun fn hfn => ?_)
            obtain ⟨rec, hrec⟩ : ∃ rec : LoopState → Option Code → Loop, rec = fun st pe => { state := st, pending := pe, fn, tmps := a.tmps, params := #[p], assign := as_, body, defers := D } := ⟨_, rfl⟩
            obtain ⟨W1, hW1⟩ : ∃ W1, W1 = (w.alloc (.deferred (some []))).alloc (.loop (rec .ready none)) := ⟨_, rfl⟩
            have hb1 : Below w.heap.size w W1 := by rw [hW1]; exact ((Below.refl _ w).alloc (Nat.le_refl _) _).alloc (by simp) _
            have hL1 : W1.heap[D + 1]? = some (.loop (rec .ready none)) := by
              rw [hW1, hD]; have := World.alloc_heap_new (w.alloc (.deferred (some []))) (.loop (rec .ready none)); rwa [World.size_alloc] at this
            have hK1 : W1.heap[D]? = some (.deferred (some [])) := by
              rw [hW1, hD]; exact (Below.heap_alloc _ _ _ (by simp)).trans (World.alloc_heap_new w _)
            have hd1 : W1.drawn = w.drawn := by rw [hW1]; rfl
            have hbase : base ≤ D := by rw [hD]; exact h.low
            have hw0D : w0.heap.size ≤ D := by rw [hD]; exact h.nod.1.size
            have hko1 : KeepsOthers w W1 := ⟨hb1.size, fun k o hk _ => (hb1.block k (Array.getElem?_eq_some_iff.1 hk).1).trans hk⟩
            have h1 : HS base w0 ok0 (A.head σ xs) ρ0 a W1 := HR.conv h0 (Kc.below hb1) h.gl (h.bel.trans (hb1.mono h.low)) (h.nod.trans hko1) (by rw [hd1]; exact h.drw)
            obtain ⟨Ds, hDs, hDn, hDb⟩ := h.nod.2
            have hDlt : ∀ E ∈ Ds, E < D := fun E hE => by rw [hD]; exact (Array.getElem?_eq_some_iff.1 (hDb E hE).2.2).1
            refine ⟨D + 1, [mark D], W1, { target := .fn (.func hf) lb, args := #[.func (.yield (D + 1)) #[] #[]] }, W1, hf, #[.func (.yield (D + 1)) #[] #[]] ++ lb, W1, ?_, ?_, fun _ _ => trivial, ?_, fun q => (by cases q), ?_⟩
            · rw [hW1, hrec, hD]; exact run_enterLoop_outer _ _ _ _ _
            · have : a.eval (.tmp t) = .func (.func hf) #[] lb := hlb
              simp only [resolve, this]
              simp [go_sem]
            · have := hIt.1
              simp [invoke, go_sem]
              exact hIt.1 _ _
            refine callsIn_wide.2 (Calls.mono (hIt.2 (D + 1) (fun pre W => ∃ ys ρ, ys.length = xs.length ∧ Inv pre ys ∧ HS base w0 ok0 (A.head σ ys) ρ a W ∧ W.heap[D + 1]? = some (.loop (rec .ready none)) ∧ W.heap[D]? = some (.deferred (some []))) lb W1 hlbs ?_ ?_ ?_ ⟨xs, ρ0, rfl, hI0, h1, hL1, hK1⟩) ?_)
            · rintro pre B C ⟨ys, ρ, e1, e2, e3, e4, e5⟩ hbe hdr
              have hko : KeepsOthers B C := ⟨hbe.size, fun k o hk _ => (hbe.block k (Array.getElem?_eq_some_iff.1 hk).1).trans hk⟩
              exact ⟨ys, ρ, e1, e2, HR.conv e3 (Kc.below hbe) e3.gl (e3.bel.trans (hbe.mono e3.low)) (e3.nod.trans hko) (Nat.le_trans e3.drw hdr), hko.same _ _ e4 rfl, hko.same _ _ e5 rfl⟩
            · rintro pre B ⟨ys, ρ, e1, e2, e3, e4, e5⟩
              refine ⟨fun g => okR (okF base ok0 (A.head σ ys).blk ρ) ρ [] g ∧ g < B.heap.size, fun g hg => hg.2, e3.glob [], fun i hi => ?_⟩
              have := e3.tms t
              rw [hAt ys, hlb] at this
              cases this with
              | v _ _ hv =>
                cases hv with
                | clo _ _ vs hl hh => exact (hh i hi).mono fun g hg hlt => ⟨⟨.inl hg, hlt⟩, rfl⟩
            · rintro pre x rest v B n hxr ⟨ys, ρ, e1, e2, e3, e4, e5⟩ hv
              have hy := run_yield (P := P) (args := #[v]) e4 (by simp [hrec])
              rw [hrec] at hy
              refine ⟨fn, a.tmps.setIfInBounds p v, as_, body, by simpa using hy, roundIn_of_wpIn hfn ?_⟩
              have hb := hIb pre x rest ys hxr e1 e2
              have hb0 := hb a.tmps
              clear hb
              generalize hσh : A.head σ ys = σh at hb0 e3 hAt
              have hdead : σh.blk σh.clk = .dead := e3.frs σh.clk (fun q => Nat.lt_irrefl _ q)
              have hr1 : HS base B ok0 _ ρ { tmps := a.tmps.setIfInBounds p v, defers := [] } B := round_start (σ := σh) (HR.fresh e3) hv p
              have hpsz : (({ tmps := a.tmps, defers := [] } : Act)).tmps.size = σh.tm.length := e3.size
              have hblt : D + 1 < B.heap.size := (Array.getElem?_eq_some_iff.1 e4).1
              have hmono := runC_mono hfr as_ _ _ (fun e σ2 => (match e with
                | .normal => runC P Γ inl ann fid body σ2 fun e σ' => (match e with
                  | .normal => if (preOf ⟨σh.tm.set p (.v x), (σh.clk, .sv σh.tm a.tmps) :: σh.bl, σh.clk + 64, σh.lft.orc⟩ σ').contains σh.clk then fStuck "saved slots" else
                      (match A.vals ⟨σh.tm, (σh.clk, .dead) :: σ'.bl, σ'.clk, σ'.orc⟩ with
                        | some zs => if chk A [] σh ⟨σh.tm, (σh.clk, .dead) :: σ'.bl, σ'.clk, σ'.orc⟩ then Inv (pre ++ [x]) zs else fStuckL "a loop over a function: its head does not come again" σh ⟨σh.tm, (σh.clk, .dead) :: σ'.bl, σ'.clk, σ'.orc⟩
                        | none => fStuckL "a loop over a function: what it carries, behind a round" σh ⟨σh.tm, (σh.clk, .dead) :: σ'.bl, σ'.clk, σ'.orc⟩)
                  | _ => fStuck "a round is left")
                | _ => fStuck "a loop's variable") ∧ FrB ⟨σh.tm.set p (.v x), (σh.clk, .sv σh.tm a.tmps) :: σh.bl, σh.clk + 64, σh.lft.orc⟩ σ2) hb0 (fun e σ2 hk q1 _ _ => ⟨hk, q1⟩)
              refine runC_round hm hinl hfr (D + 1) n as_ _ _ ρ _ B _ hck.1.2 hmono hr1 (fun e σ2 ρ2 a2 w2 hk2 h2 => ?_) (fun ⟨_, _, q⟩ => q)
              obtain ⟨hk2, hfb2⟩ := hk2
              cases e with
              | normal =>
                simp only at hk2
                have h2o := h2.nod.1
                have e4' := h2o.same _ _ e4 rfl
                have e5' := h2o.same _ _ e5 rfl
                obtain ⟨w3, hw3⟩ : ∃ w3, w3 = w2.putObj (D + 1) (.loop { rec .ready none with state := .busy }) := ⟨_, rfl⟩
                have hlt2 : D + 1 < w2.heap.size := (Array.getElem?_eq_some_iff.1 e4').1
                have hb3 : Below base w2 w3 := by rw [hw3]; exact (Below.refl base w2).grown (grownBy_putObj' w2 (D + 1) _) (Nat.le_trans (by omega) (Nat.le_refl _)) (fun k e => by injection e with e; omega)
                have hk3 : Kc w2 w3 := by rw [hw3]; exact Kc.putObj _ e4' rfl
                obtain ⟨B2, hB2⟩ : ∃ B2, B2 = B.putObj (D + 1) (.loop { rec .ready none with state := .busy }) := ⟨_, rfl⟩
                have hbB : Below base B B2 := by rw [hB2]; exact (Below.refl base B).grown (grownBy_putObj' B (D + 1) _) e3.low (fun k e => by injection e with e; omega)
                have hszB : B2.heap.size = B.heap.size := by rw [hB2]; simp
                have e43 : B2.heap[D + 1]? = some (.loop { rec .ready none with state := .busy }) := by rw [hB2]; exact World.putObj_heap_same hblt
                have e53 : B2.heap[D]? = some (.deferred (some [])) := by rw [hB2]; exact (World.putObj_heap_other (by omega)).trans e5
                have h3 : HS base B2 ok0 σ2 ρ2 a2 w3 := by
                  refine HR.conv h2 hk3 (h2.gl.later hbB) ⟨?_, ?_, ?_, ?_, ?_⟩ ?_ ?_
                  · rw [hw3, hB2]; exact h2.bel.os
                  · rw [hw3, hB2]; exact h2.bel.tape
                  · rw [hw3, hB2]; exact h2.bel.output
                  · rw [hw3, hszB]; simpa using h2o.size
                  · intro k hk
                    rw [hw3, hB2]
                    exact (World.putObj_heap_other (by omega)).trans ((h2.bel.block k hk).trans (World.putObj_heap_other (by omega)).symm)
                  · obtain ⟨z1, Ds2, z2, z3, z4⟩ := h2.nod
                    refine ⟨⟨by rw [hw3, hszB]; simpa using z1.size, fun k o hk ho => ?_⟩, Ds2, z2, z3, fun E hE => ⟨(z4 E hE).1, by rw [hszB]; exact (z4 E hE).2.1, ?_⟩⟩
                    · by_cases hkl : k = D + 1
                      · subst hkl
                        rw [e43] at hk
                        rw [hw3, World.putObj_heap_same hlt2]; exact hk
                      · rw [hB2, World.putObj_heap_other hkl] at hk
                        rw [hw3, World.putObj_heap_other hkl]
                        exact z1.same k o hk ho
                    · rw [hw3]
                      refine (World.putObj_heap_other (fun e => ?_)).trans (z4 E hE).2.2
                      have := (z4 E hE).2.2
                      rw [e, e4'] at this
                      cases this
                  · rw [hw3, hB2]; exact h2.drw
                show ∃ w₂, (Instr.beginRound (D + 1)).run P w2 = .ok () w₂ ∧ _
                refine ⟨w3, by have := run_beginRound (P := P) e4' (by rw [hrec]); rw [hw3]; exact this, ?_⟩
                have hm2 := runC_mono hfr body _ _ (fun e σ' => (match e with
                  | .normal => if (preOf ⟨σh.tm.set p (.v x), (σh.clk, .sv σh.tm a.tmps) :: σh.bl, σh.clk + 64, σh.lft.orc⟩ σ').contains σh.clk then fStuck "saved slots" else
                      (match A.vals ⟨σh.tm, (σh.clk, .dead) :: σ'.bl, σ'.clk, σ'.orc⟩ with
                        | some zs => if chk A [] σh ⟨σh.tm, (σh.clk, .dead) :: σ'.bl, σ'.clk, σ'.orc⟩ then Inv (pre ++ [x]) zs else fStuckL "a loop over a function: its head does not come again" σh ⟨σh.tm, (σh.clk, .dead) :: σ'.bl, σ'.clk, σ'.orc⟩
                        | none => fStuckL "a loop over a function: what it carries, behind a round" σh ⟨σh.tm, (σh.clk, .dead) :: σ'.bl, σ'.clk, σ'.orc⟩)
                  | _ => fStuck "a round is left") ∧ FrB σ2 σ') hk2 (fun e σ' hk q1 _ _ => ⟨hk, q1⟩)
                refine runC_round hm hinl hfr (D + 1) n body _ _ ρ2 a2 w3 _ hck.2 hm2 h3 (fun e σ' ρ' a' w4 hk' h4 => ?_) (fun ⟨_, _, q⟩ => q)
                obtain ⟨hk', hfb4⟩ := hk'
                cases e with
                | normal =>
                  simp only at hk'
                  split at hk'
                  · exact hk'.elim
                  · rename_i hpre
                    split at hk'
                    · rename_i zs hz
                      split at hk'
                      · rename_i hck4
                        have h4o := h4.nod.1
                        have e44 := h4o.same _ _ e43 rfl
                        have e54 := h4o.same _ _ e53 rfl
                        have hlt4 : D + 1 < w4.heap.size := (Array.getElem?_eq_some_iff.1 e44).1
                        have hr4 := run_endRound (P := P) none e44
                        obtain ⟨w5, hw5⟩ : ∃ w5, w5 = w4.putObj (D + 1) (.loop (rec .ready none)) := ⟨_, rfl⟩
                        have hend : (Instr.endRound (D + 1) none).run P w4 = .ok (.bool true) w5 := by
                          rw [hw5]; rw [hrec] at hr4 ⊢; exact hr4
                        refine ⟨_, w5, hend, rfl, zs, ?_⟩
                        obtain ⟨r1, r2⟩ := round_end (a := { tmps := a.tmps, defers := [] }) p x hpsz h4 (hfb2.trans hfb4) hdead hpre a'.defers rfl
                        obtain ⟨ρ5, r3⟩ := head_again hck4 r2 (FrT.refl _ _) hz r1
                        rw [← hσh] at r3
                        have r4 := head_head r3
                        have hb5 : Below base w4 w5 := by rw [hw5]; exact (Below.refl base w4).grown (grownBy_putObj' w4 (D + 1) _) (Nat.le_trans (by omega) (Nat.le_refl _)) (fun k e => by injection e with e; omega)
                        have hk5 : Kc w4 w5 := by rw [hw5]; exact Kc.putObj _ e44 rfl
                        have hko : ∀ k o, B.heap[k]? = some o → o.isCells = false → k ≠ D + 1 → w5.heap[k]? = some o := fun k o hk ho hne => by
                          have q2 : B2.heap[k]? = some o := by rw [hB2]; exact (World.putObj_heap_other hne).trans hk
                          have q3 := h4o.same k o q2 ho
                          rw [hw5]; exact (World.putObj_heap_other hne).trans q3
                        have hsz5 : B.heap.size ≤ w5.heap.size := by
                          have q2 := h4o.size
                          have q4 : w5.heap.size = w4.heap.size := by rw [hw5]; simp
                          omega
                        have hdr5 : B.drawn ≤ w5.drawn := by
                          have q2 := h4.drw
                          have q3 : B2.drawn = B.drawn := by rw [hB2]; rfl
                          have q4 : w5.drawn = w4.drawn := by rw [hw5]; rfl
                          omega
                        have hbel5 : Below base B w5 := (hbB.trans h4.bel).trans hb5
                        refine ⟨ρ5, by rw [vals_len hz, vals_len hxs], hk', HR.conv r4 hk5 e3.gl (e3.bel.trans hbel5) ?_ (Nat.le_trans e3.drw hdr5), by rw [hw5]; exact World.putObj_heap_same hlt4, hko D _ e5 rfl (by omega)⟩
                        obtain ⟨z1, Ds2, z2, z3, z4⟩ := e3.nod
                        refine ⟨⟨Nat.le_trans z1.size hsz5, fun k o hk ho => hko k o (z1.same k o hk ho) ho (by have := (Array.getElem?_eq_some_iff.1 hk).1; omega)⟩, Ds2, z2, z3, fun E hE => ⟨(z4 E hE).1, (z4 E hE).2.1, hko E _ (z4 E hE).2.2 rfl (fun e => ?_)⟩⟩
                        have := (z4 E hE).2.2
                        rw [e, e4] at this
                        cases this
                      · exact hk'.elim
                    · exact hk'.elim
                | _ => exact hk'.elim
              | _ => exact hk2.elim
            · rintro e W2 ⟨⟨v, rfl⟩, ys, ρ, e1, e2, e3, e4, e5⟩
              refine ⟨none, W2.putObj (D + 1) (.loop { rec .ready none with state := .exhausted }), by have := run_endLoop (P := P) e4 (by rw [hrec]; simp); rw [hrec] at this ⊢; exact this, ?_⟩
              have hk2 := hIe ys e1 e2
              refine hQ .normal _ ρ _ _ hk2 ?_
              refine HR.conv (a := a) e3 (Kc.putObj _ e4 rfl) e3.gl (e3.bel.grown (grownBy_putObj' W2 (D + 1) _) e3.low (fun k e => by injection e with e; omega)) ?_ e3.drw
              refine ⟨⟨by simpa using e3.nod.1.size, fun k o hk ho => (World.putObj_heap_other (by have := (Array.getElem?_eq_some_iff.1 hk).1; omega)).trans (e3.nod.1.same k o hk ho)⟩, D :: Ds, by rw [List.map_cons, ← hDs]; rfl, List.nodup_cons.2 ⟨fun q => Nat.lt_irrefl _ (hDlt D q), hDn⟩, fun E hE => ?_⟩
              rcases List.mem_cons.1 hE with rfl | hE
              · exact ⟨hbase, hw0D, (World.putObj_heap_other (by omega)).trans e5⟩
              · obtain ⟨_, Ds2, q2, q3, q4⟩ := e3.nod
                have hEq : Ds = Ds2 := by
                  have : Ds.map mark = Ds2.map mark := hDs.symm.trans q2
                  exact (List.map_inj_right (fun a b e => by injection e with e _; injection e)).1 this
                exact ⟨(hDb E hE).1, (hDb E hE).2.1, (World.putObj_heap_other (by have := hDlt E hE; omega)).trans (q4 E (hEq ▸ hE)).2.2⟩
          · exact hr.elim
      · exact hr.elim
    · exact hr.elim
  | .scope x, σ, K, ρ, a, w, Q, hr, h, hQ => hr.elim
  | .label i, σ, K, ρ, a, w, Q, hr, h, hQ => hr.elim
  | .goto i, σ, K, ρ, a, w, Q, hr, h, hQ => hr.elim
  | .refuse s, σ, K, ρ, a, w, Q, hr, h, hQ => hr.elim
end
end Go.Proofs.YtcifjnhpgblnkaaGreatDoor
namespace Go.Proofs.YtcifjnhpgblnkaaGreatDoor
open Go.RowKit
set_option linter.unusedVariables false
set_option linter.unusedSimpArgs false
section
variable {P : Program} {Γ : FuncId → Option Ca} {inl : Inl} {base : Nat} {w0 : World} {ok0 : Nat → Prop} {ann : FuncId → Nat → LoopEx}
theorem resD_ok {σ : DS} {ρ : Nat → Value} {a : Act} {w : World} (h : HS base w0 ok0 σ ρ a w) {r : ResultVar} {d : DE} (hd : resD P σ r = some d) :
  ∃ v, (match r with | .tmp t => pure (a.tmps.getD t undef) | .cell x t => do loadVar t (← asAddr (a.tmps.getD x undef)) : Sem Value).run P w = .ok v w ∧ RD w (okF base ok0 σ.blk ρ) ρ σ.blk (fun n => n < σ.clk) d v := by
 cases r with
 | tmp t =>
  simp only [resD, Option.some.injEq] at hd
  subst hd
  exact ⟨_, rfl, h.tms t⟩
 | cell x t =>
  simp only [resD] at hd
  split at hd
  ·rename_i b he
   have hx := h.tms x
   rw [he] at hx
   split at hd
   ·rename_i t' cs hb
    split at hd
    ·cases hd
    ·rename_i hu'
     have hu : ¬ (P.underlying t).isNone = true := fun e => hu' (.inl e)
     have hz : P.cellsOf t ≠ 0 := fun e => hu' (.inr e)
     obtain ⟨g, vs, e1, _, e3, e4⟩ := h.cells hb
     generalize hu2 : a.tmps.getD x undef = u at hx
     cases hx with
     | ptr _ _ g' hg' =>
      rw [e1] at hg'
      injection hg' with hg'
      injection hg' with hg'
      injection hg' with hg'
      subst hg'
      obtain ⟨r1, r2, r3⟩ := whole_ok hd e4
      have hcell : ∀ j u, vs[j]? = some u → w.cell? ⟨g, 0 + j, none⟩ = some u := fun j u hj => by rw [cell_of_row w g _ vs t' (0, 0) e3, Nat.zero_add]; exact hj
      have := run_load (P := P) (w := w) hu g 0 vs hcell (fun hA => ⟨r2 hA, hz⟩) r3
      exact ⟨_, by simp only [hu2, asAddr, Sem.run_bind, Sem.run_pure, Result.andThen_ok]; exact this, r1⟩
   ·cases hd
  ·cases hd
theorem ressD_ok {σ : DS} {ρ : Nat → Value} {a : Act} {w : World} (h : HS base w0 ok0 σ ρ a w) : ∀ {l : List ResultVar} {ds : List DE}, ressD P σ l = some ds →
  ∃ vs : List Value, (l.mapM fun r => (match r with | .tmp t => pure (a.tmps.getD t undef) | .cell x t => do loadVar t (← asAddr (a.tmps.getD x undef)) : Sem Value)).run P w = .ok vs w ∧ vs.length = ds.length ∧ ∀ i, i < ds.length → RD w (okF base ok0 σ.blk ρ) ρ σ.blk (fun n => n < σ.clk) (ds.getD i .any) (vs.getD i undef)
 | [], ds, hd => by
  simp only [ressD, Option.some.injEq] at hd
  subst hd
  exact ⟨[], rfl, rfl, fun i hi => absurd hi (by simp)⟩
 | r :: l, ds, hd => by
  simp only [ressD] at hd
  split at hd
  ·rename_i d ds' h1 h2
   simp only [Option.some.injEq] at hd
   subst hd
   obtain ⟨v, q1, q2⟩ := resD_ok h h1
   obtain ⟨vs, q3, q4, q5⟩ := ressD_ok h h2
   refine ⟨v :: vs, ?_, by simp [q4], fun i hi => ?_⟩
   ·rw [List.mapM_cons, Sem.run_bind, q1, Result.andThen_ok, Sem.run_bind, q3, Result.andThen_ok, Sem.run_pure]
   ·cases i with
    | zero => exact q2
    | succ i => have := q5 i (by simpa using hi); simpa using this
  ·cases hd
theorem resultD_ok {σ : DS} {ρ : Nat → Value} {a : Act} {w : World} (h : HS base w0 ok0 σ ρ a w) {fn : Func} {d : DE} (hd : resultD P fn σ = some d) : ∃ v, (results fn a.tmps).run P w = .ok v w ∧ RD w (okF base ok0 σ.blk ρ) ρ σ.blk (fun n => n < σ.clk) d v := by
 unfold resultD at hd
 cases hq : ressD P σ fn.results.toList with
 | none => rw [hq] at hd; cases hd
 | some ds =>
  rw [hq] at hd
  simp only [Option.map_some, Option.some.injEq] at hd
  obtain ⟨vs, q1, q2, q3⟩ := ressD_ok h hq
  have hrun : (results fn a.tmps).run P w = .ok (if hv : vs.toArray.size = 1 then vs.toArray[0] else .tuple vs.toArray) w := by
   unfold results
   rw [Array.mapM_eq_mapM_toList]
   show Sem.run P ((fn.results.toList.mapM _ >>= fun l => pure l.toArray) >>= _) w = _
   rw [Sem.run_bind, Sem.run_bind]
   generalize hM : Sem.run P (List.mapM _ fn.results.toList) w = M
   have hM2 : M = .ok vs w := hM.symm.trans q1
   rw [hM2]
   rfl
  refine ⟨_, hrun, ?_⟩
  split at hd
  ·rename_i d'
   subst hd
   have hl : vs.length = 1 := by simpa using q2
   have := q3 0 (by simp)
   rw [dif_pos (by simpa using hl)]
   obtain ⟨v, rfl⟩ : ∃ v, vs = [v] := by
    cases vs with
    | nil => cases hl
    | cons v l => cases l with
     | nil => exact ⟨v, rfl⟩
     | cons _ _ => simp at hl
   exact this
  ·rename_i hne
   subst hd
   rw [dif_neg (by
    intro hv
    have hl : ds.length = 1 := by rw [← q2]; simpa using hv
    cases ds with
    | nil => cases hl
    | cons d l => cases l with
     | nil => exact hne d rfl
     | cons _ _ => simp at hl)]
   exact .tup ds vs.toArray (by simp [q2]) fun i hi => by have := q3 i hi; simpa using this
theorem flat_rv {w : World} {ok : Nat → Prop} {x : AV} {v : Value} (h : RV w ok x v) (hf : x.flat) : RV w noBlock x v := by
 induction hf generalizing v with
 | lit u => cases h; exact .lit _
 | nil s =>
  cases h with
  | sl _ _ A n c us hn hnc hc hs hA hone hu =>
   subst hn
   exact .sl s [] A 0 c us rfl hnc hc hs (fun q => absurd q (by simp)) (fun i j hi => absurd hi (by simp)) (fun i j hi => absurd hi (by simp))
 | agg cs hall ih =>
  cases h with
  | agg _ vs h1 h2 h3 => exact .agg cs vs h1 h2 fun i hi => ih _ (by
    rw [List.getD_eq_getElem?_getD, List.getElem?_eq_getElem hi]; exact List.getElem_mem hi) (h3 i hi)
variable {σ : DS} {ρ : Nat → Value} {a : Act} {w : World}
theorem out0_ok (h : HS base w0 ok0 σ ρ a w) {okn : Nat → Prop} (hokn : ∀ g, okF base ok0 σ.blk ρ g → okn g) {d : DE} {v : Value} (hd : RD w (okF base ok0 σ.blk ρ) ρ σ.blk (fun n => n < σ.clk) d v) {sh : Sh} {x : AV} {obs : List Ob} (ho : out0 σ.fview d sh = some (x, obs)) (hobs : ∀ p ∈ obs, p.p) : RS0 w okn base x v sh := by
 have hV := fview_ok σ
 unfold out0 at ho
 split at ho
 ·rename_i e s f
  split at ho
  ·split at ho
   ·cases ho
   ·rename_i hs
    simp only [Option.some.injEq, Prod.mk.injEq] at ho
    obtain ⟨rfl, rfl⟩ := ho
    cases hd
    exact RRow.nil w base e s (by omega) _
  ·rename_i b n
   split at ho
   ·rename_i e' s' m y hb
    split at ho
    ·rename_i hc
     obtain ⟨rfl, rfl, rfl⟩ := hc
     simp only [Option.some.injEq, Prod.mk.injEq] at ho
     obtain ⟨rfl, rfl⟩ := ho
     have hrow := h.row hb
     cases hd with
     | row _ _ _ hn h1 hs =>
      have hv := hs (by have hb' : σ.blk b = .row e' s' m y := hb; rw [hb']; rfl)
      subst hv
      show RRow w base e' s' (if f then noBlock else okn) y (ρ b)
      cases f with
      | false => exact hrow.keep (fun _ _ => rfl) fun g hg hlt => ⟨hokn g hg, rfl⟩
      | true =>
       have hfl : y.flatS := hobs (ob (y.flatS)) (by simp)
       obtain ⟨L, xs, rfl, q1, q2, q3, q4, q5⟩ := hrow
       refine ⟨L, xs, rfl, q1, q2, q3, q4, fun i j hi hj => flat_rv (q5 i j hi hj) ?_⟩
       have hLi : (L.getD i []) ∈ L := by rw [List.getD_eq_getElem?_getD, List.getElem?_eq_getElem hi]; exact List.getElem_mem hi
       refine hfl (L.getD i []) hLi _ ?_
       have hlj : j < (L.getD i []).length := by rw [q2 _ hLi]; exact hj
       unfold gt2
       rw [List.getD_eq_getElem?_getD (l := L.getD i []), List.getElem?_eq_getElem hlj]
       exact List.getElem_mem hlj
    ·cases ho
   ·cases ho
  ·cases ho
 ·split at ho
  ·rename_i y hy
   simp only [Option.some.injEq, Prod.mk.injEq] at ho
   obtain ⟨rfl, rfl⟩ := ho
   exact (pc_ok' hV h hd hy).mono fun g hg _ => ⟨hokn g hg, rfl⟩
  ·rename_i y r hne hy
   simp only [Option.some.injEq, Prod.mk.injEq] at ho
   obtain ⟨rfl, rfl⟩ := ho
   have hemp : y.els = [] := ob1 hobs
   have key : ∀ {w : World} {B e s : Nat} {okc ok' : Nat → Prop} {x : AV} {v : Value}, RRow w B e s okc x v → x.els = [] → RV w ok' x v := fun {w B e s okc ok' x v} hr he => by
    obtain ⟨A, n, c, rfl, q1, q2, q3⟩ := hr.form
    obtain ⟨L, xs, rfl, _⟩ := hr
    have hL : L = [] := he
    subst hL
    obtain rfl : n = 0 := q1
    exact .sl s [] A 0 c (fun _ _ => undef) rfl q2 q3 (by simp) (fun q => absurd q (by omega)) (fun i j hi => absurd hi (by omega)) (fun i j hi => absurd hi (by omega))
   cases d with
   | row b n =>
    simp only [View.pc] at hy
    split at hy
    ·rename_i e s m x hb
     split at hy
     ·rename_i hmn
      subst hmn
      simp only [Option.some.injEq, Prod.mk.injEq] at hy
      obtain ⟨rfl, rfl⟩ := hy
      have hrow := h.row hb
      cases hd with
      | row _ _ _ hn h1 hs =>
       have hv := hs (by have hb' : σ.blk b = .row e s m x := hb; rw [hb']; rfl)
       subst hv
       exact key hrow hemp
     ·cases hy
    ·split at hy
     ·simp only [Option.some.injEq, Prod.mk.injEq] at hy
      exact absurd hy.2.symm hne
     ·cases hy
    ·cases hy
   | v x => simp only [View.pc, Option.some.injEq, Prod.mk.injEq] at hy; exact absurd hy.2.symm hne
   | c x => simp only [View.pc, Option.some.injEq, Prod.mk.injEq] at hy; exact absurd hy.2.symm hne
   | nil => simp only [View.pc, Option.some.injEq, Prod.mk.injEq] at hy; exact absurd hy.2.symm hne
   | _ => simp only [View.pc] at hy; cases hy
  ·cases ho
 ·split at ho
  ·rename_i y hy
   simp only [Option.some.injEq, Prod.mk.injEq] at ho
   obtain ⟨rfl, rfl⟩ := ho
   exact flat_rv (pc_ok' hV h hd hy) (ob1 hobs)
  ·cases ho
 ·cases ho
theorem out0s_ok {V : View} : ∀ {ds : List DE} {shs : List Sh} {xs : List AV} {obs : List Ob}, out0s V ds shs = some (xs, obs) → (∀ p ∈ obs, p.p) → xs.length = shs.length ∧ ds.length = shs.length ∧ ∀ i, i < shs.length → ∃ o, out0 V (ds.getD i .any) (shs.getD i .sc) = some (xs.getD i default, o) ∧ ∀ p ∈ o, p.p
 | [], [], xs, obs, h, _ => by
  simp only [out0s, Option.some.injEq, Prod.mk.injEq] at h
  obtain ⟨rfl, rfl⟩ := h
  exact ⟨rfl, rfl, fun i hi => absurd hi (by simp)⟩
 | d :: ds, sh :: l, xs, obs, h, hobs => by
  simp only [out0s] at h
  split at h
  ·rename_i x o xs' os h1 h2
   simp only [Option.some.injEq, Prod.mk.injEq] at h
   obtain ⟨rfl, rfl⟩ := h
   obtain ⟨q1, q2, q3⟩ := out0s_ok h2 (fun p hp => hobs p (List.mem_append_right _ hp))
   refine ⟨by simp [q1], by simp [q2], fun i hi => ?_⟩
   cases i with
   | zero => exact ⟨o, h1, fun p hp => hobs p (List.mem_append_left _ hp)⟩
   | succ i =>
    obtain ⟨o', q4, q5⟩ := q3 i (by simpa using hi)
    exact ⟨o', by simpa using q4, q5⟩
  ·cases h
 | [], _ :: _, xs, obs, h, _ => by cases h
 | _ :: _, [], xs, obs, h, _ => by cases h
theorem out1s_ok {V : View} : ∀ {ds : List DE} {shs : List Sh} {xs : List AV} {obs : List Ob}, out1s V ds shs = some (xs, obs) → (∀ p ∈ obs, p.p) → xs.length = shs.length ∧ ds.length = shs.length ∧ ∀ i, i < shs.length → ∃ o, out1 V (ds.getD i .any) (shs.getD i .sc) = some (xs.getD i default, o) ∧ ∀ p ∈ o, p.p
 | [], [], xs, obs, h, _ => by
  simp only [out1s, Option.some.injEq, Prod.mk.injEq] at h
  obtain ⟨rfl, rfl⟩ := h
  exact ⟨rfl, rfl, fun i hi => absurd hi (by simp)⟩
 | d :: ds, sh :: l, xs, obs, h, hobs => by
  simp only [out1s] at h
  split at h
  ·rename_i x o xs' os h1 h2
   simp only [Option.some.injEq, Prod.mk.injEq] at h
   obtain ⟨rfl, rfl⟩ := h
   obtain ⟨q1, q2, q3⟩ := out1s_ok h2 (fun p hp => hobs p (List.mem_append_right _ hp))
   refine ⟨by simp [q1], by simp [q2], fun i hi => ?_⟩
   cases i with
   | zero => exact ⟨o, h1, fun p hp => hobs p (List.mem_append_left _ hp)⟩
   | succ i =>
    obtain ⟨o', q4, q5⟩ := q3 i (by simpa using hi)
    exact ⟨o', by simpa using q4, q5⟩
  ·cases h
 | [], _ :: _, xs, obs, h, _ => by cases h
 | _ :: _, [], xs, obs, h, _ => by cases h
def V0 (σ : DS) (cs : List DE) (xs : List AV) : Prop := σ.fview.pcs cs = some (xs, [])
theorem out1_ok (h : HS base w0 ok0 σ ρ a w) {okn : Nat → Prop} (hokn : ∀ g, okF base ok0 σ.blk ρ g → okn g) {d : DE} {v : Value} (hd : RD w (okF base ok0 σ.blk ρ) ρ σ.blk (fun n => n < σ.clk) d v) {sh : Sh} {x : AV} {obs : List Ob} (ho : out1 σ.fview d sh = some (x, obs)) (hobs : ∀ p ∈ obs, p.p) : RS1 w okn base x v sh := by
 have hV := fview_ok σ
 have hagg : ∀ cs xs, V0 σ cs xs → ∀ vs : Array Value, vs.size = cs.length → (∀ i, i < cs.length → (vs.getD i undef).oneCell' = true) → (∀ i, i < cs.length → RD w (okF base ok0 σ.blk ρ) ρ σ.blk (fun n => n < σ.clk) (cs.getD i .any) (vs.getD i undef)) → RV w (okF base ok0 σ.blk ρ) (.agg xs) (.agg vs) := fun cs xs hp vs h1 h2 h3 => by
  obtain ⟨p1, p2⟩ := pcs_get hp
  refine .agg xs vs (by rw [h1, p1]) (fun i hi => h2 i (p1 ▸ hi)) fun i hi => ?_
  obtain ⟨r', z1, z2⟩ := p2 i (p1 ▸ hi)
  obtain rfl : r' = [] := by
   cases r' with
   | nil => rfl
   | cons q _ => exact absurd (z2 q (by simp)) (by simp)
  exact pc_ok' hV h (h3 i (p1 ▸ hi)) z1
 cases sh with
 | agg shs =>
  simp only [out1] at ho
  split at ho
  ·rename_i cs
   cases hq : out0s σ.fview cs shs with
   | none => rw [hq] at ho; cases ho
   | some q =>
    obtain ⟨xs, o⟩ := q
    rw [hq] at ho
    simp only [Option.map_some, Option.some.injEq, Prod.mk.injEq] at ho
    obtain ⟨rfl, rfl⟩ := ho
    obtain ⟨q1, q2, q3⟩ := out0s_ok hq hobs
    cases hd with
    | agg _ vs h1 h2 h3 =>
     refine ⟨vs, rfl, by rw [h1, q2], ⟨xs, rfl, q1⟩, fun i hi => ⟨h2 i (q2 ▸ hi), ?_⟩⟩
     obtain ⟨o', z1, z2⟩ := q3 i hi
     exact out0_ok h hokn (h3 i (q2 ▸ hi)) z1 z2
  ·cases ho
 | sc =>
  simp only [out1] at ho
  split at ho
  ·rename_i cs
   split at ho
   ·rename_i xs _ hp
    simp only [Option.some.injEq, Prod.mk.injEq] at ho
    obtain ⟨rfl, rfl⟩ := ho
    cases hd with
    | agg _ vs h1 h2 h3 => exact flat_rv (hagg cs xs hp vs h1 h2 h3) (ob1 hobs)
   ·rename_i hh _; cases hh
   ·cases ho
  ·exact out0_ok (sh := .sc) h hokn hd ho hobs
 | p =>
  simp only [out1] at ho
  split at ho
  ·rename_i cs
   split at ho
   ·rename_i hh _; cases hh
   ·rename_i xs _ hp
    simp only [Option.some.injEq, Prod.mk.injEq] at ho
    obtain ⟨rfl, rfl⟩ := ho
    cases hd with
    | agg _ vs h1 h2 h3 => exact (hagg cs xs hp vs h1 h2 h3).mono fun g hg _ => ⟨hokn g hg, rfl⟩
   ·cases ho
  ·exact out0_ok (sh := .p) h hokn hd ho hobs
 | row e s f =>
  simp only [out1] at ho
  split at ho
  ·cases ho
  ·exact out0_ok (sh := .row e s f) h hokn hd ho hobs
 | tup vs =>
  simp only [out1] at ho
  split at ho
  ·cases ho
  ·cases ho
theorem out2_ok (h : HS base w0 ok0 σ ρ a w) {okn : Nat → Prop} (hokn : ∀ g, okF base ok0 σ.blk ρ g → okn g) {d : DE} {v : Value} (hd : RD w (okF base ok0 σ.blk ρ) ρ σ.blk (fun n => n < σ.clk) d v) {sh : Sh} {x : AV} {obs : List Ob} (ho : out2 σ.fview d sh = some (x, obs)) (hobs : ∀ p ∈ obs, p.p) : RS2 w okn base x v sh := by
 cases sh with
 | tup shs =>
  simp only [out2] at ho
  split at ho
  ·rename_i ds
   cases hq : out1s σ.fview ds shs with
   | none => rw [hq] at ho; cases ho
   | some q =>
    obtain ⟨xs, o⟩ := q
    rw [hq] at ho
    simp only [Option.map_some, Option.some.injEq, Prod.mk.injEq] at ho
    obtain ⟨rfl, rfl⟩ := ho
    obtain ⟨q1, q2, q3⟩ := out1s_ok hq hobs
    cases hd with
    | tup _ vs h1 h3 =>
     refine ⟨vs, rfl, by rw [h1, q2], ⟨xs, rfl, q1⟩, fun i hi => ?_⟩
     obtain ⟨o', z1, z2⟩ := q3 i hi
     exact out1_ok h hokn (h3 i (q2 ▸ hi)) z1 z2
  ·cases ho
 | agg cs => exact out1_ok (sh := .agg cs) h hokn hd ho hobs
 | row e s f => exact out1_ok (sh := .row e s f) h hokn hd ho hobs
 | sc => exact out1_ok (sh := .sc) h hokn hd ho hobs
 | p => exact out1_ok (sh := .p) h hokn hd ho hobs
theorem out0_row (h : HS base w0 ok0 σ ρ a w) {d : DE} {v : Value} (hd : RD w (okF base ok0 σ.blk ρ) ρ σ.blk (fun n => n < σ.clk) d v) {e s : Nat} {f : Bool} {x : AV} {obs : List Ob} (ho : out0 σ.fview d (.row e s f) = some (x, obs)) :
  v.ownBlock = none ∨ ∃ b n, d = .row b n ∧ isLive (σ.blk b) = true ∧ v.ownBlock = blkNo (ρ b) := by
 simp only [out0] at ho
 split at ho
 ·cases hd; exact .inl rfl
 ·rename_i b n
  split at ho
  ·rename_i e2 s2 m y hb
   split at ho
   ·rename_i hc
    obtain ⟨rfl, rfl, rfl⟩ := hc
    have hb' : σ.blk b = .row e2 s2 m y := hb
    cases hd with
    | row _ _ _ hn h1 hs =>
     have hv := hs (by rw [hb']; rfl)
     subst hv
     exact .inr ⟨b, m, rfl, by rw [hb']; rfl, (h.row hb').blkNo_eq⟩
   ·cases ho
  ·cases ho
 ·cases ho
theorem out1_row (h : HS base w0 ok0 σ ρ a w) {d : DE} {v : Value} (hd : RD w (okF base ok0 σ.blk ρ) ρ σ.blk (fun n => n < σ.clk) d v) {sh : Sh} {x : AV} {obs : List Ob} (ho : out1 σ.fview d sh = some (x, obs)) (hobs : ∀ p ∈ obs, p.p) {i : Nat} (hr : isRow (leafSh1 i sh) = true) :
  (leafVal1 v i sh).ownBlock = none ∨ ∃ b n, leafDE1 d i sh = .row b n ∧ isLive (σ.blk b) = true ∧ (leafVal1 v i sh).ownBlock = blkNo (ρ b) := by
 cases sh with
 | agg shs =>
  simp only [out1] at ho
  split at ho
  ·rename_i cs
   cases hq : out0s σ.fview cs shs with
   | none => rw [hq] at ho; cases ho
   | some q =>
    obtain ⟨xs, o⟩ := q
    rw [hq] at ho
    simp only [Option.map_some, Option.some.injEq, Prod.mk.injEq] at ho
    obtain ⟨rfl, rfl⟩ := ho
    obtain ⟨q1, q2, q3⟩ := out0s_ok hq hobs
    cases hd with
    | agg _ vs h1 h2 h3 =>
     have hi : i < shs.length := by
      rcases Nat.lt_or_ge i shs.length with q | q
      ·exact q
      ·simp only [leafSh1] at hr
       rw [List.getD_eq_getElem?_getD, List.getElem?_eq_none q] at hr; cases hr
     obtain ⟨o', z1, z2⟩ := q3 i hi
     have hr' : isRow (shs.getD i .sc) = true := hr
     cases hsh : shs.getD i .sc with
     | row e s f =>
      rw [hsh] at z1
      exact out0_row h (h3 i (q2 ▸ hi)) z1
     | _ => rw [hsh] at hr'; cases hr'
  ·cases ho
 | row e s f =>
  simp only [out1] at ho
  split at ho
  ·cases ho
  ·exact out0_row h hd ho
 | sc => simp only [leafSh1] at hr; split at hr <;> cases hr
 | p => simp only [leafSh1] at hr; split at hr <;> cases hr
 | tup vs => simp only [leafSh1] at hr; split at hr <;> cases hr
theorem out2_row (h : HS base w0 ok0 σ ρ a w) {d : DE} {v : Value} (hd : RD w (okF base ok0 σ.blk ρ) ρ σ.blk (fun n => n < σ.clk) d v) {sh : Sh} {x : AV} {obs : List Ob} (ho : out2 σ.fview d sh = some (x, obs)) (hobs : ∀ p ∈ obs, p.p) {j i : Nat} (hr : isRow (leafSh j i sh) = true) :
  (leafVal v j i sh).ownBlock = none ∨ ∃ b n, leafDE d j i sh = .row b n ∧ isLive (σ.blk b) = true ∧ (leafVal v j i sh).ownBlock = blkNo (ρ b) := by
 have hone : ∀ sh : Sh, out1 σ.fview d sh = some (x, obs) → isRow (if j = 0 then leafSh1 i sh else .sc) = true → (leafVal1 v i sh).ownBlock = none ∨ ∃ b n, leafDE1 d i sh = .row b n ∧ isLive (σ.blk b) = true ∧ (leafVal1 v i sh).ownBlock = blkNo (ρ b) := fun sh h1 h2 => by
  split at h2
  ·exact out1_row h hd h1 hobs h2
  ·cases h2
 cases sh with
 | tup shs =>
  simp only [out2] at ho
  split at ho
  ·rename_i ds
   cases hq : out1s σ.fview ds shs with
   | none => rw [hq] at ho; cases ho
   | some q =>
    obtain ⟨xs, o⟩ := q
    rw [hq] at ho
    simp only [Option.map_some, Option.some.injEq, Prod.mk.injEq] at ho
    obtain ⟨rfl, rfl⟩ := ho
    obtain ⟨q1, q2, q3⟩ := out1s_ok hq hobs
    cases hd with
    | tup _ vs h1 h3 =>
     have hr' : isRow (leafSh1 i (shs.getD j .sc)) = true := hr
     have hj : j < shs.length := by
      cases hsh : leafSh1 i (shs.getD j .sc) with
      | row e s f => exact leaf_lt hsh
      | _ => rw [hsh] at hr'; cases hr'
     obtain ⟨o', z1, z2⟩ := q3 j hj
     exact out1_row h (h3 j (q2 ▸ hj)) z1 z2 hr'
  ·cases ho
 | agg cs => exact hone (.agg cs) ho hr
 | row e s f => exact hone (.row e s f) ho hr
 | sc => exact hone .sc ho hr
 | p => exact hone .p ho hr
theorem filterMap_inj {α : Type} {f : α → Option Nat} : ∀ {l : List α}, (l.filterMap f).Nodup → ∀ {p q : α}, p ∈ l → q ∈ l → ∀ {b : Nat}, f p = some b → f q = some b → l.Nodup → p = q
 | [], _, p, q, hp, _, _, _, _, _ => by cases hp
 | x :: l, hn, p, q, hp, hq, b, h1, h2, hl => by
  have hmem : ∀ y, y ∈ l → f y = some b → b ∈ l.filterMap f := fun y hy hb => List.mem_filterMap.2 ⟨y, hy, hb⟩
  rw [List.filterMap_cons] at hn
  rcases List.mem_cons.1 hp with rfl | hp'
  ·rcases List.mem_cons.1 hq with rfl | hq'
   ·rfl
   ·rw [h1] at hn
    exact absurd (hmem q hq' h2) (List.nodup_cons.1 hn).1
  ·rcases List.mem_cons.1 hq with rfl | hq'
   ·rw [h2] at hn
    exact absurd (hmem p hp' h1) (List.nodup_cons.1 hn).1
   ·have hn' : (l.filterMap f).Nodup := by
     split at hn
     ·exact hn
     ·exact (List.nodup_cons.1 hn).2
    exact filterMap_inj hn' hp' hq' h1 h2 (List.nodup_cons.1 hl).2
theorem paths_mem {j i : Nat} (hj : j < 8) (hi : i < 8) : (j, i) ∈ paths := List.mem_flatMap.2 ⟨j, by simpa using hj, List.mem_map.2 ⟨i, by simpa using hi, rfl⟩⟩
theorem paths_nodup : paths.Nodup := by decide
theorem fn_of_run (hm : P.follows .mixedOrders = true) {n : Nat} (hinl : InlOk P (inF P Γ ann n)) (hfr : InlFr (inF P Γ ann n)) {f : FuncId} {fn : Func} {c : Code} (hf : P.funcs[f]? = some fn) (hb : fn.body = some c) (hent : Ent P f) {args : List AV} {orc : Orc} {sh : Sh} {r : AV} (h : fnF P Γ ann n f fn c orc args sh r) : Fn P f args sh r := by
 refine ⟨hent, fun w ok cargs hokl hgl hsz hargs => calls_marks hf hb ?_⟩
 have hlen : (args.map DE.v ++ List.replicate (fn.ntmps - args.length) (DE.c undef)).length = (cargs ++ Array.replicate (fn.ntmps - cargs.size) undef).size := by simp [hsz]
 have hblk0 : ∀ b, (DS.mk (args.map DE.v ++ List.replicate (fn.ntmps - args.length) (DE.c undef)) [] 1 orc).blk b = .dead := fun b => rfl
 have h0 : HS w.heap.size w ok (DS.mk (args.map DE.v ++ List.replicate (fn.ntmps - args.length) (DE.c undef)) [] 1 orc) (fun _ => undef) { tmps := cargs ++ Array.replicate (fn.ntmps - cargs.size) undef, defers := [] } w := by
  refine ⟨fun t => ?_, fun b => rfl, fun b b' hl => (by cases hl), fun b _ => rfl, hlen.symm, NoD.nil _ _, Below.refl _ _, Nat.le_refl _, Nat.le_refl _, hgl⟩
  by_cases ht : t < args.length
  ·have e1 : (args.map DE.v ++ List.replicate (fn.ntmps - args.length) (DE.c undef)).getD t .any = .v (args.getD t default) := by
    rw [List.getD_eq_getElem?_getD, List.getElem?_append_left (by simpa using ht), List.getElem?_map, List.getElem?_eq_getElem ht, List.getD_eq_getElem?_getD, List.getElem?_eq_getElem ht]; rfl
   have e2 : (cargs ++ Array.replicate (fn.ntmps - cargs.size) undef).getD t undef = cargs.getD t undef := by
    rw [Array.getD_eq_getD_getElem?, Array.getElem?_append, if_pos (by omega), ← Array.getD_eq_getD_getElem?]
   show RD _ _ _ _ _ ((args.map DE.v ++ List.replicate (fn.ntmps - args.length) (DE.c undef)).getD t .any) ((cargs ++ Array.replicate (fn.ntmps - cargs.size) undef).getD t undef)
   rw [e1, e2]
   exact .v _ _ ((hargs t ht).mono fun g hg hlt => ⟨⟨fun _ => hg, fun b hl => by cases hl⟩, rfl⟩)
  ·by_cases ht2 : t < fn.ntmps
   ·have e1 : (args.map DE.v ++ List.replicate (fn.ntmps - args.length) (DE.c undef)).getD t .any = .c undef := by
     rw [List.getD_eq_getElem?_getD, List.getElem?_append_right (by simpa using ht), List.getElem?_replicate]
     rw [if_pos (by simp; omega)]; rfl
    have e2 : (cargs ++ Array.replicate (fn.ntmps - cargs.size) undef).getD t undef = undef := by
     rw [Array.getD_eq_getD_getElem?, Array.getElem?_append, if_neg (by omega), Array.getElem?_replicate]
     split <;> rfl
    show RD _ _ _ _ _ ((args.map DE.v ++ List.replicate (fn.ntmps - args.length) (DE.c undef)).getD t .any) ((cargs ++ Array.replicate (fn.ntmps - cargs.size) undef).getD t undef)
    rw [e1, e2]; exact .c _
   ·have e1 : (args.map DE.v ++ List.replicate (fn.ntmps - args.length) (DE.c undef)).getD t .any = .any := by
     rw [List.getD_eq_getElem?_getD, List.getElem?_eq_none (by simp; omega)]; rfl
    show RD _ _ _ _ _ ((args.map DE.v ++ List.replicate (fn.ntmps - args.length) (DE.c undef)).getD t .any) _
    rw [e1]; exact .any _
 refine runC_sound hm hinl hfr c _ _ _ _ w _ h h0 fun e σ' ρ' a' w' hk h' => ?_
 obtain ⟨Ds, hD1, hD2, hD3, h'⟩ := HR.unmark h'
 split at hk
 ·rename_i hex
  split at hk
  ·rename_i d hd
   split at hk
   ·rename_i x obs hout
    split at hk
    ·rename_i hck
     rw [Bool.and_eq_true] at hck
     have hnd : (rowIds d sh).Nodup := of_decide_eq_true hck.1
     obtain ⟨hobs, hxr⟩ := obsF_iff hk
     have hxr : x = r := hxr
     subst hxr
     obtain ⟨v, hv1, hv2⟩ := resultD_ok h' hd
     have hp : Below w.heap.size w (turned Ds w') ∧ RS2 (turned Ds w') (okNew ok w.heap.size v sh) w.heap.size x v sh ∧ RowsApart v sh ∧ w.drawn ≤ (turned Ds w').drawn := by
      refine ⟨h'.bel, out2_ok h' (fun g hg => ?_) hv2 hout hobs, ?_, h'.drw⟩
      ·rcases Nat.lt_or_ge g w.heap.size with q | q
       ·exact .inl (hg.1 q)
       ·refine .inr ⟨q, ?_⟩
        rintro ⟨j, i, hr, he⟩
        rcases out2_row h' hv2 hout hobs hr with z | ⟨b, n, _, hl, z⟩
        ·rw [z] at he; cases he
        ·rw [z] at he; exact hg.2 b hl he
      ·intro j i j' i' hr hr' hne g hg hg'
       rcases out2_row h' hv2 hout hobs hr with z | ⟨b, n, hd1, hl, z⟩
       ·rw [z] at hg; cases hg
       ·rcases out2_row h' hv2 hout hobs hr' with z' | ⟨b', n', hd1', hl', z'⟩
        ·rw [z'] at hg'; cases hg'
        ·rw [z] at hg
         rw [z'] at hg'
         have hbb : b = b' := Classical.byContradiction fun q => h'.inj b b' hl hl' q g hg hg'
         subst hbb
         have hlt : ∀ j i, isRow (leafSh j i sh) = true → j < 8 ∧ i < 8 := fun j i hr => by
          cases hk : leafSh j i sh with
          | row e s f => exact small_leaf hck.2 hk
          | _ => rw [hk] at hr; cases hr
         have r1 : rowId d sh (j, i) = some b := by unfold rowId; simp only [hr, if_true, hd1]
         have r2 : rowId d sh (j', i') = some b := by unfold rowId; simp only [hr', if_true, hd1']
         have := filterMap_inj hnd (paths_mem (hlt j i hr).1 (hlt j i hr).2) (paths_mem (hlt j' i' hr').1 (hlt j' i' hr').2) r1 r2 paths_nodup
         injection this with q1 q2
         rcases hne with q | q
         ·exact q q1
         ·exact q q2
     cases e with
     | normal => exact ⟨Ds, hD1, hD2, hD3, v, hv1, v, rfl, hp⟩
     | ret => exact ⟨Ds, hD1, hD2, hD3, v, hv1, v, rfl, hp⟩
     | exit i => cases hex
     | goto i => cases hex
     | panic i => cases hex
     | outgrown => cases hex
    ·exact hk.elim
   ·exact hk.elim
  ·exact hk.elim
 ·exact hk.elim
end
end Go.Proofs.YtcifjnhpgblnkaaGreatDoor
namespace Go.Proofs.YtcifjnhpgblnkaaGreatDoor
open Go.RowKit
set_option linter.unusedVariables false
set_option linter.unusedSimpArgs false
theorem updB_one (blk : Nat → DB) (b : Nat) (d : DB) : updB blk [(b, d)] b = d := by simp [updB]
theorem updB_ne (blk : Nat → DB) (b : Nat) (d : DB) {c : Nat} (h : c ≠ b) : updB blk [(b, d)] c = blk c := updB_of_not (by simp [h])
section
variable {base : Nat} {w0 : World} {ok0 : Nat → Prop} {ρ : Nat → Value} {a : Act} {w : World}
theorem sv_add {σ : DS} {ds : List DE} {vs : Array Value} (h : HS base w0 ok0 σ ρ a w) (hsz : vs.size = ds.length) (hrd : ∀ t, RD w (okF base ok0 σ.blk ρ) ρ σ.blk (fun n => n < σ.clk) (ds.getD t .any) (vs.getD t undef)) :
  HS base w0 ok0 ⟨σ.tm, (σ.clk, .sv ds vs) :: σ.bl, σ.clk + 64, σ.orc⟩ ρ a w := by
 have hdead : σ.blk σ.clk = .dead := h.frs σ.clk (fun q => Nat.lt_irrefl _ q)
 have hund : ρ σ.clk = undef := by have := h.blks σ.clk; rw [hdead] at this; exact this
 have hb1 : (DS.mk σ.tm ((σ.clk, .sv ds vs) :: σ.bl) (σ.clk + 64) σ.orc).blk = updB σ.blk [(σ.clk, .sv ds vs)] := blk_app σ [(σ.clk, .sv ds vs)] _ _ _
 show HR base w0 ok0 (fun n => n < σ.clk + 64) σ.tm (DS.mk σ.tm ((σ.clk, .sv ds vs) :: σ.bl) (σ.clk + 64) σ.orc).blk ρ a w
 rw [hb1]
 refine HR.step h (fun b => b = σ.clk) (fun b hc => updB_ne _ _ _ hc) (fun b _ => rfl) (fun b t cs _ _ => rfl) (fun b n x hc e => by rw [hc, hdead] at e; cases e)
  (fun n hn => by have : n < σ.clk := hn; show n < σ.clk + 64; omega) (fun b hc => by show b < σ.clk + 64; rw [hc]; omega) (fun b n hc _ hst => by rw [hc, updB_one] at hst; cases hst) (Nat.le_refl _) (fun _ _ _ => rfl)
  (fun b hc hl => by rw [hc, updB_one] at hl; cases hl) (fun b b' hc _ hl => by rw [hc, updB_one] at hl; cases hl) rfl rfl rfl (fun H1 H5 b hc => ?_) (fun H1 t => .inl ⟨rfl, rfl⟩) h.size rfl
 rw [hc, updB_one]
 exact ⟨hund, hsz, fun t => H5 _ _ (hrd t)⟩
theorem sv_swap {σ1 σ2 : DS} {b0 : Nat} (htm : σ2.tm = σ1.tm) (hclk : σ2.clk = σ1.clk) (hne : ∀ b, b ≠ b0 → σ2.blk b = σ1.blk b) {ds1 ds2 : List DE} {vs1 vs2 : Array Value} (h1 : σ1.blk b0 = .sv ds1 vs1) (h2 : σ2.blk b0 = .sv ds2 vs2) (hsz : vs2.size = ds2.length)
  (h : HS base w0 ok0 σ1 ρ a w) (hrd : ∀ t, RD w (okF base ok0 σ1.blk ρ) ρ σ1.blk (fun n => n < σ1.clk) (ds2.getD t .any) (vs2.getD t undef)) : HS base w0 ok0 σ2 ρ a w := by
 show HR base w0 ok0 (fun n => n < σ2.clk) σ2.tm σ2.blk ρ a w
 rw [htm, hclk]
 refine HR.step h (fun b => b = b0) (fun b hc => hne b hc) (fun b _ => rfl) (fun b t cs _ _ => rfl) (fun b n x hc e => by rw [hc, h1] at e; cases e)
  (fun n hn => hn) (fun b hc => Classical.byContradiction fun q => by have := h.frs b q; rw [hc, h1] at this; cases this) (fun b n hc _ hst => by rw [hc, h2] at hst; cases hst) (Nat.le_refl _) (fun _ _ _ => rfl)
  (fun b hc hl => by rw [hc, h2] at hl; cases hl) (fun b b' hc _ hl => by rw [hc, h2] at hl; cases hl) rfl rfl rfl (fun H1 H5 b hc => ?_) (fun H1 t => .inl ⟨rfl, rfl⟩) h.size rfl
 have hB := h.blks b0
 rw [h1] at hB
 rw [hc, h2]
 exact ⟨hB.1, hsz, fun t => H5 _ _ (hrd t)⟩
theorem sv_kill {σ : DS} {b0 : Nat} {ds : List DE} {vs : Array Value} (h1 : σ.blk b0 = .sv ds vs) (h : HS base w0 ok0 σ ρ a w) : HS base w0 ok0 ⟨σ.tm, (b0, .dead) :: σ.bl, σ.clk, σ.orc⟩ ρ a w := by
 have hb1 : (DS.mk σ.tm ((b0, .dead) :: σ.bl) σ.clk σ.orc).blk = updB σ.blk [(b0, .dead)] := blk_app σ [(b0, .dead)] _ _ _
 show HR base w0 ok0 (fun n => n < σ.clk) σ.tm (DS.mk σ.tm ((b0, .dead) :: σ.bl) σ.clk σ.orc).blk ρ a w
 rw [hb1]
 refine HR.step h (fun b => b = b0) (fun b hc => updB_ne _ _ _ hc) (fun b _ => rfl) (fun b t cs _ _ => rfl) (fun b n x hc e => by rw [hc, h1] at e; cases e)
  (fun n hn => hn) (fun b hc => Classical.byContradiction fun q => by have := h.frs b q; rw [hc, h1] at this; cases this) (fun b n hc _ hst => by rw [hc, updB_one] at hst; cases hst) (Nat.le_refl _) (fun _ _ _ => rfl)
  (fun b hc hl => by rw [hc, updB_one] at hl; cases hl) (fun b b' hc _ hl => by rw [hc, updB_one] at hl; cases hl) rfl rfl rfl (fun H1 H5 b hc => ?_) (fun H1 t => .inl ⟨rfl, rfl⟩) h.size rfl
 have hB := h.blks b0
 rw [h1] at hB
 rw [hc, updB_one]
 exact hB.1
theorem rowify_sv {b : Nat} {ds : List DE} {vs : Array Value} : ∀ (l : List (Nat × Nat × TypeId × Nat)) {σ : DS} {ρ : Nat → Value}, HS base w0 ok0 σ ρ a w → σ.blk b = .sv ds vs → (rowify l σ).blk b = .sv ds vs
 | [], _, _, _, hb => hb
 | q :: l, σ, ρ, h, hb => by
  obtain ⟨ρ1, h1⟩ := rowify1_ok q h
  refine rowify_sv l h1 ?_
  unfold rowify1
  split
  ·rename_i t cs hq
   split
   ·have hdead : σ.blk σ.clk = .dead := h.frs σ.clk (fun q => Nat.lt_irrefl _ q)
    have e1 : b ≠ q.1 := fun e => by rw [e, hq] at hb; cases hb
    have e2 : b ≠ σ.clk := fun e => by rw [e, hdead] at hb; cases hb
    have : ∀ (l : List (Nat × DB)) (c : Nat) (o : Orc), (DS.mk σ.tm ((q.1, .cells t (cs.set q.2.1 (.row σ.clk σ.clk))) :: (σ.clk, .row q.2.2.1 q.2.2.2 σ.clk (AV.mk q.2.2.2 [])) :: σ.bl) c o).blk b = σ.blk b := fun _ c o => by
     have := blk_app σ [(q.1, .cells t (cs.set q.2.1 (.row σ.clk σ.clk))), (σ.clk, .row q.2.2.1 q.2.2.2 σ.clk (AV.mk q.2.2.2 []))] σ.tm c o
     have e3 := congrFun this b
     rw [updB_cons, updB_cons, if_neg e1, if_neg e2] at e3
     exact e3
    exact (this [] _ _).trans hb
   ·exact hb
  ·exact hb
theorem frzCell1_ok (q : Nat × Nat) {σ : DS} (h : HS base w0 ok0 σ ρ a w) : HS base w0 ok0 (frzCell1 σ q) ρ a w := by
 have key : ∀ (σ : DS) (t : TypeId) (cs : List DE) (b n : Nat) (x : AV), HS base w0 ok0 σ ρ a w → σ.blk q.1 = .cells t cs → cs.getD q.2 .any = .row b n → σ.blk b = .fz n x → HS base w0 ok0 { σ with bl := (q.1, .cells t (cs.set q.2 (.v x))) :: σ.bl } ρ a w := fun σ t cs b n x h hb hc hf => by
  have ho : q.2 < cs.length := Classical.byContradiction fun g => by
   rw [List.getD_eq_getElem?_getD, List.getElem?_eq_none (by omega)] at hc
   cases hc
  have hb1 : (DS.mk σ.tm ((q.1, .cells t (cs.set q.2 (.v x))) :: σ.bl) σ.clk σ.orc).blk = updB σ.blk [(q.1, .cells t (cs.set q.2 (.v x)))] := blk_app σ [(q.1, .cells t (cs.set q.2 (.v x)))] _ _ _
  show HR base w0 ok0 (fun n => n < σ.clk) σ.tm (DS.mk σ.tm ((q.1, .cells t (cs.set q.2 (.v x))) :: σ.bl) σ.clk σ.orc).blk ρ a w
  rw [hb1]
  refine HR.step h (fun b => b = q.1) (fun b hc => updB_ne _ _ _ hc) (fun b _ => rfl) (fun b t cs _ _ => rfl) (fun b n x hc e => by rw [hc, hb] at e; cases e)
   (fun n hn => hn) (fun c hc => Classical.byContradiction fun q => by have := h.frs c q; rw [hc, hb] at this; cases this) (fun b n hc _ hst => by rw [hc, updB_one] at hst; cases hst) (Nat.le_refl _) (fun _ _ _ => rfl)
   (fun c hc hl g hg => .inl ⟨by rw [hc, hb]; rfl, hg⟩) (fun c c' hc hc' _ _ hne => absurd (hc.trans hc'.symm) hne) rfl rfl rfl (fun H1 H5 c hc' => ?_) (fun H1 t => .inl ⟨rfl, rfl⟩) h.size rfl
  have hB := h.blks q.1
  rw [hb] at hB
  obtain ⟨g, vs, e1, e2, e3, e4, e5, e6⟩ := hB
  rw [hc', updB_one]
  refine ⟨g, vs, e1, e2, e3, by rw [List.length_set]; exact e4, fun i hi => e5 i (by rw [List.length_set] at hi; exact hi), fun i hi => ?_⟩
  have hi' : i < cs.length := by rw [List.length_set] at hi; exact hi
  by_cases hio : i = q.2
  ·subst hio
   have hv := e6 _ hi'
   rw [hc] at hv
   have e7 : (cs.set q.2 (.v x)).getD q.2 .any = .v x := by
    rw [List.getD_eq_getElem?_getD, List.getElem?_set_self ho]; rfl
   rw [e7]
   refine H5 _ _ ?_
   have hF := h.blks b
   rw [hf] at hF
   generalize vs.getD q.2 undef = u at hv
   cases hv with
   | row _ _ _ hn h1 hs =>
    rw [hs (by rw [hf]; rfl)]
    exact .v _ _ hF.2.1
  ·have e7 : (cs.set q.2 (.v x)).getD i .any = cs.getD i .any := by
    rw [List.getD_eq_getElem?_getD, List.getElem?_set_ne (Ne.symm hio), List.getD_eq_getElem?_getD]
   rw [e7]
   exact H5 _ _ (e6 i hi')
 unfold frzCell1
 split
 ·rename_i t cs hb
  split
  ·rename_i b n hc
   split
   ·rename_i e s m x hr
    split
    ·rename_i hmn
     obtain ⟨rfl, hne⟩ := hmn
     have hf := HR.freeze (fview_ok σ) h [b]
     have e1 : σ.fview.frz [b] = [(b, .fz m x)] := by
      have hb' : σ.fview.bl b = .row e s m x := hr
      simp [View.frz, hb']
     rw [e1] at hf
     have hbk : (DS.mk σ.tm ((b, .fz m x) :: σ.bl) σ.clk σ.orc).blk = updB σ.blk [(b, .fz m x)] := blk_app σ [(b, .fz m x)] _ _ _
     have h1 : HS base w0 ok0 (DS.mk σ.tm ((b, .fz m x) :: σ.bl) σ.clk σ.orc) ρ a w := by
      show HR base w0 ok0 (fun n => n < σ.clk) σ.tm (DS.mk σ.tm ((b, .fz m x) :: σ.bl) σ.clk σ.orc).blk ρ a w
      rw [hbk]; exact hf
     exact key _ t cs b m x h1 (by rw [hbk, updB_ne _ _ _ (Ne.symm hne)]; exact hb) hc (by rw [hbk, updB_one])
    ·exact h
   ·rename_i m x hr
    split
    ·rename_i hmn
     subst hmn
     exact key σ t cs b m x h hb hc hr
    ·exact h
   ·exact h
  ·exact h
 ·exact h
theorem frzCells_ok : ∀ (l : List (Nat × Nat)) {σ : DS}, HS base w0 ok0 σ ρ a w → HS base w0 ok0 (frzCells l σ) ρ a w
 | [], _, h => h
 | q :: l, _, h => frzCells_ok l (frzCell1_ok q h)
theorem frzCell1_fr (σ : DS) (q : Nat × Nat) : FrB σ (frzCell1 σ q) ∧ (frzCell1 σ q).tm = σ.tm := by
 unfold frzCell1
 split
 ·split
  ·split
   ·split
    ·exact ⟨⟨⟨[_, _], rfl⟩, rfl, Nat.le_refl _⟩, rfl⟩
    ·exact ⟨FrB.refl σ, rfl⟩
   ·split
    ·exact ⟨⟨⟨[_], rfl⟩, rfl, Nat.le_refl _⟩, rfl⟩
    ·exact ⟨FrB.refl σ, rfl⟩
   ·exact ⟨FrB.refl σ, rfl⟩
  ·exact ⟨FrB.refl σ, rfl⟩
 ·exact ⟨FrB.refl σ, rfl⟩
theorem frzCells_fr : ∀ (l : List (Nat × Nat)) (σ : DS), FrB σ (frzCells l σ) ∧ (frzCells l σ).tm = σ.tm
 | [], σ => ⟨FrB.refl σ, rfl⟩
 | q :: l, σ => by
  obtain ⟨h1, h2⟩ := frzCell1_fr σ q
  obtain ⟨h3, h4⟩ := frzCells_fr l (frzCell1 σ q)
  exact ⟨h1.trans h3, h4.trans h2⟩
theorem vis_tm (E : LoopEx) (σ : DS) (ys : List AV) : ((visAnn E).head σ ys).tm = σ.tm := by
 apply List.ext_getElem?
 intro t
 simp only [LoopAnn.head, List.getElem?_map, List.getElem?_zipIdx]
 cases h : σ.tm[t]? with
 | none => rfl
 | some d => simp [LoopAnn.tm, visAnn]
theorem vis_blk (E : LoopEx) (σr : DS) (Y : AV) (vs : Array Value) (ys : List AV) : ((visAnn E).head (visY σr Y vs) ys).blk σr.clk = .sv [.v Y] vs ∧
  ∀ b, b ≠ σr.clk → ((visAnn E).head (visY σr Y vs) ys).blk b = if b ∈ (visAnn E).touched then (visAnn E).blkOf ys b (σr.blk b) else σr.blk b := by
 have e : (visY σr Y vs).blk = updB σr.blk [(σr.clk, .sv [.v Y] vs)] := blk_app σr [(σr.clk, .sv [.v Y] vs)] _ _ _
 refine ⟨?_, fun b hb => ?_⟩
 ·rw [head_blk, e, updB_one]
  split <;> rfl
 ·rw [head_blk, e, updB_ne _ _ _ hb]
theorem okF_eq {blk blk' : Nat → DB} {b0 : Nat} (hne : ∀ b, b ≠ b0 → blk' b = blk b) (h1 : isLive (blk b0) = false) (h2 : isLive (blk' b0) = false) {g : Nat} (h : okF base ok0 blk ρ g) : okF base ok0 blk' ρ g :=
  ⟨h.1, fun b hl => by
    by_cases hb : b = b0
    · rw [hb, h2] at hl; cases hl
    · rw [hne b hb] at hl; exact h.2 b hl⟩
end
section
variable {P : Program} {inl : Inl}
theorem visEnts_iff : ∀ (l : List DE) (F : Prop), visEnts P l F ↔ (∀ vf caps, DE.fn vf caps ∈ l → Ent P vf) ∧ F
 | [], F => ⟨fun h => ⟨fun _ _ q => (by cases q), h⟩, fun h => h.2⟩
 | d :: l, F => by
  have ih := visEnts_iff l F
  cases d with
  | fn vf caps =>
   refine ⟨fun h => ⟨fun vf' caps' q => ?_, (ih.1 h.2).2⟩, fun h => ⟨h.1 vf caps (List.mem_cons_self ..), ih.2 ⟨fun vf' caps' q => h.1 vf' caps' (List.mem_cons_of_mem _ q), h.2⟩⟩⟩
   rcases List.mem_cons.1 q with e | q
   ·injection e with e _; rw [e]; exact h.1
   ·exact (ih.1 h.2).1 vf' caps' q
  | _ =>
   refine ⟨fun h => ⟨fun vf' caps' q => ?_, (ih.1 h).2⟩, fun h => ih.2 ⟨fun vf' caps' q => h.1 vf' caps' (List.mem_cons_of_mem _ q), h.2⟩⟩
   rcases List.mem_cons.1 q with e | q
   ·cases e
   ·exact (ih.1 h).1 vf' caps' q
theorem vis_frB (E : LoopEx) (args : List DE) (us : Array Value) (σ : DS) (Y : AV) (vs : Array Value) (ys : List AV) : FrB σ ((visAnn E).head (visY (rowify E.nils ⟨σ.tm, (σ.clk, .sv args us) :: σ.bl, σ.clk + 64, σ.orc⟩) Y vs) ys) := by
 have h1 : FrB σ ⟨σ.tm, (σ.clk, .sv args us) :: σ.bl, σ.clk + 64, σ.orc⟩ := ⟨⟨[_], rfl⟩, rfl, Nat.le_add_right _ _⟩
 have h2 := (rowify_fr E.nils ⟨σ.tm, (σ.clk, .sv args us) :: σ.bl, σ.clk + 64, σ.orc⟩).1
 generalize rowify E.nils ⟨σ.tm, (σ.clk, .sv args us) :: σ.bl, σ.clk + 64, σ.orc⟩ = σr at *
 have h3 : FrB σr (visY σr Y vs) := ⟨⟨[_], rfl⟩, rfl, Nat.le_add_right _ _⟩
 exact ((h1.trans h2).trans h3).trans (head_frB _ _ _)
theorem visF_fr (E : LoopEx) (rs : List Nat) (f : FuncId) (args : List DE) (σ : DS) (K K' : DE → DS → Prop) (h : visF P E inl rs f args σ K) (hK : ∀ d σ', K d σ' → FrB σ σ' → σ'.tm = σ.tm → K' d σ') : visF P E inl rs f args σ K' := by
 intro us
 have h := h us
 have hfb := fun ys => vis_frB E args us σ (.lit undef) #[undef] ys
 simp only at h ⊢
 generalize rowify E.nils ⟨σ.tm, (σ.clk, .sv args us) :: σ.bl, σ.clk + 64, σ.orc⟩ = σr at *
 split at h
 ·rename_i ys0 hys
  split at h
  ·rename_i xs hxs
   split at h
   ·rename_i hck
    obtain ⟨hen, evs, hvi, Inv, h0, hb, hk⟩ := (visEnts_iff _ _).1 h
    simp only [hxs, hck, if_true]
    refine (visEnts_iff _ _).2 ⟨hen, evs, hvi, Inv, h0, hb, fun ys e1 e2 => hK _ _ (hk ys e1 e2) ?_ rfl⟩
    obtain ⟨⟨pre, h1⟩, h2, h3⟩ := hfb ys
    exact ⟨⟨(σ.clk, .dead) :: (σr.clk, .dead) :: pre, by simp [h1]⟩, rfl, h3⟩
   ·exact h.elim
  ·exact h.elim
 ·exact h.elim
variable {base : Nat} {w0 : World} {ok0 : Nat → Prop} {ρ : Nat → Value} {a : Act} {w : World}
theorem visF_ok (hinl : InlOk P inl) (hfr : InlFr inl) (E : LoopEx) (rs : List Nat) (f : FuncId) (args : List DE) (σ : DS) (K : DE → DS → Prop) (cargs : Array Value) (hent : Ent P f) (h : visF P E inl rs f args σ K) (hs : HS base w0 ok0 σ ρ a w) (hsz : cargs.size = args.length)
  (hargs : ∀ i, i < args.length → RD w (okF base ok0 σ.blk ρ) ρ σ.blk (fun n => n < σ.clk) (args.getD i .any) (cargs.getD i undef)) :
  Calls P f cargs w fun e w' => ∃ v, e = .returned v ∧ ∃ d σ' ρ', K d σ' ∧ HS base w0 ok0 σ' ρ' a w' ∧ RD w' (okF base ok0 σ'.blk ρ') ρ' σ'.blk (fun n => n < σ'.clk) d v := by
 have h := h cargs
 have hfb := fun ys => vis_frB E args cargs σ (.lit undef) #[undef] ys
 simp only at h
 have hsa := sv_add (ds := args) (vs := cargs) hs hsz (fun t => by
  by_cases ht : t < args.length
  ·exact hargs t ht
  ·rw [List.getD_eq_getElem?_getD, List.getElem?_eq_none (by omega)]
   exact .any _)
 have hba : (DS.mk σ.tm ((σ.clk, .sv args cargs) :: σ.bl) (σ.clk + 64) σ.orc).blk σ.clk = .sv args cargs := (congrFun (blk_app σ [(σ.clk, .sv args cargs)] σ.tm (σ.clk + 64) σ.orc) σ.clk).trans (updB_one _ _ _)
 obtain ⟨ρ1, hr⟩ := rowify_ok E.nils hsa
 have hsv := rowify_sv E.nils hsa hba
 obtain ⟨⟨_, _, hclk⟩, htr⟩ := rowify_fr E.nils ⟨σ.tm, (σ.clk, .sv args cargs) :: σ.bl, σ.clk + 64, σ.orc⟩
 have hclk : σ.clk + 64 ≤ (rowify E.nils ⟨σ.tm, (σ.clk, .sv args cargs) :: σ.bl, σ.clk + 64, σ.orc⟩).clk := hclk
 have htr : (rowify E.nils ⟨σ.tm, (σ.clk, .sv args cargs) :: σ.bl, σ.clk + 64, σ.orc⟩).tm = σ.tm := htr
 clear hba
 generalize rowify E.nils ⟨σ.tm, (σ.clk, .sv args cargs) :: σ.bl, σ.clk + 64, σ.orc⟩ = σr at *
 have rdY : ∀ {okf : Nat → Prop} {ρ : Nat → Value} {blk : Nat → DB} {isd : Nat → Prop} {w : World} (Y : AV) (u : Value), RV w okf Y u → ∀ t, RD w okf ρ blk isd (([DE.v Y] : List DE).getD t .any) ((#[u] : Array Value).getD t undef) := fun Y u hv t => by
  cases t with
  | zero => exact .v _ _ hv
  | succ t => exact .any _
 split at h
 ·rename_i ys0 hys
  split at h
  ·rename_i xs hxs
   split at h
   ·rename_i hck
    simp only [Bool.and_eq_true, decide_eq_true_eq] at hck
    obtain ⟨⟨hck, hkl⟩, hfnall⟩ := hck
    obtain ⟨hen, evs, hvi, Inv, hI0, hIb, hIe⟩ := (visEnts_iff _ _).1 h
    obtain ⟨ρ2, h2⟩ := head_again hck (FrB.refl _) (FrT.refl _ _) hys (sv_add hr rfl (rdY (.lit undef) undef (.lit _)))
    have hne : σ.clk ≠ σr.clk := by omega
    have hbY : ∀ Y vs ys, ((visAnn E).head (visY σr Y vs) ys).blk σr.clk = .sv [.v Y] vs := fun Y vs ys => (vis_blk E σr Y vs ys).1
    have hbA : ∀ Y vs ys, ((visAnn E).head (visY σr Y vs) ys).blk σ.clk = .sv args cargs := fun Y vs ys => by
     rw [(vis_blk E σr Y vs ys).2 _ hne, hsv]
     split <;> rfl
    have hbN : ∀ Y vs Y' vs' ys b, b ≠ σr.clk → ((visAnn E).head (visY σr Y' vs') ys).blk b = ((visAnn E).head (visY σr Y vs) ys).blk b := fun Y vs Y' vs' ys b hb => by
     rw [(vis_blk E σr Y vs ys).2 _ hb, (vis_blk E σr Y' vs' ys).2 _ hb]
    have htm : ∀ Y vs ys, ((visAnn E).head (visY σr Y vs) ys).tm = σ.tm := fun Y vs ys => (vis_tm E _ ys).trans htr
    obtain ⟨m, hm⟩ : ∃ m, m = args.length - rs.length := ⟨_, rfl⟩
    rw [← hm] at hxs hfnall hIb hen
    have hcl : ∀ i, i < rs.length → ∃ (vf : FuncId) (vs : Array Value) (caps : List DE), args.getD (m + i) .any = .fn vf caps ∧ cargs.getD (m + i) undef = .func (.func vf) #[] vs ∧ vs.size = caps.length := fun i hi => by
     have h1 : isFnD (args.getD (m + i) .any) = true := by
      refine List.all_eq_true.1 hfnall _ ?_
      have : (args.drop m)[i]? = some (args.getD (m + i) .any) := by
       rw [List.getElem?_drop, List.getD_eq_getElem?_getD, List.getElem?_eq_getElem (by omega)]; rfl
      exact List.mem_of_getElem? this
     have h3 := hargs (m + i) (by omega)
     generalize args.getD (m + i) .any = d at h1 h3
     generalize cargs.getD (m + i) undef = u at h3
     cases h3 with
     | fn vf caps vs hl _ => exact ⟨vf, vs, caps, rfl, rfl, hl⟩
     | _ => cases h1
    have hF : ∃ F : Nat → FuncId × Array Value, ∀ i, i < rs.length → ∃ caps, args.getD (m + i) .any = .fn (F i).1 caps ∧ cargs.getD (m + i) undef = .func (.func (F i).1) #[] (F i).2 ∧ (F i).2.size = caps.length := by
     refine ⟨fun i => if hi : i < rs.length then ((hcl i hi).choose, (hcl i hi).choose_spec.choose) else (0, #[]), fun i hi => ?_⟩
     simp only [dif_pos hi]
     exact (hcl i hi).choose_spec.choose_spec
    obtain ⟨F, hF⟩ := hF
    have hcargs : cargs = cargs.extract 0 m ++ (((List.range rs.length).map F).map fun q => Value.func (.func q.1) #[] q.2).toArray := by
     apply Array.ext_getElem?
     intro i
     rw [Array.getElem?_append]
     have hes : (cargs.extract 0 m).size = m := by simp; omega
     rw [hes]
     by_cases hi : i < m
     ·rw [if_pos hi, Array.getElem?_extract]
      simp; omega
     ·rw [if_neg hi]
      by_cases hi2 : i - m < rs.length
      ·obtain ⟨_, _, q2, _⟩ := hF (i - m) hi2
       have e : m + (i - m) = i := by omega
       rw [e, Array.getD_eq_getD_getElem?, Array.getElem?_eq_getElem (by omega)] at q2
       rw [Array.getElem?_eq_getElem (by omega)]
       simp only [List.getElem?_toArray, List.getElem?_map, List.getElem?_range hi2, Option.map_some]
       exact congrArg some q2
      ·rw [Array.getElem?_eq_none (show cargs.size ≤ i by omega)]
       exact (Array.getElem?_eq_none (by simp; omega)).symm
    rw [hcargs]
    refine (hvi.2.2 ((List.range rs.length).map F) (fun pre o A => ∃ ys ρ, ys.length = ys0.length ∧ Inv pre ys ∧ HS base w0 ok0 ((visAnn E).head (visY σr (.lit undef) #[undef]) ys) ρ a A ∧ o = fun g => okR (okF base ok0 ((visAnn E).head (visY σr (.lit undef) #[undef]) ys).blk ρ) ρ [] g ∧ g < A.heap.size) w _ (cargs.extract 0 m) (by simp) (fun q hq => ?_) ?_ ?_ ?_ ?_ ⟨ys0, ρ2, rfl, hI0, h2, rfl⟩).mono ?_
    ·obtain ⟨i, hi, rfl⟩ := List.mem_map.1 hq
     have hi := List.mem_range.1 hi
     obtain ⟨caps, hc1, _⟩ := hF i hi
     refine hen _ caps ?_
     have : (args.drop m)[i]? = some (.fn (F i).1 caps) := by
      rw [List.getElem?_drop, ← hc1, List.getD_eq_getElem?_getD, List.getElem?_eq_getElem (by omega)]; rfl
     exact List.mem_of_getElem? this
    ·rintro s o A C ⟨ys, ρ, e1, e2, e3, rfl⟩ hbe hdr
     have hko : KeepsOthers A C := ⟨hbe.size, fun k o hk _ => (hbe.block k (Array.getElem?_eq_some_iff.1 hk).1).trans hk⟩
     have hlow := e3.low
     refine ⟨_, ⟨ys, ρ, e1, e2, HR.conv e3 (Kc.below hbe) e3.gl (e3.bel.trans (hbe.mono e3.low)) (e3.nod.trans hko) (Nat.le_trans e3.drw hdr), rfl⟩, fun g hg => ⟨hg.1, Nat.lt_of_lt_of_le hg.2 hbe.size⟩, fun g h1 h2 => ⟨.inl ⟨fun q => by omega, fun b hl e => ?_⟩, h2⟩⟩
     have := (e3.live_lt hl e).2
     omega
    ·rintro s o A ⟨ys, ρ, e1, e2, e3, rfl⟩
     exact ⟨fun g hg => hg.2, e3.glob []⟩
    ·rintro pre p rest o A vs Y u hxr ⟨ys, ρ, e1, e2, e3, rfl⟩ hvs hYu
     have hpm : p ∈ evs := by rw [hxr]; simp
     obtain ⟨hp1, hp2⟩ := hvi.2.1 p hpm
     have hb := hIb pre p rest ys hxr e1 e2
     have hbd : (rs.zipIdx.map fun p => visBody P E inl σr p.2 p.1 (args.getD (m + p.2) .any)).getD p.1 (fun _ _ _ => False) = visBody P E inl σr p.1 (rs.getD p.1 0) (args.getD (m + p.1) .any) := by
      rw [List.getD_eq_getElem?_getD, List.getElem?_map, List.getElem?_zipIdx, List.getElem?_eq_getElem hp1]
      simp [List.getD_eq_getElem?_getD, List.getElem?_eq_getElem hp1]
     rw [hbd] at hb
     obtain ⟨caps, hc1, hc2, hc3⟩ := hF p.1 hp1
     rw [hc1] at hb
     have hfi : ((List.range rs.length).map F).getD p.1 default = F p.1 := by
      rw [List.getD_eq_getElem?_getD, List.getElem?_map, List.getElem?_range hp1]; rfl
     rw [hfi]
     have hb2 := hb #[u] Y
     have hent' : Ent P (F p.1).1 := hen _ caps (by
      have : (args.drop m)[p.1]? = some (.fn (F p.1).1 caps) := by
       rw [List.getElem?_drop, ← hc1, List.getD_eq_getElem?_getD, List.getElem?_eq_getElem (by omega)]; rfl
      exact List.mem_of_getElem? this)
     clear hb hbd
     have hok : ∀ g, (okR (okF base ok0 ((visAnn E).head (visY σr (.lit undef) #[undef]) ys).blk ρ) ρ [] g ∧ g < A.heap.size) → okF base ok0 ((visAnn E).head (visY σr (.lit undef) #[undef]) ys).blk ρ g := fun g hg => by
      rcases hg.1 with q | ⟨b, q, _⟩
      ·exact q
      ·cases q
     have hsY : HS base w0 ok0 ((visAnn E).head (visY σr Y #[u]) ys) ρ a A := sv_swap (σ1 := (visAnn E).head (visY σr (.lit undef) #[undef]) ys) ((htm _ _ _).trans (htm _ _ _).symm) rfl (fun b hb => hbN _ _ _ _ _ b hb) (hbY _ _ _) (hbY _ _ _) rfl e3 (rdY Y u (hYu.mono fun g hg _ => ⟨hok g hg, rfl⟩))
     have hokY : ∀ g, okF base ok0 ((visAnn E).head (visY σr (.lit undef) #[undef]) ys).blk ρ g → okF base ok0 ((visAnn E).head (visY σr Y #[u]) ys).blk ρ g := fun g hg => okF_eq (fun b hb => hbN _ _ _ _ _ b hb) (by rw [hbY]; rfl) (by rw [hbY]; rfl) hg
     have hrdc := hsY.blks σ.clk
     rw [hbA] at hrdc
     have hrdc := hrdc.2.2 (m + p.1)
     rw [hc1, hc2] at hrdc
     have hrdcaps : ∀ i, i < caps.length → RD A (okF base ok0 ((visAnn E).head (visY σr Y #[u]) ys).blk ρ) ρ ((visAnn E).head (visY σr Y #[u]) ys).blk (fun n => n < ((visAnn E).head (visY σr Y #[u]) ys).clk) (caps.getD i .any) ((F p.1).2.getD i undef) := by
      generalize hFv : (F p.1).2 = fv at hrdc
      cases hrdc with
      | fn _ _ _ hl hc => exact hc
     have hvsz : vs.size = rs.getD p.1 0 := hvs.1.trans hp2
     refine (hinl base w0 ok0 (F p.1).1 _ _ _ ρ a A (vs ++ (F p.1).2) hent' (hfr _ _ _ _ _ hb2 (fun d σ' hk q1 q2 => (⟨hk, q1, q2⟩ : _ ∧ FrB _ σ' ∧ σ'.tm = _))) hsY (by simp [hvsz, hc3]) (fun i hi => ?_)).mono ?_
     ·rw [List.length_append, List.length_map, List.length_range] at hi
      by_cases hir : i < rs.getD p.1 0
      ·have e4 : ((List.range (rs.getD p.1 0)).map (fun j => DE.v (p.2.getD j default)) ++ caps).getD i .any = .v (p.2.getD i default) := by
        rw [List.getD_eq_getElem?_getD, List.getElem?_append_left (by simpa using hir), List.getElem?_map, List.getElem?_range hir]; rfl
       have e5 : (vs ++ (F p.1).2).getD i undef = vs.getD i undef := by
        rw [Array.getD_eq_getD_getElem?, Array.getElem?_append, if_pos (by omega), ← Array.getD_eq_getD_getElem?]
       rw [e4, e5]
       exact .v _ _ ((hvs.2 i (by omega)).mono fun g hg _ => ⟨hokY g (hok g hg), rfl⟩)
      ·have e4 : ((List.range (rs.getD p.1 0)).map (fun j => DE.v (p.2.getD j default)) ++ caps).getD i .any = caps.getD (i - rs.getD p.1 0) .any := by
        rw [List.getD_eq_getElem?_getD, List.getElem?_append_right (by rw [List.length_map, List.length_range]; omega), List.length_map, List.length_range, ← List.getD_eq_getElem?_getD]
       have e5 : (vs ++ (F p.1).2).getD i undef = (F p.1).2.getD (i - rs.getD p.1 0) undef := by
        rw [Array.getD_eq_getD_getElem?, Array.getElem?_append, if_neg (by omega), hvsz, ← Array.getD_eq_getD_getElem?]
       rw [e4, e5]
       exact hrdcaps _ (by omega)
     ·rintro e A' ⟨v, rfl, d, σ', ρ', ⟨hk', q1, q2⟩, h', _⟩
      refine ⟨⟨v, rfl⟩, ?_⟩
      split at hk'
      ·rename_i zs hz
       split at hk'
       ·rename_i hck2
        obtain ⟨f1, f2⟩ := frzCells_fr E.cells σ'
        have q1' : FrB ((visAnn E).head (visY σr Y #[u]) ys) σ' := ⟨q1.1, q1.2.1, q1.2.2⟩
        obtain ⟨ρ5, h5⟩ := head_again hck2 (q1'.trans f1) (fun t _ => .inl (by rw [f2, q2])) hz (frzCells_ok E.cells h')
        have h6 := head_head h5
        have h7 : HS base w0 ok0 ((visAnn E).head (visY σr (.lit undef) #[undef]) zs) ρ5 a A' := sv_swap (σ1 := (visAnn E).head (visY σr Y #[u]) zs) ((htm _ _ _).trans (htm _ _ _).symm) rfl (fun b hb => hbN _ _ _ _ _ b hb) (hbY _ _ _) (hbY _ _ _) rfl h6 (rdY (.lit undef) undef (.lit _))
        refine ⟨_, ⟨zs, ρ5, by rw [vals_len hz, vals_len hys], hk', h7, rfl⟩, ?_⟩
        have hB := h6.blks σr.clk
        rw [hbY] at hB
        have hB := hB.2.2 0
        have hB : RD A' (okF base ok0 ((visAnn E).head (visY σr Y #[u]) zs).blk ρ5) ρ5 ((visAnn E).head (visY σr Y #[u]) zs).blk _ (.v Y) u := hB
        cases hB with
        | v _ _ hv => exact hv.mono fun g hg hlt => ⟨⟨.inl (okF_eq (fun b hb => hbN _ _ _ _ _ b hb) (by rw [hbY]; rfl) (by rw [hbY]; rfl) hg), hlt⟩, rfl⟩
       ·exact hk'.elim
      ·exact hk'.elim
    ·obtain ⟨p1, p2⟩ := pls_get hxs
     have hml : (args.take m).length = m := by rw [List.length_take]; omega
     refine ⟨by rw [p1, hml]; simp; omega, fun i hi => ?_⟩
     rw [p1, hml] at hi
     obtain ⟨r', z1, z2⟩ := p2 i (by rw [hml]; exact hi)
     have e4 : (args.take m).getD i .any = args.getD i .any := by
      rw [List.getD_eq_getElem?_getD, List.getElem?_take_of_lt hi, ← List.getD_eq_getElem?_getD]
     have e5 : (cargs.extract 0 m).getD i undef = cargs.getD i undef := by
      rw [Array.getD_eq_getD_getElem?, Array.getElem?_extract, Array.getD_eq_getD_getElem?, if_pos (by omega), Nat.zero_add]
     rw [e4] at z1
     rw [e5]
     have hB := h2.blks σ.clk
     rw [hbA] at hB
     exact (pl_ok (fview_ok _) h2 (hB.2.2 i) z1 z2).mono fun g hg hlt => ⟨⟨hg, hlt⟩, rfl⟩
    ·rintro e w' ⟨rfl, o', ys, ρ3, e1, e2, e3, _⟩
     refine ⟨_, rfl, .tup [], _, ρ3, hIe ys e1 e2, ?_, .tup [] #[] rfl (fun i hi => by cases hi)⟩
     have k1 := sv_kill (hbY _ _ _) e3
     have k2 := sv_kill (b0 := σ.clk) (ds := args) (vs := cargs) (by
      exact ((congrFun (blk_app ((visAnn E).head (visY σr (.lit undef) #[undef]) ys) [(σr.clk, .dead)] _ _ _) σ.clk).trans (updB_ne _ _ _ hne)).trans (hbA _ _ _)) k1
     have k3 : HR base w0 ok0 _ _ _ ρ3 a w' := k2
     simp only [htm] at k3
     exact k3
   ·exact h.elim
  ·exact h.elim
 ·exact h.elim
end
end Go.Proofs.YtcifjnhpgblnkaaGreatDoor
namespace Go.Proofs.YtcifjnhpgblnkaaGreatDoor
open Go.RowKit
set_option linter.unusedVariables false
set_option linter.unusedSimpArgs false
section
variable {P : Program} {Γ : FuncId → Option Ca} {ann : FuncId → Nat → LoopEx}
theorem inF_fr : ∀ n, InlFr (inF P Γ ann n)
 | 0 => fun f args σ K K' h hK => h.elim
 | n + 1 => fun f args σ K K' h hK => by
  unfold inF at h ⊢
  by_cases hv : (ann f 999999).drop ≠ []
  ·rw [if_pos hv] at h ⊢
   exact visF_fr _ _ _ _ _ _ _ h hK
  rw [if_neg hv] at h ⊢
  simp only at h ⊢
  split at h
  ·exact h.elim
  ·rename_i fn hf
   split at h
   ·exact h.elim
   ·rename_i c hb
    intro vs
    refine runC_mono (inF_fr n) c _ _ _ (h vs) fun e σ' hk hfb _ _ => ?_
    split at hk
    ·rename_i hex
     rw [if_pos hex]
     split at hk
     ·rename_i d hd
      split at hk
      ·exact hk.elim
      ·rename_i hp
       rw [if_neg hp]
       refine hK _ _ hk ?_ rfl
       obtain ⟨⟨p, hp⟩, _, h3⟩ := hfb
       exact ⟨⟨(σ.clk, .dead) :: p ++ [(σ.clk, .sv σ.tm vs)], by simp [hp]⟩, rfl, by have h3' : σ.clk + 64 ≤ σ'.clk := h3; show σ.clk ≤ σ'.clk; omega⟩
     ·exact hk.elim
    ·exact hk.elim
theorem inF_ok (hm : P.follows .mixedOrders = true) : ∀ n, InlOk P (inF P Γ ann n)
 | 0 => fun base w0 ok0 f args σ K ρ a w cargs hent h _ _ _ => h.elim
 | n + 1 => fun base w0 ok0 f args σ K ρ a w cargs hent h hs hsz hargs => by
  unfold inF at h
  by_cases hv : (ann f 999999).drop ≠ []
  ·rw [if_pos hv] at h
   exact visF_ok (inF_ok hm n) (inF_fr n) _ _ f args σ K cargs hent h hs hsz hargs
  rw [if_neg hv] at h
  simp only at h
  split at h
  ·exact h.elim
  ·rename_i fn hf
   split at h
   ·exact h.elim
   ·rename_i c hb
    have hs0 := hs
    replace hs : HS base w ok0 σ ρ { tmps := a.tmps, defers := [] } w := HR.fresh hs
    refine calls_marks hf hb ?_
    have hdead : σ.blk σ.clk = .dead := hs.frs σ.clk (fun q => Nat.lt_irrefl _ q)
    have hund : ρ σ.clk = undef := by have := hs.blks σ.clk; rw [hdead] at this; exact this
    let σ1 : DS := ⟨args ++ List.replicate (fn.ntmps - args.length) (DE.c undef), (σ.clk, .sv σ.tm a.tmps) :: σ.bl, σ.clk + 64, σ.orc⟩
    have hb1 : σ1.blk = updB σ.blk [(σ.clk, .sv σ.tm a.tmps)] := blk_app σ [(σ.clk, .sv σ.tm a.tmps)] _ _ _
    have h0 : HS base w ok0 σ1 ρ { tmps := cargs ++ Array.replicate (fn.ntmps - cargs.size) undef, defers := [] } w := by
     show HR base w ok0 (fun n => n < σ.clk + 64) σ1.tm σ1.blk ρ _ w
     rw [hb1]
     refine HR.step hs (fun b => b = σ.clk) (fun b hc => updB_ne _ _ _ hc) (fun b _ => rfl) (fun b t cs _ _ => rfl) (fun b n x hc e => by rw [hc, hdead] at e; cases e)
      (fun n hn => by have : n < σ.clk := hn; show n < σ.clk + 64; omega) (fun b hc => by show b < σ.clk + 64; rw [hc]; omega) (fun b n hc _ hst => by rw [hc, updB_one] at hst; cases hst) (Nat.le_refl _) (fun _ _ _ => rfl)
      (fun b hc hl => by rw [hc, updB_one] at hl; cases hl) (fun b b' hc _ hl => by rw [hc, updB_one] at hl; cases hl) rfl rfl rfl (fun H1 H5 b hc => ?_) (fun H1 t => .inr ?_) (by simp [σ1, hsz]) rfl
     ·rw [hc, updB_one]
      exact ⟨hund, hs.size, fun t => H5 _ _ (hs.tms t)⟩
     ·by_cases ht : t < args.length
      ·have e1 : σ1.tm.getD t .any = args.getD t .any := by
        show (args ++ List.replicate (fn.ntmps - args.length) (DE.c undef)).getD t .any = _
        rw [List.getD_eq_getElem?_getD, List.getElem?_append_left ht, ← List.getD_eq_getElem?_getD]
       have e2 : (cargs ++ Array.replicate (fn.ntmps - cargs.size) undef).getD t undef = cargs.getD t undef := by
        rw [Array.getD_eq_getD_getElem?, Array.getElem?_append, if_pos (by omega), ← Array.getD_eq_getD_getElem?]
       rw [e1]
       show RD _ _ _ _ _ _ ((cargs ++ Array.replicate (fn.ntmps - cargs.size) undef).getD t undef)
       rw [e2]
       refine (hargs t ht).mono H1 (fun _ _ _ => rfl) (fun n hn => by have : n < σ.clk := hn; show n < σ.clk + 64; omega) fun b n hn hst => ?_
       by_cases hc : b = σ.clk
       ·rw [hc, updB_one] at hst; cases hst
       ·rw [updB_ne _ _ _ hc] at hst; exact ⟨hst, rfl⟩
      ·by_cases ht2 : t < fn.ntmps
       ·have e1 : σ1.tm.getD t .any = .c undef := by
         show (args ++ List.replicate (fn.ntmps - args.length) (DE.c undef)).getD t .any = _
         rw [List.getD_eq_getElem?_getD, List.getElem?_append_right (by omega), List.getElem?_replicate]
         rw [if_pos (by omega)]; rfl
        have e2 : (cargs ++ Array.replicate (fn.ntmps - cargs.size) undef).getD t undef = undef := by
         rw [Array.getD_eq_getD_getElem?, Array.getElem?_append, if_neg (by omega), Array.getElem?_replicate]
         split <;> rfl
        rw [e1]
        show RD _ _ _ _ _ _ ((cargs ++ Array.replicate (fn.ntmps - cargs.size) undef).getD t undef)
        rw [e2]; exact .c _
       ·have e1 : σ1.tm.getD t .any = .any := by
         show (args ++ List.replicate (fn.ntmps - args.length) (DE.c undef)).getD t .any = _
         rw [List.getD_eq_getElem?_getD, List.getElem?_eq_none (by simp; omega)]; rfl
        rw [e1]; exact .any _
    have hrun := runC_mono (inF_fr n) c σ1 _ (fun e σ' => (if exits e then (match resultD P fn σ' with | some d => if (preOf σ1 σ').contains σ.clk then fStuck "saved slots" else K d { tm := σ.tm, bl := (σ.clk, .dead) :: σ'.bl, clk := σ'.clk, orc := σ'.orc } | none => fStuck "results") else fStuck "exit") ∧ FrB σ1 σ') (h a.tmps) (fun e σ' hk q1 _ _ => ⟨hk, q1⟩)
    refine runC_sound hm (inF_ok hm n) (inF_fr n) c σ1 _ ρ _ w _ hrun h0 fun e σ' ρ' a' w' hk h' => ?_
    obtain ⟨hk, hfb⟩ := hk
    obtain ⟨Ds, hD1, hD2, hD3, h'⟩ := HR.unmark h'
    generalize hwt : turned Ds w' = wt at h'
    split at hk
    ·rename_i hex
     split at hk
     ·rename_i d hd
      split at hk
      ·exact hk.elim
      ·rename_i hpre
       obtain ⟨v, hv1, hv2⟩ := resultD_ok h' hd
       obtain ⟨⟨p, hp⟩, _, h3⟩ := hfb
       have h3' : σ.clk + 64 ≤ σ'.clk := h3
       have hsv : σ'.blk σ.clk = .sv σ.tm a.tmps := by
        have hpo : preOf σ1 σ' = p.map (·.1) := by
         unfold preOf
         rw [hp, List.length_append, Nat.add_sub_cancel, List.take_left]
        have : σ'.blk = updB σ1.blk p := by
         obtain ⟨tm, bl, c, oc⟩ := σ'
         simp only at hp
         subst hp
         exact blk_app σ1 p tm c _
        rw [this, updB_of_not (by rw [← hpo]; simpa using hpre), hb1, updB_one]
       have hB := h'.blks σ.clk
       rw [hsv] at hB
       have hfin : (DS.mk σ.tm ((σ.clk, .dead) :: σ'.bl) σ'.clk σ'.orc).blk = updB σ'.blk [(σ.clk, .dead)] := blk_app σ' [(σ.clk, .dead)] _ _ _
       have H4 : ∀ b n, n < σ'.clk → stampOf (updB σ'.blk [(σ.clk, .dead)] b) = some n → stampOf (σ'.blk b) = some n ∧ ρ' b = ρ' b := fun b n _ hst => by
        by_cases hc : b = σ.clk
        ·rw [hc, updB_one] at hst; cases hst
        ·rw [updB_ne _ _ _ hc] at hst; exact ⟨hst, rfl⟩
       have H1 : ∀ g, okF base ok0 σ'.blk ρ' g → g < wt.heap.size → okF base ok0 (updB σ'.blk [(σ.clk, .dead)]) ρ' g ∧ wt.heap[g]? = wt.heap[g]? := fun g hg _ => ⟨⟨hg.1, fun b hl => by
        by_cases hc : b = σ.clk
        ·rw [hc, updB_one] at hl; cases hl
        ·rw [updB_ne _ _ _ hc] at hl; exact hg.2 b hl⟩, rfl⟩
       have hend : HS base w0 ok0 ⟨σ.tm, (σ.clk, .dead) :: σ'.bl, σ'.clk, σ'.orc⟩ ρ' a wt := by
        show HR base w0 ok0 (fun n => n < σ'.clk) σ.tm (DS.mk σ.tm ((σ.clk, .dead) :: σ'.bl) σ'.clk σ'.orc).blk ρ' a wt
        rw [hfin]
        refine HR.join (t := a.tmps) hs0 ?_
        refine HR.step h' (fun b => b = σ.clk) (fun b hc => updB_ne _ _ _ hc) (fun b _ => rfl) (fun b t cs _ _ => rfl) (fun b n x hc e => by rw [hc, hsv] at e; cases e)
         (fun n hn => hn) (fun b hc => by show b < σ'.clk; rw [hc]; omega) (fun b n hc hn hst => H4 b n hn hst) (Nat.le_refl _) (fun _ _ _ => rfl)
         (fun b hc hl => by rw [hc, updB_one] at hl; cases hl) (fun b b' hc _ hl => by rw [hc, updB_one] at hl; cases hl) rfl rfl rfl (fun _ _ b hc => ?_) (fun _ t => .inr ?_) hs.size rfl
        ·rw [hc, updB_one]; exact hB.1
        ·exact (hB.2.2 t).mono H1 (fun _ _ _ => rfl) (fun n hn => hn) H4
       have hdv := hv2.mono H1 (fun _ _ _ => rfl) (fun n hn => hn) H4
       rw [← hfin] at hdv
       cases e with
       | normal => exact ⟨Ds, hD1, hD2, hD3, v, by rw [hwt]; exact hv1, v, rfl, d, _, ρ', hk, by rw [hwt]; exact hend, by rw [hwt]; exact hdv⟩
       | ret => exact ⟨Ds, hD1, hD2, hD3, v, by rw [hwt]; exact hv1, v, rfl, d, _, ρ', hk, by rw [hwt]; exact hend, by rw [hwt]; exact hdv⟩
       | exit i => cases hex
       | goto i => cases hex
       | panic i => cases hex
       | outgrown => cases hex
     ·exact hk.elim
    ·exact hk.elim
theorem fn_run (hm : P.follows .mixedOrders = true) (n : Nat) {f : FuncId} {fn : Func} {c : Code} (hf : P.funcs[f]? = some fn) (hb : fn.body = some c) (hent : Ent P f) {args : List AV} {orc : Orc} {sh : Sh} {r : AV} (h : fnF P Γ ann n f fn c orc args sh r) : Fn P f args sh r :=
 fn_of_run hm (inF_ok hm n) (inF_fr n) hf hb hent h
end
end Go.Proofs.YtcifjnhpgblnkaaGreatDoor
namespace Go.Proofs.YtcifjnhpgblnkaaGreatDoor
open Go.RowKit
set_option linter.unusedVariables false
section
variable {a b n : Int} {k k' : IntKind} {s t : ByteArray} {p q : Bool} {L M : List (List AV)} {cs vs : List AV} {i j m sz : Nat} {x y z : AV} {v : Value}
@[simp] theorem av_cel : AV.cel (.agg cs) j = cs.getD j default := rfl
@[simp] theorem av_prj : AV.prj (.tup vs) j = vs.getD j default := rfl
@[simp] theorem av_isAgg : AV.isAgg (.agg cs) m ↔ cs.length = m := ⟨fun ⟨_, e, h⟩ => by cases e; exact h, fun h => ⟨_, rfl, h⟩⟩
@[simp] theorem av_isTup : AV.isTup (.tup cs) m ↔ cs.length = m := ⟨fun ⟨_, e, h⟩ => by cases e; exact h, fun h => ⟨_, rfl, h⟩⟩
@[simp] theorem av_hasPart : hasPart (.tup cs) i ↔ i < cs.length := ⟨fun ⟨m, h, hi⟩ => by rw [av_isTup] at h; omega, fun h => ⟨_, av_isTup.2 rfl, h⟩⟩
@[simp] theorem av_isSl : AV.isSl (.sl i L) j ↔ i = j := ⟨fun h => by have h' : AV.sl i L = .sl j L := h; injection h', fun h => by subst h; rfl⟩
@[simp] theorem av_isInt : AV.isInt (.lit (.int k n)) ↔ True := ⟨fun _ => trivial, fun _ => ⟨_, _, rfl⟩⟩
@[simp] theorem av_isI64 : AV.isI64 (.lit (.int .i64 n)) ↔ True := ⟨fun _ => trivial, fun _ => rfl⟩
@[simp] theorem av_isBool : AV.isBool (.lit (.bool p)) ↔ True := ⟨fun _ => trivial, fun _ => rfl⟩
@[simp] theorem av_isStr : AV.isStr (.lit (.string s)) ↔ True := ⟨fun _ => trivial, fun _ => rfl⟩
@[simp] theorem av_isOne_int : AV.isOne (.lit (.int k n)) ↔ True := ⟨fun _ => trivial, fun _ => rfl⟩
@[simp] theorem av_isOne_bool : AV.isOne (.lit (.bool p)) ↔ True := ⟨fun _ => trivial, fun _ => rfl⟩
@[simp] theorem av_isOne_str : AV.isOne (.lit (.string s)) ↔ True := ⟨fun _ => trivial, fun _ => rfl⟩
@[simp] theorem av_isOne_ni : AV.isOne (.lit .nilIface) ↔ True := ⟨fun _ => trivial, fun _ => rfl⟩
@[simp] theorem av_isNI : AV.isNI (.lit .nilIface) ↔ True := ⟨fun _ => trivial, fun _ => rfl⟩
@[simp] theorem av_isOne_sl : AV.isOne (.sl i L) ↔ True := ⟨fun _ => trivial, fun _ => rfl⟩
@[simp] theorem av_len : AV.len (.sl i L) = .lit (.int .i64 (L.length : Nat)) := rfl
@[simp] theorem av_slen : AV.slen (.lit (.string s)) = .lit (.int .i64 (s.size : Nat)) := rfl
@[simp] theorem av_els : AV.els (.sl i L) = L := rfl
@[simp] theorem av_num : AV.num (.lit (.int k n)) = n := rfl
@[simp] theorem av_tru : AV.tru (.lit (.bool p)) = p := rfl
@[simp] theorem av_str : AV.str (.lit (.string s)) = s := rfl
@[simp] theorem av_kind : AV.kind (.lit (.int k n)) = k := rfl
@[simp] theorem av_mk : AV.mk i L = .sl i L := rfl
@[simp] theorem av_app : AV.app i (.sl j L) (.sl m M) = .sl i (L ++ M) := rfl
@[simp] theorem av_inb : AV.inb (.sl i L) (.lit (.int k n)) ↔ 0 ≤ n ∧ n < L.length := ⟨fun h => h.2, fun h => ⟨⟨_, _, rfl⟩, h⟩⟩
@[simp] theorem av_sinb : AV.sinb (.lit (.string s)) (.lit (.int k n)) ↔ 0 ≤ n ∧ n < s.size := ⟨fun h => h.2, fun h => ⟨⟨_, _, rfl⟩, h⟩⟩
@[simp] theorem av_at : AV.at (.sl i L) (.lit (.int k n)) j = gt2 L n.toNat j := rfl
@[simp] theorem av_subOk : AV.subOk (.sl i L) (.lit (.int k a)) (.lit (.int k' b)) ↔ 0 ≤ a ∧ a ≤ b ∧ b ≤ L.length := ⟨fun h => h.2.2, fun h => ⟨⟨_, _, rfl⟩, ⟨_, _, rfl⟩, h⟩⟩
@[simp] theorem av_sub : AV.sub i (.sl j L) (.lit (.int k a)) (.lit (.int k' b)) = .sl i ((L.take b.toNat).drop a.toNat) := rfl
@[simp] theorem av_binOk_int {op : BinOp} : AV.binOk op (.lit (.int k a)) (.lit (.int k' b)) ↔ k = k' ∧ (match op with | .quo | .rem => b ≠ 0 | .shl | .shr => False | _ => True) := Iff.rfl
@[simp] theorem av_add : AV.bin .add (.lit (.int k a)) (.lit (.int k' b)) = .lit (.int k (k.wrap (a + b))) := rfl
@[simp] theorem av_subt : AV.bin .sub (.lit (.int k a)) (.lit (.int k' b)) = .lit (.int k (k.wrap (a - b))) := rfl
@[simp] theorem av_mul : AV.bin .mul (.lit (.int k a)) (.lit (.int k' b)) = .lit (.int k (k.wrap (a * b))) := rfl
@[simp] theorem av_quo : AV.bin .quo (.lit (.int k a)) (.lit (.int k' b)) = .lit (.int k (k.wrap (a.tdiv b))) := rfl
@[simp] theorem av_rem : AV.bin .rem (.lit (.int k a)) (.lit (.int k' b)) = .lit (.int k (a.tmod b)) := rfl
@[simp] theorem av_eql : AV.bin .eql (.lit (.int k a)) (.lit (.int k' b)) = .lit (.bool (a == b)) := rfl
@[simp] theorem av_neq : AV.bin .neq (.lit (.int k a)) (.lit (.int k' b)) = .lit (.bool (a != b)) := rfl
@[simp] theorem av_lss : AV.bin .lss (.lit (.int k a)) (.lit (.int k' b)) = .lit (.bool (decide (a < b))) := rfl
@[simp] theorem av_leq : AV.bin .leq (.lit (.int k a)) (.lit (.int k' b)) = .lit (.bool (decide (a ≤ b))) := rfl
@[simp] theorem av_gtr : AV.bin .gtr (.lit (.int k a)) (.lit (.int k' b)) = .lit (.bool (decide (a > b))) := rfl
@[simp] theorem av_geq : AV.bin .geq (.lit (.int k a)) (.lit (.int k' b)) = .lit (.bool (decide (a ≥ b))) := rfl
@[simp] theorem av_mx : AV.mx (.lit (.int k a)) (.lit (.int k' b)) = .lit (.int k (if b > a then b else a)) := rfl
@[simp] theorem av_mn : AV.mn (.lit (.int k a)) (.lit (.int k' b)) = .lit (.int k (if b < a then b else a)) := rfl
@[simp] theorem av_isT : isT (.lit (.bool p)) ↔ p = true := Iff.rfl
@[simp] theorem av_isF : isF (.lit (.bool p)) ↔ p = false := Iff.rfl
@[simp] theorem av_flat : AV.flat (.lit v) ↔ True := ⟨fun _ => trivial, fun _ => .lit v⟩
@[simp] theorem av_flat_nil : AV.flat (.sl i []) ↔ True := ⟨fun _ => trivial, fun _ => .nil i⟩
@[simp] theorem av_flat_agg : AV.flat (.agg cs) ↔ ∀ x ∈ cs, x.flat := ⟨fun h => by cases h with | agg _ h => exact h, fun h => .agg cs h⟩
@[simp] theorem av_flatS : AV.flatS (.sl i L) ↔ ∀ y ∈ L, ∀ z ∈ y, z.flat := Iff.rfl
@[simp] theorem f_same : fSame x y ↔ x = y := Iff.rfl
@[simp] theorem f_ent {P : Program} {f : FuncId} : fEnt P f ↔ Ent P f := Iff.rfl
@[simp] theorem f_nil {F G : Prop} : fNil (.sl i L) F G ↔ (L = [] → F) ∧ G := ⟨fun h => h.elim (fun q => q.2) (fun q => by cases q.1), fun h => .inl ⟨⟨_, _, rfl⟩, h⟩⟩
@[simp] theorem f_nil_lit {F G : Prop} : fNil (.lit (.slice none 0 0)) F G ↔ F := ⟨fun h => h.elim (fun q => by obtain ⟨_, _, e⟩ := q.1; cases e) (fun q => q.2), fun h => .inr ⟨rfl, h⟩⟩
@[simp] theorem f_allV {p : Prop} : fAllV (fun _ => p) ↔ p := ⟨fun h => h #[], fun h _ => h⟩
theorem loop_of {τ : Type} (enc : τ → List AV) (Inv : τ → Prop) (μ : τ → Nat) {xs : List AV} {body : List AV → (List AV → Prop) → Prop} (x0 : τ) (h0 : xs = enc x0) (hI : Inv x0) (hb : ∀ x, Inv x → body (enc x) fun zs => ∃ m', m' < μ x ∧ ∃ y, zs = enc y ∧ Inv y ∧ μ y = m') : fLoop i xs body := by
 subst h0
 refine ⟨fun m ys => ∃ y, ys = enc y ∧ Inv y ∧ μ y = m, μ x0, ⟨x0, rfl, hI, rfl⟩, ?_⟩
 rintro m ys _ ⟨y, rfl, hy, rfl⟩
 exact hb y hy
theorem wrap64 (h1 : -9223372036854775808 ≤ a) (h2 : a ≤ 9223372036854775807) : IntKind.i64.wrap a = a := by
 simp [IntKind.wrap, IntKind.bits, IntKind.signed]; omega
end
theorem mixed : Tryz.prog.follows .mixedOrders = true := by kernel_rfl
end Go.Proofs.YtcifjnhpgblnkaaGreatDoor
namespace Go.Proofs.YtcifjnhpgblnkaaGreatDoor
open Go.ChangeShapes Go.WideShapes Go.ChangeAt Go.RowKit

theorem own : ownKnob Tryz.prog.godebug = none := by kernel_rfl
theorem laidOut : laidOutB Tryz.prog = true := by kernel_rfl

theorem law_end {H : Type} {enc : TypeId × Value → H} {f : Func} {s : ChangeSpec} {W W' : World} {args : Array Value} {ds gs : List (DataW H)} {before : List MemPlace} {e : Ending}
  (hts : (f.params.toList.all fun t => Tryz.prog.readableRec t && decide (t < Tryz.prog.types.size)) = true) (hres : f.resultTypes = #[4]) (hv : s.vars = [])
  (hW : DataW.Whole enc Tryz.prog f.params.toList s.vars false W args.toList ds gs before) (h1 : (s.fn H (ds ++ gs)).results = [.lit (.bool true)]) (h2 : (s.fn H (ds ++ gs)).args = ds) (h3 : (s.fn H (ds ++ gs)).vars = [])
  (hr : Ret (.bool true) W e W') : ∃ v, e = .returned v ∧ s.post enc Tryz.prog f false true false false W args v W' := by
 refine ⟨_, hr.1, law_post laidOut (fun t ht => ?_) hres Tryz.underlying4 hv hW h1 h2 h3 hr.below⟩
 have := List.all_eq_true.1 hts t ht
 simp only [Bool.and_eq_true, decide_eq_true_eq] at this
 exact this
end Go.Proofs.YtcifjnhpgblnkaaGreatDoor
