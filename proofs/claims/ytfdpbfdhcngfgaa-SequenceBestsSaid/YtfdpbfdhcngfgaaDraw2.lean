/- Regions that draw their order: any order leaves the state that the text's order leaves. -/
import Derived.Test.YtfdpbfdhcngfgaaDraw
namespace Go.Proofs.Ytfdpbfdhcngfgaa
open Go.RowKit
set_option linter.unusedVariables false
set_option linter.unusedSimpArgs false
/-- With an operation all that it waits for is done. -/
def DCl (ops : List Oper) (S : Nat → Bool) : Prop := ∀ k o, ops[k]? = some o → S k = true → ∀ e ∈ o.after, Region.binds .any e = true → S e.on = true
theorem mask_bit (acc : List Nat) (i : Nat) : ∀ (es : List Edge) (s : Nat), (es.foldl (fun s e => if Region.binds .any e then s ||| 2 ^ e.on ||| acc.getD e.on 0 else s) s).testBit i = true →
    s.testBit i = true ∨ ∃ e ∈ es, Region.binds .any e = true ∧ (i = e.on ∨ (acc.getD e.on 0).testBit i = true)
  | [], s, h => .inl h
  | e :: es, s, h => by
    rw [List.foldl_cons] at h
    rcases mask_bit acc i es _ h with q | ⟨e', h1, h2, h3⟩
    · split at q
      · rename_i hb
        rw [Nat.testBit_or, Nat.testBit_or, Bool.or_eq_true, Bool.or_eq_true, Nat.testBit_two_pow] at q
        rcases q with (q | q) | q
        · exact .inl q
        · exact .inr ⟨e, by simp, hb, .inl (by simpa using (of_decide_eq_true q).symm)⟩
        · exact .inr ⟨e, by simp, hb, .inr q⟩
      · exact .inl q
    · exact .inr ⟨e', by simp [h1], h2, h3⟩
theorem waits_acc {ops : List Oper} {S : Nat → Bool} (hS : DCl ops S) : ∀ (rest : List Oper) (acc : List Nat), (∀ i, rest[i]? = ops[acc.length + i]?) → (∀ k i, (acc.getD k 0).testBit i = true → S k = true → S i = true) →
    ∀ k i, ((rest.foldl (fun acc o => acc ++ [o.after.toList.foldl (fun s e => if Region.binds .any e then s ||| 2 ^ e.on ||| acc.getD e.on 0 else s) 0]) acc).getD k 0).testBit i = true → S k = true → S i = true
  | [], acc, _, h => h
  | o :: rest, acc, hr, h => by
    rw [List.foldl_cons]
    refine waits_acc hS rest _ (fun i => ?_) (fun k i hb hk => ?_)
    · have := hr (i + 1)
      simpa [Nat.add_assoc, Nat.add_comm 1 i] using this
    · rcases Nat.lt_trichotomy k acc.length with q | q | q
      · rw [List.getD_eq_getElem?_getD, List.getElem?_append_left q, ← List.getD_eq_getElem?_getD] at hb
        exact h k i hb hk
      · subst q
        rw [List.getD_eq_getElem?_getD, List.getElem?_append_right (Nat.le_refl _)] at hb
        simp only [Nat.sub_self, List.getElem?_cons_zero, Option.getD_some] at hb
        have ho : ops[acc.length]? = some o := by have := hr 0; simpa using this.symm
        rcases mask_bit acc i _ _ hb with z | ⟨e, he1, he2, he3⟩
        · simp at z
        · have hs := hS acc.length o ho hk e (by simpa using he1) he2
          rcases he3 with rfl | he3
          · exact hs
          · exact h e.on i he3 hs
      · rw [List.getD_eq_getElem?_getD, List.getElem?_eq_none (by simp; omega)] at hb
        simp at hb
theorem waits_closed {ops : List Oper} {S : Nat → Bool} (hS : DCl ops S) {k i : Nat} (h : ((waits ops).getD k 0).testBit i = true) (hk : S k = true) : S i = true :=
  waits_acc hS ops [] (fun i => by simp) (fun k i hb => by simp at hb) k i h hk
theorem clash_spec {ws : List Nat} {fs : List Foot} (h : clashOk ws fs = true) {i k : Nat} {a b : Foot} (hik : i < k) (hi : fs[i]? = some a) (hk : fs[k]? = some b) (hc : clash a b = true) : (ws.getD k 0).testBit i = true := by
  unfold clashOk at h
  have hkl : k < fs.length := (List.getElem?_eq_some_iff.1 hk).1
  have h1 := List.all_eq_true.1 h k (by simpa using hkl)
  have h2 := List.all_eq_true.1 h1 i (by simpa using hik)
  rw [hi, hk] at h2
  simpa [hc] using h2
theorem meets_of {a b : List Nat} {x : Nat} (h1 : x ∈ a) (h2 : x ∈ b) : meets a b = true := by
  unfold meets
  exact List.any_eq_true.2 ⟨x, h1, by simpa using h2⟩
theorem HR.congr {base : Nat} {w0 : World} {ok0 isd isd' : Nat → Prop} {tm tm' : List DE} {blk blk' : Nat → DB} {ρ : Nat → Value} {a : Act} {w : World} (h : HR base w0 ok0 isd tm blk ρ a w) (h1 : ∀ t, tm'.getD t .any = tm.getD t .any) (h2 : tm'.length = tm.length) (h3 : ∀ b, blk' b = blk b) (h4 : ∀ n, isd n → isd' n) :
    HR base w0 ok0 isd' tm' blk' ρ a w := by
  obtain rfl : blk' = blk := funext h3
  have h' := h.same h4 w rfl rfl rfl rfl
  exact ⟨fun t => by rw [h1]; exact h'.tms t, h'.blks, h'.inj, h'.frs, by rw [h2]; exact h'.size, h'.nod, h'.bel, h'.low, h'.drw, h'.gl⟩
def viewOf (tm : List DE) (blk : Nat → DB) (o : Op) : View :=
  { tm := fun t => if (opTmps o).contains t then tm.getD t .any else .any
    bl := fun b => if (opBlks o fun t => tm.getD t .any).contains b then blk b else .dead }
theorem viewOf_ok (tm : List DE) (blk : Nat → DB) (o : Op) : VOk (viewOf tm blk o) tm blk := by
  refine ⟨fun t => ?_, fun b => ?_⟩
  · simp only [viewOf]; split
    · exact .inl rfl
    · exact .inr rfl
  · simp only [viewOf]; split
    · exact .inl rfl
    · exact .inr rfl
theorem viewOf_eq {tm tm' : List DE} {blk blk' : Nat → DB} {o : Op} (h1 : ∀ t, t ∈ opTmps o → tm.getD t .any = tm'.getD t .any) (h2 : ∀ b, b ∈ (opBlks o fun t => tm'.getD t .any) → blk b = blk' b) : viewOf tm blk o = viewOf tm' blk' o := by
  have hids : (opBlks o fun t => tm.getD t .any) = (opBlks o fun t => tm'.getD t .any) := by
    have : ((opTmps o).flatMap fun t => (tm.getD t .any).ids) = ((opTmps o).flatMap fun t => (tm'.getD t .any).ids) := by
      rw [List.flatMap_def, List.flatMap_def]
      congr 1
      exact List.map_congr_left fun t ht => by rw [h1 t ht]
    unfold opBlks
    split
    · rfl
    · exact this
  unfold viewOf
  congr 1
  · funext t
    split
    · rename_i hc; exact h1 t (by simpa using hc)
    · rfl
  · funext b
    rw [hids]
    split
    · rename_i hc; exact h2 b (by simpa using hc)
    · rfl
section
variable {P : Program} {Γ : FuncId → Option Ca} {base : Nat} {w0 : World} {ok0 : Nat → Prop} {ops : List Oper} {l : List (Oper × Rec)} {σ0 : DS}
def isdS (c : Nat) (S : Nat → Bool) (n : Nat) : Prop := n < c ∨ ∃ k, S k = true ∧ c + 64 * k ≤ n ∧ n < c + 64 * k + 64
/-- One operation, whichever of the others are done. -/
theorem draw_step (hTr : TrOk P Γ ops l σ0) (hl : l.map (·.1) = ops) (hcl : clashOk (waits ops) (feet ops l σ0) = true) {S : Nat → Bool} (hS : DCl ops S) {i : Nat} {o : Oper} (ho : ops[i]? = some o) (hi : S i = false) (hrd : ∀ e ∈ o.after, Region.binds .any e = true → S e.on = true)
    {ρ : Nat → Value} {a : Act} {w : World} (h : HR base w0 ok0 (isdS σ0.clk S) (ov l S (σ0.tm, σ0.blk) l.length).1 (ov l S (σ0.tm, σ0.blk) l.length).2 ρ a w) {K : Act → World → Prop} {Q : Exit → Act → World → Prop}
    (hK : ∀ ρ' a' w', HR base w0 ok0 (isdS σ0.clk (fun k => S k || k == i)) (ov l (fun k => S k || k == i) (σ0.tm, σ0.blk) l.length).1 (ov l (fun k => S k || k == i) (σ0.tm, σ0.blk) l.length).2 ρ' a' w' → K a' w') : wpOp P ops.toArray Q i K a w := by
  obtain ⟨rc, hli⟩ : ∃ rc, l[i]? = some (o, rc) := by
    have : (l.map (·.1))[i]? = some o := by rw [hl]; exact ho
    rw [List.getElem?_map] at this
    cases hq : l[i]? with
    | none => rw [hq] at this; cases this
    | some q => rw [hq] at this; simp only [Option.map_some, Option.some.injEq] at this; exact ⟨q.2, by rw [← this]⟩
  have hil : i < l.length := (List.getElem?_eq_some_iff.1 hli).1
  obtain ⟨σi, e1, e2, hgate, hval, hfi⟩ := tr_at l σ0 hTr i o rc hli
  -- what has been done below i, and above
  have hS2 : DCl ops (fun k => S k || k == i) := by
    intro k o' ho' hk e he hb
    simp only [Bool.or_eq_true, beq_iff_eq] at hk ⊢
    rcases hk with hk | hk
    · exact .inl (hS k o' ho' hk e he hb)
    · subst hk
      rw [ho] at ho'
      injection ho' with ho'
      subst ho'
      exact .inl (hrd e he hb)
  have below : ∀ k o' rc', l[k]? = some (o', rc') → k < i → (∀ σk, clash (footAt ops o' rc' σk) (footAt ops o rc σi) = true) → S k = true := by
    intro k o' rc' hlk hki hc
    obtain ⟨σk, _, _, _, _, hfk⟩ := tr_at l σ0 hTr k o' rc' hlk
    have hb := clash_spec hcl hki hfk hfi (hc σk)
    have := waits_closed hS2 hb (by simp)
    simp only [Bool.or_eq_true, beq_iff_eq] at this
    exact this.resolve_right (by omega)
  have above : ∀ k o' rc', l[k]? = some (o', rc') → i < k → (∀ σk, clash (footAt ops o rc σi) (footAt ops o' rc' σk) = true) → S k = false := by
    intro k o' rc' hlk hki hc
    obtain ⟨σk, _, _, _, _, hfk⟩ := tr_at l σ0 hTr k o' rc' hlk
    have hb := clash_spec hcl hki hfi hfk (hc σk)
    cases hk : S k with
    | false => rfl
    | true =>
      have := waits_closed hS hb hk
      rw [hi] at this; cases this
  have wt_foot : ∀ (o' : Oper) (rc' : Rec) (σk : DS), (footAt ops o' rc' σk).wt = o'.dst.toList := fun o' rc' σk => by
    unfold footAt; split <;> rfl
  have wb_foot : ∀ (o' : Oper) (rc' : Rec) (σk : DS), (footAt ops o' rc' σk).wb = rc'.bs.map (·.1) := fun o' rc' σk => by
    unfold footAt Rec.bs; split <;> rfl
  have ovlt : ov l (fun k => decide (k < i)) (σ0.tm, σ0.blk) l.length = (σi.tm, σi.blk) := by
    rw [ov_stop i l.length (by omega) (fun k h1 h2 => by simp; omega), e1]
    exact ov_congr i fun k hk => by simp [hk]
  -- slots and blocks that it reads
  have hslot : ∀ t, t ∈ (footAt ops o rc σi).rt → (ov l S (σ0.tm, σ0.blk) l.length).1.getD t .any = σi.tm.getD t .any := by
    intro t ht
    have := ov_slot (l := l) (S := S) (S' := fun k => decide (k < i)) (s0 := (σ0.tm, σ0.blk)) (t := t) l.length (fun k hk o' rc' hlk hd => ?_)
    · rw [this, ovlt]
    · rcases Nat.lt_trichotomy k i with q | q | q
      · rw [below k o' rc' hlk q fun σk => ?_]
        · simp [q]
        · unfold clash
          rw [meets_of (x := t) (by rw [wt_foot, hd]; simp) ht]; rfl
      · subst q; simp [hi]
      · rw [above k o' rc' hlk q fun σk => ?_]
        · simp; omega
        · unfold clash
          have : meets (footAt ops o rc σi).rt (footAt ops o' rc' σk).wt = true := meets_of (x := t) ht (by rw [wt_foot, hd]; simp)
          simp [this]
  have hblock : ∀ b, b ∈ (footAt ops o rc σi).rb → (ov l S (σ0.tm, σ0.blk) l.length).2 b = σi.blk b := by
    intro b hb
    have := ov_block (l := l) (S := S) (S' := fun k => decide (k < i)) (s0 := (σ0.tm, σ0.blk)) (b := b) l.length (fun k hk o' rc' hlk hd => ?_)
    · rw [this, ovlt]
    · rcases Nat.lt_trichotomy k i with q | q | q
      · rw [below k o' rc' hlk q fun σk => ?_]
        · simp [q]
        · unfold clash
          have : meets (footAt ops o' rc' σk).wb (footAt ops o rc σi).rb = true := meets_of (x := b) (by rw [wb_foot]; exact hd) hb
          simp [this]
      · subst q; simp [hi]
      · rw [above k o' rc' hlk q fun σk => ?_]
        · simp; omega
        · unfold clash
          have : meets (footAt ops o rc σi).rb (footAt ops o' rc' σk).wb = true := meets_of (x := b) hb (by rw [wb_foot]; exact hd)
          simp [this]
  -- the state behind it
  have hnewT : ∀ t, (ov l (fun k => S k || k == i) (σ0.tm, σ0.blk) l.length).1.getD t .any = (setD (ov l S (σ0.tm, σ0.blk) l.length).1 o.dst rc.d).getD t .any := by
    intro t
    rw [setD_getD, ov_len]
    split
    · rename_i hc
      have := ov_slot (l := l) (S := fun k => S k || k == i) (S' := fun k => decide (k ≤ i)) (s0 := (σ0.tm, σ0.blk)) (t := t) l.length (fun k hk o' rc' hlk hd => ?_)
      · rw [this, ov_stop (i + 1) l.length (by omega) (fun k h1 h2 => by simp; omega)]
        simp only [ov, Nat.le_refl, decide_true, hli, app2, setD_getD, ov_len]
        rw [if_pos hc]
      · rcases Nat.lt_trichotomy k i with q | q | q
        · have : S k = true := below k o' rc' hlk q fun σk => by
            unfold clash
            have : meets (footAt ops o' rc' σk).wt (footAt ops o rc σi).wt = true := meets_of (x := t) (by rw [wt_foot, hd]; simp) (by rw [wt_foot, hc.1]; simp)
            simp [this]
          simp [this]; omega
        · subst q; simp
        · have : S k = false := above k o' rc' hlk q fun σk => by
            unfold clash
            have : meets (footAt ops o rc σi).wt (footAt ops o' rc' σk).wt = true := meets_of (x := t) (by rw [wt_foot, hc.1]; simp) (by rw [wt_foot, hd]; simp)
            simp [this]
          have q1 : ¬ k = i := by omega
          have q2 : ¬ k ≤ i := by omega
          simp [this, q1, q2]
    · rename_i hc
      by_cases htl : t < σ0.tm.length
      · exact ov_slot l.length fun k hk o' rc' hlk hd => by
          have hki : k ≠ i := fun e => by
            subst e
            rw [hli] at hlk
            injection hlk with hlk
            injection hlk with q1 q2
            subst q1
            exact hc ⟨hd, htl⟩
          simp [hki]
      · have hlen : ∀ T : Nat → Bool, (ov l T (σ0.tm, σ0.blk) l.length).1.getD t .any = .any := fun T => by
          have := ov_len (l := l) (S := T) (s0 := (σ0.tm, σ0.blk)) l.length
          rw [List.getD_eq_getElem?_getD, List.getElem?_eq_none (by rw [this]; simpa using htl)]; rfl
        rw [hlen, hlen]
  have hnewB : ∀ b, (ov l (fun k => S k || k == i) (σ0.tm, σ0.blk) l.length).2 b = updB (ov l S (σ0.tm, σ0.blk) l.length).2 rc.bs b := by
    intro b
    by_cases hc : b ∈ rc.bs.map (·.1)
    · have := ov_block (l := l) (S := fun k => S k || k == i) (S' := fun k => decide (k ≤ i)) (s0 := (σ0.tm, σ0.blk)) (b := b) l.length (fun k hk o' rc' hlk hd => ?_)
      · rw [this, ov_stop (i + 1) l.length (by omega) (fun k h1 h2 => by simp; omega)]
        simp only [ov, Nat.le_refl, decide_true, hli, app2]
        exact updB_of_mem hc
      · rcases Nat.lt_trichotomy k i with q | q | q
        · have : S k = true := below k o' rc' hlk q fun σk => by
            unfold clash
            have : meets (footAt ops o' rc' σk).wb (footAt ops o rc σi).wb = true := meets_of (x := b) (by rw [wb_foot]; exact hd) (by rw [wb_foot]; exact hc)
            simp [this]
          simp [this]; omega
        · subst q; simp
        · have : S k = false := above k o' rc' hlk q fun σk => by
            unfold clash
            have : meets (footAt ops o rc σi).wb (footAt ops o' rc' σk).wb = true := meets_of (x := b) (by rw [wb_foot]; exact hc) (by rw [wb_foot]; exact hd)
            simp [this]
          have q1 : ¬ k = i := by omega
          have q2 : ¬ k ≤ i := by omega
          simp [this, q1, q2]
    · rw [updB_of_not hc]
      exact ov_block l.length fun k hk o' rc' hlk hd => by
        have hki : k ≠ i := fun e => by
          subst e
          rw [hli] at hlk
          injection hlk with hlk
          injection hlk with q1 q2
          subst q2
          exact hc hd
        simp [hki]
  have hnewI : ∀ n, NewI (isdS σ0.clk S) (σ0.clk + 64 * i) n → isdS σ0.clk (fun k => S k || k == i) n := by
    intro n hn
    rcases hn with (hn | ⟨k, h1, h2⟩) | hn
    · exact .inl hn
    · exact .inr ⟨k, by simp [h1], h2⟩
    · exact .inr ⟨i, by simp, hn.1, by omega⟩
  have hfresh : ∀ n, σ0.clk + 64 * i ≤ n → n < σ0.clk + 64 * i + 64 → ¬ isdS σ0.clk S n := by
    rintro n h1 h2 (h3 | ⟨k, h4, h5, h6⟩)
    · omega
    · obtain rfl : k = i := by omega
      rw [hi] at h4; cases h4
  -- does it run?
  have hwant : Region.wanted o (yielded ops.toArray a.tmps) = rc.run := by
    unfold Region.wanted
    unfold GateOk at hgate
    split at hgate
    · rename_i hg; rw [hg]; exact hgate.symm
    · rename_i j want hg
      rw [hg]
      obtain ⟨t, ht, hall⟩ := hgate
      simp only
      rw [yielded_slot ht]
      have hrt : t ∈ (footAt ops o rc σi).rt := by
        have : t ∈ gdSlot ops o := by
          unfold gdSlot
          rw [hg]
          simp only
          have : ((ops[j]?).bind (·.dst)) = some t := ht
          rw [this]; simp
        unfold footAt
        split
        · exact List.mem_append_right _ this
        · exact this
      have hr := h.tms t
      rw [hslot t hrt] at hr
      have := hall _ _ _ _ _ _ hr
      rw [← this]
      rw [Array.getD_eq_getD_getElem?]
      cases hq : a.tmps[t]? with
      | none => simp [undef]
      | some v => cases v <;> rfl
  unfold wpOp
  have ho2 : ops.toArray[i]? = some o := by simpa using ho
  rw [ho2]
  simp only [hwant]
  cases hrun : rc.run with
  | true =>
    simp only [if_true]
    left
    have hfoot : footAt ops o rc σi = footOf ops o σi rc.δ.bs := by unfold footAt; rw [hrun]; rfl
    have hview : viewOf (ov l S (σ0.tm, σ0.blk) l.length).1 (ov l S (σ0.tm, σ0.blk) l.length).2 o.op = σi.view o.op :=
      viewOf_eq (fun t ht => hslot t (by rw [hfoot]; exact List.mem_append_left _ ht)) (fun b hb => hblock b (by rw [hfoot]; exact hb))
    have hv := hval hrun
    rw [← hview, e2] at hv
    refine op_sound1 (viewOf_ok _ _ _) h hfresh hv K Q fun ρ' v w' h' => hK ρ' _ w' ?_
    refine h'.congr (fun t => ?_) ?_ (fun b => ?_) hnewI
    · rw [hnewT]; unfold Rec.d; rw [hrun]; rfl
    · rw [ov_len, setD_len, ov_len]
    · rw [hnewB]; unfold Rec.bs; rw [hrun]; rfl
  | false =>
    simp only [Bool.false_eq_true, if_false]
    have h' := h.put o.dst (d := .c undef) (.c undef) (σ0.clk + 64 * i) w rfl rfl rfl rfl
    refine hK ρ _ w (h'.congr (fun t => ?_) ?_ (fun b => ?_) hnewI)
    · rw [hnewT]; unfold Rec.d; rw [hrun]; rfl
    · rw [ov_len, setD_len, ov_len]
    · rw [hnewB]; unfold Rec.bs; rw [hrun]; rfl
theorem count_set {n : Nat} {listed : Array Bool} (hn : listed.size = n) {i : Nat} (hi : i < n) (hf : listed.getD i true = false) :
    (List.range n).countP (fun k => !(listed.setIfInBounds i true).getD k false) + 1 = (List.range n).countP (fun k => !listed.getD k false) := by
  subst hn
  have key : ∀ m, m ≤ listed.size → (List.range m).countP (fun k => !(listed.setIfInBounds i true).getD k false) + (if i < m then 1 else 0) = (List.range m).countP (fun k => !listed.getD k false) := by
    intro m
    induction m with
    | zero => intro _; rfl
    | succ m ih =>
      intro hm
      have ih' := ih (by omega)
      rw [List.range_succ, List.countP_append, List.countP_append, List.countP_singleton, List.countP_singleton]
      by_cases e : i = m
      · subst e
        have e1 : (listed.setIfInBounds i true).getD i false = true := by simp [hi]
        have e2 : listed.getD i false = false := by
          have : listed.getD i true = listed.getD i false := by simp [hi]
          rw [← this]; exact hf
        rw [e1, e2]
        simp only [Nat.lt_irrefl, if_false, Nat.add_zero] at ih'
        simp only [Bool.not_true, Bool.not_false, Bool.false_eq_true, if_false, if_true, Nat.lt_succ_self]
        omega
      · have e1 : (listed.setIfInBounds i true).getD m false = listed.getD m false := by
          simp [Array.getElem?_setIfInBounds_ne e]
        rw [e1]
        generalize (if (!listed.getD m false) = true then 1 else 0) = c
        by_cases q : i < m
        · rw [if_pos q] at ih'
          rw [if_pos (show i < m + 1 by omega)]
          omega
        · rw [if_neg q] at ih'
          rw [if_neg (show ¬ i < m + 1 by omega)]
          omega
  have := key listed.size (Nat.le_refl _)
  rw [if_pos hi] at this
  exact this
/-- **Any order leaves the state that the text's order leaves.** -/
theorem draw_sound (hm : P.follows .mixedOrders = true) (hTr : TrOk P Γ ops l σ0) (hl : l.map (·.1) = ops) (hdr : drawOk ops (feet ops l σ0) = true) {Q : Exit → Act → World → Prop} {ρ : Nat → Value} {a : Act} {w : World} (h : HS base w0 ok0 σ0 ρ a w)
    (hQ : ∀ ρ' a' w', HS base w0 ok0 (finS l σ0) ρ' a' w' → Q .normal a' w') (id : Nat) : (Code.region id ops.toArray true).wp P Q a w := by
  have hlen : l.length = ops.length := by rw [← hl]; simp
  unfold drawOk at hdr
  rw [Bool.and_eq_true, Bool.and_eq_true] at hdr
  obtain ⟨⟨hback, _⟩, hcl⟩ := hdr
  have hback' : ∀ i o, ops[i]? = some o → ∀ e ∈ o.after, Region.binds .any e = true → e.on < i := by
    intro i o ho e he hb
    unfold backOk at hback
    have h1 := List.all_eq_true.1 hback (o, i) (by rw [List.mk_mem_zipIdx_iff_getElem?]; exact ho)
    have h2 := List.all_eq_true.1 h1 e (by simpa using he)
    simpa [hb] using h2
  refine wp_region_any hm ?_
  have key : ∀ (fuel : Nat) (listed : Array Bool) (ρ : Nat → Value) (a : Act) (w : World), listed.size = ops.length → (List.range ops.length).countP (fun k => !listed.getD k false) = fuel → DCl ops (fun k => listed.getD k false) →
      HR base w0 ok0 (isdS σ0.clk (fun k => listed.getD k false)) (ov l (fun k => listed.getD k false) (σ0.tm, σ0.blk) l.length).1 (ov l (fun k => listed.getD k false) (σ0.tm, σ0.blk) l.length).2 ρ a w → wpAny P .any ops.toArray Q fuel listed a w := by
    intro fuel
    induction fuel with
    | zero =>
      intro listed ρ a w hsz hcnt hS h
      have hall : ∀ k, k < ops.length → listed.getD k false = true := fun k hk => by
        have := List.countP_eq_zero.1 hcnt k (by simpa using hk)
        simpa using this
      refine ⟨?_, ?_⟩
      · apply List.eq_nil_iff_forall_not_mem.2
        intro j hj
        obtain ⟨h1, o, h2, _⟩ := mem_ready.1 hj
        have hj' : j < ops.length := by have := (Array.getElem?_eq_some_iff.1 h2).1; simpa using this
        have h3 := hall j hj'
        have : listed.getD j true = listed.getD j false := by simp [hsz, hj']
        rw [this, h3] at h1; cases h1
      · obtain ⟨f1, f2⟩ := fin_s2 l σ0
        have e1 : ov l (fun k => listed.getD k false) (σ0.tm, σ0.blk) l.length = ((finS l σ0).tm, (finS l σ0).blk) := by
          rw [f1]; exact ov_congr _ fun k hk => hall k (hlen ▸ hk)
        rw [e1] at h
        refine hQ ρ a w (HR.same h (fun n hn => ?_) w rfl rfl rfl rfl)
        show n < (finS l σ0).clk
        rw [f2]
        rcases hn with hn | ⟨k, hk, h1, h2⟩
        · omega
        · have : k < ops.length := by
            rcases Nat.lt_or_ge k ops.length with q | q
            · exact q
            · have : listed.getD k false = false := by simp [hsz, q]
              have hk' : listed.getD k false = true := hk
              rw [this] at hk'; cases hk'
          omega
    | succ fuel ih =>
      intro listed ρ a w hsz hcnt hS h
      refine ⟨fun hr => ?_, fun i hi => ?_⟩
      · -- some operation is ready
        exfalso
        obtain ⟨k, hk1, hk2⟩ : ∃ k, k < ops.length ∧ listed.getD k false = false := by
          have hpos : 0 < (List.range ops.length).countP (fun k => !listed.getD k false) := by omega
          obtain ⟨k, h1, h2⟩ := List.countP_pos_iff.1 hpos
          exact ⟨k, by simpa using h1, by simpa using h2⟩
        have least : ∀ k, k < ops.length → listed.getD k false = false → False := by
          intro k
          induction k using Nat.strongRecOn with
          | _ k ihk =>
            intro hk1 hk2
            have ho : ops.toArray[k]? = some ops[k] := by simp [hk1]
            have : k ∈ Region.ready .any ops.toArray listed := mem_ready.2 ⟨by
              have : listed.getD k true = listed.getD k false := by simp [hsz, hk1]
              rw [this]; exact hk2, ops[k], ho, fun e he hb => by
              have hlt := hback' k ops[k] (by simp [hk1]) e he hb
              cases hq : listed.getD e.on false with
              | true => rfl
              | false => exact (ihk e.on hlt (by omega) hq).elim⟩
            rw [hr] at this
            cases this
        exact least k hk1 hk2
      · obtain ⟨h1, o, h2, h3⟩ := mem_ready.1 hi
        have hi' : i < ops.length := by have := (Array.getElem?_eq_some_iff.1 h2).1; simpa using this
        have hi2 : listed.getD i false = false := by
          have : listed.getD i true = listed.getD i false := by simp [hsz, hi']
          rw [← this]; exact h1
        have ho : ops[i]? = some o := by simpa using h2
        have hset : ∀ k, (listed.setIfInBounds i true).getD k false = (listed.getD k false || k == i) := by
          intro k
          by_cases e : i = k
          · subst e; simp [hsz, hi']
          · have : (k == i) = false := by simpa using fun q => e q.symm
            simp [Array.getElem?_setIfInBounds_ne e, this]
        refine draw_step (S := fun k => listed.getD k false) hTr hl hcl hS ho hi2 (fun e he hb => h3 e he hb) h fun ρ' a' w' h' => ?_
        refine ih _ ρ' a' w' (by simpa using hsz) ?_ ?_ ?_
        · have := count_set hsz hi' h1
          omega
        · intro k o' ho' hk e he hb
          simp only [hset, Bool.or_eq_true, beq_iff_eq] at hk ⊢
          rcases hk with hk | hk
          · exact .inl (hS k o' ho' hk e he hb)
          · subst hk
            rw [ho] at ho'
            injection ho' with ho'
            subst ho'
            exact .inl (h3 e he hb)
        · have e : (fun k => (listed.setIfInBounds i true).getD k false) = (fun k => listed.getD k false || k == i) := funext hset
          rw [e]; exact h'
  have h0 : ∀ k, (Array.replicate ops.toArray.size false).getD k false = false := fun k => by
    by_cases q : k < ops.length <;> simp [q]
  have e0 : (fun k => (Array.replicate ops.toArray.size false).getD k false) = fun _ => false := funext h0
  refine key ops.toArray.size (Array.replicate ops.toArray.size false) ρ a _ (by simp) ?_ ?_ ?_
  · simp only [h0]
    simp
  · intro k o ho hk
    have hk' : (Array.replicate ops.toArray.size false).getD k false = true := hk
    rw [h0] at hk'; cases hk'
  · rw [e0, ov_stop 0 l.length (by omega) (fun _ _ _ => rfl)]
    exact HR.same h (fun n hn => .inl hn) _ rfl rfl rfl rfl
end
end Go.Proofs.Ytfdpbfdhcngfgaa
