/- Regions that draw their order. -/
import Derived.Test.YtfdpbfdhcngfgaaReg
namespace Go.Proofs.Ytfdpbfdhcngfgaa
open Go.RowKit
set_option linter.unusedVariables false
set_option linter.unusedSimpArgs false
structure Rec where
  run : Bool
  δ : Delta
def Rec.d (rc : Rec) : DE := if rc.run then rc.δ.d else .c undef
def Rec.bs (rc : Rec) : List (Nat × DB) := if rc.run then rc.δ.bs else []
def nxt (o : Oper) (rc : Rec) (σ : DS) : DS := if rc.run then rc.δ.app o.dst σ else σ.skip o.dst
/-- The guard says so, by the state. -/
def GateOk (ops : List Oper) (o : Oper) (tm : List DE) (run : Bool) : Prop := match o.guard with
  | none => run = true
  | some (j, want) => ∃ t, slotOf ops j = some t ∧ ∀ (w : World) (ok : Nat → Prop) (ρ : Nat → Value) (blk : Nat → DB) (isd : Nat → Prop) (v : Value), RD w ok ρ blk isd (tm.getD t .any) v → ((match v with | .bool b => some b | _ => none) == some want) = run
def TrOk (P : Program) (Γ : FuncId → Option Ca) (ops : List Oper) : List (Oper × Rec) → DS → Prop
  | [], _ => True
  | (o, rc) :: l, σ => GateOk ops o σ.tm rc.run ∧ (rc.run = true → Val1 P Γ o σ.clk (σ.view o.op) rc.δ) ∧ TrOk P Γ ops l (nxt o rc σ)
def footAt (ops : List Oper) (o : Oper) (rc : Rec) (σ : DS) : Foot := if rc.run then footOf ops o σ rc.δ.bs else footSkip ops o
def feet (ops : List Oper) : List (Oper × Rec) → DS → List Foot
  | [], _ => []
  | (o, rc) :: l, σ => footAt ops o rc σ :: feet ops l (nxt o rc σ)
def finS : List (Oper × Rec) → DS → DS
  | [], σ => σ
  | (o, rc) :: l, σ => finS l (nxt o rc σ)
/-- The guards that are decided, by the state. -/
def DecA (ops : List Oper) (dec : List (Nat × Bool)) (tm : List DE) : Prop := ∀ j b, (j, b) ∈ dec → ∃ t x, slotOf ops j = some t ∧ tm.getD t .any = .v x ∧ x.isBool ∧ x.tru = b
theorem boolGate (b want : Bool) : ((some b : Option Bool) == some want) = (b == want) := by cases b <;> cases want <;> rfl
theorem gate_trace {ops : List Oper} {dec : List (Nat × Bool)} {o : Oper} {σ : DS} {G : DS → List (Nat × Bool) → Bool → Prop} (hg : gateF ops dec o σ G) (hd : DecA ops dec σ.tm) :
    ∃ oc dec' run, G { σ with orc := oc } dec' run ∧ GateOk ops o σ.tm run ∧ DecA ops dec' σ.tm := by
  unfold gateF at hg
  unfold GateOk
  split at hg
  · rename_i hgd
    rw [hgd]
    exact ⟨σ.orc, dec, true, hg, rfl, hd⟩
  · rename_i j want hgd
    rw [hgd]
    simp only
    split at hg
    · exact hg.elim
    · rename_i t ht
      split at hg
      · rename_i b hb
        obtain ⟨t', x, h1, h2, h3, h4⟩ := hd j b (lookup_mem hb)
        rw [ht] at h1
        injection h1 with h1
        subst h1
        refine ⟨σ.orc, dec, _, hg, ⟨t, ht, fun w ok ρ blk isd v hr => ?_⟩, hd⟩
        rw [h2] at hr
        cases hr with
        | v _ _ hv => rw [rv_bool hv h3, h4]; exact boolGate _ _
      · split at hg
        · rename_i b hk
          refine ⟨σ.orc, dec, _, hg, ⟨t, ht, fun w ok ρ blk isd v hr => ?_⟩, hd⟩
          rw [hk] at hr
          cases hr
          exact boolGate _ _
        · rename_i q hk
          refine ⟨σ.orc, dec, false, hg, ⟨t, ht, fun w ok ρ blk isd v hr => ?_⟩, hd⟩
          rw [hk] at hr
          cases hr
          rfl
        · rename_i x hk
          obtain ⟨h1, h2, h3⟩ := decF_both hg
          have hgt : ∃ t', slotOf ops j = some t' ∧ ∀ (w : World) (ok : Nat → Prop) (ρ : Nat → Value) (blk : Nat → DB) (isd : Nat → Prop) (v : Value), RD w ok ρ blk isd (σ.tm.getD t' .any) v → ((match v with | .bool b => some b | _ => none) == some want) = (x.tru == want) := ⟨t, ht, fun w ok ρ blk isd v hr => by
            rw [hk] at hr
            cases hr with
            | v _ _ hv => rw [rv_bool hv h1]; exact boolGate _ _⟩
          have hd' : DecA ops ((j, x.tru) :: dec) σ.tm := fun j' b' hm => by
            rcases List.mem_cons.1 hm with e | e
            · injection e with e1 e2; rw [e1, e2]; exact ⟨t, x, ht, hk, h1, rfl⟩
            · exact hd j' b' e
          cases hx : x.tru with
          | true =>
            rw [hx] at hd' hgt
            obtain ⟨oc, h2⟩ := h2 hx
            exact ⟨oc, _, _, h2, hgt, hd'⟩
          | false =>
            rw [hx] at hd' hgt
            obtain ⟨oc, h3⟩ := h3 hx
            exact ⟨oc, _, _, h3, hgt, hd'⟩
        · exact hg.elim
theorem decA_still {ops : List Oper} {dec : List (Nat × Bool)} {o : Oper} {tm : List DE} {d : DE} (hd : DecA ops dec tm) : DecA ops (stillDec ops o dec) (setD tm o.dst d) := fun j b hm => by
  have hm' := List.mem_filter.1 hm
  obtain ⟨t, x, h1, h2, h3, h4⟩ := hd j b hm'.1
  refine ⟨t, x, h1, ?_, h3, h4⟩
  have hne : o.dst ≠ some t := fun e => by
    have := hm'.2
    rw [h1, e] at this
    simp at this
  rw [← h2]
  cases hdst : o.dst with
  | none => rfl
  | some k =>
    have : k ≠ t := fun e => hne (by rw [hdst, e])
    simp [setD, List.getElem?_set_ne this]
theorem nxt_orc (o : Oper) (rc : Rec) (σ : DS) (oc : Orc) : nxt o rc { σ with orc := oc } = { nxt o rc σ with orc := oc } := by
  unfold nxt
  split <;> rfl
theorem finS_orc : ∀ (l : List (Oper × Rec)) (σ : DS) (oc : Orc), finS l { σ with orc := oc } = { finS l σ with orc := oc }
  | [], _, _ => rfl
  | (o, rc) :: l, σ, oc => by rw [finS, nxt_orc, finS_orc l]; rfl
theorem trOk_orc {P : Program} {Γ : FuncId → Option Ca} {ops : List Oper} : ∀ (l : List (Oper × Rec)) (σ : DS) (oc : Orc), TrOk P Γ ops l { σ with orc := oc } → TrOk P Γ ops l σ
  | [], _, _, _ => trivial
  | (o, rc) :: l, σ, oc, h => ⟨h.1, h.2.1, trOk_orc l _ oc (by have := h.2.2; rwa [nxt_orc] at this)⟩
theorem feet_orc {ops : List Oper} : ∀ (l : List (Oper × Rec)) (σ : DS) (oc : Orc), feet ops l { σ with orc := oc } = feet ops l σ
  | [], _, _ => rfl
  | (o, rc) :: l, σ, oc => by rw [feet, feet, nxt_orc, feet_orc l]; rfl
theorem regF_trace {P : Program} {Γ : FuncId → Option Ca} {inl : Inl} {ops : List Oper} {K : DS → Prop} :
    ∀ (rest : List Oper) (dec : List (Nat × Bool)) (fs : List Foot) (σ : DS), regF P Γ inl true ops dec fs rest σ K → DecA ops dec σ.tm →
      ∃ (l : List (Oper × Rec)) (oc : Orc), l.map (·.1) = rest ∧ TrOk P Γ ops l σ ∧ drawOk ops (fs ++ feet ops l σ) = true ∧ K { finS l σ with orc := oc }
  | [], dec, fs, σ, hr, _ => by
    simp only [regF, Bool.not_true, Bool.false_or] at hr
    split at hr
    · rename_i hdr
      exact ⟨[], σ.orc, rfl, trivial, by simpa [feet] using hdr, hr⟩
    · exact hr.elim
  | o :: rest, dec, fs, σ, hr, hd => by
    simp only [regF] at hr
    obtain ⟨oc, dec', run, hG, hgo, hd'⟩ := gate_trace hr hd
    cases run with
    | true =>
      simp only [if_true] at hG
      have hdet : ∃ δ, Val1 P Γ o σ.clk (σ.view o.op) δ ∧ regF P Γ inl true ops (stillDec ops o dec') (fs ++ [footOf ops o σ δ.bs]) rest ({ δ.app o.dst σ with orc := oc }) K := by
        unfold stepF at hG
        split at hG
        · simp only [if_true] at hG; exact hG.elim
        split at hG
        · simp only [if_true] at hG; exact hG.elim
        · split at hG
          · exact hG.elim
          · rename_i obs δ he
            obtain ⟨h1, h2⟩ := obsF_iff hG
            have he' : opD P Γ o σ.clk { σ.view o.op with hint := hintOf ops dec' o } = .det obs δ := he
            exact ⟨δ, ⟨hintOf ops dec' o, by unfold Valid; rw [he']; exact ⟨h1, rfl⟩⟩, h2⟩
          · rename_i ob δ he
            obtain ⟨r, h1, h2⟩ := hG
            have he' : opD P Γ o σ.clk { σ.view o.op with hint := hintOf ops dec' o } = .ex ob δ := he
            exact ⟨δ r, ⟨hintOf ops dec' o, by unfold Valid; rw [he']; exact ⟨r, h1, rfl⟩⟩, h2⟩
      obtain ⟨δ, hv, hk⟩ := hdet
      obtain ⟨l, oc2, e1, e2, e3, e4⟩ := regF_trace rest _ _ _ hk (decA_still hd')
      rw [finS_orc] at e4
      rw [feet_orc] at e3
      refine ⟨(o, ⟨true, δ⟩) :: l, oc2, by rw [List.map_cons, e1], ⟨hgo, fun _ => hv, trOk_orc _ _ _ e2⟩, ?_, e4⟩
      rw [List.append_assoc] at e3
      exact e3
    | false =>
      simp only [Bool.false_eq_true, if_false] at hG
      have hG' : regF P Γ inl true ops (stillDec ops o dec') (fs ++ [footSkip ops o]) rest ({ σ.skip o.dst with orc := oc }) K := hG
      obtain ⟨l, oc2, e1, e2, e3, e4⟩ := regF_trace rest _ _ _ hG' (decA_still hd')
      rw [finS_orc] at e4
      rw [feet_orc] at e3
      refine ⟨(o, ⟨false, ⟨.any, []⟩⟩) :: l, oc2, by rw [List.map_cons, e1], ⟨hgo, fun h => (by cases h), trOk_orc _ _ _ e2⟩, ?_, e4⟩
      rw [List.append_assoc] at e3
      exact e3

/-! ### the state behind some of the operations -/
abbrev S2 := List DE × (Nat → DB)
def app2 (o : Oper) (rc : Rec) (s : S2) : S2 := (setD s.1 o.dst rc.d, updB s.2 rc.bs)
def ov (l : List (Oper × Rec)) (S : Nat → Bool) (s0 : S2) : Nat → S2
  | 0 => s0
  | k + 1 => match S k, l[k]? with
    | true, some (o, rc) => app2 o rc (ov l S s0 k)
    | _, _ => ov l S s0 k
section
variable {l : List (Oper × Rec)} {S S' : Nat → Bool} {s0 : S2}
theorem ov_len (m : Nat) : (ov l S s0 m).1.length = s0.1.length := by
  induction m with
  | zero => rfl
  | succ k ih =>
    unfold ov
    split
    · show (setD _ _ _).length = _
      rw [setD_len, ih]
    · exact ih
theorem setD_getD (tm : List DE) (dst : Option Nat) (d : DE) (t : Nat) : (setD tm dst d).getD t .any = if dst = some t ∧ t < tm.length then d else tm.getD t .any := by
  cases dst with
  | none => simp [setD]
  | some k =>
    by_cases e : k = t
    · subst e
      by_cases hk : k < tm.length
      · simp [setD, hk]
      · simp [setD, hk]
    · simp [setD, List.getElem?_set_ne e, e]
/-- A slot holds what its last writer left. -/
theorem ov_slot {t : Nat} (m : Nat) (h : ∀ k, k < m → ∀ o rc, l[k]? = some (o, rc) → o.dst = some t → S k = S' k) : (ov l S s0 m).1.getD t .any = (ov l S' s0 m).1.getD t .any := by
  induction m with
  | zero => rfl
  | succ k ih =>
    have ih' := ih fun i hi => h i (by omega)
    have h1 : ∀ T : Nat → Bool, (ov l T s0 (k + 1)).1.getD t .any = match l[k]? with | some (o, rc) => (if T k = true ∧ o.dst = some t ∧ t < s0.1.length then rc.d else (ov l T s0 k).1.getD t .any) | none => (ov l T s0 k).1.getD t .any := by
      intro T
      cases hl : l[k]? with
      | none =>
        simp only [ov, hl]
        cases T k <;> rfl
      | some q =>
        obtain ⟨o, rc⟩ := q
        simp only [ov, hl]
        cases hT : T k with
        | false => simp
        | true =>
          simp only [app2, setD_getD, ov_len, true_and]
    rw [h1 S, h1 S']
    cases hl : l[k]? with
    | none => exact ih'
    | some q =>
      obtain ⟨o, rc⟩ := q
      simp only
      by_cases hd : o.dst = some t
      · rw [h k (by omega) o rc hl hd, ih']
      · rw [if_neg (fun q => hd q.2.1), if_neg (fun q => hd q.2.1)]; exact ih'
theorem updB_of_not {blk : Nat → DB} {bs : List (Nat × DB)} {b : Nat} (h : b ∉ bs.map (·.1)) : updB blk bs b = blk b := by
  unfold updB
  cases hf : bs.find? (·.1 == b) with
  | none => rfl
  | some q =>
    have e1 : q.1 = b := by simpa using List.find?_some hf
    exact absurd (List.mem_map.2 ⟨q, List.mem_of_find?_eq_some hf, e1⟩) h
theorem updB_of_mem {blk blk' : Nat → DB} {bs : List (Nat × DB)} {b : Nat} (h : b ∈ bs.map (·.1)) : updB blk bs b = updB blk' bs b := by
  unfold updB
  cases hf : bs.find? (·.1 == b) with
  | some q => rfl
  | none =>
    obtain ⟨q, hq, e⟩ := List.mem_map.1 h
    have := List.find?_eq_none.1 hf q hq
    simp [e] at this
theorem ov_block {b : Nat} (m : Nat) (h : ∀ k, k < m → ∀ o rc, l[k]? = some (o, rc) → b ∈ rc.bs.map (·.1) → S k = S' k) : (ov l S s0 m).2 b = (ov l S' s0 m).2 b := by
  induction m with
  | zero => rfl
  | succ k ih =>
    have ih' := ih fun i hi => h i (by omega)
    cases hl : l[k]? with
    | none =>
      simp only [ov, hl]
      cases S k <;> cases S' k <;> exact ih'
    | some q =>
      obtain ⟨o, rc⟩ := q
      simp only [ov, hl]
      by_cases hb : b ∈ rc.bs.map (·.1)
      · have := h k (by omega) o rc hl hb
        rw [this]
        cases S' k with
        | false => exact ih'
        | true => exact updB_of_mem hb
      · have e1 : ∀ s : S2, (app2 o rc s).2 b = s.2 b := fun s => updB_of_not hb
        cases S k <;> cases S' k <;> simp only [e1] <;> exact ih'
theorem ov_congr (m : Nat) (h : ∀ k, k < m → S k = S' k) : ov l S s0 m = ov l S' s0 m := by
  induction m with
  | zero => rfl
  | succ k ih =>
    simp only [ov, h k (by omega), ih fun i hi => h i (by omega)]
theorem ov_stop (m n : Nat) (hmn : m ≤ n) (h : ∀ k, m ≤ k → k < n → S k = false) : ov l S s0 n = ov l S s0 m := by
  induction n with
  | zero => obtain rfl : m = 0 := by omega
            rfl
  | succ k ih =>
    by_cases e : m = k + 1
    · rw [e]
    · have := h k (by omega) (by omega)
      simp only [ov, this]
      exact ih (by omega) fun i h1 h2 => h i h1 (by omega)
end
theorem nxt_s2 (o : Oper) (rc : Rec) (σ : DS) : ((nxt o rc σ).tm, (nxt o rc σ).blk) = app2 o rc (σ.tm, σ.blk) ∧ (nxt o rc σ).clk = σ.clk + 64 := by
  unfold nxt app2 Rec.d Rec.bs
  cases rc.run with
  | true =>
    simp only [if_true]
    refine ⟨?_, rfl⟩
    rw [show (rc.δ.app o.dst σ).blk = updB σ.blk rc.δ.bs from blk_app σ rc.δ.bs _ _ _]
    rfl
  | false =>
    simp only [Bool.false_eq_true, if_false]
    exact ⟨rfl, rfl⟩
/-- The states along the text. -/
theorem tr_at {P : Program} {Γ : FuncId → Option Ca} {ops : List Oper} : ∀ (l : List (Oper × Rec)) (σ : DS), TrOk P Γ ops l σ → ∀ i o rc, l[i]? = some (o, rc) →
    ∃ σi : DS, (σi.tm, σi.blk) = ov l (fun _ => true) (σ.tm, σ.blk) i ∧ σi.clk = σ.clk + 64 * i ∧ GateOk ops o σi.tm rc.run ∧ (rc.run = true → Val1 P Γ o σi.clk (σi.view o.op) rc.δ) ∧ (feet ops l σ)[i]? = some (footAt ops o rc σi)
  | [], σ, _, i, o, rc, h => by simp at h
  | (o0, rc0) :: l, σ, ht, 0, o, rc, h => by
    simp only [List.getElem?_cons_zero, Option.some.injEq, Prod.mk.injEq] at h
    obtain ⟨rfl, rfl⟩ := h
    exact ⟨σ, rfl, by omega, ht.1, ht.2.1, rfl⟩
  | (o0, rc0) :: l, σ, ht, i + 1, o, rc, h => by
    obtain ⟨σi, h1, h2, h3, h4, h5⟩ := tr_at l (nxt o0 rc0 σ) ht.2.2 i o rc (by simpa using h)
    obtain ⟨n1, n2⟩ := nxt_s2 o0 rc0 σ
    refine ⟨σi, ?_, by rw [h2, n2]; omega, h3, h4, by simpa [feet] using h5⟩
    rw [h1, n1]
    clear h h1 h2 h3 h4 h5 ht
    have key : ∀ m, ov l (fun _ => true) (app2 o0 rc0 (σ.tm, σ.blk)) m = ov ((o0, rc0) :: l) (fun _ => true) (σ.tm, σ.blk) (m + 1) := by
      intro m
      induction m with
      | zero => rfl
      | succ k ih =>
        simp only [ov, List.getElem?_cons_succ] at ih ⊢
        rw [ih]
    exact key i
theorem fin_s2 : ∀ (l : List (Oper × Rec)) (σ : DS), ((finS l σ).tm, (finS l σ).blk) = ov l (fun _ => true) (σ.tm, σ.blk) l.length ∧ (finS l σ).clk = σ.clk + 64 * l.length
  | [], σ => ⟨rfl, by simp [finS]⟩
  | (o0, rc0) :: l, σ => by
    obtain ⟨h1, h2⟩ := fin_s2 l (nxt o0 rc0 σ)
    obtain ⟨n1, n2⟩ := nxt_s2 o0 rc0 σ
    refine ⟨?_, by show (finS l (nxt o0 rc0 σ)).clk = _; rw [h2, n2, List.length_cons]; omega⟩
    show ((finS l (nxt o0 rc0 σ)).tm, (finS l (nxt o0 rc0 σ)).blk) = _
    rw [h1, n1]
    have key : ∀ m, ov l (fun _ => true) (app2 o0 rc0 (σ.tm, σ.blk)) m = ov ((o0, rc0) :: l) (fun _ => true) (σ.tm, σ.blk) (m + 1) := by
      intro m
      induction m with
      | zero => rfl
      | succ k ih =>
        simp only [ov, List.getElem?_cons_succ] at ih ⊢
        rw [ih]
    exact key l.length
end Go.Proofs.Ytfdpbfdhcngfgaa
