/- A region's operations, in the text's order. -/
import Derived.Test.YtfdpbfdhcngfgaaOpsC
import Derived.Laws.Cover3
namespace Go.Proofs.Ytfdpbfdhcngfgaa
open Go.RowKit
set_option linter.unusedVariables false
set_option linter.unusedSimpArgs false
theorem blk_app (σ : DS) (bs : List (Nat × DB)) (tm : List DE) (c : Nat) (oc : Orc) : DS.blk ⟨tm, bs ++ σ.bl, c, oc⟩ = updB σ.blk bs := by
  funext b
  unfold DS.blk updB
  simp only [List.find?_append]
  cases h : bs.find? (·.1 == b) <;> simp
theorem view_ok (σ : DS) (o : Op) : VOk (σ.view o) σ.tm σ.blk := by
  refine ⟨fun t => ?_, fun b => ?_⟩
  · simp only [DS.view]; split
    · exact .inl rfl
    · exact .inr rfl
  · simp only [DS.view]; split
    · exact .inl rfl
    · exact .inr rfl
theorem fview_ok (σ : DS) : VOk σ.fview σ.tm σ.blk := ⟨fun t => .inl rfl, fun b => .inl rfl⟩
/-- What the run's state says. -/
def HS (base : Nat) (w0 : World) (ok0 : Nat → Prop) (σ : DS) (ρ : Nat → Value) (a : Act) (w : World) : Prop := HR base w0 ok0 (fun n => n < σ.clk) σ.tm σ.blk ρ a w
theorem obsF_iff {obs : List Prop} {F : Prop} : obsF obs F → (∀ p ∈ obs, p) ∧ F := by
  induction obs with
  | nil => exact fun h => ⟨fun p hp => (by cases hp), h⟩
  | cons p l ih =>
    rintro ⟨h1, h2⟩
    obtain ⟨h3, h4⟩ := ih h2
    refine ⟨fun q hq => ?_, h4⟩
    rcases List.mem_cons.1 hq with rfl | hq
    · exact h1
    · exact h3 q hq
section
variable {P : Program} {base : Nat} {w0 : World} {ok0 : Nat → Prop} {Γ : FuncId → Option Ca}
/-- What is asked of a way to walk into calls. -/
def InlOk (P : Program) (inl : Inl) : Prop := ∀ (base : Nat) (w0 : World) (ok0 : Nat → Prop) (f : FuncId) (args : List DE) (σ : DS) (K : DE → DS → Prop) (ρ : Nat → Value) (a : Act) (w : World) (cargs : Array Value),
  Ent P f → inl f args σ K → HS base w0 ok0 σ ρ a w → cargs.size = args.length → (∀ i, i < args.length → RD w (okF base ok0 σ.blk ρ) ρ σ.blk (fun n => n < σ.clk) (args.getD i .any) (cargs.getD i undef)) →
  Calls P f cargs w fun e w' => ∃ v, e = .returned v ∧ ∃ d σ' ρ', K d σ' ∧ HS base w0 ok0 σ' ρ' a w' ∧ RD w' (okF base ok0 σ'.blk ρ') ρ' σ'.blk (fun n => n < σ'.clk) d v
theorem newI_clk {c n : Nat} (h : NewI (fun n => n < c) c n) : n < c + 64 := by
  rcases h with h | h
  · have : n < c := h; omega
  · omega
/-- One operation, by the run. -/
theorem stepF_sound {inl : Inl} (hinl : InlOk P inl) {dr : Bool} {hint : Option Bool} {o : Oper} {σ : DS} {K : List (Nat × DB) → DS → Prop} (hs : stepF P Γ inl dr hint o σ K) {ρ : Nat → Value} {a : Act} {w : World} (h : HS base w0 ok0 σ ρ a w) {Q : Exit → Act → World → Prop} {N : Act → World → Prop}
    (hN : ∀ bs σ' ρ' a' w', K bs σ' → HS base w0 ok0 σ' ρ' a' w' → (∀ t, o.dst ≠ some t → a'.tmps[t]? = a.tmps[t]?) → N a' w') : o.wp P a w N Q := by
  have hput : ∀ v t, o.dst ≠ some t → (a.put o.dst v).tmps[t]? = a.tmps[t]? := fun v t ht => by
    cases hd : o.dst with
    | none => rfl
    | some d =>
      have : d ≠ t := fun e => ht (by rw [hd, e])
      simp [Act.put, Array.getElem?_setIfInBounds_ne this]
  have hgoes : ∀ (oc : Orc) δ, Goes P base w0 ok0 (fun n => n < σ.clk) σ.tm σ.blk σ.clk a w o δ → K δ.bs (δ.app o.dst { σ with orc := oc }) → o.wp P a w N Q := fun oc δ hg hk => by
    refine hg N Q fun ρ' v w' h' => ?_
    refine hN _ _ ρ' _ w' hk ?_ (hput v)
    show HR base w0 ok0 _ _ _ ρ' _ w'
    rw [show (δ.app o.dst { σ with orc := oc }).blk = updB σ.blk δ.bs from blk_app σ δ.bs _ _ _]
    exact h'.same (fun n hn => newI_clk hn) w' rfl rfl rfl rfl
  have hgo : ∀ δ, Val1 P Γ o σ.clk (σ.view o.op) δ → K δ.bs (δ.app o.dst σ) → o.wp P a w N Q := fun δ hv hk => by
    refine op_sound1 (view_ok σ o.op) h (fun n h1 h2 => by simp; omega) hv N Q fun ρ' v w' h' => ?_
    refine hN _ _ ρ' _ w' hk ?_ (hput v)
    show HR base w0 ok0 _ _ _ ρ' _ w'
    rw [show (δ.app o.dst σ).blk = updB σ.blk δ.bs from blk_app σ δ.bs _ _ _]
    exact h'.same (fun n hn => newI_clk hn) w' rfl rfl rfl rfl
  unfold stepF at hs
  split at hs
  · rename_i f args he
    split at hs
    · exact hs.elim
    · obtain ⟨hent, hk⟩ := hs
      -- the call
      have hcall : ∃ g cargs ts caps, o.op = .call { callee := .value g, args := cargs, argTypes := ts } ∧ (σ.view o.op).ev g = .fn f caps ∧ args = cargs.toList.map (σ.view o.op).ev ++ caps := by
        generalize σ.view o.op = V at he
        unfold inlOf at he
        split at he
        · rename_i g cargs ts ho
          split at he
          · rename_i f' caps hf
            split at he
            · simp only [Option.some.injEq, Prod.mk.injEq] at he
              obtain ⟨rfl, rfl⟩ := he
              exact ⟨g, cargs, ts, caps, ho, hf, rfl⟩
            · cases he
          · cases he
        · cases he
      obtain ⟨g, cargs, ts, caps, ho, hg, rfl⟩ := hcall
      have hx := ev_ok (view_ok σ o.op) h g
      rw [hg] at hx
      generalize hu : a.eval g = u at hx
      cases hx with
      | fn _ _ vs hl hc =>
        obtain ⟨a1, a2⟩ := args_ok (args := cargs) (view_ok σ o.op) h hl hc
        unfold Oper.wp
        rw [run_call ho hu hent, Oper.upon_enter]
        refine (hinl base w0 ok0 f _ σ _ ρ a w _ hent hk h a1 a2).mono ?_
        rintro e w' ⟨v, rfl, d, σ', ρ', hk', h', hd⟩
        refine hN _ _ ρ' _ w' hk' ?_ (hput v)
        exact (h'.put o.dst hd σ'.clk w' rfl rfl rfl rfl).same (fun n hn => newI_clk hn) w' rfl rfl rfl rfl
  split at hs
  · rename_i x b hno
    split at hs
    · exact hs.elim
    · have hop : ∃ op t y qt, o.op = .binOp op t x y qt ∧ isNilSl ((σ.view o.op).ev y) = true ∧ (∃ e, P.underlying t = some (.slice e)) ∧ ((op = .eql ∧ b = true) ∨ (op = .neq ∧ b = false)) := by
        generalize σ.view o.op = V at hno
        unfold nilOf at hno
        split at hno
        · rename_i op t x' y qt ho
          split at hno
          · rename_i hy
            split at hno
            · rename_i e hu
              simp only [Option.some.injEq, Prod.mk.injEq] at hno
              obtain ⟨rfl, rfl⟩ := hno
              exact ⟨.eql, t, y, qt, ho, hy, ⟨e, hu⟩, .inl ⟨rfl, rfl⟩⟩
            · rename_i e hu
              simp only [Option.some.injEq, Prod.mk.injEq] at hno
              obtain ⟨rfl, rfl⟩ := hno
              exact ⟨.neq, t, y, qt, ho, hy, ⟨e, hu⟩, .inr ⟨rfl, rfl⟩⟩
            · cases hno
          · cases hno
        · cases hno
      obtain ⟨op, t, y, qt, ho, hy, ⟨e, hu⟩, hob⟩ := hop
      have hyv : a.eval y = .slice none 0 0 := by
        have hr := ev_ok (view_ok σ o.op) h y
        generalize a.eval y = u at hr
        generalize (σ.view o.op).ev y = d at hr hy
        unfold isNilSl at hy
        split at hy
        · cases hr; rfl
        · cases hr; rfl
        · cases hy
      have hrun : ∀ A n c, a.eval x = .slice A n c → (execOp a.eval o).run P w = .ok (.value (.bool (if A.isNone then b else !b))) w := fun A n c hx => by
        rcases hob with ⟨rfl, rfl⟩ | ⟨rfl, rfl⟩
        · cases A <;> simp [execOp, ho, eqGuard, binOp, hx, hyv, Go.run_equal_slice_nil w t e _ _ _ hu]
        · cases A <;> simp [execOp, ho, eqGuard, binOp, hx, hyv, Go.run_equal_slice_nil w t e _ _ _ hu]
      have hx := ev_ok (view_ok σ o.op) h x
      split at hs
      · rename_i he
        rw [he] at hx
        have hxv : a.eval x = .slice none 0 0 := by generalize a.eval x = u at hx; cases hx; rfl
        exact hgoes σ.orc ⟨.c (.bool b), []⟩ (goes_val h (by simpa using hrun none 0 0 hxv) (.c _)) hs
      · split at hs
        · rename_i z hz
          have hrv := pc_ok' (view_ok σ o.op) h hx hz
          rcases hs with ⟨⟨s, L, rfl⟩, h2, h3⟩ | ⟨rfl, h2⟩
          rotate_left
          · exact hgoes _ ⟨.c (.bool b), []⟩ (goes_val h (by simpa using hrun none 0 0 (RV.lit_iff.1 hrv)) (.c _)) h2
          generalize hq : a.eval x = u at hrv
          cases hrv with
          | sl _ _ A n c us hn hnc hc hs' hA hone hu' =>
            cases A with
            | none =>
              have hL : L = [] := by
                cases n with
                | zero => exact List.length_eq_zero_iff.1 hn
                | succ n => obtain ⟨_, _, q, _⟩ := hA (by omega); cases q
              exact hgoes _ ⟨.c (.bool b), []⟩ (goes_val h (by simpa using hrun none n c hq) (.c _)) (h2 hL)
            | some ad => exact hgoes _ ⟨.c (.bool (!b)), []⟩ (goes_val h (by simpa using hrun (some ad) n c hq) (.c _)) h3
        · exact hs.elim
  · split at hs
    · exact hs.elim
    · rename_i obs δ he
      obtain ⟨h1, h2⟩ := obsF_iff hs
      exact hgo δ ⟨hint, by unfold Valid; rw [he]; exact ⟨h1, rfl⟩⟩ h2
    · rename_i ob δ he
      obtain ⟨r, h1, h2⟩ := hs
      exact hgo (δ r) ⟨hint, by unfold Valid; rw [he]; exact ⟨r, h1, rfl⟩⟩ h2
theorem lookup_mem {j : Nat} {b : Bool} : ∀ {l : List (Nat × Bool)}, l.lookup j = some b → (j, b) ∈ l
  | [], h => by cases h
  | (k, c) :: l, h => by
    simp only [List.lookup_cons] at h
    split at h
    · rename_i e
      have e1 : j = k := by simpa using e
      simp only [Option.some.injEq] at h
      subst e1 h
      exact List.mem_cons_self ..
    · exact List.mem_cons_of_mem _ (lookup_mem h)
/-- The guards that are decided are so. -/
def DecOk (ops : List Oper) (dec : List (Nat × Bool)) (tmps : Array Value) : Prop := ∀ j b, (j, b) ∈ dec → yielded ops.toArray tmps j = some b
theorem yielded_slot {ops : List Oper} {tmps : Array Value} {j t : Nat} (h : slotOf ops j = some t) : yielded ops.toArray tmps j = match tmps[t]? with | some (.bool b) => some b | _ => none := by
  unfold yielded
  have : ((ops.toArray[j]?).bind (·.dst)) = some t := by simpa [slotOf] using h
  rw [this]
  rfl
/-- A choice, whatever was told ahead. -/
theorem decF_both {σ : DS} {x : AV} {A B : DS → Prop} (h : decF σ x A B) : x.isBool ∧ (x.tru = true → ∃ oc, A { σ with orc := oc }) ∧ (x.tru = false → ∃ oc, B { σ with orc := oc }) := by
  unfold decF at h
  split at h
  · exact ⟨h.1, fun _ => ⟨_, h.2.2⟩, fun e => by have h2 : x.tru = true := h.2.1; rw [e] at h2; cases h2⟩
  · exact ⟨h.1, fun e => (by have h2 : x.tru = false := h.2.1; rw [e] at h2; cases h2), fun _ => ⟨_, h.2.2⟩⟩
  · exact ⟨h.1, fun e => ⟨_, h.2.1 e⟩, fun e => ⟨_, h.2.2 e⟩⟩
  · exact ⟨h.1, fun e => ⟨σ.orc, h.2.1 e⟩, fun e => ⟨σ.orc, h.2.2 e⟩⟩
theorem gate_sound {ops : List Oper} {dec : List (Nat × Bool)} {o : Oper} {σ : DS} {G : DS → List (Nat × Bool) → Bool → Prop} (hg : gateF ops dec o σ G) {ρ : Nat → Value} {a : Act} {w : World} (h : HS base w0 ok0 σ ρ a w) (hd : DecOk ops dec a.tmps) :
    ∃ oc dec' run, G { σ with orc := oc } dec' run ∧ Region.wanted o (yielded ops.toArray a.tmps) = run ∧ DecOk ops dec' a.tmps := by
  unfold gateF at hg
  unfold Region.wanted
  split at hg
  · rename_i hgd
    rw [hgd]
    exact ⟨σ.orc, dec, true, hg, rfl, hd⟩
  · rename_i j want hgd
    rw [hgd]
    simp only
    split at hg
    · exact hg.elim
    · rename_i t ht
      split at hg
      · rename_i b hb
        refine ⟨σ.orc, dec, _, hg, ?_, hd⟩
        rw [hd j b (lookup_mem hb)]
        cases b <;> cases want <;> rfl
      · have hy := yielded_slot (tmps := a.tmps) ht
        have hr := h.tms t
        have hval : ∀ b, a.tmps.getD t undef = .bool b → yielded ops.toArray a.tmps j = some b := fun b hb => by
          rw [hy]
          rw [Array.getD_eq_getD_getElem?] at hb
          cases hq : a.tmps[t]? with
          | none => rw [hq] at hb; cases hb
          | some v => rw [hq] at hb; simp only [Option.getD_some] at hb; rw [hb]
        split at hg
        · rename_i b hk
          rw [hk] at hr
          generalize hu : a.tmps.getD t undef = u at hr
          cases hr
          refine ⟨σ.orc, dec, _, hg, ?_, hd⟩
          rw [hval b hu]
          cases b <;> cases want <;> rfl
        · rename_i q hk
          rw [hk] at hr
          generalize hu : a.tmps.getD t undef = u at hr
          cases hr
          refine ⟨σ.orc, dec, false, hg, ?_, hd⟩
          have : yielded ops.toArray a.tmps j = none := by
            rw [hy]
            rw [Array.getD_eq_getD_getElem?] at hu
            cases hq : a.tmps[t]? with
            | none => rfl
            | some v => rw [hq] at hu; simp only [Option.getD_some] at hu; rw [hu]
          rw [this]
          rfl
        · rename_i x hk
          obtain ⟨h1, h2, h3⟩ := decF_both hg
          rw [hk] at hr
          generalize hu : a.tmps.getD t undef = u at hr
          cases hr with
          | v _ _ hv =>
            have hb := rv_bool hv h1
            rw [hb] at hu
            have hyb := hval _ hu
            have hd' : DecOk ops ((j, x.tru) :: dec) a.tmps := fun j' b' hm => by
              rcases List.mem_cons.1 hm with e | e
              · injection e with e1 e2; rw [e1, e2]; exact hyb
              · exact hd j' b' e
            cases hx : x.tru with
            | true =>
              rw [hx] at hd' hyb
              obtain ⟨oc, h2⟩ := h2 hx
              exact ⟨oc, _, _, h2, by rw [hyb]; cases want <;> rfl, hd'⟩
            | false =>
              rw [hx] at hd' hyb
              obtain ⟨oc, h3⟩ := h3 hx
              exact ⟨oc, _, _, h3, by rw [hyb]; cases want <;> rfl, hd'⟩
        · exact hg.elim
theorem still_ok {ops : List Oper} {dec : List (Nat × Bool)} {o : Oper} {tmps tmps' : Array Value} (hd : DecOk ops dec tmps) (ht : ∀ t, o.dst ≠ some t → tmps'[t]? = tmps[t]?) : DecOk ops (stillDec ops o dec) tmps' := fun j b hm => by
  have hm' := List.mem_filter.1 hm
  have h1 := hd j b hm'.1
  cases hs : slotOf ops j with
  | none =>
    have : ((ops.toArray[j]?).bind (·.dst)) = none := by simpa [slotOf] using hs
    unfold yielded at h1
    rw [this] at h1; cases h1
  | some t =>
    rw [yielded_slot hs] at h1 ⊢
    have hne : o.dst ≠ some t := fun e => by
      have := hm'.2
      rw [hs, e] at this
      simp at this
    rw [ht t hne]; exact h1
/-- A region, in the text's order. -/
theorem regF_sound {inl : Inl} (hinl : InlOk P inl) {ops : List Oper} {K : DS → Prop} {Q : Exit → Act → World → Prop} (hQ : ∀ σ' ρ' a' w', K σ' → HS base w0 ok0 σ' ρ' a' w' → Q .normal a' w') :
    ∀ (rest : List Oper) (k : Nat) (dec : List (Nat × Bool)) (fs : List Foot) (σ : DS) (ρ : Nat → Value) (a : Act) (w : World), (∀ i, rest[i]? = ops[k + i]?) → regF P Γ inl false ops dec fs rest σ K → HS base w0 ok0 σ ρ a w → DecOk ops dec a.tmps →
      wpOps P ops.toArray Q ((List.range rest.length).map (k + ·)) a w
  | [], k, dec, fs, σ, ρ, a, w, _, hr, h, _ => by
    simp only [regF, Bool.not_false, Bool.true_or, if_true] at hr
    exact hQ σ ρ a w hr h
  | o :: rest, k, dec, fs, σ, ρ, a, w, hl, hr, h, hd => by
    have ho : ops.toArray[k]? = some o := by have := hl 0; simpa using this.symm
    have hl' : ∀ i, rest[i]? = ops[k + 1 + i]? := fun i => by have := hl (i + 1); simpa [Nat.add_assoc, Nat.add_comm 1 i] using this
    have hlist : (List.range (o :: rest).length).map (k + ·) = k :: (List.range rest.length).map (k + 1 + ·) := by
      rw [List.length_cons, List.range_succ_eq_map, List.map_cons, List.map_map]
      congr 1
      apply List.map_congr_left
      intro i _
      simp only [Function.comp, Nat.succ_eq_add_one]; omega
    rw [hlist, wpOps_cons]
    unfold wpOp
    rw [ho]
    simp only
    simp only [regF] at hr
    obtain ⟨oc, dec', run, hG, hw, hd'⟩ := gate_sound hr h hd
    rw [hw]
    cases run with
    | true =>
      simp only [if_true] at hG ⊢
      left
      refine stepF_sound hinl hG (show HS base w0 ok0 { σ with orc := oc } ρ a w from h) fun bs σ' ρ' a' w' hk h' ht => ?_
      exact regF_sound hinl hQ rest (k + 1) _ _ σ' ρ' a' w' hl' hk h' (still_ok hd' ht)
    | false =>
      simp only [Bool.false_eq_true, if_false] at hG ⊢
      have hsk : HS base w0 ok0 (({ σ with orc := oc } : DS).skip o.dst) ρ (a.put o.dst undef) w := by
        have := h.put o.dst (d := .c undef) (.c undef) σ.clk w rfl rfl rfl rfl
        exact this.same (fun n hn => newI_clk hn) w rfl rfl rfl rfl
      refine regF_sound hinl hQ rest (k + 1) _ _ _ ρ _ w hl' hG hsk (still_ok hd' fun t ht => ?_)
      cases hdst : o.dst with
      | none => rfl
      | some d =>
        have : d ≠ t := fun e => ht (by rw [hdst, e])
        simp [Act.put, Array.getElem?_setIfInBounds_ne this]
end
end Go.Proofs.Ytfdpbfdhcngfgaa
