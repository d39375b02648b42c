/- What a run leaves as it was. -/
import Derived.Test.YtfdpbfdhcngfgaaDraw2
namespace Go.Proofs.Ytfdpbfdhcngfgaa
open Go.RowKit
set_option linter.unusedVariables false
set_option linter.unusedSimpArgs false
/-- Blocks are only laid over; no slot comes or goes. -/
def FrB (σ σ' : DS) : Prop := (∃ pre, σ'.bl = pre ++ σ.bl) ∧ σ'.tm.length = σ.tm.length ∧ σ.clk ≤ σ'.clk
def FrT (W : List Nat) (σ σ' : DS) : Prop := ∀ t, t ∉ W → σ'.tm.getD t .any = σ.tm.getD t .any ∨ σ'.tm.getD t .any = .any
theorem FrB.refl (σ : DS) : FrB σ σ := ⟨⟨[], rfl⟩, rfl, Nat.le_refl _⟩
theorem FrB.trans {a b c : DS} (h : FrB a b) (k : FrB b c) : FrB a c := by
  obtain ⟨⟨p, hp⟩, h2, h3⟩ := h
  obtain ⟨⟨q, hq⟩, k2, k3⟩ := k
  exact ⟨⟨q ++ p, by rw [hq, hp, List.append_assoc]⟩, k2.trans h2, Nat.le_trans h3 k3⟩
theorem FrT.refl (W : List Nat) (σ : DS) : FrT W σ σ := fun _ _ => .inl rfl
theorem FrT.trans {W W' : List Nat} {a b c : DS} (h : FrT W a b) (k : FrT W' b c) : FrT (W ++ W') a c := fun t ht => by
  have h1 : t ∉ W := fun x => ht (List.mem_append_left _ x)
  have h2 : t ∉ W' := fun x => ht (List.mem_append_right _ x)
  rcases k t h2 with q | q
  · rw [q]; exact h t h1
  · exact .inr q
theorem FrT.mono {W W' : List Nat} {a b : DS} (h : FrT W a b) (hw : ∀ t ∈ W, t ∈ W') : FrT W' a b := fun t ht => h t fun x => ht (hw t x)
theorem frT_set (σ : DS) (dst : Option Nat) (d : DE) (bl : List (Nat × DB)) (c : Nat) (oc : Orc) : FrT dst.toList σ ⟨setD σ.tm dst d, bl, c, oc⟩ := fun t ht => by
  left
  show (setD σ.tm dst d).getD t .any = _
  rw [setD_getD, if_neg fun q => ht (by rw [q.1]; simp)]
theorem app_set (δ : Delta) (dst : Option Nat) (σ : DS) : δ.app dst σ = ⟨setD σ.tm dst δ.d, δ.bs ++ σ.bl, σ.clk + 64, σ.orc⟩ := by cases dst <;> rfl
theorem skip_set (dst : Option Nat) (σ : DS) : σ.skip dst = ⟨setD σ.tm dst (.c undef), σ.bl, σ.clk + 64, σ.orc⟩ := by cases dst <;> rfl
/-- What is asked of a way to walk into calls, beside. -/
def InlFr (inl : Inl) : Prop := ∀ (f : FuncId) (args : List DE) (σ : DS) (K K' : DE → DS → Prop), inl f args σ K → (∀ d σ', K d σ' → FrB σ σ' → σ'.tm = σ.tm → K' d σ') → inl f args σ K'
section
variable {P : Program} {Γ : FuncId → Option Ca} {inl : Inl}
theorem obsF_mono {obs : List Prop} {F F' : Prop} (h : obsF obs F) (hf : F → F') : obsF obs F' := by
  induction obs with
  | nil => exact hf h
  | cons p l ih => exact ⟨h.1, ih h.2⟩
theorem stepF_mono (hinl : InlFr inl) {dr : Bool} {hint : Option Bool} {o : Oper} {σ : DS} {K K' : List (Nat × DB) → DS → Prop} (h : stepF P Γ inl dr hint o σ K) (hK : ∀ bs σ', K bs σ' → FrB σ σ' → FrT o.dst.toList σ σ' → K' bs σ') : stepF P Γ inl dr hint o σ K' := by
  unfold stepF at h ⊢
  split at h
  · rename_i f args he
    split at h
    · exact h.elim
    · rename_i hd
      rw [if_neg hd]
      refine ⟨h.1, hinl _ _ _ _ _ h.2 fun d σ' hk hb ht => hK _ _ hk ?_ ?_⟩
      · obtain ⟨⟨p, hp⟩, h2, h3⟩ := hb
        refine ⟨⟨p, hp⟩, ?_, by show σ.clk ≤ σ'.clk + 64; omega⟩
        show (match o.dst with | some t => σ'.tm.set t d | none => σ'.tm).length = _
        cases o.dst <;> simp [h2]
      · have : ({ σ'.put o.dst d with clk := σ'.clk + 64 } : DS) = ⟨setD σ.tm o.dst d, σ'.bl, σ'.clk + 64, σ'.orc⟩ := by
          cases hdst : o.dst <;> simp [DS.put, setD, ht]
        rw [this]
        exact frT_set σ o.dst d _ _ _
  · have happ0 : ∀ (oc : Orc) (δ : Delta), FrB σ (δ.app o.dst { σ with orc := oc }) ∧ FrT o.dst.toList σ (δ.app o.dst { σ with orc := oc }) := fun oc δ => by
      rw [app_set]
      exact ⟨⟨⟨δ.bs, rfl⟩, setD_len _ _ _, by show σ.clk ≤ σ.clk + 64; omega⟩, frT_set σ o.dst δ.d _ _ _⟩
    have happ := happ0 σ.orc
    split at h
    · split at h
      · exact h.elim
      · rename_i hd
        rw [if_neg hd]
        split at h
        · exact hK _ _ h (happ _).1 (happ _).2
        · split at h
          · exact h.elim (fun h => .inl ⟨h.1, fun q => hK _ _ (h.2.1 q) (happ0 _ _).1 (happ0 _ _).2, hK _ _ h.2.2 (happ0 _ _).1 (happ0 _ _).2⟩) fun h => .inr ⟨h.1, hK _ _ h.2 (happ0 _ _).1 (happ0 _ _).2⟩
          · exact h.elim
    split at h
    · exact h.elim
    · rename_i obs δ he
      exact obsF_mono h fun hk => hK _ _ hk (happ δ).1 (happ δ).2
    · rename_i ob δ he
      obtain ⟨r, h1, h2⟩ := h
      exact ⟨r, h1, hK _ _ h2 (happ (δ r)).1 (happ (δ r)).2⟩
theorem decF_mono {σ : DS} {x : AV} {A B A' B' : DS → Prop} (h : decF σ x A B) (hA : ∀ oc, A { σ with orc := oc } → A' { σ with orc := oc }) (hB : ∀ oc, B { σ with orc := oc } → B' { σ with orc := oc }) : decF σ x A' B' := by
  unfold decF at h ⊢
  split at h
  · exact ⟨h.1, h.2.1, hA _ h.2.2⟩
  · exact ⟨h.1, h.2.1, hB _ h.2.2⟩
  · exact ⟨h.1, fun e => hA _ (h.2.1 e), fun e => hB _ (h.2.2 e)⟩
  · exact ⟨h.1, fun e => hA σ.orc (h.2.1 e), fun e => hB σ.orc (h.2.2 e)⟩
theorem gateF_mono {ops : List Oper} {dec : List (Nat × Bool)} {o : Oper} {σ : DS} {G G' : DS → List (Nat × Bool) → Bool → Prop} (h : gateF ops dec o σ G) (hG : ∀ oc d r, G { σ with orc := oc } d r → G' { σ with orc := oc } d r) : gateF ops dec o σ G' := by
  unfold gateF at h ⊢
  split at h
  · exact hG σ.orc _ _ h
  · split at h
    · exact h
    · split at h
      · exact hG σ.orc _ _ h
      · split at h
        · exact hG σ.orc _ _ h
        · exact hG σ.orc _ _ h
        · exact decF_mono h (fun oc q => hG oc _ _ q) (fun oc q => hG oc _ _ q)
        · exact h
theorem regF_mono (hinl : InlFr inl) {dr : Bool} {ops : List Oper} {K K' : DS → Prop} : ∀ (rest : List Oper) (dec : List (Nat × Bool)) (fs : List Foot) (σ : DS), regF P Γ inl dr ops dec fs rest σ K → (∀ σ', K σ' → FrB σ σ' → FrT (rest.filterMap (·.dst)) σ σ' → K' σ') → regF P Γ inl dr ops dec fs rest σ K'
  | [], dec, fs, σ, h, hK => by
    simp only [regF] at h ⊢
    split at h
    · rename_i hc; rw [if_pos hc]; exact hK σ h (FrB.refl σ) (FrT.refl _ σ)
    · exact h.elim
  | o :: rest, dec, fs, σ, h, hK => by
    have hmem : ∀ t ∈ o.dst.toList ++ rest.filterMap (·.dst), t ∈ (o :: rest).filterMap (·.dst) := fun t ht => by
      rw [List.filterMap_cons]
      cases hd : o.dst with
      | none => rw [hd] at ht; simpa using ht
      | some k => rw [hd] at ht; simpa using ht
    simp only [regF] at h ⊢
    refine gateF_mono h fun oc d r hg => ?_
    split at hg
    · rename_i hr
      rw [if_pos hr]
      exact stepF_mono hinl hg fun bs σ' hk hb ht => regF_mono hinl rest _ _ σ' hk fun σ2 hk2 hb2 ht2 => hK σ2 hk2 (hb.trans hb2) ((ht.trans ht2).mono hmem)
    · rename_i hr
      rw [if_neg hr]
      refine regF_mono hinl rest _ _ _ hg fun σ2 hk2 hb2 ht2 => hK σ2 hk2 (FrB.trans ?_ hb2) ((FrT.trans ?_ ht2).mono hmem)
      · rw [skip_set]; exact ⟨⟨[], rfl⟩, setD_len _ _ _, by show σ.clk ≤ σ.clk + 64; omega⟩
      · rw [skip_set]; exact frT_set σ o.dst _ _ _ _
/-- How a code may end. -/
def Ends (c : Code) (e : Exit) : Prop := (Code.noExit c = true → e = .normal ∨ e = .ret) ∧ (Code.noExit c = true → Code.rets c = true → e = .ret)
theorem head_frB (A : LoopAnn) (σ : DS) (ys : List AV) : FrB σ (A.head σ ys) := ⟨⟨_, rfl⟩, by simp [LoopAnn.head], Nat.le_refl _⟩
theorem head_tm (A : LoopAnn) (σ : DS) (ys : List AV) (t : Nat) (ht : t < σ.tm.length) : (A.head σ ys).tm.getD t .any = A.tm ys t (σ.tm.getD t .any) := by
  simp only [LoopAnn.head, List.getD_eq_getElem?_getD, List.getElem?_map, List.getElem?_zipIdx, List.getElem?_eq_getElem ht]
  simp
theorem auto_vs {ex : LoopEx} {W : List Nat} {σ : DS} {t : Nat} (h : t ∈ (autoAnn ex W σ).vs) : t ∈ W := by
  have := (List.mem_filter.1 h).1
  exact List.mem_eraseDups.1 this
theorem rowify1_fr (σ : DS) (q : Nat × Nat × TypeId × Nat) : FrB σ (rowify1 σ q) ∧ (rowify1 σ q).tm = σ.tm := by
  unfold rowify1
  split
  · split
    · exact ⟨⟨⟨[_, _], rfl⟩, rfl, by show σ.clk ≤ σ.clk + 64; omega⟩, rfl⟩
    · exact ⟨FrB.refl σ, rfl⟩
  · exact ⟨FrB.refl σ, rfl⟩
theorem rowify_fr : ∀ (l : List (Nat × Nat × TypeId × Nat)) (σ : DS), FrB σ (rowify l σ) ∧ (rowify l σ).tm = σ.tm
  | [], σ => ⟨FrB.refl σ, rfl⟩
  | q :: l, σ => by
    obtain ⟨h1, h2⟩ := rowify1_fr σ q
    obtain ⟨h3, h4⟩ := rowify_fr l (rowify1 σ q)
    exact ⟨h1.trans h3, h4.trans h2⟩
theorem frzSlot_fr (σ : DS) (t : Nat) : FrB σ (frzSlot σ t) ∧ ∀ t', t' ≠ t → (frzSlot σ t).tm.getD t' .any = σ.tm.getD t' .any := by
  have hset : ∀ d, ∀ t', t' ≠ t → (σ.tm.set t d).getD t' .any = σ.tm.getD t' .any := fun d t' h => by
    simp only [List.getD_eq_getElem?_getD]
    rw [List.getElem?_set_ne (fun e => h e.symm)]
  unfold frzSlot
  split
  · split
    · split
      · exact ⟨⟨⟨[_], rfl⟩, by simp, Nat.le_refl _⟩, hset _⟩
      · exact ⟨FrB.refl σ, fun _ _ => rfl⟩
    · split
      · exact ⟨⟨⟨[], rfl⟩, by simp, Nat.le_refl _⟩, hset _⟩
      · exact ⟨FrB.refl σ, fun _ _ => rfl⟩
    · exact ⟨FrB.refl σ, fun _ _ => rfl⟩
  · exact ⟨FrB.refl σ, fun _ _ => rfl⟩
theorem frzBlk_fr (σ : DS) (t : Nat) : FrB σ (frzBlk σ t) ∧ (frzBlk σ t).tm = σ.tm := by
  unfold frzBlk
  split
  · exact ⟨⟨⟨_, rfl⟩, rfl, Nat.le_refl _⟩, rfl⟩
  · exact ⟨FrB.refl σ, rfl⟩
theorem rebind_fr (σ : DS) (t b0 : Nat) : FrB σ (rebind σ t b0) ∧ ∀ t', t' ≠ t → (rebind σ t b0).tm.getD t' .any = σ.tm.getD t' .any := by
  unfold rebind
  split
  · split
    · exact ⟨FrB.refl σ, fun _ _ => rfl⟩
    · split
      · split
        · refine ⟨⟨⟨[_, _], rfl⟩, by simp, by show σ.clk ≤ σ.clk + 64; omega⟩, fun t' h => ?_⟩
          simp only [List.getD_eq_getElem?_getD]
          rw [List.getElem?_set_ne (fun e => h e.symm)]
        · exact ⟨FrB.refl σ, fun _ _ => rfl⟩
      · exact ⟨FrB.refl σ, fun _ _ => rfl⟩
  · exact ⟨FrB.refl σ, fun _ _ => rfl⟩
theorem map_drop (l : List DE) (b c t : Nat) : (l.map (dropB b c)).getD t .any = dropB b c (l.getD t .any) := by
  rw [List.getD_eq_getElem?_getD, List.getD_eq_getElem?_getD, List.getElem?_map]
  cases l[t]? with
  | none => rfl
  | some d => rfl
theorem rebindP_fr (σ : DS) (t b0 : Nat) : FrB σ (rebindP σ t b0) ∧ ∀ t', t' ≠ t → (rebindP σ t b0).tm.getD t' .any = σ.tm.getD t' .any ∨ (rebindP σ t b0).tm.getD t' .any = .any := by
  unfold rebindP
  split
  · split
    · split
      · rename_i b o _ _ _ _ _ _
        refine ⟨⟨⟨[_, _], rfl⟩, by simp, Nat.le_refl _⟩, fun t' h => ?_⟩
        have e : ((σ.tm.map (dropB b b0)).set t (.ptr b0 o)).getD t' .any = dropB b b0 (σ.tm.getD t' .any) := by
          rw [← map_drop]
          simp only [List.getD_eq_getElem?_getD]
          rw [List.getElem?_set_ne (fun e => h e.symm)]
        show ((σ.tm.map (dropB b b0)).set t (.ptr b0 o)).getD t' .any = _ ∨ ((σ.tm.map (dropB b b0)).set t (.ptr b0 o)).getD t' .any = _
        rw [e]
        unfold dropB
        split
        · exact .inl rfl
        · exact .inr rfl
      · exact ⟨FrB.refl σ, fun _ _ => .inl rfl⟩
    · exact ⟨FrB.refl σ, fun _ _ => .inl rfl⟩
  · exact ⟨FrB.refl σ, fun _ _ => .inl rfl⟩
theorem frzQ_fr (W : List Nat) (σ : DS) (q : Nat × Nat × TypeId × Nat) : FrB σ (frzQ W σ q) ∧ FrT W σ (frzQ W σ q) := by
  unfold frzQ
  split
  · split
    · exact ⟨(frzBlk_fr σ q.1).1, fun t _ => .inl (by rw [(frzBlk_fr σ q.1).2])⟩
    · split
      · rename_i hc
        split
        · exact ⟨(rebind_fr σ q.1 _).1, fun t ht => .inl ((rebind_fr σ q.1 _).2 t fun e => ht (by rw [e]; simpa using hc))⟩
        · split
          · exact ⟨(rebindP_fr σ q.1 _).1, fun t ht => (rebindP_fr σ q.1 _).2 t fun e => ht (by rw [e]; simpa using hc)⟩
          · exact ⟨(frzSlot_fr σ q.1).1, fun t ht => .inl ((frzSlot_fr σ q.1).2 t fun e => ht (by rw [e]; simpa using hc))⟩
      · exact ⟨FrB.refl σ, FrT.refl _ σ⟩
  · exact ⟨FrB.refl σ, FrT.refl _ σ⟩
theorem frzSlots_fr (W : List Nat) : ∀ (l : List (Nat × Nat × TypeId × Nat)) (σ : DS), FrB σ (frzSlots W l σ) ∧ FrT W σ (frzSlots W l σ)
  | [], σ => ⟨FrB.refl σ, FrT.refl _ σ⟩
  | q :: l, σ => by
    have h1 := frzQ_fr W σ q
    obtain ⟨h3, h4⟩ := frzSlots_fr W l (frzQ W σ q)
    exact ⟨h1.1.trans h3, (h1.2.trans h4).mono fun t ht => by simpa using ht⟩
theorem frzBox_fr (σ : DS) (t : Nat) : FrB σ (frzBox σ t) ∧ ∀ t', t' ≠ t → (frzBox σ t).tm.getD t' .any = σ.tm.getD t' .any ∨ (frzBox σ t).tm.getD t' .any = .any := by
  unfold frzBox
  split
  · rename_i b ht
    split
    · rename_i ty cs hb
      split
      · rename_i xs hp
        split
        · refine ⟨⟨⟨[_], rfl⟩, by simp, Nat.le_refl _⟩, fun t' h => ?_⟩
          have e : ((σ.tm.map (dropB b b)).set t (.v (AV.mkRef xs))).getD t' .any = dropB b b (σ.tm.getD t' .any) := by
            rw [← map_drop]
            simp only [List.getD_eq_getElem?_getD]
            rw [List.getElem?_set_ne (fun e => h e.symm)]
          show ((σ.tm.map (dropB b b)).set t (.v (AV.mkRef xs))).getD t' .any = _ ∨ ((σ.tm.map (dropB b b)).set t (.v (AV.mkRef xs))).getD t' .any = _
          rw [e]
          unfold dropB
          split
          · exact .inl rfl
          · exact .inr rfl
        · exact ⟨FrB.refl σ, fun _ _ => .inl rfl⟩
      · exact ⟨FrB.refl σ, fun _ _ => .inl rfl⟩
    · exact ⟨FrB.refl σ, fun _ _ => .inl rfl⟩
  · exact ⟨FrB.refl σ, fun _ _ => .inl rfl⟩
theorem boxes_fr : ∀ (l : List Nat) (σ : DS), FrB σ (l.foldl frzBox σ) ∧ FrT l σ (l.foldl frzBox σ)
  | [], σ => ⟨FrB.refl σ, FrT.refl _ σ⟩
  | t :: l, σ => by
    have h1 := frzBox_fr σ t
    obtain ⟨h3, h4⟩ := boxes_fr l (frzBox σ t)
    have h2 : FrT [t] σ (frzBox σ t) := fun t' ht => h1.2 t' (by simpa using ht)
    exact ⟨h1.1.trans h3, (h2.trans h4).mono fun t' ht => by simpa using ht⟩
theorem preFz_fr (dr : Bool) (ops : List Oper) (σ : DS) : FrB σ (preFz dr ops σ) ∧ FrT (boxSrc ops) σ (preFz dr ops σ) := by
  unfold preFz
  split
  · exact ⟨⟨⟨_, rfl⟩, rfl, Nat.le_refl _⟩, fun _ _ => .inl rfl⟩
  · exact boxes_fr _ _
theorem fIter_mono {n : Nat} {X : AV} {ys0 : List AV} {body : AV → List AV → (List AV → Prop) → Prop} {K K' : List AV → Prop} (h : fIter P n X ys0 body K) (hK : ∀ ys, K ys → K' ys) : fIter P n X ys0 body K' := by
  obtain ⟨f, cs, xs, h1, h2, Inv, h3, h4, h5⟩ := h
  exact ⟨f, cs, xs, h1, h2, Inv, h3, h4, fun ys hl hi => hK ys (h5 ys hl hi)⟩
theorem runC_mono (hinl : InlFr inl) {ann : FuncId → Nat → LoopEx} {fid : FuncId} : ∀ (c : Code) (σ : DS) (K K' : Exit → DS → Prop), runC P Γ inl ann fid c σ K → (∀ e σ', K e σ' → FrB σ σ' → (e ≠ .ret → FrT (Code.wr c) σ σ') → Ends c e → K' e σ') → runC P Γ inl ann fid c σ K'
  | .skip, σ, K, K', h, hK => hK _ _ h (FrB.refl σ) (fun _ => FrT.refl _ σ) ⟨fun _ => .inl rfl, fun _ q => (by cases q)⟩
  | .region id ops dr, σ, K, K', h, hK => regF_mono hinl _ _ _ _ h fun σ' hk hb ht => hK _ _ hk ((preFz_fr dr ops.toList σ).1.trans hb) (fun _ => ((preFz_fr dr ops.toList σ).2.trans ht).mono fun t q => by rcases List.mem_append.1 q with q | q; exact List.mem_append_right _ q; exact List.mem_append_left _ q) ⟨fun _ => .inl rfl, fun _ q => (by cases q)⟩
  | .seq a b, σ, K, K', h, hK => by
    refine runC_mono hinl a σ _ _ h fun e σ1 hk hb ht he => ?_
    have hfr : ∀ (e' : Exit) (σ2 : DS), FrT (Code.wr a ++ Code.wr b) σ σ2 → ((Code.rets b && Code.noExit a && Code.noExit b) = true → e' = .ret) → e' ≠ .ret → FrT (Code.wr (.seq a b)) σ σ2 := fun e' σ2 h1 h2 h3 => by
      unfold Code.wr
      split
      · rename_i hc; exact absurd (h2 hc) h3
      · exact h1
    cases e with
    | normal =>
      refine runC_mono hinl b σ1 K K' hk fun e2 σ2 hk2 hb2 ht2 he2 => hK e2 σ2 hk2 (hb.trans hb2) (fun hne => hfr e2 σ2 ((ht (by simp)).trans (ht2 hne)) (fun hc => ?_) hne) ⟨fun hn => ?_, fun hn hr => ?_⟩
      · simp only [Bool.and_eq_true] at hc
        exact he2.2 hc.2 hc.1.1
      · simp only [Code.noExit, Bool.and_eq_true] at hn
        exact he2.1 hn.2
      · simp only [Code.noExit, Bool.and_eq_true] at hn
        simp only [Code.rets, Bool.or_eq_true] at hr
        rcases hr with hr | hr
        · have := he.2 hn.1 hr; cases this
        · exact he2.2 hn.2 hr
    | ret =>
      exact hK _ _ hk hb (fun hne => absurd rfl hne) ⟨fun _ => .inr rfl, fun _ _ => rfl⟩
    | exit i =>
      refine hK _ _ hk hb (fun hne => hfr _ σ1 ((ht hne).mono fun t q => List.mem_append_left _ q) (fun hc => ?_) hne) ⟨fun hn => ?_, fun hn _ => ?_⟩
      · simp only [Bool.and_eq_true] at hc
        rcases he.1 hc.1.2 with q | q <;> cases q
      · simp only [Code.noExit, Bool.and_eq_true] at hn
        rcases he.1 hn.1 with q | q <;> cases q
      · simp only [Code.noExit, Bool.and_eq_true] at hn
        rcases he.1 hn.1 with q | q <;> cases q
    | goto i =>
      refine hK _ _ hk hb (fun hne => hfr _ σ1 ((ht hne).mono fun t q => List.mem_append_left _ q) (fun hc => ?_) hne) ⟨fun hn => ?_, fun hn _ => ?_⟩
      · simp only [Bool.and_eq_true] at hc
        rcases he.1 hc.1.2 with q | q <;> cases q
      · simp only [Code.noExit, Bool.and_eq_true] at hn
        rcases he.1 hn.1 with q | q <;> cases q
      · simp only [Code.noExit, Bool.and_eq_true] at hn
        rcases he.1 hn.1 with q | q <;> cases q
    | panic i =>
      refine hK _ _ hk hb (fun hne => hfr _ σ1 ((ht hne).mono fun t q => List.mem_append_left _ q) (fun hc => ?_) hne) ⟨fun hn => ?_, fun hn _ => ?_⟩
      · simp only [Bool.and_eq_true] at hc
        rcases he.1 hc.1.2 with q | q <;> cases q
      · simp only [Code.noExit, Bool.and_eq_true] at hn
        rcases he.1 hn.1 with q | q <;> cases q
      · simp only [Code.noExit, Bool.and_eq_true] at hn
        rcases he.1 hn.1 with q | q <;> cases q
    | outgrown =>
      refine hK _ _ hk hb (fun hne => hfr _ σ1 ((ht hne).mono fun t q => List.mem_append_left _ q) (fun hc => ?_) hne) ⟨fun hn => ?_, fun hn _ => ?_⟩
      · simp only [Bool.and_eq_true] at hc
        rcases he.1 hc.1.2 with q | q <;> cases q
      · simp only [Code.noExit, Bool.and_eq_true] at hn
        rcases he.1 hn.1 with q | q <;> cases q
      · simp only [Code.noExit, Bool.and_eq_true] at hn
        rcases he.1 hn.1 with q | q <;> cases q
  | .cond cc a b, σ, K, K', h, hK => by
    have ha : ∀ e σ', K e σ' → FrB σ σ' → (e ≠ .ret → FrT (Code.wr a) σ σ') → Ends a e → K' e σ' := fun e σ' hk hb ht he => hK e σ' hk hb (fun hne => (ht hne).mono fun t q => List.mem_append_left _ q) ⟨fun hn => by simp only [Code.noExit, Bool.and_eq_true] at hn; exact he.1 hn.1, fun hn hr => by simp only [Code.noExit, Code.rets, Bool.and_eq_true] at hn hr; exact he.2 hn.1 hr.1⟩
    have hb' : ∀ e σ', K e σ' → FrB σ σ' → (e ≠ .ret → FrT (Code.wr b) σ σ') → Ends b e → K' e σ' := fun e σ' hk hb ht he => hK e σ' hk hb (fun hne => (ht hne).mono fun t q => List.mem_append_right _ q) ⟨fun hn => by simp only [Code.noExit, Bool.and_eq_true] at hn; exact he.1 hn.2, fun hn hr => by simp only [Code.noExit, Code.rets, Bool.and_eq_true] at hn hr; exact he.2 hn.2 hr.2⟩
    simp only [runC] at h ⊢
    split at h
    · exact runC_mono hinl a σ K K' h ha
    · exact runC_mono hinl b σ K K' h hb'
    · exact decF_mono h (fun oc q => runC_mono hinl a _ K K' q ha) (fun oc q => runC_mono hinl b _ K K' q hb')
    · exact h.elim
  | .block id a, σ, K, K', h, hK => by
    simp only [runC] at h ⊢
    refine runC_mono hinl a σ _ _ h fun e σ' hk hb ht he => ?_
    have hnE : ∀ e', Ends (.block id a) e' := fun e' => ⟨fun q => (by cases q), fun q => (by cases q)⟩
    cases e with
    | exit i =>
      simp only at hk ⊢
      split at hk
      · rename_i hi; rw [if_pos hi]; exact hK _ _ hk hb (fun _ => ht (by simp)) (hnE _)
      · rename_i hi; rw [if_neg hi]; exact hK _ _ hk hb (fun _ => ht (by simp)) (hnE _)
    | normal => exact hK _ _ hk hb (fun _ => ht (by simp)) (hnE _)
    | ret => exact hK _ _ hk hb (fun q => absurd rfl q) (hnE _)
    | goto i => exact hK _ _ hk hb (fun _ => ht (by simp)) (hnE _)
    | panic i => exact hK _ _ hk hb (fun _ => ht (by simp)) (hnE _)
    | outgrown => exact hK _ _ hk hb (fun _ => ht (by simp)) (hnE _)
  | .exit id, σ, K, K', h, hK => hK _ _ h (FrB.refl σ) (fun _ => FrT.refl _ σ) ⟨fun q => (by cases q), fun q => (by cases q)⟩
  | .ret, σ, K, K', h, hK => hK _ _ h (FrB.refl σ) (fun _ => FrT.refl _ σ) ⟨fun _ => .inr rfl, fun _ _ => rfl⟩
  | .loop a, σ0, K, K', h, hK0 => by
    simp only [runC] at h ⊢
    obtain ⟨hr0, ht0⟩ := rowify_fr (ann fid (Code.reg1 a)).nils σ0
    generalize rowify (ann fid (Code.reg1 a)).nils σ0 = σ1 at h hr0 ht0 ⊢
    obtain ⟨hr1, ht1⟩ := frzSlots_fr (Code.wr a) (ann fid (Code.reg1 a)).nils σ1
    generalize frzSlots (Code.wr a) (ann fid (Code.reg1 a)).nils σ1 = σ at h hr1 ht1 ⊢
    have hK : ∀ e σ', K e σ' → FrB σ σ' → (e ≠ .ret → FrT (Code.wr (.loop a)) σ σ') → Ends (.loop a) e → K' e σ' := fun e σ' hk hb ht he => hK0 e σ' hk ((hr0.trans hr1).trans hb) (fun hne t htn => by
      rcases ht hne t htn with q | q
      · rcases ht1 t htn with q1 | q1
        · left; rw [q, q1, ht0]
        · right; rw [q, q1]
      · exact .inr q) he
    split at h
    · exact h.elim
    · rename_i xs hx
      split at h
      · rename_i hc
        rw [if_pos hc]
        obtain ⟨Inv, μ, h1, h2⟩ := h
        refine ⟨Inv, μ, h1, fun m ys hl hy => runC_mono hinl a _ _ _ (h2 m ys hl hy) fun e σ' hk hb ht he => ?_⟩
        have hnE : ∀ e', Ends (.loop a) e' := fun e' => ⟨fun q => (by cases q), fun q => (by cases q)⟩
        have hfb : FrB σ σ' := (head_frB _ σ ys).trans hb
        have hft : e ≠ .ret → FrT (Code.wr (.loop a)) σ σ' := fun hne t htn => by
          have htn' : t ∉ Code.wr a := htn
          rcases ht hne t htn' with q | q
          · by_cases hlt : t < σ.tm.length
            · rw [head_tm _ _ _ _ hlt] at q
              unfold LoopAnn.tm at q
              split at q
              · exact .inr q
              · split at q
                · rename_i k hk2
                  have hmem : t ∈ (autoAnn (ann fid (Code.reg1 a)) (Code.wr a) σ).vs := by
                    have := List.isSome_idxOf?.1 (by rw [hk2]; rfl)
                    exact this
                  exact absurd (auto_vs hmem) htn'
                · exact .inl q
            · right
              rw [List.getD_eq_getElem?_getD, List.getElem?_eq_none (by rw [hfb.2.1]; omega)]; rfl
          · exact .inr q
        cases e with
        | normal => exact hk
        | exit i => exact hK _ _ hk hfb hft (hnE _)
        | ret => exact hK _ _ hk hfb hft (hnE _)
        | goto i => exact hK _ _ hk hfb hft (hnE _)
        | panic i => exact hK _ _ hk hfb hft (hnE _)
        | outgrown => exact hK _ _ hk hfb hft (hnE _)
      · exact h.elim
  | .rangeFunc g ps as_ body, σ0, K, K', h, hK0 => by
    simp only [runC] at h ⊢
    obtain ⟨hr0, ht0⟩ := rowify_fr (ann fid (Code.reg1 body)).nils σ0
    generalize rowify (ann fid (Code.reg1 body)).nils σ0 = σ at h hr0 ht0 ⊢
    split at h
    · split at h
      · split at h
        · exact h.elim
        · split at h
          · rename_i hc
            rw [if_pos hc]
            refine fIter_mono h fun ys hk => hK0 .normal _ hk (hr0.trans (head_frB _ σ ys)) (fun _ t _ => ?_) ⟨fun q => (by cases q), fun q => (by cases q)⟩
            by_cases hlt : t < σ.tm.length
            · left
              show (LoopAnn.head _ σ ys).tm.getD t .any = _
              rw [head_tm _ _ _ _ hlt, ht0]
              unfold LoopAnn.tm
              simp
            · right
              show (LoopAnn.head _ σ ys).tm.getD t .any = _
              rw [List.getD_eq_getElem?_getD, List.getElem?_eq_none (by rw [(head_frB _ σ ys).2.1]; omega)]; rfl
          · exact h.elim
      · exact h.elim
    · exact h.elim
  | .scope a, σ, K, K', h, hK => h.elim
  | .label i, σ, K, K', h, hK => h.elim
  | .goto i, σ, K, K', h, hK => h.elim
  | .refuse s, σ, K, K', h, hK => h.elim
end
end Go.Proofs.Ytfdpbfdhcngfgaa
